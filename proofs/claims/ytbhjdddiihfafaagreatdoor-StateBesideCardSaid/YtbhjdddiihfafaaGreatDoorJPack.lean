/- Package archive: Pack. -/
import Derived.Test.YtbhjdddiihfafaaGreatDoorJState2
set_option linter.unusedVariables false
set_option linter.unusedSimpArgs false
namespace Go.Proofs.YtbhjdddiihfafaaGreatDoor
open Go.RowKit Go.Maps

/-- n's bytes, the highest first, k of them. -/
def beP (n : Nat) : Nat → List UInt8
  | 0 => []
  | k + 1 => UInt8.ofNat (n / 256 ^ k % 256) :: beP n k

theorem beP_length (n : Nat) : ∀ k, (beP n k).length = k
  | 0 => rfl
  | k + 1 => by rw [beP, List.length_cons, beP_length n k]

theorem beP_get (n : Nat) : ∀ k i, i < k → (beP n k)[i]? = some (UInt8.ofNat (n / 256 ^ (k - 1 - i) % 256))
  | 0, _, h => by omega
  | k + 1, 0, _ => by simp [beP]
  | k + 1, i + 1, h => by
    rw [beP, List.getElem?_cons_succ, beP_get n k i (by omega)]
    congr 5; omega

theorem beP_val (x k : Nat) : Value.int .u8 ((x : Int) / 2 ^ (8 * k) % 256) = u8 (UInt8.ofNat (x / 256 ^ k % 256)) := by
  unfold u8
  congr 1
  have h1 : x / 256 ^ k % 256 < 256 := Nat.mod_lt _ (by decide)
  have h2 : (UInt8.ofNat (x / 256 ^ k % 256)).toNat = x / 256 ^ k % 256 := by simp
  rw [h2, show (256 : Nat) ^ k = 2 ^ (8 * k) from by rw [Nat.pow_mul]]
  rw [Int.natCast_emod, Int.natCast_ediv, Int.natCast_pow]; rfl

set_option maxHeartbeats 1000000 in
set_option maxRecDepth 100000 in
theorem aPut_any (w : World) (l : List UInt8) (x size : Nat) (hx : x < 4611686018427387904) (hsz : size ≤ 8) {B : Nat} {v : Value} (hown : w.ownsRow B 5 1 v l.length (l.map u8)) (hB : B ≤ w.heap.size) (hl : l.length ≤ 1099511627776) :
    Calls Tryz.prog 134 #[v, .int .i64 x, .int .i64 size] w fun e w' => ∃ v', e = .returned v' ∧ w'.ownsRow B 5 1 v' (l.length + size) ((l ++ beP x size).map u8) ∧ Fr (KB B [5]) w w' := by
  obtain ⟨ao, cap, rfl⟩ := own_shape hown
  have H := Lib.hid hown
  clear hown
  go_enter Tryz.func134, Tryz.ntmps134
  go_wp2
  go_loopw [0, 9] (fun v i wr => ∃ k : Nat, k ≤ size ∧ i = .int .i64 k ∧ wr.ownsRow B 5 1 v (l.length + k) ((l ++ (beP x size).take k).map u8) ∧ Fr (KB B [5]) w wr) (fun _ i _ => size - (intOf i).toNat)
  case atStart => exact ⟨0, Nat.zero_le _, rfl, by simpa using H.out, Fr.refl _ _⟩
  case round =>
    obtain ⟨k, hk, rfl, hown, hfr⟩ := hrel
    obtain ⟨aok, capk, rfl⟩ := own_shape hown
    by_cases hkl : k < size
    · have w1 : IntKind.i64.wrap ((size : Int) - 1) = (size : Int) - 1 := by rw [IntKind.wrap_i64]; omega
      have w2 : IntKind.i64.wrap ((size : Int) - 1 - k) = (size : Int) - 1 - k := by rw [IntKind.wrap_i64]; omega
      have w3 : IntKind.i64.wrap (8 * ((size : Int) - 1 - k)) = 8 * ((size : Int) - 1 - k) := by rw [IntKind.wrap_i64]; omega
      have w4 : IntKind.u64.wrap (8 * ((size : Int) - 1 - k)) = 8 * ((size : Int) - 1 - k) := wraps_u64 _ (by omega) (by omega)
      have w5 : IntKind.u64.wrap (x : Int) = (x : Int) := wraps_u64 _ (by omega) (by omega)
      have HK := Lib.hid (And.intro hown hfr)
      have hfr2 := hfr
      clear hown hfr
      have hszr := hfr2.size
      clear hfr2
      go_wp2_with (at_builtin; go_loud (refine app_sl elU8 rfl (.tmp 12) (.tmp 23) rfl B _ _ _ rfl (HK.out.1.alloc _) rfl (Sl.new _ [_] _ 1 1 1 rfl (Nat.le_refl _) (by decide) _) (fun u hu => by rw [List.mem_singleton] at hu; subst hu; rfl) (by omega) (by simp; omega) ?_); intro v6 w6 hown6 hgr6; obtain ⟨ao6, cp6, rfl⟩ := own_shape hown6)
      go_roundw
      case rel =>
        refine ⟨k + 1, by omega, by go_num, ?_, (HK.out.2.alloc _).grown hgr6 (KB.row HK.out.2 HK.out.1 (by simp))⟩
        rw [beP_val] at hown6
        rw [List.take_add_one, beP_get x size k hkl]
        simpa [List.append_assoc, Nat.add_assoc] using hown6
      case measure => simp [intOf]; omega
    · obtain rfl : k = size := by omega
      rw [List.take_of_length_le (by rw [beP_length]; omega)] at hown
      go_wp2
      go_ret
      exact ⟨_, rfl, hown, hfr⟩

/-- An append to a row of bytes that is full, whatever its mark: a new row. -/
theorem app_full {w : World} {ops : Array Oper} {rest : List Oper} {o : Oper} {a : Act} {Q : Exit → Act → World → Prop} (hgd : o.guard = none) (s x : Operand) (ho : o.op = .call { callee := .builtin .append, args := #[s, x], argTypes := #[41, 41] })
    (B g n : Nat) (c : Array Value) (f : Nat × Nat) (l : List UInt8) (hs : a.eval s = .slice (some ⟨g, 0, none⟩) n n) (hg : w.heap[g]? = some (.cells c 5 f)) (hc : c.toList = l.map u8) (hn : l.length = n)
    {T m cap : Nat} {ad : Addr} {news : List UInt8} (hx : a.eval x = .slice (some ad) m cap) (hsl : Sl w T 5 1 (some ad) m cap (news.map u8)) (hm : 0 < m) (hbytes : n + m ≤ 1099511627776) (hbase : B ≤ w.heap.size)
    (h : ∀ v' w', w'.ownsRow B 5 1 v' (n + m) ((l ++ news).map u8) → FrA w w' → wpList Tryz.prog ops Q rest (a.put o.dst v') w') : wpList Tryz.prog ops Q (o :: rest) a w := by
  obtain ⟨i, hi, hz0, hz1, hz2⟩ := info_parts elU8.info
  obtain ⟨g1, g2, g3, g4, g5⟩ := hsl
  have g1' : news.length = m := by simpa using g1
  have hnews : ∀ j v, (news.map u8)[j]? = some v → w.cell? (ad.add j) = some v := by
    rcases g5 with rfl | ⟨b, off, c', f', e', hb, r, q⟩
    · omega
    · cases e'
      intro j u hj
      have hlt : j < m * 1 := by rw [← g1]; exact (List.getElem?_eq_some_iff.1 hj).1
      have : w.cell? ⟨b, off + j, none⟩ = some u := by rw [cell_of_heap r, q j hlt]; exact hj
      by_cases h0 : j = 0
      · subst h0; simpa [Addr.add] using this
      · simpa [Addr.add, h0] using this
  have holds : ∀ j v, (l.map u8)[j]? = some v → w.cell? ((⟨g, 0, none⟩ : Addr).add j) = some v := by
    intro j u hj
    have : w.cell? ⟨g, j, none⟩ = some u := by rw [cell_of_heap hg, ← Array.getElem?_toList, hc]; exact hj
    by_cases h0 : j = 0
    · subst h0; simpa [Addr.add] using this
    · simpa [Addr.add, h0] using this
  have hrun := run_append_grow (P := Tryz.prog) (w := w) 41 o.type 5 i _ elU8.und hi hz0 ⟨g, 0, none⟩ n n (l.map u8) (by rw [hz1]; simp [hn]) holds ad m cap (news.map u8) (by rw [hz1]; simpa using g1) hnews (by omega) (by omega) (by rw [hz2]; exact growslice_fits (by omega) (by omega))
  refine wpList_plain hgd fun K hK => ?_
  unfold Oper.wp
  simp [execOp, ho, resolve, invoke, builtin, hs, hx, hrun, Result.andThen]
  refine hK _ _ (h _ _ ⟨by simp [hn]; omega, .inr ⟨w.heap.size, grownCap w (n + m) n 5, _, rfl, hbase, heap_alloc_new _ _, grownCap_ge _ _ _ _, grownCap_le_maxLen _ _ _ _ (by unfold maxLen; omega), ?_, ?_⟩⟩ ((Fr.refl _ w).drew.alloc _))
  · have := grownCap_ge w (n + m) n 5
    simp [size_zeroCells, hn, g1', Value.cells]; omega
  · rw [Array.toList_append, List.map_append]
    exact List.take_left' (by simp [hn, g1'])

/-- A row of bytes that is owned, or the marked one, full. -/
def PkAt (w : World) (B : Nat) (v : Value) (l : List UInt8) : Prop :=
  w.ownsRow B 5 1 v l.length (l.map u8) ∨ (v = .slice (some ⟨B, 0, none⟩) l.length l.length ∧ ∃ c f, w.heap[B]? = some (.cells c 5 f) ∧ c.toList = l.map u8)

theorem PkAt.shape {w : World} {B : Nat} {v : Value} {l : List UInt8} (h : PkAt w B v l) : ∃ ao cap, v = .slice ao l.length cap := by
  rcases h with h | ⟨rfl, _⟩
  · exact own_shape h
  · exact ⟨_, _, rfl⟩

theorem PkAt.fra {w w' : World} {B : Nat} {v : Value} {l : List UInt8} (h : PkAt w B v l) (hf : FrA w w') : PkAt w' B v l := by
  rcases h with h | ⟨e, c, f, h1, h2⟩
  · exact .inl (own_fr h hf fun _ _ _ _ _ => trivial)
  · exact .inr ⟨e, c, f, hf.keep _ _ h1 trivial, h2⟩

/-- An append to it. -/
theorem app_pk {w : World} {ops : Array Oper} {rest : List Oper} {o : Oper} {a : Act} {Q : Exit → Act → World → Prop} (hgd : o.guard = none) (s x : Operand) (ho : o.op = .call { callee := .builtin .append, args := #[s, x], argTypes := #[41, 41] })
    (B : Nat) (v : Value) (l : List UInt8) (hs : a.eval s = v) (hv : PkAt w B v l)
    {T m cap : Nat} {ad : Addr} {news : List UInt8} (hx : a.eval x = .slice (some ad) m cap) (hsl : Sl w T 5 1 (some ad) m cap (news.map u8)) (hm : 0 < m) (hbytes : l.length + m ≤ 1099511627776) (hbase : B ≤ w.heap.size)
    (h : ∀ v' w', w'.ownsRow B 5 1 v' (l.length + m) ((l ++ news).map u8) → Fr (KB B [5]) w w' → wpList Tryz.prog ops Q rest (a.put o.dst v') w') : wpList Tryz.prog ops Q (o :: rest) a w := by
  rcases hv with hv | ⟨rfl, c, f, h1, h2⟩
  · refine app_sl elU8 hgd s x ho B _ _ _ hs hv hx hsl (fun u hu => by simp at hu; obtain ⟨y, _, rfl⟩ := hu; rfl) (by omega) hbase fun v' w' h3 h4 => h v' w' (by rw [List.map_append]; exact h3) ((Fr.refl _ w).grown h4 (KB.row (Fr.refl _ _) hv (by simp)))
  · exact app_full hgd s x ho B B l.length c f l hs h1 h2 rfl hx hsl hm hbytes hbase fun v' w' h3 h4 => h v' w' h3 (h4.mono fun _ _ _ => trivial)

def packF (f : Fl) : List UInt8 := (if f.dir then 1 else 0) :: (beP f.path.length 2 ++ f.path ++ if f.dir then [] else beP f.b.length 8 ++ f.b)

def packL (l : List Fl) : List UInt8 := [80, 65, 75, 49] ++ l.flatMap packF ++ [255]

theorem packF_len (f : Fl) (h : f.path.length ≤ 65535 ∧ f.b.length ≤ 1048576) : (packF f).length ≤ 1114122 := by
  unfold packF
  cases f.dir <;> simp [beP_length] <;> omega

theorem pack_len (l : List Fl) (h : ∀ f ∈ l, f.path.length ≤ 65535 ∧ f.b.length ≤ 1048576) : (l.flatMap packF).length ≤ l.length * 1114122 := by
  induction l with
  | nil => simp
  | cons f l ih =>
    have ih := ih fun g hg => h g (by simp [hg])
    have := packF_len f (h f (by simp))
    rw [List.flatMap_cons, List.length_append, List.length_cons]
    omega

/-- 'min(x, y)', where x is the lower one. -/
theorem wp_min_l {w : World} {ops : Array Oper} {rest : List Oper} {o : Oper} {a : Act} {Q : Exit → Act → World → Prop} (hgd : o.guard = none) (x y : Operand) (ts : Array TypeId) (ho : o.op = .call { callee := .builtin .min, args := #[x, y], argTypes := ts })
    {k k' : IntKind} {p q : Int} (hx : a.eval x = .int k p) (hy : a.eval y = .int k' q) (hle : p ≤ q) (h : wpList Tryz.prog ops Q rest (a.put o.dst (.int k p)) w) : wpList Tryz.prog ops Q (o :: rest) a w := by
  refine wpList_plain hgd fun K hK => ?_
  have hr := run_min_int2 (P := Tryz.prog) (w := w) ts o.type k k' p q
  rw [if_neg (by omega)] at hr
  unfold Oper.wp
  simp [execOp, ho, resolve, invoke, builtin, hx, hy, hr, Result.andThen]
  exact hK _ _ h

theorem newSl8 (w : World) (H : Nat) (x : UInt8) (i : Int) (hi : (x.toNat : Int) = i) (hH : w.heap.size = H) : Sl (w.alloc (.cells #[.int .u8 i] 5)) (H + 1) 5 1 (some ⟨H, 0, none⟩) 1 1 ([x].map u8) := by
  subst hi; subst hH
  exact Sl.new w [u8 x] _ 1 1 1 rfl (Nat.le_refl _) (by decide) _

set_option maxHeartbeats 2000000 in
set_option maxRecDepth 100000 in
theorem aPack_any {w : World} {T n cap : Nat} {ao : Option Addr} {vs : List Value} {l : List Fl} (h : FsAt w T ao n cap vs l) (hn : l.length = n) (hn5 : n ≤ 100000) (hT : T ≤ w.heap.size) (hl : ∀ f ∈ l, f.path.length ≤ 65535 ∧ f.b.length ≤ 1048576) :
    Calls Tryz.prog 70 #[.slice ao n cap] w fun e w' => ∃ v, e = .returned v ∧ w'.ownsRow w.heap.size 5 1 v (packL l).length ((packL l).map u8) ∧ FrA w w' := by
  obtain ⟨i0, hi, hz0, hz1, hz2⟩ := info_parts elU8.info
  have ust : Tryz.prog.underlying 9 = some .string := by kernel_rfl
  have hpl : ∀ k, ((l.take k).flatMap packF).length ≤ k * 1114122 := fun k => by
    have h1 := pack_len (l.take k) fun f hf => hl f (List.mem_of_mem_take hf)
    have h2 : (l.take k).length ≤ k := by rw [List.length_take]; omega
    exact Nat.le_trans h1 (Nat.mul_le_mul_right _ h2)
  have H := Lib.hid (And.intro h (And.intro hl hpl))
  clear h hl hpl
  have hcv : ∀ (w : World) (c : Array Value) (n : Nat), (convert 41 41 (.slice (some ⟨w.heap.size, 0, none⟩) n n)).run Tryz.prog (w.alloc (.cells c 5)) = .ok (.slice (some ⟨w.heap.size, 0, none⟩) n n) ((w.alloc (.cells c 5)).freeze ⟨w.heap.size, c.size, none⟩ 1) := fun w c n => by
    have hu : Tryz.prog.underlying 41 = some (.slice 5) := by kernel_rfl
    have hu8 : Tryz.prog.underlying 5 = some (.int .u8) := by kernel_rfl
    have hsh : (w.alloc (.cells c 5)).shape? w.heap.size = some (5, c.size) := by
      simp [World.shape?, World.alloc, -World.alloc_eq]
    simp [convert, run_underlying hu, run_underlying hu8, markStringish, hsh, Result.andThen]
  go_enter Tryz.func70, Tryz.ntmps70
  go_wp2
  obtain ⟨W1, hW1⟩ : ∃ W1, W1 = (w.alloc (.cells #[.int .u8 80, .int .u8 65, .int .u8 75, .int .u8 49] 5)).freeze ⟨w.heap.size, 4, none⟩ 1 := ⟨_, rfl⟩
  rw [← hW1]
  have hfW : FrA w W1 := by
    rw [hW1]
    have h0 := (Fr.refl (fun _ _ => True) w).alloc (.cells #[.int .u8 80, .int .u8 65, .int .u8 75, .int .u8 49] 5)
    refine ⟨h0.os, h0.tape, h0.output, by simp [World.freeze], fun k o ho _ => ?_⟩
    have := h0.keep k o ho trivial
    have hk := lt_of_heap ho
    unfold World.freeze
    rw [if_neg (by decide)]
    simp only [Array.getElem?_modify]
    rw [if_neg (fun e : w.heap.size = k => by omega)]
    exact this
  have hpk : PkAt W1 w.heap.size (.slice (some ⟨w.heap.size, 0, none⟩) 4 4) [80, 65, 75, 49] := by
    refine .inr ⟨rfl, #[.int .u8 80, .int .u8 65, .int .u8 75, .int .u8 49], (4, 5), ?_, rfl⟩
    rw [hW1]
    unfold World.freeze
    rw [if_neg (by decide)]
    simp only [Array.getElem?_modify, if_true]
    rw [heap_alloc_new]
    rfl
  have H1 := Lib.hid (And.intro hpk hfW)
  clear hW1 hfW hpk hcv
  go_loopw [3, 12] (fun v i wr => ∃ k : Nat, k ≤ n ∧ i = .int .i64 k ∧ PkAt wr w.heap.size v ([80, 65, 75, 49] ++ (l.take k).flatMap packF) ∧ FrA w wr) (fun _ i _ => n - (intOf i).toNat)
  case atStart => exact ⟨0, Nat.zero_le _, rfl, by simpa using H1.out.1, H1.out.2⟩
  case round =>
    obtain ⟨k, hk, rfl, hpk, hfr⟩ := hrel
    obtain ⟨aov, cpv, rfl⟩ := hpk.shape
    have hlk := H.out.2.2 k
    have hk2 : k * 1114122 ≤ 100000 * 1114122 := Nat.mul_le_mul_right _ (by omega)
    obtain ⟨L, hL⟩ : ∃ L, L = [80, 65, 75, 49] ++ (l.take k).flatMap packF := ⟨_, rfl⟩
    have hLl : L.length ≤ 4 + 100000 * 1114122 := by rw [hL, List.length_append]; simp only [List.length_cons, List.length_nil]; omega
    rw [← hL] at hpk ⊢
    by_cases hkl : k < n
    · obtain ⟨f, v, b, off, aob, capb, Eb, hf, rfl, hsb, rfl, g0, g1, g2⟩ := (H.out.1.fra hfr).get hn hkl
      have hfl := H.out.2.1 f (List.mem_of_getElem? hf)
      have htk : (l.take (k + 1)).flatMap packF = (l.take k).flatMap packF ++ packF f := by rw [List.take_add_one, hf]; simp
      obtain ⟨fp, fd, fb⟩ := f
      simp only at g0 g1 g2 hfl hsb
      have hsz : (bs fp).size = fp.length := bs_size fp
      have hmin : min (fp.length : Int) 65535 = (fp.length : Int) := by omega
      have hex : (bs fp).extract 0 fp.length = bs fp := by rw [← bs_take, List.take_of_length_le (Nat.le_refl _)]
      have hsb4 := hsb.alloc (.cells #[.string (bs fp), .bool fd, .slice aob fb.length capb] 51)
      have hbF := heap_alloc_new wr (.cells #[.string (bs fp), .bool fd, .slice aob fb.length capb] 51)
      have hpk4 := hpk.fra ((Fr.refl (fun _ _ => True) wr).alloc (.cells #[.string (bs fp), .bool fd, .slice aob fb.length capb] 51))
      have hszr := hfr.size
      have HK := Lib.hid (And.intro htk (And.intro hL (And.intro hpk4 (And.intro hfr (And.intro hbF hsb4)))))
      clear htk hL hpk hpk4 hfr hbF hf hsb hsb4 hlk
      cases fd
      · go_wp2_with (at_builtin; go_loud (refine app_pk rfl (.tmp 25) (.tmp 27) rfl w.heap.size _ L rfl (HK.out.2.2.1.fra ((Fr.refl _ _).alloc _)) rfl (newSl8 _ _ 0 0 rfl (by simp)) (by decide) (by omega) (by simp; omega) ?_); intro v6 w6 hown6 hf6; obtain ⟨ao6, cp6, rfl⟩ := own_shape hown6)
        obtain ⟨L1, hL1⟩ : ∃ L1, L1 = L ++ [(0 : UInt8)] := ⟨_, rfl⟩
        have hL1l : L1.length = L.length + 1 := by rw [hL1]; simp
        rw [← hL1, ← hL1l] at hown6
        have hF6 : Fr (KB w.heap.size [5]) (wr.alloc (.cells #[.string (bs fp), .bool false, .slice aob fb.length capb] 51)) w6 := ((Fr.refl _ _).alloc _).trans hf6
        have hsz6 := hF6.size
        simp only [World.size_alloc] at hsz6
        have H6 := Lib.hid (And.intro hown6 (And.intro hF6 hL1))
        have hL1l' : L1.length ≤ L.length + 1 := by omega
        rw [← hL1l]
        clear hown6 hF6 hf6 hL1 hL1l
        refine (aPut_any w6 L1 fp.length 2 (by omega) (by omega) H6.out.1 (by omega) (by omega)).mono ?_
        rintro e w7 ⟨v7, rfl, hown7, hf7⟩
        obtain ⟨L2, hL2⟩ : ∃ L2, L2 = L1 ++ beP fp.length 2 := ⟨_, rfl⟩
        have hL2l : L2.length = L1.length + 2 := by rw [hL2, List.length_append, beP_length]
        rw [← hL2, ← hL2l] at hown7
        have hF7 := H6.out.2.1.trans hf7
        have hsz7 := hf7.size
        obtain ⟨ao7, cp7, rfl⟩ := own_shape hown7
        have hL2l' : L2.length ≤ L1.length + 2 := by omega
        have H7 := Lib.hid (And.intro hown7 (And.intro hF7 hL2))
        clear hown7 hF7 hf7 hL2 hL2l
        go_wp2_with (at_builtin; go_loud (refine Lib.wpList_append_own_string _ rfl (.tmp 32) (.tmp 33) _ _ rfl w.heap.size 5 i0 elU8.und ust hi hz0 hz1 hz2 _ _ _ rfl H7.out.1 _ rfl (by unfold maxLen; omega) (by omega) (by omega) ?_); intro v8 w8 hown8 hgr8 _; obtain ⟨ao8, cp8, rfl⟩ := own_shape hown8; have hc8 := cell_of_heap ((H7.out.2.1.grown hgr8 (KB.row H7.out.2.1 H7.out.1 (by simp))).keep _ _ HK.out.2.2.2.2.1 (.inr (by simp [Obj.out]))) 1; have hc82 := cell_of_heap ((H7.out.2.1.grown hgr8 (KB.row H7.out.2.1 H7.out.1 (by simp))).keep _ _ HK.out.2.2.2.2.1 (.inr (by simp [Obj.out]))) 2)
        have hF8 := H7.out.2.1.grown hgr8 (KB.row H7.out.2.1 H7.out.1 (by simp))
        obtain ⟨L3, hL3⟩ : ∃ L3, L3 = L2 ++ fp := ⟨_, rfl⟩
        have hL3l : L3.length = L2.length + fp.length := by rw [hL3, List.length_append]
        rw [strCells_u8, bs_data, ← List.map_append, ← hL3, hsz, ← hL3l] at hown8
        have hsz8 := hgr8.size
        have hL3l' : L3.length ≤ L2.length + fp.length := by omega
        have hsb8 := HK.out.2.2.2.2.2.keep (w' := w8) fun bb c f hb hc => hF8.keep _ _ hc (.inl (by omega))
        have H8 := Lib.hid (And.intro hown8 (And.intro hF8 (And.intro hL3 hsb8)))
        rw [← hL3l]
        clear hown8 hF8 hgr8 hL3 hL3l hsb8 hc8
        refine (aPut_any w8 L3 fb.length 8 (by omega) (by omega) H8.out.1 (by omega) (by omega)).mono ?_
        rintro e w9 ⟨v9, rfl, hown9, hf9⟩
        obtain ⟨L4, hL4⟩ : ∃ L4, L4 = L3 ++ beP fb.length 8 := ⟨_, rfl⟩
        have hL4l : L4.length = L3.length + 8 := by rw [hL4, List.length_append, beP_length]
        rw [← hL4, ← hL4l] at hown9
        have hF9 := H8.out.2.1.trans hf9
        have hsz9 := hf9.size
        have hsb9 := HK.out.2.2.2.2.2.keep (w' := w9) fun bb c f hb hc => hF9.keep _ _ hc (.inl (by omega))
        have hc9 := cell_of_heap (hF9.keep _ _ HK.out.2.2.2.2.1 (.inr (by simp [Obj.out]))) 2
        obtain ⟨ao9, cp9, rfl⟩ := own_shape hown9
        have hL4l' : L4.length ≤ L3.length + 8 := by omega
        have H9 := Lib.hid (And.intro hown9 (And.intro hF9 (And.intro hL4 hsb9)))
        clear hown9 hF9 hf9 hL4 hL4l hsb9 hc82
        go_wp2_with (at_builtin; go_loud (refine app_sl elU8 rfl (.tmp 43) (.tmp 45) rfl w.heap.size _ L4.length (L4.map u8) rfl H9.out.1 rfl H9.out.2.2.2 (fun u hu => by simp at hu; obtain ⟨y, _, rfl⟩ := hu; rfl) (by omega) (by omega) ?_); intro v10 w10 hown10 hgr10; obtain ⟨ao10, cp10, rfl⟩ := own_shape hown10)
        have hF10 := H9.out.2.1.grown hgr10 (KB.row H9.out.2.1 H9.out.1 (by simp))
        have H10 := Lib.hid (And.intro hown10 hF10)
        clear hown10 hF10 hgr10
        go_roundw
        case rel =>
          have hLL : [80, 65, 75, 49] ++ (l.take (k + 1)).flatMap packF = L4 ++ fb := by
            rw [HK.out.1, H9.out.2.2.1, H8.out.2.2.1, H7.out.2.2, H6.out.2.2, HK.out.2.1]
            simp [packF]
          refine ⟨k + 1, by omega, by go_num, ?_, fra_k HK.out.2.2.2.1 (((Fr.refl _ wr).alloc _).trans H10.out.2) fun k o hk => .inl hk⟩
          rw [hLL]
          refine .inl ?_
          have := H10.out.1
          rw [← List.map_append] at this
          rw [List.length_append]
          exact this
        case measure => simp [intOf]; omega
      · go_wp2_with (at_builtin; go_loud (refine app_pk rfl (.tmp 25) (.tmp 27) rfl w.heap.size _ L rfl (HK.out.2.2.1.fra ((Fr.refl _ _).alloc _)) rfl (newSl8 _ _ 1 1 rfl (by simp)) (by decide) (by omega) (by simp; omega) ?_); intro v6 w6 hown6 hf6; obtain ⟨ao6, cp6, rfl⟩ := own_shape hown6)
        obtain ⟨L1, hL1⟩ : ∃ L1, L1 = L ++ [(1 : UInt8)] := ⟨_, rfl⟩
        have hL1l : L1.length = L.length + 1 := by rw [hL1]; simp
        rw [← hL1, ← hL1l] at hown6
        have hF6 : Fr (KB w.heap.size [5]) (wr.alloc (.cells #[.string (bs fp), .bool true, .slice aob fb.length capb] 51)) w6 := ((Fr.refl _ _).alloc _).trans hf6
        have hsz6 := hF6.size
        simp only [World.size_alloc] at hsz6
        have H6 := Lib.hid (And.intro hown6 (And.intro hF6 hL1))
        have hL1l' : L1.length ≤ L.length + 1 := by omega
        rw [← hL1l]
        clear hown6 hF6 hf6 hL1 hL1l
        refine (aPut_any w6 L1 fp.length 2 (by omega) (by omega) H6.out.1 (by omega) (by omega)).mono ?_
        rintro e w7 ⟨v7, rfl, hown7, hf7⟩
        obtain ⟨L2, hL2⟩ : ∃ L2, L2 = L1 ++ beP fp.length 2 := ⟨_, rfl⟩
        have hL2l : L2.length = L1.length + 2 := by rw [hL2, List.length_append, beP_length]
        rw [← hL2, ← hL2l] at hown7
        have hF7 := H6.out.2.1.trans hf7
        have hsz7 := hf7.size
        obtain ⟨ao7, cp7, rfl⟩ := own_shape hown7
        have hL2l' : L2.length ≤ L1.length + 2 := by omega
        have H7 := Lib.hid (And.intro hown7 (And.intro hF7 hL2))
        clear hown7 hF7 hf7 hL2 hL2l
        go_wp2_with (at_builtin; go_loud (refine Lib.wpList_append_own_string _ rfl (.tmp 32) (.tmp 33) _ _ rfl w.heap.size 5 i0 elU8.und ust hi hz0 hz1 hz2 _ _ _ rfl H7.out.1 _ rfl (by unfold maxLen; omega) (by omega) (by omega) ?_); intro v8 w8 hown8 hgr8 _; obtain ⟨ao8, cp8, rfl⟩ := own_shape hown8; have hc8 := cell_of_heap ((H7.out.2.1.grown hgr8 (KB.row H7.out.2.1 H7.out.1 (by simp))).keep _ _ HK.out.2.2.2.2.1 (.inr (by simp [Obj.out]))) 1; have hc82 := cell_of_heap ((H7.out.2.1.grown hgr8 (KB.row H7.out.2.1 H7.out.1 (by simp))).keep _ _ HK.out.2.2.2.2.1 (.inr (by simp [Obj.out]))) 2)
        have hF8 := H7.out.2.1.grown hgr8 (KB.row H7.out.2.1 H7.out.1 (by simp))
        obtain ⟨L3, hL3⟩ : ∃ L3, L3 = L2 ++ fp := ⟨_, rfl⟩
        have hL3l : L3.length = L2.length + fp.length := by rw [hL3, List.length_append]
        rw [strCells_u8, bs_data, ← List.map_append, ← hL3, hsz, ← hL3l] at hown8
        have hsz8 := hgr8.size
        have hL3l' : L3.length ≤ L2.length + fp.length := by omega
        have hsb8 := HK.out.2.2.2.2.2.keep (w' := w8) fun bb c f hb hc => hF8.keep _ _ hc (.inl (by omega))
        have H8 := Lib.hid (And.intro hown8 (And.intro hF8 (And.intro hL3 hsb8)))
        have HL3 := Lib.hid hL3l
        clear hown8 hF8 hgr8 hL3 hL3l hsb8 hc8 hc82
        go_wp2
        go_roundw
        case rel =>
          have hLL : [80, 65, 75, 49] ++ (l.take (k + 1)).flatMap packF = L3 := by
            rw [HK.out.1, H8.out.2.2.1, H7.out.2.2, H6.out.2.2, HK.out.2.1]
            simp [packF]
          refine ⟨k + 1, by omega, by go_num, ?_, fra_k HK.out.2.2.2.1 (((Fr.refl _ wr).alloc _).trans H8.out.2.1) fun k o hk => .inl hk⟩
          rw [hLL]
          have := H8.out.1
          have e := HL3.out
          rw [e] at this
          refine .inl ?_
          rw [e]
          exact this
        case measure => simp [intOf]; omega
    · obtain rfl : k = n := by omega
      rw [List.take_of_length_le (by omega)] at hL
      have HE := Lib.hid (And.intro hpk (And.intro hfr hL))
      have hszr := hfr.size
      clear hpk hfr hL hlk
      go_wp2_with (at_builtin; go_loud (refine app_pk rfl (.tmp 48) (.tmp 49) rfl w.heap.size _ L rfl (HE.out.1.fra ((Fr.refl _ _).alloc _)) rfl (newSl8 _ _ 255 255 rfl (by simp)) (by decide) (by omega) (by simp; omega) ?_); intro v6 w6 hown6 hf6; obtain ⟨ao6, cp6, rfl⟩ := own_shape hown6)
      go_ret
      refine ⟨_, rfl, ?_, fra_k HE.out.2.1 (((Fr.refl _ wr).alloc _).trans hf6) fun k o hk => .inl hk⟩
      have e : packL l = L ++ [255] := by rw [HE.out.2.2]; rfl
      rw [e, List.length_append]
      exact hown6

end Go.Proofs.YtbhjdddiihfafaaGreatDoor
