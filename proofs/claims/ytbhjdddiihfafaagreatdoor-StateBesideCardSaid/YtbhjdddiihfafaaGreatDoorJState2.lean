/- Package state: a tree as bytes, and back. -/
import Derived.Lib.ConvBytes
import Derived.Test.YtbhjdddiihfafaaGreatDoorJTFl2
set_option linter.unusedVariables false
set_option linter.unusedSimpArgs false
namespace Go.Proofs.YtbhjdddiihfafaaGreatDoor
open Go.RowKit Go.Maps

def flB (f : Fl) : List UInt8 := txt (bs f.path) ++ txt (bs f.b) ++ truth f.dir

theorem filesB_eq (l : List Fl) : filesB l = num l.length ++ l.flatMap flB := rfl

set_option maxHeartbeats 2000000 in
set_option maxRecDepth 100000 in
theorem sBytes_any {w : World} {T n cap : Nat} {ao : Option Addr} {vs : List Value} {l : List Fl} (h : FsAt w T ao n cap vs l) (hn : l.length = n) (hn5 : n ≤ 1000000) (hl : ∀ f ∈ l, f.path.length ≤ 1048576 ∧ f.b.length ≤ 1048576) :
    Calls Tryz.prog 28 #[.slice ao n cap] w fun e w' => e = .returned (.string (bs (filesB l))) ∧ FrA w w' := by
  have hlen : ∀ k, ((l.take k).flatMap flB).length ≤ k * 2097180 := by
    intro k
    have key : ∀ l : List Fl, (∀ f ∈ l, f.path.length ≤ 1048576 ∧ f.b.length ≤ 1048576) → (l.flatMap flB).length ≤ l.length * 2097180 := by
      intro l
      induction l with
      | nil => simp
      | cons f l ih =>
        intro h
        have := ih fun g hg => h g (by simp [hg])
        have hf := h f (by simp)
        have a1 := num_len f.path.length 2 (by omega)
        have a2 := num_len f.b.length 2 (by omega)
        have a3 : (truth f.dir).length = 1 := by cases f.dir <;> simp [truth, num_small]
        rw [List.flatMap_cons, List.length_append, List.length_cons]
        have : (flB f).length ≤ 2097180 := by
          simp only [flB, txt, List.length_append, bs_size, bs_data, a3]; omega
        omega
    have h1 := key (l.take k) fun f hf => hl f (List.mem_of_mem_take hf)
    have h2 : (l.take k).length ≤ k := by rw [List.length_take]; omega
    exact Nat.le_trans h1 (Nat.mul_le_mul_right _ h2)
  have hnn : (num n).length ≤ 3 := num_len n 2 (by omega)
  have H := Lib.hid (And.intro h (And.intro hl (And.intro hlen hnn)))
  clear h hl hlen
  go_enter Tryz.func28, Tryz.ntmps28
  go_wp2_with fail
  refine (NewWriter_any w w.heap.size (Nat.le_refl _)).mono ?_
  rintro e w1 ⟨bw, rfl, hwr, hf1, hz1⟩
  have H1 := Lib.hid (And.intro hwr hf1)
  have hz1' : w.heap.size ≤ w1.heap.size := by omega
  clear hwr hf1 hz1
  go_wp2_with fail
  refine (Num_any _ w.heap.size bw [] [n] 1 rfl (H1.out.1.alloc _) (Sl.new _ [_] _ 1 1 1 rfl (Nat.le_refl _) (by decide) _) (by simp; omega) (by simp; omega) (by omega) (by simp; omega)).mono ?_
  rintro e w2 ⟨rfl, hwr2, hf2⟩
  simp only [List.flatMap_cons, List.flatMap_nil, List.append_nil, List.nil_append] at hwr2
  have hf2' : FrA w w2 := kb_fra H1.out.2 (((Fr.refl _ w1).alloc _).trans hf2) (Nat.le_refl _)
  have H2 := Lib.hid (And.intro hwr2 hf2')
  clear hwr2 hf2 hf2'
  go_wp2_with fail
  go_loopw [15] (fun i wr => ∃ k : Nat, k ≤ n ∧ i = .int .i64 k ∧ WrAt wr w.heap.size bw (num n ++ (l.take k).flatMap flB) ∧ FrA w wr) (fun i _ => n - (intOf i).toNat)
  case atStart => exact ⟨0, Nat.zero_le _, rfl, by simpa using H2.out.1, H2.out.2⟩
  case round =>
    obtain ⟨k, hk, rfl, hwr, hfr⟩ := hrel
    by_cases hkl : k < n
    · obtain ⟨f, v, b, off, aob, capb, Eb, hf, rfl, hsb, rfl, g0, g1, g2⟩ := (H.out.1.fra hfr).get hn hkl
      have hfl := H.out.2.1 f (List.mem_of_getElem? hf)
      have htk : (l.take (k + 1)).flatMap flB = (l.take k).flatMap flB ++ flB f := by rw [List.take_add_one, hf]; simp
      have hlk := H.out.2.2.1 k
      have hk2 : k * 2097180 ≤ 1000000 * 2097180 := Nat.mul_le_mul_right _ (by omega)
      obtain ⟨L, hL⟩ : ∃ L, L = num n ++ (l.take k).flatMap flB := ⟨_, rfl⟩
      have hLl : L.length ≤ 3 + 1000000 * 2097180 := by rw [hL, List.length_append]; omega
      rw [← hL] at hwr
      obtain ⟨fp, fd, fb⟩ := f
      simp only at g0 g1 g2 hfl hsb
      have t1 : (txt (bs fp)).length ≤ 1048580 := by
        have := num_len fp.length 2 (by omega)
        simp only [txt, List.length_append, bs_size, bs_data]; omega
      have t2 : (txt (bs fb)).length ≤ 1048580 := by
        have := num_len fb.length 2 (by omega)
        simp only [txt, List.length_append, bs_size, bs_data]; omega
      have t3 : (truth fd).length = 1 := by cases fd <;> simp [truth, num_small]
      have hsb4 := hsb.alloc (.cells #[.string (bs fp), .bool fd, .slice aob fb.length capb] 51)
      have hbF := heap_alloc_new wr (.cells #[.string (bs fp), .bool fd, .slice aob fb.length capb] 51)
      have hszr := hfr.size
      have HK := Lib.hid (And.intro htk (And.intro hL (And.intro (hwr.alloc (.cells #[.string (bs fp), .bool fd, .slice aob fb.length capb] 51)) (And.intro hfr (And.intro hbF (And.intro t1 (And.intro t2 t3)))))))
      clear htk hL hwr hfr hbF t1 t2 t3 hf hsb hlk
      go_wp2_with (refine wp_conv_bs rfl _ rfl rfl hsb4 ?_)
      refine (Text_any _ w.heap.size bw L [bs fp, bs fb] 2 rfl (HK.out.2.2.1.alloc _) (Sl.newAt _ _ [_, _] _ 1 2 2 rfl (Nat.le_refl _) (by decide) _ (by simp)) (by have := HK.out.2.2.2.2.2.1; have := HK.out.2.2.2.2.2.2.1; simp; omega) (by omega) (by simp; omega)).mono ?_
      rintro e w5 ⟨rfl, hwr5, hf5⟩
      have hF5 : Fr (WK w.heap.size) (wr.alloc (.cells #[.string (bs fp), .bool fd, .slice aob fb.length capb] 51)) w5 := ((Fr.refl _ _).alloc _).trans hf5
      have hbF5 := hF5.keep _ _ HK.out.2.2.2.2.1 (.inr (by simp [Obj.out]))
      have k1 : w5.cell? ⟨wr.heap.size, 1, none⟩ = some (.bool fd) := cell_of_heap hbF5 1
      have hsz5 := hF5.size
      simp only [World.size_alloc] at hsz5
      have H5 := Lib.hid (And.intro hwr5 hF5)
      clear hwr5 hf5 hF5 hbF5 hsb4
      go_wp2_with fail
      obtain ⟨L2, hL2⟩ : ∃ L2, L2 = L ++ [bs fp, bs fb].flatMap txt := ⟨_, rfl⟩
      have hL2l : L2.length ≤ 3 + 1000000 * 2097180 + 2097160 := by rw [hL2]; have := HK.out.2.2.2.2.2.1; have := HK.out.2.2.2.2.2.2.1; simp; omega
      have HL2 := Lib.hid hL2
      refine (Bool_any _ w.heap.size bw L2 [fd] 1 rfl (by rw [hL2]; exact H5.out.1.alloc _) (Sl.new _ [_] _ 1 1 1 rfl (Nat.le_refl _) (by decide) _) (by have := HK.out.2.2.2.2.2.2.2; simp; omega) (by omega) (by simp; omega)).mono ?_
      clear hL2
      rintro e w6 ⟨rfl, hwr6, hf6⟩
      have hF6 : FrA w w6 := kb_fra (kb_fra (HK.out.2.2.2.1.alloc _) H5.out.2 (Nat.le_refl _)) (((Fr.refl _ w5).alloc _).trans hf6) (Nat.le_refl _)
      have H6 := Lib.hid (And.intro hwr6 hF6)
      clear hwr6 hF6 hf6
      go_wp2
      go_roundw
      case rel =>
        refine ⟨k + 1, by omega, by go_num, ?_, H6.out.2⟩
        have := H6.out.1
        rw [HL2.out, HK.out.2.1] at this
        rw [HK.out.1]
        simpa [flB, List.append_assoc] using this
      case measure => simp [intOf]; omega
    · obtain rfl : k = n := by omega
      rw [List.take_of_length_le (by omega)] at hwr
      have hfe : num k ++ l.flatMap flB = filesB l := by rw [filesB_eq, hn]
      rw [hfe] at hwr
      have hbl : (filesB l).length ≤ 140737488355328 := by
        have := H.out.2.2.1 k
        rw [List.take_of_length_le (by omega)] at this
        have h2 : k * 2097180 ≤ 1000000 * 2097180 := Nat.mul_le_mul_right _ hn5
        rw [← hfe, List.length_append]; omega
      have hB := Bytes_any wr w.heap.size bw _ hwr hbl
      have HB := Lib.hid (And.intro hB hfr)
      clear hwr hfe hB hfr
      go_wp2_with fail
      refine HB.out.1.mono ?_
      rintro e w7 ⟨v7, rfl, hown7, hf7⟩
      obtain ⟨ao7, cp7, rfl⟩ := own_shape hown7
      have hs7 := Sl.of_own hown7
      have HF7 := Lib.hid hf7
      clear hown7 hf7
      go_wp2_with (refine wp_conv_bs rfl _ rfl rfl hs7 ?_)
      go_ret
      exact ⟨rfl, HB.out.2.trans HF7.out⟩

end Go.Proofs.YtbhjdddiihfafaaGreatDoor
/- Package state: files out of bytes. -/
namespace Go.Proofs.YtbhjdddiihfafaaGreatDoor
open Go.RowKit Go.Maps

/-- '[]byte(s)'. -/
theorem wp_conv_sb {w : World} {ops : Array Oper} {rest : List Oper} {o : Oper} {a : Act} {Q : Exit → Act → World → Prop} {l : List UInt8} (hgd : o.guard = none) (x : Operand) (ho : o.op = .convert 9 41 x) (hx : a.eval x = .string (bs l)) (hl : l.length ≤ 4194304)
    (h : ∀ cap w', Sl w' w'.heap.size 5 1 (some ⟨w.heap.size, 0, none⟩) l.length cap (l.map u8) → FrA w w' → w'.heap.size = w.heap.size + 1 → wpList Tryz.prog ops Q rest (a.put o.dst (.slice (some ⟨w.heap.size, 0, none⟩) l.length cap)) w') : wpList Tryz.prog ops Q (o :: rest) a w := by
  have hrun := Lib.run_convert_string_bytes (P := Tryz.prog) w 9 41 5 (bs l) (u := .string) (by kernel_rfl) (by kernel_rfl) (by kernel_rfl)
  refine wpList_plain hgd fun K hK => ?_
  unfold Oper.wp
  simp [execOp, ho, hx, hrun, Result.andThen]
  rw [bs_size]
  refine hK _ _ (h _ _ ⟨by simp, ?_, ?_, by simp, .inr ⟨w.heap.size, 0, _, _, rfl, by rw [Lib.bytesWorld_size]; omega, Lib.bytesWorld_at_new _ _ _, ?_⟩⟩ ⟨rfl, rfl, rfl, by rw [Lib.bytesWorld_size]; omega, fun k o' hk _ => by rw [Lib.bytesWorld_at_old _ _ _ _ (lt_of_heap hk)]; exact hk⟩ (Lib.bytesWorld_size _ _ _))
  · have := grownCap_ge w (bs l).size 0 5; rw [bs_size] at this; exact this
  · have := grownCap_le_maxLen w (bs l).size 0 5 (by rw [bs_size]; unfold maxLen; omega); rw [bs_size] at this; exact this
  · intro j hj
    have hj' : j < l.length := by omega
    unfold Lib.bytesCells
    rw [Nat.zero_add, Array.getElem?_append_left (by simp [bs]; omega)]
    simp [bs, hj', u8]

theorem rd_fst {st : Option (List UInt8)} {N : Nat} (h : ∀ x, st = some x → x.length ≤ N) : (rdStep rtext [] st).1.length ≤ N := by
  cases st with
  | none => simp [rdStep]
  | some l =>
    simp only [rdStep]
    cases hfl : rtext l with
    | none => simp
    | some p =>
      have h0 := h l rfl
      simp only [rtext] at hfl
      cases hn : rnum 0 0 l with
      | none => rw [hn] at hfl; cases hfl
      | some q =>
        rw [hn] at hfl
        have := rnum_len 0 0 l q.1 q.2 hn
        simp only at hfl
        split at hfl
        · cases hfl; simp only; rw [List.length_take]; omega
        · cases hfl

set_option maxHeartbeats 2000000 in
set_option maxRecDepth 100000 in
theorem sFiles_any (w : World) (s : List UInt8) (hs : s.length ≤ 4194304) :
    Calls Tryz.prog 38 #[.string (bs s)] w fun e w' => FrA w w' ∧ ∃ ao cap vs, e = .returned (.slice ao (filesF s).length cap) ∧ FsT w' w'.heap.size ao (filesF s).length cap vs (filesF s) := by
  obtain ⟨st0, hst0⟩ : ∃ st, st = (rdStep (rnum 0 0) 0 (some s)).2 := ⟨_, rfl⟩
  obtain ⟨N0, hN0⟩ : ∃ N, N = (rdStep (rnum 0 0) 0 (some s)).1 := ⟨_, rfl⟩
  obtain ⟨N, hN⟩ : ∃ N, N = min N0 s.length := ⟨_, rfl⟩
  have hF : filesF s = rdFiles N st0 := by rw [hN, hN0, hst0]; rfl
  have hst : ∀ x, st0 = some x → x.length ≤ 4194304 := by
    rw [hst0]
    exact rd_len (fun l x r h => rnum_len 0 0 l x r h) (fun x hx => by cases hx; exact hs)
  rw [hF]
  have HST := Lib.hid (And.intro hst0 (And.intro hN0 (And.intro hN hst)))
  have hNl : N ≤ 4194304 := by omega
  have hsz : (bs s).size = s.length := bs_size s
  clear hF hst0 hN0 hst
  go_enter Tryz.func38, Tryz.ntmps38
  go_wp2_with (refine wp_conv_sb rfl _ rfl rfl hs ?_; intro cap1 w1 hs1 hf1 hz1)
  have hz1' : w.heap.size ≤ w1.heap.size := by omega
  clear hz1
  refine (NewReader_any w1 s s.length rfl hs1 (by omega)).mono ?_
  rintro e w2 ⟨br, T2, rfl, hbr, hT2, hrd, hf2, hz2⟩
  have hz2' : br < w2.heap.size := by omega
  have H2 := Lib.hid (And.intro hrd (hf1.trans hf2))
  clear hrd hf1 hf2 hz2 hs1
  go_wp2_with fail
  refine (RdNum_any w2 br T2 br _ H2.out.1 (Nat.le_refl _) (fun x hx => by cases hx; omega) (by omega)).mono ?_
  rw [← HST.out.1, ← HST.out.2.1]
  rintro e w3 ⟨rfl, hrd3, hf3⟩
  have H3 := Lib.hid (And.intro hrd3 (kb_fra H2.out.2 hf3 (by omega)))
  have hz3 := hf3.size
  clear hrd3 hf3
  have hmin : min (N0 : Int) (s.length : Int) = (N : Int) := by omega
  have hwr : IntKind.u64.wrap (s.length : Int) = (s.length : Int) := wraps_u64 _ (by omega) (by omega)
  unfold u64
  go_wp2_with fail
  go_loopw [4, 15] (fun outv i wr => ∃ (k : Nat) (acc : List Fv) (st : Option (List UInt8)), k ≤ N ∧ i = .int .u64 k ∧ acc.length = k ∧ rdFiles N st0 = acc.map (·.1) ++ rdFiles (N - k) st ∧ wr.ownsRow w.heap.size 51 3 outv k (acc.flatMap Fv.cells) ∧ (∀ q ∈ acc, FvOk wr q) ∧ Rd wr T2 br st ∧ (∀ x, st = some x → x.length ≤ 4194304) ∧ FrA w wr ∧ br < wr.heap.size) (fun _ i _ => N - (intOf i).toNat)
  case atStart => exact ⟨0, [], st0, Nat.zero_le _, rfl, rfl, by simp, World.ownsRow_nil _ _ _ _, by simp, H3.out.1, HST.out.2.2.2, H3.out.2, by omega⟩
  case round =>
    obtain ⟨k, acc, st, hk, rfl, hal, hrd, hown, hok, hR, hstl, hfr, hbrl⟩ := hrel
    obtain ⟨ao, cap, rfl⟩ := own_shape hown
    by_cases hkl : k < N
    · obtain ⟨a, ha⟩ : ∃ a, a = rdStep rtext [] st := ⟨_, rfl⟩
      obtain ⟨b, hb⟩ : ∃ b, b = rdStep rtext [] a.2 := ⟨_, rfl⟩
      obtain ⟨c, hc⟩ : ∃ c, c = rdStep rbool false b.2 := ⟨_, rfl⟩
      have hstep : rdFiles (N - k) st = ⟨a.1, c.1, b.1⟩ :: rdFiles (N - (k + 1)) c.2 := by
        rw [show N - k = (N - (k + 1)) + 1 from by omega, rdFiles, hc, hb, ha]
      have hal2 : ∀ x, a.2 = some x → x.length ≤ 4194304 := by rw [ha]; exact rd_len rtext_len hstl
      have hbl2 : ∀ x, b.2 = some x → x.length ≤ 4194304 := by rw [hb]; exact rd_len rtext_len hal2
      have hcl2 : ∀ x, c.2 = some x → x.length ≤ 4194304 := by rw [hc]; exact rd_len rbool_len hbl2
      have hb1l : b.1.length ≤ 4194304 := by rw [hb]; exact rd_fst hal2
      rw [hstep] at hrd
      have hszr := hfr.size
      have HK := Lib.hid (And.intro hrd (And.intro hown (And.intro hok (And.intro hR (And.intro hfr (And.intro ha (And.intro hb hc)))))))
      clear hrd hown hok hR hfr ha hb hc hstep
      go_wp2_with fail
      refine (RdText_any wr br T2 br st HK.out.2.2.2.1 (Nat.le_refl _) (fun x hx => by have := hstl x hx; omega) (by omega)).mono ?_
      rw [← HK.out.2.2.2.2.2.1]
      rintro e w5 ⟨rfl, hr5, hf5⟩
      have hz5 := hf5.size
      have H5 := Lib.hid (And.intro hr5 hf5)
      clear hr5 hf5
      go_wp2_with fail
      refine (RdText_any w5 br T2 br a.2 H5.out.1 (Nat.le_refl _) (fun x hx => by have := hal2 x hx; omega) (by omega)).mono ?_
      rw [← HK.out.2.2.2.2.2.2.1]
      rintro e w6 ⟨rfl, hr6, hf6⟩
      have hz6 := hf6.size
      have H6 := Lib.hid (And.intro hr6 hf6)
      clear hr6 hf6
      unfold strv
      go_wp2_with (refine wp_conv_sb rfl _ rfl rfl hb1l ?_; intro cap7 w7 hs7 hf7 hz7; have hz7' : w6.heap.size < w7.heap.size := (by omega); clear hz7)
      have hbF := heap_alloc_new w7 (.cells #[.string (bs a.1), .bool false, .slice (some ⟨w6.heap.size, 0, none⟩) b.1.length cap7] 51)
      have hr8 := (H6.out.1.keepAll hf7 (fun _ _ _ _ _ => trivial)).alloc (.cells #[.string (bs a.1), .bool false, .slice (some ⟨w6.heap.size, 0, none⟩) b.1.length cap7] 51)
      have hf8 := hf7.alloc (.cells #[.string (bs a.1), .bool false, .slice (some ⟨w6.heap.size, 0, none⟩) b.1.length cap7] 51)
      have hs8 := hs7.alloc (.cells #[.string (bs a.1), .bool false, .slice (some ⟨w6.heap.size, 0, none⟩) b.1.length cap7] 51)
      refine (RdBool_any _ br T2 br b.2 hr8 (Nat.le_refl _) (fun x hx => by have := hbl2 x hx; omega) (by simp; omega)).mono ?_
      rw [← HK.out.2.2.2.2.2.2.2]
      rintro e w9 ⟨rfl, hr9, hf9⟩
      have hbF9 := hf9.keep _ _ hbF (.inr (by simp [Obj.out]))
      have q1 : w9.cell? ⟨w7.heap.size, 1, none⟩ = some (.bool false) := cell_of_heap hbF9 1
      have q0 : w9.cell? ⟨w7.heap.size, 0, none⟩ = some (.string (bs a.1)) := cell_of_heap hbF9 0
      have q2 : w9.cell? ⟨w7.heap.size, 2, none⟩ = some (.slice (some ⟨w6.heap.size, 0, none⟩) b.1.length cap7) := cell_of_heap hbF9 2
      have qf := free_of_heap hbF9
      have hz9 := hf9.size
      simp only [World.size_alloc] at hz9
      have H9 := Lib.hid (And.intro hr9 (And.intro hf9 (And.intro hbF9 (And.intro hf8 hs8))))
      clear hr9 hf9 hbF9 hbF hr8 hf8 hs8 hs7 hf7
      have hown9 : w9.ownsRow w.heap.size 51 3 (.slice ao k cap) k (acc.flatMap Fv.cells) :=
        own_fr (own_fr (own_fr (own_fr HK.out.2.1 H5.out.2 fun _ _ _ _ _ => .inr (by simp [Obj.out])) H6.out.2 fun _ _ _ _ _ => .inr (by simp [Obj.out])) H9.out.2.2.2.1 fun _ _ _ _ _ => trivial) H9.out.2.1 fun _ _ _ _ _ => .inr (by simp [Obj.out])
      have hF9s : Fr (fun k _ => k ≠ w7.heap.size) w9 (w9.setCell ⟨w7.heap.size, 1, none⟩ (.bool c.1)) := (Fr.refl _ w9).setCell (fun _ _ h => h rfl) _
      have hownW : (w9.setCell ⟨w7.heap.size, 1, none⟩ (.bool c.1)).ownsRow w.heap.size 51 3 (.slice ao k cap) k (acc.flatMap Fv.cells) := own_fr hown9 hF9s fun g c f hg hc e => by
        obtain ⟨_, c', hc'⟩ := own_block HK.out.2.1 hg
        have := lt_of_heap hc'
        omega
      have HW := Lib.hid (And.intro hF9s hownW)
      have H9O := Lib.hid hown9
      clear hownW hown9 hF9s
      go_wp2_with (at_builtin; go_loud (refine app_sl elFile rfl (.tmp 26) (.tmp 28) rfl w.heap.size _ k (acc.flatMap Fv.cells) rfl (HW.out.2.alloc _) rfl (Sl.newAt _ _ [.string (bs a.1), .bool c.1, .slice (some ⟨w6.heap.size, 0, none⟩) b.1.length cap7] _ 3 1 1 rfl (Nat.le_refl _) (by decide) _ (by simp [World.setCell])) (fun u hu => by simp at hu; rcases hu with rfl | rfl | rfl <;> rfl) (by omega) (by simp [World.setCell]; omega) ?_); intro v10 w10 hown10 hgr10; obtain ⟨ao10, cp10, rfl⟩ := own_shape hown10)
      have hfa9 : FrA w w9 := kb_fra ((kb_fra (kb_fra HK.out.2.2.2.2.1 H5.out.2 (by omega)) H6.out.2 (by omega)).trans H9.out.2.2.2.1) H9.out.2.1 (by omega)
      have hfa10 : FrA w w10 := ((fra_k hfa9 HW.out.1 fun k o hk => by omega).alloc _).grownNew hgr10 (fun k e => (own_block HW.out.2 e).1)
      have hF10 : Fr (fun _ o => ∃ c ty f, o = Obj.cells c ty f ∧ (ty = 5 ∨ ty = 221)) w9 w10 := by
        refine (((Fr.refl _ w9).setCell (p := ⟨w7.heap.size, 1, none⟩) (fun o ho => ?_) (.bool c.1)).alloc (.cells #[.string (bs a.1), .bool c.1, .slice (some ⟨w6.heap.size, 0, none⟩) b.1.length cap7] 51)).grown hgr10 (fun kk o e ho => ?_)
        · rintro ⟨c', ty, f', rfl, hty⟩
          rw [H9.out.2.2.1] at ho; cases ho
          rcases hty with h | h <;> exact absurd h (by decide)
        · rintro ⟨c', ty, f', rfl, hty⟩
          have h9 : w9.ownsRow w.heap.size 51 3 (.slice ao k cap) k (acc.flatMap Fv.cells) := H9O.out
          obtain ⟨_, c2, hc2⟩ := own_block h9 e
          rw [hc2] at ho; cases ho
          rcases hty with h | h <;> exact absurd h (by decide)
      have hRd10 : Rd w10 T2 br c.2 := H9.out.1.keepAll hF10 fun k c t f h => ⟨c, t, f, rfl, by rcases h with h | h; exact .inl h; exact .inr h.1⟩
      have hF89 : ∀ (k : Nat) (c : Array Value) (f : Nat × Nat), KB br [221] k (.cells c 5 f) := fun _ _ _ => .inr (by simp [Obj.out])
      have hq : FvOk w10 (⟨a.1, c.1, b.1⟩, (some ⟨w6.heap.size, 0, none⟩, b.1.length, cap7)) := by
        refine ⟨rfl, ?_⟩
        have h1 := (H9.out.2.2.2.2.keep (w' := w9) fun k c f _ hc => H9.out.2.1.keep _ _ hc (hF89 _ _ _)).keep (w' := w10) fun k c f _ hc => hF10.keep _ _ hc ⟨c, _, f, rfl, .inl rfl⟩
        refine h1.mono ?_
        have := hF10.size; omega
      have hqs : ∀ q ∈ acc, FvOk w10 q := fun q hq' => ((((HK.out.2.2.1 q hq').fr H5.out.2 fun _ _ _ _ => hF89 _ _ _).fr H6.out.2 fun _ _ _ _ => hF89 _ _ _).fr H9.out.2.2.2.1 fun _ _ _ _ => trivial).fr H9.out.2.1 (fun _ _ _ _ => hF89 _ _ _) |>.fr hF10 fun k c f _ => ⟨c, _, f, rfl, .inl rfl⟩
      refine ⟨⟨k + 1, acc ++ [(⟨a.1, c.1, b.1⟩, (some ⟨w6.heap.size, 0, none⟩, b.1.length, cap7))], c.2, by omega, by go_num, by simp [hal], by rw [HK.out.1]; simp, ?_, ?_, hRd10, hcl2, hfa10, by have := hF10.size; omega⟩, by simp [intOf]; omega⟩
      · rw [List.flatMap_append]
        exact hown10
      · intro q hq'
        rcases List.mem_append.1 hq' with hq' | hq'
        · exact hqs q hq'
        · rw [List.mem_singleton] at hq'; subst hq'; exact hq
    · obtain rfl : k = N := by omega
      rw [Nat.sub_self] at hrd
      have hend : rdFiles k st0 = acc.map (·.1) := by rw [hrd]; simp [rdFiles]
      have HE := Lib.hid (And.intro hend (And.intro hown (And.intro hok hfr)))
      clear hend hrd hown hok hfr
      go_wp2
      go_ret
      rw [HE.out.1]
      subst hal
      exact ⟨HE.out.2.2.2, ao, cap, _, by rw [List.length_map]; rfl, by rw [List.length_map]; exact fsAt_of HE.out.2.1 HE.out.2.2.1⟩

end Go.Proofs.YtbhjdddiihfafaaGreatDoor
