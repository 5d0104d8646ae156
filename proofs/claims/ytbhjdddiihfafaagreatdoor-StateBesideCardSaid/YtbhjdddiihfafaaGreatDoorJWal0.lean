/- Package wal: a log, and its small functions. -/
import Derived.Test.YtbhjdddiihfafaaGreatDoorJFlush
import Derived.Test.YtbhjdddiihfafaaGreatDoorJTry
set_option linter.unusedVariables false
set_option linter.unusedSimpArgs false
namespace Go.Proofs.YtbhjdddiihfafaaGreatDoor
open Go.RowKit Go.Maps

/-- A log: its disk; the turn, the next frame's number, the sector behind the last one, how many records; the sectors that began a frame that failed. -/
structure Lg where
  D : Dk
  turn : Nat
  next : Nat
  at_ : Nat
  count : Nat
  undone : List (Lit × Nat)

structure Ids where
  d : Nat
  bs : Nat
  bm : Nat
  bl : Nat
  bu : Nat

def Lg.half (L : Lg) : Nat := L.D.sure.length / 2
def Lg.size (L : Lg) : Nat := L.D.size - 16
def Lg.sectors (L : Lg) (n : Nat) : Nat := n / L.size + min (n % L.size) 1
def Lg.most (L : Lg) (a : Nat) : Nat := (L.half - a) * L.size

structure Lg.Ok (L : Lg) : Prop where
  disk : L.D.Ok
  n16 : 16 ≤ L.D.sure.length
  s128 : 128 ≤ L.D.size
  turn : L.turn < 18446744073709551616
  next : L.next ≤ L.at_
  at_ : L.at_ ≤ L.half
  count : L.count ≤ 4096 * L.at_
  und : ∀ p ∈ L.undone, (∃ i : Nat, p.1 = .int .i64 i ∧ i < L.D.sure.length) ∧ p.2 < 18446744073709551616
  rise : Rise L.undone

def u64s (l : List (Lit × Nat)) : List (Lit × Value) := l.map fun p => (p.1, u64 p.2)

structure LogAt (w : World) (I : Ids) (L : Lg) : Prop where
  disk : DiskAt w I.d I.bs I.bm L.D
  log : w.heap[I.bl]? = some (.cells #[.pointer (some ⟨I.d, 0, none⟩), .int .u64 L.turn, .int .u64 L.next, .int .i64 L.at_, .int .i64 L.count, .map (some I.bu)] 132 (0, 0))
  map : MapAt w 3 I.bu (u64s L.undone)
  ne : I.bm ≠ I.bu

/-- What a log's calls leave as it is. -/
abbrev LK (I : Ids) : Nat → Obj → Prop := fun k _ => k ≠ I.d ∧ k ≠ I.bs ∧ k ≠ I.bm ∧ k ≠ I.bl ∧ k ≠ I.bu

theorem DiskAt.fr {w w' : World} {d bs bm : Nat} {D : Dk} {K : Nat → Obj → Prop} (h : DiskAt w d bs bm D) (hfr : Fr K w w')
    (hd : ∀ c f, K d (.cells c 83 f)) (hs : ∀ c f, K bs (.cells c 41 f)) (hm : ∀ e c, K bm (.map e c)) (h8 : ∀ k c f, w.heap[k]? = some (.cells c 5 f) → K k (.cells c 5 f)) : DiskAt w' d bs bm D := by
  obtain ⟨cap, vs, ms, hd', hown, hvs, hmap, hms⟩ := h
  refine ⟨cap, vs, ms, hfr.keep _ _ hd' (hd _ _), ?_, hvs.mono fun _ _ _ _ h => h.fr hfr h8, hmap.fr hfr hm, hms.mono fun _ _ _ _ h => ⟨h.1, h.2.fr hfr h8⟩⟩
  obtain ⟨h1, h2⟩ := hown
  refine ⟨h1, ?_⟩
  rcases h2 with ⟨h2, _⟩ | ⟨g, c, cur, e, hg, hh, r⟩
  · cases h2
  · cases e
    exact .inr ⟨bs, cap, cur, rfl, hg, hfr.keep _ _ hh (hs _ _), r⟩

theorem DiskAt.own {w : World} {d bs bm : Nat} {D : Dk} (h : DiskAt w d bs bm D) : ∃ c f, w.heap[bs]? = some (.cells c 41 f) := by
  obtain ⟨cap, vs, ms, hd', hown, hvs, hmap, hms⟩ := h
  obtain ⟨c, hc, _⟩ := own_heap hown
  exact ⟨c, _, hc⟩

theorem DiskAt.cell {w : World} {d bs bm : Nat} {D : Dk} (h : DiskAt w d bs bm D) : ∃ c f, w.heap[d]? = some (.cells c 83 f) := by
  obtain ⟨cap, vs, ms, hd', _⟩ := h
  exact ⟨_, _, hd'⟩

theorem DiskAt.map {w : World} {d bs bm : Nat} {D : Dk} (h : DiskAt w d bs bm D) : ∃ kvs, MapAt w 3 bm kvs := by
  obtain ⟨cap, vs, ms, hd', hown, hvs, hmap, hms⟩ := h
  exact ⟨_, hmap⟩

section
variable {w w' : World} {I : Ids} {L : Lg}

/-- Behind a call that keeps all that a log is made of. -/
theorem LogAt.fr {K : Nat → Obj → Prop} (h : LogAt w I L) (hfr : Fr K w w') (hk : ∀ k o, (k = I.d ∨ k = I.bs ∨ k = I.bm ∨ k = I.bl ∨ k = I.bu) → w.heap[k]? = some o → K k o) (h8 : ∀ k c f, w.heap[k]? = some (.cells c 5 f) → K k (.cells c 5 f)) : LogAt w' I L := by
  have hf2 : Fr (fun k o => k = I.d ∨ k = I.bs ∨ k = I.bm ∨ k = I.bl ∨ k = I.bu ∨ ∃ c f, o = .cells c 5 f) w w' := hfr.mono' fun i o ho hi => by
    rcases hi with h | h | h | h | h | ⟨c, f, rfl⟩
    · exact hk i o (by simp [h]) ho
    · exact hk i o (by simp [h]) ho
    · exact hk i o (by simp [h]) ho
    · exact hk i o (by simp [h]) ho
    · exact hk i o (by simp [h]) ho
    · exact h8 i c f ho
  refine ⟨h.disk.fr hf2 (fun _ _ => by simp) (fun _ _ => by simp) (fun _ _ => by simp) (fun k c f _ => by simp), hf2.keep _ _ h.log (by simp), h.map.fr hf2 fun _ _ => by simp, h.ne⟩

theorem LogAt.fra (h : LogAt w I L) (hfr : FrA w w') : LogAt w' I L := h.fr hfr (fun _ _ _ _ => trivial) (fun _ _ _ _ => trivial)

theorem LogAt.nes (h : LogAt w I L) : I.bl ≠ I.d ∧ I.bl ≠ I.bs ∧ I.bl ≠ I.bm ∧ I.bl ≠ I.bu ∧ I.bu ≠ I.d ∧ I.bu ≠ I.bs ∧ I.bu ≠ I.bm := by
  obtain ⟨c, f, hs⟩ := h.disk.own
  obtain ⟨c', f', hd⟩ := h.disk.cell
  obtain ⟨kvs, hm⟩ := h.disk.map
  exact ⟨ne_of_types h.log hd (by decide), ne_of_types h.log hs (by decide), fun e => hm.ne_cells h.log e.symm, fun e => h.map.ne_cells h.log e.symm, h.map.ne_cells hd, h.map.ne_cells hs, h.ne.symm⟩

/-- Behind a call of the disk's. -/
theorem LogAt.disked {D' : Dk} (h : LogAt w I L) (hfr : Fr (DK I.d I.bs I.bm) w w') (hd : DiskAt w' I.d I.bs I.bm D') : LogAt w' I { L with D := D' } := by
  obtain ⟨n1, n2, n3, n4, n5, n6, n7⟩ := h.nes
  exact ⟨hd, hfr.keep _ _ h.log ⟨n1, n2, n3⟩, h.map.fr hfr fun _ _ => ⟨n5, n6, n7⟩, h.ne⟩

theorem Lg.Ok.size (hok : L.Ok) : 112 ≤ L.size ∧ L.size ≤ 4080 ∧ L.size + 16 = L.D.size := by
  have := hok.s128; have := hok.disk.s2; unfold Lg.size; omega

theorem Lg.Ok.half (hok : L.Ok) : 8 ≤ L.half ∧ L.half ≤ 2048 ∧ L.half * 2 ≤ L.D.sure.length := by
  have := hok.n16; have := hok.disk.n2; unfold Lg.half; omega

theorem wrap_small {a : Int} (h1 : -9223372036854775808 ≤ a) (h2 : a ≤ 9223372036854775807) : IntKind.i64.wrap a = a := by rw [IntKind.wrap_i64]; omega

theorem ret_int {a b : Int} (h : a = b) : Ending.returned (.int .i64 a) = .returned (.int .i64 b) := by rw [h]

theorem half_any (h : LogAt w I L) (hok : L.Ok) : Calls Tryz.prog 178 #[.pointer (some ⟨I.bl, 0, none⟩)] w fun e w' => e = .returned (.int .i64 L.half) ∧ w = w' := by
  have c0 : w.cell? ⟨I.bl, 0, none⟩ = some (.pointer (some ⟨I.d, 0, none⟩)) := cell_of_heap h.log 0
  have hS := Sectors_any h.disk
  have hn2 := hok.disk.n2
  have hh := Lib.hid (show (L.half : Int) = (L.D.sure.length : Int) / 2 by unfold Lg.half; omega)
  clear h hok
  go_enter Tryz.func178, Tryz.ntmps178
  go_wp2_with (go_at_call 59; refine hS.mono ?_; rintro e w1 ⟨rfl, rfl⟩)
  go_ret
  exact ⟨ret_int hh.out.symm, rfl⟩

theorem size_any (h : LogAt w I L) (hok : L.Ok) : Calls Tryz.prog 125 #[.pointer (some ⟨I.bl, 0, none⟩)] w fun e w' => e = .returned (.int .i64 L.size) ∧ w = w' := by
  have c0 : w.cell? ⟨I.bl, 0, none⟩ = some (.pointer (some ⟨I.d, 0, none⟩)) := cell_of_heap h.log 0
  have hS := Size_any h.disk hok.disk.n1
  have hs := Lib.hid (show (L.size : Int) = (L.D.size : Int) - 16 by have := hok.s128; unfold Lg.size; omega)
  have h2 := hok.disk.s2
  clear h hok
  go_enter Tryz.func125, Tryz.ntmps125
  go_wp2_with (go_at_call 60; refine hS.mono ?_; rintro e w1 ⟨rfl, rfl⟩)
  go_ret
  exact ⟨ret_int hs.out.symm, rfl⟩

set_option maxRecDepth 100000 in
theorem sectors_any (h : LogAt w I L) (hok : L.Ok) (n : Nat) (hn : n ≤ 140737488355328) : Calls Tryz.prog 128 #[.pointer (some ⟨I.bl, 0, none⟩), .int .i64 n] w fun e w' => e = .returned (.int .i64 (L.sectors n)) ∧ FrA w w' := by
  obtain ⟨s1, s2, s3⟩ := hok.size
  have hS := fun w' (h' : LogAt w' I L) => size_any h' hok
  have hlt : (n : Int) % (L.size : Int) < L.size := Int.emod_lt_of_pos _ (by omega)
  have hge : 0 ≤ (n : Int) % (L.size : Int) := Int.emod_nonneg _ (by omega)
  have hq0 : 0 ≤ (n : Int) / (L.size : Int) := Int.ediv_nonneg (by omega) (by omega)
  have hq1 : (n : Int) / (L.size : Int) ≤ n := Int.ediv_le_self _ (by omega)
  have hse : (L.sectors n : Int) = (n : Int) / (L.size : Int) + min ((n : Int) % (L.size : Int)) 1 := by unfold Lg.sectors; omega
  have hz : (L.size : Int) ≠ 0 := by omega
  have hd1 : (n : Int).tdiv L.size = (n : Int) / L.size := Int.tdiv_eq_ediv_of_nonneg (by omega)
  have hd2 : (n : Int).tmod L.size = (n : Int) % L.size := Int.tmod_eq_emod_of_nonneg (by omega)
  have hs1 := Lib.hid (show IntKind.i64.wrap (IntKind.i64.wrap ((n : Int) / (L.size : Int)) + min ((n : Int) % (L.size : Int)) 1) = (L.sectors n : Int) by rw [hse, wrap_small (a := (n : Int) / (L.size : Int)) (by omega) (by omega)]; exact wrap_small (by omega) (by omega))
  have hs2 := Lib.hid (show IntKind.i64.wrap ((n : Int) / (L.size : Int) + min ((n : Int) % (L.size : Int)) 1) = (L.sectors n : Int) by rw [hse]; exact wrap_small (by omega) (by omega))
  have HD0 := Lib.hid h
  have hs3 := Lib.hid hse
  clear hse hok h
  go_enter Tryz.func128, Tryz.ntmps128
  go_wp2_with fail
  go_quiet ((go_at_call 125; exact Calls.quiet_of_same ((hS _ ((HD0.out).fra ((Fr.refl _ w).drewN _))).mono fun _ _ ⟨e, h⟩ => ⟨e, h.symm⟩)))
  all_goals
    go_wp2
    go_ret
    first
      | exact ⟨ret_int hs1.out, (Fr.refl _ w).drewN _⟩
      | exact ⟨ret_int hs2.out, (Fr.refl _ w).drewN _⟩
      | exact ⟨ret_int hs3.out.symm, (Fr.refl _ w).drewN _⟩

set_option maxRecDepth 100000 in
theorem most_any (h : LogAt w I L) (hok : L.Ok) (a : Nat) (ha : a ≤ L.half) : Calls Tryz.prog 127 #[.pointer (some ⟨I.bl, 0, none⟩), .int .i64 a] w fun e w' => e = .returned (.int .i64 (L.most a)) ∧ w = w' := by
  obtain ⟨s1, s2, s3⟩ := hok.size
  obtain ⟨t1, t2, t3⟩ := hok.half
  have hS := size_any h hok
  have hH := half_any h hok
  have hm : (L.most a : Int) = ((L.half : Int) - a) * L.size := by
    unfold Lg.most
    rw [Int.natCast_mul, Int.ofNat_sub ha]
  have hb : ((L.half : Int) - a) * L.size ≤ 2048 * 4080 := Int.mul_le_mul (by omega) (by omega) (by omega) (by omega)
  have hb0 : 0 ≤ ((L.half : Int) - a) * L.size := Int.mul_nonneg (by omega) (by omega)
  have hm' := Lib.hid hm
  clear h hok hm
  go_enter Tryz.func127, Tryz.ntmps127
  go_wp2_with (first | (go_at_call 125; refine hS.mono ?_; rintro e w1 ⟨rfl, rfl⟩) | (go_at_call 178; refine hH.mono ?_; rintro e w1 ⟨rfl, rfl⟩))
  go_ret
  exact ⟨ret_int hm'.out.symm, rfl⟩

end

/-- A number's bytes, the highest first. -/
def be (m n : Nat) : List UInt8 := (List.range m).map fun i => UInt8.ofNat (n / 256 ^ (m - 1 - i))

theorem be_length (m n : Nat) : (be m n).length = m := by simp [be]

/-- The number of some bytes. -/
def beN (l : List UInt8) : Nat := l.foldl (fun n b => n * 256 + b.toNat) 0

theorem beN_lt (l : List UInt8) : beN l < 256 ^ l.length := by
  unfold beN
  have key : ∀ (l : List UInt8) (n k : Nat), n < 256 ^ k → l.foldl (fun n b => n * 256 + b.toNat) n < 256 ^ (k + l.length) := by
    intro l
    induction l with
    | nil => intro n k h; simpa using h
    | cons b r ih =>
      intro n k h
      rw [List.foldl_cons]
      have := ih (n * 256 + b.toNat) (k + 1) (by have := b.toNat_lt; rw [Nat.pow_succ]; omega)
      rw [List.length_cons]
      rwa [show k + (r.length + 1) = k + 1 + r.length by omega]
  simpa using key l 0 0 (by simp)

theorem shr_byte (n e : Nat) : (n : Int) / 2 ^ (8 * e) % 256 = ((UInt8.ofNat (n / 256 ^ e)).toNat : Int) := by
  have h1 : (2 : Int) ^ (8 * e) = ((2 ^ (8 * e) : Nat) : Int) := by rw [Int.natCast_pow]; rfl
  have h2 : (256 : Nat) ^ e = 2 ^ (8 * e) := by rw [show (256 : Nat) = 2 ^ 8 by rfl, ← Nat.pow_mul]
  have h3 : (n : Int) / ((2 ^ (8 * e) : Nat) : Int) = ((n / 2 ^ (8 * e) : Nat) : Int) := by rw [Int.natCast_ediv]
  rw [UInt8.toNat_ofNat', h2, h1, h3]
  generalize n / 2 ^ (8 * e) = x
  omega

theorem put_row {m n k off : Nat} {xs ys : List Value} (hk : k < m) (hc : off + m ≤ xs.length) (h : ys = xs.take off ++ ((be m n).take k).map u8 ++ xs.drop (off + k)) :
    ys.set (off + k) (.int .u8 ((n : Int) / 2 ^ (8 * (m - 1 - k)) % 256)) = xs.take off ++ ((be m n).take (k + 1)).map u8 ++ xs.drop (off + (k + 1)) := by
  have h1 : (be m n).take (k + 1) = (be m n).take k ++ [UInt8.ofNat (n / 256 ^ (m - 1 - k))] := by
    rw [List.take_succ_eq_append_getElem (by rw [be_length]; exact hk)]
    simp [be]
  have h2 : xs.drop (off + k) = xs[off + k] :: xs.drop (off + (k + 1)) := by rw [List.drop_eq_getElem_cons (by omega)]; rfl
  have h3 : (xs.take off ++ ((be m n).take k).map u8).length = off + k := by simp [be_length]; omega
  rw [h, h1, List.set_append_right _ _ (by rw [h3]; exact Nat.le_refl _), h3, Nat.sub_self, h2, shr_byte, List.set_cons_zero, List.map_append]
  simp [u8]

set_option maxRecDepth 100000 in
/-- 'put': bytes in the place of others, in whatever block. -/
theorem put_any (w : World) (b off m cap n : Nat) (c : Array Value) (t : TypeId) (hm : m ≤ 8) (hb : w.heap[b]? = some (.cells c t (0, 0))) (hc : off + m ≤ c.size) (hn : n < 18446744073709551616) :
    Calls Tryz.prog 199 #[.slice (some ⟨b, off, none⟩) m cap, .int .u64 n] w fun e w' => e = .returned (.tuple #[]) ∧ Fr (fun k _ => k ≠ b) w w' ∧ w'.heap.size = w.heap.size ∧
      ∃ c' : Array Value, w'.heap[b]? = some (.cells c' t (0, 0)) ∧ c'.toList = c.toList.take off ++ (be m n).map u8 ++ c.toList.drop (off + m) := by
  go_enter Tryz.func199, Tryz.ntmps199
  go_wp2
  go_loopw [7] (fun i wr => ∃ (k : Nat) (c' : Array Value), k ≤ m ∧ i = .int .i64 k ∧ Fr (fun k _ => k ≠ b) w wr ∧ wr.heap.size = w.heap.size ∧ wr.heap[b]? = some (.cells c' t (0, 0)) ∧
    c'.toList = c.toList.take off ++ ((be m n).take k).map u8 ++ c.toList.drop (off + k)) (fun i _ => m - (intOf i).toNat)
  case atStart => exact ⟨0, c, Nat.zero_le _, rfl, Fr.refl _ _, rfl, hb, by simp⟩
  case round =>
    obtain ⟨k, c', hk, rfl, hfr, hsz, hb', hc'⟩ := hrel
    by_cases hkl : k < m
    · have hlen : c'.size = c.size := by
        rw [← Array.length_toList, hc']; simp [be_length]; omega
      obtain ⟨x, hx⟩ : ∃ x, c'[off + k]? = some x := ⟨_, Array.getElem?_eq_getElem (by omega)⟩
      have c0 : wr.cell? ⟨b, off + k, none⟩ = some x := by rw [cell_of_heap hb']; exact hx
      have f0 := free_of_heap hb' (off + k)
      go_wp2
      go_roundw
      case rel =>
        refine ⟨k + 1, _, by omega, by go_num, hfr.setCell (fun _ _ h => h rfl) _, by simpa [World.setCell] using hsz, heap_set hb' _ _, ?_⟩
        rw [Array.toList_setIfInBounds]
        exact put_row hkl (by simpa using hc) hc'
      case measure => simp [intOf]; omega
    · obtain rfl : k = m := by omega
      go_wp2
      go_end0
      refine ⟨rfl, hfr, hsz, c', hb', ?_⟩
      have e : (be k n).take k = be k n := List.take_of_length_le (by rw [be_length]; exact Nat.le_refl _)
      rw [hc', e]

theorem beN_step (n : Nat) (x : UInt8) (hn : n < 2 ^ 56) : bits .or .u64 ((n : Int) * 256) ((x.toNat : Nat) : Int) = ((n * 256 + x.toNat : Nat) : Int) := by
  have h1 : ((n : Int) * 256) = ((n * 256 : Nat) : Int) := by omega
  have hx := x.toNat_lt
  rw [h1, or_u64 _ _ (by omega) (by omega)]
  have := Nat.two_pow_add_eq_or_of_lt (b := x.toNat) (i := 8) hx n
  rw [show n * 256 = 2 ^ 8 * n by omega, ← this]

theorem beN_take (l : List UInt8) (k : Nat) (x : UInt8) (h : l[k]? = some x) : beN (l.take (k + 1)) = beN (l.take k) * 256 + x.toNat := by
  have hk : k < l.length := (List.getElem?_eq_some_iff.1 h).1
  rw [List.take_succ_eq_append_getElem hk]
  rw [List.getElem?_eq_getElem hk] at h
  simp at h
  simp [beN, h]

set_option maxRecDepth 100000 in
theorem get_any (w : World) (l : List UInt8) {n T cap : Nat} {ao : Option Addr} (hn : l.length = n) (h8 : n ≤ 8) (hx : Sl w T 5 1 ao n cap (l.map u8)) :
    Calls Tryz.prog 126 #[.slice ao n cap] w fun e w' => e = .returned (.int .u64 (beN l)) ∧ w = w' := by
  subst hn
  go_enter Tryz.func126, Tryz.ntmps126
  go_wp2
  go_loopw [8, 3] (fun i a wr => ∃ (k : Nat), k ≤ l.length ∧ i = .int .i64 k ∧ a = .int .u64 (beN (l.take k)) ∧ w = wr) (fun i _ _ => l.length - (intOf i).toNat)
  case atStart => exact ⟨0, Nat.zero_le _, rfl, rfl, rfl⟩
  case round =>
    obtain ⟨k, hk, rfl, rfl, rfl⟩ := hrel
    by_cases hkl : k < l.length
    · obtain ⟨b, off, rfl, _, hcl⟩ := hx.at (by omega)
      obtain ⟨x, hxk⟩ : ∃ x, l[k]? = some x := ⟨_, List.getElem?_eq_getElem hkl⟩
      have c0 : w.cell? ⟨b, off + k, none⟩ = some (.int .u8 x.toNat) := by rw [hcl k (by omega)]; simp [hxk, u8]
      have hlt : beN (l.take k) < 2 ^ 56 := by
        have := beN_lt (l.take k)
        refine Nat.lt_of_lt_of_le this ?_
        rw [show (2 : Nat) ^ 56 = 256 ^ 7 by decide]
        exact Nat.pow_le_pow_right (by decide) (by simp; omega)
      have hst := beN_step _ x hlt
      have htk := beN_take l k x hxk
      rw [← htk] at hst
      have hxl := x.toNat_lt
      obtain ⟨a, ha⟩ : ∃ a, a = beN (l.take k) := ⟨_, rfl⟩
      obtain ⟨a', ha'⟩ : ∃ a, a = beN (l.take (k + 1)) := ⟨_, rfl⟩
      rw [← ha, ← ha'] at hst
      rw [← ha] at hlt ⊢
      have HA := Lib.hid ha'
      clear hcl htk ha ha'
      go_wp2
      go_roundw
      case rel => exact ⟨k + 1, by omega, by go_num, by rw [HA.out], trivial⟩
      case measure => simp [intOf]; omega
    · obtain rfl : k = l.length := by omega
      rw [List.take_length]
      go_wp2
      go_ret
      exact ⟨rfl, rfl⟩

theorem long_any (w : World) (ao : Option Addr) (n cap : Nat) : Calls Tryz.prog 144 #[.slice ao n cap] w fun e w' => e = .returned (.bool (decide (1048576 < n))) ∧ w = w' := by
  go_enter Tryz.func144, Tryz.ntmps144
  go_wp2
  go_ret
  refine ⟨?_, rfl⟩
  show Ending.returned (.bool _) = _
  congr 2
  simp
  omega

/-- Records in a row, below block T. -/
def Recs (w : World) (T : Nat) (vs : List Value) (rs : List (List UInt8)) : Prop := All2 (fun v r => ∃ ao cap, v = .slice ao r.length cap ∧ Sl w T 5 1 ao r.length cap (r.map u8)) vs rs

theorem Recs.fr {w w' : World} {K : Nat → Obj → Prop} {T : Nat} {vs : List Value} {rs : List (List UInt8)} (h : Recs w T vs rs) (hfr : Fr K w w') (hk : ∀ k c f, k < T → w.heap[k]? = some (.cells c 5 f) → K k (.cells c 5 f)) : Recs w' T vs rs :=
  All2.mono h fun _ _ _ _ ⟨ao, cap, e, hs⟩ => ⟨ao, cap, e, hs.keep fun b c f hb hc => hfr.keep _ _ hc (hk _ _ _ hb hc)⟩

set_option maxRecDepth 100000 in
theorem index_long (w : World) (vs : List Value) (rs : List (List UInt8)) {n T cap : Nat} {ao : Option Addr} (hn : vs.length = n) (hx : Sl w T 41 1 ao n cap vs) (hr : Recs w T vs rs) :
    Calls Tryz.prog 197 #[.slice ao n cap, .func (.func 144) #[] #[]] w fun e w' => (∃ i : Int, e = .returned (.int .i64 i) ∧ (0 ≤ i ↔ ∃ r ∈ rs, 1048576 < r.length) ∧ -1 ≤ i ∧ i ≤ 9223372036854775807) ∧ w = w' := by
  subst hn
  have hlr : rs.length = vs.length := hr.1.symm
  have hmx : vs.length ≤ 9223372036854775807 := by have := hx.2.1; have := hx.2.2.1; unfold maxLen at this; omega
  go_enter Tryz.func197, Tryz.ntmps197
  go_wp2
  go_loopw [8] (fun i wr => ∃ (k : Nat), k ≤ vs.length ∧ i = .int .i64 k ∧ (∀ r ∈ rs.take k, ¬ 1048576 < r.length) ∧ w = wr) (fun i _ => vs.length - (intOf i).toNat)
  case atStart => exact ⟨0, Nat.zero_le _, rfl, by simp, rfl⟩
  case round =>
    obtain ⟨k, hk, rfl, hno, rfl⟩ := hrel
    by_cases hkl : k < vs.length
    · obtain ⟨b, off, rfl, _, hcl⟩ := hx.at (by omega)
      obtain ⟨v, hv⟩ : ∃ v, vs[k]? = some v := ⟨_, List.getElem?_eq_getElem hkl⟩
      obtain ⟨r, hrk, ao', cap', rfl, _⟩ := All2.get' hr hv
      have c0 : w.cell? ⟨b, off + k, none⟩ = some (.slice ao' r.length cap') := by rw [hcl k (by omega)]; exact hv
      have HN := Lib.hid hno
      clear hcl hno hr hx
      by_cases hl : 1048576 < r.length
      · have hd : decide (1048576 < r.length) = true := by simpa using hl
        have hin := Lib.hid (show ∃ r ∈ rs, 1048576 < r.length from ⟨r, List.mem_of_getElem? hrk, hl⟩)
        clear hl
        go_wp2_with fail
        refine (long_any _ _ _ _).mono ?_
        rintro e w1 ⟨rfl, rfl⟩
        rw [hd]
        go_wp2
        go_ret
        exact ⟨⟨k, rfl, ⟨fun _ => hin.out, fun _ => by omega⟩, by omega, by omega⟩, rfl⟩
      · have hd : decide (1048576 < r.length) = false := by simpa using hl
        have hin := Lib.hid (show ∀ r ∈ rs.take (k + 1), ¬ 1048576 < r.length by
          intro q hq
          have hkr : k < rs.length := by omega
          rw [List.take_succ_eq_append_getElem hkr] at hq
          rcases List.mem_append.1 hq with hq | hq
          · exact HN.out q hq
          · simp at hq
            rw [List.getElem?_eq_getElem hkr] at hrk
            simp at hrk
            rw [hq, hrk]; exact hl)
        clear hl
        go_wp2_with fail
        refine (long_any _ _ _ _).mono ?_
        rintro e w1 ⟨rfl, rfl⟩
        rw [hd]
        go_wp2
        go_roundw
        case rel => exact ⟨k + 1, by omega, by go_num, hin.out, trivial⟩
        case measure => simp [intOf]; omega
    · obtain rfl : k = vs.length := by omega
      rw [List.take_of_length_le (by omega)] at hno
      have HN := Lib.hid hno; clear hno
      go_wp2
      go_ret
      refine ⟨⟨-1, rfl, ⟨fun h => by omega, fun ⟨r, h1, h2⟩ => absurd h2 (HN.out r h1)⟩, by omega, by omega⟩, rfl⟩

def tooLong (rs : List (List UInt8)) : Bool := rs.any fun r => decide (1048576 < r.length)

theorem contains_long (w : World) (vs : List Value) (rs : List (List UInt8)) {n T cap : Nat} {ao : Option Addr} (hn : vs.length = n) (hx : Sl w T 41 1 ao n cap vs) (hr : Recs w T vs rs) :
    Calls Tryz.prog 143 #[.slice ao n cap, .func (.func 144) #[] #[]] w fun e w' => e = .returned (.bool (tooLong rs)) ∧ w = w' := by
  have hI := index_long w vs rs hn hx hr
  clear hx hr
  go_enter Tryz.func143, Tryz.ntmps143
  go_wp2_with fail
  refine hI.mono ?_
  rintro e w1 ⟨⟨i, rfl, h1, h2, h3⟩, rfl⟩
  have ht : tooLong rs = decide (0 ≤ i) := by
    unfold tooLong
    rw [Bool.eq_iff_iff, List.any_eq_true]
    simp only [decide_eq_true_eq]
    exact ⟨fun h => h1.2 h, fun h => h1.1 h⟩
  have HT := Lib.hid ht
  clear ht h1 hI
  go_wp2
  go_ret
  refine ⟨?_, rfl⟩
  rw [HT.out]
  rfl

/-- The records of a frame. -/
def body (rs : List (List UInt8)) : List UInt8 := rs.flatMap fun r => be 4 r.length ++ r

theorem body_take (rs : List (List UInt8)) (k : Nat) (r : List UInt8) (h : rs[k]? = some r) : body (rs.take (k + 1)) = body (rs.take k) ++ (be 4 r.length ++ r) := take_flat' _ rs k r h

def signB : List UInt8 := [72, 65, 86, 69, 82, 83, 65, 75]

def frameB (turn next : Nat) (rs : List (List UInt8)) : List UInt8 := signB ++ be 8 turn ++ be 8 next ++ be 8 (body rs).length ++ body rs

theorem frameB_length (turn next : Nat) (rs : List (List UInt8)) : (frameB turn next rs).length = 32 + (body rs).length := by simp [frameB, signB, be_length]; omega

section
variable {w : World} {I : Ids} {L : Lg}

set_option maxRecDepth 100000 in
theorem bytes_any (h : LogAt w I L) (hok : L.Ok) (vs : List Value) (rs : List (List UInt8)) {n T cap : Nat} {ao : Option Addr} (hn : vs.length = n) (hx : Sl w T 41 1 ao n cap vs) (hr : Recs w T vs rs) (hl : tooLong rs = false) :
    Calls Tryz.prog 145 #[.pointer (some ⟨I.bl, 0, none⟩), .slice ao n cap] w fun e w' => e = .returned (.int .i64 (min (32 + (body rs).length) (L.D.sure.length * L.D.size + 1) : Nat)) ∧ FrA w w' := by
  subst hn
  have hlr : rs.length = vs.length := hr.1.symm
  have hmx : vs.length ≤ 9223372036854775807 := by have := hx.2.1; have := hx.2.2.1; unfold maxLen at this; omega
  have c0 : w.cell? ⟨I.bl, 0, none⟩ = some (.pointer (some ⟨I.d, 0, none⟩)) := cell_of_heap h.log 0
  have HD := Lib.hid (h.fra (w' := w.drew) (Fr.refl _ w).drew)
  have hb1 : L.D.sure.length * L.D.size ≤ 4096 * 4096 := Nat.mul_le_mul hok.disk.n2 hok.disk.s2
  have hb2 : 16 * 128 ≤ L.D.sure.length * L.D.size := Nat.mul_le_mul hok.n16 hok.s128
  have hn1 := hok.disk.n1
  have hsz := hok.disk.s2
  have hn2 := hok.disk.n2
  obtain ⟨M, hM⟩ : ∃ M : Nat, M = L.D.sure.length * L.D.size := ⟨_, rfl⟩
  have hMi : (L.D.sure.length : Int) * (L.D.size : Int) = (M : Int) := by rw [hM]; simp
  rw [← hM] at hb1 hb2 ⊢
  have HM := Lib.hid hM
  have hlong : ∀ r ∈ rs, r.length ≤ 1048576 := fun r hr => by
    have := List.any_eq_false.1 hl r hr
    simpa using this
  have HL := Lib.hid hlong
  clear h hok hM hl hlong
  go_enter Tryz.func145, Tryz.ntmps145
  go_wp2_with fail
  go_region_held3 (fun w' => w' = w.drew ∧ w'.cell? ⟨I.bl, 0, none⟩ = some (.pointer (some ⟨I.d, 0, none⟩))) (first | assumption | exact ⟨rfl, c0⟩) (first | (go_at_call 59; refine (Sectors_any HD.out.disk).mono ?_; rintro e w1 ⟨rfl, rfl⟩) | (go_at_call 60; refine (Size_any HD.out.disk hn1).mono ?_; rintro e w1 ⟨rfl, rfl⟩))
  go_wp2_with fail
  have hlb : ∀ k, k ≤ rs.length → (body (rs.take k)).length ≤ (body rs).length := fun k _ => by
    unfold body
    conv => rhs; rw [← List.take_append_drop k rs]
    rw [List.flatMap_append, List.length_append]
    omega
  go_loopw [26, 6] (fun i a wr => ∃ (k : Nat), k ≤ vs.length ∧ i = .int .i64 k ∧ a = .int .i64 (min (32 + (body (rs.take k)).length) (M + 1) : Nat) ∧ wr = w.drew) (fun i _ _ => vs.length - (intOf i).toNat)
  case atStart => exact ⟨0, Nat.zero_le _, rfl, by simp [body]; omega, rfl⟩
  case round =>
    obtain ⟨k, hk, rfl, rfl, rfl⟩ := hrel
    by_cases hkl : k < vs.length
    · obtain ⟨b, off, rfl, _, hcl⟩ := hx.at (by omega)
      obtain ⟨v, hv⟩ : ∃ v, vs[k]? = some v := ⟨_, List.getElem?_eq_getElem hkl⟩
      obtain ⟨r, hrk, ao', cap', rfl, _⟩ := All2.get' hr hv
      have c1 : w.cell? ⟨b, off + k, none⟩ = some (.slice ao' r.length cap') := by rw [hcl k (by omega)]; exact hv
      have hrl := HL.out r (List.mem_of_getElem? hrk)
      have hst := Lib.hid (show (body (rs.take (k + 1))).length = (body (rs.take k)).length + 4 + r.length by rw [body_take _ _ _ hrk]; simp [be_length]; omega)
      obtain ⟨a, ha⟩ : ∃ a : Nat, a = min (32 + (body (rs.take k)).length) (M + 1) := ⟨_, rfl⟩
      rw [← ha]
      have ham : a ≤ M + 1 := by omega
      have HA := Lib.hid ha
      clear hcl hr hx ha
      go_wp2
      go_roundw
      case rel =>
        refine ⟨k + 1, by omega, by go_num, ?_, trivial⟩
        rw [hst.out]
        have := HA.out
        congr 1
        omega
      case measure => simp [intOf]; omega
    · obtain rfl : k = vs.length := by omega
      rw [List.take_of_length_le (by omega)]
      go_wp2
      go_ret
      exact ⟨rfl, (Fr.refl _ w).drew⟩

end
end Go.Proofs.YtbhjdddiihfafaaGreatDoor
