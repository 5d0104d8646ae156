/- Package disk: a new one. -/
import Derived.Deep.AppendLies
import Derived.Deep.RegionLaw
import Derived.Test.YtbhjdddiihfafaaGreatDoorJDiskW
set_option linter.unusedVariables false
set_option linter.unusedSimpArgs false
namespace Go.Proofs.YtbhjdddiihfafaaGreatDoor
open Go.RowKit Go.Maps

def Dk.new (n size : Int) : Dk :=
  { sure := List.replicate (min (max n 1) 4096).toNat (List.replicate (min (max size 64) 4096).toNat 0), dirty := [], cut := -1, dead := false }

theorem Dk.new_ok (n size : Int) : (Dk.new n size).Ok := by
  have hN : 1 ≤ (min (max n 1) 4096).toNat ∧ (min (max n 1) 4096).toNat ≤ 4096 := by omega
  have hS : 64 ≤ (min (max size 64) 4096).toNat ∧ (min (max size 64) 4096).toNat ≤ 4096 := by omega
  have hsz : (Dk.new n size).size = (min (max size 64) 4096).toNat := by
    obtain ⟨m, hm⟩ : ∃ m, (min (max n 1) 4096).toNat = m + 1 := ⟨(min (max n 1) 4096).toNat - 1, by omega⟩
    simp [Dk.new, Dk.size, hm, List.replicate_succ]
  refine ⟨by simp [Dk.new]; omega, by simp [Dk.new]; omega, by rw [hsz]; omega, by rw [hsz]; omega, ?_, by simp [Dk.new], by simp [Dk.new], by simp [Dk.new], by simp [Dk.new]⟩
  intro b hb
  rw [hsz]
  simp [Dk.new] at hb
  rw [hb.2]; simp

theorem BsV.alloc {w : World} {v : Value} {l : List UInt8} (h : BsV w v l) (o : Obj) : BsV (w.alloc o) v l := h.fr ((Fr.refl (fun _ _ => True) _).alloc o) fun _ _ _ _ => trivial

theorem madeZeros (w : World) (S : Nat) (h : S ≤ maxLen) : BsV (w.alloc (.cells (madeCells #[.int .u8 0] S) 5)) (.slice (some ⟨w.heap.size, 0, none⟩) S S) (List.replicate S 0) := by
  refine ⟨_, S, by rw [List.length_replicate], ?_⟩
  have := Sl.new w (List.replicate S (.int .u8 0)) 5 1 S S (by simp) (Nat.le_refl _) h (0, 0)
  have e : (List.replicate S (Value.int .u8 0)).toArray = madeCells #[.int .u8 0] S := by
    apply Array.toList_inj.1
    rw [toList_madeCells_one]
  rw [e] at this
  rw [List.length_replicate, List.map_replicate]
  exact this.mono (by simp)

/-- One sector more. -/
theorem New_step {w wr w3 : World} {S k : Nat} {v v3 : Value} {vs : List Value} {o : Obj} {db mb : Nat} (hS : S ≤ maxLen) (hdb : w.heap.size ≤ db) (hmb : w.heap.size ≤ mb)
    (hd : wr.heap[db]? = some (.cells #[v, .map (some mb), .int .i64 (-1), .bool false] 83 (0, 0)))
    (hown : wr.ownsRow w.heap.size 41 1 v k vs) (hvs : All2 (BsV wr) vs (List.replicate k (List.replicate S 0))) (hmap : MapAt wr 3 mb []) (hfr : FrA w wr) (hlt : db < wr.heap.size)
    (hown3 : w3.ownsRow w.heap.size 41 1 v3 (k + 1) (vs ++ [.slice (some ⟨wr.heap.size, 0, none⟩) S S]))
    (hgr : (((wr.alloc (.cells (madeCells #[.int .u8 0] S) 5)).alloc o).drew).grownBy w3 v.ownBlock) :
    (w3.setCell ⟨db, 0, none⟩ v3).heap[db]? = some (.cells #[v3, .map (some mb), .int .i64 (-1), .bool false] 83 (0, 0)) ∧
    (w3.setCell ⟨db, 0, none⟩ v3).ownsRow w.heap.size 41 1 v3 (k + 1) (vs ++ [.slice (some ⟨wr.heap.size, 0, none⟩) S S]) ∧
    All2 (BsV (w3.setCell ⟨db, 0, none⟩ v3)) (vs ++ [.slice (some ⟨wr.heap.size, 0, none⟩) S S]) (List.replicate (k + 1) (List.replicate S 0)) ∧
    MapAt (w3.setCell ⟨db, 0, none⟩ v3) 3 mb [] ∧ FrA w (w3.setCell ⟨db, 0, none⟩ v3) ∧ db < (w3.setCell ⟨db, 0, none⟩ v3).heap.size := by
  have hd3 : w3.heap[db]? = some (.cells #[v, .map (some mb), .int .i64 (-1), .bool false] 83 (0, 0)) :=
    grown_same hgr (heap_alloc_keep (heap_alloc_keep hd _) _) (row_ne hown hd (by decide))
  have hfr3 : Fr (fun k _ => some k ≠ v.ownBlock) wr w3 := ((((Fr.refl _ wr).alloc _).alloc _).drew).grown hgr (fun k o e _ h => h e.symm)
  have hfr4 : Fr (fun k _ => some k ≠ v.ownBlock ∧ k ≠ db) wr (w3.setCell ⟨db, 0, none⟩ v3) := (hfr3.mono fun _ _ h => h.1).setCell (fun _ _ h => h.2 rfl) _
  have h5 : ∀ q c f, wr.heap[q]? = some (.cells c 5 f) → some q ≠ v.ownBlock ∧ q ≠ db := fun q c f hc => ⟨row_ne hown hc (by decide), ne_of_types hc hd (by decide)⟩
  refine ⟨heap_set hd3 0 _, ownsRow_setCell_other hown3 (fun e => row_ne hown3 hd3 (by decide) e.symm) _, ?_, ?_, ?_, ?_⟩
  · rw [List.replicate_succ', ]
    refine (hvs.mono fun _ _ _ _ h => h.fr hfr4 fun q c f hc => h5 q c f hc).append (All2.nil.cons ?_)
    have hz := (madeZeros wr S hS).alloc o
    obtain ⟨ao, cap, e, hs⟩ := hz
    refine ⟨ao, cap, e, (hs.keep fun q c f _ hc => ?_).mono (by have := hgr.size; simp [World.setCell] at this ⊢; omega)⟩
    have hne : some q ≠ v.ownBlock := by
      intro e
      obtain ⟨_, h2⟩ := hown
      rcases h2 with ⟨rfl, _⟩ | ⟨g, c', cur, rfl, hg, hh, _⟩
      · simp [Value.ownBlock] at e
      · simp [Value.ownBlock] at e
        subst e
        rw [heap_alloc_keep (heap_alloc_keep hh _) _] at hc
        cases hc
    have hq : w3.heap[q]? = some (.cells c 5 f) := grown_same hgr hc hne
    exact heap_set_ne hq (ne_of_types hq hd3 (by decide)) _
  · refine hmap.fr hfr4 fun es c => ⟨fun e => ?_, hmap.ne_cells hd⟩
    obtain ⟨_, h2⟩ := hown
    rcases h2 with ⟨rfl, _⟩ | ⟨g, c', cur, rfl, hg, hh, _⟩
    · simp [Value.ownBlock] at e
    · simp [Value.ownBlock] at e
      subst e
      exact hmap.ne_cells hh rfl
  · refine ⟨hfr4.os.trans hfr.os, hfr4.tape.trans hfr.tape, hfr4.output.trans hfr.output, Nat.le_trans hfr.size hfr4.size, fun q o ho _ => ?_⟩
    have hl := lt_of_heap ho
    refine hfr4.keep q o (hfr.keep q o ho trivial) ⟨fun e => ?_, by omega⟩
    have := (hown.lt q e.symm).1
    omega
  · have := hfr4.size; omega

set_option maxHeartbeats 1000000 in
set_option maxRecDepth 100000 in
theorem New_any (n size : Int) (w : World) : Calls Tryz.prog 9 #[.int .i64 n, .int .i64 size] w fun e w' =>
    ∃ d bs bm, e = .returned (.pointer (some ⟨d, 0, none⟩)) ∧ DiskAt w' d bs bm (Dk.new n size) ∧ w.heap.size ≤ d ∧ w.heap.size ≤ bs ∧ w.heap.size ≤ bm ∧ FrA w w' := by
  have hmm := @run_makeMap Tryz.prog
  obtain ⟨N, hN⟩ : ∃ N : Nat, (N : Int) = min (max n 1) 4096 := ⟨(min (max n 1) 4096).toNat, by omega⟩
  obtain ⟨S, hS⟩ : ∃ S : Nat, (S : Int) = min (max size 64) 4096 := ⟨(min (max size 64) 4096).toNat, by omega⟩
  have hD := Lib.hid (show Dk.new n size = { sure := List.replicate N (List.replicate S 0), dirty := [], cut := -1, dead := false } by
    rw [Dk.new, ← hN, ← hS, Int.toNat_natCast, Int.toNat_natCast])
  have bN : 1 ≤ N ∧ N ≤ 4096 := by omega
  have bS : 64 ≤ S ∧ S ≤ 4096 := by omega
  have HN := Lib.hid hN
  have HS := Lib.hid hS
  clear hN hS
  go_enter Tryz.func9, Tryz.ntmps9
  go_wp2_with fail
  refine (within_any _ _ _ _).mono ?_
  rintro e w1 ⟨rfl, rfl⟩
  rw [← HN.out]
  go_wp2_with fail
  have hmk : ∀ w, (Instr.makeSlice 41 (.int .i64 S) (.int .i64 S)).run Tryz.prog w = .ok (.slice (some ⟨w.heap.size, 0, none⟩) S S) (w.alloc (.cells (madeCells #[.int .u8 0] S) 5)) := fun w => by
    obtain ⟨i0, hi, hz0, hz1, hz2⟩ := info_parts elU8.info
    have := run_make (P := Tryz.prog) w 41 5 i0 _ elU8.und hi hz0 .i64 .i64 S S (by omega) (by omega) (by rw [hz2]; omega) (by omega)
    simpa [hz1, Value.cells] using this
  go_loopw [12] (fun i wr => ∃ (k : Nat) (v : Value) (vs : List Value), k ≤ N ∧ i = .int .i64 k ∧ wr.heap[w.heap.size + 1]? = some (.cells #[v, .map (some w.heap.size), .int .i64 (-1), .bool false] 83 (0, 0)) ∧
    wr.ownsRow w.heap.size 41 1 v k vs ∧ All2 (BsV wr) vs (List.replicate k (List.replicate S 0)) ∧ MapAt wr 3 w.heap.size [] ∧ FrA w wr ∧ w.heap.size + 1 < wr.heap.size) (fun i _ => N - (intOf i).toNat)
  case atStart => exact ⟨0, _, [], Nat.zero_le _, rfl, by have := heap_alloc_new (w.alloc (.map #[] 0)) (.cells #[.slice none 0 0, .map (some w.heap.size), .int .i64 (-1), .bool false] 83); simpa using this, World.ownsRow_nil _ _ _ _, All2.nil, (MapAt.made w _).alloc _, ((Fr.refl _ _).alloc _).alloc _, by simp⟩
  case round =>
    obtain ⟨k, v, vs, hk, rfl, hd, hown, hvs, hmap, hfr, hlt⟩ := hrel
    obtain ⟨ao, cp, rfl⟩ := own_shape hown
    have c0 : wr.cell? ⟨w.heap.size + 1, 0, none⟩ = some (.slice ao k cp) := cell_of_heap hd 0
    have f0 := free_of_heap hd 0
    by_cases hkn : k < N
    · have HV := Lib.hid hvs; clear hvs
      have hlt3 : w.heap.size < wr.heap.size := by omega
      go_wp2_with fail
      go_region_law (first | (go_simp; go_at_call 25; refine (within_any _ _ _ _).mono ?_; rintro e w2 ⟨rfl, rfl⟩; rw [← HS.out]) | (refine step_app elBytes rfl (.tmp 19) (.tmp 23) rfl w.heap.size _ k vs rfl ((hown.alloc _).alloc _).drew rfl (Sl.newAt _ _ [_] _ 1 1 1 rfl (Nat.le_refl _) (by decide) _ (by simp)) (fun u hu => by simp at hu; subst hu; rfl) (by omega) (by simp; omega) ?_; intro v' w3 hown3 hgr3; have hd3 := grown_same hgr3 (heap_alloc_keep (heap_alloc_keep hd _) _) (row_ne hown hd (by decide)); have k3 := cell_of_heap hd3 0; have f3 := free_of_heap hd3 0; obtain ⟨ao3, cp3, rfl⟩ := own_shape hown3))
      all_goals
        obtain ⟨r1, r2, r3, r4, r5, r6⟩ := New_step (S := S) (by unfold maxLen; omega) (by omega) (by omega) hd hown HV.out hmap hfr hlt hown3 hgr3
        clear hown hown3 hgr3 hd hd3 hmap c0 k3
        go_wp2
        go_roundw
        case rel => exact ⟨k + 1, _, _, by omega, by go_num, r1, r2, r3, r4, r5, r6⟩
        case measure => simp [intOf]; omega
    · go_wp2
      go_ret
      obtain rfl : k = N := by omega
      obtain ⟨bs, rfl⟩ : ∃ bs, ao = some ⟨bs, 0, none⟩ := by
        obtain ⟨_, h2⟩ := hown
        rcases h2 with ⟨_, h2⟩ | ⟨g, c', cur, e, _⟩
        · omega
        · cases e; exact ⟨g, rfl⟩
      have hb := hown.lt bs rfl
      refine ⟨w.heap.size + 1, bs, w.heap.size, rfl, ?_, by omega, hb.1, Nat.le_refl _, hfr⟩
      rw [hD.out]
      refine ⟨cp, vs, [], by simpa using hd, ?_, by simpa using hvs, by simpa using hmap, All2.nil⟩
      obtain ⟨h1, h2⟩ := hown
      refine ⟨by simpa using h1, ?_⟩
      rcases h2 with ⟨h2, _⟩ | ⟨g, c', cur, e, hg, r⟩
      · cases h2
      · exact .inr ⟨g, c', cur, by simpa using e, Nat.zero_le _, by simpa using r⟩
end Go.Proofs.YtbhjdddiihfafaaGreatDoor
