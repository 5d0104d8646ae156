/- Package wal: 'Open', of a log that was never reset, on a disk that never fails. -/
import Derived.Deep.RegionHeld3
import Derived.Test.YtbhjdddiihfafaaGreatDoorJWBeg
set_option linter.unusedVariables false
set_option linter.unusedSimpArgs false
namespace Go.Proofs.YtbhjdddiihfafaaGreatDoor
open Go.RowKit Go.Maps

section
variable {w : World} {I : Ids} {L : Lg} {C : List (List UInt8)} {sz : Nat}

/-- What the reading of one frame more comes to. -/
def OpClo (w : World) (b8 b9 : Nat) (r : Option (Nat × List (List UInt8) × Nat)) (e : Ending) (w' : World) : Prop :=
  match r with
  | some (0, rs, m) => e = .returned (.tuple #[]) ∧ ∃ v vs, w'.heap[b8]? = some (.cells #[v] 69 (0, 0)) ∧ w'.heap[b9]? = some (.cells #[.int .i64 m] 3 (0, 0)) ∧
      w'.ownsRow w.heap.size 41 1 v rs.length vs ∧ Recs w' w'.heap.size vs rs ∧ Fr (fun k _ => k ≠ b8 ∧ k ≠ b9) w w'
  | _ => e = .panicked (wstop 0) ∧ FrA w w'

set_option maxHeartbeats 1000000 in
set_option maxRecDepth 100000 in
theorem opClo_any (h : LogAt w I L) (hok : L.Ok) (hw : L.D.Well C sz) (ht : L.turn = 0) (b5 b8 b9 : Nat) (h5 : w.heap[b5]? = some (.cells #[.pointer (some ⟨I.bl, 0, none⟩)] 68 (0, 0)))
    (h8 : w.heap[b8]? = some (.cells #[.slice none 0 0] 69 (0, 0))) (h9 : w.heap[b9]? = some (.cells #[.int .i64 0] 3 (0, 0))) :
    Calls Tryz.prog 63 #[.pointer (some ⟨b5, 0, none⟩), .pointer (some ⟨b8, 0, none⟩), .pointer (some ⟨b9, 0, none⟩)] w (OpClo w b8 b9 (openF C sz L.half 0 L.at_ L.next)) := by
  have q1 := hok.next
  have q2 := hok.at_
  have q3 := hok.half
  have HO := Lib.hid (fun w' (hf : FrA w w') => open_any (h.fra hf) hok hw 0 L.at_ L.next (by omega) (by omega) (by omega))
  have c5 : w.cell? ⟨b5, 0, none⟩ = some (.pointer (some ⟨I.bl, 0, none⟩)) := cell_of_heap h5 0
  have c1 : w.cell? ⟨I.bl, 1, none⟩ = some (.int .u64 0) := by have := cell_of_heap h.log 1; rw [ht] at this; exact this
  have c2 : w.cell? ⟨I.bl, 2, none⟩ = some (.int .u64 L.next) := cell_of_heap h.log 2
  have c3 : w.cell? ⟨I.bl, 3, none⟩ = some (.int .i64 L.at_) := cell_of_heap h.log 3
  have H := Lib.hid (And.intro h (And.intro h5 (And.intro h8 (And.intro h9 ht))))
  have hcell : Hid (∀ w', FrA w w' → w'.cell? ⟨b5, 0, none⟩ = some (.pointer (some ⟨I.bl, 0, none⟩)) ∧ w'.cell? ⟨I.bl, 1, none⟩ = some (.int .u64 0)) := Lib.hid fun w' hf => by
    have h1 := cell_of_heap (H.out.1.fra hf).log 1
    rw [ht] at h1
    exact ⟨cell_of_heap (hf.keep _ _ H.out.2.1 trivial) 0, h1⟩
  generalize hr : openF C sz L.half 0 L.at_ L.next = r at HO ⊢
  clear h hok hw ht hr h5 h8 h9
  go_enter Tryz.func63, Tryz.ntmps63
  go_wp2_with fail
  rcases r with _ | ⟨t, rs, m⟩
  · refine wp_region_held_drew (S := fun w' => w'.cell? ⟨b5, 0, none⟩ = some (.pointer (some ⟨I.bl, 0, none⟩)) ∧ w'.cell? ⟨I.bl, 1, none⟩ = some (.int .u64 0) ∧ w'.cell? ⟨I.bl, 2, none⟩ = some (.int .u64 L.next) ∧ w'.cell? ⟨I.bl, 3, none⟩ = some (.int .i64 L.at_)) (by kernel_rfl) ⟨c5, c1, c2, c3⟩ (fun hHeld => ?_)
    refine wpAnyH_take (i := 0) (v := ?_) rfl (by kernel_rfl) (by kernel_rfl) (by kernel_rfl) (fun _ _ _ h => h) (Or.inl ⟨by rfl, ?_⟩) (by assumption) ?_
    rotate_left
    · intro w hSw
      try dsimp only at hSw
      go_simp
      try with_reducible rfl
    try simp only [Act.put, List.setIfInBounds_toArray, List.set_cons_zero, List.set_cons_succ]
    refine wpAnyH_take (i := 1) (v := ?_) rfl (by kernel_rfl) (by kernel_rfl) (by kernel_rfl) (fun _ _ _ h => h) (Or.inl ⟨by rfl, ?_⟩) (by assumption) ?_
    rotate_left
    · intro w hSw
      try dsimp only at hSw
      go_simp
      try with_reducible rfl
    try simp only [Act.put, List.setIfInBounds_toArray, List.set_cons_zero, List.set_cons_succ]
    refine wpAnyH_take (i := 2) (v := ?_) rfl (by kernel_rfl) (by kernel_rfl) (by kernel_rfl) (fun _ _ _ h => h) (Or.inl ⟨by rfl, ?_⟩) (by assumption) ?_
    rotate_left
    · intro w hSw
      try dsimp only at hSw
      go_simp
      try with_reducible rfl
    try simp only [Act.put, List.setIfInBounds_toArray, List.set_cons_zero, List.set_cons_succ]
    refine wpAnyH_take (i := 3) (v := ?_) rfl (by kernel_rfl) (by kernel_rfl) (by kernel_rfl) (fun _ _ _ h => h) (Or.inl ⟨by rfl, ?_⟩) (by assumption) ?_
    rotate_left
    · intro w hSw
      try dsimp only at hSw
      go_simp
      try with_reducible rfl
    try simp only [Act.put, List.setIfInBounds_toArray, List.set_cons_zero, List.set_cons_succ]
    refine wpAnyH_take (i := 4) (v := ?_) rfl (by kernel_rfl) (by kernel_rfl) (by kernel_rfl) (fun _ _ _ h => h) (Or.inl ⟨by rfl, ?_⟩) (by assumption) ?_
    rotate_left
    · intro w hSw
      try dsimp only at hSw
      go_simp
      try with_reducible rfl
    try simp only [Act.put, List.setIfInBounds_toArray, List.set_cons_zero, List.set_cons_succ]
    refine wpAnyH_take (i := 5) (v := ?_) rfl (by kernel_rfl) (by kernel_rfl) (by kernel_rfl) (fun _ _ _ h => h) (Or.inl ⟨by rfl, ?_⟩) (by assumption) ?_
    rotate_left
    · intro w hSw
      try dsimp only at hSw
      go_simp
      try with_reducible rfl
    try simp only [Act.put, List.setIfInBounds_toArray, List.set_cons_zero, List.set_cons_succ]
    refine wpAnyH_take (i := 6) (v := ?_) rfl (by kernel_rfl) (by kernel_rfl) (by kernel_rfl) (fun _ _ _ h => h) (Or.inl ⟨by rfl, ?_⟩) (by assumption) ?_
    rotate_left
    · intro w hSw
      try dsimp only at hSw
      go_simp
      try with_reducible rfl
    try simp only [Act.put, List.setIfInBounds_toArray, List.set_cons_zero, List.set_cons_succ]
    refine wpAnyH_take (i := 7) (v := ?_) rfl (by kernel_rfl) (by kernel_rfl) (by kernel_rfl) (fun _ _ _ h => h) (Or.inl ⟨by rfl, ?_⟩) (by assumption) ?_
    rotate_left
    · intro w hSw
      try dsimp only at hSw
      go_simp
      try with_reducible rfl
    try simp only [Act.put, List.setIfInBounds_toArray, List.set_cons_zero, List.set_cons_succ]
    refine wpAnyH_take (i := 8) (v := ?_) rfl (by kernel_rfl) (by kernel_rfl) (by kernel_rfl) (fun _ _ _ h => h) (Or.inl ⟨by rfl, ?_⟩) (by assumption) ?_
    rotate_left
    · intro w hSw
      try dsimp only at hSw
      go_simp
      try with_reducible rfl
    try simp only [Act.put, List.setIfInBounds_toArray, List.set_cons_zero, List.set_cons_succ]
    refine wpAnyH_take (i := 9) (v := ?_) rfl (by kernel_rfl) (by kernel_rfl) (by kernel_rfl) (fun _ _ _ h => h) (Or.inl ⟨by rfl, ?_⟩) (by assumption) ?_
    rotate_left
    · intro w hSw
      try dsimp only at hSw
      go_simp
      try with_reducible rfl
    try simp only [Act.put, List.setIfInBounds_toArray, List.set_cons_zero, List.set_cons_succ]
    refine wpAnyH_take (i := 10) (v := ?_) rfl (by kernel_rfl) (by kernel_rfl) (by kernel_rfl) (fun _ _ _ h => h) (Or.inl ⟨by rfl, ?_⟩) (by assumption) ?_
    rotate_left
    · intro w hSw
      try dsimp only at hSw
      go_simp
      try with_reducible rfl
    try simp only [Act.put, List.setIfInBounds_toArray, List.set_cons_zero, List.set_cons_succ]
    refine wpAnyH_take (i := 11) (v := ?_) rfl (by kernel_rfl) (by kernel_rfl) (by kernel_rfl) (fun _ _ _ h => h) (Or.inl ⟨by rfl, ?_⟩) (by assumption) ?_
    rotate_left
    · intro w hSw
      try dsimp only at hSw
      go_simp
      try with_reducible rfl
    try simp only [Act.put, List.setIfInBounds_toArray, List.set_cons_zero, List.set_cons_succ]
    refine wpAnyH_take (i := 12) (v := ?_) rfl (by kernel_rfl) (by kernel_rfl) (by kernel_rfl) (fun _ _ _ h => h) (Or.inl ⟨by rfl, ?_⟩) (by assumption) ?_
    rotate_left
    · intro w hSw
      try dsimp only at hSw
      go_simp
      try with_reducible rfl
    try simp only [Act.put, List.setIfInBounds_toArray, List.set_cons_zero, List.set_cons_succ]
    refine wpAnyH_take (i := 13) (v := ?_) rfl (by kernel_rfl) (by kernel_rfl) (by kernel_rfl) (fun _ _ _ h => h) (Or.inl ⟨by rfl, ?_⟩) (by assumption) ?_
    rotate_left
    · intro w hSw
      try dsimp only at hSw
      go_simp
      try with_reducible rfl
    try simp only [Act.put, List.setIfInBounds_toArray, List.set_cons_zero, List.set_cons_succ]
    refine wpAnyH_take (i := 14) (v := ?_) rfl (by kernel_rfl) (by kernel_rfl) (by kernel_rfl) (fun _ _ _ h => h) (Or.inl ⟨by rfl, ?_⟩) (by assumption) ?_
    rotate_left
    · intro w hSw
      try dsimp only at hSw
      go_simp
      try with_reducible rfl
    try simp only [Act.put, List.setIfInBounds_toArray, List.set_cons_zero, List.set_cons_succ]
    refine wpAnyH_ready (rs := [15]) (by kernel_rfl) (by simp) ?_
    refine AllReadyH.cons rfl (fun K hK => ?_) AllReadyH.nil
    go_simp
    refine (HO.out _ (Fr.refl _ w).drew).mono ?_
    rintro e w1 ⟨hf1, rfl⟩
    exact ⟨rfl, rfl, ((Fr.refl _ w).drew).trans hf1⟩
  · go_region_held3 (fun w' => w'.cell? ⟨b5, 0, none⟩ = some (.pointer (some ⟨I.bl, 0, none⟩)) ∧ w'.cell? ⟨I.bl, 1, none⟩ = some (.int .u64 0) ∧ w'.cell? ⟨I.bl, 2, none⟩ = some (.int .u64 L.next) ∧ w'.cell? ⟨I.bl, 3, none⟩ = some (.int .i64 L.at_)) (first | exact ⟨c5, c1, c2, c3⟩ | exact ⟨(hcell.out _ hfc).1, (hcell.out _ hfc).2, k2, k3⟩) (first | (go_at_call 64; (refine (HO.out _ (Fr.refl _ w).drew).mono ?_); rintro e w1 ⟨hf1, v, vs, rfl, h6, h7⟩; have hfc : FrA w w1 := (Fr.refl _ w).drew.trans hf1; have k2 : w1.cell? ⟨I.bl, 2, none⟩ = some (.int .u64 L.next) := cell_of_heap (H.out.1.fra hfc).log 2; have k3 : w1.cell? ⟨I.bl, 3, none⟩ = some (.int .i64 L.at_) := cell_of_heap (H.out.1.fra hfc).log 3; obtain ⟨ao, cp, rfl⟩ := own_shape h6))
    have kc := hcell.out _ hfc
    obtain ⟨d5, d1⟩ := kc
    have k8 := hfc.keep _ _ H.out.2.2.1 trivial
    have k9 := hfc.keep _ _ H.out.2.2.2.1 trivial
    have d8 : w1.cell? ⟨b8, 0, none⟩ = some (.slice none 0 0) := cell_of_heap k8 0
    have d9 : w1.cell? ⟨b9, 0, none⟩ = some (.int .i64 0) := cell_of_heap k9 0
    have f8 := free_of_heap k8 0
    have f9 := free_of_heap k9 0
    have hne : b8 ≠ b9 := ne_of_types k8 k9 (by decide)
    have hne' : b9 ≠ b8 := hne.symm
    have HX := Lib.hid (And.intro h6 (And.intro h7 (And.intro hfc (And.intro k8 k9))))
    clear h6 h7 hfc k8 k9 hf1
    by_cases ht0 : t = 0
    · subst ht0
      go_wp2_with (go_at_call 65; (with_reducible refine (wmust_true _ _).mono ?_); rintro e w2 ⟨rfl, rfl⟩)
      go_end0
      obtain ⟨h6, h7, hfc, k8, k9⟩ := HX.out
      have g8 := heap_set k8 0 (.slice ao rs.length cp)
      have g9 := heap_set (heap_set_ne k9 (p := ⟨b8, 0, none⟩) hne' (.slice ao rs.length cp)) 0 (.int .i64 m)
      have hft : Fr (fun k _ => k ≠ b8 ∧ k ≠ b9) w1 ((w1.setCell ⟨b8, 0, none⟩ (.slice ao rs.length cp)).setCell ⟨b9, 0, none⟩ (.int .i64 m)) := ((Fr.refl _ w1).setCell (fun _ _ h => h.1 rfl) _).setCell (fun _ _ h => h.2 rfl) _
      refine ⟨rfl, _, vs, heap_set_ne g8 hne _, g9, ?_, ?_, (hfc.mono fun _ _ _ => trivial).trans hft⟩
      · exact own_fr h6 hft fun q c f _ hc => ⟨ne_of_types hc k8 (by decide), ne_of_types hc k9 (by decide)⟩
      · exact All2.mono (h7.fr hft fun q c f _ hc => ⟨ne_of_types hc k8 (by decide), ne_of_types hc k9 (by decide)⟩) fun _ _ _ _ ⟨a1, c1, e1, s1⟩ => ⟨a1, c1, e1, s1.mono hft.size⟩
    · have ht1 : ((t : Int) == 0) = false := by simp; omega
      have hm : OpClo w b8 b9 (some (t, rs, m)) = fun e w' => e = .panicked (wstop 0) ∧ FrA w w' := by
        unfold OpClo
        cases t with
        | zero => exact absurd rfl ht0
        | succ t => rfl
      have HM := Lib.hid hm
      clear hm ht0
      go_wp2_with (go_at_call 65; (with_reducible refine (wmust_false _ _).mono ?_); rintro e w2 ⟨rfl, rfl⟩)
      refine ⟨rfl, ?_⟩
      show OpClo _ _ _ _ _ _
      rw [HM.out]
      exact ⟨rfl, HX.out.2.2.1⟩

end
end Go.Proofs.YtbhjdddiihfafaaGreatDoor
