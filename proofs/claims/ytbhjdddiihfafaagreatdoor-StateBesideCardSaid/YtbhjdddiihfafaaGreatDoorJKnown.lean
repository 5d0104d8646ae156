/- The statements' own 'known': what was saved is loaded. -/
import Derived.Test.YtbhjdddiihfafaaGreatDoorJHeld
import Derived.Test.YtbhjdddiihfafaaGreatDoorJSame
import Derived.Test.YtbhjdddiihfafaaGreatDoorJTell
set_option linter.unusedVariables false
set_option linter.unusedSimpArgs false
namespace Go.Proofs.YtbhjdddiihfafaaGreatDoor
open Go.RowKit Go.Maps

def kFiles : List Fl := [⟨[97, 47, 98], false, [120]⟩]

theorem kTree_ok : (treeF kFiles).1 = 0 ∧ (treeF kFiles).2.files = [⟨[97], true, []⟩, ⟨[97, 47, 98], false, [120]⟩] := by
  constructor <;> decide +kernel

def kMore : List Pr := [⟨⟨#[120, 47, 121]⟩, ⟨#[49]⟩, false⟩]

theorem kMore_beside : Beside kMore := by
  intro p hp
  simp only [kMore, List.mem_cons, List.not_mem_nil, or_false] at hp
  subst hp
  exact ⟨[121], rfl⟩

def kMap : Sm := changeF [] (savePs [109] [108] [⟨[97], true, []⟩, ⟨[97, 47, 98], false, [120]⟩] kMore)

theorem kBody : (body ((savePs [109] [108] [⟨[97], true, []⟩, ⟨[97, 47, 98], false, [120]⟩] kMore).map Pr.enc)).length ≤ 2000 := by decide +kernel

theorem kFits : ∀ p ∈ savePs [109] [108] [⟨[97], true, []⟩, ⟨[97, 47, 98], false, [120]⟩] kMore, p.fits := by
  have h : (savePs [109] [108] [⟨[97], true, []⟩, ⟨[97, 47, 98], false, [120]⟩] kMore).all (fun p => decide (p.key.size + p.val.size ≤ 1048512)) = true := by decide +kernel
  intro p hp
  have := List.all_eq_true.1 h p hp
  exact of_decide_eq_true (p := p.key.size + p.val.size ≤ 1048512) this

theorem kMap_len : kMap.length ≤ 1048576 := by
  have := changeF_length (savePs [109] [108] [⟨[97], true, []⟩, ⟨[97, 47, 98], false, [120]⟩] kMore) []
  unfold kMap
  have h2 : (savePs [109] [108] [⟨[97], true, []⟩, ⟨[97, 47, 98], false, [120]⟩] kMore).length = 4 := rfl
  rw [h2] at this
  simp at this
  omega

/-- Saved at a new store. -/
theorem kSave_any {w : World} {S : Sids} (hS : Sto w S 400 0 []) {x fb pb : Nat} {f : Nat × Nat} (hx : w.heap[x]? = some (.cells #[.int .u8 120] 5 f)) (hf : w.heap[fb]? = some (.cells #[.string ⟨#[97, 47, 98]⟩, .bool false, .slice (some ⟨x, 0, none⟩) 1 1] 51 (0, 0)))
    (hp : w.heap[pb]? = some (.cells #[.string ⟨#[120, 47, 121]⟩, .string ⟨#[49]⟩, .bool false] 33 (0, 0))) :
    Calls Tryz.prog 10 #[.pointer (some ⟨S.st, 0, none⟩), .string ⟨#[109]⟩, .string ⟨#[108]⟩, .slice (some ⟨fb, 0, none⟩) 1 1, .slice (some ⟨pb, 0, none⟩) 1 1] w fun e w' =>
      e = .returned (.int .i64 0) ∧ ∃ mp', Sto w' ⟨S.I, S.st, mp'⟩ 400 100 kMap ∧ Fr (fun k o => LK S.I k o ∧ k ≠ S.st) w w' ∧ w.heap.size ≤ mp' := by
  have hfs : FsAt w w.heap.size (some ⟨fb, 0, none⟩) 1 1 [.slice (some ⟨x, 0, none⟩) 1 1] kFiles := by
    refine ⟨⟨_, rfl, Nat.le_refl _, by decide, by simp, .inr ⟨_, _, _, _, rfl, lt_of_heap hf, hf, ?_⟩⟩, rfl, ?_⟩
    · intro j hj
      match j, hj with
      | 0, _ => rfl
      | 1, _ => rfl
      | 2, _ => rfl
    · intro i v r hv hr
      match i with
      | 0 =>
        cases hv; cases hr
        refine ⟨_, _, _, rfl, rfl, Nat.le_refl _, by decide, by simp, .inr ⟨_, _, _, _, rfl, lt_of_heap hx, hx, ?_⟩⟩
        intro j hj
        match j, hj with
        | 0, _ => rfl
      | i + 1 => cases hv
  have hm : Sl w w.heap.size 33 3 (some ⟨pb, 0, none⟩) 1 1 (kMore.flatMap prCells) := by
    refine ⟨rfl, Nat.le_refl _, by decide, by simp, .inr ⟨_, _, _, _, rfl, lt_of_heap hp, hp, ?_⟩⟩
    intro j hj
    match j, hj with
    | 0, _ => rfl
    | 1, _ => rfl
    | 2, _ => rfl
  obtain ⟨h0, ht⟩ := kTree_ok
  refine (Save_any (P := 2000) (u' := 100) hS [109] [108] hfs rfl (by decide) (Nat.le_refl _) (fun f hf => by simp [kFiles] at hf; subst hf; decide) (by
    have := packL_len kFiles 3 1 (fun f hf => by simp [kFiles] at hf; subst hf; decide)
    have h2 : kFiles.length = 1 := rfl
    omega) kMore hm rfl (by decide) (fun _ => by rw [ht]; exact kFits) (fun _ => by rw [ht]; exact kBody) (by decide) (by decide)).mono ?_
  rintro e w' (⟨h, _⟩ | ⟨_, rfl, mp', g1, g2, g3⟩)
  · exact absurd h0 h
  · rw [ht] at g1
    exact ⟨rfl, mp', g1, g2, g3⟩

set_option maxHeartbeats 2000000 in
set_option maxRecDepth 100000 in
theorem known_any (w : World) : Calls Tryz.prog 6 #[] w fun e w' => e = .returned (.bool true) ∧ FrA w w' := by
  have hcv : ∀ (w : World) (c : Array Value) (n : Nat), (convert 41 41 (.slice (some ⟨w.heap.size, 0, none⟩) n n)).run Tryz.prog (w.alloc (.cells c 5)) = .ok (.slice (some ⟨w.heap.size, 0, none⟩) n n) ((w.alloc (.cells c 5)).freeze ⟨w.heap.size, c.size, none⟩ 1) := fun w c n => by
    have hu : Tryz.prog.underlying 41 = some (.slice 5) := by kernel_rfl
    have hu8 : Tryz.prog.underlying 5 = some (.int .u8) := by kernel_rfl
    have hsh : (w.alloc (.cells c 5)).shape? w.heap.size = some (5, c.size) := by
      simp [World.shape?, World.alloc, -World.alloc_eq]
    simp [convert, run_underlying hu, run_underlying hu8, markStringish, hsh, Result.andThen]
  go_enter Tryz.func6, Tryz.ntmps6
  go_wp2_with fail
  refine (New_any 400 512 w).mono ?_
  rintro e w1 ⟨d, bs', bm, rfl, hd, hd1, hd2, hd3, hf1⟩
  have hO := stoNew_any (N := 400) (by decide) (by decide) hd
  have H1 := Lib.hid (And.intro hO hf1)
  clear hO hf1 hd
  go_wp2_with fail
  refine H1.out.1.mono ?_
  rintro e w2 ⟨bl, bu, st, mp, rfl, hS, hf2, hl1, hl2, hl3, hl4⟩
  have hw01 := H1.out.2.size
  have H2 := Lib.hid (And.intro hS (H1.out.2.trans hf2))
  clear hS hf2
  go_wp2_with fail
  obtain ⟨W1, hW1⟩ : ∃ W1, W1 = (w2.alloc (.cells #[.int .u8 120] 5)).freeze ⟨w2.heap.size, 1, none⟩ 1 := ⟨_, rfl⟩
  rw [← hW1]
  have hfW : FrA w2 W1 := by
    rw [hW1]
    have h0 := (Fr.refl (fun _ _ => True) w2).alloc (.cells #[.int .u8 120] 5)
    refine ⟨h0.os, h0.tape, h0.output, by simp [World.freeze], fun k o ho _ => ?_⟩
    have := h0.keep k o ho trivial
    have hk := lt_of_heap ho
    unfold World.freeze
    rw [if_neg (by decide)]
    simp only [Array.getElem?_modify]
    rw [if_neg (fun e : w2.heap.size = k => by omega)]
    exact this
  have hx1 : W1.heap[w2.heap.size]? = some (.cells #[.int .u8 120] 5 (1, 2)) := by
    rw [hW1]
    unfold World.freeze
    rw [if_neg (by decide)]
    simp only [Array.getElem?_modify, if_true]
    rw [heap_alloc_new]
    rfl
  obtain ⟨F, hF⟩ : ∃ F, F = W1.alloc (.cells #[.string ⟨#[97, 47, 98]⟩, .bool false, .slice (some ⟨w2.heap.size, 0, none⟩) 1 1] 51) := ⟨_, rfl⟩
  have hFb : F.heap[W1.heap.size]? = some (.cells #[.string ⟨#[97, 47, 98]⟩, .bool false, .slice (some ⟨w2.heap.size, 0, none⟩) 1 1] 51 (0, 0)) := by rw [hF]; exact heap_alloc_new _ _
  have hFs : F.heap.size = W1.heap.size + 1 := by rw [hF]; simp
  have hFf : FrA W1 F := by rw [hF]; exact (Fr.refl _ _).alloc _
  obtain ⟨G, hG⟩ : ∃ G, G = F.alloc (.cells #[.string ⟨#[120, 47, 121]⟩, .string ⟨#[49]⟩, .bool false] 33) := ⟨_, rfl⟩
  have hGb : G.heap[W1.heap.size + 1]? = some (.cells #[.string ⟨#[120, 47, 121]⟩, .string ⟨#[49]⟩, .bool false] 33 (0, 0)) := by rw [hG, ← hFs]; exact heap_alloc_new _ _
  have hGf : FrA W1 G := by rw [hG]; exact hFf.alloc _
  have hSG := H2.out.1.fra (hfW.trans hGf)
  have hKS := kSave_any hSG (hGf.keep _ _ hx1 trivial) (by rw [hG]; exact heap_alloc_keep hFb _) hGb
  have HK := Lib.hid (And.intro hKS ((H2.out.2.trans hfW).trans hGf))
  rw [← hF, ← hG]
  have hltG := H2.out.1.lts
  simp only at hltG
  have hsG := (hfW.trans hGf).size
  have HL := Lib.hid hltG
  clear hW1 hfW hx1 hF hFb hFs hFf hG hGb hGf hSG hKS hltG hcv
  refine HK.out.1.mono ?_
  rintro e w3 ⟨rfl, mp', hS3, hf3, hmp⟩
  have hfw3 : FrA w w3 := fra_k HK.out.2 hf3 fun k o hk => by
    show (k ≠ d ∧ k ≠ bs' ∧ k ≠ bm ∧ k ≠ bl ∧ k ≠ bu) ∧ k ≠ st
    omega
  have hO3 := stoOpen_any hS3
  have H3 := Lib.hid (And.intro hO3 hfw3)
  clear hS3 hf3 hmp hfw3 hO3
  go_wp2_with fail
  refine H3.out.1.mono ?_
  rintro e w4 ⟨bl2, bu2, st2, mp2, rfl, hS4, hf4, _⟩
  obtain ⟨k1, k2, k3⟩ := gets_save [] [109] [108] [⟨[97], true, []⟩, ⟨[97, 47, 98], false, [120]⟩] kMore_beside
  have hfl : filesF (gets kMap kTree) = [⟨[97], true, []⟩, ⟨[97, 47, 98], false, [120]⟩] := by
    show filesF (gets (changeF [] _) kTree) = _
    rw [k3]
    exact filesF_of _ (by decide) (fun f hf => by
      simp only [List.mem_cons, List.not_mem_nil, or_false] at hf
      rcases hf with rfl | rfl <;> decide)
  have htl : (gets kMap kTree).length ≤ 4194304 := by
    show (gets (changeF [] _) kTree).length ≤ _
    rw [k3]; decide +kernel
  have hLd := Load_any hS4 kMap_len (NoC.nil.save _ _ _ kMore_beside).keys hfl htl
  have ek1 : gets kMap kMan = [109] := k1
  have ek2 : gets kMap kLock = [108] := k2
  rw [ek1, ek2] at hLd
  have hGt := fun w' (hf : FrA w4 w') => stoGet_any (hS4.fra hf) ⟨#[120, 47, 121]⟩ (by decide)
  have hkx : kget kMap (.string (ByteArray.mk #[120, 47, 121]).data.toList) = some [49] := by
    show kget (changeF [] (savePs _ _ _ kMore)) _ = _
    rw [change_save]
    exact kget_put_self _ _ _
  rw [hkx] at hGt
  have H4 := Lib.hid (And.intro hLd (And.intro hGt (H3.out.2.trans hf4)))
  clear hS4 hf4 k1 k2 k3 hfl htl hLd ek1 ek2 hGt hkx
  go_wp2_with fail
  refine H4.out.1.mono ?_
  rintro e w5 ⟨v, rfl, ⟨ao, cap, vs, hv, hT⟩, hf5⟩
  have hv' : v = .agg #[.string ⟨#[109]⟩, .string ⟨#[108]⟩, .slice none 0 0, .slice ao 2 cap] := hv
  subst hv'
  have hTa := hT.fra ((Fr.refl (fun _ _ => True) w5).alloc (.cells #[.string ⟨#[109]⟩, .string ⟨#[108]⟩, .slice none 0 0, .slice ao 2 cap] 38))
  obtain ⟨f, vv, b, off, aob, capb, Eb, hf, _, _, hao, _, g1, _⟩ := hTa.at.get (k := 0) rfl (by decide)
  cases hf
  subst hao
  simp only [Nat.zero_mul, Nat.add_zero] at g1
  have H5 := Lib.hid (And.intro hT hf5)
  clear hT hf5 hv hTa
  go_wp2_with fail
  refine (H4.out.2.1 _ (H5.out.2.alloc _)).mono ?_
  rintro e w6 ⟨rfl, rfl⟩
  simp only [Option.map_some, Option.getD_some, Option.isSome_some, bs]
  go_wp2_with (first | (go_at_call 14; (refine (same_any (w := w5.alloc _) (v := .agg #[.string ⟨#[109]⟩, .string ⟨#[108]⟩, .slice none 0 0, .slice (some ⟨b, off, none⟩) 2 cap]) (M := [109]) (L := [108]) (fl := [⟨[97], true, []⟩, ⟨[97, 47, 98], false, [120]⟩]) ((StaAt.fra ⟨_, _, _, rfl, H5.out.1⟩ ((Fr.refl _ w5).alloc _))) ((StaAt.fra ⟨_, _, _, rfl, H5.out.1⟩ ((Fr.refl _ w5).alloc _))) rfl rfl rfl).mono ?_); rintro e w7 ⟨rfl, hf7⟩; have q7 := hf7.keep _ _ (heap_alloc_new w5 (.cells #[.string ⟨#[109]⟩, .string ⟨#[108]⟩, .slice none 0 0, .slice (some ⟨b, off, none⟩) 2 cap] 38)) trivial; have j0 := cell_of_heap q7 0; have j1 := cell_of_heap q7 1; have j2 := cell_of_heap q7 2; have j3 := cell_of_heap q7 3))
  have H7 := Lib.hid hf7
  clear hf7 q7 j0 j1 j2 j3
  refine (Held_ml _ _ _ rfl rfl).mono ?_
  rintro e w8 ⟨rfl, hf8⟩
  have H8 := Lib.hid hf8
  clear hf8
  go_wp2_with fail
  refine (Held_none _).mono ?_
  rintro e w9 ⟨rfl, hf9⟩
  have H9 := Lib.hid hf9
  clear hf9
  go_wp2
  go_ret
  exact ⟨rfl, ((((H4.out.2.2.trans H5.out.2).alloc _).trans H7.out).trans H8.out).trans H9.out⟩

end Go.Proofs.YtbhjdddiihfafaaGreatDoor
