/- Package tree: put, Write, Mkdir. (Printed by gen_tree3.py.) -/
import Derived.Test.YtbhjdddiihfafaaGreatDoorJTree2
set_option linter.unusedVariables false
set_option linter.unusedSimpArgs false
namespace Go.Proofs.YtbhjdddiihfafaaGreatDoor
open Go.RowKit Go.Maps

section
variable {w w' : World} {tb mb : Nat} {t : Tm} {kvs : List (Lit × Value)}

theorem makeF_length : ∀ (l : List (List UInt8)) (m : List (Lit × Nd)), (makeF m l).length ≤ m.length + l.length
  | [], m => by simp [makeF]
  | d :: l, m => by
    have h := makeF_length l (kput m (.string d) (true, []))
    have := kput_length m (.string d) (true, ([] : List UInt8))
    unfold makeF at h ⊢
    rw [List.foldl_cons, List.length_cons]
    omega

/-- The map gains what was laid just now. -/
theorem TreeAt.gain {w1 w2 w3 : World} {p : List UInt8} {x : Nd} {v : Value} (h : TreeAt w1 tb mb t kvs) (hf : FrA w1 w2) (hg : w2.grownBy w3 (some mb)) (hm : MapAt w3 9 mb (kput kvs (.string p) v)) (hv : NodeAt w2 v x) :
    TreeAt w3 tb mb ⟨kput t.m (.string p) x, t.size⟩ (kput kvs (.string p) v) ∧ Fr (fun k _ => k ≠ mb) w1 w3 := by
  have hgf : Fr (fun k _ => k ≠ mb) w2 w3 := (Fr.refl _ w2).grown hg (fun k' o e _ hne => by cases e; exact hne rfl)
  have h2 := h.fra hf
  have hmb : ∀ k (c : Array Value) (ty : TypeId) (f : Nat × Nat), w2.heap[k]? = some (.cells c ty f) → k ≠ mb := fun k c ty f hc e => by subst e; exact h2.map.ne_cells hc rfl
  refine ⟨⟨hgf.keep _ _ h2.tree (Ne.symm h.ne), hm, ?_⟩, (hf.mono fun _ _ _ => trivial).trans hgf⟩
  exact KRel.kput (h2.rel.mono fun _ _ _ _ ⟨e, hn⟩ => ⟨e, hn.fr hgf (fun k c f hc => hmb _ _ _ _ hc) (fun k c f hc => hmb _ _ _ _ hc)⟩) _ (hv.fr hgf (fun k c f hc => hmb _ _ _ _ hc) (fun k c f hc => hmb _ _ _ _ hc))

set_option maxHeartbeats 2000000 in
set_option maxRecDepth 100000 in
theorem tPut_any (h : TreeAt w tb mb t kvs) (s b : List UInt8) (hs : s.length ≤ 1048576) {n T E cap : Nat} {ao : Option Addr} (hn : b.length = n) (hx : Sl w T E 1 ao n cap (b.map u8)) (hb : n ≤ 1048576)
    (hm : t.m.length ≤ 500000) (h2 : -1073741824 ≤ t.size) (h3 : t.size ≤ 1073741824) (hol : ∀ p x, t.at p = some x → x.2.length ≤ 1048576) :
    Calls Tryz.prog 139 #[.pointer (some ⟨tb, 0, none⟩), .string (bs s), .slice ao n cap, .bool false] w fun e w' => e = .returned (.int .i64 (t.write s b).1) ∧ (∃ kvs', TreeAt w' tb mb (t.write s b).2 kvs') ∧ Fr (fun k _ => k ≠ mb ∧ k ≠ tb) w w' := by
  obtain ⟨p, hp⟩ : ∃ p, p = (cleanF s).1 := ⟨_, rfl⟩
  obtain ⟨ec, hec⟩ : ∃ ec, ec = (cleanF s).2 := ⟨_, rfl⟩
  have hCl : ∀ w', Calls Tryz.prog 72 #[.string (bs s)] w' fun e w'' => e = .returned (.tuple #[.string (bs p), .int .i64 ec]) ∧ FrA w' w'' := fun w' => by rw [hp, hec]; exact Clean_any w' s hs
  have hwr : t.write s b = if ec ≠ 0 then (ec, t) else t.putC p b := by rw [hp, hec]; rfl
  obtain ⟨R, hR⟩ : ∃ R, R = t.write s b := ⟨_, rfl⟩
  rw [← hR]
  rw [← hR] at hwr
  have hpl : ec = 0 → p.length ≤ 200 := fun h => by rw [hp]; exact (cleanF_ok' (hec ▸ h)).1
  have HC := Lib.hid hCl
  clear hR hCl hp hec
  by_cases h0 : ec = 0
  rotate_left
  · have hne : (ec != 0) = true := by simpa using h0
    have hr : R = (ec, t) := by rw [hwr, if_pos h0]
    have HR := Lib.hid (And.intro hr h)
    clear hwr hpl h0 hr hx h
    go_enter Tryz.func139, Tryz.ntmps139
    go_wp2_with fail
    refine (HC.out w).mono ?_
    rintro e w1 ⟨rfl, hf1⟩
    go_wp2
    go_ret
    rw [HR.out.1]
    exact ⟨rfl, ⟨kvs, HR.out.2.fra hf1⟩, hf1.mono fun _ _ _ => trivial⟩
  rw [if_neg (by simpa using h0)] at hwr
  have hpl := hpl h0
  subst h0
  have HR := Lib.hid hwr
  have H := Lib.hid (And.intro h hx)
  clear hwr h hx
  go_enter Tryz.func139, Tryz.ntmps139
  go_wp2_with fail
  refine (HC.out w).mono ?_
  rintro e w1 ⟨rfl, hf1⟩
  have h1 := H.out.1.fra hf1
  have hA := fun w' (hf : FrA w1 w') => tAt_any (h1.fra hf) p (by omega)
  have hH := fun w' (hf : FrA w1 w') => tAhead_any (h1.fra hf) p (by omega)
  have H1 := Lib.hid (And.intro h1 (And.intro hf1 (And.intro hA hH)))
  clear h1 hf1 hA hH
  go_wp2_with fail
  refine (H1.out.2.2.1 w1 (Fr.refl _ _)).mono ?_
  rintro e w2 ⟨v, rfl, hv, hf2⟩
  have hol := hol p
  obtain ⟨x, hxe⟩ : ∃ x, x = t.at p := ⟨_, rfl⟩
  rw [← hxe] at hv hol
  have HX := Lib.hid hxe
  clear hxe
  rcases x with _ | ⟨dr, o⟩
  · have hvn : v = .pointer none := hv
    subst hvn
    have HF2 := Lib.hid hf2
    clear hv hf2
    go_wp2_with fail
    refine (H1.out.2.2.2 w2 HF2.out).mono ?_
    rintro e w3 ⟨hf3, ⟨lack, vl, hlk, rfl, hown, hll, hld⟩ | ⟨hlk, rfl⟩⟩
    rotate_left
    · have hr : R = (54, t) := by rw [HR.out]; unfold Tm.putC; rw [← HX.out, hlk]; rfl
      have HR := Lib.hid hr
      clear hr hlk
      go_wp2
      go_ret
      rw [HR.out]
      exact ⟨rfl, ⟨kvs, (H1.out.1.fra HF2.out).fra hf3⟩, ((H1.out.2.1.trans HF2.out).trans hf3).mono fun _ _ _ => trivial⟩
    obtain ⟨aol, capl, rfl⟩ := own_shape hown
    obtain ⟨rb, hrb⟩ : ∃ rb, rb = t.room (newCnt lack.length (none : Option Nd)) ((b.length : Int) - oldLen (none : Option Nd)) := ⟨_, rfl⟩
    have hr : R = if 65536 < b.length ∨ rb = false then (55, t) else (0, { m := kput (makeF t.m lack) (.string p) (false, b), size := t.size + ((b.length : Int) - oldLen (none : Option Nd)) }) := by
      rw [HR.out]; unfold Tm.putC; rw [← HX.out, hlk, hrb]; rfl
    have h3' := (H1.out.1.fra HF2.out).fra hf3
    have hRM := tRoom_any h3' (newCnt lack.length (none : Option Nd)) ((b.length : Int) - oldLen (none : Option Nd)) (by omega) h2 h3
    rw [← hrb] at hRM
    simp only [newCnt, oldLen] at hRM
    have e1 : (b.length : Int) = (n : Int) := by omega
    rw [e1] at hRM
    have w1' : IntKind.i64.wrap ((lack.length : Int) + 1) = (lack.length : Int) + 1 := by rw [IntKind.wrap_i64]; omega
    have w2' : IntKind.i64.wrap ((n : Int) - 0) = (n : Int) - 0 := by rw [IntKind.wrap_i64]; omega
    have HT := Lib.hid (And.intro hr (And.intro h3' (And.intro hRM (And.intro hown (And.intro hlk hf3)))))
    clear hr h3' hRM hown hlk hf3 hrb
    by_cases hbig : 65536 < n
    · have hbi : (65536 : Int) < (n : Int) := by omega
      go_wp2
      go_ret
      rw [HT.out.1, if_pos (.inl (by omega))]
      exact ⟨rfl, ⟨kvs, HT.out.2.1⟩, ((H1.out.2.1.trans HF2.out).trans HT.out.2.2.2.2.2).mono fun _ _ _ => trivial⟩
    have hbi : ¬ (65536 : Int) < (n : Int) := by omega
    cases rb
    · go_wp2_with fail
      refine HT.out.2.2.1.mono ?_
      rintro e w4 ⟨rfl, rfl⟩
      go_wp2
      go_ret
      rw [HT.out.1, if_pos (.inr (by simp))]
      exact ⟨rfl, ⟨kvs, HT.out.2.1⟩, ((H1.out.2.1.trans HF2.out).trans HT.out.2.2.2.2.2).mono fun _ _ _ => trivial⟩
    go_wp2_with fail
    refine HT.out.2.2.1.mono ?_
    rintro e w4 ⟨rfl, rfl⟩
    have hMK := tMake_any HT.out.2.1 lack rfl (Sl.of_own HT.out.2.2.2.1) (fun d hd => by have := hld d hd; omega) (by omega)
    have HMK := Lib.hid hMK
    clear hMK
    go_wp2_with fail
    refine HMK.out.mono ?_
    rintro e w5 ⟨rfl, ⟨kv5, h5⟩, hf5⟩
    have hbs5 := ((H.out.2.keep (w' := w3) fun b' c f _ hc => HT.out.2.2.2.2.2.keep _ _ (HF2.out.keep _ _ (H1.out.2.1.keep _ _ hc trivial) trivial) trivial).keep (w' := w5) fun b' c f _ hc => hf5.keep _ _ hc (fun e => by subst e; exact HT.out.2.1.map.ne_cells hc rfl))
    have c0 : w5.cell? ⟨tb, 0, none⟩ = some (.map (some mb)) := cell_of_heap h5.tree 0
    have hmap := h5.map
    have hkey := str_key (bs p) (by rw [bs_size]; unfold maxLen; omega)
    rw [bs_data] at hkey
    have hln := h5.len
    have hmk : (makeF t.m lack).length ≤ t.m.length + lack.length := makeF_length lack t.m
    simp only at hln
    have hkl : kv5.length < maxLen := by unfold maxLen; omega
    have H5 := Lib.hid (And.intro h5 (And.intro hf5 (And.intro hbs5 hln)))
    have hmt := h5.ne
    clear h5 hf5 hbs5 hln hmk
    go_wp2_with fail
    go_region_held3 (fun w' => w'.cell? ⟨tb, 0, none⟩ = some (.map (some mb))) (first | assumption | go_keep) (first | (go_at_call 81; refine (CloneBytes_any _ b _ hn (T := T) (E := E) ?_ (by omega)).mono ?_; exact H5.out.2.2.1; rintro e w6 ⟨v6, rfl, g3, g4⟩; rw [hn] at g3; obtain ⟨ao6, cp6, rfl⟩ := own_shape g3; have hk0 := g4.keep tb _ H5.out.1.tree trivial; have hk := cell_of_heap hk0 0; have hm6 := (hmap.drew.fr g4 (fun _ _ => trivial)).alloc (.cells #[.bool false, .slice ao6 n cp6] 150)) | (refine upon_put str_keys umapSN (kvs := kv5) (by assumption) hkl hkey ?_; intro w7 hm7 hg7; have hk30 := grown_same hg7 (heap_alloc_keep hk0 _) (show some tb ≠ some mb from fun e => hmt (Option.some.inj e).symm); have hk3 := cell_of_heap hk30 0))
    have hnode : NodeAt (w6.alloc (.cells #[.bool false, .slice ao6 n cp6] 150)) (.pointer (some ⟨w6.heap.size, 0, none⟩)) (false, b) := by
      refine ⟨w6.heap.size, ao6, cp6, rfl, ?_, ?_⟩
      · simp only; rw [hn]; exact heap_alloc_new _ _
      · simp only; rw [hn]; exact ((Sl.of_own g3).alloc _).mono (by simp)
    obtain ⟨hT7, hF7⟩ := H5.out.1.gain (((Fr.refl _ w5).drew.trans g4).alloc _) hg7 hm7 hnode
    have c7 : w7.cell? ⟨tb, 1, none⟩ = some (.int .i64 t.size) := cell_of_heap hT7.tree 1
    have f7 := free_of_heap hT7.tree 1
    have w3' : IntKind.i64.wrap (t.size + ((n : Int) - 0)) = t.size + ((n : Int) - 0) := by rw [IntKind.wrap_i64]; omega
    have H7 := Lib.hid (And.intro hT7 hF7)
    clear hT7 hF7 hnode g3 g4 hg7 hm7 hm6 hk0 hk30 hmap
    go_wp2
    go_ret
    obtain ⟨W, hW⟩ : ∃ W, W = w7.setCell ⟨tb, 1, none⟩ (.int .i64 (t.size + (n : Int))) := ⟨_, rfl⟩
    have hfs : Fr (fun k _ => k ≠ tb) w7 W := by rw [hW]; exact (Fr.refl _ w7).setCell (fun _ _ h => h rfl) _
    have hsW := heap_set H7.out.1.tree 1 (.int .i64 (t.size + (n : Int)))
    rw [← hW] at hsW
    have hzz : t.size + ((b.length : Int) - oldLen (none : Option Nd)) = (t.size + (n : Int)) := by simp only [oldLen]; omega
    rw [HT.out.1, if_neg (by simp; omega), ← hW, hzz]
    have htb : ∀ k (c : Array Value) (ty : TypeId) (f : Nat × Nat), w7.heap[k]? = some (.cells c ty f) → ty ≠ 161 → k ≠ tb := fun k c ty f hc ht => ne_of_types hc H7.out.1.tree ht
    refine ⟨rfl, ⟨_, ⟨by simpa using hsW, H7.out.1.map.fr hfs fun _ _ => hmt, ?_⟩⟩, ?_⟩
    · exact H7.out.1.rel.mono fun _ _ _ _ ⟨e, hn⟩ => ⟨e, hn.fr hfs (fun k c f hc => htb _ _ _ _ hc (by decide)) (fun k c f hc => htb _ _ _ _ hc (by decide))⟩
    · exact ((((H1.out.2.1.trans HF2.out).trans HT.out.2.2.2.2.2).mono fun _ _ _ => trivial).trans ((H5.out.2.1.mono fun _ _ h => h.1).trans (H7.out.2.mono fun _ _ h => h.1))).trans (hfs.mono fun _ _ h => h.2)
  obtain ⟨nb, aon, capn, rfl, hnb, hsn⟩ := hv
  cases dr
  rotate_left
  · have hr : R = (54, t) := by rw [HR.out]; unfold Tm.putC; rw [← HX.out]; rfl
    have HR := Lib.hid hr
    have n0 : w2.cell? ⟨nb, 0, none⟩ = some (.bool true) := cell_of_heap hnb 0
    clear hr hnb hsn
    go_wp2
    go_ret
    rw [HR.out]
    exact ⟨rfl, ⟨kvs, (H1.out.1.fra hf2)⟩, (H1.out.2.1.trans hf2).mono fun _ _ _ => trivial⟩
  · have n0 : w2.cell? ⟨nb, 0, none⟩ = some (.bool false) := cell_of_heap hnb 0
    have ho := hol _ rfl
    have HF2 := Lib.hid hf2
    have HNB := Lib.hid hnb
    clear hf2 hsn hnb
    go_wp2_with fail
    refine (H1.out.2.2.2 w2 HF2.out).mono ?_
    rintro e w3 ⟨hf3, ⟨lack, vl, hlk, rfl, hown, hll, hld⟩ | ⟨hlk, rfl⟩⟩
    rotate_left
    · have hr : R = (54, t) := by rw [HR.out]; unfold Tm.putC; rw [← HX.out, hlk]; rfl
      have HR := Lib.hid hr
      clear hr hlk
      go_wp2
      go_ret
      rw [HR.out]
      exact ⟨rfl, ⟨kvs, (H1.out.1.fra HF2.out).fra hf3⟩, ((H1.out.2.1.trans HF2.out).trans hf3).mono fun _ _ _ => trivial⟩
    obtain ⟨aol, capl, rfl⟩ := own_shape hown
    obtain ⟨rb, hrb⟩ : ∃ rb, rb = t.room (newCnt lack.length (some (false, o) : Option Nd)) ((b.length : Int) - oldLen (some (false, o) : Option Nd)) := ⟨_, rfl⟩
    have hr : R = if 65536 < b.length ∨ rb = false then (55, t) else (0, { m := kput (makeF t.m lack) (.string p) (false, b), size := t.size + ((b.length : Int) - oldLen (some (false, o) : Option Nd)) }) := by
      rw [HR.out]; unfold Tm.putC; rw [← HX.out, hlk, hrb]; rfl
    have h3' := (H1.out.1.fra HF2.out).fra hf3
    have hRM := tRoom_any h3' (newCnt lack.length (some (false, o) : Option Nd)) ((b.length : Int) - oldLen (some (false, o) : Option Nd)) (by omega) h2 h3
    rw [← hrb] at hRM
    simp only [newCnt, oldLen] at hRM
    have e1 : (b.length : Int) = (n : Int) := by omega
    rw [e1] at hRM
    have w1' : IntKind.i64.wrap ((lack.length : Int) + 1) = (lack.length : Int) + 1 := by rw [IntKind.wrap_i64]; omega
    have w2' : IntKind.i64.wrap ((n : Int) - (o.length : Int)) = (n : Int) - (o.length : Int) := by rw [IntKind.wrap_i64]; omega
    have nb1 : w3.cell? ⟨nb, 1, none⟩ = some (.slice aon o.length capn) := cell_of_heap (hf3.keep _ _ HNB.out trivial) 1
    have HT := Lib.hid (And.intro hr (And.intro h3' (And.intro hRM (And.intro hown (And.intro hlk hf3)))))
    clear hr h3' hRM hown hlk hf3 hrb
    by_cases hbig : 65536 < n
    · have hbi : (65536 : Int) < (n : Int) := by omega
      go_wp2
      go_ret
      rw [HT.out.1, if_pos (.inl (by omega))]
      exact ⟨rfl, ⟨kvs, HT.out.2.1⟩, ((H1.out.2.1.trans HF2.out).trans HT.out.2.2.2.2.2).mono fun _ _ _ => trivial⟩
    have hbi : ¬ (65536 : Int) < (n : Int) := by omega
    cases rb
    · go_wp2_with fail
      refine HT.out.2.2.1.mono ?_
      rintro e w4 ⟨rfl, rfl⟩
      go_wp2
      go_ret
      rw [HT.out.1, if_pos (.inr (by simp))]
      exact ⟨rfl, ⟨kvs, HT.out.2.1⟩, ((H1.out.2.1.trans HF2.out).trans HT.out.2.2.2.2.2).mono fun _ _ _ => trivial⟩
    go_wp2_with fail
    refine HT.out.2.2.1.mono ?_
    rintro e w4 ⟨rfl, rfl⟩
    have hMK := tMake_any HT.out.2.1 lack rfl (Sl.of_own HT.out.2.2.2.1) (fun d hd => by have := hld d hd; omega) (by omega)
    have HMK := Lib.hid hMK
    clear hMK
    go_wp2_with fail
    refine HMK.out.mono ?_
    rintro e w5 ⟨rfl, ⟨kv5, h5⟩, hf5⟩
    have hbs5 := ((H.out.2.keep (w' := w3) fun b' c f _ hc => HT.out.2.2.2.2.2.keep _ _ (HF2.out.keep _ _ (H1.out.2.1.keep _ _ hc trivial) trivial) trivial).keep (w' := w5) fun b' c f _ hc => hf5.keep _ _ hc (fun e => by subst e; exact HT.out.2.1.map.ne_cells hc rfl))
    have c0 : w5.cell? ⟨tb, 0, none⟩ = some (.map (some mb)) := cell_of_heap h5.tree 0
    have hmap := h5.map
    have hkey := str_key (bs p) (by rw [bs_size]; unfold maxLen; omega)
    rw [bs_data] at hkey
    have hln := h5.len
    have hmk : (makeF t.m lack).length ≤ t.m.length + lack.length := makeF_length lack t.m
    simp only at hln
    have hkl : kv5.length < maxLen := by unfold maxLen; omega
    have H5 := Lib.hid (And.intro h5 (And.intro hf5 (And.intro hbs5 hln)))
    have hmt := h5.ne
    clear h5 hf5 hbs5 hln hmk
    go_wp2_with fail
    go_region_held3 (fun w' => w'.cell? ⟨tb, 0, none⟩ = some (.map (some mb))) (first | assumption | go_keep) (first | (go_at_call 81; refine (CloneBytes_any _ b _ hn (T := T) (E := E) ?_ (by omega)).mono ?_; exact H5.out.2.2.1; rintro e w6 ⟨v6, rfl, g3, g4⟩; rw [hn] at g3; obtain ⟨ao6, cp6, rfl⟩ := own_shape g3; have hk0 := g4.keep tb _ H5.out.1.tree trivial; have hk := cell_of_heap hk0 0; have hm6 := (hmap.drew.fr g4 (fun _ _ => trivial)).alloc (.cells #[.bool false, .slice ao6 n cp6] 150)) | (refine upon_put str_keys umapSN (kvs := kv5) (by assumption) hkl hkey ?_; intro w7 hm7 hg7; have hk30 := grown_same hg7 (heap_alloc_keep hk0 _) (show some tb ≠ some mb from fun e => hmt (Option.some.inj e).symm); have hk3 := cell_of_heap hk30 0))
    have hnode : NodeAt (w6.alloc (.cells #[.bool false, .slice ao6 n cp6] 150)) (.pointer (some ⟨w6.heap.size, 0, none⟩)) (false, b) := by
      refine ⟨w6.heap.size, ao6, cp6, rfl, ?_, ?_⟩
      · simp only; rw [hn]; exact heap_alloc_new _ _
      · simp only; rw [hn]; exact ((Sl.of_own g3).alloc _).mono (by simp)
    obtain ⟨hT7, hF7⟩ := H5.out.1.gain (((Fr.refl _ w5).drew.trans g4).alloc _) hg7 hm7 hnode
    have c7 : w7.cell? ⟨tb, 1, none⟩ = some (.int .i64 t.size) := cell_of_heap hT7.tree 1
    have f7 := free_of_heap hT7.tree 1
    have w3' : IntKind.i64.wrap (t.size + ((n : Int) - (o.length : Int))) = t.size + ((n : Int) - (o.length : Int)) := by rw [IntKind.wrap_i64]; omega
    have H7 := Lib.hid (And.intro hT7 hF7)
    clear hT7 hF7 hnode g3 g4 hg7 hm7 hm6 hk0 hk30 hmap
    go_wp2
    go_ret
    obtain ⟨W, hW⟩ : ∃ W, W = w7.setCell ⟨tb, 1, none⟩ (.int .i64 (t.size + ((n : Int) - (o.length : Int)))) := ⟨_, rfl⟩
    have hfs : Fr (fun k _ => k ≠ tb) w7 W := by rw [hW]; exact (Fr.refl _ w7).setCell (fun _ _ h => h rfl) _
    have hsW := heap_set H7.out.1.tree 1 (.int .i64 (t.size + ((n : Int) - (o.length : Int))))
    rw [← hW] at hsW
    have hzz : t.size + ((b.length : Int) - oldLen (some (false, o) : Option Nd)) = (t.size + ((n : Int) - (o.length : Int))) := by simp only [oldLen]; omega
    rw [HT.out.1, if_neg (by simp; omega), ← hW, hzz]
    have htb : ∀ k (c : Array Value) (ty : TypeId) (f : Nat × Nat), w7.heap[k]? = some (.cells c ty f) → ty ≠ 161 → k ≠ tb := fun k c ty f hc ht => ne_of_types hc H7.out.1.tree ht
    refine ⟨rfl, ⟨_, ⟨by simpa using hsW, H7.out.1.map.fr hfs fun _ _ => hmt, ?_⟩⟩, ?_⟩
    · exact H7.out.1.rel.mono fun _ _ _ _ ⟨e, hn⟩ => ⟨e, hn.fr hfs (fun k c f hc => htb _ _ _ _ hc (by decide)) (fun k c f hc => htb _ _ _ _ hc (by decide))⟩
    · exact ((((H1.out.2.1.trans HF2.out).trans HT.out.2.2.2.2.2).mono fun _ _ _ => trivial).trans ((H5.out.2.1.mono fun _ _ h => h.1).trans (H7.out.2.mono fun _ _ h => h.1))).trans (hfs.mono fun _ _ h => h.2)

theorem tWrite_any (h : TreeAt w tb mb t kvs) (s b : List UInt8) (hs : s.length ≤ 1048576) {n T E cap : Nat} {ao : Option Addr} (hn : b.length = n) (hx : Sl w T E 1 ao n cap (b.map u8)) (hb : n ≤ 1048576)
    (hm : t.m.length ≤ 500000) (h2 : -1073741824 ≤ t.size) (h3 : t.size ≤ 1073741824) (hol : ∀ p x, t.at p = some x → x.2.length ≤ 1048576) :
    Calls Tryz.prog 75 #[.pointer (some ⟨tb, 0, none⟩), .string (bs s), .slice ao n cap] w fun e w' => e = .returned (.int .i64 (t.write s b).1) ∧ (∃ kvs', TreeAt w' tb mb (t.write s b).2 kvs') ∧ Fr (fun k _ => k ≠ mb ∧ k ≠ tb) w w' := by
  have HP := Lib.hid (tPut_any h s b hs hn hx hb hm h2 h3 hol)
  clear h hx
  go_enter Tryz.func75, Tryz.ntmps75
  go_wp2_with fail
  refine HP.out.mono ?_
  rintro e w1 ⟨rfl, h1, hf1⟩
  go_wp2
  go_ret
  exact ⟨rfl, h1, hf1⟩

end
end Go.Proofs.YtbhjdddiihfafaaGreatDoor
/- Package tree: Mkdir. -/
namespace Go.Proofs.YtbhjdddiihfafaaGreatDoor
open Go.RowKit Go.Maps

section
variable {w w' : World} {tb mb : Nat} {t : Tm} {kvs : List (Lit × Value)}

set_option maxHeartbeats 2000000 in
set_option maxRecDepth 100000 in
theorem tMkdir_any (h : TreeAt w tb mb t kvs) (s : List UInt8) (hs : s.length ≤ 1048576) (hm : t.m.length ≤ 500000) (h2 : -1073741824 ≤ t.size) (h3 : t.size ≤ 1073741824) :
    Calls Tryz.prog 74 #[.pointer (some ⟨tb, 0, none⟩), .string (bs s)] w fun e w' => e = .returned (.int .i64 (t.mkdir s).1) ∧ (∃ kvs', TreeAt w' tb mb (t.mkdir s).2 kvs') ∧ Fr (fun k _ => k ≠ mb ∧ k ≠ tb) w w' := by
  obtain ⟨p, hp⟩ : ∃ p, p = (cleanF s).1 := ⟨_, rfl⟩
  obtain ⟨ec, hec⟩ : ∃ ec, ec = (cleanF s).2 := ⟨_, rfl⟩
  have hCl : ∀ w', Calls Tryz.prog 72 #[.string (bs s)] w' fun e w'' => e = .returned (.tuple #[.string (bs p), .int .i64 ec]) ∧ FrA w' w'' := fun w' => by rw [hp, hec]; exact Clean_any w' s hs
  have hwr : t.mkdir s = if ec ≠ 0 then (ec, t) else t.mkdirC p := by rw [hp, hec]; rfl
  obtain ⟨R, hR⟩ : ∃ R, R = t.mkdir s := ⟨_, rfl⟩
  rw [← hR]
  rw [← hR] at hwr
  have hpl : ec = 0 → p.length ≤ 200 := fun h => by rw [hp]; exact (cleanF_ok' (hec ▸ h)).1
  have HC := Lib.hid hCl
  clear hR hCl hp hec
  by_cases h0 : ec = 0
  rotate_left
  · have hne : (ec != 0) = true := by simpa using h0
    have hr : R = (ec, t) := by rw [hwr, if_pos h0]
    have HR := Lib.hid (And.intro hr h)
    clear hwr hpl h0 hr h
    go_enter Tryz.func74, Tryz.ntmps74
    go_wp2_with fail
    refine (HC.out w).mono ?_
    rintro e w1 ⟨rfl, hf1⟩
    go_wp2
    go_ret
    rw [HR.out.1]
    exact ⟨rfl, ⟨kvs, HR.out.2.fra hf1⟩, hf1.mono fun _ _ _ => trivial⟩
  rw [if_neg (by simpa using h0)] at hwr
  have hpl := hpl h0
  subst h0
  have HR := Lib.hid hwr
  have H := Lib.hid h
  clear hwr h
  go_enter Tryz.func74, Tryz.ntmps74
  go_wp2_with fail
  refine (HC.out w).mono ?_
  rintro e w1 ⟨rfl, hf1⟩
  have h1 := H.out.fra hf1
  have hA := fun w' (hf : FrA w1 w') => tAt_any (h1.fra hf) p (by omega)
  have hH := fun w' (hf : FrA w1 w') => tAhead_any (h1.fra hf) p (by omega)
  have H1 := Lib.hid (And.intro h1 (And.intro hf1 (And.intro hA hH)))
  clear h1 hf1 hA hH
  go_wp2_with fail
  refine (H1.out.2.2.1 w1 (Fr.refl _ _)).mono ?_
  rintro e w2 ⟨v, rfl, hv, hf2⟩
  obtain ⟨x, hxe⟩ : ∃ x, x = t.at p := ⟨_, rfl⟩
  rw [← hxe] at hv
  have HX := Lib.hid hxe
  clear hxe
  rcases x with _ | ⟨dr, o⟩
  rotate_left
  · obtain ⟨nb, aon, capn, rfl, hnb, hsn⟩ := hv
    have n0 : w2.cell? ⟨nb, 0, none⟩ = some (.bool dr) := cell_of_heap hnb 0
    clear hnb hsn
    cases dr
    · have hr : R = (54, t) := by rw [HR.out]; unfold Tm.mkdirC; rw [← HX.out]
      have HR := Lib.hid hr
      clear hr
      go_wp2
      go_ret
      rw [HR.out]
      exact ⟨rfl, ⟨kvs, (H1.out.1.fra hf2)⟩, (H1.out.2.1.trans hf2).mono fun _ _ _ => trivial⟩
    · have hr : R = (0, t) := by rw [HR.out]; unfold Tm.mkdirC; rw [← HX.out]
      have HR := Lib.hid hr
      clear hr
      go_wp2
      go_ret
      rw [HR.out]
      exact ⟨rfl, ⟨kvs, (H1.out.1.fra hf2)⟩, (H1.out.2.1.trans hf2).mono fun _ _ _ => trivial⟩
  have hvn : v = .pointer none := hv
  subst hvn
  have HF2 := Lib.hid hf2
  clear hv hf2
  go_wp2_with fail
  refine (H1.out.2.2.2 w2 HF2.out).mono ?_
  rintro e w3 ⟨hf3, ⟨lack, vl, hlk, rfl, hown, hll, hld⟩ | ⟨hlk, rfl⟩⟩
  rotate_left
  · have hr : R = (54, t) := by rw [HR.out]; unfold Tm.mkdirC; rw [← HX.out]; simp only; rw [hlk]
    have HR := Lib.hid hr
    clear hr hlk
    go_wp2
    go_ret
    rw [HR.out]
    exact ⟨rfl, ⟨kvs, (H1.out.1.fra HF2.out).fra hf3⟩, ((H1.out.2.1.trans HF2.out).trans hf3).mono fun _ _ _ => trivial⟩
  obtain ⟨aol, capl, rfl⟩ := own_shape hown
  obtain ⟨rb, hrb⟩ : ∃ rb, rb = t.room ((lack.length : Int) + 1) 0 := ⟨_, rfl⟩
  have hr : R = if rb then (0, { t with m := makeF t.m (lack ++ [p]) }) else (55, t) := by
    rw [HR.out]; unfold Tm.mkdirC; rw [← HX.out]; simp only; rw [hlk, hrb]
  have h3' := (H1.out.1.fra HF2.out).fra hf3
  have hRM := tRoom_any h3' ((lack.length : Int) + 1) 0 (by omega) h2 h3
  rw [← hrb] at hRM
  have w1' : IntKind.i64.wrap ((lack.length : Int) + 1) = (lack.length : Int) + 1 := by rw [IntKind.wrap_i64]; omega
  have hszs := Nat.le_trans (Nat.le_trans H1.out.2.1.size HF2.out.size) hf3.size
  have HT := Lib.hid (And.intro hr (And.intro h3' (And.intro hRM (And.intro hown (And.intro hlk hf3)))))
  have hsz23 := hf3.size
  clear hr h3' hRM hown hlk hf3 hrb
  cases rb
  · go_wp2_with fail
    refine HT.out.2.2.1.mono ?_
    rintro e w4 ⟨rfl, rfl⟩
    go_wp2
    go_ret
    rw [HT.out.1, if_neg (by simp)]
    exact ⟨rfl, ⟨kvs, HT.out.2.1⟩, ((H1.out.2.1.trans HF2.out).trans HT.out.2.2.2.2.2).mono fun _ _ _ => trivial⟩
  go_wp2_with fail
  refine HT.out.2.2.1.mono ?_
  rintro e w4 ⟨rfl, rfl⟩
  go_wp2_with (at_builtin; go_loud (refine app_sl elStr rfl (.tmp 41) (.tmp 43) rfl w2.heap.size _ _ _ rfl (HT.out.2.2.2.1.alloc _) rfl (Sl.new _ [_] _ 1 1 1 rfl (Nat.le_refl _) (by decide) _) (fun u hu => by rw [List.mem_singleton] at hu; subst hu; rfl) (by omega) (by simp; omega) ?_); intro v6 w6 hown6 hgr6; obtain ⟨ao6, cp6, rfl⟩ := own_shape hown6)
  have hf6 : FrA w2 w6 := (HT.out.2.2.2.2.2.alloc _).grownNew hgr6 (fun k e => (own_block HT.out.2.2.2.1 e).1)
  have hnm : ∀ k, Value.ownBlock (.slice aol lack.length capl) = some k → k ≠ tb ∧ k ≠ mb ∧ w2.heap.size ≤ k := fun k e => by
    obtain ⟨g1, c, hc⟩ := own_block HT.out.2.2.2.1 e
    exact ⟨ne_of_types hc HT.out.2.1.tree (by decide), fun e => by subst e; exact HT.out.2.1.map.ne_cells hc rfl, g1⟩
  have h6 := (H1.out.1.fra HF2.out).fra hf6
  have e6 : strs lack ++ [.string (bs p)] = strs (lack ++ [p]) := by simp [strs]
  rw [e6] at hown6
  have hMK := tMake_any h6 (lack ++ [p]) (by simp) (Sl.of_own hown6) (fun d hd => by
    rcases List.mem_append.1 hd with hd | hd
    · have := hld d hd; omega
    · rw [List.mem_singleton] at hd; subst hd; omega) (by omega)
  have HMK := Lib.hid (And.intro hMK hf6)
  clear hMK h6 hown6 hgr6 hf6
  go_wp2_with fail
  refine HMK.out.1.mono ?_
  rintro e w7 ⟨rfl, h7, hf7⟩
  go_wp2
  go_ret
  rw [HT.out.1, if_pos (by simp)]
  exact ⟨rfl, h7, (((H1.out.2.1.trans HF2.out).trans HMK.out.2).mono fun _ _ _ => trivial).trans (hf7.mono fun _ _ h => h.1)⟩

end
end Go.Proofs.YtbhjdddiihfafaaGreatDoor
