/- Package store: its small functions. -/
import Derived.Test.YtbhjdddiihfafaaGreatDoorJKeys2
import Derived.Test.YtbhjdddiihfafaaGreatDoorJSt
import Derived.Test.YtbhjdddiihfafaaGreatDoorJWOp2
set_option linter.unusedVariables false
set_option linter.unusedSimpArgs false
namespace Go.Proofs.YtbhjdddiihfafaaGreatDoor
open Go.RowKit Go.Maps

/-- A pair, as a value; as cells. -/
def prv (p : Pr) : Value := .agg #[.string p.key, .string p.val, .bool p.gone]
def prCells (p : Pr) : List Value := [.string p.key, .string p.val, .bool p.gone]

theorem wk_fra {w a w' : World} {B : Nat} (h0 : FrA w a) (h : Fr (WK B) a w') (hB : w.heap.size ≤ B) : FrA w w' :=
  ⟨h.os.trans h0.os, h.tape.trans h0.tape, h.output.trans h0.output, Nat.le_trans h0.size h.size, fun k o ho _ => h.keep _ _ (h0.keep _ _ ho trivial) (.inl (by have := lt_of_heap ho; omega))⟩

set_option maxHeartbeats 1000000 in
set_option maxRecDepth 100000 in
theorem stBytes_any (w : World) (p : Pr) (hk : p.key.size ≤ 1048576) (hv : p.val.size ≤ 1048576) : Calls Tryz.prog 30 #[prv p] w (NewBytes w p.enc) := by
  obtain ⟨k, v, g⟩ := p
  simp only at hk hv
  have hel := Pr.enc_len ⟨k, v, g⟩ (by simp only; omega) (by simp only; omega)
  simp only at hel
  have ht : ∀ b, (truth b).length = 1 := fun b => by cases b <;> simp [truth, num_small]
  have htk : (txt k).length ≤ 1048586 := by
    have := num_len k.size 2 (by omega)
    have h2 : k.data.toList.length = k.size := by rw [Array.length_toList]; rfl
    unfold txt; rw [List.length_append, h2]; omega
  have htv : (txt v).length ≤ 1048586 := by
    have := num_len v.size 2 (by omega)
    have h2 : v.data.toList.length = v.size := by rw [Array.length_toList]; rfl
    unfold txt; rw [List.length_append, h2]; omega
  have HT := Lib.hid (And.intro ht (And.intro htk htv))
  clear ht htk htv hel
  unfold prv
  go_enter Tryz.func30, Tryz.ntmps30
  go_wp2_with fail
  obtain ⟨w1, hw1⟩ : ∃ w1, w.alloc (.cells #[.string k, .string v, .bool g] 33) = w1 := ⟨_, rfl⟩
  rw [hw1]
  have hf1 : FrA w w1 := by rw [← hw1]; exact (Fr.refl _ w).alloc _
  have hb1 : w1.heap[w.heap.size]? = some (.cells #[.string k, .string v, .bool g] 33 (0, 0)) := by rw [← hw1]; exact heap_alloc_new _ _
  have hz1 : w.heap.size < w1.heap.size := by rw [← hw1]; simp
  clear hw1
  refine (NewWriter_any w1 w1.heap.size (Nat.le_refl _)).mono ?_
  rintro e w2 ⟨bw, rfl, hwr, hf2, hz2'⟩
  have hz2 : w1.heap.size ≤ w2.heap.size := by omega
  clear hz2'
  have hb2 := hf2.keep _ _ hb1 trivial
  have c0 : w2.cell? ⟨w.heap.size, 0, none⟩ = some (.string k) := cell_of_heap hb2 0
  have c1 : w2.cell? ⟨w.heap.size, 1, none⟩ = some (.string v) := cell_of_heap hb2 1
  have c2 : w2.cell? ⟨w.heap.size, 2, none⟩ = some (.bool g) := cell_of_heap hb2 2
  have H2 := Lib.hid (And.intro hwr (And.intro hf2 hb2))
  clear hwr hf2 hb2
  go_wp2_with fail
  refine (Bool_any _ w1.heap.size bw [] [g] 1 rfl (H2.out.1.alloc _) (Sl.new _ [_] _ 1 1 1 rfl (Nat.le_refl _) (by decide) _) (by have := HT.out.1 g; simp; omega) (by omega) (by simp; omega)).mono ?_
  rintro e w3 ⟨rfl, hwr3, hf3⟩
  have hF3 : Fr (WK w1.heap.size) w2 w3 := ((Fr.refl _ w2).alloc _).trans hf3
  have hb3 := hF3.keep _ _ H2.out.2.2 (.inl (by omega))
  have d0 : w3.cell? ⟨w.heap.size, 0, none⟩ = some (.string k) := cell_of_heap hb3 0
  have H3 := Lib.hid (And.intro hwr3 (And.intro hF3 hb3))
  have hz3 := hF3.size
  clear hwr3 hf3 hF3 hb3
  go_wp2_with fail
  have hl3 : ([] ++ [g].flatMap truth).length = 1 := by have := HT.out.1 g; simpa using this
  have HL3 := Lib.hid hl3
  clear hl3
  refine (Text_any _ w1.heap.size bw ([] ++ [g].flatMap truth) [k] 1 rfl (H3.out.1.alloc _) (Sl.new _ [_] _ 1 1 1 rfl (Nat.le_refl _) (by decide) _) (by have := HT.out.2.1; rw [HL3.out]; simp; omega) (by omega) (by simp; omega)).mono ?_
  rintro e w4 ⟨rfl, hwr4, hf4⟩
  have hF4 : Fr (WK w1.heap.size) w3 w4 := ((Fr.refl _ w3).alloc _).trans hf4
  have hb4 := hF4.keep _ _ H3.out.2.2 (.inl (by omega))
  have e2 : w4.cell? ⟨w.heap.size, 2, none⟩ = some (.bool g) := cell_of_heap hb4 2
  have e1 : w4.cell? ⟨w.heap.size, 1, none⟩ = some (.string v) := cell_of_heap hb4 1
  have hz4 := hF4.size
  have H4 := Lib.hid (And.intro hwr4 (And.intro hF4 hb4))
  have hl4 : ([] ++ [g].flatMap truth ++ [k].flatMap txt).length ≤ 1048587 := by have := HT.out.2.1; rw [List.length_append, HL3.out]; simp; omega
  have HL4 := Lib.hid hl4
  clear hwr4 hf4 hF4 hb4 hl4
  cases g
  · go_wp2_with fail
    refine (Text_any _ w1.heap.size bw ([] ++ [false].flatMap truth ++ [k].flatMap txt) [v] 1 rfl (H4.out.1.alloc _) (Sl.new _ [_] _ 1 1 1 rfl (Nat.le_refl _) (by decide) _) (by have := HT.out.2.2; have := HL4.out; simp only [List.flatMap_cons, List.flatMap_nil, List.append_nil] at *; omega) (by omega) (by simp; omega)).mono ?_
    rintro e w5 ⟨rfl, hwr5, hf5⟩
    have hF5 : Fr (WK w1.heap.size) w4 w5 := ((Fr.refl _ w4).alloc _).trans hf5
    have H5 := Lib.hid (And.intro hwr5 hF5)
    clear hwr5 hf5 hF5
    go_wp2_with fail
    refine (Bytes_any _ w1.heap.size bw _ H5.out.1 (by have := HT.out.2.2; have := HL4.out; simp only [List.flatMap_cons, List.flatMap_nil, List.append_nil, List.length_append] at *; omega)).mono ?_
    rintro e w6 ⟨vv, rfl, ho, hf6⟩
    rw [show [] ++ [false].flatMap truth ++ [k].flatMap txt ++ [v].flatMap txt = Pr.enc ⟨k, v, false⟩ from by simp [Pr.enc]] at ho
    have h6 := Lib.hid (And.intro ho hf6)
    obtain ⟨ao6, cp6, rfl⟩ := own_shape ho
    clear ho hf6
    go_wp2
    go_ret
    have hfa : FrA w w5 := wk_fra (hf1.trans H2.out.2.1) (H3.out.2.1.trans (H4.out.2.1.trans H5.out.2)) (by omega)
    exact ⟨_, rfl, own_mono h6.out.1 hfa.size, hfa.trans h6.out.2⟩
  · go_wp2_with fail
    refine (Bytes_any _ w1.heap.size bw _ H4.out.1 (by have := HL4.out; omega)).mono ?_
    rintro e w6 ⟨vv, rfl, ho, hf6⟩
    rw [show [] ++ [true].flatMap truth ++ [k].flatMap txt = Pr.enc ⟨k, v, true⟩ from by simp [Pr.enc]] at ho
    have h6 := Lib.hid (And.intro ho hf6)
    obtain ⟨ao6, cp6, rfl⟩ := own_shape ho
    clear ho hf6
    go_wp2
    go_ret
    have hfa : FrA w w4 := wk_fra (hf1.trans H2.out.2.1) (H3.out.2.1.trans H4.out.2.1) (by omega)
    exact ⟨_, rfl, own_mono h6.out.1 hfa.size, hfa.trans h6.out.2⟩

theorem rd_len {α : Type} {f : List UInt8 → Option (α × List UInt8)} {d : α} {st : Option (List UInt8)} {N : Nat} (hf : ∀ l x r, f l = some (x, r) → r.length ≤ l.length) (h : ∀ x, st = some x → x.length ≤ N) : ∀ x, (rdStep f d st).2 = some x → x.length ≤ N := by
  intro x hx
  cases st with
  | none => simp [rdStep] at hx
  | some l =>
    simp only [rdStep] at hx
    cases hfl : f l with
    | none => rw [hfl] at hx; cases hx
    | some p => rw [hfl] at hx; cases hx; exact Nat.le_trans (hf l p.1 p.2 hfl) (h l rfl)

theorem rbool_len : ∀ (l : List UInt8) (x : Bool) r, rbool l = some (x, r) → r.length ≤ l.length := by
  intro l x r h
  cases l with
  | nil => cases h
  | cons y l =>
    simp only [rbool] at h
    by_cases hx : y.toNat ≤ 1
    · rw [if_pos hx] at h; cases h; simp
    · rw [if_neg hx] at h; cases h

theorem rtext_len : ∀ (l : List UInt8) (x : List UInt8) r, rtext l = some (x, r) → r.length ≤ l.length := by
  intro l x r h
  unfold rtext at h
  cases hn : rnum 0 0 l with
  | none => rw [hn] at h; cases h
  | some p =>
    rw [hn] at h
    have := rnum_len 0 0 l p.1 p.2 hn
    simp only at h
    split at h
    · cases h; rw [List.length_drop]; omega
    · cases h

theorem kb_fra {w a w' : World} {B : Nat} {ts : List TypeId} (h0 : FrA w a) (h : Fr (KB B ts) a w') (hB : w.heap.size ≤ B) : FrA w w' :=
  ⟨h.os.trans h0.os, h.tape.trans h0.tape, h.output.trans h0.output, Nat.le_trans h0.size h.size, fun k o ho _ => h.keep _ _ (h0.keep _ _ ho trivial) (.inl (by have := lt_of_heap ho; omega))⟩

theorem Rd.keepAll {w w' : World} {K : Nat → Obj → Prop} {T br : Nat} {st : Option (List UInt8)} (h : Rd w T br st) (hfr : Fr K w w') (hk : ∀ k c t f, t = 5 ∨ (t = 221 ∧ k = br) → K k (.cells c t f)) : Rd w' T br st := by
  cases st with
  | none => obtain ⟨l, h⟩ := h; exact ⟨l, RdAt.fr h hfr hk⟩
  | some l => exact RdAt.fr h hfr hk

/-- A block of another type is written to: the reader stays. -/
theorem Rd.set {w : World} {T br : Nat} {st : Option (List UInt8)} (h : Rd w T br st) {p : Addr} {c : Array Value} {t : TypeId} {f : Nat × Nat} (hb : w.heap[p.block]? = some (.cells c t f)) (h1 : t ≠ 5) (h2 : t ≠ 221) (v : Value) : Rd (w.setCell p v) T br st := by
  refine h.keepAll (K := fun k o => w.heap[k]? = some o → k ≠ p.block) ((Fr.refl _ w).setCell (fun o ho hk => hk ho rfl) v) ?_
  intro k c' t' f' ht hk e
  subst e
  rw [hb] at hk
  cases hk
  rcases ht with rfl | ⟨rfl, _⟩
  · exact h1 rfl
  · exact h2 rfl

theorem Rd.alloc {w : World} {T br : Nat} {st : Option (List UInt8)} (h : Rd w T br st) (o : Obj) : Rd (w.alloc o) T br st :=
  h.keepAll (K := fun _ _ => True) ((Fr.refl _ w).alloc o) (fun _ _ _ _ _ => trivial)

set_option maxHeartbeats 1000000 in
set_option maxRecDepth 100000 in
theorem pair_any (w : World) (l : List UInt8) {n T cap : Nat} {ao : Option Addr} (hn : l.length = n) (hx : Sl w T 5 1 ao n cap (l.map u8)) (hl : n ≤ 140737488355328) :
    Calls Tryz.prog 23 #[.slice ao n cap] w fun e w' => e = .returned (.tuple #[prv (pairF l).1, .bool (pairF l).2]) ∧ FrA w w' := by
  have HNR := Lib.hid (fun w' (hf : FrA w w') => NewReader_any w' l n hn (hx.keep fun b c f _ hc => hf.keep _ _ hc trivial) hl)
  obtain ⟨s1, hs1⟩ : ∃ s, s = rdStep rbool false (some l) := ⟨_, rfl⟩
  obtain ⟨s2, hs2⟩ : ∃ s, s = rdStep rtext [] s1.2 := ⟨_, rfl⟩
  obtain ⟨s3, hs3⟩ : ∃ s, s = rdStep rtext [] s2.2 := ⟨_, rfl⟩
  have hb0 : ∀ x, some l = some x → x.length ≤ 140737488355328 := fun x hx => by cases hx; omega
  have hb1 : ∀ x, s1.2 = some x → x.length ≤ 140737488355328 := by rw [hs1]; exact rd_len rbool_len hb0
  have hb2 : ∀ x, s2.2 = some x → x.length ≤ 140737488355328 := by rw [hs2]; exact rd_len rtext_len hb1
  have hp : pairF l = if s1.1 then (⟨bs s2.1, ByteArray.empty, true⟩, rdEnd s2.2) else (⟨bs s2.1, bs s3.1, false⟩, rdEnd s3.2) := by
    rw [hs3, hs2, hs1]; rfl
  have HP := Lib.hid (And.intro hs1 (And.intro hs2 (And.intro hs3 (And.intro hb0 (And.intro hb1 (And.intro hb2 hp))))))
  have hdn : ∀ st, (doneE st == 0) = rdEnd st := fun st => by
    cases st with
    | none => rfl
    | some l => cases l <;> rfl
  have HDN := Lib.hid hdn
  clear hs1 hs2 hs3 hb0 hb1 hb2 hp hx hdn
  go_enter Tryz.func23, Tryz.ntmps23
  go_wp2_with fail
  obtain ⟨w1, hw1⟩ : ∃ w1, w.alloc (.cells #[.string { data := #[] }, .string { data := #[] }, .bool false] 33) = w1 := ⟨_, rfl⟩
  rw [hw1]
  have hf1 : FrA w w1 := by rw [← hw1]; exact (Fr.refl _ w).alloc _
  have q1 : w1.heap[w.heap.size]? = some (.cells #[.string { data := #[] }, .string { data := #[] }, .bool false] 33 (0, 0)) := by rw [← hw1]; exact heap_alloc_new _ _
  clear hw1
  refine (HNR.out w1 hf1).mono ?_
  rintro e w2 ⟨br, T2, rfl, hbr, hT2, hrd, hf2, hz2⟩
  have hz2' : br < w2.heap.size := by omega
  have q2 := hf2.keep _ _ q1 trivial
  have hlt1 : w.heap.size < br := by have := lt_of_heap q1; omega
  have H2 := Lib.hid (And.intro hrd (And.intro (hf1.trans hf2) q2))
  clear hrd hf2 hz2 q2
  go_wp2_with fail
  refine (RdBool_any w2 br T2 br _ H2.out.1 (Nat.le_refl _) HP.out.2.2.2.1 (by omega)).mono ?_
  rw [← HP.out.1]
  rintro e w3 ⟨rfl, hrd3, hf3⟩
  have H3 := Lib.hid (And.intro hrd3 hf3)
  have hz3 := hf3.size
  clear hrd3 hf3
  go_wp2_with fail
  refine (RdText_any w3 br T2 br _ H3.out.1 (Nat.le_refl _) HP.out.2.2.2.2.1 (by omega)).mono ?_
  rw [← HP.out.2.1]
  rintro e w4 ⟨rfl, hrd4, hf4⟩
  have H4 := Lib.hid (And.intro hrd4 hf4)
  have hz4 := hf4.size
  clear hrd4 hf4
  unfold strv
  obtain ⟨g, hg⟩ : ∃ g, g = s1.1 := ⟨_, rfl⟩
  rw [← hg]
  have HG := Lib.hid hg
  clear hg
  have hmid : ∀ (W : World) (key val : ByteArray) (gg : Bool) (st : Option (List UInt8)) (P : Nat), FrA w W → Rd W T2 br st → W.heap[w.heap.size]? = some (.cells #[.string { data := #[] }, .string { data := #[] }, .bool false] 33 (0, 0)) → W.heap[P]? = some (.cells #[.string key, .string val, .bool gg] 33 (0, 0)) → w.heap.size < P → True := fun _ _ _ _ _ _ _ _ _ _ _ => trivial
  clear hmid
  cases g
  · have hb4 : (w4.alloc (.cells #[.string (bs s2.1), .string { data := #[] }, .bool false] 33)).heap[w4.heap.size]? = some (.cells #[.string (bs s2.1), .string { data := #[] }, .bool false] 33 (0, 0)) := heap_alloc_new _ _
    go_wp2_with fail
    refine (RdText_any _ br T2 br s2.2 ?hrd (Nat.le_refl _) HP.out.2.2.2.2.2.1 (by simp; omega)).mono ?_
    case hrd =>
      have := H4.out.1
      cases hs : s2.2 with
      | none => rw [hs] at this; obtain ⟨l', h'⟩ := this; exact ⟨l', h'.alloc _⟩
      | some l' => rw [hs] at this; exact RdAt.alloc this _
    rw [← HP.out.2.2.1]
    rintro e w5 ⟨rfl, hrd5, hf5⟩
    have hb5 := hf5.keep _ _ hb4 (.inr (by simp [Obj.out]))
    have d1 : w5.cell? ⟨w4.heap.size, 1, none⟩ = some (.string { data := #[] }) := cell_of_heap hb5 1
    have f1 := free_of_heap hb5 1
    have H5 := Lib.hid (And.intro hrd5 (And.intro (((Fr.refl (RK br) w4).alloc _).trans hf5) hb5))
    have hz5 := hf5.size
    simp only [World.size_alloc] at hz5
    clear hrd5 hf5 hb5 hb4
    unfold strv
    go_wp2_with fail
    obtain ⟨W, hW⟩ : ∃ W, W = w5.setCell ⟨w4.heap.size, 1, none⟩ (.string (bs s3.1)) := ⟨_, rfl⟩
    have hbW : W.heap[w4.heap.size]? = some (.cells #[.string (bs s2.1), .string (bs s3.1), .bool false] 33 (0, 0)) := by rw [hW]; exact heap_set H5.out.2.2 1 _
    have hfW : Fr (RK br) w2 W := by rw [hW]; exact (H3.out.2.trans (H4.out.2.trans H5.out.2.1)).setCell (fun o ho => absurd (lt_of_heap ho) (by simp only; omega)) _
    have hrW : W.heap[w.heap.size]? = some (.cells #[.string { data := #[] }, .string { data := #[] }, .bool false] 33 (0, 0)) := hfW.keep _ _ H2.out.2.2 (.inl hlt1)
    have hRd : Rd W T2 br s3.2 := by rw [hW]; exact Rd.set H5.out.1 H5.out.2.2 (by decide) (by decide) _
    rw [← hW]
    clear hW
    have k0 : W.cell? ⟨w4.heap.size, 0, none⟩ = some (.string (bs s2.1)) := cell_of_heap hbW 0
    have k1 : W.cell? ⟨w4.heap.size, 1, none⟩ = some (.string (bs s3.1)) := cell_of_heap hbW 1
    have k2 : W.cell? ⟨w4.heap.size, 2, none⟩ = some (.bool false) := cell_of_heap hbW 2
    have r0 : W.cell? ⟨w.heap.size, 0, none⟩ = some (.string { data := #[] }) := cell_of_heap hrW 0
    have r1 : W.cell? ⟨w.heap.size, 1, none⟩ = some (.string { data := #[] }) := cell_of_heap hrW 1
    have r2 : W.cell? ⟨w.heap.size, 2, none⟩ = some (.bool false) := cell_of_heap hrW 2
    have rf : ∀ o, W.frozen? ⟨w.heap.size, o, none⟩ = false := free_of_heap hrW
    have hDO := Lib.hid (Done_any W.drew T2 br s3.2 hRd)
    have HW := Lib.hid (And.intro hrW hfW)
    clear hbW hrW hRd hfW
    have hne : w4.heap.size ≠ w.heap.size := by have := lt_of_heap q1; omega
    have hne' := hne.symm
    go_region_held3 (fun w' => w'.cell? ⟨w4.heap.size, 0, none⟩ = some (.string (bs s2.1)) ∧ w'.cell? ⟨w4.heap.size, 1, none⟩ = some (.string (bs s3.1)) ∧ w'.cell? ⟨w4.heap.size, 2, none⟩ = some (.bool false)) (first | exact ⟨k0, k1, k2⟩ | go_keep) (first | (go_at_call 69; (refine hDO.out.mono ?_); rintro e w8 ⟨rfl, rfl⟩))
    go_wp2
    have hfa : FrA w W := kb_fra H2.out.2.1 HW.out.2 (by omega)
    have hno : ∀ (p : Addr) o, p.block = w.heap.size → w.heap[p.block]? = some o → ¬ True := fun p o hp ho => absurd (lt_of_heap ho) (by omega)
    obtain ⟨W', hW'⟩ : ∃ W', W' = ((W.setCell ⟨w.heap.size, 0, none⟩ (.string (bs s2.1))).setCell ⟨w.heap.size, 1, none⟩ (.string (bs s3.1))).setCell ⟨w.heap.size, 2, none⟩ (.bool false) := ⟨_, rfl⟩
    have hb' : W'.heap[w.heap.size]? = some (.cells #[.string (bs s2.1), .string (bs s3.1), .bool false] 33 (0, 0)) := by rw [hW']; exact heap_set (heap_set (heap_set HW.out.1 0 _) 1 _) 2 _
    have hfa' : FrA w W' := by rw [hW']; exact ((hfa.setCell (fun o ho => absurd (lt_of_heap ho) (by simp only; omega)) _).setCell (fun o ho => absurd (lt_of_heap ho) (by simp only; omega)) _).setCell (fun o ho => absurd (lt_of_heap ho) (by simp only; omega)) _
    have g0 : W'.cell? ⟨w.heap.size, 0, none⟩ = some (.string (bs s2.1)) := cell_of_heap hb' 0
    have g1 : W'.cell? ⟨w.heap.size, 1, none⟩ = some (.string (bs s3.1)) := cell_of_heap hb' 1
    have g2 : W'.cell? ⟨w.heap.size, 2, none⟩ = some (.bool false) := cell_of_heap hb' 2
    rw [HP.out.2.2.2.2.2.2, ← HG.out]
    simp only [Bool.false_eq_true, if_false, if_true]
    rw [← HDN.out]
    refine bodyPost_ret (v := .tuple #[.agg #[.string (bs s2.1), .string (bs s3.1), .bool false], .bool (doneE s3.2 == 0)]) ?hres rfl ⟨rfl, ?hfin⟩
    case hfin => rw [← hW']; exact hfa'.drew
    case hres =>
      rw [← hW']
      have g0' : W'.drew.cell? ⟨w.heap.size, 0, none⟩ = some (.string (bs s2.1)) := g0
      have g1' : W'.drew.cell? ⟨w.heap.size, 1, none⟩ = some (.string (bs s3.1)) := g1
      have g2' : W'.drew.cell? ⟨w.heap.size, 2, none⟩ = some (.bool false) := g2
      clear hb' hfa' hW'
      simp [results, Tryz.f23, go_sem, g0', g1', g2']
  · go_wp2_with fail
    obtain ⟨W, hW⟩ : ∃ W, W = w4.alloc (.cells #[.string (bs s2.1), .string { data := #[] }, .bool true] 33) := ⟨_, rfl⟩
    have hbW : W.heap[w4.heap.size]? = some (.cells #[.string (bs s2.1), .string { data := #[] }, .bool true] 33 (0, 0)) := by rw [hW]; exact heap_alloc_new _ _
    have hfW : Fr (RK br) w2 W := by rw [hW]; exact (H3.out.2.trans H4.out.2).alloc _
    have hrW : W.heap[w.heap.size]? = some (.cells #[.string { data := #[] }, .string { data := #[] }, .bool false] 33 (0, 0)) := hfW.keep _ _ H2.out.2.2 (.inl hlt1)
    have hRd : Rd W T2 br s2.2 := by rw [hW]; exact Rd.alloc H4.out.1 _
    rw [← hW]
    clear hW
    have k0 : W.cell? ⟨w4.heap.size, 0, none⟩ = some (.string (bs s2.1)) := cell_of_heap hbW 0
    have k1 : W.cell? ⟨w4.heap.size, 1, none⟩ = some (.string { data := #[] }) := cell_of_heap hbW 1
    have k2 : W.cell? ⟨w4.heap.size, 2, none⟩ = some (.bool true) := cell_of_heap hbW 2
    have r0 : W.cell? ⟨w.heap.size, 0, none⟩ = some (.string { data := #[] }) := cell_of_heap hrW 0
    have r1 : W.cell? ⟨w.heap.size, 1, none⟩ = some (.string { data := #[] }) := cell_of_heap hrW 1
    have r2 : W.cell? ⟨w.heap.size, 2, none⟩ = some (.bool false) := cell_of_heap hrW 2
    have rf : ∀ o, W.frozen? ⟨w.heap.size, o, none⟩ = false := free_of_heap hrW
    have hDO := Lib.hid (Done_any W.drew T2 br s2.2 hRd)
    have HW := Lib.hid (And.intro hrW hfW)
    clear hbW hrW hRd hfW
    have hne : w4.heap.size ≠ w.heap.size := by have := lt_of_heap q1; omega
    have hne' := hne.symm
    go_region_held3 (fun w' => w'.cell? ⟨w4.heap.size, 0, none⟩ = some (.string (bs s2.1)) ∧ w'.cell? ⟨w4.heap.size, 1, none⟩ = some (.string { data := #[] }) ∧ w'.cell? ⟨w4.heap.size, 2, none⟩ = some (.bool true)) (first | exact ⟨k0, k1, k2⟩ | go_keep) (first | (go_at_call 69; (refine hDO.out.mono ?_); rintro e w8 ⟨rfl, rfl⟩))
    go_wp2
    have hfa : FrA w W := kb_fra H2.out.2.1 HW.out.2 (by omega)
    have hno : ∀ (p : Addr) o, p.block = w.heap.size → w.heap[p.block]? = some o → ¬ True := fun p o hp ho => absurd (lt_of_heap ho) (by omega)
    obtain ⟨W', hW'⟩ : ∃ W', W' = ((W.setCell ⟨w.heap.size, 0, none⟩ (.string (bs s2.1))).setCell ⟨w.heap.size, 1, none⟩ (.string { data := #[] })).setCell ⟨w.heap.size, 2, none⟩ (.bool true) := ⟨_, rfl⟩
    have hb' : W'.heap[w.heap.size]? = some (.cells #[.string (bs s2.1), .string { data := #[] }, .bool true] 33 (0, 0)) := by rw [hW']; exact heap_set (heap_set (heap_set HW.out.1 0 _) 1 _) 2 _
    have hfa' : FrA w W' := by rw [hW']; exact ((hfa.setCell (fun o ho => absurd (lt_of_heap ho) (by simp only; omega)) _).setCell (fun o ho => absurd (lt_of_heap ho) (by simp only; omega)) _).setCell (fun o ho => absurd (lt_of_heap ho) (by simp only; omega)) _
    have g0 : W'.cell? ⟨w.heap.size, 0, none⟩ = some (.string (bs s2.1)) := cell_of_heap hb' 0
    have g1 : W'.cell? ⟨w.heap.size, 1, none⟩ = some (.string { data := #[] }) := cell_of_heap hb' 1
    have g2 : W'.cell? ⟨w.heap.size, 2, none⟩ = some (.bool true) := cell_of_heap hb' 2
    rw [HP.out.2.2.2.2.2.2, ← HG.out]
    simp only [Bool.false_eq_true, if_false, if_true]
    rw [← HDN.out]
    refine bodyPost_ret (v := .tuple #[.agg #[.string (bs s2.1), .string { data := #[] }, .bool true], .bool (doneE s2.2 == 0)]) ?hres rfl ⟨rfl, ?hfin⟩
    case hfin => rw [← hW']; exact hfa'.drew
    case hres =>
      rw [← hW']
      have g0' : W'.drew.cell? ⟨w.heap.size, 0, none⟩ = some (.string (bs s2.1)) := g0
      have g1' : W'.drew.cell? ⟨w.heap.size, 1, none⟩ = some (.string { data := #[] }) := g1
      have g2' : W'.drew.cell? ⟨w.heap.size, 2, none⟩ = some (.bool true) := g2
      clear hb' hfa' hW'
      simp [results, Tryz.f23, go_sem, g0', g1', g2']

end Go.Proofs.YtbhjdddiihfafaaGreatDoor
/- Package store: change, Get, Keys. -/
namespace Go.Proofs.YtbhjdddiihfafaaGreatDoor
open Go.RowKit Go.Maps

/-! ### a store's map, as the world's -/
def encM (m : Sm) : List (Lit × Value) := m.map fun q => (q.1, .string (bs q.2))

theorem encM_kins (x : Lit × List UInt8) : ∀ m : Sm, kins (x.1, .string (bs x.2)) (encM m) = encM (kins x m)
  | [] => rfl
  | y :: r => by
    have ih := encM_kins x r
    unfold encM at *
    rw [List.map_cons]
    unfold kins
    simp only
    by_cases h : x.1.before y.1
    · rw [if_pos h, if_pos h]; rfl
    · rw [if_neg h, if_neg h, List.map_cons, ih]

theorem encM_del (m : Sm) (k : Lit) : kdel (encM m) k = encM (kdel m k) := by
  unfold encM kdel
  rw [List.filter_map]; rfl

theorem encM_put (m : Sm) (k : Lit) (v : List UInt8) : kput (encM m) k (.string (bs v)) = encM (kput m k v) := by
  unfold kput
  rw [encM_del]
  exact encM_kins (k, v) _

theorem encM_get (m : Sm) (k : Lit) : kget (encM m) k = (kget m k).map fun v => .string (bs v) := by
  unfold kget encM
  rw [List.find?_map]
  have e : ((fun p : Lit × Value => p.1.sameKey k) ∘ fun q : Lit × List UInt8 => (q.1, Value.string (bs q.2))) = fun p => p.1.sameKey k := rfl
  rw [e]
  cases m.find? fun p => p.1.sameKey k <;> rfl

theorem encM_length (m : Sm) : (encM m).length = m.length := by simp [encM]

theorem encM_rise {m : Sm} (h : Rise m) : Rise (encM m) := by
  unfold encM
  exact List.pairwise_map.2 h

theorem changeF_length (l : List Pr) : ∀ m : Sm, (changeF m l).length ≤ m.length + l.length := by
  induction l with
  | nil => intro m; simp [changeF]
  | cons p r ih =>
    intro m
    rw [changeF, List.foldl_cons]
    have := ih (if p.gone then kdel m (.string p.key.data.toList) else kput m (.string p.key.data.toList) p.val.data.toList)
    rw [changeF] at this
    have h2 : (if p.gone then kdel m (.string p.key.data.toList) else kput m (.string p.key.data.toList) p.val.data.toList).length ≤ m.length + 1 := by
      split
      · have := kdel_length m (.string p.key.data.toList); omega
      · exact kput_length _ _ _
    rw [List.length_cons]; omega

theorem changeF_take (m : Sm) (l : List Pr) (k : Nat) (p : Pr) (h : l[k]? = some p) :
    changeF m (l.take (k + 1)) = if p.gone then kdel (changeF m (l.take k)) (.string p.key.data.toList) else kput (changeF m (l.take k)) (.string p.key.data.toList) p.val.data.toList := by
  rw [List.take_add_one, h, changeF_append]; rfl

theorem umapSS : Tryz.prog.underlying 72 = some (.map 9 9) := by kernel_rfl
theorem bs_toList (k : ByteArray) : bs k.data.toList = k := by simp [bs]

theorem prCells_at (l : List Pr) (k : Nat) (p : Pr) (h : l[k]? = some p) (j : Nat) (hj : j < 3) : (l.flatMap prCells)[k * 3 + j]? = (prCells p)[j]? := by
  induction l generalizing k with
  | nil => cases h
  | cons q r ih =>
    rw [List.flatMap_cons]
    cases k with
    | zero => cases h; rw [List.getElem?_append_left (by simp [prCells]; omega)]; simp
    | succ k =>
      rw [List.getElem?_append_right (by simp [prCells]; omega), show (k + 1) * 3 + j - (prCells q).length = k * 3 + j from by simp [prCells]; omega]
      exact ih k h

set_option maxHeartbeats 1000000 in
set_option maxRecDepth 100000 in
theorem change_any (w : World) (bm : Nat) (m : Sm) (l : List Pr) (n : Nat) (hn : l.length = n) {T cap : Nat} {ao : Option Addr} (hx : Sl w T 33 3 ao n cap (l.flatMap prCells)) (hm : MapAt w 9 bm (encM m)) (hlen : m.length + n < 140737488355328) (hks : ∀ p ∈ l, p.key.size ≤ maxLen) :
    Calls Tryz.prog 24 #[.map (some bm), .slice ao n cap] w fun e w' => e = .returned (.tuple #[]) ∧ MapAt w' 9 bm (encM (changeF m l)) ∧ Fr (fun k _ => k ≠ bm) w w' := by
  subst hn
  go_enter Tryz.func24, Tryz.ntmps24
  go_wp2
  go_loopw [8] (fun i wr => ∃ k : Nat, k ≤ l.length ∧ i = .int .i64 k ∧ MapAt wr 9 bm (encM (changeF m (l.take k))) ∧ Fr (fun k _ => k ≠ bm) w wr) (fun i _ => l.length - (intOf i).toNat)
  case atStart => exact ⟨0, Nat.zero_le _, rfl, by simpa [changeF] using hm, Fr.refl _ _⟩
  case round =>
    obtain ⟨k, hk, rfl, hmr, hfr⟩ := hrel
    by_cases hkl : k < l.length
    · have hxr : Sl wr T 33 3 ao l.length cap (l.flatMap prCells) := hx.keep fun b c f _ hc => hfr.keep _ _ hc (fun e => by subst e; exact hm.ne_cells hc rfl)
      obtain ⟨b, off, rfl, _, hcl⟩ := hxr.at (by omega)
      obtain ⟨p, hp⟩ : ∃ p, l[k]? = some p := ⟨_, List.getElem?_eq_getElem hkl⟩
      have hc0 : wr.cell? ⟨b, off + k * 3, none⟩ = some (.string p.key) := by have := hcl (k * 3) (by omega); rw [this]; exact prCells_at l k p hp 0 (by decide)
      have hc1 : wr.cell? ⟨b, off + k * 3 + 1, none⟩ = some (.string p.val) := by have := hcl (k * 3 + 1) (by omega); rw [← Nat.add_assoc] at this; rw [this]; exact prCells_at l k p hp 1 (by decide)
      have hc2 : wr.cell? ⟨b, off + k * 3 + 2, none⟩ = some (.bool p.gone) := by have := hcl (k * 3 + 2) (by omega); rw [← Nat.add_assoc] at this; rw [this]; exact prCells_at l k p hp 2 (by decide)
      have htk := changeF_take m l k p hp
      have hpk := hks p (List.mem_of_getElem? hp)
      have hl2 := changeF_length (l.take k) m
      rw [List.length_take] at hl2
      have HK := Lib.hid (And.intro htk (And.intro hl2 hfr))
      clear htk hl2 hfr hp hcl hxr hx hm
      obtain ⟨pk, pv, pg⟩ := p
      simp only at hc0 hc1 hc2
      have hkey := str_key pk hpk
      cases pg
      · go_wp2_with (refine map_put rfl _ _ _ rfl str_keys umapSS rfl (hmr.alloc _) (by rw [encM_length]; have := HK.out.2.1; simp only [maxLen]; omega) rfl rfl hkey ?_; intro wx hm8 hg8)
        go_roundw
        case rel =>
          refine ⟨k + 1, by omega, by go_num, ?_, ?_⟩
          · rw [HK.out.1]
            simp only [Bool.false_eq_true, if_false]
            rw [← encM_put, bs_toList]
            exact hm8
          · exact (HK.out.2.2.alloc _).grown hg8 (fun k' o e _ hne => by cases e; exact hne rfl)
        case measure => simp [intOf]; omega
      · go_wp2_with (refine map_del rfl _ _ rfl str_keys umapSS rfl (hmr.alloc _) rfl hkey ?_; intro wx hm8 hg8)
        go_roundw
        case rel =>
          refine ⟨k + 1, by omega, by go_num, ?_, ?_⟩
          · rw [HK.out.1]
            simp only [if_true]
            rw [← encM_del]
            exact hm8
          · exact (HK.out.2.2.alloc _).grown hg8 (fun k' o e _ hne => by cases e; exact hne rfl)
        case measure => simp [intOf]; omega
    · go_wp2
      go_end0
      obtain rfl : k = l.length := by omega
      rw [List.take_length] at hmr
      exact ⟨rfl, hmr, hfr⟩

/-! ### a store -/
/-- A store's blocks: the log's, its own, its map's. -/
structure Sids where
  I : Ids
  st : Nat
  mp : Nat

/-- A store in memory, of which the log is I's. -/
structure StAt (w : World) (S : Sids) (L : Lg) (m : Sm) : Prop where
  log : LogAt w S.I L
  st : w.heap[S.st]? = some (.cells #[.pointer (some ⟨S.I.bl, 0, none⟩), .map (some S.mp), .bool false] 74 (0, 0))
  map : MapAt w 9 S.mp (encM m)
  ne1 : S.mp ≠ S.I.bm
  ne2 : S.mp ≠ S.I.bu

section
variable {w w' : World} {S : Sids} {L : Lg} {m : Sm}

theorem StAt.fr {K : Nat → Obj → Prop} (h : StAt w S L m) (hfr : Fr K w w') (hk : ∀ k o, (k = S.I.d ∨ k = S.I.bs ∨ k = S.I.bm ∨ k = S.I.bl ∨ k = S.I.bu ∨ k = S.st ∨ k = S.mp) → w.heap[k]? = some o → K k o) (h8 : ∀ k c f, w.heap[k]? = some (.cells c 5 f) → K k (.cells c 5 f)) : StAt w' S L m :=
  ⟨h.log.fr hfr (fun k o hk' ho => hk k o (by rcases hk' with h | h | h | h | h <;> simp [h]) ho) h8, hfr.keep _ _ h.st (hk _ _ (by simp) h.st), h.map.same fun es clock hb => hfr.keep _ _ hb (hk _ _ (by simp) hb), h.ne1, h.ne2⟩

theorem StAt.fra (h : StAt w S L m) (hfr : FrA w w') : StAt w' S L m := h.fr hfr (fun _ _ _ _ => trivial) (fun _ _ _ _ => trivial)

theorem Get_any (h : StAt w S L m) (k : ByteArray) (hk : k.size ≤ maxLen) :
    Calls Tryz.prog 21 #[.pointer (some ⟨S.st, 0, none⟩), .string k] w fun e w' =>
      e = .returned (.tuple #[.string (((kget m (.string k.data.toList)).map bs).getD ByteArray.empty), .bool (kget m (.string k.data.toList)).isSome]) ∧ w = w' := by
  have c1 : w.cell? ⟨S.st, 1, none⟩ = some (.map (some S.mp)) := cell_of_heap h.st 1
  have hmap := h.map
  have hkey := str_key k hk
  have hz : ∀ w : World, (zeroValue 9).run Tryz.prog w = .ok (.string ByteArray.empty) w := fun w => by kernel_rfl
  have e1 : ((kget (encM m) (.string k.data.toList)).getD (.string ByteArray.empty)) = .string (((kget m (.string k.data.toList)).map bs).getD ByteArray.empty) := by
    rw [encM_get]; cases kget m (.string k.data.toList) <;> rfl
  have e2 : (kget (encM m) (.string k.data.toList)).isSome = (kget m (.string k.data.toList)).isSome := by rw [encM_get]; simp
  rw [← e1, ← e2]
  clear e1 e2 h
  go_enter Tryz.func21, Tryz.ntmps21
  go_wp2_with (at_lookup; refine map_look_ok rfl _ _ rfl str_keys umapSS rfl hmap (hz _) rfl hkey ?_)
  go_ret2
  exact ⟨rfl, rfl⟩

theorem noted_zero (w : World) (a : Option Addr) : Calls Tryz.prog 32 #[.pointer a, .int .i64 0] w fun e w' => e = .returned (.int .i64 0) ∧ w = w' := by
  go_enter Tryz.func32, Tryz.ntmps32
  go_wp2
  go_ret
  exact ⟨rfl, rfl⟩

theorem filter_take (p : List UInt8) (l : List (List UInt8)) (k : Nat) (x : List UInt8) (h : l[k]? = some x) :
    (l.take (k + 1)).filter (fun y => p.isPrefixOf y) = (l.take k).filter (fun y => p.isPrefixOf y) ++ if p.isPrefixOf x then [x] else [] := by
  rw [List.take_add_one, h, List.filter_append]
  congr 1
  simp only [Option.toList]
  by_cases hx : p.isPrefixOf x <;> simp [hx]

def strs (l : List (List UInt8)) : List Value := l.map fun s => .string (bs s)

set_option maxHeartbeats 1000000 in
set_option maxRecDepth 100000 in
theorem Keys_any (h : StAt w S L m) (hok : m.Ok) (hn : m.length ≤ 1048576) (p : ByteArray) :
    Calls Tryz.prog 90 #[.pointer (some ⟨S.st, 0, none⟩), .string p] w fun e w' =>
      ∃ v, e = .returned v ∧ w'.ownsRow w.heap.size 9 1 v (keysF m p.data.toList).length (strs (keysF m p.data.toList)) ∧ FrA w w' := by
  have c1 : w.cell? ⟨S.st, 1, none⟩ = some (.map (some S.mp)) := cell_of_heap h.st 1
  obtain ⟨ks, hks⟩ : ∃ ks, ks = m.map fun q => keyS q.1 := ⟨_, rfl⟩
  obtain ⟨n, hnn⟩ : ∃ n, n = ks.length := ⟨_, rfl⟩
  have hnm : n = m.length := by rw [hnn, hks]; simp
  have HK := Lib.hid (sortedSS_any h.map (encM_rise hok.rise) (fun q hq => by
    simp only [encM, List.mem_map] at hq
    obtain ⟨q', hq', rfl⟩ := hq
    exact hok.key q' hq') (by rw [encM_length]; exact hn))
  have hvs : (encM m).map (fun p => Value.string ⟨(keyS p.1).toArray⟩) = strs ks := by
    rw [hks]; simp [encM, strs, bs, List.map_map, Function.comp_def]
  rw [hvs] at HK
  have hK : keysF m p.data.toList = ks.filter fun k => p.data.toList.isPrefixOf k := by rw [hks]; rfl
  rw [hK]
  clear h hok hvs hks hK
  have hlk : (strs ks).length = n := by rw [hnn]; simp [strs]
  go_enter Tryz.func90, Tryz.ntmps90
  go_wp2_with (first
    | (go_at_call 88; refine (keysSS_any _ _).mono ?_; rintro e w1 ⟨rfl, rfl⟩)
    | (go_at_call 87; refine HK.out.mono ?_; rintro e w2 ⟨v, rfl, hkr, hf2⟩; rw [hlk] at hkr; obtain ⟨aok, capk, rfl⟩ := own_shape hkr))
  have hfw : FrA w w2 := ((Fr.refl _ w).alloc _).trans hf2
  have hsl := Sl.of_own hkr
  have hsz2 := hfw.size
  clear hkr hf2 HK c1
  go_loopw [5, 15] (fun v i wr => ∃ k : Nat, k ≤ n ∧ i = .int .i64 k ∧ wr.ownsRow w2.heap.size 9 1 v ((ks.take k).filter fun y => p.data.toList.isPrefixOf y).length (strs ((ks.take k).filter fun y => p.data.toList.isPrefixOf y)) ∧ FrA w2 wr) (fun _ i _ => n - (intOf i).toNat)
  case atStart => exact ⟨0, Nat.zero_le _, rfl, ⟨by simp [strs], .inl ⟨rfl, rfl⟩⟩, Fr.refl _ _⟩
  case round =>
    obtain ⟨k, hk, rfl, hown, hfr⟩ := hrel
    by_cases hkl : k < n
    · have hslr := hsl.keep (w' := wr) fun b c f _ hc => hfr.keep _ _ hc trivial
      obtain ⟨b, off, rfl, _, hcl⟩ := hslr.at (by omega)
      obtain ⟨x, hx⟩ : ∃ x, ks[k]? = some x := ⟨_, List.getElem?_eq_getElem (by omega)⟩
      have hcell : wr.cell? ⟨b, off + k, none⟩ = some (.string (bs x)) := by rw [hcl k (by omega)]; simp [strs, hx]
      have hft := filter_take p.data.toList ks k x hx
      have hlen : ((ks.take k).filter fun y => p.data.toList.isPrefixOf y).length ≤ 1048576 := by
        have := List.length_filter_le (fun y => p.data.toList.isPrefixOf y) (ks.take k)
        rw [List.length_take] at this; omega
      obtain ⟨F, hF⟩ : ∃ F, F = (ks.take k).filter fun y => p.data.toList.isPrefixOf y := ⟨_, rfl⟩
      rw [← hF] at hown hft hlen
      have HX := Lib.hid (And.intro hft (And.intro hfr hsz2))
      have hHP := HasPrefix_any (bs x) p wr
      rw [bs_data] at hHP
      obtain ⟨ao0, cp0, rfl⟩ := own_shape hown
      have hszr := hfr.size
      clear hft hfr hcl hslr hsl hx hsz2 hF
      obtain ⟨g, hg⟩ : ∃ g, g = p.data.toList.isPrefixOf x := ⟨_, rfl⟩
      rw [← hg] at hHP HX
      have HP := Lib.hid hHP
      clear hg hHP
      cases g
      · go_wp2_with (go_at_call 113; refine HP.out.mono ?_; rintro e w3 ⟨rfl, rfl⟩)
        go_roundw
        case rel =>
          refine ⟨k + 1, by omega, by go_num, ?_, HX.out.2.1⟩
          rw [HX.out.1]
          simpa using hown
        case measure => simp [intOf]; omega
      · go_wp2_with (first | (go_at_call 113; refine HP.out.mono ?_; rintro e w3 ⟨rfl, rfl⟩) | at_builtin; go_loud (refine app_sl elStr rfl (.tmp 22) (.tmp 24) rfl w2.heap.size _ _ _ rfl (hown.alloc _) rfl (Sl.new _ [_] _ 1 1 1 rfl (Nat.le_refl _) (by decide) _) (fun u hu => by rw [List.mem_singleton] at hu; subst hu; rfl) (by omega) (by simp; omega) ?_); intro v6 w6 hown6 hgr6; obtain ⟨ao6, cp6, rfl⟩ := own_shape hown6)
        go_roundw
        case rel =>
          refine ⟨k + 1, by omega, by go_num, ?_, ?_⟩
          · rw [HX.out.1]
            simp only [if_true, List.length_append, List.length_singleton]
            rw [show strs (F ++ [x]) = strs F ++ [.string (bs x)] from by simp [strs]]
            exact hown6
          · exact (HX.out.2.1.alloc _).grown hgr6 (fun k' o e ho _ => by
              have h1 := (hown.lt k' e).1
              have h2 := lt_of_heap ho
              omega)
        case measure => simp [intOf]; omega
    · obtain rfl : k = n := by omega
      rw [List.take_of_length_le (by omega)] at hown
      obtain ⟨ao0, cp0, rfl⟩ := own_shape hown
      go_wp2
      go_ret
      exact ⟨_, rfl, own_mono hown hsz2, hfw.trans hfr⟩

end

end Go.Proofs.YtbhjdddiihfafaaGreatDoor
