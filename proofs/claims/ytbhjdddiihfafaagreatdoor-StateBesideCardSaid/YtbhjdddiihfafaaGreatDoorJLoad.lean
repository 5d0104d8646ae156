/- Package state: Load, where nothing is cached. -/
import Derived.Test.YtbhjdddiihfafaaGreatDoorJCache
import Derived.Test.YtbhjdddiihfafaaGreatDoorJSave
import Derived.Test.YtbhjdddiihfafaaGreatDoorJState2
set_option linter.unusedVariables false
set_option linter.unusedSimpArgs false
namespace Go.Proofs.YtbhjdddiihfafaaGreatDoor
open Go.RowKit Go.Maps

/-- A state as a value. -/
def stv (M L : List UInt8) (kv tv : Value) : Value := .agg #[.string (bs M), .string (bs L), kv, tv]

/-- What a store's map tells. -/
def gets (m : Sm) (k : List UInt8) : List UInt8 := (kget m (.string k)).getD []

theorem gets_val (m : Sm) (k : List UInt8) : (((kget m (.string k)).map bs).getD ByteArray.empty) = bs (gets m k) := by
  unfold gets
  cases kget m (.string k) <;> rfl

/-- A state in memory, of which nothing is cached. -/
def StaAt (w : World) (v : Value) (M L : List UInt8) (fl : List Fl) : Prop :=
  ∃ ao cap vs, v = stv M L (.slice none 0 0) (.slice ao fl.length cap) ∧ FsT w w.heap.size ao fl.length cap vs fl

section
variable {w w' : World} {S : Sids} {N u : Nat} {m : Sm}

theorem StaAt.fr {v : Value} {M L : List UInt8} {fl : List Fl} {K : Nat → Obj → Prop} (h : StaAt w v M L fl) (hfr : Fr K w w')
    (hk : ∀ k c t f, (t = 51 ∨ t = 5) → w.heap[k]? = some (.cells c t f) → K k (.cells c t f)) : StaAt w' v M L fl := by
  obtain ⟨ao, cap, vs, h1, h2⟩ := h
  have h3 := h2.fr hfr hk
  refine ⟨ao, cap, vs, h1, h3.row.mono hfr.size, h3.recs.mono fun v r _ _ hr => ?_⟩
  obtain ⟨ao, cap, rfl, hs⟩ := hr
  exact ⟨ao, cap, rfl, hs.mono hfr.size⟩

theorem StaAt.fra {v : Value} {M L : List UInt8} {fl : List Fl} (h : StaAt w v M L fl) (hfr : FrA w w') : StaAt w' v M L fl := h.fr hfr fun _ _ _ _ _ _ => trivial

set_option maxHeartbeats 2000000 in
set_option maxRecDepth 100000 in
theorem Load_any (h : Sto w S N u m) (hn : m.length ≤ 1048576) (hk : keysF m [99, 47] = []) {fl : List Fl} (hfl : filesF (gets m kTree) = fl) (ht : (gets m kTree).length ≤ 4194304) :
    Calls Tryz.prog 13 #[.pointer (some ⟨S.st, 0, none⟩)] w fun e w' => ∃ v, e = .returned v ∧ StaAt w' v (gets m kMan) (gets m kLock) fl ∧ FrA w w' := by
  subst hfl
  have hg1 := fun w' (hf : FrA w w') => stoGet_any (h.fra hf) ⟨#[115, 47, 109, 97, 110, 105, 102, 101, 115, 116]⟩ (by decide)
  have hg2 := fun w' (hf : FrA w w') => stoGet_any (h.fra hf) ⟨#[115, 47, 108, 111, 99, 107]⟩ (by decide)
  have hg3 := fun w' (hf : FrA w w') => stoGet_any (h.fra hf) ⟨#[115, 47, 116, 114, 101, 101]⟩ (by decide)
  have e1 : (ByteArray.mk #[115, 47, 109, 97, 110, 105, 102, 101, 115, 116]).data.toList = kMan := rfl
  have e2 : (ByteArray.mk #[115, 47, 108, 111, 99, 107]).data.toList = kLock := rfl
  have e3 : (ByteArray.mk #[115, 47, 116, 114, 101, 101]).data.toList = kTree := rfl
  rw [e1] at hg1
  rw [e2] at hg2
  rw [e3] at hg3
  simp only [gets_val] at hg1 hg2 hg3
  obtain ⟨M, hM⟩ : ∃ M, M = gets m kMan := ⟨_, rfl⟩
  obtain ⟨L, hL⟩ : ∃ L, L = gets m kLock := ⟨_, rfl⟩
  obtain ⟨T, hT⟩ : ∃ T, T = gets m kTree := ⟨_, rfl⟩
  obtain ⟨i1, hi1⟩ : ∃ i, i = (kget m (.string kMan)).isSome := ⟨_, rfl⟩
  obtain ⟨i2, hi2⟩ : ∃ i, i = (kget m (.string kLock)).isSome := ⟨_, rfl⟩
  obtain ⟨i3, hi3⟩ : ∃ i, i = (kget m (.string kTree)).isSome := ⟨_, rfl⟩
  rw [← hM, ← hi1] at hg1
  rw [← hL, ← hi2] at hg2
  rw [← hT, ← hi3] at hg3
  rw [← hT] at ht
  rw [← hM, ← hL, ← hT]
  have hck := fun w' (hf : FrA w w') cb => cKeys_none (cb := cb) (h.fra hf) hn
  have H := Lib.hid (And.intro hg1 (And.intro hg2 (And.intro hg3 (And.intro hck hk))))
  clear hg1 hg2 hg3 e1 e2 e3 hck hk h hM hL hT hi1 hi2 hi3
  go_enter Tryz.func13, Tryz.ntmps13
  go_wp2_with fail
  obtain ⟨W1, hW1⟩ : ∃ W1, w.alloc (.cells #[.string { data := #[] }, .string { data := #[] }, .slice none 0 0, .slice none 0 0] 38) = W1 := ⟨_, rfl⟩
  rw [hW1]
  have hf1 : FrA w W1 := by rw [← hW1]; exact (Fr.refl _ w).alloc _
  have q1 : W1.heap[w.heap.size]? = some (.cells #[.string { data := #[] }, .string { data := #[] }, .slice none 0 0, .slice none 0 0] 38 (0, 0)) := by rw [← hW1]; exact heap_alloc_new _ _
  have H1 := Lib.hid (And.intro hf1 q1)
  have hlt1 := lt_of_heap q1
  clear hW1 hf1 q1
  refine (H.out.1 W1 H1.out.1).mono ?_
  rintro e w2 ⟨rfl, rfl⟩
  go_wp2_with fail
  refine (H.out.2.1 W1 H1.out.1).mono ?_
  rintro e w2 ⟨rfl, rfl⟩
  go_wp2_with fail
  refine (H.out.2.2.1 W1 H1.out.1).mono ?_
  rintro e w2 ⟨rfl, rfl⟩
  go_wp2_with fail
  refine (cNew_any W1 _).mono ?_
  rintro e w2 ⟨rfl, rfl⟩
  go_wp2_with fail
  refine (H.out.2.2.2.1 _ (H1.out.1.alloc _) W1.heap.size (heap_alloc_new _ _) H.out.2.2.2.2).mono ?_
  rintro e w3 ⟨rfl, hf3⟩
  have H3 := Lib.hid (((Fr.refl _ W1).alloc (.cells #[.pointer (some ⟨S.st, 0, none⟩)] 120)).trans hf3)
  clear hf3
  go_wp2_with fail
  refine (sFiles_any w3 T ht).mono ?_
  rintro e w4 ⟨hf4, ao, cap, vs, rfl, hfs⟩
  obtain ⟨fl, hfl⟩ : ∃ fl, fl = filesF T := ⟨_, rfl⟩
  rw [← hfl] at hfs ⊢
  have q4 := hf4.keep _ _ (H3.out.keep _ _ H1.out.2 trivial) trivial
  have g0 : w4.cell? ⟨w.heap.size, 0, none⟩ = some (.string { data := #[] }) := cell_of_heap q4 0
  have g1 : w4.cell? ⟨w.heap.size, 1, none⟩ = some (.string { data := #[] }) := cell_of_heap q4 1
  have g2 : w4.cell? ⟨w.heap.size, 2, none⟩ = some (.slice none 0 0) := cell_of_heap q4 2
  have g3 : w4.cell? ⟨w.heap.size, 3, none⟩ = some (.slice none 0 0) := cell_of_heap q4 3
  have rf : ∀ o, w4.frozen? ⟨w.heap.size, o, none⟩ = false := free_of_heap q4
  have H4 := Lib.hid (And.intro hfl (And.intro hfs (And.intro q4 ((H1.out.1.trans H3.out).trans hf4))))
  clear hfl hfs q4 hf4
  go_wp2
  rw [← H4.out.1]
  obtain ⟨W, hW⟩ : ∃ W, W = (((w4.setCell ⟨w.heap.size, 0, none⟩ (.string (bs M))).setCell ⟨w.heap.size, 1, none⟩ (.string (bs L))).setCell ⟨w.heap.size, 2, none⟩ (.slice none 0 0)).setCell ⟨w.heap.size, 3, none⟩ (.slice ao fl.length cap) := ⟨_, rfl⟩
  rw [← hW]
  have hb : W.heap[w.heap.size]? = some (.cells #[.string (bs M), .string (bs L), .slice none 0 0, .slice ao fl.length cap] 38 (0, 0)) := by rw [hW]; exact heap_set (heap_set (heap_set (heap_set H4.out.2.2.1 0 _) 1 _) 2 _) 3 _
  have hno : ∀ (K : Nat → Obj → Prop) a o, w.heap[a]? = some o → a = w.heap.size → False := fun K a o ho e => absurd (lt_of_heap ho) (by omega)
  have hfW : FrA w W := by
    rw [hW]
    exact (((H4.out.2.2.2.setCell (fun o ho => absurd (lt_of_heap ho) (by simp only; omega)) _).setCell (fun o ho => absurd (lt_of_heap ho) (by simp only; omega)) _).setCell (fun o ho => absurd (lt_of_heap ho) (by simp only; omega)) _).setCell (fun o ho => absurd (lt_of_heap ho) (by simp only; omega)) _
  have hf4W : Fr (fun k _ => k ≠ w.heap.size) w4 W := by
    rw [hW]
    exact ((((Fr.refl _ w4).setCell (fun _ _ h => h rfl) _).setCell (fun _ _ h => h rfl) _).setCell (fun _ _ h => h rfl) _).setCell (fun _ _ h => h rfl) _
  have hsW : StaAt W (stv M L (.slice none 0 0) (.slice ao fl.length cap)) M L fl := by
    refine StaAt.fr (w := w4) ⟨ao, cap, vs, rfl, H4.out.2.1⟩ hf4W fun k c t f ht hc e => ?_
    subst e
    rw [H4.out.2.2.1] at hc
    cases hc
    rcases ht with ht | ht <;> exact absurd ht (by decide)
  have c0 : W.cell? ⟨w.heap.size, 0, none⟩ = some (.string (bs M)) := cell_of_heap hb 0
  have c1 : W.cell? ⟨w.heap.size, 1, none⟩ = some (.string (bs L)) := cell_of_heap hb 1
  have c2 : W.cell? ⟨w.heap.size, 2, none⟩ = some (.slice none 0 0) := cell_of_heap hb 2
  have c3 : W.cell? ⟨w.heap.size, 3, none⟩ = some (.slice ao fl.length cap) := cell_of_heap hb 3
  refine bodyPost_ret (v := stv M L (.slice none 0 0) (.slice ao fl.length cap)) ?hres rfl ⟨_, rfl, hsW, hfW⟩
  clear hsW hfW hf4W hb hW g0 g1 g2 g3 rf
  unfold stv
  simp [results, Tryz.f13, go_sem, c0, c1, c2, c3]

end
end Go.Proofs.YtbhjdddiihfafaaGreatDoor
