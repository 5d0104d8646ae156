/- Package state: Held of two closed states; what it reads, at texts that are no manifest, no lockfile. -/
import Derived.Test.YtbhjdddiihfafaaGreatDoorJLoad
import Derived.Test.YtbhjdddiihfafaaGreatDoorJStrs
import Derived.Test.YtbhjdddiihfafaaGreatDoorJTry
set_option linter.unusedVariables false
set_option linter.unusedSimpArgs false
namespace Go.Proofs.YtbhjdddiihfafaaGreatDoor
open Go.RowKit Go.Maps

/-! ### manifest.Parse("m") -/
theorem Lines_m (w : World) : Calls Tryz.prog 98 #[.string ⟨#[109]⟩] w fun e w' => e = .returned (.slice (some ⟨w.heap.size, 0, none⟩) 1 1) ∧ w' = w.alloc (.cells #[.string ⟨#[109]⟩] 9) := by
  have h := Split1_any ⟨#[109]⟩ 10 w (by decide)
  have e1 : splitc 10 (ByteArray.mk #[109]).data.toList = [[109]] := by rfl
  rw [e1] at h
  have H := Lib.hid h
  clear h e1
  go_enter Tryz.func98, Tryz.ntmps98
  go_wp2_with fail
  refine H.out.mono ?_
  rintro e w' ⟨rfl, rfl⟩
  simp only [List.length_cons, List.length_nil, List.map_cons, List.map_nil, bs]
  go_wp2
  go_ret
  exact ⟨rfl, rfl⟩

theorem Silent_m (w : World) : Calls Tryz.prog 99 #[.string ⟨#[109]⟩] w fun e w' => e = .returned (.bool false) ∧ w = w' := by
  go_enter Tryz.func99, Tryz.ntmps99
  go_wp2
  go_ret
  exact ⟨rfl, rfl⟩

set_option maxHeartbeats 400000 in
set_option maxRecDepth 100000 in
theorem line_m (w : World) (mb : Nat) (c : Array Value) (hc : w.heap[mb]? = some (.cells c 104 (0, 0))) (h0 : ∃ x, c[0]? = some x) :
    Calls Tryz.prog 100 #[.pointer (some ⟨mb, 0, none⟩), .int .i64 0, .string ⟨#[109]⟩] w fun e w' => e = .returned (.bool false) ∧ Fr (fun k _ => k ≠ mb) w w' := by
  obtain ⟨x, hx⟩ := h0
  have c0 : w.cell? ⟨mb, 0, none⟩ = some x := by rw [cell_of_heap hc]; exact hx
  have f0 := free_of_heap hc 0
  have hcp := CutPrefix_any ⟨#[109]⟩ ⟨#[110, 97, 109, 101, 32]⟩ w
  have e1 : Lib.trimPrefix (ByteArray.mk #[109]).data.toList (ByteArray.mk #[110, 97, 109, 101, 32]).data.toList = [109] := by rfl
  have e2 : Lib.hasPrefix (ByteArray.mk #[109]).data.toList (ByteArray.mk #[110, 97, 109, 101, 32]).data.toList = false := by rfl
  rw [e1, e2] at hcp
  have H := Lib.hid hcp
  clear hcp e1 e2 hc hx
  go_enter Tryz.func100, Tryz.ntmps100
  go_wp2_with fail
  refine H.out.mono ?_
  rintro e w1 ⟨rfl, rfl⟩
  simp only [bs]
  go_wp2
  go_ret
  exact ⟨rfl, (Fr.refl _ w).setCell (fun _ _ h => h rfl) _⟩

def noMan : Value := .agg #[.string ⟨#[]⟩, .int .i64 0, .int .i64 0, .int .i64 0, .slice none 0 0, .slice none 0 0]

set_option maxHeartbeats 1000000 in
set_option maxRecDepth 100000 in
theorem Parse_m (w : World) : Calls Tryz.prog 44 #[.string ⟨#[109]⟩] w fun e w' => e = .returned (.tuple #[noMan, .int .i64 1, .int .i64 62]) ∧ FrA w w' := by
  go_enter Tryz.func44, Tryz.ntmps44
  go_wp2_with fail
  refine (Lines_m _).mono ?_
  rintro e w1 ⟨rfl, rfl⟩
  go_wp2_with fail
  obtain ⟨W, hW⟩ : ∃ W, W = ((w.alloc (.cells #[.string { data := #[] }, .int .i64 0, .int .i64 0, .int .i64 0, .slice none 0 0, .slice none 0 0] 104)).alloc (.cells #[.string { data := #[] }, .int .i64 0, .int .i64 0, .int .i64 0, .slice none 0 0, .slice none 0 0] 104)).alloc (.cells #[.string ⟨#[109]⟩] 9) := ⟨_, rfl⟩
  rw [← hW]
  have q0 : W.heap[w.heap.size]? = some (.cells #[.string { data := #[] }, .int .i64 0, .int .i64 0, .int .i64 0, .slice none 0 0, .slice none 0 0] 104 (0, 0)) := by
    rw [hW]; exact heap_alloc_keep (heap_alloc_keep (heap_alloc_new _ _) _) _
  have q1 : W.heap[w.heap.size + 1]? = some (.cells #[.string { data := #[] }, .int .i64 0, .int .i64 0, .int .i64 0, .slice none 0 0, .slice none 0 0] 104 (0, 0)) := by
    rw [hW]
    have := heap_alloc_new (w.alloc (.cells #[.string { data := #[] }, .int .i64 0, .int .i64 0, .int .i64 0, .slice none 0 0, .slice none 0 0] 104)) (.cells #[.string { data := #[] }, .int .i64 0, .int .i64 0, .int .i64 0, .slice none 0 0, .slice none 0 0] 104)
    rw [World.size_alloc] at this
    exact heap_alloc_keep this _
  have q2 : W.heap[w.heap.size + 1 + 1]? = some (.cells #[.string ⟨#[109]⟩] 9 (0, 0)) := by
    rw [hW]
    have := heap_alloc_new ((w.alloc (.cells #[.string { data := #[] }, .int .i64 0, .int .i64 0, .int .i64 0, .slice none 0 0, .slice none 0 0] 104)).alloc (.cells #[.string { data := #[] }, .int .i64 0, .int .i64 0, .int .i64 0, .slice none 0 0, .slice none 0 0] 104)) (.cells #[.string ⟨#[109]⟩] 9)
    rw [World.size_alloc, World.size_alloc] at this
    exact this
  have hfW : FrA w W := by rw [hW]; exact (((Fr.refl _ w).alloc _).alloc _).alloc _
  have s0 : W.cell? ⟨w.heap.size + 1 + 1, 0, none⟩ = some (.string ⟨#[109]⟩) := cell_of_heap q2 0
  have H := Lib.hid (And.intro q0 (And.intro q1 hfW))
  clear hW q0 q1 q2 hfW
  go_loopw [6, 16] (fun n i wr => n = .int .i64 0 ∧ i = .int .i64 0 ∧ wr = W) (fun _ _ _ => 0)
  case atStart => exact ⟨rfl, rfl, rfl⟩
  case round =>
    obtain ⟨rfl, rfl, rfl⟩ := hrel
    go_wp2_with fail
    refine (Silent_m _).mono ?_
    rintro e w1 ⟨rfl, rfl⟩
    go_wp2_with fail
    refine (line_m _ _ _ H.out.2.1 ⟨_, rfl⟩).mono ?_
    rintro e w1 ⟨rfl, hf1⟩
    have q3 := hf1.keep _ _ H.out.1 (by omega)
    have g0 : w1.cell? ⟨w.heap.size, 0, none⟩ = some (.string { data := #[] }) := cell_of_heap q3 0
    have g1 : w1.cell? ⟨w.heap.size, 1, none⟩ = some (.int .i64 0) := cell_of_heap q3 1
    have g2 : w1.cell? ⟨w.heap.size, 2, none⟩ = some (.int .i64 0) := cell_of_heap q3 2
    have g3 : w1.cell? ⟨w.heap.size, 3, none⟩ = some (.int .i64 0) := cell_of_heap q3 3
    have g4 : w1.cell? ⟨w.heap.size, 4, none⟩ = some (.slice none 0 0) := cell_of_heap q3 4
    have g5 : w1.cell? ⟨w.heap.size, 5, none⟩ = some (.slice none 0 0) := cell_of_heap q3 5
    have rf : ∀ o, w1.frozen? ⟨w.heap.size, o, none⟩ = false := free_of_heap q3
    have H1 := Lib.hid (And.intro hf1 q3)
    clear hf1 q3
    go_wp2
    obtain ⟨V, hV⟩ : ∃ V, V = (((((w1.setCell ⟨w.heap.size, 0, none⟩ (.string { data := #[] })).setCell ⟨w.heap.size, 1, none⟩ (.int .i64 0)).setCell ⟨w.heap.size, 2, none⟩ (.int .i64 0)).setCell ⟨w.heap.size, 3, none⟩ (.int .i64 0)).setCell ⟨w.heap.size, 4, none⟩ (.slice none 0 0)).setCell ⟨w.heap.size, 5, none⟩ (.slice none 0 0) := ⟨_, rfl⟩
    rw [← hV]
    have hb : V.heap[w.heap.size]? = some (.cells #[.string { data := #[] }, .int .i64 0, .int .i64 0, .int .i64 0, .slice none 0 0, .slice none 0 0] 104 (0, 0)) := by
      rw [hV]; exact heap_set (heap_set (heap_set (heap_set (heap_set (heap_set H1.out.2 0 _) 1 _) 2 _) 3 _) 4 _) 5 _
    have hf2 : Fr (fun k _ => k ≠ w.heap.size) w1 V := by
      rw [hV]
      exact ((((((Fr.refl _ w1).setCell (fun _ _ h => h rfl) _).setCell (fun _ _ h => h rfl) _).setCell (fun _ _ h => h rfl) _).setCell (fun _ _ h => h rfl) _).setCell (fun _ _ h => h rfl) _).setCell (fun _ _ h => h rfl) _
    have hfV : FrA w V := fra_k (fra_k H.out.2.2 H1.out.1 fun k o hk => by omega) hf2 fun k o hk => by omega
    clear g0 g1 g2 g3 g4 g5 rf s0 hV hf2
    have c0 : V.cell? ⟨w.heap.size, 0, none⟩ = some (.string { data := #[] }) := cell_of_heap hb 0
    have c1 : V.cell? ⟨w.heap.size, 1, none⟩ = some (.int .i64 0) := cell_of_heap hb 1
    have c2 : V.cell? ⟨w.heap.size, 2, none⟩ = some (.int .i64 0) := cell_of_heap hb 2
    have c3 : V.cell? ⟨w.heap.size, 3, none⟩ = some (.int .i64 0) := cell_of_heap hb 3
    have c4 : V.cell? ⟨w.heap.size, 4, none⟩ = some (.slice none 0 0) := cell_of_heap hb 4
    have c5 : V.cell? ⟨w.heap.size, 5, none⟩ = some (.slice none 0 0) := cell_of_heap hb 5
    refine bodyPost_ret (v := .tuple #[noMan, .int .i64 1, .int .i64 62]) ?hres rfl ⟨rfl, hfV⟩
    clear hfV hb
    unfold noMan
    simp [results, Tryz.f44, go_sem, c0, c1, c2, c3, c4, c5]

/-! ### lockfile.Parse("l") -/
def lstop : List PanicEntry := [{ v := .iface 189 (.agg #[.int .i64 0]), recovered := false }]

theorem lmust_no (w : World) : Calls Tryz.prog 104 #[.bool false, .int .i64 0] w fun e w' => e = .panicked lstop ∧ w = w' := by
  go_enter Tryz.func104, Tryz.ntmps104
  go_wp2
  exact ⟨rfl, rfl, rfl⟩

set_option maxHeartbeats 1000000 in
set_option maxRecDepth 100000 in
/-- Where reading the lockfile panicked in line n. -/
theorem lcatch (w : World) (b0 b1 b2 : Nat) (x0 x1 x2 : Value) (n : Int) (h0 : w.heap[b0]? = some (.cells #[x0] 42 (0, 0)))
    (h1 : w.heap[b1]? = some (.cells #[x1] 3 (0, 0))) (h2 : w.heap[b2]? = some (.cells #[x2] 26 (0, 0))) :
    CallsD Tryz.prog 103 #[.pointer (some ⟨b0, 0, none⟩), .pointer (some ⟨b1, 0, none⟩), .pointer (some ⟨b2, 0, none⟩)] (.panicking [{ v := .iface 189 (.agg #[.int .i64 n]), recovered := false }]) w fun e u' w' =>
      e = .returned (.tuple #[]) ∧ u' = .panicking [{ v := .iface 189 (.agg #[.int .i64 n]), recovered := true }] ∧
      w'.heap[b0]? = some (.cells #[.slice none 0 0] 42 (0, 0)) ∧ w'.heap[b1]? = some (.cells #[.int .i64 n] 3 (0, 0)) ∧ w'.heap[b2]? = some (.cells #[.int .i64 63] 26 (0, 0)) ∧ Fr (fun k _ => k ≠ b0 ∧ k ≠ b1 ∧ k ≠ b2) w w' := by
  have c0 : w.cell? ⟨b0, 0, none⟩ = some x0 := cell_of_heap h0 0
  have c1 : w.cell? ⟨b1, 0, none⟩ = some x1 := cell_of_heap h1 0
  have c2 : w.cell? ⟨b2, 0, none⟩ = some x2 := cell_of_heap h2 0
  have l0 := lt_of_heap h0
  have l1 := lt_of_heap h1
  have l2 := lt_of_heap h2
  have f0 := free_of_heap h0 0
  have f1 := free_of_heap h1 0
  have f2 := free_of_heap h2 0
  have n01 := ne_of_types h0 h1 (by decide)
  have n02 := ne_of_types h0 h2 (by decide)
  have n12 := ne_of_types h1 h2 (by decide)
  have hta : ∀ w, (Instr.typeAssert (.iface 189 (.agg #[.int .i64 n])) 20 189 true).run Tryz.prog w = .ok (.tuple #[.agg #[.int .i64 n], .bool true]) w := fun w => by kernel_rfl
  refine callsD_of_wpS Tryz.func103 rfl fun c₀ cs hu => ?_
  apply wpS_seq
  refine recover_some (v := .iface 189 (.agg #[.int .i64 n])) (cs' := { c₀ with mode := .panicking ({ v := .iface 189 (.agg #[.int .i64 n]), recovered := true } :: []) } :: cs) rfl rfl rfl rfl rfl rfl (by rw [Tryz.ntmps103]; simp) (by simp [recoverD, hu]) ?_
  simp only [Tryz.ntmps103, List.size_toArray, List.length_cons, List.length_nil, Nat.reduceAdd, Nat.reduceSub, Array.replicate_succ, Array.replicate_zero, List.push_toArray, List.append_toArray, List.nil_append, List.cons_append, Act.put]
  refine wpS_of_wp ?_
  go_wp2
  obtain ⟨W, hW⟩ : ∃ W, W = w.alloc (.cells #[.int .i64 n] 189) := ⟨_, rfl⟩
  rw [← hW]
  have q0 : W.heap[b0]? = some (.cells #[x0] 42 (0, 0)) := by rw [hW]; exact heap_alloc_keep h0 _
  have q1 : W.heap[b1]? = some (.cells #[x1] 3 (0, 0)) := by rw [hW]; exact heap_alloc_keep h1 _
  have q2 : W.heap[b2]? = some (.cells #[x2] 26 (0, 0)) := by rw [hW]; exact heap_alloc_keep h2 _
  have q3 : W.heap[w.heap.size]? = some (.cells #[.int .i64 n] 189 (0, 0)) := by rw [hW]; exact heap_alloc_new _ _
  have hfW : FrA w W := by rw [hW]; exact (Fr.refl _ w).alloc _
  have m0 : W.cell? ⟨b0, 0, none⟩ = some x0 := cell_of_heap q0 0
  have m1 : W.cell? ⟨b1, 0, none⟩ = some x1 := cell_of_heap q1 0
  have m2 : W.cell? ⟨b2, 0, none⟩ = some x2 := cell_of_heap q2 0
  have m3 : W.cell? ⟨w.heap.size, 0, none⟩ = some (.int .i64 n) := cell_of_heap q3 0
  have g0 := free_of_heap q0 0
  have g1 := free_of_heap q1 0
  have g2 := free_of_heap q2 0
  have n03 : b0 ≠ w.heap.size := by omega
  have n13 : b1 ≠ w.heap.size := by omega
  have n23 : b2 ≠ w.heap.size := by omega
  have HQ := Lib.hid (And.intro q0 (And.intro q1 (And.intro q2 hfW)))
  clear h0 h1 h2 c0 c1 c2 f0 f1 f2 q0 q1 q2 q3 hfW hW l0 l1 l2
  go_region
  go_wp2
  obtain ⟨V, hV⟩ : ∃ V, V = (((W.setCell ⟨b0, 0, none⟩ (.slice none 0 0)).setCell ⟨b1, 0, none⟩ (.int .i64 n)).setCell ⟨b2, 0, none⟩ (.int .i64 63)).drew := ⟨_, rfl⟩
  rw [← hV]
  have r0 : V.heap[b0]? = some (.cells #[.slice none 0 0] 42 (0, 0)) := by rw [hV]; exact heap_set_ne (heap_set_ne (heap_set HQ.out.1 0 _) n01 _) n02 _
  have r1 : V.heap[b1]? = some (.cells #[.int .i64 n] 3 (0, 0)) := by rw [hV]; exact heap_set_ne (heap_set (heap_set_ne HQ.out.2.1 (Ne.symm n01) _) 0 _) n12 _
  have r2 : V.heap[b2]? = some (.cells #[.int .i64 63] 26 (0, 0)) := by rw [hV]; exact heap_set (heap_set_ne (heap_set_ne HQ.out.2.2.1 (Ne.symm n02) _) (Ne.symm n12) _) 0 _
  have rf : Fr (fun k _ => k ≠ b0 ∧ k ≠ b1 ∧ k ≠ b2) w V := by
    rw [hV]
    exact ((((HQ.out.2.2.2.mono fun _ _ _ => trivial).setCell (fun _ _ h => h.1 rfl) _).setCell (fun _ _ h => h.2.1 rfl) _).setCell (fun _ _ h => h.2.2 rfl) _).drew
  clear hV m0 m1 m2 m3 g0 g1 g2 hta
  exact ⟨rfl, _, rfl, .tuple #[], by simp [results, Tryz.results103], rfl, rfl, r0, r1, r2, rf⟩

set_option maxHeartbeats 1000000 in
set_option maxRecDepth 100000 in
theorem LParse_l (w : World) : Calls Tryz.prog 45 #[.string ⟨#[108]⟩] w fun e w' => e = .returned (.tuple #[.slice none 0 0, .int .i64 0, .int .i64 63]) ∧ FrA w w' := by
  have hmf : ∀ (fn : Fn) (first cap : Array Value) (w : World), (Instr.makeFunc fn first cap).run Tryz.prog w = .ok (.func fn first cap) w := fun _ _ _ _ => rfl
  have hs := fun w => HasSuffix_any ⟨#[108]⟩ ⟨#[10]⟩ w (by decide)
  have e1 : Lib.hasSuffix (ByteArray.mk #[108]).data.toList (ByteArray.mk #[10]).data.toList = false := by rfl
  simp only [e1] at hs
  have H := Lib.hid hs
  clear hs e1
  go_enter_defers Tryz.func45, Tryz.ntmps45
  go_wp2_with fail
  refine (H.out _).mono ?_
  rintro e w1 ⟨rfl, rfl⟩
  go_wp2_with fail
  refine (lmust_no _).mono ?_
  rintro e w1 ⟨rfl, rfl⟩
  obtain ⟨W, hW⟩ : ∃ W, W = ((w.alloc (.cells #[.slice none 0 0] 42)).alloc (.cells #[.int .i64 0] 3)).alloc (.cells #[.int .i64 0] 26) := ⟨_, rfl⟩
  have q0 : W.heap[w.heap.size]? = some (.cells #[.slice none 0 0] 42 (0, 0)) := by
    rw [hW]; exact heap_alloc_keep (heap_alloc_keep (heap_alloc_new _ _) _) _
  have q1 : W.heap[w.heap.size + 1]? = some (.cells #[.int .i64 0] 3 (0, 0)) := by
    rw [hW]
    have := heap_alloc_new (w.alloc (.cells #[.slice none 0 0] 42)) (.cells #[.int .i64 0] 3)
    rw [World.size_alloc] at this
    exact heap_alloc_keep this _
  have q2 : W.heap[w.heap.size + 1 + 1]? = some (.cells #[.int .i64 0] 26 (0, 0)) := by
    rw [hW]
    have := heap_alloc_new ((w.alloc (.cells #[.slice none 0 0] 42)).alloc (.cells #[.int .i64 0] 3)) (.cells #[.int .i64 0] 26)
    rw [World.size_alloc, World.size_alloc] at this
    exact this
  have hfW : FrA w W := by rw [hW]; exact (((Fr.refl _ w).alloc _).alloc _).alloc _
  have HW := Lib.hid (And.intro q0 (And.intro q1 (And.intro q2 hfW)))
  clear q0 q1 q2 hfW
  go_wp2
  rw [← hW]
  clear hW
  refine leaves_cons (f := 103) (args := #[.pointer (some ⟨w.heap.size, 0, none⟩), .pointer (some ⟨w.heap.size + 1, 0, none⟩), .pointer (some ⟨w.heap.size + 1 + 1, 0, none⟩)]) (by simp) (by simp [go_sem]) ?_
  refine (lcatch W _ _ _ _ _ _ 0 HW.out.1 HW.out.2.1 HW.out.2.2.1).mono ?_
  rintro e u' w2 ⟨rfl, rfl, r0, r1, r2, r3⟩
  have d0 : w2.cell? ⟨w.heap.size, 0, none⟩ = some (.slice none 0 0) := cell_of_heap r0 0
  have d1 : w2.cell? ⟨w.heap.size + 1, 0, none⟩ = some (.int .i64 0) := cell_of_heap r1 0
  have d2 : w2.cell? ⟨w.heap.size + 1 + 1, 0, none⟩ = some (.int .i64 63) := cell_of_heap r2 0
  have hf := fra_k HW.out.2.2.2 r3 fun k o hk => ⟨by omega, by omega, by omega⟩
  have HF := Lib.hid hf
  clear hf r0 r1 r2 r3
  simp [Leaves, settle, results, Tryz.results45, go_sem, d0, d1, d2]
  exact HF.out

/-! ### Held -/
set_option maxHeartbeats 1000000 in
set_option maxRecDepth 100000 in
theorem Held_ml (w : World) (kv tv : Value) (h1 : kv.oneCell' = true) (h2 : tv.oneCell' = true) : Calls Tryz.prog 16 #[.agg #[.string ⟨#[109]⟩, .string ⟨#[108]⟩, kv, tv]] w fun e w' => e = .returned (.bool false) ∧ FrA w w' := by
  go_enter Tryz.func16, Tryz.ntmps16
  go_wp2_with fail
  obtain ⟨W, hW⟩ : ∃ W, W = w.alloc (.cells #[.string ⟨#[109]⟩, .string ⟨#[108]⟩, kv, tv] 38) := ⟨_, rfl⟩
  have q0 : W.heap[w.heap.size]? = some (.cells #[.string ⟨#[109]⟩, .string ⟨#[108]⟩, kv, tv] 38 (0, 0)) := by rw [hW]; exact heap_alloc_new _ _
  have hfW : FrA w W := by rw [hW]; exact (Fr.refl _ w).alloc _
  rw [← hW]
  clear hW
  have HW := Lib.hid (And.intro q0 hfW)
  clear q0 hfW
  refine (Parse_m W).mono ?_
  rintro e w1 ⟨rfl, hf1⟩
  have q1 := hf1.keep _ _ HW.out.1 trivial
  have H1 := Lib.hid (And.intro q1 (HW.out.2.trans hf1))
  have q2 := heap_alloc_keep q1 (.cells #[.string ⟨#[]⟩, .int .i64 0, .int .i64 0, .int .i64 0, .slice none 0 0, .slice none 0 0] 104)
  have c1 : (w1.alloc (.cells #[.string ⟨#[]⟩, .int .i64 0, .int .i64 0, .int .i64 0, .slice none 0 0, .slice none 0 0] 104)).cell? ⟨w.heap.size, 1, none⟩ = some (.string ⟨#[108]⟩) := cell_of_heap q2 1
  have l1 := lt_of_heap q1
  clear q1 q2 hf1
  unfold noMan
  go_wp2_with fail
  refine (LParse_l _).mono ?_
  rintro e w2 ⟨rfl, hf2⟩
  have H2 := Lib.hid hf2
  clear hf2
  go_wp2
  go_ret
  exact ⟨rfl, ((H1.out.2.alloc _).trans H2.out).alloc _⟩

theorem Held_none (w : World) : Calls Tryz.prog 16 #[.agg #[.string ⟨#[]⟩, .string ⟨#[]⟩, .slice none 0 0, .slice none 0 0]] w fun e w' => e = .returned (.bool true) ∧ FrA w w' := by
  go_enter Tryz.func16, Tryz.ntmps16
  go_wp2
  go_ret
  exact ⟨rfl, (Fr.refl _ w).alloc _⟩

end Go.Proofs.YtbhjdddiihfafaaGreatDoor
