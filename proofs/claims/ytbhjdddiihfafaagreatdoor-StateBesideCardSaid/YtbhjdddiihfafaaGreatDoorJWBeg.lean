/- Package wal: 'try': what reads a frame, with its panics met. -/
import Derived.Test.YtbhjdddiihfafaaGreatDoorJWal4
set_option linter.unusedVariables false
set_option linter.unusedSimpArgs false
namespace Go.Proofs.YtbhjdddiihfafaaGreatDoor
open Go.RowKit Go.Maps

set_option maxRecDepth 100000 in
theorem wcatch_panic (w : World) (b0 b1 : Nat) (ok : Bool) (e0 n : Int) (older : List PanicEntry) (h0 : w.heap[b0]? = some (.cells #[.bool ok] 4 (0, 0))) (h1 : w.heap[b1]? = some (.cells #[.int .i64 e0] 26 (0, 0))) :
    CallsD Tryz.prog 123 #[.pointer (some ⟨b0, 0, none⟩), .pointer (some ⟨b1, 0, none⟩)] (.panicking ({ v := .iface 215 (.agg #[.int .i64 n]), recovered := false } :: older)) w fun e u' w' =>
      e = .returned (.tuple #[]) ∧ u' = .panicking ({ v := .iface 215 (.agg #[.int .i64 n]), recovered := true } :: older) ∧
      w'.heap[b0]? = some (.cells #[.bool false] 4 (0, 0)) ∧ w'.heap[b1]? = some (.cells #[.int .i64 n] 26 (0, 0)) ∧ Fr (fun k _ => k ≠ b0 ∧ k ≠ b1) w w' := by
  have c0 : w.cell? ⟨b0, 0, none⟩ = some (.bool ok) := cell_of_heap h0 0
  have c1 : w.cell? ⟨b1, 0, none⟩ = some (.int .i64 e0) := cell_of_heap h1 0
  have l0 := lt_of_heap h0
  have l1 := lt_of_heap h1
  have f0 := free_of_heap h0 0
  have f1 := free_of_heap h1 0
  have hta : ∀ w, (Instr.typeAssert (.iface 215 (.agg #[.int .i64 n])) 20 215 true).run Tryz.prog w = .ok (.tuple #[.agg #[.int .i64 n], .bool true]) w := fun w => by kernel_rfl
  refine callsD_of_wpS Tryz.func123 rfl fun c₀ cs hu => ?_
  apply wpS_seq
  refine recover_some (v := .iface 215 (.agg #[.int .i64 n])) (cs' := { c₀ with mode := .panicking ({ v := .iface 215 (.agg #[.int .i64 n]), recovered := true } :: older) } :: cs) rfl rfl rfl rfl rfl rfl (by rw [Tryz.ntmps123]; simp) (by simp [recoverD, hu]) ?_
  simp only [Tryz.ntmps123, List.size_toArray, List.length_cons, List.length_nil, Nat.reduceAdd, Nat.reduceSub, Array.replicate_succ, Array.replicate_zero, List.push_toArray, List.append_toArray, List.nil_append, List.cons_append, Act.put]
  refine wpS_of_wp ?_
  go_wp2
  have hne : b0 ≠ b1 := ne_of_types h0 h1 (by decide)
  have hne1 : b0 ≠ w.heap.size := by omega
  have hne2 : b1 ≠ w.heap.size := by omega
  go_region
  go_wp2
  have n1 := hne
  have h3 := heap_set_ne h1 (p := ⟨b0, 0, none⟩) (Ne.symm n1) (.bool false)
  refine ⟨rfl, _, rfl, .tuple #[], by simp [results, Tryz.results123], rfl, rfl, heap_alloc_keep (heap_set_ne (heap_set h0 0 _) n1 _) _, heap_alloc_keep (heap_set h3 0 _) _, ?_⟩
  exact ((((Fr.refl _ w).setCell (fun _ _ h => h.1 rfl) _).setCell (fun _ _ h => h.2 rfl) _).alloc _).drew

set_option maxRecDepth 100000 in
theorem wcatch_idle (w : World) (b0 b1 : Nat) :
    CallsD Tryz.prog 123 #[.pointer (some ⟨b0, 0, none⟩), .pointer (some ⟨b1, 0, none⟩)] .returning w fun e u' w' =>
      e = .returned (.tuple #[]) ∧ u' = .returning ∧ w' = w := by
  refine callsD_of_wpS Tryz.func123 rfl fun c₀ cs hu => ?_
  apply wpS_seq
  refine recover_none rfl rfl rfl rfl rfl rfl (by rw [Tryz.ntmps123]; simp) (by simp [recoverD, hu]) ?_
  simp only [Tryz.ntmps123, List.size_toArray, List.length_cons, List.length_nil, Nat.reduceAdd, Nat.reduceSub, Array.replicate_succ, Array.replicate_zero, List.push_toArray, List.append_toArray, List.nil_append, List.cons_append, Act.put]
  refine wpS_of_wp ?_
  go_wp2
  refine ⟨rfl, _, ?_, .tuple #[], by simp [results, Tryz.results123], rfl, rfl, rfl⟩
  rw [← hu]

/-- What the function handed to 'try' comes to: A where it returns, B where it panics; in either case the two boxes stay. -/
def WTries (A : World → Prop) (B : Int → World → Prop) (b0 b1 : Nat) (e : Ending) (w' : World) : Prop :=
  w'.heap[b0]? = some (.cells #[.bool false] 4 (0, 0)) ∧ w'.heap[b1]? = some (.cells #[.int .i64 0] 26 (0, 0)) ∧
  ((e = .returned (.tuple #[]) ∧ A w') ∨ (∃ n, e = .panicked (wstop n) ∧ B n w'))

set_option maxHeartbeats 400000 in
set_option maxRecDepth 100000 in
theorem wtry_any (w : World) (k : Nat) (cap : Array Value) (A : World → Prop) (B : Int → World → Prop)
    (hk : ∀ (args : Array Value) (w : World), (callFunc k args).run Tryz.prog w = .ok (.enter k args) w)
    (hf : Calls Tryz.prog k cap ((w.alloc (.cells #[.bool false] 4)).alloc (.cells #[.int .i64 0] 26)) (WTries A B w.heap.size (w.heap.size + 1))) :
    Calls Tryz.prog 62 #[.func (.func k) #[] cap] w fun e w' =>
      (e = .returned (.tuple #[.bool true, .int .i64 0]) ∧ ∃ w1, A w1 ∧ Fr (fun k _ => k ≠ w.heap.size ∧ k ≠ w.heap.size + 1) w1 w') ∨
      (∃ n, e = .returned (.tuple #[.bool false, .int .i64 n]) ∧ ∃ w1, B n w1 ∧ Fr (fun k _ => k ≠ w.heap.size ∧ k ≠ w.heap.size + 1) w1 w') := by
  have hmf : ∀ (fn : Fn) (first cap : Array Value) (w : World), (Instr.makeFunc fn first cap).run Tryz.prog w = .ok (.func fn first cap) w := fun _ _ _ _ => rfl
  have HF := Lib.hid hf; clear hf
  go_enter_defers Tryz.func62, Tryz.ntmps62
  go_wp2_with fail
  refine HF.out.mono ?_
  rintro e w1 ⟨g0, g1, ⟨rfl, hA⟩ | ⟨n, rfl, hB⟩⟩
  · have d0 : w1.cell? ⟨w.heap.size, 0, none⟩ = some (.bool false) := cell_of_heap g0 0
    have d1 : w1.cell? ⟨w.heap.size + 1, 0, none⟩ = some (.int .i64 0) := cell_of_heap g1 0
    have e0 := free_of_heap g0 0
    have e1 := free_of_heap g1 0
    have HA := Lib.hid hA; clear hA
    go_wp2
    refine leaves_cons (f := 123) (args := #[.pointer (some ⟨w.heap.size, 0, none⟩), .pointer (some ⟨w.heap.size + 1, 0, none⟩)]) (by simp) (by simp [go_sem]) ?_
    refine (wcatch_idle _ _ _).mono ?_
    rintro e u' w2 ⟨rfl, rfl, rfl⟩
    have n1 := ne_of_types g0 g1 (by decide)
    have g2 := heap_set_ne (heap_set g0 0 (.bool true)) (p := ⟨w.heap.size + 1, 0, none⟩) n1 (.int .i64 0)
    have g3 := heap_set (heap_set_ne g1 (p := ⟨w.heap.size, 0, none⟩) (Ne.symm n1) (.bool true)) 0 (.int .i64 0)
    have d3 : ((w1.setCell ⟨w.heap.size, 0, none⟩ (.bool true)).setCell ⟨w.heap.size + 1, 0, none⟩ (.int .i64 0)).cell? ⟨w.heap.size, 0, none⟩ = some (.bool true) := cell_of_heap g2 0
    have d4 : ((w1.setCell ⟨w.heap.size, 0, none⟩ (.bool true)).setCell ⟨w.heap.size + 1, 0, none⟩ (.int .i64 0)).cell? ⟨w.heap.size + 1, 0, none⟩ = some (.int .i64 0) := cell_of_heap g3 0
    simp [Leaves, settle, results, Tryz.results62, go_sem, d3, d4]
    exact ⟨w1, HA.out, ((Fr.refl _ _).setCell (fun _ _ h => h.1 rfl) _).setCell (fun _ _ h => h.2 rfl) _⟩
  · have HB := Lib.hid hB; clear hB
    go_wp2
    refine leaves_cons (f := 123) (args := #[.pointer (some ⟨w.heap.size, 0, none⟩), .pointer (some ⟨w.heap.size + 1, 0, none⟩)]) (by simp) (by simp [go_sem]) ?_
    refine (wcatch_panic _ _ _ _ _ n [] g0 g1).mono ?_
    rintro e u' w2 ⟨rfl, rfl, r1, r2, r3⟩
    have d3 : w2.cell? ⟨w.heap.size, 0, none⟩ = some (.bool false) := cell_of_heap r1 0
    have d4 : w2.cell? ⟨w.heap.size + 1, 0, none⟩ = some (.int .i64 n) := cell_of_heap r2 0
    simp [Leaves, settle, results, Tryz.results62, go_sem, d3, d4]
    exact ⟨w1, HB.out, r3⟩

end Go.Proofs.YtbhjdddiihfafaaGreatDoor
/- Package wal: 'begin'. -/
namespace Go.Proofs.YtbhjdddiihfafaaGreatDoor
open Go.RowKit Go.Maps

theorem unbody_len : ∀ (n : Nat) (l : List UInt8) (rs : List (List UInt8)), l.length ≤ n → unbody l = some rs → rs.length * 4 ≤ l.length
  | n, l, rs, hn, h => by
    by_cases h0 : l = []
    · subst h0; rw [unbody, if_pos rfl] at h; cases h; simp
    · by_cases h4 : l.length < 4
      · rw [unbody_short h0 h4] at h; cases h
      · by_cases h1 : beN (l.take 4) ≤ l.length - 4
        · rw [unbody_yes h0 h4 h1] at h
          obtain ⟨r, hr, rfl⟩ := Option.map_eq_some_iff.1 h
          have hp : 0 < l.length := List.length_pos_iff.2 h0
          cases n with
          | zero => omega
          | succ n =>
            have := unbody_len n (l.drop (4 + beN (l.take 4))) r (by rw [List.length_drop]; omega) hr
            rw [List.length_drop] at this
            simp only [List.length_cons]; omega
        · rw [unbody_no h0 h4 h1] at h; cases h

theorem openF_count {C : List (List UInt8)} {sz half side a k t m : Nat} {rs : List (List UInt8)} (hsz : 128 ≤ sz) (hz2 : sz ≤ 4096) (h : openF C sz half side a k = some (t, rs, m)) : rs.length + 4096 * a ≤ 4096 * m := by
  unfold openF at h
  by_cases h1 : a < half
  · rw [if_neg (by omega)] at h
    simp only at h
    split at h
    · cases h
    · split at h
      · cases h
      · split at h
        · cases h
        · obtain ⟨n, hn⟩ : ∃ n, n = beN ((((C.getD (side * half + a) []).take (sz - 16)).take 32).drop 24) := ⟨_, rfl⟩
          rw [← hn] at h
          obtain ⟨rs', hrs, e⟩ := Option.map_eq_some_iff.1 h
          simp only [Prod.mk.injEq] at e
          obtain ⟨_, rfl, rfl⟩ := e
          have h2 := unbody_len _ _ _ (Nat.le_refl _) hrs
          have h3 : (List.take n (List.drop 32 (List.take (sz - 16) (C.getD (side * half + a) []) ++ List.flatMap (fun i => List.take (sz - 16) (C.getD (side * half + a + 1 + i) [])) (List.range (secsN sz (32 + n) - 1))))).length ≤ n := List.length_take_le _ _
          have h4 := secsN_ge sz (32 + n) (by omega)
          have h5 : secsN sz (32 + n) * (sz - 16) ≤ secsN sz (32 + n) * 4096 := Nat.mul_le_mul_left _ (by omega)
          omega
  · rw [if_pos h1] at h; cases h

theorem Chain.records {C : List (List UInt8)} {sz half side turn a k z : Nat} {fs : List (List (List UInt8))} (hsz : 128 ≤ sz) (hz2 : sz ≤ 4096) (h : Chain C sz half side turn a k fs z) : fs.flatten.length + 4096 * a ≤ 4096 * z := by
  induction fs generalizing a k with
  | nil => have : a = z := h; subst this; simp
  | cons rs fs ih =>
    obtain ⟨m, h1, h2, h3⟩ := h
    have := openF_count hsz hz2 h1
    have := ih h3
    simp only [List.flatten_cons, List.length_append]; omega

section
variable {w : World} {I : Ids} {L : Lg} {C : List (List UInt8)} {sz : Nat}

/-- What was stored is what was there. -/
theorem _root_.Go.Proofs.YtbhjdddiihfafaaGreatDoor.Fr.setSame {w' w1 : World} (hf : FrA w' w1) {b o : Nat} {c : Array Value} {t : TypeId} {f : Nat × Nat} {v : Value} (hc : w1.heap[b]? = some (.cells c t f)) (hv : c.setIfInBounds o v = c) : FrA w' (w1.setCell ⟨b, o, none⟩ v) := by
  refine ⟨hf.os, hf.tape, hf.output, by have := hf.size; simpa [World.setCell] using this, fun k x ho _ => ?_⟩
  have h9 := hf.keep k x ho trivial
  by_cases e : k = b
  · subst e
    rw [heap_set hc o, hv]
    rw [hc] at h9
    exact h9
  · exact heap_set_ne h9 e _

/-- What the first frame of a side says of turn 0. -/
def BegOk (C : List (List UInt8)) (sz half side : Nat) : Prop := openF C sz half side 0 0 = none ∨ (side = 0 ∧ ∃ rs m, openF C sz half side 0 0 = some (0, rs, m))

set_option maxHeartbeats 1000000 in
set_option maxRecDepth 100000 in
theorem begClo_any (h : LogAt w I L) (hok : L.Ok) (hw : L.D.Well C sz) (side b1 b4 b5 : Nat) (hs : side ≤ 1) (hb : BegOk C sz L.half side) (h1 : w.heap[b1]? = some (.cells #[.pointer (some ⟨I.bl, 0, none⟩)] 68 (0, 0)))
    (h4 : w.heap[b4]? = some (.cells #[.int .i64 side] 3 (0, 0))) (h5 : w.heap[b5]? = some (.cells #[.int .u64 0] 130 (0, 0))) :
    Calls Tryz.prog 122 #[.pointer (some ⟨b1, 0, none⟩), .pointer (some ⟨b4, 0, none⟩), .pointer (some ⟨b5, 0, none⟩)] w fun e w' =>
      FrA w w' ∧ ((e = .returned (.tuple #[]) ∧ side = 0) ∨ e = .panicked (wstop 0)) := by
  have c1 : w.cell? ⟨b1, 0, none⟩ = some (.pointer (some ⟨I.bl, 0, none⟩)) := cell_of_heap h1 0
  have c4 : w.cell? ⟨b4, 0, none⟩ = some (.int .i64 side) := cell_of_heap h4 0
  have HO := Lib.hid (open_any h hok hw side 0 0 hs (by omega) (by omega))
  clear hok hw
  rcases hb with hb | ⟨rfl, rs, m, hb⟩
  · rw [hb] at HO
    clear hb
    go_enter Tryz.func122, Tryz.ntmps122
    go_wp2_with fail
    refine HO.out.mono ?_
    rintro e w1 ⟨hf, rfl⟩
    go_wp2
    exact ⟨rfl, hf, .inr rfl⟩
  · rw [hb] at HO
    clear hb
    go_enter Tryz.func122, Tryz.ntmps122
    go_wp2_with fail
    refine HO.out.mono ?_
    rintro e w1 ⟨hf, v, vs, rfl, h6, h7⟩
    have k4 := hf.keep _ _ h4 trivial
    have k5 := hf.keep _ _ h5 trivial
    have d4 : w1.cell? ⟨b4, 0, none⟩ = some (.int .i64 ((0 : Nat) : Int)) := cell_of_heap k4 0
    have d5 : w1.cell? ⟨b5, 0, none⟩ = some (.int .u64 0) := cell_of_heap k5 0
    have f5 := free_of_heap k5 0
    obtain ⟨ao, cp, rfl⟩ := own_shape h6
    have H := Lib.hid (And.intro hf k5)
    have hne : b4 ≠ b5 := ne_of_types k4 k5 (by decide)
    have hne2 : b5 ≠ b4 := hne.symm
    clear h6 h7 hf
    go_wp2_with (go_at_call 65; (with_reducible refine (wmust_true _ _).mono ?_); rintro e w2 ⟨rfl, rfl⟩)
    go_end0
    refine ⟨?_, .inl ⟨rfl, trivial⟩⟩
    exact H.out.1.setSame H.out.2 rfl

set_option maxHeartbeats 1000000 in
set_option maxRecDepth 100000 in
theorem begin_any (h : LogAt w I L) (hok : L.Ok) (hw : L.D.Well C sz) (ht : L.turn = 0) (h0 : BegOk C sz L.half 0) (h1 : BegOk C sz L.half 1) :
    Calls Tryz.prog 61 #[.pointer (some ⟨I.bl, 0, none⟩)] w fun e w' => e = .returned (.int .i64 0) ∧ FrA w w' := by
  have HA := Lib.hid (And.intro h (And.intro hok (And.intro hw (And.intro ht (And.intro h0 h1)))))
  clear h hok hw ht h0 h1
  have hmf : ∀ (fn : Fn) (first cap : Array Value) (w : World), (Instr.makeFunc fn first cap).run Tryz.prog w = .ok (.func fn first cap) w := fun _ _ _ _ => rfl
  go_enter Tryz.func61, Tryz.ntmps61
  go_wp2_with fail
  obtain ⟨w0, hw0⟩ : ∃ w0, w.alloc (.cells #[.pointer (some ⟨I.bl, 0, none⟩)] 68) = w0 := ⟨_, rfl⟩
  rw [hw0]
  have hf0 : FrA w w0 := by rw [← hw0]; exact (Fr.refl _ w).alloc _
  have hb0 : w0.heap[w.heap.size]? = some (.cells #[.pointer (some ⟨I.bl, 0, none⟩)] 68 (0, 0)) := by rw [← hw0]; exact heap_alloc_new _ _
  clear hw0
  go_loopw [8, 3] (fun iv fv wr => ∃ (k : Nat) (f : Bool), k ≤ 2 ∧ iv = .int .i64 k ∧ fv = .bool f ∧ (k = 0 → f = false) ∧ FrA w0 wr) (fun iv _ _ => 2 - (intOf iv).toNat)
  case atStart => exact ⟨0, false, by omega, rfl, rfl, fun _ => rfl, Fr.refl _ _⟩
  case round =>
    obtain ⟨k, f, hk, rfl, rfl, hf, hfr⟩ := hrel
    by_cases hk2 : k < 2
    · have hbk : BegOk C sz L.half k := by
        rcases (show k = 0 ∨ k = 1 by omega) with rfl | rfl
        · exact HA.out.2.2.2.2.1
        · exact HA.out.2.2.2.2.2
      have hr1 := hfr.keep _ _ hb0 trivial
      have c1 : wr.cell? ⟨w.heap.size, 0, none⟩ = some (.pointer (some ⟨I.bl, 0, none⟩)) := cell_of_heap hr1 0
      have hlr := HA.out.1.fra (hf0.trans hfr)
      have hltk : (k : Int) < 2 := by omega
      have hTRY : Hid (Calls Tryz.prog 62 #[.func (.func 122) #[] #[.pointer (some ⟨w.heap.size, 0, none⟩), .pointer (some ⟨wr.heap.size, 0, none⟩), .pointer (some ⟨wr.heap.size + 1, 0, none⟩)]] ((wr.alloc (.cells #[.int .i64 k] 3)).alloc (.cells #[.int .u64 0] 130)) fun e w' =>
          FrA wr w' ∧ ((e = .returned (.tuple #[.bool true, .int .i64 0]) ∧ k = 0 ∧ w'.heap[wr.heap.size + 1]? = some (.cells #[.int .u64 0] 130 (0, 0))) ∨ e = .returned (.tuple #[.bool false, .int .i64 0]))) := by
        obtain ⟨W2, hW2⟩ : ∃ W2, (wr.alloc (.cells #[.int .i64 k] 3)).alloc (.cells #[.int .u64 0] 130) = W2 := ⟨_, rfl⟩
        have hf2 : FrA wr W2 := by rw [← hW2]; exact ((Fr.refl _ wr).alloc _).alloc _
        have hz2 : W2.heap.size = wr.heap.size + 2 := by rw [← hW2]; simp
        have q4 : W2.heap[wr.heap.size]? = some (.cells #[.int .i64 k] 3 (0, 0)) := by rw [← hW2]; exact heap_alloc_keep (heap_alloc_new _ _) _
        have q5 : W2.heap[wr.heap.size + 1]? = some (.cells #[.int .u64 0] 130 (0, 0)) := by rw [← hW2]; have := heap_alloc_new (wr.alloc (.cells #[.int .i64 k] 3)) (.cells #[.int .u64 0] 130); simpa using this
        rw [hW2]
        have hf3 : FrA W2 ((W2.alloc (.cells #[.bool false] 4)).alloc (.cells #[.int .i64 0] 26)) := ((Fr.refl _ W2).alloc _).alloc _
        refine Lib.hid ((wtry_any W2 122 _ (fun w' => FrA W2 w' ∧ k = 0) (fun n w' => FrA W2 w' ∧ n = 0) (fun args w => by kernel_rfl) ?_).mono ?_)
        · refine (begClo_any (hlr.fra (hf2.trans hf3)) HA.out.2.1 HA.out.2.2.1 k _ _ _ (by omega) hbk (hf3.keep _ _ (hf2.keep _ _ hr1 trivial) trivial) (hf3.keep _ _ q4 trivial) (hf3.keep _ _ q5 trivial)).mono ?_
          rintro e w' ⟨hfx, hx⟩
          refine ⟨hfx.keep _ _ (heap_alloc_keep (heap_alloc_new _ _) _) trivial, hfx.keep _ _ (by have := heap_alloc_new (W2.alloc (.cells #[.bool false] 4)) (.cells #[.int .i64 0] 26); simpa using this) trivial, ?_⟩
          rcases hx with ⟨rfl, hx⟩ | rfl
          · exact .inl ⟨rfl, hf3.trans hfx, hx⟩
          · exact .inr ⟨0, rfl, hf3.trans hfx, rfl⟩
        · rintro e w' (⟨rfl, w1, ⟨hfa, hk0⟩, hfb⟩ | ⟨n, rfl, w1, ⟨hfa, rfl⟩, hfb⟩)
          · have hfc : FrA W2 w' := ⟨hfb.os.trans hfa.os, hfb.tape.trans hfa.tape, hfb.output.trans hfa.output, Nat.le_trans hfa.size hfb.size, fun q o ho _ => hfb.keep _ _ (hfa.keep _ _ ho trivial) (by have := lt_of_heap ho; omega)⟩
            exact ⟨hf2.trans hfc, .inl ⟨rfl, hk0, hfc.keep _ _ q5 trivial⟩⟩
          · have hfc : FrA W2 w' := ⟨hfb.os.trans hfa.os, hfb.tape.trans hfa.tape, hfb.output.trans hfa.output, Nat.le_trans hfa.size hfb.size, fun q o ho _ => hfb.keep _ _ (hfa.keep _ _ ho trivial) (by have := lt_of_heap ho; omega)⟩
            exact ⟨hf2.trans hfc, .inr rfl⟩
      have HL := Lib.hid (And.intro hlr (And.intro hfr hbk))
      clear hlr hfr hbk
      go_wp2_with fail
      refine hTRY.out.mono ?_
      rintro e w5 ⟨hf5, ⟨rfl, hk0, hq5⟩ | rfl⟩
      · obtain rfl := hf hk0
        have hr5 := hf5.keep _ _ hr1 trivial
        have d1 : w5.cell? ⟨w.heap.size, 0, none⟩ = some (.pointer (some ⟨I.bl, 0, none⟩)) := cell_of_heap hr5 0
        have d5 : w5.cell? ⟨wr.heap.size + 1, 0, none⟩ = some (.int .u64 0) := cell_of_heap hq5 0
        have hl5 := HL.out.1.fra hf5
        have f5 := free_of_heap hl5.log 1
        have e5 : w5.cell? ⟨I.bl, 1, none⟩ = some (.int .u64 L.turn) := cell_of_heap hl5.log 1
        have H5 := Lib.hid (And.intro hl5 hf5)
        clear hl5 hf5 hf hk0
        go_wp2_with fail
        go_region
        go_wp2
        go_roundw
        case rel =>
          refine ⟨k + 1, true, by omega, by go_num, rfl, fun h => by omega, HL.out.2.1.trans ?_⟩
          exact Fr.setSame (H5.out.2.drew) H5.out.1.log (by simp [HA.out.2.2.2.1])
        case measure => simp [intOf]; omega
      · have H5 := Lib.hid hf5
        clear hf5
        go_wp2_with fail
        go_region
        go_wp2
        go_roundw
        case rel => exact ⟨k + 1, f, by omega, by go_num, rfl, fun h => by omega, HL.out.2.1.trans H5.out.drew⟩
        case measure => simp [intOf]; omega
    · have HR := Lib.hid (hf0.trans hfr)
      clear hfr
      go_wp2
      go_ret
      exact ⟨rfl, HR.out⟩

end
end Go.Proofs.YtbhjdddiihfafaaGreatDoor
