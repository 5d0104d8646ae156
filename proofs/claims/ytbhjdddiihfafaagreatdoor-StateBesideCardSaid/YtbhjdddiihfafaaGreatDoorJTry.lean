/- 'try' of package code's reader: a deferred function that recovers; the reader's calls over it. -/
import Derived.WalkLawsBesides
import Derived.Test.YtbhjdddiihfafaaGreatDoorJReader
set_option linter.unusedVariables false
set_option linter.unusedSimpArgs false
namespace Go.Proofs.YtbhjdddiihfafaaGreatDoor
open Go.RowKit

/-- 'x := recover()' of a deferred function, where there is a panic. -/
theorem recover_some {P : Program} {Q : Exit → Act → List Frame → World → Prop} {id d1 d2 : Nat} {o1 o2 : Oper} {a : Act} {cs cs' : List Frame} {w : World} {v : Value}
    (h1 : o1.op = .call { callee := .builtin .recover, args := #[], argTypes := #[] }) (g1 : o1.guard = none) (k1 : o1.dst = some d1)
    (h2 : o2.op = .assign (.tmp d1)) (g2 : o2.guard = none) (k2 : o2.dst = some d2) (hd : d1 < a.tmps.size) (hr : recoverD cs = some (v, cs'))
    (h : Q .normal ((a.put (some d1) v).put (some d2) v) cs' w) : (Code.region id #[o1, o2] false).wpS P Q a cs w := by
  apply wpS_region
  simp [wpOpsS, go_sem, Region.wanted, h1, h2, g1, g2, k1, k2, hr, execOp, hd, Act.put, Act.eval]
  simpa [Act.put] using h

theorem recover_none {P : Program} {Q : Exit → Act → List Frame → World → Prop} {id d1 d2 : Nat} {o1 o2 : Oper} {a : Act} {cs : List Frame} {w : World}
    (h1 : o1.op = .call { callee := .builtin .recover, args := #[], argTypes := #[] }) (g1 : o1.guard = none) (k1 : o1.dst = some d1)
    (h2 : o2.op = .assign (.tmp d1)) (g2 : o2.guard = none) (k2 : o2.dst = some d2) (hd : d1 < a.tmps.size) (hr : recoverD cs = none)
    (h : Q .normal ((a.put (some d1) .nilIface).put (some d2) .nilIface) cs w) : (Code.region id #[o1, o2] false).wpS P Q a cs w := by
  apply wpS_region
  simp [wpOpsS, go_sem, Region.wanted, h1, h2, g1, g2, k1, k2, hr, execOp, hd, Act.put, Act.eval]
  simpa [Act.put] using h

set_option maxRecDepth 100000 in
/-- The deferred function, where 'try' panicked. -/
theorem catch_panic (w : World) (b0 b1 br : Nat) (sl : Value) (f ok : Bool) (older : List PanicEntry) (h0 : w.heap[b0]? = some (.cells #[.pointer (some ⟨br, 0, none⟩)] 139 (0, 0)))
    (h1 : w.heap[b1]? = some (.cells #[.bool ok] 4 (0, 0))) (h2 : w.heap[br]? = some (.cells #[sl, .bool f] 221 (0, 0))) :
    CallsD Tryz.prog 180 #[.pointer (some ⟨b0, 0, none⟩), .pointer (some ⟨b1, 0, none⟩)] (.panicking ({ v := .iface 265 (.agg #[]), recovered := false } :: older)) w fun e u' w' =>
      e = .returned (.tuple #[]) ∧ u' = .panicking ({ v := .iface 265 (.agg #[]), recovered := true } :: older) ∧
      w'.heap[br]? = some (.cells #[sl, .bool true] 221 (0, 0)) ∧ w'.heap[b1]? = some (.cells #[.bool false] 4 (0, 0)) ∧ Fr (fun k _ => k ≠ br ∧ k ≠ b1) w w' := by
  have c0 : w.cell? ⟨b0, 0, none⟩ = some (.pointer (some ⟨br, 0, none⟩)) := cell_of_heap h0 0
  have c1 : w.cell? ⟨b1, 0, none⟩ = some (.bool ok) := cell_of_heap h1 0
  have c2 : w.cell? ⟨br, 1, none⟩ = some (.bool f) := cell_of_heap h2 1
  have l0 := lt_of_heap h0
  have l1 := lt_of_heap h1
  have l2 := lt_of_heap h2
  have f1 := free_of_heap h1 0
  have f2 := free_of_heap h2 1
  have hta : ∀ w, (Instr.typeAssert (.iface 265 (.agg #[])) 20 265 true).run Tryz.prog w = .ok (.tuple #[.agg #[], .bool true]) w := fun w => by kernel_rfl
  refine callsD_of_wpS Tryz.func180 rfl fun c₀ cs hu => ?_
  apply wpS_seq
  refine recover_some (v := .iface 265 (.agg #[])) (cs' := { c₀ with mode := .panicking ({ v := .iface 265 (.agg #[]), recovered := true } :: older) } :: cs) rfl rfl rfl rfl rfl rfl (by rw [Tryz.ntmps180]; simp) (by simp [recoverD, hu]) ?_
  simp only [Tryz.ntmps180, List.size_toArray, List.length_cons, List.length_nil, Nat.reduceAdd, Nat.reduceSub, Array.replicate_succ, Array.replicate_zero, List.push_toArray, List.append_toArray, List.nil_append, List.cons_append, Act.put]
  refine wpS_of_wp ?_
  go_wp2
  have n1 := ne_of_types h2 h1 (by decide)
  have h3 := heap_set_ne h1 (p := ⟨br, 1, none⟩) (Ne.symm n1) (.bool true)
  refine ⟨rfl, _, rfl, .tuple #[], by simp [results, Tryz.results180], rfl, rfl, heap_alloc_keep (heap_set_ne (heap_set h2 1 _) n1 _) _, heap_alloc_keep (heap_set h3 0 _) _, ?_⟩
  exact (((Fr.refl _ w).setCell (fun _ _ h => h.1 rfl) _).setCell (fun _ _ h => h.2 rfl) _).alloc _

set_option maxRecDepth 100000 in
/-- .. and where it returned. -/
theorem catch_idle (w : World) (b0 b1 : Nat) :
    CallsD Tryz.prog 180 #[.pointer (some ⟨b0, 0, none⟩), .pointer (some ⟨b1, 0, none⟩)] .returning w fun e u' w' =>
      e = .returned (.tuple #[]) ∧ u' = .returning ∧ w' = w := by
  refine callsD_of_wpS Tryz.func180 rfl fun c₀ cs hu => ?_
  apply wpS_seq
  refine recover_none rfl rfl rfl rfl rfl rfl (by rw [Tryz.ntmps180]; simp) (by simp [recoverD, hu]) ?_
  simp only [Tryz.ntmps180, List.size_toArray, List.length_cons, List.length_nil, Nat.reduceAdd, Nat.reduceSub, Array.replicate_succ, Array.replicate_zero, List.push_toArray, List.append_toArray, List.nil_append, List.cons_append, Act.put]
  refine wpS_of_wp ?_
  go_wp2
  refine ⟨rfl, _, ?_, .tuple #[], by simp [results, Tryz.results180], rfl, rfl, rfl⟩
  rw [← hu]

/-- What the function handed to 'try' comes to: A where it returns, B where it panics; in either case the two boxes stay. -/
def Tries (A B : World → Prop) (b0 b1 br : Nat) (T : Nat) (e : Ending) (w' : World) : Prop :=
  w'.heap[b0]? = some (.cells #[.pointer (some ⟨br, 0, none⟩)] 139 (0, 0)) ∧ w'.heap[b1]? = some (.cells #[.bool false] 4 (0, 0)) ∧
  ((e = .returned (.tuple #[]) ∧ A w') ∨ (e = .panicked stop ∧ B w' ∧ ∃ l, RdAt w' T br l false))

set_option maxHeartbeats 400000 in
set_option maxRecDepth 100000 in
theorem try_any (w : World) (T br k : Nat) (cap : Array Value) (l : List UInt8) (A B : World → Prop) (hr : RdAt w T br l false)
    (hk : ∀ (args : Array Value) (w : World), (callFunc k args).run Tryz.prog w = .ok (.enter k args) w)
    (hf : Calls Tryz.prog k cap ((w.alloc (.cells #[.pointer (some ⟨br, 0, none⟩)] 139)).alloc (.cells #[.bool false] 4)) (Tries A B w.heap.size (w.heap.size + 1) br T)) :
    Calls Tryz.prog 129 #[.pointer (some ⟨br, 0, none⟩), .func (.func k) #[] cap] w fun e w' =>
      (e = .returned (.bool true) ∧ ∃ w1, A w1 ∧ Fr (fun k _ => k ≠ w.heap.size + 1) w1 w') ∨
      (e = .returned (.bool false) ∧ ∃ w1 l, B w1 ∧ RdAt w' T br l true ∧ Fr (fun k _ => k ≠ br ∧ k ≠ w.heap.size + 1) w1 w') := by
  obtain ⟨ao, cp, hb, hs⟩ := hr
  have c1 : w.cell? ⟨br, 1, none⟩ = some (.bool false) := cell_of_heap hb 1
  have l1 := lt_of_heap hb
  have hmf : ∀ (fn : Fn) (first cap : Array Value) (w : World), (Instr.makeFunc fn first cap).run Tryz.prog w = .ok (.func fn first cap) w := fun _ _ _ _ => rfl
  have HF := Lib.hid hf; clear hf
  go_enter_defers Tryz.func129, Tryz.ntmps129
  go_wp2_with fail
  refine HF.out.mono ?_
  rintro e w1 ⟨g0, g1, ⟨rfl, hA⟩ | ⟨rfl, hB, l', ao', cp', hb', hs'⟩⟩
  · have d1 : w1.cell? ⟨w.heap.size + 1, 0, none⟩ = some (.bool false) := cell_of_heap g1 0
    have d2 := free_of_heap g1 0
    have HA := Lib.hid hA; clear hA
    go_wp2
    refine leaves_cons (f := 180) (args := #[.pointer (some ⟨w.heap.size, 0, none⟩), .pointer (some ⟨w.heap.size + 1, 0, none⟩)]) (by simp) (by simp [go_sem]) ?_
    refine (catch_idle _ _ _).mono ?_
    rintro e u' w2 ⟨rfl, rfl, rfl⟩
    have g2 := heap_set g1 0 (.bool true)
    have d3 : (w1.setCell ⟨w.heap.size + 1, 0, none⟩ (.bool true)).cell? ⟨w.heap.size + 1, 0, none⟩ = some (.bool true) := cell_of_heap g2 0
    simp [Leaves, settle, results, Tryz.results129, go_sem, d3]
    exact ⟨w1, HA.out, (Fr.refl _ _).setCell (fun _ _ h => h rfl) _⟩
  · have HB := Lib.hid hB; clear hB
    have HR := Lib.hid hs'; clear hs'
    go_wp2
    refine leaves_cons (f := 180) (args := #[.pointer (some ⟨w.heap.size, 0, none⟩), .pointer (some ⟨w.heap.size + 1, 0, none⟩)]) (by simp) (by simp [go_sem]) ?_
    refine (catch_panic _ _ _ br _ _ _ [] g0 g1 hb').mono ?_
    rintro e u' w2 ⟨rfl, rfl, r1, r2, r3⟩
    have d3 : w2.cell? ⟨w.heap.size + 1, 0, none⟩ = some (.bool false) := cell_of_heap r2 0
    simp [Leaves, settle, results, Tryz.results129, go_sem, d3]
    refine ⟨w1, HB.out, ⟨l', ao', cp', r1, HR.out.keep fun b c f _ hc => r3.keep b _ hc ⟨?_, ?_⟩⟩, r3⟩
    · exact ne_of_types hc hb' (by decide)
    · exact ne_of_types hc g1 (by decide)

theorem try_failed (w : World) (T br : Nat) (fv : Value) (l : List UInt8) (hr : RdAt w T br l true) :
    Calls Tryz.prog 129 #[.pointer (some ⟨br, 0, none⟩), fv] w fun e w' => e = .returned (.bool false) ∧ FrA w w' := by
  obtain ⟨ao, cp, hb, hs⟩ := hr
  have c1 : w.cell? ⟨br, 1, none⟩ = some (.bool true) := cell_of_heap hb 1
  have l1 := lt_of_heap hb
  go_enter_defers Tryz.func129, Tryz.ntmps129
  go_wp2
  simp [bodyPostD, Leaves, settle, results, Tryz.results129, go_sem]
  exact ((Fr.refl _ w).alloc _).alloc _
/-- THE THREE CALLS -/
def Rd (w : World) (T br : Nat) : Option (List UInt8) → Prop
  | none => ∃ l, RdAt w T br l true
  | some l => RdAt w T br l false

/-- One reading: of a reader that failed the zero value; else what is read, or that it has failed now. -/
def rdStep {α : Type} (f : List UInt8 → Option (α × List UInt8)) (d : α) : Option (List UInt8) → α × Option (List UInt8)
  | none => (d, none)
  | some l => match f l with | some (x, r) => (x, some r) | none => (d, none)

theorem RdAt.alloc {w : World} {T br : Nat} {l : List UInt8} {f : Bool} (h : RdAt w T br l f) (o : Obj) : RdAt (w.alloc o) T br l f := by
  obtain ⟨ao, cap, h1, h2⟩ := h
  exact ⟨ao, cap, heap_alloc_keep h1 _, h2.alloc _⟩

theorem RdAt.fr {w w' : World} {K : Nat → Obj → Prop} {T br : Nat} {l : List UInt8} {f : Bool} (h : RdAt w T br l f) (hfr : Fr K w w') (hk : ∀ k c t f, t = 5 ∨ (t = 221 ∧ k = br) → K k (.cells c t f)) : RdAt w' T br l f := by
  obtain ⟨ao, cap, h1, h2⟩ := h
  exact ⟨ao, cap, hfr.keep _ _ h1 (hk _ _ _ _ (.inr ⟨rfl, rfl⟩)), h2.keep fun b c f _ hc => hfr.keep _ _ hc (hk _ _ _ _ (.inl rfl))⟩

theorem RdAt.fra {w w' : World} {T br : Nat} {l : List UInt8} {f : Bool} (h : RdAt w T br l f) (hfr : FrA w w') : RdAt w' T br l f :=
  h.fr hfr fun _ _ _ _ _ => trivial

set_option maxHeartbeats 400000 in
set_option maxRecDepth 100000 in
theorem NumClo_any (w : World) (B T b0 bx br : Nat) (l : List UInt8) (x0 : Value) (h0 : w.heap[b0]? = some (.cells #[.pointer (some ⟨br, 0, none⟩)] 139 (0, 0)))
    (hx : w.heap[bx]? = some (.cells #[x0] 130 (0, 0))) (hr : RdAt w T br l false) (hB : B ≤ br) (hl : l.length ≤ 140737488355328) :
    Calls Tryz.prog 153 #[.pointer (some ⟨b0, 0, none⟩), .pointer (some ⟨bx, 0, none⟩)] w fun e w' =>
      Fr (fun k o => RK B k o ∧ k ≠ bx) w w' ∧ ((e = .returned (.tuple #[]) ∧ ∃ x r, rnum 0 0 l = some (x, r) ∧ RdAt w' T br r false ∧ w'.heap[bx]? = some (.cells #[u64 x] 130 (0, 0))) ∨
      (e = .panicked stop ∧ rnum 0 0 l = none ∧ ∃ r, RdAt w' T br r false)) := by
  have c0 : w.cell? ⟨b0, 0, none⟩ = some (.pointer (some ⟨br, 0, none⟩)) := cell_of_heap h0 0
  go_enter Tryz.func153, Tryz.ntmps153
  go_wp2_with fail
  refine (num_any w B T br l false hr hB hl).mono ?_
  intro e w1 hq
  rcases hN : rnum 0 0 l with _ | ⟨x, r⟩
  · rw [hN] at hq
    have HN := Lib.hid hN; clear hN
    obtain ⟨rfl, h1, h2⟩ := hq
    go_wp2
    exact ⟨rfl, h2.mono fun _ _ h => h.1, .inr ⟨rfl, HN.out, h1⟩⟩
  · rw [hN] at hq
    have HN := Lib.hid hN; clear hN
    obtain ⟨rfl, h1, h2⟩ := hq
    have hx1 := h2.keep bx _ hx (by simp [KB, Obj.out])
    have c1 : w1.cell? ⟨bx, 0, none⟩ = some x0 := cell_of_heap hx1 0
    have f1 := free_of_heap hx1 0
    obtain ⟨ao, cap, g1, g2⟩ := h1
    have nb := ne_of_types g1 hx1 (by decide)
    have HG := Lib.hid g2; clear g2
    try unfold u64
    go_wp2
    go_end0
    refine ⟨(h2.mono fun _ _ h => h.1).setCell (fun _ _ h => h.2 rfl) _, .inl ⟨rfl, x, r, HN.out, ⟨ao, cap, heap_set_ne g1 nb _, HG.out.keep fun b c f _ hc => heap_set_ne hc (ne_of_types hc hx1 (by decide)) _⟩, heap_set hx1 0 _⟩⟩

set_option maxHeartbeats 400000 in
set_option maxRecDepth 100000 in
theorem RdNum_any (w : World) (B T br : Nat) (st : Option (List UInt8)) (hr : Rd w T br st) (hB : B ≤ br) (hl : ∀ l, st = some l → l.length ≤ 140737488355328) (hT : T ≤ w.heap.size) :
    Calls Tryz.prog 94 #[.pointer (some ⟨br, 0, none⟩)] w fun e w' =>
      e = .returned (u64 (rdStep (rnum 0 0) 0 st).1) ∧ Rd w' T br (rdStep (rnum 0 0) 0 st).2 ∧ Fr (RK B) w w' := by
  have hmf : ∀ (fn : Fn) (first cap : Array Value) (w : World), (Instr.makeFunc fn first cap).run Tryz.prog w = .ok (.func fn first cap) w := fun _ _ _ _ => rfl
  cases st with
  | none =>
    obtain ⟨l, hr⟩ := hr
    go_enter Tryz.func94, Tryz.ntmps94
    go_wp2_with fail
    refine (try_failed _ T br _ l ((hr.alloc _).alloc _)).mono ?_
    rintro e w1 ⟨rfl, h1⟩
    have h2 : FrA w w1 := (((Fr.refl _ w).alloc _).alloc _).trans h1
    go_wp2
    go_ret
    exact ⟨rfl, ⟨l, hr.fra h2⟩, h2.mono fun _ _ _ => trivial⟩
  | some l =>
    have hlen := hl l rfl
    have hr' : RdAt w T br l false := hr
    have hlb : br < w.heap.size := by obtain ⟨_, _, hb, _⟩ := hr'; exact lt_of_heap hb
    clear hl hr
    go_enter Tryz.func94, Tryz.ntmps94
    go_wp2_with fail
    obtain ⟨W1, hW1⟩ : ∃ W1, (w.alloc (.cells #[.pointer (some ⟨br, 0, none⟩)] 139)).alloc (.cells #[.int .u64 0] 130) = W1 := ⟨_, rfl⟩
    rw [hW1]
    have hz1 : W1.heap.size = w.heap.size + 2 := by rw [← hW1]; simp
    have k0 : W1.heap[w.heap.size]? = some (.cells #[.pointer (some ⟨br, 0, none⟩)] 139 (0, 0)) := by rw [← hW1]; exact heap_alloc_keep (heap_alloc_new _ _) _
    have kx : W1.heap[w.heap.size + 1]? = some (.cells #[.int .u64 0] 130 (0, 0)) := by rw [← hW1]; have := heap_alloc_new (w.alloc (.cells #[.pointer (some ⟨br, 0, none⟩)] 139)) (.cells #[.int .u64 0] 130); simpa using this
    have hr1 : RdAt W1 T br l false := by rw [← hW1]; exact (hr'.alloc _).alloc _
    have hfr0 : FrA w W1 := by rw [← hW1]; exact ((Fr.refl _ w).alloc _).alloc _
    clear hW1
    have kx2 := heap_alloc_keep (heap_alloc_keep kx (.cells #[.pointer (some ⟨br, 0, none⟩)] 139)) (.cells #[.bool false] 4)
    have k02 := heap_alloc_keep (heap_alloc_keep k0 (.cells #[.pointer (some ⟨br, 0, none⟩)] 139)) (.cells #[.bool false] 4)
    have kr2 := heap_alloc_keep (heap_alloc_new W1 (.cells #[.pointer (some ⟨br, 0, none⟩)] 139)) (.cells #[.bool false] 4)
    have kb2 : ((W1.alloc (.cells #[.pointer (some ⟨br, 0, none⟩)] 139)).alloc (.cells #[.bool false] 4)).heap[W1.heap.size + 1]? = some (.cells #[.bool false] 4 (0, 0)) := by
      have := heap_alloc_new (W1.alloc (.cells #[.pointer (some ⟨br, 0, none⟩)] 139)) (.cells #[.bool false] 4); simpa using this
    have hr2 : RdAt ((W1.alloc (.cells #[.pointer (some ⟨br, 0, none⟩)] 139)).alloc (.cells #[.bool false] 4)) T br l false := (hr1.alloc _).alloc _
    refine (try_any W1 T br 153 _ l
      (fun w' => ∃ x r, rnum 0 0 l = some (x, r) ∧ RdAt w' T br r false ∧ w'.heap[w.heap.size + 1]? = some (.cells #[u64 x] 130 (0, 0)) ∧ Fr (fun k o => RK B k o ∧ k ≠ w.heap.size + 1) W1 w')
      (fun w' => rnum 0 0 l = none ∧ Fr (fun k o => RK B k o ∧ k ≠ w.heap.size + 1) W1 w')
      hr1 (fun args w => by kernel_rfl) ?_).mono ?_
    · refine (NumClo_any _ B T _ _ br l _ k02 kx2 hr2 hB hlen).mono ?_
      rintro e w' ⟨h1, h2⟩
      have hf1 : Fr (fun k o => RK B k o ∧ k ≠ w.heap.size + 1) W1 w' := (((Fr.refl _ W1).alloc _).alloc _).trans h1
      refine ⟨h1.keep _ _ kr2 ⟨by simp [KB, Obj.out], by omega⟩, h1.keep _ _ kb2 ⟨by simp [KB, Obj.out], by omega⟩, ?_⟩
      rcases h2 with ⟨rfl, x, r, a1, a2, a3⟩ | ⟨rfl, a1, a2⟩
      · exact .inl ⟨rfl, x, r, a1, a2, a3, hf1⟩
      · exact .inr ⟨rfl, ⟨a1, hf1⟩, a2⟩
    · rintro e w2 (⟨rfl, w1, ⟨x, r, a1, a2, a3, a4⟩, h1⟩ | ⟨rfl, w1, r, ⟨a1, a4⟩, a2, h1⟩)
      · have a3' := h1.keep _ _ a3 (show w.heap.size + 1 ≠ W1.heap.size + 1 by omega)
        have cx : w2.cell? ⟨w.heap.size + 1, 0, none⟩ = some (u64 x) := cell_of_heap a3' 0
        have a1' := Lib.hid a1
        have a2' := Lib.hid (show RdAt w2 T br r false from by
          obtain ⟨ao, cap, b1, b2⟩ := a2
          have hbr : br < W1.heap.size := by omega
          exact ⟨ao, cap, h1.keep _ _ b1 (by omega), b2.keep fun b c f hbT hc => h1.keep _ _ hc (by omega)⟩)
        have hfr : Fr (RK B) w w2 := ⟨h1.os.trans (a4.os.trans hfr0.os), h1.tape.trans (a4.tape.trans hfr0.tape), h1.output.trans (a4.output.trans hfr0.output), Nat.le_trans hfr0.size (Nat.le_trans a4.size h1.size),
          fun k o ho hk => by
            have hlt := lt_of_heap ho
            exact h1.keep _ _ (a4.keep _ _ (hfr0.keep _ _ ho trivial) ⟨hk, by omega⟩) (by omega)⟩
        clear a1 a2 a3 a4 h1
        try unfold u64 at cx
        go_wp2
        go_ret
        rw [rdStep, a1'.out]
        exact ⟨rfl, a2'.out, hfr⟩
      · have hfr : Fr (RK B) w w2 := ⟨h1.os.trans (a4.os.trans hfr0.os), h1.tape.trans (a4.tape.trans hfr0.tape), h1.output.trans (a4.output.trans hfr0.output), Nat.le_trans hfr0.size (Nat.le_trans a4.size h1.size),
          fun k o ho hk => by
            have hlt := lt_of_heap ho
            have h3 := a4.keep _ _ (hfr0.keep _ _ ho trivial) ⟨hk, by omega⟩
            by_cases e : k = br
            · subst e
              obtain ⟨ao, cap, b1, b2⟩ := hr1
              have h4 := hfr0.keep _ _ ho trivial
              rw [b1] at h4; cases h4
              rcases hk with hk | hk
              · omega
              · simp [Obj.out] at hk
            · exact h1.keep _ _ h3 ⟨e, by omega⟩⟩
        have a1' := Lib.hid a1
        clear a1 a4 h1
        go_wp2
        go_ret
        rw [rdStep, a1'.out]
        exact ⟨rfl, ⟨r, a2⟩, hfr⟩

set_option maxHeartbeats 400000 in
set_option maxRecDepth 100000 in
theorem TextClo_any (w : World) (B T b0 bx br : Nat) (l : List UInt8) (x0 : Value) (h0 : w.heap[b0]? = some (.cells #[.pointer (some ⟨br, 0, none⟩)] 139 (0, 0)))
    (hx : w.heap[bx]? = some (.cells #[x0] 9 (0, 0))) (hr : RdAt w T br l false) (hB : B ≤ br) (hl : l.length ≤ 140737488355328) :
    Calls Tryz.prog 132 #[.pointer (some ⟨b0, 0, none⟩), .pointer (some ⟨bx, 0, none⟩)] w fun e w' =>
      Fr (fun k o => RK B k o ∧ k ≠ bx) w w' ∧ ((e = .returned (.tuple #[]) ∧ ∃ x r, rtext l = some (x, r) ∧ RdAt w' T br r false ∧ w'.heap[bx]? = some (.cells #[strv x] 9 (0, 0))) ∨
      (e = .panicked stop ∧ rtext l = none ∧ ∃ r, RdAt w' T br r false)) := by
  have c0 : w.cell? ⟨b0, 0, none⟩ = some (.pointer (some ⟨br, 0, none⟩)) := cell_of_heap h0 0
  go_enter Tryz.func132, Tryz.ntmps132
  go_wp2_with fail
  refine (text_any w B T br l false hr hB hl).mono ?_
  intro e w1 hq
  rcases hN : rtext l with _ | ⟨x, r⟩
  · rw [hN] at hq
    have HN := Lib.hid hN; clear hN
    obtain ⟨rfl, h1, h2⟩ := hq
    go_wp2
    exact ⟨rfl, h2.mono fun _ _ h => h.1, .inr ⟨rfl, HN.out, h1⟩⟩
  · rw [hN] at hq
    have HN := Lib.hid hN; clear hN
    obtain ⟨rfl, h1, h2⟩ := hq
    have hx1 := h2.keep bx _ hx (by simp [KB, Obj.out])
    have c1 : w1.cell? ⟨bx, 0, none⟩ = some x0 := cell_of_heap hx1 0
    have f1 := free_of_heap hx1 0
    obtain ⟨ao, cap, g1, g2⟩ := h1
    have nb := ne_of_types g1 hx1 (by decide)
    have HG := Lib.hid g2; clear g2
    try unfold strv
    go_wp2
    go_end0
    refine ⟨(h2.mono fun _ _ h => h.1).setCell (fun _ _ h => h.2 rfl) _, .inl ⟨rfl, x, r, HN.out, ⟨ao, cap, heap_set_ne g1 nb _, HG.out.keep fun b c f _ hc => heap_set_ne hc (ne_of_types hc hx1 (by decide)) _⟩, heap_set hx1 0 _⟩⟩

set_option maxHeartbeats 400000 in
set_option maxRecDepth 100000 in
theorem RdText_any (w : World) (B T br : Nat) (st : Option (List UInt8)) (hr : Rd w T br st) (hB : B ≤ br) (hl : ∀ l, st = some l → l.length ≤ 140737488355328) (hT : T ≤ w.heap.size) :
    Calls Tryz.prog 68 #[.pointer (some ⟨br, 0, none⟩)] w fun e w' =>
      e = .returned (strv (rdStep (rtext) [] st).1) ∧ Rd w' T br (rdStep (rtext) [] st).2 ∧ Fr (RK B) w w' := by
  have hmf : ∀ (fn : Fn) (first cap : Array Value) (w : World), (Instr.makeFunc fn first cap).run Tryz.prog w = .ok (.func fn first cap) w := fun _ _ _ _ => rfl
  cases st with
  | none =>
    obtain ⟨l, hr⟩ := hr
    go_enter Tryz.func68, Tryz.ntmps68
    go_wp2_with fail
    refine (try_failed _ T br _ l ((hr.alloc _).alloc _)).mono ?_
    rintro e w1 ⟨rfl, h1⟩
    have h2 : FrA w w1 := (((Fr.refl _ w).alloc _).alloc _).trans h1
    go_wp2
    go_ret
    exact ⟨rfl, ⟨l, hr.fra h2⟩, h2.mono fun _ _ _ => trivial⟩
  | some l =>
    have hlen := hl l rfl
    have hr' : RdAt w T br l false := hr
    have hlb : br < w.heap.size := by obtain ⟨_, _, hb, _⟩ := hr'; exact lt_of_heap hb
    clear hl hr
    go_enter Tryz.func68, Tryz.ntmps68
    go_wp2_with fail
    obtain ⟨W1, hW1⟩ : ∃ W1, (w.alloc (.cells #[.pointer (some ⟨br, 0, none⟩)] 139)).alloc (.cells #[.string { data := #[] }] 9) = W1 := ⟨_, rfl⟩
    rw [hW1]
    have hz1 : W1.heap.size = w.heap.size + 2 := by rw [← hW1]; simp
    have k0 : W1.heap[w.heap.size]? = some (.cells #[.pointer (some ⟨br, 0, none⟩)] 139 (0, 0)) := by rw [← hW1]; exact heap_alloc_keep (heap_alloc_new _ _) _
    have kx : W1.heap[w.heap.size + 1]? = some (.cells #[.string { data := #[] }] 9 (0, 0)) := by rw [← hW1]; have := heap_alloc_new (w.alloc (.cells #[.pointer (some ⟨br, 0, none⟩)] 139)) (.cells #[.string { data := #[] }] 9); simpa using this
    have hr1 : RdAt W1 T br l false := by rw [← hW1]; exact (hr'.alloc _).alloc _
    have hfr0 : FrA w W1 := by rw [← hW1]; exact ((Fr.refl _ w).alloc _).alloc _
    clear hW1
    have kx2 := heap_alloc_keep (heap_alloc_keep kx (.cells #[.pointer (some ⟨br, 0, none⟩)] 139)) (.cells #[.bool false] 4)
    have k02 := heap_alloc_keep (heap_alloc_keep k0 (.cells #[.pointer (some ⟨br, 0, none⟩)] 139)) (.cells #[.bool false] 4)
    have kr2 := heap_alloc_keep (heap_alloc_new W1 (.cells #[.pointer (some ⟨br, 0, none⟩)] 139)) (.cells #[.bool false] 4)
    have kb2 : ((W1.alloc (.cells #[.pointer (some ⟨br, 0, none⟩)] 139)).alloc (.cells #[.bool false] 4)).heap[W1.heap.size + 1]? = some (.cells #[.bool false] 4 (0, 0)) := by
      have := heap_alloc_new (W1.alloc (.cells #[.pointer (some ⟨br, 0, none⟩)] 139)) (.cells #[.bool false] 4); simpa using this
    have hr2 : RdAt ((W1.alloc (.cells #[.pointer (some ⟨br, 0, none⟩)] 139)).alloc (.cells #[.bool false] 4)) T br l false := (hr1.alloc _).alloc _
    refine (try_any W1 T br 132 _ l
      (fun w' => ∃ x r, rtext l = some (x, r) ∧ RdAt w' T br r false ∧ w'.heap[w.heap.size + 1]? = some (.cells #[strv x] 9 (0, 0)) ∧ Fr (fun k o => RK B k o ∧ k ≠ w.heap.size + 1) W1 w')
      (fun w' => rtext l = none ∧ Fr (fun k o => RK B k o ∧ k ≠ w.heap.size + 1) W1 w')
      hr1 (fun args w => by kernel_rfl) ?_).mono ?_
    · refine (TextClo_any _ B T _ _ br l _ k02 kx2 hr2 hB hlen).mono ?_
      rintro e w' ⟨h1, h2⟩
      have hf1 : Fr (fun k o => RK B k o ∧ k ≠ w.heap.size + 1) W1 w' := (((Fr.refl _ W1).alloc _).alloc _).trans h1
      refine ⟨h1.keep _ _ kr2 ⟨by simp [KB, Obj.out], by omega⟩, h1.keep _ _ kb2 ⟨by simp [KB, Obj.out], by omega⟩, ?_⟩
      rcases h2 with ⟨rfl, x, r, a1, a2, a3⟩ | ⟨rfl, a1, a2⟩
      · exact .inl ⟨rfl, x, r, a1, a2, a3, hf1⟩
      · exact .inr ⟨rfl, ⟨a1, hf1⟩, a2⟩
    · rintro e w2 (⟨rfl, w1, ⟨x, r, a1, a2, a3, a4⟩, h1⟩ | ⟨rfl, w1, r, ⟨a1, a4⟩, a2, h1⟩)
      · have a3' := h1.keep _ _ a3 (show w.heap.size + 1 ≠ W1.heap.size + 1 by omega)
        have cx : w2.cell? ⟨w.heap.size + 1, 0, none⟩ = some (strv x) := cell_of_heap a3' 0
        have a1' := Lib.hid a1
        have a2' := Lib.hid (show RdAt w2 T br r false from by
          obtain ⟨ao, cap, b1, b2⟩ := a2
          have hbr : br < W1.heap.size := by omega
          exact ⟨ao, cap, h1.keep _ _ b1 (by omega), b2.keep fun b c f hbT hc => h1.keep _ _ hc (by omega)⟩)
        have hfr : Fr (RK B) w w2 := ⟨h1.os.trans (a4.os.trans hfr0.os), h1.tape.trans (a4.tape.trans hfr0.tape), h1.output.trans (a4.output.trans hfr0.output), Nat.le_trans hfr0.size (Nat.le_trans a4.size h1.size),
          fun k o ho hk => by
            have hlt := lt_of_heap ho
            exact h1.keep _ _ (a4.keep _ _ (hfr0.keep _ _ ho trivial) ⟨hk, by omega⟩) (by omega)⟩
        clear a1 a2 a3 a4 h1
        try unfold strv at cx
        go_wp2
        go_ret
        rw [rdStep, a1'.out]
        exact ⟨rfl, a2'.out, hfr⟩
      · have hfr : Fr (RK B) w w2 := ⟨h1.os.trans (a4.os.trans hfr0.os), h1.tape.trans (a4.tape.trans hfr0.tape), h1.output.trans (a4.output.trans hfr0.output), Nat.le_trans hfr0.size (Nat.le_trans a4.size h1.size),
          fun k o ho hk => by
            have hlt := lt_of_heap ho
            have h3 := a4.keep _ _ (hfr0.keep _ _ ho trivial) ⟨hk, by omega⟩
            by_cases e : k = br
            · subst e
              obtain ⟨ao, cap, b1, b2⟩ := hr1
              have h4 := hfr0.keep _ _ ho trivial
              rw [b1] at h4; cases h4
              rcases hk with hk | hk
              · omega
              · simp [Obj.out] at hk
            · exact h1.keep _ _ h3 ⟨e, by omega⟩⟩
        have a1' := Lib.hid a1
        clear a1 a4 h1
        go_wp2
        go_ret
        rw [rdStep, a1'.out]
        exact ⟨rfl, ⟨r, a2⟩, hfr⟩

set_option maxHeartbeats 400000 in
set_option maxRecDepth 100000 in
theorem BoolClo_any (w : World) (B T b0 bx br : Nat) (l : List UInt8) (x0 : Value) (h0 : w.heap[b0]? = some (.cells #[.pointer (some ⟨br, 0, none⟩)] 139 (0, 0)))
    (hx : w.heap[bx]? = some (.cells #[x0] 4 (0, 0))) (hr : RdAt w T br l false) (hB : B ≤ br) (hl : l.length ≤ 140737488355328) :
    Calls Tryz.prog 130 #[.pointer (some ⟨b0, 0, none⟩), .pointer (some ⟨bx, 0, none⟩)] w fun e w' =>
      Fr (fun k o => RK B k o ∧ k ≠ bx) w w' ∧ ((e = .returned (.tuple #[]) ∧ ∃ x r, rbool l = some (x, r) ∧ RdAt w' T br r false ∧ w'.heap[bx]? = some (.cells #[Value.bool x] 4 (0, 0))) ∨
      (e = .panicked stop ∧ rbool l = none ∧ ∃ r, RdAt w' T br r false)) := by
  have c0 : w.cell? ⟨b0, 0, none⟩ = some (.pointer (some ⟨br, 0, none⟩)) := cell_of_heap h0 0
  go_enter Tryz.func130, Tryz.ntmps130
  go_wp2_with fail
  refine (bool_any w B T br l false hr hB hl).mono ?_
  intro e w1 hq
  rcases hN : rbool l with _ | ⟨x, r⟩
  · rw [hN] at hq
    have HN := Lib.hid hN; clear hN
    obtain ⟨rfl, h1, h2⟩ := hq
    go_wp2
    exact ⟨rfl, h2.mono fun _ _ h => h.1, .inr ⟨rfl, HN.out, h1⟩⟩
  · rw [hN] at hq
    have HN := Lib.hid hN; clear hN
    obtain ⟨rfl, h1, h2⟩ := hq
    have hx1 := h2.keep bx _ hx (by simp [KB, Obj.out])
    have c1 : w1.cell? ⟨bx, 0, none⟩ = some x0 := cell_of_heap hx1 0
    have f1 := free_of_heap hx1 0
    obtain ⟨ao, cap, g1, g2⟩ := h1
    have nb := ne_of_types g1 hx1 (by decide)
    have HG := Lib.hid g2; clear g2
    try unfold Value.bool
    go_wp2
    go_end0
    refine ⟨(h2.mono fun _ _ h => h.1).setCell (fun _ _ h => h.2 rfl) _, .inl ⟨rfl, x, r, HN.out, ⟨ao, cap, heap_set_ne g1 nb _, HG.out.keep fun b c f _ hc => heap_set_ne hc (ne_of_types hc hx1 (by decide)) _⟩, heap_set hx1 0 _⟩⟩

set_option maxHeartbeats 400000 in
set_option maxRecDepth 100000 in
theorem RdBool_any (w : World) (B T br : Nat) (st : Option (List UInt8)) (hr : Rd w T br st) (hB : B ≤ br) (hl : ∀ l, st = some l → l.length ≤ 140737488355328) (hT : T ≤ w.heap.size) :
    Calls Tryz.prog 67 #[.pointer (some ⟨br, 0, none⟩)] w fun e w' =>
      e = .returned (Value.bool (rdStep (rbool) false st).1) ∧ Rd w' T br (rdStep (rbool) false st).2 ∧ Fr (RK B) w w' := by
  have hmf : ∀ (fn : Fn) (first cap : Array Value) (w : World), (Instr.makeFunc fn first cap).run Tryz.prog w = .ok (.func fn first cap) w := fun _ _ _ _ => rfl
  cases st with
  | none =>
    obtain ⟨l, hr⟩ := hr
    go_enter Tryz.func67, Tryz.ntmps67
    go_wp2_with fail
    refine (try_failed _ T br _ l ((hr.alloc _).alloc _)).mono ?_
    rintro e w1 ⟨rfl, h1⟩
    have h2 : FrA w w1 := (((Fr.refl _ w).alloc _).alloc _).trans h1
    go_wp2
    go_ret
    exact ⟨rfl, ⟨l, hr.fra h2⟩, h2.mono fun _ _ _ => trivial⟩
  | some l =>
    have hlen := hl l rfl
    have hr' : RdAt w T br l false := hr
    have hlb : br < w.heap.size := by obtain ⟨_, _, hb, _⟩ := hr'; exact lt_of_heap hb
    clear hl hr
    go_enter Tryz.func67, Tryz.ntmps67
    go_wp2_with fail
    obtain ⟨W1, hW1⟩ : ∃ W1, (w.alloc (.cells #[.pointer (some ⟨br, 0, none⟩)] 139)).alloc (.cells #[.bool false] 4) = W1 := ⟨_, rfl⟩
    rw [hW1]
    have hz1 : W1.heap.size = w.heap.size + 2 := by rw [← hW1]; simp
    have k0 : W1.heap[w.heap.size]? = some (.cells #[.pointer (some ⟨br, 0, none⟩)] 139 (0, 0)) := by rw [← hW1]; exact heap_alloc_keep (heap_alloc_new _ _) _
    have kx : W1.heap[w.heap.size + 1]? = some (.cells #[.bool false] 4 (0, 0)) := by rw [← hW1]; have := heap_alloc_new (w.alloc (.cells #[.pointer (some ⟨br, 0, none⟩)] 139)) (.cells #[.bool false] 4); simpa using this
    have hr1 : RdAt W1 T br l false := by rw [← hW1]; exact (hr'.alloc _).alloc _
    have hfr0 : FrA w W1 := by rw [← hW1]; exact ((Fr.refl _ w).alloc _).alloc _
    clear hW1
    have kx2 := heap_alloc_keep (heap_alloc_keep kx (.cells #[.pointer (some ⟨br, 0, none⟩)] 139)) (.cells #[.bool false] 4)
    have k02 := heap_alloc_keep (heap_alloc_keep k0 (.cells #[.pointer (some ⟨br, 0, none⟩)] 139)) (.cells #[.bool false] 4)
    have kr2 := heap_alloc_keep (heap_alloc_new W1 (.cells #[.pointer (some ⟨br, 0, none⟩)] 139)) (.cells #[.bool false] 4)
    have kb2 : ((W1.alloc (.cells #[.pointer (some ⟨br, 0, none⟩)] 139)).alloc (.cells #[.bool false] 4)).heap[W1.heap.size + 1]? = some (.cells #[.bool false] 4 (0, 0)) := by
      have := heap_alloc_new (W1.alloc (.cells #[.pointer (some ⟨br, 0, none⟩)] 139)) (.cells #[.bool false] 4); simpa using this
    have hr2 : RdAt ((W1.alloc (.cells #[.pointer (some ⟨br, 0, none⟩)] 139)).alloc (.cells #[.bool false] 4)) T br l false := (hr1.alloc _).alloc _
    refine (try_any W1 T br 130 _ l
      (fun w' => ∃ x r, rbool l = some (x, r) ∧ RdAt w' T br r false ∧ w'.heap[w.heap.size + 1]? = some (.cells #[Value.bool x] 4 (0, 0)) ∧ Fr (fun k o => RK B k o ∧ k ≠ w.heap.size + 1) W1 w')
      (fun w' => rbool l = none ∧ Fr (fun k o => RK B k o ∧ k ≠ w.heap.size + 1) W1 w')
      hr1 (fun args w => by kernel_rfl) ?_).mono ?_
    · refine (BoolClo_any _ B T _ _ br l _ k02 kx2 hr2 hB hlen).mono ?_
      rintro e w' ⟨h1, h2⟩
      have hf1 : Fr (fun k o => RK B k o ∧ k ≠ w.heap.size + 1) W1 w' := (((Fr.refl _ W1).alloc _).alloc _).trans h1
      refine ⟨h1.keep _ _ kr2 ⟨by simp [KB, Obj.out], by omega⟩, h1.keep _ _ kb2 ⟨by simp [KB, Obj.out], by omega⟩, ?_⟩
      rcases h2 with ⟨rfl, x, r, a1, a2, a3⟩ | ⟨rfl, a1, a2⟩
      · exact .inl ⟨rfl, x, r, a1, a2, a3, hf1⟩
      · exact .inr ⟨rfl, ⟨a1, hf1⟩, a2⟩
    · rintro e w2 (⟨rfl, w1, ⟨x, r, a1, a2, a3, a4⟩, h1⟩ | ⟨rfl, w1, r, ⟨a1, a4⟩, a2, h1⟩)
      · have a3' := h1.keep _ _ a3 (show w.heap.size + 1 ≠ W1.heap.size + 1 by omega)
        have cx : w2.cell? ⟨w.heap.size + 1, 0, none⟩ = some (Value.bool x) := cell_of_heap a3' 0
        have a1' := Lib.hid a1
        have a2' := Lib.hid (show RdAt w2 T br r false from by
          obtain ⟨ao, cap, b1, b2⟩ := a2
          have hbr : br < W1.heap.size := by omega
          exact ⟨ao, cap, h1.keep _ _ b1 (by omega), b2.keep fun b c f hbT hc => h1.keep _ _ hc (by omega)⟩)
        have hfr : Fr (RK B) w w2 := ⟨h1.os.trans (a4.os.trans hfr0.os), h1.tape.trans (a4.tape.trans hfr0.tape), h1.output.trans (a4.output.trans hfr0.output), Nat.le_trans hfr0.size (Nat.le_trans a4.size h1.size),
          fun k o ho hk => by
            have hlt := lt_of_heap ho
            exact h1.keep _ _ (a4.keep _ _ (hfr0.keep _ _ ho trivial) ⟨hk, by omega⟩) (by omega)⟩
        clear a1 a2 a3 a4 h1
        try unfold Value.bool at cx
        go_wp2
        go_ret
        rw [rdStep, a1'.out]
        exact ⟨rfl, a2'.out, hfr⟩
      · have hfr : Fr (RK B) w w2 := ⟨h1.os.trans (a4.os.trans hfr0.os), h1.tape.trans (a4.tape.trans hfr0.tape), h1.output.trans (a4.output.trans hfr0.output), Nat.le_trans hfr0.size (Nat.le_trans a4.size h1.size),
          fun k o ho hk => by
            have hlt := lt_of_heap ho
            have h3 := a4.keep _ _ (hfr0.keep _ _ ho trivial) ⟨hk, by omega⟩
            by_cases e : k = br
            · subst e
              obtain ⟨ao, cap, b1, b2⟩ := hr1
              have h4 := hfr0.keep _ _ ho trivial
              rw [b1] at h4; cases h4
              rcases hk with hk | hk
              · omega
              · simp [Obj.out] at hk
            · exact h1.keep _ _ h3 ⟨e, by omega⟩⟩
        have a1' := Lib.hid a1
        clear a1 a4 h1
        go_wp2
        go_ret
        rw [rdStep, a1'.out]
        exact ⟨rfl, ⟨r, a2⟩, hfr⟩

theorem NewReader_any (w : World) (l : List UInt8) (n : Nat) (hn : l.length = n) {T : Nat} {ao : Option Addr} {cap : Nat} (hx : Sl w T 5 1 ao n cap (l.map u8)) (hlen : n ≤ 140737488355328) :
    Calls Tryz.prog 66 #[.slice ao n cap] w fun e w' => ∃ br T', e = .returned (.pointer (some ⟨br, 0, none⟩)) ∧ w.heap.size ≤ br ∧ T' ≤ br ∧ Rd w' T' br (some l) ∧ FrA w w' ∧ w'.heap.size = br + 1 := by
  subst hn
  go_enter Tryz.func66, Tryz.ntmps66
  go_wp2_with fail
  refine (CloneBytes_any w l _ rfl hx hlen).mono ?_
  rintro e w1 ⟨v, rfl, hown, hfr⟩
  obtain ⟨ao', cap', rfl⟩ := own_shape hown
  go_wp2
  go_ret
  have hs := hfr.size
  exact ⟨w1.heap.size, w1.heap.size, rfl, hs, Nat.le_refl _, ⟨_, _, heap_alloc_new _ _, (Sl.of_own hown).alloc _⟩, hfr.alloc _, by simp⟩

def doneE : Option (List UInt8) → Int
  | some [] => 0
  | _ => 20

theorem Done_any (w : World) (T br : Nat) (st : Option (List UInt8)) (hr : Rd w T br st) :
    Calls Tryz.prog 69 #[.pointer (some ⟨br, 0, none⟩)] w fun e w' => e = .returned (.int .i64 (doneE st)) ∧ w' = w := by
  cases st with
  | none =>
    obtain ⟨l, ao, cap, hb, hs⟩ := hr
    have c1 : w.cell? ⟨br, 1, none⟩ = some (.bool true) := cell_of_heap hb 1
    go_enter Tryz.func69, Tryz.ntmps69
    go_wp2
    go_ret
    exact ⟨rfl, rfl⟩
  | some l =>
    obtain ⟨ao, cap, hb, hs⟩ := hr
    have c0 : w.cell? ⟨br, 0, none⟩ = some (.slice ao l.length cap) := cell_of_heap hb 0
    have c1 : w.cell? ⟨br, 1, none⟩ = some (.bool false) := cell_of_heap hb 1
    cases l with
    | nil =>
      go_enter Tryz.func69, Tryz.ntmps69
      go_wp2
      go_ret
      exact ⟨rfl, rfl⟩
    | cons x l =>
      have h0 : decide ((0 : Int) < (l.length : Int) + 1) = true := by simp
      go_enter Tryz.func69, Tryz.ntmps69
      go_wp2
      go_ret
      exact ⟨rfl, rfl⟩

end Go.Proofs.YtbhjdddiihfafaaGreatDoor
