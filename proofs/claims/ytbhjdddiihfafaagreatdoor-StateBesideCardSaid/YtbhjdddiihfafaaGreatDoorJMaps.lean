/- Maps of this program, of whatever key and element type: 'MapAt w K b kvs': block b is a map that holds just these keys (as literals, in order) with just these values. -/
import Derived.Maps.OwnSet
import Derived.StringKeys
import Derived.Test.YtbhjdddiihfafaaGreatDoorJEls
set_option linter.unusedVariables false
set_option linter.unusedSimpArgs false
namespace Go.Proofs.YtbhjdddiihfafaaGreatDoor
open Go.RowKit Go.Maps Go.MapKept

/-- An element, read as the value that it is. -/
def rawE : Value → Option (DataW Value × List MemPlace) := fun v => some (.held v, [])

def heldP (p : Lit × Value) : Lit × DataW Value := (p.1, .held p.2)

def toD (kvs : List (Lit × Value)) : DataW Value := .map (kvs.map heldP)

section
variable {α : Type}
def kins (x : Lit × α) : List (Lit × α) → List (Lit × α)
  | [] => [x]
  | y :: r => if x.1.before y.1 then x :: y :: r else y :: kins x r
def kdel (l : List (Lit × α)) (k : Lit) : List (Lit × α) := l.filter fun p => !p.1.sameKey k
def kput (l : List (Lit × α)) (k : Lit) (v : α) : List (Lit × α) := kins (k, v) (kdel l k)
def kget (l : List (Lit × α)) (k : Lit) : Option α := (l.find? fun p => p.1.sameKey k).map (·.2)

theorem kins_length (x : Lit × α) : ∀ l, (kins x l).length = l.length + 1
  | [] => rfl
  | y :: r => by
    unfold kins
    split
    · rfl
    · simp [kins_length x r]

theorem kdel_length (l : List (Lit × α)) (k : Lit) : (kdel l k).length ≤ l.length := List.length_filter_le _ _

theorem kput_length (l : List (Lit × α)) (k : Lit) (v : α) : (kput l k v).length ≤ l.length + 1 := by
  have := kdel_length l k
  simp only [kput, kins_length]; omega
end

theorem insert_held (x : Lit × Value) : ∀ l : List (Lit × Value), DataW.insert (heldP x) (l.map heldP) = (kins x l).map heldP
  | [] => rfl
  | y :: r => by
    unfold kins
    simp only [List.map_cons, DataW.insert]
    show (if x.1.before y.1 = true then _ else _) = _
    split
    · rfl
    · rw [insert_held x r]; rfl

theorem filter_held (l : List (Lit × Value)) (k : Lit) : (l.map heldP).filter (fun p => !p.1.sameKey k) = (kdel l k).map heldP := by
  rw [List.filter_map]; rfl

theorem toD_put (l : List (Lit × Value)) (k : Lit) (v : Value) : (toD l).put k (.held v) = toD (kput l k v) := by
  simp only [toD, DataW.put, filter_held]
  exact congrArg DataW.map (insert_held (k, v) (kdel l k))

theorem toD_del (l : List (Lit × Value)) (k : Lit) : (toD l).del k = toD (kdel l k) := by
  simp only [toD, DataW.del, filter_held]

theorem toD_at (l : List (Lit × Value)) (k : Lit) (z : Value) : (toD l).atKey k (.held z) = .held ((kget l k).getD z) := by
  simp only [toD, DataW.atKey, kget, List.find?_map]
  have e : ((fun p : Lit × DataW Value => p.1.sameKey k) ∘ heldP) = fun p : Lit × Value => p.1.sameKey k := rfl
  rw [e]
  cases l.find? fun p => p.1.sameKey k <;> rfl

theorem toD_has (l : List (Lit × Value)) (k : Lit) : Maps.has (toD l) k = (kget l k).isSome := by
  simp only [toD, Maps.has, kget, List.any_map]
  have e : ((fun p : Lit × DataW Value => p.1.sameKey k) ∘ heldP) = fun p : Lit × Value => p.1.sameKey k := rfl
  rw [e]
  cases h : l.find? fun p => p.1.sameKey k with
  | none => simpa using h
  | some y => simp; exact ⟨y.1, ⟨y.2, List.mem_of_find?_eq_some h⟩, by simpa using List.find?_some h⟩

/-- Block b is a map that holds just these keys with just these values. -/
def MapAt (w : World) (K b : Nat) (kvs : List (Lit × Value)) : Prop := w.ownsMap Tryz.prog K rawE b kvs.length (toD kvs)

section
variable {w w' : World} {K b E t : Nat} {kvs : List (Lit × Value)}

theorem MapAt.made (w : World) (K : Nat) : MapAt (w.alloc (.map #[] 0)) K w.heap.size [] := World.ownsMap_made _ _ _ _

theorem MapAt.lt (h : MapAt w K b kvs) : b < w.heap.size := World.ownsMap.lt h

theorem MapAt.of_own {n : Nat} (h : w.ownsMap Tryz.prog K rawE b n (toD kvs)) : MapAt w K b kvs := by
  obtain ⟨es, clock, hb, F, hs, hD⟩ := h
  refine ⟨es, clock, hb, F, ?_, hD⟩
  have e := length_read (k := K) (P := Tryz.prog) (R0 := rawE) es
  have : (toD kvs) = .map _ := hD
  simp only [toD, DataW.map.injEq] at this
  rw [← this] at e
  simp at e; omega

theorem MapAt.block (h : MapAt w K b kvs) : ∃ es clock, w.heap[b]? = some (.map es clock) := by
  obtain ⟨es, clock, hb, _⟩ := h; exact ⟨es, clock, hb⟩

theorem MapAt.same (h : MapAt w K b kvs) (hk : ∀ es clock, w.heap[b]? = some (.map es clock) → w'.heap[b]? = some (.map es clock)) : MapAt w' K b kvs := by
  obtain ⟨es, clock, hb, r⟩ := h
  exact ⟨es, clock, hk _ _ hb, r⟩

theorem MapAt.fr {Kp : Nat → Obj → Prop} (h : MapAt w K b kvs) (hfr : Fr Kp w w') (hk : ∀ es clock, Kp b (.map es clock)) : MapAt w' K b kvs :=
  h.same fun es clock hb => hfr.keep _ _ hb (hk _ _)

theorem MapAt.alloc (h : MapAt w K b kvs) (o : Obj) : MapAt (w.alloc o) K b kvs := h.same fun _ _ hb => heap_alloc_keep hb _

theorem MapAt.drew (h : MapAt w K b kvs) : MapAt w.drew K b kvs := World.ownsMap.drew h

theorem MapAt.setCell (h : MapAt w K b kvs) {a : Addr} (ha : b ≠ a.block) (u : Value) : MapAt (w.setCell a u) K b kvs := World.ownsMap.setCell h ha u

/-- A block of cells is no map. -/
theorem MapAt.ne_cells (h : MapAt w K b kvs) {b' : Nat} {c : Array Value} {t : TypeId} {f : Nat × Nat} (hb : w.heap[b']? = some (.cells c t f)) : b ≠ b' := by
  rintro rfl
  obtain ⟨es, clock, h1⟩ := h.block
  rw [hb] at h1; cases h1

theorem MapAt.run_len (h : MapAt w K b kvs) (ht : Tryz.prog.underlying t = some (.map K E)) (ty : TypeId) : (Builtin.len_ #[t] ty #[.map (some b)]).run Tryz.prog w = .ok (.int .i64 kvs.length) w := by
  have := World.ownsMap.len h ht ty
  rw [this]
  simp [toD, Maps.size]

theorem MapAt.run_clear (h : MapAt w K b kvs) (ht : Tryz.prog.underlying t = some (.map K E)) (ty : TypeId) : ∃ w', (Builtin.clear_ #[t] ty #[.map (some b)]).run Tryz.prog w = .ok (.tuple #[]) w' ∧ MapAt w' K b [] ∧ w.grownBy w' (some b) := by
  obtain ⟨es, clock, hb, F, hs, hD⟩ := h
  have hlt := lt_of_heap hb
  have hrun : (Builtin.clear_ #[t] ty #[.map (some b)]).run Tryz.prog w = .ok (.tuple #[]) { w with heap := w.heap.setIfInBounds b (.map #[] clock) } := by
    simp [Builtin.clear_, run_underlying ht, Sem.run, hb, getObj, setObj]
  have hnew : ({ w with heap := w.heap.setIfInBounds b (.map #[] clock) } : World).heap[b]? = some (.map #[] clock) := by simp [hlt]
  refine ⟨_, hrun, ⟨#[], clock, hnew, ⟨by simp, ?_, by simp⟩, by simp, rfl⟩, ⟨rfl, rfl, rfl, by simp, fun k hk hne => ?_⟩⟩
  · exact stamped_empty _
  · have : k ≠ b := fun e => hne (by rw [e])
    simp [Array.getElem?_setIfInBounds, Ne.symm this]

theorem MapAt.run_look (h : MapAt w K b kvs) (L : Keyed Tryz.prog K) (ht : Tryz.prog.underlying t = some (.map K E)) {z : Value} (hz : (zeroValue E).run Tryz.prog w = .ok z w) {key : Value} {kl : Lit}
    (hkey : keyOf Tryz.prog K key = some kl) : (Instr.lookup t (.map (some b)) key false).run Tryz.prog w = .ok ((kget kvs kl).getD z) w := by
  have h' : w.ownsMap Tryz.prog K rawE b kvs.length (toD kvs) := h
  obtain ⟨v, ps, hrun, hv⟩ := World.ownsMap.lookup h' L ht hz (zd := .held z) (zp := []) rfl hkey
  rw [toD_at] at hv
  simp only [rawE, Option.some.injEq, Prod.mk.injEq, DataW.held.injEq] at hv
  obtain ⟨rfl, _⟩ := hv
  exact hrun

end

section
variable {w : World} {ops : Array Oper} {rest : List Oper} {o : Oper} {a : Act} {Q : Exit → Act → World → Prop} {t K E b : TypeId} {kvs : List (Lit × Value)}

/-- 'm[k]'. -/
theorem map_look (hg : o.guard = none) (m x : Operand) (hop : o.op = Op.lookup t m x false) (L : Keyed Tryz.prog K) (ht : Tryz.prog.underlying t = some (.map K E)) (hm : a.eval m = .map (some b)) (h : MapAt w K b kvs)
    {z : Value} (hz : (zeroValue E).run Tryz.prog w = .ok z w) {key : Value} {kl : Lit} (hx : a.eval x = key) (hkey : keyOf Tryz.prog K key = some kl)
    (hK : wpList Tryz.prog ops Q rest (a.put o.dst ((kget kvs kl).getD z)) w) : wpList Tryz.prog ops Q (o :: rest) a w := by
  refine wpList_plain hg fun K' hK' => ?_
  obtain ⟨v, ps, hrun, hv⟩ := World.ownsMap.lookup h L ht hz (zd := .held z) (zp := []) rfl hkey
  rw [toD_at] at hv
  simp only [rawE, Option.some.injEq, Prod.mk.injEq, DataW.held.injEq] at hv
  obtain ⟨rfl, _⟩ := hv
  unfold Oper.wp
  simp [execOp, hop, hm, hx, hrun, Result.andThen]
  exact hK' _ _ hK

/-- 'v, ok := m[k]'. -/
theorem map_look_ok (hg : o.guard = none) (m x : Operand) (hop : o.op = Op.lookup t m x true) (L : Keyed Tryz.prog K) (ht : Tryz.prog.underlying t = some (.map K E)) (hm : a.eval m = .map (some b)) (h : MapAt w K b kvs)
    {z : Value} (hz : (zeroValue E).run Tryz.prog w = .ok z w) {key : Value} {kl : Lit} (hx : a.eval x = key) (hkey : keyOf Tryz.prog K key = some kl)
    (hK : wpList Tryz.prog ops Q rest (a.put o.dst (.tuple #[(kget kvs kl).getD z, .bool (kget kvs kl).isSome])) w) : wpList Tryz.prog ops Q (o :: rest) a w := by
  refine wpList_lookup_own_ok w hg m x t hop K E L ht rawE hz (.held z) [] rfl b kvs.length (toD kvs) hm h key kl hx hkey fun v ps hv => ?_
  rw [toD_at] at hv
  simp only [rawE, Option.some.injEq, Prod.mk.injEq, DataW.held.injEq] at hv
  obtain ⟨rfl, _⟩ := hv
  rw [toD_has]
  exact hK

/-- 'm[k] = v'. -/
theorem map_put (hg : o.guard = none) (m x v : Operand) (hop : o.op = Op.mapUpdate t m x v) (L : Keyed Tryz.prog K) (ht : Tryz.prog.underlying t = some (.map K E)) (hm : a.eval m = .map (some b)) (h : MapAt w K b kvs)
    (hn : kvs.length < maxLen) {key val : Value} {kl : Lit} (hx : a.eval x = key) (hv : a.eval v = val) (hkey : keyOf Tryz.prog K key = some kl)
    (hK : ∀ w', MapAt w' K b (kput kvs kl val) → w.grownBy w' (some b) → wpList Tryz.prog ops Q rest (a.put o.dst undef) w') : wpList Tryz.prog ops Q (o :: rest) a w :=
  wpList_mapUpdate_own w hg m x v t hop K E L ht rawE b kvs.length (toD kvs) hm h hn key val kl hx hv hkey (.held val) [] rfl fun w' h1 h2 =>
    hK w' (MapAt.of_own (by rw [← toD_put]; exact h1)) h2

theorem upon_skips {P : Program} {K' : Act → World → Prop} {x : Result Unit} {A : World → Prop} (h : ∃ w', x = .ok () w' ∧ A w') (hK : ∀ w', A w' → K' (a.put o.dst undef) w') :
    Oper.upon P o a K' Q (x.andThen fun _ w' => .ok .skip w') := by
  obtain ⟨w', rfl, r⟩ := h
  exact hK w' r

set_option maxRecDepth 100000 in
/-- 'm[k] = v' inside a region that draws its order. -/
theorem upon_put {K' : Act → World → Prop} (L : Keyed Tryz.prog K) (ht : Tryz.prog.underlying t = some (.map K E)) (h : MapAt w K b kvs)
    (hn : kvs.length < maxLen) {key val : Value} {kl : Lit} (hkey : keyOf Tryz.prog K key = some kl)
    (hK : ∀ w', MapAt w' K b (kput kvs kl val) → w.grownBy w' (some b) → K' (a.put o.dst undef) w') :
    Oper.upon Tryz.prog o a K' Q (((Instr.mapUpdate t (.map (some b)) key val).run Tryz.prog w).andThen fun _ w' => .ok .skip w') :=
  upon_skips (A := fun w' => MapAt w' K b (kput kvs kl val) ∧ w.grownBy w' (some b))
    (have h' : w.ownsMap Tryz.prog K rawE b kvs.length (toD kvs) := h
     have hv : rawE val = some (.held val, []) := rfl
     let ⟨w', hrun, r1, r2⟩ := h'.update L ht hn hkey hv
     ⟨w', hrun, MapAt.of_own (by rw [← toD_put]; exact r1), r2⟩) fun w' h => hK w' h.1 h.2

/-- 'delete(m, k)'. -/
theorem map_del (hg : o.guard = none) (m x : Operand) (hop : o.op = Op.call { callee := Callee.builtin Builtin.delete, args := #[m, x], argTypes := #[t, K] }) (L : Keyed Tryz.prog K) (ht : Tryz.prog.underlying t = some (.map K E))
    (hm : a.eval m = .map (some b)) (h : MapAt w K b kvs) {key : Value} {kl : Lit} (hx : a.eval x = key) (hkey : keyOf Tryz.prog K key = some kl)
    (hK : ∀ w', MapAt w' K b (kdel kvs kl) → w.grownBy w' (some b) → wpList Tryz.prog ops Q rest (a.put o.dst (.tuple #[])) w') : wpList Tryz.prog ops Q (o :: rest) a w :=
  wpList_delete_own w hg m x t K hop E L ht rawE b kvs.length (toD kvs) hm h key kl hx hkey fun w' h1 h2 =>
    hK w' (MapAt.of_own (by rw [← toD_del]; exact h1)) h2.grown

/-- 'len(m)'. -/
theorem map_len (hg : o.guard = none) (m : Operand) (hop : o.op = Op.call { callee := Callee.builtin Builtin.len, args := #[m], argTypes := #[t] }) (ht : Tryz.prog.underlying t = some (.map K E))
    (hm : a.eval m = .map (some b)) (h : MapAt w K b kvs) (hK : wpList Tryz.prog ops Q rest (a.put o.dst (.int .i64 kvs.length)) w) : wpList Tryz.prog ops Q (o :: rest) a w := by
  refine wpList_plain hg fun K' hK' => ?_
  unfold Oper.wp
  simp [execOp, hop, resolve, invoke, builtin, hm, h.run_len ht o.type, Result.andThen]
  exact hK' _ _ hK

/-- 'clear(m)'. -/
theorem map_clear (hg : o.guard = none) (m : Operand) (hop : o.op = Op.call { callee := Callee.builtin Builtin.clear, args := #[m], argTypes := #[t] }) (ht : Tryz.prog.underlying t = some (.map K E))
    (hm : a.eval m = .map (some b)) (h : MapAt w K b kvs) (hK : ∀ w', MapAt w' K b [] → w.grownBy w' (some b) → wpList Tryz.prog ops Q rest (a.put o.dst (.tuple #[])) w') : wpList Tryz.prog ops Q (o :: rest) a w := by
  refine wpList_plain hg fun K' hK' => ?_
  obtain ⟨w', hrun, h1, h2⟩ := h.run_clear ht o.type
  unfold Oper.wp
  simp [execOp, hop, resolve, invoke, builtin, hm, hrun, Result.andThen]
  exact hK' _ _ (hK _ h1 h2)

end
/-- Two maps with the same keys, their values related. -/
abbrev KRel {α β : Type} (R : α → β → Prop) (ms : List (Lit × α)) (ds : List (Lit × β)) : Prop := All2 (fun p q => p.1 = q.1 ∧ R p.2 q.2) ms ds

section
variable {α β : Type} {R : α → β → Prop}

theorem KRel.kget {ms : List (Lit × α)} {ds : List (Lit × β)} (h : KRel R ms ds) (k : Lit) : (kget ms k = none ∧ kget ds k = none) ∨ ∃ v b, kget ms k = some v ∧ kget ds k = some b ∧ R v b := by
  induction ms generalizing ds with
  | nil =>
    have : ds = [] := List.eq_nil_of_length_eq_zero (by have := h.1; simpa using this.symm)
    subst this; exact .inl ⟨rfl, rfl⟩
  | cons p ms ih =>
    obtain ⟨q, ds', rfl, ⟨h1, h2⟩, h3⟩ := h.uncons
    unfold YtbhjdddiihfafaaGreatDoor.kget
    by_cases e : p.1.sameKey k = true
    · right
      refine ⟨p.2, q.2, ?_, ?_, h2⟩
      · simp [e]
      · simp [← h1, e]
    · have := ih h3
      simp only [List.find?_cons, ← h1]
      rw [show p.1.sameKey k = false by simpa using e]
      exact this

theorem KRel.kdel {ms : List (Lit × α)} {ds : List (Lit × β)} (h : KRel R ms ds) (k : Lit) : KRel R (kdel ms k) (kdel ds k) := by
  induction ms generalizing ds with
  | nil =>
    have : ds = [] := List.eq_nil_of_length_eq_zero (by have := h.1; simpa using this.symm)
    subst this; exact All2.nil
  | cons p ms ih =>
    obtain ⟨q, ds', rfl, ⟨h1, h2⟩, h3⟩ := h.uncons
    unfold YtbhjdddiihfafaaGreatDoor.kdel
    simp only [List.filter_cons, ← h1]
    split
    · exact (ih h3).cons ⟨h1, h2⟩
    · exact ih h3

theorem KRel.kins {ms : List (Lit × α)} {ds : List (Lit × β)} (h : KRel R ms ds) (k : Lit) {v : α} {b : β} (hr : R v b) : KRel R (kins (k, v) ms) (kins (k, b) ds) := by
  induction ms generalizing ds with
  | nil =>
    have : ds = [] := List.eq_nil_of_length_eq_zero (by have := h.1; simpa using this.symm)
    subst this; exact All2.nil.cons ⟨rfl, hr⟩
  | cons p ms ih =>
    obtain ⟨q, ds', rfl, ⟨h1, h2⟩, h3⟩ := h.uncons
    simp only [YtbhjdddiihfafaaGreatDoor.kins, ← h1]
    split
    · exact (h3.cons ⟨h1, h2⟩).cons ⟨rfl, hr⟩
    · exact (ih h3).cons ⟨h1, h2⟩

theorem KRel.kput {ms : List (Lit × α)} {ds : List (Lit × β)} (h : KRel R ms ds) (k : Lit) {v : α} {b : β} (hr : R v b) : KRel R (kput ms k v) (kput ds k b) :=
  (h.kdel k).kins k hr

end

theorem int_key (i : Int) (h1 : -9223372036854775808 ≤ i) (h2 : i ≤ 9223372036854775807) : keyOf Tryz.prog 3 (.int .i64 i) = some (.int .i64 i) :=
  keyOf_int_mk (by kernel_rfl) (WalkArith.wf_i64 (by omega))

theorem int_keys : Keyed Tryz.prog 3 := int_keyed (q := .i64) (by kernel_rfl)

theorem str_keys : Keyed Tryz.prog 9 := string_keyed (by kernel_rfl)

theorem str_key (s : ByteArray) (h : s.size ≤ maxLen) : keyOf Tryz.prog 9 (.string s) = some (.string s.data.toList) := Go.WideMaps.keyOf_string_mk (by kernel_rfl) h

/-! ### maps in order -/
/-- The keys rise. -/
abbrev Rise {α : Type} (l : List (Lit × α)) : Prop := l.Pairwise fun p q => p.1.before q.1 = true

theorem rise_few {α : Type} (n : Nat) : ∀ (l : List (Lit × α)) (m : Nat), Rise l → (∀ p ∈ l, ∃ i : Nat, p.1 = .int .i64 i ∧ m ≤ i ∧ i < n) → l.length ≤ n - m
  | [], _, _, _ => by simp
  | x :: r, m, h, hk => by
    obtain ⟨h1, h2⟩ := List.pairwise_cons.1 h
    obtain ⟨i, hi, hm, hn⟩ := hk x (by simp)
    have := rise_few n r (i + 1) h2 (fun p hp => by
      obtain ⟨j, hj, _, hjn⟩ := hk p (by simp [hp])
      have hb := h1 p hp
      rw [hi, hj] at hb
      simp [Lit.before] at hb
      exact ⟨j, hj, by omega, hjn⟩)
    simp; omega

theorem mem_kins {α : Type} {x p : Lit × α} : ∀ {l : List (Lit × α)}, p ∈ kins x l ↔ p = x ∨ p ∈ l
  | [] => by simp [kins]
  | y :: r => by
    unfold kins
    split
    · simp
    · simp [mem_kins (l := r)]
      constructor
      · rintro (h | h | h) <;> simp [h]
      · rintro (h | h | h) <;> simp [h]

theorem mem_kput {α : Type} {l : List (Lit × α)} {k : Lit} {v : α} {p : Lit × α} (h : p ∈ kput l k v) : p = (k, v) ∨ p ∈ l := by
  rcases mem_kins.1 h with h | h
  · exact .inl h
  · exact .inr (List.mem_filter.1 h).1

/-- Among keys of one kind the order is whole. -/
theorem rise_kput {α : Type} {Kd : Lit → Prop} (O : Maps.OneKind Kd) {l : List (Lit × α)} {k : Lit} {v : α} (hk : Kd k) (hl : ∀ p ∈ l, Kd p.1) (h : Rise l) : Rise (kput l k v) := by
  have h2 : Rise (kdel l k) := h.filter _
  have hne : ∀ p ∈ kdel l k, p.1 ≠ k := fun p hp e => by
    have := (List.mem_filter.1 hp).2
    rw [e, WideAt.sameKey_self (O.key hk)] at this; cases this
  have hkd : ∀ p ∈ kdel l k, Kd p.1 := fun p hp => hl p (List.mem_filter.1 hp).1
  unfold kput
  generalize kdel l k = m at h2 hne hkd
  induction m with
  | nil => simp [kins]
  | cons y r ih =>
    obtain ⟨g1, g2⟩ := List.pairwise_cons.1 h2
    unfold kins
    split
    · rename_i hb
      refine List.pairwise_cons.2 ⟨fun q hq => ?_, h2⟩
      rcases List.mem_cons.1 hq with rfl | hq
      · exact hb
      · exact WideShapes.before_trans hb (g1 q hq)
    · rename_i hb
      have hyx : y.1.before k = true := by
        rcases O.total hk (hkd y (by simp)) (hne y (by simp)).symm with h' | h'
        · exact absurd h' hb
        · exact h'
      refine List.pairwise_cons.2 ⟨fun q hq => ?_, ih g2 (fun p hp => hne p (by simp [hp])) (fun p hp => hkd p (by simp [hp]))⟩
      rcases mem_kins.1 hq with rfl | hq
      · exact hyx
      · exact g1 q hq

theorem rise_kdel {α : Type} {l : List (Lit × α)} (h : Rise l) (k : Lit) : Rise (kdel l k) := h.filter _

theorem ints_one : Maps.OneKind (fun l => ∃ i : Nat, l = .int .i64 i) := by
  refine ⟨fun {a} ⟨i, h⟩ => by subst h; trivial, fun {a b} ⟨i, h1⟩ ⟨j, h2⟩ hne => ?_⟩
  subst h1; subst h2
  simp only [Lit.before, decide_eq_true_eq]
  have : i ≠ j := fun e => hne (by rw [e])
  omega

end Go.Proofs.YtbhjdddiihfafaaGreatDoor
