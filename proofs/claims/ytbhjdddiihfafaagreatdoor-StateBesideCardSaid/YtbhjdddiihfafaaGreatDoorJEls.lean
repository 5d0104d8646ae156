/- Words that all texts of this seat share: what a call keeps of memory ('Fr'), how a slice reads ('Sl'), bytes. Plain Lean over the model; no function of the program. -/
import Derived.WalkKit
import Derived.Lib.Hide
import Derived.Lib.AppendStr
import Derived.Deep.QuietTactic
import Derived.BigQuiet
import Derived.Deep.DeepFit
import Derived.WalkSpells
import Derived.Test.YtbhjdddiihfafaaGreatDoorProg
import Derived.Laws.AppendOwnNone
set_option linter.unusedVariables false
set_option linter.unusedSimpArgs false
namespace Go.Proofs.YtbhjdddiihfafaaGreatDoor
open Go.RowKit

/-- A byte as a value. -/
def u8 (b : UInt8) : Value := .int .u8 b.toNat

/-- From world w to world w' the streams stay, no block goes, and each block of which K speaks stays as it was. -/
structure Fr (K : Nat → Obj → Prop) (w w' : World) : Prop where
  os : w'.os = w.os
  tape : w'.tape = w.tape
  output : w'.output = w.output
  size : w.heap.size ≤ w'.heap.size
  keep : ∀ k o, w.heap[k]? = some o → K k o → w'.heap[k]? = some o

section
variable {K K' : Nat → Obj → Prop} {a b c : World}

theorem Fr.refl (K : Nat → Obj → Prop) (w : World) : Fr K w w := ⟨rfl, rfl, rfl, Nat.le_refl _, fun _ _ h _ => h⟩

theorem Fr.trans (h : Fr K a b) (k : Fr K b c) : Fr K a c :=
  ⟨k.os.trans h.os, k.tape.trans h.tape, k.output.trans h.output, Nat.le_trans h.size k.size, fun i o hi ho => k.keep i o (h.keep i o hi ho) ho⟩

theorem Fr.mono (h : Fr K a b) (hk : ∀ i o, K' i o → K i o) : Fr K' a b := ⟨h.os, h.tape, h.output, h.size, fun i o hi ho => h.keep i o hi (hk i o ho)⟩

/-- .. of what stood in the first world alone. -/
theorem Fr.mono' (h : Fr K a b) (hk : ∀ i o, a.heap[i]? = some o → K' i o → K i o) : Fr K' a b := ⟨h.os, h.tape, h.output, h.size, fun i o hi ho => h.keep i o hi (hk i o hi ho)⟩

theorem Fr.drew (h : Fr K a b) : Fr K a b.drew := ⟨h.os, h.tape, h.output, h.size, h.keep⟩

theorem Fr.drewN (h : Fr K a b) (n : Nat) : Fr K a (b.drewN n) := ⟨h.os, h.tape, h.output, h.size, h.keep⟩

theorem Fr.alloc (h : Fr K a b) (o : Obj) : Fr K a (b.alloc o) :=
  ⟨h.os, h.tape, h.output, Nat.le_trans h.size (by simp), fun k x hx hk => by
    have h1 := h.keep k x hx hk
    have hlt : k < b.heap.size := (Array.getElem?_eq_some_iff.1 h1).1
    rw [Below.heap_alloc _ _ _ hlt]; exact h1⟩

theorem Fr.setCell (h : Fr K a b) {p : Addr} (hp : ∀ o, a.heap[p.block]? = some o → ¬ K p.block o) (u : Value) : Fr K a (b.setCell p u) :=
  ⟨h.os, h.tape, h.output, by simpa [World.setCell] using h.size, fun k x hx hk => by
    have h1 := h.keep k x hx hk
    by_cases e : k = p.block
    · subst e; exact absurd hk (hp x hx)
    · rw [Below.heap_setCell _ _ _ _ e]; exact h1⟩

theorem Fr.grown {row : Option Nat} (h : Fr K a b) (hg : b.grownBy c row) (hr : ∀ k o, row = some k → a.heap[k]? = some o → ¬ K k o) : Fr K a c :=
  ⟨hg.os.trans h.os, hg.tape.trans h.tape, hg.output.trans h.output, Nat.le_trans h.size hg.size, fun k x hx hk => by
    have h1 := h.keep k x hx hk
    have hlt : k < b.heap.size := (Array.getElem?_eq_some_iff.1 h1).1
    have hne : some k ≠ row := fun e => hr k x e.symm hx hk
    rw [hg.block k hlt hne]; exact h1⟩

theorem Fr.below {B : Nat} (h : Fr (fun k _ => k < B) a b) (hB : B ≤ a.heap.size) : Below B a b :=
  ⟨h.os, h.tape, h.output, h.size, fun k hk => by
    have hlt : k < a.heap.size := by omega
    have e : a.heap[k]? = some a.heap[k] := Array.getElem?_eq_getElem hlt
    rw [e]; exact h.keep k _ e hk⟩

theorem Fr.of_below {B : Nat} (h : Below B a b) : Fr (fun k _ => k < B) a b :=
  ⟨h.os, h.tape, h.output, h.size, fun k o ho hk => by rw [h.block k hk]; exact ho⟩

end

theorem lt_of_heap {w : World} {b : Nat} {o : Obj} (h : w.heap[b]? = some o) : b < w.heap.size := (Array.getElem?_eq_some_iff.1 h).1

theorem cell_of_heap {w : World} {b : Nat} {c : Array Value} {t : TypeId} {f : Nat × Nat} (h : w.heap[b]? = some (.cells c t f)) (o : Nat) : w.cell? ⟨b, o, none⟩ = c[o]? := by
  simp [World.cell?, h]

theorem free_of_heap {w : World} {b : Nat} {c : Array Value} {t : TypeId} (h : w.heap[b]? = some (.cells c t (0, 0))) (o : Nat) : w.frozen? ⟨b, o, none⟩ = false := by
  simp [World.frozen?, h]

/-- THE SLICE '.slice ao n cap', of elements of type E, each of 'size' cells, reads as the cells xs, in a block below T. (Of an empty one nothing is asked of its address.) -/
def Sl (w : World) (T E size : Nat) (ao : Option Addr) (n cap : Nat) (xs : List Value) : Prop :=
  xs.length = n * size ∧ n ≤ cap ∧ cap ≤ maxLen ∧ (ao = none → cap = 0) ∧
    (n = 0 ∨ ∃ b off c f, ao = some ⟨b, off, none⟩ ∧ b < T ∧ w.heap[b]? = some (.cells c E f) ∧ ∀ j, j < n * size → c[off + j]? = xs[j]?)

/-- The type of a row's elements is none of these (what is no row of cells stays). -/
def Obj.out (ts : List TypeId) : Obj → Prop
  | .cells _ t _ => t ∉ ts
  | _ => True

/-- Blocks below B, and rows of none of these types, stay. -/
def KB (B : Nat) (ts : List TypeId) : Nat → Obj → Prop := fun k o => k < B ∨ Obj.out ts o

section
variable {w w0 w1 : World} {B E size n b : Nat} {ts : List TypeId} {v : Value} {xs : List Value} {c : Array Value} {t : TypeId} {f : Nat × Nat} {x : Obj}

theorem KB.row (hfr : Fr (KB B ts) w0 w) (hown : w.ownsRow B E size v n xs) (hE : E ∈ ts) : ∀ k o, v.ownBlock = some k → w0.heap[k]? = some o → ¬ KB B ts k o := by
  intro k o hk ho hK
  have h1 := hfr.keep k o ho hK
  obtain ⟨_, h2⟩ := hown
  rcases h2 with ⟨rfl, _⟩ | ⟨g, cap, cur, rfl, hg, hh, _⟩
  · simp [Value.ownBlock] at hk
  · simp [Value.ownBlock] at hk
    subst hk
    rw [hh] at h1
    cases h1
    rcases hK with hK | hK
    · omega
    · exact hK hE

theorem KB.blk (hfr : Fr (KB B ts) w0 w) (hb : w.heap[b]? = some (.cells c t f)) (hB : B ≤ b) (ht : t ∈ ts) : ∀ o, w0.heap[b]? = some o → ¬ KB B ts b o := by
  intro o ho hK
  have h1 := hfr.keep b o ho hK
  rw [hb] at h1
  cases h1
  rcases hK with hK | hK
  · omega
  · exact hK ht

theorem row_ne (hown : w.ownsRow B E size v n xs) (hb : w.heap[b]? = some (.cells c t f)) (hne : t ≠ E) : some b ≠ v.ownBlock := by
  obtain ⟨_, h2⟩ := hown
  rcases h2 with ⟨rfl, _⟩ | ⟨g, cap, cur, rfl, hg, hh, _⟩
  · simp [Value.ownBlock]
  · simp [Value.ownBlock]
    intro e; subst e
    rw [hh] at hb; cases hb; exact hne rfl

theorem own_shape (hown : w.ownsRow B E size v n xs) : ∃ ao cap, v = .slice ao n cap := by
  obtain ⟨_, h2⟩ := hown
  rcases h2 with ⟨rfl, rfl⟩ | ⟨g, cap, cur, rfl, _⟩ <;> exact ⟨_, _, rfl⟩

theorem heap_alloc_keep (hb : w.heap[b]? = some x) (o : Obj) : (w.alloc o).heap[b]? = some x := by
  rw [Below.heap_alloc _ _ _ (lt_of_heap hb)]; exact hb

theorem grown_keep {o : Obj} {row : Option Nat} (hgr : (w.alloc o).grownBy w1 row) (hb : w.heap[b]? = some x) (hne : some b ≠ row) : w1.heap[b]? = some x := by
  have hlt := lt_of_heap hb
  rw [hgr.block b (by simp; omega) hne]; exact heap_alloc_keep hb o

end

section
variable {w w' w1 : World} {T T' B E size n cap : Nat} {ts : List TypeId} {ao : Option Addr} {xs : List Value}

theorem Sl.len (h : Sl w T E size ao n cap xs) : xs.length = n * size := h.1

theorem Sl.mono (h : Sl w T E size ao n cap xs) (hT : T ≤ T') : Sl w T' E size ao n cap xs := by
  obtain ⟨h1, h2, h3, h4, h5⟩ := h
  refine ⟨h1, h2, h3, h4, ?_⟩
  rcases h5 with h5 | ⟨b, off, c, f, e, hb, r⟩
  · exact .inl h5
  · exact .inr ⟨b, off, c, f, e, by omega, r⟩

/-- A slice's cells, behind a call that keeps its block. -/
theorem Sl.keep (h : Sl w T E size ao n cap xs) (hk : ∀ b c f, b < T → w.heap[b]? = some (.cells c E f) → w'.heap[b]? = some (.cells c E f)) : Sl w' T E size ao n cap xs := by
  obtain ⟨h1, h2, h3, h4, h5⟩ := h
  refine ⟨h1, h2, h3, h4, ?_⟩
  rcases h5 with h5 | ⟨b, off, c, f, e, hb, r, s⟩
  · exact .inl h5
  · exact .inr ⟨b, off, c, f, e, hb, hk b c f hb r, s⟩

theorem Sl.fr (h : Sl w T E size ao n cap xs) (hfr : Fr (KB B ts) w w') (hk : T ≤ B ∨ E ∉ ts) : Sl w' T E size ao n cap xs :=
  h.keep fun b c f hb r => hfr.keep b _ r (by rcases hk with hk | hk; exact .inl (by omega); exact .inr hk)

theorem Sl.alloc (h : Sl w T E size ao n cap xs) (o : Obj) : Sl (w.alloc o) T E size ao n cap xs :=
  h.keep fun _ _ _ _ r => heap_alloc_keep r o

theorem Sl.at (h : Sl w T E size ao n cap xs) (hn : 0 < n) : ∃ b off, ao = some ⟨b, off, none⟩ ∧ b < T ∧ ∀ j, j < n * size → w.cell? ⟨b, off + j, none⟩ = xs[j]? := by
  obtain ⟨_, _, _, _, h5⟩ := h
  rcases h5 with h5 | ⟨b, off, c, f, e, hb, r, s⟩
  · omega
  · exact ⟨b, off, e, hb, fun j hj => by rw [cell_of_heap r]; exact s j hj⟩

theorem Sl.nil (w : World) (T E size : Nat) : Sl w T E size none 0 0 [] := ⟨by simp, by simp, by simp [maxLen], fun _ => rfl, .inl rfl⟩

/-- What was laid just now. -/
theorem Sl.new (w : World) (news : List Value) (E size n cap : Nat) (hl : news.length = n * size) (hn : n ≤ cap) (hc : cap ≤ maxLen) (f : Nat × Nat) :
    Sl (w.alloc (.cells news.toArray E f)) (w.heap.size + 1) E size (some ⟨w.heap.size, 0, none⟩) n cap news :=
  ⟨hl, hn, hc, by simp, .inr ⟨_, _, _, _, rfl, by omega, heap_alloc_new _ _, by intro j _; simp⟩⟩

/-- .. its block's number as the walk writes it. -/
theorem Sl.newAt (w : World) (H : Nat) (news : List Value) (E size n cap : Nat) (hl : news.length = n * size) (hn : n ≤ cap) (hc : cap ≤ maxLen) (f : Nat × Nat) (hH : w.heap.size = H) :
    Sl (w.alloc (.cells news.toArray E f)) (H + 1) E size (some ⟨H, 0, none⟩) n cap news := by subst hH; exact Sl.new w news E size n cap hl hn hc f

/-- What the call itself owns. -/
theorem Sl.of_own (h : w.ownsRow B E size (.slice ao n cap) n xs) : Sl w w.heap.size E size ao n cap xs := by
  obtain ⟨h1, h2⟩ := h
  rcases h2 with ⟨h2, rfl⟩ | ⟨g, cap', cur, e, hg, hh, r1, r2, r3, r4⟩
  · cases h2; exact ⟨h1, by simp, by simp [maxLen], fun _ => rfl, .inl rfl⟩
  · cases e
    refine ⟨h1, r1, r2, by simp, .inr ⟨g, 0, cur, _, rfl, lt_of_heap hh, hh, fun j hj => ?_⟩⟩
    rw [← r4, List.getElem?_take_of_lt hj]; simp

end

theorem heap_set {w : World} {b : Nat} {c : Array Value} {t : TypeId} {f : Nat × Nat} (h : w.heap[b]? = some (.cells c t f)) (o : Nat) (v : Value) :
    (w.setCell ⟨b, o, none⟩ v).heap[b]? = some (.cells (c.setIfInBounds o v) t f) := by
  simp [World.setCell, Array.getElem?_modify, h]

theorem heap_set_ne {w : World} {b : Nat} {x : Obj} (h : w.heap[b]? = some x) {p : Addr} (hne : b ≠ p.block) (v : Value) : (w.setCell p v).heap[b]? = some x := by
  rw [Below.heap_setCell _ _ _ _ hne]; exact h

theorem grown_same {w w1 : World} {b : Nat} {x : Obj} {row : Option Nat} (hg : w.grownBy w1 row) (hb : w.heap[b]? = some x) (hne : some b ≠ row) : w1.heap[b]? = some x := by
  rw [hg.block b (lt_of_heap hb) hne]; exact hb

theorem own_fr {w w' : World} {B E size n : Nat} {v : Value} {xs : List Value} {K : Nat → Obj → Prop} (h : w.ownsRow B E size v n xs) (hfr : Fr K w w') (hk : ∀ g c f, v.ownBlock = some g → w.heap[g]? = some (.cells c E f) → K g (.cells c E f)) : w'.ownsRow B E size v n xs := by
  obtain ⟨h1, h2⟩ := h
  refine ⟨h1, ?_⟩
  rcases h2 with h2 | ⟨g, cap, cur, rfl, hg, hh, r⟩
  · exact .inl h2
  · exact .inr ⟨g, cap, cur, rfl, hg, hfr.keep _ _ hh (hk _ _ _ rfl hh), r⟩

/-- Two rows of unlike types are two blocks. -/
theorem ne_of_types {w : World} {b b' : Nat} {c c' : Array Value} {t t' : TypeId} {f f' : Nat × Nat} (h : w.heap[b]? = some (.cells c t f)) (h' : w.heap[b']? = some (.cells c' t' f')) (hne : t ≠ t') : b ≠ b' := by
  rintro rfl
  rw [h] at h'
  simp only [Option.some.injEq, Obj.cells.injEq] at h'
  exact hne h'.2.1

/-- Two lists, item by item. -/
def All2 {α β : Type} (R : α → β → Prop) (xs : List α) (ys : List β) : Prop := xs.length = ys.length ∧ ∀ (i : Nat) x y, xs[i]? = some x → ys[i]? = some y → R x y

section
variable {α β : Type} {R R' : α → β → Prop} {xs : List α} {ys : List β}

theorem All2.nil : All2 R [] [] := ⟨rfl, by simp⟩

theorem All2.mono (h : All2 R xs ys) (hr : ∀ x y, x ∈ xs → y ∈ ys → R x y → R' x y) : All2 R' xs ys :=
  ⟨h.1, fun i x y hx hy => hr x y (List.mem_of_getElem? hx) (List.mem_of_getElem? hy) (h.2 i x y hx hy)⟩

theorem All2.get (h : All2 R xs ys) {i : Nat} {y : β} (hy : ys[i]? = some y) : ∃ x, xs[i]? = some x ∧ R x y := by
  have hi : i < xs.length := by rw [h.1]; exact (List.getElem?_eq_some_iff.1 hy).1
  exact ⟨xs[i], List.getElem?_eq_getElem hi, h.2 i _ _ (List.getElem?_eq_getElem hi) hy⟩

theorem All2.get' (h : All2 R xs ys) {i : Nat} {x : α} (hx : xs[i]? = some x) : ∃ y, ys[i]? = some y ∧ R x y := by
  have hi : i < ys.length := by rw [← h.1]; exact (List.getElem?_eq_some_iff.1 hx).1
  exact ⟨ys[i], List.getElem?_eq_getElem hi, h.2 i _ _ hx (List.getElem?_eq_getElem hi)⟩

theorem All2.cons {x : α} {y : β} (h1 : R x y) (h : All2 R xs ys) : All2 R (x :: xs) (y :: ys) := by
  refine ⟨by simp [h.1], fun i a b ha hb => ?_⟩
  cases i with
  | zero => simp at ha hb; subst ha; subst hb; exact h1
  | succ i => simp at ha hb; exact h.2 i a b ha hb

theorem All2.uncons {x : α} (h : All2 R (x :: xs) ys) : ∃ y r, ys = y :: r ∧ R x y ∧ All2 R xs r := by
  cases ys with
  | nil => have := h.1; simp at this
  | cons y r => exact ⟨y, r, rfl, h.2 0 x y rfl rfl, by have := h.1; simpa using this, fun i a b ha hb => h.2 (i + 1) a b (by simpa using ha) (by simpa using hb)⟩

theorem All2.append {xs' : List α} {ys' : List β} (h : All2 R xs ys) (h' : All2 R xs' ys') : All2 R (xs ++ xs') (ys ++ ys') := by
  induction xs generalizing ys with
  | nil =>
    have : ys = [] := List.eq_nil_of_length_eq_zero (by have := h.1; simpa using this.symm)
    subst this; simpa using h'
  | cons x xs ih =>
    obtain ⟨y, r, rfl, h1, h2⟩ := h.uncons
    exact (ih h2).cons h1

theorem All2.set (h : All2 R xs ys) (i : Nat) {x : α} {y : β} (hr : R x y) : All2 R (xs.set i x) (ys.set i y) := by
  refine ⟨by simp [h.1], fun j a b ha hb => ?_⟩
  rw [List.getElem?_set] at ha hb
  rw [h.1] at ha
  by_cases e : i = j
  · rw [if_pos e] at ha hb
    split at ha
    · rename_i hl; rw [if_pos hl] at hb; cases ha; cases hb; exact hr
    · cases ha
  · rw [if_neg e] at ha hb
    exact h.2 j a b ha hb

end

end Go.Proofs.YtbhjdddiihfafaaGreatDoor
/- Appends, for this program's element types: onto a row that the call owns, from whatever slice. -/
namespace Go.Proofs.YtbhjdddiihfafaaGreatDoor
open Go.RowKit

/-- What the laws on growth ask of a slice type t over elements of type e. -/
structure El (t e : TypeId) (z : Value) (size bytes : Nat) : Prop where
  und : Tryz.prog.underlying t = some (.slice e)
  info : (Tryz.prog.info? e).map (fun i => (i.zero, i.size, i.bytes)) = some (some z, size, bytes)
  zs : z.cells.size = size
  pos : 0 < size
  bpos : 0 < bytes

theorem elU8 : El 41 5 (.int .u8 0) 1 1 := ⟨by kernel_rfl, by kernel_rfl, rfl, by decide, by decide⟩
theorem elU64 : El 231 130 (.int .u64 0) 1 8 := ⟨by kernel_rfl, by kernel_rfl, rfl, by decide, by decide⟩
theorem elStr : El 43 9 (.string ByteArray.empty) 1 16 := ⟨by kernel_rfl, by kernel_rfl, rfl, by decide, by decide⟩
theorem elBytes : El 69 41 (.slice none 0 0) 1 24 := ⟨by kernel_rfl, by kernel_rfl, rfl, by decide, by decide⟩

section
variable {w : World} {ops : Array Oper} {rest : List Oper} {o : Oper} {a : Act} {Q : Exit → Act → World → Prop} {t e : TypeId} {z : Value} {size bytes : Nat}

/-- 'append(s, x...)': s the call's own, x whatever slice. -/
theorem wp_app_sl {K' : Act → World → Prop} (L : El t e z size bytes) (s x : Operand) (ho : o.op = .call { callee := .builtin .append, args := #[s, x], argTypes := #[t, t] })
    (B : Nat) (v : Value) (n : Nat) (xs : List Value) (hs : a.eval s = v) (hown : w.ownsRow B e size v n xs)
    {T e' : Nat} {ao : Option Addr} {m c : Nat} {news : List Value} (hx : a.eval x = .slice ao m c) (hsl : Sl w T e' size ao m c news) (h1 : ∀ u ∈ news, u.oneCell' = true)
    (hbytes : (n + m) * bytes ≤ 140737488355328) (hbase : B ≤ w.heap.size)
    (h : ∀ v' w', w'.ownsRow B e size v' (n + m) (xs ++ news) → w.grownBy w' v.ownBlock → K' (a.put o.dst v') w') : o.wp Tryz.prog a w K' Q := by
  obtain ⟨i, hi, hz0, hz1, hz2⟩ := info_parts L.info
  have hnm : n + m ≤ 140737488355328 := by
    have := L.bpos
    exact Nat.le_trans (Nat.le_mul_of_pos_right _ this) hbytes
  obtain ⟨g1, g2, g3, g4, g5⟩ := hsl
  cases ao with
  | none =>
    have := g4 rfl
    obtain rfl : c = 0 := this
    obtain rfl : m = 0 := by omega
    obtain rfl : news = [] := List.eq_nil_of_length_eq_zero (by simpa using g1)
    have hrun := run_append_owned_none (P := Tryz.prog) (w := w) B t o.type e i size L.und hi v n xs hown
    unfold Oper.wp
    simp [execOp, ho, resolve, invoke, builtin, hs, hx, hrun, Result.andThen]
    exact h v w (by simpa using hown) ⟨rfl, rfl, rfl, Nat.le_refl _, fun _ _ _ => rfl⟩
  | some ad =>
    refine wp_append_own _ s x t ho B e i z size bytes L.und hi hz0 hz1 hz2 L.zs L.pos v n xs hs hown ad m c news hx g1 ?_ h1 (by unfold maxLen; omega) hbytes hbase ?_
    · rcases g5 with rfl | ⟨b, off, c', f, e', hb, r, q⟩
      · obtain rfl : news = [] := List.eq_nil_of_length_eq_zero (by simpa using g1)
        intro j u hj; simp at hj
      · cases e'
        intro j u hj
        have hlt : j < m * size := by rw [← g1]; exact (List.getElem?_eq_some_iff.1 hj).1
        have : w.cell? ⟨b, off + j, none⟩ = some u := by rw [cell_of_heap r, q j hlt]; exact hj
        by_cases h0 : j = 0
        · subst h0; simpa [Addr.add] using this
        · simpa [Addr.add, h0] using this
    · exact fun v' w' h2 h3 _ => h v' w' h2 h3

theorem app_sl (L : El t e z size bytes) (hgd : o.guard = none) (s x : Operand) (ho : o.op = .call { callee := .builtin .append, args := #[s, x], argTypes := #[t, t] })
    (B : Nat) (v : Value) (n : Nat) (xs : List Value) (hs : a.eval s = v) (hown : w.ownsRow B e size v n xs)
    {T e' : Nat} {ao : Option Addr} {m c : Nat} {news : List Value} (hx : a.eval x = .slice ao m c) (hsl : Sl w T e' size ao m c news) (h1 : ∀ u ∈ news, u.oneCell' = true)
    (hbytes : (n + m) * bytes ≤ 140737488355328) (hbase : B ≤ w.heap.size)
    (h : ∀ v' w', w'.ownsRow B e size v' (n + m) (xs ++ news) → w.grownBy w' v.ownBlock → wpList Tryz.prog ops Q rest (a.put o.dst v') w') : wpList Tryz.prog ops Q (o :: rest) a w :=
  wpList_plain hgd fun _ hK => wp_app_sl L s x ho B v n xs hs hown hx hsl h1 hbytes hbase fun v' w' h2 h3 => hK _ _ (h v' w' h2 h3)

/-- .. inside a region that draws its order. -/
theorem step_app {K' : Act → World → Prop} {E' : Prop} (L : El t e z size bytes) (hgd : o.guard = none) (s x : Operand) (ho : o.op = .call { callee := .builtin .append, args := #[s, x], argTypes := #[t, t] })
    (B : Nat) (v : Value) (n : Nat) (xs : List Value) (hs : a.eval s = v) (hown : w.ownsRow B e size v n xs)
    {T e' : Nat} {ao : Option Addr} {m c : Nat} {news : List Value} (hx : a.eval x = .slice ao m c) (hsl : Sl w T e' size ao m c news) (h1 : ∀ u ∈ news, u.oneCell' = true)
    (hbytes : (n + m) * bytes ≤ 140737488355328) (hbase : B ≤ w.heap.size)
    (h : ∀ v' w', w'.ownsRow B e size v' (n + m) (xs ++ news) → w.grownBy w' v.ownBlock → K' (a.put o.dst v') w') :
    if Region.wanted o (yielded ops a.tmps) = true then Oper.wp Tryz.prog o a w K' Q else E' := by
  rw [if_pos (by simp [Region.wanted, hgd])]
  exact wp_app_sl L s x ho B v n xs hs hown hx hsl h1 hbytes hbase h

theorem El.elem (L : El t e z size bytes) : Tryz.prog.elem t = e := by simp [Program.elem, L.und]

theorem El.sizeOf (L : El t e z size bytes) (w : World) : (sizeOf e).run Tryz.prog w = .ok size w := by
  obtain ⟨i, hi, _, hz1, _⟩ := info_parts L.info
  simp [Go.sizeOf, typeInfo, hi, hz1]

/-- Where a cut slice reads what the whole one read there. -/
theorem Sl.cut {T ao n cap xs} (h : Sl w T e size ao n cap xs) (i j : Nat) (hij : i ≤ j) (hj : j ≤ n) :
    Sl w T e size (if cap = i then ao else ao.map (·.add (i * size))) (j - i) (cap - i) ((xs.drop (i * size)).take ((j - i) * size)) := by
  obtain ⟨h1, h2, h3, h4, h5⟩ := h
  have hm : i * size + (j - i) * size ≤ n * size := by rw [← Nat.add_mul]; exact Nat.mul_le_mul_right _ (by omega)
  refine ⟨by simp; omega, by omega, by omega, ?_, ?_⟩
  · intro he
    split at he
    · omega
    · cases ao with
      | none => have := h4 rfl; omega
      | some a => simp at he
  · by_cases hc : cap = i
    · left; omega
    · by_cases hz : j - i = 0
      · exact .inl hz
      · rcases h5 with h5 | ⟨b, off, c, f, rfl, hb, r, s⟩
        · omega
        · right
          refine ⟨b, off + i * size, c, f, ?_, hb, r, ?_⟩
          · simp only [hc, if_false, Option.map_some, Addr.add]
            split
            · rename_i h0; simp [h0]
            · rfl
          · intro q hq
            have h6 : i * size + q < n * size := by omega
            have := s (i * size + q) h6
            rw [Nat.add_assoc, this, List.getElem?_take_of_lt hq, List.getElem?_drop]

/-- 'x[i:]'. -/
theorem slice_l (L : El t e z size bytes) (hgd : o.guard = none) (x lo : Operand) (ho : o.op = .slice t x (some lo) none none) {T ao n cap xs} (hx : a.eval x = .slice ao n cap)
    {k : IntKind} {q : Int} (hl : a.eval lo = .int k q) (i : Nat) (hq : q = (i : Int)) (hi : i ≤ n) (hsl : Sl w T e size ao n cap xs)
    (h : ∀ ao', Sl w T e size ao' (n - i) (cap - i) (xs.drop (i * size)) → wpList Tryz.prog ops Q rest (a.put o.dst (.slice ao' (n - i) (cap - i))) w) : wpList Tryz.prog ops Q (o :: rest) a w := by
  subst hq
  refine wpList_plain hgd fun K hK => ?_
  have hc := hsl.cut i n (by omega) (Nat.le_refl _)
  have ht : ((xs.drop (i * size)).take ((n - i) * size)) = xs.drop (i * size) := by
    apply List.take_of_length_le
    rw [List.length_drop, hsl.1, ← Nat.sub_mul]
    exact Nat.le_refl _
  rw [ht] at hc
  unfold Oper.wp
  simp [execOp, ho, hx, hl, run_sliceAt_slice (P := Tryz.prog) w t _ _ _ _ (by rw [L.elem]; exact L.und), run_slice_l (P := Tryz.prog) w t ao n cap (by rw [L.elem]; exact L.und) k i (by omega) (by omega), L.elem, L.sizeOf w, sliced, Result.andThen]
  exact hK _ _ (h _ hc)

/-- 'x[:j]'. -/
theorem slice_h (L : El t e z size bytes) (hgd : o.guard = none) (x hi : Operand) (ho : o.op = .slice t x none (some hi) none) {T ao n cap xs} (hx : a.eval x = .slice ao n cap)
    {k : IntKind} {q : Int} (hl : a.eval hi = .int k q) (j : Nat) (hq : q = (j : Int)) (hj : j ≤ n) (hsl : Sl w T e size ao n cap xs)
    (h : Sl w T e size ao j cap (xs.take (j * size)) → wpList Tryz.prog ops Q rest (a.put o.dst (.slice ao j cap)) w) : wpList Tryz.prog ops Q (o :: rest) a w := by
  subst hq
  refine wpList_plain hgd fun K hK => ?_
  have hc := hsl.cut 0 j (by omega) hj
  have e1 : (if cap = 0 then ao else ao.map (·.add (0 * size))) = ao := by
    split
    · rfl
    · cases ao <;> simp [Addr.add]
  rw [e1] at hc
  simp only [Nat.sub_zero, Nat.zero_mul, List.drop_zero] at hc
  have := hsl.2.1
  have e2 : (if cap = 0 then ao else ao.map (·.add 0)) = ao := by
    split
    · rfl
    · cases ao <;> simp [Addr.add]
  unfold Oper.wp
  simp [execOp, ho, hx, hl, run_sliceAt_slice (P := Tryz.prog) w t _ _ _ _ (by rw [L.elem]; exact L.und), run_slice_h (P := Tryz.prog) w t ao n cap (by rw [L.elem]; exact L.und) k j (by omega) (by omega), L.elem, L.sizeOf w, sliced, Result.andThen, e2]
  exact hK _ _ (h hc)

/-- 'x[i:j]'. -/
theorem slice_lh (L : El t e z size bytes) (hgd : o.guard = none) (x lo hi : Operand) (ho : o.op = .slice t x (some lo) (some hi) none) {T ao n cap xs} (hx : a.eval x = .slice ao n cap)
    {k k' : IntKind} {q q' : Int} (hl : a.eval lo = .int k q) (hh : a.eval hi = .int k' q') (i j : Nat) (hq : q = (i : Int)) (hq' : q' = (j : Int)) (hij : i ≤ j) (hj : j ≤ n) (hsl : Sl w T e size ao n cap xs)
    (h : ∀ ao', Sl w T e size ao' (j - i) (cap - i) ((xs.drop (i * size)).take ((j - i) * size)) → wpList Tryz.prog ops Q rest (a.put o.dst (.slice ao' (j - i) (cap - i))) w) : wpList Tryz.prog ops Q (o :: rest) a w := by
  subst hq; subst hq'
  refine wpList_plain hgd fun K hK => ?_
  have hc := hsl.cut i j hij hj
  have := hsl.2.1
  unfold Oper.wp
  simp [execOp, ho, hx, hl, hh, run_sliceAt_slice (P := Tryz.prog) w t _ _ _ _ (by rw [L.elem]; exact L.und), run_slice_lh (P := Tryz.prog) w t ao n cap (by rw [L.elem]; exact L.und) k k' i j (by omega) (by omega) (by omega), L.elem, L.sizeOf w, sliced, Result.andThen]
  exact hK _ _ (h _ hc)

/-- A string of these bytes. -/
def bs (l : List UInt8) : ByteArray := ⟨l.toArray⟩

theorem bs_data (l : List UInt8) : (bs l).data.toList = l := by simp [bs]
theorem bs_size (l : List UInt8) : (bs l).size = l.length := by simp [bs, ByteArray.size]
theorem bs_of (s : ByteArray) : bs s.data.toList = s := by cases s; simp [bs]

theorem run_conv_bs {T e' ao n cap} {l : List UInt8} (hsl : Sl w T e' 1 ao n cap (l.map u8)) : (convert 41 9 (.slice ao n cap)).run Tryz.prog w = .ok (.string (bs l)) w := by
  have he : Tryz.prog.underlying 5 = some (.int .u8) := by kernel_rfl
  have hd : Tryz.prog.underlying 9 = some .string := by kernel_rfl
  obtain ⟨h1, h2, h3, h4, h5⟩ := hsl
  have hl : l.length = n := by simpa using h1
  have key : strOfNums (l.map fun b => (b.toNat : Int)) = bs l := by
    have e : (l.map fun b => (b.toNat : Int)).map (fun n => UInt8.ofNat n.toNat) = l := by
      rw [List.map_map]
      conv => rhs; rw [← List.map_id l]
      apply List.map_congr_left
      intro b _
      show UInt8.ofNat ((b.toNat : Int).toNat) = b
      rw [Int.toNat_natCast, UInt8.ofNat_toNat]
    unfold strOfNums bs
    rw [e]
  cases ao with
  | none =>
    have := h4 rfl
    obtain rfl : l = [] := List.eq_nil_of_length_eq_zero (by omega)
    rw [run_convert_bytes_nil w _ _ elU8.und he _ _ _ hd]
    rfl
  | some ad =>
    rcases h5 with h5 | ⟨b, off, c, f, e, hb, r, q⟩
    · obtain rfl : l = [] := List.eq_nil_of_length_eq_zero (by omega)
      subst h5
      rw [run_convert_bytes_string w _ _ _ _ 0 cap elU8.und he hd]
      have := run_bytesToString (P := Tryz.prog) w ad 0 cap [] (by simpa using run_loadCells_list (P := Tryz.prog) w ad [] (by simp))
      rw [this]; rfl
    · cases e
      rw [run_convert_bytes_arg w _ _ elU8.und he b off n cap (l.map fun b => (b.toNat : Int)) (by simpa using hl) ?_ _ hd, key]
      intro i hi
      rw [cell_of_heap r, q i (by omega)]
      have : i < l.length := by omega
      simp [this, u8]

/-- 'string(b)'. -/
theorem wp_conv_bs {T e' ao n cap} {l : List UInt8} (hgd : o.guard = none) (x : Operand) (ho : o.op = .convert 41 9 x) (hx : a.eval x = .slice ao n cap)
    (hsl : Sl w T e' 1 ao n cap (l.map u8)) (h : wpList Tryz.prog ops Q rest (a.put o.dst (.string (bs l))) w) : wpList Tryz.prog ops Q (o :: rest) a w := by
  refine wpList_plain hgd fun K hK => ?_
  unfold Oper.wp
  simp [execOp, ho, hx, run_conv_bs hsl, Result.andThen]
  exact hK _ _ h

end
end Go.Proofs.YtbhjdddiihfafaaGreatDoor
