/- Package path: walk, Join, Clean. -/
import Derived.Test.YtbhjdddiihfafaaGreatDoorJSplit
import Derived.Test.YtbhjdddiihfafaaGreatDoorJStore2
set_option linter.unusedVariables false
set_option linter.unusedSimpArgs false
namespace Go.Proofs.YtbhjdddiihfafaaGreatDoor
open Go.RowKit Go.Maps Go.Shelf
attribute [local go_sem] Oper.semAt_some

theorem SplitSeq_any (s sep : ByteArray) (w : World) : Calls Tryz.prog 232 #[.string s, .string sep] w fun e w' =>
    e = .returned (.func (.func 313) #[] #[.pointer (some ⟨w.heap.size + 1, 0, none⟩), .pointer (some ⟨w.heap.size, 0, none⟩), .pointer (some ⟨w.heap.size + 2, 0, none⟩)]) ∧
    w' = ((w.alloc (.cells #[.string s] 9)).alloc (.cells #[.string sep] 9)).alloc (.cells #[.int .i64 0] 3) := by
  have hmf : ∀ (fn : Fn) (first cap : Array Value) (w : World), (Instr.makeFunc fn first cap).run Tryz.prog w = .ok (.func fn first cap) w := fun _ _ _ _ => rfl
  go_enter Tryz.func232, Tryz.ntmps232
  go_wp2
  go_ret
  exact ⟨rfl, rfl⟩

/-- One part more. -/
def wk1 (l : List (List UInt8)) (x : List UInt8) : Except Int (List (List UInt8)) :=
  if x = [] ∨ x = [46] then .ok l
  else if x = [46, 46] then (if l = [] then .error 51 else .ok l.dropLast)
  else if partB x then .ok (l ++ [x]) else .error 50

theorem walkF_eq (xs : List (List UInt8)) : ∀ l, walkF xs l = match xs.foldlM wk1 l with
    | .ok l => if 12 < l.length then .error 50 else .ok l
    | .error e => .error e := by
  induction xs with
  | nil => intro l; simp [walkF, pure, Except.pure]
  | cons x xs ih =>
    intro l
    rw [List.foldlM_cons]
    unfold walkF wk1
    by_cases h1 : x = [] ∨ x = [46]
    · rw [if_pos h1, if_pos h1, ih]; rfl
    · rw [if_neg h1, if_neg h1]
      by_cases h2 : x = [46, 46]
      · rw [if_pos h2, if_pos h2]
        by_cases h3 : l = []
        · rw [if_pos h3, if_pos h3]; rfl
        · rw [if_neg h3, if_neg h3, ih]; rfl
      · rw [if_neg h2, if_neg h2]
        by_cases h4 : partB x = true
        · rw [if_pos h4, if_pos h4, ih]; rfl
        · rw [if_neg h4, if_neg h4]; rfl

theorem fold_snoc (pre : List (List UInt8)) (x : List UInt8) {l : List (List UInt8)} (h : pre.foldlM wk1 [] = .ok l) : (pre ++ [x]).foldlM wk1 [] = wk1 l x := by
  rw [List.foldlM_append, h]
  simp only [List.foldlM_cons, List.foldlM_nil, bind, Except.bind]
  cases wk1 l x <;> rfl

theorem fold_err {pre xs : List (List UInt8)} {e : Int} (hp : pre <+: xs) (h : pre.foldlM wk1 [] = .error e) : xs.foldlM wk1 [] = .error e := by
  obtain ⟨r, rfl⟩ := hp
  rw [List.foldlM_append, h]; rfl

theorem wk1_len {l l' : List (List UInt8)} {x : List UInt8} (h : wk1 l x = .ok l') : l'.length ≤ l.length + 1 := by
  unfold wk1 at h
  split at h
  · cases h; omega
  · split at h
    · split at h
      · cases h
      · cases h; simp; omega
    · split at h
      · cases h; simp
      · cases h

theorem wk1_err {l : List (List UInt8)} {x : List UInt8} {e : Int} (h : wk1 l x = .error e) : e ≠ 0 := by
  unfold wk1 at h
  split at h
  · cases h
  · split at h
    · split at h
      · cases h; decide
      · cases h
    · split at h
      · cases h
      · cases h; decide

theorem fold_err_ne (xs : List (List UInt8)) {e : Int} : ∀ l, xs.foldlM wk1 l = .error e → e ≠ 0 := by
  induction xs with
  | nil => intro l h; cases h
  | cons x xs ih =>
    intro l h
    rw [List.foldlM_cons] at h
    cases hx : wk1 l x with
    | error e' => rw [hx] at h; cases h; exact wk1_err hx
    | ok l' => rw [hx] at h; exact ih l' h

theorem app_sl_in {F : Fence} {nn : Nat} {w : World} {ops : Array Oper} {rest : List Oper} {o : Oper} {a : Act} {Q : Exit → Act → World → Prop} {t e : TypeId} {z : Value} {size bytes : Nat} (L : El t e z size bytes) (hgd : o.guard = none) (s x : Operand) (ho : o.op = .call { callee := .builtin .append, args := #[s, x], argTypes := #[t, t] })
    (B : Nat) (v : Value) (n : Nat) (xs : List Value) (hs : a.eval s = v) (hown : w.ownsRow B e size v n xs)
    {T e' : Nat} {ad : Addr} {m c : Nat} {news : List Value} (hx : a.eval x = .slice (some ad) m c) (hsl : Sl w T e' size (some ad) m c news) (h1 : ∀ u ∈ news, u.oneCell' = true)
    (hbytes : (n + m) * bytes ≤ 140737488355328) (hbase : B ≤ w.heap.size)
    (h : ∀ v' w', w'.ownsRow B e size v' (n + m) (xs ++ news) → w.grownBy w' v.ownBlock → wpListIn F nn Tryz.prog ops Q rest (a.put o.dst v') w') : wpListIn F nn Tryz.prog ops Q (o :: rest) a w := by
  obtain ⟨i, hi, hz0, hz1, hz2⟩ := info_parts L.info
  have hnm : n + m ≤ 140737488355328 := by
    have := L.bpos
    exact Nat.le_trans (Nat.le_mul_of_pos_right _ this) hbytes
  obtain ⟨g1, g2, g3, g4, g5⟩ := hsl
  refine wpListIn_append_own _ hgd s x t ho B e i z size bytes L.und hi hz0 hz1 hz2 L.zs L.pos v n xs hs hown ad m c news hx g1 ?_ h1 (by unfold maxLen; omega) hbytes hbase fun v' w' h2 h3 _ => h v' w' h2 h3
  rcases g5 with rfl | ⟨b, off, c', f, e', hb, r, q⟩
  · obtain rfl : news = [] := List.eq_nil_of_length_eq_zero (by simpa using g1)
    intro j u hj; simp at hj
  · cases e'
    intro j u hj
    have hlt : j < m * size := by rw [← g1]; exact (List.getElem?_eq_some_iff.1 hj).1
    have : w.cell? ⟨b, off + j, none⟩ = some u := by rw [cell_of_heap r, q j hlt]; exact hj
    by_cases h0 : j = 0
    · subst h0; simpa [Addr.add] using this
    · simpa [Addr.add, h0] using this

theorem len_le_tot (q : List (List UInt8)) : q.length ≤ tot q := by
  induction q with
  | nil => simp [tot]
  | cons a q ih => simp only [tot, List.map_cons, List.sum_cons, List.length_cons] at ih ⊢; omega

theorem mem_le_tot {q : List (List UInt8)} {x : List UInt8} (h : x ∈ q) : x.length + 1 ≤ tot q := by
  induction q with
  | nil => cases h
  | cons a q ih =>
    simp only [tot, List.map_cons, List.sum_cons] at ih ⊢
    rcases List.mem_cons.1 h with rfl | h
    · omega
    · have := ih h; omega

/-- A row without its last item. -/
theorem own_drop {w : World} {B E n cap : Nat} {ao : Option Addr} {l : List (List UInt8)} (h : w.ownsRow B E 1 (.slice ao n cap) n (strs l)) (hn : 0 < n) : w.ownsRow B E 1 (.slice ao (n - 1) cap) (n - 1) (strs l.dropLast) := by
  obtain ⟨h1, h2⟩ := h
  have hl : l.length = n := by simpa [strs] using h1
  refine ⟨by simp [strs]; omega, ?_⟩
  rcases h2 with ⟨h2, h3⟩ | ⟨g, c, cur, e, hg, hh, hle, hm, hs, ht⟩
  · omega
  · cases e
    refine .inr ⟨g, cap, cur, rfl, hg, hh, by omega, hm, hs, ?_⟩
    have : strs l.dropLast = (strs l).take (n - 1) := by simp [strs, List.dropLast_eq_take, List.map_take, hl]
    rw [this, ← ht, List.take_take]
    congr 1; omega

/-- Between two parts. -/
def WkI (w : World) (pre : List (List UInt8)) (W : World) : Prop :=
  ∃ ls v, pre.foldlM wk1 [] = .ok ls ∧ (ls.length ≤ pre.length ∧ w.heap.size + 7 ≤ W.heap.size) ∧ W.heap[w.heap.size]? = some (.cells #[v] 43 (0, 0)) ∧ W.ownsRow (w.heap.size + 7) 9 1 v ls.length (strs ls) ∧
    W.heap[w.heap.size + 1]? = some (.cells #[.slice none 0 0] 43 (0, 0)) ∧ W.heap[w.heap.size + 2]? = some (.cells #[.int .i64 0] 26 (0, 0)) ∧ W.heap[w.heap.size + 3]? = some (.cells #[.int .i64 0] 3 (0, 0)) ∧ FrA w W

def WkX (w : World) (c : Code) (pre : List (List UInt8)) (W : World) : Prop :=
  c = .ret ∧ ∃ er, pre.foldlM wk1 [] = .error er ∧ W.heap[w.heap.size + 1]? = some (.cells #[.slice none 0 0] 43 (0, 0)) ∧ W.heap[w.heap.size + 2]? = some (.cells #[.int .i64 er] 26 (0, 0)) ∧ FrA w W

section
variable {w A B : World}

theorem WkI.kept {pre : List (List UInt8)} (h : WkI w pre A) (hf : Fr (fun k o => k ≠ w.heap.size + 4 ∧ o.isCells = true) A B) (hfa : FrA w B) : WkI w pre B := by
  obtain ⟨ls, v, h1, h2, h3, h4, h5, h6, h7, _⟩ := h
  refine ⟨ls, v, h1, ⟨h2.1, Nat.le_trans h2.2 hf.size⟩, hf.keep _ _ h3 ⟨by omega, rfl⟩, own_fr h4 hf fun g c f hg hc => ⟨?_, rfl⟩, hf.keep _ _ h5 ⟨by omega, rfl⟩, hf.keep _ _ h6 ⟨by omega, rfl⟩, hf.keep _ _ h7 ⟨by omega, rfl⟩, hfa⟩
  have := (own_block h4 hg).1; omega

theorem WkX.kept {c : Code} {pre : List (List UInt8)} (h : WkX w c pre A) (hf : Fr (fun k o => k ≠ w.heap.size + 4 ∧ o.isCells = true) A B) (hfa : FrA w B) : WkX w c pre B := by
  obtain ⟨hc, er, h1, h5, h6, _⟩ := h
  exact ⟨hc, er, h1, hf.keep _ _ h5 ⟨by omega, rfl⟩, hf.keep _ _ h6 ⟨by omega, rfl⟩, hfa⟩

theorem WkI.fra {pre : List (List UInt8)} (h : WkI w pre A) : FrA w A := by
  obtain ⟨_, _, _, _, _, _, _, _, _, h⟩ := h; exact h

theorem WkX.fra {c : Code} {pre : List (List UInt8)} (h : WkX w c pre A) : FrA w A := by
  obtain ⟨_, _, _, _, _, h⟩ := h; exact h

theorem Fr.put {K : Nat → Obj → Prop} {a b : World} (h : Fr K a b) {l : Nat} {o : Obj} (hl : b.heap[l]? = some o) (hk : ∀ x, a.heap[l]? = some x → ¬ K l x) (o' : Obj) : Fr K a (b.putObj l o') :=
  ⟨h.os, h.tape, h.output, by simpa using h.size, fun k x hx hxk => by
    have h1 := h.keep k x hx hxk
    by_cases e : k = l
    · subst e; exact absurd hxk (hk x hx)
    · rw [World.putObj_heap_other e]; exact h1⟩

theorem fr_put {W : World} {l : Nat} {o : Obj} (o' : Obj) (n : Nat) (hl : W.heap[l]? = some o) (ho : o.isCells = false) : Fr (fun k o => k ≠ n ∧ o.isCells = true) W (W.putObj l o') :=
  (Fr.refl _ W).put hl (fun x hx ⟨_, hc⟩ => by rw [hl] at hx; cases hx; rw [ho] at hc; cases hc) o'

end

theorem walk_res {tmps : Array Value} {W : World} {b : Nat} {v u : Value} (h4 : tmps.getD 4 undef = .pointer (some ⟨b + 1, 0, none⟩)) (h5 : tmps.getD 5 undef = .pointer (some ⟨b + 1 + 1, 0, none⟩))
    (c1 : W.cell? ⟨b + 1, 0, none⟩ = some v) (c2 : W.cell? ⟨b + 1 + 1, 0, none⟩ = some u) : (results Tryz.f182 tmps).run Tryz.prog W = .ok (.tuple #[v, u]) W := by
  rw [Array.getD_eq_getD_getElem?] at h4 h5
  simp [results, Tryz.f182, go_sem, h4, h5, c1, c2]

/-- Behind the two last stores, the block for deferred calls shut. -/
theorem walk_end {w W : World} {D : Nat} {v u v0 u0 : Value} (hb1 : W.heap[w.heap.size + 1]? = some (.cells #[v0] 43 (0, 0))) (hb2 : W.heap[w.heap.size + 1 + 1]? = some (.cells #[u0] 26 (0, 0))) (hfa : FrA w W) (hD : W.heap[D]? = some (.deferred (some []))) (hlt : w.heap.size ≤ D) :
    ((W.setCell ⟨w.heap.size + 1, 0, none⟩ v).setCell ⟨w.heap.size + 1 + 1, 0, none⟩ u).heap[D]? = some (.deferred (some [])) ∧
    (((W.setCell ⟨w.heap.size + 1, 0, none⟩ v).setCell ⟨w.heap.size + 1 + 1, 0, none⟩ u).putObj D (.deferred none)).cell? ⟨w.heap.size + 1, 0, none⟩ = some v ∧
    (((W.setCell ⟨w.heap.size + 1, 0, none⟩ v).setCell ⟨w.heap.size + 1 + 1, 0, none⟩ u).putObj D (.deferred none)).cell? ⟨w.heap.size + 1 + 1, 0, none⟩ = some u ∧
    FrA w (((W.setCell ⟨w.heap.size + 1, 0, none⟩ v).setCell ⟨w.heap.size + 1 + 1, 0, none⟩ u).putObj D (.deferred none)) := by
  have hd2 := (KeepsOthers.setCell (W.setCell ⟨w.heap.size + 1, 0, none⟩ v) ⟨w.heap.size + 1 + 1, 0, none⟩ u).same D _ ((KeepsOthers.setCell W ⟨w.heap.size + 1, 0, none⟩ v).same D _ hD rfl) rfl
  have e1 := heap_set_ne (heap_set hb1 0 v) (p := ⟨w.heap.size + 1 + 1, 0, none⟩) (show w.heap.size + 1 ≠ w.heap.size + 1 + 1 by omega) u
  have e2 := heap_set (heap_set_ne hb2 (p := ⟨w.heap.size + 1, 0, none⟩) (show w.heap.size + 1 + 1 ≠ w.heap.size + 1 by omega) v) 0 u
  have n1 : w.heap.size + 1 ≠ D := fun e => by rw [← e, hb1] at hD; cases hD
  have n2 : w.heap.size + 1 + 1 ≠ D := fun e => by rw [← e, hb2] at hD; cases hD
  refine ⟨hd2, ?_, ?_, ?_⟩
  · exact cell_of_heap ((World.putObj_heap_other n1).trans e1) 0
  · exact cell_of_heap ((World.putObj_heap_other n2).trans e2) 0
  · exact ((hfa.setCell (fun o ho => absurd (lt_of_heap ho) (by simp only; omega)) _).setCell (fun o ho => absurd (lt_of_heap ho) (by simp only; omega)) _).put hd2 (fun x hx => absurd (lt_of_heap hx) (by omega)) _

set_option maxHeartbeats 2000000 in
set_option maxRecDepth 100000 in
theorem walk_any (w : World) (s : List UInt8) (hs : s.length ≤ 200) :
    Calls Tryz.prog 182 #[.slice none 0 0, .string (bs s)] w fun e w' => FrA w w' ∧
      ((∃ l v, (if [47].isPrefixOf s then .error 51 else walkF (splitc 47 s) [] : Except Int (List (List UInt8))) = .ok l ∧ e = .returned (.tuple #[v, .int .i64 0]) ∧ w'.ownsRow w.heap.size 9 1 v l.length (strs l)) ∨
       (∃ er, (if [47].isPrefixOf s then .error 51 else walkF (splitc 47 s) [] : Except Int (List (List UInt8))) = .error er ∧ e = .returned (.tuple #[.slice none 0 0, .int .i64 er]) ∧ er ≠ 0)) := by
  obtain ⟨R, hR⟩ : ∃ R : Except Int (List (List UInt8)), R = if [47].isPrefixOf s then .error 51 else walkF (splitc 47 s) [] := ⟨_, rfl⟩
  rw [← hR]
  obtain ⟨pf, hpf⟩ : ∃ pf, pf = [47].isPrefixOf s := ⟨_, rfl⟩
  rw [← hpf] at hR
  have hHP := fun w' => HasPrefix_any (bs s) ⟨#[47]⟩ w'
  rw [bs_data] at hHP
  have hpf' : (⟨#[47]⟩ : ByteArray).data.toList.isPrefixOf s = pf := by rw [hpf]
  rw [hpf'] at hHP
  have HR := Lib.hid (And.intro hR hHP)
  clear hR hHP hpf hpf'
  refine (callsIn_wide (n := 9)).1 ?_
  refine callsIn_of_wp_marks Tryz.func182 rfl trivial ?_ rfl
  simp only [Tryz.ntmps182, List.size_toArray, List.length_cons, List.length_nil, Nat.reduceAdd, Nat.reduceSub, Array.replicate_succ, Array.replicate_zero, List.push_toArray, List.append_toArray, List.nil_append, List.cons_append]
  gi_wp2
  refine ⟨trivial, (callsIn_wide.2 (HR.out.2 _)).mono ?_⟩
  rintro e w' ⟨rfl, rfl⟩
  cases pf
  · obtain ⟨W0, hW0⟩ : ∃ W0, W0 = ((((w.alloc (.cells #[.slice none 0 0] 43)).alloc (.cells #[.slice none 0 0] 43)).alloc (.cells #[.int .i64 0] 26)).alloc (.cells #[.int .i64 0] 3)) := ⟨_, rfl⟩
    have hz0 : W0.heap.size = w.heap.size + 4 := by rw [hW0]; simp
    have b0 : W0.heap[w.heap.size]? = some (.cells #[.slice none 0 0] 43 (0, 0)) := by
      rw [hW0]; exact heap_alloc_keep (heap_alloc_keep (heap_alloc_keep (heap_alloc_new _ _) _) _) _
    have b1 : W0.heap[w.heap.size + 1]? = some (.cells #[.slice none 0 0] 43 (0, 0)) := by
      rw [hW0]; refine heap_alloc_keep (heap_alloc_keep ?_ _) _
      have := heap_alloc_new (w.alloc (.cells #[.slice none 0 0] 43)) (.cells #[.slice none 0 0] 43); simpa using this
    have b2 : W0.heap[w.heap.size + 2]? = some (.cells #[.int .i64 0] 26 (0, 0)) := by
      rw [hW0]; refine heap_alloc_keep ?_ _
      have := heap_alloc_new ((w.alloc (.cells #[.slice none 0 0] 43)).alloc (.cells #[.slice none 0 0] 43)) (.cells #[.int .i64 0] 26); simpa using this
    have b3 : W0.heap[w.heap.size + 3]? = some (.cells #[.int .i64 0] 3 (0, 0)) := by
      rw [hW0]
      have := heap_alloc_new (((w.alloc (.cells #[.slice none 0 0] 43)).alloc (.cells #[.slice none 0 0] 43)).alloc (.cells #[.int .i64 0] 26)) (.cells #[.int .i64 0] 3); simpa using this
    have hfa0 : FrA w W0 := by rw [hW0]; exact ((((Fr.refl _ w).alloc _).alloc _).alloc _).alloc _
    gi_wp2
    refine ⟨trivial, (callsIn_wide.2 (SplitSeq_any _ _ _)).mono ?_⟩
    rintro e w3 ⟨rfl, rfl⟩
    rw [← hW0, hz0]
    clear hW0
    obtain ⟨W3, hW3⟩ : ∃ W3, W3 = ((W0.alloc (.cells #[.string (bs s)] 9)).alloc (.cells #[.string ⟨#[47]⟩] 9)).alloc (.cells #[.int .i64 0] 3) := ⟨_, rfl⟩
    rw [← hW3]
    have hz3 : W3.heap.size = w.heap.size + 7 := by rw [hW3]; simp; omega
    have hbase : SpBase (w.heap.size + 4) (w.heap.size + 4 + 1) (w.heap.size + 4 + 2) s W3 := by
      rw [hW3]
      refine ⟨heap_alloc_keep (heap_alloc_keep ?_ _) _, heap_alloc_keep ?_ _, ?_⟩
      · have := heap_alloc_new W0 (.cells #[.string (bs s)] 9); rwa [hz0] at this
      · have := heap_alloc_new (W0.alloc (.cells #[.string (bs s)] 9)) (.cells #[.string ⟨#[47]⟩] 9); rwa [World.size_alloc, hz0] at this
      · have := heap_alloc_new ((W0.alloc (.cells #[.string (bs s)] 9)).alloc (.cells #[.string ⟨#[47]⟩] 9)) (.cells #[.int .i64 0] 3); rwa [World.size_alloc, World.size_alloc, hz0] at this
    have hf3 : FrA W0 W3 := by rw [hW3]; exact (((Fr.refl _ W0).alloc _).alloc _).alloc _
    have hI3 : WkI w [] W3 := ⟨[], .slice none 0 0, rfl, ⟨Nat.le_refl _, by omega⟩, hf3.keep _ _ b0 trivial, World.ownsRow_nil _ _ _ _, hf3.keep _ _ b1 trivial, hf3.keep _ _ b2 trivial, hf3.keep _ _ b3 trivial, hfa0.trans hf3⟩
    clear b0 b1 b2 b3 hfa0 hf3 hW3
    gi_wp2
    refine wpIn_rangeFunc_B rfl (by omega) (gf := 313) (lb := #[.pointer (some ⟨w.heap.size + 4 + 1, 0, none⟩), .pointer (some ⟨w.heap.size + 4, 0, none⟩), .pointer (some ⟨w.heap.size + 4 + 2, 0, none⟩)]) rfl trivial (enters_of Tryz.func313 (by kernel_rfl) rfl)
      (splitSeq_in 8 (w.heap.size + 4) (w.heap.size + 4 + 1) (w.heap.size + 4 + 2) (by omega) (by omega) s (by omega)) ?base ?st ?kt ?kb (fun _ => rfl) (WkI w) (WkX w) ?hI ?hIx ?hIp ?hIxp ?h0 ?acts ?assign ?body ?done ?stop
    case assign =>
      intro l x W K hK
      gi_wp2
      exact hK
    case base =>
      intro o1 o2
      exact ⟨heap_alloc_keep (heap_alloc_keep hbase.1 _) _, heap_alloc_keep (heap_alloc_keep hbase.2.1 _) _, heap_alloc_keep (heap_alloc_keep hbase.2.2 _) _⟩
    case st =>
      rintro A B ⟨v, rfl⟩ k o ho hc
      exact (KeepsOthers.setCell A _ v).same k o ho hc
    case kt => exact fun h1 h2 k o hk ho => h2 k o hk (h1 k o hk ho)
    case kb =>
      intro W l o o' hl ho hc _ k x hk hx
      rw [World.putObj_heap_other (by omega)]; exact hx
    case hI =>
      rintro pre A B h ⟨v, rfl⟩
      exact h.kept ((Fr.refl _ A).setCell (fun o _ h => h.1 rfl) v) (h.fra.setCell (fun o ho => absurd (lt_of_heap ho) (by simp only; omega)) v)
    case hIx =>
      rintro c pre A B h ⟨v, rfl⟩
      exact h.kept ((Fr.refl _ A).setCell (fun o _ h => h.1 rfl) v) (h.fra.setCell (fun o ho => absurd (lt_of_heap ho) (by simp only; omega)) v)
    case hIp =>
      intro pre W l o o' h hl ho hc
      exact h.kept (fr_put o' _ ho hc) (h.fra.put ho (fun x hx => absurd (lt_of_heap hx) (by omega)) o')
    case hIxp =>
      intro c pre W l o o' h hl ho hc
      exact h.kept (fr_put o' _ ho hc) (h.fra.put ho (fun x hx => absurd (lt_of_heap hx) (by omega)) o')
    case h0 =>
      intro o1 o2
      exact hI3.kept (((Fr.refl _ W3).alloc _).alloc _) ((hI3.fra.alloc _).alloc _)
    case stop =>
      rintro D c pre W hpre ⟨rfl, er, hfold, hb1, hb2, hfa⟩ hD hlt
      have c1 : W.cell? ⟨w.heap.size + 1, 0, none⟩ = some (.slice none 0 0) := cell_of_heap hb1 0
      have c2 : W.cell? ⟨w.heap.size + 1 + 1, 0, none⟩ = some (.int .i64 er) := cell_of_heap hb2 0
      gi_wp2
      refine ⟨by simp, .inl ⟨_, _, rfl, run_takeDeferred hD, ?_⟩⟩
      have g1 : (W.putObj D (.deferred none)).cell? ⟨w.heap.size + 1, 0, none⟩ = some (.slice none 0 0) := cell_of_heap ((World.putObj_heap_other (by omega)).trans hb1) 0
      have g2 : (W.putObj D (.deferred none)).cell? ⟨w.heap.size + 1 + 1, 0, none⟩ = some (.int .i64 er) := cell_of_heap ((World.putObj_heap_other (by omega)).trans hb2) 0
      refine ⟨_, walk_res rfl rfl g1 g2, hfa.put hD (fun x hx => absurd (lt_of_heap hx) (by omega)) _, .inr ⟨er, ?_, rfl, fold_err_ne _ _ hfold⟩⟩
      rw [HR.out.1, if_neg (by simp), walkF_eq, fold_err hpre hfold]
    case done =>
      rintro D W ⟨ls, v, hfold, hlen, hb0, hown, hb1, hb2, hb3, hfa⟩ hD hlt
      obtain ⟨ao, cap, rfl⟩ := own_shape hown
      have c0 : W.cell? ⟨w.heap.size, 0, none⟩ = some (.slice ao ls.length cap) := cell_of_heap hb0 0
      have c1 : W.cell? ⟨w.heap.size + 1, 0, none⟩ = some (.slice none 0 0) := cell_of_heap hb1 0
      have c2 : W.cell? ⟨w.heap.size + 1 + 1, 0, none⟩ = some (.int .i64 0) := cell_of_heap hb2 0
      have f1 := free_of_heap hb1
      have f2 := free_of_heap hb2
      have hls : ls.length ≤ 1048576 := by
        have := tot_splitc 47 s
        have h3 := len_le_tot (splitc 47 s)
        have h4 := hlen.1
        omega
      have HD := Lib.hid (And.intro hfold (And.intro hown (And.intro hb1 (And.intro hb2 hfa))))
      clear hfold hown hb1 hb2 hfa hb0 hb3
      by_cases h12 : 12 < ls.length
      · gi_wp2
        obtain ⟨k1, k2, k3, k4⟩ := walk_end (D := D) (v := .slice none 0 0) (u := .int .i64 50) HD.out.2.2.1 HD.out.2.2.2.1 HD.out.2.2.2.2 hD (by omega)
        refine ⟨by simp, .inl ⟨_, _, rfl, run_takeDeferred k1, _, walk_res rfl rfl k2 k3, k4, .inr ⟨50, ?_, rfl, by decide⟩⟩⟩
        rw [HR.out.1, if_neg (by simp), walkF_eq, HD.out.1]
        simp only
        rw [if_pos h12]
      · gi_wp2
        obtain ⟨k1, k2, k3, k4⟩ := walk_end (D := D) (v := .slice ao ls.length cap) (u := .int .i64 0) HD.out.2.2.1 HD.out.2.2.2.1 HD.out.2.2.2.2 hD (by omega)
        refine ⟨by simp, .inl ⟨_, _, rfl, run_takeDeferred k1, _, walk_res rfl rfl k2 k3, k4, .inl ⟨ls, .slice ao ls.length cap, ?_, rfl, ?_⟩⟩⟩
        · rw [HR.out.1, if_neg (by simp), walkF_eq, HD.out.1]
          simp only
          rw [if_neg h12]
        · refine own_mono (own_fr HD.out.2.1 (K := fun k o => w.heap.size + 7 ≤ k ∧ o.isCells = true) (((((Fr.refl _ W).setCell (fun o _ h => absurd h.1 (by simp only; omega)) _).setCell (fun o _ h => absurd h.1 (by simp only; omega)) _)).put k1 (fun x hx h => ?_) _) fun g c f hg hc => ⟨(own_block HD.out.2.1 hg).1, rfl⟩) (by omega)
          rw [hD] at hx; cases hx; exact absurd h.2 (by simp [Obj.isCells])
    case body =>
      rintro l pre x W ⟨ls, v, hfold, hlen, hb0, hown, hb1, hb2, hb3, hfa⟩ hpre
      have hsn := fold_snoc pre x hfold
      have htot := tot_splitc 47 s
      have hxl : x.length ≤ 200 := by
        obtain ⟨q, hq⟩ := hpre
        have := mem_le_tot (q := splitc 47 s) (x := x) (by rw [← hq]; simp)
        omega
      obtain ⟨ao, cap, rfl⟩ := own_shape hown
      have c0 : W.cell? ⟨w.heap.size, 0, none⟩ = some (.slice ao ls.length cap) := cell_of_heap hb0 0
      have c1 : W.cell? ⟨w.heap.size + 1, 0, none⟩ = some (.slice none 0 0) := cell_of_heap hb1 0
      have c2 : W.cell? ⟨w.heap.size + 1 + 1, 0, none⟩ = some (.int .i64 0) := cell_of_heap hb2 0
      have c3 : W.cell? ⟨w.heap.size + 1 + 1 + 1, 0, none⟩ = some (.int .i64 0) := cell_of_heap hb3 0
      have f0 := free_of_heap hb0
      have f1 := free_of_heap hb1
      have f2 := free_of_heap hb2
      have hls : ls.length ≤ 1048576 := by
        have h1 := hpre.length_le
        have h2 := len_le_tot (splitc 47 s)
        have h3 := hlen.1
        simp at h1; omega
      have HI : Hid (WkI w pre W) := Lib.hid ⟨ls, .slice ao ls.length cap, hfold, hlen, hb0, hown, hb1, hb2, hb3, hfa⟩
      have HB := Lib.hid (And.intro hsn (And.intro hlen (And.intro hb0 (And.intro hown (And.intro hb1 (And.intro hb2 (And.intro hb3 hfa)))))))
      clear hfold hlen hb0 hown hb1 hb2 hb3 hfa hsn
      have hbx : (bs x).toList = x := by rw [ByteArray.toList_eq, bs_data]
      have hsame : ∀ W', KeepsOthers W W' → SpKeep (w.heap.size + 4) (w.heap.size + 4 + 1) (w.heap.size + 4 + 2) W W' → WkI w (pre ++ [x]) W' → (KeepsOthers W W' ∧ SpKeep (w.heap.size + 4) (w.heap.size + 4 + 1) (w.heap.size + 4 + 2) W W' ∧ WkI w (pre ++ [x]) W') := fun _ h1 h2 h3 => ⟨h1, h2, h3⟩
      have herr : ∀ (er : Int) (a : Act), wk1 ls x = .error er → ownPostK (SpKeep (w.heap.size + 4) (w.heap.size + 4 + 1) (w.heap.size + 4 + 2)) (WkI w) (WkX w) (pre ++ [x]) W Exit.ret a ((W.setCell ⟨w.heap.size + 1, 0, none⟩ (.slice none 0 0)).setCell ⟨w.heap.size + 1 + 1, 0, none⟩ (.int .i64 er))   := fun er a h => by
        refine ⟨(KeepsOthers.setCell _ _ _).trans (KeepsOthers.setCell _ _ _), rfl, er, by rw [HB.out.1, h], ?_, ?_, ?_⟩
        · exact heap_set_ne (heap_set HB.out.2.2.2.2.1 0 _) (show w.heap.size + 1 ≠ w.heap.size + 1 + 1 by omega) _
        · exact heap_set (heap_set_ne HB.out.2.2.2.2.2.1 (p := ⟨w.heap.size + 1, 0, none⟩) (show w.heap.size + 2 ≠ w.heap.size + 1 by omega) _) 0 _
        · exact (HB.out.2.2.2.2.2.2.2.setCell (fun o ho => absurd (lt_of_heap ho) (by simp only; omega)) _).setCell (fun o ho => absurd (lt_of_heap ho) (by simp only; omega)) _
      have hok : wk1 ls x = .ok ls → KeepsOthers W W ∧ SpKeep (w.heap.size + 4) (w.heap.size + 4 + 1) (w.heap.size + 4 + 2) W W ∧ WkI w (pre ++ [x]) W := fun h => by
        refine ⟨KeepsOthers.refl _, fun _ _ _ h => h, ls, .slice ao ls.length cap, by rw [HB.out.1, h], ?_, HB.out.2.2.1, HB.out.2.2.2.1, HB.out.2.2.2.2.1, HB.out.2.2.2.2.2.1, HB.out.2.2.2.2.2.2.1, HB.out.2.2.2.2.2.2.2⟩
        have := HB.out.2.1; exact ⟨by simp; omega, this.2⟩
      have HE := Lib.hid (And.intro herr hok)
      clear herr hok hsame
      by_cases hx0 : x = []
      · subst hx0
        gi_wp2
        exact HE.out.2 rfl
      by_cases hx1 : x = [46]
      · subst hx1
        gi_wp2
        exact HE.out.2 rfl
      have hw0 : x.isEmpty = false := by simpa using hx0
      have hw1 : (x == [46]) = false := by simpa using hx1
      by_cases hx2 : x = [46, 46]
      · subst hx2
        by_cases hl0 : ls = []
        · subst hl0
          gi_wp2
          exact HE.out.1 51 _ rfl
        · have hl1 : ((ls.length : Int) == 0) = false := by
            have : ls.length ≠ 0 := fun e => hl0 (List.eq_nil_of_length_eq_zero e)
            simp; omega
          have hl2 : (1 : Int) ≤ (ls.length : Int) := by
            have : ls.length ≠ 0 := fun e => hl0 (List.eq_nil_of_length_eq_zero e)
            omega
          have hcap : (ls.length : Int) - 1 ≤ (cap : Int) := by
            obtain ⟨_, h2⟩ := HB.out.2.2.2.1
            rcases h2 with ⟨_, h3⟩ | ⟨g, c, cur, e, _, _, hle, _⟩
            · omega
            · cases e; omega
          gi_wp2
          refine ⟨KeepsOthers.setCell _ _ _, ?_, ls.dropLast, .slice ao (ls.length - 1) cap, ?_, ?_, ?_, ?_, ?_, ?_, ?_, ?_⟩
          · intro k o hk ho
            rw [Below.heap_setCell _ _ _ _ (show k ≠ w.heap.size by omega)]; exact ho
          · rw [HB.out.1]; unfold wk1; rw [if_neg (by simp), if_pos rfl, if_neg hl0]
          · have := HB.out.2.1; exact ⟨by simp; omega, by simpa [World.setCell] using this.2⟩
          · exact heap_set HB.out.2.2.1 0 _
          · rw [List.length_dropLast]
            refine own_drop (own_fr HB.out.2.2.2.1 ((Fr.refl _ W).setCell (K := fun k _ => k ≠ w.heap.size) (fun o _ h => h rfl) _) fun g c f hg hc => ?_) (by omega)
            have := (own_block HB.out.2.2.2.1 hg).1; omega
          · exact heap_set_ne HB.out.2.2.2.2.1 (show w.heap.size + 1 ≠ w.heap.size by omega) _
          · exact heap_set_ne HB.out.2.2.2.2.2.1 (show w.heap.size + 2 ≠ w.heap.size by omega) _
          · exact heap_set_ne HB.out.2.2.2.2.2.2.1 (show w.heap.size + 3 ≠ w.heap.size by omega) _
          · exact HB.out.2.2.2.2.2.2.2.setCell (fun o ho => absurd (lt_of_heap ho) (by simp only; omega)) _
      have hw2 : (x == [46, 46]) = false := by simpa using hx2
      have hpart := part_any x W (by omega)
      have hwk : wk1 ls x = if partB x then .ok (ls ++ [x]) else .error 50 := by
        unfold wk1; rw [if_neg (by simp [hx0, hx1]), if_neg hx2]
      obtain ⟨g, hg⟩ : ∃ g, g = partB x := ⟨_, rfl⟩
      rw [← hg] at hpart hwk
      have HP := Lib.hid (And.intro hpart hwk)
      clear hpart hwk hg
      cases g
      · gi_wp2
        refine ⟨trivial, (callsIn_wide.2 HP.out.1).mono ?_⟩
        rintro e w' ⟨rfl, rfl⟩
        gi_wp2
        exact HE.out.1 50 _ (by rw [HP.out.2]; rfl)
      · gi_wp2
        refine ⟨trivial, (callsIn_wide.2 HP.out.1).mono ?_⟩
        rintro e w' ⟨rfl, rfl⟩
        have hszw := HB.out.2.1.2
        gi_wp2_with (gi_at_builtin; go_loud (refine app_sl_in elStr rfl (.tmp 22) (.tmp 24) rfl (w.heap.size + 7) _ _ _ rfl (HB.out.2.2.2.1.alloc _) rfl (Sl.new _ [_] _ 1 1 1 rfl (Nat.le_refl _) (by decide) _) (fun u hu => by rw [List.mem_singleton] at hu; subst hu; rfl) (by omega) (by simp; omega) ?_); intro v6 w6 hown6 hgr6; obtain ⟨ao6, cp6, rfl⟩ := own_shape hown6; go_loud (have hb06 := grown_same hgr6 (heap_alloc_keep HB.out.2.2.1 _) (row_ne HB.out.2.2.2.1 HB.out.2.2.1 (by decide))); go_loud (have c06 : w6.cell? ⟨w.heap.size, 0, none⟩ = some (.slice ao ls.length cap) := cell_of_heap hb06 0); go_loud (have f06 := free_of_heap hb06))
        obtain ⟨-, hlen2, hb0, hown, hb1, hb2, hb3, hfa⟩ := HB.out
        have hG : ∀ (k : Nat) (c : Array Value) (t : TypeId) (f : Nat × Nat), W.heap[k]? = some (Obj.cells c t f) → t ≠ 9 → w6.heap[k]? = some (Obj.cells c t f) := fun k c t f hc ht => grown_same hgr6 (heap_alloc_keep hc _) (row_ne hown hc ht)
        refine ⟨?_, ?_, ls ++ [x], .slice ao6 (ls.length + 1) cp6, ?_, ?_, ?_, ?_, ?_, ?_, ?_, ?_⟩
        · refine ((KeepsOthers.alloc W _).trans (KeepsOthers.of_grownBy hgr6 ?_)).trans (KeepsOthers.setCell _ _ _)
          intro j o hj ho
          obtain ⟨_, c, hc⟩ := own_block hown hj
          rw [heap_alloc_keep hc _] at ho
          cases ho; rfl
        · intro k o hk ho
          rw [Below.heap_setCell _ _ _ _ (show k ≠ w.heap.size by omega)]
          refine grown_same hgr6 (heap_alloc_keep ho _) fun e => ?_
          have := (own_block hown e.symm).1; omega
        · rw [HB.out.1, HP.out.2]; rfl
        · have := hgr6.size
          simp only [World.size_alloc] at this
          exact ⟨by simp; omega, by simp [World.setCell]; omega⟩
        · exact heap_set hb06 0 _
        · rw [List.length_append, List.length_singleton]
          have : strs (ls ++ [x]) = strs ls ++ [.string (bs x)] := by simp [strs]
          rw [this]
          refine own_fr hown6 ((Fr.refl _ w6).setCell (K := fun k _ => k ≠ w.heap.size) (fun o _ h => h rfl) _) fun g c f hg hc => ?_
          have := (own_block hown6 hg).1; omega
        · exact heap_set_ne (hG _ _ _ _ hb1 (by decide)) (show w.heap.size + 1 ≠ w.heap.size by omega) _
        · exact heap_set_ne (hG _ _ _ _ hb2 (by decide)) (show w.heap.size + 2 ≠ w.heap.size by omega) _
        · exact heap_set_ne (hG _ _ _ _ hb3 (by decide)) (show w.heap.size + 3 ≠ w.heap.size by omega) _
        · refine ((hfa.alloc _).grownNew hgr6 (fun k e => ?_)).setCell (fun o ho => absurd (lt_of_heap ho) (by simp only; omega)) _
          have := (own_block hown e).1; omega
  · have b1 : ((((w.alloc (.cells #[.slice none 0 0] 43)).alloc (.cells #[.slice none 0 0] 43)).alloc (.cells #[.int .i64 51] 26)).alloc (.cells #[.int .i64 0] 3)).heap[w.heap.size + 1]? = some (.cells #[.slice none 0 0] 43 (0, 0)) := by
      refine heap_alloc_keep (heap_alloc_keep ?_ _) _
      have := heap_alloc_new (w.alloc (.cells #[.slice none 0 0] 43)) (.cells #[.slice none 0 0] 43); simpa using this
    have b2 : ((((w.alloc (.cells #[.slice none 0 0] 43)).alloc (.cells #[.slice none 0 0] 43)).alloc (.cells #[.int .i64 51] 26)).alloc (.cells #[.int .i64 0] 3)).heap[w.heap.size + 1 + 1]? = some (.cells #[.int .i64 51] 26 (0, 0)) := by
      refine heap_alloc_keep ?_ _
      have := heap_alloc_new ((w.alloc (.cells #[.slice none 0 0] 43)).alloc (.cells #[.slice none 0 0] 43)) (.cells #[.int .i64 51] 26); simpa using this
    have k1 := cell_of_heap b1 0
    have k2 := cell_of_heap b2 0
    have HK := Lib.hid (And.intro k1 k2)
    clear b1 b2 k1 k2
    gi_wp2
    refine ⟨_, walk_res rfl rfl HK.out.1 HK.out.2, ((((Fr.refl _ w).alloc _).alloc _).alloc _).alloc _, .inr ⟨51, ?_, rfl, by decide⟩⟩
    rw [HR.out.1, if_pos (by simp)]

end Go.Proofs.YtbhjdddiihfafaaGreatDoor
/- Package path: Clean. -/
namespace Go.Proofs.YtbhjdddiihfafaaGreatDoor
open Go.RowKit Go.Maps

theorem join_joinc (l : List (List UInt8)) : Lib.join l [47] = joinc 47 l := by
  induction l with
  | nil => rfl
  | cons p l ih =>
    cases l with
    | nil => simp [Lib.join_one, joinc]
    | cons q r =>
      rw [joinc, ← ih, Lib.join_cons, Lib.join_cons]
      simp [Lib.joinTail]

theorem Parts_nil (w : World) : Calls Tryz.prog 183 #[.string ⟨#[]⟩] w fun e w' => e = .returned (.slice none 0 0) ∧ w = w' := by
  go_enter Tryz.func183, Tryz.ntmps183
  go_wp2
  go_ret
  exact ⟨rfl, rfl⟩

set_option maxRecDepth 100000 in
theorem Join_nil (w : World) (s : List UInt8) (hs : s.length ≤ 1048576) : Calls Tryz.prog 135 #[.string ⟨#[]⟩, .string (bs s)] w fun e w' => e = .returned (.tuple #[.string (bs (cleanF s).1), .int .i64 (cleanF s).2]) ∧ FrA w w' := by
  have hsz : (bs s).size = s.length := bs_size s
  by_cases h200 : 200 < s.length
  · have hc : cleanF s = ([], 50) := by unfold cleanF partsF; rw [if_pos h200]
    rw [hc]
    have h2 : (200 : Int) < (s.length : Int) := by omega
    clear hc h200
    go_enter Tryz.func135, Tryz.ntmps135
    go_wp2
    go_ret2
    exact ⟨rfl, Fr.refl _ _⟩
  · have h2 : ¬ (200 : Int) < (s.length : Int) := by omega
    have hW := fun w' => walk_any w' s (by omega)
    have hp : partsF s = if [47].isPrefixOf s then .error 51 else walkF (splitc 47 s) [] := by unfold partsF; rw [if_neg h200]
    rw [← hp] at hW
    have hJ : ∀ l, partsF s = .ok l → (Lib.join l [47]).length ≤ 1048576 ∧ l.length ≤ 1048576 := by
      intro l hl
      rw [hp] at hl
      split at hl
      · cases hl
      · obtain ⟨h1, h3, _⟩ := walkF_ok (P := fun _ => True) _ _ _ hl (fun _ _ => trivial) (by simp)
        have h4 := joinc_len 47 l
        have h5 := tot_splitc 47 s
        have h6 : tot [] = 0 := rfl
        rw [join_joinc]
        omega
    have HW := Lib.hid (And.intro hW hJ)
    obtain ⟨r, hr⟩ : ∃ r, r = cleanF s := ⟨_, rfl⟩
    rw [← hr]
    have HR := Lib.hid hr
    clear hW hp hJ h200 hr
    go_enter Tryz.func135, Tryz.ntmps135
    go_wp2_with (first | (go_at_call 183; refine (Parts_nil _).mono ?_; rintro e w3 ⟨rfl, rfl⟩))
    refine (HW.out.1 w).mono ?_
    rintro e w4 ⟨hf, ⟨l, v, hl, rfl, hown⟩ | ⟨er, hl, rfl, her⟩⟩
    · obtain ⟨ao, cap, rfl⟩ := own_shape hown
      have hJn := Join_any w4 l [47] rfl (Sl.of_own hown) (HW.out.2 l hl).2 (by have := (HW.out.2 l hl).1; omega)
      have HJ := Lib.hid (And.intro hJn (And.intro hl hf))
      clear hJn hl hown hf
      go_wp2_with (first | (go_at_call 184; refine HJ.out.1.mono ?_; rintro e w5 ⟨rfl, hf5⟩))
      go_ret2
      have : r = (joinc 47 l, 0) := by rw [HR.out]; unfold cleanF; rw [HJ.out.2.1]
      rw [this, ← join_joinc]
      exact ⟨rfl, HJ.out.2.2.trans hf5⟩
    · have hne : (er == 0) = false := by simpa using her
      have hr : r = ([], er) := by rw [HR.out]; unfold cleanF; rw [hl]
      have HR := Lib.hid hr
      clear hr hl
      go_wp2
      go_ret2
      rw [HR.out]
      exact ⟨rfl, hf⟩

set_option maxRecDepth 100000 in
theorem Clean_any (w : World) (s : List UInt8) (hs : s.length ≤ 1048576) : Calls Tryz.prog 72 #[.string (bs s)] w fun e w' => e = .returned (.tuple #[.string (bs (cleanF s).1), .int .i64 (cleanF s).2]) ∧ FrA w w' := by
  obtain ⟨r, hr⟩ : ∃ r, r = cleanF s := ⟨_, rfl⟩
  have hJ := fun w' => Join_nil w' s hs
  rw [← hr] at hJ ⊢
  have HJ := Lib.hid hJ
  clear hJ hr
  go_enter Tryz.func72, Tryz.ntmps72
  go_wp2_with (first | (go_at_call 135; refine (HJ.out _).mono ?_; rintro e w5 ⟨rfl, hf5⟩))
  go_ret2
  exact ⟨rfl, hf5⟩

end Go.Proofs.YtbhjdddiihfafaaGreatDoor
