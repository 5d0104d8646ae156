/- What a store's map tells behind a save. Plain Lean. -/
import Derived.Test.YtbhjdddiihfafaaGreatDoorJLoad
set_option linter.unusedVariables false
set_option linter.unusedSimpArgs false
namespace Go.Proofs.YtbhjdddiihfafaaGreatDoor
open Go.RowKit Go.Maps

theorem kman_lock : kMan ≠ kLock := by decide
theorem kman_tree : kMan ≠ kTree := by decide
theorem klock_tree : kLock ≠ kTree := by decide

theorem kget_put3 (m : Sm) (M L T : List UInt8) :
    kget (kput (kput (kput m (.string kMan) M) (.string kLock) L) (.string kTree) T) (.string kMan) = some M ∧
    kget (kput (kput (kput m (.string kMan) M) (.string kLock) L) (.string kTree) T) (.string kLock) = some L ∧
    kget (kput (kput (kput m (.string kMan) M) (.string kLock) L) (.string kTree) T) (.string kTree) = some T := by
  refine ⟨?_, ?_, kget_put_self _ _ _⟩
  · rw [kget_put_ne _ _ (Ne.symm kman_tree), kget_put_ne _ _ (Ne.symm kman_lock), kget_put_self]
  · rw [kget_put_ne _ _ (Ne.symm klock_tree), kget_put_self]

theorem change_save (m : Sm) (M L : List UInt8) (fl : List Fl) (mo : List Pr) :
    changeF m (savePs M L fl mo) = changeF (kput (kput (kput m (.string kMan) M) (.string kLock) L) (.string kTree) (filesB fl)) mo := by
  unfold savePs
  rw [changeF_append]
  unfold changeF
  simp [bs_data]

/-- Pairs that leave a state's keys alone. -/
def Beside (mo : List Pr) : Prop := ∀ p ∈ mo, ∃ r, p.key.data.toList = 120 :: 47 :: r

theorem Beside.ne {mo : List Pr} (h : Beside mo) : ∀ p ∈ mo, p.key.data.toList ≠ kMan ∧ p.key.data.toList ≠ kLock ∧ p.key.data.toList ≠ kTree := by
  intro p hp
  obtain ⟨r, hr⟩ := h p hp
  rw [hr]
  exact ⟨fun e => by simp [kMan] at e, fun e => by simp [kLock] at e, fun e => by simp [kTree] at e⟩

theorem gets_save (m : Sm) (M L : List UInt8) (fl : List Fl) {mo : List Pr} (h : Beside mo) :
    gets (changeF m (savePs M L fl mo)) kMan = M ∧ gets (changeF m (savePs M L fl mo)) kLock = L ∧ gets (changeF m (savePs M L fl mo)) kTree = filesB fl := by
  rw [change_save]
  obtain ⟨h1, h2, h3⟩ := kget_put3 m M L (filesB fl)
  unfold gets
  rw [kget_change_ne _ _ _ (fun p hp => (h.ne p hp).1), kget_change_ne _ _ _ (fun p hp => (h.ne p hp).2.1), kget_change_ne _ _ _ (fun p hp => (h.ne p hp).2.2), h1, h2, h3]
  exact ⟨rfl, rfl, rfl⟩

theorem gets_beside (m : Sm) {mo : List Pr} (h : Beside mo) : gets (changeF m mo) kMan = gets m kMan ∧ gets (changeF m mo) kLock = gets m kLock ∧ gets (changeF m mo) kTree = gets m kTree := by
  unfold gets
  rw [kget_change_ne _ _ _ (fun p hp => (h.ne p hp).1), kget_change_ne _ _ _ (fun p hp => (h.ne p hp).2.1), kget_change_ne _ _ _ (fun p hp => (h.ne p hp).2.2)]
  exact ⟨rfl, rfl, rfl⟩

/-- Nothing is cached. -/
def NoC (m : Sm) : Prop := ∀ q ∈ m, ([99, 47] : List UInt8).isPrefixOf (keyS q.1) = false

theorem NoC.nil : NoC [] := by intro q hq; cases hq

theorem NoC.keys {m : Sm} (h : NoC m) : keysF m [99, 47] = [] := by
  unfold keysF
  rw [List.filter_eq_nil_iff]
  intro k hk
  obtain ⟨q, hq, rfl⟩ := List.mem_map.1 hk
  rw [h q hq]; simp

theorem NoC.put {m : Sm} (h : NoC m) {k : List UInt8} (hk : ([99, 47] : List UInt8).isPrefixOf k = false) (v : List UInt8) : NoC (kput m (.string k) v) := by
  intro q hq
  rcases mem_kput hq with rfl | hq
  · exact hk
  · exact h q hq

theorem NoC.del {m : Sm} (h : NoC m) (k : List UInt8) : NoC (kdel m (.string k)) := fun q hq => h q (List.mem_filter.1 hq).1

theorem NoC.change : ∀ (l : List Pr) {m : Sm}, NoC m → (∀ p ∈ l, ([99, 47] : List UInt8).isPrefixOf p.key.data.toList = false) → NoC (changeF m l)
  | [], _, h, _ => h
  | p :: l, m, h, hl => by
    have e : changeF m (p :: l) = changeF (changeF m [p]) l := changeF_append m [p] l
    rw [e]
    refine NoC.change l ?_ fun q hq => hl q (by simp [hq])
    have hp := hl p (by simp)
    unfold changeF
    simp only [List.foldl_cons, List.foldl_nil]
    split
    · exact h.del _
    · exact h.put hp _

theorem Beside.noC {mo : List Pr} (h : Beside mo) : ∀ p ∈ mo, ([99, 47] : List UInt8).isPrefixOf p.key.data.toList = false := by
  intro p hp
  obtain ⟨r, hr⟩ := h p hp
  rw [hr]; rfl

theorem NoC.save {m : Sm} (h : NoC m) (M L : List UInt8) (fl : List Fl) {mo : List Pr} (hm : Beside mo) : NoC (changeF m (savePs M L fl mo)) := by
  refine NoC.change _ h fun p hp => ?_
  unfold savePs at hp
  rcases List.mem_append.1 hp with hp | hp
  · simp only [List.mem_cons, List.not_mem_nil, or_false] at hp
    rcases hp with rfl | rfl | rfl <;> rfl
  · exact hm.noC p hp

/-- A bound on an archive's length. -/
theorem packL_len (l : List Fl) (P B : Nat) (h : ∀ f ∈ l, f.path.length ≤ P ∧ f.b.length ≤ B) : (packL l).length ≤ 5 + l.length * (11 + P + B) := by
  have key : ∀ l : List Fl, (∀ f ∈ l, f.path.length ≤ P ∧ f.b.length ≤ B) → (l.flatMap packF).length ≤ l.length * (11 + P + B) := by
    intro l
    induction l with
    | nil => simp
    | cons f l ih =>
      intro h
      have ih := ih fun g hg => h g (by simp [hg])
      have hf := h f (by simp)
      have : (packF f).length ≤ 11 + P + B := by
        unfold packF
        cases f.dir <;> simp [beP_length] <;> omega
      rw [List.flatMap_cons, List.length_append, List.length_cons, Nat.succ_mul]
      omega
  have := key l h
  unfold packL
  simp only [List.length_append, List.length_cons, List.length_nil]
  omega

end Go.Proofs.YtbhjdddiihfafaaGreatDoor
