/- What the store writes of a pair, and reads of it. Plain Lean. -/
import Derived.Test.YtbhjdddiihfafaaGreatDoorJKeys2
import Derived.Test.YtbhjdddiihfafaaGreatDoorJTry
set_option linter.unusedVariables false
set_option linter.unusedSimpArgs false
namespace Go.Proofs.YtbhjdddiihfafaaGreatDoor

/-- What a number's bytes are read as. -/
theorem rnum_num (r : List UInt8) : ∀ (k x i n : Nat), x < 2 ^ k → 7 * i + k ≤ 64 → (0 < i → 0 < x) → rnum i n (num x ++ r) = some (n + x * 2 ^ (7 * i), r) := by
  intro k
  induction k using Nat.strongRecOn with
  | _ k ih =>
    intro x i n hx hk hp
    by_cases h : x < 128
    · rw [num_small h, List.cons_append, List.nil_append, rnum_cons]
      have hto : (UInt8.ofNat x).toNat = x := by rw [UInt8.toNat_ofNat']; omega
      have h0 : UInt8.ofNat x ≠ 0 ↔ x ≠ 0 := by rw [Ne, ← UInt8.toNat_inj, hto]; rfl
      rw [hto]
      have hi : i < 9 ∨ x ≤ 1 := by
        by_cases h9 : i < 9
        · exact .inl h9
        · right
          by_cases hk1 : k ≤ 1
          · have : 2 ^ k ≤ 2 ^ 1 := Nat.pow_le_pow_right (by decide) hk1
            omega
          · omega
      have h10 : i < 10 := by
        by_cases h10 : i < 10
        · exact h10
        · have := hp (by omega)
          by_cases hk0 : k = 0
          · subst hk0; simp at hx; omega
          · omega
      rw [if_pos ⟨h10, hi⟩, if_pos h, if_pos]
      by_cases hi0 : i = 0
      · exact .inr hi0
      · exact .inl (h0.2 (by have := hp (by omega); omega))
    · have hk7 : 7 < k := by
        refine Decidable.byContradiction fun hn => h ?_
        have : 2 ^ k ≤ 2 ^ 7 := Nat.pow_le_pow_right (by decide) (by omega)
        omega
      rw [num_big h, List.cons_append, rnum_cons]
      have hto : (UInt8.ofNat (x % 128 + 128)).toNat = x % 128 + 128 := by rw [UInt8.toNat_ofNat']; omega
      rw [hto, if_pos (by omega), if_neg (by omega)]
      have hx2 : x / 128 < 2 ^ (k - 7) := by
        rw [Nat.div_lt_iff_lt_mul (by decide), show (128 : Nat) = 2 ^ 7 from rfl, ← Nat.pow_add]
        rwa [show k - 7 + 7 = k by omega]
      rw [ih (k - 7) (by omega) (x / 128) (i + 1) _ hx2 (by omega) (fun _ => by omega)]
      have e : 2 ^ (7 * (i + 1)) = 128 * 2 ^ (7 * i) := by rw [Nat.mul_add, Nat.pow_add, Nat.mul_comm]
      have e2 : n + (x % 128 + 128 - 128) * 2 ^ (7 * i) + x / 128 * 2 ^ (7 * (i + 1)) = n + x * 2 ^ (7 * i) := by
        rw [e]
        generalize 2 ^ (7 * i) = P
        rw [← Nat.mul_assoc, Nat.add_assoc, ← Nat.add_mul]
        have : x % 128 + 128 - 128 + x / 128 * 128 = x := by omega
        rw [this]
      rw [e2]

theorem rnum_of (x : Nat) (r : List UInt8) (h : x < 2 ^ 64) : rnum 0 0 (num x ++ r) = some (x, r) := by
  rw [rnum_num r 64 x 0 0 h (by omega) (by omega)]; simp

theorem rtext_of (s : ByteArray) (r : List UInt8) (h : s.size < 2 ^ 64) : rtext (txt s ++ r) = some (s.data.toList, r) := by
  have hl : s.data.toList.length = s.size := by rw [Array.length_toList]; rfl
  rw [rtext, txt, List.append_assoc, rnum_of _ _ h]
  simp only [List.length_append, hl]
  rw [if_pos (by omega), ← hl, List.take_left' rfl, List.drop_left' rfl]

theorem rbool_of (b : Bool) (r : List UInt8) : rbool (truth b ++ r) = some (b, r) := by
  cases b
  · simp [truth, num_small, rbool]
  · simp [truth, num_small, rbool]

/-- A pair of the store: its key, its value, whether it goes. -/
structure Pr where
  key : ByteArray
  val : ByteArray
  gone : Bool

/-- Its record. -/
def Pr.enc (p : Pr) : List UInt8 := truth p.gone ++ txt p.key ++ (if p.gone then [] else txt p.val)

/-- All was read, and it didn't fail. -/
def rdEnd : Option (List UInt8) → Bool
  | some [] => true
  | _ => false

/-- A record, read: the pair, and whether it was one. -/
def pairF (l : List UInt8) : Pr × Bool :=
  let a := rdStep rbool false (some l)
  let b := rdStep rtext [] a.2
  if a.1 then (⟨bs b.1, ByteArray.empty, true⟩, rdEnd b.2)
  else let c := rdStep rtext [] b.2; (⟨bs b.1, bs c.1, false⟩, rdEnd c.2)

/-- What a record says: the value of a pair that goes is none. -/
def Pr.norm (p : Pr) : Pr := if p.gone then { p with val := ByteArray.empty } else p

theorem pairF_enc (p : Pr) (h1 : p.key.size < 2 ^ 64) (h2 : p.val.size < 2 ^ 64) : pairF p.enc = (p.norm, true) := by
  obtain ⟨k, v, g⟩ := p
  cases g
  · simp only [Pr.enc, Pr.norm, pairF, rdStep]
    rw [List.append_assoc, rbool_of]
    simp only [Bool.false_eq_true, if_false]
    rw [rtext_of _ _ h1]
    have := rtext_of v [] h2
    rw [List.append_nil] at this
    simp only
    rw [this]
    simp [bs_of, rdEnd]
  · simp only [Pr.enc, Pr.norm, pairF, rdStep]
    rw [List.append_assoc, rbool_of]
    simp only [if_true]
    rw [rtext_of _ _ h1]
    simp [bs_of, rdEnd]

theorem num_len (x : Nat) : ∀ (k : Nat), x < 2 ^ (7 * (k + 1)) → (num x).length ≤ k + 1 := by
  intro k
  induction k generalizing x with
  | zero => intro h; rw [num_small (by simpa using h)]; simp
  | succ k ih =>
    intro h
    by_cases h1 : x < 128
    · rw [num_small h1]; simp
    · rw [num_big h1, List.length_cons]
      have : x / 128 < 2 ^ (7 * (k + 1)) := by
        rw [Nat.div_lt_iff_lt_mul (by decide), show (128 : Nat) = 2 ^ 7 from rfl, ← Nat.pow_add]
        rwa [show 7 * (k + 1) + 7 = 7 * (k + 1 + 1) by omega]
      have := ih _ this
      omega

theorem Pr.enc_len (p : Pr) (h1 : p.key.size < 2 ^ 21) (h2 : p.val.size < 2 ^ 21) : p.enc.length ≤ 7 + p.key.size + p.val.size := by
  have hk : p.key.data.toList.length = p.key.size := by rw [Array.length_toList]; rfl
  have hv : p.val.data.toList.length = p.val.size := by rw [Array.length_toList]; rfl
  have n1 := num_len p.key.size 2 h1
  have n2 := num_len p.val.size 2 h2
  have nt : ∀ b, (truth b).length = 1 := fun b => by cases b <;> simp [truth, num_small]
  unfold Pr.enc txt
  split
  · simp only [List.length_append, nt, hk, List.length_nil]; omega
  · simp only [List.length_append, nt, hk, hv]; omega

end Go.Proofs.YtbhjdddiihfafaaGreatDoor
/- Paths and trees, plain Lean: what the program computes of them, and what stays true of it. -/
namespace Go.Proofs.YtbhjdddiihfafaaGreatDoor
open Go.Maps

/-- What stands between bytes c. -/
def splitc (c : UInt8) : List UInt8 → List (List UInt8)
  | [] => [[]]
  | x :: r => if x = c then [] :: splitc c r else match splitc c r with
    | p :: q => (x :: p) :: q
    | [] => [[x]]

/-- Lists of bytes, one behind another, with a byte between. -/
def joinc (c : UInt8) : List (List UInt8) → List UInt8
  | [] => []
  | [p] => p
  | p :: q :: r => p ++ c :: joinc c (q :: r)

/-- May a byte stand in a path's part? -/
def rightB (c : UInt8) : Bool := decide (32 < c.toNat) && decide (c.toNat < 127) && c != 34 && c != 92 && c != 42 && c != 63 && c != 58

/-- May a part be so? -/
def partB (s : List UInt8) : Bool := decide (s.length ≤ 32) && s.all rightB

/-- A path's parts: an error's number, or the parts. -/
def walkF : List (List UInt8) → List (List UInt8) → Except Int (List (List UInt8))
  | [], l => if 12 < l.length then .error 50 else .ok l
  | x :: xs, l =>
    if x = [] ∨ x = [46] then walkF xs l
    else if x = [46, 46] then (if l = [] then .error 51 else walkF xs l.dropLast)
    else if partB x then walkF xs (l ++ [x]) else .error 50

def partsF (s : List UInt8) : Except Int (List (List UInt8)) :=
  if 200 < s.length then .error 50 else if [47].isPrefixOf s then .error 51 else walkF (splitc 47 s) []

/-- 'path.Clean'. -/
def cleanF (s : List UInt8) : List UInt8 × Int :=
  match partsF s with
  | .error e => ([], e)
  | .ok l => (joinc 47 l, 0)

/-- The place of the last byte c, or -1. -/
def lastB (c : UInt8) (s : List UInt8) : Int := match s.reverse.findIdx? (· == c) with
  | none => -1
  | some k => (s.length : Int) - 1 - k

/-- 'path.Parent'. -/
def parentF (p : List UInt8) : List UInt8 := p.take (max (lastB 47 p) 0).toNat

theorem parentF_lt (p : List UInt8) (h : p ≠ []) : (parentF p).length < p.length := by
  have hp : 0 < p.length := List.length_pos_iff.2 h
  unfold parentF lastB
  cases hf : p.reverse.findIdx? (· == 47) with
  | none => simp; exact hp
  | some k =>
    simp only
    rw [List.length_take]
    omega

/-- A tree: what there is, by path (a directory; a file's bytes); the bytes of all files. -/
structure Tm where
  m : List (Lit × (Bool × List UInt8))
  size : Int

def Tm.at (t : Tm) (p : List UInt8) : Option (Bool × List UInt8) := if p = [] then some (true, []) else kget t.m (.string p)

/-- The directories that lack ahead of a path, from below; none: one of them is a file. -/
def aheadF (m : List (Lit × (Bool × List UInt8))) (p : List UInt8) : Option (List (List UInt8)) :=
  if h : p = [] then some [] else
  if parentF p = [] then some [] else
  match kget m (.string (parentF p)) with
  | none => (aheadF m (parentF p)).map (parentF p :: ·)
  | some (true, _) => aheadF m (parentF p)
  | some (false, _) => none
termination_by p.length
decreasing_by
  all_goals exact parentF_lt p h

def Tm.room (t : Tm) (files bytes : Int) : Bool := decide (files ≤ 500 - t.m.length) && decide (bytes ≤ 1048576 - t.size)

def makeF (m : List (Lit × (Bool × List UInt8))) (l : List (List UInt8)) : List (Lit × (Bool × List UInt8)) := l.foldl (fun m d => kput m (.string d) (true, [])) m

def isDirF : Option (Bool × List UInt8) → Bool
  | some (d, _) => d
  | none => false

def oldLen : Option (Bool × List UInt8) → Int
  | some (_, o) => o.length
  | none => 0

def newCnt (k : Nat) : Option (Bool × List UInt8) → Int
  | some _ => 0
  | none => k + 1

/-- 'put' of a path that is clean, not appending. -/
def Tm.putC (t : Tm) (p : List UInt8) (b : List UInt8) : Int × Tm :=
  if isDirF (t.at p) then (54, t) else
  match aheadF t.m p with
  | none => (54, t)
  | some lack =>
    if 65536 < b.length ∨ t.room (newCnt lack.length (t.at p)) (b.length - oldLen (t.at p)) = false then (55, t)
    else (0, { m := kput (makeF t.m lack) (.string p) (false, b), size := t.size + (b.length - oldLen (t.at p)) })

def Tm.write (t : Tm) (s : List UInt8) (b : List UInt8) : Int × Tm := if (cleanF s).2 ≠ 0 then ((cleanF s).2, t) else t.putC (cleanF s).1 b

def Tm.mkdirC (t : Tm) (p : List UInt8) : Int × Tm :=
  match t.at p with
  | some (true, _) => (0, t)
  | some (false, _) => (54, t)
  | none => match aheadF t.m p with
    | none => (54, t)
    | some lack => if t.room (lack.length + 1) 0 then (0, { t with m := makeF t.m (lack ++ [p]) }) else (55, t)

def Tm.mkdir (t : Tm) (s : List UInt8) : Int × Tm := if (cleanF s).2 ≠ 0 then ((cleanF s).2, t) else t.mkdirC (cleanF s).1

/-- A file of a tree. -/
structure Fl where
  path : List UInt8
  dir : Bool
  b : List UInt8

/-- 'tree.Of': the tree of files, those seen so far. -/
def ofF : List Fl → List (List UInt8) → Tm → Int × Tm
  | [], _, t => (0, t)
  | f :: r, seen, t =>
    if (cleanF f.path).2 ≠ 0 then ((cleanF f.path).2, t) else
    let p := (cleanF f.path).1
    if p ∈ seen ∨ (f.dir && isDirF (t.at p)) = true then (53, t) else
    let x := if f.dir then t.mkdir p else t.write p f.b
    if x.1 ≠ 0 then x else ofF r (p :: seen) x.2

def Tm.files (t : Tm) : List Fl := t.m.map fun q => ⟨(match q.1 with | .string s => s | _ => []), q.2.1, q.2.2⟩
/-! ### what a clean path is -/
def tot (l : List (List UInt8)) : Nat := (l.map fun p => p.length + 1).sum

theorem tot_app (a b : List (List UInt8)) : tot (a ++ b) = tot a + tot b := by simp [tot]

theorem tot_splitc (c : UInt8) (s : List UInt8) : tot (splitc c s) = s.length + 1 := by
  induction s with
  | nil => rfl
  | cons x r ih =>
    unfold splitc
    split
    · simp [tot] at ih ⊢; omega
    · split
      · rename_i p q h; rw [h] at ih; simp [tot] at ih ⊢; omega
      · rename_i h; rw [h] at ih; simp [tot] at ih

theorem splitc_free (c : UInt8) (s : List UInt8) : ∀ p ∈ splitc c s, c ∉ p := by
  induction s with
  | nil => intro p hp; simp [splitc] at hp; subst hp; simp
  | cons x r ih =>
    intro p hp
    unfold splitc at hp
    split at hp
    · rcases List.mem_cons.1 hp with rfl | hp
      · simp
      · exact ih p hp
    · rename_i hx
      split at hp
      · rename_i p' q h
        rcases List.mem_cons.1 hp with rfl | hp
        · have := ih p' (by rw [h]; simp)
          intro hc
          rcases List.mem_cons.1 hc with rfl | hc
          · exact hx rfl
          · exact this hc
        · exact ih p (by rw [h]; simp [hp])
      · simp at hp; subst hp
        intro hc; simp at hc; exact hx hc.symm

theorem walkF_ok {P : List UInt8 → Prop} : ∀ (xs l r : List (List UInt8)), walkF xs l = .ok r → (∀ p ∈ xs, P p) → (∀ p ∈ l, P p ∧ p ≠ [] ∧ p.length ≤ 32) → tot r ≤ tot l + tot xs ∧ r.length ≤ 12 ∧ ∀ p ∈ r, P p ∧ p ≠ [] ∧ p.length ≤ 32
  | [], l, r, h, _, hl => by
    unfold walkF at h
    split at h
    · cases h
    · cases h; exact ⟨by simp [tot], by omega, hl⟩
  | x :: xs, l, r, h, hx, hl => by
    have hcons : tot (x :: xs) = x.length + 1 + tot xs := by simp [tot]
    unfold walkF at h
    split at h
    · have := walkF_ok xs l r h (fun p hp => hx p (by simp [hp])) hl
      exact ⟨by omega, this.2⟩
    · rename_i h1
      split at h
      · split at h
        · cases h
        · have := walkF_ok xs l.dropLast r h (fun p hp => hx p (by simp [hp])) (fun p hp => hl p (List.dropLast_subset _ hp))
          refine ⟨?_, this.2⟩
          have h2 : tot l.dropLast ≤ tot l := by
            rcases List.eq_nil_or_concat l with rfl | ⟨i, b, rfl⟩
            · simp
            · rw [List.concat_eq_append, List.dropLast_concat, tot_app]; omega
          omega
      · split at h
        · rename_i hp
          have := walkF_ok xs (l ++ [x]) r h (fun p hp => hx p (by simp [hp])) (fun p hq => by
            rcases List.mem_append.1 hq with hq | hq
            · exact hl p hq
            · simp at hq; subst hq
              refine ⟨hx p (by simp), fun e => h1 (.inl e), ?_⟩
              unfold partB at hp
              simp at hp; exact hp.1)
          rw [tot_app] at this
          refine ⟨?_, this.2⟩
          have e : tot [x] = x.length + 1 := by simp [tot]
          omega
        · cases h

theorem joinc_len (c : UInt8) : ∀ l : List (List UInt8), (joinc c l).length ≤ tot l - 1
  | [] => by simp [joinc]
  | [p] => by simp [joinc, tot]
  | p :: q :: r => by
    have := joinc_len c (q :: r)
    have h1 : 0 < tot (q :: r) := by simp [tot]; omega
    have h2 : tot (p :: q :: r) = p.length + 1 + tot (q :: r) := by simp [tot]
    simp only [joinc, List.length_append, List.length_cons]; omega

theorem joinc_count (c : UInt8) : ∀ l : List (List UInt8), (∀ p ∈ l, c ∉ p) → (joinc c l).count c = l.length - 1
  | [], _ => by simp [joinc]
  | [p], h => by simp [joinc]; exact List.count_eq_zero.2 (h p (by simp))
  | p :: q :: r, h => by
    have := joinc_count c (q :: r) (fun x hx => h x (by simp [hx]))
    rw [joinc, List.count_append, List.count_cons_self, this, List.count_eq_zero.2 (h p (by simp))]
    simp

theorem cleanF_ok {s p : List UInt8} (h : cleanF s = (p, 0)) : p.length ≤ 200 ∧ p.count 47 ≤ 11 := by
  unfold cleanF partsF at h
  split at h
  · rename_i e he
    split at he
    · cases he; simp at h
    · split at he
      · cases he; simp at h
      · have key : ∀ (xs l : List (List UInt8)) e, walkF xs l = .error e → e ≠ 0 := by
          intro xs
          induction xs with
          | nil => intro l e h; unfold walkF at h; split at h <;> cases h; decide
          | cons x xs ih =>
            intro l e h
            unfold walkF at h
            split at h
            · exact ih _ _ h
            · split at h
              · split at h
                · cases h; decide
                · exact ih _ _ h
              · split at h
                · exact ih _ _ h
                · cases h; decide
        simp at h
        exact absurd h.2 (key _ _ _ he)
  · rename_i l hl
    split at hl
    · cases hl
    · rename_i h200
      split at hl
      · cases hl
      · cases h
        have h1 := walkF_ok (P := fun p => (47 : UInt8) ∉ p) _ _ _ hl (splitc_free 47 s) (by simp)
        have h2 := joinc_len 47 l
        have h3 := joinc_count 47 l (fun p hp => (h1.2.2 p hp).1)
        rw [tot_splitc] at h1
        have : tot [] = 0 := rfl
        exact ⟨by omega, by omega⟩

theorem lastB_cases (c : UInt8) (s : List UInt8) : (lastB c s = -1 ∧ c ∉ s) ∨ ∃ k : Nat, lastB c s = k ∧ k < s.length ∧ s[k]? = some c := by
  unfold lastB
  cases hf : s.reverse.findIdx? (· == c) with
  | none =>
    left
    refine ⟨rfl, fun hc => ?_⟩
    have := List.findIdx?_eq_none_iff.1 hf c (by simpa using hc)
    simp at this
  | some k =>
    right
    obtain ⟨hk, h1, _⟩ := List.findIdx?_eq_some_iff_getElem.1 hf
    rw [List.length_reverse] at hk
    refine ⟨s.length - 1 - k, by simp only; omega, by omega, ?_⟩
    rw [List.getElem_reverse] at h1
    rw [List.getElem?_eq_getElem (by omega)]
    simpa using h1

theorem parentF_count (p : List UInt8) (h : parentF p ≠ []) : (parentF p).count 47 + 1 ≤ p.count 47 ∧ (parentF p).length ≤ p.length := by
  have hl : (parentF p).length ≤ p.length := by unfold parentF; rw [List.length_take]; omega
  refine ⟨?_, hl⟩
  rcases lastB_cases 47 p with ⟨h1, _⟩ | ⟨k, h1, h2, h3⟩
  · unfold parentF at h; rw [h1] at h; exact absurd (by rw [show (max (-1 : Int) 0).toNat = 0 by decide]; rfl) h
  · unfold parentF
    rw [h1]
    have e : (max (k : Int) 0).toNat = k := by omega
    rw [e]
    have e2 : p = p.take k ++ 47 :: p.drop (k + 1) := by
      conv => lhs; rw [← List.take_append_drop k p, List.drop_eq_getElem_cons h2]
      rw [List.getElem?_eq_getElem h2] at h3
      simp at h3; rw [h3]
    conv => rhs; rw [e2]
    rw [List.count_append, List.count_cons_self]; omega

theorem aheadF_ok (m : List (Lit × (Bool × List UInt8))) : ∀ (n : Nat) (p : List UInt8), p.length = n → ∀ l, aheadF m p = some l → l.length ≤ p.count 47 ∧ ∀ d ∈ l, d.length ≤ p.length ∧ d ≠ [] := by
  intro n
  induction n using Nat.strongRecOn with
  | _ n ih =>
    intro p hp l h
    rw [aheadF] at h
    by_cases h0 : p = []
    · rw [dif_pos h0] at h; cases h; simp
    · rw [dif_neg h0] at h
      have hlt := parentF_lt p h0
      by_cases h1 : parentF p = []
      · rw [if_pos h1] at h; cases h; simp
      · rw [if_neg h1] at h
        have hc := parentF_count p h1
        split at h
        · obtain ⟨l', h2, rfl⟩ := Option.map_eq_some_iff.1 h
          have := ih _ (by omega) (parentF p) rfl l' h2
          refine ⟨by simp; omega, fun d hd => ?_⟩
          rcases List.mem_cons.1 hd with rfl | hd
          · exact ⟨hc.2, h1⟩
          · have := this.2 d hd; exact ⟨by omega, this.2⟩
        · have := ih _ (by omega) (parentF p) rfl l h
          exact ⟨by omega, fun d hd => by have := this.2 d hd; exact ⟨by omega, this.2⟩⟩
        · cases h
/-! ### what a tree stays -/
def msum (m : List (Lit × (Bool × List UInt8))) : Nat := (m.map fun q => q.2.2.length).sum

theorem msum_kins (x : Lit × (Bool × List UInt8)) : ∀ m, msum (kins x m) = x.2.2.length + msum m
  | [] => by simp [msum, kins]
  | y :: r => by
    unfold kins
    split
    · simp [msum]
    · have := msum_kins x r
      simp [msum] at this ⊢; omega

theorem msum_kdel (m : List (Lit × (Bool × List UInt8))) (k : Lit) : msum (kdel m k) ≤ msum m := by
  induction m with
  | nil => simp [kdel]
  | cons y r ih =>
    unfold kdel at ih ⊢
    rw [List.filter_cons]
    split
    · simp [msum] at ih ⊢; omega
    · simp [msum] at ih ⊢; omega

theorem msum_kput (m : List (Lit × (Bool × List UInt8))) (k : Lit) (v : Bool × List UInt8) : msum (kput m k v) ≤ msum m + v.2.length := by
  have := msum_kdel m k
  unfold kput; rw [msum_kins]; simp; omega

/-- A tree of at most n steps, each of at most 12 entries and B bytes. -/
structure Tm.Ok (t : Tm) (n B : Nat) : Prop where
  rise : Rise t.m
  key : ∀ q ∈ t.m, ∃ s : List UInt8, q.1 = .string s ∧ s.length ≤ 200
  val : ∀ q ∈ t.m, q.2.2.length ≤ B
  few : t.m.length ≤ 12 * n
  sum : msum t.m ≤ B * n
  s1 : -(B * n : Nat) ≤ t.size
  s2 : t.size ≤ (B * n : Nat)

theorem Tm.Ok.new (B : Nat) : Tm.Ok ⟨[], 0⟩ 0 B := ⟨by simp, by simp, by simp, by simp, by simp [msum], by simp, by simp⟩

theorem strs_one : Maps.OneKind (fun l => ∃ s : List UInt8, l = .string s) := by
  refine ⟨fun {a} ⟨i, h⟩ => by subst h; trivial, fun {a b} ⟨i, h1⟩ ⟨j, h2⟩ hne => ?_⟩
  subst h1; subst h2
  simp only [Lit.before]
  have hne : i ≠ j := fun e => hne (by rw [e])
  rw [bytes_lt, bytes_lt]
  by_cases h : i < j
  · exact .inl h
  · refine .inr (Std.lt_of_le_of_ne (Std.not_lt.1 h) (Ne.symm hne))

theorem Tm.put_ok {m : List (Lit × (Bool × List UInt8))} {n B : Nat} (rise : Rise m) (key : ∀ q ∈ m, ∃ s : List UInt8, q.1 = .string s ∧ s.length ≤ 200) (val : ∀ q ∈ m, q.2.2.length ≤ B) (few : m.length ≤ n) {p : List UInt8} {v : Bool × List UInt8}
    (hp : p.length ≤ 200) (hv : v.2.length ≤ B) : Rise (kput m (.string p) v) ∧ (∀ q ∈ kput m (.string p) v, ∃ s : List UInt8, q.1 = .string s ∧ s.length ≤ 200) ∧ (∀ q ∈ kput m (.string p) v, q.2.2.length ≤ B) ∧ (kput m (.string p) v).length ≤ n + 1 := by
  refine ⟨rise_kput strs_one ⟨p, rfl⟩ (fun q hq => by obtain ⟨s, h, _⟩ := key q hq; exact ⟨s, h⟩) rise, fun q hq => ?_, fun q hq => ?_, ?_⟩
  · rcases mem_kput hq with rfl | hq
    · exact ⟨p, rfl, hp⟩
    · exact key q hq
  · rcases mem_kput hq with rfl | hq
    · exact hv
    · exact val q hq
  · have := kput_length m (.string p) v; omega

theorem makeF_ok {B : Nat} : ∀ (l : List (List UInt8)) (m : List (Lit × (Bool × List UInt8))) (n : Nat), Rise m → (∀ q ∈ m, ∃ s : List UInt8, q.1 = .string s ∧ s.length ≤ 200) → (∀ q ∈ m, q.2.2.length ≤ B) → m.length ≤ n → (∀ d ∈ l, d.length ≤ 200) →
    Rise (makeF m l) ∧ (∀ q ∈ makeF m l, ∃ s : List UInt8, q.1 = .string s ∧ s.length ≤ 200) ∧ (∀ q ∈ makeF m l, q.2.2.length ≤ B) ∧ (makeF m l).length ≤ n + l.length ∧ msum (makeF m l) ≤ msum m
  | [], m, n, h1, h2, h3, h4, _ => ⟨h1, h2, h3, by simpa [makeF] using h4, Nat.le_refl _⟩
  | d :: l, m, n, h1, h2, h3, h4, h5 => by
    obtain ⟨g1, g2, g3, g4⟩ := Tm.put_ok h1 h2 h3 h4 (p := d) (v := (true, [])) (h5 d (by simp)) (by simp)
    have := makeF_ok l (kput m (.string d) (true, [])) (n + 1) g1 g2 g3 g4 (fun x hx => h5 x (by simp [hx]))
    have hs := msum_kput m (.string d) (true, [])
    refine ⟨this.1, this.2.1, this.2.2.1, ?_, ?_⟩
    · have := this.2.2.2.1; simp [makeF] at this ⊢; omega
    · have := this.2.2.2.2; simp [makeF] at this hs ⊢; omega

theorem kget_mem {α : Type} {l : List (Lit × α)} {k : Lit} {v : α} (h : kget l k = some v) : ∃ k', (k', v) ∈ l := by
  obtain ⟨q, hq, rfl⟩ := Option.map_eq_some_iff.1 h
  exact ⟨q.1, List.mem_of_find?_eq_some hq⟩

theorem Tm.Ok.at_len {t : Tm} {n B : Nat} (h : t.Ok n B) {p : List UInt8} {d : Bool} {b : List UInt8} (ha : t.at p = some (d, b)) : b.length ≤ B := by
  unfold Tm.at at ha
  split at ha
  · cases ha; simp
  · obtain ⟨k, hk⟩ := kget_mem ha
    exact h.val _ hk

theorem Tm.Ok.putC {t : Tm} {n B : Nat} (h : t.Ok n B) {p b : List UInt8} (hp : p.length ≤ 200 ∧ p.count 47 ≤ 11) (hb : b.length ≤ B) : (t.putC p b).2.Ok (n + 1) B := by
  have hw : t.Ok (n + 1) B := ⟨h.rise, h.key, h.val, by have := h.few; omega, by have := h.sum; rw [Nat.mul_succ]; omega, by have := h.s1; rw [Nat.mul_succ]; omega, by have := h.s2; rw [Nat.mul_succ]; omega⟩
  unfold Tm.putC
  split
  · exact hw
  · split
    · exact hw
    · rename_i lack hl
      have hah := aheadF_ok t.m _ p rfl lack hl
      split
      · exact hw
      · obtain ⟨g1, g2, g3, g4, g5⟩ := makeF_ok lack t.m _ h.rise h.key h.val h.few (fun d hd => by have := (hah.2 d hd).1; omega)
        obtain ⟨k1, k2, k3, k4⟩ := Tm.put_ok g1 g2 g3 g4 (p := p) (v := (false, b)) hp.1 hb
        have hs := msum_kput (makeF t.m lack) (.string p) (false, b)
        have hold : 0 ≤ oldLen (t.at p) ∧ oldLen (t.at p) ≤ B := by
          cases ho : t.at p with
          | none => simp [oldLen]
          | some x => have := h.at_len (d := x.1) (b := x.2) ho; simp only [oldLen]; omega
        have q1 := h.sum
        have q2 := h.s1
        have q3 := h.s2
        refine ⟨k1, k2, k3, by simp only; omega, by rw [Nat.mul_succ]; simp only at hs ⊢; omega, ?_, ?_⟩
        · rw [Nat.mul_succ]; simp only; omega
        · rw [Nat.mul_succ]; simp only; omega

theorem Tm.Ok.mkdirC {t : Tm} {n B : Nat} (h : t.Ok n B) {p : List UInt8} (hp : p.length ≤ 200 ∧ p.count 47 ≤ 11) : (t.mkdirC p).2.Ok (n + 1) B := by
  have hw : t.Ok (n + 1) B := ⟨h.rise, h.key, h.val, by have := h.few; omega, by have := h.sum; rw [Nat.mul_succ]; omega, by have := h.s1; rw [Nat.mul_succ]; omega, by have := h.s2; rw [Nat.mul_succ]; omega⟩
  unfold Tm.mkdirC
  split
  · exact hw
  · exact hw
  · split
    · exact hw
    · rename_i lack hl
      have hah := aheadF_ok t.m _ p rfl lack hl
      split
      · obtain ⟨g1, g2, g3, g4, g5⟩ := makeF_ok (lack ++ [p]) t.m _ h.rise h.key h.val h.few (fun d hd => by
          rcases List.mem_append.1 hd with hd | hd
          · have := (hah.2 d hd).1; omega
          · simp at hd; subst hd; exact hp.1)
        have q1 := h.sum
        have q2 := h.s1
        have q3 := h.s2
        refine ⟨g1, g2, g3, by simp at g4 ⊢; omega, by rw [Nat.mul_succ]; simp only; omega, ?_, ?_⟩
        · rw [Nat.mul_succ]; simp only; omega
        · rw [Nat.mul_succ]; simp only; omega
      · exact hw

theorem Tm.Ok.more {t : Tm} {n B : Nat} (h : t.Ok n B) : t.Ok (n + 1) B := ⟨h.rise, h.key, h.val, by have := h.few; omega, by have := h.sum; rw [Nat.mul_succ]; omega, by have := h.s1; rw [Nat.mul_succ]; omega, by have := h.s2; rw [Nat.mul_succ]; omega⟩

theorem cleanF_ok' {s : List UInt8} (h : (cleanF s).2 = 0) : (cleanF s).1.length ≤ 200 ∧ (cleanF s).1.count 47 ≤ 11 := cleanF_ok (s := s) (p := (cleanF s).1) (by rw [← h])

theorem Tm.Ok.write {t : Tm} {n B : Nat} (h : t.Ok n B) {p b : List UInt8} (hb : b.length ≤ B) : (t.write p b).2.Ok (n + 1) B := by
  unfold Tm.write
  split
  · exact h.more
  · rename_i h0
    exact h.putC (cleanF_ok' (by simpa using h0)) hb

theorem Tm.Ok.mkdir {t : Tm} {n B : Nat} (h : t.Ok n B) {p : List UInt8} : (t.mkdir p).2.Ok (n + 1) B := by
  unfold Tm.mkdir
  split
  · exact h.more
  · rename_i h0
    exact h.mkdirC (cleanF_ok' (by simpa using h0))

theorem ofF_ok {B : Nat} : ∀ (l : List Fl) (seen : List (List UInt8)) (t : Tm) (n : Nat), t.Ok n B → (∀ f ∈ l, f.b.length ≤ B) → (ofF l seen t).2.Ok (n + l.length) B
  | [], _, t, n, h, _ => by simpa [ofF] using h
  | f :: r, seen, t, n, h, hl => by
    have hm : ∀ k, t.Ok (n + k) B := fun k => by
      induction k with
      | zero => exact h
      | succ k ih => exact ih.more
    unfold ofF
    have e : n + (f :: r).length = n + 1 + r.length := by simp; omega
    have more : ∀ {t' : Tm}, t'.Ok (n + 1) B → ∀ k, t'.Ok (n + 1 + k) B := fun h k => by
      induction k with
      | zero => exact h
      | succ k ih => exact ih.more
    split
    · exact hm _
    · simp only
      split
      · exact hm _
      · have hx : (if f.dir then t.mkdir (cleanF f.path).1 else t.write (cleanF f.path).1 f.b).2.Ok (n + 1) B := by
          split
          · exact h.mkdir
          · exact h.write (hl f (by simp))
        rw [e]
        obtain ⟨x, hxe⟩ : ∃ x, x = (if f.dir then t.mkdir (cleanF f.path).1 else t.write (cleanF f.path).1 f.b) := ⟨_, rfl⟩
        rw [← hxe] at hx ⊢
        split
        · exact more hx _
        · exact ofF_ok r _ _ (n + 1) hx (fun q hq => hl q (by simp [hq]))

end Go.Proofs.YtbhjdddiihfafaaGreatDoor
/- A store and a state, plain Lean: maps and their changes, a tree as bytes. -/
namespace Go.Proofs.YtbhjdddiihfafaaGreatDoor
open Go.Maps

section
variable {α : Type}

theorem find_kins {P : Lit × α → Bool} {x : Lit × α} : ∀ (l : List (Lit × α)), P x = false → (kins x l).find? P = l.find? P
  | [], h => by simp [kins, h]
  | y :: r, h => by
    unfold kins
    split
    · rw [List.find?_cons, h]
    · rw [List.find?_cons, List.find?_cons, find_kins r h]

theorem find_kins_self {P : Lit × α → Bool} {x : Lit × α} : ∀ (l : List (Lit × α)), P x = true → (∀ y ∈ l, P y = false) → (kins x l).find? P = some x
  | [], h, _ => by simp [kins, h]
  | y :: r, h, hl => by
    unfold kins
    split
    · rw [List.find?_cons, h]
    · rw [List.find?_cons, hl y (by simp), find_kins_self r h fun z hz => hl z (by simp [hz])]

theorem same_str (a b : List UInt8) : (Lit.string a).sameKey (.string b) = (a == b) := rfl

theorem same_of {l : Lit} {b : List UInt8} (h : l.sameKey (.string b) = true) : l = .string b := by
  cases l with
  | string a => rw [same_str] at h; rw [beq_iff_eq.1 h]
  | _ => simp [Lit.sameKey] at h

theorem kget_put_self (l : List (Lit × α)) (k : List UInt8) (v : α) : kget (kput l (.string k) v) (.string k) = some v := by
  unfold kget kput
  rw [find_kins_self]
  · rfl
  · simp [same_str]
  · intro y hy
    have := (List.mem_filter.1 hy).2
    simpa using this

theorem find_filter_ne {P Q : α → Bool} (l : List α) (h : ∀ x ∈ l, P x = true → Q x = true) : (l.filter Q).find? P = l.find? P := by
  induction l with
  | nil => rfl
  | cons y r ih =>
    have ih := ih fun x hx => h x (by simp [hx])
    rw [List.filter_cons]
    by_cases hq : Q y = true
    · rw [if_pos hq, List.find?_cons, List.find?_cons, ih]
    · rw [if_neg hq, List.find?_cons, ih]
      have : P y = false := by
        cases hp : P y with
        | false => rfl
        | true => exact absurd (h y (by simp) hp) hq
      rw [this]

theorem kget_del_ne (l : List (Lit × α)) {k k' : List UInt8} (h : k ≠ k') : kget (kdel l (.string k)) (.string k') = kget l (.string k') := by
  unfold kget kdel
  rw [find_filter_ne]
  intro x _ hx
  have := same_of hx
  rw [this, same_str]
  simpa using Ne.symm h

theorem kget_del_self (l : List (Lit × α)) (k : List UInt8) : kget (kdel l (.string k)) (.string k) = none := by
  unfold kget kdel
  rw [Option.map_eq_none_iff, List.find?_eq_none]
  intro x hx
  have := (List.mem_filter.1 hx).2
  simpa using this

theorem kget_put_ne (l : List (Lit × α)) {k k' : List UInt8} (v : α) (h : k ≠ k') : kget (kput l (.string k) v) (.string k') = kget l (.string k') := by
  have h1 := kget_del_ne l h
  unfold kget at h1 ⊢
  unfold kput
  rw [find_kins, h1]
  simpa [same_str] using h

end

/-- What a store's map is: keys, values. -/
abbrev Sm := List (Lit × List UInt8)

/-- Pairs, done in order. -/
def changeF (m : Sm) (l : List Pr) : Sm := l.foldl (fun m p => if p.gone then kdel m (.string p.key.data.toList) else kput m (.string p.key.data.toList) p.val.data.toList) m

theorem changeF_append (m : Sm) (a b : List Pr) : changeF m (a ++ b) = changeF (changeF m a) b := by simp [changeF]

theorem changeF_norm (m : Sm) (l : List Pr) : changeF m (l.map Pr.norm) = changeF m l := by
  unfold changeF
  rw [List.foldl_map]
  congr 1
  funext m p
  obtain ⟨k, v, g⟩ := p
  cases g <;> simp [Pr.norm]

/-- No pair speaks of this key. -/
theorem kget_change_ne (l : List Pr) (k : List UInt8) : ∀ (m : Sm), (∀ p ∈ l, p.key.data.toList ≠ k) → kget (changeF m l) (.string k) = kget m (.string k) := by
  induction l with
  | nil => intro m _; rfl
  | cons p r ih =>
    intro m h
    have h1 := h p (by simp)
    rw [changeF, List.foldl_cons]
    have := ih (if p.gone then kdel m (.string p.key.data.toList) else kput m (.string p.key.data.toList) p.val.data.toList) fun q hq => h q (by simp [hq])
    rw [changeF] at this
    rw [this]
    split
    · exact kget_del_ne m h1
    · exact kget_put_ne m _ h1

/-- What holds of a store's map. -/
structure Sm.Ok (m : Sm) : Prop where
  rise : Rise m
  key : ∀ q ∈ m, ∃ s : List UInt8, q.1 = .string s

theorem Sm.Ok.nil : Sm.Ok [] := ⟨by simp, by simp⟩

theorem Sm.Ok.put {m : Sm} (h : m.Ok) (k v : List UInt8) : Sm.Ok (kput m (.string k) v) :=
  ⟨rise_kput strs_one ⟨k, rfl⟩ h.key h.rise, fun q hq => by
    rcases mem_kput hq with rfl | hq
    · exact ⟨k, rfl⟩
    · exact h.key q hq⟩

theorem Sm.Ok.del {m : Sm} (h : m.Ok) (k : List UInt8) : Sm.Ok (kdel m (.string k)) := ⟨rise_kdel h.rise _, fun q hq => h.key q (List.mem_filter.1 hq).1⟩

theorem Sm.Ok.change {m : Sm} (h : m.Ok) (l : List Pr) : Sm.Ok (changeF m l) := by
  induction l generalizing m with
  | nil => exact h
  | cons p r ih =>
    rw [changeF, List.foldl_cons]
    have h2 : Sm.Ok (if p.gone then kdel m (.string p.key.data.toList) else kput m (.string p.key.data.toList) p.val.data.toList) := by
      split
      · exact h.del _
      · exact h.put _ _
    exact ih h2

/-- The keys of a map that rises, that begin so. -/
def keysF (m : Sm) (p : List UInt8) : List (List UInt8) := (m.map fun q => keyS q.1).filter fun k => p.isPrefixOf k

/-! ### a state's bytes -/
def filesB (l : List Fl) : List UInt8 := num l.length ++ l.flatMap fun f => txt (bs f.path) ++ txt (bs f.b) ++ truth f.dir

def rdFiles : Nat → Option (List UInt8) → List Fl
  | 0, _ => []
  | n + 1, st =>
    ⟨(rdStep rtext [] st).1, (rdStep rbool false (rdStep rtext [] (rdStep rtext [] st).2).2).1, (rdStep rtext [] (rdStep rtext [] st).2).1⟩ ::
      rdFiles n (rdStep rbool false (rdStep rtext [] (rdStep rtext [] st).2).2).2

def filesF (s : List UInt8) : List Fl := rdFiles (min (rdStep (rnum 0 0) 0 (some s)).1 s.length) (rdStep (rnum 0 0) 0 (some s)).2

theorem rdFiles_of (l : List Fl) (h : ∀ f ∈ l, f.path.length < 2 ^ 64 ∧ f.b.length < 2 ^ 64) (r : List UInt8) :
    rdFiles l.length (some ((l.flatMap fun f => txt (bs f.path) ++ txt (bs f.b) ++ truth f.dir) ++ r)) = l := by
  induction l with
  | nil => rfl
  | cons f l ih =>
    have h1 := h f (by simp)
    rw [List.length_cons, rdFiles, List.flatMap_cons]
    have e1 : rdStep rtext [] (some (txt (bs f.path) ++ txt (bs f.b) ++ truth f.dir ++ (l.flatMap fun f => txt (bs f.path) ++ txt (bs f.b) ++ truth f.dir) ++ r)) = (f.path, some (txt (bs f.b) ++ (truth f.dir ++ ((l.flatMap fun f => txt (bs f.path) ++ txt (bs f.b) ++ truth f.dir) ++ r)))) := by
      simp only [rdStep]
      rw [List.append_assoc, List.append_assoc, List.append_assoc, rtext_of _ _ (by rw [bs_size]; exact h1.1)]
      simp [bs_data]
    have e2 : ∀ r, rdStep rtext [] (some (txt (bs f.b) ++ r)) = (f.b, some r) := fun r => by
      simp only [rdStep]
      rw [rtext_of _ _ (by rw [bs_size]; exact h1.2)]
      simp [bs_data]
    have e3 : ∀ r, rdStep rbool false (some (truth f.dir ++ r)) = (f.dir, some r) := fun r => by
      simp only [rdStep]
      rw [rbool_of]
    rw [e1]
    simp only
    rw [e2]
    simp only
    rw [e3]
    simp only
    rw [ih fun g hg => h g (by simp [hg])]

theorem num_pos' (x : Nat) : 0 < (num x).length := by
  by_cases h : x < 128
  · rw [num_small h]; simp
  · rw [num_big h]; simp

theorem filesF_of (l : List Fl) (hl : l.length < 2 ^ 64) (h : ∀ f ∈ l, f.path.length < 2 ^ 64 ∧ f.b.length < 2 ^ 64) : filesF (filesB l) = l := by
  have e1 : rdStep (rnum 0 0) 0 (some (filesB l)) = (l.length, some (l.flatMap fun f => txt (bs f.path) ++ txt (bs f.b) ++ truth f.dir)) := by
    simp only [rdStep, filesB]
    rw [rnum_of _ _ hl]
  have e2 : l.length ≤ (filesB l).length := by
    unfold filesB
    rw [List.length_append]
    have key : ∀ l : List Fl, l.length ≤ (l.flatMap fun f => txt (bs f.path) ++ txt (bs f.b) ++ truth f.dir).length := by
      intro l
      induction l with
      | nil => simp
      | cons f l ih =>
        rw [List.flatMap_cons, List.length_append, List.length_cons]
        have h1 : 0 < (txt (bs f.path) ++ txt (bs f.b) ++ truth f.dir).length := by
          have := num_pos' (if f.dir then 1 else 0)
          simp only [List.length_append, truth]; omega
        omega
    have := key l; omega
  unfold filesF
  rw [e1]
  simp only
  rw [Nat.min_eq_left e2]
  have := rdFiles_of l h []
  rwa [List.append_nil] at this

theorem filesF_nil : filesF [] = [] := by unfold filesF rdStep; simp [rnum, rdFiles]

/-- A bound on a state's bytes. -/
theorem filesB_len (l : List Fl) (P : Nat) (hP : P < 2 ^ 21) (hl : l.length < 2 ^ 21) (h : ∀ f ∈ l, f.path.length ≤ P ∧ f.b.length < 2 ^ 21) :
    (filesB l).length ≤ 3 + l.length * (P + 7) + (l.map fun f => f.b.length).sum := by
  have n1 := num_len l.length 2 hl
  have nt : ∀ b, (truth b).length = 1 := fun b => by cases b <;> simp [truth, num_small]
  unfold filesB
  rw [List.length_append]
  have key : ∀ l : List Fl, (∀ f ∈ l, f.path.length ≤ P ∧ f.b.length < 2 ^ 21) → (l.flatMap fun f => txt (bs f.path) ++ txt (bs f.b) ++ truth f.dir).length ≤ l.length * (P + 7) + (l.map fun f => f.b.length).sum := by
    intro l
    induction l with
    | nil => simp
    | cons f l ih =>
      intro h
      have := ih fun g hg => h g (by simp [hg])
      have h1 := h f (by simp)
      have a1 := num_len f.path.length 2 (by omega)
      have a2 := num_len f.b.length 2 h1.2
      have e : (txt (bs f.path) ++ txt (bs f.b) ++ truth f.dir).length = (num f.path.length).length + f.path.length + ((num f.b.length).length + f.b.length) + 1 := by
        simp only [List.length_append, txt, nt, bs_size, bs_data]
      rw [List.flatMap_cons, List.length_append, List.length_cons, List.map_cons, List.sum_cons, Nat.succ_mul, e]
      omega
  have := key l h
  omega

end Go.Proofs.YtbhjdddiihfafaaGreatDoor
