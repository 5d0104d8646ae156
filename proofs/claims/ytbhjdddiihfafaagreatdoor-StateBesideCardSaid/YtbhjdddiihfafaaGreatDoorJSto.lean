/- A store in one word: its blocks, how many of its disk's sectors may be written, the map that it comes to; opened, applied. -/
import Derived.Test.YtbhjdddiihfafaaGreatDoorJDiskN
import Derived.Test.YtbhjdddiihfafaaGreatDoorJStore4
set_option linter.unusedVariables false
set_option linter.unusedSimpArgs false
namespace Go.Proofs.YtbhjdddiihfafaaGreatDoor
open Go.RowKit Go.Maps

/-- A store at S over a disk of N sectors of 512 bytes, of whose first half at most u are written; it comes to the map m. -/
def Sto (w : World) (S : Sids) (N u : Nat) (m : Sm) : Prop :=
  ∃ (D : Dk) (C : List (List UInt8)) (fs : List (List (List UInt8))) (a : Nat), StAt w S ⟨D, 0, fs.length, a, fs.flatten.length, []⟩ m ∧ D.Well C 512 ∧ LogInv C 512 fs a ∧ StInv fs m ∧ C.length = N ∧ a ≤ u ∧ u ≤ N / 2

section
variable {w w' : World} {S : Sids} {N u : Nat} {m : Sm}

theorem Sto.fr {K : Nat → Obj → Prop} (h : Sto w S N u m) (hfr : Fr K w w') (hk : ∀ k o, (k = S.I.d ∨ k = S.I.bs ∨ k = S.I.bm ∨ k = S.I.bl ∨ k = S.I.bu ∨ k = S.st ∨ k = S.mp) → w.heap[k]? = some o → K k o) (h8 : ∀ k c f, w.heap[k]? = some (.cells c 5 f) → K k (.cells c 5 f)) : Sto w' S N u m := by
  obtain ⟨D, C, fs, a, h1, h2⟩ := h
  exact ⟨D, C, fs, a, h1.fr hfr hk h8, h2⟩

theorem Sto.fra (h : Sto w S N u m) (hfr : FrA w w') : Sto w' S N u m := h.fr hfr (fun _ _ _ _ => trivial) (fun _ _ _ _ => trivial)

theorem Sto.ok (h : Sto w S N u m) : m.Ok := by
  obtain ⟨D, C, fs, a, h1, h2, h3, h4, _⟩ := h
  exact h4.ok

theorem Sto.few (h : Sto w S N u m) : m.length ≤ 8388608 := by
  obtain ⟨D, C, fs, a, h1, h2, hinv, hst, _⟩ := h
  have h0 := hst.few
  have h1 := Chain.records hinv.s1 hinv.s2 hinv.chain
  have h2 := hinv.a1
  have h3 := hinv.n2
  omega

theorem Sto.lts (h : Sto w S N u m) : S.I.d < w.heap.size ∧ S.I.bs < w.heap.size ∧ S.I.bm < w.heap.size ∧ S.I.bl < w.heap.size ∧ S.I.bu < w.heap.size ∧ S.st < w.heap.size ∧ S.mp < w.heap.size := by
  obtain ⟨D, C, fs, a, h1, _⟩ := h
  obtain ⟨a1, a2, a3, a4, a5⟩ := h1.log.lts
  exact ⟨a1, a2, a3, a4, a5, lt_of_heap h1.st, h1.map.lt⟩

theorem Sto.st (h : Sto w S N u m) : ∃ L, StAt w S L m := by
  obtain ⟨D, C, fs, a, h1, _⟩ := h
  exact ⟨_, h1⟩

theorem Sto.more {u' : Nat} (h : Sto w S N u m) (h1 : u ≤ u') (h2 : u' ≤ N / 2) : Sto w S N u' m := by
  obtain ⟨D, C, fs, a, g1, g2, g3, g4, g5, g6, g7⟩ := h
  exact ⟨D, C, fs, a, g1, g2, g3, g4, g5, by omega, h2⟩

theorem stoGet_any (h : Sto w S N u m) (k : ByteArray) (hk : k.size ≤ maxLen) :
    Calls Tryz.prog 21 #[.pointer (some ⟨S.st, 0, none⟩), .string k] w fun e w' =>
      e = .returned (.tuple #[.string (((kget m (.string k.data.toList)).map bs).getD ByteArray.empty), .bool (kget m (.string k.data.toList)).isSome]) ∧ w = w' := by
  obtain ⟨L, h⟩ := h.st
  exact Get_any h k hk

/-- How many sectors a record of so many bytes takes, at most. -/
theorem secsN_512 (n : Nat) : secsN 512 n ≤ n / 496 + 1 := by
  unfold secsN
  show n / 496 + min (n % 496) 1 ≤ _
  omega

theorem stoApply_any (h : Sto w S N u m) (l : List Pr) {n T cap : Nat} {ao : Option Addr} (hn : l.length = n) (hx : Sl w T 33 3 ao n cap (l.flatMap prCells)) (hl : ∀ p ∈ l, p.fits) (hn4 : n ≤ 1048576)
    {P u' : Nat} (hP : (body (l.map Pr.enc)).length ≤ P) (hu : u + (32 + P) / 496 + 1 ≤ u') (hu' : u' ≤ N / 2) :
    Calls Tryz.prog 11 #[.pointer (some ⟨S.st, 0, none⟩), .slice ao n cap] w fun e w' =>
      e = .returned (.int .i64 0) ∧ ∃ mp', Sto w' ⟨S.I, S.st, mp'⟩ N u' (changeF m l) ∧ Fr (fun k o => LK S.I k o ∧ k ≠ S.st) w w' ∧ w.heap.size ≤ mp' := by
  obtain ⟨D, C, fs, a, h1, h2, h3, h4, h5, h6, h7⟩ := h
  have hs : secsN 512 (32 + (body (l.map Pr.enc)).length) ≤ (32 + P) / 496 + 1 := by
    have := secsN_512 (32 + (body (l.map Pr.enc)).length)
    have : (32 + (body (l.map Pr.enc)).length) / 496 ≤ (32 + P) / 496 := Nat.div_le_div_right (by omega)
    omega
  have hfit : 32 + (body (l.map Pr.enc)).length ≤ (C.length / 2 - a) * (512 - 16) := by
    rw [h5]
    have h9 : (32 + P) / 496 + 1 ≤ N / 2 - a := by omega
    have h10 : ((32 + P) / 496 + 1) * 496 ≤ (N / 2 - a) * 496 := Nat.mul_le_mul_right _ h9
    show _ ≤ (N / 2 - a) * 496
    omega
  refine (Apply_any rfl h1 h2 h3 h4 l hn hx hl hn4 hfit).mono ?_
  rintro e w' ⟨rfl, D', mp', g1, g2, g3, g4, g5⟩
  refine ⟨rfl, mp', ⟨D', committed C 512 fs.length a (l.map Pr.enc), fs ++ [l.map Pr.enc], _, ?_, g2, h3.commit _ (fun r hr => ?_) hfit, h4.commit l fun p hp => ?_, ?_, ?_, hu'⟩, g4, g5⟩
  · have e1 : (fs ++ [l.map Pr.enc]).length = fs.length + 1 := by simp
    have e2 : (fs ++ [l.map Pr.enc]).flatten.length = fs.flatten.length + n := by simp [hn]
    rw [e1, e2]
    exact g1
  · obtain ⟨p, hp, rfl⟩ := List.mem_map.1 hr
    have h8 : p.key.size + p.val.size ≤ 1048512 := hl p hp
    have := Pr.enc_len p (by omega) (by omega)
    omega
  · have h8 : p.key.size + p.val.size ≤ 1048512 := hl p hp
    omega
  · rw [committed, layTo_length, h5]
  · omega

/-- The length of a record's body. -/
theorem body_le (l : List Pr) : (∀ p ∈ l, p.fits) → (body (l.map Pr.enc)).length ≤ (l.map fun p => 11 + p.key.size + p.val.size).sum := by
  induction l with
  | nil => intro _; simp [body]
  | cons p l ih =>
    intro h
    have ih := ih fun q hq => h q (by simp [hq])
    have h8 : p.key.size + p.val.size ≤ 1048512 := h p (by simp)
    have := Pr.enc_len p (by omega) (by omega)
    have e : body ((p :: l).map Pr.enc) = be 4 p.enc.length ++ (p.enc ++ body (l.map Pr.enc)) := by simp [body]
    rw [e]
    simp only [List.length_append, be_length, List.map_cons, List.sum_cons]
    omega

theorem getD_replicate_zero {α : Type} (k : Nat) (x : α) (d : α) (i : Nat) (h : i < k) : (List.replicate k x).getD i d = x := by
  rw [List.getD, List.getElem?_replicate, if_pos h]; rfl

theorem new_well (N sz : Nat) (h1 : 16 ≤ N) (h2 : N ≤ 4096) (h3 : 64 ≤ sz) (h4 : sz ≤ 4096) : (Dk.new N sz).Well (List.replicate N (List.replicate sz 0)) sz := by
  have hN : (min (max (N : Int) 1) 4096).toNat = N := by omega
  have hZ : (min (max (sz : Int) 64) 4096).toNat = sz := by omega
  have hs : (Dk.new N sz).sure = List.replicate N (List.replicate sz 0) := by
    unfold Dk.new
    simp only [hN, hZ]
  refine ⟨Dk.new_ok _ _, rfl, rfl, ?_, ?_⟩
  · unfold Dk.cont
    rw [hs, List.length_replicate]
    apply List.ext_getElem
    · simp
    · intro i h3 h4
      have hi : i < N := by simpa using h4
      simp only [List.getElem_map, List.getElem_range, List.getElem_replicate]
      have hd : (Dk.new N sz).dirty = [] := rfl
      unfold Dk.read
      simp [hd, hs, kget, hi]
  · unfold Dk.size
    rw [hs]
    obtain ⟨k, rfl⟩ : ∃ k, N = k + 1 := ⟨N - 1, by omega⟩
    simp [List.replicate_succ]

/-- Opened over a new disk. -/
theorem stoNew_any {d bs bm : Nat} (hN1 : 16 ≤ N) (hN2 : N ≤ 4096) (hd : DiskAt w d bs bm (Dk.new N 512)) :
    Calls Tryz.prog 8 #[.pointer (some ⟨d, 0, none⟩)] w fun e w' => ∃ bl bu st mp, e = .returned (.tuple #[.pointer (some ⟨st, 0, none⟩), .int .i64 0]) ∧
      Sto w' ⟨⟨d, bs, bm, bl, bu⟩, st, mp⟩ N 0 [] ∧ FrA w w' ∧ w.heap.size ≤ bl ∧ w.heap.size ≤ bu ∧ w.heap.size ≤ st ∧ w.heap.size ≤ mp := by
  refine (stOpen_any hd (new_well N 512 hN1 hN2 (by omega) (by omega)) (LogInv.zero N 512 (by omega) (by omega) hN1 hN2) StInv.nil).mono ?_
  rintro e w' ⟨bl, bu, st, mp, rfl, h1, h2, h3⟩
  exact ⟨bl, bu, st, mp, rfl, ⟨_, _, [], 0, h1, new_well N 512 hN1 hN2 (by omega) (by omega), LogInv.zero N 512 (by omega) (by omega) hN1 hN2, StInv.nil, List.length_replicate, by omega, by omega⟩, h2, h3⟩

/-- Opened anew. -/
theorem stoOpen_any (h : Sto w S N u m) :
    Calls Tryz.prog 8 #[.pointer (some ⟨S.I.d, 0, none⟩)] w fun e w' => ∃ bl bu st mp, e = .returned (.tuple #[.pointer (some ⟨st, 0, none⟩), .int .i64 0]) ∧
      Sto w' ⟨⟨S.I.d, S.I.bs, S.I.bm, bl, bu⟩, st, mp⟩ N u m ∧ FrA w w' ∧ w.heap.size ≤ bl ∧ w.heap.size ≤ bu ∧ w.heap.size ≤ st ∧ w.heap.size ≤ mp := by
  obtain ⟨D, C, fs, a, h1, h2, h3, h4, h5⟩ := h
  refine (stOpen_any h1.log.disk h2 h3 h4).mono ?_
  rintro e w' ⟨bl, bu, st, mp, rfl, g1, g2, g3⟩
  exact ⟨bl, bu, st, mp, rfl, ⟨D, C, fs, a, g1, h2, h3, h4, h5⟩, g2, g3⟩

end
end Go.Proofs.YtbhjdddiihfafaaGreatDoor
