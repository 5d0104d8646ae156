/- Package state: Fits, Save. -/
import Derived.Test.YtbhjdddiihfafaaGreatDoorJPack
import Derived.Test.YtbhjdddiihfafaaGreatDoorJSto
set_option linter.unusedVariables false
set_option linter.unusedSimpArgs false
namespace Go.Proofs.YtbhjdddiihfafaaGreatDoor
open Go.RowKit Go.Maps

def kMan : List UInt8 := [115, 47, 109, 97, 110, 105, 102, 101, 115, 116]
def kLock : List UInt8 := [115, 47, 108, 111, 99, 107]
def kTree : List UInt8 := [115, 47, 116, 114, 101, 101]

/-- What a save applies. -/
def savePs (M L : List UInt8) (fl : List Fl) (mo : List Pr) : List Pr := [⟨⟨kMan.toArray⟩, bs M, false⟩, ⟨⟨kLock.toArray⟩, bs L, false⟩, ⟨⟨kTree.toArray⟩, bs (filesB fl), false⟩] ++ mo

/-- Are files a tree that can be saved? -/
def treeF (l : List Fl) : Int × Tm := ofF l [] ⟨[], 0⟩

theorem elPair : El 78 33 (.agg #[.string ByteArray.empty, .string ByteArray.empty, .bool false]) 3 40 := ⟨by kernel_rfl, by kernel_rfl, rfl, by decide, by decide⟩

section
variable {w w' : World} {T n cap : Nat} {ao : Option Addr} {vs : List Value} {l : List Fl}

set_option maxHeartbeats 1000000 in
set_option maxRecDepth 100000 in
theorem Fits_any (h : FsAt w T ao n cap vs l) (hn : l.length = n) (hn5 : n ≤ 500) (hT : T ≤ w.heap.size) (hl : ∀ f ∈ l, f.path.length ≤ 65535 ∧ f.b.length ≤ 65536) (hp : (packL l).length ≤ 1048320) :
    Calls Tryz.prog 26 #[.slice ao n cap] w fun e w' => e = .returned (.bool (decide ((treeF l).1 = 0))) ∧ FrA w w' := by
  have hO := tOf_any h hn hn5 65536 (Nat.le_refl _) hT fun f hf => ⟨by have := hl f hf; omega, (hl f hf).2⟩
  obtain ⟨R, hR⟩ : ∃ R, R = (treeF l).1 := ⟨_, rfl⟩
  have hR' : (ofF l [] ⟨[], 0⟩).1 = R := hR.symm
  rw [hR'] at hO
  rw [← hR]
  obtain ⟨r, hr⟩ : ∃ r, r = decide (R = 0) := ⟨_, rfl⟩
  rw [← hr]
  have hP := fun w' (hf : FrA w w') => aPack_any (h.fra hf) hn (by omega) (by have := hf.size; omega) fun f hf => ⟨(hl f hf).1, by have := hl f hf; omega⟩
  have H := Lib.hid (And.intro hO hP)
  obtain ⟨pl, hpl⟩ : ∃ pl, pl = (packL l).length := ⟨_, rfl⟩
  rw [← hpl] at hp
  have HPL := Lib.hid hpl
  clear hO hP hR hR' hpl h hl
  go_enter Tryz.func26, Tryz.ntmps26
  go_wp2_with fail
  refine H.out.1.mono ?_
  rintro e w1 ⟨hf1, ⟨h0, rfl, kvs, ht⟩ | ⟨h0, rfl⟩⟩
  · subst h0
    obtain rfl : r = true := by rw [hr]; rfl
    have HF := Lib.hid hf1
    clear ht hf1 hr
    go_wp2_with fail
    refine (H.out.2 w1 HF.out).mono ?_
    rintro e w2 ⟨v, rfl, hown, hf2⟩
    rw [← HPL.out] at hown
    obtain ⟨ao2, cp2, rfl⟩ := own_shape hown
    have HF2 := Lib.hid hf2
    have hle : ((pl : Int) ≤ 1048320) := by omega
    have d1 : decide ((pl : Int) ≤ 1048320) = true := by simpa using hle
    clear hown hf2
    go_wp2
    go_ret
    exact ⟨rfl, HF.out.trans HF2.out⟩
  · have d0 : (R == 0) = false := by simpa using h0
    obtain rfl : r = false := by rw [hr, decide_eq_false h0]
    have HF := Lib.hid hf1
    clear hf1 hr
    go_wp2
    go_ret
    exact ⟨rfl, HF.out⟩

end

/-- A tree's files: how many, how long. -/
theorem tree_files {l : List Fl} {B : Nat} (hl : ∀ f ∈ l, f.b.length ≤ B) : (treeF l).2.Ok l.length B := by
  have := ofF_ok (B := B) l [] ⟨[], 0⟩ 0 (Tm.Ok.new B) hl
  rwa [Nat.zero_add] at this

theorem files_of_ok {t : Tm} {n B : Nat} (h : t.Ok n B) : t.files.length ≤ 12 * n ∧ (∀ f ∈ t.files, f.path.length ≤ 200 ∧ f.b.length ≤ B) ∧ (t.files.map fun f => f.b.length).sum ≤ B * n := by
  refine ⟨by unfold Tm.files; rw [List.length_map]; exact h.few, fun f hf => ?_, ?_⟩
  · unfold Tm.files at hf
    obtain ⟨q, hq, rfl⟩ := List.mem_map.1 hf
    obtain ⟨s, hs, hsl⟩ := h.key q hq
    exact ⟨by simp only [hs]; exact hsl, h.val q hq⟩
  · have := h.sum
    unfold msum at this
    unfold Tm.files
    rw [List.map_map]
    exact this

theorem treeB_len {l : List Fl} {B : Nat} (hB : B ≤ 65536) (hn : l.length ≤ 500) (hl : ∀ f ∈ l, f.b.length ≤ B) : (filesB (treeF l).2.files).length ≤ 3 + 12 * l.length * 207 + B * l.length := by
  obtain ⟨h1, h2, h3⟩ := files_of_ok (tree_files hl)
  have := filesB_len (treeF l).2.files 200 (by decide) (by omega) fun f hf => ⟨(h2 f hf).1, by have := (h2 f hf).2; omega⟩
  have h4 : (treeF l).2.files.length * (200 + 7) ≤ 12 * l.length * 207 := Nat.mul_le_mul_right _ h1
  omega

/-- A row that was laid just now is owned. -/
theorem own_new (w : World) (B E size n : Nat) (xs : List Value) (hl : xs.length = n * size) (hB : B ≤ w.heap.size) (hn : n ≤ maxLen) : (w.alloc (.cells xs.toArray E)).ownsRow B E size (.slice (some ⟨w.heap.size, 0, none⟩) n n) n xs :=
  ⟨hl, .inr ⟨_, n, xs.toArray, rfl, hB, heap_alloc_new _ _, Nat.le_refl _, hn, by simp [hl], by rw [List.take_of_length_le (by simp [hl])]⟩⟩

/-- Three pairs, laid. -/
theorem prs3 (w : World) (B : Nat) (a b c : Pr) (hB : B ≤ w.heap.size) : (w.alloc (.cells #[.string a.key, .string a.val, .bool a.gone, .string b.key, .string b.val, .bool b.gone, .string c.key, .string c.val, .bool c.gone] 33)).ownsRow B 33 3 (.slice (some ⟨w.heap.size, 0, none⟩) 3 3) 3 ([a, b, c].flatMap prCells) :=
  own_new w B _ 3 3 ([a, b, c].flatMap prCells) rfl hB (by decide)

theorem prCells_one (l : List Pr) : ∀ u ∈ l.flatMap prCells, u.oneCell' = true := by
  intro u hu
  obtain ⟨p, _, hp⟩ := List.mem_flatMap.1 hu
  simp [prCells] at hp
  rcases hp with rfl | rfl | rfl <;> rfl

section
variable {w w' : World} {T n cap : Nat} {ao : Option Addr} {vs : List Value} {l : List Fl} {S : Sids} {N u u' P : Nat} {m : Sm}

set_option maxHeartbeats 2000000 in
set_option maxRecDepth 100000 in
theorem Save_any (hS : Sto w S N u m) (M L : List UInt8) (h : FsAt w T ao n cap vs l) (hn : l.length = n) (hn5 : n ≤ 500) (hT : T ≤ w.heap.size) (hl : ∀ f ∈ l, f.path.length ≤ 65535 ∧ f.b.length ≤ 65536) (hp : (packL l).length ≤ 1048320)
    (mo : List Pr) {T' nm cm : Nat} {am : Option Addr} (hm : Sl w T' 33 3 am nm cm (mo.flatMap prCells)) (hmn : mo.length = nm) (hm4 : nm ≤ 1000)
    (hfit : (treeF l).1 = 0 → ∀ p ∈ savePs M L (treeF l).2.files mo, p.fits) (hP : (treeF l).1 = 0 → (body ((savePs M L (treeF l).2.files mo).map Pr.enc)).length ≤ P) (hu : u + (32 + P) / 496 + 1 ≤ u') (hu' : u' ≤ N / 2) :
    Calls Tryz.prog 10 #[.pointer (some ⟨S.st, 0, none⟩), .string (bs M), .string (bs L), .slice ao n cap, .slice am nm cm] w fun e w' =>
      ((treeF l).1 ≠ 0 ∧ e = .returned (.int .i64 55) ∧ FrA w w') ∨
      ((treeF l).1 = 0 ∧ e = .returned (.int .i64 0) ∧ ∃ mp', Sto w' ⟨S.I, S.st, mp'⟩ N u' (changeF m (savePs M L (treeF l).2.files mo)) ∧ Fr (fun k o => LK S.I k o ∧ k ≠ S.st) w w' ∧ w.heap.size ≤ mp') := by
  have hF := Fits_any h hn hn5 hT hl hp
  have hO := fun w' (hf : FrA w w') => tOf_any (h.fra hf) hn hn5 65536 (Nat.le_refl _) (by have := hf.size; omega) fun f hf => ⟨by have := hl f hf; omega, (hl f hf).2⟩
  have hok := tree_files (l := l) (B := 65536) fun f hf => (hl f hf).2
  obtain ⟨R, hR⟩ : ∃ R, R = (treeF l).1 := ⟨_, rfl⟩
  obtain ⟨t, ht⟩ : ∃ t, t = (treeF l).2 := ⟨_, rfl⟩
  have hR' : (ofF l [] ⟨[], 0⟩).1 = R := hR.symm
  have ht' : (ofF l [] ⟨[], 0⟩).2 = t := ht.symm
  simp only [hR', ht'] at hO
  rw [← ht] at hok hfit hP
  rw [← hR] at hfit hP hF
  rw [← ht, ← hR]
  have H := Lib.hid (And.intro hS (And.intro hF (And.intro hO (And.intro hok (And.intro hm (And.intro hfit hP))))))
  clear hS hF hO hok hm hfit hP hR hR' ht ht' h hl hp
  by_cases h0 : R = 0
  · subst h0
    go_enter Tryz.func10, Tryz.ntmps10
    go_wp2_with fail
    refine H.out.2.1.mono ?_
    rintro e w1 ⟨rfl, hf1⟩
    have HF := Lib.hid hf1
    clear hf1
    simp only [decide_true]
    go_wp2_with fail
    refine (H.out.2.2.1 w1 HF.out).mono ?_
    rintro e w2 ⟨hf2, ⟨_, rfl, kvs, ht2⟩ | ⟨h0, _⟩⟩
    rotate_left
    · exact absurd rfl h0
    have hsz1 := HF.out.size
    have H2 := Lib.hid (And.intro ht2 (HF.out.trans hf2))
    clear ht2 hf2
    go_wp2_with fail
    have hfew := H.out.2.2.2.1.few
    refine (tFiles_any H2.out.1 (by omega) (fun q hq => by have := H.out.2.2.2.1.val q hq; omega)).mono ?_
    rintro e w3 ⟨v3, acc, rfl, hacc, hpw, hown3, hok3, hf3⟩
    obtain ⟨ao3, cp3, rfl⟩ := own_shape hown3
    have hfs := (fsAt_of hown3 hok3).at
    have he := files_eq H.out.2.2.2.1.rise (fun q hq => by obtain ⟨s, hs, _⟩ := H.out.2.2.2.1.key q hq; exact ⟨s, hs⟩) hacc hpw
    rw [he] at hfs
    have hln : t.files.length = acc.length := by rw [← he, List.length_map]
    obtain ⟨h1, h2, h3⟩ := files_of_ok H.out.2.2.2.1
    have h1' : 12 * l.length ≤ 12 * 500 := Nat.mul_le_mul_left _ (by omega)
    have hSB := sBytes_any hfs hln (by omega) fun f hf => ⟨by have := (h2 f hf).1; omega, by have := (h2 f hf).2; omega⟩
    obtain ⟨al, hal⟩ : ∃ al, al = acc.length := ⟨_, rfl⟩
    rw [← hal] at hSB ⊢
    have H3 := Lib.hid (And.intro hSB (H2.out.2.trans hf3))
    clear hacc hpw hown3 hok3 hf3 hfs he hln h1 h2 h3 hSB hal h1'
    go_wp2_with fail
    refine H3.out.1.mono ?_
    rintro e w4 ⟨rfl, hf4⟩
    have hf04 : FrA w w4 := H3.out.2.trans hf4
    have hsz4 := hf04.size
    have H4 := Lib.hid hf04
    have hown := prs3 w4 w.heap.size ⟨⟨kMan.toArray⟩, bs M, false⟩ ⟨⟨kLock.toArray⟩, bs L, false⟩ ⟨⟨kTree.toArray⟩, bs (filesB t.files), false⟩ hsz4
    simp only [kMan, kLock, kTree] at hown
    have hm4' := (H.out.2.2.2.2.1.keep (w' := w4) fun b c f _ hc => hf04.keep _ _ hc trivial).alloc (.cells #[.string ⟨#[115, 47, 109, 97, 110, 105, 102, 101, 115, 116]⟩, .string (bs M), .bool false, .string ⟨#[115, 47, 108, 111, 99, 107]⟩, .string (bs L), .bool false, .string ⟨#[115, 47, 116, 114, 101, 101]⟩, .string (bs (filesB t.files)), .bool false] 33)
    have HO := Lib.hid (And.intro hown hm4')
    clear hown hm4' hf4 hf04
    go_wp2_with (at_builtin; go_loud (refine app_sl elPair rfl (.tmp 30) (.tmp 31) rfl w.heap.size _ 3 _ rfl HO.out.1 rfl HO.out.2 (prCells_one mo) (by omega) (by simp; omega) ?_); intro v5 w5 hown5 hgr5; obtain ⟨ao5, cp5, rfl⟩ := own_shape hown5)
    have hf05 : FrA w w5 := (H4.out.alloc _).grownNew hgr5 (fun k e => (own_block HO.out.1 e).1)
    have hS5 := H.out.1.fra hf05
    have hx5 := Sl.of_own hown5
    have HA := Lib.hid (And.intro (stoApply_any hS5 (savePs M L t.files mo) (n := 3 + nm) (by simp [savePs, hmn]; omega) (by
      have e : (savePs M L t.files mo).flatMap prCells = [⟨⟨kMan.toArray⟩, bs M, false⟩, ⟨⟨kLock.toArray⟩, bs L, false⟩, ⟨⟨kTree.toArray⟩, bs (filesB t.files), false⟩].flatMap prCells ++ mo.flatMap prCells := by unfold savePs; rw [List.flatMap_append]
      rw [e]; exact hx5) (H.out.2.2.2.2.2.1 trivial) (by omega) (H.out.2.2.2.2.2.2 trivial) hu hu') hf05)
    clear hS5 hx5 hown5 hgr5 hf05
    go_wp2_with fail
    refine HA.out.1.mono ?_
    rintro e w6 ⟨rfl, mp', hS6, hfr6, hmp⟩
    have H6 := Lib.hid (And.intro hS6 (And.intro hfr6 hmp))
    clear hS6 hfr6 hmp
    go_wp2
    go_ret
    refine .inr ⟨trivial, rfl, mp', H6.out.1, ?_, Nat.le_trans HA.out.2.size H6.out.2.2⟩
    exact (HA.out.2.mono fun _ _ _ => trivial).trans H6.out.2.1
  · have hdf : decide (R = 0) = false := decide_eq_false h0
    obtain ⟨r, hr⟩ : ∃ r, r = decide (R = 0) := ⟨_, rfl⟩
    obtain rfl : r = false := by rw [hr, hdf]
    have HF := H.out.2.1
    rw [← hr] at HF
    have HF := Lib.hid HF
    have H0 := Lib.hid h0
    clear hdf hr h0
    go_enter Tryz.func10, Tryz.ntmps10
    go_wp2_with fail
    refine HF.out.mono ?_
    rintro e w1 ⟨rfl, hf1⟩
    have H1 := Lib.hid hf1
    clear hf1
    go_wp2
    go_ret
    exact .inl ⟨H0.out, rfl, H1.out⟩

end
end Go.Proofs.YtbhjdddiihfafaaGreatDoor
