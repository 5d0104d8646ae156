/- The statement StateBeside: its walk, where the guards let the input through. -/
import Derived.Test.YtbhjdddiihfafaaGreatDoorJBeside
set_option linter.unusedVariables false
set_option linter.unusedSimpArgs false
namespace Go.Proofs.YtbhjdddiihfafaaGreatDoor
open Go.RowKit Go.Maps

/-- The pairs beside a save. -/
def besPr (K V : List UInt8) : Pr := ⟨⟨#[120, 47]⟩ ++ bs K, bs V, false⟩
def besPr2 (K : List UInt8) : Pr := ⟨⟨#[120, 47]⟩ ++ bs K ++ ⟨#[50]⟩, ⟨#[]⟩, true⟩

theorem bes_key (K V : List UInt8) : (besPr K V).key = bs (120 :: 47 :: K) := by
  unfold besPr
  apply ByteArray.ext
  simp [bs]

theorem bes_key2 (K : List UInt8) : (besPr2 K).key = bs (120 :: 47 :: (K ++ [50])) := by
  unfold besPr2
  apply ByteArray.ext
  simp [bs]

theorem bes_one (K V : List UInt8) : Beside [besPr K V] := by
  intro p hp
  rw [List.mem_singleton] at hp; subst hp
  exact ⟨K, by rw [bes_key, bs_data]⟩

theorem bes_two (K V : List UInt8) : Beside [besPr K V, besPr2 K] := by
  intro p hp
  simp only [List.mem_cons, List.not_mem_nil, or_false] at hp
  rcases hp with rfl | rfl
  · exact ⟨K, by rw [bes_key, bs_data]⟩
  · exact ⟨K ++ [50], by rw [bes_key2, bs_data]⟩

theorem bes_sz (K V : List UInt8) : (besPr K V).key.size = K.length + 2 ∧ (besPr K V).val.size = V.length ∧ (besPr2 K).key.size = K.length + 3 ∧ (besPr2 K).val.size = 0 := by
  rw [bes_key, bes_key2, bs_size, bs_size]
  refine ⟨by simp, bs_size V, by simp, rfl⟩

theorem save_sizes {M L K V : List UInt8} {l : List Fl} (hb : lightB M L l K V) {mo : List Pr} (hmo : mo = [] ∨ mo = [besPr K V, besPr2 K]) :
    (∀ p ∈ savePs M L (treeF l).2.files mo, p.fits) ∧ (body ((savePs M L (treeF l).2.files mo).map Pr.enc)).length ≤ 61000 := by
  obtain ⟨h1, h2, h3, h4, h5⟩ := hb
  obtain ⟨h6, h7⟩ := lightF_iff h3
  have h8 := treeB_len (l := l) (B := 500) (by decide) (by omega) fun f hf => (h7 f hf).2
  have h9 : 12 * l.length * 207 ≤ 12 * 20 * 207 := Nat.mul_le_mul_right _ (Nat.mul_le_mul_left _ h6)
  have h10 : 500 * l.length ≤ 500 * 20 := Nat.mul_le_mul_left _ h6
  obtain ⟨T, hT⟩ : ∃ T, T = filesB (treeF l).2.files := ⟨_, rfl⟩
  rw [← hT] at h8
  have sM : (ByteArray.mk kMan.toArray).size = 10 := rfl
  have sL : (ByteArray.mk kLock.toArray).size = 6 := rfl
  have sT : (ByteArray.mk kTree.toArray).size = 6 := rfl
  obtain ⟨z1, z2, z3, z4⟩ := bes_sz K V
  have hfit : ∀ p ∈ savePs M L (treeF l).2.files mo, p.fits := by
    intro p hp
    unfold savePs at hp
    unfold Pr.fits
    rcases List.mem_append.1 hp with hp | hp
    · simp only [List.mem_cons, List.not_mem_nil, or_false] at hp
      rcases hp with rfl | rfl | rfl
      · simp only [bs_size, sM]; omega
      · simp only [bs_size, sL]; omega
      · simp only [bs_size, sT, ← hT]; omega
    · rcases hmo with rfl | rfl
      · cases hp
      · simp only [List.mem_cons, List.not_mem_nil, or_false] at hp
        rcases hp with rfl | rfl
        · rw [z1, z2]; omega
        · rw [z3, z4]; omega
  refine ⟨hfit, ?_⟩
  have := body_le _ hfit
  refine Nat.le_trans this ?_
  unfold savePs
  rw [← hT]
  rcases hmo with rfl | rfl
  · simp only [List.append_nil, List.map_cons, List.map_nil, List.sum_cons, List.sum_nil, bs_size, sM, sL, sT]
    omega
  · simp only [List.cons_append, List.nil_append, List.map_cons, List.map_nil, List.sum_cons, List.sum_nil, bs_size, sM, sL, sT, z1, z2, z3, z4]
    omega

/-! ### what the maps tell -/
theorem files_back {l : List Fl} (hb : lightF l = true) : filesF (filesB (treeF l).2.files) = (treeF l).2.files ∧ (filesB (treeF l).2.files).length ≤ 4194304 := by
  obtain ⟨h6, h7⟩ := lightF_iff hb
  obtain ⟨g1, g2, g3⟩ := files_of_ok (tree_files (l := l) (B := 500) fun f hf => (h7 f hf).2)
  have h8 := treeB_len (l := l) (B := 500) (by decide) (by omega) fun f hf => (h7 f hf).2
  have h9 : 12 * l.length * 207 ≤ 12 * 20 * 207 := Nat.mul_le_mul_right _ (Nat.mul_le_mul_left _ h6)
  have h10 : 500 * l.length ≤ 500 * 20 := Nat.mul_le_mul_left _ h6
  have h11 : 12 * l.length ≤ 12 * 20 := Nat.mul_le_mul_left _ h6
  exact ⟨filesF_of _ (by omega) fun f hf => ⟨by have := (g2 f hf).1; omega, by have := (g2 f hf).2; omega⟩, by omega⟩

/-- A map tells a state of which nothing is cached. -/
structure Tells (m : Sm) (M L : List UInt8) (fl : List Fl) : Prop where
  man : gets m kMan = M
  lock : gets m kLock = L
  tree : filesF (gets m kTree) = fl
  len : (gets m kTree).length ≤ 4194304
  few : m.length ≤ 100
  noc : NoC m

theorem Tells.save {m : Sm} (hm : NoC m) (hl : m.length ≤ 50) (M L : List UInt8) {l : List Fl} (hb : lightF l = true) {mo : List Pr} (hmo : Beside mo) (h2 : mo.length ≤ 2) : Tells (changeF m (savePs M L (treeF l).2.files mo)) M L (treeF l).2.files := by
  obtain ⟨h3, h4⟩ := files_back hb
  obtain ⟨g1, g2, g3⟩ := gets_save m M L (treeF l).2.files hmo
  have := changeF_length (savePs M L (treeF l).2.files mo) m
  have e : (savePs M L (treeF l).2.files mo).length = 3 + mo.length := by simp [savePs]; omega
  exact ⟨g1, g2, by rw [g3, h3], by rw [g3]; exact h4, by omega, hm.save _ _ _ hmo⟩

theorem Tells.beside {m : Sm} {M L : List UInt8} {fl : List Fl} (h : Tells m M L fl) (hl : m.length ≤ 50) {mo : List Pr} (hmo : Beside mo) (h2 : mo.length ≤ 2) : Tells (changeF m mo) M L fl := by
  obtain ⟨g1, g2, g3⟩ := gets_beside m hmo
  have := changeF_length mo m
  exact ⟨by rw [g1, h.man], by rw [g2, h.lock], by rw [g3, h.tree], by rw [g3]; exact h.len, by omega, h.noc.change _ hmo.noC⟩

theorem Tells.nil : Tells [] [] [] [] := ⟨rfl, rfl, filesF_nil, by decide, by simp, NoC.nil⟩

theorem Tells.load {w : World} {S : Sids} {N u : Nat} {m : Sm} {M L : List UInt8} {fl : List Fl} (h : Tells m M L fl) (hS : Sto w S N u m) :
    Calls Tryz.prog 13 #[.pointer (some ⟨S.st, 0, none⟩)] w fun e w' => ∃ v, e = .returned v ∧ StaAt w' v M L fl ∧ FrA w w' := by
  have := Load_any hS (by have := h.few; omega) h.noc.keys h.tree h.len
  rw [h.man, h.lock] at this
  exact this

/-- Either save comes to this. -/
structure Two (l : List Fl) (M L K V : List UInt8) (mA mB mA2 : Sm) (M' L' : List UInt8) (fl : List Fl) : Prop where
  a : Tells mA M' L' fl
  b : Tells mB M' L' fl
  a2 : Tells mA2 M' L' fl

theorem two_ok (l : List Fl) (M L K V : List UInt8) (hb : lightF l = true) :
    Two l M L K V (changeF (changeF [] (savePs M L (treeF l).2.files [])) [besPr K V]) (changeF [] (savePs M L (treeF l).2.files [besPr K V, besPr2 K]))
      (changeF (changeF (changeF [] (savePs M L (treeF l).2.files [])) [besPr K V]) (savePs M L (treeF l).2.files [])) M L (treeF l).2.files := by
  have h0 : Beside [] := fun p hp => by cases hp
  have l1 := changeF_length (savePs M L (treeF l).2.files []) []
  have e1 : (savePs M L (treeF l).2.files []).length = 3 := rfl
  rw [e1] at l1
  have l2 := changeF_length [besPr K V] (changeF [] (savePs M L (treeF l).2.files []))
  have t1 : Tells (changeF [] (savePs M L (treeF l).2.files [])) M L (treeF l).2.files := Tells.save NoC.nil (by simp) M L hb h0 (by simp)
  have t2 := t1.beside (by simp at l1; omega) (bes_one K V) (by simp)
  exact ⟨t2, Tells.save NoC.nil (by simp) M L hb (bes_two K V) (by simp), Tells.save t2.noc (by simp at l1 l2; omega) M L hb h0 (by simp)⟩

theorem two_bad (l : List Fl) (M L K V : List UInt8) : Two l M L K V (changeF [] [besPr K V]) [] (changeF [] [besPr K V]) [] [] [] := by
  have t := Tells.nil.beside (by simp) (bes_one K V) (by simp)
  exact ⟨t, Tells.nil, t⟩

section
variable {w w' : World} {T n cap : Nat} {ao : Option Addr} {vs : List Value} {l : List Fl}

set_option maxHeartbeats 4000000 in
set_option maxRecDepth 100000 in
theorem Beside_light (M L K V : List UInt8) (h : FsAt w T ao n cap vs l) (hn : l.length = n) (hT : T ≤ w.heap.size) (hb : lightB M L l K V) :
    Calls Tryz.prog 3 #[.string (bs M), .string (bs L), .slice ao n cap, .string (bs K), .string (bs V)] w fun e w' => e = .returned (.bool true) ∧ FrA w w' := by
  have e1 : (bs M).size = M.length := bs_size M
  have e2 : (bs L).size = L.length := bs_size L
  have e3 : (bs K).size = K.length := bs_size K
  have e4 : (bs V).size = V.length := bs_size V
  obtain ⟨b1, b2, b3, b4, b5⟩ := hb
  obtain ⟨b6, b7⟩ := lightF_iff b3
  have hLF := fun w' (hf : FrA w w') => LightFiles_any (h.fra hf) hn (fun f hf => ⟨by have := (b7 f hf).1; omega, by have := (b7 f hf).2; omega⟩)
  rw [b3] at hLF
  have d1 : decide ((M.length : Int) > 200) = false := by simp; omega
  have d2 : decide ((L.length : Int) > 200) = false := by simp; omega
  have d3 : decide ((K.length : Int) > 50) = false := by simp; omega
  have d4 : decide ((V.length : Int) > 100) = false := by simp; omega
  have hs1 := save_sizes ⟨b1, b2, b3, b4, b5⟩ (mo := []) (.inl rfl)
  have hs2 := save_sizes ⟨b1, b2, b3, b4, b5⟩ (mo := [besPr K V, besPr2 K]) (.inr rfl)
  have hpk : (packL l).length ≤ 1048320 := by
    have := packL_len l 300 500 b7
    have h2 : l.length * (11 + 300 + 500) ≤ 20 * (11 + 300 + 500) := Nat.mul_le_mul_right _ b6
    omega
  have H := Lib.hid (And.intro h (And.intro hLF (And.intro hs1 (And.intro hs2 (And.intro hpk (And.intro b7 b3))))))
  clear h hLF hs1 hs2 hpk b7 b3
  go_enter Tryz.func3, Tryz.ntmps3
  go_wp2_with (first | (go_at_call 6; (refine (known_any _).mono ?_); rintro e w1 ⟨rfl, hf1⟩) | (go_at_call 7; (refine (H.out.2.1 _ hf1).mono ?_); rintro e w2 ⟨rfl, rfl⟩))
  -- two stores
  refine (New_any 1000 512 w1).mono ?_
  rintro e w2 ⟨da, bsa, bma, rfl, hd, hd1, hd2, hd3, hf2⟩
  have hO := stoNew_any (N := 1000) (by decide) (by decide) hd
  have H2 := Lib.hid (And.intro hO (hf1.trans hf2))
  have hz12 := hf2.size
  have hz01 := hf1.size
  clear hO hf1 hf2 hd
  go_wp2_with fail
  refine H2.out.1.mono ?_
  rintro e w3 ⟨bla, bua, sta, mpa, rfl, hS3, hf3, hl1, hl2, hl3, hl4⟩
  have hlt := hS3.lts
  simp only at hlt
  have hz23 := hf3.size
  have H3 := Lib.hid (And.intro hS3 (H2.out.2.trans hf3))
  clear hS3 hf3
  go_wp2_with fail
  refine (New_any 1000 512 w3).mono ?_
  rintro e w4 ⟨db, bsb, bmb, rfl, hd, ge1, ge2, ge3, hf4⟩
  have hO := stoNew_any (N := 1000) (by decide) (by decide) hd
  have hz34 := hf4.size
  have H4 := Lib.hid (And.intro hO hf4)
  clear hO hf4 hd
  go_wp2_with fail
  refine H4.out.1.mono ?_
  rintro e w5 ⟨blb, bub, stb, mpb, rfl, hS5, hf5, gl1, gl2, gl3, gl4⟩
  have hz45 := hf5.size
  have hA5 := H3.out.1.fra (H4.out.2.trans hf5)
  have hap : Apart ⟨⟨da, bsa, bma, bla, bua⟩, sta, mpa⟩ ⟨⟨db, bsb, bmb, blb, bub⟩, stb, mpb⟩ w3.heap.size :=
    ⟨⟨hlt.1, hlt.2.1, hlt.2.2.1, hlt.2.2.2.1, hlt.2.2.2.2.1, hlt.2.2.2.2.2.1⟩, ⟨ge1, ge2, ge3, by simp only; omega, by simp only; omega, by simp only; omega⟩, by simp only; omega, .inl hlt.2.2.2.2.2.2⟩
  have hf05 : FrA w w5 := H3.out.2.trans (H4.out.2.trans hf5)
  have hfs5 := H.out.1.fra hf05
  have hlow : w.heap.size ≤ da ∧ w.heap.size ≤ bsa ∧ w.heap.size ≤ bma ∧ w.heap.size ≤ bla ∧ w.heap.size ≤ bua ∧ w.heap.size ≤ sta := by omega
  have hlow2 : w.heap.size ≤ w3.heap.size := by omega
  have H5 := Lib.hid (And.intro hA5 (And.intro hS5 (And.intro hap (And.intro hf05 (And.intro hfs5 (And.intro hlow hlow2))))))
  have hTw5 : T ≤ w5.heap.size := by omega
  clear hA5 hS5 hap hf05 hfs5 hf5 hlow hlow2 hlt
  have hSv := Save_any (P := 61000) (u' := 124) H5.out.1 M L H5.out.2.2.2.2.1 hn (by omega) hTw5 (fun f hf => by have := H.out.2.2.2.2.2.1 f hf; omega) H.out.2.2.2.2.1 [] (Sl.nil w5 0 33 3) rfl (by omega) (fun _ => H.out.2.2.1.1) (fun _ => H.out.2.2.1.2) (by omega) (by omega)
  have HSv := Lib.hid hSv
  clear hSv
  go_wp2_with fail
  refine HSv.out.mono ?_
  obtain ⟨R, hR⟩ : ∃ R, R = (treeF l).1 := ⟨_, rfl⟩
  rw [← hR]
  have HR := Lib.hid hR
  clear hR
  rintro e w6 (⟨h0, rfl, hf6⟩ | ⟨h0, rfl, mpa', hS6, hf6, hm6⟩)
  · have HR1 : Hid ((treeF l).1 ≠ 0) := Lib.hid (by rw [← HR.out]; exact h0)
    clear HR h0
    have hS6 := H5.out.1.fra hf6
    have hB6 := H5.out.2.1.fra hf6
    have hf06 : FrA w w6 := H5.out.2.2.2.1.trans hf6
    have hz56 := hf6.size
    have H6 := Lib.hid (And.intro hS6 (And.intro hB6 (And.intro H5.out.2.2.1 hf06)))
    clear hS6 hB6 hf06 hf6
    go_wp2_with fail
    -- the second save
    have hsl7 : Sl (w6.alloc (.cells #[.string (⟨#[120, 47]⟩ ++ bs K), .string (bs V), .bool false, .string (⟨#[120, 47]⟩ ++ bs K ++ ⟨#[50]⟩), .string ⟨#[]⟩, .bool true] 33)) (w6.heap.size + 1) 33 3 (some ⟨w6.heap.size, 0, none⟩) 2 2 ([besPr K V, besPr2 K].flatMap prCells) :=
      Sl.new w6 ([besPr K V, besPr2 K].flatMap prCells) _ 3 2 2 rfl (Nat.le_refl _) (by decide) _
    obtain ⟨w7, hw7⟩ : ∃ w7, w7 = w6.alloc (.cells #[.string (⟨#[120, 47]⟩ ++ bs K), .string (bs V), .bool false, .string (⟨#[120, 47]⟩ ++ bs K ++ ⟨#[50]⟩), .string ⟨#[]⟩, .bool true] 33) := ⟨_, rfl⟩
    rw [← hw7] at hsl7 ⊢
    have hf67 : FrA w6 w7 := by rw [hw7]; exact (Fr.refl _ _).alloc _
    have hz67 := hf67.size
    have hSv7 := Save_any (P := 61000) (u' := 124) (H6.out.2.1.fra hf67) M L (H.out.1.fra (H6.out.2.2.2.trans hf67)) hn (by omega) (by omega) (fun f hf => by have := H.out.2.2.2.2.2.1 f hf; omega) H.out.2.2.2.2.1 [besPr K V, besPr2 K] hsl7 rfl (by omega) (fun _ => H.out.2.2.2.1.1) (fun _ => H.out.2.2.2.1.2) (by omega) (by omega)
    have H7 := Lib.hid (And.intro hSv7 (And.intro hf67 (H6.out.1.fra hf67)))
    clear hSv7 hsl7 hw7 hf67
    refine H7.out.1.mono ?_
    rintro e w8 (⟨_, rfl, hf8⟩ | ⟨h0, _⟩)
    rotate_left
    · exact absurd h0 HR1.out
    have hA8 := H7.out.2.2.fra hf8
    have hB8 := (H6.out.2.1.fra H7.out.2.1).fra hf8
    have hap8 := H6.out.2.2.1
    have hf08 : FrA w w8 := (H6.out.2.2.2.trans H7.out.2.1).trans hf8
    have hz78 := hf8.size
    have H8 := Lib.hid (And.intro hA8 (And.intro hB8 (And.intro hap8 hf08)))
    clear hA8 hB8 hap8 hf08 hf8
    go_wp2_with fail
    -- the pair by itself
    have hsl9 : Sl (w8.alloc (.cells #[.string (⟨#[120, 47]⟩ ++ bs K), .string (bs V), .bool false] 33)) (w8.heap.size + 1) 33 3 (some ⟨w8.heap.size, 0, none⟩) 1 1 ([besPr K V].flatMap prCells) :=
      Sl.new w8 ([besPr K V].flatMap prCells) _ 3 1 1 rfl (Nat.le_refl _) (by decide) _
    obtain ⟨w9, hw9⟩ : ∃ w9, w9 = w8.alloc (.cells #[.string (⟨#[120, 47]⟩ ++ bs K), .string (bs V), .bool false] 33) := ⟨_, rfl⟩
    rw [← hw9] at hsl9 ⊢
    have hf89 : FrA w8 w9 := by rw [hw9]; exact (Fr.refl _ _).alloc _
    have hz89 := hf89.size
    obtain ⟨z1, z2, z3, z4⟩ := bes_sz K V
    have hAp := stoApply_any (P := 200) (u' := 2) (H8.out.1.fra hf89) [besPr K V] rfl hsl9 (fun p hp => by rw [List.mem_singleton] at hp; subst hp; unfold Pr.fits; omega) (by simp) (by
      have := body_le [besPr K V] (fun p hp => by rw [List.mem_singleton] at hp; subst hp; unfold Pr.fits; omega)
      simp only [List.map_cons, List.map_nil, List.sum_cons, List.sum_nil] at this
      simp only [List.map_cons, List.map_nil]
      omega) (by omega) (by omega)
    have H9 := Lib.hid (And.intro hAp (And.intro hf89 (H8.out.2.1.fra hf89)))
    clear hAp hsl9 hw9 hf89 z1 z2 z3 z4
    refine H9.out.1.mono ?_
    rintro e w10 ⟨rfl, mpa2, hA10, hf10, hm10⟩
    have hB10 := (H8.out.1.fra H9.out.2.1).keepB H9.out.2.2 H8.out.2.2.1 hf10
    have hap10 := H8.out.2.2.1.setA (H9.out.2.2) hm10
    have hf010 : FrA w w10 := fra_k (H8.out.2.2.2.trans H9.out.2.1) hf10 fun k o hk => by
      obtain ⟨l1, l2, l3, l4, l5, l6⟩ := H5.out.2.2.2.2.2.1
      show (k ≠ da ∧ k ≠ bsa ∧ k ≠ bma ∧ k ≠ bla ∧ k ≠ bua) ∧ k ≠ sta
      omega
    have htwo := two_bad l M L K V
    have hz910 := hf10.size
    have hLA := htwo.a.load hA10
    have H10 := Lib.hid (And.intro hA10 (And.intro hB10 (And.intro hap10 (And.intro hf010 (And.intro htwo hLA)))))
    clear hA10 hB10 hap10 hf010 hf10 hm10 htwo hLA
    go_wp2_with fail
    refine H10.out.2.2.2.2.2.mono ?_
    rintro e w11 ⟨v1, rfl, hs1, hf11⟩
    have hLB := H10.out.2.2.2.2.1.b.load (H10.out.2.1.fra hf11)
    have H11 := Lib.hid (And.intro hs1 (And.intro hf11 hLB))
    clear hs1 hf11 hLB
    go_wp2_with fail
    refine H11.out.2.2.mono ?_
    rintro e w12 ⟨v2, rfl, hs2, hf12⟩
    have hSt := hState_any (H11.out.1.fra hf12) hs2 rfl rfl rfl
    have H12 := Lib.hid (And.intro hSt (H11.out.2.1.trans hf12))
    clear hSt hs2 hf12
    go_wp2_with fail
    refine H12.out.1.mono ?_
    rintro e w13 ⟨rfl, hf13⟩
    have hf1013 := H12.out.2.trans hf13
    have hLA := H10.out.2.2.2.2.1.a.load (H10.out.1.fra hf1013)
    have H13 := Lib.hid (And.intro hLA hf1013)
    clear hLA hf13 hf1013
    go_wp2_with fail
    refine H13.out.1.mono ?_
    rintro e w14 ⟨v3, rfl, hs3, hf14⟩
    obtain ⟨ao3, cap3, vs3, hv3, hT3⟩ := hs3
    unfold stv at hv3
    subst hv3
    have hf1014 := H13.out.2.trans hf14
    obtain ⟨fl, hfl⟩ : ∃ fl : List Fl, fl = [] := ⟨_, rfl⟩
    obtain ⟨M', hM'⟩ : ∃ M' : List UInt8, M' = [] := ⟨_, rfl⟩
    rw [← hfl] at hT3
    have hfl0 : ([] : List Fl).length = fl.length := by rw [hfl]
    rw [hfl0, ← hM']
    obtain ⟨w15, hw15⟩ : ∃ w15, w15 = w14.alloc (.cells #[.string (bs M'), .string (bs M'), .slice none 0 0, .slice ao3 fl.length cap3] 38) := ⟨_, rfl⟩
    have hf1415 : FrA w14 w15 := by rw [hw15]; exact (Fr.refl _ _).alloc _
    have hb15 : w15.heap[w14.heap.size]? = some (.cells #[.string (bs M'), .string (bs M'), .slice none 0 0, .slice ao3 fl.length cap3] 38 (0, 0)) := by rw [hw15]; exact heap_alloc_new _ _
    have hs15 : StaAt w15 (.agg #[.string (bs M'), .string (bs M'), .slice none 0 0, .slice ao3 fl.length cap3]) M' M' fl := StaAt.fra ⟨ao3, cap3, vs3, rfl, hT3⟩ hf1415
    have hz1014 := hf1014.size
    have hz1415 := hf1415.size
    have hS15 := H10.out.1.fra (hf1014.trans hf1415)
    have hSv15 := Save_any (P := 61000) (u' := 126) hS15 M L (H.out.1.fra ((H10.out.2.2.2.1.trans hf1014).trans hf1415)) hn (by omega) (by omega) (fun f hf => by have := H.out.2.2.2.2.2.1 f hf; omega) H.out.2.2.2.2.1 [] (Sl.nil w15 0 33 3) rfl (by omega) (fun _ => H.out.2.2.1.1) (fun _ => H.out.2.2.1.2) (by omega) (by omega)
    have H15 := Lib.hid (And.intro hSv15 (And.intro hb15 (And.intro hs15 (And.intro (hf1014.trans hf1415) (And.intro hS15 (And.intro hfl hM'))))))
    clear hT3 hf14 hf1014 hf1415 hb15 hs15 hS15 hSv15 hfl hM' hfl0
    go_wp2_with fail
    rw [← hw15]
    clear hw15
    refine H15.out.1.mono ?_
    rintro e w16 (⟨_, rfl, hf16⟩ | ⟨h0, _⟩)
    rotate_left
    · exact absurd h0 HR1.out
    have hA16 := H15.out.2.2.2.2.1.fra hf16
    have hB16 := (H10.out.2.1.fra H15.out.2.2.2.1).fra hf16
    have hs16 := H15.out.2.2.1.fra hf16
    have hb16 := hf16.keep _ _ H15.out.2.1 trivial
    have hf016 : FrA w w16 := (H10.out.2.2.2.1.trans H15.out.2.2.2.1).trans hf16
    have m0 : w16.cell? ⟨w14.heap.size, 0, none⟩ = some (.string (bs M')) := cell_of_heap hb16 0
    have m1 : w16.cell? ⟨w14.heap.size, 1, none⟩ = some (.string (bs M')) := cell_of_heap hb16 1
    have m2 : w16.cell? ⟨w14.heap.size, 2, none⟩ = some (.slice none 0 0) := cell_of_heap hb16 2
    have m3 : w16.cell? ⟨w14.heap.size, 3, none⟩ = some (.slice ao3 fl.length cap3) := cell_of_heap hb16 3
    have H16 := Lib.hid (And.intro hA16 (And.intro hB16 (And.intro hs16 (And.intro hb16 hf016))))
    clear hA16 hB16 hs16 hb16 hf016 hf16
    go_wp2_with fail
    have hLA16 := fun w' (hf : FrA w16 w') => H10.out.2.2.2.2.1.a2.load (H16.out.1.fra hf)
    have hLB16 := fun w' (hf : FrA w16 w') => H10.out.2.2.2.2.1.b.load (H16.out.2.1.fra hf)
    rw [← H15.out.2.2.2.2.2.1, ← H15.out.2.2.2.2.2.2] at hLA16 hLB16
    have HLA := Lib.hid hLA16
    have HLB := Lib.hid hLB16
    clear hLA16 hLB16
    have tok1 : True := trivial
    obtain ⟨X, hX⟩ : ∃ X, X = w14.heap.size := ⟨_, rfl⟩
    rw [← hX] at m0 m1 m2 m3 ⊢
    have H16' := H16.out.2.2.2.1
    rw [← hX] at H16'
    have HX := Lib.hid H16'
    clear hX H16'
    go_region_held3 (fun w' => w'.cell? ⟨X, 0, none⟩ = some (.string (bs M')) ∧ w'.cell? ⟨X, 1, none⟩ = some (.string (bs M')) ∧ w'.cell? ⟨X, 2, none⟩ = some (.slice none 0 0) ∧ w'.cell? ⟨X, 3, none⟩ = some (.slice ao3 fl.length cap3)) (first | exact ⟨m0, m1, m2, m3⟩ | exact ⟨p0, p1, p2, p3⟩ | exact ⟨q0, q1, q2, q3⟩ | exact ⟨r0, r1, r2, r3⟩ | exact ⟨t0, t1, t2, t3⟩ | go_keep) (first | (go_at_call 13; have _t := tok1; (refine (HLA.out _ (Fr.refl _ _).drew).mono ?_); rintro e w17 ⟨v4, rfl, s4, f4⟩; clear tok1; have b17 := f4.keep _ _ HX.out trivial; have p0 := cell_of_heap b17 0; have p1 := cell_of_heap b17 1; have p2 := cell_of_heap b17 2; have p3 := cell_of_heap b17 3) | (go_at_call 12; (refine (hState_any s4 (H16.out.2.2.1.fra ((Fr.refl (fun _ _ => True) w16).drew.trans f4)) rfl rfl rfl).mono ?_); rintro e w18 ⟨rfl, f5⟩; have b18 := f5.keep _ _ b17 trivial; have q0 := cell_of_heap b18 0; have q1 := cell_of_heap b18 1; have q2 := cell_of_heap b18 2; have q3 := cell_of_heap b18 3) | (go_at_call 13; (refine (HLB.out _ (((Fr.refl (fun _ _ => True) w16).drew.trans f4).trans f5)).mono ?_); rintro e w19 ⟨v5, rfl, s6, f6⟩; have b19 := f6.keep _ _ b18 trivial; have r0 := cell_of_heap b19 0; have r1 := cell_of_heap b19 1; have r2 := cell_of_heap b19 2; have r3 := cell_of_heap b19 3) | (go_at_call 14; (refine (same_any (H16.out.2.2.1.fra ((((Fr.refl (fun _ _ => True) w16).drew.trans f4).trans f5).trans f6)) s6 rfl rfl rfl).mono ?_); rintro e w20 ⟨rfl, f7⟩; have b20 := f7.keep _ _ b19 trivial; have t0 := cell_of_heap b20 0; have t1 := cell_of_heap b20 1; have t2 := cell_of_heap b20 2; have t3 := cell_of_heap b20 3))
    have H20 := Lib.hid ((((((Fr.refl (fun _ _ => True) w16).drew.trans f4).trans f5).trans f6).trans f7))
    clear s4 f4 f5 s6 f6 f7 b17 b18 b19 b20 p0 p1 p2 p3 q0 q1 q2 q3 r0 r1 r2 r3 t0 t1 t2 t3 m0 m1 m2 m3
    go_wp2
    go_ret
    exact ⟨rfl, H16.out.2.2.2.2.trans H20.out⟩
  · have HR0 := Lib.hid h0
    have HR1 : Hid ((treeF l).1 = 0) := Lib.hid (by rw [← HR.out]; exact h0)
    clear HR h0
    have hB6 := H5.out.1.keepB H5.out.2.1 H5.out.2.2.1 hf6
    have hap6 := H5.out.2.2.1.setA H5.out.2.1 hm6
    have hf06 : FrA w w6 := fra_k H5.out.2.2.2.1 hf6 fun k o hk => by
      obtain ⟨l1, l2, l3, l4, l5, l6⟩ := H5.out.2.2.2.2.2.1
      show (k ≠ da ∧ k ≠ bsa ∧ k ≠ bma ∧ k ≠ bla ∧ k ≠ bua) ∧ k ≠ sta
      omega
    have hz56 := hf6.size
    have H6 := Lib.hid (And.intro hS6 (And.intro hB6 (And.intro hap6 hf06)))
    clear hS6 hB6 hap6 hf06 hf6
    go_wp2_with fail
    -- the second save
    have hsl7 : Sl (w6.alloc (.cells #[.string (⟨#[120, 47]⟩ ++ bs K), .string (bs V), .bool false, .string (⟨#[120, 47]⟩ ++ bs K ++ ⟨#[50]⟩), .string ⟨#[]⟩, .bool true] 33)) (w6.heap.size + 1) 33 3 (some ⟨w6.heap.size, 0, none⟩) 2 2 ([besPr K V, besPr2 K].flatMap prCells) :=
      Sl.new w6 ([besPr K V, besPr2 K].flatMap prCells) _ 3 2 2 rfl (Nat.le_refl _) (by decide) _
    obtain ⟨w7, hw7⟩ : ∃ w7, w7 = w6.alloc (.cells #[.string (⟨#[120, 47]⟩ ++ bs K), .string (bs V), .bool false, .string (⟨#[120, 47]⟩ ++ bs K ++ ⟨#[50]⟩), .string ⟨#[]⟩, .bool true] 33) := ⟨_, rfl⟩
    rw [← hw7] at hsl7 ⊢
    have hf67 : FrA w6 w7 := by rw [hw7]; exact (Fr.refl _ _).alloc _
    have hz67 := hf67.size
    have hSv7 := Save_any (P := 61000) (u' := 124) (H6.out.2.1.fra hf67) M L (H.out.1.fra (H6.out.2.2.2.trans hf67)) hn (by omega) (by omega) (fun f hf => by have := H.out.2.2.2.2.2.1 f hf; omega) H.out.2.2.2.2.1 [besPr K V, besPr2 K] hsl7 rfl (by omega) (fun _ => H.out.2.2.2.1.1) (fun _ => H.out.2.2.2.1.2) (by omega) (by omega)
    have H7 := Lib.hid (And.intro hSv7 (And.intro hf67 (H6.out.1.fra hf67)))
    clear hSv7 hsl7 hw7 hf67
    refine H7.out.1.mono ?_
    rintro e w8 (⟨h0, _⟩ | ⟨_, rfl, mpb', hB8, hf8, hm8⟩)
    · exact absurd HR1.out h0
    have hA8 := H7.out.2.2.keepA (H6.out.2.1.fra H7.out.2.1) H6.out.2.2.1 hf8
    have hap8 := H6.out.2.2.1.setB (mp' := mpb') (by omega)
    have hf08 : FrA w w8 := fra_k (H6.out.2.2.2.trans H7.out.2.1) hf8 fun k o hk => by
      show (k ≠ db ∧ k ≠ bsb ∧ k ≠ bmb ∧ k ≠ blb ∧ k ≠ bub) ∧ k ≠ stb
      have := H5.out.2.2.2.2.2.2
      omega
    have hz78 := hf8.size
    have H8 := Lib.hid (And.intro hA8 (And.intro hB8 (And.intro hap8 hf08)))
    clear hA8 hB8 hap8 hf08 hf8
    go_wp2_with fail
    -- the pair by itself
    have hsl9 : Sl (w8.alloc (.cells #[.string (⟨#[120, 47]⟩ ++ bs K), .string (bs V), .bool false] 33)) (w8.heap.size + 1) 33 3 (some ⟨w8.heap.size, 0, none⟩) 1 1 ([besPr K V].flatMap prCells) :=
      Sl.new w8 ([besPr K V].flatMap prCells) _ 3 1 1 rfl (Nat.le_refl _) (by decide) _
    obtain ⟨w9, hw9⟩ : ∃ w9, w9 = w8.alloc (.cells #[.string (⟨#[120, 47]⟩ ++ bs K), .string (bs V), .bool false] 33) := ⟨_, rfl⟩
    rw [← hw9] at hsl9 ⊢
    have hf89 : FrA w8 w9 := by rw [hw9]; exact (Fr.refl _ _).alloc _
    have hz89 := hf89.size
    obtain ⟨z1, z2, z3, z4⟩ := bes_sz K V
    have hAp := stoApply_any (P := 200) (u' := 126) (H8.out.1.fra hf89) [besPr K V] rfl hsl9 (fun p hp => by rw [List.mem_singleton] at hp; subst hp; unfold Pr.fits; omega) (by simp) (by
      have := body_le [besPr K V] (fun p hp => by rw [List.mem_singleton] at hp; subst hp; unfold Pr.fits; omega)
      simp only [List.map_cons, List.map_nil, List.sum_cons, List.sum_nil] at this
      simp only [List.map_cons, List.map_nil]
      omega) (by omega) (by omega)
    have H9 := Lib.hid (And.intro hAp (And.intro hf89 (H8.out.2.1.fra hf89)))
    clear hAp hsl9 hw9 hf89 z1 z2 z3 z4
    refine H9.out.1.mono ?_
    rintro e w10 ⟨rfl, mpa2, hA10, hf10, hm10⟩
    have hB10 := (H8.out.1.fra H9.out.2.1).keepB H9.out.2.2 H8.out.2.2.1 hf10
    have hap10 := H8.out.2.2.1.setA (H9.out.2.2) hm10
    have hf010 : FrA w w10 := fra_k (H8.out.2.2.2.trans H9.out.2.1) hf10 fun k o hk => by
      obtain ⟨l1, l2, l3, l4, l5, l6⟩ := H5.out.2.2.2.2.2.1
      show (k ≠ da ∧ k ≠ bsa ∧ k ≠ bma ∧ k ≠ bla ∧ k ≠ bua) ∧ k ≠ sta
      omega
    have htwo := two_ok l M L K V H.out.2.2.2.2.2.2
    have hz910 := hf10.size
    have hLA := htwo.a.load hA10
    have H10 := Lib.hid (And.intro hA10 (And.intro hB10 (And.intro hap10 (And.intro hf010 (And.intro htwo hLA)))))
    clear hA10 hB10 hap10 hf010 hf10 hm10 htwo hLA hm8
    go_wp2_with fail
    refine H10.out.2.2.2.2.2.mono ?_
    rintro e w11 ⟨v1, rfl, hs1, hf11⟩
    have hLB := H10.out.2.2.2.2.1.b.load (H10.out.2.1.fra hf11)
    have H11 := Lib.hid (And.intro hs1 (And.intro hf11 hLB))
    clear hs1 hf11 hLB
    go_wp2_with fail
    refine H11.out.2.2.mono ?_
    rintro e w12 ⟨v2, rfl, hs2, hf12⟩
    have hSt := hState_any (H11.out.1.fra hf12) hs2 rfl rfl rfl
    have H12 := Lib.hid (And.intro hSt (H11.out.2.1.trans hf12))
    clear hSt hs2 hf12
    go_wp2_with fail
    refine H12.out.1.mono ?_
    rintro e w13 ⟨rfl, hf13⟩
    have hf1013 := H12.out.2.trans hf13
    have hLA := H10.out.2.2.2.2.1.a.load (H10.out.1.fra hf1013)
    have H13 := Lib.hid (And.intro hLA hf1013)
    clear hLA hf13 hf1013
    go_wp2_with fail
    refine H13.out.1.mono ?_
    rintro e w14 ⟨v3, rfl, hs3, hf14⟩
    obtain ⟨ao3, cap3, vs3, hv3, hT3⟩ := hs3
    unfold stv at hv3
    subst hv3
    have hf1014 := H13.out.2.trans hf14
    obtain ⟨fl, hfl⟩ : ∃ fl, fl = (treeF l).2.files := ⟨_, rfl⟩
    rw [← hfl] at hT3 ⊢
    obtain ⟨w15, hw15⟩ : ∃ w15, w15 = w14.alloc (.cells #[.string (bs M), .string (bs L), .slice none 0 0, .slice ao3 fl.length cap3] 38) := ⟨_, rfl⟩
    have hf1415 : FrA w14 w15 := by rw [hw15]; exact (Fr.refl _ _).alloc _
    have hb15 : w15.heap[w14.heap.size]? = some (.cells #[.string (bs M), .string (bs L), .slice none 0 0, .slice ao3 fl.length cap3] 38 (0, 0)) := by rw [hw15]; exact heap_alloc_new _ _
    have hs15 : StaAt w15 (.agg #[.string (bs M), .string (bs L), .slice none 0 0, .slice ao3 fl.length cap3]) M L fl := StaAt.fra ⟨ao3, cap3, vs3, rfl, hT3⟩ hf1415
    have hz1014 := hf1014.size
    have hz1415 := hf1415.size
    have hS15 := H10.out.1.fra (hf1014.trans hf1415)
    have hSv15 := Save_any (P := 61000) (u' := 250) hS15 M L (H.out.1.fra ((H10.out.2.2.2.1.trans hf1014).trans hf1415)) hn (by omega) (by omega) (fun f hf => by have := H.out.2.2.2.2.2.1 f hf; omega) H.out.2.2.2.2.1 [] (Sl.nil w15 0 33 3) rfl (by omega) (fun _ => H.out.2.2.1.1) (fun _ => H.out.2.2.1.2) (by omega) (by omega)
    have H15 := Lib.hid (And.intro hSv15 (And.intro hb15 (And.intro hs15 (And.intro (hf1014.trans hf1415) (And.intro hS15 hfl)))))
    clear hT3 hf14 hf1014 hf1415 hb15 hs15 hS15 hSv15 hfl
    go_wp2_with fail
    rw [← hw15]
    clear hw15
    refine H15.out.1.mono ?_
    rintro e w16 (⟨h0, _⟩ | ⟨_, rfl, mpa3, hA16, hf16, hm16⟩)
    · exact absurd HR1.out h0
    have hB16 := H15.out.2.2.2.2.1.keepB (H10.out.2.1.fra H15.out.2.2.2.1) H10.out.2.2.1 hf16
    have hs16 := H15.out.2.2.1.sto H15.out.2.2.2.2.1 hf16
    have hb16 := hf16.keep _ _ H15.out.2.1 (H15.out.2.2.2.2.1.not H15.out.2.1 (by decide) (by decide) (by decide) (by decide) _)
    have hf016 : FrA w w16 := fra_k (H10.out.2.2.2.1.trans H15.out.2.2.2.1) hf16 fun k o hk => by
      obtain ⟨l1, l2, l3, l4, l5, l6⟩ := H5.out.2.2.2.2.2.1
      show (k ≠ da ∧ k ≠ bsa ∧ k ≠ bma ∧ k ≠ bla ∧ k ≠ bua) ∧ k ≠ sta
      omega
    have m0 : w16.cell? ⟨w14.heap.size, 0, none⟩ = some (.string (bs M)) := cell_of_heap hb16 0
    have m1 : w16.cell? ⟨w14.heap.size, 1, none⟩ = some (.string (bs L)) := cell_of_heap hb16 1
    have m2 : w16.cell? ⟨w14.heap.size, 2, none⟩ = some (.slice none 0 0) := cell_of_heap hb16 2
    have m3 : w16.cell? ⟨w14.heap.size, 3, none⟩ = some (.slice ao3 fl.length cap3) := cell_of_heap hb16 3
    have H16 := Lib.hid (And.intro hA16 (And.intro hB16 (And.intro hs16 (And.intro hb16 hf016))))
    clear hA16 hB16 hs16 hb16 hf016 hf16 hm16
    go_wp2_with fail
    have hLA16 := fun w' (hf : FrA w16 w') => H10.out.2.2.2.2.1.a2.load (H16.out.1.fra hf)
    have hLB16 := fun w' (hf : FrA w16 w') => H10.out.2.2.2.2.1.b.load (H16.out.2.1.fra hf)
    rw [← H15.out.2.2.2.2.2] at hLA16 hLB16
    have HLA := Lib.hid hLA16
    have HLB := Lib.hid hLB16
    clear hLA16 hLB16
    have tok1 : True := trivial
    obtain ⟨X, hX⟩ : ∃ X, X = w14.heap.size := ⟨_, rfl⟩
    rw [← hX] at m0 m1 m2 m3 ⊢
    have H16' := H16.out.2.2.2.1
    rw [← hX] at H16'
    have HX := Lib.hid H16'
    clear hX H16'
    go_region_held3 (fun w' => w'.cell? ⟨X, 0, none⟩ = some (.string (bs M)) ∧ w'.cell? ⟨X, 1, none⟩ = some (.string (bs L)) ∧ w'.cell? ⟨X, 2, none⟩ = some (.slice none 0 0) ∧ w'.cell? ⟨X, 3, none⟩ = some (.slice ao3 fl.length cap3)) (first | exact ⟨m0, m1, m2, m3⟩ | exact ⟨p0, p1, p2, p3⟩ | exact ⟨q0, q1, q2, q3⟩ | exact ⟨r0, r1, r2, r3⟩ | exact ⟨t0, t1, t2, t3⟩ | go_keep) (first | (go_at_call 13; have _t := tok1; (refine (HLA.out _ (Fr.refl _ _).drew).mono ?_); rintro e w17 ⟨v4, rfl, s4, f4⟩; clear tok1; have b17 := f4.keep _ _ HX.out trivial; have p0 := cell_of_heap b17 0; have p1 := cell_of_heap b17 1; have p2 := cell_of_heap b17 2; have p3 := cell_of_heap b17 3) | (go_at_call 12; (refine (hState_any s4 (H16.out.2.2.1.fra ((Fr.refl (fun _ _ => True) w16).drew.trans f4)) rfl rfl rfl).mono ?_); rintro e w18 ⟨rfl, f5⟩; have b18 := f5.keep _ _ b17 trivial; have q0 := cell_of_heap b18 0; have q1 := cell_of_heap b18 1; have q2 := cell_of_heap b18 2; have q3 := cell_of_heap b18 3) | (go_at_call 13; (refine (HLB.out _ (((Fr.refl (fun _ _ => True) w16).drew.trans f4).trans f5)).mono ?_); rintro e w19 ⟨v5, rfl, s6, f6⟩; have b19 := f6.keep _ _ b18 trivial; have r0 := cell_of_heap b19 0; have r1 := cell_of_heap b19 1; have r2 := cell_of_heap b19 2; have r3 := cell_of_heap b19 3) | (go_at_call 14; (refine (same_any (H16.out.2.2.1.fra ((((Fr.refl (fun _ _ => True) w16).drew.trans f4).trans f5).trans f6)) s6 rfl rfl rfl).mono ?_); rintro e w20 ⟨rfl, f7⟩; have b20 := f7.keep _ _ b19 trivial; have t0 := cell_of_heap b20 0; have t1 := cell_of_heap b20 1; have t2 := cell_of_heap b20 2; have t3 := cell_of_heap b20 3))
    have H20 := Lib.hid ((((((Fr.refl (fun _ _ => True) w16).drew.trans f4).trans f5).trans f6).trans f7))
    clear s4 f4 f5 s6 f6 f7 b17 b18 b19 b20 p0 p1 p2 p3 q0 q1 q2 q3 r0 r1 r2 r3 t0 t1 t2 t3 m0 m1 m2 m3
    go_wp2
    go_ret
    exact ⟨rfl, H16.out.2.2.2.2.trans H20.out⟩

end
end Go.Proofs.YtbhjdddiihfafaaGreatDoor
