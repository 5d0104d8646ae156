/- Package wal: 'open': a frame is read. -/
import Derived.Test.YtbhjdddiihfafaaGreatDoorJCommit
set_option linter.unusedVariables false
set_option linter.unusedSimpArgs false
namespace Go.Proofs.YtbhjdddiihfafaaGreatDoor
open Go.RowKit Go.Maps

theorem sub_take {α : Type} (x : List α) (s a k : Nat) (h : a + k ≤ s) : ((x.take s).take (a + k)).drop a = (x.drop a).take k := by
  rw [List.take_take, Nat.min_eq_left h, List.drop_take]; congr 1; omega

theorem openF_eq (C : List (List UInt8)) (sz half side a next s : Nat) (hs : sz = s + 16) (h112 : 112 ≤ s) (x : List UInt8) (hx : x = C.getD (side * half + a) []) (hl : x.length = sz) (ha : a < half) :
    openF C sz half side a next =
      if ¬ (x.take 8 = signB ∧ beN ((x.drop 16).take 8) = next) then none else
      if ¬ (beN ((x.drop s).take 8) = beN ((x.drop 8).take 8) ∧ beN ((x.drop (s + 8)).take 8) = next + 1) then none else
      if ¬ beN ((x.drop 24).take 8) ≤ (half - a) * s - 32 then none else
      (unbody ((((x.take s) ++ ((List.range (secsN sz (32 + beN ((x.drop 24).take 8)) - 1)).flatMap fun i => (C.getD (side * half + a + 1 + i) []).take s)).drop 32).take (beN ((x.drop 24).take 8)))).map
        fun rs => (beN ((x.drop 8).take 8), rs, a + secsN sz (32 + beN ((x.drop 24).take 8))) := by
  unfold openF
  rw [if_neg (by omega)]
  have e0 : sz - 16 = s := by omega
  simp only [← hx, e0]
  rw [sub_take x s 8 8 (by omega), sub_take x s 16 8 (by omega), sub_take x s 24 8 (by omega)]
  have e1 : (x.take s).take 8 = x.take 8 := by rw [List.take_take]; congr 1; omega
  have e2 : (x.drop s).drop 8 = (x.drop (s + 8)).take 8 := by rw [List.drop_drop, List.take_of_length_le (by rw [List.length_drop]; omega)]
  rw [e1, e2]

/-- A frame's bytes, as far as so many sectors behind the first. -/
def accF (C : List (List UInt8)) (s base : Nat) (x : List UInt8) (k : Nat) : List UInt8 := x.take s ++ (List.range k).flatMap fun i => (C.getD (base + i) []).take s

theorem accF_zero (C : List (List UInt8)) (s base : Nat) (x : List UInt8) : accF C s base x 0 = x.take s := by simp [accF]

theorem accF_succ (C : List (List UInt8)) (s base : Nat) (x : List UInt8) (k : Nat) : accF C s base x (k + 1) = accF C s base x k ++ (C.getD (base + k) []).take s := by
  unfold accF
  rw [List.range_succ, List.flatMap_append, List.append_assoc]; simp

theorem accF_len (C : List (List UInt8)) (s base : Nat) (x : List UInt8) (hx : s ≤ x.length) : ∀ (k : Nat), (∀ i, i < k → s ≤ (C.getD (base + i) []).length) → (accF C s base x k).length = s + k * s
  | 0, _ => by rw [accF_zero, List.length_take]; omega
  | k + 1, h => by
    rw [accF_succ, List.length_append, accF_len C s base x hx k fun i hi => h i (by omega), List.length_take, Nat.succ_mul]
    have := h k (by omega); omega

theorem unbody_short {l : List UInt8} (h0 : l ≠ []) (h : l.length < 4) : unbody l = none := by
  rw [unbody, if_neg h0, if_pos h]

theorem unbody_no {l : List UInt8} (h0 : l ≠ []) (h : ¬ l.length < 4) (h1 : ¬ beN (l.take 4) ≤ l.length - 4) : unbody l = none := by
  rw [unbody, if_neg h0, if_neg h, if_neg h1]

theorem unbody_yes {l : List UInt8} (h0 : l ≠ []) (h : ¬ l.length < 4) (h1 : beN (l.take 4) ≤ l.length - 4) : unbody l = (unbody (l.drop (4 + beN (l.take 4)))).map (((l.drop 4).take (beN (l.take 4))) :: ·) := by
  conv => lhs; rw [unbody]
  rw [if_neg h0, if_neg h, if_pos h1]

section
variable {w : World} {I : Ids} {L : Lg} {C : List (List UInt8)} {sz : Nat}

theorem own_mono {B B' E size n : Nat} {v : Value} {xs : List Value} (h : w.ownsRow B E size v n xs) (hB : B' ≤ B) : w.ownsRow B' E size v n xs := by
  obtain ⟨h1, h2⟩ := h
  refine ⟨h1, ?_⟩
  rcases h2 with h2 | ⟨g, cap, cur, e, hg, r⟩
  · exact .inl h2
  · exact .inr ⟨g, cap, cur, e, Nat.le_trans hB hg, r⟩

/-- The records of a frame's body are read: the loop's relation. -/
def ParseAt (w3 wr : World) (T : Nat) (D : List UInt8) (outv restv : Value) : Prop :=
  ∃ (done : List (List UInt8)) (vs : List Value) (l : List UInt8) (ao : Option Addr) (cap : Nat), restv = .slice ao l.length cap ∧ Sl wr T 5 1 ao l.length cap (l.map u8) ∧ unbody D = (unbody l).map (done ++ ·) ∧
    wr.ownsRow w3.heap.size 41 1 outv done.length vs ∧ Recs wr wr.heap.size vs done ∧ done.length * 4 + l.length ≤ D.length ∧ FrA w3 wr

set_option maxHeartbeats 2000000 in
set_option maxRecDepth 100000 in
theorem open_any (h : LogAt w I L) (hok : L.Ok) (hw : L.D.Well C sz) (side a next : Nat) (hs1 : side ≤ 1) (ha4 : a ≤ 4096) (hnx : next + 1 < 18446744073709551616) :
    Calls Tryz.prog 64 #[.pointer (some ⟨I.bl, 0, none⟩), .int .i64 side, .int .i64 a, .int .u64 next] w (OpenPost w (openF C sz L.half side a next)) := by
  by_cases ha : a < L.half
  · obtain ⟨s, hs⟩ : ∃ s, sz = s + 16 := ⟨sz - 16, by have h1 := hok.s128; have h2 := hw.size; omega⟩
    have hs112 : 112 ≤ s ∧ s ≤ 4080 := by have h1 := hok.s128; have h2 := hok.disk.s2; have h3 := hw.size; omega
    obtain ⟨x, hx⟩ : ∃ x, x = C.getD (side * L.half + a) [] := ⟨_, rfl⟩
    have hhalf : L.half * 2 ≤ C.length := by have := hok.half; rw [hw.len]; omega
    have hP : side * L.half ≤ L.half := by rcases Nat.le_one_iff_eq_zero_or_eq_one.1 hs1 with rfl | rfl <;> omega
    have hxl : x.length = sz := by
      rw [hx]
      have hlt : side * L.half + a < C.length := by omega
      have : C.getD (side * L.half + a) [] = C[side * L.half + a] := by simp [List.getD, hlt]
      rw [this]; exact hw.all _ (List.getElem_mem hlt)
    have hO := Lib.hid (openF_eq C sz L.half side a next s hs hs112.1 x hx hxl ha)
    have HSE := Lib.hid (show ∀ w', FrA w w' → ∀ i : Nat, i < L.half → Calls Tryz.prog 124 #[.pointer (some ⟨I.bl, 0, none⟩), .int .i64 side, .int .i64 i] w' (NewBytes w' (C.getD (side * L.half + i) [])) from fun w' hf i hi => sector_ok (h.fra hf) hok hw side i hs1 hi)
    have HSZ := Lib.hid (show ∀ w', FrA w w' → Calls Tryz.prog 125 #[.pointer (some ⟨I.bl, 0, none⟩)] w' fun e w'' => e = .returned (.int .i64 s) ∧ w' = w'' from fun w' hf => by
      have := size_any (h.fra hf) hok
      rw [show L.size = s by unfold Lg.size; rw [hw.size]; omega] at this; exact this)
    have hmost : L.most a = (L.half - a) * s := by unfold Lg.most Lg.size; rw [hw.size]; congr 1; omega
    have HMO := Lib.hid (show ∀ w', FrA w w' → Calls Tryz.prog 127 #[.pointer (some ⟨I.bl, 0, none⟩), .int .i64 a] w' fun e w'' => e = .returned (.int .i64 ((L.half - a) * s : Nat)) ∧ w' = w'' from fun w' hf => by
      rw [← hmost]; exact most_any (h.fra hf) hok a (by omega))
    have HSC := Lib.hid (show ∀ w', FrA w w' → ∀ n : Nat, n ≤ 140737488355328 → Calls Tryz.prog 128 #[.pointer (some ⟨I.bl, 0, none⟩), .int .i64 n] w' fun e w'' => e = .returned (.int .i64 (secsN sz n)) ∧ FrA w' w'' from fun w' hf n hn => by
      have := sectors_any (h.fra hf) hok n hn
      rw [show L.sectors n = secsN sz n by unfold Lg.sectors Lg.size secsN; rw [hw.size]] at this; exact this)
    have HALL := Lib.hid (And.intro h (And.intro hok (And.intro hw (And.intro hs hx))))
    have hhb : L.half ≤ 2048 := hok.half.2.1
    have hsz7 : sz - s = 16 := by omega
    have hsz0 : s ≤ sz ∧ sz ≤ 4096 := by omega
    have hP2 := Lib.hid (And.intro hP hhalf)
    clear h hok hw hs hx hhalf hP hs1 hmost
    go_enter Tryz.func64, Tryz.ntmps64
    go_wp2_with fail
    refine (HSE.out _ (Fr.refl _ w) a ha).mono ?_
    rw [← HALL.out.2.2.2.2]
    rintro e w1 ⟨v, rfl, hown, hfr⟩
    rw [hxl] at hown
    obtain ⟨ao, cp, rfl⟩ := own_shape hown
    obtain ⟨g, rfl⟩ := own_some hown (by omega)
    have hcp : sz ≤ cp ∧ cp ≤ 9223372036854775807 := by have := (Sl.of_own hown).2.1; have := (Sl.of_own hown).2.2.1; unfold maxLen at this; omega
    have hcp2 : cp ≤ maxLen := (Sl.of_own hown).2.2.1
    obtain ⟨cx, hcx, hcx2⟩ := own_heap hown
    rw [← hxl] at hcx2
    have HB := Lib.hid (And.intro hown (And.intro hfr (And.intro hcx (And.intro hcx2 hcp2))))
    have hne : ¬ cp = s := by omega
    have hi1 : (s : Int) ≤ (cp : Int) := by omega
    have hi2 : (s : Int) ≤ (sz : Int) := by omega
    have hi3s : (8 : Int) ≤ (s : Int) := by omega
    have hi3cp : (8 : Int) ≤ (cp : Int) := by omega
    have hi4s : (16 : Int) ≤ (s : Int) := by omega
    have hi4cp : (16 : Int) ≤ (cp : Int) := by omega
    have hi5s : (24 : Int) ≤ (s : Int) := by omega
    have hi5cp : (24 : Int) ≤ (cp : Int) := by omega
    have hi6s : (32 : Int) ≤ (s : Int) := by omega
    have hi6cp : (32 : Int) ≤ (cp : Int) := by omega
    have hj3 : ¬ cp = 8 := by omega
    have hj4 : ¬ cp = 16 := by omega
    have hj5 : ¬ cp = 24 := by omega
    have hj6 : ¬ cp = 32 := by omega
    clear hown hfr hcx hcx2 hcp2
    go_wp2_with fail
    go_region_law (go_simp; go_at_call 125; refine (HSZ.out _ HB.out.2.1.drew).mono ?_; rintro e w2 ⟨rfl, rfl⟩)
    go_wp2_with fail
    have g8 := Lib.hid (show ∀ off, off + 8 ≤ sz → Calls Tryz.prog 126 #[.slice (some ⟨g, off, none⟩) 8 (cp - off)] w1.drew.drew fun e w' => e = .returned (.int .u64 (beN ((x.drop off).take 8))) ∧ w1.drew.drew = w' from fun off ho =>
      get_at (w := w1.drew.drew) HB.out.2.2.1 HB.out.2.2.2.1 (by omega) (by omega) (by have := HB.out.2.2.2.2; omega) (by omega))
    have hlt8 : ∀ off, beN ((x.drop off).take 8) < 18446744073709551616 := fun off => by
      have := beN_lt ((x.drop off).take 8)
      refine Nat.lt_of_lt_of_le this ?_
      have h8 : ((x.drop off).take 8).length ≤ 8 := List.length_take_le _ _
      exact Nat.le_trans (Nat.pow_le_pow_right (by decide) h8) (by decide)
    have hq1 := hlt8 8
    have hq2 := hlt8 24
    have hq3 := hlt8 16
    have hO2 := hO.out
    obtain ⟨tv, htv⟩ : ∃ t, t = beN ((x.drop 8).take 8) := ⟨_, rfl⟩
    obtain ⟨nv, hnv⟩ : ∃ t, t = beN ((x.drop 24).take 8) := ⟨_, rfl⟩
    obtain ⟨qv, hqv⟩ : ∃ t, t = beN ((x.drop 16).take 8) := ⟨_, rfl⟩
    obtain ⟨tt, htt⟩ : ∃ t, t = beN ((x.drop s).take 8) := ⟨_, rfl⟩
    obtain ⟨tn, htn⟩ : ∃ t, t = beN ((x.drop (s + 8)).take 8) := ⟨_, rfl⟩
    rw [← htv, ← hnv, ← hqv, ← htt, ← htn] at hO2
    have HO := Lib.hid hO2
    rw [← htv] at hq1
    rw [← hnv] at hq2
    rw [← hqv] at hq3
    have GT := Lib.hid (show Calls Tryz.prog 126 #[.slice (some ⟨g, 8, none⟩) 8 (cp - 8)] w1.drew.drew fun e w' => e = .returned (.int .u64 tv) ∧ w1.drew.drew = w' from by have := g8.out 8 (by omega); rw [← htv] at this; exact this)
    have GN := Lib.hid (show Calls Tryz.prog 126 #[.slice (some ⟨g, 24, none⟩) 8 (cp - 24)] w1.drew.drew fun e w' => e = .returned (.int .u64 nv) ∧ w1.drew.drew = w' from by have := g8.out 24 (by omega); rw [← hnv] at this; exact this)
    have GQ := Lib.hid (show Calls Tryz.prog 126 #[.slice (some ⟨g, 16, none⟩) 8 (cp - 16)] w1.drew.drew fun e w' => e = .returned (.int .u64 qv) ∧ w1.drew.drew = w' from by have := g8.out 16 (by omega); rw [← hqv] at this; exact this)
    have GE := Lib.hid (show Calls Tryz.prog 126 #[.slice (some ⟨g, s, none⟩) 8 (cp - s)] w1.drew.drew fun e w' => e = .returned (.int .u64 tt) ∧ w1.drew.drew = w' from by have := g8.out s (by omega); rw [← htt] at this; exact this)
    have GF := Lib.hid (show Calls Tryz.prog 126 #[.slice (some ⟨g, s + 8, none⟩) 8 (cp - s - 8)] w1.drew.drew fun e w' => e = .returned (.int .u64 tn) ∧ w1.drew.drew = w' from by have := g8.out (s + 8) (by omega); rw [← htn, show cp - (s + 8) = cp - s - 8 by omega] at this; exact this)
    clear g8 hlt8 hO2 htv hnv hqv htt htn
    go_region_law (first | (go_simp; go_at_call 126; (with_reducible refine GT.out.mono ?_); rintro e w2 ⟨rfl, rfl⟩) | (go_simp; go_at_call 126; (with_reducible refine GN.out.mono ?_); rintro e w2 ⟨rfl, rfl⟩))
    have hs8 : Sl w1.drew.drew w1.heap.size 5 1 (some ⟨g, 0, none⟩) 8 cp ((x.take 8).map u8) := by
      have := part_sl (w := w1) (off := 0) (k := 8) HB.out.2.2.1 HB.out.2.2.2.1 (by omega) (show 8 ≤ cp by omega) HB.out.2.2.2.2
      rw [List.drop_zero] at this; exact this
    have hFr : FrA w w1.drew.drew := HB.out.2.1.drew.drew
    have HF := Lib.hid hFr
    clear hFr
    by_cases hsg : x.take 8 = signB
    · have hbs : bs (x.take 8) = { data := #[72, 65, 86, 69, 82, 83, 65, 75] } := by rw [hsg]; rfl
      by_cases hq : qv = next
      · subst hq
        by_cases htt : tt = tv
        · subst htt
          by_cases htn : tn = qv + 1
          · subst htn
            obtain ⟨M, hM⟩ : ∃ M, M = (L.half - a) * s := ⟨_, rfl⟩
            have hMb : 112 ≤ M ∧ M ≤ 2048 * 4080 := by
              rw [hM]
              exact ⟨Nat.le_trans (by omega) (Nat.mul_le_mul (show 1 ≤ L.half - a by omega) hs112.1), Nat.mul_le_mul (by omega) hs112.2⟩
            have HMO2 := Lib.hid (show ∀ w', FrA w w' → Calls Tryz.prog 127 #[.pointer (some ⟨I.bl, 0, none⟩), .int .i64 a] w' fun e w'' => e = .returned (.int .i64 M) ∧ w' = w'' from by rw [hM]; exact HMO.out)
            by_cases hnm : nv ≤ M - 32
            · have hO3 : openF C sz L.half side a qv = (unbody (((accF C s (side * L.half + a + 1) x (secsN sz (32 + nv) - 1)).drop 32).take nv)).map fun rs => (tt, rs, a + secsN sz (32 + nv)) := by
                rw [HO.out, if_neg (by simp [hsg]), if_neg (by simp), if_neg (by omega)]; rfl
              have HO3 := Lib.hid hO3
              obtain ⟨N, hN⟩ : ∃ N, N = secsN sz (32 + nv) := ⟨_, rfl⟩
              have hN1 : 0 < N := by rw [hN]; exact secsN_pos _ _ (by omega)
              have hNl : a + N ≤ L.half := by
                have h1 := secsN_le sz (32 + nv) (L.half - a) (by omega) (by
                  have : (L.half - a) * (sz - 16) = M := by rw [hM]; congr 1; have := HALL.out.2.2.2.1; omega
                  omega)
                omega
              have HN := Lib.hid hN
              have HSC2 := Lib.hid (show ∀ w', FrA w w' → Calls Tryz.prog 128 #[.pointer (some ⟨I.bl, 0, none⟩), .int .i64 (32 + (nv : Int))] w' fun e w'' => e = .returned (.int .i64 N) ∧ FrA w' w'' from fun w' hf => by
                have := HSC.out w' hf (32 + nv) (by omega)
                rw [show ((32 + nv : Nat) : Int) = 32 + (nv : Int) by omega, ← hN] at this; exact this)
              clear hO3 hN hM
              have hnm1 : (nv : Int) ≤ (M : Int) - 32 := by omega
              go_wp2_with (first | (refine wp_conv_bs rfl _ rfl rfl hs8 ?_; rw [hbs]) | (go_at_call 126; (with_reducible refine GQ.out.mono ?_); rintro e w2 ⟨rfl, rfl⟩) | (go_at_call 126; (with_reducible refine GE.out.mono ?_); rintro e w2 ⟨rfl, rfl⟩) | (go_at_call 126; (with_reducible refine GF.out.mono ?_); rintro e w2 ⟨rfl, rfl⟩) | (go_at_call 65; (with_reducible refine (wmust_true _ _).mono ?_); rintro e w2 ⟨rfl, rfl⟩) | (go_at_call 127; (with_reducible refine (HMO2.out _ HF.out).mono ?_); rintro e w2 ⟨rfl, rfl⟩) | (go_at_call 128; (with_reducible refine (HSC2.out _ HF.out).mono ?_); rintro e w2 ⟨rfl, hf2⟩))
              have hF2 := HF.out.trans hf2
              have hcx2 : w2.heap[g]? = some (.cells cx 5 (0, 0)) := hf2.keep _ _ HB.out.2.2.1 trivial
              have hsb : Sl w2 w2.heap.size 5 1 (some ⟨g, 0, none⟩) s cp ((x.take s).map u8) := by
                have := part_sl (w := w2) (off := 0) (k := s) hcx2 HB.out.2.2.2.1 (by omega) (show s ≤ cp by omega) HB.out.2.2.2.2
                rw [List.drop_zero] at this; exact this
              refine (CloneBytes_any _ (x.take s) s (by rw [List.length_take]; omega) hsb (by omega)).mono ?_
              rintro e w3 ⟨v3, rfl, hown3, hf3⟩
              obtain ⟨B1, hB1⟩ : ∃ B1, B1 = side * L.half + a + 1 := ⟨_, rfl⟩
              have hacc : (x.take s).length = s := by rw [List.length_take]; omega
              rw [hacc, ← accF_zero C s B1 x] at hown3
              have hP3 := hP2.out
              have hClen : ∀ i, i < N - 1 → s ≤ (C.getD (B1 + i) []).length := by
                intro i hi
                have hlt : B1 + i < C.length := by omega
                have e : C.getD (B1 + i) [] = C[B1 + i] := by simp [List.getD, hlt]
                rw [e, HALL.out.2.2.1.all _ (List.getElem_mem hlt)]; exact hsz0.1
              have hlens : ∀ k, k ≤ N - 1 → (accF C s B1 x k).length = s + k * s := fun k hk => accF_len C s B1 x (by omega) k fun i hi => hClen i (by omega)
              have hF3 := hF2.trans hf3
              have hcell2 : w2.heap.size ≤ w3.heap.size := hf3.size
              have hbase := hF2.size
              obtain ⟨ao3, cp3, rfl⟩ := own_shape hown3
              have HX := Lib.hid (And.intro hown3 (And.intro hF3 (And.intro hB1 (And.intro hClen (And.intro hlens hF2)))))
              clear hP3 hown3 hF3 hB1 hClen hlens hF2 hf2 hf3 hcx2 hsb hacc
              have hab : a + N ≤ 2048 := by omega
              go_wp2_with fail
              go_loopw [17, 12] (fun iv bv wr => ∃ (j k K cap' : Nat) (ao' : Option Addr), iv = .int .i64 j ∧ j = a + 1 + k ∧ k + 1 ≤ N ∧ K = s + k * s ∧ bv = .slice ao' K cap' ∧ wr.ownsRow w2.heap.size 5 1 bv K ((accF C s B1 x k).map u8) ∧ FrA w wr ∧ w2.heap.size ≤ wr.heap.size) (fun iv _ _ => a + N - (intOf iv).toNat)
              case atStart => exact ⟨a + 1, 0, s, cp3, ao3, by go_num, rfl, by omega, by omega, rfl, by simpa using HX.out.1, HX.out.2.1, hcell2⟩
              case round =>
                obtain ⟨j, k, K, cap', ao', rfl, hj, hk, hK, rfl, hown, hfr, hszr⟩ := hrel
                by_cases hjN : j < a + N
                · have hjh : j < L.half := by omega
                  obtain ⟨y, hy⟩ : ∃ y, y = C.getD (side * L.half + j) [] := ⟨_, rfl⟩
                  have hsec := HSE.out wr hfr j hjh
                  rw [← hy] at hsec
                  have hyl : y.length = sz := by
                    have hlt : side * L.half + j < C.length := by have := hP2.out; omega
                    have e : C.getD (side * L.half + j) [] = C[side * L.half + j] := by simp [List.getD, hlt]
                    rw [hy, e]; exact HALL.out.2.2.1.all _ (List.getElem_mem hlt)
                  have hst : accF C s B1 x (k + 1) = accF C s B1 x k ++ y.take s := by
                    rw [accF_succ, hy, HX.out.2.2.1]; congr 3; omega
                  have hks : k * s + s ≤ N * s := by rw [← Nat.succ_mul]; exact Nat.mul_le_mul_right _ hk
                  have hNs : N * s ≤ 2048 * 4080 := Nat.mul_le_mul (by omega) hs112.2
                  have HR := Lib.hid (And.intro hown (And.intro hfr (And.intro hj (And.intro hst hyl))))
                  have hjN1 : (j : Int) < (a : Int) + (N : Int) := by omega
                  have hKb : K ≤ 2048 * 4080 := by omega
                  have hKe := Lib.hid hK
                  clear hown hfr hj hst hy hK hks hNs
                  go_wp2_with fail
                  refine hsec.mono ?_
                  rintro e w4 ⟨v4, rfl, hown4, hf4⟩
                  rw [HR.out.2.2.2.2] at hown4
                  obtain ⟨ao4, cp4, rfl⟩ := own_shape hown4
                  have hsl4 := Sl.of_own hown4
                  have hown5 := own_fr HR.out.1 hf4 (fun _ _ _ _ _ => trivial)
                  have H4 := Lib.hid (And.intro hsl4 (And.intro hown5 (HR.out.2.1.trans hf4)))
                  have hsz4 : w2.heap.size ≤ w4.heap.size := by have := hf4.size; omega
                  obtain ⟨z, hz⟩ : ∃ z, z = y.take s := ⟨_, rfl⟩
                  have hzl : z.length = s := by rw [hz, List.length_take, HR.out.2.2.2.2]; omega
                  have HTY := Lib.hid (show (List.map u8 y).take (s * 1) = z.map u8 by rw [hz]; simp)
                  have HZ := Lib.hid (And.intro hz hzl)
                  clear hz hzl
                  clear hown4 hsl4 hf4 hown5
                  go_wp2_with (first
                    | (go_at_call 125; (with_reducible refine (HSZ.out _ H4.out.2.2).mono ?_); rintro e w5 ⟨rfl, rfl⟩)
                    | (refine slice_h elU8 rfl _ _ rfl rfl rfl s rfl hsz0.1 H4.out.1 ?_; intro hs5; rw [HTY.out] at hs5)
                    | (at_builtin; go_loud (refine app_sl elU8 rfl (.tmp 89) (.tmp 96) rfl w2.heap.size _ _ _ rfl H4.out.2.1 rfl hs5 (fun u hu => by rw [List.mem_map] at hu; obtain ⟨x, _, rfl⟩ := hu; rfl) (by omega) hsz4 ?_); intro v6 w6 hown6 hgr6; obtain ⟨ao6, cp6, rfl⟩ := own_shape hown6))
                  have hfr6 := H4.out.2.2.grownNew hgr6 (fun k e => by have := (H4.out.2.1.lt k e).1; omega)
                  have hsz6 : w2.heap.size ≤ w6.heap.size := by have := hgr6.size; omega
                  have e6 : (accF C s B1 x k).map u8 ++ z.map u8 = (accF C s B1 x (k + 1)).map u8 := by rw [HR.out.2.2.2.1, List.map_append, HZ.out.1]
                  rw [e6] at hown6
                  have H6 := Lib.hid (And.intro hown6 hfr6)
                  clear hown6 hfr6 hgr6 e6 hs5
                  go_roundw
                  case rel => exact ⟨j + 1, k + 1, K + s, _, _, by go_num, by have := HR.out.2.2.1; omega, by have := HR.out.2.2.1; omega, by have := hKe.out; rw [Nat.succ_mul]; omega, rfl, H6.out.1, H6.out.2, hsz6⟩
                  case measure => simp [intOf]; omega
                · have hjN2 : ¬ (j : Int) < (a : Int) + (N : Int) := by omega
                  have hkN : k = N - 1 := by omega
                  have HR := Lib.hid (And.intro hown (And.intro hfr hkN))
                  have hKn : 32 + nv ≤ K := by
                    have := secsN_ge sz (32 + nv) (by omega)
                    rw [← HN.out] at this
                    have e : sz - 16 = s := by omega
                    rw [e] at this
                    have : N = k + 1 := by omega
                    subst this
                    rw [Nat.succ_mul] at *; omega
                  have hKb : K ≤ 2048 * 4080 := by
                    have hNs : N * s ≤ 2048 * 4080 := Nat.mul_le_mul (by omega) hs112.2
                    have : N = k + 1 := by omega
                    subst this
                    rw [Nat.succ_mul] at hNs; omega
                  obtain ⟨g7, rfl⟩ := own_some hown (by omega)
                  have hcap7 : K ≤ cap' ∧ cap' ≤ maxLen := ⟨(Sl.of_own hown).2.1, (Sl.of_own hown).2.2.1⟩
                  obtain ⟨c7, hc7, hc72⟩ := own_heap hown
                  have hD : Sl wr wr.heap.size 5 1 (some ⟨g7, 32, none⟩) nv (cap' - 32) (((((accF C s B1 x k).drop 32).take nv)).map u8) := by
                    have hl := (hown).1
                    rw [List.length_map, Nat.mul_one] at hl
                    exact part_sl hc7 (fun i hi => hc72 i (by omega)) (by omega) (by omega) (by omega)
                  have hK2 : 112 ≤ K := by omega
                  have hne32 : ¬ cap' = 32 := by omega
                  have hcap8 : cap' ≤ 9223372036854775807 := by have := hcap7.2; unfold maxLen at this; omega
                  obtain ⟨D, hDe⟩ : ∃ D, D = ((accF C s B1 x k).drop 32).take nv := ⟨_, rfl⟩
                  rw [← hDe] at hD
                  have hDl : D.length = nv := by have := hD.1; simpa using this
                  have HD := Lib.hid (And.intro hD (And.intro hDe (And.intro hDl HR.out.2.2)))
                  clear hown hfr hkN hj hK hc7 hc72 hD hDe hDl
                  obtain ⟨W7, rfl⟩ : ∃ W7, W7 = wr := ⟨_, rfl⟩
                  have HP := Lib.hid (show ParseAt W7 W7 W7.heap.size D (.slice none 0 0) (.slice (some ⟨g7, 32, none⟩) nv (cap' - 32)) from
                    ⟨[], [], D, _, _, by rw [HD.out.2.2.1], by have := HD.out.1; rw [HD.out.2.2.1]; exact this, by simp, World.ownsRow_nil _ _ _ _, ⟨rfl, by simp⟩, by simp, Fr.refl _ _⟩)
                  go_wp2_with fail
                  go_loopw [18, 19, 20] (fun ov rv kv wx => ParseAt W7 wx W7.heap.size D ov rv ∧ kv = kv) (fun _ rv _ _ => match rv with | .slice _ n _ => n | _ => 0)
                  case atStart => exact ⟨HP.out, rfl⟩
                  case round =>
                    obtain ⟨⟨done, vs, l, ao8, cap8, rfl, hsl, hun, hout, hrec, hcnt, hfr⟩, _⟩ := hrel
                    have hDn := HD.out.2.2.1
                    obtain ⟨aov, capv, rfl⟩ := own_shape hout
                    have hll : l.length ≤ 8355840 := by omega
                    have hdl : done.length ≤ 8355840 := by omega
                    by_cases hl0 : l = []
                    · have hl0' : l.length = 0 := by rw [hl0]; rfl
                      have hlt0 : ¬ (0 : Int) < (l.length : Int) := by omega
                      have hres := Lib.hid (show openF C sz L.half side a qv = some (tt, done, a + N) by
                        rw [HO3.out, ← HN.out, ← HX.out.2.2.1, ← HD.out.2.2.2, ← HD.out.2.1, hun, hl0, unbody, if_pos rfl]
                        simp)
                      have HF3 := Lib.hid (And.intro hout (And.intro hrec (HR.out.2.1.trans hfr)))
                      clear hl0 hsl hun hout hrec hfr
                      go_wp2
                      go_ret3
                      show OpenPost _ _ _ _
                      rw [hres.out]
                      exact ⟨HF3.out.2.2, _, vs, rfl, own_mono HF3.out.1 HR.out.2.1.size, HF3.out.2.1⟩
                    · have hlp : 0 < l.length := List.length_pos_iff.2 hl0
                      have hlt0 : (0 : Int) < (l.length : Int) := by omega
                      have hsl' := hsl
                      have hfall : unbody l = none → Hid (openF C sz L.half side a qv = none) := fun hn => Lib.hid (by
                        rw [HO3.out, ← HN.out, ← HX.out.2.2.1, ← HD.out.2.2.2, ← HD.out.2.1, hun, hn]; rfl)
                      have HF4 := Lib.hid (HR.out.2.1.trans hfr)
                      by_cases h4 : l.length < 4
                      · have hN0 := hfall (unbody_short hl0 h4)
                        have h4d : decide (4 ≤ l.length) = false := by simpa using h4
                        have h4e : decide ((4 : Int) ≤ (l.length : Int)) = false := by simp; omega
                        clear hfall hl0 hsl hsl' hun hout hrec hfr h4
                        go_wp2_with (go_at_call 65; (with_reducible refine (wmust_false _ _).mono ?_); rintro e w2 ⟨rfl, rfl⟩)
                        refine ⟨rfl, ?_⟩
                        show OpenPost _ _ _ _
                        rw [hN0.out]; exact ⟨HF4.out, rfl⟩
                      · obtain ⟨kk, hkk⟩ : ∃ kk, kk = beN (l.take 4) := ⟨_, rfl⟩
                        have h4e : (4 : Int) ≤ (l.length : Int) := by omega
                        have hk32 : kk < 4294967296 := by
                          have := beN_lt (l.take 4)
                          rw [List.length_take, Nat.min_eq_left (by omega)] at this
                          rw [hkk]; exact this
                        have hget : ∀ {ao9 cap9}, Sl wr W7.heap.size 5 1 ao9 4 cap9 ((l.take 4).map u8) → Calls Tryz.prog 126 #[.slice ao9 4 cap9] wr fun e w' => e = .returned (.int .u64 kk) ∧ wr = w' := fun h9 => by
                          rw [hkk]; exact get_any wr (l.take 4) (by rw [List.length_take]; omega) (by omega) h9
                        have hty4 : (List.map u8 l).take (4 * 1) = (l.take 4).map u8 := by simp
                        have HG := Lib.hid (And.intro (@hget) (And.intro hty4 (And.intro hkk hsl')))
                        by_cases hkl : kk ≤ l.length - 4
                        · have hq4 : (4 : Int) + (kk : Int) = ((4 + kk : Nat) : Int) := by omega
                          obtain ⟨r, hr⟩ : ∃ r, r = (l.drop 4).take kk := ⟨_, rfl⟩
                          obtain ⟨l2, hl2⟩ : ∃ l2, l2 = l.drop (4 + kk) := ⟨_, rfl⟩
                          have hrl : r.length = kk := by rw [hr, List.length_take, List.length_drop]; omega
                          have hl2l : l2.length = l.length - (4 + kk) := by rw [hl2, List.length_drop]
                          have hun2 : unbody D = (unbody l2).map ((done ++ [r]) ++ ·) := by
                            rw [hun, unbody_yes hl0 h4 (by rw [← hkk]; exact hkl), ← hkk, ← hr, ← hl2, Option.map_map]
                            congr 1; funext q; simp
                          have e9 : ((List.map u8 l).drop (4 * 1)).take ((4 + kk - 4) * 1) = r.map u8 := by
                            rw [hr, show (4 + kk - 4) * 1 = kk by omega]; simp
                          have e10 : (List.map u8 l).drop ((4 + kk) * 1) = l2.map u8 := by rw [hl2]; simp
                          have hKK := Lib.hid (And.intro hq4 (And.intro hrl (And.intro hl2l (And.intro hun2 (And.intro e9 (And.intro e10 (show 4 + kk - 4 = kk by omega)))))))
                          have HL := Lib.hid (And.intro hout (And.intro hrec (And.intro hfr (And.intro hsl hcnt))))
                          have hk4 : 4 + kk ≤ l.length := by omega
                          have hk5 : (kk : Int) ≤ (l.length : Int) - 4 := by omega
                          clear hfall hl0 hsl hsl' hun hout hrec hfr h4 hget hty4 hkk hkl hq4 hrl hl2l hun2 e9 e10 hr hl2 hcnt
                          go_wp2_with (first
                            | (refine slice_h elU8 rfl _ _ rfl rfl rfl 4 rfl (by omega) HG.out.2.2.2 ?_; intro hs9; rw [HG.out.2.1] at hs9)
                            | (go_at_call 126; (with_reducible refine (HG.out.1 hs9).mono ?_); rintro e w2 ⟨rfl, rfl⟩)
                            | (go_at_call 65; (with_reducible refine (wmust_true _ _).mono ?_); rintro e w2 ⟨rfl, rfl⟩)
                            | (refine slice_lh elU8 rfl _ _ _ rfl rfl rfl rfl 4 (4 + kk) rfl hKK.out.1 (by omega) hk4 HG.out.2.2.2 ?_; intro ao10 hs10; rw [hKK.out.2.2.2.2.1, hKK.out.2.2.2.2.2.2] at hs10))
                          refine (CloneBytes_any _ r _ hKK.out.2.1 hs10 (by omega)).mono ?_
                          rintro e w4 ⟨v4, rfl, hown4, hf4⟩
                          obtain ⟨ao4, cp4, rfl⟩ := own_shape hown4
                          have hout4 := own_fr HL.out.1 hf4 (fun _ _ _ _ _ => trivial)
                          have hb4 : W7.heap.size ≤ w4.heap.size := by have := HL.out.2.2.1.size; have := hf4.size; omega
                          have hsl4 := HG.out.2.2.2.keep (w' := w4) fun q c f _ hc => hf4.keep _ _ hc trivial
                          have H4 := Lib.hid (And.intro hown4 (And.intro hf4 (And.intro hout4 hsl4)))
                          clear hown4 hf4 hout4 hsl4 hs10
                          go_wp2_with (first
                            | (at_builtin; go_loud (refine app_sl elBytes rfl (.tmp 120) (.tmp 126) rfl W7.heap.size _ _ _ rfl (H4.out.2.2.1.alloc _) rfl (Sl.new _ [_] _ 1 1 1 rfl (Nat.le_refl _) (by decide) _) (fun u hu => by rw [List.mem_singleton] at hu; subst hu; rfl) (by omega) (by simp; omega) ?_); intro v6 w6 hown6 hgr6; obtain ⟨ao6, cp6, rfl⟩ := own_shape hown6; have hsl6 := (H4.out.2.2.2.alloc _).keep (w' := w6) (fun q c f hq hc => grown_same hgr6 hc (fun e => by have := (H4.out.2.2.1.lt q e.symm).1; omega)))
                            | (refine slice_l elU8 rfl _ _ rfl rfl rfl (4 + kk) hKK.out.1 hk4 hsl6 ?_; intro ao11 hs11; rw [hKK.out.2.2.2.2.2.1] at hs11))
                          go_roundw
                          case rel =>
                            have hr6 : FrA W7 w6 := (HL.out.2.2.1.trans (H4.out.2.1.trans ((Fr.refl _ w4).alloc _))).grownNew hgr6 (fun k e => (H4.out.2.2.1.lt k e).1)
                            have hr7 : Fr (fun k _ => some k ≠ Value.ownBlock (.slice aov done.length capv)) wr w6 := ((H4.out.2.1.mono fun _ _ _ => trivial).trans ((Fr.refl _ w4).alloc _)).grown hgr6 (fun k o e _ h => h e.symm)
                            refine ⟨⟨done ++ [r], _, l2, ao11, _, by rw [hKK.out.2.2.1], by rw [hKK.out.2.2.1]; exact hs11, hKK.out.2.2.2.1, by rw [List.length_append]; exact hown6, ?_, ?_, hr6⟩, trivial⟩
                            · refine All2.append ?_ (All2.nil.cons ⟨ao4, cp4, by rw [hKK.out.2.1], ?_⟩)
                              · exact All2.mono (HL.out.2.1.fr hr7 fun q c f _ hc => row_ne HL.out.1 hc (by decide)) fun _ _ _ _ ⟨a1, c1, e1, s1⟩ => ⟨a1, c1, e1, s1.mono hr7.size⟩
                              · have h1 := Sl.of_own H4.out.1
                                rw [hKK.out.2.1] at h1 ⊢
                                exact ((h1.alloc _).keep fun q c f _ hc => grown_same hgr6 hc (row_ne (H4.out.2.2.1.alloc _) hc (by decide))).mono (by have := hgr6.size; simp at this; omega)
                            · have := HL.out.2.2.2.2; have := hKK.out.2.2.1; rw [List.length_append]; simp only [List.length_cons, List.length_nil]; omega
                          case measure => simp; omega
                        · have hN0 := hfall (unbody_no hl0 h4 (by rw [← hkk]; exact hkl))
                          have hd1 : decide ((kk : Int) ≤ (l.length : Int) - 4) = false := by simp; omega
                          clear hfall hl0 hsl hsl' hun hout hrec hfr h4 hget hty4 hkk hkl
                          go_wp2_with (first | (refine slice_h elU8 rfl _ _ rfl rfl rfl 4 rfl (by omega) HG.out.2.2.2 ?_; intro hs9; rw [HG.out.2.1] at hs9) | (go_at_call 126; (with_reducible refine (HG.out.1 hs9).mono ?_); rintro e w2 ⟨rfl, rfl⟩) | (go_at_call 65; (with_reducible refine (wmust_true _ _).mono ?_); rintro e w2 ⟨rfl, rfl⟩) | (go_at_call 65; (with_reducible refine (wmust_false _ _).mono ?_); rintro e w2 ⟨rfl, rfl⟩))
                          refine ⟨rfl, ?_⟩
                          show OpenPost _ _ _ _
                          rw [hN0.out]; exact ⟨HF4.out, rfl⟩
            · have hN := Lib.hid (show openF C sz L.half side a qv = none by rw [HO.out, if_neg (by simp [hsg]), if_neg (by simp), if_pos (by omega)])
              have hn1 : decide ((nv : Int) ≤ (M : Int) - 32) = false := by simp; omega
              clear hnm hM
              go_wp2_with (first | (refine wp_conv_bs rfl _ rfl rfl hs8 ?_; rw [hbs]) | (go_at_call 126; (with_reducible refine GQ.out.mono ?_); rintro e w2 ⟨rfl, rfl⟩) | (go_at_call 126; (with_reducible refine GE.out.mono ?_); rintro e w2 ⟨rfl, rfl⟩) | (go_at_call 126; (with_reducible refine GF.out.mono ?_); rintro e w2 ⟨rfl, rfl⟩) | (go_at_call 65; (with_reducible refine (wmust_true _ _).mono ?_); rintro e w2 ⟨rfl, rfl⟩) | (go_at_call 65; (with_reducible refine (wmust_false _ _).mono ?_); rintro e w2 ⟨rfl, rfl⟩) | (go_at_call 127; (with_reducible refine (HMO2.out _ HF.out).mono ?_); rintro e w2 ⟨rfl, rfl⟩))
              refine ⟨rfl, ?_⟩
              show OpenPost _ _ _ _
              rw [hN.out]; exact ⟨HF.out, rfl⟩
          · have hN := Lib.hid (show openF C sz L.half side a qv = none by rw [HO.out, if_neg (by simp [hsg]), if_pos (by simp [htn])])
            have htn1 : (tn == qv + 1) = false := by simpa using htn
            have htn2 : ((tn : Int) == (qv : Int) + 1) = false := by simp; omega
            clear htn
            go_wp2_with (first | (refine wp_conv_bs rfl _ rfl rfl hs8 ?_; rw [hbs]) | (go_at_call 126; (with_reducible refine GQ.out.mono ?_); rintro e w2 ⟨rfl, rfl⟩) | (go_at_call 126; (with_reducible refine GE.out.mono ?_); rintro e w2 ⟨rfl, rfl⟩) | (go_at_call 126; (with_reducible refine GF.out.mono ?_); rintro e w2 ⟨rfl, rfl⟩) | (go_at_call 65; (with_reducible refine (wmust_true _ _).mono ?_); rintro e w2 ⟨rfl, rfl⟩) | (go_at_call 65; (with_reducible refine (wmust_false _ _).mono ?_); rintro e w2 ⟨rfl, rfl⟩))
            refine ⟨rfl, ?_⟩
            show OpenPost _ _ _ _
            rw [hN.out]; exact ⟨HF.out, rfl⟩
        · have hN := Lib.hid (show openF C sz L.half side a qv = none by rw [HO.out, if_neg (by simp [hsg]), if_pos (by simp [htt])])
          have htt1 : (tt == tv) = false := by simpa using htt
          have htt2 : ((tt : Int) == (tv : Int)) = false := by simp; omega
          clear htt
          go_wp2_with (first | (refine wp_conv_bs rfl _ rfl rfl hs8 ?_; rw [hbs]) | (go_at_call 126; (with_reducible refine GQ.out.mono ?_); rintro e w2 ⟨rfl, rfl⟩) | (go_at_call 126; (with_reducible refine GE.out.mono ?_); rintro e w2 ⟨rfl, rfl⟩) | (go_at_call 65; (with_reducible refine (wmust_true _ _).mono ?_); rintro e w2 ⟨rfl, rfl⟩) | (go_at_call 65; (with_reducible refine (wmust_false _ _).mono ?_); rintro e w2 ⟨rfl, rfl⟩))
          refine ⟨rfl, ?_⟩
          show OpenPost _ _ _ _
          rw [hN.out]; exact ⟨HF.out, rfl⟩
      · have hN := Lib.hid (show openF C sz L.half side a next = none by rw [HO.out, if_pos (by simp [hq])])
        have hq1 : (qv == next) = false := by simpa using hq
        have hq2 : ((qv : Int) == (next : Int)) = false := by simp; omega
        clear hq
        go_wp2_with (first | (refine wp_conv_bs rfl _ rfl rfl hs8 ?_; rw [hbs]) | (go_at_call 126; (with_reducible refine GQ.out.mono ?_); rintro e w2 ⟨rfl, rfl⟩) | (go_at_call 65; (with_reducible refine (wmust_false _ _).mono ?_); rintro e w2 ⟨rfl, rfl⟩))
        refine ⟨rfl, ?_⟩
        show OpenPost _ _ _ _
        rw [hN.out]; exact ⟨HF.out, rfl⟩
    · have hN := Lib.hid (show openF C sz L.half side a next = none by rw [HO.out, if_pos (fun h => hsg h.1)])
      have hn : ¬ (bs (x.take 8)).toList = [72, 65, 86, 69, 82, 83, 65, 75] := by rw [ByteArray.toList_eq, bs_data]; exact hsg
      go_wp2_with (first | (refine wp_conv_bs rfl _ rfl rfl hs8 ?_) | (go_at_call 65; (with_reducible refine (wmust_false _ _).mono ?_); rintro e w2 ⟨rfl, rfl⟩))
      refine ⟨rfl, ?_⟩
      show OpenPost _ _ _ _
      rw [hN.out]; exact ⟨HF.out, rfl⟩
  · have hno : openF C sz L.half side a next = none := by unfold openF; rw [if_pos ha]
    rw [hno]
    clear hno
    have hS := Lib.hid (sector_no h hok side a ha)
    clear h hok hw ha
    go_enter Tryz.func64, Tryz.ntmps64
    go_wp2_with (go_at_call 124; refine hS.out.mono ?_; rintro e w1 ⟨rfl, rfl⟩)
    exact ⟨rfl, Fr.refl _ _, rfl⟩

end
end Go.Proofs.YtbhjdddiihfafaaGreatDoor
