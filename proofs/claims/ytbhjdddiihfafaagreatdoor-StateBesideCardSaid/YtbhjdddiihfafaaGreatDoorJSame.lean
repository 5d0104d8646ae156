/- Package state: alike, Trees, Same; states held against one another, where nothing is cached. -/
import Derived.Test.YtbhjdddiihfafaaGreatDoorJHelp
import Derived.Test.YtbhjdddiihfafaaGreatDoorJLoad
set_option linter.unusedVariables false
set_option linter.unusedSimpArgs false
namespace Go.Proofs.YtbhjdddiihfafaaGreatDoor
open Go.RowKit Go.Maps

section
variable {w w' : World}

set_option maxHeartbeats 1000000 in
set_option maxRecDepth 100000 in
theorem alike_any (w : World) (f g : Fl) {T T' E E' cap cap' : Nat} {ao ao' : Option Addr} (hx : Sl w T E 1 ao f.b.length cap (f.b.map u8)) (hy : Sl w T' E' 1 ao' g.b.length cap' (g.b.map u8)) :
    Calls Tryz.prog 96 #[.agg #[.string (bs f.path), .bool f.dir, .slice ao f.b.length cap], .agg #[.string (bs g.path), .bool g.dir, .slice ao' g.b.length cap']] w fun e w' => e = .returned (.bool (decide (f = g))) ∧ FrA w w' := by
  obtain ⟨r, hr⟩ : ∃ r, r = decide (f = g) := ⟨_, rfl⟩
  rw [← hr]
  have hE := fun w' (hf : FrA w w') => eqBytes_any w' f.b g.b rfl rfl (hx.keep fun b c f _ hc => hf.keep _ _ hc trivial) (hy.keep fun b c f _ hc => hf.keep _ _ hc trivial)
  obtain ⟨fp, fd, fb⟩ := f
  obtain ⟨gp, gd, gb⟩ := g
  simp only at hE ⊢
  have hb1 : (bs fp).toList = fp := by rw [ByteArray.toList_eq, bs_data]
  have hb2 : (bs gp).toList = gp := by rw [ByteArray.toList_eq, bs_data]
  obtain ⟨n1, hn1⟩ : ∃ n, n = fb.length := ⟨_, rfl⟩
  obtain ⟨n2, hn2⟩ : ∃ n, n = gb.length := ⟨_, rfl⟩
  rw [← hn1, ← hn2] at hE ⊢
  have HE := Lib.hid hE
  clear hE hx hy hn1 hn2
  by_cases hp : fp = gp
  · subst hp
    by_cases hd : fd = gd
    · subst hd
      obtain ⟨r', hr'⟩ : ∃ r', r' = decide (fb = gb) := ⟨_, rfl⟩
      have hrr : r = r' := by
        rw [hr, hr']
        by_cases h : fb = gb
        · subst h; simp
        · rw [decide_eq_false h, decide_eq_false (by simp [h])]
      subst hrr
      rw [← hr'] at HE
      clear hr hr'
      go_enter Tryz.func96, Tryz.ntmps96
      go_wp2_with (go_at_call 155; (refine (HE.out _ (((Fr.refl _ _).alloc _).alloc _)).mono ?_); rintro e w1 ⟨rfl, q, rfl⟩)
      go_ret
      exact ⟨rfl, (((Fr.refl _ _).alloc _).alloc _).drewN _⟩
    · have e2 : (fd == gd) = false := by simpa using hd
      obtain rfl : r = false := by rw [hr]; exact decide_eq_false (by simp [hd])
      clear hr
      go_enter Tryz.func96, Tryz.ntmps96
      go_wp2
      go_ret
      exact ⟨rfl, ((Fr.refl _ _).alloc _).alloc _⟩
  · have e1 : (fp == gp) = false := by simpa using hp
    obtain rfl : r = false := by rw [hr]; exact decide_eq_false (by simp [hp])
    clear hr
    go_enter Tryz.func96, Tryz.ntmps96
    go_wp2
    go_ret
    exact ⟨rfl, ((Fr.refl _ _).alloc _).alloc _⟩

variable {T T' n n' cap cap' : Nat} {ao ao' : Option Addr} {vs vs' : List Value} {l l' : List Fl}

set_option maxHeartbeats 2000000 in
set_option maxRecDepth 100000 in
theorem eqFiles_any (h : FsAt w T ao n cap vs l) (hn : l.length = n) (h' : FsAt w T' ao' n' cap' vs' l') (hn' : l'.length = n') :
    Calls Tryz.prog 95 #[.slice ao n cap, .slice ao' n' cap', .func (.func 96) #[] #[]] w fun e w' => e = .returned (.bool (decide (l = l'))) ∧ FrA w w' := by
  have hs := h.small
  have hs1 := hs.1
  have hs2 := hs.2
  unfold maxLen at hs2
  clear hs
  obtain ⟨r, hr⟩ : ∃ r, r = decide (l = l') := ⟨_, rfl⟩
  rw [← hr]
  by_cases hnn : n = n'
  · subst hnn
    have H := Lib.hid (And.intro h (And.intro hn (And.intro h' (And.intro hn' hr))))
    clear h hn h' hn' hr
    go_enter Tryz.func95, Tryz.ntmps95
    go_wp2_with fail
    go_loopw [17] (fun i wr => ∃ k : Nat, k ≤ n ∧ i = .int .i64 k ∧ l.take k = l'.take k ∧ FrA w wr) (fun i _ => n - (intOf i).toNat)
    case atStart => exact ⟨0, Nat.zero_le _, rfl, by simp, Fr.refl _ _⟩
    case round =>
      obtain ⟨k, hk, rfl, hpre, hfr⟩ := hrel
      by_cases hkl : k < n
      · obtain ⟨f, v, b, off, aob, capb, Eb, hf, rfl, hsb, rfl, g0, g1, g2⟩ := (H.out.1.fra hfr).get H.out.2.1 hkl
        obtain ⟨f', v', b', off', aob', capb', Eb', hf', rfl, hsb', rfl, g0', g1', g2'⟩ := (H.out.2.2.1.fra (hfr.alloc (.cells #[.string (bs f.path), .bool f.dir, .slice aob f.b.length capb] 51))).get H.out.2.2.2.1 hkl
        have hkl' : ((k : Int) < (n : Int)) := by omega
        have hA := fun w' (hf : FrA (wr.alloc (.cells #[.string (bs f.path), .bool f.dir, .slice aob f.b.length capb] 51)) w') => alike_any w' f f' ((hsb.alloc (.cells #[.string (bs f.path), .bool f.dir, .slice aob f.b.length capb] 51)).keep fun b c f _ hc => hf.keep _ _ hc trivial) (hsb'.keep fun b c f _ hc => hf.keep _ _ hc trivial)
        obtain ⟨q, hq⟩ : ∃ q, q = decide (f = f') := ⟨_, rfl⟩
        rw [← hq] at hA
        obtain ⟨fp, hfp⟩ : ∃ x, x = f.path := ⟨_, rfl⟩
        obtain ⟨fd, hfd⟩ : ∃ x, x = f.dir := ⟨_, rfl⟩
        obtain ⟨fn, hfn⟩ : ∃ x, x = f.b.length := ⟨_, rfl⟩
        obtain ⟨fp', hfp'⟩ : ∃ x, x = f'.path := ⟨_, rfl⟩
        obtain ⟨fd', hfd'⟩ : ∃ x, x = f'.dir := ⟨_, rfl⟩
        obtain ⟨fn', hfn'⟩ : ∃ x, x = f'.b.length := ⟨_, rfl⟩
        rw [← hfp, ← hfd, ← hfn, ← hfp', ← hfd', ← hfn'] at hA
        rw [← hfp] at g0
        rw [← hfd] at g1
        rw [← hfn] at g2
        rw [← hfp, ← hfd, ← hfn, ← hfp'] at g0'
        rw [← hfp, ← hfd, ← hfn, ← hfd'] at g1'
        rw [← hfp, ← hfd, ← hfn, ← hfn'] at g2'
        have HF := Lib.hid (And.intro hf (And.intro hf' (And.intro hpre (And.intro hfr (And.intro hq hA)))))
        clear hf hf' hsb hsb' hfp hfd hfn hfp' hfd' hfn' hA hq hpre hfr
        have hgo : ∀ b : Bool, q = b → (b = true → l.take (k + 1) = l'.take (k + 1)) ∧ (b = false → r = false) := by
          rintro b rfl
          refine ⟨fun hb => ?_, fun hb => ?_⟩
          · have e : f = f' := by
              have := HF.out.2.2.2.2.1
              rw [hb] at this
              exact of_decide_eq_true this.symm
            exact take_eq_step HF.out.2.2.1 HF.out.1 (e ▸ HF.out.2.1)
          · have e : f ≠ f' := by
              have := HF.out.2.2.2.2.1
              rw [hb] at this
              exact of_decide_eq_false this.symm
            rw [H.out.2.2.2.2]; exact decide_eq_false (files_ne HF.out.1 HF.out.2.1 e)
        have hgq := hgo q rfl
        clear hgo
        have HG := Lib.hid hgq
        clear hgq
        cases q
        · obtain rfl : r = false := HG.out.2 rfl
          go_wp2_with (go_at_call 96; (refine (HF.out.2.2.2.2.2 _ ((Fr.refl _ _).alloc _)).mono ?_); rintro e w1 ⟨rfl, hf1⟩)
          go_ret
          exact ⟨rfl, (HF.out.2.2.2.1.alloc _).trans ((((Fr.refl _ _).alloc _)).trans hf1)⟩
        · go_wp2_with (go_at_call 96; (refine (HF.out.2.2.2.2.2 _ ((Fr.refl _ _).alloc _)).mono ?_); rintro e w1 ⟨rfl, hf1⟩)
          go_roundw
          case rel => exact ⟨k + 1, by omega, by go_num, HG.out.1 trivial, (HF.out.2.2.2.1.alloc _).trans ((((Fr.refl _ _).alloc _)).trans hf1)⟩
          case measure => simp [intOf]; omega
      · obtain rfl : k = n := by omega
        obtain rfl : r = true := by
          rw [H.out.2.2.2.2]
          have hp := hpre
          rw [List.take_of_length_le (by have := H.out.2.1; omega), List.take_of_length_le (by have := H.out.2.2.2.1; omega)] at hp
          exact decide_eq_true hp
        have HF := Lib.hid hfr
        clear hfr hpre
        go_wp2
        go_ret
        exact ⟨rfl, HF.out⟩
  · have hne : ((n : Int) != (n' : Int)) = true := by rw [bne_iff_ne]; omega
    obtain rfl : r = false := by rw [hr]; exact decide_eq_false (fun (e : l = l') => hnn (by rw [← hn, ← hn', e]))
    clear hr hnn h h' hn hn'
    go_enter Tryz.func95, Tryz.ntmps95
    go_wp2
    go_ret
    exact ⟨rfl, Fr.refl _ _⟩

theorem trees_any (h : FsAt w T ao n cap vs l) (hn : l.length = n) (h' : FsAt w T' ao' n' cap' vs' l') (hn' : l'.length = n') :
    Calls Tryz.prog 40 #[.slice ao n cap, .slice ao' n' cap'] w fun e w' => e = .returned (.bool (decide (l = l'))) ∧ FrA w w' := by
  have H := Lib.hid (eqFiles_any h hn h' hn')
  obtain ⟨r, hr⟩ : ∃ r, r = decide (l = l') := ⟨_, rfl⟩
  rw [← hr] at H ⊢
  clear h h' hn hn' hr
  go_enter Tryz.func40, Tryz.ntmps40
  go_wp2_with fail
  refine H.out.mono ?_
  rintro e w1 ⟨rfl, hf⟩
  go_wp2
  go_ret
  exact ⟨rfl, hf⟩

/-! ### no keys -/
theorem keysNil_any (w : World) : Calls Tryz.prog 35 #[.slice none 0 0, .slice none 0 0] w fun e w' => e = .returned (.bool true) ∧ w = w' := by
  go_enter Tryz.func35, Tryz.ntmps35
  go_wp2_with fail
  go_loop [5] (fun i => i = .int .i64 0) (fun _ => 0)
  case atStart => rfl
  case round =>
    subst hrel
    go_wp2
    go_ret
    exact ⟨rfl, rfl⟩

theorem eqKeysNil_any (w : World) : Calls Tryz.prog 39 #[.slice none 0 0, .slice none 0 0] w fun e w' => e = .returned (.bool true) ∧ w = w' := by
  go_enter Tryz.func39, Tryz.ntmps39
  go_wp2_with fail
  go_loop [13] (fun i => i = .int .i64 0) (fun _ => 0)
  case atStart => rfl
  case round =>
    subst hrel
    go_wp2
    go_ret
    exact ⟨rfl, rfl⟩

/-! ### states of which nothing is cached -/
set_option maxHeartbeats 1000000 in
set_option maxRecDepth 100000 in
theorem hState_any {v v' : Value} {M L M' L' : List UInt8} {fl fl' : List Fl} (h : StaAt w v M L fl) (h' : StaAt w v' M' L' fl') (e1 : M = M') (e2 : L = L') (e3 : fl = fl') :
    Calls Tryz.prog 12 #[v, v'] w fun e w' => e = .returned (.bool true) ∧ FrA w w' := by
  subst e1; subst e2; subst e3
  obtain ⟨ao, cap, vs, rfl, hf⟩ := h
  obtain ⟨ao', cap', vs', rfl, hf'⟩ := h'
  have hF := fun w' (hfr : FrA w w') => hFiles_any (hf.fra hfr).at rfl (hf'.fra hfr).at rfl
  simp only [decide_true] at hF
  obtain ⟨n, hn⟩ : ∃ n, n = fl.length := ⟨_, rfl⟩
  rw [← hn] at hF ⊢
  have H := Lib.hid hF
  have hb1 : (bs M).toList = M := by rw [ByteArray.toList_eq, bs_data]
  have hb2 : (bs L).toList = L := by rw [ByteArray.toList_eq, bs_data]
  clear hF hf hf' hn
  unfold stv
  go_enter Tryz.func12, Tryz.ntmps12
  go_wp2_with (first | (go_at_call 35; (refine (keysNil_any _).mono ?_); rintro e w1 ⟨rfl, rfl⟩) | (go_at_call 36; (refine (H.out _ (((Fr.refl _ _).alloc _).alloc _)).mono ?_); rintro e w2 ⟨rfl, q, rfl⟩))
  go_ret
  exact ⟨rfl, (((Fr.refl _ _).alloc _).alloc _).drewN _⟩

set_option maxHeartbeats 1000000 in
set_option maxRecDepth 100000 in
theorem same_any {v v' : Value} {M L M' L' : List UInt8} {fl fl' : List Fl} (h : StaAt w v M L fl) (h' : StaAt w v' M' L' fl') (e1 : M = M') (e2 : L = L') (e3 : fl = fl') :
    Calls Tryz.prog 14 #[v, v'] w fun e w' => e = .returned (.bool true) ∧ FrA w w' := by
  subst e1; subst e2; subst e3
  obtain ⟨ao, cap, vs, rfl, hf⟩ := h
  obtain ⟨ao', cap', vs', rfl, hf'⟩ := h'
  have hF := fun w' (hfr : FrA w w') => trees_any (hf.fra hfr).at rfl (hf'.fra hfr).at rfl
  simp only [decide_true] at hF
  obtain ⟨n, hn⟩ : ∃ n, n = fl.length := ⟨_, rfl⟩
  rw [← hn] at hF ⊢
  have H := Lib.hid hF
  have hb1 : (bs M).toList = M := by rw [ByteArray.toList_eq, bs_data]
  have hb2 : (bs L).toList = L := by rw [ByteArray.toList_eq, bs_data]
  clear hF hf hf' hn
  unfold stv
  go_enter Tryz.func14, Tryz.ntmps14
  go_wp2_with (first | (go_at_call 39; (refine (eqKeysNil_any _).mono ?_); rintro e w1 ⟨rfl, rfl⟩) | (go_at_call 40; (refine (H.out _ (((Fr.refl _ _).alloc _).alloc _)).mono ?_); rintro e w2 ⟨rfl, hf2⟩))
  go_ret
  exact ⟨rfl, (((Fr.refl _ _).alloc _).alloc _).trans hf2⟩

end
end Go.Proofs.YtbhjdddiihfafaaGreatDoor
