/- slices.Equal of bytes, of no keys; slices.EqualFunc of files; package state: alike, Trees, Same. -/
import Derived.Test.YtbhjdddiihfafaaGreatDoorJTFl2
set_option linter.unusedVariables false
set_option linter.unusedSimpArgs false
namespace Go.Proofs.YtbhjdddiihfafaaGreatDoor
open Go.RowKit Go.Maps

theorem u8_int (x : UInt8) : u8 x = .int .u8 x.toNat := rfl

theorem bytes_ne {l l' : List UInt8} {k : Nat} {x y : UInt8} (hx : l[k]? = some x) (hy : l'[k]? = some y) (h : x ≠ y) : l ≠ l' := by
  intro e; subst e; rw [hx] at hy; cases hy; exact h rfl

theorem take_eq_step {α : Type} {l l' : List α} {k : Nat} {x : α} (h : l.take k = l'.take k) (hx : l[k]? = some x) (hy : l'[k]? = some x) : l.take (k + 1) = l'.take (k + 1) := by
  rw [List.take_add_one, List.take_add_one, h, hx, hy]

set_option maxHeartbeats 1000000 in
set_option maxRecDepth 100000 in
theorem eqBytes_any (w : World) (l l' : List UInt8) {n n' T T' E E' cap cap' : Nat} {ao ao' : Option Addr} (hn : l.length = n) (hn' : l'.length = n') (hx : Sl w T E 1 ao n cap (l.map u8)) (hy : Sl w T' E' 1 ao' n' cap' (l'.map u8)) :
    Calls Tryz.prog 155 #[.slice ao n cap, .slice ao' n' cap'] w fun e w' => e = .returned (.bool (decide (l = l'))) ∧ ∃ q, w' = w.drewN q := by
  obtain ⟨r, hr⟩ : ∃ r, r = decide (l = l') := ⟨_, rfl⟩
  rw [← hr]
  have hcap := hx.2.2.1
  have hle := hx.2.1
  unfold maxLen at hcap
  by_cases hnn : n = n'
  · subst hnn
    have H := Lib.hid (And.intro hx (And.intro hy (And.intro hn hn')))
    have HR := Lib.hid hr
    clear hx hy hn hn' hr
    go_enter Tryz.func155, Tryz.ntmps155
    go_wp2
    go_loopw [13] (fun i wr => ∃ (k q : Nat), k ≤ n ∧ i = .int .i64 k ∧ l.take k = l'.take k ∧ wr = w.drewN q) (fun i _ => n - (intOf i).toNat)
    case atStart => exact ⟨0, 0, Nat.zero_le _, rfl, by simp, rfl⟩
    case round =>
      obtain ⟨k, q, hk, rfl, hpre, rfl⟩ := hrel
      by_cases hkl : k < n
      · obtain ⟨b, off, rfl, _, hc⟩ := H.out.1.at (by omega)
        obtain ⟨b', off', rfl, _, hc'⟩ := H.out.2.1.at (by omega)
        obtain ⟨x, hxk⟩ : ∃ x, l[k]? = some x := ⟨_, List.getElem?_eq_getElem (by have := H.out.2.2.1; omega)⟩
        obtain ⟨y, hyk⟩ : ∃ y, l'[k]? = some y := ⟨_, List.getElem?_eq_getElem (by have := H.out.2.2.2; omega)⟩
        have g1 : w.cell? ⟨b, off + k, none⟩ = some (.int .u8 x.toNat) := by rw [hc k (by omega)]; simp [hxk, u8]
        have g2 : w.cell? ⟨b', off' + k, none⟩ = some (.int .u8 y.toNat) := by rw [hc' k (by omega)]; simp [hyk, u8]
        by_cases hxy : x = y
        · subst hxy
          have hne : ((x.toNat : Int) != (x.toNat : Int)) = false := by simp
          have HP := Lib.hid (take_eq_step hpre hxk hyk)
          clear hc hc' hxk hyk hpre
          go_wp2
          go_quiet (fail)
          go_wp2
          go_roundw
          case rel => exact ⟨k + 1, _, by omega, by go_num, HP.out, rfl⟩
          case measure => simp [intOf]; omega
        · have hne : ((x.toNat : Int) != (y.toNat : Int)) = true := by
            rw [bne_iff_ne]; intro e; exact hxy (UInt8.toNat.inj (by omega))
          obtain rfl : r = false := by rw [HR.out]; exact decide_eq_false (bytes_ne hxk hyk hxy)
          clear hc hc' hxk hyk hpre
          go_wp2
          go_quiet (fail)
          go_wp2
          go_ret
          exact ⟨rfl, _, World.drewN_drewN _ _ _⟩
      · obtain rfl : k = n := by omega
        have e : l = l' := by
          rw [List.take_of_length_le (by have := H.out.2.2.1; omega), List.take_of_length_le (by have := H.out.2.2.2; omega)] at hpre
          exact hpre
        obtain rfl : r = true := by rw [HR.out]; exact decide_eq_true e
        clear e hpre
        go_wp2
        go_ret
        exact ⟨rfl, _, rfl⟩
  · have hne : ((n : Int) != (n' : Int)) = true := by rw [bne_iff_ne]; omega
    have hll : l ≠ l' := fun e => hnn (by rw [← hn, ← hn', e])
    obtain rfl : r = false := by rw [hr]; exact decide_eq_false hll
    clear hll hnn hx hy hn hn' hr
    go_enter Tryz.func155, Tryz.ntmps155
    go_wp2
    go_ret
    exact ⟨rfl, 0, rfl⟩

end Go.Proofs.YtbhjdddiihfafaaGreatDoor
/- Helps: files that are light; lists of files, held against one another. -/
namespace Go.Proofs.YtbhjdddiihfafaaGreatDoor
open Go.RowKit Go.Maps

def lightF (l : List Fl) : Bool := decide (l.length ≤ 20) && l.all fun f => decide (f.path.length ≤ 300) && decide (f.b.length ≤ 500)

/-- All are light so far. -/
def LightTo (l : List Fl) (k : Nat) : Prop := ∀ f ∈ l.take k, f.path.length ≤ 300 ∧ f.b.length ≤ 500

theorem LightTo.step {l : List Fl} {k : Nat} {f : Fl} (h : LightTo l k) (hf : l[k]? = some f) (h1 : f.path.length ≤ 300) (h2 : f.b.length ≤ 500) : LightTo l (k + 1) := by
  intro g hg
  rw [List.take_add_one, hf] at hg
  rcases List.mem_append.1 hg with hg | hg
  · exact h g hg
  · simp at hg; subst hg; exact ⟨h1, h2⟩

theorem lightF_of {l : List Fl} (h0 : l.length ≤ 20) (h : LightTo l l.length) : lightF l = true := by
  unfold lightF
  rw [decide_eq_true h0, Bool.true_and, List.all_eq_true]
  intro f hf
  have := h f (by rw [List.take_length]; exact hf)
  simp; exact this

theorem lightF_not {l : List Fl} {k : Nat} {f : Fl} (hf : l[k]? = some f) (h : f.path.length ≤ 300 → ¬ f.b.length ≤ 500) : lightF l = false := by
  cases e : lightF l with
  | false => rfl
  | true =>
    unfold lightF at e
    rw [Bool.and_eq_true, List.all_eq_true] at e
    have := e.2 f (List.mem_of_getElem? hf)
    simp at this
    exact absurd this.2 (h this.1)

theorem lightF_iff {l : List Fl} (h : lightF l = true) : l.length ≤ 20 ∧ ∀ f ∈ l, f.path.length ≤ 300 ∧ f.b.length ≤ 500 := by
  unfold lightF at h
  rw [Bool.and_eq_true, List.all_eq_true] at h
  refine ⟨by simpa using h.1, fun f hf => ?_⟩
  have := h.2 f hf
  simpa using this

section
variable {w w' : World} {T n cap : Nat} {ao : Option Addr} {vs : List Value} {l : List Fl}

theorem FsAt.small (h : FsAt w T ao n cap vs l) : n ≤ cap ∧ cap ≤ maxLen := by
  obtain ⟨E, h⟩ := h.row
  exact ⟨h.2.1, h.2.2.1⟩

set_option maxHeartbeats 1000000 in
set_option maxRecDepth 100000 in
theorem LightFiles_any (h : FsAt w T ao n cap vs l) (hn : l.length = n) (hp : ∀ f ∈ l, f.path.length ≤ 9223372036854775807 ∧ f.b.length ≤ 9223372036854775807) :
    Calls Tryz.prog 7 #[.slice ao n cap] w fun e w' => e = .returned (.bool (lightF l)) ∧ w = w' := by
  have hs := h.small
  have hs1 := hs.1
  have hs2 := hs.2
  unfold maxLen at hs2
  clear hs
  obtain ⟨r, hr⟩ : ∃ r, r = lightF l := ⟨_, rfl⟩
  rw [← hr]
  by_cases h20 : 20 < n
  · have hr' : r = false := by
      rw [hr]; unfold lightF; rw [decide_eq_false (by omega)]; rfl
    subst hr'
    clear hr
    go_enter Tryz.func7, Tryz.ntmps7
    go_wp2
    go_ret
    exact ⟨rfl, rfl⟩
  · have H := Lib.hid (And.intro h (And.intro hn (And.intro hr hp)))
    clear h hn hr hp
    go_enter Tryz.func7, Tryz.ntmps7
    go_wp2_with fail
    go_loop [3] (fun i => ∃ k : Nat, k ≤ n ∧ i = .int .i64 k ∧ LightTo l k) (fun i => n - (intOf i).toNat)
    case atStart => exact ⟨0, Nat.zero_le _, rfl, by intro f hf; simp at hf⟩
    case round =>
      obtain ⟨k, hk, rfl, hlt⟩ := hrel
      have HL := Lib.hid hlt
      clear hlt
      by_cases hkl : k < n
      · obtain ⟨f, v, b, off, aob, capb, Eb, hf, rfl, hsb, rfl, g0, g1, g2⟩ := H.out.1.get H.out.2.1 hkl
        have hfl := H.out.2.2.2 f (List.mem_of_getElem? hf)
        obtain ⟨fp, fd, fb⟩ := f
        have hsz : (bs fp).size = fp.length := bs_size fp
        simp only at g0 g1 g2 hfl
        have HF := Lib.hid hf
        clear hf hsb
        by_cases h1 : fp.length ≤ 300
        · have d1 : decide ((fp.length : Int) > 300) = false := by simp; omega
          by_cases h2 : fb.length ≤ 500
          · have d2 : decide ((fb.length : Int) > 500) = false := by simp; omega
            go_wp2
            go_round
            case rel => exact ⟨k + 1, by omega, by go_num, HL.out.step HF.out h1 h2⟩
            case measure => simp [intOf]; omega
          · have d2 : decide ((fb.length : Int) > 500) = true := by simp; omega
            obtain rfl : r = false := by rw [H.out.2.2.1, lightF_not HF.out fun _ => h2]
            go_wp2
            go_ret
            exact ⟨rfl, rfl⟩
        · have d1 : decide ((fp.length : Int) > 300) = true := by simp; omega
          obtain rfl : r = false := by rw [H.out.2.2.1, lightF_not HF.out fun h => absurd h h1]
          go_wp2
          go_ret
          exact ⟨rfl, rfl⟩
      · obtain rfl : k = n := by omega
        obtain rfl : r = true := by rw [H.out.2.2.1, lightF_of (by have := H.out.2.1; omega) (by rw [H.out.2.1]; exact HL.out)]
        go_wp2
        go_ret
        exact ⟨rfl, rfl⟩

instance : DecidableEq Fl := fun a b => decidable_of_iff (a.path = b.path ∧ a.dir = b.dir ∧ a.b = b.b) ⟨fun h => by
  cases a; cases b; simp only at h; obtain ⟨rfl, rfl, rfl⟩ := h; rfl, fun h => by subst h; exact ⟨rfl, rfl, rfl⟩⟩

theorem files_ne {l l' : List Fl} {k : Nat} {f g : Fl} (hf : l[k]? = some f) (hg : l'[k]? = some g) (h : f ≠ g) : l ≠ l' := by
  intro e; subst e; rw [hf] at hg; cases hg; exact h rfl

/-- '[]byte' as a string, in whatever world that drew. -/
theorem run_conv_drew {w : World} {T E n cap : Nat} {ao : Option Addr} {l : List UInt8} (hsl : Sl w T E 1 ao n cap (l.map u8)) (q : Nat) : (convert 41 9 (.slice ao n cap)).run Tryz.prog (w.drewN q) = .ok (.string (bs l)) (w.drewN q) :=
  run_conv_bs (hsl.keep (w' := w.drewN q) fun _ _ _ _ h => h)

set_option maxHeartbeats 2000000 in
set_option maxRecDepth 100000 in
theorem hFiles_any {n' T' cap' : Nat} {ao' : Option Addr} {vs' : List Value} {l' : List Fl} (h : FsAt w T ao n cap vs l) (hn : l.length = n) (h' : FsAt w T' ao' n' cap' vs' l') (hn' : l'.length = n') :
    Calls Tryz.prog 36 #[.slice ao n cap, .slice ao' n' cap'] w fun e w' => e = .returned (.bool (decide (l = l'))) ∧ ∃ q, w' = w.drewN q := by
  have hs := h.small
  have hs1 := hs.1
  have hs2 := hs.2
  unfold maxLen at hs2
  clear hs
  obtain ⟨r, hr⟩ : ∃ r, r = decide (l = l') := ⟨_, rfl⟩
  rw [← hr]
  by_cases hnn : n = n'
  · subst hnn
    have H := Lib.hid (And.intro h (And.intro hn (And.intro h' (And.intro hn' hr))))
    clear h hn h' hn' hr
    go_enter Tryz.func36, Tryz.ntmps36
    go_wp2_with fail
    go_loopw [5] (fun i wr => ∃ k q : Nat, k ≤ n ∧ i = .int .i64 k ∧ l.take k = l'.take k ∧ wr = w.drewN q) (fun i _ => n - (intOf i).toNat)
    case atStart => exact ⟨0, 0, Nat.zero_le _, rfl, by simp, rfl⟩
    case round =>
      obtain ⟨k, q, hk, rfl, hpre, rfl⟩ := hrel
      have HP := Lib.hid hpre
      clear hpre
      by_cases hkl : k < n
      · obtain ⟨f, v, b, off, aob, capb, Eb, hf, rfl, hsb, rfl, g0, g1, g2⟩ := H.out.1.get H.out.2.1 hkl
        obtain ⟨f', v', b', off', aob', capb', Eb', hf', rfl, hsb', rfl, g0', g1', g2'⟩ := H.out.2.2.1.get H.out.2.2.2.1 hkl
        obtain ⟨fp, fd, fb⟩ := f
        obtain ⟨fp', fd', fb'⟩ := f'
        simp only at g0 g1 g2 g0' g1' g2' hsb hsb'
        have hcv := fun q => run_conv_drew hsb q
        have hcv' := fun q => run_conv_drew hsb' q
        have hcv0 := run_conv_bs hsb
        have hcv0' := run_conv_bs hsb'
        have HF := Lib.hid (And.intro hf hf')
        clear hf hf' hsb hsb'
        have hkl' : ((k : Int) < (n : Int)) := by omega
        have hb1 : (bs fp).toList = fp := by rw [ByteArray.toList_eq, bs_data]
        have hb2 : (bs fp').toList = fp' := by rw [ByteArray.toList_eq, bs_data]
        have hb3 : (bs fb).toList = fb := by rw [ByteArray.toList_eq, bs_data]
        have hb4 : (bs fb').toList = fb' := by rw [ByteArray.toList_eq, bs_data]
        by_cases hp : fp = fp'
        · subst hp
          by_cases hd : fd = fd'
          · subst hd
            by_cases hb : fb = fb'
            · subst hb
              have HS := Lib.hid (take_eq_step HP.out HF.out.1 HF.out.2)
              go_wp2_with fail
              go_quiet (fail)
              go_wp2
              go_roundw
              case rel => exact ⟨k + 1, _, by omega, by go_num, HS.out, rfl⟩
              case measure => simp [intOf]; omega
            · have e3 : (fb == fb') = false := by simpa using hb
              obtain rfl : r = false := by rw [H.out.2.2.2.2]; exact decide_eq_false (files_ne HF.out.1 HF.out.2 (by simp [hb]))
              go_wp2_with fail
              go_quiet (fail)
              go_wp2
              go_ret
              exact ⟨rfl, _, World.drewN_drewN _ _ _⟩
          · have e2 : (fd == fd') = false := by simpa using hd
            obtain rfl : r = false := by rw [H.out.2.2.2.2]; exact decide_eq_false (files_ne HF.out.1 HF.out.2 (by simp [hd]))
            go_wp2_with fail
            go_quiet (fail)
            go_wp2
            go_ret
            exact ⟨rfl, _, World.drewN_drewN _ _ _⟩
        · have e1 : (fp == fp') = false := by simpa using hp
          obtain rfl : r = false := by rw [H.out.2.2.2.2]; exact decide_eq_false (files_ne HF.out.1 HF.out.2 (by simp [hp]))
          go_wp2_with fail
          go_quiet (fail)
          go_wp2
          go_ret
          exact ⟨rfl, _, World.drewN_drewN _ _ _⟩
      · obtain rfl : k = n := by omega
        obtain rfl : r = true := by
          rw [H.out.2.2.2.2]
          have hp := HP.out
          rw [List.take_of_length_le (by have := H.out.2.1; omega), List.take_of_length_le (by have := H.out.2.2.2.1; omega)] at hp
          exact decide_eq_true hp
        go_wp2
        go_ret
        exact ⟨rfl, _, rfl⟩
  · have hne : ((n : Int) != (n' : Int)) = true := by rw [bne_iff_ne]; omega
    obtain rfl : r = false := by rw [hr]; exact decide_eq_false (fun (e : l = l') => hnn (by rw [← hn, ← hn', e]))
    clear hr hnn h h' hn hn'
    go_enter Tryz.func36, Tryz.ntmps36
    go_wp2
    go_ret
    exact ⟨rfl, 0, rfl⟩

end

end Go.Proofs.YtbhjdddiihfafaaGreatDoor
