/- Package disk: what each call computes, over a disk's sectors as lists of bytes. -/
import Derived.Deep.RegionHeld3
import Derived.Test.YtbhjdddiihfafaaGreatDoorJMaps
import Derived.Test.YtbhjdddiihfafaaGreatDoorJWriter
set_option linter.unusedVariables false
set_option linter.unusedSimpArgs false
namespace Go.Proofs.YtbhjdddiihfafaaGreatDoor
open Go.RowKit Go.Maps

/-- A value that reads as these bytes. -/
def BsV (w : World) (v : Value) (l : List UInt8) : Prop := ∃ ao cap, v = .slice ao l.length cap ∧ Sl w w.heap.size 5 1 ao l.length cap (l.map u8)

theorem BsV.fr {w w' : World} {K : Nat → Obj → Prop} {v : Value} {l : List UInt8} (h : BsV w v l) (hfr : Fr K w w') (hk : ∀ k c f, w.heap[k]? = some (.cells c 5 f) → K k (.cells c 5 f)) : BsV w' v l := by
  obtain ⟨ao, cap, rfl, h2⟩ := h
  exact ⟨ao, cap, rfl, (h2.keep fun b c f _ hc => hfr.keep _ _ hc (hk _ _ _ hc)).mono hfr.size⟩

/-- A disk: what is sure, what was written since, behind how many writes the power goes, whether it is gone. -/
structure Dk where
  sure : List (List UInt8)
  dirty : List (Lit × List UInt8)
  cut : Int
  dead : Bool

def Dk.n (D : Dk) : Nat := D.sure.length
def Dk.size (D : Dk) : Nat := (D.sure.headD []).length

/-- What holds of each disk that New made. -/
structure Dk.Ok (D : Dk) : Prop where
  n1 : 1 ≤ D.sure.length
  n2 : D.sure.length ≤ 4096
  s1 : 64 ≤ D.size
  s2 : D.size ≤ 4096
  all : ∀ b ∈ D.sure, b.length = D.size
  dirt : ∀ p ∈ D.dirty, p.2.length = D.size ∧ ∃ i : Nat, p.1 = .int .i64 i ∧ i < D.sure.length
  rise : D.dirty.Pairwise fun p q => p.1.before q.1 = true
  c1 : -1 ≤ D.cut
  c2 : D.cut ≤ 9223372036854775807

/-- A disk at block d; its sectors' row bs; its map bm. -/
def DiskAt (w : World) (d bs bm : Nat) (D : Dk) : Prop :=
  ∃ cap vs ms, w.heap[d]? = some (.cells #[.slice (some ⟨bs, 0, none⟩) D.sure.length cap, .map (some bm), .int .i64 D.cut, .bool D.dead] 83 (0, 0)) ∧
    w.ownsRow 0 41 1 (.slice (some ⟨bs, 0, none⟩) D.sure.length cap) D.sure.length vs ∧ All2 (BsV w) vs D.sure ∧
    MapAt w 3 bm ms ∧ All2 (fun p q => p.1 = q.1 ∧ BsV w p.2 q.2) ms D.dirty

/-- What a disk's calls leave as it is. -/
abbrev DK (d bs bm : Nat) : Nat → Obj → Prop := fun k _ => k ≠ d ∧ k ≠ bs ∧ k ≠ bm

theorem within_any (x lo hi : Int) (w : World) : Calls Tryz.prog 25 #[.int .i64 x, .int .i64 lo, .int .i64 hi] w fun e w' => e = .returned (.int .i64 (min (max x lo) hi)) ∧ w = w' := by
  have key : ∀ r : Int, r = min (max x lo) hi → Ending.returned (.int .i64 r) = .returned (.int .i64 (min (max x lo) hi)) := fun r h => by rw [h]
  by_cases h1 : x < lo
  · by_cases h2 : hi < lo
    all_goals
      go_enter Tryz.func25, Tryz.ntmps25
      go_wp2
      go_ret
      exact ⟨key _ (by omega), rfl⟩
  · by_cases h2 : hi < x
    all_goals
      go_enter Tryz.func25, Tryz.ntmps25
      go_wp2
      go_ret
      exact ⟨key _ (by omega), rfl⟩

section
variable {w : World} {d bs bm : Nat} {D : Dk}

theorem Sectors_any (h : DiskAt w d bs bm D) : Calls Tryz.prog 59 #[.pointer (some ⟨d, 0, none⟩)] w fun e w' => e = .returned (.int .i64 D.sure.length) ∧ w = w' := by
  obtain ⟨cap, vs, ms, hd, hown, hvs, hmap, hms⟩ := h
  have c0 : w.cell? ⟨d, 0, none⟩ = some (.slice (some ⟨bs, 0, none⟩) D.sure.length cap) := cell_of_heap hd 0
  go_enter Tryz.func59, Tryz.ntmps59
  go_wp2
  go_ret
  exact ⟨rfl, rfl⟩

theorem DiskAt.sector (h : DiskAt w d bs bm D) {i : Nat} {b : List UInt8} (hb : D.sure[i]? = some b) : ∃ ao cap, w.cell? ⟨bs, i, none⟩ = some (.slice ao b.length cap) ∧ Sl w w.heap.size 5 1 ao b.length cap (b.map u8) := by
  obtain ⟨cap, vs, ms, hd, hown, hvs, hmap, hms⟩ := h
  obtain ⟨v, hv, ao, cap', rfl, hs⟩ := hvs.get hb
  have hi : i < D.sure.length := (List.getElem?_eq_some_iff.1 hb).1
  refine ⟨ao, cap', ?_, hs⟩
  have := hown.cellAt i (by omega)
  rw [this]; exact hv

theorem Size_any (h : DiskAt w d bs bm D) (hn : 1 ≤ D.sure.length) : Calls Tryz.prog 60 #[.pointer (some ⟨d, 0, none⟩)] w fun e w' => e = .returned (.int .i64 D.size) ∧ w = w' := by
  obtain ⟨b, r, hbr⟩ : ∃ b r, D.sure = b :: r := by cases hD : D.sure with | nil => simp [hD] at hn | cons b r => exact ⟨b, r, rfl⟩
  obtain ⟨ao, cp, c1, _⟩ := h.sector (i := 0) (b := b) (by rw [hbr]; rfl)
  have hsz := Lib.hid (show D.size = b.length by simp [Dk.size, hbr])
  obtain ⟨cap, vs, ms, hd, hown, hvs, hmap, hms⟩ := h
  have c0 : w.cell? ⟨d, 0, none⟩ = some (.slice (some ⟨bs, 0, none⟩) D.sure.length cap) := cell_of_heap hd 0
  have hn' : (0 : Int) < (D.sure.length : Int) := by omega
  clear hbr
  go_enter Tryz.func60, Tryz.ntmps60
  go_wp2
  go_ret
  exact ⟨by rw [hsz.out]; rfl, rfl⟩

/-- Where a cell of the disk itself was written. -/
theorem DiskAt.re {w' : World} {D' : Dk} {cap : Nat} (h : DiskAt w d bs bm D) (hd : w.heap[d]? = some (.cells #[.slice (some ⟨bs, 0, none⟩) D.sure.length cap, .map (some bm), .int .i64 D.cut, .bool D.dead] 83 (0, 0)))
    (hd' : w'.heap[d]? = some (.cells #[.slice (some ⟨bs, 0, none⟩) D.sure.length cap, .map (some bm), .int .i64 D'.cut, .bool D'.dead] 83 (0, 0)))
    (hfr : Fr (fun k _ => k ≠ d) w w') (hs : D'.sure = D.sure) (hdi : D'.dirty = D.dirty) : DiskAt w' d bs bm D' := by
  obtain ⟨cap', vs, ms, hd0, hown, hvs, hmap, hms⟩ := h
  rw [hd] at hd0; cases hd0
  have hb : ∀ v l, BsV w v l → BsV w' v l := fun v l h => h.fr hfr fun k c f hc e => by subst e; rw [hd] at hc; cases hc
  refine ⟨cap, vs, ms, by rw [hs]; exact hd', ?_, ?_, ?_, ?_⟩
  · rw [hs]
    obtain ⟨h1, h2⟩ := hown
    refine ⟨h1, ?_⟩
    rcases h2 with ⟨h2, _⟩ | ⟨g, c, cur, e, hg, hh, r⟩
    · cases h2
    · cases e
      exact .inr ⟨bs, cap, cur, rfl, hg, hfr.keep _ _ hh (ne_of_types hh hd (by decide)), r⟩
  · rw [hs]; exact hvs.mono fun _ _ _ _ h => hb _ _ h
  · exact hmap.fr hfr fun es c => hmap.ne_cells hd
  · rw [hdi]; exact hms.mono fun _ _ _ _ h => ⟨h.1, hb _ _ h.2⟩

/-- What 'at' tells of a sector's number. -/
def Dk.at (D : Dk) (i : Int) : Int := if D.dead then 32 else if i < 0 ∨ (D.sure.length : Int) ≤ i then 30 else 0

set_option maxRecDepth 100000 in
theorem at_any (h : DiskAt w d bs bm D) (i : Int) : Calls Tryz.prog 231 #[.pointer (some ⟨d, 0, none⟩), .int .i64 i] w fun e w' => e = .returned (.int .i64 (D.at i)) ∧ w = w' := by
  obtain ⟨cap, vs, ms, hd, hown, hvs, hmap, hms⟩ := h
  have c0 : w.cell? ⟨d, 0, none⟩ = some (.slice (some ⟨bs, 0, none⟩) D.sure.length cap) := cell_of_heap hd 0
  cases hdead : D.dead with
  | true =>
    have c3 : w.cell? ⟨d, 3, none⟩ = some (.bool true) := by rw [← hdead]; exact cell_of_heap hd 3
    have ha := Lib.hid (show D.at i = 32 by simp [Dk.at, hdead])
    clear hdead
    go_enter Tryz.func231, Tryz.ntmps231
    go_wp2
    go_ret
    exact ⟨by rw [ha.out]; rfl, rfl⟩
  | false =>
    have c3 : w.cell? ⟨d, 3, none⟩ = some (.bool false) := by rw [← hdead]; exact cell_of_heap hd 3
    by_cases h1 : i < 0
    · have ha := Lib.hid (show D.at i = 30 by simp [Dk.at, hdead, h1])
      clear hdead
      have h1d : decide (i < (0 : Int)) = true := by simpa using h1
      go_enter Tryz.func231, Tryz.ntmps231
      go_wp2
      go_ret
      exact ⟨by rw [ha.out]; rfl, rfl⟩
    · have h1d : decide (i < (0 : Int)) = false := by simpa using h1
      by_cases h2 : (D.sure.length : Int) ≤ i
      · have ha := Lib.hid (show D.at i = 30 by simp [Dk.at, hdead, h2])
        have h2d : decide ((D.sure.length : Int) ≤ i) = true := by simpa using h2
        clear hdead
        go_enter Tryz.func231, Tryz.ntmps231
        go_wp2
        go_ret
        exact ⟨by rw [ha.out]; rfl, rfl⟩
      · have ha := Lib.hid (show D.at i = 0 by simp [Dk.at, hdead]; omega)
        have h2d : decide ((D.sure.length : Int) ≤ i) = false := by simpa using h2
        clear hdead
        go_enter Tryz.func231, Tryz.ntmps231
        go_wp2
        go_ret
        exact ⟨by rw [ha.out]; rfl, rfl⟩

/-- Power for one write more. -/
def Dk.power (D : Dk) : Int × Dk := if D.cut = 0 then (32, { D with dead := true }) else if 0 < D.cut then (0, { D with cut := D.cut - 1 }) else (0, D)

theorem powered_any (h : DiskAt w d bs bm D) (hc : D.cut ≤ 9223372036854775807) : Calls Tryz.prog 246 #[.pointer (some ⟨d, 0, none⟩)] w fun e w' =>
    e = .returned (.int .i64 D.power.1) ∧ DiskAt w' d bs bm D.power.2 ∧ Fr (fun k _ => k ≠ d) w w' := by
  have h0 := Lib.hid h
  obtain ⟨cap, vs, ms, hd, hown, hvs, hmap, hms⟩ := h
  have hD := Lib.hid hd
  have c2 : w.cell? ⟨d, 2, none⟩ = some (.int .i64 D.cut) := cell_of_heap hd 2
  have c3 : w.cell? ⟨d, 3, none⟩ = some (.bool D.dead) := cell_of_heap hd 3
  have f2 := free_of_heap hd 2
  have f3 := free_of_heap hd 3
  clear hown hvs hmap hms
  by_cases h1 : D.cut = 0
  · have hp := Lib.hid (show D.power = (32, { D with dead := true }) by simp [Dk.power, h1])
    have h1d : (D.cut == 0) = true := by simpa using h1
    clear h1
    go_enter Tryz.func246, Tryz.ntmps246
    go_wp2
    go_ret
    rw [hp.out]
    have hfr : Fr (fun k _ => k ≠ d) w (w.setCell ⟨d, 3, none⟩ (.bool true)) := (Fr.refl _ _).setCell (fun _ _ h => h rfl) _
    exact ⟨rfl, h0.out.re hD.out (heap_set hD.out 3 _) hfr rfl rfl, hfr⟩
  · have h1d : (D.cut == 0) = false := by simpa using h1
    by_cases h2 : 0 < D.cut
    · have hp := Lib.hid (show D.power = (0, { D with cut := D.cut - 1 }) by simp [Dk.power, h1, h2])
      go_enter Tryz.func246, Tryz.ntmps246
      go_wp2
      go_ret
      rw [hp.out]
      have hfr : Fr (fun k _ => k ≠ d) w (w.setCell ⟨d, 2, none⟩ (.int .i64 (D.cut - 1))) := (Fr.refl _ _).setCell (fun _ _ h => h rfl) _
      exact ⟨rfl, h0.out.re hD.out (heap_set hD.out 2 _) hfr rfl rfl, hfr⟩
    · have hp := Lib.hid (show D.power = (0, D) by simp [Dk.power, h1, h2])
      go_enter Tryz.func246, Tryz.ntmps246
      go_wp2
      go_ret
      rw [hp.out]
      exact ⟨rfl, h0.out, Fr.refl _ _⟩

/-- What a sector reads as. -/
def Dk.read (D : Dk) (i : Int) : List UInt8 := (kget D.dirty (.int .i64 i)).getD (D.sure.getD i.toNat [])

def ReadPost (w : World) (D : Dk) (i : Int) (e : Ending) (w' : World) : Prop :=
  FrA w w' ∧ ((D.at i ≠ 0 ∧ e = .returned (.tuple #[.slice none 0 0, .int .i64 (D.at i)])) ∨
    (D.at i = 0 ∧ ∃ v, e = .returned (.tuple #[v, .int .i64 0]) ∧ w'.ownsRow w.heap.size 5 1 v (D.read i).length ((D.read i).map u8)))

theorem umapDirty : Tryz.prog.underlying 79 = some (.map 3 41) := by kernel_rfl
theorem zeroBytes (w : World) : (zeroValue 41).run Tryz.prog w = .ok (.slice none 0 0) w := by kernel_rfl

set_option maxRecDepth 100000 in
theorem Read_any (h : DiskAt w d bs bm D) (hok : D.Ok) (i : Int) : Calls Tryz.prog 179 #[.pointer (some ⟨d, 0, none⟩), .int .i64 i] w (ReadPost w D i) := by
  have hat := at_any h i
  have HAT := Lib.hid hat; clear hat
  by_cases hz : D.at i = 0
  · have hi : 0 ≤ i ∧ i < (D.sure.length : Int) := by
      unfold Dk.at at hz
      split at hz
      · omega
      · split at hz <;> omega
    have HZ := Lib.hid hz; clear hz
    obtain ⟨k, rfl⟩ := Int.eq_ofNat_of_zero_le hi.1
    have hk : k < D.sure.length := by omega
    obtain ⟨ao1, cap1, cs, hs1⟩ := h.sector (List.getElem?_eq_getElem hk)
    obtain ⟨cap, vs, ms, hd, hown, hvs, hmap, hms⟩ := h
    have c0 : w.cell? ⟨d, 0, none⟩ = some (.slice (some ⟨bs, 0, none⟩) D.sure.length cap) := cell_of_heap hd 0
    have c1 : w.cell? ⟨d, 1, none⟩ = some (.map (some bm)) := cell_of_heap hd 1
    have n2 := hok.n2
    have hkey := int_key (k : Int) (by omega) (by omega)
    clear hown hvs
    rcases KRel.kget hms (.int .i64 k) with ⟨g1, g2⟩ | ⟨v, b, g1, g2, ao2, cap2, rfl, hs2⟩
    · have hr := Lib.hid (show D.read (k : Int) = D.sure[k] by simp [Dk.read, g2, hk])
      have hlen : D.sure[k].length ≤ 4096 := by rw [hok.all _ (List.getElem_mem hk)]; exact hok.s2
      clear g2
      go_enter Tryz.func179, Tryz.ntmps179
      go_wp2_with fail
      refine HAT.out.mono ?_
      rintro e w1 ⟨rfl, rfl⟩
      rw [HZ.out]
      go_wp2_with (at_lookup; refine map_look_ok rfl _ _ rfl int_keys umapDirty rfl hmap (zeroBytes _) rfl hkey ?_)
      refine (CloneBytes_any w _ _ rfl hs1 (by omega)).mono ?_
      rintro e w1 ⟨v, rfl, g3, g4⟩
      obtain ⟨ao, cp, rfl⟩ := own_shape g3
      go_wp2
      go_ret2
      refine ⟨g4, .inr ⟨HZ.out, _, rfl, ?_⟩⟩
      rw [hr.out]; exact g3
    · obtain ⟨j, hj⟩ := List.getElem?_of_mem (List.mem_of_find?_eq_some (Option.map_eq_some_iff.1 g2).choose_spec.1)
      have hq := hok.dirt _ (List.mem_of_getElem? hj)
      have hr := Lib.hid (show D.read (k : Int) = b by simp [Dk.read, g2])
      have hlen : b.length ≤ 4096 := by
        have e := (Option.map_eq_some_iff.1 g2).choose_spec.2
        rw [← e, hq.1]; exact hok.s2
      clear g2 hj hq
      go_enter Tryz.func179, Tryz.ntmps179
      go_wp2_with fail
      refine HAT.out.mono ?_
      rintro e w1 ⟨rfl, rfl⟩
      rw [HZ.out]
      go_wp2_with (at_lookup; refine map_look_ok rfl _ _ rfl int_keys umapDirty rfl hmap (zeroBytes _) rfl hkey ?_)
      refine (CloneBytes_any w _ _ rfl hs2 (by omega)).mono ?_
      rintro e w1 ⟨v, rfl, g3, g4⟩
      obtain ⟨ao, cp, rfl⟩ := own_shape g3
      go_wp2
      go_ret2
      refine ⟨g4, .inr ⟨HZ.out, _, rfl, ?_⟩⟩
      rw [hr.out]; exact g3
  · have hne : (D.at i != 0) = true := by simpa using hz
    have HZ := Lib.hid hz; clear hz
    go_enter Tryz.func179, Tryz.ntmps179
    go_wp2_with fail
    refine HAT.out.mono ?_
    rintro e w1 ⟨rfl, rfl⟩
    go_wp2
    go_ret2
    exact ⟨Fr.refl _ _, .inl ⟨HZ.out, rfl⟩⟩

end
end Go.Proofs.YtbhjdddiihfafaaGreatDoor
/- Package disk: what writes. -/
namespace Go.Proofs.YtbhjdddiihfafaaGreatDoor
open Go.RowKit Go.Maps

def Dk.write (D : Dk) (i : Int) (b : List UInt8) : Int × Dk :=
  if D.at i ≠ 0 then (D.at i, D) else if b.length ≠ D.size then (31, D) else
  if D.power.1 ≠ 0 then D.power else (0, { D.power.2 with dirty := kput D.dirty (.int .i64 i) b })

theorem Dk.Ok.few {D : Dk} (h : D.Ok) : D.dirty.length ≤ D.sure.length := by
  have := rise_few D.sure.length D.dirty 0 h.rise (fun p hp => by
    obtain ⟨_, i, h1, h2⟩ := h.dirt p hp
    exact ⟨i, h1, Nat.zero_le _, h2⟩)
  simpa using this

theorem Dk.Ok.cut' {D : Dk} (h : D.Ok) (c : Int) (b : Bool) (h1 : -1 ≤ c) (h2 : c ≤ 9223372036854775807) : Dk.Ok { D with cut := c, dead := b } :=
  ⟨h.n1, h.n2, h.s1, h.s2, h.all, h.dirt, h.rise, h1, h2⟩

theorem Dk.Ok.power {D : Dk} (h : D.Ok) : D.power.2.Ok := by
  unfold Dk.power
  have h1 := h.c1
  have h2 := h.c2
  split
  · exact h.cut' _ _ h1 h2
  · split
    · exact h.cut' _ _ (by omega) (by omega)
    · exact h

theorem Dk.power_sure (D : Dk) : D.power.2.sure = D.sure ∧ D.power.2.dirty = D.dirty := by
  unfold Dk.power
  split
  · exact ⟨rfl, rfl⟩
  · split <;> exact ⟨rfl, rfl⟩

theorem Dk.at_ok {D : Dk} {i : Int} (h : D.at i = 0) : 0 ≤ i ∧ i < (D.sure.length : Int) := by
  unfold Dk.at at h
  split at h
  · omega
  · split at h <;> omega

theorem Dk.Ok.dirty {D : Dk} (h : D.Ok) {i : Int} (hi : 0 ≤ i ∧ i < (D.sure.length : Int)) {b : List UInt8} (hb : b.length = D.size) : Dk.Ok { D with dirty := kput D.dirty (.int .i64 i) b } := by
  obtain ⟨k, rfl⟩ := Int.eq_ofNat_of_zero_le hi.1
  refine ⟨h.n1, h.n2, h.s1, h.s2, h.all, fun p hp => ?_, rise_kput ints_one ⟨k, rfl⟩ (fun p hp => ?_) h.rise, h.c1, h.c2⟩
  · rcases mem_kput hp with rfl | hp
    · exact ⟨hb, k, rfl, by have := hi.2; exact_mod_cast this⟩
    · exact h.dirt p hp
  · obtain ⟨_, i, e, _⟩ := h.dirt p hp
    exact ⟨i, e⟩

section
variable {w : World} {d bs bm : Nat} {D : Dk}

set_option maxRecDepth 100000 in
theorem Write_any (h : DiskAt w d bs bm D) (hok : D.Ok) (i : Int) (b : List UInt8) {n T cap : Nat} {ao : Option Addr} (hn : b.length = n) (hT : T ≤ w.heap.size) (hb : Sl w T 5 1 ao n cap (b.map u8)) (hl : n ≤ 140737488355328) :
    Calls Tryz.prog 201 #[.pointer (some ⟨d, 0, none⟩), .int .i64 i, .slice ao n cap] w fun e w' => e = .returned (.int .i64 (D.write i b).1) ∧ DiskAt w' d bs bm (D.write i b).2 ∧ Fr (DK d bs bm) w w' := by
  subst hn
  have HAT := Lib.hid (at_any h i)
  by_cases hz : D.at i = 0
  · by_cases hs : b.length = D.size
    · have HSZ := Lib.hid (Size_any h hok.n1)
      have HPW := Lib.hid (powered_any h hok.c2)
      have HZ := Lib.hid hz
      have HS := Lib.hid hs
      have hsd : ((b.length : Int) != (D.size : Int)) = false := by simp [hs]
      by_cases hp : D.power.1 = 0
      · have HP := Lib.hid hp
        have HW := Lib.hid (show D.write i b = (0, { D.power.2 with dirty := kput D.dirty (.int .i64 i) b }) by simp [Dk.write, hz, hs, hp])
        clear hz hs hp
        go_enter Tryz.func201, Tryz.ntmps201
        go_wp2_with fail
        refine HAT.out.mono ?_
        rintro e w1 ⟨rfl, rfl⟩
        rw [HZ.out]
        go_wp2_with fail
        refine HSZ.out.mono ?_
        rintro e w1 ⟨rfl, rfl⟩
        go_wp2_with fail
        refine HPW.out.mono ?_
        rintro e w1 ⟨rfl, hd1, hfr1⟩
        rw [HP.out]
        have hb1 : Sl w1 T 5 1 ao b.length cap (b.map u8) := by
          obtain ⟨_, _, _, hd, _⟩ := h
          exact hb.keep fun k c f _ hc => hfr1.keep _ _ hc (ne_of_types hc hd (by decide))
        have HB := Lib.hid hb1
        have HD := Lib.hid hd1
        obtain ⟨cap1, vs, ms, hd, hown, hvs, hmap, hms⟩ := hd1
        have c1 : w1.cell? ⟨d, 1, none⟩ = some (.map (some bm)) := cell_of_heap hd 1
        have ld := lt_of_heap hd
        have hnd : some d ≠ some bm := fun e => hmap.ne_cells hd (Option.some.inj e).symm
        have hi2 := Dk.at_ok HZ.out
        have hn2 := hok.n2
        have hi : 0 ≤ i ∧ i < 4096 := by omega
        have hkey := int_key i (by omega) (by omega)
        have hml : ms.length < 4097 := by have := hms.1; have := hok.power.few; have := hok.power.n2; omega
        have HO := Lib.hid hown
        have HV := Lib.hid hvs
        have HM := Lib.hid hms
        clear hown hvs hms hb1 hb hi2
        go_wp2_with fail
        go_region_held3 (fun w' => w'.cell? ⟨d, 1, none⟩ = some (.map (some bm))) (first | assumption | go_keep) (first | (go_at_call 81; refine (CloneBytes_any _ b _ rfl (T := T) (E := 5) ?_ hl).mono ?_; exact HB.out; rintro e w2 ⟨v, rfl, g3, g4⟩; have hk0 := g4.keep d _ hd trivial; have hk := cell_of_heap hk0 1; have hm2 := hmap.drew.fr g4 (fun _ _ => trivial)) | (refine upon_put int_keys umapDirty (kvs := ms) (by assumption) (by unfold maxLen; omega) hkey ?_; intro w3 hm3 hg3; have hk30 := grown_same hg3 hk0 hnd; have hk3 := cell_of_heap hk30 1))
        go_wp2
        go_ret
        rw [HW.out]
        have hfr3 : Fr (fun k _ => k ≠ bm) w1 w3 := ((Fr.refl _ w1).drew.trans (g4.mono fun _ _ _ => trivial)).grown hg3 (fun k o e _ h => h (Option.some.inj e).symm)
        have hnb : ∀ v l, BsV w1 v l → BsV w3 v l := fun v l h => h.fr hfr3 fun k c f hc e => by subst e; exact hmap.ne_cells hc rfl
        refine ⟨rfl, ⟨cap1, vs, _, hk30, ?_, HV.out.mono fun _ _ _ _ h => hnb _ _ h, hm3, ?_⟩, ?_⟩
        · obtain ⟨h1, h2⟩ := HO.out
          refine ⟨h1, ?_⟩
          rcases h2 with ⟨h2, _⟩ | ⟨g, c, cur, e, hg, hh, r⟩
          · cases h2
          · cases e
            exact .inr ⟨bs, cap1, cur, rfl, hg, hfr3.keep _ _ hh (fun e => hmap.ne_cells hh e.symm), r⟩
        · rw [← (Dk.power_sure D).2]
          refine KRel.kput (HM.out.mono fun _ _ _ _ h => ⟨h.1, hnb _ _ h.2⟩) _ ?_
          obtain ⟨ao3, cp3, rfl⟩ := own_shape g3
          refine ⟨ao3, cp3, rfl, ?_⟩
          have hs := Sl.of_own g3
          refine (hs.keep fun k c f _ hc => ?_).mono (by have := hg3.size; omega)
          exact grown_same hg3 hc (fun e => hm2.ne_cells hc (Option.some.inj e).symm)
        · exact (hfr1.mono fun _ _ h => h.1).trans (hfr3.mono fun _ _ h => h.2.2)
      · have hpd : (D.power.1 != 0) = true := by simpa using hp
        have HW := Lib.hid (show D.write i b = D.power by simp [Dk.write, hz, hs, hp])
        clear hz hs hp
        go_enter Tryz.func201, Tryz.ntmps201
        go_wp2_with fail
        refine HAT.out.mono ?_
        rintro e w1 ⟨rfl, rfl⟩
        rw [HZ.out]
        go_wp2_with fail
        refine HSZ.out.mono ?_
        rintro e w1 ⟨rfl, rfl⟩
        go_wp2_with fail
        refine HPW.out.mono ?_
        rintro e w1 ⟨rfl, hd1, hfr1⟩
        have HD := Lib.hid hd1; clear hd1
        go_wp2
        go_ret
        rw [HW.out]
        exact ⟨rfl, HD.out, hfr1.mono fun _ _ h => h.1⟩
    · have HSZ := Lib.hid (Size_any h hok.n1)
      have HZ := Lib.hid hz
      have hsd : ((b.length : Int) != (D.size : Int)) = true := by simp; omega
      have HW := Lib.hid (show D.write i b = (31, D) by simp [Dk.write, hz, hs])
      clear hz hs
      go_enter Tryz.func201, Tryz.ntmps201
      go_wp2_with fail
      refine HAT.out.mono ?_
      rintro e w1 ⟨rfl, rfl⟩
      rw [HZ.out]
      go_wp2_with fail
      refine HSZ.out.mono ?_
      rintro e w1 ⟨rfl, rfl⟩
      go_wp2
      go_ret
      rw [HW.out]
      exact ⟨rfl, h, Fr.refl _ _⟩
  · have hne : (D.at i != 0) = true := by simpa using hz
    have HW := Lib.hid (show D.write i b = (D.at i, D) by simp [Dk.write, hz])
    clear hz
    go_enter Tryz.func201, Tryz.ntmps201
    go_wp2_with fail
    refine HAT.out.mono ?_
    rintro e w1 ⟨rfl, rfl⟩
    go_wp2
    go_ret
    rw [HW.out]
    exact ⟨rfl, h, Fr.refl _ _⟩

end
end Go.Proofs.YtbhjdddiihfafaaGreatDoor
