/- Package wal: what reads a frame. -/
import Derived.Test.YtbhjdddiihfafaaGreatDoorJLay
set_option linter.unusedVariables false
set_option linter.unusedSimpArgs false
namespace Go.Proofs.YtbhjdddiihfafaaGreatDoor
open Go.RowKit Go.Maps

/-- What wal's 'must' panics with. -/
def wstop (n : Int) : List PanicEntry := [{ v := .iface 215 (.agg #[.int .i64 n]), recovered := false }]

theorem wmust_true (w : World) (n : Int) : Calls Tryz.prog 65 #[.bool true, .int .i64 n] w fun e w' => e = .returned (.tuple #[]) ∧ w = w' := by
  go_enter Tryz.func65, Tryz.ntmps65
  go_wp2
  go_end0
  exact ⟨rfl, rfl⟩

theorem wmust_false (w : World) (n : Int) : Calls Tryz.prog 65 #[.bool false, .int .i64 n] w fun e w' => e = .panicked (wstop n) ∧ w = w' := by
  have hp : ∀ w, (Instr.panic (.iface 215 (.agg #[.int .i64 n]))).run Tryz.prog w = .halt (.panic (.iface 215 (.agg #[.int .i64 n]))) w := fun _ => rfl
  go_enter Tryz.func65, Tryz.ntmps65
  go_wp2
  exact ⟨rfl, rfl, rfl⟩

section
variable {w : World} {I : Ids} {L : Lg} {C : List (List UInt8)} {sz : Nat}

set_option maxRecDepth 100000 in
theorem sector_no (h : LogAt w I L) (hok : L.Ok) (side a : Nat) (ha : ¬ a < L.half) : Calls Tryz.prog 124 #[.pointer (some ⟨I.bl, 0, none⟩), .int .i64 side, .int .i64 a] w fun e w' => e = .panicked (wstop 0) ∧ w = w' := by
  have HH := Lib.hid (half_any h hok)
  have hd : decide (a < L.half) = false := by simpa using ha
  clear h hok ha
  go_enter Tryz.func124, Tryz.ntmps124
  go_wp2_with (first | (go_at_call 178; refine HH.out.mono ?_; rintro e w1 ⟨rfl, rfl⟩) | (go_at_call 65; refine (wmust_false _ _).mono ?_; rintro e w1 ⟨rfl, rfl⟩))
  exact ⟨rfl, rfl, rfl⟩

set_option maxRecDepth 100000 in
theorem sector_ok (h : LogAt w I L) (hok : L.Ok) (hw : L.D.Well C sz) (side a : Nat) (hs : side ≤ 1) (ha : a < L.half) : Calls Tryz.prog 124 #[.pointer (some ⟨I.bl, 0, none⟩), .int .i64 side, .int .i64 a] w (NewBytes w (C.getD (side * L.half + a) [])) := by
  have c0 : w.cell? ⟨I.bl, 0, none⟩ = some (.pointer (some ⟨I.d, 0, none⟩)) := cell_of_heap h.log 0
  have hhalf : L.half * 2 ≤ C.length := by have := hok.half; rw [hw.len]; omega
  have hb2 : L.half ≤ 2048 := hok.half.2.1
  obtain ⟨P, hP⟩ : ∃ P, P = side * L.half := ⟨_, rfl⟩
  have hPb : P ≤ L.half := by
    rw [hP]
    rcases Nat.le_one_iff_eq_zero_or_eq_one.1 hs with rfl | rfl <;> omega
  have hPi : (side : Int) * (L.half : Int) = (P : Int) := by rw [hP, Int.natCast_mul]
  have HH := Lib.hid (fun w' (h' : LogAt w' I L) => half_any h' hok)
  have hlt : P + a < C.length := by omega
  obtain ⟨X, hX⟩ : ∃ X, X = C.getD (P + a) [] := ⟨_, rfl⟩
  have HR := Lib.hid (show ∀ w', LogAt w' I L → Calls Tryz.prog 179 #[.pointer (some ⟨I.d, 0, none⟩), .int .i64 ((P : Int) + (a : Int))] w' fun e w'' => ∃ v, e = .returned (.tuple #[v, .int .i64 0]) ∧ FrA w' w'' ∧ w''.ownsRow w'.heap.size 5 1 v X.length (X.map u8) from fun w' h' => by
    have := Read_any h'.disk hw.ok ((P + a : Nat) : Int)
    rw [show ((P + a : Nat) : Int) = (P : Int) + (a : Int) by omega] at this
    refine this.mono fun e w'' hp => ?_
    obtain ⟨h1, h2 | h2⟩ := hp
    · exact absurd (by have := hw.at hlt; rw [show ((P + a : Nat) : Int) = (P : Int) + (a : Int) by omega] at this; exact this) h2.1
    · obtain ⟨_, v, h3, h4⟩ := h2
      have e1 := hw.read hlt
      rw [show ((P + a : Nat) : Int) = (P : Int) + (a : Int) by omega] at e1
      rw [e1, ← hX] at h4
      exact ⟨v, h3, h1, h4⟩)
  have hPw : IntKind.i64.wrap (P : Int) = (P : Int) := wrap_small (by omega) (by omega)
  have hPa : IntKind.i64.wrap ((P : Int) + (a : Int)) = (P : Int) + (a : Int) := wrap_small (by omega) (by omega)
  have hH := Lib.hid h
  rw [← hP, ← hX]
  clear h hok hw hP hhalf hs hX
  go_enter Tryz.func124, Tryz.ntmps124
  go_wp2_with fail
  refine (HH.out _ hH.out).mono ?_
  rintro e w1 ⟨rfl, rfl⟩
  go_wp2_with fail
  refine (wmust_true _ _).mono ?_
  rintro e w1 ⟨rfl, rfl⟩
  go_wp2_with fail
  have hHd := Lib.hid (hH.out.drew)
  go_region_held3 (fun w' => w'.cell? ⟨I.bl, 0, none⟩ = some (.pointer (some ⟨I.d, 0, none⟩))) (first | assumption) (first | (go_at_call 178; refine (HH.out _ hHd.out).mono ?_; rintro e w1 ⟨rfl, rfl⟩) | (go_at_call 179; refine (HR.out _ hHd.out).mono ?_; rintro e w2 ⟨v, rfl, g3, g4⟩; have k0 : w2.cell? ⟨I.bl, 0, none⟩ = some (.pointer (some ⟨I.d, 0, none⟩)) := cell_of_heap (hHd.out.fra g3).log 0; obtain ⟨ao, cp, rfl⟩ := own_shape g4; have HG := Lib.hid (And.intro g3 g4); clear g3 g4))
  go_wp2_with (go_at_call 65; refine (wmust_true _ _).mono ?_; rintro e w1 ⟨rfl, rfl⟩)
  go_ret
  exact ⟨_, rfl, HG.out.2, ((Fr.refl _ w).drew).trans HG.out.1⟩

/-- A part of a row of bytes that is known. -/
theorem part_sl {g off k cap : Nat} {l : List UInt8} {c : Array Value} {f : Nat × Nat} (hb : w.heap[g]? = some (.cells c 5 f)) (hc : ∀ i, i < l.length → c[i]? = (l.map u8)[i]?) (h : off + k ≤ l.length) (h1 : k ≤ cap) (h2 : cap ≤ maxLen) :
    Sl w w.heap.size 5 1 (some ⟨g, off, none⟩) k cap (((l.drop off).take k).map u8) := by
  refine ⟨by simp; omega, h1, h2, by simp, .inr ⟨g, off, c, f, rfl, lt_of_heap hb, hb, fun j hj => ?_⟩⟩
  rw [hc (off + j) (by omega)]
  simp only [List.getElem?_map]
  rw [List.getElem?_take_of_lt (by omega), List.getElem?_drop]

theorem get_at {g off k cap : Nat} {l : List UInt8} {c : Array Value} {f : Nat × Nat} (hb : w.heap[g]? = some (.cells c 5 f)) (hc : ∀ i, i < l.length → c[i]? = (l.map u8)[i]?) (h : off + k ≤ l.length) (h1 : k ≤ cap) (h2 : cap ≤ maxLen) (h8 : k ≤ 8) :
    Calls Tryz.prog 126 #[.slice (some ⟨g, off, none⟩) k cap] w fun e w' => e = .returned (.int .u64 (beN ((l.drop off).take k))) ∧ w = w' :=
  get_any w _ (by simp; omega) h8 (part_sl hb hc h h1 h2)

/-- What is read of a frame, as a world tells it. -/
def OpenPost (w : World) (r : Option (Nat × List (List UInt8) × Nat)) (e : Ending) (w' : World) : Prop :=
  FrA w w' ∧ match r with
  | none => e = .panicked (wstop 0)
  | some (t, rs, m) => ∃ v vs, e = .returned (.tuple #[.int .u64 t, v, .int .i64 m]) ∧ w'.ownsRow w.heap.size 41 1 v rs.length vs ∧ Recs w' w'.heap.size vs rs

end
end Go.Proofs.YtbhjdddiihfafaaGreatDoor
/- Package wal: Commit, on a disk that never fails, of turn 0. -/
namespace Go.Proofs.YtbhjdddiihfafaaGreatDoor
open Go.RowKit Go.Maps

section
variable {w : World} {I : Ids} {L : Lg} {C : List (List UInt8)} {sz : Nat}

theorem NewBytes.sl {w w' : World} {l : List UInt8} {v : Value} (h : w'.ownsRow w.heap.size 5 1 v l.length (l.map u8)) : ∃ ao cap, v = .slice ao l.length cap ∧ Sl w' w'.heap.size 5 1 ao l.length cap (l.map u8) := by
  obtain ⟨ao, cap, rfl⟩ := own_shape h
  exact ⟨ao, cap, rfl, Sl.of_own h⟩

set_option maxHeartbeats 1000000 in
set_option maxRecDepth 100000 in
theorem write_any (h : LogAt w I L) (hok : L.Ok) (hw : L.D.Well C sz) (hu : L.undone = []) (next at_ : Nat) (vs : List Value) (rs : List (List UInt8)) {n T cap : Nat} {ao : Option Addr} (hn : vs.length = n) (hT : T ≤ w.heap.size) (hx : Sl w T 41 1 ao n cap vs) (hr : Recs w T vs rs)
    (hl : tooLong rs = false) (hnx : next + 1 < 18446744073709551616) (ha : at_ ≤ L.half) (hfit : 32 + (body rs).length ≤ (C.length / 2 - at_) * (sz - 16)) :
    Calls Tryz.prog 86 #[.pointer (some ⟨I.bl, 0, none⟩), .int .u64 0, .int .u64 next, .int .i64 at_, .slice ao n cap] w fun e w' =>
      e = .returned (.tuple #[.int .i64 (at_ + secsN sz (32 + (body rs).length) : Nat), .int .i64 0]) ∧ ∃ D', LogAt w' I { L with D := D' } ∧ D'.Well (committed C sz next at_ rs) sz ∧ L.D.like D' ∧ Fr (LK I) w w' := by
  have hCl : C.length = L.D.sure.length := hw.len
  have hmost : L.most at_ = (C.length / 2 - at_) * (sz - 16) := by unfold Lg.most Lg.half Lg.size; rw [hw.size, hCl]
  have hsz : 128 ≤ sz ∧ sz ≤ 4096 := by rw [← hw.size]; exact ⟨hok.s128, hok.disk.s2⟩
  have hM : (C.length / 2 - at_) * (sz - 16) ≤ 2048 * 4080 := Nat.mul_le_mul (by rw [hCl]; have := hok.disk.n2; omega) (by omega)
  obtain ⟨n0, hn0⟩ : ∃ n0, n0 = 32 + (body rs).length := ⟨_, rfl⟩
  rw [← hn0] at hfit ⊢
  have hmin : min (32 + (body rs).length) (L.D.sure.length * L.D.size + 1) = n0 := by
    have h1 : (C.length / 2 - at_) * (sz - 16) ≤ L.D.sure.length * L.D.size := Nat.mul_le_mul (by rw [hCl]; omega) (by rw [hw.size]; omega)
    omega
  have hsecs : L.sectors n0 = secsN sz n0 := by unfold Lg.sectors Lg.size secsN; rw [hw.size]
  have hsl := secsN_le sz n0 _ (by omega) hfit
  have hhalf : L.half = C.length / 2 := by unfold Lg.half; rw [hCl]
  have HBY := Lib.hid (bytes_any h hok vs rs hn hx hr hl)
  have HMO := Lib.hid (fun w' (h' : LogAt w' I L) => most_any h' hok at_ ha)
  have HSE := Lib.hid (fun w' (h' : LogAt w' I L) => sectors_any h' hok n0 (by omega))
  have HCO := Lib.hid (contains_long w vs rs hn hx hr)
  have HFR := Lib.hid (fun (w' : World) (hf : FrA w w') => frame_any w' 0 next (by omega) (by omega) vs rs hn (Nat.le_trans hT hf.size) (hx.keep fun b c f _ hc => hf.keep _ _ hc trivial) (hr.fr hf fun _ _ _ _ _ => trivial) hl (by omega))
  have HH := Lib.hid (And.intro h (And.intro hok (And.intro hw (And.intro hu (And.intro hn0 (And.intro hmin (And.intro hsecs (And.intro hmost hhalf))))))))
  have hfit2 : n0 ≤ L.most at_ := by rw [hmost]; exact hfit
  have hatb : at_ ≤ 2048 := by have := hok.half; omega
  have hbb : 32 + (body rs).length ≤ 8355840 := by omega
  have hsb : secsN sz n0 ≤ 2048 := by have := hok.half; omega
  have hsb2 : at_ + secsN sz n0 ≤ L.half := by omega
  clear h hok hw hu hx hr hn0 hmin hsecs hmost hhalf hCl
  go_enter Tryz.func86, Tryz.ntmps86
  go_wp2_with fail
  refine HCO.out.mono ?_
  rintro e w1 ⟨rfl, rfl⟩
  rw [hl]
  go_wp2_with fail
  refine HBY.out.mono ?_
  rintro e w1 ⟨rfl, hf1⟩
  rw [HH.out.2.2.2.2.2.1]
  have hl1 := Lib.hid (And.intro (HH.out.1.fra hf1) hf1)
  clear hf1
  go_wp2_with fail
  refine (HMO.out _ hl1.out.1).mono ?_
  rintro e w2 ⟨rfl, rfl⟩
  go_wp2_with fail
  refine (HSE.out _ hl1.out.1).mono ?_
  rintro e w2 ⟨rfl, hf2⟩
  have hl2 := Lib.hid (And.intro (hl1.out.1.fra hf2) (hl1.out.2.trans hf2))
  rw [HH.out.2.2.2.2.2.2.1]
  clear hf2
  go_wp2_with fail
  refine (HFR.out _ hl2.out.2).mono ?_
  rintro e w3 ⟨v, rfl, hv, hf3⟩
  obtain ⟨ao3, cap3, rfl, hs3⟩ := NewBytes.sl hv
  have hl3 := Lib.hid (And.intro (hl2.out.1.fra hf3) (And.intro (hl2.out.2.trans hf3) hs3))
  clear hf3 hv hs3
  go_wp2_with fail
  refine (lay_any hl3.out.1 HH.out.2.1 HH.out.2.2.1 HH.out.2.2.2.1 next at_ (frameB 0 next rs) (m := (frameB 0 next rs).length) rfl (Nat.le_refl _) hl3.out.2.2 hnx (by rw [frameB_length]; omega) (by rw [frameB_length]; omega) (by rw [frameB_length, ← HH.out.2.2.2.2.1]; exact hsb2)).mono ?_
  rintro e w4 ⟨rfl, hD4⟩
  have HD4 := Lib.hid hD4
  clear hD4
  go_wp2
  go_ret2
  obtain ⟨D', h4, hw4, hlk4, hf4⟩ := HD4.out
  refine ⟨?_, D', h4, ?_, hlk4, (hl3.out.2.1.mono fun _ _ _ => trivial).trans hf4⟩
  · simp
  · unfold committed; rw [frameB_length] at hw4; exact hw4

/-- Where the log's own cells were written. -/
theorem LogAt.relog {w' : World} {L' : Lg} (h : LogAt w I L) (hfr : Fr (fun k _ => k ≠ I.bl) w w') (hd : L'.D = L.D) (hu : L'.undone = L.undone)
    (hb : w'.heap[I.bl]? = some (.cells #[.pointer (some ⟨I.d, 0, none⟩), .int .u64 L'.turn, .int .u64 L'.next, .int .i64 L'.at_, .int .i64 L'.count, .map (some I.bu)] 132 (0, 0))) : LogAt w' I L' := by
  obtain ⟨n1, n2, n3, n4, n5, n6, n7⟩ := h.nes
  refine ⟨?_, hb, ?_, h.ne⟩
  · rw [hd]
    exact h.disk.fr hfr (fun _ _ => n1.symm) (fun _ _ => n2.symm) (fun _ _ => n3.symm) (fun k c f hc e => by subst e; have := h.log; rw [hc] at this; exact absurd this (by simp))
  · rw [hu]
    exact h.map.fr hfr fun _ _ => n4.symm

set_option maxHeartbeats 1000000 in
set_option maxRecDepth 100000 in
theorem Commit_any (h : LogAt w I L) (hok : L.Ok) (hw : L.D.Well C sz) (hu : L.undone = []) (ht : L.turn = 0) (vs : List Value) (rs : List (List UInt8)) {n T cap : Nat} {ao : Option Addr} (hn : vs.length = n) (hT : T ≤ w.heap.size) (hx : Sl w T 41 1 ao n cap vs) (hr : Recs w T vs rs)
    (hl : tooLong rs = false) (hn4 : n ≤ 1048576) (hfit : 32 + (body rs).length ≤ (C.length / 2 - L.at_) * (sz - 16)) :
    Calls Tryz.prog 33 #[.pointer (some ⟨I.bl, 0, none⟩), .slice ao n cap] w fun e w' =>
      e = .returned (.int .i64 0) ∧ ∃ D', LogAt w' I ⟨D', 0, L.next + 1, L.at_ + secsN sz (32 + (body rs).length), L.count + n, []⟩ ∧ D'.Well (committed C sz L.next L.at_ rs) sz ∧ L.D.like D' ∧ Fr (LK I) w w' := by
  have h1 := hok.next
  have h2 := hok.at_
  have h3 := hok.half
  have h4 := hok.count
  have HW := Lib.hid (fun w' (hf : FrA w w') => write_any (h.fra hf) hok hw hu L.next L.at_ vs rs hn (Nat.le_trans hT hf.size) (hx.keep fun b c f _ hc => hf.keep _ _ hc trivial) (hr.fr hf fun _ _ _ _ _ => trivial) hl (by omega) h2 hfit)
  obtain ⟨D0, t0, nx0, a0, ct0, und⟩ := L
  simp only at ht hu
  subst ht; subst hu
  have hsl : a0 + secsN sz (32 + (body rs).length) ≤ 4096 := by
    have := secsN_le sz (32 + (body rs).length) _ (by have := hok.s128; have := hw.size; simp only at *; omega) hfit
    have := hw.len; have := hok.disk.n2
    simp only at *; omega
  simp only at h1 h2 h4
  have h5 : ct0 ≤ 16777216 := by omega
  have c0 : w.cell? ⟨I.bl, 0, none⟩ = some (.pointer (some ⟨I.d, 0, none⟩)) := cell_of_heap h.log 0
  have c1 : w.cell? ⟨I.bl, 1, none⟩ = some (.int .u64 0) := cell_of_heap h.log 1
  have c2 : w.cell? ⟨I.bl, 2, none⟩ = some (.int .u64 nx0) := cell_of_heap h.log 2
  have c3 : w.cell? ⟨I.bl, 3, none⟩ = some (.int .i64 a0) := cell_of_heap h.log 3
  obtain ⟨a1, ha1⟩ : ∃ a1, a1 = a0 + secsN sz (32 + (body rs).length) := ⟨_, rfl⟩
  simp only at HW
  rw [← ha1] at HW hsl ⊢
  clear h hok hw hx hr ha1
  go_enter Tryz.func33, Tryz.ntmps33
  go_wp2_with fail
  go_region_held3 (fun w' => w'.cell? ⟨I.bl, 1, none⟩ = some (.int .u64 0) ∧ w'.cell? ⟨I.bl, 2, none⟩ = some (.int .u64 nx0) ∧ w'.cell? ⟨I.bl, 3, none⟩ = some (.int .i64 a0)) (first | exact ⟨c1, c2, c3⟩ | exact ⟨k1, k2, k3⟩) (first | (go_at_call 86; refine (HW.out _ (Fr.refl _ w).drew).mono ?_; rintro e w1 ⟨rfl, D', hl1, hD1⟩; have hb := hl1.log; have k1 : w1.cell? ⟨I.bl, 1, none⟩ = some (.int .u64 0) := cell_of_heap hb 1; have k2 : w1.cell? ⟨I.bl, 2, none⟩ = some (.int .u64 nx0) := cell_of_heap hb 2; have k3 : w1.cell? ⟨I.bl, 3, none⟩ = some (.int .i64 a0) := cell_of_heap hb 3))
  obtain ⟨hw1, hk1, hf1⟩ := hD1
  have HD := Lib.hid (And.intro hl1 (And.intro hw1 (And.intro hk1 hf1)))
  clear hw1 hk1 hf1
  have k4 : w1.cell? ⟨I.bl, 4, none⟩ = some (.int .i64 ct0) := cell_of_heap hb 4
  have f1 : ∀ o, w1.frozen? ⟨I.bl, o, none⟩ = false := free_of_heap hb
  clear hl1 hb
  go_wp2
  go_ret
  refine ⟨rfl, D', ?_, HD.out.2.1, HD.out.2.2.1, ?_⟩
  · refine HD.out.1.relog ((((Fr.refl _ w1).setCell (fun _ _ h => h rfl) _).setCell (fun _ _ h => h rfl) _).setCell (fun _ _ h => h rfl) _) rfl rfl ?_
    have g1 := heap_set HD.out.1.log 3 (.int .i64 a1)
    have g2 := heap_set g1 2 (.int .u64 (nx0 + 1 : Nat))
    have g3 := heap_set g2 4 (.int .i64 (ct0 + n : Nat))
    simpa using g3
  · exact (((((Fr.refl _ w).drew).trans HD.out.2.2.2).setCell (fun _ _ h => h.2.2.2.1 rfl) _).setCell (fun _ _ h => h.2.2.2.1 rfl) _).setCell (fun _ _ h => h.2.2.2.1 rfl) _

end
end Go.Proofs.YtbhjdddiihfafaaGreatDoor
