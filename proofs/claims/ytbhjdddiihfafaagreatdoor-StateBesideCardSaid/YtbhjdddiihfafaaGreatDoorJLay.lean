/- Package wal: a frame is laid, on a disk that never fails, of turn 0. -/
import Derived.Test.YtbhjdddiihfafaaGreatDoorJHd
set_option linter.unusedVariables false
set_option linter.unusedSimpArgs false
namespace Go.Proofs.YtbhjdddiihfafaaGreatDoor
open Go.RowKit Go.Maps

theorem zpad_take (s : Nat) (c : List UInt8) : (c.take s).map u8 ++ (List.replicate (s + 16) (Value.int .u8 0)).drop (min s c.length) = (zpad s (c.take s)).map u8 ++ List.replicate 16 (Value.int .u8 0) := by
  rw [List.drop_replicate]
  unfold zpad
  rw [List.map_append, List.map_replicate, List.append_assoc]
  congr 1
  rw [show u8 (0 : UInt8) = Value.int .u8 0 from rfl, List.replicate_append_replicate, List.length_take]
  congr 1; omega

theorem sec_first {s n : Nat} {z : List UInt8} (hz : z.length = s) {L x5 x6 : List Value} (hL : L = z.map u8 ++ List.replicate 16 (Value.int .u8 0)) (h5 : x5 = L.take s ++ (be 8 0).map u8 ++ L.drop (s + 8))
    (h6 : x6 = x5.take (s + 8) ++ (be 8 n).map u8 ++ x5.drop (s + 8 + 8)) : x6 = (z ++ (be 8 0 ++ be 8 n)).map u8 := by
  have hzl : (z.map u8).length = s := by simp [hz]
  have hb : ((be 8 0).map u8).length = 8 := by simp [be_length]
  have e1 : L.take s = z.map u8 := by rw [hL]; exact List.take_left' hzl
  have e2 : L.drop (s + 8) = List.replicate 8 (Value.int .u8 0) := by rw [hL, ← List.drop_drop, List.drop_left' hzl, List.drop_replicate]
  have e3 : x5.take (s + 8) = z.map u8 ++ (be 8 0).map u8 := by rw [h5, e1]; exact List.take_left' (by rw [List.length_append, hzl, hb])
  have e4 : x5.drop (s + 8 + 8) = [] := by
    apply List.drop_of_length_le
    rw [h5, e1, e2]; simp only [List.length_append, hzl, hb, List.length_replicate]; omega
  rw [h6, e3, e4, List.append_nil, List.map_append, List.map_append, List.append_assoc]

section
variable {w : World} {I : Ids} {L : Lg} {C : List (List UInt8)} {sz : Nat}

/-- A row of none of a log's own types stays. -/
theorem LogAt.keepRow {w' : World} (h : LogAt w I L) (hfr : Fr (LK I) w w') {E b : Nat} {c : Array Value} {f : Nat × Nat} (h1 : E ≠ 83) (h2 : E ≠ 41) (h3 : E ≠ 132) (hc : w.heap[b]? = some (.cells c E f)) : w'.heap[b]? = some (.cells c E f) := by
  obtain ⟨c1, f1, hd⟩ := h.disk.cell
  obtain ⟨c2, f2, hs⟩ := h.disk.own
  obtain ⟨kvs, hm⟩ := h.disk.map
  exact hfr.keep _ _ hc ⟨ne_of_types hc hd h1, ne_of_types hc hs h2, fun e => hm.ne_cells hc e.symm, ne_of_types hc h.log h3, fun e => h.map.ne_cells hc e.symm⟩

/-- A new row, as the walk lays it. -/
theorem made_row (w : World) (S : Nat) : (w.alloc (.cells (madeCells #[.int .u8 0] S) 5)).heap[w.heap.size]? = some (.cells (List.replicate S (Value.int .u8 0)).toArray 5 (0, 0)) := by
  rw [heap_alloc_new]
  congr 2
  apply Array.toList_inj.1
  rw [toList_madeCells_one]

theorem lay_undone {w' : World} {D : Dk} {t nx a ct : Nat} {at_ : Nat} (h3 : LogAt w I ⟨D, t, nx, a, ct, []⟩) (hm8 : MapAt w' 3 I.bu (kput (u64s []) (.int .i64 at_) (.int .u64 0))) (hg8 : w.grownBy w' (some I.bu)) :
    LogAt w' I ⟨D, t, nx, a, ct, [(.int .i64 at_, 0)]⟩ ∧ Fr (fun k _ => k ≠ I.bu) w w' := by
  have hf8 : Fr (fun k _ => k ≠ I.bu) w w' := (Fr.refl _ w).grown hg8 (fun k o e _ h => h (Option.some.inj e).symm)
  have n := h3.nes
  exact ⟨⟨h3.disk.fr hf8 (fun _ _ => n.2.2.2.2.1.symm) (fun _ _ => n.2.2.2.2.2.1.symm) (fun _ _ => h3.ne) (fun k c f hc e => by subst e; exact h3.map.ne_cells hc rfl), hf8.keep _ _ h3.log n.2.2.2.1, hm8, h3.ne⟩, hf8⟩

set_option maxHeartbeats 1000000 in
set_option maxRecDepth 100000 in
theorem lay_any (h : LogAt w I L) (hok : L.Ok) (hw : L.D.Well C sz) (hu : L.undone = []) (next at_ : Nat) (b : List UInt8) {m T cap : Nat} {ao : Option Addr} (hm : b.length = m) (hT : T ≤ w.heap.size) (hb : Sl w T 5 1 ao m cap (b.map u8))
    (hx : next + 1 < 18446744073709551616) (h1 : 0 < m) (hl : m ≤ 140737488355328) (hfit : at_ + secsN sz m ≤ L.half) :
    Calls Tryz.prog 146 #[.pointer (some ⟨I.bl, 0, none⟩), .int .u64 0, .int .u64 next, .int .i64 at_, .slice ao m cap] w fun e w' =>
      e = .returned (.int .i64 0) ∧ ∃ D', LogAt w' I { L with D := D' } ∧ D'.Well (layTo C at_ (secsN sz m) (secB sz 0 next b) 0) sz ∧ L.D.like D' ∧ Fr (LK I) w w' := by
  subst hm
  obtain ⟨bb, offb, rfl, hbb, _⟩ := hb.at h1
  have hcap : b.length ≤ cap := hb.2.1
  have hcap2 : cap ≤ 9223372036854775807 := by have := hb.2.2.1; unfold maxLen at this; omega
  obtain ⟨D0, t0, nx0, a0, ct0, und⟩ := L
  simp only at hu hw
  subst hu
  obtain ⟨n, hn⟩ : ∃ n, n = secsN sz b.length := ⟨_, rfl⟩
  obtain ⟨s, hs⟩ : ∃ s, sz = s + 16 := ⟨sz - 16, by have h1 := hok.s128; have h2 := hw.size; simp only at h1; omega⟩
  have hs112 : 112 ≤ s ∧ sz ≤ 4096 := by have := hok.s128; have := hok.disk.s2; have := hw.size; simp only at *; omega
  have hsec : Lg.sectors ⟨D0, t0, nx0, a0, ct0, []⟩ b.length = n := by rw [hn]; simp only [Lg.sectors, Lg.size, secsN]; rw [hw.size]
  have hn0 : 0 < n := by rw [hn]; exact secsN_pos _ _ h1
  have hnl : n ≤ 2048 := by have := hok.half; rw [← hn] at hfit; omega
  have hfit' : at_ + n ≤ C.length / 2 := by rw [hn]; have := hw.len; unfold Lg.half at hfit; simp only at hfit; rw [this]; exact hfit
  have hCl : C.length ≤ 4096 := by rw [hw.len]; exact hok.disk.n2
  have HUN : Calls Tryz.prog 198 #[.pointer (some ⟨I.bl, 0, none⟩)] w fun e w' => e = .returned (.int .i64 0) ∧ LogAt w' I ⟨D0, t0, nx0, a0, ct0, []⟩ ∧ Fr (LK I) w w' := by
    have := undo_any h hok
    rw [show Lg.undo ⟨D0, t0, nx0, a0, ct0, []⟩ = (0, ⟨D0, t0, nx0, a0, ct0, []⟩) from by simp [Lg.undo]] at this
    exact this
  have HHF := Lib.hid (half_any h hok)
  have HUN := Lib.hid HUN
  have HSC := fun w' (h' : LogAt w' I ⟨D0, t0, nx0, a0, ct0, []⟩) => sectors_any h' hok b.length hl
  have HSC := Lib.hid HSC
  have HALL := Lib.hid (And.intro h (And.intro hok (And.intro hw (And.intro hs (And.intro hn (And.intro hsec (And.intro hfit hb)))))))
  have hbd : at_ ≤ 2048 := by omega
  clear h hok hw hs hsec hfit hb hn
  go_enter Tryz.func146, Tryz.ntmps146
  go_wp2_with fail
  refine HHF.out.mono ?_
  rintro e w1 ⟨rfl, rfl⟩
  go_wp2_with fail
  refine HUN.out.mono ?_
  rintro e w1 ⟨rfl, hl1, hf1⟩
  have HL1 := Lib.hid (And.intro hl1 hf1)
  clear hl1 hf1
  go_wp2_with fail
  refine (HSC.out _ HL1.out.1).mono ?_
  rintro e w2 ⟨rfl, hf2⟩
  rw [HALL.out.2.2.2.2.2.1]
  have HL2 := Lib.hid (And.intro (HL1.out.1.fra hf2) (HL1.out.2.trans (hf2.mono fun _ _ _ => trivial)))
  clear hf2
  go_wp2_with fail
  go_loopw [13] (fun iv wr => ∃ (k : Nat) (i : Int) (D : Dk), i = (k : Int) - 1 ∧ iv = .int .i64 i ∧ k ≤ n ∧ LogAt wr I ⟨D, t0, nx0, a0, ct0, if k = 0 then [(.int .i64 at_, 0)] else []⟩ ∧ D.Well (layTo C at_ n (secB sz 0 next b) k) sz ∧ D0.like D ∧ Fr (LK I) w wr) (fun iv _ => (intOf iv + 1).toNat)
  case atStart => exact ⟨n, _, D0, rfl, rfl, Nat.le_refl _, by rw [if_neg (by omega)]; exact HL2.out.1, by rw [layTo_none]; exact HALL.out.2.2.1, ⟨HALL.out.2.1.disk, rfl, rfl⟩, HL2.out.2⟩
  case round =>
    obtain ⟨k, i, D, hi, rfl, hk, hlog, hwell, hlike, hfr⟩ := hrel
    cases k with
    | zero =>
      obtain rfl : i = -1 := by omega
      rw [if_pos rfl] at hlog
      have c0 : wr.cell? ⟨I.bl, 0, none⟩ = some (.pointer (some ⟨I.d, 0, none⟩)) := cell_of_heap hlog.log 0
      have hF := hwell.flush
      have HFL := Lib.hid (show Calls Tryz.prog 200 #[.pointer (some ⟨I.d, 0, none⟩)] wr fun e w' => e = .returned (.int .i64 0) ∧ LogAt w' I ⟨D.flush.2, t0, nx0, a0, ct0, [(.int .i64 at_, 0)]⟩ ∧ Fr (DK I.d I.bs I.bm) wr w' from by
        have := Flush_any hlog.disk hwell.ok
        simp only at this
        rw [hF.1] at this
        exact this.mono fun e w' ⟨h1, h2, h3⟩ => ⟨h1, hlog.disked h3 h2, h3⟩)
      have HR := Lib.hid (And.intro hF.2 (And.intro (hlike.trans hwell.ok.flush_like) hfr))
      clear hF hlog hwell hlike hfr hi
      go_wp2_with fail
      refine HFL.out.mono ?_
      rintro e w7 ⟨rfl, hl7, hf7⟩
      have k70 : w7.cell? ⟨I.bl, 0, none⟩ = some (.pointer (some ⟨I.d, 0, none⟩)) := cell_of_heap hl7.log 0
      have k75 : w7.cell? ⟨I.bl, 5, none⟩ = some (.map (some I.bu)) := cell_of_heap hl7.log 5
      obtain ⟨w8, hrc, hm8, hg8⟩ := hl7.map.run_clear umapUndone 0
      have hf8 : Fr (fun k _ => k ≠ I.bu) w7 w8 := (Fr.refl _ w7).grown hg8 (fun k o e _ h => h (Option.some.inj e).symm)
      have hl8 : LogAt w8 I ⟨D.flush.2, t0, nx0, a0, ct0, []⟩ := by
        have n := hl7.nes
        exact ⟨hl7.disk.fr hf8 (fun _ _ => n.2.2.2.2.1.symm) (fun _ _ => n.2.2.2.2.2.1.symm) (fun _ _ => hl7.ne) (fun k c f hc e => by subst e; exact hl7.map.ne_cells hc rfl), hf8.keep _ _ hl7.log n.2.2.2.1, hm8, hl7.ne⟩
      have HL8 := Lib.hid (And.intro hl8 ((hf7.mono fun _ _ h => ⟨h.1, h.2.1, h.2.2.1⟩ : Fr (LK I) wr w7).trans (hf8.mono fun _ _ h => h.2.2.2.2)))
      clear hl7 hf7 hm8 hg8 hf8 hl8
      go_wp2
      go_ret
      exact ⟨rfl, D.flush.2, HL8.out.1, by rw [← HALL.out.2.2.2.2.1]; exact HR.out.1, HR.out.2.1, HR.out.2.2.trans HL8.out.2⟩
    | succ j =>
      obtain rfl : i = (j : Int) := by omega
      rw [if_neg (by omega)] at hlog
      obtain ⟨C1, hC1⟩ : ∃ C1, C1 = layTo C at_ n (secB sz 0 next b) (j + 1) := ⟨_, rfl⟩
      rw [← hC1] at hwell
      have hC1l : C1.length = C.length := by rw [hC1, layTo_length]
      have c0 : wr.cell? ⟨I.bl, 0, none⟩ = some (.pointer (some ⟨I.d, 0, none⟩)) := cell_of_heap hlog.log 0
      have c5 : wr.cell? ⟨I.bl, 5, none⟩ = some (.map (some I.bu)) := cell_of_heap hlog.log 5
      have hok1 := (HALL.out.2.1).like (D := D) hlike
      have hS : Lg.size ⟨D, t0, nx0, a0, ct0, []⟩ = s := by unfold Lg.size; simp only; rw [hwell.size, HALL.out.2.2.2.1]; omega
      have HSZ : ∀ w', LogAt w' I ⟨D, t0, nx0, a0, ct0, []⟩ → Calls Tryz.prog 60 #[.pointer (some ⟨I.d, 0, none⟩)] w' fun e w'' => e = .returned (.int .i64 sz) ∧ w' = w'' := fun w' h' => by
        have := Size_any h'.disk hok1.disk.n1
        simp only at this
        rw [hwell.size] at this; exact this
      have HSS : ∀ w', LogAt w' I ⟨D, t0, nx0, a0, ct0, []⟩ → Calls Tryz.prog 125 #[.pointer (some ⟨I.bl, 0, none⟩)] w' fun e w'' => e = .returned (.int .i64 s) ∧ w' = w'' := fun w' h' => by
        have := size_any h' hok1
        rw [hS] at this; exact this
      have hmk := run_makeBytes wr sz (by omega)
      have hjs : j * s < b.length := by
        have h2 := HALL.out.2.2.2.2.1
        rw [HALL.out.2.2.2.1] at h2
        unfold secsN at h2
        rw [Nat.add_sub_cancel] at h2
        have h3 := Nat.div_add_mod b.length s
        by_cases e : b.length % s = 0
        · have h4 : j < b.length / s := by rw [e] at h2; omega
          have := Nat.mul_le_mul_left s h4
          rw [Nat.mul_comm j s]
          rw [Nat.succ_eq_add_one, Nat.mul_add] at this
          omega
        · have h4 : j ≤ b.length / s := by omega
          have := Nat.mul_le_mul_left s h4
          rw [Nat.mul_comm j s]
          omega
      obtain ⟨P, hP⟩ : ∃ P, P = j * s := ⟨_, rfl⟩
      rw [← hP] at hjs
      have hPi : (j : Int) * (s : Int) = (P : Int) := by rw [hP, Int.natCast_mul]
      have hPb : P ≤ 140737488355328 := by omega
      have hPw : IntKind.i64.wrap (P : Int) = (P : Int) := wrap_small (by omega) (by omega)
      have hPl : (P : Int) ≤ (b.length : Int) := by omega
      have hPc : ¬ cap = P := by omega
      have HZ := Lib.hid HSZ
      have HS' := Lib.hid HSS
      have HR := Lib.hid (And.intro hlog (And.intro hwell (And.intro hlike (And.intro hfr (And.intro hC1 (And.intro hok1 (And.intro hS hP)))))))
      clear hP hlog hwell hlike hfr hC1 hok1 hS HSZ HSS hi
      go_wp2_with fail
      refine (HZ.out _ HR.out.1).mono ?_
      rintro e w3 ⟨rfl, rfl⟩
      go_wp2_with fail
      have hb2 : Sl ((wr.alloc (.cells (madeCells #[.int .u8 0] sz) 5)).drew) T 5 1 (some ⟨bb, offb, none⟩) b.length cap (b.map u8) :=
        (HALL.out.2.2.2.2.2.2.2.keep fun q c f _ hc => heap_alloc_keep (HALL.out.1.keepRow HR.out.2.2.2.1 (by decide) (by decide) (by decide) hc) _)
      have hcut : Sl ((wr.alloc (.cells (madeCells #[.int .u8 0] sz) 5)).drew) T 5 1 (some ⟨bb, offb + P, none⟩) (b.length - P) (cap - P) ((b.drop P).map u8) := by
        have := hb2.cut P b.length (by omega) (Nat.le_refl _)
        rw [if_neg hPc, Nat.mul_one, List.take_of_length_le (by simp), Option.map_some, show Addr.add ⟨bb, offb, none⟩ P = ⟨bb, offb + P, none⟩ from by cases P <;> simp [Addr.add]] at this
        rw [List.map_drop]; exact this
      have hsz2 : s ≤ sz := by rw [HALL.out.2.2.2.1]; omega
      have hgrow := made_row wr sz
      have HCUT := Lib.hid (And.intro hcut hgrow)
      clear hb2 hcut hgrow
      go_region_law (first
        | (go_simp; go_at_call 125; refine (HS'.out _ (HR.out.1.alloc _).drew).mono ?_; rintro e w4 ⟨rfl, rfl⟩)
        | (refine step_copy8 rfl (.tmp 51) (.tmp 57) rfl rfl rfl _ _ HCUT.out.2 (b.drop P) HCUT.out.1 (by simpa using hsz2) ?_; intro w4 hg4 hf4 hz4))
      have hsz3 : (s : Int) + 8 ≤ (sz : Int) := by rw [HALL.out.2.2.2.1]; omega
      have hsz4 : ¬ sz = s := by rw [HALL.out.2.2.2.1]; omega
      have hsz5 : ¬ sz = s + 8 := by rw [HALL.out.2.2.2.1]; omega
      have hsz6 : sz - (s + 8) = 8 := by rw [HALL.out.2.2.2.1]; omega
      have hsz7 : sz - s = 16 := by rw [HALL.out.2.2.2.1]; omega
      have hfA4 : FrA wr w4 := fra_new (((Fr.refl _ wr).alloc _).drew) hf4 (Nat.le_refl _)
      have HL4 := Lib.hid (And.intro (HR.out.1.fra hfA4) hfA4)
      have hcl : (b.drop P).length = b.length - P := by simp
      have hcz : ((b.drop P).take s).length ≤ s := List.length_take_le _ _
      clear hf4 hfA4
      by_cases hj0 : j = 0
      rotate_left
      have hjt : ((j : Int) == 0) = false := by simp [hj0]
      have HX : Hid (∃ (Dx : Dk) (und : List (Lit × Nat)) (x : Array Value), LogAt w4 I ⟨Dx, t0, nx0, a0, ct0, und⟩ ∧ w4.heap[wr.heap.size]? = some (.cells x 5 (0, 0)) ∧ Fr (LK I) wr w4 ∧ x.toList = (secB sz 0 next b j).map u8 ∧ Dx.Well C1 sz ∧ D0.like Dx ∧ und = if j = 0 then [(.int .i64 at_, 0)] else []) := by
        refine Lib.hid ⟨_, _, _, HL4.out.1, hg4, HL4.out.2.mono fun _ _ _ => trivial, ?_, HR.out.2.1, HR.out.2.2.1, by rw [if_neg hj0]⟩
        have e1 : sz - 16 = s := by rw [HALL.out.2.2.2.1]; omega
        rw [secB, if_neg hj0, e1, ← HR.out.2.2.2.2.2.2.2, List.map_append, List.map_replicate]
        have := zpad_take s (List.drop P b)
        rw [← HALL.out.2.2.2.1] at this
        exact this
      obtain ⟨wx, rfl⟩ : ∃ wx, wx = w4 := ⟨_, rfl⟩
      have kx : wx.cell? ⟨I.bl, 0, none⟩ = some (.pointer (some ⟨I.d, 0, none⟩)) := cell_of_heap HL4.out.1.log 0
      clear hj0 HL4 hg4
      go_wp2_with fail
      rotate_left
      have hjt : ((j : Int) == 0) = true := by simp [hj0]
      have HJ := Lib.hid hj0
      clear hj0
      go_wp2_with (go_at_call 125; refine (HS'.out _ HL4.out.1).mono ?_; rintro e w5 ⟨rfl, rfl⟩)
      refine (put_any _ wr.heap.size s _ _ 0 _ 5 ?q1 hg4 ?q2 ?q3).mono ?_
      case q1 => omega
      case q2 => simp; omega
      case q3 => omega
      rintro e w5 ⟨rfl, hf5, hz5, x5, h5, hx5⟩
      have hx5l : x5.size = sz := by
        rw [← Array.length_toList, hx5]
        simp [be_length]
        omega
      have hfA5 : FrA wr w5 := fra_new HL4.out.2 hf5 (Nat.le_refl _)
      have HL5 := Lib.hid (And.intro (HR.out.1.fra hfA5) (And.intro hfA5 hx5))
      clear hx5 hf5 hfA5
      go_wp2_with (go_at_call 125; refine (HS'.out _ HL5.out.1).mono ?_; rintro e w6 ⟨rfl, rfl⟩)
      refine (put_any _ wr.heap.size (s + 8) _ _ (next + 1) _ 5 ?q1 h5 ?q2 ?q3).mono ?_
      case q1 => omega
      case q2 => omega
      case q3 => omega
      rintro e w6 ⟨rfl, hf6, hz6, x6, h6, hx6⟩
      have hfA6 : FrA wr w6 := fra_new HL5.out.2.1 hf6 (Nat.le_refl _)
      have HL6 := Lib.hid (And.intro (HR.out.1.fra hfA6) (And.intro hfA6 hx6))
      clear hx6 hf6 hfA6
      have k60 : w6.cell? ⟨I.bl, 0, none⟩ = some (.pointer (some ⟨I.d, 0, none⟩)) := cell_of_heap HL6.out.1.log 0
      have hF := HR.out.2.1.flush
      have HFL := Lib.hid (show Calls Tryz.prog 200 #[.pointer (some ⟨I.d, 0, none⟩)] w6 fun e w' => e = .returned (.int .i64 0) ∧ LogAt w' I ⟨D.flush.2, t0, nx0, a0, ct0, []⟩ ∧ Fr (DK I.d I.bs I.bm) w6 w' from by
        have := Flush_any HL6.out.1.disk HR.out.2.1.ok
        simp only at this
        rw [hF.1] at this
        exact this.mono fun e w' ⟨h1, h2, h3⟩ => ⟨h1, HL6.out.1.disked h3 h2, h3⟩)
      have HF := Lib.hid hF
      clear hF
      go_wp2_with fail
      refine HFL.out.mono ?_
      rintro e w7 ⟨rfl, hl7, hf7⟩
      have k70 : w7.cell? ⟨I.bl, 0, none⟩ = some (.pointer (some ⟨I.d, 0, none⟩)) := cell_of_heap hl7.log 0
      have k75 : w7.cell? ⟨I.bl, 5, none⟩ = some (.map (some I.bu)) := cell_of_heap hl7.log 5
      have hm7 := hl7.map
      have hkey := int_key (at_ : Int) (by omega) (by omega)
      have HL7 := Lib.hid (And.intro hl7 hf7)
      clear hl7 hf7
      have hrow : w7.heap[wr.heap.size]? = some (.cells x6 5 (0, 0)) := HL6.out.1.keepRow (HL7.out.2.mono fun _ _ h => ⟨h.1, h.2.1, h.2.2.1⟩) (by decide) (by decide) (by decide) h6
      go_wp2_with (refine map_put rfl _ _ _ rfl int_keys umapUndone rfl hm7 (by simp [u64s, maxLen]) rfl rfl hkey ?_; intro wx hm8 hg8; obtain ⟨hl8, hf8⟩ := lay_undone HL7.out.1 hm8 hg8; have kx : wx.cell? ⟨I.bl, 0, none⟩ = some (.pointer (some ⟨I.d, 0, none⟩)) := cell_of_heap hl8.log 0)
      have hrowx : wx.heap[wr.heap.size]? = some (.cells x6 5 (0, 0)) := hf8.keep _ _ hrow (fun e => HL7.out.1.map.ne_cells hrow e.symm)
      have hfr8 : Fr (LK I) wr wx := (HL6.out.2.1.mono fun _ _ _ => trivial).trans ((HL7.out.2.mono fun _ _ h => ⟨h.1, h.2.1, h.2.2.1⟩).trans (hf8.mono fun _ _ h => h.2.2.2.2))
      have hxs : x6.toList = (secB sz 0 next b j).map u8 := by
        have e1 : sz - 16 = s := by rw [HALL.out.2.2.2.1]; omega
        rw [secB, if_pos HJ.out, e1, ← HR.out.2.2.2.2.2.2.2]
        refine sec_first (s := s) ?_ (L := List.map u8 (List.take s (List.drop P b)) ++ List.drop (min s (List.drop P b).length) (List.replicate sz (Value.int .u8 0))) ?_ (x5 := x5.toList) ?_ ?_
        · unfold zpad; rw [List.length_append, List.length_replicate]; omega
        · have := HALL.out.2.2.2.1
          rw [this]; exact zpad_take s _
        · have := HL5.out.2.2
          simpa using this
        · have := HL6.out.2.2
          simpa using this
      have HX : Hid (∃ (Dx : Dk) (und : List (Lit × Nat)) (x : Array Value), LogAt wx I ⟨Dx, t0, nx0, a0, ct0, und⟩ ∧ wx.heap[wr.heap.size]? = some (.cells x 5 (0, 0)) ∧ Fr (LK I) wr wx ∧ x.toList = (secB sz 0 next b j).map u8 ∧ Dx.Well C1 sz ∧ D0.like Dx ∧ und = if j = 0 then [(.int .i64 at_, 0)] else []) :=
        Lib.hid ⟨_, _, _, hl8, hrowx, hfr8, hxs, HF.out.2, HR.out.2.2.1.trans (by have := HR.out.2.1.ok.flush_like; exact this), by rw [if_pos HJ.out]⟩
      clear hl8 hrowx hfr8 hxs hf8 hrow hm8 hg8 hm7 k60 k70 k75 HL7 HFL HF HL6 HL5 h5 h6 hz5 hz6 hx5l hjt HJ
      all_goals
        obtain ⟨Dx, und, x, hlx, hrx, hfx, hxx, hwx, hkx, hux⟩ := HX.out
        have hxr : Sl wx wx.heap.size 5 1 (some ⟨wr.heap.size, 0, none⟩) sz sz ((secB sz 0 next b j).map u8) :=
          ⟨by rw [List.length_map, secB_length _ _ _ _ _ (by omega)]; omega, Nat.le_refl _, by unfold maxLen; omega, by simp, .inr ⟨_, 0, x, _, rfl, lt_of_heap hrx, hrx, fun q _ => by rw [← hxx]; simp⟩⟩
        have hWl : at_ + j < C1.length := by rw [hC1l]; omega
        have hW2 := hwx.write hWl (b := secB sz 0 next b j) (secB_length _ _ _ _ _ (by omega))
        have HWR := Lib.hid (show Calls Tryz.prog 201 #[.pointer (some ⟨I.d, 0, none⟩), .int .i64 ((at_ : Int) + (j : Int)), .slice (some ⟨wr.heap.size, 0, none⟩) sz sz] wx fun e w' =>
            e = .returned (.int .i64 0) ∧ LogAt w' I ⟨(Dx.write ((at_ + j : Nat) : Int) (secB sz 0 next b j)).2, t0, nx0, a0, ct0, und⟩ ∧ Fr (LK I) wx w' from by
          have := Write_any hlx.disk hwx.ok ((at_ + j : Nat) : Int) (secB sz 0 next b j) (secB_length _ _ _ _ _ (by omega)) (Nat.le_refl _) hxr (by omega)
          rw [hW2.1] at this
          rw [show ((at_ + j : Nat) : Int) = (at_ : Int) + (j : Int) by omega] at this ⊢
          exact this.mono fun e w' ⟨h1, h2, h3⟩ => ⟨h1, hlx.disked h3 h2, h3.mono fun _ _ h => ⟨h.1, h.2.1, h.2.2.1⟩⟩)
        have HX := Lib.hid (And.intro hfx (And.intro hW2.2 (And.intro (hkx.trans (hwx.ok.write_like ((at_ + j : Nat) : Int) (secB sz 0 next b j))) hux)))
        clear hlx hfx hwx hkx hux hrx hxx hxr hW2
        refine HWR.out.mono ?_
        rintro e w9 ⟨rfl, hl9, hf9⟩
        have HL9 := Lib.hid (And.intro hl9 hf9)
        clear hl9 hf9
        go_wp2
        go_roundw
        case rel =>
          refine ⟨j, (j : Int) - 1, _, rfl, rfl, by omega, ?_, ?_, HX.out.2.2.1, ?_⟩
          · rw [← HX.out.2.2.2]; exact HL9.out.1
          · have := HX.out.2.1
            rw [HR.out.2.2.2.2.1, layTo_step _ _ _ _ _ (by omega) (by omega)] at this
            exact this
          · exact HR.out.2.2.2.1.trans (HX.out.1.trans HL9.out.2)
        case measure => simp [intOf]

end
end Go.Proofs.YtbhjdddiihfafaaGreatDoor
