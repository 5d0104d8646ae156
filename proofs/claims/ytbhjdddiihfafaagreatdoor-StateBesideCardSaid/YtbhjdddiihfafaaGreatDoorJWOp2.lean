/- Package wal: 'Open', of a log that was never reset, on a disk that never fails. -/
import Derived.Test.YtbhjdddiihfafaaGreatDoorJWOpen
set_option linter.unusedVariables false
set_option linter.unusedSimpArgs false
namespace Go.Proofs.YtbhjdddiihfafaaGreatDoor
open Go.RowKit Go.Maps

section
variable {w : World} {I : Ids} {L : Lg} {C : List (List UInt8)} {sz : Nat}

/-- The loop of 'Open': so many frames have been read. -/
def OpLoop (w wr : World) (I : Ids) (D : Dk) (C : List (List UInt8)) (sz : Nat) (fs : List (List (List UInt8))) (a : Nat) (outv : Value) : Prop :=
  ∃ (done rest : List (List (List UInt8))) (vs : List Value) (ak n dl : Nat), fs = done ++ rest ∧ n = done.flatten.length ∧ dl = done.length ∧ LogAt wr I ⟨D, 0, dl, ak, n, []⟩ ∧ Chain C sz (C.length / 2) 0 0 ak dl rest a ∧
    n ≤ 4096 * ak ∧ dl ≤ ak ∧ wr.ownsRow w.heap.size 41 1 outv n vs ∧ Recs wr wr.heap.size vs done.flatten ∧ FrA w wr ∧
    wr.heap[w.heap.size + 1 + 1]? = some (.cells #[.pointer (some ⟨I.bl, 0, none⟩)] 68 (0, 0))

theorem Recs.grow {T T' : Nat} {vs : List Value} {rs : List (List UInt8)} (h : Recs w T vs rs) (hT : T ≤ T') : Recs w T' vs rs :=
  All2.mono h fun _ _ _ _ ⟨a1, c1, e1, s1⟩ => ⟨a1, c1, e1, s1.mono hT⟩

theorem own_block {B E size n k : Nat} {v : Value} {xs : List Value} (h : w.ownsRow B E size v n xs) (e : v.ownBlock = some k) : B ≤ k ∧ ∃ c, w.heap[k]? = some (.cells c E (0, 0)) := by
  obtain ⟨_, h2⟩ := h
  rcases h2 with ⟨rfl, _⟩ | ⟨g, cap, cur, rfl, hg, hh, _⟩
  · cases e
  · have : g = k := by simpa [Value.ownBlock] using e
    subst this
    exact ⟨hg, _, hh⟩

/-- A row of byte slices grows that is not the disk's. -/
theorem LogAt.grownOut {w' : World} {B n : Nat} {v : Value} {xs : List Value} (h : LogAt w I L) (hown : w.ownsRow B 41 1 v n xs) (hB : I.bs < B) (hgr : w.grownBy w' v.ownBlock) : LogAt w' I L := by
  have hf : Fr (fun k _ => v.ownBlock ≠ some k) w w' := (Fr.refl _ w).grown hgr (fun k o e _ h => h e)
  refine h.fr hf (fun k o hk ho e => ?_) (fun k c f hc e => ?_)
  · obtain ⟨hBk, c, hc⟩ := own_block hown e
    rw [hc] at ho
    obtain ⟨n1, n2, n3, n4, n5, n6, n7⟩ := h.nes
    obtain ⟨c1, f1, hd⟩ := h.disk.cell
    obtain ⟨kvs, hm⟩ := h.disk.map
    rcases hk with rfl | rfl | rfl | rfl | rfl
    · exact ne_of_types hc hd (by decide) rfl
    · omega
    · exact hm.ne_cells hc rfl
    · exact ne_of_types hc h.log (by decide) rfl
    · exact h.map.ne_cells hc rfl
  · obtain ⟨hBk, c', hc'⟩ := own_block hown e
    exact ne_of_types hc hc' (by decide) rfl

def nextOf (w : World) (bl : Nat) : Nat := match w.cell? ⟨bl, 2, none⟩ with | some (.int _ n) => n.toNat | _ => 0

/-- Behind a success: what the call's callee did, as the caller's world sees it. -/
theorem fra_boxes {w a b c : World} {p q : Nat} (h : FrA w a) (h1 : Fr (fun k _ => k ≠ p ∧ k ≠ q) a b) (hp : w.heap.size ≤ p) (hq : w.heap.size ≤ q) {p' q' : Nat} (h2 : Fr (fun k _ => k ≠ p' ∧ k ≠ q') b c) (hp' : w.heap.size ≤ p') (hq' : w.heap.size ≤ q') : FrA w c :=
  ⟨h2.os.trans (h1.os.trans h.os), h2.tape.trans (h1.tape.trans h.tape), h2.output.trans (h1.output.trans h.output), Nat.le_trans h.size (Nat.le_trans h1.size h2.size), fun k o ho _ => by
    have hl := lt_of_heap ho
    exact h2.keep _ _ (h1.keep _ _ (h.keep _ _ ho trivial) ⟨by omega, by omega⟩) ⟨by omega, by omega⟩⟩

set_option maxHeartbeats 2000000 in
set_option maxRecDepth 100000 in
theorem wOpen_any {d bs bm a : Nat} {D : Dk} {fs : List (List (List UInt8))} (hd : DiskAt w d bs bm D) (hw : D.Well C sz) (hinv : LogInv C sz fs a) :
    Calls Tryz.prog 22 #[.pointer (some ⟨d, 0, none⟩)] w fun e w' => ∃ bl bu v vs, e = .returned (.tuple #[.pointer (some ⟨bl, 0, none⟩), v, .int .i64 0]) ∧
      LogAt w' ⟨d, bs, bm, bl, bu⟩ ⟨D, 0, fs.length, a, fs.flatten.length, []⟩ ∧ w'.ownsRow w.heap.size 41 1 v fs.flatten.length vs ∧ Recs w' w'.heap.size vs fs.flatten ∧ FrA w w' ∧ w.heap.size ≤ bl ∧ w.heap.size ≤ bu := by
  have hmm := @run_makeMap Tryz.prog
  have hmf : ∀ (fn : Fn) (first cap : Array Value) (w : World), (Instr.makeFunc fn first cap).run Tryz.prog w = .ok (.func fn first cap) w := fun _ _ _ _ => rfl
  have hCl := hw.len
  have hn16 : (16 : Int) ≤ (D.sure.length : Int) := by have := hinv.n1; omega
  have hs128 : (128 : Int) ≤ (sz : Int) := by have := hinv.s1; omega
  have HSE := Lib.hid (Sectors_any hd)
  have HSI := Lib.hid (show Calls Tryz.prog 60 #[.pointer (some ⟨d, 0, none⟩)] w fun e w' => e = .returned (.int .i64 sz) ∧ w = w' from by have := Size_any hd hw.ok.n1; rw [hw.size] at this; exact this)
  have hok : ∀ nx ak ct, nx ≤ ak → ak ≤ C.length / 2 → ct ≤ 4096 * ak → Lg.Ok ⟨D, 0, nx, ak, ct, []⟩ := fun nx ak ct h1 h2 h3 =>
    ⟨hw.ok, by rw [← hCl]; exact hinv.n1, by rw [hw.size]; exact hinv.s1, by simp, h1, by unfold Lg.half; simp only; rw [← hCl]; exact h2, h3, by simp, by simp⟩
  have hB0 : BegOk C sz (C.length / 2) 0 := by
    cases h : openF C sz (C.length / 2) 0 0 0 with
    | none => exact .inl h
    | some r =>
      obtain ⟨t, rs, m⟩ := r
      have := hinv.first h
      subst this
      exact .inr ⟨rfl, rs, m, h⟩
  have hB1 : BegOk C sz (C.length / 2) 1 := .inl hinv.other
  have HALL := Lib.hid (And.intro hd (And.intro hw (And.intro hinv (And.intro hok (And.intro hB0 (And.intro hB1 hCl))))))
  clear hd hw hinv hok hB0 hB1 hCl
  go_enter Tryz.func22, Tryz.ntmps22
  go_wp2_with (first | (go_at_call 59; (with_reducible refine HSE.out.mono ?_); rintro e w1 ⟨rfl, rfl⟩) | (go_at_call 60; (with_reducible refine HSI.out.mono ?_); rintro e w1 ⟨rfl, rfl⟩))
  -- the log, laid; its box; 'begin'
  obtain ⟨W3, hW3⟩ : ∃ W3, ((w.alloc (.map #[] 0)).alloc (.cells #[.pointer (some ⟨d, 0, none⟩), .int .u64 0, .int .u64 0, .int .i64 0, .int .i64 0, .map (some w.heap.size)] 132)).alloc (.cells #[.pointer (some ⟨w.heap.size + 1, 0, none⟩)] 68) = W3 := ⟨_, rfl⟩
  rw [hW3]
  have hf3 : FrA w W3 := by rw [← hW3]; exact (((Fr.refl _ w).alloc _).alloc _).alloc _
  have hz3 : W3.heap.size = w.heap.size + 3 := by rw [← hW3]; simp
  have hl3 : LogAt W3 ⟨d, bs, bm, w.heap.size + 1, w.heap.size⟩ ⟨D, 0, 0, 0, 0, []⟩ := by
    rw [← hW3]
    obtain ⟨kvs, hm⟩ := HALL.out.1.map
    have h1 := heap_alloc_new (w.alloc (.map #[] 0)) (.cells #[.pointer (some ⟨d, 0, none⟩), .int .u64 0, .int .u64 0, .int .i64 0, .int .i64 0, .map (some w.heap.size)] 132)
    refine ⟨HALL.out.1.fr ((((Fr.refl (fun _ _ => True) w).alloc _).alloc _).alloc _) (fun _ _ => trivial) (fun _ _ => trivial) (fun _ _ => trivial) (fun _ _ _ _ => trivial), heap_alloc_keep (by simpa using h1) _, ((MapAt.made w _).alloc _).alloc _, ?_⟩
    have := hm.lt
    simp only; omega
  have hx3 : W3.heap[w.heap.size + 1 + 1]? = some (.cells #[.pointer (some ⟨w.heap.size + 1, 0, none⟩)] 68 (0, 0)) := by
    rw [← hW3]
    have := heap_alloc_new ((w.alloc (.map #[] 0)).alloc (.cells #[.pointer (some ⟨d, 0, none⟩), .int .u64 0, .int .u64 0, .int .i64 0, .int .i64 0, .map (some w.heap.size)] 132)) (.cells #[.pointer (some ⟨w.heap.size + 1, 0, none⟩)] 68)
    simpa using this
  have hhalf : Lg.half ⟨D, 0, 0, 0, 0, []⟩ = C.length / 2 := by unfold Lg.half; simp only; rw [HALL.out.2.2.2.2.2.2]
  have hBEG := Lib.hid (begin_any hl3 (HALL.out.2.2.2.1 0 0 0 (by omega) (by omega) (by omega)) HALL.out.2.1 rfl (by rw [hhalf]; exact HALL.out.2.2.2.2.1) (by rw [hhalf]; exact HALL.out.2.2.2.2.2.1))
  have H3 := Lib.hid (And.intro hf3 (And.intro hl3 hx3))
  clear hW3 hf3 hl3 hx3 hhalf
  go_wp2_with fail
  refine hBEG.out.mono ?_
  rintro e W4 ⟨rfl, hf4⟩
  have HS := Lib.hid (show OpLoop w W4 ⟨d, bs, bm, w.heap.size + 1, w.heap.size⟩ D C sz fs a (.slice none 0 0) from
    ⟨[], fs, [], 0, 0, 0, rfl, rfl, rfl, H3.out.2.1.fra hf4, HALL.out.2.2.1.chain, by simp, by simp, World.ownsRow_nil _ _ _ _, ⟨rfl, by simp⟩, H3.out.1.trans hf4, hf4.keep _ _ H3.out.2.2 trivial⟩)
  clear hf4
  go_wp2_with fail
  go_loopw [7] (fun ov wr => OpLoop w wr ⟨d, bs, bm, w.heap.size + 1, w.heap.size⟩ D C sz fs a ov) (fun _ wr => fs.length - nextOf wr (w.heap.size + 1))
  case atStart => exact HS.out
  case round =>
    obtain ⟨done, rest, vs, ak, n, dl, hfs, hnn, hdl, hlog, hch, hct, hnx, hown, hrec, hfr, hbox⟩ := hrel
    obtain ⟨aov, capv, rfl⟩ := own_shape hown
    have hakz := hch.le HALL.out.2.2.1.s1
    have ha1 := HALL.out.2.2.1.a1
    have hok := HALL.out.2.2.2.1 dl ak n hnx (by omega) hct
    obtain ⟨W5, hW5⟩ : ∃ W5, (wr.alloc (.cells #[.slice none 0 0] 69)).alloc (.cells #[.int .i64 0] 3) = W5 := ⟨_, rfl⟩
    have hf5 : FrA wr W5 := by rw [← hW5]; exact ((Fr.refl _ wr).alloc _).alloc _
    have hz5 : W5.heap.size = wr.heap.size + 2 := by rw [← hW5]; simp
    have q8 : W5.heap[wr.heap.size]? = some (.cells #[.slice none 0 0] 69 (0, 0)) := by rw [← hW5]; exact heap_alloc_keep (heap_alloc_new _ _) _
    have q9 : W5.heap[wr.heap.size + 1]? = some (.cells #[.int .i64 0] 3 (0, 0)) := by rw [← hW5]; have := heap_alloc_new (wr.alloc (.cells #[.slice none 0 0] 69)) (.cells #[.int .i64 0] 3); simpa using this
    have hf6 : FrA W5 ((W5.alloc (.cells #[.bool false] 4)).alloc (.cells #[.int .i64 0] 26)) := ((Fr.refl _ W5).alloc _).alloc _
    have hhalf : Lg.half ⟨D, 0, dl, ak, n, []⟩ = C.length / 2 := by unfold Lg.half; simp only; rw [HALL.out.2.2.2.2.2.2]
    have hCLO := opClo_any (hlog.fra (hf5.trans hf6)) hok HALL.out.2.1 rfl (w.heap.size + 1 + 1) wr.heap.size (wr.heap.size + 1) (hf6.keep _ _ (hf5.keep _ _ hbox trivial) trivial) (hf6.keep _ _ q8 trivial) (hf6.keep _ _ q9 trivial)
    rw [hhalf] at hCLO
    simp only at hCLO
    have HR := Lib.hid (And.intro hlog (And.intro hown (And.intro hrec (And.intro hfr (And.intro hbox (And.intro hok hf5))))))
    have hz6 : ((W5.alloc (.cells #[.bool false] 4)).alloc (.cells #[.int .i64 0] 26)).heap.size = W5.heap.size + 2 := by simp
    cases rest with
    | nil =>
      obtain rfl : ak = a := hch
      have hfd : fs = done := by rw [hfs]; simp
      have hTRY : Hid (Calls Tryz.prog 62 #[.func (.func 63) #[] #[.pointer (some ⟨w.heap.size + 1 + 1, 0, none⟩), .pointer (some ⟨wr.heap.size, 0, none⟩), .pointer (some ⟨wr.heap.size + 1, 0, none⟩)]] W5 fun e w' => e = .returned (.tuple #[.bool false, .int .i64 0]) ∧ FrA wr w') := by
        have hpan : ∀ e w', OpClo ((W5.alloc (.cells #[.bool false] 4)).alloc (.cells #[.int .i64 0] 26)) wr.heap.size (wr.heap.size + 1) (openF C sz (C.length / 2) 0 ak dl) e w' → e = .panicked (wstop 0) ∧ FrA ((W5.alloc (.cells #[.bool false] 4)).alloc (.cells #[.int .i64 0] 26)) w' := by
          intro e w' hp
          cases h : openF C sz (C.length / 2) 0 ak dl with
          | none => rw [h] at hp; exact hp
          | some r =>
            obtain ⟨t, rs, m⟩ := r
            have ht := HALL.out.2.2.1.last (by rw [hfd, ← hdl]; exact h)
            rw [h] at hp
            cases t with
            | zero => exact absurd rfl ht
            | succ t => exact hp
        refine Lib.hid ((wtry_any W5 63 _ (fun _ => False) (fun n w' => FrA W5 w' ∧ n = 0) (fun args w => by kernel_rfl) ?_).mono ?_)
        · refine hCLO.mono ?_
          intro e w' hp
          obtain ⟨rfl, hfx⟩ := hpan e w' hp
          exact ⟨hfx.keep _ _ (heap_alloc_keep (heap_alloc_new _ _) _) trivial, hfx.keep _ _ (by have := heap_alloc_new (W5.alloc (.cells #[.bool false] 4)) (.cells #[.int .i64 0] 26); simpa using this) trivial, .inr ⟨0, rfl, hf6.trans hfx, rfl⟩⟩
        · rintro e w' (⟨_, w1, h, _⟩ | ⟨n, rfl, w1, ⟨hfa, rfl⟩, hfb⟩)
          · exact absurd h id
          · exact ⟨rfl, hf5.trans ⟨hfb.os.trans hfa.os, hfb.tape.trans hfa.tape, hfb.output.trans hfa.output, Nat.le_trans hfa.size hfb.size, fun q o ho _ => hfb.keep _ _ (hfa.keep _ _ ho trivial) (by have := lt_of_heap ho; omega)⟩⟩
      have HD := Lib.hid (And.intro hfd (And.intro hnn hdl))
      clear hlog hown hrec hfr hbox hok hf5 hf6 q8 q9 hCLO hfd hfs hhalf hct hnx hnn hdl
      go_wp2_with fail
      refine hTRY.out.mono ?_
      rintro e w6 ⟨rfl, hf⟩
      have kb : w6.cell? ⟨w.heap.size + 1 + 1, 0, none⟩ = some (.pointer (some ⟨w.heap.size + 1, 0, none⟩)) := cell_of_heap (hf.keep _ _ HR.out.2.2.2.2.1 trivial) 0
      have HF := Lib.hid hf
      clear hf hW5
      go_wp2
      go_ret3
      obtain ⟨hlog, hown, hrec, hfr, _⟩ := HR.out
      have hf := HF.out
      refine ⟨w.heap.size + 1, w.heap.size, _, vs, rfl, ?_, ?_, ?_, hfr.trans hf, by omega, Nat.le_refl _⟩
      · rw [HD.out.1, ← HD.out.2.1, ← HD.out.2.2]; exact hlog.fra hf
      · rw [HD.out.1, ← HD.out.2.1]; exact own_fr hown hf fun _ _ _ _ _ => trivial
      · rw [HD.out.1]; exact All2.mono (hrec.fr hf fun _ _ _ _ _ => trivial) fun _ _ _ _ ⟨a1, c1, e1, s1⟩ => ⟨a1, c1, e1, s1.mono hf.size⟩
    | cons rs rest =>
      obtain ⟨m, hm1, hm2, hm3⟩ := hch
      rw [hm1] at hCLO
      have hm4 := openF_local C C sz (C.length / 2) 0 ak dl _ HALL.out.2.2.1.s1 hm1 (fun _ _ _ => rfl)
      have hm5 : ak < m := hm4.2
      have hm6 := openF_count HALL.out.2.2.1.s1 HALL.out.2.2.1.s2 hm1
      have hTRY : Hid (Calls Tryz.prog 62 #[.func (.func 63) #[] #[.pointer (some ⟨w.heap.size + 1 + 1, 0, none⟩), .pointer (some ⟨wr.heap.size, 0, none⟩), .pointer (some ⟨wr.heap.size + 1, 0, none⟩)]] W5 fun e w' => e = .returned (.tuple #[.bool true, .int .i64 0]) ∧ FrA wr w' ∧
          ∃ v vs', w'.heap[wr.heap.size]? = some (.cells #[v] 69 (0, 0)) ∧ w'.heap[wr.heap.size + 1]? = some (.cells #[.int .i64 m] 3 (0, 0)) ∧ w'.ownsRow wr.heap.size 41 1 v rs.length vs' ∧ Recs w' w'.heap.size vs' rs) := by
        refine Lib.hid ((wtry_any W5 63 _ (fun w' => OpClo ((W5.alloc (.cells #[.bool false] 4)).alloc (.cells #[.int .i64 0] 26)) wr.heap.size (wr.heap.size + 1) (some (0, rs, m)) (.returned (.tuple #[])) w') (fun n w' => False) (fun args w => by kernel_rfl) ?_).mono ?_)
        · refine hCLO.mono ?_
          intro e w' hp
          have hp' := hp
          obtain ⟨rfl, v, vs', h8, h9, ho, hr, hfx⟩ := hp
          exact ⟨hfx.keep _ _ (heap_alloc_keep (heap_alloc_new _ _) _) ⟨by omega, by omega⟩, hfx.keep _ _ (by have := heap_alloc_new (W5.alloc (.cells #[.bool false] 4)) (.cells #[.int .i64 0] 26); simpa using this) ⟨by omega, by omega⟩, .inl ⟨rfl, hp'⟩⟩
        · rintro e w' (⟨rfl, w1, ⟨_, v, vs', h8, h9, ho, hr, hfx⟩, hfb⟩ | ⟨n, _, w1, h, _⟩)
          · have hw1 := hfx.size
            refine ⟨rfl, fra_boxes (hf5.trans hf6) hfx (Nat.le_refl _) (by omega) hfb (by omega) (by omega), v, vs', hfb.keep _ _ h8 ⟨by omega, by omega⟩, hfb.keep _ _ h9 ⟨by omega, by omega⟩, ?_, ?_⟩
            · exact own_mono (own_fr ho hfb fun g c f hg hc => by have := (ho.lt g hg).1; exact ⟨by omega, by omega⟩) (by omega)
            · refine All2.mono hr fun _ _ _ _ ⟨a1, c1, e1, s1⟩ => ⟨a1, c1, e1, (s1.keep fun q c f hq hc => hfb.keep _ _ hc ⟨?_, ?_⟩).mono hfb.size⟩
              · rintro rfl
                have := hfx.keep _ _ (show ((W5.alloc (.cells #[.bool false] 4)).alloc (.cells #[.int .i64 0] 26)).heap[W5.heap.size]? = some (.cells #[.bool false] 4 (0, 0)) from heap_alloc_keep (heap_alloc_new _ _) _) ⟨by omega, by omega⟩
                exact ne_of_types hc this (by decide) rfl
              · rintro rfl
                have := hfx.keep _ _ (show ((W5.alloc (.cells #[.bool false] 4)).alloc (.cells #[.int .i64 0] 26)).heap[W5.heap.size + 1]? = some (.cells #[.int .i64 0] 26 (0, 0)) from by have := heap_alloc_new (W5.alloc (.cells #[.bool false] 4)) (.cells #[.int .i64 0] 26); simpa using this) ⟨by omega, by omega⟩
                exact ne_of_types hc this (by decide) rfl
          · exact absurd h id
      have HBS := Lib.hid (show (⟨d, bs, bm, w.heap.size + 1, w.heap.size⟩ : Ids).bs < w.heap.size from by obtain ⟨c, f, hc⟩ := HALL.out.1.own; exact lt_of_heap hc)
      have hzz : w.heap.size + 3 ≤ wr.heap.size := by have h1 := lt_of_heap HR.out.2.2.2.2.1; omega
      have HQ := Lib.hid (And.intro hfs (And.intro hnn (And.intro hdl (And.intro hm1 (And.intro hm2 (And.intro hm3 (And.intro hct (And.intro hnx (And.intro hm6 hm5)))))))))
      have hmb : m ≤ 2048 := by have h1 := HALL.out.2.2.1.a1; have h2 := HALL.out.2.2.1.n2; omega
      have hnb : n ≤ 8388608 := by omega
      have hrb : rs.length ≤ 8388608 := by omega
      have hdb : dl ≤ 2048 := by omega
      clear hCLO hlog hown hrec hfr hbox hok hf5 hf6 q8 q9 hhalf hfs hnn hdl hm1 hm2 hm3 hm4 hct hnx hm6 hakz
      go_wp2_with fail
      refine hTRY.out.mono ?_
      rintro e w6 ⟨rfl, hf, v, vs', h8, h9, ho, hr⟩
      have hb6 := hf.keep _ _ HR.out.2.2.2.2.1 trivial
      have hl6 := HR.out.1.fra hf
      have hown6 := own_fr HR.out.2.1 hf (fun _ _ _ _ _ => trivial)
      obtain ⟨aor, capr, rfl⟩ := own_shape ho
      have kb : w6.cell? ⟨w.heap.size + 1 + 1, 0, none⟩ = some (.pointer (some ⟨w.heap.size + 1, 0, none⟩)) := cell_of_heap hb6 0
      have k8 : w6.cell? ⟨wr.heap.size, 0, none⟩ = some (.slice aor rs.length capr) := cell_of_heap h8 0
      have k9 : w6.cell? ⟨wr.heap.size + 1, 0, none⟩ = some (.int .i64 m) := cell_of_heap h9 0
      have hszw : w.heap.size ≤ w6.heap.size := by have h1 := HR.out.2.2.2.1.size; have h2 := hf.size; omega
      have hslr := Sl.of_own ho
      have HONE := Lib.hid (show ∀ u ∈ vs', u.oneCell' = true from fun u hu => by
        obtain ⟨i, hi⟩ := List.getElem?_of_mem hu
        obtain ⟨r, _, a1, c1, e1, _⟩ := All2.get' hr hi
        rw [e1]; rfl)
      have H6 := Lib.hid (And.intro hf (And.intro hl6 (And.intro hown6 (And.intro ho (And.intro hr (And.intro hb6 (And.intro h8 (And.intro h9 hslr))))))))
      clear hf hl6 hown6 ho hr hb6 h8 h9 hW5 hslr
      go_wp2_with (at_builtin; go_loud (refine app_sl elBytes rfl (.tmp 47) (.tmp 48) rfl w.heap.size _ n vs rfl H6.out.2.2.1 rfl H6.out.2.2.2.2.2.2.2.2 HONE.out (by omega) hszw ?_); intro v7 w7 hown7 hgr7; obtain ⟨ao7, cp7, rfl⟩ := own_shape hown7; go_loud (have hl7 := H6.out.2.1.grownOut H6.out.2.2.1 HBS.out hgr7); go_loud (have hb7 := grown_same hgr7 H6.out.2.2.2.2.2.1 (row_ne H6.out.2.2.1 H6.out.2.2.2.2.2.1 (by decide))); go_loud (have h87 := grown_same hgr7 H6.out.2.2.2.2.2.2.1 (row_ne H6.out.2.2.1 H6.out.2.2.2.2.2.2.1 (by decide))); go_loud (have h97 := grown_same hgr7 H6.out.2.2.2.2.2.2.2.1 (row_ne H6.out.2.2.1 H6.out.2.2.2.2.2.2.2.1 (by decide))); go_loud (have hlg := hl7.log); go_loud (have j5 : w7.cell? ⟨w.heap.size + 1 + 1, 0, none⟩ = some (.pointer (some ⟨w.heap.size + 1, 0, none⟩)) := cell_of_heap hb7 0); go_loud (have j8 : w7.cell? ⟨wr.heap.size, 0, none⟩ = some (.slice aor rs.length capr) := cell_of_heap h87 0); go_loud (have j9 : w7.cell? ⟨wr.heap.size + 1, 0, none⟩ = some (.int .i64 m) := cell_of_heap h97 0); go_loud (have m2 : w7.cell? ⟨w.heap.size + 1, 2, none⟩ = some (.int .u64 dl) := cell_of_heap hlg 2); go_loud (have m3 : w7.cell? ⟨w.heap.size + 1, 3, none⟩ = some (.int .i64 ak) := cell_of_heap hlg 3); go_loud (have m4 : w7.cell? ⟨w.heap.size + 1, 4, none⟩ = some (.int .i64 n) := cell_of_heap hlg 4); go_loud (have mf := free_of_heap hlg); go_loud (have mz2 : ¬ w.heap.size + 1 = wr.heap.size := by omega); go_loud (have mz3 : ¬ wr.heap.size = w.heap.size + 1 := by omega))
      have H7 := Lib.hid (And.intro hown7 (And.intro hgr7 (And.intro hl7 (And.intro hb7 (And.intro h87 h97)))))
      clear hown7 hgr7 hl7 hb7 h87 h97 hlg
      go_region
      go_wp2
      go_roundw
      case rel =>
        obtain ⟨hfs, hnn, hdl, hm1, hm2, hm3, hct, hnx, hm6, _⟩ := HQ.out
        obtain ⟨hown7, hgr7, hl7, hb7, h87, h97⟩ := H7.out
        have hF : Fr (fun k _ => k ≠ w.heap.size + 1) w7 ((((w7.setCell ⟨w.heap.size + 1, 3, none⟩ (.int .i64 m)).setCell ⟨w.heap.size + 1, 2, none⟩ (.int .u64 ((dl : Int) + 1))).setCell ⟨w.heap.size + 1, 4, none⟩ (.int .i64 ((n : Int) + (rs.length : Int)))).drew) :=
          ((((Fr.refl _ w7).setCell (fun _ _ h => h rfl) _).setCell (fun _ _ h => h rfl) _).setCell (fun _ _ h => h rfl) _).drew
        have hfa7 : FrA w w7 := (HR.out.2.2.2.1.trans H6.out.1).grownNew hgr7 (fun k e => (H6.out.2.2.1.lt k e).1)
        have hne8 : ∀ k c t f, w7.heap[k]? = some (.cells c t f) → t ≠ 132 → k ≠ w.heap.size + 1 := fun k c t f hc ht => ne_of_types hc hl7.log ht
        refine ⟨done ++ [rs], rest, vs ++ vs', m, n + rs.length, dl + 1, by rw [hfs]; simp, by rw [hnn]; simp, by rw [hdl]; simp, ?_, hm3, by omega, by omega, ?_, ?_, ?_, ?_⟩
        · refine hl7.relog hF rfl rfl ?_
          have g1 := heap_set (heap_set (heap_set hl7.log 3 (.int .i64 m)) 2 (.int .u64 ((dl : Int) + 1))) 4 (.int .i64 ((n : Int) + (rs.length : Int)))
          show (((w7.setCell ⟨w.heap.size + 1, 3, none⟩ (.int .i64 m)).setCell ⟨w.heap.size + 1, 2, none⟩ (.int .u64 ((dl : Int) + 1))).setCell ⟨w.heap.size + 1, 4, none⟩ (.int .i64 ((n : Int) + (rs.length : Int)))).heap[w.heap.size + 1]? = _
          simpa using g1
        · exact own_fr hown7 hF fun g c f hg hc => hne8 _ _ _ _ hc (by decide)
        · have hr6 : Fr (fun k _ => Value.ownBlock (.slice aov n capv) ≠ some k) w6 w7 := (Fr.refl _ w6).grown hgr7 (fun k o e _ h => h e)
          have hr0 : Fr (fun k _ => Value.ownBlock (.slice aov n capv) ≠ some k) wr w7 := (H6.out.1.mono fun _ _ _ => trivial).trans hr6
          have hne9 : ∀ W : World, (W.ownsRow w.heap.size 41 1 (.slice aov n capv) n vs) → ∀ k c f, W.heap[k]? = some (.cells c 5 f) → Value.ownBlock (.slice aov n capv) ≠ some k := fun W hW k c f hc e => by
            obtain ⟨_, c', hc'⟩ := own_block hW e
            exact ne_of_types hc hc' (by decide) rfl
          refine Recs.fr (K := fun k _ => k ≠ w.heap.size + 1) (w := w7) ?_ hF (fun k c f _ hc => hne8 _ _ _ _ hc (by decide)) |>.grow hF.size
          rw [List.flatten_append, List.flatten_cons, List.flatten_nil, List.append_nil]
          refine All2.append (((HR.out.2.2.1).fr hr0 fun k c f _ hc => hne9 wr HR.out.2.1 k c f hc).grow hr0.size) ((H6.out.2.2.2.2.1.fr hr6 fun k c f _ hc => hne9 w6 H6.out.2.2.1 k c f hc).grow hr6.size)
        · exact ⟨hF.os.trans hfa7.os, hF.tape.trans hfa7.tape, hF.output.trans hfa7.output, Nat.le_trans hfa7.size hF.size, fun k o ho _ => hF.keep _ _ (hfa7.keep _ _ ho trivial) (by have := lt_of_heap ho; omega)⟩
        · exact hF.keep _ _ hb7 (by omega)
      case measure =>
        obtain ⟨hfs, hnn, hdl, _⟩ := HQ.out
        have hl7 := H7.out.2.2.1
        have g1 := heap_set (heap_set (heap_set hl7.log 3 (.int .i64 m)) 2 (.int .u64 ((dl : Int) + 1))) 4 (.int .i64 ((n : Int) + (rs.length : Int)))
        have e1 : nextOf wr (w.heap.size + 1) = dl := by
          have := cell_of_heap HR.out.1.log 2
          unfold nextOf
          rw [show wr.cell? ⟨w.heap.size + 1, 2, none⟩ = some (.int .u64 dl) from this]
          simp
        have e2 : nextOf ((((w7.setCell ⟨w.heap.size + 1, 3, none⟩ (.int .i64 m)).setCell ⟨w.heap.size + 1, 2, none⟩ (.int .u64 ((dl : Int) + 1))).setCell ⟨w.heap.size + 1, 4, none⟩ (.int .i64 ((n : Int) + (rs.length : Int)))).drew) (w.heap.size + 1) = dl + 1 := by
          have := cell_of_heap g1 2
          unfold nextOf
          rw [show ((((w7.setCell ⟨w.heap.size + 1, 3, none⟩ (.int .i64 m)).setCell ⟨w.heap.size + 1, 2, none⟩ (.int .u64 ((dl : Int) + 1))).setCell ⟨w.heap.size + 1, 4, none⟩ (.int .i64 ((n : Int) + (rs.length : Int)))).drew).cell? ⟨w.heap.size + 1, 2, none⟩ = some (.int .u64 ((dl : Int) + 1)) from by simpa using this]
          simp
        have e3 : dl < fs.length := by rw [hfs, hdl]; simp
        rw [e1, e2]; omega

end
end Go.Proofs.YtbhjdddiihfafaaGreatDoor
