/- Package wal: a frame's bytes. -/
import Derived.Lib.BufferWrite
import Derived.Laws.CopyOwn
import Derived.Test.YtbhjdddiihfafaaGreatDoorJWal0
set_option linter.unusedVariables false
set_option linter.unusedSimpArgs false
namespace Go.Proofs.YtbhjdddiihfafaaGreatDoor
open Go.RowKit Go.Maps

theorem run_makeBytes (w : World) (S : Nat) (h : S ≤ 140737488355328) : (Instr.makeSlice 41 (.int .i64 S) (.int .i64 S)).run Tryz.prog w = .ok (.slice (some ⟨w.heap.size, 0, none⟩) S S) (w.alloc (.cells (madeCells #[.int .u8 0] S) 5)) := by
  obtain ⟨i0, hi, hz0, hz1, hz2⟩ := info_parts elU8.info
  have := run_make (P := Tryz.prog) w 41 5 i0 _ elU8.und hi hz0 .i64 .i64 S S (by omega) (by omega) (by rw [hz2]; omega) (by omega)
  simpa [hz1, Value.cells] using this

/-- Zeros that were made just now. -/
theorem made_own (w : World) (S : Nat) (h : S ≤ maxLen) : (w.alloc (.cells (madeCells #[.int .u8 0] S) 5)).ownsRow w.heap.size 5 1 (.slice (some ⟨w.heap.size, 0, none⟩) S S) S ((List.replicate S (0 : UInt8)).map u8) := by
  refine ⟨by simp, .inr ⟨_, S, madeCells #[.int .u8 0] S, rfl, Nat.le_refl _, heap_alloc_new _ _, Nat.le_refl _, h, ?_, ?_⟩⟩
  · rw [← Array.length_toList, toList_madeCells_one]; simp
  · rw [toList_madeCells_one]; simp [u8]

/-- A part of a row of one's own was written. -/
theorem own_part {w w' : World} {B b off m n cap : Nat} {xs ys : List UInt8} {c c' : Array Value} (h : w.ownsRow B 5 1 (.slice (some ⟨b, 0, none⟩) n cap) n (xs.map u8)) (hb : w.heap[b]? = some (.cells c 5 (0, 0)))
    (hb' : w'.heap[b]? = some (.cells c' 5 (0, 0))) (hc : c'.toList = c.toList.take off ++ ys.map u8 ++ c.toList.drop (off + m)) (hm : ys.length = m) (hle : off + m ≤ n) :
    w'.ownsRow B 5 1 (.slice (some ⟨b, 0, none⟩) n cap) n ((xs.take off ++ ys ++ xs.drop (off + m)).map u8) := by
  obtain ⟨h1, h2⟩ := h
  have hxl : xs.length = n := by simpa using h1
  refine ⟨by simp; omega, ?_⟩
  rcases h2 with ⟨h2, _⟩ | ⟨g, cp, cur, e, hg, hh, r1, r2, r3, r4⟩
  · cases h2
  · cases e
    rw [hb] at hh; cases hh
    have hcl : n ≤ c.toList.length := by rw [Array.length_toList]; omega
    have hl : c'.size = c.size := by
      rw [← Array.length_toList, hc]; simp; omega
    refine .inr ⟨b, cap, c', rfl, hg, hb', r1, r2, by rw [hl]; exact r3, ?_⟩
    simp only [Nat.mul_one] at r4 ⊢
    rw [hc]
    have e1 : c.toList.take off = (xs.map u8).take off := by rw [← r4, List.take_take]; congr 1; omega
    have e2 : (c.toList.drop (off + m)).take (n - (off + m)) = (xs.map u8).drop (off + m) := by rw [← r4, List.drop_take]
    rw [List.take_append, List.take_of_length_le (by simp; omega)]
    rw [List.map_append, List.map_append, List.map_take, List.map_drop, ← e1, ← e2]
    congr 2
    simp; omega

theorem own_some {w : World} {B E size n cap : Nat} {ao : Option Addr} {m : Nat} {xs : List Value} (h : w.ownsRow B E size (.slice ao m cap) n xs) (hn : 0 < n) : ∃ g, ao = some ⟨g, 0, none⟩ := by
  obtain ⟨_, h2⟩ := h
  rcases h2 with ⟨_, h2⟩ | ⟨g, c, cur, e, _⟩
  · omega
  · cases e; exact ⟨g, rfl⟩

theorem fr_setRow (w : World) (g : Nat) (cs : Array Value) : Fr (fun k _ => k ≠ g) w (w.setRow g cs) := ⟨rfl, rfl, rfl, by simp [World.setRow], fun k o ho hk => by
  rw [show (w.setRow g cs).heap[k]? = w.heap[k]? from by simp [World.setRow, Array.getElem?_modify, Ne.symm hk]]; exact ho⟩

theorem heap_setRow {w : World} {g : Nat} {c : Array Value} {t : TypeId} {f : Nat × Nat} (h : w.heap[g]? = some (.cells c t f)) (cs : Array Value) : (w.setRow g cs).heap[g]? = some (.cells cs t f) := by
  simp [World.setRow, Array.getElem?_modify, h]

theorem copy_sign (w : World) (g n cap : Nat) (c : Array Value) (t : TypeId) (hg : w.heap[g]? = some (.cells c t (0, 0))) (hn : 8 ≤ n) (hc : n ≤ c.size) (ty : TypeId) :
    ∃ w', (Builtin.copy_ #[41, 9] ty #[.slice (some ⟨g, 0, none⟩) n cap, .string { data := #[72, 65, 86, 69, 82, 83, 65, 75] }]).run Tryz.prog w = .ok (.int .i64 8) w' ∧
      ∃ c', w'.heap[g]? = some (.cells c' t (0, 0)) ∧ c'.toList = c.toList.take 0 ++ signB.map u8 ++ c.toList.drop (0 + 8) ∧ Fr (fun k _ => k ≠ g) w w' := by
  refine ⟨_, Lib.run_copy_row_string w _ _ ty 5 g 0 n cap { data := #[72, 65, 86, 69, 82, 83, 65, 75] } c t elU8.und (by obtain ⟨i0, hi, hz0, hz1, hz2⟩ := info_parts elU8.info; simp [hi, hz1]) hg (by exact hn) (by show 0 + 8 ≤ c.size; omega), _, heap_setRow hg _, ?_, fr_setRow _ _ _⟩
  rw [List.toList_toArray]
  rfl

theorem mid {X P Q Y L : List UInt8} {off m : Nat} (hX : X.length = off) (hP : P.length = m) (hL : L = X ++ (P ++ Y)) : L.take off ++ Q ++ L.drop (off + m) = X ++ Q ++ Y := by
  subst hX; subst hP; subst hL
  rw [List.take_left' rfl, ← List.append_assoc X P Y, List.drop_left' (by simp)]

theorem zeros (n m : Nat) (Y : List UInt8) : List.replicate (n + m) 0 ++ Y = List.replicate n 0 ++ (List.replicate m 0 ++ Y) := by rw [← List.append_assoc, List.replicate_append_replicate]

set_option maxRecDepth 100000 in
theorem frame_any (w : World) (turn next : Nat) (ht : turn < 18446744073709551616) (hx' : next < 18446744073709551616) (vs : List Value) (rs : List (List UInt8)) {n T cap : Nat} {ao : Option Addr} (hn : vs.length = n) (hT : T ≤ w.heap.size) (hx : Sl w T 41 1 ao n cap vs) (hr : Recs w T vs rs) (hl : tooLong rs = false) (hb : 32 + (body rs).length ≤ 70368744177664) :
    Calls Tryz.prog 147 #[.int .u64 turn, .int .u64 next, .slice ao n cap] w (NewBytes w (frameB turn next rs)) := by
  subst hn
  have hlr : rs.length = vs.length := hr.1.symm
  have hmx : vs.length ≤ 9223372036854775807 := by have := hx.2.1; have := hx.2.2.1; unfold maxLen at this; omega
  have hlong : ∀ r ∈ rs, r.length ≤ 1048576 := fun r hr => by
    have := List.any_eq_false.1 hl r hr
    simpa using this
  have hmk : (Instr.makeSlice 41 (.int .i64 32) (.int .i64 32)).run Tryz.prog w = .ok (.slice (some ⟨w.heap.size, 0, none⟩) 32 32) (w.alloc (.cells (madeCells #[.int .u8 0] 32) 5)) := run_makeBytes w 32 (by omega)
  have u285 : Tryz.prog.underlying 285 = some (.array 4 5) := by kernel_rfl
  go_enter Tryz.func147, Tryz.ntmps147
  go_wp2_with fail
  go_loopw [14, 7] (fun i bv wr => ∃ (k cp g : Nat), k ≤ vs.length ∧ i = .int .i64 k ∧ bv = .slice (some ⟨g, 0, none⟩) (32 + (body (rs.take k)).length) cp ∧
     wr.ownsRow w.heap.size 5 1 bv (32 + (body (rs.take k)).length) ((List.replicate 32 0 ++ body (rs.take k)).map u8) ∧ FrA w wr) (fun i _ _ => vs.length - (intOf i).toNat)
  case atStart => exact ⟨0, _, _, Nat.zero_le _, rfl, rfl, by simpa [body] using made_own w 32 (by decide), (Fr.refl _ w).alloc _⟩
  case round =>
    obtain ⟨k, cp, g, hk, rfl, rfl, hown, hfr⟩ := hrel
    by_cases hkl : k < vs.length
    · obtain ⟨b, off, rfl, hbT, hcl⟩ := (hx.keep fun b c f _ hc => hfr.keep _ _ hc trivial).at (by omega)
      obtain ⟨v, hv⟩ : ∃ v, vs[k]? = some v := ⟨_, List.getElem?_eq_getElem hkl⟩
      obtain ⟨r, hrk, ao', cap', rfl, hsr⟩ := All2.get' hr hv
      have c1 : wr.cell? ⟨b, off + k, none⟩ = some (.slice ao' r.length cap') := by rw [hcl k (by omega)]; exact hv
      have hrl := hlong r (List.mem_of_getElem? hrk)
      have hgw : w.heap.size ≤ g := (hown.lt g rfl).1
      have hgl : g < wr.heap.size := (hown.lt g rfl).2
      have hst := Lib.hid (body_take rs k r hrk)
      have hbl : (body (rs.take k)).length + 4 + r.length ≤ (body rs).length := by
        have := len_flat' (fun r : List UInt8 => be 4 r.length ++ r) rs k r hrk
        simp only [List.length_append, be_length] at this
        unfold body; omega
      have hrc := Lib.hid (And.intro hrk (And.intro hr hsr))
      clear hcl hlong hr hsr hrk hv
      go_wp2_with fail
      refine (put_any _ wr.heap.size 0 4 4 r.length #[.int .u8 0, .int .u8 0, .int .u8 0, .int .u8 0] 285 (by omega) (heap_alloc_new _ _) (by simp) (by omega)).mono ?_
      rintro e w2 ⟨rfl, hf2, hz2, c', hc2, hl2⟩
      have hf3 : FrA wr w2 := ⟨hf2.os, hf2.tape, hf2.output, by rw [hz2]; simp, fun q o ho _ => hf2.keep _ _ (heap_alloc_keep ho _) (by have := lt_of_heap ho; omega)⟩
      have hown2 := own_fr hown hf3 (fun _ _ _ _ _ => trivial)
      have hz3 : w2.heap.size = wr.heap.size + 1 := by rw [hz2]; simp
      have hl3 : c'.toList = (be 4 r.length).map u8 := by rw [hl2]; simp
      have hs4 : Sl w2 w2.heap.size 285 1 (some ⟨wr.heap.size, 0, none⟩) 4 4 ((be 4 r.length).map u8) := by
        refine ⟨by simp [be_length], by omega, by decide, by simp, .inr ⟨_, 0, c', _, rfl, by omega, hc2, fun j _ => ?_⟩⟩
        rw [← hl3]; simp
      have HO := Lib.hid hown2
      have hfr2 := hfr.trans hf3
      have hsz := hfr2.size
      clear hown hown2 hf2 hl2 hl3 hf3 hfr
      go_wp2_with (first
        | (at_builtin; (refine app_sl elU8 rfl (.tmp 23) (.tmp 24) rfl w.heap.size _ _ _ rfl HO.out rfl hs4 (fun u hu => by simp at hu; obtain ⟨x, _, rfl⟩ := hu; rfl) (by omega) hsz ?_; intro v3 w3 hown3 hgr3; obtain ⟨ao3, cp3, rfl⟩ := own_shape hown3; have hsr3 := hrc.out.2.2.keep (w' := w3) (fun b c f hb hc => grown_same hgr3 (hfr2.keep _ _ hc trivial) (show some _ ≠ some g from fun e => by have := Option.some.inj e; omega)); have hsz3 := Nat.le_trans hsz hgr3.size; have hfr3 := hfr2.grownNew hgr3 (fun k e => (HO.out.lt k e).1)))
        | (at_builtin; go_loud (refine app_sl elU8 rfl (.tmp 25) (.tmp 26) rfl w.heap.size _ _ _ rfl hown3 rfl hsr3 (fun u hu => by simp at hu; obtain ⟨x, _, rfl⟩ := hu; rfl) (by omega) hsz3 ?_; intro v4 w4 hown4 hgr4; have hfr4 := hfr3.grownNew hgr4 (fun k e => (hown3.lt k e).1); obtain ⟨ao4, cp4, rfl⟩ := own_shape hown4; clear hown3 hsr3)))
      obtain ⟨g4, rfl⟩ := own_some hown4 (by omega)
      have e1 : 32 + (body (rs.take k)).length + 4 + r.length = 32 + (body (rs.take (k + 1))).length := by rw [hst.out]; simp [be_length]; omega
      have e2 : ((List.replicate 32 0 ++ body (rs.take k)).map u8 ++ (be 4 r.length).map u8) ++ r.map u8 = (List.replicate 32 0 ++ body (rs.take (k + 1))).map u8 := by rw [hst.out]; simp
      rw [e2, e1] at hown4
      have HO4 := Lib.hid (And.intro hown4 hfr4)
      clear hown4 hfr4
      go_roundw
      case rel => exact ⟨k + 1, _, _, by omega, by go_num, by rw [e1], by rw [e1]; exact HO4.out.1, HO4.out.2⟩
      case measure => simp [intOf]; omega
    · obtain rfl : k = vs.length := by omega
      rw [List.take_of_length_le (show rs.length ≤ vs.length by omega)] at hown ⊢
      obtain ⟨c, hc, hcx⟩ := own_heap hown
      have hgw : w.heap.size ≤ g := (hown.lt g rfl).1
      have hcl : 32 + (body rs).length ≤ c.size := by
        have h1 := hcx (31 + (body rs).length) (by omega)
        have h2 : ((List.replicate 32 (0 : UInt8) ++ body rs).map u8)[31 + (body rs).length]? ≠ none := by simp; omega
        rw [← h1] at h2
        simp at h2; omega
      obtain ⟨w5, hrun5, c5, h5, hc5, hf5⟩ := copy_sign wr g (32 + (body rs).length) cp c 5 hc (by omega) (by omega) 3
      have hcp : 32 + (body rs).length ≤ cp := (Sl.of_own hown).2.1
      have hgl := lt_of_heap h5
      have hP : ∀ (w1 w2 : World) (off : Nat) (c1 c2 : Array Value) (x : List UInt8), w1.heap[g]? = some (.cells c1 5 (0, 0)) → c1.size = c.size → w2.heap[g]? = some (.cells c2 5 (0, 0)) → c2.toList = c1.toList.take off ++ x.map u8 ++ c1.toList.drop (off + 8) → x.length = 8 → off + 8 ≤ 32 → c2.size = c.size := fun w1 w2 off c1 c2 x _ h1 _ h2 h3 h4 => by
        rw [← Array.length_toList, h2]; simp [h3]; omega
      have z5 := hP wr w5 0 c c5 signB hc rfl h5 hc5 rfl (by omega)
      have HO := Lib.hid hown
      have HC5 := Lib.hid (And.intro hc5 hf5)
      clear hown hx hr hmk hcx hc5 hf5
      go_wp2_with fail
      refine (put_any _ g 8 8 _ turn c5 5 (by omega) h5 (by omega) ht).mono ?_
      rintro e w6 ⟨rfl, hf6, hz6, c6, h6, hc6⟩
      have z6 := hP w5 w6 8 c5 c6 _ h5 z5 h6 hc6 (be_length _ _) (by omega)
      have HC6 := Lib.hid (And.intro hc6 hf6)
      clear hc6 hf6
      go_wp2_with fail
      refine (put_any _ g 16 8 _ next c6 5 (by omega) h6 (by omega) hx').mono ?_
      rintro e w7 ⟨rfl, hf7, hz7, c7, h7, hc7⟩
      have z7 := hP w6 w7 16 c6 c7 _ h6 z6 h7 hc7 (be_length _ _) (by omega)
      have HC7 := Lib.hid (And.intro hc7 hf7)
      clear hc7 hf7
      go_wp2_with fail
      rw [show (32 + ((body rs).length : Int) - 32) = ((body rs).length : Int) by omega]
      refine (put_any _ g 24 8 _ (body rs).length c7 5 (by omega) h7 (by omega) (by omega)).mono ?_
      rintro e w8 ⟨rfl, hf8, hz8, c8, h8, hc8⟩
      have HC8 := Lib.hid (And.intro hc8 hf8)
      clear hc8 hf8
      go_wp2
      go_ret
      have o5 := own_part (xs := List.replicate 32 0 ++ body rs) (off := 0) (m := 8) (ys := signB) HO.out hc h5 HC5.out.1 rfl (by omega)
      rw [mid (L := List.replicate 32 0 ++ body rs) (off := 0) (m := 8) (X := []) (P := List.replicate 8 0) (Q := signB) (Y := List.replicate 24 0 ++ body rs) rfl (by simp) (zeros 8 24 _), List.nil_append] at o5
      have o6 := own_part (off := 8) (m := 8) o5 h5 h6 HC6.out.1 (be_length _ _) (by omega)
      rw [mid (off := 8) (m := 8) (X := signB) (P := List.replicate 8 0) (Q := be 8 turn) (Y := List.replicate 16 0 ++ body rs) rfl (by simp) (by rw [← zeros 8 16])] at o6
      have o7 := own_part (off := 16) (m := 8) o6 h6 h7 HC7.out.1 (be_length _ _) (by omega)
      rw [mid (off := 16) (m := 8) (X := signB ++ be 8 turn) (P := List.replicate 8 0) (Q := be 8 next) (Y := List.replicate 8 0 ++ body rs) (by simp [be_length, signB]) (by simp) (by rw [← zeros 8 8])] at o7
      have o8 := own_part (off := 24) (m := 8) o7 h7 h8 HC8.out.1 (be_length _ _) (by omega)
      rw [mid (off := 24) (m := 8) (X := signB ++ be 8 turn ++ be 8 next) (P := List.replicate 8 0) (Q := be 8 (body rs).length) (Y := body rs) (by simp [be_length, signB]) (by simp) rfl] at o8
      refine ⟨_, rfl, ?_, ?_⟩
      · rw [frameB_length]; exact o8
      · have hK := ((HC5.out.2.trans HC6.out.2).trans HC7.out.2).trans HC8.out.2
        exact ⟨hK.os.trans hfr.os, hK.tape.trans hfr.tape, hK.output.trans hfr.output, Nat.le_trans hfr.size hK.size, fun q o ho _ => hK.keep _ _ (hfr.keep _ _ ho trivial) (by have := lt_of_heap ho; omega)⟩

end Go.Proofs.YtbhjdddiihfafaaGreatDoor
/- Package wal: what takes back, what lays. -/
namespace Go.Proofs.YtbhjdddiihfafaaGreatDoor
open Go.RowKit Go.Maps

/-- Alike in form: as many sectors, as long. -/
def Dk.like (D D' : Dk) : Prop := D'.Ok ∧ D'.sure.length = D.sure.length ∧ D'.size = D.size

theorem Dk.like.trans {A B C : Dk} (h : A.like B) (k : B.like C) : A.like C := ⟨k.1, k.2.1.trans h.2.1, k.2.2.trans h.2.2⟩

theorem Dk.Ok.write_like {D : Dk} (h : D.Ok) (i : Int) (b : List UInt8) : D.like (D.write i b).2 := by
  unfold Dk.write
  have hs : ∀ D' : Dk, D'.sure = D.sure → D'.size = D.size := fun D' e => by unfold Dk.size; rw [e]
  split
  · exact ⟨h, rfl, rfl⟩
  · split
    · exact ⟨h, rfl, rfl⟩
    · split
      · exact ⟨h.power, by rw [(Dk.power_sure D).1], hs _ (Dk.power_sure D).1⟩
      · rename_i h1 h2 h3
        have ha : D.at i = 0 := by simpa using h1
        have hb : b.length = D.size := by simpa using h2
        have hi := Dk.at_ok ha
        have := h.power.dirty (D := D.power.2) (i := i) (by rw [(Dk.power_sure D).1]; exact hi) (b := b) (by rw [hs _ (Dk.power_sure D).1]; exact hb)
        rw [(Dk.power_sure D).2] at this
        exact ⟨this, by rw [(Dk.power_sure D).1], hs _ (Dk.power_sure D).1⟩

theorem Dk.Ok.flush_like {D : Dk} (h : D.Ok) : D.like D.flush.2 := by
  unfold Dk.flush
  have hp : D.power.2.size = D.size := Dk.power_size D
  split
  · exact ⟨h, rfl, rfl⟩
  · split
    · exact ⟨h.power, by rw [(Dk.power_sure D).1], hp⟩
    · have := h.power.settle
      exact ⟨this.1, by rw [← (Dk.power_sure D).1]; exact laid_length _ _, this.2.trans hp⟩

theorem Lg.Ok.like {L : Lg} (h : L.Ok) {D : Dk} (hD : L.D.like D) : Lg.Ok { L with D := D } :=
  ⟨hD.1, by rw [hD.2.1]; exact h.n16, by rw [hD.2.2]; exact h.s128, h.turn, h.next, by have := h.at_; unfold Lg.half at this ⊢; rw [hD.2.1]; exact this, h.count, by rw [hD.2.1]; exact h.und, h.rise⟩

/-- What a failed frame began is taken back. -/
def undoW (D : Dk) : List (Lit × Nat) → Int × Dk
  | [] => (0, D)
  | p :: r => if (D.write (keyI p.1) (List.replicate D.size 0)).1 ≠ 0 then D.write (keyI p.1) (List.replicate D.size 0) else undoW (D.write (keyI p.1) (List.replicate D.size 0)).2 r

def Lg.undo (L : Lg) : Int × Lg :=
  if L.undone = [] then (0, L) else if (undoW L.D L.undone).1 ≠ 0 then ((undoW L.D L.undone).1, { L with D := (undoW L.D L.undone).2 }) else
  if (undoW L.D L.undone).2.flush.1 ≠ 0 then ((undoW L.D L.undone).2.flush.1, { L with D := (undoW L.D L.undone).2.flush.2 }) else
  (0, { L with D := (undoW L.D L.undone).2.flush.2, undone := [] })

theorem LogAt.alloc {w : World} {I : Ids} {L : Lg} (h : LogAt w I L) (o : Obj) : LogAt (w.alloc o) I L := h.fra ((Fr.refl _ w).alloc o)
theorem LogAt.drew {w : World} {I : Ids} {L : Lg} (h : LogAt w I L) : LogAt w.drew I L := h.fra (Fr.refl _ w).drew

theorem umapUndone : Tryz.prog.underlying 129 = some (.map 3 130) := by kernel_rfl
theorem zeroU64 (w : World) : (zeroValue 130).run Tryz.prog w = .ok (.int .u64 0) w := by kernel_rfl

theorem u64s_length (l : List (Lit × Nat)) : (u64s l).length = l.length := by simp [u64s]

theorem u64s_rise {l : List (Lit × Nat)} (h : Rise l) : Rise (u64s l) := List.pairwise_map.2 h

section
variable {w : World} {I : Ids} {L : Lg}

theorem Lg.Ok.few (hok : L.Ok) : L.undone.length ≤ 4096 := by
  have := rise_few L.D.sure.length L.undone 0 hok.rise (fun p hp => by obtain ⟨⟨i, h1, h2⟩, _⟩ := hok.und p hp; exact ⟨i, h1, Nat.zero_le _, h2⟩)
  have := hok.disk.n2
  omega

set_option maxHeartbeats 1000000 in
set_option maxRecDepth 100000 in
theorem undo_any (h : LogAt w I L) (hok : L.Ok) : Calls Tryz.prog 198 #[.pointer (some ⟨I.bl, 0, none⟩)] w fun e w' => e = .returned (.int .i64 L.undo.1) ∧ LogAt w' I L.undo.2 ∧ Fr (LK I) w w' := by
  have c0 : w.cell? ⟨I.bl, 0, none⟩ = some (.pointer (some ⟨I.d, 0, none⟩)) := cell_of_heap h.log 0
  have c5 : w.cell? ⟨I.bl, 5, none⟩ = some (.map (some I.bu)) := cell_of_heap h.log 5
  have hlen := h.map.run_len umapUndone 3
  rw [u64s_length] at hlen
  have hfew := hok.few
  by_cases hnil : L.undone = []
  · have hu := Lib.hid (show L.undo = (0, L) by simp [Lg.undo, hnil])
    have hz : L.undone.length = 0 := by simp [hnil]
    rw [hz] at hlen
    clear hnil
    have H := Lib.hid h
    clear h hok
    go_enter Tryz.func198, Tryz.ntmps198
    go_wp2
    go_ret
    rw [hu.out]
    exact ⟨rfl, H.out, Fr.refl _ _⟩
  · have hz : ((L.undone.length : Int) == 0) = false := by
      have : L.undone.length ≠ 0 := fun e => hnil (List.eq_nil_of_length_eq_zero e)
      simp; omega
    have HK := Lib.hid (sortedIN_any h.map (u64s_rise hok.rise) (fun p hp => by
      simp only [u64s, List.mem_map] at hp
      obtain ⟨q, hq, rfl⟩ := hp
      obtain ⟨⟨i, h1, _⟩, _⟩ := hok.und q hq
      exact ⟨i, h1⟩) (by rw [u64s_length]; omega))
    have H := Lib.hid h
    clear h
    go_enter Tryz.func198, Tryz.ntmps198
    go_wp2_with (first
      | (go_at_call 245; refine (keysIN_any _ _).mono ?_; rintro e w1 ⟨rfl, rfl⟩)
      | (go_at_call 244; refine HK.out.mono ?_; rintro e w2 ⟨v, rfl, hkr, hf2⟩; rw [List.length_map, u64s_length] at hkr; obtain ⟨aok, capk, rfl⟩ := own_shape hkr))
    have hb1 : w.heap.size + 1 = (w.alloc (.cells #[.map (some I.bu)] 129)).heap.size := by simp
    rw [← hb1] at hkr
    have hsl := Sl.of_own hkr
    have hfw : FrA w w2 := ((Fr.refl _ w).alloc _).trans hf2
    have hbk : ∀ b, aok = some b → w.heap.size + 1 ≤ b.block := fun b e => by
      subst e
      obtain ⟨_, h2⟩ := hkr
      rcases h2 with ⟨h2, _⟩ | ⟨g, c, cur, e, hg, _⟩
      · cases h2
      · cases e; exact hg
    have hids : I.d < w.heap.size ∧ I.bs < w.heap.size ∧ I.bm < w.heap.size ∧ I.bl < w.heap.size ∧ I.bu < w.heap.size := by
      obtain ⟨_, _, e1⟩ := H.out.disk.cell
      obtain ⟨_, _, e2⟩ := H.out.disk.own
      obtain ⟨_, e3⟩ := H.out.disk.map
      exact ⟨lt_of_heap e1, lt_of_heap e2, e3.lt, lt_of_heap H.out.log, H.out.map.lt⟩
    have hH2 := Lib.hid (H.out.fra hfw)
    have HX2 := Lib.hid hfw
    clear hkr hb1 hf2 hlen c0 c5
    go_loopw [20] (fun i wr => ∃ (k : Nat) (D : Dk), k ≤ L.undone.length ∧ i = .int .i64 k ∧ LogAt wr I { L with D := D } ∧ L.D.like D ∧ undoW L.D L.undone = undoW D (L.undone.drop k) ∧ Fr (LK I) w2 wr) (fun i _ => L.undone.length - (intOf i).toNat)
    case atStart => exact ⟨0, L.D, Nat.zero_le _, rfl, hH2.out, ⟨hok.disk, rfl, rfl⟩, rfl, Fr.refl _ _⟩
    case round =>
      obtain ⟨k, D, hk, rfl, hlg, hlike, hun, hfr⟩ := hrel
      have c0 : wr.cell? ⟨I.bl, 0, none⟩ = some (.pointer (some ⟨I.d, 0, none⟩)) := cell_of_heap hlg.log 0
      by_cases hkl : k < L.undone.length
      · obtain ⟨p, hp⟩ : ∃ p, L.undone[k]? = some p := ⟨_, List.getElem?_eq_getElem hkl⟩
        obtain ⟨⟨i, hi, hin⟩, _⟩ := hok.und p (List.mem_of_getElem? hp)
        have hsl2 : Sl wr w2.heap.size 3 1 aok L.undone.length capk ((u64s L.undone).map fun p => .int .i64 (keyI p.1)) := by
          obtain ⟨a1, a2, a3, a4, a5⟩ := hsl
          refine ⟨a1, a2, a3, a4, ?_⟩
          rcases a5 with a5 | ⟨b, off, c, f, e, hb, r, q⟩
          · exact .inl a5
          · have := hbk _ e
            simp at this
            exact .inr ⟨b, off, c, f, e, hb, hfr.keep _ _ r ⟨by omega, by omega, by omega, by omega, by omega⟩, q⟩
        obtain ⟨bk, offk, rfl, _, hck⟩ := hsl2.at (by omega)
        have hki : keyI p.1 = (i : Int) := by rw [hi]; rfl
        have hkc : wr.cell? ⟨bk, offk + k, none⟩ = some (.int .i64 i) := by
          rw [hck k (by omega)]; simp [u64s, hp, hki]
        have hdrop : L.undone.drop k = p :: L.undone.drop (k + 1) := by
          rw [List.drop_eq_getElem_cons hkl]
          rw [List.getElem?_eq_getElem hkl] at hp
          simp at hp; rw [hp]
        have hst := Lib.hid (show undoW D (L.undone.drop k) = if (D.write (i : Int) (List.replicate D.size 0)).1 ≠ 0 then D.write (i : Int) (List.replicate D.size 0) else undoW (D.write (i : Int) (List.replicate D.size 0)).2 (L.undone.drop (k + 1)) by rw [hdrop, undoW, hki])
        have hD := hlike.1
        have hmk := run_makeBytes (wr.drew) D.size (by have := hD.s2; omega)
        have HL := Lib.hid hlg
        have HX := Lib.hid (And.intro hun (And.intro hsl (And.intro hbk (And.intro hids hfr))))
        have HO := Lib.hid (And.intro hok hlike)
        have hn1 := hD.n1
        have hs2 := hD.s2
        have HD := Lib.hid hD
        clear hlg hun hdrop hck hsl2 hsl hbk hids hp hi hki hfr hok hlike hfw hD
        go_wp2_with fail
        go_region_held3 (fun w' => w'.cell? ⟨I.bl, 0, none⟩ = some (.pointer (some ⟨I.d, 0, none⟩))) (first | assumption | go_keep) (first
          | (go_at_call 60; refine (Size_any HL.out.drew.disk hn1).mono ?_; rintro e w3 ⟨rfl, rfl⟩)
          | (go_at_call 201; refine (Write_any (HL.out.alloc _).drew.disk HD.out i (List.replicate D.size 0) (T := wr.heap.size + 1) (by simp) (by simp) ?_ (by omega)).mono ?_; exact (Sl.of_own (made_own wr D.size (by unfold maxLen; omega))).mono (by simp); rintro e w3 ⟨rfl, hd3, hf3⟩; have hlg3 := (HL.out.alloc _).drew.disked hf3 hd3; have c3 : w3.cell? ⟨I.bl, 0, none⟩ = some (.pointer (some ⟨I.d, 0, none⟩)) := cell_of_heap hlg3.log 0))
        all_goals
          have hfr3 : Fr (LK I) wr w3 := (((Fr.refl (LK I) wr).alloc _).drew).trans (hf3.mono fun _ _ h => ⟨h.1, h.2.1, h.2.2.1⟩)
          have HL3 := Lib.hid (And.intro hlg3 (And.intro (HO.out.2.trans (HD.out.write_like (i : Int) (List.replicate D.size 0))) (HX.out.2.2.2.2.trans hfr3)))
          clear hlg3 hf3 hd3 hfr3
          by_cases he : (D.write (i : Int) (List.replicate D.size 0)).1 = 0
          · have hnx := Lib.hid (show undoW L.D L.undone = undoW (D.write (i : Int) (List.replicate D.size 0)).2 (L.undone.drop (k + 1)) by rw [HX.out.1, hst.out, if_neg (by simpa using he)])
            rw [he]
            clear he
            go_wp2
            go_roundw
            case rel => exact ⟨k + 1, _, by omega, by go_num, HL3.out.1, HL3.out.2.1, hnx.out, HL3.out.2.2⟩
            case measure => simp [intOf]; omega
          · have hed : ((D.write (i : Int) (List.replicate D.size 0)).1 != 0) = true := by simpa using he
            have hun := Lib.hid (show L.undo = ((D.write (i : Int) (List.replicate D.size 0)).1, { L with D := (D.write (i : Int) (List.replicate D.size 0)).2 }) by
              have e : undoW L.D L.undone = D.write (i : Int) (List.replicate D.size 0) := by rw [HX.out.1, hst.out, if_pos he]
              unfold Lg.undo
              rw [if_neg hnil, e, if_pos he])
            clear he
            go_wp2
            go_ret
            rw [hun.out]
            exact ⟨rfl, HL3.out.1, (HX2.out.mono fun _ _ _ => trivial).trans HL3.out.2.2⟩
      · obtain rfl : k = L.undone.length := by omega
        rw [List.drop_length, undoW] at hun
        have HF := Lib.hid (Flush_any hlg.disk hlike.1)
        have hlk2 := hlike.trans (hlike.1.flush_like)
        have hrl : ∀ wx, MapAt wx 3 I.bu (u64s L.undone) → ∃ w', (Builtin.clear_ #[129] 0 #[.map (some I.bu)]).run Tryz.prog wx = .ok (.tuple #[]) w' ∧ MapAt w' 3 I.bu [] ∧ wx.grownBy w' (some I.bu) := fun wx h => h.run_clear umapUndone 0
        have HL := Lib.hid hlg
        have HX := Lib.hid hun
        have HR := Lib.hid hfr
        clear hlg hun hfr hsl hbk hids hlike
        go_wp2_with fail
        refine HF.out.mono ?_
        rintro e w3 ⟨rfl, hd3, hf3⟩
        have hlg3 := HL.out.disked hf3 hd3
        have c5 : w3.cell? ⟨I.bl, 5, none⟩ = some (.map (some I.bu)) := cell_of_heap hlg3.log 5
        have hfr3 : Fr (LK I) wr w3 := hf3.mono fun _ _ h => ⟨h.1, h.2.1, h.2.2.1⟩
        have HL3 := Lib.hid (And.intro hlg3 (HR.out.trans hfr3))
        clear hf3 hd3 hfr3
        by_cases he : D.flush.1 = 0
        · have hu := Lib.hid (show L.undo = (0, { L with D := D.flush.2, undone := [] }) by
            unfold Lg.undo
            rw [if_neg hnil, HX.out]
            simp [he])
          rw [he]
          obtain ⟨w4, hrc, hm4, hg4⟩ := hrl w3 hlg3.map
          clear he hlg3 hrl
          go_wp2
          go_ret
          rw [hu.out]
          have n := HL3.out.1.nes
          have hf4 : Fr (fun k _ => k ≠ I.bu) w3 w4 := (Fr.refl _ w3).grown hg4 (fun k o e _ h => h (Option.some.inj e).symm)
          have h3 := HL3.out.1
          refine ⟨rfl, ⟨h3.disk.fr hf4 (fun _ _ => n.2.2.2.2.1.symm) (fun _ _ => n.2.2.2.2.2.1.symm) (fun _ _ => h3.ne) (fun k c f hc e => by subst e; exact h3.map.ne_cells hc rfl), hf4.keep _ _ h3.log n.2.2.2.1, hm4, h3.ne⟩, ?_⟩
          exact (HX2.out.mono fun _ _ _ => trivial).trans (HL3.out.2.trans (hf4.mono fun _ _ h => h.2.2.2.2))
        · have hed : (D.flush.1 != 0) = true := by simpa using he
          have hu := Lib.hid (show L.undo = (D.flush.1, { L with D := D.flush.2 }) by
            unfold Lg.undo
            rw [if_neg hnil, HX.out]
            simp [he])
          clear he hlg3 hrl
          go_wp2
          go_ret
          rw [hu.out]
          exact ⟨rfl, HL3.out.1, (HX2.out.mono fun _ _ _ => trivial).trans HL3.out.2⟩

end
end Go.Proofs.YtbhjdddiihfafaaGreatDoor
/- The content of a disk with a log: what lies there, what is read there. Plain Lean. -/
namespace Go.Proofs.YtbhjdddiihfafaaGreatDoor

/-- The number of a number's bytes. -/
theorem beN_be : ∀ (m n : Nat), n < 256 ^ m → beN (be m n) = n := by
  have key : ∀ (m n a : Nat), (be m n).foldl (fun n b => n * 256 + b.toNat) a = a * 256 ^ m + n % 256 ^ m := by
    intro m
    induction m with
    | zero => intro n a; simp [be, Nat.mod_one]
    | succ m ih =>
      intro n a
      have e : be (m + 1) n = UInt8.ofNat (n / 256 ^ m) :: be m n := by
        unfold be
        rw [List.range_succ_eq_map, List.map_cons, List.map_map]
        congr 1
        apply List.map_congr_left
        intro i hi
        simp at hi
        simp only [Function.comp]
        congr 3
        omega
      rw [e, List.foldl_cons, ih, UInt8.toNat_ofNat', show (2 : Nat) ^ 8 = 256 from rfl]
      have h1 : n % 256 ^ (m + 1) = (n / 256 ^ m % 256) * 256 ^ m + n % 256 ^ m := by
        rw [Nat.pow_succ, Nat.mod_mul, Nat.mul_comm, Nat.add_comm]
      have h2 : 256 ^ (m + 1) = 256 * 256 ^ m := by rw [Nat.pow_succ, Nat.mul_comm]
      rw [h1, h2, Nat.add_mul, Nat.mul_assoc, Nat.add_assoc]
  intro m n h
  have := key m n 0
  unfold beN
  rw [this, Nat.mod_eq_of_lt h]; omega

theorem be_beN_lt (m n : Nat) (h : n < 256 ^ m) : beN (be m n) = n := beN_be m n h

/-- Records out of a frame's bytes. -/
def unbody (l : List UInt8) : Option (List (List UInt8)) :=
  if l = [] then some [] else
  if l.length < 4 then none else
  if beN (l.take 4) ≤ l.length - 4 then (unbody (l.drop (4 + beN (l.take 4)))).map (((l.drop 4).take (beN (l.take 4))) :: ·) else none
termination_by l.length
decreasing_by
  rename_i h1 h2 h3
  rw [List.length_drop]; omega

theorem unbody_body (rs : List (List UInt8)) (h : ∀ r ∈ rs, r.length < 256 ^ 4) : unbody (body rs) = some rs := by
  induction rs with
  | nil => rw [unbody]; simp [body]
  | cons r rs ih =>
    have e : body (r :: rs) = be 4 r.length ++ (r ++ body rs) := by simp [body]
    have h4 : (be 4 r.length).length = 4 := be_length _ _
    have ht : (body (r :: rs)).take 4 = be 4 r.length := by rw [e, List.take_left' h4]
    have hd : (body (r :: rs)).drop 4 = r ++ body rs := by rw [e, List.drop_left' h4]
    have hn := beN_be 4 r.length (h r (by simp))
    have hl : (body (r :: rs)).length = 4 + (r.length + (body rs).length) := by rw [e]; simp [h4]
    rw [unbody, if_neg (by intro h0; rw [h0] at hl; simp at hl; omega), if_neg (by omega), ht, hn, if_pos (by omega), ← List.drop_drop, hd, List.drop_left' rfl, List.take_left' rfl, ih (fun q hq => h q (by simp [hq]))]
    rfl

def zpad (n : Nat) (l : List UInt8) : List UInt8 := l ++ List.replicate (n - l.length) 0

/-- How many sectors so many bytes take. -/
def secsN (sz n : Nat) : Nat := n / (sz - 16) + min (n % (sz - 16)) 1

/-- A sector of a frame: its bytes; its end. -/
def secB (sz turn next : Nat) (b : List UInt8) (i : Nat) : List UInt8 :=
  zpad (sz - 16) ((b.drop (i * (sz - 16))).take (sz - 16)) ++ (if i = 0 then be 8 turn ++ be 8 (next + 1) else List.replicate 16 0)

theorem secB_length (sz turn next : Nat) (b : List UInt8) (i : Nat) (h : 16 ≤ sz) : (secB sz turn next b i).length = sz := by
  unfold secB zpad
  have h1 : ((b.drop (i * (sz - 16))).take (sz - 16)).length ≤ sz - 16 := List.length_take_le _ _
  split
  · simp only [List.length_append, List.length_replicate, be_length]; omega
  · simp only [List.length_append, List.length_replicate]; omega

/-- From place 'f + k' on up to 'f + n' other sectors. -/
def layTo (C : List (List UInt8)) (f n : Nat) (S : Nat → List UInt8) (k : Nat) : List (List UInt8) :=
  (List.range C.length).map fun p => if f + k ≤ p ∧ p < f + n then S (p - f) else C.getD p []

theorem layTo_length (C : List (List UInt8)) (f n : Nat) (S : Nat → List UInt8) (k : Nat) : (layTo C f n S k).length = C.length := by simp [layTo]

theorem layTo_none (C : List (List UInt8)) (f n : Nat) (S : Nat → List UInt8) : layTo C f n S n = C := by
  apply List.ext_getElem
  · simp [layTo]
  · intro i h1 h2
    simp only [layTo, List.getElem_map, List.getElem_range]
    rw [if_neg (by omega)]
    simp [List.getD, h2]

theorem layTo_get (C : List (List UInt8)) (f n : Nat) (S : Nat → List UInt8) (k p : Nat) : (layTo C f n S k).getD p [] = if f + k ≤ p ∧ p < f + n ∧ p < C.length then S (p - f) else C.getD p [] := by
  unfold layTo
  by_cases hp : p < C.length
  · simp only [List.getD, List.getElem?_map, List.getElem?_range hp, Option.map_some, Option.getD_some]
    by_cases h : f + k ≤ p ∧ p < f + n
    · rw [if_pos h, if_pos ⟨h.1, h.2, hp⟩]
    · rw [if_neg h, if_neg (fun h' => h ⟨h'.1, h'.2.1⟩)]
  · rw [if_neg (fun h => hp h.2.2)]
    simp [List.getD, hp]

theorem layTo_step (C : List (List UInt8)) (f n : Nat) (S : Nat → List UInt8) (k : Nat) (hk : k < n) (hl : f + k < C.length) : (layTo C f n S (k + 1)).set (f + k) (S k) = layTo C f n S k := by
  apply List.ext_getElem
  · simp [layTo]
  · intro i h1 h2
    have hi : i < C.length := by simpa [layTo] using h2
    rw [List.getElem_set]
    simp only [layTo, List.getElem_map, List.getElem_range]
    by_cases e : f + k = i
    · subst e
      rw [if_pos rfl, if_pos (by omega)]
      congr 1; omega
    · rw [if_neg e]
      by_cases h : f + (k + 1) ≤ i ∧ i < f + n
      · rw [if_pos h, if_pos (by omega)]
      · rw [if_neg h, if_neg (by omega)]

theorem layTo_all (C : List (List UInt8)) (f n : Nat) (S : Nat → List UInt8) (k m : Nat) (h : ∀ b ∈ C, b.length = m) (hS : ∀ i, (S i).length = m) : ∀ b ∈ layTo C f n S k, b.length = m := by
  intro b hb
  simp only [layTo, List.mem_map, List.mem_range] at hb
  obtain ⟨p, hp, rfl⟩ := hb
  split
  · exact hS _
  · have : C.getD p [] = C[p] := by simp [List.getD, hp]
    rw [this]; exact h _ (List.getElem_mem hp)

/-- What 'open' reads of a frame at a sector of a side: its turn, its records, the sector behind it; or nothing. -/
def openF (C : List (List UInt8)) (sz half side at_ next : Nat) : Option (Nat × List (List UInt8) × Nat) :=
  if ¬ at_ < half then none else
  let x := C.getD (side * half + at_) []
  let b := x.take (sz - 16)
  let e := x.drop (sz - 16)
  let turn := beN ((b.take 16).drop 8)
  let n := beN ((b.take 32).drop 24)
  if ¬ (b.take 8 = signB ∧ beN ((b.take 24).drop 16) = next) then none else
  if ¬ (beN (e.take 8) = turn ∧ beN (e.drop 8) = next + 1) then none else
  if ¬ n ≤ (half - at_) * (sz - 16) - 32 then none else
  let all := b ++ ((List.range (secsN sz (32 + n) - 1)).flatMap fun i => (C.getD (side * half + at_ + 1 + i) []).take (sz - 16))
  (unbody ((all.drop 32).take n)).map fun rs => (turn, rs, at_ + secsN sz (32 + n))

theorem secsN_pos (sz n : Nat) (h : 0 < n) : 0 < secsN sz n := by
  unfold secsN
  have h1 := Nat.div_add_mod n (sz - 16)
  generalize n % (sz - 16) = r at h1 ⊢
  generalize n / (sz - 16) = q at h1 ⊢
  by_cases e : r = 0
  · subst e
    have : q ≠ 0 := fun e2 => by rw [e2] at h1; simp at h1; omega
    omega
  · omega

theorem secsN_le (sz n k : Nat) (hs : 16 < sz) (h : n ≤ k * (sz - 16)) : secsN sz n ≤ k := by
  unfold secsN
  have h1 := Nat.div_add_mod n (sz - 16)
  have h3 : n % (sz - 16) < sz - 16 := Nat.mod_lt _ (by omega)
  have h2 : n / (sz - 16) ≤ k := Nat.div_le_of_le_mul (by rw [Nat.mul_comm]; exact h)
  generalize n % (sz - 16) = r at h1 h3 ⊢
  generalize n / (sz - 16) = q at h1 h2 ⊢
  by_cases e : q = k
  · rw [e, Nat.mul_comm] at h1; omega
  · omega

theorem secsN_ge (sz n : Nat) (hs : 16 < sz) : n ≤ secsN sz n * (sz - 16) := by
  unfold secsN
  have h1 := Nat.div_add_mod n (sz - 16)
  have h3 : n % (sz - 16) < sz - 16 := Nat.mod_lt _ (by omega)
  rw [Nat.add_mul, Nat.mul_comm (n / (sz - 16))]
  generalize n % (sz - 16) = r at h1 h3 ⊢
  by_cases e : r = 0
  · subst e; simp at h1 ⊢; omega
  · rw [show min r 1 = 1 by omega]; omega

/-- The chunks of a list, one behind another, the last padded. -/
theorem chunks (s : Nat) (hs : 0 < s) : ∀ (k : Nat) (b : List UInt8), b.length ≤ k * s → ((List.range k).flatMap fun i => zpad s ((b.drop (i * s)).take s)) = b ++ List.replicate (k * s - b.length) 0 := by
  intro k
  induction k with
  | zero => intro b h; have : b = [] := List.eq_nil_of_length_eq_zero (by omega); subst this; simp
  | succ k ih =>
    intro b h
    rw [List.range_succ_eq_map, List.flatMap_cons, List.flatMap_map]
    have e : (fun i => zpad s ((b.drop (Nat.succ i * s)).take s)) = fun i => zpad s (((b.drop s).drop (i * s)).take s) := by
      funext i
      rw [List.drop_drop]
      congr 3
      rw [Nat.succ_mul]; omega
    rw [e, ih (b.drop s) (by rw [List.length_drop, Nat.succ_mul] at *; omega)]
    simp only [Nat.zero_mul, List.drop_zero]
    rw [Nat.succ_mul] at h
    unfold zpad
    by_cases hb : s ≤ b.length
    · rw [List.length_take, Nat.min_eq_left hb, Nat.sub_self, List.replicate_zero, List.append_nil, ← List.append_assoc, List.take_append_drop, List.length_drop, Nat.succ_mul]
      congr 2; omega
    · have h0 : b.drop s = [] := List.drop_of_length_le (by omega)
      rw [h0, List.take_of_length_le (by omega), List.nil_append, List.append_assoc, List.replicate_append_replicate, List.length_nil, Nat.succ_mul]
      congr 2; omega

/-- A frame that lies there is read. -/
theorem openF_laid (C : List (List UInt8)) (sz half side at_ turn next : Nat) (rs : List (List UInt8)) (hsz : 128 ≤ sz) (ht : turn < 256 ^ 8) (hn : next + 1 < 256 ^ 8)
    (hlen : 32 + (body rs).length < 256 ^ 8) (hfit : 32 + (body rs).length ≤ (half - at_) * (sz - 16)) (hrs : ∀ r ∈ rs, r.length < 256 ^ 4)
    (hC : ∀ i, i < secsN sz (32 + (body rs).length) → C.getD (side * half + at_ + i) [] = secB sz turn next (frameB turn next rs) i) :
    openF C sz half side at_ next = some (turn, rs, at_ + secsN sz (32 + (body rs).length)) := by
  have hat : at_ < half := by
    refine Decidable.byContradiction fun h => ?_
    rw [show half - at_ = 0 by omega, Nat.zero_mul] at hfit; omega
  have hL := frameB_length turn next rs
  obtain ⟨B, hB⟩ : ∃ B, B = frameB turn next rs := ⟨_, rfl⟩
  obtain ⟨N, hN⟩ : ∃ N, N = secsN sz (32 + (body rs).length) := ⟨_, rfl⟩
  rw [← hB] at hL hC
  rw [← hN] at hC ⊢
  have hN1 : 0 < N := by rw [hN]; exact secsN_pos _ _ (by omega)
  have hNge : B.length ≤ N * (sz - 16) := by rw [hL, hN]; exact secsN_ge _ _ (by omega)
  obtain ⟨s, hs⟩ : ∃ s, s = sz - 16 := ⟨_, rfl⟩
  have hs112 : 112 ≤ s := by omega
  have h0 := hC 0 hN1
  rw [Nat.add_zero] at h0
  have hx : ∀ i, (zpad s ((B.drop (i * s)).take s)).length = s := fun i => by unfold zpad; simp; omega
  have hb0 : (C.getD (side * half + at_) []).take (sz - 16) = zpad s (B.take s) := by
    have := hx 0
    rw [Nat.zero_mul, List.drop_zero] at this
    rw [h0, secB, ← hs, Nat.zero_mul, List.drop_zero, List.take_left' this]
  have he0 : (C.getD (side * half + at_) []).drop (sz - 16) = be 8 turn ++ be 8 (next + 1) := by
    have := hx 0
    rw [Nat.zero_mul, List.drop_zero] at this
    rw [h0, secB, ← hs, Nat.zero_mul, List.drop_zero, List.drop_left' this]; rfl
  have h32 : ∀ k, k ≤ 32 → (zpad s (B.take s)).take k = B.take k := by
    intro k hk
    unfold zpad
    have : 32 ≤ (B.take s).length := by rw [List.length_take]; omega
    rw [List.take_append_of_le_length (by omega), List.take_take]
    congr 1; omega
  have q8 : B.take 8 = signB := by rw [hB, frameB]; simp [signB]
  have q16 : (B.take 16).drop 8 = be 8 turn := by
    rw [hB, frameB, List.append_assoc, List.append_assoc, List.append_assoc, List.take_append, List.drop_append]
    simp [signB, be_length]
  have q24 : (B.take 24).drop 16 = be 8 next := by
    rw [hB, frameB, List.append_assoc, List.append_assoc]
    rw [show (signB ++ be 8 turn ++ (be 8 next ++ (be 8 (body rs).length ++ body rs))).take 24 = signB ++ be 8 turn ++ be 8 next from by
      rw [← List.append_assoc (signB ++ be 8 turn)]; exact List.take_left' (by simp [signB, be_length])]
    exact List.drop_left' (by simp [signB, be_length])
  have q32 : (B.take 32).drop 24 = be 8 (body rs).length := by
    rw [hB, frameB]
    rw [show (signB ++ be 8 turn ++ be 8 next ++ be 8 (body rs).length ++ body rs).take 32 = signB ++ be 8 turn ++ be 8 next ++ be 8 (body rs).length from List.take_left' (by simp [signB, be_length])]
    exact List.drop_left' (by simp [signB, be_length])
  have qd : B.drop 32 = body rs := by rw [hB, frameB]; exact List.drop_left' (by simp [signB, be_length])
  unfold openF
  rw [if_neg (by omega)]
  simp only [hb0, he0]
  rw [h32 8 (by omega), h32 16 (by omega), h32 24 (by omega), h32 32 (by omega), q8, q16, q24, q32, beN_be 8 _ ht, beN_be 8 next (by omega), beN_be 8 (body rs).length (by omega)]
  rw [if_neg (by simp), List.take_left' (be_length _ _), List.drop_left' (be_length _ _), beN_be 8 _ ht, beN_be 8 _ hn, if_neg (by simp), if_neg (by omega), ← hN]
  have hall : zpad s (B.take s) ++ ((List.range (N - 1)).flatMap fun i => (C.getD (side * half + at_ + 1 + i) []).take (sz - 16)) = B ++ List.replicate (N * s - B.length) 0 := by
    rw [← chunks s (by omega) N B (by rw [hs]; exact hNge)]
    rw [show N = (N - 1) + 1 by omega, List.range_succ_eq_map, List.flatMap_cons, List.flatMap_map, Nat.zero_mul, List.drop_zero]
    congr 1
    rw [Nat.add_sub_cancel, List.flatMap_eq_foldl, List.flatMap_eq_foldl] 
    rw [← List.flatMap_eq_foldl, ← List.flatMap_eq_foldl, List.flatMap_def, List.flatMap_def]
    congr 1
    apply List.map_congr_left
    intro i hi
    rw [List.mem_range] at hi
    have := hC (i + 1) (by omega)
    rw [show side * half + at_ + 1 + i = side * half + at_ + (i + 1) by omega, this, secB, ← hs, List.take_left' (hx _)]
  rw [hall, List.drop_append_of_le_length (by omega), qd, List.take_left' rfl, unbody_body rs hrs]
  rfl

/-- It hangs on the sectors that it speaks of alone. -/
theorem openF_local (C C' : List (List UInt8)) (sz half side at_ next : Nat) (r : Nat × List (List UInt8) × Nat) (hsz : 128 ≤ sz) (h : openF C sz half side at_ next = some r)
    (hC : ∀ i, at_ ≤ i → i < r.2.2 → C'.getD (side * half + i) [] = C.getD (side * half + i) []) : openF C' sz half side at_ next = some r ∧ at_ < r.2.2 := by
  unfold openF at h ⊢
  by_cases h1 : at_ < half
  · rw [if_neg (by omega)] at h ⊢
    simp only at h ⊢
    by_cases h2 : (((C.getD (side * half + at_) []).take (sz - 16)).take 8 = signB ∧ beN ((((C.getD (side * half + at_) []).take (sz - 16)).take 24).drop 16) = next)
    · rw [if_neg (by simpa using h2)] at h
      by_cases h3 : (beN (((C.getD (side * half + at_) []).drop (sz - 16)).take 8) = beN ((((C.getD (side * half + at_) []).take (sz - 16)).take 16).drop 8) ∧ beN (((C.getD (side * half + at_) []).drop (sz - 16)).drop 8) = next + 1)
      · rw [if_neg (by simpa using h3)] at h
        by_cases h4 : beN ((((C.getD (side * half + at_) []).take (sz - 16)).take 32).drop 24) ≤ (half - at_) * (sz - 16) - 32
        · rw [if_neg (by omega)] at h
          obtain ⟨n, hn⟩ : ∃ n, n = beN ((((C.getD (side * half + at_) []).take (sz - 16)).take 32).drop 24) := ⟨_, rfl⟩
          rw [← hn] at h h4
          obtain ⟨rs, hrs, rfl⟩ := Option.map_eq_some_iff.1 h
          have hp := secsN_pos sz (32 + n) (by omega)
          have e0 : C'.getD (side * half + at_) [] = C.getD (side * half + at_) [] := hC at_ (Nat.le_refl _) (by simp; omega)
          refine ⟨?_, by simp; omega⟩
          rw [e0, if_neg (by simpa using h2), if_neg (by simpa using h3), ← hn, if_neg (by omega)]
          have e1 : ((List.range (secsN sz (32 + n) - 1)).flatMap fun i => (C'.getD (side * half + at_ + 1 + i) []).take (sz - 16)) = ((List.range (secsN sz (32 + n) - 1)).flatMap fun i => (C.getD (side * half + at_ + 1 + i) []).take (sz - 16)) := by
            rw [List.flatMap_def, List.flatMap_def]
            congr 1
            apply List.map_congr_left
            intro i hi
            rw [List.mem_range] at hi
            have := hC (at_ + 1 + i) (by omega) (by simp; omega)
            rw [show side * half + at_ + 1 + i = side * half + (at_ + 1 + i) by omega, this]
          rw [e1]; exact h
        · rw [if_pos h4] at h; cases h
      · rw [if_pos h3] at h; cases h
    · rw [if_pos h2] at h; cases h
  · rw [if_pos h1] at h; cases h

/-- Frames, one behind another, all of one turn. -/
def Chain (C : List (List UInt8)) (sz half side turn : Nat) : Nat → Nat → List (List (List UInt8)) → Nat → Prop
  | a, _, [], z => a = z
  | a, k, rs :: fs, z => ∃ m, openF C sz half side a k = some (turn, rs, m) ∧ m ≤ z ∧ Chain C sz half side turn m (k + 1) fs z

theorem Chain.le {C : List (List UInt8)} {sz half side turn a k z : Nat} {fs : List (List (List UInt8))} (hsz : 128 ≤ sz) (h : Chain C sz half side turn a k fs z) : a + fs.length ≤ z := by
  induction fs generalizing a k with
  | nil => have : a = z := h; simp; omega
  | cons rs fs ih =>
    obtain ⟨m, h1, h2, h3⟩ := h
    have := (openF_local C C sz half side a k _ hsz h1 fun _ _ _ => rfl).2
    have := ih h3
    simp at *; omega

theorem Chain.local {C C' : List (List UInt8)} {sz half side turn a k z : Nat} {fs : List (List (List UInt8))} (hsz : 128 ≤ sz) (h : Chain C sz half side turn a k fs z)
    (hC : ∀ i, a ≤ i → i < z → C'.getD (side * half + i) [] = C.getD (side * half + i) []) : Chain C' sz half side turn a k fs z := by
  induction fs generalizing a k with
  | nil => exact h
  | cons rs fs ih =>
    obtain ⟨m, h1, h2, h3⟩ := h
    have h4 := openF_local C C' sz half side a k _ hsz h1 fun i hi hm => hC i hi (by simp at hm; omega)
    have h5 := h4.2
    simp at h5
    exact ⟨m, h4.1, h2, ih h3 fun i hi hz => hC i (by omega) hz⟩

theorem Chain.snoc {C : List (List UInt8)} {sz half side turn a k z m : Nat} {fs : List (List (List UInt8))} {rs : List (List UInt8)} (h : Chain C sz half side turn a k fs z) (hm : z ≤ m)
    (ho : openF C sz half side z (k + fs.length) = some (turn, rs, m)) : Chain C sz half side turn a k (fs ++ [rs]) m := by
  induction fs generalizing a k with
  | nil => have : a = z := h; subst this; exact ⟨m, by simpa using ho, Nat.le_refl _, rfl⟩
  | cons r fs ih =>
    obtain ⟨m', h1, h2, h3⟩ := h
    exact ⟨m', h1, by omega, ih h3 (by rw [← ho]; congr 1; simp; omega)⟩

/-- No sector from a place on begins a frame of this turn and of a number from next on. -/
def Free (C : List (List UInt8)) (sz half side turn a next : Nat) : Prop :=
  ∀ i, a ≤ i → i < half → ¬ (beN (((C.getD (side * half + i) []).drop (sz - 16)).take 8) = turn ∧ next < beN (((C.getD (side * half + i) []).drop (sz - 16)).drop 8))

theorem Free.stop {C : List (List UInt8)} {sz half side turn a next : Nat} (h : Free C sz half side turn a next) {t : Nat} {r : List (List UInt8)} {m : Nat} (ho : openF C sz half side a next = some (t, r, m)) : t ≠ turn := by
  rintro rfl
  unfold openF at ho
  by_cases h1 : a < half
  · rw [if_neg (by omega)] at ho
    simp only at ho
    split at ho
    · cases ho
    · split at ho
      · cases ho
      · rename_i h3
        split at ho
        · cases ho
        · obtain ⟨rs, _, e⟩ := Option.map_eq_some_iff.1 ho
          have h3 := Decidable.not_not.1 h3
          simp only [Prod.mk.injEq] at e
          exact h a (Nat.le_refl _) h1 ⟨by rw [h3.1, e.1], by rw [h3.2]; omega⟩
  · rw [if_pos h1] at ho; cases ho

theorem beN_zeros : ∀ n, beN (List.replicate n 0) = 0 := by
  intro n
  unfold beN
  induction n with
  | zero => rfl
  | succ n ih => rw [List.replicate_succ, List.foldl_cons]; simpa using ih

theorem openF_behind {C : List (List UInt8)} {sz half side a k : Nat} {r : Nat × List (List UInt8) × Nat} (hsz : 128 ≤ sz) (h : openF C sz half side a k = some r) : r.2.2 ≤ half := by
  unfold openF at h
  by_cases h1 : a < half
  · rw [if_neg (by omega)] at h
    simp only at h
    split at h
    · cases h
    · split at h
      · cases h
      · split at h
        · cases h
        · rename_i h4
          obtain ⟨n, hn⟩ : ∃ n, n = beN ((((C.getD (side * half + a) []).take (sz - 16)).take 32).drop 24) := ⟨_, rfl⟩
          rw [← hn] at h h4
          obtain ⟨rs, _, rfl⟩ := Option.map_eq_some_iff.1 h
          have h5 := Decidable.not_not.1 h4
          have h6 : (half - a) * (sz - 16) ≥ 1 * 112 := Nat.mul_le_mul (by omega) (by omega)
          have := secsN_le sz (32 + n) (half - a) (by omega) (by omega)
          simp; omega
  · rw [if_pos h1] at h; cases h

theorem openF_congr (C C' : List (List UInt8)) (sz half side a k : Nat) (hsz : 128 ≤ sz) (hC : ∀ i, i < half → C'.getD (side * half + i) [] = C.getD (side * half + i) []) : openF C' sz half side a k = openF C sz half side a k := by
  cases h : openF C sz half side a k with
  | some r => exact (openF_local C C' sz half side a k r hsz h fun i _ hi => hC i (by have := openF_behind hsz h; omega)).1
  | none =>
    cases h' : openF C' sz half side a k with
    | none => rfl
    | some r =>
      have := (openF_local C' C sz half side a k r hsz h' fun i _ hi => (hC i (by have := openF_behind hsz h'; omega)).symm).1
      rw [h] at this; cases this

/-- The content of a disk with a log of one turn, 0: its frames; the sector behind them. -/
structure LogInv (C : List (List UInt8)) (sz : Nat) (fs : List (List (List UInt8))) (a : Nat) : Prop where
  s1 : 128 ≤ sz
  s2 : sz ≤ 4096
  n1 : 16 ≤ C.length
  n2 : C.length ≤ 4096
  all : ∀ b ∈ C, b.length = sz
  a1 : a ≤ C.length / 2
  chain : Chain C sz (C.length / 2) 0 0 0 0 fs a
  free : Free C sz (C.length / 2) 0 0 a fs.length
  other : openF C sz (C.length / 2) 1 0 0 = none
  empty : fs = [] → openF C sz (C.length / 2) 0 0 0 = none

theorem openF_zero (N sz half side : Nat) (s1 : 128 ≤ sz) (hp : side * half < N) : openF (List.replicate N (List.replicate sz 0)) sz half side 0 0 = none := by
  unfold openF
  have e : (List.replicate N (List.replicate sz (0 : UInt8))).getD (side * half + 0) [] = List.replicate sz 0 := by
    rw [Nat.add_zero, List.getD, List.getElem?_replicate, if_pos hp]; rfl
  by_cases hh : 0 < half
  · rw [if_neg (by omega)]
    simp only [e]
    rw [if_pos]
    rintro ⟨h, _⟩
    rw [List.take_replicate, List.take_replicate, show min 8 (min (sz - 16) sz) = 8 by omega] at h
    exact absurd h (by decide)
  · rw [if_pos hh]

theorem LogInv.zero (N sz : Nat) (s1 : 128 ≤ sz) (s2 : sz ≤ 4096) (n1 : 16 ≤ N) (n2 : N ≤ 4096) : LogInv (List.replicate N (List.replicate sz 0)) sz [] 0 := by
  refine ⟨s1, s2, by simpa using n1, by simpa using n2, fun b hb => by rw [List.eq_of_mem_replicate hb]; simp, Nat.zero_le _, rfl, ?_, ?_, ?_⟩
  · intro i _ hi h
    rw [List.length_replicate] at hi h
    have e : (List.replicate N (List.replicate sz (0 : UInt8))).getD (0 * (N / 2) + i) [] = List.replicate sz 0 := by
      rw [Nat.zero_mul, Nat.zero_add, List.getD, List.getElem?_replicate, if_pos (by omega)]; rfl
    rw [e, List.drop_replicate, List.drop_replicate, beN_zeros] at h
    simp at h
  · rw [List.length_replicate]; exact openF_zero N sz _ 1 s1 (by omega)
  · intro _; rw [List.length_replicate]; exact openF_zero N sz _ 0 s1 (by omega)

/-- What a commit leaves. -/
def committed (C : List (List UInt8)) (sz next a : Nat) (rs : List (List UInt8)) : List (List UInt8) :=
  layTo C a (secsN sz (32 + (body rs).length)) (secB sz 0 next (frameB 0 next rs)) 0

theorem LogInv.commit {C : List (List UInt8)} {sz a : Nat} {fs : List (List (List UInt8))} (h : LogInv C sz fs a) (rs : List (List UInt8)) (hrs : ∀ r ∈ rs, r.length < 256 ^ 4)
    (hfit : 32 + (body rs).length ≤ (C.length / 2 - a) * (sz - 16)) : LogInv (committed C sz fs.length a rs) sz (fs ++ [rs]) (a + secsN sz (32 + (body rs).length)) := by
  obtain ⟨s1, s2, n1, n2, all, a1, chain, free, other, empty⟩ := h
  obtain ⟨C', hC'⟩ : ∃ C', C' = committed C sz fs.length a rs := ⟨_, rfl⟩
  obtain ⟨n, hn⟩ : ∃ n, n = secsN sz (32 + (body rs).length) := ⟨_, rfl⟩
  have hl : C'.length = C.length := by rw [hC', committed, layTo_length]
  have hfs : fs.length ≤ 4096 := by have := chain.le s1; omega
  have hnle : a + n ≤ C.length / 2 := by have := secsN_le sz _ _ (by omega) hfit; omega
  have hget : ∀ p, C'.getD p [] = if a ≤ p ∧ p < a + n then secB sz 0 fs.length (frameB 0 fs.length rs) (p - a) else C.getD p [] := by
    intro p
    rw [hC', committed, layTo_get, ← hn, Nat.add_zero]
    by_cases hp : a ≤ p ∧ p < a + n
    · rw [if_pos hp, if_pos ⟨hp.1, hp.2, by omega⟩]
    · rw [if_neg hp, if_neg (fun h => hp ⟨h.1, h.2.1⟩)]
  have hb : (body rs).length < 256 ^ 7 := by
    have h1 : (C.length / 2 - a) * (sz - 16) ≤ 4096 * 4096 := Nat.mul_le_mul (by omega) (by omega)
    have : (256 : Nat) ^ 7 = 72057594037927936 := by decide
    omega
  have e8 : (256 : Nat) ^ 8 = 18446744073709551616 := by decide
  have e7 : (256 : Nat) ^ 7 = 72057594037927936 := by decide
  rw [← hC', ← hn]
  refine ⟨s1, s2, by omega, by omega, ?_, by omega, ?_, ?_, ?_, fun h => by simp at h⟩
  · rw [hC']; exact layTo_all _ _ _ _ _ _ all fun i => secB_length _ _ _ _ _ (by omega)
  · rw [hl]
    refine (chain.local s1 fun i _ hi => ?_).snoc (by omega) ?_
    · rw [hget, if_neg (by omega)]
    · rw [Nat.zero_add, hn]
      refine openF_laid C' sz _ 0 a 0 fs.length rs s1 (by omega) (by omega) (by omega) hfit hrs fun i hi => ?_
      rw [hget, if_pos (by omega)]
      congr 1; omega
  · rw [hl]
    intro i hi hi2
    have := free i (by omega) hi2
    rw [hget, if_neg (by omega)]
    rintro ⟨g1, g2⟩
    exact this ⟨g1, by rw [List.length_append] at g2; simp only [List.length_cons, List.length_nil] at g2; omega⟩
  · rw [hl, openF_congr C C' sz _ 1 0 0 s1 fun i hi => by rw [hget, if_neg (by omega)]]
    exact other

theorem LogInv.count {C : List (List UInt8)} {sz a : Nat} {fs : List (List (List UInt8))} (h : LogInv C sz fs a) : fs.length ≤ a := by have := h.chain.le h.s1; omega

/-- The last frame is followed by none. -/
theorem LogInv.last {C : List (List UInt8)} {sz a : Nat} {fs : List (List (List UInt8))} (h : LogInv C sz fs a) {t : Nat} {r : List (List UInt8)} {m : Nat} (ho : openF C sz (C.length / 2) 0 a fs.length = some (t, r, m)) : t ≠ 0 := h.free.stop ho

/-- The first frame, where there is one, has turn 0. -/
theorem LogInv.first {C : List (List UInt8)} {sz a : Nat} {fs : List (List (List UInt8))} (h : LogInv C sz fs a) {t : Nat} {r : List (List UInt8)} {m : Nat} (ho : openF C sz (C.length / 2) 0 0 0 = some (t, r, m)) : t = 0 := by
  cases fs with
  | nil => rw [h.empty rfl] at ho; cases ho
  | cons f fs =>
    obtain ⟨m', h1, _⟩ := h.chain
    rw [h1] at ho
    cases ho; rfl

end Go.Proofs.YtbhjdddiihfafaaGreatDoor
/- A disk that never fails, by what it reads as; a log on it. -/
namespace Go.Proofs.YtbhjdddiihfafaaGreatDoor
open Go.RowKit Go.Maps

/-- What a disk reads as, sector by sector. -/
def Dk.cont (D : Dk) : List (List UInt8) := (List.range D.sure.length).map fun (i : Nat) => D.read (i : Int)

/-- There is power for ever; it reads as C. -/
structure Dk.Well (D : Dk) (C : List (List UInt8)) (sz : Nat) : Prop where
  ok : D.Ok
  cut : D.cut = -1
  dead : D.dead = false
  cont : D.cont = C
  size : D.size = sz

section
variable {D : Dk} {C : List (List UInt8)} {sz : Nat}

theorem Dk.cont_length (D : Dk) : D.cont.length = D.sure.length := by simp [Dk.cont]

theorem Dk.cont_get (D : Dk) {i : Nat} (h : i < D.sure.length) : D.cont.getD i [] = D.read i := by simp [Dk.cont, List.getD, h]

theorem Dk.Well.len (h : D.Well C sz) : C.length = D.sure.length := by rw [← h.cont, Dk.cont_length]

theorem Dk.Well.at (h : D.Well C sz) {i : Nat} (hi : i < C.length) : D.at (i : Int) = 0 := by
  unfold Dk.at
  rw [if_neg (by rw [h.dead]; simp), if_neg (by rw [h.len] at hi; omega)]

theorem Dk.Well.read (h : D.Well C sz) {i : Nat} (hi : i < C.length) : D.read (i : Int) = C.getD i [] := by
  rw [← h.cont, Dk.cont_get D (by rw [← h.len]; exact hi)]

theorem Dk.Well.power (h : D.Well C sz) : D.power = (0, D) := by
  unfold Dk.power; rw [h.cut]; rfl

theorem kget_int_self {α : Type} (l : List (Lit × α)) (i : Nat) (v : α) : kget (kput l (.int .i64 i) v) (.int .i64 i) = some v := by
  unfold kget kput
  rw [show (kins (Lit.int .i64 (i : Int), v) (kdel l (.int .i64 i))).find? (fun p => p.1.sameKey (.int .i64 i)) = some (Lit.int .i64 (i : Int), v) from ?_]
  · rfl
  · generalize hm : kdel l (.int .i64 i) = m
    have hno : ∀ y ∈ m, y.1.sameKey (.int .i64 i) = false := fun y hy => by
      rw [← hm] at hy
      have := (List.mem_filter.1 hy).2
      simpa using this
    clear hm
    induction m with
    | nil => simp [kins, Lit.sameKey]
    | cons y r ih =>
      unfold kins
      split
      · rw [List.find?_cons]; simp [Lit.sameKey]
      · rw [List.find?_cons, hno y (by simp)]; exact ih fun z hz => hno z (by simp [hz])

theorem kget_int_ne {α : Type} (l : List (Lit × α)) {i j : Nat} (h : i ≠ j) (v : α) : kget (kput l (.int .i64 i) v) (.int .i64 j) = kget l (.int .i64 j) := by
  have h1 : ∀ (m : List (Lit × α)), (kins (Lit.int .i64 (i : Int), v) m).find? (fun p => p.1.sameKey (.int .i64 j)) = m.find? (fun p => p.1.sameKey (.int .i64 j)) := by
    intro m
    have hx : (Lit.int .i64 (i : Int)).sameKey (.int .i64 j) = false := by simp [Lit.sameKey]; omega
    induction m with
    | nil => simp [kins, hx]
    | cons y r ih =>
      unfold kins
      split
      · rw [List.find?_cons, hx]
      · rw [List.find?_cons, List.find?_cons, ih]
  have h2 : (kdel l (.int .i64 i)).find? (fun p => p.1.sameKey (.int .i64 j)) = l.find? (fun p => p.1.sameKey (.int .i64 j)) := by
    unfold kdel
    induction l with
    | nil => rfl
    | cons y r ih =>
      rw [List.filter_cons]
      by_cases hq : y.1.sameKey (.int .i64 i) = true
      · rw [hq]
        have : y.1.sameKey (.int .i64 j) = false := by
          cases hy : y.1 with
          | int k n => rw [hy] at hq; simp [Lit.sameKey] at hq ⊢; intro _; omega
          | _ => rw [hy] at hq; simp [Lit.sameKey] at hq
        simp only [Bool.not_true, Bool.false_eq_true, if_false]
        rw [List.find?_cons, this]; exact ih
      · rw [show y.1.sameKey (.int .i64 i) = false by simpa using hq]
        simp only [Bool.not_false, if_true]
        rw [List.find?_cons, List.find?_cons, ih]
  unfold kget kput
  rw [h1, h2]

theorem Dk.Well.write (h : D.Well C sz) {i : Nat} (hi : i < C.length) {b : List UInt8} (hb : b.length = sz) : (D.write i b).1 = 0 ∧ (D.write i b).2.Well (C.set i b) sz := by
  have hp := h.power
  have e : D.write i b = (0, { D with dirty := kput D.dirty (.int .i64 i) b }) := by
    unfold Dk.write
    rw [if_neg (by rw [h.at hi]; simp), if_neg (by rw [h.size]; simpa using hb), hp, if_neg (by simp)]
  have hl := (h.ok.write_like i b)
  rw [e] at hl ⊢
  refine ⟨rfl, hl.1, h.cut, h.dead, ?_, hl.2.2.trans h.size⟩
  apply List.ext_getElem
  · rw [Dk.cont_length, List.length_set]; exact h.len.symm
  · intro j h1 h2
    have hj : j < D.sure.length := by rw [Dk.cont_length] at h1; exact h1
    have hjC : j < C.length := by rw [h.len]; exact hj
    have e1 : (Dk.cont { D with dirty := kput D.dirty (.int .i64 i) b })[j] = Dk.read { D with dirty := kput D.dirty (.int .i64 i) b } j := by simp [Dk.cont]
    rw [e1, List.getElem_set]
    by_cases e2 : i = j
    · subst e2
      rw [if_pos rfl, Dk.read, kget_int_self]; rfl
    · rw [if_neg e2, Dk.read, kget_int_ne _ e2]
      have := h.read hjC
      rw [Dk.read] at this
      rw [this]; simp [List.getD, hjC]

theorem laid_get : ∀ (dirty : List (Lit × List UInt8)) (sure : List (List UInt8)) (j : Nat), j < sure.length → (∀ p ∈ dirty, ∃ i : Nat, p.1 = .int .i64 i) → Rise dirty →
    (laid sure dirty).getD j [] = (kget dirty (.int .i64 j)).getD (sure.getD j [])
  | [], sure, j, _, _, _ => by simp [laid, kget]
  | p :: r, sure, j, hj, hk, hr => by
    obtain ⟨h1, h2⟩ := List.pairwise_cons.1 hr
    obtain ⟨i, hi⟩ := hk p (by simp)
    have hki : (keyI p.1).toNat = i := by rw [hi]; simp [keyI]
    have ih := laid_get r (sure.set i p.2) j (by simpa using hj) (fun q hq => hk q (by simp [hq])) h2
    rw [laid, List.foldl_cons, hki]
    rw [laid] at ih
    rw [ih]
    have hset : (sure.set i p.2).getD j [] = if i = j then p.2 else sure.getD j [] := by
      simp only [List.getD, List.getElem?_set]
      by_cases e : i = j
      · subst e; simp [hj]
      · simp [e]
    unfold kget
    rw [List.find?_cons, hi]
    by_cases e : i = j
    · subst e
      have hno : r.find? (fun p => p.1.sameKey (.int .i64 i)) = none := by
        rw [List.find?_eq_none]
        intro q hq
        obtain ⟨i', hi'⟩ := hk q (by simp [hq])
        have := h1 q hq
        rw [hi, hi'] at this
        simp [Lit.before] at this
        rw [hi']; simp [Lit.sameKey]; omega
      have hse : (Lit.int .i64 (i : Int)).sameKey (.int .i64 i) = true := by simp [Lit.sameKey]
      rw [hno, hse, hset]; simp
    · have hse : (Lit.int .i64 (i : Int)).sameKey (.int .i64 j) = false := by simp [Lit.sameKey]; omega
      rw [hse, hset, if_neg e]

theorem Dk.Well.flush (h : D.Well C sz) : D.flush.1 = 0 ∧ D.flush.2.Well C sz := by
  have hp := h.power
  have e : D.flush = (0, D.settle) := by
    unfold Dk.flush
    rw [if_neg (by rw [h.dead]; simp), hp, if_neg (by simp)]
  have hs := h.ok.settle
  rw [e]
  refine ⟨rfl, hs.1, h.cut, h.dead, ?_, hs.2.trans h.size⟩
  have hl : D.settle.sure.length = D.sure.length := laid_length _ _
  rw [← h.cont]
  apply List.ext_getElem
  · rw [Dk.cont_length, Dk.cont_length, hl]
  · intro j h1 h2
    have hj : j < D.sure.length := by rw [Dk.cont_length] at h2; exact h2
    have e1 : D.settle.cont[j] = D.settle.read j := by simp [Dk.cont]
    have e2 : D.cont[j] = D.read j := by simp [Dk.cont]
    rw [e1, e2, Dk.read, Dk.read]
    have := laid_get D.dirty D.sure j hj (fun p hp => by obtain ⟨_, i, hi, _⟩ := h.ok.dirt p hp; exact ⟨i, hi⟩) h.ok.rise
    simp only [Dk.settle, Int.toNat_natCast]
    rw [show kget ([] : List (Lit × List UInt8)) (.int .i64 (j : Int)) = none from rfl, Option.getD_none, this]

theorem Dk.new_well (n size : Int) : (Dk.new n size).Well (List.replicate (min (max n 1) 4096).toNat (List.replicate (min (max size 64) 4096).toNat 0)) (min (max size 64) 4096).toNat := by
  have hok := Dk.new_ok n size
  have hl : (Dk.new n size).sure.length = (min (max n 1) 4096).toNat := by simp [Dk.new]
  refine ⟨hok, rfl, rfl, ?_, ?_⟩
  · apply List.ext_getElem
    · rw [Dk.cont_length, hl, List.length_replicate]
    · intro j h1 h2
      rw [List.length_replicate] at h2
      rw [List.getElem_replicate]
      simp only [Dk.cont, List.getElem_map, List.getElem_range, Dk.read]
      rw [show (Dk.new n size).dirty = [] from rfl, show kget ([] : List (Lit × List UInt8)) (.int .i64 (j : Int)) = none from rfl, Option.getD_none, Int.toNat_natCast]
      rw [show (Dk.new n size).sure = List.replicate (min (max n 1) 4096).toNat (List.replicate (min (max size 64) 4096).toNat 0) from rfl]
      simp [List.getD, h2]
  · exact Dk.size_of hok.n1 _ fun b hb => by
      rw [List.eq_of_mem_replicate (show b ∈ List.replicate (min (max n 1) 4096).toNat (List.replicate (min (max size 64) 4096).toNat 0) from hb)]; simp

theorem Dk.Well.all (h : D.Well C sz) : ∀ b ∈ C, b.length = sz := by
  intro b hb
  rw [← h.cont] at hb
  simp only [Dk.cont, List.mem_map, List.mem_range] at hb
  obtain ⟨i, hi, rfl⟩ := hb
  rw [Dk.read]
  cases hg : kget D.dirty (.int .i64 i) with
  | none =>
    rw [Option.getD_none, ← h.size]
    refine h.ok.all _ ?_
    simp [List.getD, hi]
  | some v =>
    obtain ⟨q, hq, e⟩ := Option.map_eq_some_iff.1 hg
    have := (h.ok.dirt q (List.mem_of_find?_eq_some hq)).1
    rw [Option.getD_some, ← e, this, h.size]
end

/-- What turned is new. -/
theorem fra_new {w a w' : World} {g : Nat} (h0 : FrA w a) (h : Fr (fun k _ => k ≠ g) a w') (hg : w.heap.size ≤ g) : FrA w w' :=
  ⟨h.os.trans h0.os, h.tape.trans h0.tape, h.output.trans h0.output, Nat.le_trans h0.size h.size, fun k o ho _ => h.keep _ _ (h0.keep _ _ ho trivial) (by have := lt_of_heap ho; omega)⟩

/-- One step of a region that draws: 'copy(x[:m], s)', x a row of bytes of one's own. -/
theorem step_copy8 {ops : Array Oper} {o : Oper} {a : Act} {w : World} {K : Act → World → Prop} {Q : Exit → Act → World → Prop} {E : Prop} (hgd : o.guard = none) (d s : Operand)
    (ho : o.op = .call { callee := .builtin .copy, args := #[d, s], argTypes := #[41, 41] }) {g m c1 n2 c2 T : Nat} {sp : Option Addr} (hd : a.eval d = .slice (some ⟨g, 0, none⟩) m c1) (hs : a.eval s = .slice sp n2 c2)
    (cur : List Value) (t : TypeId) (hg : w.heap[g]? = some (.cells cur.toArray t (0, 0))) (src : List UInt8) (hsrc : Sl w T 5 1 sp n2 c2 (src.map u8)) (hfit : m ≤ cur.length)
    (h : ∀ w', w'.heap[g]? = some (.cells (((src.take m).map u8) ++ cur.drop (min m src.length)).toArray t (0, 0)) → Fr (fun k _ => k ≠ g) w w' → w'.heap.size = w.heap.size → K (a.put o.dst (goInt ((min m src.length : Nat) : Int))) w') :
    if Region.wanted o (yielded ops a.tmps) = true then Oper.wp Tryz.prog o a w K Q else E := by
  have hw : Region.wanted o (yielded ops a.tmps) = true := by simp [Region.wanted, hgd]
  rw [if_pos hw]
  have hl : src.length = n2 := by have := hsrc.1; simpa using this
  have hz : (Tryz.prog.info? 5).map (·.size) = some 1 := by obtain ⟨i0, hi, hz0, hz1, hz2⟩ := info_parts elU8.info; simp [hi, hz1]
  by_cases h0 : min n2 m = 0
  · have hrun := run_copy_none (P := Tryz.prog) w 41 41 o.type 5 (some ⟨g, 0, none⟩) sp m c1 n2 c2 elU8.und hz h0
    have e : src.take m = [] := by apply List.eq_nil_of_length_eq_zero; rw [List.length_take]; omega
    have e2 : min m src.length = 0 := by omega
    rw [e, e2] at h
    unfold Oper.wp
    simp [execOp, ho, resolve, invoke, builtin, hd, hs, hrun, Result.andThen]
    exact h w (by simpa using hg) (Fr.refl _ _) rfl
  · obtain ⟨b, off, rfl, _, hc⟩ := hsrc.at (by omega)
    have hrun := run_copy_row (P := Tryz.prog) w 41 41 o.type 5 g 0 m c1 ⟨b, off, none⟩ n2 c2 cur.toArray t ((src.take m).map u8) elU8.und hz hg
      (by show _ = min n2 m; rw [List.length_map, List.length_take]; omega) (by
        intro j v hj
        have hjl : j < (src.take m).length := by have := (List.getElem?_eq_some_iff.1 hj).1; simpa using this
        rw [List.length_take] at hjl
        have e : (Addr.mk b off none).add j = ⟨b, off + j, none⟩ := by
          cases j with
          | zero => rfl
          | succ j => simp [Addr.add]
        rw [e, hc j (by omega)]
        rw [List.getElem?_map, List.getElem?_take_of_lt (by omega)] at hj
        rw [List.getElem?_map]; exact hj) (by rw [List.length_map, List.length_take, List.size_toArray]; omega) (by intro v hv; rw [List.mem_map] at hv; obtain ⟨x, _, rfl⟩ := hv; rfl)
    unfold Oper.wp
    simp [execOp, ho, resolve, invoke, builtin, hd, hs, hrun, Result.andThen]
    exact h _ (by rw [heap_setRow hg]; try simp) (fr_setRow _ _ _) (by simp [World.setRow])

end Go.Proofs.YtbhjdddiihfafaaGreatDoor
