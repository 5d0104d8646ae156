/- The writer of package code: each of its calls appends what the document's form of a number, a text, a truth is. -/
import Derived.Test.YtbhjdddiihfafaaGreatDoorJEls
set_option linter.unusedVariables false
set_option linter.unusedSimpArgs false
namespace Go.Proofs.YtbhjdddiihfafaaGreatDoor
open Go.RowKit

/-- A number's bytes, seven bits each, the lowest first. -/
def num (x : Nat) : List UInt8 := if h : x < 128 then [UInt8.ofNat x] else UInt8.ofNat (x % 128 + 128) :: num (x / 128)
termination_by x
decreasing_by omega

/-- A writer at block bw whose blocks are from B on, and what it has written. -/
def WrAt (w : World) (B bw : Nat) (l : List UInt8) : Prop :=
  B ≤ bw ∧ ∃ v, w.heap[bw]? = some (.cells #[v] 230 (0, 0)) ∧ w.ownsRow B 5 1 v l.length (l.map u8)

theorem WrAt.alloc {w : World} {B bw : Nat} {l : List UInt8} (h : WrAt w B bw l) (o : Obj) : WrAt (w.alloc o) B bw l := by
  obtain ⟨h1, v, h2, h3⟩ := h
  exact ⟨h1, v, heap_alloc_keep h2 _, h3.alloc _⟩

/-- What a writer's calls leave as it is. -/
abbrev WK (B : Nat) : Nat → Obj → Prop := KB B [5, 230]

theorem or128_fin : ∀ m : Fin 256, bits BinOp.or IntKind.u8 ((m.val : Nat) : Int) 128 = ((m.val % 128 + 128 : Nat) : Int) := by decide +kernel

theorem or128 (x : Nat) : bits BinOp.or IntKind.u8 ((x : Int) % 256) 128 = ((UInt8.ofNat (x % 128 + 128)).toNat : Int) := by
  have h := or128_fin ⟨x % 256, Nat.mod_lt _ (by omega)⟩
  simp only at h
  rw [show ((x : Int) % 256) = ((x % 256 : Nat) : Int) from by omega, h, UInt8.toNat_ofNat']
  omega

theorem mod256 (x : Nat) : ((x : Int) % 256) = ((UInt8.ofNat x).toNat : Int) := by
  rw [UInt8.toNat_ofNat']; omega

theorem num_small {x : Nat} (h : x < 128) : num x = [UInt8.ofNat x] := by rw [num, dif_pos h]

theorem num_big {x : Nat} (h : ¬ x < 128) : num x = UInt8.ofNat (x % 128 + 128) :: num (x / 128) := by rw [num, dif_neg h]

theorem num_pos (x : Nat) : 0 < (num x).length := by
  by_cases h : x < 128
  · rw [num_small h]; simp
  · rw [num_big h]; simp

theorem take_flat {α : Type} (f : Nat → List α) (xs : List Nat) (k : Nat) (h : k < xs.length) : (xs.take (k + 1)).flatMap f = (xs.take k).flatMap f ++ f (xs.getD k 0) := by
  rw [List.take_succ_eq_append_getElem h, List.flatMap_append]
  simp [List.getD, h]

theorem len_flat {α : Type} (f : Nat → List α) (xs : List Nat) (k : Nat) (h : k < xs.length) : ((xs.take k).flatMap f).length + (f (xs.getD k 0)).length ≤ (xs.flatMap f).length := by
  have h1 := take_flat f xs k h
  have h2 : (xs.flatMap f) = (xs.take (k + 1)).flatMap f ++ (xs.drop (k + 1)).flatMap f := by rw [← List.flatMap_append, List.take_append_drop]
  rw [h2, h1]; simp

/-- Behind an append to the writer's row: the writer's own cell as it was; what it is when the new slice has been stored. -/
theorem WrAt.app {w0 w w1 : World} {B bw : Nat} {v v' : Value} {l : List UInt8} {b : List UInt8} {o : Obj} (hB : B ≤ bw) (hbw : w.heap[bw]? = some (.cells #[v] 230 (0, 0)))
    (hown : w.ownsRow B 5 1 v l.length (l.map u8)) (hfr : Fr (WK B) w0 w) {n : Nat} {xs : List Value} (hn : n = (l ++ b).length) (hxs : xs = (l ++ b).map u8)
    (hown1 : w1.ownsRow B 5 1 v' n xs) (hgr : (w.alloc o).grownBy w1 v.ownBlock ∨ w.grownBy w1 v.ownBlock) :
    w1.heap[bw]? = some (.cells #[v] 230 (0, 0)) ∧ WrAt (w1.setCell ⟨bw, 0, none⟩ v') B bw (l ++ b) ∧ Fr (WK B) w0 (w1.setCell ⟨bw, 0, none⟩ v') := by
  have h1 : w1.heap[bw]? = some (.cells #[v] 230 (0, 0)) := by
    rcases hgr with hgr | hgr
    · exact grown_keep hgr hbw (row_ne hown hbw (by decide))
    · rw [hgr.block bw (lt_of_heap hbw) (row_ne hown hbw (by decide))]; exact hbw
  have h2 : Fr (WK B) w0 w1 := by
    rcases hgr with hgr | hgr
    · exact (hfr.alloc o).grown hgr (KB.row hfr hown (by decide))
    · exact hfr.grown hgr (KB.row hfr hown (by decide))
  subst hn; subst hxs
  have hne : v'.ownBlock ≠ some bw := fun e => row_ne hown1 h1 (by decide) e.symm
  refine ⟨h1, ⟨hB, v', one_setCell h1, ownsRow_setCell_other hown1 hne _⟩, h2.setCell (KB.blk h2 h1 hB (by decide)) _⟩

/-- What the writer's calls take and leave. -/
def Wrote (w : World) (B bw : Nat) (l : List UInt8) (e : Ending) (w' : World) : Prop := e = .returned (.tuple #[]) ∧ WrAt w' B bw l ∧ Fr (WK B) w w'

def u64 (x : Nat) : Value := .int .u64 x

set_option maxHeartbeats 400000 in
set_option maxRecDepth 100000 in
theorem Num_any (w : World) (B bw : Nat) (l : List UInt8) (xs : List Nat) (n : Nat) (hn : xs.length = n) {T : Nat} {ao : Option Addr} {cap : Nat} (hw : WrAt w B bw l)
    (hx : Sl w T 130 1 ao n cap (xs.map u64)) (hlt : ∀ x ∈ xs, x < 18446744073709551616)
    (hlen : l.length + (xs.flatMap num).length ≤ 70368744177664) (hcx : n ≤ 70368744177664) (hBw : B ≤ w.heap.size) :
    Calls Tryz.prog 77 #[.pointer (some ⟨bw, 0, none⟩), .slice ao n cap] w (Wrote w B bw (l ++ xs.flatMap num)) := by
  subst hn
  go_enter Tryz.func77, Tryz.ntmps77
  go_wp2
  go_loopw [8] (fun i wr => ∃ k : Nat, k ≤ xs.length ∧ i = .int .i64 k ∧ WrAt wr B bw (l ++ (xs.take k).flatMap num) ∧ Fr (WK B) w wr) (fun i _ => xs.length - (intOf i).toNat)
  case atStart => exact ⟨0, Nat.zero_le _, rfl, by simpa using hw, Fr.refl _ _⟩
  case round =>
    obtain ⟨k, hk, rfl, hwr, hfr⟩ := hrel
    by_cases hkl : k < xs.length
    · obtain ⟨b, off, rfl, _, hcl⟩ := (hx.fr hfr (.inr (by decide))).at (by omega)
      obtain ⟨x0, hx0⟩ : ∃ x0, x0 = xs.getD k 0 := ⟨_, rfl⟩
      have hcell : wr.cell? ⟨b, off + k, none⟩ = some (.int .u64 (x0 : Nat)) := by rw [hcl k (by omega), hx0]; simp [hkl, u64]
      have hxl : x0 < 18446744073709551616 := by rw [hx0]; exact hlt _ (by simp [List.getD, hkl])
      have hlen2 : (l ++ (xs.take k).flatMap num ++ num x0).length ≤ 70368744177664 := by
        have := len_flat num xs k hkl
        rw [hx0]; simp only [List.length_append]; omega
      have HX := Lib.hid hx0; clear hx0 hcl
      go_wp2_with fail
      go_loopw [5] (fun xv w2 => ∃ (x' : Nat) (l' : List UInt8), xv = .int .u64 x' ∧ l' ++ num x' = (l ++ (xs.take k).flatMap num) ++ num x0 ∧ x' < 18446744073709551616 ∧ WrAt w2 B bw l' ∧ Fr (WK B) w w2) (fun xv _ => (intOf xv).toNat)
      case atStart => exact ⟨x0, _, rfl, rfl, by omega, hwr, hfr⟩
      case round =>
        obtain ⟨x', l', rfl, hl', hx', ⟨hB, v, hbw, hown⟩, hfr2⟩ := hrel
        have c0 : wr.cell? ⟨bw, 0, none⟩ = some v := cell_of_heap hbw 0
        have f0 := free_of_heap hbw 0
        have hs2 := hfr2.size
        have hl2 : l'.length + 1 ≤ 70368744177664 := by
          rw [← hl', List.length_append] at hlen2
          have := num_pos x'; omega
        by_cases hge : 128 ≤ x'
        · go_wp2_with (at_builtin; refine app_sl elU8 rfl _ _ rfl B _ _ _ rfl (hown.alloc _) rfl (Sl.new _ [_] _ 1 1 1 rfl (Nat.le_refl _) (by decide) _) (fun u hu => by simp at hu; subst hu; rfl) (by omega) (by simp; omega) ?_)
          intro v' w1 hown1 hgr
          rw [or128] at hown1
          obtain ⟨h1, h2, h3⟩ := WrAt.app (b := [UInt8.ofNat (x' % 128 + 128)]) hB hbw hown hfr2 (by simp) (by simp [u8]) hown1 (.inl hgr)
          obtain ⟨ao, cap, rfl⟩ := own_shape hown1
          have c1 : w1.cell? ⟨bw, 0, none⟩ = some v := cell_of_heap h1 0
          have f1 := free_of_heap h1 0
          clear c0 f0
          go_wp2
          go_roundw
          case rel => exact ⟨x' / 128, _, by go_num, by rw [← hl', num_big (x := x') (by omega), List.append_assoc]; rfl, by omega, h2, h3⟩
          case measure => simp [intOf]; omega
        · have hend : l' ++ [UInt8.ofNat x'] = l ++ (xs.take (k + 1)).flatMap num := by
            rw [take_flat num xs k hkl, ← HX.out, ← List.append_assoc, ← hl', num_small (by omega)]
          have HE := Lib.hid hend; clear hend
          go_wp2_with (at_builtin; refine app_sl elU8 rfl _ _ rfl B _ _ _ rfl (hown.alloc _) rfl (Sl.new _ [_] _ 1 1 1 rfl (Nat.le_refl _) (by decide) _) (fun u hu => by simp at hu; subst hu; rfl) (by omega) (by simp; omega) ?_)
          intro v' w1 hown1 hgr
          rw [show ((x' : Nat) : Int) = ((UInt8.ofNat x').toNat : Int) from by rw [UInt8.toNat_ofNat']; omega] at hown1
          obtain ⟨h1, h2, h3⟩ := WrAt.app (b := [UInt8.ofNat x']) hB hbw hown hfr2 (by simp) (by simp [u8]) hown1 (.inl hgr)
          obtain ⟨ao, cap, rfl⟩ := own_shape hown1
          have c1 : w1.cell? ⟨bw, 0, none⟩ = some v := cell_of_heap h1 0
          have f1 := free_of_heap h1 0
          rw [HE.out] at h2
          clear c0 f0
          go_wp2
          go_roundw
          case rel => exact ⟨k + 1, by omega, by go_num, h2, h3⟩
          case measure => simp [intOf]; omega
    · go_wp2
      go_end0
      obtain rfl : k = xs.length := by omega
      rw [List.take_length] at hwr
      exact ⟨rfl, hwr, hfr⟩

/-- A text's bytes. -/
def txt (s : ByteArray) : List UInt8 := num s.size ++ s.data.toList

def truth (b : Bool) : List UInt8 := num (if b then 1 else 0)

theorem take_flat' {α β : Type} (f : α → List β) (xs : List α) (k : Nat) (x : α) (h : xs[k]? = some x) : (xs.take (k + 1)).flatMap f = (xs.take k).flatMap f ++ f x := by
  have hk : k < xs.length := (List.getElem?_eq_some_iff.1 h).1
  rw [List.take_succ_eq_append_getElem hk, List.flatMap_append]
  rw [List.getElem?_eq_getElem hk] at h
  simp at h
  simp [h]

theorem len_flat' {α β : Type} (f : α → List β) (xs : List α) (k : Nat) (x : α) (h : xs[k]? = some x) : ((xs.take k).flatMap f).length + (f x).length ≤ (xs.flatMap f).length := by
  have h1 := take_flat' f xs k x h
  have h2 : (xs.flatMap f) = (xs.take (k + 1)).flatMap f ++ (xs.drop (k + 1)).flatMap f := by rw [← List.flatMap_append, List.take_append_drop]
  rw [h2, h1]; simp

theorem len_app_str (l : List UInt8) (s : ByteArray) : (l ++ s.data.toList).length = l.length + s.size := by
  rw [List.length_append, Array.length_toList]; rfl

theorem strCells_u8 (s : ByteArray) : Lib.strCells s = s.data.toList.map u8 := rfl

set_option maxHeartbeats 400000 in
set_option maxRecDepth 100000 in
theorem Text_any (w : World) (B bw : Nat) (l : List UInt8) (xs : List ByteArray) (n : Nat) (hn : xs.length = n) {T : Nat} {ao : Option Addr} {cap : Nat} (hw : WrAt w B bw l)
    (hx : Sl w T 9 1 ao n cap (xs.map Value.string)) 
    (hlen : l.length + (xs.flatMap txt).length ≤ 70368744177664) (hcx : n ≤ 70368744177664) (hBw : B ≤ w.heap.size) :
    Calls Tryz.prog 78 #[.pointer (some ⟨bw, 0, none⟩), .slice ao n cap] w (Wrote w B bw (l ++ xs.flatMap txt)) := by
  subst hn
  obtain ⟨i0, hi, hz0, hz1, hz2⟩ := info_parts elU8.info
  have ust : Tryz.prog.underlying 9 = some .string := by kernel_rfl
  go_enter Tryz.func78, Tryz.ntmps78
  go_wp2
  go_loopw [8] (fun i wr => ∃ k : Nat, k ≤ xs.length ∧ i = .int .i64 k ∧ WrAt wr B bw (l ++ (xs.take k).flatMap txt) ∧ Fr (WK B) w wr) (fun i _ => xs.length - (intOf i).toNat)
  case atStart => exact ⟨0, Nat.zero_le _, rfl, by simpa using hw, Fr.refl _ _⟩
  case round =>
    obtain ⟨k, hk, rfl, hwr, hfr⟩ := hrel
    by_cases hkl : k < xs.length
    · obtain ⟨b, off, rfl, _, hcl⟩ := (hx.fr hfr (.inr (by decide))).at (by omega)
      obtain ⟨s, hs⟩ : ∃ s, xs[k]? = some s := ⟨_, List.getElem?_eq_getElem hkl⟩
      have hcell : wr.cell? ⟨b, off + k, none⟩ = some (.string s) := by rw [hcl k (by omega)]; simp [hs]
      have hlen2 := len_flat' txt xs k s hs
      have hend := take_flat' txt xs k s hs
      have hst : (txt s).length = (num s.size).length + s.size := by simp [txt]
      have hss : s.size ≤ 70368744177664 := by omega
      have hl3 : (l ++ (xs.take k).flatMap txt).length + (num s.size).length + s.size ≤ 70368744177664 := by simp only [List.length_append]; omega
      have HE := Lib.hid hend; clear hend hcl hs hst hlen2
      go_wp2_with fail
      refine (Num_any _ B bw _ [s.size] 1 rfl (hwr.alloc _) (Sl.new _ [_] _ 1 1 1 rfl (Nat.le_refl _) (by decide) _) (by simp; omega) (by simp at hl3 ⊢; omega) (by omega) (by have := hfr.size; simp; omega)).mono ?_
      rintro e w1 ⟨rfl, ⟨hB, v, hbw, hown⟩, hfr1⟩
      simp only [List.flatMap_cons, List.flatMap_nil, List.append_nil] at hown
      have c0 : w1.cell? ⟨bw, 0, none⟩ = some v := cell_of_heap hbw 0
      have f0 := free_of_heap hbw 0
      have hs2 := hfr1.size
      have hs3 := hfr.size
      have hfr2 : Fr (WK B) w w1 := (hfr.alloc _).trans hfr1
      simp at hs2
      have hl4 : (l ++ (xs.take k).flatMap txt ++ num s.size).length + s.size ≤ 70368744177664 := by simp only [List.length_append] at hl3 ⊢; omega
      have hL : ∃ L, L = l ++ (xs.take k).flatMap txt ++ num s.size := ⟨_, rfl⟩
      obtain ⟨L, hL⟩ := hL
      rw [← hL] at hown hl4
      have HL := Lib.hid hL; clear hL hl3
      go_wp2_with (at_builtin; go_loud (refine Lib.wpList_append_own_string _ rfl (.tmp 22) (.tmp 23) _ _ rfl B 5 i0 elU8.und ust hi hz0 hz1 hz2 _ _ _ rfl hown _ rfl (by unfold maxLen; omega) (by omega) (by omega) ?_))
      intro v' w2 hown1 hgr _
      rw [strCells_u8] at hown1
      obtain ⟨h1, h2, h3⟩ := WrAt.app (o := .map #[] 0) (b := s.data.toList) hB hbw hown hfr2 (len_app_str _ _).symm (by rw [List.map_append]) hown1 (.inr hgr)
      obtain ⟨ao, cap, rfl⟩ := own_shape hown1
      have c1 : w2.cell? ⟨bw, 0, none⟩ = some v := cell_of_heap h1 0
      have f1 := free_of_heap h1 0
      clear c0 f0
      go_wp2
      go_roundw
      case rel => exact ⟨k + 1, by omega, by go_num, by rw [show L ++ s.data.toList = l ++ (xs.take (k + 1)).flatMap txt from by rw [HL.out, HE.out]; simp [txt]] at h2; exact h2, h3⟩
      case measure => simp [intOf]; omega
    · go_wp2
      go_end0
      obtain rfl : k = xs.length := by omega
      rw [List.take_length] at hwr
      exact ⟨rfl, hwr, hfr⟩
set_option maxHeartbeats 400000 in
set_option maxRecDepth 100000 in
theorem Bool_any (w : World) (B bw : Nat) (l : List UInt8) (xs : List Bool) (n : Nat) (hn : xs.length = n) {T : Nat} {ao : Option Addr} {cap : Nat} (hw : WrAt w B bw l)
    (hx : Sl w T 4 1 ao n cap (xs.map Value.bool))
    (hlen : l.length + (xs.flatMap truth).length ≤ 70368744177664) (hcx : n ≤ 70368744177664) (hBw : B ≤ w.heap.size) :
    Calls Tryz.prog 79 #[.pointer (some ⟨bw, 0, none⟩), .slice ao n cap] w (Wrote w B bw (l ++ xs.flatMap truth)) := by
  subst hn
  go_enter Tryz.func79, Tryz.ntmps79
  go_wp2
  go_loopw [9] (fun i wr => ∃ k : Nat, k ≤ xs.length ∧ i = .int .i64 k ∧ WrAt wr B bw (l ++ (xs.take k).flatMap truth) ∧ Fr (WK B) w wr) (fun i _ => xs.length - (intOf i).toNat)
  case atStart => exact ⟨0, Nat.zero_le _, rfl, by simpa using hw, Fr.refl _ _⟩
  case round =>
    obtain ⟨k, hk, rfl, hwr, hfr⟩ := hrel
    by_cases hkl : k < xs.length
    · obtain ⟨b, off, rfl, _, hcl⟩ := (hx.fr hfr (.inr (by decide))).at (by omega)
      obtain ⟨s, hs⟩ : ∃ s, xs[k]? = some s := ⟨_, List.getElem?_eq_getElem hkl⟩
      have hcell : wr.cell? ⟨b, off + k, none⟩ = some (.bool s) := by rw [hcl k (by omega)]; simp [hs]
      have hlen2 := len_flat' truth xs k s hs
      have hend := take_flat' truth xs k s hs
      have hl3 : (l ++ (xs.take k).flatMap truth).length + (truth s).length ≤ 70368744177664 := by simp only [List.length_append]; omega
      have HE := Lib.hid hend; clear hend hcl hs hlen2
      have hs3 := hfr.size
      cases s
      all_goals
        go_wp2_with fail
        refine (Num_any _ B bw _ [_] 1 rfl (hwr.alloc _) (Sl.new _ [_] _ 1 1 1 rfl (Nat.le_refl _) (by decide) _) (by simp) (by simpa [truth] using hl3) (by omega) (by simp; omega)).mono ?_
        rintro e w1 ⟨rfl, hw1, hfr1⟩
        simp only [List.flatMap_cons, List.flatMap_nil, List.append_nil] at hw1
        have hfr2 : Fr (WK B) w w1 := (hfr.alloc _).trans hfr1
        go_wp2
        go_roundw
        case rel => exact ⟨k + 1, by omega, by go_num, by rw [HE.out]; simpa [truth] using hw1, hfr2⟩
        case measure => simp [intOf]; omega
    · go_wp2
      go_end0
      obtain rfl : k = xs.length := by omega
      rw [List.take_length] at hwr
      exact ⟨rfl, hwr, hfr⟩

/-- All that was there stays. -/
abbrev FrA (w w' : World) : Prop := Fr (fun _ _ => True) w w'

/-- A new list of bytes, and nothing else has turned. -/
def NewBytes (w : World) (l : List UInt8) (e : Ending) (w' : World) : Prop :=
  ∃ v, e = .returned v ∧ w'.ownsRow w.heap.size 5 1 v l.length (l.map u8) ∧ FrA w w'

theorem Fr.grownNew {w a b : World} {row : Option Nat} {K : Nat → Obj → Prop} (h : Fr K w a) (hg : a.grownBy b row) (hr : ∀ k, row = some k → w.heap.size ≤ k) : Fr K w b :=
  h.grown hg (fun k o e ho => by have := hr k e; have := lt_of_heap ho; omega)

set_option maxHeartbeats 400000 in
set_option maxRecDepth 100000 in
theorem CloneBytes_any (w : World) (l : List UInt8) (n : Nat) (hn : l.length = n) {T E : Nat} {ao : Option Addr} {cap : Nat}
    (hx : Sl w T E 1 ao n cap (l.map u8)) (hlen : n ≤ 140737488355328) :
    Calls Tryz.prog 81 #[.slice ao n cap] w (NewBytes w l) := by
  subst hn
  have hnil := fun w n c => Lib.run_eql_slice_nil (P := Tryz.prog) w 41 5 ao n c 0 0 elU8.und
  cases ao with
  | none =>
    have h0 : l.length = 0 := by have := hx.2.1; have := hx.2.2.2.1 rfl; omega
    obtain rfl : l = [] := List.eq_nil_of_length_eq_zero h0
    go_enter Tryz.func81, Tryz.ntmps81
    go_wp2
    go_ret
    exact ⟨_, rfl, World.ownsRow_nil _ _ _ _, Fr.refl _ _⟩
  | some ad =>
    go_enter Tryz.func81, Tryz.ntmps81
    go_wp2_with (at_builtin; go_loud (refine app_sl elU8 rfl _ _ rfl w.heap.size _ 0 [] rfl (World.ownsRow_made _ _ 0 (Nat.le_refl _) (by decide) rfl) rfl (hx.alloc _) (fun u hu => by simp at hu; obtain ⟨x, _, rfl⟩ := hu; rfl) (by omega) (by simp) ?_))
    intro v' w1 hown hgr
    go_wp2
    go_ret
    refine ⟨_, rfl, by simpa using hown, ?_⟩
    exact ((Fr.refl _ w).alloc _).grownNew hgr (by intro k h; simp [Value.ownBlock] at h; omega)

theorem Bytes_any (w : World) (B bw : Nat) (l : List UInt8) (hw : WrAt w B bw l) (hlen : l.length ≤ 140737488355328) :
    Calls Tryz.prog 80 #[.pointer (some ⟨bw, 0, none⟩)] w (NewBytes w l) := by
  obtain ⟨hB, v, hbw, hown⟩ := hw
  obtain ⟨ao, cap, rfl⟩ := own_shape hown
  have c0 : w.cell? ⟨bw, 0, none⟩ = some (.slice ao l.length cap) := cell_of_heap hbw 0
  go_enter Tryz.func80, Tryz.ntmps80
  go_wp2_with fail
  refine (CloneBytes_any _ l _ rfl (Sl.of_own hown) hlen).mono ?_
  rintro e w1 ⟨v, rfl, h1, h2⟩
  go_wp2
  go_ret
  exact ⟨_, rfl, h1, h2⟩

theorem NewWriter_any (w : World) (B : Nat) (hB : B ≤ w.heap.size) :
    Calls Tryz.prog 76 #[] w fun e w' => ∃ bw, e = .returned (.pointer (some ⟨bw, 0, none⟩)) ∧ WrAt w' B bw [] ∧ FrA w w' ∧ w'.heap.size = w.heap.size + 1 := by
  go_enter Tryz.func76, Tryz.ntmps76
  go_wp2
  go_ret
  exact ⟨_, rfl, ⟨hB, _, heap_alloc_new _ _, World.ownsRow_nil _ _ _ _⟩, (Fr.refl _ _).alloc _, by simp⟩

end Go.Proofs.YtbhjdddiihfafaaGreatDoor
