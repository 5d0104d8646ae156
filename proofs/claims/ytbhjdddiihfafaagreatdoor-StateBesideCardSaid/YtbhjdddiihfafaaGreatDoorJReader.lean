/- The reader of package code: each of its calls reads what the document's form of a number, a text, a truth is, or fails. -/
import Derived.Test.YtbhjdddiihfafaaGreatDoorJWriter
set_option linter.unusedVariables false
set_option linter.unusedSimpArgs false
namespace Go.Proofs.YtbhjdddiihfafaaGreatDoor
open Go.RowKit

/-- A reader at block br: what is left to read, and whether it failed. -/
def RdAt (w : World) (T br : Nat) (l : List UInt8) (f : Bool) : Prop :=
  ∃ ao cap, w.heap[br]? = some (.cells #[.slice ao l.length cap, .bool f] 221 (0, 0)) ∧ Sl w T 5 1 ao l.length cap (l.map u8)

/-- What a reader's calls leave as it is. -/
abbrev RK (B : Nat) : Nat → Obj → Prop := KB B [221]

/-- What 'must' panics with. -/
def stop : List PanicEntry := [{ v := .iface 265 (.agg #[]), recovered := false }]

theorem must_true (w : World) : Calls Tryz.prog 181 #[.bool true] w fun e w' => e = .returned (.tuple #[]) ∧ w = w' := by
  go_enter Tryz.func181, Tryz.ntmps181
  go_wp2
  go_end0
  exact ⟨rfl, rfl⟩

theorem must_false (w : World) : Calls Tryz.prog 181 #[.bool false] w fun e w' => e = .panicked stop ∧ w = w' := by
  have hp : ∀ w, (Instr.panic (.iface 265 (.agg #[]))).run Tryz.prog w = .halt (.panic (.iface 265 (.agg #[]))) w := fun _ => rfl
  go_enter Tryz.func181, Tryz.ntmps181
  go_wp2
  exact ⟨rfl, rfl, rfl⟩

/-- A number, read from its i-th byte on, n what the bytes before it were. -/
def rnum : Nat → Nat → List UInt8 → Option (Nat × List UInt8)
  | _, _, [] => none
  | i, n, x :: r =>
    if i < 10 ∧ (i < 9 ∨ x.toNat ≤ 1) then
      if x.toNat < 128 then (if x ≠ 0 ∨ i = 0 then some (n + x.toNat * 2 ^ (7 * i), r) else none) else rnum (i + 1) (n + (x.toNat - 128) * 2 ^ (7 * i)) r
    else none

/-- What a reading comes to: what it tells and what is left, or the panic that 'try' meets. -/
def Reads {α : Type} (val : α → Value) (w : World) (B T br : Nat) (f : Bool) (r : Option (α × List UInt8)) (e : Ending) (w' : World) : Prop :=
  match r with
  | some (x, l) => e = .returned (val x) ∧ RdAt w' T br l f ∧ Fr (RK B) w w'
  | none => e = .panicked stop ∧ (∃ l, RdAt w' T br l f) ∧ Fr (RK B) w w'

theorem and128_fin : ∀ m : Fin 256, bits BinOp.and IntKind.u8 ((m.val : Nat) : Int) 128 = ((m.val / 128 * 128 : Nat) : Int) := by decide +kernel

theorem and128 (x : UInt8) : bits BinOp.and IntKind.u8 (x.toNat : Int) 128 = ((x.toNat / 128 * 128 : Nat) : Int) := and128_fin ⟨x.toNat, x.toNat_lt⟩

theorem andNot128_fin : ∀ m : Fin 256, bits BinOp.andNot IntKind.u8 ((m.val : Nat) : Int) 128 = ((m.val % 128 : Nat) : Int) := by decide +kernel

theorem andNot128 (x : UInt8) : bits BinOp.andNot IntKind.u8 (x.toNat : Int) 128 = ((x.toNat % 128 : Nat) : Int) := andNot128_fin ⟨x.toNat, x.toNat_lt⟩

theorem wraps_u64 (n : Int) (h₀ : 0 ≤ n) (h₁ : n < 2 ^ 64) : IntKind.u64.wrap n = n := by rw [IntKind.wrap_u64]; omega

theorem or_u64 (a b : Nat) (ha : a < 2 ^ 64) (hb : b < 2 ^ 64) : bits .or .u64 (a : Int) (b : Int) = ((a ||| b : Nat) : Int) :=
  (bits_nat .u64 64 (by decide) wraps_u64 a b ha hb).2

/-- One byte more of a number. -/
theorem num_acc (i n : Nat) (x : UInt8) (hn : n < 2 ^ (7 * i)) (hi : i < 9 ∨ (i = 9 ∧ x.toNat ≤ 1)) :
    bits BinOp.or IntKind.u64 (n : Int) (IntKind.u64.wrap (IntKind.u64.wrap (bits BinOp.andNot IntKind.u8 (x.toNat : Int) 128) * 2 ^ (7 * i))) = ((n + x.toNat % 128 * 2 ^ (7 * i) : Nat) : Int) ∧
    bits BinOp.or IntKind.u64 (n : Int) (bits BinOp.andNot IntKind.u8 (x.toNat : Int) 128 * 2 ^ (7 * i)) = ((n + x.toNat % 128 * 2 ^ (7 * i) : Nat) : Int) := by
  have hx := x.toNat_lt
  have hp : x.toNat % 128 * 2 ^ (7 * i) < 2 ^ 64 := by
    rcases hi with hi | ⟨rfl, hx1⟩
    · have h1 : 2 ^ (7 * i) ≤ 2 ^ 56 := Nat.pow_le_pow_right (by decide) (by omega)
      have h2 : x.toNat % 128 ≤ 127 := by omega
      calc x.toNat % 128 * 2 ^ (7 * i) ≤ 127 * 2 ^ 56 := Nat.mul_le_mul h2 h1
        _ < 2 ^ 64 := by decide
    · have h2 : x.toNat % 128 ≤ 1 := by omega
      calc x.toNat % 128 * 2 ^ (7 * 9) ≤ 1 * 2 ^ (7 * 9) := Nat.mul_le_mul_right _ h2
        _ < 2 ^ 64 := by decide
  have hn64 : n < 2 ^ 64 := Nat.lt_of_lt_of_le hn (Nat.pow_le_pow_right (by decide) (by omega))
  have e1 : IntKind.u64.wrap (bits BinOp.andNot IntKind.u8 (x.toNat : Int) 128) = ((x.toNat % 128 : Nat) : Int) := by
    rw [andNot128, wraps_u64 _ (by omega) (by omega)]
  have e2 : ((x.toNat % 128 : Nat) : Int) * 2 ^ (7 * i) = ((x.toNat % 128 * 2 ^ (7 * i) : Nat) : Int) := by
    rw [Int.natCast_mul, Int.natCast_pow]; rfl
  have e3 : bits BinOp.or IntKind.u64 (n : Int) ((x.toNat % 128 * 2 ^ (7 * i) : Nat) : Int) = ((n + x.toNat % 128 * 2 ^ (7 * i) : Nat) : Int) := by
    rw [or_u64 _ _ hn64 hp]
    have := Nat.two_pow_add_eq_or_of_lt hn (x.toNat % 128)
    rw [Nat.mul_comm, Nat.or_comm, ← this, Nat.add_comm]
  refine ⟨?_, ?_⟩
  · rw [e1, e2, wraps_u64 _ (Int.natCast_nonneg _) (by exact_mod_cast hp), e3]
  · rw [andNot128, e2, e3]

theorem RdAt.put {w w0 : World} {B T br n cap cap' : Nat} {ao ao' : Option Addr} {r : List UInt8} {f : Bool} (hb : w.heap[br]? = some (.cells #[.slice ao n cap, .bool f] 221 (0, 0)))
    (hs : Sl w T 5 1 ao' r.length cap' (r.map u8)) (hfr : Fr (RK B) w0 w) (hB : B ≤ br) :
    (w.setCell ⟨br, 0, none⟩ (.slice ao' r.length cap')).heap[br]? = some (.cells #[.slice ao' r.length cap', .bool f] 221 (0, 0)) ∧
    Sl (w.setCell ⟨br, 0, none⟩ (.slice ao' r.length cap')) T 5 1 ao' r.length cap' (r.map u8) ∧
    Fr (RK B) w0 (w.setCell ⟨br, 0, none⟩ (.slice ao' r.length cap')) := by
  refine ⟨by simp [World.setCell, Array.getElem?_modify, hb], hs.keep fun b c f _ r => ?_, hfr.setCell (KB.blk hfr hb hB (by decide)) _⟩
  rw [Below.heap_setCell _ _ _ _ (fun e => by subst e; rw [hb] at r; cases r)]; exact r

theorem rnum_cons (i n : Nat) (x : UInt8) (r : List UInt8) : rnum i n (x :: r) =
    if i < 10 ∧ (i < 9 ∨ x.toNat ≤ 1) then
      if x.toNat < 128 then (if x ≠ 0 ∨ i = 0 then some (n + x.toNat * 2 ^ (7 * i), r) else none) else rnum (i + 1) (n + (x.toNat - 128) * 2 ^ (7 * i)) r
    else none := by rw [rnum]

set_option maxHeartbeats 400000 in
set_option maxRecDepth 100000 in
theorem num_any (w : World) (B T br : Nat) (l : List UInt8) (f : Bool) (hr : RdAt w T br l f) (hB : B ≤ br) (hl : l.length ≤ 140737488355328) :
    Calls Tryz.prog 154 #[.pointer (some ⟨br, 0, none⟩)] w (Reads u64 w B T br f (rnum 0 0 l)) := by
  go_enter Tryz.func154, Tryz.ntmps154
  go_wp2
  go_loopw [3, 4] (fun nv iv wr => ∃ (i n : Nat) (r : List UInt8), nv = .int .u64 n ∧ iv = .int .i64 i ∧ n < 2 ^ (7 * i) ∧ i ≤ 10 ∧ rnum i n r = rnum 0 0 l ∧ r.length ≤ l.length ∧ RdAt wr T br r f ∧ Fr (RK B) w wr) (fun _ iv _ => 10 - (intOf iv).toNat)
  case atStart => exact ⟨0, 0, l, rfl, rfl, by simp, by omega, rfl, Nat.le_refl _, hr, Fr.refl _ _⟩
  case round =>
    obtain ⟨i, n, r, rfl, rfl, hn, hi, hrn, hrl, ⟨ao, cap, hb, hs⟩, hfr⟩ := hrel
    have c0 : wr.cell? ⟨br, 0, none⟩ = some (.slice ao r.length cap) := cell_of_heap hb 0
    have c1 : wr.cell? ⟨br, 1, none⟩ = some (.bool f) := cell_of_heap hb 1
    have f0 := free_of_heap hb 0
    have HR := Lib.hid hrn; clear hrn
    by_cases hi10 : i < 10
    · cases r with
      | nil =>
        have hnone : rnum 0 0 l = none := by rw [← HR.out, rnum]
        go_wp2_with fail
        refine (must_false _).mono ?_
        rintro e w1 ⟨rfl, rfl⟩
        go_wp2
        refine ⟨rfl, ?_⟩
        show Reads _ _ _ _ _ _ _ _ _
        rw [hnone]
        exact ⟨rfl, ⟨[], ao, cap, hb, hs⟩, hfr⟩
      | cons x r =>
        obtain ⟨b, off, rfl, hbT, hcl⟩ := hs.at (by simp)
        have hcell : wr.cell? ⟨b, off, none⟩ = some (.int .u8 x.toNat) := by have := hcl 0 (by simp); simpa [YtbhjdddiihfafaaGreatDoor.u8] using this
        have hq : rnum i n (x :: r) = rnum 0 0 l := HR.out
        rw [rnum_cons] at hq
        have HQ := Lib.hid hq; clear hq
        go_wp2_with fail
        refine (must_true _).mono ?_
        rintro e w1 ⟨rfl, rfl⟩
        have hx := x.toNat_lt
        obtain ⟨h9, hx1⟩ | h9 | ⟨h9, hx1⟩ : (9 ≤ i ∧ 1 < x.toNat) ∨ i < 9 ∨ (9 ≤ i ∧ x.toNat ≤ 1) := by omega
        · have d1 : decide ((i : Int) < 9) = false := by simp; omega
          have hxd : decide ((x.toNat : Int) ≤ 1) = false := by simp; omega
          have hnone : rnum 0 0 l = none := by rw [← HQ.out, if_neg (by omega)]
          go_wp2_with (refine slice_l elU8 rfl _ _ rfl rfl rfl 1 rfl (by simp) hs ?_)
          intro ao' hs'
          obtain ⟨g1, g2, g3⟩ := RdAt.put hb hs' hfr hB
          clear hs hcl
          go_wp2_with fail
          refine (must_false _).mono ?_
          rintro e w1 ⟨rfl, rfl⟩
          go_wp2
          refine ⟨rfl, ?_⟩
          show Reads _ _ _ _ _ _ _ _ _
          rw [hnone]
          exact ⟨rfl, ⟨r, _, _, g1, g2⟩, g3⟩
        all_goals
          try have d1 : decide ((i : Int) < 9) = false := by simp; omega
          try have hxd : decide ((x.toNat : Int) ≤ 1) = true := by simp; omega
          have hacc := num_acc i n x hn (by omega)
          have hq2 := HQ.out
          rw [if_pos (by omega)] at hq2
          have HQ2 := Lib.hid hq2; clear hq2 HQ HR
          go_wp2_with (refine slice_l elU8 rfl _ _ rfl rfl rfl 1 rfl (by simp) hs ?_)
          intro ao' hs'
          obtain ⟨g1, g2, g3⟩ := RdAt.put hb hs' hfr hB
          clear hs hcl
          go_wp2_with fail
          refine (must_true _).mono ?_
          rintro e w1 ⟨rfl, rfl⟩
          by_cases h128 : x.toNat < 128
          · have ha : (bits BinOp.and IntKind.u8 (x.toNat : Int) 128 == 0) = true := by rw [and128]; simp; omega
            have hx0 : x ≠ 0 ↔ x.toNat ≠ 0 := by rw [Ne, ← UInt8.toNat_inj]; rfl
            have hmod : x.toNat % 128 = x.toNat := by omega
            by_cases hgood : x.toNat ≠ 0 ∨ i = 0
            · have hsome : rnum 0 0 l = some (n + x.toNat % 128 * 2 ^ (7 * i), r) := by
                rw [← HQ2.out, if_pos h128, if_pos (by rw [hx0]; exact hgood), hmod]
              have HS := Lib.hid hsome
              have HA := Lib.hid hacc
              clear hsome hacc hmod hx0
              by_cases hx00 : x.toNat = 0
              · have hne : ((x.toNat : Int) != 0) = false := by simp; omega
                have hi0 : ((i : Int) == 0) = true := by simp; omega
                clear hx00
                go_wp2_with fail
                refine (must_true _).mono ?_
                rintro e w1 ⟨rfl, rfl⟩
                go_wp2
                try go_ret
                show Reads _ _ _ _ _ _ _ _ _
                rw [HS.out]
                refine ⟨?_, ⟨_, _, g1, g2⟩, g3⟩
                show Ending.returned (Value.int .u64 _) = .returned (Value.int .u64 _)
                first | rw [HA.out.1] | rw [HA.out.2]
              · have hne : ((x.toNat : Int) != 0) = true := by simp; omega
                clear hx00
                go_wp2_with fail
                refine (must_true _).mono ?_
                rintro e w1 ⟨rfl, rfl⟩
                go_wp2
                try go_ret
                show Reads _ _ _ _ _ _ _ _ _
                rw [HS.out]
                refine ⟨?_, ⟨_, _, g1, g2⟩, g3⟩
                show Ending.returned (Value.int .u64 _) = .returned (Value.int .u64 _)
                first | rw [HA.out.1] | rw [HA.out.2]
            · have hnone : rnum 0 0 l = none := by
                rw [← HQ2.out, if_pos h128, if_neg (by rw [hx0]; exact hgood)]
              have hne : ((x.toNat : Int) != 0) = false := by simp; omega
              have hi0 : ((i : Int) == 0) = false := by simp; omega
              clear hacc hmod hx0
              go_wp2_with fail
              refine (must_false _).mono ?_
              rintro e w1 ⟨rfl, rfl⟩
              go_wp2
              refine ⟨rfl, ?_⟩
              show Reads _ _ _ _ _ _ _ _ _
              rw [hnone]
              exact ⟨rfl, ⟨r, _, _, g1, g2⟩, g3⟩
          · have ha : (bits BinOp.and IntKind.u8 (x.toNat : Int) 128 == 0) = false := by rw [and128]; simp; omega
            have hlt : n + x.toNat % 128 * 2 ^ (7 * i) < 2 ^ (7 * (i + 1)) := by
              have e : 2 ^ (7 * (i + 1)) = 128 * 2 ^ (7 * i) := by rw [Nat.mul_add, Nat.pow_add, Nat.mul_comm]
              have h2 : x.toNat % 128 ≤ 127 := by omega
              have := Nat.mul_le_mul_right (2 ^ (7 * i)) h2
              omega
            have hrn : rnum (i + 1) (n + x.toNat % 128 * 2 ^ (7 * i)) r = rnum 0 0 l := by
              rw [← HQ2.out, if_neg (by omega), show x.toNat % 128 = x.toNat - 128 from by omega]
            have HR := Lib.hid hrn
            have HA := Lib.hid hacc
            clear hrn hacc
            go_wp2
            refine ⟨⟨i + 1, _, r, by first | exact congrArg _ HA.out.1 | exact congrArg _ HA.out.2, by go_num, hlt, by omega, HR.out, by simp at hrl; omega, ⟨_, _, g1, g2⟩, g3⟩, by simp [intOf]; omega⟩
    · have hnone : rnum 0 0 l = none := by
        rw [← HR.out]
        cases r with
        | nil => rw [rnum]
        | cons x r => rw [rnum_cons, if_neg (by omega)]
      go_wp2_with fail
      refine (must_false _).mono ?_
      rintro e w1 ⟨rfl, rfl⟩
      go_wp2
      refine ⟨rfl, ?_⟩
      show Reads _ _ _ _ _ _ _ _ _
      rw [hnone]
      exact ⟨rfl, ⟨r, _, _, hb, hs⟩, hfr⟩

def rtext (l : List UInt8) : Option (List UInt8 × List UInt8) :=
  match rnum 0 0 l with
  | some (n, r) => if n ≤ r.length then some (r.take n, r.drop n) else none
  | none => none

def rbool : List UInt8 → Option (Bool × List UInt8)
  | [] => none
  | x :: r => if x.toNat ≤ 1 then some (x.toNat == 1, r) else none

theorem rnum_len (i n : Nat) (l : List UInt8) (x : Nat) (r : List UInt8) (h : rnum i n l = some (x, r)) : r.length ≤ l.length := by
  induction l generalizing i n with
  | nil => rw [rnum] at h; cases h
  | cons y l ih =>
    rw [rnum_cons] at h
    split at h
    · split at h
      · split at h
        · cases h; simp
        · cases h
      · have := ih _ _ h; simp; omega
    · cases h

def strv (l : List UInt8) : Value := .string (bs l)

set_option maxHeartbeats 400000 in
set_option maxRecDepth 100000 in
theorem text_any (w : World) (B T br : Nat) (l : List UInt8) (f : Bool) (hr : RdAt w T br l f) (hB : B ≤ br) (hl : l.length ≤ 140737488355328) :
    Calls Tryz.prog 133 #[.pointer (some ⟨br, 0, none⟩)] w (Reads strv w B T br f (rtext l)) := by
  go_enter Tryz.func133, Tryz.ntmps133
  go_wp2_with fail
  refine (num_any w B T br l f hr hB hl).mono ?_
  intro e w1 hq
  rcases hN : rnum 0 0 l with _ | ⟨n, r⟩
  · rw [hN] at hq
    have hnone := Lib.hid (show rtext l = none by unfold rtext; rw [hN])
    obtain ⟨rfl, ⟨l', h1⟩, h2⟩ := hq
    clear hN
    go_wp2
    refine ⟨rfl, ?_⟩
    rw [hnone.out]
    exact ⟨rfl, ⟨l', h1⟩, h2⟩
  · rw [hN] at hq
    obtain ⟨rfl, ⟨ao, cap, hb, hs⟩, hfr⟩ := hq
    have hrl := rnum_len 0 0 l n r hN
    have c0 : w1.cell? ⟨br, 0, none⟩ = some (.slice ao r.length cap) := cell_of_heap hb 0
    have f0 := free_of_heap hb 0
    have HN := Lib.hid hN; clear hN
    unfold u64
    by_cases hn : n ≤ r.length
    · have HS := Lib.hid (show rtext l = some (r.take n, r.drop n) by unfold rtext; rw [HN.out]; simp [hn])
      go_wp2_with fail
      refine (must_true _).mono ?_
      rintro e w2 ⟨rfl, rfl⟩
      have ht : (List.map u8 r).take (n * 1) = (r.take n).map u8 := by simp
      go_wp2_with (first | (refine slice_h elU8 rfl _ _ rfl rfl rfl n rfl hn hs ?_; intro hs1; rw [ht] at hs1; refine wp_conv_bs rfl _ rfl rfl hs1 ?_) | (refine slice_l elU8 rfl _ _ rfl rfl rfl n rfl hn hs ?_))
      intro ao' hs'
      obtain ⟨g1, g2, g3⟩ := RdAt.put (r := r.drop n) hb (by rw [List.length_drop, List.map_drop]; exact hs') hfr hB
      rw [List.length_drop] at g1 g2 g3
      go_wp2
      go_ret
      rw [HS.out]
      exact ⟨rfl, ⟨_, _, by rw [List.length_drop]; exact g1, by rw [List.length_drop]; exact g2⟩, g3⟩
    · have HS := Lib.hid (show rtext l = none by unfold rtext; rw [HN.out]; simp [hn])
      go_wp2_with fail
      refine (must_false _).mono ?_
      rintro e w2 ⟨rfl, rfl⟩
      go_wp2
      refine ⟨rfl, ?_⟩
      rw [HS.out]
      exact ⟨rfl, ⟨r, _, _, hb, hs⟩, hfr⟩

set_option maxHeartbeats 400000 in
set_option maxRecDepth 100000 in
theorem bool_any (w : World) (B T br : Nat) (l : List UInt8) (f : Bool) (hr : RdAt w T br l f) (hB : B ≤ br) (hl : l.length ≤ 140737488355328) :
    Calls Tryz.prog 131 #[.pointer (some ⟨br, 0, none⟩)] w (Reads Value.bool w B T br f (rbool l)) := by
  obtain ⟨ao, cap, hb, hs⟩ := hr
  have c0 : w.cell? ⟨br, 0, none⟩ = some (.slice ao l.length cap) := cell_of_heap hb 0
  have f0 := free_of_heap hb 0
  cases l with
  | nil =>
    go_enter Tryz.func131, Tryz.ntmps131
    go_wp2_with fail
    refine (must_false _).mono ?_
    rintro e w2 ⟨rfl, rfl⟩
    go_wp2
    refine ⟨rfl, ?_⟩
    exact ⟨rfl, ⟨[], _, _, hb, hs⟩, Fr.refl _ _⟩
  | cons x r =>
    obtain ⟨b, off, rfl, hbT, hcl⟩ := hs.at (by simp)
    have hcell : w.cell? ⟨b, off, none⟩ = some (.int .u8 x.toNat) := by have := hcl 0 (by simp); simpa [YtbhjdddiihfafaaGreatDoor.u8] using this
    clear hcl
    by_cases hx : x.toNat ≤ 1
    · have HS := Lib.hid (show rbool (x :: r) = some (x.toNat == 1, r) by simp [rbool, hx])
      have hxd : decide ((x.toNat : Int) ≤ 1) = true := by simp; omega
      have he : ((x.toNat : Int) == 1) = (x.toNat == 1) := by rw [Bool.eq_iff_iff]; simp; omega
      have HE := Lib.hid he; clear he
      go_enter Tryz.func131, Tryz.ntmps131
      go_wp2_with fail
      refine (must_true _).mono ?_
      rintro e w2 ⟨rfl, rfl⟩
      go_wp2_with (refine slice_l elU8 rfl _ _ rfl rfl rfl 1 rfl (by simp) hs ?_)
      intro ao' hs'
      obtain ⟨g1, g2, g3⟩ := RdAt.put hb hs' (Fr.refl _ _) hB
      go_wp2
      go_ret
      rw [HS.out]
      refine ⟨?_, ⟨_, _, g1, g2⟩, g3⟩
      show Ending.returned (.bool _) = .returned (.bool _)
      rw [HE.out]
    · have HS := Lib.hid (show rbool (x :: r) = none by simp [rbool, hx])
      have hxd : decide ((x.toNat : Int) ≤ 1) = false := by simp; omega
      go_enter Tryz.func131, Tryz.ntmps131
      go_wp2_with fail
      refine (must_false _).mono ?_
      rintro e w2 ⟨rfl, rfl⟩
      go_wp2
      refine ⟨rfl, ?_⟩
      rw [HS.out]
      exact ⟨rfl, ⟨x :: r, _, _, hb, hs⟩, Fr.refl _ _⟩

end Go.Proofs.YtbhjdddiihfafaaGreatDoor
