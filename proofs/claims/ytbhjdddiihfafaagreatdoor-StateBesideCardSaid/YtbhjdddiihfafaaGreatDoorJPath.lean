/- strings.Index, LastIndexByte, Join, at this program. -/
import Derived.Shelf.Strings.Search3
import Derived.Shelf.Strings.LastIndex
import Derived.Shelf.Strings.OnBuilder
import Derived.Ground.NamesProg
import Derived.Test.YtbhjdddiihfafaaGreatDoorShelf
import Derived.Test.YtbhjdddiihfafaaGreatDoorJKeys2
import Derived.Test.YtbhjdddiihfafaaGreatDoorJSt
set_option linter.unusedVariables false
set_option linter.unusedSimpArgs false
namespace Go.Proofs.YtbhjdddiihfafaaGreatDoor
open Go.RowKit Go.Maps Go.Shelf

theorem Tryz.strJoinX : Builder.Extra Tryz.prog Tryz.strJoin_ren := {
  sizeBuilder := by kernel_rfl
  liesBuilder := by kernel_rfl
  t5 := by kernel_rfl
  a5 := fun _ => by kernel_rfl
  z5 := fun _ => by kernel_rfl
  v5 := fun _ => by kernel_rfl
  infoByte := by kernel_rfl
  cellsByte := by kernel_rfl
  sizeByte := by kernel_rfl
  neB5 := by decide }

theorem Index1_any (s : ByteArray) (c : UInt8) (w : World) : Calls Tryz.prog 227 #[.string s, .string ⟨#[c]⟩] w fun e w' => e = .returned (.int .i64 (Lib.indexByte s.data.toList c)) ∧ w = w' :=
  (Any.strings_Index_one Tryz.strIndex s c w).mono fun _ _ ⟨h1, h2⟩ => ⟨h1, h2.symm⟩

theorem LastByte_any (s : ByteArray) (c : Int) (hs : s.size < 4611686018427387904) (w : World) : Calls Tryz.prog 237 #[.string s, .int .u8 c] w fun e w' => e = .returned (.int .i64 (Lib.lastIndexByte s c)) ∧ w = w' :=
  (Any.strings_LastIndexByte Tryz.strLastByte s c hs w).mono fun _ _ ⟨h1, h2⟩ => ⟨h1, h2.symm⟩

/-- strings.Join of a slice of strings. -/
theorem Join_any (w : World) (l : List (List UInt8)) (sep : List UInt8) {n T cap : Nat} {ao : Option Addr} (hn : l.length = n) (hx : Sl w T 9 1 ao n cap (l.map fun s => .string (bs s))) (hN : n ≤ 1048576)
    (hlen : (Lib.join l sep).length ≤ 140737488355328) :
    Calls Tryz.prog 184 #[.slice ao n cap, .string (bs sep)] w fun e w' => e = .returned (.string (bs (Lib.join l sep))) ∧ FrA w w' := by
  subst hn
  by_cases h0 : l.length = 0
  · have : l = [] := List.eq_nil_of_length_eq_zero h0
    subst this
    refine (Any.strings_Join_none Tryz.strJoin Tryz.strJoinX ao cap (bs sep) w).mono ?_
    rintro e w' ⟨rfl, rfl⟩
    exact ⟨rfl, Fr.refl _ _⟩
  · obtain ⟨b, off, rfl, hb, hcl⟩ := hx.at (by omega)
    have hb' : b < w.heap.size := by
      obtain ⟨_, _, _, _, h⟩ := hx
      rcases h with h | ⟨b', off', c, f, e, _, hb', _⟩
      · exact absurd h h0
      · cases e; exact lt_of_heap hb'
    have hxs : (l.map bs).map (fun x => x.data.toList) = l := by rw [List.map_map]; simp [Function.comp_def, bs_data]
    have h := Any.strings_Join Tryz.strJoin Tryz.strJoinX b off cap (l.map bs) (bs sep) w (fun j x hj => by
      have hj2 : j < l.length := by have := (List.getElem?_eq_some_iff.1 hj).1; simpa using this
      rw [hcl j (by omega)]
      simp only [List.getElem?_map] at hj ⊢
      rw [List.getElem?_eq_getElem hj2] at hj ⊢
      simp at hj ⊢
      exact hj) hb' (by simp; omega) (by simp; exact hx.2.1) (by rw [hxs, bs_data]; exact hlen)
    rw [hxs, bs_data, List.length_map] at h
    exact h.mono fun e w' ⟨h1, h2⟩ => ⟨h1, below_fra h2⟩

end Go.Proofs.YtbhjdddiihfafaaGreatDoor
/- Package path: its small functions. -/
namespace Go.Proofs.YtbhjdddiihfafaaGreatDoor
open Go.RowKit Go.Maps

theorem u8_eq (x : UInt8) (k : Nat) (hk : k < 256) : (((x.toNat : Nat) : Int) == ((k : Nat) : Int)) = (x == UInt8.ofNat k) := by
  rw [Bool.eq_iff_iff, beq_iff_eq, beq_iff_eq]
  have : (UInt8.ofNat k).toNat = k := by simp; omega
  constructor
  · intro h; apply UInt8.toNat_inj.1; omega
  · intro h; subst h; rw [this]

set_option maxRecDepth 100000 in
theorem right_any (x : UInt8) (w : World) : Calls Tryz.prog 283 #[.int .u8 x.toNat] w fun e w' => e = .returned (.bool (rightB x)) ∧ w = w' := by
  have e1 : (((x.toNat : Nat) : Int) == 34) = (x == 34) := u8_eq x 34 (by decide)
  have e2 : (((x.toNat : Nat) : Int) == 92) = (x == 92) := u8_eq x 92 (by decide)
  have e3 : (((x.toNat : Nat) : Int) == 42) = (x == 42) := u8_eq x 42 (by decide)
  have e4 : (((x.toNat : Nat) : Int) == 63) = (x == 63) := u8_eq x 63 (by decide)
  have e5 : (((x.toNat : Nat) : Int) == 58) = (x == 58) := u8_eq x 58 (by decide)
  by_cases h1 : x = 34
  · subst h1
    go_enter Tryz.func283, Tryz.ntmps283
    go_wp2
    go_ret
    exact ⟨rfl, rfl⟩
  by_cases h2 : x = 92
  · subst h2
    go_enter Tryz.func283, Tryz.ntmps283
    go_wp2
    go_ret
    exact ⟨rfl, rfl⟩
  by_cases h3 : x = 42
  · subst h3
    go_enter Tryz.func283, Tryz.ntmps283
    go_wp2
    go_ret
    exact ⟨rfl, rfl⟩
  by_cases h4 : x = 63
  · subst h4
    go_enter Tryz.func283, Tryz.ntmps283
    go_wp2
    go_ret
    exact ⟨rfl, rfl⟩
  by_cases h5 : x = 58
  · subst h5
    go_enter Tryz.func283, Tryz.ntmps283
    go_wp2
    go_ret
    exact ⟨rfl, rfl⟩
  have f1 : (((x.toNat : Nat) : Int) == 34) = false := by rw [e1]; simpa using h1
  have f2 : (((x.toNat : Nat) : Int) == 92) = false := by rw [e2]; simpa using h2
  have f3 : (((x.toNat : Nat) : Int) == 42) = false := by rw [e3]; simpa using h3
  have f4 : (((x.toNat : Nat) : Int) == 63) = false := by rw [e4]; simpa using h4
  have f5 : (((x.toNat : Nat) : Int) == 58) = false := by rw [e5]; simpa using h5
  have hr : rightB x = (decide (32 < x.toNat) && decide (x.toNat < 127)) := by
    unfold rightB
    have : ∀ k : UInt8, x ≠ k → (x != k) = true := fun k h => by simpa using h
    rw [this _ h1, this _ h2, this _ h3, this _ h4, this _ h5]; simp
  have HR := Lib.hid hr
  clear e1 e2 e3 e4 e5 hr h1 h2 h3 h4 h5
  go_enter Tryz.func283, Tryz.ntmps283
  go_wp2
  all_goals
    go_ret
    refine ⟨?_, rfl⟩
    rw [HR.out]
    have e6 : decide (((x.toNat : Nat) : Int) < 127) = decide (x.toNat < 127) := by rw [decide_eq_decide]; omega
    have e7 : decide (((x.toNat : Nat) : Int) > 32) = decide (32 < x.toNat) := by rw [decide_eq_decide]; omega
    first
      | (have e8 : decide (32 < x.toNat) = true := by simp; omega
         rw [e8]; simp [go_sem, e6])
      | (have e8 : decide (32 < x.toNat) = false := by simp; omega
         rw [e8]; simp [go_sem])

theorem lastB_snoc (c x : UInt8) (l : List UInt8) : lastB c (l ++ [x]) = if x = c then (l.length : Int) else lastB c l := by
  unfold lastB
  rw [List.reverse_append, List.reverse_cons, List.reverse_nil, List.nil_append, List.singleton_append, List.findIdx?_cons]
  by_cases h : x = c
  · subst h; simp
  · rw [if_neg h, if_neg (by simpa using h)]
    cases hf : l.reverse.findIdx? (fun y => y == c) with
    | none => simp
    | some k => simp; omega

theorem lastIdx_lastB (p : List UInt8) (c : UInt8) : ∀ k, k ≤ p.length → Lib.lastIdx (bs p) (c.toNat : Int) k = lastB c (p.take k) := by
  intro k
  induction k with
  | zero => intro _; rfl
  | succ k ih =>
    intro hk
    have hx : p[k]? = some p[k] := List.getElem?_eq_getElem (by omega)
    rw [List.take_add_one, hx, Option.toList, lastB_snoc, Lib.lastIdx, ih (by omega)]
    have e : ((bs p).data[k]!) = p[k] := by
      simp [bs, hx]
    rw [e, List.length_take, Nat.min_eq_left (by omega)]
    by_cases h : p[k] = c
    · rw [if_pos h, if_pos (by rw [h])]
    · rw [if_neg h, if_neg (fun e => h (UInt8.toNat_inj.1 (by omega)))]

theorem lastByte_lastB (p : List UInt8) (c : UInt8) : Lib.lastIndexByte (bs p) (c.toNat : Int) = lastB c p := by
  unfold Lib.lastIndexByte
  rw [bs_size, lastIdx_lastB p c p.length (Nat.le_refl _), List.take_length]

theorem bs_take (p : List UInt8) (k : Nat) : bs (p.take k) = (bs p).extract 0 k := by
  apply ByteArray.ext
  simp [bs]

theorem bs_drop (p : List UInt8) (k : Nat) : bs (p.drop k) = (bs p).extract k p.length := by
  apply ByteArray.ext
  simp [bs]
  rw [List.take_of_length_le (by simp)]

set_option maxRecDepth 100000 in
theorem part_any (s : List UInt8) (w : World) (hs : s.length ≤ 1048576) : Calls Tryz.prog 233 #[.string (bs s)] w fun e w' => e = .returned (.int .i64 (if partB s then 0 else 50)) ∧ w = w' := by
  have hsz : (bs s).size = s.length := bs_size s
  obtain ⟨r, hr⟩ : ∃ r, r = if partB s then (0 : Int) else 50 := ⟨_, rfl⟩
  rw [← hr]
  have HB := Lib.hid hr
  clear hr
  by_cases h32 : 32 < s.length
  · have hb : r = 50 := by rw [HB.out]; unfold partB; rw [if_neg (by simp; intro h; omega)]
    have HB := Lib.hid hb
    clear hb
    go_enter Tryz.func233, Tryz.ntmps233
    go_wp2
    go_ret
    rw [HB.out]
    exact ⟨rfl, rfl⟩
  · go_enter Tryz.func233, Tryz.ntmps233
    go_wp2
    go_loopw [9] (fun i wr => ∃ k : Nat, k ≤ s.length ∧ i = .int .i64 k ∧ (s.take k).all rightB = true ∧ w = wr) (fun i _ => s.length - (intOf i).toNat)
    case atStart => exact ⟨0, Nat.zero_le _, rfl, rfl, rfl⟩
    case round =>
      obtain ⟨k, hk, rfl, hall, rfl⟩ := hrel
      by_cases hkl : k < s.length
      · obtain ⟨x, hx⟩ : ∃ x, s[k]? = some x := ⟨_, List.getElem?_eq_getElem hkl⟩
        have htk : (s.take (k + 1)).all rightB = ((s.take k).all rightB && rightB x) := by rw [List.take_add_one, hx]; simp
        have hpart : rightB x = false → partB s = false := fun h => by
          have h1 : s.all rightB = false := by rw [List.all_eq_false]; exact ⟨x, List.mem_of_getElem? hx, by simp [h]⟩
          unfold partB; rw [h1]; simp
        have hR := right_any x w
        obtain ⟨g, hg⟩ : ∃ g, g = rightB x := ⟨_, rfl⟩
        rw [← hg] at hR htk hpart
        have HK := Lib.hid (And.intro htk (And.intro hpart (And.intro hR hall)))
        have hget : ∀ h : k < (bs s).size, (bs s)[k]'h = x := fun h => by
          have : (bs s)[k]'h = s[k] := by simp [bs]; rfl
          rw [this]; rw [List.getElem?_eq_getElem hkl] at hx; cases hx; rfl
        clear htk hpart hR hall hg hx
        cases g
        · go_wp2_with (go_at_call 283; (with_reducible refine HK.out.2.2.1.mono ?_); rintro e w3 ⟨rfl, rfl⟩)
          go_ret
          have : r = 50 := by rw [HB.out, HK.out.2.1 (by simp)]; rfl
          rw [this]
          exact ⟨rfl, rfl⟩
        · go_wp2_with (go_at_call 283; (with_reducible refine HK.out.2.2.1.mono ?_); rintro e w3 ⟨rfl, rfl⟩)
          go_roundw
          case rel => exact ⟨k + 1, by omega, by go_num, by rw [HK.out.1, HK.out.2.2.2]; rfl, by simp⟩
          case measure => simp [intOf]; omega
      · go_wp2
        go_ret
        obtain rfl : k = s.length := by omega
        rw [List.take_length] at hall
        have : r = 0 := by rw [HB.out]; unfold partB; rw [hall, if_pos (by simp; omega)]
        rw [this]
        exact ⟨rfl, rfl⟩

theorem Parent_any (p : List UInt8) (w : World) (hp : p.length ≤ 1048576) : Calls Tryz.prog 185 #[.string (bs p)] w fun e w' => e = .returned (.string (bs (parentF p))) ∧ w = w' := by
  have hL := LastByte_any (bs p) 47 (by rw [bs_size]; omega) w
  rw [show ((47 : Int)) = (((47 : UInt8).toNat : Nat) : Int) from rfl, lastByte_lastB] at hL
  have hb : -1 ≤ lastB 47 p ∧ lastB 47 p < p.length ∨ lastB 47 p = -1 := by
    rcases lastB_cases 47 p with ⟨h, _⟩ | ⟨k, h, h2, _⟩
    · exact .inr h
    · exact .inl ⟨by omega, by omega⟩
  obtain ⟨k, hk⟩ : ∃ k, k = lastB 47 p := ⟨_, rfl⟩
  have hsz : (bs p).size = p.length := bs_size p
  have HP := Lib.hid (show parentF p = p.take (max k 0).toNat from by rw [hk]; rfl)
  rw [← hk] at hL hb
  have HL := Lib.hid hL
  clear hL hk
  go_enter Tryz.func185, Tryz.ntmps185
  go_wp2_with (go_at_call 237; (refine HL.out.mono ?_); rintro e w3 ⟨rfl, rfl⟩)
  go_ret
  rw [HP.out]
  refine ⟨?_, rfl⟩
  simp only [bs_take]
  rfl

end Go.Proofs.YtbhjdddiihfafaaGreatDoor
