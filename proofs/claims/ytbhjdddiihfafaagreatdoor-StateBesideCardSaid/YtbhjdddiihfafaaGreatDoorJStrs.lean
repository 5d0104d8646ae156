/- strings.Split at one byte, CutPrefix, HasSuffix, at this program. -/
import Derived.Shelf.Strings.Split
import Derived.Shelf.Small.Wraps
import Derived.Test.YtbhjdddiihfafaaGreatDoorShelf
import Derived.Test.YtbhjdddiihfafaaGreatDoorJPath
set_option linter.unusedVariables false
set_option linter.unusedSimpArgs false
namespace Go.Proofs.YtbhjdddiihfafaaGreatDoor
open Go.RowKit Go.Maps Go.Shelf

theorem index_byte (c : UInt8) : ∀ s : List UInt8, Lib.index s [c] = Lib.indexByte s c
  | [] => rfl
  | b :: l => by
    unfold Lib.index Lib.indexByte
    rw [index_byte c l]
    have e : [c].isPrefixOf (b :: l) = (b == c) := by
      show (c == b && List.isPrefixOf [] l) = (b == c)
      rw [show List.isPrefixOf ([] : List UInt8) l = true from rfl, Bool.and_true]
      exact BEq.comm
    rw [e]

theorem splitc_free_one (c : UInt8) : ∀ a : List UInt8, c ∉ a → splitc c a = [a]
  | [], _ => rfl
  | x :: a, h => by
    unfold splitc
    have hx : x ≠ c := fun e => h (by rw [e]; simp)
    rw [if_neg hx, splitc_free_one c a (fun h' => h (List.mem_cons_of_mem _ h'))]

theorem splitc_app (c : UInt8) (b : List UInt8) : ∀ a : List UInt8, c ∉ a → splitc c (a ++ c :: b) = a :: splitc c b
  | [], _ => by
    rw [List.nil_append]
    conv => lhs; unfold splitc
    rw [if_pos rfl]
  | x :: a, h => by
    rw [List.cons_append]
    conv => lhs; unfold splitc
    have hx : x ≠ c := fun e => h (by rw [e]; simp)
    rw [if_neg hx, splitc_app c b a (fun h' => h (List.mem_cons_of_mem _ h'))]

theorem indexByte_free (c : UInt8) : ∀ a : List UInt8, c ∉ a → Lib.indexByte a c = -1
  | [], _ => rfl
  | x :: a, h => by
    have hx : (x == c) = false := by simp; exact fun e => h (by rw [e]; simp)
    unfold Lib.indexByte
    rw [hx, indexByte_free c a (fun h' => h (List.mem_cons_of_mem _ h'))]
    rfl

theorem indexByte_app (c : UInt8) (b : List UInt8) : ∀ a : List UInt8, c ∉ a → Lib.indexByte (a ++ c :: b) c = a.length
  | [], _ => by simp [Lib.indexByte]
  | x :: a, h => by
    have hx : (x == c) = false := by simp; exact fun e => h (by rw [e]; simp)
    rw [List.cons_append]
    unfold Lib.indexByte
    rw [hx, indexByte_app c b a (fun h' => h (List.mem_cons_of_mem _ h'))]
    have : ((a.length : Int) == -1) = false := by rw [beq_eq_false_iff_ne]; omega
    rw [this]
    simp

theorem first_of (c : UInt8) : ∀ s : List UInt8, c ∈ s → ∃ a b, s = a ++ c :: b ∧ c ∉ a
  | x :: s, h => by
    by_cases hx : x = c
    · exact ⟨[], s, by rw [hx]; rfl, by simp⟩
    · obtain ⟨a, b, rfl, hn⟩ := first_of c s (by rcases List.mem_cons.1 h with h | h; exact absurd h.symm hx; exact h)
      exact ⟨x :: a, b, rfl, by simp [Ne.symm hx, hn]⟩

theorem splitK_splitc (c : UInt8) : ∀ (n : Nat) (s : List UInt8), s.length ≤ n → Lib.splitK [c] 0 (s.count c) s = splitc c s
  | n, s, hn => by
    by_cases h : c ∈ s
    · obtain ⟨a, b, rfl, ha⟩ := first_of c s h
      have hc : (a ++ c :: b).count c = b.count c + 1 := by
        rw [List.count_append, List.count_eq_zero.2 ha, List.count_cons_self]; omega
      have hm : ¬ (Lib.index (a ++ c :: b) [c] == -1) = true := by
        rw [index_byte, indexByte_app c b a ha]
        intro e; have := beq_iff_eq.1 e; omega
      rw [hc, Lib.splitK, if_neg hm, index_byte, indexByte_app c b a ha, splitc_app c b a ha]
      have e1 : (a ++ c :: b).take ((a.length : Int).toNat + 0) = a := by rw [Int.toNat_natCast, Nat.add_zero, List.take_left' rfl]
      have e2 : (a ++ c :: b).drop ((a.length : Int).toNat + [c].length) = b := by
        rw [Int.toNat_natCast, ← List.drop_drop, List.drop_left' rfl]; rfl
      rw [e1, e2]
      cases n with
      | zero => simp at hn
      | succ n => rw [splitK_splitc c n b (by simp at hn; omega)]
    · rw [List.count_eq_zero.2 h, splitc_free_one c s h]; rfl

theorem countB_one (s : ByteArray) (c : UInt8) : Lib.countB s ⟨#[c]⟩ = s.data.toList.count c := Lib.count_one c _

theorem splitc_len (c : UInt8) (s : List UInt8) : (splitc c s).length = s.count c + 1 := by
  have h := splitK_splitc c s.length s (Nat.le_refl _)
  have h1 : Lib.countB (bs s) ⟨#[c]⟩ = s.count c := by rw [countB_one, bs_data]
  have h2 := Lib.splitB_all ⟨#[c]⟩ (Nat.le_refl 1) 0 _ (bs s) h1
  have h3 := congrArg List.length (Lib.splitB_data ⟨#[c]⟩ 0 (s.count c) (bs s))
  rw [List.length_map, h2, bs_data] at h3
  rw [← h]
  exact h3.symm


theorem genSplit1_any (s : ByteArray) (c : UInt8) (w : World) (hs : s.size < 4294967281) :
    Calls Tryz.prog 163 #[.string s, .string ⟨#[c]⟩, .int .i64 0, .int .i64 (-1)] w fun e w' =>
      e = .returned (.slice (some ⟨w.heap.size, 0, none⟩) (splitc c s.data.toList).length (splitc c s.data.toList).length) ∧ w' = w.alloc (.cells ((splitc c s.data.toList).map fun p => .string (bs p)).toArray 9) := by
  have hcn : Lib.countB s ⟨#[c]⟩ = s.data.toList.count c := countB_one s c
  have hle : s.data.toList.count c ≤ s.size := by rw [Lib.size_eq]; exact List.count_le_length
  have hlen := splitc_len c s.data.toList
  have key := Any.strings_genSplit_core Tryz.genSplit (by kernel_rfl) s ⟨#[c]⟩ 0 (-1) (s.data.toList.count c + 1) w hs (Nat.le_refl 1) (Nat.zero_le _)
    (fun x cs _ => (Any.strings_Index_one Tryz.strIndex x c _).mono fun e w' h => ⟨by rw [h.1]; show _ = Ending.returned (.int .i64 (Lib.index x.data.toList [c])); rw [index_byte], h.2⟩)
    ((Any.strings_Count_one Tryz.strCount s c w).mono fun e w' h => ⟨by rw [h.1, hcn]; rfl, h.2⟩) (by decide) (by decide) (by rw [hcn, if_pos (by decide)]; omega)
  have e1 : Lib.splitB ⟨#[c]⟩ 0 (s.data.toList.count c + 1 - 1) s = (splitc c s.data.toList).map bs := by
    have h := Lib.splitB_data ⟨#[c]⟩ 0 (s.data.toList.count c) s
    have h2 := splitK_splitc c s.data.toList.length s.data.toList (Nat.le_refl _)
    rw [show (ByteArray.mk #[c]).data.toList = [c] from rfl, h2] at h
    rw [Nat.add_sub_cancel, ← h, List.map_map]
    conv => lhs; rw [← List.map_id (Lib.splitB _ _ _ _)]
    exact List.map_congr_left fun b _ => (bs_of b).symm
  rw [e1, List.length_map, ← hlen] at key
  refine key.mono ?_
  rintro e w' ⟨rfl, rfl⟩
  refine ⟨rfl, ?_⟩
  have e2 : Lib.cellsOf ((splitc c s.data.toList).map bs) (splitc c s.data.toList).length = ((splitc c s.data.toList).map fun p => Value.string (bs p)).toArray := by
    have := Lib.cellsOf_full ((splitc c s.data.toList).map bs)
    rw [List.length_map, List.map_map] at this
    exact this
  rw [e2]
  rfl

theorem Split1_any (s : ByteArray) (c : UInt8) (w : World) (hs : s.size < 4294967281) :
    Calls Tryz.prog 106 #[.string s, .string ⟨#[c]⟩] w fun e w' =>
      e = .returned (.slice (some ⟨w.heap.size, 0, none⟩) (splitc c s.data.toList).length (splitc c s.data.toList).length) ∧ w' = w.alloc (.cells ((splitc c s.data.toList).map fun p => .string (bs p)).toArray 9) := by
  have H := Lib.hid (genSplit1_any s c w hs)
  go_enter Tryz.func106, Tryz.ntmps106
  go_wp2_with fail
  refine H.out.mono ?_
  rintro e w' ⟨rfl, rfl⟩
  go_wp2
  go_ret
  exact ⟨rfl, rfl⟩

theorem CutPrefix_any (s p : ByteArray) (w : World) : Calls Tryz.prog 156 #[.string s, .string p] w fun e w' => e = .returned (.tuple #[.string (bs (Lib.trimPrefix s.data.toList p.data.toList)), .bool (Lib.hasPrefix s.data.toList p.data.toList)]) ∧ w = w' :=
  (Any.strings_CutPrefix Tryz.cutPrefix s p w).mono fun _ _ ⟨h1, h2⟩ => ⟨h1, h2.symm⟩

theorem HasSuffix_any (s p : ByteArray) (w : World) (hs : s.size ≤ 9223372036854775807) : Calls Tryz.prog 105 #[.string s, .string p] w fun e w' => e = .returned (.bool (Lib.hasSuffix s.data.toList p.data.toList)) ∧ w = w' :=
  (Any.strings_HasSuffix Tryz.hasSuffix s p w hs).mono fun _ _ ⟨h1, h2⟩ => ⟨h1, h2.symm⟩

end Go.Proofs.YtbhjdddiihfafaaGreatDoor
