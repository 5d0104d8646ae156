/- The keys of maps, in order: slices.Sorted(maps.Keys(m)) at each of this program's map types. -/
import Derived.Shelf.SlIterI.Nil
import Derived.Shelf.SlIter.Nil
import Derived.Shelf.SortM.Plain
import Derived.Shelf.SortM.SortNone
import Derived.Ground.GgzProg
import Derived.Ground.SlgmProg
import Derived.Test.YtbhjdddiihfafaaGreatDoorShelf
import Derived.Shelf.SlMaps.Clone
import Derived.Ground.SlmcProg
import Derived.Shelf.Strings.Prefix
import Derived.Ground.NamesProg
import Derived.Test.YtbhjdddiihfafaaGreatDoorJMaps
import Derived.Test.YtbhjdddiihfafaaGreatDoorJWriter
set_option linter.unusedVariables false
set_option linter.unusedSimpArgs false
namespace Go.Proofs.YtbhjdddiihfafaaGreatDoor
open Go.RowKit Go.Maps Go.Sort Go.Shelf


theorem sortsI (m : Nat) : AnyZI.SortsIn Tryz.prog Tryz.sortedI_ren Fence.wide m :=
  ⟨fun blk off cap ss W hH hblk hsz => callsIn_wide.2 (AnyM.slices_Sort_int Tryz.sortI blk off cap ss W hH hblk hsz),
   fun p cap W => callsIn_wide.2 (AnyM.slices_Sort_int_none Tryz.sortI p cap W)⟩

theorem sortsS (m : Nat) : AnyZ.SortsIn Tryz.prog Tryz.sortedS_ren Fence.wide m :=
  ⟨fun blk off cap ss W hH hblk hsz => callsIn_wide.2 (AnyM.slices_Sort_string Tryz.sortS blk off cap ss W hH hblk hsz),
   fun p cap W => callsIn_wide.2 (AnyM.slices_Sort_string_none Tryz.sortS p cap W)⟩

/-- The number of a key. -/
def keyI : Lit → Int
  | .int _ i => i
  | _ => 0

/-- The text of a key. -/
def keyS : Lit → List UInt8
  | .string s => s
  | _ => []

theorem sorted_ints {α : Type} {kvs : List (Lit × α)} (hr : Rise kvs) (hk : ∀ p ∈ kvs, ∃ i : Int, p.1 = .int .i64 i) : (kvs.map fun p => keyI p.1).Pairwise fun x y => decide (x ≤ y) = true := by
  refine List.pairwise_map.2 (hr.imp_of_mem fun {p q} hp hq h => ?_)
  obtain ⟨i, hi⟩ := hk p hp
  obtain ⟨j, hj⟩ := hk q hq
  rw [hi, hj] at h ⊢
  simp [Lit.before] at h
  exact decide_eq_true (Int.le_of_lt h)

theorem keys_ints (b : Nat) {kvs : List (Lit × Value)} {w : World} (h : MapAt w 3 b kvs) (hr : Rise kvs) (hk : ∀ p ∈ kvs, ∃ i : Int, p.1 = .int .i64 i) {ss : List Int} (hS : ss.Perm (intKeys (toD kvs))) :
    ss.mergeSort (fun x y => decide (x ≤ y)) = kvs.map fun p => keyI p.1 := by
  have e : intKeys (toD kvs) = kvs.map fun p => keyI p.1 := by
    simp only [toD, intKeys, List.map_map]
    apply List.map_congr_left
    intro p hp
    obtain ⟨s, hs⟩ := hk p hp
    simp [heldP, hs, keyI, Go.intOf]
  rw [mergeSort_of_perm_i hS, e]
  exact List.mergeSort_of_pairwise (sorted_ints hr hk)

/-- The row of a map's keys. -/
def KeyRow (w : World) (T : TypeId) (l : List Value) (e : Ending) (w' : World) : Prop := ∃ v, e = .returned v ∧ w'.ownsRow w.heap.size T 1 v l.length l ∧ FrA w w'

section
variable {w : World} {b : Nat} {kvs : List (Lit × Value)}

theorem keysIB_any (mb : Option Nat) (w : World) : Calls Tryz.prog 291 #[.map mb] w fun e w' => e = .returned (.func (.func 318) #[] #[.pointer (some ⟨w.heap.size, 0, none⟩)]) ∧ w' = w.alloc (.cells #[.map mb] 79) :=
  callsIn_wide.1 (AnyZI.keys_in Tryz.keysIB Fence.wide 5 trivial rfl mb w)

theorem keysIN_any (mb : Option Nat) (w : World) : Calls Tryz.prog 245 #[.map mb] w fun e w' => e = .returned (.func (.func 290) #[] #[.pointer (some ⟨w.heap.size, 0, none⟩)]) ∧ w' = w.alloc (.cells #[.map mb] 129) :=
  callsIn_wide.1 (AnyZI.keys_in Tryz.keysIN Fence.wide 5 trivial rfl mb w)

theorem keysSS_any (mb : Option Nat) (w : World) : Calls Tryz.prog 88 #[.map mb] w fun e w' => e = .returned (.func (.func 150) #[] #[.pointer (some ⟨w.heap.size, 0, none⟩)]) ∧ w' = w.alloc (.cells #[.map mb] 72) :=
  callsIn_wide.1 (AnyZ.keys_in Tryz.keysSS Fence.wide 5 trivial rfl mb w)

theorem below_fra {w w' : World} (h : Below w.heap.size w w') : FrA w w' := ⟨h.os, h.tape, h.output, h.size, fun k o ho _ => by rw [h.block k (lt_of_heap ho)]; exact ho⟩

set_option maxHeartbeats 1000000 in
theorem sortedIB_any (h : MapAt w 3 b kvs) (hr : Rise kvs) (hk : ∀ p ∈ kvs, ∃ i : Int, p.1 = .int .i64 i) (hn : kvs.length ≤ 1048576) :
    Calls Tryz.prog 244 #[.func (.func 318) #[] #[.pointer (some ⟨w.heap.size, 0, none⟩)]] (w.alloc (.cells #[.map (some b)] 79))
      (KeyRow (w.alloc (.cells #[.map (some b)] 79)) 3 (kvs.map fun p => .int .i64 (keyI p.1))) := by
  have hsz : Maps.size (toD kvs) = kvs.length := by simp [toD, Maps.size]
  have hown : w.ownsMap Tryz.prog 3 rawE b kvs.length (toD kvs) := h
  have hseq : SeqGives Fence.wide 2 Tryz.prog 318 #[.pointer (some ⟨w.heap.size, 0, none⟩)] encZ (fun ss => ss.Perm (intKeys (toD kvs))) (Maps.size (toD kvs)) (w.alloc (.cells #[.map (some b)] 79)) :=
    AnyZI.keys_gives (ρ := Tryz.keysIB_ren) { Tryz.keysIB with } Fence.wide _ trivial rfl (by omega) w.heap.size b kvs.length _ _ (by simp) (by simp) (by
      obtain ⟨es, clock, hb, Ft, hs, hD⟩ := hown
      exact ⟨es, clock, heap_alloc_keep hb _, Ft, hs, hD⟩)
  have cS := AnyZI.sorted_in Tryz.sortedI Fence.wide 5 trivial trivial trivial trivial rfl (by omega) (sortsI _) (enters_of Tryz.func289 (by kernel_rfl) rfl) 318 #[.pointer (some ⟨w.heap.size, 0, none⟩)] trivial (enters_of Tryz.func318 (by kernel_rfl) rfl) _ _ (by rw [hsz]; unfold maxLen; omega) (by rw [hsz]; omega) _ hseq
  refine (callsIn_wide.1 cS).mono ?_
  rintro e w' ⟨v, ss, rfl, hS, hrow, _, hB⟩
  have hl : ss.length = kvs.length := by have := hS.length_eq; simpa [toD, intKeys] using this
  rw [keys_ints b h hr hk hS, List.map_map, hl] at hrow
  have hrow' : w'.ownsRow (w.alloc (.cells #[.map (some b)] 79)).heap.size 3 1 v kvs.length (kvs.map (encZ ∘ fun p => keyI p.1)) := hrow
  exact ⟨v, rfl, by simpa [Function.comp_def] using hrow', below_fra hB⟩

set_option maxHeartbeats 1000000 in
theorem sortedIN_any (h : MapAt w 3 b kvs) (hr : Rise kvs) (hk : ∀ p ∈ kvs, ∃ i : Int, p.1 = .int .i64 i) (hn : kvs.length ≤ 1048576) :
    Calls Tryz.prog 244 #[.func (.func 290) #[] #[.pointer (some ⟨w.heap.size, 0, none⟩)]] (w.alloc (.cells #[.map (some b)] 129))
      (KeyRow (w.alloc (.cells #[.map (some b)] 129)) 3 (kvs.map fun p => .int .i64 (keyI p.1))) := by
  have hsz : Maps.size (toD kvs) = kvs.length := by simp [toD, Maps.size]
  have hown : w.ownsMap Tryz.prog 3 rawE b kvs.length (toD kvs) := h
  have hseq : SeqGives Fence.wide 2 Tryz.prog 290 #[.pointer (some ⟨w.heap.size, 0, none⟩)] encZ (fun ss => ss.Perm (intKeys (toD kvs))) (Maps.size (toD kvs)) (w.alloc (.cells #[.map (some b)] 129)) :=
    AnyZI.keys_gives (ρ := Tryz.keysIN_ren) { Tryz.keysIN with } Fence.wide _ trivial rfl (by omega) w.heap.size b kvs.length _ _ (by simp) (by simp) (by
      obtain ⟨es, clock, hb, Ft, hs, hD⟩ := hown
      exact ⟨es, clock, heap_alloc_keep hb _, Ft, hs, hD⟩)
  have cS := AnyZI.sorted_in Tryz.sortedI Fence.wide 5 trivial trivial trivial trivial rfl (by omega) (sortsI _) (enters_of Tryz.func289 (by kernel_rfl) rfl) 290 #[.pointer (some ⟨w.heap.size, 0, none⟩)] trivial (enters_of Tryz.func290 (by kernel_rfl) rfl) _ _ (by rw [hsz]; unfold maxLen; omega) (by rw [hsz]; omega) _ hseq
  refine (callsIn_wide.1 cS).mono ?_
  rintro e w' ⟨v, ss, rfl, hS, hrow, _, hB⟩
  have hl : ss.length = kvs.length := by have := hS.length_eq; simpa [toD, intKeys] using this
  rw [keys_ints b h hr hk hS, List.map_map, hl] at hrow
  have hrow' : w'.ownsRow (w.alloc (.cells #[.map (some b)] 129)).heap.size 3 1 v kvs.length (kvs.map (encZ ∘ fun p => keyI p.1)) := hrow
  exact ⟨v, rfl, by simpa [Function.comp_def] using hrow', below_fra hB⟩

theorem bytes_lt : ∀ (a b : List UInt8), bytesBefore a b = true ↔ a < b
  | [], [] => by simp [bytesBefore]
  | [], _ :: _ => by simp [bytesBefore]
  | _ :: _, [] => by simp [bytesBefore]
  | x :: r, y :: s => by
    rw [List.cons_lt_cons_iff, ← bytes_lt r s]
    simp [bytesBefore]

theorem sorted_strs {α : Type} {kvs : List (Lit × α)} (hr : Rise kvs) (hk : ∀ p ∈ kvs, ∃ s : List UInt8, p.1 = .string s) : (kvs.map fun p => keyS p.1).Pairwise fun x y => decide (x ≤ y) = true := by
  refine List.pairwise_map.2 (hr.imp_of_mem fun {p q} hp hq h => ?_)
  obtain ⟨i, hi⟩ := hk p hp
  obtain ⟨j, hj⟩ := hk q hq
  rw [hi, hj] at h ⊢
  simp [Lit.before] at h
  exact decide_eq_true (Std.le_of_lt ((bytes_lt i j).1 h))

set_option maxHeartbeats 1000000 in
theorem sortedSS_any (h : MapAt w 9 b kvs) (hr : Rise kvs) (hk : ∀ p ∈ kvs, ∃ s : List UInt8, p.1 = .string s) (hn : kvs.length ≤ 1048576) :
    Calls Tryz.prog 87 #[.func (.func 150) #[] #[.pointer (some ⟨w.heap.size, 0, none⟩)]] (w.alloc (.cells #[.map (some b)] 72))
      (KeyRow (w.alloc (.cells #[.map (some b)] 72)) 9 (kvs.map fun p => .string ⟨(keyS p.1).toArray⟩)) := by
  have hsz : Maps.size (toD kvs) = kvs.length := by simp [toD, Maps.size]
  have hown : w.ownsMap Tryz.prog 9 rawE b kvs.length (toD kvs) := h
  have hseq : SeqGives Fence.wide 2 Tryz.prog 150 #[.pointer (some ⟨w.heap.size, 0, none⟩)] encStr (fun ss => ss.Perm (strKeys (toD kvs))) (Maps.size (toD kvs)) (w.alloc (.cells #[.map (some b)] 72)) :=
    AnyZ.keys_gives (ρ := Tryz.keysSS_ren) { Tryz.keysSS with } Fence.wide _ trivial rfl (by omega) w.heap.size b kvs.length _ _ (by simp) (by simp) (by
      obtain ⟨es, clock, hb, Ft, hs, hD⟩ := hown
      exact ⟨es, clock, heap_alloc_keep hb _, Ft, hs, hD⟩)
  have cS := AnyZ.sorted_in Tryz.sortedS Fence.wide 5 trivial trivial trivial trivial rfl (by omega) (sortsS _) (enters_of Tryz.func149 (by kernel_rfl) rfl) 150 #[.pointer (some ⟨w.heap.size, 0, none⟩)] trivial (enters_of Tryz.func150 (by kernel_rfl) rfl) _ _ (by rw [hsz]; unfold maxLen; omega) (by rw [hsz]; omega) _ hseq
  refine (callsIn_wide.1 cS).mono ?_
  rintro e w' ⟨v, ss, rfl, hS, hrow, _, hB⟩
  have hl : ss.length = kvs.length := by have := hS.length_eq; simpa [toD, strKeys] using this
  have e1 : ss.mergeSort (fun x y => decide (x ≤ y)) = kvs.map fun p => keyS p.1 := by
    have e : strKeys (toD kvs) = kvs.map fun p => keyS p.1 := by
      simp only [toD, strKeys, List.map_map]
      apply List.map_congr_left
      intro p hp
      obtain ⟨s, hs⟩ := hk p hp
      simp [heldP, hs, keyS, strOf]
    rw [mergeSort_of_perm hS, e]
    exact List.mergeSort_of_pairwise (sorted_strs hr hk)
  rw [e1, List.map_map, hl] at hrow
  have hrow' : w'.ownsRow (w.alloc (.cells #[.map (some b)] 72)).heap.size 9 1 v kvs.length (kvs.map (encStr ∘ fun p => keyS p.1)) := hrow
  exact ⟨v, rfl, by simpa [Function.comp_def] using hrow', below_fra hB⟩

end
end Go.Proofs.YtbhjdddiihfafaaGreatDoor
/- maps.Clone, strings.HasPrefix, at this program. -/
namespace Go.Proofs.YtbhjdddiihfafaaGreatDoor
open Go.RowKit Go.Maps Go.Shelf


theorem cloneSS_any {w : World} {b : Nat} {kvs : List (Lit × Value)} (h : MapAt w 9 b kvs) :
    Calls Tryz.prog 31 #[.map (some b)] w fun e w' => e = .returned (.map (some w.heap.size)) ∧ MapAt w' 9 w.heap.size kvs ∧ FrA w w' ∧ w'.heap.size = w.heap.size + 1 := by
  obtain ⟨es, clock, hb, F, hs, hD⟩ := h
  refine (AnyW.maps_Clone Tryz.cloneSS b es clock w hb).mono ?_
  rintro e w' ⟨rfl, rfl⟩
  exact ⟨rfl, ⟨es, clock, heap_alloc_new _ _, F, hs, hD⟩, (Fr.refl _ w).alloc _, by simp⟩


theorem HasPrefix_any (s p : ByteArray) (w : World) : Calls Tryz.prog 113 #[.string s, .string p] w fun e w' => e = .returned (.bool (p.data.toList.isPrefixOf s.data.toList)) ∧ w = w' :=
  (Any.strings_HasPrefix Tryz.hasPrefix s p w).mono fun _ _ ⟨h1, h2⟩ => ⟨h1, h2.symm⟩

end Go.Proofs.YtbhjdddiihfafaaGreatDoor
