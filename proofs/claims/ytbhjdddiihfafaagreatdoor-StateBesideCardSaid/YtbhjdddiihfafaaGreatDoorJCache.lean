/- Package cache: a new one; its keys, where there are none. -/
import Derived.Test.YtbhjdddiihfafaaGreatDoorShelf
import Derived.Test.YtbhjdddiihfafaaGreatDoorJSto
import Derived.Test.YtbhjdddiihfafaaGreatDoorJTFl2
set_option linter.unusedVariables false
set_option linter.unusedSimpArgs false
namespace Go.Proofs.YtbhjdddiihfafaaGreatDoor
open Go.Shelf Go.RowKit Go.Maps Go.Sort


theorem cNew_any (w : World) (a : Option Addr) : Calls Tryz.prog 18 #[.pointer a] w fun e w' => e = .returned (.pointer (some ⟨w.heap.size, 0, none⟩)) ∧ w' = w.alloc (.cells #[.pointer a] 120) := by
  go_enter Tryz.func18, Tryz.ntmps18
  go_wp2
  go_ret
  exact ⟨rfl, rfl⟩

section
variable {w w' : World} {S : Sids} {N u : Nat} {m : Sm}

set_option maxHeartbeats 400000 in
set_option maxRecDepth 100000 in
theorem cKeys_none {cb : Nat} (h : Sto w S N u m) (hn : m.length ≤ 1048576) (hc : w.heap[cb]? = some (.cells #[.pointer (some ⟨S.st, 0, none⟩)] 120 (0, 0))) (hk : keysF m [99, 47] = []) :
    Calls Tryz.prog 37 #[.pointer (some ⟨cb, 0, none⟩)] w fun e w' => e = .returned (.slice none 0 0) ∧ FrA w w' := by
  obtain ⟨L, hst⟩ := h.st
  have hK := Keys_any hst h.ok hn ⟨#[99, 47]⟩
  have ek : keysF m (ByteArray.mk #[99, 47]).data.toList = [] := hk
  rw [ek] at hK
  have c0 : w.cell? ⟨cb, 0, none⟩ = some (.pointer (some ⟨S.st, 0, none⟩)) := cell_of_heap hc 0
  have HK := Lib.hid hK
  clear hK ek hk hst h hc
  go_enter Tryz.func37, Tryz.ntmps37
  go_wp2_with fail
  refine HK.out.mono ?_
  rintro e w1 ⟨v, rfl, hown, hf1⟩
  obtain ⟨ao, cap, rfl⟩ := own_shape hown
  have HF := Lib.hid hf1
  clear hown hf1
  simp only [List.length_nil]
  go_wp2_with fail
  go_loopw [3, 16] (fun v i wr => v = .slice none 0 0 ∧ i = .int .i64 0 ∧ wr = w1) (fun _ _ _ => 0)
  case atStart => exact ⟨rfl, rfl, rfl⟩
  case round =>
    obtain ⟨rfl, rfl, rfl⟩ := hrel
    go_wp2_with fail
    refine (AnyF.slices_SortFunc_none Tryz.sortKeys none 0 _ _).mono ?_
    rintro e w2 ⟨rfl, rfl⟩
    go_wp2
    go_ret
    exact ⟨rfl, HF.out⟩

end
end Go.Proofs.YtbhjdddiihfafaaGreatDoor
