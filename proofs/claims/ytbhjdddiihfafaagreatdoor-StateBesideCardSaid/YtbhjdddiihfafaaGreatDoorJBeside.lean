/- The statement StateBeside: its walk. -/
import Derived.Test.YtbhjdddiihfafaaGreatDoorJKnown
set_option linter.unusedVariables false
set_option linter.unusedSimpArgs false
namespace Go.Proofs.YtbhjdddiihfafaaGreatDoor
open Go.RowKit Go.Maps

section
variable {w w' : World} {S S' : Sids} {N u u' : Nat} {m m' : Sm}

/-- A row of a type of its own is none of a store's blocks. -/
theorem Sto.not (h : Sto w S N u m) {k : Nat} {c : Array Value} {t : TypeId} {f : Nat × Nat} (hc : w.heap[k]? = some (.cells c t f)) (h1 : t ≠ 83) (h2 : t ≠ 41) (h3 : t ≠ 132) (h4 : t ≠ 74) (o : Obj) : LK S.I k o ∧ k ≠ S.st := by
  obtain ⟨L, h⟩ := h.st
  obtain ⟨c', f', hs⟩ := h.log.disk.own
  obtain ⟨c'', f'', hd⟩ := h.log.disk.cell
  obtain ⟨kvs, hm⟩ := h.log.disk.map
  exact ⟨⟨ne_of_types hc hd h1, ne_of_types hc hs h2, fun e => hm.ne_cells hc e.symm, ne_of_types hc h.log.log h3, fun e => h.log.map.ne_cells hc e.symm⟩, ne_of_types hc h.st h4⟩

/-- One store's blocks are not the other's. -/
structure Apart (S S' : Sids) (H : Nat) : Prop where
  a : S.I.d < H ∧ S.I.bs < H ∧ S.I.bm < H ∧ S.I.bl < H ∧ S.I.bu < H ∧ S.st < H
  b : H ≤ S'.I.d ∧ H ≤ S'.I.bs ∧ H ≤ S'.I.bm ∧ H ≤ S'.I.bl ∧ H ≤ S'.I.bu ∧ H ≤ S'.st
  mb : H ≤ S'.mp
  ma : S.mp < H ∨ (S.mp ≠ S'.I.d ∧ S.mp ≠ S'.I.bs ∧ S.mp ≠ S'.I.bm ∧ S.mp ≠ S'.I.bl ∧ S.mp ≠ S'.I.bu ∧ S.mp ≠ S'.st)

theorem Sto.keepB {H : Nat} (h : Sto w S N u m) (h' : Sto w S' N u' m') (ha : Apart S S' H) (hf : Fr (fun k o => LK S.I k o ∧ k ≠ S.st) w w') : Sto w' S' N u' m' := by
  obtain ⟨⟨a1, a2, a3, a4, a5, a6⟩, ⟨b1, b2, b3, b4, b5, b6⟩, mb, ma⟩ := ha
  refine h'.fr hf (fun k o hk _ => ?_) fun k c f hc => h.not hc (by decide) (by decide) (by decide) (by decide) _
  rcases hk with rfl | rfl | rfl | rfl | rfl | rfl | rfl <;> exact ⟨⟨by omega, by omega, by omega, by omega, by omega⟩, by omega⟩

theorem Sto.keepA {H : Nat} (h : Sto w S N u m) (h' : Sto w S' N u' m') (ha : Apart S S' H) (hf : Fr (fun k o => LK S'.I k o ∧ k ≠ S'.st) w w') : Sto w' S N u m := by
  obtain ⟨⟨a1, a2, a3, a4, a5, a6⟩, ⟨b1, b2, b3, b4, b5, b6⟩, mb, ma⟩ := ha
  refine h.fr hf (fun k o hk _ => ?_) fun k c f hc => h'.not hc (by decide) (by decide) (by decide) (by decide) _
  rcases hk with rfl | rfl | rfl | rfl | rfl | rfl | rfl <;> exact ⟨⟨by omega, by omega, by omega, by omega, by omega⟩, by omega⟩

/-- Behind a change of either. -/
theorem Apart.setB {H mp' : Nat} (h : Apart S S' H) (hm : H ≤ mp') : Apart S ⟨S'.I, S'.st, mp'⟩ H := ⟨h.a, h.b, hm, h.ma⟩

theorem Apart.setA {H mp' : Nat} (h : Apart S S' H) (h' : Sto w S' N u' m') (hm : w.heap.size ≤ mp') : Apart ⟨S.I, S.st, mp'⟩ S' H := by
  obtain ⟨l1, l2, l3, l4, l5, l6, l7⟩ := h'.lts
  refine ⟨h.a, h.b, h.mb, .inr ⟨?_, ?_, ?_, ?_, ?_, ?_⟩⟩ <;> simp only <;> omega

theorem StaAt.sto {v : Value} {M L : List UInt8} {fl : List Fl} (h : StaAt w v M L fl) (hs : Sto w S N u m) (hf : Fr (fun k o => LK S.I k o ∧ k ≠ S.st) w w') : StaAt w' v M L fl :=
  h.fr hf fun k c t f ht hc => hs.not hc (by rcases ht with rfl | rfl <;> decide) (by rcases ht with rfl | rfl <;> decide) (by rcases ht with rfl | rfl <;> decide) (by rcases ht with rfl | rfl <;> decide) _

end

/-! ### what the guards let through -/
def lightB (M L : List UInt8) (l : List Fl) (K V : List UInt8) : Prop := M.length ≤ 200 ∧ L.length ≤ 200 ∧ lightF l = true ∧ K.length ≤ 50 ∧ V.length ≤ 100

section
variable {w w' : World} {T n cap : Nat} {ao : Option Addr} {vs : List Value} {l : List Fl}

set_option maxHeartbeats 1000000 in
set_option maxRecDepth 100000 in
theorem Beside_heavy (M L K V : List UInt8) (h : FsAt w T ao n cap vs l) (hn : l.length = n) (hp : ∀ f ∈ l, f.path.length ≤ 9223372036854775807 ∧ f.b.length ≤ 9223372036854775807)
    (hM : M.length ≤ 9223372036854775807) (hL : L.length ≤ 9223372036854775807) (hK : K.length ≤ 9223372036854775807) (hV : V.length ≤ 9223372036854775807) (hb : ¬ lightB M L l K V) :
    Calls Tryz.prog 3 #[.string (bs M), .string (bs L), .slice ao n cap, .string (bs K), .string (bs V)] w fun e w' => e = .returned (.bool true) ∧ FrA w w' := by
  have e1 : (bs M).size = M.length := bs_size M
  have e2 : (bs L).size = L.length := bs_size L
  have e3 : (bs K).size = K.length := bs_size K
  have e4 : (bs V).size = V.length := bs_size V
  have hLF := fun w' (hf : FrA w w') => LightFiles_any (h.fra hf) hn hp
  obtain ⟨r, hr⟩ : ∃ r, r = lightF l := ⟨_, rfl⟩
  rw [← hr] at hLF
  have hb' : ¬ (M.length ≤ 200 ∧ L.length ≤ 200 ∧ r = true ∧ K.length ≤ 50 ∧ V.length ≤ 100) := by rw [hr]; exact hb
  have H := Lib.hid hLF
  clear hLF hr hb h hp
  by_cases h1 : M.length ≤ 200
  · have d1 : decide ((M.length : Int) > 200) = false := by simp; omega
    by_cases h2 : L.length ≤ 200
    · have d2 : decide ((L.length : Int) > 200) = false := by simp; omega
      cases r
      · clear hb'
        go_enter Tryz.func3, Tryz.ntmps3
        go_wp2_with (first | (go_at_call 6; (refine (known_any _).mono ?_); rintro e w1 ⟨rfl, hf1⟩) | (go_at_call 7; (refine (H.out _ hf1).mono ?_); rintro e w2 ⟨rfl, rfl⟩))
        go_ret
        exact ⟨rfl, hf1⟩
      · by_cases h3 : K.length ≤ 50
        · have d3 : decide ((K.length : Int) > 50) = false := by simp; omega
          have d4 : decide ((V.length : Int) > 100) = true := by
            have : ¬ V.length ≤ 100 := fun h4 => hb' ⟨h1, h2, rfl, h3, h4⟩
            simp; omega
          clear hb'
          go_enter Tryz.func3, Tryz.ntmps3
          go_wp2_with (first | (go_at_call 6; (refine (known_any _).mono ?_); rintro e w1 ⟨rfl, hf1⟩) | (go_at_call 7; (refine (H.out _ hf1).mono ?_); rintro e w2 ⟨rfl, rfl⟩))
          go_ret
          exact ⟨rfl, hf1⟩
        · have d3 : decide ((K.length : Int) > 50) = true := by simp; omega
          clear hb'
          go_enter Tryz.func3, Tryz.ntmps3
          go_wp2_with (first | (go_at_call 6; (refine (known_any _).mono ?_); rintro e w1 ⟨rfl, hf1⟩) | (go_at_call 7; (refine (H.out _ hf1).mono ?_); rintro e w2 ⟨rfl, rfl⟩))
          go_ret
          exact ⟨rfl, hf1⟩
    · have d2 : decide ((L.length : Int) > 200) = true := by simp; omega
      clear hb'
      go_enter Tryz.func3, Tryz.ntmps3
      go_wp2_with (go_at_call 6; (refine (known_any _).mono ?_); rintro e w1 ⟨rfl, hf1⟩)
      go_ret
      exact ⟨rfl, hf1⟩
  · have d1 : decide ((M.length : Int) > 200) = true := by simp; omega
    clear hb'
    go_enter Tryz.func3, Tryz.ntmps3
    go_wp2_with (go_at_call 6; (refine (known_any _).mono ?_); rintro e w1 ⟨rfl, hf1⟩)
    go_ret
    exact ⟨rfl, hf1⟩

end
end Go.Proofs.YtbhjdddiihfafaaGreatDoor
