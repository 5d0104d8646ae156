/-
  StateBeside holds for every input: which pairs come with a save, and which come by themselves, say nothing about what is loaded; a save of the same is the same.
  Conditions: the row's own cells; the listed variables of the library are tied to the program's text by the given tie.
-/
import Derived.Test.YtbhjdddiihfafaaGreatDoorCards
import Derived.Test.YtbhjdddiihfafaaGreatDoorTie
import Derived.Lay
import Derived.SevenTiedAt
import Derived.Stop.Joined
import Derived.Test.YtbhjdddiihfafaaGreatDoorJBesFacts
import Derived.Test.YtbhjdddiihfafaaGreatDoorJBeside2
import Derived.Test.YtbhjdddiihfafaaGreatDoorJOpenFs
set_option linter.unusedVariables false
set_option linter.unusedSimpArgs false
namespace Go.Proofs.YtbhjdddiihfafaaGreatDoor.stateBeside
open Go.ChangeShapes Go.WideShapes Go.ChangeAt Go.RowKit Go.ChangeMaps

theorem own : ownKnob Tryz.prog.godebug = none := by kernel_rfl

/-- For all arguments: true, and all that was stays. -/
theorem law {w : World} {T n cap : Nat} {ao : Option Addr} {vs : List Value} {l : List Fl} (M L K V : ByteArray) (h : FsAt w T ao n cap vs l) (hn : l.length = n) (hT : T ≤ w.heap.size)
    (hp : ∀ f ∈ l, f.path.length ≤ 9223372036854775807 ∧ f.b.length ≤ 9223372036854775807) (hM : M.size ≤ maxLen) (hL : L.size ≤ maxLen) (hK : K.size ≤ maxLen) (hV : V.size ≤ maxLen) :
    Calls Tryz.prog 3 #[.string M, .string L, .slice ao n cap, .string K, .string V] w fun e w' => e = .returned (.bool true) ∧ FrA w w' := by
  have eM := Lib.size_eq M
  have eL := Lib.size_eq L
  have eK := Lib.size_eq K
  have eV := Lib.size_eq V
  unfold maxLen at hM hL hK hV
  rw [← bs_of M, ← bs_of L, ← bs_of K, ← bs_of V]
  by_cases hb : lightB M.data.toList L.data.toList l K.data.toList V.data.toList
  · exact Beside_light _ _ _ _ h hn hT hb
  · exact Beside_heavy _ _ _ _ h hn hp (by omega) (by omega) (by omega) (by omega) hb

set_option maxRecDepth 100000 in
theorem lifted (os : Os) (started : os.Started) (H : Type) (enc : TypeId × Value → H) :
    ReturnsInHanded {} Tryz.checked os 3 .any (fun w args => (Rows.stateBesideSpec.pre enc Tryz.prog Tryz.f3 [] false w args ∧ laidMetH Tryz.prog Rows.stateBesideRow.laid w) ∧ sizedMet enc Tryz.prog Tryz.f3 (OpenSpec.ofChange Rows.stateBesideSpec) false w args)
      (Rows.stateBesideSpec.post enc Tryz.prog Tryz.f3 false true false false) := by
  refine returnsInHanded_of_change_and (C := Tryz.checked) (X := fun w _ => laidMetH Tryz.prog Rows.stateBesideRow.laid w) (fun _ _ _ hh h => h.of_heap hh) own started (by kernel_rfl) Tryz.func3
    (ChangeSpec.witness_shaped (enc := enc) (C := Tryz.checked) (os := os) (X := fun w _ => laidMetH Tryz.prog Rows.stateBesideRow.laid w) false (World.laidAll Tryz.prog os Rows.stateBesideRow.laid) #[.string ⟨#[]⟩, .string ⟨#[]⟩, .slice none 0 0, .string ⟨#[]⟩, .string ⟨#[]⟩] 8 (World.laidAll_os _ _ _)
      (World.shaped_of_ZipB (by kernel_rfl) (by kernel_rfl)) (by kernel_rfl) (by kernel_rfl) (by kernel_rfl)
      (by rw [MakeChecks.laidMetH_plain _ _ _ (by kernel_rfl)]; exact laidMet_laidAll _ (by kernel_rfl) (by kernel_rfl))) ?_
  intro W base args ds gs before hval0 hW _ _ hL _
  have hval : ∀ (j : Nat) t v, Tryz.f3.params[j]? = some t → args[j]? = some v → Value.okWide Tryz.prog W .any base t v := hval0
  have hW' := hW
  obtain ⟨p, q, hA0, hV, rfl, _, _⟩ := hW
  have hA : DataW.TrodAll enc Tryz.prog W 0 (fun _ => true) true Tryz.f3.params.toList args.toList ds p := hA0
  have hA1 := hA
  rw [Tryz.params3] at hA hval
  obtain ⟨v0, vs0, d0, ds0, p0, q0, hargs, rfl, rfl, h0, r0⟩ := trodAll_cons hA
  obtain ⟨v1, vs1, d1, ds1, p1, q1, rfl, rfl, rfl, h1, r1⟩ := trodAll_cons r0
  obtain ⟨v2, vs2, d2, ds2, p2, q2, rfl, rfl, rfl, h2, r2⟩ := trodAll_cons r1
  obtain ⟨v3, vs3, d3, ds3, p3, q3, rfl, rfl, rfl, h3, r3⟩ := trodAll_cons r2
  obtain ⟨v4, vs4, d4, ds4, p4, q4, rfl, rfl, rfl, h4, r4⟩ := trodAll_cons r3
  obtain ⟨rfl, rfl, rfl⟩ := trodAll_nil r4
  obtain rfl : args = #[v0, v1, v2, v3, v4] := by cases args; simp_all
  obtain ⟨rfl, rfl⟩ := trodVars_none hV
  obtain ⟨s0, rfl, _, _, hs0⟩ := open_string Tryz.underlying9 (hval 0 9 v0 rfl rfl) h0
  obtain ⟨s1, rfl, _, _, hs1⟩ := open_string Tryz.underlying9 (hval 1 9 v1 rfl rfl) h1
  obtain ⟨a2, l2, c2, rfl⟩ := okWide_slice Tryz.underlying22 (hval 2 22 v2 rfl rfl)
  obtain ⟨s3, rfl, _, _, hs3⟩ := open_string Tryz.underlying9 (hval 3 9 v3 rfl rfl) h3
  obtain ⟨s4, rfl, _, _, hs4⟩ := open_string Tryz.underlying9 (hval 4 9 v4 rfl rfl) h4
  obtain ⟨fuel, hf2⟩ := h2
  obtain ⟨ao, n, cap, vs, l, ev, hfs, hn, hp⟩ := open_files (v := .slice a2 l2 c2) hf2
  cases ev
  have hlt := hW'.lt
  refine (law s0 s1 s3 s4 hfs hn (Nat.le_refl _) hp hs0 hs1 hs3 hs4).mono fun e W' ⟨he, hf⟩ => ?_
  subst he
  have hb : Below W.heap.size W W' := (hf.mono fun _ _ _ => trivial : Fr (fun k _ => k < W.heap.size) W W').below (Nat.le_refl _)
  refine ⟨_, rfl, _, _, _, [], _, [], hW', trodAll_mk1 (shut_bool Tryz.underlying4 true), trodAll_below (P := Tryz.prog) (by kernel_rfl) hb (ts := Tryz.f3.params.toList) ?_ hA1 (fun x hx => hlt x (by rw [List.append_nil]; exact hx)), rfl, hb.frame _, fun h => by cases h⟩
  intro t ht
  rw [Tryz.params3] at ht
  have hall : ([9, 9, 22, 9, 9].all fun u => Tryz.prog.readableRec u && decide (u < Tryz.prog.types.size)) = true := by kernel_rfl
  have := List.all_eq_true.1 hall t ht
  simpa using this

theorem said : Rows.StateBesideSaid :=
  OpenClaim.holds_of_wide 3 Tryz.f3 rfl rfl rfl rfl rfl rfl rfl ⟨rfl, rfl, rfl, rfl, rfl⟩ rfl rfl rfl rfl rfl named Tryz.func3 facts inst wrap
    (fun os started H enc _ => lifted os started H enc)

/-- No parameter wants a stand-in; the program's own looks: what the card asks. -/
theorem plain (f : FuncId) (fn : Func) (hf : Tryz.pinned.checked.prog.funcNamed "haversack/haversacklaw22.StateBeside" = some f) (hfn : Tryz.pinned.checked.prog.funcs[f]? = some fn) :
    true = Tryz.pinned.checked.prog.looks [] ∧ ∀ (j : Nat) t, fn.params[j]? = some t → Tryz.pinned.checked.prog.wantsStandIn t = false := by
  obtain rfl : f = 3 := Option.some.inj ((show Tryz.prog.funcNamed "haversack/haversacklaw22.StateBeside" = some 3 by kernel_rfl).symm.trans hf) |>.symm
  obtain rfl : fn = Tryz.f3 := (Option.some.inj (Tryz.func3.symm.trans hfn)).symm
  refine ⟨by kernel_rfl, fun j t ht => ?_⟩
  rw [Tryz.params3] at ht
  have hm : t ∈ [9, 9, 22, 9, 9] := by simpa using Array.mem_of_getElem? ht
  have hall : ([9, 9, 22, 9, 9].all fun u => !Tryz.prog.wantsStandIn u) = true := by kernel_rfl
  exact (show Tryz.prog.wantsStandIn t = false by simpa using List.all_eq_true.1 hall t hm)

/-- The card. -/
theorem card : Rows.StateBesideCardSaid :=
  Claim7.holds_tied_plain_at .later [] _ _ _ _ said (fun _ h => by cases h) (by kernel_rfl) (fun _ h => by cases h) stateBeside_row_tie rfl ⟨rfl, rfl⟩ (by kernel_rfl) rfl plain (by kernel_rfl)

#print axioms card

end Go.Proofs.YtbhjdddiihfafaaGreatDoor.stateBeside
