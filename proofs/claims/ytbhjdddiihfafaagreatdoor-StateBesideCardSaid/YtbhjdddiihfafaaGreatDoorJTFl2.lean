/- slices.SortFunc of files, by their paths. -/
import Derived.Shelf.SlSortCmp.NoneTotal
import Derived.Ground.SlsfProg
import Derived.Ground.NamesProg
import Derived.Test.YtbhjdddiihfafaaGreatDoorShelf
import Derived.Maps.RangeWalk
import Derived.Test.YtbhjdddiihfafaaGreatDoorJTree5
set_option linter.unusedVariables false
set_option linter.unusedSimpArgs false
namespace Go.Proofs.YtbhjdddiihfafaaGreatDoor
open Go.Shelf Go.RowKit Go.Maps Go.Sort


theorem bytesLess_lt : ∀ (a b : List UInt8), Op.bytesLess a b = true ↔ a < b
  | [], [] => by simp [Op.bytesLess]
  | [], _ :: _ => by simp [Op.bytesLess]
  | _ :: _, [] => by simp [Op.bytesLess]
  | x :: r, y :: s => by
    rw [List.cons_lt_cons_iff, ← bytesLess_lt r s]
    simp [Op.bytesLess]

def cmpS (x y : List UInt8) : Int := if x < y then -1 else if y < x then 1 else 0

theorem isNaNS_any (s : ByteArray) (w : World) : Calls Tryz.prog 142 #[.string s] w fun e w' => e = .returned (.bool false) ∧ w = w' := by
  go_enter Tryz.func142, Tryz.ntmps142
  go_wp2
  go_ret
  simp

theorem CompareS_any (x y : List UInt8) (w : World) : Calls Tryz.prog 84 #[.string (bs x), .string (bs y)] w fun e w' => e = .returned (.int .i64 (cmpS x y)) ∧ w = w' := by
  have hbx : (bs x).toList = x := by rw [ByteArray.toList_eq, bs_data]
  have hby : (bs y).toList = y := by rw [ByteArray.toList_eq, bs_data]
  by_cases h1 : x < y
  · have e1 : Op.bytesLess x y = true := (bytesLess_lt x y).2 h1
    have hr : cmpS x y = -1 := by unfold cmpS; rw [if_pos h1]
    rw [hr]
    go_enter Tryz.func84, Tryz.ntmps84
    go_wp2_with (go_at_call 142; (refine (isNaNS_any _ _).mono ?_); rintro e w' ⟨rfl, rfl⟩)
    go_ret
    exact ⟨rfl, rfl⟩
  · have e1 : Op.bytesLess x y = false := by
      cases h : Op.bytesLess x y with
      | false => rfl
      | true => exact absurd ((bytesLess_lt x y).1 h) h1
    by_cases h2 : x = y
    · subst h2
      have hr : cmpS x x = 0 := by unfold cmpS; rw [if_neg h1, if_neg h1]
      rw [hr]
      go_enter Tryz.func84, Tryz.ntmps84
      go_wp2_with (go_at_call 142; (refine (isNaNS_any _ _).mono ?_); rintro e w' ⟨rfl, rfl⟩)
      go_ret
      exact ⟨rfl, rfl⟩
    · have h3 : y < x := Std.lt_of_le_of_ne (Std.not_lt.1 h1) (Ne.symm h2)
      have e2 : (x == y) = false := by simpa using h2
      have hr : cmpS x y = 1 := by unfold cmpS; rw [if_neg h1, if_pos h3]
      rw [hr]
      go_enter Tryz.func84, Tryz.ntmps84
      go_wp2_with (go_at_call 142; (refine (isNaNS_any _ _).mono ?_); rintro e w' ⟨rfl, rfl⟩)
      go_ret
      exact ⟨rfl, rfl⟩

/-- A file with a slice of bytes. -/
abbrev Fv := Fl × (Option Addr × Nat × Nat)
instance : Inhabited Fl := ⟨⟨[], false, []⟩⟩
def Fv.val (x : Fv) : Value := .slice x.2.1 x.2.2.1 x.2.2.2
def Fv.cells (x : Fv) : List Value := flCells (x.1, x.val)

theorem cmpFile_any (x y : Fv) (W : World) : Calls Tryz.prog 83 #[.agg x.cells.toArray, .agg y.cells.toArray] W fun e w' => e = .returned (.int .i64 (cmpS x.1.path y.1.path)) ∧ ∃ q os', w' = grow (W.drewN q) os' := by
  have hC := fun w' => CompareS_any x.1.path y.1.path w'
  obtain ⟨r, hr⟩ : ∃ r, r = cmpS x.1.path y.1.path := ⟨_, rfl⟩
  rw [← hr] at hC ⊢
  have HC := Lib.hid hC
  clear hr hC
  unfold Fv.cells flCells Fv.val
  go_enter Tryz.func83, Tryz.ntmps83
  go_wp2_with (go_at_call 84; (refine (HC.out _).mono ?_); rintro e w' ⟨rfl, rfl⟩)
  go_ret
  exact ⟨rfl, 0, _, by rw [alloc_eq_grow, alloc_eq_grow, grow_grow]; rfl⟩

def cmpFv (x y : Fv) : Int := cmpS x.1.path y.1.path

theorem ltFv (x y : Fv) : ltOf cmpFv x y = decide (x.1.path < y.1.path) := by
  unfold ltOf cmpFv cmpS
  by_cases h1 : x.1.path < y.1.path
  · simp [h1]
  · by_cases h2 : y.1.path < x.1.path <;> simp [h1, h2]

theorem swoFv : SWO (ltOf cmpFv) := {
  irrefl x := by rw [ltFv]; simp
  trans x y z h1 h2 := by rw [ltFv] at *; simp at *; exact Std.lt_trans h1 h2
  ntrans x y z h1 h2 := by rw [ltFv] at *; simp at *; exact Std.le_trans h2 h1 }

theorem put_own {w : World} {B E k n cap g : Nat} {xs : List Value} (h : w.ownsRow B E k (.slice (some ⟨g, 0, none⟩) n cap) n xs) (F : Array Value) (hF : F.size = n * k) (m : Nat) (os : Array Obj) :
    (grow (putRow id (Sort.ahead w m) g 0 F) os).ownsRow B E k (.slice (some ⟨g, 0, none⟩) n cap) n F.toList ∧ Fr (fun k' _ => k' ≠ g) w (grow (putRow id (Sort.ahead w m) g 0 F) os) := by
  obtain ⟨h1, h2⟩ := h
  rcases h2 with ⟨h2, _⟩ | ⟨g', cap', cur, e, hg, hh, hle, hm, hs, ht⟩
  · cases h2
  · cases e
    have hlt : g < w.heap.size := lt_of_heap hh
    have hsz : (putRow id (Sort.ahead w m) g 0 F).heap.size = w.heap.size := by
      unfold putRow mapBlock Sort.ahead; simp
    have hcells : (putRow id (Sort.ahead w m) g 0 F).heap[g]? = some (.cells (putCells id 0 F cur) E (0, 0)) := by
      unfold putRow mapBlock Sort.ahead
      simp only [Array.getElem?_modify, if_true]
      rw [hh]; rfl
    have hnk : n * k ≤ cur.size := by rw [hs]; exact Nat.mul_le_mul_right _ hle
    refine ⟨⟨by simp [hF], .inr ⟨g, cap, putCells id 0 F cur, rfl, hg, ?_, hle, hm, ?_, ?_⟩⟩, ⟨rfl, rfl, rfl, ?_, fun i o ho hne => ?_⟩⟩
    · rw [heap_grow_old _ _ (by rw [hsz]; exact hlt)]; exact hcells
    · unfold putCells; simp [hs]
    · apply List.ext_getElem?
      intro j
      by_cases hj : j < n * k
      · rw [List.getElem?_take_of_lt hj, Array.getElem?_toList, Array.getElem?_toList]
        unfold putCells
        rw [Array.getElem?_mapIdx, Array.getElem?_eq_getElem (show j < cur.size by omega), Array.getElem?_eq_getElem (show j < F.size by omega)]
        simp only [Option.map_some]
        rw [if_pos ⟨Nat.zero_le _, by omega⟩]
        simp [show j < F.size by omega]
      · rw [List.getElem?_eq_none (by simp; omega), List.getElem?_eq_none (by simp; omega)]
    · rw [size_grow, hsz]; omega
    · rw [heap_grow_old _ _ (by rw [hsz]; exact lt_of_heap ho)]
      unfold putRow mapBlock Sort.ahead
      simp only [Array.getElem?_modify]
      rw [if_neg (Ne.symm hne)]; exact ho

theorem flat_list (d : Array Fv) : (flatK Fv.cells 3 d).toList = d.toList.flatMap Fv.cells := by
  apply List.ext_getElem?
  intro t
  have hl : ∀ l : List Fv, (l.flatMap Fv.cells).length = l.length * 3 := fun l => by
    induction l with
    | nil => rfl
    | cons a l ih => rw [List.flatMap_cons, List.length_append, ih]; simp [Fv.cells, flCells]; omega
  by_cases ht : t < d.size * 3
  · have h1 : t / 3 < d.size := by omega
    have h2 := flat3_at Fv.cells (fun _ => rfl) d.toList (t / 3) d[t / 3] (by simp [h1]) (t % 3) (Nat.mod_lt _ (by decide))
    rw [show t / 3 * 3 + t % 3 = t from by omega] at h2
    rw [h2, Array.getElem?_toList, Array.getElem?_eq_getElem (by simpa using ht)]
    have h3 := get_flatK Fv.cells 3 d t ht
    rw [getElem!_pos _ _ (by simpa using ht)] at h3
    rw [h3, getElem!_pos d _ h1]
    have h4 : t % 3 < 3 := Nat.mod_lt _ (by decide)
    have h5 : (Fv.cells d[t / 3]).length = 3 := rfl
    rw [List.getElem?_eq_getElem (by rw [h5]; exact h4), getElem!_pos _ _ (by rw [h5]; exact h4)]
  · rw [List.getElem?_eq_none (by simp; omega), List.getElem?_eq_none (by rw [hl]; simp; omega)]

theorem sortFiles_any (w : World) (l : List Fv) {B n : Nat} {v : Value} (hn : l.length = n) (hown : w.ownsRow B 51 3 v n (l.flatMap Fv.cells)) (hl : n ≤ 1048576) :
    Calls Tryz.prog 82 #[v, .func (.func 83) #[] #[]] w fun e w' => e = .returned (.tuple #[]) ∧ ∃ l' : List Fv, l'.Perm l ∧ l'.Pairwise (fun x y => x.1.path ≤ y.1.path) ∧ w'.ownsRow B 51 3 v n (l'.flatMap Fv.cells) ∧ Fr (fun k _ => v.ownBlock ≠ some k) w w' := by
  subst hn
  by_cases h0 : l.length = 0
  · have : l = [] := List.eq_nil_of_length_eq_zero h0
    subst this
    obtain ⟨ao, cap, rfl⟩ := own_shape hown
    refine (AnyF.slices_SortFunc_none Tryz.sortFiles ao cap _ w).mono ?_
    rintro e w' ⟨rfl, rfl⟩
    exact ⟨rfl, [], List.Perm.refl _, List.Pairwise.nil, hown, Fr.refl _ _⟩
  · have hown' := hown
    obtain ⟨h1, h2⟩ := hown
    rcases h2 with ⟨_, h3⟩ | ⟨g, cap, cur, rfl, hg, hh, hle, hm, hs, ht⟩
    · exact absurd h3 h0
    · have hsl := Sl.of_own hown'
      have hH : HoldsK Fv.cells 3 w g 0 l.toArray := by
        intro j hj
        rw [size_flatK] at hj
        have hj' : j < l.length * 3 := by simpa using hj
        refine ⟨?_, free_of_heap hh _⟩
        rw [Nat.zero_add, cell_of_heap hh j]
        have e1 : (flatK Fv.cells 3 l.toArray)[j]? = some (id (flatK Fv.cells 3 l.toArray)[j]!) := by
          rw [Array.getElem?_eq_getElem (by simpa using hj), getElem!_pos _ _ (by simpa using hj)]; rfl
        have e2 : (flatK Fv.cells 3 l.toArray)[j]? = (l.flatMap Fv.cells)[j]? := by rw [← Array.getElem?_toList, flat_list]
        rw [← e1, e2, ← ht, List.getElem?_take_of_lt hj', Array.getElem?_toList]
      have hcon := AnyQ.slices_SortFunc Tryz.sortFiles 3 (fun _ => by kernel_rfl) (fun _ => by kernel_rfl) Fv.cells (fun _ => rfl) (fun x v hv => by
        simp [Fv.cells, flCells, Fv.val] at hv
        rcases hv with rfl | rfl | rfl <;> rfl) cmpFv swoFv 83 #[] g 0 cap l.toArray w (enters_of Tryz.func83 (by kernel_rfl) rfl) (fun _ _ _ _ x y => cmpFile_any x y _) hH (lt_of_heap hh) (by simp; omega)
      rw [List.size_toArray] at hcon
      refine hcon.mono ?_
      rintro e w' ⟨rfl, d', m, os, hperm, hsort, rfl⟩
      have hsz : d'.size = l.length := by have := hperm.1; simpa using this
      obtain ⟨k1, k2⟩ := put_own hown' (flatK Fv.cells 3 d') (by simp [hsz]) m os
      refine ⟨rfl, d'.toList, ?_, ?_, ?_, k2.mono fun k o h e => h (by rw [e]; rfl)⟩
      · have hp := hperm.2.2
        have e1 : d'.extract 0 l.length = d' := by rw [← hsz]; simp
        have e2 : l.toArray.extract 0 l.length = l.toArray := by simp
        rw [e1, e2] at hp
        simpa using hp
      · rw [List.pairwise_iff_getElem]
        intro i j hi hj hij
        have hi' : i < d'.size := by simpa using hi
        have hj' : j < d'.size := by simpa using hj
        have := hsort i j (Nat.zero_le _) hij (by rw [← hsz]; exact hj')
        rw [ltFv, getElem!_pos d' i hi', getElem!_pos d' j hj'] at this
        simp at this
        simpa using this
      · rw [flat_list] at k1
        exact k1

end Go.Proofs.YtbhjdddiihfafaaGreatDoor
/- Package tree: Files. -/
namespace Go.Proofs.YtbhjdddiihfafaaGreatDoor
open Go.Shelf Go.RowKit Go.Maps

theorem elFile : El 22 51 (.agg #[.string ByteArray.empty, .bool false, .slice none 0 0]) 3 48 := ⟨by kernel_rfl, by kernel_rfl, rfl, by decide, by decide⟩

theorem keyOf_str_inv {key : Value} {kl : Lit} (h : keyOf Tryz.prog 9 key = some kl) : ∃ s : List UInt8, key = .string (bs s) ∧ kl = .string s := by
  have hu : Tryz.prog.underlying 9 = some .string := by kernel_rfl
  cases key with
  | string s =>
    by_cases hs : s.size ≤ maxLen
    · rw [str_key s hs] at h
      cases h
      exact ⟨s.data.toList, by rw [bs_of], rfl⟩
    · exfalso
      simp [keyOf, hu, mapKey] at h
      omega
  | _ => simp [keyOf, hu, mapKey] at h

theorem kget_of_hat {kvs : List (Lit × Value)} {kl : Lit} {c : Value} {y : DataW Value × List MemPlace} (hv : rawE c = some y) (hat : ∀ zd, (toD kvs).atKey kl zd = y.1) : kget kvs kl = some c := by
  have hy : y = (.held c, []) := (Option.some.inj hv).symm
  subst hy
  cases h : kget kvs kl with
  | some v =>
    have := hat (.held c)
    rw [toD_at, h] at this
    simp at this; rw [this]
  | none =>
    have h1 := hat (.held (.bool true))
    have h2 := hat (.held (.bool false))
    rw [toD_at, h] at h1 h2
    simp at h1 h2
    rw [← h1] at h2; cases h2

theorem ranges_fr {w w' : World} {K : Nat → Obj → Prop} {k : TypeId} {R : Value → Option (DataW Value × List MemPlace)} {b r n : Nat} {D : DataW Value} {left : Lit → Bool} {cnt : Nat} (h : w.ranges Tryz.prog k R b r n D left cnt) (hf : Fr K w w')
    (h1 : ∀ o, w.heap[b]? = some o → K b o) (h2 : ∀ o, w.heap[r]? = some o → K r o) : w'.ranges Tryz.prog k R b r n D left cnt := by
  obtain ⟨es, clock, since, seen, c0, hb, F, hs, hD, hr, rest⟩ := h
  exact ⟨es, clock, since, seen, c0, hf.keep _ _ hb (h1 _ hb), F, hs, hD, hf.keep _ _ hr (h2 _ hr), rest⟩

/-- The file's bytes lie where its slice says. -/
def FvOk (w : World) (q : Fv) : Prop := q.2.2.1 = q.1.b.length ∧ Sl w w.heap.size 5 1 q.2.1 q.1.b.length q.2.2.2 (q.1.b.map u8)

theorem FvOk.fr {w w' : World} {K : Nat → Obj → Prop} {q : Fv} (h : FvOk w q) (hf : Fr K w w') (hk : ∀ k c f, w.heap[k]? = some (.cells c 5 f) → K k (.cells c 5 f)) : FvOk w' q :=
  ⟨h.1, (h.2.keep fun b c f _ hc => hf.keep _ _ hc (hk _ _ _ hc)).mono hf.size⟩

/-- What was collected so far. -/
structure Acc (m : List (Lit × Nd)) (left : Lit → Bool) (acc : List Fv) : Prop where
  nodup : (acc.map fun q => q.1.path).Nodup
  get : ∀ q ∈ acc, kget m (.string q.1.path) = some (q.1.dir, q.1.b)
  gone : ∀ q ∈ acc, left (.string q.1.path) = false
  all : ∀ s, (kget m (.string s)).isSome → left (.string s) = false → ∃ q ∈ acc, q.1.path = s

theorem Acc.nil (m : List (Lit × Nd)) (kvs : List (Lit × Value)) (R : Value → Nd → Prop) (h : KRel R kvs m) : Acc m (Maps.has (toD kvs)) [] := by
  refine ⟨by simp, by simp, by simp, fun s h1 h2 => ?_⟩
  rw [toD_has] at h2
  rcases h.kget (.string s) with ⟨h3, h4⟩ | ⟨v, b, h3, h4, _⟩
  · rw [h4] at h1; cases h1
  · rw [h3] at h2; cases h2

theorem Acc.step {m : List (Lit × Nd)} {left : Lit → Bool} {acc : List Fv} (h : Acc m left acc) {q : Fv} (hl : left (.string q.1.path) = true) (hg : kget m (.string q.1.path) = some (q.1.dir, q.1.b)) :
    Acc m (fun z => left z && !z.sameKey (.string q.1.path)) (acc ++ [q]) := by
  refine ⟨?_, ?_, ?_, ?_⟩
  · rw [List.map_append, List.nodup_append]
    refine ⟨h.nodup, by simp, ?_⟩
    intro a ha b hb e
    simp at hb; subst hb; subst e
    obtain ⟨q', hq', he⟩ := List.mem_map.1 ha
    have := h.gone q' hq'
    rw [he, hl] at this; cases this
  · intro x hx
    rcases List.mem_append.1 hx with hx | hx
    · exact h.get x hx
    · rw [List.mem_singleton] at hx; subst hx; exact hg
  · intro x hx
    rcases List.mem_append.1 hx with hx | hx
    · simp [h.gone x hx]
    · rw [List.mem_singleton] at hx; subst hx; simp [same_str]
  · intro s h1 h2
    by_cases e : s = q.1.path
    · exact ⟨q, by simp, e.symm⟩
    · rw [same_str] at h2
      have : left (.string s) = false := by
        rw [Bool.and_eq_false_iff] at h2
        rcases h2 with h2 | h2
        · exact h2
        · simp [e] at h2
      obtain ⟨x, hx, hxe⟩ := h.all s h1 this
      exact ⟨x, by simp [hx], hxe⟩

section
variable {w w' : World} {tb mb : Nat} {t : Tm} {kvs : List (Lit × Value)}

set_option maxHeartbeats 2000000 in
set_option maxRecDepth 100000 in
theorem tFiles_any (h : TreeAt w tb mb t kvs) (hn : t.m.length ≤ 500000) (hB : ∀ q ∈ t.m, q.2.2.length ≤ 1048576) :
    Calls Tryz.prog 29 #[.pointer (some ⟨tb, 0, none⟩)] w fun e w' => ∃ v acc, e = .returned v ∧ Acc t.m (fun _ => false) acc ∧ acc.Pairwise (fun x y => x.1.path ≤ y.1.path) ∧ w'.ownsRow w.heap.size 51 3 v acc.length (acc.flatMap Fv.cells) ∧ (∀ q ∈ acc, FvOk w' q) ∧ FrA w w' := by
  have c0 : w.cell? ⟨tb, 0, none⟩ = some (.map (some mb)) := cell_of_heap h.tree 0
  have hmap : w.ownsMap Tryz.prog 9 rawE mb kvs.length (toD kvs) := h.map
  have hlen := h.len
  have hkn : kvs.length ≤ 500000 := by omega
  have hsz : Maps.size (toD kvs) = kvs.length := by simp [toD, Maps.size]
  have H := Lib.hid h
  have HL := Lib.hid hlen
  have HS := Lib.hid hsz
  clear hlen hsz h
  go_enter Tryz.func29, Tryz.ntmps29
  go_wp2_with (first | (at_range; refine wpList_range_own _ rfl _ _ rfl _ _ str_keys umapSN _ mb _ _ rfl hmap ?_; intro w0 hrg0 hg0 hs0) | go_in)
  go_frame
  have hlt0 : w.heap.size < w0.heap.size := by omega
  have hf0 : FrA w w0 := (Fr.refl _ w).grown hg0 (fun k o e => by cases e)
  have H0 := Lib.hid (And.intro hrg0 hf0)
  clear hrg0 hg0 hs0
  go_loopw [3] (fun outv wr => ∃ (acc : List Fv) (left : Lit → Bool) (cnt : Nat), wr.ranges Tryz.prog 9 rawE mb w.heap.size kvs.length (toD kvs) left cnt ∧ wr.ownsRow (w.heap.size + 1) 51 3 outv acc.length (acc.flatMap Fv.cells) ∧ Acc t.m left acc ∧ (∀ q ∈ acc, FvOk wr q) ∧ acc.length + cnt ≤ kvs.length ∧ FrA w wr ∧ w.heap.size < wr.heap.size) (fun _ wr => wr.rangeLeft mb w.heap.size)
  case atStart => exact ⟨[], _, _, H0.out.1, World.ownsRow_nil _ _ _ _, Acc.nil _ _ _ H.out.rel, by simp, by rw [HS.out]; simp, H0.out.2, hlt0⟩
  case round =>
    obtain ⟨acc, left, cnt, hrg, hown, hacc, hok, hcnt, hfr, hltr⟩ := hrel
    obtain ⟨ao, cap, rfl⟩ := own_shape hown
    have HR := Lib.hid (And.intro hown (And.intro hacc (And.intro hok (And.intro hcnt hfr))))
    clear hown hacc hok hfr
    go_wp2_with (at_next; refine wpList_next_ranges (α := List UInt8) (β := Value) _ rfl _ rfl _ str_keys rawE (fun s => .string (bs s)) id (fun key kl hk => by obtain ⟨s, h1, _⟩ := keyOf_str_inv hk; exact ⟨s, h1⟩) (fun v y _ => ⟨v, rfl⟩) mb w.heap.size _ _ _ _ rfl hrg ?_ ?_)
    · intro hc0 hl0
      have hsort := sortFiles_any wr acc rfl HR.out.1 (by omega)
      have HSO := Lib.hid hsort
      clear hsort
      go_wp2_with fail
      refine HSO.out.mono ?_
      rintro e w2 ⟨rfl, l', hperm, hsorted, hown2, hf2⟩
      have H2 := Lib.hid (And.intro hperm (And.intro hsorted (And.intro hown2 hf2)))
      clear hperm hsorted hown2 hf2
      go_wp2
      go_ret
      obtain ⟨hperm, hsorted, hown2, hf2⟩ := H2.out
      obtain ⟨hown, hacc, hok, _, hfr⟩ := HR.out
      have hlen : l'.length = acc.length := hperm.length_eq
      have hfa2 : FrA w w2 := fra_k hfr hf2 fun k o hk e => by
        have := (own_block hown e).1; omega
      refine ⟨_, l', rfl, ⟨?_, fun q hq => hacc.get q (hperm.mem_iff.1 hq), fun q hq => rfl, fun s h1 _ => ?_⟩, hsorted, ?_, fun q hq => ?_, hfa2⟩
      · exact (hperm.map _).nodup_iff.2 hacc.nodup
      · obtain ⟨q, hq, he⟩ := hacc.all s h1 (hl0 _)
        exact ⟨q, hperm.mem_iff.2 hq, he⟩
      · rw [hlen]; exact own_mono hown2 (by omega)
      · refine (hok q (hperm.mem_iff.1 hq)).fr hf2 fun k c f hc e => ?_
        obtain ⟨_, c', hc'⟩ := own_block hown e
        exact ne_of_types hc hc' (by decide) rfl
    · intro x c kl ya yb w1 cnt1 hkey hlk hv hat hrg1 hlt1 hg1 hs1 hen
      obtain ⟨s, hxs, rfl⟩ := keyOf_str_inv hkey
      have hx : x = s := by
        have := congrArg (fun v => match v with | Value.string b => b.data.toList | _ => []) hxs
        simpa [bs_data] using this
      subst hx
      have hkc := kget_of_hat (y := (ya, yb)) hv hat
      have hnd : ∃ nd, kget t.m (.string x) = some nd ∧ NodeAt w c nd := by
        rcases H.out.rel.kget (.string x) with ⟨h3, _⟩ | ⟨v', b', h3, h4, h5⟩
        · rw [hkc] at h3; cases h3
        · rw [hkc] at h3; cases h3; exact ⟨b', h4, h5⟩
      obtain ⟨⟨nd, nby⟩, hgm, hnode⟩ := hnd
      have hlby : nby.length ≤ 1048576 := by
        obtain ⟨k', hk'⟩ := kget_mem hgm
        exact hB _ hk'
      have hfr1 : FrA w w1 := HR.out.2.2.2.2.grown hg1 (fun k o e ho _ => by cases e; exact absurd (lt_of_heap ho) (by omega))
      have hnode1 := hnode.fra hfr1
      have hitn : ∀ k (c : Array Value) (ty : TypeId) (f : Nat × Nat), wr.heap[k]? = some (.cells c ty f) → some k ≠ some w.heap.size := fun k c ty f hc e => by
        cases e
        obtain ⟨_, _, _, _, _, _, _, _, _, hr, _⟩ := hrg
        rw [hr] at hc; cases hc
      have hown1 := HR.out.1
      have hown1' : w1.ownsRow (w.heap.size + 1) 51 3 (.slice ao acc.length cap) acc.length (acc.flatMap Fv.cells) := own_fr hown1 ((Fr.refl _ wr).grown (K := fun k _ => some k ≠ some w.heap.size) hg1 (fun k o e _ h => h e.symm)) fun g c f hg hc => hitn _ _ _ _ hc
      obtain ⟨nb, aon, capn, rfl, hnb, hsn⟩ := hnode1
      have n0 : w1.cell? ⟨nb, 0, none⟩ = some (.bool nd) := cell_of_heap hnb 0
      have n1 : w1.cell? ⟨nb, 1, none⟩ = some (.slice aon nby.length capn) := cell_of_heap hnb 1
      have hCB := fun w' (hf : FrA w1 w') => CloneBytes_any w' nby nby.length rfl (hsn.keep fun b c f _ hc => hf.keep _ _ hc trivial) (by omega)
      obtain ⟨nl, hnl⟩ : ∃ nl, nl = nby.length := ⟨_, rfl⟩
      rw [← hnl] at hCB n1 hlby
      have H1 := Lib.hid (And.intro hown1' (And.intro hrg1 (And.intro hgm (And.intro hfr1 (And.intro hg1 (And.intro hCB (And.intro hitn (And.intro hlk (And.intro hnb hnl)))))))))
      have hsz1 : w.heap.size + 1 ≤ w1.heap.size := by omega
      clear hown1 hown1' hrg1 hgm hfr1 hg1 hCB hitn hkc hat hv hnode hkey hlk hnb hnl hsn
      go_wp2_with fail
      go_region_law (first | (go_simp; go_at_call 81; (refine (H1.out.2.2.2.2.2.1 _ ((Fr.refl _ w1).drew)).mono ?_); rintro e w2 ⟨v2, rfl, g3, g4⟩; rw [← H1.out.2.2.2.2.2.2.2.2.2] at g3; obtain ⟨ao2, cp2, rfl⟩ := own_shape g3; have m0 := cell_of_heap (g4.keep _ _ H1.out.2.2.2.2.2.2.2.2.1 trivial) 0; have hown2 := own_fr H1.out.1 ((Fr.refl _ w1).drew.trans g4) (fun _ _ _ _ _ => trivial); have hsz2 := g4.size) | (refine step_app elFile rfl (.tmp 16) (.tmp 28) rfl (w.heap.size + 1) _ acc.length (acc.flatMap Fv.cells) rfl (hown2.alloc _) rfl (Sl.new _ [.string (bs x), .bool nd, .slice ao2 nl cp2] _ 3 1 1 rfl (Nat.le_refl _) (by decide) _) (fun u hu => by simp at hu; rcases hu with rfl | rfl | rfl <;> rfl) (by omega) (by simp; simp at hsz2; omega) ?_; intro v' w3 hown3 hgr3; obtain ⟨ao3, cp3, rfl⟩ := own_shape hown3))
      all_goals
        obtain ⟨hown1, hrg1, hgm, hfr1, hg1, hCB, hitn, hlk, hnb, hnl⟩ := H1.out
        have hF13 : Fr (fun k _ => Value.ownBlock (.slice ao acc.length cap) ≠ some k) w1 w3 := (((((Fr.refl _ w1).drew).trans g4).alloc _).mono fun _ _ _ => trivial : Fr (fun k _ => Value.ownBlock (.slice ao acc.length cap) ≠ some k) w1 _).grown hgr3 (fun k o e _ h => h e)
        have hob : ∀ k, Value.ownBlock (.slice ao acc.length cap) = some k → w.heap.size + 1 ≤ k ∧ ∃ c, w1.heap[k]? = some (.cells c 51 (0, 0)) := fun k e => own_block hown1 e
        have hrg3 := ranges_fr hrg1 hF13 (fun o ho e => by
          obtain ⟨_, c, hc⟩ := hob _ e
          exact (H.out.map.fr hfr1 fun _ _ => trivial).ne_cells hc rfl) (fun o ho e => by have := (hob _ e).1; omega)
        have hs3 : Sl w3 w3.heap.size 5 1 ao2 nl cp2 (nby.map u8) := by
          have h1 := (Sl.of_own g3).alloc (.cells #[.string (bs x), .bool nd, .slice ao2 nl cp2] 51)
          refine (h1.keep (w' := w3) fun q c f _ hc => grown_same hgr3 hc fun e => ?_).mono (by have := hgr3.size; simp at this; omega)
          have := own_block (hown2.alloc (.cells #[.string (bs x), .bool nd, .slice ao2 nl cp2] 51)) e.symm
          obtain ⟨_, c', hc'⟩ := this
          exact ne_of_types hc hc' (by decide) rfl
        have hf3 : FrA w w3 := fra_k hfr1 hF13 fun k o hk e => by have := (hob _ e).1; omega
        have H3 := Lib.hid (And.intro hF13 (And.intro hob (And.intro hrg3 (And.intro hs3 (And.intro hf3 hown3)))))
        clear hown1 hrg1 hgm hfr1 hg1 hCB hitn hlk hnb hnl hF13 hob hrg3 hs3 hown3 g3 g4 hgr3 hown2 hf3
        simp only [List.getElem_toArray, List.getElem_cons_succ, List.getElem_cons_zero, Act.put, List.setIfInBounds_toArray, List.set_cons_succ, List.set_cons_zero]
        go_wp2
        go_roundw
        case rel =>
          obtain ⟨hF13, hob, hrg3, hs3, hf3, hown3⟩ := H3.out
          obtain ⟨hown1, hrg1, hgm, hfr1, hg1, hCB, hitn, hlk, hnb, hnl⟩ := H1.out
          refine ⟨acc ++ [(⟨x, nd, nby⟩, (ao2, nl, cp2))], _, cnt1, hrg3, ?_, ?_, ?_, by rw [List.length_append]; simp; omega, hf3, by have := hF13.size; omega⟩
          · rw [List.length_append, List.flatMap_append]
            exact hown3
          · exact HR.out.2.1.step (q := (⟨x, nd, nby⟩, (ao2, nl, cp2))) hlk hgm
          · intro q hq
            rcases List.mem_append.1 hq with hq | hq
            · refine FvOk.fr ((HR.out.2.2.1 q hq).fr ((Fr.refl _ wr).grown (K := fun k _ => some k ≠ some w.heap.size) hg1 (fun k o e _ h => h e.symm)) fun k c f hc => hitn _ _ _ _ hc) hF13 fun k c f hc e => ?_
              obtain ⟨_, c', hc'⟩ := hob _ e
              exact ne_of_types hc hc' (by decide) rfl
            · rw [List.mem_singleton] at hq; subst hq
              exact ⟨hnl, by simp only; rw [← hnl]; exact hs3⟩
        case measure => rw [H3.out.2.2.1.left_eq, hrg.left_eq]; omega

end

end Go.Proofs.YtbhjdddiihfafaaGreatDoor
/- A tree's files in order: what Files tells is what the tree is. -/
namespace Go.Proofs.YtbhjdddiihfafaaGreatDoor
open Go.RowKit Go.Maps

theorem kget_cons_self {α : Type} (k : List UInt8) (v : α) (l : List (Lit × α)) : kget ((.string k, v) :: l) (.string k) = some v := by
  unfold kget; simp [same_str]

theorem before_str (a b : List UInt8) : (Lit.string a).before (.string b) = true ↔ a < b := by
  rw [Lit.before]; exact bytes_lt a b

theorem mem_iff_kget {m : List (Lit × Nd)} (hr : Rise m) (hk : ∀ q ∈ m, ∃ s : List UInt8, q.1 = .string s) (s : List UInt8) (x : Nd) : (Lit.string s, x) ∈ m ↔ kget m (.string s) = some x := by
  induction m with
  | nil => simp [kget]
  | cons p m ih =>
    obtain ⟨h1, h2⟩ := List.pairwise_cons.1 hr
    obtain ⟨sp, hsp⟩ := hk p (by simp)
    have ih := ih h2 (fun q hq => hk q (by simp [hq]))
    by_cases e : sp = s
    · subst e
      have hg : kget (p :: m) (.string sp) = some p.2 := by unfold kget; simp [hsp, same_str]
      rw [hg, List.mem_cons]
      constructor
      · rintro (h | h)
        · rw [← h]
        · have := h1 _ h
          rw [hsp] at this
          exact absurd ((before_str sp sp).1 this) (Std.lt_irrefl)
      · intro h
        left
        have := Option.some.inj h
        rw [← this, ← hsp]
    · have hg : kget (p :: m) (.string s) = kget m (.string s) := by
        unfold kget; rw [List.find?_cons, hsp, same_str, show (sp == s) = false by simpa using e]
      rw [hg, ← ih, List.mem_cons]
      constructor
      · rintro (h | h)
        · have : p.1 = .string s := by rw [← h]
          rw [hsp] at this
          cases this; exact absurd rfl e
        · exact h
      · exact .inr

theorem mem_files {t : Tm} (hr : Rise t.m) (hk : ∀ q ∈ t.m, ∃ s : List UInt8, q.1 = .string s) (f : Fl) : f ∈ t.files ↔ kget t.m (.string f.path) = some (f.dir, f.b) := by
  rw [← mem_iff_kget hr hk]
  unfold Tm.files
  rw [List.mem_map]
  constructor
  · rintro ⟨q, hq, rfl⟩
    obtain ⟨s, hs⟩ := hk q hq
    obtain ⟨k, d, b⟩ := q
    simp only at hs
    subst hs
    exact hq
  · intro h
    exact ⟨_, h, rfl⟩

theorem files_sorted {t : Tm} (hr : Rise t.m) (hk : ∀ q ∈ t.m, ∃ s : List UInt8, q.1 = .string s) : t.files.Pairwise fun x y => x.path < y.path := by
  unfold Tm.files
  rw [List.pairwise_map]
  refine hr.imp_of_mem fun {p q} hp hq h => ?_
  obtain ⟨a, ha⟩ := hk p hp
  obtain ⟨b, hb⟩ := hk q hq
  rw [ha, hb] at h ⊢
  exact (before_str a b).1 h

theorem files_eq {t : Tm} {acc : List Fv} (hr : Rise t.m) (hk : ∀ q ∈ t.m, ∃ s : List UInt8, q.1 = .string s) (hacc : Acc t.m (fun _ => false) acc) (hs : acc.Pairwise fun x y => x.1.path ≤ y.1.path) : acc.map (·.1) = t.files := by
  have hF : ∀ f, f ∈ acc.map (·.1) ↔ kget t.m (.string f.path) = some (f.dir, f.b) := by
    intro f
    rw [List.mem_map]
    constructor
    · rintro ⟨q, hq, rfl⟩; exact hacc.get q hq
    · intro h
      obtain ⟨q, hq, he⟩ := hacc.all f.path (by rw [h]; rfl) rfl
      have := hacc.get q hq
      rw [he, h] at this
      cases f; obtain ⟨⟨qp, qd, qb⟩, qv⟩ := q
      simp only at he this ⊢
      refine ⟨_, hq, ?_⟩
      cases this
      rw [he]
  have hG := mem_files hr hk
  have hGs := files_sorted hr hk
  refine List.Perm.eq_of_pairwise (le := fun x y : Fl => x.path ≤ y.path) ?_ (List.pairwise_map.2 hs) (hGs.imp fun h => Std.le_of_lt h) ((List.perm_ext_iff_of_nodup ?_ ?_).2 fun f => by rw [hF, hG])
  · intro a b ha hb h1 h2
    have e : a.path = b.path := Std.le_antisymm h1 h2
    have g1 := (hF a).1 ha
    have g2 := (hG b).1 hb
    rw [e, g2] at g1
    cases a; cases b
    simp only at e g1
    cases g1
    rw [e]
  · have := hacc.nodup
    rw [show (acc.map fun q => q.1.path) = (acc.map (·.1)).map (·.path) from by simp] at this
    unfold List.Nodup at this ⊢
    rw [List.pairwise_map] at this
    exact this.imp fun h e => h (by rw [e])
  · refine hGs.imp fun h e => ?_
    rw [e] at h
    exact Std.lt_irrefl h

/-- Files in rows of their own types. -/
structure FsT (w : World) (T : Nat) (ao : Option Addr) (n cap : Nat) (vs : List Value) (l : List Fl) : Prop where
  row : Sl w T 51 3 ao n cap ((l.zip vs).flatMap flCells)
  recs : Recs w T vs (l.map (·.b))

theorem FsT.at {w : World} {T n cap : Nat} {ao : Option Addr} {vs : List Value} {l : List Fl} (h : FsT w T ao n cap vs l) : FsAt w T ao n cap vs l :=
  ⟨⟨_, h.row⟩, h.recs.mono fun v r _ _ hr => by
    obtain ⟨ao, cap, rfl, hs⟩ := hr
    exact ⟨_, ao, cap, rfl, hs⟩⟩

theorem FsT.fr {w w' : World} {T n cap : Nat} {ao : Option Addr} {vs : List Value} {l : List Fl} {K : Nat → Obj → Prop} (h : FsT w T ao n cap vs l) (hfr : Fr K w w')
    (hk : ∀ k c t f, (t = 51 ∨ t = 5) → w.heap[k]? = some (.cells c t f) → K k (.cells c t f)) : FsT w' T ao n cap vs l :=
  ⟨h.row.keep fun b c f _ hc => hfr.keep _ _ hc (hk _ _ _ _ (.inl rfl) hc), h.recs.mono fun v r _ _ hr => by
    obtain ⟨ao, cap, rfl, hs⟩ := hr
    exact ⟨ao, cap, rfl, hs.keep fun b c f _ hc => hfr.keep _ _ hc (hk _ _ _ _ (.inr rfl) hc)⟩⟩

theorem FsT.fra {w w' : World} {T n cap : Nat} {ao : Option Addr} {vs : List Value} {l : List Fl} (h : FsT w T ao n cap vs l) (hfr : FrA w w') : FsT w' T ao n cap vs l := h.fr hfr fun _ _ _ _ _ _ => trivial

/-- What Files tells, as files. -/
theorem fsAt_of {w : World} {acc : List Fv} {B : Nat} {ao : Option Addr} {cap : Nat} (hown : w.ownsRow B 51 3 (.slice ao acc.length cap) acc.length (acc.flatMap Fv.cells)) (hok : ∀ q ∈ acc, FvOk w q) :
    FsT w w.heap.size ao acc.length cap (acc.map Fv.val) (acc.map (·.1)) := by
  constructor
  · have := Sl.of_own hown
    have e : ((acc.map (·.1)).zip (acc.map Fv.val)).flatMap flCells = acc.flatMap Fv.cells := by
      rw [List.zip_map', List.flatMap_map]; rfl
    rw [e]; exact this
  · refine ⟨by simp, fun i x y hx hy => ?_⟩
    simp only [List.getElem?_map, Option.map_eq_some_iff] at hx hy
    obtain ⟨q, hq, rfl⟩ := hx
    obtain ⟨f, ⟨q', hq', rfl⟩, rfl⟩ := hy
    rw [hq] at hq'; cases hq'
    obtain ⟨h1, h2⟩ := hok q (List.mem_of_getElem? hq)
    exact ⟨q.2.1, q.2.2.2, by unfold Fv.val; rw [h1], h2⟩

end Go.Proofs.YtbhjdddiihfafaaGreatDoor
