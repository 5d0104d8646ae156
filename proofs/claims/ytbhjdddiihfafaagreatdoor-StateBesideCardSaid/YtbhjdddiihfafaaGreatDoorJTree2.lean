/- Package tree: what a tree is in memory; New, at, room, make, ahead. -/
import Derived.Test.YtbhjdddiihfafaaGreatDoorJClean
set_option linter.unusedVariables false
set_option linter.unusedSimpArgs false
namespace Go.Proofs.YtbhjdddiihfafaaGreatDoor
open Go.RowKit Go.Maps

abbrev Nd := Bool × List UInt8

def NodeAt (w : World) (v : Value) (x : Nd) : Prop :=
  ∃ nb ao cap, v = .pointer (some ⟨nb, 0, none⟩) ∧ w.heap[nb]? = some (.cells #[.bool x.1, .slice ao x.2.length cap] 150 (0, 0)) ∧ Sl w w.heap.size 5 1 ao x.2.length cap (x.2.map u8)

structure TreeAt (w : World) (tb mb : Nat) (t : Tm) (kvs : List (Lit × Value)) : Prop where
  tree : w.heap[tb]? = some (.cells #[.map (some mb), .int .i64 t.size] 161 (0, 0))
  map : MapAt w 9 mb kvs
  rel : KRel (NodeAt w) kvs t.m

section
variable {w w' : World} {tb mb : Nat} {t : Tm} {kvs : List (Lit × Value)}

theorem NodeAt.fr {K : Nat → Obj → Prop} {v : Value} {x : Nd} (h : NodeAt w v x) (hfr : Fr K w w') (h1 : ∀ k c f, w.heap[k]? = some (.cells c 150 f) → K k (.cells c 150 f)) (h2 : ∀ k c f, w.heap[k]? = some (.cells c 5 f) → K k (.cells c 5 f)) : NodeAt w' v x := by
  obtain ⟨nb, ao, cap, rfl, hb, hs⟩ := h
  exact ⟨nb, ao, cap, rfl, hfr.keep _ _ hb (h1 _ _ _ hb), (hs.keep fun b c f _ hc => hfr.keep _ _ hc (h2 _ _ _ hc)).mono hfr.size⟩

theorem NodeAt.fra {v : Value} {x : Nd} (h : NodeAt w v x) (hfr : FrA w w') : NodeAt w' v x := h.fr hfr (fun _ _ _ _ => trivial) (fun _ _ _ _ => trivial)

theorem TreeAt.fr {K : Nat → Obj → Prop} (h : TreeAt w tb mb t kvs) (hfr : Fr K w w') (h0 : ∀ c f, K tb (.cells c 161 f)) (hm : ∀ e c, K mb (.map e c)) (h1 : ∀ k c f, w.heap[k]? = some (.cells c 150 f) → K k (.cells c 150 f)) (h2 : ∀ k c f, w.heap[k]? = some (.cells c 5 f) → K k (.cells c 5 f)) : TreeAt w' tb mb t kvs :=
  ⟨hfr.keep _ _ h.tree (h0 _ _), h.map.fr hfr hm, h.rel.mono fun _ _ _ _ ⟨e, hn⟩ => ⟨e, hn.fr hfr h1 h2⟩⟩

theorem TreeAt.fra (h : TreeAt w tb mb t kvs) (hfr : FrA w w') : TreeAt w' tb mb t kvs := h.fr hfr (fun _ _ => trivial) (fun _ _ => trivial) (fun _ _ _ _ => trivial) (fun _ _ _ _ => trivial)

theorem TreeAt.len (h : TreeAt w tb mb t kvs) : kvs.length = t.m.length := h.rel.1

theorem TreeAt.ne (h : TreeAt w tb mb t kvs) : mb ≠ tb := h.map.ne_cells h.tree

theorem umapSN : Tryz.prog.underlying 159 = some (.map 9 147) := by kernel_rfl
theorem zeroNode (w : World) : (zeroValue 147).run Tryz.prog w = .ok (.pointer none) w := by kernel_rfl

theorem tNew_any (w : World) : Calls Tryz.prog 71 #[] w fun e w' => e = .returned (.pointer (some ⟨w.heap.size + 1, 0, none⟩)) ∧ TreeAt w' (w.heap.size + 1) w.heap.size ⟨[], 0⟩ [] ∧ FrA w w' := by
  have hmm := @run_makeMap Tryz.prog
  go_enter Tryz.func71, Tryz.ntmps71
  go_wp2
  go_ret
  refine ⟨rfl, ⟨?_, (MapAt.made w _).alloc _, All2.nil⟩, ((Fr.refl _ w).alloc _).alloc _⟩
  have := heap_alloc_new (w.alloc (.map #[] 0)) (.cells #[.map (some w.heap.size), .int .i64 0] 161)
  simpa using this

/-- What a look-up tells. -/
def AtV (w : World) (v : Value) : Option Nd → Prop
  | none => v = .pointer none
  | some x => NodeAt w v x

theorem kget_at (h : TreeAt w tb mb t kvs) (k : Lit) : AtV w ((kget kvs k).getD (.pointer none)) (kget t.m k) := by
  rcases h.rel.kget k with ⟨h1, h2⟩ | ⟨v, b, h1, h2, hr⟩
  · rw [h1, h2]; exact rfl
  · rw [h1, h2]; exact hr

theorem AtV.fra {v : Value} {x : Option Nd} (h : AtV w v x) (hfr : FrA w w') : AtV w' v x := by
  cases x with
  | none => exact h
  | some x => exact NodeAt.fra h hfr

theorem AtV.shape {v : Value} {x : Option Nd} (h : AtV w v x) : ∃ a, v = .pointer a := by
  cases x with
  | none => exact ⟨_, h⟩
  | some x => obtain ⟨nb, _, _, e, _⟩ := h; exact ⟨_, e⟩

theorem tAt_any (h : TreeAt w tb mb t kvs) (p : List UInt8) (hp : p.length ≤ 1048576) :
    Calls Tryz.prog 73 #[.pointer (some ⟨tb, 0, none⟩), .string (bs p)] w fun e w' => ∃ v, e = .returned v ∧ AtV w' v (t.at p) ∧ FrA w w' := by
  have hsz : (bs p).size = p.length := bs_size p
  have hbx : (bs p).toList = p := by rw [ByteArray.toList_eq, bs_data]
  by_cases h0 : p = []
  · subst h0
    have ht : t.at [] = some (true, []) := by unfold Tm.at; rw [if_pos rfl]
    rw [ht]
    clear h
    go_enter Tryz.func73, Tryz.ntmps73
    go_wp2
    go_ret
    refine ⟨_, rfl, ⟨w.heap.size, none, 0, rfl, heap_alloc_new _ _, Sl.nil _ _ _ _⟩, (Fr.refl _ w).alloc _⟩
  · have ht : t.at p = kget t.m (.string p) := by unfold Tm.at; rw [if_neg h0]
    rw [ht]
    have hv := kget_at h (.string p)
    have hw0 : p.isEmpty = false := by simpa using h0
    have c0 : w.cell? ⟨tb, 0, none⟩ = some (.map (some mb)) := cell_of_heap h.tree 0
    have hmap := h.map
    have hkey := str_key (bs p) (by rw [hsz]; unfold maxLen; omega)
    rw [bs_data] at hkey
    have HV := Lib.hid hv
    clear h hv ht h0
    go_enter Tryz.func73, Tryz.ntmps73
    go_wp2_with (at_lookup; refine map_look rfl _ _ rfl str_keys umapSN rfl hmap (zeroNode _) rfl hkey ?_)
    go_ret
    exact ⟨_, rfl, HV.out, Fr.refl _ _⟩

theorem tRoom_any (h : TreeAt w tb mb t kvs) (files bytes : Int) (h1 : t.m.length ≤ 1048576) (h2 : -1073741824 ≤ t.size) (h3 : t.size ≤ 1073741824) :
    Calls Tryz.prog 137 #[.pointer (some ⟨tb, 0, none⟩), .int .i64 files, .int .i64 bytes] w fun e w' => e = .returned (.bool (t.room files bytes)) ∧ w = w' := by
  have c0 : w.cell? ⟨tb, 0, none⟩ = some (.map (some mb)) := cell_of_heap h.tree 0
  have c1 : w.cell? ⟨tb, 1, none⟩ = some (.int .i64 t.size) := cell_of_heap h.tree 1
  have hlen := h.len
  have hmap := h.map
  obtain ⟨s, hs⟩ : ∃ s, s = t.size := ⟨_, rfl⟩
  have hroom : t.room files bytes = (decide (files ≤ 500 - (kvs.length : Int)) && decide (bytes ≤ 1048576 - s)) := by unfold Tm.room; rw [hlen, hs]
  rw [hroom]
  rw [← hs] at c1 h2 h3
  have hk : (kvs.length : Int) ≤ 1048576 := by omega
  have w1 : IntKind.i64.wrap (500 - (kvs.length : Int)) = 500 - (kvs.length : Int) := by rw [IntKind.wrap_i64]; omega
  have w2 : IntKind.i64.wrap (1048576 - s) = 1048576 - s := by rw [IntKind.wrap_i64]; omega
  have hrl := fun ty => hmap.run_len umapSN ty
  clear h hroom hs hlen h1
  obtain ⟨g, hg⟩ : ∃ g, g = decide (files ≤ 500 - (kvs.length : Int)) := ⟨_, rfl⟩
  rw [← hg]
  have hg' : decide (files ≤ 500 - (kvs.length : Int)) = g := hg.symm
  clear hg
  cases g
  · go_enter Tryz.func137, Tryz.ntmps137
    go_wp2
    go_ret
    exact ⟨rfl, rfl⟩
  · go_enter Tryz.func137, Tryz.ntmps137
    go_wp2
    go_ret
    exact ⟨by simp [go_sem], rfl⟩



set_option maxRecDepth 100000 in
theorem tMake_any (h : TreeAt w tb mb t kvs) (l : List (List UInt8)) {n T cap : Nat} {ao : Option Addr} (hn : l.length = n) (hx : Sl w T 9 1 ao n cap (strs l)) (hl : ∀ d ∈ l, d.length ≤ 1048576) (hsz : t.m.length + n ≤ 1048576) :
    Calls Tryz.prog 138 #[.pointer (some ⟨tb, 0, none⟩), .slice ao n cap] w fun e w' => e = .returned (.tuple #[]) ∧ (∃ kvs', TreeAt w' tb mb ⟨makeF t.m l, t.size⟩ kvs') ∧ Fr (fun k _ => k ≠ mb) w w' := by
  subst hn
  have hne := h.ne
  go_enter Tryz.func138, Tryz.ntmps138
  go_wp2
  go_loopw [8] (fun i wr => ∃ k : Nat, k ≤ l.length ∧ i = .int .i64 k ∧ (∃ kvs', TreeAt wr tb mb ⟨makeF t.m (l.take k), t.size⟩ kvs') ∧ (makeF t.m (l.take k)).length ≤ t.m.length + k ∧ Fr (fun k _ => k ≠ mb) w wr) (fun i _ => l.length - (intOf i).toNat)
  case atStart => exact ⟨0, Nat.zero_le _, rfl, ⟨kvs, by simpa [makeF] using h⟩, by simp [makeF], Fr.refl _ _⟩
  case round =>
    obtain ⟨k, hk, rfl, ⟨kvr, htr⟩, hlen, hfr⟩ := hrel
    by_cases hkl : k < l.length
    · have hxr := hx.keep (w' := wr) fun b c f _ hc => hfr.keep _ _ hc (fun e => by subst e; exact h.map.ne_cells hc rfl)
      obtain ⟨b, off, rfl, _, hcl⟩ := hxr.at (by omega)
      obtain ⟨d, hd⟩ : ∃ d, l[k]? = some d := ⟨_, List.getElem?_eq_getElem hkl⟩
      have hcell : wr.cell? ⟨b, off + k, none⟩ = some (.string (bs d)) := by rw [hcl k (by omega)]; simp [strs, hd]
      have hkey := str_key (bs d) (by rw [bs_size]; have := hl d (List.mem_of_getElem? hd); unfold maxLen; omega)
      rw [bs_data] at hkey
      have hmk : makeF t.m (l.take (k + 1)) = kput (makeF t.m (l.take k)) (.string d) (true, []) := by
        unfold makeF; rw [List.take_add_one, hd, List.foldl_append]; rfl
      have c0 : wr.cell? ⟨tb, 0, none⟩ = some (.map (some mb)) := cell_of_heap htr.tree 0
      have hlk : kvr.length < maxLen := by have := htr.len; simp only at this; unfold maxLen; omega
      have hmap := htr.map
      have HK := Lib.hid (And.intro hmk (And.intro htr hfr))
      clear hmk htr hfr hcl hxr hd
      go_wp2_with (refine map_put rfl _ _ _ rfl str_keys umapSN rfl (hmap.alloc _) hlk rfl rfl hkey ?_; intro wx hm8 hg8)
      have hgf : Fr (fun k _ => k ≠ mb) wr wx := ((Fr.refl _ wr).alloc _).grown hg8 (fun k' o e _ hne => by cases e; exact hne rfl)
      go_roundw
      case rel =>
        refine ⟨k + 1, by omega, by go_num, ⟨_, ⟨hgf.keep _ _ HK.out.2.1.tree (Ne.symm hne), hm8, ?_⟩⟩, ?_, HK.out.2.2.trans hgf⟩
        · simp only
          rw [HK.out.1]
          have hmb : ∀ k (c : Array Value) (ty : TypeId) (f : Nat × Nat), wr.heap[k]? = some (.cells c ty f) → k ≠ mb := fun k c ty f hc e => by subst e; exact HK.out.2.1.map.ne_cells hc rfl
          refine KRel.kput (HK.out.2.1.rel.mono fun _ _ _ _ ⟨e, hn⟩ => ⟨e, hn.fr hgf (fun k c f hc => hmb _ _ _ _ hc) (fun k c f hc => hmb _ _ _ _ hc)⟩) _ ⟨wr.heap.size, none, 0, rfl, ?_, Sl.nil _ _ _ _⟩
          refine grown_same hg8 (heap_alloc_new _ _) fun e => ?_
          have := HK.out.2.1.map.lt
          cases e; omega
        · rw [HK.out.1]
          have := kput_length (makeF t.m (l.take k)) (.string d) (true, [])
          omega
      case measure => simp [intOf]; omega
    · go_wp2
      go_end0
      obtain rfl : k = l.length := by omega
      rw [List.take_length] at htr
      exact ⟨rfl, ⟨kvr, htr⟩, hfr⟩

end
end Go.Proofs.YtbhjdddiihfafaaGreatDoor
/- Package tree: ahead, put, Write, Mkdir. -/
namespace Go.Proofs.YtbhjdddiihfafaaGreatDoor
open Go.RowKit Go.Maps

def strSz : Value → Nat
  | .string s => s.size
  | _ => 0

theorem parentF_nil : parentF [] = [] := by unfold parentF; simp
theorem parentF_le (p : List UInt8) : (parentF p).length ≤ p.length := by unfold parentF; rw [List.length_take]; omega

theorem aheadF_end (m : List (Lit × Nd)) (q : List UInt8) (h : parentF q = []) : aheadF m q = some [] := by
  unfold aheadF
  split
  · rfl
  · first | rfl | rw [if_pos h]

theorem aheadF_step (m : List (Lit × Nd)) (q : List UInt8) (h : parentF q ≠ []) : aheadF m q = match kget m (.string (parentF q)) with
    | none => (aheadF m (parentF q)).map (parentF q :: ·)
    | some (true, _) => aheadF m (parentF q)
    | some (false, _) => none := by
  have hq : q ≠ [] := fun e => h (by rw [e, parentF_nil])
  rw [aheadF, dif_neg hq, if_neg h]
  rcases kget m (.string (parentF q)) with _ | ⟨_ | _, _⟩ <;> rfl

section
variable {w w' : World} {tb mb : Nat} {t : Tm} {kvs : List (Lit × Value)}

set_option maxHeartbeats 1000000 in
set_option maxRecDepth 100000 in
theorem tAhead_any (h : TreeAt w tb mb t kvs) (p : List UInt8) (hp : p.length ≤ 1000) :
    Calls Tryz.prog 136 #[.pointer (some ⟨tb, 0, none⟩), .string (bs p)] w fun e w' => FrA w w' ∧
      ((∃ l v, aheadF t.m p = some l ∧ e = .returned (.tuple #[v, .int .i64 0]) ∧ w'.ownsRow w.heap.size 9 1 v l.length (strs l) ∧ l.length ≤ 1000 ∧ ∀ d ∈ l, d.length ≤ 1000) ∨
       (aheadF t.m p = none ∧ e = .returned (.tuple #[.slice none 0 0, .int .i64 54]))) := by
  have hP := fun w' => Parent_any p w' (by omega)
  have HP := Lib.hid hP
  clear hP
  go_enter Tryz.func136, Tryz.ntmps136
  go_wp2_with (go_at_call 185; (refine (HP.out _).mono ?_); rintro e w3 ⟨rfl, rfl⟩)
  have H := Lib.hid h
  clear h
  go_loopw [6, 7] (fun v dv wr => ∃ (q : List UInt8) (acc : List (List UInt8)), dv = .string (bs (parentF q)) ∧ aheadF t.m p = (aheadF t.m q).map (acc ++ ·) ∧ wr.ownsRow w.heap.size 9 1 v acc.length (strs acc) ∧ FrA w wr ∧ acc.length + (parentF q).length ≤ 1000 ∧ q.length ≤ 1000 ∧ ∀ d ∈ acc, d.length ≤ 1000) (fun _ dv _ => strSz dv)
  case atStart => exact ⟨p, [], rfl, by simp, World.ownsRow_nil _ _ _ _, Fr.refl _ _, by have := parentF_le p; simp; omega, by omega, by simp⟩
  case round =>
    obtain ⟨q, acc, rfl, hah, hown, hfr, hlen, hq, hacc⟩ := hrel
    obtain ⟨d, hd⟩ : ∃ d, d = parentF q := ⟨_, rfl⟩
    have hdl := parentF_le q
    obtain ⟨ao, cap, rfl⟩ := own_shape hown
    have hbx : (bs d).toList = d := by rw [ByteArray.toList_eq, bs_data]
    rw [← hd] at hlen hdl ⊢
    by_cases h0 : d = []
    · have hend : aheadF t.m p = some acc := by rw [hah, aheadF_end _ _ (by rw [← hd]; exact h0)]; simp
      have HE := Lib.hid (And.intro hend (And.intro hown hfr))
      have hal : acc.length ≤ 1000 := by omega
      clear hend hah hown hfr hd
      subst h0
      go_wp2
      go_ret2
      exact ⟨HE.out.2.2, .inl ⟨acc, _, HE.out.1, rfl, HE.out.2.1, hal, hacc⟩⟩
    · have hst := aheadF_step t.m q (by rw [← hd]; exact h0)
      rw [← hd] at hst
      have hd1 : 0 < d.length := List.length_pos_iff.2 h0
      have hw0 : d.isEmpty = false := by simpa using h0
      have hPd := Parent_any d wr (by omega)
      have htr := H.out.fra hfr
      have c0 : wr.cell? ⟨tb, 0, none⟩ = some (.map (some mb)) := cell_of_heap htr.tree 0
      have hmap := htr.map
      have hkey := str_key (bs d) (by rw [bs_size]; unfold maxLen; omega)
      rw [bs_data] at hkey
      have hkg := kget_at htr (.string d)
      obtain ⟨x, hx⟩ : ∃ x, x = kget t.m (.string d) := ⟨_, rfl⟩
      obtain ⟨v, hv⟩ : ∃ v, v = (kget kvs (.string d)).getD (.pointer none) := ⟨_, rfl⟩
      rw [← hx] at hst hkg
      rw [← hv] at hkg
      have hpl := parentF_lt d h0
      have hszr := hfr.size
      have HL : Hid (∀ {ops : Array Oper} {rest : List Oper} {o : Oper} {a : Act} {Q : Exit → Act → World → Prop}, True) := Lib.hid trivial
      have HK := Lib.hid (And.intro hah (And.intro hst (And.intro hfr (And.intro hown hPd))))
      clear hah hst hfr htr hx hown hPd hd
      rcases x with _ | ⟨g, bb⟩
      · have hvn : v = .pointer none := hkg
        clear hkg
        rw [hvn] at hv
        have HV := Lib.hid hv
        clear hv hvn
        go_wp2_with (first | (at_lookup; refine map_look rfl _ _ rfl str_keys umapSN rfl hmap (zeroNode _) rfl hkey ?_; rw [← HV.out]) | (at_builtin; go_loud (refine app_sl elStr rfl (.tmp 24) (.tmp 26) rfl w.heap.size _ _ _ rfl (HK.out.2.2.2.1.alloc _) rfl (Sl.new _ [_] _ 1 1 1 rfl (Nat.le_refl _) (by decide) _) (fun u hu => by rw [List.mem_singleton] at hu; subst hu; rfl) (by omega) (by simp; omega) ?_); intro v6 w6 hown6 hgr6; obtain ⟨ao6, cp6, rfl⟩ := own_shape hown6; have hP6 := Parent_any d w6 (by omega); have HP6 := Lib.hid (And.intro hP6 (And.intro hown6 hgr6)); clear hP6 hown6 hgr6) | (go_at_call 185; (refine HP6.out.1.mono ?_); rintro e w3 ⟨rfl, rfl⟩))
        go_roundw
        case rel =>
          refine ⟨d, acc ++ [d], rfl, ?_, ?_, (HK.out.2.2.1.alloc _).grownNew HP6.out.2.2 (fun k e => (own_block HK.out.2.2.2.1 e).1), by simp; omega, by omega, ?_⟩
          · rw [HK.out.1, HK.out.2.1]; simp [Option.map_map, Function.comp_def]
          · have := HP6.out.2.1
            rw [List.length_append, List.length_singleton]
            rw [show strs (acc ++ [d]) = strs acc ++ [.string (bs d)] from by simp [strs]]
            exact this
          · intro y hy
            rcases List.mem_append.1 hy with hy | hy
            · exact hacc y hy
            · rw [List.mem_singleton] at hy; subst hy; omega
        case measure => simp [strSz, bs_size]; omega
      · obtain ⟨nb, aon, capn, hve, hnb, hsn⟩ := hkg
        rw [hve] at hv
        have HV := Lib.hid hv
        clear hv hve
        have n0 : wr.cell? ⟨nb, 0, none⟩ = some (.bool g) := cell_of_heap hnb 0
        clear hnb hsn
        cases g
        · go_wp2_with (first | (at_lookup; refine map_look rfl _ _ rfl str_keys umapSN rfl hmap (zeroNode _) rfl hkey ?_; rw [← HV.out]))
          go_ret2
          exact ⟨HK.out.2.2.1, .inr ⟨by rw [HK.out.1, HK.out.2.1]; rfl, rfl⟩⟩
        · go_wp2_with (first | (at_lookup; refine map_look rfl _ _ rfl str_keys umapSN rfl hmap (zeroNode _) rfl hkey ?_; rw [← HV.out]) | (go_at_call 185; (refine HK.out.2.2.2.2.mono ?_); rintro e w3 ⟨rfl, rfl⟩))
          go_roundw
          case rel =>
            exact ⟨d, acc, rfl, by rw [HK.out.1, HK.out.2.1], HK.out.2.2.2.1, HK.out.2.2.1, by omega, by omega, hacc⟩
          case measure => simp [strSz, bs_size]; omega

end
end Go.Proofs.YtbhjdddiihfafaaGreatDoor
