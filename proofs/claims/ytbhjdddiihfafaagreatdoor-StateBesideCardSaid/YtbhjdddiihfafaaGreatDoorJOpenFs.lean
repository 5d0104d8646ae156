/- Arguments opened: files; arguments read again behind a call that keeps all that was. -/
import Derived.ProofKit
import Derived.OpenShut
import Derived.Carry
import Derived.ChangeSlices
import Derived.Deep.Slices
import Derived.Deep.Fields
import Derived.Test.YtbhjdddiihfafaaGreatDoorJHelp
set_option linter.unusedVariables false
set_option linter.unusedSimpArgs false
namespace Go.Proofs.YtbhjdddiihfafaaGreatDoor
open Go.ChangeShapes Go.WideShapes Go.ChangeAt Go.RowKit Go.Deep

section
variable {H : Type} {enc : TypeId × Value → H} {P : Program} {w : World} {base : Nat} {spare : Nat → Bool} {held : Bool}

/-- A slice of structs, opened at every field. (The kit's extra-structs.) -/
theorem open_fields {t e : TypeId} {fs : Array Field} {fuel : Nat} {cs : List Value} {x : DataW H × List MemPlace} (ht : P.underlying t = some (.slice e)) (he : P.underlying e = some (.struct fs))
    (hone : oneCellFields P fs = true) (hC : P.cellsOf e = fs.size) (h : DataW.trod enc P w base spare held fuel t cs = some x) :
    (cs = [.slice none 0 0]) ∨
    ∃ (a : Addr) (len cap m : Nat), cs = [.slice (some a) len cap] ∧ len ≤ cap ∧ cap ≤ maxLen ∧ m = (if spare a.block then cap else len) ∧
      ∀ i, i < m → ∃ n : Nat, ∀ (j : Nat) (f : Field), fs[j]? = some f → ∃ (v : Value) (y : DataW H × List MemPlace), w.cell? (a.add (i * fs.size + j)) = some v ∧ DataW.trod enc P w base spare held n f.type [v] = some y := by
  rcases open_slice ht h with h0 | ⟨a, len, cap, m, n, D, Pl, hcs, hb, hl, hm, hmm, hx, hi⟩
  · exact .inl h0.1
  · refine .inr ⟨a, len, cap, m, hcs, hl, hm, hmm, fun i him => ?_⟩
    obtain ⟨cs', hc, ht'⟩ := hi i him
    rw [hC] at hc
    obtain ⟨ys, n', hn', hy, hlen, hyl, hf⟩ := DataW.trod_struct he ht'
    obtain ⟨_, hcl, hat⟩ := World.cells?_some hc
    refine ⟨n', fun j f hj => ?_⟩
    obtain ⟨ho, hk⟩ := hone_of hone j f hj
    have hjl : j < fs.size := (Array.getElem?_eq_some_iff.1 hj).1
    have hcell := hat j hjl
    have hv : cs'[j]? = some (cs'[j]'(by omega)) := List.getElem?_eq_getElem (by omega)
    have h1 := hf j f hj
    rw [ho, hk] at h1
    have hone' : (cs'.drop j).take 1 = [cs'[j]'(by omega)] := by
      rw [List.drop_eq_getElem_cons (by omega)]
      rfl
    rw [hone'] at h1
    have hys : ys[j]? = some (ys[j]'(by omega)) := List.getElem?_eq_getElem (by omega)
    refine ⟨_, _, ?_, h1.trans hys⟩
    rw [← Go.Deep.add_add, hcell, hv]

/-- Where a cell is read there lies a row. -/
theorem row_of_cell {a : Addr} {v : Value} (h : w.cell? a = some v) : ∃ b off c t f, a = ⟨b, off, none⟩ ∧ w.heap[b]? = some (.cells c t f) := by
  obtain ⟨b, off, sp⟩ := a
  unfold World.cell? at h
  split at h
  · rename_i c t f hc
    split at h
    · cases h
    · rename_i hs
      cases sp with
      | some _ => simp at hs
      | none => exact ⟨b, off, _, _, _, rfl, hc⟩
  · cases h

/-- A slice whose cells are known reads as them. -/
theorem sl_of_cells {a : Addr} {n size cap : Nat} {xs : List Value} (hl : xs.length = n * size) (hn : n ≤ cap) (hc : cap ≤ maxLen) (hs : 0 < size) (h : ∀ j, j < n * size → w.cell? (a.add j) = xs[j]?) : ∃ E, Sl w w.heap.size E size (some a) n cap xs := by
  by_cases h0 : n = 0
  · exact ⟨0, hl, hn, hc, by simp, .inl h0⟩
  · have hpos : 0 < n * size := Nat.mul_pos (by omega) hs
    have h1 := h 0 hpos
    rw [List.getElem?_eq_getElem (by omega)] at h1
    have e0 : a.add 0 = a := by simp [Addr.add]
    rw [e0] at h1
    obtain ⟨b, off, c, t, f, rfl, hb⟩ := row_of_cell h1
    refine ⟨t, hl, hn, hc, by simp, .inr ⟨b, off, c, f, rfl, lt_of_heap hb, hb, fun j hj => ?_⟩⟩
    have := h j hj
    rw [← this]
    unfold Addr.add
    by_cases hj0 : j = 0
    · subst hj0; rw [if_pos rfl, cell_of_heap hb]; simp
    · rw [if_neg hj0]; exact (cell_of_heap hb _).symm

end

theorem u8_of_wf {n : Int} (h : (Lit.int .u8 n).wf = true) : Value.int .u8 n = u8 (UInt8.ofNat n.toNat) := by
  have h2 : 0 ≤ n ∧ n ≤ 255 := by simpa [Lit.wf, IntKind.min, IntKind.max, IntKind.signed, IntKind.bits] using h
  unfold u8
  congr 1
  rw [UInt8.toNat_ofNat']
  omega

section
variable {H : Type} {enc : TypeId × Value → H} {w : World} {base : Nat} {held : Bool}

theorem oneF : ∃ fs, Tryz.prog.underlying 51 = some (.struct fs) ∧ oneCellFields Tryz.prog fs = true ∧ fs.size = 3 ∧ (∃ f, fs[0]? = some f ∧ f.type = 9) ∧ (∃ f, fs[1]? = some f ∧ f.type = 4) ∧ (∃ f, fs[2]? = some f ∧ f.type = 41) := by
  refine ⟨_, Tryz.underlying51, by kernel_rfl, rfl, ⟨_, rfl, rfl⟩, ⟨_, rfl, rfl⟩, ⟨_, rfl, rfl⟩⟩

/-- A slice of bytes that came in. -/
theorem open_bytes {fuel : Nat} {v : Value} {x : DataW H × List MemPlace} (h : DataW.trod enc Tryz.prog w base (fun _ => true) held fuel 41 [v] = some x) :
    ∃ (ao : Option Addr) (cap : Nat) (E : Nat) (b : List UInt8), v = .slice ao b.length cap ∧ Sl w w.heap.size E 1 ao b.length cap (b.map u8) ∧ b.length ≤ maxLen := by
  rcases open_ints elU8.und (show Tryz.prog.underlying 5 = some (.int .u8) by kernel_rfl) (by kernel_rfl) h with ⟨hcs, _⟩ | ⟨a, len, cap, zs, hcs, _, hl, hm, hz, _, hcell, hwf⟩
  · simp only [List.cons.injEq, and_true] at hcs
    subst hcs
    exact ⟨none, 0, 0, [], rfl, Sl.nil _ _ _ _, by decide⟩
  · simp only [List.cons.injEq, and_true] at hcs
    subst hcs
    rw [if_pos rfl] at hz
    obtain ⟨b, hb⟩ : ∃ b, b = (zs.take len).map fun n => UInt8.ofNat n.toNat := ⟨_, rfl⟩
    have hbl : b.length = len := by rw [hb, List.length_map, List.length_take]; omega
    obtain ⟨E, hE⟩ := sl_of_cells (w := w) (a := a) (n := len) (size := 1) (cap := cap) (xs := b.map u8) (by rw [List.length_map]; omega) hl hm (by decide) fun j hj => by
      have hj' : j < len := by omega
      rw [hcell j (by omega), hb]
      have hjz : j < zs.length := by omega
      have hw := hwf (zs[j]) (List.getElem_mem hjz)
      rw [List.map_map, List.getElem?_map, List.getElem?_take_of_lt hj', List.getElem?_eq_getElem hjz]
      simp only [Option.map_some, Function.comp]
      rw [← u8_of_wf hw]
      simp [List.getD, hjz]
    refine ⟨some a, cap, E, b, by rw [hbl], ?_, by rw [hbl]; omega⟩
    rw [hbl]; exact hE

/-- Files that came in. -/
theorem open_files {fuel : Nat} {v : Value} {x : DataW H × List MemPlace} (h : DataW.trod enc Tryz.prog w base (fun _ => true) held fuel 22 [v] = some x) :
    ∃ (ao : Option Addr) (n cap : Nat) (vs : List Value) (l : List Fl), v = .slice ao n cap ∧ FsAt w w.heap.size ao n cap vs l ∧ l.length = n ∧ ∀ f ∈ l, f.path.length ≤ 9223372036854775807 ∧ f.b.length ≤ 9223372036854775807 := by
  obtain ⟨fs, hu, hone, hsz, ⟨f0, hf0, ht0⟩, ⟨f1, hf1, ht1⟩, ⟨f2, hf2, ht2⟩⟩ := oneF
  rcases open_fields (show Tryz.prog.underlying 22 = some (.slice 51) by kernel_rfl) hu hone (by rw [hsz]; kernel_rfl) h with hcs | ⟨a, len, cap, m, hcs, hl, hm, hmm, hi⟩
  · simp only [List.cons.injEq, and_true] at hcs
    subst hcs
    exact ⟨none, 0, 0, [], [], rfl, ⟨⟨0, Sl.nil _ _ _ _⟩, rfl, by intro i a b h; cases h⟩, rfl, by simp⟩
  · simp only [List.cons.injEq, and_true] at hcs
    subst hcs
    rw [if_pos rfl] at hmm
    subst hmm
    rw [hsz] at hi
    have key : ∀ i, i < len → ∃ q : Fl × Value, w.cell? (a.add (i * 3 + 0)) = some (.string (bs q.1.path)) ∧ w.cell? (a.add (i * 3 + 1)) = some (.bool q.1.dir) ∧ w.cell? (a.add (i * 3 + 2)) = some q.2 ∧
        (∃ E ao cap, q.2 = .slice ao q.1.b.length cap ∧ Sl w w.heap.size E 1 ao q.1.b.length cap (q.1.b.map u8)) ∧ q.1.path.length ≤ 9223372036854775807 ∧ q.1.b.length ≤ 9223372036854775807 := by
      intro i hil
      obtain ⟨k, hk⟩ := hi i (by omega)
      obtain ⟨v0, y0, c0, r0⟩ := hk 0 f0 hf0
      obtain ⟨v1, y1, c1, r1⟩ := hk 1 f1 hf1
      obtain ⟨v2, y2, c2, r2⟩ := hk 2 f2 hf2
      rw [ht0] at r0
      rw [ht1] at r1
      rw [ht2] at r2
      obtain ⟨s, e0, _, hs⟩ := DataW.trod_string (show Tryz.prog.underlying 9 = some .string by kernel_rfl) r0
      obtain ⟨d, e1, _⟩ := DataW.trod_bool (show Tryz.prog.underlying 4 = some .bool by kernel_rfl) r1
      obtain ⟨ao, cp, E, b, rfl, hsl, hbl⟩ := open_bytes r2
      simp only [List.cons.injEq, and_true] at e0 e1
      subst e0; subst e1
      have hsz : s.data.toList.length = s.size := (Lib.size_eq s).symm
      unfold maxLen at hs hbl
      exact ⟨(⟨s.data.toList, d, b⟩, .slice ao b.length cp), by rw [c0, bs_of], c1, c2, ⟨E, ao, cp, rfl, hsl⟩, by simp only; omega, by simp only; omega⟩
    haveI : Inhabited (Fl × Value) := ⟨(⟨[], false, []⟩, .slice none 0 0)⟩
    obtain ⟨q, hq⟩ := choose_lt key
    obtain ⟨L, hL⟩ : ∃ L : List (Fl × Value), L = (List.range len).map q := ⟨_, rfl⟩
    have hLl : L.length = len := by rw [hL]; simp
    have hLi : ∀ i, i < len → L[i]? = some (q i) := fun i hi => by rw [hL]; simp [hi]
    have hzip : (L.map (·.1)).zip (L.map (·.2)) = L := by
      rw [List.zip_map']; simp
    refine ⟨some a, len, _, L.map (·.2), L.map (·.1), rfl, ⟨?_, ?_⟩, by rw [List.length_map, hLl], ?_⟩
    · rw [hzip]
      refine sl_of_cells ?_ hl hm (by decide) fun j hj => ?_
      · have : ∀ L : List (Fl × Value), (L.flatMap flCells).length = L.length * 3 := fun L => by
          induction L with
          | nil => rfl
          | cons x L ih => rw [List.flatMap_cons, List.length_append, ih, List.length_cons]; simp [flCells]; omega
        rw [this, hLl]
      · have h1 : j / 3 < len := by omega
        have h2 := flat3_at flCells (fun _ => rfl) L (j / 3) _ (hLi _ h1) (j % 3) (Nat.mod_lt _ (by decide))
        rw [show j / 3 * 3 + j % 3 = j from by omega] at h2
        rw [h2]
        obtain ⟨g0, g1, g2, _⟩ := hq _ h1
        have h3 : j % 3 = 0 ∨ j % 3 = 1 ∨ j % 3 = 2 := by omega
        rcases h3 with h3 | h3 | h3
        · rw [show j = j / 3 * 3 + 0 from by omega]; rw [show (j / 3 * 3 + 0) / 3 = j / 3 from by omega, show (j / 3 * 3 + 0) % 3 = 0 from by omega, g0]; rfl
        · rw [show j = j / 3 * 3 + 1 from by omega]; rw [show (j / 3 * 3 + 1) / 3 = j / 3 from by omega, show (j / 3 * 3 + 1) % 3 = 1 from by omega, g1]; rfl
        · rw [show j = j / 3 * 3 + 2 from by omega]; rw [show (j / 3 * 3 + 2) / 3 = j / 3 from by omega, show (j / 3 * 3 + 2) % 3 = 2 from by omega, g2]; rfl
    · refine ⟨by simp, fun i x y hx hy => ?_⟩
      simp only [List.map_map, List.getElem?_map, Option.map_eq_some_iff] at hx hy
      obtain ⟨r, hr, rfl⟩ := hx
      obtain ⟨r', hr', rfl⟩ := hy
      rw [hr] at hr'; cases hr'
      have hi' : i < len := by rw [← hLl]; exact (List.getElem?_eq_some_iff.1 hr).1
      rw [hLi i hi'] at hr; cases hr
      obtain ⟨E, ao, cp, e, hs⟩ := (hq i hi').2.2.2.1
      exact ⟨E, ao, cp, e, hs⟩
    · intro f hf
      obtain ⟨r, hr, rfl⟩ := List.mem_map.1 hf
      rw [hL] at hr
      obtain ⟨i, hi', rfl⟩ := List.mem_map.1 hr
      exact (hq i (by simpa using hi')).2.2.2.2

end

/-- Arguments read again as they did. -/
theorem trodAll_below {H : Type} {enc : TypeId × Value → H} {P : Program} (hl : laidOutB P = true) {W W' : World} (hb : Below W.heap.size W W') :
    ∀ {ts : List TypeId} {vs : List Value} {ds : List (DataW H)} {ps : List MemPlace}, (∀ t ∈ ts, P.readableRec t = true ∧ t < P.types.size) → DataW.TrodAll enc P W 0 (fun _ => true) true ts vs ds ps → (∀ x ∈ ps, x.block < W.heap.size) →
      DataW.TrodAll enc P W' 0 (fun b => decide (b < W.heap.size)) true ts vs ds ps
  | [], [], [], _, _, h, _ => h
  | t :: ts, v :: vs, d :: ds, _, ht, ⟨p, q, h1, h2, e⟩, hs =>
    ⟨p, q, Below.trod hl (ht t (by simp)).1 (ht t (by simp)).2 h1 hb (fun x hx => hs x (by rw [e]; exact List.mem_append_left _ hx)),
      trodAll_below hl hb (fun u hu => ht u (by simp [hu])) h2 (fun x hx => hs x (by rw [e]; exact List.mem_append_right _ hx)), e⟩

end Go.Proofs.YtbhjdddiihfafaaGreatDoor
