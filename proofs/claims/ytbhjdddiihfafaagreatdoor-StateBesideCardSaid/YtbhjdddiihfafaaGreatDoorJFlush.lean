/- Package disk: Flush. -/
import Derived.StillTailTactics
import Derived.Test.YtbhjdddiihfafaaGreatDoorJDiskN
import Derived.Test.YtbhjdddiihfafaaGreatDoorJKeys2
set_option linter.unusedVariables false
set_option linter.unusedSimpArgs false
namespace Go.Proofs.YtbhjdddiihfafaaGreatDoor
open Go.RowKit Go.Maps

/-- What was written lies in its place. -/
def laid (sure : List (List UInt8)) (dirty : List (Lit × List UInt8)) : List (List UInt8) := dirty.foldl (fun s p => s.set (keyI p.1).toNat p.2) sure

def Dk.settle (D : Dk) : Dk := { D with sure := laid D.sure D.dirty, dirty := [] }

def Dk.flush (D : Dk) : Int × Dk := if D.dead then (32, D) else if D.power.1 ≠ 0 then D.power else (0, D.power.2.settle)

theorem laid_length (dirty : List (Lit × List UInt8)) : ∀ sure, (laid sure dirty).length = sure.length := by
  induction dirty with
  | nil => intro s; rfl
  | cons p r ih => intro s; rw [laid, List.foldl_cons]; exact (ih _).trans (by simp)

theorem laid_all {n : Nat} (dirty : List (Lit × List UInt8)) : ∀ sure, (∀ b ∈ sure, b.length = n) → (∀ p ∈ dirty, p.2.length = n) → ∀ b ∈ laid sure dirty, b.length = n := by
  induction dirty with
  | nil => intro s h _; exact h
  | cons p r ih =>
    intro s h h2
    rw [laid, List.foldl_cons]
    refine ih _ (fun b hb => ?_) fun q hq => h2 q (by simp [hq])
    rcases List.mem_or_eq_of_mem_set hb with h3 | rfl
    · exact h b h3
    · exact h2 p (by simp)

theorem laid_take (sure : List (List UInt8)) (dirty : List (Lit × List UInt8)) (k : Nat) (p : Lit × List UInt8) (h : dirty[k]? = some p) : laid sure (dirty.take (k + 1)) = (laid sure (dirty.take k)).set (keyI p.1).toNat p.2 := by
  have hk : k < dirty.length := (List.getElem?_eq_some_iff.1 h).1
  rw [List.take_succ_eq_append_getElem hk, laid, List.foldl_append]
  rw [List.getElem?_eq_getElem hk] at h
  simp at h
  simp [h, laid]

theorem Dk.size_of {D : Dk} (h1 : 1 ≤ D.sure.length) (n : Nat) (h : ∀ b ∈ D.sure, b.length = n) : D.size = n := by
  unfold Dk.size
  cases hs : D.sure with
  | nil => simp [hs] at h1
  | cons b r => exact h b (by simp [hs])

theorem Dk.Ok.settle {D : Dk} (h : D.Ok) : D.settle.Ok ∧ D.settle.size = D.size := by
  have hl : D.settle.sure.length = D.sure.length := laid_length _ _
  have ha : ∀ b ∈ D.settle.sure, b.length = D.size := laid_all _ _ h.all fun p hp => (h.dirt p hp).1
  have hs : D.settle.size = D.size := Dk.size_of (by rw [hl]; exact h.n1) _ ha
  exact ⟨⟨by rw [hl]; exact h.n1, by rw [hl]; exact h.n2, by rw [hs]; exact h.s1, by rw [hs]; exact h.s2, by rw [hs]; exact ha, by simp [Dk.settle], by simp [Dk.settle], h.c1, h.c2⟩, hs⟩

theorem Dk.power_size (D : Dk) : D.power.2.size = D.size := by
  unfold Dk.size; rw [(Dk.power_sure D).1]

/-- A cell of a row of one's own is written. -/
theorem own_set {w : World} {B E b i n cap : Nat} {xs : List Value} (h : w.ownsRow B E 1 (.slice (some ⟨b, 0, none⟩) n cap) n xs) (hi : i < n) (u : Value) :
    (w.setCell ⟨b, i, none⟩ u).ownsRow B E 1 (.slice (some ⟨b, 0, none⟩) n cap) n (xs.set i u) := by
  obtain ⟨h1, h2⟩ := h
  refine ⟨by simpa using h1, ?_⟩
  rcases h2 with ⟨h2, _⟩ | ⟨g, c, cur, e, hg, hh, r1, r2, r3, r4⟩
  · cases h2
  · cases e
    refine .inr ⟨b, cap, cur.setIfInBounds i u, rfl, hg, heap_set hh i u, r1, r2, by simpa using r3, ?_⟩
    rw [Array.toList_setIfInBounds, List.take_set, r4]

theorem own_heap {w : World} {B E b n cap : Nat} {xs : List Value} (h : w.ownsRow B E 1 (.slice (some ⟨b, 0, none⟩) n cap) n xs) : ∃ c, w.heap[b]? = some (.cells c E (0, 0)) ∧ ∀ i, i < n → c[i]? = xs[i]? := by
  obtain ⟨h1, h2⟩ := h
  rcases h2 with ⟨h2, _⟩ | ⟨g, c, cur, e, hg, hh, r1, r2, r3, r4⟩
  · cases h2
  · cases e
    refine ⟨cur, hh, fun i hi => ?_⟩
    rw [← r4, List.getElem?_take_of_lt (by omega)]; simp

theorem rise_kget {α : Type} {l : List (Lit × α)} (hk : ∀ p ∈ l, ∃ i : Nat, p.1 = .int .i64 i) (hr : Rise l) {j : Nat} {p : Lit × α} (h : l[j]? = some p) : kget l p.1 = some p.2 := by
  induction l generalizing j with
  | nil => simp at h
  | cons q r ih =>
    obtain ⟨h1, h2⟩ := List.pairwise_cons.1 hr
    cases j with
    | zero =>
      simp at h; subst h
      obtain ⟨i, hi⟩ := hk q (by simp)
      simp [kget, hi, Lit.sameKey]
    | succ j =>
      simp at h
      have hb := h1 p (List.mem_of_getElem? h)
      obtain ⟨i, hi⟩ := hk q (by simp)
      obtain ⟨i', hi'⟩ := hk p (by simp [List.mem_of_getElem? h])
      have hne : q.1.sameKey p.1 = false := by
        rw [hi, hi'] at hb ⊢
        simp [Lit.before] at hb
        simp [Lit.sameKey]; omega
      have := ih (fun p hp => hk p (by simp [hp])) h2 h
      unfold kget at this ⊢
      rw [List.find?_cons, hne]; exact this

section
variable {w : World} {d bs bm : Nat} {D : Dk}

theorem settle_step {w0 wr : World} {vs' : List Value} {cap k i cpq : Nat} {aoq : Option Addr} {q : Lit × List UInt8} (hq : D.dirty[k]? = some q) (hki : (keyI q.1).toNat = i) (hin : i < D.sure.length)
    (hown : wr.ownsRow 0 41 1 (.slice (some ⟨bs, 0, none⟩) D.sure.length cap) D.sure.length vs') (hvs : All2 (BsV wr) vs' (laid D.sure (D.dirty.take k))) (hfr : Fr (fun k _ => k ≠ bs) w0 wr)
    (hsq : Sl wr wr.heap.size 5 1 aoq q.2.length cpq (q.2.map u8)) :
    (wr.drew.setCell ⟨bs, i, none⟩ (.slice aoq q.2.length cpq)).ownsRow 0 41 1 (.slice (some ⟨bs, 0, none⟩) D.sure.length cap) D.sure.length (vs'.set i (.slice aoq q.2.length cpq)) ∧
    All2 (BsV (wr.drew.setCell ⟨bs, i, none⟩ (.slice aoq q.2.length cpq))) (vs'.set i (.slice aoq q.2.length cpq)) (laid D.sure (D.dirty.take (k + 1))) ∧
    Fr (fun k _ => k ≠ bs) w0 (wr.drew.setCell ⟨bs, i, none⟩ (.slice aoq q.2.length cpq)) := by
  have hf : Fr (fun k _ => k ≠ bs) wr (wr.drew.setCell ⟨bs, i, none⟩ (.slice aoq q.2.length cpq)) := (Fr.refl _ wr).drew.setCell (fun _ _ h => h rfl) _
  obtain ⟨c, hb, _⟩ := own_heap hown
  have hne : ∀ k c f, wr.heap[k]? = some (.cells c 5 f) → k ≠ bs := fun k c f hc => ne_of_types hc hb (by decide)
  refine ⟨own_set (w := wr.drew) hown hin _, ?_, hfr.trans hf⟩
  rw [laid_take _ _ _ _ hq, hki]
  refine (hvs.mono fun _ _ _ _ h => h.fr hf hne).set i ⟨aoq, cpq, rfl, ?_⟩
  exact (hsq.keep fun b c f _ hc => hf.keep _ _ hc (hne _ _ _ hc)).mono hf.size

theorem FlushClo_any (k : Int) (a b : Value) (w : World) : Calls Tryz.prog 248 #[.int .i64 k, a, b] w fun e w' => e = .returned b ∧ w = w' := by
  go_enter Tryz.func248, Tryz.ntmps248
  go_wp2
  go_ret
  exact ⟨rfl, rfl⟩

set_option maxHeartbeats 1000000 in
set_option maxRecDepth 100000 in
theorem settle_any (h : DiskAt w d bs bm D) (hok : D.Ok) : Calls Tryz.prog 247 #[.pointer (some ⟨d, 0, none⟩), .func (.func 248) #[] #[]] w fun e w' =>
    e = .returned (.tuple #[]) ∧ DiskAt w' d bs bm D.settle ∧ Fr (fun k _ => k ≠ bs ∧ k ≠ bm) w w' := by
  obtain ⟨cap, vs, ms, hd, hown, hvs, hmap, hms⟩ := h
  have hmk : ∀ p ∈ ms, ∃ i : Nat, p.1 = .int .i64 i ∧ i < D.sure.length := fun p hp => by
    obtain ⟨j, hj⟩ := List.getElem?_of_mem hp
    obtain ⟨q, hq, e, _⟩ := hms.get' hj
    obtain ⟨_, i, hi, hl⟩ := hok.dirt q (List.mem_of_getElem? hq)
    exact ⟨i, by rw [e, hi], hl⟩
  have hrise : Rise ms := by
    rw [Rise, List.pairwise_iff_getElem]
    intro i j hi hj hij
    obtain ⟨q, hq, e, _⟩ := hms.get' (List.getElem?_eq_getElem hi)
    obtain ⟨q', hq', e', _⟩ := hms.get' (List.getElem?_eq_getElem hj)
    rw [e, e']
    have hi2 : i < D.dirty.length := (List.getElem?_eq_some_iff.1 hq).1
    have hj2 : j < D.dirty.length := (List.getElem?_eq_some_iff.1 hq').1
    have := (List.pairwise_iff_getElem.1 hok.rise) i j hi2 hj2 hij
    rw [List.getElem?_eq_getElem hi2] at hq
    rw [List.getElem?_eq_getElem hj2] at hq'
    simp at hq hq'
    rw [hq, hq'] at this; exact this
  have hlen : ms.length ≤ 4096 := by
    have := rise_few D.sure.length ms 0 hrise (fun p hp => by obtain ⟨i, h1, h2⟩ := hmk p hp; exact ⟨i, h1, Nat.zero_le _, h2⟩)
    have := hok.n2; omega
  have HK := Lib.hid (sortedIB_any hmap hrise (fun p hp => by obtain ⟨i, h1, _⟩ := hmk p hp; exact ⟨i, h1⟩) (by omega))
  have c1 : w.cell? ⟨d, 1, none⟩ = some (.map (some bm)) := cell_of_heap hd 1
  go_enter Tryz.func247, Tryz.ntmps247
  go_wp2_with (first
    | (go_at_call 291; refine (keysIB_any _ _).mono ?_; rintro e w1 ⟨rfl, rfl⟩)
    | (go_at_call 244; refine HK.out.mono ?_; rintro e w2 ⟨v, rfl, hkr, hf2⟩; rw [List.length_map] at hkr; obtain ⟨aok, capk, rfl⟩ := own_shape hkr))
  have hfw : FrA w w2 := ((Fr.refl _ w).alloc _).trans hf2
  have hb1 : w.heap.size + 1 = (w.alloc (.cells #[.map (some bm)] 79)).heap.size := by simp
  rw [← hb1] at hkr
  have hnk : ∀ k, k < w.heap.size + 1 → Value.ownBlock (.slice aok ms.length capk) ≠ some k := fun k hk e => by have := hkr.lt k e; omega
  have hsl := Sl.of_own hkr
  have hbs : bs < w.heap.size := by obtain ⟨c, hb, _⟩ := own_heap hown; exact lt_of_heap hb
  clear hf2 hb1 c1
  go_loopw [13] (fun i wr => ∃ (k : Nat) (vs' : List Value), k ≤ ms.length ∧ i = .int .i64 k ∧ wr.ownsRow 0 41 1 (.slice (some ⟨bs, 0, none⟩) D.sure.length cap) D.sure.length vs' ∧ All2 (BsV wr) vs' (laid D.sure (D.dirty.take k)) ∧
    Fr (fun k _ => k ≠ bs) w2 wr) (fun i _ => ms.length - (intOf i).toNat)
  case atStart =>
    refine ⟨0, vs, Nat.zero_le _, rfl, ?_, by simpa [laid] using hvs.mono (fun _ _ _ _ h => h.fr hfw fun _ _ _ _ => trivial), Fr.refl _ _⟩
    obtain ⟨h1, h2⟩ := hown
    refine ⟨h1, ?_⟩
    rcases h2 with ⟨h2, _⟩ | ⟨g, c, cur, e, hg, hh, r⟩
    · cases h2
    · exact .inr ⟨g, c, cur, e, hg, hfw.keep _ _ hh trivial, r⟩
  case round =>
    obtain ⟨k, vs', hk, rfl, hown', hvs', hfr⟩ := hrel
    obtain ⟨cb, hbh, hbc⟩ := own_heap hown'
    have hdr : wr.heap[d]? = some (.cells #[.slice (some ⟨bs, 0, none⟩) D.sure.length cap, .map (some bm), .int .i64 D.cut, .bool D.dead] 83 (0, 0)) := hfr.keep _ _ (hfw.keep _ _ hd trivial) (ne_of_types hd (own_heap hown).choose_spec.1 (by decide))
    have c0 : wr.cell? ⟨d, 0, none⟩ = some (.slice (some ⟨bs, 0, none⟩) D.sure.length cap) := cell_of_heap hdr 0
    have c1 : wr.cell? ⟨d, 1, none⟩ = some (.map (some bm)) := cell_of_heap hdr 1
    have hmr : MapAt wr 3 bm ms := (hmap.fr hfw fun _ _ => trivial).fr hfr fun es c e => by subst e; exact hmap.ne_cells (own_heap hown).choose_spec.1 rfl
    have hne8 : ∀ b c f, w2.heap[b]? = some (.cells c 5 f) → b ≠ bs := fun b c f hc e => by
      subst e
      obtain ⟨c', hb', _⟩ := own_heap hown
      exact ne_of_types hc (hfw.keep _ _ hb' trivial) (by decide) rfl
    by_cases hkl : k < ms.length
    · have hq0 := hms
      obtain ⟨p, hp⟩ : ∃ p, ms[k]? = some p := ⟨_, List.getElem?_eq_getElem hkl⟩
      obtain ⟨i, hi, hin⟩ := hmk p (List.mem_of_getElem? hp)
      obtain ⟨q, hq, hpq, hbq⟩ := hms.get' hp
      have hsl2 := hsl.keep (w' := wr) (fun b c f _ hc => hfr.keep _ _ hc (ne_of_types hc (hfw.keep _ _ (own_heap hown).choose_spec.1 trivial) (by decide)))
      obtain ⟨bk, offk, rfl, hbk, hck⟩ := hsl2.at (by omega)
      have hki : keyI p.1 = (i : Int) := by rw [hi]; rfl
      have hkc : wr.cell? ⟨bk, offk + k, none⟩ = some (.int .i64 i) := by
        rw [hck k (by omega)]; simp [hp, hki]
      clear hsl2
      have hg : kget ms (.int .i64 i) = some p.2 := by rw [← hi]; exact rise_kget (fun p hp => by obtain ⟨i, h1, _⟩ := hmk p hp; exact ⟨i, h1⟩) hrise hp
      obtain ⟨x, hx⟩ : ∃ x, vs'[i]? = some x := ⟨_, List.getElem?_eq_getElem (by have := hown'.1; simp at this; omega)⟩
      have hcx : wr.cell? ⟨bs, i, none⟩ = some x := by rw [cell_of_heap hbh, hbc i hin]; exact hx
      have hfx := free_of_heap hbh i
      have hkey := int_key (i : Int) (by omega) (by have := hok.n2; omega)
      have hlk := hmr.run_look int_keys umapDirty (zeroBytes _) hkey
      have hlk1 := hmr.drew.run_look int_keys umapDirty (zeroBytes _) hkey
      rw [hg] at hlk hlk1
      simp only [Option.getD_some] at hlk hlk1
      obtain ⟨aoq, cpq, heq, hsq⟩ := hbq
      rw [heq] at hlk hlk1
      have hsqr : Sl wr wr.heap.size 5 1 aoq q.2.length cpq (q.2.map u8) := (((hsq.keep fun b c f _ hc => hfw.keep _ _ hc trivial).mono hfw.size).keep fun b c f _ hc => hfr.keep _ _ hc (hne8 _ _ _ hc)).mono hfr.size
      have hdb : d ≠ bs := ne_of_types hdr hbh (by decide)
      have hmb : bm ≠ bs := hmr.ne_cells hbh
      have k0 : wr.drew.cell? ⟨d, 0, none⟩ = some (.slice (some ⟨bs, 0, none⟩) D.sure.length cap) := c0
      have k1 : wr.drew.cell? ⟨d, 1, none⟩ = some (.map (some bm)) := c1
      have s0 : ∀ v, (wr.drew.setCell ⟨bs, i, none⟩ v).cell? ⟨d, 0, none⟩ = some (.slice (some ⟨bs, 0, none⟩) D.sure.length cap) := fun v => cell_of_heap (heap_set_ne (w := wr.drew) hdr hdb v) 0
      have s1 : ∀ v, (wr.drew.setCell ⟨bs, i, none⟩ v).cell? ⟨d, 1, none⟩ = some (.map (some bm)) := fun v => cell_of_heap (heap_set_ne (w := wr.drew) hdr hdb v) 1
      have s2 : ∀ v, (Instr.lookup 79 (.map (some bm)) (.int .i64 i) false).run Tryz.prog (wr.drew.setCell ⟨bs, i, none⟩ v) = .ok (.slice aoq q.2.length cpq) (wr.drew.setCell ⟨bs, i, none⟩ v) := fun v => by
        have := (hmr.drew.setCell (a := ⟨bs, i, none⟩) hmb v).run_look int_keys umapDirty (zeroBytes _) hkey
        rw [hg] at this
        rw [this, Option.getD_some, heq]
      have HALL := Lib.hid (And.intro hmr (And.intro hown' (And.intro hvs' (And.intro hfr (And.intro hbh (And.intro hx (And.intro hq (And.intro hpq (And.intro hsqr (And.intro hdr heq))))))))))
      have hki' := Lib.hid hki
      have hkms : (k : Int) < (ms.length : Int) := by omega
      have hinz : (i : Int) < (D.sure.length : Int) := by omega
      have HB := Lib.hid (And.intro hmap (And.intro hms (And.intro hmk (And.intro hrise (And.intro hown (And.intro hvs (And.intro hfw (And.intro hok (And.intro hd (And.intro hkr hnk))))))))))
      clear hck hsl hkr hnk hmr hown' hvs' hfr hbh hx hpq hsq hsqr hdr hki hmap hms hmk hrise hown hvs hfw HK hbc hg hi hp heq hd hok
      go_wp2_with fail
      have kx : wr.drew.cell? ⟨bs, i, none⟩ = some x := hcx
      refine wp_region_still_tail 22 (by kernel_rfl) (by kernel_rfl) ?_
      simp only [List.take_succ_cons, List.take_zero, List.drop_succ_cons, List.drop_zero]
      change wpStill _ _ wr.drew _ _ _
      repeat (first | still_step | still_call ((FlushClo_any _ _ _ _).mono fun _ _ h => ⟨h.1, h.2.symm⟩))
      refine wpStill_nil ?_
      change wpList _ _ _ _ _ wr.drew
      all_goals
        go_wp2
        go_roundw
        case rel => exact ⟨k + 1, vs'.set i (.slice aoq q.2.length cpq), by omega, by go_num, settle_step hq (by rw [← HALL.out.2.2.2.2.2.2.2.1, hki'.out]; exact Int.toNat_natCast i) hin HALL.out.2.1 HALL.out.2.2.1 HALL.out.2.2.2.1 HALL.out.2.2.2.2.2.2.2.2.1⟩
        case measure => simp [intOf]; omega
    · obtain rfl : k = ms.length := by omega
      have hdl : D.dirty.length = ms.length := hms.1.symm
      rw [← hdl, List.take_length] at hvs'
      have HALL := Lib.hid (And.intro hown' (And.intro hvs' (And.intro hfr (And.intro hbh hdr))))
      clear hown' hvs' hfr hbh hdr hvs hms hown hrise hmk HK hbc
      obtain ⟨w3, hrc, hm3, hg3⟩ := hmr.run_clear umapDirty 0
      go_wp2
      go_end0
      obtain ⟨hown', hvs', hfr, hbh, hdr⟩ := HALL.out
      have hf3 : Fr (fun k _ => k ≠ bm) wr w3 := (Fr.refl _ wr).grown hg3 (fun k o e _ h => h (Option.some.inj e).symm)
      have hnb : ∀ k c t f, wr.heap[k]? = some (.cells c t f) → k ≠ bm := fun k c t f hc e => by subst e; exact hmr.ne_cells hc rfl
      have hls : D.settle.sure.length = D.sure.length := laid_length _ _
      refine ⟨rfl, ⟨cap, vs', [], ?_, ?_, ?_, hm3, All2.nil⟩, ?_⟩
      · rw [hls]; exact hf3.keep _ _ hdr (hnb _ _ _ _ hdr)
      · rw [hls]
        obtain ⟨h1, h2⟩ := hown'
        refine ⟨h1, ?_⟩
        rcases h2 with ⟨h2, _⟩ | ⟨g, c, cur, e, hg, hh, r⟩
        · cases h2
        · exact .inr ⟨g, c, cur, e, hg, hf3.keep _ _ hh (hnb _ _ _ _ hh), r⟩
      · exact hvs'.mono fun _ _ _ _ h => h.fr hf3 fun k c f hc => hnb _ _ _ _ hc
      · exact ((hfw.mono fun _ _ _ => trivial).trans (hfr.mono fun _ _ h => h.1)).trans (hf3.mono fun _ _ h => h.2)

set_option maxRecDepth 100000 in
theorem Flush_any (h : DiskAt w d bs bm D) (hok : D.Ok) : Calls Tryz.prog 200 #[.pointer (some ⟨d, 0, none⟩)] w fun e w' =>
    e = .returned (.int .i64 D.flush.1) ∧ DiskAt w' d bs bm D.flush.2 ∧ Fr (DK d bs bm) w w' := by
  have h0 := Lib.hid h
  have HPW := Lib.hid (powered_any h hok.c2)
  obtain ⟨cap, vs, ms, hd, hown, hvs, hmap, hms⟩ := h
  have c3 : w.cell? ⟨d, 3, none⟩ = some (.bool D.dead) := cell_of_heap hd 3
  clear hown hvs hmap hms
  cases hdead : D.dead with
  | true =>
    have hw := Lib.hid (show D.flush = (32, D) by simp [Dk.flush, hdead])
    rw [hdead] at c3
    clear hd hdead
    go_enter Tryz.func200, Tryz.ntmps200
    go_wp2
    go_ret
    rw [hw.out]
    exact ⟨rfl, h0.out, Fr.refl _ _⟩
  | false =>
    rw [hdead] at c3
    by_cases hp : D.power.1 = 0
    · have hw := Lib.hid (show D.flush = (0, D.power.2.settle) by simp [Dk.flush, hdead, hp])
      have HP := Lib.hid hp
      clear hd hdead hp
      go_enter Tryz.func200, Tryz.ntmps200
      go_wp2_with fail
      refine HPW.out.mono ?_
      rintro e w1 ⟨rfl, hd1, hfr1⟩
      rw [HP.out]
      go_wp2_with (go_at_call 247; refine (settle_any hd1 hok.power).mono ?_; rintro e w2 ⟨rfl, hd2, hfr2⟩)
      go_ret
      rw [hw.out]
      exact ⟨rfl, hd2, (hfr1.mono fun _ _ h => h.1).trans (hfr2.mono fun _ _ h => h.2)⟩
    · have hw := Lib.hid (show D.flush = D.power by simp [Dk.flush, hdead, hp])
      have hpd : (D.power.1 != 0) = true := by simpa using hp
      clear hd hdead hp
      go_enter Tryz.func200, Tryz.ntmps200
      go_wp2_with fail
      refine HPW.out.mono ?_
      rintro e w1 ⟨rfl, hd1, hfr1⟩
      have HD := Lib.hid hd1; clear hd1
      go_wp2
      go_ret
      rw [hw.out]
      exact ⟨rfl, HD.out, hfr1.mono fun _ _ h => h.1⟩

end
end Go.Proofs.YtbhjdddiihfafaaGreatDoor
