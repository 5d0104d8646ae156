/- Package store: Open, Apply. -/
import Derived.Test.YtbhjdddiihfafaaGreatDoorJStore2
set_option linter.unusedVariables false
set_option linter.unusedSimpArgs false
namespace Go.Proofs.YtbhjdddiihfafaaGreatDoor
open Go.RowKit Go.Maps

/-- The pairs that a log's frames hold, and the map that they come to. -/
def StInv (fs : List (List (List UInt8))) (m : Sm) : Prop :=
  ∃ ps : List Pr, fs.flatten = ps.map Pr.enc ∧ m = changeF [] ps ∧ ∀ p ∈ ps, p.key.size ≤ 1048576 ∧ p.val.size ≤ 1048576

theorem StInv.nil : StInv [] [] := ⟨[], rfl, rfl, by simp⟩

theorem StInv.ok {fs : List (List (List UInt8))} {m : Sm} (h : StInv fs m) : m.Ok := by
  obtain ⟨ps, _, rfl, _⟩ := h
  exact Sm.Ok.nil.change ps

theorem StInv.commit {fs : List (List (List UInt8))} {m : Sm} (h : StInv fs m) (l : List Pr) (hl : ∀ p ∈ l, p.key.size ≤ 1048576 ∧ p.val.size ≤ 1048576) : StInv (fs ++ [l.map Pr.enc]) (changeF m l) := by
  obtain ⟨ps, h1, rfl, h3⟩ := h
  refine ⟨ps ++ l, by simp [h1], (changeF_append _ _ _).symm, fun p hp => ?_⟩
  rcases List.mem_append.1 hp with hp | hp
  · exact h3 p hp
  · exact hl p hp

theorem StInv.few {fs : List (List (List UInt8))} {m : Sm} (h : StInv fs m) : m.length ≤ fs.flatten.length := by
  obtain ⟨ps, h1, rfl, h3⟩ := h
  have := changeF_length ps []
  rw [h1, List.length_map]; simpa using this

theorem LogAt.lts {w : World} {I : Ids} {L : Lg} (h : LogAt w I L) : I.d < w.heap.size ∧ I.bs < w.heap.size ∧ I.bm < w.heap.size ∧ I.bl < w.heap.size ∧ I.bu < w.heap.size := by
  obtain ⟨_, _, e1⟩ := h.disk.cell
  obtain ⟨_, _, e2⟩ := h.disk.own
  obtain ⟨_, e3⟩ := h.disk.map
  exact ⟨lt_of_heap e1, lt_of_heap e2, e3.lt, lt_of_heap h.log, h.map.lt⟩

section
variable {w w' : World} {C : List (List UInt8)} {sz : Nat}

set_option maxHeartbeats 1000000 in
set_option maxRecDepth 100000 in
theorem stOpen_any {d bs bm a : Nat} {D : Dk} {fs : List (List (List UInt8))} {m : Sm} (hd : DiskAt w d bs bm D) (hw : D.Well C sz) (hinv : LogInv C sz fs a) (hst : StInv fs m) :
    Calls Tryz.prog 8 #[.pointer (some ⟨d, 0, none⟩)] w fun e w' => ∃ bl bu st mp, e = .returned (.tuple #[.pointer (some ⟨st, 0, none⟩), .int .i64 0]) ∧
      StAt w' ⟨⟨d, bs, bm, bl, bu⟩, st, mp⟩ ⟨D, 0, fs.length, a, fs.flatten.length, []⟩ m ∧ FrA w w' ∧ w.heap.size ≤ bl ∧ w.heap.size ≤ bu ∧ w.heap.size ≤ st ∧ w.heap.size ≤ mp := by
  have hmm := @run_makeMap Tryz.prog
  obtain ⟨ps, hps, hm, hsz⟩ := hst
  obtain ⟨n, hnp⟩ : ∃ n, n = ps.length := ⟨_, rfl⟩
  have hfl : fs.flatten.length = n := by rw [hps, hnp]; simp
  have hn : n ≤ 8388608 := by
    have h1 := Chain.records hinv.s1 hinv.s2 hinv.chain
    have h2 := hinv.a1
    have h3 := hinv.n2
    omega
  have HOP := Lib.hid (wOpen_any hd hw hinv)
  rw [hfl, hps] at HOP
  rw [hfl]
  have HM := Lib.hid (And.intro hm (And.intro hsz hnp))
  clear hm hsz hnp hps hfl hd hw hinv
  go_enter Tryz.func8, Tryz.ntmps8
  go_wp2_with fail
  refine HOP.out.mono ?_
  rintro e w1 ⟨bl, bu, v, vs, rfl, hlog, hown, hrec, hf1, hbl, hbu⟩
  have hlv : vs.length = n := by have := hown.1; simpa using this
  obtain ⟨ao, cap, rfl⟩ := own_shape hown
  have hsl := Sl.of_own hown
  have hsz1 := hf1.size
  obtain ⟨W1, hW1⟩ : ∃ W1, W1 = (w1.alloc (.map #[] 0)).alloc (.cells #[.pointer (some ⟨bl, 0, none⟩), .map (some w1.heap.size), .bool false] 74) := ⟨_, rfl⟩
  have hfW : FrA w1 W1 := by rw [hW1]; exact ((Fr.refl _ w1).alloc _).alloc _
  have hmW : MapAt W1 9 w1.heap.size (encM []) := by rw [hW1]; exact (MapAt.made w1 _).alloc _
  have hsW : W1.heap[w1.heap.size + 1]? = some (.cells #[.pointer (some ⟨bl, 0, none⟩), .map (some w1.heap.size), .bool false] 74 (0, 0)) := by
    rw [hW1]; have := heap_alloc_new (w1.alloc (.map #[] 0)) (.cells #[.pointer (some ⟨bl, 0, none⟩), .map (some w1.heap.size), .bool false] 74); simpa using this
  have hzW : w1.heap.size + 2 ≤ W1.heap.size := by rw [hW1]; simp
  have hlogW := hlog.fra hfW
  have hslW := hsl.keep (w' := W1) fun b c f _ hc => hfW.keep _ _ hc trivial
  have hrecW := hrec.fr hfW fun _ _ _ _ _ => trivial
  have hlts := hlog.lts
  have HW := Lib.hid (And.intro hlogW (And.intro hslW (And.intro hrecW (And.intro (hf1.trans hfW) (And.intro hsW (And.intro hmW hlts))))))
  clear hlog hown hrec hf1 hsl hfW hmW hsW hlogW hslW hrecW hlts
  go_wp2_with fail
  rw [← hW1]
  clear hW1
  go_loopw [27] (fun i wr => ∃ k : Nat, k ≤ n ∧ i = .int .i64 k ∧ MapAt wr 9 w1.heap.size (encM (changeF [] (ps.take k))) ∧ Fr (fun k _ => k ≠ w1.heap.size) W1 wr) (fun i _ => n - (intOf i).toNat)
  case atStart => exact ⟨0, Nat.zero_le _, rfl, by simpa [changeF] using HW.out.2.2.2.2.2.1, Fr.refl _ _⟩
  case round =>
    obtain ⟨k, hk, rfl, hmap, hfr⟩ := hrel
    by_cases hkl : k < n
    · have hslr := HW.out.2.1.keep (w' := wr) fun b c f _ hc => hfr.keep _ _ hc (fun e => by subst e; exact HW.out.2.2.2.2.2.1.ne_cells hc rfl)
      have hrcr := HW.out.2.2.1.fr hfr fun k c f _ hc => (fun e => by subst e; exact HW.out.2.2.2.2.2.1.ne_cells hc rfl)
      have hstr := hfr.keep _ _ HW.out.2.2.2.2.1 (by omega)
      obtain ⟨b, off, rfl, _, hcl⟩ := hslr.at (by omega)
      obtain ⟨p, hp⟩ : ∃ p, ps[k]? = some p := ⟨_, List.getElem?_eq_getElem (by have := HM.out.2.2; omega)⟩
      obtain ⟨vk, hvk, ao1, cp1, rfl, hs1⟩ := hrcr.get (i := k) (y := p.enc) (by simp [hp])
      have hcell : wr.cell? ⟨b, off + k, none⟩ = some (.slice ao1 p.enc.length cp1) := by rw [hcl k (by omega)]; exact hvk
      have hpsz := HM.out.2.1 p (List.mem_of_getElem? hp)
      have henc := Pr.enc_len p (by omega) (by omega)
      have hpair := pair_any wr p.enc rfl hs1 (by omega)
      rw [pairF_enc p (by omega) (by omega)] at hpair
      have hck : changeF [] (ps.take (k + 1)) = changeF (changeF [] (ps.take k)) [p.norm] := by
        rw [List.take_add_one, hp, changeF_append]
        exact (changeF_norm _ [p]).symm
      have hlk := changeF_length (ps.take k) []
      rw [List.length_take] at hlk
      have hqk : p.norm.key.size ≤ 1048576 := by unfold Pr.norm; split <;> exact hpsz.1
      obtain ⟨q, hq⟩ : ∃ q, q = p.norm := ⟨_, rfl⟩
      rw [← hq] at hpair hck hqk
      obtain ⟨pl, hpl⟩ : ∃ pl, pl = p.enc.length := ⟨_, rfl⟩
      rw [← hpl] at hpair hcell
      have HK := Lib.hid (And.intro hpair (And.intro hck (And.intro hlk (And.intro hqk (And.intro hfr (And.intro hmap hstr))))))
      have hszr := hfr.size
      clear hpair hck hlk hqk hfr hmap hstr hslr hrcr hcl hvk hs1 hpsz henc hq hpl hp
      go_wp2_with fail
      refine HK.out.1.mono ?_
      rintro e w3 ⟨rfl, hf3⟩
      obtain ⟨W3, hW3⟩ : ∃ W3, W3 = w3.alloc (.cells #[.string q.key, .string q.val, .bool q.gone] 33) := ⟨_, rfl⟩
      have hfW3 : FrA wr W3 := by rw [hW3]; exact hf3.alloc _
      have hbW3 : W3.heap[w3.heap.size]? = some (.cells #[.string q.key, .string q.val, .bool q.gone] 33 (0, 0)) := by rw [hW3]; exact heap_alloc_new _ _
      have hsz3 := hf3.size
      have hmW3 := HK.out.2.2.2.2.2.1.fr hfW3 fun _ _ => trivial
      have hsW3 := hfW3.keep _ _ HK.out.2.2.2.2.2.2 trivial
      have k0 : W3.cell? ⟨w3.heap.size, 0, none⟩ = some (.string q.key) := cell_of_heap hbW3 0
      have k1 : W3.cell? ⟨w3.heap.size, 1, none⟩ = some (.string q.val) := cell_of_heap hbW3 1
      have k2 : W3.cell? ⟨w3.heap.size, 2, none⟩ = some (.bool q.gone) := cell_of_heap hbW3 2
      have s1 : W3.cell? ⟨w1.heap.size + 1, 1, none⟩ = some (.map (some w1.heap.size)) := cell_of_heap hsW3 1
      have HW3 := Lib.hid (And.intro hfW3 (And.intro hmW3 (And.intro hsW3 hbW3)))
      clear hfW3 hbW3 hmW3 hsW3 hf3
      unfold prv
      go_wp2_with fail
      rw [← hW3]
      clear hW3
      have hne : w3.heap.size ≠ w1.heap.size + 1 := by omega
      have hne' := hne.symm
      go_region_held3 (fun w' => w'.cell? ⟨w3.heap.size, 0, none⟩ = some (.string q.key) ∧ w'.cell? ⟨w3.heap.size, 1, none⟩ = some (.string q.val) ∧ w'.cell? ⟨w3.heap.size, 2, none⟩ = some (.bool q.gone) ∧ w'.cell? ⟨w1.heap.size + 1, 1, none⟩ = some (.map (some w1.heap.size))) (first | exact ⟨k0, k1, k2, s1⟩ | exact ⟨m0, m1, m2, m3⟩ | go_keep) (first | (go_at_call 24; (refine (change_any _ w1.heap.size (changeF [] (ps.take k)) [q] 1 rfl (Sl.new _ [.string q.key, .string q.val, .bool q.gone] _ 3 1 1 rfl (Nat.le_refl _) (by decide) _) (HW3.out.2.1.drew.alloc _) (by have := HK.out.2.2.1; simp only [List.length_nil] at this; omega) (by simp only [List.mem_singleton, forall_eq]; have := HK.out.2.2.2.1; simp only [maxLen]; omega)).mono ?_); rintro e w8 ⟨rfl, hm8, hf8⟩; have g1 := hf8.keep _ _ (heap_alloc_keep (w := W3.drew) HW3.out.2.2.2 _) (by omega); have g2 := hf8.keep _ _ (heap_alloc_keep (w := W3.drew) HW3.out.2.2.1 _) (by omega); have m0 := cell_of_heap g1 0; have m1 := cell_of_heap g1 1; have m2 := cell_of_heap g1 2; have m3 := cell_of_heap g2 1))
      go_wp2
      go_roundw
      case rel =>
        refine ⟨k + 1, by omega, by go_num, ?_, ?_⟩
        · rw [HK.out.2.1]; exact hm8
        · exact (HK.out.2.2.2.2.1.trans ((HW3.out.1.drew.alloc _).mono fun _ _ _ => trivial)).trans hf8
      case measure => simp [intOf]; omega
    · go_wp2
      go_ret2
      obtain rfl : k = n := by omega
      rw [List.take_of_length_le (by have := HM.out.2.2; omega), ← HM.out.1] at hmap
      obtain ⟨l1, l2, l3, l4, l5⟩ : d < w1.heap.size ∧ bs < w1.heap.size ∧ bm < w1.heap.size ∧ bl < w1.heap.size ∧ bu < w1.heap.size := HW.out.2.2.2.2.2.2
      clear HOP HM
      have hne : ∀ k, (k = d ∨ k = bs ∨ k = bm ∨ k = bl ∨ k = bu) → k ≠ w1.heap.size := fun k hk => by omega
      refine ⟨bl, bu, w1.heap.size + 1, w1.heap.size, rfl, ⟨HW.out.1.fr hfr (fun k o hk _ => hne k hk) (fun k c f hc e => by subst e; exact HW.out.2.2.2.2.2.1.ne_cells hc rfl), hfr.keep _ _ HW.out.2.2.2.2.1 (show w1.heap.size + 1 ≠ w1.heap.size by omega), hmap, (hne bm (by simp)).symm, (hne bu (by simp)).symm⟩, ?_, hbl, hbu, by omega, by omega⟩
      exact fra_new HW.out.2.2.2.1 hfr (by omega)

end

end Go.Proofs.YtbhjdddiihfafaaGreatDoor
/- Package store: Apply. -/
namespace Go.Proofs.YtbhjdddiihfafaaGreatDoor
open Go.RowKit Go.Maps

/-- A row of byte slices grows by one: what it held, what it holds. -/
theorem Recs.grown {w w1 w2 : World} {B n T : Nat} {v : Value} {xs vs : List Value} {rs : List (List UInt8)} (h : Recs w T vs rs) (hown : w.ownsRow B 41 1 v n xs) (hfr : FrA w w1) (hgr : w1.grownBy w2 v.ownBlock) : Recs w2 T vs rs := by
  have hf : Fr (fun k _ => v.ownBlock ≠ some k) w w2 := (hfr.mono fun _ _ _ => trivial : Fr (fun k _ => v.ownBlock ≠ some k) w w1).grown hgr (fun k o e _ h => h e)
  refine h.fr hf fun k c f _ hc e => ?_
  obtain ⟨_, c', hc'⟩ := own_block hown e
  exact ne_of_types hc hc' (by decide) rfl

/-- What must hold of the pairs. -/
def Pr.fits (p : Pr) : Prop := p.key.size + p.val.size ≤ 1048512

theorem tooLong_of (l : List Pr) (h : ∀ p ∈ l, p.fits) : tooLong (l.map Pr.enc) = false := by
  unfold tooLong
  rw [List.any_eq_false]
  intro r hr
  obtain ⟨p, hp, rfl⟩ := List.mem_map.1 hr
  have h1 : p.key.size + p.val.size ≤ 1048512 := h p hp
  have := Pr.enc_len p (by omega) (by omega)
  simp; omega

section
variable {w w' : World} {C : List (List UInt8)} {sz : Nat} {S : Sids} {L : Lg} {m : Sm}

theorem StAt.nes (h : StAt w S L m) : LK S.I S.st (.map #[] 0) ∧ S.mp ≠ S.st ∧ LK S.I S.mp (.map #[] 0) := by
  obtain ⟨c, f, hs⟩ := h.log.disk.own
  obtain ⟨c', f', hd⟩ := h.log.disk.cell
  obtain ⟨kvs, hm⟩ := h.log.disk.map
  exact ⟨⟨ne_of_types h.st hd (by decide), ne_of_types h.st hs (by decide), fun e => hm.ne_cells h.st e.symm, ne_of_types h.st h.log.log (by decide), fun e => h.log.map.ne_cells h.st e.symm⟩,
    h.map.ne_cells h.st, ⟨h.map.ne_cells hd, h.map.ne_cells hs, h.ne1, h.map.ne_cells h.log.log, h.ne2⟩⟩

set_option maxHeartbeats 1000000 in
set_option maxRecDepth 100000 in
theorem Apply_any {a : Nat} {D : Dk} {fs : List (List (List UInt8))} (hL : L = ⟨D, 0, fs.length, a, fs.flatten.length, []⟩) (h : StAt w S L m) (hw : D.Well C sz) (hinv : LogInv C sz fs a) (hst : StInv fs m)
    (l : List Pr) {n T cap : Nat} {ao : Option Addr} (hn : l.length = n) (hx : Sl w T 33 3 ao n cap (l.flatMap prCells)) (hl : ∀ p ∈ l, p.fits) (hn4 : n ≤ 1048576)
    (hfit : 32 + (body (l.map Pr.enc)).length ≤ (C.length / 2 - a) * (sz - 16)) :
    Calls Tryz.prog 11 #[.pointer (some ⟨S.st, 0, none⟩), .slice ao n cap] w fun e w' =>
      e = .returned (.int .i64 0) ∧ ∃ D' mp', StAt w' ⟨S.I, S.st, mp'⟩ ⟨D', 0, fs.length + 1, a + secsN sz (32 + (body (l.map Pr.enc)).length), fs.flatten.length + n, []⟩ (changeF m l) ∧
        D'.Well (committed C sz fs.length a (l.map Pr.enc)) sz ∧ D.like D' ∧ Fr (fun k o => LK S.I k o ∧ k ≠ S.st) w w' ∧ w.heap.size ≤ mp' := by
  have hok : L.Ok := by
    have h1 := Chain.records hinv.s1 hinv.s2 hinv.chain
    subst hL
    refine ⟨hw.ok, by rw [← hw.len]; exact hinv.n1, by rw [hw.size]; exact hinv.s1, by simp, ?_, by unfold Lg.half; simp only; rw [← hw.len]; exact hinv.a1, by simp only; omega, by simp, by simp⟩
    have := hinv.chain.le hinv.s1; simp only; omega
  have hmn : m.length ≤ 8388608 := by
    have h0 := hst.few
    have h1 := Chain.records hinv.s1 hinv.s2 hinv.chain
    have h2 := hinv.a1
    have h3 := hinv.n2
    omega
  have hLa : L.at_ = a ∧ L.next = fs.length ∧ L.count = fs.flatten.length ∧ L.D = D ∧ L.undone = [] ∧ L.turn = 0 := by subst hL; simp
  have c2 : w.cell? ⟨S.st, 2, none⟩ = some (.bool false) := cell_of_heap h.st 2
  have HALL := Lib.hid (And.intro h (And.intro hw (And.intro hok (And.intro hLa (And.intro hfit (And.intro hmn (And.intro hl hx)))))))
  clear h hw hok hLa hfit hinv hst hL hmn hl hx
  go_enter Tryz.func11, Tryz.ntmps11
  go_wp2_with fail
  go_loopw [5, 16] (fun v i wr => ∃ (k : Nat) (vs : List Value), k ≤ n ∧ i = .int .i64 k ∧ wr.ownsRow w.heap.size 41 1 v k vs ∧ Recs wr wr.heap.size vs ((l.take k).map Pr.enc) ∧ FrA w wr) (fun _ i _ => n - (intOf i).toNat)
  case atStart => exact ⟨0, [], Nat.zero_le _, rfl, World.ownsRow_nil _ _ _ _, All2.nil, Fr.refl _ _⟩
  case round =>
    obtain ⟨k, vs, hk, rfl, hown, hrec, hfr⟩ := hrel
    by_cases hkl : k < n
    · have hxr := HALL.out.2.2.2.2.2.2.2.keep (w' := wr) fun b c f _ hc => hfr.keep _ _ hc trivial
      obtain ⟨b, off, rfl, _, hcl⟩ := hxr.at (by omega)
      obtain ⟨p, hp⟩ : ∃ p, l[k]? = some p := ⟨_, List.getElem?_eq_getElem (by omega)⟩
      have hc0 : wr.cell? ⟨b, off + k * 3, none⟩ = some (.string p.key) := by have := hcl (k * 3) (by omega); rw [this]; exact prCells_at l k p hp 0 (by decide)
      have hc1 : wr.cell? ⟨b, off + k * 3 + 1, none⟩ = some (.string p.val) := by have := hcl (k * 3 + 1) (by omega); rw [← Nat.add_assoc] at this; rw [this]; exact prCells_at l k p hp 1 (by decide)
      have hc2 : wr.cell? ⟨b, off + k * 3 + 2, none⟩ = some (.bool p.gone) := by have := hcl (k * 3 + 2) (by omega); rw [← Nat.add_assoc] at this; rw [this]; exact prCells_at l k p hp 2 (by decide)
      have hpf : p.key.size + p.val.size ≤ 1048512 := HALL.out.2.2.2.2.2.2.1 p (List.mem_of_getElem? hp)
      obtain ⟨r, hr⟩ : ∃ r, r = p.enc := ⟨_, rfl⟩
      have hbytes : ∀ w0, Calls Tryz.prog 30 #[prv p] w0 (NewBytes w0 r) := fun w0 => by rw [hr]; exact stBytes_any w0 p (by omega) (by omega)
      have htk : (l.take (k + 1)).map Pr.enc = (l.take k).map Pr.enc ++ [r] := by rw [List.take_add_one, hp, hr]; simp
      obtain ⟨pk, pv, pg⟩ := p
      simp only at hc0 hc1 hc2 hpf
      have HK := Lib.hid (And.intro hbytes (And.intro htk (And.intro hown (And.intro hrec hfr))))
      obtain ⟨aov, cpv, rfl⟩ := own_shape hown
      have hszr := hfr.size
      clear hr hbytes htk hcl hxr hp hrec hown hfr
      have hg1 : decide ((pk.size : Int) > 1048512) = false := by simp; omega
      have hg2 : decide ((pv.size : Int) > 1048512 - (pk.size : Int)) = false := by simp; omega
      have hwr : IntKind.i64.wrap (1048512 - (pk.size : Int)) = 1048512 - (pk.size : Int) := wrap_small (by omega) (by omega)
      cases pg
      all_goals
        go_wp2_with fail
        refine (HK.out.1 _).mono ?_
        rintro e w3 ⟨v3, rfl, ho3, hf3⟩
        have hfw3 : FrA wr w3 := ((Fr.refl _ wr).alloc _).trans hf3
        have hown3 := own_fr (B := w.heap.size) HK.out.2.2.1 hfw3 fun _ _ _ _ _ => trivial
        obtain ⟨ao3, cp3, rfl, hs3⟩ := NewBytes.sl ho3
        have hsz3 := hfw3.size
        clear ho3 hf3
        go_wp2_with (at_builtin; go_loud (refine app_sl elBytes rfl (.tmp 39) (.tmp 42) rfl w.heap.size _ _ _ rfl (hown3.alloc _) rfl (Sl.new _ [_] _ 1 1 1 rfl (Nat.le_refl _) (by decide) _) (fun u hu => by rw [List.mem_singleton] at hu; subst hu; rfl) (by omega) (by simp; omega) ?_); intro v6 w6 hown6 hgr6; obtain ⟨ao6, cp6, rfl⟩ := own_shape hown6)
        have hfw4 := hfw3.alloc (.cells #[.slice ao3 r.length cp3] 41)
        have hs4 := hs3.alloc (.cells #[.slice ao3 r.length cp3] 41)
        go_roundw
        case rel =>
          refine ⟨k + 1, vs ++ [.slice ao3 _ cp3], by omega, by go_num, hown6, ?_, (HK.out.2.2.2.2.trans hfw4).grownNew hgr6 (fun k e => (hown3.lt k e).1)⟩
          rw [HK.out.2.1]
          have hsz6 := hgr6.size
          have e6 := World.size_alloc w3 (.cells #[.slice ao3 r.length cp3] 41)
          refine All2.append ((HK.out.2.2.2.1.grown HK.out.2.2.1 hfw4 hgr6).grow (by omega)) ⟨rfl, fun i x y hx hy => ?_⟩
          cases i with
          | succ i => cases hx
          | zero =>
            cases hx; cases hy
            refine ⟨_, _, rfl, (hs4.keep (w' := w6) fun b c f _ hc => ?_).mono (by omega)⟩
            refine grown_same hgr6 hc fun e => ?_
            obtain ⟨_, c', hc'⟩ := own_block (hown3.alloc _) e.symm
            exact ne_of_types hc hc' (by decide) rfl
        case measure => simp [intOf]; omega
    · obtain rfl : k = n := by omega
      rw [List.take_of_length_le (by omega)] at hrec
      obtain ⟨aov, cpv, rfl⟩ := own_shape hown
      have hA := HALL.out
      have hstr := hfr.keep _ _ hA.1.st trivial
      have c1 : wr.cell? ⟨S.st, 1, none⟩ = some (.map (some S.mp)) := cell_of_heap hstr 1
      have hmr := hA.1.map.fr hfr fun _ _ => trivial
      have hlv : vs.length = k := by have := hown.1; simpa using this
      have HR := Lib.hid (And.intro hown (And.intro hrec (And.intro hfr (And.intro hstr hmr))))
      clear hA hstr hmr hown hrec hfr
      go_wp2_with fail
      refine (cloneSS_any HR.out.2.2.2.2).mono ?_
      rintro e w1 ⟨rfl, hm1, hf1, hz1⟩
      have hz1' : wr.heap.size < w1.heap.size := by omega
      have HC := Lib.hid (And.intro hm1 hf1)
      clear hm1 hf1 hz1
      go_wp2_with fail
      refine (change_any w1 wr.heap.size m l k hn (HALL.out.2.2.2.2.2.2.2.keep (w' := w1) fun b c f _ hc => HC.out.2.keep _ _ (HR.out.2.2.1.keep _ _ hc trivial) trivial) HC.out.1 (by have := HALL.out.2.2.2.2.2.1; omega) (fun p hp => by have : p.key.size + p.val.size ≤ 1048512 := HALL.out.2.2.2.2.2.2.1 p hp; simp only [maxLen]; omega)).mono ?_
      rintro e w2 ⟨rfl, hm2, hf2⟩
      have hst1 := HC.out.2.keep _ _ HR.out.2.2.2.1 trivial
      have hltr : S.st < wr.heap.size := lt_of_heap HR.out.2.2.2.1
      have hst2 := hf2.keep _ _ hst1 (by omega)
      have c0 : w2.cell? ⟨S.st, 0, none⟩ = some (.pointer (some ⟨S.I.bl, 0, none⟩)) := cell_of_heap hst2 0
      have hlog1 := (HALL.out.1.log.fra HR.out.2.2.1).fra HC.out.2
      have hlts := (HALL.out.1.log.fra HR.out.2.2.1).lts
      have hno8 : ∀ k c f, w1.heap[k]? = some (.cells c 5 f) → k ≠ wr.heap.size := fun k c f hc e => by subst e; exact HC.out.1.ne_cells hc rfl
      have hlog2 := hlog1.fr hf2 (fun k o hk _ => by rcases hk with rfl | rfl | rfl | rfl | rfl <;> omega) hno8
      have hrec2 := (HR.out.2.1.fr HC.out.2 fun _ _ _ _ _ => trivial).fr hf2 fun k c f _ hc => hno8 k c f hc
      have hown2 := (Sl.of_own HR.out.1).keep (w' := w2) fun b c f hb hc => hf2.keep _ _ (HC.out.2.keep _ _ hc trivial) (by omega)
      obtain ⟨hLa, hLn, hLc, hLD, hLu, hLt⟩ := HALL.out.2.2.2.1
      have hz2 := hf2.size
      have HCM := Lib.hid (Commit_any hlog2 HALL.out.2.2.1 (by rw [hLD]; exact HALL.out.2.1) hLu hLt vs (l.map Pr.enc) hlv (by omega) hown2 hrec2 (tooLong_of l HALL.out.2.2.2.2.2.2.1) hn4 (by rw [hLa]; exact HALL.out.2.2.2.2.1))
      have H2 := Lib.hid (And.intro hst2 (And.intro hm2 (And.intro hf2 (And.intro hlts (And.intro hLa (And.intro hLn (And.intro hLc hLD)))))))
      clear hst1 hst2 hlog1 hlog2 hrec2 hown2 hm2 hf2 hlts hno8 hLa hLn hLc hLD hLu hLt c2
      go_wp2_with fail
      refine HCM.out.mono ?_
      rintro e w3 ⟨rfl, D', hlog3, hw3, hlike, hf3⟩
      have H3 := Lib.hid (And.intro hlog3 (And.intro hw3 (And.intro hlike hf3)))
      clear hlog3 hw3 hlike hf3
      go_wp2_with fail
      refine (noted_zero w3 _).mono ?_
      rintro e w4 ⟨rfl, rfl⟩
      have hne := HALL.out.1.nes.1
      have hst3 : w3.heap[S.st]? = some (.cells #[.pointer (some ⟨S.I.bl, 0, none⟩), .map (some S.mp), .bool false] 74 (0, 0)) := H3.out.2.2.2.keep _ _ H2.out.1 hne
      have f1 := free_of_heap hst3 1
      have c1' : w3.cell? ⟨S.st, 1, none⟩ = some (.map (some S.mp)) := cell_of_heap hst3 1
      have HS3 := Lib.hid hst3
      clear hst3 hne
      go_wp2
      go_ret
      obtain ⟨W, hW⟩ : ∃ W, W = w3.setCell ⟨S.st, 1, none⟩ (.map (some wr.heap.size)) := ⟨_, rfl⟩
      have hfs : Fr (fun k _ => k ≠ S.st) w3 W := by rw [hW]; exact (Fr.refl _ w3).setCell (fun _ _ h => h rfl) _
      have hsW := heap_set HS3.out 1 (.map (some wr.heap.size))
      rw [← hW] at hsW
      have hlts := H2.out.2.2.2.1
      obtain ⟨hst2, hm2, hf2, _, hLa, hLn, hLc, hLD⟩ := H2.out
      obtain ⟨hlog3, hw3, hlike, hf3⟩ := H3.out
      have hNe := HALL.out.1.nes.1
      have hLKm : LK S.I wr.heap.size (.map #[] 0) := ⟨by omega, by omega, by omega, by omega, by omega⟩
      have hsz := HR.out.2.2.1.size
      rw [hLa, hLn, hLc] at hlog3
      rw [hLa, hLn] at hw3
      rw [hLD] at hlike
      refine ⟨rfl, D', wr.heap.size, ⟨?_, ?_, ?_, by simp only; omega, by simp only; omega⟩, hw3, hlike, ?_, hsz⟩
      · rw [← hW]
        refine hlog3.fr hfs (fun k o hk _ => ?_) (fun k c f hc => ne_of_types hc HS3.out (by decide))
        obtain ⟨n1, n2, n3, n4, n5⟩ := hNe
        rcases hk with rfl | rfl | rfl | rfl | rfl
        · exact Ne.symm n1
        · exact Ne.symm n2
        · exact Ne.symm n3
        · exact Ne.symm n4
        · exact Ne.symm n5
      · rw [← hW]; simpa using hsW
      · rw [← hW]
        refine (hm2.fr hf3 fun _ _ => hLKm).fr hfs fun _ _ => ?_
        omega
      · rw [← hW]
        have hA := HR.out.2.2.1
        have hB := HC.out.2
        exact ⟨hfs.os.trans (hf3.os.trans (hf2.os.trans (hB.os.trans hA.os))), hfs.tape.trans (hf3.tape.trans (hf2.tape.trans (hB.tape.trans hA.tape))), hfs.output.trans (hf3.output.trans (hf2.output.trans (hB.output.trans hA.output))),
          Nat.le_trans hA.size (Nat.le_trans hB.size (Nat.le_trans hf2.size (Nat.le_trans hf3.size hfs.size))), fun k o ho hk =>
          hfs.keep _ _ (hf3.keep _ _ (hf2.keep _ _ (hB.keep _ _ (hA.keep _ _ ho trivial) trivial) (by have := lt_of_heap ho; omega)) hk.1) hk.2⟩

end

end Go.Proofs.YtbhjdddiihfafaaGreatDoor
