/- Package tree: Of. -/
import Derived.Test.YtbhjdddiihfafaaGreatDoorJTree4
set_option linter.unusedVariables false
set_option linter.unusedSimpArgs false
namespace Go.Proofs.YtbhjdddiihfafaaGreatDoor
open Go.RowKit Go.Maps

/-- Files, as cells: a path, whether a directory, a slice of bytes. -/
def flCells (q : Fl × Value) : List Value := [.string (bs q.1.path), .bool q.1.dir, q.2]

/-- Slices of bytes, in rows of whatever types. -/
def RecsX (w : World) (T : Nat) (vs : List Value) (rs : List (List UInt8)) : Prop := All2 (fun v r => ∃ E ao cap, v = .slice ao r.length cap ∧ Sl w T E 1 ao r.length cap (r.map u8)) vs rs

structure FsAt (w : World) (T : Nat) (ao : Option Addr) (n cap : Nat) (vs : List Value) (l : List Fl) : Prop where
  row : ∃ E, Sl w T E 3 ao n cap ((l.zip vs).flatMap flCells)
  recs : RecsX w T vs (l.map (·.b))

theorem flat3_at {α : Type} (f : α → List Value) (hf : ∀ x, (f x).length = 3) (l : List α) (k : Nat) (p : α) (h : l[k]? = some p) (j : Nat) (hj : j < 3) : (l.flatMap f)[k * 3 + j]? = (f p)[j]? := by
  induction l generalizing k with
  | nil => cases h
  | cons q r ih =>
    rw [List.flatMap_cons]
    cases k with
    | zero => cases h; rw [List.getElem?_append_left (by rw [hf]; omega)]; simp
    | succ k =>
      rw [List.getElem?_append_right (by rw [hf]; omega), show (k + 1) * 3 + j - (f q).length = k * 3 + j from by rw [hf]; omega]
      exact ih k h

theorem fra_k {w a b : World} {K : Nat → Obj → Prop} (h : FrA w a) (hf : Fr K a b) (hk : ∀ k o, k < w.heap.size → K k o) : FrA w b :=
  ⟨hf.os.trans h.os, hf.tape.trans h.tape, hf.output.trans h.output, Nat.le_trans h.size hf.size, fun k o ho _ => hf.keep _ _ (h.keep _ _ ho trivial) (hk _ _ (lt_of_heap ho))⟩

section
variable {w w' : World} {T n cap : Nat} {ao : Option Addr} {vs : List Value} {l : List Fl}

theorem FsAt.fra (h : FsAt w T ao n cap vs l) (hf : FrA w w') : FsAt w' T ao n cap vs l :=
  ⟨by obtain ⟨E, h⟩ := h.row; exact ⟨E, h.keep fun b c f _ hc => hf.keep _ _ hc trivial⟩, h.recs.mono fun v r _ _ hr => by
    obtain ⟨E, ao, cap, rfl, hs⟩ := hr
    exact ⟨E, ao, cap, rfl, hs.keep fun b c f _ hc => hf.keep _ _ hc trivial⟩⟩

theorem FsAt.get (h : FsAt w T ao n cap vs l) (hn : l.length = n) {k : Nat} (hk : k < n) : ∃ f v b off aob capb E, l[k]? = some f ∧ v = .slice aob f.b.length capb ∧ Sl w T E 1 aob f.b.length capb (f.b.map u8) ∧ ao = some ⟨b, off, none⟩ ∧
    w.cell? ⟨b, off + k * 3, none⟩ = some (.string (bs f.path)) ∧ w.cell? ⟨b, off + k * 3 + 1, none⟩ = some (.bool f.dir) ∧ w.cell? ⟨b, off + k * 3 + 2, none⟩ = some v := by
  obtain ⟨f, hf⟩ : ∃ f, l[k]? = some f := ⟨_, List.getElem?_eq_getElem (by omega)⟩
  obtain ⟨v, hv, E, aob, capb, rfl, hs⟩ := h.recs.get (i := k) (y := f.b) (by simp [hf])
  obtain ⟨E', hrow⟩ := h.row
  obtain ⟨b, off, rfl, _, hcl⟩ := hrow.at (by omega)
  have hz : (l.zip vs)[k]? = some (f, .slice aob f.b.length capb) := by rw [List.getElem?_zip_eq_some]; exact ⟨hf, hv⟩
  have hat := flat3_at flCells (fun _ => rfl) _ k _ hz
  refine ⟨f, _, b, off, aob, capb, E, hf, rfl, hs, rfl, ?_, ?_, ?_⟩
  · have := hcl (k * 3) (by omega); rw [this]; exact hat 0 (by decide)
  · have := hcl (k * 3 + 1) (by omega); rw [← Nat.add_assoc] at this; rw [this]; exact hat 1 (by decide)
  · have := hcl (k * 3 + 2) (by omega); rw [← Nat.add_assoc] at this; rw [this]; exact hat 2 (by decide)

attribute [local irreducible] MapAt

theorem umapSI : Tryz.prog.underlying 144 = some (.map 9 3) := by kernel_rfl
theorem zeroInt (w : World) : (zeroValue 3).run Tryz.prog w = .ok (.int .i64 0) w := by kernel_rfl

/-- How often each path was seen. -/
def SeenIs (kvs : List (Lit × Value)) (seen : List (List UInt8)) : Prop := ∀ p, kget kvs (.string p) = if p ∈ seen then some (.int .i64 1) else none

theorem SeenIs.put {kvs : List (Lit × Value)} {seen : List (List UInt8)} (h : SeenIs kvs seen) (p : List UInt8) : SeenIs (kput kvs (.string p) (.int .i64 1)) (p :: seen) := by
  intro q
  by_cases e : p = q
  · subst e; rw [kget_put_self]; simp
  · rw [kget_put_ne _ _ e, h q]
    simp [Ne.symm e]

set_option maxHeartbeats 4000000 in
set_option maxRecDepth 100000 in
theorem tOf_any (h : FsAt w T ao n cap vs l) (hn : l.length = n) (hn5 : n ≤ 500) (B : Nat) (hB : B ≤ 65536) (hT : T ≤ w.heap.size) (hl : ∀ f ∈ l, f.path.length ≤ 1048576 ∧ f.b.length ≤ B) :
    Calls Tryz.prog 27 #[.slice ao n cap] w fun e w' => FrA w w' ∧
      (((ofF l [] ⟨[], 0⟩).1 = 0 ∧ e = .returned (.tuple #[.pointer (some ⟨w.heap.size + 1, 0, none⟩), .int .i64 0]) ∧ ∃ kvs, TreeAt w' (w.heap.size + 1) w.heap.size (ofF l [] ⟨[], 0⟩).2 kvs) ∨
       ((ofF l [] ⟨[], 0⟩).1 ≠ 0 ∧ e = .returned (.tuple #[.pointer none, .int .i64 (ofF l [] ⟨[], 0⟩).1]))) := by
  have hmm := @run_makeMap Tryz.prog
  obtain ⟨R, hR⟩ : ∃ R, R = ofF l [] ⟨[], 0⟩ := ⟨_, rfl⟩
  rw [← hR]
  have H := Lib.hid (And.intro h (And.intro hR hl))
  clear h hR hl
  go_enter Tryz.func27, Tryz.ntmps27
  go_wp2_with fail
  refine (tNew_any w).mono ?_
  rintro e w1 ⟨rfl, ht1, hf1⟩
  have hsz1 : w.heap.size + 2 ≤ w1.heap.size := by have := lt_of_heap ht1.tree; omega
  have ht2 := ht1.fra ((Fr.refl _ w1).alloc (.map #[] 0))
  have hm2 := MapAt.made w1 9
  have H1 := Lib.hid (And.intro ht2 (And.intro hm2 (hf1.alloc (.map #[] 0))))
  clear ht1 hf1 ht2 hm2
  go_wp2_with fail
  go_loopw [15] (fun i wr => ∃ (k : Nat) (t : Tm) (seen : List (List UInt8)) (kvs skv : List (Lit × Value)), k ≤ n ∧ i = .int .i64 k ∧ R = ofF (l.drop k) seen t ∧ TreeAt wr (w.heap.size + 1) w.heap.size t kvs ∧ t.Ok k B ∧ MapAt wr 9 w1.heap.size skv ∧ SeenIs skv seen ∧ skv.length ≤ k ∧ FrA w wr) (fun i _ => n - (intOf i).toNat)
  case atStart => exact ⟨0, ⟨[], 0⟩, [], [], [], Nat.zero_le _, rfl, by rw [H.out.2.1]; simp, H1.out.1, Tm.Ok.new B, H1.out.2.1, fun _ => rfl, by simp, H1.out.2.2⟩
  case round =>
    obtain ⟨k, t, seen, kvs, skv, hk, rfl, hRk, htr, hok, hsm, hseen, hskl, hfr⟩ := hrel
    by_cases hkl : k < n
    · obtain ⟨f, v, b, off, aob, capb, Eb, hf, rfl, hsb, rfl, g0, g1, g2⟩ := (H.out.1.fra hfr).get hn hkl
      have hfl := H.out.2.2 f (List.mem_of_getElem? hf)
      have hdrop : l.drop k = f :: l.drop (k + 1) := by rw [List.drop_eq_getElem_cons (by omega)]; congr 1; rw [List.getElem?_eq_getElem (by omega)] at hf; exact Option.some.inj hf
      rw [hdrop] at hRk
      obtain ⟨p, hp⟩ : ∃ p, p = (cleanF f.path).1 := ⟨_, rfl⟩
      obtain ⟨ec, hec⟩ : ∃ ec, ec = (cleanF f.path).2 := ⟨_, rfl⟩
      have hCl : ∀ w', Calls Tryz.prog 72 #[.string (bs f.path)] w' fun e w'' => e = .returned (.tuple #[.string (bs p), .int .i64 ec]) ∧ FrA w' w'' := fun w' => by rw [hp, hec]; exact Clean_any w' f.path hfl.1
      have hpl : ec = 0 → p.length ≤ 200 := fun h => by rw [hp]; exact (cleanF_ok' (hec ▸ h)).1
      have hstep : R = if ec ≠ 0 then (ec, t) else if p ∈ seen ∨ (f.dir && isDirF (t.at p)) = true then (53, t) else if (if f.dir then t.mkdir p else t.write p f.b).1 ≠ 0 then (if f.dir then t.mkdir p else t.write p f.b) else ofF (l.drop (k + 1)) (p :: seen) (if f.dir then t.mkdir p else t.write p f.b).2 := by
        rw [hRk, hp, hec]; rfl
      obtain ⟨fp, fd, fb⟩ := f
      simp only at g0 g1 g2 hsb hfl hstep
      have HK := Lib.hid (And.intro hstep (And.intro htr (And.intro hok (And.intro hsm (And.intro hseen (And.intro hfr (And.intro hsb (And.intro hCl hpl))))))))
      clear hstep htr hok hsm hseen hfr hsb hCl hpl hp hec hRk hdrop hf
      have hszr := HK.out.2.2.2.2.2.1.size
      -- CASES
      go_wp2_with fail
      refine (HK.out.2.2.2.2.2.2.2.1 _).mono ?_
      rintro e W1 ⟨rfl, hfc⟩
      have hfW1 : FrA wr W1 := ((Fr.refl _ wr).alloc _).trans hfc
      have hbF1 := hfc.keep _ _ (heap_alloc_new wr (.cells #[.string (bs fp), .bool fd, .slice aob fb.length capb] 51)) trivial
      by_cases hec : ec = 0
      rotate_left
      · have hne : (ec != 0) = true := by simpa using hec
        have HF := Lib.hid hfW1
        have hr : R = (ec, t) := by rw [HK.out.1, if_pos hec]
        have HR := Lib.hid hr
        have HEC := Lib.hid hec
        clear hfc hfW1 hbF1 hr hec
        go_wp2
        go_ret2
        rw [HR.out]
        exact ⟨HK.out.2.2.2.2.2.1.trans HF.out, .inr ⟨HEC.out, rfl⟩⟩
      have hpl := HK.out.2.2.2.2.2.2.2.2 hec
      subst hec
      have hA := tAt_any (HK.out.2.1.fra hfW1) p (by omega)
      have HA := Lib.hid (And.intro hA (And.intro hfW1 hbF1))
      clear hA hfW1 hbF1 hfc
      go_wp2_with fail
      refine HA.out.1.mono ?_
      rintro e W2 ⟨v, rfl, hv, hf2⟩
      have hbF2 := hf2.keep _ _ HA.out.2.2 trivial
      have hfW2 := HA.out.2.1.trans hf2
      have hsm2 := HK.out.2.2.2.1.fr hfW2 fun _ _ => trivial
      have hT2 := HK.out.2.1.fra hfW2
      have hkey := str_key (bs p) (by rw [bs_size]; unfold maxLen; omega)
      rw [bs_data] at hkey
      have hsk := HK.out.2.2.2.2.1 p
      have hskl2 : skv.length < maxLen := by unfold maxLen; omega
      have hsmt : w1.heap.size ≠ w.heap.size + 1 := by omega
      have hsmm : w1.heap.size ≠ w.heap.size := by omega
      obtain ⟨x, hxe⟩ : ∃ x, x = t.at p := ⟨_, rfl⟩
      rw [← hxe] at hv
      have H2 := Lib.hid (And.intro hxe (And.intro hbF2 (And.intro hfW2 (And.intro hT2 hv))))
      have hsm2' := hsm2
      clear hxe hbF2 hfW2 hT2 hf2
      have hG : ∀ {W3 : World} {z : Value}, MapAt W3 9 w1.heap.size (kput skv (.string p) z) → W2.grownBy W3 (some w1.heap.size) → Fr (fun k _ => k ≠ w1.heap.size) W2 W3 ∧ TreeAt W3 (w.heap.size + 1) w.heap.size t kvs ∧ W3.heap[wr.heap.size]? = some (.cells #[.string (bs fp), .bool fd, .slice aob fb.length capb] 51 (0, 0)) ∧ AtV W3 v x ∧ FrA w W3 ∧ Sl W3 T Eb 1 aob fb.length capb (fb.map YtbhjdddiihfafaaGreatDoor.u8) := fun {W3 z} hm3 hg3 => by
        have hgf : Fr (fun k _ => k ≠ w1.heap.size) W2 W3 := (Fr.refl _ W2).grown hg3 (fun k' o e _ hne => by cases e; exact hne rfl)
        have hnm : ∀ k (c : Array Value) (ty : TypeId) (f : Nat × Nat), W2.heap[k]? = some (.cells c ty f) → k ≠ w1.heap.size := fun k c ty f hc e => by subst e; exact hsm2'.ne_cells hc rfl
        refine ⟨hgf, H2.out.2.2.2.1.fr hgf (fun c f => Ne.symm hsmt) (fun e c => Ne.symm hsmm) (fun k c f hc => hnm _ _ _ _ hc) (fun k c f hc => hnm _ _ _ _ hc), hgf.keep _ _ H2.out.2.1 (hnm _ _ _ _ H2.out.2.1), ?_, ?_, ?_⟩
        · have hv := H2.out.2.2.2.2
          cases x with
          | none => exact hv
          | some x => exact NodeAt.fr hv hgf (fun k c f hc => hnm _ _ _ _ hc) (fun k c f hc => hnm _ _ _ _ hc)
        · exact fra_k (HK.out.2.2.2.2.2.1.trans H2.out.2.2.1) hgf fun k o hk => by omega
        · exact (HK.out.2.2.2.2.2.2.1.keep fun b c f _ hc => H2.out.2.2.1.keep _ _ hc trivial).keep fun b c f _ hc => hgf.keep _ _ hc (hnm _ _ _ _ hc)
      have hput1 := HK.out.2.2.2.2.1.put p
      have hpl1 := kput_length skv (.string p) (.int .i64 1)
      have HG := Lib.hid (And.intro (@hG) (And.intro hput1 hpl1))
      clear hG hsm2' hput1 hpl1
      have hkb : t.m.length ≤ 500000 ∧ -1073741824 ≤ t.size ∧ t.size ≤ 1073741824 ∧ ∀ p x, t.at p = some x → x.2.length ≤ 1048576 := by
        have h1 := HK.out.2.2.1.few
        have h2 := HK.out.2.2.1.s1
        have h3 := HK.out.2.2.1.s2
        have h4 : B * k ≤ 65536 * 500 := Nat.mul_le_mul hB (by omega)
        refine ⟨by omega, by omega, by omega, fun p x hx => ?_⟩
        have := HK.out.2.2.1.at_len (d := x.1) (b := x.2) hx; omega
      have HKB := Lib.hid hkb
      clear hkb
      rcases x with _ | ⟨dr, o⟩
      · have hvn : v = .pointer none := hv
        subst hvn
        clear hv
        by_cases hps : p ∈ seen
        · cases fd
          · have hE : (kget skv (.string p)).getD (.int .i64 0) = .int .i64 1 := by rw [hsk, if_pos hps]; rfl
            have hE3 : (kget (kput skv (.string p) (.int .i64 2)) (.string p)).getD (.int .i64 0) = .int .i64 2 := by rw [kget_put_self]; rfl
            have HE := Lib.hid (And.intro hE hE3)
            clear hE hE3 hsk
            go_wp2_with (first | (at_lookup; first | (refine map_look rfl _ _ rfl str_keys umapSI rfl hsm2 (zeroInt _) rfl hkey ?_; rw [HE.out.1]) | (go_loud (refine map_look rfl _ _ rfl str_keys umapSI rfl hm3 (zeroInt _) rfl hkey ?_); go_loud (rw [kget_put_self]; simp only [Option.getD_some]))) | (at_mapUpdate; refine map_put rfl _ _ _ rfl str_keys umapSI rfl hsm2 hskl2 rfl rfl hkey ?_; intro W3 hm3 hg3; go_loud (obtain ⟨hgf3, hT3, hb3, hv3, hfw3, hs3⟩ := HG.out.1 hm3 hg3); go_loud (have cF1 : W3.cell? ⟨wr.heap.size, 1, none⟩ = some (.bool false) := cell_of_heap hb3 1); go_loud (have cF2 : W3.cell? ⟨wr.heap.size, 2, none⟩ = some (.slice aob fb.length capb) := cell_of_heap hb3 2); go_loud (have H3 := Lib.hid (And.intro hgf3 (And.intro hT3 (And.intro hfw3 (And.intro hs3 hm3))))); clear hgf3 hT3 hb3 hfw3 hs3 hg3))
            go_ret2
            have hr : R = (53, t) := by rw [HK.out.1, if_neg (by simp), if_pos (.inl hps)]
            rw [hr]
            exact ⟨H3.out.2.2.1, .inr ⟨by simp, rfl⟩⟩
          · have hE : (kget skv (.string p)).getD (.int .i64 0) = .int .i64 1 := by rw [hsk, if_pos hps]; rfl
            have hE3 : (kget (kput skv (.string p) (.int .i64 2)) (.string p)).getD (.int .i64 0) = .int .i64 2 := by rw [kget_put_self]; rfl
            have HE := Lib.hid (And.intro hE hE3)
            clear hE hE3 hsk
            go_wp2_with (first | (at_lookup; first | (refine map_look rfl _ _ rfl str_keys umapSI rfl hsm2 (zeroInt _) rfl hkey ?_; rw [HE.out.1]) | (go_loud (refine map_look rfl _ _ rfl str_keys umapSI rfl hm3 (zeroInt _) rfl hkey ?_); go_loud (rw [kget_put_self]; simp only [Option.getD_some]))) | (at_mapUpdate; refine map_put rfl _ _ _ rfl str_keys umapSI rfl hsm2 hskl2 rfl rfl hkey ?_; intro W3 hm3 hg3; go_loud (obtain ⟨hgf3, hT3, hb3, hv3, hfw3, hs3⟩ := HG.out.1 hm3 hg3); go_loud (have cF1 : W3.cell? ⟨wr.heap.size, 1, none⟩ = some (.bool true) := cell_of_heap hb3 1); go_loud (have cF2 : W3.cell? ⟨wr.heap.size, 2, none⟩ = some (.slice aob fb.length capb) := cell_of_heap hb3 2); go_loud (have H3 := Lib.hid (And.intro hgf3 (And.intro hT3 (And.intro hfw3 (And.intro hs3 hm3))))); clear hgf3 hT3 hb3 hfw3 hs3 hg3))
            go_ret2
            have hr : R = (53, t) := by rw [HK.out.1, if_neg (by simp), if_pos (.inl hps)]
            rw [hr]
            exact ⟨H3.out.2.2.1, .inr ⟨by simp, rfl⟩⟩
        · cases fd
          · have hE : (kget skv (.string p)).getD (.int .i64 0) = .int .i64 0 := by rw [hsk, if_neg hps]; rfl
            have hE3 : (kget (kput skv (.string p) (.int .i64 1)) (.string p)).getD (.int .i64 0) = .int .i64 1 := by rw [kget_put_self]; rfl
            have HE := Lib.hid (And.intro hE hE3)
            clear hE hE3 hsk
            go_wp2_with (first | (at_lookup; first | (refine map_look rfl _ _ rfl str_keys umapSI rfl hsm2 (zeroInt _) rfl hkey ?_; rw [HE.out.1]) | (go_loud (refine map_look rfl _ _ rfl str_keys umapSI rfl hm3 (zeroInt _) rfl hkey ?_); go_loud (rw [kget_put_self]; simp only [Option.getD_some]))) | (at_mapUpdate; refine map_put rfl _ _ _ rfl str_keys umapSI rfl hsm2 hskl2 rfl rfl hkey ?_; intro W3 hm3 hg3; go_loud (obtain ⟨hgf3, hT3, hb3, hv3, hfw3, hs3⟩ := HG.out.1 hm3 hg3); go_loud (have cF1 : W3.cell? ⟨wr.heap.size, 1, none⟩ = some (.bool false) := cell_of_heap hb3 1); go_loud (have cF2 : W3.cell? ⟨wr.heap.size, 2, none⟩ = some (.slice aob fb.length capb) := cell_of_heap hb3 2); go_loud (have H3 := Lib.hid (And.intro hgf3 (And.intro hT3 (And.intro hfw3 (And.intro hs3 hm3))))); clear hgf3 hT3 hb3 hfw3 hs3 hg3))
            obtain ⟨y, hy⟩ : ∃ y, y = t.write p fb := ⟨_, rfl⟩
            have hC := tWrite_any H3.out.2.1 p fb (by omega) rfl H3.out.2.2.2.1 (by omega) HKB.out.1 HKB.out.2.1 HKB.out.2.2.1 HKB.out.2.2.2
            have hokk : y.2.Ok (k + 1) B := by rw [hy]; exact HK.out.2.2.1.write hfl.2
            have hr : R = if y.1 ≠ 0 then y else ofF (l.drop (k + 1)) (p :: seen) y.2 := by
              have h0 := HK.out.1
              rw [if_neg (by simp), if_neg (by rw [← H2.out.1]; rintro (h | h); exact hps h; simp [isDirF] at h)] at h0
              rw [hy]; simpa using h0
            rw [← hy] at hC
            have HC := Lib.hid (And.intro hC (And.intro hr hokk))
            clear hC hr hokk hy
            go_wp2_with fail
            refine HC.out.1.mono ?_
            rintro e W4 ⟨rfl, hT4, hf4⟩
            have H4 := Lib.hid (And.intro hT4 hf4)
            clear hT4 hf4
            by_cases hy0 : y.1 = 0
            · have hy1 : (y.1 != 0) = false := by simpa using hy0
              have HY := Lib.hid hy0
              clear hy0
              go_wp2
              go_roundw
              case rel =>
                obtain ⟨kv4, hT4⟩ := H4.out.1
                refine ⟨k + 1, y.2, p :: seen, kv4, _, by omega, by go_num, by rw [HC.out.2.1, if_neg (by simpa using HY.out)], hT4, HC.out.2.2, H3.out.2.2.2.2.fr H4.out.2 fun _ _ => ⟨hsmm, hsmt⟩, HG.out.2.1, Nat.le_trans (kput_length _ _ _) (by omega), ?_⟩
                exact fra_k H3.out.2.2.1 H4.out.2 fun k o hk => ⟨by omega, by omega⟩
              case measure => simp [intOf]; omega
            · have hy1 : (y.1 != 0) = true := by simpa using hy0
              have HY := Lib.hid hy0
              clear hy0
              go_wp2
              go_ret2
              have hr := HC.out.2.1
              rw [if_pos HY.out] at hr
              rw [hr]
              exact ⟨fra_k H3.out.2.2.1 H4.out.2 fun k o hk => ⟨by omega, by omega⟩, .inr ⟨HY.out, rfl⟩⟩
          · have hE : (kget skv (.string p)).getD (.int .i64 0) = .int .i64 0 := by rw [hsk, if_neg hps]; rfl
            have hE3 : (kget (kput skv (.string p) (.int .i64 1)) (.string p)).getD (.int .i64 0) = .int .i64 1 := by rw [kget_put_self]; rfl
            have HE := Lib.hid (And.intro hE hE3)
            clear hE hE3 hsk
            go_wp2_with (first | (at_lookup; first | (refine map_look rfl _ _ rfl str_keys umapSI rfl hsm2 (zeroInt _) rfl hkey ?_; rw [HE.out.1]) | (go_loud (refine map_look rfl _ _ rfl str_keys umapSI rfl hm3 (zeroInt _) rfl hkey ?_); go_loud (rw [kget_put_self]; simp only [Option.getD_some]))) | (at_mapUpdate; refine map_put rfl _ _ _ rfl str_keys umapSI rfl hsm2 hskl2 rfl rfl hkey ?_; intro W3 hm3 hg3; go_loud (obtain ⟨hgf3, hT3, hb3, hv3, hfw3, hs3⟩ := HG.out.1 hm3 hg3); go_loud (have cF1 : W3.cell? ⟨wr.heap.size, 1, none⟩ = some (.bool true) := cell_of_heap hb3 1); go_loud (have cF2 : W3.cell? ⟨wr.heap.size, 2, none⟩ = some (.slice aob fb.length capb) := cell_of_heap hb3 2); go_loud (have H3 := Lib.hid (And.intro hgf3 (And.intro hT3 (And.intro hfw3 (And.intro hs3 hm3))))); clear hgf3 hT3 hb3 hfw3 hs3 hg3))
            obtain ⟨y, hy⟩ : ∃ y, y = t.mkdir p := ⟨_, rfl⟩
            have hC := tMkdir_any H3.out.2.1 p (by omega) HKB.out.1 HKB.out.2.1 HKB.out.2.2.1
            have hokk : y.2.Ok (k + 1) B := by rw [hy]; exact HK.out.2.2.1.mkdir
            have hr : R = if y.1 ≠ 0 then y else ofF (l.drop (k + 1)) (p :: seen) y.2 := by
              have h0 := HK.out.1
              rw [if_neg (by simp), if_neg (by rw [← H2.out.1]; rintro (h | h); exact hps h; simp [isDirF] at h)] at h0
              rw [hy]; simpa using h0
            rw [← hy] at hC
            have HC := Lib.hid (And.intro hC (And.intro hr hokk))
            clear hC hr hokk hy
            go_wp2_with fail
            refine HC.out.1.mono ?_
            rintro e W4 ⟨rfl, hT4, hf4⟩
            have H4 := Lib.hid (And.intro hT4 hf4)
            clear hT4 hf4
            by_cases hy0 : y.1 = 0
            · have hy1 : (y.1 != 0) = false := by simpa using hy0
              have HY := Lib.hid hy0
              clear hy0
              go_wp2
              go_roundw
              case rel =>
                obtain ⟨kv4, hT4⟩ := H4.out.1
                refine ⟨k + 1, y.2, p :: seen, kv4, _, by omega, by go_num, by rw [HC.out.2.1, if_neg (by simpa using HY.out)], hT4, HC.out.2.2, H3.out.2.2.2.2.fr H4.out.2 fun _ _ => ⟨hsmm, hsmt⟩, HG.out.2.1, Nat.le_trans (kput_length _ _ _) (by omega), ?_⟩
                exact fra_k H3.out.2.2.1 H4.out.2 fun k o hk => ⟨by omega, by omega⟩
              case measure => simp [intOf]; omega
            · have hy1 : (y.1 != 0) = true := by simpa using hy0
              have HY := Lib.hid hy0
              clear hy0
              go_wp2
              go_ret2
              have hr := HC.out.2.1
              rw [if_pos HY.out] at hr
              rw [hr]
              exact ⟨fra_k H3.out.2.2.1 H4.out.2 fun k o hk => ⟨by omega, by omega⟩, .inr ⟨HY.out, rfl⟩⟩
      · obtain ⟨nb, aon, capn, rfl, hnb, hsn⟩ := hv
        clear hnb hsn
        cases dr
        · by_cases hps : p ∈ seen
          · cases fd
            · have hE : (kget skv (.string p)).getD (.int .i64 0) = .int .i64 1 := by rw [hsk, if_pos hps]; rfl
              have hE3 : (kget (kput skv (.string p) (.int .i64 2)) (.string p)).getD (.int .i64 0) = .int .i64 2 := by rw [kget_put_self]; rfl
              have HE := Lib.hid (And.intro hE hE3)
              clear hE hE3 hsk
              go_wp2_with (first | (at_lookup; first | (refine map_look rfl _ _ rfl str_keys umapSI rfl hsm2 (zeroInt _) rfl hkey ?_; rw [HE.out.1]) | (go_loud (refine map_look rfl _ _ rfl str_keys umapSI rfl hm3 (zeroInt _) rfl hkey ?_); go_loud (rw [kget_put_self]; simp only [Option.getD_some]))) | (at_mapUpdate; refine map_put rfl _ _ _ rfl str_keys umapSI rfl hsm2 hskl2 rfl rfl hkey ?_; intro W3 hm3 hg3; go_loud (obtain ⟨hgf3, hT3, hb3, hv3, hfw3, hs3⟩ := HG.out.1 hm3 hg3); go_loud (have cF1 : W3.cell? ⟨wr.heap.size, 1, none⟩ = some (.bool false) := cell_of_heap hb3 1); go_loud (have cF2 : W3.cell? ⟨wr.heap.size, 2, none⟩ = some (.slice aob fb.length capb) := cell_of_heap hb3 2); go_loud (obtain ⟨nb', aon', capn', hve', hnb', hsn'⟩ := hv3); go_loud (cases hve'); go_loud (have n0 : W3.cell? ⟨nb, 0, none⟩ = some (.bool false) := cell_of_heap hnb' 0); clear hnb' hsn'; go_loud (have H3 := Lib.hid (And.intro hgf3 (And.intro hT3 (And.intro hfw3 (And.intro hs3 hm3))))); clear hgf3 hT3 hb3 hfw3 hs3 hg3))
              go_ret2
              have hr : R = (53, t) := by rw [HK.out.1, if_neg (by simp), if_pos (.inl hps)]
              rw [hr]
              exact ⟨H3.out.2.2.1, .inr ⟨by simp, rfl⟩⟩
            · have hE : (kget skv (.string p)).getD (.int .i64 0) = .int .i64 1 := by rw [hsk, if_pos hps]; rfl
              have hE3 : (kget (kput skv (.string p) (.int .i64 2)) (.string p)).getD (.int .i64 0) = .int .i64 2 := by rw [kget_put_self]; rfl
              have HE := Lib.hid (And.intro hE hE3)
              clear hE hE3 hsk
              go_wp2_with (first | (at_lookup; first | (refine map_look rfl _ _ rfl str_keys umapSI rfl hsm2 (zeroInt _) rfl hkey ?_; rw [HE.out.1]) | (go_loud (refine map_look rfl _ _ rfl str_keys umapSI rfl hm3 (zeroInt _) rfl hkey ?_); go_loud (rw [kget_put_self]; simp only [Option.getD_some]))) | (at_mapUpdate; refine map_put rfl _ _ _ rfl str_keys umapSI rfl hsm2 hskl2 rfl rfl hkey ?_; intro W3 hm3 hg3; go_loud (obtain ⟨hgf3, hT3, hb3, hv3, hfw3, hs3⟩ := HG.out.1 hm3 hg3); go_loud (have cF1 : W3.cell? ⟨wr.heap.size, 1, none⟩ = some (.bool true) := cell_of_heap hb3 1); go_loud (have cF2 : W3.cell? ⟨wr.heap.size, 2, none⟩ = some (.slice aob fb.length capb) := cell_of_heap hb3 2); go_loud (obtain ⟨nb', aon', capn', hve', hnb', hsn'⟩ := hv3); go_loud (cases hve'); go_loud (have n0 : W3.cell? ⟨nb, 0, none⟩ = some (.bool false) := cell_of_heap hnb' 0); clear hnb' hsn'; go_loud (have H3 := Lib.hid (And.intro hgf3 (And.intro hT3 (And.intro hfw3 (And.intro hs3 hm3))))); clear hgf3 hT3 hb3 hfw3 hs3 hg3))
              go_ret2
              have hr : R = (53, t) := by rw [HK.out.1, if_neg (by simp), if_pos (.inl hps)]
              rw [hr]
              exact ⟨H3.out.2.2.1, .inr ⟨by simp, rfl⟩⟩
          · cases fd
            · have hE : (kget skv (.string p)).getD (.int .i64 0) = .int .i64 0 := by rw [hsk, if_neg hps]; rfl
              have hE3 : (kget (kput skv (.string p) (.int .i64 1)) (.string p)).getD (.int .i64 0) = .int .i64 1 := by rw [kget_put_self]; rfl
              have HE := Lib.hid (And.intro hE hE3)
              clear hE hE3 hsk
              go_wp2_with (first | (at_lookup; first | (refine map_look rfl _ _ rfl str_keys umapSI rfl hsm2 (zeroInt _) rfl hkey ?_; rw [HE.out.1]) | (go_loud (refine map_look rfl _ _ rfl str_keys umapSI rfl hm3 (zeroInt _) rfl hkey ?_); go_loud (rw [kget_put_self]; simp only [Option.getD_some]))) | (at_mapUpdate; refine map_put rfl _ _ _ rfl str_keys umapSI rfl hsm2 hskl2 rfl rfl hkey ?_; intro W3 hm3 hg3; go_loud (obtain ⟨hgf3, hT3, hb3, hv3, hfw3, hs3⟩ := HG.out.1 hm3 hg3); go_loud (have cF1 : W3.cell? ⟨wr.heap.size, 1, none⟩ = some (.bool false) := cell_of_heap hb3 1); go_loud (have cF2 : W3.cell? ⟨wr.heap.size, 2, none⟩ = some (.slice aob fb.length capb) := cell_of_heap hb3 2); go_loud (obtain ⟨nb', aon', capn', hve', hnb', hsn'⟩ := hv3); go_loud (cases hve'); go_loud (have n0 : W3.cell? ⟨nb, 0, none⟩ = some (.bool false) := cell_of_heap hnb' 0); clear hnb' hsn'; go_loud (have H3 := Lib.hid (And.intro hgf3 (And.intro hT3 (And.intro hfw3 (And.intro hs3 hm3))))); clear hgf3 hT3 hb3 hfw3 hs3 hg3))
              obtain ⟨y, hy⟩ : ∃ y, y = t.write p fb := ⟨_, rfl⟩
              have hC := tWrite_any H3.out.2.1 p fb (by omega) rfl H3.out.2.2.2.1 (by omega) HKB.out.1 HKB.out.2.1 HKB.out.2.2.1 HKB.out.2.2.2
              have hokk : y.2.Ok (k + 1) B := by rw [hy]; exact HK.out.2.2.1.write hfl.2
              have hr : R = if y.1 ≠ 0 then y else ofF (l.drop (k + 1)) (p :: seen) y.2 := by
                have h0 := HK.out.1
                rw [if_neg (by simp), if_neg (by rw [← H2.out.1]; rintro (h | h); exact hps h; simp [isDirF] at h)] at h0
                rw [hy]; simpa using h0
              rw [← hy] at hC
              have HC := Lib.hid (And.intro hC (And.intro hr hokk))
              clear hC hr hokk hy
              go_wp2_with fail
              refine HC.out.1.mono ?_
              rintro e W4 ⟨rfl, hT4, hf4⟩
              have H4 := Lib.hid (And.intro hT4 hf4)
              clear hT4 hf4
              by_cases hy0 : y.1 = 0
              · have hy1 : (y.1 != 0) = false := by simpa using hy0
                have HY := Lib.hid hy0
                clear hy0
                go_wp2
                go_roundw
                case rel =>
                  obtain ⟨kv4, hT4⟩ := H4.out.1
                  refine ⟨k + 1, y.2, p :: seen, kv4, _, by omega, by go_num, by rw [HC.out.2.1, if_neg (by simpa using HY.out)], hT4, HC.out.2.2, H3.out.2.2.2.2.fr H4.out.2 fun _ _ => ⟨hsmm, hsmt⟩, HG.out.2.1, Nat.le_trans (kput_length _ _ _) (by omega), ?_⟩
                  exact fra_k H3.out.2.2.1 H4.out.2 fun k o hk => ⟨by omega, by omega⟩
                case measure => simp [intOf]; omega
              · have hy1 : (y.1 != 0) = true := by simpa using hy0
                have HY := Lib.hid hy0
                clear hy0
                go_wp2
                go_ret2
                have hr := HC.out.2.1
                rw [if_pos HY.out] at hr
                rw [hr]
                exact ⟨fra_k H3.out.2.2.1 H4.out.2 fun k o hk => ⟨by omega, by omega⟩, .inr ⟨HY.out, rfl⟩⟩
            · have hE : (kget skv (.string p)).getD (.int .i64 0) = .int .i64 0 := by rw [hsk, if_neg hps]; rfl
              have hE3 : (kget (kput skv (.string p) (.int .i64 1)) (.string p)).getD (.int .i64 0) = .int .i64 1 := by rw [kget_put_self]; rfl
              have HE := Lib.hid (And.intro hE hE3)
              clear hE hE3 hsk
              go_wp2_with (first | (at_lookup; first | (refine map_look rfl _ _ rfl str_keys umapSI rfl hsm2 (zeroInt _) rfl hkey ?_; rw [HE.out.1]) | (go_loud (refine map_look rfl _ _ rfl str_keys umapSI rfl hm3 (zeroInt _) rfl hkey ?_); go_loud (rw [kget_put_self]; simp only [Option.getD_some]))) | (at_mapUpdate; refine map_put rfl _ _ _ rfl str_keys umapSI rfl hsm2 hskl2 rfl rfl hkey ?_; intro W3 hm3 hg3; go_loud (obtain ⟨hgf3, hT3, hb3, hv3, hfw3, hs3⟩ := HG.out.1 hm3 hg3); go_loud (have cF1 : W3.cell? ⟨wr.heap.size, 1, none⟩ = some (.bool true) := cell_of_heap hb3 1); go_loud (have cF2 : W3.cell? ⟨wr.heap.size, 2, none⟩ = some (.slice aob fb.length capb) := cell_of_heap hb3 2); go_loud (obtain ⟨nb', aon', capn', hve', hnb', hsn'⟩ := hv3); go_loud (cases hve'); go_loud (have n0 : W3.cell? ⟨nb, 0, none⟩ = some (.bool false) := cell_of_heap hnb' 0); clear hnb' hsn'; go_loud (have H3 := Lib.hid (And.intro hgf3 (And.intro hT3 (And.intro hfw3 (And.intro hs3 hm3))))); clear hgf3 hT3 hb3 hfw3 hs3 hg3))
              obtain ⟨y, hy⟩ : ∃ y, y = t.mkdir p := ⟨_, rfl⟩
              have hC := tMkdir_any H3.out.2.1 p (by omega) HKB.out.1 HKB.out.2.1 HKB.out.2.2.1
              have hokk : y.2.Ok (k + 1) B := by rw [hy]; exact HK.out.2.2.1.mkdir
              have hr : R = if y.1 ≠ 0 then y else ofF (l.drop (k + 1)) (p :: seen) y.2 := by
                have h0 := HK.out.1
                rw [if_neg (by simp), if_neg (by rw [← H2.out.1]; rintro (h | h); exact hps h; simp [isDirF] at h)] at h0
                rw [hy]; simpa using h0
              rw [← hy] at hC
              have HC := Lib.hid (And.intro hC (And.intro hr hokk))
              clear hC hr hokk hy
              go_wp2_with fail
              refine HC.out.1.mono ?_
              rintro e W4 ⟨rfl, hT4, hf4⟩
              have H4 := Lib.hid (And.intro hT4 hf4)
              clear hT4 hf4
              by_cases hy0 : y.1 = 0
              · have hy1 : (y.1 != 0) = false := by simpa using hy0
                have HY := Lib.hid hy0
                clear hy0
                go_wp2
                go_roundw
                case rel =>
                  obtain ⟨kv4, hT4⟩ := H4.out.1
                  refine ⟨k + 1, y.2, p :: seen, kv4, _, by omega, by go_num, by rw [HC.out.2.1, if_neg (by simpa using HY.out)], hT4, HC.out.2.2, H3.out.2.2.2.2.fr H4.out.2 fun _ _ => ⟨hsmm, hsmt⟩, HG.out.2.1, Nat.le_trans (kput_length _ _ _) (by omega), ?_⟩
                  exact fra_k H3.out.2.2.1 H4.out.2 fun k o hk => ⟨by omega, by omega⟩
                case measure => simp [intOf]; omega
              · have hy1 : (y.1 != 0) = true := by simpa using hy0
                have HY := Lib.hid hy0
                clear hy0
                go_wp2
                go_ret2
                have hr := HC.out.2.1
                rw [if_pos HY.out] at hr
                rw [hr]
                exact ⟨fra_k H3.out.2.2.1 H4.out.2 fun k o hk => ⟨by omega, by omega⟩, .inr ⟨HY.out, rfl⟩⟩
        · by_cases hps : p ∈ seen
          · cases fd
            · have hE : (kget skv (.string p)).getD (.int .i64 0) = .int .i64 1 := by rw [hsk, if_pos hps]; rfl
              have hE3 : (kget (kput skv (.string p) (.int .i64 2)) (.string p)).getD (.int .i64 0) = .int .i64 2 := by rw [kget_put_self]; rfl
              have HE := Lib.hid (And.intro hE hE3)
              clear hE hE3 hsk
              go_wp2_with (first | (at_lookup; first | (refine map_look rfl _ _ rfl str_keys umapSI rfl hsm2 (zeroInt _) rfl hkey ?_; rw [HE.out.1]) | (go_loud (refine map_look rfl _ _ rfl str_keys umapSI rfl hm3 (zeroInt _) rfl hkey ?_); go_loud (rw [kget_put_self]; simp only [Option.getD_some]))) | (at_mapUpdate; refine map_put rfl _ _ _ rfl str_keys umapSI rfl hsm2 hskl2 rfl rfl hkey ?_; intro W3 hm3 hg3; go_loud (obtain ⟨hgf3, hT3, hb3, hv3, hfw3, hs3⟩ := HG.out.1 hm3 hg3); go_loud (have cF1 : W3.cell? ⟨wr.heap.size, 1, none⟩ = some (.bool false) := cell_of_heap hb3 1); go_loud (have cF2 : W3.cell? ⟨wr.heap.size, 2, none⟩ = some (.slice aob fb.length capb) := cell_of_heap hb3 2); go_loud (obtain ⟨nb', aon', capn', hve', hnb', hsn'⟩ := hv3); go_loud (cases hve'); go_loud (have n0 : W3.cell? ⟨nb, 0, none⟩ = some (.bool true) := cell_of_heap hnb' 0); clear hnb' hsn'; go_loud (have H3 := Lib.hid (And.intro hgf3 (And.intro hT3 (And.intro hfw3 (And.intro hs3 hm3))))); clear hgf3 hT3 hb3 hfw3 hs3 hg3))
              go_ret2
              have hr : R = (53, t) := by rw [HK.out.1, if_neg (by simp), if_pos (.inl hps)]
              rw [hr]
              exact ⟨H3.out.2.2.1, .inr ⟨by simp, rfl⟩⟩
            · have hE : (kget skv (.string p)).getD (.int .i64 0) = .int .i64 1 := by rw [hsk, if_pos hps]; rfl
              have hE3 : (kget (kput skv (.string p) (.int .i64 2)) (.string p)).getD (.int .i64 0) = .int .i64 2 := by rw [kget_put_self]; rfl
              have HE := Lib.hid (And.intro hE hE3)
              clear hE hE3 hsk
              go_wp2_with (first | (at_lookup; first | (refine map_look rfl _ _ rfl str_keys umapSI rfl hsm2 (zeroInt _) rfl hkey ?_; rw [HE.out.1]) | (go_loud (refine map_look rfl _ _ rfl str_keys umapSI rfl hm3 (zeroInt _) rfl hkey ?_); go_loud (rw [kget_put_self]; simp only [Option.getD_some]))) | (at_mapUpdate; refine map_put rfl _ _ _ rfl str_keys umapSI rfl hsm2 hskl2 rfl rfl hkey ?_; intro W3 hm3 hg3; go_loud (obtain ⟨hgf3, hT3, hb3, hv3, hfw3, hs3⟩ := HG.out.1 hm3 hg3); go_loud (have cF1 : W3.cell? ⟨wr.heap.size, 1, none⟩ = some (.bool true) := cell_of_heap hb3 1); go_loud (have cF2 : W3.cell? ⟨wr.heap.size, 2, none⟩ = some (.slice aob fb.length capb) := cell_of_heap hb3 2); go_loud (obtain ⟨nb', aon', capn', hve', hnb', hsn'⟩ := hv3); go_loud (cases hve'); go_loud (have n0 : W3.cell? ⟨nb, 0, none⟩ = some (.bool true) := cell_of_heap hnb' 0); clear hnb' hsn'; go_loud (have H3 := Lib.hid (And.intro hgf3 (And.intro hT3 (And.intro hfw3 (And.intro hs3 hm3))))); clear hgf3 hT3 hb3 hfw3 hs3 hg3))
              go_ret2
              have hr : R = (53, t) := by rw [HK.out.1, if_neg (by simp), if_pos (.inl hps)]
              rw [hr]
              exact ⟨H3.out.2.2.1, .inr ⟨by simp, rfl⟩⟩
          · cases fd
            · have hE : (kget skv (.string p)).getD (.int .i64 0) = .int .i64 0 := by rw [hsk, if_neg hps]; rfl
              have hE3 : (kget (kput skv (.string p) (.int .i64 1)) (.string p)).getD (.int .i64 0) = .int .i64 1 := by rw [kget_put_self]; rfl
              have HE := Lib.hid (And.intro hE hE3)
              clear hE hE3 hsk
              go_wp2_with (first | (at_lookup; first | (refine map_look rfl _ _ rfl str_keys umapSI rfl hsm2 (zeroInt _) rfl hkey ?_; rw [HE.out.1]) | (go_loud (refine map_look rfl _ _ rfl str_keys umapSI rfl hm3 (zeroInt _) rfl hkey ?_); go_loud (rw [kget_put_self]; simp only [Option.getD_some]))) | (at_mapUpdate; refine map_put rfl _ _ _ rfl str_keys umapSI rfl hsm2 hskl2 rfl rfl hkey ?_; intro W3 hm3 hg3; go_loud (obtain ⟨hgf3, hT3, hb3, hv3, hfw3, hs3⟩ := HG.out.1 hm3 hg3); go_loud (have cF1 : W3.cell? ⟨wr.heap.size, 1, none⟩ = some (.bool false) := cell_of_heap hb3 1); go_loud (have cF2 : W3.cell? ⟨wr.heap.size, 2, none⟩ = some (.slice aob fb.length capb) := cell_of_heap hb3 2); go_loud (obtain ⟨nb', aon', capn', hve', hnb', hsn'⟩ := hv3); go_loud (cases hve'); go_loud (have n0 : W3.cell? ⟨nb, 0, none⟩ = some (.bool true) := cell_of_heap hnb' 0); clear hnb' hsn'; go_loud (have H3 := Lib.hid (And.intro hgf3 (And.intro hT3 (And.intro hfw3 (And.intro hs3 hm3))))); clear hgf3 hT3 hb3 hfw3 hs3 hg3))
              obtain ⟨y, hy⟩ : ∃ y, y = t.write p fb := ⟨_, rfl⟩
              have hC := tWrite_any H3.out.2.1 p fb (by omega) rfl H3.out.2.2.2.1 (by omega) HKB.out.1 HKB.out.2.1 HKB.out.2.2.1 HKB.out.2.2.2
              have hokk : y.2.Ok (k + 1) B := by rw [hy]; exact HK.out.2.2.1.write hfl.2
              have hr : R = if y.1 ≠ 0 then y else ofF (l.drop (k + 1)) (p :: seen) y.2 := by
                have h0 := HK.out.1
                rw [if_neg (by simp), if_neg (by rw [← H2.out.1]; rintro (h | h); exact hps h; simp [isDirF] at h)] at h0
                rw [hy]; simpa using h0
              rw [← hy] at hC
              have HC := Lib.hid (And.intro hC (And.intro hr hokk))
              clear hC hr hokk hy
              go_wp2_with fail
              refine HC.out.1.mono ?_
              rintro e W4 ⟨rfl, hT4, hf4⟩
              have H4 := Lib.hid (And.intro hT4 hf4)
              clear hT4 hf4
              by_cases hy0 : y.1 = 0
              · have hy1 : (y.1 != 0) = false := by simpa using hy0
                have HY := Lib.hid hy0
                clear hy0
                go_wp2
                go_roundw
                case rel =>
                  obtain ⟨kv4, hT4⟩ := H4.out.1
                  refine ⟨k + 1, y.2, p :: seen, kv4, _, by omega, by go_num, by rw [HC.out.2.1, if_neg (by simpa using HY.out)], hT4, HC.out.2.2, H3.out.2.2.2.2.fr H4.out.2 fun _ _ => ⟨hsmm, hsmt⟩, HG.out.2.1, Nat.le_trans (kput_length _ _ _) (by omega), ?_⟩
                  exact fra_k H3.out.2.2.1 H4.out.2 fun k o hk => ⟨by omega, by omega⟩
                case measure => simp [intOf]; omega
              · have hy1 : (y.1 != 0) = true := by simpa using hy0
                have HY := Lib.hid hy0
                clear hy0
                go_wp2
                go_ret2
                have hr := HC.out.2.1
                rw [if_pos HY.out] at hr
                rw [hr]
                exact ⟨fra_k H3.out.2.2.1 H4.out.2 fun k o hk => ⟨by omega, by omega⟩, .inr ⟨HY.out, rfl⟩⟩
            · have hE : (kget skv (.string p)).getD (.int .i64 0) = .int .i64 0 := by rw [hsk, if_neg hps]; rfl
              have hE3 : (kget (kput skv (.string p) (.int .i64 1)) (.string p)).getD (.int .i64 0) = .int .i64 1 := by rw [kget_put_self]; rfl
              have HE := Lib.hid (And.intro hE hE3)
              clear hE hE3 hsk
              go_wp2_with (first | (at_lookup; first | (refine map_look rfl _ _ rfl str_keys umapSI rfl hsm2 (zeroInt _) rfl hkey ?_; rw [HE.out.1]) | (go_loud (refine map_look rfl _ _ rfl str_keys umapSI rfl hm3 (zeroInt _) rfl hkey ?_); go_loud (rw [kget_put_self]; simp only [Option.getD_some]))) | (at_mapUpdate; refine map_put rfl _ _ _ rfl str_keys umapSI rfl hsm2 hskl2 rfl rfl hkey ?_; intro W3 hm3 hg3; go_loud (obtain ⟨hgf3, hT3, hb3, hv3, hfw3, hs3⟩ := HG.out.1 hm3 hg3); go_loud (have cF1 : W3.cell? ⟨wr.heap.size, 1, none⟩ = some (.bool true) := cell_of_heap hb3 1); go_loud (have cF2 : W3.cell? ⟨wr.heap.size, 2, none⟩ = some (.slice aob fb.length capb) := cell_of_heap hb3 2); go_loud (obtain ⟨nb', aon', capn', hve', hnb', hsn'⟩ := hv3); go_loud (cases hve'); go_loud (have n0 : W3.cell? ⟨nb, 0, none⟩ = some (.bool true) := cell_of_heap hnb' 0); clear hnb' hsn'; go_loud (have H3 := Lib.hid (And.intro hgf3 (And.intro hT3 (And.intro hfw3 (And.intro hs3 hm3))))); clear hgf3 hT3 hb3 hfw3 hs3 hg3))
              go_ret2
              have hr : R = (53, t) := by rw [HK.out.1, if_neg (by simp), if_pos (.inr (by rw [← H2.out.1]; rfl))]
              rw [hr]
              exact ⟨H3.out.2.2.1, .inr ⟨by simp, rfl⟩⟩
    · go_wp2
      go_ret2
      obtain rfl : k = n := by omega
      rw [List.drop_of_length_le (by omega)] at hRk
      have : R = (0, t) := by rw [hRk]; rfl
      rw [this]
      exact ⟨hfr, .inl ⟨rfl, rfl, kvs, htr⟩⟩

end
end Go.Proofs.YtbhjdddiihfafaaGreatDoor
