/- A range over a function whose iterator writes cells of its own: the caller's law (after the kit's law of the third form), the iterator's contract. -/
import Derived.RangeFuncNested
import Derived.RangeFuncBound
import Derived.RangeFuncCalls
import Derived.RangeFuncLeaves
import Derived.Shelf.Abstract
import Derived.Shelf.RegionOpen
import Derived.WalkKit
import Derived.OwnWalkIn
import Derived.TacticsInMore
import Derived.LoopNIn
import Derived.LoopIn
import Derived.Test.YtbhjdddiihfafaaGreatDoorJPath
set_option linter.unusedVariables false
set_option linter.unusedSimpArgs false
namespace Go.Proofs.YtbhjdddiihfafaaGreatDoor
open Go.RowKit

/-- What an iterator gives that writes cells of its own (Step), reads what rounds keep (Kp), begins in a world that is so (base): these items, or a part of them. -/
def SeqB {α : Type} (F : Fence) (n : Nat) (P : Program) (g : Nat) (lb : Array Value) (encs : α → Array Value) (Step Kp : World → World → Prop) (base : World → Prop) (xs : List α) : Prop :=
  ∀ (l : Nat) (J Jx : List α → World → Prop) (W : World), base W → (∀ s A B, J s A → Step A B → J s B) → (∀ s A B, Jx s A → Step A B → Jx s B) →
    (∀ pre x W1, J pre W1 → pre ++ [x] <+: xs → YieldAt F (n - 1) P l (encs x) W1 fun e W' =>
      (e = .returned (.bool true) ∧ J (pre ++ [x]) W' ∧ Kp W1 W') ∨ (e = .returned (.bool false) ∧ Jx (pre ++ [x]) W')) →
    J [] W →
    CallsIn F n P g (#[.func (.yield l) #[] #[]] ++ lb) W fun e W' => (∃ v, e = .returned v) ∧ (J xs W' ∨ (∃ pre, pre <+: xs ∧ Jx pre W'))

variable {F : Fence} {n : Nat} {P : Program}

theorem wpIn_rangeFunc_B {α : Type} {g : Operand} {ps : Array Tmp} {assign body : Code} {Q : Exit → Act → World → Prop} {a : Act} {w : World}
    (hro : F.round = none) (h1 : 1 ≤ n) {gf : Nat} {lb : Array Value} (hg : a.eval g = .func (.func gf) #[] lb) (hFg : F.fn gf) (eg : ∀ args w, (callFunc gf args).run P w = .ok (.enter gf args) w)
    {encs : α → Array Value} {Step Kp : World → World → Prop} {base : World → Prop} {xs : List α} (hseq : SeqB F (n - 1) P gf lb encs Step Kp base xs)
    (hbase : ∀ o1 o2, base ((w.alloc o1).alloc o2))
    (hSt : ∀ A B, Step A B → ∀ (k : Nat) (o : Obj), A.heap[k]? = some o → o.isCells = false → B.heap[k]? = some o)
    (hKt : ∀ {A B C : World}, Kp A B → Kp B C → Kp A C) (hKb : ∀ (W : World) (l : Nat) (o o' : Obj), w.heap.size ≤ l → W.heap[l]? = some o → o.isCells = false → o.isWalk = false → Kp W (W.putObj l o')) (hps : ∀ x, (encs x).size = ps.size)
    (I : List α → World → Prop) (Ix : Code → List α → World → Prop) (hI : ∀ s A B, I s A → Step A B → I s B) (hIx : ∀ c s A B, Ix c s A → Step A B → Ix c s B)
    (hIp : ∀ s W (l : Nat) (o : Obj) o', I s W → w.heap.size ≤ l → W.heap[l]? = some o → o.isCells = false → I s (W.putObj l o'))
    (hIxp : ∀ c s W (l : Nat) (o : Obj) o', Ix c s W → w.heap.size ≤ l → W.heap[l]? = some o → o.isCells = false → Ix c s (W.putObj l o'))
    (h0 : ∀ o1 o2, I [] ((w.alloc o1).alloc o2)) (a₁ : α → Act)
    (hassign : ∀ (l : Nat) (x : α) (W : World) (K : Act → World → Prop), K (a₁ x) W →
      assign.wpIn (F.inRound l) (n - 1 - 1) P (Exit.then K (fun _ _ _ => False)) { tmps := (ps.zip (encs x)).foldl (fun t (p, v) => t.setIfInBounds p v) a.tmps, defers := [] } W)
    (hbody : ∀ (l : Nat) (pre : List α) (x : α) (W : World), I pre W → pre ++ [x] <+: xs → body.wpIn (F.inRound l) (n - 1 - 1) P (ownPostK Kp I Ix (pre ++ [x]) W) (a₁ x) W)
    (hdone : ∀ (D : Nat) (W : World), I xs W → W.heap[D]? = some (.deferred (some [])) → w.heap.size ≤ D → Q .normal { a with defers := { target := .collected D, args := #[] } :: a.defers } W)
    (hstop : ∀ (D : Nat) (c : Code) (pre : List α) (W : World), pre <+: xs → Ix c pre W → W.heap[D]? = some (.deferred (some [])) → w.heap.size ≤ D → c.wpIn F n P Q { a with defers := { target := .collected D, args := #[] } :: a.defers } W) :
    (Code.rangeFunc g ps assign body).wpIn F n P Q a w := by
  refine wpIn_rangeFunc ?_
  intro fn hfn
  rw [hro]
  obtain ⟨rec, hrec⟩ : ∃ rec : LoopState → Option Code → Loop, rec = fun st pe => { state := st, pending := pe, fn, tmps := a.tmps, params := ps, assign, body, defers := w.heap.size } := ⟨_, rfl⟩
  obtain ⟨W1, hW1⟩ : ∃ W1, (w.alloc (.deferred (some []))).alloc (.loop (rec .ready none)) = W1 := ⟨_, rfl⟩
  have hL1 : W1.heap[w.heap.size + 1]? = some (.loop (rec .ready none)) := by
    rw [← hW1]; have := World.alloc_heap_new (w.alloc (.deferred (some []))) (.loop (rec .ready none)); rwa [World.size_alloc] at this
  have hK1 : W1.heap[w.heap.size]? = some (.deferred (some [])) := by
    rw [← hW1]; exact (Below.heap_alloc _ _ _ (by simp)).trans (World.alloc_heap_new w _)
  have hI1 : I [] W1 := by rw [← hW1]; exact h0 _ _
  have hb1 : base W1 := by rw [← hW1]; exact hbase _ _
  refine ⟨w.heap.size + 1, [{ target := .collected w.heap.size, args := #[] }], W1, { target := .fn (.func gf) lb, args := #[.func (.yield (w.heap.size + 1)) #[] #[]] }, W1, gf,
    #[.func (.yield (w.heap.size + 1)) #[] #[]] ++ lb, W1, ?_, ?_, ?_, ?_, fun _ => h1, ?_⟩
  · rw [← hW1, hrec]; exact run_enterLoop_outer _ _ _ _ _
  · simp only [resolve, hg]
    simp [go_sem]
  · intro f' hf'; simp [Target.leads] at hf'; subst hf'; exact hFg
  · simp [invoke, go_sem, eg]
  · refine (hseq (w.heap.size + 1)
      (fun pre W => I pre W ∧ W.heap[w.heap.size + 1]? = some (.loop (rec .ready none)) ∧ W.heap[w.heap.size]? = some (.deferred (some [])))
      (fun pre W => ∃ c, Ix c pre W ∧ W.heap[w.heap.size + 1]? = some (.loop (rec .done (some c))) ∧ W.heap[w.heap.size]? = some (.deferred (some [])))
      W1 hb1
      (fun s A B hs hst => ⟨hI s A B hs.1 hst, hSt A B hst _ _ hs.2.1 rfl, hSt A B hst _ _ hs.2.2 rfl⟩)
      (fun s A B hs hst => by
        obtain ⟨c, hc, hl, hk⟩ := hs
        exact ⟨c, hIx c s A B hc hst, hSt A B hst _ _ hl rfl, hSt A B hst _ _ hk rfl⟩)
      ?_ ⟨hI1, hL1, hK1⟩).mono ?_
    · rintro pre x W ⟨hi, hl, hk⟩ hpre
      have hlt : w.heap.size + 1 < W.heap.size := (Array.getElem?_eq_some_iff.1 hl).1
      have hy := run_yield (P := P) (args := encs x) hl (by rw [hrec]; exact hps x)
      rw [hrec] at hy
      refine ⟨fn, _, assign, body, hy, roundIn_of_wpIn hfn (hassign _ x W _ ⟨_, run_beginRound hl (by rw [hrec]), ?_⟩)⟩
      have hl2 : (W.putObj (w.heap.size + 1) (.loop { rec .ready none with state := .busy })).heap[w.heap.size + 1]? = some (.loop { rec .ready none with state := .busy }) := World.putObj_heap_same hlt
      have hk2 : (W.putObj (w.heap.size + 1) (.loop { rec .ready none with state := .busy })).heap[w.heap.size]? = some (.deferred (some [])) := (World.putObj_heap_other (by omega)).trans hk
      have hw2 : Kp W (W.putObj (w.heap.size + 1) (.loop { rec .ready none with state := .busy })) := hKb _ _ _ _ (by omega) hl rfl rfl
      refine wpIn_mono (hbody _ pre x _ (hIp _ _ _ _ _ hi (by omega) hl rfl) hpre) ?_
      have fin : ∀ (jump : Option Code) (W3 : World), KeepsOthers (W.putObj (w.heap.size + 1) (.loop { rec .ready none with state := .busy })) W3 →
          (Instr.endRound (w.heap.size + 1) jump).run P W3 = .ok (.bool jump.isNone) (W3.putObj (w.heap.size + 1) (.loop (rec (if jump.isNone then .ready else .done) jump))) ∧
          W3.heap[w.heap.size + 1]? = some (.loop { rec .ready none with state := .busy }) ∧
          (W3.putObj (w.heap.size + 1) (.loop (rec (if jump.isNone then .ready else .done) jump))).heap[w.heap.size + 1]? = some (.loop (rec (if jump.isNone then .ready else .done) jump)) ∧
          (W3.putObj (w.heap.size + 1) (.loop (rec (if jump.isNone then .ready else .done) jump))).heap[w.heap.size]? = some (.deferred (some [])) := fun jump W3 hk3 => by
        have hl3 := hk3.same _ _ hl2 rfl
        have := run_endRound (P := P) jump hl3
        rw [hrec] at this ⊢
        exact ⟨this, by rw [hrec] at hl3; exact hl3, World.putObj_heap_same (Array.getElem?_eq_some_iff.1 hl3).1, (World.putObj_heap_other (by omega)).trans (hk3.same _ _ hk2 rfl)⟩
      rintro e a3 W3 hp
      cases e with
      | normal =>
        obtain ⟨hk3, hkp3, hi3⟩ := hp
        obtain ⟨hr, hl3, hl4, hk4⟩ := fin none W3 hk3
        exact ⟨_, _, hr, .inl ⟨rfl, ⟨hIp _ _ _ _ _ hi3 (by omega) hl3 rfl, hl4, hk4⟩, hKt (hKt hw2 hkp3) (hKb _ _ _ _ (by omega) hl3 rfl rfl)⟩⟩
      | ret =>
        obtain ⟨hk3, hi3⟩ := hp
        obtain ⟨hr, hl3, hl4, hk4⟩ := fin (some .ret) W3 hk3
        exact ⟨_, _, hr, .inr ⟨rfl, .ret, hIxp _ _ _ _ _ _ hi3 (by omega) hl3 rfl, hl4, hk4⟩⟩
      | exit id =>
        obtain ⟨hk3, hi3⟩ := hp
        obtain ⟨hr, hl3, hl4, hk4⟩ := fin (some (.exit id)) W3 hk3
        exact ⟨_, _, hr, .inr ⟨rfl, .exit id, hIxp _ _ _ _ _ _ hi3 (by omega) hl3 rfl, hl4, hk4⟩⟩
      | goto t =>
        obtain ⟨hk3, hi3⟩ := hp
        obtain ⟨hr, hl3, hl4, hk4⟩ := fin (some (.goto t)) W3 hk3
        exact ⟨_, _, hr, .inr ⟨rfl, .goto t, hIxp _ _ _ _ _ _ hi3 (by omega) hl3 rfl, hl4, hk4⟩⟩
      | panic ch => exact hp.elim
      | outgrown => exact hp.elim
    · rintro e W2 ⟨⟨v, rfl⟩, (⟨hi, hl, hk⟩ | ⟨pre, hSp, c, hi, hl, hk⟩)⟩
      · exact ⟨none, _, by have := run_endLoop (P := P) hl (by rw [hrec]; simp); rw [hrec] at this; exact this, hdone _ _ (hIp _ _ _ _ _ hi (by omega) hl rfl) ((World.putObj_heap_other (by omega)).trans hk) (Nat.le_refl _)⟩
      · exact ⟨some c, _, by have := run_endLoop (P := P) hl (by rw [hrec]; simp); rw [hrec] at this; exact this, hstop _ c pre _ hSp (hIxp _ _ _ _ _ _ hi (by omega) hl rfl) ((World.putObj_heap_other (by omega)).trans hk) (Nat.le_refl _)⟩

end Go.Proofs.YtbhjdddiihfafaaGreatDoor
/- strings.SplitSeq at a separator of one byte. -/
namespace Go.Proofs.YtbhjdddiihfafaaGreatDoor
open Go.RowKit Go.Maps Go.Shelf
attribute [local go_sem] Oper.semAt_some

theorem index_splitc (c : UInt8) (l : List UInt8) : (Lib.indexByte l c = -1 ∧ splitc c l = [l]) ∨ ∃ k : Nat, Lib.indexByte l c = k ∧ k < l.length ∧ splitc c l = l.take k :: splitc c (l.drop (k + 1)) := by
  induction l with
  | nil => exact .inl ⟨rfl, rfl⟩
  | cons b l ih =>
    by_cases h : b = c
    · subst h
      refine .inr ⟨0, by simp [Lib.indexByte], by simp, ?_⟩
      simp [splitc]
    · have hb : (b == c) = false := by simpa using h
      rcases ih with ⟨h1, h2⟩ | ⟨k, h1, h2, h3⟩
      · refine .inl ⟨by simp [Lib.indexByte, hb, h1], ?_⟩
        simp only [splitc]; rw [if_neg h, h2]
      · refine .inr ⟨k + 1, ?_, by simp; omega, ?_⟩
        · simp only [Lib.indexByte, hb, h1]
          rw [if_neg (by simp), if_neg (by simp)]; simp
        · simp only [splitc]; rw [if_neg h, h3]; simp

/-- The iterator's own step. -/
def SpStep (Bs : Nat) (A B : World) : Prop := ∃ v, B = A.setCell ⟨Bs, 0, none⟩ v
/-- What a round keeps. -/
def SpKeep (Bs Bp Bz : Nat) (A B : World) : Prop := ∀ (k : Nat) (o : Obj), (k = Bs ∨ k = Bp ∨ k = Bz) → A.heap[k]? = some o → B.heap[k]? = some o

def SpBase (Bs Bp Bz : Nat) (s : List UInt8) (W : World) : Prop :=
  W.heap[Bs]? = some (.cells #[.string (bs s)] 9 (0, 0)) ∧ W.heap[Bp]? = some (.cells #[.string ⟨#[47]⟩] 9 (0, 0)) ∧ W.heap[Bz]? = some (.cells #[.int .i64 0] 3 (0, 0))

def strLen (W : World) (Bs : Nat) : Nat := match W.cell? ⟨Bs, 0, none⟩ with | some (.string s) => s.size | _ => 0

set_option maxHeartbeats 1000000 in
set_option maxRecDepth 100000 in
theorem splitSeq_in (n : Nat) (Bs Bp Bz : Nat) (h1 : Bs ≠ Bp) (h2 : Bs ≠ Bz) (s : List UInt8) (hs : s.length ≤ 1048576) :
    SeqB Fence.wide n Tryz.prog 313 #[.pointer (some ⟨Bp, 0, none⟩), .pointer (some ⟨Bs, 0, none⟩), .pointer (some ⟨Bz, 0, none⟩)] (fun x => #[.string (bs x)]) (SpStep Bs) (SpKeep Bs Bp Bz) (SpBase Bs Bp Bz s) (splitc 47 s) := by
  rintro l J Jx W ⟨hb, hp, hz⟩ hJ hJx hY h0
  refine callsIn_of_wp Tryz.func313 rfl trivial ?_ rfl
  simp only [Tryz.ntmps313, List.size_toArray, List.length_cons, List.length_nil, Nat.reduceAdd, Nat.reduceSub, Array.replicate_succ, Array.replicate_zero, List.push_toArray, List.append_toArray, List.nil_append, List.cons_append]
  have c1 : W.cell? ⟨Bp, 0, none⟩ = some (.string ⟨#[47]⟩) := cell_of_heap hp 0
  gi_wp2
  gi_loopw [7] (fun _ wr => ∃ (pre : List (List UInt8)) (r : List UInt8), splitc 47 s = pre ++ splitc 47 r ∧ r.length ≤ s.length ∧ J pre wr ∧ SpBase Bs Bp Bz r wr) (fun _ wr => strLen wr Bs)
  case atStart => exact ⟨[], s, rfl, Nat.le_refl _, h0, hb, hp, hz⟩
  case round =>
    obtain ⟨pre, r, hsp, hrl, hJr, hbr, hpr, hzr⟩ := hrel
    have c1 : wr.cell? ⟨Bp, 0, none⟩ = some (.string ⟨#[47]⟩) := cell_of_heap hpr 0
    have c2 : wr.cell? ⟨Bs, 0, none⟩ = some (.string (bs r)) := cell_of_heap hbr 0
    have c3 : wr.cell? ⟨Bz, 0, none⟩ = some (.int .i64 0) := cell_of_heap hzr 0
    have hIx := Index1_any (bs r) 47 wr
    rw [bs_data] at hIx
    rcases index_splitc 47 r with ⟨hi, hsr⟩ | ⟨k, hi, hk, hsr⟩
    · rw [hi] at hIx
      have hY' := hY pre r wr hJr (by rw [hsp, hsr]; exact List.prefix_rfl)
      obtain ⟨fn, tmps, assign, body, hy, hR⟩ := hY'
      clear hi
      gi_wp2
      refine ⟨trivial, fun h => (by cases h), (callsIn_wide.2 hIx).mono ?_⟩
      rintro e w' ⟨rfl, rfl⟩
      gi_wp2
      refine ⟨fun h => (by cases h), hR.mono ?_⟩
      rintro e W' (⟨rfl, hJ', hk'⟩ | ⟨rfl, hJx'⟩)
      · gi_wp2
        go_end0
        exact ⟨⟨_, rfl⟩, .inl (by rw [hsp, hsr]; exact hJ')⟩
      · gi_wp2
        go_end0
        exact ⟨⟨_, rfl⟩, .inr ⟨pre ++ [r], by rw [hsp, hsr]; exact List.prefix_rfl, hJx'⟩⟩
    · rw [hi] at hIx
      have hY' := hY pre (r.take k) wr hJr (by rw [hsp, hsr]; exact ⟨splitc 47 (r.drop (k + 1)), by simp⟩)
      obtain ⟨fn, tmps, assign, body, hy, hR⟩ := hY'
      have w1 : IntKind.i64.wrap ((k : Int) + 0) = k := by rw [IntKind.wrap_i64]; omega
      have w2 : IntKind.i64.wrap ((k : Int) + 1) = (k : Int) + 1 := by rw [IntKind.wrap_i64]; omega
      have hrs : (bs r).size = r.length := bs_size r
      have hki : (k : Int) ≤ (r.length : Int) := by omega
      have hki1 : (k : Int) + 1 ≤ (r.length : Int) := by omega
      rw [bs_take] at hy
      clear hi
      gi_wp2
      refine ⟨trivial, fun h => (by cases h), (callsIn_wide.2 hIx).mono ?_⟩
      rintro e w' ⟨rfl, rfl⟩
      gi_wp2
      refine ⟨fun h => (by cases h), hR.mono ?_⟩
      rintro e W' (⟨rfl, hJ', hk'⟩ | ⟨rfl, hJx'⟩)
      · have hb' := hk' _ _ (.inl rfl) hbr
        have hp' := hk' _ _ (.inr (.inl rfl)) hpr
        have hz' := hk' _ _ (.inr (.inr rfl)) hzr
        have c1' : W'.cell? ⟨Bp, 0, none⟩ = some (.string ⟨#[47]⟩) := cell_of_heap hp' 0
        have c2' : W'.cell? ⟨Bs, 0, none⟩ = some (.string (bs r)) := cell_of_heap hb' 0
        have f2' := free_of_heap hb' 0
        gi_wp2
        go_roundw
        case rel =>
          rw [← bs_drop]
          refine ⟨pre ++ [r.take k], r.drop (k + 1), by rw [hsp, hsr]; simp, by rw [List.length_drop]; omega, hJ _ _ _ hJ' ⟨_, rfl⟩, ?_, heap_set_ne hp' (Ne.symm h1) _, heap_set_ne hz' (Ne.symm h2) _⟩
          have := heap_set hb' 0 (.string (bs (r.drop (k + 1))))
          simpa using this
        case measure =>
          rw [← bs_drop]
          have h4 := cell_of_heap (heap_set hb' 0 (.string (bs (r.drop (k + 1))))) 0
          have e1 : strLen (W'.setCell ⟨Bs, 0, none⟩ (.string (bs (r.drop (k + 1))))) Bs = (r.drop (k + 1)).length := by
            unfold strLen
            rw [show (W'.setCell ⟨Bs, 0, none⟩ (.string (bs (r.drop (k + 1))))).cell? ⟨Bs, 0, none⟩ = some (.string (bs (r.drop (k + 1)))) from by simpa using h4]
            exact bs_size _
          have e2 : strLen wr Bs = r.length := by unfold strLen; rw [c2]; exact bs_size _
          rw [e1, e2, List.length_drop]; omega
      · gi_wp2
        refine bodyPost_ret (results_none rfl _ _ _) rfl ?_
        exact ⟨⟨_, rfl⟩, .inr ⟨pre ++ [r.take k], by rw [hsp, hsr]; exact ⟨splitc 47 (r.drop (k + 1)), by simp⟩, hJx'⟩⟩

end Go.Proofs.YtbhjdddiihfafaaGreatDoor
