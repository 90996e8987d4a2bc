/- A range over an iterator whose items lie in memory that the iterator makes: a round may lean on it that its item lies there (V). The body never leaves the loop. The proof goes the kit's way for its own laws (enterLoop, yield, beginRound, endRound, endLoop), V and what the assignment lays carried along. -/
import Derived.Test.YthpgfgnifbhjpaaLa
import Derived.RangeFuncNested
import Derived.RangeFuncBound
import Derived.RangeFuncCalls
import Derived.RangeFuncLeaves
import Derived.RangeFuncBox
import Derived.Shelf.Abstract
import Derived.Shelf.RegionOpen
namespace Go.Proofs.Ythpgfgnifbhjpaa
open Go.RowKit Go.Shelf
set_option linter.unusedVariables false

/-- The iterator's contract: it runs the round at items that lie in the world at hand. -/
def SeqV {α : Type} (F : Fence) (n : Nat) (P : Program) (g : Nat) (lb : Array Value) (encs : α → Array Value) (V : α → World → Prop) (Kp : World → World → Prop) (S : List α → Prop) (N : Nat) (w : World) : Prop :=
  ∀ (l : Nat) (J : List α → World → Prop) (W : World), Below w.heap.size w W → AbidesFrom W.heap.size J →
    (∀ pre x W1, J pre W1 → V x W1 → pre.length < N → YieldAt F (n - 1) P l (encs x) W1 fun e W' => e = .returned (.bool true) ∧ J (pre ++ [x]) W' ∧ Kp W1 W') →
    J [] W → CallsIn F n P g (#[.func (.yield l) #[] #[]] ++ lb) W fun e W' => (∃ v, e = .returned v) ∧ ∃ xs, S xs ∧ J xs W'

/-- A turn of a block that is no cells and lies at or beyond B. -/
def Turn (B : Nat) (W W' : World) : Prop := ∃ row, W.grownBy W' row ∧ ∀ r, row = some r → B ≤ r ∧ ∃ o : Obj, W.heap[r]? = some o ∧ o.isCells = false
theorem Turn.put {B : Nat} {W : World} {l : Nat} {o : Obj} (o' : Obj) (hB : B ≤ l) (hl : W.heap[l]? = some o) (ho : o.isCells = false) : Turn B W (W.putObj l o') :=
  ⟨some l, grownBy_putObj' W l o', fun r e => by cases e; exact ⟨hB, o, hl, ho⟩⟩

theorem below_put {n₀ : Nat} {w : World} (hn : n₀ ≤ w.heap.size) (W : World) (l : Nat) (o o' : Obj) (hl : w.heap.size ≤ l) (h : W.heap[l]? = some o) : Below n₀ W (W.putObj l o') :=
  (Below.refl n₀ W).grown (grownBy_putObj' W l o') (by have := (Array.getElem?_eq_some_iff.1 h).1; omega) (fun k e => by cases e; omega)

variable {F : Fence} {n : Nat} {P : Program}

theorem rangeV {α : Type} {g : Operand} {ps : Array Tmp} {assign body : Code} {Q : Exit → Act → World → Prop} {a : Act} {w : World}
    (hro : F.round = none) (h1 : 1 ≤ n) {gf : Nat} {lb : Array Value} (hg : a.eval g = .func (.func gf) #[] lb) (hFg : F.fn gf) (eg : ∀ args w, (callFunc gf args).run P w = .ok (.enter gf args) w)
    {encs : α → Array Value} {V : α → World → Prop} {Kp : World → World → Prop} {S : List α → Prop} {N : Nat} {w0 : World} (hseq : SeqV F (n - 1) P gf lb encs V Kp S N w0)
    (hKt : ∀ {A B C : World}, Kp A B → Kp B C → Kp A C) (hKb : ∀ (W : World) (l : Nat) (o o' : Obj), w.heap.size ≤ l → W.heap[l]? = some o → Kp W (W.putObj l o')) (hb0 : Below w0.heap.size w0 w) (hps : ∀ x, (encs x).size = ps.size)
    (I : List α → World → Prop) (hI : ∀ s W W', Turn w.heap.size W W' → I s W → I s W') (hV : ∀ x W W', Turn w.heap.size W W' → V x W → V x W') (h0 : I [] w)
    (Ax : α → Act → World → Prop) (hAx : ∀ x a' W W', Turn w.heap.size W W' → Ax x a' W → Ax x a' W')
    (hassign : ∀ (l : Nat) (pre : List α) (x : α) (W : World) (K : Act → World → Prop), I pre W → V x W → (∀ a' W', KeepsOthers W W' → Kp W W' → I pre W' → V x W' → Ax x a' W' → K a' W') →
      assign.wpIn (F.inRound l) (n - 1 - 1) P (Exit.then K (fun _ _ _ => False)) { tmps := (ps.zip (encs x)).foldl (fun t (p, v) => t.setIfInBounds p v) a.tmps, defers := [] } W)
    (hbody : ∀ (l : Nat) (pre : List α) (x : α) (a' : Act) (W : World), I pre W → V x W → Ax x a' W → pre.length < N → body.wpIn (F.inRound l) (n - 1 - 1) P (ownPostK Kp I (fun _ _ _ => False) (pre ++ [x]) W) a' W)
    (hdone : ∀ (D : Nat) (xs : List α) (W : World), w.heap.size ≤ D → S xs → I xs W → W.heap[D]? = some (.deferred (some [])) → Q .normal { a with defers := { target := .collected D, args := #[] } :: a.defers } W) :
    (Code.rangeFunc g ps assign body).wpIn F n P Q a w := by
  refine wpIn_rangeFunc fun fn hfn => ?_
  rw [hro]
  obtain ⟨rc, hrc⟩ : ∃ rc : LoopState → Option Code → Loop, rc = fun st pe => { state := st, pending := pe, fn, tmps := a.tmps, params := ps, assign, body, defers := w.heap.size } := ⟨_, rfl⟩
  have isT : ∀ {A B : World} {row : Option Nat}, A.grownBy B row → (∀ r, row = some r → w.heap.size ≤ r ∧ ∃ o : Obj, A.heap[r]? = some o ∧ o.isCells = false) → Turn w.heap.size A B := fun hg hr => ⟨_, hg, hr⟩
  obtain ⟨Wd, hWd⟩ : ∃ Wd, w.alloc (.deferred (some [])) = Wd := ⟨_, rfl⟩
  obtain ⟨Wl, hWl⟩ : ∃ Wl, Wd.alloc (.loop (rc .ready none)) = Wl := ⟨_, rfl⟩
  have sd : Wd.heap.size = w.heap.size + 1 := by rw [← hWd]; simp
  have sl : Wl.heap.size = w.heap.size + 1 + 1 := by rw [← hWl]; simp [sd]
  have kd : Wd.heap[w.heap.size]? = some (.deferred (some [])) := hWd ▸ World.alloc_heap_new w _
  have hL1 : Wl.heap[w.heap.size + 1]? = some (.loop (rc .ready none)) := by
    have := World.alloc_heap_new Wd (.loop (rc .ready none))
    rw [hWl, sd] at this
    exact this
  have hK1 : Wl.heap[w.heap.size]? = some (.deferred (some [])) := by
    rw [← hWl]
    exact (Below.heap_alloc _ _ _ (by omega)).trans kd
  have td : Turn w.heap.size w Wd := isT (hWd ▸ World.grownBy_alloc w _ none) (fun r e => by cases e)
  have tl : Turn w.heap.size Wd Wl := isT (hWl ▸ World.grownBy_alloc Wd _ none) (fun r e => by cases e)
  have hI1 : I [] Wl := hI _ _ _ tl (hI _ _ _ td h0)
  have hb1 : Below w0.heap.size w0 Wl := by
    refine hb0.trans (Below.mono (B := w.heap.size) ?_ hb0.size)
    rw [← hWl, ← hWd]
    exact ((Below.refl _ w).alloc (Nat.le_refl _) _).alloc (by simp) _
  refine ⟨w.heap.size + 1, [{ target := .collected w.heap.size, args := #[] }], Wl, { target := .fn (.func gf) lb, args := #[.func (.yield (w.heap.size + 1)) #[] #[]] }, Wl, gf,
    #[.func (.yield (w.heap.size + 1)) #[] #[]] ++ lb, Wl, ?_, ?_, ?_, ?_, fun _ => h1, ?_⟩
  · rw [← hWl, ← hWd, hrc]; exact run_enterLoop_outer _ _ _ _ _
  · simp only [resolve, hg]
    simp [go_sem]
  · intro f' hf'; simp [Target.leads] at hf'; subst hf'; exact hFg
  · simp [invoke, go_sem, eg]
  · have books : ∀ {A B : World} {row : Option Nat} {k : Nat} {o : Obj}, A.grownBy B row → (∀ r, row = some r → Wl.heap.size ≤ r ∧ ∃ o : Obj, A.heap[r]? = some o ∧ o.isWalk = true) → A.heap[k]? = some o → k < Wl.heap.size → B.heap[k]? = some o := fun hg' hr hk hlt =>
      (hg'.block _ (Array.getElem?_eq_some_iff.1 hk).1 (fun e => by have := (hr _ e.symm).1; omega)).trans hk
    refine (hseq (w.heap.size + 1) (fun pre W => I pre W ∧ W.heap[w.heap.size + 1]? = some (.loop (rc .ready none)) ∧ W.heap[w.heap.size]? = some (.deferred (some []))) Wl hb1
      (fun s A B row hs hg' hr => ⟨hI s A B (isT hg' fun r e => by
        obtain ⟨hB, o, ho, hw⟩ := hr r e
        exact ⟨by omega, o, ho, Obj.not_cells_of_walk hw⟩) hs.1, books hg' hr hs.2.1 (by omega), books hg' hr hs.2.2 (by omega)⟩) ?_ ⟨hI1, hL1, hK1⟩).mono ?_
    · rintro pre x W ⟨hi, hl, hk⟩ hv hlen
      have hy := run_yield (P := P) (args := encs x) hl (by rw [hrc]; exact hps x)
      rw [hrc] at hy
      refine ⟨fn, _, assign, body, hy, roundIn_of_wpIn hfn (hassign _ pre x W _ hi hv fun a' W2 hko hkp hi2 hv2 hax => ?_)⟩
      have hl2 := hko.same _ _ hl rfl
      have hk2 := hko.same _ _ hk rfl
      have hlt2 : w.heap.size + 1 < W2.heap.size := (Array.getElem?_eq_some_iff.1 hl2).1
      refine ⟨_, run_beginRound hl2 (by rw [hrc]), ?_⟩
      have t2 : Turn w.heap.size W2 (W2.putObj (w.heap.size + 1) (.loop { rc .ready none with state := .busy })) := Turn.put _ (by omega) hl2 rfl
      have hl3 : (W2.putObj (w.heap.size + 1) (.loop { rc .ready none with state := .busy })).heap[w.heap.size + 1]? = some (.loop { rc .ready none with state := .busy }) := World.putObj_heap_same hlt2
      have hk3 : (W2.putObj (w.heap.size + 1) (.loop { rc .ready none with state := .busy })).heap[w.heap.size]? = some (.deferred (some [])) := (World.putObj_heap_other (by omega)).trans hk2
      refine wpIn_mono (hbody _ pre x a' _ (hI _ _ _ t2 hi2) (hV _ _ _ t2 hv2) (hAx _ _ _ _ t2 hax) hlen) ?_
      rintro e a3 W3 hp
      cases e with
      | normal =>
        obtain ⟨hko3, hkp3, hi3⟩ := hp
        have hl4 := hko3.same _ _ hl3 rfl
        have hk4 := hko3.same _ _ hk3 rfl
        have hlt4 : w.heap.size + 1 < W3.heap.size := (Array.getElem?_eq_some_iff.1 hl4).1
        have hr := run_endRound (P := P) none hl4
        have t4 := Turn.put (B := w.heap.size) (.loop (rc .ready none)) (by omega) hl4 rfl
        rw [hrc] at hr
        refine ⟨_, _, hr, rfl, ⟨?_, ?_, (World.putObj_heap_other (by omega)).trans hk4⟩, ?_⟩
        · have := hI _ _ _ t4 hi3
          rw [hrc] at this
          exact this
        · have := World.putObj_heap_same (o := .loop (rc .ready none)) hlt4
          rw [hrc] at this ⊢
          exact this
        · have := hKt hkp (hKt (hKb _ _ _ _ (by omega) hl2) (hKt hkp3 (hKb _ _ _ (.loop (rc .ready none)) (by omega) hl4)))
          rw [hrc] at this
          exact this
      | ret => exact hp.2.elim
      | exit id => exact hp.2.elim
      | goto t => exact hp.2.elim
      | panic ch => exact hp.elim
      | outgrown => exact hp.elim
    · rintro e W2 ⟨⟨v, rfl⟩, xs, hS, hi, hl, hk⟩
      have hr := run_endLoop (P := P) hl (by rw [hrc]; simp)
      rw [hrc] at hr
      exact ⟨none, _, hr, hdone _ xs _ (Nat.le_refl _) hS (hI _ _ _ (Turn.put _ (by omega) hl rfl) hi) ((World.putObj_heap_other (by omega)).trans hk)⟩
end Go.Proofs.Ythpgfgnifbhjpaa
