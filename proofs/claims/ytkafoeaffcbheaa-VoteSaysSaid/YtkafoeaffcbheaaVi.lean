/- A tree of votes that comes in: its reading gives the tree in memory. -/
import Derived.Test.YtkafoeaffcbheaaVt
import Derived.ProofKit
import Derived.OpenShut
import Derived.Lib.SmallJoins
import Derived.ChangeArms
namespace Go.Proofs.Ytkafoeaffcbheaa
open Go.ChangeShapes Go.WideShapes Go.ChangeAt Go.RowKit Go.Joins
set_option linter.unusedVariables false

theorem cellsNode : Try.prog.cellsOf 24 = 2 := by kernel_rfl
theorem cellsInt : Try.prog.cellsOf 3 = 1 := by kernel_rfl
theorem cellsKids : Try.prog.cellsOf 22 = 1 := by kernel_rfl

section
variable {H : Type} {enc : TypeId × Value → H} {w : World} {base : Nat} {spare : Nat → Bool} {held : Bool}

theorem open_kids : ∀ (fuel : Nat) (v : Value) (x : DataW H × List MemPlace), DataW.trod enc Try.prog w base spare held fuel 22 [v] = some x →
    ∃ (A : Option Addr) (ks : Fo) (c : Nat), v = .slice A ks.len c ∧ ks.len ≤ c ∧ c ≤ maxLen ∧ KidsAt w w.heap.size A 0 ks := by
  intro fuel
  induction fuel using Nat.strongRecOn with
  | ind fuel ih =>
    intro v x h
    rcases DataW.trod_slice Try.underlying22 h with ⟨hcs, _⟩ | ⟨a, len, cap, elems, rest, n, rfl, hcs, hx, hb, hl, hm, hlen, hel, _⟩
    · simp only [List.cons.injEq, and_true] at hcs
      exact ⟨none, .nil, 0, hcs, Nat.le_refl _, by unfold maxLen; omega, trivial⟩
    · simp only [List.cons.injEq, and_true] at hcs
      have each : ∀ i, i < len → ∃ (bb off c : Nat) (vv : Int) (A' : Option Addr) (ks' : Fo), a = ⟨bb, off, none⟩ ∧ bb < w.heap.size ∧ w.cell? ⟨bb, off + i * 2, none⟩ = some (.int .i64 vv) ∧
          w.cell? ⟨bb, off + i * 2 + 1, none⟩ = some (.slice A' ks'.len c) ∧ ks'.len ≤ c ∧ c ≤ maxLen ∧ KidsAt w w.heap.size A' 0 ks' := by
        intro i hi
        have he := hel i hi
        rw [cellsNode] at he
        have hi2 : i < elems.length := by omega
        rw [List.getElem?_eq_getElem hi2] at he
        obtain ⟨cs', hc, ht⟩ := Option.bind_eq_some_iff.1 he
        obtain ⟨_, hcl, hat⟩ := World.cells?_some hc
        obtain ⟨ys, n', rfl, _, _, hyl, hf⟩ := DataW.trod_struct Try.underlying24 ht
        match cs', hcl with
        | [c0, c1], _ =>
          have f0 : DataW.trod enc Try.prog w base spare held n' 3 [c0] = ys[0]? := by
            have := hf 0 _ rfl
            simpa [cellsInt] using this
          have f1 : DataW.trod enc Try.prog w base spare held n' 22 [c1] = ys[1]? := by
            have := hf 1 _ rfl
            simpa [cellsKids] using this
          have y0 : ys[0]? = some (ys[0]'(by rw [hyl]; decide)) := List.getElem?_eq_getElem _
          have y1 : ys[1]? = some (ys[1]'(by rw [hyl]; decide)) := List.getElem?_eq_getElem _
          rw [y0] at f0
          rw [y1] at f1
          obtain ⟨vv, e0, _, _⟩ := DataW.trod_int Try.underlying3 f0
          simp only [List.cons.injEq, and_true] at e0
          obtain ⟨A', ks', c, e1, hl', hc', hk'⟩ := ih n' (by omega) c1 _ f1
          have h0 := hat 0 (by omega)
          have h1 := hat 1 (by omega)
          simp only [List.getElem?_cons_zero, List.getElem?_cons_succ] at h0 h1
          subst e0 e1
          obtain ⟨bb, off, spot⟩ := a
          have hspot : spot = none := by
            have := World.cell?_spot h1
            unfold Addr.add at this
            by_cases hi0 : i * 2 = 0
            · have h00 := World.cell?_spot h0
              simpa [Addr.add, hi0] using h00
            · have h00 := World.cell?_spot (hat 0 (by omega))
              have hE := hel 0 (by omega)
              rw [cellsNode, List.getElem?_eq_getElem (by omega : 0 < elems.length)] at hE
              obtain ⟨cs2, hc2, _⟩ := Option.bind_eq_some_iff.1 hE
              obtain ⟨_, hcl2, hat2⟩ := World.cells?_some hc2
              match cs2, hcl2 with
              | [d0, d1], _ =>
                have := World.cell?_spot (hat2 0 (by omega))
                simpa [Addr.add] using this
          subst hspot
          have hlt := World.block_lt_of_cell? w _ h0
          simp only [add_plain] at h0 h1 hlt
          exact ⟨bb, off, c, vv, A', ks', rfl, hlt, h0, h1, hl', hc', hk'⟩
      have build : ∀ k, k ≤ len → ∃ r : Fo, r.len = k ∧ KidsAt w w.heap.size (some a) (len - k) r := by
        intro k
        induction k with
        | zero => intro _; exact ⟨.nil, rfl, trivial⟩
        | succ k ihk =>
          intro hk
          obtain ⟨r, hr, hkr⟩ := ihk (by omega)
          obtain ⟨bb, off, c, vv, A', ks', ha, hb', h0, h1, hl', hc', hk'⟩ := each (len - (k + 1)) (by omega)
          refine ⟨.cons vv ks' r, by simp [Fo.len, hr], ⟨bb, off, c, A', by rw [ha], hb', h0, h1, hl', hc', hk'⟩, ?_⟩
          rw [show len - (k + 1) + 1 = len - k by omega]
          exact hkr
      obtain ⟨r, hr, hkr⟩ := build len (Nat.le_refl _)
      rw [Nat.sub_self] at hkr
      exact ⟨some a, r, cap, by rw [hr]; exact hcs, by omega, hm, hkr⟩

theorem open_node {r : Reach} {b0 : Nat} {v : Value} {d : DataW H} {p : List MemPlace} (hv : Value.okWide Try.prog w r b0 24 v) (h : DataW.Trod enc Try.prog w base spare held 24 v d p) :
    ∃ (x : Int) (A : Option Addr) (ks : Fo) (c : Nat), v = .agg #[.int .i64 x, .slice A ks.len c] ∧ ks.len ≤ c ∧ c ≤ maxLen ∧ KidsAt w w.heap.size A 0 ks := by
  obtain ⟨c0, c1, y0, y1, n, rfl, _, _, h0, h1⟩ := open_agg2 Try.underlying24 (by kernel_rfl) cellsNode hv h
  obtain ⟨x, e0, _, _⟩ := DataW.trod_int Try.underlying3 h0
  simp only [List.cons.injEq, and_true] at e0
  obtain ⟨A, ks, c, e1, hl, hc, hk⟩ := open_kids n c1 _ h1
  subst e0 e1
  exact ⟨x, A, ks, c, rfl, hl, hc, hk⟩
end
end Go.Proofs.Ytkafoeaffcbheaa
