/- A slice of Meets that comes in. -/
import Derived.Test.YthfgnaplfglggaaRows
import Derived.ProofKit
import Derived.OpenShut
import Derived.Lib.SmallJoins
import Derived.ChangeArms
namespace Go.Proofs.Ythfgnaplfglggaa
open Go.ChangeShapes Go.WideShapes Go.ChangeAt Go.RowKit Go.Joins
set_option linter.unusedVariables false

def MeetsAt (w : World) (B : Nat) (A : Option Addr) (n : Nat) : Prop :=
  0 < n → ∃ b off, A = some ⟨b, off, none⟩ ∧ b < B ∧ ∀ i, i < n → ∃ k x y : Int, w.cell? ⟨b, off + i * 3, none⟩ = some (.int .i64 k) ∧ w.cell? ⟨b, off + i * 3 + 1, none⟩ = some (.int .i64 x) ∧ w.cell? ⟨b, off + i * 3 + 2, none⟩ = some (.int .i64 y)

theorem cellsMeet : Try.prog.cellsOf 45 = 3 := by kernel_rfl
theorem cellsIntM : Try.prog.cellsOf 3 = 1 := by kernel_rfl

section
variable {H : Type} {enc : TypeId × Value → H} {w : World} {base : Nat} {spare : Nat → Bool} {held : Bool}
theorem open_meets {r : Reach} {b0 : Nat} {v : Value} {d : DataW H} {p : List MemPlace} (hv : Value.okWide Try.prog w r b0 41 v) (h : DataW.Trod enc Try.prog w base spare held 41 v d p) :
    ∃ (A : Option Addr) (xs : List Nat) (c : Nat), v = .slice A xs.length c ∧ xs.length ≤ c ∧ c ≤ maxLen ∧ MeetsAt w w.heap.size A xs.length := by
  obtain ⟨a0, len0, cap0, rfl⟩ := okWide_slice Try.underlying41 hv
  obtain ⟨fuel, hf⟩ := h
  simp only [Value.cells] at hf
  rcases DataW.trod_slice Try.underlying41 hf with ⟨hcs, _⟩ | ⟨a, len, cap, elems, rest, n, rfl, hcs, hx, hb, hl, hm, hlen, hel, _⟩
  · simp only [List.cons.injEq, and_true] at hcs
    exact ⟨none, [], 0, by simpa using hcs, Nat.le_refl _, by unfold maxLen; omega, fun hp => absurd hp (by simp)⟩
  · simp only [List.cons.injEq, and_true] at hcs
    refine ⟨some a, List.range len, cap, by rw [List.length_range]; simpa using hcs, by rw [List.length_range]; exact hl, hm, fun hp => ?_⟩
    rw [List.length_range] at hp ⊢
    have each : ∀ i, i < len → ∃ k x y : Int, w.cell? (a.add (i * 3)) = some (.int .i64 k) ∧ w.cell? ((a.add (i * 3)).add 1) = some (.int .i64 x) ∧ w.cell? ((a.add (i * 3)).add 2) = some (.int .i64 y) := by
      intro i hi
      have he := hel i hi
      rw [cellsMeet] at he
      have hi2 : i < elems.length := by omega
      rw [List.getElem?_eq_getElem hi2] at he
      obtain ⟨cs', hc, ht⟩ := Option.bind_eq_some_iff.1 he
      obtain ⟨_, hcl, hat⟩ := World.cells?_some hc
      obtain ⟨ys, n', rfl, _, _, hyl, hf⟩ := DataW.trod_struct Try.underlying45 ht
      match cs', hcl with
      | [c0, c1, c2], _ =>
        have f0 : DataW.trod enc Try.prog w base spare held n' 3 [c0] = ys[0]? := by
          have := hf 0 _ rfl
          simpa [cellsIntM] using this
        have f1 : DataW.trod enc Try.prog w base spare held n' 3 [c1] = ys[1]? := by
          have := hf 1 _ rfl
          simpa [cellsIntM] using this
        have f2 : DataW.trod enc Try.prog w base spare held n' 3 [c2] = ys[2]? := by
          have := hf 2 _ rfl
          simpa [cellsIntM] using this
        have y0 : ys[0]? = some (ys[0]'(by rw [hyl]; decide)) := List.getElem?_eq_getElem _
        have y1 : ys[1]? = some (ys[1]'(by rw [hyl]; decide)) := List.getElem?_eq_getElem _
        have y2 : ys[2]? = some (ys[2]'(by rw [hyl]; decide)) := List.getElem?_eq_getElem _
        rw [y0] at f0
        rw [y1] at f1
        rw [y2] at f2
        obtain ⟨k, e0, _, _⟩ := DataW.trod_int Try.underlying3 f0
        obtain ⟨x, e1, _, _⟩ := DataW.trod_int Try.underlying3 f1
        obtain ⟨y, e2, _, _⟩ := DataW.trod_int Try.underlying3 f2
        simp only [List.cons.injEq, and_true] at e0 e1 e2
        have h0 := hat 0 (by omega)
        have h1 := hat 1 (by omega)
        have h2 := hat 2 (by omega)
        simp only [List.getElem?_cons_zero, List.getElem?_cons_succ] at h0 h1 h2
        subst e0 e1 e2
        exact ⟨k, x, y, by simpa [Addr.add] using h0, h1, h2⟩
    obtain ⟨b, off, spot⟩ := a
    have hspot : spot = none := by
      obtain ⟨k, x, y, h0, _, _⟩ := each 0 hp
      have := World.cell?_spot h0
      simpa [Addr.add] using this
    subst hspot
    have hlt : b < w.heap.size := by
      obtain ⟨k, x, y, h0, _, _⟩ := each 0 hp
      have := World.block_lt_of_cell? w _ h0
      simpa [Addr.add] using this
    refine ⟨b, off, rfl, hlt, fun i hi => ?_⟩
    obtain ⟨k, x, y, h0, h1, h2⟩ := each i hi
    simp only [add_plain] at h0 h1 h2
    exact ⟨k, x, y, h0, h1, h2⟩
end
end Go.Proofs.Ythfgnaplfglggaa
