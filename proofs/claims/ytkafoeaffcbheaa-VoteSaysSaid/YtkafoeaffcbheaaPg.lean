/- A slice of ints that comes in. -/
import Derived.Test.YtkafoeaffcbheaaOi
import Derived.Test.YtkafoeaffcbheaaVi
import Derived.Test.YtkafoeaffcbheaaVs
namespace Go.Proofs.Ytkafoeaffcbheaa
open Go.ChangeShapes Go.WideShapes Go.ChangeAt Go.RowKit Go.Joins
theorem open_list {H : Type} {enc : TypeId × Value → H} {w : World} {base : Nat} {spare : Nat → Bool} {held : Bool} {r : Reach} {b0 : Nat} {v : Value} {d : DataW H} {p : List MemPlace}
    (hv : Value.okWide Try.prog w r b0 29 v) (h : DataW.Trod enc Try.prog w base spare held 29 v d p) :
    ∃ (A : Option Addr) (xs : List Int) (c : Nat), v = .slice A xs.length c ∧ xs.length ≤ c ∧ c ≤ maxLen ∧ IntsAt w w.heap.size A xs := by
  obtain ⟨A, xs, c, e, hl, hc, hk, _⟩ := open_nums Try.underlying29 Try.underlying3 cellsInt hv h
  exact ⟨A, xs, c, e, hl, hc, hk⟩
end Go.Proofs.Ytkafoeaffcbheaa
