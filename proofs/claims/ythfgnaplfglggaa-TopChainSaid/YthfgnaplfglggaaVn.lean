/- (names seat) what the vote seat's text of that name says besides the laws' own functions. -/
import Derived.Test.YthfgnaplfglggaaVy
namespace Go.Proofs.Ythfgnaplfglggaa
open Go.RowKit
set_option linter.unusedVariables false

theorem KidsAt.head2 {w : World} {B i : Nat} {A : Option Addr} {v : Int} {ks r : Fo} (h : KidsAt w B A i (.cons v ks r)) :
    ∃ (b off c : Nat) (A' : Option Addr), A = some ⟨b, off, none⟩ ∧ b < B ∧ w.cell? ⟨b, off + i * 2, none⟩ = some (.int .i64 v) ∧
      w.cell? ⟨b, off + i * 2 + 1, none⟩ = some (.slice A' ks.len c) ∧ ks.len ≤ c ∧ c ≤ maxLen ∧ KidsAt w B A' 0 ks := h.1
end Go.Proofs.Ythfgnaplfglggaa
