/-
  No cell of these rows narrows 'for every input' (looked for: loops, veiled, ifaces, maps, wideKeys, modest, calm, conditions, laid).
  DERIVED. THE GIVEN ROWS OF THIS SEAT. 6 by the template 'for every input the law returns true; each argument reads behind the call as it read before'; 0 by the template 'total and deterministic' (their statements: YtbnpdbldjchocaaTotals.lean).
  GIVEN WITH THE SEED: the statements are not yours to turn. If you find one false, say at which input.
  Laid BY PROGRAM, IN A SANDBOX (cutbox-rows.mjs): the forced cells as the released guide's own fill.sh prints them over the translation 44f00826d8229bf5… (all of the seat's roots in one cut). By AI agents, Wed Nov 11 2026. No macro, syntax, notation, axiom, sorry.
-/
import Derived.Test.YtbnpdbldjchocaaChecked
import GoSem.Claim
import GoSem.ClaimJoined
import GoSem.ClaimMapViews
import Derived.JoinedTies
import Derived.KernelRfl
namespace Go.Proofs.Ytbnpdbldjchocaa
/- THE CELL 'sum', in the pinned program and in every row, IS THE sha256 OF THE DUMP (.gsa) THAT YtbnpdbldjchocaaProg.lean LOADS. Nothing in Lean hashes anything: it is a label: what it is worth is what the hold of that sum in a sandbox is worth. -/
noncomputable def Try.pinned : Pinned := { name := "ytbnpdbldjchocaa", sum := "44f00826d8229bf5ffe84b0a0b44a9b6c6ccc514155d63554b15a200bf8e6f72", checked := Try.checked }
namespace Rows
def none {H : Type} : Left H := { results := [], args := [] }

/-- 'trothlaw18.CompareLearns': WHATEVER THE INPUT: true; the input reads as it did. -/
def compareLearnsSpec : ChangeSpec := { name := "compareLearns", fn := fun _ => fun
  | [d1, d2] => { results := [.lit (.bool true)], args := [d1, d2] }
  | _ => none }
def compareLearnsRow : OpenClaim := { program := "ytbnpdbldjchocaa", sum := "44f00826d8229bf5ffe84b0a0b44a9b6c6ccc514155d63554b15a200bf8e6f72", func := "troth/trothlaw18.CompareLearns", spec := "compareLearns", apart := false }
def CompareLearnsSaid : Prop := compareLearnsRow.holds Try.pinned (OpenSpec.ofChange compareLearnsSpec)

/-- ITS FALSE NEIGHBOUR: 'it returns false'. Refute it at one input. -/
def compareLearnsWrong : ChangeSpec := { name := "compareLearns", fn := fun _ => fun
  | [d1, d2] => { results := [.lit (.bool false)], args := [d1, d2] }
  | _ => none }
def CompareLearnsWrongFalsely : Prop := compareLearnsRow.holds Try.pinned (OpenSpec.ofChange compareLearnsWrong)

/-- 'trothlaw18.CompareDamage': WHATEVER THE INPUT: true; the input reads as it did. -/
def compareDamageSpec : ChangeSpec := { name := "compareDamage", fn := fun _ => fun
  | [d1, d2] => { results := [.lit (.bool true)], args := [d1, d2] }
  | _ => none }
def compareDamageRow : OpenClaim := { program := "ytbnpdbldjchocaa", sum := "44f00826d8229bf5ffe84b0a0b44a9b6c6ccc514155d63554b15a200bf8e6f72", func := "troth/trothlaw18.CompareDamage", spec := "compareDamage", apart := false }
def CompareDamageSaid : Prop := compareDamageRow.holds Try.pinned (OpenSpec.ofChange compareDamageSpec)

/-- ITS FALSE NEIGHBOUR: 'it returns false'. Refute it at one input. -/
def compareDamageWrong : ChangeSpec := { name := "compareDamage", fn := fun _ => fun
  | [d1, d2] => { results := [.lit (.bool false)], args := [d1, d2] }
  | _ => none }
def CompareDamageWrongFalsely : Prop := compareDamageRow.holds Try.pinned (OpenSpec.ofChange compareDamageWrong)

/-- 'trothlaw18.CompareDecides': WHATEVER THE INPUT: true; the input reads as it did. -/
def compareDecidesSpec : ChangeSpec := { name := "compareDecides", fn := fun _ => fun
  | [d1, d2] => { results := [.lit (.bool true)], args := [d1, d2] }
  | _ => none }
def compareDecidesRow : OpenClaim := { program := "ytbnpdbldjchocaa", sum := "44f00826d8229bf5ffe84b0a0b44a9b6c6ccc514155d63554b15a200bf8e6f72", func := "troth/trothlaw18.CompareDecides", spec := "compareDecides", apart := false }
def CompareDecidesSaid : Prop := compareDecidesRow.holds Try.pinned (OpenSpec.ofChange compareDecidesSpec)

/-- ITS FALSE NEIGHBOUR: 'it returns false'. Refute it at one input. -/
def compareDecidesWrong : ChangeSpec := { name := "compareDecides", fn := fun _ => fun
  | [d1, d2] => { results := [.lit (.bool false)], args := [d1, d2] }
  | _ => none }
def CompareDecidesWrongFalsely : Prop := compareDecidesRow.holds Try.pinned (OpenSpec.ofChange compareDecidesWrong)

/-- 'trothlaw18.CompareAgain': WHATEVER THE INPUT: true; the input reads as it did. -/
def compareAgainSpec : ChangeSpec := { name := "compareAgain", fn := fun _ => fun
  | [d1, d2] => { results := [.lit (.bool true)], args := [d1, d2] }
  | _ => none }
def compareAgainRow : OpenClaim := { program := "ytbnpdbldjchocaa", sum := "44f00826d8229bf5ffe84b0a0b44a9b6c6ccc514155d63554b15a200bf8e6f72", func := "troth/trothlaw18.CompareAgain", spec := "compareAgain", apart := false }
def CompareAgainSaid : Prop := compareAgainRow.holds Try.pinned (OpenSpec.ofChange compareAgainSpec)

/-- ITS FALSE NEIGHBOUR: 'it returns false'. Refute it at one input. -/
def compareAgainWrong : ChangeSpec := { name := "compareAgain", fn := fun _ => fun
  | [d1, d2] => { results := [.lit (.bool false)], args := [d1, d2] }
  | _ => none }
def CompareAgainWrongFalsely : Prop := compareAgainRow.holds Try.pinned (OpenSpec.ofChange compareAgainWrong)

/-- 'trothlaw18.CompareAsked': WHATEVER THE INPUT: true; the input reads as it did. -/
def compareAskedSpec : ChangeSpec := { name := "compareAsked", fn := fun _ => fun
  | [d] => { results := [.lit (.bool true)], args := [d] }
  | _ => none }
def compareAskedRow : OpenClaim := { program := "ytbnpdbldjchocaa", sum := "44f00826d8229bf5ffe84b0a0b44a9b6c6ccc514155d63554b15a200bf8e6f72", func := "troth/trothlaw18.CompareAsked", spec := "compareAsked", apart := false }
def CompareAskedSaid : Prop := compareAskedRow.holds Try.pinned (OpenSpec.ofChange compareAskedSpec)

/-- ITS FALSE NEIGHBOUR: 'it returns false'. Refute it at one input. -/
def compareAskedWrong : ChangeSpec := { name := "compareAsked", fn := fun _ => fun
  | [d] => { results := [.lit (.bool false)], args := [d] }
  | _ => none }
def CompareAskedWrongFalsely : Prop := compareAskedRow.holds Try.pinned (OpenSpec.ofChange compareAskedWrong)

/-- 'trothlaw18.CompareHand': WHATEVER THE INPUT: true; the input reads as it did. -/
def compareHandSpec : ChangeSpec := { name := "compareHand", fn := fun _ => fun
  | [d1, d2, d3, d4] => { results := [.lit (.bool true)], args := [d1, d2, d3, d4] }
  | _ => none }
def compareHandRow : OpenClaim := { program := "ytbnpdbldjchocaa", sum := "44f00826d8229bf5ffe84b0a0b44a9b6c6ccc514155d63554b15a200bf8e6f72", func := "troth/trothlaw18.CompareHand", spec := "compareHand", apart := false }
def CompareHandSaid : Prop := compareHandRow.holds Try.pinned (OpenSpec.ofChange compareHandSpec)

/-- ITS FALSE NEIGHBOUR: 'it returns false'. Refute it at one input. -/
def compareHandWrong : ChangeSpec := { name := "compareHand", fn := fun _ => fun
  | [d1, d2, d3, d4] => { results := [.lit (.bool false)], args := [d1, d2, d3, d4] }
  | _ => none }
def CompareHandWrongFalsely : Prop := compareHandRow.holds Try.pinned (OpenSpec.ofChange compareHandWrong)

/- THE SECOND FORM. 'bulk': how many values and letters a reading holds, each counted each time it is reached (what is shared counts as often as it is met; a slice's spare places count too). A statement '..UptoSaid' is the law's where the arguments, and the package variables that the reading takes, are together of bulk at most 1048576: NARROWER than '..Said'. Prove '..Said' where nothing that the law and all that it calls make is longer than what came in: it says more and counts as full. Else prove '..UptoSaid'. A law counts once. -/
mutual
def uptoBulk {H : Type} : DataW H → Nat
  | .lit (.string bytes) => bytes.length + 1
  | .lit _ => 1
  | .nil => 1
  | .ptr d => uptoBulk d + 1
  | .slice elems spare => uptoBulkAll elems + uptoBulkAll spare + 1
  | .agg parts => uptoBulkAll parts + 1
  | .iface _ d => uptoBulk d + 1
  | .map entries => uptoBulkEntries entries + 1
  | .held _ => 1
def uptoBulkAll {H : Type} : List (DataW H) → Nat
  | [] => 0
  | d :: r => uptoBulk d + uptoBulkAll r
def uptoBulkEntries {H : Type} : List (Lit × DataW H) → Nat
  | [] => 0
  | x :: r => uptoBulkEntry x + uptoBulkEntries r
def uptoBulkEntry {H : Type} : Lit × DataW H → Nat
  | (.string bytes, d) => bytes.length + uptoBulk d + 1
  | (_, d) => uptoBulk d + 1
 end
def uptoSmall : (H : Type) → List (DataW H) → Bool := fun _ ds => decide (uptoBulkAll ds ≤ 1048576)
def OpenSpec.upto (s : _root_.Go.ChangeSpec) : _root_.Go.OpenSpec := { _root_.Go.OpenSpec.ofChange s with cond := some uptoSmall }

/-- 'trothlaw18.CompareLearns', WHERE WHAT IT READS IS OF BULK AT MOST 1048576: true; the input reads as it did. -/
def compareLearnsUptoRow : OpenClaim := { program := "ytbnpdbldjchocaa", sum := "44f00826d8229bf5ffe84b0a0b44a9b6c6ccc514155d63554b15a200bf8e6f72", func := "troth/trothlaw18.CompareLearns", spec := "compareLearns", apart := false, narrowed := true }
def CompareLearnsUptoSaid : Prop := compareLearnsUptoRow.holds Try.pinned (OpenSpec.upto compareLearnsSpec)

/-- 'trothlaw18.CompareDamage', WHERE WHAT IT READS IS OF BULK AT MOST 1048576: true; the input reads as it did. -/
def compareDamageUptoRow : OpenClaim := { program := "ytbnpdbldjchocaa", sum := "44f00826d8229bf5ffe84b0a0b44a9b6c6ccc514155d63554b15a200bf8e6f72", func := "troth/trothlaw18.CompareDamage", spec := "compareDamage", apart := false, narrowed := true }
def CompareDamageUptoSaid : Prop := compareDamageUptoRow.holds Try.pinned (OpenSpec.upto compareDamageSpec)

/-- 'trothlaw18.CompareDecides', WHERE WHAT IT READS IS OF BULK AT MOST 1048576: true; the input reads as it did. -/
def compareDecidesUptoRow : OpenClaim := { program := "ytbnpdbldjchocaa", sum := "44f00826d8229bf5ffe84b0a0b44a9b6c6ccc514155d63554b15a200bf8e6f72", func := "troth/trothlaw18.CompareDecides", spec := "compareDecides", apart := false, narrowed := true }
def CompareDecidesUptoSaid : Prop := compareDecidesUptoRow.holds Try.pinned (OpenSpec.upto compareDecidesSpec)

/-- 'trothlaw18.CompareAgain', WHERE WHAT IT READS IS OF BULK AT MOST 1048576: true; the input reads as it did. -/
def compareAgainUptoRow : OpenClaim := { program := "ytbnpdbldjchocaa", sum := "44f00826d8229bf5ffe84b0a0b44a9b6c6ccc514155d63554b15a200bf8e6f72", func := "troth/trothlaw18.CompareAgain", spec := "compareAgain", apart := false, narrowed := true }
def CompareAgainUptoSaid : Prop := compareAgainUptoRow.holds Try.pinned (OpenSpec.upto compareAgainSpec)

/-- 'trothlaw18.CompareAsked', WHERE WHAT IT READS IS OF BULK AT MOST 1048576: true; the input reads as it did. -/
def compareAskedUptoRow : OpenClaim := { program := "ytbnpdbldjchocaa", sum := "44f00826d8229bf5ffe84b0a0b44a9b6c6ccc514155d63554b15a200bf8e6f72", func := "troth/trothlaw18.CompareAsked", spec := "compareAsked", apart := false, narrowed := true }
def CompareAskedUptoSaid : Prop := compareAskedUptoRow.holds Try.pinned (OpenSpec.upto compareAskedSpec)

/-- 'trothlaw18.CompareHand', WHERE WHAT IT READS IS OF BULK AT MOST 1048576: true; the input reads as it did. -/
def compareHandUptoRow : OpenClaim := { program := "ytbnpdbldjchocaa", sum := "44f00826d8229bf5ffe84b0a0b44a9b6c6ccc514155d63554b15a200bf8e6f72", func := "troth/trothlaw18.CompareHand", spec := "compareHand", apart := false, narrowed := true }
def CompareHandUptoSaid : Prop := compareHandUptoRow.holds Try.pinned (OpenSpec.upto compareHandSpec)

end Rows
end Go.Proofs.Ytbnpdbldjchocaa
