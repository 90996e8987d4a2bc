/-
  No cell of these rows narrows 'for every input' (looked for: loops, veiled, ifaces, maps, wideKeys, modest, calm, conditions, laid).
  DERIVED. THE GIVEN ROWS OF THIS SEAT. 7 by the template 'for every input the law returns true; each argument reads behind the call as it read before'; 0 by the template 'total and deterministic' (their statements: YthfgnaplfglggaaTotals.lean).
  GIVEN WITH THE SEED: the statements are not yours to turn. If you find one false, say at which input.
  Laid BY PROGRAM, IN A SANDBOX (cutbox-rows.mjs): the forced cells as the released guide's own fill.sh prints them over the translation 457d4ed15eb303dc… (all of the seat's roots in one cut). By AI agents, Wed Nov 11 2026. No macro, syntax, notation, axiom, sorry.
-/
import Derived.Test.YthfgnaplfglggaaChecked
import GoSem.Claim
import GoSem.ClaimJoined
import GoSem.ClaimMapViews
import Derived.JoinedTies
import Derived.KernelRfl
namespace Go.Proofs.Ythfgnaplfglggaa
/- THE CELL 'sum', in the pinned program and in every row, IS THE sha256 OF THE DUMP (.gsa) THAT YthfgnaplfglggaaProg.lean LOADS. Nothing in Lean hashes anything: it is a label: what it is worth is what the hold of that sum in a sandbox is worth. -/
noncomputable def Try.pinned : Pinned := { name := "ythfgnaplfglggaa", sum := "457d4ed15eb303dcf84370e2a94772b3b6091752763e038293d8005efe4b02f1", checked := Try.checked }
namespace Rows
def none {H : Type} : Left H := { results := [], args := [] }

/-- 'trothlaw17.NamesFinds': WHATEVER THE INPUT: true; the input reads as it did. -/
def namesFindsSpec : ChangeSpec := { name := "namesFinds", fn := fun _ => fun
  | [d1, d2, d3, d4, d5, d6] => { results := [.lit (.bool true)], args := [d1, d2, d3, d4, d5, d6] }
  | _ => none }
def namesFindsRow : OpenClaim := { program := "ythfgnaplfglggaa", sum := "457d4ed15eb303dcf84370e2a94772b3b6091752763e038293d8005efe4b02f1", func := "troth/trothlaw17.NamesFinds", spec := "namesFinds", apart := false }
def NamesFindsSaid : Prop := namesFindsRow.holds Try.pinned (OpenSpec.ofChange namesFindsSpec)

/-- ITS FALSE NEIGHBOUR: 'it returns false'. Refute it at one input. -/
def namesFindsWrong : ChangeSpec := { name := "namesFinds", fn := fun _ => fun
  | [d1, d2, d3, d4, d5, d6] => { results := [.lit (.bool false)], args := [d1, d2, d3, d4, d5, d6] }
  | _ => none }
def NamesFindsWrongFalsely : Prop := namesFindsRow.holds Try.pinned (OpenSpec.ofChange namesFindsWrong)

/-- 'trothlaw17.NamesNew': WHATEVER THE INPUT: true; the input reads as it did. -/
def namesNewSpec : ChangeSpec := { name := "namesNew", fn := fun _ => fun
  | [d1, d2, d3] => { results := [.lit (.bool true)], args := [d1, d2, d3] }
  | _ => none }
def namesNewRow : OpenClaim := { program := "ythfgnaplfglggaa", sum := "457d4ed15eb303dcf84370e2a94772b3b6091752763e038293d8005efe4b02f1", func := "troth/trothlaw17.NamesNew", spec := "namesNew", apart := false }
def NamesNewSaid : Prop := namesNewRow.holds Try.pinned (OpenSpec.ofChange namesNewSpec)

/-- ITS FALSE NEIGHBOUR: 'it returns false'. Refute it at one input. -/
def namesNewWrong : ChangeSpec := { name := "namesNew", fn := fun _ => fun
  | [d1, d2, d3] => { results := [.lit (.bool false)], args := [d1, d2, d3] }
  | _ => none }
def NamesNewWrongFalsely : Prop := namesNewRow.holds Try.pinned (OpenSpec.ofChange namesNewWrong)

/-- 'trothlaw17.NamesBoth': WHATEVER THE INPUT: true; the input reads as it did. -/
def namesBothSpec : ChangeSpec := { name := "namesBoth", fn := fun _ => fun
  | [d1, d2] => { results := [.lit (.bool true)], args := [d1, d2] }
  | _ => none }
def namesBothRow : OpenClaim := { program := "ythfgnaplfglggaa", sum := "457d4ed15eb303dcf84370e2a94772b3b6091752763e038293d8005efe4b02f1", func := "troth/trothlaw17.NamesBoth", spec := "namesBoth", apart := false }
def NamesBothSaid : Prop := namesBothRow.holds Try.pinned (OpenSpec.ofChange namesBothSpec)

/-- ITS FALSE NEIGHBOUR: 'it returns false'. Refute it at one input. -/
def namesBothWrong : ChangeSpec := { name := "namesBoth", fn := fun _ => fun
  | [d1, d2] => { results := [.lit (.bool false)], args := [d1, d2] }
  | _ => none }
def NamesBothWrongFalsely : Prop := namesBothRow.holds Try.pinned (OpenSpec.ofChange namesBothWrong)

/-- 'trothlaw17.NamesCold': WHATEVER THE INPUT: true; the input reads as it did. -/
def namesColdSpec : ChangeSpec := { name := "namesCold", fn := fun _ => fun
  | [d1, d2, d3, d4] => { results := [.lit (.bool true)], args := [d1, d2, d3, d4] }
  | _ => none }
def namesColdRow : OpenClaim := { program := "ythfgnaplfglggaa", sum := "457d4ed15eb303dcf84370e2a94772b3b6091752763e038293d8005efe4b02f1", func := "troth/trothlaw17.NamesCold", spec := "namesCold", apart := false }
def NamesColdSaid : Prop := namesColdRow.holds Try.pinned (OpenSpec.ofChange namesColdSpec)

/-- ITS FALSE NEIGHBOUR: 'it returns false'. Refute it at one input. -/
def namesColdWrong : ChangeSpec := { name := "namesCold", fn := fun _ => fun
  | [d1, d2, d3, d4] => { results := [.lit (.bool false)], args := [d1, d2, d3, d4] }
  | _ => none }
def NamesColdWrongFalsely : Prop := namesColdRow.holds Try.pinned (OpenSpec.ofChange namesColdWrong)

/-- 'trothlaw17.NamesNext': WHATEVER THE INPUT: true; the input reads as it did. -/
def namesNextSpec : ChangeSpec := { name := "namesNext", fn := fun _ => fun
  | [d1, d2, d3, d4] => { results := [.lit (.bool true)], args := [d1, d2, d3, d4] }
  | _ => none }
def namesNextRow : OpenClaim := { program := "ythfgnaplfglggaa", sum := "457d4ed15eb303dcf84370e2a94772b3b6091752763e038293d8005efe4b02f1", func := "troth/trothlaw17.NamesNext", spec := "namesNext", apart := false }
def NamesNextSaid : Prop := namesNextRow.holds Try.pinned (OpenSpec.ofChange namesNextSpec)

/-- ITS FALSE NEIGHBOUR: 'it returns false'. Refute it at one input. -/
def namesNextWrong : ChangeSpec := { name := "namesNext", fn := fun _ => fun
  | [d1, d2, d3, d4] => { results := [.lit (.bool false)], args := [d1, d2, d3, d4] }
  | _ => none }
def NamesNextWrongFalsely : Prop := namesNextRow.holds Try.pinned (OpenSpec.ofChange namesNextWrong)

/-- 'trothlaw17.NamesTurned': WHATEVER THE INPUT: true; the input reads as it did. -/
def namesTurnedSpec : ChangeSpec := { name := "namesTurned", fn := fun _ => fun
  | [d1, d2] => { results := [.lit (.bool true)], args := [d1, d2] }
  | _ => none }
def namesTurnedRow : OpenClaim := { program := "ythfgnaplfglggaa", sum := "457d4ed15eb303dcf84370e2a94772b3b6091752763e038293d8005efe4b02f1", func := "troth/trothlaw17.NamesTurned", spec := "namesTurned", apart := false }
def NamesTurnedSaid : Prop := namesTurnedRow.holds Try.pinned (OpenSpec.ofChange namesTurnedSpec)

/-- ITS FALSE NEIGHBOUR: 'it returns false'. Refute it at one input. -/
def namesTurnedWrong : ChangeSpec := { name := "namesTurned", fn := fun _ => fun
  | [d1, d2] => { results := [.lit (.bool false)], args := [d1, d2] }
  | _ => none }
def NamesTurnedWrongFalsely : Prop := namesTurnedRow.holds Try.pinned (OpenSpec.ofChange namesTurnedWrong)

/-- 'trothtop.TopChain': WHATEVER THE INPUT: true; the input reads as it did. -/
def topChainSpec : ChangeSpec := { name := "topChain", fn := fun _ => fun
  | [d] => { results := [.lit (.bool true)], args := [d] }
  | _ => none }
def topChainRow : OpenClaim := { program := "ythfgnaplfglggaa", sum := "457d4ed15eb303dcf84370e2a94772b3b6091752763e038293d8005efe4b02f1", func := "troth/trothtop.TopChain", spec := "topChain", unfollowed := true, recurses := true, apart := false }
def TopChainSaid : Prop := topChainRow.holds Try.pinned (OpenSpec.ofChange topChainSpec)

/-- ITS FALSE NEIGHBOUR: 'it returns false'. Refute it at one input. -/
def topChainWrong : ChangeSpec := { name := "topChain", fn := fun _ => fun
  | [d] => { results := [.lit (.bool false)], args := [d] }
  | _ => none }
def TopChainWrongFalsely : Prop := topChainRow.holds Try.pinned (OpenSpec.ofChange topChainWrong)

/- THE SECOND FORM. 'bulk': how many values and letters a reading holds, each counted each time it is reached (what is shared counts as often as it is met; a slice's spare places count too). A statement '..UptoSaid' is the law's where the arguments, and the package variables that the reading takes, are together of bulk at most 1048576: NARROWER than '..Said'. Prove '..Said' where nothing that the law and all that it calls make is longer than what came in: it says more and counts as full. Else prove '..UptoSaid'. A law counts once. -/
mutual
def uptoBulk {H : Type} : DataW H → Nat
  | .lit (.string bytes) => bytes.length + 1
  | .lit _ => 1
  | .nil => 1
  | .ptr d => uptoBulk d + 1
  | .slice elems spare => uptoBulkAll elems + uptoBulkAll spare + 1
  | .agg parts => uptoBulkAll parts + 1
  | .iface _ d => uptoBulk d + 1
  | .map entries => uptoBulkEntries entries + 1
  | .held _ => 1
def uptoBulkAll {H : Type} : List (DataW H) → Nat
  | [] => 0
  | d :: r => uptoBulk d + uptoBulkAll r
def uptoBulkEntries {H : Type} : List (Lit × DataW H) → Nat
  | [] => 0
  | x :: r => uptoBulkEntry x + uptoBulkEntries r
def uptoBulkEntry {H : Type} : Lit × DataW H → Nat
  | (.string bytes, d) => bytes.length + uptoBulk d + 1
  | (_, d) => uptoBulk d + 1
 end
def uptoSmall : (H : Type) → List (DataW H) → Bool := fun _ ds => decide (uptoBulkAll ds ≤ 1048576)
def OpenSpec.upto (s : _root_.Go.ChangeSpec) : _root_.Go.OpenSpec := { _root_.Go.OpenSpec.ofChange s with cond := some uptoSmall }

/-- 'trothlaw17.NamesFinds', WHERE WHAT IT READS IS OF BULK AT MOST 1048576: true; the input reads as it did. -/
def namesFindsUptoRow : OpenClaim := { program := "ythfgnaplfglggaa", sum := "457d4ed15eb303dcf84370e2a94772b3b6091752763e038293d8005efe4b02f1", func := "troth/trothlaw17.NamesFinds", spec := "namesFinds", apart := false, narrowed := true }
def NamesFindsUptoSaid : Prop := namesFindsUptoRow.holds Try.pinned (OpenSpec.upto namesFindsSpec)

/-- 'trothlaw17.NamesNew', WHERE WHAT IT READS IS OF BULK AT MOST 1048576: true; the input reads as it did. -/
def namesNewUptoRow : OpenClaim := { program := "ythfgnaplfglggaa", sum := "457d4ed15eb303dcf84370e2a94772b3b6091752763e038293d8005efe4b02f1", func := "troth/trothlaw17.NamesNew", spec := "namesNew", apart := false, narrowed := true }
def NamesNewUptoSaid : Prop := namesNewUptoRow.holds Try.pinned (OpenSpec.upto namesNewSpec)

/-- 'trothlaw17.NamesBoth', WHERE WHAT IT READS IS OF BULK AT MOST 1048576: true; the input reads as it did. -/
def namesBothUptoRow : OpenClaim := { program := "ythfgnaplfglggaa", sum := "457d4ed15eb303dcf84370e2a94772b3b6091752763e038293d8005efe4b02f1", func := "troth/trothlaw17.NamesBoth", spec := "namesBoth", apart := false, narrowed := true }
def NamesBothUptoSaid : Prop := namesBothUptoRow.holds Try.pinned (OpenSpec.upto namesBothSpec)

/-- 'trothlaw17.NamesCold', WHERE WHAT IT READS IS OF BULK AT MOST 1048576: true; the input reads as it did. -/
def namesColdUptoRow : OpenClaim := { program := "ythfgnaplfglggaa", sum := "457d4ed15eb303dcf84370e2a94772b3b6091752763e038293d8005efe4b02f1", func := "troth/trothlaw17.NamesCold", spec := "namesCold", apart := false, narrowed := true }
def NamesColdUptoSaid : Prop := namesColdUptoRow.holds Try.pinned (OpenSpec.upto namesColdSpec)

/-- 'trothlaw17.NamesNext', WHERE WHAT IT READS IS OF BULK AT MOST 1048576: true; the input reads as it did. -/
def namesNextUptoRow : OpenClaim := { program := "ythfgnaplfglggaa", sum := "457d4ed15eb303dcf84370e2a94772b3b6091752763e038293d8005efe4b02f1", func := "troth/trothlaw17.NamesNext", spec := "namesNext", apart := false, narrowed := true }
def NamesNextUptoSaid : Prop := namesNextUptoRow.holds Try.pinned (OpenSpec.upto namesNextSpec)

/-- 'trothlaw17.NamesTurned', WHERE WHAT IT READS IS OF BULK AT MOST 1048576: true; the input reads as it did. -/
def namesTurnedUptoRow : OpenClaim := { program := "ythfgnaplfglggaa", sum := "457d4ed15eb303dcf84370e2a94772b3b6091752763e038293d8005efe4b02f1", func := "troth/trothlaw17.NamesTurned", spec := "namesTurned", apart := false, narrowed := true }
def NamesTurnedUptoSaid : Prop := namesTurnedUptoRow.holds Try.pinned (OpenSpec.upto namesTurnedSpec)

/-- 'trothtop.TopChain', WHERE WHAT IT READS IS OF BULK AT MOST 1048576: true; the input reads as it did. -/
def topChainUptoRow : OpenClaim := { program := "ythfgnaplfglggaa", sum := "457d4ed15eb303dcf84370e2a94772b3b6091752763e038293d8005efe4b02f1", func := "troth/trothtop.TopChain", spec := "topChain", unfollowed := true, recurses := true, apart := false, narrowed := true }
def TopChainUptoSaid : Prop := topChainUptoRow.holds Try.pinned (OpenSpec.upto topChainSpec)

end Rows
end Go.Proofs.Ythfgnaplfglggaa
