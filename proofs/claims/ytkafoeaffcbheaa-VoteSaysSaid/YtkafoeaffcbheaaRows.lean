/-
  NARROWER THAN 'FOR EVERY INPUT', by the rows' own cells (each row's printed sentence says how): TopTold: loops · VoteOrder: loops · VoteFlows: loops · VoteSays: loops · VoteAll: loops · VoteLess: loops · VoteMore: loops.
  DERIVED. THE GIVEN ROWS OF THIS SEAT. 7 by the template 'for every input the law returns true; each argument reads behind the call as it read before'; 0 by the template 'total and deterministic' (their statements: YtkafoeaffcbheaaTotals.lean).
  GIVEN WITH THE SEED: the statements are not yours to turn. If you find one false, say at which input.
  Laid BY PROGRAM, IN A SANDBOX (cutbox-rows.mjs): the forced cells as the released guide's own fill.sh prints them over the translation d64cd08f4989f238… (all of the seat's roots in one cut). By AI agents, Wed Nov 11 2026. No macro, syntax, notation, axiom, sorry.
-/
import Derived.Test.YtkafoeaffcbheaaChecked
import GoSem.Claim
import GoSem.ClaimJoined
import GoSem.ClaimMapViews
import Derived.JoinedTies
import Derived.KernelRfl
namespace Go.Proofs.Ytkafoeaffcbheaa
/- THE CELL 'sum', in the pinned program and in every row, IS THE sha256 OF THE DUMP (.gsa) THAT YtkafoeaffcbheaaProg.lean LOADS. Nothing in Lean hashes anything: it is a label: what it is worth is what the hold of that sum in a sandbox is worth. -/
noncomputable def Try.pinned : Pinned := { name := "ytkafoeaffcbheaa", sum := "d64cd08f4989f2383ac4ed4958da0ee730fd8f2422af3119b66f4288a650f3ae", checked := Try.checked }
namespace Rows
def none {H : Type} : Left H := { results := [], args := [] }

/-- 'trothtop.TopTold': WHATEVER THE INPUT: true; the input reads as it did. -/
def topToldSpec : ChangeSpec := { name := "topTold", fn := fun _ => fun
  | [d1, d2] => { results := [.lit (.bool true)], args := [d1, d2] }
  | _ => none }
def topToldRow : OpenClaim := { program := "ytkafoeaffcbheaa", sum := "d64cd08f4989f2383ac4ed4958da0ee730fd8f2422af3119b66f4288a650f3ae", func := "troth/trothtop.TopTold", spec := "topTold", unfollowed := true, recurses := true, loops := true, apart := false }
def TopToldSaid : Prop := topToldRow.holds Try.pinned (OpenSpec.ofChange topToldSpec)

/-- ITS FALSE NEIGHBOUR: 'it returns false'. Refute it at one input. -/
def topToldWrong : ChangeSpec := { name := "topTold", fn := fun _ => fun
  | [d1, d2] => { results := [.lit (.bool false)], args := [d1, d2] }
  | _ => none }
def TopToldWrongFalsely : Prop := topToldRow.holds Try.pinned (OpenSpec.ofChange topToldWrong)

/-- 'trothlaw16.VoteOrder': WHATEVER THE INPUT: true; the input reads as it did. -/
def voteOrderSpec : ChangeSpec := { name := "voteOrder", fn := fun _ => fun
  | [d1, d2] => { results := [.lit (.bool true)], args := [d1, d2] }
  | _ => none }
def voteOrderRow : OpenClaim := { program := "ytkafoeaffcbheaa", sum := "d64cd08f4989f2383ac4ed4958da0ee730fd8f2422af3119b66f4288a650f3ae", func := "troth/trothlaw16.VoteOrder", spec := "voteOrder", unfollowed := true, recurses := true, loops := true, apart := false }
def VoteOrderSaid : Prop := voteOrderRow.holds Try.pinned (OpenSpec.ofChange voteOrderSpec)

/-- ITS FALSE NEIGHBOUR: 'it returns false'. Refute it at one input. -/
def voteOrderWrong : ChangeSpec := { name := "voteOrder", fn := fun _ => fun
  | [d1, d2] => { results := [.lit (.bool false)], args := [d1, d2] }
  | _ => none }
def VoteOrderWrongFalsely : Prop := voteOrderRow.holds Try.pinned (OpenSpec.ofChange voteOrderWrong)

/-- 'trothlaw16.VoteFlows': WHATEVER THE INPUT: true; the input reads as it did. -/
def voteFlowsSpec : ChangeSpec := { name := "voteFlows", fn := fun _ => fun
  | [d] => { results := [.lit (.bool true)], args := [d] }
  | _ => none }
def voteFlowsRow : OpenClaim := { program := "ytkafoeaffcbheaa", sum := "d64cd08f4989f2383ac4ed4958da0ee730fd8f2422af3119b66f4288a650f3ae", func := "troth/trothlaw16.VoteFlows", spec := "voteFlows", unfollowed := true, recurses := true, loops := true, apart := false }
def VoteFlowsSaid : Prop := voteFlowsRow.holds Try.pinned (OpenSpec.ofChange voteFlowsSpec)

/-- ITS FALSE NEIGHBOUR: 'it returns false'. Refute it at one input. -/
def voteFlowsWrong : ChangeSpec := { name := "voteFlows", fn := fun _ => fun
  | [d] => { results := [.lit (.bool false)], args := [d] }
  | _ => none }
def VoteFlowsWrongFalsely : Prop := voteFlowsRow.holds Try.pinned (OpenSpec.ofChange voteFlowsWrong)

/-- 'trothlaw16.VoteSays': WHATEVER THE INPUT: true; the input reads as it did. -/
def voteSaysSpec : ChangeSpec := { name := "voteSays", fn := fun _ => fun
  | [d1, d2] => { results := [.lit (.bool true)], args := [d1, d2] }
  | _ => none }
def voteSaysRow : OpenClaim := { program := "ytkafoeaffcbheaa", sum := "d64cd08f4989f2383ac4ed4958da0ee730fd8f2422af3119b66f4288a650f3ae", func := "troth/trothlaw16.VoteSays", spec := "voteSays", unfollowed := true, recurses := true, loops := true, apart := false }
def VoteSaysSaid : Prop := voteSaysRow.holds Try.pinned (OpenSpec.ofChange voteSaysSpec)

/-- ITS FALSE NEIGHBOUR: 'it returns false'. Refute it at one input. -/
def voteSaysWrong : ChangeSpec := { name := "voteSays", fn := fun _ => fun
  | [d1, d2] => { results := [.lit (.bool false)], args := [d1, d2] }
  | _ => none }
def VoteSaysWrongFalsely : Prop := voteSaysRow.holds Try.pinned (OpenSpec.ofChange voteSaysWrong)

/-- 'trothlaw16.VoteAll': WHATEVER THE INPUT: true; the input reads as it did. -/
def voteAllSpec : ChangeSpec := { name := "voteAll", fn := fun _ => fun
  | [d] => { results := [.lit (.bool true)], args := [d] }
  | _ => none }
def voteAllRow : OpenClaim := { program := "ytkafoeaffcbheaa", sum := "d64cd08f4989f2383ac4ed4958da0ee730fd8f2422af3119b66f4288a650f3ae", func := "troth/trothlaw16.VoteAll", spec := "voteAll", unfollowed := true, recurses := true, loops := true, apart := false }
def VoteAllSaid : Prop := voteAllRow.holds Try.pinned (OpenSpec.ofChange voteAllSpec)

/-- ITS FALSE NEIGHBOUR: 'it returns false'. Refute it at one input. -/
def voteAllWrong : ChangeSpec := { name := "voteAll", fn := fun _ => fun
  | [d] => { results := [.lit (.bool false)], args := [d] }
  | _ => none }
def VoteAllWrongFalsely : Prop := voteAllRow.holds Try.pinned (OpenSpec.ofChange voteAllWrong)

/-- 'trothlaw16.VoteLess': WHATEVER THE INPUT: true; the input reads as it did. -/
def voteLessSpec : ChangeSpec := { name := "voteLess", fn := fun _ => fun
  | [d1, d2] => { results := [.lit (.bool true)], args := [d1, d2] }
  | _ => none }
def voteLessRow : OpenClaim := { program := "ytkafoeaffcbheaa", sum := "d64cd08f4989f2383ac4ed4958da0ee730fd8f2422af3119b66f4288a650f3ae", func := "troth/trothlaw16.VoteLess", spec := "voteLess", unfollowed := true, recurses := true, loops := true, apart := false }
def VoteLessSaid : Prop := voteLessRow.holds Try.pinned (OpenSpec.ofChange voteLessSpec)

/-- ITS FALSE NEIGHBOUR: 'it returns false'. Refute it at one input. -/
def voteLessWrong : ChangeSpec := { name := "voteLess", fn := fun _ => fun
  | [d1, d2] => { results := [.lit (.bool false)], args := [d1, d2] }
  | _ => none }
def VoteLessWrongFalsely : Prop := voteLessRow.holds Try.pinned (OpenSpec.ofChange voteLessWrong)

/-- 'trothlaw16.VoteMore': WHATEVER THE INPUT: true; the input reads as it did. -/
def voteMoreSpec : ChangeSpec := { name := "voteMore", fn := fun _ => fun
  | [d] => { results := [.lit (.bool true)], args := [d] }
  | _ => none }
def voteMoreRow : OpenClaim := { program := "ytkafoeaffcbheaa", sum := "d64cd08f4989f2383ac4ed4958da0ee730fd8f2422af3119b66f4288a650f3ae", func := "troth/trothlaw16.VoteMore", spec := "voteMore", unfollowed := true, recurses := true, loops := true, apart := false }
def VoteMoreSaid : Prop := voteMoreRow.holds Try.pinned (OpenSpec.ofChange voteMoreSpec)

/-- ITS FALSE NEIGHBOUR: 'it returns false'. Refute it at one input. -/
def voteMoreWrong : ChangeSpec := { name := "voteMore", fn := fun _ => fun
  | [d] => { results := [.lit (.bool false)], args := [d] }
  | _ => none }
def VoteMoreWrongFalsely : Prop := voteMoreRow.holds Try.pinned (OpenSpec.ofChange voteMoreWrong)

/- THE SECOND FORM. 'bulk': how many values and letters a reading holds, each counted each time it is reached (what is shared counts as often as it is met; a slice's spare places count too). A statement '..UptoSaid' is the law's where the arguments, and the package variables that the reading takes, are together of bulk at most 1048576: NARROWER than '..Said'. Prove '..Said' where nothing that the law and all that it calls make is longer than what came in: it says more and counts as full. Else prove '..UptoSaid'. A law counts once. -/
mutual
def uptoBulk {H : Type} : DataW H → Nat
  | .lit (.string bytes) => bytes.length + 1
  | .lit _ => 1
  | .nil => 1
  | .ptr d => uptoBulk d + 1
  | .slice elems spare => uptoBulkAll elems + uptoBulkAll spare + 1
  | .agg parts => uptoBulkAll parts + 1
  | .iface _ d => uptoBulk d + 1
  | .map entries => uptoBulkEntries entries + 1
  | .held _ => 1
def uptoBulkAll {H : Type} : List (DataW H) → Nat
  | [] => 0
  | d :: r => uptoBulk d + uptoBulkAll r
def uptoBulkEntries {H : Type} : List (Lit × DataW H) → Nat
  | [] => 0
  | x :: r => uptoBulkEntry x + uptoBulkEntries r
def uptoBulkEntry {H : Type} : Lit × DataW H → Nat
  | (.string bytes, d) => bytes.length + uptoBulk d + 1
  | (_, d) => uptoBulk d + 1
 end
def uptoSmall : (H : Type) → List (DataW H) → Bool := fun _ ds => decide (uptoBulkAll ds ≤ 1048576)
def OpenSpec.upto (s : _root_.Go.ChangeSpec) : _root_.Go.OpenSpec := { _root_.Go.OpenSpec.ofChange s with cond := some uptoSmall }

/-- 'trothtop.TopTold', WHERE WHAT IT READS IS OF BULK AT MOST 1048576: true; the input reads as it did. -/
def topToldUptoRow : OpenClaim := { program := "ytkafoeaffcbheaa", sum := "d64cd08f4989f2383ac4ed4958da0ee730fd8f2422af3119b66f4288a650f3ae", func := "troth/trothtop.TopTold", spec := "topTold", unfollowed := true, recurses := true, loops := true, apart := false, narrowed := true }
def TopToldUptoSaid : Prop := topToldUptoRow.holds Try.pinned (OpenSpec.upto topToldSpec)

/-- 'trothlaw16.VoteOrder', WHERE WHAT IT READS IS OF BULK AT MOST 1048576: true; the input reads as it did. -/
def voteOrderUptoRow : OpenClaim := { program := "ytkafoeaffcbheaa", sum := "d64cd08f4989f2383ac4ed4958da0ee730fd8f2422af3119b66f4288a650f3ae", func := "troth/trothlaw16.VoteOrder", spec := "voteOrder", unfollowed := true, recurses := true, loops := true, apart := false, narrowed := true }
def VoteOrderUptoSaid : Prop := voteOrderUptoRow.holds Try.pinned (OpenSpec.upto voteOrderSpec)

/-- 'trothlaw16.VoteFlows', WHERE WHAT IT READS IS OF BULK AT MOST 1048576: true; the input reads as it did. -/
def voteFlowsUptoRow : OpenClaim := { program := "ytkafoeaffcbheaa", sum := "d64cd08f4989f2383ac4ed4958da0ee730fd8f2422af3119b66f4288a650f3ae", func := "troth/trothlaw16.VoteFlows", spec := "voteFlows", unfollowed := true, recurses := true, loops := true, apart := false, narrowed := true }
def VoteFlowsUptoSaid : Prop := voteFlowsUptoRow.holds Try.pinned (OpenSpec.upto voteFlowsSpec)

/-- 'trothlaw16.VoteSays', WHERE WHAT IT READS IS OF BULK AT MOST 1048576: true; the input reads as it did. -/
def voteSaysUptoRow : OpenClaim := { program := "ytkafoeaffcbheaa", sum := "d64cd08f4989f2383ac4ed4958da0ee730fd8f2422af3119b66f4288a650f3ae", func := "troth/trothlaw16.VoteSays", spec := "voteSays", unfollowed := true, recurses := true, loops := true, apart := false, narrowed := true }
def VoteSaysUptoSaid : Prop := voteSaysUptoRow.holds Try.pinned (OpenSpec.upto voteSaysSpec)

/-- 'trothlaw16.VoteAll', WHERE WHAT IT READS IS OF BULK AT MOST 1048576: true; the input reads as it did. -/
def voteAllUptoRow : OpenClaim := { program := "ytkafoeaffcbheaa", sum := "d64cd08f4989f2383ac4ed4958da0ee730fd8f2422af3119b66f4288a650f3ae", func := "troth/trothlaw16.VoteAll", spec := "voteAll", unfollowed := true, recurses := true, loops := true, apart := false, narrowed := true }
def VoteAllUptoSaid : Prop := voteAllUptoRow.holds Try.pinned (OpenSpec.upto voteAllSpec)

/-- 'trothlaw16.VoteLess', WHERE WHAT IT READS IS OF BULK AT MOST 1048576: true; the input reads as it did. -/
def voteLessUptoRow : OpenClaim := { program := "ytkafoeaffcbheaa", sum := "d64cd08f4989f2383ac4ed4958da0ee730fd8f2422af3119b66f4288a650f3ae", func := "troth/trothlaw16.VoteLess", spec := "voteLess", unfollowed := true, recurses := true, loops := true, apart := false, narrowed := true }
def VoteLessUptoSaid : Prop := voteLessUptoRow.holds Try.pinned (OpenSpec.upto voteLessSpec)

/-- 'trothlaw16.VoteMore', WHERE WHAT IT READS IS OF BULK AT MOST 1048576: true; the input reads as it did. -/
def voteMoreUptoRow : OpenClaim := { program := "ytkafoeaffcbheaa", sum := "d64cd08f4989f2383ac4ed4958da0ee730fd8f2422af3119b66f4288a650f3ae", func := "troth/trothlaw16.VoteMore", spec := "voteMore", unfollowed := true, recurses := true, loops := true, apart := false, narrowed := true }
def VoteMoreUptoSaid : Prop := voteMoreUptoRow.holds Try.pinned (OpenSpec.upto voteMoreSpec)

end Rows
end Go.Proofs.Ytkafoeaffcbheaa
