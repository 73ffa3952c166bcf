/-
  No cell of these rows narrows 'for every input' (looked for: loops, veiled, ifaces, maps, wideKeys, modest, calm, conditions, laid).
  DERIVED. THE GIVEN ROWS OF THIS SEAT. 6 by the template 'for every input the law returns true; each argument reads behind the call as it read before'; 0 by the template 'total and deterministic' (their statements: YtmchbciofdokfaaTotals.lean).
  GIVEN WITH THE SEED: the statements are not yours to turn. If you find one false, say at which input.
  Laid BY PROGRAM, IN A SANDBOX (cutbox-rows.mjs): the forced cells as the released guide's own fill.sh prints them over the translation 63977f9db1396aed… (all of the seat's roots in one cut). By AI agents, Wed Nov 11 2026. No macro, syntax, notation, axiom, sorry.
-/
import Derived.Test.YtmchbciofdokfaaChecked
import GoSem.Claim
import GoSem.ClaimJoined
import GoSem.ClaimMapViews
import Derived.JoinedTies
import Derived.KernelRfl
namespace Go.Proofs.Ytmchbciofdokfaa
/- THE CELL 'sum', in the pinned program and in every row, IS THE sha256 OF THE DUMP (.gsa) THAT YtmchbciofdokfaaProg.lean LOADS. Nothing in Lean hashes anything: it is a label: what it is worth is what the hold of that sum in a sandbox is worth. -/
noncomputable def Try.pinned : Pinned := { name := "ytmchbciofdokfaa", sum := "63977f9db1396aed6c53c357501bba061865e9253b6e6bce1974546a392d2e74", checked := Try.checked }
namespace Rows
def none {H : Type} : Left H := { results := [], args := [] }

/-- 'progenylaw06.ReplayRestarts': WHATEVER THE INPUT: true; the input reads as it did. -/
def replayRestartsSpec : ChangeSpec := { name := "replayRestarts", fn := fun _ => fun
  | [d] => { results := [.lit (.bool true)], args := [d] }
  | _ => none }
def replayRestartsRow : OpenClaim := { program := "ytmchbciofdokfaa", sum := "63977f9db1396aed6c53c357501bba061865e9253b6e6bce1974546a392d2e74", func := "progeny/progenylaw06.ReplayRestarts", spec := "replayRestarts", unfollowed := true, recurses := true, apart := false }
def ReplayRestartsSaid : Prop := replayRestartsRow.holds Try.pinned (OpenSpec.ofChange replayRestartsSpec)

/-- ITS FALSE NEIGHBOUR: 'it returns false'. Refute it at one input. -/
def replayRestartsWrong : ChangeSpec := { name := "replayRestarts", fn := fun _ => fun
  | [d] => { results := [.lit (.bool false)], args := [d] }
  | _ => none }
def ReplayRestartsWrongFalsely : Prop := replayRestartsRow.holds Try.pinned (OpenSpec.ofChange replayRestartsWrong)

/-- 'progenylaw06.ReplayOn': WHATEVER THE INPUT: true; the input reads as it did. -/
def replayOnSpec : ChangeSpec := { name := "replayOn", fn := fun _ => fun
  | [d1, d2] => { results := [.lit (.bool true)], args := [d1, d2] }
  | _ => none }
def replayOnRow : OpenClaim := { program := "ytmchbciofdokfaa", sum := "63977f9db1396aed6c53c357501bba061865e9253b6e6bce1974546a392d2e74", func := "progeny/progenylaw06.ReplayOn", spec := "replayOn", unfollowed := true, recurses := true, apart := false }
def ReplayOnSaid : Prop := replayOnRow.holds Try.pinned (OpenSpec.ofChange replayOnSpec)

/-- ITS FALSE NEIGHBOUR: 'it returns false'. Refute it at one input. -/
def replayOnWrong : ChangeSpec := { name := "replayOn", fn := fun _ => fun
  | [d1, d2] => { results := [.lit (.bool false)], args := [d1, d2] }
  | _ => none }
def ReplayOnWrongFalsely : Prop := replayOnRow.holds Try.pinned (OpenSpec.ofChange replayOnWrong)

/-- 'progenylaw06.ReplayPages': WHATEVER THE INPUT: true; the input reads as it did. -/
def replayPagesSpec : ChangeSpec := { name := "replayPages", fn := fun _ => fun
  | [d1, d2] => { results := [.lit (.bool true)], args := [d1, d2] }
  | _ => none }
def replayPagesRow : OpenClaim := { program := "ytmchbciofdokfaa", sum := "63977f9db1396aed6c53c357501bba061865e9253b6e6bce1974546a392d2e74", func := "progeny/progenylaw06.ReplayPages", spec := "replayPages", unfollowed := true, recurses := true, apart := false }
def ReplayPagesSaid : Prop := replayPagesRow.holds Try.pinned (OpenSpec.ofChange replayPagesSpec)

/-- ITS FALSE NEIGHBOUR: 'it returns false'. Refute it at one input. -/
def replayPagesWrong : ChangeSpec := { name := "replayPages", fn := fun _ => fun
  | [d1, d2] => { results := [.lit (.bool false)], args := [d1, d2] }
  | _ => none }
def ReplayPagesWrongFalsely : Prop := replayPagesRow.holds Try.pinned (OpenSpec.ofChange replayPagesWrong)

/-- 'progenylaw06.ReplayAgain': WHATEVER THE INPUT: true; the input reads as it did. -/
def replayAgainSpec : ChangeSpec := { name := "replayAgain", fn := fun _ => fun
  | [d1, d2] => { results := [.lit (.bool true)], args := [d1, d2] }
  | _ => none }
def replayAgainRow : OpenClaim := { program := "ytmchbciofdokfaa", sum := "63977f9db1396aed6c53c357501bba061865e9253b6e6bce1974546a392d2e74", func := "progeny/progenylaw06.ReplayAgain", spec := "replayAgain", unfollowed := true, recurses := true, apart := false }
def ReplayAgainSaid : Prop := replayAgainRow.holds Try.pinned (OpenSpec.ofChange replayAgainSpec)

/-- ITS FALSE NEIGHBOUR: 'it returns false'. Refute it at one input. -/
def replayAgainWrong : ChangeSpec := { name := "replayAgain", fn := fun _ => fun
  | [d1, d2] => { results := [.lit (.bool false)], args := [d1, d2] }
  | _ => none }
def ReplayAgainWrongFalsely : Prop := replayAgainRow.holds Try.pinned (OpenSpec.ofChange replayAgainWrong)

/-- 'progenylaw06.ReplayEnds': WHATEVER THE INPUT: true; the input reads as it did. -/
def replayEndsSpec : ChangeSpec := { name := "replayEnds", fn := fun _ => fun
  | [d1, d2] => { results := [.lit (.bool true)], args := [d1, d2] }
  | _ => none }
def replayEndsRow : OpenClaim := { program := "ytmchbciofdokfaa", sum := "63977f9db1396aed6c53c357501bba061865e9253b6e6bce1974546a392d2e74", func := "progeny/progenylaw06.ReplayEnds", spec := "replayEnds", unfollowed := true, recurses := true, apart := false }
def ReplayEndsSaid : Prop := replayEndsRow.holds Try.pinned (OpenSpec.ofChange replayEndsSpec)

/-- ITS FALSE NEIGHBOUR: 'it returns false'. Refute it at one input. -/
def replayEndsWrong : ChangeSpec := { name := "replayEnds", fn := fun _ => fun
  | [d1, d2] => { results := [.lit (.bool false)], args := [d1, d2] }
  | _ => none }
def ReplayEndsWrongFalsely : Prop := replayEndsRow.holds Try.pinned (OpenSpec.ofChange replayEndsWrong)

/-- 'progenylaw06.ReplayMarks': WHATEVER THE INPUT: true; the input reads as it did. -/
def replayMarksSpec : ChangeSpec := { name := "replayMarks", fn := fun _ => fun
  | [d1, d2] => { results := [.lit (.bool true)], args := [d1, d2] }
  | _ => none }
def replayMarksRow : OpenClaim := { program := "ytmchbciofdokfaa", sum := "63977f9db1396aed6c53c357501bba061865e9253b6e6bce1974546a392d2e74", func := "progeny/progenylaw06.ReplayMarks", spec := "replayMarks", unfollowed := true, recurses := true, apart := false }
def ReplayMarksSaid : Prop := replayMarksRow.holds Try.pinned (OpenSpec.ofChange replayMarksSpec)

/-- ITS FALSE NEIGHBOUR: 'it returns false'. Refute it at one input. -/
def replayMarksWrong : ChangeSpec := { name := "replayMarks", fn := fun _ => fun
  | [d1, d2] => { results := [.lit (.bool false)], args := [d1, d2] }
  | _ => none }
def ReplayMarksWrongFalsely : Prop := replayMarksRow.holds Try.pinned (OpenSpec.ofChange replayMarksWrong)

/- THE SECOND FORM. 'bulk': how many values and letters a reading holds, each counted each time it is reached (what is shared counts as often as it is met; a slice's spare places count too). A statement '..UptoSaid' is the law's where the arguments, and the package variables that the reading takes, are together of bulk at most 1048576: NARROWER than '..Said'. Prove '..Said' where nothing that the law and all that it calls make is longer than what came in: it says more and counts as full. Else prove '..UptoSaid'. A law counts once. -/
mutual
def uptoBulk {H : Type} : DataW H → Nat
  | .lit (.string bytes) => bytes.length + 1
  | .lit _ => 1
  | .nil => 1
  | .ptr d => uptoBulk d + 1
  | .slice elems spare => uptoBulkAll elems + uptoBulkAll spare + 1
  | .agg parts => uptoBulkAll parts + 1
  | .iface _ d => uptoBulk d + 1
  | .map entries => uptoBulkEntries entries + 1
  | .held _ => 1
def uptoBulkAll {H : Type} : List (DataW H) → Nat
  | [] => 0
  | d :: r => uptoBulk d + uptoBulkAll r
def uptoBulkEntries {H : Type} : List (Lit × DataW H) → Nat
  | [] => 0
  | x :: r => uptoBulkEntry x + uptoBulkEntries r
def uptoBulkEntry {H : Type} : Lit × DataW H → Nat
  | (.string bytes, d) => bytes.length + uptoBulk d + 1
  | (_, d) => uptoBulk d + 1
 end
def uptoSmall : (H : Type) → List (DataW H) → Bool := fun _ ds => decide (uptoBulkAll ds ≤ 1048576)
def OpenSpec.upto (s : _root_.Go.ChangeSpec) : _root_.Go.OpenSpec := { _root_.Go.OpenSpec.ofChange s with cond := some uptoSmall }

/-- 'progenylaw06.ReplayRestarts', WHERE WHAT IT READS IS OF BULK AT MOST 1048576: true; the input reads as it did. -/
def replayRestartsUptoRow : OpenClaim := { program := "ytmchbciofdokfaa", sum := "63977f9db1396aed6c53c357501bba061865e9253b6e6bce1974546a392d2e74", func := "progeny/progenylaw06.ReplayRestarts", spec := "replayRestarts", unfollowed := true, recurses := true, apart := false, narrowed := true }
def ReplayRestartsUptoSaid : Prop := replayRestartsUptoRow.holds Try.pinned (OpenSpec.upto replayRestartsSpec)

/-- 'progenylaw06.ReplayOn', WHERE WHAT IT READS IS OF BULK AT MOST 1048576: true; the input reads as it did. -/
def replayOnUptoRow : OpenClaim := { program := "ytmchbciofdokfaa", sum := "63977f9db1396aed6c53c357501bba061865e9253b6e6bce1974546a392d2e74", func := "progeny/progenylaw06.ReplayOn", spec := "replayOn", unfollowed := true, recurses := true, apart := false, narrowed := true }
def ReplayOnUptoSaid : Prop := replayOnUptoRow.holds Try.pinned (OpenSpec.upto replayOnSpec)

/-- 'progenylaw06.ReplayPages', WHERE WHAT IT READS IS OF BULK AT MOST 1048576: true; the input reads as it did. -/
def replayPagesUptoRow : OpenClaim := { program := "ytmchbciofdokfaa", sum := "63977f9db1396aed6c53c357501bba061865e9253b6e6bce1974546a392d2e74", func := "progeny/progenylaw06.ReplayPages", spec := "replayPages", unfollowed := true, recurses := true, apart := false, narrowed := true }
def ReplayPagesUptoSaid : Prop := replayPagesUptoRow.holds Try.pinned (OpenSpec.upto replayPagesSpec)

/-- 'progenylaw06.ReplayAgain', WHERE WHAT IT READS IS OF BULK AT MOST 1048576: true; the input reads as it did. -/
def replayAgainUptoRow : OpenClaim := { program := "ytmchbciofdokfaa", sum := "63977f9db1396aed6c53c357501bba061865e9253b6e6bce1974546a392d2e74", func := "progeny/progenylaw06.ReplayAgain", spec := "replayAgain", unfollowed := true, recurses := true, apart := false, narrowed := true }
def ReplayAgainUptoSaid : Prop := replayAgainUptoRow.holds Try.pinned (OpenSpec.upto replayAgainSpec)

/-- 'progenylaw06.ReplayEnds', WHERE WHAT IT READS IS OF BULK AT MOST 1048576: true; the input reads as it did. -/
def replayEndsUptoRow : OpenClaim := { program := "ytmchbciofdokfaa", sum := "63977f9db1396aed6c53c357501bba061865e9253b6e6bce1974546a392d2e74", func := "progeny/progenylaw06.ReplayEnds", spec := "replayEnds", unfollowed := true, recurses := true, apart := false, narrowed := true }
def ReplayEndsUptoSaid : Prop := replayEndsUptoRow.holds Try.pinned (OpenSpec.upto replayEndsSpec)

/-- 'progenylaw06.ReplayMarks', WHERE WHAT IT READS IS OF BULK AT MOST 1048576: true; the input reads as it did. -/
def replayMarksUptoRow : OpenClaim := { program := "ytmchbciofdokfaa", sum := "63977f9db1396aed6c53c357501bba061865e9253b6e6bce1974546a392d2e74", func := "progeny/progenylaw06.ReplayMarks", spec := "replayMarks", unfollowed := true, recurses := true, apart := false, narrowed := true }
def ReplayMarksUptoSaid : Prop := replayMarksUptoRow.holds Try.pinned (OpenSpec.upto replayMarksSpec)

end Rows
end Go.Proofs.Ytmchbciofdokfaa
