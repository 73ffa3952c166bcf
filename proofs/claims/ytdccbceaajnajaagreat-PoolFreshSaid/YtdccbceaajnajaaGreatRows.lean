/-
  No cell of these rows narrows 'for every input' (looked for: loops, veiled, ifaces, maps, wideKeys, modest, calm, conditions, laid).
  DERIVED. THE GIVEN ROWS OF THIS SEAT. 3 by the template 'for every input the law returns true; each argument reads behind the call as it read before'; 0 by the template 'total and deterministic' (their statements: YtdccbceaajnajaaGreatTotals.lean).
  GIVEN WITH THE SEED: the statements are not yours to turn. If you find one false, say at which input.
  Laid BY PROGRAM, IN A SANDBOX (cutbox-rows.mjs): the forced cells as the released guide's own fill.sh prints them over the translation 62820d4f66603072… (all of the seat's roots in one cut). By AI agents, Wed Nov 11 2026. No macro, syntax, notation, axiom, sorry.
-/
import Derived.Test.YtdccbceaajnajaaGreatChecked
import GoSem.Claim
import GoSem.ClaimJoined
import GoSem.ClaimMapViews
import Derived.JoinedTies
import Derived.KernelRfl
namespace Go.Proofs.YtdccbceaajnajaaGreat
/- THE CELL 'sum', in the pinned program and in every row, IS THE sha256 OF THE DUMP (.gsa) THAT YtdccbceaajnajaaGreatProg.lean LOADS. Nothing in Lean hashes anything: it is a label: what it is worth is what the hold of that sum in a sandbox is worth. -/
noncomputable def Tryz.pinned : Pinned := { name := "ytdccbceaajnajaagreat", sum := "62820d4f66603072094680824ed36e5329bff694079052ee06717a74fd7126ea", checked := Tryz.checked }
namespace Rows
def none {H : Type} : Left H := { results := [], args := [] }

/-- 'progenylaw04.PoolFresh': WHATEVER THE INPUT: true; the input reads as it did. -/
def poolFreshSpec : ChangeSpec := { name := "poolFresh", fn := fun _ => fun
  | [d1, d2] => { results := [.lit (.bool true)], args := [d1, d2] }
  | _ => none }
def poolFreshRow : OpenClaim := { program := "ytdccbceaajnajaagreat", sum := "62820d4f66603072094680824ed36e5329bff694079052ee06717a74fd7126ea", func := "progeny/progenylaw04.PoolFresh", spec := "poolFresh", unfollowed := true, recurses := true, apart := false }
def PoolFreshSaid : Prop := poolFreshRow.holds Tryz.pinned (OpenSpec.ofChange poolFreshSpec)

/-- ITS FALSE NEIGHBOUR: 'it returns false'. Refute it at one input. -/
def poolFreshWrong : ChangeSpec := { name := "poolFresh", fn := fun _ => fun
  | [d1, d2] => { results := [.lit (.bool false)], args := [d1, d2] }
  | _ => none }
def PoolFreshWrongFalsely : Prop := poolFreshRow.holds Tryz.pinned (OpenSpec.ofChange poolFreshWrong)

/-- 'progenylaw04.PoolFrames': WHATEVER THE INPUT: true; the input reads as it did. -/
def poolFramesSpec : ChangeSpec := { name := "poolFrames", fn := fun _ => fun
  | [d1, d2] => { results := [.lit (.bool true)], args := [d1, d2] }
  | _ => none }
def poolFramesRow : OpenClaim := { program := "ytdccbceaajnajaagreat", sum := "62820d4f66603072094680824ed36e5329bff694079052ee06717a74fd7126ea", func := "progeny/progenylaw04.PoolFrames", spec := "poolFrames", unfollowed := true, recurses := true, apart := false }
def PoolFramesSaid : Prop := poolFramesRow.holds Tryz.pinned (OpenSpec.ofChange poolFramesSpec)

/-- ITS FALSE NEIGHBOUR: 'it returns false'. Refute it at one input. -/
def poolFramesWrong : ChangeSpec := { name := "poolFrames", fn := fun _ => fun
  | [d1, d2] => { results := [.lit (.bool false)], args := [d1, d2] }
  | _ => none }
def PoolFramesWrongFalsely : Prop := poolFramesRow.holds Tryz.pinned (OpenSpec.ofChange poolFramesWrong)

/-- 'progenylaw04.PoolPages': WHATEVER THE INPUT: true; the input reads as it did. -/
def poolPagesSpec : ChangeSpec := { name := "poolPages", fn := fun _ => fun
  | [d1, d2] => { results := [.lit (.bool true)], args := [d1, d2] }
  | _ => none }
def poolPagesRow : OpenClaim := { program := "ytdccbceaajnajaagreat", sum := "62820d4f66603072094680824ed36e5329bff694079052ee06717a74fd7126ea", func := "progeny/progenylaw04.PoolPages", spec := "poolPages", unfollowed := true, recurses := true, apart := false }
def PoolPagesSaid : Prop := poolPagesRow.holds Tryz.pinned (OpenSpec.ofChange poolPagesSpec)

/-- ITS FALSE NEIGHBOUR: 'it returns false'. Refute it at one input. -/
def poolPagesWrong : ChangeSpec := { name := "poolPages", fn := fun _ => fun
  | [d1, d2] => { results := [.lit (.bool false)], args := [d1, d2] }
  | _ => none }
def PoolPagesWrongFalsely : Prop := poolPagesRow.holds Tryz.pinned (OpenSpec.ofChange poolPagesWrong)

/- THE SECOND FORM. 'bulk': how many values and letters a reading holds, each counted each time it is reached (what is shared counts as often as it is met; a slice's spare places count too). A statement '..UptoSaid' is the law's where the arguments, and the package variables that the reading takes, are together of bulk at most 1048576: NARROWER than '..Said'. Prove '..Said' where nothing that the law and all that it calls make is longer than what came in: it says more and counts as full. Else prove '..UptoSaid'. A law counts once. -/
mutual
def uptoBulk {H : Type} : DataW H → Nat
  | .lit (.string bytes) => bytes.length + 1
  | .lit _ => 1
  | .nil => 1
  | .ptr d => uptoBulk d + 1
  | .slice elems spare => uptoBulkAll elems + uptoBulkAll spare + 1
  | .agg parts => uptoBulkAll parts + 1
  | .iface _ d => uptoBulk d + 1
  | .map entries => uptoBulkEntries entries + 1
  | .held _ => 1
def uptoBulkAll {H : Type} : List (DataW H) → Nat
  | [] => 0
  | d :: r => uptoBulk d + uptoBulkAll r
def uptoBulkEntries {H : Type} : List (Lit × DataW H) → Nat
  | [] => 0
  | x :: r => uptoBulkEntry x + uptoBulkEntries r
def uptoBulkEntry {H : Type} : Lit × DataW H → Nat
  | (.string bytes, d) => bytes.length + uptoBulk d + 1
  | (_, d) => uptoBulk d + 1
 end
def uptoSmall : (H : Type) → List (DataW H) → Bool := fun _ ds => decide (uptoBulkAll ds ≤ 1048576)
def OpenSpec.upto (s : _root_.Go.ChangeSpec) : _root_.Go.OpenSpec := { _root_.Go.OpenSpec.ofChange s with cond := some uptoSmall }

/-- 'progenylaw04.PoolFresh', WHERE WHAT IT READS IS OF BULK AT MOST 1048576: true; the input reads as it did. -/
def poolFreshUptoRow : OpenClaim := { program := "ytdccbceaajnajaagreat", sum := "62820d4f66603072094680824ed36e5329bff694079052ee06717a74fd7126ea", func := "progeny/progenylaw04.PoolFresh", spec := "poolFresh", unfollowed := true, recurses := true, apart := false, narrowed := true }
def PoolFreshUptoSaid : Prop := poolFreshUptoRow.holds Tryz.pinned (OpenSpec.upto poolFreshSpec)

/-- 'progenylaw04.PoolFrames', WHERE WHAT IT READS IS OF BULK AT MOST 1048576: true; the input reads as it did. -/
def poolFramesUptoRow : OpenClaim := { program := "ytdccbceaajnajaagreat", sum := "62820d4f66603072094680824ed36e5329bff694079052ee06717a74fd7126ea", func := "progeny/progenylaw04.PoolFrames", spec := "poolFrames", unfollowed := true, recurses := true, apart := false, narrowed := true }
def PoolFramesUptoSaid : Prop := poolFramesUptoRow.holds Tryz.pinned (OpenSpec.upto poolFramesSpec)

/-- 'progenylaw04.PoolPages', WHERE WHAT IT READS IS OF BULK AT MOST 1048576: true; the input reads as it did. -/
def poolPagesUptoRow : OpenClaim := { program := "ytdccbceaajnajaagreat", sum := "62820d4f66603072094680824ed36e5329bff694079052ee06717a74fd7126ea", func := "progeny/progenylaw04.PoolPages", spec := "poolPages", unfollowed := true, recurses := true, apart := false, narrowed := true }
def PoolPagesUptoSaid : Prop := poolPagesUptoRow.holds Tryz.pinned (OpenSpec.upto poolPagesSpec)

end Rows
end Go.Proofs.YtdccbceaajnajaaGreat
