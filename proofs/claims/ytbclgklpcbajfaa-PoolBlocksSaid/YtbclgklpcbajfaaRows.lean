/-
  No cell of these rows narrows 'for every input' (looked for: loops, veiled, ifaces, maps, wideKeys, modest, calm, conditions, laid).
  DERIVED. THE GIVEN ROWS OF THIS SEAT. 12 by the template 'for every input the law returns true; each argument reads behind the call as it read before'; 0 by the template 'total and deterministic' (their statements: YtbclgklpcbajfaaTotals.lean).
  GIVEN WITH THE SEED: the statements are not yours to turn. If you find one false, say at which input.
  Laid BY PROGRAM, IN A SANDBOX (cutbox-rows.mjs): the forced cells as the released guide's own fill.sh prints them over the translation d9c9b1eb94f803d2… (all of the seat's roots in one cut). By AI agents, Wed Nov 11 2026. No macro, syntax, notation, axiom, sorry.
-/
import Derived.Test.YtbclgklpcbajfaaChecked
import GoSem.Claim
import GoSem.ClaimJoined
import GoSem.ClaimMapViews
import Derived.JoinedTies
import Derived.KernelRfl
namespace Go.Proofs.Ytbclgklpcbajfaa
/- THE CELL 'sum', in the pinned program and in every row, IS THE sha256 OF THE DUMP (.gsa) THAT YtbclgklpcbajfaaProg.lean LOADS. Nothing in Lean hashes anything: it is a label: what it is worth is what the hold of that sum in a sandbox is worth. -/
noncomputable def Try.pinned : Pinned := { name := "ytbclgklpcbajfaa", sum := "d9c9b1eb94f803d2ab4eaf025457af792a98deaa4963f618d95cfd882a0c8d04", checked := Try.checked }
namespace Rows
def none {H : Type} : Left H := { results := [], args := [] }

/-- 'progenylaw03.TapeSame': WHATEVER THE INPUT: true; the input reads as it did. -/
def tapeSameSpec : ChangeSpec := { name := "tapeSame", fn := fun _ => fun
  | [d1, d2] => { results := [.lit (.bool true)], args := [d1, d2] }
  | _ => none }
def tapeSameRow : OpenClaim := { program := "ytbclgklpcbajfaa", sum := "d9c9b1eb94f803d2ab4eaf025457af792a98deaa4963f618d95cfd882a0c8d04", func := "progeny/progenylaw03.TapeSame", spec := "tapeSame", apart := false }
def TapeSameSaid : Prop := tapeSameRow.holds Try.pinned (OpenSpec.ofChange tapeSameSpec)

/-- ITS FALSE NEIGHBOUR: 'it returns false'. Refute it at one input. -/
def tapeSameWrong : ChangeSpec := { name := "tapeSame", fn := fun _ => fun
  | [d1, d2] => { results := [.lit (.bool false)], args := [d1, d2] }
  | _ => none }
def TapeSameWrongFalsely : Prop := tapeSameRow.holds Try.pinned (OpenSpec.ofChange tapeSameWrong)

/-- 'progenylaw02.DiskTorn': WHATEVER THE INPUT: true; the input reads as it did. -/
def diskTornSpec : ChangeSpec := { name := "diskTorn", fn := fun _ => fun
  | [d1, d2, d3] => { results := [.lit (.bool true)], args := [d1, d2, d3] }
  | _ => none }
def diskTornRow : OpenClaim := { program := "ytbclgklpcbajfaa", sum := "d9c9b1eb94f803d2ab4eaf025457af792a98deaa4963f618d95cfd882a0c8d04", func := "progeny/progenylaw02.DiskTorn", spec := "diskTorn", unfollowed := true, recurses := true, apart := false }
def DiskTornSaid : Prop := diskTornRow.holds Try.pinned (OpenSpec.ofChange diskTornSpec)

/-- ITS FALSE NEIGHBOUR: 'it returns false'. Refute it at one input. -/
def diskTornWrong : ChangeSpec := { name := "diskTorn", fn := fun _ => fun
  | [d1, d2, d3] => { results := [.lit (.bool false)], args := [d1, d2, d3] }
  | _ => none }
def DiskTornWrongFalsely : Prop := diskTornRow.holds Try.pinned (OpenSpec.ofChange diskTornWrong)

/-- 'progenylaw02.DiskKeeps': WHATEVER THE INPUT: true; the input reads as it did. -/
def diskKeepsSpec : ChangeSpec := { name := "diskKeeps", fn := fun _ => fun
  | [d1, d2] => { results := [.lit (.bool true)], args := [d1, d2] }
  | _ => none }
def diskKeepsRow : OpenClaim := { program := "ytbclgklpcbajfaa", sum := "d9c9b1eb94f803d2ab4eaf025457af792a98deaa4963f618d95cfd882a0c8d04", func := "progeny/progenylaw02.DiskKeeps", spec := "diskKeeps", unfollowed := true, recurses := true, apart := false }
def DiskKeepsSaid : Prop := diskKeepsRow.holds Try.pinned (OpenSpec.ofChange diskKeepsSpec)

/-- ITS FALSE NEIGHBOUR: 'it returns false'. Refute it at one input. -/
def diskKeepsWrong : ChangeSpec := { name := "diskKeeps", fn := fun _ => fun
  | [d1, d2] => { results := [.lit (.bool false)], args := [d1, d2] }
  | _ => none }
def DiskKeepsWrongFalsely : Prop := diskKeepsRow.holds Try.pinned (OpenSpec.ofChange diskKeepsWrong)

/-- 'progenylaw02.DiskArms': WHATEVER THE INPUT: true; the input reads as it did. -/
def diskArmsSpec : ChangeSpec := { name := "diskArms", fn := fun _ => fun
  | [d1, d2] => { results := [.lit (.bool true)], args := [d1, d2] }
  | _ => none }
def diskArmsRow : OpenClaim := { program := "ytbclgklpcbajfaa", sum := "d9c9b1eb94f803d2ab4eaf025457af792a98deaa4963f618d95cfd882a0c8d04", func := "progeny/progenylaw02.DiskArms", spec := "diskArms", unfollowed := true, recurses := true, apart := false }
def DiskArmsSaid : Prop := diskArmsRow.holds Try.pinned (OpenSpec.ofChange diskArmsSpec)

/-- ITS FALSE NEIGHBOUR: 'it returns false'. Refute it at one input. -/
def diskArmsWrong : ChangeSpec := { name := "diskArms", fn := fun _ => fun
  | [d1, d2] => { results := [.lit (.bool false)], args := [d1, d2] }
  | _ => none }
def DiskArmsWrongFalsely : Prop := diskArmsRow.holds Try.pinned (OpenSpec.ofChange diskArmsWrong)

/-- 'progenylaw02.DiskSame': WHATEVER THE INPUT: true; the input reads as it did. -/
def diskSameSpec : ChangeSpec := { name := "diskSame", fn := fun _ => fun
  | [d1, d2] => { results := [.lit (.bool true)], args := [d1, d2] }
  | _ => none }
def diskSameRow : OpenClaim := { program := "ytbclgklpcbajfaa", sum := "d9c9b1eb94f803d2ab4eaf025457af792a98deaa4963f618d95cfd882a0c8d04", func := "progeny/progenylaw02.DiskSame", spec := "diskSame", unfollowed := true, recurses := true, apart := false }
def DiskSameSaid : Prop := diskSameRow.holds Try.pinned (OpenSpec.ofChange diskSameSpec)

/-- ITS FALSE NEIGHBOUR: 'it returns false'. Refute it at one input. -/
def diskSameWrong : ChangeSpec := { name := "diskSame", fn := fun _ => fun
  | [d1, d2] => { results := [.lit (.bool false)], args := [d1, d2] }
  | _ => none }
def DiskSameWrongFalsely : Prop := diskSameRow.holds Try.pinned (OpenSpec.ofChange diskSameWrong)

/-- 'progenylaw02.DiskActs': WHATEVER THE INPUT: true; the input reads as it did. -/
def diskActsSpec : ChangeSpec := { name := "diskActs", fn := fun _ => fun
  | [d] => { results := [.lit (.bool true)], args := [d] }
  | _ => none }
def diskActsRow : OpenClaim := { program := "ytbclgklpcbajfaa", sum := "d9c9b1eb94f803d2ab4eaf025457af792a98deaa4963f618d95cfd882a0c8d04", func := "progeny/progenylaw02.DiskActs", spec := "diskActs", unfollowed := true, recurses := true, apart := false }
def DiskActsSaid : Prop := diskActsRow.holds Try.pinned (OpenSpec.ofChange diskActsSpec)

/-- ITS FALSE NEIGHBOUR: 'it returns false'. Refute it at one input. -/
def diskActsWrong : ChangeSpec := { name := "diskActs", fn := fun _ => fun
  | [d] => { results := [.lit (.bool false)], args := [d] }
  | _ => none }
def DiskActsWrongFalsely : Prop := diskActsRow.holds Try.pinned (OpenSpec.ofChange diskActsWrong)

/-- 'progenylaw03.TapeDecodes': WHATEVER THE INPUT: true; the input reads as it did. -/
def tapeDecodesSpec : ChangeSpec := { name := "tapeDecodes", fn := fun _ => fun
  | [d] => { results := [.lit (.bool true)], args := [d] }
  | _ => none }
def tapeDecodesRow : OpenClaim := { program := "ytbclgklpcbajfaa", sum := "d9c9b1eb94f803d2ab4eaf025457af792a98deaa4963f618d95cfd882a0c8d04", func := "progeny/progenylaw03.TapeDecodes", spec := "tapeDecodes", unfollowed := true, recurses := true, apart := false }
def TapeDecodesSaid : Prop := tapeDecodesRow.holds Try.pinned (OpenSpec.ofChange tapeDecodesSpec)

/-- ITS FALSE NEIGHBOUR: 'it returns false'. Refute it at one input. -/
def tapeDecodesWrong : ChangeSpec := { name := "tapeDecodes", fn := fun _ => fun
  | [d] => { results := [.lit (.bool false)], args := [d] }
  | _ => none }
def TapeDecodesWrongFalsely : Prop := tapeDecodesRow.holds Try.pinned (OpenSpec.ofChange tapeDecodesWrong)

/-- 'progenylaw02.DiskNils': WHATEVER THE INPUT: true; the input reads as it did. -/
def diskNilsSpec : ChangeSpec := { name := "diskNils", fn := fun _ => fun
  | [d1, d2] => { results := [.lit (.bool true)], args := [d1, d2] }
  | _ => none }
def diskNilsRow : OpenClaim := { program := "ytbclgklpcbajfaa", sum := "d9c9b1eb94f803d2ab4eaf025457af792a98deaa4963f618d95cfd882a0c8d04", func := "progeny/progenylaw02.DiskNils", spec := "diskNils", unfollowed := true, recurses := true, apart := false }
def DiskNilsSaid : Prop := diskNilsRow.holds Try.pinned (OpenSpec.ofChange diskNilsSpec)

/-- ITS FALSE NEIGHBOUR: 'it returns false'. Refute it at one input. -/
def diskNilsWrong : ChangeSpec := { name := "diskNils", fn := fun _ => fun
  | [d1, d2] => { results := [.lit (.bool false)], args := [d1, d2] }
  | _ => none }
def DiskNilsWrongFalsely : Prop := diskNilsRow.holds Try.pinned (OpenSpec.ofChange diskNilsWrong)

/-- 'progenylaw03.TapeBlocks': WHATEVER THE INPUT: true; the input reads as it did. -/
def tapeBlocksSpec : ChangeSpec := { name := "tapeBlocks", fn := fun _ => fun
  | [d1, d2] => { results := [.lit (.bool true)], args := [d1, d2] }
  | _ => none }
def tapeBlocksRow : OpenClaim := { program := "ytbclgklpcbajfaa", sum := "d9c9b1eb94f803d2ab4eaf025457af792a98deaa4963f618d95cfd882a0c8d04", func := "progeny/progenylaw03.TapeBlocks", spec := "tapeBlocks", unfollowed := true, recurses := true, apart := false }
def TapeBlocksSaid : Prop := tapeBlocksRow.holds Try.pinned (OpenSpec.ofChange tapeBlocksSpec)

/-- ITS FALSE NEIGHBOUR: 'it returns false'. Refute it at one input. -/
def tapeBlocksWrong : ChangeSpec := { name := "tapeBlocks", fn := fun _ => fun
  | [d1, d2] => { results := [.lit (.bool false)], args := [d1, d2] }
  | _ => none }
def TapeBlocksWrongFalsely : Prop := tapeBlocksRow.holds Try.pinned (OpenSpec.ofChange tapeBlocksWrong)

/-- 'progenylaw03.TapeNobody': WHATEVER THE INPUT: true; the input reads as it did. -/
def tapeNobodySpec : ChangeSpec := { name := "tapeNobody", fn := fun _ => fun
  | [d1, d2] => { results := [.lit (.bool true)], args := [d1, d2] }
  | _ => none }
def tapeNobodyRow : OpenClaim := { program := "ytbclgklpcbajfaa", sum := "d9c9b1eb94f803d2ab4eaf025457af792a98deaa4963f618d95cfd882a0c8d04", func := "progeny/progenylaw03.TapeNobody", spec := "tapeNobody", unfollowed := true, recurses := true, apart := false }
def TapeNobodySaid : Prop := tapeNobodyRow.holds Try.pinned (OpenSpec.ofChange tapeNobodySpec)

/-- ITS FALSE NEIGHBOUR: 'it returns false'. Refute it at one input. -/
def tapeNobodyWrong : ChangeSpec := { name := "tapeNobody", fn := fun _ => fun
  | [d1, d2] => { results := [.lit (.bool false)], args := [d1, d2] }
  | _ => none }
def TapeNobodyWrongFalsely : Prop := tapeNobodyRow.holds Try.pinned (OpenSpec.ofChange tapeNobodyWrong)

/-- 'progenylaw03.TapeAppends': WHATEVER THE INPUT: true; the input reads as it did. -/
def tapeAppendsSpec : ChangeSpec := { name := "tapeAppends", fn := fun _ => fun
  | [d1, d2, d3] => { results := [.lit (.bool true)], args := [d1, d2, d3] }
  | _ => none }
def tapeAppendsRow : OpenClaim := { program := "ytbclgklpcbajfaa", sum := "d9c9b1eb94f803d2ab4eaf025457af792a98deaa4963f618d95cfd882a0c8d04", func := "progeny/progenylaw03.TapeAppends", spec := "tapeAppends", unfollowed := true, recurses := true, apart := false }
def TapeAppendsSaid : Prop := tapeAppendsRow.holds Try.pinned (OpenSpec.ofChange tapeAppendsSpec)

/-- ITS FALSE NEIGHBOUR: 'it returns false'. Refute it at one input. -/
def tapeAppendsWrong : ChangeSpec := { name := "tapeAppends", fn := fun _ => fun
  | [d1, d2, d3] => { results := [.lit (.bool false)], args := [d1, d2, d3] }
  | _ => none }
def TapeAppendsWrongFalsely : Prop := tapeAppendsRow.holds Try.pinned (OpenSpec.ofChange tapeAppendsWrong)

/-- 'progenylaw04.PoolBlocks': WHATEVER THE INPUT: true; the input reads as it did. -/
def poolBlocksSpec : ChangeSpec := { name := "poolBlocks", fn := fun _ => fun
  | [d1, d2, d3] => { results := [.lit (.bool true)], args := [d1, d2, d3] }
  | _ => none }
def poolBlocksRow : OpenClaim := { program := "ytbclgklpcbajfaa", sum := "d9c9b1eb94f803d2ab4eaf025457af792a98deaa4963f618d95cfd882a0c8d04", func := "progeny/progenylaw04.PoolBlocks", spec := "poolBlocks", unfollowed := true, recurses := true, apart := false }
def PoolBlocksSaid : Prop := poolBlocksRow.holds Try.pinned (OpenSpec.ofChange poolBlocksSpec)

/-- ITS FALSE NEIGHBOUR: 'it returns false'. Refute it at one input. -/
def poolBlocksWrong : ChangeSpec := { name := "poolBlocks", fn := fun _ => fun
  | [d1, d2, d3] => { results := [.lit (.bool false)], args := [d1, d2, d3] }
  | _ => none }
def PoolBlocksWrongFalsely : Prop := poolBlocksRow.holds Try.pinned (OpenSpec.ofChange poolBlocksWrong)

/- THE SECOND FORM. 'bulk': how many values and letters a reading holds, each counted each time it is reached (what is shared counts as often as it is met; a slice's spare places count too). A statement '..UptoSaid' is the law's where the arguments, and the package variables that the reading takes, are together of bulk at most 1048576: NARROWER than '..Said'. Prove '..Said' where nothing that the law and all that it calls make is longer than what came in: it says more and counts as full. Else prove '..UptoSaid'. A law counts once. -/
mutual
def uptoBulk {H : Type} : DataW H → Nat
  | .lit (.string bytes) => bytes.length + 1
  | .lit _ => 1
  | .nil => 1
  | .ptr d => uptoBulk d + 1
  | .slice elems spare => uptoBulkAll elems + uptoBulkAll spare + 1
  | .agg parts => uptoBulkAll parts + 1
  | .iface _ d => uptoBulk d + 1
  | .map entries => uptoBulkEntries entries + 1
  | .held _ => 1
def uptoBulkAll {H : Type} : List (DataW H) → Nat
  | [] => 0
  | d :: r => uptoBulk d + uptoBulkAll r
def uptoBulkEntries {H : Type} : List (Lit × DataW H) → Nat
  | [] => 0
  | x :: r => uptoBulkEntry x + uptoBulkEntries r
def uptoBulkEntry {H : Type} : Lit × DataW H → Nat
  | (.string bytes, d) => bytes.length + uptoBulk d + 1
  | (_, d) => uptoBulk d + 1
 end
def uptoSmall : (H : Type) → List (DataW H) → Bool := fun _ ds => decide (uptoBulkAll ds ≤ 1048576)
def OpenSpec.upto (s : _root_.Go.ChangeSpec) : _root_.Go.OpenSpec := { _root_.Go.OpenSpec.ofChange s with cond := some uptoSmall }

/-- 'progenylaw03.TapeSame', WHERE WHAT IT READS IS OF BULK AT MOST 1048576: true; the input reads as it did. -/
def tapeSameUptoRow : OpenClaim := { program := "ytbclgklpcbajfaa", sum := "d9c9b1eb94f803d2ab4eaf025457af792a98deaa4963f618d95cfd882a0c8d04", func := "progeny/progenylaw03.TapeSame", spec := "tapeSame", apart := false, narrowed := true }
def TapeSameUptoSaid : Prop := tapeSameUptoRow.holds Try.pinned (OpenSpec.upto tapeSameSpec)

/-- 'progenylaw02.DiskTorn', WHERE WHAT IT READS IS OF BULK AT MOST 1048576: true; the input reads as it did. -/
def diskTornUptoRow : OpenClaim := { program := "ytbclgklpcbajfaa", sum := "d9c9b1eb94f803d2ab4eaf025457af792a98deaa4963f618d95cfd882a0c8d04", func := "progeny/progenylaw02.DiskTorn", spec := "diskTorn", unfollowed := true, recurses := true, apart := false, narrowed := true }
def DiskTornUptoSaid : Prop := diskTornUptoRow.holds Try.pinned (OpenSpec.upto diskTornSpec)

/-- 'progenylaw02.DiskKeeps', WHERE WHAT IT READS IS OF BULK AT MOST 1048576: true; the input reads as it did. -/
def diskKeepsUptoRow : OpenClaim := { program := "ytbclgklpcbajfaa", sum := "d9c9b1eb94f803d2ab4eaf025457af792a98deaa4963f618d95cfd882a0c8d04", func := "progeny/progenylaw02.DiskKeeps", spec := "diskKeeps", unfollowed := true, recurses := true, apart := false, narrowed := true }
def DiskKeepsUptoSaid : Prop := diskKeepsUptoRow.holds Try.pinned (OpenSpec.upto diskKeepsSpec)

/-- 'progenylaw02.DiskArms', WHERE WHAT IT READS IS OF BULK AT MOST 1048576: true; the input reads as it did. -/
def diskArmsUptoRow : OpenClaim := { program := "ytbclgklpcbajfaa", sum := "d9c9b1eb94f803d2ab4eaf025457af792a98deaa4963f618d95cfd882a0c8d04", func := "progeny/progenylaw02.DiskArms", spec := "diskArms", unfollowed := true, recurses := true, apart := false, narrowed := true }
def DiskArmsUptoSaid : Prop := diskArmsUptoRow.holds Try.pinned (OpenSpec.upto diskArmsSpec)

/-- 'progenylaw02.DiskSame', WHERE WHAT IT READS IS OF BULK AT MOST 1048576: true; the input reads as it did. -/
def diskSameUptoRow : OpenClaim := { program := "ytbclgklpcbajfaa", sum := "d9c9b1eb94f803d2ab4eaf025457af792a98deaa4963f618d95cfd882a0c8d04", func := "progeny/progenylaw02.DiskSame", spec := "diskSame", unfollowed := true, recurses := true, apart := false, narrowed := true }
def DiskSameUptoSaid : Prop := diskSameUptoRow.holds Try.pinned (OpenSpec.upto diskSameSpec)

/-- 'progenylaw02.DiskActs', WHERE WHAT IT READS IS OF BULK AT MOST 1048576: true; the input reads as it did. -/
def diskActsUptoRow : OpenClaim := { program := "ytbclgklpcbajfaa", sum := "d9c9b1eb94f803d2ab4eaf025457af792a98deaa4963f618d95cfd882a0c8d04", func := "progeny/progenylaw02.DiskActs", spec := "diskActs", unfollowed := true, recurses := true, apart := false, narrowed := true }
def DiskActsUptoSaid : Prop := diskActsUptoRow.holds Try.pinned (OpenSpec.upto diskActsSpec)

/-- 'progenylaw03.TapeDecodes', WHERE WHAT IT READS IS OF BULK AT MOST 1048576: true; the input reads as it did. -/
def tapeDecodesUptoRow : OpenClaim := { program := "ytbclgklpcbajfaa", sum := "d9c9b1eb94f803d2ab4eaf025457af792a98deaa4963f618d95cfd882a0c8d04", func := "progeny/progenylaw03.TapeDecodes", spec := "tapeDecodes", unfollowed := true, recurses := true, apart := false, narrowed := true }
def TapeDecodesUptoSaid : Prop := tapeDecodesUptoRow.holds Try.pinned (OpenSpec.upto tapeDecodesSpec)

/-- 'progenylaw02.DiskNils', WHERE WHAT IT READS IS OF BULK AT MOST 1048576: true; the input reads as it did. -/
def diskNilsUptoRow : OpenClaim := { program := "ytbclgklpcbajfaa", sum := "d9c9b1eb94f803d2ab4eaf025457af792a98deaa4963f618d95cfd882a0c8d04", func := "progeny/progenylaw02.DiskNils", spec := "diskNils", unfollowed := true, recurses := true, apart := false, narrowed := true }
def DiskNilsUptoSaid : Prop := diskNilsUptoRow.holds Try.pinned (OpenSpec.upto diskNilsSpec)

/-- 'progenylaw03.TapeBlocks', WHERE WHAT IT READS IS OF BULK AT MOST 1048576: true; the input reads as it did. -/
def tapeBlocksUptoRow : OpenClaim := { program := "ytbclgklpcbajfaa", sum := "d9c9b1eb94f803d2ab4eaf025457af792a98deaa4963f618d95cfd882a0c8d04", func := "progeny/progenylaw03.TapeBlocks", spec := "tapeBlocks", unfollowed := true, recurses := true, apart := false, narrowed := true }
def TapeBlocksUptoSaid : Prop := tapeBlocksUptoRow.holds Try.pinned (OpenSpec.upto tapeBlocksSpec)

/-- 'progenylaw03.TapeNobody', WHERE WHAT IT READS IS OF BULK AT MOST 1048576: true; the input reads as it did. -/
def tapeNobodyUptoRow : OpenClaim := { program := "ytbclgklpcbajfaa", sum := "d9c9b1eb94f803d2ab4eaf025457af792a98deaa4963f618d95cfd882a0c8d04", func := "progeny/progenylaw03.TapeNobody", spec := "tapeNobody", unfollowed := true, recurses := true, apart := false, narrowed := true }
def TapeNobodyUptoSaid : Prop := tapeNobodyUptoRow.holds Try.pinned (OpenSpec.upto tapeNobodySpec)

/-- 'progenylaw03.TapeAppends', WHERE WHAT IT READS IS OF BULK AT MOST 1048576: true; the input reads as it did. -/
def tapeAppendsUptoRow : OpenClaim := { program := "ytbclgklpcbajfaa", sum := "d9c9b1eb94f803d2ab4eaf025457af792a98deaa4963f618d95cfd882a0c8d04", func := "progeny/progenylaw03.TapeAppends", spec := "tapeAppends", unfollowed := true, recurses := true, apart := false, narrowed := true }
def TapeAppendsUptoSaid : Prop := tapeAppendsUptoRow.holds Try.pinned (OpenSpec.upto tapeAppendsSpec)

/-- 'progenylaw04.PoolBlocks', WHERE WHAT IT READS IS OF BULK AT MOST 1048576: true; the input reads as it did. -/
def poolBlocksUptoRow : OpenClaim := { program := "ytbclgklpcbajfaa", sum := "d9c9b1eb94f803d2ab4eaf025457af792a98deaa4963f618d95cfd882a0c8d04", func := "progeny/progenylaw04.PoolBlocks", spec := "poolBlocks", unfollowed := true, recurses := true, apart := false, narrowed := true }
def PoolBlocksUptoSaid : Prop := poolBlocksUptoRow.holds Try.pinned (OpenSpec.upto poolBlocksSpec)

end Rows
end Go.Proofs.Ytbclgklpcbajfaa
