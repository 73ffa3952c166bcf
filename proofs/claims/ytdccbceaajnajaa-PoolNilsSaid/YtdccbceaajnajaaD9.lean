/- disk.Disk.Crash at each made disk. -/
import Derived.Test.YtdccbceaajnajaaD8
import Derived.Test.YtdccbceaajnajaaD6
import Derived.Deep.RegionHeld3
namespace Go.Proofs.Ytdccbceaajnajaa
open Go.RowKit
set_option linter.unusedSimpArgs false
set_option linter.unusedVariables false

/-- What the loss of power makes of the first i waiting writes. -/
def crashTo (l : List (Nat × ByteArray)) (keep : List Bool) (k : Nat) (s : Nat → ByteArray) : Nat → (Nat → ByteArray)
  | 0 => s
  | i + 1 => match l[i]? with
    | none => crashTo l keep k s i
    | some p => if keep.getD i false then (if i + 1 = l.length then lay1 (crashTo l keep k s i) (p.1, tornB (crashTo l keep k s i p.1) p.2 k) else lay1 (crashTo l keep k s i) p) else crashTo l keep k s i
def crashA (A : ADisk) (keep : List Bool) (k : Int) : ADisk := fallA { A with waits := [], safe := crashTo A.waits keep (max k 0).toNat A.safe A.waits.length }

theorem crashTo_skip {l : List (Nat × ByteArray)} {keep : List Bool} {k : Nat} {s : Nat → ByteArray} {i : Nat} (h : keep.getD i false = false) : crashTo l keep k s (i + 1) = crashTo l keep k s i := by
  rw [crashTo]
  cases l[i]? with
  | none => rfl
  | some p => exact if_neg (by rw [h]; decide)
theorem crashTo_keep {l : List (Nat × ByteArray)} {keep : List Bool} {k : Nat} {s : Nat → ByteArray} {i : Nat} (hi : i < l.length) (h : keep.getD i false = true) (hl : i + 1 ≠ l.length) : crashTo l keep k s (i + 1) = lay1 (crashTo l keep k s i) l[i] := by
  rw [crashTo, List.getElem?_eq_getElem hi]
  exact (if_pos h).trans (if_neg hl)
theorem crashTo_last {l : List (Nat × ByteArray)} {keep : List Bool} {k : Nat} {s : Nat → ByteArray} {i : Nat} (hi : i < l.length) (h : keep.getD i false = true) (hl : i + 1 = l.length) :
    crashTo l keep k s (i + 1) = lay1 (crashTo l keep k s i) (l[i].1, tornB (crashTo l keep k s i l[i].1) l[i].2 k) := by
  rw [crashTo, List.getElem?_eq_getElem hi]
  exact (if_pos h).trans (if_pos hl)
theorem tornB_size (a b : ByteArray) (n : Nat) : (tornB a b n).size ≤ max a.size b.size := by
  unfold tornB
  split
  · omega
  · simp
    omega
theorem crashTo_small {l : List (Nat × ByteArray)} {keep : List Bool} {k : Nat} {s : Nat → ByteArray} (h1 : ∀ i, i < 3120 → (s i).size ≤ 340) (h2 : ∀ p ∈ l, p.2.size ≤ 340) (h3 : ∀ p ∈ l, p.1 < 3120) (i : Nat) : ∀ j, j < 3120 → (crashTo l keep k s i j).size ≤ 340 := by
  induction i with
  | zero => exact h1
  | succ i ih =>
    intro j hj
    rw [crashTo]
    cases e : l[i]? with
    | none => exact ih j hj
    | some p =>
      have hp : p ∈ l := List.mem_of_getElem? e
      simp only
      split
      · split
        · simp only [lay1]
          split
          · have := tornB_size (crashTo l keep k s i p.1) p.2 k
            have := ih p.1 (h3 p hp)
            have := h2 p hp
            omega
          · exact ih j hj
        · simp only [lay1]
          split
          · exact h2 p hp
          · exact ih j hj
      · exact ih j hj

/-- A list of booleans. -/
def Bools (w : World) (v : Value) (l : List Bool) : Prop := RowAt w v l.length (l.map Value.bool)
theorem Bools.at {w : World} {b o : Nat} {l : List Bool} (hc : ∀ i, i < (l.map Value.bool).length → w.cell? ⟨b, o + i, none⟩ = some ((l.map Value.bool).getD i undef)) {i : Nat} (hi : i < l.length) : w.cell? ⟨b, o + i, none⟩ = some (.bool l[i]) := by
  rw [hc i (by simpa using hi)]
  simp [hi]

theorem other_cell (w : World) (a : Addr) (u : Value) (c : Addr) (h : a.block ≠ c.block) : (w.setCell a u).cell? c = w.cell? c := World.cell?_of_block (w := w) (Below.heap_setCell _ _ _ _ (Ne.symm h))
end Go.Proofs.Ytdccbceaajnajaa
