/- disk.New. -/
import Derived.Test.YtdccbceaajnajaaD8
import Derived.Laws.Tables
namespace Go.Proofs.Ytdccbceaajnajaa
open Go.RowKit
set_option linter.unusedSimpArgs false
set_option linter.unusedVariables false

def newCells : Array Value := (Value.bool true :: (List.replicate 3121 (Value.slice none 0 0) ++ [.bool false, .int .i64 0, .int .i64 0, .int .i64 0])).toArray
theorem newCells_eq : Try.zeroCells63.setIfInBounds 0 (.bool true) = newCells := by kernel_rfl
theorem newCells_size : newCells.size = 3126 := by
  unfold newCells
  rw [List.size_toArray, List.length_cons, List.length_append, List.length_replicate]
  rfl

def newA : ADisk := { safe := fun _ => ByteArray.empty, waits := [], down := false, armed := 0, acts := 0, falls := 0 }
def newF (i : Nat) : Value := newCells[i]?.getD undef
theorem newF_slices (i : Nat) (h1 : 1 ≤ i) (h2 : i ≤ 3121) : newF i = .slice none 0 0 := by
  obtain ⟨k, rfl⟩ : ∃ k, i = k + 1 := ⟨i - 1, by omega⟩
  unfold newF newCells
  rw [List.getElem?_toArray, List.getElem?_cons_succ, List.getElem?_append_left (by rw [List.length_replicate]; omega), List.getElem?_replicate, if_pos (by omega)]
  rfl
theorem newF_tail (k : Nat) : newF (3122 + k) = ([.bool false, .int .i64 0, .int .i64 0, .int .i64 0] : List Value)[k]?.getD undef := by
  unfold newF newCells
  rw [List.getElem?_toArray, show 3122 + k = (3121 + k) + 1 by omega, List.getElem?_cons_succ, List.getElem?_append_right (by rw [List.length_replicate]; omega), List.length_replicate, show 3121 + k - 3121 = k by omega]

theorem newAt (w : World) : DiskAt (w.alloc (.cells newCells 63)) w.heap.size none newA := by
  refine ⟨newF, ⟨newCells, World.alloc_heap_new w _, newCells_size, fun i hi => ?_⟩, ?_⟩
  · unfold newF
    rw [Array.getElem?_eq_getElem (by rw [newCells_size]; exact hi)]
    rfl
  · constructor
    case made => unfold newF newCells; rw [List.getElem?_toArray, List.getElem?_cons_zero]; rfl
    case safe => exact fun i hi => by rw [newF_slices _ (by omega) (by omega)]; exact Content.nil _
    case waits => rw [newF_slices 3121 (by omega) (by omega)]; exact ⟨⟨[], ⟨rfl, .inl ⟨rfl, rfl⟩⟩, fun i h => absurd h (Nat.not_lt_zero _)⟩, rfl⟩
    case down => exact newF_tail 0
    case armed => exact newF_tail 1
    case acts => exact newF_tail 2
    case falls => exact newF_tail 3
    case inside => intro p hp; cases hp
    case armed0 => exact zero_armed
    case acts0 => exact Int.le_refl _
    case falls0 => exact Int.le_refl _
theorem newA_small : Small newA := ⟨fun i _ => Nat.zero_le _, fun p hp => by cases hp⟩

set_option maxHeartbeats 1000000 in
theorem new_any (w : World) : Calls Try.prog 10 #[] w fun e w' => e = .returned (.pointer (some ⟨w.heap.size, 0, none⟩)) ∧ w' = w.alloc (.cells newCells 63) := by
  obtain ⟨C, hC⟩ : ∃ C, newCells = C := ⟨_, rfl⟩
  have he := newCells_eq
  rw [hC] at he ⊢
  clear hC
  have HE := hid he
  clear he
  go_enter Try.func10, Try.ntmps10
  go_wp2
  go_ret
  rw [HE.out]
  exact ⟨rfl, rfl⟩

end Go.Proofs.Ytdccbceaajnajaa
