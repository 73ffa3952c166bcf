/- The walk of DiskNils. -/
import Derived.Test.YtbclgklpcbajfaaD12
import Derived.Test.YtbclgklpcbajfaaD13
import Derived.LoopN
namespace Go.Proofs.Ytbclgklpcbajfaa
open Go.RowKit
set_option linter.unusedSimpArgs false
set_option linter.unusedVariables false

theorem zero_first : Try.zeroCells69[0]? = some (.bool false) := by kernel_rfl
theorem new_first : newCells[0]? = some (.bool true) := by unfold newCells; rw [List.getElem?_toArray, List.getElem?_cons_zero]

set_option maxHeartbeats 8000000 in
set_option maxRecDepth 100000 in
theorem nils_any (n : Int) (u : Value) (keep : List Bool) (w : World) (hv : Bools w u keep) : Calls Try.prog 10 #[.int .i64 n, u] w fun e w' => e = .returned (.bool true) ∧ New w w' := by
  obtain ⟨p, c, rfl, g1, g2, _⟩ := hv
  unfold maxLen at g2
  by_cases hk : keep.length > 100
  · go_enter Try.func10, Try.ntmps10
    go_wp2_with fail
    refine (awake_any w).mono ?_
    rintro e w1 ⟨rfl, hn1⟩
    go_wp2
    go_ret
    exact ⟨rfl, hn1⟩
  · go_enter Try.func10, Try.ntmps10
    go_wp2_with fail
    refine (new_any w).mono ?_
    rintro e w1 ⟨rfl, hw1⟩
    have hs1 : w1.heap.size = w.heap.size + 1 := by rw [hw1]; simp
    have c1 : w1.cell? ⟨w.heap.size, 0, none⟩ = some (.bool true) := by rw [hw1, cell_made]; exact new_first
    have n1 : New w w1 := by rw [hw1]; exact (New.refl w).alloc _ _
    clear hw1
    go_wp2
    obtain ⟨x0, hx0⟩ : ∃ x0, (w1.alloc (.cells Try.zeroCells69 69)).alloc (.cells #[.pointer none, .pointer (some ⟨w.heap.size + 1, 0, none⟩)] 33) = x0 := ⟨_, rfl⟩
    rw [hx0]
    have hx0s : x0.heap.size = w.heap.size + 1 + 1 + 1 := by rw [← hx0]; simp [hs1]
    have hS : w.heap.size < x0.heap.size := by omega
    have hR : w.heap.size + 1 + 1 < x0.heap.size := by omega
    have nw0 : New w1 x0 := by rw [← hx0]; exact ((New.refl w1).alloc _ _).alloc _ _
    have cS : x0.cell? ⟨w.heap.size, 0, none⟩ = some (.bool true) := (nw0.cell w.heap.size 0 (by omega)).trans c1
    obtain ⟨⟨ma, mb⟩, _, _⟩ := New.made2 (w := w1) (c := Try.zeroCells69) (t := 69) (d := #[.pointer none, .pointer (some ⟨w.heap.size + 1, 0, none⟩)]) (u := 33) (w' := x0) (by rw [hx0]; exact New.refl _)
    have cZ : x0.cell? ⟨w.heap.size + 1, 0, none⟩ = some (.bool false) := by rw [← hs1, ma 0]; exact zero_first
    have cR0 : x0.cell? ⟨w.heap.size + 1 + 1, 0, none⟩ = some (.pointer none) := by have h := mb 0; rw [hs1] at h; exact h
    have cR1 : x0.cell? ⟨w.heap.size + 1 + 1, 1, none⟩ = some (.pointer (some ⟨w.heap.size + 1, 0, none⟩)) := by have h := mb 1; rw [hs1] at h; exact h
    have nx0 : New x0 x0 := New.refl x0
    have HN0 := hid (n1.trans nw0)
    clear hx0 ma mb hx0s nw0 n1 c1 hs1
    have in0 : IsNone x0 (.pointer none) := .inl rfl
    refine wp_loop_rounds 3 ?_
    rw [rounds_succ]
    go_wp2_with fail
    refine (arm_none (.pointer none) n x0 in0).mono ?_
    rintro e w' ⟨rfl, rfl⟩
    go_wp2_with fail
    refine (read_none (.pointer none) n x0 in0).mono ?_
    rintro e w' ⟨rfl, rfl⟩
    go_wp2_with fail
    refine (write_none (.pointer none) n (.slice none 0 0) x0 in0).mono ?_
    rintro e w' ⟨rfl, rfl⟩
    go_wp2_with fail
    refine (flush_none (.pointer none) x0 in0).mono ?_
    rintro e w' ⟨rfl, rfl⟩
    go_wp2_with fail
    refine (crash_none (.pointer none) (.slice p keep.length c) n x0 in0).mono ?_
    rintro e w' ⟨rfl, rfl⟩
    go_wp2_with fail
    refine (start_none (.pointer none) x0 in0).mono ?_
    rintro e w' ⟨rfl, rfl⟩
    go_wp2_with fail
    refine (lose_none (.pointer none) n x0 in0).mono ?_
    rintro e x1 ⟨rfl, hx1⟩
    have in1 : IsNone x1 ((.pointer none)) := (by rw [hx1]; exact in0.alloc _)
    have nx1 : New x0 x1 := (by rw [hx1]; exact nx0.alloc _ _)
    clear hx1
    have sm1 := (nx1.cell w.heap.size 0 hS).trans cS
    have r01 := (nx1.cell (w.heap.size + 1 + 1) 0 hR).trans cR0
    have r11 := (nx1.cell (w.heap.size + 1 + 1) 1 hR).trans cR1
    go_wp2_with fail
    refine (down_none (.pointer none) x1 in1).mono ?_
    rintro e w' ⟨rfl, rfl⟩
    go_wp2_with fail
    refine (waiting_none (.pointer none) x1 in1).mono ?_
    rintro e w' ⟨rfl, rfl⟩
    go_wp2_with fail
    refine (acts_none (.pointer none) x1 in1).mono ?_
    rintro e w' ⟨rfl, rfl⟩
    go_wp2_with fail
    refine (falls_none (.pointer none) x1 in1).mono ?_
    rintro e w' ⟨rfl, rfl⟩
    go_wp2_with fail
    refine (copy_none (.pointer none) x1 in1).mono ?_
    rintro e w' ⟨rfl, rfl⟩
    go_wp2_with fail
    refine (same_nones (.pointer none) (.pointer none) x1 in1 (.inl rfl)).mono ?_
    rintro e w' ⟨rfl, rfl⟩
    go_wp2_with fail
    refine (same_none_made (.pointer none) w.heap.size x1 in1 sm1).mono ?_
    rintro e w' ⟨rfl, rfl⟩
    go_wp2_with fail
    refine (same_made_none (.pointer none) w.heap.size x1 in1 sm1).mono ?_
    rintro e w' ⟨rfl, rfl⟩
    go_wp2
    have iz1 : IsNone x1 (.pointer (some ⟨w.heap.size + 1, 0, none⟩)) := .inr ⟨_, rfl, (nx1.cell (w.heap.size + 1) 0 (by omega)).trans cZ⟩
    rw [rounds_succ]
    go_wp2_with fail
    refine (arm_none (.pointer (some ⟨w.heap.size + 1, 0, none⟩)) n x1 iz1).mono ?_
    rintro e w' ⟨rfl, rfl⟩
    go_wp2_with fail
    refine (read_none (.pointer (some ⟨w.heap.size + 1, 0, none⟩)) n x1 iz1).mono ?_
    rintro e w' ⟨rfl, rfl⟩
    go_wp2_with fail
    refine (write_none (.pointer (some ⟨w.heap.size + 1, 0, none⟩)) n (.slice none 0 0) x1 iz1).mono ?_
    rintro e w' ⟨rfl, rfl⟩
    go_wp2_with fail
    refine (flush_none (.pointer (some ⟨w.heap.size + 1, 0, none⟩)) x1 iz1).mono ?_
    rintro e w' ⟨rfl, rfl⟩
    go_wp2_with fail
    refine (crash_none (.pointer (some ⟨w.heap.size + 1, 0, none⟩)) (.slice p keep.length c) n x1 iz1).mono ?_
    rintro e w' ⟨rfl, rfl⟩
    go_wp2_with fail
    refine (start_none (.pointer (some ⟨w.heap.size + 1, 0, none⟩)) x1 iz1).mono ?_
    rintro e w' ⟨rfl, rfl⟩
    go_wp2_with fail
    refine (lose_none (.pointer (some ⟨w.heap.size + 1, 0, none⟩)) n x1 iz1).mono ?_
    rintro e x2 ⟨rfl, hx2⟩
    have in2 : IsNone x2 ((.pointer (some ⟨w.heap.size + 1, 0, none⟩))) := (by rw [hx2]; exact iz1.alloc _)
    have nx2 : New x0 x2 := (by rw [hx2]; exact nx1.alloc _ _)
    clear hx2
    have sm2 := (nx2.cell w.heap.size 0 hS).trans cS
    have r02 := (nx2.cell (w.heap.size + 1 + 1) 0 hR).trans cR0
    have r12 := (nx2.cell (w.heap.size + 1 + 1) 1 hR).trans cR1
    go_wp2_with fail
    refine (down_none (.pointer (some ⟨w.heap.size + 1, 0, none⟩)) x2 in2).mono ?_
    rintro e w' ⟨rfl, rfl⟩
    go_wp2_with fail
    refine (waiting_none (.pointer (some ⟨w.heap.size + 1, 0, none⟩)) x2 in2).mono ?_
    rintro e w' ⟨rfl, rfl⟩
    go_wp2_with fail
    refine (acts_none (.pointer (some ⟨w.heap.size + 1, 0, none⟩)) x2 in2).mono ?_
    rintro e w' ⟨rfl, rfl⟩
    go_wp2_with fail
    refine (falls_none (.pointer (some ⟨w.heap.size + 1, 0, none⟩)) x2 in2).mono ?_
    rintro e w' ⟨rfl, rfl⟩
    go_wp2_with fail
    refine (copy_none (.pointer (some ⟨w.heap.size + 1, 0, none⟩)) x2 in2).mono ?_
    rintro e w' ⟨rfl, rfl⟩
    go_wp2_with fail
    refine (same_nones (.pointer (some ⟨w.heap.size + 1, 0, none⟩)) (.pointer none) x2 in2 (.inl rfl)).mono ?_
    rintro e w' ⟨rfl, rfl⟩
    go_wp2_with fail
    refine (same_none_made (.pointer (some ⟨w.heap.size + 1, 0, none⟩)) w.heap.size x2 in2 sm2).mono ?_
    rintro e w' ⟨rfl, rfl⟩
    go_wp2_with fail
    refine (same_made_none (.pointer (some ⟨w.heap.size + 1, 0, none⟩)) w.heap.size x2 in2 sm2).mono ?_
    rintro e w' ⟨rfl, rfl⟩
    go_wp2
    rw [rounds_succ]
    go_wp2_with fail
    refine (awake_any x2).mono ?_
    rintro e w9 ⟨rfl, hn9⟩
    go_wp2
    go_ret
    exact ⟨rfl, (HN0.out.trans nx2).trans hn9⟩

end Go.Proofs.Ytbclgklpcbajfaa
