/- What progenyref03.isNumber, laid, empty return (printed by rvalid.py). -/
import Derived.Test.YtdccbceaajnajaaGreatA10
namespace Go.Proofs.YtdccbceaajnajaaGreat
open Go.RowKit
set_option linter.unusedSimpArgs false
set_option linter.unusedVariables false

theorem isNumber_any (n : Int) (w : World) : Calls Tryz.prog 125 #[.int .i64 n] w fun e w' => e = .returned (.bool (wi 0 n 1000000)) ∧ w = w' := by
  by_cases h : 0 ≤ n
  · go_enter Tryz.func125, Tryz.ntmps125
    go_wp2
    go_ret
    exact ⟨ret_bool (by simp [wi]; omega), rfl⟩
  · go_enter Tryz.func125, Tryz.ntmps125
    go_wp2
    go_ret
    exact ⟨ret_bool (by simp [wi]; omega), rfl⟩
theorem empty_iff (s : ByteArray) : s = ByteArray.empty ↔ s.size = 0 := by
  constructor
  · intro h; subst h; rfl
  · intro h; exact ByteArray.ext (Array.eq_empty_of_size_eq_zero h)
def laidB (r : Rec) : Bool := decide (0 ≤ r.page) && decide (r.page < 120) && decide (0 ≤ r.at_) && decide (r.at_ < 128) && decide (1 ≤ (r.after.size : Int)) && decide ((r.after.size : Int) ≤ 128 - r.at_)
theorem laidB_eq (r : Rec) : laidB r = placeB r := by
  rw [Bool.eq_iff_iff]
  simp only [laidB, placeB, Bool.and_eq_true, decide_eq_true_eq, wi_iff]
  omega
def emptyB (p b k t u : Bool) (r : Rec) : Bool := (p || (decide (r.page = 0) && decide (r.at_ = 0))) && (b || (decide (r.before.size = 0) && decide (r.after.size = 0))) && (k || nb r) && (t || nt r) && (u || nu r)

set_option maxHeartbeats 4000000 in
set_option maxRecDepth 10000 in
theorem laid_any (r : Rec) (bv av uv : Value) (w : World) (h : RecAt w r bv av uv) :
    Calls Tryz.prog 126 #[.agg (recCells r bv av uv)] w fun e w' => e = .returned (.bool (laidB r)) ∧ New w w' := by
  obtain ⟨⟨bp, bc, rfl, b1, b2, _⟩, ⟨ap, ac, rfl, a1, a2, _⟩, ⟨up, uc, rfl, l1, l2, _⟩⟩ := h
  unfold maxLen at a2 b2 l2
  unfold recCells
  go_enter Tryz.func126, Tryz.ntmps126
  go_wp2
  all_goals go_ret
  all_goals refine ⟨ret_bool ?_, (New.refl w).alloc _ _⟩
  all_goals rw [Bool.eq_iff_iff]
  all_goals (try simp only [bne_iff_ne, ne_eq, bne_eq_false_iff_eq, beq_iff_eq, beq_eq_false_iff_ne, List.isEmpty_iff, toList_nil, decide_eq_false_iff_not, decide_eq_true_eq] at *)
  all_goals (simp only [laidB, emptyB, nb, nu, nt, Bool.and_eq_true, Bool.or_eq_true, decide_eq_true_eq, Bool.true_and, Bool.false_and, Bool.and_false, Bool.false_eq_true, false_iff, iff_false, Bool.true_or, Bool.false_or, true_or, false_or, true_and, and_true, true_iff, iff_true])
  all_goals (try simp only [empty_iff, toList_nil] at *)
  all_goals (try omega)

set_option maxHeartbeats 4000000 in
set_option maxRecDepth 10000 in
theorem empty_TTFFF (r : Rec) (bv av uv : Value) (w : World) (h : RecAt w r bv av uv) :
    Calls Tryz.prog 127 #[.agg (recCells r bv av uv), .bool true, .bool true, .bool false, .bool false, .bool false] w fun e w' => e = .returned (.bool (emptyB true true false false false r)) ∧ New w w' := by
  obtain ⟨⟨bp, bc, rfl, b1, b2, _⟩, ⟨ap, ac, rfl, a1, a2, _⟩, ⟨up, uc, rfl, l1, l2, _⟩⟩ := h
  unfold maxLen at a2 b2 l2
  unfold recCells
  go_enter Tryz.func127, Tryz.ntmps127
  go_wp2
  all_goals go_ret
  all_goals refine ⟨ret_bool ?_, (New.refl w).alloc _ _⟩
  all_goals rw [Bool.eq_iff_iff]
  all_goals (try simp only [bne_iff_ne, ne_eq, bne_eq_false_iff_eq, beq_iff_eq, beq_eq_false_iff_ne, List.isEmpty_iff, toList_nil, decide_eq_false_iff_not, decide_eq_true_eq] at *)
  all_goals (simp only [laidB, emptyB, nb, nu, nt, Bool.and_eq_true, Bool.or_eq_true, decide_eq_true_eq, Bool.true_and, Bool.false_and, Bool.and_false, Bool.false_eq_true, false_iff, iff_false, Bool.true_or, Bool.false_or, true_or, false_or, true_and, and_true, true_iff, iff_true])
  all_goals (try simp only [empty_iff, toList_nil] at *)
  all_goals (try omega)

set_option maxHeartbeats 4000000 in
set_option maxRecDepth 10000 in
theorem empty_TTTFF (r : Rec) (bv av uv : Value) (w : World) (h : RecAt w r bv av uv) :
    Calls Tryz.prog 127 #[.agg (recCells r bv av uv), .bool true, .bool true, .bool true, .bool false, .bool false] w fun e w' => e = .returned (.bool (emptyB true true true false false r)) ∧ New w w' := by
  obtain ⟨⟨bp, bc, rfl, b1, b2, _⟩, ⟨ap, ac, rfl, a1, a2, _⟩, ⟨up, uc, rfl, l1, l2, _⟩⟩ := h
  unfold maxLen at a2 b2 l2
  unfold recCells
  go_enter Tryz.func127, Tryz.ntmps127
  go_wp2
  all_goals go_ret
  all_goals refine ⟨ret_bool ?_, (New.refl w).alloc _ _⟩
  all_goals rw [Bool.eq_iff_iff]
  all_goals (try simp only [bne_iff_ne, ne_eq, bne_eq_false_iff_eq, beq_iff_eq, beq_eq_false_iff_ne, List.isEmpty_iff, toList_nil, decide_eq_false_iff_not, decide_eq_true_eq] at *)
  all_goals (simp only [laidB, emptyB, nb, nu, nt, Bool.and_eq_true, Bool.or_eq_true, decide_eq_true_eq, Bool.true_and, Bool.false_and, Bool.and_false, Bool.false_eq_true, false_iff, iff_false, Bool.true_or, Bool.false_or, true_or, false_or, true_and, and_true, true_iff, iff_true])
  all_goals (try simp only [empty_iff, toList_nil] at *)
  all_goals (try omega)

set_option maxHeartbeats 4000000 in
set_option maxRecDepth 10000 in
theorem empty_FFFFF (r : Rec) (bv av uv : Value) (w : World) (h : RecAt w r bv av uv) :
    Calls Tryz.prog 127 #[.agg (recCells r bv av uv), .bool false, .bool false, .bool false, .bool false, .bool false] w fun e w' => e = .returned (.bool (emptyB false false false false false r)) ∧ New w w' := by
  obtain ⟨⟨bp, bc, rfl, b1, b2, _⟩, ⟨ap, ac, rfl, a1, a2, _⟩, ⟨up, uc, rfl, l1, l2, _⟩⟩ := h
  unfold maxLen at a2 b2 l2
  unfold recCells
  go_enter Tryz.func127, Tryz.ntmps127
  go_wp2
  all_goals go_ret
  all_goals refine ⟨ret_bool ?_, (New.refl w).alloc _ _⟩
  all_goals rw [Bool.eq_iff_iff]
  all_goals (try simp only [bne_iff_ne, ne_eq, bne_eq_false_iff_eq, beq_iff_eq, beq_eq_false_iff_ne, List.isEmpty_iff, toList_nil, decide_eq_false_iff_not, decide_eq_true_eq] at *)
  all_goals (simp only [laidB, emptyB, nb, nu, nt, Bool.and_eq_true, Bool.or_eq_true, decide_eq_true_eq, Bool.true_and, Bool.false_and, Bool.and_false, Bool.false_eq_true, false_iff, iff_false, Bool.true_or, Bool.false_or, true_or, false_or, true_and, and_true, true_iff, iff_true])
  all_goals (try simp only [empty_iff, toList_nil] at *)
  all_goals (try omega)

set_option maxHeartbeats 4000000 in
set_option maxRecDepth 10000 in
theorem empty_FFFTF (r : Rec) (bv av uv : Value) (w : World) (h : RecAt w r bv av uv) :
    Calls Tryz.prog 127 #[.agg (recCells r bv av uv), .bool false, .bool false, .bool false, .bool true, .bool false] w fun e w' => e = .returned (.bool (emptyB false false false true false r)) ∧ New w w' := by
  obtain ⟨⟨bp, bc, rfl, b1, b2, _⟩, ⟨ap, ac, rfl, a1, a2, _⟩, ⟨up, uc, rfl, l1, l2, _⟩⟩ := h
  unfold maxLen at a2 b2 l2
  unfold recCells
  go_enter Tryz.func127, Tryz.ntmps127
  go_wp2
  all_goals go_ret
  all_goals refine ⟨ret_bool ?_, (New.refl w).alloc _ _⟩
  all_goals rw [Bool.eq_iff_iff]
  all_goals (try simp only [bne_iff_ne, ne_eq, bne_eq_false_iff_eq, beq_iff_eq, beq_eq_false_iff_ne, List.isEmpty_iff, toList_nil, decide_eq_false_iff_not, decide_eq_true_eq] at *)
  all_goals (simp only [laidB, emptyB, nb, nu, nt, Bool.and_eq_true, Bool.or_eq_true, decide_eq_true_eq, Bool.true_and, Bool.false_and, Bool.and_false, Bool.false_eq_true, false_iff, iff_false, Bool.true_or, Bool.false_or, true_or, false_or, true_and, and_true, true_iff, iff_true])
  all_goals (try simp only [empty_iff, toList_nil] at *)
  all_goals (try omega)

set_option maxHeartbeats 4000000 in
set_option maxRecDepth 10000 in
theorem empty_FFFFT (r : Rec) (bv av uv : Value) (w : World) (h : RecAt w r bv av uv) :
    Calls Tryz.prog 127 #[.agg (recCells r bv av uv), .bool false, .bool false, .bool false, .bool false, .bool true] w fun e w' => e = .returned (.bool (emptyB false false false false true r)) ∧ New w w' := by
  obtain ⟨⟨bp, bc, rfl, b1, b2, _⟩, ⟨ap, ac, rfl, a1, a2, _⟩, ⟨up, uc, rfl, l1, l2, _⟩⟩ := h
  unfold maxLen at a2 b2 l2
  unfold recCells
  go_enter Tryz.func127, Tryz.ntmps127
  go_wp2
  all_goals go_ret
  all_goals refine ⟨ret_bool ?_, (New.refl w).alloc _ _⟩
  all_goals rw [Bool.eq_iff_iff]
  all_goals (try simp only [bne_iff_ne, ne_eq, bne_eq_false_iff_eq, beq_iff_eq, beq_eq_false_iff_ne, List.isEmpty_iff, toList_nil, decide_eq_false_iff_not, decide_eq_true_eq] at *)
  all_goals (simp only [laidB, emptyB, nb, nu, nt, Bool.and_eq_true, Bool.or_eq_true, decide_eq_true_eq, Bool.true_and, Bool.false_and, Bool.and_false, Bool.false_eq_true, false_iff, iff_false, Bool.true_or, Bool.false_or, true_or, false_or, true_and, and_true, true_iff, iff_true])
  all_goals (try simp only [empty_iff, toList_nil] at *)
  all_goals (try omega)


end Go.Proofs.YtdccbceaajnajaaGreat
