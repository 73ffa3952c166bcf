/- What tape.SameRecord returns, for every two records. -/
import Derived.Test.YtmchbciofdokfaaA2
import Derived.Test.YtmchbciofdokfaaA3
namespace Go.Proofs.Ytmchbciofdokfaa
open Go.RowKit

theorem rec_ne {r s : Rec} : ¬ (r.kind = s.kind ∧ r.unit = s.unit ∧ r.page = s.page ∧ r.at_ = s.at_ ∧ r.back = s.back ∧ r.next = s.next ∧ r.text.toList = s.text.toList ∧ r.before = s.before ∧ r.after = s.after ∧ r.units = s.units) → decide (r = s) = false := by
  intro h
  rw [decide_eq_false_iff_not]
  rintro rfl
  exact h (by simp)
theorem rec_eq {r s : Rec} (h : r.kind = s.kind ∧ r.unit = s.unit ∧ r.page = s.page ∧ r.at_ = s.at_ ∧ r.back = s.back ∧ r.next = s.next ∧ r.text.toList = s.text.toList ∧ r.before = s.before ∧ r.after = s.after) : decide (r = s) = decide (r.units = s.units) := by
  obtain ⟨h1, h2, h3, h4, h5, h6, h7, h8, h9⟩ := h
  cases r; cases s
  simp only at *
  have h7 := str_eq h7
  subst h1 h2 h3 h4 h5 h6 h7 h8 h9
  simp
theorem new2 (w : World) (c d : Array Value) (t u : TypeId) : New w ((w.alloc (.cells c t)).alloc (.cells d u)) := ((Below.refl _ _).alloc (Nat.le_refl _) _).alloc (by simp) _

end Go.Proofs.Ytmchbciofdokfaa
