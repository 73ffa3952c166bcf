/- What progenyref03.isNumber, laid, empty return (printed by rvalid.py). -/
import Derived.Test.YtdccbceaajnajaaA10
namespace Go.Proofs.Ytdccbceaajnajaa
open Go.RowKit
set_option linter.unusedSimpArgs false
set_option linter.unusedVariables false

theorem empty_iff (s : ByteArray) : s = ByteArray.empty ↔ s.size = 0 := by
  constructor
  · intro h; subst h; rfl
  · intro h; exact ByteArray.ext (Array.eq_empty_of_size_eq_zero h)
def laidB (r : Rec) : Bool := decide (0 ≤ r.page) && decide (r.page < 120) && decide (0 ≤ r.at_) && decide (r.at_ < 128) && decide (1 ≤ (r.after.size : Int)) && decide ((r.after.size : Int) ≤ 128 - r.at_)
theorem laidB_eq (r : Rec) : laidB r = placeB r := by
  rw [Bool.eq_iff_iff]
  simp only [laidB, placeB, Bool.and_eq_true, decide_eq_true_eq, wi_iff]
  omega
def emptyB (p b k t u : Bool) (r : Rec) : Bool := (p || (decide (r.page = 0) && decide (r.at_ = 0))) && (b || (decide (r.before.size = 0) && decide (r.after.size = 0))) && (k || nb r) && (t || nt r) && (u || nu r)

end Go.Proofs.Ytdccbceaajnajaa
