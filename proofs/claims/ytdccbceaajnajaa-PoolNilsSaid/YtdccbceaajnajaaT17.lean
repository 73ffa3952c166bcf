/- What progenyref03.Encode returns at a mark, and at each record (printed by renc6.py). -/
import Derived.Test.YtdccbceaajnajaaT16
namespace Go.Proofs.Ytdccbceaajnajaa
open Go.RowKit
set_option linter.unusedSimpArgs false
set_option linter.unusedVariables false
attribute [local go_sem ↓] Go.wp_at_zero Go.wp_at_succ
theorem St.back {W W0 W1 w : World} {base : Nat} {v : Value} {S : List UInt8} {us : List (Value × List UInt8)} (h : St W W1 base w v S us) (hk : Keep4 W0 W1) : St W W0 base w v S us :=
  ⟨h.own, h.rows, h.below, h.hB, h.hw, hk.trans h.keep⟩
theorem St.same {W W0 w : World} {base : Nat} {v : Value} {S T : List UInt8} {us : List (Value × List UInt8)} (h : St W W0 base w v S us) (e : S = T) : St W W0 base w v T us := e ▸ h

end Go.Proofs.Ytdccbceaajnajaa
