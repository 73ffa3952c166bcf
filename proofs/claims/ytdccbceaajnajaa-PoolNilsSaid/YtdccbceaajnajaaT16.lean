/- What progenyref03.Encode returns for sound records of each kind but marks (printed by renc.py). -/
import Derived.Test.YtdccbceaajnajaaT10
import Derived.Test.YtdccbceaajnajaaT15
import Derived.Deep.RegionHeld3
import Derived.Deep.CutRange
import Derived.Deep.DeepCutAuto
import Derived.Deep.DrawnRows
namespace Go.Proofs.Ytdccbceaajnajaa
open Go.RowKit
set_option linter.unusedSimpArgs false
set_option linter.unusedVariables false
attribute [local go_sem ↓] Go.wp_at_zero Go.wp_at_succ
theorem wrap_at (n : Int) (h : 0 ≤ n ∧ n ≤ 127) : IntKind.u8.wrap n = n := by simp [IntKind.wrap, IntKind.bits, IntKind.signed]; omega
theorem enc_back {n : Int} {r : Rec} {S : List UInt8} (hS : S = headB n r ++ restB r) {W W0 w : World} {base : Nat} {v : Value} {us : List (Value × List UInt8)} (st : St W W0 base w v (numB ((S.length : Int) + 4) ++ S) us) : BytesBack (bytesOf (encB n r)) W (.returned (.tuple #[v, .int .i64 0])) w := by
  have e : numB ((S.length : Int) + 4) ++ S = encB n r := by
    unfold encB
    rw [← hS, Int.add_comm]
  rw [e] at st
  exact ⟨_, rfl, own_bytes st.own (by rw [bytesOf_size]) (u8s_bytes _), st.below⟩

end Go.Proofs.Ytdccbceaajnajaa
