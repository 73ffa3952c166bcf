/- The specification's reader of bytes: Text, NewReader. -/
import Derived.Test.YtdccbceaajnajaaT3
namespace Go.Proofs.Ytdccbceaajnajaa
open Go.RowKit
set_option linter.unusedSimpArgs false
set_option linter.unusedVariables false

theorem rdText_none : rdText none = (ByteArray.empty, none) := rfl
theorem rdText_nil : rdText (some []) = (ByteArray.empty, none) := rfl
theorem rdText_cons (a : UInt8) (l : List UInt8) : rdText (some (a :: l)) = if a.toNat ≤ l.length then (bytesOf (l.take a.toNat), some (l.drop a.toNat)) else (ByteArray.empty, none) := by
  have e : rdSmall (some (a :: l)) = ((a.toNat : Int), some l) := by
    have : rdTake 1 (some (a :: l)) = (some [a], some l) := by simp [rdTake]
    simp [rdSmall, this, valB]
  simp only [rdText, e, Int.toNat_natCast, rdTake]
  split
  · rfl
  · rfl
theorem refTake_at (x : Nat) (m : Int) (n : Nat) (s : RS) (w : World) (hm : m = n) (h : QdAt w x s) (hn : n ≤ 1000) : Calls Try.prog 44 #[.pointer (some ⟨x, 0, none⟩), .int .i64 m] w (QTakeBack x n s w) := by
  subst hm; exact refTake_any x n s w h hn

end Go.Proofs.Ytdccbceaajnajaa
