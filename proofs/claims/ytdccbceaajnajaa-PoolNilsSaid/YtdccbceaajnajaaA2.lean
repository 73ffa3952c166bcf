/- What bytes.Equal and slices.Equal at []api.Open return, for all slices. -/
import Derived.Test.YtdccbceaajnajaaProg
import Derived.Test.YtdccbceaajnajaaA0
namespace Go.Proofs.Ytdccbceaajnajaa
open Go.RowKit

theorem opn_eq {a b : Opn} (h1 : a.unit = b.unit) (h2 : a.next = b.next) (h3 : a.ready.toList = b.ready.toList) : a = b := by
  cases a; cases b; simp only at h1 h2 h3
  rw [h1, h2, str_eq h3]

end Go.Proofs.Ytdccbceaajnajaa
