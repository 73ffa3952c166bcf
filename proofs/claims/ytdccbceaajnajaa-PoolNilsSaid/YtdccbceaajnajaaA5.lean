/- What progenyref03.SameRecord returns, for every two records. -/
import Derived.Test.YtdccbceaajnajaaA4
namespace Go.Proofs.Ytdccbceaajnajaa
open Go.RowKit

end Go.Proofs.Ytdccbceaajnajaa
