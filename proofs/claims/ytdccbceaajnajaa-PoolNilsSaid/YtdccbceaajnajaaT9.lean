/- What progenyref03.Valid returns, at each kind but a mark (printed by rvalid2.py). -/
import Derived.Test.YtdccbceaajnajaaT8
namespace Go.Proofs.Ytdccbceaajnajaa
open Go.RowKit
set_option linter.unusedSimpArgs false
set_option linter.unusedVariables false

end Go.Proofs.Ytdccbceaajnajaa
