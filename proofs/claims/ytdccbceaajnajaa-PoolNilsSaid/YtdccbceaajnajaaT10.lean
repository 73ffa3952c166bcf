/- What progenyref03.Valid returns at a mark; and at each record (printed by rvalid6.py). -/
import Derived.Test.YtdccbceaajnajaaT9
import Derived.Test.YtdccbceaajnajaaA13
namespace Go.Proofs.Ytdccbceaajnajaa
open Go.RowKit
set_option linter.unusedSimpArgs false
set_option linter.unusedVariables false

end Go.Proofs.Ytdccbceaajnajaa

