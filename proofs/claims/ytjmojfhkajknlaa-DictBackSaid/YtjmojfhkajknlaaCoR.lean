/- The walks of the document's own writers. -/
import Derived.Test.YtjmojfhkajknlaaCoS
namespace Go.Proofs.Ytjmojfhkajknlaa
open Go.RowKit
set_option linter.unusedVariables false
set_option linter.unusedSimpArgs false
end Go.Proofs.Ytjmojfhkajknlaa
