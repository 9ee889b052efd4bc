/- The walks of the document's writers: joined bytes, numbers, numbers of either sign. -/
import Derived.Test.YtjmojfhkajknlaaCoR
namespace Go.Proofs.Ytjmojfhkajknlaa
open Go.RowKit
set_option linter.unusedVariables false
set_option linter.unusedSimpArgs false
end Go.Proofs.Ytjmojfhkajknlaa
