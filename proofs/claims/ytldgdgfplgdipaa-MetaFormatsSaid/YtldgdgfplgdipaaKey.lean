/-
  The walks of package key and of its reference: what each function gives, said once.
-/
import Derived.Test.YtldgdgfplgdipaaProg
import Derived.Test.YtldgdgfplgdipaaPKey
import Derived.Test.YtldgdgfplgdipaaMem
namespace Go.Proofs.Ytldgdgfplgdipaa.Key
open Go.RowKit

end Go.Proofs.Ytldgdgfplgdipaa.Key
