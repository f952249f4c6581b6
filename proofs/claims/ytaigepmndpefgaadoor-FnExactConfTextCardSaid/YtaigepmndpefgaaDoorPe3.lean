/- Plain facts on the mirrors of the functions are proved here. -/
import Derived.Test.YtaigepmndpefgaaDoorPe2
set_option linter.all false
namespace Go.Tw
open Go Go.RowKit Go.Proofs
def itoaC (n : Int) := itoaM (n, ())
def joinC (l : List ByteArray) (s : ByteArray) := joinM (l, s, ())
end Go.Tw
