/-
  Cut texts: both agree, if the chapter's example is right.
-/
import Derived.Test.YtkpblibaddjcgaaDoorPGr7
import Derived.Test.YtkpblibaddjcgaaDoorPGr2
namespace Go.Qd
open Go Go.Proofs
end Go.Qd
