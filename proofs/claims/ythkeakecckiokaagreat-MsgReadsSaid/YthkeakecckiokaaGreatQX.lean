import Derived.Test.YthkeakecckiokaaGreatQPhase
import Derived.Test.YthkeakecckiokaaGreatQU
namespace Go.Qd
open Go
end Go.Qd
