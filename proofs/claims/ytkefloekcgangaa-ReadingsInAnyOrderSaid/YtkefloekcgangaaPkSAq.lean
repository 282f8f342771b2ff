/- Where the kit finds functions of the library in this program; written by the kit and turned by a program. -/
import Derived.Test.YtkefloekcgangaaChecked
import Derived.Shelf.Strings.Trim
import Derived.Shelf.Strings.SlTrimAscii
namespace Go.Proofs.Ytkefloekcgangaa
open Go.Shelf
end Go.Proofs.Ytkefloekcgangaa
