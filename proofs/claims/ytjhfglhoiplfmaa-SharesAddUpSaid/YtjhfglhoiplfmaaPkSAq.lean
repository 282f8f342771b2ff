/- Where the kit finds functions of the library in this program; written by the kit and turned by a program. -/
import Derived.Test.YtjhfglhoiplfmaaChecked
import Derived.Shelf.Strings.Trim
import Derived.Shelf.Strings.SlTrimAscii
namespace Go.Proofs.Ytjhfglhoiplfmaa
open Go.Shelf
end Go.Proofs.Ytjhfglhoiplfmaa
