/- Contracts of strings.IndexAny, laid by the kit's tool. -/
import Derived.Test.YtenamjldkaggcaaGreatDoorShelf
import Derived.Shelf.Strings.IndexAny
import Derived.Shelf.Strings.IndexAnyAll
namespace Go.Proofs
open Go.Shelf
open Go.RowKit Go.Lib

end Go.Proofs
