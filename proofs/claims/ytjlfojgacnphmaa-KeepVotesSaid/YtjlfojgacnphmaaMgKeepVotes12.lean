/- Texts of this claim, several in one: DIt, D7. -/
import Derived.Test.YtjlfojgacnphmaaMgKeepVotes11
import Derived.Shelf.SlIter.Nil
import Derived.Shelf.SortM.Plain
import Derived.Shelf.SortM.SortNone
import Derived.Ground.GgzProg
import Derived.Ground.SlgmProg
import Derived.Test.YtjlfojgacnphmaaProg
namespace Go.Proofs.Ytjlfojgacnphmaa
open Go.RowKit Go.Maps Go.Sort Go.Shelf
end Go.Proofs.Ytjlfojgacnphmaa

namespace Go.Proofs.Ytjlfojgacnphmaa
open Go.RowKit Go.Maps Go.Sort Go.Shelf
end Go.Proofs.Ytjlfojgacnphmaa
