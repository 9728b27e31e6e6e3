/-
  slices.SortFunc at timers' pointers and at pairs: the library's contracts, laid at this program.
-/
import Derived.Test.YtogfllhbgkeinaaProg
import Derived.Shelf.SlSortCmp.NoneTotal
import Derived.Shelf.Lay
import Derived.Ground.SlsfProg
namespace Go.Proofs
open Go.Shelf
shelf_lay_g SlLaysF.n6 Slsf 6 at Try 32 as Try.sortT
shelf_lay_g SlLaysF0.n6 Slsf 6 at Try 46 as Try.sortP
end Go.Proofs
