/-
  A part of the proof: contracts of inner functions.
-/
import Derived.Test.YthhohpbghfbkbaaProg
import Derived.Shelf.SortM.Plain
import Derived.Shelf.SortM.SortNone
import Derived.Test.YthhohpbghfbkbaaAmU3
set_option linter.unusedVariables false
namespace Go.Proofs.Ythhohpbghfbkbaa
open Go.RowKit Go.Maps Go.Sort Go.Proofs Go.Shelf Go.Am

shelf_lay_g SlLaysM.n5 Slgm 5 at Try 45 as Try.sortA

theorem sortLaw : SortLaw Try.prog 45 := fun blk off cap zs w hH hb hl => AnyM.slices_Sort_int Try.sortA blk off cap zs w hH hb hl
theorem sortNil : SortNil Try.prog 45 := fun c w => AnyM.slices_Sort_int_none Try.sortA none c w
theorem sortF50 : SoundF Try.prog 45 sortS := sortF sortLaw sortNil
#print axioms sortF50
end Go.Proofs.Ythhohpbghfbkbaa
