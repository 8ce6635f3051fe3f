/-
  A part of the proof: contracts of inner functions.
-/
import Derived.Test.YtlnglgpipkmiaaaGreatPM
set_option linter.unusedVariables false
set_option linter.unusedSimpArgs false
namespace Go.Proofs.YtlnglgpipkmiaaaGreat
open Go.Am
set_option maxRecDepth 100000 in
theorem holdsTrue : lawTrue Tryz.prog (tabO []) 3000 12 = true := by kernel_rfl
theorem holdsF : SoundF Tryz.prog 12 trueS := closedF (tab_sound .nil) orders holdsTrue
theorem OPok : SoundO Tryz.prog OP := tab_sound (.cons atF (.cons wordsF (.cons bucketF (.cons holdsF .nil))))
end Go.Proofs.YtlnglgpipkmiaaaGreat
