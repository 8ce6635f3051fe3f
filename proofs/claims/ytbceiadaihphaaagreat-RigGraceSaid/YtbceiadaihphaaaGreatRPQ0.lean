/-
  A part of the proof: contracts of inner functions.
-/
import Derived.Test.YtbceiadaihphaaaGreatPM
set_option linter.unusedVariables false
set_option linter.unusedSimpArgs false
namespace Go.Proofs.YtbceiadaihphaaaGreat
open Go.Am
set_option maxRecDepth 100000 in
theorem showsTrue : lawTrue Tryz.prog (tabO []) 3000 10 = true := by kernel_rfl
theorem showsF : SoundF Tryz.prog 10 trueS := closedF (tab_sound .nil) orders showsTrue
set_option maxRecDepth 100000 in
theorem awakeTrue : lawTrue Tryz.prog (tabO []) 3000 16 = true := by kernel_rfl
theorem awakeF : SoundF Tryz.prog 16 trueS := closedF (tab_sound .nil) orders awakeTrue
theorem OPok : SoundO Tryz.prog OP := tab_sound (.cons atF (.cons wordsF (.cons bucketF (.cons showsF (.cons awakeF .nil)))))
end Go.Proofs.YtbceiadaihphaaaGreat
