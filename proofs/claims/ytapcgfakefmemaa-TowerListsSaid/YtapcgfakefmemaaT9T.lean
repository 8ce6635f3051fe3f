/-
  What the program's types are, in the abstract machine's words: read off the program by program.
-/
import Derived.Test.YtapcgfakefmemaaProg
import Derived.Test.YtapcgfakefmemaaAmX9
set_option linter.unusedVariables false
set_option maxRecDepth 100000
namespace Go.Proofs.Ytapcgfakefmemaa
open Go.Am

attribute [go_sem] Try.underlying0
@[go_sem] theorem sz0 : szT Try.prog 0 = some 1 := rfl
@[go_sem] theorem ag0 : agT Try.prog 0 = some false := rfl
attribute [go_sem] Try.underlying1
@[go_sem] theorem sz1 : szT Try.prog 1 = some 1 := rfl
@[go_sem] theorem ag1 : agT Try.prog 1 = some false := rfl
@[go_sem] theorem zc1 : zcT Try.prog 1 = some [.nilFunc] := rfl
attribute [go_sem] Try.underlying2
@[go_sem] theorem sz2 : szT Try.prog 2 = some 1 := rfl
@[go_sem] theorem ag2 : agT Try.prog 2 = some false := rfl
@[go_sem] theorem zc2 : zcT Try.prog 2 = some [.int .i64 0] := rfl
attribute [go_sem] Try.underlying3
@[go_sem] theorem sz3 : szT Try.prog 3 = some 1 := rfl
@[go_sem] theorem ag3 : agT Try.prog 3 = some false := rfl
@[go_sem] theorem zc3 : zcT Try.prog 3 = some [.int .i64 0] := rfl
attribute [go_sem] Try.underlying4
@[go_sem] theorem sz4 : szT Try.prog 4 = some 1 := rfl
@[go_sem] theorem ag4 : agT Try.prog 4 = some false := rfl
@[go_sem] theorem zc4 : zcT Try.prog 4 = some [.bool false] := rfl
attribute [go_sem] Try.underlying5
@[go_sem] theorem sz5 : szT Try.prog 5 = some 1 := rfl
@[go_sem] theorem ag5 : agT Try.prog 5 = some false := rfl
@[go_sem] theorem zc5 : zcT Try.prog 5 = some [.int .u8 0] := rfl
attribute [go_sem] Try.underlying6
@[go_sem] theorem sz6 : szT Try.prog 6 = some 1 := rfl
@[go_sem] theorem ag6 : agT Try.prog 6 = some false := rfl
@[go_sem] theorem zc6 : zcT Try.prog 6 = some [.int .u8 0] := rfl
attribute [go_sem] Try.underlying7
@[go_sem] theorem sz7 : szT Try.prog 7 = some 4 := rfl
@[go_sem] theorem ag7 : agT Try.prog 7 = some true := rfl
@[go_sem] theorem zc7 : zcT Try.prog 7 = some [.int .i64 0, .int .i64 0, .bool false, .int .u8 0] := rfl
@[go_sem] theorem bd7 : bdT Try.prog 7 = some ([.int .i64 0, .int .i64 0, .bool false, .int .u8 0], fun j => [(0, 1), (1, 1), (2, 1), (3, 1)][j]?) := rfl
@[go_sem] theorem fa7_0 : faT Try.prog 7 0 = some (0, 1) := rfl
@[go_sem] theorem fd7_0 : fdT Try.prog 7 0 = some (0, 1, false) := rfl
@[go_sem] theorem fa7_1 : faT Try.prog 7 1 = some (1, 1) := rfl
@[go_sem] theorem fd7_1 : fdT Try.prog 7 1 = some (1, 1, false) := rfl
@[go_sem] theorem fa7_2 : faT Try.prog 7 2 = some (2, 1) := rfl
@[go_sem] theorem fd7_2 : fdT Try.prog 7 2 = some (2, 1, false) := rfl
@[go_sem] theorem fa7_3 : faT Try.prog 7 3 = some (3, 1) := rfl
@[go_sem] theorem fd7_3 : fdT Try.prog 7 3 = some (3, 1, false) := rfl
attribute [go_sem] Try.underlying8
@[go_sem] theorem sz8 : szT Try.prog 8 = some 4 := rfl
@[go_sem] theorem ag8 : agT Try.prog 8 = some true := rfl
@[go_sem] theorem zc8 : zcT Try.prog 8 = some [.int .i64 0, .int .i64 0, .bool false, .int .u8 0] := rfl
@[go_sem] theorem bd8 : bdT Try.prog 8 = some ([.int .i64 0, .int .i64 0, .bool false, .int .u8 0], fun j => [(0, 1), (1, 1), (2, 1), (3, 1)][j]?) := rfl
@[go_sem] theorem fa8_0 : faT Try.prog 8 0 = some (0, 1) := rfl
@[go_sem] theorem fd8_0 : fdT Try.prog 8 0 = some (0, 1, false) := rfl
@[go_sem] theorem fa8_1 : faT Try.prog 8 1 = some (1, 1) := rfl
@[go_sem] theorem fd8_1 : fdT Try.prog 8 1 = some (1, 1, false) := rfl
@[go_sem] theorem fa8_2 : faT Try.prog 8 2 = some (2, 1) := rfl
@[go_sem] theorem fd8_2 : fdT Try.prog 8 2 = some (2, 1, false) := rfl
@[go_sem] theorem fa8_3 : faT Try.prog 8 3 = some (3, 1) := rfl
@[go_sem] theorem fd8_3 : fdT Try.prog 8 3 = some (3, 1, false) := rfl
attribute [go_sem] Try.underlying9
@[go_sem] theorem sz9 : szT Try.prog 9 = some 1 := rfl
@[go_sem] theorem ag9 : agT Try.prog 9 = some false := rfl
@[go_sem] theorem zc9 : zcT Try.prog 9 = some [.string ⟨#[]⟩] := rfl
attribute [go_sem] Try.underlying10
@[go_sem] theorem sz10 : szT Try.prog 10 = some 1 := rfl
@[go_sem] theorem ag10 : agT Try.prog 10 = some false := rfl
@[go_sem] theorem zc10 : zcT Try.prog 10 = some [.string ⟨#[]⟩] := rfl
attribute [go_sem] Try.underlying11
@[go_sem] theorem sz11 : szT Try.prog 11 = some 1 := rfl
@[go_sem] theorem ag11 : agT Try.prog 11 = some false := rfl
@[go_sem] theorem zc11 : zcT Try.prog 11 = some [.string ⟨#[]⟩] := rfl
attribute [go_sem] Try.underlying12
@[go_sem] theorem sz12 : szT Try.prog 12 = some 1 := rfl
@[go_sem] theorem ag12 : agT Try.prog 12 = some false := rfl
@[go_sem] theorem zc12 : zcT Try.prog 12 = some [.int .u64 0] := rfl
attribute [go_sem] Try.underlying13
@[go_sem] theorem sz13 : szT Try.prog 13 = some 2 := rfl
@[go_sem] theorem ag13 : agT Try.prog 13 = some true := rfl
@[go_sem] theorem zc13 : zcT Try.prog 13 = some [.string ⟨#[]⟩, .int .u64 0] := rfl
@[go_sem] theorem bd13 : bdT Try.prog 13 = some ([.string ⟨#[]⟩, .int .u64 0], fun j => [(0, 1), (1, 1)][j]?) := rfl
@[go_sem] theorem fa13_0 : faT Try.prog 13 0 = some (0, 1) := rfl
@[go_sem] theorem fd13_0 : fdT Try.prog 13 0 = some (0, 1, false) := rfl
@[go_sem] theorem fa13_1 : faT Try.prog 13 1 = some (1, 1) := rfl
@[go_sem] theorem fd13_1 : fdT Try.prog 13 1 = some (1, 1, false) := rfl
attribute [go_sem] Try.underlying14
@[go_sem] theorem sz14 : szT Try.prog 14 = some 2 := rfl
@[go_sem] theorem ag14 : agT Try.prog 14 = some true := rfl
@[go_sem] theorem zc14 : zcT Try.prog 14 = some [.string ⟨#[]⟩, .int .u64 0] := rfl
@[go_sem] theorem bd14 : bdT Try.prog 14 = some ([.string ⟨#[]⟩, .int .u64 0], fun j => [(0, 1), (1, 1)][j]?) := rfl
@[go_sem] theorem fa14_0 : faT Try.prog 14 0 = some (0, 1) := rfl
@[go_sem] theorem fd14_0 : fdT Try.prog 14 0 = some (0, 1, false) := rfl
@[go_sem] theorem fa14_1 : faT Try.prog 14 1 = some (1, 1) := rfl
@[go_sem] theorem fd14_1 : fdT Try.prog 14 1 = some (1, 1, false) := rfl
attribute [go_sem] Try.underlying15
@[go_sem] theorem sz15 : szT Try.prog 15 = some 1 := rfl
@[go_sem] theorem ag15 : agT Try.prog 15 = some false := rfl
@[go_sem] theorem zc15 : zcT Try.prog 15 = some [.pointer none] := rfl
attribute [go_sem] Try.underlying16
@[go_sem] theorem sz16 : szT Try.prog 16 = some 1 := rfl
@[go_sem] theorem ag16 : agT Try.prog 16 = some false := rfl
@[go_sem] theorem zc16 : zcT Try.prog 16 = some [.pointer none] := rfl
attribute [go_sem] Try.underlying17
@[go_sem] theorem sz17 : szT Try.prog 17 = some 1 := rfl
@[go_sem] theorem ag17 : agT Try.prog 17 = some false := rfl
@[go_sem] theorem zc17 : zcT Try.prog 17 = some [.pointer none] := rfl
attribute [go_sem] Try.underlying18
@[go_sem] theorem sz18 : szT Try.prog 18 = some 1 := rfl
@[go_sem] theorem ag18 : agT Try.prog 18 = some true := rfl
@[go_sem] theorem zc18 : zcT Try.prog 18 = some [.pointer none] := rfl
@[go_sem] theorem bd18 : bdT Try.prog 18 = some ([.pointer none], fun j => [(0, 1)][j]?) := rfl
@[go_sem] theorem fa18_0 : faT Try.prog 18 0 = some (0, 1) := rfl
@[go_sem] theorem fd18_0 : fdT Try.prog 18 0 = some (0, 1, false) := rfl
attribute [go_sem] Try.underlying19
@[go_sem] theorem sz19 : szT Try.prog 19 = some 1 := rfl
@[go_sem] theorem ag19 : agT Try.prog 19 = some true := rfl
@[go_sem] theorem zc19 : zcT Try.prog 19 = some [.pointer none] := rfl
@[go_sem] theorem bd19 : bdT Try.prog 19 = some ([.pointer none], fun j => [(0, 1)][j]?) := rfl
@[go_sem] theorem fa19_0 : faT Try.prog 19 0 = some (0, 1) := rfl
@[go_sem] theorem fd19_0 : fdT Try.prog 19 0 = some (0, 1, false) := rfl
attribute [go_sem] Try.underlying20
@[go_sem] theorem sz20 : szT Try.prog 20 = some 1 := rfl
@[go_sem] theorem ag20 : agT Try.prog 20 = some false := rfl
@[go_sem] theorem zc20 : zcT Try.prog 20 = some [.nilIface] := rfl
attribute [go_sem] Try.underlying21
@[go_sem] theorem sz21 : szT Try.prog 21 = some 1 := rfl
@[go_sem] theorem ag21 : agT Try.prog 21 = some false := rfl
@[go_sem] theorem zc21 : zcT Try.prog 21 = some [.int .i32 0] := rfl
attribute [go_sem] Try.underlying22
@[go_sem] theorem sz22 : szT Try.prog 22 = some 6 := rfl
@[go_sem] theorem ag22 : agT Try.prog 22 = some true := rfl
@[go_sem] theorem zc22 : zcT Try.prog 22 = some [.int .u8 0, .int .u8 0, .int .u8 0, .int .u8 0, .int .u8 0, .int .u8 0] := rfl
@[go_sem] theorem bd22 : bdT Try.prog 22 = some ([.int .u8 0, .int .u8 0, .int .u8 0, .int .u8 0, .int .u8 0, .int .u8 0], fun j => some (j * 1, 1)) := rfl
@[go_sem] theorem ia22 : iaT Try.prog 22 = some (some 6, 1) := rfl
@[go_sem] theorem ix22 : ixT Try.prog 22 = some (6, 1, false) := rfl
attribute [go_sem] Try.underlying23
@[go_sem] theorem sz23 : szT Try.prog 23 = some 1 := rfl
@[go_sem] theorem ag23 : agT Try.prog 23 = some false := rfl
@[go_sem] theorem zc23 : zcT Try.prog 23 = some [.slice none 0 0] := rfl
@[go_sem] theorem ia23 : iaT Try.prog 23 = some (none, 2) := rfl
@[go_sem] theorem el23 : elT Try.prog 23 = some (2, 16, [.int .i64 0, .int .u64 0]) := rfl
@[go_sem] theorem ap23 : apT Try.prog 23 23 = some (2, 16, 2) := rfl
attribute [go_sem] Try.underlying24
@[go_sem] theorem sz24 : szT Try.prog 24 = some 1 := rfl
@[go_sem] theorem ag24 : agT Try.prog 24 = some false := rfl
@[go_sem] theorem zc24 : zcT Try.prog 24 = some [.slice none 0 0] := rfl
@[go_sem] theorem ia24 : iaT Try.prog 24 = some (none, 1) := rfl
@[go_sem] theorem el24 : elT Try.prog 24 = some (1, 8, [.int .u64 0]) := rfl
@[go_sem] theorem ap24 : apT Try.prog 24 24 = some (1, 8, 1) := rfl
attribute [go_sem] Try.underlying25
@[go_sem] theorem sz25 : szT Try.prog 25 = some 3 := rfl
@[go_sem] theorem ag25 : agT Try.prog 25 = some true := rfl
@[go_sem] theorem zc25 : zcT Try.prog 25 = some [.int .u8 0, .int .i64 0, .slice none 0 0] := rfl
@[go_sem] theorem bd25 : bdT Try.prog 25 = some ([.int .u8 0, .int .i64 0, .slice none 0 0], fun j => [(0, 1), (1, 1), (2, 1)][j]?) := rfl
@[go_sem] theorem fa25_0 : faT Try.prog 25 0 = some (0, 1) := rfl
@[go_sem] theorem fd25_0 : fdT Try.prog 25 0 = some (0, 1, false) := rfl
@[go_sem] theorem fa25_1 : faT Try.prog 25 1 = some (1, 1) := rfl
@[go_sem] theorem fd25_1 : fdT Try.prog 25 1 = some (1, 1, false) := rfl
@[go_sem] theorem fa25_2 : faT Try.prog 25 2 = some (2, 1) := rfl
@[go_sem] theorem fd25_2 : fdT Try.prog 25 2 = some (2, 1, false) := rfl
attribute [go_sem] Try.underlying26
@[go_sem] theorem sz26 : szT Try.prog 26 = some 3 := rfl
@[go_sem] theorem ag26 : agT Try.prog 26 = some true := rfl
@[go_sem] theorem zc26 : zcT Try.prog 26 = some [.int .u8 0, .int .i64 0, .slice none 0 0] := rfl
@[go_sem] theorem bd26 : bdT Try.prog 26 = some ([.int .u8 0, .int .i64 0, .slice none 0 0], fun j => [(0, 1), (1, 1), (2, 1)][j]?) := rfl
@[go_sem] theorem fa26_0 : faT Try.prog 26 0 = some (0, 1) := rfl
@[go_sem] theorem fd26_0 : fdT Try.prog 26 0 = some (0, 1, false) := rfl
@[go_sem] theorem fa26_1 : faT Try.prog 26 1 = some (1, 1) := rfl
@[go_sem] theorem fd26_1 : fdT Try.prog 26 1 = some (1, 1, false) := rfl
@[go_sem] theorem fa26_2 : faT Try.prog 26 2 = some (2, 1) := rfl
@[go_sem] theorem fd26_2 : fdT Try.prog 26 2 = some (2, 1, false) := rfl
attribute [go_sem] Try.underlying27
@[go_sem] theorem sz27 : szT Try.prog 27 = some 6 := rfl
@[go_sem] theorem ag27 : agT Try.prog 27 = some true := rfl
@[go_sem] theorem zc27 : zcT Try.prog 27 = some [.int .i64 0, .int .i64 0, .int .i64 0, .int .i64 0, .int .i64 0, .int .i64 0] := rfl
@[go_sem] theorem bd27 : bdT Try.prog 27 = some ([.int .i64 0, .int .i64 0, .int .i64 0, .int .i64 0, .int .i64 0, .int .i64 0], fun j => some (j * 1, 1)) := rfl
@[go_sem] theorem ia27 : iaT Try.prog 27 = some (some 6, 1) := rfl
@[go_sem] theorem ix27 : ixT Try.prog 27 = some (6, 1, false) := rfl
attribute [go_sem] Try.underlying28
@[go_sem] theorem sz28 : szT Try.prog 28 = some 16 := rfl
@[go_sem] theorem ag28 : agT Try.prog 28 = some true := rfl
@[go_sem] theorem zc28 : zcT Try.prog 28 = some [.int .i64 0, .int .i64 0, .int .u8 0, .int .i64 0, .int .u8 0, .int .i64 0, .slice none 0 0, .int .i64 0, .int .i64 0, .int .i64 0, .int .i64 0, .int .i64 0, .int .i64 0, .int .i64 0, .int .i64 0, .int .i64 0] := rfl
@[go_sem] theorem bd28 : bdT Try.prog 28 = some ([.int .i64 0, .int .i64 0, .int .u8 0, .int .i64 0, .int .u8 0, .int .i64 0, .slice none 0 0, .int .i64 0, .int .i64 0, .int .i64 0, .int .i64 0, .int .i64 0, .int .i64 0, .int .i64 0, .int .i64 0, .int .i64 0], fun j => [(0, 1), (1, 1), (2, 1), (3, 1), (4, 3), (7, 6), (13, 1), (14, 1), (15, 1)][j]?) := rfl
@[go_sem] theorem fa28_0 : faT Try.prog 28 0 = some (0, 1) := rfl
@[go_sem] theorem fd28_0 : fdT Try.prog 28 0 = some (0, 1, false) := rfl
@[go_sem] theorem fa28_1 : faT Try.prog 28 1 = some (1, 1) := rfl
@[go_sem] theorem fd28_1 : fdT Try.prog 28 1 = some (1, 1, false) := rfl
@[go_sem] theorem fa28_2 : faT Try.prog 28 2 = some (2, 1) := rfl
@[go_sem] theorem fd28_2 : fdT Try.prog 28 2 = some (2, 1, false) := rfl
@[go_sem] theorem fa28_3 : faT Try.prog 28 3 = some (3, 1) := rfl
@[go_sem] theorem fd28_3 : fdT Try.prog 28 3 = some (3, 1, false) := rfl
@[go_sem] theorem fa28_4 : faT Try.prog 28 4 = some (4, 3) := rfl
@[go_sem] theorem fd28_4 : fdT Try.prog 28 4 = some (4, 3, true) := rfl
@[go_sem] theorem fa28_5 : faT Try.prog 28 5 = some (7, 6) := rfl
@[go_sem] theorem fd28_5 : fdT Try.prog 28 5 = some (7, 6, true) := rfl
@[go_sem] theorem fa28_6 : faT Try.prog 28 6 = some (13, 1) := rfl
@[go_sem] theorem fd28_6 : fdT Try.prog 28 6 = some (13, 1, false) := rfl
@[go_sem] theorem fa28_7 : faT Try.prog 28 7 = some (14, 1) := rfl
@[go_sem] theorem fd28_7 : fdT Try.prog 28 7 = some (14, 1, false) := rfl
@[go_sem] theorem fa28_8 : faT Try.prog 28 8 = some (15, 1) := rfl
@[go_sem] theorem fd28_8 : fdT Try.prog 28 8 = some (15, 1, false) := rfl
attribute [go_sem] Try.underlying29
@[go_sem] theorem sz29 : szT Try.prog 29 = some 16 := rfl
@[go_sem] theorem ag29 : agT Try.prog 29 = some true := rfl
@[go_sem] theorem zc29 : zcT Try.prog 29 = some [.int .i64 0, .int .i64 0, .int .u8 0, .int .i64 0, .int .u8 0, .int .i64 0, .slice none 0 0, .int .i64 0, .int .i64 0, .int .i64 0, .int .i64 0, .int .i64 0, .int .i64 0, .int .i64 0, .int .i64 0, .int .i64 0] := rfl
@[go_sem] theorem bd29 : bdT Try.prog 29 = some ([.int .i64 0, .int .i64 0, .int .u8 0, .int .i64 0, .int .u8 0, .int .i64 0, .slice none 0 0, .int .i64 0, .int .i64 0, .int .i64 0, .int .i64 0, .int .i64 0, .int .i64 0, .int .i64 0, .int .i64 0, .int .i64 0], fun j => [(0, 1), (1, 1), (2, 1), (3, 1), (4, 3), (7, 6), (13, 1), (14, 1), (15, 1)][j]?) := rfl
@[go_sem] theorem fa29_0 : faT Try.prog 29 0 = some (0, 1) := rfl
@[go_sem] theorem fd29_0 : fdT Try.prog 29 0 = some (0, 1, false) := rfl
@[go_sem] theorem fa29_1 : faT Try.prog 29 1 = some (1, 1) := rfl
@[go_sem] theorem fd29_1 : fdT Try.prog 29 1 = some (1, 1, false) := rfl
@[go_sem] theorem fa29_2 : faT Try.prog 29 2 = some (2, 1) := rfl
@[go_sem] theorem fd29_2 : fdT Try.prog 29 2 = some (2, 1, false) := rfl
@[go_sem] theorem fa29_3 : faT Try.prog 29 3 = some (3, 1) := rfl
@[go_sem] theorem fd29_3 : fdT Try.prog 29 3 = some (3, 1, false) := rfl
@[go_sem] theorem fa29_4 : faT Try.prog 29 4 = some (4, 3) := rfl
@[go_sem] theorem fd29_4 : fdT Try.prog 29 4 = some (4, 3, true) := rfl
@[go_sem] theorem fa29_5 : faT Try.prog 29 5 = some (7, 6) := rfl
@[go_sem] theorem fd29_5 : fdT Try.prog 29 5 = some (7, 6, true) := rfl
@[go_sem] theorem fa29_6 : faT Try.prog 29 6 = some (13, 1) := rfl
@[go_sem] theorem fd29_6 : fdT Try.prog 29 6 = some (13, 1, false) := rfl
@[go_sem] theorem fa29_7 : faT Try.prog 29 7 = some (14, 1) := rfl
@[go_sem] theorem fd29_7 : fdT Try.prog 29 7 = some (14, 1, false) := rfl
@[go_sem] theorem fa29_8 : faT Try.prog 29 8 = some (15, 1) := rfl
@[go_sem] theorem fd29_8 : fdT Try.prog 29 8 = some (15, 1, false) := rfl
attribute [go_sem] Try.underlying30
@[go_sem] theorem sz30 : szT Try.prog 30 = some 1 := rfl
@[go_sem] theorem ag30 : agT Try.prog 30 = some false := rfl
@[go_sem] theorem zc30 : zcT Try.prog 30 = some [.nilFunc] := rfl
attribute [go_sem] Try.underlying31
@[go_sem] theorem sz31 : szT Try.prog 31 = some 1 := rfl
@[go_sem] theorem ag31 : agT Try.prog 31 = some false := rfl
@[go_sem] theorem zc31 : zcT Try.prog 31 = some [.pointer none] := rfl
attribute [go_sem] Try.underlying32
@[go_sem] theorem sz32 : szT Try.prog 32 = some 1 := rfl
@[go_sem] theorem ag32 : agT Try.prog 32 = some false := rfl
@[go_sem] theorem zc32 : zcT Try.prog 32 = some [.nilFunc] := rfl
attribute [go_sem] Try.underlying33
@[go_sem] theorem sz33 : szT Try.prog 33 = some 1 := rfl
@[go_sem] theorem ag33 : agT Try.prog 33 = some false := rfl
@[go_sem] theorem zc33 : zcT Try.prog 33 = some [.nilFunc] := rfl
attribute [go_sem] Try.underlying34
@[go_sem] theorem sz34 : szT Try.prog 34 = some 1 := rfl
@[go_sem] theorem ag34 : agT Try.prog 34 = some false := rfl
@[go_sem] theorem zc34 : zcT Try.prog 34 = some [.slice none 0 0] := rfl
@[go_sem] theorem ia34 : iaT Try.prog 34 = some (none, 1) := rfl
@[go_sem] theorem el34 : elT Try.prog 34 = some (1, 8, [.int .i64 0]) := rfl
@[go_sem] theorem ap34 : apT Try.prog 34 34 = some (1, 8, 1) := rfl
attribute [go_sem] Try.underlying35
@[go_sem] theorem sz35 : szT Try.prog 35 = some 1 := rfl
@[go_sem] theorem ag35 : agT Try.prog 35 = some false := rfl
@[go_sem] theorem zc35 : zcT Try.prog 35 = some [.int .i64 0] := rfl
attribute [go_sem] Try.underlying36
@[go_sem] theorem sz36 : szT Try.prog 36 = some 1 := rfl
@[go_sem] theorem ag36 : agT Try.prog 36 = some false := rfl
attribute [go_sem] Try.underlying37
@[go_sem] theorem sz37 : szT Try.prog 37 = some 1 := rfl
@[go_sem] theorem ag37 : agT Try.prog 37 = some false := rfl
@[go_sem] theorem zc37 : zcT Try.prog 37 = some [.pointer none] := rfl
attribute [go_sem] Try.underlying38
@[go_sem] theorem sz38 : szT Try.prog 38 = some 1 := rfl
@[go_sem] theorem ag38 : agT Try.prog 38 = some false := rfl
@[go_sem] theorem zc38 : zcT Try.prog 38 = some [.pointer none] := rfl
attribute [go_sem] Try.underlying39
@[go_sem] theorem sz39 : szT Try.prog 39 = some 1 := rfl
@[go_sem] theorem ag39 : agT Try.prog 39 = some false := rfl
@[go_sem] theorem zc39 : zcT Try.prog 39 = some [.pointer none] := rfl
attribute [go_sem] Try.underlying40
@[go_sem] theorem sz40 : szT Try.prog 40 = some 1 := rfl
@[go_sem] theorem ag40 : agT Try.prog 40 = some false := rfl
@[go_sem] theorem zc40 : zcT Try.prog 40 = some [.pointer none] := rfl
attribute [go_sem] Try.underlying41
@[go_sem] theorem sz41 : szT Try.prog 41 = some 1 := rfl
@[go_sem] theorem ag41 : agT Try.prog 41 = some false := rfl
@[go_sem] theorem zc41 : zcT Try.prog 41 = some [.pointer none] := rfl
attribute [go_sem] Try.underlying42
@[go_sem] theorem sz42 : szT Try.prog 42 = some 1 := rfl
@[go_sem] theorem ag42 : agT Try.prog 42 = some false := rfl
@[go_sem] theorem zc42 : zcT Try.prog 42 = some [.pointer none] := rfl
attribute [go_sem] Try.underlying43
@[go_sem] theorem sz43 : szT Try.prog 43 = some 6 := rfl
@[go_sem] theorem ag43 : agT Try.prog 43 = some true := rfl
@[go_sem] theorem zc43 : zcT Try.prog 43 = some [.pointer none, .pointer none, .pointer none, .pointer none, .pointer none, .pointer none] := rfl
@[go_sem] theorem bd43 : bdT Try.prog 43 = some ([.pointer none, .pointer none, .pointer none, .pointer none, .pointer none, .pointer none], fun j => [(0, 1), (1, 1), (2, 1), (3, 1), (4, 1), (5, 1)][j]?) := rfl
@[go_sem] theorem fa43_0 : faT Try.prog 43 0 = some (0, 1) := rfl
@[go_sem] theorem fd43_0 : fdT Try.prog 43 0 = some (0, 1, false) := rfl
@[go_sem] theorem fa43_1 : faT Try.prog 43 1 = some (1, 1) := rfl
@[go_sem] theorem fd43_1 : fdT Try.prog 43 1 = some (1, 1, false) := rfl
@[go_sem] theorem fa43_2 : faT Try.prog 43 2 = some (2, 1) := rfl
@[go_sem] theorem fd43_2 : fdT Try.prog 43 2 = some (2, 1, false) := rfl
@[go_sem] theorem fa43_3 : faT Try.prog 43 3 = some (3, 1) := rfl
@[go_sem] theorem fd43_3 : fdT Try.prog 43 3 = some (3, 1, false) := rfl
@[go_sem] theorem fa43_4 : faT Try.prog 43 4 = some (4, 1) := rfl
@[go_sem] theorem fd43_4 : fdT Try.prog 43 4 = some (4, 1, false) := rfl
@[go_sem] theorem fa43_5 : faT Try.prog 43 5 = some (5, 1) := rfl
@[go_sem] theorem fd43_5 : fdT Try.prog 43 5 = some (5, 1, false) := rfl
attribute [go_sem] Try.underlying44
@[go_sem] theorem sz44 : szT Try.prog 44 = some 6 := rfl
@[go_sem] theorem ag44 : agT Try.prog 44 = some true := rfl
@[go_sem] theorem zc44 : zcT Try.prog 44 = some [.pointer none, .pointer none, .pointer none, .pointer none, .pointer none, .pointer none] := rfl
@[go_sem] theorem bd44 : bdT Try.prog 44 = some ([.pointer none, .pointer none, .pointer none, .pointer none, .pointer none, .pointer none], fun j => [(0, 1), (1, 1), (2, 1), (3, 1), (4, 1), (5, 1)][j]?) := rfl
@[go_sem] theorem fa44_0 : faT Try.prog 44 0 = some (0, 1) := rfl
@[go_sem] theorem fd44_0 : fdT Try.prog 44 0 = some (0, 1, false) := rfl
@[go_sem] theorem fa44_1 : faT Try.prog 44 1 = some (1, 1) := rfl
@[go_sem] theorem fd44_1 : fdT Try.prog 44 1 = some (1, 1, false) := rfl
@[go_sem] theorem fa44_2 : faT Try.prog 44 2 = some (2, 1) := rfl
@[go_sem] theorem fd44_2 : fdT Try.prog 44 2 = some (2, 1, false) := rfl
@[go_sem] theorem fa44_3 : faT Try.prog 44 3 = some (3, 1) := rfl
@[go_sem] theorem fd44_3 : fdT Try.prog 44 3 = some (3, 1, false) := rfl
@[go_sem] theorem fa44_4 : faT Try.prog 44 4 = some (4, 1) := rfl
@[go_sem] theorem fd44_4 : fdT Try.prog 44 4 = some (4, 1, false) := rfl
@[go_sem] theorem fa44_5 : faT Try.prog 44 5 = some (5, 1) := rfl
@[go_sem] theorem fd44_5 : fdT Try.prog 44 5 = some (5, 1, false) := rfl
attribute [go_sem] Try.underlying45
@[go_sem] theorem sz45 : szT Try.prog 45 = some 1 := rfl
@[go_sem] theorem ag45 : agT Try.prog 45 = some false := rfl
@[go_sem] theorem zc45 : zcT Try.prog 45 = some [.nilFunc] := rfl
attribute [go_sem] Try.underlying46
@[go_sem] theorem sz46 : szT Try.prog 46 = some 1 := rfl
@[go_sem] theorem ag46 : agT Try.prog 46 = some false := rfl
@[go_sem] theorem zc46 : zcT Try.prog 46 = some [.map none] := rfl
attribute [go_sem] Try.underlying47
@[go_sem] theorem sz47 : szT Try.prog 47 = some 1 := rfl
@[go_sem] theorem ag47 : agT Try.prog 47 = some false := rfl
@[go_sem] theorem zc47 : zcT Try.prog 47 = some [.int .i64 0] := rfl
attribute [go_sem] Try.underlying48
@[go_sem] theorem sz48 : szT Try.prog 48 = some 1 := rfl
@[go_sem] theorem ag48 : agT Try.prog 48 = some false := rfl
attribute [go_sem] Try.underlying49
@[go_sem] theorem sz49 : szT Try.prog 49 = some 1 := rfl
@[go_sem] theorem ag49 : agT Try.prog 49 = some false := rfl
@[go_sem] theorem zc49 : zcT Try.prog 49 = some [.nilFunc] := rfl
attribute [go_sem] Try.underlying50
@[go_sem] theorem sz50 : szT Try.prog 50 = some 1 := rfl
@[go_sem] theorem ag50 : agT Try.prog 50 = some false := rfl
attribute [go_sem] Try.underlying51
@[go_sem] theorem sz51 : szT Try.prog 51 = some 1 := rfl
@[go_sem] theorem ag51 : agT Try.prog 51 = some false := rfl
@[go_sem] theorem zc51 : zcT Try.prog 51 = some [.nilFunc] := rfl
attribute [go_sem] Try.underlying52
@[go_sem] theorem sz52 : szT Try.prog 52 = some 1 := rfl
@[go_sem] theorem ag52 : agT Try.prog 52 = some false := rfl
@[go_sem] theorem zc52 : zcT Try.prog 52 = some [.nilFunc] := rfl
attribute [go_sem] Try.underlying53
@[go_sem] theorem sz53 : szT Try.prog 53 = some 1 := rfl
@[go_sem] theorem ag53 : agT Try.prog 53 = some false := rfl
@[go_sem] theorem zc53 : zcT Try.prog 53 = some [.nilFunc] := rfl
attribute [go_sem] Try.underlying54
@[go_sem] theorem sz54 : szT Try.prog 54 = some 1 := rfl
@[go_sem] theorem ag54 : agT Try.prog 54 = some false := rfl
@[go_sem] theorem zc54 : zcT Try.prog 54 = some [.nilFunc] := rfl
attribute [go_sem] Try.underlying55
@[go_sem] theorem sz55 : szT Try.prog 55 = some 1 := rfl
@[go_sem] theorem ag55 : agT Try.prog 55 = some false := rfl
@[go_sem] theorem zc55 : zcT Try.prog 55 = some [.slice none 0 0] := rfl
@[go_sem] theorem ia55 : iaT Try.prog 55 = some (none, 2) := rfl
@[go_sem] theorem el55 : elT Try.prog 55 = some (2, 16, [.int .u64 0, .int .u64 0]) := rfl
@[go_sem] theorem ap55 : apT Try.prog 55 55 = some (2, 16, 2) := rfl
attribute [go_sem] Try.underlying56
@[go_sem] theorem sz56 : szT Try.prog 56 = some 1 := rfl
@[go_sem] theorem ag56 : agT Try.prog 56 = some false := rfl
attribute [go_sem] Try.underlying57
@[go_sem] theorem sz57 : szT Try.prog 57 = some 1 := rfl
@[go_sem] theorem ag57 : agT Try.prog 57 = some false := rfl
@[go_sem] theorem zc57 : zcT Try.prog 57 = some [.nilFunc] := rfl
attribute [go_sem] Try.underlying58
@[go_sem] theorem sz58 : szT Try.prog 58 = some 1 := rfl
@[go_sem] theorem ag58 : agT Try.prog 58 = some false := rfl
@[go_sem] theorem zc58 : zcT Try.prog 58 = some [.nilFunc] := rfl
attribute [go_sem] Try.underlying59
@[go_sem] theorem sz59 : szT Try.prog 59 = some 1 := rfl
@[go_sem] theorem ag59 : agT Try.prog 59 = some false := rfl
@[go_sem] theorem zc59 : zcT Try.prog 59 = some [.int .u64 0] := rfl
attribute [go_sem] Try.underlying60
@[go_sem] theorem sz60 : szT Try.prog 60 = some 1 := rfl
@[go_sem] theorem ag60 : agT Try.prog 60 = some false := rfl
@[go_sem] theorem zc60 : zcT Try.prog 60 = some [.nilFunc] := rfl
attribute [go_sem] Try.underlying61
@[go_sem] theorem sz61 : szT Try.prog 61 = some 1 := rfl
@[go_sem] theorem ag61 : agT Try.prog 61 = some false := rfl
@[go_sem] theorem zc61 : zcT Try.prog 61 = some [.slice none 0 0] := rfl
@[go_sem] theorem ia61 : iaT Try.prog 61 = some (none, 5) := rfl
@[go_sem] theorem el61 : elT Try.prog 61 = some (5, 24, [.int .u64 0, .int .u64 0, .int .u8 0, .int .u8 0, .int .u8 0]) := rfl
@[go_sem] theorem ap61 : apT Try.prog 61 61 = some (5, 24, 5) := rfl
attribute [go_sem] Try.underlying62
@[go_sem] theorem sz62 : szT Try.prog 62 = some 2 := rfl
@[go_sem] theorem ag62 : agT Try.prog 62 = some true := rfl
@[go_sem] theorem zc62 : zcT Try.prog 62 = some [.int .u64 0, .int .u64 0] := rfl
@[go_sem] theorem bd62 : bdT Try.prog 62 = some ([.int .u64 0, .int .u64 0], fun j => [(0, 1), (1, 1)][j]?) := rfl
@[go_sem] theorem fa62_0 : faT Try.prog 62 0 = some (0, 1) := rfl
@[go_sem] theorem fd62_0 : fdT Try.prog 62 0 = some (0, 1, false) := rfl
@[go_sem] theorem fa62_1 : faT Try.prog 62 1 = some (1, 1) := rfl
@[go_sem] theorem fd62_1 : fdT Try.prog 62 1 = some (1, 1, false) := rfl
attribute [go_sem] Try.underlying63
@[go_sem] theorem sz63 : szT Try.prog 63 = some 2 := rfl
@[go_sem] theorem ag63 : agT Try.prog 63 = some true := rfl
@[go_sem] theorem zc63 : zcT Try.prog 63 = some [.int .u64 0, .int .u64 0] := rfl
@[go_sem] theorem bd63 : bdT Try.prog 63 = some ([.int .u64 0, .int .u64 0], fun j => [(0, 1), (1, 1)][j]?) := rfl
@[go_sem] theorem fa63_0 : faT Try.prog 63 0 = some (0, 1) := rfl
@[go_sem] theorem fd63_0 : fdT Try.prog 63 0 = some (0, 1, false) := rfl
@[go_sem] theorem fa63_1 : faT Try.prog 63 1 = some (1, 1) := rfl
@[go_sem] theorem fd63_1 : fdT Try.prog 63 1 = some (1, 1, false) := rfl
attribute [go_sem] Try.underlying64
@[go_sem] theorem sz64 : szT Try.prog 64 = some 5 := rfl
@[go_sem] theorem ag64 : agT Try.prog 64 = some true := rfl
@[go_sem] theorem zc64 : zcT Try.prog 64 = some [.int .u64 0, .int .u64 0, .int .u8 0, .int .u8 0, .int .u8 0] := rfl
@[go_sem] theorem bd64 : bdT Try.prog 64 = some ([.int .u64 0, .int .u64 0, .int .u8 0, .int .u8 0, .int .u8 0], fun j => [(0, 1), (1, 1), (2, 1), (3, 1), (4, 1)][j]?) := rfl
@[go_sem] theorem fa64_0 : faT Try.prog 64 0 = some (0, 1) := rfl
@[go_sem] theorem fd64_0 : fdT Try.prog 64 0 = some (0, 1, false) := rfl
@[go_sem] theorem fa64_1 : faT Try.prog 64 1 = some (1, 1) := rfl
@[go_sem] theorem fd64_1 : fdT Try.prog 64 1 = some (1, 1, false) := rfl
@[go_sem] theorem fa64_2 : faT Try.prog 64 2 = some (2, 1) := rfl
@[go_sem] theorem fd64_2 : fdT Try.prog 64 2 = some (2, 1, false) := rfl
@[go_sem] theorem fa64_3 : faT Try.prog 64 3 = some (3, 1) := rfl
@[go_sem] theorem fd64_3 : fdT Try.prog 64 3 = some (3, 1, false) := rfl
@[go_sem] theorem fa64_4 : faT Try.prog 64 4 = some (4, 1) := rfl
@[go_sem] theorem fd64_4 : fdT Try.prog 64 4 = some (4, 1, false) := rfl
attribute [go_sem] Try.underlying65
@[go_sem] theorem sz65 : szT Try.prog 65 = some 5 := rfl
@[go_sem] theorem ag65 : agT Try.prog 65 = some true := rfl
@[go_sem] theorem zc65 : zcT Try.prog 65 = some [.int .u64 0, .int .u64 0, .int .u8 0, .int .u8 0, .int .u8 0] := rfl
@[go_sem] theorem bd65 : bdT Try.prog 65 = some ([.int .u64 0, .int .u64 0, .int .u8 0, .int .u8 0, .int .u8 0], fun j => [(0, 1), (1, 1), (2, 1), (3, 1), (4, 1)][j]?) := rfl
@[go_sem] theorem fa65_0 : faT Try.prog 65 0 = some (0, 1) := rfl
@[go_sem] theorem fd65_0 : fdT Try.prog 65 0 = some (0, 1, false) := rfl
@[go_sem] theorem fa65_1 : faT Try.prog 65 1 = some (1, 1) := rfl
@[go_sem] theorem fd65_1 : fdT Try.prog 65 1 = some (1, 1, false) := rfl
@[go_sem] theorem fa65_2 : faT Try.prog 65 2 = some (2, 1) := rfl
@[go_sem] theorem fd65_2 : fdT Try.prog 65 2 = some (2, 1, false) := rfl
@[go_sem] theorem fa65_3 : faT Try.prog 65 3 = some (3, 1) := rfl
@[go_sem] theorem fd65_3 : fdT Try.prog 65 3 = some (3, 1, false) := rfl
@[go_sem] theorem fa65_4 : faT Try.prog 65 4 = some (4, 1) := rfl
@[go_sem] theorem fd65_4 : fdT Try.prog 65 4 = some (4, 1, false) := rfl
attribute [go_sem] Try.underlying66
@[go_sem] theorem sz66 : szT Try.prog 66 = some 1 := rfl
@[go_sem] theorem ag66 : agT Try.prog 66 = some false := rfl
@[go_sem] theorem zc66 : zcT Try.prog 66 = some [.nilFunc] := rfl
attribute [go_sem] Try.underlying67
@[go_sem] theorem sz67 : szT Try.prog 67 = some 1 := rfl
@[go_sem] theorem ag67 : agT Try.prog 67 = some false := rfl
@[go_sem] theorem zc67 : zcT Try.prog 67 = some [.nilFunc] := rfl
attribute [go_sem] Try.underlying68
@[go_sem] theorem sz68 : szT Try.prog 68 = some 1 := rfl
@[go_sem] theorem ag68 : agT Try.prog 68 = some false := rfl
@[go_sem] theorem zc68 : zcT Try.prog 68 = some [.nilFunc] := rfl
attribute [go_sem] Try.underlying69
@[go_sem] theorem sz69 : szT Try.prog 69 = some 1 := rfl
@[go_sem] theorem ag69 : agT Try.prog 69 = some false := rfl
@[go_sem] theorem zc69 : zcT Try.prog 69 = some [.nilFunc] := rfl
attribute [go_sem] Try.underlying70
@[go_sem] theorem sz70 : szT Try.prog 70 = some 1 := rfl
@[go_sem] theorem ag70 : agT Try.prog 70 = some false := rfl
@[go_sem] theorem zc70 : zcT Try.prog 70 = some [.pointer none] := rfl
attribute [go_sem] Try.underlying71
@[go_sem] theorem sz71 : szT Try.prog 71 = some 1 := rfl
@[go_sem] theorem ag71 : agT Try.prog 71 = some false := rfl
attribute [go_sem] Try.underlying72
@[go_sem] theorem sz72 : szT Try.prog 72 = some 1 := rfl
@[go_sem] theorem ag72 : agT Try.prog 72 = some false := rfl
@[go_sem] theorem zc72 : zcT Try.prog 72 = some [.nilFunc] := rfl
attribute [go_sem] Try.underlying73
@[go_sem] theorem sz73 : szT Try.prog 73 = some 1 := rfl
@[go_sem] theorem ag73 : agT Try.prog 73 = some false := rfl
@[go_sem] theorem zc73 : zcT Try.prog 73 = some [.nilFunc] := rfl
attribute [go_sem] Try.underlying74
@[go_sem] theorem sz74 : szT Try.prog 74 = some 1 := rfl
@[go_sem] theorem ag74 : agT Try.prog 74 = some false := rfl
attribute [go_sem] Try.underlying75
@[go_sem] theorem sz75 : szT Try.prog 75 = some 1 := rfl
@[go_sem] theorem ag75 : agT Try.prog 75 = some false := rfl
@[go_sem] theorem zc75 : zcT Try.prog 75 = some [.nilFunc] := rfl
attribute [go_sem] Try.underlying76
@[go_sem] theorem sz76 : szT Try.prog 76 = some 1 := rfl
@[go_sem] theorem ag76 : agT Try.prog 76 = some false := rfl
@[go_sem] theorem zc76 : zcT Try.prog 76 = some [.nilFunc] := rfl
attribute [go_sem] Try.underlying77
@[go_sem] theorem sz77 : szT Try.prog 77 = some 1 := rfl
@[go_sem] theorem ag77 : agT Try.prog 77 = some false := rfl
@[go_sem] theorem zc77 : zcT Try.prog 77 = some [.nilFunc] := rfl
attribute [go_sem] Try.underlying78
@[go_sem] theorem sz78 : szT Try.prog 78 = some 1 := rfl
@[go_sem] theorem ag78 : agT Try.prog 78 = some false := rfl
@[go_sem] theorem zc78 : zcT Try.prog 78 = some [.nilFunc] := rfl
attribute [go_sem] Try.underlying79
@[go_sem] theorem sz79 : szT Try.prog 79 = some 2 := rfl
@[go_sem] theorem ag79 : agT Try.prog 79 = some true := rfl
@[go_sem] theorem zc79 : zcT Try.prog 79 = some [.int .u8 0, .int .u8 0] := rfl
@[go_sem] theorem bd79 : bdT Try.prog 79 = some ([.int .u8 0, .int .u8 0], fun j => some (j * 1, 1)) := rfl
@[go_sem] theorem ia79 : iaT Try.prog 79 = some (some 2, 1) := rfl
@[go_sem] theorem ix79 : ixT Try.prog 79 = some (2, 1, false) := rfl
attribute [go_sem] Try.underlying80
@[go_sem] theorem sz80 : szT Try.prog 80 = some 2 := rfl
@[go_sem] theorem ag80 : agT Try.prog 80 = some true := rfl
@[go_sem] theorem zc80 : zcT Try.prog 80 = some [.bool false, .bool false] := rfl
@[go_sem] theorem bd80 : bdT Try.prog 80 = some ([.bool false, .bool false], fun j => some (j * 1, 1)) := rfl
@[go_sem] theorem ia80 : iaT Try.prog 80 = some (some 2, 1) := rfl
@[go_sem] theorem ix80 : ixT Try.prog 80 = some (2, 1, false) := rfl
attribute [go_sem] Try.underlying81
@[go_sem] theorem sz81 : szT Try.prog 81 = some 1 := rfl
@[go_sem] theorem ag81 : agT Try.prog 81 = some false := rfl
@[go_sem] theorem zc81 : zcT Try.prog 81 = some [.nilFunc] := rfl
attribute [go_sem] Try.underlying82
@[go_sem] theorem sz82 : szT Try.prog 82 = some 10 := rfl
@[go_sem] theorem ag82 : agT Try.prog 82 = some true := rfl
@[go_sem] theorem zc82 : zcT Try.prog 82 = some [.int .i64 0, .int .i64 0, .int .i64 0, .int .i64 0, .int .i64 0, .int .i64 0, .int .i64 0, .int .i64 0, .int .i64 0, .int .i64 0] := rfl
@[go_sem] theorem bd82 : bdT Try.prog 82 = some ([.int .i64 0, .int .i64 0, .int .i64 0, .int .i64 0, .int .i64 0, .int .i64 0, .int .i64 0, .int .i64 0, .int .i64 0, .int .i64 0], fun j => [(0, 1), (1, 1), (2, 1), (3, 1), (4, 1), (5, 1), (6, 1), (7, 1), (8, 1), (9, 1)][j]?) := rfl
@[go_sem] theorem fa82_0 : faT Try.prog 82 0 = some (0, 1) := rfl
@[go_sem] theorem fd82_0 : fdT Try.prog 82 0 = some (0, 1, false) := rfl
@[go_sem] theorem fa82_1 : faT Try.prog 82 1 = some (1, 1) := rfl
@[go_sem] theorem fd82_1 : fdT Try.prog 82 1 = some (1, 1, false) := rfl
@[go_sem] theorem fa82_2 : faT Try.prog 82 2 = some (2, 1) := rfl
@[go_sem] theorem fd82_2 : fdT Try.prog 82 2 = some (2, 1, false) := rfl
@[go_sem] theorem fa82_3 : faT Try.prog 82 3 = some (3, 1) := rfl
@[go_sem] theorem fd82_3 : fdT Try.prog 82 3 = some (3, 1, false) := rfl
@[go_sem] theorem fa82_4 : faT Try.prog 82 4 = some (4, 1) := rfl
@[go_sem] theorem fd82_4 : fdT Try.prog 82 4 = some (4, 1, false) := rfl
@[go_sem] theorem fa82_5 : faT Try.prog 82 5 = some (5, 1) := rfl
@[go_sem] theorem fd82_5 : fdT Try.prog 82 5 = some (5, 1, false) := rfl
@[go_sem] theorem fa82_6 : faT Try.prog 82 6 = some (6, 1) := rfl
@[go_sem] theorem fd82_6 : fdT Try.prog 82 6 = some (6, 1, false) := rfl
@[go_sem] theorem fa82_7 : faT Try.prog 82 7 = some (7, 1) := rfl
@[go_sem] theorem fd82_7 : fdT Try.prog 82 7 = some (7, 1, false) := rfl
@[go_sem] theorem fa82_8 : faT Try.prog 82 8 = some (8, 1) := rfl
@[go_sem] theorem fd82_8 : fdT Try.prog 82 8 = some (8, 1, false) := rfl
@[go_sem] theorem fa82_9 : faT Try.prog 82 9 = some (9, 1) := rfl
@[go_sem] theorem fd82_9 : fdT Try.prog 82 9 = some (9, 1, false) := rfl
attribute [go_sem] Try.underlying83
@[go_sem] theorem sz83 : szT Try.prog 83 = some 10 := rfl
@[go_sem] theorem ag83 : agT Try.prog 83 = some true := rfl
@[go_sem] theorem zc83 : zcT Try.prog 83 = some [.int .i64 0, .int .i64 0, .int .i64 0, .int .i64 0, .int .i64 0, .int .i64 0, .int .i64 0, .int .i64 0, .int .i64 0, .int .i64 0] := rfl
@[go_sem] theorem bd83 : bdT Try.prog 83 = some ([.int .i64 0, .int .i64 0, .int .i64 0, .int .i64 0, .int .i64 0, .int .i64 0, .int .i64 0, .int .i64 0, .int .i64 0, .int .i64 0], fun j => [(0, 1), (1, 1), (2, 1), (3, 1), (4, 1), (5, 1), (6, 1), (7, 1), (8, 1), (9, 1)][j]?) := rfl
@[go_sem] theorem fa83_0 : faT Try.prog 83 0 = some (0, 1) := rfl
@[go_sem] theorem fd83_0 : fdT Try.prog 83 0 = some (0, 1, false) := rfl
@[go_sem] theorem fa83_1 : faT Try.prog 83 1 = some (1, 1) := rfl
@[go_sem] theorem fd83_1 : fdT Try.prog 83 1 = some (1, 1, false) := rfl
@[go_sem] theorem fa83_2 : faT Try.prog 83 2 = some (2, 1) := rfl
@[go_sem] theorem fd83_2 : fdT Try.prog 83 2 = some (2, 1, false) := rfl
@[go_sem] theorem fa83_3 : faT Try.prog 83 3 = some (3, 1) := rfl
@[go_sem] theorem fd83_3 : fdT Try.prog 83 3 = some (3, 1, false) := rfl
@[go_sem] theorem fa83_4 : faT Try.prog 83 4 = some (4, 1) := rfl
@[go_sem] theorem fd83_4 : fdT Try.prog 83 4 = some (4, 1, false) := rfl
@[go_sem] theorem fa83_5 : faT Try.prog 83 5 = some (5, 1) := rfl
@[go_sem] theorem fd83_5 : fdT Try.prog 83 5 = some (5, 1, false) := rfl
@[go_sem] theorem fa83_6 : faT Try.prog 83 6 = some (6, 1) := rfl
@[go_sem] theorem fd83_6 : fdT Try.prog 83 6 = some (6, 1, false) := rfl
@[go_sem] theorem fa83_7 : faT Try.prog 83 7 = some (7, 1) := rfl
@[go_sem] theorem fd83_7 : fdT Try.prog 83 7 = some (7, 1, false) := rfl
@[go_sem] theorem fa83_8 : faT Try.prog 83 8 = some (8, 1) := rfl
@[go_sem] theorem fd83_8 : fdT Try.prog 83 8 = some (8, 1, false) := rfl
@[go_sem] theorem fa83_9 : faT Try.prog 83 9 = some (9, 1) := rfl
@[go_sem] theorem fd83_9 : fdT Try.prog 83 9 = some (9, 1, false) := rfl
attribute [go_sem] Try.underlying84
@[go_sem] theorem sz84 : szT Try.prog 84 = some 1 := rfl
@[go_sem] theorem ag84 : agT Try.prog 84 = some false := rfl
@[go_sem] theorem zc84 : zcT Try.prog 84 = some [.nilFunc] := rfl
attribute [go_sem] Try.underlying85
@[go_sem] theorem sz85 : szT Try.prog 85 = some 1 := rfl
@[go_sem] theorem ag85 : agT Try.prog 85 = some false := rfl
@[go_sem] theorem zc85 : zcT Try.prog 85 = some [.nilFunc] := rfl
attribute [go_sem] Try.underlying86
@[go_sem] theorem sz86 : szT Try.prog 86 = some 1 := rfl
@[go_sem] theorem ag86 : agT Try.prog 86 = some false := rfl
attribute [go_sem] Try.underlying87
@[go_sem] theorem sz87 : szT Try.prog 87 = some 1 := rfl
@[go_sem] theorem ag87 : agT Try.prog 87 = some false := rfl
@[go_sem] theorem zc87 : zcT Try.prog 87 = some [.nilFunc] := rfl
attribute [go_sem] Try.underlying88
@[go_sem] theorem sz88 : szT Try.prog 88 = some 1 := rfl
@[go_sem] theorem ag88 : agT Try.prog 88 = some false := rfl
attribute [go_sem] Try.underlying89
@[go_sem] theorem sz89 : szT Try.prog 89 = some 1 := rfl
@[go_sem] theorem ag89 : agT Try.prog 89 = some false := rfl
@[go_sem] theorem zc89 : zcT Try.prog 89 = some [.nilFunc] := rfl
attribute [go_sem] Try.underlying90
@[go_sem] theorem sz90 : szT Try.prog 90 = some 1 := rfl
@[go_sem] theorem ag90 : agT Try.prog 90 = some false := rfl
attribute [go_sem] Try.underlying91
@[go_sem] theorem sz91 : szT Try.prog 91 = some 1 := rfl
@[go_sem] theorem ag91 : agT Try.prog 91 = some false := rfl
@[go_sem] theorem zc91 : zcT Try.prog 91 = some [.nilFunc] := rfl
attribute [go_sem] Try.underlying92
@[go_sem] theorem sz92 : szT Try.prog 92 = some 1 := rfl
@[go_sem] theorem ag92 : agT Try.prog 92 = some false := rfl
attribute [go_sem] Try.underlying93
@[go_sem] theorem sz93 : szT Try.prog 93 = some 1 := rfl
@[go_sem] theorem ag93 : agT Try.prog 93 = some false := rfl
@[go_sem] theorem zc93 : zcT Try.prog 93 = some [.nilFunc] := rfl
attribute [go_sem] Try.underlying94
@[go_sem] theorem sz94 : szT Try.prog 94 = some 1 := rfl
@[go_sem] theorem ag94 : agT Try.prog 94 = some false := rfl
attribute [go_sem] Try.underlying95
@[go_sem] theorem sz95 : szT Try.prog 95 = some 1 := rfl
@[go_sem] theorem ag95 : agT Try.prog 95 = some false := rfl
@[go_sem] theorem zc95 : zcT Try.prog 95 = some [.nilFunc] := rfl
attribute [go_sem] Try.underlying96
@[go_sem] theorem sz96 : szT Try.prog 96 = some 1 := rfl
@[go_sem] theorem ag96 : agT Try.prog 96 = some false := rfl
attribute [go_sem] Try.underlying97
@[go_sem] theorem sz97 : szT Try.prog 97 = some 1 := rfl
@[go_sem] theorem ag97 : agT Try.prog 97 = some false := rfl
@[go_sem] theorem zc97 : zcT Try.prog 97 = some [.nilFunc] := rfl
attribute [go_sem] Try.underlying98
@[go_sem] theorem sz98 : szT Try.prog 98 = some 2 := rfl
@[go_sem] theorem ag98 : agT Try.prog 98 = some true := rfl
@[go_sem] theorem zc98 : zcT Try.prog 98 = some [.int .i64 0, .int .u64 0] := rfl
@[go_sem] theorem bd98 : bdT Try.prog 98 = some ([.int .i64 0, .int .u64 0], fun j => [(0, 1), (1, 1)][j]?) := rfl
@[go_sem] theorem fa98_0 : faT Try.prog 98 0 = some (0, 1) := rfl
@[go_sem] theorem fd98_0 : fdT Try.prog 98 0 = some (0, 1, false) := rfl
@[go_sem] theorem fa98_1 : faT Try.prog 98 1 = some (1, 1) := rfl
@[go_sem] theorem fd98_1 : fdT Try.prog 98 1 = some (1, 1, false) := rfl
attribute [go_sem] Try.underlying99
@[go_sem] theorem sz99 : szT Try.prog 99 = some 2 := rfl
@[go_sem] theorem ag99 : agT Try.prog 99 = some true := rfl
@[go_sem] theorem zc99 : zcT Try.prog 99 = some [.int .i64 0, .int .u64 0] := rfl
@[go_sem] theorem bd99 : bdT Try.prog 99 = some ([.int .i64 0, .int .u64 0], fun j => [(0, 1), (1, 1)][j]?) := rfl
@[go_sem] theorem fa99_0 : faT Try.prog 99 0 = some (0, 1) := rfl
@[go_sem] theorem fd99_0 : fdT Try.prog 99 0 = some (0, 1, false) := rfl
@[go_sem] theorem fa99_1 : faT Try.prog 99 1 = some (1, 1) := rfl
@[go_sem] theorem fd99_1 : fdT Try.prog 99 1 = some (1, 1, false) := rfl
attribute [go_sem] Try.underlying100
@[go_sem] theorem sz100 : szT Try.prog 100 = some 1 := rfl
@[go_sem] theorem ag100 : agT Try.prog 100 = some false := rfl
@[go_sem] theorem zc100 : zcT Try.prog 100 = some [.slice none 0 0] := rfl
@[go_sem] theorem ia100 : iaT Try.prog 100 = some (none, 6) := rfl
@[go_sem] theorem el100 : elT Try.prog 100 = some (6, 48, [.int .i64 0, .int .i64 0, .int .u8 0, .int .u64 0, .int .u64 0, .bool false]) := rfl
@[go_sem] theorem ap100 : apT Try.prog 100 100 = some (6, 48, 6) := rfl
attribute [go_sem] Try.underlying101
@[go_sem] theorem sz101 : szT Try.prog 101 = some 2 := rfl
@[go_sem] theorem ag101 : agT Try.prog 101 = some true := rfl
@[go_sem] theorem zc101 : zcT Try.prog 101 = some [.slice none 0 0, .slice none 0 0] := rfl
@[go_sem] theorem bd101 : bdT Try.prog 101 = some ([.slice none 0 0, .slice none 0 0], fun j => [(0, 1), (1, 1)][j]?) := rfl
@[go_sem] theorem fa101_0 : faT Try.prog 101 0 = some (0, 1) := rfl
@[go_sem] theorem fd101_0 : fdT Try.prog 101 0 = some (0, 1, false) := rfl
@[go_sem] theorem fa101_1 : faT Try.prog 101 1 = some (1, 1) := rfl
@[go_sem] theorem fd101_1 : fdT Try.prog 101 1 = some (1, 1, false) := rfl
attribute [go_sem] Try.underlying102
@[go_sem] theorem sz102 : szT Try.prog 102 = some 2 := rfl
@[go_sem] theorem ag102 : agT Try.prog 102 = some true := rfl
@[go_sem] theorem zc102 : zcT Try.prog 102 = some [.slice none 0 0, .slice none 0 0] := rfl
@[go_sem] theorem bd102 : bdT Try.prog 102 = some ([.slice none 0 0, .slice none 0 0], fun j => [(0, 1), (1, 1)][j]?) := rfl
@[go_sem] theorem fa102_0 : faT Try.prog 102 0 = some (0, 1) := rfl
@[go_sem] theorem fd102_0 : fdT Try.prog 102 0 = some (0, 1, false) := rfl
@[go_sem] theorem fa102_1 : faT Try.prog 102 1 = some (1, 1) := rfl
@[go_sem] theorem fd102_1 : fdT Try.prog 102 1 = some (1, 1, false) := rfl
attribute [go_sem] Try.underlying103
@[go_sem] theorem sz103 : szT Try.prog 103 = some 2 := rfl
@[go_sem] theorem ag103 : agT Try.prog 103 = some true := rfl
@[go_sem] theorem zc103 : zcT Try.prog 103 = some [.pointer none, .pointer none] := rfl
@[go_sem] theorem bd103 : bdT Try.prog 103 = some ([.pointer none, .pointer none], fun j => [(0, 1), (1, 1)][j]?) := rfl
@[go_sem] theorem fa103_0 : faT Try.prog 103 0 = some (0, 1) := rfl
@[go_sem] theorem fd103_0 : fdT Try.prog 103 0 = some (0, 1, false) := rfl
@[go_sem] theorem fa103_1 : faT Try.prog 103 1 = some (1, 1) := rfl
@[go_sem] theorem fd103_1 : fdT Try.prog 103 1 = some (1, 1, false) := rfl
attribute [go_sem] Try.underlying104
@[go_sem] theorem sz104 : szT Try.prog 104 = some 2 := rfl
@[go_sem] theorem ag104 : agT Try.prog 104 = some true := rfl
@[go_sem] theorem zc104 : zcT Try.prog 104 = some [.pointer none, .pointer none] := rfl
@[go_sem] theorem bd104 : bdT Try.prog 104 = some ([.pointer none, .pointer none], fun j => [(0, 1), (1, 1)][j]?) := rfl
@[go_sem] theorem fa104_0 : faT Try.prog 104 0 = some (0, 1) := rfl
@[go_sem] theorem fd104_0 : fdT Try.prog 104 0 = some (0, 1, false) := rfl
@[go_sem] theorem fa104_1 : faT Try.prog 104 1 = some (1, 1) := rfl
@[go_sem] theorem fd104_1 : fdT Try.prog 104 1 = some (1, 1, false) := rfl
attribute [go_sem] Try.underlying105
@[go_sem] theorem sz105 : szT Try.prog 105 = some 1 := rfl
@[go_sem] theorem ag105 : agT Try.prog 105 = some false := rfl
@[go_sem] theorem zc105 : zcT Try.prog 105 = some [.nilFunc] := rfl
attribute [go_sem] Try.underlying106
@[go_sem] theorem sz106 : szT Try.prog 106 = some 1 := rfl
@[go_sem] theorem ag106 : agT Try.prog 106 = some false := rfl
@[go_sem] theorem zc106 : zcT Try.prog 106 = some [.nilFunc] := rfl
attribute [go_sem] Try.underlying107
@[go_sem] theorem sz107 : szT Try.prog 107 = some 1 := rfl
@[go_sem] theorem ag107 : agT Try.prog 107 = some false := rfl
@[go_sem] theorem zc107 : zcT Try.prog 107 = some [.nilFunc] := rfl
attribute [go_sem] Try.underlying108
@[go_sem] theorem sz108 : szT Try.prog 108 = some 1 := rfl
@[go_sem] theorem ag108 : agT Try.prog 108 = some false := rfl
@[go_sem] theorem zc108 : zcT Try.prog 108 = some [.nilFunc] := rfl
attribute [go_sem] Try.underlying109
@[go_sem] theorem sz109 : szT Try.prog 109 = some 1 := rfl
@[go_sem] theorem ag109 : agT Try.prog 109 = some false := rfl
@[go_sem] theorem zc109 : zcT Try.prog 109 = some [.nilFunc] := rfl
attribute [go_sem] Try.underlying110
@[go_sem] theorem sz110 : szT Try.prog 110 = some 1 := rfl
@[go_sem] theorem ag110 : agT Try.prog 110 = some false := rfl
@[go_sem] theorem zc110 : zcT Try.prog 110 = some [.nilFunc] := rfl
attribute [go_sem] Try.underlying111
@[go_sem] theorem sz111 : szT Try.prog 111 = some 1 := rfl
@[go_sem] theorem ag111 : agT Try.prog 111 = some false := rfl
@[go_sem] theorem zc111 : zcT Try.prog 111 = some [.nilFunc] := rfl
attribute [go_sem] Try.underlying112
@[go_sem] theorem sz112 : szT Try.prog 112 = some 1 := rfl
@[go_sem] theorem ag112 : agT Try.prog 112 = some false := rfl
@[go_sem] theorem zc112 : zcT Try.prog 112 = some [.slice none 0 0] := rfl
@[go_sem] theorem ia112 : iaT Try.prog 112 = some (none, 4) := rfl
@[go_sem] theorem el112 : elT Try.prog 112 = some (4, 32, [.int .u8 0, .int .i64 0, .int .i64 0, .int .i64 0]) := rfl
@[go_sem] theorem ap112 : apT Try.prog 112 112 = some (4, 32, 4) := rfl
attribute [go_sem] Try.underlying113
@[go_sem] theorem sz113 : szT Try.prog 113 = some 30 := rfl
@[go_sem] theorem ag113 : agT Try.prog 113 = some true := rfl
@[go_sem] theorem zc113 : zcT Try.prog 113 = some [.int .i64 0, .int .i64 0, .int .u8 0, .int .i64 0, .int .u8 0, .int .i64 0, .slice none 0 0, .int .i64 0, .int .i64 0, .int .i64 0, .int .i64 0, .int .i64 0, .int .i64 0, .int .i64 0, .int .i64 0, .int .i64 0, .int .i64 0, .int .i64 0, .int .i64 0, .int .i64 0, .int .i64 0, .int .i64 0, .int .i64 0, .int .i64 0, .int .i64 0, .int .i64 0, .slice none 0 0, .slice none 0 0, .slice none 0 0, .int .i64 0] := rfl
@[go_sem] theorem bd113 : bdT Try.prog 113 = some ([.int .i64 0, .int .i64 0, .int .u8 0, .int .i64 0, .int .u8 0, .int .i64 0, .slice none 0 0, .int .i64 0, .int .i64 0, .int .i64 0, .int .i64 0, .int .i64 0, .int .i64 0, .int .i64 0, .int .i64 0, .int .i64 0, .int .i64 0, .int .i64 0, .int .i64 0, .int .i64 0, .int .i64 0, .int .i64 0, .int .i64 0, .int .i64 0, .int .i64 0, .int .i64 0, .slice none 0 0, .slice none 0 0, .slice none 0 0, .int .i64 0], fun j => [(0, 16), (16, 10), (26, 1), (27, 1), (28, 1), (29, 1)][j]?) := rfl
@[go_sem] theorem fa113_0 : faT Try.prog 113 0 = some (0, 16) := rfl
@[go_sem] theorem fd113_0 : fdT Try.prog 113 0 = some (0, 16, true) := rfl
@[go_sem] theorem fa113_1 : faT Try.prog 113 1 = some (16, 10) := rfl
@[go_sem] theorem fd113_1 : fdT Try.prog 113 1 = some (16, 10, true) := rfl
@[go_sem] theorem fa113_2 : faT Try.prog 113 2 = some (26, 1) := rfl
@[go_sem] theorem fd113_2 : fdT Try.prog 113 2 = some (26, 1, false) := rfl
@[go_sem] theorem fa113_3 : faT Try.prog 113 3 = some (27, 1) := rfl
@[go_sem] theorem fd113_3 : fdT Try.prog 113 3 = some (27, 1, false) := rfl
@[go_sem] theorem fa113_4 : faT Try.prog 113 4 = some (28, 1) := rfl
@[go_sem] theorem fd113_4 : fdT Try.prog 113 4 = some (28, 1, false) := rfl
@[go_sem] theorem fa113_5 : faT Try.prog 113 5 = some (29, 1) := rfl
@[go_sem] theorem fd113_5 : fdT Try.prog 113 5 = some (29, 1, false) := rfl
attribute [go_sem] Try.underlying114
@[go_sem] theorem sz114 : szT Try.prog 114 = some 30 := rfl
@[go_sem] theorem ag114 : agT Try.prog 114 = some true := rfl
@[go_sem] theorem zc114 : zcT Try.prog 114 = some [.int .i64 0, .int .i64 0, .int .u8 0, .int .i64 0, .int .u8 0, .int .i64 0, .slice none 0 0, .int .i64 0, .int .i64 0, .int .i64 0, .int .i64 0, .int .i64 0, .int .i64 0, .int .i64 0, .int .i64 0, .int .i64 0, .int .i64 0, .int .i64 0, .int .i64 0, .int .i64 0, .int .i64 0, .int .i64 0, .int .i64 0, .int .i64 0, .int .i64 0, .int .i64 0, .slice none 0 0, .slice none 0 0, .slice none 0 0, .int .i64 0] := rfl
@[go_sem] theorem bd114 : bdT Try.prog 114 = some ([.int .i64 0, .int .i64 0, .int .u8 0, .int .i64 0, .int .u8 0, .int .i64 0, .slice none 0 0, .int .i64 0, .int .i64 0, .int .i64 0, .int .i64 0, .int .i64 0, .int .i64 0, .int .i64 0, .int .i64 0, .int .i64 0, .int .i64 0, .int .i64 0, .int .i64 0, .int .i64 0, .int .i64 0, .int .i64 0, .int .i64 0, .int .i64 0, .int .i64 0, .int .i64 0, .slice none 0 0, .slice none 0 0, .slice none 0 0, .int .i64 0], fun j => [(0, 16), (16, 10), (26, 1), (27, 1), (28, 1), (29, 1)][j]?) := rfl
@[go_sem] theorem fa114_0 : faT Try.prog 114 0 = some (0, 16) := rfl
@[go_sem] theorem fd114_0 : fdT Try.prog 114 0 = some (0, 16, true) := rfl
@[go_sem] theorem fa114_1 : faT Try.prog 114 1 = some (16, 10) := rfl
@[go_sem] theorem fd114_1 : fdT Try.prog 114 1 = some (16, 10, true) := rfl
@[go_sem] theorem fa114_2 : faT Try.prog 114 2 = some (26, 1) := rfl
@[go_sem] theorem fd114_2 : fdT Try.prog 114 2 = some (26, 1, false) := rfl
@[go_sem] theorem fa114_3 : faT Try.prog 114 3 = some (27, 1) := rfl
@[go_sem] theorem fd114_3 : fdT Try.prog 114 3 = some (27, 1, false) := rfl
@[go_sem] theorem fa114_4 : faT Try.prog 114 4 = some (28, 1) := rfl
@[go_sem] theorem fd114_4 : fdT Try.prog 114 4 = some (28, 1, false) := rfl
@[go_sem] theorem fa114_5 : faT Try.prog 114 5 = some (29, 1) := rfl
@[go_sem] theorem fd114_5 : fdT Try.prog 114 5 = some (29, 1, false) := rfl
attribute [go_sem] Try.underlying115
@[go_sem] theorem sz115 : szT Try.prog 115 = some 2 := rfl
@[go_sem] theorem ag115 : agT Try.prog 115 = some true := rfl
@[go_sem] theorem zc115 : zcT Try.prog 115 = some [.int .u64 0, .int .u64 0] := rfl
@[go_sem] theorem bd115 : bdT Try.prog 115 = some ([.int .u64 0, .int .u64 0], fun j => some (j * 1, 1)) := rfl
@[go_sem] theorem ia115 : iaT Try.prog 115 = some (some 2, 1) := rfl
@[go_sem] theorem ix115 : ixT Try.prog 115 = some (2, 1, false) := rfl
attribute [go_sem] Try.underlying116
@[go_sem] theorem sz116 : szT Try.prog 116 = some 1 := rfl
@[go_sem] theorem ag116 : agT Try.prog 116 = some false := rfl
@[go_sem] theorem zc116 : zcT Try.prog 116 = some [.slice none 0 0] := rfl
@[go_sem] theorem ia116 : iaT Try.prog 116 = some (none, 2) := rfl
@[go_sem] theorem el116 : elT Try.prog 116 = some (2, 16, [.int .u64 0, .int .u64 0]) := rfl
@[go_sem] theorem ap116 : apT Try.prog 116 116 = some (2, 16, 2) := rfl
attribute [go_sem] Try.underlying117
@[go_sem] theorem sz117 : szT Try.prog 117 = some 1 := rfl
@[go_sem] theorem ag117 : agT Try.prog 117 = some false := rfl
@[go_sem] theorem zc117 : zcT Try.prog 117 = some [.nilFunc] := rfl
attribute [go_sem] Try.underlying118
@[go_sem] theorem sz118 : szT Try.prog 118 = some 6 := rfl
@[go_sem] theorem ag118 : agT Try.prog 118 = some true := rfl
@[go_sem] theorem zc118 : zcT Try.prog 118 = some [.int .u64 0, .int .u64 0, .int .u64 0, .int .u64 0, .int .u64 0, .slice none 0 0] := rfl
@[go_sem] theorem bd118 : bdT Try.prog 118 = some ([.int .u64 0, .int .u64 0, .int .u64 0, .int .u64 0, .int .u64 0, .slice none 0 0], fun j => [(0, 1), (1, 1), (2, 1), (3, 1), (4, 1), (5, 1)][j]?) := rfl
@[go_sem] theorem fa118_0 : faT Try.prog 118 0 = some (0, 1) := rfl
@[go_sem] theorem fd118_0 : fdT Try.prog 118 0 = some (0, 1, false) := rfl
@[go_sem] theorem fa118_1 : faT Try.prog 118 1 = some (1, 1) := rfl
@[go_sem] theorem fd118_1 : fdT Try.prog 118 1 = some (1, 1, false) := rfl
@[go_sem] theorem fa118_2 : faT Try.prog 118 2 = some (2, 1) := rfl
@[go_sem] theorem fd118_2 : fdT Try.prog 118 2 = some (2, 1, false) := rfl
@[go_sem] theorem fa118_3 : faT Try.prog 118 3 = some (3, 1) := rfl
@[go_sem] theorem fd118_3 : fdT Try.prog 118 3 = some (3, 1, false) := rfl
@[go_sem] theorem fa118_4 : faT Try.prog 118 4 = some (4, 1) := rfl
@[go_sem] theorem fd118_4 : fdT Try.prog 118 4 = some (4, 1, false) := rfl
@[go_sem] theorem fa118_5 : faT Try.prog 118 5 = some (5, 1) := rfl
@[go_sem] theorem fd118_5 : fdT Try.prog 118 5 = some (5, 1, false) := rfl
attribute [go_sem] Try.underlying119
@[go_sem] theorem sz119 : szT Try.prog 119 = some 6 := rfl
@[go_sem] theorem ag119 : agT Try.prog 119 = some true := rfl
@[go_sem] theorem zc119 : zcT Try.prog 119 = some [.int .u64 0, .int .u64 0, .int .u64 0, .int .u64 0, .int .u64 0, .slice none 0 0] := rfl
@[go_sem] theorem bd119 : bdT Try.prog 119 = some ([.int .u64 0, .int .u64 0, .int .u64 0, .int .u64 0, .int .u64 0, .slice none 0 0], fun j => [(0, 1), (1, 1), (2, 1), (3, 1), (4, 1), (5, 1)][j]?) := rfl
@[go_sem] theorem fa119_0 : faT Try.prog 119 0 = some (0, 1) := rfl
@[go_sem] theorem fd119_0 : fdT Try.prog 119 0 = some (0, 1, false) := rfl
@[go_sem] theorem fa119_1 : faT Try.prog 119 1 = some (1, 1) := rfl
@[go_sem] theorem fd119_1 : fdT Try.prog 119 1 = some (1, 1, false) := rfl
@[go_sem] theorem fa119_2 : faT Try.prog 119 2 = some (2, 1) := rfl
@[go_sem] theorem fd119_2 : fdT Try.prog 119 2 = some (2, 1, false) := rfl
@[go_sem] theorem fa119_3 : faT Try.prog 119 3 = some (3, 1) := rfl
@[go_sem] theorem fd119_3 : fdT Try.prog 119 3 = some (3, 1, false) := rfl
@[go_sem] theorem fa119_4 : faT Try.prog 119 4 = some (4, 1) := rfl
@[go_sem] theorem fd119_4 : fdT Try.prog 119 4 = some (4, 1, false) := rfl
@[go_sem] theorem fa119_5 : faT Try.prog 119 5 = some (5, 1) := rfl
@[go_sem] theorem fd119_5 : fdT Try.prog 119 5 = some (5, 1, false) := rfl
attribute [go_sem] Try.underlying120
@[go_sem] theorem sz120 : szT Try.prog 120 = some 1 := rfl
@[go_sem] theorem ag120 : agT Try.prog 120 = some false := rfl
attribute [go_sem] Try.underlying121
@[go_sem] theorem sz121 : szT Try.prog 121 = some 1 := rfl
@[go_sem] theorem ag121 : agT Try.prog 121 = some false := rfl
@[go_sem] theorem zc121 : zcT Try.prog 121 = some [.nilFunc] := rfl
attribute [go_sem] Try.underlying122
@[go_sem] theorem sz122 : szT Try.prog 122 = some 1 := rfl
@[go_sem] theorem ag122 : agT Try.prog 122 = some false := rfl
attribute [go_sem] Try.underlying123
@[go_sem] theorem sz123 : szT Try.prog 123 = some 1 := rfl
@[go_sem] theorem ag123 : agT Try.prog 123 = some false := rfl
@[go_sem] theorem zc123 : zcT Try.prog 123 = some [.nilFunc] := rfl
attribute [go_sem] Try.underlying124
@[go_sem] theorem sz124 : szT Try.prog 124 = some 1 := rfl
@[go_sem] theorem ag124 : agT Try.prog 124 = some false := rfl
@[go_sem] theorem zc124 : zcT Try.prog 124 = some [.nilFunc] := rfl
attribute [go_sem] Try.underlying125
@[go_sem] theorem sz125 : szT Try.prog 125 = some 1 := rfl
@[go_sem] theorem ag125 : agT Try.prog 125 = some false := rfl
@[go_sem] theorem zc125 : zcT Try.prog 125 = some [.nilFunc] := rfl
attribute [go_sem] Try.underlying126
@[go_sem] theorem sz126 : szT Try.prog 126 = some 1 := rfl
@[go_sem] theorem ag126 : agT Try.prog 126 = some false := rfl
@[go_sem] theorem zc126 : zcT Try.prog 126 = some [.nilFunc] := rfl
attribute [go_sem] Try.underlying127
@[go_sem] theorem sz127 : szT Try.prog 127 = some 1 := rfl
@[go_sem] theorem ag127 : agT Try.prog 127 = some false := rfl
@[go_sem] theorem zc127 : zcT Try.prog 127 = some [.nilFunc] := rfl
attribute [go_sem] Try.underlying128
@[go_sem] theorem sz128 : szT Try.prog 128 = some 1 := rfl
@[go_sem] theorem ag128 : agT Try.prog 128 = some false := rfl
@[go_sem] theorem zc128 : zcT Try.prog 128 = some [.nilFunc] := rfl
attribute [go_sem] Try.underlying129
@[go_sem] theorem sz129 : szT Try.prog 129 = some 1 := rfl
@[go_sem] theorem ag129 : agT Try.prog 129 = some false := rfl
attribute [go_sem] Try.underlying130
@[go_sem] theorem sz130 : szT Try.prog 130 = some 1 := rfl
@[go_sem] theorem ag130 : agT Try.prog 130 = some false := rfl
@[go_sem] theorem zc130 : zcT Try.prog 130 = some [.nilFunc] := rfl
attribute [go_sem] Try.underlying131
@[go_sem] theorem sz131 : szT Try.prog 131 = some 1 := rfl
@[go_sem] theorem ag131 : agT Try.prog 131 = some false := rfl
@[go_sem] theorem zc131 : zcT Try.prog 131 = some [.nilFunc] := rfl
attribute [go_sem] Try.underlying132
@[go_sem] theorem sz132 : szT Try.prog 132 = some 0 := rfl
@[go_sem] theorem ag132 : agT Try.prog 132 = some true := rfl
@[go_sem] theorem zc132 : zcT Try.prog 132 = some [] := rfl
@[go_sem] theorem bd132 : bdT Try.prog 132 = some ([], fun j => [][j]?) := rfl
attribute [go_sem] Try.underlying133
@[go_sem] theorem sz133 : szT Try.prog 133 = some 0 := rfl
@[go_sem] theorem ag133 : agT Try.prog 133 = some true := rfl
@[go_sem] theorem zc133 : zcT Try.prog 133 = some [] := rfl
@[go_sem] theorem bd133 : bdT Try.prog 133 = some ([], fun j => [][j]?) := rfl
attribute [go_sem] Try.underlying134
@[go_sem] theorem sz134 : szT Try.prog 134 = some 0 := rfl
@[go_sem] theorem ag134 : agT Try.prog 134 = some true := rfl
@[go_sem] theorem zc134 : zcT Try.prog 134 = some [] := rfl
@[go_sem] theorem bd134 : bdT Try.prog 134 = some ([], fun j => [][j]?) := rfl
attribute [go_sem] Try.underlying135
@[go_sem] theorem sz135 : szT Try.prog 135 = some 1 := rfl
@[go_sem] theorem ag135 : agT Try.prog 135 = some true := rfl
@[go_sem] theorem zc135 : zcT Try.prog 135 = some [.int .u64 0] := rfl
@[go_sem] theorem bd135 : bdT Try.prog 135 = some ([.int .u64 0], fun j => [(0, 0), (0, 0), (0, 1)][j]?) := rfl
@[go_sem] theorem fa135_0 : faT Try.prog 135 0 = some (0, 0) := rfl
@[go_sem] theorem fd135_0 : fdT Try.prog 135 0 = some (0, 0, true) := rfl
@[go_sem] theorem fa135_1 : faT Try.prog 135 1 = some (0, 0) := rfl
@[go_sem] theorem fd135_1 : fdT Try.prog 135 1 = some (0, 0, true) := rfl
@[go_sem] theorem fa135_2 : faT Try.prog 135 2 = some (0, 1) := rfl
@[go_sem] theorem fd135_2 : fdT Try.prog 135 2 = some (0, 1, false) := rfl
attribute [go_sem] Try.underlying136
@[go_sem] theorem sz136 : szT Try.prog 136 = some 1 := rfl
@[go_sem] theorem ag136 : agT Try.prog 136 = some true := rfl
@[go_sem] theorem zc136 : zcT Try.prog 136 = some [.int .u64 0] := rfl
@[go_sem] theorem bd136 : bdT Try.prog 136 = some ([.int .u64 0], fun j => [(0, 0), (0, 0), (0, 1)][j]?) := rfl
@[go_sem] theorem fa136_0 : faT Try.prog 136 0 = some (0, 0) := rfl
@[go_sem] theorem fd136_0 : fdT Try.prog 136 0 = some (0, 0, true) := rfl
@[go_sem] theorem fa136_1 : faT Try.prog 136 1 = some (0, 0) := rfl
@[go_sem] theorem fd136_1 : fdT Try.prog 136 1 = some (0, 0, true) := rfl
@[go_sem] theorem fa136_2 : faT Try.prog 136 2 = some (0, 1) := rfl
@[go_sem] theorem fd136_2 : fdT Try.prog 136 2 = some (0, 1, false) := rfl
attribute [go_sem] Try.underlying137
@[go_sem] theorem sz137 : szT Try.prog 137 = some 1 := rfl
@[go_sem] theorem ag137 : agT Try.prog 137 = some false := rfl
@[go_sem] theorem zc137 : zcT Try.prog 137 = some [.slice none 0 0] := rfl
@[go_sem] theorem ia137 : iaT Try.prog 137 = some (none, 1) := rfl
@[go_sem] theorem el137 : elT Try.prog 137 = some (1, 8, [.int .u64 0]) := rfl
@[go_sem] theorem ap137 : apT Try.prog 137 137 = some (1, 8, 1) := rfl
attribute [go_sem] Try.underlying138
@[go_sem] theorem sz138 : szT Try.prog 138 = some 2 := rfl
@[go_sem] theorem ag138 : agT Try.prog 138 = some true := rfl
@[go_sem] theorem zc138 : zcT Try.prog 138 = some [.slice none 0 0, .slice none 0 0] := rfl
@[go_sem] theorem bd138 : bdT Try.prog 138 = some ([.slice none 0 0, .slice none 0 0], fun j => [(0, 1), (1, 1)][j]?) := rfl
@[go_sem] theorem fa138_0 : faT Try.prog 138 0 = some (0, 1) := rfl
@[go_sem] theorem fd138_0 : fdT Try.prog 138 0 = some (0, 1, false) := rfl
@[go_sem] theorem fa138_1 : faT Try.prog 138 1 = some (1, 1) := rfl
@[go_sem] theorem fd138_1 : fdT Try.prog 138 1 = some (1, 1, false) := rfl
attribute [go_sem] Try.underlying139
@[go_sem] theorem sz139 : szT Try.prog 139 = some 2 := rfl
@[go_sem] theorem ag139 : agT Try.prog 139 = some true := rfl
@[go_sem] theorem zc139 : zcT Try.prog 139 = some [.slice none 0 0, .slice none 0 0] := rfl
@[go_sem] theorem bd139 : bdT Try.prog 139 = some ([.slice none 0 0, .slice none 0 0], fun j => [(0, 1), (1, 1)][j]?) := rfl
@[go_sem] theorem fa139_0 : faT Try.prog 139 0 = some (0, 1) := rfl
@[go_sem] theorem fd139_0 : fdT Try.prog 139 0 = some (0, 1, false) := rfl
@[go_sem] theorem fa139_1 : faT Try.prog 139 1 = some (1, 1) := rfl
@[go_sem] theorem fd139_1 : fdT Try.prog 139 1 = some (1, 1, false) := rfl
attribute [go_sem] Try.underlying140
@[go_sem] theorem sz140 : szT Try.prog 140 = some 1 := rfl
@[go_sem] theorem ag140 : agT Try.prog 140 = some false := rfl
@[go_sem] theorem zc140 : zcT Try.prog 140 = some [.nilFunc] := rfl
attribute [go_sem] Try.underlying141
@[go_sem] theorem sz141 : szT Try.prog 141 = some 1 := rfl
@[go_sem] theorem ag141 : agT Try.prog 141 = some false := rfl
@[go_sem] theorem zc141 : zcT Try.prog 141 = some [.nilFunc] := rfl
attribute [go_sem] Try.underlying142
@[go_sem] theorem sz142 : szT Try.prog 142 = some 1 := rfl
@[go_sem] theorem ag142 : agT Try.prog 142 = some false := rfl
@[go_sem] theorem zc142 : zcT Try.prog 142 = some [.nilFunc] := rfl
attribute [go_sem] Try.underlying143
@[go_sem] theorem sz143 : szT Try.prog 143 = some 1 := rfl
@[go_sem] theorem ag143 : agT Try.prog 143 = some false := rfl
@[go_sem] theorem zc143 : zcT Try.prog 143 = some [.nilFunc] := rfl
attribute [go_sem] Try.underlying144
@[go_sem] theorem sz144 : szT Try.prog 144 = some 3 := rfl
@[go_sem] theorem ag144 : agT Try.prog 144 = some true := rfl
@[go_sem] theorem zc144 : zcT Try.prog 144 = some [.int .u8 0, .int .i64 0, .int .u64 0] := rfl
@[go_sem] theorem bd144 : bdT Try.prog 144 = some ([.int .u8 0, .int .i64 0, .int .u64 0], fun j => [(0, 1), (1, 1), (2, 1)][j]?) := rfl
@[go_sem] theorem fa144_0 : faT Try.prog 144 0 = some (0, 1) := rfl
@[go_sem] theorem fd144_0 : fdT Try.prog 144 0 = some (0, 1, false) := rfl
@[go_sem] theorem fa144_1 : faT Try.prog 144 1 = some (1, 1) := rfl
@[go_sem] theorem fd144_1 : fdT Try.prog 144 1 = some (1, 1, false) := rfl
@[go_sem] theorem fa144_2 : faT Try.prog 144 2 = some (2, 1) := rfl
@[go_sem] theorem fd144_2 : fdT Try.prog 144 2 = some (2, 1, false) := rfl
attribute [go_sem] Try.underlying145
@[go_sem] theorem sz145 : szT Try.prog 145 = some 3 := rfl
@[go_sem] theorem ag145 : agT Try.prog 145 = some true := rfl
@[go_sem] theorem zc145 : zcT Try.prog 145 = some [.int .u8 0, .int .i64 0, .int .u64 0] := rfl
@[go_sem] theorem bd145 : bdT Try.prog 145 = some ([.int .u8 0, .int .i64 0, .int .u64 0], fun j => [(0, 1), (1, 1), (2, 1)][j]?) := rfl
@[go_sem] theorem fa145_0 : faT Try.prog 145 0 = some (0, 1) := rfl
@[go_sem] theorem fd145_0 : fdT Try.prog 145 0 = some (0, 1, false) := rfl
@[go_sem] theorem fa145_1 : faT Try.prog 145 1 = some (1, 1) := rfl
@[go_sem] theorem fd145_1 : fdT Try.prog 145 1 = some (1, 1, false) := rfl
@[go_sem] theorem fa145_2 : faT Try.prog 145 2 = some (2, 1) := rfl
@[go_sem] theorem fd145_2 : fdT Try.prog 145 2 = some (2, 1, false) := rfl
attribute [go_sem] Try.underlying146
@[go_sem] theorem sz146 : szT Try.prog 146 = some 1 := rfl
@[go_sem] theorem ag146 : agT Try.prog 146 = some false := rfl
@[go_sem] theorem zc146 : zcT Try.prog 146 = some [.slice none 0 0] := rfl
@[go_sem] theorem ia146 : iaT Try.prog 146 = some (none, 3) := rfl
@[go_sem] theorem el146 : elT Try.prog 146 = some (3, 24, [.int .u8 0, .int .i64 0, .int .u64 0]) := rfl
@[go_sem] theorem ap146 : apT Try.prog 146 146 = some (3, 24, 3) := rfl
attribute [go_sem] Try.underlying147
@[go_sem] theorem sz147 : szT Try.prog 147 = some 4 := rfl
@[go_sem] theorem ag147 : agT Try.prog 147 = some true := rfl
@[go_sem] theorem zc147 : zcT Try.prog 147 = some [.pointer none, .int .i64 0, .nilFunc, .slice none 0 0] := rfl
@[go_sem] theorem bd147 : bdT Try.prog 147 = some ([.pointer none, .int .i64 0, .nilFunc, .slice none 0 0], fun j => [(0, 1), (1, 1), (2, 1), (3, 1)][j]?) := rfl
@[go_sem] theorem fa147_0 : faT Try.prog 147 0 = some (0, 1) := rfl
@[go_sem] theorem fd147_0 : fdT Try.prog 147 0 = some (0, 1, false) := rfl
@[go_sem] theorem fa147_1 : faT Try.prog 147 1 = some (1, 1) := rfl
@[go_sem] theorem fd147_1 : fdT Try.prog 147 1 = some (1, 1, false) := rfl
@[go_sem] theorem fa147_2 : faT Try.prog 147 2 = some (2, 1) := rfl
@[go_sem] theorem fd147_2 : fdT Try.prog 147 2 = some (2, 1, false) := rfl
@[go_sem] theorem fa147_3 : faT Try.prog 147 3 = some (3, 1) := rfl
@[go_sem] theorem fd147_3 : fdT Try.prog 147 3 = some (3, 1, false) := rfl
attribute [go_sem] Try.underlying148
@[go_sem] theorem sz148 : szT Try.prog 148 = some 4 := rfl
@[go_sem] theorem ag148 : agT Try.prog 148 = some true := rfl
@[go_sem] theorem zc148 : zcT Try.prog 148 = some [.pointer none, .int .i64 0, .nilFunc, .slice none 0 0] := rfl
@[go_sem] theorem bd148 : bdT Try.prog 148 = some ([.pointer none, .int .i64 0, .nilFunc, .slice none 0 0], fun j => [(0, 1), (1, 1), (2, 1), (3, 1)][j]?) := rfl
@[go_sem] theorem fa148_0 : faT Try.prog 148 0 = some (0, 1) := rfl
@[go_sem] theorem fd148_0 : fdT Try.prog 148 0 = some (0, 1, false) := rfl
@[go_sem] theorem fa148_1 : faT Try.prog 148 1 = some (1, 1) := rfl
@[go_sem] theorem fd148_1 : fdT Try.prog 148 1 = some (1, 1, false) := rfl
@[go_sem] theorem fa148_2 : faT Try.prog 148 2 = some (2, 1) := rfl
@[go_sem] theorem fd148_2 : fdT Try.prog 148 2 = some (2, 1, false) := rfl
@[go_sem] theorem fa148_3 : faT Try.prog 148 3 = some (3, 1) := rfl
@[go_sem] theorem fd148_3 : fdT Try.prog 148 3 = some (3, 1, false) := rfl
attribute [go_sem] Try.underlying149
@[go_sem] theorem sz149 : szT Try.prog 149 = some 1 := rfl
@[go_sem] theorem ag149 : agT Try.prog 149 = some false := rfl
@[go_sem] theorem zc149 : zcT Try.prog 149 = some [.nilFunc] := rfl
attribute [go_sem] Try.underlying150
@[go_sem] theorem sz150 : szT Try.prog 150 = some 1 := rfl
@[go_sem] theorem ag150 : agT Try.prog 150 = some false := rfl
@[go_sem] theorem zc150 : zcT Try.prog 150 = some [.nilFunc] := rfl
attribute [go_sem] Try.underlying151
@[go_sem] theorem sz151 : szT Try.prog 151 = some 1 := rfl
@[go_sem] theorem ag151 : agT Try.prog 151 = some false := rfl
@[go_sem] theorem zc151 : zcT Try.prog 151 = some [.nilFunc] := rfl
attribute [go_sem] Try.underlying152
@[go_sem] theorem sz152 : szT Try.prog 152 = some 4 := rfl
@[go_sem] theorem ag152 : agT Try.prog 152 = some true := rfl
@[go_sem] theorem zc152 : zcT Try.prog 152 = some [.int .u8 0, .int .i64 0, .int .i64 0, .int .i64 0] := rfl
@[go_sem] theorem bd152 : bdT Try.prog 152 = some ([.int .u8 0, .int .i64 0, .int .i64 0, .int .i64 0], fun j => [(0, 1), (1, 1), (2, 1), (3, 1)][j]?) := rfl
@[go_sem] theorem fa152_0 : faT Try.prog 152 0 = some (0, 1) := rfl
@[go_sem] theorem fd152_0 : fdT Try.prog 152 0 = some (0, 1, false) := rfl
@[go_sem] theorem fa152_1 : faT Try.prog 152 1 = some (1, 1) := rfl
@[go_sem] theorem fd152_1 : fdT Try.prog 152 1 = some (1, 1, false) := rfl
@[go_sem] theorem fa152_2 : faT Try.prog 152 2 = some (2, 1) := rfl
@[go_sem] theorem fd152_2 : fdT Try.prog 152 2 = some (2, 1, false) := rfl
@[go_sem] theorem fa152_3 : faT Try.prog 152 3 = some (3, 1) := rfl
@[go_sem] theorem fd152_3 : fdT Try.prog 152 3 = some (3, 1, false) := rfl
attribute [go_sem] Try.underlying153
@[go_sem] theorem sz153 : szT Try.prog 153 = some 4 := rfl
@[go_sem] theorem ag153 : agT Try.prog 153 = some true := rfl
@[go_sem] theorem zc153 : zcT Try.prog 153 = some [.int .u8 0, .int .i64 0, .int .i64 0, .int .i64 0] := rfl
@[go_sem] theorem bd153 : bdT Try.prog 153 = some ([.int .u8 0, .int .i64 0, .int .i64 0, .int .i64 0], fun j => [(0, 1), (1, 1), (2, 1), (3, 1)][j]?) := rfl
@[go_sem] theorem fa153_0 : faT Try.prog 153 0 = some (0, 1) := rfl
@[go_sem] theorem fd153_0 : fdT Try.prog 153 0 = some (0, 1, false) := rfl
@[go_sem] theorem fa153_1 : faT Try.prog 153 1 = some (1, 1) := rfl
@[go_sem] theorem fd153_1 : fdT Try.prog 153 1 = some (1, 1, false) := rfl
@[go_sem] theorem fa153_2 : faT Try.prog 153 2 = some (2, 1) := rfl
@[go_sem] theorem fd153_2 : fdT Try.prog 153 2 = some (2, 1, false) := rfl
@[go_sem] theorem fa153_3 : faT Try.prog 153 3 = some (3, 1) := rfl
@[go_sem] theorem fd153_3 : fdT Try.prog 153 3 = some (3, 1, false) := rfl
attribute [go_sem] Try.underlying154
@[go_sem] theorem sz154 : szT Try.prog 154 = some 1 := rfl
@[go_sem] theorem ag154 : agT Try.prog 154 = some false := rfl
@[go_sem] theorem zc154 : zcT Try.prog 154 = some [.nilFunc] := rfl
attribute [go_sem] Try.underlying155
@[go_sem] theorem sz155 : szT Try.prog 155 = some 1 := rfl
@[go_sem] theorem ag155 : agT Try.prog 155 = some false := rfl
@[go_sem] theorem zc155 : zcT Try.prog 155 = some [.nilFunc] := rfl
attribute [go_sem] Try.underlying156
@[go_sem] theorem sz156 : szT Try.prog 156 = some 1 := rfl
@[go_sem] theorem ag156 : agT Try.prog 156 = some false := rfl
@[go_sem] theorem zc156 : zcT Try.prog 156 = some [.slice none 0 0] := rfl
@[go_sem] theorem ia156 : iaT Try.prog 156 = some (none, 3) := rfl
@[go_sem] theorem el156 : elT Try.prog 156 = some (3, 24, [.int .u8 0, .int .i64 0, .int .i64 0]) := rfl
@[go_sem] theorem ap156 : apT Try.prog 156 156 = some (3, 24, 3) := rfl
attribute [go_sem] Try.underlying157
@[go_sem] theorem sz157 : szT Try.prog 157 = some 28 := rfl
@[go_sem] theorem ag157 : agT Try.prog 157 = some true := rfl
@[go_sem] theorem zc157 : zcT Try.prog 157 = some [.int .i64 0, .int .i64 0, .int .u8 0, .int .i64 0, .int .u8 0, .int .i64 0, .slice none 0 0, .int .i64 0, .int .i64 0, .int .i64 0, .int .i64 0, .int .i64 0, .int .i64 0, .int .i64 0, .int .i64 0, .int .i64 0, .int .i64 0, .int .i64 0, .int .i64 0, .int .i64 0, .int .i64 0, .int .i64 0, .int .i64 0, .int .i64 0, .int .i64 0, .int .i64 0, .slice none 0 0, .slice none 0 0] := rfl
@[go_sem] theorem bd157 : bdT Try.prog 157 = some ([.int .i64 0, .int .i64 0, .int .u8 0, .int .i64 0, .int .u8 0, .int .i64 0, .slice none 0 0, .int .i64 0, .int .i64 0, .int .i64 0, .int .i64 0, .int .i64 0, .int .i64 0, .int .i64 0, .int .i64 0, .int .i64 0, .int .i64 0, .int .i64 0, .int .i64 0, .int .i64 0, .int .i64 0, .int .i64 0, .int .i64 0, .int .i64 0, .int .i64 0, .int .i64 0, .slice none 0 0, .slice none 0 0], fun j => [(0, 16), (16, 10), (26, 1), (27, 1)][j]?) := rfl
@[go_sem] theorem fa157_0 : faT Try.prog 157 0 = some (0, 16) := rfl
@[go_sem] theorem fd157_0 : fdT Try.prog 157 0 = some (0, 16, true) := rfl
@[go_sem] theorem fa157_1 : faT Try.prog 157 1 = some (16, 10) := rfl
@[go_sem] theorem fd157_1 : fdT Try.prog 157 1 = some (16, 10, true) := rfl
@[go_sem] theorem fa157_2 : faT Try.prog 157 2 = some (26, 1) := rfl
@[go_sem] theorem fd157_2 : fdT Try.prog 157 2 = some (26, 1, false) := rfl
@[go_sem] theorem fa157_3 : faT Try.prog 157 3 = some (27, 1) := rfl
@[go_sem] theorem fd157_3 : fdT Try.prog 157 3 = some (27, 1, false) := rfl
attribute [go_sem] Try.underlying158
@[go_sem] theorem sz158 : szT Try.prog 158 = some 28 := rfl
@[go_sem] theorem ag158 : agT Try.prog 158 = some true := rfl
@[go_sem] theorem zc158 : zcT Try.prog 158 = some [.int .i64 0, .int .i64 0, .int .u8 0, .int .i64 0, .int .u8 0, .int .i64 0, .slice none 0 0, .int .i64 0, .int .i64 0, .int .i64 0, .int .i64 0, .int .i64 0, .int .i64 0, .int .i64 0, .int .i64 0, .int .i64 0, .int .i64 0, .int .i64 0, .int .i64 0, .int .i64 0, .int .i64 0, .int .i64 0, .int .i64 0, .int .i64 0, .int .i64 0, .int .i64 0, .slice none 0 0, .slice none 0 0] := rfl
@[go_sem] theorem bd158 : bdT Try.prog 158 = some ([.int .i64 0, .int .i64 0, .int .u8 0, .int .i64 0, .int .u8 0, .int .i64 0, .slice none 0 0, .int .i64 0, .int .i64 0, .int .i64 0, .int .i64 0, .int .i64 0, .int .i64 0, .int .i64 0, .int .i64 0, .int .i64 0, .int .i64 0, .int .i64 0, .int .i64 0, .int .i64 0, .int .i64 0, .int .i64 0, .int .i64 0, .int .i64 0, .int .i64 0, .int .i64 0, .slice none 0 0, .slice none 0 0], fun j => [(0, 16), (16, 10), (26, 1), (27, 1)][j]?) := rfl
@[go_sem] theorem fa158_0 : faT Try.prog 158 0 = some (0, 16) := rfl
@[go_sem] theorem fd158_0 : fdT Try.prog 158 0 = some (0, 16, true) := rfl
@[go_sem] theorem fa158_1 : faT Try.prog 158 1 = some (16, 10) := rfl
@[go_sem] theorem fd158_1 : fdT Try.prog 158 1 = some (16, 10, true) := rfl
@[go_sem] theorem fa158_2 : faT Try.prog 158 2 = some (26, 1) := rfl
@[go_sem] theorem fd158_2 : fdT Try.prog 158 2 = some (26, 1, false) := rfl
@[go_sem] theorem fa158_3 : faT Try.prog 158 3 = some (27, 1) := rfl
@[go_sem] theorem fd158_3 : fdT Try.prog 158 3 = some (27, 1, false) := rfl
attribute [go_sem] Try.underlying159
@[go_sem] theorem sz159 : szT Try.prog 159 = some 1 := rfl
@[go_sem] theorem ag159 : agT Try.prog 159 = some false := rfl
@[go_sem] theorem zc159 : zcT Try.prog 159 = some [.nilFunc] := rfl
attribute [go_sem] Try.underlying160
@[go_sem] theorem sz160 : szT Try.prog 160 = some 1 := rfl
@[go_sem] theorem ag160 : agT Try.prog 160 = some false := rfl
@[go_sem] theorem zc160 : zcT Try.prog 160 = some [.nilFunc] := rfl
attribute [go_sem] Try.underlying161
@[go_sem] theorem sz161 : szT Try.prog 161 = some 1 := rfl
@[go_sem] theorem ag161 : agT Try.prog 161 = some false := rfl
@[go_sem] theorem zc161 : zcT Try.prog 161 = some [.nilFunc] := rfl
attribute [go_sem] Try.underlying162
@[go_sem] theorem sz162 : szT Try.prog 162 = some 1 := rfl
@[go_sem] theorem ag162 : agT Try.prog 162 = some false := rfl
attribute [go_sem] Try.underlying163
@[go_sem] theorem sz163 : szT Try.prog 163 = some 1 := rfl
@[go_sem] theorem ag163 : agT Try.prog 163 = some false := rfl
@[go_sem] theorem zc163 : zcT Try.prog 163 = some [.nilFunc] := rfl
attribute [go_sem] Try.underlying164
@[go_sem] theorem sz164 : szT Try.prog 164 = some 2 := rfl
@[go_sem] theorem ag164 : agT Try.prog 164 = some true := rfl
@[go_sem] theorem zc164 : zcT Try.prog 164 = some [.pointer none, .pointer none] := rfl
@[go_sem] theorem bd164 : bdT Try.prog 164 = some ([.pointer none, .pointer none], fun j => [(0, 1), (1, 1)][j]?) := rfl
@[go_sem] theorem fa164_0 : faT Try.prog 164 0 = some (0, 1) := rfl
@[go_sem] theorem fd164_0 : fdT Try.prog 164 0 = some (0, 1, false) := rfl
@[go_sem] theorem fa164_1 : faT Try.prog 164 1 = some (1, 1) := rfl
@[go_sem] theorem fd164_1 : fdT Try.prog 164 1 = some (1, 1, false) := rfl
attribute [go_sem] Try.underlying165
@[go_sem] theorem sz165 : szT Try.prog 165 = some 2 := rfl
@[go_sem] theorem ag165 : agT Try.prog 165 = some true := rfl
@[go_sem] theorem zc165 : zcT Try.prog 165 = some [.pointer none, .pointer none] := rfl
@[go_sem] theorem bd165 : bdT Try.prog 165 = some ([.pointer none, .pointer none], fun j => [(0, 1), (1, 1)][j]?) := rfl
@[go_sem] theorem fa165_0 : faT Try.prog 165 0 = some (0, 1) := rfl
@[go_sem] theorem fd165_0 : fdT Try.prog 165 0 = some (0, 1, false) := rfl
@[go_sem] theorem fa165_1 : faT Try.prog 165 1 = some (1, 1) := rfl
@[go_sem] theorem fd165_1 : fdT Try.prog 165 1 = some (1, 1, false) := rfl
attribute [go_sem] Try.underlying166
@[go_sem] theorem sz166 : szT Try.prog 166 = some 1 := rfl
@[go_sem] theorem ag166 : agT Try.prog 166 = some false := rfl
@[go_sem] theorem zc166 : zcT Try.prog 166 = some [.nilFunc] := rfl
attribute [go_sem] Try.underlying167
@[go_sem] theorem sz167 : szT Try.prog 167 = some 1 := rfl
@[go_sem] theorem ag167 : agT Try.prog 167 = some false := rfl
@[go_sem] theorem zc167 : zcT Try.prog 167 = some [.nilFunc] := rfl
attribute [go_sem] Try.underlying168
@[go_sem] theorem sz168 : szT Try.prog 168 = some 1 := rfl
@[go_sem] theorem ag168 : agT Try.prog 168 = some false := rfl
@[go_sem] theorem zc168 : zcT Try.prog 168 = some [.nilFunc] := rfl
attribute [go_sem] Try.underlying169
@[go_sem] theorem sz169 : szT Try.prog 169 = some 1 := rfl
@[go_sem] theorem ag169 : agT Try.prog 169 = some false := rfl
@[go_sem] theorem zc169 : zcT Try.prog 169 = some [.slice none 0 0] := rfl
@[go_sem] theorem ia169 : iaT Try.prog 169 = some (none, 1) := rfl
@[go_sem] theorem el169 : elT Try.prog 169 = some (1, 1, [.bool false]) := rfl
@[go_sem] theorem ap169 : apT Try.prog 169 169 = some (1, 1, 1) := rfl
attribute [go_sem] Try.underlying170
@[go_sem] theorem sz170 : szT Try.prog 170 = some 1 := rfl
@[go_sem] theorem ag170 : agT Try.prog 170 = some false := rfl
attribute [go_sem] Try.underlying171
@[go_sem] theorem sz171 : szT Try.prog 171 = some 1 := rfl
@[go_sem] theorem ag171 : agT Try.prog 171 = some false := rfl
@[go_sem] theorem zc171 : zcT Try.prog 171 = some [.nilFunc] := rfl
attribute [go_sem] Try.underlying172
@[go_sem] theorem sz172 : szT Try.prog 172 = some 1 := rfl
@[go_sem] theorem ag172 : agT Try.prog 172 = some false := rfl
@[go_sem] theorem zc172 : zcT Try.prog 172 = some [.nilFunc] := rfl
attribute [go_sem] Try.underlying173
@[go_sem] theorem sz173 : szT Try.prog 173 = some 1 := rfl
@[go_sem] theorem ag173 : agT Try.prog 173 = some false := rfl
@[go_sem] theorem zc173 : zcT Try.prog 173 = some [.nilFunc] := rfl
attribute [go_sem] Try.underlying174
@[go_sem] theorem sz174 : szT Try.prog 174 = some 1 := rfl
@[go_sem] theorem ag174 : agT Try.prog 174 = some false := rfl
@[go_sem] theorem zc174 : zcT Try.prog 174 = some [.nilFunc] := rfl
attribute [go_sem] Try.underlying175
@[go_sem] theorem sz175 : szT Try.prog 175 = some 1 := rfl
@[go_sem] theorem ag175 : agT Try.prog 175 = some false := rfl
@[go_sem] theorem zc175 : zcT Try.prog 175 = some [.nilFunc] := rfl
attribute [go_sem] Try.underlying176
@[go_sem] theorem sz176 : szT Try.prog 176 = some 1 := rfl
@[go_sem] theorem ag176 : agT Try.prog 176 = some false := rfl
attribute [go_sem] Try.underlying177
@[go_sem] theorem sz177 : szT Try.prog 177 = some 1 := rfl
@[go_sem] theorem ag177 : agT Try.prog 177 = some false := rfl
@[go_sem] theorem zc177 : zcT Try.prog 177 = some [.nilFunc] := rfl
attribute [go_sem] Try.underlying178
@[go_sem] theorem sz178 : szT Try.prog 178 = some 1 := rfl
@[go_sem] theorem ag178 : agT Try.prog 178 = some false := rfl
@[go_sem] theorem zc178 : zcT Try.prog 178 = some [.nilFunc] := rfl
attribute [go_sem] Try.underlying179
@[go_sem] theorem sz179 : szT Try.prog 179 = some 1 := rfl
@[go_sem] theorem ag179 : agT Try.prog 179 = some false := rfl
@[go_sem] theorem zc179 : zcT Try.prog 179 = some [.nilFunc] := rfl
attribute [go_sem] Try.underlying180
@[go_sem] theorem sz180 : szT Try.prog 180 = some 1 := rfl
@[go_sem] theorem ag180 : agT Try.prog 180 = some false := rfl
@[go_sem] theorem zc180 : zcT Try.prog 180 = some [.pointer none] := rfl
attribute [go_sem] Try.underlying181
@[go_sem] theorem sz181 : szT Try.prog 181 = some 1 := rfl
@[go_sem] theorem ag181 : agT Try.prog 181 = some false := rfl
@[go_sem] theorem zc181 : zcT Try.prog 181 = some [.nilFunc] := rfl
attribute [go_sem] Try.underlying182
@[go_sem] theorem sz182 : szT Try.prog 182 = some 1 := rfl
@[go_sem] theorem ag182 : agT Try.prog 182 = some false := rfl
@[go_sem] theorem zc182 : zcT Try.prog 182 = some [.pointer none] := rfl
attribute [go_sem] Try.underlying183
@[go_sem] theorem sz183 : szT Try.prog 183 = some 6 := rfl
@[go_sem] theorem ag183 : agT Try.prog 183 = some true := rfl
@[go_sem] theorem zc183 : zcT Try.prog 183 = some [.int .i64 0, .int .i64 0, .int .u8 0, .int .u64 0, .int .u64 0, .bool false] := rfl
@[go_sem] theorem bd183 : bdT Try.prog 183 = some ([.int .i64 0, .int .i64 0, .int .u8 0, .int .u64 0, .int .u64 0, .bool false], fun j => [(0, 1), (1, 1), (2, 1), (3, 1), (4, 1), (5, 1)][j]?) := rfl
@[go_sem] theorem fa183_0 : faT Try.prog 183 0 = some (0, 1) := rfl
@[go_sem] theorem fd183_0 : fdT Try.prog 183 0 = some (0, 1, false) := rfl
@[go_sem] theorem fa183_1 : faT Try.prog 183 1 = some (1, 1) := rfl
@[go_sem] theorem fd183_1 : fdT Try.prog 183 1 = some (1, 1, false) := rfl
@[go_sem] theorem fa183_2 : faT Try.prog 183 2 = some (2, 1) := rfl
@[go_sem] theorem fd183_2 : fdT Try.prog 183 2 = some (2, 1, false) := rfl
@[go_sem] theorem fa183_3 : faT Try.prog 183 3 = some (3, 1) := rfl
@[go_sem] theorem fd183_3 : fdT Try.prog 183 3 = some (3, 1, false) := rfl
@[go_sem] theorem fa183_4 : faT Try.prog 183 4 = some (4, 1) := rfl
@[go_sem] theorem fd183_4 : fdT Try.prog 183 4 = some (4, 1, false) := rfl
@[go_sem] theorem fa183_5 : faT Try.prog 183 5 = some (5, 1) := rfl
@[go_sem] theorem fd183_5 : fdT Try.prog 183 5 = some (5, 1, false) := rfl
attribute [go_sem] Try.underlying184
@[go_sem] theorem sz184 : szT Try.prog 184 = some 6 := rfl
@[go_sem] theorem ag184 : agT Try.prog 184 = some true := rfl
@[go_sem] theorem zc184 : zcT Try.prog 184 = some [.int .i64 0, .int .i64 0, .int .u8 0, .int .u64 0, .int .u64 0, .bool false] := rfl
@[go_sem] theorem bd184 : bdT Try.prog 184 = some ([.int .i64 0, .int .i64 0, .int .u8 0, .int .u64 0, .int .u64 0, .bool false], fun j => [(0, 1), (1, 1), (2, 1), (3, 1), (4, 1), (5, 1)][j]?) := rfl
@[go_sem] theorem fa184_0 : faT Try.prog 184 0 = some (0, 1) := rfl
@[go_sem] theorem fd184_0 : fdT Try.prog 184 0 = some (0, 1, false) := rfl
@[go_sem] theorem fa184_1 : faT Try.prog 184 1 = some (1, 1) := rfl
@[go_sem] theorem fd184_1 : fdT Try.prog 184 1 = some (1, 1, false) := rfl
@[go_sem] theorem fa184_2 : faT Try.prog 184 2 = some (2, 1) := rfl
@[go_sem] theorem fd184_2 : fdT Try.prog 184 2 = some (2, 1, false) := rfl
@[go_sem] theorem fa184_3 : faT Try.prog 184 3 = some (3, 1) := rfl
@[go_sem] theorem fd184_3 : fdT Try.prog 184 3 = some (3, 1, false) := rfl
@[go_sem] theorem fa184_4 : faT Try.prog 184 4 = some (4, 1) := rfl
@[go_sem] theorem fd184_4 : fdT Try.prog 184 4 = some (4, 1, false) := rfl
@[go_sem] theorem fa184_5 : faT Try.prog 184 5 = some (5, 1) := rfl
@[go_sem] theorem fd184_5 : fdT Try.prog 184 5 = some (5, 1, false) := rfl
attribute [go_sem] Try.underlying185
@[go_sem] theorem sz185 : szT Try.prog 185 = some 1 := rfl
@[go_sem] theorem ag185 : agT Try.prog 185 = some false := rfl
@[go_sem] theorem zc185 : zcT Try.prog 185 = some [.nilFunc] := rfl
attribute [go_sem] Try.underlying186
@[go_sem] theorem sz186 : szT Try.prog 186 = some 1 := rfl
@[go_sem] theorem ag186 : agT Try.prog 186 = some false := rfl
@[go_sem] theorem zc186 : zcT Try.prog 186 = some [.nilFunc] := rfl
attribute [go_sem] Try.underlying187
@[go_sem] theorem sz187 : szT Try.prog 187 = some 1 := rfl
@[go_sem] theorem ag187 : agT Try.prog 187 = some false := rfl
@[go_sem] theorem zc187 : zcT Try.prog 187 = some [.nilFunc] := rfl
attribute [go_sem] Try.underlying188
@[go_sem] theorem sz188 : szT Try.prog 188 = some 1 := rfl
@[go_sem] theorem ag188 : agT Try.prog 188 = some false := rfl
@[go_sem] theorem zc188 : zcT Try.prog 188 = some [.nilFunc] := rfl
attribute [go_sem] Try.underlying189
@[go_sem] theorem sz189 : szT Try.prog 189 = some 4 := rfl
@[go_sem] theorem ag189 : agT Try.prog 189 = some true := rfl
@[go_sem] theorem zc189 : zcT Try.prog 189 = some [.int .i64 0, .int .i64 0, .int .i64 0, .int .i64 0] := rfl
@[go_sem] theorem bd189 : bdT Try.prog 189 = some ([.int .i64 0, .int .i64 0, .int .i64 0, .int .i64 0], fun j => some (j * 1, 1)) := rfl
@[go_sem] theorem ia189 : iaT Try.prog 189 = some (some 4, 1) := rfl
@[go_sem] theorem ix189 : ixT Try.prog 189 = some (4, 1, false) := rfl
attribute [go_sem] Try.underlying190
@[go_sem] theorem sz190 : szT Try.prog 190 = some 3 := rfl
@[go_sem] theorem ag190 : agT Try.prog 190 = some true := rfl
@[go_sem] theorem zc190 : zcT Try.prog 190 = some [.int .u8 0, .int .i64 0, .int .i64 0] := rfl
@[go_sem] theorem bd190 : bdT Try.prog 190 = some ([.int .u8 0, .int .i64 0, .int .i64 0], fun j => [(0, 1), (1, 1), (2, 1)][j]?) := rfl
@[go_sem] theorem fa190_0 : faT Try.prog 190 0 = some (0, 1) := rfl
@[go_sem] theorem fd190_0 : fdT Try.prog 190 0 = some (0, 1, false) := rfl
@[go_sem] theorem fa190_1 : faT Try.prog 190 1 = some (1, 1) := rfl
@[go_sem] theorem fd190_1 : fdT Try.prog 190 1 = some (1, 1, false) := rfl
@[go_sem] theorem fa190_2 : faT Try.prog 190 2 = some (2, 1) := rfl
@[go_sem] theorem fd190_2 : fdT Try.prog 190 2 = some (2, 1, false) := rfl
attribute [go_sem] Try.underlying191
@[go_sem] theorem sz191 : szT Try.prog 191 = some 3 := rfl
@[go_sem] theorem ag191 : agT Try.prog 191 = some true := rfl
@[go_sem] theorem zc191 : zcT Try.prog 191 = some [.int .u8 0, .int .i64 0, .int .i64 0] := rfl
@[go_sem] theorem bd191 : bdT Try.prog 191 = some ([.int .u8 0, .int .i64 0, .int .i64 0], fun j => [(0, 1), (1, 1), (2, 1)][j]?) := rfl
@[go_sem] theorem fa191_0 : faT Try.prog 191 0 = some (0, 1) := rfl
@[go_sem] theorem fd191_0 : fdT Try.prog 191 0 = some (0, 1, false) := rfl
@[go_sem] theorem fa191_1 : faT Try.prog 191 1 = some (1, 1) := rfl
@[go_sem] theorem fd191_1 : fdT Try.prog 191 1 = some (1, 1, false) := rfl
@[go_sem] theorem fa191_2 : faT Try.prog 191 2 = some (2, 1) := rfl
@[go_sem] theorem fd191_2 : fdT Try.prog 191 2 = some (2, 1, false) := rfl
attribute [go_sem] Try.underlying192
@[go_sem] theorem sz192 : szT Try.prog 192 = some 1 := rfl
@[go_sem] theorem ag192 : agT Try.prog 192 = some false := rfl
@[go_sem] theorem zc192 : zcT Try.prog 192 = some [.nilFunc] := rfl
attribute [go_sem] Try.underlying193
@[go_sem] theorem sz193 : szT Try.prog 193 = some 1 := rfl
@[go_sem] theorem ag193 : agT Try.prog 193 = some false := rfl
@[go_sem] theorem zc193 : zcT Try.prog 193 = some [.nilFunc] := rfl
attribute [go_sem] Try.underlying194
@[go_sem] theorem sz194 : szT Try.prog 194 = some 1 := rfl
@[go_sem] theorem ag194 : agT Try.prog 194 = some false := rfl
@[go_sem] theorem zc194 : zcT Try.prog 194 = some [.nilFunc] := rfl
attribute [go_sem] Try.underlying195
@[go_sem] theorem sz195 : szT Try.prog 195 = some 1 := rfl
@[go_sem] theorem ag195 : agT Try.prog 195 = some false := rfl
@[go_sem] theorem zc195 : zcT Try.prog 195 = some [.nilFunc] := rfl
attribute [go_sem] Try.underlying196
@[go_sem] theorem sz196 : szT Try.prog 196 = some 1 := rfl
@[go_sem] theorem ag196 : agT Try.prog 196 = some false := rfl
@[go_sem] theorem zc196 : zcT Try.prog 196 = some [.nilFunc] := rfl
attribute [go_sem] Try.underlying197
@[go_sem] theorem sz197 : szT Try.prog 197 = some 1 := rfl
@[go_sem] theorem ag197 : agT Try.prog 197 = some false := rfl
@[go_sem] theorem zc197 : zcT Try.prog 197 = some [.int .u64 0] := rfl
attribute [go_sem] Try.underlying198
@[go_sem] theorem sz198 : szT Try.prog 198 = some 1 := rfl
@[go_sem] theorem ag198 : agT Try.prog 198 = some false := rfl
@[go_sem] theorem zc198 : zcT Try.prog 198 = some [.nilFunc] := rfl
attribute [go_sem] Try.underlying199
@[go_sem] theorem sz199 : szT Try.prog 199 = some 4 := rfl
@[go_sem] theorem ag199 : agT Try.prog 199 = some true := rfl
@[go_sem] theorem zc199 : zcT Try.prog 199 = some [.pointer none, .pointer none, .pointer none, .string ⟨#[]⟩] := rfl
@[go_sem] theorem bd199 : bdT Try.prog 199 = some ([.pointer none, .pointer none, .pointer none, .string ⟨#[]⟩], fun j => [(0, 1), (1, 1), (2, 1), (3, 1)][j]?) := rfl
@[go_sem] theorem fa199_0 : faT Try.prog 199 0 = some (0, 1) := rfl
@[go_sem] theorem fd199_0 : fdT Try.prog 199 0 = some (0, 1, false) := rfl
@[go_sem] theorem fa199_1 : faT Try.prog 199 1 = some (1, 1) := rfl
@[go_sem] theorem fd199_1 : fdT Try.prog 199 1 = some (1, 1, false) := rfl
@[go_sem] theorem fa199_2 : faT Try.prog 199 2 = some (2, 1) := rfl
@[go_sem] theorem fd199_2 : fdT Try.prog 199 2 = some (2, 1, false) := rfl
@[go_sem] theorem fa199_3 : faT Try.prog 199 3 = some (3, 1) := rfl
@[go_sem] theorem fd199_3 : fdT Try.prog 199 3 = some (3, 1, false) := rfl
attribute [go_sem] Try.underlying200
@[go_sem] theorem sz200 : szT Try.prog 200 = some 4 := rfl
@[go_sem] theorem ag200 : agT Try.prog 200 = some true := rfl
@[go_sem] theorem zc200 : zcT Try.prog 200 = some [.pointer none, .pointer none, .pointer none, .string ⟨#[]⟩] := rfl
@[go_sem] theorem bd200 : bdT Try.prog 200 = some ([.pointer none, .pointer none, .pointer none, .string ⟨#[]⟩], fun j => [(0, 1), (1, 1), (2, 1), (3, 1)][j]?) := rfl
@[go_sem] theorem fa200_0 : faT Try.prog 200 0 = some (0, 1) := rfl
@[go_sem] theorem fd200_0 : fdT Try.prog 200 0 = some (0, 1, false) := rfl
@[go_sem] theorem fa200_1 : faT Try.prog 200 1 = some (1, 1) := rfl
@[go_sem] theorem fd200_1 : fdT Try.prog 200 1 = some (1, 1, false) := rfl
@[go_sem] theorem fa200_2 : faT Try.prog 200 2 = some (2, 1) := rfl
@[go_sem] theorem fd200_2 : fdT Try.prog 200 2 = some (2, 1, false) := rfl
@[go_sem] theorem fa200_3 : faT Try.prog 200 3 = some (3, 1) := rfl
@[go_sem] theorem fd200_3 : fdT Try.prog 200 3 = some (3, 1, false) := rfl
attribute [go_sem] Try.underlying201
@[go_sem] theorem sz201 : szT Try.prog 201 = some 0 := rfl
@[go_sem] theorem ag201 : agT Try.prog 201 = some true := rfl
@[go_sem] theorem zc201 : zcT Try.prog 201 = some [] := rfl
@[go_sem] theorem bd201 : bdT Try.prog 201 = some ([], fun j => some (j * 1, 1)) := rfl
@[go_sem] theorem ia201 : iaT Try.prog 201 = some (some 0, 1) := rfl
@[go_sem] theorem ix201 : ixT Try.prog 201 = some (0, 1, false) := rfl
attribute [go_sem] Try.underlying202
@[go_sem] theorem sz202 : szT Try.prog 202 = some 0 := rfl
@[go_sem] theorem ag202 : agT Try.prog 202 = some true := rfl
@[go_sem] theorem zc202 : zcT Try.prog 202 = some [] := rfl
@[go_sem] theorem bd202 : bdT Try.prog 202 = some ([], fun j => [(0, 0)][j]?) := rfl
@[go_sem] theorem fa202_0 : faT Try.prog 202 0 = some (0, 0) := rfl
@[go_sem] theorem fd202_0 : fdT Try.prog 202 0 = some (0, 0, true) := rfl
attribute [go_sem] Try.underlying203
@[go_sem] theorem sz203 : szT Try.prog 203 = some 0 := rfl
@[go_sem] theorem ag203 : agT Try.prog 203 = some true := rfl
@[go_sem] theorem zc203 : zcT Try.prog 203 = some [] := rfl
@[go_sem] theorem bd203 : bdT Try.prog 203 = some ([], fun j => [(0, 0)][j]?) := rfl
@[go_sem] theorem fa203_0 : faT Try.prog 203 0 = some (0, 0) := rfl
@[go_sem] theorem fd203_0 : fdT Try.prog 203 0 = some (0, 0, true) := rfl
attribute [go_sem] Try.underlying204
@[go_sem] theorem sz204 : szT Try.prog 204 = some 1 := rfl
@[go_sem] theorem ag204 : agT Try.prog 204 = some false := rfl
@[go_sem] theorem zc204 : zcT Try.prog 204 = some [.int .u32 0] := rfl
attribute [go_sem] Try.underlying205
@[go_sem] theorem sz205 : szT Try.prog 205 = some 1 := rfl
@[go_sem] theorem ag205 : agT Try.prog 205 = some false := rfl
@[go_sem] theorem zc205 : zcT Try.prog 205 = some [.int .u8 0] := rfl
attribute [go_sem] Try.underlying206
@[go_sem] theorem sz206 : szT Try.prog 206 = some 1 := rfl
@[go_sem] theorem ag206 : agT Try.prog 206 = some false := rfl
@[go_sem] theorem zc206 : zcT Try.prog 206 = some [.int .u8 0] := rfl
attribute [go_sem] Try.underlying207
@[go_sem] theorem sz207 : szT Try.prog 207 = some 1 := rfl
@[go_sem] theorem ag207 : agT Try.prog 207 = some false := rfl
@[go_sem] theorem zc207 : zcT Try.prog 207 = some [.nilFunc] := rfl
attribute [go_sem] Try.underlying208
@[go_sem] theorem sz208 : szT Try.prog 208 = some 1 := rfl
@[go_sem] theorem ag208 : agT Try.prog 208 = some false := rfl
@[go_sem] theorem zc208 : zcT Try.prog 208 = some [.pointer none] := rfl
attribute [go_sem] Try.underlying209
@[go_sem] theorem sz209 : szT Try.prog 209 = some 1 := rfl
@[go_sem] theorem ag209 : agT Try.prog 209 = some false := rfl
@[go_sem] theorem zc209 : zcT Try.prog 209 = some [.int .i32 0] := rfl
attribute [go_sem] Try.underlying210
@[go_sem] theorem sz210 : szT Try.prog 210 = some 1 := rfl
@[go_sem] theorem ag210 : agT Try.prog 210 = some false := rfl
@[go_sem] theorem zc210 : zcT Try.prog 210 = some [.int .i32 0] := rfl
attribute [go_sem] Try.underlying211
@[go_sem] theorem sz211 : szT Try.prog 211 = some 11 := rfl
@[go_sem] theorem ag211 : agT Try.prog 211 = some true := rfl
@[go_sem] theorem zc211 : zcT Try.prog 211 = some [.int .u64 0, .int .u64 0, .int .u32 0, .int .u8 0, .int .u8 0, .int .u8 0, .int .u8 0, .nilFunc, .pointer none, .int .i32 0, .int .i32 0] := rfl
@[go_sem] theorem bd211 : bdT Try.prog 211 = some ([.int .u64 0, .int .u64 0, .int .u32 0, .int .u8 0, .int .u8 0, .int .u8 0, .int .u8 0, .nilFunc, .pointer none, .int .i32 0, .int .i32 0], fun j => [(0, 1), (1, 1), (2, 1), (3, 1), (4, 1), (5, 1), (6, 1), (7, 1), (8, 1), (9, 1), (10, 1)][j]?) := rfl
@[go_sem] theorem fa211_0 : faT Try.prog 211 0 = some (0, 1) := rfl
@[go_sem] theorem fd211_0 : fdT Try.prog 211 0 = some (0, 1, false) := rfl
@[go_sem] theorem fa211_1 : faT Try.prog 211 1 = some (1, 1) := rfl
@[go_sem] theorem fd211_1 : fdT Try.prog 211 1 = some (1, 1, false) := rfl
@[go_sem] theorem fa211_2 : faT Try.prog 211 2 = some (2, 1) := rfl
@[go_sem] theorem fd211_2 : fdT Try.prog 211 2 = some (2, 1, false) := rfl
@[go_sem] theorem fa211_3 : faT Try.prog 211 3 = some (3, 1) := rfl
@[go_sem] theorem fd211_3 : fdT Try.prog 211 3 = some (3, 1, false) := rfl
@[go_sem] theorem fa211_4 : faT Try.prog 211 4 = some (4, 1) := rfl
@[go_sem] theorem fd211_4 : fdT Try.prog 211 4 = some (4, 1, false) := rfl
@[go_sem] theorem fa211_5 : faT Try.prog 211 5 = some (5, 1) := rfl
@[go_sem] theorem fd211_5 : fdT Try.prog 211 5 = some (5, 1, false) := rfl
@[go_sem] theorem fa211_6 : faT Try.prog 211 6 = some (6, 1) := rfl
@[go_sem] theorem fd211_6 : fdT Try.prog 211 6 = some (6, 1, false) := rfl
@[go_sem] theorem fa211_7 : faT Try.prog 211 7 = some (7, 1) := rfl
@[go_sem] theorem fd211_7 : fdT Try.prog 211 7 = some (7, 1, false) := rfl
@[go_sem] theorem fa211_8 : faT Try.prog 211 8 = some (8, 1) := rfl
@[go_sem] theorem fd211_8 : fdT Try.prog 211 8 = some (8, 1, false) := rfl
@[go_sem] theorem fa211_9 : faT Try.prog 211 9 = some (9, 1) := rfl
@[go_sem] theorem fd211_9 : fdT Try.prog 211 9 = some (9, 1, false) := rfl
@[go_sem] theorem fa211_10 : faT Try.prog 211 10 = some (10, 1) := rfl
@[go_sem] theorem fd211_10 : fdT Try.prog 211 10 = some (10, 1, false) := rfl
attribute [go_sem] Try.underlying212
@[go_sem] theorem sz212 : szT Try.prog 212 = some 11 := rfl
@[go_sem] theorem ag212 : agT Try.prog 212 = some true := rfl
@[go_sem] theorem zc212 : zcT Try.prog 212 = some [.int .u64 0, .int .u64 0, .int .u32 0, .int .u8 0, .int .u8 0, .int .u8 0, .int .u8 0, .nilFunc, .pointer none, .int .i32 0, .int .i32 0] := rfl
@[go_sem] theorem bd212 : bdT Try.prog 212 = some ([.int .u64 0, .int .u64 0, .int .u32 0, .int .u8 0, .int .u8 0, .int .u8 0, .int .u8 0, .nilFunc, .pointer none, .int .i32 0, .int .i32 0], fun j => [(0, 1), (1, 1), (2, 1), (3, 1), (4, 1), (5, 1), (6, 1), (7, 1), (8, 1), (9, 1), (10, 1)][j]?) := rfl
@[go_sem] theorem fa212_0 : faT Try.prog 212 0 = some (0, 1) := rfl
@[go_sem] theorem fd212_0 : fdT Try.prog 212 0 = some (0, 1, false) := rfl
@[go_sem] theorem fa212_1 : faT Try.prog 212 1 = some (1, 1) := rfl
@[go_sem] theorem fd212_1 : fdT Try.prog 212 1 = some (1, 1, false) := rfl
@[go_sem] theorem fa212_2 : faT Try.prog 212 2 = some (2, 1) := rfl
@[go_sem] theorem fd212_2 : fdT Try.prog 212 2 = some (2, 1, false) := rfl
@[go_sem] theorem fa212_3 : faT Try.prog 212 3 = some (3, 1) := rfl
@[go_sem] theorem fd212_3 : fdT Try.prog 212 3 = some (3, 1, false) := rfl
@[go_sem] theorem fa212_4 : faT Try.prog 212 4 = some (4, 1) := rfl
@[go_sem] theorem fd212_4 : fdT Try.prog 212 4 = some (4, 1, false) := rfl
@[go_sem] theorem fa212_5 : faT Try.prog 212 5 = some (5, 1) := rfl
@[go_sem] theorem fd212_5 : fdT Try.prog 212 5 = some (5, 1, false) := rfl
@[go_sem] theorem fa212_6 : faT Try.prog 212 6 = some (6, 1) := rfl
@[go_sem] theorem fd212_6 : fdT Try.prog 212 6 = some (6, 1, false) := rfl
@[go_sem] theorem fa212_7 : faT Try.prog 212 7 = some (7, 1) := rfl
@[go_sem] theorem fd212_7 : fdT Try.prog 212 7 = some (7, 1, false) := rfl
@[go_sem] theorem fa212_8 : faT Try.prog 212 8 = some (8, 1) := rfl
@[go_sem] theorem fd212_8 : fdT Try.prog 212 8 = some (8, 1, false) := rfl
@[go_sem] theorem fa212_9 : faT Try.prog 212 9 = some (9, 1) := rfl
@[go_sem] theorem fd212_9 : fdT Try.prog 212 9 = some (9, 1, false) := rfl
@[go_sem] theorem fa212_10 : faT Try.prog 212 10 = some (10, 1) := rfl
@[go_sem] theorem fd212_10 : fdT Try.prog 212 10 = some (10, 1, false) := rfl
attribute [go_sem] Try.underlying213
@[go_sem] theorem sz213 : szT Try.prog 213 = some 1 := rfl
@[go_sem] theorem ag213 : agT Try.prog 213 = some false := rfl
@[go_sem] theorem zc213 : zcT Try.prog 213 = some [.nilFunc] := rfl
attribute [go_sem] Try.underlying214
@[go_sem] theorem sz214 : szT Try.prog 214 = some 1 := rfl
@[go_sem] theorem ag214 : agT Try.prog 214 = some false := rfl
@[go_sem] theorem zc214 : zcT Try.prog 214 = some [.nilFunc] := rfl
attribute [go_sem] Try.underlying215
@[go_sem] theorem sz215 : szT Try.prog 215 = some 1 := rfl
@[go_sem] theorem ag215 : agT Try.prog 215 = some false := rfl
@[go_sem] theorem zc215 : zcT Try.prog 215 = some [.pointer none] := rfl
@[go_sem] theorem call2 (args : List Value) : aCallFunc Try.prog 2 args = .pure (.enter 2 args) := rfl
@[go_sem] theorem call3 (args : List Value) : aCallFunc Try.prog 3 args = .pure (.enter 3 args) := rfl
@[go_sem] theorem call4 (args : List Value) : aCallFunc Try.prog 4 args = .pure (.enter 4 args) := rfl
@[go_sem] theorem call5 (args : List Value) : aCallFunc Try.prog 5 args = .pure (.enter 5 args) := rfl
@[go_sem] theorem call6 (args : List Value) : aCallFunc Try.prog 6 args = .pure (.enter 6 args) := rfl
@[go_sem] theorem call7 (args : List Value) : aCallFunc Try.prog 7 args = .pure (.enter 7 args) := rfl
@[go_sem] theorem call8 (args : List Value) : aCallFunc Try.prog 8 args = .pure (.enter 8 args) := rfl
@[go_sem] theorem call9 (args : List Value) : aCallFunc Try.prog 9 args = .pure (.enter 9 args) := rfl
@[go_sem] theorem call10 (args : List Value) : aCallFunc Try.prog 10 args = .pure (.enter 10 args) := rfl
@[go_sem] theorem call11 (args : List Value) : aCallFunc Try.prog 11 args = .pure (.enter 11 args) := rfl
@[go_sem] theorem call12 (args : List Value) : aCallFunc Try.prog 12 args = .pure (.enter 12 args) := rfl
@[go_sem] theorem call13 (args : List Value) : aCallFunc Try.prog 13 args = .pure (.enter 13 args) := rfl
@[go_sem] theorem call14 (args : List Value) : aCallFunc Try.prog 14 args = .pure (.enter 14 args) := rfl
@[go_sem] theorem call15 (args : List Value) : aCallFunc Try.prog 15 args = .pure (.enter 15 args) := rfl
@[go_sem] theorem call16 (args : List Value) : aCallFunc Try.prog 16 args = .pure (.enter 16 args) := rfl
@[go_sem] theorem call17 (args : List Value) : aCallFunc Try.prog 17 args = .pure (.enter 17 args) := rfl
@[go_sem] theorem call18 (args : List Value) : aCallFunc Try.prog 18 args = .pure (.enter 18 args) := rfl
@[go_sem] theorem call19 (args : List Value) : aCallFunc Try.prog 19 args = .pure (.enter 19 args) := rfl
@[go_sem] theorem call20 (args : List Value) : aCallFunc Try.prog 20 args = .pure (.enter 20 args) := rfl
@[go_sem] theorem call21 (args : List Value) : aCallFunc Try.prog 21 args = .pure (.enter 21 args) := rfl
@[go_sem] theorem call22 (args : List Value) : aCallFunc Try.prog 22 args = .pure (.enter 22 args) := rfl
@[go_sem] theorem call23 (args : List Value) : aCallFunc Try.prog 23 args = .pure (.enter 23 args) := rfl
@[go_sem] theorem call24 (args : List Value) : aCallFunc Try.prog 24 args = .pure (.enter 24 args) := rfl
@[go_sem] theorem call25 (args : List Value) : aCallFunc Try.prog 25 args = .pure (.enter 25 args) := rfl
@[go_sem] theorem call26 (args : List Value) : aCallFunc Try.prog 26 args = .pure (.enter 26 args) := rfl
@[go_sem] theorem call27 (args : List Value) : aCallFunc Try.prog 27 args = .pure (.enter 27 args) := rfl
@[go_sem] theorem call28 (args : List Value) : aCallFunc Try.prog 28 args = .pure (.enter 28 args) := rfl
@[go_sem] theorem call29 (args : List Value) : aCallFunc Try.prog 29 args = .pure (.enter 29 args) := rfl
@[go_sem] theorem call30 (args : List Value) : aCallFunc Try.prog 30 args = .pure (.enter 30 args) := rfl
@[go_sem] theorem call31 (args : List Value) : aCallFunc Try.prog 31 args = .pure (.enter 31 args) := rfl
@[go_sem] theorem call32 (args : List Value) : aCallFunc Try.prog 32 args = .pure (.enter 32 args) := rfl
@[go_sem] theorem call33 (args : List Value) : aCallFunc Try.prog 33 args = .pure (.enter 33 args) := rfl
@[go_sem] theorem call34 (args : List Value) : aCallFunc Try.prog 34 args = .pure (.enter 34 args) := rfl
@[go_sem] theorem call35 (args : List Value) : aCallFunc Try.prog 35 args = .pure (.enter 35 args) := rfl
@[go_sem] theorem call36 (args : List Value) : aCallFunc Try.prog 36 args = .pure (.enter 36 args) := rfl
@[go_sem] theorem call37 (args : List Value) : aCallFunc Try.prog 37 args = .pure (.enter 37 args) := rfl
@[go_sem] theorem call38 (args : List Value) : aCallFunc Try.prog 38 args = .pure (.enter 38 args) := rfl
@[go_sem] theorem call39 (args : List Value) : aCallFunc Try.prog 39 args = .pure (.enter 39 args) := rfl
@[go_sem] theorem call40 (args : List Value) : aCallFunc Try.prog 40 args = .pure (.enter 40 args) := rfl
@[go_sem] theorem call41 (args : List Value) : aCallFunc Try.prog 41 args = .pure (.enter 41 args) := rfl
@[go_sem] theorem call42 (args : List Value) : aCallFunc Try.prog 42 args = .pure (.enter 42 args) := rfl
@[go_sem] theorem call43 (args : List Value) : aCallFunc Try.prog 43 args = .pure (.enter 43 args) := rfl
@[go_sem] theorem call44 (args : List Value) : aCallFunc Try.prog 44 args = .pure (.enter 44 args) := rfl
@[go_sem] theorem call45 (args : List Value) : aCallFunc Try.prog 45 args = .pure (.enter 45 args) := rfl
@[go_sem] theorem call46 (args : List Value) : aCallFunc Try.prog 46 args = .pure (.enter 46 args) := rfl
@[go_sem] theorem call47 (args : List Value) : aCallFunc Try.prog 47 args = .pure (.enter 47 args) := rfl
@[go_sem] theorem call48 (args : List Value) : aCallFunc Try.prog 48 args = .pure (.enter 48 args) := rfl
@[go_sem] theorem call49 (args : List Value) : aCallFunc Try.prog 49 args = .pure (.enter 49 args) := rfl
@[go_sem] theorem call50 (args : List Value) : aCallFunc Try.prog 50 args = .pure (.enter 50 args) := rfl
@[go_sem] theorem call51 (args : List Value) : aCallFunc Try.prog 51 args = .pure (.enter 51 args) := rfl
@[go_sem] theorem call52 (args : List Value) : aCallFunc Try.prog 52 args = .pure (.enter 52 args) := rfl
@[go_sem] theorem call53 (args : List Value) : aCallFunc Try.prog 53 args = .pure (.enter 53 args) := rfl
@[go_sem] theorem call54 (args : List Value) : aCallFunc Try.prog 54 args = .pure (.enter 54 args) := rfl
@[go_sem] theorem call55 (args : List Value) : aCallFunc Try.prog 55 args = .pure (.enter 55 args) := rfl
@[go_sem] theorem call56 (args : List Value) : aCallFunc Try.prog 56 args = .pure (.enter 56 args) := rfl
@[go_sem] theorem call57 (args : List Value) : aCallFunc Try.prog 57 args = .pure (.enter 57 args) := rfl
@[go_sem] theorem call58 (args : List Value) : aCallFunc Try.prog 58 args = .pure (.enter 58 args) := rfl
@[go_sem] theorem call59 (args : List Value) : aCallFunc Try.prog 59 args = .pure (.enter 59 args) := rfl
@[go_sem] theorem call60 (args : List Value) : aCallFunc Try.prog 60 args = .pure (.enter 60 args) := rfl
@[go_sem] theorem call61 (args : List Value) : aCallFunc Try.prog 61 args = .pure (.enter 61 args) := rfl
@[go_sem] theorem call62 (args : List Value) : aCallFunc Try.prog 62 args = .pure (.enter 62 args) := rfl
@[go_sem] theorem call63 (args : List Value) : aCallFunc Try.prog 63 args = .pure (.enter 63 args) := rfl
@[go_sem] theorem call64 (args : List Value) : aCallFunc Try.prog 64 args = .pure (.enter 64 args) := rfl
@[go_sem] theorem call65 (args : List Value) : aCallFunc Try.prog 65 args = .pure (.enter 65 args) := rfl
@[go_sem] theorem call66 (args : List Value) : aCallFunc Try.prog 66 args = .pure (.enter 66 args) := rfl
@[go_sem] theorem call67 (args : List Value) : aCallFunc Try.prog 67 args = .pure (.enter 67 args) := rfl
@[go_sem] theorem call68 (args : List Value) : aCallFunc Try.prog 68 args = .pure (.enter 68 args) := rfl
@[go_sem] theorem call69 (args : List Value) : aCallFunc Try.prog 69 args = .pure (.enter 69 args) := rfl
@[go_sem] theorem call70 (args : List Value) : aCallFunc Try.prog 70 args = .pure (.enter 70 args) := rfl
@[go_sem] theorem call71 (args : List Value) : aCallFunc Try.prog 71 args = .pure (.enter 71 args) := rfl
@[go_sem] theorem call72 (args : List Value) : aCallFunc Try.prog 72 args = .pure (.enter 72 args) := rfl
@[go_sem] theorem call73 (args : List Value) : aCallFunc Try.prog 73 args = .pure (.enter 73 args) := rfl
@[go_sem] theorem call74 (args : List Value) : aCallFunc Try.prog 74 args = .pure (.enter 74 args) := rfl
@[go_sem] theorem call75 (args : List Value) : aCallFunc Try.prog 75 args = .pure (.enter 75 args) := rfl
@[go_sem] theorem call76 (args : List Value) : aCallFunc Try.prog 76 args = .pure (.enter 76 args) := rfl
@[go_sem] theorem call77 (args : List Value) : aCallFunc Try.prog 77 args = .pure (.enter 77 args) := rfl
@[go_sem] theorem call78 (args : List Value) : aCallFunc Try.prog 78 args = .pure (.enter 78 args) := rfl
@[go_sem] theorem call79 (args : List Value) : aCallFunc Try.prog 79 args = .pure (.enter 79 args) := rfl
@[go_sem] theorem call82 (args : List Value) : aCallFunc Try.prog 82 args = .pure (.enter 82 args) := rfl
@[go_sem] theorem call83 (args : List Value) : aCallFunc Try.prog 83 args = .pure (.enter 83 args) := rfl
@[go_sem] theorem call84 (args : List Value) : aCallFunc Try.prog 84 args = .pure (.enter 84 args) := rfl
@[go_sem] theorem call85 (args : List Value) : aCallFunc Try.prog 85 args = .pure (.enter 85 args) := rfl
@[go_sem] theorem call86 (args : List Value) : aCallFunc Try.prog 86 args = .pure (.enter 86 args) := rfl
@[go_sem] theorem call88 (args : List Value) : aCallFunc Try.prog 88 args = .pure (.enter 88 args) := rfl
@[go_sem] theorem call89 (args : List Value) : aCallFunc Try.prog 89 args = .pure (.enter 89 args) := rfl
@[go_sem] theorem call90 (args : List Value) : aCallFunc Try.prog 90 args = .pure (.enter 90 args) := rfl
@[go_sem] theorem call91 (args : List Value) : aCallFunc Try.prog 91 args = .pure (.enter 91 args) := rfl
@[go_sem] theorem call92 (args : List Value) : aCallFunc Try.prog 92 args = .pure (.enter 92 args) := rfl
@[go_sem] theorem call93 (args : List Value) : aCallFunc Try.prog 93 args = .pure (.enter 93 args) := rfl
@[go_sem] theorem call94 (args : List Value) : aCallFunc Try.prog 94 args = .pure (.enter 94 args) := rfl
@[go_sem] theorem call95 (args : List Value) : aCallFunc Try.prog 95 args = .pure (.enter 95 args) := rfl
@[go_sem] theorem call96 (args : List Value) : aCallFunc Try.prog 96 args = .pure (.enter 96 args) := rfl

attribute [go_sem_proc] Nat.reduceLT Nat.reduceAdd Nat.reduceMul Nat.reduceSub Nat.reduceEqDiff Nat.reduceLeDiff Int.reduceToNat Int.reduceLT Int.reduceLE Int.reduceEq Int.reduceNe Int.reduceAdd Int.reduceSub Int.reduceMul Int.reduceNeg reduceCtorEq
attribute [go_sem_proc ↓] reduceIte

end Go.Proofs.Ytapcgfakefmemaa
