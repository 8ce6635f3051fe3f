/-
  What the program's types are, in the abstract machine's words: read off the program by program.
-/
import Derived.Test.YtapcgfakefmemaaProg
import Derived.Test.YtapcgfakefmemaaAmU6
set_option linter.unusedVariables false
set_option maxRecDepth 100000
namespace Go.Proofs.Ytapcgfakefmemaa
open Go.Am
attribute [go_sem] Try.underlying0
@[go_sem] theorem sz0 : szT Try.prog 0 = some 1 := rfl
@[go_sem] theorem ag0 : agT Try.prog 0 = some false := rfl
attribute [go_sem] Try.underlying3
@[go_sem] theorem sz3 : szT Try.prog 3 = some 1 := rfl
@[go_sem] theorem ag3 : agT Try.prog 3 = some false := rfl
@[go_sem] theorem zc3 : zcT Try.prog 3 = some [.int .i64 0] := rfl
attribute [go_sem] Try.underlying4
@[go_sem] theorem sz4 : szT Try.prog 4 = some 1 := rfl
@[go_sem] theorem ag4 : agT Try.prog 4 = some false := rfl
@[go_sem] theorem zc4 : zcT Try.prog 4 = some [.bool false] := rfl
attribute [go_sem] Try.underlying5
@[go_sem] theorem sz5 : szT Try.prog 5 = some 1 := rfl
@[go_sem] theorem ag5 : agT Try.prog 5 = some false := rfl
@[go_sem] theorem zc5 : zcT Try.prog 5 = some [.int .u8 0] := rfl
attribute [go_sem] Try.underlying22
@[go_sem] theorem sz22 : szT Try.prog 22 = some 6 := rfl
@[go_sem] theorem ag22 : agT Try.prog 22 = some true := rfl
@[go_sem] theorem zc22 : zcT Try.prog 22 = some [.int .u8 0, .int .u8 0, .int .u8 0, .int .u8 0, .int .u8 0, .int .u8 0] := rfl
@[go_sem] theorem bd22 : bdT Try.prog 22 = some ([.int .u8 0, .int .u8 0, .int .u8 0, .int .u8 0, .int .u8 0, .int .u8 0], fun j => some (j * 1, 1)) := rfl
@[go_sem] theorem ia22 : iaT Try.prog 22 = some (some 6, 1) := rfl
@[go_sem] theorem ix22 : ixT Try.prog 22 = some (6, 1, false) := rfl
attribute [go_sem] Try.underlying23
@[go_sem] theorem sz23 : szT Try.prog 23 = some 1 := rfl
@[go_sem] theorem ag23 : agT Try.prog 23 = some false := rfl
@[go_sem] theorem zc23 : zcT Try.prog 23 = some [.slice none 0 0] := rfl
@[go_sem] theorem ia23 : iaT Try.prog 23 = some (none, 2) := rfl
@[go_sem] theorem el23 : elT Try.prog 23 = some (2, 16, [.int .i64 0, .int .u64 0]) := rfl
@[go_sem] theorem ap23 : apT Try.prog 23 23 = some (2, 16, 2) := rfl
attribute [go_sem] Try.underlying24
@[go_sem] theorem sz24 : szT Try.prog 24 = some 1 := rfl
@[go_sem] theorem ag24 : agT Try.prog 24 = some false := rfl
@[go_sem] theorem zc24 : zcT Try.prog 24 = some [.slice none 0 0] := rfl
@[go_sem] theorem ia24 : iaT Try.prog 24 = some (none, 1) := rfl
@[go_sem] theorem el24 : elT Try.prog 24 = some (1, 8, [.int .u64 0]) := rfl
@[go_sem] theorem ap24 : apT Try.prog 24 24 = some (1, 8, 1) := rfl
attribute [go_sem] Try.underlying26
@[go_sem] theorem sz26 : szT Try.prog 26 = some 3 := rfl
@[go_sem] theorem ag26 : agT Try.prog 26 = some true := rfl
@[go_sem] theorem zc26 : zcT Try.prog 26 = some [.int .u8 0, .int .i64 0, .slice none 0 0] := rfl
@[go_sem] theorem bd26 : bdT Try.prog 26 = some ([.int .u8 0, .int .i64 0, .slice none 0 0], fun j => [(0, 1), (1, 1), (2, 1)][j]?) := rfl
@[go_sem] theorem fa26_0 : faT Try.prog 26 0 = some (0, 1) := rfl
@[go_sem] theorem fd26_0 : fdT Try.prog 26 0 = some (0, 1, false) := rfl
@[go_sem] theorem fa26_1 : faT Try.prog 26 1 = some (1, 1) := rfl
@[go_sem] theorem fd26_1 : fdT Try.prog 26 1 = some (1, 1, false) := rfl
@[go_sem] theorem fa26_2 : faT Try.prog 26 2 = some (2, 1) := rfl
@[go_sem] theorem fd26_2 : fdT Try.prog 26 2 = some (2, 1, false) := rfl
attribute [go_sem] Try.underlying27
@[go_sem] theorem sz27 : szT Try.prog 27 = some 6 := rfl
@[go_sem] theorem ag27 : agT Try.prog 27 = some true := rfl
@[go_sem] theorem zc27 : zcT Try.prog 27 = some [.int .i64 0, .int .i64 0, .int .i64 0, .int .i64 0, .int .i64 0, .int .i64 0] := rfl
@[go_sem] theorem bd27 : bdT Try.prog 27 = some ([.int .i64 0, .int .i64 0, .int .i64 0, .int .i64 0, .int .i64 0, .int .i64 0], fun j => some (j * 1, 1)) := rfl
@[go_sem] theorem ia27 : iaT Try.prog 27 = some (some 6, 1) := rfl
@[go_sem] theorem ix27 : ixT Try.prog 27 = some (6, 1, false) := rfl
attribute [go_sem] Try.underlying29
@[go_sem] theorem sz29 : szT Try.prog 29 = some 16 := rfl
@[go_sem] theorem ag29 : agT Try.prog 29 = some true := rfl
@[go_sem] theorem zc29 : zcT Try.prog 29 = some [.int .i64 0, .int .i64 0, .int .u8 0, .int .i64 0, .int .u8 0, .int .i64 0, .slice none 0 0, .int .i64 0, .int .i64 0, .int .i64 0, .int .i64 0, .int .i64 0, .int .i64 0, .int .i64 0, .int .i64 0, .int .i64 0] := rfl
@[go_sem] theorem bd29 : bdT Try.prog 29 = some ([.int .i64 0, .int .i64 0, .int .u8 0, .int .i64 0, .int .u8 0, .int .i64 0, .slice none 0 0, .int .i64 0, .int .i64 0, .int .i64 0, .int .i64 0, .int .i64 0, .int .i64 0, .int .i64 0, .int .i64 0, .int .i64 0], fun j => [(0, 1), (1, 1), (2, 1), (3, 1), (4, 3), (7, 6), (13, 1), (14, 1), (15, 1)][j]?) := rfl
@[go_sem] theorem fa29_0 : faT Try.prog 29 0 = some (0, 1) := rfl
@[go_sem] theorem fd29_0 : fdT Try.prog 29 0 = some (0, 1, false) := rfl
@[go_sem] theorem fa29_1 : faT Try.prog 29 1 = some (1, 1) := rfl
@[go_sem] theorem fd29_1 : fdT Try.prog 29 1 = some (1, 1, false) := rfl
@[go_sem] theorem fa29_2 : faT Try.prog 29 2 = some (2, 1) := rfl
@[go_sem] theorem fd29_2 : fdT Try.prog 29 2 = some (2, 1, false) := rfl
@[go_sem] theorem fa29_3 : faT Try.prog 29 3 = some (3, 1) := rfl
@[go_sem] theorem fd29_3 : fdT Try.prog 29 3 = some (3, 1, false) := rfl
@[go_sem] theorem fa29_4 : faT Try.prog 29 4 = some (4, 3) := rfl
@[go_sem] theorem fd29_4 : fdT Try.prog 29 4 = some (4, 3, true) := rfl
@[go_sem] theorem fa29_5 : faT Try.prog 29 5 = some (7, 6) := rfl
@[go_sem] theorem fd29_5 : fdT Try.prog 29 5 = some (7, 6, true) := rfl
@[go_sem] theorem fa29_6 : faT Try.prog 29 6 = some (13, 1) := rfl
@[go_sem] theorem fd29_6 : fdT Try.prog 29 6 = some (13, 1, false) := rfl
@[go_sem] theorem fa29_7 : faT Try.prog 29 7 = some (14, 1) := rfl
@[go_sem] theorem fd29_7 : fdT Try.prog 29 7 = some (14, 1, false) := rfl
@[go_sem] theorem fa29_8 : faT Try.prog 29 8 = some (15, 1) := rfl
@[go_sem] theorem fd29_8 : fdT Try.prog 29 8 = some (15, 1, false) := rfl
attribute [go_sem] Try.underlying31
@[go_sem] theorem sz31 : szT Try.prog 31 = some 1 := rfl
@[go_sem] theorem ag31 : agT Try.prog 31 = some false := rfl
@[go_sem] theorem zc31 : zcT Try.prog 31 = some [.pointer none] := rfl
attribute [go_sem] Try.underlying34
@[go_sem] theorem sz34 : szT Try.prog 34 = some 1 := rfl
@[go_sem] theorem ag34 : agT Try.prog 34 = some false := rfl
@[go_sem] theorem zc34 : zcT Try.prog 34 = some [.slice none 0 0] := rfl
@[go_sem] theorem ia34 : iaT Try.prog 34 = some (none, 1) := rfl
@[go_sem] theorem el34 : elT Try.prog 34 = some (1, 8, [.int .i64 0]) := rfl
@[go_sem] theorem ap34 : apT Try.prog 34 34 = some (1, 8, 1) := rfl
attribute [go_sem] Try.underlying35
@[go_sem] theorem sz35 : szT Try.prog 35 = some 1 := rfl
@[go_sem] theorem ag35 : agT Try.prog 35 = some false := rfl
@[go_sem] theorem zc35 : zcT Try.prog 35 = some [.int .i64 0] := rfl
attribute [go_sem] Try.underlying36
@[go_sem] theorem sz36 : szT Try.prog 36 = some 1 := rfl
@[go_sem] theorem ag36 : agT Try.prog 36 = some false := rfl
attribute [go_sem] Try.underlying37
@[go_sem] theorem sz37 : szT Try.prog 37 = some 1 := rfl
@[go_sem] theorem ag37 : agT Try.prog 37 = some false := rfl
@[go_sem] theorem zc37 : zcT Try.prog 37 = some [.pointer none] := rfl
attribute [go_sem] Try.underlying38
@[go_sem] theorem sz38 : szT Try.prog 38 = some 1 := rfl
@[go_sem] theorem ag38 : agT Try.prog 38 = some false := rfl
@[go_sem] theorem zc38 : zcT Try.prog 38 = some [.pointer none] := rfl
attribute [go_sem] Try.underlying39
@[go_sem] theorem sz39 : szT Try.prog 39 = some 1 := rfl
@[go_sem] theorem ag39 : agT Try.prog 39 = some false := rfl
@[go_sem] theorem zc39 : zcT Try.prog 39 = some [.pointer none] := rfl
attribute [go_sem] Try.underlying40
@[go_sem] theorem sz40 : szT Try.prog 40 = some 1 := rfl
@[go_sem] theorem ag40 : agT Try.prog 40 = some false := rfl
@[go_sem] theorem zc40 : zcT Try.prog 40 = some [.pointer none] := rfl
attribute [go_sem] Try.underlying41
@[go_sem] theorem sz41 : szT Try.prog 41 = some 1 := rfl
@[go_sem] theorem ag41 : agT Try.prog 41 = some false := rfl
@[go_sem] theorem zc41 : zcT Try.prog 41 = some [.pointer none] := rfl
attribute [go_sem] Try.underlying42
@[go_sem] theorem sz42 : szT Try.prog 42 = some 1 := rfl
@[go_sem] theorem ag42 : agT Try.prog 42 = some false := rfl
@[go_sem] theorem zc42 : zcT Try.prog 42 = some [.pointer none] := rfl
attribute [go_sem] Try.underlying44
@[go_sem] theorem sz44 : szT Try.prog 44 = some 6 := rfl
@[go_sem] theorem ag44 : agT Try.prog 44 = some true := rfl
@[go_sem] theorem zc44 : zcT Try.prog 44 = some [.pointer none, .pointer none, .pointer none, .pointer none, .pointer none, .pointer none] := rfl
@[go_sem] theorem bd44 : bdT Try.prog 44 = some ([.pointer none, .pointer none, .pointer none, .pointer none, .pointer none, .pointer none], fun j => [(0, 1), (1, 1), (2, 1), (3, 1), (4, 1), (5, 1)][j]?) := rfl
@[go_sem] theorem fa44_0 : faT Try.prog 44 0 = some (0, 1) := rfl
@[go_sem] theorem fd44_0 : fdT Try.prog 44 0 = some (0, 1, false) := rfl
@[go_sem] theorem fa44_1 : faT Try.prog 44 1 = some (1, 1) := rfl
@[go_sem] theorem fd44_1 : fdT Try.prog 44 1 = some (1, 1, false) := rfl
@[go_sem] theorem fa44_2 : faT Try.prog 44 2 = some (2, 1) := rfl
@[go_sem] theorem fd44_2 : fdT Try.prog 44 2 = some (2, 1, false) := rfl
@[go_sem] theorem fa44_3 : faT Try.prog 44 3 = some (3, 1) := rfl
@[go_sem] theorem fd44_3 : fdT Try.prog 44 3 = some (3, 1, false) := rfl
@[go_sem] theorem fa44_4 : faT Try.prog 44 4 = some (4, 1) := rfl
@[go_sem] theorem fd44_4 : fdT Try.prog 44 4 = some (4, 1, false) := rfl
@[go_sem] theorem fa44_5 : faT Try.prog 44 5 = some (5, 1) := rfl
@[go_sem] theorem fd44_5 : fdT Try.prog 44 5 = some (5, 1, false) := rfl
attribute [go_sem] Try.underlying46
@[go_sem] theorem sz46 : szT Try.prog 46 = some 1 := rfl
@[go_sem] theorem ag46 : agT Try.prog 46 = some false := rfl
@[go_sem] theorem zc46 : zcT Try.prog 46 = some [.map none] := rfl
attribute [go_sem] Try.underlying47
@[go_sem] theorem sz47 : szT Try.prog 47 = some 1 := rfl
@[go_sem] theorem ag47 : agT Try.prog 47 = some false := rfl
@[go_sem] theorem zc47 : zcT Try.prog 47 = some [.int .i64 0] := rfl
attribute [go_sem] Try.underlying48
@[go_sem] theorem sz48 : szT Try.prog 48 = some 1 := rfl
@[go_sem] theorem ag48 : agT Try.prog 48 = some false := rfl
attribute [go_sem] Try.underlying50
@[go_sem] theorem sz50 : szT Try.prog 50 = some 1 := rfl
@[go_sem] theorem ag50 : agT Try.prog 50 = some false := rfl
attribute [go_sem] Try.underlying55
@[go_sem] theorem sz55 : szT Try.prog 55 = some 1 := rfl
@[go_sem] theorem ag55 : agT Try.prog 55 = some false := rfl
@[go_sem] theorem zc55 : zcT Try.prog 55 = some [.slice none 0 0] := rfl
@[go_sem] theorem ia55 : iaT Try.prog 55 = some (none, 2) := rfl
@[go_sem] theorem el55 : elT Try.prog 55 = some (2, 16, [.int .u64 0, .int .u64 0]) := rfl
@[go_sem] theorem ap55 : apT Try.prog 55 55 = some (2, 16, 2) := rfl
attribute [go_sem] Try.underlying56
@[go_sem] theorem sz56 : szT Try.prog 56 = some 1 := rfl
@[go_sem] theorem ag56 : agT Try.prog 56 = some false := rfl
attribute [go_sem] Try.underlying59
@[go_sem] theorem sz59 : szT Try.prog 59 = some 1 := rfl
@[go_sem] theorem ag59 : agT Try.prog 59 = some false := rfl
@[go_sem] theorem zc59 : zcT Try.prog 59 = some [.int .u64 0] := rfl
attribute [go_sem] Try.underlying61
@[go_sem] theorem sz61 : szT Try.prog 61 = some 1 := rfl
@[go_sem] theorem ag61 : agT Try.prog 61 = some false := rfl
@[go_sem] theorem zc61 : zcT Try.prog 61 = some [.slice none 0 0] := rfl
@[go_sem] theorem ia61 : iaT Try.prog 61 = some (none, 5) := rfl
@[go_sem] theorem el61 : elT Try.prog 61 = some (5, 24, [.int .u64 0, .int .u64 0, .int .u8 0, .int .u8 0, .int .u8 0]) := rfl
@[go_sem] theorem ap61 : apT Try.prog 61 61 = some (5, 24, 5) := rfl
attribute [go_sem] Try.underlying63
@[go_sem] theorem sz63 : szT Try.prog 63 = some 2 := rfl
@[go_sem] theorem ag63 : agT Try.prog 63 = some true := rfl
@[go_sem] theorem zc63 : zcT Try.prog 63 = some [.int .u64 0, .int .u64 0] := rfl
@[go_sem] theorem bd63 : bdT Try.prog 63 = some ([.int .u64 0, .int .u64 0], fun j => [(0, 1), (1, 1)][j]?) := rfl
@[go_sem] theorem fa63_0 : faT Try.prog 63 0 = some (0, 1) := rfl
@[go_sem] theorem fd63_0 : fdT Try.prog 63 0 = some (0, 1, false) := rfl
@[go_sem] theorem fa63_1 : faT Try.prog 63 1 = some (1, 1) := rfl
@[go_sem] theorem fd63_1 : fdT Try.prog 63 1 = some (1, 1, false) := rfl
attribute [go_sem] Try.underlying65
@[go_sem] theorem sz65 : szT Try.prog 65 = some 5 := rfl
@[go_sem] theorem ag65 : agT Try.prog 65 = some true := rfl
@[go_sem] theorem zc65 : zcT Try.prog 65 = some [.int .u64 0, .int .u64 0, .int .u8 0, .int .u8 0, .int .u8 0] := rfl
@[go_sem] theorem bd65 : bdT Try.prog 65 = some ([.int .u64 0, .int .u64 0, .int .u8 0, .int .u8 0, .int .u8 0], fun j => [(0, 1), (1, 1), (2, 1), (3, 1), (4, 1)][j]?) := rfl
@[go_sem] theorem fa65_0 : faT Try.prog 65 0 = some (0, 1) := rfl
@[go_sem] theorem fd65_0 : fdT Try.prog 65 0 = some (0, 1, false) := rfl
@[go_sem] theorem fa65_1 : faT Try.prog 65 1 = some (1, 1) := rfl
@[go_sem] theorem fd65_1 : fdT Try.prog 65 1 = some (1, 1, false) := rfl
@[go_sem] theorem fa65_2 : faT Try.prog 65 2 = some (2, 1) := rfl
@[go_sem] theorem fd65_2 : fdT Try.prog 65 2 = some (2, 1, false) := rfl
@[go_sem] theorem fa65_3 : faT Try.prog 65 3 = some (3, 1) := rfl
@[go_sem] theorem fd65_3 : fdT Try.prog 65 3 = some (3, 1, false) := rfl
@[go_sem] theorem fa65_4 : faT Try.prog 65 4 = some (4, 1) := rfl
@[go_sem] theorem fd65_4 : fdT Try.prog 65 4 = some (4, 1, false) := rfl
attribute [go_sem] Try.underlying70
@[go_sem] theorem sz70 : szT Try.prog 70 = some 1 := rfl
@[go_sem] theorem ag70 : agT Try.prog 70 = some false := rfl
@[go_sem] theorem zc70 : zcT Try.prog 70 = some [.pointer none] := rfl
attribute [go_sem] Try.underlying71
@[go_sem] theorem sz71 : szT Try.prog 71 = some 1 := rfl
@[go_sem] theorem ag71 : agT Try.prog 71 = some false := rfl
attribute [go_sem] Try.underlying74
@[go_sem] theorem sz74 : szT Try.prog 74 = some 1 := rfl
@[go_sem] theorem ag74 : agT Try.prog 74 = some false := rfl
attribute [go_sem] Try.underlying79
@[go_sem] theorem sz79 : szT Try.prog 79 = some 2 := rfl
@[go_sem] theorem ag79 : agT Try.prog 79 = some true := rfl
@[go_sem] theorem zc79 : zcT Try.prog 79 = some [.int .u8 0, .int .u8 0] := rfl
@[go_sem] theorem bd79 : bdT Try.prog 79 = some ([.int .u8 0, .int .u8 0], fun j => some (j * 1, 1)) := rfl
@[go_sem] theorem ia79 : iaT Try.prog 79 = some (some 2, 1) := rfl
@[go_sem] theorem ix79 : ixT Try.prog 79 = some (2, 1, false) := rfl
attribute [go_sem] Try.underlying80
@[go_sem] theorem sz80 : szT Try.prog 80 = some 2 := rfl
@[go_sem] theorem ag80 : agT Try.prog 80 = some true := rfl
@[go_sem] theorem zc80 : zcT Try.prog 80 = some [.bool false, .bool false] := rfl
@[go_sem] theorem bd80 : bdT Try.prog 80 = some ([.bool false, .bool false], fun j => some (j * 1, 1)) := rfl
@[go_sem] theorem ia80 : iaT Try.prog 80 = some (some 2, 1) := rfl
@[go_sem] theorem ix80 : ixT Try.prog 80 = some (2, 1, false) := rfl
attribute [go_sem] Try.underlying83
@[go_sem] theorem sz83 : szT Try.prog 83 = some 10 := rfl
@[go_sem] theorem ag83 : agT Try.prog 83 = some true := rfl
@[go_sem] theorem zc83 : zcT Try.prog 83 = some [.int .i64 0, .int .i64 0, .int .i64 0, .int .i64 0, .int .i64 0, .int .i64 0, .int .i64 0, .int .i64 0, .int .i64 0, .int .i64 0] := rfl
@[go_sem] theorem bd83 : bdT Try.prog 83 = some ([.int .i64 0, .int .i64 0, .int .i64 0, .int .i64 0, .int .i64 0, .int .i64 0, .int .i64 0, .int .i64 0, .int .i64 0, .int .i64 0], fun j => [(0, 1), (1, 1), (2, 1), (3, 1), (4, 1), (5, 1), (6, 1), (7, 1), (8, 1), (9, 1)][j]?) := rfl
@[go_sem] theorem fa83_0 : faT Try.prog 83 0 = some (0, 1) := rfl
@[go_sem] theorem fd83_0 : fdT Try.prog 83 0 = some (0, 1, false) := rfl
@[go_sem] theorem fa83_1 : faT Try.prog 83 1 = some (1, 1) := rfl
@[go_sem] theorem fd83_1 : fdT Try.prog 83 1 = some (1, 1, false) := rfl
@[go_sem] theorem fa83_2 : faT Try.prog 83 2 = some (2, 1) := rfl
@[go_sem] theorem fd83_2 : fdT Try.prog 83 2 = some (2, 1, false) := rfl
@[go_sem] theorem fa83_3 : faT Try.prog 83 3 = some (3, 1) := rfl
@[go_sem] theorem fd83_3 : fdT Try.prog 83 3 = some (3, 1, false) := rfl
@[go_sem] theorem fa83_4 : faT Try.prog 83 4 = some (4, 1) := rfl
@[go_sem] theorem fd83_4 : fdT Try.prog 83 4 = some (4, 1, false) := rfl
@[go_sem] theorem fa83_5 : faT Try.prog 83 5 = some (5, 1) := rfl
@[go_sem] theorem fd83_5 : fdT Try.prog 83 5 = some (5, 1, false) := rfl
@[go_sem] theorem fa83_6 : faT Try.prog 83 6 = some (6, 1) := rfl
@[go_sem] theorem fd83_6 : fdT Try.prog 83 6 = some (6, 1, false) := rfl
@[go_sem] theorem fa83_7 : faT Try.prog 83 7 = some (7, 1) := rfl
@[go_sem] theorem fd83_7 : fdT Try.prog 83 7 = some (7, 1, false) := rfl
@[go_sem] theorem fa83_8 : faT Try.prog 83 8 = some (8, 1) := rfl
@[go_sem] theorem fd83_8 : fdT Try.prog 83 8 = some (8, 1, false) := rfl
@[go_sem] theorem fa83_9 : faT Try.prog 83 9 = some (9, 1) := rfl
@[go_sem] theorem fd83_9 : fdT Try.prog 83 9 = some (9, 1, false) := rfl
attribute [go_sem] Try.underlying86
@[go_sem] theorem sz86 : szT Try.prog 86 = some 1 := rfl
@[go_sem] theorem ag86 : agT Try.prog 86 = some false := rfl
attribute [go_sem] Try.underlying88
@[go_sem] theorem sz88 : szT Try.prog 88 = some 1 := rfl
@[go_sem] theorem ag88 : agT Try.prog 88 = some false := rfl
attribute [go_sem] Try.underlying90
@[go_sem] theorem sz90 : szT Try.prog 90 = some 1 := rfl
@[go_sem] theorem ag90 : agT Try.prog 90 = some false := rfl
attribute [go_sem] Try.underlying92
@[go_sem] theorem sz92 : szT Try.prog 92 = some 1 := rfl
@[go_sem] theorem ag92 : agT Try.prog 92 = some false := rfl
attribute [go_sem] Try.underlying94
@[go_sem] theorem sz94 : szT Try.prog 94 = some 1 := rfl
@[go_sem] theorem ag94 : agT Try.prog 94 = some false := rfl
attribute [go_sem] Try.underlying96
@[go_sem] theorem sz96 : szT Try.prog 96 = some 1 := rfl
@[go_sem] theorem ag96 : agT Try.prog 96 = some false := rfl
attribute [go_sem] Try.underlying99
@[go_sem] theorem sz99 : szT Try.prog 99 = some 2 := rfl
@[go_sem] theorem ag99 : agT Try.prog 99 = some true := rfl
@[go_sem] theorem zc99 : zcT Try.prog 99 = some [.int .i64 0, .int .u64 0] := rfl
@[go_sem] theorem bd99 : bdT Try.prog 99 = some ([.int .i64 0, .int .u64 0], fun j => [(0, 1), (1, 1)][j]?) := rfl
@[go_sem] theorem fa99_0 : faT Try.prog 99 0 = some (0, 1) := rfl
@[go_sem] theorem fd99_0 : fdT Try.prog 99 0 = some (0, 1, false) := rfl
@[go_sem] theorem fa99_1 : faT Try.prog 99 1 = some (1, 1) := rfl
@[go_sem] theorem fd99_1 : fdT Try.prog 99 1 = some (1, 1, false) := rfl
attribute [go_sem] Try.underlying100
@[go_sem] theorem sz100 : szT Try.prog 100 = some 1 := rfl
@[go_sem] theorem ag100 : agT Try.prog 100 = some false := rfl
@[go_sem] theorem zc100 : zcT Try.prog 100 = some [.slice none 0 0] := rfl
@[go_sem] theorem ia100 : iaT Try.prog 100 = some (none, 6) := rfl
@[go_sem] theorem el100 : elT Try.prog 100 = some (6, 48, [.int .i64 0, .int .i64 0, .int .u8 0, .int .u64 0, .int .u64 0, .bool false]) := rfl
@[go_sem] theorem ap100 : apT Try.prog 100 100 = some (6, 48, 6) := rfl
attribute [go_sem] Try.underlying102
@[go_sem] theorem sz102 : szT Try.prog 102 = some 2 := rfl
@[go_sem] theorem ag102 : agT Try.prog 102 = some true := rfl
@[go_sem] theorem zc102 : zcT Try.prog 102 = some [.slice none 0 0, .slice none 0 0] := rfl
@[go_sem] theorem bd102 : bdT Try.prog 102 = some ([.slice none 0 0, .slice none 0 0], fun j => [(0, 1), (1, 1)][j]?) := rfl
@[go_sem] theorem fa102_0 : faT Try.prog 102 0 = some (0, 1) := rfl
@[go_sem] theorem fd102_0 : fdT Try.prog 102 0 = some (0, 1, false) := rfl
@[go_sem] theorem fa102_1 : faT Try.prog 102 1 = some (1, 1) := rfl
@[go_sem] theorem fd102_1 : fdT Try.prog 102 1 = some (1, 1, false) := rfl
attribute [go_sem] Try.underlying104
@[go_sem] theorem sz104 : szT Try.prog 104 = some 2 := rfl
@[go_sem] theorem ag104 : agT Try.prog 104 = some true := rfl
@[go_sem] theorem zc104 : zcT Try.prog 104 = some [.pointer none, .pointer none] := rfl
@[go_sem] theorem bd104 : bdT Try.prog 104 = some ([.pointer none, .pointer none], fun j => [(0, 1), (1, 1)][j]?) := rfl
@[go_sem] theorem fa104_0 : faT Try.prog 104 0 = some (0, 1) := rfl
@[go_sem] theorem fd104_0 : fdT Try.prog 104 0 = some (0, 1, false) := rfl
@[go_sem] theorem fa104_1 : faT Try.prog 104 1 = some (1, 1) := rfl
@[go_sem] theorem fd104_1 : fdT Try.prog 104 1 = some (1, 1, false) := rfl
attribute [go_sem] Try.underlying106
@[go_sem] theorem sz106 : szT Try.prog 106 = some 1 := rfl
@[go_sem] theorem ag106 : agT Try.prog 106 = some false := rfl
@[go_sem] theorem zc106 : zcT Try.prog 106 = some [.nilFunc] := rfl
attribute [go_sem] Try.underlying107
@[go_sem] theorem sz107 : szT Try.prog 107 = some 1 := rfl
@[go_sem] theorem ag107 : agT Try.prog 107 = some false := rfl
@[go_sem] theorem zc107 : zcT Try.prog 107 = some [.nilFunc] := rfl
attribute [go_sem] Try.underlying112
@[go_sem] theorem sz112 : szT Try.prog 112 = some 1 := rfl
@[go_sem] theorem ag112 : agT Try.prog 112 = some false := rfl
@[go_sem] theorem zc112 : zcT Try.prog 112 = some [.slice none 0 0] := rfl
@[go_sem] theorem ia112 : iaT Try.prog 112 = some (none, 4) := rfl
@[go_sem] theorem el112 : elT Try.prog 112 = some (4, 32, [.int .u8 0, .int .i64 0, .int .i64 0, .int .i64 0]) := rfl
@[go_sem] theorem ap112 : apT Try.prog 112 112 = some (4, 32, 4) := rfl
attribute [go_sem] Try.underlying114
@[go_sem] theorem sz114 : szT Try.prog 114 = some 30 := rfl
@[go_sem] theorem ag114 : agT Try.prog 114 = some true := rfl
@[go_sem] theorem zc114 : zcT Try.prog 114 = some [.int .i64 0, .int .i64 0, .int .u8 0, .int .i64 0, .int .u8 0, .int .i64 0, .slice none 0 0, .int .i64 0, .int .i64 0, .int .i64 0, .int .i64 0, .int .i64 0, .int .i64 0, .int .i64 0, .int .i64 0, .int .i64 0, .int .i64 0, .int .i64 0, .int .i64 0, .int .i64 0, .int .i64 0, .int .i64 0, .int .i64 0, .int .i64 0, .int .i64 0, .int .i64 0, .slice none 0 0, .slice none 0 0, .slice none 0 0, .int .i64 0] := rfl
@[go_sem] theorem bd114 : bdT Try.prog 114 = some ([.int .i64 0, .int .i64 0, .int .u8 0, .int .i64 0, .int .u8 0, .int .i64 0, .slice none 0 0, .int .i64 0, .int .i64 0, .int .i64 0, .int .i64 0, .int .i64 0, .int .i64 0, .int .i64 0, .int .i64 0, .int .i64 0, .int .i64 0, .int .i64 0, .int .i64 0, .int .i64 0, .int .i64 0, .int .i64 0, .int .i64 0, .int .i64 0, .int .i64 0, .int .i64 0, .slice none 0 0, .slice none 0 0, .slice none 0 0, .int .i64 0], fun j => [(0, 16), (16, 10), (26, 1), (27, 1), (28, 1), (29, 1)][j]?) := rfl
@[go_sem] theorem fa114_0 : faT Try.prog 114 0 = some (0, 16) := rfl
@[go_sem] theorem fd114_0 : fdT Try.prog 114 0 = some (0, 16, true) := rfl
@[go_sem] theorem fa114_1 : faT Try.prog 114 1 = some (16, 10) := rfl
@[go_sem] theorem fd114_1 : fdT Try.prog 114 1 = some (16, 10, true) := rfl
@[go_sem] theorem fa114_2 : faT Try.prog 114 2 = some (26, 1) := rfl
@[go_sem] theorem fd114_2 : fdT Try.prog 114 2 = some (26, 1, false) := rfl
@[go_sem] theorem fa114_3 : faT Try.prog 114 3 = some (27, 1) := rfl
@[go_sem] theorem fd114_3 : fdT Try.prog 114 3 = some (27, 1, false) := rfl
@[go_sem] theorem fa114_4 : faT Try.prog 114 4 = some (28, 1) := rfl
@[go_sem] theorem fd114_4 : fdT Try.prog 114 4 = some (28, 1, false) := rfl
@[go_sem] theorem fa114_5 : faT Try.prog 114 5 = some (29, 1) := rfl
@[go_sem] theorem fd114_5 : fdT Try.prog 114 5 = some (29, 1, false) := rfl
attribute [go_sem] Try.underlying115
@[go_sem] theorem sz115 : szT Try.prog 115 = some 2 := rfl
@[go_sem] theorem ag115 : agT Try.prog 115 = some true := rfl
@[go_sem] theorem zc115 : zcT Try.prog 115 = some [.int .u64 0, .int .u64 0] := rfl
@[go_sem] theorem bd115 : bdT Try.prog 115 = some ([.int .u64 0, .int .u64 0], fun j => some (j * 1, 1)) := rfl
@[go_sem] theorem ia115 : iaT Try.prog 115 = some (some 2, 1) := rfl
@[go_sem] theorem ix115 : ixT Try.prog 115 = some (2, 1, false) := rfl
attribute [go_sem] Try.underlying116
@[go_sem] theorem sz116 : szT Try.prog 116 = some 1 := rfl
@[go_sem] theorem ag116 : agT Try.prog 116 = some false := rfl
@[go_sem] theorem zc116 : zcT Try.prog 116 = some [.slice none 0 0] := rfl
@[go_sem] theorem ia116 : iaT Try.prog 116 = some (none, 2) := rfl
@[go_sem] theorem el116 : elT Try.prog 116 = some (2, 16, [.int .u64 0, .int .u64 0]) := rfl
@[go_sem] theorem ap116 : apT Try.prog 116 116 = some (2, 16, 2) := rfl
attribute [go_sem] Try.underlying119
@[go_sem] theorem sz119 : szT Try.prog 119 = some 6 := rfl
@[go_sem] theorem ag119 : agT Try.prog 119 = some true := rfl
@[go_sem] theorem zc119 : zcT Try.prog 119 = some [.int .u64 0, .int .u64 0, .int .u64 0, .int .u64 0, .int .u64 0, .slice none 0 0] := rfl
@[go_sem] theorem bd119 : bdT Try.prog 119 = some ([.int .u64 0, .int .u64 0, .int .u64 0, .int .u64 0, .int .u64 0, .slice none 0 0], fun j => [(0, 1), (1, 1), (2, 1), (3, 1), (4, 1), (5, 1)][j]?) := rfl
@[go_sem] theorem fa119_0 : faT Try.prog 119 0 = some (0, 1) := rfl
@[go_sem] theorem fd119_0 : fdT Try.prog 119 0 = some (0, 1, false) := rfl
@[go_sem] theorem fa119_1 : faT Try.prog 119 1 = some (1, 1) := rfl
@[go_sem] theorem fd119_1 : fdT Try.prog 119 1 = some (1, 1, false) := rfl
@[go_sem] theorem fa119_2 : faT Try.prog 119 2 = some (2, 1) := rfl
@[go_sem] theorem fd119_2 : fdT Try.prog 119 2 = some (2, 1, false) := rfl
@[go_sem] theorem fa119_3 : faT Try.prog 119 3 = some (3, 1) := rfl
@[go_sem] theorem fd119_3 : fdT Try.prog 119 3 = some (3, 1, false) := rfl
@[go_sem] theorem fa119_4 : faT Try.prog 119 4 = some (4, 1) := rfl
@[go_sem] theorem fd119_4 : fdT Try.prog 119 4 = some (4, 1, false) := rfl
@[go_sem] theorem fa119_5 : faT Try.prog 119 5 = some (5, 1) := rfl
@[go_sem] theorem fd119_5 : fdT Try.prog 119 5 = some (5, 1, false) := rfl
attribute [go_sem] Try.underlying120
@[go_sem] theorem sz120 : szT Try.prog 120 = some 1 := rfl
@[go_sem] theorem ag120 : agT Try.prog 120 = some false := rfl
attribute [go_sem] Try.underlying122
@[go_sem] theorem sz122 : szT Try.prog 122 = some 1 := rfl
@[go_sem] theorem ag122 : agT Try.prog 122 = some false := rfl
attribute [go_sem] Try.underlying126
@[go_sem] theorem sz126 : szT Try.prog 126 = some 1 := rfl
@[go_sem] theorem ag126 : agT Try.prog 126 = some false := rfl
@[go_sem] theorem zc126 : zcT Try.prog 126 = some [.nilFunc] := rfl
attribute [go_sem] Try.underlying128
@[go_sem] theorem sz128 : szT Try.prog 128 = some 1 := rfl
@[go_sem] theorem ag128 : agT Try.prog 128 = some false := rfl
@[go_sem] theorem zc128 : zcT Try.prog 128 = some [.nilFunc] := rfl
attribute [go_sem] Try.underlying129
@[go_sem] theorem sz129 : szT Try.prog 129 = some 1 := rfl
@[go_sem] theorem ag129 : agT Try.prog 129 = some false := rfl
attribute [go_sem] Try.underlying136
@[go_sem] theorem sz136 : szT Try.prog 136 = some 1 := rfl
@[go_sem] theorem ag136 : agT Try.prog 136 = some true := rfl
@[go_sem] theorem zc136 : zcT Try.prog 136 = some [.int .u64 0] := rfl
@[go_sem] theorem bd136 : bdT Try.prog 136 = some ([.int .u64 0], fun j => [(0, 0), (0, 0), (0, 1)][j]?) := rfl
@[go_sem] theorem fa136_0 : faT Try.prog 136 0 = some (0, 0) := rfl
@[go_sem] theorem fd136_0 : fdT Try.prog 136 0 = some (0, 0, true) := rfl
@[go_sem] theorem fa136_1 : faT Try.prog 136 1 = some (0, 0) := rfl
@[go_sem] theorem fd136_1 : fdT Try.prog 136 1 = some (0, 0, true) := rfl
@[go_sem] theorem fa136_2 : faT Try.prog 136 2 = some (0, 1) := rfl
@[go_sem] theorem fd136_2 : fdT Try.prog 136 2 = some (0, 1, false) := rfl
attribute [go_sem] Try.underlying137
@[go_sem] theorem sz137 : szT Try.prog 137 = some 1 := rfl
@[go_sem] theorem ag137 : agT Try.prog 137 = some false := rfl
@[go_sem] theorem zc137 : zcT Try.prog 137 = some [.slice none 0 0] := rfl
@[go_sem] theorem ia137 : iaT Try.prog 137 = some (none, 1) := rfl
@[go_sem] theorem el137 : elT Try.prog 137 = some (1, 8, [.int .u64 0]) := rfl
@[go_sem] theorem ap137 : apT Try.prog 137 137 = some (1, 8, 1) := rfl
attribute [go_sem] Try.underlying139
@[go_sem] theorem sz139 : szT Try.prog 139 = some 2 := rfl
@[go_sem] theorem ag139 : agT Try.prog 139 = some true := rfl
@[go_sem] theorem zc139 : zcT Try.prog 139 = some [.slice none 0 0, .slice none 0 0] := rfl
@[go_sem] theorem bd139 : bdT Try.prog 139 = some ([.slice none 0 0, .slice none 0 0], fun j => [(0, 1), (1, 1)][j]?) := rfl
@[go_sem] theorem fa139_0 : faT Try.prog 139 0 = some (0, 1) := rfl
@[go_sem] theorem fd139_0 : fdT Try.prog 139 0 = some (0, 1, false) := rfl
@[go_sem] theorem fa139_1 : faT Try.prog 139 1 = some (1, 1) := rfl
@[go_sem] theorem fd139_1 : fdT Try.prog 139 1 = some (1, 1, false) := rfl
attribute [go_sem] Try.underlying143
@[go_sem] theorem sz143 : szT Try.prog 143 = some 1 := rfl
@[go_sem] theorem ag143 : agT Try.prog 143 = some false := rfl
@[go_sem] theorem zc143 : zcT Try.prog 143 = some [.nilFunc] := rfl
attribute [go_sem] Try.underlying145
@[go_sem] theorem sz145 : szT Try.prog 145 = some 3 := rfl
@[go_sem] theorem ag145 : agT Try.prog 145 = some true := rfl
@[go_sem] theorem zc145 : zcT Try.prog 145 = some [.int .u8 0, .int .i64 0, .int .u64 0] := rfl
@[go_sem] theorem bd145 : bdT Try.prog 145 = some ([.int .u8 0, .int .i64 0, .int .u64 0], fun j => [(0, 1), (1, 1), (2, 1)][j]?) := rfl
@[go_sem] theorem fa145_0 : faT Try.prog 145 0 = some (0, 1) := rfl
@[go_sem] theorem fd145_0 : fdT Try.prog 145 0 = some (0, 1, false) := rfl
@[go_sem] theorem fa145_1 : faT Try.prog 145 1 = some (1, 1) := rfl
@[go_sem] theorem fd145_1 : fdT Try.prog 145 1 = some (1, 1, false) := rfl
@[go_sem] theorem fa145_2 : faT Try.prog 145 2 = some (2, 1) := rfl
@[go_sem] theorem fd145_2 : fdT Try.prog 145 2 = some (2, 1, false) := rfl
attribute [go_sem] Try.underlying146
@[go_sem] theorem sz146 : szT Try.prog 146 = some 1 := rfl
@[go_sem] theorem ag146 : agT Try.prog 146 = some false := rfl
@[go_sem] theorem zc146 : zcT Try.prog 146 = some [.slice none 0 0] := rfl
@[go_sem] theorem ia146 : iaT Try.prog 146 = some (none, 3) := rfl
@[go_sem] theorem el146 : elT Try.prog 146 = some (3, 24, [.int .u8 0, .int .i64 0, .int .u64 0]) := rfl
@[go_sem] theorem ap146 : apT Try.prog 146 146 = some (3, 24, 3) := rfl
attribute [go_sem] Try.underlying148
@[go_sem] theorem sz148 : szT Try.prog 148 = some 4 := rfl
@[go_sem] theorem ag148 : agT Try.prog 148 = some true := rfl
@[go_sem] theorem zc148 : zcT Try.prog 148 = some [.pointer none, .int .i64 0, .nilFunc, .slice none 0 0] := rfl
@[go_sem] theorem bd148 : bdT Try.prog 148 = some ([.pointer none, .int .i64 0, .nilFunc, .slice none 0 0], fun j => [(0, 1), (1, 1), (2, 1), (3, 1)][j]?) := rfl
@[go_sem] theorem fa148_0 : faT Try.prog 148 0 = some (0, 1) := rfl
@[go_sem] theorem fd148_0 : fdT Try.prog 148 0 = some (0, 1, false) := rfl
@[go_sem] theorem fa148_1 : faT Try.prog 148 1 = some (1, 1) := rfl
@[go_sem] theorem fd148_1 : fdT Try.prog 148 1 = some (1, 1, false) := rfl
@[go_sem] theorem fa148_2 : faT Try.prog 148 2 = some (2, 1) := rfl
@[go_sem] theorem fd148_2 : fdT Try.prog 148 2 = some (2, 1, false) := rfl
@[go_sem] theorem fa148_3 : faT Try.prog 148 3 = some (3, 1) := rfl
@[go_sem] theorem fd148_3 : fdT Try.prog 148 3 = some (3, 1, false) := rfl
attribute [go_sem] Try.underlying153
@[go_sem] theorem sz153 : szT Try.prog 153 = some 4 := rfl
@[go_sem] theorem ag153 : agT Try.prog 153 = some true := rfl
@[go_sem] theorem zc153 : zcT Try.prog 153 = some [.int .u8 0, .int .i64 0, .int .i64 0, .int .i64 0] := rfl
@[go_sem] theorem bd153 : bdT Try.prog 153 = some ([.int .u8 0, .int .i64 0, .int .i64 0, .int .i64 0], fun j => [(0, 1), (1, 1), (2, 1), (3, 1)][j]?) := rfl
@[go_sem] theorem fa153_0 : faT Try.prog 153 0 = some (0, 1) := rfl
@[go_sem] theorem fd153_0 : fdT Try.prog 153 0 = some (0, 1, false) := rfl
@[go_sem] theorem fa153_1 : faT Try.prog 153 1 = some (1, 1) := rfl
@[go_sem] theorem fd153_1 : fdT Try.prog 153 1 = some (1, 1, false) := rfl
@[go_sem] theorem fa153_2 : faT Try.prog 153 2 = some (2, 1) := rfl
@[go_sem] theorem fd153_2 : fdT Try.prog 153 2 = some (2, 1, false) := rfl
@[go_sem] theorem fa153_3 : faT Try.prog 153 3 = some (3, 1) := rfl
@[go_sem] theorem fd153_3 : fdT Try.prog 153 3 = some (3, 1, false) := rfl
attribute [go_sem] Try.underlying154
@[go_sem] theorem sz154 : szT Try.prog 154 = some 1 := rfl
@[go_sem] theorem ag154 : agT Try.prog 154 = some false := rfl
@[go_sem] theorem zc154 : zcT Try.prog 154 = some [.nilFunc] := rfl
attribute [go_sem] Try.underlying156
@[go_sem] theorem sz156 : szT Try.prog 156 = some 1 := rfl
@[go_sem] theorem ag156 : agT Try.prog 156 = some false := rfl
@[go_sem] theorem zc156 : zcT Try.prog 156 = some [.slice none 0 0] := rfl
@[go_sem] theorem ia156 : iaT Try.prog 156 = some (none, 3) := rfl
@[go_sem] theorem el156 : elT Try.prog 156 = some (3, 24, [.int .u8 0, .int .i64 0, .int .i64 0]) := rfl
@[go_sem] theorem ap156 : apT Try.prog 156 156 = some (3, 24, 3) := rfl
attribute [go_sem] Try.underlying158
@[go_sem] theorem sz158 : szT Try.prog 158 = some 28 := rfl
@[go_sem] theorem ag158 : agT Try.prog 158 = some true := rfl
@[go_sem] theorem zc158 : zcT Try.prog 158 = some [.int .i64 0, .int .i64 0, .int .u8 0, .int .i64 0, .int .u8 0, .int .i64 0, .slice none 0 0, .int .i64 0, .int .i64 0, .int .i64 0, .int .i64 0, .int .i64 0, .int .i64 0, .int .i64 0, .int .i64 0, .int .i64 0, .int .i64 0, .int .i64 0, .int .i64 0, .int .i64 0, .int .i64 0, .int .i64 0, .int .i64 0, .int .i64 0, .int .i64 0, .int .i64 0, .slice none 0 0, .slice none 0 0] := rfl
@[go_sem] theorem bd158 : bdT Try.prog 158 = some ([.int .i64 0, .int .i64 0, .int .u8 0, .int .i64 0, .int .u8 0, .int .i64 0, .slice none 0 0, .int .i64 0, .int .i64 0, .int .i64 0, .int .i64 0, .int .i64 0, .int .i64 0, .int .i64 0, .int .i64 0, .int .i64 0, .int .i64 0, .int .i64 0, .int .i64 0, .int .i64 0, .int .i64 0, .int .i64 0, .int .i64 0, .int .i64 0, .int .i64 0, .int .i64 0, .slice none 0 0, .slice none 0 0], fun j => [(0, 16), (16, 10), (26, 1), (27, 1)][j]?) := rfl
@[go_sem] theorem fa158_0 : faT Try.prog 158 0 = some (0, 16) := rfl
@[go_sem] theorem fd158_0 : fdT Try.prog 158 0 = some (0, 16, true) := rfl
@[go_sem] theorem fa158_1 : faT Try.prog 158 1 = some (16, 10) := rfl
@[go_sem] theorem fd158_1 : fdT Try.prog 158 1 = some (16, 10, true) := rfl
@[go_sem] theorem fa158_2 : faT Try.prog 158 2 = some (26, 1) := rfl
@[go_sem] theorem fd158_2 : fdT Try.prog 158 2 = some (26, 1, false) := rfl
@[go_sem] theorem fa158_3 : faT Try.prog 158 3 = some (27, 1) := rfl
@[go_sem] theorem fd158_3 : fdT Try.prog 158 3 = some (27, 1, false) := rfl
attribute [go_sem] Try.underlying162
@[go_sem] theorem sz162 : szT Try.prog 162 = some 1 := rfl
@[go_sem] theorem ag162 : agT Try.prog 162 = some false := rfl
attribute [go_sem] Try.underlying165
@[go_sem] theorem sz165 : szT Try.prog 165 = some 2 := rfl
@[go_sem] theorem ag165 : agT Try.prog 165 = some true := rfl
@[go_sem] theorem zc165 : zcT Try.prog 165 = some [.pointer none, .pointer none] := rfl
@[go_sem] theorem bd165 : bdT Try.prog 165 = some ([.pointer none, .pointer none], fun j => [(0, 1), (1, 1)][j]?) := rfl
@[go_sem] theorem fa165_0 : faT Try.prog 165 0 = some (0, 1) := rfl
@[go_sem] theorem fd165_0 : fdT Try.prog 165 0 = some (0, 1, false) := rfl
@[go_sem] theorem fa165_1 : faT Try.prog 165 1 = some (1, 1) := rfl
@[go_sem] theorem fd165_1 : fdT Try.prog 165 1 = some (1, 1, false) := rfl
attribute [go_sem] Try.underlying168
@[go_sem] theorem sz168 : szT Try.prog 168 = some 1 := rfl
@[go_sem] theorem ag168 : agT Try.prog 168 = some false := rfl
@[go_sem] theorem zc168 : zcT Try.prog 168 = some [.nilFunc] := rfl
attribute [go_sem] Try.underlying169
@[go_sem] theorem sz169 : szT Try.prog 169 = some 1 := rfl
@[go_sem] theorem ag169 : agT Try.prog 169 = some false := rfl
@[go_sem] theorem zc169 : zcT Try.prog 169 = some [.slice none 0 0] := rfl
@[go_sem] theorem ia169 : iaT Try.prog 169 = some (none, 1) := rfl
@[go_sem] theorem el169 : elT Try.prog 169 = some (1, 1, [.bool false]) := rfl
@[go_sem] theorem ap169 : apT Try.prog 169 169 = some (1, 1, 1) := rfl
attribute [go_sem] Try.underlying170
@[go_sem] theorem sz170 : szT Try.prog 170 = some 1 := rfl
@[go_sem] theorem ag170 : agT Try.prog 170 = some false := rfl
attribute [go_sem] Try.underlying172
@[go_sem] theorem sz172 : szT Try.prog 172 = some 1 := rfl
@[go_sem] theorem ag172 : agT Try.prog 172 = some false := rfl
@[go_sem] theorem zc172 : zcT Try.prog 172 = some [.nilFunc] := rfl
attribute [go_sem] Try.underlying176
@[go_sem] theorem sz176 : szT Try.prog 176 = some 1 := rfl
@[go_sem] theorem ag176 : agT Try.prog 176 = some false := rfl
attribute [go_sem] Try.underlying180
@[go_sem] theorem sz180 : szT Try.prog 180 = some 1 := rfl
@[go_sem] theorem ag180 : agT Try.prog 180 = some false := rfl
@[go_sem] theorem zc180 : zcT Try.prog 180 = some [.pointer none] := rfl
attribute [go_sem] Try.underlying184
@[go_sem] theorem sz184 : szT Try.prog 184 = some 6 := rfl
@[go_sem] theorem ag184 : agT Try.prog 184 = some true := rfl
@[go_sem] theorem zc184 : zcT Try.prog 184 = some [.int .i64 0, .int .i64 0, .int .u8 0, .int .u64 0, .int .u64 0, .bool false] := rfl
@[go_sem] theorem bd184 : bdT Try.prog 184 = some ([.int .i64 0, .int .i64 0, .int .u8 0, .int .u64 0, .int .u64 0, .bool false], fun j => [(0, 1), (1, 1), (2, 1), (3, 1), (4, 1), (5, 1)][j]?) := rfl
@[go_sem] theorem fa184_0 : faT Try.prog 184 0 = some (0, 1) := rfl
@[go_sem] theorem fd184_0 : fdT Try.prog 184 0 = some (0, 1, false) := rfl
@[go_sem] theorem fa184_1 : faT Try.prog 184 1 = some (1, 1) := rfl
@[go_sem] theorem fd184_1 : fdT Try.prog 184 1 = some (1, 1, false) := rfl
@[go_sem] theorem fa184_2 : faT Try.prog 184 2 = some (2, 1) := rfl
@[go_sem] theorem fd184_2 : fdT Try.prog 184 2 = some (2, 1, false) := rfl
@[go_sem] theorem fa184_3 : faT Try.prog 184 3 = some (3, 1) := rfl
@[go_sem] theorem fd184_3 : fdT Try.prog 184 3 = some (3, 1, false) := rfl
@[go_sem] theorem fa184_4 : faT Try.prog 184 4 = some (4, 1) := rfl
@[go_sem] theorem fd184_4 : fdT Try.prog 184 4 = some (4, 1, false) := rfl
@[go_sem] theorem fa184_5 : faT Try.prog 184 5 = some (5, 1) := rfl
@[go_sem] theorem fd184_5 : fdT Try.prog 184 5 = some (5, 1, false) := rfl
attribute [go_sem] Try.underlying189
@[go_sem] theorem sz189 : szT Try.prog 189 = some 4 := rfl
@[go_sem] theorem ag189 : agT Try.prog 189 = some true := rfl
@[go_sem] theorem zc189 : zcT Try.prog 189 = some [.int .i64 0, .int .i64 0, .int .i64 0, .int .i64 0] := rfl
@[go_sem] theorem bd189 : bdT Try.prog 189 = some ([.int .i64 0, .int .i64 0, .int .i64 0, .int .i64 0], fun j => some (j * 1, 1)) := rfl
@[go_sem] theorem ia189 : iaT Try.prog 189 = some (some 4, 1) := rfl
@[go_sem] theorem ix189 : ixT Try.prog 189 = some (4, 1, false) := rfl
attribute [go_sem] Try.underlying191
@[go_sem] theorem sz191 : szT Try.prog 191 = some 3 := rfl
@[go_sem] theorem ag191 : agT Try.prog 191 = some true := rfl
@[go_sem] theorem zc191 : zcT Try.prog 191 = some [.int .u8 0, .int .i64 0, .int .i64 0] := rfl
@[go_sem] theorem bd191 : bdT Try.prog 191 = some ([.int .u8 0, .int .i64 0, .int .i64 0], fun j => [(0, 1), (1, 1), (2, 1)][j]?) := rfl
@[go_sem] theorem fa191_0 : faT Try.prog 191 0 = some (0, 1) := rfl
@[go_sem] theorem fd191_0 : fdT Try.prog 191 0 = some (0, 1, false) := rfl
@[go_sem] theorem fa191_1 : faT Try.prog 191 1 = some (1, 1) := rfl
@[go_sem] theorem fd191_1 : fdT Try.prog 191 1 = some (1, 1, false) := rfl
@[go_sem] theorem fa191_2 : faT Try.prog 191 2 = some (2, 1) := rfl
@[go_sem] theorem fd191_2 : fdT Try.prog 191 2 = some (2, 1, false) := rfl
attribute [go_sem] Try.underlying197
@[go_sem] theorem sz197 : szT Try.prog 197 = some 1 := rfl
@[go_sem] theorem ag197 : agT Try.prog 197 = some false := rfl
@[go_sem] theorem zc197 : zcT Try.prog 197 = some [.int .u64 0] := rfl
@[go_sem] theorem call2 (args : List Value) : aCallFunc Try.prog 2 args = .pure (.enter 2 args) := rfl
@[go_sem] theorem call3 (args : List Value) : aCallFunc Try.prog 3 args = .pure (.enter 3 args) := rfl
@[go_sem] theorem call4 (args : List Value) : aCallFunc Try.prog 4 args = .pure (.enter 4 args) := rfl
@[go_sem] theorem call5 (args : List Value) : aCallFunc Try.prog 5 args = .pure (.enter 5 args) := rfl
@[go_sem] theorem call6 (args : List Value) : aCallFunc Try.prog 6 args = .pure (.enter 6 args) := rfl
@[go_sem] theorem call7 (args : List Value) : aCallFunc Try.prog 7 args = .pure (.enter 7 args) := rfl
@[go_sem] theorem call8 (args : List Value) : aCallFunc Try.prog 8 args = .pure (.enter 8 args) := rfl
@[go_sem] theorem call9 (args : List Value) : aCallFunc Try.prog 9 args = .pure (.enter 9 args) := rfl
@[go_sem] theorem call10 (args : List Value) : aCallFunc Try.prog 10 args = .pure (.enter 10 args) := rfl
@[go_sem] theorem call11 (args : List Value) : aCallFunc Try.prog 11 args = .pure (.enter 11 args) := rfl
@[go_sem] theorem call12 (args : List Value) : aCallFunc Try.prog 12 args = .pure (.enter 12 args) := rfl
@[go_sem] theorem call13 (args : List Value) : aCallFunc Try.prog 13 args = .pure (.enter 13 args) := rfl
@[go_sem] theorem call14 (args : List Value) : aCallFunc Try.prog 14 args = .pure (.enter 14 args) := rfl
@[go_sem] theorem call15 (args : List Value) : aCallFunc Try.prog 15 args = .pure (.enter 15 args) := rfl
@[go_sem] theorem call16 (args : List Value) : aCallFunc Try.prog 16 args = .pure (.enter 16 args) := rfl
@[go_sem] theorem call17 (args : List Value) : aCallFunc Try.prog 17 args = .pure (.enter 17 args) := rfl
@[go_sem] theorem call18 (args : List Value) : aCallFunc Try.prog 18 args = .pure (.enter 18 args) := rfl
@[go_sem] theorem call19 (args : List Value) : aCallFunc Try.prog 19 args = .pure (.enter 19 args) := rfl
@[go_sem] theorem call20 (args : List Value) : aCallFunc Try.prog 20 args = .pure (.enter 20 args) := rfl
@[go_sem] theorem call21 (args : List Value) : aCallFunc Try.prog 21 args = .pure (.enter 21 args) := rfl
@[go_sem] theorem call22 (args : List Value) : aCallFunc Try.prog 22 args = .pure (.enter 22 args) := rfl
@[go_sem] theorem call23 (args : List Value) : aCallFunc Try.prog 23 args = .pure (.enter 23 args) := rfl
@[go_sem] theorem call24 (args : List Value) : aCallFunc Try.prog 24 args = .pure (.enter 24 args) := rfl
@[go_sem] theorem call25 (args : List Value) : aCallFunc Try.prog 25 args = .pure (.enter 25 args) := rfl
@[go_sem] theorem call26 (args : List Value) : aCallFunc Try.prog 26 args = .pure (.enter 26 args) := rfl
@[go_sem] theorem call27 (args : List Value) : aCallFunc Try.prog 27 args = .pure (.enter 27 args) := rfl
@[go_sem] theorem call28 (args : List Value) : aCallFunc Try.prog 28 args = .pure (.enter 28 args) := rfl
@[go_sem] theorem call29 (args : List Value) : aCallFunc Try.prog 29 args = .pure (.enter 29 args) := rfl
@[go_sem] theorem call30 (args : List Value) : aCallFunc Try.prog 30 args = .pure (.enter 30 args) := rfl
@[go_sem] theorem call31 (args : List Value) : aCallFunc Try.prog 31 args = .pure (.enter 31 args) := rfl
@[go_sem] theorem call32 (args : List Value) : aCallFunc Try.prog 32 args = .pure (.enter 32 args) := rfl
@[go_sem] theorem call33 (args : List Value) : aCallFunc Try.prog 33 args = .pure (.enter 33 args) := rfl
@[go_sem] theorem call34 (args : List Value) : aCallFunc Try.prog 34 args = .pure (.enter 34 args) := rfl
@[go_sem] theorem call35 (args : List Value) : aCallFunc Try.prog 35 args = .pure (.enter 35 args) := rfl
@[go_sem] theorem call36 (args : List Value) : aCallFunc Try.prog 36 args = .pure (.enter 36 args) := rfl
@[go_sem] theorem call37 (args : List Value) : aCallFunc Try.prog 37 args = .pure (.enter 37 args) := rfl
@[go_sem] theorem call38 (args : List Value) : aCallFunc Try.prog 38 args = .pure (.enter 38 args) := rfl
@[go_sem] theorem call39 (args : List Value) : aCallFunc Try.prog 39 args = .pure (.enter 39 args) := rfl
@[go_sem] theorem call40 (args : List Value) : aCallFunc Try.prog 40 args = .pure (.enter 40 args) := rfl
@[go_sem] theorem call41 (args : List Value) : aCallFunc Try.prog 41 args = .pure (.enter 41 args) := rfl
@[go_sem] theorem call42 (args : List Value) : aCallFunc Try.prog 42 args = .pure (.enter 42 args) := rfl
@[go_sem] theorem call43 (args : List Value) : aCallFunc Try.prog 43 args = .pure (.enter 43 args) := rfl
@[go_sem] theorem call44 (args : List Value) : aCallFunc Try.prog 44 args = .pure (.enter 44 args) := rfl
@[go_sem] theorem call45 (args : List Value) : aCallFunc Try.prog 45 args = .pure (.enter 45 args) := rfl
@[go_sem] theorem call46 (args : List Value) : aCallFunc Try.prog 46 args = .pure (.enter 46 args) := rfl
@[go_sem] theorem call47 (args : List Value) : aCallFunc Try.prog 47 args = .pure (.enter 47 args) := rfl
@[go_sem] theorem call48 (args : List Value) : aCallFunc Try.prog 48 args = .pure (.enter 48 args) := rfl
@[go_sem] theorem call49 (args : List Value) : aCallFunc Try.prog 49 args = .pure (.enter 49 args) := rfl
@[go_sem] theorem call50 (args : List Value) : aCallFunc Try.prog 50 args = .pure (.enter 50 args) := rfl
@[go_sem] theorem call51 (args : List Value) : aCallFunc Try.prog 51 args = .pure (.enter 51 args) := rfl
@[go_sem] theorem call52 (args : List Value) : aCallFunc Try.prog 52 args = .pure (.enter 52 args) := rfl
@[go_sem] theorem call53 (args : List Value) : aCallFunc Try.prog 53 args = .pure (.enter 53 args) := rfl
@[go_sem] theorem call54 (args : List Value) : aCallFunc Try.prog 54 args = .pure (.enter 54 args) := rfl
@[go_sem] theorem call55 (args : List Value) : aCallFunc Try.prog 55 args = .pure (.enter 55 args) := rfl
@[go_sem] theorem call56 (args : List Value) : aCallFunc Try.prog 56 args = .pure (.enter 56 args) := rfl
@[go_sem] theorem call57 (args : List Value) : aCallFunc Try.prog 57 args = .pure (.enter 57 args) := rfl
@[go_sem] theorem call58 (args : List Value) : aCallFunc Try.prog 58 args = .pure (.enter 58 args) := rfl
@[go_sem] theorem call59 (args : List Value) : aCallFunc Try.prog 59 args = .pure (.enter 59 args) := rfl
@[go_sem] theorem call60 (args : List Value) : aCallFunc Try.prog 60 args = .pure (.enter 60 args) := rfl
@[go_sem] theorem call61 (args : List Value) : aCallFunc Try.prog 61 args = .pure (.enter 61 args) := rfl
@[go_sem] theorem call62 (args : List Value) : aCallFunc Try.prog 62 args = .pure (.enter 62 args) := rfl
@[go_sem] theorem call63 (args : List Value) : aCallFunc Try.prog 63 args = .pure (.enter 63 args) := rfl
@[go_sem] theorem call64 (args : List Value) : aCallFunc Try.prog 64 args = .pure (.enter 64 args) := rfl
@[go_sem] theorem call65 (args : List Value) : aCallFunc Try.prog 65 args = .pure (.enter 65 args) := rfl
@[go_sem] theorem call66 (args : List Value) : aCallFunc Try.prog 66 args = .pure (.enter 66 args) := rfl
@[go_sem] theorem call67 (args : List Value) : aCallFunc Try.prog 67 args = .pure (.enter 67 args) := rfl
@[go_sem] theorem call68 (args : List Value) : aCallFunc Try.prog 68 args = .pure (.enter 68 args) := rfl
@[go_sem] theorem call69 (args : List Value) : aCallFunc Try.prog 69 args = .pure (.enter 69 args) := rfl
@[go_sem] theorem call70 (args : List Value) : aCallFunc Try.prog 70 args = .pure (.enter 70 args) := rfl
@[go_sem] theorem call71 (args : List Value) : aCallFunc Try.prog 71 args = .pure (.enter 71 args) := rfl
@[go_sem] theorem call72 (args : List Value) : aCallFunc Try.prog 72 args = .pure (.enter 72 args) := rfl
@[go_sem] theorem call73 (args : List Value) : aCallFunc Try.prog 73 args = .pure (.enter 73 args) := rfl
@[go_sem] theorem call74 (args : List Value) : aCallFunc Try.prog 74 args = .pure (.enter 74 args) := rfl
@[go_sem] theorem call75 (args : List Value) : aCallFunc Try.prog 75 args = .pure (.enter 75 args) := rfl
@[go_sem] theorem call76 (args : List Value) : aCallFunc Try.prog 76 args = .pure (.enter 76 args) := rfl
@[go_sem] theorem call77 (args : List Value) : aCallFunc Try.prog 77 args = .pure (.enter 77 args) := rfl
@[go_sem] theorem call78 (args : List Value) : aCallFunc Try.prog 78 args = .pure (.enter 78 args) := rfl
@[go_sem] theorem call79 (args : List Value) : aCallFunc Try.prog 79 args = .pure (.enter 79 args) := rfl
@[go_sem] theorem call82 (args : List Value) : aCallFunc Try.prog 82 args = .pure (.enter 82 args) := rfl
@[go_sem] theorem call83 (args : List Value) : aCallFunc Try.prog 83 args = .pure (.enter 83 args) := rfl
@[go_sem] theorem call84 (args : List Value) : aCallFunc Try.prog 84 args = .pure (.enter 84 args) := rfl
@[go_sem] theorem call85 (args : List Value) : aCallFunc Try.prog 85 args = .pure (.enter 85 args) := rfl
@[go_sem] theorem call86 (args : List Value) : aCallFunc Try.prog 86 args = .pure (.enter 86 args) := rfl
@[go_sem] theorem call88 (args : List Value) : aCallFunc Try.prog 88 args = .pure (.enter 88 args) := rfl
@[go_sem] theorem call89 (args : List Value) : aCallFunc Try.prog 89 args = .pure (.enter 89 args) := rfl
@[go_sem] theorem call90 (args : List Value) : aCallFunc Try.prog 90 args = .pure (.enter 90 args) := rfl
@[go_sem] theorem call91 (args : List Value) : aCallFunc Try.prog 91 args = .pure (.enter 91 args) := rfl
@[go_sem] theorem call92 (args : List Value) : aCallFunc Try.prog 92 args = .pure (.enter 92 args) := rfl
@[go_sem] theorem call93 (args : List Value) : aCallFunc Try.prog 93 args = .pure (.enter 93 args) := rfl
@[go_sem] theorem call94 (args : List Value) : aCallFunc Try.prog 94 args = .pure (.enter 94 args) := rfl
@[go_sem] theorem call95 (args : List Value) : aCallFunc Try.prog 95 args = .pure (.enter 95 args) := rfl
@[go_sem] theorem call96 (args : List Value) : aCallFunc Try.prog 96 args = .pure (.enter 96 args) := rfl
attribute [go_sem_proc] Nat.reduceLT Nat.reduceAdd Nat.reduceMul Nat.reduceSub Nat.reduceEqDiff Nat.reduceLeDiff Int.reduceToNat Int.reduceLT Int.reduceLE Int.reduceEq Int.reduceNe Int.reduceAdd Int.reduceSub Int.reduceMul Int.reduceNeg reduceCtorEq
attribute [go_sem_proc ↓] reduceIte
@[go_sem] def w6_15 : List (Nat × Nat) := [(0, 1), (0, 2), (1, 2), (0, 3), (1, 3), (0, 4), (1, 4), (0, 5), (1, 5), (0, 6), (1, 6), (2, 6), (3, 6), (4, 6), (5, 6), (0, 7), (1, 7), (2, 7), (3, 7), (4, 7), (5, 7), (0, 8), (1, 8), (2, 8), (3, 8), (4, 8), (5, 8), (1, 9), (6, 9), (7, 9), (8, 9), (1, 10), (6, 10), (7, 10), (8, 10)]
@[go_sem] def w6_19 : List (Nat × Nat) := [(0, 4), (1, 4), (2, 4), (3, 4), (0, 5), (1, 5), (2, 5), (3, 5), (0, 6), (1, 6), (2, 6), (3, 6), (0, 7), (1, 7), (2, 7), (3, 7), (0, 8), (1, 8), (2, 8), (3, 8), (0, 9), (1, 9), (2, 9), (3, 9), (0, 10), (1, 10), (2, 10), (3, 10), (4, 10), (5, 10), (6, 10), (7, 10), (8, 10), (9, 10), (0, 11), (1, 11), (2, 11), (3, 11), (0, 12), (1, 12), (2, 12), (3, 12), (4, 12), (5, 12), (6, 12), (7, 12), (8, 12), (9, 12), (10, 12), (11, 12)]
@[go_sem] def w8_16 : List (Nat × Nat) := [(0, 1), (0, 5), (1, 5), (2, 5), (3, 5), (4, 5), (0, 6), (1, 6), (2, 6), (3, 6), (4, 6), (0, 7), (1, 7), (2, 7), (3, 7), (4, 7), (0, 8), (1, 8), (2, 8), (3, 8), (4, 8), (0, 9), (1, 9), (2, 9), (3, 9), (4, 9)]
@[go_sem] def w8_17 : List (Nat × Nat) := [(0, 1), (0, 2), (1, 2), (0, 3), (1, 3), (2, 3), (0, 4), (1, 4), (0, 5), (1, 5), (0, 6), (1, 6), (0, 8), (1, 8), (2, 8), (3, 8), (4, 8), (5, 8), (6, 8), (7, 8), (0, 9), (1, 9), (2, 9), (3, 9), (4, 9), (5, 9), (6, 9), (7, 9), (8, 9), (0, 10), (1, 10), (2, 10), (3, 10), (4, 10), (5, 10), (6, 10), (7, 10), (8, 10), (9, 10), (0, 11), (1, 11), (2, 11), (3, 11), (4, 11), (5, 11), (6, 11), (7, 11), (8, 11), (9, 11), (10, 11), (0, 12), (1, 12), (2, 12), (3, 12), (4, 12), (5, 12), (6, 12), (7, 12), (8, 12), (9, 12), (0, 13), (1, 13), (2, 13), (3, 13), (4, 13), (5, 13), (6, 13), (7, 13), (8, 13), (9, 13), (0, 14), (1, 14), (2, 14), (3, 14), (4, 14), (5, 14), (6, 14), (7, 14), (8, 14), (9, 14)]
@[go_sem] def w17_10 : List (Nat × Nat) := [(0, 4), (1, 4), (2, 4), (3, 4), (0, 5), (1, 5), (2, 5), (3, 5), (0, 6), (1, 6), (2, 6), (3, 6), (4, 6), (5, 6), (0, 7), (1, 7), (2, 7), (3, 7), (4, 7), (5, 7), (0, 8), (1, 8), (2, 8), (3, 8), (4, 8), (5, 8), (0, 9), (1, 9), (2, 9), (3, 9), (4, 9), (5, 9), (0, 10), (1, 10), (2, 10), (3, 10), (4, 10), (5, 10), (6, 10), (7, 10), (8, 10), (9, 10), (0, 11), (1, 11), (2, 11), (3, 11), (4, 11), (5, 11), (6, 11), (7, 11), (8, 11), (9, 11), (10, 11), (0, 12), (1, 12), (2, 12), (3, 12), (4, 12), (5, 12), (6, 12), (7, 12), (8, 12), (9, 12), (0, 13), (1, 13), (2, 13), (3, 13), (4, 13), (5, 13), (6, 13), (7, 13), (8, 13), (9, 13), (0, 14), (1, 14), (2, 14), (3, 14), (4, 14), (5, 14), (6, 14), (7, 14), (8, 14), (9, 14), (0, 15), (1, 15), (2, 15), (3, 15), (4, 15), (5, 15), (0, 16), (1, 16), (2, 16), (3, 16), (4, 16), (5, 16), (6, 16), (7, 16), (8, 16), (9, 16), (10, 16), (11, 16), (12, 16), (13, 16), (14, 16), (15, 16), (0, 17), (1, 17), (2, 17), (3, 17), (4, 17), (5, 17), (6, 17), (7, 17), (8, 17), (9, 17), (10, 17), (11, 17), (12, 17), (13, 17), (14, 17), (15, 17), (16, 17), (0, 18), (1, 18), (2, 18), (3, 18), (4, 18), (5, 18), (6, 18), (7, 18), (8, 18), (9, 18), (10, 18), (11, 18), (12, 18), (13, 18), (14, 18), (15, 18), (0, 19), (1, 19), (2, 19), (3, 19), (4, 19), (5, 19), (6, 19), (7, 19), (8, 19), (9, 19), (10, 19), (11, 19), (12, 19), (13, 19), (14, 19), (15, 19), (0, 20), (1, 20), (2, 20), (3, 20), (4, 20), (5, 20), (6, 20), (7, 20), (8, 20), (9, 20), (10, 20), (11, 20), (12, 20), (13, 20), (14, 20), (15, 20), (23, 24), (24, 25)]
@[go_sem] def w17_19 : List (Nat × Nat) := [(7, 11), (8, 11), (9, 11), (10, 11), (7, 12), (8, 12), (9, 12), (10, 12), (11, 12), (7, 13), (8, 13), (9, 13), (10, 13), (11, 13), (12, 13), (7, 14), (8, 14), (9, 14), (10, 14), (11, 14), (7, 15), (8, 15), (9, 15), (10, 15), (11, 15), (7, 16), (8, 16), (9, 16), (10, 16), (11, 16), (21, 25), (22, 25), (23, 25), (24, 25), (21, 26), (22, 26), (23, 26), (24, 26), (25, 26), (21, 27), (22, 27), (23, 27), (24, 27), (25, 27), (21, 28), (22, 28), (23, 28), (24, 28), (25, 28)]
@[go_sem] def w21_5 : List (Nat × Nat) := [(0, 4), (1, 4), (2, 4), (3, 4), (7, 8), (8, 9)]
@[go_sem] def w21_11 : List (Nat × Nat) := [(0, 4), (1, 4), (2, 4), (3, 4), (0, 5), (1, 5), (2, 5), (3, 5), (4, 5), (0, 6), (1, 6), (2, 6), (3, 6), (4, 6), (5, 6), (0, 7), (1, 7), (2, 7), (3, 7), (4, 7), (5, 7), (0, 8), (1, 8), (2, 8), (3, 8), (4, 8), (5, 8), (0, 9), (1, 9), (2, 9), (3, 9), (4, 9), (5, 9), (6, 9), (7, 9), (8, 9), (0, 10), (1, 10), (2, 10), (3, 10), (4, 10), (5, 10), (6, 10), (7, 10), (8, 10), (0, 11), (1, 11), (2, 11), (3, 11), (4, 11), (5, 11), (6, 11), (7, 11), (8, 11), (0, 12), (1, 12), (2, 12), (3, 12), (4, 12), (5, 12), (6, 12), (7, 12), (8, 12), (9, 12), (10, 12), (11, 12), (0, 13), (1, 13), (2, 13), (3, 13), (4, 13), (5, 13), (6, 13), (7, 13), (8, 13), (9, 13), (10, 13), (11, 13), (0, 14), (1, 14), (2, 14), (3, 14), (4, 14), (5, 14)]
@[go_sem] def w23_5 : List (Nat × Nat) := [(0, 4), (1, 4), (2, 4), (3, 4), (0, 5), (1, 5), (2, 5), (3, 5), (0, 6), (1, 6), (2, 6), (3, 6), (0, 7), (1, 7), (2, 7), (3, 7), (0, 8), (1, 8), (2, 8), (3, 8), (4, 8), (5, 8), (6, 8), (7, 8), (0, 9), (1, 9), (2, 9), (3, 9), (4, 9), (5, 9), (6, 9), (7, 9), (0, 10), (1, 10), (2, 10), (3, 10), (4, 10), (5, 10), (6, 10), (7, 10), (0, 11), (1, 11), (2, 11), (3, 11), (4, 11), (5, 11), (6, 11), (7, 11), (0, 12), (1, 12), (2, 12), (3, 12), (4, 12), (5, 12), (6, 12), (7, 12), (8, 12), (9, 12), (10, 12), (11, 12), (0, 13), (1, 13), (2, 13), (3, 13), (4, 13), (5, 13), (6, 13), (7, 13), (8, 13), (9, 13), (10, 13), (11, 13), (0, 14), (1, 14), (2, 14), (3, 14), (4, 14), (5, 14), (6, 14), (7, 14), (0, 15), (1, 15), (2, 15), (3, 15), (4, 15), (5, 15), (6, 15), (7, 15), (8, 15), (9, 15), (10, 15), (11, 15), (12, 15), (13, 15), (14, 15), (0, 16), (1, 16), (2, 16), (3, 16), (4, 16), (5, 16), (6, 16), (7, 16), (8, 16), (9, 16), (10, 16), (11, 16), (12, 16), (13, 16), (14, 16)]
@[go_sem] def w23_6 : List (Nat × Nat) := [(0, 2), (1, 2), (0, 3), (1, 3), (0, 4), (1, 4), (0, 5), (1, 5), (0, 6), (1, 6), (0, 7), (1, 7), (2, 8), (3, 8), (4, 8), (5, 8), (6, 8), (7, 8)]
@[go_sem] def w25_6 : List (Nat × Nat) := [(0, 1), (0, 4), (1, 4), (2, 4), (3, 4), (0, 5), (1, 5), (2, 5), (3, 5), (4, 5), (0, 6), (1, 6), (2, 6), (3, 6), (0, 7), (1, 7), (2, 7), (3, 7)]
@[go_sem] def w26_6 : List (Nat × Nat) := [(4, 8), (5, 8), (6, 8), (7, 8), (4, 9), (5, 9), (6, 9), (7, 9), (8, 9), (4, 10), (5, 10), (6, 10), (7, 10), (4, 11), (5, 11), (6, 11), (7, 11), (4, 12), (5, 12), (6, 12), (7, 12), (4, 13), (5, 13), (6, 13), (7, 13)]
@[go_sem] def w28_6 : List (Nat × Nat) := [(0, 1), (0, 2), (0, 3), (0, 4), (0, 5), (0, 6), (5, 6), (6, 7), (6, 8), (6, 9)]
@[go_sem] def w28_12 : List (Nat × Nat) := [(0, 1), (0, 2), (0, 3), (0, 4), (0, 5), (1, 5), (2, 5), (3, 5), (4, 5), (0, 6), (1, 6), (2, 6), (3, 6), (4, 6), (0, 7), (1, 7), (2, 7), (3, 7), (4, 7), (0, 8)]
@[go_sem] def w28_17 : List (Nat × Nat) := [(0, 1), (0, 2), (1, 2), (0, 3), (1, 3), (0, 4)]
@[go_sem] def w28_18 : List (Nat × Nat) := [(0, 1), (0, 2), (1, 2), (0, 3), (1, 3), (0, 4)]
@[go_sem] def w28_19 : List (Nat × Nat) := [(0, 1), (0, 2)]
@[go_sem] def w28_20 : List (Nat × Nat) := [(0, 1), (0, 2), (1, 2), (0, 3), (1, 3), (0, 4)]
@[go_sem] def w28_21 : List (Nat × Nat) := [(0, 1), (0, 2), (1, 2), (0, 3), (1, 3), (0, 4)]
@[go_sem] def w28_22 : List (Nat × Nat) := [(0, 1), (0, 2)]
@[go_sem] def w28_23 : List (Nat × Nat) := [(0, 1), (0, 2), (1, 2), (0, 3), (1, 3), (0, 4), (1, 4), (0, 5), (1, 5), (0, 6), (1, 6), (0, 7)]
@[go_sem] def w28_24 : List (Nat × Nat) := [(0, 1), (0, 2), (1, 2), (0, 3), (1, 3), (0, 4), (1, 4), (0, 5), (1, 5), (0, 6)]
@[go_sem] def w28_29 : List (Nat × Nat) := [(0, 1), (0, 2), (0, 3), (0, 4), (0, 5), (1, 5), (2, 5), (3, 5), (4, 5), (0, 6), (1, 6), (2, 6), (3, 6), (4, 6), (0, 7)]
@[go_sem] def w29_31 : List (Nat × Nat) := [(0, 1), (0, 2), (0, 3), (0, 4), (0, 5), (1, 5), (2, 5), (3, 5), (4, 5), (0, 6), (1, 6), (2, 6), (3, 6), (4, 6), (0, 7), (0, 8), (0, 9), (0, 10), (1, 10), (2, 10), (3, 10), (4, 10), (5, 10), (6, 10), (7, 10), (8, 10), (9, 10), (0, 11), (1, 11), (2, 11), (3, 11), (4, 11), (5, 11), (6, 11), (7, 11), (8, 11), (9, 11), (10, 11), (0, 12), (1, 12), (2, 12), (3, 12), (4, 12), (5, 12), (6, 12), (7, 12), (8, 12), (9, 12), (10, 12), (0, 13), (1, 13), (2, 13), (3, 13), (4, 13), (5, 13), (6, 13), (7, 13), (8, 13), (9, 13), (10, 13), (0, 14), (1, 14), (2, 14), (3, 14), (4, 14), (5, 14), (6, 14), (7, 14), (8, 14), (9, 14), (10, 14), (0, 15), (1, 15), (2, 15), (3, 15), (4, 15), (5, 15), (6, 15), (7, 15), (8, 15), (9, 15), (10, 15), (11, 15), (12, 15), (13, 15), (14, 15), (0, 16), (1, 16), (2, 16), (3, 16), (4, 16), (5, 16), (6, 16), (7, 16), (8, 16), (9, 16), (10, 16), (11, 16), (12, 16), (13, 16), (14, 16), (0, 17), (1, 17), (2, 17), (3, 17), (4, 17), (5, 17), (6, 17), (7, 17), (8, 17), (9, 17), (10, 17), (0, 18), (1, 18), (2, 18), (3, 18), (4, 18), (5, 18), (6, 18), (7, 18), (8, 18), (9, 18), (10, 18), (0, 19), (1, 19), (2, 19), (3, 19), (4, 19), (5, 19), (6, 19), (7, 19), (8, 19), (9, 19), (10, 19)]
@[go_sem] def w31_9 : List (Nat × Nat) := [(0, 1), (0, 2), (0, 3), (0, 4), (0, 5), (0, 6), (1, 6), (2, 6), (3, 6), (4, 6), (5, 6), (0, 7), (0, 8), (0, 9), (1, 9), (2, 9), (3, 9), (4, 9), (5, 9), (6, 9), (7, 9), (8, 9), (0, 10), (1, 10), (2, 10), (3, 10), (4, 10), (5, 10), (6, 10), (7, 10), (8, 10), (0, 11), (1, 11), (2, 11), (3, 11), (4, 11), (5, 11), (6, 11), (7, 11), (8, 11), (0, 12), (1, 12), (2, 12), (3, 12), (4, 12), (5, 12), (6, 12), (7, 12), (8, 12), (0, 13), (1, 13), (2, 13), (3, 13), (4, 13), (5, 13), (6, 13), (7, 13), (8, 13), (0, 14), (1, 14), (2, 14), (3, 14), (4, 14), (5, 14), (6, 14), (7, 14), (8, 14), (13, 14), (14, 15), (14, 16)]
@[go_sem] def w33_8 : List (Nat × Nat) := [(0, 1), (0, 2), (0, 3), (0, 4), (0, 5), (0, 6), (1, 6), (2, 6), (3, 6), (4, 6), (5, 6), (0, 7), (0, 8), (0, 9), (1, 9), (2, 9), (3, 9), (4, 9), (5, 9), (6, 9), (7, 9), (8, 9), (0, 10), (1, 10), (2, 10), (3, 10), (4, 10), (5, 10), (6, 10), (7, 10), (8, 10), (9, 10), (0, 11), (1, 11), (2, 11), (3, 11), (4, 11), (5, 11), (6, 11), (7, 11), (8, 11), (9, 11), (0, 12), (1, 12), (2, 12), (3, 12), (4, 12), (5, 12), (6, 12), (7, 12), (8, 12), (9, 12), (0, 13), (1, 13), (2, 13), (3, 13), (4, 13), (5, 13), (6, 13), (7, 13), (8, 13), (9, 13), (0, 14), (1, 14), (2, 14), (3, 14), (4, 14), (5, 14), (6, 14), (7, 14), (8, 14), (9, 14), (0, 15), (1, 15), (2, 15), (3, 15), (4, 15), (5, 15), (6, 15), (7, 15), (8, 15), (9, 15), (10, 15), (11, 15), (12, 15), (13, 15), (14, 15), (0, 16), (1, 16), (2, 16), (3, 16), (4, 16), (5, 16), (6, 16), (7, 16), (8, 16), (9, 16), (0, 17), (1, 17), (2, 17), (3, 17), (4, 17), (5, 17), (6, 17), (7, 17), (8, 17), (9, 17), (0, 18), (1, 18), (2, 18), (3, 18), (4, 18), (5, 18), (6, 18), (7, 18), (8, 18), (0, 19), (1, 19), (2, 19), (3, 19), (4, 19), (5, 19), (6, 19), (7, 19), (8, 19)]
@[go_sem] def w35_3 : List (Nat × Nat) := [(0, 5), (1, 5), (2, 5), (3, 5), (4, 5), (0, 6), (1, 6), (2, 6), (3, 6), (4, 6), (0, 7), (1, 7), (2, 7), (3, 7), (4, 7), (0, 8), (1, 8), (2, 8), (3, 8), (4, 8), (0, 9), (1, 9), (2, 9), (3, 9), (4, 9)]
@[go_sem] def w42_6 : List (Nat × Nat) := [(0, 1), (0, 4), (1, 4), (2, 4), (3, 4), (0, 5), (1, 5), (2, 5), (3, 5), (4, 5), (0, 6), (1, 6), (2, 6), (3, 6), (0, 7), (1, 7), (2, 7), (3, 7)]
@[go_sem] def w43_3 : List (Nat × Nat) := [(0, 4), (1, 4), (2, 4), (3, 4), (7, 8), (8, 9)]
@[go_sem] def w43_11 : List (Nat × Nat) := [(0, 2), (1, 2), (0, 3), (1, 3), (2, 3), (0, 4), (1, 4), (2, 4), (0, 5), (1, 5), (2, 5), (0, 6), (1, 6), (2, 6), (0, 7), (1, 7), (2, 7), (3, 7), (4, 7), (5, 7), (6, 7), (0, 8), (1, 8), (2, 8), (3, 8), (4, 8), (5, 8), (6, 8), (7, 8), (0, 9), (1, 9), (2, 9), (0, 10), (1, 10), (2, 10), (0, 11), (1, 11), (2, 11), (10, 11), (0, 12), (1, 12), (0, 13), (1, 13)]
@[go_sem] def w44_8 : List (Nat × Nat) := [(0, 4), (1, 4), (2, 4), (3, 4), (0, 5), (1, 5), (2, 5), (3, 5), (0, 6), (1, 6), (2, 6), (3, 6), (0, 7), (1, 7), (2, 7), (3, 7), (0, 8), (1, 8), (2, 8), (3, 8), (0, 9), (1, 9), (2, 9), (3, 9), (0, 10), (1, 10), (2, 10), (3, 10), (4, 10), (5, 10), (6, 10), (7, 10), (8, 10), (9, 10), (0, 11), (1, 11), (2, 11), (3, 11), (14, 15), (15, 16)]
@[go_sem] def w48_6 : List (Nat × Nat) := [(0, 1), (0, 2), (1, 2), (0, 3), (0, 4), (0, 5), (1, 5), (2, 5), (3, 5), (4, 5), (0, 6), (1, 6), (2, 6), (3, 6), (4, 6), (5, 6), (0, 7), (1, 7), (2, 7), (3, 7), (4, 7), (5, 7), (0, 8), (1, 8), (2, 8), (3, 8), (4, 8), (0, 9), (1, 9), (2, 9), (3, 9), (4, 9)]
@[go_sem] def w48_11 : List (Nat × Nat) := [(0, 1), (0, 2), (1, 2), (0, 3), (0, 4), (0, 5), (1, 5), (2, 5), (3, 5), (4, 5), (0, 6), (1, 6), (2, 6), (3, 6), (4, 6), (5, 6), (0, 7), (1, 7), (2, 7), (3, 7), (4, 7), (5, 7), (0, 8), (1, 8), (2, 8), (3, 8), (4, 8), (0, 9), (1, 9), (2, 9), (3, 9), (4, 9)]
@[go_sem] def w50_2 : List (Nat × Nat) := [(0, 5), (1, 5), (2, 5), (3, 5), (4, 5), (0, 6), (1, 6), (2, 6), (3, 6), (4, 6), (0, 8), (1, 8), (2, 8), (3, 8), (4, 8), (5, 8), (6, 8), (7, 8), (0, 9), (1, 9), (2, 9), (3, 9), (4, 9), (5, 9), (6, 9), (7, 9), (0, 10), (1, 10), (2, 10), (3, 10), (4, 10), (5, 10), (6, 10), (7, 10), (0, 11), (1, 11), (2, 11), (3, 11), (4, 11), (5, 11), (6, 11), (7, 11), (0, 12), (1, 12), (2, 12), (3, 12), (4, 12), (5, 12), (6, 12), (7, 12), (11, 12), (0, 13), (1, 13), (2, 13), (3, 13), (4, 13), (5, 13), (6, 13), (7, 13), (11, 13), (0, 14), (1, 14), (2, 14), (3, 14), (4, 14), (5, 14), (6, 14), (7, 14), (11, 14), (0, 15), (1, 15), (2, 15), (3, 15), (4, 15), (5, 15), (6, 15), (7, 15), (11, 15), (0, 16), (1, 16), (2, 16), (3, 16), (4, 16), (5, 16), (6, 16), (7, 16), (0, 17), (1, 17), (2, 17), (3, 17), (4, 17), (5, 17), (6, 17), (7, 17), (11, 18), (12, 18), (13, 18), (14, 18), (15, 18), (16, 18), (17, 18)]
@[go_sem] def w56_1 : List (Nat × Nat) := [(0, 4), (1, 4), (2, 4), (3, 4), (0, 5), (1, 5), (2, 5), (3, 5), (4, 5), (8, 9), (9, 10)]
@[go_sem] def w60_2 : List (Nat × Nat) := [(0, 1), (0, 2), (0, 3), (0, 4), (0, 5), (1, 5), (2, 5), (3, 5), (4, 5), (0, 6), (1, 6), (2, 6), (3, 6), (4, 6), (5, 6), (0, 7), (1, 7), (2, 7), (3, 7), (4, 7), (5, 7), (6, 7), (0, 8), (1, 8), (2, 8), (3, 8), (4, 8), (5, 8), (6, 8), (7, 8), (0, 9), (1, 9), (2, 9), (3, 9), (4, 9), (0, 10), (1, 10), (2, 10), (3, 10), (4, 10), (0, 11)]
@[go_sem] def w64_5 : List (Nat × Nat) := [(0, 1), (0, 2), (0, 3), (0, 4), (0, 5), (1, 5), (2, 5), (3, 5), (4, 5), (0, 6), (1, 6), (2, 6), (3, 6), (4, 6), (5, 6), (0, 7), (1, 7), (2, 7), (3, 7), (4, 7), (5, 7), (6, 7), (0, 8), (1, 8), (2, 8), (3, 8), (4, 8), (5, 8), (6, 8), (7, 8), (0, 9), (1, 9), (2, 9), (3, 9), (4, 9), (5, 9), (6, 9), (0, 10), (1, 10), (2, 10), (3, 10), (4, 10), (5, 10), (0, 11), (1, 11), (2, 11), (3, 11), (4, 11), (5, 11), (6, 11), (7, 11), (8, 11), (9, 11), (10, 11), (0, 12), (1, 12), (2, 12), (3, 12), (4, 12), (5, 12), (6, 12), (7, 12), (8, 12), (9, 12), (10, 12), (11, 12), (0, 13), (1, 13), (2, 13), (3, 13), (4, 13), (5, 13), (6, 13), (7, 13), (8, 13), (9, 13), (10, 13), (0, 14), (1, 14), (2, 14), (3, 14), (4, 14), (0, 15), (1, 15), (2, 15), (3, 15), (4, 15), (0, 16)]
@[go_sem] def w69_2 : List (Nat × Nat) := [(0, 1), (0, 2), (0, 3), (0, 4), (0, 5), (1, 5), (2, 5), (3, 5), (4, 5), (0, 6), (1, 6), (2, 6), (3, 6), (4, 6), (0, 7)]
@[go_sem] def w73_1 : List (Nat × Nat) := [(0, 1), (0, 2), (0, 3), (0, 4), (0, 5), (1, 5), (2, 5), (3, 5), (4, 5), (0, 6), (1, 6), (2, 6), (3, 6), (4, 6), (5, 6), (0, 7), (0, 8), (0, 9), (8, 9)]
@[go_sem] def w86_14 : List (Nat × Nat) := [(0, 2), (1, 2), (0, 5), (1, 5), (2, 5), (3, 5), (4, 5), (0, 6), (1, 6), (2, 6), (3, 6), (4, 6), (0, 7), (1, 7), (2, 7), (3, 7), (4, 7), (5, 7), (6, 7), (0, 8), (1, 8), (2, 8), (3, 8), (4, 8), (5, 8), (6, 8), (0, 9), (1, 9), (2, 9), (3, 9), (4, 9), (0, 10), (1, 10), (2, 10), (3, 10), (4, 10)]
@[go_sem] def w91_4 : List (Nat × Nat) := [(0, 1), (4, 5), (4, 6), (5, 6), (4, 7), (4, 8), (4, 9), (5, 9), (6, 9), (7, 9), (8, 9), (4, 10), (5, 10), (6, 10), (7, 10), (8, 10), (9, 10), (4, 11), (5, 11), (6, 11), (7, 11), (8, 11), (9, 11), (4, 12), (5, 12), (6, 12), (7, 12), (8, 12), (4, 13), (5, 13), (6, 13), (7, 13), (8, 13)]
@[go_sem] def w91_6 : List (Nat × Nat) := [(0, 1), (0, 2), (1, 2), (0, 3), (1, 3), (2, 3), (0, 4), (1, 4), (2, 4), (0, 5), (1, 5), (2, 5), (3, 5), (4, 5), (0, 6), (1, 6), (2, 6), (3, 6), (4, 6), (5, 6), (0, 7), (1, 7), (2, 7), (3, 7), (4, 7), (5, 7), (0, 8), (1, 8), (2, 8), (3, 8), (4, 8), (0, 9), (1, 9), (2, 9), (3, 9), (4, 9), (0, 10), (1, 10), (2, 10), (3, 10), (4, 10), (5, 10), (6, 10), (7, 10), (8, 10), (9, 10), (0, 11), (1, 11), (2, 11), (3, 11), (4, 11), (5, 11), (6, 11), (7, 11), (8, 11), (9, 11), (10, 11), (0, 12), (1, 12), (2, 12), (3, 12), (4, 12), (5, 12), (6, 12), (7, 12), (8, 12), (9, 12), (0, 13), (1, 13), (2, 13), (3, 13), (4, 13), (5, 13), (6, 13), (7, 13), (8, 13), (9, 13), (2, 14), (3, 14), (4, 14), (2, 15), (3, 15), (4, 15)]
@[go_sem] def w92_5 : List (Nat × Nat) := [(0, 1), (0, 2), (1, 2), (0, 3), (0, 4), (0, 5), (1, 5), (2, 5), (3, 5), (4, 5), (0, 6), (1, 6), (2, 6), (3, 6), (4, 6), (5, 6), (0, 7), (1, 7), (2, 7), (3, 7), (4, 7), (0, 8), (1, 8), (2, 8), (3, 8), (4, 8)]
@[go_sem] def w92_11 : List (Nat × Nat) := [(0, 1), (0, 2), (1, 2), (0, 3), (1, 3), (2, 3), (0, 4), (1, 4), (2, 4), (0, 5), (1, 5), (2, 5), (3, 5), (4, 5), (0, 6), (1, 6), (2, 6), (3, 6), (4, 6), (5, 6), (0, 7), (1, 7), (2, 7), (3, 7), (4, 7), (5, 7), (0, 8), (1, 8), (2, 8), (3, 8), (4, 8), (0, 9), (1, 9), (2, 9), (3, 9), (4, 9), (0, 10), (1, 10), (2, 10), (3, 10), (4, 10), (5, 10), (6, 10), (7, 10), (8, 10), (9, 10), (0, 11), (1, 11), (2, 11), (3, 11), (4, 11), (5, 11), (6, 11), (7, 11), (8, 11), (9, 11), (10, 11), (0, 12), (1, 12), (2, 12), (3, 12), (4, 12), (5, 12), (6, 12), (7, 12), (8, 12), (9, 12), (0, 13), (1, 13), (2, 13), (3, 13), (4, 13), (5, 13), (6, 13), (7, 13), (8, 13), (9, 13), (2, 14), (3, 14), (4, 14), (2, 15), (3, 15), (4, 15)]
@[go_sem] def w92_17 : List (Nat × Nat) := [(0, 1), (0, 2), (1, 2), (0, 3), (0, 4), (0, 5), (1, 5), (2, 5), (3, 5), (4, 5), (0, 6), (1, 6), (2, 6), (3, 6), (4, 6), (5, 6), (0, 7), (1, 7), (2, 7), (3, 7), (4, 7), (0, 8), (1, 8), (2, 8), (3, 8), (4, 8)]
@[go_sem] def w92_23 : List (Nat × Nat) := [(0, 1), (0, 2), (1, 2), (0, 3), (1, 3), (2, 3), (0, 4), (1, 4), (2, 4), (0, 5), (1, 5), (2, 5), (3, 5), (4, 5), (0, 6), (1, 6), (2, 6), (3, 6), (4, 6), (5, 6), (0, 7), (1, 7), (2, 7), (3, 7), (4, 7), (5, 7), (0, 8), (1, 8), (2, 8), (3, 8), (4, 8), (0, 9), (1, 9), (2, 9), (3, 9), (4, 9), (0, 10), (1, 10), (2, 10), (3, 10), (4, 10), (5, 10), (6, 10), (7, 10), (8, 10), (9, 10), (0, 11), (1, 11), (2, 11), (3, 11), (4, 11), (5, 11), (6, 11), (7, 11), (8, 11), (9, 11), (10, 11), (0, 12), (1, 12), (2, 12), (3, 12), (4, 12), (5, 12), (6, 12), (7, 12), (8, 12), (9, 12), (0, 13), (1, 13), (2, 13), (3, 13), (4, 13), (5, 13), (6, 13), (7, 13), (8, 13), (9, 13), (2, 14), (3, 14), (4, 14), (2, 15), (3, 15), (4, 15)]
@[go_sem] def w92_35 : List (Nat × Nat) := [(0, 1), (0, 2), (1, 2), (0, 3), (1, 3), (2, 3), (0, 4), (1, 4), (0, 5), (0, 6), (0, 7), (1, 7), (2, 7), (3, 7), (4, 7), (5, 7), (6, 7), (0, 8), (1, 8), (2, 8), (3, 8), (4, 8), (5, 8), (6, 8), (7, 8), (0, 9), (1, 9), (2, 9), (3, 9), (4, 9), (5, 9), (6, 9), (0, 10), (1, 10), (2, 10), (3, 10), (4, 10), (5, 10), (6, 10)]
end Go.Proofs.Ytapcgfakefmemaa
