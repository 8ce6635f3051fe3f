/-
  What the program's types are, in the abstract machine's words: read off the program by program.
-/
import Derived.Test.YtbceiadaihphaaaGreatProg
import Derived.Test.YtbceiadaihphaaaGreatAmV3
set_option linter.unusedVariables false
set_option maxRecDepth 100000
namespace Go.Proofs.YtbceiadaihphaaaGreat
open Go.Am
attribute [go_sem] Tryz.underlying0
@[go_sem] theorem sz0 : szT Tryz.prog 0 = some 1 := rfl
@[go_sem] theorem ag0 : agT Tryz.prog 0 = some false := rfl
attribute [go_sem] Tryz.underlying3
@[go_sem] theorem sz3 : szT Tryz.prog 3 = some 1 := rfl
@[go_sem] theorem ag3 : agT Tryz.prog 3 = some false := rfl
@[go_sem] theorem zc3 : zcT Tryz.prog 3 = some [.int .i64 0] := rfl
attribute [go_sem] Tryz.underlying4
@[go_sem] theorem sz4 : szT Tryz.prog 4 = some 1 := rfl
@[go_sem] theorem ag4 : agT Tryz.prog 4 = some false := rfl
@[go_sem] theorem zc4 : zcT Tryz.prog 4 = some [.bool false] := rfl
attribute [go_sem] Tryz.underlying5
@[go_sem] theorem sz5 : szT Tryz.prog 5 = some 1 := rfl
@[go_sem] theorem ag5 : agT Tryz.prog 5 = some false := rfl
@[go_sem] theorem zc5 : zcT Tryz.prog 5 = some [.int .u8 0] := rfl
attribute [go_sem] Tryz.underlying23
@[go_sem] theorem sz23 : szT Tryz.prog 23 = some 2 := rfl
@[go_sem] theorem ag23 : agT Tryz.prog 23 = some true := rfl
@[go_sem] theorem zc23 : zcT Tryz.prog 23 = some [.int .u8 0, .int .i64 0] := rfl
@[go_sem] theorem bd23 : bdT Tryz.prog 23 = some ([.int .u8 0, .int .i64 0], fun j => [(0, 1), (1, 1)][j]?) := rfl
@[go_sem] theorem fa23_0 : faT Tryz.prog 23 0 = some (0, 1) := rfl
@[go_sem] theorem fd23_0 : fdT Tryz.prog 23 0 = some (0, 1, false) := rfl
@[go_sem] theorem fa23_1 : faT Tryz.prog 23 1 = some (1, 1) := rfl
@[go_sem] theorem fd23_1 : fdT Tryz.prog 23 1 = some (1, 1, false) := rfl
attribute [go_sem] Tryz.underlying24
@[go_sem] theorem sz24 : szT Tryz.prog 24 = some 1 := rfl
@[go_sem] theorem ag24 : agT Tryz.prog 24 = some false := rfl
@[go_sem] theorem zc24 : zcT Tryz.prog 24 = some [.slice none 0 0] := rfl
@[go_sem] theorem ia24 : iaT Tryz.prog 24 = some (none, 1) := rfl
@[go_sem] theorem el24 : elT Tryz.prog 24 = some (1, 24, [.slice none 0 0]) := rfl
@[go_sem] theorem ap24 : apT Tryz.prog 24 24 = some (1, 24, 1) := rfl
attribute [go_sem] Tryz.underlying25
@[go_sem] theorem sz25 : szT Tryz.prog 25 = some 1 := rfl
@[go_sem] theorem ag25 : agT Tryz.prog 25 = some false := rfl
@[go_sem] theorem zc25 : zcT Tryz.prog 25 = some [.slice none 0 0] := rfl
@[go_sem] theorem ia25 : iaT Tryz.prog 25 = some (none, 1) := rfl
@[go_sem] theorem el25 : elT Tryz.prog 25 = some (1, 8, [.int .i64 0]) := rfl
@[go_sem] theorem ap25 : apT Tryz.prog 25 25 = some (1, 8, 1) := rfl
attribute [go_sem] Tryz.underlying27
@[go_sem] theorem sz27 : szT Tryz.prog 27 = some 1 := rfl
@[go_sem] theorem ag27 : agT Tryz.prog 27 = some false := rfl
@[go_sem] theorem zc27 : zcT Tryz.prog 27 = some [.pointer none] := rfl
attribute [go_sem] Tryz.underlying29
@[go_sem] theorem sz29 : szT Tryz.prog 29 = some 1 := rfl
@[go_sem] theorem ag29 : agT Tryz.prog 29 = some false := rfl
@[go_sem] theorem zc29 : zcT Tryz.prog 29 = some [.slice none 0 0] := rfl
@[go_sem] theorem ia29 : iaT Tryz.prog 29 = some (none, 4) := rfl
@[go_sem] theorem el29 : elT Tryz.prog 29 = some (4, 32, [.int .i64 0, .int .i64 0, .int .u8 0, .int .u64 0]) := rfl
@[go_sem] theorem ap29 : apT Tryz.prog 29 29 = some (4, 32, 4) := rfl
attribute [go_sem] Tryz.underlying31
@[go_sem] theorem sz31 : szT Tryz.prog 31 = some 1 := rfl
@[go_sem] theorem ag31 : agT Tryz.prog 31 = some false := rfl
@[go_sem] theorem zc31 : zcT Tryz.prog 31 = some [.int .u64 0] := rfl
attribute [go_sem] Tryz.underlying33
@[go_sem] theorem sz33 : szT Tryz.prog 33 = some 4 := rfl
@[go_sem] theorem ag33 : agT Tryz.prog 33 = some true := rfl
@[go_sem] theorem zc33 : zcT Tryz.prog 33 = some [.int .i64 0, .int .i64 0, .int .u8 0, .int .u64 0] := rfl
@[go_sem] theorem bd33 : bdT Tryz.prog 33 = some ([.int .i64 0, .int .i64 0, .int .u8 0, .int .u64 0], fun j => [(0, 1), (1, 1), (2, 1), (3, 1)][j]?) := rfl
@[go_sem] theorem fa33_0 : faT Tryz.prog 33 0 = some (0, 1) := rfl
@[go_sem] theorem fd33_0 : fdT Tryz.prog 33 0 = some (0, 1, false) := rfl
@[go_sem] theorem fa33_1 : faT Tryz.prog 33 1 = some (1, 1) := rfl
@[go_sem] theorem fd33_1 : fdT Tryz.prog 33 1 = some (1, 1, false) := rfl
@[go_sem] theorem fa33_2 : faT Tryz.prog 33 2 = some (2, 1) := rfl
@[go_sem] theorem fd33_2 : fdT Tryz.prog 33 2 = some (2, 1, false) := rfl
@[go_sem] theorem fa33_3 : faT Tryz.prog 33 3 = some (3, 1) := rfl
@[go_sem] theorem fd33_3 : fdT Tryz.prog 33 3 = some (3, 1, false) := rfl
attribute [go_sem] Tryz.underlying36
@[go_sem] theorem sz36 : szT Tryz.prog 36 = some 1 := rfl
@[go_sem] theorem ag36 : agT Tryz.prog 36 = some false := rfl
@[go_sem] theorem zc36 : zcT Tryz.prog 36 = some [.slice none 0 0] := rfl
@[go_sem] theorem ia36 : iaT Tryz.prog 36 = some (none, 6) := rfl
@[go_sem] theorem el36 : elT Tryz.prog 36 = some (6, 48, [.int .i64 0, .int .i64 0, .int .u8 0, .int .u64 0, .int .u64 0, .bool false]) := rfl
@[go_sem] theorem ap36 : apT Tryz.prog 36 36 = some (6, 48, 6) := rfl
attribute [go_sem] Tryz.underlying41
@[go_sem] theorem sz41 : szT Tryz.prog 41 = some 5 := rfl
@[go_sem] theorem ag41 : agT Tryz.prog 41 = some true := rfl
@[go_sem] theorem zc41 : zcT Tryz.prog 41 = some [.int .i64 0, .int .u8 0, .bool false, .bool false, .bool false] := rfl
@[go_sem] theorem bd41 : bdT Tryz.prog 41 = some ([.int .i64 0, .int .u8 0, .bool false, .bool false, .bool false], fun j => [(0, 1), (1, 1), (2, 1), (3, 1), (4, 1)][j]?) := rfl
@[go_sem] theorem fa41_0 : faT Tryz.prog 41 0 = some (0, 1) := rfl
@[go_sem] theorem fd41_0 : fdT Tryz.prog 41 0 = some (0, 1, false) := rfl
@[go_sem] theorem fa41_1 : faT Tryz.prog 41 1 = some (1, 1) := rfl
@[go_sem] theorem fd41_1 : fdT Tryz.prog 41 1 = some (1, 1, false) := rfl
@[go_sem] theorem fa41_2 : faT Tryz.prog 41 2 = some (2, 1) := rfl
@[go_sem] theorem fd41_2 : fdT Tryz.prog 41 2 = some (2, 1, false) := rfl
@[go_sem] theorem fa41_3 : faT Tryz.prog 41 3 = some (3, 1) := rfl
@[go_sem] theorem fd41_3 : fdT Tryz.prog 41 3 = some (3, 1, false) := rfl
@[go_sem] theorem fa41_4 : faT Tryz.prog 41 4 = some (4, 1) := rfl
@[go_sem] theorem fd41_4 : fdT Tryz.prog 41 4 = some (4, 1, false) := rfl
attribute [go_sem] Tryz.underlying42
@[go_sem] theorem sz42 : szT Tryz.prog 42 = some 1 := rfl
@[go_sem] theorem ag42 : agT Tryz.prog 42 = some false := rfl
@[go_sem] theorem zc42 : zcT Tryz.prog 42 = some [.int .i64 0] := rfl
attribute [go_sem] Tryz.underlying43
@[go_sem] theorem sz43 : szT Tryz.prog 43 = some 1 := rfl
@[go_sem] theorem ag43 : agT Tryz.prog 43 = some false := rfl
attribute [go_sem] Tryz.underlying46
@[go_sem] theorem sz46 : szT Tryz.prog 46 = some 6 := rfl
@[go_sem] theorem ag46 : agT Tryz.prog 46 = some true := rfl
@[go_sem] theorem zc46 : zcT Tryz.prog 46 = some [.int .i64 0, .int .i64 0, .int .u8 0, .int .u64 0, .int .u64 0, .bool false] := rfl
@[go_sem] theorem bd46 : bdT Tryz.prog 46 = some ([.int .i64 0, .int .i64 0, .int .u8 0, .int .u64 0, .int .u64 0, .bool false], fun j => [(0, 1), (1, 1), (2, 1), (3, 1), (4, 1), (5, 1)][j]?) := rfl
@[go_sem] theorem fa46_0 : faT Tryz.prog 46 0 = some (0, 1) := rfl
@[go_sem] theorem fd46_0 : fdT Tryz.prog 46 0 = some (0, 1, false) := rfl
@[go_sem] theorem fa46_1 : faT Tryz.prog 46 1 = some (1, 1) := rfl
@[go_sem] theorem fd46_1 : fdT Tryz.prog 46 1 = some (1, 1, false) := rfl
@[go_sem] theorem fa46_2 : faT Tryz.prog 46 2 = some (2, 1) := rfl
@[go_sem] theorem fd46_2 : fdT Tryz.prog 46 2 = some (2, 1, false) := rfl
@[go_sem] theorem fa46_3 : faT Tryz.prog 46 3 = some (3, 1) := rfl
@[go_sem] theorem fd46_3 : fdT Tryz.prog 46 3 = some (3, 1, false) := rfl
@[go_sem] theorem fa46_4 : faT Tryz.prog 46 4 = some (4, 1) := rfl
@[go_sem] theorem fd46_4 : fdT Tryz.prog 46 4 = some (4, 1, false) := rfl
@[go_sem] theorem fa46_5 : faT Tryz.prog 46 5 = some (5, 1) := rfl
@[go_sem] theorem fd46_5 : fdT Tryz.prog 46 5 = some (5, 1, false) := rfl
attribute [go_sem] Tryz.underlying47
@[go_sem] theorem sz47 : szT Tryz.prog 47 = some 1 := rfl
@[go_sem] theorem ag47 : agT Tryz.prog 47 = some false := rfl
attribute [go_sem] Tryz.underlying49
@[go_sem] theorem sz49 : szT Tryz.prog 49 = some 1 := rfl
@[go_sem] theorem ag49 : agT Tryz.prog 49 = some false := rfl
@[go_sem] theorem zc49 : zcT Tryz.prog 49 = some [.slice none 0 0] := rfl
@[go_sem] theorem ia49 : iaT Tryz.prog 49 = some (none, 2) := rfl
@[go_sem] theorem el49 : elT Tryz.prog 49 = some (2, 16, [.int .u8 0, .int .u64 0]) := rfl
@[go_sem] theorem ap49 : apT Tryz.prog 49 49 = some (2, 16, 2) := rfl
attribute [go_sem] Tryz.underlying51
@[go_sem] theorem sz51 : szT Tryz.prog 51 = some 2 := rfl
@[go_sem] theorem ag51 : agT Tryz.prog 51 = some true := rfl
@[go_sem] theorem zc51 : zcT Tryz.prog 51 = some [.int .u8 0, .int .u64 0] := rfl
@[go_sem] theorem bd51 : bdT Tryz.prog 51 = some ([.int .u8 0, .int .u64 0], fun j => [(0, 1), (1, 1)][j]?) := rfl
@[go_sem] theorem fa51_0 : faT Tryz.prog 51 0 = some (0, 1) := rfl
@[go_sem] theorem fd51_0 : fdT Tryz.prog 51 0 = some (0, 1, false) := rfl
@[go_sem] theorem fa51_1 : faT Tryz.prog 51 1 = some (1, 1) := rfl
@[go_sem] theorem fd51_1 : fdT Tryz.prog 51 1 = some (1, 1, false) := rfl
attribute [go_sem] Tryz.underlying53
@[go_sem] theorem sz53 : szT Tryz.prog 53 = some 3 := rfl
@[go_sem] theorem ag53 : agT Tryz.prog 53 = some true := rfl
@[go_sem] theorem zc53 : zcT Tryz.prog 53 = some [.int .u8 0, .int .i64 0, .int .i64 0] := rfl
@[go_sem] theorem bd53 : bdT Tryz.prog 53 = some ([.int .u8 0, .int .i64 0, .int .i64 0], fun j => [(0, 1), (1, 1), (2, 1)][j]?) := rfl
@[go_sem] theorem fa53_0 : faT Tryz.prog 53 0 = some (0, 1) := rfl
@[go_sem] theorem fd53_0 : fdT Tryz.prog 53 0 = some (0, 1, false) := rfl
@[go_sem] theorem fa53_1 : faT Tryz.prog 53 1 = some (1, 1) := rfl
@[go_sem] theorem fd53_1 : fdT Tryz.prog 53 1 = some (1, 1, false) := rfl
@[go_sem] theorem fa53_2 : faT Tryz.prog 53 2 = some (2, 1) := rfl
@[go_sem] theorem fd53_2 : fdT Tryz.prog 53 2 = some (2, 1, false) := rfl
attribute [go_sem] Tryz.underlying54
@[go_sem] theorem sz54 : szT Tryz.prog 54 = some 1 := rfl
@[go_sem] theorem ag54 : agT Tryz.prog 54 = some false := rfl
attribute [go_sem] Tryz.underlying66
@[go_sem] theorem sz66 : szT Tryz.prog 66 = some 1 := rfl
@[go_sem] theorem ag66 : agT Tryz.prog 66 = some false := rfl
attribute [go_sem] Tryz.underlying72
@[go_sem] theorem sz72 : szT Tryz.prog 72 = some 1 := rfl
@[go_sem] theorem ag72 : agT Tryz.prog 72 = some false := rfl
@[go_sem] theorem zc72 : zcT Tryz.prog 72 = some [.pointer none] := rfl
attribute [go_sem] Tryz.underlying73
@[go_sem] theorem sz73 : szT Tryz.prog 73 = some 1 := rfl
@[go_sem] theorem ag73 : agT Tryz.prog 73 = some false := rfl
@[go_sem] theorem zc73 : zcT Tryz.prog 73 = some [.pointer none] := rfl
attribute [go_sem] Tryz.underlying74
@[go_sem] theorem sz74 : szT Tryz.prog 74 = some 1 := rfl
@[go_sem] theorem ag74 : agT Tryz.prog 74 = some false := rfl
@[go_sem] theorem zc74 : zcT Tryz.prog 74 = some [.slice none 0 0] := rfl
@[go_sem] theorem ia74 : iaT Tryz.prog 74 = some (none, 8) := rfl
@[go_sem] theorem el74 : elT Tryz.prog 74 = some (8, 64, [.slice none 0 0, .int .i64 0, .pointer none, .pointer none, .int .u8 0, .bool false, .bool false, .int .u64 0]) := rfl
@[go_sem] theorem ap74 : apT Tryz.prog 74 74 = some (8, 64, 8) := rfl
attribute [go_sem] Tryz.underlying75
@[go_sem] theorem sz75 : szT Tryz.prog 75 = some 1 := rfl
@[go_sem] theorem ag75 : agT Tryz.prog 75 = some false := rfl
@[go_sem] theorem zc75 : zcT Tryz.prog 75 = some [.map none] := rfl
attribute [go_sem] Tryz.underlying77
@[go_sem] theorem sz77 : szT Tryz.prog 77 = some 6 := rfl
@[go_sem] theorem ag77 : agT Tryz.prog 77 = some true := rfl
@[go_sem] theorem zc77 : zcT Tryz.prog 77 = some [.pointer none, .pointer none, .slice none 0 0, .slice none 0 0, .int .i64 0, .map none] := rfl
@[go_sem] theorem bd77 : bdT Tryz.prog 77 = some ([.pointer none, .pointer none, .slice none 0 0, .slice none 0 0, .int .i64 0, .map none], fun j => [(0, 1), (1, 1), (2, 1), (3, 1), (4, 1), (5, 1)][j]?) := rfl
@[go_sem] theorem fa77_0 : faT Tryz.prog 77 0 = some (0, 1) := rfl
@[go_sem] theorem fd77_0 : fdT Tryz.prog 77 0 = some (0, 1, false) := rfl
@[go_sem] theorem fa77_1 : faT Tryz.prog 77 1 = some (1, 1) := rfl
@[go_sem] theorem fd77_1 : fdT Tryz.prog 77 1 = some (1, 1, false) := rfl
@[go_sem] theorem fa77_2 : faT Tryz.prog 77 2 = some (2, 1) := rfl
@[go_sem] theorem fd77_2 : fdT Tryz.prog 77 2 = some (2, 1, false) := rfl
@[go_sem] theorem fa77_3 : faT Tryz.prog 77 3 = some (3, 1) := rfl
@[go_sem] theorem fd77_3 : fdT Tryz.prog 77 3 = some (3, 1, false) := rfl
@[go_sem] theorem fa77_4 : faT Tryz.prog 77 4 = some (4, 1) := rfl
@[go_sem] theorem fd77_4 : fdT Tryz.prog 77 4 = some (4, 1, false) := rfl
@[go_sem] theorem fa77_5 : faT Tryz.prog 77 5 = some (5, 1) := rfl
@[go_sem] theorem fd77_5 : fdT Tryz.prog 77 5 = some (5, 1, false) := rfl
attribute [go_sem] Tryz.underlying79
@[go_sem] theorem sz79 : szT Tryz.prog 79 = some 2 := rfl
@[go_sem] theorem ag79 : agT Tryz.prog 79 = some true := rfl
@[go_sem] theorem zc79 : zcT Tryz.prog 79 = some [.slice none 0 0, .int .i64 0] := rfl
@[go_sem] theorem bd79 : bdT Tryz.prog 79 = some ([.slice none 0 0, .int .i64 0], fun j => [(0, 1), (1, 1)][j]?) := rfl
@[go_sem] theorem fa79_0 : faT Tryz.prog 79 0 = some (0, 1) := rfl
@[go_sem] theorem fd79_0 : fdT Tryz.prog 79 0 = some (0, 1, false) := rfl
@[go_sem] theorem fa79_1 : faT Tryz.prog 79 1 = some (1, 1) := rfl
@[go_sem] theorem fd79_1 : fdT Tryz.prog 79 1 = some (1, 1, false) := rfl
attribute [go_sem] Tryz.underlying80
@[go_sem] theorem sz80 : szT Tryz.prog 80 = some 1 := rfl
@[go_sem] theorem ag80 : agT Tryz.prog 80 = some false := rfl
@[go_sem] theorem zc80 : zcT Tryz.prog 80 = some [.pointer none] := rfl
attribute [go_sem] Tryz.underlying81
@[go_sem] theorem sz81 : szT Tryz.prog 81 = some 1 := rfl
@[go_sem] theorem ag81 : agT Tryz.prog 81 = some false := rfl
@[go_sem] theorem zc81 : zcT Tryz.prog 81 = some [.pointer none] := rfl
attribute [go_sem] Tryz.underlying83
@[go_sem] theorem sz83 : szT Tryz.prog 83 = some 8 := rfl
@[go_sem] theorem ag83 : agT Tryz.prog 83 = some true := rfl
@[go_sem] theorem zc83 : zcT Tryz.prog 83 = some [.slice none 0 0, .int .i64 0, .pointer none, .pointer none, .int .u8 0, .bool false, .bool false, .int .u64 0] := rfl
@[go_sem] theorem bd83 : bdT Tryz.prog 83 = some ([.slice none 0 0, .int .i64 0, .pointer none, .pointer none, .int .u8 0, .bool false, .bool false, .int .u64 0], fun j => [(0, 2), (2, 1), (3, 1), (4, 1), (5, 1), (6, 1), (7, 1)][j]?) := rfl
@[go_sem] theorem fa83_0 : faT Tryz.prog 83 0 = some (0, 2) := rfl
@[go_sem] theorem fd83_0 : fdT Tryz.prog 83 0 = some (0, 2, true) := rfl
@[go_sem] theorem fa83_1 : faT Tryz.prog 83 1 = some (2, 1) := rfl
@[go_sem] theorem fd83_1 : fdT Tryz.prog 83 1 = some (2, 1, false) := rfl
@[go_sem] theorem fa83_2 : faT Tryz.prog 83 2 = some (3, 1) := rfl
@[go_sem] theorem fd83_2 : fdT Tryz.prog 83 2 = some (3, 1, false) := rfl
@[go_sem] theorem fa83_3 : faT Tryz.prog 83 3 = some (4, 1) := rfl
@[go_sem] theorem fd83_3 : fdT Tryz.prog 83 3 = some (4, 1, false) := rfl
@[go_sem] theorem fa83_4 : faT Tryz.prog 83 4 = some (5, 1) := rfl
@[go_sem] theorem fd83_4 : fdT Tryz.prog 83 4 = some (5, 1, false) := rfl
@[go_sem] theorem fa83_5 : faT Tryz.prog 83 5 = some (6, 1) := rfl
@[go_sem] theorem fd83_5 : fdT Tryz.prog 83 5 = some (6, 1, false) := rfl
@[go_sem] theorem fa83_6 : faT Tryz.prog 83 6 = some (7, 1) := rfl
@[go_sem] theorem fd83_6 : fdT Tryz.prog 83 6 = some (7, 1, false) := rfl
attribute [go_sem] Tryz.underlying84
@[go_sem] theorem sz84 : szT Tryz.prog 84 = some 1 := rfl
@[go_sem] theorem ag84 : agT Tryz.prog 84 = some false := rfl
@[go_sem] theorem zc84 : zcT Tryz.prog 84 = some [.nilFunc] := rfl
attribute [go_sem] Tryz.underlying86
@[go_sem] theorem sz86 : szT Tryz.prog 86 = some 1 := rfl
@[go_sem] theorem ag86 : agT Tryz.prog 86 = some false := rfl
attribute [go_sem] Tryz.underlying90
@[go_sem] theorem sz90 : szT Tryz.prog 90 = some 1 := rfl
@[go_sem] theorem ag90 : agT Tryz.prog 90 = some false := rfl
attribute [go_sem] Tryz.underlying92
@[go_sem] theorem sz92 : szT Tryz.prog 92 = some 1 := rfl
@[go_sem] theorem ag92 : agT Tryz.prog 92 = some false := rfl
@[go_sem] theorem zc92 : zcT Tryz.prog 92 = some [.slice none 0 0] := rfl
@[go_sem] theorem ia92 : iaT Tryz.prog 92 = some (none, 1) := rfl
@[go_sem] theorem el92 : elT Tryz.prog 92 = some (1, 8, [.int .u64 0]) := rfl
@[go_sem] theorem ap92 : apT Tryz.prog 92 92 = some (1, 8, 1) := rfl
attribute [go_sem] Tryz.underlying93
@[go_sem] theorem sz93 : szT Tryz.prog 93 = some 1 := rfl
@[go_sem] theorem ag93 : agT Tryz.prog 93 = some false := rfl
attribute [go_sem] Tryz.underlying95
@[go_sem] theorem sz95 : szT Tryz.prog 95 = some 1 := rfl
@[go_sem] theorem ag95 : agT Tryz.prog 95 = some false := rfl
@[go_sem] theorem zc95 : zcT Tryz.prog 95 = some [.nilFunc] := rfl
attribute [go_sem] Tryz.underlying120
@[go_sem] theorem sz120 : szT Tryz.prog 120 = some 1 := rfl
@[go_sem] theorem ag120 : agT Tryz.prog 120 = some false := rfl
@[go_sem] theorem zc120 : zcT Tryz.prog 120 = some [.slice none 0 0] := rfl
@[go_sem] theorem ia120 : iaT Tryz.prog 120 = some (none, 1) := rfl
@[go_sem] theorem el120 : elT Tryz.prog 120 = some (1, 8, [.int .u64 0]) := rfl
@[go_sem] theorem ap120 : apT Tryz.prog 120 120 = some (1, 8, 1) := rfl
attribute [go_sem] Tryz.underlying122
@[go_sem] theorem sz122 : szT Tryz.prog 122 = some 2 := rfl
@[go_sem] theorem ag122 : agT Tryz.prog 122 = some true := rfl
@[go_sem] theorem zc122 : zcT Tryz.prog 122 = some [.slice none 0 0, .slice none 0 0] := rfl
@[go_sem] theorem bd122 : bdT Tryz.prog 122 = some ([.slice none 0 0, .slice none 0 0], fun j => [(0, 1), (1, 1)][j]?) := rfl
@[go_sem] theorem fa122_0 : faT Tryz.prog 122 0 = some (0, 1) := rfl
@[go_sem] theorem fd122_0 : fdT Tryz.prog 122 0 = some (0, 1, false) := rfl
@[go_sem] theorem fa122_1 : faT Tryz.prog 122 1 = some (1, 1) := rfl
@[go_sem] theorem fd122_1 : fdT Tryz.prog 122 1 = some (1, 1, false) := rfl
attribute [go_sem] Tryz.underlying123
@[go_sem] theorem sz123 : szT Tryz.prog 123 = some 1 := rfl
@[go_sem] theorem ag123 : agT Tryz.prog 123 = some false := rfl
@[go_sem] theorem zc123 : zcT Tryz.prog 123 = some [.pointer none] := rfl
attribute [go_sem] Tryz.underlying125
@[go_sem] theorem sz125 : szT Tryz.prog 125 = some 1 := rfl
@[go_sem] theorem ag125 : agT Tryz.prog 125 = some false := rfl
@[go_sem] theorem zc125 : zcT Tryz.prog 125 = some [.nilFunc] := rfl
attribute [go_sem] Tryz.underlying127
@[go_sem] theorem sz127 : szT Tryz.prog 127 = some 1 := rfl
@[go_sem] theorem ag127 : agT Tryz.prog 127 = some false := rfl
attribute [go_sem] Tryz.underlying134
@[go_sem] theorem sz134 : szT Tryz.prog 134 = some 1 := rfl
@[go_sem] theorem ag134 : agT Tryz.prog 134 = some true := rfl
@[go_sem] theorem zc134 : zcT Tryz.prog 134 = some [.int .u64 0] := rfl
@[go_sem] theorem bd134 : bdT Tryz.prog 134 = some ([.int .u64 0], fun j => [(0, 0), (0, 0), (0, 1)][j]?) := rfl
@[go_sem] theorem fa134_0 : faT Tryz.prog 134 0 = some (0, 0) := rfl
@[go_sem] theorem fd134_0 : fdT Tryz.prog 134 0 = some (0, 0, true) := rfl
@[go_sem] theorem fa134_1 : faT Tryz.prog 134 1 = some (0, 0) := rfl
@[go_sem] theorem fd134_1 : fdT Tryz.prog 134 1 = some (0, 0, true) := rfl
@[go_sem] theorem fa134_2 : faT Tryz.prog 134 2 = some (0, 1) := rfl
@[go_sem] theorem fd134_2 : fdT Tryz.prog 134 2 = some (0, 1, false) := rfl
attribute [go_sem] Tryz.underlying135
@[go_sem] theorem sz135 : szT Tryz.prog 135 = some 1 := rfl
@[go_sem] theorem ag135 : agT Tryz.prog 135 = some false := rfl
@[go_sem] theorem zc135 : zcT Tryz.prog 135 = some [.nilFunc] := rfl
attribute [go_sem] Tryz.underlying137
@[go_sem] theorem sz137 : szT Tryz.prog 137 = some 1 := rfl
@[go_sem] theorem ag137 : agT Tryz.prog 137 = some false := rfl
@[go_sem] theorem zc137 : zcT Tryz.prog 137 = some [.nilIface] := rfl
attribute [go_sem] Tryz.underlying139
@[go_sem] theorem sz139 : szT Tryz.prog 139 = some 3 := rfl
@[go_sem] theorem ag139 : agT Tryz.prog 139 = some true := rfl
@[go_sem] theorem zc139 : zcT Tryz.prog 139 = some [.nilIface, .int .u8 0, .int .i64 0] := rfl
@[go_sem] theorem bd139 : bdT Tryz.prog 139 = some ([.nilIface, .int .u8 0, .int .i64 0], fun j => [(0, 1), (1, 1), (2, 1)][j]?) := rfl
@[go_sem] theorem fa139_0 : faT Tryz.prog 139 0 = some (0, 1) := rfl
@[go_sem] theorem fd139_0 : fdT Tryz.prog 139 0 = some (0, 1, false) := rfl
@[go_sem] theorem fa139_1 : faT Tryz.prog 139 1 = some (1, 1) := rfl
@[go_sem] theorem fd139_1 : fdT Tryz.prog 139 1 = some (1, 1, false) := rfl
@[go_sem] theorem fa139_2 : faT Tryz.prog 139 2 = some (2, 1) := rfl
@[go_sem] theorem fd139_2 : fdT Tryz.prog 139 2 = some (2, 1, false) := rfl
attribute [go_sem] Tryz.underlying140
@[go_sem] theorem sz140 : szT Tryz.prog 140 = some 1 := rfl
@[go_sem] theorem ag140 : agT Tryz.prog 140 = some false := rfl
@[go_sem] theorem zc140 : zcT Tryz.prog 140 = some [.pointer none] := rfl
attribute [go_sem] Tryz.underlying141
@[go_sem] theorem sz141 : szT Tryz.prog 141 = some 1 := rfl
@[go_sem] theorem ag141 : agT Tryz.prog 141 = some false := rfl
attribute [go_sem] Tryz.underlying144
@[go_sem] theorem sz144 : szT Tryz.prog 144 = some 1 := rfl
@[go_sem] theorem ag144 : agT Tryz.prog 144 = some false := rfl
@[go_sem] theorem zc144 : zcT Tryz.prog 144 = some [.nilIface] := rfl
attribute [go_sem] Tryz.underlying146
@[go_sem] theorem sz146 : szT Tryz.prog 146 = some 1 := rfl
@[go_sem] theorem ag146 : agT Tryz.prog 146 = some true := rfl
@[go_sem] theorem zc146 : zcT Tryz.prog 146 = some [.nilIface] := rfl
@[go_sem] theorem bd146 : bdT Tryz.prog 146 = some ([.nilIface], fun j => [(0, 1)][j]?) := rfl
@[go_sem] theorem fa146_0 : faT Tryz.prog 146 0 = some (0, 1) := rfl
@[go_sem] theorem fd146_0 : fdT Tryz.prog 146 0 = some (0, 1, false) := rfl
attribute [go_sem] Tryz.underlying147
@[go_sem] theorem sz147 : szT Tryz.prog 147 = some 1 := rfl
@[go_sem] theorem ag147 : agT Tryz.prog 147 = some false := rfl
@[go_sem] theorem zc147 : zcT Tryz.prog 147 = some [.pointer none] := rfl
attribute [go_sem] Tryz.underlying148
@[go_sem] theorem sz148 : szT Tryz.prog 148 = some 1 := rfl
@[go_sem] theorem ag148 : agT Tryz.prog 148 = some false := rfl
attribute [go_sem] Tryz.underlying151
@[go_sem] theorem sz151 : szT Tryz.prog 151 = some 1 := rfl
@[go_sem] theorem ag151 : agT Tryz.prog 151 = some false := rfl
@[go_sem] theorem zc151 : zcT Tryz.prog 151 = some [.nilIface] := rfl
attribute [go_sem] Tryz.underlying153
@[go_sem] theorem sz153 : szT Tryz.prog 153 = some 1 := rfl
@[go_sem] theorem ag153 : agT Tryz.prog 153 = some true := rfl
@[go_sem] theorem zc153 : zcT Tryz.prog 153 = some [.nilIface] := rfl
@[go_sem] theorem bd153 : bdT Tryz.prog 153 = some ([.nilIface], fun j => [(0, 1)][j]?) := rfl
@[go_sem] theorem fa153_0 : faT Tryz.prog 153 0 = some (0, 1) := rfl
@[go_sem] theorem fd153_0 : fdT Tryz.prog 153 0 = some (0, 1, false) := rfl
attribute [go_sem] Tryz.underlying154
@[go_sem] theorem sz154 : szT Tryz.prog 154 = some 1 := rfl
@[go_sem] theorem ag154 : agT Tryz.prog 154 = some false := rfl
@[go_sem] theorem zc154 : zcT Tryz.prog 154 = some [.pointer none] := rfl
attribute [go_sem] Tryz.underlying155
@[go_sem] theorem sz155 : szT Tryz.prog 155 = some 1 := rfl
@[go_sem] theorem ag155 : agT Tryz.prog 155 = some false := rfl
attribute [go_sem] Tryz.underlying158
@[go_sem] theorem sz158 : szT Tryz.prog 158 = some 1 := rfl
@[go_sem] theorem ag158 : agT Tryz.prog 158 = some false := rfl
@[go_sem] theorem zc158 : zcT Tryz.prog 158 = some [.nilIface] := rfl
attribute [go_sem] Tryz.underlying160
@[go_sem] theorem sz160 : szT Tryz.prog 160 = some 1 := rfl
@[go_sem] theorem ag160 : agT Tryz.prog 160 = some true := rfl
@[go_sem] theorem zc160 : zcT Tryz.prog 160 = some [.nilIface] := rfl
@[go_sem] theorem bd160 : bdT Tryz.prog 160 = some ([.nilIface], fun j => [(0, 1)][j]?) := rfl
@[go_sem] theorem fa160_0 : faT Tryz.prog 160 0 = some (0, 1) := rfl
@[go_sem] theorem fd160_0 : fdT Tryz.prog 160 0 = some (0, 1, false) := rfl
attribute [go_sem] Tryz.underlying161
@[go_sem] theorem sz161 : szT Tryz.prog 161 = some 1 := rfl
@[go_sem] theorem ag161 : agT Tryz.prog 161 = some false := rfl
attribute [go_sem] Tryz.underlying163
@[go_sem] theorem sz163 : szT Tryz.prog 163 = some 1 := rfl
@[go_sem] theorem ag163 : agT Tryz.prog 163 = some false := rfl
attribute [go_sem] Tryz.underlying173
@[go_sem] theorem sz173 : szT Tryz.prog 173 = some 1 := rfl
@[go_sem] theorem ag173 : agT Tryz.prog 173 = some false := rfl
@[go_sem] theorem zc173 : zcT Tryz.prog 173 = some [.nilIface] := rfl
attribute [go_sem] Tryz.underlying175
@[go_sem] theorem sz175 : szT Tryz.prog 175 = some 1 := rfl
@[go_sem] theorem ag175 : agT Tryz.prog 175 = some true := rfl
@[go_sem] theorem zc175 : zcT Tryz.prog 175 = some [.nilIface] := rfl
@[go_sem] theorem bd175 : bdT Tryz.prog 175 = some ([.nilIface], fun j => [(0, 1)][j]?) := rfl
@[go_sem] theorem fa175_0 : faT Tryz.prog 175 0 = some (0, 1) := rfl
@[go_sem] theorem fd175_0 : fdT Tryz.prog 175 0 = some (0, 1, false) := rfl
attribute [go_sem] Tryz.underlying176
@[go_sem] theorem sz176 : szT Tryz.prog 176 = some 1 := rfl
@[go_sem] theorem ag176 : agT Tryz.prog 176 = some true := rfl
@[go_sem] theorem zc176 : zcT Tryz.prog 176 = some [.nilIface] := rfl
@[go_sem] theorem bd176 : bdT Tryz.prog 176 = some ([.nilIface], fun j => [(0, 1)][j]?) := rfl
@[go_sem] theorem fa176_0 : faT Tryz.prog 176 0 = some (0, 1) := rfl
@[go_sem] theorem fd176_0 : fdT Tryz.prog 176 0 = some (0, 1, false) := rfl
attribute [go_sem] Tryz.underlying178
@[go_sem] theorem sz178 : szT Tryz.prog 178 = some 1 := rfl
@[go_sem] theorem ag178 : agT Tryz.prog 178 = some false := rfl
@[go_sem] theorem zc178 : zcT Tryz.prog 178 = some [.pointer none] := rfl
attribute [go_sem] Tryz.underlying181
@[go_sem] theorem sz181 : szT Tryz.prog 181 = some 1 := rfl
@[go_sem] theorem ag181 : agT Tryz.prog 181 = some false := rfl
attribute [go_sem] Tryz.underlying183
@[go_sem] theorem sz183 : szT Tryz.prog 183 = some 1 := rfl
@[go_sem] theorem ag183 : agT Tryz.prog 183 = some false := rfl
@[go_sem] theorem zc183 : zcT Tryz.prog 183 = some [.slice none 0 0] := rfl
@[go_sem] theorem ia183 : iaT Tryz.prog 183 = some (none, 1) := rfl
@[go_sem] theorem el183 : elT Tryz.prog 183 = some (1, 1, [.bool false]) := rfl
@[go_sem] theorem ap183 : apT Tryz.prog 183 183 = some (1, 1, 1) := rfl
attribute [go_sem] Tryz.underlying185
@[go_sem] theorem sz185 : szT Tryz.prog 185 = some 4 := rfl
@[go_sem] theorem ag185 : agT Tryz.prog 185 = some true := rfl
@[go_sem] theorem zc185 : zcT Tryz.prog 185 = some [.pointer none, .int .i64 0, .slice none 0 0, .slice none 0 0] := rfl
@[go_sem] theorem bd185 : bdT Tryz.prog 185 = some ([.pointer none, .int .i64 0, .slice none 0 0, .slice none 0 0], fun j => [(0, 1), (1, 1), (2, 1), (3, 1)][j]?) := rfl
@[go_sem] theorem fa185_0 : faT Tryz.prog 185 0 = some (0, 1) := rfl
@[go_sem] theorem fd185_0 : fdT Tryz.prog 185 0 = some (0, 1, false) := rfl
@[go_sem] theorem fa185_1 : faT Tryz.prog 185 1 = some (1, 1) := rfl
@[go_sem] theorem fd185_1 : fdT Tryz.prog 185 1 = some (1, 1, false) := rfl
@[go_sem] theorem fa185_2 : faT Tryz.prog 185 2 = some (2, 1) := rfl
@[go_sem] theorem fd185_2 : fdT Tryz.prog 185 2 = some (2, 1, false) := rfl
@[go_sem] theorem fa185_3 : faT Tryz.prog 185 3 = some (3, 1) := rfl
@[go_sem] theorem fd185_3 : fdT Tryz.prog 185 3 = some (3, 1, false) := rfl
attribute [go_sem] Tryz.underlying186
@[go_sem] theorem sz186 : szT Tryz.prog 186 = some 1 := rfl
@[go_sem] theorem ag186 : agT Tryz.prog 186 = some false := rfl
@[go_sem] theorem zc186 : zcT Tryz.prog 186 = some [.slice none 0 0] := rfl
@[go_sem] theorem ia186 : iaT Tryz.prog 186 = some (none, 2) := rfl
@[go_sem] theorem el186 : elT Tryz.prog 186 = some (2, 16, [.int .u64 0, .bool false]) := rfl
@[go_sem] theorem ap186 : apT Tryz.prog 186 186 = some (2, 16, 2) := rfl
attribute [go_sem] Tryz.underlying187
@[go_sem] theorem sz187 : szT Tryz.prog 187 = some 1 := rfl
@[go_sem] theorem ag187 : agT Tryz.prog 187 = some false := rfl
@[go_sem] theorem zc187 : zcT Tryz.prog 187 = some [.nilFunc] := rfl
attribute [go_sem] Tryz.underlying189
@[go_sem] theorem sz189 : szT Tryz.prog 189 = some 3 := rfl
@[go_sem] theorem ag189 : agT Tryz.prog 189 = some true := rfl
@[go_sem] theorem zc189 : zcT Tryz.prog 189 = some [.pointer none, .slice none 0 0, .nilFunc] := rfl
@[go_sem] theorem bd189 : bdT Tryz.prog 189 = some ([.pointer none, .slice none 0 0, .nilFunc], fun j => [(0, 1), (1, 1), (2, 1)][j]?) := rfl
@[go_sem] theorem fa189_0 : faT Tryz.prog 189 0 = some (0, 1) := rfl
@[go_sem] theorem fd189_0 : fdT Tryz.prog 189 0 = some (0, 1, false) := rfl
@[go_sem] theorem fa189_1 : faT Tryz.prog 189 1 = some (1, 1) := rfl
@[go_sem] theorem fd189_1 : fdT Tryz.prog 189 1 = some (1, 1, false) := rfl
@[go_sem] theorem fa189_2 : faT Tryz.prog 189 2 = some (2, 1) := rfl
@[go_sem] theorem fd189_2 : fdT Tryz.prog 189 2 = some (2, 1, false) := rfl
attribute [go_sem] Tryz.underlying190
@[go_sem] theorem sz190 : szT Tryz.prog 190 = some 1 := rfl
@[go_sem] theorem ag190 : agT Tryz.prog 190 = some false := rfl
@[go_sem] theorem zc190 : zcT Tryz.prog 190 = some [.map none] := rfl
attribute [go_sem] Tryz.underlying192
@[go_sem] theorem sz192 : szT Tryz.prog 192 = some 4 := rfl
@[go_sem] theorem ag192 : agT Tryz.prog 192 = some true := rfl
@[go_sem] theorem zc192 : zcT Tryz.prog 192 = some [.pointer none, .int .i64 0, .int .i64 0, .map none] := rfl
@[go_sem] theorem bd192 : bdT Tryz.prog 192 = some ([.pointer none, .int .i64 0, .int .i64 0, .map none], fun j => [(0, 1), (1, 1), (2, 1), (3, 1)][j]?) := rfl
@[go_sem] theorem fa192_0 : faT Tryz.prog 192 0 = some (0, 1) := rfl
@[go_sem] theorem fd192_0 : fdT Tryz.prog 192 0 = some (0, 1, false) := rfl
@[go_sem] theorem fa192_1 : faT Tryz.prog 192 1 = some (1, 1) := rfl
@[go_sem] theorem fd192_1 : fdT Tryz.prog 192 1 = some (1, 1, false) := rfl
@[go_sem] theorem fa192_2 : faT Tryz.prog 192 2 = some (2, 1) := rfl
@[go_sem] theorem fd192_2 : fdT Tryz.prog 192 2 = some (2, 1, false) := rfl
@[go_sem] theorem fa192_3 : faT Tryz.prog 192 3 = some (3, 1) := rfl
@[go_sem] theorem fd192_3 : fdT Tryz.prog 192 3 = some (3, 1, false) := rfl
attribute [go_sem] Tryz.underlying193
@[go_sem] theorem sz193 : szT Tryz.prog 193 = some 1 := rfl
@[go_sem] theorem ag193 : agT Tryz.prog 193 = some false := rfl
attribute [go_sem] Tryz.underlying209
@[go_sem] theorem sz209 : szT Tryz.prog 209 = some 1 := rfl
@[go_sem] theorem ag209 : agT Tryz.prog 209 = some false := rfl
@[go_sem] theorem zc209 : zcT Tryz.prog 209 = some [.nilFunc] := rfl
attribute [go_sem] Tryz.underlying210
@[go_sem] theorem sz210 : szT Tryz.prog 210 = some 1 := rfl
@[go_sem] theorem ag210 : agT Tryz.prog 210 = some false := rfl
@[go_sem] theorem zc210 : zcT Tryz.prog 210 = some [.nilFunc] := rfl
attribute [go_sem] Tryz.underlying216
@[go_sem] theorem sz216 : szT Tryz.prog 216 = some 1 := rfl
@[go_sem] theorem ag216 : agT Tryz.prog 216 = some false := rfl
@[go_sem] theorem zc216 : zcT Tryz.prog 216 = some [.nilFunc] := rfl
attribute [go_sem] Tryz.underlying258
@[go_sem] theorem sz258 : szT Tryz.prog 258 = some 1 := rfl
@[go_sem] theorem ag258 : agT Tryz.prog 258 = some false := rfl
@[go_sem] theorem zc258 : zcT Tryz.prog 258 = some [.pointer none] := rfl
attribute [go_sem] Tryz.underlying260
@[go_sem] theorem sz260 : szT Tryz.prog 260 = some 4 := rfl
@[go_sem] theorem ag260 : agT Tryz.prog 260 = some true := rfl
@[go_sem] theorem zc260 : zcT Tryz.prog 260 = some [.pointer none, .int .i64 0, .int .i64 0, .nilFunc] := rfl
@[go_sem] theorem bd260 : bdT Tryz.prog 260 = some ([.pointer none, .int .i64 0, .int .i64 0, .nilFunc], fun j => [(0, 1), (1, 1), (2, 1), (3, 1)][j]?) := rfl
@[go_sem] theorem fa260_0 : faT Tryz.prog 260 0 = some (0, 1) := rfl
@[go_sem] theorem fd260_0 : fdT Tryz.prog 260 0 = some (0, 1, false) := rfl
@[go_sem] theorem fa260_1 : faT Tryz.prog 260 1 = some (1, 1) := rfl
@[go_sem] theorem fd260_1 : fdT Tryz.prog 260 1 = some (1, 1, false) := rfl
@[go_sem] theorem fa260_2 : faT Tryz.prog 260 2 = some (2, 1) := rfl
@[go_sem] theorem fd260_2 : fdT Tryz.prog 260 2 = some (2, 1, false) := rfl
@[go_sem] theorem fa260_3 : faT Tryz.prog 260 3 = some (3, 1) := rfl
@[go_sem] theorem fd260_3 : fdT Tryz.prog 260 3 = some (3, 1, false) := rfl
attribute [go_sem] Tryz.underlying261
@[go_sem] theorem sz261 : szT Tryz.prog 261 = some 1 := rfl
@[go_sem] theorem ag261 : agT Tryz.prog 261 = some false := rfl
@[go_sem] theorem zc261 : zcT Tryz.prog 261 = some [.pointer none] := rfl
attribute [go_sem] Tryz.underlying263
@[go_sem] theorem sz263 : szT Tryz.prog 263 = some 5 := rfl
@[go_sem] theorem ag263 : agT Tryz.prog 263 = some true := rfl
@[go_sem] theorem zc263 : zcT Tryz.prog 263 = some [.pointer none, .int .i64 0, .int .i64 0, .nilFunc, .int .u64 0] := rfl
@[go_sem] theorem bd263 : bdT Tryz.prog 263 = some ([.pointer none, .int .i64 0, .int .i64 0, .nilFunc, .int .u64 0], fun j => [(0, 1), (1, 1), (2, 1), (3, 1), (4, 1)][j]?) := rfl
@[go_sem] theorem fa263_0 : faT Tryz.prog 263 0 = some (0, 1) := rfl
@[go_sem] theorem fd263_0 : fdT Tryz.prog 263 0 = some (0, 1, false) := rfl
@[go_sem] theorem fa263_1 : faT Tryz.prog 263 1 = some (1, 1) := rfl
@[go_sem] theorem fd263_1 : fdT Tryz.prog 263 1 = some (1, 1, false) := rfl
@[go_sem] theorem fa263_2 : faT Tryz.prog 263 2 = some (2, 1) := rfl
@[go_sem] theorem fd263_2 : fdT Tryz.prog 263 2 = some (2, 1, false) := rfl
@[go_sem] theorem fa263_3 : faT Tryz.prog 263 3 = some (3, 1) := rfl
@[go_sem] theorem fd263_3 : fdT Tryz.prog 263 3 = some (3, 1, false) := rfl
@[go_sem] theorem fa263_4 : faT Tryz.prog 263 4 = some (4, 1) := rfl
@[go_sem] theorem fd263_4 : fdT Tryz.prog 263 4 = some (4, 1, false) := rfl
attribute [go_sem] Tryz.underlying269
@[go_sem] theorem sz269 : szT Tryz.prog 269 = some 1 := rfl
@[go_sem] theorem ag269 : agT Tryz.prog 269 = some false := rfl
attribute [go_sem] Tryz.underlying271
@[go_sem] theorem sz271 : szT Tryz.prog 271 = some 1 := rfl
@[go_sem] theorem ag271 : agT Tryz.prog 271 = some false := rfl
attribute [go_sem] Tryz.underlying274
@[go_sem] theorem sz274 : szT Tryz.prog 274 = some 1 := rfl
@[go_sem] theorem ag274 : agT Tryz.prog 274 = some false := rfl
@[go_sem] theorem zc274 : zcT Tryz.prog 274 = some [.pointer none] := rfl
attribute [go_sem] Tryz.underlying275
@[go_sem] theorem sz275 : szT Tryz.prog 275 = some 1 := rfl
@[go_sem] theorem ag275 : agT Tryz.prog 275 = some false := rfl
@[go_sem] theorem zc275 : zcT Tryz.prog 275 = some [.pointer none] := rfl
attribute [go_sem] Tryz.underlying276
@[go_sem] theorem sz276 : szT Tryz.prog 276 = some 1 := rfl
@[go_sem] theorem ag276 : agT Tryz.prog 276 = some false := rfl
attribute [go_sem] Tryz.underlying279
@[go_sem] theorem sz279 : szT Tryz.prog 279 = some 2 := rfl
@[go_sem] theorem ag279 : agT Tryz.prog 279 = some true := rfl
@[go_sem] theorem zc279 : zcT Tryz.prog 279 = some [.int .u64 0, .bool false] := rfl
@[go_sem] theorem bd279 : bdT Tryz.prog 279 = some ([.int .u64 0, .bool false], fun j => [(0, 1), (1, 1)][j]?) := rfl
@[go_sem] theorem fa279_0 : faT Tryz.prog 279 0 = some (0, 1) := rfl
@[go_sem] theorem fd279_0 : fdT Tryz.prog 279 0 = some (0, 1, false) := rfl
@[go_sem] theorem fa279_1 : faT Tryz.prog 279 1 = some (1, 1) := rfl
@[go_sem] theorem fd279_1 : fdT Tryz.prog 279 1 = some (1, 1, false) := rfl
attribute [go_sem] Tryz.underlying281
@[go_sem] theorem sz281 : szT Tryz.prog 281 = some 5 := rfl
@[go_sem] theorem ag281 : agT Tryz.prog 281 = some true := rfl
@[go_sem] theorem zc281 : zcT Tryz.prog 281 = some [.pointer none, .int .i64 0, .int .i64 0, .int .i64 0, .int .i64 0] := rfl
@[go_sem] theorem bd281 : bdT Tryz.prog 281 = some ([.pointer none, .int .i64 0, .int .i64 0, .int .i64 0, .int .i64 0], fun j => [(0, 1), (1, 1), (2, 1), (3, 1), (4, 1)][j]?) := rfl
@[go_sem] theorem fa281_0 : faT Tryz.prog 281 0 = some (0, 1) := rfl
@[go_sem] theorem fd281_0 : fdT Tryz.prog 281 0 = some (0, 1, false) := rfl
@[go_sem] theorem fa281_1 : faT Tryz.prog 281 1 = some (1, 1) := rfl
@[go_sem] theorem fd281_1 : fdT Tryz.prog 281 1 = some (1, 1, false) := rfl
@[go_sem] theorem fa281_2 : faT Tryz.prog 281 2 = some (2, 1) := rfl
@[go_sem] theorem fd281_2 : fdT Tryz.prog 281 2 = some (2, 1, false) := rfl
@[go_sem] theorem fa281_3 : faT Tryz.prog 281 3 = some (3, 1) := rfl
@[go_sem] theorem fd281_3 : fdT Tryz.prog 281 3 = some (3, 1, false) := rfl
@[go_sem] theorem fa281_4 : faT Tryz.prog 281 4 = some (4, 1) := rfl
@[go_sem] theorem fd281_4 : fdT Tryz.prog 281 4 = some (4, 1, false) := rfl
attribute [go_sem] Tryz.underlying282
@[go_sem] theorem sz282 : szT Tryz.prog 282 = some 1 := rfl
@[go_sem] theorem ag282 : agT Tryz.prog 282 = some false := rfl
@[go_sem] theorem zc282 : zcT Tryz.prog 282 = some [.pointer none] := rfl
attribute [go_sem] Tryz.underlying284
@[go_sem] theorem sz284 : szT Tryz.prog 284 = some 6 := rfl
@[go_sem] theorem ag284 : agT Tryz.prog 284 = some true := rfl
@[go_sem] theorem zc284 : zcT Tryz.prog 284 = some [.pointer none, .int .i64 0, .int .u64 0, .int .i64 0, .int .u64 0, .int .i64 0] := rfl
@[go_sem] theorem bd284 : bdT Tryz.prog 284 = some ([.pointer none, .int .i64 0, .int .u64 0, .int .i64 0, .int .u64 0, .int .i64 0], fun j => [(0, 1), (1, 1), (2, 1), (3, 1), (4, 1), (5, 1)][j]?) := rfl
@[go_sem] theorem fa284_0 : faT Tryz.prog 284 0 = some (0, 1) := rfl
@[go_sem] theorem fd284_0 : fdT Tryz.prog 284 0 = some (0, 1, false) := rfl
@[go_sem] theorem fa284_1 : faT Tryz.prog 284 1 = some (1, 1) := rfl
@[go_sem] theorem fd284_1 : fdT Tryz.prog 284 1 = some (1, 1, false) := rfl
@[go_sem] theorem fa284_2 : faT Tryz.prog 284 2 = some (2, 1) := rfl
@[go_sem] theorem fd284_2 : fdT Tryz.prog 284 2 = some (2, 1, false) := rfl
@[go_sem] theorem fa284_3 : faT Tryz.prog 284 3 = some (3, 1) := rfl
@[go_sem] theorem fd284_3 : fdT Tryz.prog 284 3 = some (3, 1, false) := rfl
@[go_sem] theorem fa284_4 : faT Tryz.prog 284 4 = some (4, 1) := rfl
@[go_sem] theorem fd284_4 : fdT Tryz.prog 284 4 = some (4, 1, false) := rfl
@[go_sem] theorem fa284_5 : faT Tryz.prog 284 5 = some (5, 1) := rfl
@[go_sem] theorem fd284_5 : fdT Tryz.prog 284 5 = some (5, 1, false) := rfl
attribute [go_sem] Tryz.underlying286
@[go_sem] theorem sz286 : szT Tryz.prog 286 = some 1 := rfl
@[go_sem] theorem ag286 : agT Tryz.prog 286 = some false := rfl
attribute [go_sem] Tryz.underlying288
@[go_sem] theorem sz288 : szT Tryz.prog 288 = some 1 := rfl
@[go_sem] theorem ag288 : agT Tryz.prog 288 = some false := rfl
attribute [go_sem] Tryz.underlying291
@[go_sem] theorem sz291 : szT Tryz.prog 291 = some 1 := rfl
@[go_sem] theorem ag291 : agT Tryz.prog 291 = some false := rfl
@[go_sem] theorem zc291 : zcT Tryz.prog 291 = some [.pointer none] := rfl
attribute [go_sem] Tryz.underlying292
@[go_sem] theorem sz292 : szT Tryz.prog 292 = some 1 := rfl
@[go_sem] theorem ag292 : agT Tryz.prog 292 = some false := rfl
@[go_sem] theorem zc292 : zcT Tryz.prog 292 = some [.pointer none] := rfl
attribute [go_sem] Tryz.underlying293
@[go_sem] theorem sz293 : szT Tryz.prog 293 = some 1 := rfl
@[go_sem] theorem ag293 : agT Tryz.prog 293 = some false := rfl
attribute [go_sem] Tryz.underlying295
@[go_sem] theorem sz295 : szT Tryz.prog 295 = some 2 := rfl
@[go_sem] theorem ag295 : agT Tryz.prog 295 = some true := rfl
@[go_sem] theorem zc295 : zcT Tryz.prog 295 = some [.int .i64 0, .bool false] := rfl
@[go_sem] theorem bd295 : bdT Tryz.prog 295 = some ([.int .i64 0, .bool false], fun j => [(0, 1), (1, 1)][j]?) := rfl
@[go_sem] theorem fa295_0 : faT Tryz.prog 295 0 = some (0, 1) := rfl
@[go_sem] theorem fd295_0 : fdT Tryz.prog 295 0 = some (0, 1, false) := rfl
@[go_sem] theorem fa295_1 : faT Tryz.prog 295 1 = some (1, 1) := rfl
@[go_sem] theorem fd295_1 : fdT Tryz.prog 295 1 = some (1, 1, false) := rfl
attribute [go_sem] Tryz.underlying296
@[go_sem] theorem sz296 : szT Tryz.prog 296 = some 4 := rfl
@[go_sem] theorem ag296 : agT Tryz.prog 296 = some true := rfl
@[go_sem] theorem zc296 : zcT Tryz.prog 296 = some [.int .i64 0, .int .i64 0, .int .i64 0, .int .i64 0] := rfl
@[go_sem] theorem bd296 : bdT Tryz.prog 296 = some ([.int .i64 0, .int .i64 0, .int .i64 0, .int .i64 0], fun j => some (j * 1, 1)) := rfl
@[go_sem] theorem ia296 : iaT Tryz.prog 296 = some (some 4, 1) := rfl
@[go_sem] theorem ix296 : ixT Tryz.prog 296 = some (4, 1, false) := rfl
attribute [go_sem] Tryz.underlying299
@[go_sem] theorem sz299 : szT Tryz.prog 299 = some 7 := rfl
@[go_sem] theorem ag299 : agT Tryz.prog 299 = some true := rfl
@[go_sem] theorem zc299 : zcT Tryz.prog 299 = some [.pointer none, .int .i64 0, .int .i64 0, .int .i64 0, .int .i64 0, .int .i64 0, .pointer none] := rfl
@[go_sem] theorem bd299 : bdT Tryz.prog 299 = some ([.pointer none, .int .i64 0, .int .i64 0, .int .i64 0, .int .i64 0, .int .i64 0, .pointer none], fun j => [(0, 1), (1, 1), (2, 4), (6, 1)][j]?) := rfl
@[go_sem] theorem fa299_0 : faT Tryz.prog 299 0 = some (0, 1) := rfl
@[go_sem] theorem fd299_0 : fdT Tryz.prog 299 0 = some (0, 1, false) := rfl
@[go_sem] theorem fa299_1 : faT Tryz.prog 299 1 = some (1, 1) := rfl
@[go_sem] theorem fd299_1 : fdT Tryz.prog 299 1 = some (1, 1, false) := rfl
@[go_sem] theorem fa299_2 : faT Tryz.prog 299 2 = some (2, 4) := rfl
@[go_sem] theorem fd299_2 : fdT Tryz.prog 299 2 = some (2, 4, true) := rfl
@[go_sem] theorem fa299_3 : faT Tryz.prog 299 3 = some (6, 1) := rfl
@[go_sem] theorem fd299_3 : fdT Tryz.prog 299 3 = some (6, 1, false) := rfl
attribute [go_sem] Tryz.underlying300
@[go_sem] theorem sz300 : szT Tryz.prog 300 = some 1 := rfl
@[go_sem] theorem ag300 : agT Tryz.prog 300 = some false := rfl
attribute [go_sem] Tryz.underlying302
@[go_sem] theorem sz302 : szT Tryz.prog 302 = some 1 := rfl
@[go_sem] theorem ag302 : agT Tryz.prog 302 = some false := rfl
@[go_sem] theorem zc302 : zcT Tryz.prog 302 = some [.pointer none] := rfl
attribute [go_sem] Tryz.underlying303
@[go_sem] theorem sz303 : szT Tryz.prog 303 = some 1 := rfl
@[go_sem] theorem ag303 : agT Tryz.prog 303 = some false := rfl
@[go_sem] theorem zc303 : zcT Tryz.prog 303 = some [.pointer none] := rfl
attribute [go_sem] Tryz.underlying304
@[go_sem] theorem sz304 : szT Tryz.prog 304 = some 1 := rfl
@[go_sem] theorem ag304 : agT Tryz.prog 304 = some false := rfl
@[go_sem] theorem zc304 : zcT Tryz.prog 304 = some [.nilFunc] := rfl
attribute [go_sem] Tryz.underlying306
@[go_sem] theorem sz306 : szT Tryz.prog 306 = some 2 := rfl
@[go_sem] theorem ag306 : agT Tryz.prog 306 = some true := rfl
@[go_sem] theorem zc306 : zcT Tryz.prog 306 = some [.int .u8 0, .nilFunc] := rfl
@[go_sem] theorem bd306 : bdT Tryz.prog 306 = some ([.int .u8 0, .nilFunc], fun j => [(0, 1), (1, 1)][j]?) := rfl
@[go_sem] theorem fa306_0 : faT Tryz.prog 306 0 = some (0, 1) := rfl
@[go_sem] theorem fd306_0 : fdT Tryz.prog 306 0 = some (0, 1, false) := rfl
@[go_sem] theorem fa306_1 : faT Tryz.prog 306 1 = some (1, 1) := rfl
@[go_sem] theorem fd306_1 : fdT Tryz.prog 306 1 = some (1, 1, false) := rfl
attribute [go_sem] Tryz.underlying308
@[go_sem] theorem sz308 : szT Tryz.prog 308 = some 7 := rfl
@[go_sem] theorem ag308 : agT Tryz.prog 308 = some true := rfl
@[go_sem] theorem zc308 : zcT Tryz.prog 308 = some [.pointer none, .int .i64 0, .slice none 0 0, .pointer none, .int .u64 0, .int .u8 0, .nilFunc] := rfl
@[go_sem] theorem bd308 : bdT Tryz.prog 308 = some ([.pointer none, .int .i64 0, .slice none 0 0, .pointer none, .int .u64 0, .int .u8 0, .nilFunc], fun j => [(0, 1), (1, 1), (2, 1), (3, 1), (4, 1), (5, 2)][j]?) := rfl
@[go_sem] theorem fa308_0 : faT Tryz.prog 308 0 = some (0, 1) := rfl
@[go_sem] theorem fd308_0 : fdT Tryz.prog 308 0 = some (0, 1, false) := rfl
@[go_sem] theorem fa308_1 : faT Tryz.prog 308 1 = some (1, 1) := rfl
@[go_sem] theorem fd308_1 : fdT Tryz.prog 308 1 = some (1, 1, false) := rfl
@[go_sem] theorem fa308_2 : faT Tryz.prog 308 2 = some (2, 1) := rfl
@[go_sem] theorem fd308_2 : fdT Tryz.prog 308 2 = some (2, 1, false) := rfl
@[go_sem] theorem fa308_3 : faT Tryz.prog 308 3 = some (3, 1) := rfl
@[go_sem] theorem fd308_3 : fdT Tryz.prog 308 3 = some (3, 1, false) := rfl
@[go_sem] theorem fa308_4 : faT Tryz.prog 308 4 = some (4, 1) := rfl
@[go_sem] theorem fd308_4 : fdT Tryz.prog 308 4 = some (4, 1, false) := rfl
@[go_sem] theorem fa308_5 : faT Tryz.prog 308 5 = some (5, 2) := rfl
@[go_sem] theorem fd308_5 : fdT Tryz.prog 308 5 = some (5, 2, true) := rfl
attribute [go_sem] Tryz.underlying310
@[go_sem] theorem sz310 : szT Tryz.prog 310 = some 1 := rfl
@[go_sem] theorem ag310 : agT Tryz.prog 310 = some false := rfl
attribute [go_sem] Tryz.underlying315
@[go_sem] theorem sz315 : szT Tryz.prog 315 = some 2 := rfl
@[go_sem] theorem ag315 : agT Tryz.prog 315 = some true := rfl
@[go_sem] theorem zc315 : zcT Tryz.prog 315 = some [.int .i64 0, .int .i64 0] := rfl
@[go_sem] theorem bd315 : bdT Tryz.prog 315 = some ([.int .i64 0, .int .i64 0], fun j => [(0, 1), (1, 1)][j]?) := rfl
@[go_sem] theorem fa315_0 : faT Tryz.prog 315 0 = some (0, 1) := rfl
@[go_sem] theorem fd315_0 : fdT Tryz.prog 315 0 = some (0, 1, false) := rfl
@[go_sem] theorem fa315_1 : faT Tryz.prog 315 1 = some (1, 1) := rfl
@[go_sem] theorem fd315_1 : fdT Tryz.prog 315 1 = some (1, 1, false) := rfl
attribute [go_sem] Tryz.underlying317
@[go_sem] theorem sz317 : szT Tryz.prog 317 = some 7 := rfl
@[go_sem] theorem ag317 : agT Tryz.prog 317 = some true := rfl
@[go_sem] theorem zc317 : zcT Tryz.prog 317 = some [.int .i64 0, .int .i64 0, .pointer none, .int .i64 0, .int .i64 0, .nilFunc, .int .i64 0] := rfl
@[go_sem] theorem bd317 : bdT Tryz.prog 317 = some ([.int .i64 0, .int .i64 0, .pointer none, .int .i64 0, .int .i64 0, .nilFunc, .int .i64 0], fun j => [(0, 2), (2, 1), (3, 1), (4, 1), (5, 1), (6, 1)][j]?) := rfl
@[go_sem] theorem fa317_0 : faT Tryz.prog 317 0 = some (0, 2) := rfl
@[go_sem] theorem fd317_0 : fdT Tryz.prog 317 0 = some (0, 2, true) := rfl
@[go_sem] theorem fa317_1 : faT Tryz.prog 317 1 = some (2, 1) := rfl
@[go_sem] theorem fd317_1 : fdT Tryz.prog 317 1 = some (2, 1, false) := rfl
@[go_sem] theorem fa317_2 : faT Tryz.prog 317 2 = some (3, 1) := rfl
@[go_sem] theorem fd317_2 : fdT Tryz.prog 317 2 = some (3, 1, false) := rfl
@[go_sem] theorem fa317_3 : faT Tryz.prog 317 3 = some (4, 1) := rfl
@[go_sem] theorem fd317_3 : fdT Tryz.prog 317 3 = some (4, 1, false) := rfl
@[go_sem] theorem fa317_4 : faT Tryz.prog 317 4 = some (5, 1) := rfl
@[go_sem] theorem fd317_4 : fdT Tryz.prog 317 4 = some (5, 1, false) := rfl
@[go_sem] theorem fa317_5 : faT Tryz.prog 317 5 = some (6, 1) := rfl
@[go_sem] theorem fd317_5 : fdT Tryz.prog 317 5 = some (6, 1, false) := rfl
attribute [go_sem] Tryz.underlying321
@[go_sem] theorem sz321 : szT Tryz.prog 321 = some 1 := rfl
@[go_sem] theorem ag321 : agT Tryz.prog 321 = some false := rfl
@[go_sem] theorem zc321 : zcT Tryz.prog 321 = some [.pointer none] := rfl
attribute [go_sem] Tryz.underlying325
@[go_sem] theorem sz325 : szT Tryz.prog 325 = some 1 := rfl
@[go_sem] theorem ag325 : agT Tryz.prog 325 = some false := rfl
attribute [go_sem] Tryz.underlying327
@[go_sem] theorem sz327 : szT Tryz.prog 327 = some 1 := rfl
@[go_sem] theorem ag327 : agT Tryz.prog 327 = some false := rfl
attribute [go_sem] Tryz.underlying329
@[go_sem] theorem sz329 : szT Tryz.prog 329 = some 3 := rfl
@[go_sem] theorem ag329 : agT Tryz.prog 329 = some true := rfl
@[go_sem] theorem zc329 : zcT Tryz.prog 329 = some [.int .u8 0, .int .u8 0, .int .u8 0] := rfl
@[go_sem] theorem bd329 : bdT Tryz.prog 329 = some ([.int .u8 0, .int .u8 0, .int .u8 0], fun j => some (j * 1, 1)) := rfl
@[go_sem] theorem ia329 : iaT Tryz.prog 329 = some (some 3, 1) := rfl
@[go_sem] theorem ix329 : ixT Tryz.prog 329 = some (3, 1, false) := rfl
attribute [go_sem] Tryz.underlying330
@[go_sem] theorem sz330 : szT Tryz.prog 330 = some 1 := rfl
@[go_sem] theorem ag330 : agT Tryz.prog 330 = some false := rfl
@[go_sem] theorem zc330 : zcT Tryz.prog 330 = some [.nilFunc] := rfl
attribute [go_sem] Tryz.underlying331
@[go_sem] theorem sz331 : szT Tryz.prog 331 = some 2 := rfl
@[go_sem] theorem ag331 : agT Tryz.prog 331 = some true := rfl
@[go_sem] theorem zc331 : zcT Tryz.prog 331 = some [.nilFunc, .nilFunc] := rfl
@[go_sem] theorem bd331 : bdT Tryz.prog 331 = some ([.nilFunc, .nilFunc], fun j => some (j * 1, 1)) := rfl
@[go_sem] theorem ia331 : iaT Tryz.prog 331 = some (some 2, 1) := rfl
@[go_sem] theorem ix331 : ixT Tryz.prog 331 = some (2, 1, false) := rfl
attribute [go_sem] Tryz.underlying333
@[go_sem] theorem sz333 : szT Tryz.prog 333 = some 4 := rfl
@[go_sem] theorem ag333 : agT Tryz.prog 333 = some true := rfl
@[go_sem] theorem zc333 : zcT Tryz.prog 333 = some [.int .u8 0, .int .u8 0, .int .u8 0, .int .u8 0] := rfl
@[go_sem] theorem bd333 : bdT Tryz.prog 333 = some ([.int .u8 0, .int .u8 0, .int .u8 0, .int .u8 0], fun j => some (j * 1, 1)) := rfl
@[go_sem] theorem ia333 : iaT Tryz.prog 333 = some (some 4, 1) := rfl
@[go_sem] theorem ix333 : ixT Tryz.prog 333 = some (4, 1, false) := rfl
attribute [go_sem] Tryz.underlying334
@[go_sem] theorem sz334 : szT Tryz.prog 334 = some 1 := rfl
@[go_sem] theorem ag334 : agT Tryz.prog 334 = some false := rfl
@[go_sem] theorem zc334 : zcT Tryz.prog 334 = some [.nilFunc] := rfl
attribute [go_sem] Tryz.underlying335
@[go_sem] theorem sz335 : szT Tryz.prog 335 = some 3 := rfl
@[go_sem] theorem ag335 : agT Tryz.prog 335 = some true := rfl
@[go_sem] theorem zc335 : zcT Tryz.prog 335 = some [.nilFunc, .nilFunc, .nilFunc] := rfl
@[go_sem] theorem bd335 : bdT Tryz.prog 335 = some ([.nilFunc, .nilFunc, .nilFunc], fun j => some (j * 1, 1)) := rfl
@[go_sem] theorem ia335 : iaT Tryz.prog 335 = some (some 3, 1) := rfl
@[go_sem] theorem ix335 : ixT Tryz.prog 335 = some (3, 1, false) := rfl
@[go_sem] theorem call2 (args : List Value) : aCallFunc Tryz.prog 2 args = .pure (.enter 2 args) := rfl
@[go_sem] theorem call3 (args : List Value) : aCallFunc Tryz.prog 3 args = .pure (.enter 3 args) := rfl
@[go_sem] theorem call4 (args : List Value) : aCallFunc Tryz.prog 4 args = .pure (.enter 4 args) := rfl
@[go_sem] theorem call5 (args : List Value) : aCallFunc Tryz.prog 5 args = .pure (.enter 5 args) := rfl
@[go_sem] theorem call6 (args : List Value) : aCallFunc Tryz.prog 6 args = .pure (.enter 6 args) := rfl
@[go_sem] theorem call7 (args : List Value) : aCallFunc Tryz.prog 7 args = .pure (.enter 7 args) := rfl
@[go_sem] theorem call8 (args : List Value) : aCallFunc Tryz.prog 8 args = .pure (.enter 8 args) := rfl
@[go_sem] theorem call9 (args : List Value) : aCallFunc Tryz.prog 9 args = .pure (.enter 9 args) := rfl
@[go_sem] theorem call10 (args : List Value) : aCallFunc Tryz.prog 10 args = .pure (.enter 10 args) := rfl
@[go_sem] theorem call11 (args : List Value) : aCallFunc Tryz.prog 11 args = .pure (.enter 11 args) := rfl
@[go_sem] theorem call12 (args : List Value) : aCallFunc Tryz.prog 12 args = .pure (.enter 12 args) := rfl
@[go_sem] theorem call13 (args : List Value) : aCallFunc Tryz.prog 13 args = .pure (.enter 13 args) := rfl
@[go_sem] theorem call14 (args : List Value) : aCallFunc Tryz.prog 14 args = .pure (.enter 14 args) := rfl
@[go_sem] theorem call15 (args : List Value) : aCallFunc Tryz.prog 15 args = .pure (.enter 15 args) := rfl
@[go_sem] theorem call16 (args : List Value) : aCallFunc Tryz.prog 16 args = .pure (.enter 16 args) := rfl
@[go_sem] theorem call17 (args : List Value) : aCallFunc Tryz.prog 17 args = .pure (.enter 17 args) := rfl
@[go_sem] theorem call18 (args : List Value) : aCallFunc Tryz.prog 18 args = .pure (.enter 18 args) := rfl
@[go_sem] theorem call19 (args : List Value) : aCallFunc Tryz.prog 19 args = .pure (.enter 19 args) := rfl
@[go_sem] theorem call20 (args : List Value) : aCallFunc Tryz.prog 20 args = .pure (.enter 20 args) := rfl
@[go_sem] theorem call21 (args : List Value) : aCallFunc Tryz.prog 21 args = .pure (.enter 21 args) := rfl
@[go_sem] theorem call22 (args : List Value) : aCallFunc Tryz.prog 22 args = .pure (.enter 22 args) := rfl
@[go_sem] theorem call23 (args : List Value) : aCallFunc Tryz.prog 23 args = .pure (.enter 23 args) := rfl
@[go_sem] theorem call24 (args : List Value) : aCallFunc Tryz.prog 24 args = .pure (.enter 24 args) := rfl
@[go_sem] theorem call25 (args : List Value) : aCallFunc Tryz.prog 25 args = .pure (.enter 25 args) := rfl
@[go_sem] theorem call26 (args : List Value) : aCallFunc Tryz.prog 26 args = .pure (.enter 26 args) := rfl
@[go_sem] theorem call27 (args : List Value) : aCallFunc Tryz.prog 27 args = .pure (.enter 27 args) := rfl
@[go_sem] theorem call28 (args : List Value) : aCallFunc Tryz.prog 28 args = .pure (.enter 28 args) := rfl
@[go_sem] theorem call29 (args : List Value) : aCallFunc Tryz.prog 29 args = .pure (.enter 29 args) := rfl
@[go_sem] theorem call30 (args : List Value) : aCallFunc Tryz.prog 30 args = .pure (.enter 30 args) := rfl
@[go_sem] theorem call31 (args : List Value) : aCallFunc Tryz.prog 31 args = .pure (.enter 31 args) := rfl
@[go_sem] theorem call32 (args : List Value) : aCallFunc Tryz.prog 32 args = .pure (.enter 32 args) := rfl
@[go_sem] theorem call33 (args : List Value) : aCallFunc Tryz.prog 33 args = .pure (.enter 33 args) := rfl
@[go_sem] theorem call34 (args : List Value) : aCallFunc Tryz.prog 34 args = .pure (.enter 34 args) := rfl
@[go_sem] theorem call35 (args : List Value) : aCallFunc Tryz.prog 35 args = .pure (.enter 35 args) := rfl
@[go_sem] theorem call36 (args : List Value) : aCallFunc Tryz.prog 36 args = .pure (.enter 36 args) := rfl
@[go_sem] theorem call37 (args : List Value) : aCallFunc Tryz.prog 37 args = .pure (.enter 37 args) := rfl
@[go_sem] theorem call38 (args : List Value) : aCallFunc Tryz.prog 38 args = .pure (.enter 38 args) := rfl
@[go_sem] theorem call39 (args : List Value) : aCallFunc Tryz.prog 39 args = .pure (.enter 39 args) := rfl
@[go_sem] theorem call40 (args : List Value) : aCallFunc Tryz.prog 40 args = .pure (.enter 40 args) := rfl
@[go_sem] theorem call41 (args : List Value) : aCallFunc Tryz.prog 41 args = .pure (.enter 41 args) := rfl
@[go_sem] theorem call42 (args : List Value) : aCallFunc Tryz.prog 42 args = .pure (.enter 42 args) := rfl
@[go_sem] theorem call43 (args : List Value) : aCallFunc Tryz.prog 43 args = .pure (.enter 43 args) := rfl
@[go_sem] theorem call44 (args : List Value) : aCallFunc Tryz.prog 44 args = .pure (.enter 44 args) := rfl
@[go_sem] theorem call45 (args : List Value) : aCallFunc Tryz.prog 45 args = .pure (.enter 45 args) := rfl
@[go_sem] theorem call46 (args : List Value) : aCallFunc Tryz.prog 46 args = .pure (.enter 46 args) := rfl
@[go_sem] theorem call47 (args : List Value) : aCallFunc Tryz.prog 47 args = .pure (.enter 47 args) := rfl
@[go_sem] theorem call48 (args : List Value) : aCallFunc Tryz.prog 48 args = .pure (.enter 48 args) := rfl
@[go_sem] theorem call49 (args : List Value) : aCallFunc Tryz.prog 49 args = .pure (.enter 49 args) := rfl
@[go_sem] theorem call50 (args : List Value) : aCallFunc Tryz.prog 50 args = .pure (.enter 50 args) := rfl
@[go_sem] theorem call51 (args : List Value) : aCallFunc Tryz.prog 51 args = .pure (.enter 51 args) := rfl
@[go_sem] theorem call52 (args : List Value) : aCallFunc Tryz.prog 52 args = .pure (.enter 52 args) := rfl
@[go_sem] theorem call53 (args : List Value) : aCallFunc Tryz.prog 53 args = .pure (.enter 53 args) := rfl
@[go_sem] theorem call54 (args : List Value) : aCallFunc Tryz.prog 54 args = .pure (.enter 54 args) := rfl
@[go_sem] theorem call55 (args : List Value) : aCallFunc Tryz.prog 55 args = .pure (.enter 55 args) := rfl
@[go_sem] theorem call56 (args : List Value) : aCallFunc Tryz.prog 56 args = .pure (.enter 56 args) := rfl
@[go_sem] theorem call57 (args : List Value) : aCallFunc Tryz.prog 57 args = .pure (.enter 57 args) := rfl
@[go_sem] theorem call58 (args : List Value) : aCallFunc Tryz.prog 58 args = .pure (.enter 58 args) := rfl
@[go_sem] theorem call59 (args : List Value) : aCallFunc Tryz.prog 59 args = .pure (.enter 59 args) := rfl
@[go_sem] theorem call60 (args : List Value) : aCallFunc Tryz.prog 60 args = .pure (.enter 60 args) := rfl
@[go_sem] theorem call61 (args : List Value) : aCallFunc Tryz.prog 61 args = .pure (.enter 61 args) := rfl
@[go_sem] theorem call62 (args : List Value) : aCallFunc Tryz.prog 62 args = .pure (.enter 62 args) := rfl
@[go_sem] theorem call63 (args : List Value) : aCallFunc Tryz.prog 63 args = .pure (.enter 63 args) := rfl
@[go_sem] theorem call64 (args : List Value) : aCallFunc Tryz.prog 64 args = .pure (.enter 64 args) := rfl
@[go_sem] theorem call65 (args : List Value) : aCallFunc Tryz.prog 65 args = .pure (.enter 65 args) := rfl
@[go_sem] theorem call66 (args : List Value) : aCallFunc Tryz.prog 66 args = .pure (.enter 66 args) := rfl
@[go_sem] theorem call67 (args : List Value) : aCallFunc Tryz.prog 67 args = .pure (.enter 67 args) := rfl
@[go_sem] theorem call68 (args : List Value) : aCallFunc Tryz.prog 68 args = .pure (.enter 68 args) := rfl
@[go_sem] theorem call69 (args : List Value) : aCallFunc Tryz.prog 69 args = .pure (.enter 69 args) := rfl
@[go_sem] theorem call70 (args : List Value) : aCallFunc Tryz.prog 70 args = .pure (.enter 70 args) := rfl
@[go_sem] theorem call71 (args : List Value) : aCallFunc Tryz.prog 71 args = .pure (.enter 71 args) := rfl
@[go_sem] theorem call72 (args : List Value) : aCallFunc Tryz.prog 72 args = .pure (.enter 72 args) := rfl
@[go_sem] theorem call73 (args : List Value) : aCallFunc Tryz.prog 73 args = .pure (.enter 73 args) := rfl
@[go_sem] theorem call74 (args : List Value) : aCallFunc Tryz.prog 74 args = .pure (.enter 74 args) := rfl
@[go_sem] theorem call75 (args : List Value) : aCallFunc Tryz.prog 75 args = .pure (.enter 75 args) := rfl
@[go_sem] theorem call76 (args : List Value) : aCallFunc Tryz.prog 76 args = .pure (.enter 76 args) := rfl
@[go_sem] theorem call77 (args : List Value) : aCallFunc Tryz.prog 77 args = .pure (.enter 77 args) := rfl
@[go_sem] theorem call79 (args : List Value) : aCallFunc Tryz.prog 79 args = .pure (.enter 79 args) := rfl
@[go_sem] theorem call80 (args : List Value) : aCallFunc Tryz.prog 80 args = .pure (.enter 80 args) := rfl
@[go_sem] theorem call81 (args : List Value) : aCallFunc Tryz.prog 81 args = .pure (.enter 81 args) := rfl
@[go_sem] theorem call82 (args : List Value) : aCallFunc Tryz.prog 82 args = .pure (.enter 82 args) := rfl
@[go_sem] theorem call83 (args : List Value) : aCallFunc Tryz.prog 83 args = .pure (.enter 83 args) := rfl
@[go_sem] theorem call84 (args : List Value) : aCallFunc Tryz.prog 84 args = .pure (.enter 84 args) := rfl
@[go_sem] theorem call85 (args : List Value) : aCallFunc Tryz.prog 85 args = .pure (.enter 85 args) := rfl
@[go_sem] theorem call86 (args : List Value) : aCallFunc Tryz.prog 86 args = .pure (.enter 86 args) := rfl
@[go_sem] theorem call87 (args : List Value) : aCallFunc Tryz.prog 87 args = .pure (.enter 87 args) := rfl
@[go_sem] theorem call88 (args : List Value) : aCallFunc Tryz.prog 88 args = .pure (.enter 88 args) := rfl
@[go_sem] theorem call89 (args : List Value) : aCallFunc Tryz.prog 89 args = .pure (.enter 89 args) := rfl
@[go_sem] theorem call90 (args : List Value) : aCallFunc Tryz.prog 90 args = .pure (.enter 90 args) := rfl
@[go_sem] theorem call91 (args : List Value) : aCallFunc Tryz.prog 91 args = .pure (.enter 91 args) := rfl
@[go_sem] theorem call92 (args : List Value) : aCallFunc Tryz.prog 92 args = .pure (.enter 92 args) := rfl
@[go_sem] theorem call93 (args : List Value) : aCallFunc Tryz.prog 93 args = .pure (.enter 93 args) := rfl
@[go_sem] theorem call94 (args : List Value) : aCallFunc Tryz.prog 94 args = .pure (.enter 94 args) := rfl
@[go_sem] theorem call95 (args : List Value) : aCallFunc Tryz.prog 95 args = .pure (.enter 95 args) := rfl
@[go_sem] theorem call96 (args : List Value) : aCallFunc Tryz.prog 96 args = .pure (.enter 96 args) := rfl
@[go_sem] theorem call97 (args : List Value) : aCallFunc Tryz.prog 97 args = .pure (.enter 97 args) := rfl
@[go_sem] theorem call99 (args : List Value) : aCallFunc Tryz.prog 99 args = .pure (.enter 99 args) := rfl
@[go_sem] theorem call100 (args : List Value) : aCallFunc Tryz.prog 100 args = .pure (.enter 100 args) := rfl
@[go_sem] theorem call101 (args : List Value) : aCallFunc Tryz.prog 101 args = .pure (.enter 101 args) := rfl
@[go_sem] theorem call102 (args : List Value) : aCallFunc Tryz.prog 102 args = .pure (.enter 102 args) := rfl
@[go_sem] theorem call103 (args : List Value) : aCallFunc Tryz.prog 103 args = .pure (.enter 103 args) := rfl
@[go_sem] theorem call104 (args : List Value) : aCallFunc Tryz.prog 104 args = .pure (.enter 104 args) := rfl
@[go_sem] theorem call105 (args : List Value) : aCallFunc Tryz.prog 105 args = .pure (.enter 105 args) := rfl
@[go_sem] theorem call106 (args : List Value) : aCallFunc Tryz.prog 106 args = .pure (.enter 106 args) := rfl
@[go_sem] theorem call107 (args : List Value) : aCallFunc Tryz.prog 107 args = .pure (.enter 107 args) := rfl
@[go_sem] theorem call108 (args : List Value) : aCallFunc Tryz.prog 108 args = .pure (.enter 108 args) := rfl
@[go_sem] theorem call109 (args : List Value) : aCallFunc Tryz.prog 109 args = .pure (.enter 109 args) := rfl
@[go_sem] theorem call110 (args : List Value) : aCallFunc Tryz.prog 110 args = .pure (.enter 110 args) := rfl
@[go_sem] theorem call111 (args : List Value) : aCallFunc Tryz.prog 111 args = .pure (.enter 111 args) := rfl
@[go_sem] theorem call112 (args : List Value) : aCallFunc Tryz.prog 112 args = .pure (.enter 112 args) := rfl
@[go_sem] theorem call113 (args : List Value) : aCallFunc Tryz.prog 113 args = .pure (.enter 113 args) := rfl
@[go_sem] theorem call114 (args : List Value) : aCallFunc Tryz.prog 114 args = .pure (.enter 114 args) := rfl
@[go_sem] theorem call115 (args : List Value) : aCallFunc Tryz.prog 115 args = .pure (.enter 115 args) := rfl
@[go_sem] theorem call116 (args : List Value) : aCallFunc Tryz.prog 116 args = .pure (.enter 116 args) := rfl
@[go_sem] theorem call132 (args : List Value) : aCallFunc Tryz.prog 132 args = .pure (.enter 132 args) := rfl
@[go_sem] theorem call133 (args : List Value) : aCallFunc Tryz.prog 133 args = .pure (.enter 133 args) := rfl
@[go_sem] theorem call135 (args : List Value) : aCallFunc Tryz.prog 135 args = .pure (.enter 135 args) := rfl
@[go_sem] theorem call136 (args : List Value) : aCallFunc Tryz.prog 136 args = .pure (.enter 136 args) := rfl
@[go_sem] theorem call137 (args : List Value) : aCallFunc Tryz.prog 137 args = .pure (.enter 137 args) := rfl
@[go_sem] theorem call138 (args : List Value) : aCallFunc Tryz.prog 138 args = .pure (.enter 138 args) := rfl
@[go_sem] theorem call139 (args : List Value) : aCallFunc Tryz.prog 139 args = .pure (.enter 139 args) := rfl
@[go_sem] theorem call140 (args : List Value) : aCallFunc Tryz.prog 140 args = .pure (.enter 140 args) := rfl
@[go_sem] theorem call141 (args : List Value) : aCallFunc Tryz.prog 141 args = .pure (.enter 141 args) := rfl
@[go_sem] theorem call142 (args : List Value) : aCallFunc Tryz.prog 142 args = .pure (.enter 142 args) := rfl
@[go_sem] theorem call143 (args : List Value) : aCallFunc Tryz.prog 143 args = .pure (.enter 143 args) := rfl
@[go_sem] theorem call144 (args : List Value) : aCallFunc Tryz.prog 144 args = .pure (.enter 144 args) := rfl
@[go_sem] theorem call145 (args : List Value) : aCallFunc Tryz.prog 145 args = .pure (.enter 145 args) := rfl
@[go_sem] theorem call146 (args : List Value) : aCallFunc Tryz.prog 146 args = .pure (.enter 146 args) := rfl
@[go_sem] theorem call148 (args : List Value) : aCallFunc Tryz.prog 148 args = .pure (.enter 148 args) := rfl
@[go_sem] theorem call149 (args : List Value) : aCallFunc Tryz.prog 149 args = .pure (.enter 149 args) := rfl
@[go_sem] theorem call150 (args : List Value) : aCallFunc Tryz.prog 150 args = .pure (.enter 150 args) := rfl
@[go_sem] theorem call151 (args : List Value) : aCallFunc Tryz.prog 151 args = .pure (.enter 151 args) := rfl
@[go_sem] theorem call152 (args : List Value) : aCallFunc Tryz.prog 152 args = .pure (.enter 152 args) := rfl
@[go_sem] theorem call153 (args : List Value) : aCallFunc Tryz.prog 153 args = .pure (.enter 153 args) := rfl
@[go_sem] theorem call155 (args : List Value) : aCallFunc Tryz.prog 155 args = .pure (.enter 155 args) := rfl
@[go_sem] theorem call156 (args : List Value) : aCallFunc Tryz.prog 156 args = .pure (.enter 156 args) := rfl
@[go_sem] theorem call157 (args : List Value) : aCallFunc Tryz.prog 157 args = .pure (.enter 157 args) := rfl
@[go_sem] theorem call158 (args : List Value) : aCallFunc Tryz.prog 158 args = .pure (.enter 158 args) := rfl
@[go_sem] theorem call159 (args : List Value) : aCallFunc Tryz.prog 159 args = .pure (.enter 159 args) := rfl
@[go_sem] theorem call160 (args : List Value) : aCallFunc Tryz.prog 160 args = .pure (.enter 160 args) := rfl
@[go_sem] theorem call161 (args : List Value) : aCallFunc Tryz.prog 161 args = .pure (.enter 161 args) := rfl
@[go_sem] theorem call162 (args : List Value) : aCallFunc Tryz.prog 162 args = .pure (.enter 162 args) := rfl
@[go_sem] theorem call163 (args : List Value) : aCallFunc Tryz.prog 163 args = .pure (.enter 163 args) := rfl
@[go_sem] theorem call164 (args : List Value) : aCallFunc Tryz.prog 164 args = .pure (.enter 164 args) := rfl
@[go_sem] theorem call166 (args : List Value) : aCallFunc Tryz.prog 166 args = .pure (.enter 166 args) := rfl
@[go_sem] theorem call167 (args : List Value) : aCallFunc Tryz.prog 167 args = .pure (.enter 167 args) := rfl
@[go_sem] theorem call168 (args : List Value) : aCallFunc Tryz.prog 168 args = .pure (.enter 168 args) := rfl
@[go_sem] theorem call169 (args : List Value) : aCallFunc Tryz.prog 169 args = .pure (.enter 169 args) := rfl
@[go_sem] theorem call170 (args : List Value) : aCallFunc Tryz.prog 170 args = .pure (.enter 170 args) := rfl
@[go_sem] theorem call171 (args : List Value) : aCallFunc Tryz.prog 171 args = .pure (.enter 171 args) := rfl
@[go_sem] theorem call172 (args : List Value) : aCallFunc Tryz.prog 172 args = .pure (.enter 172 args) := rfl
@[go_sem] theorem call173 (args : List Value) : aCallFunc Tryz.prog 173 args = .pure (.enter 173 args) := rfl
@[go_sem] theorem call174 (args : List Value) : aCallFunc Tryz.prog 174 args = .pure (.enter 174 args) := rfl
@[go_sem] theorem call175 (args : List Value) : aCallFunc Tryz.prog 175 args = .pure (.enter 175 args) := rfl
@[go_sem] theorem call176 (args : List Value) : aCallFunc Tryz.prog 176 args = .pure (.enter 176 args) := rfl
@[go_sem] theorem call177 (args : List Value) : aCallFunc Tryz.prog 177 args = .pure (.enter 177 args) := rfl
@[go_sem] theorem call179 (args : List Value) : aCallFunc Tryz.prog 179 args = .pure (.enter 179 args) := rfl
@[go_sem] theorem call180 (args : List Value) : aCallFunc Tryz.prog 180 args = .pure (.enter 180 args) := rfl
@[go_sem] theorem call181 (args : List Value) : aCallFunc Tryz.prog 181 args = .pure (.enter 181 args) := rfl
@[go_sem] theorem call182 (args : List Value) : aCallFunc Tryz.prog 182 args = .pure (.enter 182 args) := rfl
@[go_sem] theorem call183 (args : List Value) : aCallFunc Tryz.prog 183 args = .pure (.enter 183 args) := rfl
@[go_sem] theorem call184 (args : List Value) : aCallFunc Tryz.prog 184 args = .pure (.enter 184 args) := rfl
@[go_sem] theorem call185 (args : List Value) : aCallFunc Tryz.prog 185 args = .pure (.enter 185 args) := rfl
@[go_sem] theorem call186 (args : List Value) : aCallFunc Tryz.prog 186 args = .pure (.enter 186 args) := rfl
@[go_sem] theorem call187 (args : List Value) : aCallFunc Tryz.prog 187 args = .pure (.enter 187 args) := rfl
@[go_sem] theorem call188 (args : List Value) : aCallFunc Tryz.prog 188 args = .pure (.enter 188 args) := rfl
@[go_sem] theorem call189 (args : List Value) : aCallFunc Tryz.prog 189 args = .pure (.enter 189 args) := rfl
@[go_sem] theorem call191 (args : List Value) : aCallFunc Tryz.prog 191 args = .pure (.enter 191 args) := rfl
@[go_sem] theorem call192 (args : List Value) : aCallFunc Tryz.prog 192 args = .pure (.enter 192 args) := rfl
@[go_sem] theorem call193 (args : List Value) : aCallFunc Tryz.prog 193 args = .pure (.enter 193 args) := rfl
@[go_sem] theorem call194 (args : List Value) : aCallFunc Tryz.prog 194 args = .pure (.enter 194 args) := rfl
@[go_sem] theorem call195 (args : List Value) : aCallFunc Tryz.prog 195 args = .pure (.enter 195 args) := rfl
@[go_sem] theorem call196 (args : List Value) : aCallFunc Tryz.prog 196 args = .pure (.enter 196 args) := rfl
@[go_sem] theorem call197 (args : List Value) : aCallFunc Tryz.prog 197 args = .pure (.enter 197 args) := rfl
@[go_sem] theorem call199 (args : List Value) : aCallFunc Tryz.prog 199 args = .pure (.enter 199 args) := rfl
@[go_sem] theorem call200 (args : List Value) : aCallFunc Tryz.prog 200 args = .pure (.enter 200 args) := rfl
@[go_sem] theorem call201 (args : List Value) : aCallFunc Tryz.prog 201 args = .pure (.enter 201 args) := rfl
@[go_sem] theorem call202 (args : List Value) : aCallFunc Tryz.prog 202 args = .pure (.enter 202 args) := rfl
@[go_sem] theorem call203 (args : List Value) : aCallFunc Tryz.prog 203 args = .pure (.enter 203 args) := rfl
@[go_sem] theorem call204 (args : List Value) : aCallFunc Tryz.prog 204 args = .pure (.enter 204 args) := rfl
@[go_sem] theorem call205 (args : List Value) : aCallFunc Tryz.prog 205 args = .pure (.enter 205 args) := rfl
@[go_sem] theorem call206 (args : List Value) : aCallFunc Tryz.prog 206 args = .pure (.enter 206 args) := rfl
@[go_sem] theorem call207 (args : List Value) : aCallFunc Tryz.prog 207 args = .pure (.enter 207 args) := rfl
@[go_sem] theorem call208 (args : List Value) : aCallFunc Tryz.prog 208 args = .pure (.enter 208 args) := rfl
@[go_sem] theorem call209 (args : List Value) : aCallFunc Tryz.prog 209 args = .pure (.enter 209 args) := rfl
@[go_sem] theorem call210 (args : List Value) : aCallFunc Tryz.prog 210 args = .pure (.enter 210 args) := rfl
@[go_sem] theorem call211 (args : List Value) : aCallFunc Tryz.prog 211 args = .pure (.enter 211 args) := rfl
@[go_sem] theorem call212 (args : List Value) : aCallFunc Tryz.prog 212 args = .pure (.enter 212 args) := rfl
@[go_sem] theorem call213 (args : List Value) : aCallFunc Tryz.prog 213 args = .pure (.enter 213 args) := rfl
@[go_sem] theorem call214 (args : List Value) : aCallFunc Tryz.prog 214 args = .pure (.enter 214 args) := rfl
@[go_sem] theorem call215 (args : List Value) : aCallFunc Tryz.prog 215 args = .pure (.enter 215 args) := rfl
@[go_sem] theorem call216 (args : List Value) : aCallFunc Tryz.prog 216 args = .pure (.enter 216 args) := rfl
@[go_sem] theorem call217 (args : List Value) : aCallFunc Tryz.prog 217 args = .pure (.enter 217 args) := rfl
@[go_sem] theorem call218 (args : List Value) : aCallFunc Tryz.prog 218 args = .pure (.enter 218 args) := rfl
@[go_sem] theorem call219 (args : List Value) : aCallFunc Tryz.prog 219 args = .pure (.enter 219 args) := rfl
attribute [go_sem_proc] Nat.reduceLT Nat.reduceAdd Nat.reduceMul Nat.reduceSub Nat.reduceEqDiff Nat.reduceLeDiff Int.reduceToNat Int.reduceLT Int.reduceLE Int.reduceEq Int.reduceNe Int.reduceAdd Int.reduceSub Int.reduceMul Int.reduceNeg reduceCtorEq
attribute [go_sem_proc ↓] reduceIte
@[go_sem] def w3_15 : List (Nat × Nat) := [(0, 1), (0, 5), (1, 5), (2, 5), (3, 5), (4, 5), (0, 6), (1, 6), (2, 6), (3, 6), (4, 6), (5, 6), (0, 7), (1, 7), (2, 7), (3, 7), (4, 7), (0, 8), (1, 8), (2, 8), (3, 8), (4, 8), (0, 9), (1, 9), (2, 9), (3, 9), (4, 9), (12, 13)]
@[go_sem] def w3_17 : List (Nat × Nat) := [(3, 4), (3, 8), (4, 8), (5, 8), (6, 8), (7, 8), (3, 9), (4, 9), (5, 9), (6, 9), (7, 9), (8, 9), (3, 10), (4, 10), (5, 10), (6, 10), (7, 10), (3, 11), (4, 11), (5, 11), (6, 11), (7, 11), (3, 12), (4, 12), (5, 12), (6, 12), (7, 12)]
@[go_sem] def w3_22 : List (Nat × Nat) := [(0, 1), (7, 8), (15, 16), (15, 20), (16, 20), (17, 20), (18, 20), (19, 20), (15, 21), (16, 21), (17, 21), (18, 21), (19, 21), (20, 21), (15, 22), (16, 22), (17, 22), (18, 22), (19, 22), (15, 23), (16, 23), (17, 23), (18, 23), (19, 23), (15, 24), (16, 24), (17, 24), (18, 24), (19, 24)]
@[go_sem] def w3_27 : List (Nat × Nat) := [(2, 3), (9, 10), (9, 14), (10, 14), (11, 14), (12, 14), (13, 14), (9, 15), (10, 15), (11, 15), (12, 15), (13, 15), (14, 15), (9, 16), (10, 16), (11, 16), (12, 16), (13, 16), (9, 17), (10, 17), (11, 17), (12, 17), (13, 17), (9, 18), (10, 18), (11, 18), (12, 18), (13, 18)]
@[go_sem] def w15_12 : List (Nat × Nat) := [(0, 1), (0, 2), (0, 3), (0, 4), (0, 5), (1, 5), (2, 5), (3, 5), (4, 5), (0, 6), (1, 6), (2, 6), (3, 6), (4, 6), (0, 7), (1, 7), (2, 7), (3, 7), (4, 7), (0, 8), (1, 8), (2, 8), (3, 8), (4, 8), (0, 9), (1, 9), (2, 9), (3, 9), (4, 9), (0, 10)]
@[go_sem] def w28_11 : List (Nat × Nat) := [(0, 5), (1, 5), (2, 5), (3, 5), (4, 5), (0, 6), (1, 6), (2, 6), (3, 6), (4, 6), (0, 7), (1, 7), (2, 7), (3, 7), (4, 7), (0, 8), (1, 8), (2, 8), (3, 8), (4, 8), (0, 9), (1, 9), (2, 9), (3, 9), (4, 9)]
@[go_sem] def w29_2 : List (Nat × Nat) := [(0, 5), (1, 5), (2, 5), (3, 5), (4, 5), (0, 6), (1, 6), (2, 6), (3, 6), (4, 6), (0, 7), (1, 7), (2, 7), (3, 7), (4, 7), (0, 8), (1, 8), (2, 8), (3, 8), (4, 8), (0, 9), (1, 9), (2, 9), (3, 9), (4, 9), (0, 10), (1, 10), (2, 10), (3, 10), (4, 10)]
@[go_sem] def w29_3 : List (Nat × Nat) := [(0, 5), (1, 5), (2, 5), (3, 5), (4, 5), (0, 6), (1, 6), (2, 6), (3, 6), (4, 6), (0, 7), (1, 7), (2, 7), (3, 7), (4, 7), (0, 8), (1, 8), (2, 8), (3, 8), (4, 8), (0, 9), (1, 9), (2, 9), (3, 9), (4, 9), (0, 12), (1, 12), (2, 12), (3, 12), (4, 12), (5, 12), (6, 12), (7, 12), (8, 12), (9, 12), (10, 12), (11, 12)]
@[go_sem] def w29_4 : List (Nat × Nat) := [(0, 4), (1, 4), (2, 4), (3, 4), (0, 5), (1, 5), (2, 5), (3, 5)]
@[go_sem] def w58_0 : List (Nat × Nat) := [(0, 1), (0, 2), (0, 3), (0, 4), (0, 5), (1, 5), (2, 5), (3, 5), (4, 5), (0, 6), (1, 6), (2, 6), (3, 6), (4, 6), (0, 7), (1, 7), (2, 7), (3, 7), (4, 7), (0, 8), (1, 8), (2, 8), (3, 8), (4, 8), (0, 9), (1, 9), (2, 9), (3, 9), (4, 9), (5, 9), (6, 9), (7, 9), (8, 9), (0, 10), (1, 10), (2, 10), (3, 10), (4, 10), (5, 10), (6, 10), (7, 10), (8, 10), (9, 10), (0, 11), (1, 11), (2, 11), (3, 11), (4, 11), (5, 11), (6, 11), (7, 11), (8, 11), (9, 11), (10, 11), (0, 12), (1, 12), (2, 12), (3, 12), (4, 12), (0, 13), (1, 13), (2, 13), (3, 13), (4, 13), (0, 14)]
@[go_sem] def w66_11 : List (Nat × Nat) := [(0, 1), (0, 2), (1, 2), (0, 3), (1, 3), (0, 4), (1, 4), (2, 4), (3, 4), (0, 5), (1, 5), (2, 5), (3, 5)]
@[go_sem] def w95_2 : List (Nat × Nat) := [(0, 2), (1, 2), (0, 3), (1, 3), (2, 4), (3, 4)]
@[go_sem] def w136_1 : List (Nat × Nat) := [(0, 4), (1, 4), (2, 4), (3, 4), (0, 5), (1, 5), (2, 5), (3, 5), (4, 5), (0, 6), (1, 6), (2, 6), (3, 6), (4, 6), (0, 7), (1, 7), (2, 7), (3, 7), (4, 7), (0, 8), (1, 8), (2, 8), (3, 8), (4, 8), (0, 9), (1, 9), (2, 9), (3, 9), (4, 9), (5, 9), (6, 9), (7, 9), (8, 9), (0, 10), (1, 10), (2, 10), (3, 10), (4, 10), (0, 11), (1, 11), (2, 11), (3, 11), (4, 11), (5, 11), (6, 11), (7, 11), (8, 11), (9, 11), (10, 11), (0, 12), (1, 12), (2, 12), (3, 12), (4, 12), (5, 12), (6, 12), (7, 12), (8, 12), (9, 12), (10, 12), (0, 13), (1, 13), (2, 13), (3, 13), (4, 13), (5, 13), (6, 13), (7, 13), (8, 13), (9, 13), (10, 13), (0, 14), (1, 14), (2, 14), (3, 14), (4, 14), (5, 14), (6, 14), (7, 14), (8, 14), (9, 14), (10, 14), (0, 15), (1, 15), (2, 15), (3, 15), (4, 15), (5, 15), (6, 15), (7, 15), (8, 15), (9, 15), (10, 15), (11, 15), (12, 15), (13, 15), (14, 15), (0, 16), (1, 16), (2, 16), (3, 16), (4, 16), (5, 16), (6, 16), (7, 16), (8, 16), (9, 16), (10, 16), (0, 17), (1, 17), (2, 17), (3, 17), (4, 17), (5, 17), (6, 17), (7, 17), (8, 17), (9, 17), (10, 17)]
@[go_sem] def w139_1 : List (Nat × Nat) := [(0, 4), (1, 4), (2, 4), (3, 4), (0, 5), (1, 5), (2, 5), (3, 5), (0, 6), (1, 6), (2, 6), (3, 6), (0, 7), (1, 7), (2, 7), (3, 7), (0, 8), (1, 8), (2, 8), (3, 8), (4, 8), (5, 8), (6, 8), (7, 8), (0, 9), (1, 9), (2, 9), (3, 9), (4, 9), (5, 9), (6, 9), (7, 9), (0, 10), (1, 10), (2, 10), (3, 10), (4, 10), (5, 10), (6, 10), (7, 10), (0, 11), (1, 11), (2, 11), (3, 11), (4, 11), (5, 11), (6, 11), (7, 11)]
@[go_sem] def w139_2 : List (Nat × Nat) := [(0, 7), (1, 7), (2, 7), (3, 7), (4, 7), (5, 7), (6, 7), (0, 8), (1, 8), (2, 8), (3, 8), (4, 8), (5, 8), (6, 8), (0, 9), (1, 9), (2, 9), (3, 9), (4, 9), (5, 9), (6, 9), (0, 10), (1, 10), (2, 10), (3, 10), (4, 10), (5, 10), (6, 10)]
@[go_sem] def w143_2 : List (Nat × Nat) := [(0, 4), (1, 4), (2, 4), (3, 4), (0, 5), (1, 5), (2, 5), (3, 5), (0, 6), (1, 6), (2, 6), (3, 6), (0, 7), (1, 7), (2, 7), (3, 7), (0, 8), (1, 8), (2, 8), (3, 8), (0, 9), (1, 9), (2, 9), (3, 9), (0, 10), (1, 10), (2, 10), (3, 10), (0, 11), (1, 11), (2, 11), (3, 11)]
@[go_sem] def w156_1 : List (Nat × Nat) := [(0, 4), (1, 4), (2, 4), (3, 4), (0, 5), (1, 5), (2, 5), (3, 5), (4, 5), (0, 6), (1, 6), (2, 6), (3, 6), (4, 6), (0, 7), (1, 7), (2, 7), (3, 7), (4, 7), (0, 8), (1, 8), (2, 8), (3, 8), (4, 8), (0, 9), (1, 9), (2, 9), (3, 9), (4, 9), (5, 9), (6, 9), (7, 9), (8, 9), (0, 10), (1, 10), (2, 10), (3, 10), (4, 10), (0, 11), (1, 11), (2, 11), (3, 11), (4, 11), (5, 11), (6, 11), (7, 11), (8, 11), (9, 11), (10, 11), (0, 12), (1, 12), (2, 12), (3, 12), (4, 12), (5, 12), (6, 12), (7, 12), (8, 12), (9, 12), (10, 12), (0, 13), (1, 13), (2, 13), (3, 13), (4, 13), (5, 13), (6, 13), (7, 13), (8, 13), (9, 13), (10, 13), (0, 14), (1, 14), (2, 14), (3, 14), (4, 14), (5, 14), (6, 14), (7, 14), (8, 14), (9, 14), (10, 14), (0, 15), (1, 15), (2, 15), (3, 15), (4, 15), (5, 15), (6, 15), (7, 15), (8, 15), (9, 15), (10, 15), (11, 15), (12, 15), (13, 15), (14, 15), (0, 16), (1, 16), (2, 16), (3, 16), (4, 16), (5, 16), (6, 16), (7, 16), (8, 16), (9, 16), (10, 16), (0, 17), (1, 17), (2, 17), (3, 17), (4, 17), (5, 17), (6, 17), (7, 17), (8, 17), (9, 17), (10, 17), (0, 18), (1, 18), (2, 18), (3, 18), (4, 18), (5, 18), (6, 18), (7, 18), (8, 18), (9, 18), (10, 18)]
@[go_sem] def w163_12 : List (Nat × Nat) := [(0, 4), (1, 4), (2, 4), (3, 4), (0, 5), (1, 5), (2, 5), (3, 5), (4, 5), (0, 6), (1, 6), (2, 6), (3, 6), (4, 6), (5, 6), (0, 7), (1, 7), (2, 7), (3, 7), (4, 7), (0, 8), (1, 8), (2, 8), (3, 8), (4, 8), (5, 8), (6, 8), (7, 8)]
@[go_sem] def w164_7 : List (Nat × Nat) := [(0, 4), (1, 4), (2, 4), (3, 4), (0, 5), (1, 5), (2, 5), (3, 5), (4, 5), (0, 6), (1, 6), (2, 6), (3, 6), (4, 6), (0, 7), (1, 7), (2, 7), (3, 7), (4, 7), (0, 8), (1, 8), (2, 8), (3, 8), (4, 8)]
@[go_sem] def w173_3 : List (Nat × Nat) := [(0, 1), (0, 2), (0, 3), (0, 4), (0, 5), (0, 6), (0, 7), (0, 8), (1, 8), (2, 8), (3, 8), (4, 8), (5, 8), (6, 8), (7, 8), (0, 9), (1, 9), (2, 9), (3, 9), (4, 9), (5, 9), (6, 9), (7, 9), (0, 10), (1, 10), (2, 10), (3, 10), (4, 10), (5, 10), (6, 10), (7, 10), (0, 11), (1, 11), (2, 11), (3, 11), (4, 11), (5, 11), (6, 11), (7, 11), (0, 12), (1, 12), (2, 12), (3, 12), (4, 12), (5, 12), (6, 12), (7, 12), (8, 12), (9, 12), (10, 12), (11, 12), (0, 13), (1, 13), (2, 13), (3, 13), (4, 13), (5, 13), (6, 13), (7, 13), (8, 13), (9, 13), (10, 13), (11, 13), (0, 14), (1, 14), (2, 14), (3, 14), (4, 14), (5, 14), (6, 14), (7, 14), (8, 14), (9, 14), (10, 14), (11, 14), (0, 15), (0, 16), (0, 17), (0, 18), (17, 18), (18, 19), (18, 20), (18, 21)]
@[go_sem] def w176_1 : List (Nat × Nat) := [(0, 4), (1, 4), (2, 4), (3, 4), (0, 5), (1, 5), (2, 5), (3, 5), (0, 6), (1, 6), (2, 6), (3, 6), (0, 7), (1, 7), (2, 7), (3, 7), (0, 8), (1, 8), (2, 8), (3, 8), (0, 9), (1, 9), (2, 9), (3, 9)]
@[go_sem] def w180_1 : List (Nat × Nat) := [(0, 4), (1, 4), (2, 4), (3, 4), (0, 5), (1, 5), (2, 5), (3, 5), (0, 6), (1, 6), (2, 6), (3, 6), (0, 7), (1, 7), (2, 7), (3, 7), (0, 8), (1, 8), (2, 8), (3, 8), (4, 8), (5, 8), (6, 8), (7, 8), (0, 9), (1, 9), (2, 9), (3, 9), (4, 9), (5, 9), (6, 9), (7, 9), (0, 10), (1, 10), (2, 10), (3, 10), (4, 10), (5, 10), (6, 10), (7, 10), (0, 11), (1, 11), (2, 11), (3, 11), (4, 11), (5, 11), (6, 11), (7, 11), (0, 12), (1, 12), (2, 12), (3, 12), (4, 12), (5, 12), (6, 12), (7, 12), (8, 12), (9, 12), (10, 12), (11, 12), (0, 13), (1, 13), (2, 13), (3, 13), (4, 13), (5, 13), (6, 13), (7, 13), (8, 13), (9, 13), (10, 13), (11, 13), (0, 14), (1, 14), (2, 14), (3, 14), (4, 14), (5, 14), (6, 14), (7, 14), (8, 14), (9, 14), (10, 14), (11, 14), (0, 15), (1, 15), (2, 15), (3, 15), (4, 15), (5, 15), (6, 15), (7, 15), (8, 15), (9, 15), (10, 15), (11, 15), (0, 16), (1, 16), (2, 16), (3, 16), (4, 16), (5, 16), (6, 16), (7, 16), (8, 16), (9, 16), (10, 16), (11, 16), (0, 17), (1, 17), (2, 17), (3, 17), (4, 17), (5, 17), (6, 17), (7, 17), (8, 17), (9, 17), (10, 17), (11, 17), (20, 21), (21, 22)]
@[go_sem] def w180_6 : List (Nat × Nat) := [(0, 5), (1, 5), (2, 5), (3, 5), (4, 5)]
@[go_sem] def w182_1 : List (Nat × Nat) := [(0, 1), (0, 2), (0, 3), (0, 4), (0, 5), (0, 6), (0, 7), (0, 8), (1, 8), (2, 8), (3, 8), (4, 8), (5, 8), (6, 8), (7, 8), (0, 9), (1, 9), (2, 9), (3, 9), (4, 9), (5, 9), (6, 9), (7, 9), (0, 10), (1, 10), (2, 10), (3, 10), (4, 10), (5, 10), (6, 10), (7, 10), (0, 11), (1, 11), (2, 11), (3, 11), (4, 11), (5, 11), (6, 11), (7, 11), (0, 12), (1, 12), (2, 12), (3, 12), (4, 12), (5, 12), (6, 12), (7, 12), (8, 12), (9, 12), (10, 12), (11, 12), (0, 13), (1, 13), (2, 13), (3, 13), (4, 13), (5, 13), (6, 13), (7, 13), (8, 13), (9, 13), (10, 13), (11, 13), (0, 14), (1, 14), (2, 14), (3, 14), (4, 14), (5, 14), (6, 14), (7, 14), (8, 14), (9, 14), (10, 14), (11, 14), (0, 15), (0, 16), (0, 17), (0, 18), (17, 18), (18, 19), (18, 20), (18, 21)]
@[go_sem] def w184_2 : List (Nat × Nat) := [(0, 4), (1, 4), (2, 4), (3, 4), (0, 5), (1, 5), (2, 5), (3, 5), (0, 6), (1, 6), (2, 6), (3, 6), (0, 7), (1, 7), (2, 7), (3, 7)]
@[go_sem] def w188_1 : List (Nat × Nat) := [(0, 7), (1, 7), (2, 7), (3, 7), (4, 7), (5, 7), (6, 7), (0, 8), (1, 8), (2, 8), (3, 8), (4, 8), (5, 8), (6, 8), (0, 9), (1, 9), (2, 9), (3, 9), (4, 9), (5, 9), (6, 9), (0, 10), (1, 10), (2, 10), (3, 10), (4, 10), (5, 10), (6, 10), (0, 11), (1, 11), (2, 11), (3, 11), (4, 11), (5, 11), (6, 11), (7, 11), (8, 11), (9, 11), (10, 11), (0, 12), (1, 12), (2, 12), (3, 12), (4, 12), (5, 12), (6, 12), (7, 12), (8, 12), (9, 12), (10, 12), (0, 13), (1, 13), (2, 13), (3, 13), (4, 13), (5, 13), (6, 13), (7, 13), (8, 13), (9, 13), (10, 13), (11, 13), (12, 13), (0, 14), (1, 14), (2, 14), (3, 14), (4, 14), (5, 14), (6, 14), (7, 14), (8, 14), (9, 14), (10, 14), (11, 14), (12, 14), (0, 15), (1, 15), (2, 15), (3, 15), (4, 15), (5, 15), (6, 15), (7, 15), (8, 15), (9, 15), (10, 15), (11, 15), (12, 15), (0, 16), (1, 16), (2, 16), (3, 16), (4, 16), (5, 16), (6, 16), (7, 16), (8, 16), (9, 16), (10, 16), (19, 20), (20, 21)]
@[go_sem] def w189_1 : List (Nat × Nat) := [(0, 7), (1, 7), (2, 7), (3, 7), (4, 7), (5, 7), (6, 7), (0, 8), (1, 8), (2, 8), (3, 8), (4, 8), (5, 8), (6, 8), (0, 9), (1, 9), (2, 9), (3, 9), (4, 9), (5, 9), (6, 9), (0, 10), (1, 10), (2, 10), (3, 10), (4, 10), (5, 10), (6, 10), (0, 11), (1, 11), (2, 11), (3, 11), (4, 11), (5, 11), (6, 11), (7, 11), (8, 11), (9, 11), (10, 11), (0, 12), (1, 12), (2, 12), (3, 12), (4, 12), (5, 12), (6, 12), (7, 12), (8, 12), (9, 12), (10, 12), (0, 13), (1, 13), (2, 13), (3, 13), (4, 13), (5, 13), (6, 13), (7, 13), (8, 13), (9, 13), (10, 13), (0, 14), (1, 14), (2, 14), (3, 14), (4, 14), (5, 14), (6, 14), (7, 14), (8, 14), (9, 14), (10, 14), (11, 14), (12, 14), (13, 14), (0, 15), (1, 15), (2, 15), (3, 15), (4, 15), (5, 15), (6, 15), (7, 15), (8, 15), (9, 15), (10, 15), (11, 15), (12, 15), (13, 15), (0, 16), (1, 16), (2, 16), (3, 16), (4, 16), (5, 16), (6, 16), (7, 16), (8, 16), (9, 16), (10, 16), (11, 16), (12, 16), (13, 16), (0, 17), (1, 17), (2, 17), (3, 17), (4, 17), (5, 17), (6, 17), (7, 17), (8, 17), (9, 17), (10, 17), (11, 17), (12, 17), (13, 17), (0, 18), (1, 18), (2, 18), (3, 18), (4, 18), (5, 18), (6, 18), (7, 18), (8, 18), (9, 18), (10, 18), (11, 18), (12, 18), (13, 18), (0, 19), (1, 19), (2, 19), (3, 19), (4, 19), (5, 19), (6, 19), (7, 19), (8, 19), (9, 19), (10, 19), (11, 19), (12, 19), (13, 19)]
@[go_sem] def w192_1 : List (Nat × Nat) := [(0, 7), (1, 7), (2, 7), (3, 7), (4, 7), (5, 7), (6, 7), (0, 8), (1, 8), (2, 8), (3, 8), (4, 8), (5, 8), (6, 8), (0, 9), (1, 9), (2, 9), (3, 9), (4, 9), (5, 9), (6, 9), (0, 10), (1, 10), (2, 10), (3, 10), (4, 10), (5, 10), (6, 10), (0, 11), (1, 11), (2, 11), (3, 11), (4, 11), (5, 11), (6, 11), (7, 11), (8, 11), (9, 11), (10, 11), (0, 12), (1, 12), (2, 12), (3, 12), (4, 12), (5, 12), (6, 12), (7, 12), (8, 12), (9, 12), (10, 12), (0, 13), (1, 13), (2, 13), (3, 13), (4, 13), (5, 13), (6, 13), (7, 13), (8, 13), (9, 13), (10, 13)]
@[go_sem] def w202_3 : List (Nat × Nat) := [(0, 7), (1, 7), (2, 7), (3, 7), (4, 7), (5, 7), (6, 7), (0, 8), (1, 8), (2, 8), (3, 8), (4, 8), (5, 8), (6, 8), (0, 9), (1, 9), (2, 9), (3, 9), (4, 9), (5, 9), (6, 9), (0, 10), (1, 10), (2, 10), (3, 10), (4, 10), (5, 10), (6, 10), (0, 11), (1, 11), (2, 11), (3, 11), (4, 11), (5, 11), (6, 11), (7, 11), (8, 11), (9, 11), (10, 11), (0, 12), (1, 12), (2, 12), (3, 12), (4, 12), (5, 12), (6, 12), (7, 12), (8, 12), (9, 12), (10, 12), (0, 13), (1, 13), (2, 13), (3, 13), (4, 13), (5, 13), (6, 13), (7, 13), (8, 13), (9, 13), (10, 13), (0, 14), (1, 14), (2, 14), (3, 14), (4, 14), (5, 14), (6, 14), (7, 14), (8, 14), (9, 14), (10, 14), (0, 15), (1, 15), (2, 15), (3, 15), (4, 15), (5, 15), (6, 15), (7, 15), (8, 15), (9, 15), (10, 15), (0, 16), (1, 16), (2, 16), (3, 16), (4, 16), (5, 16), (6, 16), (7, 16), (8, 16), (9, 16), (10, 16), (0, 17), (1, 17), (2, 17), (3, 17), (4, 17), (5, 17), (6, 17), (7, 17), (8, 17), (9, 17), (10, 17), (0, 18), (1, 18), (2, 18), (3, 18), (4, 18), (5, 18), (6, 18), (7, 18), (8, 18), (9, 18), (10, 18), (11, 18), (12, 18), (13, 18), (14, 18), (15, 18), (16, 18), (17, 18), (0, 19), (1, 19), (2, 19), (3, 19), (4, 19), (5, 19), (6, 19), (7, 19), (8, 19), (9, 19), (10, 19), (11, 19), (12, 19), (13, 19), (14, 19), (15, 19), (16, 19), (17, 19), (0, 20), (1, 20), (2, 20), (3, 20), (4, 20), (5, 20), (6, 20), (7, 20), (8, 20), (9, 20), (10, 20), (11, 20), (12, 20), (13, 20), (14, 20), (15, 20), (16, 20), (17, 20), (0, 21), (1, 21), (2, 21), (3, 21), (4, 21), (5, 21), (6, 21), (7, 21), (8, 21), (9, 21), (10, 21), (11, 21), (12, 21), (13, 21), (14, 21), (15, 21), (16, 21), (17, 21), (0, 22), (1, 22), (2, 22), (3, 22), (4, 22), (5, 22), (6, 22), (7, 22), (8, 22), (9, 22), (10, 22), (25, 26), (26, 27)]
@[go_sem] def w202_5 : List (Nat × Nat) := [(0, 5), (1, 5), (2, 5), (3, 5), (4, 5)]
@[go_sem] def w204_6 : List (Nat × Nat) := [(0, 1), (0, 2), (0, 3), (0, 4), (0, 5), (1, 6), (2, 6), (3, 6), (4, 6), (5, 6)]
@[go_sem] def w206_1 : List (Nat × Nat) := [(0, 7), (1, 7), (2, 7), (3, 7), (4, 7), (5, 7), (6, 7), (0, 8), (1, 8), (2, 8), (3, 8), (4, 8), (5, 8), (6, 8), (0, 9), (1, 9), (2, 9), (3, 9), (4, 9), (5, 9), (6, 9), (0, 10), (1, 10), (2, 10), (3, 10), (4, 10), (5, 10), (6, 10), (0, 11), (1, 11), (2, 11), (3, 11), (4, 11), (5, 11), (6, 11), (7, 11), (8, 11), (9, 11), (10, 11), (0, 12), (1, 12), (2, 12), (3, 12), (4, 12), (5, 12), (6, 12), (7, 12), (8, 12), (9, 12), (10, 12), (0, 13), (1, 13), (2, 13), (3, 13), (4, 13), (5, 13), (6, 13), (7, 13), (8, 13), (9, 13), (10, 13), (0, 14), (1, 14), (2, 14), (3, 14), (4, 14), (5, 14), (6, 14), (7, 14), (8, 14), (9, 14), (10, 14), (0, 15), (1, 15), (2, 15), (3, 15), (4, 15), (5, 15), (6, 15), (7, 15), (8, 15), (9, 15), (10, 15), (0, 16), (1, 16), (2, 16), (3, 16), (4, 16), (5, 16), (6, 16), (7, 16), (8, 16), (9, 16), (10, 16), (0, 17), (1, 17), (2, 17), (3, 17), (4, 17), (5, 17), (6, 17), (7, 17), (8, 17), (9, 17), (10, 17), (0, 18), (1, 18), (2, 18), (3, 18), (4, 18), (5, 18), (6, 18), (7, 18), (8, 18), (9, 18), (10, 18), (11, 18), (12, 18), (13, 18), (14, 18), (15, 18), (16, 18), (17, 18), (0, 19), (1, 19), (2, 19), (3, 19), (4, 19), (5, 19), (6, 19), (7, 19), (8, 19), (9, 19), (10, 19), (11, 19), (12, 19), (13, 19), (14, 19), (15, 19), (16, 19), (17, 19), (0, 20), (1, 20), (2, 20), (3, 20), (4, 20), (5, 20), (6, 20), (7, 20), (8, 20), (9, 20), (10, 20), (11, 20), (12, 20), (13, 20), (14, 20), (15, 20), (16, 20), (17, 20), (0, 21), (1, 21), (2, 21), (3, 21), (4, 21), (5, 21), (6, 21), (7, 21), (8, 21), (9, 21), (10, 21), (11, 21), (12, 21), (13, 21), (14, 21), (15, 21), (16, 21), (17, 21), (0, 22), (1, 22), (2, 22), (3, 22), (4, 22), (5, 22), (6, 22), (7, 22), (8, 22), (9, 22), (10, 22), (0, 23), (1, 23), (2, 23), (3, 23), (4, 23), (5, 23), (6, 23), (7, 23), (8, 23), (9, 23), (10, 23), (0, 24), (1, 24), (2, 24), (3, 24), (4, 24), (5, 24), (6, 24), (7, 24), (8, 24), (9, 24), (10, 24), (11, 24), (12, 24), (13, 24), (14, 24), (15, 24), (16, 24), (17, 24), (18, 24), (19, 24), (20, 24), (21, 24), (22, 24), (23, 24), (0, 25), (1, 25), (2, 25), (3, 25), (4, 25), (5, 25), (6, 25), (7, 25), (8, 25), (9, 25), (10, 25), (11, 25), (12, 25), (13, 25), (14, 25), (15, 25), (16, 25), (17, 25), (18, 25), (19, 25), (20, 25), (21, 25), (22, 25), (23, 25), (0, 26), (1, 26), (2, 26), (3, 26), (4, 26), (5, 26), (6, 26), (7, 26), (8, 26), (9, 26), (10, 26), (11, 26), (12, 26), (13, 26), (14, 26), (15, 26), (16, 26), (17, 26), (18, 26), (19, 26), (20, 26), (21, 26), (22, 26), (23, 26), (0, 27), (1, 27), (2, 27), (3, 27), (4, 27), (5, 27), (6, 27), (7, 27), (8, 27), (9, 27), (10, 27), (11, 27), (12, 27), (13, 27), (14, 27), (15, 27), (16, 27), (17, 27), (18, 27), (19, 27), (20, 27), (21, 27), (22, 27), (23, 27), (0, 28), (1, 28), (2, 28), (3, 28), (4, 28), (5, 28), (6, 28), (7, 28), (8, 28), (9, 28), (10, 28), (11, 28), (12, 28), (13, 28), (14, 28), (15, 28), (16, 28), (17, 28), (18, 28), (19, 28), (20, 28), (21, 28), (22, 28), (23, 28)]
@[go_sem] def w207_1 : List (Nat × Nat) := [(0, 4), (1, 4), (2, 4), (3, 4), (0, 5), (1, 5), (2, 5), (3, 5), (0, 6), (1, 6), (2, 6), (3, 6), (0, 7), (1, 7), (2, 7), (3, 7), (0, 8), (1, 8), (2, 8), (3, 8), (4, 8), (5, 8), (6, 8), (7, 8), (0, 9), (1, 9), (2, 9), (3, 9), (4, 9), (5, 9), (6, 9), (7, 9), (0, 10), (1, 10), (2, 10), (3, 10), (4, 10), (5, 10), (6, 10), (7, 10), (0, 11), (1, 11), (2, 11), (3, 11), (4, 11), (5, 11), (6, 11), (7, 11)]
@[go_sem] def w207_2 : List (Nat × Nat) := [(0, 7), (1, 7), (2, 7), (3, 7), (4, 7), (5, 7), (6, 7), (0, 8), (1, 8), (2, 8), (3, 8), (4, 8), (5, 8), (6, 8), (0, 9), (1, 9), (2, 9), (3, 9), (4, 9), (5, 9), (6, 9), (0, 10), (1, 10), (2, 10), (3, 10), (4, 10), (5, 10), (6, 10)]
@[go_sem] def w209_5 : List (Nat × Nat) := [(0, 1), (0, 2), (0, 3), (0, 4), (0, 5), (1, 6), (2, 6), (3, 6), (4, 6), (5, 6)]
@[go_sem] def w210_2 : List (Nat × Nat) := [(0, 4), (1, 4), (2, 4), (3, 4), (0, 5), (1, 5), (2, 5), (3, 5), (0, 6), (1, 6), (2, 6), (3, 6), (0, 7), (1, 7), (2, 7), (3, 7), (0, 8), (1, 8), (2, 8), (3, 8), (0, 9), (1, 9), (2, 9), (3, 9), (0, 10), (1, 10), (2, 10), (3, 10), (0, 11), (1, 11), (2, 11), (3, 11)]
@[go_sem] def w211_1 : List (Nat × Nat) := [(0, 1), (0, 2), (0, 3), (0, 4), (0, 5), (0, 6), (0, 7), (0, 8), (1, 8), (2, 8), (3, 8), (4, 8), (5, 8), (6, 8), (7, 8), (0, 9), (1, 9), (2, 9), (3, 9), (4, 9), (5, 9), (6, 9), (7, 9), (0, 10), (1, 10), (2, 10), (3, 10), (4, 10), (5, 10), (6, 10), (7, 10), (0, 11), (1, 11), (2, 11), (3, 11), (4, 11), (5, 11), (6, 11), (7, 11), (0, 12), (1, 12), (2, 12), (3, 12), (4, 12), (5, 12), (6, 12), (7, 12), (8, 12), (9, 12), (10, 12), (11, 12), (0, 13), (1, 13), (2, 13), (3, 13), (4, 13), (5, 13), (6, 13), (7, 13), (8, 13), (9, 13), (10, 13), (11, 13), (0, 14), (1, 14), (2, 14), (3, 14), (4, 14), (5, 14), (6, 14), (7, 14), (8, 14), (9, 14), (10, 14), (11, 14), (0, 15), (1, 15), (2, 15), (3, 15), (4, 15), (5, 15), (6, 15), (7, 15), (8, 15), (9, 15), (10, 15), (11, 15), (0, 16), (1, 16), (2, 16), (3, 16), (4, 16), (5, 16), (6, 16), (7, 16), (8, 16), (9, 16), (10, 16), (11, 16), (0, 17), (1, 17), (2, 17), (3, 17), (4, 17), (5, 17), (6, 17), (7, 17), (8, 17), (9, 17), (10, 17), (11, 17), (0, 18), (1, 18), (2, 18), (3, 18), (4, 18), (5, 18), (6, 18), (7, 18), (8, 18), (9, 18), (10, 18), (11, 18), (0, 19), (1, 19), (2, 19), (3, 19), (4, 19), (5, 19), (6, 19), (7, 19), (8, 19), (9, 19), (10, 19), (11, 19), (12, 19), (13, 19), (14, 19), (15, 19), (16, 19), (17, 19), (18, 19), (0, 20), (1, 20), (2, 20), (3, 20), (4, 20), (5, 20), (6, 20), (7, 20), (8, 20), (9, 20), (10, 20), (11, 20), (12, 20), (13, 20), (14, 20), (15, 20), (16, 20), (17, 20), (18, 20), (0, 21), (1, 21), (2, 21), (3, 21), (4, 21), (5, 21), (6, 21), (7, 21), (8, 21), (9, 21), (10, 21), (11, 21), (12, 21), (13, 21), (14, 21), (15, 21), (16, 21), (17, 21), (18, 21), (0, 22), (1, 22), (2, 22), (3, 22), (4, 22), (5, 22), (6, 22), (7, 22), (8, 22), (9, 22), (10, 22), (11, 22), (12, 22), (13, 22), (14, 22), (15, 22), (16, 22), (17, 22), (18, 22), (0, 23), (1, 23), (2, 23), (3, 23), (4, 23), (5, 23), (6, 23), (7, 23), (8, 23), (9, 23), (10, 23), (11, 23), (0, 24), (0, 25), (0, 26), (0, 27), (26, 27), (27, 28), (27, 29), (27, 30)]
@[go_sem] def w212_1 : List (Nat × Nat) := [(0, 7), (1, 7), (2, 7), (3, 7), (4, 7), (5, 7), (6, 7), (0, 8), (1, 8), (2, 8), (3, 8), (4, 8), (5, 8), (6, 8), (0, 9), (1, 9), (2, 9), (3, 9), (4, 9), (5, 9), (6, 9), (0, 10), (1, 10), (2, 10), (3, 10), (4, 10), (5, 10), (6, 10), (0, 11), (1, 11), (2, 11), (3, 11), (4, 11), (5, 11), (6, 11), (7, 11), (8, 11), (9, 11), (10, 11), (0, 12), (1, 12), (2, 12), (3, 12), (4, 12), (5, 12), (6, 12), (7, 12), (8, 12), (9, 12), (10, 12), (0, 13), (1, 13), (2, 13), (3, 13), (4, 13), (5, 13), (6, 13), (7, 13), (8, 13), (9, 13), (10, 13), (0, 14), (1, 14), (2, 14), (3, 14), (4, 14), (5, 14), (6, 14), (7, 14), (8, 14), (9, 14), (10, 14), (0, 15), (1, 15), (2, 15), (3, 15), (4, 15), (5, 15), (6, 15), (7, 15), (8, 15), (9, 15), (10, 15), (0, 16), (1, 16), (2, 16), (3, 16), (4, 16), (5, 16), (6, 16), (7, 16), (8, 16), (9, 16), (10, 16), (0, 17), (1, 17), (2, 17), (3, 17), (4, 17), (5, 17), (6, 17), (7, 17), (8, 17), (9, 17), (10, 17), (0, 18), (1, 18), (2, 18), (3, 18), (4, 18), (5, 18), (6, 18), (7, 18), (8, 18), (9, 18), (10, 18), (11, 18), (12, 18), (13, 18), (14, 18), (15, 18), (16, 18), (17, 18), (0, 19), (1, 19), (2, 19), (3, 19), (4, 19), (5, 19), (6, 19), (7, 19), (8, 19), (9, 19), (10, 19), (11, 19), (12, 19), (13, 19), (14, 19), (15, 19), (16, 19), (17, 19), (0, 20), (1, 20), (2, 20), (3, 20), (4, 20), (5, 20), (6, 20), (7, 20), (8, 20), (9, 20), (10, 20), (11, 20), (12, 20), (13, 20), (14, 20), (15, 20), (16, 20), (17, 20), (0, 21), (1, 21), (2, 21), (3, 21), (4, 21), (5, 21), (6, 21), (7, 21), (8, 21), (9, 21), (10, 21), (11, 21), (12, 21), (13, 21), (14, 21), (15, 21), (16, 21), (17, 21), (0, 22), (1, 22), (2, 22), (3, 22), (4, 22), (5, 22), (6, 22), (7, 22), (8, 22), (9, 22), (10, 22), (0, 23), (1, 23), (2, 23), (3, 23), (4, 23), (5, 23), (6, 23), (7, 23), (8, 23), (9, 23), (10, 23), (26, 27), (27, 28)]
@[go_sem] def w213_1 : List (Nat × Nat) := [(0, 7), (1, 7), (2, 7), (3, 7), (4, 7), (5, 7), (6, 7), (0, 8), (1, 8), (2, 8), (3, 8), (4, 8), (5, 8), (6, 8), (0, 9), (1, 9), (2, 9), (3, 9), (4, 9), (5, 9), (6, 9), (0, 10), (1, 10), (2, 10), (3, 10), (4, 10), (5, 10), (6, 10), (0, 11), (1, 11), (2, 11), (3, 11), (4, 11), (5, 11), (6, 11), (7, 11), (8, 11), (9, 11), (10, 11), (0, 12), (1, 12), (2, 12), (3, 12), (4, 12), (5, 12), (6, 12), (7, 12), (8, 12), (9, 12), (10, 12), (0, 13), (1, 13), (2, 13), (3, 13), (4, 13), (5, 13), (6, 13), (7, 13), (8, 13), (9, 13), (10, 13), (0, 14), (1, 14), (2, 14), (3, 14), (4, 14), (5, 14), (6, 14), (7, 14), (8, 14), (9, 14), (10, 14), (0, 15), (1, 15), (2, 15), (3, 15), (4, 15), (5, 15), (6, 15), (7, 15), (8, 15), (9, 15), (10, 15), (0, 16), (1, 16), (2, 16), (3, 16), (4, 16), (5, 16), (6, 16), (7, 16), (8, 16), (9, 16), (10, 16), (0, 17), (1, 17), (2, 17), (3, 17), (4, 17), (5, 17), (6, 17), (7, 17), (8, 17), (9, 17), (10, 17), (0, 18), (1, 18), (2, 18), (3, 18), (4, 18), (5, 18), (6, 18), (7, 18), (8, 18), (9, 18), (10, 18), (11, 18), (12, 18), (13, 18), (14, 18), (15, 18), (16, 18), (17, 18), (0, 19), (1, 19), (2, 19), (3, 19), (4, 19), (5, 19), (6, 19), (7, 19), (8, 19), (9, 19), (10, 19), (11, 19), (12, 19), (13, 19), (14, 19), (15, 19), (16, 19), (17, 19), (0, 20), (1, 20), (2, 20), (3, 20), (4, 20), (5, 20), (6, 20), (7, 20), (8, 20), (9, 20), (10, 20), (11, 20), (12, 20), (13, 20), (14, 20), (15, 20), (16, 20), (17, 20), (0, 21), (1, 21), (2, 21), (3, 21), (4, 21), (5, 21), (6, 21), (7, 21), (8, 21), (9, 21), (10, 21), (11, 21), (12, 21), (13, 21), (14, 21), (15, 21), (16, 21), (17, 21), (0, 22), (1, 22), (2, 22), (3, 22), (4, 22), (5, 22), (6, 22), (7, 22), (8, 22), (9, 22), (10, 22), (25, 26), (26, 27)]
@[go_sem] def w216_4 : List (Nat × Nat) := [(0, 4), (1, 4), (2, 4), (3, 4), (0, 5), (1, 5), (2, 5), (3, 5), (0, 6), (1, 6), (2, 6), (3, 6), (0, 7), (1, 7), (2, 7), (3, 7), (0, 8), (1, 8), (2, 8), (3, 8), (4, 8), (5, 8), (6, 8), (7, 8), (0, 9), (1, 9), (2, 9), (3, 9), (4, 9), (5, 9), (6, 9), (7, 9), (0, 10), (1, 10), (2, 10), (3, 10), (4, 10), (5, 10), (6, 10), (7, 10), (0, 11), (1, 11), (2, 11), (3, 11), (4, 11), (5, 11), (6, 11), (7, 11), (0, 12), (1, 12), (2, 12), (3, 12), (4, 12), (5, 12), (6, 12), (7, 12), (15, 16), (16, 17)]
@[go_sem] def w216_5 : List (Nat × Nat) := [(0, 4), (1, 4), (2, 4), (3, 4), (0, 5), (1, 5), (2, 5), (3, 5), (4, 5), (0, 6), (1, 6), (2, 6), (3, 6), (4, 6), (0, 7), (1, 7), (2, 7), (3, 7), (4, 7), (0, 8), (1, 8), (2, 8), (3, 8), (5, 8), (6, 8), (7, 8), (0, 9), (1, 9), (2, 9), (3, 9), (5, 9), (6, 9), (7, 9), (0, 10), (1, 10), (2, 10), (3, 10), (0, 11), (1, 11), (2, 11), (3, 11)]
@[go_sem] def w216_7 : List (Nat × Nat) := [(0, 4), (1, 4), (2, 4), (3, 4), (0, 5), (1, 5), (2, 5), (3, 5), (0, 6), (1, 6), (2, 6), (3, 6), (0, 7), (1, 7), (2, 7), (3, 7), (0, 8), (1, 8), (2, 8), (3, 8), (4, 8), (5, 8), (6, 8), (7, 8), (0, 9), (1, 9), (2, 9), (3, 9), (4, 9), (5, 9), (6, 9), (7, 9), (0, 10), (1, 10), (2, 10), (3, 10), (4, 10), (5, 10), (6, 10), (7, 10), (0, 11), (1, 11), (2, 11), (3, 11), (4, 11), (5, 11), (6, 11), (7, 11), (0, 12), (1, 12), (2, 12), (3, 12), (4, 12), (5, 12), (6, 12), (7, 12), (0, 13), (1, 13), (2, 13), (3, 13), (4, 13), (5, 13), (6, 13), (7, 13), (0, 14), (1, 14), (2, 14), (3, 14), (4, 14), (5, 14), (6, 14), (7, 14)]
@[go_sem] def w218_5 : List (Nat × Nat) := [(0, 1), (0, 2), (0, 3), (0, 4), (0, 5), (0, 6), (1, 7), (2, 7), (3, 7), (4, 7), (5, 7), (6, 7)]
attribute [go_sem] Tryz.results3 Tryz.results5 Tryz.results7 Tryz.results8 Tryz.results9 Tryz.results13 Tryz.results14 Tryz.results15 Tryz.results17 Tryz.results18 Tryz.results23 Tryz.results26 Tryz.results27 Tryz.results28 Tryz.results29 Tryz.results30 Tryz.results31 Tryz.results32 Tryz.results33 Tryz.results34 Tryz.results35 Tryz.results51 Tryz.results53 Tryz.results54 Tryz.results55 Tryz.results56 Tryz.results57 Tryz.results58 Tryz.results59 Tryz.results60 Tryz.results61 Tryz.results62 Tryz.results63 Tryz.results64 Tryz.results65 Tryz.results66 Tryz.results67 Tryz.results68 Tryz.results69 Tryz.results70 Tryz.results71 Tryz.results77 Tryz.results79 Tryz.results80 Tryz.results85 Tryz.results86 Tryz.results89 Tryz.results90 Tryz.results95 Tryz.results132 Tryz.results133 Tryz.results135 Tryz.results136 Tryz.results137 Tryz.results138 Tryz.results139 Tryz.results140 Tryz.results141 Tryz.results142 Tryz.results143 Tryz.results144 Tryz.results145 Tryz.results146 Tryz.results148 Tryz.results149 Tryz.results150 Tryz.results151 Tryz.results152 Tryz.results153 Tryz.results155 Tryz.results156 Tryz.results157 Tryz.results158 Tryz.results159 Tryz.results160 Tryz.results161 Tryz.results162 Tryz.results163 Tryz.results164 Tryz.results166 Tryz.results167 Tryz.results168 Tryz.results169 Tryz.results170 Tryz.results171 Tryz.results172 Tryz.results173 Tryz.results174 Tryz.results175 Tryz.results176 Tryz.results177 Tryz.results179 Tryz.results180 Tryz.results181 Tryz.results182 Tryz.results183 Tryz.results184 Tryz.results185 Tryz.results186 Tryz.results187 Tryz.results188 Tryz.results189 Tryz.results191 Tryz.results192 Tryz.results193 Tryz.results194 Tryz.results195 Tryz.results196 Tryz.results197 Tryz.results199 Tryz.results200 Tryz.results201 Tryz.results202 Tryz.results203 Tryz.results204 Tryz.results205 Tryz.results206 Tryz.results207 Tryz.results208 Tryz.results209 Tryz.results210 Tryz.results211 Tryz.results212 Tryz.results213 Tryz.results214 Tryz.results215 Tryz.results216 Tryz.results217 Tryz.results218
attribute [go_sem] Tryz.ntmps3 Tryz.ntmps5 Tryz.ntmps7 Tryz.ntmps8 Tryz.ntmps9 Tryz.ntmps13 Tryz.ntmps14 Tryz.ntmps15 Tryz.ntmps17 Tryz.ntmps18 Tryz.ntmps23 Tryz.ntmps26 Tryz.ntmps27 Tryz.ntmps28 Tryz.ntmps29 Tryz.ntmps30 Tryz.ntmps31 Tryz.ntmps32 Tryz.ntmps33 Tryz.ntmps34 Tryz.ntmps35 Tryz.ntmps51 Tryz.ntmps53 Tryz.ntmps54 Tryz.ntmps55 Tryz.ntmps56 Tryz.ntmps57 Tryz.ntmps58 Tryz.ntmps59 Tryz.ntmps60 Tryz.ntmps61 Tryz.ntmps62 Tryz.ntmps63 Tryz.ntmps64 Tryz.ntmps65 Tryz.ntmps66 Tryz.ntmps67 Tryz.ntmps68 Tryz.ntmps69 Tryz.ntmps70 Tryz.ntmps71 Tryz.ntmps77 Tryz.ntmps79 Tryz.ntmps80 Tryz.ntmps85 Tryz.ntmps86 Tryz.ntmps89 Tryz.ntmps90 Tryz.ntmps95 Tryz.ntmps132 Tryz.ntmps133 Tryz.ntmps135 Tryz.ntmps136 Tryz.ntmps137 Tryz.ntmps138 Tryz.ntmps139 Tryz.ntmps140 Tryz.ntmps141 Tryz.ntmps142 Tryz.ntmps143 Tryz.ntmps144 Tryz.ntmps145 Tryz.ntmps146 Tryz.ntmps148 Tryz.ntmps149 Tryz.ntmps150 Tryz.ntmps151 Tryz.ntmps152 Tryz.ntmps153 Tryz.ntmps155 Tryz.ntmps156 Tryz.ntmps157 Tryz.ntmps158 Tryz.ntmps159 Tryz.ntmps160 Tryz.ntmps161 Tryz.ntmps162 Tryz.ntmps163 Tryz.ntmps164 Tryz.ntmps166 Tryz.ntmps167 Tryz.ntmps168 Tryz.ntmps169 Tryz.ntmps170 Tryz.ntmps171 Tryz.ntmps172 Tryz.ntmps173 Tryz.ntmps174 Tryz.ntmps175 Tryz.ntmps176 Tryz.ntmps177 Tryz.ntmps179 Tryz.ntmps180 Tryz.ntmps181 Tryz.ntmps182 Tryz.ntmps183 Tryz.ntmps184 Tryz.ntmps185 Tryz.ntmps186 Tryz.ntmps187 Tryz.ntmps188 Tryz.ntmps189 Tryz.ntmps191 Tryz.ntmps192 Tryz.ntmps193 Tryz.ntmps194 Tryz.ntmps195 Tryz.ntmps196 Tryz.ntmps197 Tryz.ntmps199 Tryz.ntmps200 Tryz.ntmps201 Tryz.ntmps202 Tryz.ntmps203 Tryz.ntmps204 Tryz.ntmps205 Tryz.ntmps206 Tryz.ntmps207 Tryz.ntmps208 Tryz.ntmps209 Tryz.ntmps210 Tryz.ntmps211 Tryz.ntmps212 Tryz.ntmps213 Tryz.ntmps214 Tryz.ntmps215 Tryz.ntmps216 Tryz.ntmps217 Tryz.ntmps218
end Go.Proofs.YtbceiadaihphaaaGreat
