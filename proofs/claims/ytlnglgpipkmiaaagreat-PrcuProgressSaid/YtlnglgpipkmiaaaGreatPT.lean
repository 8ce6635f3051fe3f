/-
  What the program's types are, in the abstract machine's words: read off the program by program.
-/
import Derived.Test.YtlnglgpipkmiaaaGreatProg
import Derived.Test.YtlnglgpipkmiaaaGreatAmV2
set_option linter.unusedVariables false
set_option maxRecDepth 100000
namespace Go.Proofs.YtlnglgpipkmiaaaGreat
open Go.Am
attribute [go_sem] Tryz.underlying0
@[go_sem] theorem sz0 : szT Tryz.prog 0 = some 1 := rfl
@[go_sem] theorem ag0 : agT Tryz.prog 0 = some false := rfl
attribute [go_sem] Tryz.underlying3
@[go_sem] theorem sz3 : szT Tryz.prog 3 = some 1 := rfl
@[go_sem] theorem ag3 : agT Tryz.prog 3 = some false := rfl
@[go_sem] theorem zc3 : zcT Tryz.prog 3 = some [.int .i64 0] := rfl
attribute [go_sem] Tryz.underlying4
@[go_sem] theorem sz4 : szT Tryz.prog 4 = some 1 := rfl
@[go_sem] theorem ag4 : agT Tryz.prog 4 = some false := rfl
@[go_sem] theorem zc4 : zcT Tryz.prog 4 = some [.bool false] := rfl
attribute [go_sem] Tryz.underlying5
@[go_sem] theorem sz5 : szT Tryz.prog 5 = some 1 := rfl
@[go_sem] theorem ag5 : agT Tryz.prog 5 = some false := rfl
@[go_sem] theorem zc5 : zcT Tryz.prog 5 = some [.int .u8 0] := rfl
attribute [go_sem] Tryz.underlying22
@[go_sem] theorem sz22 : szT Tryz.prog 22 = some 1 := rfl
@[go_sem] theorem ag22 : agT Tryz.prog 22 = some false := rfl
@[go_sem] theorem zc22 : zcT Tryz.prog 22 = some [.slice none 0 0] := rfl
@[go_sem] theorem ia22 : iaT Tryz.prog 22 = some (none, 4) := rfl
@[go_sem] theorem el22 : elT Tryz.prog 22 = some (4, 16, [.int .u8 0, .int .u8 0, .int .u8 0, .int .u64 0]) := rfl
@[go_sem] theorem ap22 : apT Tryz.prog 22 22 = some (4, 16, 4) := rfl
attribute [go_sem] Tryz.underlying23
@[go_sem] theorem sz23 : szT Tryz.prog 23 = some 1 := rfl
@[go_sem] theorem ag23 : agT Tryz.prog 23 = some false := rfl
@[go_sem] theorem zc23 : zcT Tryz.prog 23 = some [.int .u64 0] := rfl
attribute [go_sem] Tryz.underlying25
@[go_sem] theorem sz25 : szT Tryz.prog 25 = some 2 := rfl
@[go_sem] theorem ag25 : agT Tryz.prog 25 = some true := rfl
@[go_sem] theorem zc25 : zcT Tryz.prog 25 = some [.int .u64 0, .int .u8 0] := rfl
@[go_sem] theorem bd25 : bdT Tryz.prog 25 = some ([.int .u64 0, .int .u8 0], fun j => [(0, 1), (1, 1)][j]?) := rfl
@[go_sem] theorem fa25_0 : faT Tryz.prog 25 0 = some (0, 1) := rfl
@[go_sem] theorem fd25_0 : fdT Tryz.prog 25 0 = some (0, 1, false) := rfl
@[go_sem] theorem fa25_1 : faT Tryz.prog 25 1 = some (1, 1) := rfl
@[go_sem] theorem fd25_1 : fdT Tryz.prog 25 1 = some (1, 1, false) := rfl
attribute [go_sem] Tryz.underlying27
@[go_sem] theorem sz27 : szT Tryz.prog 27 = some 1 := rfl
@[go_sem] theorem ag27 : agT Tryz.prog 27 = some false := rfl
@[go_sem] theorem zc27 : zcT Tryz.prog 27 = some [.pointer none] := rfl
attribute [go_sem] Tryz.underlying30
@[go_sem] theorem sz30 : szT Tryz.prog 30 = some 1 := rfl
@[go_sem] theorem ag30 : agT Tryz.prog 30 = some false := rfl
@[go_sem] theorem zc30 : zcT Tryz.prog 30 = some [.pointer none] := rfl
attribute [go_sem] Tryz.underlying31
@[go_sem] theorem sz31 : szT Tryz.prog 31 = some 1 := rfl
@[go_sem] theorem ag31 : agT Tryz.prog 31 = some false := rfl
@[go_sem] theorem zc31 : zcT Tryz.prog 31 = some [.pointer none] := rfl
attribute [go_sem] Tryz.underlying32
@[go_sem] theorem sz32 : szT Tryz.prog 32 = some 1 := rfl
@[go_sem] theorem ag32 : agT Tryz.prog 32 = some false := rfl
@[go_sem] theorem zc32 : zcT Tryz.prog 32 = some [.pointer none] := rfl
attribute [go_sem] Tryz.underlying33
@[go_sem] theorem sz33 : szT Tryz.prog 33 = some 1 := rfl
@[go_sem] theorem ag33 : agT Tryz.prog 33 = some false := rfl
@[go_sem] theorem zc33 : zcT Tryz.prog 33 = some [.slice none 0 0] := rfl
@[go_sem] theorem ia33 : iaT Tryz.prog 33 = some (none, 1) := rfl
@[go_sem] theorem el33 : elT Tryz.prog 33 = some (1, 8, [.int .i64 0]) := rfl
@[go_sem] theorem ap33 : apT Tryz.prog 33 33 = some (1, 8, 1) := rfl
attribute [go_sem] Tryz.underlying35
@[go_sem] theorem sz35 : szT Tryz.prog 35 = some 7 := rfl
@[go_sem] theorem ag35 : agT Tryz.prog 35 = some true := rfl
@[go_sem] theorem zc35 : zcT Tryz.prog 35 = some [.pointer none, .pointer none, .bool false, .int .i64 0, .int .i64 0, .int .u64 0, .slice none 0 0] := rfl
@[go_sem] theorem bd35 : bdT Tryz.prog 35 = some ([.pointer none, .pointer none, .bool false, .int .i64 0, .int .i64 0, .int .u64 0, .slice none 0 0], fun j => [(0, 1), (1, 1), (2, 1), (3, 1), (4, 1), (5, 1), (6, 1)][j]?) := rfl
@[go_sem] theorem fa35_0 : faT Tryz.prog 35 0 = some (0, 1) := rfl
@[go_sem] theorem fd35_0 : fdT Tryz.prog 35 0 = some (0, 1, false) := rfl
@[go_sem] theorem fa35_1 : faT Tryz.prog 35 1 = some (1, 1) := rfl
@[go_sem] theorem fd35_1 : fdT Tryz.prog 35 1 = some (1, 1, false) := rfl
@[go_sem] theorem fa35_2 : faT Tryz.prog 35 2 = some (2, 1) := rfl
@[go_sem] theorem fd35_2 : fdT Tryz.prog 35 2 = some (2, 1, false) := rfl
@[go_sem] theorem fa35_3 : faT Tryz.prog 35 3 = some (3, 1) := rfl
@[go_sem] theorem fd35_3 : fdT Tryz.prog 35 3 = some (3, 1, false) := rfl
@[go_sem] theorem fa35_4 : faT Tryz.prog 35 4 = some (4, 1) := rfl
@[go_sem] theorem fd35_4 : fdT Tryz.prog 35 4 = some (4, 1, false) := rfl
@[go_sem] theorem fa35_5 : faT Tryz.prog 35 5 = some (5, 1) := rfl
@[go_sem] theorem fd35_5 : fdT Tryz.prog 35 5 = some (5, 1, false) := rfl
@[go_sem] theorem fa35_6 : faT Tryz.prog 35 6 = some (6, 1) := rfl
@[go_sem] theorem fd35_6 : fdT Tryz.prog 35 6 = some (6, 1, false) := rfl
attribute [go_sem] Tryz.underlying36
@[go_sem] theorem sz36 : szT Tryz.prog 36 = some 1 := rfl
@[go_sem] theorem ag36 : agT Tryz.prog 36 = some false := rfl
@[go_sem] theorem zc36 : zcT Tryz.prog 36 = some [.pointer none] := rfl
attribute [go_sem] Tryz.underlying37
@[go_sem] theorem sz37 : szT Tryz.prog 37 = some 1 := rfl
@[go_sem] theorem ag37 : agT Tryz.prog 37 = some false := rfl
@[go_sem] theorem zc37 : zcT Tryz.prog 37 = some [.pointer none] := rfl
attribute [go_sem] Tryz.underlying38
@[go_sem] theorem sz38 : szT Tryz.prog 38 = some 42 := rfl
@[go_sem] theorem ag38 : agT Tryz.prog 38 = some true := rfl
@[go_sem] theorem zc38 : zcT Tryz.prog 38 = some [.pointer none, .pointer none, .bool false, .int .i64 0, .int .i64 0, .int .u64 0, .slice none 0 0, .pointer none, .pointer none, .bool false, .int .i64 0, .int .i64 0, .int .u64 0, .slice none 0 0, .pointer none, .pointer none, .bool false, .int .i64 0, .int .i64 0, .int .u64 0, .slice none 0 0, .pointer none, .pointer none, .bool false, .int .i64 0, .int .i64 0, .int .u64 0, .slice none 0 0, .pointer none, .pointer none, .bool false, .int .i64 0, .int .i64 0, .int .u64 0, .slice none 0 0, .pointer none, .pointer none, .bool false, .int .i64 0, .int .i64 0, .int .u64 0, .slice none 0 0] := rfl
@[go_sem] theorem bd38 : bdT Tryz.prog 38 = some ([.pointer none, .pointer none, .bool false, .int .i64 0, .int .i64 0, .int .u64 0, .slice none 0 0, .pointer none, .pointer none, .bool false, .int .i64 0, .int .i64 0, .int .u64 0, .slice none 0 0, .pointer none, .pointer none, .bool false, .int .i64 0, .int .i64 0, .int .u64 0, .slice none 0 0, .pointer none, .pointer none, .bool false, .int .i64 0, .int .i64 0, .int .u64 0, .slice none 0 0, .pointer none, .pointer none, .bool false, .int .i64 0, .int .i64 0, .int .u64 0, .slice none 0 0, .pointer none, .pointer none, .bool false, .int .i64 0, .int .i64 0, .int .u64 0, .slice none 0 0], fun j => some (j * 7, 7)) := rfl
@[go_sem] theorem ia38 : iaT Tryz.prog 38 = some (some 6, 7) := rfl
@[go_sem] theorem ix38 : ixT Tryz.prog 38 = some (6, 7, true) := rfl
attribute [go_sem] Tryz.underlying40
@[go_sem] theorem sz40 : szT Tryz.prog 40 = some 44 := rfl
@[go_sem] theorem ag40 : agT Tryz.prog 40 = some true := rfl
@[go_sem] theorem zc40 : zcT Tryz.prog 40 = some [.pointer none, .pointer none, .pointer none, .pointer none, .bool false, .int .i64 0, .int .i64 0, .int .u64 0, .slice none 0 0, .pointer none, .pointer none, .bool false, .int .i64 0, .int .i64 0, .int .u64 0, .slice none 0 0, .pointer none, .pointer none, .bool false, .int .i64 0, .int .i64 0, .int .u64 0, .slice none 0 0, .pointer none, .pointer none, .bool false, .int .i64 0, .int .i64 0, .int .u64 0, .slice none 0 0, .pointer none, .pointer none, .bool false, .int .i64 0, .int .i64 0, .int .u64 0, .slice none 0 0, .pointer none, .pointer none, .bool false, .int .i64 0, .int .i64 0, .int .u64 0, .slice none 0 0] := rfl
@[go_sem] theorem bd40 : bdT Tryz.prog 40 = some ([.pointer none, .pointer none, .pointer none, .pointer none, .bool false, .int .i64 0, .int .i64 0, .int .u64 0, .slice none 0 0, .pointer none, .pointer none, .bool false, .int .i64 0, .int .i64 0, .int .u64 0, .slice none 0 0, .pointer none, .pointer none, .bool false, .int .i64 0, .int .i64 0, .int .u64 0, .slice none 0 0, .pointer none, .pointer none, .bool false, .int .i64 0, .int .i64 0, .int .u64 0, .slice none 0 0, .pointer none, .pointer none, .bool false, .int .i64 0, .int .i64 0, .int .u64 0, .slice none 0 0, .pointer none, .pointer none, .bool false, .int .i64 0, .int .i64 0, .int .u64 0, .slice none 0 0], fun j => [(0, 1), (1, 1), (2, 42)][j]?) := rfl
@[go_sem] theorem fa40_0 : faT Tryz.prog 40 0 = some (0, 1) := rfl
@[go_sem] theorem fd40_0 : fdT Tryz.prog 40 0 = some (0, 1, false) := rfl
@[go_sem] theorem fa40_1 : faT Tryz.prog 40 1 = some (1, 1) := rfl
@[go_sem] theorem fd40_1 : fdT Tryz.prog 40 1 = some (1, 1, false) := rfl
@[go_sem] theorem fa40_2 : faT Tryz.prog 40 2 = some (2, 42) := rfl
@[go_sem] theorem fd40_2 : fdT Tryz.prog 40 2 = some (2, 42, true) := rfl
attribute [go_sem] Tryz.underlying52
@[go_sem] theorem sz52 : szT Tryz.prog 52 = some 1 := rfl
@[go_sem] theorem ag52 : agT Tryz.prog 52 = some false := rfl
@[go_sem] theorem zc52 : zcT Tryz.prog 52 = some [.int .i64 0] := rfl
attribute [go_sem] Tryz.underlying53
@[go_sem] theorem sz53 : szT Tryz.prog 53 = some 1 := rfl
@[go_sem] theorem ag53 : agT Tryz.prog 53 = some false := rfl
attribute [go_sem] Tryz.underlying55
@[go_sem] theorem sz55 : szT Tryz.prog 55 = some 1 := rfl
@[go_sem] theorem ag55 : agT Tryz.prog 55 = some false := rfl
@[go_sem] theorem zc55 : zcT Tryz.prog 55 = some [.slice none 0 0] := rfl
@[go_sem] theorem ia55 : iaT Tryz.prog 55 = some (none, 1) := rfl
@[go_sem] theorem el55 : elT Tryz.prog 55 = some (1, 8, [.int .u64 0]) := rfl
@[go_sem] theorem ap55 : apT Tryz.prog 55 55 = some (1, 8, 1) := rfl
attribute [go_sem] Tryz.underlying59
@[go_sem] theorem sz59 : szT Tryz.prog 59 = some 1 := rfl
@[go_sem] theorem ag59 : agT Tryz.prog 59 = some false := rfl
attribute [go_sem] Tryz.underlying64
@[go_sem] theorem sz64 : szT Tryz.prog 64 = some 1 := rfl
@[go_sem] theorem ag64 : agT Tryz.prog 64 = some false := rfl
@[go_sem] theorem zc64 : zcT Tryz.prog 64 = some [.nilFunc] := rfl
attribute [go_sem] Tryz.underlying68
@[go_sem] theorem sz68 : szT Tryz.prog 68 = some 1 := rfl
@[go_sem] theorem ag68 : agT Tryz.prog 68 = some false := rfl
attribute [go_sem] Tryz.underlying75
@[go_sem] theorem sz75 : szT Tryz.prog 75 = some 1 := rfl
@[go_sem] theorem ag75 : agT Tryz.prog 75 = some false := rfl
attribute [go_sem] Tryz.underlying77
@[go_sem] theorem sz77 : szT Tryz.prog 77 = some 1 := rfl
@[go_sem] theorem ag77 : agT Tryz.prog 77 = some false := rfl
attribute [go_sem] Tryz.underlying82
@[go_sem] theorem sz82 : szT Tryz.prog 82 = some 1 := rfl
@[go_sem] theorem ag82 : agT Tryz.prog 82 = some false := rfl
@[go_sem] theorem zc82 : zcT Tryz.prog 82 = some [.slice none 0 0] := rfl
@[go_sem] theorem ia82 : iaT Tryz.prog 82 = some (none, 6) := rfl
@[go_sem] theorem el82 : elT Tryz.prog 82 = some (6, 48, [.int .i64 0, .int .i64 0, .int .u8 0, .int .u64 0, .int .u64 0, .bool false]) := rfl
@[go_sem] theorem ap82 : apT Tryz.prog 82 82 = some (6, 48, 6) := rfl
attribute [go_sem] Tryz.underlying87
@[go_sem] theorem sz87 : szT Tryz.prog 87 = some 1 := rfl
@[go_sem] theorem ag87 : agT Tryz.prog 87 = some false := rfl
attribute [go_sem] Tryz.underlying90
@[go_sem] theorem sz90 : szT Tryz.prog 90 = some 4 := rfl
@[go_sem] theorem ag90 : agT Tryz.prog 90 = some true := rfl
@[go_sem] theorem zc90 : zcT Tryz.prog 90 = some [.int .u8 0, .int .u8 0, .int .u8 0, .int .u64 0] := rfl
@[go_sem] theorem bd90 : bdT Tryz.prog 90 = some ([.int .u8 0, .int .u8 0, .int .u8 0, .int .u64 0], fun j => [(0, 1), (1, 1), (2, 1), (3, 1)][j]?) := rfl
@[go_sem] theorem fa90_0 : faT Tryz.prog 90 0 = some (0, 1) := rfl
@[go_sem] theorem fd90_0 : fdT Tryz.prog 90 0 = some (0, 1, false) := rfl
@[go_sem] theorem fa90_1 : faT Tryz.prog 90 1 = some (1, 1) := rfl
@[go_sem] theorem fd90_1 : fdT Tryz.prog 90 1 = some (1, 1, false) := rfl
@[go_sem] theorem fa90_2 : faT Tryz.prog 90 2 = some (2, 1) := rfl
@[go_sem] theorem fd90_2 : fdT Tryz.prog 90 2 = some (2, 1, false) := rfl
@[go_sem] theorem fa90_3 : faT Tryz.prog 90 3 = some (3, 1) := rfl
@[go_sem] theorem fd90_3 : fdT Tryz.prog 90 3 = some (3, 1, false) := rfl
attribute [go_sem] Tryz.underlying91
@[go_sem] theorem sz91 : szT Tryz.prog 91 = some 1 := rfl
@[go_sem] theorem ag91 : agT Tryz.prog 91 = some false := rfl
@[go_sem] theorem zc91 : zcT Tryz.prog 91 = some [.nilFunc] := rfl
attribute [go_sem] Tryz.underlying92
@[go_sem] theorem sz92 : szT Tryz.prog 92 = some 1 := rfl
@[go_sem] theorem ag92 : agT Tryz.prog 92 = some false := rfl
@[go_sem] theorem zc92 : zcT Tryz.prog 92 = some [.int .u64 0] := rfl
attribute [go_sem] Tryz.underlying94
@[go_sem] theorem sz94 : szT Tryz.prog 94 = some 1 := rfl
@[go_sem] theorem ag94 : agT Tryz.prog 94 = some false := rfl
@[go_sem] theorem zc94 : zcT Tryz.prog 94 = some [.nilIface] := rfl
attribute [go_sem] Tryz.underlying96
@[go_sem] theorem sz96 : szT Tryz.prog 96 = some 3 := rfl
@[go_sem] theorem ag96 : agT Tryz.prog 96 = some true := rfl
@[go_sem] theorem zc96 : zcT Tryz.prog 96 = some [.nilIface, .int .u8 0, .int .i64 0] := rfl
@[go_sem] theorem bd96 : bdT Tryz.prog 96 = some ([.nilIface, .int .u8 0, .int .i64 0], fun j => [(0, 1), (1, 1), (2, 1)][j]?) := rfl
@[go_sem] theorem fa96_0 : faT Tryz.prog 96 0 = some (0, 1) := rfl
@[go_sem] theorem fd96_0 : fdT Tryz.prog 96 0 = some (0, 1, false) := rfl
@[go_sem] theorem fa96_1 : faT Tryz.prog 96 1 = some (1, 1) := rfl
@[go_sem] theorem fd96_1 : fdT Tryz.prog 96 1 = some (1, 1, false) := rfl
@[go_sem] theorem fa96_2 : faT Tryz.prog 96 2 = some (2, 1) := rfl
@[go_sem] theorem fd96_2 : fdT Tryz.prog 96 2 = some (2, 1, false) := rfl
attribute [go_sem] Tryz.underlying98
@[go_sem] theorem sz98 : szT Tryz.prog 98 = some 1 := rfl
@[go_sem] theorem ag98 : agT Tryz.prog 98 = some false := rfl
@[go_sem] theorem zc98 : zcT Tryz.prog 98 = some [.slice none 0 0] := rfl
@[go_sem] theorem ia98 : iaT Tryz.prog 98 = some (none, 1) := rfl
@[go_sem] theorem el98 : elT Tryz.prog 98 = some (1, 8, [.int .u64 0]) := rfl
@[go_sem] theorem ap98 : apT Tryz.prog 98 98 = some (1, 8, 1) := rfl
attribute [go_sem] Tryz.underlying100
@[go_sem] theorem sz100 : szT Tryz.prog 100 = some 2 := rfl
@[go_sem] theorem ag100 : agT Tryz.prog 100 = some true := rfl
@[go_sem] theorem zc100 : zcT Tryz.prog 100 = some [.slice none 0 0, .slice none 0 0] := rfl
@[go_sem] theorem bd100 : bdT Tryz.prog 100 = some ([.slice none 0 0, .slice none 0 0], fun j => [(0, 1), (1, 1)][j]?) := rfl
@[go_sem] theorem fa100_0 : faT Tryz.prog 100 0 = some (0, 1) := rfl
@[go_sem] theorem fd100_0 : fdT Tryz.prog 100 0 = some (0, 1, false) := rfl
@[go_sem] theorem fa100_1 : faT Tryz.prog 100 1 = some (1, 1) := rfl
@[go_sem] theorem fd100_1 : fdT Tryz.prog 100 1 = some (1, 1, false) := rfl
attribute [go_sem] Tryz.underlying105
@[go_sem] theorem sz105 : szT Tryz.prog 105 = some 1 := rfl
@[go_sem] theorem ag105 : agT Tryz.prog 105 = some true := rfl
@[go_sem] theorem zc105 : zcT Tryz.prog 105 = some [.int .u64 0] := rfl
@[go_sem] theorem bd105 : bdT Tryz.prog 105 = some ([.int .u64 0], fun j => [(0, 0), (0, 0), (0, 1)][j]?) := rfl
@[go_sem] theorem fa105_0 : faT Tryz.prog 105 0 = some (0, 0) := rfl
@[go_sem] theorem fd105_0 : fdT Tryz.prog 105 0 = some (0, 0, true) := rfl
@[go_sem] theorem fa105_1 : faT Tryz.prog 105 1 = some (0, 0) := rfl
@[go_sem] theorem fd105_1 : fdT Tryz.prog 105 1 = some (0, 0, true) := rfl
@[go_sem] theorem fa105_2 : faT Tryz.prog 105 2 = some (0, 1) := rfl
@[go_sem] theorem fd105_2 : fdT Tryz.prog 105 2 = some (0, 1, false) := rfl
attribute [go_sem] Tryz.underlying106
@[go_sem] theorem sz106 : szT Tryz.prog 106 = some 1 := rfl
@[go_sem] theorem ag106 : agT Tryz.prog 106 = some false := rfl
@[go_sem] theorem zc106 : zcT Tryz.prog 106 = some [.nilFunc] := rfl
attribute [go_sem] Tryz.underlying107
@[go_sem] theorem sz107 : szT Tryz.prog 107 = some 1 := rfl
@[go_sem] theorem ag107 : agT Tryz.prog 107 = some false := rfl
@[go_sem] theorem zc107 : zcT Tryz.prog 107 = some [.pointer none] := rfl
attribute [go_sem] Tryz.underlying108
@[go_sem] theorem sz108 : szT Tryz.prog 108 = some 1 := rfl
@[go_sem] theorem ag108 : agT Tryz.prog 108 = some false := rfl
attribute [go_sem] Tryz.underlying111
@[go_sem] theorem sz111 : szT Tryz.prog 111 = some 1 := rfl
@[go_sem] theorem ag111 : agT Tryz.prog 111 = some false := rfl
@[go_sem] theorem zc111 : zcT Tryz.prog 111 = some [.nilIface] := rfl
attribute [go_sem] Tryz.underlying113
@[go_sem] theorem sz113 : szT Tryz.prog 113 = some 1 := rfl
@[go_sem] theorem ag113 : agT Tryz.prog 113 = some true := rfl
@[go_sem] theorem zc113 : zcT Tryz.prog 113 = some [.nilIface] := rfl
@[go_sem] theorem bd113 : bdT Tryz.prog 113 = some ([.nilIface], fun j => [(0, 1)][j]?) := rfl
@[go_sem] theorem fa113_0 : faT Tryz.prog 113 0 = some (0, 1) := rfl
@[go_sem] theorem fd113_0 : fdT Tryz.prog 113 0 = some (0, 1, false) := rfl
attribute [go_sem] Tryz.underlying114
@[go_sem] theorem sz114 : szT Tryz.prog 114 = some 1 := rfl
@[go_sem] theorem ag114 : agT Tryz.prog 114 = some false := rfl
@[go_sem] theorem zc114 : zcT Tryz.prog 114 = some [.pointer none] := rfl
attribute [go_sem] Tryz.underlying115
@[go_sem] theorem sz115 : szT Tryz.prog 115 = some 1 := rfl
@[go_sem] theorem ag115 : agT Tryz.prog 115 = some false := rfl
attribute [go_sem] Tryz.underlying118
@[go_sem] theorem sz118 : szT Tryz.prog 118 = some 1 := rfl
@[go_sem] theorem ag118 : agT Tryz.prog 118 = some false := rfl
@[go_sem] theorem zc118 : zcT Tryz.prog 118 = some [.nilIface] := rfl
attribute [go_sem] Tryz.underlying120
@[go_sem] theorem sz120 : szT Tryz.prog 120 = some 1 := rfl
@[go_sem] theorem ag120 : agT Tryz.prog 120 = some true := rfl
@[go_sem] theorem zc120 : zcT Tryz.prog 120 = some [.nilIface] := rfl
@[go_sem] theorem bd120 : bdT Tryz.prog 120 = some ([.nilIface], fun j => [(0, 1)][j]?) := rfl
@[go_sem] theorem fa120_0 : faT Tryz.prog 120 0 = some (0, 1) := rfl
@[go_sem] theorem fd120_0 : fdT Tryz.prog 120 0 = some (0, 1, false) := rfl
attribute [go_sem] Tryz.underlying121
@[go_sem] theorem sz121 : szT Tryz.prog 121 = some 1 := rfl
@[go_sem] theorem ag121 : agT Tryz.prog 121 = some false := rfl
@[go_sem] theorem zc121 : zcT Tryz.prog 121 = some [.pointer none] := rfl
attribute [go_sem] Tryz.underlying122
@[go_sem] theorem sz122 : szT Tryz.prog 122 = some 1 := rfl
@[go_sem] theorem ag122 : agT Tryz.prog 122 = some false := rfl
attribute [go_sem] Tryz.underlying125
@[go_sem] theorem sz125 : szT Tryz.prog 125 = some 1 := rfl
@[go_sem] theorem ag125 : agT Tryz.prog 125 = some false := rfl
@[go_sem] theorem zc125 : zcT Tryz.prog 125 = some [.nilIface] := rfl
attribute [go_sem] Tryz.underlying127
@[go_sem] theorem sz127 : szT Tryz.prog 127 = some 1 := rfl
@[go_sem] theorem ag127 : agT Tryz.prog 127 = some true := rfl
@[go_sem] theorem zc127 : zcT Tryz.prog 127 = some [.nilIface] := rfl
@[go_sem] theorem bd127 : bdT Tryz.prog 127 = some ([.nilIface], fun j => [(0, 1)][j]?) := rfl
@[go_sem] theorem fa127_0 : faT Tryz.prog 127 0 = some (0, 1) := rfl
@[go_sem] theorem fd127_0 : fdT Tryz.prog 127 0 = some (0, 1, false) := rfl
attribute [go_sem] Tryz.underlying141
@[go_sem] theorem sz141 : szT Tryz.prog 141 = some 1 := rfl
@[go_sem] theorem ag141 : agT Tryz.prog 141 = some false := rfl
@[go_sem] theorem zc141 : zcT Tryz.prog 141 = some [.nilIface] := rfl
attribute [go_sem] Tryz.underlying142
@[go_sem] theorem sz142 : szT Tryz.prog 142 = some 1 := rfl
@[go_sem] theorem ag142 : agT Tryz.prog 142 = some false := rfl
attribute [go_sem] Tryz.underlying145
@[go_sem] theorem sz145 : szT Tryz.prog 145 = some 1 := rfl
@[go_sem] theorem ag145 : agT Tryz.prog 145 = some true := rfl
@[go_sem] theorem zc145 : zcT Tryz.prog 145 = some [.nilIface] := rfl
@[go_sem] theorem bd145 : bdT Tryz.prog 145 = some ([.nilIface], fun j => [(0, 1)][j]?) := rfl
@[go_sem] theorem fa145_0 : faT Tryz.prog 145 0 = some (0, 1) := rfl
@[go_sem] theorem fd145_0 : fdT Tryz.prog 145 0 = some (0, 1, false) := rfl
attribute [go_sem] Tryz.underlying161
@[go_sem] theorem sz161 : szT Tryz.prog 161 = some 1 := rfl
@[go_sem] theorem ag161 : agT Tryz.prog 161 = some true := rfl
@[go_sem] theorem zc161 : zcT Tryz.prog 161 = some [.nilIface] := rfl
@[go_sem] theorem bd161 : bdT Tryz.prog 161 = some ([.nilIface], fun j => [(0, 1)][j]?) := rfl
@[go_sem] theorem fa161_0 : faT Tryz.prog 161 0 = some (0, 1) := rfl
@[go_sem] theorem fd161_0 : fdT Tryz.prog 161 0 = some (0, 1, false) := rfl
attribute [go_sem] Tryz.underlying168
@[go_sem] theorem sz168 : szT Tryz.prog 168 = some 1 := rfl
@[go_sem] theorem ag168 : agT Tryz.prog 168 = some false := rfl
attribute [go_sem] Tryz.underlying169
@[go_sem] theorem sz169 : szT Tryz.prog 169 = some 1 := rfl
@[go_sem] theorem ag169 : agT Tryz.prog 169 = some false := rfl
@[go_sem] theorem zc169 : zcT Tryz.prog 169 = some [.nilFunc] := rfl
attribute [go_sem] Tryz.underlying171
@[go_sem] theorem sz171 : szT Tryz.prog 171 = some 6 := rfl
@[go_sem] theorem ag171 : agT Tryz.prog 171 = some true := rfl
@[go_sem] theorem zc171 : zcT Tryz.prog 171 = some [.int .i64 0, .int .i64 0, .int .u8 0, .int .u64 0, .int .u64 0, .bool false] := rfl
@[go_sem] theorem bd171 : bdT Tryz.prog 171 = some ([.int .i64 0, .int .i64 0, .int .u8 0, .int .u64 0, .int .u64 0, .bool false], fun j => [(0, 1), (1, 1), (2, 1), (3, 1), (4, 1), (5, 1)][j]?) := rfl
@[go_sem] theorem fa171_0 : faT Tryz.prog 171 0 = some (0, 1) := rfl
@[go_sem] theorem fd171_0 : fdT Tryz.prog 171 0 = some (0, 1, false) := rfl
@[go_sem] theorem fa171_1 : faT Tryz.prog 171 1 = some (1, 1) := rfl
@[go_sem] theorem fd171_1 : fdT Tryz.prog 171 1 = some (1, 1, false) := rfl
@[go_sem] theorem fa171_2 : faT Tryz.prog 171 2 = some (2, 1) := rfl
@[go_sem] theorem fd171_2 : fdT Tryz.prog 171 2 = some (2, 1, false) := rfl
@[go_sem] theorem fa171_3 : faT Tryz.prog 171 3 = some (3, 1) := rfl
@[go_sem] theorem fd171_3 : fdT Tryz.prog 171 3 = some (3, 1, false) := rfl
@[go_sem] theorem fa171_4 : faT Tryz.prog 171 4 = some (4, 1) := rfl
@[go_sem] theorem fd171_4 : fdT Tryz.prog 171 4 = some (4, 1, false) := rfl
@[go_sem] theorem fa171_5 : faT Tryz.prog 171 5 = some (5, 1) := rfl
@[go_sem] theorem fd171_5 : fdT Tryz.prog 171 5 = some (5, 1, false) := rfl
attribute [go_sem] Tryz.underlying174
@[go_sem] theorem sz174 : szT Tryz.prog 174 = some 1 := rfl
@[go_sem] theorem ag174 : agT Tryz.prog 174 = some false := rfl
@[go_sem] theorem zc174 : zcT Tryz.prog 174 = some [.pointer none] := rfl
attribute [go_sem] Tryz.underlying177
@[go_sem] theorem sz177 : szT Tryz.prog 177 = some 1 := rfl
@[go_sem] theorem ag177 : agT Tryz.prog 177 = some false := rfl
attribute [go_sem] Tryz.underlying179
@[go_sem] theorem sz179 : szT Tryz.prog 179 = some 1 := rfl
@[go_sem] theorem ag179 : agT Tryz.prog 179 = some false := rfl
@[go_sem] theorem zc179 : zcT Tryz.prog 179 = some [.slice none 0 0] := rfl
@[go_sem] theorem ia179 : iaT Tryz.prog 179 = some (none, 1) := rfl
@[go_sem] theorem el179 : elT Tryz.prog 179 = some (1, 1, [.bool false]) := rfl
@[go_sem] theorem ap179 : apT Tryz.prog 179 179 = some (1, 1, 1) := rfl
attribute [go_sem] Tryz.underlying181
@[go_sem] theorem sz181 : szT Tryz.prog 181 = some 4 := rfl
@[go_sem] theorem ag181 : agT Tryz.prog 181 = some true := rfl
@[go_sem] theorem zc181 : zcT Tryz.prog 181 = some [.pointer none, .int .i64 0, .slice none 0 0, .slice none 0 0] := rfl
@[go_sem] theorem bd181 : bdT Tryz.prog 181 = some ([.pointer none, .int .i64 0, .slice none 0 0, .slice none 0 0], fun j => [(0, 1), (1, 1), (2, 1), (3, 1)][j]?) := rfl
@[go_sem] theorem fa181_0 : faT Tryz.prog 181 0 = some (0, 1) := rfl
@[go_sem] theorem fd181_0 : fdT Tryz.prog 181 0 = some (0, 1, false) := rfl
@[go_sem] theorem fa181_1 : faT Tryz.prog 181 1 = some (1, 1) := rfl
@[go_sem] theorem fd181_1 : fdT Tryz.prog 181 1 = some (1, 1, false) := rfl
@[go_sem] theorem fa181_2 : faT Tryz.prog 181 2 = some (2, 1) := rfl
@[go_sem] theorem fd181_2 : fdT Tryz.prog 181 2 = some (2, 1, false) := rfl
@[go_sem] theorem fa181_3 : faT Tryz.prog 181 3 = some (3, 1) := rfl
@[go_sem] theorem fd181_3 : fdT Tryz.prog 181 3 = some (3, 1, false) := rfl
attribute [go_sem] Tryz.underlying182
@[go_sem] theorem sz182 : szT Tryz.prog 182 = some 1 := rfl
@[go_sem] theorem ag182 : agT Tryz.prog 182 = some false := rfl
@[go_sem] theorem zc182 : zcT Tryz.prog 182 = some [.slice none 0 0] := rfl
@[go_sem] theorem ia182 : iaT Tryz.prog 182 = some (none, 2) := rfl
@[go_sem] theorem el182 : elT Tryz.prog 182 = some (2, 16, [.int .u64 0, .bool false]) := rfl
@[go_sem] theorem ap182 : apT Tryz.prog 182 182 = some (2, 16, 2) := rfl
attribute [go_sem] Tryz.underlying183
@[go_sem] theorem sz183 : szT Tryz.prog 183 = some 1 := rfl
@[go_sem] theorem ag183 : agT Tryz.prog 183 = some false := rfl
@[go_sem] theorem zc183 : zcT Tryz.prog 183 = some [.nilFunc] := rfl
attribute [go_sem] Tryz.underlying185
@[go_sem] theorem sz185 : szT Tryz.prog 185 = some 3 := rfl
@[go_sem] theorem ag185 : agT Tryz.prog 185 = some true := rfl
@[go_sem] theorem zc185 : zcT Tryz.prog 185 = some [.pointer none, .slice none 0 0, .nilFunc] := rfl
@[go_sem] theorem bd185 : bdT Tryz.prog 185 = some ([.pointer none, .slice none 0 0, .nilFunc], fun j => [(0, 1), (1, 1), (2, 1)][j]?) := rfl
@[go_sem] theorem fa185_0 : faT Tryz.prog 185 0 = some (0, 1) := rfl
@[go_sem] theorem fd185_0 : fdT Tryz.prog 185 0 = some (0, 1, false) := rfl
@[go_sem] theorem fa185_1 : faT Tryz.prog 185 1 = some (1, 1) := rfl
@[go_sem] theorem fd185_1 : fdT Tryz.prog 185 1 = some (1, 1, false) := rfl
@[go_sem] theorem fa185_2 : faT Tryz.prog 185 2 = some (2, 1) := rfl
@[go_sem] theorem fd185_2 : fdT Tryz.prog 185 2 = some (2, 1, false) := rfl
attribute [go_sem] Tryz.underlying186
@[go_sem] theorem sz186 : szT Tryz.prog 186 = some 1 := rfl
@[go_sem] theorem ag186 : agT Tryz.prog 186 = some false := rfl
@[go_sem] theorem zc186 : zcT Tryz.prog 186 = some [.map none] := rfl
attribute [go_sem] Tryz.underlying188
@[go_sem] theorem sz188 : szT Tryz.prog 188 = some 4 := rfl
@[go_sem] theorem ag188 : agT Tryz.prog 188 = some true := rfl
@[go_sem] theorem zc188 : zcT Tryz.prog 188 = some [.pointer none, .int .i64 0, .int .i64 0, .map none] := rfl
@[go_sem] theorem bd188 : bdT Tryz.prog 188 = some ([.pointer none, .int .i64 0, .int .i64 0, .map none], fun j => [(0, 1), (1, 1), (2, 1), (3, 1)][j]?) := rfl
@[go_sem] theorem fa188_0 : faT Tryz.prog 188 0 = some (0, 1) := rfl
@[go_sem] theorem fd188_0 : fdT Tryz.prog 188 0 = some (0, 1, false) := rfl
@[go_sem] theorem fa188_1 : faT Tryz.prog 188 1 = some (1, 1) := rfl
@[go_sem] theorem fd188_1 : fdT Tryz.prog 188 1 = some (1, 1, false) := rfl
@[go_sem] theorem fa188_2 : faT Tryz.prog 188 2 = some (2, 1) := rfl
@[go_sem] theorem fd188_2 : fdT Tryz.prog 188 2 = some (2, 1, false) := rfl
@[go_sem] theorem fa188_3 : faT Tryz.prog 188 3 = some (3, 1) := rfl
@[go_sem] theorem fd188_3 : fdT Tryz.prog 188 3 = some (3, 1, false) := rfl
attribute [go_sem] Tryz.underlying210
@[go_sem] theorem sz210 : szT Tryz.prog 210 = some 1 := rfl
@[go_sem] theorem ag210 : agT Tryz.prog 210 = some false := rfl
attribute [go_sem] Tryz.underlying225
@[go_sem] theorem sz225 : szT Tryz.prog 225 = some 1 := rfl
@[go_sem] theorem ag225 : agT Tryz.prog 225 = some false := rfl
attribute [go_sem] Tryz.underlying246
@[go_sem] theorem sz246 : szT Tryz.prog 246 = some 1 := rfl
@[go_sem] theorem ag246 : agT Tryz.prog 246 = some false := rfl
@[go_sem] theorem zc246 : zcT Tryz.prog 246 = some [.pointer none] := rfl
attribute [go_sem] Tryz.underlying248
@[go_sem] theorem sz248 : szT Tryz.prog 248 = some 4 := rfl
@[go_sem] theorem ag248 : agT Tryz.prog 248 = some true := rfl
@[go_sem] theorem zc248 : zcT Tryz.prog 248 = some [.pointer none, .int .i64 0, .int .i64 0, .nilFunc] := rfl
@[go_sem] theorem bd248 : bdT Tryz.prog 248 = some ([.pointer none, .int .i64 0, .int .i64 0, .nilFunc], fun j => [(0, 1), (1, 1), (2, 1), (3, 1)][j]?) := rfl
@[go_sem] theorem fa248_0 : faT Tryz.prog 248 0 = some (0, 1) := rfl
@[go_sem] theorem fd248_0 : fdT Tryz.prog 248 0 = some (0, 1, false) := rfl
@[go_sem] theorem fa248_1 : faT Tryz.prog 248 1 = some (1, 1) := rfl
@[go_sem] theorem fd248_1 : fdT Tryz.prog 248 1 = some (1, 1, false) := rfl
@[go_sem] theorem fa248_2 : faT Tryz.prog 248 2 = some (2, 1) := rfl
@[go_sem] theorem fd248_2 : fdT Tryz.prog 248 2 = some (2, 1, false) := rfl
@[go_sem] theorem fa248_3 : faT Tryz.prog 248 3 = some (3, 1) := rfl
@[go_sem] theorem fd248_3 : fdT Tryz.prog 248 3 = some (3, 1, false) := rfl
attribute [go_sem] Tryz.underlying249
@[go_sem] theorem sz249 : szT Tryz.prog 249 = some 1 := rfl
@[go_sem] theorem ag249 : agT Tryz.prog 249 = some false := rfl
@[go_sem] theorem zc249 : zcT Tryz.prog 249 = some [.pointer none] := rfl
attribute [go_sem] Tryz.underlying251
@[go_sem] theorem sz251 : szT Tryz.prog 251 = some 5 := rfl
@[go_sem] theorem ag251 : agT Tryz.prog 251 = some true := rfl
@[go_sem] theorem zc251 : zcT Tryz.prog 251 = some [.pointer none, .int .i64 0, .int .i64 0, .nilFunc, .int .u64 0] := rfl
@[go_sem] theorem bd251 : bdT Tryz.prog 251 = some ([.pointer none, .int .i64 0, .int .i64 0, .nilFunc, .int .u64 0], fun j => [(0, 1), (1, 1), (2, 1), (3, 1), (4, 1)][j]?) := rfl
@[go_sem] theorem fa251_0 : faT Tryz.prog 251 0 = some (0, 1) := rfl
@[go_sem] theorem fd251_0 : fdT Tryz.prog 251 0 = some (0, 1, false) := rfl
@[go_sem] theorem fa251_1 : faT Tryz.prog 251 1 = some (1, 1) := rfl
@[go_sem] theorem fd251_1 : fdT Tryz.prog 251 1 = some (1, 1, false) := rfl
@[go_sem] theorem fa251_2 : faT Tryz.prog 251 2 = some (2, 1) := rfl
@[go_sem] theorem fd251_2 : fdT Tryz.prog 251 2 = some (2, 1, false) := rfl
@[go_sem] theorem fa251_3 : faT Tryz.prog 251 3 = some (3, 1) := rfl
@[go_sem] theorem fd251_3 : fdT Tryz.prog 251 3 = some (3, 1, false) := rfl
@[go_sem] theorem fa251_4 : faT Tryz.prog 251 4 = some (4, 1) := rfl
@[go_sem] theorem fd251_4 : fdT Tryz.prog 251 4 = some (4, 1, false) := rfl
attribute [go_sem] Tryz.underlying256
@[go_sem] theorem sz256 : szT Tryz.prog 256 = some 1 := rfl
@[go_sem] theorem ag256 : agT Tryz.prog 256 = some false := rfl
attribute [go_sem] Tryz.underlying258
@[go_sem] theorem sz258 : szT Tryz.prog 258 = some 1 := rfl
@[go_sem] theorem ag258 : agT Tryz.prog 258 = some false := rfl
attribute [go_sem] Tryz.underlying261
@[go_sem] theorem sz261 : szT Tryz.prog 261 = some 1 := rfl
@[go_sem] theorem ag261 : agT Tryz.prog 261 = some false := rfl
@[go_sem] theorem zc261 : zcT Tryz.prog 261 = some [.pointer none] := rfl
attribute [go_sem] Tryz.underlying262
@[go_sem] theorem sz262 : szT Tryz.prog 262 = some 1 := rfl
@[go_sem] theorem ag262 : agT Tryz.prog 262 = some false := rfl
@[go_sem] theorem zc262 : zcT Tryz.prog 262 = some [.pointer none] := rfl
attribute [go_sem] Tryz.underlying263
@[go_sem] theorem sz263 : szT Tryz.prog 263 = some 1 := rfl
@[go_sem] theorem ag263 : agT Tryz.prog 263 = some false := rfl
attribute [go_sem] Tryz.underlying266
@[go_sem] theorem sz266 : szT Tryz.prog 266 = some 2 := rfl
@[go_sem] theorem ag266 : agT Tryz.prog 266 = some true := rfl
@[go_sem] theorem zc266 : zcT Tryz.prog 266 = some [.int .u64 0, .bool false] := rfl
@[go_sem] theorem bd266 : bdT Tryz.prog 266 = some ([.int .u64 0, .bool false], fun j => [(0, 1), (1, 1)][j]?) := rfl
@[go_sem] theorem fa266_0 : faT Tryz.prog 266 0 = some (0, 1) := rfl
@[go_sem] theorem fd266_0 : fdT Tryz.prog 266 0 = some (0, 1, false) := rfl
@[go_sem] theorem fa266_1 : faT Tryz.prog 266 1 = some (1, 1) := rfl
@[go_sem] theorem fd266_1 : fdT Tryz.prog 266 1 = some (1, 1, false) := rfl
attribute [go_sem] Tryz.underlying268
@[go_sem] theorem sz268 : szT Tryz.prog 268 = some 5 := rfl
@[go_sem] theorem ag268 : agT Tryz.prog 268 = some true := rfl
@[go_sem] theorem zc268 : zcT Tryz.prog 268 = some [.pointer none, .int .i64 0, .int .i64 0, .int .i64 0, .int .i64 0] := rfl
@[go_sem] theorem bd268 : bdT Tryz.prog 268 = some ([.pointer none, .int .i64 0, .int .i64 0, .int .i64 0, .int .i64 0], fun j => [(0, 1), (1, 1), (2, 1), (3, 1), (4, 1)][j]?) := rfl
@[go_sem] theorem fa268_0 : faT Tryz.prog 268 0 = some (0, 1) := rfl
@[go_sem] theorem fd268_0 : fdT Tryz.prog 268 0 = some (0, 1, false) := rfl
@[go_sem] theorem fa268_1 : faT Tryz.prog 268 1 = some (1, 1) := rfl
@[go_sem] theorem fd268_1 : fdT Tryz.prog 268 1 = some (1, 1, false) := rfl
@[go_sem] theorem fa268_2 : faT Tryz.prog 268 2 = some (2, 1) := rfl
@[go_sem] theorem fd268_2 : fdT Tryz.prog 268 2 = some (2, 1, false) := rfl
@[go_sem] theorem fa268_3 : faT Tryz.prog 268 3 = some (3, 1) := rfl
@[go_sem] theorem fd268_3 : fdT Tryz.prog 268 3 = some (3, 1, false) := rfl
@[go_sem] theorem fa268_4 : faT Tryz.prog 268 4 = some (4, 1) := rfl
@[go_sem] theorem fd268_4 : fdT Tryz.prog 268 4 = some (4, 1, false) := rfl
attribute [go_sem] Tryz.underlying269
@[go_sem] theorem sz269 : szT Tryz.prog 269 = some 1 := rfl
@[go_sem] theorem ag269 : agT Tryz.prog 269 = some false := rfl
@[go_sem] theorem zc269 : zcT Tryz.prog 269 = some [.pointer none] := rfl
attribute [go_sem] Tryz.underlying271
@[go_sem] theorem sz271 : szT Tryz.prog 271 = some 6 := rfl
@[go_sem] theorem ag271 : agT Tryz.prog 271 = some true := rfl
@[go_sem] theorem zc271 : zcT Tryz.prog 271 = some [.pointer none, .int .i64 0, .int .u64 0, .int .i64 0, .int .u64 0, .int .i64 0] := rfl
@[go_sem] theorem bd271 : bdT Tryz.prog 271 = some ([.pointer none, .int .i64 0, .int .u64 0, .int .i64 0, .int .u64 0, .int .i64 0], fun j => [(0, 1), (1, 1), (2, 1), (3, 1), (4, 1), (5, 1)][j]?) := rfl
@[go_sem] theorem fa271_0 : faT Tryz.prog 271 0 = some (0, 1) := rfl
@[go_sem] theorem fd271_0 : fdT Tryz.prog 271 0 = some (0, 1, false) := rfl
@[go_sem] theorem fa271_1 : faT Tryz.prog 271 1 = some (1, 1) := rfl
@[go_sem] theorem fd271_1 : fdT Tryz.prog 271 1 = some (1, 1, false) := rfl
@[go_sem] theorem fa271_2 : faT Tryz.prog 271 2 = some (2, 1) := rfl
@[go_sem] theorem fd271_2 : fdT Tryz.prog 271 2 = some (2, 1, false) := rfl
@[go_sem] theorem fa271_3 : faT Tryz.prog 271 3 = some (3, 1) := rfl
@[go_sem] theorem fd271_3 : fdT Tryz.prog 271 3 = some (3, 1, false) := rfl
@[go_sem] theorem fa271_4 : faT Tryz.prog 271 4 = some (4, 1) := rfl
@[go_sem] theorem fd271_4 : fdT Tryz.prog 271 4 = some (4, 1, false) := rfl
@[go_sem] theorem fa271_5 : faT Tryz.prog 271 5 = some (5, 1) := rfl
@[go_sem] theorem fd271_5 : fdT Tryz.prog 271 5 = some (5, 1, false) := rfl
attribute [go_sem] Tryz.underlying273
@[go_sem] theorem sz273 : szT Tryz.prog 273 = some 1 := rfl
@[go_sem] theorem ag273 : agT Tryz.prog 273 = some false := rfl
attribute [go_sem] Tryz.underlying275
@[go_sem] theorem sz275 : szT Tryz.prog 275 = some 1 := rfl
@[go_sem] theorem ag275 : agT Tryz.prog 275 = some false := rfl
attribute [go_sem] Tryz.underlying278
@[go_sem] theorem sz278 : szT Tryz.prog 278 = some 1 := rfl
@[go_sem] theorem ag278 : agT Tryz.prog 278 = some false := rfl
@[go_sem] theorem zc278 : zcT Tryz.prog 278 = some [.pointer none] := rfl
attribute [go_sem] Tryz.underlying279
@[go_sem] theorem sz279 : szT Tryz.prog 279 = some 1 := rfl
@[go_sem] theorem ag279 : agT Tryz.prog 279 = some false := rfl
@[go_sem] theorem zc279 : zcT Tryz.prog 279 = some [.pointer none] := rfl
attribute [go_sem] Tryz.underlying280
@[go_sem] theorem sz280 : szT Tryz.prog 280 = some 1 := rfl
@[go_sem] theorem ag280 : agT Tryz.prog 280 = some false := rfl
attribute [go_sem] Tryz.underlying283
@[go_sem] theorem sz283 : szT Tryz.prog 283 = some 2 := rfl
@[go_sem] theorem ag283 : agT Tryz.prog 283 = some true := rfl
@[go_sem] theorem zc283 : zcT Tryz.prog 283 = some [.int .i64 0, .bool false] := rfl
@[go_sem] theorem bd283 : bdT Tryz.prog 283 = some ([.int .i64 0, .bool false], fun j => [(0, 1), (1, 1)][j]?) := rfl
@[go_sem] theorem fa283_0 : faT Tryz.prog 283 0 = some (0, 1) := rfl
@[go_sem] theorem fd283_0 : fdT Tryz.prog 283 0 = some (0, 1, false) := rfl
@[go_sem] theorem fa283_1 : faT Tryz.prog 283 1 = some (1, 1) := rfl
@[go_sem] theorem fd283_1 : fdT Tryz.prog 283 1 = some (1, 1, false) := rfl
attribute [go_sem] Tryz.underlying284
@[go_sem] theorem sz284 : szT Tryz.prog 284 = some 4 := rfl
@[go_sem] theorem ag284 : agT Tryz.prog 284 = some true := rfl
@[go_sem] theorem zc284 : zcT Tryz.prog 284 = some [.int .i64 0, .int .i64 0, .int .i64 0, .int .i64 0] := rfl
@[go_sem] theorem bd284 : bdT Tryz.prog 284 = some ([.int .i64 0, .int .i64 0, .int .i64 0, .int .i64 0], fun j => some (j * 1, 1)) := rfl
@[go_sem] theorem ia284 : iaT Tryz.prog 284 = some (some 4, 1) := rfl
@[go_sem] theorem ix284 : ixT Tryz.prog 284 = some (4, 1, false) := rfl
attribute [go_sem] Tryz.underlying287
@[go_sem] theorem sz287 : szT Tryz.prog 287 = some 7 := rfl
@[go_sem] theorem ag287 : agT Tryz.prog 287 = some true := rfl
@[go_sem] theorem zc287 : zcT Tryz.prog 287 = some [.pointer none, .int .i64 0, .int .i64 0, .int .i64 0, .int .i64 0, .int .i64 0, .pointer none] := rfl
@[go_sem] theorem bd287 : bdT Tryz.prog 287 = some ([.pointer none, .int .i64 0, .int .i64 0, .int .i64 0, .int .i64 0, .int .i64 0, .pointer none], fun j => [(0, 1), (1, 1), (2, 4), (6, 1)][j]?) := rfl
@[go_sem] theorem fa287_0 : faT Tryz.prog 287 0 = some (0, 1) := rfl
@[go_sem] theorem fd287_0 : fdT Tryz.prog 287 0 = some (0, 1, false) := rfl
@[go_sem] theorem fa287_1 : faT Tryz.prog 287 1 = some (1, 1) := rfl
@[go_sem] theorem fd287_1 : fdT Tryz.prog 287 1 = some (1, 1, false) := rfl
@[go_sem] theorem fa287_2 : faT Tryz.prog 287 2 = some (2, 4) := rfl
@[go_sem] theorem fd287_2 : fdT Tryz.prog 287 2 = some (2, 4, true) := rfl
@[go_sem] theorem fa287_3 : faT Tryz.prog 287 3 = some (6, 1) := rfl
@[go_sem] theorem fd287_3 : fdT Tryz.prog 287 3 = some (6, 1, false) := rfl
attribute [go_sem] Tryz.underlying288
@[go_sem] theorem sz288 : szT Tryz.prog 288 = some 1 := rfl
@[go_sem] theorem ag288 : agT Tryz.prog 288 = some false := rfl
@[go_sem] theorem zc288 : zcT Tryz.prog 288 = some [.pointer none] := rfl
attribute [go_sem] Tryz.underlying289
@[go_sem] theorem sz289 : szT Tryz.prog 289 = some 1 := rfl
@[go_sem] theorem ag289 : agT Tryz.prog 289 = some false := rfl
@[go_sem] theorem zc289 : zcT Tryz.prog 289 = some [.pointer none] := rfl
attribute [go_sem] Tryz.underlying290
@[go_sem] theorem sz290 : szT Tryz.prog 290 = some 1 := rfl
@[go_sem] theorem ag290 : agT Tryz.prog 290 = some false := rfl
@[go_sem] theorem zc290 : zcT Tryz.prog 290 = some [.nilFunc] := rfl
attribute [go_sem] Tryz.underlying292
@[go_sem] theorem sz292 : szT Tryz.prog 292 = some 2 := rfl
@[go_sem] theorem ag292 : agT Tryz.prog 292 = some true := rfl
@[go_sem] theorem zc292 : zcT Tryz.prog 292 = some [.int .u8 0, .nilFunc] := rfl
@[go_sem] theorem bd292 : bdT Tryz.prog 292 = some ([.int .u8 0, .nilFunc], fun j => [(0, 1), (1, 1)][j]?) := rfl
@[go_sem] theorem fa292_0 : faT Tryz.prog 292 0 = some (0, 1) := rfl
@[go_sem] theorem fd292_0 : fdT Tryz.prog 292 0 = some (0, 1, false) := rfl
@[go_sem] theorem fa292_1 : faT Tryz.prog 292 1 = some (1, 1) := rfl
@[go_sem] theorem fd292_1 : fdT Tryz.prog 292 1 = some (1, 1, false) := rfl
attribute [go_sem] Tryz.underlying294
@[go_sem] theorem sz294 : szT Tryz.prog 294 = some 7 := rfl
@[go_sem] theorem ag294 : agT Tryz.prog 294 = some true := rfl
@[go_sem] theorem zc294 : zcT Tryz.prog 294 = some [.pointer none, .int .i64 0, .slice none 0 0, .pointer none, .int .u64 0, .int .u8 0, .nilFunc] := rfl
@[go_sem] theorem bd294 : bdT Tryz.prog 294 = some ([.pointer none, .int .i64 0, .slice none 0 0, .pointer none, .int .u64 0, .int .u8 0, .nilFunc], fun j => [(0, 1), (1, 1), (2, 1), (3, 1), (4, 1), (5, 2)][j]?) := rfl
@[go_sem] theorem fa294_0 : faT Tryz.prog 294 0 = some (0, 1) := rfl
@[go_sem] theorem fd294_0 : fdT Tryz.prog 294 0 = some (0, 1, false) := rfl
@[go_sem] theorem fa294_1 : faT Tryz.prog 294 1 = some (1, 1) := rfl
@[go_sem] theorem fd294_1 : fdT Tryz.prog 294 1 = some (1, 1, false) := rfl
@[go_sem] theorem fa294_2 : faT Tryz.prog 294 2 = some (2, 1) := rfl
@[go_sem] theorem fd294_2 : fdT Tryz.prog 294 2 = some (2, 1, false) := rfl
@[go_sem] theorem fa294_3 : faT Tryz.prog 294 3 = some (3, 1) := rfl
@[go_sem] theorem fd294_3 : fdT Tryz.prog 294 3 = some (3, 1, false) := rfl
@[go_sem] theorem fa294_4 : faT Tryz.prog 294 4 = some (4, 1) := rfl
@[go_sem] theorem fd294_4 : fdT Tryz.prog 294 4 = some (4, 1, false) := rfl
@[go_sem] theorem fa294_5 : faT Tryz.prog 294 5 = some (5, 2) := rfl
@[go_sem] theorem fd294_5 : fdT Tryz.prog 294 5 = some (5, 2, true) := rfl
attribute [go_sem] Tryz.underlying296
@[go_sem] theorem sz296 : szT Tryz.prog 296 = some 1 := rfl
@[go_sem] theorem ag296 : agT Tryz.prog 296 = some false := rfl
@[go_sem] theorem zc296 : zcT Tryz.prog 296 = some [.nilFunc] := rfl
attribute [go_sem] Tryz.underlying297
@[go_sem] theorem sz297 : szT Tryz.prog 297 = some 1 := rfl
@[go_sem] theorem ag297 : agT Tryz.prog 297 = some false := rfl
@[go_sem] theorem zc297 : zcT Tryz.prog 297 = some [.nilFunc] := rfl
attribute [go_sem] Tryz.underlying299
@[go_sem] theorem sz299 : szT Tryz.prog 299 = some 1 := rfl
@[go_sem] theorem ag299 : agT Tryz.prog 299 = some false := rfl
attribute [go_sem] Tryz.underlying304
@[go_sem] theorem sz304 : szT Tryz.prog 304 = some 2 := rfl
@[go_sem] theorem ag304 : agT Tryz.prog 304 = some true := rfl
@[go_sem] theorem zc304 : zcT Tryz.prog 304 = some [.int .i64 0, .int .i64 0] := rfl
@[go_sem] theorem bd304 : bdT Tryz.prog 304 = some ([.int .i64 0, .int .i64 0], fun j => [(0, 1), (1, 1)][j]?) := rfl
@[go_sem] theorem fa304_0 : faT Tryz.prog 304 0 = some (0, 1) := rfl
@[go_sem] theorem fd304_0 : fdT Tryz.prog 304 0 = some (0, 1, false) := rfl
@[go_sem] theorem fa304_1 : faT Tryz.prog 304 1 = some (1, 1) := rfl
@[go_sem] theorem fd304_1 : fdT Tryz.prog 304 1 = some (1, 1, false) := rfl
attribute [go_sem] Tryz.underlying306
@[go_sem] theorem sz306 : szT Tryz.prog 306 = some 7 := rfl
@[go_sem] theorem ag306 : agT Tryz.prog 306 = some true := rfl
@[go_sem] theorem zc306 : zcT Tryz.prog 306 = some [.int .i64 0, .int .i64 0, .pointer none, .int .i64 0, .int .i64 0, .nilFunc, .int .i64 0] := rfl
@[go_sem] theorem bd306 : bdT Tryz.prog 306 = some ([.int .i64 0, .int .i64 0, .pointer none, .int .i64 0, .int .i64 0, .nilFunc, .int .i64 0], fun j => [(0, 2), (2, 1), (3, 1), (4, 1), (5, 1), (6, 1)][j]?) := rfl
@[go_sem] theorem fa306_0 : faT Tryz.prog 306 0 = some (0, 2) := rfl
@[go_sem] theorem fd306_0 : fdT Tryz.prog 306 0 = some (0, 2, true) := rfl
@[go_sem] theorem fa306_1 : faT Tryz.prog 306 1 = some (2, 1) := rfl
@[go_sem] theorem fd306_1 : fdT Tryz.prog 306 1 = some (2, 1, false) := rfl
@[go_sem] theorem fa306_2 : faT Tryz.prog 306 2 = some (3, 1) := rfl
@[go_sem] theorem fd306_2 : fdT Tryz.prog 306 2 = some (3, 1, false) := rfl
@[go_sem] theorem fa306_3 : faT Tryz.prog 306 3 = some (4, 1) := rfl
@[go_sem] theorem fd306_3 : fdT Tryz.prog 306 3 = some (4, 1, false) := rfl
@[go_sem] theorem fa306_4 : faT Tryz.prog 306 4 = some (5, 1) := rfl
@[go_sem] theorem fd306_4 : fdT Tryz.prog 306 4 = some (5, 1, false) := rfl
@[go_sem] theorem fa306_5 : faT Tryz.prog 306 5 = some (6, 1) := rfl
@[go_sem] theorem fd306_5 : fdT Tryz.prog 306 5 = some (6, 1, false) := rfl
attribute [go_sem] Tryz.underlying308
@[go_sem] theorem sz308 : szT Tryz.prog 308 = some 1 := rfl
@[go_sem] theorem ag308 : agT Tryz.prog 308 = some false := rfl
@[go_sem] theorem zc308 : zcT Tryz.prog 308 = some [.pointer none] := rfl
attribute [go_sem] Tryz.underlying313
@[go_sem] theorem sz313 : szT Tryz.prog 313 = some 1 := rfl
@[go_sem] theorem ag313 : agT Tryz.prog 313 = some false := rfl
attribute [go_sem] Tryz.underlying315
@[go_sem] theorem sz315 : szT Tryz.prog 315 = some 1 := rfl
@[go_sem] theorem ag315 : agT Tryz.prog 315 = some false := rfl
attribute [go_sem] Tryz.underlying318
@[go_sem] theorem sz318 : szT Tryz.prog 318 = some 1 := rfl
@[go_sem] theorem ag318 : agT Tryz.prog 318 = some false := rfl
@[go_sem] theorem zc318 : zcT Tryz.prog 318 = some [.nilFunc] := rfl
attribute [go_sem] Tryz.underlying319
@[go_sem] theorem sz319 : szT Tryz.prog 319 = some 2 := rfl
@[go_sem] theorem ag319 : agT Tryz.prog 319 = some true := rfl
@[go_sem] theorem zc319 : zcT Tryz.prog 319 = some [.nilFunc, .nilFunc] := rfl
@[go_sem] theorem bd319 : bdT Tryz.prog 319 = some ([.nilFunc, .nilFunc], fun j => some (j * 1, 1)) := rfl
@[go_sem] theorem ia319 : iaT Tryz.prog 319 = some (some 2, 1) := rfl
@[go_sem] theorem ix319 : ixT Tryz.prog 319 = some (2, 1, false) := rfl
attribute [go_sem] Tryz.underlying322
@[go_sem] theorem sz322 : szT Tryz.prog 322 = some 1 := rfl
@[go_sem] theorem ag322 : agT Tryz.prog 322 = some false := rfl
@[go_sem] theorem zc322 : zcT Tryz.prog 322 = some [.nilFunc] := rfl
attribute [go_sem] Tryz.underlying323
@[go_sem] theorem sz323 : szT Tryz.prog 323 = some 3 := rfl
@[go_sem] theorem ag323 : agT Tryz.prog 323 = some true := rfl
@[go_sem] theorem zc323 : zcT Tryz.prog 323 = some [.nilFunc, .nilFunc, .nilFunc] := rfl
@[go_sem] theorem bd323 : bdT Tryz.prog 323 = some ([.nilFunc, .nilFunc, .nilFunc], fun j => some (j * 1, 1)) := rfl
@[go_sem] theorem ia323 : iaT Tryz.prog 323 = some (some 3, 1) := rfl
@[go_sem] theorem ix323 : ixT Tryz.prog 323 = some (3, 1, false) := rfl
@[go_sem] theorem call2 (args : List Value) : aCallFunc Tryz.prog 2 args = .pure (.enter 2 args) := rfl
@[go_sem] theorem call3 (args : List Value) : aCallFunc Tryz.prog 3 args = .pure (.enter 3 args) := rfl
@[go_sem] theorem call4 (args : List Value) : aCallFunc Tryz.prog 4 args = .pure (.enter 4 args) := rfl
@[go_sem] theorem call5 (args : List Value) : aCallFunc Tryz.prog 5 args = .pure (.enter 5 args) := rfl
@[go_sem] theorem call6 (args : List Value) : aCallFunc Tryz.prog 6 args = .pure (.enter 6 args) := rfl
@[go_sem] theorem call7 (args : List Value) : aCallFunc Tryz.prog 7 args = .pure (.enter 7 args) := rfl
@[go_sem] theorem call8 (args : List Value) : aCallFunc Tryz.prog 8 args = .pure (.enter 8 args) := rfl
@[go_sem] theorem call9 (args : List Value) : aCallFunc Tryz.prog 9 args = .pure (.enter 9 args) := rfl
@[go_sem] theorem call10 (args : List Value) : aCallFunc Tryz.prog 10 args = .pure (.enter 10 args) := rfl
@[go_sem] theorem call11 (args : List Value) : aCallFunc Tryz.prog 11 args = .pure (.enter 11 args) := rfl
@[go_sem] theorem call12 (args : List Value) : aCallFunc Tryz.prog 12 args = .pure (.enter 12 args) := rfl
@[go_sem] theorem call13 (args : List Value) : aCallFunc Tryz.prog 13 args = .pure (.enter 13 args) := rfl
@[go_sem] theorem call14 (args : List Value) : aCallFunc Tryz.prog 14 args = .pure (.enter 14 args) := rfl
@[go_sem] theorem call15 (args : List Value) : aCallFunc Tryz.prog 15 args = .pure (.enter 15 args) := rfl
@[go_sem] theorem call16 (args : List Value) : aCallFunc Tryz.prog 16 args = .pure (.enter 16 args) := rfl
@[go_sem] theorem call17 (args : List Value) : aCallFunc Tryz.prog 17 args = .pure (.enter 17 args) := rfl
@[go_sem] theorem call18 (args : List Value) : aCallFunc Tryz.prog 18 args = .pure (.enter 18 args) := rfl
@[go_sem] theorem call19 (args : List Value) : aCallFunc Tryz.prog 19 args = .pure (.enter 19 args) := rfl
@[go_sem] theorem call20 (args : List Value) : aCallFunc Tryz.prog 20 args = .pure (.enter 20 args) := rfl
@[go_sem] theorem call21 (args : List Value) : aCallFunc Tryz.prog 21 args = .pure (.enter 21 args) := rfl
@[go_sem] theorem call22 (args : List Value) : aCallFunc Tryz.prog 22 args = .pure (.enter 22 args) := rfl
@[go_sem] theorem call23 (args : List Value) : aCallFunc Tryz.prog 23 args = .pure (.enter 23 args) := rfl
@[go_sem] theorem call24 (args : List Value) : aCallFunc Tryz.prog 24 args = .pure (.enter 24 args) := rfl
@[go_sem] theorem call25 (args : List Value) : aCallFunc Tryz.prog 25 args = .pure (.enter 25 args) := rfl
@[go_sem] theorem call26 (args : List Value) : aCallFunc Tryz.prog 26 args = .pure (.enter 26 args) := rfl
@[go_sem] theorem call27 (args : List Value) : aCallFunc Tryz.prog 27 args = .pure (.enter 27 args) := rfl
@[go_sem] theorem call28 (args : List Value) : aCallFunc Tryz.prog 28 args = .pure (.enter 28 args) := rfl
@[go_sem] theorem call29 (args : List Value) : aCallFunc Tryz.prog 29 args = .pure (.enter 29 args) := rfl
@[go_sem] theorem call30 (args : List Value) : aCallFunc Tryz.prog 30 args = .pure (.enter 30 args) := rfl
@[go_sem] theorem call31 (args : List Value) : aCallFunc Tryz.prog 31 args = .pure (.enter 31 args) := rfl
@[go_sem] theorem call32 (args : List Value) : aCallFunc Tryz.prog 32 args = .pure (.enter 32 args) := rfl
@[go_sem] theorem call33 (args : List Value) : aCallFunc Tryz.prog 33 args = .pure (.enter 33 args) := rfl
@[go_sem] theorem call34 (args : List Value) : aCallFunc Tryz.prog 34 args = .pure (.enter 34 args) := rfl
@[go_sem] theorem call35 (args : List Value) : aCallFunc Tryz.prog 35 args = .pure (.enter 35 args) := rfl
@[go_sem] theorem call36 (args : List Value) : aCallFunc Tryz.prog 36 args = .pure (.enter 36 args) := rfl
@[go_sem] theorem call37 (args : List Value) : aCallFunc Tryz.prog 37 args = .pure (.enter 37 args) := rfl
@[go_sem] theorem call38 (args : List Value) : aCallFunc Tryz.prog 38 args = .pure (.enter 38 args) := rfl
@[go_sem] theorem call39 (args : List Value) : aCallFunc Tryz.prog 39 args = .pure (.enter 39 args) := rfl
@[go_sem] theorem call40 (args : List Value) : aCallFunc Tryz.prog 40 args = .pure (.enter 40 args) := rfl
@[go_sem] theorem call41 (args : List Value) : aCallFunc Tryz.prog 41 args = .pure (.enter 41 args) := rfl
@[go_sem] theorem call42 (args : List Value) : aCallFunc Tryz.prog 42 args = .pure (.enter 42 args) := rfl
@[go_sem] theorem call43 (args : List Value) : aCallFunc Tryz.prog 43 args = .pure (.enter 43 args) := rfl
@[go_sem] theorem call44 (args : List Value) : aCallFunc Tryz.prog 44 args = .pure (.enter 44 args) := rfl
@[go_sem] theorem call45 (args : List Value) : aCallFunc Tryz.prog 45 args = .pure (.enter 45 args) := rfl
@[go_sem] theorem call46 (args : List Value) : aCallFunc Tryz.prog 46 args = .pure (.enter 46 args) := rfl
@[go_sem] theorem call47 (args : List Value) : aCallFunc Tryz.prog 47 args = .pure (.enter 47 args) := rfl
@[go_sem] theorem call48 (args : List Value) : aCallFunc Tryz.prog 48 args = .pure (.enter 48 args) := rfl
@[go_sem] theorem call49 (args : List Value) : aCallFunc Tryz.prog 49 args = .pure (.enter 49 args) := rfl
@[go_sem] theorem call50 (args : List Value) : aCallFunc Tryz.prog 50 args = .pure (.enter 50 args) := rfl
@[go_sem] theorem call51 (args : List Value) : aCallFunc Tryz.prog 51 args = .pure (.enter 51 args) := rfl
@[go_sem] theorem call52 (args : List Value) : aCallFunc Tryz.prog 52 args = .pure (.enter 52 args) := rfl
@[go_sem] theorem call53 (args : List Value) : aCallFunc Tryz.prog 53 args = .pure (.enter 53 args) := rfl
@[go_sem] theorem call54 (args : List Value) : aCallFunc Tryz.prog 54 args = .pure (.enter 54 args) := rfl
@[go_sem] theorem call55 (args : List Value) : aCallFunc Tryz.prog 55 args = .pure (.enter 55 args) := rfl
@[go_sem] theorem call56 (args : List Value) : aCallFunc Tryz.prog 56 args = .pure (.enter 56 args) := rfl
@[go_sem] theorem call57 (args : List Value) : aCallFunc Tryz.prog 57 args = .pure (.enter 57 args) := rfl
@[go_sem] theorem call58 (args : List Value) : aCallFunc Tryz.prog 58 args = .pure (.enter 58 args) := rfl
@[go_sem] theorem call59 (args : List Value) : aCallFunc Tryz.prog 59 args = .pure (.enter 59 args) := rfl
@[go_sem] theorem call60 (args : List Value) : aCallFunc Tryz.prog 60 args = .pure (.enter 60 args) := rfl
@[go_sem] theorem call61 (args : List Value) : aCallFunc Tryz.prog 61 args = .pure (.enter 61 args) := rfl
@[go_sem] theorem call62 (args : List Value) : aCallFunc Tryz.prog 62 args = .pure (.enter 62 args) := rfl
@[go_sem] theorem call63 (args : List Value) : aCallFunc Tryz.prog 63 args = .pure (.enter 63 args) := rfl
@[go_sem] theorem call64 (args : List Value) : aCallFunc Tryz.prog 64 args = .pure (.enter 64 args) := rfl
@[go_sem] theorem call65 (args : List Value) : aCallFunc Tryz.prog 65 args = .pure (.enter 65 args) := rfl
@[go_sem] theorem call66 (args : List Value) : aCallFunc Tryz.prog 66 args = .pure (.enter 66 args) := rfl
@[go_sem] theorem call67 (args : List Value) : aCallFunc Tryz.prog 67 args = .pure (.enter 67 args) := rfl
@[go_sem] theorem call69 (args : List Value) : aCallFunc Tryz.prog 69 args = .pure (.enter 69 args) := rfl
@[go_sem] theorem call70 (args : List Value) : aCallFunc Tryz.prog 70 args = .pure (.enter 70 args) := rfl
@[go_sem] theorem call71 (args : List Value) : aCallFunc Tryz.prog 71 args = .pure (.enter 71 args) := rfl
@[go_sem] theorem call72 (args : List Value) : aCallFunc Tryz.prog 72 args = .pure (.enter 72 args) := rfl
@[go_sem] theorem call73 (args : List Value) : aCallFunc Tryz.prog 73 args = .pure (.enter 73 args) := rfl
@[go_sem] theorem call74 (args : List Value) : aCallFunc Tryz.prog 74 args = .pure (.enter 74 args) := rfl
@[go_sem] theorem call75 (args : List Value) : aCallFunc Tryz.prog 75 args = .pure (.enter 75 args) := rfl
@[go_sem] theorem call76 (args : List Value) : aCallFunc Tryz.prog 76 args = .pure (.enter 76 args) := rfl
@[go_sem] theorem call77 (args : List Value) : aCallFunc Tryz.prog 77 args = .pure (.enter 77 args) := rfl
@[go_sem] theorem call78 (args : List Value) : aCallFunc Tryz.prog 78 args = .pure (.enter 78 args) := rfl
@[go_sem] theorem call79 (args : List Value) : aCallFunc Tryz.prog 79 args = .pure (.enter 79 args) := rfl
@[go_sem] theorem call80 (args : List Value) : aCallFunc Tryz.prog 80 args = .pure (.enter 80 args) := rfl
@[go_sem] theorem call81 (args : List Value) : aCallFunc Tryz.prog 81 args = .pure (.enter 81 args) := rfl
@[go_sem] theorem call82 (args : List Value) : aCallFunc Tryz.prog 82 args = .pure (.enter 82 args) := rfl
@[go_sem] theorem call83 (args : List Value) : aCallFunc Tryz.prog 83 args = .pure (.enter 83 args) := rfl
@[go_sem] theorem call84 (args : List Value) : aCallFunc Tryz.prog 84 args = .pure (.enter 84 args) := rfl
@[go_sem] theorem call85 (args : List Value) : aCallFunc Tryz.prog 85 args = .pure (.enter 85 args) := rfl
@[go_sem] theorem call86 (args : List Value) : aCallFunc Tryz.prog 86 args = .pure (.enter 86 args) := rfl
@[go_sem] theorem call87 (args : List Value) : aCallFunc Tryz.prog 87 args = .pure (.enter 87 args) := rfl
@[go_sem] theorem call88 (args : List Value) : aCallFunc Tryz.prog 88 args = .pure (.enter 88 args) := rfl
@[go_sem] theorem call89 (args : List Value) : aCallFunc Tryz.prog 89 args = .pure (.enter 89 args) := rfl
@[go_sem] theorem call90 (args : List Value) : aCallFunc Tryz.prog 90 args = .pure (.enter 90 args) := rfl
@[go_sem] theorem call91 (args : List Value) : aCallFunc Tryz.prog 91 args = .pure (.enter 91 args) := rfl
@[go_sem] theorem call92 (args : List Value) : aCallFunc Tryz.prog 92 args = .pure (.enter 92 args) := rfl
@[go_sem] theorem call93 (args : List Value) : aCallFunc Tryz.prog 93 args = .pure (.enter 93 args) := rfl
@[go_sem] theorem call94 (args : List Value) : aCallFunc Tryz.prog 94 args = .pure (.enter 94 args) := rfl
@[go_sem] theorem call95 (args : List Value) : aCallFunc Tryz.prog 95 args = .pure (.enter 95 args) := rfl
@[go_sem] theorem call96 (args : List Value) : aCallFunc Tryz.prog 96 args = .pure (.enter 96 args) := rfl
@[go_sem] theorem call97 (args : List Value) : aCallFunc Tryz.prog 97 args = .pure (.enter 97 args) := rfl
@[go_sem] theorem call98 (args : List Value) : aCallFunc Tryz.prog 98 args = .pure (.enter 98 args) := rfl
@[go_sem] theorem call99 (args : List Value) : aCallFunc Tryz.prog 99 args = .pure (.enter 99 args) := rfl
@[go_sem] theorem call100 (args : List Value) : aCallFunc Tryz.prog 100 args = .pure (.enter 100 args) := rfl
@[go_sem] theorem call102 (args : List Value) : aCallFunc Tryz.prog 102 args = .pure (.enter 102 args) := rfl
@[go_sem] theorem call119 (args : List Value) : aCallFunc Tryz.prog 119 args = .pure (.enter 119 args) := rfl
@[go_sem] theorem call120 (args : List Value) : aCallFunc Tryz.prog 120 args = .pure (.enter 120 args) := rfl
@[go_sem] theorem call121 (args : List Value) : aCallFunc Tryz.prog 121 args = .pure (.enter 121 args) := rfl
@[go_sem] theorem call122 (args : List Value) : aCallFunc Tryz.prog 122 args = .pure (.enter 122 args) := rfl
@[go_sem] theorem call123 (args : List Value) : aCallFunc Tryz.prog 123 args = .pure (.enter 123 args) := rfl
@[go_sem] theorem call124 (args : List Value) : aCallFunc Tryz.prog 124 args = .pure (.enter 124 args) := rfl
@[go_sem] theorem call125 (args : List Value) : aCallFunc Tryz.prog 125 args = .pure (.enter 125 args) := rfl
@[go_sem] theorem call126 (args : List Value) : aCallFunc Tryz.prog 126 args = .pure (.enter 126 args) := rfl
@[go_sem] theorem call127 (args : List Value) : aCallFunc Tryz.prog 127 args = .pure (.enter 127 args) := rfl
@[go_sem] theorem call128 (args : List Value) : aCallFunc Tryz.prog 128 args = .pure (.enter 128 args) := rfl
@[go_sem] theorem call129 (args : List Value) : aCallFunc Tryz.prog 129 args = .pure (.enter 129 args) := rfl
@[go_sem] theorem call130 (args : List Value) : aCallFunc Tryz.prog 130 args = .pure (.enter 130 args) := rfl
@[go_sem] theorem call131 (args : List Value) : aCallFunc Tryz.prog 131 args = .pure (.enter 131 args) := rfl
@[go_sem] theorem call132 (args : List Value) : aCallFunc Tryz.prog 132 args = .pure (.enter 132 args) := rfl
@[go_sem] theorem call133 (args : List Value) : aCallFunc Tryz.prog 133 args = .pure (.enter 133 args) := rfl
@[go_sem] theorem call135 (args : List Value) : aCallFunc Tryz.prog 135 args = .pure (.enter 135 args) := rfl
@[go_sem] theorem call136 (args : List Value) : aCallFunc Tryz.prog 136 args = .pure (.enter 136 args) := rfl
@[go_sem] theorem call137 (args : List Value) : aCallFunc Tryz.prog 137 args = .pure (.enter 137 args) := rfl
@[go_sem] theorem call138 (args : List Value) : aCallFunc Tryz.prog 138 args = .pure (.enter 138 args) := rfl
@[go_sem] theorem call139 (args : List Value) : aCallFunc Tryz.prog 139 args = .pure (.enter 139 args) := rfl
@[go_sem] theorem call140 (args : List Value) : aCallFunc Tryz.prog 140 args = .pure (.enter 140 args) := rfl
@[go_sem] theorem call141 (args : List Value) : aCallFunc Tryz.prog 141 args = .pure (.enter 141 args) := rfl
@[go_sem] theorem call142 (args : List Value) : aCallFunc Tryz.prog 142 args = .pure (.enter 142 args) := rfl
@[go_sem] theorem call143 (args : List Value) : aCallFunc Tryz.prog 143 args = .pure (.enter 143 args) := rfl
@[go_sem] theorem call144 (args : List Value) : aCallFunc Tryz.prog 144 args = .pure (.enter 144 args) := rfl
@[go_sem] theorem call145 (args : List Value) : aCallFunc Tryz.prog 145 args = .pure (.enter 145 args) := rfl
@[go_sem] theorem call146 (args : List Value) : aCallFunc Tryz.prog 146 args = .pure (.enter 146 args) := rfl
@[go_sem] theorem call147 (args : List Value) : aCallFunc Tryz.prog 147 args = .pure (.enter 147 args) := rfl
@[go_sem] theorem call148 (args : List Value) : aCallFunc Tryz.prog 148 args = .pure (.enter 148 args) := rfl
@[go_sem] theorem call149 (args : List Value) : aCallFunc Tryz.prog 149 args = .pure (.enter 149 args) := rfl
@[go_sem] theorem call150 (args : List Value) : aCallFunc Tryz.prog 150 args = .pure (.enter 150 args) := rfl
@[go_sem] theorem call151 (args : List Value) : aCallFunc Tryz.prog 151 args = .pure (.enter 151 args) := rfl
@[go_sem] theorem call152 (args : List Value) : aCallFunc Tryz.prog 152 args = .pure (.enter 152 args) := rfl
@[go_sem] theorem call153 (args : List Value) : aCallFunc Tryz.prog 153 args = .pure (.enter 153 args) := rfl
@[go_sem] theorem call154 (args : List Value) : aCallFunc Tryz.prog 154 args = .pure (.enter 154 args) := rfl
@[go_sem] theorem call155 (args : List Value) : aCallFunc Tryz.prog 155 args = .pure (.enter 155 args) := rfl
@[go_sem] theorem call156 (args : List Value) : aCallFunc Tryz.prog 156 args = .pure (.enter 156 args) := rfl
@[go_sem] theorem call157 (args : List Value) : aCallFunc Tryz.prog 157 args = .pure (.enter 157 args) := rfl
@[go_sem] theorem call158 (args : List Value) : aCallFunc Tryz.prog 158 args = .pure (.enter 158 args) := rfl
@[go_sem] theorem call159 (args : List Value) : aCallFunc Tryz.prog 159 args = .pure (.enter 159 args) := rfl
@[go_sem] theorem call160 (args : List Value) : aCallFunc Tryz.prog 160 args = .pure (.enter 160 args) := rfl
@[go_sem] theorem call161 (args : List Value) : aCallFunc Tryz.prog 161 args = .pure (.enter 161 args) := rfl
@[go_sem] theorem call162 (args : List Value) : aCallFunc Tryz.prog 162 args = .pure (.enter 162 args) := rfl
@[go_sem] theorem call163 (args : List Value) : aCallFunc Tryz.prog 163 args = .pure (.enter 163 args) := rfl
@[go_sem] theorem call164 (args : List Value) : aCallFunc Tryz.prog 164 args = .pure (.enter 164 args) := rfl
@[go_sem] theorem call165 (args : List Value) : aCallFunc Tryz.prog 165 args = .pure (.enter 165 args) := rfl
@[go_sem] theorem call166 (args : List Value) : aCallFunc Tryz.prog 166 args = .pure (.enter 166 args) := rfl
@[go_sem] theorem call168 (args : List Value) : aCallFunc Tryz.prog 168 args = .pure (.enter 168 args) := rfl
@[go_sem] theorem call169 (args : List Value) : aCallFunc Tryz.prog 169 args = .pure (.enter 169 args) := rfl
@[go_sem] theorem call170 (args : List Value) : aCallFunc Tryz.prog 170 args = .pure (.enter 170 args) := rfl
@[go_sem] theorem call171 (args : List Value) : aCallFunc Tryz.prog 171 args = .pure (.enter 171 args) := rfl
@[go_sem] theorem call172 (args : List Value) : aCallFunc Tryz.prog 172 args = .pure (.enter 172 args) := rfl
@[go_sem] theorem call173 (args : List Value) : aCallFunc Tryz.prog 173 args = .pure (.enter 173 args) := rfl
@[go_sem] theorem call174 (args : List Value) : aCallFunc Tryz.prog 174 args = .pure (.enter 174 args) := rfl
@[go_sem] theorem call175 (args : List Value) : aCallFunc Tryz.prog 175 args = .pure (.enter 175 args) := rfl
@[go_sem] theorem call176 (args : List Value) : aCallFunc Tryz.prog 176 args = .pure (.enter 176 args) := rfl
@[go_sem] theorem call177 (args : List Value) : aCallFunc Tryz.prog 177 args = .pure (.enter 177 args) := rfl
@[go_sem] theorem call178 (args : List Value) : aCallFunc Tryz.prog 178 args = .pure (.enter 178 args) := rfl
@[go_sem] theorem call179 (args : List Value) : aCallFunc Tryz.prog 179 args = .pure (.enter 179 args) := rfl
@[go_sem] theorem call181 (args : List Value) : aCallFunc Tryz.prog 181 args = .pure (.enter 181 args) := rfl
@[go_sem] theorem call182 (args : List Value) : aCallFunc Tryz.prog 182 args = .pure (.enter 182 args) := rfl
@[go_sem] theorem call183 (args : List Value) : aCallFunc Tryz.prog 183 args = .pure (.enter 183 args) := rfl
@[go_sem] theorem call184 (args : List Value) : aCallFunc Tryz.prog 184 args = .pure (.enter 184 args) := rfl
@[go_sem] theorem call185 (args : List Value) : aCallFunc Tryz.prog 185 args = .pure (.enter 185 args) := rfl
@[go_sem] theorem call186 (args : List Value) : aCallFunc Tryz.prog 186 args = .pure (.enter 186 args) := rfl
@[go_sem] theorem call187 (args : List Value) : aCallFunc Tryz.prog 187 args = .pure (.enter 187 args) := rfl
@[go_sem] theorem call189 (args : List Value) : aCallFunc Tryz.prog 189 args = .pure (.enter 189 args) := rfl
@[go_sem] theorem call190 (args : List Value) : aCallFunc Tryz.prog 190 args = .pure (.enter 190 args) := rfl
@[go_sem] theorem call191 (args : List Value) : aCallFunc Tryz.prog 191 args = .pure (.enter 191 args) := rfl
@[go_sem] theorem call192 (args : List Value) : aCallFunc Tryz.prog 192 args = .pure (.enter 192 args) := rfl
@[go_sem] theorem call193 (args : List Value) : aCallFunc Tryz.prog 193 args = .pure (.enter 193 args) := rfl
@[go_sem] theorem call194 (args : List Value) : aCallFunc Tryz.prog 194 args = .pure (.enter 194 args) := rfl
@[go_sem] theorem call195 (args : List Value) : aCallFunc Tryz.prog 195 args = .pure (.enter 195 args) := rfl
@[go_sem] theorem call196 (args : List Value) : aCallFunc Tryz.prog 196 args = .pure (.enter 196 args) := rfl
@[go_sem] theorem call197 (args : List Value) : aCallFunc Tryz.prog 197 args = .pure (.enter 197 args) := rfl
@[go_sem] theorem call198 (args : List Value) : aCallFunc Tryz.prog 198 args = .pure (.enter 198 args) := rfl
@[go_sem] theorem call199 (args : List Value) : aCallFunc Tryz.prog 199 args = .pure (.enter 199 args) := rfl
@[go_sem] theorem call200 (args : List Value) : aCallFunc Tryz.prog 200 args = .pure (.enter 200 args) := rfl
@[go_sem] theorem call201 (args : List Value) : aCallFunc Tryz.prog 201 args = .pure (.enter 201 args) := rfl
@[go_sem] theorem call202 (args : List Value) : aCallFunc Tryz.prog 202 args = .pure (.enter 202 args) := rfl
@[go_sem] theorem call203 (args : List Value) : aCallFunc Tryz.prog 203 args = .pure (.enter 203 args) := rfl
@[go_sem] theorem call204 (args : List Value) : aCallFunc Tryz.prog 204 args = .pure (.enter 204 args) := rfl
@[go_sem] theorem call205 (args : List Value) : aCallFunc Tryz.prog 205 args = .pure (.enter 205 args) := rfl
@[go_sem] theorem call206 (args : List Value) : aCallFunc Tryz.prog 206 args = .pure (.enter 206 args) := rfl
@[go_sem] theorem call207 (args : List Value) : aCallFunc Tryz.prog 207 args = .pure (.enter 207 args) := rfl
@[go_sem] theorem call208 (args : List Value) : aCallFunc Tryz.prog 208 args = .pure (.enter 208 args) := rfl
@[go_sem] theorem call209 (args : List Value) : aCallFunc Tryz.prog 209 args = .pure (.enter 209 args) := rfl
attribute [go_sem_proc] Nat.reduceLT Nat.reduceAdd Nat.reduceMul Nat.reduceSub Nat.reduceEqDiff Nat.reduceLeDiff Int.reduceToNat Int.reduceLT Int.reduceLE Int.reduceEq Int.reduceNe Int.reduceAdd Int.reduceSub Int.reduceMul Int.reduceNeg reduceCtorEq
attribute [go_sem_proc ↓] reduceIte
@[go_sem] def w3_1 : List (Nat × Nat) := [(0, 2), (1, 2), (0, 3), (1, 3), (2, 4), (3, 4)]
@[go_sem] def w8_7 : List (Nat × Nat) := [(0, 1), (0, 2), (1, 2), (0, 3), (0, 4), (0, 5), (0, 6), (0, 7), (0, 8), (1, 8), (2, 8), (3, 8), (4, 8), (5, 8), (6, 8), (7, 8), (0, 9), (1, 9), (2, 9), (3, 9), (4, 9), (5, 9), (6, 9), (7, 9), (8, 9), (0, 10), (1, 10), (2, 10), (3, 10), (4, 10), (5, 10), (6, 10), (7, 10), (0, 11), (1, 11), (2, 11), (3, 11), (4, 11), (5, 11), (6, 11), (7, 11), (0, 12), (1, 12), (2, 12), (3, 12), (4, 12), (5, 12), (6, 12), (7, 12), (0, 13), (1, 13), (2, 13), (3, 13), (4, 13), (5, 13), (6, 13), (7, 13), (8, 13), (9, 13), (10, 13), (11, 13), (12, 13), (0, 14), (1, 14), (2, 14), (3, 14), (4, 14), (5, 14), (6, 14), (7, 14), (8, 14), (9, 14), (10, 14), (11, 14), (12, 14), (13, 14), (0, 15), (1, 15), (2, 15), (3, 15), (4, 15), (5, 15), (6, 15), (7, 15), (8, 15), (9, 15), (10, 15), (11, 15), (12, 15), (0, 16), (1, 16), (2, 16), (3, 16), (4, 16), (5, 16), (6, 16), (7, 16), (8, 16), (9, 16), (10, 16), (11, 16), (12, 16), (0, 17), (1, 17), (2, 17), (3, 17), (4, 17), (5, 17), (6, 17), (7, 17), (8, 17), (9, 17), (10, 17), (11, 17), (12, 17), (0, 18), (1, 18), (2, 18), (3, 18), (4, 18), (5, 18), (6, 18), (7, 18), (8, 18), (9, 18), (10, 18), (11, 18), (12, 18), (0, 19), (1, 19), (2, 19), (3, 19), (4, 19), (5, 19), (6, 19), (7, 19), (8, 19), (9, 19), (10, 19), (11, 19), (12, 19), (0, 20), (1, 20), (2, 20), (3, 20), (4, 20), (5, 20), (6, 20), (7, 20), (8, 20), (9, 20), (10, 20), (11, 20), (12, 20), (13, 20), (14, 20), (15, 20), (16, 20), (17, 20), (18, 20), (19, 20)]
@[go_sem] def w9_21 : List (Nat × Nat) := [(0, 1), (0, 2), (1, 2), (0, 3), (1, 3), (2, 3), (0, 4), (1, 4), (2, 4), (3, 4), (0, 5), (1, 5), (2, 5), (3, 5), (4, 5), (1, 6), (2, 6), (4, 6), (5, 6), (1, 7), (2, 7), (4, 7), (5, 7), (1, 8), (2, 8), (4, 8), (5, 8), (2, 9), (5, 9), (2, 10), (5, 10), (2, 11), (5, 11)]
@[go_sem] def w9_26 : List (Nat × Nat) := [(0, 4), (1, 4), (2, 4), (3, 4), (0, 5), (1, 5), (2, 5), (3, 5), (4, 5), (0, 6), (1, 6), (2, 6), (3, 6), (4, 6), (5, 6), (0, 7), (1, 7), (2, 7), (3, 7), (4, 7), (6, 7), (0, 8), (1, 8), (2, 8), (3, 8), (4, 8), (6, 8), (0, 9), (1, 9), (2, 9), (3, 9), (4, 9), (0, 10), (1, 10), (2, 10), (3, 10), (4, 10), (0, 11), (1, 11), (2, 11), (3, 11), (4, 11)]
@[go_sem] def w10_9 : List (Nat × Nat) := [(0, 1), (0, 2), (7, 8), (7, 10), (8, 10), (9, 10), (7, 11), (8, 11), (9, 11), (10, 11), (7, 12), (8, 12), (9, 12)]
@[go_sem] def w13_6 : List (Nat × Nat) := [(0, 1), (0, 4), (1, 4), (2, 4), (3, 4), (0, 5), (1, 5), (2, 5), (3, 5), (4, 5), (0, 6), (1, 6), (2, 6), (3, 6), (0, 7), (1, 7), (2, 7), (3, 7)]
@[go_sem] def w34_9 : List (Nat × Nat) := [(0, 4), (1, 4), (2, 4), (3, 4), (9, 10), (10, 11), (10, 12), (18, 19), (19, 20), (19, 21), (18, 25), (19, 25), (20, 25), (21, 25), (22, 25), (23, 25), (24, 25), (18, 26), (19, 26), (20, 26), (21, 26), (22, 26), (23, 26), (24, 26), (18, 27), (19, 27), (20, 27), (21, 27), (22, 27), (23, 27), (24, 27), (18, 28), (19, 28), (20, 28), (21, 28), (22, 28), (23, 28), (24, 28), (18, 29), (19, 29), (20, 29), (21, 29), (22, 29), (23, 29), (24, 29), (25, 29), (26, 29), (27, 29), (28, 29), (18, 30), (19, 30), (20, 30), (21, 30), (22, 30), (23, 30), (24, 30), (18, 31), (19, 31), (20, 31), (21, 31), (22, 31), (23, 31), (24, 31)]
@[go_sem] def w37_11 : List (Nat × Nat) := [(0, 1), (0, 2), (1, 2), (0, 3), (1, 3), (0, 4), (1, 4), (2, 4), (3, 4), (0, 5), (1, 5), (2, 5), (3, 5)]
@[go_sem] def w123_1 : List (Nat × Nat) := [(0, 4), (1, 4), (2, 4), (3, 4), (0, 5), (1, 5), (2, 5), (3, 5), (4, 5), (0, 6), (1, 6), (2, 6), (3, 6), (4, 6), (0, 7), (1, 7), (2, 7), (3, 7), (4, 7), (0, 8), (1, 8), (2, 8), (3, 8), (4, 8), (0, 9), (1, 9), (2, 9), (3, 9), (4, 9), (5, 9), (6, 9), (7, 9), (8, 9), (0, 10), (1, 10), (2, 10), (3, 10), (4, 10), (0, 11), (1, 11), (2, 11), (3, 11), (4, 11), (5, 11), (6, 11), (7, 11), (8, 11), (9, 11), (10, 11), (0, 12), (1, 12), (2, 12), (3, 12), (4, 12), (5, 12), (6, 12), (7, 12), (8, 12), (9, 12), (10, 12), (0, 13), (1, 13), (2, 13), (3, 13), (4, 13), (5, 13), (6, 13), (7, 13), (8, 13), (9, 13), (10, 13), (0, 14), (1, 14), (2, 14), (3, 14), (4, 14), (5, 14), (6, 14), (7, 14), (8, 14), (9, 14), (10, 14), (0, 15), (1, 15), (2, 15), (3, 15), (4, 15), (5, 15), (6, 15), (7, 15), (8, 15), (9, 15), (10, 15), (11, 15), (12, 15), (13, 15), (14, 15), (0, 16), (1, 16), (2, 16), (3, 16), (4, 16), (5, 16), (6, 16), (7, 16), (8, 16), (9, 16), (10, 16), (0, 17), (1, 17), (2, 17), (3, 17), (4, 17), (5, 17), (6, 17), (7, 17), (8, 17), (9, 17), (10, 17)]
@[go_sem] def w126_1 : List (Nat × Nat) := [(0, 4), (1, 4), (2, 4), (3, 4), (0, 5), (1, 5), (2, 5), (3, 5), (0, 6), (1, 6), (2, 6), (3, 6), (0, 7), (1, 7), (2, 7), (3, 7), (0, 8), (1, 8), (2, 8), (3, 8), (4, 8), (5, 8), (6, 8), (7, 8), (0, 9), (1, 9), (2, 9), (3, 9), (4, 9), (5, 9), (6, 9), (7, 9), (0, 10), (1, 10), (2, 10), (3, 10), (4, 10), (5, 10), (6, 10), (7, 10), (0, 11), (1, 11), (2, 11), (3, 11), (4, 11), (5, 11), (6, 11), (7, 11)]
@[go_sem] def w126_2 : List (Nat × Nat) := [(0, 7), (1, 7), (2, 7), (3, 7), (4, 7), (5, 7), (6, 7), (0, 8), (1, 8), (2, 8), (3, 8), (4, 8), (5, 8), (6, 8), (0, 9), (1, 9), (2, 9), (3, 9), (4, 9), (5, 9), (6, 9), (0, 10), (1, 10), (2, 10), (3, 10), (4, 10), (5, 10), (6, 10)]
@[go_sem] def w130_2 : List (Nat × Nat) := [(0, 4), (1, 4), (2, 4), (3, 4), (0, 5), (1, 5), (2, 5), (3, 5), (0, 6), (1, 6), (2, 6), (3, 6), (0, 7), (1, 7), (2, 7), (3, 7), (0, 8), (1, 8), (2, 8), (3, 8), (0, 9), (1, 9), (2, 9), (3, 9), (0, 10), (1, 10), (2, 10), (3, 10), (0, 11), (1, 11), (2, 11), (3, 11)]
@[go_sem] def w143_1 : List (Nat × Nat) := [(0, 4), (1, 4), (2, 4), (3, 4), (0, 5), (1, 5), (2, 5), (3, 5), (4, 5), (0, 6), (1, 6), (2, 6), (3, 6), (4, 6), (0, 7), (1, 7), (2, 7), (3, 7), (4, 7), (0, 8), (1, 8), (2, 8), (3, 8), (4, 8), (0, 9), (1, 9), (2, 9), (3, 9), (4, 9), (5, 9), (6, 9), (7, 9), (8, 9), (0, 10), (1, 10), (2, 10), (3, 10), (4, 10), (0, 11), (1, 11), (2, 11), (3, 11), (4, 11), (5, 11), (6, 11), (7, 11), (8, 11), (9, 11), (10, 11), (0, 12), (1, 12), (2, 12), (3, 12), (4, 12), (5, 12), (6, 12), (7, 12), (8, 12), (9, 12), (10, 12), (0, 13), (1, 13), (2, 13), (3, 13), (4, 13), (5, 13), (6, 13), (7, 13), (8, 13), (9, 13), (10, 13), (0, 14), (1, 14), (2, 14), (3, 14), (4, 14), (5, 14), (6, 14), (7, 14), (8, 14), (9, 14), (10, 14), (0, 15), (1, 15), (2, 15), (3, 15), (4, 15), (5, 15), (6, 15), (7, 15), (8, 15), (9, 15), (10, 15), (11, 15), (12, 15), (13, 15), (14, 15), (0, 16), (1, 16), (2, 16), (3, 16), (4, 16), (5, 16), (6, 16), (7, 16), (8, 16), (9, 16), (10, 16), (0, 17), (1, 17), (2, 17), (3, 17), (4, 17), (5, 17), (6, 17), (7, 17), (8, 17), (9, 17), (10, 17), (0, 18), (1, 18), (2, 18), (3, 18), (4, 18), (5, 18), (6, 18), (7, 18), (8, 18), (9, 18), (10, 18)]
@[go_sem] def w150_12 : List (Nat × Nat) := [(0, 4), (1, 4), (2, 4), (3, 4), (0, 5), (1, 5), (2, 5), (3, 5), (4, 5), (0, 6), (1, 6), (2, 6), (3, 6), (4, 6), (5, 6), (0, 7), (1, 7), (2, 7), (3, 7), (4, 7), (0, 8), (1, 8), (2, 8), (3, 8), (4, 8), (5, 8), (6, 8), (7, 8)]
@[go_sem] def w151_7 : List (Nat × Nat) := [(0, 4), (1, 4), (2, 4), (3, 4), (0, 5), (1, 5), (2, 5), (3, 5), (4, 5), (0, 6), (1, 6), (2, 6), (3, 6), (4, 6), (0, 7), (1, 7), (2, 7), (3, 7), (4, 7), (0, 8), (1, 8), (2, 8), (3, 8), (4, 8)]
@[go_sem] def w160_3 : List (Nat × Nat) := [(0, 1), (0, 2), (0, 3), (0, 4), (0, 5), (0, 6), (0, 7), (0, 8), (1, 8), (2, 8), (3, 8), (4, 8), (5, 8), (6, 8), (7, 8), (0, 9), (1, 9), (2, 9), (3, 9), (4, 9), (5, 9), (6, 9), (7, 9), (0, 10), (1, 10), (2, 10), (3, 10), (4, 10), (5, 10), (6, 10), (7, 10), (0, 11), (1, 11), (2, 11), (3, 11), (4, 11), (5, 11), (6, 11), (7, 11), (0, 12), (1, 12), (2, 12), (3, 12), (4, 12), (5, 12), (6, 12), (7, 12), (8, 12), (9, 12), (10, 12), (11, 12), (0, 13), (1, 13), (2, 13), (3, 13), (4, 13), (5, 13), (6, 13), (7, 13), (8, 13), (9, 13), (10, 13), (11, 13), (0, 14), (1, 14), (2, 14), (3, 14), (4, 14), (5, 14), (6, 14), (7, 14), (8, 14), (9, 14), (10, 14), (11, 14), (0, 15), (0, 16), (0, 17), (0, 18), (17, 18), (18, 19), (18, 20), (18, 21)]
@[go_sem] def w165_1 : List (Nat × Nat) := [(0, 4), (1, 4), (2, 4), (3, 4), (0, 5), (1, 5), (2, 5), (3, 5), (0, 6), (1, 6), (2, 6), (3, 6), (0, 7), (1, 7), (2, 7), (3, 7), (0, 8), (1, 8), (2, 8), (3, 8), (0, 9), (1, 9), (2, 9), (3, 9)]
@[go_sem] def w168_2 : List (Nat × Nat) := [(0, 2), (1, 2), (0, 3), (1, 3), (2, 4), (3, 4)]
@[go_sem] def w170_1 : List (Nat × Nat) := [(0, 4), (1, 4), (2, 4), (3, 4), (0, 5), (1, 5), (2, 5), (3, 5), (0, 6), (1, 6), (2, 6), (3, 6), (0, 7), (1, 7), (2, 7), (3, 7), (0, 8), (1, 8), (2, 8), (3, 8), (4, 8), (5, 8), (6, 8), (7, 8), (0, 9), (1, 9), (2, 9), (3, 9), (4, 9), (5, 9), (6, 9), (7, 9), (0, 10), (1, 10), (2, 10), (3, 10), (4, 10), (5, 10), (6, 10), (7, 10), (0, 11), (1, 11), (2, 11), (3, 11), (4, 11), (5, 11), (6, 11), (7, 11), (0, 12), (1, 12), (2, 12), (3, 12), (4, 12), (5, 12), (6, 12), (7, 12), (8, 12), (9, 12), (10, 12), (11, 12), (0, 13), (1, 13), (2, 13), (3, 13), (4, 13), (5, 13), (6, 13), (7, 13), (8, 13), (9, 13), (10, 13), (11, 13), (0, 14), (1, 14), (2, 14), (3, 14), (4, 14), (5, 14), (6, 14), (7, 14), (8, 14), (9, 14), (10, 14), (11, 14), (0, 15), (1, 15), (2, 15), (3, 15), (4, 15), (5, 15), (6, 15), (7, 15), (8, 15), (9, 15), (10, 15), (11, 15), (0, 16), (1, 16), (2, 16), (3, 16), (4, 16), (5, 16), (6, 16), (7, 16), (8, 16), (9, 16), (10, 16), (11, 16), (0, 17), (1, 17), (2, 17), (3, 17), (4, 17), (5, 17), (6, 17), (7, 17), (8, 17), (9, 17), (10, 17), (11, 17), (20, 21), (21, 22)]
@[go_sem] def w170_6 : List (Nat × Nat) := [(0, 5), (1, 5), (2, 5), (3, 5), (4, 5)]
@[go_sem] def w172_1 : List (Nat × Nat) := [(0, 1), (0, 2), (0, 3), (0, 4), (0, 5), (0, 6), (0, 7), (0, 8), (1, 8), (2, 8), (3, 8), (4, 8), (5, 8), (6, 8), (7, 8), (0, 9), (1, 9), (2, 9), (3, 9), (4, 9), (5, 9), (6, 9), (7, 9), (0, 10), (1, 10), (2, 10), (3, 10), (4, 10), (5, 10), (6, 10), (7, 10), (0, 11), (1, 11), (2, 11), (3, 11), (4, 11), (5, 11), (6, 11), (7, 11), (0, 12), (1, 12), (2, 12), (3, 12), (4, 12), (5, 12), (6, 12), (7, 12), (8, 12), (9, 12), (10, 12), (11, 12), (0, 13), (1, 13), (2, 13), (3, 13), (4, 13), (5, 13), (6, 13), (7, 13), (8, 13), (9, 13), (10, 13), (11, 13), (0, 14), (1, 14), (2, 14), (3, 14), (4, 14), (5, 14), (6, 14), (7, 14), (8, 14), (9, 14), (10, 14), (11, 14), (0, 15), (0, 16), (0, 17), (0, 18), (17, 18), (18, 19), (18, 20), (18, 21)]
@[go_sem] def w174_2 : List (Nat × Nat) := [(0, 4), (1, 4), (2, 4), (3, 4), (0, 5), (1, 5), (2, 5), (3, 5), (0, 6), (1, 6), (2, 6), (3, 6), (0, 7), (1, 7), (2, 7), (3, 7)]
@[go_sem] def w178_1 : List (Nat × Nat) := [(0, 7), (1, 7), (2, 7), (3, 7), (4, 7), (5, 7), (6, 7), (0, 8), (1, 8), (2, 8), (3, 8), (4, 8), (5, 8), (6, 8), (0, 9), (1, 9), (2, 9), (3, 9), (4, 9), (5, 9), (6, 9), (0, 10), (1, 10), (2, 10), (3, 10), (4, 10), (5, 10), (6, 10), (0, 11), (1, 11), (2, 11), (3, 11), (4, 11), (5, 11), (6, 11), (7, 11), (8, 11), (9, 11), (10, 11), (0, 12), (1, 12), (2, 12), (3, 12), (4, 12), (5, 12), (6, 12), (7, 12), (8, 12), (9, 12), (10, 12), (0, 13), (1, 13), (2, 13), (3, 13), (4, 13), (5, 13), (6, 13), (7, 13), (8, 13), (9, 13), (10, 13), (11, 13), (12, 13), (0, 14), (1, 14), (2, 14), (3, 14), (4, 14), (5, 14), (6, 14), (7, 14), (8, 14), (9, 14), (10, 14), (11, 14), (12, 14), (0, 15), (1, 15), (2, 15), (3, 15), (4, 15), (5, 15), (6, 15), (7, 15), (8, 15), (9, 15), (10, 15), (11, 15), (12, 15), (0, 16), (1, 16), (2, 16), (3, 16), (4, 16), (5, 16), (6, 16), (7, 16), (8, 16), (9, 16), (10, 16), (19, 20), (20, 21)]
@[go_sem] def w179_1 : List (Nat × Nat) := [(0, 7), (1, 7), (2, 7), (3, 7), (4, 7), (5, 7), (6, 7), (0, 8), (1, 8), (2, 8), (3, 8), (4, 8), (5, 8), (6, 8), (0, 9), (1, 9), (2, 9), (3, 9), (4, 9), (5, 9), (6, 9), (0, 10), (1, 10), (2, 10), (3, 10), (4, 10), (5, 10), (6, 10), (0, 11), (1, 11), (2, 11), (3, 11), (4, 11), (5, 11), (6, 11), (7, 11), (8, 11), (9, 11), (10, 11), (0, 12), (1, 12), (2, 12), (3, 12), (4, 12), (5, 12), (6, 12), (7, 12), (8, 12), (9, 12), (10, 12), (0, 13), (1, 13), (2, 13), (3, 13), (4, 13), (5, 13), (6, 13), (7, 13), (8, 13), (9, 13), (10, 13), (0, 14), (1, 14), (2, 14), (3, 14), (4, 14), (5, 14), (6, 14), (7, 14), (8, 14), (9, 14), (10, 14), (11, 14), (12, 14), (13, 14), (0, 15), (1, 15), (2, 15), (3, 15), (4, 15), (5, 15), (6, 15), (7, 15), (8, 15), (9, 15), (10, 15), (11, 15), (12, 15), (13, 15), (0, 16), (1, 16), (2, 16), (3, 16), (4, 16), (5, 16), (6, 16), (7, 16), (8, 16), (9, 16), (10, 16), (11, 16), (12, 16), (13, 16), (0, 17), (1, 17), (2, 17), (3, 17), (4, 17), (5, 17), (6, 17), (7, 17), (8, 17), (9, 17), (10, 17), (11, 17), (12, 17), (13, 17), (0, 18), (1, 18), (2, 18), (3, 18), (4, 18), (5, 18), (6, 18), (7, 18), (8, 18), (9, 18), (10, 18), (11, 18), (12, 18), (13, 18), (0, 19), (1, 19), (2, 19), (3, 19), (4, 19), (5, 19), (6, 19), (7, 19), (8, 19), (9, 19), (10, 19), (11, 19), (12, 19), (13, 19)]
@[go_sem] def w182_1 : List (Nat × Nat) := [(0, 7), (1, 7), (2, 7), (3, 7), (4, 7), (5, 7), (6, 7), (0, 8), (1, 8), (2, 8), (3, 8), (4, 8), (5, 8), (6, 8), (0, 9), (1, 9), (2, 9), (3, 9), (4, 9), (5, 9), (6, 9), (0, 10), (1, 10), (2, 10), (3, 10), (4, 10), (5, 10), (6, 10), (0, 11), (1, 11), (2, 11), (3, 11), (4, 11), (5, 11), (6, 11), (7, 11), (8, 11), (9, 11), (10, 11), (0, 12), (1, 12), (2, 12), (3, 12), (4, 12), (5, 12), (6, 12), (7, 12), (8, 12), (9, 12), (10, 12), (0, 13), (1, 13), (2, 13), (3, 13), (4, 13), (5, 13), (6, 13), (7, 13), (8, 13), (9, 13), (10, 13)]
@[go_sem] def w192_3 : List (Nat × Nat) := [(0, 7), (1, 7), (2, 7), (3, 7), (4, 7), (5, 7), (6, 7), (0, 8), (1, 8), (2, 8), (3, 8), (4, 8), (5, 8), (6, 8), (0, 9), (1, 9), (2, 9), (3, 9), (4, 9), (5, 9), (6, 9), (0, 10), (1, 10), (2, 10), (3, 10), (4, 10), (5, 10), (6, 10), (0, 11), (1, 11), (2, 11), (3, 11), (4, 11), (5, 11), (6, 11), (7, 11), (8, 11), (9, 11), (10, 11), (0, 12), (1, 12), (2, 12), (3, 12), (4, 12), (5, 12), (6, 12), (7, 12), (8, 12), (9, 12), (10, 12), (0, 13), (1, 13), (2, 13), (3, 13), (4, 13), (5, 13), (6, 13), (7, 13), (8, 13), (9, 13), (10, 13), (0, 14), (1, 14), (2, 14), (3, 14), (4, 14), (5, 14), (6, 14), (7, 14), (8, 14), (9, 14), (10, 14), (0, 15), (1, 15), (2, 15), (3, 15), (4, 15), (5, 15), (6, 15), (7, 15), (8, 15), (9, 15), (10, 15), (0, 16), (1, 16), (2, 16), (3, 16), (4, 16), (5, 16), (6, 16), (7, 16), (8, 16), (9, 16), (10, 16), (0, 17), (1, 17), (2, 17), (3, 17), (4, 17), (5, 17), (6, 17), (7, 17), (8, 17), (9, 17), (10, 17), (0, 18), (1, 18), (2, 18), (3, 18), (4, 18), (5, 18), (6, 18), (7, 18), (8, 18), (9, 18), (10, 18), (11, 18), (12, 18), (13, 18), (14, 18), (15, 18), (16, 18), (17, 18), (0, 19), (1, 19), (2, 19), (3, 19), (4, 19), (5, 19), (6, 19), (7, 19), (8, 19), (9, 19), (10, 19), (11, 19), (12, 19), (13, 19), (14, 19), (15, 19), (16, 19), (17, 19), (0, 20), (1, 20), (2, 20), (3, 20), (4, 20), (5, 20), (6, 20), (7, 20), (8, 20), (9, 20), (10, 20), (11, 20), (12, 20), (13, 20), (14, 20), (15, 20), (16, 20), (17, 20), (0, 21), (1, 21), (2, 21), (3, 21), (4, 21), (5, 21), (6, 21), (7, 21), (8, 21), (9, 21), (10, 21), (11, 21), (12, 21), (13, 21), (14, 21), (15, 21), (16, 21), (17, 21), (0, 22), (1, 22), (2, 22), (3, 22), (4, 22), (5, 22), (6, 22), (7, 22), (8, 22), (9, 22), (10, 22), (25, 26), (26, 27)]
@[go_sem] def w192_5 : List (Nat × Nat) := [(0, 5), (1, 5), (2, 5), (3, 5), (4, 5)]
@[go_sem] def w194_6 : List (Nat × Nat) := [(0, 1), (0, 2), (0, 3), (0, 4), (0, 5), (1, 6), (2, 6), (3, 6), (4, 6), (5, 6)]
@[go_sem] def w196_1 : List (Nat × Nat) := [(0, 7), (1, 7), (2, 7), (3, 7), (4, 7), (5, 7), (6, 7), (0, 8), (1, 8), (2, 8), (3, 8), (4, 8), (5, 8), (6, 8), (0, 9), (1, 9), (2, 9), (3, 9), (4, 9), (5, 9), (6, 9), (0, 10), (1, 10), (2, 10), (3, 10), (4, 10), (5, 10), (6, 10), (0, 11), (1, 11), (2, 11), (3, 11), (4, 11), (5, 11), (6, 11), (7, 11), (8, 11), (9, 11), (10, 11), (0, 12), (1, 12), (2, 12), (3, 12), (4, 12), (5, 12), (6, 12), (7, 12), (8, 12), (9, 12), (10, 12), (0, 13), (1, 13), (2, 13), (3, 13), (4, 13), (5, 13), (6, 13), (7, 13), (8, 13), (9, 13), (10, 13), (0, 14), (1, 14), (2, 14), (3, 14), (4, 14), (5, 14), (6, 14), (7, 14), (8, 14), (9, 14), (10, 14), (0, 15), (1, 15), (2, 15), (3, 15), (4, 15), (5, 15), (6, 15), (7, 15), (8, 15), (9, 15), (10, 15), (0, 16), (1, 16), (2, 16), (3, 16), (4, 16), (5, 16), (6, 16), (7, 16), (8, 16), (9, 16), (10, 16), (0, 17), (1, 17), (2, 17), (3, 17), (4, 17), (5, 17), (6, 17), (7, 17), (8, 17), (9, 17), (10, 17), (0, 18), (1, 18), (2, 18), (3, 18), (4, 18), (5, 18), (6, 18), (7, 18), (8, 18), (9, 18), (10, 18), (11, 18), (12, 18), (13, 18), (14, 18), (15, 18), (16, 18), (17, 18), (0, 19), (1, 19), (2, 19), (3, 19), (4, 19), (5, 19), (6, 19), (7, 19), (8, 19), (9, 19), (10, 19), (11, 19), (12, 19), (13, 19), (14, 19), (15, 19), (16, 19), (17, 19), (0, 20), (1, 20), (2, 20), (3, 20), (4, 20), (5, 20), (6, 20), (7, 20), (8, 20), (9, 20), (10, 20), (11, 20), (12, 20), (13, 20), (14, 20), (15, 20), (16, 20), (17, 20), (0, 21), (1, 21), (2, 21), (3, 21), (4, 21), (5, 21), (6, 21), (7, 21), (8, 21), (9, 21), (10, 21), (11, 21), (12, 21), (13, 21), (14, 21), (15, 21), (16, 21), (17, 21), (0, 22), (1, 22), (2, 22), (3, 22), (4, 22), (5, 22), (6, 22), (7, 22), (8, 22), (9, 22), (10, 22), (0, 23), (1, 23), (2, 23), (3, 23), (4, 23), (5, 23), (6, 23), (7, 23), (8, 23), (9, 23), (10, 23), (0, 24), (1, 24), (2, 24), (3, 24), (4, 24), (5, 24), (6, 24), (7, 24), (8, 24), (9, 24), (10, 24), (11, 24), (12, 24), (13, 24), (14, 24), (15, 24), (16, 24), (17, 24), (18, 24), (19, 24), (20, 24), (21, 24), (22, 24), (23, 24), (0, 25), (1, 25), (2, 25), (3, 25), (4, 25), (5, 25), (6, 25), (7, 25), (8, 25), (9, 25), (10, 25), (11, 25), (12, 25), (13, 25), (14, 25), (15, 25), (16, 25), (17, 25), (18, 25), (19, 25), (20, 25), (21, 25), (22, 25), (23, 25), (0, 26), (1, 26), (2, 26), (3, 26), (4, 26), (5, 26), (6, 26), (7, 26), (8, 26), (9, 26), (10, 26), (11, 26), (12, 26), (13, 26), (14, 26), (15, 26), (16, 26), (17, 26), (18, 26), (19, 26), (20, 26), (21, 26), (22, 26), (23, 26), (0, 27), (1, 27), (2, 27), (3, 27), (4, 27), (5, 27), (6, 27), (7, 27), (8, 27), (9, 27), (10, 27), (11, 27), (12, 27), (13, 27), (14, 27), (15, 27), (16, 27), (17, 27), (18, 27), (19, 27), (20, 27), (21, 27), (22, 27), (23, 27), (0, 28), (1, 28), (2, 28), (3, 28), (4, 28), (5, 28), (6, 28), (7, 28), (8, 28), (9, 28), (10, 28), (11, 28), (12, 28), (13, 28), (14, 28), (15, 28), (16, 28), (17, 28), (18, 28), (19, 28), (20, 28), (21, 28), (22, 28), (23, 28)]
@[go_sem] def w197_1 : List (Nat × Nat) := [(0, 4), (1, 4), (2, 4), (3, 4), (0, 5), (1, 5), (2, 5), (3, 5), (0, 6), (1, 6), (2, 6), (3, 6), (0, 7), (1, 7), (2, 7), (3, 7), (0, 8), (1, 8), (2, 8), (3, 8), (4, 8), (5, 8), (6, 8), (7, 8), (0, 9), (1, 9), (2, 9), (3, 9), (4, 9), (5, 9), (6, 9), (7, 9), (0, 10), (1, 10), (2, 10), (3, 10), (4, 10), (5, 10), (6, 10), (7, 10), (0, 11), (1, 11), (2, 11), (3, 11), (4, 11), (5, 11), (6, 11), (7, 11)]
@[go_sem] def w197_2 : List (Nat × Nat) := [(0, 7), (1, 7), (2, 7), (3, 7), (4, 7), (5, 7), (6, 7), (0, 8), (1, 8), (2, 8), (3, 8), (4, 8), (5, 8), (6, 8), (0, 9), (1, 9), (2, 9), (3, 9), (4, 9), (5, 9), (6, 9), (0, 10), (1, 10), (2, 10), (3, 10), (4, 10), (5, 10), (6, 10)]
@[go_sem] def w199_5 : List (Nat × Nat) := [(0, 1), (0, 2), (0, 3), (0, 4), (0, 5), (1, 6), (2, 6), (3, 6), (4, 6), (5, 6)]
@[go_sem] def w200_2 : List (Nat × Nat) := [(0, 4), (1, 4), (2, 4), (3, 4), (0, 5), (1, 5), (2, 5), (3, 5), (0, 6), (1, 6), (2, 6), (3, 6), (0, 7), (1, 7), (2, 7), (3, 7), (0, 8), (1, 8), (2, 8), (3, 8), (0, 9), (1, 9), (2, 9), (3, 9), (0, 10), (1, 10), (2, 10), (3, 10), (0, 11), (1, 11), (2, 11), (3, 11)]
@[go_sem] def w201_1 : List (Nat × Nat) := [(0, 1), (0, 2), (0, 3), (0, 4), (0, 5), (0, 6), (0, 7), (0, 8), (1, 8), (2, 8), (3, 8), (4, 8), (5, 8), (6, 8), (7, 8), (0, 9), (1, 9), (2, 9), (3, 9), (4, 9), (5, 9), (6, 9), (7, 9), (0, 10), (1, 10), (2, 10), (3, 10), (4, 10), (5, 10), (6, 10), (7, 10), (0, 11), (1, 11), (2, 11), (3, 11), (4, 11), (5, 11), (6, 11), (7, 11), (0, 12), (1, 12), (2, 12), (3, 12), (4, 12), (5, 12), (6, 12), (7, 12), (8, 12), (9, 12), (10, 12), (11, 12), (0, 13), (1, 13), (2, 13), (3, 13), (4, 13), (5, 13), (6, 13), (7, 13), (8, 13), (9, 13), (10, 13), (11, 13), (0, 14), (1, 14), (2, 14), (3, 14), (4, 14), (5, 14), (6, 14), (7, 14), (8, 14), (9, 14), (10, 14), (11, 14), (0, 15), (1, 15), (2, 15), (3, 15), (4, 15), (5, 15), (6, 15), (7, 15), (8, 15), (9, 15), (10, 15), (11, 15), (0, 16), (1, 16), (2, 16), (3, 16), (4, 16), (5, 16), (6, 16), (7, 16), (8, 16), (9, 16), (10, 16), (11, 16), (0, 17), (1, 17), (2, 17), (3, 17), (4, 17), (5, 17), (6, 17), (7, 17), (8, 17), (9, 17), (10, 17), (11, 17), (0, 18), (1, 18), (2, 18), (3, 18), (4, 18), (5, 18), (6, 18), (7, 18), (8, 18), (9, 18), (10, 18), (11, 18), (0, 19), (1, 19), (2, 19), (3, 19), (4, 19), (5, 19), (6, 19), (7, 19), (8, 19), (9, 19), (10, 19), (11, 19), (12, 19), (13, 19), (14, 19), (15, 19), (16, 19), (17, 19), (18, 19), (0, 20), (1, 20), (2, 20), (3, 20), (4, 20), (5, 20), (6, 20), (7, 20), (8, 20), (9, 20), (10, 20), (11, 20), (12, 20), (13, 20), (14, 20), (15, 20), (16, 20), (17, 20), (18, 20), (0, 21), (1, 21), (2, 21), (3, 21), (4, 21), (5, 21), (6, 21), (7, 21), (8, 21), (9, 21), (10, 21), (11, 21), (12, 21), (13, 21), (14, 21), (15, 21), (16, 21), (17, 21), (18, 21), (0, 22), (1, 22), (2, 22), (3, 22), (4, 22), (5, 22), (6, 22), (7, 22), (8, 22), (9, 22), (10, 22), (11, 22), (12, 22), (13, 22), (14, 22), (15, 22), (16, 22), (17, 22), (18, 22), (0, 23), (1, 23), (2, 23), (3, 23), (4, 23), (5, 23), (6, 23), (7, 23), (8, 23), (9, 23), (10, 23), (11, 23), (0, 24), (0, 25), (0, 26), (0, 27), (26, 27), (27, 28), (27, 29), (27, 30)]
@[go_sem] def w202_1 : List (Nat × Nat) := [(0, 7), (1, 7), (2, 7), (3, 7), (4, 7), (5, 7), (6, 7), (0, 8), (1, 8), (2, 8), (3, 8), (4, 8), (5, 8), (6, 8), (0, 9), (1, 9), (2, 9), (3, 9), (4, 9), (5, 9), (6, 9), (0, 10), (1, 10), (2, 10), (3, 10), (4, 10), (5, 10), (6, 10), (0, 11), (1, 11), (2, 11), (3, 11), (4, 11), (5, 11), (6, 11), (7, 11), (8, 11), (9, 11), (10, 11), (0, 12), (1, 12), (2, 12), (3, 12), (4, 12), (5, 12), (6, 12), (7, 12), (8, 12), (9, 12), (10, 12), (0, 13), (1, 13), (2, 13), (3, 13), (4, 13), (5, 13), (6, 13), (7, 13), (8, 13), (9, 13), (10, 13), (0, 14), (1, 14), (2, 14), (3, 14), (4, 14), (5, 14), (6, 14), (7, 14), (8, 14), (9, 14), (10, 14), (0, 15), (1, 15), (2, 15), (3, 15), (4, 15), (5, 15), (6, 15), (7, 15), (8, 15), (9, 15), (10, 15), (0, 16), (1, 16), (2, 16), (3, 16), (4, 16), (5, 16), (6, 16), (7, 16), (8, 16), (9, 16), (10, 16), (0, 17), (1, 17), (2, 17), (3, 17), (4, 17), (5, 17), (6, 17), (7, 17), (8, 17), (9, 17), (10, 17), (0, 18), (1, 18), (2, 18), (3, 18), (4, 18), (5, 18), (6, 18), (7, 18), (8, 18), (9, 18), (10, 18), (11, 18), (12, 18), (13, 18), (14, 18), (15, 18), (16, 18), (17, 18), (0, 19), (1, 19), (2, 19), (3, 19), (4, 19), (5, 19), (6, 19), (7, 19), (8, 19), (9, 19), (10, 19), (11, 19), (12, 19), (13, 19), (14, 19), (15, 19), (16, 19), (17, 19), (0, 20), (1, 20), (2, 20), (3, 20), (4, 20), (5, 20), (6, 20), (7, 20), (8, 20), (9, 20), (10, 20), (11, 20), (12, 20), (13, 20), (14, 20), (15, 20), (16, 20), (17, 20), (0, 21), (1, 21), (2, 21), (3, 21), (4, 21), (5, 21), (6, 21), (7, 21), (8, 21), (9, 21), (10, 21), (11, 21), (12, 21), (13, 21), (14, 21), (15, 21), (16, 21), (17, 21), (0, 22), (1, 22), (2, 22), (3, 22), (4, 22), (5, 22), (6, 22), (7, 22), (8, 22), (9, 22), (10, 22), (0, 23), (1, 23), (2, 23), (3, 23), (4, 23), (5, 23), (6, 23), (7, 23), (8, 23), (9, 23), (10, 23), (26, 27), (27, 28)]
@[go_sem] def w203_1 : List (Nat × Nat) := [(0, 7), (1, 7), (2, 7), (3, 7), (4, 7), (5, 7), (6, 7), (0, 8), (1, 8), (2, 8), (3, 8), (4, 8), (5, 8), (6, 8), (0, 9), (1, 9), (2, 9), (3, 9), (4, 9), (5, 9), (6, 9), (0, 10), (1, 10), (2, 10), (3, 10), (4, 10), (5, 10), (6, 10), (0, 11), (1, 11), (2, 11), (3, 11), (4, 11), (5, 11), (6, 11), (7, 11), (8, 11), (9, 11), (10, 11), (0, 12), (1, 12), (2, 12), (3, 12), (4, 12), (5, 12), (6, 12), (7, 12), (8, 12), (9, 12), (10, 12), (0, 13), (1, 13), (2, 13), (3, 13), (4, 13), (5, 13), (6, 13), (7, 13), (8, 13), (9, 13), (10, 13), (0, 14), (1, 14), (2, 14), (3, 14), (4, 14), (5, 14), (6, 14), (7, 14), (8, 14), (9, 14), (10, 14), (0, 15), (1, 15), (2, 15), (3, 15), (4, 15), (5, 15), (6, 15), (7, 15), (8, 15), (9, 15), (10, 15), (0, 16), (1, 16), (2, 16), (3, 16), (4, 16), (5, 16), (6, 16), (7, 16), (8, 16), (9, 16), (10, 16), (0, 17), (1, 17), (2, 17), (3, 17), (4, 17), (5, 17), (6, 17), (7, 17), (8, 17), (9, 17), (10, 17), (0, 18), (1, 18), (2, 18), (3, 18), (4, 18), (5, 18), (6, 18), (7, 18), (8, 18), (9, 18), (10, 18), (11, 18), (12, 18), (13, 18), (14, 18), (15, 18), (16, 18), (17, 18), (0, 19), (1, 19), (2, 19), (3, 19), (4, 19), (5, 19), (6, 19), (7, 19), (8, 19), (9, 19), (10, 19), (11, 19), (12, 19), (13, 19), (14, 19), (15, 19), (16, 19), (17, 19), (0, 20), (1, 20), (2, 20), (3, 20), (4, 20), (5, 20), (6, 20), (7, 20), (8, 20), (9, 20), (10, 20), (11, 20), (12, 20), (13, 20), (14, 20), (15, 20), (16, 20), (17, 20), (0, 21), (1, 21), (2, 21), (3, 21), (4, 21), (5, 21), (6, 21), (7, 21), (8, 21), (9, 21), (10, 21), (11, 21), (12, 21), (13, 21), (14, 21), (15, 21), (16, 21), (17, 21), (0, 22), (1, 22), (2, 22), (3, 22), (4, 22), (5, 22), (6, 22), (7, 22), (8, 22), (9, 22), (10, 22), (25, 26), (26, 27)]
@[go_sem] def w206_4 : List (Nat × Nat) := [(0, 4), (1, 4), (2, 4), (3, 4), (0, 5), (1, 5), (2, 5), (3, 5), (0, 6), (1, 6), (2, 6), (3, 6), (0, 7), (1, 7), (2, 7), (3, 7), (0, 8), (1, 8), (2, 8), (3, 8), (4, 8), (5, 8), (6, 8), (7, 8), (0, 9), (1, 9), (2, 9), (3, 9), (4, 9), (5, 9), (6, 9), (7, 9), (0, 10), (1, 10), (2, 10), (3, 10), (4, 10), (5, 10), (6, 10), (7, 10), (0, 11), (1, 11), (2, 11), (3, 11), (4, 11), (5, 11), (6, 11), (7, 11), (0, 12), (1, 12), (2, 12), (3, 12), (4, 12), (5, 12), (6, 12), (7, 12), (15, 16), (16, 17)]
@[go_sem] def w206_5 : List (Nat × Nat) := [(0, 4), (1, 4), (2, 4), (3, 4), (0, 5), (1, 5), (2, 5), (3, 5), (4, 5), (0, 6), (1, 6), (2, 6), (3, 6), (4, 6), (0, 7), (1, 7), (2, 7), (3, 7), (4, 7), (0, 8), (1, 8), (2, 8), (3, 8), (5, 8), (6, 8), (7, 8), (0, 9), (1, 9), (2, 9), (3, 9), (5, 9), (6, 9), (7, 9), (0, 10), (1, 10), (2, 10), (3, 10), (0, 11), (1, 11), (2, 11), (3, 11)]
@[go_sem] def w206_7 : List (Nat × Nat) := [(0, 4), (1, 4), (2, 4), (3, 4), (0, 5), (1, 5), (2, 5), (3, 5), (0, 6), (1, 6), (2, 6), (3, 6), (0, 7), (1, 7), (2, 7), (3, 7), (0, 8), (1, 8), (2, 8), (3, 8), (4, 8), (5, 8), (6, 8), (7, 8), (0, 9), (1, 9), (2, 9), (3, 9), (4, 9), (5, 9), (6, 9), (7, 9), (0, 10), (1, 10), (2, 10), (3, 10), (4, 10), (5, 10), (6, 10), (7, 10), (0, 11), (1, 11), (2, 11), (3, 11), (4, 11), (5, 11), (6, 11), (7, 11), (0, 12), (1, 12), (2, 12), (3, 12), (4, 12), (5, 12), (6, 12), (7, 12), (0, 13), (1, 13), (2, 13), (3, 13), (4, 13), (5, 13), (6, 13), (7, 13), (0, 14), (1, 14), (2, 14), (3, 14), (4, 14), (5, 14), (6, 14), (7, 14)]
@[go_sem] def w208_5 : List (Nat × Nat) := [(0, 1), (0, 2), (0, 3), (0, 4), (0, 5), (0, 6), (1, 7), (2, 7), (3, 7), (4, 7), (5, 7), (6, 7)]
attribute [go_sem] Tryz.results3 Tryz.results4 Tryz.results6 Tryz.results7 Tryz.results8 Tryz.results9 Tryz.results10 Tryz.results11 Tryz.results13 Tryz.results14 Tryz.results15 Tryz.results17 Tryz.results21 Tryz.results23 Tryz.results25 Tryz.results32 Tryz.results33 Tryz.results34 Tryz.results35 Tryz.results36 Tryz.results37 Tryz.results38 Tryz.results39 Tryz.results44 Tryz.results57 Tryz.results60 Tryz.results65 Tryz.results66 Tryz.results67 Tryz.results69 Tryz.results70 Tryz.results93 Tryz.results94 Tryz.results119 Tryz.results120 Tryz.results121 Tryz.results122 Tryz.results123 Tryz.results124 Tryz.results125 Tryz.results126 Tryz.results127 Tryz.results128 Tryz.results129 Tryz.results130 Tryz.results131 Tryz.results132 Tryz.results133 Tryz.results135 Tryz.results136 Tryz.results137 Tryz.results138 Tryz.results139 Tryz.results140 Tryz.results141 Tryz.results142 Tryz.results143 Tryz.results144 Tryz.results145 Tryz.results146 Tryz.results147 Tryz.results148 Tryz.results149 Tryz.results150 Tryz.results151 Tryz.results152 Tryz.results153 Tryz.results154 Tryz.results155 Tryz.results156 Tryz.results157 Tryz.results158 Tryz.results159 Tryz.results160 Tryz.results161 Tryz.results162 Tryz.results163 Tryz.results164 Tryz.results165 Tryz.results166 Tryz.results168 Tryz.results169 Tryz.results170 Tryz.results171 Tryz.results172 Tryz.results173 Tryz.results174 Tryz.results175 Tryz.results176 Tryz.results177 Tryz.results178 Tryz.results179 Tryz.results181 Tryz.results182 Tryz.results183 Tryz.results184 Tryz.results185 Tryz.results186 Tryz.results187 Tryz.results190 Tryz.results192 Tryz.results194 Tryz.results195 Tryz.results196 Tryz.results197 Tryz.results199 Tryz.results200 Tryz.results201 Tryz.results202 Tryz.results203 Tryz.results204 Tryz.results205 Tryz.results206 Tryz.results208
attribute [go_sem] Tryz.ntmps3 Tryz.ntmps4 Tryz.ntmps6 Tryz.ntmps7 Tryz.ntmps8 Tryz.ntmps9 Tryz.ntmps10 Tryz.ntmps11 Tryz.ntmps13 Tryz.ntmps14 Tryz.ntmps15 Tryz.ntmps17 Tryz.ntmps21 Tryz.ntmps23 Tryz.ntmps25 Tryz.ntmps32 Tryz.ntmps33 Tryz.ntmps34 Tryz.ntmps35 Tryz.ntmps36 Tryz.ntmps37 Tryz.ntmps38 Tryz.ntmps39 Tryz.ntmps44 Tryz.ntmps57 Tryz.ntmps60 Tryz.ntmps65 Tryz.ntmps66 Tryz.ntmps67 Tryz.ntmps69 Tryz.ntmps70 Tryz.ntmps93 Tryz.ntmps94 Tryz.ntmps119 Tryz.ntmps120 Tryz.ntmps121 Tryz.ntmps122 Tryz.ntmps123 Tryz.ntmps124 Tryz.ntmps125 Tryz.ntmps126 Tryz.ntmps127 Tryz.ntmps128 Tryz.ntmps129 Tryz.ntmps130 Tryz.ntmps131 Tryz.ntmps132 Tryz.ntmps133 Tryz.ntmps135 Tryz.ntmps136 Tryz.ntmps137 Tryz.ntmps138 Tryz.ntmps139 Tryz.ntmps140 Tryz.ntmps141 Tryz.ntmps142 Tryz.ntmps143 Tryz.ntmps144 Tryz.ntmps145 Tryz.ntmps146 Tryz.ntmps147 Tryz.ntmps148 Tryz.ntmps149 Tryz.ntmps150 Tryz.ntmps151 Tryz.ntmps152 Tryz.ntmps153 Tryz.ntmps154 Tryz.ntmps155 Tryz.ntmps156 Tryz.ntmps157 Tryz.ntmps158 Tryz.ntmps159 Tryz.ntmps160 Tryz.ntmps161 Tryz.ntmps162 Tryz.ntmps163 Tryz.ntmps164 Tryz.ntmps165 Tryz.ntmps166 Tryz.ntmps168 Tryz.ntmps169 Tryz.ntmps170 Tryz.ntmps171 Tryz.ntmps172 Tryz.ntmps173 Tryz.ntmps174 Tryz.ntmps175 Tryz.ntmps176 Tryz.ntmps177 Tryz.ntmps178 Tryz.ntmps179 Tryz.ntmps181 Tryz.ntmps182 Tryz.ntmps183 Tryz.ntmps184 Tryz.ntmps185 Tryz.ntmps186 Tryz.ntmps187 Tryz.ntmps190 Tryz.ntmps192 Tryz.ntmps194 Tryz.ntmps195 Tryz.ntmps196 Tryz.ntmps197 Tryz.ntmps199 Tryz.ntmps200 Tryz.ntmps201 Tryz.ntmps202 Tryz.ntmps203 Tryz.ntmps204 Tryz.ntmps205 Tryz.ntmps206 Tryz.ntmps208
end Go.Proofs.YtlnglgpipkmiaaaGreat
