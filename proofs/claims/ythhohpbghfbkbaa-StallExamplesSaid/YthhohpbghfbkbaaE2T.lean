/-
  What the program's types are, in the abstract machine's words: read off the program by program.
-/
import Derived.Test.YthhohpbghfbkbaaProg
import Derived.Test.YthhohpbghfbkbaaAmX9
set_option linter.unusedVariables false
set_option maxRecDepth 100000
namespace Go.Proofs.Ythhohpbghfbkbaa
open Go.Am

attribute [go_sem] Try.underlying0
@[go_sem] theorem sz0 : szT Try.prog 0 = some 1 := rfl
@[go_sem] theorem ag0 : agT Try.prog 0 = some false := rfl
attribute [go_sem] Try.underlying1
@[go_sem] theorem sz1 : szT Try.prog 1 = some 1 := rfl
@[go_sem] theorem ag1 : agT Try.prog 1 = some false := rfl
@[go_sem] theorem zc1 : zcT Try.prog 1 = some [.nilFunc] := rfl
attribute [go_sem] Try.underlying2
@[go_sem] theorem sz2 : szT Try.prog 2 = some 1 := rfl
@[go_sem] theorem ag2 : agT Try.prog 2 = some false := rfl
@[go_sem] theorem zc2 : zcT Try.prog 2 = some [.int .i64 0] := rfl
attribute [go_sem] Try.underlying3
@[go_sem] theorem sz3 : szT Try.prog 3 = some 1 := rfl
@[go_sem] theorem ag3 : agT Try.prog 3 = some false := rfl
@[go_sem] theorem zc3 : zcT Try.prog 3 = some [.int .i64 0] := rfl
attribute [go_sem] Try.underlying4
@[go_sem] theorem sz4 : szT Try.prog 4 = some 1 := rfl
@[go_sem] theorem ag4 : agT Try.prog 4 = some false := rfl
@[go_sem] theorem zc4 : zcT Try.prog 4 = some [.bool false] := rfl
attribute [go_sem] Try.underlying5
@[go_sem] theorem sz5 : szT Try.prog 5 = some 1 := rfl
@[go_sem] theorem ag5 : agT Try.prog 5 = some false := rfl
@[go_sem] theorem zc5 : zcT Try.prog 5 = some [.int .u8 0] := rfl
attribute [go_sem] Try.underlying6
@[go_sem] theorem sz6 : szT Try.prog 6 = some 1 := rfl
@[go_sem] theorem ag6 : agT Try.prog 6 = some false := rfl
@[go_sem] theorem zc6 : zcT Try.prog 6 = some [.int .u8 0] := rfl
attribute [go_sem] Try.underlying7
@[go_sem] theorem sz7 : szT Try.prog 7 = some 4 := rfl
@[go_sem] theorem ag7 : agT Try.prog 7 = some true := rfl
@[go_sem] theorem zc7 : zcT Try.prog 7 = some [.int .i64 0, .int .i64 0, .bool false, .int .u8 0] := rfl
@[go_sem] theorem bd7 : bdT Try.prog 7 = some ([.int .i64 0, .int .i64 0, .bool false, .int .u8 0], fun j => [(0, 1), (1, 1), (2, 1), (3, 1)][j]?) := rfl
@[go_sem] theorem fa7_0 : faT Try.prog 7 0 = some (0, 1) := rfl
@[go_sem] theorem fd7_0 : fdT Try.prog 7 0 = some (0, 1, false) := rfl
@[go_sem] theorem fa7_1 : faT Try.prog 7 1 = some (1, 1) := rfl
@[go_sem] theorem fd7_1 : fdT Try.prog 7 1 = some (1, 1, false) := rfl
@[go_sem] theorem fa7_2 : faT Try.prog 7 2 = some (2, 1) := rfl
@[go_sem] theorem fd7_2 : fdT Try.prog 7 2 = some (2, 1, false) := rfl
@[go_sem] theorem fa7_3 : faT Try.prog 7 3 = some (3, 1) := rfl
@[go_sem] theorem fd7_3 : fdT Try.prog 7 3 = some (3, 1, false) := rfl
attribute [go_sem] Try.underlying8
@[go_sem] theorem sz8 : szT Try.prog 8 = some 4 := rfl
@[go_sem] theorem ag8 : agT Try.prog 8 = some true := rfl
@[go_sem] theorem zc8 : zcT Try.prog 8 = some [.int .i64 0, .int .i64 0, .bool false, .int .u8 0] := rfl
@[go_sem] theorem bd8 : bdT Try.prog 8 = some ([.int .i64 0, .int .i64 0, .bool false, .int .u8 0], fun j => [(0, 1), (1, 1), (2, 1), (3, 1)][j]?) := rfl
@[go_sem] theorem fa8_0 : faT Try.prog 8 0 = some (0, 1) := rfl
@[go_sem] theorem fd8_0 : fdT Try.prog 8 0 = some (0, 1, false) := rfl
@[go_sem] theorem fa8_1 : faT Try.prog 8 1 = some (1, 1) := rfl
@[go_sem] theorem fd8_1 : fdT Try.prog 8 1 = some (1, 1, false) := rfl
@[go_sem] theorem fa8_2 : faT Try.prog 8 2 = some (2, 1) := rfl
@[go_sem] theorem fd8_2 : fdT Try.prog 8 2 = some (2, 1, false) := rfl
@[go_sem] theorem fa8_3 : faT Try.prog 8 3 = some (3, 1) := rfl
@[go_sem] theorem fd8_3 : fdT Try.prog 8 3 = some (3, 1, false) := rfl
attribute [go_sem] Try.underlying9
@[go_sem] theorem sz9 : szT Try.prog 9 = some 1 := rfl
@[go_sem] theorem ag9 : agT Try.prog 9 = some false := rfl
@[go_sem] theorem zc9 : zcT Try.prog 9 = some [.string ⟨#[]⟩] := rfl
attribute [go_sem] Try.underlying10
@[go_sem] theorem sz10 : szT Try.prog 10 = some 1 := rfl
@[go_sem] theorem ag10 : agT Try.prog 10 = some false := rfl
@[go_sem] theorem zc10 : zcT Try.prog 10 = some [.string ⟨#[]⟩] := rfl
attribute [go_sem] Try.underlying11
@[go_sem] theorem sz11 : szT Try.prog 11 = some 1 := rfl
@[go_sem] theorem ag11 : agT Try.prog 11 = some false := rfl
@[go_sem] theorem zc11 : zcT Try.prog 11 = some [.string ⟨#[]⟩] := rfl
attribute [go_sem] Try.underlying12
@[go_sem] theorem sz12 : szT Try.prog 12 = some 1 := rfl
@[go_sem] theorem ag12 : agT Try.prog 12 = some false := rfl
@[go_sem] theorem zc12 : zcT Try.prog 12 = some [.int .u64 0] := rfl
attribute [go_sem] Try.underlying13
@[go_sem] theorem sz13 : szT Try.prog 13 = some 2 := rfl
@[go_sem] theorem ag13 : agT Try.prog 13 = some true := rfl
@[go_sem] theorem zc13 : zcT Try.prog 13 = some [.string ⟨#[]⟩, .int .u64 0] := rfl
@[go_sem] theorem bd13 : bdT Try.prog 13 = some ([.string ⟨#[]⟩, .int .u64 0], fun j => [(0, 1), (1, 1)][j]?) := rfl
@[go_sem] theorem fa13_0 : faT Try.prog 13 0 = some (0, 1) := rfl
@[go_sem] theorem fd13_0 : fdT Try.prog 13 0 = some (0, 1, false) := rfl
@[go_sem] theorem fa13_1 : faT Try.prog 13 1 = some (1, 1) := rfl
@[go_sem] theorem fd13_1 : fdT Try.prog 13 1 = some (1, 1, false) := rfl
attribute [go_sem] Try.underlying14
@[go_sem] theorem sz14 : szT Try.prog 14 = some 2 := rfl
@[go_sem] theorem ag14 : agT Try.prog 14 = some true := rfl
@[go_sem] theorem zc14 : zcT Try.prog 14 = some [.string ⟨#[]⟩, .int .u64 0] := rfl
@[go_sem] theorem bd14 : bdT Try.prog 14 = some ([.string ⟨#[]⟩, .int .u64 0], fun j => [(0, 1), (1, 1)][j]?) := rfl
@[go_sem] theorem fa14_0 : faT Try.prog 14 0 = some (0, 1) := rfl
@[go_sem] theorem fd14_0 : fdT Try.prog 14 0 = some (0, 1, false) := rfl
@[go_sem] theorem fa14_1 : faT Try.prog 14 1 = some (1, 1) := rfl
@[go_sem] theorem fd14_1 : fdT Try.prog 14 1 = some (1, 1, false) := rfl
attribute [go_sem] Try.underlying15
@[go_sem] theorem sz15 : szT Try.prog 15 = some 1 := rfl
@[go_sem] theorem ag15 : agT Try.prog 15 = some false := rfl
@[go_sem] theorem zc15 : zcT Try.prog 15 = some [.pointer none] := rfl
attribute [go_sem] Try.underlying16
@[go_sem] theorem sz16 : szT Try.prog 16 = some 1 := rfl
@[go_sem] theorem ag16 : agT Try.prog 16 = some false := rfl
@[go_sem] theorem zc16 : zcT Try.prog 16 = some [.pointer none] := rfl
attribute [go_sem] Try.underlying17
@[go_sem] theorem sz17 : szT Try.prog 17 = some 1 := rfl
@[go_sem] theorem ag17 : agT Try.prog 17 = some false := rfl
@[go_sem] theorem zc17 : zcT Try.prog 17 = some [.pointer none] := rfl
attribute [go_sem] Try.underlying18
@[go_sem] theorem sz18 : szT Try.prog 18 = some 1 := rfl
@[go_sem] theorem ag18 : agT Try.prog 18 = some true := rfl
@[go_sem] theorem zc18 : zcT Try.prog 18 = some [.pointer none] := rfl
@[go_sem] theorem bd18 : bdT Try.prog 18 = some ([.pointer none], fun j => [(0, 1)][j]?) := rfl
@[go_sem] theorem fa18_0 : faT Try.prog 18 0 = some (0, 1) := rfl
@[go_sem] theorem fd18_0 : fdT Try.prog 18 0 = some (0, 1, false) := rfl
attribute [go_sem] Try.underlying19
@[go_sem] theorem sz19 : szT Try.prog 19 = some 1 := rfl
@[go_sem] theorem ag19 : agT Try.prog 19 = some true := rfl
@[go_sem] theorem zc19 : zcT Try.prog 19 = some [.pointer none] := rfl
@[go_sem] theorem bd19 : bdT Try.prog 19 = some ([.pointer none], fun j => [(0, 1)][j]?) := rfl
@[go_sem] theorem fa19_0 : faT Try.prog 19 0 = some (0, 1) := rfl
@[go_sem] theorem fd19_0 : fdT Try.prog 19 0 = some (0, 1, false) := rfl
attribute [go_sem] Try.underlying20
@[go_sem] theorem sz20 : szT Try.prog 20 = some 1 := rfl
@[go_sem] theorem ag20 : agT Try.prog 20 = some false := rfl
@[go_sem] theorem zc20 : zcT Try.prog 20 = some [.nilIface] := rfl
attribute [go_sem] Try.underlying21
@[go_sem] theorem sz21 : szT Try.prog 21 = some 1 := rfl
@[go_sem] theorem ag21 : agT Try.prog 21 = some false := rfl
@[go_sem] theorem zc21 : zcT Try.prog 21 = some [.int .i32 0] := rfl
attribute [go_sem] Try.underlying22
@[go_sem] theorem sz22 : szT Try.prog 22 = some 1 := rfl
@[go_sem] theorem ag22 : agT Try.prog 22 = some false := rfl
@[go_sem] theorem zc22 : zcT Try.prog 22 = some [.slice none 0 0] := rfl
@[go_sem] theorem ia22 : iaT Try.prog 22 = some (none, 3) := rfl
@[go_sem] theorem el22 : elT Try.prog 22 = some (3, 24, [.int .u8 0, .int .i64 0, .int .i64 0]) := rfl
@[go_sem] theorem ap22 : apT Try.prog 22 22 = some (3, 24, 3) := rfl
attribute [go_sem] Try.underlying23
@[go_sem] theorem sz23 : szT Try.prog 23 = some 1 := rfl
@[go_sem] theorem ag23 : agT Try.prog 23 = some false := rfl
@[go_sem] theorem zc23 : zcT Try.prog 23 = some [.nilFunc] := rfl
attribute [go_sem] Try.underlying24
@[go_sem] theorem sz24 : szT Try.prog 24 = some 1 := rfl
@[go_sem] theorem ag24 : agT Try.prog 24 = some false := rfl
@[go_sem] theorem zc24 : zcT Try.prog 24 = some [.int .u64 0] := rfl
attribute [go_sem] Try.underlying25
@[go_sem] theorem sz25 : szT Try.prog 25 = some 1 := rfl
@[go_sem] theorem ag25 : agT Try.prog 25 = some false := rfl
@[go_sem] theorem zc25 : zcT Try.prog 25 = some [.slice none 0 0] := rfl
@[go_sem] theorem ia25 : iaT Try.prog 25 = some (none, 1) := rfl
@[go_sem] theorem el25 : elT Try.prog 25 = some (1, 8, [.int .u64 0]) := rfl
@[go_sem] theorem ap25 : apT Try.prog 25 25 = some (1, 8, 1) := rfl
attribute [go_sem] Try.underlying26
@[go_sem] theorem sz26 : szT Try.prog 26 = some 1 := rfl
@[go_sem] theorem ag26 : agT Try.prog 26 = some false := rfl
@[go_sem] theorem zc26 : zcT Try.prog 26 = some [.nilFunc] := rfl
attribute [go_sem] Try.underlying27
@[go_sem] theorem sz27 : szT Try.prog 27 = some 3 := rfl
@[go_sem] theorem ag27 : agT Try.prog 27 = some true := rfl
@[go_sem] theorem zc27 : zcT Try.prog 27 = some [.int .u8 0, .int .i64 0, .int .i64 0] := rfl
@[go_sem] theorem bd27 : bdT Try.prog 27 = some ([.int .u8 0, .int .i64 0, .int .i64 0], fun j => [(0, 1), (1, 1), (2, 1)][j]?) := rfl
@[go_sem] theorem fa27_0 : faT Try.prog 27 0 = some (0, 1) := rfl
@[go_sem] theorem fd27_0 : fdT Try.prog 27 0 = some (0, 1, false) := rfl
@[go_sem] theorem fa27_1 : faT Try.prog 27 1 = some (1, 1) := rfl
@[go_sem] theorem fd27_1 : fdT Try.prog 27 1 = some (1, 1, false) := rfl
@[go_sem] theorem fa27_2 : faT Try.prog 27 2 = some (2, 1) := rfl
@[go_sem] theorem fd27_2 : fdT Try.prog 27 2 = some (2, 1, false) := rfl
attribute [go_sem] Try.underlying28
@[go_sem] theorem sz28 : szT Try.prog 28 = some 3 := rfl
@[go_sem] theorem ag28 : agT Try.prog 28 = some true := rfl
@[go_sem] theorem zc28 : zcT Try.prog 28 = some [.int .u8 0, .int .i64 0, .int .i64 0] := rfl
@[go_sem] theorem bd28 : bdT Try.prog 28 = some ([.int .u8 0, .int .i64 0, .int .i64 0], fun j => [(0, 1), (1, 1), (2, 1)][j]?) := rfl
@[go_sem] theorem fa28_0 : faT Try.prog 28 0 = some (0, 1) := rfl
@[go_sem] theorem fd28_0 : fdT Try.prog 28 0 = some (0, 1, false) := rfl
@[go_sem] theorem fa28_1 : faT Try.prog 28 1 = some (1, 1) := rfl
@[go_sem] theorem fd28_1 : fdT Try.prog 28 1 = some (1, 1, false) := rfl
@[go_sem] theorem fa28_2 : faT Try.prog 28 2 = some (2, 1) := rfl
@[go_sem] theorem fd28_2 : fdT Try.prog 28 2 = some (2, 1, false) := rfl
attribute [go_sem] Try.underlying29
@[go_sem] theorem sz29 : szT Try.prog 29 = some 1 := rfl
@[go_sem] theorem ag29 : agT Try.prog 29 = some false := rfl
@[go_sem] theorem zc29 : zcT Try.prog 29 = some [.nilFunc] := rfl
attribute [go_sem] Try.underlying30
@[go_sem] theorem sz30 : szT Try.prog 30 = some 1 := rfl
@[go_sem] theorem ag30 : agT Try.prog 30 = some false := rfl
@[go_sem] theorem zc30 : zcT Try.prog 30 = some [.slice none 0 0] := rfl
@[go_sem] theorem ia30 : iaT Try.prog 30 = some (none, 4) := rfl
@[go_sem] theorem el30 : elT Try.prog 30 = some (4, 32, [.int .i64 0, .int .i64 0, .int .u8 0, .int .u64 0]) := rfl
@[go_sem] theorem ap30 : apT Try.prog 30 30 = some (4, 32, 4) := rfl
attribute [go_sem] Try.underlying31
@[go_sem] theorem sz31 : szT Try.prog 31 = some 1 := rfl
@[go_sem] theorem ag31 : agT Try.prog 31 = some false := rfl
@[go_sem] theorem zc31 : zcT Try.prog 31 = some [.nilFunc] := rfl
attribute [go_sem] Try.underlying32
@[go_sem] theorem sz32 : szT Try.prog 32 = some 1 := rfl
@[go_sem] theorem ag32 : agT Try.prog 32 = some false := rfl
@[go_sem] theorem zc32 : zcT Try.prog 32 = some [.nilFunc] := rfl
attribute [go_sem] Try.underlying33
@[go_sem] theorem sz33 : szT Try.prog 33 = some 6 := rfl
@[go_sem] theorem ag33 : agT Try.prog 33 = some true := rfl
@[go_sem] theorem zc33 : zcT Try.prog 33 = some [.int .i64 0, .int .i64 0, .int .i64 0, .int .i64 0, .int .i64 0, .int .i64 0] := rfl
@[go_sem] theorem bd33 : bdT Try.prog 33 = some ([.int .i64 0, .int .i64 0, .int .i64 0, .int .i64 0, .int .i64 0, .int .i64 0], fun j => some (j * 1, 1)) := rfl
@[go_sem] theorem ia33 : iaT Try.prog 33 = some (some 6, 1) := rfl
@[go_sem] theorem ix33 : ixT Try.prog 33 = some (6, 1, false) := rfl
attribute [go_sem] Try.underlying34
@[go_sem] theorem sz34 : szT Try.prog 34 = some 1 := rfl
@[go_sem] theorem ag34 : agT Try.prog 34 = some false := rfl
@[go_sem] theorem zc34 : zcT Try.prog 34 = some [.int .i64 0] := rfl
attribute [go_sem] Try.underlying35
@[go_sem] theorem sz35 : szT Try.prog 35 = some 1 := rfl
@[go_sem] theorem ag35 : agT Try.prog 35 = some false := rfl
attribute [go_sem] Try.underlying36
@[go_sem] theorem sz36 : szT Try.prog 36 = some 1 := rfl
@[go_sem] theorem ag36 : agT Try.prog 36 = some false := rfl
@[go_sem] theorem zc36 : zcT Try.prog 36 = some [.nilFunc] := rfl
attribute [go_sem] Try.underlying37
@[go_sem] theorem sz37 : szT Try.prog 37 = some 1 := rfl
@[go_sem] theorem ag37 : agT Try.prog 37 = some false := rfl
attribute [go_sem] Try.underlying38
@[go_sem] theorem sz38 : szT Try.prog 38 = some 1 := rfl
@[go_sem] theorem ag38 : agT Try.prog 38 = some false := rfl
@[go_sem] theorem zc38 : zcT Try.prog 38 = some [.nilFunc] := rfl
attribute [go_sem] Try.underlying39
@[go_sem] theorem sz39 : szT Try.prog 39 = some 1 := rfl
@[go_sem] theorem ag39 : agT Try.prog 39 = some false := rfl
@[go_sem] theorem zc39 : zcT Try.prog 39 = some [.nilFunc] := rfl
attribute [go_sem] Try.underlying40
@[go_sem] theorem sz40 : szT Try.prog 40 = some 1 := rfl
@[go_sem] theorem ag40 : agT Try.prog 40 = some false := rfl
@[go_sem] theorem zc40 : zcT Try.prog 40 = some [.nilFunc] := rfl
attribute [go_sem] Try.underlying41
@[go_sem] theorem sz41 : szT Try.prog 41 = some 1 := rfl
@[go_sem] theorem ag41 : agT Try.prog 41 = some false := rfl
@[go_sem] theorem zc41 : zcT Try.prog 41 = some [.nilFunc] := rfl
attribute [go_sem] Try.underlying42
@[go_sem] theorem sz42 : szT Try.prog 42 = some 1 := rfl
@[go_sem] theorem ag42 : agT Try.prog 42 = some false := rfl
@[go_sem] theorem zc42 : zcT Try.prog 42 = some [.slice none 0 0] := rfl
@[go_sem] theorem ia42 : iaT Try.prog 42 = some (none, 4) := rfl
@[go_sem] theorem el42 : elT Try.prog 42 = some (4, 32, [.int .i64 0, .int .u64 0, .int .i64 0, .int .i64 0]) := rfl
@[go_sem] theorem ap42 : apT Try.prog 42 42 = some (4, 32, 4) := rfl
attribute [go_sem] Try.underlying43
@[go_sem] theorem sz43 : szT Try.prog 43 = some 1 := rfl
@[go_sem] theorem ag43 : agT Try.prog 43 = some false := rfl
attribute [go_sem] Try.underlying44
@[go_sem] theorem sz44 : szT Try.prog 44 = some 1 := rfl
@[go_sem] theorem ag44 : agT Try.prog 44 = some false := rfl
@[go_sem] theorem zc44 : zcT Try.prog 44 = some [.nilFunc] := rfl
attribute [go_sem] Try.underlying45
@[go_sem] theorem sz45 : szT Try.prog 45 = some 1 := rfl
@[go_sem] theorem ag45 : agT Try.prog 45 = some false := rfl
@[go_sem] theorem zc45 : zcT Try.prog 45 = some [.nilFunc] := rfl
attribute [go_sem] Try.underlying46
@[go_sem] theorem sz46 : szT Try.prog 46 = some 1 := rfl
@[go_sem] theorem ag46 : agT Try.prog 46 = some false := rfl
@[go_sem] theorem zc46 : zcT Try.prog 46 = some [.nilFunc] := rfl
attribute [go_sem] Try.underlying47
@[go_sem] theorem sz47 : szT Try.prog 47 = some 1 := rfl
@[go_sem] theorem ag47 : agT Try.prog 47 = some false := rfl
@[go_sem] theorem zc47 : zcT Try.prog 47 = some [.nilFunc] := rfl
attribute [go_sem] Try.underlying48
@[go_sem] theorem sz48 : szT Try.prog 48 = some 4 := rfl
@[go_sem] theorem ag48 : agT Try.prog 48 = some true := rfl
@[go_sem] theorem zc48 : zcT Try.prog 48 = some [.int .i64 0, .int .i64 0, .int .u8 0, .int .u64 0] := rfl
@[go_sem] theorem bd48 : bdT Try.prog 48 = some ([.int .i64 0, .int .i64 0, .int .u8 0, .int .u64 0], fun j => [(0, 1), (1, 1), (2, 1), (3, 1)][j]?) := rfl
@[go_sem] theorem fa48_0 : faT Try.prog 48 0 = some (0, 1) := rfl
@[go_sem] theorem fd48_0 : fdT Try.prog 48 0 = some (0, 1, false) := rfl
@[go_sem] theorem fa48_1 : faT Try.prog 48 1 = some (1, 1) := rfl
@[go_sem] theorem fd48_1 : fdT Try.prog 48 1 = some (1, 1, false) := rfl
@[go_sem] theorem fa48_2 : faT Try.prog 48 2 = some (2, 1) := rfl
@[go_sem] theorem fd48_2 : fdT Try.prog 48 2 = some (2, 1, false) := rfl
@[go_sem] theorem fa48_3 : faT Try.prog 48 3 = some (3, 1) := rfl
@[go_sem] theorem fd48_3 : fdT Try.prog 48 3 = some (3, 1, false) := rfl
attribute [go_sem] Try.underlying49
@[go_sem] theorem sz49 : szT Try.prog 49 = some 4 := rfl
@[go_sem] theorem ag49 : agT Try.prog 49 = some true := rfl
@[go_sem] theorem zc49 : zcT Try.prog 49 = some [.int .i64 0, .int .i64 0, .int .u8 0, .int .u64 0] := rfl
@[go_sem] theorem bd49 : bdT Try.prog 49 = some ([.int .i64 0, .int .i64 0, .int .u8 0, .int .u64 0], fun j => [(0, 1), (1, 1), (2, 1), (3, 1)][j]?) := rfl
@[go_sem] theorem fa49_0 : faT Try.prog 49 0 = some (0, 1) := rfl
@[go_sem] theorem fd49_0 : fdT Try.prog 49 0 = some (0, 1, false) := rfl
@[go_sem] theorem fa49_1 : faT Try.prog 49 1 = some (1, 1) := rfl
@[go_sem] theorem fd49_1 : fdT Try.prog 49 1 = some (1, 1, false) := rfl
@[go_sem] theorem fa49_2 : faT Try.prog 49 2 = some (2, 1) := rfl
@[go_sem] theorem fd49_2 : fdT Try.prog 49 2 = some (2, 1, false) := rfl
@[go_sem] theorem fa49_3 : faT Try.prog 49 3 = some (3, 1) := rfl
@[go_sem] theorem fd49_3 : fdT Try.prog 49 3 = some (3, 1, false) := rfl
attribute [go_sem] Try.underlying50
@[go_sem] theorem sz50 : szT Try.prog 50 = some 1 := rfl
@[go_sem] theorem ag50 : agT Try.prog 50 = some false := rfl
@[go_sem] theorem zc50 : zcT Try.prog 50 = some [.nilFunc] := rfl
attribute [go_sem] Try.underlying51
@[go_sem] theorem sz51 : szT Try.prog 51 = some 1 := rfl
@[go_sem] theorem ag51 : agT Try.prog 51 = some false := rfl
@[go_sem] theorem zc51 : zcT Try.prog 51 = some [.nilFunc] := rfl
attribute [go_sem] Try.underlying52
@[go_sem] theorem sz52 : szT Try.prog 52 = some 4 := rfl
@[go_sem] theorem ag52 : agT Try.prog 52 = some true := rfl
@[go_sem] theorem zc52 : zcT Try.prog 52 = some [.int .i64 0, .int .u64 0, .int .i64 0, .int .i64 0] := rfl
@[go_sem] theorem bd52 : bdT Try.prog 52 = some ([.int .i64 0, .int .u64 0, .int .i64 0, .int .i64 0], fun j => [(0, 1), (1, 1), (2, 1), (3, 1)][j]?) := rfl
@[go_sem] theorem fa52_0 : faT Try.prog 52 0 = some (0, 1) := rfl
@[go_sem] theorem fd52_0 : fdT Try.prog 52 0 = some (0, 1, false) := rfl
@[go_sem] theorem fa52_1 : faT Try.prog 52 1 = some (1, 1) := rfl
@[go_sem] theorem fd52_1 : fdT Try.prog 52 1 = some (1, 1, false) := rfl
@[go_sem] theorem fa52_2 : faT Try.prog 52 2 = some (2, 1) := rfl
@[go_sem] theorem fd52_2 : fdT Try.prog 52 2 = some (2, 1, false) := rfl
@[go_sem] theorem fa52_3 : faT Try.prog 52 3 = some (3, 1) := rfl
@[go_sem] theorem fd52_3 : fdT Try.prog 52 3 = some (3, 1, false) := rfl
attribute [go_sem] Try.underlying53
@[go_sem] theorem sz53 : szT Try.prog 53 = some 4 := rfl
@[go_sem] theorem ag53 : agT Try.prog 53 = some true := rfl
@[go_sem] theorem zc53 : zcT Try.prog 53 = some [.int .i64 0, .int .u64 0, .int .i64 0, .int .i64 0] := rfl
@[go_sem] theorem bd53 : bdT Try.prog 53 = some ([.int .i64 0, .int .u64 0, .int .i64 0, .int .i64 0], fun j => [(0, 1), (1, 1), (2, 1), (3, 1)][j]?) := rfl
@[go_sem] theorem fa53_0 : faT Try.prog 53 0 = some (0, 1) := rfl
@[go_sem] theorem fd53_0 : fdT Try.prog 53 0 = some (0, 1, false) := rfl
@[go_sem] theorem fa53_1 : faT Try.prog 53 1 = some (1, 1) := rfl
@[go_sem] theorem fd53_1 : fdT Try.prog 53 1 = some (1, 1, false) := rfl
@[go_sem] theorem fa53_2 : faT Try.prog 53 2 = some (2, 1) := rfl
@[go_sem] theorem fd53_2 : fdT Try.prog 53 2 = some (2, 1, false) := rfl
@[go_sem] theorem fa53_3 : faT Try.prog 53 3 = some (3, 1) := rfl
@[go_sem] theorem fd53_3 : fdT Try.prog 53 3 = some (3, 1, false) := rfl
attribute [go_sem] Try.underlying54
@[go_sem] theorem sz54 : szT Try.prog 54 = some 2 := rfl
@[go_sem] theorem ag54 : agT Try.prog 54 = some true := rfl
@[go_sem] theorem zc54 : zcT Try.prog 54 = some [.int .u8 0, .int .i64 0] := rfl
@[go_sem] theorem bd54 : bdT Try.prog 54 = some ([.int .u8 0, .int .i64 0], fun j => [(0, 1), (1, 1)][j]?) := rfl
@[go_sem] theorem fa54_0 : faT Try.prog 54 0 = some (0, 1) := rfl
@[go_sem] theorem fd54_0 : fdT Try.prog 54 0 = some (0, 1, false) := rfl
@[go_sem] theorem fa54_1 : faT Try.prog 54 1 = some (1, 1) := rfl
@[go_sem] theorem fd54_1 : fdT Try.prog 54 1 = some (1, 1, false) := rfl
attribute [go_sem] Try.underlying55
@[go_sem] theorem sz55 : szT Try.prog 55 = some 2 := rfl
@[go_sem] theorem ag55 : agT Try.prog 55 = some true := rfl
@[go_sem] theorem zc55 : zcT Try.prog 55 = some [.int .u8 0, .int .i64 0] := rfl
@[go_sem] theorem bd55 : bdT Try.prog 55 = some ([.int .u8 0, .int .i64 0], fun j => [(0, 1), (1, 1)][j]?) := rfl
@[go_sem] theorem fa55_0 : faT Try.prog 55 0 = some (0, 1) := rfl
@[go_sem] theorem fd55_0 : fdT Try.prog 55 0 = some (0, 1, false) := rfl
@[go_sem] theorem fa55_1 : faT Try.prog 55 1 = some (1, 1) := rfl
@[go_sem] theorem fd55_1 : fdT Try.prog 55 1 = some (1, 1, false) := rfl
attribute [go_sem] Try.underlying56
@[go_sem] theorem sz56 : szT Try.prog 56 = some 1 := rfl
@[go_sem] theorem ag56 : agT Try.prog 56 = some false := rfl
attribute [go_sem] Try.underlying57
@[go_sem] theorem sz57 : szT Try.prog 57 = some 1 := rfl
@[go_sem] theorem ag57 : agT Try.prog 57 = some false := rfl
@[go_sem] theorem zc57 : zcT Try.prog 57 = some [.nilFunc] := rfl
attribute [go_sem] Try.underlying58
@[go_sem] theorem sz58 : szT Try.prog 58 = some 1 := rfl
@[go_sem] theorem ag58 : agT Try.prog 58 = some false := rfl
@[go_sem] theorem zc58 : zcT Try.prog 58 = some [.nilFunc] := rfl
attribute [go_sem] Try.underlying59
@[go_sem] theorem sz59 : szT Try.prog 59 = some 4 := rfl
@[go_sem] theorem ag59 : agT Try.prog 59 = some true := rfl
@[go_sem] theorem zc59 : zcT Try.prog 59 = some [.nilFunc, .nilFunc, .nilFunc, .nilFunc] := rfl
@[go_sem] theorem bd59 : bdT Try.prog 59 = some ([.nilFunc, .nilFunc, .nilFunc, .nilFunc], fun j => some (j * 1, 1)) := rfl
@[go_sem] theorem ia59 : iaT Try.prog 59 = some (some 4, 1) := rfl
@[go_sem] theorem ix59 : ixT Try.prog 59 = some (4, 1, false) := rfl
attribute [go_sem] Try.underlying60
@[go_sem] theorem sz60 : szT Try.prog 60 = some 1 := rfl
@[go_sem] theorem ag60 : agT Try.prog 60 = some false := rfl
@[go_sem] theorem zc60 : zcT Try.prog 60 = some [.nilFunc] := rfl
attribute [go_sem] Try.underlying61
@[go_sem] theorem sz61 : szT Try.prog 61 = some 1 := rfl
@[go_sem] theorem ag61 : agT Try.prog 61 = some false := rfl
@[go_sem] theorem zc61 : zcT Try.prog 61 = some [.nilFunc] := rfl
attribute [go_sem] Try.underlying62
@[go_sem] theorem sz62 : szT Try.prog 62 = some 1 := rfl
@[go_sem] theorem ag62 : agT Try.prog 62 = some false := rfl
@[go_sem] theorem zc62 : zcT Try.prog 62 = some [.nilFunc] := rfl
attribute [go_sem] Try.underlying63
@[go_sem] theorem sz63 : szT Try.prog 63 = some 1 := rfl
@[go_sem] theorem ag63 : agT Try.prog 63 = some false := rfl
@[go_sem] theorem zc63 : zcT Try.prog 63 = some [.nilFunc] := rfl
attribute [go_sem] Try.underlying64
@[go_sem] theorem sz64 : szT Try.prog 64 = some 1 := rfl
@[go_sem] theorem ag64 : agT Try.prog 64 = some false := rfl
@[go_sem] theorem zc64 : zcT Try.prog 64 = some [.nilFunc] := rfl
attribute [go_sem] Try.underlying65
@[go_sem] theorem sz65 : szT Try.prog 65 = some 1 := rfl
@[go_sem] theorem ag65 : agT Try.prog 65 = some false := rfl
@[go_sem] theorem zc65 : zcT Try.prog 65 = some [.slice none 0 0] := rfl
@[go_sem] theorem ia65 : iaT Try.prog 65 = some (none, 4) := rfl
@[go_sem] theorem el65 : elT Try.prog 65 = some (4, 32, [.int .i64 0, .int .u64 0, .int .i64 0, .int .i64 0]) := rfl
@[go_sem] theorem ap65 : apT Try.prog 65 65 = some (4, 32, 4) := rfl
attribute [go_sem] Try.underlying66
@[go_sem] theorem sz66 : szT Try.prog 66 = some 1 := rfl
@[go_sem] theorem ag66 : agT Try.prog 66 = some false := rfl
attribute [go_sem] Try.underlying67
@[go_sem] theorem sz67 : szT Try.prog 67 = some 1 := rfl
@[go_sem] theorem ag67 : agT Try.prog 67 = some false := rfl
@[go_sem] theorem zc67 : zcT Try.prog 67 = some [.nilFunc] := rfl
attribute [go_sem] Try.underlying68
@[go_sem] theorem sz68 : szT Try.prog 68 = some 4 := rfl
@[go_sem] theorem ag68 : agT Try.prog 68 = some true := rfl
@[go_sem] theorem zc68 : zcT Try.prog 68 = some [.int .i64 0, .int .u64 0, .int .i64 0, .int .i64 0] := rfl
@[go_sem] theorem bd68 : bdT Try.prog 68 = some ([.int .i64 0, .int .u64 0, .int .i64 0, .int .i64 0], fun j => [(0, 1), (1, 1), (2, 1), (3, 1)][j]?) := rfl
@[go_sem] theorem fa68_0 : faT Try.prog 68 0 = some (0, 1) := rfl
@[go_sem] theorem fd68_0 : fdT Try.prog 68 0 = some (0, 1, false) := rfl
@[go_sem] theorem fa68_1 : faT Try.prog 68 1 = some (1, 1) := rfl
@[go_sem] theorem fd68_1 : fdT Try.prog 68 1 = some (1, 1, false) := rfl
@[go_sem] theorem fa68_2 : faT Try.prog 68 2 = some (2, 1) := rfl
@[go_sem] theorem fd68_2 : fdT Try.prog 68 2 = some (2, 1, false) := rfl
@[go_sem] theorem fa68_3 : faT Try.prog 68 3 = some (3, 1) := rfl
@[go_sem] theorem fd68_3 : fdT Try.prog 68 3 = some (3, 1, false) := rfl
attribute [go_sem] Try.underlying69
@[go_sem] theorem sz69 : szT Try.prog 69 = some 4 := rfl
@[go_sem] theorem ag69 : agT Try.prog 69 = some true := rfl
@[go_sem] theorem zc69 : zcT Try.prog 69 = some [.int .i64 0, .int .u64 0, .int .i64 0, .int .i64 0] := rfl
@[go_sem] theorem bd69 : bdT Try.prog 69 = some ([.int .i64 0, .int .u64 0, .int .i64 0, .int .i64 0], fun j => [(0, 1), (1, 1), (2, 1), (3, 1)][j]?) := rfl
@[go_sem] theorem fa69_0 : faT Try.prog 69 0 = some (0, 1) := rfl
@[go_sem] theorem fd69_0 : fdT Try.prog 69 0 = some (0, 1, false) := rfl
@[go_sem] theorem fa69_1 : faT Try.prog 69 1 = some (1, 1) := rfl
@[go_sem] theorem fd69_1 : fdT Try.prog 69 1 = some (1, 1, false) := rfl
@[go_sem] theorem fa69_2 : faT Try.prog 69 2 = some (2, 1) := rfl
@[go_sem] theorem fd69_2 : fdT Try.prog 69 2 = some (2, 1, false) := rfl
@[go_sem] theorem fa69_3 : faT Try.prog 69 3 = some (3, 1) := rfl
@[go_sem] theorem fd69_3 : fdT Try.prog 69 3 = some (3, 1, false) := rfl
attribute [go_sem] Try.underlying70
@[go_sem] theorem sz70 : szT Try.prog 70 = some 1 := rfl
@[go_sem] theorem ag70 : agT Try.prog 70 = some false := rfl
@[go_sem] theorem zc70 : zcT Try.prog 70 = some [.nilFunc] := rfl
attribute [go_sem] Try.underlying71
@[go_sem] theorem sz71 : szT Try.prog 71 = some 1 := rfl
@[go_sem] theorem ag71 : agT Try.prog 71 = some false := rfl
attribute [go_sem] Try.underlying72
@[go_sem] theorem sz72 : szT Try.prog 72 = some 1 := rfl
@[go_sem] theorem ag72 : agT Try.prog 72 = some false := rfl
@[go_sem] theorem zc72 : zcT Try.prog 72 = some [.nilFunc] := rfl
attribute [go_sem] Try.underlying73
@[go_sem] theorem sz73 : szT Try.prog 73 = some 1 := rfl
@[go_sem] theorem ag73 : agT Try.prog 73 = some false := rfl
@[go_sem] theorem zc73 : zcT Try.prog 73 = some [.nilFunc] := rfl
attribute [go_sem] Try.underlying74
@[go_sem] theorem sz74 : szT Try.prog 74 = some 1 := rfl
@[go_sem] theorem ag74 : agT Try.prog 74 = some false := rfl
@[go_sem] theorem zc74 : zcT Try.prog 74 = some [.nilFunc] := rfl
attribute [go_sem] Try.underlying75
@[go_sem] theorem sz75 : szT Try.prog 75 = some 1 := rfl
@[go_sem] theorem ag75 : agT Try.prog 75 = some false := rfl
@[go_sem] theorem zc75 : zcT Try.prog 75 = some [.slice none 0 0] := rfl
@[go_sem] theorem ia75 : iaT Try.prog 75 = some (none, 1) := rfl
@[go_sem] theorem el75 : elT Try.prog 75 = some (1, 8, [.int .i64 0]) := rfl
@[go_sem] theorem ap75 : apT Try.prog 75 75 = some (1, 8, 1) := rfl
attribute [go_sem] Try.underlying76
@[go_sem] theorem sz76 : szT Try.prog 76 = some 1 := rfl
@[go_sem] theorem ag76 : agT Try.prog 76 = some false := rfl
attribute [go_sem] Try.underlying77
@[go_sem] theorem sz77 : szT Try.prog 77 = some 1 := rfl
@[go_sem] theorem ag77 : agT Try.prog 77 = some false := rfl
@[go_sem] theorem zc77 : zcT Try.prog 77 = some [.nilFunc] := rfl
attribute [go_sem] Try.underlying78
@[go_sem] theorem sz78 : szT Try.prog 78 = some 1 := rfl
@[go_sem] theorem ag78 : agT Try.prog 78 = some false := rfl
@[go_sem] theorem zc78 : zcT Try.prog 78 = some [.nilFunc] := rfl
attribute [go_sem] Try.underlying79
@[go_sem] theorem sz79 : szT Try.prog 79 = some 1 := rfl
@[go_sem] theorem ag79 : agT Try.prog 79 = some false := rfl
@[go_sem] theorem zc79 : zcT Try.prog 79 = some [.map none] := rfl
attribute [go_sem] Try.underlying80
@[go_sem] theorem sz80 : szT Try.prog 80 = some 1 := rfl
@[go_sem] theorem ag80 : agT Try.prog 80 = some false := rfl
@[go_sem] theorem zc80 : zcT Try.prog 80 = some [.nilFunc] := rfl
attribute [go_sem] Try.underlying81
@[go_sem] theorem sz81 : szT Try.prog 81 = some 1 := rfl
@[go_sem] theorem ag81 : agT Try.prog 81 = some false := rfl
attribute [go_sem] Try.underlying82
@[go_sem] theorem sz82 : szT Try.prog 82 = some 1 := rfl
@[go_sem] theorem ag82 : agT Try.prog 82 = some false := rfl
@[go_sem] theorem zc82 : zcT Try.prog 82 = some [.nilFunc] := rfl
attribute [go_sem] Try.underlying83
@[go_sem] theorem sz83 : szT Try.prog 83 = some 1 := rfl
@[go_sem] theorem ag83 : agT Try.prog 83 = some false := rfl
@[go_sem] theorem zc83 : zcT Try.prog 83 = some [.nilFunc] := rfl
attribute [go_sem] Try.underlying84
@[go_sem] theorem sz84 : szT Try.prog 84 = some 1 := rfl
@[go_sem] theorem ag84 : agT Try.prog 84 = some false := rfl
@[go_sem] theorem zc84 : zcT Try.prog 84 = some [.nilFunc] := rfl
attribute [go_sem] Try.underlying85
@[go_sem] theorem sz85 : szT Try.prog 85 = some 1 := rfl
@[go_sem] theorem ag85 : agT Try.prog 85 = some false := rfl
@[go_sem] theorem zc85 : zcT Try.prog 85 = some [.nilFunc] := rfl
attribute [go_sem] Try.underlying86
@[go_sem] theorem sz86 : szT Try.prog 86 = some 1 := rfl
@[go_sem] theorem ag86 : agT Try.prog 86 = some false := rfl
@[go_sem] theorem zc86 : zcT Try.prog 86 = some [.nilFunc] := rfl
attribute [go_sem] Try.underlying87
@[go_sem] theorem sz87 : szT Try.prog 87 = some 1 := rfl
@[go_sem] theorem ag87 : agT Try.prog 87 = some false := rfl
@[go_sem] theorem zc87 : zcT Try.prog 87 = some [.nilFunc] := rfl
attribute [go_sem] Try.underlying88
@[go_sem] theorem sz88 : szT Try.prog 88 = some 1 := rfl
@[go_sem] theorem ag88 : agT Try.prog 88 = some false := rfl
@[go_sem] theorem zc88 : zcT Try.prog 88 = some [.nilFunc] := rfl
attribute [go_sem] Try.underlying89
@[go_sem] theorem sz89 : szT Try.prog 89 = some 1 := rfl
@[go_sem] theorem ag89 : agT Try.prog 89 = some false := rfl
@[go_sem] theorem zc89 : zcT Try.prog 89 = some [.nilFunc] := rfl
attribute [go_sem] Try.underlying90
@[go_sem] theorem sz90 : szT Try.prog 90 = some 1 := rfl
@[go_sem] theorem ag90 : agT Try.prog 90 = some false := rfl
@[go_sem] theorem zc90 : zcT Try.prog 90 = some [.nilFunc] := rfl
attribute [go_sem] Try.underlying91
@[go_sem] theorem sz91 : szT Try.prog 91 = some 1 := rfl
@[go_sem] theorem ag91 : agT Try.prog 91 = some false := rfl
@[go_sem] theorem zc91 : zcT Try.prog 91 = some [.nilFunc] := rfl
attribute [go_sem] Try.underlying92
@[go_sem] theorem sz92 : szT Try.prog 92 = some 1 := rfl
@[go_sem] theorem ag92 : agT Try.prog 92 = some false := rfl
@[go_sem] theorem zc92 : zcT Try.prog 92 = some [.nilFunc] := rfl
attribute [go_sem] Try.underlying93
@[go_sem] theorem sz93 : szT Try.prog 93 = some 1 := rfl
@[go_sem] theorem ag93 : agT Try.prog 93 = some false := rfl
@[go_sem] theorem zc93 : zcT Try.prog 93 = some [.pointer none] := rfl
attribute [go_sem] Try.underlying94
@[go_sem] theorem sz94 : szT Try.prog 94 = some 1 := rfl
@[go_sem] theorem ag94 : agT Try.prog 94 = some false := rfl
@[go_sem] theorem zc94 : zcT Try.prog 94 = some [.nilFunc] := rfl
attribute [go_sem] Try.underlying95
@[go_sem] theorem sz95 : szT Try.prog 95 = some 1 := rfl
@[go_sem] theorem ag95 : agT Try.prog 95 = some false := rfl
@[go_sem] theorem zc95 : zcT Try.prog 95 = some [.nilFunc] := rfl
attribute [go_sem] Try.underlying96
@[go_sem] theorem sz96 : szT Try.prog 96 = some 1 := rfl
@[go_sem] theorem ag96 : agT Try.prog 96 = some false := rfl
@[go_sem] theorem zc96 : zcT Try.prog 96 = some [.nilFunc] := rfl
attribute [go_sem] Try.underlying97
@[go_sem] theorem sz97 : szT Try.prog 97 = some 1 := rfl
@[go_sem] theorem ag97 : agT Try.prog 97 = some false := rfl
@[go_sem] theorem zc97 : zcT Try.prog 97 = some [.pointer none] := rfl
attribute [go_sem] Try.underlying98
@[go_sem] theorem sz98 : szT Try.prog 98 = some 1 := rfl
@[go_sem] theorem ag98 : agT Try.prog 98 = some false := rfl
@[go_sem] theorem zc98 : zcT Try.prog 98 = some [.nilFunc] := rfl
attribute [go_sem] Try.underlying99
@[go_sem] theorem sz99 : szT Try.prog 99 = some 1 := rfl
@[go_sem] theorem ag99 : agT Try.prog 99 = some false := rfl
@[go_sem] theorem zc99 : zcT Try.prog 99 = some [.nilFunc] := rfl
attribute [go_sem] Try.underlying100
@[go_sem] theorem sz100 : szT Try.prog 100 = some 1 := rfl
@[go_sem] theorem ag100 : agT Try.prog 100 = some false := rfl
@[go_sem] theorem zc100 : zcT Try.prog 100 = some [.nilFunc] := rfl
attribute [go_sem] Try.underlying101
@[go_sem] theorem sz101 : szT Try.prog 101 = some 1 := rfl
@[go_sem] theorem ag101 : agT Try.prog 101 = some false := rfl
@[go_sem] theorem zc101 : zcT Try.prog 101 = some [.nilFunc] := rfl
attribute [go_sem] Try.underlying102
@[go_sem] theorem sz102 : szT Try.prog 102 = some 1 := rfl
@[go_sem] theorem ag102 : agT Try.prog 102 = some false := rfl
@[go_sem] theorem zc102 : zcT Try.prog 102 = some [.nilFunc] := rfl
attribute [go_sem] Try.underlying103
@[go_sem] theorem sz103 : szT Try.prog 103 = some 1 := rfl
@[go_sem] theorem ag103 : agT Try.prog 103 = some false := rfl
@[go_sem] theorem zc103 : zcT Try.prog 103 = some [.nilFunc] := rfl
attribute [go_sem] Try.underlying104
@[go_sem] theorem sz104 : szT Try.prog 104 = some 1 := rfl
@[go_sem] theorem ag104 : agT Try.prog 104 = some false := rfl
@[go_sem] theorem zc104 : zcT Try.prog 104 = some [.int .u64 0] := rfl
attribute [go_sem] Try.underlying105
@[go_sem] theorem sz105 : szT Try.prog 105 = some 1 := rfl
@[go_sem] theorem ag105 : agT Try.prog 105 = some false := rfl
@[go_sem] theorem zc105 : zcT Try.prog 105 = some [.nilFunc] := rfl
attribute [go_sem] Try.underlying106
@[go_sem] theorem sz106 : szT Try.prog 106 = some 1 := rfl
@[go_sem] theorem ag106 : agT Try.prog 106 = some false := rfl
@[go_sem] theorem zc106 : zcT Try.prog 106 = some [.map none] := rfl
attribute [go_sem] Try.underlying107
@[go_sem] theorem sz107 : szT Try.prog 107 = some 1 := rfl
@[go_sem] theorem ag107 : agT Try.prog 107 = some false := rfl
@[go_sem] theorem zc107 : zcT Try.prog 107 = some [.nilFunc] := rfl
attribute [go_sem] Try.underlying108
@[go_sem] theorem sz108 : szT Try.prog 108 = some 1 := rfl
@[go_sem] theorem ag108 : agT Try.prog 108 = some false := rfl
@[go_sem] theorem zc108 : zcT Try.prog 108 = some [.nilFunc] := rfl
attribute [go_sem] Try.underlying109
@[go_sem] theorem sz109 : szT Try.prog 109 = some 1 := rfl
@[go_sem] theorem ag109 : agT Try.prog 109 = some false := rfl
@[go_sem] theorem zc109 : zcT Try.prog 109 = some [.int .i64 0] := rfl
attribute [go_sem] Try.underlying110
@[go_sem] theorem sz110 : szT Try.prog 110 = some 1 := rfl
@[go_sem] theorem ag110 : agT Try.prog 110 = some false := rfl
attribute [go_sem] Try.underlying111
@[go_sem] theorem sz111 : szT Try.prog 111 = some 1 := rfl
@[go_sem] theorem ag111 : agT Try.prog 111 = some false := rfl
@[go_sem] theorem zc111 : zcT Try.prog 111 = some [.nilFunc] := rfl
attribute [go_sem] Try.underlying112
@[go_sem] theorem sz112 : szT Try.prog 112 = some 1 := rfl
@[go_sem] theorem ag112 : agT Try.prog 112 = some false := rfl
@[go_sem] theorem zc112 : zcT Try.prog 112 = some [.nilFunc] := rfl
attribute [go_sem] Try.underlying113
@[go_sem] theorem sz113 : szT Try.prog 113 = some 1 := rfl
@[go_sem] theorem ag113 : agT Try.prog 113 = some false := rfl
@[go_sem] theorem zc113 : zcT Try.prog 113 = some [.nilFunc] := rfl
attribute [go_sem] Try.underlying114
@[go_sem] theorem sz114 : szT Try.prog 114 = some 1 := rfl
@[go_sem] theorem ag114 : agT Try.prog 114 = some false := rfl
attribute [go_sem] Try.underlying115
@[go_sem] theorem sz115 : szT Try.prog 115 = some 1 := rfl
@[go_sem] theorem ag115 : agT Try.prog 115 = some false := rfl
@[go_sem] theorem zc115 : zcT Try.prog 115 = some [.nilFunc] := rfl
attribute [go_sem] Try.underlying116
@[go_sem] theorem sz116 : szT Try.prog 116 = some 1 := rfl
@[go_sem] theorem ag116 : agT Try.prog 116 = some false := rfl
@[go_sem] theorem zc116 : zcT Try.prog 116 = some [.nilFunc] := rfl
attribute [go_sem] Try.underlying117
@[go_sem] theorem sz117 : szT Try.prog 117 = some 1 := rfl
@[go_sem] theorem ag117 : agT Try.prog 117 = some false := rfl
@[go_sem] theorem zc117 : zcT Try.prog 117 = some [.int .u32 0] := rfl
attribute [go_sem] Try.underlying118
@[go_sem] theorem sz118 : szT Try.prog 118 = some 1 := rfl
@[go_sem] theorem ag118 : agT Try.prog 118 = some false := rfl
@[go_sem] theorem zc118 : zcT Try.prog 118 = some [.nilFunc] := rfl
attribute [go_sem] Try.underlying119
@[go_sem] theorem sz119 : szT Try.prog 119 = some 2 := rfl
@[go_sem] theorem ag119 : agT Try.prog 119 = some true := rfl
@[go_sem] theorem zc119 : zcT Try.prog 119 = some [.int .u8 0, .int .u64 0] := rfl
@[go_sem] theorem bd119 : bdT Try.prog 119 = some ([.int .u8 0, .int .u64 0], fun j => [(0, 1), (1, 1)][j]?) := rfl
@[go_sem] theorem fa119_0 : faT Try.prog 119 0 = some (0, 1) := rfl
@[go_sem] theorem fd119_0 : fdT Try.prog 119 0 = some (0, 1, false) := rfl
@[go_sem] theorem fa119_1 : faT Try.prog 119 1 = some (1, 1) := rfl
@[go_sem] theorem fd119_1 : fdT Try.prog 119 1 = some (1, 1, false) := rfl
attribute [go_sem] Try.underlying120
@[go_sem] theorem sz120 : szT Try.prog 120 = some 2 := rfl
@[go_sem] theorem ag120 : agT Try.prog 120 = some true := rfl
@[go_sem] theorem zc120 : zcT Try.prog 120 = some [.int .u8 0, .int .u64 0] := rfl
@[go_sem] theorem bd120 : bdT Try.prog 120 = some ([.int .u8 0, .int .u64 0], fun j => [(0, 1), (1, 1)][j]?) := rfl
@[go_sem] theorem fa120_0 : faT Try.prog 120 0 = some (0, 1) := rfl
@[go_sem] theorem fd120_0 : fdT Try.prog 120 0 = some (0, 1, false) := rfl
@[go_sem] theorem fa120_1 : faT Try.prog 120 1 = some (1, 1) := rfl
@[go_sem] theorem fd120_1 : fdT Try.prog 120 1 = some (1, 1, false) := rfl
attribute [go_sem] Try.underlying121
@[go_sem] theorem sz121 : szT Try.prog 121 = some 128 := rfl
@[go_sem] theorem ag121 : agT Try.prog 121 = some true := rfl
@[go_sem] theorem ia121 : iaT Try.prog 121 = some (some 64, 2) := rfl
@[go_sem] theorem ix121 : ixT Try.prog 121 = some (64, 2, true) := rfl
attribute [go_sem] Try.underlying122
@[go_sem] theorem sz122 : szT Try.prog 122 = some 1 := rfl
@[go_sem] theorem ag122 : agT Try.prog 122 = some false := rfl
@[go_sem] theorem zc122 : zcT Try.prog 122 = some [.map none] := rfl
attribute [go_sem] Try.underlying123
@[go_sem] theorem sz123 : szT Try.prog 123 = some 1 := rfl
@[go_sem] theorem ag123 : agT Try.prog 123 = some false := rfl
@[go_sem] theorem zc123 : zcT Try.prog 123 = some [.nilFunc] := rfl
attribute [go_sem] Try.underlying124
@[go_sem] theorem sz124 : szT Try.prog 124 = some 1 := rfl
@[go_sem] theorem ag124 : agT Try.prog 124 = some false := rfl
@[go_sem] theorem zc124 : zcT Try.prog 124 = some [.nilFunc] := rfl
attribute [go_sem] Try.underlying125
@[go_sem] theorem sz125 : szT Try.prog 125 = some 1 := rfl
@[go_sem] theorem ag125 : agT Try.prog 125 = some false := rfl
@[go_sem] theorem zc125 : zcT Try.prog 125 = some [.nilFunc] := rfl
attribute [go_sem] Try.underlying126
@[go_sem] theorem sz126 : szT Try.prog 126 = some 1 := rfl
@[go_sem] theorem ag126 : agT Try.prog 126 = some false := rfl
attribute [go_sem] Try.underlying127
@[go_sem] theorem sz127 : szT Try.prog 127 = some 1 := rfl
@[go_sem] theorem ag127 : agT Try.prog 127 = some false := rfl
@[go_sem] theorem zc127 : zcT Try.prog 127 = some [.pointer none] := rfl
attribute [go_sem] Try.underlying128
@[go_sem] theorem sz128 : szT Try.prog 128 = some 1 := rfl
@[go_sem] theorem ag128 : agT Try.prog 128 = some false := rfl
@[go_sem] theorem zc128 : zcT Try.prog 128 = some [.int .u64 0] := rfl
attribute [go_sem] Try.underlying129
@[go_sem] theorem sz129 : szT Try.prog 129 = some 1 := rfl
@[go_sem] theorem ag129 : agT Try.prog 129 = some false := rfl
@[go_sem] theorem zc129 : zcT Try.prog 129 = some [.nilFunc] := rfl
attribute [go_sem] Try.underlying130
@[go_sem] theorem sz130 : szT Try.prog 130 = some 1 := rfl
@[go_sem] theorem ag130 : agT Try.prog 130 = some false := rfl
@[go_sem] theorem zc130 : zcT Try.prog 130 = some [.nilFunc] := rfl
attribute [go_sem] Try.underlying131
@[go_sem] theorem sz131 : szT Try.prog 131 = some 1 := rfl
@[go_sem] theorem ag131 : agT Try.prog 131 = some false := rfl
@[go_sem] theorem zc131 : zcT Try.prog 131 = some [.nilFunc] := rfl
attribute [go_sem] Try.underlying132
@[go_sem] theorem sz132 : szT Try.prog 132 = some 1 := rfl
@[go_sem] theorem ag132 : agT Try.prog 132 = some false := rfl
@[go_sem] theorem zc132 : zcT Try.prog 132 = some [.pointer none] := rfl
attribute [go_sem] Try.underlying133
@[go_sem] theorem sz133 : szT Try.prog 133 = some 1 := rfl
@[go_sem] theorem ag133 : agT Try.prog 133 = some false := rfl
@[go_sem] theorem zc133 : zcT Try.prog 133 = some [.nilFunc] := rfl
attribute [go_sem] Try.underlying134
@[go_sem] theorem sz134 : szT Try.prog 134 = some 1 := rfl
@[go_sem] theorem ag134 : agT Try.prog 134 = some false := rfl
@[go_sem] theorem zc134 : zcT Try.prog 134 = some [.nilFunc] := rfl
attribute [go_sem] Try.underlying135
@[go_sem] theorem sz135 : szT Try.prog 135 = some 1 := rfl
@[go_sem] theorem ag135 : agT Try.prog 135 = some false := rfl
@[go_sem] theorem zc135 : zcT Try.prog 135 = some [.pointer none] := rfl
attribute [go_sem] Try.underlying136
@[go_sem] theorem sz136 : szT Try.prog 136 = some 1 := rfl
@[go_sem] theorem ag136 : agT Try.prog 136 = some false := rfl
attribute [go_sem] Try.underlying137
@[go_sem] theorem sz137 : szT Try.prog 137 = some 1 := rfl
@[go_sem] theorem ag137 : agT Try.prog 137 = some false := rfl
@[go_sem] theorem zc137 : zcT Try.prog 137 = some [.nilFunc] := rfl
attribute [go_sem] Try.underlying138
@[go_sem] theorem sz138 : szT Try.prog 138 = some 1 := rfl
@[go_sem] theorem ag138 : agT Try.prog 138 = some false := rfl
@[go_sem] theorem zc138 : zcT Try.prog 138 = some [.nilFunc] := rfl
attribute [go_sem] Try.underlying139
@[go_sem] theorem sz139 : szT Try.prog 139 = some 4 := rfl
@[go_sem] theorem ag139 : agT Try.prog 139 = some true := rfl
@[go_sem] theorem zc139 : zcT Try.prog 139 = some [.pointer none, .pointer none, .pointer none, .string ⟨#[]⟩] := rfl
@[go_sem] theorem bd139 : bdT Try.prog 139 = some ([.pointer none, .pointer none, .pointer none, .string ⟨#[]⟩], fun j => [(0, 1), (1, 1), (2, 1), (3, 1)][j]?) := rfl
@[go_sem] theorem fa139_0 : faT Try.prog 139 0 = some (0, 1) := rfl
@[go_sem] theorem fd139_0 : fdT Try.prog 139 0 = some (0, 1, false) := rfl
@[go_sem] theorem fa139_1 : faT Try.prog 139 1 = some (1, 1) := rfl
@[go_sem] theorem fd139_1 : fdT Try.prog 139 1 = some (1, 1, false) := rfl
@[go_sem] theorem fa139_2 : faT Try.prog 139 2 = some (2, 1) := rfl
@[go_sem] theorem fd139_2 : fdT Try.prog 139 2 = some (2, 1, false) := rfl
@[go_sem] theorem fa139_3 : faT Try.prog 139 3 = some (3, 1) := rfl
@[go_sem] theorem fd139_3 : fdT Try.prog 139 3 = some (3, 1, false) := rfl
attribute [go_sem] Try.underlying140
@[go_sem] theorem sz140 : szT Try.prog 140 = some 4 := rfl
@[go_sem] theorem ag140 : agT Try.prog 140 = some true := rfl
@[go_sem] theorem zc140 : zcT Try.prog 140 = some [.pointer none, .pointer none, .pointer none, .string ⟨#[]⟩] := rfl
@[go_sem] theorem bd140 : bdT Try.prog 140 = some ([.pointer none, .pointer none, .pointer none, .string ⟨#[]⟩], fun j => [(0, 1), (1, 1), (2, 1), (3, 1)][j]?) := rfl
@[go_sem] theorem fa140_0 : faT Try.prog 140 0 = some (0, 1) := rfl
@[go_sem] theorem fd140_0 : fdT Try.prog 140 0 = some (0, 1, false) := rfl
@[go_sem] theorem fa140_1 : faT Try.prog 140 1 = some (1, 1) := rfl
@[go_sem] theorem fd140_1 : fdT Try.prog 140 1 = some (1, 1, false) := rfl
@[go_sem] theorem fa140_2 : faT Try.prog 140 2 = some (2, 1) := rfl
@[go_sem] theorem fd140_2 : fdT Try.prog 140 2 = some (2, 1, false) := rfl
@[go_sem] theorem fa140_3 : faT Try.prog 140 3 = some (3, 1) := rfl
@[go_sem] theorem fd140_3 : fdT Try.prog 140 3 = some (3, 1, false) := rfl
attribute [go_sem] Try.underlying141
@[go_sem] theorem sz141 : szT Try.prog 141 = some 0 := rfl
@[go_sem] theorem ag141 : agT Try.prog 141 = some true := rfl
@[go_sem] theorem zc141 : zcT Try.prog 141 = some [] := rfl
@[go_sem] theorem bd141 : bdT Try.prog 141 = some ([], fun j => some (j * 1, 1)) := rfl
@[go_sem] theorem ia141 : iaT Try.prog 141 = some (some 0, 1) := rfl
@[go_sem] theorem ix141 : ixT Try.prog 141 = some (0, 1, false) := rfl
attribute [go_sem] Try.underlying142
@[go_sem] theorem sz142 : szT Try.prog 142 = some 0 := rfl
@[go_sem] theorem ag142 : agT Try.prog 142 = some true := rfl
@[go_sem] theorem zc142 : zcT Try.prog 142 = some [] := rfl
@[go_sem] theorem bd142 : bdT Try.prog 142 = some ([], fun j => [(0, 0)][j]?) := rfl
@[go_sem] theorem fa142_0 : faT Try.prog 142 0 = some (0, 0) := rfl
@[go_sem] theorem fd142_0 : fdT Try.prog 142 0 = some (0, 0, true) := rfl
attribute [go_sem] Try.underlying143
@[go_sem] theorem sz143 : szT Try.prog 143 = some 0 := rfl
@[go_sem] theorem ag143 : agT Try.prog 143 = some true := rfl
@[go_sem] theorem zc143 : zcT Try.prog 143 = some [] := rfl
@[go_sem] theorem bd143 : bdT Try.prog 143 = some ([], fun j => [(0, 0)][j]?) := rfl
@[go_sem] theorem fa143_0 : faT Try.prog 143 0 = some (0, 0) := rfl
@[go_sem] theorem fd143_0 : fdT Try.prog 143 0 = some (0, 0, true) := rfl
attribute [go_sem] Try.underlying144
@[go_sem] theorem sz144 : szT Try.prog 144 = some 1 := rfl
@[go_sem] theorem ag144 : agT Try.prog 144 = some false := rfl
@[go_sem] theorem zc144 : zcT Try.prog 144 = some [.nilFunc] := rfl
attribute [go_sem] Try.underlying145
@[go_sem] theorem sz145 : szT Try.prog 145 = some 1 := rfl
@[go_sem] theorem ag145 : agT Try.prog 145 = some false := rfl
@[go_sem] theorem zc145 : zcT Try.prog 145 = some [.int .u8 0] := rfl
attribute [go_sem] Try.underlying146
@[go_sem] theorem sz146 : szT Try.prog 146 = some 1 := rfl
@[go_sem] theorem ag146 : agT Try.prog 146 = some false := rfl
@[go_sem] theorem zc146 : zcT Try.prog 146 = some [.int .u8 0] := rfl
attribute [go_sem] Try.underlying147
@[go_sem] theorem sz147 : szT Try.prog 147 = some 1 := rfl
@[go_sem] theorem ag147 : agT Try.prog 147 = some false := rfl
@[go_sem] theorem zc147 : zcT Try.prog 147 = some [.nilFunc] := rfl
attribute [go_sem] Try.underlying148
@[go_sem] theorem sz148 : szT Try.prog 148 = some 1 := rfl
@[go_sem] theorem ag148 : agT Try.prog 148 = some false := rfl
@[go_sem] theorem zc148 : zcT Try.prog 148 = some [.pointer none] := rfl
attribute [go_sem] Try.underlying149
@[go_sem] theorem sz149 : szT Try.prog 149 = some 1 := rfl
@[go_sem] theorem ag149 : agT Try.prog 149 = some false := rfl
@[go_sem] theorem zc149 : zcT Try.prog 149 = some [.int .i32 0] := rfl
attribute [go_sem] Try.underlying150
@[go_sem] theorem sz150 : szT Try.prog 150 = some 1 := rfl
@[go_sem] theorem ag150 : agT Try.prog 150 = some false := rfl
@[go_sem] theorem zc150 : zcT Try.prog 150 = some [.int .i32 0] := rfl
attribute [go_sem] Try.underlying151
@[go_sem] theorem sz151 : szT Try.prog 151 = some 11 := rfl
@[go_sem] theorem ag151 : agT Try.prog 151 = some true := rfl
@[go_sem] theorem zc151 : zcT Try.prog 151 = some [.int .u64 0, .int .u64 0, .int .u32 0, .int .u8 0, .int .u8 0, .int .u8 0, .int .u8 0, .nilFunc, .pointer none, .int .i32 0, .int .i32 0] := rfl
@[go_sem] theorem bd151 : bdT Try.prog 151 = some ([.int .u64 0, .int .u64 0, .int .u32 0, .int .u8 0, .int .u8 0, .int .u8 0, .int .u8 0, .nilFunc, .pointer none, .int .i32 0, .int .i32 0], fun j => [(0, 1), (1, 1), (2, 1), (3, 1), (4, 1), (5, 1), (6, 1), (7, 1), (8, 1), (9, 1), (10, 1)][j]?) := rfl
@[go_sem] theorem fa151_0 : faT Try.prog 151 0 = some (0, 1) := rfl
@[go_sem] theorem fd151_0 : fdT Try.prog 151 0 = some (0, 1, false) := rfl
@[go_sem] theorem fa151_1 : faT Try.prog 151 1 = some (1, 1) := rfl
@[go_sem] theorem fd151_1 : fdT Try.prog 151 1 = some (1, 1, false) := rfl
@[go_sem] theorem fa151_2 : faT Try.prog 151 2 = some (2, 1) := rfl
@[go_sem] theorem fd151_2 : fdT Try.prog 151 2 = some (2, 1, false) := rfl
@[go_sem] theorem fa151_3 : faT Try.prog 151 3 = some (3, 1) := rfl
@[go_sem] theorem fd151_3 : fdT Try.prog 151 3 = some (3, 1, false) := rfl
@[go_sem] theorem fa151_4 : faT Try.prog 151 4 = some (4, 1) := rfl
@[go_sem] theorem fd151_4 : fdT Try.prog 151 4 = some (4, 1, false) := rfl
@[go_sem] theorem fa151_5 : faT Try.prog 151 5 = some (5, 1) := rfl
@[go_sem] theorem fd151_5 : fdT Try.prog 151 5 = some (5, 1, false) := rfl
@[go_sem] theorem fa151_6 : faT Try.prog 151 6 = some (6, 1) := rfl
@[go_sem] theorem fd151_6 : fdT Try.prog 151 6 = some (6, 1, false) := rfl
@[go_sem] theorem fa151_7 : faT Try.prog 151 7 = some (7, 1) := rfl
@[go_sem] theorem fd151_7 : fdT Try.prog 151 7 = some (7, 1, false) := rfl
@[go_sem] theorem fa151_8 : faT Try.prog 151 8 = some (8, 1) := rfl
@[go_sem] theorem fd151_8 : fdT Try.prog 151 8 = some (8, 1, false) := rfl
@[go_sem] theorem fa151_9 : faT Try.prog 151 9 = some (9, 1) := rfl
@[go_sem] theorem fd151_9 : fdT Try.prog 151 9 = some (9, 1, false) := rfl
@[go_sem] theorem fa151_10 : faT Try.prog 151 10 = some (10, 1) := rfl
@[go_sem] theorem fd151_10 : fdT Try.prog 151 10 = some (10, 1, false) := rfl
attribute [go_sem] Try.underlying152
@[go_sem] theorem sz152 : szT Try.prog 152 = some 11 := rfl
@[go_sem] theorem ag152 : agT Try.prog 152 = some true := rfl
@[go_sem] theorem zc152 : zcT Try.prog 152 = some [.int .u64 0, .int .u64 0, .int .u32 0, .int .u8 0, .int .u8 0, .int .u8 0, .int .u8 0, .nilFunc, .pointer none, .int .i32 0, .int .i32 0] := rfl
@[go_sem] theorem bd152 : bdT Try.prog 152 = some ([.int .u64 0, .int .u64 0, .int .u32 0, .int .u8 0, .int .u8 0, .int .u8 0, .int .u8 0, .nilFunc, .pointer none, .int .i32 0, .int .i32 0], fun j => [(0, 1), (1, 1), (2, 1), (3, 1), (4, 1), (5, 1), (6, 1), (7, 1), (8, 1), (9, 1), (10, 1)][j]?) := rfl
@[go_sem] theorem fa152_0 : faT Try.prog 152 0 = some (0, 1) := rfl
@[go_sem] theorem fd152_0 : fdT Try.prog 152 0 = some (0, 1, false) := rfl
@[go_sem] theorem fa152_1 : faT Try.prog 152 1 = some (1, 1) := rfl
@[go_sem] theorem fd152_1 : fdT Try.prog 152 1 = some (1, 1, false) := rfl
@[go_sem] theorem fa152_2 : faT Try.prog 152 2 = some (2, 1) := rfl
@[go_sem] theorem fd152_2 : fdT Try.prog 152 2 = some (2, 1, false) := rfl
@[go_sem] theorem fa152_3 : faT Try.prog 152 3 = some (3, 1) := rfl
@[go_sem] theorem fd152_3 : fdT Try.prog 152 3 = some (3, 1, false) := rfl
@[go_sem] theorem fa152_4 : faT Try.prog 152 4 = some (4, 1) := rfl
@[go_sem] theorem fd152_4 : fdT Try.prog 152 4 = some (4, 1, false) := rfl
@[go_sem] theorem fa152_5 : faT Try.prog 152 5 = some (5, 1) := rfl
@[go_sem] theorem fd152_5 : fdT Try.prog 152 5 = some (5, 1, false) := rfl
@[go_sem] theorem fa152_6 : faT Try.prog 152 6 = some (6, 1) := rfl
@[go_sem] theorem fd152_6 : fdT Try.prog 152 6 = some (6, 1, false) := rfl
@[go_sem] theorem fa152_7 : faT Try.prog 152 7 = some (7, 1) := rfl
@[go_sem] theorem fd152_7 : fdT Try.prog 152 7 = some (7, 1, false) := rfl
@[go_sem] theorem fa152_8 : faT Try.prog 152 8 = some (8, 1) := rfl
@[go_sem] theorem fd152_8 : fdT Try.prog 152 8 = some (8, 1, false) := rfl
@[go_sem] theorem fa152_9 : faT Try.prog 152 9 = some (9, 1) := rfl
@[go_sem] theorem fd152_9 : fdT Try.prog 152 9 = some (9, 1, false) := rfl
@[go_sem] theorem fa152_10 : faT Try.prog 152 10 = some (10, 1) := rfl
@[go_sem] theorem fd152_10 : fdT Try.prog 152 10 = some (10, 1, false) := rfl
attribute [go_sem] Try.underlying153
@[go_sem] theorem sz153 : szT Try.prog 153 = some 1 := rfl
@[go_sem] theorem ag153 : agT Try.prog 153 = some false := rfl
@[go_sem] theorem zc153 : zcT Try.prog 153 = some [.pointer none] := rfl
@[go_sem] theorem call2 (args : List Value) : aCallFunc Try.prog 2 args = .pure (.enter 2 args) := rfl
@[go_sem] theorem call3 (args : List Value) : aCallFunc Try.prog 3 args = .pure (.enter 3 args) := rfl
@[go_sem] theorem call4 (args : List Value) : aCallFunc Try.prog 4 args = .pure (.enter 4 args) := rfl
@[go_sem] theorem call5 (args : List Value) : aCallFunc Try.prog 5 args = .pure (.enter 5 args) := rfl
@[go_sem] theorem call6 (args : List Value) : aCallFunc Try.prog 6 args = .pure (.enter 6 args) := rfl
@[go_sem] theorem call7 (args : List Value) : aCallFunc Try.prog 7 args = .pure (.enter 7 args) := rfl
@[go_sem] theorem call8 (args : List Value) : aCallFunc Try.prog 8 args = .pure (.enter 8 args) := rfl
@[go_sem] theorem call9 (args : List Value) : aCallFunc Try.prog 9 args = .pure (.enter 9 args) := rfl
@[go_sem] theorem call10 (args : List Value) : aCallFunc Try.prog 10 args = .pure (.enter 10 args) := rfl
@[go_sem] theorem call11 (args : List Value) : aCallFunc Try.prog 11 args = .pure (.enter 11 args) := rfl
@[go_sem] theorem call12 (args : List Value) : aCallFunc Try.prog 12 args = .pure (.enter 12 args) := rfl
@[go_sem] theorem call13 (args : List Value) : aCallFunc Try.prog 13 args = .pure (.enter 13 args) := rfl
@[go_sem] theorem call14 (args : List Value) : aCallFunc Try.prog 14 args = .pure (.enter 14 args) := rfl
@[go_sem] theorem call15 (args : List Value) : aCallFunc Try.prog 15 args = .pure (.enter 15 args) := rfl
@[go_sem] theorem call16 (args : List Value) : aCallFunc Try.prog 16 args = .pure (.enter 16 args) := rfl
@[go_sem] theorem call17 (args : List Value) : aCallFunc Try.prog 17 args = .pure (.enter 17 args) := rfl
@[go_sem] theorem call18 (args : List Value) : aCallFunc Try.prog 18 args = .pure (.enter 18 args) := rfl
@[go_sem] theorem call19 (args : List Value) : aCallFunc Try.prog 19 args = .pure (.enter 19 args) := rfl
@[go_sem] theorem call20 (args : List Value) : aCallFunc Try.prog 20 args = .pure (.enter 20 args) := rfl
@[go_sem] theorem call21 (args : List Value) : aCallFunc Try.prog 21 args = .pure (.enter 21 args) := rfl
@[go_sem] theorem call22 (args : List Value) : aCallFunc Try.prog 22 args = .pure (.enter 22 args) := rfl
@[go_sem] theorem call23 (args : List Value) : aCallFunc Try.prog 23 args = .pure (.enter 23 args) := rfl
@[go_sem] theorem call24 (args : List Value) : aCallFunc Try.prog 24 args = .pure (.enter 24 args) := rfl
@[go_sem] theorem call25 (args : List Value) : aCallFunc Try.prog 25 args = .pure (.enter 25 args) := rfl
@[go_sem] theorem call26 (args : List Value) : aCallFunc Try.prog 26 args = .pure (.enter 26 args) := rfl
@[go_sem] theorem call27 (args : List Value) : aCallFunc Try.prog 27 args = .pure (.enter 27 args) := rfl
@[go_sem] theorem call28 (args : List Value) : aCallFunc Try.prog 28 args = .pure (.enter 28 args) := rfl
@[go_sem] theorem call29 (args : List Value) : aCallFunc Try.prog 29 args = .pure (.enter 29 args) := rfl
@[go_sem] theorem call30 (args : List Value) : aCallFunc Try.prog 30 args = .pure (.enter 30 args) := rfl
@[go_sem] theorem call31 (args : List Value) : aCallFunc Try.prog 31 args = .pure (.enter 31 args) := rfl
@[go_sem] theorem call32 (args : List Value) : aCallFunc Try.prog 32 args = .pure (.enter 32 args) := rfl
@[go_sem] theorem call33 (args : List Value) : aCallFunc Try.prog 33 args = .pure (.enter 33 args) := rfl
@[go_sem] theorem call34 (args : List Value) : aCallFunc Try.prog 34 args = .pure (.enter 34 args) := rfl
@[go_sem] theorem call35 (args : List Value) : aCallFunc Try.prog 35 args = .pure (.enter 35 args) := rfl
@[go_sem] theorem call36 (args : List Value) : aCallFunc Try.prog 36 args = .pure (.enter 36 args) := rfl
@[go_sem] theorem call37 (args : List Value) : aCallFunc Try.prog 37 args = .pure (.enter 37 args) := rfl
@[go_sem] theorem call38 (args : List Value) : aCallFunc Try.prog 38 args = .pure (.enter 38 args) := rfl
@[go_sem] theorem call39 (args : List Value) : aCallFunc Try.prog 39 args = .pure (.enter 39 args) := rfl
@[go_sem] theorem call40 (args : List Value) : aCallFunc Try.prog 40 args = .pure (.enter 40 args) := rfl
@[go_sem] theorem call41 (args : List Value) : aCallFunc Try.prog 41 args = .pure (.enter 41 args) := rfl
@[go_sem] theorem call42 (args : List Value) : aCallFunc Try.prog 42 args = .pure (.enter 42 args) := rfl
@[go_sem] theorem call43 (args : List Value) : aCallFunc Try.prog 43 args = .pure (.enter 43 args) := rfl
@[go_sem] theorem call44 (args : List Value) : aCallFunc Try.prog 44 args = .pure (.enter 44 args) := rfl
@[go_sem] theorem call45 (args : List Value) : aCallFunc Try.prog 45 args = .pure (.enter 45 args) := rfl
@[go_sem] theorem call46 (args : List Value) : aCallFunc Try.prog 46 args = .pure (.enter 46 args) := rfl
@[go_sem] theorem call47 (args : List Value) : aCallFunc Try.prog 47 args = .pure (.enter 47 args) := rfl
@[go_sem] theorem call48 (args : List Value) : aCallFunc Try.prog 48 args = .pure (.enter 48 args) := rfl
@[go_sem] theorem call49 (args : List Value) : aCallFunc Try.prog 49 args = .pure (.enter 49 args) := rfl
@[go_sem] theorem call50 (args : List Value) : aCallFunc Try.prog 50 args = .pure (.enter 50 args) := rfl
@[go_sem] theorem call51 (args : List Value) : aCallFunc Try.prog 51 args = .pure (.enter 51 args) := rfl
@[go_sem] theorem call52 (args : List Value) : aCallFunc Try.prog 52 args = .pure (.enter 52 args) := rfl
@[go_sem] theorem call53 (args : List Value) : aCallFunc Try.prog 53 args = .pure (.enter 53 args) := rfl
@[go_sem] theorem call54 (args : List Value) : aCallFunc Try.prog 54 args = .pure (.enter 54 args) := rfl
@[go_sem] theorem call55 (args : List Value) : aCallFunc Try.prog 55 args = .pure (.enter 55 args) := rfl
@[go_sem] theorem call56 (args : List Value) : aCallFunc Try.prog 56 args = .pure (.enter 56 args) := rfl
@[go_sem] theorem call57 (args : List Value) : aCallFunc Try.prog 57 args = .pure (.enter 57 args) := rfl
@[go_sem] theorem call58 (args : List Value) : aCallFunc Try.prog 58 args = .pure (.enter 58 args) := rfl
@[go_sem] theorem call59 (args : List Value) : aCallFunc Try.prog 59 args = .pure (.enter 59 args) := rfl
@[go_sem] theorem call60 (args : List Value) : aCallFunc Try.prog 60 args = .pure (.enter 60 args) := rfl
@[go_sem] theorem call61 (args : List Value) : aCallFunc Try.prog 61 args = .pure (.enter 61 args) := rfl
@[go_sem] theorem call62 (args : List Value) : aCallFunc Try.prog 62 args = .pure (.enter 62 args) := rfl
@[go_sem] theorem call63 (args : List Value) : aCallFunc Try.prog 63 args = .pure (.enter 63 args) := rfl
@[go_sem] theorem call64 (args : List Value) : aCallFunc Try.prog 64 args = .pure (.enter 64 args) := rfl
@[go_sem] theorem call65 (args : List Value) : aCallFunc Try.prog 65 args = .pure (.enter 65 args) := rfl
@[go_sem] theorem call66 (args : List Value) : aCallFunc Try.prog 66 args = .pure (.enter 66 args) := rfl
@[go_sem] theorem call67 (args : List Value) : aCallFunc Try.prog 67 args = .pure (.enter 67 args) := rfl
@[go_sem] theorem call68 (args : List Value) : aCallFunc Try.prog 68 args = .pure (.enter 68 args) := rfl
@[go_sem] theorem call69 (args : List Value) : aCallFunc Try.prog 69 args = .pure (.enter 69 args) := rfl
@[go_sem] theorem call70 (args : List Value) : aCallFunc Try.prog 70 args = .pure (.enter 70 args) := rfl
@[go_sem] theorem call71 (args : List Value) : aCallFunc Try.prog 71 args = .pure (.enter 71 args) := rfl
@[go_sem] theorem call72 (args : List Value) : aCallFunc Try.prog 72 args = .pure (.enter 72 args) := rfl
@[go_sem] theorem call73 (args : List Value) : aCallFunc Try.prog 73 args = .pure (.enter 73 args) := rfl
@[go_sem] theorem call74 (args : List Value) : aCallFunc Try.prog 74 args = .pure (.enter 74 args) := rfl
@[go_sem] theorem call75 (args : List Value) : aCallFunc Try.prog 75 args = .pure (.enter 75 args) := rfl
@[go_sem] theorem call76 (args : List Value) : aCallFunc Try.prog 76 args = .pure (.enter 76 args) := rfl
@[go_sem] theorem call77 (args : List Value) : aCallFunc Try.prog 77 args = .pure (.enter 77 args) := rfl
@[go_sem] theorem call78 (args : List Value) : aCallFunc Try.prog 78 args = .pure (.enter 78 args) := rfl
@[go_sem] theorem call79 (args : List Value) : aCallFunc Try.prog 79 args = .pure (.enter 79 args) := rfl
@[go_sem] theorem call80 (args : List Value) : aCallFunc Try.prog 80 args = .pure (.enter 80 args) := rfl
@[go_sem] theorem call81 (args : List Value) : aCallFunc Try.prog 81 args = .pure (.enter 81 args) := rfl
@[go_sem] theorem call82 (args : List Value) : aCallFunc Try.prog 82 args = .pure (.enter 82 args) := rfl

attribute [go_sem_proc] Nat.reduceLT Nat.reduceAdd Nat.reduceMul Nat.reduceSub Nat.reduceEqDiff Nat.reduceLeDiff Int.reduceToNat Int.reduceLT Int.reduceLE Int.reduceEq Int.reduceNe Int.reduceAdd Int.reduceSub Int.reduceMul Int.reduceNeg reduceCtorEq
attribute [go_sem_proc ↓] reduceIte

end Go.Proofs.Ythhohpbghfbkbaa
