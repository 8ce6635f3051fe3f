/-
  What the program's types are, in the abstract machine's words: read off the program by program.
-/
import Derived.Test.YtbceiadaihphaaaGreatProg
import Derived.Test.YtbceiadaihphaaaGreatAmV3
set_option linter.unusedVariables false
set_option maxRecDepth 100000
namespace Go.Proofs.YtbceiadaihphaaaGreat
open Go.Am
attribute [go_sem] Tryz.underlying0
@[go_sem] theorem sz0:bY Tryz.prog 0=some 1:=rfl
@[go_sem] theorem ag0:b_ Tryz.prog 0=some false:=rfl
attribute [go_sem] Tryz.underlying3
@[go_sem] theorem sz3:bY Tryz.prog 3=some 1:=rfl
@[go_sem] theorem ag3:b_ Tryz.prog 3=some false:=rfl
@[go_sem] theorem zc3:dg Tryz.prog 3=some [.int .i64 0]:=rfl
attribute [go_sem] Tryz.underlying4
@[go_sem] theorem sz4:bY Tryz.prog 4=some 1:=rfl
@[go_sem] theorem ag4:b_ Tryz.prog 4=some false:=rfl
@[go_sem] theorem zc4:dg Tryz.prog 4=some [.bool false]:=rfl
attribute [go_sem] Tryz.underlying5
@[go_sem] theorem sz5:bY Tryz.prog 5=some 1:=rfl
@[go_sem] theorem ag5:b_ Tryz.prog 5=some false:=rfl
@[go_sem] theorem zc5:dg Tryz.prog 5=some [.int .u8 0]:=rfl
attribute [go_sem] Tryz.underlying23
@[go_sem] theorem agU:bY Tryz.prog 23=some 2:=rfl
@[go_sem] theorem agV:b_ Tryz.prog 23=some true:=rfl
@[go_sem] theorem agW:dg Tryz.prog 23=some [.int .u8 0,.int .i64 0]:=rfl
@[go_sem] theorem agX:k7 Tryz.prog 23=some ([.int .u8 0,.int .i64 0],fun j=>[(0,1),(1,1)][j]?):=rfl
@[go_sem] theorem Xv:cM Tryz.prog 23 0=some (0,1):=rfl
@[go_sem] theorem Xw:cN Tryz.prog 23 0=some (0,1,false):=rfl
@[go_sem] theorem Xx:cM Tryz.prog 23 1=some (1,1):=rfl
@[go_sem] theorem Xy:cN Tryz.prog 23 1=some (1,1,false):=rfl
attribute [go_sem] Tryz.underlying24
@[go_sem] theorem agY:bY Tryz.prog 24=some 1:=rfl
@[go_sem] theorem agZ:b_ Tryz.prog 24=some false:=rfl
@[go_sem] theorem ag1:dg Tryz.prog 24=some [.slice none 0 0]:=rfl
@[go_sem] theorem ag2:sS Tryz.prog 24=some (none,1):=rfl
@[go_sem] theorem ag6:yZ Tryz.prog 24=some (1,24,[.slice none 0 0]):=rfl
@[go_sem] theorem ag7:Ad Tryz.prog 24 24=some (1,24,1):=rfl
attribute [go_sem] Tryz.underlying25
@[go_sem] theorem ag8:bY Tryz.prog 25=some 1:=rfl
@[go_sem] theorem ag9:b_ Tryz.prog 25=some false:=rfl
@[go_sem] theorem ag_:dg Tryz.prog 25=some [.slice none 0 0]:=rfl
@[go_sem] theorem ag':sS Tryz.prog 25=some (none,1):=rfl
@[go_sem] theorem aha:yZ Tryz.prog 25=some (1,8,[.int .i64 0]):=rfl
@[go_sem] theorem ahb:Ad Tryz.prog 25 25=some (1,8,1):=rfl
attribute [go_sem] Tryz.underlying27
@[go_sem] theorem ahc:bY Tryz.prog 27=some 1:=rfl
@[go_sem] theorem ahd:b_ Tryz.prog 27=some false:=rfl
@[go_sem] theorem ahe:dg Tryz.prog 27=some [.pointer none]:=rfl
attribute [go_sem] Tryz.underlying29
@[go_sem] theorem ahf:bY Tryz.prog 29=some 1:=rfl
@[go_sem] theorem ahg:b_ Tryz.prog 29=some false:=rfl
@[go_sem] theorem ahh:dg Tryz.prog 29=some [.slice none 0 0]:=rfl
@[go_sem] theorem ahi:sS Tryz.prog 29=some (none,4):=rfl
@[go_sem] theorem ahj:yZ Tryz.prog 29=some (4,32,[.int .i64 0,.int .i64 0,.int .u8 0,.int .u64 0]):=rfl
@[go_sem] theorem ahk:Ad Tryz.prog 29 29=some (4,32,4):=rfl
attribute [go_sem] Tryz.underlying31
@[go_sem] theorem ahl:bY Tryz.prog 31=some 1:=rfl
@[go_sem] theorem ahm:b_ Tryz.prog 31=some false:=rfl
@[go_sem] theorem ahn:dg Tryz.prog 31=some [.int .u64 0]:=rfl
attribute [go_sem] Tryz.underlying33
@[go_sem] theorem aho:bY Tryz.prog 33=some 4:=rfl
@[go_sem] theorem ahp:b_ Tryz.prog 33=some true:=rfl
@[go_sem] theorem ahq:dg Tryz.prog 33=some [.int .i64 0,.int .i64 0,.int .u8 0,.int .u64 0]:=rfl
@[go_sem] theorem ahr:k7 Tryz.prog 33=some ([.int .i64 0,.int .i64 0,.int .u8 0,.int .u64 0],fun j=>[(0,1),(1,1),(2,1),(3,1)][j]?):=rfl
@[go_sem] theorem Xz:cM Tryz.prog 33 0=some (0,1):=rfl
@[go_sem] theorem XA:cN Tryz.prog 33 0=some (0,1,false):=rfl
@[go_sem] theorem XB:cM Tryz.prog 33 1=some (1,1):=rfl
@[go_sem] theorem XC:cN Tryz.prog 33 1=some (1,1,false):=rfl
@[go_sem] theorem XD:cM Tryz.prog 33 2=some (2,1):=rfl
@[go_sem] theorem XE:cN Tryz.prog 33 2=some (2,1,false):=rfl
@[go_sem] theorem XF:cM Tryz.prog 33 3=some (3,1):=rfl
@[go_sem] theorem XG:cN Tryz.prog 33 3=some (3,1,false):=rfl
attribute [go_sem] Tryz.underlying36
@[go_sem] theorem ahs:bY Tryz.prog 36=some 1:=rfl
@[go_sem] theorem aht:b_ Tryz.prog 36=some false:=rfl
@[go_sem] theorem ahu:dg Tryz.prog 36=some [.slice none 0 0]:=rfl
@[go_sem] theorem ahv:sS Tryz.prog 36=some (none,6):=rfl
@[go_sem] theorem ahw:yZ Tryz.prog 36=some (6,48,[.int .i64 0,.int .i64 0,.int .u8 0,.int .u64 0,.int .u64 0,.bool false]):=rfl
@[go_sem] theorem ahx:Ad Tryz.prog 36 36=some (6,48,6):=rfl
attribute [go_sem] Tryz.underlying38
@[go_sem] theorem ahy:bY Tryz.prog 38=some 1:=rfl
@[go_sem] theorem ahz:b_ Tryz.prog 38=some false:=rfl
@[go_sem] theorem ahA:dg Tryz.prog 38=some [.slice none 0 0]:=rfl
@[go_sem] theorem ahB:sS Tryz.prog 38=some (none,1):=rfl
@[go_sem] theorem ahC:yZ Tryz.prog 38=some (1,1,[.int .u8 0]):=rfl
@[go_sem] theorem ahD:Ad Tryz.prog 38 38=some (1,1,1):=rfl
attribute [go_sem] Tryz.underlying41
@[go_sem] theorem ahE:bY Tryz.prog 41=some 5:=rfl
@[go_sem] theorem ahF:b_ Tryz.prog 41=some true:=rfl
@[go_sem] theorem ahG:dg Tryz.prog 41=some [.int .i64 0,.int .u8 0,.bool false,.bool false,.bool false]:=rfl
@[go_sem] theorem ahH:k7 Tryz.prog 41=some ([.int .i64 0,.int .u8 0,.bool false,.bool false,.bool false],fun j=>[(0,1),(1,1),(2,1),(3,1),(4,1)][j]?):=rfl
@[go_sem] theorem XH:cM Tryz.prog 41 0=some (0,1):=rfl
@[go_sem] theorem XI:cN Tryz.prog 41 0=some (0,1,false):=rfl
@[go_sem] theorem XJ:cM Tryz.prog 41 1=some (1,1):=rfl
@[go_sem] theorem XK:cN Tryz.prog 41 1=some (1,1,false):=rfl
@[go_sem] theorem XL:cM Tryz.prog 41 2=some (2,1):=rfl
@[go_sem] theorem XM:cN Tryz.prog 41 2=some (2,1,false):=rfl
@[go_sem] theorem XO:cM Tryz.prog 41 3=some (3,1):=rfl
@[go_sem] theorem XP:cN Tryz.prog 41 3=some (3,1,false):=rfl
@[go_sem] theorem XQ:cM Tryz.prog 41 4=some (4,1):=rfl
@[go_sem] theorem XR:cN Tryz.prog 41 4=some (4,1,false):=rfl
attribute [go_sem] Tryz.underlying42
@[go_sem] theorem ahI:bY Tryz.prog 42=some 1:=rfl
@[go_sem] theorem ahJ:b_ Tryz.prog 42=some false:=rfl
@[go_sem] theorem ahK:dg Tryz.prog 42=some [.int .i64 0]:=rfl
attribute [go_sem] Tryz.underlying43
@[go_sem] theorem ahL:bY Tryz.prog 43=some 1:=rfl
@[go_sem] theorem ahM:b_ Tryz.prog 43=some false:=rfl
attribute [go_sem] Tryz.underlying46
@[go_sem] theorem ahN:bY Tryz.prog 46=some 6:=rfl
@[go_sem] theorem ahO:b_ Tryz.prog 46=some true:=rfl
@[go_sem] theorem ahP:dg Tryz.prog 46=some [.int .i64 0,.int .i64 0,.int .u8 0,.int .u64 0,.int .u64 0,.bool false]:=rfl
@[go_sem] theorem ahQ:k7 Tryz.prog 46=some ([.int .i64 0,.int .i64 0,.int .u8 0,.int .u64 0,.int .u64 0,.bool false],fun j=>[(0,1),(1,1),(2,1),(3,1),(4,1),(5,1)][j]?):=rfl
@[go_sem] theorem XS:cM Tryz.prog 46 0=some (0,1):=rfl
@[go_sem] theorem XT:cN Tryz.prog 46 0=some (0,1,false):=rfl
@[go_sem] theorem XU:cM Tryz.prog 46 1=some (1,1):=rfl
@[go_sem] theorem XV:cN Tryz.prog 46 1=some (1,1,false):=rfl
@[go_sem] theorem XW:cM Tryz.prog 46 2=some (2,1):=rfl
@[go_sem] theorem XX:cN Tryz.prog 46 2=some (2,1,false):=rfl
@[go_sem] theorem XY:cM Tryz.prog 46 3=some (3,1):=rfl
@[go_sem] theorem XZ:cN Tryz.prog 46 3=some (3,1,false):=rfl
@[go_sem] theorem X2:cM Tryz.prog 46 4=some (4,1):=rfl
@[go_sem] theorem X3:cN Tryz.prog 46 4=some (4,1,false):=rfl
@[go_sem] theorem X5:cM Tryz.prog 46 5=some (5,1):=rfl
@[go_sem] theorem X7:cN Tryz.prog 46 5=some (5,1,false):=rfl
attribute [go_sem] Tryz.underlying47
@[go_sem] theorem ahR:bY Tryz.prog 47=some 1:=rfl
@[go_sem] theorem ahS:b_ Tryz.prog 47=some false:=rfl
attribute [go_sem] Tryz.underlying49
@[go_sem] theorem ahT:bY Tryz.prog 49=some 1:=rfl
@[go_sem] theorem ahU:b_ Tryz.prog 49=some false:=rfl
@[go_sem] theorem ahV:dg Tryz.prog 49=some [.slice none 0 0]:=rfl
@[go_sem] theorem ahW:sS Tryz.prog 49=some (none,2):=rfl
@[go_sem] theorem ahX:yZ Tryz.prog 49=some (2,16,[.int .u8 0,.int .u64 0]):=rfl
@[go_sem] theorem ahY:Ad Tryz.prog 49 49=some (2,16,2):=rfl
attribute [go_sem] Tryz.underlying51
@[go_sem] theorem ahZ:bY Tryz.prog 51=some 2:=rfl
@[go_sem] theorem ah0:b_ Tryz.prog 51=some true:=rfl
@[go_sem] theorem ah1:dg Tryz.prog 51=some [.int .u8 0,.int .u64 0]:=rfl
@[go_sem] theorem ah2:k7 Tryz.prog 51=some ([.int .u8 0,.int .u64 0],fun j=>[(0,1),(1,1)][j]?):=rfl
@[go_sem] theorem X8:cM Tryz.prog 51 0=some (0,1):=rfl
@[go_sem] theorem X9:cN Tryz.prog 51 0=some (0,1,false):=rfl
@[go_sem] theorem X_:cM Tryz.prog 51 1=some (1,1):=rfl
@[go_sem] theorem Ya:cN Tryz.prog 51 1=some (1,1,false):=rfl
attribute [go_sem] Tryz.underlying54
@[go_sem] theorem ah3:bY Tryz.prog 54=some 1:=rfl
@[go_sem] theorem ah4:b_ Tryz.prog 54=some false:=rfl
attribute [go_sem] Tryz.underlying66
@[go_sem] theorem ah5:bY Tryz.prog 66=some 1:=rfl
@[go_sem] theorem ah6:b_ Tryz.prog 66=some false:=rfl
attribute [go_sem] Tryz.underlying72
@[go_sem] theorem ah7:bY Tryz.prog 72=some 1:=rfl
@[go_sem] theorem ah8:b_ Tryz.prog 72=some false:=rfl
@[go_sem] theorem ah9:dg Tryz.prog 72=some [.pointer none]:=rfl
attribute [go_sem] Tryz.underlying73
@[go_sem] theorem ah_:bY Tryz.prog 73=some 1:=rfl
@[go_sem] theorem ah':b_ Tryz.prog 73=some false:=rfl
@[go_sem] theorem aia:dg Tryz.prog 73=some [.pointer none]:=rfl
attribute [go_sem] Tryz.underlying74
@[go_sem] theorem aib:bY Tryz.prog 74=some 1:=rfl
@[go_sem] theorem aic:b_ Tryz.prog 74=some false:=rfl
@[go_sem] theorem aid:dg Tryz.prog 74=some [.slice none 0 0]:=rfl
@[go_sem] theorem aie:sS Tryz.prog 74=some (none,8):=rfl
@[go_sem] theorem aif:yZ Tryz.prog 74=some (8,64,[.slice none 0 0,.int .i64 0,.pointer none,.pointer none,.int .u8 0,.bool false,.bool false,.int .u64 0]):=rfl
@[go_sem] theorem aih:Ad Tryz.prog 74 74=some (8,64,8):=rfl
attribute [go_sem] Tryz.underlying75
@[go_sem] theorem aii:bY Tryz.prog 75=some 1:=rfl
@[go_sem] theorem aij:b_ Tryz.prog 75=some false:=rfl
@[go_sem] theorem aik:dg Tryz.prog 75=some [.map none]:=rfl
attribute [go_sem] Tryz.underlying77
@[go_sem] theorem ail:bY Tryz.prog 77=some 6:=rfl
@[go_sem] theorem aim:b_ Tryz.prog 77=some true:=rfl
@[go_sem] theorem ain:dg Tryz.prog 77=some [.pointer none,.pointer none,.slice none 0 0,.slice none 0 0,.int .i64 0,.map none]:=rfl
@[go_sem] theorem aio:k7 Tryz.prog 77=some ([.pointer none,.pointer none,.slice none 0 0,.slice none 0 0,.int .i64 0,.map none],fun j=>[(0,1),(1,1),(2,1),(3,1),(4,1),(5,1)][j]?):=rfl
@[go_sem] theorem Yb:cM Tryz.prog 77 0=some (0,1):=rfl
@[go_sem] theorem Yc:cN Tryz.prog 77 0=some (0,1,false):=rfl
@[go_sem] theorem Yd:cM Tryz.prog 77 1=some (1,1):=rfl
@[go_sem] theorem Ye:cN Tryz.prog 77 1=some (1,1,false):=rfl
@[go_sem] theorem Yf:cM Tryz.prog 77 2=some (2,1):=rfl
@[go_sem] theorem Yg:cN Tryz.prog 77 2=some (2,1,false):=rfl
@[go_sem] theorem Yh:cM Tryz.prog 77 3=some (3,1):=rfl
@[go_sem] theorem Yi:cN Tryz.prog 77 3=some (3,1,false):=rfl
@[go_sem] theorem Yj:cM Tryz.prog 77 4=some (4,1):=rfl
@[go_sem] theorem Yk:cN Tryz.prog 77 4=some (4,1,false):=rfl
@[go_sem] theorem Yl:cM Tryz.prog 77 5=some (5,1):=rfl
@[go_sem] theorem Ym:cN Tryz.prog 77 5=some (5,1,false):=rfl
attribute [go_sem] Tryz.underlying79
@[go_sem] theorem aip:bY Tryz.prog 79=some 2:=rfl
@[go_sem] theorem aiq:b_ Tryz.prog 79=some true:=rfl
@[go_sem] theorem air:dg Tryz.prog 79=some [.slice none 0 0,.int .i64 0]:=rfl
@[go_sem] theorem ais:k7 Tryz.prog 79=some ([.slice none 0 0,.int .i64 0],fun j=>[(0,1),(1,1)][j]?):=rfl
@[go_sem] theorem Yn:cM Tryz.prog 79 0=some (0,1):=rfl
@[go_sem] theorem Yo:cN Tryz.prog 79 0=some (0,1,false):=rfl
@[go_sem] theorem Yp:cM Tryz.prog 79 1=some (1,1):=rfl
@[go_sem] theorem Yq:cN Tryz.prog 79 1=some (1,1,false):=rfl
attribute [go_sem] Tryz.underlying80
@[go_sem] theorem ait:bY Tryz.prog 80=some 1:=rfl
@[go_sem] theorem aiu:b_ Tryz.prog 80=some false:=rfl
@[go_sem] theorem aiv:dg Tryz.prog 80=some [.pointer none]:=rfl
attribute [go_sem] Tryz.underlying81
@[go_sem] theorem aiw:bY Tryz.prog 81=some 1:=rfl
@[go_sem] theorem aix:b_ Tryz.prog 81=some false:=rfl
@[go_sem] theorem aiy:dg Tryz.prog 81=some [.pointer none]:=rfl
attribute [go_sem] Tryz.underlying83
@[go_sem] theorem aiz:bY Tryz.prog 83=some 8:=rfl
@[go_sem] theorem aiA:b_ Tryz.prog 83=some true:=rfl
@[go_sem] theorem aiB:dg Tryz.prog 83=some [.slice none 0 0,.int .i64 0,.pointer none,.pointer none,.int .u8 0,.bool false,.bool false,.int .u64 0]:=rfl
@[go_sem] theorem aiC:k7 Tryz.prog 83=some ([.slice none 0 0,.int .i64 0,.pointer none,.pointer none,.int .u8 0,.bool false,.bool false,.int .u64 0],fun j=>[(0,2),(2,1),(3,1),(4,1),(5,1),(6,1),(7,1)][j]?):=rfl
@[go_sem] theorem Yr:cM Tryz.prog 83 0=some (0,2):=rfl
@[go_sem] theorem Ys:cN Tryz.prog 83 0=some (0,2,true):=rfl
@[go_sem] theorem Yt:cM Tryz.prog 83 1=some (2,1):=rfl
@[go_sem] theorem Yu:cN Tryz.prog 83 1=some (2,1,false):=rfl
@[go_sem] theorem Yv:cM Tryz.prog 83 2=some (3,1):=rfl
@[go_sem] theorem Yw:cN Tryz.prog 83 2=some (3,1,false):=rfl
@[go_sem] theorem Yx:cM Tryz.prog 83 3=some (4,1):=rfl
@[go_sem] theorem Yy:cN Tryz.prog 83 3=some (4,1,false):=rfl
@[go_sem] theorem Yz:cM Tryz.prog 83 4=some (5,1):=rfl
@[go_sem] theorem YA:cN Tryz.prog 83 4=some (5,1,false):=rfl
@[go_sem] theorem YB:cM Tryz.prog 83 5=some (6,1):=rfl
@[go_sem] theorem YC:cN Tryz.prog 83 5=some (6,1,false):=rfl
@[go_sem] theorem YD:cM Tryz.prog 83 6=some (7,1):=rfl
@[go_sem] theorem YE:cN Tryz.prog 83 6=some (7,1,false):=rfl
attribute [go_sem] Tryz.underlying84
@[go_sem] theorem aiD:bY Tryz.prog 84=some 1:=rfl
@[go_sem] theorem aiE:b_ Tryz.prog 84=some false:=rfl
@[go_sem] theorem aiF:dg Tryz.prog 84=some [.nilFunc]:=rfl
attribute [go_sem] Tryz.underlying86
@[go_sem] theorem aiG:bY Tryz.prog 86=some 1:=rfl
@[go_sem] theorem aiH:b_ Tryz.prog 86=some false:=rfl
attribute [go_sem] Tryz.underlying90
@[go_sem] theorem aiI:bY Tryz.prog 90=some 1:=rfl
@[go_sem] theorem aiJ:b_ Tryz.prog 90=some false:=rfl
attribute [go_sem] Tryz.underlying92
@[go_sem] theorem aiK:bY Tryz.prog 92=some 1:=rfl
@[go_sem] theorem aiL:b_ Tryz.prog 92=some false:=rfl
@[go_sem] theorem aiM:dg Tryz.prog 92=some [.slice none 0 0]:=rfl
@[go_sem] theorem aiN:sS Tryz.prog 92=some (none,1):=rfl
@[go_sem] theorem aiO:yZ Tryz.prog 92=some (1,8,[.int .u64 0]):=rfl
@[go_sem] theorem aiP:Ad Tryz.prog 92 92=some (1,8,1):=rfl
attribute [go_sem] Tryz.underlying93
@[go_sem] theorem aiQ:bY Tryz.prog 93=some 1:=rfl
@[go_sem] theorem aiR:b_ Tryz.prog 93=some false:=rfl
attribute [go_sem] Tryz.underlying95
@[go_sem] theorem aiS:bY Tryz.prog 95=some 1:=rfl
@[go_sem] theorem aiT:b_ Tryz.prog 95=some false:=rfl
@[go_sem] theorem aiU:dg Tryz.prog 95=some [.nilFunc]:=rfl
attribute [go_sem] Tryz.underlying120
@[go_sem] theorem aag:bY Tryz.prog 120=some 1:=rfl
@[go_sem] theorem aah:b_ Tryz.prog 120=some false:=rfl
@[go_sem] theorem aai:dg Tryz.prog 120=some [.slice none 0 0]:=rfl
@[go_sem] theorem aaj:sS Tryz.prog 120=some (none,1):=rfl
@[go_sem] theorem aak:yZ Tryz.prog 120=some (1,8,[.int .u64 0]):=rfl
@[go_sem] theorem aal:Ad Tryz.prog 120 120=some (1,8,1):=rfl
attribute [go_sem] Tryz.underlying122
@[go_sem] theorem aam:bY Tryz.prog 122=some 2:=rfl
@[go_sem] theorem aan:b_ Tryz.prog 122=some true:=rfl
@[go_sem] theorem aao:dg Tryz.prog 122=some [.slice none 0 0,.slice none 0 0]:=rfl
@[go_sem] theorem aap:k7 Tryz.prog 122=some ([.slice none 0 0,.slice none 0 0],fun j=>[(0,1),(1,1)][j]?):=rfl
@[go_sem] theorem Ty:cM Tryz.prog 122 0=some (0,1):=rfl
@[go_sem] theorem Tz:cN Tryz.prog 122 0=some (0,1,false):=rfl
@[go_sem] theorem TA:cM Tryz.prog 122 1=some (1,1):=rfl
@[go_sem] theorem TB:cN Tryz.prog 122 1=some (1,1,false):=rfl
attribute [go_sem] Tryz.underlying123
@[go_sem] theorem aaq:bY Tryz.prog 123=some 1:=rfl
@[go_sem] theorem aar:b_ Tryz.prog 123=some false:=rfl
@[go_sem] theorem aas:dg Tryz.prog 123=some [.pointer none]:=rfl
attribute [go_sem] Tryz.underlying125
@[go_sem] theorem aat:bY Tryz.prog 125=some 1:=rfl
@[go_sem] theorem aau:b_ Tryz.prog 125=some false:=rfl
@[go_sem] theorem aav:dg Tryz.prog 125=some [.nilFunc]:=rfl
attribute [go_sem] Tryz.underlying127
@[go_sem] theorem aaw:bY Tryz.prog 127=some 1:=rfl
@[go_sem] theorem aax:b_ Tryz.prog 127=some false:=rfl
attribute [go_sem] Tryz.underlying134
@[go_sem] theorem aay:bY Tryz.prog 134=some 1:=rfl
@[go_sem] theorem aaz:b_ Tryz.prog 134=some true:=rfl
@[go_sem] theorem aaA:dg Tryz.prog 134=some [.int .u64 0]:=rfl
@[go_sem] theorem aaB:k7 Tryz.prog 134=some ([.int .u64 0],fun j=>[(0,0),(0,0),(0,1)][j]?):=rfl
@[go_sem] theorem TC:cM Tryz.prog 134 0=some (0,0):=rfl
@[go_sem] theorem TD:cN Tryz.prog 134 0=some (0,0,true):=rfl
@[go_sem] theorem TE:cM Tryz.prog 134 1=some (0,0):=rfl
@[go_sem] theorem TF:cN Tryz.prog 134 1=some (0,0,true):=rfl
@[go_sem] theorem TG:cM Tryz.prog 134 2=some (0,1):=rfl
@[go_sem] theorem TH:cN Tryz.prog 134 2=some (0,1,false):=rfl
attribute [go_sem] Tryz.underlying135
@[go_sem] theorem aaC:bY Tryz.prog 135=some 1:=rfl
@[go_sem] theorem aaD:b_ Tryz.prog 135=some false:=rfl
@[go_sem] theorem aaE:dg Tryz.prog 135=some [.nilFunc]:=rfl
attribute [go_sem] Tryz.underlying137
@[go_sem] theorem aaF:bY Tryz.prog 137=some 1:=rfl
@[go_sem] theorem aaG:b_ Tryz.prog 137=some false:=rfl
@[go_sem] theorem aaH:dg Tryz.prog 137=some [.nilIface]:=rfl
attribute [go_sem] Tryz.underlying139
@[go_sem] theorem aaI:bY Tryz.prog 139=some 3:=rfl
@[go_sem] theorem aaJ:b_ Tryz.prog 139=some true:=rfl
@[go_sem] theorem aaK:dg Tryz.prog 139=some [.nilIface,.int .u8 0,.int .i64 0]:=rfl
@[go_sem] theorem aaL:k7 Tryz.prog 139=some ([.nilIface,.int .u8 0,.int .i64 0],fun j=>[(0,1),(1,1),(2,1)][j]?):=rfl
@[go_sem] theorem TI:cM Tryz.prog 139 0=some (0,1):=rfl
@[go_sem] theorem TJ:cN Tryz.prog 139 0=some (0,1,false):=rfl
@[go_sem] theorem TK:cM Tryz.prog 139 1=some (1,1):=rfl
@[go_sem] theorem TL:cN Tryz.prog 139 1=some (1,1,false):=rfl
@[go_sem] theorem TM:cM Tryz.prog 139 2=some (2,1):=rfl
@[go_sem] theorem TN:cN Tryz.prog 139 2=some (2,1,false):=rfl
attribute [go_sem] Tryz.underlying140
@[go_sem] theorem aaM:bY Tryz.prog 140=some 1:=rfl
@[go_sem] theorem aaN:b_ Tryz.prog 140=some false:=rfl
@[go_sem] theorem aaO:dg Tryz.prog 140=some [.pointer none]:=rfl
attribute [go_sem] Tryz.underlying141
@[go_sem] theorem aaP:bY Tryz.prog 141=some 1:=rfl
@[go_sem] theorem aaQ:b_ Tryz.prog 141=some false:=rfl
attribute [go_sem] Tryz.underlying144
@[go_sem] theorem aaR:bY Tryz.prog 144=some 1:=rfl
@[go_sem] theorem aaS:b_ Tryz.prog 144=some false:=rfl
@[go_sem] theorem aaT:dg Tryz.prog 144=some [.nilIface]:=rfl
attribute [go_sem] Tryz.underlying146
@[go_sem] theorem aaU:bY Tryz.prog 146=some 1:=rfl
@[go_sem] theorem aaV:b_ Tryz.prog 146=some true:=rfl
@[go_sem] theorem aaW:dg Tryz.prog 146=some [.nilIface]:=rfl
@[go_sem] theorem aaX:k7 Tryz.prog 146=some ([.nilIface],fun j=>[(0,1)][j]?):=rfl
@[go_sem] theorem TP:cM Tryz.prog 146 0=some (0,1):=rfl
@[go_sem] theorem TQ:cN Tryz.prog 146 0=some (0,1,false):=rfl
attribute [go_sem] Tryz.underlying147
@[go_sem] theorem aaY:bY Tryz.prog 147=some 1:=rfl
@[go_sem] theorem aaZ:b_ Tryz.prog 147=some false:=rfl
@[go_sem] theorem aa0:dg Tryz.prog 147=some [.pointer none]:=rfl
attribute [go_sem] Tryz.underlying148
@[go_sem] theorem aa1:bY Tryz.prog 148=some 1:=rfl
@[go_sem] theorem aa2:b_ Tryz.prog 148=some false:=rfl
attribute [go_sem] Tryz.underlying151
@[go_sem] theorem aa3:bY Tryz.prog 151=some 1:=rfl
@[go_sem] theorem aa4:b_ Tryz.prog 151=some false:=rfl
@[go_sem] theorem aa5:dg Tryz.prog 151=some [.nilIface]:=rfl
attribute [go_sem] Tryz.underlying153
@[go_sem] theorem aa6:bY Tryz.prog 153=some 1:=rfl
@[go_sem] theorem aa7:b_ Tryz.prog 153=some true:=rfl
@[go_sem] theorem aa8:dg Tryz.prog 153=some [.nilIface]:=rfl
@[go_sem] theorem aa9:k7 Tryz.prog 153=some ([.nilIface],fun j=>[(0,1)][j]?):=rfl
@[go_sem] theorem TR:cM Tryz.prog 153 0=some (0,1):=rfl
@[go_sem] theorem TS:cN Tryz.prog 153 0=some (0,1,false):=rfl
attribute [go_sem] Tryz.underlying154
@[go_sem] theorem aa_:bY Tryz.prog 154=some 1:=rfl
@[go_sem] theorem aa':b_ Tryz.prog 154=some false:=rfl
@[go_sem] theorem abb:dg Tryz.prog 154=some [.pointer none]:=rfl
attribute [go_sem] Tryz.underlying155
@[go_sem] theorem abd:bY Tryz.prog 155=some 1:=rfl
@[go_sem] theorem abe:b_ Tryz.prog 155=some false:=rfl
attribute [go_sem] Tryz.underlying158
@[go_sem] theorem abf:bY Tryz.prog 158=some 1:=rfl
@[go_sem] theorem abg:b_ Tryz.prog 158=some false:=rfl
@[go_sem] theorem abh:dg Tryz.prog 158=some [.nilIface]:=rfl
attribute [go_sem] Tryz.underlying160
@[go_sem] theorem abj:bY Tryz.prog 160=some 1:=rfl
@[go_sem] theorem abk:b_ Tryz.prog 160=some true:=rfl
@[go_sem] theorem abl:dg Tryz.prog 160=some [.nilIface]:=rfl
@[go_sem] theorem abm:k7 Tryz.prog 160=some ([.nilIface],fun j=>[(0,1)][j]?):=rfl
@[go_sem] theorem TT:cM Tryz.prog 160 0=some (0,1):=rfl
@[go_sem] theorem TU:cN Tryz.prog 160 0=some (0,1,false):=rfl
attribute [go_sem] Tryz.underlying161
@[go_sem] theorem abn:bY Tryz.prog 161=some 1:=rfl
@[go_sem] theorem abo:b_ Tryz.prog 161=some false:=rfl
attribute [go_sem] Tryz.underlying163
@[go_sem] theorem abp:bY Tryz.prog 163=some 1:=rfl
@[go_sem] theorem abq:b_ Tryz.prog 163=some false:=rfl
attribute [go_sem] Tryz.underlying173
@[go_sem] theorem abr:bY Tryz.prog 173=some 1:=rfl
@[go_sem] theorem abt:b_ Tryz.prog 173=some false:=rfl
@[go_sem] theorem abu:dg Tryz.prog 173=some [.nilIface]:=rfl
attribute [go_sem] Tryz.underlying175
@[go_sem] theorem abv:bY Tryz.prog 175=some 1:=rfl
@[go_sem] theorem abw:b_ Tryz.prog 175=some true:=rfl
@[go_sem] theorem abx:dg Tryz.prog 175=some [.nilIface]:=rfl
@[go_sem] theorem aby:k7 Tryz.prog 175=some ([.nilIface],fun j=>[(0,1)][j]?):=rfl
@[go_sem] theorem TV:cM Tryz.prog 175 0=some (0,1):=rfl
@[go_sem] theorem TW:cN Tryz.prog 175 0=some (0,1,false):=rfl
attribute [go_sem] Tryz.underlying176
@[go_sem] theorem abz:bY Tryz.prog 176=some 1:=rfl
@[go_sem] theorem abA:b_ Tryz.prog 176=some true:=rfl
@[go_sem] theorem abB:dg Tryz.prog 176=some [.nilIface]:=rfl
@[go_sem] theorem abC:k7 Tryz.prog 176=some ([.nilIface],fun j=>[(0,1)][j]?):=rfl
@[go_sem] theorem TX:cM Tryz.prog 176 0=some (0,1):=rfl
@[go_sem] theorem TY:cN Tryz.prog 176 0=some (0,1,false):=rfl
attribute [go_sem] Tryz.underlying178
@[go_sem] theorem abD:bY Tryz.prog 178=some 1:=rfl
@[go_sem] theorem abE:b_ Tryz.prog 178=some false:=rfl
@[go_sem] theorem abF:dg Tryz.prog 178=some [.pointer none]:=rfl
attribute [go_sem] Tryz.underlying181
@[go_sem] theorem abG:bY Tryz.prog 181=some 1:=rfl
@[go_sem] theorem abH:b_ Tryz.prog 181=some false:=rfl
attribute [go_sem] Tryz.underlying183
@[go_sem] theorem abI:bY Tryz.prog 183=some 1:=rfl
@[go_sem] theorem abJ:b_ Tryz.prog 183=some false:=rfl
@[go_sem] theorem abK:dg Tryz.prog 183=some [.slice none 0 0]:=rfl
@[go_sem] theorem abL:sS Tryz.prog 183=some (none,1):=rfl
@[go_sem] theorem abM:yZ Tryz.prog 183=some (1,1,[.bool false]):=rfl
@[go_sem] theorem abN:Ad Tryz.prog 183 183=some (1,1,1):=rfl
attribute [go_sem] Tryz.underlying185
@[go_sem] theorem abO:bY Tryz.prog 185=some 4:=rfl
@[go_sem] theorem abP:b_ Tryz.prog 185=some true:=rfl
@[go_sem] theorem abQ:dg Tryz.prog 185=some [.pointer none,.int .i64 0,.slice none 0 0,.slice none 0 0]:=rfl
@[go_sem] theorem abR:k7 Tryz.prog 185=some ([.pointer none,.int .i64 0,.slice none 0 0,.slice none 0 0],fun j=>[(0,1),(1,1),(2,1),(3,1)][j]?):=rfl
@[go_sem] theorem T0:cM Tryz.prog 185 0=some (0,1):=rfl
@[go_sem] theorem T1:cN Tryz.prog 185 0=some (0,1,false):=rfl
@[go_sem] theorem T2:cM Tryz.prog 185 1=some (1,1):=rfl
@[go_sem] theorem T3:cN Tryz.prog 185 1=some (1,1,false):=rfl
@[go_sem] theorem T4:cM Tryz.prog 185 2=some (2,1):=rfl
@[go_sem] theorem T5:cN Tryz.prog 185 2=some (2,1,false):=rfl
@[go_sem] theorem T6:cM Tryz.prog 185 3=some (3,1):=rfl
@[go_sem] theorem T7:cN Tryz.prog 185 3=some (3,1,false):=rfl
attribute [go_sem] Tryz.underlying186
@[go_sem] theorem abS:bY Tryz.prog 186=some 1:=rfl
@[go_sem] theorem abT:b_ Tryz.prog 186=some false:=rfl
@[go_sem] theorem abU:dg Tryz.prog 186=some [.slice none 0 0]:=rfl
@[go_sem] theorem abV:sS Tryz.prog 186=some (none,2):=rfl
@[go_sem] theorem abW:yZ Tryz.prog 186=some (2,16,[.int .u64 0,.bool false]):=rfl
@[go_sem] theorem abX:Ad Tryz.prog 186 186=some (2,16,2):=rfl
attribute [go_sem] Tryz.underlying187
@[go_sem] theorem abY:bY Tryz.prog 187=some 1:=rfl
@[go_sem] theorem abZ:b_ Tryz.prog 187=some false:=rfl
@[go_sem] theorem ab0:dg Tryz.prog 187=some [.nilFunc]:=rfl
attribute [go_sem] Tryz.underlying189
@[go_sem] theorem ab1:bY Tryz.prog 189=some 3:=rfl
@[go_sem] theorem ab2:b_ Tryz.prog 189=some true:=rfl
@[go_sem] theorem ab3:dg Tryz.prog 189=some [.pointer none,.slice none 0 0,.nilFunc]:=rfl
@[go_sem] theorem ab4:k7 Tryz.prog 189=some ([.pointer none,.slice none 0 0,.nilFunc],fun j=>[(0,1),(1,1),(2,1)][j]?):=rfl
@[go_sem] theorem T8:cM Tryz.prog 189 0=some (0,1):=rfl
@[go_sem] theorem T9:cN Tryz.prog 189 0=some (0,1,false):=rfl
@[go_sem] theorem T_:cM Tryz.prog 189 1=some (1,1):=rfl
@[go_sem] theorem Ua:cN Tryz.prog 189 1=some (1,1,false):=rfl
@[go_sem] theorem Ub:cM Tryz.prog 189 2=some (2,1):=rfl
@[go_sem] theorem Uc:cN Tryz.prog 189 2=some (2,1,false):=rfl
attribute [go_sem] Tryz.underlying190
@[go_sem] theorem ab5:bY Tryz.prog 190=some 1:=rfl
@[go_sem] theorem ab6:b_ Tryz.prog 190=some false:=rfl
@[go_sem] theorem ab7:dg Tryz.prog 190=some [.map none]:=rfl
attribute [go_sem] Tryz.underlying192
@[go_sem] theorem ab8:bY Tryz.prog 192=some 4:=rfl
@[go_sem] theorem ab9:b_ Tryz.prog 192=some true:=rfl
@[go_sem] theorem ab_:dg Tryz.prog 192=some [.pointer none,.int .i64 0,.int .i64 0,.map none]:=rfl
@[go_sem] theorem ab':k7 Tryz.prog 192=some ([.pointer none,.int .i64 0,.int .i64 0,.map none],fun j=>[(0,1),(1,1),(2,1),(3,1)][j]?):=rfl
@[go_sem] theorem Ud:cM Tryz.prog 192 0=some (0,1):=rfl
@[go_sem] theorem Ue:cN Tryz.prog 192 0=some (0,1,false):=rfl
@[go_sem] theorem Uf:cM Tryz.prog 192 1=some (1,1):=rfl
@[go_sem] theorem Ug:cN Tryz.prog 192 1=some (1,1,false):=rfl
@[go_sem] theorem Uh:cM Tryz.prog 192 2=some (2,1):=rfl
@[go_sem] theorem Ui:cN Tryz.prog 192 2=some (2,1,false):=rfl
@[go_sem] theorem Uj:cM Tryz.prog 192 3=some (3,1):=rfl
@[go_sem] theorem Uk:cN Tryz.prog 192 3=some (3,1,false):=rfl
attribute [go_sem] Tryz.underlying193
@[go_sem] theorem acd:bY Tryz.prog 193=some 1:=rfl
@[go_sem] theorem ace:b_ Tryz.prog 193=some false:=rfl
attribute [go_sem] Tryz.underlying209
@[go_sem] theorem acf:bY Tryz.prog 209=some 1:=rfl
@[go_sem] theorem acg:b_ Tryz.prog 209=some false:=rfl
@[go_sem] theorem ach:dg Tryz.prog 209=some [.nilFunc]:=rfl
attribute [go_sem] Tryz.underlying210
@[go_sem] theorem aci:bY Tryz.prog 210=some 1:=rfl
@[go_sem] theorem acj:b_ Tryz.prog 210=some false:=rfl
@[go_sem] theorem ack:dg Tryz.prog 210=some [.nilFunc]:=rfl
attribute [go_sem] Tryz.underlying216
@[go_sem] theorem acm:bY Tryz.prog 216=some 1:=rfl
@[go_sem] theorem acn:b_ Tryz.prog 216=some false:=rfl
@[go_sem] theorem aco:dg Tryz.prog 216=some [.nilFunc]:=rfl
attribute [go_sem] Tryz.underlying258
@[go_sem] theorem acp:bY Tryz.prog 258=some 1:=rfl
@[go_sem] theorem acq:b_ Tryz.prog 258=some false:=rfl
@[go_sem] theorem acr:dg Tryz.prog 258=some [.pointer none]:=rfl
attribute [go_sem] Tryz.underlying260
@[go_sem] theorem acs:bY Tryz.prog 260=some 4:=rfl
@[go_sem] theorem acu:b_ Tryz.prog 260=some true:=rfl
@[go_sem] theorem acv:dg Tryz.prog 260=some [.pointer none,.int .i64 0,.int .i64 0,.nilFunc]:=rfl
@[go_sem] theorem acw:k7 Tryz.prog 260=some ([.pointer none,.int .i64 0,.int .i64 0,.nilFunc],fun j=>[(0,1),(1,1),(2,1),(3,1)][j]?):=rfl
@[go_sem] theorem Ul:cM Tryz.prog 260 0=some (0,1):=rfl
@[go_sem] theorem Um:cN Tryz.prog 260 0=some (0,1,false):=rfl
@[go_sem] theorem Un:cM Tryz.prog 260 1=some (1,1):=rfl
@[go_sem] theorem Uo:cN Tryz.prog 260 1=some (1,1,false):=rfl
@[go_sem] theorem Up:cM Tryz.prog 260 2=some (2,1):=rfl
@[go_sem] theorem Uq:cN Tryz.prog 260 2=some (2,1,false):=rfl
@[go_sem] theorem Ur:cM Tryz.prog 260 3=some (3,1):=rfl
@[go_sem] theorem Us:cN Tryz.prog 260 3=some (3,1,false):=rfl
attribute [go_sem] Tryz.underlying261
@[go_sem] theorem acy:bY Tryz.prog 261=some 1:=rfl
@[go_sem] theorem acz:b_ Tryz.prog 261=some false:=rfl
@[go_sem] theorem acA:dg Tryz.prog 261=some [.pointer none]:=rfl
attribute [go_sem] Tryz.underlying263
@[go_sem] theorem acB:bY Tryz.prog 263=some 5:=rfl
@[go_sem] theorem acC:b_ Tryz.prog 263=some true:=rfl
@[go_sem] theorem acD:dg Tryz.prog 263=some [.pointer none,.int .i64 0,.int .i64 0,.nilFunc,.int .u64 0]:=rfl
@[go_sem] theorem acE:k7 Tryz.prog 263=some ([.pointer none,.int .i64 0,.int .i64 0,.nilFunc,.int .u64 0],fun j=>[(0,1),(1,1),(2,1),(3,1),(4,1)][j]?):=rfl
@[go_sem] theorem Ut:cM Tryz.prog 263 0=some (0,1):=rfl
@[go_sem] theorem Uu:cN Tryz.prog 263 0=some (0,1,false):=rfl
@[go_sem] theorem Uv:cM Tryz.prog 263 1=some (1,1):=rfl
@[go_sem] theorem Uw:cN Tryz.prog 263 1=some (1,1,false):=rfl
@[go_sem] theorem Ux:cM Tryz.prog 263 2=some (2,1):=rfl
@[go_sem] theorem Uy:cN Tryz.prog 263 2=some (2,1,false):=rfl
@[go_sem] theorem Uz:cM Tryz.prog 263 3=some (3,1):=rfl
@[go_sem] theorem UA:cN Tryz.prog 263 3=some (3,1,false):=rfl
@[go_sem] theorem UB:cM Tryz.prog 263 4=some (4,1):=rfl
@[go_sem] theorem UC:cN Tryz.prog 263 4=some (4,1,false):=rfl
attribute [go_sem] Tryz.underlying269
@[go_sem] theorem acF:bY Tryz.prog 269=some 1:=rfl
@[go_sem] theorem acG:b_ Tryz.prog 269=some false:=rfl
attribute [go_sem] Tryz.underlying271
@[go_sem] theorem acH:bY Tryz.prog 271=some 1:=rfl
@[go_sem] theorem acI:b_ Tryz.prog 271=some false:=rfl
attribute [go_sem] Tryz.underlying274
@[go_sem] theorem acJ:bY Tryz.prog 274=some 1:=rfl
@[go_sem] theorem acK:b_ Tryz.prog 274=some false:=rfl
@[go_sem] theorem acL:dg Tryz.prog 274=some [.pointer none]:=rfl
attribute [go_sem] Tryz.underlying275
@[go_sem] theorem acM:bY Tryz.prog 275=some 1:=rfl
@[go_sem] theorem acN:b_ Tryz.prog 275=some false:=rfl
@[go_sem] theorem acO:dg Tryz.prog 275=some [.pointer none]:=rfl
attribute [go_sem] Tryz.underlying276
@[go_sem] theorem acP:bY Tryz.prog 276=some 1:=rfl
@[go_sem] theorem acQ:b_ Tryz.prog 276=some false:=rfl
attribute [go_sem] Tryz.underlying279
@[go_sem] theorem acR:bY Tryz.prog 279=some 2:=rfl
@[go_sem] theorem acS:b_ Tryz.prog 279=some true:=rfl
@[go_sem] theorem acT:dg Tryz.prog 279=some [.int .u64 0,.bool false]:=rfl
@[go_sem] theorem acU:k7 Tryz.prog 279=some ([.int .u64 0,.bool false],fun j=>[(0,1),(1,1)][j]?):=rfl
@[go_sem] theorem UD:cM Tryz.prog 279 0=some (0,1):=rfl
@[go_sem] theorem UE:cN Tryz.prog 279 0=some (0,1,false):=rfl
@[go_sem] theorem UF:cM Tryz.prog 279 1=some (1,1):=rfl
@[go_sem] theorem UG:cN Tryz.prog 279 1=some (1,1,false):=rfl
attribute [go_sem] Tryz.underlying281
@[go_sem] theorem acV:bY Tryz.prog 281=some 5:=rfl
@[go_sem] theorem acW:b_ Tryz.prog 281=some true:=rfl
@[go_sem] theorem acX:dg Tryz.prog 281=some [.pointer none,.int .i64 0,.int .i64 0,.int .i64 0,.int .i64 0]:=rfl
@[go_sem] theorem acY:k7 Tryz.prog 281=some ([.pointer none,.int .i64 0,.int .i64 0,.int .i64 0,.int .i64 0],fun j=>[(0,1),(1,1),(2,1),(3,1),(4,1)][j]?):=rfl
@[go_sem] theorem UH:cM Tryz.prog 281 0=some (0,1):=rfl
@[go_sem] theorem UI:cN Tryz.prog 281 0=some (0,1,false):=rfl
@[go_sem] theorem UJ:cM Tryz.prog 281 1=some (1,1):=rfl
@[go_sem] theorem UK:cN Tryz.prog 281 1=some (1,1,false):=rfl
@[go_sem] theorem UL:cM Tryz.prog 281 2=some (2,1):=rfl
@[go_sem] theorem UM:cN Tryz.prog 281 2=some (2,1,false):=rfl
@[go_sem] theorem UN:cM Tryz.prog 281 3=some (3,1):=rfl
@[go_sem] theorem UO:cN Tryz.prog 281 3=some (3,1,false):=rfl
@[go_sem] theorem UQ:cM Tryz.prog 281 4=some (4,1):=rfl
@[go_sem] theorem UR:cN Tryz.prog 281 4=some (4,1,false):=rfl
attribute [go_sem] Tryz.underlying282
@[go_sem] theorem acZ:bY Tryz.prog 282=some 1:=rfl
@[go_sem] theorem ac0:b_ Tryz.prog 282=some false:=rfl
@[go_sem] theorem ac1:dg Tryz.prog 282=some [.pointer none]:=rfl
attribute [go_sem] Tryz.underlying284
@[go_sem] theorem ac2:bY Tryz.prog 284=some 6:=rfl
@[go_sem] theorem ac3:b_ Tryz.prog 284=some true:=rfl
@[go_sem] theorem ac4:dg Tryz.prog 284=some [.pointer none,.int .i64 0,.int .u64 0,.int .i64 0,.int .u64 0,.int .i64 0]:=rfl
@[go_sem] theorem ac5:k7 Tryz.prog 284=some ([.pointer none,.int .i64 0,.int .u64 0,.int .i64 0,.int .u64 0,.int .i64 0],fun j=>[(0,1),(1,1),(2,1),(3,1),(4,1),(5,1)][j]?):=rfl
@[go_sem] theorem US:cM Tryz.prog 284 0=some (0,1):=rfl
@[go_sem] theorem UT:cN Tryz.prog 284 0=some (0,1,false):=rfl
@[go_sem] theorem UU:cM Tryz.prog 284 1=some (1,1):=rfl
@[go_sem] theorem UW:cN Tryz.prog 284 1=some (1,1,false):=rfl
@[go_sem] theorem UX:cM Tryz.prog 284 2=some (2,1):=rfl
@[go_sem] theorem UY:cN Tryz.prog 284 2=some (2,1,false):=rfl
@[go_sem] theorem UZ:cM Tryz.prog 284 3=some (3,1):=rfl
@[go_sem] theorem U0:cN Tryz.prog 284 3=some (3,1,false):=rfl
@[go_sem] theorem U1:cM Tryz.prog 284 4=some (4,1):=rfl
@[go_sem] theorem U2:cN Tryz.prog 284 4=some (4,1,false):=rfl
@[go_sem] theorem U3:cM Tryz.prog 284 5=some (5,1):=rfl
@[go_sem] theorem U4:cN Tryz.prog 284 5=some (5,1,false):=rfl
attribute [go_sem] Tryz.underlying286
@[go_sem] theorem ac6:bY Tryz.prog 286=some 1:=rfl
@[go_sem] theorem ac7:b_ Tryz.prog 286=some false:=rfl
attribute [go_sem] Tryz.underlying288
@[go_sem] theorem ac8:bY Tryz.prog 288=some 1:=rfl
@[go_sem] theorem ac9:b_ Tryz.prog 288=some false:=rfl
attribute [go_sem] Tryz.underlying291
@[go_sem] theorem ac_:bY Tryz.prog 291=some 1:=rfl
@[go_sem] theorem ada:b_ Tryz.prog 291=some false:=rfl
@[go_sem] theorem adb:dg Tryz.prog 291=some [.pointer none]:=rfl
attribute [go_sem] Tryz.underlying292
@[go_sem] theorem ade:bY Tryz.prog 292=some 1:=rfl
@[go_sem] theorem adf:b_ Tryz.prog 292=some false:=rfl
@[go_sem] theorem adg:dg Tryz.prog 292=some [.pointer none]:=rfl
attribute [go_sem] Tryz.underlying293
@[go_sem] theorem adh:bY Tryz.prog 293=some 1:=rfl
@[go_sem] theorem adi:b_ Tryz.prog 293=some false:=rfl
attribute [go_sem] Tryz.underlying295
@[go_sem] theorem adj:bY Tryz.prog 295=some 2:=rfl
@[go_sem] theorem adk:b_ Tryz.prog 295=some true:=rfl
@[go_sem] theorem adl:dg Tryz.prog 295=some [.int .i64 0,.bool false]:=rfl
@[go_sem] theorem adn:k7 Tryz.prog 295=some ([.int .i64 0,.bool false],fun j=>[(0,1),(1,1)][j]?):=rfl
@[go_sem] theorem U5:cM Tryz.prog 295 0=some (0,1):=rfl
@[go_sem] theorem U7:cN Tryz.prog 295 0=some (0,1,false):=rfl
@[go_sem] theorem U9:cM Tryz.prog 295 1=some (1,1):=rfl
@[go_sem] theorem U_:cN Tryz.prog 295 1=some (1,1,false):=rfl
attribute [go_sem] Tryz.underlying296
@[go_sem] theorem ado:bY Tryz.prog 296=some 4:=rfl
@[go_sem] theorem adp:b_ Tryz.prog 296=some true:=rfl
@[go_sem] theorem adq:dg Tryz.prog 296=some [.int .i64 0,.int .i64 0,.int .i64 0,.int .i64 0]:=rfl
@[go_sem] theorem adr:k7 Tryz.prog 296=some ([.int .i64 0,.int .i64 0,.int .i64 0,.int .i64 0],fun j=>some (j*1,1)):=rfl
@[go_sem] theorem ads:sS Tryz.prog 296=some (some 4,1):=rfl
@[go_sem] theorem adt:JO Tryz.prog 296=some (4,1,false):=rfl
attribute [go_sem] Tryz.underlying299
@[go_sem] theorem adu:bY Tryz.prog 299=some 7:=rfl
@[go_sem] theorem adv:b_ Tryz.prog 299=some true:=rfl
@[go_sem] theorem adw:dg Tryz.prog 299=some [.pointer none,.int .i64 0,.int .i64 0,.int .i64 0,.int .i64 0,.int .i64 0,.pointer none]:=rfl
@[go_sem] theorem adx:k7 Tryz.prog 299=some ([.pointer none,.int .i64 0,.int .i64 0,.int .i64 0,.int .i64 0,.int .i64 0,.pointer none],fun j=>[(0,1),(1,1),(2,4),(6,1)][j]?):=rfl
@[go_sem] theorem Va:cM Tryz.prog 299 0=some (0,1):=rfl
@[go_sem] theorem Vb:cN Tryz.prog 299 0=some (0,1,false):=rfl
@[go_sem] theorem Vc:cM Tryz.prog 299 1=some (1,1):=rfl
@[go_sem] theorem Vd:cN Tryz.prog 299 1=some (1,1,false):=rfl
@[go_sem] theorem Ve:cM Tryz.prog 299 2=some (2,4):=rfl
@[go_sem] theorem Vf:cN Tryz.prog 299 2=some (2,4,true):=rfl
@[go_sem] theorem Vg:cM Tryz.prog 299 3=some (6,1):=rfl
@[go_sem] theorem Vh:cN Tryz.prog 299 3=some (6,1,false):=rfl
attribute [go_sem] Tryz.underlying300
@[go_sem] theorem ady:bY Tryz.prog 300=some 1:=rfl
@[go_sem] theorem adz:b_ Tryz.prog 300=some false:=rfl
attribute [go_sem] Tryz.underlying302
@[go_sem] theorem adA:bY Tryz.prog 302=some 1:=rfl
@[go_sem] theorem adB:b_ Tryz.prog 302=some false:=rfl
@[go_sem] theorem adC:dg Tryz.prog 302=some [.pointer none]:=rfl
attribute [go_sem] Tryz.underlying303
@[go_sem] theorem adD:bY Tryz.prog 303=some 1:=rfl
@[go_sem] theorem adE:b_ Tryz.prog 303=some false:=rfl
@[go_sem] theorem adF:dg Tryz.prog 303=some [.pointer none]:=rfl
attribute [go_sem] Tryz.underlying304
@[go_sem] theorem adG:bY Tryz.prog 304=some 1:=rfl
@[go_sem] theorem adH:b_ Tryz.prog 304=some false:=rfl
@[go_sem] theorem adI:dg Tryz.prog 304=some [.nilFunc]:=rfl
attribute [go_sem] Tryz.underlying306
@[go_sem] theorem adJ:bY Tryz.prog 306=some 2:=rfl
@[go_sem] theorem adK:b_ Tryz.prog 306=some true:=rfl
@[go_sem] theorem adL:dg Tryz.prog 306=some [.int .u8 0,.nilFunc]:=rfl
@[go_sem] theorem adM:k7 Tryz.prog 306=some ([.int .u8 0,.nilFunc],fun j=>[(0,1),(1,1)][j]?):=rfl
@[go_sem] theorem Vi:cM Tryz.prog 306 0=some (0,1):=rfl
@[go_sem] theorem Vj:cN Tryz.prog 306 0=some (0,1,false):=rfl
@[go_sem] theorem Vk:cM Tryz.prog 306 1=some (1,1):=rfl
@[go_sem] theorem Vl:cN Tryz.prog 306 1=some (1,1,false):=rfl
attribute [go_sem] Tryz.underlying308
@[go_sem] theorem adN:bY Tryz.prog 308=some 7:=rfl
@[go_sem] theorem adO:b_ Tryz.prog 308=some true:=rfl
@[go_sem] theorem adP:dg Tryz.prog 308=some [.pointer none,.int .i64 0,.slice none 0 0,.pointer none,.int .u64 0,.int .u8 0,.nilFunc]:=rfl
@[go_sem] theorem adQ:k7 Tryz.prog 308=some ([.pointer none,.int .i64 0,.slice none 0 0,.pointer none,.int .u64 0,.int .u8 0,.nilFunc],fun j=>[(0,1),(1,1),(2,1),(3,1),(4,1),(5,2)][j]?):=rfl
@[go_sem] theorem Vm:cM Tryz.prog 308 0=some (0,1):=rfl
@[go_sem] theorem Vn:cN Tryz.prog 308 0=some (0,1,false):=rfl
@[go_sem] theorem Vo:cM Tryz.prog 308 1=some (1,1):=rfl
@[go_sem] theorem Vp:cN Tryz.prog 308 1=some (1,1,false):=rfl
@[go_sem] theorem Vq:cM Tryz.prog 308 2=some (2,1):=rfl
@[go_sem] theorem Vr:cN Tryz.prog 308 2=some (2,1,false):=rfl
@[go_sem] theorem Vs:cM Tryz.prog 308 3=some (3,1):=rfl
@[go_sem] theorem Vt:cN Tryz.prog 308 3=some (3,1,false):=rfl
@[go_sem] theorem Vu:cM Tryz.prog 308 4=some (4,1):=rfl
@[go_sem] theorem Vv:cN Tryz.prog 308 4=some (4,1,false):=rfl
@[go_sem] theorem Vw:cM Tryz.prog 308 5=some (5,2):=rfl
@[go_sem] theorem Vx:cN Tryz.prog 308 5=some (5,2,true):=rfl
attribute [go_sem] Tryz.underlying310
@[go_sem] theorem adR:bY Tryz.prog 310=some 1:=rfl
@[go_sem] theorem adS:b_ Tryz.prog 310=some false:=rfl
attribute [go_sem] Tryz.underlying315
@[go_sem] theorem adT:bY Tryz.prog 315=some 2:=rfl
@[go_sem] theorem adU:b_ Tryz.prog 315=some true:=rfl
@[go_sem] theorem adV:dg Tryz.prog 315=some [.int .i64 0,.int .i64 0]:=rfl
@[go_sem] theorem adW:k7 Tryz.prog 315=some ([.int .i64 0,.int .i64 0],fun j=>[(0,1),(1,1)][j]?):=rfl
@[go_sem] theorem Vy:cM Tryz.prog 315 0=some (0,1):=rfl
@[go_sem] theorem Vz:cN Tryz.prog 315 0=some (0,1,false):=rfl
@[go_sem] theorem VA:cM Tryz.prog 315 1=some (1,1):=rfl
@[go_sem] theorem VB:cN Tryz.prog 315 1=some (1,1,false):=rfl
attribute [go_sem] Tryz.underlying317
@[go_sem] theorem adX:bY Tryz.prog 317=some 7:=rfl
@[go_sem] theorem adY:b_ Tryz.prog 317=some true:=rfl
@[go_sem] theorem adZ:dg Tryz.prog 317=some [.int .i64 0,.int .i64 0,.pointer none,.int .i64 0,.int .i64 0,.nilFunc,.int .i64 0]:=rfl
@[go_sem] theorem ad0:k7 Tryz.prog 317=some ([.int .i64 0,.int .i64 0,.pointer none,.int .i64 0,.int .i64 0,.nilFunc,.int .i64 0],fun j=>[(0,2),(2,1),(3,1),(4,1),(5,1),(6,1)][j]?):=rfl
@[go_sem] theorem VC:cM Tryz.prog 317 0=some (0,2):=rfl
@[go_sem] theorem VD:cN Tryz.prog 317 0=some (0,2,true):=rfl
@[go_sem] theorem VE:cM Tryz.prog 317 1=some (2,1):=rfl
@[go_sem] theorem VF:cN Tryz.prog 317 1=some (2,1,false):=rfl
@[go_sem] theorem VG:cM Tryz.prog 317 2=some (3,1):=rfl
@[go_sem] theorem VH:cN Tryz.prog 317 2=some (3,1,false):=rfl
@[go_sem] theorem VI:cM Tryz.prog 317 3=some (4,1):=rfl
@[go_sem] theorem VJ:cN Tryz.prog 317 3=some (4,1,false):=rfl
@[go_sem] theorem VK:cM Tryz.prog 317 4=some (5,1):=rfl
@[go_sem] theorem VL:cN Tryz.prog 317 4=some (5,1,false):=rfl
@[go_sem] theorem VM:cM Tryz.prog 317 5=some (6,1):=rfl
@[go_sem] theorem VN:cN Tryz.prog 317 5=some (6,1,false):=rfl
attribute [go_sem] Tryz.underlying321
@[go_sem] theorem ad1:bY Tryz.prog 321=some 1:=rfl
@[go_sem] theorem ad2:b_ Tryz.prog 321=some false:=rfl
@[go_sem] theorem ad3:dg Tryz.prog 321=some [.pointer none]:=rfl
attribute [go_sem] Tryz.underlying325
@[go_sem] theorem ad4:bY Tryz.prog 325=some 1:=rfl
@[go_sem] theorem ad5:b_ Tryz.prog 325=some false:=rfl
attribute [go_sem] Tryz.underlying327
@[go_sem] theorem ad6:bY Tryz.prog 327=some 1:=rfl
@[go_sem] theorem ad7:b_ Tryz.prog 327=some false:=rfl
attribute [go_sem] Tryz.underlying329
@[go_sem] theorem ad8:bY Tryz.prog 329=some 3:=rfl
@[go_sem] theorem ad9:b_ Tryz.prog 329=some true:=rfl
@[go_sem] theorem ad_:dg Tryz.prog 329=some [.int .u8 0,.int .u8 0,.int .u8 0]:=rfl
@[go_sem] theorem ad':k7 Tryz.prog 329=some ([.int .u8 0,.int .u8 0,.int .u8 0],fun j=>some (j*1,1)):=rfl
@[go_sem] theorem aea:sS Tryz.prog 329=some (some 3,1):=rfl
@[go_sem] theorem aeb:JO Tryz.prog 329=some (3,1,false):=rfl
attribute [go_sem] Tryz.underlying330
@[go_sem] theorem aec:bY Tryz.prog 330=some 1:=rfl
@[go_sem] theorem aed:b_ Tryz.prog 330=some false:=rfl
@[go_sem] theorem aee:dg Tryz.prog 330=some [.nilFunc]:=rfl
attribute [go_sem] Tryz.underlying331
@[go_sem] theorem aef:bY Tryz.prog 331=some 2:=rfl
@[go_sem] theorem aeg:b_ Tryz.prog 331=some true:=rfl
@[go_sem] theorem aeh:dg Tryz.prog 331=some [.nilFunc,.nilFunc]:=rfl
@[go_sem] theorem aei:k7 Tryz.prog 331=some ([.nilFunc,.nilFunc],fun j=>some (j*1,1)):=rfl
@[go_sem] theorem aej:sS Tryz.prog 331=some (some 2,1):=rfl
@[go_sem] theorem aek:JO Tryz.prog 331=some (2,1,false):=rfl
attribute [go_sem] Tryz.underlying333
@[go_sem] theorem ael:bY Tryz.prog 333=some 4:=rfl
@[go_sem] theorem aem:b_ Tryz.prog 333=some true:=rfl
@[go_sem] theorem aen:dg Tryz.prog 333=some [.int .u8 0,.int .u8 0,.int .u8 0,.int .u8 0]:=rfl
@[go_sem] theorem aeo:k7 Tryz.prog 333=some ([.int .u8 0,.int .u8 0,.int .u8 0,.int .u8 0],fun j=>some (j*1,1)):=rfl
@[go_sem] theorem aep:sS Tryz.prog 333=some (some 4,1):=rfl
@[go_sem] theorem aer:JO Tryz.prog 333=some (4,1,false):=rfl
attribute [go_sem] Tryz.underlying334
@[go_sem] theorem aes:bY Tryz.prog 334=some 1:=rfl
@[go_sem] theorem aeu:b_ Tryz.prog 334=some false:=rfl
@[go_sem] theorem aev:dg Tryz.prog 334=some [.nilFunc]:=rfl
attribute [go_sem] Tryz.underlying335
@[go_sem] theorem aew:bY Tryz.prog 335=some 3:=rfl
@[go_sem] theorem aex:b_ Tryz.prog 335=some true:=rfl
@[go_sem] theorem aey:dg Tryz.prog 335=some [.nilFunc,.nilFunc,.nilFunc]:=rfl
@[go_sem] theorem aez:k7 Tryz.prog 335=some ([.nilFunc,.nilFunc,.nilFunc],fun j=>some (j*1,1)):=rfl
@[go_sem] theorem aeA:sS Tryz.prog 335=some (some 3,1):=rfl
@[go_sem] theorem aeB:JO Tryz.prog 335=some (3,1,false):=rfl
@[go_sem] theorem call2 (args:List Value):aq Tryz.prog 2 args = .pure (.enter 2 args):=rfl
@[go_sem] theorem call3 (args:List Value):aq Tryz.prog 3 args = .pure (.enter 3 args):=rfl
@[go_sem] theorem call4 (args:List Value):aq Tryz.prog 4 args = .pure (.enter 4 args):=rfl
@[go_sem] theorem call5 (args:List Value):aq Tryz.prog 5 args = .pure (.enter 5 args):=rfl
@[go_sem] theorem call6 (args:List Value):aq Tryz.prog 6 args = .pure (.enter 6 args):=rfl
@[go_sem] theorem call7 (args:List Value):aq Tryz.prog 7 args = .pure (.enter 7 args):=rfl
@[go_sem] theorem call8 (args:List Value):aq Tryz.prog 8 args = .pure (.enter 8 args):=rfl
@[go_sem] theorem call9 (args:List Value):aq Tryz.prog 9 args = .pure (.enter 9 args):=rfl
@[go_sem] theorem call10 (args:List Value):aq Tryz.prog 10 args = .pure (.enter 10 args):=rfl
@[go_sem] theorem call11 (args:List Value):aq Tryz.prog 11 args = .pure (.enter 11 args):=rfl
@[go_sem] theorem call12 (args:List Value):aq Tryz.prog 12 args = .pure (.enter 12 args):=rfl
@[go_sem] theorem call13 (args:List Value):aq Tryz.prog 13 args = .pure (.enter 13 args):=rfl
@[go_sem] theorem call14 (args:List Value):aq Tryz.prog 14 args = .pure (.enter 14 args):=rfl
@[go_sem] theorem call15 (args:List Value):aq Tryz.prog 15 args = .pure (.enter 15 args):=rfl
@[go_sem] theorem call16 (args:List Value):aq Tryz.prog 16 args = .pure (.enter 16 args):=rfl
@[go_sem] theorem call17 (args:List Value):aq Tryz.prog 17 args = .pure (.enter 17 args):=rfl
@[go_sem] theorem call18 (args:List Value):aq Tryz.prog 18 args = .pure (.enter 18 args):=rfl
@[go_sem] theorem call19 (args:List Value):aq Tryz.prog 19 args = .pure (.enter 19 args):=rfl
@[go_sem] theorem call20 (args:List Value):aq Tryz.prog 20 args = .pure (.enter 20 args):=rfl
@[go_sem] theorem call21 (args:List Value):aq Tryz.prog 21 args = .pure (.enter 21 args):=rfl
@[go_sem] theorem call22 (args:List Value):aq Tryz.prog 22 args = .pure (.enter 22 args):=rfl
@[go_sem] theorem call23 (args:List Value):aq Tryz.prog 23 args = .pure (.enter 23 args):=rfl
@[go_sem] theorem call24 (args:List Value):aq Tryz.prog 24 args = .pure (.enter 24 args):=rfl
@[go_sem] theorem call25 (args:List Value):aq Tryz.prog 25 args = .pure (.enter 25 args):=rfl
@[go_sem] theorem call26 (args:List Value):aq Tryz.prog 26 args = .pure (.enter 26 args):=rfl
@[go_sem] theorem call27 (args:List Value):aq Tryz.prog 27 args = .pure (.enter 27 args):=rfl
@[go_sem] theorem call28 (args:List Value):aq Tryz.prog 28 args = .pure (.enter 28 args):=rfl
@[go_sem] theorem call29 (args:List Value):aq Tryz.prog 29 args = .pure (.enter 29 args):=rfl
@[go_sem] theorem call30 (args:List Value):aq Tryz.prog 30 args = .pure (.enter 30 args):=rfl
@[go_sem] theorem call31 (args:List Value):aq Tryz.prog 31 args = .pure (.enter 31 args):=rfl
@[go_sem] theorem call32 (args:List Value):aq Tryz.prog 32 args = .pure (.enter 32 args):=rfl
@[go_sem] theorem call33 (args:List Value):aq Tryz.prog 33 args = .pure (.enter 33 args):=rfl
@[go_sem] theorem call34 (args:List Value):aq Tryz.prog 34 args = .pure (.enter 34 args):=rfl
@[go_sem] theorem call35 (args:List Value):aq Tryz.prog 35 args = .pure (.enter 35 args):=rfl
@[go_sem] theorem call36 (args:List Value):aq Tryz.prog 36 args = .pure (.enter 36 args):=rfl
@[go_sem] theorem call37 (args:List Value):aq Tryz.prog 37 args = .pure (.enter 37 args):=rfl
@[go_sem] theorem call38 (args:List Value):aq Tryz.prog 38 args = .pure (.enter 38 args):=rfl
@[go_sem] theorem call39 (args:List Value):aq Tryz.prog 39 args = .pure (.enter 39 args):=rfl
@[go_sem] theorem call40 (args:List Value):aq Tryz.prog 40 args = .pure (.enter 40 args):=rfl
@[go_sem] theorem call41 (args:List Value):aq Tryz.prog 41 args = .pure (.enter 41 args):=rfl
@[go_sem] theorem call42 (args:List Value):aq Tryz.prog 42 args = .pure (.enter 42 args):=rfl
@[go_sem] theorem call43 (args:List Value):aq Tryz.prog 43 args = .pure (.enter 43 args):=rfl
@[go_sem] theorem call44 (args:List Value):aq Tryz.prog 44 args = .pure (.enter 44 args):=rfl
@[go_sem] theorem call45 (args:List Value):aq Tryz.prog 45 args = .pure (.enter 45 args):=rfl
@[go_sem] theorem call46 (args:List Value):aq Tryz.prog 46 args = .pure (.enter 46 args):=rfl
@[go_sem] theorem call47 (args:List Value):aq Tryz.prog 47 args = .pure (.enter 47 args):=rfl
@[go_sem] theorem call48 (args:List Value):aq Tryz.prog 48 args = .pure (.enter 48 args):=rfl
@[go_sem] theorem call49 (args:List Value):aq Tryz.prog 49 args = .pure (.enter 49 args):=rfl
@[go_sem] theorem call50 (args:List Value):aq Tryz.prog 50 args = .pure (.enter 50 args):=rfl
@[go_sem] theorem call51 (args:List Value):aq Tryz.prog 51 args = .pure (.enter 51 args):=rfl
@[go_sem] theorem call52 (args:List Value):aq Tryz.prog 52 args = .pure (.enter 52 args):=rfl
@[go_sem] theorem call53 (args:List Value):aq Tryz.prog 53 args = .pure (.enter 53 args):=rfl
@[go_sem] theorem call54 (args:List Value):aq Tryz.prog 54 args = .pure (.enter 54 args):=rfl
@[go_sem] theorem call55 (args:List Value):aq Tryz.prog 55 args = .pure (.enter 55 args):=rfl
@[go_sem] theorem call56 (args:List Value):aq Tryz.prog 56 args = .pure (.enter 56 args):=rfl
@[go_sem] theorem call57 (args:List Value):aq Tryz.prog 57 args = .pure (.enter 57 args):=rfl
@[go_sem] theorem call58 (args:List Value):aq Tryz.prog 58 args = .pure (.enter 58 args):=rfl
@[go_sem] theorem call59 (args:List Value):aq Tryz.prog 59 args = .pure (.enter 59 args):=rfl
@[go_sem] theorem call60 (args:List Value):aq Tryz.prog 60 args = .pure (.enter 60 args):=rfl
@[go_sem] theorem call61 (args:List Value):aq Tryz.prog 61 args = .pure (.enter 61 args):=rfl
@[go_sem] theorem call62 (args:List Value):aq Tryz.prog 62 args = .pure (.enter 62 args):=rfl
@[go_sem] theorem call63 (args:List Value):aq Tryz.prog 63 args = .pure (.enter 63 args):=rfl
@[go_sem] theorem call64 (args:List Value):aq Tryz.prog 64 args = .pure (.enter 64 args):=rfl
@[go_sem] theorem call65 (args:List Value):aq Tryz.prog 65 args = .pure (.enter 65 args):=rfl
@[go_sem] theorem call66 (args:List Value):aq Tryz.prog 66 args = .pure (.enter 66 args):=rfl
@[go_sem] theorem call67 (args:List Value):aq Tryz.prog 67 args = .pure (.enter 67 args):=rfl
@[go_sem] theorem call68 (args:List Value):aq Tryz.prog 68 args = .pure (.enter 68 args):=rfl
@[go_sem] theorem call69 (args:List Value):aq Tryz.prog 69 args = .pure (.enter 69 args):=rfl
@[go_sem] theorem call70 (args:List Value):aq Tryz.prog 70 args = .pure (.enter 70 args):=rfl
@[go_sem] theorem call71 (args:List Value):aq Tryz.prog 71 args = .pure (.enter 71 args):=rfl
@[go_sem] theorem call72 (args:List Value):aq Tryz.prog 72 args = .pure (.enter 72 args):=rfl
@[go_sem] theorem call73 (args:List Value):aq Tryz.prog 73 args = .pure (.enter 73 args):=rfl
@[go_sem] theorem call74 (args:List Value):aq Tryz.prog 74 args = .pure (.enter 74 args):=rfl
@[go_sem] theorem call75 (args:List Value):aq Tryz.prog 75 args = .pure (.enter 75 args):=rfl
@[go_sem] theorem call76 (args:List Value):aq Tryz.prog 76 args = .pure (.enter 76 args):=rfl
@[go_sem] theorem call77 (args:List Value):aq Tryz.prog 77 args = .pure (.enter 77 args):=rfl
@[go_sem] theorem call79 (args:List Value):aq Tryz.prog 79 args = .pure (.enter 79 args):=rfl
@[go_sem] theorem call80 (args:List Value):aq Tryz.prog 80 args = .pure (.enter 80 args):=rfl
@[go_sem] theorem call81 (args:List Value):aq Tryz.prog 81 args = .pure (.enter 81 args):=rfl
@[go_sem] theorem call82 (args:List Value):aq Tryz.prog 82 args = .pure (.enter 82 args):=rfl
@[go_sem] theorem call83 (args:List Value):aq Tryz.prog 83 args = .pure (.enter 83 args):=rfl
@[go_sem] theorem call84 (args:List Value):aq Tryz.prog 84 args = .pure (.enter 84 args):=rfl
@[go_sem] theorem call85 (args:List Value):aq Tryz.prog 85 args = .pure (.enter 85 args):=rfl
@[go_sem] theorem call86 (args:List Value):aq Tryz.prog 86 args = .pure (.enter 86 args):=rfl
@[go_sem] theorem call87 (args:List Value):aq Tryz.prog 87 args = .pure (.enter 87 args):=rfl
@[go_sem] theorem call88 (args:List Value):aq Tryz.prog 88 args = .pure (.enter 88 args):=rfl
@[go_sem] theorem call89 (args:List Value):aq Tryz.prog 89 args = .pure (.enter 89 args):=rfl
@[go_sem] theorem call90 (args:List Value):aq Tryz.prog 90 args = .pure (.enter 90 args):=rfl
@[go_sem] theorem call91 (args:List Value):aq Tryz.prog 91 args = .pure (.enter 91 args):=rfl
@[go_sem] theorem call92 (args:List Value):aq Tryz.prog 92 args = .pure (.enter 92 args):=rfl
@[go_sem] theorem call93 (args:List Value):aq Tryz.prog 93 args = .pure (.enter 93 args):=rfl
@[go_sem] theorem call94 (args:List Value):aq Tryz.prog 94 args = .pure (.enter 94 args):=rfl
@[go_sem] theorem call95 (args:List Value):aq Tryz.prog 95 args = .pure (.enter 95 args):=rfl
@[go_sem] theorem call96 (args:List Value):aq Tryz.prog 96 args = .pure (.enter 96 args):=rfl
@[go_sem] theorem call97 (args:List Value):aq Tryz.prog 97 args = .pure (.enter 97 args):=rfl
@[go_sem] theorem call99 (args:List Value):aq Tryz.prog 99 args = .pure (.enter 99 args):=rfl
@[go_sem] theorem call100 (args:List Value):aq Tryz.prog 100 args = .pure (.enter 100 args):=rfl
@[go_sem] theorem call101 (args:List Value):aq Tryz.prog 101 args = .pure (.enter 101 args):=rfl
@[go_sem] theorem call102 (args:List Value):aq Tryz.prog 102 args = .pure (.enter 102 args):=rfl
@[go_sem] theorem call103 (args:List Value):aq Tryz.prog 103 args = .pure (.enter 103 args):=rfl
@[go_sem] theorem call104 (args:List Value):aq Tryz.prog 104 args = .pure (.enter 104 args):=rfl
@[go_sem] theorem call105 (args:List Value):aq Tryz.prog 105 args = .pure (.enter 105 args):=rfl
@[go_sem] theorem call106 (args:List Value):aq Tryz.prog 106 args = .pure (.enter 106 args):=rfl
@[go_sem] theorem call107 (args:List Value):aq Tryz.prog 107 args = .pure (.enter 107 args):=rfl
@[go_sem] theorem call108 (args:List Value):aq Tryz.prog 108 args = .pure (.enter 108 args):=rfl
@[go_sem] theorem call109 (args:List Value):aq Tryz.prog 109 args = .pure (.enter 109 args):=rfl
@[go_sem] theorem call110 (args:List Value):aq Tryz.prog 110 args = .pure (.enter 110 args):=rfl
@[go_sem] theorem call111 (args:List Value):aq Tryz.prog 111 args = .pure (.enter 111 args):=rfl
@[go_sem] theorem call112 (args:List Value):aq Tryz.prog 112 args = .pure (.enter 112 args):=rfl
@[go_sem] theorem call113 (args:List Value):aq Tryz.prog 113 args = .pure (.enter 113 args):=rfl
@[go_sem] theorem call114 (args:List Value):aq Tryz.prog 114 args = .pure (.enter 114 args):=rfl
@[go_sem] theorem call115 (args:List Value):aq Tryz.prog 115 args = .pure (.enter 115 args):=rfl
@[go_sem] theorem call116 (args:List Value):aq Tryz.prog 116 args = .pure (.enter 116 args):=rfl
@[go_sem] theorem call132 (args:List Value):aq Tryz.prog 132 args = .pure (.enter 132 args):=rfl
@[go_sem] theorem call133 (args:List Value):aq Tryz.prog 133 args = .pure (.enter 133 args):=rfl
@[go_sem] theorem call135 (args:List Value):aq Tryz.prog 135 args = .pure (.enter 135 args):=rfl
@[go_sem] theorem call136 (args:List Value):aq Tryz.prog 136 args = .pure (.enter 136 args):=rfl
@[go_sem] theorem call137 (args:List Value):aq Tryz.prog 137 args = .pure (.enter 137 args):=rfl
@[go_sem] theorem call138 (args:List Value):aq Tryz.prog 138 args = .pure (.enter 138 args):=rfl
@[go_sem] theorem call139 (args:List Value):aq Tryz.prog 139 args = .pure (.enter 139 args):=rfl
@[go_sem] theorem call140 (args:List Value):aq Tryz.prog 140 args = .pure (.enter 140 args):=rfl
@[go_sem] theorem call141 (args:List Value):aq Tryz.prog 141 args = .pure (.enter 141 args):=rfl
@[go_sem] theorem call142 (args:List Value):aq Tryz.prog 142 args = .pure (.enter 142 args):=rfl
@[go_sem] theorem call143 (args:List Value):aq Tryz.prog 143 args = .pure (.enter 143 args):=rfl
@[go_sem] theorem call144 (args:List Value):aq Tryz.prog 144 args = .pure (.enter 144 args):=rfl
@[go_sem] theorem call145 (args:List Value):aq Tryz.prog 145 args = .pure (.enter 145 args):=rfl
@[go_sem] theorem call146 (args:List Value):aq Tryz.prog 146 args = .pure (.enter 146 args):=rfl
@[go_sem] theorem call148 (args:List Value):aq Tryz.prog 148 args = .pure (.enter 148 args):=rfl
@[go_sem] theorem call149 (args:List Value):aq Tryz.prog 149 args = .pure (.enter 149 args):=rfl
@[go_sem] theorem call150 (args:List Value):aq Tryz.prog 150 args = .pure (.enter 150 args):=rfl
@[go_sem] theorem call151 (args:List Value):aq Tryz.prog 151 args = .pure (.enter 151 args):=rfl
@[go_sem] theorem call152 (args:List Value):aq Tryz.prog 152 args = .pure (.enter 152 args):=rfl
@[go_sem] theorem call153 (args:List Value):aq Tryz.prog 153 args = .pure (.enter 153 args):=rfl
@[go_sem] theorem call155 (args:List Value):aq Tryz.prog 155 args = .pure (.enter 155 args):=rfl
@[go_sem] theorem call156 (args:List Value):aq Tryz.prog 156 args = .pure (.enter 156 args):=rfl
@[go_sem] theorem call157 (args:List Value):aq Tryz.prog 157 args = .pure (.enter 157 args):=rfl
@[go_sem] theorem call158 (args:List Value):aq Tryz.prog 158 args = .pure (.enter 158 args):=rfl
@[go_sem] theorem call159 (args:List Value):aq Tryz.prog 159 args = .pure (.enter 159 args):=rfl
@[go_sem] theorem call160 (args:List Value):aq Tryz.prog 160 args = .pure (.enter 160 args):=rfl
@[go_sem] theorem call161 (args:List Value):aq Tryz.prog 161 args = .pure (.enter 161 args):=rfl
@[go_sem] theorem call162 (args:List Value):aq Tryz.prog 162 args = .pure (.enter 162 args):=rfl
@[go_sem] theorem call163 (args:List Value):aq Tryz.prog 163 args = .pure (.enter 163 args):=rfl
@[go_sem] theorem call164 (args:List Value):aq Tryz.prog 164 args = .pure (.enter 164 args):=rfl
@[go_sem] theorem call166 (args:List Value):aq Tryz.prog 166 args = .pure (.enter 166 args):=rfl
@[go_sem] theorem call167 (args:List Value):aq Tryz.prog 167 args = .pure (.enter 167 args):=rfl
@[go_sem] theorem call168 (args:List Value):aq Tryz.prog 168 args = .pure (.enter 168 args):=rfl
@[go_sem] theorem call169 (args:List Value):aq Tryz.prog 169 args = .pure (.enter 169 args):=rfl
@[go_sem] theorem call170 (args:List Value):aq Tryz.prog 170 args = .pure (.enter 170 args):=rfl
@[go_sem] theorem call171 (args:List Value):aq Tryz.prog 171 args = .pure (.enter 171 args):=rfl
@[go_sem] theorem call172 (args:List Value):aq Tryz.prog 172 args = .pure (.enter 172 args):=rfl
@[go_sem] theorem call173 (args:List Value):aq Tryz.prog 173 args = .pure (.enter 173 args):=rfl
@[go_sem] theorem call174 (args:List Value):aq Tryz.prog 174 args = .pure (.enter 174 args):=rfl
@[go_sem] theorem call175 (args:List Value):aq Tryz.prog 175 args = .pure (.enter 175 args):=rfl
@[go_sem] theorem call176 (args:List Value):aq Tryz.prog 176 args = .pure (.enter 176 args):=rfl
@[go_sem] theorem call177 (args:List Value):aq Tryz.prog 177 args = .pure (.enter 177 args):=rfl
@[go_sem] theorem call179 (args:List Value):aq Tryz.prog 179 args = .pure (.enter 179 args):=rfl
@[go_sem] theorem call180 (args:List Value):aq Tryz.prog 180 args = .pure (.enter 180 args):=rfl
@[go_sem] theorem call181 (args:List Value):aq Tryz.prog 181 args = .pure (.enter 181 args):=rfl
@[go_sem] theorem call182 (args:List Value):aq Tryz.prog 182 args = .pure (.enter 182 args):=rfl
@[go_sem] theorem call183 (args:List Value):aq Tryz.prog 183 args = .pure (.enter 183 args):=rfl
@[go_sem] theorem call184 (args:List Value):aq Tryz.prog 184 args = .pure (.enter 184 args):=rfl
@[go_sem] theorem call185 (args:List Value):aq Tryz.prog 185 args = .pure (.enter 185 args):=rfl
@[go_sem] theorem call186 (args:List Value):aq Tryz.prog 186 args = .pure (.enter 186 args):=rfl
@[go_sem] theorem call187 (args:List Value):aq Tryz.prog 187 args = .pure (.enter 187 args):=rfl
@[go_sem] theorem call188 (args:List Value):aq Tryz.prog 188 args = .pure (.enter 188 args):=rfl
@[go_sem] theorem call189 (args:List Value):aq Tryz.prog 189 args = .pure (.enter 189 args):=rfl
@[go_sem] theorem call191 (args:List Value):aq Tryz.prog 191 args = .pure (.enter 191 args):=rfl
@[go_sem] theorem call192 (args:List Value):aq Tryz.prog 192 args = .pure (.enter 192 args):=rfl
@[go_sem] theorem call193 (args:List Value):aq Tryz.prog 193 args = .pure (.enter 193 args):=rfl
@[go_sem] theorem call194 (args:List Value):aq Tryz.prog 194 args = .pure (.enter 194 args):=rfl
@[go_sem] theorem call195 (args:List Value):aq Tryz.prog 195 args = .pure (.enter 195 args):=rfl
@[go_sem] theorem call196 (args:List Value):aq Tryz.prog 196 args = .pure (.enter 196 args):=rfl
@[go_sem] theorem call197 (args:List Value):aq Tryz.prog 197 args = .pure (.enter 197 args):=rfl
@[go_sem] theorem call199 (args:List Value):aq Tryz.prog 199 args = .pure (.enter 199 args):=rfl
@[go_sem] theorem call200 (args:List Value):aq Tryz.prog 200 args = .pure (.enter 200 args):=rfl
@[go_sem] theorem call201 (args:List Value):aq Tryz.prog 201 args = .pure (.enter 201 args):=rfl
@[go_sem] theorem call202 (args:List Value):aq Tryz.prog 202 args = .pure (.enter 202 args):=rfl
@[go_sem] theorem call203 (args:List Value):aq Tryz.prog 203 args = .pure (.enter 203 args):=rfl
@[go_sem] theorem call204 (args:List Value):aq Tryz.prog 204 args = .pure (.enter 204 args):=rfl
@[go_sem] theorem call205 (args:List Value):aq Tryz.prog 205 args = .pure (.enter 205 args):=rfl
@[go_sem] theorem call206 (args:List Value):aq Tryz.prog 206 args = .pure (.enter 206 args):=rfl
@[go_sem] theorem call207 (args:List Value):aq Tryz.prog 207 args = .pure (.enter 207 args):=rfl
@[go_sem] theorem call208 (args:List Value):aq Tryz.prog 208 args = .pure (.enter 208 args):=rfl
@[go_sem] theorem call209 (args:List Value):aq Tryz.prog 209 args = .pure (.enter 209 args):=rfl
@[go_sem] theorem call210 (args:List Value):aq Tryz.prog 210 args = .pure (.enter 210 args):=rfl
@[go_sem] theorem call211 (args:List Value):aq Tryz.prog 211 args = .pure (.enter 211 args):=rfl
@[go_sem] theorem call212 (args:List Value):aq Tryz.prog 212 args = .pure (.enter 212 args):=rfl
@[go_sem] theorem call213 (args:List Value):aq Tryz.prog 213 args = .pure (.enter 213 args):=rfl
@[go_sem] theorem call214 (args:List Value):aq Tryz.prog 214 args = .pure (.enter 214 args):=rfl
@[go_sem] theorem call215 (args:List Value):aq Tryz.prog 215 args = .pure (.enter 215 args):=rfl
@[go_sem] theorem call216 (args:List Value):aq Tryz.prog 216 args = .pure (.enter 216 args):=rfl
@[go_sem] theorem call217 (args:List Value):aq Tryz.prog 217 args = .pure (.enter 217 args):=rfl
@[go_sem] theorem call218 (args:List Value):aq Tryz.prog 218 args = .pure (.enter 218 args):=rfl
@[go_sem] theorem call219 (args:List Value):aq Tryz.prog 219 args = .pure (.enter 219 args):=rfl
attribute [go_sem_proc] Nat.reduceLT Nat.reduceAdd Nat.reduceMul Nat.reduceSub Nat.reduceEqDiff Nat.reduceLeDiff Int.reduceToNat Int.reduceLT Int.reduceLE Int.reduceEq Int.reduceNe Int.reduceAdd Int.reduceSub Int.reduceMul Int.reduceNeg reduceCtorEq
attribute [go_sem_proc ↓] reduceIte
@[go_sem] def w4_13:List (Nat×Nat):=[(3,5),(4,5),(9,11),(10,11),(9,12),(10,12),(16,18),(17,18),(16,19),(17,19),(18,19),(16,20),(17,20),(16,21),(17,21),(30,32),(31,32),(30,33),(31,33),(30,34),(31,34),(42,46),(43,46),(44,46),(45,46),(51,53),(52,53),(51,54),(52,54),(51,55),(52,55),(51,56),(52,56),(51,57),(52,57),(51,58),(52,58),(51,59),(52,59),(51,60),(52,60)]
@[go_sem] def w4_29:List (Nat×Nat):=[(0,2),(1,2)]
@[go_sem] def w4_42:List (Nat×Nat):=[(0,1),(0,2),(1,2),(0,3),(0,4),(0,5),(8,9),(16,17),(16,21),(17,21),(18,21),(19,21),(20,21),(16,22),(17,22),(18,22),(19,22),(20,22),(21,22),(16,23),(17,23),(18,23),(19,23),(20,23),(16,24),(17,24),(18,24),(19,24),(20,24),(16,25),(17,25),(18,25),(19,25),(20,25),(21,25),(22,25),(23,25),(24,25),(16,26),(17,26),(18,26),(19,26),(20,26),(16,27),(17,27),(18,27),(19,27),(20,27),(16,28),(17,28),(18,28),(19,28),(20,28)]
@[go_sem] def w4_46:List (Nat×Nat):=[(0,1),(0,2),(5,6),(5,10),(6,10),(7,10),(8,10),(9,10),(5,11),(6,11),(7,11),(8,11),(9,11),(10,11),(5,12),(6,12),(7,12),(8,12),(9,12),(5,13),(6,13),(7,13),(8,13),(9,13),(5,14),(6,14),(7,14),(8,14),(9,14),(18,19),(18,23),(19,23),(20,23),(21,23),(22,23),(18,24),(19,24),(20,24),(21,24),(22,24),(23,24),(18,25),(19,25),(20,25),(21,25),(22,25),(18,26),(19,26),(20,26),(21,26),(22,26),(18,27),(19,27),(20,27),(21,27),(22,27)]
@[go_sem] def w15_12:List (Nat×Nat):=[(0,1),(0,2),(0,3),(0,4),(0,5),(1,5),(2,5),(3,5),(4,5),(0,6),(1,6),(2,6),(3,6),(4,6),(0,7),(1,7),(2,7),(3,7),(4,7),(0,8),(1,8),(2,8),(3,8),(4,8),(0,9),(1,9),(2,9),(3,9),(4,9),(0,10)]
@[go_sem] def w28_11:List (Nat×Nat):=[(0,5),(1,5),(2,5),(3,5),(4,5),(0,6),(1,6),(2,6),(3,6),(4,6),(0,7),(1,7),(2,7),(3,7),(4,7),(0,8),(1,8),(2,8),(3,8),(4,8),(0,9),(1,9),(2,9),(3,9),(4,9)]
@[go_sem] def w29_2:List (Nat×Nat):=[(0,5),(1,5),(2,5),(3,5),(4,5),(0,6),(1,6),(2,6),(3,6),(4,6),(0,7),(1,7),(2,7),(3,7),(4,7),(0,8),(1,8),(2,8),(3,8),(4,8),(0,9),(1,9),(2,9),(3,9),(4,9),(0,10),(1,10),(2,10),(3,10),(4,10)]
@[go_sem] def w29_3:List (Nat×Nat):=[(0,5),(1,5),(2,5),(3,5),(4,5),(0,6),(1,6),(2,6),(3,6),(4,6),(0,7),(1,7),(2,7),(3,7),(4,7),(0,8),(1,8),(2,8),(3,8),(4,8),(0,9),(1,9),(2,9),(3,9),(4,9),(0,12),(1,12),(2,12),(3,12),(4,12),(5,12),(6,12),(7,12),(8,12),(9,12),(10,12),(11,12)]
@[go_sem] def w29_4:List (Nat×Nat):=[(0,4),(1,4),(2,4),(3,4),(0,5),(1,5),(2,5),(3,5)]
@[go_sem] def w58_0:List (Nat×Nat):=[(0,1),(0,2),(0,3),(0,4),(0,5),(1,5),(2,5),(3,5),(4,5),(0,6),(1,6),(2,6),(3,6),(4,6),(0,7),(1,7),(2,7),(3,7),(4,7),(0,8),(1,8),(2,8),(3,8),(4,8),(0,9),(1,9),(2,9),(3,9),(4,9),(5,9),(6,9),(7,9),(8,9),(0,10),(1,10),(2,10),(3,10),(4,10),(5,10),(6,10),(7,10),(8,10),(9,10),(0,11),(1,11),(2,11),(3,11),(4,11),(5,11),(6,11),(7,11),(8,11),(9,11),(10,11),(0,12),(1,12),(2,12),(3,12),(4,12),(0,13),(1,13),(2,13),(3,13),(4,13),(0,14)]
@[go_sem] def w66_11:List (Nat×Nat):=[(0,1),(0,2),(1,2),(0,3),(1,3),(0,4),(1,4),(2,4),(3,4),(0,5),(1,5),(2,5),(3,5)]
@[go_sem] def w95_2:List (Nat×Nat):=[(0,2),(1,2),(0,3),(1,3),(2,4),(3,4)]
@[go_sem] def w136_1:List (Nat×Nat):=[(0,4),(1,4),(2,4),(3,4),(0,5),(1,5),(2,5),(3,5),(4,5),(0,6),(1,6),(2,6),(3,6),(4,6),(0,7),(1,7),(2,7),(3,7),(4,7),(0,8),(1,8),(2,8),(3,8),(4,8),(0,9),(1,9),(2,9),(3,9),(4,9),(5,9),(6,9),(7,9),(8,9),(0,10),(1,10),(2,10),(3,10),(4,10),(0,11),(1,11),(2,11),(3,11),(4,11),(5,11),(6,11),(7,11),(8,11),(9,11),(10,11),(0,12),(1,12),(2,12),(3,12),(4,12),(5,12),(6,12),(7,12),(8,12),(9,12),(10,12),(0,13),(1,13),(2,13),(3,13),(4,13),(5,13),(6,13),(7,13),(8,13),(9,13),(10,13),(0,14),(1,14),(2,14),(3,14),(4,14),(5,14),(6,14),(7,14),(8,14),(9,14),(10,14),(0,15),(1,15),(2,15),(3,15),(4,15),(5,15),(6,15),(7,15),(8,15),(9,15),(10,15),(11,15),(12,15),(13,15),(14,15),(0,16),(1,16),(2,16),(3,16),(4,16),(5,16),(6,16),(7,16),(8,16),(9,16),(10,16),(0,17),(1,17),(2,17),(3,17),(4,17),(5,17),(6,17),(7,17),(8,17),(9,17),(10,17)]
@[go_sem] def w139_1:List (Nat×Nat):=[(0,4),(1,4),(2,4),(3,4),(0,5),(1,5),(2,5),(3,5),(0,6),(1,6),(2,6),(3,6),(0,7),(1,7),(2,7),(3,7),(0,8),(1,8),(2,8),(3,8),(4,8),(5,8),(6,8),(7,8),(0,9),(1,9),(2,9),(3,9),(4,9),(5,9),(6,9),(7,9),(0,10),(1,10),(2,10),(3,10),(4,10),(5,10),(6,10),(7,10),(0,11),(1,11),(2,11),(3,11),(4,11),(5,11),(6,11),(7,11)]
@[go_sem] def w139_2:List (Nat×Nat):=[(0,7),(1,7),(2,7),(3,7),(4,7),(5,7),(6,7),(0,8),(1,8),(2,8),(3,8),(4,8),(5,8),(6,8),(0,9),(1,9),(2,9),(3,9),(4,9),(5,9),(6,9),(0,10),(1,10),(2,10),(3,10),(4,10),(5,10),(6,10)]
@[go_sem] def w143_2:List (Nat×Nat):=[(0,4),(1,4),(2,4),(3,4),(0,5),(1,5),(2,5),(3,5),(0,6),(1,6),(2,6),(3,6),(0,7),(1,7),(2,7),(3,7),(0,8),(1,8),(2,8),(3,8),(0,9),(1,9),(2,9),(3,9),(0,10),(1,10),(2,10),(3,10),(0,11),(1,11),(2,11),(3,11)]
@[go_sem] def w156_1:List (Nat×Nat):=[(0,4),(1,4),(2,4),(3,4),(0,5),(1,5),(2,5),(3,5),(4,5),(0,6),(1,6),(2,6),(3,6),(4,6),(0,7),(1,7),(2,7),(3,7),(4,7),(0,8),(1,8),(2,8),(3,8),(4,8),(0,9),(1,9),(2,9),(3,9),(4,9),(5,9),(6,9),(7,9),(8,9),(0,10),(1,10),(2,10),(3,10),(4,10),(0,11),(1,11),(2,11),(3,11),(4,11),(5,11),(6,11),(7,11),(8,11),(9,11),(10,11),(0,12),(1,12),(2,12),(3,12),(4,12),(5,12),(6,12),(7,12),(8,12),(9,12),(10,12),(0,13),(1,13),(2,13),(3,13),(4,13),(5,13),(6,13),(7,13),(8,13),(9,13),(10,13),(0,14),(1,14),(2,14),(3,14),(4,14),(5,14),(6,14),(7,14),(8,14),(9,14),(10,14),(0,15),(1,15),(2,15),(3,15),(4,15),(5,15),(6,15),(7,15),(8,15),(9,15),(10,15),(11,15),(12,15),(13,15),(14,15),(0,16),(1,16),(2,16),(3,16),(4,16),(5,16),(6,16),(7,16),(8,16),(9,16),(10,16),(0,17),(1,17),(2,17),(3,17),(4,17),(5,17),(6,17),(7,17),(8,17),(9,17),(10,17),(0,18),(1,18),(2,18),(3,18),(4,18),(5,18),(6,18),(7,18),(8,18),(9,18),(10,18)]
@[go_sem] def w163_12:List (Nat×Nat):=[(0,4),(1,4),(2,4),(3,4),(0,5),(1,5),(2,5),(3,5),(4,5),(0,6),(1,6),(2,6),(3,6),(4,6),(5,6),(0,7),(1,7),(2,7),(3,7),(4,7),(0,8),(1,8),(2,8),(3,8),(4,8),(5,8),(6,8),(7,8)]
@[go_sem] def w164_7:List (Nat×Nat):=[(0,4),(1,4),(2,4),(3,4),(0,5),(1,5),(2,5),(3,5),(4,5),(0,6),(1,6),(2,6),(3,6),(4,6),(0,7),(1,7),(2,7),(3,7),(4,7),(0,8),(1,8),(2,8),(3,8),(4,8)]
@[go_sem] def w173_3:List (Nat×Nat):=[(0,1),(0,2),(0,3),(0,4),(0,5),(0,6),(0,7),(0,8),(1,8),(2,8),(3,8),(4,8),(5,8),(6,8),(7,8),(0,9),(1,9),(2,9),(3,9),(4,9),(5,9),(6,9),(7,9),(0,10),(1,10),(2,10),(3,10),(4,10),(5,10),(6,10),(7,10),(0,11),(1,11),(2,11),(3,11),(4,11),(5,11),(6,11),(7,11),(0,12),(1,12),(2,12),(3,12),(4,12),(5,12),(6,12),(7,12),(8,12),(9,12),(10,12),(11,12),(0,13),(1,13),(2,13),(3,13),(4,13),(5,13),(6,13),(7,13),(8,13),(9,13),(10,13),(11,13),(0,14),(1,14),(2,14),(3,14),(4,14),(5,14),(6,14),(7,14),(8,14),(9,14),(10,14),(11,14),(0,15),(0,16),(0,17),(0,18),(17,18),(18,19),(18,20),(18,21)]
@[go_sem] def w176_1:List (Nat×Nat):=[(0,4),(1,4),(2,4),(3,4),(0,5),(1,5),(2,5),(3,5),(0,6),(1,6),(2,6),(3,6),(0,7),(1,7),(2,7),(3,7),(0,8),(1,8),(2,8),(3,8),(0,9),(1,9),(2,9),(3,9)]
@[go_sem] def w180_1:List (Nat×Nat):=[(0,4),(1,4),(2,4),(3,4),(0,5),(1,5),(2,5),(3,5),(0,6),(1,6),(2,6),(3,6),(0,7),(1,7),(2,7),(3,7),(0,8),(1,8),(2,8),(3,8),(4,8),(5,8),(6,8),(7,8),(0,9),(1,9),(2,9),(3,9),(4,9),(5,9),(6,9),(7,9),(0,10),(1,10),(2,10),(3,10),(4,10),(5,10),(6,10),(7,10),(0,11),(1,11),(2,11),(3,11),(4,11),(5,11),(6,11),(7,11),(0,12),(1,12),(2,12),(3,12),(4,12),(5,12),(6,12),(7,12),(8,12),(9,12),(10,12),(11,12),(0,13),(1,13),(2,13),(3,13),(4,13),(5,13),(6,13),(7,13),(8,13),(9,13),(10,13),(11,13),(0,14),(1,14),(2,14),(3,14),(4,14),(5,14),(6,14),(7,14),(8,14),(9,14),(10,14),(11,14),(0,15),(1,15),(2,15),(3,15),(4,15),(5,15),(6,15),(7,15),(8,15),(9,15),(10,15),(11,15),(0,16),(1,16),(2,16),(3,16),(4,16),(5,16),(6,16),(7,16),(8,16),(9,16),(10,16),(11,16),(0,17),(1,17),(2,17),(3,17),(4,17),(5,17),(6,17),(7,17),(8,17),(9,17),(10,17),(11,17),(20,21),(21,22)]
@[go_sem] def w180_6:List (Nat×Nat):=[(0,5),(1,5),(2,5),(3,5),(4,5)]
@[go_sem] def w182_1:List (Nat×Nat):=[(0,1),(0,2),(0,3),(0,4),(0,5),(0,6),(0,7),(0,8),(1,8),(2,8),(3,8),(4,8),(5,8),(6,8),(7,8),(0,9),(1,9),(2,9),(3,9),(4,9),(5,9),(6,9),(7,9),(0,10),(1,10),(2,10),(3,10),(4,10),(5,10),(6,10),(7,10),(0,11),(1,11),(2,11),(3,11),(4,11),(5,11),(6,11),(7,11),(0,12),(1,12),(2,12),(3,12),(4,12),(5,12),(6,12),(7,12),(8,12),(9,12),(10,12),(11,12),(0,13),(1,13),(2,13),(3,13),(4,13),(5,13),(6,13),(7,13),(8,13),(9,13),(10,13),(11,13),(0,14),(1,14),(2,14),(3,14),(4,14),(5,14),(6,14),(7,14),(8,14),(9,14),(10,14),(11,14),(0,15),(0,16),(0,17),(0,18),(17,18),(18,19),(18,20),(18,21)]
@[go_sem] def w184_2:List (Nat×Nat):=[(0,4),(1,4),(2,4),(3,4),(0,5),(1,5),(2,5),(3,5),(0,6),(1,6),(2,6),(3,6),(0,7),(1,7),(2,7),(3,7)]
@[go_sem] def w188_1:List (Nat×Nat):=[(0,7),(1,7),(2,7),(3,7),(4,7),(5,7),(6,7),(0,8),(1,8),(2,8),(3,8),(4,8),(5,8),(6,8),(0,9),(1,9),(2,9),(3,9),(4,9),(5,9),(6,9),(0,10),(1,10),(2,10),(3,10),(4,10),(5,10),(6,10),(0,11),(1,11),(2,11),(3,11),(4,11),(5,11),(6,11),(7,11),(8,11),(9,11),(10,11),(0,12),(1,12),(2,12),(3,12),(4,12),(5,12),(6,12),(7,12),(8,12),(9,12),(10,12),(0,13),(1,13),(2,13),(3,13),(4,13),(5,13),(6,13),(7,13),(8,13),(9,13),(10,13),(11,13),(12,13),(0,14),(1,14),(2,14),(3,14),(4,14),(5,14),(6,14),(7,14),(8,14),(9,14),(10,14),(11,14),(12,14),(0,15),(1,15),(2,15),(3,15),(4,15),(5,15),(6,15),(7,15),(8,15),(9,15),(10,15),(11,15),(12,15),(0,16),(1,16),(2,16),(3,16),(4,16),(5,16),(6,16),(7,16),(8,16),(9,16),(10,16),(19,20),(20,21)]
@[go_sem] def w189_1:List (Nat×Nat):=[(0,7),(1,7),(2,7),(3,7),(4,7),(5,7),(6,7),(0,8),(1,8),(2,8),(3,8),(4,8),(5,8),(6,8),(0,9),(1,9),(2,9),(3,9),(4,9),(5,9),(6,9),(0,10),(1,10),(2,10),(3,10),(4,10),(5,10),(6,10),(0,11),(1,11),(2,11),(3,11),(4,11),(5,11),(6,11),(7,11),(8,11),(9,11),(10,11),(0,12),(1,12),(2,12),(3,12),(4,12),(5,12),(6,12),(7,12),(8,12),(9,12),(10,12),(0,13),(1,13),(2,13),(3,13),(4,13),(5,13),(6,13),(7,13),(8,13),(9,13),(10,13),(0,14),(1,14),(2,14),(3,14),(4,14),(5,14),(6,14),(7,14),(8,14),(9,14),(10,14),(11,14),(12,14),(13,14),(0,15),(1,15),(2,15),(3,15),(4,15),(5,15),(6,15),(7,15),(8,15),(9,15),(10,15),(11,15),(12,15),(13,15),(0,16),(1,16),(2,16),(3,16),(4,16),(5,16),(6,16),(7,16),(8,16),(9,16),(10,16),(11,16),(12,16),(13,16),(0,17),(1,17),(2,17),(3,17),(4,17),(5,17),(6,17),(7,17),(8,17),(9,17),(10,17),(11,17),(12,17),(13,17),(0,18),(1,18),(2,18),(3,18),(4,18),(5,18),(6,18),(7,18),(8,18),(9,18),(10,18),(11,18),(12,18),(13,18),(0,19),(1,19),(2,19),(3,19),(4,19),(5,19),(6,19),(7,19),(8,19),(9,19),(10,19),(11,19),(12,19),(13,19)]
@[go_sem] def w192_1:List (Nat×Nat):=[(0,7),(1,7),(2,7),(3,7),(4,7),(5,7),(6,7),(0,8),(1,8),(2,8),(3,8),(4,8),(5,8),(6,8),(0,9),(1,9),(2,9),(3,9),(4,9),(5,9),(6,9),(0,10),(1,10),(2,10),(3,10),(4,10),(5,10),(6,10),(0,11),(1,11),(2,11),(3,11),(4,11),(5,11),(6,11),(7,11),(8,11),(9,11),(10,11),(0,12),(1,12),(2,12),(3,12),(4,12),(5,12),(6,12),(7,12),(8,12),(9,12),(10,12),(0,13),(1,13),(2,13),(3,13),(4,13),(5,13),(6,13),(7,13),(8,13),(9,13),(10,13)]
@[go_sem] def w202_3:List (Nat×Nat):=[(0,7),(1,7),(2,7),(3,7),(4,7),(5,7),(6,7),(0,8),(1,8),(2,8),(3,8),(4,8),(5,8),(6,8),(0,9),(1,9),(2,9),(3,9),(4,9),(5,9),(6,9),(0,10),(1,10),(2,10),(3,10),(4,10),(5,10),(6,10),(0,11),(1,11),(2,11),(3,11),(4,11),(5,11),(6,11),(7,11),(8,11),(9,11),(10,11),(0,12),(1,12),(2,12),(3,12),(4,12),(5,12),(6,12),(7,12),(8,12),(9,12),(10,12),(0,13),(1,13),(2,13),(3,13),(4,13),(5,13),(6,13),(7,13),(8,13),(9,13),(10,13),(0,14),(1,14),(2,14),(3,14),(4,14),(5,14),(6,14),(7,14),(8,14),(9,14),(10,14),(0,15),(1,15),(2,15),(3,15),(4,15),(5,15),(6,15),(7,15),(8,15),(9,15),(10,15),(0,16),(1,16),(2,16),(3,16),(4,16),(5,16),(6,16),(7,16),(8,16),(9,16),(10,16),(0,17),(1,17),(2,17),(3,17),(4,17),(5,17),(6,17),(7,17),(8,17),(9,17),(10,17),(0,18),(1,18),(2,18),(3,18),(4,18),(5,18),(6,18),(7,18),(8,18),(9,18),(10,18),(11,18),(12,18),(13,18),(14,18),(15,18),(16,18),(17,18),(0,19),(1,19),(2,19),(3,19),(4,19),(5,19),(6,19),(7,19),(8,19),(9,19),(10,19),(11,19),(12,19),(13,19),(14,19),(15,19),(16,19),(17,19),(0,20),(1,20),(2,20),(3,20),(4,20),(5,20),(6,20),(7,20),(8,20),(9,20),(10,20),(11,20),(12,20),(13,20),(14,20),(15,20),(16,20),(17,20),(0,21),(1,21),(2,21),(3,21),(4,21),(5,21),(6,21),(7,21),(8,21),(9,21),(10,21),(11,21),(12,21),(13,21),(14,21),(15,21),(16,21),(17,21),(0,22),(1,22),(2,22),(3,22),(4,22),(5,22),(6,22),(7,22),(8,22),(9,22),(10,22),(25,26),(26,27)]
@[go_sem] def w202_5:List (Nat×Nat):=[(0,5),(1,5),(2,5),(3,5),(4,5)]
@[go_sem] def w204_6:List (Nat×Nat):=[(0,1),(0,2),(0,3),(0,4),(0,5),(1,6),(2,6),(3,6),(4,6),(5,6)]
@[go_sem] def w206_1:List (Nat×Nat):=[(0,7),(1,7),(2,7),(3,7),(4,7),(5,7),(6,7),(0,8),(1,8),(2,8),(3,8),(4,8),(5,8),(6,8),(0,9),(1,9),(2,9),(3,9),(4,9),(5,9),(6,9),(0,10),(1,10),(2,10),(3,10),(4,10),(5,10),(6,10),(0,11),(1,11),(2,11),(3,11),(4,11),(5,11),(6,11),(7,11),(8,11),(9,11),(10,11),(0,12),(1,12),(2,12),(3,12),(4,12),(5,12),(6,12),(7,12),(8,12),(9,12),(10,12),(0,13),(1,13),(2,13),(3,13),(4,13),(5,13),(6,13),(7,13),(8,13),(9,13),(10,13),(0,14),(1,14),(2,14),(3,14),(4,14),(5,14),(6,14),(7,14),(8,14),(9,14),(10,14),(0,15),(1,15),(2,15),(3,15),(4,15),(5,15),(6,15),(7,15),(8,15),(9,15),(10,15),(0,16),(1,16),(2,16),(3,16),(4,16),(5,16),(6,16),(7,16),(8,16),(9,16),(10,16),(0,17),(1,17),(2,17),(3,17),(4,17),(5,17),(6,17),(7,17),(8,17),(9,17),(10,17),(0,18),(1,18),(2,18),(3,18),(4,18),(5,18),(6,18),(7,18),(8,18),(9,18),(10,18),(11,18),(12,18),(13,18),(14,18),(15,18),(16,18),(17,18),(0,19),(1,19),(2,19),(3,19),(4,19),(5,19),(6,19),(7,19),(8,19),(9,19),(10,19),(11,19),(12,19),(13,19),(14,19),(15,19),(16,19),(17,19),(0,20),(1,20),(2,20),(3,20),(4,20),(5,20),(6,20),(7,20),(8,20),(9,20),(10,20),(11,20),(12,20),(13,20),(14,20),(15,20),(16,20),(17,20),(0,21),(1,21),(2,21),(3,21),(4,21),(5,21),(6,21),(7,21),(8,21),(9,21),(10,21),(11,21),(12,21),(13,21),(14,21),(15,21),(16,21),(17,21),(0,22),(1,22),(2,22),(3,22),(4,22),(5,22),(6,22),(7,22),(8,22),(9,22),(10,22),(0,23),(1,23),(2,23),(3,23),(4,23),(5,23),(6,23),(7,23),(8,23),(9,23),(10,23),(0,24),(1,24),(2,24),(3,24),(4,24),(5,24),(6,24),(7,24),(8,24),(9,24),(10,24),(11,24),(12,24),(13,24),(14,24),(15,24),(16,24),(17,24),(18,24),(19,24),(20,24),(21,24),(22,24),(23,24),(0,25),(1,25),(2,25),(3,25),(4,25),(5,25),(6,25),(7,25),(8,25),(9,25),(10,25),(11,25),(12,25),(13,25),(14,25),(15,25),(16,25),(17,25),(18,25),(19,25),(20,25),(21,25),(22,25),(23,25),(0,26),(1,26),(2,26),(3,26),(4,26),(5,26),(6,26),(7,26),(8,26),(9,26),(10,26),(11,26),(12,26),(13,26),(14,26),(15,26),(16,26),(17,26),(18,26),(19,26),(20,26),(21,26),(22,26),(23,26),(0,27),(1,27),(2,27),(3,27),(4,27),(5,27),(6,27),(7,27),(8,27),(9,27),(10,27),(11,27),(12,27),(13,27),(14,27),(15,27),(16,27),(17,27),(18,27),(19,27),(20,27),(21,27),(22,27),(23,27),(0,28),(1,28),(2,28),(3,28),(4,28),(5,28),(6,28),(7,28),(8,28),(9,28),(10,28),(11,28),(12,28),(13,28),(14,28),(15,28),(16,28),(17,28),(18,28),(19,28),(20,28),(21,28),(22,28),(23,28)]
@[go_sem] def w207_1:List (Nat×Nat):=[(0,4),(1,4),(2,4),(3,4),(0,5),(1,5),(2,5),(3,5),(0,6),(1,6),(2,6),(3,6),(0,7),(1,7),(2,7),(3,7),(0,8),(1,8),(2,8),(3,8),(4,8),(5,8),(6,8),(7,8),(0,9),(1,9),(2,9),(3,9),(4,9),(5,9),(6,9),(7,9),(0,10),(1,10),(2,10),(3,10),(4,10),(5,10),(6,10),(7,10),(0,11),(1,11),(2,11),(3,11),(4,11),(5,11),(6,11),(7,11)]
@[go_sem] def w207_2:List (Nat×Nat):=[(0,7),(1,7),(2,7),(3,7),(4,7),(5,7),(6,7),(0,8),(1,8),(2,8),(3,8),(4,8),(5,8),(6,8),(0,9),(1,9),(2,9),(3,9),(4,9),(5,9),(6,9),(0,10),(1,10),(2,10),(3,10),(4,10),(5,10),(6,10)]
@[go_sem] def w209_5:List (Nat×Nat):=[(0,1),(0,2),(0,3),(0,4),(0,5),(1,6),(2,6),(3,6),(4,6),(5,6)]
@[go_sem] def w210_2:List (Nat×Nat):=[(0,4),(1,4),(2,4),(3,4),(0,5),(1,5),(2,5),(3,5),(0,6),(1,6),(2,6),(3,6),(0,7),(1,7),(2,7),(3,7),(0,8),(1,8),(2,8),(3,8),(0,9),(1,9),(2,9),(3,9),(0,10),(1,10),(2,10),(3,10),(0,11),(1,11),(2,11),(3,11)]
@[go_sem] def w211_1:List (Nat×Nat):=[(0,1),(0,2),(0,3),(0,4),(0,5),(0,6),(0,7),(0,8),(1,8),(2,8),(3,8),(4,8),(5,8),(6,8),(7,8),(0,9),(1,9),(2,9),(3,9),(4,9),(5,9),(6,9),(7,9),(0,10),(1,10),(2,10),(3,10),(4,10),(5,10),(6,10),(7,10),(0,11),(1,11),(2,11),(3,11),(4,11),(5,11),(6,11),(7,11),(0,12),(1,12),(2,12),(3,12),(4,12),(5,12),(6,12),(7,12),(8,12),(9,12),(10,12),(11,12),(0,13),(1,13),(2,13),(3,13),(4,13),(5,13),(6,13),(7,13),(8,13),(9,13),(10,13),(11,13),(0,14),(1,14),(2,14),(3,14),(4,14),(5,14),(6,14),(7,14),(8,14),(9,14),(10,14),(11,14),(0,15),(1,15),(2,15),(3,15),(4,15),(5,15),(6,15),(7,15),(8,15),(9,15),(10,15),(11,15),(0,16),(1,16),(2,16),(3,16),(4,16),(5,16),(6,16),(7,16),(8,16),(9,16),(10,16),(11,16),(0,17),(1,17),(2,17),(3,17),(4,17),(5,17),(6,17),(7,17),(8,17),(9,17),(10,17),(11,17),(0,18),(1,18),(2,18),(3,18),(4,18),(5,18),(6,18),(7,18),(8,18),(9,18),(10,18),(11,18),(0,19),(1,19),(2,19),(3,19),(4,19),(5,19),(6,19),(7,19),(8,19),(9,19),(10,19),(11,19),(12,19),(13,19),(14,19),(15,19),(16,19),(17,19),(18,19),(0,20),(1,20),(2,20),(3,20),(4,20),(5,20),(6,20),(7,20),(8,20),(9,20),(10,20),(11,20),(12,20),(13,20),(14,20),(15,20),(16,20),(17,20),(18,20),(0,21),(1,21),(2,21),(3,21),(4,21),(5,21),(6,21),(7,21),(8,21),(9,21),(10,21),(11,21),(12,21),(13,21),(14,21),(15,21),(16,21),(17,21),(18,21),(0,22),(1,22),(2,22),(3,22),(4,22),(5,22),(6,22),(7,22),(8,22),(9,22),(10,22),(11,22),(12,22),(13,22),(14,22),(15,22),(16,22),(17,22),(18,22),(0,23),(1,23),(2,23),(3,23),(4,23),(5,23),(6,23),(7,23),(8,23),(9,23),(10,23),(11,23),(0,24),(0,25),(0,26),(0,27),(26,27),(27,28),(27,29),(27,30)]
@[go_sem] def w212_1:List (Nat×Nat):=[(0,7),(1,7),(2,7),(3,7),(4,7),(5,7),(6,7),(0,8),(1,8),(2,8),(3,8),(4,8),(5,8),(6,8),(0,9),(1,9),(2,9),(3,9),(4,9),(5,9),(6,9),(0,10),(1,10),(2,10),(3,10),(4,10),(5,10),(6,10),(0,11),(1,11),(2,11),(3,11),(4,11),(5,11),(6,11),(7,11),(8,11),(9,11),(10,11),(0,12),(1,12),(2,12),(3,12),(4,12),(5,12),(6,12),(7,12),(8,12),(9,12),(10,12),(0,13),(1,13),(2,13),(3,13),(4,13),(5,13),(6,13),(7,13),(8,13),(9,13),(10,13),(0,14),(1,14),(2,14),(3,14),(4,14),(5,14),(6,14),(7,14),(8,14),(9,14),(10,14),(0,15),(1,15),(2,15),(3,15),(4,15),(5,15),(6,15),(7,15),(8,15),(9,15),(10,15),(0,16),(1,16),(2,16),(3,16),(4,16),(5,16),(6,16),(7,16),(8,16),(9,16),(10,16),(0,17),(1,17),(2,17),(3,17),(4,17),(5,17),(6,17),(7,17),(8,17),(9,17),(10,17),(0,18),(1,18),(2,18),(3,18),(4,18),(5,18),(6,18),(7,18),(8,18),(9,18),(10,18),(11,18),(12,18),(13,18),(14,18),(15,18),(16,18),(17,18),(0,19),(1,19),(2,19),(3,19),(4,19),(5,19),(6,19),(7,19),(8,19),(9,19),(10,19),(11,19),(12,19),(13,19),(14,19),(15,19),(16,19),(17,19),(0,20),(1,20),(2,20),(3,20),(4,20),(5,20),(6,20),(7,20),(8,20),(9,20),(10,20),(11,20),(12,20),(13,20),(14,20),(15,20),(16,20),(17,20),(0,21),(1,21),(2,21),(3,21),(4,21),(5,21),(6,21),(7,21),(8,21),(9,21),(10,21),(11,21),(12,21),(13,21),(14,21),(15,21),(16,21),(17,21),(0,22),(1,22),(2,22),(3,22),(4,22),(5,22),(6,22),(7,22),(8,22),(9,22),(10,22),(0,23),(1,23),(2,23),(3,23),(4,23),(5,23),(6,23),(7,23),(8,23),(9,23),(10,23),(26,27),(27,28)]
@[go_sem] def w213_1:List (Nat×Nat):=[(0,7),(1,7),(2,7),(3,7),(4,7),(5,7),(6,7),(0,8),(1,8),(2,8),(3,8),(4,8),(5,8),(6,8),(0,9),(1,9),(2,9),(3,9),(4,9),(5,9),(6,9),(0,10),(1,10),(2,10),(3,10),(4,10),(5,10),(6,10),(0,11),(1,11),(2,11),(3,11),(4,11),(5,11),(6,11),(7,11),(8,11),(9,11),(10,11),(0,12),(1,12),(2,12),(3,12),(4,12),(5,12),(6,12),(7,12),(8,12),(9,12),(10,12),(0,13),(1,13),(2,13),(3,13),(4,13),(5,13),(6,13),(7,13),(8,13),(9,13),(10,13),(0,14),(1,14),(2,14),(3,14),(4,14),(5,14),(6,14),(7,14),(8,14),(9,14),(10,14),(0,15),(1,15),(2,15),(3,15),(4,15),(5,15),(6,15),(7,15),(8,15),(9,15),(10,15),(0,16),(1,16),(2,16),(3,16),(4,16),(5,16),(6,16),(7,16),(8,16),(9,16),(10,16),(0,17),(1,17),(2,17),(3,17),(4,17),(5,17),(6,17),(7,17),(8,17),(9,17),(10,17),(0,18),(1,18),(2,18),(3,18),(4,18),(5,18),(6,18),(7,18),(8,18),(9,18),(10,18),(11,18),(12,18),(13,18),(14,18),(15,18),(16,18),(17,18),(0,19),(1,19),(2,19),(3,19),(4,19),(5,19),(6,19),(7,19),(8,19),(9,19),(10,19),(11,19),(12,19),(13,19),(14,19),(15,19),(16,19),(17,19),(0,20),(1,20),(2,20),(3,20),(4,20),(5,20),(6,20),(7,20),(8,20),(9,20),(10,20),(11,20),(12,20),(13,20),(14,20),(15,20),(16,20),(17,20),(0,21),(1,21),(2,21),(3,21),(4,21),(5,21),(6,21),(7,21),(8,21),(9,21),(10,21),(11,21),(12,21),(13,21),(14,21),(15,21),(16,21),(17,21),(0,22),(1,22),(2,22),(3,22),(4,22),(5,22),(6,22),(7,22),(8,22),(9,22),(10,22),(25,26),(26,27)]
@[go_sem] def w216_4:List (Nat×Nat):=[(0,4),(1,4),(2,4),(3,4),(0,5),(1,5),(2,5),(3,5),(0,6),(1,6),(2,6),(3,6),(0,7),(1,7),(2,7),(3,7),(0,8),(1,8),(2,8),(3,8),(4,8),(5,8),(6,8),(7,8),(0,9),(1,9),(2,9),(3,9),(4,9),(5,9),(6,9),(7,9),(0,10),(1,10),(2,10),(3,10),(4,10),(5,10),(6,10),(7,10),(0,11),(1,11),(2,11),(3,11),(4,11),(5,11),(6,11),(7,11),(0,12),(1,12),(2,12),(3,12),(4,12),(5,12),(6,12),(7,12),(15,16),(16,17)]
@[go_sem] def w216_5:List (Nat×Nat):=[(0,4),(1,4),(2,4),(3,4),(0,5),(1,5),(2,5),(3,5),(4,5),(0,6),(1,6),(2,6),(3,6),(4,6),(0,7),(1,7),(2,7),(3,7),(4,7),(0,8),(1,8),(2,8),(3,8),(5,8),(6,8),(7,8),(0,9),(1,9),(2,9),(3,9),(5,9),(6,9),(7,9),(0,10),(1,10),(2,10),(3,10),(0,11),(1,11),(2,11),(3,11)]
@[go_sem] def w216_7:List (Nat×Nat):=[(0,4),(1,4),(2,4),(3,4),(0,5),(1,5),(2,5),(3,5),(0,6),(1,6),(2,6),(3,6),(0,7),(1,7),(2,7),(3,7),(0,8),(1,8),(2,8),(3,8),(4,8),(5,8),(6,8),(7,8),(0,9),(1,9),(2,9),(3,9),(4,9),(5,9),(6,9),(7,9),(0,10),(1,10),(2,10),(3,10),(4,10),(5,10),(6,10),(7,10),(0,11),(1,11),(2,11),(3,11),(4,11),(5,11),(6,11),(7,11),(0,12),(1,12),(2,12),(3,12),(4,12),(5,12),(6,12),(7,12),(0,13),(1,13),(2,13),(3,13),(4,13),(5,13),(6,13),(7,13),(0,14),(1,14),(2,14),(3,14),(4,14),(5,14),(6,14),(7,14)]
@[go_sem] def w218_5:List (Nat×Nat):=[(0,1),(0,2),(0,3),(0,4),(0,5),(0,6),(1,7),(2,7),(3,7),(4,7),(5,7),(6,7)]
attribute [go_sem] Tryz.results3 Tryz.results4 Tryz.results7 Tryz.results8 Tryz.results9 Tryz.results11 Tryz.results12 Tryz.results13 Tryz.results14 Tryz.results15 Tryz.results18 Tryz.results23 Tryz.results25 Tryz.results26 Tryz.results27 Tryz.results28 Tryz.results29 Tryz.results30 Tryz.results31 Tryz.results32 Tryz.results33 Tryz.results34 Tryz.results35 Tryz.results51 Tryz.results52 Tryz.results53 Tryz.results54 Tryz.results55 Tryz.results56 Tryz.results57 Tryz.results58 Tryz.results59 Tryz.results60 Tryz.results61 Tryz.results62 Tryz.results63 Tryz.results64 Tryz.results65 Tryz.results66 Tryz.results67 Tryz.results68 Tryz.results69 Tryz.results70 Tryz.results71 Tryz.results77 Tryz.results79 Tryz.results80 Tryz.results85 Tryz.results86 Tryz.results89 Tryz.results90 Tryz.results95 Tryz.results132 Tryz.results133 Tryz.results135 Tryz.results136 Tryz.results137 Tryz.results138 Tryz.results139 Tryz.results140 Tryz.results141 Tryz.results142 Tryz.results143 Tryz.results144 Tryz.results145 Tryz.results146 Tryz.results148 Tryz.results149 Tryz.results150 Tryz.results151 Tryz.results152 Tryz.results153 Tryz.results155 Tryz.results156 Tryz.results157 Tryz.results158 Tryz.results159 Tryz.results160 Tryz.results161 Tryz.results162 Tryz.results163 Tryz.results164 Tryz.results166 Tryz.results167 Tryz.results168 Tryz.results169 Tryz.results170 Tryz.results171 Tryz.results172 Tryz.results173 Tryz.results174 Tryz.results175 Tryz.results176 Tryz.results177 Tryz.results179 Tryz.results180 Tryz.results181 Tryz.results182 Tryz.results183 Tryz.results184 Tryz.results185 Tryz.results186 Tryz.results187 Tryz.results188 Tryz.results189 Tryz.results191 Tryz.results192 Tryz.results193 Tryz.results194 Tryz.results195 Tryz.results196 Tryz.results197 Tryz.results199 Tryz.results200 Tryz.results201 Tryz.results202 Tryz.results203 Tryz.results204 Tryz.results205 Tryz.results206 Tryz.results207 Tryz.results208 Tryz.results209 Tryz.results210 Tryz.results211 Tryz.results212 Tryz.results213 Tryz.results214 Tryz.results215 Tryz.results216 Tryz.results217 Tryz.results218
attribute [go_sem] Tryz.ntmps3 Tryz.ntmps4 Tryz.ntmps7 Tryz.ntmps8 Tryz.ntmps9 Tryz.ntmps11 Tryz.ntmps12 Tryz.ntmps13 Tryz.ntmps14 Tryz.ntmps15 Tryz.ntmps18 Tryz.ntmps23 Tryz.ntmps25 Tryz.ntmps26 Tryz.ntmps27 Tryz.ntmps28 Tryz.ntmps29 Tryz.ntmps30 Tryz.ntmps31 Tryz.ntmps32 Tryz.ntmps33 Tryz.ntmps34 Tryz.ntmps35 Tryz.ntmps51 Tryz.ntmps52 Tryz.ntmps53 Tryz.ntmps54 Tryz.ntmps55 Tryz.ntmps56 Tryz.ntmps57 Tryz.ntmps58 Tryz.ntmps59 Tryz.ntmps60 Tryz.ntmps61 Tryz.ntmps62 Tryz.ntmps63 Tryz.ntmps64 Tryz.ntmps65 Tryz.ntmps66 Tryz.ntmps67 Tryz.ntmps68 Tryz.ntmps69 Tryz.ntmps70 Tryz.ntmps71 Tryz.ntmps77 Tryz.ntmps79 Tryz.ntmps80 Tryz.ntmps85 Tryz.ntmps86 Tryz.ntmps89 Tryz.ntmps90 Tryz.ntmps95 Tryz.ntmps132 Tryz.ntmps133 Tryz.ntmps135 Tryz.ntmps136 Tryz.ntmps137 Tryz.ntmps138 Tryz.ntmps139 Tryz.ntmps140 Tryz.ntmps141 Tryz.ntmps142 Tryz.ntmps143 Tryz.ntmps144 Tryz.ntmps145 Tryz.ntmps146 Tryz.ntmps148 Tryz.ntmps149 Tryz.ntmps150 Tryz.ntmps151 Tryz.ntmps152 Tryz.ntmps153 Tryz.ntmps155 Tryz.ntmps156 Tryz.ntmps157 Tryz.ntmps158 Tryz.ntmps159 Tryz.ntmps160 Tryz.ntmps161 Tryz.ntmps162 Tryz.ntmps163 Tryz.ntmps164 Tryz.ntmps166 Tryz.ntmps167 Tryz.ntmps168 Tryz.ntmps169 Tryz.ntmps170 Tryz.ntmps171 Tryz.ntmps172 Tryz.ntmps173 Tryz.ntmps174 Tryz.ntmps175 Tryz.ntmps176 Tryz.ntmps177 Tryz.ntmps179 Tryz.ntmps180 Tryz.ntmps181 Tryz.ntmps182 Tryz.ntmps183 Tryz.ntmps184 Tryz.ntmps185 Tryz.ntmps186 Tryz.ntmps187 Tryz.ntmps188 Tryz.ntmps189 Tryz.ntmps191 Tryz.ntmps192 Tryz.ntmps193 Tryz.ntmps194 Tryz.ntmps195 Tryz.ntmps196 Tryz.ntmps197 Tryz.ntmps199 Tryz.ntmps200 Tryz.ntmps201 Tryz.ntmps202 Tryz.ntmps203 Tryz.ntmps204 Tryz.ntmps205 Tryz.ntmps206 Tryz.ntmps207 Tryz.ntmps208 Tryz.ntmps209 Tryz.ntmps210 Tryz.ntmps211 Tryz.ntmps212 Tryz.ntmps213 Tryz.ntmps214 Tryz.ntmps215 Tryz.ntmps216 Tryz.ntmps217 Tryz.ntmps218
end Go.Proofs.YtbceiadaihphaaaGreat
