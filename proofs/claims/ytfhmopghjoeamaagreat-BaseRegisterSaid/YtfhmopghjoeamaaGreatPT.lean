/-
  What the program's types are, in the abstract machine's words: read off the program by program.
-/
import Derived.Test.YtfhmopghjoeamaaGreatProg
import Derived.Test.YtfhmopghjoeamaaGreatAmV4
set_option linter.unusedVariables false
set_option maxRecDepth 100000
namespace Go.Proofs.YtfhmopghjoeamaaGreat
open Go.Am
attribute [go_sem] Tryz.underlying0
@[go_sem] theorem sz0:cw Tryz.prog 0=some 1:=rfl
@[go_sem] theorem ag0:cB Tryz.prog 0=some false:=rfl
attribute [go_sem] Tryz.underlying3
@[go_sem] theorem sz3:cw Tryz.prog 3=some 1:=rfl
@[go_sem] theorem ag3:cB Tryz.prog 3=some false:=rfl
@[go_sem] theorem zc3:dK Tryz.prog 3=some [.int .i64 0]:=rfl
attribute [go_sem] Tryz.underlying4
@[go_sem] theorem sz4:cw Tryz.prog 4=some 1:=rfl
@[go_sem] theorem ag4:cB Tryz.prog 4=some false:=rfl
@[go_sem] theorem zc4:dK Tryz.prog 4=some [.bool false]:=rfl
attribute [go_sem] Tryz.underlying5
@[go_sem] theorem sz5:cw Tryz.prog 5=some 1:=rfl
@[go_sem] theorem ag5:cB Tryz.prog 5=some false:=rfl
@[go_sem] theorem zc5:dK Tryz.prog 5=some [.int .u8 0]:=rfl
attribute [go_sem] Tryz.underlying23
@[go_sem] theorem acN:cw Tryz.prog 23=some 1:=rfl
@[go_sem] theorem acO:cB Tryz.prog 23=some false:=rfl
@[go_sem] theorem acP:dK Tryz.prog 23=some [.pointer none]:=rfl
attribute [go_sem] Tryz.underlying24
@[go_sem] theorem acQ:cw Tryz.prog 24=some 1:=rfl
@[go_sem] theorem acR:cB Tryz.prog 24=some false:=rfl
@[go_sem] theorem acS:dK Tryz.prog 24=some [.int .i64 0]:=rfl
attribute [go_sem] Tryz.underlying25
@[go_sem] theorem acT:cw Tryz.prog 25=some 1:=rfl
@[go_sem] theorem acU:cB Tryz.prog 25=some false:=rfl
attribute [go_sem] Tryz.underlying27
@[go_sem] theorem acV:cw Tryz.prog 27=some 1:=rfl
@[go_sem] theorem acW:cB Tryz.prog 27=some false:=rfl
@[go_sem] theorem acX:dK Tryz.prog 27=some [.slice none 0 0]:=rfl
@[go_sem] theorem acY:yQ Tryz.prog 27=some (none,1):=rfl
@[go_sem] theorem acZ:A5 Tryz.prog 27=some (1,8,[.int .u64 0]):=rfl
@[go_sem] theorem ac0:CX Tryz.prog 27 27=some (1,8,1):=rfl
attribute [go_sem] Tryz.underlying29
@[go_sem] theorem ac1:cw Tryz.prog 29=some 3:=rfl
@[go_sem] theorem ac2:cB Tryz.prog 29=some true:=rfl
@[go_sem] theorem ac3:dK Tryz.prog 29=some [.int .u8 0,.int .i64 0,.slice none 0 0]:=rfl
@[go_sem] theorem ac4:nr Tryz.prog 29=some ([.int .u8 0,.int .i64 0,.slice none 0 0],fun j=>[(0,1),(1,1),(2,1)][j]?):=rfl
@[go_sem] theorem Uw:cg Tryz.prog 29 0=some (0,1):=rfl
@[go_sem] theorem Ux:cj Tryz.prog 29 0=some (0,1,false):=rfl
@[go_sem] theorem Uy:cg Tryz.prog 29 1=some (1,1):=rfl
@[go_sem] theorem Uz:cj Tryz.prog 29 1=some (1,1,false):=rfl
@[go_sem] theorem UA:cg Tryz.prog 29 2=some (2,1):=rfl
@[go_sem] theorem UB:cj Tryz.prog 29 2=some (2,1,false):=rfl
attribute [go_sem] Tryz.underlying30
@[go_sem] theorem ac5:cw Tryz.prog 30=some 6:=rfl
@[go_sem] theorem ac6:cB Tryz.prog 30=some true:=rfl
@[go_sem] theorem ac7:dK Tryz.prog 30=some [.int .i64 0,.int .i64 0,.int .i64 0,.int .i64 0,.int .i64 0,.int .i64 0]:=rfl
@[go_sem] theorem ac8:nr Tryz.prog 30=some ([.int .i64 0,.int .i64 0,.int .i64 0,.int .i64 0,.int .i64 0,.int .i64 0],fun j=>some (j*1,1)):=rfl
@[go_sem] theorem ac9:yQ Tryz.prog 30=some (some 6,1):=rfl
@[go_sem] theorem ac_:Nw Tryz.prog 30=some (6,1,false):=rfl
attribute [go_sem] Tryz.underlying32
@[go_sem] theorem ada:cw Tryz.prog 32=some 16:=rfl
@[go_sem] theorem adb:cB Tryz.prog 32=some true:=rfl
@[go_sem] theorem ade:dK Tryz.prog 32=some [.int .i64 0,.int .i64 0,.int .u8 0,.int .i64 0,.int .u8 0,.int .i64 0,.slice none 0 0,.int .i64 0,.int .i64 0,.int .i64 0,.int .i64 0,.int .i64 0,.int .i64 0,.int .i64 0,.int .i64 0,.int .i64 0]:=rfl
@[go_sem] theorem adf:nr Tryz.prog 32=some ([.int .i64 0,.int .i64 0,.int .u8 0,.int .i64 0,.int .u8 0,.int .i64 0,.slice none 0 0,.int .i64 0,.int .i64 0,.int .i64 0,.int .i64 0,.int .i64 0,.int .i64 0,.int .i64 0,.int .i64 0,.int .i64 0],fun j=>[(0,1),(1,1),(2,1),(3,1),(4,3),(7,6),(13,1),(14,1),(15,1)][j]?):=rfl
@[go_sem] theorem UC:cg Tryz.prog 32 0=some (0,1):=rfl
@[go_sem] theorem UD:cj Tryz.prog 32 0=some (0,1,false):=rfl
@[go_sem] theorem UE:cg Tryz.prog 32 1=some (1,1):=rfl
@[go_sem] theorem UF:cj Tryz.prog 32 1=some (1,1,false):=rfl
@[go_sem] theorem UG:cg Tryz.prog 32 2=some (2,1):=rfl
@[go_sem] theorem UH:cj Tryz.prog 32 2=some (2,1,false):=rfl
@[go_sem] theorem UI:cg Tryz.prog 32 3=some (3,1):=rfl
@[go_sem] theorem UJ:cj Tryz.prog 32 3=some (3,1,false):=rfl
@[go_sem] theorem UK:cg Tryz.prog 32 4=some (4,3):=rfl
@[go_sem] theorem UL:cj Tryz.prog 32 4=some (4,3,true):=rfl
@[go_sem] theorem UM:cg Tryz.prog 32 5=some (7,6):=rfl
@[go_sem] theorem UN:cj Tryz.prog 32 5=some (7,6,true):=rfl
@[go_sem] theorem UO:cg Tryz.prog 32 6=some (13,1):=rfl
@[go_sem] theorem UQ:cj Tryz.prog 32 6=some (13,1,false):=rfl
@[go_sem] theorem UR:cg Tryz.prog 32 7=some (14,1):=rfl
@[go_sem] theorem US:cj Tryz.prog 32 7=some (14,1,false):=rfl
@[go_sem] theorem UT:cg Tryz.prog 32 8=some (15,1):=rfl
@[go_sem] theorem UU:cj Tryz.prog 32 8=some (15,1,false):=rfl
attribute [go_sem] Tryz.underlying34
@[go_sem] theorem adg:cw Tryz.prog 34=some 1:=rfl
@[go_sem] theorem adh:cB Tryz.prog 34=some false:=rfl
@[go_sem] theorem adi:dK Tryz.prog 34=some [.slice none 0 0]:=rfl
@[go_sem] theorem adj:yQ Tryz.prog 34=some (none,1):=rfl
@[go_sem] theorem adk:A5 Tryz.prog 34=some (1,8,[.int .i64 0]):=rfl
@[go_sem] theorem adl:CX Tryz.prog 34 34=some (1,8,1):=rfl
attribute [go_sem] Tryz.underlying36
@[go_sem] theorem adn:cw Tryz.prog 36=some 1:=rfl
@[go_sem] theorem ado:cB Tryz.prog 36=some false:=rfl
@[go_sem] theorem adp:dK Tryz.prog 36=some [.int .u64 0]:=rfl
attribute [go_sem] Tryz.underlying37
@[go_sem] theorem adq:cw Tryz.prog 37=some 1:=rfl
@[go_sem] theorem ads:cB Tryz.prog 37=some false:=rfl
attribute [go_sem] Tryz.underlying38
@[go_sem] theorem adt:cw Tryz.prog 38=some 1:=rfl
@[go_sem] theorem adu:cB Tryz.prog 38=some false:=rfl
@[go_sem] theorem adv:dK Tryz.prog 38=some [.pointer none]:=rfl
attribute [go_sem] Tryz.underlying41
@[go_sem] theorem adw:cw Tryz.prog 41=some 1:=rfl
@[go_sem] theorem adx:cB Tryz.prog 41=some false:=rfl
attribute [go_sem] Tryz.underlying48
@[go_sem] theorem ady:cw Tryz.prog 48=some 1:=rfl
@[go_sem] theorem adz:cB Tryz.prog 48=some false:=rfl
@[go_sem] theorem adA:dK Tryz.prog 48=some [.pointer none]:=rfl
attribute [go_sem] Tryz.underlying53
@[go_sem] theorem adB:cw Tryz.prog 53=some 1:=rfl
@[go_sem] theorem adC:cB Tryz.prog 53=some false:=rfl
@[go_sem] theorem adD:dK Tryz.prog 53=some [.pointer none]:=rfl
attribute [go_sem] Tryz.underlying58
@[go_sem] theorem adE:cw Tryz.prog 58=some 1:=rfl
@[go_sem] theorem adF:cB Tryz.prog 58=some false:=rfl
@[go_sem] theorem adG:dK Tryz.prog 58=some [.pointer none]:=rfl
attribute [go_sem] Tryz.underlying60
@[go_sem] theorem adH:cw Tryz.prog 60=some 1:=rfl
@[go_sem] theorem adI:cB Tryz.prog 60=some false:=rfl
@[go_sem] theorem adJ:dK Tryz.prog 60=some [.pointer none]:=rfl
attribute [go_sem] Tryz.underlying62
@[go_sem] theorem adK:cw Tryz.prog 62=some 1:=rfl
@[go_sem] theorem adL:cB Tryz.prog 62=some false:=rfl
@[go_sem] theorem adM:dK Tryz.prog 62=some [.slice none 0 0]:=rfl
@[go_sem] theorem adN:yQ Tryz.prog 62=some (none,2):=rfl
@[go_sem] theorem adO:A5 Tryz.prog 62=some (2,16,[.int .u8 0,.int .i64 0]):=rfl
@[go_sem] theorem adP:CX Tryz.prog 62 62=some (2,16,2):=rfl
attribute [go_sem] Tryz.underlying64
@[go_sem] theorem adQ:cw Tryz.prog 64=some 2:=rfl
@[go_sem] theorem adR:cB Tryz.prog 64=some true:=rfl
@[go_sem] theorem adS:dK Tryz.prog 64=some [.int .u8 0,.int .i64 0]:=rfl
@[go_sem] theorem adT:nr Tryz.prog 64=some ([.int .u8 0,.int .i64 0],fun j=>[(0,1),(1,1)][j]?):=rfl
@[go_sem] theorem UW:cg Tryz.prog 64 0=some (0,1):=rfl
@[go_sem] theorem UX:cj Tryz.prog 64 0=some (0,1,false):=rfl
@[go_sem] theorem UY:cg Tryz.prog 64 1=some (1,1):=rfl
@[go_sem] theorem UZ:cj Tryz.prog 64 1=some (1,1,false):=rfl
attribute [go_sem] Tryz.underlying70
@[go_sem] theorem adU:cw Tryz.prog 70=some 1:=rfl
@[go_sem] theorem adV:cB Tryz.prog 70=some false:=rfl
attribute [go_sem] Tryz.underlying73
@[go_sem] theorem adW:cw Tryz.prog 73=some 5:=rfl
@[go_sem] theorem adX:cB Tryz.prog 73=some true:=rfl
@[go_sem] theorem adY:dK Tryz.prog 73=some [.pointer none,.pointer none,.pointer none,.pointer none,.pointer none]:=rfl
@[go_sem] theorem adZ:nr Tryz.prog 73=some ([.pointer none,.pointer none,.pointer none,.pointer none,.pointer none],fun j=>[(0,1),(1,1),(2,1),(3,1),(4,1)][j]?):=rfl
@[go_sem] theorem U0:cg Tryz.prog 73 0=some (0,1):=rfl
@[go_sem] theorem U2:cj Tryz.prog 73 0=some (0,1,false):=rfl
@[go_sem] theorem U4:cg Tryz.prog 73 1=some (1,1):=rfl
@[go_sem] theorem U5:cj Tryz.prog 73 1=some (1,1,false):=rfl
@[go_sem] theorem U7:cg Tryz.prog 73 2=some (2,1):=rfl
@[go_sem] theorem U9:cj Tryz.prog 73 2=some (2,1,false):=rfl
@[go_sem] theorem U_:cg Tryz.prog 73 3=some (3,1):=rfl
@[go_sem] theorem Va:cj Tryz.prog 73 3=some (3,1,false):=rfl
@[go_sem] theorem Vb:cg Tryz.prog 73 4=some (4,1):=rfl
@[go_sem] theorem Vc:cj Tryz.prog 73 4=some (4,1,false):=rfl
attribute [go_sem] Tryz.underlying74
@[go_sem] theorem ad0:cw Tryz.prog 74=some 1:=rfl
@[go_sem] theorem ad1:cB Tryz.prog 74=some false:=rfl
@[go_sem] theorem ad2:dK Tryz.prog 74=some [.map none]:=rfl
attribute [go_sem] Tryz.underlying75
@[go_sem] theorem ad3:cw Tryz.prog 75=some 1:=rfl
@[go_sem] theorem ad4:cB Tryz.prog 75=some false:=rfl
@[go_sem] theorem ad5:dK Tryz.prog 75=some [.map none]:=rfl
attribute [go_sem] Tryz.underlying77
@[go_sem] theorem ad6:cw Tryz.prog 77=some 9:=rfl
@[go_sem] theorem ad7:cB Tryz.prog 77=some true:=rfl
@[go_sem] theorem ad8:dK Tryz.prog 77=some [.pointer none,.pointer none,.pointer none,.pointer none,.pointer none,.slice none 0 0,.slice none 0 0,.map none,.map none]:=rfl
@[go_sem] theorem ad9:nr Tryz.prog 77=some ([.pointer none,.pointer none,.pointer none,.pointer none,.pointer none,.slice none 0 0,.slice none 0 0,.map none,.map none],fun j=>[(0,5),(5,1),(6,1),(7,1),(8,1)][j]?):=rfl
@[go_sem] theorem Vd:cg Tryz.prog 77 0=some (0,5):=rfl
@[go_sem] theorem Ve:cj Tryz.prog 77 0=some (0,5,true):=rfl
@[go_sem] theorem Vf:cg Tryz.prog 77 1=some (5,1):=rfl
@[go_sem] theorem Vg:cj Tryz.prog 77 1=some (5,1,false):=rfl
@[go_sem] theorem Vh:cg Tryz.prog 77 2=some (6,1):=rfl
@[go_sem] theorem Vi:cj Tryz.prog 77 2=some (6,1,false):=rfl
@[go_sem] theorem Vj:cg Tryz.prog 77 3=some (7,1):=rfl
@[go_sem] theorem Vk:cj Tryz.prog 77 3=some (7,1,false):=rfl
@[go_sem] theorem Vl:cg Tryz.prog 77 4=some (8,1):=rfl
@[go_sem] theorem Vm:cj Tryz.prog 77 4=some (8,1,false):=rfl
attribute [go_sem] Tryz.underlying78
@[go_sem] theorem ad_:cw Tryz.prog 78=some 1:=rfl
@[go_sem] theorem ad':cB Tryz.prog 78=some false:=rfl
attribute [go_sem] Tryz.underlying80
@[go_sem] theorem aea:cw Tryz.prog 80=some 1:=rfl
@[go_sem] theorem aeb:cB Tryz.prog 80=some false:=rfl
attribute [go_sem] Tryz.underlying82
@[go_sem] theorem aec:cw Tryz.prog 82=some 1:=rfl
@[go_sem] theorem aed:cB Tryz.prog 82=some false:=rfl
attribute [go_sem] Tryz.underlying84
@[go_sem] theorem aee:cw Tryz.prog 84=some 1:=rfl
@[go_sem] theorem aef:cB Tryz.prog 84=some false:=rfl
attribute [go_sem] Tryz.underlying87
@[go_sem] theorem aeg:cw Tryz.prog 87=some 10:=rfl
@[go_sem] theorem aeh:cB Tryz.prog 87=some true:=rfl
@[go_sem] theorem aei:dK Tryz.prog 87=some [.int .i64 0,.int .i64 0,.int .i64 0,.int .i64 0,.int .i64 0,.int .i64 0,.int .i64 0,.int .i64 0,.int .i64 0,.int .i64 0]:=rfl
@[go_sem] theorem aej:nr Tryz.prog 87=some ([.int .i64 0,.int .i64 0,.int .i64 0,.int .i64 0,.int .i64 0,.int .i64 0,.int .i64 0,.int .i64 0,.int .i64 0,.int .i64 0],fun j=>[(0,1),(1,1),(2,1),(3,1),(4,1),(5,1),(6,1),(7,1),(8,1),(9,1)][j]?):=rfl
@[go_sem] theorem Vn:cg Tryz.prog 87 0=some (0,1):=rfl
@[go_sem] theorem Vo:cj Tryz.prog 87 0=some (0,1,false):=rfl
@[go_sem] theorem Vp:cg Tryz.prog 87 1=some (1,1):=rfl
@[go_sem] theorem Vq:cj Tryz.prog 87 1=some (1,1,false):=rfl
@[go_sem] theorem Vr:cg Tryz.prog 87 2=some (2,1):=rfl
@[go_sem] theorem Vs:cj Tryz.prog 87 2=some (2,1,false):=rfl
@[go_sem] theorem Vt:cg Tryz.prog 87 3=some (3,1):=rfl
@[go_sem] theorem Vu:cj Tryz.prog 87 3=some (3,1,false):=rfl
@[go_sem] theorem Vw:cg Tryz.prog 87 4=some (4,1):=rfl
@[go_sem] theorem Vx:cj Tryz.prog 87 4=some (4,1,false):=rfl
@[go_sem] theorem Vy:cg Tryz.prog 87 5=some (5,1):=rfl
@[go_sem] theorem Vz:cj Tryz.prog 87 5=some (5,1,false):=rfl
@[go_sem] theorem VA:cg Tryz.prog 87 6=some (6,1):=rfl
@[go_sem] theorem VB:cj Tryz.prog 87 6=some (6,1,false):=rfl
@[go_sem] theorem VC:cg Tryz.prog 87 7=some (7,1):=rfl
@[go_sem] theorem VD:cj Tryz.prog 87 7=some (7,1,false):=rfl
@[go_sem] theorem VE:cg Tryz.prog 87 8=some (8,1):=rfl
@[go_sem] theorem VF:cj Tryz.prog 87 8=some (8,1,false):=rfl
@[go_sem] theorem VG:cg Tryz.prog 87 9=some (9,1):=rfl
@[go_sem] theorem VH:cj Tryz.prog 87 9=some (9,1,false):=rfl
attribute [go_sem] Tryz.underlying94
@[go_sem] theorem aek:cw Tryz.prog 94=some 1:=rfl
@[go_sem] theorem ael:cB Tryz.prog 94=some true:=rfl
@[go_sem] theorem aem:dK Tryz.prog 94=some [.int .u64 0]:=rfl
@[go_sem] theorem aen:nr Tryz.prog 94=some ([.int .u64 0],fun j=>[(0,0),(0,0),(0,1)][j]?):=rfl
@[go_sem] theorem VI:cg Tryz.prog 94 0=some (0,0):=rfl
@[go_sem] theorem VJ:cj Tryz.prog 94 0=some (0,0,true):=rfl
@[go_sem] theorem VK:cg Tryz.prog 94 1=some (0,0):=rfl
@[go_sem] theorem VL:cj Tryz.prog 94 1=some (0,0,true):=rfl
@[go_sem] theorem VM:cg Tryz.prog 94 2=some (0,1):=rfl
@[go_sem] theorem VN:cj Tryz.prog 94 2=some (0,1,false):=rfl
attribute [go_sem] Tryz.underlying95
@[go_sem] theorem aeo:cw Tryz.prog 95=some 1:=rfl
@[go_sem] theorem aep:cB Tryz.prog 95=some false:=rfl
@[go_sem] theorem aer:dK Tryz.prog 95=some [.slice none 0 0]:=rfl
@[go_sem] theorem aes:yQ Tryz.prog 95=some (none,1):=rfl
@[go_sem] theorem aeu:A5 Tryz.prog 95=some (1,8,[.int .u64 0]):=rfl
@[go_sem] theorem aev:CX Tryz.prog 95 95=some (1,8,1):=rfl
attribute [go_sem] Tryz.underlying96
@[go_sem] theorem aew:cw Tryz.prog 96=some 1:=rfl
@[go_sem] theorem aex:cB Tryz.prog 96=some false:=rfl
@[go_sem] theorem aey:dK Tryz.prog 96=some [.slice none 0 0]:=rfl
@[go_sem] theorem aez:yQ Tryz.prog 96=some (none,6):=rfl
@[go_sem] theorem aeA:A5 Tryz.prog 96=some (6,48,[.int .i64 0,.int .i64 0,.int .u8 0,.int .u64 0,.int .u64 0,.bool false]):=rfl
@[go_sem] theorem aeB:CX Tryz.prog 96 96=some (6,48,6):=rfl
attribute [go_sem] Tryz.underlying98
@[go_sem] theorem aeC:cw Tryz.prog 98=some 2:=rfl
@[go_sem] theorem aeD:cB Tryz.prog 98=some true:=rfl
@[go_sem] theorem aeE:dK Tryz.prog 98=some [.slice none 0 0,.slice none 0 0]:=rfl
@[go_sem] theorem aeF:nr Tryz.prog 98=some ([.slice none 0 0,.slice none 0 0],fun j=>[(0,1),(1,1)][j]?):=rfl
@[go_sem] theorem VO:cg Tryz.prog 98 0=some (0,1):=rfl
@[go_sem] theorem VP:cj Tryz.prog 98 0=some (0,1,false):=rfl
@[go_sem] theorem VQ:cg Tryz.prog 98 1=some (1,1):=rfl
@[go_sem] theorem VR:cj Tryz.prog 98 1=some (1,1,false):=rfl
attribute [go_sem] Tryz.underlying102
@[go_sem] theorem X7:cw Tryz.prog 102=some 2:=rfl
@[go_sem] theorem X8:cB Tryz.prog 102=some true:=rfl
@[go_sem] theorem X9:dK Tryz.prog 102=some [.pointer none,.pointer none]:=rfl
@[go_sem] theorem X_:nr Tryz.prog 102=some ([.pointer none,.pointer none],fun j=>[(0,1),(1,1)][j]?):=rfl
@[go_sem] theorem QI:cg Tryz.prog 102 0=some (0,1):=rfl
@[go_sem] theorem QJ:cj Tryz.prog 102 0=some (0,1,false):=rfl
@[go_sem] theorem QK:cg Tryz.prog 102 1=some (1,1):=rfl
@[go_sem] theorem QL:cj Tryz.prog 102 1=some (1,1,false):=rfl
attribute [go_sem] Tryz.underlying104
@[go_sem] theorem Ya:cw Tryz.prog 104=some 1:=rfl
@[go_sem] theorem Yb:cB Tryz.prog 104=some false:=rfl
@[go_sem] theorem Yc:dK Tryz.prog 104=some [.int .i64 0]:=rfl
attribute [go_sem] Tryz.underlying124
@[go_sem] theorem Yd:cw Tryz.prog 124=some 1:=rfl
@[go_sem] theorem Ye:cB Tryz.prog 124=some false:=rfl
@[go_sem] theorem Yf:dK Tryz.prog 124=some [.map none]:=rfl
attribute [go_sem] Tryz.underlying126
@[go_sem] theorem Yg:cw Tryz.prog 126=some 6:=rfl
@[go_sem] theorem Yh:cB Tryz.prog 126=some true:=rfl
@[go_sem] theorem Yi:dK Tryz.prog 126=some [.pointer none,.pointer none,.int .i64 0,.int .i64 0,.map none,.slice none 0 0]:=rfl
@[go_sem] theorem Yj:nr Tryz.prog 126=some ([.pointer none,.pointer none,.int .i64 0,.int .i64 0,.map none,.slice none 0 0],fun j=>[(0,1),(1,1),(2,1),(3,1),(4,1),(5,1)][j]?):=rfl
@[go_sem] theorem QM:cg Tryz.prog 126 0=some (0,1):=rfl
@[go_sem] theorem QN:cj Tryz.prog 126 0=some (0,1,false):=rfl
@[go_sem] theorem QO:cg Tryz.prog 126 1=some (1,1):=rfl
@[go_sem] theorem QS:cj Tryz.prog 126 1=some (1,1,false):=rfl
@[go_sem] theorem QT:cg Tryz.prog 126 2=some (2,1):=rfl
@[go_sem] theorem QU:cj Tryz.prog 126 2=some (2,1,false):=rfl
@[go_sem] theorem QV:cg Tryz.prog 126 3=some (3,1):=rfl
@[go_sem] theorem QW:cj Tryz.prog 126 3=some (3,1,false):=rfl
@[go_sem] theorem QX:cg Tryz.prog 126 4=some (4,1):=rfl
@[go_sem] theorem QY:cj Tryz.prog 126 4=some (4,1,false):=rfl
@[go_sem] theorem QZ:cg Tryz.prog 126 5=some (5,1):=rfl
@[go_sem] theorem Q5:cj Tryz.prog 126 5=some (5,1,false):=rfl
attribute [go_sem] Tryz.underlying129
@[go_sem] theorem Yk:cw Tryz.prog 129=some 1:=rfl
@[go_sem] theorem Yl:cB Tryz.prog 129=some false:=rfl
@[go_sem] theorem Ym:dK Tryz.prog 129=some [.slice none 0 0]:=rfl
@[go_sem] theorem Yn:yQ Tryz.prog 129=some (none,4):=rfl
@[go_sem] theorem Yo:A5 Tryz.prog 129=some (4,32,[.int .u8 0,.int .i64 0,.int .i64 0,.int .i64 0]):=rfl
@[go_sem] theorem Yp:CX Tryz.prog 129 129=some (4,32,4):=rfl
attribute [go_sem] Tryz.underlying131
@[go_sem] theorem Yq:cw Tryz.prog 131=some 30:=rfl
@[go_sem] theorem Yr:cB Tryz.prog 131=some true:=rfl
@[go_sem] theorem Ys:dK Tryz.prog 131=some [.int .i64 0,.int .i64 0,.int .u8 0,.int .i64 0,.int .u8 0,.int .i64 0,.slice none 0 0,.int .i64 0,.int .i64 0,.int .i64 0,.int .i64 0,.int .i64 0,.int .i64 0,.int .i64 0,.int .i64 0,.int .i64 0,.int .i64 0,.int .i64 0,.int .i64 0,.int .i64 0,.int .i64 0,.int .i64 0,.int .i64 0,.int .i64 0,.int .i64 0,.int .i64 0,.slice none 0 0,.slice none 0 0,.slice none 0 0,.int .i64 0]:=rfl
@[go_sem] theorem Yt:nr Tryz.prog 131=some ([.int .i64 0,.int .i64 0,.int .u8 0,.int .i64 0,.int .u8 0,.int .i64 0,.slice none 0 0,.int .i64 0,.int .i64 0,.int .i64 0,.int .i64 0,.int .i64 0,.int .i64 0,.int .i64 0,.int .i64 0,.int .i64 0,.int .i64 0,.int .i64 0,.int .i64 0,.int .i64 0,.int .i64 0,.int .i64 0,.int .i64 0,.int .i64 0,.int .i64 0,.int .i64 0,.slice none 0 0,.slice none 0 0,.slice none 0 0,.int .i64 0],fun j=>[(0,16),(16,10),(26,1),(27,1),(28,1),(29,1)][j]?):=rfl
@[go_sem] theorem Q6:cg Tryz.prog 131 0=some (0,16):=rfl
@[go_sem] theorem Q7:cj Tryz.prog 131 0=some (0,16,true):=rfl
@[go_sem] theorem Q8:cg Tryz.prog 131 1=some (16,10):=rfl
@[go_sem] theorem Q9:cj Tryz.prog 131 1=some (16,10,true):=rfl
@[go_sem] theorem Q_:cg Tryz.prog 131 2=some (26,1):=rfl
@[go_sem] theorem Ra:cj Tryz.prog 131 2=some (26,1,false):=rfl
@[go_sem] theorem Rb:cg Tryz.prog 131 3=some (27,1):=rfl
@[go_sem] theorem Rc:cj Tryz.prog 131 3=some (27,1,false):=rfl
@[go_sem] theorem Rf:cg Tryz.prog 131 4=some (28,1):=rfl
@[go_sem] theorem Rg:cj Tryz.prog 131 4=some (28,1,false):=rfl
@[go_sem] theorem Rh:cg Tryz.prog 131 5=some (29,1):=rfl
@[go_sem] theorem Rj:cj Tryz.prog 131 5=some (29,1,false):=rfl
attribute [go_sem] Tryz.underlying134
@[go_sem] theorem Yu:cw Tryz.prog 134=some 1:=rfl
@[go_sem] theorem Yv:cB Tryz.prog 134=some false:=rfl
@[go_sem] theorem Yw:dK Tryz.prog 134=some [.nilIface]:=rfl
attribute [go_sem] Tryz.underlying136
@[go_sem] theorem Yx:cw Tryz.prog 136=some 3:=rfl
@[go_sem] theorem Yy:cB Tryz.prog 136=some true:=rfl
@[go_sem] theorem Yz:dK Tryz.prog 136=some [.nilIface,.int .u8 0,.int .i64 0]:=rfl
@[go_sem] theorem YA:nr Tryz.prog 136=some ([.nilIface,.int .u8 0,.int .i64 0],fun j=>[(0,1),(1,1),(2,1)][j]?):=rfl
@[go_sem] theorem Rk:cg Tryz.prog 136 0=some (0,1):=rfl
@[go_sem] theorem Rm:cj Tryz.prog 136 0=some (0,1,false):=rfl
@[go_sem] theorem Rn:cg Tryz.prog 136 1=some (1,1):=rfl
@[go_sem] theorem Ro:cj Tryz.prog 136 1=some (1,1,false):=rfl
@[go_sem] theorem Rp:cg Tryz.prog 136 2=some (2,1):=rfl
@[go_sem] theorem Rq:cj Tryz.prog 136 2=some (2,1,false):=rfl
attribute [go_sem] Tryz.underlying137
@[go_sem] theorem YB:cw Tryz.prog 137=some 1:=rfl
@[go_sem] theorem YC:cB Tryz.prog 137=some false:=rfl
@[go_sem] theorem YD:dK Tryz.prog 137=some [.pointer none]:=rfl
attribute [go_sem] Tryz.underlying138
@[go_sem] theorem YE:cw Tryz.prog 138=some 1:=rfl
@[go_sem] theorem YF:cB Tryz.prog 138=some false:=rfl
attribute [go_sem] Tryz.underlying140
@[go_sem] theorem YG:cw Tryz.prog 140=some 1:=rfl
@[go_sem] theorem YH:cB Tryz.prog 140=some false:=rfl
attribute [go_sem] Tryz.underlying142
@[go_sem] theorem YI:cw Tryz.prog 142=some 1:=rfl
@[go_sem] theorem YJ:cB Tryz.prog 142=some false:=rfl
attribute [go_sem] Tryz.underlying144
@[go_sem] theorem YK:cw Tryz.prog 144=some 1:=rfl
@[go_sem] theorem YL:cB Tryz.prog 144=some false:=rfl
@[go_sem] theorem YM:dK Tryz.prog 144=some [.pointer none]:=rfl
attribute [go_sem] Tryz.underlying145
@[go_sem] theorem YN:cw Tryz.prog 145=some 1:=rfl
@[go_sem] theorem YO:cB Tryz.prog 145=some false:=rfl
attribute [go_sem] Tryz.underlying148
@[go_sem] theorem YP:cw Tryz.prog 148=some 2:=rfl
@[go_sem] theorem YQ:cB Tryz.prog 148=some true:=rfl
@[go_sem] theorem YR:dK Tryz.prog 148=some [.int .i64 0,.bool false]:=rfl
@[go_sem] theorem YS:nr Tryz.prog 148=some ([.int .i64 0,.bool false],fun j=>[(0,1),(1,1)][j]?):=rfl
@[go_sem] theorem Rr:cg Tryz.prog 148 0=some (0,1):=rfl
@[go_sem] theorem Rt:cj Tryz.prog 148 0=some (0,1,false):=rfl
@[go_sem] theorem Ru:cg Tryz.prog 148 1=some (1,1):=rfl
@[go_sem] theorem Rv:cj Tryz.prog 148 1=some (1,1,false):=rfl
attribute [go_sem] Tryz.underlying149
@[go_sem] theorem YT:cw Tryz.prog 149=some 1:=rfl
@[go_sem] theorem YU:cB Tryz.prog 149=some false:=rfl
attribute [go_sem] Tryz.underlying156
@[go_sem] theorem YV:cw Tryz.prog 156=some 4:=rfl
@[go_sem] theorem YW:cB Tryz.prog 156=some true:=rfl
@[go_sem] theorem YX:dK Tryz.prog 156=some [.int .u8 0,.int .i64 0,.int .i64 0,.int .i64 0]:=rfl
@[go_sem] theorem YY:nr Tryz.prog 156=some ([.int .u8 0,.int .i64 0,.int .i64 0,.int .i64 0],fun j=>[(0,1),(1,1),(2,1),(3,1)][j]?):=rfl
@[go_sem] theorem Rw:cg Tryz.prog 156 0=some (0,1):=rfl
@[go_sem] theorem Rx:cj Tryz.prog 156 0=some (0,1,false):=rfl
@[go_sem] theorem Ry:cg Tryz.prog 156 1=some (1,1):=rfl
@[go_sem] theorem Rz:cj Tryz.prog 156 1=some (1,1,false):=rfl
@[go_sem] theorem RA:cg Tryz.prog 156 2=some (2,1):=rfl
@[go_sem] theorem RB:cj Tryz.prog 156 2=some (2,1,false):=rfl
@[go_sem] theorem RC:cg Tryz.prog 156 3=some (3,1):=rfl
@[go_sem] theorem RD:cj Tryz.prog 156 3=some (3,1,false):=rfl
attribute [go_sem] Tryz.underlying157
@[go_sem] theorem YZ:cw Tryz.prog 157=some 1:=rfl
@[go_sem] theorem Y0:cB Tryz.prog 157=some false:=rfl
@[go_sem] theorem Y1:dK Tryz.prog 157=some [.nilFunc]:=rfl
attribute [go_sem] Tryz.underlying160
@[go_sem] theorem Y2:cw Tryz.prog 160=some 1:=rfl
@[go_sem] theorem Y3:cB Tryz.prog 160=some false:=rfl
attribute [go_sem] Tryz.underlying163
@[go_sem] theorem Y4:cw Tryz.prog 163=some 1:=rfl
@[go_sem] theorem Y5:cB Tryz.prog 163=some false:=rfl
@[go_sem] theorem Y6:dK Tryz.prog 163=some [.pointer none]:=rfl
attribute [go_sem] Tryz.underlying164
@[go_sem] theorem Y7:cw Tryz.prog 164=some 1:=rfl
@[go_sem] theorem Y8:cB Tryz.prog 164=some false:=rfl
attribute [go_sem] Tryz.underlying167
@[go_sem] theorem Y9:cw Tryz.prog 167=some 1:=rfl
@[go_sem] theorem Y_:cB Tryz.prog 167=some false:=rfl
@[go_sem] theorem Za:dK Tryz.prog 167=some [.nilIface]:=rfl
attribute [go_sem] Tryz.underlying169
@[go_sem] theorem Zb:cw Tryz.prog 169=some 1:=rfl
@[go_sem] theorem Zc:cB Tryz.prog 169=some true:=rfl
@[go_sem] theorem Zd:dK Tryz.prog 169=some [.nilIface]:=rfl
@[go_sem] theorem Ze:nr Tryz.prog 169=some ([.nilIface],fun j=>[(0,1)][j]?):=rfl
@[go_sem] theorem RE:cg Tryz.prog 169 0=some (0,1):=rfl
@[go_sem] theorem RF:cj Tryz.prog 169 0=some (0,1,false):=rfl
attribute [go_sem] Tryz.underlying170
@[go_sem] theorem Zf:cw Tryz.prog 170=some 1:=rfl
@[go_sem] theorem Zg:cB Tryz.prog 170=some false:=rfl
@[go_sem] theorem Zh:dK Tryz.prog 170=some [.pointer none]:=rfl
attribute [go_sem] Tryz.underlying171
@[go_sem] theorem Zi:cw Tryz.prog 171=some 1:=rfl
@[go_sem] theorem Zj:cB Tryz.prog 171=some false:=rfl
attribute [go_sem] Tryz.underlying174
@[go_sem] theorem Zk:cw Tryz.prog 174=some 1:=rfl
@[go_sem] theorem Zl:cB Tryz.prog 174=some false:=rfl
@[go_sem] theorem Zm:dK Tryz.prog 174=some [.nilIface]:=rfl
attribute [go_sem] Tryz.underlying176
@[go_sem] theorem Zn:cw Tryz.prog 176=some 1:=rfl
@[go_sem] theorem Zo:cB Tryz.prog 176=some true:=rfl
@[go_sem] theorem Zp:dK Tryz.prog 176=some [.nilIface]:=rfl
@[go_sem] theorem Zq:nr Tryz.prog 176=some ([.nilIface],fun j=>[(0,1)][j]?):=rfl
@[go_sem] theorem RG:cg Tryz.prog 176 0=some (0,1):=rfl
@[go_sem] theorem RH:cj Tryz.prog 176 0=some (0,1,false):=rfl
attribute [go_sem] Tryz.underlying177
@[go_sem] theorem Zr:cw Tryz.prog 177=some 1:=rfl
@[go_sem] theorem Zs:cB Tryz.prog 177=some false:=rfl
@[go_sem] theorem Zt:dK Tryz.prog 177=some [.pointer none]:=rfl
attribute [go_sem] Tryz.underlying178
@[go_sem] theorem Zu:cw Tryz.prog 178=some 1:=rfl
@[go_sem] theorem Zv:cB Tryz.prog 178=some false:=rfl
attribute [go_sem] Tryz.underlying181
@[go_sem] theorem Zw:cw Tryz.prog 181=some 1:=rfl
@[go_sem] theorem Zy:cB Tryz.prog 181=some false:=rfl
@[go_sem] theorem Zz:dK Tryz.prog 181=some [.nilIface]:=rfl
attribute [go_sem] Tryz.underlying183
@[go_sem] theorem ZA:cw Tryz.prog 183=some 1:=rfl
@[go_sem] theorem ZB:cB Tryz.prog 183=some true:=rfl
@[go_sem] theorem ZC:dK Tryz.prog 183=some [.nilIface]:=rfl
@[go_sem] theorem ZD:nr Tryz.prog 183=some ([.nilIface],fun j=>[(0,1)][j]?):=rfl
@[go_sem] theorem RI:cg Tryz.prog 183 0=some (0,1):=rfl
@[go_sem] theorem RJ:cj Tryz.prog 183 0=some (0,1,false):=rfl
attribute [go_sem] Tryz.underlying184
@[go_sem] theorem ZE:cw Tryz.prog 184=some 1:=rfl
@[go_sem] theorem ZF:cB Tryz.prog 184=some false:=rfl
@[go_sem] theorem ZG:dK Tryz.prog 184=some [.pointer none]:=rfl
attribute [go_sem] Tryz.underlying188
@[go_sem] theorem ZH:cw Tryz.prog 188=some 6:=rfl
@[go_sem] theorem ZI:cB Tryz.prog 188=some true:=rfl
@[go_sem] theorem ZJ:dK Tryz.prog 188=some [.int .i64 0,.int .i64 0,.int .u8 0,.int .u64 0,.int .u64 0,.bool false]:=rfl
@[go_sem] theorem ZK:nr Tryz.prog 188=some ([.int .i64 0,.int .i64 0,.int .u8 0,.int .u64 0,.int .u64 0,.bool false],fun j=>[(0,1),(1,1),(2,1),(3,1),(4,1),(5,1)][j]?):=rfl
@[go_sem] theorem RK:cg Tryz.prog 188 0=some (0,1):=rfl
@[go_sem] theorem RL:cj Tryz.prog 188 0=some (0,1,false):=rfl
@[go_sem] theorem RM:cg Tryz.prog 188 1=some (1,1):=rfl
@[go_sem] theorem RN:cj Tryz.prog 188 1=some (1,1,false):=rfl
@[go_sem] theorem RO:cg Tryz.prog 188 2=some (2,1):=rfl
@[go_sem] theorem RP:cj Tryz.prog 188 2=some (2,1,false):=rfl
@[go_sem] theorem RQ:cg Tryz.prog 188 3=some (3,1):=rfl
@[go_sem] theorem RR:cj Tryz.prog 188 3=some (3,1,false):=rfl
@[go_sem] theorem RS:cg Tryz.prog 188 4=some (4,1):=rfl
@[go_sem] theorem RT:cj Tryz.prog 188 4=some (4,1,false):=rfl
@[go_sem] theorem RU:cg Tryz.prog 188 5=some (5,1):=rfl
@[go_sem] theorem RV:cj Tryz.prog 188 5=some (5,1,false):=rfl
attribute [go_sem] Tryz.underlying189
@[go_sem] theorem ZL:cw Tryz.prog 189=some 1:=rfl
@[go_sem] theorem ZM:cB Tryz.prog 189=some false:=rfl
attribute [go_sem] Tryz.underlying193
@[go_sem] theorem ZN:cw Tryz.prog 193=some 1:=rfl
@[go_sem] theorem ZO:cB Tryz.prog 193=some false:=rfl
@[go_sem] theorem ZP:dK Tryz.prog 193=some [.slice none 0 0]:=rfl
@[go_sem] theorem ZQ:yQ Tryz.prog 193=some (none,1):=rfl
@[go_sem] theorem ZR:A5 Tryz.prog 193=some (1,1,[.bool false]):=rfl
@[go_sem] theorem ZS:CX Tryz.prog 193 193=some (1,1,1):=rfl
attribute [go_sem] Tryz.underlying210
@[go_sem] theorem ZT:cw Tryz.prog 210=some 6:=rfl
@[go_sem] theorem ZU:cB Tryz.prog 210=some true:=rfl
@[go_sem] theorem ZV:dK Tryz.prog 210=some [.pointer none,.int .i64 0,.int .i64 0,.int .i64 0,.int .u64 0,.int .u8 0]:=rfl
@[go_sem] theorem ZW:nr Tryz.prog 210=some ([.pointer none,.int .i64 0,.int .i64 0,.int .i64 0,.int .u64 0,.int .u8 0],fun j=>[(0,1),(1,1),(2,1),(3,1),(4,1),(5,1)][j]?):=rfl
@[go_sem] theorem RW:cg Tryz.prog 210 0=some (0,1):=rfl
@[go_sem] theorem RX:cj Tryz.prog 210 0=some (0,1,false):=rfl
@[go_sem] theorem RY:cg Tryz.prog 210 1=some (1,1):=rfl
@[go_sem] theorem RZ:cj Tryz.prog 210 1=some (1,1,false):=rfl
@[go_sem] theorem R1:cg Tryz.prog 210 2=some (2,1):=rfl
@[go_sem] theorem R2:cj Tryz.prog 210 2=some (2,1,false):=rfl
@[go_sem] theorem R3:cg Tryz.prog 210 3=some (3,1):=rfl
@[go_sem] theorem R4:cj Tryz.prog 210 3=some (3,1,false):=rfl
@[go_sem] theorem R5:cg Tryz.prog 210 4=some (4,1):=rfl
@[go_sem] theorem R6:cj Tryz.prog 210 4=some (4,1,false):=rfl
@[go_sem] theorem R7:cg Tryz.prog 210 5=some (5,1):=rfl
@[go_sem] theorem R8:cj Tryz.prog 210 5=some (5,1,false):=rfl
attribute [go_sem] Tryz.underlying211
@[go_sem] theorem ZX:cw Tryz.prog 211=some 1:=rfl
@[go_sem] theorem ZY:cB Tryz.prog 211=some false:=rfl
@[go_sem] theorem ZZ:dK Tryz.prog 211=some [.map none]:=rfl
attribute [go_sem] Tryz.underlying213
@[go_sem] theorem Z1:cw Tryz.prog 213=some 11:=rfl
@[go_sem] theorem Z2:cB Tryz.prog 213=some true:=rfl
@[go_sem] theorem Z3:dK Tryz.prog 213=some [.pointer none,.int .i64 0,.int .i64 0,.int .i64 0,.int .u64 0,.int .u8 0,.map none,.int .i64 0,.int .i64 0,.int .i64 0,.int .i64 0]:=rfl
@[go_sem] theorem Z4:nr Tryz.prog 213=some ([.pointer none,.int .i64 0,.int .i64 0,.int .i64 0,.int .u64 0,.int .u8 0,.map none,.int .i64 0,.int .i64 0,.int .i64 0,.int .i64 0],fun j=>[(0,6),(6,1),(7,1),(8,1),(9,1),(10,1)][j]?):=rfl
@[go_sem] theorem R9:cg Tryz.prog 213 0=some (0,6):=rfl
@[go_sem] theorem R_:cj Tryz.prog 213 0=some (0,6,true):=rfl
@[go_sem] theorem Sb:cg Tryz.prog 213 1=some (6,1):=rfl
@[go_sem] theorem Sc:cj Tryz.prog 213 1=some (6,1,false):=rfl
@[go_sem] theorem Sd:cg Tryz.prog 213 2=some (7,1):=rfl
@[go_sem] theorem Se:cj Tryz.prog 213 2=some (7,1,false):=rfl
@[go_sem] theorem Sf:cg Tryz.prog 213 3=some (8,1):=rfl
@[go_sem] theorem Sg:cj Tryz.prog 213 3=some (8,1,false):=rfl
@[go_sem] theorem Sh:cg Tryz.prog 213 4=some (9,1):=rfl
@[go_sem] theorem Si:cj Tryz.prog 213 4=some (9,1,false):=rfl
@[go_sem] theorem Sj:cg Tryz.prog 213 5=some (10,1):=rfl
@[go_sem] theorem Sk:cj Tryz.prog 213 5=some (10,1,false):=rfl
attribute [go_sem] Tryz.underlying214
@[go_sem] theorem Z5:cw Tryz.prog 214=some 1:=rfl
@[go_sem] theorem Z6:cB Tryz.prog 214=some false:=rfl
@[go_sem] theorem Z7:dK Tryz.prog 214=some [.nilFunc]:=rfl
attribute [go_sem] Tryz.underlying216
@[go_sem] theorem Z8:cw Tryz.prog 216=some 1:=rfl
@[go_sem] theorem Z9:cB Tryz.prog 216=some false:=rfl
attribute [go_sem] Tryz.underlying217
@[go_sem] theorem Z_:cw Tryz.prog 217=some 1:=rfl
@[go_sem] theorem aac:cB Tryz.prog 217=some false:=rfl
@[go_sem] theorem aad:dK Tryz.prog 217=some [.map none]:=rfl
attribute [go_sem] Tryz.underlying219
@[go_sem] theorem aae:cw Tryz.prog 219=some 7:=rfl
@[go_sem] theorem aaf:cB Tryz.prog 219=some true:=rfl
@[go_sem] theorem aag:dK Tryz.prog 219=some [.pointer none,.int .i64 0,.int .i64 0,.int .i64 0,.int .u64 0,.int .u8 0,.map none]:=rfl
@[go_sem] theorem aah:nr Tryz.prog 219=some ([.pointer none,.int .i64 0,.int .i64 0,.int .i64 0,.int .u64 0,.int .u8 0,.map none],fun j=>[(0,6),(6,1)][j]?):=rfl
@[go_sem] theorem Sl:cg Tryz.prog 219 0=some (0,6):=rfl
@[go_sem] theorem Sm:cj Tryz.prog 219 0=some (0,6,true):=rfl
@[go_sem] theorem Sn:cg Tryz.prog 219 1=some (6,1):=rfl
@[go_sem] theorem Sr:cj Tryz.prog 219 1=some (6,1,false):=rfl
attribute [go_sem] Tryz.underlying220
@[go_sem] theorem aai:cw Tryz.prog 220=some 1:=rfl
@[go_sem] theorem aaj:cB Tryz.prog 220=some false:=rfl
@[go_sem] theorem aak:dK Tryz.prog 220=some [.nilFunc]:=rfl
attribute [go_sem] Tryz.underlying224
@[go_sem] theorem aal:cw Tryz.prog 224=some 4:=rfl
@[go_sem] theorem aam:cB Tryz.prog 224=some true:=rfl
@[go_sem] theorem aan:dK Tryz.prog 224=some [.int .i64 0,.int .i64 0,.int .i64 0,.int .i64 0]:=rfl
@[go_sem] theorem aao:nr Tryz.prog 224=some ([.int .i64 0,.int .i64 0,.int .i64 0,.int .i64 0],fun j=>some (j*1,1)):=rfl
@[go_sem] theorem aap:yQ Tryz.prog 224=some (some 4,1):=rfl
@[go_sem] theorem aaq:Nw Tryz.prog 224=some (4,1,false):=rfl
attribute [go_sem] Tryz.underlying227
@[go_sem] theorem aar:cw Tryz.prog 227=some 4:=rfl
@[go_sem] theorem aas:cB Tryz.prog 227=some true:=rfl
@[go_sem] theorem aat:dK Tryz.prog 227=some [.pointer none,.int .i64 0,.slice none 0 0,.slice none 0 0]:=rfl
@[go_sem] theorem aau:nr Tryz.prog 227=some ([.pointer none,.int .i64 0,.slice none 0 0,.slice none 0 0],fun j=>[(0,1),(1,1),(2,1),(3,1)][j]?):=rfl
@[go_sem] theorem Ss:cg Tryz.prog 227 0=some (0,1):=rfl
@[go_sem] theorem Sv:cj Tryz.prog 227 0=some (0,1,false):=rfl
@[go_sem] theorem Sw:cg Tryz.prog 227 1=some (1,1):=rfl
@[go_sem] theorem Sx:cj Tryz.prog 227 1=some (1,1,false):=rfl
@[go_sem] theorem Sy:cg Tryz.prog 227 2=some (2,1):=rfl
@[go_sem] theorem Sz:cj Tryz.prog 227 2=some (2,1,false):=rfl
@[go_sem] theorem SA:cg Tryz.prog 227 3=some (3,1):=rfl
@[go_sem] theorem SB:cj Tryz.prog 227 3=some (3,1,false):=rfl
attribute [go_sem] Tryz.underlying228
@[go_sem] theorem aav:cw Tryz.prog 228=some 1:=rfl
@[go_sem] theorem aaw:cB Tryz.prog 228=some false:=rfl
@[go_sem] theorem aax:dK Tryz.prog 228=some [.slice none 0 0]:=rfl
@[go_sem] theorem aay:yQ Tryz.prog 228=some (none,2):=rfl
@[go_sem] theorem aaz:A5 Tryz.prog 228=some (2,16,[.int .u64 0,.bool false]):=rfl
@[go_sem] theorem aaA:CX Tryz.prog 228 228=some (2,16,2):=rfl
attribute [go_sem] Tryz.underlying229
@[go_sem] theorem aaB:cw Tryz.prog 229=some 1:=rfl
@[go_sem] theorem aaC:cB Tryz.prog 229=some false:=rfl
@[go_sem] theorem aaD:dK Tryz.prog 229=some [.nilFunc]:=rfl
attribute [go_sem] Tryz.underlying231
@[go_sem] theorem aaE:cw Tryz.prog 231=some 3:=rfl
@[go_sem] theorem aaF:cB Tryz.prog 231=some true:=rfl
@[go_sem] theorem aaG:dK Tryz.prog 231=some [.pointer none,.slice none 0 0,.nilFunc]:=rfl
@[go_sem] theorem aaH:nr Tryz.prog 231=some ([.pointer none,.slice none 0 0,.nilFunc],fun j=>[(0,1),(1,1),(2,1)][j]?):=rfl
@[go_sem] theorem SC:cg Tryz.prog 231 0=some (0,1):=rfl
@[go_sem] theorem SD:cj Tryz.prog 231 0=some (0,1,false):=rfl
@[go_sem] theorem SE:cg Tryz.prog 231 1=some (1,1):=rfl
@[go_sem] theorem SF:cj Tryz.prog 231 1=some (1,1,false):=rfl
@[go_sem] theorem SG:cg Tryz.prog 231 2=some (2,1):=rfl
@[go_sem] theorem SH:cj Tryz.prog 231 2=some (2,1,false):=rfl
attribute [go_sem] Tryz.underlying232
@[go_sem] theorem aaI:cw Tryz.prog 232=some 1:=rfl
@[go_sem] theorem aaJ:cB Tryz.prog 232=some false:=rfl
@[go_sem] theorem aaK:dK Tryz.prog 232=some [.map none]:=rfl
attribute [go_sem] Tryz.underlying234
@[go_sem] theorem aaL:cw Tryz.prog 234=some 4:=rfl
@[go_sem] theorem aaM:cB Tryz.prog 234=some true:=rfl
@[go_sem] theorem aaN:dK Tryz.prog 234=some [.pointer none,.int .i64 0,.int .i64 0,.map none]:=rfl
@[go_sem] theorem aaO:nr Tryz.prog 234=some ([.pointer none,.int .i64 0,.int .i64 0,.map none],fun j=>[(0,1),(1,1),(2,1),(3,1)][j]?):=rfl
@[go_sem] theorem SI:cg Tryz.prog 234 0=some (0,1):=rfl
@[go_sem] theorem SJ:cj Tryz.prog 234 0=some (0,1,false):=rfl
@[go_sem] theorem SK:cg Tryz.prog 234 1=some (1,1):=rfl
@[go_sem] theorem SL:cj Tryz.prog 234 1=some (1,1,false):=rfl
@[go_sem] theorem SM:cg Tryz.prog 234 2=some (2,1):=rfl
@[go_sem] theorem SN:cj Tryz.prog 234 2=some (2,1,false):=rfl
@[go_sem] theorem SP:cg Tryz.prog 234 3=some (3,1):=rfl
@[go_sem] theorem SQ:cj Tryz.prog 234 3=some (3,1,false):=rfl
attribute [go_sem] Tryz.underlying257
@[go_sem] theorem aaP:cw Tryz.prog 257=some 1:=rfl
@[go_sem] theorem aaQ:cB Tryz.prog 257=some false:=rfl
@[go_sem] theorem aaR:dK Tryz.prog 257=some [.pointer none]:=rfl
attribute [go_sem] Tryz.underlying258
@[go_sem] theorem aaS:cw Tryz.prog 258=some 1:=rfl
@[go_sem] theorem aaT:cB Tryz.prog 258=some false:=rfl
@[go_sem] theorem call2 (args:List Value):ak Tryz.prog 2 args = .pure (.enter 2 args):=rfl
@[go_sem] theorem call3 (args:List Value):ak Tryz.prog 3 args = .pure (.enter 3 args):=rfl
@[go_sem] theorem call4 (args:List Value):ak Tryz.prog 4 args = .pure (.enter 4 args):=rfl
@[go_sem] theorem call5 (args:List Value):ak Tryz.prog 5 args = .pure (.enter 5 args):=rfl
@[go_sem] theorem call6 (args:List Value):ak Tryz.prog 6 args = .pure (.enter 6 args):=rfl
@[go_sem] theorem call7 (args:List Value):ak Tryz.prog 7 args = .pure (.enter 7 args):=rfl
@[go_sem] theorem call8 (args:List Value):ak Tryz.prog 8 args = .pure (.enter 8 args):=rfl
@[go_sem] theorem call9 (args:List Value):ak Tryz.prog 9 args = .pure (.enter 9 args):=rfl
@[go_sem] theorem call10 (args:List Value):ak Tryz.prog 10 args = .pure (.enter 10 args):=rfl
@[go_sem] theorem call11 (args:List Value):ak Tryz.prog 11 args = .pure (.enter 11 args):=rfl
@[go_sem] theorem call12 (args:List Value):ak Tryz.prog 12 args = .pure (.enter 12 args):=rfl
@[go_sem] theorem call13 (args:List Value):ak Tryz.prog 13 args = .pure (.enter 13 args):=rfl
@[go_sem] theorem call14 (args:List Value):ak Tryz.prog 14 args = .pure (.enter 14 args):=rfl
@[go_sem] theorem call15 (args:List Value):ak Tryz.prog 15 args = .pure (.enter 15 args):=rfl
@[go_sem] theorem call16 (args:List Value):ak Tryz.prog 16 args = .pure (.enter 16 args):=rfl
@[go_sem] theorem call17 (args:List Value):ak Tryz.prog 17 args = .pure (.enter 17 args):=rfl
@[go_sem] theorem call18 (args:List Value):ak Tryz.prog 18 args = .pure (.enter 18 args):=rfl
@[go_sem] theorem call19 (args:List Value):ak Tryz.prog 19 args = .pure (.enter 19 args):=rfl
@[go_sem] theorem call20 (args:List Value):ak Tryz.prog 20 args = .pure (.enter 20 args):=rfl
@[go_sem] theorem call21 (args:List Value):ak Tryz.prog 21 args = .pure (.enter 21 args):=rfl
@[go_sem] theorem call22 (args:List Value):ak Tryz.prog 22 args = .pure (.enter 22 args):=rfl
@[go_sem] theorem call23 (args:List Value):ak Tryz.prog 23 args = .pure (.enter 23 args):=rfl
@[go_sem] theorem call24 (args:List Value):ak Tryz.prog 24 args = .pure (.enter 24 args):=rfl
@[go_sem] theorem call25 (args:List Value):ak Tryz.prog 25 args = .pure (.enter 25 args):=rfl
@[go_sem] theorem call26 (args:List Value):ak Tryz.prog 26 args = .pure (.enter 26 args):=rfl
@[go_sem] theorem call27 (args:List Value):ak Tryz.prog 27 args = .pure (.enter 27 args):=rfl
@[go_sem] theorem call28 (args:List Value):ak Tryz.prog 28 args = .pure (.enter 28 args):=rfl
@[go_sem] theorem call29 (args:List Value):ak Tryz.prog 29 args = .pure (.enter 29 args):=rfl
@[go_sem] theorem call30 (args:List Value):ak Tryz.prog 30 args = .pure (.enter 30 args):=rfl
@[go_sem] theorem call31 (args:List Value):ak Tryz.prog 31 args = .pure (.enter 31 args):=rfl
@[go_sem] theorem call32 (args:List Value):ak Tryz.prog 32 args = .pure (.enter 32 args):=rfl
@[go_sem] theorem call33 (args:List Value):ak Tryz.prog 33 args = .pure (.enter 33 args):=rfl
@[go_sem] theorem call34 (args:List Value):ak Tryz.prog 34 args = .pure (.enter 34 args):=rfl
@[go_sem] theorem call35 (args:List Value):ak Tryz.prog 35 args = .pure (.enter 35 args):=rfl
@[go_sem] theorem call36 (args:List Value):ak Tryz.prog 36 args = .pure (.enter 36 args):=rfl
@[go_sem] theorem call37 (args:List Value):ak Tryz.prog 37 args = .pure (.enter 37 args):=rfl
@[go_sem] theorem call38 (args:List Value):ak Tryz.prog 38 args = .pure (.enter 38 args):=rfl
@[go_sem] theorem call39 (args:List Value):ak Tryz.prog 39 args = .pure (.enter 39 args):=rfl
@[go_sem] theorem call40 (args:List Value):ak Tryz.prog 40 args = .pure (.enter 40 args):=rfl
@[go_sem] theorem call41 (args:List Value):ak Tryz.prog 41 args = .pure (.enter 41 args):=rfl
@[go_sem] theorem call42 (args:List Value):ak Tryz.prog 42 args = .pure (.enter 42 args):=rfl
@[go_sem] theorem call43 (args:List Value):ak Tryz.prog 43 args = .pure (.enter 43 args):=rfl
@[go_sem] theorem call44 (args:List Value):ak Tryz.prog 44 args = .pure (.enter 44 args):=rfl
@[go_sem] theorem call45 (args:List Value):ak Tryz.prog 45 args = .pure (.enter 45 args):=rfl
@[go_sem] theorem call46 (args:List Value):ak Tryz.prog 46 args = .pure (.enter 46 args):=rfl
@[go_sem] theorem call47 (args:List Value):ak Tryz.prog 47 args = .pure (.enter 47 args):=rfl
@[go_sem] theorem call48 (args:List Value):ak Tryz.prog 48 args = .pure (.enter 48 args):=rfl
@[go_sem] theorem call49 (args:List Value):ak Tryz.prog 49 args = .pure (.enter 49 args):=rfl
@[go_sem] theorem call50 (args:List Value):ak Tryz.prog 50 args = .pure (.enter 50 args):=rfl
@[go_sem] theorem call51 (args:List Value):ak Tryz.prog 51 args = .pure (.enter 51 args):=rfl
@[go_sem] theorem call52 (args:List Value):ak Tryz.prog 52 args = .pure (.enter 52 args):=rfl
@[go_sem] theorem call53 (args:List Value):ak Tryz.prog 53 args = .pure (.enter 53 args):=rfl
@[go_sem] theorem call54 (args:List Value):ak Tryz.prog 54 args = .pure (.enter 54 args):=rfl
@[go_sem] theorem call55 (args:List Value):ak Tryz.prog 55 args = .pure (.enter 55 args):=rfl
@[go_sem] theorem call56 (args:List Value):ak Tryz.prog 56 args = .pure (.enter 56 args):=rfl
@[go_sem] theorem call57 (args:List Value):ak Tryz.prog 57 args = .pure (.enter 57 args):=rfl
@[go_sem] theorem call58 (args:List Value):ak Tryz.prog 58 args = .pure (.enter 58 args):=rfl
@[go_sem] theorem call59 (args:List Value):ak Tryz.prog 59 args = .pure (.enter 59 args):=rfl
@[go_sem] theorem call60 (args:List Value):ak Tryz.prog 60 args = .pure (.enter 60 args):=rfl
@[go_sem] theorem call61 (args:List Value):ak Tryz.prog 61 args = .pure (.enter 61 args):=rfl
@[go_sem] theorem call62 (args:List Value):ak Tryz.prog 62 args = .pure (.enter 62 args):=rfl
@[go_sem] theorem call63 (args:List Value):ak Tryz.prog 63 args = .pure (.enter 63 args):=rfl
@[go_sem] theorem call64 (args:List Value):ak Tryz.prog 64 args = .pure (.enter 64 args):=rfl
@[go_sem] theorem call65 (args:List Value):ak Tryz.prog 65 args = .pure (.enter 65 args):=rfl
@[go_sem] theorem call66 (args:List Value):ak Tryz.prog 66 args = .pure (.enter 66 args):=rfl
@[go_sem] theorem call67 (args:List Value):ak Tryz.prog 67 args = .pure (.enter 67 args):=rfl
@[go_sem] theorem call68 (args:List Value):ak Tryz.prog 68 args = .pure (.enter 68 args):=rfl
@[go_sem] theorem call69 (args:List Value):ak Tryz.prog 69 args = .pure (.enter 69 args):=rfl
@[go_sem] theorem call70 (args:List Value):ak Tryz.prog 70 args = .pure (.enter 70 args):=rfl
@[go_sem] theorem call71 (args:List Value):ak Tryz.prog 71 args = .pure (.enter 71 args):=rfl
@[go_sem] theorem call72 (args:List Value):ak Tryz.prog 72 args = .pure (.enter 72 args):=rfl
@[go_sem] theorem call73 (args:List Value):ak Tryz.prog 73 args = .pure (.enter 73 args):=rfl
@[go_sem] theorem call74 (args:List Value):ak Tryz.prog 74 args = .pure (.enter 74 args):=rfl
@[go_sem] theorem call75 (args:List Value):ak Tryz.prog 75 args = .pure (.enter 75 args):=rfl
@[go_sem] theorem call76 (args:List Value):ak Tryz.prog 76 args = .pure (.enter 76 args):=rfl
@[go_sem] theorem call78 (args:List Value):ak Tryz.prog 78 args = .pure (.enter 78 args):=rfl
@[go_sem] theorem call79 (args:List Value):ak Tryz.prog 79 args = .pure (.enter 79 args):=rfl
@[go_sem] theorem call80 (args:List Value):ak Tryz.prog 80 args = .pure (.enter 80 args):=rfl
@[go_sem] theorem call81 (args:List Value):ak Tryz.prog 81 args = .pure (.enter 81 args):=rfl
@[go_sem] theorem call82 (args:List Value):ak Tryz.prog 82 args = .pure (.enter 82 args):=rfl
@[go_sem] theorem call83 (args:List Value):ak Tryz.prog 83 args = .pure (.enter 83 args):=rfl
@[go_sem] theorem call84 (args:List Value):ak Tryz.prog 84 args = .pure (.enter 84 args):=rfl
@[go_sem] theorem call85 (args:List Value):ak Tryz.prog 85 args = .pure (.enter 85 args):=rfl
@[go_sem] theorem call86 (args:List Value):ak Tryz.prog 86 args = .pure (.enter 86 args):=rfl
@[go_sem] theorem call87 (args:List Value):ak Tryz.prog 87 args = .pure (.enter 87 args):=rfl
@[go_sem] theorem call88 (args:List Value):ak Tryz.prog 88 args = .pure (.enter 88 args):=rfl
@[go_sem] theorem call89 (args:List Value):ak Tryz.prog 89 args = .pure (.enter 89 args):=rfl
@[go_sem] theorem call90 (args:List Value):ak Tryz.prog 90 args = .pure (.enter 90 args):=rfl
@[go_sem] theorem call91 (args:List Value):ak Tryz.prog 91 args = .pure (.enter 91 args):=rfl
@[go_sem] theorem call92 (args:List Value):ak Tryz.prog 92 args = .pure (.enter 92 args):=rfl
@[go_sem] theorem call93 (args:List Value):ak Tryz.prog 93 args = .pure (.enter 93 args):=rfl
@[go_sem] theorem call94 (args:List Value):ak Tryz.prog 94 args = .pure (.enter 94 args):=rfl
@[go_sem] theorem call95 (args:List Value):ak Tryz.prog 95 args = .pure (.enter 95 args):=rfl
@[go_sem] theorem call96 (args:List Value):ak Tryz.prog 96 args = .pure (.enter 96 args):=rfl
@[go_sem] theorem call97 (args:List Value):ak Tryz.prog 97 args = .pure (.enter 97 args):=rfl
@[go_sem] theorem call98 (args:List Value):ak Tryz.prog 98 args = .pure (.enter 98 args):=rfl
@[go_sem] theorem call99 (args:List Value):ak Tryz.prog 99 args = .pure (.enter 99 args):=rfl
@[go_sem] theorem call100 (args:List Value):ak Tryz.prog 100 args = .pure (.enter 100 args):=rfl
@[go_sem] theorem call101 (args:List Value):ak Tryz.prog 101 args = .pure (.enter 101 args):=rfl
@[go_sem] theorem call102 (args:List Value):ak Tryz.prog 102 args = .pure (.enter 102 args):=rfl
@[go_sem] theorem call103 (args:List Value):ak Tryz.prog 103 args = .pure (.enter 103 args):=rfl
@[go_sem] theorem call104 (args:List Value):ak Tryz.prog 104 args = .pure (.enter 104 args):=rfl
@[go_sem] theorem call105 (args:List Value):ak Tryz.prog 105 args = .pure (.enter 105 args):=rfl
@[go_sem] theorem call107 (args:List Value):ak Tryz.prog 107 args = .pure (.enter 107 args):=rfl
@[go_sem] theorem call108 (args:List Value):ak Tryz.prog 108 args = .pure (.enter 108 args):=rfl
@[go_sem] theorem call109 (args:List Value):ak Tryz.prog 109 args = .pure (.enter 109 args):=rfl
@[go_sem] theorem call110 (args:List Value):ak Tryz.prog 110 args = .pure (.enter 110 args):=rfl
@[go_sem] theorem call111 (args:List Value):ak Tryz.prog 111 args = .pure (.enter 111 args):=rfl
@[go_sem] theorem call112 (args:List Value):ak Tryz.prog 112 args = .pure (.enter 112 args):=rfl
@[go_sem] theorem call113 (args:List Value):ak Tryz.prog 113 args = .pure (.enter 113 args):=rfl
@[go_sem] theorem call114 (args:List Value):ak Tryz.prog 114 args = .pure (.enter 114 args):=rfl
@[go_sem] theorem call115 (args:List Value):ak Tryz.prog 115 args = .pure (.enter 115 args):=rfl
@[go_sem] theorem call116 (args:List Value):ak Tryz.prog 116 args = .pure (.enter 116 args):=rfl
@[go_sem] theorem call117 (args:List Value):ak Tryz.prog 117 args = .pure (.enter 117 args):=rfl
@[go_sem] theorem call118 (args:List Value):ak Tryz.prog 118 args = .pure (.enter 118 args):=rfl
@[go_sem] theorem call119 (args:List Value):ak Tryz.prog 119 args = .pure (.enter 119 args):=rfl
@[go_sem] theorem call120 (args:List Value):ak Tryz.prog 120 args = .pure (.enter 120 args):=rfl
@[go_sem] theorem call121 (args:List Value):ak Tryz.prog 121 args = .pure (.enter 121 args):=rfl
@[go_sem] theorem call122 (args:List Value):ak Tryz.prog 122 args = .pure (.enter 122 args):=rfl
@[go_sem] theorem call123 (args:List Value):ak Tryz.prog 123 args = .pure (.enter 123 args):=rfl
@[go_sem] theorem call124 (args:List Value):ak Tryz.prog 124 args = .pure (.enter 124 args):=rfl
@[go_sem] theorem call125 (args:List Value):ak Tryz.prog 125 args = .pure (.enter 125 args):=rfl
@[go_sem] theorem call126 (args:List Value):ak Tryz.prog 126 args = .pure (.enter 126 args):=rfl
@[go_sem] theorem call127 (args:List Value):ak Tryz.prog 127 args = .pure (.enter 127 args):=rfl
@[go_sem] theorem call128 (args:List Value):ak Tryz.prog 128 args = .pure (.enter 128 args):=rfl
@[go_sem] theorem call129 (args:List Value):ak Tryz.prog 129 args = .pure (.enter 129 args):=rfl
@[go_sem] theorem call130 (args:List Value):ak Tryz.prog 130 args = .pure (.enter 130 args):=rfl
@[go_sem] theorem call131 (args:List Value):ak Tryz.prog 131 args = .pure (.enter 131 args):=rfl
@[go_sem] theorem call132 (args:List Value):ak Tryz.prog 132 args = .pure (.enter 132 args):=rfl
@[go_sem] theorem call133 (args:List Value):ak Tryz.prog 133 args = .pure (.enter 133 args):=rfl
@[go_sem] theorem call134 (args:List Value):ak Tryz.prog 134 args = .pure (.enter 134 args):=rfl
@[go_sem] theorem call135 (args:List Value):ak Tryz.prog 135 args = .pure (.enter 135 args):=rfl
@[go_sem] theorem call136 (args:List Value):ak Tryz.prog 136 args = .pure (.enter 136 args):=rfl
@[go_sem] theorem call137 (args:List Value):ak Tryz.prog 137 args = .pure (.enter 137 args):=rfl
@[go_sem] theorem call138 (args:List Value):ak Tryz.prog 138 args = .pure (.enter 138 args):=rfl
@[go_sem] theorem call139 (args:List Value):ak Tryz.prog 139 args = .pure (.enter 139 args):=rfl
@[go_sem] theorem call140 (args:List Value):ak Tryz.prog 140 args = .pure (.enter 140 args):=rfl
@[go_sem] theorem call141 (args:List Value):ak Tryz.prog 141 args = .pure (.enter 141 args):=rfl
@[go_sem] theorem call142 (args:List Value):ak Tryz.prog 142 args = .pure (.enter 142 args):=rfl
@[go_sem] theorem call143 (args:List Value):ak Tryz.prog 143 args = .pure (.enter 143 args):=rfl
@[go_sem] theorem call144 (args:List Value):ak Tryz.prog 144 args = .pure (.enter 144 args):=rfl
@[go_sem] theorem call145 (args:List Value):ak Tryz.prog 145 args = .pure (.enter 145 args):=rfl
@[go_sem] theorem call146 (args:List Value):ak Tryz.prog 146 args = .pure (.enter 146 args):=rfl
@[go_sem] theorem call147 (args:List Value):ak Tryz.prog 147 args = .pure (.enter 147 args):=rfl
@[go_sem] theorem call148 (args:List Value):ak Tryz.prog 148 args = .pure (.enter 148 args):=rfl
@[go_sem] theorem call168 (args:List Value):ak Tryz.prog 168 args = .pure (.enter 168 args):=rfl
@[go_sem] theorem call170 (args:List Value):ak Tryz.prog 170 args = .pure (.enter 170 args):=rfl
@[go_sem] theorem call174 (args:List Value):ak Tryz.prog 174 args = .pure (.enter 174 args):=rfl
@[go_sem] theorem call179 (args:List Value):ak Tryz.prog 179 args = .pure (.enter 179 args):=rfl
attribute [go_sem_proc] Nat.reduceLT Nat.reduceAdd Nat.reduceMul Nat.reduceSub Nat.reduceEqDiff Nat.reduceLeDiff Int.reduceToNat Int.reduceLT Int.reduceLE Int.reduceEq Int.reduceNe Int.reduceAdd Int.reduceSub Int.reduceMul Int.reduceNeg reduceCtorEq
attribute [go_sem_proc ↓] reduceIte
@[go_sem] def HR:List (Nat×Nat):=[(0,1),(0,2),(0,3),(0,4),(0,5),(0,6),(1,6),(2,6),(3,6),(4,6),(5,6),(0,7),(1,7),(2,7),(3,7),(4,7),(5,7),(0,8),(1,8),(2,8),(3,8),(4,8),(5,8),(6,8),(7,8),(0,9),(1,9),(2,9),(3,9),(4,9),(5,9),(6,9),(7,9),(0,10),(1,10),(2,10),(3,10),(4,10),(5,10),(6,10),(7,10),(0,11),(1,11),(2,11),(3,11),(4,11),(5,11),(6,11),(7,11),(8,11),(9,11),(10,11),(0,12),(1,12),(2,12),(3,12),(4,12),(5,12),(6,12),(7,12),(8,12),(9,12),(10,12),(0,13),(1,13),(2,13),(3,13),(4,13),(5,13),(6,13),(7,13),(8,13),(9,13),(10,13),(11,13),(12,13),(0,14),(1,14),(2,14),(3,14),(4,14),(5,14),(6,14),(7,14),(8,14),(9,14),(10,14),(11,14),(12,14),(0,15),(0,16),(0,17),(0,18),(17,18),(18,19),(18,20),(18,21),(18,22)]
@[go_sem] def vv:List (Nat×Nat):=[(0,1),(0,2),(0,3),(0,4),(0,5),(0,6),(1,6),(2,6),(3,6),(4,6),(5,6),(0,7),(0,8),(0,9),(1,9),(2,9),(3,9),(4,9),(5,9),(6,9),(7,9),(8,9),(0,10),(1,10),(2,10),(3,10),(4,10),(5,10),(6,10),(7,10),(8,10),(0,11),(1,11),(2,11),(3,11),(4,11),(5,11),(6,11),(7,11),(8,11),(0,12),(1,12),(2,12),(3,12),(4,12),(5,12),(6,12),(7,12),(8,12),(0,13),(1,13),(2,13),(3,13),(4,13),(5,13),(6,13),(7,13),(8,13),(0,14),(1,14),(2,14),(3,14),(4,14),(5,14),(6,14),(7,14),(8,14),(13,14),(14,15),(14,16)]
@[go_sem] def ke:List (Nat×Nat):=[(0,4),(1,4),(2,4),(3,4),(0,5),(1,5),(2,5),(3,5),(4,5)]
@[go_sem] def vw:List (Nat×Nat):=[(0,1),(0,4),(1,4),(2,4),(3,4),(0,5),(1,5),(2,5),(3,5),(4,5),(0,6),(1,6),(2,6),(3,6),(0,7),(1,7),(2,7),(3,7)]
@[go_sem] def JW:List (Nat×Nat):=[(0,1),(0,2),(1,2),(0,3),(1,3),(0,4),(1,4),(2,4),(3,4),(0,5),(1,5),(2,5),(3,5),(0,6),(1,6),(2,6),(3,6),(4,6),(5,6),(0,7),(1,7),(2,7),(3,7),(4,7),(5,7),(6,7),(0,8),(1,8),(2,8),(3,8),(4,8),(5,8),(6,8),(0,9),(1,9),(2,9),(3,9),(4,9),(5,9),(6,9)]
@[go_sem] def qE:List (Nat×Nat):=[(0,1),(0,2),(0,3),(0,4),(0,5),(0,6),(1,7),(2,7),(3,7),(4,7),(5,7),(6,7)]
@[go_sem] def eU:List (Nat×Nat):=[(0,5),(1,5),(2,5),(3,5),(4,5),(0,6),(1,6),(2,6),(3,6),(4,6),(0,7),(1,7),(2,7),(3,7),(4,7),(0,8),(1,8),(2,8),(3,8),(4,8),(0,9),(1,9),(2,9),(3,9),(4,9),(5,9),(6,9),(7,9),(8,9),(0,10),(1,10),(2,10),(3,10),(4,10),(5,10),(6,10),(7,10),(8,10),(0,11),(1,11),(2,11),(3,11),(4,11),(5,11),(6,11),(7,11),(8,11),(0,12),(1,12),(2,12),(3,12),(4,12),(5,12),(6,12),(7,12),(8,12),(5,13),(6,13),(7,13),(8,13),(9,13),(10,13),(11,13),(12,13),(9,14),(10,14),(11,14),(12,14)]
@[go_sem] def sB:List (Nat×Nat):=[(0,1),(0,2),(0,3),(0,4),(0,5),(0,6),(1,7),(2,7),(3,7),(4,7),(5,7),(6,7)]
@[go_sem] def yj:List (Nat×Nat):=[(0,1),(0,2),(1,2),(0,3),(1,3),(0,4),(1,4),(2,4),(3,4),(0,5),(1,5),(2,5),(3,5)]
@[go_sem] def Dk:List (Nat×Nat):=[(0,5),(1,5),(2,5),(3,5),(4,5),(0,6),(1,6),(2,6),(3,6),(4,6),(0,8),(1,8),(2,8),(3,8),(4,8),(5,8),(6,8),(7,8),(0,9),(1,9),(2,9),(3,9),(4,9),(5,9),(6,9),(7,9),(0,10),(1,10),(2,10),(3,10),(4,10),(5,10),(6,10),(7,10),(0,11),(1,11),(2,11),(3,11),(4,11),(5,11),(6,11),(7,11),(0,12),(1,12),(2,12),(3,12),(4,12),(5,12),(6,12),(7,12),(11,12),(0,13),(1,13),(2,13),(3,13),(4,13),(5,13),(6,13),(7,13),(11,13),(0,14),(1,14),(2,14),(3,14),(4,14),(5,14),(6,14),(7,14),(11,14),(0,15),(1,15),(2,15),(3,15),(4,15),(5,15),(6,15),(7,15),(11,15),(0,16),(1,16),(2,16),(3,16),(4,16),(5,16),(6,16),(7,16),(0,17),(1,17),(2,17),(3,17),(4,17),(5,17),(6,17),(7,17),(11,18),(12,18),(13,18),(14,18),(15,18),(16,18),(17,18)]
@[go_sem] def HT:List (Nat×Nat):=[(0,8),(1,8),(2,8),(3,8),(4,8),(5,8),(6,8),(7,8),(0,9),(1,9),(2,9),(3,9),(4,9),(5,9),(6,9),(7,9),(0,10),(1,10),(2,10),(3,10),(4,10),(5,10),(6,10),(7,10),(0,11),(1,11),(2,11),(3,11),(4,11),(5,11),(6,11),(7,11),(0,12),(1,12),(2,12),(3,12),(4,12),(5,12),(6,12),(7,12),(0,13),(1,13),(2,13),(3,13),(4,13),(5,13),(6,13),(7,13),(8,13),(9,13),(10,13),(11,13),(12,13),(0,14),(1,14),(2,14),(3,14),(4,14),(5,14),(6,14),(7,14),(8,14),(9,14),(10,14),(11,14),(12,14),(0,15),(1,15),(2,15),(3,15),(4,15),(5,15),(6,15),(7,15),(8,15),(9,15),(10,15),(11,15),(12,15),(0,16),(1,16),(2,16),(3,16),(4,16),(5,16),(6,16),(7,16),(8,16),(9,16),(10,16),(11,16),(12,16),(13,16),(14,16),(15,16),(0,17),(1,17),(2,17),(3,17),(4,17),(5,17),(6,17),(7,17),(8,17),(9,17),(10,17),(11,17),(12,17),(13,17),(14,17),(15,17),(0,18),(1,18),(2,18),(3,18),(4,18),(5,18),(6,18),(7,18),(8,18),(9,18),(10,18),(11,18),(12,18),(13,18),(14,18),(15,18),(0,19),(1,19),(2,19),(3,19),(4,19),(5,19),(6,19),(7,19),(8,19),(9,19),(10,19),(11,19),(12,19),(13,19),(14,19),(15,19),(0,20),(1,20),(2,20),(3,20),(4,20),(5,20),(6,20),(7,20),(8,20),(9,20),(10,20),(11,20),(12,20),(13,20),(14,20),(15,20),(0,21),(1,21),(2,21),(3,21),(4,21),(5,21),(6,21),(7,21),(8,21),(9,21),(10,21),(11,21),(12,21),(24,25),(25,26)]
@[go_sem] def HU:List (Nat×Nat):=[(0,3),(1,3),(2,3),(0,4),(1,4),(2,4),(0,5),(1,5),(2,5),(0,6),(1,6),(2,6)]
@[go_sem] def HV:List (Nat×Nat):=[(0,8),(1,8),(2,8),(3,8),(4,8),(5,8),(6,8),(7,8),(0,9),(1,9),(2,9),(3,9),(4,9),(5,9),(6,9),(7,9),(0,10),(1,10),(2,10),(3,10),(4,10),(5,10),(6,10),(7,10),(0,11),(1,11),(2,11),(3,11),(4,11),(5,11),(6,11),(7,11),(0,12),(1,12),(2,12),(3,12),(4,12),(5,12),(6,12),(7,12)]
@[go_sem] def HW:List (Nat×Nat):=[(0,4),(1,4),(2,4),(3,4),(0,5),(1,5),(2,5),(3,5),(0,6),(1,6),(2,6),(3,6),(0,7),(1,7),(2,7),(3,7)]
@[go_sem] def Dl:List (Nat×Nat):=[(0,8),(1,8),(2,8),(3,8),(4,8),(5,8),(6,8),(7,8),(0,9),(1,9),(2,9),(3,9),(4,9),(5,9),(6,9),(7,9),(0,10),(1,10),(2,10),(3,10),(4,10),(5,10),(6,10),(7,10),(0,11),(1,11),(2,11),(3,11),(4,11),(5,11),(6,11),(7,11),(0,12),(1,12),(2,12),(3,12),(4,12),(5,12),(6,12),(7,12),(0,13),(1,13),(2,13),(3,13),(4,13),(5,13),(6,13),(7,13),(8,13),(9,13),(10,13),(11,13),(12,13),(0,14),(1,14),(2,14),(3,14),(4,14),(5,14),(6,14),(7,14),(8,14),(9,14),(10,14),(11,14),(12,14),(0,15),(1,15),(2,15),(3,15),(4,15),(5,15),(6,15),(7,15),(8,15),(9,15),(10,15),(11,15),(12,15),(0,16),(1,16),(2,16),(3,16),(4,16),(5,16),(6,16),(7,16),(8,16),(9,16),(10,16),(11,16),(12,16),(13,16),(14,16),(15,16),(0,17),(1,17),(2,17),(3,17),(4,17),(5,17),(6,17),(7,17),(8,17),(9,17),(10,17),(11,17),(12,17),(13,17),(14,17),(15,17),(0,18),(1,18),(2,18),(3,18),(4,18),(5,18),(6,18),(7,18),(8,18),(9,18),(10,18),(11,18),(12,18),(13,18),(14,18),(15,18),(0,19),(1,19),(2,19),(3,19),(4,19),(5,19),(6,19),(7,19),(8,19),(9,19),(10,19),(11,19),(12,19),(13,19),(14,19),(15,19),(0,20),(1,20),(2,20),(3,20),(4,20),(5,20),(6,20),(7,20),(8,20),(9,20),(10,20),(11,20),(12,20),(13,20),(14,20),(15,20),(0,21),(1,21),(2,21),(3,21),(4,21),(5,21),(6,21),(7,21),(8,21),(9,21),(10,21),(11,21),(12,21),(0,22),(1,22),(2,22),(3,22),(4,22),(5,22),(6,22),(7,22),(8,22),(9,22),(10,22),(11,22),(12,22),(13,22),(14,22),(15,22),(16,22),(17,22),(18,22),(19,22),(20,22),(21,22),(0,23),(1,23),(2,23),(3,23),(4,23),(5,23),(6,23),(7,23),(8,23),(9,23),(10,23),(11,23),(12,23),(13,23),(14,23),(15,23),(16,23),(17,23),(18,23),(19,23),(20,23),(21,23),(0,24),(1,24),(2,24),(3,24),(4,24),(5,24),(6,24),(7,24),(8,24),(9,24),(10,24),(11,24),(12,24),(13,24),(14,24),(15,24),(16,24),(17,24),(18,24),(19,24),(20,24),(21,24),(0,25),(1,25),(2,25),(3,25),(4,25),(5,25),(6,25),(7,25),(8,25),(9,25),(10,25),(11,25),(12,25),(13,25),(14,25),(15,25),(16,25),(17,25),(18,25),(19,25),(20,25),(21,25),(0,26),(1,26),(2,26),(3,26),(4,26),(5,26),(6,26),(7,26),(8,26),(9,26),(10,26),(11,26),(12,26),(13,26),(14,26),(15,26),(16,26),(17,26),(18,26),(19,26),(20,26),(21,26),(0,27),(1,27),(2,27),(3,27),(4,27),(5,27),(6,27),(7,27),(8,27),(9,27),(10,27),(11,27),(12,27),(0,28),(1,28),(2,28),(3,28),(4,28),(5,28),(6,28),(7,28),(8,28),(9,28),(10,28),(11,28),(12,28)]
@[go_sem] def Dm:List (Nat×Nat):=[(0,3),(1,3),(2,3),(0,4),(1,4),(2,4),(0,5),(1,5),(2,5),(0,6),(1,6),(2,6),(0,7),(1,7),(2,7)]
@[go_sem] def Dn:List (Nat×Nat):=[(0,8),(1,8),(2,8),(3,8),(4,8),(5,8),(6,8),(7,8),(0,9),(1,9),(2,9),(3,9),(4,9),(5,9),(6,9),(7,9),(0,10),(1,10),(2,10),(3,10),(4,10),(5,10),(6,10),(7,10),(0,11),(1,11),(2,11),(3,11),(4,11),(5,11),(6,11),(7,11),(0,12),(1,12),(2,12),(3,12),(4,12),(5,12),(6,12),(7,12)]
@[go_sem] def Dp:List (Nat×Nat):=[(0,8),(1,8),(2,8),(3,8),(4,8),(5,8),(6,8),(7,8),(0,9),(1,9),(2,9),(3,9),(4,9),(5,9),(6,9),(7,9),(0,10),(1,10),(2,10),(3,10),(4,10),(5,10),(6,10),(7,10),(0,11),(1,11),(2,11),(3,11),(4,11),(5,11),(6,11),(7,11),(0,12),(1,12),(2,12),(3,12),(4,12),(5,12),(6,12),(7,12),(0,13),(1,13),(2,13),(3,13),(4,13),(5,13),(6,13),(7,13)]
@[go_sem] def tU:List (Nat×Nat):=[(0,1),(0,2),(0,3),(0,4),(0,5),(0,6),(0,7),(0,8),(1,8),(2,8),(3,8),(4,8),(5,8),(6,8),(7,8),(0,9),(1,9),(2,9),(3,9),(4,9),(5,9),(6,9),(7,9),(0,10),(1,10),(2,10),(3,10),(4,10),(5,10),(6,10),(7,10),(0,11),(1,11),(2,11),(3,11),(4,11),(5,11),(6,11),(7,11),(0,12),(1,12),(2,12),(3,12),(4,12),(5,12),(6,12),(7,12),(8,12),(9,12),(10,12),(11,12),(0,13),(1,13),(2,13),(3,13),(4,13),(5,13),(6,13),(7,13),(8,13),(9,13),(10,13),(11,13),(0,14),(1,14),(2,14),(3,14),(4,14),(5,14),(6,14),(7,14),(8,14),(9,14),(10,14),(11,14),(0,15),(1,15),(2,15),(3,15),(4,15),(5,15),(6,15),(7,15),(8,15),(9,15),(10,15),(11,15),(0,16),(0,17),(0,18),(0,19),(18,19),(19,20),(19,21),(19,22)]
@[go_sem] def tV:List (Nat×Nat):=[(0,7),(1,7),(2,7),(3,7),(4,7),(5,7),(6,7),(0,8),(1,8),(2,8),(3,8),(4,8),(5,8),(6,8),(0,9),(1,9),(2,9),(3,9),(4,9),(5,9),(6,9),(0,10),(1,10),(2,10),(3,10),(4,10),(5,10),(6,10),(0,11),(1,11),(2,11),(3,11),(4,11),(5,11),(6,11),(7,11),(8,11),(9,11),(10,11),(0,12),(1,12),(2,12),(3,12),(4,12),(5,12),(6,12),(7,12),(8,12),(9,12),(10,12),(0,13),(1,13),(2,13),(3,13),(4,13),(5,13),(6,13),(7,13),(8,13),(9,13),(10,13),(0,14),(1,14),(2,14),(3,14),(4,14),(5,14),(6,14),(7,14),(8,14),(9,14),(10,14),(0,15),(1,15),(2,15),(3,15),(4,15),(5,15),(6,15),(7,15),(8,15),(9,15),(10,15),(11,15),(12,15),(13,15),(14,15),(0,16),(1,16),(2,16),(3,16),(4,16),(5,16),(6,16),(7,16),(8,16),(9,16),(10,16),(11,16),(12,16),(13,16),(14,16),(0,17),(1,17),(2,17),(3,17),(4,17),(5,17),(6,17),(7,17),(8,17),(9,17),(10,17),(11,17),(12,17),(13,17),(14,17),(0,18),(1,18),(2,18),(3,18),(4,18),(5,18),(6,18),(7,18),(8,18),(9,18),(10,18),(11,18),(12,18),(13,18),(14,18),(0,19),(1,19),(2,19),(3,19),(4,19),(5,19),(6,19),(7,19),(8,19),(9,19),(10,19),(11,19),(12,19),(13,19),(14,19),(15,19),(16,19),(17,19),(18,19),(22,23),(23,24)]
attribute [go_sem] Tryz.results5 Tryz.results6 Tryz.results8 Tryz.results10 Tryz.results11 Tryz.results13 Tryz.results17 Tryz.results19 Tryz.results21 Tryz.results22 Tryz.results23 Tryz.results26 Tryz.results27 Tryz.results28 Tryz.results29 Tryz.results30 Tryz.results31 Tryz.results32 Tryz.results33 Tryz.results34 Tryz.results35 Tryz.results36 Tryz.results37 Tryz.results38 Tryz.results39 Tryz.results40 Tryz.results41 Tryz.results42 Tryz.results43 Tryz.results44 Tryz.results55 Tryz.results56 Tryz.results57 Tryz.results58 Tryz.results59 Tryz.results60 Tryz.results61 Tryz.results62 Tryz.results63 Tryz.results64 Tryz.results65 Tryz.results66 Tryz.results67 Tryz.results68 Tryz.results69 Tryz.results70 Tryz.results71 Tryz.results72 Tryz.results73 Tryz.results74 Tryz.results75 Tryz.results76 Tryz.results78 Tryz.results79 Tryz.results80 Tryz.results85 Tryz.results95 Tryz.results96 Tryz.results97 Tryz.results98 Tryz.results99 Tryz.results100 Tryz.results101 Tryz.results102 Tryz.results103 Tryz.results104 Tryz.results105 Tryz.results107 Tryz.results108 Tryz.results109 Tryz.results128 Tryz.results129 Tryz.results130 Tryz.results131 Tryz.results132 Tryz.results133 Tryz.results134 Tryz.results143 Tryz.results144 Tryz.results145 Tryz.results148
attribute [go_sem] Tryz.ntmps5 Tryz.ntmps6 Tryz.ntmps8 Tryz.ntmps10 Tryz.ntmps11 Tryz.ntmps13 Tryz.ntmps17 Tryz.ntmps19 Tryz.ntmps21 Tryz.ntmps22 Tryz.ntmps23 Tryz.ntmps26 Tryz.ntmps27 Tryz.ntmps28 Tryz.ntmps29 Tryz.ntmps30 Tryz.ntmps31 Tryz.ntmps32 Tryz.ntmps33 Tryz.ntmps34 Tryz.ntmps35 Tryz.ntmps36 Tryz.ntmps37 Tryz.ntmps38 Tryz.ntmps39 Tryz.ntmps40 Tryz.ntmps41 Tryz.ntmps42 Tryz.ntmps43 Tryz.ntmps44 Tryz.ntmps55 Tryz.ntmps56 Tryz.ntmps57 Tryz.ntmps58 Tryz.ntmps59 Tryz.ntmps60 Tryz.ntmps61 Tryz.ntmps62 Tryz.ntmps63 Tryz.ntmps64 Tryz.ntmps65 Tryz.ntmps66 Tryz.ntmps67 Tryz.ntmps68 Tryz.ntmps69 Tryz.ntmps70 Tryz.ntmps71 Tryz.ntmps72 Tryz.ntmps73 Tryz.ntmps74 Tryz.ntmps75 Tryz.ntmps76 Tryz.ntmps78 Tryz.ntmps79 Tryz.ntmps80 Tryz.ntmps85 Tryz.ntmps95 Tryz.ntmps96 Tryz.ntmps97 Tryz.ntmps98 Tryz.ntmps99 Tryz.ntmps100 Tryz.ntmps101 Tryz.ntmps102 Tryz.ntmps103 Tryz.ntmps104 Tryz.ntmps105 Tryz.ntmps107 Tryz.ntmps108 Tryz.ntmps109 Tryz.ntmps128 Tryz.ntmps129 Tryz.ntmps130 Tryz.ntmps131 Tryz.ntmps132 Tryz.ntmps133 Tryz.ntmps134 Tryz.ntmps143 Tryz.ntmps144 Tryz.ntmps145 Tryz.ntmps148
end Go.Proofs.YtfhmopghjoeamaaGreat
