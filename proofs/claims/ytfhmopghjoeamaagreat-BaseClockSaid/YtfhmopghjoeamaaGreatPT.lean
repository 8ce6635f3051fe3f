/-
  What the program's types are, in the abstract machine's words: read off the program by program.
-/
import Derived.Test.YtfhmopghjoeamaaGreatProg
import Derived.Test.YtfhmopghjoeamaaGreatAmV4
set_option linter.unusedVariables false
set_option maxRecDepth 100000
namespace Go.Proofs.YtfhmopghjoeamaaGreat
open Go.Am
attribute [go_sem] Tryz.underlying0
@[go_sem] theorem Zm:cI Tryz.prog 0=some 1:=rfl
@[go_sem] theorem Zn:cN Tryz.prog 0=some false:=rfl
attribute [go_sem] Tryz.underlying3
@[go_sem] theorem Zo:cI Tryz.prog 3=some 1:=rfl
@[go_sem] theorem Zp:cN Tryz.prog 3=some false:=rfl
@[go_sem] theorem Zq:ej Tryz.prog 3=some [.int .i64 0]:=rfl
attribute [go_sem] Tryz.underlying4
@[go_sem] theorem Zr:cI Tryz.prog 4=some 1:=rfl
@[go_sem] theorem Zs:cN Tryz.prog 4=some false:=rfl
@[go_sem] theorem Zt:ej Tryz.prog 4=some [.bool false]:=rfl
attribute [go_sem] Tryz.underlying5
@[go_sem] theorem Zu:cI Tryz.prog 5=some 1:=rfl
@[go_sem] theorem Zv:cN Tryz.prog 5=some false:=rfl
@[go_sem] theorem Zw:ej Tryz.prog 5=some [.int .u8 0]:=rfl
attribute [go_sem] Tryz.underlying22
@[go_sem] theorem Ww:cI Tryz.prog 22=some 1:=rfl
@[go_sem] theorem Wx:cN Tryz.prog 22=some false:=rfl
@[go_sem] theorem Wy:ej Tryz.prog 22=some [.slice none 0 0]:=rfl
@[go_sem] theorem Wz:vV Tryz.prog 22=some (none,1):=rfl
@[go_sem] theorem WA:ym Tryz.prog 22=some (1,1,[.int .u8 0]):=rfl
@[go_sem] theorem WB:Ae Tryz.prog 22 22=some (1,1,1):=rfl
attribute [go_sem] Tryz.underlying23
@[go_sem] theorem WC:cI Tryz.prog 23=some 1:=rfl
@[go_sem] theorem WD:cN Tryz.prog 23=some false:=rfl
@[go_sem] theorem WE:ej Tryz.prog 23=some [.pointer none]:=rfl
attribute [go_sem] Tryz.underlying24
@[go_sem] theorem WG:cI Tryz.prog 24=some 1:=rfl
@[go_sem] theorem WH:cN Tryz.prog 24=some false:=rfl
@[go_sem] theorem WI:ej Tryz.prog 24=some [.int .i64 0]:=rfl
attribute [go_sem] Tryz.underlying25
@[go_sem] theorem WJ:cI Tryz.prog 25=some 1:=rfl
@[go_sem] theorem WK:cN Tryz.prog 25=some false:=rfl
attribute [go_sem] Tryz.underlying27
@[go_sem] theorem WL:cI Tryz.prog 27=some 1:=rfl
@[go_sem] theorem WM:cN Tryz.prog 27=some false:=rfl
@[go_sem] theorem WN:ej Tryz.prog 27=some [.slice none 0 0]:=rfl
@[go_sem] theorem WO:vV Tryz.prog 27=some (none,1):=rfl
@[go_sem] theorem WQ:ym Tryz.prog 27=some (1,8,[.int .u64 0]):=rfl
@[go_sem] theorem WR:Ae Tryz.prog 27 27=some (1,8,1):=rfl
attribute [go_sem] Tryz.underlying29
@[go_sem] theorem WS:cI Tryz.prog 29=some 3:=rfl
@[go_sem] theorem WT:cN Tryz.prog 29=some true:=rfl
@[go_sem] theorem WU:ej Tryz.prog 29=some [.int .u8 0,.int .i64 0,.slice none 0 0]:=rfl
@[go_sem] theorem WV:nk Tryz.prog 29=some ([.int .u8 0,.int .i64 0,.slice none 0 0],fun j=>[(0,1),(1,1),(2,1)][j]?):=rfl
@[go_sem] theorem OU:cu Tryz.prog 29 0=some (0,1):=rfl
@[go_sem] theorem OV:cw Tryz.prog 29 0=some (0,1,false):=rfl
@[go_sem] theorem OW:cu Tryz.prog 29 1=some (1,1):=rfl
@[go_sem] theorem OX:cw Tryz.prog 29 1=some (1,1,false):=rfl
@[go_sem] theorem OY:cu Tryz.prog 29 2=some (2,1):=rfl
@[go_sem] theorem OZ:cw Tryz.prog 29 2=some (2,1,false):=rfl
attribute [go_sem] Tryz.underlying30
@[go_sem] theorem WW:cI Tryz.prog 30=some 6:=rfl
@[go_sem] theorem WX:cN Tryz.prog 30=some true:=rfl
@[go_sem] theorem WY:ej Tryz.prog 30=some [.int .i64 0,.int .i64 0,.int .i64 0,.int .i64 0,.int .i64 0,.int .i64 0]:=rfl
@[go_sem] theorem WZ:nk Tryz.prog 30=some ([.int .i64 0,.int .i64 0,.int .i64 0,.int .i64 0,.int .i64 0,.int .i64 0],fun j=>some (j*1,1)):=rfl
@[go_sem] theorem W0:vV Tryz.prog 30=some (some 6,1):=rfl
@[go_sem] theorem W1:Je Tryz.prog 30=some (6,1,false):=rfl
attribute [go_sem] Tryz.underlying32
@[go_sem] theorem W2:cI Tryz.prog 32=some 16:=rfl
@[go_sem] theorem W3:cN Tryz.prog 32=some true:=rfl
@[go_sem] theorem W4:ej Tryz.prog 32=some [.int .i64 0,.int .i64 0,.int .u8 0,.int .i64 0,.int .u8 0,.int .i64 0,.slice none 0 0,.int .i64 0,.int .i64 0,.int .i64 0,.int .i64 0,.int .i64 0,.int .i64 0,.int .i64 0,.int .i64 0,.int .i64 0]:=rfl
@[go_sem] theorem W5:nk Tryz.prog 32=some ([.int .i64 0,.int .i64 0,.int .u8 0,.int .i64 0,.int .u8 0,.int .i64 0,.slice none 0 0,.int .i64 0,.int .i64 0,.int .i64 0,.int .i64 0,.int .i64 0,.int .i64 0,.int .i64 0,.int .i64 0,.int .i64 0],fun j=>[(0,1),(1,1),(2,1),(3,1),(4,3),(7,6),(13,1),(14,1),(15,1)][j]?):=rfl
@[go_sem] theorem O4:cu Tryz.prog 32 0=some (0,1):=rfl
@[go_sem] theorem O5:cw Tryz.prog 32 0=some (0,1,false):=rfl
@[go_sem] theorem O6:cu Tryz.prog 32 1=some (1,1):=rfl
@[go_sem] theorem O7:cw Tryz.prog 32 1=some (1,1,false):=rfl
@[go_sem] theorem O8:cu Tryz.prog 32 2=some (2,1):=rfl
@[go_sem] theorem O9:cw Tryz.prog 32 2=some (2,1,false):=rfl
@[go_sem] theorem O_:cu Tryz.prog 32 3=some (3,1):=rfl
@[go_sem] theorem Pa:cw Tryz.prog 32 3=some (3,1,false):=rfl
@[go_sem] theorem Pb:cu Tryz.prog 32 4=some (4,3):=rfl
@[go_sem] theorem Pc:cw Tryz.prog 32 4=some (4,3,true):=rfl
@[go_sem] theorem Pd:cu Tryz.prog 32 5=some (7,6):=rfl
@[go_sem] theorem Pe:cw Tryz.prog 32 5=some (7,6,true):=rfl
@[go_sem] theorem Pf:cu Tryz.prog 32 6=some (13,1):=rfl
@[go_sem] theorem Pg:cw Tryz.prog 32 6=some (13,1,false):=rfl
@[go_sem] theorem Ph:cu Tryz.prog 32 7=some (14,1):=rfl
@[go_sem] theorem Pj:cw Tryz.prog 32 7=some (14,1,false):=rfl
@[go_sem] theorem Pk:cu Tryz.prog 32 8=some (15,1):=rfl
@[go_sem] theorem Pm:cw Tryz.prog 32 8=some (15,1,false):=rfl
attribute [go_sem] Tryz.underlying34
@[go_sem] theorem W6:cI Tryz.prog 34=some 1:=rfl
@[go_sem] theorem W7:cN Tryz.prog 34=some false:=rfl
@[go_sem] theorem W8:ej Tryz.prog 34=some [.slice none 0 0]:=rfl
@[go_sem] theorem W9:vV Tryz.prog 34=some (none,1):=rfl
@[go_sem] theorem W_:ym Tryz.prog 34=some (1,8,[.int .i64 0]):=rfl
@[go_sem] theorem Xa:Ae Tryz.prog 34 34=some (1,8,1):=rfl
attribute [go_sem] Tryz.underlying36
@[go_sem] theorem Xb:cI Tryz.prog 36=some 1:=rfl
@[go_sem] theorem Xc:cN Tryz.prog 36=some false:=rfl
@[go_sem] theorem Xd:ej Tryz.prog 36=some [.int .u64 0]:=rfl
attribute [go_sem] Tryz.underlying37
@[go_sem] theorem Xe:cI Tryz.prog 37=some 1:=rfl
@[go_sem] theorem Xf:cN Tryz.prog 37=some false:=rfl
attribute [go_sem] Tryz.underlying38
@[go_sem] theorem Xg:cI Tryz.prog 38=some 1:=rfl
@[go_sem] theorem Xh:cN Tryz.prog 38=some false:=rfl
@[go_sem] theorem Xi:ej Tryz.prog 38=some [.pointer none]:=rfl
attribute [go_sem] Tryz.underlying41
@[go_sem] theorem Xj:cI Tryz.prog 41=some 1:=rfl
@[go_sem] theorem Xk:cN Tryz.prog 41=some false:=rfl
attribute [go_sem] Tryz.underlying48
@[go_sem] theorem Xl:cI Tryz.prog 48=some 1:=rfl
@[go_sem] theorem Xm:cN Tryz.prog 48=some false:=rfl
@[go_sem] theorem Xn:ej Tryz.prog 48=some [.pointer none]:=rfl
attribute [go_sem] Tryz.underlying53
@[go_sem] theorem Xo:cI Tryz.prog 53=some 1:=rfl
@[go_sem] theorem Xp:cN Tryz.prog 53=some false:=rfl
@[go_sem] theorem Xq:ej Tryz.prog 53=some [.pointer none]:=rfl
attribute [go_sem] Tryz.underlying58
@[go_sem] theorem Xr:cI Tryz.prog 58=some 1:=rfl
@[go_sem] theorem Xt:cN Tryz.prog 58=some false:=rfl
@[go_sem] theorem Xu:ej Tryz.prog 58=some [.pointer none]:=rfl
attribute [go_sem] Tryz.underlying60
@[go_sem] theorem Xv:cI Tryz.prog 60=some 1:=rfl
@[go_sem] theorem Xw:cN Tryz.prog 60=some false:=rfl
@[go_sem] theorem Xx:ej Tryz.prog 60=some [.pointer none]:=rfl
attribute [go_sem] Tryz.underlying70
@[go_sem] theorem Xy:cI Tryz.prog 70=some 1:=rfl
@[go_sem] theorem Xz:cN Tryz.prog 70=some false:=rfl
attribute [go_sem] Tryz.underlying73
@[go_sem] theorem XA:cI Tryz.prog 73=some 5:=rfl
@[go_sem] theorem XB:cN Tryz.prog 73=some true:=rfl
@[go_sem] theorem XC:ej Tryz.prog 73=some [.pointer none,.pointer none,.pointer none,.pointer none,.pointer none]:=rfl
@[go_sem] theorem XD:nk Tryz.prog 73=some ([.pointer none,.pointer none,.pointer none,.pointer none,.pointer none],fun j=>[(0,1),(1,1),(2,1),(3,1),(4,1)][j]?):=rfl
@[go_sem] theorem Pn:cu Tryz.prog 73 0=some (0,1):=rfl
@[go_sem] theorem Po:cw Tryz.prog 73 0=some (0,1,false):=rfl
@[go_sem] theorem Pp:cu Tryz.prog 73 1=some (1,1):=rfl
@[go_sem] theorem Pq:cw Tryz.prog 73 1=some (1,1,false):=rfl
@[go_sem] theorem Pr:cu Tryz.prog 73 2=some (2,1):=rfl
@[go_sem] theorem Pt:cw Tryz.prog 73 2=some (2,1,false):=rfl
@[go_sem] theorem Pu:cu Tryz.prog 73 3=some (3,1):=rfl
@[go_sem] theorem Pv:cw Tryz.prog 73 3=some (3,1,false):=rfl
@[go_sem] theorem Pw:cu Tryz.prog 73 4=some (4,1):=rfl
@[go_sem] theorem Px:cw Tryz.prog 73 4=some (4,1,false):=rfl
attribute [go_sem] Tryz.underlying74
@[go_sem] theorem XE:cI Tryz.prog 74=some 1:=rfl
@[go_sem] theorem XF:cN Tryz.prog 74=some false:=rfl
@[go_sem] theorem XG:ej Tryz.prog 74=some [.map none]:=rfl
attribute [go_sem] Tryz.underlying75
@[go_sem] theorem XH:cI Tryz.prog 75=some 1:=rfl
@[go_sem] theorem XI:cN Tryz.prog 75=some false:=rfl
@[go_sem] theorem XJ:ej Tryz.prog 75=some [.map none]:=rfl
attribute [go_sem] Tryz.underlying77
@[go_sem] theorem XK:cI Tryz.prog 77=some 9:=rfl
@[go_sem] theorem XL:cN Tryz.prog 77=some true:=rfl
@[go_sem] theorem XM:ej Tryz.prog 77=some [.pointer none,.pointer none,.pointer none,.pointer none,.pointer none,.slice none 0 0,.slice none 0 0,.map none,.map none]:=rfl
@[go_sem] theorem XO:nk Tryz.prog 77=some ([.pointer none,.pointer none,.pointer none,.pointer none,.pointer none,.slice none 0 0,.slice none 0 0,.map none,.map none],fun j=>[(0,5),(5,1),(6,1),(7,1),(8,1)][j]?):=rfl
@[go_sem] theorem Py:cu Tryz.prog 77 0=some (0,5):=rfl
@[go_sem] theorem Pz:cw Tryz.prog 77 0=some (0,5,true):=rfl
@[go_sem] theorem PA:cu Tryz.prog 77 1=some (5,1):=rfl
@[go_sem] theorem PB:cw Tryz.prog 77 1=some (5,1,false):=rfl
@[go_sem] theorem PD:cu Tryz.prog 77 2=some (6,1):=rfl
@[go_sem] theorem PE:cw Tryz.prog 77 2=some (6,1,false):=rfl
@[go_sem] theorem PF:cu Tryz.prog 77 3=some (7,1):=rfl
@[go_sem] theorem PG:cw Tryz.prog 77 3=some (7,1,false):=rfl
@[go_sem] theorem PI:cu Tryz.prog 77 4=some (8,1):=rfl
@[go_sem] theorem PJ:cw Tryz.prog 77 4=some (8,1,false):=rfl
attribute [go_sem] Tryz.underlying78
@[go_sem] theorem XP:cI Tryz.prog 78=some 1:=rfl
@[go_sem] theorem XQ:cN Tryz.prog 78=some false:=rfl
attribute [go_sem] Tryz.underlying80
@[go_sem] theorem XR:cI Tryz.prog 80=some 1:=rfl
@[go_sem] theorem XS:cN Tryz.prog 80=some false:=rfl
attribute [go_sem] Tryz.underlying82
@[go_sem] theorem XT:cI Tryz.prog 82=some 1:=rfl
@[go_sem] theorem XU:cN Tryz.prog 82=some false:=rfl
attribute [go_sem] Tryz.underlying84
@[go_sem] theorem XV:cI Tryz.prog 84=some 1:=rfl
@[go_sem] theorem XW:cN Tryz.prog 84=some false:=rfl
attribute [go_sem] Tryz.underlying87
@[go_sem] theorem XX:cI Tryz.prog 87=some 10:=rfl
@[go_sem] theorem XY:cN Tryz.prog 87=some true:=rfl
@[go_sem] theorem XZ:ej Tryz.prog 87=some [.int .i64 0,.int .i64 0,.int .i64 0,.int .i64 0,.int .i64 0,.int .i64 0,.int .i64 0,.int .i64 0,.int .i64 0,.int .i64 0]:=rfl
@[go_sem] theorem X0:nk Tryz.prog 87=some ([.int .i64 0,.int .i64 0,.int .i64 0,.int .i64 0,.int .i64 0,.int .i64 0,.int .i64 0,.int .i64 0,.int .i64 0,.int .i64 0],fun j=>[(0,1),(1,1),(2,1),(3,1),(4,1),(5,1),(6,1),(7,1),(8,1),(9,1)][j]?):=rfl
@[go_sem] theorem PK:cu Tryz.prog 87 0=some (0,1):=rfl
@[go_sem] theorem PN:cw Tryz.prog 87 0=some (0,1,false):=rfl
@[go_sem] theorem PO:cu Tryz.prog 87 1=some (1,1):=rfl
@[go_sem] theorem PR:cw Tryz.prog 87 1=some (1,1,false):=rfl
@[go_sem] theorem PS:cu Tryz.prog 87 2=some (2,1):=rfl
@[go_sem] theorem PU:cw Tryz.prog 87 2=some (2,1,false):=rfl
@[go_sem] theorem PV:cu Tryz.prog 87 3=some (3,1):=rfl
@[go_sem] theorem PW:cw Tryz.prog 87 3=some (3,1,false):=rfl
@[go_sem] theorem PX:cu Tryz.prog 87 4=some (4,1):=rfl
@[go_sem] theorem PY:cw Tryz.prog 87 4=some (4,1,false):=rfl
@[go_sem] theorem PZ:cu Tryz.prog 87 5=some (5,1):=rfl
@[go_sem] theorem P0:cw Tryz.prog 87 5=some (5,1,false):=rfl
@[go_sem] theorem P3:cu Tryz.prog 87 6=some (6,1):=rfl
@[go_sem] theorem P4:cw Tryz.prog 87 6=some (6,1,false):=rfl
@[go_sem] theorem P5:cu Tryz.prog 87 7=some (7,1):=rfl
@[go_sem] theorem P6:cw Tryz.prog 87 7=some (7,1,false):=rfl
@[go_sem] theorem P7:cu Tryz.prog 87 8=some (8,1):=rfl
@[go_sem] theorem P8:cw Tryz.prog 87 8=some (8,1,false):=rfl
@[go_sem] theorem P9:cu Tryz.prog 87 9=some (9,1):=rfl
@[go_sem] theorem P_:cw Tryz.prog 87 9=some (9,1,false):=rfl
attribute [go_sem] Tryz.underlying94
@[go_sem] theorem X2:cI Tryz.prog 94=some 1:=rfl
@[go_sem] theorem X3:cN Tryz.prog 94=some true:=rfl
@[go_sem] theorem X4:ej Tryz.prog 94=some [.int .u64 0]:=rfl
@[go_sem] theorem X5:nk Tryz.prog 94=some ([.int .u64 0],fun j=>[(0,0),(0,0),(0,1)][j]?):=rfl
@[go_sem] theorem Qa:cu Tryz.prog 94 0=some (0,0):=rfl
@[go_sem] theorem Qb:cw Tryz.prog 94 0=some (0,0,true):=rfl
@[go_sem] theorem Qc:cu Tryz.prog 94 1=some (0,0):=rfl
@[go_sem] theorem Qd:cw Tryz.prog 94 1=some (0,0,true):=rfl
@[go_sem] theorem Qe:cu Tryz.prog 94 2=some (0,1):=rfl
@[go_sem] theorem Qf:cw Tryz.prog 94 2=some (0,1,false):=rfl
attribute [go_sem] Tryz.underlying95
@[go_sem] theorem X6:cI Tryz.prog 95=some 1:=rfl
@[go_sem] theorem X7:cN Tryz.prog 95=some false:=rfl
@[go_sem] theorem X8:ej Tryz.prog 95=some [.slice none 0 0]:=rfl
@[go_sem] theorem X9:vV Tryz.prog 95=some (none,1):=rfl
@[go_sem] theorem X_:ym Tryz.prog 95=some (1,8,[.int .u64 0]):=rfl
@[go_sem] theorem Ya:Ae Tryz.prog 95 95=some (1,8,1):=rfl
attribute [go_sem] Tryz.underlying96
@[go_sem] theorem Yb:cI Tryz.prog 96=some 1:=rfl
@[go_sem] theorem Yc:cN Tryz.prog 96=some false:=rfl
@[go_sem] theorem Yd:ej Tryz.prog 96=some [.slice none 0 0]:=rfl
@[go_sem] theorem Ye:vV Tryz.prog 96=some (none,6):=rfl
@[go_sem] theorem Yf:ym Tryz.prog 96=some (6,48,[.int .i64 0,.int .i64 0,.int .u8 0,.int .u64 0,.int .u64 0,.bool false]):=rfl
@[go_sem] theorem Yg:Ae Tryz.prog 96 96=some (6,48,6):=rfl
attribute [go_sem] Tryz.underlying98
@[go_sem] theorem Yh:cI Tryz.prog 98=some 2:=rfl
@[go_sem] theorem Yi:cN Tryz.prog 98=some true:=rfl
@[go_sem] theorem Yj:ej Tryz.prog 98=some [.slice none 0 0,.slice none 0 0]:=rfl
@[go_sem] theorem Yk:nk Tryz.prog 98=some ([.slice none 0 0,.slice none 0 0],fun j=>[(0,1),(1,1)][j]?):=rfl
@[go_sem] theorem Qg:cu Tryz.prog 98 0=some (0,1):=rfl
@[go_sem] theorem Qh:cw Tryz.prog 98 0=some (0,1,false):=rfl
@[go_sem] theorem Qi:cu Tryz.prog 98 1=some (1,1):=rfl
@[go_sem] theorem Qj:cw Tryz.prog 98 1=some (1,1,false):=rfl
attribute [go_sem] Tryz.underlying102
@[go_sem] theorem Sb:cI Tryz.prog 102=some 2:=rfl
@[go_sem] theorem Sc:cN Tryz.prog 102=some true:=rfl
@[go_sem] theorem Sd:ej Tryz.prog 102=some [.pointer none,.pointer none]:=rfl
@[go_sem] theorem Se:nk Tryz.prog 102=some ([.pointer none,.pointer none],fun j=>[(0,1),(1,1)][j]?):=rfl
@[go_sem] theorem Lw:cu Tryz.prog 102 0=some (0,1):=rfl
@[go_sem] theorem Lx:cw Tryz.prog 102 0=some (0,1,false):=rfl
@[go_sem] theorem Lz:cu Tryz.prog 102 1=some (1,1):=rfl
@[go_sem] theorem LA:cw Tryz.prog 102 1=some (1,1,false):=rfl
attribute [go_sem] Tryz.underlying104
@[go_sem] theorem Sf:cI Tryz.prog 104=some 1:=rfl
@[go_sem] theorem Sg:cN Tryz.prog 104=some false:=rfl
@[go_sem] theorem Sh:ej Tryz.prog 104=some [.int .i64 0]:=rfl
attribute [go_sem] Tryz.underlying124
@[go_sem] theorem Si:cI Tryz.prog 124=some 1:=rfl
@[go_sem] theorem Sj:cN Tryz.prog 124=some false:=rfl
@[go_sem] theorem Sk:ej Tryz.prog 124=some [.map none]:=rfl
attribute [go_sem] Tryz.underlying126
@[go_sem] theorem Sl:cI Tryz.prog 126=some 6:=rfl
@[go_sem] theorem Sm:cN Tryz.prog 126=some true:=rfl
@[go_sem] theorem Sn:ej Tryz.prog 126=some [.pointer none,.pointer none,.int .i64 0,.int .i64 0,.map none,.slice none 0 0]:=rfl
@[go_sem] theorem Sr:nk Tryz.prog 126=some ([.pointer none,.pointer none,.int .i64 0,.int .i64 0,.map none,.slice none 0 0],fun j=>[(0,1),(1,1),(2,1),(3,1),(4,1),(5,1)][j]?):=rfl
@[go_sem] theorem LB:cu Tryz.prog 126 0=some (0,1):=rfl
@[go_sem] theorem LC:cw Tryz.prog 126 0=some (0,1,false):=rfl
@[go_sem] theorem LD:cu Tryz.prog 126 1=some (1,1):=rfl
@[go_sem] theorem LG:cw Tryz.prog 126 1=some (1,1,false):=rfl
@[go_sem] theorem LH:cu Tryz.prog 126 2=some (2,1):=rfl
@[go_sem] theorem LI:cw Tryz.prog 126 2=some (2,1,false):=rfl
@[go_sem] theorem LJ:cu Tryz.prog 126 3=some (3,1):=rfl
@[go_sem] theorem LK:cw Tryz.prog 126 3=some (3,1,false):=rfl
@[go_sem] theorem LL:cu Tryz.prog 126 4=some (4,1):=rfl
@[go_sem] theorem LM:cw Tryz.prog 126 4=some (4,1,false):=rfl
@[go_sem] theorem LN:cu Tryz.prog 126 5=some (5,1):=rfl
@[go_sem] theorem LO:cw Tryz.prog 126 5=some (5,1,false):=rfl
attribute [go_sem] Tryz.underlying129
@[go_sem] theorem Ss:cI Tryz.prog 129=some 1:=rfl
@[go_sem] theorem Sv:cN Tryz.prog 129=some false:=rfl
@[go_sem] theorem Sw:ej Tryz.prog 129=some [.slice none 0 0]:=rfl
@[go_sem] theorem Sx:vV Tryz.prog 129=some (none,4):=rfl
@[go_sem] theorem Sy:ym Tryz.prog 129=some (4,32,[.int .u8 0,.int .i64 0,.int .i64 0,.int .i64 0]):=rfl
@[go_sem] theorem Sz:Ae Tryz.prog 129 129=some (4,32,4):=rfl
attribute [go_sem] Tryz.underlying131
@[go_sem] theorem SA:cI Tryz.prog 131=some 30:=rfl
@[go_sem] theorem SB:cN Tryz.prog 131=some true:=rfl
@[go_sem] theorem SC:ej Tryz.prog 131=some [.int .i64 0,.int .i64 0,.int .u8 0,.int .i64 0,.int .u8 0,.int .i64 0,.slice none 0 0,.int .i64 0,.int .i64 0,.int .i64 0,.int .i64 0,.int .i64 0,.int .i64 0,.int .i64 0,.int .i64 0,.int .i64 0,.int .i64 0,.int .i64 0,.int .i64 0,.int .i64 0,.int .i64 0,.int .i64 0,.int .i64 0,.int .i64 0,.int .i64 0,.int .i64 0,.slice none 0 0,.slice none 0 0,.slice none 0 0,.int .i64 0]:=rfl
@[go_sem] theorem SD:nk Tryz.prog 131=some ([.int .i64 0,.int .i64 0,.int .u8 0,.int .i64 0,.int .u8 0,.int .i64 0,.slice none 0 0,.int .i64 0,.int .i64 0,.int .i64 0,.int .i64 0,.int .i64 0,.int .i64 0,.int .i64 0,.int .i64 0,.int .i64 0,.int .i64 0,.int .i64 0,.int .i64 0,.int .i64 0,.int .i64 0,.int .i64 0,.int .i64 0,.int .i64 0,.int .i64 0,.int .i64 0,.slice none 0 0,.slice none 0 0,.slice none 0 0,.int .i64 0],fun j=>[(0,16),(16,10),(26,1),(27,1),(28,1),(29,1)][j]?):=rfl
@[go_sem] theorem LP:cu Tryz.prog 131 0=some (0,16):=rfl
@[go_sem] theorem LQ:cw Tryz.prog 131 0=some (0,16,true):=rfl
@[go_sem] theorem LR:cu Tryz.prog 131 1=some (16,10):=rfl
@[go_sem] theorem LS:cw Tryz.prog 131 1=some (16,10,true):=rfl
@[go_sem] theorem LU:cu Tryz.prog 131 2=some (26,1):=rfl
@[go_sem] theorem LV:cw Tryz.prog 131 2=some (26,1,false):=rfl
@[go_sem] theorem LW:cu Tryz.prog 131 3=some (27,1):=rfl
@[go_sem] theorem LX:cw Tryz.prog 131 3=some (27,1,false):=rfl
@[go_sem] theorem LY:cu Tryz.prog 131 4=some (28,1):=rfl
@[go_sem] theorem LZ:cw Tryz.prog 131 4=some (28,1,false):=rfl
@[go_sem] theorem L0:cu Tryz.prog 131 5=some (29,1):=rfl
@[go_sem] theorem L3:cw Tryz.prog 131 5=some (29,1,false):=rfl
attribute [go_sem] Tryz.underlying134
@[go_sem] theorem SE:cI Tryz.prog 134=some 1:=rfl
@[go_sem] theorem SF:cN Tryz.prog 134=some false:=rfl
@[go_sem] theorem SG:ej Tryz.prog 134=some [.nilIface]:=rfl
attribute [go_sem] Tryz.underlying136
@[go_sem] theorem SH:cI Tryz.prog 136=some 3:=rfl
@[go_sem] theorem SI:cN Tryz.prog 136=some true:=rfl
@[go_sem] theorem SJ:ej Tryz.prog 136=some [.nilIface,.int .u8 0,.int .i64 0]:=rfl
@[go_sem] theorem SK:nk Tryz.prog 136=some ([.nilIface,.int .u8 0,.int .i64 0],fun j=>[(0,1),(1,1),(2,1)][j]?):=rfl
@[go_sem] theorem L4:cu Tryz.prog 136 0=some (0,1):=rfl
@[go_sem] theorem L6:cw Tryz.prog 136 0=some (0,1,false):=rfl
@[go_sem] theorem L7:cu Tryz.prog 136 1=some (1,1):=rfl
@[go_sem] theorem L8:cw Tryz.prog 136 1=some (1,1,false):=rfl
@[go_sem] theorem L9:cu Tryz.prog 136 2=some (2,1):=rfl
@[go_sem] theorem L_:cw Tryz.prog 136 2=some (2,1,false):=rfl
attribute [go_sem] Tryz.underlying156
@[go_sem] theorem SL:cI Tryz.prog 156=some 4:=rfl
@[go_sem] theorem SM:cN Tryz.prog 156=some true:=rfl
@[go_sem] theorem SN:ej Tryz.prog 156=some [.int .u8 0,.int .i64 0,.int .i64 0,.int .i64 0]:=rfl
@[go_sem] theorem SP:nk Tryz.prog 156=some ([.int .u8 0,.int .i64 0,.int .i64 0,.int .i64 0],fun j=>[(0,1),(1,1),(2,1),(3,1)][j]?):=rfl
@[go_sem] theorem Ma:cu Tryz.prog 156 0=some (0,1):=rfl
@[go_sem] theorem Mb:cw Tryz.prog 156 0=some (0,1,false):=rfl
@[go_sem] theorem Mc:cu Tryz.prog 156 1=some (1,1):=rfl
@[go_sem] theorem Md:cw Tryz.prog 156 1=some (1,1,false):=rfl
@[go_sem] theorem Me:cu Tryz.prog 156 2=some (2,1):=rfl
@[go_sem] theorem Mf:cw Tryz.prog 156 2=some (2,1,false):=rfl
@[go_sem] theorem Mg:cu Tryz.prog 156 3=some (3,1):=rfl
@[go_sem] theorem Mh:cw Tryz.prog 156 3=some (3,1,false):=rfl
attribute [go_sem] Tryz.underlying157
@[go_sem] theorem SQ:cI Tryz.prog 157=some 1:=rfl
@[go_sem] theorem SR:cN Tryz.prog 157=some false:=rfl
@[go_sem] theorem SS:ej Tryz.prog 157=some [.nilFunc]:=rfl
attribute [go_sem] Tryz.underlying160
@[go_sem] theorem SU:cI Tryz.prog 160=some 1:=rfl
@[go_sem] theorem SV:cN Tryz.prog 160=some false:=rfl
attribute [go_sem] Tryz.underlying163
@[go_sem] theorem SW:cI Tryz.prog 163=some 1:=rfl
@[go_sem] theorem SX:cN Tryz.prog 163=some false:=rfl
@[go_sem] theorem SY:ej Tryz.prog 163=some [.pointer none]:=rfl
attribute [go_sem] Tryz.underlying164
@[go_sem] theorem SZ:cI Tryz.prog 164=some 1:=rfl
@[go_sem] theorem S_:cN Tryz.prog 164=some false:=rfl
attribute [go_sem] Tryz.underlying167
@[go_sem] theorem Ta:cI Tryz.prog 167=some 1:=rfl
@[go_sem] theorem Tb:cN Tryz.prog 167=some false:=rfl
@[go_sem] theorem Tc:ej Tryz.prog 167=some [.nilIface]:=rfl
attribute [go_sem] Tryz.underlying169
@[go_sem] theorem Td:cI Tryz.prog 169=some 1:=rfl
@[go_sem] theorem Te:cN Tryz.prog 169=some true:=rfl
@[go_sem] theorem Tf:ej Tryz.prog 169=some [.nilIface]:=rfl
@[go_sem] theorem Tg:nk Tryz.prog 169=some ([.nilIface],fun j=>[(0,1)][j]?):=rfl
@[go_sem] theorem Mi:cu Tryz.prog 169 0=some (0,1):=rfl
@[go_sem] theorem Mj:cw Tryz.prog 169 0=some (0,1,false):=rfl
attribute [go_sem] Tryz.underlying170
@[go_sem] theorem Ti:cI Tryz.prog 170=some 1:=rfl
@[go_sem] theorem Tj:cN Tryz.prog 170=some false:=rfl
@[go_sem] theorem Tk:ej Tryz.prog 170=some [.pointer none]:=rfl
attribute [go_sem] Tryz.underlying171
@[go_sem] theorem Tl:cI Tryz.prog 171=some 1:=rfl
@[go_sem] theorem Tn:cN Tryz.prog 171=some false:=rfl
attribute [go_sem] Tryz.underlying174
@[go_sem] theorem Tp:cI Tryz.prog 174=some 1:=rfl
@[go_sem] theorem Tq:cN Tryz.prog 174=some false:=rfl
@[go_sem] theorem Tr:ej Tryz.prog 174=some [.nilIface]:=rfl
attribute [go_sem] Tryz.underlying176
@[go_sem] theorem Ts:cI Tryz.prog 176=some 1:=rfl
@[go_sem] theorem Tt:cN Tryz.prog 176=some true:=rfl
@[go_sem] theorem Tv:ej Tryz.prog 176=some [.nilIface]:=rfl
@[go_sem] theorem Tw:nk Tryz.prog 176=some ([.nilIface],fun j=>[(0,1)][j]?):=rfl
@[go_sem] theorem Ml:cu Tryz.prog 176 0=some (0,1):=rfl
@[go_sem] theorem Mm:cw Tryz.prog 176 0=some (0,1,false):=rfl
attribute [go_sem] Tryz.underlying177
@[go_sem] theorem Tx:cI Tryz.prog 177=some 1:=rfl
@[go_sem] theorem Ty:cN Tryz.prog 177=some false:=rfl
@[go_sem] theorem Tz:ej Tryz.prog 177=some [.pointer none]:=rfl
attribute [go_sem] Tryz.underlying178
@[go_sem] theorem TA:cI Tryz.prog 178=some 1:=rfl
@[go_sem] theorem TB:cN Tryz.prog 178=some false:=rfl
attribute [go_sem] Tryz.underlying181
@[go_sem] theorem TC:cI Tryz.prog 181=some 1:=rfl
@[go_sem] theorem TD:cN Tryz.prog 181=some false:=rfl
@[go_sem] theorem TE:ej Tryz.prog 181=some [.nilIface]:=rfl
attribute [go_sem] Tryz.underlying183
@[go_sem] theorem TF:cI Tryz.prog 183=some 1:=rfl
@[go_sem] theorem TG:cN Tryz.prog 183=some true:=rfl
@[go_sem] theorem TH:ej Tryz.prog 183=some [.nilIface]:=rfl
@[go_sem] theorem TI:nk Tryz.prog 183=some ([.nilIface],fun j=>[(0,1)][j]?):=rfl
@[go_sem] theorem Mn:cu Tryz.prog 183 0=some (0,1):=rfl
@[go_sem] theorem Mp:cw Tryz.prog 183 0=some (0,1,false):=rfl
attribute [go_sem] Tryz.underlying184
@[go_sem] theorem TJ:cI Tryz.prog 184=some 1:=rfl
@[go_sem] theorem TK:cN Tryz.prog 184=some false:=rfl
@[go_sem] theorem TL:ej Tryz.prog 184=some [.pointer none]:=rfl
attribute [go_sem] Tryz.underlying188
@[go_sem] theorem TM:cI Tryz.prog 188=some 6:=rfl
@[go_sem] theorem TN:cN Tryz.prog 188=some true:=rfl
@[go_sem] theorem TP:ej Tryz.prog 188=some [.int .i64 0,.int .i64 0,.int .u8 0,.int .u64 0,.int .u64 0,.bool false]:=rfl
@[go_sem] theorem TQ:nk Tryz.prog 188=some ([.int .i64 0,.int .i64 0,.int .u8 0,.int .u64 0,.int .u64 0,.bool false],fun j=>[(0,1),(1,1),(2,1),(3,1),(4,1),(5,1)][j]?):=rfl
@[go_sem] theorem Mq:cu Tryz.prog 188 0=some (0,1):=rfl
@[go_sem] theorem Mr:cw Tryz.prog 188 0=some (0,1,false):=rfl
@[go_sem] theorem Ms:cu Tryz.prog 188 1=some (1,1):=rfl
@[go_sem] theorem Mt:cw Tryz.prog 188 1=some (1,1,false):=rfl
@[go_sem] theorem Mu:cu Tryz.prog 188 2=some (2,1):=rfl
@[go_sem] theorem Mv:cw Tryz.prog 188 2=some (2,1,false):=rfl
@[go_sem] theorem Mw:cu Tryz.prog 188 3=some (3,1):=rfl
@[go_sem] theorem Mx:cw Tryz.prog 188 3=some (3,1,false):=rfl
@[go_sem] theorem My:cu Tryz.prog 188 4=some (4,1):=rfl
@[go_sem] theorem Mz:cw Tryz.prog 188 4=some (4,1,false):=rfl
@[go_sem] theorem MA:cu Tryz.prog 188 5=some (5,1):=rfl
@[go_sem] theorem MB:cw Tryz.prog 188 5=some (5,1,false):=rfl
attribute [go_sem] Tryz.underlying189
@[go_sem] theorem TR:cI Tryz.prog 189=some 1:=rfl
@[go_sem] theorem TS:cN Tryz.prog 189=some false:=rfl
attribute [go_sem] Tryz.underlying193
@[go_sem] theorem TT:cI Tryz.prog 193=some 1:=rfl
@[go_sem] theorem TU:cN Tryz.prog 193=some false:=rfl
@[go_sem] theorem TV:ej Tryz.prog 193=some [.slice none 0 0]:=rfl
@[go_sem] theorem TW:vV Tryz.prog 193=some (none,1):=rfl
@[go_sem] theorem TX:ym Tryz.prog 193=some (1,1,[.bool false]):=rfl
@[go_sem] theorem TY:Ae Tryz.prog 193 193=some (1,1,1):=rfl
attribute [go_sem] Tryz.underlying210
@[go_sem] theorem T0:cI Tryz.prog 210=some 6:=rfl
@[go_sem] theorem T1:cN Tryz.prog 210=some true:=rfl
@[go_sem] theorem T2:ej Tryz.prog 210=some [.pointer none,.int .i64 0,.int .i64 0,.int .i64 0,.int .u64 0,.int .u8 0]:=rfl
@[go_sem] theorem T3:nk Tryz.prog 210=some ([.pointer none,.int .i64 0,.int .i64 0,.int .i64 0,.int .u64 0,.int .u8 0],fun j=>[(0,1),(1,1),(2,1),(3,1),(4,1),(5,1)][j]?):=rfl
@[go_sem] theorem MC:cu Tryz.prog 210 0=some (0,1):=rfl
@[go_sem] theorem MD:cw Tryz.prog 210 0=some (0,1,false):=rfl
@[go_sem] theorem ME:cu Tryz.prog 210 1=some (1,1):=rfl
@[go_sem] theorem MF:cw Tryz.prog 210 1=some (1,1,false):=rfl
@[go_sem] theorem MG:cu Tryz.prog 210 2=some (2,1):=rfl
@[go_sem] theorem MH:cw Tryz.prog 210 2=some (2,1,false):=rfl
@[go_sem] theorem MI:cu Tryz.prog 210 3=some (3,1):=rfl
@[go_sem] theorem MJ:cw Tryz.prog 210 3=some (3,1,false):=rfl
@[go_sem] theorem MK:cu Tryz.prog 210 4=some (4,1):=rfl
@[go_sem] theorem ML:cw Tryz.prog 210 4=some (4,1,false):=rfl
@[go_sem] theorem MN:cu Tryz.prog 210 5=some (5,1):=rfl
@[go_sem] theorem MO:cw Tryz.prog 210 5=some (5,1,false):=rfl
attribute [go_sem] Tryz.underlying224
@[go_sem] theorem T4:cI Tryz.prog 224=some 4:=rfl
@[go_sem] theorem T5:cN Tryz.prog 224=some true:=rfl
@[go_sem] theorem T6:ej Tryz.prog 224=some [.int .i64 0,.int .i64 0,.int .i64 0,.int .i64 0]:=rfl
@[go_sem] theorem T7:nk Tryz.prog 224=some ([.int .i64 0,.int .i64 0,.int .i64 0,.int .i64 0],fun j=>some (j*1,1)):=rfl
@[go_sem] theorem T8:vV Tryz.prog 224=some (some 4,1):=rfl
@[go_sem] theorem T9:Je Tryz.prog 224=some (4,1,false):=rfl
attribute [go_sem] Tryz.underlying227
@[go_sem] theorem T_:cI Tryz.prog 227=some 4:=rfl
@[go_sem] theorem Ua:cN Tryz.prog 227=some true:=rfl
@[go_sem] theorem Ub:ej Tryz.prog 227=some [.pointer none,.int .i64 0,.slice none 0 0,.slice none 0 0]:=rfl
@[go_sem] theorem Uc:nk Tryz.prog 227=some ([.pointer none,.int .i64 0,.slice none 0 0,.slice none 0 0],fun j=>[(0,1),(1,1),(2,1),(3,1)][j]?):=rfl
@[go_sem] theorem MP:cu Tryz.prog 227 0=some (0,1):=rfl
@[go_sem] theorem MQ:cw Tryz.prog 227 0=some (0,1,false):=rfl
@[go_sem] theorem MR:cu Tryz.prog 227 1=some (1,1):=rfl
@[go_sem] theorem MS:cw Tryz.prog 227 1=some (1,1,false):=rfl
@[go_sem] theorem MT:cu Tryz.prog 227 2=some (2,1):=rfl
@[go_sem] theorem MU:cw Tryz.prog 227 2=some (2,1,false):=rfl
@[go_sem] theorem MV:cu Tryz.prog 227 3=some (3,1):=rfl
@[go_sem] theorem MW:cw Tryz.prog 227 3=some (3,1,false):=rfl
attribute [go_sem] Tryz.underlying228
@[go_sem] theorem Ud:cI Tryz.prog 228=some 1:=rfl
@[go_sem] theorem Ue:cN Tryz.prog 228=some false:=rfl
@[go_sem] theorem Uf:ej Tryz.prog 228=some [.slice none 0 0]:=rfl
@[go_sem] theorem Ug:vV Tryz.prog 228=some (none,2):=rfl
@[go_sem] theorem Uh:ym Tryz.prog 228=some (2,16,[.int .u64 0,.bool false]):=rfl
@[go_sem] theorem Ui:Ae Tryz.prog 228 228=some (2,16,2):=rfl
attribute [go_sem] Tryz.underlying229
@[go_sem] theorem Uj:cI Tryz.prog 229=some 1:=rfl
@[go_sem] theorem Uk:cN Tryz.prog 229=some false:=rfl
@[go_sem] theorem Ul:ej Tryz.prog 229=some [.nilFunc]:=rfl
attribute [go_sem] Tryz.underlying231
@[go_sem] theorem Um:cI Tryz.prog 231=some 3:=rfl
@[go_sem] theorem Un:cN Tryz.prog 231=some true:=rfl
@[go_sem] theorem Uo:ej Tryz.prog 231=some [.pointer none,.slice none 0 0,.nilFunc]:=rfl
@[go_sem] theorem Up:nk Tryz.prog 231=some ([.pointer none,.slice none 0 0,.nilFunc],fun j=>[(0,1),(1,1),(2,1)][j]?):=rfl
@[go_sem] theorem MX:cu Tryz.prog 231 0=some (0,1):=rfl
@[go_sem] theorem MY:cw Tryz.prog 231 0=some (0,1,false):=rfl
@[go_sem] theorem MZ:cu Tryz.prog 231 1=some (1,1):=rfl
@[go_sem] theorem M0:cw Tryz.prog 231 1=some (1,1,false):=rfl
@[go_sem] theorem M1:cu Tryz.prog 231 2=some (2,1):=rfl
@[go_sem] theorem M3:cw Tryz.prog 231 2=some (2,1,false):=rfl
attribute [go_sem] Tryz.underlying232
@[go_sem] theorem Uq:cI Tryz.prog 232=some 1:=rfl
@[go_sem] theorem Ur:cN Tryz.prog 232=some false:=rfl
@[go_sem] theorem Us:ej Tryz.prog 232=some [.map none]:=rfl
attribute [go_sem] Tryz.underlying234
@[go_sem] theorem Ut:cI Tryz.prog 234=some 4:=rfl
@[go_sem] theorem Uu:cN Tryz.prog 234=some true:=rfl
@[go_sem] theorem Uv:ej Tryz.prog 234=some [.pointer none,.int .i64 0,.int .i64 0,.map none]:=rfl
@[go_sem] theorem Uw:nk Tryz.prog 234=some ([.pointer none,.int .i64 0,.int .i64 0,.map none],fun j=>[(0,1),(1,1),(2,1),(3,1)][j]?):=rfl
@[go_sem] theorem M_:cu Tryz.prog 234 0=some (0,1):=rfl
@[go_sem] theorem Na:cw Tryz.prog 234 0=some (0,1,false):=rfl
@[go_sem] theorem Nb:cu Tryz.prog 234 1=some (1,1):=rfl
@[go_sem] theorem Nc:cw Tryz.prog 234 1=some (1,1,false):=rfl
@[go_sem] theorem Nd:cu Tryz.prog 234 2=some (2,1):=rfl
@[go_sem] theorem Nf:cw Tryz.prog 234 2=some (2,1,false):=rfl
@[go_sem] theorem Ng:cu Tryz.prog 234 3=some (3,1):=rfl
@[go_sem] theorem Nh:cw Tryz.prog 234 3=some (3,1,false):=rfl
attribute [go_sem] Tryz.underlying257
@[go_sem] theorem Ux:cI Tryz.prog 257=some 1:=rfl
@[go_sem] theorem Uy:cN Tryz.prog 257=some false:=rfl
@[go_sem] theorem Uz:ej Tryz.prog 257=some [.pointer none]:=rfl
@[go_sem] theorem call2 (args:List Value):aj Tryz.prog 2 args = .pure (.enter 2 args):=rfl
@[go_sem] theorem call3 (args:List Value):aj Tryz.prog 3 args = .pure (.enter 3 args):=rfl
@[go_sem] theorem call4 (args:List Value):aj Tryz.prog 4 args = .pure (.enter 4 args):=rfl
@[go_sem] theorem call5 (args:List Value):aj Tryz.prog 5 args = .pure (.enter 5 args):=rfl
@[go_sem] theorem call6 (args:List Value):aj Tryz.prog 6 args = .pure (.enter 6 args):=rfl
@[go_sem] theorem call7 (args:List Value):aj Tryz.prog 7 args = .pure (.enter 7 args):=rfl
@[go_sem] theorem call8 (args:List Value):aj Tryz.prog 8 args = .pure (.enter 8 args):=rfl
@[go_sem] theorem call9 (args:List Value):aj Tryz.prog 9 args = .pure (.enter 9 args):=rfl
@[go_sem] theorem call10 (args:List Value):aj Tryz.prog 10 args = .pure (.enter 10 args):=rfl
@[go_sem] theorem call11 (args:List Value):aj Tryz.prog 11 args = .pure (.enter 11 args):=rfl
@[go_sem] theorem call12 (args:List Value):aj Tryz.prog 12 args = .pure (.enter 12 args):=rfl
@[go_sem] theorem call13 (args:List Value):aj Tryz.prog 13 args = .pure (.enter 13 args):=rfl
@[go_sem] theorem call14 (args:List Value):aj Tryz.prog 14 args = .pure (.enter 14 args):=rfl
@[go_sem] theorem call15 (args:List Value):aj Tryz.prog 15 args = .pure (.enter 15 args):=rfl
@[go_sem] theorem call16 (args:List Value):aj Tryz.prog 16 args = .pure (.enter 16 args):=rfl
@[go_sem] theorem call17 (args:List Value):aj Tryz.prog 17 args = .pure (.enter 17 args):=rfl
@[go_sem] theorem call18 (args:List Value):aj Tryz.prog 18 args = .pure (.enter 18 args):=rfl
@[go_sem] theorem call19 (args:List Value):aj Tryz.prog 19 args = .pure (.enter 19 args):=rfl
@[go_sem] theorem call20 (args:List Value):aj Tryz.prog 20 args = .pure (.enter 20 args):=rfl
@[go_sem] theorem call21 (args:List Value):aj Tryz.prog 21 args = .pure (.enter 21 args):=rfl
@[go_sem] theorem call22 (args:List Value):aj Tryz.prog 22 args = .pure (.enter 22 args):=rfl
@[go_sem] theorem call23 (args:List Value):aj Tryz.prog 23 args = .pure (.enter 23 args):=rfl
@[go_sem] theorem call24 (args:List Value):aj Tryz.prog 24 args = .pure (.enter 24 args):=rfl
@[go_sem] theorem call25 (args:List Value):aj Tryz.prog 25 args = .pure (.enter 25 args):=rfl
@[go_sem] theorem call26 (args:List Value):aj Tryz.prog 26 args = .pure (.enter 26 args):=rfl
@[go_sem] theorem call27 (args:List Value):aj Tryz.prog 27 args = .pure (.enter 27 args):=rfl
@[go_sem] theorem call28 (args:List Value):aj Tryz.prog 28 args = .pure (.enter 28 args):=rfl
@[go_sem] theorem call29 (args:List Value):aj Tryz.prog 29 args = .pure (.enter 29 args):=rfl
@[go_sem] theorem call30 (args:List Value):aj Tryz.prog 30 args = .pure (.enter 30 args):=rfl
@[go_sem] theorem call31 (args:List Value):aj Tryz.prog 31 args = .pure (.enter 31 args):=rfl
@[go_sem] theorem call32 (args:List Value):aj Tryz.prog 32 args = .pure (.enter 32 args):=rfl
@[go_sem] theorem call33 (args:List Value):aj Tryz.prog 33 args = .pure (.enter 33 args):=rfl
@[go_sem] theorem call34 (args:List Value):aj Tryz.prog 34 args = .pure (.enter 34 args):=rfl
@[go_sem] theorem call35 (args:List Value):aj Tryz.prog 35 args = .pure (.enter 35 args):=rfl
@[go_sem] theorem call36 (args:List Value):aj Tryz.prog 36 args = .pure (.enter 36 args):=rfl
@[go_sem] theorem call37 (args:List Value):aj Tryz.prog 37 args = .pure (.enter 37 args):=rfl
@[go_sem] theorem call38 (args:List Value):aj Tryz.prog 38 args = .pure (.enter 38 args):=rfl
@[go_sem] theorem call39 (args:List Value):aj Tryz.prog 39 args = .pure (.enter 39 args):=rfl
@[go_sem] theorem call40 (args:List Value):aj Tryz.prog 40 args = .pure (.enter 40 args):=rfl
@[go_sem] theorem call41 (args:List Value):aj Tryz.prog 41 args = .pure (.enter 41 args):=rfl
@[go_sem] theorem call42 (args:List Value):aj Tryz.prog 42 args = .pure (.enter 42 args):=rfl
@[go_sem] theorem call43 (args:List Value):aj Tryz.prog 43 args = .pure (.enter 43 args):=rfl
@[go_sem] theorem call44 (args:List Value):aj Tryz.prog 44 args = .pure (.enter 44 args):=rfl
@[go_sem] theorem call45 (args:List Value):aj Tryz.prog 45 args = .pure (.enter 45 args):=rfl
@[go_sem] theorem call46 (args:List Value):aj Tryz.prog 46 args = .pure (.enter 46 args):=rfl
@[go_sem] theorem call47 (args:List Value):aj Tryz.prog 47 args = .pure (.enter 47 args):=rfl
@[go_sem] theorem call48 (args:List Value):aj Tryz.prog 48 args = .pure (.enter 48 args):=rfl
@[go_sem] theorem call49 (args:List Value):aj Tryz.prog 49 args = .pure (.enter 49 args):=rfl
@[go_sem] theorem call50 (args:List Value):aj Tryz.prog 50 args = .pure (.enter 50 args):=rfl
@[go_sem] theorem call51 (args:List Value):aj Tryz.prog 51 args = .pure (.enter 51 args):=rfl
@[go_sem] theorem call52 (args:List Value):aj Tryz.prog 52 args = .pure (.enter 52 args):=rfl
@[go_sem] theorem call53 (args:List Value):aj Tryz.prog 53 args = .pure (.enter 53 args):=rfl
@[go_sem] theorem call54 (args:List Value):aj Tryz.prog 54 args = .pure (.enter 54 args):=rfl
@[go_sem] theorem call55 (args:List Value):aj Tryz.prog 55 args = .pure (.enter 55 args):=rfl
@[go_sem] theorem call56 (args:List Value):aj Tryz.prog 56 args = .pure (.enter 56 args):=rfl
@[go_sem] theorem call57 (args:List Value):aj Tryz.prog 57 args = .pure (.enter 57 args):=rfl
@[go_sem] theorem call58 (args:List Value):aj Tryz.prog 58 args = .pure (.enter 58 args):=rfl
@[go_sem] theorem call59 (args:List Value):aj Tryz.prog 59 args = .pure (.enter 59 args):=rfl
@[go_sem] theorem call60 (args:List Value):aj Tryz.prog 60 args = .pure (.enter 60 args):=rfl
@[go_sem] theorem call61 (args:List Value):aj Tryz.prog 61 args = .pure (.enter 61 args):=rfl
@[go_sem] theorem call62 (args:List Value):aj Tryz.prog 62 args = .pure (.enter 62 args):=rfl
@[go_sem] theorem call63 (args:List Value):aj Tryz.prog 63 args = .pure (.enter 63 args):=rfl
@[go_sem] theorem call64 (args:List Value):aj Tryz.prog 64 args = .pure (.enter 64 args):=rfl
@[go_sem] theorem call65 (args:List Value):aj Tryz.prog 65 args = .pure (.enter 65 args):=rfl
@[go_sem] theorem call66 (args:List Value):aj Tryz.prog 66 args = .pure (.enter 66 args):=rfl
@[go_sem] theorem call67 (args:List Value):aj Tryz.prog 67 args = .pure (.enter 67 args):=rfl
@[go_sem] theorem call68 (args:List Value):aj Tryz.prog 68 args = .pure (.enter 68 args):=rfl
@[go_sem] theorem call69 (args:List Value):aj Tryz.prog 69 args = .pure (.enter 69 args):=rfl
@[go_sem] theorem call70 (args:List Value):aj Tryz.prog 70 args = .pure (.enter 70 args):=rfl
@[go_sem] theorem call71 (args:List Value):aj Tryz.prog 71 args = .pure (.enter 71 args):=rfl
@[go_sem] theorem call72 (args:List Value):aj Tryz.prog 72 args = .pure (.enter 72 args):=rfl
@[go_sem] theorem call73 (args:List Value):aj Tryz.prog 73 args = .pure (.enter 73 args):=rfl
@[go_sem] theorem call74 (args:List Value):aj Tryz.prog 74 args = .pure (.enter 74 args):=rfl
@[go_sem] theorem call75 (args:List Value):aj Tryz.prog 75 args = .pure (.enter 75 args):=rfl
@[go_sem] theorem call76 (args:List Value):aj Tryz.prog 76 args = .pure (.enter 76 args):=rfl
@[go_sem] theorem call78 (args:List Value):aj Tryz.prog 78 args = .pure (.enter 78 args):=rfl
@[go_sem] theorem call79 (args:List Value):aj Tryz.prog 79 args = .pure (.enter 79 args):=rfl
@[go_sem] theorem call80 (args:List Value):aj Tryz.prog 80 args = .pure (.enter 80 args):=rfl
@[go_sem] theorem call81 (args:List Value):aj Tryz.prog 81 args = .pure (.enter 81 args):=rfl
@[go_sem] theorem call82 (args:List Value):aj Tryz.prog 82 args = .pure (.enter 82 args):=rfl
@[go_sem] theorem call83 (args:List Value):aj Tryz.prog 83 args = .pure (.enter 83 args):=rfl
@[go_sem] theorem call84 (args:List Value):aj Tryz.prog 84 args = .pure (.enter 84 args):=rfl
@[go_sem] theorem call85 (args:List Value):aj Tryz.prog 85 args = .pure (.enter 85 args):=rfl
@[go_sem] theorem call86 (args:List Value):aj Tryz.prog 86 args = .pure (.enter 86 args):=rfl
@[go_sem] theorem call87 (args:List Value):aj Tryz.prog 87 args = .pure (.enter 87 args):=rfl
@[go_sem] theorem call88 (args:List Value):aj Tryz.prog 88 args = .pure (.enter 88 args):=rfl
@[go_sem] theorem call89 (args:List Value):aj Tryz.prog 89 args = .pure (.enter 89 args):=rfl
@[go_sem] theorem call90 (args:List Value):aj Tryz.prog 90 args = .pure (.enter 90 args):=rfl
@[go_sem] theorem call91 (args:List Value):aj Tryz.prog 91 args = .pure (.enter 91 args):=rfl
@[go_sem] theorem call92 (args:List Value):aj Tryz.prog 92 args = .pure (.enter 92 args):=rfl
@[go_sem] theorem call93 (args:List Value):aj Tryz.prog 93 args = .pure (.enter 93 args):=rfl
@[go_sem] theorem call94 (args:List Value):aj Tryz.prog 94 args = .pure (.enter 94 args):=rfl
@[go_sem] theorem call95 (args:List Value):aj Tryz.prog 95 args = .pure (.enter 95 args):=rfl
@[go_sem] theorem call96 (args:List Value):aj Tryz.prog 96 args = .pure (.enter 96 args):=rfl
@[go_sem] theorem call97 (args:List Value):aj Tryz.prog 97 args = .pure (.enter 97 args):=rfl
@[go_sem] theorem call98 (args:List Value):aj Tryz.prog 98 args = .pure (.enter 98 args):=rfl
@[go_sem] theorem call99 (args:List Value):aj Tryz.prog 99 args = .pure (.enter 99 args):=rfl
@[go_sem] theorem call100 (args:List Value):aj Tryz.prog 100 args = .pure (.enter 100 args):=rfl
@[go_sem] theorem call101 (args:List Value):aj Tryz.prog 101 args = .pure (.enter 101 args):=rfl
@[go_sem] theorem call102 (args:List Value):aj Tryz.prog 102 args = .pure (.enter 102 args):=rfl
@[go_sem] theorem call103 (args:List Value):aj Tryz.prog 103 args = .pure (.enter 103 args):=rfl
@[go_sem] theorem call104 (args:List Value):aj Tryz.prog 104 args = .pure (.enter 104 args):=rfl
@[go_sem] theorem call105 (args:List Value):aj Tryz.prog 105 args = .pure (.enter 105 args):=rfl
@[go_sem] theorem call107 (args:List Value):aj Tryz.prog 107 args = .pure (.enter 107 args):=rfl
@[go_sem] theorem call108 (args:List Value):aj Tryz.prog 108 args = .pure (.enter 108 args):=rfl
@[go_sem] theorem call109 (args:List Value):aj Tryz.prog 109 args = .pure (.enter 109 args):=rfl
@[go_sem] theorem call110 (args:List Value):aj Tryz.prog 110 args = .pure (.enter 110 args):=rfl
@[go_sem] theorem call111 (args:List Value):aj Tryz.prog 111 args = .pure (.enter 111 args):=rfl
@[go_sem] theorem call112 (args:List Value):aj Tryz.prog 112 args = .pure (.enter 112 args):=rfl
@[go_sem] theorem call113 (args:List Value):aj Tryz.prog 113 args = .pure (.enter 113 args):=rfl
@[go_sem] theorem call114 (args:List Value):aj Tryz.prog 114 args = .pure (.enter 114 args):=rfl
@[go_sem] theorem call115 (args:List Value):aj Tryz.prog 115 args = .pure (.enter 115 args):=rfl
@[go_sem] theorem call116 (args:List Value):aj Tryz.prog 116 args = .pure (.enter 116 args):=rfl
@[go_sem] theorem call117 (args:List Value):aj Tryz.prog 117 args = .pure (.enter 117 args):=rfl
@[go_sem] theorem call118 (args:List Value):aj Tryz.prog 118 args = .pure (.enter 118 args):=rfl
@[go_sem] theorem call119 (args:List Value):aj Tryz.prog 119 args = .pure (.enter 119 args):=rfl
@[go_sem] theorem call120 (args:List Value):aj Tryz.prog 120 args = .pure (.enter 120 args):=rfl
@[go_sem] theorem call121 (args:List Value):aj Tryz.prog 121 args = .pure (.enter 121 args):=rfl
@[go_sem] theorem call122 (args:List Value):aj Tryz.prog 122 args = .pure (.enter 122 args):=rfl
@[go_sem] theorem call123 (args:List Value):aj Tryz.prog 123 args = .pure (.enter 123 args):=rfl
@[go_sem] theorem call124 (args:List Value):aj Tryz.prog 124 args = .pure (.enter 124 args):=rfl
@[go_sem] theorem call125 (args:List Value):aj Tryz.prog 125 args = .pure (.enter 125 args):=rfl
@[go_sem] theorem call126 (args:List Value):aj Tryz.prog 126 args = .pure (.enter 126 args):=rfl
@[go_sem] theorem call127 (args:List Value):aj Tryz.prog 127 args = .pure (.enter 127 args):=rfl
@[go_sem] theorem call128 (args:List Value):aj Tryz.prog 128 args = .pure (.enter 128 args):=rfl
@[go_sem] theorem call129 (args:List Value):aj Tryz.prog 129 args = .pure (.enter 129 args):=rfl
@[go_sem] theorem call130 (args:List Value):aj Tryz.prog 130 args = .pure (.enter 130 args):=rfl
@[go_sem] theorem call131 (args:List Value):aj Tryz.prog 131 args = .pure (.enter 131 args):=rfl
@[go_sem] theorem call132 (args:List Value):aj Tryz.prog 132 args = .pure (.enter 132 args):=rfl
@[go_sem] theorem call133 (args:List Value):aj Tryz.prog 133 args = .pure (.enter 133 args):=rfl
@[go_sem] theorem call134 (args:List Value):aj Tryz.prog 134 args = .pure (.enter 134 args):=rfl
@[go_sem] theorem call135 (args:List Value):aj Tryz.prog 135 args = .pure (.enter 135 args):=rfl
@[go_sem] theorem call136 (args:List Value):aj Tryz.prog 136 args = .pure (.enter 136 args):=rfl
@[go_sem] theorem call137 (args:List Value):aj Tryz.prog 137 args = .pure (.enter 137 args):=rfl
@[go_sem] theorem call138 (args:List Value):aj Tryz.prog 138 args = .pure (.enter 138 args):=rfl
@[go_sem] theorem call139 (args:List Value):aj Tryz.prog 139 args = .pure (.enter 139 args):=rfl
@[go_sem] theorem call140 (args:List Value):aj Tryz.prog 140 args = .pure (.enter 140 args):=rfl
@[go_sem] theorem call141 (args:List Value):aj Tryz.prog 141 args = .pure (.enter 141 args):=rfl
@[go_sem] theorem call142 (args:List Value):aj Tryz.prog 142 args = .pure (.enter 142 args):=rfl
@[go_sem] theorem call143 (args:List Value):aj Tryz.prog 143 args = .pure (.enter 143 args):=rfl
@[go_sem] theorem call144 (args:List Value):aj Tryz.prog 144 args = .pure (.enter 144 args):=rfl
@[go_sem] theorem call145 (args:List Value):aj Tryz.prog 145 args = .pure (.enter 145 args):=rfl
@[go_sem] theorem call146 (args:List Value):aj Tryz.prog 146 args = .pure (.enter 146 args):=rfl
@[go_sem] theorem call147 (args:List Value):aj Tryz.prog 147 args = .pure (.enter 147 args):=rfl
@[go_sem] theorem call148 (args:List Value):aj Tryz.prog 148 args = .pure (.enter 148 args):=rfl
@[go_sem] theorem call168 (args:List Value):aj Tryz.prog 168 args = .pure (.enter 168 args):=rfl
@[go_sem] theorem call170 (args:List Value):aj Tryz.prog 170 args = .pure (.enter 170 args):=rfl
@[go_sem] theorem call174 (args:List Value):aj Tryz.prog 174 args = .pure (.enter 174 args):=rfl
@[go_sem] theorem call179 (args:List Value):aj Tryz.prog 179 args = .pure (.enter 179 args):=rfl
attribute [go_sem_proc] Nat.reduceLT Nat.reduceAdd Nat.reduceMul Nat.reduceSub Nat.reduceEqDiff Nat.reduceLeDiff Int.reduceToNat Int.reduceLT Int.reduceLE Int.reduceEq Int.reduceNe Int.reduceAdd Int.reduceSub Int.reduceMul Int.reduceNeg reduceCtorEq
attribute [go_sem_proc ↓] reduceIte
@[go_sem] def Ed:List (Nat×Nat):=[(0,1),(0,2),(0,3),(0,4),(0,5),(0,6),(1,6),(2,6),(3,6),(4,6),(5,6),(0,7),(1,7),(2,7),(3,7),(4,7),(5,7),(0,8),(1,8),(2,8),(3,8),(4,8),(5,8),(6,8),(7,8),(0,9),(1,9),(2,9),(3,9),(4,9),(5,9),(6,9),(7,9),(0,10),(1,10),(2,10),(3,10),(4,10),(5,10),(6,10),(7,10),(0,11),(1,11),(2,11),(3,11),(4,11),(5,11),(6,11),(7,11),(8,11),(9,11),(10,11),(0,12),(1,12),(2,12),(3,12),(4,12),(5,12),(6,12),(7,12),(8,12),(9,12),(10,12),(0,13),(1,13),(2,13),(3,13),(4,13),(5,13),(6,13),(7,13),(8,13),(9,13),(10,13),(11,13),(12,13),(0,14),(1,14),(2,14),(3,14),(4,14),(5,14),(6,14),(7,14),(8,14),(9,14),(10,14),(11,14),(12,14),(0,15),(0,16),(0,17),(0,18),(17,18),(18,19),(18,20),(18,21),(18,22)]
@[go_sem] def tq:List (Nat×Nat):=[(0,1),(0,2),(0,3),(0,4),(0,5),(0,6),(1,6),(2,6),(3,6),(4,6),(5,6),(0,7),(0,8),(0,9),(1,9),(2,9),(3,9),(4,9),(5,9),(6,9),(7,9),(8,9),(0,10),(1,10),(2,10),(3,10),(4,10),(5,10),(6,10),(7,10),(8,10),(0,11),(1,11),(2,11),(3,11),(4,11),(5,11),(6,11),(7,11),(8,11),(0,12),(1,12),(2,12),(3,12),(4,12),(5,12),(6,12),(7,12),(8,12),(0,13),(1,13),(2,13),(3,13),(4,13),(5,13),(6,13),(7,13),(8,13),(0,14),(1,14),(2,14),(3,14),(4,14),(5,14),(6,14),(7,14),(8,14),(13,14),(14,15),(14,16)]
@[go_sem] def FN:List (Nat×Nat):=[(0,1),(0,2),(1,2),(0,3),(1,3),(0,4),(1,4),(2,4),(3,4),(0,5),(1,5),(2,5),(3,5),(0,6),(1,6),(2,6),(3,6),(4,6),(5,6),(0,7),(1,7),(2,7),(3,7),(4,7),(5,7),(6,7),(0,8),(1,8),(2,8),(3,8),(4,8),(5,8),(6,8),(0,9),(1,9),(2,9),(3,9),(4,9),(5,9),(6,9)]
@[go_sem] def vv:List (Nat×Nat):=[(0,1),(0,2),(1,2),(0,3),(1,3),(0,4),(1,4),(2,4),(3,4),(0,5),(1,5),(2,5),(3,5)]
@[go_sem] def AB:List (Nat×Nat):=[(0,5),(1,5),(2,5),(3,5),(4,5),(0,6),(1,6),(2,6),(3,6),(4,6),(0,8),(1,8),(2,8),(3,8),(4,8),(5,8),(6,8),(7,8),(0,9),(1,9),(2,9),(3,9),(4,9),(5,9),(6,9),(7,9),(0,10),(1,10),(2,10),(3,10),(4,10),(5,10),(6,10),(7,10),(0,11),(1,11),(2,11),(3,11),(4,11),(5,11),(6,11),(7,11),(0,12),(1,12),(2,12),(3,12),(4,12),(5,12),(6,12),(7,12),(11,12),(0,13),(1,13),(2,13),(3,13),(4,13),(5,13),(6,13),(7,13),(11,13),(0,14),(1,14),(2,14),(3,14),(4,14),(5,14),(6,14),(7,14),(11,14),(0,15),(1,15),(2,15),(3,15),(4,15),(5,15),(6,15),(7,15),(11,15),(0,16),(1,16),(2,16),(3,16),(4,16),(5,16),(6,16),(7,16),(0,17),(1,17),(2,17),(3,17),(4,17),(5,17),(6,17),(7,17),(11,18),(12,18),(13,18),(14,18),(15,18),(16,18),(17,18)]
attribute [go_sem] Tryz.results3 Tryz.results6 Tryz.results7 Tryz.results8 Tryz.results9 Tryz.results10 Tryz.results11 Tryz.results21 Tryz.results23 Tryz.results26 Tryz.results27 Tryz.results34 Tryz.results35 Tryz.results36 Tryz.results37 Tryz.results38 Tryz.results39 Tryz.results40 Tryz.results41 Tryz.results42 Tryz.results43 Tryz.results44 Tryz.results56 Tryz.results65 Tryz.results66 Tryz.results67 Tryz.results68 Tryz.results69 Tryz.results70 Tryz.results71 Tryz.results72 Tryz.results73 Tryz.results74 Tryz.results75 Tryz.results76 Tryz.results78 Tryz.results79 Tryz.results80 Tryz.results85 Tryz.results104 Tryz.results105 Tryz.results107 Tryz.results108 Tryz.results109 Tryz.results129 Tryz.results130 Tryz.results133 Tryz.results134 Tryz.results144 Tryz.results145 Tryz.results148
attribute [go_sem] Tryz.ntmps3 Tryz.ntmps6 Tryz.ntmps7 Tryz.ntmps8 Tryz.ntmps9 Tryz.ntmps10 Tryz.ntmps11 Tryz.ntmps21 Tryz.ntmps23 Tryz.ntmps26 Tryz.ntmps27 Tryz.ntmps34 Tryz.ntmps35 Tryz.ntmps36 Tryz.ntmps37 Tryz.ntmps38 Tryz.ntmps39 Tryz.ntmps40 Tryz.ntmps41 Tryz.ntmps42 Tryz.ntmps43 Tryz.ntmps44 Tryz.ntmps56 Tryz.ntmps65 Tryz.ntmps66 Tryz.ntmps67 Tryz.ntmps68 Tryz.ntmps69 Tryz.ntmps70 Tryz.ntmps71 Tryz.ntmps72 Tryz.ntmps73 Tryz.ntmps74 Tryz.ntmps75 Tryz.ntmps76 Tryz.ntmps78 Tryz.ntmps79 Tryz.ntmps80 Tryz.ntmps85 Tryz.ntmps104 Tryz.ntmps105 Tryz.ntmps107 Tryz.ntmps108 Tryz.ntmps109 Tryz.ntmps129 Tryz.ntmps130 Tryz.ntmps133 Tryz.ntmps134 Tryz.ntmps144 Tryz.ntmps145 Tryz.ntmps148
end Go.Proofs.YtfhmopghjoeamaaGreat
