/-
  What the program's types are, in the abstract machine's words: read off the program by program.
-/
import Derived.Test.YtofmbmclopgldaaGreatProg
import Derived.Test.YtofmbmclopgldaaGreatAmV4
set_option linter.unusedVariables false
set_option maxRecDepth 100000
namespace Go.Proofs.YtofmbmclopgldaaGreat
open Go.Am
attribute [go_sem] Tryz.underlying0
@[go_sem] theorem sz0:cg Tryz.prog 0=some 1:=rfl
@[go_sem] theorem ag0:cq Tryz.prog 0=some false:=rfl
attribute [go_sem] Tryz.underlying3
@[go_sem] theorem sz3:cg Tryz.prog 3=some 1:=rfl
@[go_sem] theorem ag3:cq Tryz.prog 3=some false:=rfl
@[go_sem] theorem zc3:dH Tryz.prog 3=some [.int .i64 0]:=rfl
attribute [go_sem] Tryz.underlying4
@[go_sem] theorem sz4:cg Tryz.prog 4=some 1:=rfl
@[go_sem] theorem ag4:cq Tryz.prog 4=some false:=rfl
@[go_sem] theorem zc4:dH Tryz.prog 4=some [.bool false]:=rfl
attribute [go_sem] Tryz.underlying5
@[go_sem] theorem sz5:cg Tryz.prog 5=some 1:=rfl
@[go_sem] theorem ag5:cq Tryz.prog 5=some false:=rfl
@[go_sem] theorem zc5:dH Tryz.prog 5=some [.int .u8 0]:=rfl
attribute [go_sem] Tryz.underlying22
@[go_sem] theorem akG:cg Tryz.prog 22=some 1:=rfl
@[go_sem] theorem akH:cq Tryz.prog 22=some false:=rfl
@[go_sem] theorem akI:dH Tryz.prog 22=some [.slice none 0 0]:=rfl
@[go_sem] theorem akJ:zI Tryz.prog 22=some (none,1):=rfl
@[go_sem] theorem akK:B1 Tryz.prog 22=some (1,8,[.int .u64 0]):=rfl
@[go_sem] theorem akL:Dz Tryz.prog 22 22=some (1,8,1):=rfl
attribute [go_sem] Tryz.underlying24
@[go_sem] theorem akM:cg Tryz.prog 24=some 3:=rfl
@[go_sem] theorem akN:cq Tryz.prog 24=some true:=rfl
@[go_sem] theorem akO:dH Tryz.prog 24=some [.int .u8 0,.int .i64 0,.slice none 0 0]:=rfl
@[go_sem] theorem akP:k_ Tryz.prog 24=some ([.int .u8 0,.int .i64 0,.slice none 0 0],fun j=>[(0,1),(1,1),(2,1)][j]?):=rfl
@[go_sem] theorem abq:bS Tryz.prog 24 0=some (0,1):=rfl
@[go_sem] theorem abr:bU Tryz.prog 24 0=some (0,1,false):=rfl
@[go_sem] theorem abt:bS Tryz.prog 24 1=some (1,1):=rfl
@[go_sem] theorem abu:bU Tryz.prog 24 1=some (1,1,false):=rfl
@[go_sem] theorem abv:bS Tryz.prog 24 2=some (2,1):=rfl
@[go_sem] theorem abw:bU Tryz.prog 24 2=some (2,1,false):=rfl
attribute [go_sem] Tryz.underlying25
@[go_sem] theorem akQ:cg Tryz.prog 25=some 6:=rfl
@[go_sem] theorem akR:cq Tryz.prog 25=some true:=rfl
@[go_sem] theorem akS:dH Tryz.prog 25=some [.int .i64 0,.int .i64 0,.int .i64 0,.int .i64 0,.int .i64 0,.int .i64 0]:=rfl
@[go_sem] theorem akT:k_ Tryz.prog 25=some ([.int .i64 0,.int .i64 0,.int .i64 0,.int .i64 0,.int .i64 0,.int .i64 0],fun j=>some (j*1,1)):=rfl
@[go_sem] theorem akU:zI Tryz.prog 25=some (some 6,1):=rfl
@[go_sem] theorem akV:Ti Tryz.prog 25=some (6,1,false):=rfl
attribute [go_sem] Tryz.underlying27
@[go_sem] theorem akW:cg Tryz.prog 27=some 16:=rfl
@[go_sem] theorem akX:cq Tryz.prog 27=some true:=rfl
@[go_sem] theorem akY:dH Tryz.prog 27=some [.int .i64 0,.int .i64 0,.int .u8 0,.int .i64 0,.int .u8 0,.int .i64 0,.slice none 0 0,.int .i64 0,.int .i64 0,.int .i64 0,.int .i64 0,.int .i64 0,.int .i64 0,.int .i64 0,.int .i64 0,.int .i64 0]:=rfl
@[go_sem] theorem akZ:k_ Tryz.prog 27=some ([.int .i64 0,.int .i64 0,.int .u8 0,.int .i64 0,.int .u8 0,.int .i64 0,.slice none 0 0,.int .i64 0,.int .i64 0,.int .i64 0,.int .i64 0,.int .i64 0,.int .i64 0,.int .i64 0,.int .i64 0,.int .i64 0],fun j=>[(0,1),(1,1),(2,1),(3,1),(4,3),(7,6),(13,1),(14,1),(15,1)][j]?):=rfl
@[go_sem] theorem abx:bS Tryz.prog 27 0=some (0,1):=rfl
@[go_sem] theorem aby:bU Tryz.prog 27 0=some (0,1,false):=rfl
@[go_sem] theorem abz:bS Tryz.prog 27 1=some (1,1):=rfl
@[go_sem] theorem abA:bU Tryz.prog 27 1=some (1,1,false):=rfl
@[go_sem] theorem abB:bS Tryz.prog 27 2=some (2,1):=rfl
@[go_sem] theorem abC:bU Tryz.prog 27 2=some (2,1,false):=rfl
@[go_sem] theorem abD:bS Tryz.prog 27 3=some (3,1):=rfl
@[go_sem] theorem abE:bU Tryz.prog 27 3=some (3,1,false):=rfl
@[go_sem] theorem abF:bS Tryz.prog 27 4=some (4,3):=rfl
@[go_sem] theorem abG:bU Tryz.prog 27 4=some (4,3,true):=rfl
@[go_sem] theorem abH:bS Tryz.prog 27 5=some (7,6):=rfl
@[go_sem] theorem abI:bU Tryz.prog 27 5=some (7,6,true):=rfl
@[go_sem] theorem abJ:bS Tryz.prog 27 6=some (13,1):=rfl
@[go_sem] theorem abK:bU Tryz.prog 27 6=some (13,1,false):=rfl
@[go_sem] theorem abL:bS Tryz.prog 27 7=some (14,1):=rfl
@[go_sem] theorem abM:bU Tryz.prog 27 7=some (14,1,false):=rfl
@[go_sem] theorem abN:bS Tryz.prog 27 8=some (15,1):=rfl
@[go_sem] theorem abO:bU Tryz.prog 27 8=some (15,1,false):=rfl
attribute [go_sem] Tryz.underlying29
@[go_sem] theorem ak0:cg Tryz.prog 29=some 1:=rfl
@[go_sem] theorem ak1:cq Tryz.prog 29=some false:=rfl
@[go_sem] theorem ak2:dH Tryz.prog 29=some [.pointer none]:=rfl
attribute [go_sem] Tryz.underlying30
@[go_sem] theorem ak3:cg Tryz.prog 30=some 1:=rfl
@[go_sem] theorem ak4:cq Tryz.prog 30=some false:=rfl
@[go_sem] theorem ak5:dH Tryz.prog 30=some [.int .i64 0]:=rfl
attribute [go_sem] Tryz.underlying31
@[go_sem] theorem ak6:cg Tryz.prog 31=some 1:=rfl
@[go_sem] theorem ak7:cq Tryz.prog 31=some false:=rfl
attribute [go_sem] Tryz.underlying34
@[go_sem] theorem ak8:cg Tryz.prog 34=some 1:=rfl
@[go_sem] theorem ak9:cq Tryz.prog 34=some false:=rfl
@[go_sem] theorem ak_:dH Tryz.prog 34=some [.slice none 0 0]:=rfl
@[go_sem] theorem ak':zI Tryz.prog 34=some (none,2):=rfl
@[go_sem] theorem ala:B1 Tryz.prog 34=some (2,16,[.int .u64 0,.int .u64 0]):=rfl
@[go_sem] theorem alb:Dz Tryz.prog 34 34=some (2,16,2):=rfl
attribute [go_sem] Tryz.underlying35
@[go_sem] theorem alc:cg Tryz.prog 35=some 1:=rfl
@[go_sem] theorem ald:cq Tryz.prog 35=some false:=rfl
attribute [go_sem] Tryz.underlying36
@[go_sem] theorem ale:cg Tryz.prog 36=some 1:=rfl
@[go_sem] theorem alf:cq Tryz.prog 36=some false:=rfl
@[go_sem] theorem alg:dH Tryz.prog 36=some [.pointer none]:=rfl
attribute [go_sem] Tryz.underlying39
@[go_sem] theorem alh:cg Tryz.prog 39=some 1:=rfl
@[go_sem] theorem ali:cq Tryz.prog 39=some false:=rfl
attribute [go_sem] Tryz.underlying41
@[go_sem] theorem alj:cg Tryz.prog 41=some 1:=rfl
@[go_sem] theorem alk:cq Tryz.prog 41=some false:=rfl
@[go_sem] theorem alm:dH Tryz.prog 41=some [.slice none 0 0]:=rfl
@[go_sem] theorem aln:zI Tryz.prog 41=some (none,4):=rfl
@[go_sem] theorem alo:B1 Tryz.prog 41=some (4,32,[.int .i64 0,.int .i64 0,.int .u8 0,.int .u64 0]):=rfl
@[go_sem] theorem alp:Dz Tryz.prog 41 41=some (4,32,4):=rfl
attribute [go_sem] Tryz.underlying43
@[go_sem] theorem alq:cg Tryz.prog 43=some 1:=rfl
@[go_sem] theorem alr:cq Tryz.prog 43=some false:=rfl
@[go_sem] theorem als:dH Tryz.prog 43=some [.slice none 0 0]:=rfl
@[go_sem] theorem alu:zI Tryz.prog 43=some (none,1):=rfl
@[go_sem] theorem alv:B1 Tryz.prog 43=some (1,8,[.int .i64 0]):=rfl
@[go_sem] theorem alw:Dz Tryz.prog 43 43=some (1,8,1):=rfl
attribute [go_sem] Tryz.underlying44
@[go_sem] theorem alx:cg Tryz.prog 44=some 1:=rfl
@[go_sem] theorem aly:cq Tryz.prog 44=some false:=rfl
@[go_sem] theorem alz:dH Tryz.prog 44=some [.pointer none]:=rfl
attribute [go_sem] Tryz.underlying48
@[go_sem] theorem alA:cg Tryz.prog 48=some 1:=rfl
@[go_sem] theorem alB:cq Tryz.prog 48=some false:=rfl
@[go_sem] theorem alC:dH Tryz.prog 48=some [.pointer none]:=rfl
attribute [go_sem] Tryz.underlying51
@[go_sem] theorem alD:cg Tryz.prog 51=some 1:=rfl
@[go_sem] theorem alE:cq Tryz.prog 51=some false:=rfl
@[go_sem] theorem alF:dH Tryz.prog 51=some [.pointer none]:=rfl
attribute [go_sem] Tryz.underlying53
@[go_sem] theorem alG:cg Tryz.prog 53=some 1:=rfl
@[go_sem] theorem alH:cq Tryz.prog 53=some false:=rfl
@[go_sem] theorem alI:dH Tryz.prog 53=some [.pointer none]:=rfl
attribute [go_sem] Tryz.underlying57
@[go_sem] theorem alJ:cg Tryz.prog 57=some 1:=rfl
@[go_sem] theorem alK:cq Tryz.prog 57=some false:=rfl
@[go_sem] theorem alL:dH Tryz.prog 57=some [.int .u64 0]:=rfl
attribute [go_sem] Tryz.underlying61
@[go_sem] theorem alM:cg Tryz.prog 61=some 1:=rfl
@[go_sem] theorem alN:cq Tryz.prog 61=some false:=rfl
@[go_sem] theorem alO:dH Tryz.prog 61=some [.pointer none]:=rfl
attribute [go_sem] Tryz.underlying63
@[go_sem] theorem alP:cg Tryz.prog 63=some 2:=rfl
@[go_sem] theorem alQ:cq Tryz.prog 63=some true:=rfl
@[go_sem] theorem alR:dH Tryz.prog 63=some [.pointer none,.pointer none]:=rfl
@[go_sem] theorem alS:k_ Tryz.prog 63=some ([.pointer none,.pointer none],fun j=>[(0,1),(1,1)][j]?):=rfl
@[go_sem] theorem abP:bS Tryz.prog 63 0=some (0,1):=rfl
@[go_sem] theorem abQ:bU Tryz.prog 63 0=some (0,1,false):=rfl
@[go_sem] theorem abR:bS Tryz.prog 63 1=some (1,1):=rfl
@[go_sem] theorem abS:bU Tryz.prog 63 1=some (1,1,false):=rfl
attribute [go_sem] Tryz.underlying76
@[go_sem] theorem alT:cg Tryz.prog 76=some 1:=rfl
@[go_sem] theorem alU:cq Tryz.prog 76=some false:=rfl
attribute [go_sem] Tryz.underlying87
@[go_sem] theorem alV:cg Tryz.prog 87=some 1:=rfl
@[go_sem] theorem alW:cq Tryz.prog 87=some false:=rfl
@[go_sem] theorem alX:dH Tryz.prog 87=some [.int .i64 0]:=rfl
attribute [go_sem] Tryz.underlying94
@[go_sem] theorem alY:cg Tryz.prog 94=some 6:=rfl
@[go_sem] theorem alZ:cq Tryz.prog 94=some true:=rfl
@[go_sem] theorem al0:dH Tryz.prog 94=some [.int .u64 0,.int .u64 0,.int .u64 0,.int .u64 0,.int .u64 0,.slice none 0 0]:=rfl
@[go_sem] theorem al1:k_ Tryz.prog 94=some ([.int .u64 0,.int .u64 0,.int .u64 0,.int .u64 0,.int .u64 0,.slice none 0 0],fun j=>[(0,1),(1,1),(2,1),(3,1),(4,1),(5,1)][j]?):=rfl
@[go_sem] theorem abT:bS Tryz.prog 94 0=some (0,1):=rfl
@[go_sem] theorem abU:bU Tryz.prog 94 0=some (0,1,false):=rfl
@[go_sem] theorem abV:bS Tryz.prog 94 1=some (1,1):=rfl
@[go_sem] theorem abW:bU Tryz.prog 94 1=some (1,1,false):=rfl
@[go_sem] theorem abX:bS Tryz.prog 94 2=some (2,1):=rfl
@[go_sem] theorem abY:bU Tryz.prog 94 2=some (2,1,false):=rfl
@[go_sem] theorem abZ:bS Tryz.prog 94 3=some (3,1):=rfl
@[go_sem] theorem ab0:bU Tryz.prog 94 3=some (3,1,false):=rfl
@[go_sem] theorem ab1:bS Tryz.prog 94 4=some (4,1):=rfl
@[go_sem] theorem ab2:bU Tryz.prog 94 4=some (4,1,false):=rfl
@[go_sem] theorem ab3:bS Tryz.prog 94 5=some (5,1):=rfl
@[go_sem] theorem ab4:bU Tryz.prog 94 5=some (5,1,false):=rfl
attribute [go_sem] Tryz.underlying95
@[go_sem] theorem al2:cg Tryz.prog 95=some 1:=rfl
@[go_sem] theorem al3:cq Tryz.prog 95=some false:=rfl
attribute [go_sem] Tryz.underlying98
@[go_sem] theorem al4:cg Tryz.prog 98=some 1:=rfl
@[go_sem] theorem al5:cq Tryz.prog 98=some false:=rfl
@[go_sem] theorem al6:dH Tryz.prog 98=some [.slice none 0 0]:=rfl
@[go_sem] theorem al7:zI Tryz.prog 98=some (none,6):=rfl
@[go_sem] theorem al8:B1 Tryz.prog 98=some (6,48,[.int .i64 0,.int .i64 0,.int .u8 0,.int .u64 0,.int .u64 0,.bool false]):=rfl
@[go_sem] theorem al9:Dz Tryz.prog 98 98=some (6,48,6):=rfl
attribute [go_sem] Tryz.underlying101
@[go_sem] theorem aee:cg Tryz.prog 101=some 3:=rfl
@[go_sem] theorem aef:cq Tryz.prog 101=some true:=rfl
@[go_sem] theorem aeg:dH Tryz.prog 101=some [.int .u8 0,.int .i64 0,.int .i64 0]:=rfl
@[go_sem] theorem aeh:k_ Tryz.prog 101=some ([.int .u8 0,.int .i64 0,.int .i64 0],fun j=>[(0,1),(1,1),(2,1)][j]?):=rfl
@[go_sem] theorem Wd:bS Tryz.prog 101 0=some (0,1):=rfl
@[go_sem] theorem Wg:bU Tryz.prog 101 0=some (0,1,false):=rfl
@[go_sem] theorem Wh:bS Tryz.prog 101 1=some (1,1):=rfl
@[go_sem] theorem Wi:bU Tryz.prog 101 1=some (1,1,false):=rfl
@[go_sem] theorem Wj:bS Tryz.prog 101 2=some (2,1):=rfl
@[go_sem] theorem Wk:bU Tryz.prog 101 2=some (2,1,false):=rfl
attribute [go_sem] Tryz.underlying104
@[go_sem] theorem aei:cg Tryz.prog 104=some 6:=rfl
@[go_sem] theorem aej:cq Tryz.prog 104=some true:=rfl
@[go_sem] theorem aek:dH Tryz.prog 104=some [.int .i64 0,.int .i64 0,.int .u8 0,.int .u64 0,.int .u64 0,.bool false]:=rfl
@[go_sem] theorem ael:k_ Tryz.prog 104=some ([.int .i64 0,.int .i64 0,.int .u8 0,.int .u64 0,.int .u64 0,.bool false],fun j=>[(0,1),(1,1),(2,1),(3,1),(4,1),(5,1)][j]?):=rfl
@[go_sem] theorem Wm:bS Tryz.prog 104 0=some (0,1):=rfl
@[go_sem] theorem Wn:bU Tryz.prog 104 0=some (0,1,false):=rfl
@[go_sem] theorem Wo:bS Tryz.prog 104 1=some (1,1):=rfl
@[go_sem] theorem Wp:bU Tryz.prog 104 1=some (1,1,false):=rfl
@[go_sem] theorem Wq:bS Tryz.prog 104 2=some (2,1):=rfl
@[go_sem] theorem Wr:bU Tryz.prog 104 2=some (2,1,false):=rfl
@[go_sem] theorem Ws:bS Tryz.prog 104 3=some (3,1):=rfl
@[go_sem] theorem Wu:bU Tryz.prog 104 3=some (3,1,false):=rfl
@[go_sem] theorem Wv:bS Tryz.prog 104 4=some (4,1):=rfl
@[go_sem] theorem Ww:bU Tryz.prog 104 4=some (4,1,false):=rfl
@[go_sem] theorem Wx:bS Tryz.prog 104 5=some (5,1):=rfl
@[go_sem] theorem Wy:bU Tryz.prog 104 5=some (5,1,false):=rfl
attribute [go_sem] Tryz.underlying106
@[go_sem] theorem aem:cg Tryz.prog 106=some 1:=rfl
@[go_sem] theorem aen:cq Tryz.prog 106=some false:=rfl
attribute [go_sem] Tryz.underlying109
@[go_sem] theorem aeo:cg Tryz.prog 109=some 5:=rfl
@[go_sem] theorem aep:cq Tryz.prog 109=some true:=rfl
@[go_sem] theorem aer:dH Tryz.prog 109=some [.pointer none,.pointer none,.pointer none,.pointer none,.pointer none]:=rfl
@[go_sem] theorem aes:k_ Tryz.prog 109=some ([.pointer none,.pointer none,.pointer none,.pointer none,.pointer none],fun j=>[(0,1),(1,1),(2,1),(3,1),(4,1)][j]?):=rfl
@[go_sem] theorem Wz:bS Tryz.prog 109 0=some (0,1):=rfl
@[go_sem] theorem WA:bU Tryz.prog 109 0=some (0,1,false):=rfl
@[go_sem] theorem WB:bS Tryz.prog 109 1=some (1,1):=rfl
@[go_sem] theorem WC:bU Tryz.prog 109 1=some (1,1,false):=rfl
@[go_sem] theorem WD:bS Tryz.prog 109 2=some (2,1):=rfl
@[go_sem] theorem WE:bU Tryz.prog 109 2=some (2,1,false):=rfl
@[go_sem] theorem WG:bS Tryz.prog 109 3=some (3,1):=rfl
@[go_sem] theorem WH:bU Tryz.prog 109 3=some (3,1,false):=rfl
@[go_sem] theorem WI:bS Tryz.prog 109 4=some (4,1):=rfl
@[go_sem] theorem WJ:bU Tryz.prog 109 4=some (4,1,false):=rfl
attribute [go_sem] Tryz.underlying110
@[go_sem] theorem aeu:cg Tryz.prog 110=some 1:=rfl
@[go_sem] theorem aev:cq Tryz.prog 110=some false:=rfl
@[go_sem] theorem aew:dH Tryz.prog 110=some [.map none]:=rfl
attribute [go_sem] Tryz.underlying111
@[go_sem] theorem aex:cg Tryz.prog 111=some 1:=rfl
@[go_sem] theorem aey:cq Tryz.prog 111=some false:=rfl
@[go_sem] theorem aez:dH Tryz.prog 111=some [.map none]:=rfl
attribute [go_sem] Tryz.underlying113
@[go_sem] theorem aeA:cg Tryz.prog 113=some 9:=rfl
@[go_sem] theorem aeB:cq Tryz.prog 113=some true:=rfl
@[go_sem] theorem aeC:dH Tryz.prog 113=some [.pointer none,.pointer none,.pointer none,.pointer none,.pointer none,.slice none 0 0,.slice none 0 0,.map none,.map none]:=rfl
@[go_sem] theorem aeD:k_ Tryz.prog 113=some ([.pointer none,.pointer none,.pointer none,.pointer none,.pointer none,.slice none 0 0,.slice none 0 0,.map none,.map none],fun j=>[(0,5),(5,1),(6,1),(7,1),(8,1)][j]?):=rfl
@[go_sem] theorem WK:bS Tryz.prog 113 0=some (0,5):=rfl
@[go_sem] theorem WL:bU Tryz.prog 113 0=some (0,5,true):=rfl
@[go_sem] theorem WM:bS Tryz.prog 113 1=some (5,1):=rfl
@[go_sem] theorem WN:bU Tryz.prog 113 1=some (5,1,false):=rfl
@[go_sem] theorem WO:bS Tryz.prog 113 2=some (6,1):=rfl
@[go_sem] theorem WQ:bU Tryz.prog 113 2=some (6,1,false):=rfl
@[go_sem] theorem WR:bS Tryz.prog 113 3=some (7,1):=rfl
@[go_sem] theorem WS:bU Tryz.prog 113 3=some (7,1,false):=rfl
@[go_sem] theorem WT:bS Tryz.prog 113 4=some (8,1):=rfl
@[go_sem] theorem WU:bU Tryz.prog 113 4=some (8,1,false):=rfl
attribute [go_sem] Tryz.underlying114
@[go_sem] theorem aeE:cg Tryz.prog 114=some 1:=rfl
@[go_sem] theorem aeF:cq Tryz.prog 114=some false:=rfl
attribute [go_sem] Tryz.underlying116
@[go_sem] theorem aeG:cg Tryz.prog 116=some 1:=rfl
@[go_sem] theorem aeH:cq Tryz.prog 116=some false:=rfl
attribute [go_sem] Tryz.underlying118
@[go_sem] theorem aeI:cg Tryz.prog 118=some 1:=rfl
@[go_sem] theorem aeJ:cq Tryz.prog 118=some false:=rfl
attribute [go_sem] Tryz.underlying120
@[go_sem] theorem aeK:cg Tryz.prog 120=some 1:=rfl
@[go_sem] theorem aeL:cq Tryz.prog 120=some false:=rfl
attribute [go_sem] Tryz.underlying123
@[go_sem] theorem aeM:cg Tryz.prog 123=some 10:=rfl
@[go_sem] theorem aeN:cq Tryz.prog 123=some true:=rfl
@[go_sem] theorem aeO:dH Tryz.prog 123=some [.int .i64 0,.int .i64 0,.int .i64 0,.int .i64 0,.int .i64 0,.int .i64 0,.int .i64 0,.int .i64 0,.int .i64 0,.int .i64 0]:=rfl
@[go_sem] theorem aeP:k_ Tryz.prog 123=some ([.int .i64 0,.int .i64 0,.int .i64 0,.int .i64 0,.int .i64 0,.int .i64 0,.int .i64 0,.int .i64 0,.int .i64 0,.int .i64 0],fun j=>[(0,1),(1,1),(2,1),(3,1),(4,1),(5,1),(6,1),(7,1),(8,1),(9,1)][j]?):=rfl
@[go_sem] theorem WV:bS Tryz.prog 123 0=some (0,1):=rfl
@[go_sem] theorem WW:bU Tryz.prog 123 0=some (0,1,false):=rfl
@[go_sem] theorem WX:bS Tryz.prog 123 1=some (1,1):=rfl
@[go_sem] theorem WY:bU Tryz.prog 123 1=some (1,1,false):=rfl
@[go_sem] theorem WZ:bS Tryz.prog 123 2=some (2,1):=rfl
@[go_sem] theorem W5:bU Tryz.prog 123 2=some (2,1,false):=rfl
@[go_sem] theorem W6:bS Tryz.prog 123 3=some (3,1):=rfl
@[go_sem] theorem W7:bU Tryz.prog 123 3=some (3,1,false):=rfl
@[go_sem] theorem W8:bS Tryz.prog 123 4=some (4,1):=rfl
@[go_sem] theorem W9:bU Tryz.prog 123 4=some (4,1,false):=rfl
@[go_sem] theorem W_:bS Tryz.prog 123 5=some (5,1):=rfl
@[go_sem] theorem Xa:bU Tryz.prog 123 5=some (5,1,false):=rfl
@[go_sem] theorem Xb:bS Tryz.prog 123 6=some (6,1):=rfl
@[go_sem] theorem Xc:bU Tryz.prog 123 6=some (6,1,false):=rfl
@[go_sem] theorem Xd:bS Tryz.prog 123 7=some (7,1):=rfl
@[go_sem] theorem Xe:bU Tryz.prog 123 7=some (7,1,false):=rfl
@[go_sem] theorem Xf:bS Tryz.prog 123 8=some (8,1):=rfl
@[go_sem] theorem Xg:bU Tryz.prog 123 8=some (8,1,false):=rfl
@[go_sem] theorem Xh:bS Tryz.prog 123 9=some (9,1):=rfl
@[go_sem] theorem Xi:bU Tryz.prog 123 9=some (9,1,false):=rfl
attribute [go_sem] Tryz.underlying130
@[go_sem] theorem aeQ:cg Tryz.prog 130=some 2:=rfl
@[go_sem] theorem aeR:cq Tryz.prog 130=some true:=rfl
@[go_sem] theorem aeS:dH Tryz.prog 130=some [.pointer none,.pointer none]:=rfl
@[go_sem] theorem aeT:k_ Tryz.prog 130=some ([.pointer none,.pointer none],fun j=>[(0,1),(1,1)][j]?):=rfl
@[go_sem] theorem Xj:bS Tryz.prog 130 0=some (0,1):=rfl
@[go_sem] theorem Xk:bU Tryz.prog 130 0=some (0,1,false):=rfl
@[go_sem] theorem Xl:bS Tryz.prog 130 1=some (1,1):=rfl
@[go_sem] theorem Xm:bU Tryz.prog 130 1=some (1,1,false):=rfl
attribute [go_sem] Tryz.underlying132
@[go_sem] theorem aeU:cg Tryz.prog 132=some 1:=rfl
@[go_sem] theorem aeV:cq Tryz.prog 132=some false:=rfl
@[go_sem] theorem aeW:dH Tryz.prog 132=some [.nilFunc]:=rfl
attribute [go_sem] Tryz.underlying133
@[go_sem] theorem aeX:cg Tryz.prog 133=some 1:=rfl
@[go_sem] theorem aeY:cq Tryz.prog 133=some false:=rfl
@[go_sem] theorem aeZ:dH Tryz.prog 133=some [.nilFunc]:=rfl
attribute [go_sem] Tryz.underlying136
@[go_sem] theorem ae0:cg Tryz.prog 136=some 2:=rfl
@[go_sem] theorem ae1:cq Tryz.prog 136=some true:=rfl
@[go_sem] theorem ae2:dH Tryz.prog 136=some [.int .u64 0,.int .u64 0]:=rfl
@[go_sem] theorem ae3:k_ Tryz.prog 136=some ([.int .u64 0,.int .u64 0],fun j=>[(0,1),(1,1)][j]?):=rfl
@[go_sem] theorem Xn:bS Tryz.prog 136 0=some (0,1):=rfl
@[go_sem] theorem Xo:bU Tryz.prog 136 0=some (0,1,false):=rfl
@[go_sem] theorem Xp:bS Tryz.prog 136 1=some (1,1):=rfl
@[go_sem] theorem Xq:bU Tryz.prog 136 1=some (1,1,false):=rfl
attribute [go_sem] Tryz.underlying137
@[go_sem] theorem ae4:cg Tryz.prog 137=some 1:=rfl
@[go_sem] theorem ae5:cq Tryz.prog 137=some false:=rfl
attribute [go_sem] Tryz.underlying141
@[go_sem] theorem ae6:cg Tryz.prog 141=some 1:=rfl
@[go_sem] theorem ae7:cq Tryz.prog 141=some false:=rfl
@[go_sem] theorem ae8:dH Tryz.prog 141=some [.nilFunc]:=rfl
attribute [go_sem] Tryz.underlying143
@[go_sem] theorem ae9:cg Tryz.prog 143=some 1:=rfl
@[go_sem] theorem ae_:cq Tryz.prog 143=some false:=rfl
@[go_sem] theorem ae':dH Tryz.prog 143=some [.nilFunc]:=rfl
attribute [go_sem] Tryz.underlying147
@[go_sem] theorem afa:cg Tryz.prog 147=some 1:=rfl
@[go_sem] theorem afb:cq Tryz.prog 147=some false:=rfl
@[go_sem] theorem afc:dH Tryz.prog 147=some [.map none]:=rfl
attribute [go_sem] Tryz.underlying149
@[go_sem] theorem afd:cg Tryz.prog 149=some 6:=rfl
@[go_sem] theorem afe:cq Tryz.prog 149=some true:=rfl
@[go_sem] theorem aff:dH Tryz.prog 149=some [.pointer none,.pointer none,.int .i64 0,.int .i64 0,.map none,.slice none 0 0]:=rfl
@[go_sem] theorem afg:k_ Tryz.prog 149=some ([.pointer none,.pointer none,.int .i64 0,.int .i64 0,.map none,.slice none 0 0],fun j=>[(0,1),(1,1),(2,1),(3,1),(4,1),(5,1)][j]?):=rfl
@[go_sem] theorem Xr:bS Tryz.prog 149 0=some (0,1):=rfl
@[go_sem] theorem Xt:bU Tryz.prog 149 0=some (0,1,false):=rfl
@[go_sem] theorem Xu:bS Tryz.prog 149 1=some (1,1):=rfl
@[go_sem] theorem Xv:bU Tryz.prog 149 1=some (1,1,false):=rfl
@[go_sem] theorem Xw:bS Tryz.prog 149 2=some (2,1):=rfl
@[go_sem] theorem Xx:bU Tryz.prog 149 2=some (2,1,false):=rfl
@[go_sem] theorem Xy:bS Tryz.prog 149 3=some (3,1):=rfl
@[go_sem] theorem Xz:bU Tryz.prog 149 3=some (3,1,false):=rfl
@[go_sem] theorem XA:bS Tryz.prog 149 4=some (4,1):=rfl
@[go_sem] theorem XB:bU Tryz.prog 149 4=some (4,1,false):=rfl
@[go_sem] theorem XC:bS Tryz.prog 149 5=some (5,1):=rfl
@[go_sem] theorem XD:bU Tryz.prog 149 5=some (5,1,false):=rfl
attribute [go_sem] Tryz.underlying152
@[go_sem] theorem afh:cg Tryz.prog 152=some 1:=rfl
@[go_sem] theorem afi:cq Tryz.prog 152=some false:=rfl
@[go_sem] theorem afj:dH Tryz.prog 152=some [.slice none 0 0]:=rfl
@[go_sem] theorem afk:zI Tryz.prog 152=some (none,1):=rfl
@[go_sem] theorem afl:B1 Tryz.prog 152=some (1,8,[.int .u64 0]):=rfl
@[go_sem] theorem afm:Dz Tryz.prog 152 152=some (1,8,1):=rfl
attribute [go_sem] Tryz.underlying154
@[go_sem] theorem afn:cg Tryz.prog 154=some 2:=rfl
@[go_sem] theorem afo:cq Tryz.prog 154=some true:=rfl
@[go_sem] theorem afp:dH Tryz.prog 154=some [.slice none 0 0,.slice none 0 0]:=rfl
@[go_sem] theorem afq:k_ Tryz.prog 154=some ([.slice none 0 0,.slice none 0 0],fun j=>[(0,1),(1,1)][j]?):=rfl
@[go_sem] theorem XE:bS Tryz.prog 154 0=some (0,1):=rfl
@[go_sem] theorem XF:bU Tryz.prog 154 0=some (0,1,false):=rfl
@[go_sem] theorem XG:bS Tryz.prog 154 1=some (1,1):=rfl
@[go_sem] theorem XH:bU Tryz.prog 154 1=some (1,1,false):=rfl
attribute [go_sem] Tryz.underlying159
@[go_sem] theorem afr:cg Tryz.prog 159=some 1:=rfl
@[go_sem] theorem afs:cq Tryz.prog 159=some true:=rfl
@[go_sem] theorem aft:dH Tryz.prog 159=some [.int .u64 0]:=rfl
@[go_sem] theorem afu:k_ Tryz.prog 159=some ([.int .u64 0],fun j=>[(0,0),(0,0),(0,1)][j]?):=rfl
@[go_sem] theorem XI:bS Tryz.prog 159 0=some (0,0):=rfl
@[go_sem] theorem XJ:bU Tryz.prog 159 0=some (0,0,true):=rfl
@[go_sem] theorem XK:bS Tryz.prog 159 1=some (0,0):=rfl
@[go_sem] theorem XL:bU Tryz.prog 159 1=some (0,0,true):=rfl
@[go_sem] theorem XM:bS Tryz.prog 159 2=some (0,1):=rfl
@[go_sem] theorem XO:bU Tryz.prog 159 2=some (0,1,false):=rfl
attribute [go_sem] Tryz.underlying161
@[go_sem] theorem afv:cg Tryz.prog 161=some 1:=rfl
@[go_sem] theorem afw:cq Tryz.prog 161=some false:=rfl
@[go_sem] theorem afx:dH Tryz.prog 161=some [.slice none 0 0]:=rfl
@[go_sem] theorem afy:zI Tryz.prog 161=some (none,4):=rfl
@[go_sem] theorem afz:B1 Tryz.prog 161=some (4,32,[.int .u8 0,.int .i64 0,.int .i64 0,.int .i64 0]):=rfl
@[go_sem] theorem afA:Dz Tryz.prog 161 161=some (4,32,4):=rfl
attribute [go_sem] Tryz.underlying163
@[go_sem] theorem afB:cg Tryz.prog 163=some 30:=rfl
@[go_sem] theorem afC:cq Tryz.prog 163=some true:=rfl
@[go_sem] theorem afD:dH Tryz.prog 163=some [.int .i64 0,.int .i64 0,.int .u8 0,.int .i64 0,.int .u8 0,.int .i64 0,.slice none 0 0,.int .i64 0,.int .i64 0,.int .i64 0,.int .i64 0,.int .i64 0,.int .i64 0,.int .i64 0,.int .i64 0,.int .i64 0,.int .i64 0,.int .i64 0,.int .i64 0,.int .i64 0,.int .i64 0,.int .i64 0,.int .i64 0,.int .i64 0,.int .i64 0,.int .i64 0,.slice none 0 0,.slice none 0 0,.slice none 0 0,.int .i64 0]:=rfl
@[go_sem] theorem afE:k_ Tryz.prog 163=some ([.int .i64 0,.int .i64 0,.int .u8 0,.int .i64 0,.int .u8 0,.int .i64 0,.slice none 0 0,.int .i64 0,.int .i64 0,.int .i64 0,.int .i64 0,.int .i64 0,.int .i64 0,.int .i64 0,.int .i64 0,.int .i64 0,.int .i64 0,.int .i64 0,.int .i64 0,.int .i64 0,.int .i64 0,.int .i64 0,.int .i64 0,.int .i64 0,.int .i64 0,.int .i64 0,.slice none 0 0,.slice none 0 0,.slice none 0 0,.int .i64 0],fun j=>[(0,16),(16,10),(26,1),(27,1),(28,1),(29,1)][j]?):=rfl
@[go_sem] theorem XP:bS Tryz.prog 163 0=some (0,16):=rfl
@[go_sem] theorem XQ:bU Tryz.prog 163 0=some (0,16,true):=rfl
@[go_sem] theorem XR:bS Tryz.prog 163 1=some (16,10):=rfl
@[go_sem] theorem XS:bU Tryz.prog 163 1=some (16,10,true):=rfl
@[go_sem] theorem XT:bS Tryz.prog 163 2=some (26,1):=rfl
@[go_sem] theorem XU:bU Tryz.prog 163 2=some (26,1,false):=rfl
@[go_sem] theorem XV:bS Tryz.prog 163 3=some (27,1):=rfl
@[go_sem] theorem XW:bU Tryz.prog 163 3=some (27,1,false):=rfl
@[go_sem] theorem XX:bS Tryz.prog 163 4=some (28,1):=rfl
@[go_sem] theorem XY:bU Tryz.prog 163 4=some (28,1,false):=rfl
@[go_sem] theorem XZ:bS Tryz.prog 163 5=some (29,1):=rfl
@[go_sem] theorem X0:bU Tryz.prog 163 5=some (29,1,false):=rfl
attribute [go_sem] Tryz.underlying164
@[go_sem] theorem afF:cg Tryz.prog 164=some 1:=rfl
@[go_sem] theorem afG:cq Tryz.prog 164=some false:=rfl
attribute [go_sem] Tryz.underlying167
@[go_sem] theorem afH:cg Tryz.prog 167=some 1:=rfl
@[go_sem] theorem afI:cq Tryz.prog 167=some false:=rfl
@[go_sem] theorem afJ:dH Tryz.prog 167=some [.nilIface]:=rfl
attribute [go_sem] Tryz.underlying169
@[go_sem] theorem afK:cg Tryz.prog 169=some 3:=rfl
@[go_sem] theorem afL:cq Tryz.prog 169=some true:=rfl
@[go_sem] theorem afM:dH Tryz.prog 169=some [.nilIface,.int .u8 0,.int .i64 0]:=rfl
@[go_sem] theorem afN:k_ Tryz.prog 169=some ([.nilIface,.int .u8 0,.int .i64 0],fun j=>[(0,1),(1,1),(2,1)][j]?):=rfl
@[go_sem] theorem X2:bS Tryz.prog 169 0=some (0,1):=rfl
@[go_sem] theorem X3:bU Tryz.prog 169 0=some (0,1,false):=rfl
@[go_sem] theorem X4:bS Tryz.prog 169 1=some (1,1):=rfl
@[go_sem] theorem X5:bU Tryz.prog 169 1=some (1,1,false):=rfl
@[go_sem] theorem X6:bS Tryz.prog 169 2=some (2,1):=rfl
@[go_sem] theorem X7:bU Tryz.prog 169 2=some (2,1,false):=rfl
attribute [go_sem] Tryz.underlying176
@[go_sem] theorem afO:cg Tryz.prog 176=some 1:=rfl
@[go_sem] theorem afP:cq Tryz.prog 176=some false:=rfl
attribute [go_sem] Tryz.underlying184
@[go_sem] theorem afQ:cg Tryz.prog 184=some 1:=rfl
@[go_sem] theorem afR:cq Tryz.prog 184=some false:=rfl
@[go_sem] theorem afS:dH Tryz.prog 184=some [.nilFunc]:=rfl
attribute [go_sem] Tryz.underlying190
@[go_sem] theorem afT:cg Tryz.prog 190=some 1:=rfl
@[go_sem] theorem afU:cq Tryz.prog 190=some false:=rfl
@[go_sem] theorem afV:dH Tryz.prog 190=some [.nilFunc]:=rfl
attribute [go_sem] Tryz.underlying192
@[go_sem] theorem afW:cg Tryz.prog 192=some 1:=rfl
@[go_sem] theorem afX:cq Tryz.prog 192=some false:=rfl
@[go_sem] theorem afY:dH Tryz.prog 192=some [.pointer none]:=rfl
attribute [go_sem] Tryz.underlying193
@[go_sem] theorem afZ:cg Tryz.prog 193=some 1:=rfl
@[go_sem] theorem af0:cq Tryz.prog 193=some false:=rfl
@[go_sem] theorem af1:dH Tryz.prog 193=some [.pointer none]:=rfl
attribute [go_sem] Tryz.underlying198
@[go_sem] theorem af2:cg Tryz.prog 198=some 12:=rfl
@[go_sem] theorem af3:cq Tryz.prog 198=some true:=rfl
@[go_sem] theorem af4:dH Tryz.prog 198=some [.pointer none,.pointer none,.pointer none,.pointer none,.pointer none,.int .i64 0,.bool false,.slice none 0 0,.slice none 0 0,.slice none 0 0,.slice none 0 0,.slice none 0 0]:=rfl
@[go_sem] theorem af5:k_ Tryz.prog 198=some ([.pointer none,.pointer none,.pointer none,.pointer none,.pointer none,.int .i64 0,.bool false,.slice none 0 0,.slice none 0 0,.slice none 0 0,.slice none 0 0,.slice none 0 0],fun j=>[(0,1),(1,1),(2,1),(3,1),(4,1),(5,1),(6,1),(7,1),(8,1),(9,1),(10,1),(11,1)][j]?):=rfl
@[go_sem] theorem X8:bS Tryz.prog 198 0=some (0,1):=rfl
@[go_sem] theorem X9:bU Tryz.prog 198 0=some (0,1,false):=rfl
@[go_sem] theorem X_:bS Tryz.prog 198 1=some (1,1):=rfl
@[go_sem] theorem Ya:bU Tryz.prog 198 1=some (1,1,false):=rfl
@[go_sem] theorem Yb:bS Tryz.prog 198 2=some (2,1):=rfl
@[go_sem] theorem Yc:bU Tryz.prog 198 2=some (2,1,false):=rfl
@[go_sem] theorem Yd:bS Tryz.prog 198 3=some (3,1):=rfl
@[go_sem] theorem Ye:bU Tryz.prog 198 3=some (3,1,false):=rfl
@[go_sem] theorem Yf:bS Tryz.prog 198 4=some (4,1):=rfl
@[go_sem] theorem Yg:bU Tryz.prog 198 4=some (4,1,false):=rfl
@[go_sem] theorem Yh:bS Tryz.prog 198 5=some (5,1):=rfl
@[go_sem] theorem Yi:bU Tryz.prog 198 5=some (5,1,false):=rfl
@[go_sem] theorem Yj:bS Tryz.prog 198 6=some (6,1):=rfl
@[go_sem] theorem Yk:bU Tryz.prog 198 6=some (6,1,false):=rfl
@[go_sem] theorem Yl:bS Tryz.prog 198 7=some (7,1):=rfl
@[go_sem] theorem Ym:bU Tryz.prog 198 7=some (7,1,false):=rfl
@[go_sem] theorem Yn:bS Tryz.prog 198 8=some (8,1):=rfl
@[go_sem] theorem Yo:bU Tryz.prog 198 8=some (8,1,false):=rfl
@[go_sem] theorem Yp:bS Tryz.prog 198 9=some (9,1):=rfl
@[go_sem] theorem Yq:bU Tryz.prog 198 9=some (9,1,false):=rfl
@[go_sem] theorem Ui:bS Tryz.prog 198 10=some (10,1):=rfl
@[go_sem] theorem Uj:bU Tryz.prog 198 10=some (10,1,false):=rfl
@[go_sem] theorem Uk:bS Tryz.prog 198 11=some (11,1):=rfl
@[go_sem] theorem Ul:bU Tryz.prog 198 11=some (11,1,false):=rfl
attribute [go_sem] Tryz.underlying204
@[go_sem] theorem af6:cg Tryz.prog 204=some 2:=rfl
@[go_sem] theorem af7:cq Tryz.prog 204=some true:=rfl
@[go_sem] theorem af8:dH Tryz.prog 204=some [.slice none 0 0,.slice none 0 0]:=rfl
@[go_sem] theorem af9:k_ Tryz.prog 204=some ([.slice none 0 0,.slice none 0 0],fun j=>[(0,1),(1,1)][j]?):=rfl
@[go_sem] theorem Yr:bS Tryz.prog 204 0=some (0,1):=rfl
@[go_sem] theorem Ys:bU Tryz.prog 204 0=some (0,1,false):=rfl
@[go_sem] theorem Yt:bS Tryz.prog 204 1=some (1,1):=rfl
@[go_sem] theorem Yu:bU Tryz.prog 204 1=some (1,1,false):=rfl
attribute [go_sem] Tryz.underlying207
@[go_sem] theorem af_:cg Tryz.prog 207=some 1:=rfl
@[go_sem] theorem af':cq Tryz.prog 207=some false:=rfl
@[go_sem] theorem aga:dH Tryz.prog 207=some [.slice none 0 0]:=rfl
@[go_sem] theorem agb:zI Tryz.prog 207=some (none,3):=rfl
@[go_sem] theorem agc:B1 Tryz.prog 207=some (3,24,[.int .u8 0,.int .i64 0,.int .i64 0]):=rfl
@[go_sem] theorem agd:Dz Tryz.prog 207 207=some (3,24,3):=rfl
attribute [go_sem] Tryz.underlying209
@[go_sem] theorem age:cg Tryz.prog 209=some 28:=rfl
@[go_sem] theorem agf:cq Tryz.prog 209=some true:=rfl
@[go_sem] theorem agh:dH Tryz.prog 209=some [.int .i64 0,.int .i64 0,.int .u8 0,.int .i64 0,.int .u8 0,.int .i64 0,.slice none 0 0,.int .i64 0,.int .i64 0,.int .i64 0,.int .i64 0,.int .i64 0,.int .i64 0,.int .i64 0,.int .i64 0,.int .i64 0,.int .i64 0,.int .i64 0,.int .i64 0,.int .i64 0,.int .i64 0,.int .i64 0,.int .i64 0,.int .i64 0,.int .i64 0,.int .i64 0,.slice none 0 0,.slice none 0 0]:=rfl
@[go_sem] theorem agi:k_ Tryz.prog 209=some ([.int .i64 0,.int .i64 0,.int .u8 0,.int .i64 0,.int .u8 0,.int .i64 0,.slice none 0 0,.int .i64 0,.int .i64 0,.int .i64 0,.int .i64 0,.int .i64 0,.int .i64 0,.int .i64 0,.int .i64 0,.int .i64 0,.int .i64 0,.int .i64 0,.int .i64 0,.int .i64 0,.int .i64 0,.int .i64 0,.int .i64 0,.int .i64 0,.int .i64 0,.int .i64 0,.slice none 0 0,.slice none 0 0],fun j=>[(0,16),(16,10),(26,1),(27,1)][j]?):=rfl
@[go_sem] theorem Yv:bS Tryz.prog 209 0=some (0,16):=rfl
@[go_sem] theorem Yw:bU Tryz.prog 209 0=some (0,16,true):=rfl
@[go_sem] theorem Yx:bS Tryz.prog 209 1=some (16,10):=rfl
@[go_sem] theorem Yy:bU Tryz.prog 209 1=some (16,10,true):=rfl
@[go_sem] theorem Yz:bS Tryz.prog 209 2=some (26,1):=rfl
@[go_sem] theorem YA:bU Tryz.prog 209 2=some (26,1,false):=rfl
@[go_sem] theorem YB:bS Tryz.prog 209 3=some (27,1):=rfl
@[go_sem] theorem YC:bU Tryz.prog 209 3=some (27,1,false):=rfl
attribute [go_sem] Tryz.underlying216
@[go_sem] theorem agj:cg Tryz.prog 216=some 4:=rfl
@[go_sem] theorem agk:cq Tryz.prog 216=some true:=rfl
@[go_sem] theorem agl:dH Tryz.prog 216=some [.int .u8 0,.int .i64 0,.int .i64 0,.int .i64 0]:=rfl
@[go_sem] theorem agm:k_ Tryz.prog 216=some ([.int .u8 0,.int .i64 0,.int .i64 0,.int .i64 0],fun j=>[(0,1),(1,1),(2,1),(3,1)][j]?):=rfl
@[go_sem] theorem YD:bS Tryz.prog 216 0=some (0,1):=rfl
@[go_sem] theorem YE:bU Tryz.prog 216 0=some (0,1,false):=rfl
@[go_sem] theorem YF:bS Tryz.prog 216 1=some (1,1):=rfl
@[go_sem] theorem YG:bU Tryz.prog 216 1=some (1,1,false):=rfl
@[go_sem] theorem YH:bS Tryz.prog 216 2=some (2,1):=rfl
@[go_sem] theorem YI:bU Tryz.prog 216 2=some (2,1,false):=rfl
@[go_sem] theorem YJ:bS Tryz.prog 216 3=some (3,1):=rfl
@[go_sem] theorem YK:bU Tryz.prog 216 3=some (3,1,false):=rfl
attribute [go_sem] Tryz.underlying219
@[go_sem] theorem agn:cg Tryz.prog 219=some 1:=rfl
@[go_sem] theorem agp:cq Tryz.prog 219=some false:=rfl
@[go_sem] theorem agq:dH Tryz.prog 219=some [.nilFunc]:=rfl
attribute [go_sem] Tryz.underlying222
@[go_sem] theorem agr:cg Tryz.prog 222=some 1:=rfl
@[go_sem] theorem ags:cq Tryz.prog 222=some false:=rfl
attribute [go_sem] Tryz.underlying225
@[go_sem] theorem agt:cg Tryz.prog 225=some 1:=rfl
@[go_sem] theorem agu:cq Tryz.prog 225=some false:=rfl
@[go_sem] theorem agv:dH Tryz.prog 225=some [.pointer none]:=rfl
attribute [go_sem] Tryz.underlying226
@[go_sem] theorem agw:cg Tryz.prog 226=some 1:=rfl
@[go_sem] theorem agx:cq Tryz.prog 226=some false:=rfl
attribute [go_sem] Tryz.underlying229
@[go_sem] theorem agy:cg Tryz.prog 229=some 1:=rfl
@[go_sem] theorem agz:cq Tryz.prog 229=some false:=rfl
@[go_sem] theorem agA:dH Tryz.prog 229=some [.nilIface]:=rfl
attribute [go_sem] Tryz.underlying231
@[go_sem] theorem agB:cg Tryz.prog 231=some 1:=rfl
@[go_sem] theorem agC:cq Tryz.prog 231=some true:=rfl
@[go_sem] theorem agD:dH Tryz.prog 231=some [.nilIface]:=rfl
@[go_sem] theorem agE:k_ Tryz.prog 231=some ([.nilIface],fun j=>[(0,1)][j]?):=rfl
@[go_sem] theorem YL:bS Tryz.prog 231 0=some (0,1):=rfl
@[go_sem] theorem YM:bU Tryz.prog 231 0=some (0,1,false):=rfl
attribute [go_sem] Tryz.underlying232
@[go_sem] theorem agF:cg Tryz.prog 232=some 1:=rfl
@[go_sem] theorem agG:cq Tryz.prog 232=some false:=rfl
@[go_sem] theorem agH:dH Tryz.prog 232=some [.pointer none]:=rfl
attribute [go_sem] Tryz.underlying233
@[go_sem] theorem agI:cg Tryz.prog 233=some 1:=rfl
@[go_sem] theorem agJ:cq Tryz.prog 233=some false:=rfl
attribute [go_sem] Tryz.underlying236
@[go_sem] theorem agK:cg Tryz.prog 236=some 1:=rfl
@[go_sem] theorem agL:cq Tryz.prog 236=some false:=rfl
@[go_sem] theorem agM:dH Tryz.prog 236=some [.nilIface]:=rfl
attribute [go_sem] Tryz.underlying238
@[go_sem] theorem agN:cg Tryz.prog 238=some 1:=rfl
@[go_sem] theorem agO:cq Tryz.prog 238=some true:=rfl
@[go_sem] theorem agP:dH Tryz.prog 238=some [.nilIface]:=rfl
@[go_sem] theorem agQ:k_ Tryz.prog 238=some ([.nilIface],fun j=>[(0,1)][j]?):=rfl
@[go_sem] theorem YN:bS Tryz.prog 238 0=some (0,1):=rfl
@[go_sem] theorem YO:bU Tryz.prog 238 0=some (0,1,false):=rfl
attribute [go_sem] Tryz.underlying239
@[go_sem] theorem agR:cg Tryz.prog 239=some 1:=rfl
@[go_sem] theorem agS:cq Tryz.prog 239=some false:=rfl
@[go_sem] theorem agU:dH Tryz.prog 239=some [.pointer none]:=rfl
attribute [go_sem] Tryz.underlying240
@[go_sem] theorem agV:cg Tryz.prog 240=some 1:=rfl
@[go_sem] theorem agW:cq Tryz.prog 240=some false:=rfl
attribute [go_sem] Tryz.underlying243
@[go_sem] theorem agX:cg Tryz.prog 243=some 1:=rfl
@[go_sem] theorem agY:cq Tryz.prog 243=some false:=rfl
@[go_sem] theorem agZ:dH Tryz.prog 243=some [.nilIface]:=rfl
attribute [go_sem] Tryz.underlying245
@[go_sem] theorem ag1:cg Tryz.prog 245=some 1:=rfl
@[go_sem] theorem ag2:cq Tryz.prog 245=some true:=rfl
@[go_sem] theorem ag6:dH Tryz.prog 245=some [.nilIface]:=rfl
@[go_sem] theorem ag7:k_ Tryz.prog 245=some ([.nilIface],fun j=>[(0,1)][j]?):=rfl
@[go_sem] theorem YP:bS Tryz.prog 245 0=some (0,1):=rfl
@[go_sem] theorem YQ:bU Tryz.prog 245 0=some (0,1,false):=rfl
attribute [go_sem] Tryz.underlying246
@[go_sem] theorem ag8:cg Tryz.prog 246=some 1:=rfl
@[go_sem] theorem ag9:cq Tryz.prog 246=some false:=rfl
@[go_sem] theorem ag_:dH Tryz.prog 246=some [.pointer none]:=rfl
attribute [go_sem] Tryz.underlying247
@[go_sem] theorem ag':cg Tryz.prog 247=some 1:=rfl
@[go_sem] theorem aha:cq Tryz.prog 247=some false:=rfl
attribute [go_sem] Tryz.underlying249
@[go_sem] theorem ahb:cg Tryz.prog 249=some 1:=rfl
@[go_sem] theorem ahc:cq Tryz.prog 249=some false:=rfl
attribute [go_sem] Tryz.underlying251
@[go_sem] theorem ahd:cg Tryz.prog 251=some 1:=rfl
@[go_sem] theorem ahe:cq Tryz.prog 251=some false:=rfl
@[go_sem] theorem ahf:dH Tryz.prog 251=some [.pointer none]:=rfl
attribute [go_sem] Tryz.underlying252
@[go_sem] theorem ahg:cg Tryz.prog 252=some 1:=rfl
@[go_sem] theorem ahh:cq Tryz.prog 252=some false:=rfl
attribute [go_sem] Tryz.underlying255
@[go_sem] theorem ahi:cg Tryz.prog 255=some 2:=rfl
@[go_sem] theorem ahj:cq Tryz.prog 255=some true:=rfl
@[go_sem] theorem ahk:dH Tryz.prog 255=some [.int .i64 0,.bool false]:=rfl
@[go_sem] theorem ahl:k_ Tryz.prog 255=some ([.int .i64 0,.bool false],fun j=>[(0,1),(1,1)][j]?):=rfl
@[go_sem] theorem YR:bS Tryz.prog 255 0=some (0,1):=rfl
@[go_sem] theorem YS:bU Tryz.prog 255 0=some (0,1,false):=rfl
@[go_sem] theorem YT:bS Tryz.prog 255 1=some (1,1):=rfl
@[go_sem] theorem YU:bU Tryz.prog 255 1=some (1,1,false):=rfl
attribute [go_sem] Tryz.underlying256
@[go_sem] theorem ahm:cg Tryz.prog 256=some 1:=rfl
@[go_sem] theorem ahn:cq Tryz.prog 256=some false:=rfl
attribute [go_sem] Tryz.underlying260
@[go_sem] theorem aho:cg Tryz.prog 260=some 1:=rfl
@[go_sem] theorem ahp:cq Tryz.prog 260=some false:=rfl
@[go_sem] theorem ahq:dH Tryz.prog 260=some [.slice none 0 0]:=rfl
@[go_sem] theorem ahr:zI Tryz.prog 260=some (none,1):=rfl
@[go_sem] theorem ahs:B1 Tryz.prog 260=some (1,1,[.bool false]):=rfl
@[go_sem] theorem aht:Dz Tryz.prog 260 260=some (1,1,1):=rfl
attribute [go_sem] Tryz.underlying261
@[go_sem] theorem ahu:cg Tryz.prog 261=some 1:=rfl
@[go_sem] theorem ahv:cq Tryz.prog 261=some false:=rfl
attribute [go_sem] Tryz.underlying272
@[go_sem] theorem ahw:cg Tryz.prog 272=some 1:=rfl
@[go_sem] theorem ahx:cq Tryz.prog 272=some false:=rfl
@[go_sem] theorem ahy:dH Tryz.prog 272=some [.pointer none]:=rfl
attribute [go_sem] Tryz.underlying306
@[go_sem] theorem ahz:cg Tryz.prog 306=some 4:=rfl
@[go_sem] theorem ahA:cq Tryz.prog 306=some true:=rfl
@[go_sem] theorem ahB:dH Tryz.prog 306=some [.int .i64 0,.int .i64 0,.int .i64 0,.int .i64 0]:=rfl
@[go_sem] theorem ahC:k_ Tryz.prog 306=some ([.int .i64 0,.int .i64 0,.int .i64 0,.int .i64 0],fun j=>some (j*1,1)):=rfl
@[go_sem] theorem ahD:zI Tryz.prog 306=some (some 4,1):=rfl
@[go_sem] theorem ahE:Ti Tryz.prog 306=some (4,1,false):=rfl
attribute [go_sem] Tryz.underlying309
@[go_sem] theorem ahF:cg Tryz.prog 309=some 4:=rfl
@[go_sem] theorem ahG:cq Tryz.prog 309=some true:=rfl
@[go_sem] theorem ahH:dH Tryz.prog 309=some [.pointer none,.int .i64 0,.slice none 0 0,.slice none 0 0]:=rfl
@[go_sem] theorem ahI:k_ Tryz.prog 309=some ([.pointer none,.int .i64 0,.slice none 0 0,.slice none 0 0],fun j=>[(0,1),(1,1),(2,1),(3,1)][j]?):=rfl
@[go_sem] theorem YV:bS Tryz.prog 309 0=some (0,1):=rfl
@[go_sem] theorem YW:bU Tryz.prog 309 0=some (0,1,false):=rfl
@[go_sem] theorem YX:bS Tryz.prog 309 1=some (1,1):=rfl
@[go_sem] theorem YY:bU Tryz.prog 309 1=some (1,1,false):=rfl
@[go_sem] theorem YZ:bS Tryz.prog 309 2=some (2,1):=rfl
@[go_sem] theorem Y0:bU Tryz.prog 309 2=some (2,1,false):=rfl
@[go_sem] theorem Y1:bS Tryz.prog 309 3=some (3,1):=rfl
@[go_sem] theorem Y2:bU Tryz.prog 309 3=some (3,1,false):=rfl
attribute [go_sem] Tryz.underlying310
@[go_sem] theorem ahJ:cg Tryz.prog 310=some 1:=rfl
@[go_sem] theorem ahK:cq Tryz.prog 310=some false:=rfl
@[go_sem] theorem ahL:dH Tryz.prog 310=some [.slice none 0 0]:=rfl
@[go_sem] theorem ahM:zI Tryz.prog 310=some (none,2):=rfl
@[go_sem] theorem ahN:B1 Tryz.prog 310=some (2,16,[.int .u64 0,.bool false]):=rfl
@[go_sem] theorem ahO:Dz Tryz.prog 310 310=some (2,16,2):=rfl
attribute [go_sem] Tryz.underlying312
@[go_sem] theorem ahP:cg Tryz.prog 312=some 3:=rfl
@[go_sem] theorem ahQ:cq Tryz.prog 312=some true:=rfl
@[go_sem] theorem ahR:dH Tryz.prog 312=some [.pointer none,.slice none 0 0,.nilFunc]:=rfl
@[go_sem] theorem ahS:k_ Tryz.prog 312=some ([.pointer none,.slice none 0 0,.nilFunc],fun j=>[(0,1),(1,1),(2,1)][j]?):=rfl
@[go_sem] theorem Y3:bS Tryz.prog 312 0=some (0,1):=rfl
@[go_sem] theorem Y4:bU Tryz.prog 312 0=some (0,1,false):=rfl
@[go_sem] theorem Y5:bS Tryz.prog 312 1=some (1,1):=rfl
@[go_sem] theorem Y6:bU Tryz.prog 312 1=some (1,1,false):=rfl
@[go_sem] theorem Y7:bS Tryz.prog 312 2=some (2,1):=rfl
@[go_sem] theorem Y8:bU Tryz.prog 312 2=some (2,1,false):=rfl
attribute [go_sem] Tryz.underlying313
@[go_sem] theorem ahT:cg Tryz.prog 313=some 1:=rfl
@[go_sem] theorem ahU:cq Tryz.prog 313=some false:=rfl
@[go_sem] theorem ahV:dH Tryz.prog 313=some [.map none]:=rfl
attribute [go_sem] Tryz.underlying315
@[go_sem] theorem ahW:cg Tryz.prog 315=some 4:=rfl
@[go_sem] theorem ahX:cq Tryz.prog 315=some true:=rfl
@[go_sem] theorem ahY:dH Tryz.prog 315=some [.pointer none,.int .i64 0,.int .i64 0,.map none]:=rfl
@[go_sem] theorem ahZ:k_ Tryz.prog 315=some ([.pointer none,.int .i64 0,.int .i64 0,.map none],fun j=>[(0,1),(1,1),(2,1),(3,1)][j]?):=rfl
@[go_sem] theorem Y9:bS Tryz.prog 315 0=some (0,1):=rfl
@[go_sem] theorem Y_:bU Tryz.prog 315 0=some (0,1,false):=rfl
@[go_sem] theorem Za:bS Tryz.prog 315 1=some (1,1):=rfl
@[go_sem] theorem Zb:bU Tryz.prog 315 1=some (1,1,false):=rfl
@[go_sem] theorem Zc:bS Tryz.prog 315 2=some (2,1):=rfl
@[go_sem] theorem Zd:bU Tryz.prog 315 2=some (2,1,false):=rfl
@[go_sem] theorem Ze:bS Tryz.prog 315 3=some (3,1):=rfl
@[go_sem] theorem Zf:bU Tryz.prog 315 3=some (3,1,false):=rfl
attribute [go_sem] Tryz.underlying317
@[go_sem] theorem ah0:cg Tryz.prog 317=some 6:=rfl
@[go_sem] theorem ah1:cq Tryz.prog 317=some true:=rfl
@[go_sem] theorem ah2:dH Tryz.prog 317=some [.pointer none,.int .i64 0,.int .i64 0,.int .i64 0,.int .u64 0,.int .u8 0]:=rfl
@[go_sem] theorem ah3:k_ Tryz.prog 317=some ([.pointer none,.int .i64 0,.int .i64 0,.int .i64 0,.int .u64 0,.int .u8 0],fun j=>[(0,1),(1,1),(2,1),(3,1),(4,1),(5,1)][j]?):=rfl
@[go_sem] theorem Zg:bS Tryz.prog 317 0=some (0,1):=rfl
@[go_sem] theorem Zh:bU Tryz.prog 317 0=some (0,1,false):=rfl
@[go_sem] theorem Zi:bS Tryz.prog 317 1=some (1,1):=rfl
@[go_sem] theorem Zj:bU Tryz.prog 317 1=some (1,1,false):=rfl
@[go_sem] theorem Zk:bS Tryz.prog 317 2=some (2,1):=rfl
@[go_sem] theorem Zl:bU Tryz.prog 317 2=some (2,1,false):=rfl
@[go_sem] theorem Zm:bS Tryz.prog 317 3=some (3,1):=rfl
@[go_sem] theorem Zn:bU Tryz.prog 317 3=some (3,1,false):=rfl
@[go_sem] theorem Zo:bS Tryz.prog 317 4=some (4,1):=rfl
@[go_sem] theorem Zp:bU Tryz.prog 317 4=some (4,1,false):=rfl
@[go_sem] theorem Zq:bS Tryz.prog 317 5=some (5,1):=rfl
@[go_sem] theorem Zr:bU Tryz.prog 317 5=some (5,1,false):=rfl
attribute [go_sem] Tryz.underlying318
@[go_sem] theorem ah4:cg Tryz.prog 318=some 1:=rfl
@[go_sem] theorem ah5:cq Tryz.prog 318=some false:=rfl
@[go_sem] theorem ah6:dH Tryz.prog 318=some [.map none]:=rfl
attribute [go_sem] Tryz.underlying320
@[go_sem] theorem ah7:cg Tryz.prog 320=some 11:=rfl
@[go_sem] theorem ah8:cq Tryz.prog 320=some true:=rfl
@[go_sem] theorem ah9:dH Tryz.prog 320=some [.pointer none,.int .i64 0,.int .i64 0,.int .i64 0,.int .u64 0,.int .u8 0,.map none,.int .i64 0,.int .i64 0,.int .i64 0,.int .i64 0]:=rfl
@[go_sem] theorem ah_:k_ Tryz.prog 320=some ([.pointer none,.int .i64 0,.int .i64 0,.int .i64 0,.int .u64 0,.int .u8 0,.map none,.int .i64 0,.int .i64 0,.int .i64 0,.int .i64 0],fun j=>[(0,6),(6,1),(7,1),(8,1),(9,1),(10,1)][j]?):=rfl
@[go_sem] theorem Zs:bS Tryz.prog 320 0=some (0,6):=rfl
@[go_sem] theorem Zt:bU Tryz.prog 320 0=some (0,6,true):=rfl
@[go_sem] theorem Zu:bS Tryz.prog 320 1=some (6,1):=rfl
@[go_sem] theorem Zv:bU Tryz.prog 320 1=some (6,1,false):=rfl
@[go_sem] theorem Zw:bS Tryz.prog 320 2=some (7,1):=rfl
@[go_sem] theorem Zy:bU Tryz.prog 320 2=some (7,1,false):=rfl
@[go_sem] theorem Zz:bS Tryz.prog 320 3=some (8,1):=rfl
@[go_sem] theorem ZA:bU Tryz.prog 320 3=some (8,1,false):=rfl
@[go_sem] theorem ZB:bS Tryz.prog 320 4=some (9,1):=rfl
@[go_sem] theorem ZC:bU Tryz.prog 320 4=some (9,1,false):=rfl
@[go_sem] theorem ZD:bS Tryz.prog 320 5=some (10,1):=rfl
@[go_sem] theorem ZE:bU Tryz.prog 320 5=some (10,1,false):=rfl
attribute [go_sem] Tryz.underlying321
@[go_sem] theorem ah':cg Tryz.prog 321=some 1:=rfl
@[go_sem] theorem aia:cq Tryz.prog 321=some false:=rfl
@[go_sem] theorem aib:dH Tryz.prog 321=some [.nilFunc]:=rfl
attribute [go_sem] Tryz.underlying322
@[go_sem] theorem aic:cg Tryz.prog 322=some 1:=rfl
@[go_sem] theorem aid:cq Tryz.prog 322=some false:=rfl
attribute [go_sem] Tryz.underlying323
@[go_sem] theorem aie:cg Tryz.prog 323=some 1:=rfl
@[go_sem] theorem aif:cq Tryz.prog 323=some false:=rfl
@[go_sem] theorem aih:dH Tryz.prog 323=some [.map none]:=rfl
attribute [go_sem] Tryz.underlying325
@[go_sem] theorem aii:cg Tryz.prog 325=some 7:=rfl
@[go_sem] theorem aij:cq Tryz.prog 325=some true:=rfl
@[go_sem] theorem aik:dH Tryz.prog 325=some [.pointer none,.int .i64 0,.int .i64 0,.int .i64 0,.int .u64 0,.int .u8 0,.map none]:=rfl
@[go_sem] theorem ail:k_ Tryz.prog 325=some ([.pointer none,.int .i64 0,.int .i64 0,.int .i64 0,.int .u64 0,.int .u8 0,.map none],fun j=>[(0,6),(6,1)][j]?):=rfl
@[go_sem] theorem ZF:bS Tryz.prog 325 0=some (0,6):=rfl
@[go_sem] theorem ZG:bU Tryz.prog 325 0=some (0,6,true):=rfl
@[go_sem] theorem ZH:bS Tryz.prog 325 1=some (6,1):=rfl
@[go_sem] theorem ZI:bU Tryz.prog 325 1=some (6,1,false):=rfl
attribute [go_sem] Tryz.underlying326
@[go_sem] theorem aim:cg Tryz.prog 326=some 1:=rfl
@[go_sem] theorem ain:cq Tryz.prog 326=some false:=rfl
@[go_sem] theorem aio:dH Tryz.prog 326=some [.nilFunc]:=rfl
attribute [go_sem] Tryz.underlying358
@[go_sem] theorem aip:cg Tryz.prog 358=some 1:=rfl
@[go_sem] theorem aiq:cq Tryz.prog 358=some false:=rfl
attribute [go_sem] Tryz.underlying386
@[go_sem] theorem air:cg Tryz.prog 386=some 1:=rfl
@[go_sem] theorem ais:cq Tryz.prog 386=some false:=rfl
@[go_sem] theorem ait:dH Tryz.prog 386=some [.pointer none]:=rfl
attribute [go_sem] Tryz.underlying418
@[go_sem] theorem aiu:cg Tryz.prog 418=some 2:=rfl
@[go_sem] theorem aiv:cq Tryz.prog 418=some true:=rfl
@[go_sem] theorem aiw:dH Tryz.prog 418=some [.int .u64 0,.bool false]:=rfl
@[go_sem] theorem aix:k_ Tryz.prog 418=some ([.int .u64 0,.bool false],fun j=>[(0,1),(1,1)][j]?):=rfl
@[go_sem] theorem ZJ:bS Tryz.prog 418 0=some (0,1):=rfl
@[go_sem] theorem ZK:bU Tryz.prog 418 0=some (0,1,false):=rfl
@[go_sem] theorem ZL:bS Tryz.prog 418 1=some (1,1):=rfl
@[go_sem] theorem ZM:bU Tryz.prog 418 1=some (1,1,false):=rfl
attribute [go_sem] Tryz.underlying423
@[go_sem] theorem aiy:cg Tryz.prog 423=some 1:=rfl
@[go_sem] theorem aiz:cq Tryz.prog 423=some false:=rfl
@[go_sem] theorem aiA:dH Tryz.prog 423=some [.pointer none]:=rfl
attribute [go_sem] Tryz.underlying424
@[go_sem] theorem aiB:cg Tryz.prog 424=some 1:=rfl
@[go_sem] theorem aiC:cq Tryz.prog 424=some false:=rfl
attribute [go_sem] Tryz.underlying426
@[go_sem] theorem aiD:cg Tryz.prog 426=some 2:=rfl
@[go_sem] theorem aiE:cq Tryz.prog 426=some true:=rfl
@[go_sem] theorem aiF:dH Tryz.prog 426=some [.int .i64 0,.bool false]:=rfl
@[go_sem] theorem aiG:k_ Tryz.prog 426=some ([.int .i64 0,.bool false],fun j=>[(0,1),(1,1)][j]?):=rfl
@[go_sem] theorem ZN:bS Tryz.prog 426 0=some (0,1):=rfl
@[go_sem] theorem ZO:bU Tryz.prog 426 0=some (0,1,false):=rfl
@[go_sem] theorem ZP:bS Tryz.prog 426 1=some (1,1):=rfl
@[go_sem] theorem ZQ:bU Tryz.prog 426 1=some (1,1,false):=rfl
@[go_sem] theorem call2 (args:List Value):ah Tryz.prog 2 args = .pure (.enter 2 args):=rfl
@[go_sem] theorem call3 (args:List Value):ah Tryz.prog 3 args = .pure (.enter 3 args):=rfl
@[go_sem] theorem call4 (args:List Value):ah Tryz.prog 4 args = .pure (.enter 4 args):=rfl
@[go_sem] theorem call5 (args:List Value):ah Tryz.prog 5 args = .pure (.enter 5 args):=rfl
@[go_sem] theorem call6 (args:List Value):ah Tryz.prog 6 args = .pure (.enter 6 args):=rfl
@[go_sem] theorem call7 (args:List Value):ah Tryz.prog 7 args = .pure (.enter 7 args):=rfl
@[go_sem] theorem call8 (args:List Value):ah Tryz.prog 8 args = .pure (.enter 8 args):=rfl
@[go_sem] theorem call9 (args:List Value):ah Tryz.prog 9 args = .pure (.enter 9 args):=rfl
@[go_sem] theorem call10 (args:List Value):ah Tryz.prog 10 args = .pure (.enter 10 args):=rfl
@[go_sem] theorem call11 (args:List Value):ah Tryz.prog 11 args = .pure (.enter 11 args):=rfl
@[go_sem] theorem call12 (args:List Value):ah Tryz.prog 12 args = .pure (.enter 12 args):=rfl
@[go_sem] theorem call13 (args:List Value):ah Tryz.prog 13 args = .pure (.enter 13 args):=rfl
@[go_sem] theorem call14 (args:List Value):ah Tryz.prog 14 args = .pure (.enter 14 args):=rfl
@[go_sem] theorem call15 (args:List Value):ah Tryz.prog 15 args = .pure (.enter 15 args):=rfl
@[go_sem] theorem call16 (args:List Value):ah Tryz.prog 16 args = .pure (.enter 16 args):=rfl
@[go_sem] theorem call17 (args:List Value):ah Tryz.prog 17 args = .pure (.enter 17 args):=rfl
@[go_sem] theorem call18 (args:List Value):ah Tryz.prog 18 args = .pure (.enter 18 args):=rfl
@[go_sem] theorem call19 (args:List Value):ah Tryz.prog 19 args = .pure (.enter 19 args):=rfl
@[go_sem] theorem call20 (args:List Value):ah Tryz.prog 20 args = .pure (.enter 20 args):=rfl
@[go_sem] theorem call21 (args:List Value):ah Tryz.prog 21 args = .pure (.enter 21 args):=rfl
@[go_sem] theorem call22 (args:List Value):ah Tryz.prog 22 args = .pure (.enter 22 args):=rfl
@[go_sem] theorem call23 (args:List Value):ah Tryz.prog 23 args = .pure (.enter 23 args):=rfl
@[go_sem] theorem call24 (args:List Value):ah Tryz.prog 24 args = .pure (.enter 24 args):=rfl
@[go_sem] theorem call25 (args:List Value):ah Tryz.prog 25 args = .pure (.enter 25 args):=rfl
@[go_sem] theorem call26 (args:List Value):ah Tryz.prog 26 args = .pure (.enter 26 args):=rfl
@[go_sem] theorem call27 (args:List Value):ah Tryz.prog 27 args = .pure (.enter 27 args):=rfl
@[go_sem] theorem call28 (args:List Value):ah Tryz.prog 28 args = .pure (.enter 28 args):=rfl
@[go_sem] theorem call29 (args:List Value):ah Tryz.prog 29 args = .pure (.enter 29 args):=rfl
@[go_sem] theorem call30 (args:List Value):ah Tryz.prog 30 args = .pure (.enter 30 args):=rfl
@[go_sem] theorem call31 (args:List Value):ah Tryz.prog 31 args = .pure (.enter 31 args):=rfl
@[go_sem] theorem call32 (args:List Value):ah Tryz.prog 32 args = .pure (.enter 32 args):=rfl
@[go_sem] theorem call33 (args:List Value):ah Tryz.prog 33 args = .pure (.enter 33 args):=rfl
@[go_sem] theorem call34 (args:List Value):ah Tryz.prog 34 args = .pure (.enter 34 args):=rfl
@[go_sem] theorem call35 (args:List Value):ah Tryz.prog 35 args = .pure (.enter 35 args):=rfl
@[go_sem] theorem call36 (args:List Value):ah Tryz.prog 36 args = .pure (.enter 36 args):=rfl
@[go_sem] theorem call37 (args:List Value):ah Tryz.prog 37 args = .pure (.enter 37 args):=rfl
@[go_sem] theorem call38 (args:List Value):ah Tryz.prog 38 args = .pure (.enter 38 args):=rfl
@[go_sem] theorem call39 (args:List Value):ah Tryz.prog 39 args = .pure (.enter 39 args):=rfl
@[go_sem] theorem call40 (args:List Value):ah Tryz.prog 40 args = .pure (.enter 40 args):=rfl
@[go_sem] theorem call41 (args:List Value):ah Tryz.prog 41 args = .pure (.enter 41 args):=rfl
@[go_sem] theorem call42 (args:List Value):ah Tryz.prog 42 args = .pure (.enter 42 args):=rfl
@[go_sem] theorem call43 (args:List Value):ah Tryz.prog 43 args = .pure (.enter 43 args):=rfl
@[go_sem] theorem call44 (args:List Value):ah Tryz.prog 44 args = .pure (.enter 44 args):=rfl
@[go_sem] theorem call45 (args:List Value):ah Tryz.prog 45 args = .pure (.enter 45 args):=rfl
@[go_sem] theorem call46 (args:List Value):ah Tryz.prog 46 args = .pure (.enter 46 args):=rfl
@[go_sem] theorem call47 (args:List Value):ah Tryz.prog 47 args = .pure (.enter 47 args):=rfl
@[go_sem] theorem call48 (args:List Value):ah Tryz.prog 48 args = .pure (.enter 48 args):=rfl
@[go_sem] theorem call49 (args:List Value):ah Tryz.prog 49 args = .pure (.enter 49 args):=rfl
@[go_sem] theorem call50 (args:List Value):ah Tryz.prog 50 args = .pure (.enter 50 args):=rfl
@[go_sem] theorem call51 (args:List Value):ah Tryz.prog 51 args = .pure (.enter 51 args):=rfl
@[go_sem] theorem call52 (args:List Value):ah Tryz.prog 52 args = .pure (.enter 52 args):=rfl
@[go_sem] theorem call53 (args:List Value):ah Tryz.prog 53 args = .pure (.enter 53 args):=rfl
@[go_sem] theorem call54 (args:List Value):ah Tryz.prog 54 args = .pure (.enter 54 args):=rfl
@[go_sem] theorem call55 (args:List Value):ah Tryz.prog 55 args = .pure (.enter 55 args):=rfl
@[go_sem] theorem call56 (args:List Value):ah Tryz.prog 56 args = .pure (.enter 56 args):=rfl
@[go_sem] theorem call57 (args:List Value):ah Tryz.prog 57 args = .pure (.enter 57 args):=rfl
@[go_sem] theorem call58 (args:List Value):ah Tryz.prog 58 args = .pure (.enter 58 args):=rfl
@[go_sem] theorem call59 (args:List Value):ah Tryz.prog 59 args = .pure (.enter 59 args):=rfl
@[go_sem] theorem call60 (args:List Value):ah Tryz.prog 60 args = .pure (.enter 60 args):=rfl
@[go_sem] theorem call61 (args:List Value):ah Tryz.prog 61 args = .pure (.enter 61 args):=rfl
@[go_sem] theorem call62 (args:List Value):ah Tryz.prog 62 args = .pure (.enter 62 args):=rfl
@[go_sem] theorem call63 (args:List Value):ah Tryz.prog 63 args = .pure (.enter 63 args):=rfl
@[go_sem] theorem call64 (args:List Value):ah Tryz.prog 64 args = .pure (.enter 64 args):=rfl
@[go_sem] theorem call65 (args:List Value):ah Tryz.prog 65 args = .pure (.enter 65 args):=rfl
@[go_sem] theorem call66 (args:List Value):ah Tryz.prog 66 args = .pure (.enter 66 args):=rfl
@[go_sem] theorem call67 (args:List Value):ah Tryz.prog 67 args = .pure (.enter 67 args):=rfl
@[go_sem] theorem call68 (args:List Value):ah Tryz.prog 68 args = .pure (.enter 68 args):=rfl
@[go_sem] theorem call69 (args:List Value):ah Tryz.prog 69 args = .pure (.enter 69 args):=rfl
@[go_sem] theorem call70 (args:List Value):ah Tryz.prog 70 args = .pure (.enter 70 args):=rfl
@[go_sem] theorem call71 (args:List Value):ah Tryz.prog 71 args = .pure (.enter 71 args):=rfl
@[go_sem] theorem call72 (args:List Value):ah Tryz.prog 72 args = .pure (.enter 72 args):=rfl
@[go_sem] theorem call73 (args:List Value):ah Tryz.prog 73 args = .pure (.enter 73 args):=rfl
@[go_sem] theorem call74 (args:List Value):ah Tryz.prog 74 args = .pure (.enter 74 args):=rfl
@[go_sem] theorem call75 (args:List Value):ah Tryz.prog 75 args = .pure (.enter 75 args):=rfl
@[go_sem] theorem call76 (args:List Value):ah Tryz.prog 76 args = .pure (.enter 76 args):=rfl
@[go_sem] theorem call77 (args:List Value):ah Tryz.prog 77 args = .pure (.enter 77 args):=rfl
@[go_sem] theorem call78 (args:List Value):ah Tryz.prog 78 args = .pure (.enter 78 args):=rfl
@[go_sem] theorem call79 (args:List Value):ah Tryz.prog 79 args = .pure (.enter 79 args):=rfl
@[go_sem] theorem call80 (args:List Value):ah Tryz.prog 80 args = .pure (.enter 80 args):=rfl
@[go_sem] theorem call81 (args:List Value):ah Tryz.prog 81 args = .pure (.enter 81 args):=rfl
@[go_sem] theorem call82 (args:List Value):ah Tryz.prog 82 args = .pure (.enter 82 args):=rfl
@[go_sem] theorem call83 (args:List Value):ah Tryz.prog 83 args = .pure (.enter 83 args):=rfl
@[go_sem] theorem call84 (args:List Value):ah Tryz.prog 84 args = .pure (.enter 84 args):=rfl
@[go_sem] theorem call85 (args:List Value):ah Tryz.prog 85 args = .pure (.enter 85 args):=rfl
@[go_sem] theorem call86 (args:List Value):ah Tryz.prog 86 args = .pure (.enter 86 args):=rfl
@[go_sem] theorem call87 (args:List Value):ah Tryz.prog 87 args = .pure (.enter 87 args):=rfl
@[go_sem] theorem call88 (args:List Value):ah Tryz.prog 88 args = .pure (.enter 88 args):=rfl
@[go_sem] theorem call89 (args:List Value):ah Tryz.prog 89 args = .pure (.enter 89 args):=rfl
@[go_sem] theorem call90 (args:List Value):ah Tryz.prog 90 args = .pure (.enter 90 args):=rfl
@[go_sem] theorem call91 (args:List Value):ah Tryz.prog 91 args = .pure (.enter 91 args):=rfl
@[go_sem] theorem call92 (args:List Value):ah Tryz.prog 92 args = .pure (.enter 92 args):=rfl
@[go_sem] theorem call93 (args:List Value):ah Tryz.prog 93 args = .pure (.enter 93 args):=rfl
@[go_sem] theorem call94 (args:List Value):ah Tryz.prog 94 args = .pure (.enter 94 args):=rfl
@[go_sem] theorem call95 (args:List Value):ah Tryz.prog 95 args = .pure (.enter 95 args):=rfl
@[go_sem] theorem call96 (args:List Value):ah Tryz.prog 96 args = .pure (.enter 96 args):=rfl
@[go_sem] theorem call97 (args:List Value):ah Tryz.prog 97 args = .pure (.enter 97 args):=rfl
@[go_sem] theorem call98 (args:List Value):ah Tryz.prog 98 args = .pure (.enter 98 args):=rfl
@[go_sem] theorem call99 (args:List Value):ah Tryz.prog 99 args = .pure (.enter 99 args):=rfl
@[go_sem] theorem call100 (args:List Value):ah Tryz.prog 100 args = .pure (.enter 100 args):=rfl
@[go_sem] theorem call101 (args:List Value):ah Tryz.prog 101 args = .pure (.enter 101 args):=rfl
@[go_sem] theorem call102 (args:List Value):ah Tryz.prog 102 args = .pure (.enter 102 args):=rfl
@[go_sem] theorem call103 (args:List Value):ah Tryz.prog 103 args = .pure (.enter 103 args):=rfl
@[go_sem] theorem call104 (args:List Value):ah Tryz.prog 104 args = .pure (.enter 104 args):=rfl
@[go_sem] theorem call105 (args:List Value):ah Tryz.prog 105 args = .pure (.enter 105 args):=rfl
@[go_sem] theorem call106 (args:List Value):ah Tryz.prog 106 args = .pure (.enter 106 args):=rfl
@[go_sem] theorem call107 (args:List Value):ah Tryz.prog 107 args = .pure (.enter 107 args):=rfl
@[go_sem] theorem call108 (args:List Value):ah Tryz.prog 108 args = .pure (.enter 108 args):=rfl
@[go_sem] theorem call109 (args:List Value):ah Tryz.prog 109 args = .pure (.enter 109 args):=rfl
@[go_sem] theorem call110 (args:List Value):ah Tryz.prog 110 args = .pure (.enter 110 args):=rfl
@[go_sem] theorem call111 (args:List Value):ah Tryz.prog 111 args = .pure (.enter 111 args):=rfl
@[go_sem] theorem call112 (args:List Value):ah Tryz.prog 112 args = .pure (.enter 112 args):=rfl
@[go_sem] theorem call113 (args:List Value):ah Tryz.prog 113 args = .pure (.enter 113 args):=rfl
@[go_sem] theorem call114 (args:List Value):ah Tryz.prog 114 args = .pure (.enter 114 args):=rfl
@[go_sem] theorem call115 (args:List Value):ah Tryz.prog 115 args = .pure (.enter 115 args):=rfl
@[go_sem] theorem call116 (args:List Value):ah Tryz.prog 116 args = .pure (.enter 116 args):=rfl
@[go_sem] theorem call117 (args:List Value):ah Tryz.prog 117 args = .pure (.enter 117 args):=rfl
@[go_sem] theorem call118 (args:List Value):ah Tryz.prog 118 args = .pure (.enter 118 args):=rfl
@[go_sem] theorem call119 (args:List Value):ah Tryz.prog 119 args = .pure (.enter 119 args):=rfl
@[go_sem] theorem call120 (args:List Value):ah Tryz.prog 120 args = .pure (.enter 120 args):=rfl
@[go_sem] theorem call121 (args:List Value):ah Tryz.prog 121 args = .pure (.enter 121 args):=rfl
@[go_sem] theorem call122 (args:List Value):ah Tryz.prog 122 args = .pure (.enter 122 args):=rfl
@[go_sem] theorem call123 (args:List Value):ah Tryz.prog 123 args = .pure (.enter 123 args):=rfl
@[go_sem] theorem call124 (args:List Value):ah Tryz.prog 124 args = .pure (.enter 124 args):=rfl
@[go_sem] theorem call125 (args:List Value):ah Tryz.prog 125 args = .pure (.enter 125 args):=rfl
@[go_sem] theorem call126 (args:List Value):ah Tryz.prog 126 args = .pure (.enter 126 args):=rfl
@[go_sem] theorem call127 (args:List Value):ah Tryz.prog 127 args = .pure (.enter 127 args):=rfl
@[go_sem] theorem call128 (args:List Value):ah Tryz.prog 128 args = .pure (.enter 128 args):=rfl
@[go_sem] theorem call129 (args:List Value):ah Tryz.prog 129 args = .pure (.enter 129 args):=rfl
@[go_sem] theorem call130 (args:List Value):ah Tryz.prog 130 args = .pure (.enter 130 args):=rfl
@[go_sem] theorem call131 (args:List Value):ah Tryz.prog 131 args = .pure (.enter 131 args):=rfl
@[go_sem] theorem call132 (args:List Value):ah Tryz.prog 132 args = .pure (.enter 132 args):=rfl
@[go_sem] theorem call133 (args:List Value):ah Tryz.prog 133 args = .pure (.enter 133 args):=rfl
@[go_sem] theorem call134 (args:List Value):ah Tryz.prog 134 args = .pure (.enter 134 args):=rfl
@[go_sem] theorem call135 (args:List Value):ah Tryz.prog 135 args = .pure (.enter 135 args):=rfl
@[go_sem] theorem call136 (args:List Value):ah Tryz.prog 136 args = .pure (.enter 136 args):=rfl
@[go_sem] theorem call137 (args:List Value):ah Tryz.prog 137 args = .pure (.enter 137 args):=rfl
@[go_sem] theorem call138 (args:List Value):ah Tryz.prog 138 args = .pure (.enter 138 args):=rfl
@[go_sem] theorem call139 (args:List Value):ah Tryz.prog 139 args = .pure (.enter 139 args):=rfl
@[go_sem] theorem call141 (args:List Value):ah Tryz.prog 141 args = .pure (.enter 141 args):=rfl
@[go_sem] theorem call142 (args:List Value):ah Tryz.prog 142 args = .pure (.enter 142 args):=rfl
@[go_sem] theorem call143 (args:List Value):ah Tryz.prog 143 args = .pure (.enter 143 args):=rfl
@[go_sem] theorem call144 (args:List Value):ah Tryz.prog 144 args = .pure (.enter 144 args):=rfl
@[go_sem] theorem call145 (args:List Value):ah Tryz.prog 145 args = .pure (.enter 145 args):=rfl
@[go_sem] theorem call146 (args:List Value):ah Tryz.prog 146 args = .pure (.enter 146 args):=rfl
@[go_sem] theorem call147 (args:List Value):ah Tryz.prog 147 args = .pure (.enter 147 args):=rfl
@[go_sem] theorem call148 (args:List Value):ah Tryz.prog 148 args = .pure (.enter 148 args):=rfl
@[go_sem] theorem call149 (args:List Value):ah Tryz.prog 149 args = .pure (.enter 149 args):=rfl
@[go_sem] theorem call150 (args:List Value):ah Tryz.prog 150 args = .pure (.enter 150 args):=rfl
@[go_sem] theorem call151 (args:List Value):ah Tryz.prog 151 args = .pure (.enter 151 args):=rfl
@[go_sem] theorem call152 (args:List Value):ah Tryz.prog 152 args = .pure (.enter 152 args):=rfl
@[go_sem] theorem call153 (args:List Value):ah Tryz.prog 153 args = .pure (.enter 153 args):=rfl
@[go_sem] theorem call154 (args:List Value):ah Tryz.prog 154 args = .pure (.enter 154 args):=rfl
@[go_sem] theorem call155 (args:List Value):ah Tryz.prog 155 args = .pure (.enter 155 args):=rfl
@[go_sem] theorem call156 (args:List Value):ah Tryz.prog 156 args = .pure (.enter 156 args):=rfl
@[go_sem] theorem call157 (args:List Value):ah Tryz.prog 157 args = .pure (.enter 157 args):=rfl
@[go_sem] theorem call158 (args:List Value):ah Tryz.prog 158 args = .pure (.enter 158 args):=rfl
@[go_sem] theorem call159 (args:List Value):ah Tryz.prog 159 args = .pure (.enter 159 args):=rfl
@[go_sem] theorem call160 (args:List Value):ah Tryz.prog 160 args = .pure (.enter 160 args):=rfl
@[go_sem] theorem call161 (args:List Value):ah Tryz.prog 161 args = .pure (.enter 161 args):=rfl
@[go_sem] theorem call162 (args:List Value):ah Tryz.prog 162 args = .pure (.enter 162 args):=rfl
@[go_sem] theorem call163 (args:List Value):ah Tryz.prog 163 args = .pure (.enter 163 args):=rfl
@[go_sem] theorem call164 (args:List Value):ah Tryz.prog 164 args = .pure (.enter 164 args):=rfl
@[go_sem] theorem call165 (args:List Value):ah Tryz.prog 165 args = .pure (.enter 165 args):=rfl
@[go_sem] theorem call166 (args:List Value):ah Tryz.prog 166 args = .pure (.enter 166 args):=rfl
@[go_sem] theorem call167 (args:List Value):ah Tryz.prog 167 args = .pure (.enter 167 args):=rfl
@[go_sem] theorem call168 (args:List Value):ah Tryz.prog 168 args = .pure (.enter 168 args):=rfl
@[go_sem] theorem call169 (args:List Value):ah Tryz.prog 169 args = .pure (.enter 169 args):=rfl
@[go_sem] theorem call170 (args:List Value):ah Tryz.prog 170 args = .pure (.enter 170 args):=rfl
@[go_sem] theorem call171 (args:List Value):ah Tryz.prog 171 args = .pure (.enter 171 args):=rfl
@[go_sem] theorem call172 (args:List Value):ah Tryz.prog 172 args = .pure (.enter 172 args):=rfl
@[go_sem] theorem call173 (args:List Value):ah Tryz.prog 173 args = .pure (.enter 173 args):=rfl
@[go_sem] theorem call174 (args:List Value):ah Tryz.prog 174 args = .pure (.enter 174 args):=rfl
@[go_sem] theorem call175 (args:List Value):ah Tryz.prog 175 args = .pure (.enter 175 args):=rfl
@[go_sem] theorem call176 (args:List Value):ah Tryz.prog 176 args = .pure (.enter 176 args):=rfl
@[go_sem] theorem call178 (args:List Value):ah Tryz.prog 178 args = .pure (.enter 178 args):=rfl
@[go_sem] theorem call179 (args:List Value):ah Tryz.prog 179 args = .pure (.enter 179 args):=rfl
@[go_sem] theorem call180 (args:List Value):ah Tryz.prog 180 args = .pure (.enter 180 args):=rfl
@[go_sem] theorem call181 (args:List Value):ah Tryz.prog 181 args = .pure (.enter 181 args):=rfl
@[go_sem] theorem call182 (args:List Value):ah Tryz.prog 182 args = .pure (.enter 182 args):=rfl
@[go_sem] theorem call183 (args:List Value):ah Tryz.prog 183 args = .pure (.enter 183 args):=rfl
@[go_sem] theorem call184 (args:List Value):ah Tryz.prog 184 args = .pure (.enter 184 args):=rfl
@[go_sem] theorem call185 (args:List Value):ah Tryz.prog 185 args = .pure (.enter 185 args):=rfl
@[go_sem] theorem call186 (args:List Value):ah Tryz.prog 186 args = .pure (.enter 186 args):=rfl
@[go_sem] theorem call187 (args:List Value):ah Tryz.prog 187 args = .pure (.enter 187 args):=rfl
@[go_sem] theorem call188 (args:List Value):ah Tryz.prog 188 args = .pure (.enter 188 args):=rfl
@[go_sem] theorem call189 (args:List Value):ah Tryz.prog 189 args = .pure (.enter 189 args):=rfl
@[go_sem] theorem call190 (args:List Value):ah Tryz.prog 190 args = .pure (.enter 190 args):=rfl
@[go_sem] theorem call191 (args:List Value):ah Tryz.prog 191 args = .pure (.enter 191 args):=rfl
@[go_sem] theorem call192 (args:List Value):ah Tryz.prog 192 args = .pure (.enter 192 args):=rfl
@[go_sem] theorem call193 (args:List Value):ah Tryz.prog 193 args = .pure (.enter 193 args):=rfl
@[go_sem] theorem call194 (args:List Value):ah Tryz.prog 194 args = .pure (.enter 194 args):=rfl
@[go_sem] theorem call195 (args:List Value):ah Tryz.prog 195 args = .pure (.enter 195 args):=rfl
@[go_sem] theorem call196 (args:List Value):ah Tryz.prog 196 args = .pure (.enter 196 args):=rfl
@[go_sem] theorem call197 (args:List Value):ah Tryz.prog 197 args = .pure (.enter 197 args):=rfl
@[go_sem] theorem call198 (args:List Value):ah Tryz.prog 198 args = .pure (.enter 198 args):=rfl
@[go_sem] theorem call199 (args:List Value):ah Tryz.prog 199 args = .pure (.enter 199 args):=rfl
@[go_sem] theorem call200 (args:List Value):ah Tryz.prog 200 args = .pure (.enter 200 args):=rfl
@[go_sem] theorem call201 (args:List Value):ah Tryz.prog 201 args = .pure (.enter 201 args):=rfl
@[go_sem] theorem call202 (args:List Value):ah Tryz.prog 202 args = .pure (.enter 202 args):=rfl
@[go_sem] theorem call203 (args:List Value):ah Tryz.prog 203 args = .pure (.enter 203 args):=rfl
@[go_sem] theorem call204 (args:List Value):ah Tryz.prog 204 args = .pure (.enter 204 args):=rfl
@[go_sem] theorem call205 (args:List Value):ah Tryz.prog 205 args = .pure (.enter 205 args):=rfl
@[go_sem] theorem call206 (args:List Value):ah Tryz.prog 206 args = .pure (.enter 206 args):=rfl
@[go_sem] theorem call207 (args:List Value):ah Tryz.prog 207 args = .pure (.enter 207 args):=rfl
@[go_sem] theorem call208 (args:List Value):ah Tryz.prog 208 args = .pure (.enter 208 args):=rfl
@[go_sem] theorem call209 (args:List Value):ah Tryz.prog 209 args = .pure (.enter 209 args):=rfl
@[go_sem] theorem call210 (args:List Value):ah Tryz.prog 210 args = .pure (.enter 210 args):=rfl
@[go_sem] theorem call211 (args:List Value):ah Tryz.prog 211 args = .pure (.enter 211 args):=rfl
@[go_sem] theorem call212 (args:List Value):ah Tryz.prog 212 args = .pure (.enter 212 args):=rfl
@[go_sem] theorem call213 (args:List Value):ah Tryz.prog 213 args = .pure (.enter 213 args):=rfl
@[go_sem] theorem call214 (args:List Value):ah Tryz.prog 214 args = .pure (.enter 214 args):=rfl
@[go_sem] theorem call215 (args:List Value):ah Tryz.prog 215 args = .pure (.enter 215 args):=rfl
@[go_sem] theorem call216 (args:List Value):ah Tryz.prog 216 args = .pure (.enter 216 args):=rfl
@[go_sem] theorem call217 (args:List Value):ah Tryz.prog 217 args = .pure (.enter 217 args):=rfl
@[go_sem] theorem call218 (args:List Value):ah Tryz.prog 218 args = .pure (.enter 218 args):=rfl
@[go_sem] theorem call219 (args:List Value):ah Tryz.prog 219 args = .pure (.enter 219 args):=rfl
@[go_sem] theorem call220 (args:List Value):ah Tryz.prog 220 args = .pure (.enter 220 args):=rfl
@[go_sem] theorem call221 (args:List Value):ah Tryz.prog 221 args = .pure (.enter 221 args):=rfl
@[go_sem] theorem call222 (args:List Value):ah Tryz.prog 222 args = .pure (.enter 222 args):=rfl
@[go_sem] theorem call223 (args:List Value):ah Tryz.prog 223 args = .pure (.enter 223 args):=rfl
@[go_sem] theorem call224 (args:List Value):ah Tryz.prog 224 args = .pure (.enter 224 args):=rfl
@[go_sem] theorem call225 (args:List Value):ah Tryz.prog 225 args = .pure (.enter 225 args):=rfl
@[go_sem] theorem call226 (args:List Value):ah Tryz.prog 226 args = .pure (.enter 226 args):=rfl
@[go_sem] theorem call227 (args:List Value):ah Tryz.prog 227 args = .pure (.enter 227 args):=rfl
@[go_sem] theorem call228 (args:List Value):ah Tryz.prog 228 args = .pure (.enter 228 args):=rfl
@[go_sem] theorem call229 (args:List Value):ah Tryz.prog 229 args = .pure (.enter 229 args):=rfl
@[go_sem] theorem call230 (args:List Value):ah Tryz.prog 230 args = .pure (.enter 230 args):=rfl
@[go_sem] theorem call231 (args:List Value):ah Tryz.prog 231 args = .pure (.enter 231 args):=rfl
@[go_sem] theorem call232 (args:List Value):ah Tryz.prog 232 args = .pure (.enter 232 args):=rfl
@[go_sem] theorem call233 (args:List Value):ah Tryz.prog 233 args = .pure (.enter 233 args):=rfl
@[go_sem] theorem call234 (args:List Value):ah Tryz.prog 234 args = .pure (.enter 234 args):=rfl
@[go_sem] theorem call235 (args:List Value):ah Tryz.prog 235 args = .pure (.enter 235 args):=rfl
@[go_sem] theorem call236 (args:List Value):ah Tryz.prog 236 args = .pure (.enter 236 args):=rfl
@[go_sem] theorem call237 (args:List Value):ah Tryz.prog 237 args = .pure (.enter 237 args):=rfl
@[go_sem] theorem call238 (args:List Value):ah Tryz.prog 238 args = .pure (.enter 238 args):=rfl
@[go_sem] theorem call239 (args:List Value):ah Tryz.prog 239 args = .pure (.enter 239 args):=rfl
@[go_sem] theorem call240 (args:List Value):ah Tryz.prog 240 args = .pure (.enter 240 args):=rfl
@[go_sem] theorem call241 (args:List Value):ah Tryz.prog 241 args = .pure (.enter 241 args):=rfl
@[go_sem] theorem call242 (args:List Value):ah Tryz.prog 242 args = .pure (.enter 242 args):=rfl
@[go_sem] theorem call243 (args:List Value):ah Tryz.prog 243 args = .pure (.enter 243 args):=rfl
@[go_sem] theorem call244 (args:List Value):ah Tryz.prog 244 args = .pure (.enter 244 args):=rfl
@[go_sem] theorem call245 (args:List Value):ah Tryz.prog 245 args = .pure (.enter 245 args):=rfl
@[go_sem] theorem call246 (args:List Value):ah Tryz.prog 246 args = .pure (.enter 246 args):=rfl
@[go_sem] theorem call247 (args:List Value):ah Tryz.prog 247 args = .pure (.enter 247 args):=rfl
@[go_sem] theorem call248 (args:List Value):ah Tryz.prog 248 args = .pure (.enter 248 args):=rfl
@[go_sem] theorem call250 (args:List Value):ah Tryz.prog 250 args = .pure (.enter 250 args):=rfl
@[go_sem] theorem call251 (args:List Value):ah Tryz.prog 251 args = .pure (.enter 251 args):=rfl
@[go_sem] theorem call252 (args:List Value):ah Tryz.prog 252 args = .pure (.enter 252 args):=rfl
@[go_sem] theorem call253 (args:List Value):ah Tryz.prog 253 args = .pure (.enter 253 args):=rfl
@[go_sem] theorem call254 (args:List Value):ah Tryz.prog 254 args = .pure (.enter 254 args):=rfl
@[go_sem] theorem call255 (args:List Value):ah Tryz.prog 255 args = .pure (.enter 255 args):=rfl
@[go_sem] theorem call279 (args:List Value):ah Tryz.prog 279 args = .pure (.enter 279 args):=rfl
@[go_sem] theorem call280 (args:List Value):ah Tryz.prog 280 args = .pure (.enter 280 args):=rfl
@[go_sem] theorem call281 (args:List Value):ah Tryz.prog 281 args = .pure (.enter 281 args):=rfl
@[go_sem] theorem call282 (args:List Value):ah Tryz.prog 282 args = .pure (.enter 282 args):=rfl
@[go_sem] theorem call284 (args:List Value):ah Tryz.prog 284 args = .pure (.enter 284 args):=rfl
@[go_sem] theorem call286 (args:List Value):ah Tryz.prog 286 args = .pure (.enter 286 args):=rfl
@[go_sem] theorem call290 (args:List Value):ah Tryz.prog 290 args = .pure (.enter 290 args):=rfl
@[go_sem] theorem call295 (args:List Value):ah Tryz.prog 295 args = .pure (.enter 295 args):=rfl
attribute [go_sem_proc] Nat.reduceLT Nat.reduceAdd Nat.reduceMul Nat.reduceSub Nat.reduceEqDiff Nat.reduceLeDiff Int.reduceToNat Int.reduceLT Int.reduceLE Int.reduceEq Int.reduceNe Int.reduceAdd Int.reduceSub Int.reduceMul Int.reduceNeg reduceCtorEq
attribute [go_sem_proc ↓] reduceIte
@[go_sem] def Mz:List (Nat×Nat):=[(0,1),(0,2),(0,3),(0,4),(0,5),(0,6),(1,6),(2,6),(3,6),(4,6),(5,6),(0,7),(1,7),(2,7),(3,7),(4,7),(5,7),(0,8),(1,8),(2,8),(3,8),(4,8),(5,8),(6,8),(7,8),(0,9),(1,9),(2,9),(3,9),(4,9),(5,9),(6,9),(7,9),(0,10),(1,10),(2,10),(3,10),(4,10),(5,10),(6,10),(7,10),(0,11),(1,11),(2,11),(3,11),(4,11),(5,11),(6,11),(7,11),(8,11),(9,11),(10,11),(0,12),(1,12),(2,12),(3,12),(4,12),(5,12),(6,12),(7,12),(8,12),(9,12),(10,12),(0,13),(1,13),(2,13),(3,13),(4,13),(5,13),(6,13),(7,13),(8,13),(9,13),(10,13),(11,13),(12,13),(0,14),(1,14),(2,14),(3,14),(4,14),(5,14),(6,14),(7,14),(8,14),(9,14),(10,14),(11,14),(12,14),(0,15),(0,16),(0,17),(0,18),(17,18),(18,19),(18,20),(18,21),(18,22)]
@[go_sem] def yT:List (Nat×Nat):=[(0,1),(0,4),(1,4),(2,4),(3,4),(0,5),(1,5),(2,5),(3,5),(4,5),(0,6),(1,6),(2,6),(3,6),(0,7),(1,7),(2,7),(3,7)]
@[go_sem] def yU:List (Nat×Nat):=[(0,1),(0,2),(0,3),(0,4),(0,5),(0,6),(1,6),(2,6),(3,6),(4,6),(5,6),(0,7),(0,8),(0,9),(1,9),(2,9),(3,9),(4,9),(5,9),(6,9),(7,9),(8,9),(0,10),(1,10),(2,10),(3,10),(4,10),(5,10),(6,10),(7,10),(8,10),(0,11),(1,11),(2,11),(3,11),(4,11),(5,11),(6,11),(7,11),(8,11),(0,12),(1,12),(2,12),(3,12),(4,12),(5,12),(6,12),(7,12),(8,12),(0,13),(1,13),(2,13),(3,13),(4,13),(5,13),(6,13),(7,13),(8,13),(0,14),(1,14),(2,14),(3,14),(4,14),(5,14),(6,14),(7,14),(8,14),(13,14),(14,15),(14,16)]
@[go_sem] def O9:List (Nat×Nat):=[(0,1),(0,2),(1,2),(0,3),(1,3),(0,4),(1,4),(2,4),(3,4),(0,5),(1,5),(2,5),(3,5),(0,6),(1,6),(2,6),(3,6),(4,6),(5,6),(0,7),(1,7),(2,7),(3,7),(4,7),(5,7),(6,7),(0,8),(1,8),(2,8),(3,8),(4,8),(5,8),(6,8),(0,9),(1,9),(2,9),(3,9),(4,9),(5,9),(6,9)]
@[go_sem] def G_:List (Nat×Nat):=[(0,2),(1,2),(0,3),(1,3),(0,5),(1,5),(2,5),(3,5),(4,5),(0,6),(1,6),(2,6),(3,6),(4,6),(0,7),(1,7),(2,7),(3,7),(4,7),(5,7),(6,7),(0,8),(1,8),(2,8),(3,8),(4,8),(5,8),(6,8),(0,9),(1,9),(2,9),(3,9),(4,9),(5,10),(6,10),(7,10),(8,10),(9,10)]
@[go_sem] def wM:List (Nat×Nat):=[(0,1),(0,2),(1,2),(0,3),(1,3),(0,4),(1,4),(2,4),(3,4),(0,5),(1,5),(2,5),(3,5)]
@[go_sem] def nZ:List (Nat×Nat):=[(0,1),(0,2),(0,3),(0,4),(0,5),(0,6),(1,7),(2,7),(3,7),(4,7),(5,7),(6,7)]
@[go_sem] def ej:List (Nat×Nat):=[(0,5),(1,5),(2,5),(3,5),(4,5),(0,6),(1,6),(2,6),(3,6),(4,6),(0,7),(1,7),(2,7),(3,7),(4,7),(0,8),(1,8),(2,8),(3,8),(4,8),(0,9),(1,9),(2,9),(3,9),(4,9),(5,9),(6,9),(7,9),(8,9),(0,10),(1,10),(2,10),(3,10),(4,10),(5,10),(6,10),(7,10),(8,10),(0,11),(1,11),(2,11),(3,11),(4,11),(5,11),(6,11),(7,11),(8,11),(0,12),(1,12),(2,12),(3,12),(4,12),(5,12),(6,12),(7,12),(8,12),(5,13),(6,13),(7,13),(8,13),(9,13),(10,13),(11,13),(12,13),(9,14),(10,14),(11,14),(12,14)]
@[go_sem] def pU:List (Nat×Nat):=[(0,1),(0,2),(0,3),(0,4),(0,5),(0,6),(1,7),(2,7),(3,7),(4,7),(5,7),(6,7)]
@[go_sem] def Bj:List (Nat×Nat):=[(0,5),(1,5),(2,5),(3,5),(4,5),(0,6),(1,6),(2,6),(3,6),(4,6),(0,8),(1,8),(2,8),(3,8),(4,8),(5,8),(6,8),(7,8),(0,9),(1,9),(2,9),(3,9),(4,9),(5,9),(6,9),(7,9),(0,10),(1,10),(2,10),(3,10),(4,10),(5,10),(6,10),(7,10),(0,11),(1,11),(2,11),(3,11),(4,11),(5,11),(6,11),(7,11),(0,12),(1,12),(2,12),(3,12),(4,12),(5,12),(6,12),(7,12),(11,12),(0,13),(1,13),(2,13),(3,13),(4,13),(5,13),(6,13),(7,13),(11,13),(0,14),(1,14),(2,14),(3,14),(4,14),(5,14),(6,14),(7,14),(11,14),(0,15),(1,15),(2,15),(3,15),(4,15),(5,15),(6,15),(7,15),(11,15),(0,16),(1,16),(2,16),(3,16),(4,16),(5,16),(6,16),(7,16),(0,17),(1,17),(2,17),(3,17),(4,17),(5,17),(6,17),(7,17),(11,18),(12,18),(13,18),(14,18),(15,18),(16,18),(17,18)]
@[go_sem] def Bk:List (Nat×Nat):=[(0,4),(1,4),(2,4),(3,4),(0,7),(1,7),(2,7),(3,7),(4,7),(5,7),(6,7)]
@[go_sem] def rD:List (Nat×Nat):=[(0,2),(1,2),(0,5),(1,5),(2,5),(3,5),(4,5),(0,6),(1,6),(2,6),(3,6),(4,6),(0,7),(1,7),(2,7),(3,7),(4,7),(5,7),(6,7),(0,8),(1,8),(2,8),(3,8),(4,8),(5,8),(6,8),(0,9),(1,9),(2,9),(3,9),(4,9),(0,10),(1,10),(2,10),(3,10),(4,10)]
@[go_sem] def He:List (Nat×Nat):=[(0,8),(1,8),(2,8),(3,8),(4,8),(5,8),(6,8),(7,8),(0,9),(1,9),(2,9),(3,9),(4,9),(5,9),(6,9),(7,9),(0,10),(1,10),(2,10),(3,10),(4,10),(5,10),(6,10),(7,10),(0,11),(1,11),(2,11),(3,11),(4,11),(5,11),(6,11),(7,11),(0,12),(1,12),(2,12),(3,12),(4,12),(5,12),(6,12),(7,12),(0,13),(1,13),(2,13),(3,13),(4,13),(5,13),(6,13),(7,13),(8,13),(9,13),(10,13),(11,13),(12,13),(0,14),(1,14),(2,14),(3,14),(4,14),(5,14),(6,14),(7,14),(8,14),(9,14),(10,14),(11,14),(12,14),(0,15),(1,15),(2,15),(3,15),(4,15),(5,15),(6,15),(7,15),(8,15),(9,15),(10,15),(11,15),(12,15),(0,16),(1,16),(2,16),(3,16),(4,16),(5,16),(6,16),(7,16),(8,16),(9,16),(10,16),(11,16),(12,16),(13,16),(14,16),(15,16),(0,17),(1,17),(2,17),(3,17),(4,17),(5,17),(6,17),(7,17),(8,17),(9,17),(10,17),(11,17),(12,17),(13,17),(14,17),(15,17),(0,18),(1,18),(2,18),(3,18),(4,18),(5,18),(6,18),(7,18),(8,18),(9,18),(10,18),(11,18),(12,18),(13,18),(14,18),(15,18),(0,19),(1,19),(2,19),(3,19),(4,19),(5,19),(6,19),(7,19),(8,19),(9,19),(10,19),(11,19),(12,19),(13,19),(14,19),(15,19),(0,20),(1,20),(2,20),(3,20),(4,20),(5,20),(6,20),(7,20),(8,20),(9,20),(10,20),(11,20),(12,20),(13,20),(14,20),(15,20),(0,21),(1,21),(2,21),(3,21),(4,21),(5,21),(6,21),(7,21),(8,21),(9,21),(10,21),(11,21),(12,21),(24,25),(25,26)]
@[go_sem] def Hf:List (Nat×Nat):=[(0,3),(1,3),(2,3),(0,4),(1,4),(2,4),(0,5),(1,5),(2,5),(0,6),(1,6),(2,6)]
@[go_sem] def Hg:List (Nat×Nat):=[(0,8),(1,8),(2,8),(3,8),(4,8),(5,8),(6,8),(7,8),(0,9),(1,9),(2,9),(3,9),(4,9),(5,9),(6,9),(7,9),(0,10),(1,10),(2,10),(3,10),(4,10),(5,10),(6,10),(7,10),(0,11),(1,11),(2,11),(3,11),(4,11),(5,11),(6,11),(7,11),(0,12),(1,12),(2,12),(3,12),(4,12),(5,12),(6,12),(7,12)]
@[go_sem] def Hh:List (Nat×Nat):=[(0,4),(1,4),(2,4),(3,4),(0,5),(1,5),(2,5),(3,5),(0,6),(1,6),(2,6),(3,6),(0,7),(1,7),(2,7),(3,7)]
@[go_sem] def Hj:List (Nat×Nat):=[(0,8),(1,8),(2,8),(3,8),(4,8),(5,8),(6,8),(7,8),(0,9),(1,9),(2,9),(3,9),(4,9),(5,9),(6,9),(7,9),(0,10),(1,10),(2,10),(3,10),(4,10),(5,10),(6,10),(7,10),(0,11),(1,11),(2,11),(3,11),(4,11),(5,11),(6,11),(7,11),(0,12),(1,12),(2,12),(3,12),(4,12),(5,12),(6,12),(7,12),(0,13),(1,13),(2,13),(3,13),(4,13),(5,13),(6,13),(7,13),(8,13),(9,13),(10,13),(11,13),(12,13),(0,14),(1,14),(2,14),(3,14),(4,14),(5,14),(6,14),(7,14),(8,14),(9,14),(10,14),(11,14),(12,14),(0,15),(1,15),(2,15),(3,15),(4,15),(5,15),(6,15),(7,15),(8,15),(9,15),(10,15),(11,15),(12,15),(0,16),(1,16),(2,16),(3,16),(4,16),(5,16),(6,16),(7,16),(8,16),(9,16),(10,16),(11,16),(12,16),(13,16),(14,16),(15,16),(0,17),(1,17),(2,17),(3,17),(4,17),(5,17),(6,17),(7,17),(8,17),(9,17),(10,17),(11,17),(12,17),(13,17),(14,17),(15,17),(0,18),(1,18),(2,18),(3,18),(4,18),(5,18),(6,18),(7,18),(8,18),(9,18),(10,18),(11,18),(12,18),(13,18),(14,18),(15,18),(0,19),(1,19),(2,19),(3,19),(4,19),(5,19),(6,19),(7,19),(8,19),(9,19),(10,19),(11,19),(12,19),(13,19),(14,19),(15,19),(0,20),(1,20),(2,20),(3,20),(4,20),(5,20),(6,20),(7,20),(8,20),(9,20),(10,20),(11,20),(12,20),(13,20),(14,20),(15,20),(0,21),(1,21),(2,21),(3,21),(4,21),(5,21),(6,21),(7,21),(8,21),(9,21),(10,21),(11,21),(12,21),(0,22),(1,22),(2,22),(3,22),(4,22),(5,22),(6,22),(7,22),(8,22),(9,22),(10,22),(11,22),(12,22),(13,22),(14,22),(15,22),(16,22),(17,22),(18,22),(19,22),(20,22),(21,22),(0,23),(1,23),(2,23),(3,23),(4,23),(5,23),(6,23),(7,23),(8,23),(9,23),(10,23),(11,23),(12,23),(13,23),(14,23),(15,23),(16,23),(17,23),(18,23),(19,23),(20,23),(21,23),(0,24),(1,24),(2,24),(3,24),(4,24),(5,24),(6,24),(7,24),(8,24),(9,24),(10,24),(11,24),(12,24),(13,24),(14,24),(15,24),(16,24),(17,24),(18,24),(19,24),(20,24),(21,24),(0,25),(1,25),(2,25),(3,25),(4,25),(5,25),(6,25),(7,25),(8,25),(9,25),(10,25),(11,25),(12,25),(13,25),(14,25),(15,25),(16,25),(17,25),(18,25),(19,25),(20,25),(21,25),(0,26),(1,26),(2,26),(3,26),(4,26),(5,26),(6,26),(7,26),(8,26),(9,26),(10,26),(11,26),(12,26),(13,26),(14,26),(15,26),(16,26),(17,26),(18,26),(19,26),(20,26),(21,26),(0,27),(1,27),(2,27),(3,27),(4,27),(5,27),(6,27),(7,27),(8,27),(9,27),(10,27),(11,27),(12,27),(0,28),(1,28),(2,28),(3,28),(4,28),(5,28),(6,28),(7,28),(8,28),(9,28),(10,28),(11,28),(12,28)]
@[go_sem] def Hl:List (Nat×Nat):=[(0,3),(1,3),(2,3),(0,4),(1,4),(2,4),(0,5),(1,5),(2,5),(0,6),(1,6),(2,6),(0,7),(1,7),(2,7)]
@[go_sem] def Ho:List (Nat×Nat):=[(0,8),(1,8),(2,8),(3,8),(4,8),(5,8),(6,8),(7,8),(0,9),(1,9),(2,9),(3,9),(4,9),(5,9),(6,9),(7,9),(0,10),(1,10),(2,10),(3,10),(4,10),(5,10),(6,10),(7,10),(0,11),(1,11),(2,11),(3,11),(4,11),(5,11),(6,11),(7,11),(0,12),(1,12),(2,12),(3,12),(4,12),(5,12),(6,12),(7,12)]
@[go_sem] def Hp:List (Nat×Nat):=[(0,8),(1,8),(2,8),(3,8),(4,8),(5,8),(6,8),(7,8),(0,9),(1,9),(2,9),(3,9),(4,9),(5,9),(6,9),(7,9),(0,10),(1,10),(2,10),(3,10),(4,10),(5,10),(6,10),(7,10),(0,11),(1,11),(2,11),(3,11),(4,11),(5,11),(6,11),(7,11),(0,12),(1,12),(2,12),(3,12),(4,12),(5,12),(6,12),(7,12),(0,13),(1,13),(2,13),(3,13),(4,13),(5,13),(6,13),(7,13)]
@[go_sem] def wN:List (Nat×Nat):=[(0,1),(0,2),(0,3),(0,4),(0,5),(1,5),(2,5),(3,5),(4,5),(0,6),(1,6),(2,6),(3,6),(4,6),(5,6),(0,7),(1,7),(2,7),(3,7),(4,7),(5,7),(6,7),(0,8),(1,8),(2,8),(3,8),(4,8),(5,8),(6,8),(7,8),(0,9),(1,9),(2,9),(3,9),(4,9),(5,9),(6,9),(0,10),(1,10),(2,10),(3,10),(4,10),(5,10),(0,11),(1,11),(2,11),(3,11),(4,11),(5,11),(6,11),(7,11),(8,11),(9,11),(10,11),(0,12),(1,12),(2,12),(3,12),(4,12),(5,12),(6,12),(7,12),(8,12),(9,12),(10,12),(11,12),(0,13),(1,13),(2,13),(3,13),(4,13),(5,13),(6,13),(7,13),(8,13),(9,13),(10,13),(0,14),(1,14),(2,14),(3,14),(4,14),(0,15),(1,15),(2,15),(3,15),(4,15),(0,16)]
@[go_sem] def wO:List (Nat×Nat):=[(0,1),(0,2),(0,3),(0,4),(0,5),(0,6),(0,7),(0,8),(1,8),(2,8),(3,8),(4,8),(5,8),(6,8),(7,8),(0,9),(1,9),(2,9),(3,9),(4,9),(5,9),(6,9),(7,9),(0,10),(1,10),(2,10),(3,10),(4,10),(5,10),(6,10),(7,10),(0,11),(1,11),(2,11),(3,11),(4,11),(5,11),(6,11),(7,11),(0,12),(1,12),(2,12),(3,12),(4,12),(5,12),(6,12),(7,12),(8,12),(9,12),(10,12),(11,12),(0,13),(1,13),(2,13),(3,13),(4,13),(5,13),(6,13),(7,13),(8,13),(9,13),(10,13),(11,13),(0,14),(1,14),(2,14),(3,14),(4,14),(5,14),(6,14),(7,14),(8,14),(9,14),(10,14),(11,14),(0,15),(1,15),(2,15),(3,15),(4,15),(5,15),(6,15),(7,15),(8,15),(9,15),(10,15),(11,15),(0,16),(0,17),(0,18),(0,19),(18,19),(19,20),(19,21),(19,22)]
@[go_sem] def wP:List (Nat×Nat):=[(0,7),(1,7),(2,7),(3,7),(4,7),(5,7),(6,7),(0,8),(1,8),(2,8),(3,8),(4,8),(5,8),(6,8),(0,9),(1,9),(2,9),(3,9),(4,9),(5,9),(6,9),(0,10),(1,10),(2,10),(3,10),(4,10),(5,10),(6,10),(0,11),(1,11),(2,11),(3,11),(4,11),(5,11),(6,11),(7,11),(8,11),(9,11),(10,11),(0,12),(1,12),(2,12),(3,12),(4,12),(5,12),(6,12),(7,12),(8,12),(9,12),(10,12),(0,13),(1,13),(2,13),(3,13),(4,13),(5,13),(6,13),(7,13),(8,13),(9,13),(10,13),(0,14),(1,14),(2,14),(3,14),(4,14),(5,14),(6,14),(7,14),(8,14),(9,14),(10,14),(0,15),(1,15),(2,15),(3,15),(4,15),(5,15),(6,15),(7,15),(8,15),(9,15),(10,15),(11,15),(12,15),(13,15),(14,15),(0,16),(1,16),(2,16),(3,16),(4,16),(5,16),(6,16),(7,16),(8,16),(9,16),(10,16),(11,16),(12,16),(13,16),(14,16),(0,17),(1,17),(2,17),(3,17),(4,17),(5,17),(6,17),(7,17),(8,17),(9,17),(10,17),(11,17),(12,17),(13,17),(14,17),(0,18),(1,18),(2,18),(3,18),(4,18),(5,18),(6,18),(7,18),(8,18),(9,18),(10,18),(11,18),(12,18),(13,18),(14,18),(0,19),(1,19),(2,19),(3,19),(4,19),(5,19),(6,19),(7,19),(8,19),(9,19),(10,19),(11,19),(12,19),(13,19),(14,19),(15,19),(16,19),(17,19),(18,19),(22,23),(23,24)]
attribute [go_sem] Tryz.results3 Tryz.results8 Tryz.results9 Tryz.results11 Tryz.results12 Tryz.results13 Tryz.results14 Tryz.results15 Tryz.results16 Tryz.results17 Tryz.results18 Tryz.results19 Tryz.results20 Tryz.results21 Tryz.results22 Tryz.results23 Tryz.results24 Tryz.results25 Tryz.results37 Tryz.results38 Tryz.results45 Tryz.results46 Tryz.results47 Tryz.results48 Tryz.results49 Tryz.results50 Tryz.results52 Tryz.results53 Tryz.results54 Tryz.results55 Tryz.results56 Tryz.results57 Tryz.results58 Tryz.results60 Tryz.results63 Tryz.results65 Tryz.results66 Tryz.results68 Tryz.results69 Tryz.results70 Tryz.results78 Tryz.results85 Tryz.results89 Tryz.results93 Tryz.results100 Tryz.results102 Tryz.results104 Tryz.results105 Tryz.results106 Tryz.results108 Tryz.results109 Tryz.results110 Tryz.results111 Tryz.results112 Tryz.results113 Tryz.results114 Tryz.results115 Tryz.results116 Tryz.results117 Tryz.results118 Tryz.results119 Tryz.results120 Tryz.results121 Tryz.results122 Tryz.results123 Tryz.results124 Tryz.results125 Tryz.results126 Tryz.results127 Tryz.results128 Tryz.results129 Tryz.results130 Tryz.results136 Tryz.results142 Tryz.results144 Tryz.results149 Tryz.results150 Tryz.results161 Tryz.results162 Tryz.results163 Tryz.results167 Tryz.results169 Tryz.results173 Tryz.results178 Tryz.results179 Tryz.results180 Tryz.results181 Tryz.results183 Tryz.results184 Tryz.results185 Tryz.results186 Tryz.results187 Tryz.results188 Tryz.results189 Tryz.results190 Tryz.results191 Tryz.results196 Tryz.results209 Tryz.results210 Tryz.results216 Tryz.results217 Tryz.results218 Tryz.results219 Tryz.results225 Tryz.results226 Tryz.results227 Tryz.results229 Tryz.results230 Tryz.results231 Tryz.results232 Tryz.results233 Tryz.results250 Tryz.results251 Tryz.results255 Tryz.results284 Tryz.results286 Tryz.results290 Tryz.results295
attribute [go_sem] Tryz.ntmps3 Tryz.ntmps8 Tryz.ntmps9 Tryz.ntmps11 Tryz.ntmps12 Tryz.ntmps13 Tryz.ntmps14 Tryz.ntmps15 Tryz.ntmps16 Tryz.ntmps17 Tryz.ntmps18 Tryz.ntmps19 Tryz.ntmps20 Tryz.ntmps21 Tryz.ntmps22 Tryz.ntmps23 Tryz.ntmps24 Tryz.ntmps25 Tryz.ntmps37 Tryz.ntmps38 Tryz.ntmps45 Tryz.ntmps46 Tryz.ntmps47 Tryz.ntmps48 Tryz.ntmps49 Tryz.ntmps50 Tryz.ntmps52 Tryz.ntmps53 Tryz.ntmps54 Tryz.ntmps55 Tryz.ntmps56 Tryz.ntmps57 Tryz.ntmps58 Tryz.ntmps60 Tryz.ntmps63 Tryz.ntmps65 Tryz.ntmps66 Tryz.ntmps68 Tryz.ntmps69 Tryz.ntmps70 Tryz.ntmps78 Tryz.ntmps85 Tryz.ntmps89 Tryz.ntmps93 Tryz.ntmps100 Tryz.ntmps102 Tryz.ntmps104 Tryz.ntmps105 Tryz.ntmps106 Tryz.ntmps108 Tryz.ntmps109 Tryz.ntmps110 Tryz.ntmps111 Tryz.ntmps112 Tryz.ntmps113 Tryz.ntmps114 Tryz.ntmps115 Tryz.ntmps116 Tryz.ntmps117 Tryz.ntmps118 Tryz.ntmps119 Tryz.ntmps120 Tryz.ntmps121 Tryz.ntmps122 Tryz.ntmps123 Tryz.ntmps124 Tryz.ntmps125 Tryz.ntmps126 Tryz.ntmps127 Tryz.ntmps128 Tryz.ntmps129 Tryz.ntmps130 Tryz.ntmps136 Tryz.ntmps142 Tryz.ntmps144 Tryz.ntmps149 Tryz.ntmps150 Tryz.ntmps161 Tryz.ntmps162 Tryz.ntmps163 Tryz.ntmps167 Tryz.ntmps169 Tryz.ntmps173 Tryz.ntmps178 Tryz.ntmps179 Tryz.ntmps180 Tryz.ntmps181 Tryz.ntmps183 Tryz.ntmps184 Tryz.ntmps185 Tryz.ntmps186 Tryz.ntmps187 Tryz.ntmps188 Tryz.ntmps189 Tryz.ntmps190 Tryz.ntmps191 Tryz.ntmps196 Tryz.ntmps209 Tryz.ntmps210 Tryz.ntmps216 Tryz.ntmps217 Tryz.ntmps218 Tryz.ntmps219 Tryz.ntmps225 Tryz.ntmps226 Tryz.ntmps227 Tryz.ntmps229 Tryz.ntmps230 Tryz.ntmps231 Tryz.ntmps232 Tryz.ntmps233 Tryz.ntmps250 Tryz.ntmps251 Tryz.ntmps255 Tryz.ntmps284 Tryz.ntmps286 Tryz.ntmps290 Tryz.ntmps295
end Go.Proofs.YtofmbmclopgldaaGreat
