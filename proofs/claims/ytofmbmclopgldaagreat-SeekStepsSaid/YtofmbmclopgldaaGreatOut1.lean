/-
A part.
-/
import Derived.Test.YtofmbmclopgldaaGreatChecked
import Derived.Sort.MapsRangeIn
import Derived.Sort.KeysCollected
import Derived.Sort.OwnSorted
import Derived.Sort.OwnSortedInts
import Derived.Lib.SlKeysI
import Derived.Maps.AppendAt
import Derived.WalkKit
import Derived.OwnWalkIn
import Derived.TacticsInMore
import Derived.RegionIn
import Derived.LoopNIn
import Derived.LoopIn
import Derived.Shelf.SortM.Plain
import Derived.Shelf.SortM.SortNone
import Derived.Ground.SlgmProg
import Derived.Test.YtofmbmclopgldaaGreatAmZ4
set_option linter.all false
namespace Go.Proofs.YtofmbmclopgldaaGreat
open Go.RowKit Go.Maps Go.Sort Go.Proofs Go.Shelf
shelf_lay_g SlLaysM.n5 Slgm 5 at Tryz 67 as Tryz.Xf
theorem PE:Keyed Tryz.prog 3:=int_keyed Tryz.underlying3
theorem Tryz.UF:(Tryz.prog.info? 3).map (fun i=>(i.zero,i.size,i.bytes))=some (some (.int .i64 0),1,8):=by kernel_rfl
set_option maxRecDepth 100000 in
set_option maxHeartbeats 1000000 in
theorem UG {H:Type} (pb o r n:Nat) (D0:DataW H) (w:World) (hcell:w.cell? ⟨pb,o+4,none⟩=some (.map (some r))) (hpb:pb<w.heap.size) (hown:w.ownsMap Tryz.prog 3 (plainElem Tryz.prog 4) r n D0) (afl:Maps.size D0≤1000000):
  CallsIn Fence.wide 0 Tryz.prog 16 #[.pointer (some ⟨pb,o,none⟩)] w fun e w'=>∃ (v:Value) (ss:List Int),e = .returned v∧(∃ left,CollectedI D0 left ss∧∀ kl,left kl=false)∧(ss=[]→v = .slice none 0 0)∧
   w'.ownsRow w.heap.size 3 1 v ss.length ((ss.mergeSort (fun x y=>decide (x≤y))).map (Value.int .i64))∧RowKit.Below w.heap.size w w':=by
 obtain⟨i0,hi,CP,hz1,hz2⟩:=info_parts Tryz.UF
 have mS:=hown.lt
 refine callsIn_of_wp Tryz.func16 rfl trivial ?_ rfl
 simp only[Tryz.ntmps16,List.size_toArray,List.length_cons,List.length_nil,Nat.reduceAdd,Nat.reduceSub,Array.replicate_succ,Array.replicate_zero,List.push_toArray,List.append_toArray,List.nil_append,List.cons_append]
 gi_wp2_with (first
  | (gi_at_range;refine wpListIn_range_own _ rfl _ 147 rfl 3 4 PE Tryz.underlying147 _ r n _ rfl hown ?_;intro w0 aqZ hg0 hs0)
  |gi_in)
 go_frame
 gi_loopw [3] (fun v wr=>∃ (left:Lit→Bool) (cnt:Nat) (ss:List Int),wr.ranges Tryz.prog 3 (plainElem Tryz.prog 4) r w.heap.size n D0 left cnt∧ss.length+cnt≤Maps.size D0∧
   wr.ownsRow w.heap.size 3 1 v ss.length (ss.map (Value.int .i64))∧CollectedI D0 left ss∧(ss=[]→v = .slice none 0 0)∧RowKit.Below w.heap.size w wr)
  (fun _ wr=>wr.rangeLeft r w.heap.size)
 case atStart=>
  exact⟨_,_,[],aqZ,by simp,⟨rfl,.inl ⟨rfl,rfl⟩⟩,CollectedI.start D0,fun _=>rfl,(Below.refl _ _).grown hg0 (Nat.le_refl _) (fun j hj=>by cases hj)⟩
 case round=>
  obtain⟨left,cnt,ss,Ia,hcs,hrow,hC,FW,zq⟩:=hrel
  gi_wp2_with (first
   | (gi_at_next;refine wpListIn_next_ranges _ rfl _ rfl 3 PE (plainElem Tryz.prog 4) (Value.int .i64) (fun v:Value=>v) (fun key kl hk=>by obtain⟨x,hx,_⟩:=Maps.keyOf_i64 Tryz.underlying3 hk;exact⟨x,hx⟩) (fun v y hv=>⟨v,rfl⟩) r w.heap.size n _ _ _ rfl Ia ?_ ?_)
   |gi_in)
  ·intro hc0 hl0
   rcases hrow.2 with ⟨oK,hz⟩ | ⟨g,cap,cur,rfl,hbase,hb,h1,h2,h3,h4⟩
   ·subst oK
    obtain rfl:ss=[]:=List.length_eq_zero_iff.1 hz
    have hc:CallsIn Fence.wide 0 Tryz.prog 67 #[.slice none 0 0] wr fun e w'=>e = .returned (.tuple #[])∧w'=wr:=callsIn_wide.2 (AnyM.slices_Sort_int_none Tryz.Xf none 0 wr)
    gi_wp2_with (first | (refine⟨trivial,rfl,?_⟩) | (gi_at_call 67;refine hc.mono ?_;rintro e w' ⟨rfl,rfl⟩) |gi_in)
    go_ret
    exact⟨_,[],rfl,⟨left,hC,hl0⟩,fun _=>rfl,⟨by simp,.inl ⟨rfl,rfl⟩⟩,zq⟩
   ·have hH:Holds (Value.int .i64) wr g 0 ss.toArray:=holds_of_blockI hb (by simpa using h4)
    have L6:g<wr.heap.size:=(Array.getElem?_eq_some_iff.1 hb).1
    have hc:CallsIn Fence.wide 0 Tryz.prog 67 #[.slice (some ⟨g,0,none⟩) ss.length cap] wr fun e w'=>e = .returned (.tuple #[])∧∃ n os,w'=grow (putRow (Value.int .i64) (Sort.ahead wr n) g 0 (ss.mergeSort fun x y=>decide (x≤y)).toArray) os:=callsIn_wide.2 (AnyM.slices_Sort_int Tryz.Xf g 0 cap ss wr hH L6 (by omega))
    gi_wp2_with (first | (refine⟨trivial,rfl,?_⟩) | (gi_at_call 67;refine hc.mono ?_;rintro e w' ⟨rfl,nn,os,rfl⟩) |gi_in)
    go_ret
    exact⟨_,ss,rfl,⟨left,hC,hl0⟩,(fun e=>by have:=FW e;cases this),ownsRow_sortedI (by simp) hbase hb h1 h2 h3,zq.grown (grownBy_sortedI _) zq.size (fun j hj=>by cases hj;exact hbase)⟩
  ·intro x c kl yd yp w2 aq0 hkey hlk hv hat afn hlt hg2 tM LN
   obtain⟨x',ex,rfl,_⟩:=Maps.keyOf_i64 Tryz.underlying3 hkey
   obtain rfl:x=x':=encZ_inj ex
   have Jc:=hrow.kept hg2 (Or.inr (row_ne_iter hrow Ia).symm)
   clear tM
   gi_wp2_with (first
    | (gi_at_builtin;refine wpListIn_append_own _ rfl _ _ 43 rfl w.heap.size 3 i0 (.int .i64 0) 1 8 Tryz.underlying43 hi CP hz1 hz2 rfl (by decide) _ _ _ rfl (Jc.alloc _) ⟨w2.heap.size,0,none⟩ 1 1 [Value.int .i64 x] rfl rfl (cell_one_new _ _ _) (by simp[Value.oneCell']) (by unfold maxLen at *;omega) (by omega) (by have:=zq.size;have:=hg2.size;simp;omega) ?_;intro v' w3 hown' hg3 aAU;go_frame)
    |gi_in)
   have afo:=(afn.alloc _).kept hg3 (row_ne_low Jc mS) (row_ne_iter Jc afn)
   go_roundw
   case rel=>
    refine⟨_,aq0,ss++[x],afo,by simp;omega,by simpa using hown',hC.step hlk hat,fun e=>by simp at e,?_⟩
    exact((zq.grown hg2 zq.size (fun j hj=>by cases hj;exact Nat.le_refl _)).alloc (by have:=zq.size;have:=hg2.size;omega) _).grown hg3 (by have:=zq.size;have:=hg2.size;simp;omega) (fun j hj=>(Jc.lt j hj).1)
   case measure=>rw[afo.left_eq,Ia.left_eq];exact hlt
theorem yM:Am.bG Tryz.prog 16 Am.BN:=
 Am.apH Tryz.underlying3 Tryz.underlying4 fun pb o r n D0 w hcell hpb hown afl=>UG pb o r n D0 w hcell hpb hown afl
end Go.Proofs.YtofmbmclopgldaaGreat
