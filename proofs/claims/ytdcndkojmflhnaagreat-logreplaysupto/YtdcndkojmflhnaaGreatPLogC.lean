/- log.Write; each theorem names its own conditions. -/
import Derived.Test.YtdcndkojmflhnaaGreatPLogB
set_option linter.unusedVariables false
set_option linter.unusedSimpArgs false
set_option maxRecDepth 100000
set_option maxHeartbeats 8000000
set_option linter.unusedSimpArgs false
set_option linter.unusedVariables false
namespace Go.Proofs.YtdcndkojmflhnaaGreat
open Go.RowKit
open List renaming getElem_toArray→zA,getElem_cons_zero→zB,getElem_cons_succ→zC,setIfInBounds_toArray→zD,set_cons_zero→zE,set_cons_succ→zF
def flatP (l:List Piece):List Int:=l.flatMap fun p=>[p.Len,p.N]
def flatC (l:List Run):List Int:=l.flatMap fun r=>[r.At,r.N]
def numsOf (x:Act1):List Int:=[x.Kind,x.N,x.Req.Queue,x.Req.From,x.Req.Until,x.Req.Kind,(x.Req.Pieces.length:Int)]++flatP x.Req.Pieces++[(x.Cap.length:Int)]++flatC x.Cap
theorem flatP_len (l:List Piece):(flatP l).length=2*l.length:=by
 induction l with
 | nil=>rfl
 | cons p l ih=>simp only [flatP,List.flatMap_cons,List.length_append,List.length_cons,List.length_nil] at ih ⊢;omega
theorem flatC_len (l:List Run):(flatC l).length=2*l.length:=by
 induction l with
 | nil=>rfl
 | cons p l ih=>simp only [flatC,List.flatMap_cons,List.length_append,List.length_cons,List.length_nil] at ih ⊢;omega
theorem flatP_take {l:List Piece} {k:Nat} {p:Piece} (h:l[k]?=some p):flatP (l.take (k+1))=flatP (l.take k)++[p.Len,p.N]:=by
 unfold flatP;rw [List.take_add_one,h,List.flatMap_append];simp
theorem flatC_take {l:List Run} {k:Nat} {p:Run} (h:l[k]?=some p):flatC (l.take (k+1))=flatC (l.take k)++[p.At,p.N]:=by
 unfold flatC;rw [List.take_add_one,h,List.flatMap_append];simp
@[irreducible] def writeR (x:Act1):ByteArray × Int :=
 if (numsOf x).any outB=true then (ByteArray.empty,3) else if 3 < x.Req.Pieces.length∨48 < x.Cap.length then (ByteArray.empty,2) else (strOfNums (numsOf x),0)
theorem writeR_out {x:Act1} (h:(numsOf x).any outB=true):writeR x=(ByteArray.empty,3):=by unfold writeR;rw [if_pos h]
theorem writeR_many {x:Act1} (h:(numsOf x).any outB=false) (h2:3 < x.Req.Pieces.length∨48 < x.Cap.length):writeR x=(ByteArray.empty,2):=by unfold writeR;rw [if_neg (by rw [h];exact Bool.false_ne_true),if_pos h2]
theorem writeR_ok {x:Act1} (h:(numsOf x).any outB=false) (h2:¬ (3 < x.Req.Pieces.length∨48 < x.Cap.length)):writeR x=(strOfNums (numsOf x),0):=by unfold writeR;rw [if_neg (by rw [h];exact Bool.false_ne_true),if_neg h2]
theorem b8_in {l:List Int} (h:l.any outB=false):l.map b8=l:=by
 induction l with
 | nil=>rfl
 | cons a l ih =>
  rw [List.any_cons,Bool.or_eq_false_iff] at h
  rw [List.map_cons,ih h.2]
  have h1:=h.1
  unfold outB at h1
  simp only [Bool.or_eq_false_iff,decide_eq_false_iff_not] at h1
  rw [show b8 a=a from by unfold b8;omega]
theorem orB_app (a:Bool) (l m:List Int):orB (orB a (l.any outB)) (m.any outB)=orB a ((l++m).any outB):=by rw [orB_eq,orB_eq,orB_eq,List.any_append,Bool.or_assoc]
theorem Write_any (w:World) (pv cv:Value) (x:Act1) (hp:PiecesV w pv x.Req.Pieces) (hc:RunsV w cv x.Cap) (hI:I64 x.Req.Queue∧I64 x.Req.From∧I64 x.Req.Until∧I64 x.Req.Kind) (hK:I64 x.Kind) (hN:I64 x.N) :
  Calls Tryz.prog 20 #[.agg #[.int .i64 x.Kind,.int .i64 x.N,.int .i64 x.Req.Queue,.int .i64 x.Req.From,.int .i64 x.Req.Until,.int .i64 x.Req.Kind,pv,cv]] w fun e w'=>e=.returned (.tuple #[.string (writeR x).1,.int .i64 (writeR x).2])∧Ext w w':=by
 obtain ⟨A,hA⟩:∃ A,w.alloc (.cells #[.int .i64 x.Kind,.int .i64 x.N,.int .i64 x.Req.Queue,.int .i64 x.Req.From,.int .i64 x.Req.Until,.int .i64 x.Req.Kind,pv,cv] 31)=A:=⟨_,rfl⟩
 have hAs:A.heap.size=w.heap.size+1:=by rw [← hA,World.size_alloc]
 have hxA:Ext w A:=hA▸(Ext.rf w).al _
 have hbA:A.heap[w.heap.size]?=some (.cells #[.int .i64 x.Kind,.int .i64 x.N,.int .i64 x.Req.Queue,.int .i64 x.Req.From,.int .i64 x.Req.Until,.int .i64 x.Req.Kind,pv,cv] 31 (0,0)):=hA▸heap_alloc_new w _
 obtain ⟨W1,hW1⟩:∃ W1,A.alloc (.cells #[.slice none 0 0,.bool false] 102)=W1:=⟨_,rfl⟩
 have hW1s:W1.heap.size=w.heap.size+2:=by rw [← hW1,World.size_alloc,hAs]
 have hp0:PenAt [] (w.heap.size+2) (w.heap.size+1) W1 [] false:=⟨.slice none 0 0,by rw [← hW1,← hAs];exact heap_alloc_new A _,by rw [← hW1];exact World.ownsRow_nil _ _ _ _,fun r h=>by cases h⟩
 have hxA1:Ext A W1:=hW1▸(Ext.rf A).al _
 obtain ⟨pa,pc,rfl,hp1,hp2,hp3,hpE⟩:=sv_at hp
 obtain ⟨ca,cc,rfl,hc1,hc2,hc3,hcE⟩:=sv_at hc
 have PUT:=hid (fun (lb n:Nat) (cs:Array Value) (w0:World) (bs:List Int) (bad:Bool) (xs:List Int) (hlb:lb=w0.heap.size) (hcs:cs=(xs.map fun n=>Value.int .i64 n).toArray) (hxs:n=xs.length) (hpen:PenAt [] (w.heap.size+2) (w.heap.size+1) w0 bs bad) (hx:Ext A w0) (hb:w.heap.size+2≤w0.heap.size) (hn:bs.length+xs.length≤140737488355000) (hi:∀ x∈xs,I64 x) =>
  penPut_at (A:=A) xs hlb hcs hxs hpen hx (by omega) (by omega) hb hn hi)
 have HPE:=hid hpE
 have HCE:=hid hcE
 have HBA:=hid hbA
 have HP0:=hid hp0
 have HXA:=hid hxA
 have HXA1:=hid hxA1
 have HA:=hid hA
 have HW1:=hid hW1
 have HW1s:=hid hW1s
 have HAS:=hid hAs
 have HII:=hid (And.intro hK (And.intro hN hI))
 have HLP:=hid (flatP_len x.Req.Pieces)
 have HLC:=hid (flatC_len x.Cap)
 clear hp hc hpE hcE hbA hp0 hxA hxA1 hA hW1 hW1s hAs hK hN hI
 generalize hpn:x.Req.Pieces.length=pn at *
 generalize hcn:x.Cap.length=cn at *
 have HPN:=hid hpn
 have HCN:=hid hcn
 clear hpn hcn
 go_enter Tryz.func20,Tryz.ntmps20
 go_wp2_with fail
 rw [HA.out,HW1.out]
 have P1:=hid (PUT.out (w.heap.size+1+1) 7 _ W1 [] false [x.Kind,x.N,x.Req.Queue,x.Req.From,x.Req.Until,x.Req.Kind,(pn:Int)] (by rw [HW1s.out]) rfl rfl HP0.out HXA1.out (by rw [HW1s.out];omega) (by simp) (fun y hy=>by
  obtain ⟨h1,h2,h3,h4,h5,h6⟩:=HII.out
  have h7:I64 (pn:Int):=by unfold I64;omega
  simp only [List.mem_cons,List.not_mem_nil,or_false] at hy
  rcases hy with rfl | rfl | rfl | rfl | rfl | rfl | rfl <;> assumption))
 refine P1.out.mono ?_
 rintro e w2 ⟨rfl,hpen,hx2,hs2⟩
 have HPEN:=hid hpen
 have HX2:=hid hx2
 have c6:w2.cell? ⟨w.heap.size,6,none⟩=some (.slice pa pn pc):=cell_of_row _ _ 6 _ _ _ (blk_ext HBA.out hx2)
 have hw2:w.heap.size+2≤w2.heap.size:=by rw [HW1s.out] at hs2;exact hs2
 clear hpen hx2 hs2 P1
 go_wp2_with fail
 clear c6
 go_loopw [38] (fun c wr=>∃ k:Nat,c=.int .i64 k∧k≤pn∧Hid (PenAt [] (w.heap.size+2) (w.heap.size+1) wr (([x.Kind,x.N,x.Req.Queue,x.Req.From,x.Req.Until,x.Req.Kind,(pn:Int)]++flatP (x.Req.Pieces.take k)).map b8) (orB false (([x.Kind,x.N,x.Req.Queue,x.Req.From,x.Req.Until,x.Req.Kind,(pn:Int)]++flatP (x.Req.Pieces.take k)).any outB)))∧Hid (Ext A wr)∧w.heap.size+2≤wr.heap.size) (fun c _=>pn - (intOf c).toNat)
 case atStart=>exact ⟨0,rfl,Nat.zero_le _,HPEN,HX2,hw2⟩
 case round =>
  obtain ⟨k,rfl,hk,HPN2,HXR,hsr⟩:=hrel
  by_cases hlt:k < pn
  ·have hlt':(k:Int) < (pn:Int):=by omega
   obtain ⟨y,hy⟩:=getA (f:=x.Req.Pieces) (k:=k) (by rw [HPN.out];exact hlt)
   obtain ⟨b,off,rfl,hb,hE⟩:=HPE.out (by omega)
   obtain ⟨d0,d1,hi⟩:=hE k y hy
   replace d0:=(HXA.out.tr HXR.out).ce' d0
   replace d1:=(HXA.out.tr HXR.out).ce' d1
   have t1:=deF (show ¬ (k:Int) < 0 by omega)
   have HY:=hid hy
   have HIY:=hid hi
   clear hE hy hi
   go_wp2_with fail
   have hbl:((([x.Kind,x.N,x.Req.Queue,x.Req.From,x.Req.Until,x.Req.Kind,(pn:Int)])++flatP (x.Req.Pieces.take k)).map b8).length+2≤140737488355000:=by
    rw [List.length_map,List.length_append,flatP_len,List.length_take]
    simp only [List.length_append,List.length_cons,List.length_nil,flatP_len,flatC_len,HPN.out,HCN.out]
    omega
   have P2:=hid (PUT.out (wr.heap.size+1) 2 _ (wr.alloc (.cells #[.int .i64 y.Len,.int .i64 y.N] 44)) _ _ [y.Len,y.N] (by rw [World.size_alloc]) rfl rfl (HPN2.out.ext ((Ext.rf wr).al _)) (HXR.out.al _) (by rw [World.size_alloc];omega) hbl (fun z hz=>by
    simp only [List.mem_cons,List.not_mem_nil,or_false] at hz
    rcases hz with rfl | rfl
    ·exact HIY.out.1
    ·exact HIY.out.2))
   clear hbl HPN2
   refine P2.out.mono ?_
   rintro e w3 ⟨rfl,hpen,hx3,hs3⟩
   have HPEN3:=hid hpen
   have HX3:=hid hx3
   rw [World.size_alloc] at hs3
   clear hpen hx3 P2
   go_wp2_with fail
   go_roundw
   case rel=>exact ⟨k+1,by go_num,by omega,hid (by
    rw [flatP_take HY.out,← List.append_assoc,List.map_append,← orB_app]
    exact HPEN3.out),HX3.out,by omega⟩
   case measure=>simp [intOf];omega
  ·obtain rfl:k=pn:=by omega
   have hno:¬ (k:Int) < (k:Int):=by omega
   have hfin:=HPN2.out
   rw [show x.Req.Pieces.take k=x.Req.Pieces from List.take_of_length_le (by rw [HPN.out];exact Nat.le_refl _)] at hfin
   have HPF:=hid hfin
   have c7:wr.cell? ⟨w.heap.size,7,none⟩=some (.slice ca cn cc):=cell_of_row _ _ 7 _ _ _ (blk_ext HBA.out HXR.out)
   clear hfin HPN2 HPEN
   go_wp2_with fail
   have hbl:(([x.Kind,x.N,x.Req.Queue,x.Req.From,x.Req.Until,x.Req.Kind,(k:Int)]++flatP x.Req.Pieces).map b8).length+1≤140737488355000:=by
    rw [List.length_map,List.length_append,flatP_len,HPN.out]
    simp only [List.length_cons,List.length_nil]
    omega
   have P3:=hid (PUT.out wr.heap.size 1 _ wr _ _ [(cn:Int)] rfl rfl rfl HPF.out HXR.out hsr hbl (fun z hz=>by
    rw [List.mem_singleton.1 hz]
    unfold I64
    omega))
   clear hbl HPF c7
   refine P3.out.mono ?_
   rintro e w4 ⟨rfl,hpen,hx4,hs4⟩
   rw [← List.map_append,orB_app] at hpen
   have HPEN4:=hid hpen
   have HX4:=hid hx4
   have c7:w4.cell? ⟨w.heap.size,7,none⟩=some (.slice ca cn cc):=cell_of_row _ _ 7 _ _ _ (blk_ext HBA.out hx4)
   have hw4:w.heap.size+2≤w4.heap.size:=by omega
   clear hpen hx4 P3 hs4
   go_wp2_with fail
   clear c7
   go_loopw [59] (fun c wr=>∃ j:Nat,c=.int .i64 j∧j≤cn∧Hid (PenAt [] (w.heap.size+2) (w.heap.size+1) wr (([x.Kind,x.N,x.Req.Queue,x.Req.From,x.Req.Until,x.Req.Kind,(k:Int)]++flatP x.Req.Pieces++[(cn:Int)]++flatC (x.Cap.take j)).map b8) (orB false (([x.Kind,x.N,x.Req.Queue,x.Req.From,x.Req.Until,x.Req.Kind,(k:Int)]++flatP x.Req.Pieces++[(cn:Int)]++flatC (x.Cap.take j)).any outB)))∧Hid (Ext A wr)∧w.heap.size+2≤wr.heap.size) (fun c _=>cn - (intOf c).toNat)
   case atStart=>exact ⟨0,rfl,Nat.zero_le _,hid (by rw [List.take_zero,show flatC []=[] from rfl,List.append_nil];exact HPEN4.out),HX4,hw4⟩
   case round =>
    obtain ⟨j,rfl,hj,HPN2,HXR2,hsr2⟩:=hrel
    by_cases hlt2:j < cn
    ·have hlt':(j:Int) < (cn:Int):=by omega
     obtain ⟨y,hy⟩:=getA (f:=x.Cap) (k:=j) (by rw [HCN.out];exact hlt2)
     obtain ⟨b,off,rfl,hb,hE⟩:=HCE.out (by omega)
     obtain ⟨d0,d1,hi⟩:=hE j y hy
     replace d0:=(HXA.out.tr HXR2.out).ce' d0
     replace d1:=(HXA.out.tr HXR2.out).ce' d1
     have t1:=deF (show ¬ (j:Int) < 0 by omega)
     have HY:=hid hy
     have HIY:=hid hi
     clear hE hy hi
     go_wp2_with fail
     have hbl:((([x.Kind,x.N,x.Req.Queue,x.Req.From,x.Req.Until,x.Req.Kind,(k:Int)]++flatP x.Req.Pieces++[(cn:Int)])++flatC (x.Cap.take j)).map b8).length+2≤140737488355000:=by
      rw [List.length_map,List.length_append,flatC_len,List.length_take]
      simp only [List.length_append,List.length_cons,List.length_nil,flatP_len,flatC_len,HPN.out,HCN.out]
      omega
     have P2:=hid (PUT.out (wr.heap.size+1) 2 _ (wr.alloc (.cells #[.int .i64 y.At,.int .i64 y.N] 48)) _ _ [y.At,y.N] (by rw [World.size_alloc]) rfl rfl (HPN2.out.ext ((Ext.rf wr).al _)) (HXR2.out.al _) (by rw [World.size_alloc];omega) hbl (fun z hz=>by
      simp only [List.mem_cons,List.not_mem_nil,or_false] at hz
      rcases hz with rfl | rfl
      ·exact HIY.out.1
      ·exact HIY.out.2))
     clear hbl HPN2
     refine P2.out.mono ?_
     rintro e w3 ⟨rfl,hpen,hx3,hs3⟩
     have HPEN3:=hid hpen
     have HX3:=hid hx3
     rw [World.size_alloc] at hs3
     clear hpen hx3 P2
     go_wp2_with fail
     go_roundw
     case rel=>exact ⟨j+1,by go_num,by omega,hid (by
      rw [flatC_take HY.out,← List.append_assoc,List.map_append,← orB_app]
      exact HPEN3.out),HX3.out,by omega⟩
     case measure=>simp [intOf];omega
    ·obtain rfl:j=cn:=by omega
     have hno2:¬ (j:Int) < (j:Int):=by omega
     have hfin:=HPN2.out
     rw [show x.Cap.take j=x.Cap from List.take_of_length_le (by rw [HCN.out];exact Nat.le_refl _)] at hfin
     have hnum:[x.Kind,x.N,x.Req.Queue,x.Req.From,x.Req.Until,x.Req.Kind,(k:Int)]++flatP x.Req.Pieces++[(j:Int)]++flatC x.Cap=numsOf x:=by
      unfold numsOf
      rw [HPN.out,HCN.out]
     rw [hnum] at hfin
     obtain ⟨v,k0,k1,_,_,hown,_,_⟩:=hfin.cells
     have hbe:orB false ((numsOf x).any outB)=(numsOf x).any outB:=by rw [orB_eq];rfl
     rw [hbe] at k1
     have c6:wr.cell? ⟨w.heap.size,6,none⟩=some (.slice pa k pc):=cell_of_row _ _ 6 _ _ _ (blk_ext HBA.out HXR2.out)
     have c7:wr.cell? ⟨w.heap.size,7,none⟩=some (.slice ca j cc):=cell_of_row _ _ 7 _ _ _ (blk_ext HBA.out HXR2.out)
     have HOWN:=hid hown
     clear hfin HPN2 hnum hbe hown HPEN4
     by_cases hbad:(numsOf x).any outB=true
     ·have HR:=hid (writeR_out hbad)
      rw [hbad] at k1
      clear hbad
      go_wp2_with fail
      go_ret2
      exact ⟨by rw [HR.out];rfl,HXA.out.tr HXR2.out⟩
     ·have hb2:(numsOf x).any outB=false:=by simpa using hbad
      rw [hb2] at k1
      by_cases h3:3 < k
      ·have HR:=hid (writeR_many hb2 (.inl (by rw [HPN.out];exact h3)))
       have h3':(3:Int) < (k:Int):=by omega
       have h3d:=deT h3'
       clear hbad hb2
       go_wp2_with fail
       go_ret2
       exact ⟨by rw [HR.out];rfl,HXA.out.tr HXR2.out⟩
      ·by_cases h48:48 < j
       ·have HR:=hid (writeR_many hb2 (.inr (by rw [HCN.out];exact h48)))
        have h3':¬ (3:Int) < (k:Int):=by omega
        have h48':(48:Int) < (j:Int):=by omega
        have h3d:=deF h3'
        have h48d:=deT h48'
        clear hbad hb2
        go_wp2_with fail
        go_ret2
        exact ⟨by rw [HR.out];rfl,HXA.out.tr HXR2.out⟩
       ·have HR:=hid (writeR_ok hb2 (by rw [HPN.out,HCN.out];omega))
        have h3':¬ (3:Int) < (k:Int):=by omega
        have h48':¬ (48:Int) < (j:Int):=by omega
        have h3d:=deF h3'
        have h48d:=deF h48'
        have hown:=HOWN.out
        rw [b8_in hb2] at hown
        have hlen:1≤(numsOf x).length:=by unfold numsOf;simp
        obtain ⟨g,cap,rfl⟩:=own_some7 hown hlen
        have hcv:=run_convert_bytes_arg (P:=Tryz.prog) wr 100 5 Tryz.underlying100 (by kernel_rfl) g 0 (numsOf x).length cap (numsOf x) rfl (fun i hi=>by
         have h:=hown.cells (g:=g) rfl i (.int .u8 ((numsOf x).getD i 0)) (by
          rw [List.getElem?_map,List.getElem?_eq_getElem hi]
          simp [List.getD,List.getElem?_eq_getElem hi])
         rw [addr7] at h
         exact h) 9 (by kernel_rfl)
        clear hbad hb2 hown hlen HOWN
        generalize (numsOf x).length=nl at *
        go_wp2_with fail
        go_ret2
        exact ⟨by rw [HR.out];rfl,HXA.out.tr HXR2.out⟩
end Go.Proofs.YtdcndkojmflhnaaGreat
