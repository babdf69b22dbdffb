/- what must be in any case: logBegun; each theorem names its own conditions. -/
import Derived.Test.YtdcndkojmflhnaaGreatPLogH
set_option linter.unusedVariables false
set_option linter.unusedSimpArgs false
set_option maxRecDepth 100000
set_option maxHeartbeats 8000000
set_option linter.unusedSimpArgs false
set_option linter.unusedVariables false
namespace Go.Proofs.YtdcndkojmflhnaaGreat
open Go.RowKit
open List renaming getElem_toArray→zA,getElem_cons_zero→zB,getElem_cons_succ→zC,setIfInBounds_toArray→zD,set_cons_zero→zE,set_cons_succ→zF
def u8 (n:Int):UInt8:=UInt8.ofNat n.toNat
theorem byI_u8 {n:Int} (h:outB n=false):byI (u8 n)=n:=by
 unfold outB at h
 simp only [Bool.or_eq_false_iff,decide_eq_false_iff_not] at h
 unfold byI u8
 rw [UInt8.toNat_ofNat']
 omega
theorem u8_nat {n:Nat} (h:n≤255):(u8 (n:Int)).toNat=n:=by
 unfold u8
 rw [UInt8.toNat_ofNat',Int.toNat_natCast]
 omega
def bytesL (x:Act1):List UInt8:=(numsOf x).map u8
theorem writeR_bytes {x:Act1} (h:(numsOf x).any outB=false) (h2:x.Req.Pieces.length≤3) (h3:x.Cap.length≤48):writeR x=(str (bytesL x),0):=writeR_ok h (by omega)
theorem writeR_zero {x:Act1} (h:(writeR x).2=0):(numsOf x).any outB=false∧x.Req.Pieces.length≤3∧x.Cap.length≤48∧(writeR x).1=str (bytesL x):=by
 cases ho:(numsOf x).any outB with
 | true=>rw [writeR_out ho] at h;exact absurd h (by decide)
 | false =>
  by_cases h2:3 < x.Req.Pieces.length∨48 < x.Cap.length
  ·rw [writeR_many ho h2] at h;exact absurd h (by decide)
  ·exact ⟨rfl,by omega,by omega,by rw [writeR_ok ho h2];rfl⟩
theorem pieceOf_flat:∀ (l:List Piece) (r:List UInt8),(flatP l).any outB=false→pieceOf l.length ((flatP l).map u8++r)=l
 | [],_,_=>rfl
 | p::l,r,h=>by
  have e:flatP (p::l)=p.Len::p.N::flatP l:=rfl
  rw [e,List.any_cons,List.any_cons,Bool.or_eq_false_iff,Bool.or_eq_false_iff] at h
  rw [e]
  show ⟨byI (u8 p.Len),byI (u8 p.N)⟩::pieceOf l.length ((flatP l).map u8++r)=p::l
  rw [byI_u8 h.1,byI_u8 h.2.1,pieceOf_flat l r h.2.2]
theorem runOf_flat:∀ (l:List Run) (r:List UInt8),(flatC l).any outB=false→runOf l.length ((flatC l).map u8++r)=l
 | [],_,_=>rfl
 | p::l,r,h=>by
  have e:flatC (p::l)=p.At::p.N::flatC l:=rfl
  rw [e,List.any_cons,List.any_cons,Bool.or_eq_false_iff,Bool.or_eq_false_iff] at h
  rw [e]
  show ⟨byI (u8 p.At),byI (u8 p.N)⟩::runOf l.length ((flatC l).map u8++r)=p::l
  rw [byI_u8 h.1,byI_u8 h.2.1,runOf_flat l r h.2.2]
theorem actT_write {x:Act1} (h:(numsOf x).any outB=false) (h2:x.Req.Pieces.length≤3) (h3:x.Cap.length≤48) (r:List UInt8):actT (bytesL x++r)=some (x,r):=by
 have e:bytesL x++r=u8 x.Kind::u8 x.N::u8 x.Req.Queue::u8 x.Req.From::u8 x.Req.Until::u8 x.Req.Kind::u8 (x.Req.Pieces.length:Int)::((flatP x.Req.Pieces).map u8++(u8 (x.Cap.length:Int)::((flatC x.Cap).map u8++r))):=by
  unfold bytesL numsOf
  simp
 have n1:=u8_nat (n:=x.Req.Pieces.length) (by omega)
 have n2:=u8_nat (n:=x.Cap.length) (by omega)
 have l1:((flatP x.Req.Pieces).map u8).length=2*x.Req.Pieces.length:=by rw [List.length_map,flatP_len]
 have l2:((flatC x.Cap).map u8).length=2*x.Cap.length:=by rw [List.length_map,flatC_len]
 unfold numsOf at h
 rw [List.any_append,List.any_append,List.any_append,Bool.or_eq_false_iff,Bool.or_eq_false_iff,Bool.or_eq_false_iff] at h
 obtain ⟨⟨⟨g1,g2⟩,g3⟩,g4⟩:=h
 simp only [List.any_cons,List.any_nil,Bool.or_eq_false_iff] at g1
 obtain ⟨k1,k2,k3,k4,k5,k6,_⟩:=g1
 rw [e]
 show (if (u8 (x.Req.Pieces.length:Int)).toNat≤3∧2*(u8 (x.Req.Pieces.length:Int)).toNat≤((flatP x.Req.Pieces).map u8++(u8 (x.Cap.length:Int)::((flatC x.Cap).map u8++r))).length then _ else none)=_
 rw [n1,if_pos ⟨h2,by rw [List.length_append,l1];omega⟩,List.drop_append_of_le_length (by omega),List.drop_of_length_le (by omega),List.nil_append]
 show (if (u8 (x.Cap.length:Int)).toNat≤48∧2*(u8 (x.Cap.length:Int)).toNat≤((flatC x.Cap).map u8++r).length then some _ else none)=_
 rw [n2,if_pos ⟨h3,by rw [List.length_append,l2];omega⟩,List.drop_append_of_le_length (by omega),List.drop_of_length_le (by omega),List.nil_append,byI_u8 k1,byI_u8 k2,byI_u8 k3,byI_u8 k4,byI_u8 k5,byI_u8 k6,pieceOf_flat _ _ g2,runOf_flat _ _ g4]
def lgA:Act1:=⟨1,0,plotR 4,[]⟩
def lgB:Act1:=⟨3,3,⟨0,0,0,0,[]⟩,[]⟩
def lgC:Act1:=⟨0,256,⟨0,0,0,0,[]⟩,[]⟩
def lgD:Act1:=⟨0,0,⟨0,0,0,0,[]⟩,[]⟩
def tA:List UInt8:=[1,0,3,2,30,4,2,4,3,5,6,0]
def tB:List UInt8:=[3,3,0,0,0,0,0,0]
theorem wrA:writeR lgA=(str tA,0):=by rw [writeR_bytes (by decide) (by decide) (by decide)];rfl
theorem wrB:writeR lgB=(str tB,0):=by rw [writeR_bytes (by decide) (by decide) (by decide)];rfl
theorem wrC:writeR lgC=(ByteArray.empty,3):=writeR_out (by decide)
theorem repA:replayR (tA++tB++[1])=([lgA,lgB],20,0):=by rw [replayR_ok (by decide)];rfl
theorem repB:replayR (tA++tB)=([lgA,lgB],20,0):=by rw [replayR_ok (by decide)];rfl
def nilS:State:=⟨0,0,fieldL 10 0 6,[]⟩
theorem nilV:stateE nilS=0:=beginV
def fieldR:List Run:=[⟨0,8⟩,⟨20,4⟩]
theorem fieldR_is:fold (roomT (fieldL 10 0 6) [] 3)=fieldR:=by decide +kernel
theorem plot4_ok:ReqOk (plotR 4):=by decide +kernel
theorem placeP:placeL (plotT nilS (plotR 4)) (plotR 4)=[⟨0,2⟩,⟨1,6⟩]:=by
 show placeL (sp (fold (roomT (fieldL 10 0 6) [] 3))) (plotR 4)=_
 rw [fieldR_is,placeL_tight rfl];decide +kernel
theorem mayP:mayE nilS (plotR 4)=0:=mayE_ok nilV (reqE_ok fieldC plot4_ok (by decide)) (by decide)
def oneB:List Book:=[⟨0,plotR 4,[⟨0,2⟩,⟨1,6⟩]⟩]
theorem subP:submitR nilS (plotR 4)=(⟨0,1,fieldL 10 0 6,oneB⟩,0,0):=by
 rw [submitR_ok mayP (by show ¬ ((0:Nat)=12∨(0:Int)=1048576);decide) (by rw [placeP];decide),placeP];rfl
theorem oneV:stateE ⟨0,1,fieldL 10 0 6,oneB⟩=0:=(submit_right subP).1
theorem stayP:stayB 3 oneB=oneB:=by
 have hb:=(booksE_zero (formE_zero (stateE_zero oneV).1).1).2.2.2
 have h1:=late_is (hb ⟨0,plotR 4,[⟨0,2⟩,⟨1,6⟩]⟩ (by simp [oneB])) 3
 rw [show maxTo (overA (⟨0,plotR 4,[⟨0,2⟩,⟨1,6⟩]⟩:Book).Req (⟨0,plotR 4,[⟨0,2⟩,⟨1,6⟩]⟩:Book).Bites) ((⟨0,plotR 4,[⟨0,2⟩,⟨1,6⟩]⟩:Book).Bites.length - 1)=11 by decide +kernel] at h1
 unfold stayB oneB
 rw [List.filter_cons,h1]
 rfl
theorem tickP:tickR ⟨0,1,fieldL 10 0 6,oneB⟩ 3=(⟨3,1,fieldL 10 0 6,oneB⟩,0,0):=by
 rw [tickR_ok oneV (by decide) (by show ¬ (3:Int) < 0;decide)]
 show (State.mk 3 1 (fieldL 10 0 6) (stayB 3 oneB),(oneB.length:Int) - ((stayB 3 oneB).length:Int),(0:Int))=_
 rw [stayP];rfl
theorem doneP:doneR nilS [lgA,lgB]=⟨3,1,fieldL 10 0 6,oneB⟩:=by
 have h1:doneS nilS lgA=⟨0,1,fieldL 10 0 6,oneB⟩:=by
  unfold doneS;rw [doR_1 rfl,show submitR nilS lgA.Req=_ from subP];rfl
 have h2:doneS ⟨0,1,fieldL 10 0 6,oneB⟩ lgB=⟨3,1,fieldL 10 0 6,oneB⟩:=by
  unfold doneS;rw [doR_3 rfl,show tickR ⟨0,1,fieldL 10 0 6,oneB⟩ lgB.N=_ from tickP];rfl
 show doneS (doneS nilS lgA) lgB=_
 rw [h1,h2]
theorem recP:recoverR (fieldL 10 0 6) (replayR (tA++tB))=(⟨3,1,fieldL 10 0 6,oneB⟩,2,0):=by
 rw [repB,recoverR_ok fieldC rfl]
 show (doneR nilS [lgA,lgB],((2:Nat):Int),(0:Int))=_
 rw [doneP];rfl
theorem doNo {s:State}:doR s lgD=(noneS,7):=doR_no (by decide) (by decide) (by decide) (by decide)
theorem Write_is {w:World} {pv cv:Value} {x:Act1} {T:ByteArray} {c:Int} (h:writeR x=(T,c)) (hp:PiecesV w pv x.Req.Pieces) (hc:RunsV w cv x.Cap) (hI:I64 x.Req.Queue∧I64 x.Req.From∧I64 x.Req.Until∧I64 x.Req.Kind) (hK:I64 x.Kind) (hN:I64 x.N) :
  Calls Tryz.prog 20 #[.agg #[.int .i64 x.Kind,.int .i64 x.N,.int .i64 x.Req.Queue,.int .i64 x.Req.From,.int .i64 x.Req.Until,.int .i64 x.Req.Kind,pv,cv]] w fun e w'=>e=.returned (.tuple #[.string T,.int .i64 c])∧Ext w w':=by
 have:=Write_any w pv cv x hp hc hI hK hN;rwa [h] at this
theorem Replay_is {w:World} {t:List UInt8} {T:ByteArray} {l:List Act1} {n c:Int} (ht:str t=T) (h:replayR t=(l,n,c)) :
  Calls Tryz.prog 22 #[.string T] w fun e w'=>∃ v,e=.returned (.tuple #[v,.int .i64 n,.int .i64 c])∧ActsV w' v l∧Ext w w':=by
 have:=Replay_any w t;rwa [h,ht] at this
theorem Recover_is {w:World} {v:Value} {l:List Queue} {t:List UInt8} {T:ByteArray} {S:State} {n c:Int} (ht:str t=T) (h:recoverR l (replayR t)=(S,n,c)) (hv:QueuesV w v l) :
  Calls Tryz.prog 25 #[v,.string T] w fun e w'=>∃ u v,e=.returned (.tuple #[.agg #[.int .i64 S.Clock,.int .i64 S.Next,u,v],.int .i64 n,.int .i64 c])∧QueuesV w' u S.Tree∧BooksV w' v S.Books∧Ext w w':=by
 have:=Recover_any w v l t hv;rwa [h,ht] at this
theorem logBegun_true (w:World):Calls Tryz.prog 11 #[] w fun e w'=>e=.returned (.bool true)∧Ext w w':=by
 have hv10:I64 (10:Int):=i64_small' (by decide) (by decide)
 have I0:I64 (0:Int):=i64_small' (by decide) (by decide)
 have IP:I64 (plotR 4).Queue∧I64 (plotR 4).From∧I64 (plotR 4).Until∧I64 (plotR 4).Kind:=⟨i64_small' (by decide) (by decide),i64_small' (by decide) (by decide),i64_small' (by decide) (by decide),i64_small' (by decide) (by decide)⟩
 have eA:str tA++str tB++(⟨#[1]⟩:ByteArray)=str (tA++tB++[1]):=by decide +kernel
 have eB:str tA++str tB=str (tA++tB):=by decide +kernel
 have sA:(str tA).size=12:=rfl
 have sB:(str tB).size=8:=rfl
 have EA:=hid eA
 have EB:=hid eB
 have SA:=hid sA
 have SB:=hid sB
 clear eA eB sA sB
 have WA:=hid (fun (W:World) (pv:Value) (hp:PiecesV W pv plotL)=>Write_is (w:=W) (pv:=pv) (cv:=.slice none 0 0) wrA hp SV.nil IP (i64_small' (by decide) (by decide)) I0)
 have WB:=hid (fun (W:World)=>Write_is (w:=W) (pv:=.slice none 0 0) (cv:=.slice none 0 0) wrB SV.nil SV.nil ⟨I0,I0,I0,I0⟩ (i64_small' (by decide) (by decide)) (i64_small' (by decide) (by decide)))
 have WC:=hid (fun (W:World)=>Write_is (w:=W) (pv:=.slice none 0 0) (cv:=.slice none 0 0) wrC SV.nil SV.nil ⟨I0,I0,I0,I0⟩ I0 (i64_small' (by decide) (by decide)))
 have RA:=hid (fun (W:World) (T:ByteArray) (h:str (tA++tB++[1])=T)=>Replay_is (w:=W) h repA)
 have RB:=hid (fun (W:World) (T:ByteArray) (v:Value) (h:str (tA++tB)=T) (hv:QueuesV W v (fieldL 10 0 6))=>Recover_is (w:=W) h recP hv)
 have DD:=hid (fun (W:World) (tv bv:Value) (hl:QueuesV W tv (fieldL 10 0 6)) (hb:BooksV W bv farmB)=>Do_any W tv bv (.slice none 0 0) (.slice none 0 0) (farmS 10) lgD hl hb SV.nil SV.nil ⟨I0,I0,I0,I0⟩ I0)
 obtain ⟨TA,hTA⟩:∃ T,str tA=T:=⟨_,rfl⟩
 obtain ⟨TB,hTB⟩:∃ T,str tB=T:=⟨_,rfl⟩
 rw [hTA] at WA EA EB SA
 rw [hTB] at WB EA EB SB
 clear hTA hTB IP
 go_enter Tryz.func11,Tryz.ntmps11
 go_wp2_with fail
 refine (plot_any _ 4).mono ?_
 rintro e w1 ⟨pb,rfl,hpv,hx1⟩
 have CA:=hid (WA.out w1 _ hpv)
 have X1:=hid hx1
 clear hpv hx1 WA
 go_wp2_with fail
 refine CA.out.mono ?_
 rintro e w2 ⟨rfl,hx2⟩
 have X2:=hid (X1.out.tr hx2)
 clear hx2 X1 CA
 go_wp2_with fail
 refine (WB.out _).mono ?_
 rintro e w3 ⟨rfl,hx3⟩
 have X3:=hid (X2.out.tr hx3)
 have ha1:=run_string_add_sum (P:=Tryz.prog) w3 TA TB (by rw [SA.out,SB.out];decide)
 have ha2:=run_string_add_sum (P:=Tryz.prog) w3 (TA++TB) ⟨#[1]⟩ (by rw [ByteArray.size_append,SA.out,SB.out];decide)
 clear hx3 X2 WB
 go_wp2_with fail
 refine (RA.out _ _ EA.out.symm).mono ?_
 rintro e w4 ⟨av,rfl,hav,hx4⟩
 have X4:=hid (X3.out.tr hx4)
 obtain ⟨aa,ac,h,_,_,_⟩:=hav.form
 have h':av=.slice aa 2 ac:=h
 clear h;subst h'
 clear hx4 hav X3 RA
 go_wp2_with fail
 refine (field_any _).mono ?_
 rintro e w5 ⟨rfl,FA,hx5⟩
 have CB:=hid (RB.out w5 _ _ EB.out.symm (FA.v hv10 I0 (i64_small' (by decide) (by decide))))
 have X5:=hid (X4.out.tr hx5)
 have ha3:=run_string_add_sum (P:=Tryz.prog) w5 TA TB (by rw [SA.out,SB.out];decide)
 clear FA hx5 X4 RB
 go_wp2_with fail
 refine CB.out.mono ?_
 rintro e w6 ⟨u,v,rfl,hu,hv,hx6⟩
 obtain ⟨ua,uc,h,_,_,_⟩:=hu.form
 have h':u=.slice ua 4 uc:=h
 clear h;subst h'
 obtain ⟨va,vc,h,_,_,_⟩:=hv.form
 have h':v=.slice va 1 vc:=h
 clear h;subst h'
 have X6:=hid (X5.out.tr hx6)
 have N6:=hid (fun (V:World) (h:Ext (w6.alloc (.cells #[.int .i64 3,.int .i64 1,.slice ua 4 uc,.slice va 1 vc] 25)) V)=>newState h)
 have XA6:=hid (X6.out.tr ((Ext.rf w6).al (.cells #[.int .i64 3,.int .i64 1,.slice ua 4 uc,.slice va 1 vc] 25)))
 clear hu hv hx6 X5 CB X6
 go_wp2_with fail
 refine (WC.out _).mono ?_
 rintro e w7 ⟨rfl,hx7⟩
 have X7:=hid (XA6.out.tr hx7)
 have Q7:=hid hx7
 clear hx7 WC
 go_wp2_with fail
 refine (farm_any _).mono ?_
 rintro e w8 ⟨F,G,p1,q1,r1,s1,rfl,_,FA,hx8⟩
 have CD:=hid (DD.out w8 _ _ (FA.tree hv10) FA.books)
 have X8:=hid (X7.out.tr hx8)
 have Q8:=hid (Q7.out.tr hx8)
 clear FA hx8 DD X7 Q7
 rw [doNo] at CD
 go_wp2_with fail
 refine (ret2_parts CD.out).mono ?_
 rintro e w9 ⟨u,v,h,hu,hv,hx9⟩
 obtain ⟨a9,c9,h2,_,_,_⟩:=hu.form
 have h2':u=.slice a9 0 c9:=h2
 obtain ⟨b9,d9,h3,_,_,_⟩:=hv.form
 have h3':v=.slice b9 0 d9:=h3
 clear h2 h3
 subst h2' h3'
 have h':e=.returned (.tuple #[.agg #[.int .i64 0,.int .i64 0,.slice a9 0 c9,.slice b9 0 d9],.int .i64 7]):=h
 clear h;subst h'
 have hal:=(Ext.rf w9).al (.cells #[.int .i64 0,.int .i64 0,.slice a9 0 c9,.slice b9 0 d9] 25)
 have X9:=hid (X8.out.tr (hx9.tr hal))
 obtain ⟨n0,n1,n2,n3⟩:=N6.out _ (Q8.out.tr (hx9.tr hal))
 have sa:(TA.size:Int)=12:=by rw [SA.out];rfl
 have sb:(TB.size:Int)=8:=by rw [SB.out];rfl
 clear hu hv hx9 hal CD N6 Q8 X8 EA EB XA6
 go_wp2_with fail
 go_ret
 exact ⟨rfl,X9.out⟩
end Go.Proofs.YtdcndkojmflhnaaGreat
