/- The desk's reference, and that Play answers as it does; each theorem names its own conditions. -/
import Derived.Test.YtaekdjbnldlklaaGreatDoorVDeskF
import Derived.Test.YtaekdjbnldlklaaGreatDoorVCutI
set_option linter.unusedVariables false
set_option linter.unusedSimpArgs false
set_option maxRecDepth 100000
set_option maxHeartbeats 40000000
namespace Go.Proofs.YtaekdjbnldlklaaGreatDoor
open _root_.Go.Proofs.Tryz
open Go.RowKit
open List renaming getElem_toArray->zA,getElem_cons_zero->zB,getElem_cons_succ->zC
open Go.Value renaming int->Y,oneCell'->aGr,slice->O
open Go.IntKind renaming i64->Z
open _root_.List renaming length_pos_iff->aHX,getD_eq_getElem?_getD->aGW,mem_of_getElem?->aGC,length_append->aGb,mem_singleton->aHf,take_of_length_le->aHF,length_drop->aI4,getElem?_of_mem->aIS,getElem?_drop->aGG,getLast?_eq_getElem?->aIU,mem_map->aHd,length_take->aHB,length_map->aHC,take_add_one->aHZ,getElem?_map->aHt,getElem?_eq_getElem->aGm,mem_cons_self->aHv,mem_cons_of_mem->aGc
open _root_.Nat renaming add_zero->aGM,le_refl->aGi
open _root_.Option renaming some->M,none->J
open Go.World renaming ownsRow_nil->aGQ,cell?_of_block->aHm,block_lt_of_cell?->aGp
open _root_.Array renaming getElem?_eq_some_iff->aGq
open _root_.Int renaming toNat_natCast->aGK
open Go renaming Calls→y8,Value→y5,World→y4,cell_of_row→y6,heap_alloc_new→y7,info_parts→s8,maxLen→o0,setRow_heap→x5,wpList_append_own→r6,wp_append_own→e7,wp_region_held_drew→v8,wp_store_row→o7
open Go.Value renaming string→b9,bool→zx,pointer→zz
open Go.Obj renaming cells→zt
open Go.Ending renaming returned→zv
theorem Uj (w:y4) (tv bv:y5) (s:aG) (x:By) (hl:aK w tv s.K) (hb:aS w bv s.F) (hs:aI s=0) (hx:x.length<=4096) (cv:x≠kS) :
  y8 prog 18 #[.agg #[s.G,s.H,tv,bv],b9 (tx x)] w (rZ w s tv bv (eC s x)):=by
 obtain⟨wb,dj,X,cE,cL,di⟩:=dW w s tv bv;obtain⟨L,bj,ad,dv,cz,cc⟩:=zl X cE cL dj di hs;obtain⟨qa,qc,rfl,_,_,f2⟩:=hl.i;obtain⟨ba,bc,rfl,_,_,f0⟩:=hb.i;obtain⟨HL,HB,HR⟩:=zq hl hb (by unfold eC;rw[d8 cv]:eC s x=kQ s (fA x));have q0:=Ih (s:=x) (l:=[98,111,111,107,115]) cv;have SP:=I (λj=>aCm x hx j);obtain⟨ws,bt⟩:∃ ws,fA x=ws:=⟨_,rfl⟩;have dn:=I (show ∀ H∈ws,H.length<=4096 from λH hy=>by have:=sH x [] H (by rw[<- bt] at hy;exact hy);simp at this;omega);have dc:ws≠[]:=by rw[<- bt];exact vE x []
 have cq:ws.length<=4097:=by rw[<- bt];have:=pM x [];unfold fA;omega
 rw[bt] at HR SP;obtain⟨a0,hm⟩:∃ a0,ws.length=a0:=⟨_,rfl⟩;have HM:=I hm;rw[hm] at cq;have eb:0<a0:=by rw[<- hm];exact aHX.2 dc
 obtain⟨V,ae⟩:=aV (f:=ws) (k:=0) (by rw[hm];exact eb);obtain⟨cf,bx⟩:=zr ae (by rw[aGW,ae];rfl:ws.getD 0 []=V);obtain⟨h,c9,c8,ci,a3,cj,ay,p1,p2,p3,p4,p5,p6,p7,p8,p9⟩:=cls V;obtain⟨HA,HC,P1,HN⟩:=zp p8 p9 p1 p7;obtain⟨ii,eo,ep,es,et⟩:=s8 Si;clear cv hl hb dj X cE cL di hs bt dc hm ae p1 p7 p8 p9;go_enter func18,ntmps18;go_wp2_with fail;refine(SP _).m ?_;rintro m w2 ⟨bg,rfl,hv,p⟩;rw[dv.o] at p;have bm:=I p;obtain⟨wo,oo,ex,rfl,fd,ei,ek,ct⟩:=hv;rw[HM.o] at ei ek;rw[HM.o];have bQ:=I ct;have c0:=ct 0 V cf;rw[aGM] at c0;clear ct p SP;go_upto_region 13 with fail
 go_cut [12] from 68 to 90 (λc wr=>c=zx ay/\d7 w2 wr)
 case first=>
  rcases HC.o with c|c|c|c|c|c|c <;> cases c
  all_goals
   have hk:=P1.o;clear P1;go_wp2_with (go_at_call 59;refine(dP V _).m ?_;rintro m w3 ⟨rfl,d⟩;obtain rfl:=d.symm;clear d);go_meet
   case rel=>exact⟨rfl,b8 _⟩
 case rest=>
  obtain⟨rfl,af⟩:=hcut;obtain⟨ao,ch⟩:=zr (bm.r af) af;clear c0 af;generalize wc=w3 at *;obtain⟨sk,dh⟩:∃ sk:Nat,(if ay=true then 2 else 1)=sk:=⟨_,rfl⟩;have b5:=I dh;clear dh
  go_upto_if 91 with fail
  go_cut [13] from 91 to 91 (λk wr=>k=Y Z (sk:Int)/\wr=w3)
  case first=>
   have c:=b5.o;cases ay
   all_goals
    subst c;go_wp2_with fail;go_meet
    case rel=>exact⟨rfl,rfl⟩
  obtain⟨rfl,eh⟩:=hcut;subst eh;have f8:1<=sk:=by have:=b5.o;split at this <;> omega
  have f9:sk<=2:=by have:=b5.o;split at this <;> omega
  by_cases da:a0<=sk
  ·have e:=I (by rw[HR.o];unfold kQ;rw[bx.o,HN.o,b5.o,HM.o,c7 da]:eC s x=(s,[],1));have e6:(a0:Int)<=(sk:Int):=by omega
   obtain⟨N,P,K,Q⟩:=bj _ ao;have G:=ad _ ao;go_wp2_with (refine z6 (w+1) #[s.G,s.H,O qa s.K.length qc,O ba s.F.length bc] G ?_);exact lK (L.r ao) HL HB G rfl rfl rfl (by rw[e.o]) (λc=>by cases c)
  have e6:¬ (a0:Int)<=(sk:Int):=by omega
  have cy:=I (show ∀ r,(match cS (ws.drop sk) with|none=>(s,[],1)|some l=>jJ s (ws.getD 0 []) (ws.getD 1 []) l)=r->eC s x=r from λr hr=>by rw[HR.o];unfold kQ;rw[bx.o,HN.o,b5.o,HM.o,d8 da];exact bx▸hr);go_wp2;go_loopw [11,14] (λi d wr=>∃ (k:Nat) (v:List Int),d=Y Z k/\sk<=k/\k<=a0/\Hid (cS ((ws.drop sk).take (k-sk))=M v/\v.length=k-sk/\∀ x∈v,I64 x)/\Hid (wr.ownsRow wc 3 1 i v.length (Ad v))/\Hid (d7 wc wr)) (λi d _=>a0-(intOf d).toNat);exact⟨sk,[],rfl,by omega,by omega,I ⟨by rw[Nat.sub_self];rfl,by simp,λx c=>by cases c⟩,I (aGQ _ _ _ _),I (b8 _)⟩;obtain⟨k,v,rfl,e5,hk,b4,HO,X⟩:=hrel;by_cases e3:k<a0
  ·have e4:=z7 k a0;obtain⟨H,hy⟩:=aV (f:=ws) (k:=k) (by rw[HM.o];exact e3);have z:=(ao.r X);have W:wr ⟨wo,oo+k,J⟩=M (b9 (tx H)):=(ch.r X).c (bQ k H hy);have y:=I (λ(j:y4)=>aAy H (dn H (aGC hy)) j);obtain⟨g1,i⟩:=aCJ HM b4.1 e5 hy;have u:=b4.2.1;by_cases h0:0<=fU H
   ·have R:=I (show cS ((ws.drop sk).take (k+1-sk))=M (v++[fU H])/\(v++[fU H]).length=k+1-sk/\∀ x∈v++[fU H],I64 x from by
     refine⟨g1 h0,by rw[aGb,u];simp;omega,λx hx=>?_⟩;rcases List.mem_append.1 hx with c|c
     ·exact b4.2.2 x c
     rw[aHf.1 c];exact Ya H)
    generalize fU H=q at *;have T:¬ q<0:=by omega
    obtain⟨C,E⟩:=zr (show v.length+1<=o0 by unfold o0;omega) (show (v.length+1)*8<=140737488355328 by omega);clear hy g1 i u z h0;go_wp2_with fail;refine(y _).m ?_;rintro m w5 ⟨rfl,D⟩;have d:=I (X.r D);have a6:=aJ HO D;have F:=I (by have:=d.size;simp;omega:wc.heap.size<=(w5.alloc (zt #[q] 3)).heap.size);clear D;go_wp2_with (at_builtin;refine r6 _ rfl _ _ 74 rfl wc 3 ii _ 1 8 underlying74 eo ep es et rfl (by decide) _ _ _ rfl (a6.alloc _) ⟨w5,0,J⟩ 1 1 [Y Z q] rfl rfl (wN _ rfl _ _) (aAw _ _) C E F ?_);intro v2 W2 B A U;obtain⟨ar,cb⟩:=zr ((d.a (zt #[q] 3)).gr A (λk hk=>bN a6 k hk)) (by rw[uC,aGb];exact B:W2.ownsRow wc 3 1 v2 (v++[q]).length (Ad (v++[q])));clear a6 B A U;go_wp2;go_roundw;exact⟨k+1,v++[q],by go_num,by omega,by omega,R,cb,ar⟩;simp[intOf];omega
   have e:=I (cy (s,[],1) (by rw[i h0]));generalize fU H=q at *;have T:q<0:=by omega
   clear hy g1 i u z h0;go_wp2_with fail;refine(y _).m ?_;rintro m w5 ⟨rfl,D⟩;have d:=I (ao.r (X.r D));obtain⟨N,P,K,Q⟩:=bj _ d;have G:=ad _ d;clear D;go_wp2_with (refine z6 (w+1) #[s.G,s.H,O qa s.K.length qc,O ba s.F.length bc] G ?_);exact lK (L.r d) HL HB G rfl rfl rfl (by rw[e.o]) (λc=>by cases c)
  obtain rfl:k=a0:=by omega
  have e4:=z8 k k;have de:cS (ws.drop sk)=M v:=by
   have:=b4.1;rwa [aHF (by rw[aI4,HM.o];exact aGi _)] at this
  have ah:=I (show ∀ r,(bif h then cK s (jE V) (ws.getD 1 []) v else bif c9 then dS s (ws.getD 1 []) v else bif c8 then lT kZ s (ws.getD 1 []) v else bif ci then lT kY s (ws.getD 1 []) v else bif a3 then gH s v else bif cj then nF s v else(s,[],1))=r->eC s x=r from λr hr=>cy r (by rw[de,bx.o];show jJ s V (ws.getD 1 []) v=r;rw[HA.o];exact hr));obtain⟨n,hn⟩:∃ n,v.length=n:=⟨_,rfl⟩;have dd:n=k-sk:=hn▸b4.2.1;have dp:=I dd;have f4:0<n:=by omega
  have f5:n<=4097:=by omega
  have ce:=I (rP HO b4.2.2 (by omega));obtain⟨na,nc,e9,_,_,_⟩:=ce.i;obtain⟨ab,c1,a4⟩:=zq (ao.r X) (ch.r X) hn;subst e9;have bz:=I (show ∀ r,(O na n nc).ownBlock=M r->w.heap.size+1<r from λr hr=>by
   have:=bN HO r (by rw[hn];exact hr);have:=ao.size;have:=cz.o;omega)
  clear de HO dd;rw[hn];have c0:=c1.c (bQ 0 V cf);rw[aGM] at c0;have ak:=I (λ(hf:¬ jN h c9 c8 ci a3 cj n)=>ah (s,[],1) (by
   unfold jN at hf;rcases HC.o with c|c|c|c|c|c|c <;> cases c <;> simp only[cond_true,cond_false,Bool.or_false,Bool.or_true,Bool.false_or] at hf ⊢
   ·unfold cK;rw[c7 (by rw[a4.o];exact hf)]
   ·unfold dS;rw[c7 (by rw[a4.o];omega)]
   ·unfold lT;rw[c7 (by rw[a4.o];exact hf)]
   ·unfold lT;rw[c7 (by rw[a4.o];exact hf)]
   ·unfold gH;rw[c7 (by rw[a4.o];exact hf)]
   unfold nF;rw[c7 (by rw[a4.o];exact hf)]))
  go_upto_block 4 with fail
  go_cut [] from 118 to 196 (λj=>jN h c9 c8 ci a3 cj n/\j=wr)
  case first=>
   obtain⟨N,P,K,Q⟩:=bj _ ab;have G:=ad _ ab;have hk:=P1.o;rcases HC.o with c|c|c|c|c|c|c <;> cases c
   ·as_aux_lemma=>
    by_cases y:n % 2=1
    ·have i:((n:Int) % 2 == 1)=true:=by simp;omega
     go_wp2_with (first|(go_at_call 59;refine(dP V _).m ?_;rintro m d ⟨rfl,A⟩;obtain rfl:=A.symm;clear A)|(refine z6 (w+1) #[s.G,s.H,O qa s.K.length qc,O ba s.F.length bc] G ?_));exact lK (L.r ab) HL HB G rfl rfl rfl (by rw[ak (λc=>by unfold jN at c;simp at c <;> omega)]) (λc=>by cases c)
    have i:((n:Int) % 2 == 1)=false:=by simp;omega
    by_cases u:n<4
    ·have e2:(n:Int)<4:=by omega
     go_wp2_with (first|(go_at_call 59;refine(dP V _).m ?_;rintro m d ⟨rfl,A⟩;obtain rfl:=A.symm;clear A)|(refine z6 (w+1) #[s.G,s.H,O qa s.K.length qc,O ba s.F.length bc] G ?_));exact lK (L.r ab) HL HB G rfl rfl rfl (by rw[ak (λc=>by unfold jN at c;simp at c <;> omega)]) (λc=>by cases c)
    have e2:¬ (n:Int)<4:=by omega
    by_cases e:8<n
    ·have e1:(n:Int)>8:=by omega
     go_wp2_with (first|(go_at_call 59;refine(dP V _).m ?_;rintro m d ⟨rfl,A⟩;obtain rfl:=A.symm;clear A)|(refine z6 (w+1) #[s.G,s.H,O qa s.K.length qc,O ba s.F.length bc] G ?_));exact lK (L.r ab) HL HB G rfl rfl rfl (by rw[ak (λc=>by unfold jN at c;simp at c <;> omega)]) (λc=>by cases c)
    have e1:¬ (n:Int)>8:=by omega
    go_wp2_with (go_at_call 59;refine(dP V _).m ?_;rintro m d ⟨rfl,A⟩;obtain rfl:=A.symm;clear A);go_meet
    case rel=>exact⟨by unfold jN;simp;omega,rfl⟩
   ·as_aux_lemma=>
    by_cases u:n % 2=1
    ·have e2:((n:Int) % 2 == 1)=true:=by simp;omega
     go_wp2_with (first|(go_at_call 59;refine(dP V _).m ?_;rintro m d ⟨rfl,A⟩;obtain rfl:=A.symm;clear A)|(refine z6 (w+1) #[s.G,s.H,O qa s.K.length qc,O ba s.F.length bc] G ?_));exact lK (L.r ab) HL HB G rfl rfl rfl (by rw[ak (λc=>by unfold jN at c;simp at c <;> omega)]) (λc=>by cases c)
    have e2:((n:Int) % 2 == 1)=false:=by simp;omega
    by_cases e:96<n
    ·have e1:(n:Int)>96:=by omega
     go_wp2_with (first|(go_at_call 59;refine(dP V _).m ?_;rintro m d ⟨rfl,A⟩;obtain rfl:=A.symm;clear A)|(refine z6 (w+1) #[s.G,s.H,O qa s.K.length qc,O ba s.F.length bc] G ?_));exact lK (L.r ab) HL HB G rfl rfl rfl (by rw[ak (λc=>by unfold jN at c;simp at c <;> omega)]) (λc=>by cases c)
    have e1:¬ (n:Int)>96:=by omega
    go_wp2_with (go_at_call 59;refine(dP V _).m ?_;rintro m d ⟨rfl,A⟩;obtain rfl:=A.symm;clear A);go_meet
    case rel=>exact⟨by unfold jN;simp;omega,rfl⟩
   ·as_aux_lemma=>
    by_cases e:¬ n=1
    ·have e1:((n:Int) == 1)=false:=by simp;omega
     go_wp2_with (first|(go_at_call 59;refine(dP V _).m ?_;rintro m d ⟨rfl,A⟩;obtain rfl:=A.symm;clear A)|(refine z6 (w+1) #[s.G,s.H,O qa s.K.length qc,O ba s.F.length bc] G ?_));exact lK (L.r ab) HL HB G rfl rfl rfl (by rw[ak (λc=>by unfold jN at c;simp at c <;> omega)]) (λc=>by cases c)
    have e1:((n:Int) == 1)=true:=by simp;omega
    go_wp2_with (go_at_call 59;refine(dP V _).m ?_;rintro m d ⟨rfl,A⟩;obtain rfl:=A.symm;clear A);go_meet
    case rel=>exact⟨by unfold jN;simp;omega,rfl⟩
   ·as_aux_lemma=>
    by_cases e:¬ n=1
    ·have e1:((n:Int) == 1)=false:=by simp;omega
     go_wp2_with (first|(go_at_call 59;refine(dP V _).m ?_;rintro m d ⟨rfl,A⟩;obtain rfl:=A.symm;clear A)|(refine z6 (w+1) #[s.G,s.H,O qa s.K.length qc,O ba s.F.length bc] G ?_));exact lK (L.r ab) HL HB G rfl rfl rfl (by rw[ak (λc=>by unfold jN at c;simp at c <;> omega)]) (λc=>by cases c)
    have e1:((n:Int) == 1)=true:=by simp;omega
    go_wp2_with (go_at_call 59;refine(dP V _).m ?_;rintro m d ⟨rfl,A⟩;obtain rfl:=A.symm;clear A);go_meet
    case rel=>exact⟨by unfold jN;simp;omega,rfl⟩
   ·as_aux_lemma=>
    by_cases e:¬ n=1
    ·have e1:((n:Int) == 1)=false:=by simp;omega
     go_wp2_with (first|(go_at_call 59;refine(dP V _).m ?_;rintro m d ⟨rfl,A⟩;obtain rfl:=A.symm;clear A)|(refine z6 (w+1) #[s.G,s.H,O qa s.K.length qc,O ba s.F.length bc] G ?_));exact lK (L.r ab) HL HB G rfl rfl rfl (by rw[ak (λc=>by unfold jN at c;simp at c <;> omega)]) (λc=>by cases c)
    have e1:((n:Int) == 1)=true:=by simp;omega
    go_wp2_with (go_at_call 59;refine(dP V _).m ?_;rintro m d ⟨rfl,A⟩;obtain rfl:=A.symm;clear A);go_meet
    case rel=>exact⟨by unfold jN;simp;omega,rfl⟩
   ·as_aux_lemma=>
    by_cases e:¬ n=1
    ·have e1:((n:Int) == 1)=false:=by simp;omega
     go_wp2_with (first|(go_at_call 59;refine(dP V _).m ?_;rintro m d ⟨rfl,A⟩;obtain rfl:=A.symm;clear A)|(refine z6 (w+1) #[s.G,s.H,O qa s.K.length qc,O ba s.F.length bc] G ?_));exact lK (L.r ab) HL HB G rfl rfl rfl (by rw[ak (λc=>by unfold jN at c;simp at c <;> omega)]) (λc=>by cases c)
    have e1:((n:Int) == 1)=true:=by simp;omega
    go_wp2_with (go_at_call 59;refine(dP V _).m ?_;rintro m d ⟨rfl,A⟩;obtain rfl:=A.symm;clear A);go_meet
    case rel=>exact⟨by unfold jN;simp;omega,rfl⟩
   as_aux_lemma=>
   go_wp2_with (first|(go_at_call 59;refine(dP V _).m ?_;rintro m d ⟨rfl,A⟩;obtain rfl:=A.symm;clear A)|(refine z6 (w+1) #[s.G,s.H,O qa s.K.length qc,O ba s.F.length bc] G ?_));exact lK (L.r ab) HL HB G rfl rfl rfl (by rw[ak (λc=>by unfold jN at c;simp at c <;> omega)]) (λc=>by cases c)
  obtain⟨ac,A⟩:=hcut;subst A;have HF:=I ac;clear ac ak;generalize wc=w7 at *;obtain⟨C,dg⟩:∃ q:Int,(if ay=true then cT s.K (ws.getD 1 []) else -1)=q:=⟨_,rfl⟩;have an:=I dg;clear dg;obtain⟨c6,_,_⟩:=eR cc;have dq:=I c6;obtain⟨qb,qo,fg,eq,_,_,f7,d2⟩:=jB HL c6.n1;obtain⟨ds,cw⟩:=zr d2 c6.n5;cases eq;clear c6 d2;go_upto_block 5 with fail
  go_cut [17,18] from 197 to 217 (λq y j=>q=Y Z C/\d7 w7 j)
  case first=>
   obtain⟨N,P,K,Q⟩:=bj _ ab;clear c0;go_wp2;go_loopw [17,18] (λe d wr=>∃ (y:Nat) (q:Int),d=Y Z y/\e=Y Z q/\y<=s.K.length/\Hid (aC5 s.K (ws.getD 1 []) y q)/\Hid (ay=false->q=-1)/\Hid (d7 w7 wr)) (λ_ d _=>s.K.length-(intOf d).toNat);exact⟨0,-1,rfl,rfl,by omega,I (.inl ⟨rfl,λB H c=>by omega⟩),I (λ_=>rfl),I (b8 _)⟩;obtain⟨y,q,rfl,rfl,hi,W,a1,d⟩:=hrel;have b2:=d.c K;by_cases cn:y<s.K.length
   ·have a2:=z7 y s.K.length;cases e:ay with
    | false=>
     have R:=I (by rw[a1 e,<- an.o,e];rfl:q=C);subst e;go_wp2_with fail;go_meet
     case rel=>exact⟨by rw[R.o],d⟩
    | true=>
     subst e;obtain⟨H,hy⟩:=aV (f:=s.K) (k:=y) cn;obtain⟨F,_⟩:=dG.m _ _ _ _ _ ((L.r ab).r d) (ds y H hy);have cq:1<k:=by have:=b5.o;simp at this;have:=dp.o;omega
     obtain⟨u,E⟩:=aV (f:=ws) (k:=1) (by rw[HM.o];exact cq);have z:ws.getD 1 []=u:=by rw[aGW,E];rfl
     have d1:=(c1.r d).c (bQ 1 u E);by_cases he:bs H.Q=u
     ·have i:H.Q=tx u:=by rw[<- he,oM]
      have a8:=Dh i;have T:=I (show aC5 s.K (ws.getD 1 []) (y+1) (y:Int) from .inr ⟨y,H,rfl,hy,by rw[z];exact he⟩);clear hy E z he i;go_wp2;go_quiet (fail);have U:=I ((d.r ((b8 wr).dn nq)));go_wp2;go_roundw;exact⟨y+1,y,by go_num,rfl,by omega,T,I (λc=>by cases c),U⟩;simp[intOf];omega
     have i:¬ H.Q=tx u:=λm=>he (by rw[m,mM]);have a8:=xG i;have T:=I (show aC5 s.K (ws.getD 1 []) (y+1) q from by
      rcases W.o with ⟨h1,h2⟩|h1
      ·refine .inl ⟨h1,λB a7 hj hz=>?_⟩;by_cases a5:B=y
       ·subst a5;rw[hy] at hz;cases hz;rw[z];exact he
       exact h2 B a7 (by omega) hz
      exact .inr h1)
     clear hy E z he i;go_wp2;go_quiet (fail);have U:=I ((d.r ((b8 wr).dn nq)));go_wp2;go_roundw;exact⟨y+1,q,by go_num,rfl,by omega,T,I (λc=>by cases c),U⟩;simp[intOf];omega
   have i:=I (show y=s.K.length by omega);have a2:=z8 y s.K.length;have R:=I (show q=C from by
    rw[<- an.o];cases e:ay with
    | false=>exact a1 e
    | true=>rw[c7 rfl];exact aCV dq (by rw[<- i.o];exact W))
   go_wp2_with fail;go_meet
   case rel=>exact⟨by rw[R.o],d⟩
  obtain⟨rfl,c4⟩:=hcut;obtain⟨a2,b6,dx⟩:=zq (ab.r c4) (ce.m c4) (c1.r c4);have c0:=dx.c (bQ 0 V cf);rw[aGM] at c0;clear c4 ab ce c1 ch ao;obtain⟨N,P,K,Q⟩:=bj _ a2;have G:=ad _ a2;have ac:=HF.o;have fb:=cz.o;have cu:w.heap.size+1<wc.heap.size:=by have:=a2.size;omega
  unfold jN at ac;rcases HC.o with c|c|c|c|c|c|c <;> cases c <;> simp only[cond_true,cond_false,Bool.or_false,Bool.or_true,Bool.false_or] at ac ah
  ·as_aux_lemma=>
   obtain⟨a7,hz⟩:∃ a7,n=(a7+1)*2:=⟨n / 2-1,by omega⟩;have el:1<=a7:=by omega
   have em:a7<=3:=by omega
   have bn:=I hz;have am:v.length % 2=0/\4<=v.length/\v.length<=8:=by rw[a4.o];exact ac
   by_cases hq:C<0
   ·have R:=I (ah (s,[],6) (by show cK s _ _ _=_;unfold cK;rw[d8 (λc=>c am),c7 (by rw[<- an.o] at hq;exact hq)]));go_wp2_with (refine z6 (w+1) #[s.G,s.H,O (M ⟨qb,qo,J⟩) s.K.length qc,O ba s.F.length bc] G ?_);exact lK (L.r a2) HL HB G rfl rfl rfl (by rw[R.o]) (λc=>by cases c)
   as_aux_lemma=>
   have a9:cT s.K (ws.getD 1 [])=C:=an.o;obtain⟨T,lo,lc,e8,_,bp,a5⟩:=eM b6 (λm=>by rw[m] at am;simp at am);obtain⟨u,b0⟩:=aV (f:=v) (k:=0) (by omega);obtain⟨l1,co⟩:=aV (f:=v) (k:=1) (by omega);obtain⟨g0,i0⟩:=a5 0 u b0;obtain⟨g1,i1⟩:=a5 1 l1 co;rw[aGM] at g0;have d4:v.getD 0 0=u:=by rw[aGW,b0];rfl
   have d5:v.getD 1 0=l1:=by rw[aGW,co];rfl
   obtain⟨r,hr⟩:∃ r,(⟨C,u,l1,jE V,dC Piece.mk (v.drop 2)⟩:aF)=r:=⟨_,rfl⟩;have R:=I (ah (if(aW s r).2.2=0 then((aW s r).1,kK ((aW s r).2.1::qJ (aW s r).1),0) else(s,[],(aW s r).2.2)) (by show cK s _ _ _=_;unfold cK;rw[d8 (λc=>c am),d8 (by rw[a9];exact hq),a9,d4,d5,hr]));have br:I64 C:=by
    rcases pV s.K (ws.getD 1 []) with h0|⟨B,h0,h1⟩
    ·rw[a9] at h0;omega
    rw[a9] at h0;have:=cw.o;exact I64.of (by omega) (by omega)
   have d6:I64 (jE V):=by
                   unfold jE;repeat' split
                   all_goals exact I64.of (by omega) (by omega)
   obtain⟨dt,bi⟩:=zr (tT (mk:=Piece.mk) (f:=Piece.Len) (g:=Piece.N) (λ_ _=>⟨rfl,rfl⟩) (v.drop 2) (λH hy=>by obtain⟨B,hj⟩:=aIS (List.mem_of_mem_drop hy);exact(a5 B H hj).2)) (Ba Piece.mk a7 (v.drop 2) (by rw[aI4,a4.o,hz];omega));have SB:=I (λ(j:y4) (c:d7 wb j) (pv:y5) (hp:aM j pv (dC Piece.mk (v.drop 2)))=>show y8 prog 67 #[.agg #[s.G,s.H,O (M ⟨qb,qo,J⟩) s.K.length qc,O ba s.F.length bc],.agg #[C,u,l1,Y Z (jE V),pv]] j (dF j (aW s r)) from by
    have:=Vp j _ _ pv s r (HL.m (L.r c)) (HB.m (L.r c)) (by rw[<- hr];exact hp) (by rw[<- hr];exact⟨br,i0,i1,d6⟩);rw[<- hr] at this ⊢;exact this)
   have du:=I (λc=>sG (s:=s) (r:=r) c);rw[a4.o] at e8;cases e8;have bh:=I a5;obtain⟨ip,en,eu,ev,ew⟩:=s8 Is;have n0:0<n:=by omega
   have n1:(1:Int)<(n:Int):=by omega
   have n2:1<n:=by omega
   clear a9 d4 d5 hr br d6 a5 am ac hz i0 i1 b0 co;generalize aW s r=sr at *;obtain⟨S,id,er⟩:=sr;generalize wc=wd at *;go_upto_region 68 with fail
   go_cut [32] from 332 to 343 (λbw j=>∃ aa:Nat,bw=zz (M ⟨aa,0,J⟩)/\Hid (j.heap[aa]?=M (zt #[C,u,l1,Y Z (jE V),O J 0 0] 77 (0,0)))/\Hid (d7 wd j)/\wd<=aa)
   case first=>
    refine v8 (S:=λz=>z ⟨T,lo,J⟩=M (Y Z u)/\z ⟨T,lo+1,J⟩=M (Y Z l1)/\z ⟨wo,oo,J⟩=M (b9 (tx V))) (by kernel_rfl) ⟨(b8 wd).dr.c g0,(b8 wd).dr.c g1,(b8 wd).dr.c c0⟩ (λi=>?_);refine tkH 0 ?_;refine tkH 1 ?_;refine tkH 2 ?_;refine tkH 3 ?_;refine tkH 4 ?_;refine tkH 5 ?_;refine tkH 6 ?_;refine tkH 7 ?_;refine tkH 8 ?_;refine tkH 9 ?_;refine wpAnyH_ready (rs:=[10,12]) (by kernel_rfl) (by simp) ?_;refine AllReadyH.cons rfl (λh e=>?_) (AllReadyH.cons rfl (λh e=>?_) AllReadyH.nil)
    all_goals simp only[zA,zB,zC]
    ·go_simp;refine(dP V _).m ?_;rintro m E ⟨rfl,a8⟩;have d:d7 wd E:=a8▸(b8 wd).dr;clear a8;go_wp2_with fail;refine e.out _ _ (⟨d.c g0,d.c g1,d.c c0⟩) λi=>?_
     clear e h;refine tkH 11 ?_;refine goH 12 λh e=>?_;simp only[zA,zB,zC];go_simp;have hn:=y7 E (zt #[Y Z 0,Y Z 0,Y Z 0,Y Z 0,O J 0 0] 77);have p:=d.a (zt #[Y Z 0,Y Z 0,Y Z 0,Y Z 0,O J 0 0] 77);refine e.out _ _ (⟨p.c g0,p.c g1,p.c c0⟩) λi=>?_
     clear e h;refine goH 13 λh e=>?_;simp only[zA,zB,zC];rw[c7 (by rfl)];refine o7 77 _ _ rfl E #[C,u,l1,Y Z (jE V),O J 0 0] rfl rfl 77 _ hn size77 rfl (by simp[aGr]) ?_;have af:=p.sr (b:=E) d.size #[C,u,l1,Y Z (jE V),O J 0 0];refine e.out _ _ (⟨af.c g0,af.c g1,af.c c0⟩) λi=>?_
     clear e h;refine dnH ?_;go_wp2_with fail;go_meet
     case rel=>exact⟨_,rfl,I (x5 _ _ _ _ _ _ hn),I af,d.size⟩
    go_simp;have hn:((wd.alloc (zt #[Y Z 0,Y Z 0,Y Z 0,Y Z 0,O J 0 0] 77)).drew).heap[wd.heap.size]?=M (zt #[Y Z 0,Y Z 0,Y Z 0,Y Z 0,O J 0 0] 77 (0,0)):=y7 wd _;have p:=((b8 wd).a (zt #[Y Z 0,Y Z 0,Y Z 0,Y Z 0,O J 0 0] 77)).dr;refine e.out _ _ (⟨p.c g0,p.c g1,p.c c0⟩) λi=>?_
    clear e h;refine goH 10 λh e=>?_;simp only[zA,zB,zC];go_simp;refine(dP V _).m ?_;rintro m E ⟨rfl,a8⟩;have ap:E.heap[wd.heap.size]?=M (zt #[Y Z 0,Y Z 0,Y Z 0,Y Z 0,O J 0 0] 77 (0,0)):=a8▸hn;have d:d7 wd E:=a8▸p;clear a8
    go_wp2_with fail;refine e.out _ _ (⟨d.c g0,d.c g1,d.c c0⟩) λi=>?_
    clear e h;refine tkH 11 ?_;refine goH 13 λh e=>?_;simp only[zA,zB,zC];rw[c7 (by rfl)];refine o7 77 _ _ rfl wd #[C,u,l1,Y Z (jE V),O J 0 0] rfl rfl 77 _ ap size77 rfl (by simp[aGr]) ?_;have af:=d.sr (b:=wd) (aGi _) #[C,u,l1,Y Z (jE V),O J 0 0];refine e.out _ _ (⟨af.c g0,af.c g1,af.c c0⟩) λi=>?_
    clear e h;refine dnH ?_;go_wp2_with fail;go_meet
    case rel=>exact⟨_,rfl,I (x5 _ _ _ _ _ _ ap),I af,aGi _⟩
   obtain⟨aa,rfl,HR,cg,dA⟩:=hcut;have eT:aa<wc.heap.size:=(aGq.1 HR).1;clear g0 g1 c0;go_wp2;go_loopw [33] (λal j=>∃ (y B:Nat) (pv:y5),al=Y Z (B:Int)/\Hid (B=y*2+2)/\y<=a7/\Hid (j.heap[aa]?=M (zt #[C,u,l1,Y Z (jE V),pv] 77 (0,0)))/\Hid (j.ownsRow wc 110 2 pv y (bH Piece.Len Piece.N (dC Piece.mk ((v.drop 2).take (y*2)))))/\Hid (d7 wd j)/\wc.heap.size<=j.heap.size) (λal _=>(a7+1)*2-(intOf al).toNat);exact⟨0,2,_,rfl,I rfl,by omega,HR,I (aGQ _ _ _ _),cg,aGi _⟩;obtain⟨y,B,pv,rfl,HJ,hi,av,HO,X,fe⟩:=hrel;by_cases cn:y<a7
   ·have aw:=HJ.o;have hz:=bn.o;obtain⟨p0,b1⟩:=aV (f:=v) (k:=B) (by rw[a4.o];omega);obtain⟨p1,aj⟩:=aV (f:=v) (k:=B+1) (by rw[a4.o];omega);have bk:=I (sJ Piece.mk (v.drop 2) y (a:=p0) (b:=p1) (by rw[aGG,show 2+y*2=B by omega];exact b1) (by rw[aGG,show 2+(y*2+1)=B+1 by omega];exact aj));have j0:=z7 B n;have j9:B<n:=by omega
    obtain⟨q,b3⟩:∃ q,B+1=q:=⟨_,rfl⟩;rw[b3] at aj;have j8:q<n:=by omega
    have j7:=z7 q n;have ef:IntKind.i64.wrap ((B:Int)+1)=(q:Int):=by rw[IntKind.wrap_i64];omega
    have eg:IntKind.i64.wrap ((B:Int)+2)=(B:Int)+2:=by rw[IntKind.wrap_i64];omega
    have F:=X.c (bh _ _ b1).1;have d1:=X.c (bh _ _ aj).1;have bu:T<wr.heap.size:=by have:=X.size;omega
    have a6:=HO.o;obtain⟨pa,pc,rfl⟩:=lJ a6;have cR:=y6 _ _ 4 _ _ _ av;have bo:T<wc.heap.size:=by have:=cg.size;omega
    clear b1 aj aw hz b3;go_wp2_with fail;refine cN 15 (λz=>z ⟨aa,4,J⟩=M (O pa y pc)/\z ⟨T,lo+B,J⟩=M (Y Z p0)/\z ⟨T,lo+q,J⟩=M (Y Z p1)) (by kernel_rfl) ⟨cR,F,d1⟩ (λi=>?_);refine tkT 0 ?_;refine tkT 1 ?_;refine tkT 2 ?_;refine tkT 3 ?_;refine tkT 4 ?_;refine tkT 5 ?_;refine tkT 6 ?_;refine tkT 7 ?_;refine tkT 8 ?_;refine tkT 9 ?_;refine tkT 10 ?_;refine tkT 11 ?_;refine goT 12 λh e=>?_;simp only[zA,zB,zC];go_simp;obtain⟨E,a8⟩:∃ E,(wr.alloc (zt #[p0,p1] 110)).drew=E:=⟨_,rfl⟩;have ap:∀ (k:Nat) ax,[Y .i64 p0,Y .i64 p1][k]?=M ax->E ((⟨wr,0,J⟩:Addr).add k)=M ax:=a8▸xF wr rfl (Y Z p0) (Y Z p1) 110;have d:d7 wr E:=a8▸((b8 wr).a _).dr;have au:=aJ a6 d;rw[a8];refine e.out _ _ (⟨d.c cR,d.c F,d.c d1⟩) λi=>?_
    clear e h;refine goT 13 λh e=>?_;simp only[zA,zB,zC];refine e7 _ _ _ _ (by rfl) wc 110 ip _ 2 16 underlying75 en eu ev ew rfl (by decide) (O pa y pc) y _ (by rfl) au ⟨wr,0,J⟩ 1 1 [Y Z p0,Y Z p1] (by rfl) (by rfl) ap (xE _ _ _ _) (by unfold o0;omega) (by omega) (by have:=d.size;omega) ?_;intro v2 W2 bq az ed;have ag:∀ r,(O pa y pc).ownBlock=M r->wc.heap.size<=r:=λr hr=>bN au r hr;have a1:=(az.block aa (by have:=d.size;omega) (λm=>by have:=ag _ m.symm;omega)).trans (aO av d);have p:d7 wd W2:=(X.r d).gr az (λr hr=>by have:=ag r hr;have:=cg.size;omega);have be:=y6 _ _ 4 _ _ _ a1;have bl:=frozen_of_row W2 aa 4 _ _ a1;obtain⟨W,U,rfl⟩:=lJ bq;have aq:=az.block T (by have:=d.size;omega) (λm=>by have:=ag _ m.symm;omega);refine e.out _ _ (⟨be,(aHm (a:=⟨T,lo+B,J⟩) aq).trans i.2.1,(aHm (a:=⟨T,lo+q,J⟩) aq).trans i.2.2⟩) λi=>?_
    clear e h;refine tkT 14 ?_;refine laT λh e=>?_;simp only[zA,zB,zC];go_simp;refine e.out _ _ ?_;clear e h;have ai:=aN W2 aa 4 (O W (y+1) U);have bd:=I (heap_setCell_same W2 aa 4 _ _ (O W (y+1) U) a1);have bb:=I (show (W2.setCell ⟨aa,4,J⟩ (O W (y+1) U)).ownsRow wc 110 2 (O W (y+1) U) (y+1) (bH Piece.Len Piece.N (dC Piece.mk ((v.drop 2).take ((y+1)*2)))) from by
     rw[bk.o,lS];exact mK bq (jM.turn (q:=aa) ai (λr m=>(b7 m).symm)) (by omega))
    have ao:=I (p.se (b:=aa) (o:=4) dA (O W (y+1) U));have bf:wc.heap.size<=(W2.setCell ⟨aa,4,J⟩ (O W (y+1) U)).heap.size:=by have:=d.size;have:=az.size;have:=ai.size;omega
    go_wp2;go_roundw;exact⟨y+1,B+2,_,by go_num,I (by have:=HJ.o;omega),by omega,bd,bb,ao,bf⟩;simp[intOf];have:=HJ.o;omega
   obtain rfl:y=a7:=by omega
   have aw:=HJ.o;have hz:=bn.o;have ea:=z8 B n;have a6:=HO.o;rw[aHF (by rw[aI4,a4.o,hz];omega)] at a6;have dr:=I (show aM wr pv (dC Piece.mk (v.drop 2)) from bL (by rw[bi.o];exact a6) dt (by rw[bi.o];omega));obtain⟨pa,pc,rfl⟩:=lJ a6;have bd:=X.c N;have be:=X.c P;have b2:=X.c K;have bf:=X.c Q;have r0:=y6 _ _ 0 _ _ _ av;have r1:=y6 _ _ 1 _ _ _ av;have r2:=y6 _ _ 2 _ _ _ av;have r3:=y6 _ _ 3 _ _ _ av;have r4:=y6 _ _ 4 _ _ _ av;have cF:=I (a2.r X);clear a6 aw hz G;go_wp2_with fail;refine(SB _ cF _ dr).m ?_;rintro m w5 ⟨u1,v1,rfl,hS,D⟩;obtain⟨ua,uc,e1,_⟩:=hS.tree.i;obtain⟨W,U,e2,_⟩:=hS.books.i;subst e1 e2;have R:=I (show eC s x=if er=0 then(S,kK (id::qJ S),0) else(s,[],er) from R.o);obtain⟨w6,aq⟩:∃ w6,w5.alloc (zt #[S.G,S.H,O ua S.K.length uc,O W S.F.length U] 34)=w6:=⟨_,rfl⟩;have ag:d7 w5 w6:=aq▸(b8 w5).a _;have a1:w6.heap[w5.heap.size]?=M (zt #[S.G,S.H,O ua S.K.length uc,O W S.F.length U] 34 (0,0)):=aq▸y7 w5 _;have c2:StS wd w6 (O ua S.K.length uc) (O W S.F.length U) S:=((hS:StS wr w5 _ _ S).sink X.size).e ag;have ar:=I (cF.r (D.r ag));have bu:=ad _ ar;have ee:wd.heap.size<=w5.heap.size:=by have:=X.size;have:=D.size;omega
   have ej:w.heap.size+1<wd.heap.size:=by have:=a2.size;omega
   have bb:=I aq;replace bd:=(D.r ag).c bd;replace be:=(D.r ag).c be;replace b2:=(D.r ag).c b2;replace bf:=(D.r ag).c bf;clear hS D ag r0 r1 r2 r3 r4 N P K Q;rw[<- aq] at bd be b2 bf bu;clear aq;by_cases he:er=0
   ·subst he;obtain⟨cr,_,xb,bo,df,dB⟩:=du rfl;obtain⟨a0,hm⟩:∃ a0,S.F.length=a0+1:=by
     cases hb:S.F with
     | nil=>rw[show (S,id,(0:Int)).1.F=S.F from rfl,hb] at bo;cases bo
     | cons H r=>exact⟨r.length,rfl⟩
    have c5:S.F[a0]?=M xb:=by
     have h1:S.F.getLast?=M xb:=bo;rw[aIU,hm] at h1;exact h1
    have d9:qJ S=xb.L.map (·.At):=by unfold qJ;rw[show S.F.getLast?=M xb from bo]
    rw[hm] at a1;obtain⟨dm,cx⟩:=zr d9 df;have x0:=y6 _ _ 0 _ _ _ a1;have x1:=y6 _ _ 1 _ _ _ a1;have x2:=y6 _ _ 2 _ _ _ a1;have x3:=y6 _ _ 3 _ _ _ a1;rcases c2.books with ⟨e9,_⟩|⟨vb,vo,fh,e9,_,_,f3,fa,d0⟩
    ·rw[e9] at c5;simp at c5
    rw[hm] at e9;cases e9;obtain⟨ey,⟨qs,bv,rfl,⟨ff,rfl,_⟩,cm,_⟩,d3⟩:=d0 a0 xb c5;have ck:=d3 6 bv rfl;obtain⟨dy,dz,rfl,_,_,_⟩:=cm.i;have dl:=I cm;obtain⟨bl,cl⟩:∃ bl,xb.L.length=bl:=⟨_,rfl⟩;have ca:=I cl;rw[cl] at ck dB;have fc:IntKind.i64.wrap (a0:Int)=(a0:Int):=by rw[IntKind.wrap_i64];omega
    have DG:=I (λ(j:y4)=>lW id cr.1 cr.2 j);have f6:=pR cr;rw[hm] at c2;have cd:=I c2;have cs:=bb.o;rw[hm] at cs;have bb:=I cs;rw[hm];clear cs cm c5 bo cl d0 d3 d9 df hm c2 a1;go_wp2_with fail;rw[bb.o];refine(DG _).m ?_;rintro m w7 ⟨rfl,b3⟩;have bR:=I b3;replace x0:=b3.c x0;replace x1:=b3.c x1;replace x2:=b3.c x2;replace x3:=b3.c x3;replace ck:=b3.c ck;clear b3 bd be b2 bf bu;go_wp2;go_loopw [37,39] (λtv al wr=>∃ k:Nat,al=Y Z k/\k<=bl/\tv=b9 (tx (Lib.itoa id++cY ((xb.L.map (·.At)).take k)))/\Hid (d7 w7 wr)) (λtv al _=>bl-(intOf al).toNat);exact⟨0,rfl,by omega,by simp[cY],I (b8 _)⟩;obtain⟨k,rfl,hk,rfl,au⟩:=hrel;by_cases dT:k<bl
    ·have e0:=z7 k bl;obtain⟨H,hy⟩:=aV (f:=xb.L) (k:=k) (by rw[ca.o];exact dT);rcases dl.o with ⟨h9,_⟩|⟨ez,eN,eL,e8,_,_,_,f1,cR⟩
     ·rw[h9] at hy;simp at hy
     cases e8;obtain⟨F,d1,_,_⟩:=E2.m _ _ _ _ _ (bR.r au) (cR k H hy);have c3:=cx H (aGC hy);have DY:=I (λ(j:y4)=>lW H.At c3.1 c3.2 j);have dD:=pR c3;have db:=jD ((xb.L.map (·.At)).take k) (λa0 hm=>by
      obtain⟨z9,dk,rfl⟩:=aHd.1 (List.mem_of_mem_take hm);exact cx z9 dk)
     rw[aHB,aHC] at db;have ec:min k xb.L.length<=3:=by rw[ca.o];omega
     have bk:=I (show cY ((xb.L.map (·.At)).take (k+1))=cY ((xb.L.map (·.At)).take k)++32::Lib.itoa H.At from by
      rw[aHZ,aHt,hy];exact Mt _ _)
     generalize cY ((xb.L.map (·.At)).take k)=LL at *;have q1:¬ 9223372036854775807<(tx (Lib.itoa id++LL)).size+1:=by rw[aP,aGb];omega
     have q2:¬ 9223372036854775807<(tx (Lib.itoa id++LL)).size+1+(tx (Lib.itoa H.At)).size:=by rw[aP,aP,aGb];omega
     have HF:=I (show (tx (Lib.itoa id++LL)++(⟨#[32]⟩:ByteArray))++tx (Lib.itoa H.At)=tx (Lib.itoa id++(LL++32::Lib.itoa H.At)) from by
      rw[show (⟨#[32]⟩:ByteArray)=tx [32] from rfl,gJ,gJ];simp)
     clear hy cR c3 dD db ec;go_wp2_with (go_at_call 19;refine(DY _).m ?_;rintro m w8 ⟨rfl,dk⟩;have dw:=I (au.r dk);clear dk);go_roundw;exact⟨k+1,by go_num,by omega,by rw[HF.o,bk.o],dw⟩;simp[intOf];omega
    obtain rfl:k=bl:=by omega
    have e0:=z8 k k;have db:(xb.L.map (·.At)).take k=xb.L.map (·.At):=aHF (by rw[aHC,ca.o];exact aGi _);have cR:=I (show Lib.itoa id++cY ((xb.L.map (·.At)).take k)=kK (id::qJ S) from by
     rw[db,dm.o];have c:=Bc id (xb.L.map (·.At));have h2:cY (id::xb.L.map (·.At))=32::(Lib.itoa id++cY (xb.L.map (·.At))):=by simp[cY]
     rw[h2] at c;exact(List.cons.inj c).2)
    have c3:=ad _ (ar.r (bR.r au));replace x0:=au.c x0;replace x1:=au.c x1;replace x2:=au.c x2;replace x3:=au.c x3;rw[cR.o];go_wp2_with (refine z6 (w+1) #[S.G,S.H,O ua S.K.length uc,O (M ⟨vb,vo,J⟩) (a0+1) U] c3 ?_);exact Up (L.r (ar.r (bR.r au))) ej (cd.e (bR.r au)) c3 rfl rfl rfl (mQ (s:=s) R.o).1 (mQ (s:=s) R.o).2
   have bR:(er != 0)=true:=by simpa using he
   go_wp2_with (refine z6 (w+1) #[s.G,s.H,O (M ⟨qb,qo,J⟩) s.K.length qc,O ba s.F.length bc] bu ?_);rw[bb.o] at bu ⊢;exact lK (L.r ar) HL HB bu rfl rfl rfl (by rw[R.o,d8 he]) (λc=>absurd c he)
  ·as_aux_lemma=>
   have am:v.length % 2=0/\0<v.length/\v.length<=96:=by rw[a4.o];omega
   by_cases hq:C<0
   ·have R:=I (ah (s,[],6) (by show dS s _ _=_;unfold dS;rw[d8 (λc=>c am),c7 (by rw[<- an.o] at hq;exact hq)]));go_wp2_with (refine z6 (w+1) #[s.G,s.H,O (M ⟨qb,qo,J⟩) s.K.length qc,O ba s.F.length bc] G ?_);exact lK (L.r a2) HL HB G rfl rfl rfl (by rw[R.o]) (λc=>by cases c)
   as_aux_lemma=>
   obtain⟨a7,hz⟩:∃ a7,n=a7*2:=⟨n / 2,by omega⟩;have el:1<=a7:=by omega
   have em:a7<=48:=by omega
   have bn:=I hz;have a9:cT s.K (ws.getD 1 [])=C:=an.o;obtain⟨cr,b3⟩:∃ cr,bD s C (dC Run.mk v)=cr:=⟨_,rfl⟩;have R:=I (ah (if cr.2.2.2=0 then(cr.1,kR++cY cr.2.1++(32::gO)++cY cr.2.2.1,0) else(s,[],cr.2.2.2)) (by show dS s _ _=_;unfold dS;rw[d8 (λc=>c am),d8 (by rw[a9];exact hq),a9,b3]));have bo:=aB1 s C (dC Run.mk v);rw[b3] at bo;obtain⟨T,lo,lc,e8,_,bp,a5⟩:=eM b6 (λm=>by rw[m] at am;simp at am);have br:I64 C:=by
    rcases pV s.K (ws.getD 1 []) with h0|⟨B,h0,h1⟩
    ·rw[a9] at h0;omega
    rw[a9] at h0;have:=cw.o;exact I64.of (by omega) (by omega)
   rw[a4.o] at e8;cases e8;obtain⟨bh,c3,bi,CH,c5⟩:=zm a5 (tT (mk:=Run.mk) (f:=Run.At) (g:=Run.N) (λ_ _=>⟨rfl,rfl⟩) v (λH hy=>by obtain⟨B,hj⟩:=aIS hy;exact(a5 B H hj).2)) (Ba Run.mk a7 v (by rw[a4.o,hz])) (λ(j:y4) (c:d7 wb j) (rv:y5) (hr:aR j rv (dC Run.mk v))=>show y8 prog 66 #[.agg #[s.G,s.H,O (M ⟨qb,qo,J⟩) s.K.length qc,O ba s.F.length bc],C,rv] j (nN j cr) from by rw[<- b3];exact We j _ _ rv s C _ (HL.m (L.r c)) (HB.m (L.r c)) hr br) bo;obtain⟨ir,cl,cm,co,cs⟩:=s8 aCu;clear a9 b3 bo a5 br am hz;obtain⟨S,mo,dr,er⟩:=cr;go_wp2;go_loopw [26,27] (λfv al wr=>∃ y B:Nat,al=Y Z (B:Int)/\Hid (B=y*2)/\y<=a7/\Hid (wr.ownsRow wc 101 2 fv y (bH Run.At Run.N (dC Run.mk (v.take (y*2)))))/\Hid (d7 wc wr)) (λfv al _=>a7*2-(intOf al).toNat);exact⟨0,0,rfl,I rfl,by omega,I (aGQ _ _ _ _),I (b8 _)⟩;obtain⟨y,B,rfl,HJ,hi,HO,X⟩:=hrel;by_cases cn:y<a7
   ·have aw:=HJ.o;have hz:=bn.o;obtain⟨p0,b1⟩:=aV (f:=v) (k:=y*2) (by rw[a4.o];omega);obtain⟨p1,aj⟩:=aV (f:=v) (k:=y*2+1) (by rw[a4.o];omega);have g0:=(bh _ _ b1).1;have g1:=(bh _ _ aj).1;rw[<- aw] at g0 g1;have F:=X.c g0;obtain⟨G0,G1⟩:=zr g0 g1;clear g0 g1;have bk:=I (sJ Run.mk v y b1 aj);have j0:=z7 B n;have j9:B<n:=by omega
    obtain⟨q,hq⟩:∃ q,B+1=q:=⟨_,rfl⟩;have j8:q<n:=by omega
    have j7:=z7 q n;have ef:IntKind.i64.wrap ((B:Int)+1)=(q:Int):=by rw[IntKind.wrap_i64];omega
    rw[hq] at G1;have d1:=X.c G1;clear hq;have eg:IntKind.i64.wrap ((B:Int)+2)=(B:Int)+2:=by rw[IntKind.wrap_i64];omega
    have a6:=HO.o;obtain⟨fa,fc,rfl⟩:=lJ a6;obtain⟨au,al⟩:=zr (λg hg=>bN a6 g hg) (aJ a6 ((b8 wr).a (zt #[p0,p1] 101)).dr);have av:=X.size;clear b1 aj a6 aw hz;go_wp2_with fail;refine v8 (S:=λW'=>W' ⟨T,lo+B,J⟩=M (Y Z p0)/\W' ⟨T,lo+q,J⟩=M (Y Z p1)) (by kernel_rfl) ⟨(b8 wr).dr.c F,(b8 wr).dr.c d1⟩ (λi=>?_);refine tkH 0 ?_;refine tkH 1 ?_;refine tkH 2 ?_;refine tkH 3 ?_;refine tkH 4 ?_;refine tkH 5 ?_;refine tkH 6 ?_;refine tkH 7 ?_;refine tkH 8 ?_;refine tkH 9 ?_;refine tkH 10 ?_;refine goH 11 λh e=>?_;simp only[zA,zB,zC];go_simp;have aa:=((b8 wr).a (zt #[p0,p1] 101)).dr;refine e.out _ _ (⟨aa.c F,aa.c d1⟩) λi=>?_
    clear e h;refine goH 12 λh e=>?_;simp only[zA,zB,zC];rw[c7 (by rfl)];refine e7 _ _ _ _ (by rfl) wc 101 ir _ 2 16 underlying61 cl cm co cs rfl (by decide) (O fa y fc) y _ (by rfl) al ⟨wr,0,J⟩ 1 1 [Y Z p0,Y Z p1] (by rfl) (by rfl) (xF wr rfl _ _ _) (xE _ _ _ _) (by unfold o0;omega) (by omega) (by simp;omega) ?_;intro v2 W2 bq az ed;obtain⟨bm,cb⟩:=zr ((X.r aa).gr az au) bq;clear bq az;refine e.out _ _ (⟨bm.c G0,bm.c G1⟩) λi=>?_
    clear e h;refine tkH 13 ?_;refine dnH ?_;go_wp2;go_roundw;exact⟨y+1,B+2,by go_num,I (by have:=HJ.o;omega),by omega,I (by rw[bk.o,lS];exact cb),bm⟩;simp[intOf];have:=HJ.o;omega
   obtain rfl:y=a7:=by omega
   have aw:=HJ.o;have hz:=bn.o;have ea:=z8 B n;have a6:=HO.o;rw[aHF (by rw[a4.o,hz];exact aGi _)] at a6;have ca:=I (show aR wr _ (dC Run.mk v) from bL (by rw[bi.o];exact a6) c3 (by rw[bi.o];omega));obtain⟨fa,fc,rfl⟩:=lJ a6;have bd:=X.c N;have be:=X.c P;have b2:=X.c K;have bf:=X.c Q;clear a6 aw hz N P K Q c0;go_wp2_with fail;refine(CH _ (a2.r X) _ ca).m ?_;rintro m w5 ⟨u1,v1,mv,cx,rfl,hS,hM,hD,D⟩;obtain⟨ua,uc,e1,_⟩:=hS.tree.i;obtain⟨W,U,e2,_⟩:=hS.books.i;subst e1 e2;obtain⟨ma,mc,rfl,_,_,_⟩:=hM.i;obtain⟨dy,dz,rfl,_,_,_⟩:=hD.i;obtain⟨w6,aq⟩:∃ w6,w5.alloc (zt #[S.G,S.H,O ua S.K.length uc,O W S.F.length U] 34)=w6:=⟨_,rfl⟩;have ag:d7 w5 w6:=aq▸(b8 w5).a _;have a1:w6.heap[w5.heap.size]?=M (zt #[S.G,S.H,O ua S.K.length uc,O W S.F.length U] 34 (0,0)):=aq▸y7 w5 _;have ee:wc.heap.size<=w5.heap.size:=by have:=X.size;have:=D.size;omega
   have x0:=y6 _ _ 0 _ _ _ a1;have x1:=y6 _ _ 1 _ _ _ a1;have x2:=y6 _ _ 2 _ _ _ a1;have x3:=y6 _ _ 3 _ _ _ a1;obtain⟨aj,bq⟩:=c5.o;simp only[aGb] at bq;have bl:∀ a0∈mo,iF a0:=λa0 hm=>aj a0 (List.mem_append_left _ hm);have bk:∀ a0∈dr,iF a0:=λa0 hm=>aj a0 (List.mem_append_right _ hm);have lm:=jD mo bl;have ld:=jD dr bk;have cg:(⟨#[109,111,118,101,100]⟩:ByteArray).size=5:=rfl;have ck:(⟨#[32,100,114,111,112,112,101,100]⟩:ByteArray).size=8:=rfl;have q1:¬ 9223372036854775807<5+(tx (cY mo)).size:=by rw[aP];omega
   obtain⟨bu,c2⟩:=zr (show (⟨#[109,111,118,101,100]⟩:ByteArray)++tx (cY mo)=tx (kR++cY mo) from gJ kR _) (show tx (kR++cY mo)++(⟨#[32,100,114,111,112,112,101,100]⟩:ByteArray)=tx (kR++cY mo++(32::gO)) from gJ _ (32::gO));have q2:¬ 9223372036854775807<5+(tx (cY mo)).size+8:=by rw[aP];omega
   have q3:¬ 9223372036854775807<5+(tx (cY mo)).size+8+(tx (cY dr)).size:=by rw[aP,aP];omega
   obtain⟨cb,LM,LD,cd,ar,az,bb⟩:=zj (by rw[bu.o,c2.o,gJ]:(⟨#[109,111,118,101,100]⟩:ByteArray)++tx (cY mo)++(⟨#[32,100,114,111,112,112,101,100]⟩:ByteArray)++tx (cY dr)=tx (kR++cY mo++(32::gO)++cY dr)) (λ(j:y4) (c:d7 w6 j)=>tF j _ mo (hM.m (ag.r c)) (by omega) bl) (λ(j:y4) (c:d7 w6 j)=>tF j _ dr (hD.m (ag.r c)) (by omega) bk) (show StS wc w6 (O ua S.K.length uc) (O W S.F.length U) S from (hS.sink X.size).e ag) ((a2.r (X.r (D.r ag)))) a1 aq;clear aq a1 hM hD hS D ag aj bq bl bk lm ld cg ck bd be b2 bf G;go_wp2_with fail;rw[bb.o];refine v8 (S:=(λz=>z ⟨w5,0,J⟩=M (Y Z S.G)/\z ⟨w5,1,J⟩=M (Y Z S.H)/\z ⟨w5,2,J⟩=M (O ua S.K.length uc)/\z ⟨w5,3,J⟩=M (O W S.F.length U))) (by kernel_rfl) ⟨x0,x1,x2,x3⟩ (λi=>?_);refine tkH 0 ?_;refine tkH 1 ?_;refine tkH 5 ?_;refine tkH 8 ?_;refine goH 2 λh e=>?_;simp only[zA,zB,zC];go_simp;refine(LM _ (b8 w6).dr).m ?_;rintro m E ⟨rfl,a8⟩;have a8:d7 w6 E:=(b8 w6).dr.r a8
   go_wp2_with fail;refine e.out _ _ (⟨a8.c x0,a8.c x1,a8.c x2,a8.c x3⟩) λi=>?_
   clear e h;refine tkH 3 ?_;refine tkH 4 ?_;refine goH 6 λh e=>?_;simp only[zA,zB,zC];go_simp;refine(LD _ a8).m ?_;rintro m W2 ⟨rfl,au⟩;have au:d7 w6 W2:=a8.r au
   go_wp2_with fail;refine e.out _ _ (⟨au.c x0,au.c x1,au.c x2,au.c x3⟩) λi=>?_
   clear e h;refine tkH 7 ?_;refine goH 9 λh e=>?_;simp only[zA,zB,zC];rw[c7 (by rfl)];have al:=ad _ (ar.r au);refine o7 34 _ _ rfl (w+1) #[S.G,S.H,O ua S.K.length uc,O W S.F.length U] rfl rfl 34 _ al size34 rfl (by simp[aGr]) ?_;have ai:=aQ W2 (w+1) #[S.G,S.H,O ua S.K.length uc,O W S.F.length U];have b1:w5.heap.size≠w.heap.size+1:=by omega
   have av:=(ai.block w5 (aGp _ _ i.1:w5.heap.size<W2.heap.size) (λm=>b1 (b7 m)));refine e.out _ _ (⟨(aHm (a:=⟨w5,0,J⟩) av).trans i.1,(aHm (a:=⟨w5,1,J⟩) av).trans i.2.1,(aHm (a:=⟨w5,2,J⟩) av).trans i.2.2.1,(aHm (a:=⟨w5,3,J⟩) av).trans i.2.2.2⟩) λi=>?_
   clear e h;refine tkH 10 ?_;refine tkH 11 ?_;refine dnH ?_;go_wp2_with fail;rw[cb.o];exact Up (L.r (ar.r au)) cu (cd.e au) al rfl rfl rfl (mQ (s:=s) R.o).1 (mQ (s:=s) R.o).2
  ·as_aux_lemma=>
   obtain⟨u,rfl⟩:∃ u,v=[u]:=by
    match v,a4.trans ac with
    | [H],_=>exact⟨H,rfl⟩
   obtain⟨T,lo,lc,e8,_,bp,a5⟩:=eM b6 (by simp);obtain⟨F,aw⟩:=a5 0 u rfl;rw[aGM] at F;subst ac;cases e8;have a8:T≠w+1:=by have:=bz T rfl;omega
   clear a5;by_cases hq:C<0
   ·have R:=I (ah (s,[],6) (by show lT kZ s _ _=_;unfold lT;rw[d8 (by simp),c7 (by rw[<- an.o] at hq;exact hq)]));go_wp2_with (refine z6 (w+1) #[s.G,s.H,O (M ⟨qb,qo,J⟩) s.K.length qc,O ba s.F.length bc] G ?_);exact lK (L.r a2) HL HB G rfl rfl rfl (by rw[R.o]) (λc=>by cases c)
   as_aux_lemma=>
   have a9:cT s.K (ws.getD 1 [])=C:=an.o;obtain⟨R,AE,ag,am,aj⟩:=zm (ah (if(kZ s C u).2=0 then(s,Lib.itoa (kZ s C u).1,0) else(s,[],(kZ s C u).2)) (by show lT kZ s _ _=_;unfold lT;rw[d8 (by simp),d8 (by rw[a9];exact hq),a9];rfl)) (λ(j:y4) (c:d7 w j)=>Fi j _ _ s C u (HL.m c) (HB.m c)) (λ(c:jI s C u≠0)=>Ht c) (λ(c:jI s C u=0)=>Em c) (λ(c:jI s C u=0)=>zU c);have a6:=Hq (s:=s) (q:=C) (t:=u);clear a9;generalize aq:jI s C u=ea at *;clear aq;go_upto_region 51 with fail
   go_cut [24] from 256 to 261 (λm j=>m=Y Z ea/\d7 wc j)
   case first=>
    refine v8 (S:=(λz=>z ⟨w,0,J⟩=M (Y Z s.G)/\z ⟨w,1,J⟩=M (Y Z s.H)/\z ⟨w,2,J⟩=M (O (M ⟨qb,qo,J⟩) s.K.length qc)/\z ⟨w,3,J⟩=M (O ba s.F.length bc)/\z ⟨T,lo,J⟩=M (Y Z u))) (by kernel_rfl) ⟨(b8 wc).dr.c N,(b8 wc).dr.c P,(b8 wc).dr.c K,(b8 wc).dr.c Q,(b8 wc).dr.c F⟩ (λi=>?_);refine tkH 0 ?_;refine tkH 1 ?_;refine tkH 2 ?_;refine tkH 3 ?_;refine tkH 4 ?_;refine goH 5 λh e=>?_;simp only[zA,zB,zC];go_simp;refine(AE _ (L.r (a2.r (b8 wc).dr))).m ?_;rintro m E ⟨rfl,d⟩;have d:d7 wc E:=(b8 wc).dr.r d
    go_wp2_with fail;refine e.out _ _ (⟨d.c N,d.c P,d.c K,d.c Q,d.c F⟩) λi=>?_
    clear e h;refine tkH 6 ?_;refine dnH ?_;go_wp2_with fail;go_meet
    case rel=>exact⟨rfl,d⟩
   obtain⟨rfl,aa⟩:=hcut;have a7:=I (a2.r aa);replace N:=aa.c N;replace P:=aa.c P;replace K:=aa.c K;replace Q:=aa.c Q;replace F:=aa.c F;replace G:=ad _ a7;by_cases he:ea=0
   ·obtain⟨h1,⟨h2,h3⟩,h4,h5⟩:=aj he;rw[am he] at a6 R;obtain⟨qn,au⟩:∃ B:Nat,C=B:=⟨C.toNat,by omega⟩;obtain⟨ln,ar⟩:∃ B:Nat,u=B:=⟨u.toNat,by omega⟩;subst au ar;subst he;have BO:=I (λ(j:y4) (c:d7 w j)=>aBw j _ _ s qn ln (HL.m c) (HB.m c) cc);simp only[aGK] at a6 R;have DG:=I (λ(j:y4)=>lW _ a6.1 a6.2 j);go_wp2_with fail;refine v8 (S:=(λz=>z ⟨w,0,J⟩=M (Y Z s.G)/\z ⟨w,1,J⟩=M (Y Z s.H)/\z ⟨w,2,J⟩=M (O (M ⟨qb,qo,J⟩) s.K.length qc)/\z ⟨w,3,J⟩=M (O ba s.F.length bc)/\z ⟨T,lo,J⟩=M (Y Z (ln:Int)))) (by kernel_rfl) ⟨(b8 wc).dr.c N,(b8 wc).dr.c P,(b8 wc).dr.c K,(b8 wc).dr.c Q,(b8 wc).dr.c F⟩ (λi=>?_);refine tkH 0 ?_;refine tkH 1 ?_;refine tkH 2 ?_;refine tkH 3 ?_;refine tkH 4 ?_;refine tkH 5 ?_;refine goH 6 λh e=>?_;simp only[zA,zB,zC];go_simp;refine(BO _ (L.r (a7.r (b8 wc).dr))).m ?_;rintro m E ⟨rfl,d⟩;have d:d7 wc E:=(b8 wc).dr.r d
    go_wp2_with fail;refine e.out _ _ (⟨d.c N,d.c P,d.c K,d.c Q,d.c F⟩) λi=>?_
    clear e h;refine goH 7 λh e=>?_;simp only[zA,zB,zC];go_simp;refine(DG _).m ?_;rintro m W2 ⟨rfl,p⟩;have p:d7 wc W2:=d.r p
    go_wp2_with fail;refine e.out _ _ (⟨p.c N,p.c P,p.c K,p.c Q,p.c F⟩) λi=>?_
    clear e h;refine goH 8 λh e=>?_;simp only[zA,zB,zC];rw[c7 (by rfl)];have al:=ad _ (a7.r p);refine o7 34 _ _ rfl (w+1) #[s.G,s.H,O (M ⟨qb,qo,J⟩) s.K.length qc,O ba s.F.length bc] rfl rfl 34 _ al size34 rfl (by simp[aGr]) ?_;have ai:=aQ W2 (w+1) #[s.G,s.H,O (M ⟨qb,qo,J⟩) s.K.length qc,O ba s.F.length bc];have ae:=ai.block w (aGp _ _ i.1:w.heap.size<W2.heap.size) (λm=>by have:=b7 m;omega);have b0:=ai.block T (aGp _ _ i.2.2.2.2:T<W2.heap.size) (λm=>a8 (b7 m));refine e.out _ _ (⟨(aHm (a:=⟨w,0,J⟩) ae).trans i.1,(aHm (a:=⟨w,1,J⟩) ae).trans i.2.1,(aHm (a:=⟨w,2,J⟩) ae).trans i.2.2.1,(aHm (a:=⟨w,3,J⟩) ae).trans i.2.2.2.1,(aHm (a:=⟨T,lo,J⟩) b0).trans i.2.2.2.2⟩) λi=>?_
    clear e h;refine tkH 9 ?_;refine tkH 10 ?_;refine dnH ?_;go_wp2_with fail;exact lK (L.r (a7.r p)) HL HB al rfl rfl rfl (mQ (s:=s) R.o).1 (mQ (s:=s) R.o).2
   rw[ag he] at R;have bR:(ea != 0)=true:=by simpa using he
   go_wp2_with (refine z6 (w+1) #[s.G,s.H,O (M ⟨qb,qo,J⟩) s.K.length qc,O ba s.F.length bc] G ?_);exact lK (L.r a7) HL HB G rfl rfl rfl (by rw[R.o,d8 he]) (λc=>absurd c he)
  ·as_aux_lemma=>
   obtain⟨u,rfl⟩:∃ u,v=[u]:=by
    match v,a4.trans ac with
    | [H],_=>exact⟨H,rfl⟩
   obtain⟨T,lo,lc,e8,_,bp,a5⟩:=eM b6 (by simp);obtain⟨F,aw⟩:=a5 0 u rfl;rw[aGM] at F;subst ac;cases e8;have a8:T≠w+1:=by have:=bz T rfl;omega
   clear a5;by_cases hq:C<0
   ·have R:=I (ah (s,[],6) (by show lT kY s _ _=_;unfold lT;rw[d8 (by simp),c7 (by rw[<- an.o] at hq;exact hq)]));go_wp2_with (refine z6 (w+1) #[s.G,s.H,O (M ⟨qb,qo,J⟩) s.K.length qc,O ba s.F.length bc] G ?_);exact lK (L.r a2) HL HB G rfl rfl rfl (by rw[R.o]) (λc=>by cases c)
   as_aux_lemma=>
   have a9:cT s.K (ws.getD 1 [])=C:=an.o;obtain⟨R,AE,ag,am,aj⟩:=zm (ah (if(kY s C u).2=0 then(s,Lib.itoa (kY s C u).1,0) else(s,[],(kY s C u).2)) (by show lT kY s _ _=_;unfold lT;rw[d8 (by simp),d8 (by rw[a9];exact hq),a9];rfl)) (λ(j:y4) (c:d7 w j)=>Fi j _ _ s C u (HL.m c) (HB.m c)) (λ(c:jI s C u≠0)=>Gm c) (λ(c:jI s C u=0)=>Dq c) (λ(c:jI s C u=0)=>zU c);have a6:=Gl (s:=s) (q:=C) (t:=u);clear a9;generalize aq:jI s C u=ea at *;clear aq;go_upto_region 56 with fail
   go_cut [25] from 276 to 281 (λm j=>m=Y Z ea/\d7 wc j)
   case first=>
    refine v8 (S:=(λz=>z ⟨w,0,J⟩=M (Y Z s.G)/\z ⟨w,1,J⟩=M (Y Z s.H)/\z ⟨w,2,J⟩=M (O (M ⟨qb,qo,J⟩) s.K.length qc)/\z ⟨w,3,J⟩=M (O ba s.F.length bc)/\z ⟨T,lo,J⟩=M (Y Z u))) (by kernel_rfl) ⟨(b8 wc).dr.c N,(b8 wc).dr.c P,(b8 wc).dr.c K,(b8 wc).dr.c Q,(b8 wc).dr.c F⟩ (λi=>?_);refine tkH 0 ?_;refine tkH 1 ?_;refine tkH 2 ?_;refine tkH 3 ?_;refine tkH 4 ?_;refine goH 5 λh e=>?_;simp only[zA,zB,zC];go_simp;refine(AE _ (L.r (a2.r (b8 wc).dr))).m ?_;rintro m E ⟨rfl,d⟩;have d:d7 wc E:=(b8 wc).dr.r d
    go_wp2_with fail;refine e.out _ _ (⟨d.c N,d.c P,d.c K,d.c Q,d.c F⟩) λi=>?_
    clear e h;refine tkH 6 ?_;refine dnH ?_;go_wp2_with fail;go_meet
    case rel=>exact⟨rfl,d⟩
   obtain⟨rfl,aa⟩:=hcut;have a7:=I (a2.r aa);replace N:=aa.c N;replace P:=aa.c P;replace K:=aa.c K;replace Q:=aa.c Q;replace F:=aa.c F;replace G:=ad _ a7;by_cases he:ea=0
   ·obtain⟨h1,⟨h2,h3⟩,h4,h5⟩:=aj he;rw[am he] at a6 R;obtain⟨qn,au⟩:∃ B:Nat,C=B:=⟨C.toNat,by omega⟩;obtain⟨ln,ar⟩:∃ B:Nat,u=B:=⟨u.toNat,by omega⟩;subst au ar;subst he;have BO:=I (λ(j:y4) (c:d7 w j)=>aBm j _ _ s qn ln (by omega) (by omega) (HL.m c) (HB.m c) cc);simp only[aGK] at a6 R;have DG:=I (λ(j:y4)=>lW _ a6.1 a6.2 j);go_wp2_with fail;refine v8 (S:=(λz=>z ⟨w,0,J⟩=M (Y Z s.G)/\z ⟨w,1,J⟩=M (Y Z s.H)/\z ⟨w,2,J⟩=M (O (M ⟨qb,qo,J⟩) s.K.length qc)/\z ⟨w,3,J⟩=M (O ba s.F.length bc)/\z ⟨T,lo,J⟩=M (Y Z (ln:Int)))) (by kernel_rfl) ⟨(b8 wc).dr.c N,(b8 wc).dr.c P,(b8 wc).dr.c K,(b8 wc).dr.c Q,(b8 wc).dr.c F⟩ (λi=>?_);refine tkH 0 ?_;refine tkH 1 ?_;refine tkH 2 ?_;refine tkH 3 ?_;refine tkH 4 ?_;refine tkH 5 ?_;refine goH 6 λh e=>?_;simp only[zA,zB,zC];go_simp;refine(BO _ (L.r (a7.r (b8 wc).dr))).m ?_;rintro m E ⟨rfl,d⟩;have d:d7 wc E:=(b8 wc).dr.r d
    go_wp2_with fail;refine e.out _ _ (⟨d.c N,d.c P,d.c K,d.c Q,d.c F⟩) λi=>?_
    clear e h;refine goH 7 λh e=>?_;simp only[zA,zB,zC];go_simp;refine(DG _).m ?_;rintro m W2 ⟨rfl,p⟩;have p:d7 wc W2:=d.r p
    go_wp2_with fail;refine e.out _ _ (⟨p.c N,p.c P,p.c K,p.c Q,p.c F⟩) λi=>?_
    clear e h;refine goH 8 λh e=>?_;simp only[zA,zB,zC];rw[c7 (by rfl)];have al:=ad _ (a7.r p);refine o7 34 _ _ rfl (w+1) #[s.G,s.H,O (M ⟨qb,qo,J⟩) s.K.length qc,O ba s.F.length bc] rfl rfl 34 _ al size34 rfl (by simp[aGr]) ?_;have ai:=aQ W2 (w+1) #[s.G,s.H,O (M ⟨qb,qo,J⟩) s.K.length qc,O ba s.F.length bc];have ae:=ai.block w (aGp _ _ i.1:w.heap.size<W2.heap.size) (λm=>by have:=b7 m;omega);have b0:=ai.block T (aGp _ _ i.2.2.2.2:T<W2.heap.size) (λm=>a8 (b7 m));refine e.out _ _ (⟨(aHm (a:=⟨w,0,J⟩) ae).trans i.1,(aHm (a:=⟨w,1,J⟩) ae).trans i.2.1,(aHm (a:=⟨w,2,J⟩) ae).trans i.2.2.1,(aHm (a:=⟨w,3,J⟩) ae).trans i.2.2.2.1,(aHm (a:=⟨T,lo,J⟩) b0).trans i.2.2.2.2⟩) λi=>?_
    clear e h;refine tkH 9 ?_;refine tkH 10 ?_;refine dnH ?_;go_wp2_with fail;exact lK (L.r (a7.r p)) HL HB al rfl rfl rfl (mQ (s:=s) R.o).1 (mQ (s:=s) R.o).2
   rw[ag he] at R;have bR:(ea != 0)=true:=by simpa using he
   go_wp2_with (refine z6 (w+1) #[s.G,s.H,O (M ⟨qb,qo,J⟩) s.K.length qc,O ba s.F.length bc] G ?_);exact lK (L.r a7) HL HB G rfl rfl rfl (by rw[R.o,d8 he]) (λc=>absurd c he)
  ·as_aux_lemma=>
   obtain⟨u,rfl⟩:∃ u,v=[u]:=by
    match v,a4.trans ac with
    | [H],_=>exact⟨H,rfl⟩
   obtain⟨T,lo,lc,e8,_,bp,a5⟩:=eM b6 (by simp);obtain⟨F,aw⟩:=a5 0 u rfl;rw[aGM] at F;subst ac;cases e8;have a8:T≠w+1:=by have:=bz T rfl;omega
   clear a5;obtain⟨R,CO⟩:=zr (ah (if(fR s u).2=0 then((fR s u).1,wOk,0) else(s,[],(fR s u).2)) (by unfold gH;rw[d8 (by simp)];rfl)) (λ(j:y4) (c:d7 w j)=>Wg j _ _ s u (HL.m c) (HB.m c));generalize fR s u=cr at *;obtain⟨S,er⟩:=cr;go_upto_region 45 with fail
   go_cut [19,20] from 230 to 236 (λbw m j=>∃ (a3:Nat) (ax bg:y5),bw=zz (M ⟨a3,0,J⟩)/\m=Y Z er/\Hid (j.heap[a3]?=M (zt #[S.G,S.H,ax,bg] 34 (0,0)))/\Hid (StS wc j ax bg S)/\Hid (d7 wc j)/\wc<=a3)
   case first=>
    refine v8 (S:=(λz=>z ⟨w,0,J⟩=M (Y Z s.G)/\z ⟨w,1,J⟩=M (Y Z s.H)/\z ⟨w,2,J⟩=M (O (M ⟨qb,qo,J⟩) s.K.length qc)/\z ⟨w,3,J⟩=M (O ba s.F.length bc)/\z ⟨T,lo,J⟩=M (Y Z u))) (by kernel_rfl) ⟨(b8 wc).dr.c N,(b8 wc).dr.c P,(b8 wc).dr.c K,(b8 wc).dr.c Q,(b8 wc).dr.c F⟩ (λi=>?_);refine tkH 0 ?_;refine tkH 1 ?_;refine tkH 2 ?_;refine tkH 3 ?_;refine wpAnyH_ready (rs:=[4,8]) (by kernel_rfl) (by simp) ?_;refine AllReadyH.cons rfl (λh e=>?_) (AllReadyH.cons rfl (λh e=>?_) AllReadyH.nil)
    all_goals simp only[zA,zB,zC]
    ·go_simp;refine(CO _ (L.r (a2.r (b8 wc).dr))).m ?_;rintro m E ⟨u1,v1,rfl,hS,d⟩;obtain⟨ua,uc,e1,_⟩:=hS.tree.i;obtain⟨W,U,e2,_⟩:=hS.books.i;subst e1 e2;have d:d7 wc E:=(b8 wc).dr.r d;go_wp2_with fail;refine e.out _ _ (⟨d.c N,d.c P,d.c K,d.c Q,d.c F⟩) λi=>?_
     clear e h;refine tkH 5 ?_;refine tkH 6 ?_;refine tkH 7 ?_;refine goH 8 λh e=>?_;simp only[zA,zB,zC];go_simp;have hn:=y7 E (zt #[Y Z 0,Y Z 0,O J 0 0,O J 0 0] 34);have p:=d.a (zt #[Y Z 0,Y Z 0,O J 0 0,O J 0 0] 34);have aa:=hS.e ((b8 E).a (zt #[Y Z 0,Y Z 0,O J 0 0,O J 0 0] 34));refine e.out _ _ (⟨p.c N,p.c P,p.c K,p.c Q,p.c F⟩) λi=>?_
     clear e h;refine goH 9 λh e=>?_;simp only[zA,zB,zC];rw[c7 (by rfl)];refine o7 34 _ _ rfl E #[S.G,S.H,O ua S.K.length uc,O W S.F.length U] rfl rfl 34 _ hn size34 rfl (by simp[aGr]) ?_;have D:=p.sr (b:=E) d.size #[S.G,S.H,O ua S.K.length uc,O W S.F.length U];refine e.out _ _ (⟨D.c N,D.c P,D.c K,D.c Q,D.c F⟩) λi=>?_
     clear e h;refine tkH 10 ?_;refine dnH ?_;go_wp2_with fail;go_meet
     case rel=>exact⟨E,_,_,rfl,rfl,I (x5 _ _ _ _ _ _ hn),I (hS.boxed (aGi _) ((b8 E).a _) (aQ _ _ _)),I D,d.size⟩
    go_simp;have hn:((wc.alloc (zt #[Y Z 0,Y Z 0,O J 0 0,O J 0 0] 34)).drew).heap[wc.heap.size]?=M (zt #[Y Z 0,Y Z 0,O J 0 0,O J 0 0] 34 (0,0)):=y7 wc (zt #[Y Z 0,Y Z 0,O J 0 0,O J 0 0] 34);have p:=((b8 wc).a (zt #[Y Z 0,Y Z 0,O J 0 0,O J 0 0] 34)).dr;refine e.out _ _ (⟨p.c N,p.c P,p.c K,p.c Q,p.c F⟩) λi=>?_
    clear e h;refine goH 4 λh e=>?_;simp only[zA,zB,zC];go_simp;refine(CO _ (L.r (a2.r p))).m ?_;rintro m E ⟨u1,v1,rfl,hS,d⟩;obtain⟨ua,uc,e1,_⟩:=hS.tree.i;obtain⟨W,U,e2,_⟩:=hS.books.i;subst e1 e2;have ap:=aO hn d;have d:d7 wc E:=p.r d
    go_wp2_with fail;refine e.out _ _ (⟨d.c N,d.c P,d.c K,d.c Q,d.c F⟩) λi=>?_
    clear e h;refine tkH 5 ?_;refine tkH 6 ?_;refine tkH 7 ?_;refine goH 9 λh e=>?_;simp only[zA,zB,zC];rw[c7 (by rfl)];refine o7 34 _ _ rfl wc #[S.G,S.H,O ua S.K.length uc,O W S.F.length U] rfl rfl 34 _ ap size34 rfl (by simp[aGr]) ?_;have D:=d.sr (b:=wc) (aGi _) #[S.G,S.H,O ua S.K.length uc,O W S.F.length U];refine e.out _ _ (⟨D.c N,D.c P,D.c K,D.c Q,D.c F⟩) λi=>?_
    clear e h;refine tkH 10 ?_;refine dnH ?_;go_wp2_with fail;go_meet
    case rel=>exact⟨wc,_,_,rfl,rfl,I (x5 _ _ _ _ _ _ ap),I ((hS.past (aQ _ _ _) (by simp)).sink (by simp)),I D,aGi _⟩
   obtain⟨a3,u1,v1,rfl,rfl,az,B,a7,hX⟩:=hcut;obtain⟨ua,uc,e1,_⟩:=B.tree.i;obtain⟨W,U,e2,_⟩:=B.books.i;subst e1 e2;have a1:=az.o;have x0:=y6 _ _ 0 _ _ _ a1;have x1:=y6 _ _ 1 _ _ _ a1;have x2:=y6 _ _ 2 _ _ _ a1;have x3:=y6 _ _ 3 _ _ _ a1;have a9:=ad _ (a2.r a7);clear a1 N P K Q F c0 G;go_wp2_with (refine z6 (w+1) #[S.G,S.H,O ua S.K.length uc,O W S.F.length U] a9 ?_);exact Up (L.r (a2.r a7)) cu B a9 rfl rfl rfl (mQ R.o).1 (mQ R.o).2
  as_aux_lemma=>
  obtain⟨u,rfl⟩:∃ u,v=[u]:=by
   match v,a4.trans ac with
   | [H],_=>exact⟨H,rfl⟩
  obtain⟨T,lo,lc,e8,_,bp,a5⟩:=eM b6 (by simp);obtain⟨F,aw⟩:=a5 0 u rfl;rw[aGM] at F;subst ac;cases e8;have a8:T≠w+1:=by have:=bz T rfl;omega
  clear a5;obtain⟨R,CO⟩:=zr (ah (if(eZ s u).2.2=0 then((eZ s u).1,Lib.itoa (eZ s u).2.1,0) else(s,[],(eZ s u).2.2)) (by unfold nF;rw[d8 (by simp)];rfl)) (λ(j:y4) (c:d7 w j)=>aBd j _ _ s u (HL.m c) (HB.m c));have a6:=Wx s u;generalize eZ s u=cr at *;obtain⟨S,en,er⟩:=cr;have DG:=I (λ(j:y4)=>lW en a6.1 a6.2 j);go_upto_region 48 with fail
  go_cut [21,22,23] from 242 to 249 (λbw a0 m j=>∃ (a3:Nat) (ax bg:y5),bw=zz (M ⟨a3,0,J⟩)/\a0=Y Z en/\m=Y Z er/\Hid (j.heap[a3]?=M (zt #[S.G,S.H,ax,bg] 34 (0,0)))/\Hid (StS wc j ax bg S)/\Hid (d7 wc j)/\wc<=a3)
  case first=>
   refine v8 (S:=(λz=>z ⟨w,0,J⟩=M (Y Z s.G)/\z ⟨w,1,J⟩=M (Y Z s.H)/\z ⟨w,2,J⟩=M (O (M ⟨qb,qo,J⟩) s.K.length qc)/\z ⟨w,3,J⟩=M (O ba s.F.length bc)/\z ⟨T,lo,J⟩=M (Y Z u))) (by kernel_rfl) ⟨(b8 wc).dr.c N,(b8 wc).dr.c P,(b8 wc).dr.c K,(b8 wc).dr.c Q,(b8 wc).dr.c F⟩ (λi=>?_);refine tkH 0 ?_;refine tkH 1 ?_;refine tkH 2 ?_;refine tkH 3 ?_;refine wpAnyH_ready (rs:=[4,9]) (by kernel_rfl) (by simp) ?_;refine AllReadyH.cons rfl (λh e=>?_) (AllReadyH.cons rfl (λh e=>?_) AllReadyH.nil)
   all_goals simp only[zA,zB,zC]
   ·go_simp;refine(CO _ (L.r (a2.r (b8 wc).dr))).m ?_;rintro m E ⟨u1,v1,rfl,hS,d⟩;obtain⟨ua,uc,e1,_⟩:=hS.tree.i;obtain⟨W,U,e2,_⟩:=hS.books.i;subst e1 e2;have d:d7 wc E:=(b8 wc).dr.r d;go_wp2_with fail;refine e.out _ _ (⟨d.c N,d.c P,d.c K,d.c Q,d.c F⟩) λi=>?_
    clear e h;refine tkH 5 ?_;refine tkH 6 ?_;refine tkH 7 ?_;refine tkH 8 ?_;refine goH 9 λh e=>?_;simp only[zA,zB,zC];go_simp;have hn:=y7 E (zt #[Y Z 0,Y Z 0,O J 0 0,O J 0 0] 34);have p:=d.a (zt #[Y Z 0,Y Z 0,O J 0 0,O J 0 0] 34);have aa:=hS.e ((b8 E).a (zt #[Y Z 0,Y Z 0,O J 0 0,O J 0 0] 34));refine e.out _ _ (⟨p.c N,p.c P,p.c K,p.c Q,p.c F⟩) λi=>?_
    clear e h;refine goH 10 λh e=>?_;simp only[zA,zB,zC];rw[c7 (by rfl)];refine o7 34 _ _ rfl E #[S.G,S.H,O ua S.K.length uc,O W S.F.length U] rfl rfl 34 _ hn size34 rfl (by simp[aGr]) ?_;have D:=p.sr (b:=E) d.size #[S.G,S.H,O ua S.K.length uc,O W S.F.length U];refine e.out _ _ (⟨D.c N,D.c P,D.c K,D.c Q,D.c F⟩) λi=>?_
    clear e h;refine tkH 11 ?_;refine tkH 12 ?_;refine dnH ?_;go_wp2_with fail;go_meet
    case rel=>exact⟨E,_,_,rfl,rfl,rfl,I (x5 _ _ _ _ _ _ hn),I (hS.boxed (aGi _) ((b8 E).a _) (aQ _ _ _)),I D,d.size⟩
   go_simp;have hn:((wc.alloc (zt #[Y Z 0,Y Z 0,O J 0 0,O J 0 0] 34)).drew).heap[wc.heap.size]?=M (zt #[Y Z 0,Y Z 0,O J 0 0,O J 0 0] 34 (0,0)):=y7 wc (zt #[Y Z 0,Y Z 0,O J 0 0,O J 0 0] 34);have p:=((b8 wc).a (zt #[Y Z 0,Y Z 0,O J 0 0,O J 0 0] 34)).dr;refine e.out _ _ (⟨p.c N,p.c P,p.c K,p.c Q,p.c F⟩) λi=>?_
   clear e h;refine goH 4 λh e=>?_;simp only[zA,zB,zC];go_simp;refine(CO _ (L.r (a2.r p))).m ?_;rintro m E ⟨u1,v1,rfl,hS,d⟩;obtain⟨ua,uc,e1,_⟩:=hS.tree.i;obtain⟨W,U,e2,_⟩:=hS.books.i;subst e1 e2;have ap:=aO hn d;have d:d7 wc E:=p.r d
   go_wp2_with fail;refine e.out _ _ (⟨d.c N,d.c P,d.c K,d.c Q,d.c F⟩) λi=>?_
   clear e h;refine tkH 5 ?_;refine tkH 6 ?_;refine tkH 7 ?_;refine tkH 8 ?_;refine goH 10 λh e=>?_;simp only[zA,zB,zC];rw[c7 (by rfl)];refine o7 34 _ _ rfl wc #[S.G,S.H,O ua S.K.length uc,O W S.F.length U] rfl rfl 34 _ ap size34 rfl (by simp[aGr]) ?_;have D:=d.sr (b:=wc) (aGi _) #[S.G,S.H,O ua S.K.length uc,O W S.F.length U];refine e.out _ _ (⟨D.c N,D.c P,D.c K,D.c Q,D.c F⟩) λi=>?_
   clear e h;refine tkH 11 ?_;refine tkH 12 ?_;refine dnH ?_;go_wp2_with fail;go_meet
   case rel=>exact⟨wc,_,_,rfl,rfl,rfl,I (x5 _ _ _ _ _ _ ap),I ((hS.past (aQ _ _ _) (by simp)).sink (by simp)),I D,aGi _⟩
  obtain⟨a3,u1,v1,rfl,rfl,rfl,az,B,a7,hX⟩:=hcut;obtain⟨ua,uc,e1,_⟩:=B.tree.i;obtain⟨W,U,e2,_⟩:=B.books.i;subst e1 e2;have a1:=az.o;have x0:=y6 _ _ 0 _ _ _ a1;have x1:=y6 _ _ 1 _ _ _ a1;have x2:=y6 _ _ 2 _ _ _ a1;have x3:=y6 _ _ 3 _ _ _ a1;have a9:=ad _ (a2.r a7);clear a1 N P K Q F c0 G
  skip
  go_wp2_with fail;refine v8 (S:=(λz=>z ⟨a3,0,J⟩=M (Y Z S.G)/\z ⟨a3,1,J⟩=M (Y Z S.H)/\z ⟨a3,2,J⟩=M (O ua S.K.length uc)/\z ⟨a3,3,J⟩=M (O W S.F.length U))) (by kernel_rfl) ⟨x0,x1,x2,x3⟩ (λi=>?_);refine tkH 0 ?_;refine tkH 1 ?_;refine tkH 3 ?_;refine goH 2 λh e=>?_;simp only[zA,zB,zC];go_simp;refine(DG _).m ?_;rintro m E ⟨rfl,d⟩
  go_wp2_with fail;refine e.out _ _ (⟨d.c i.1,d.c i.2.1,d.c i.2.2.1,d.c i.2.2.2⟩) λi=>?_
  clear e h;refine goH 4 λh e=>?_;simp only[zA,zB,zC];rw[c7 (by rfl)];have al:=ad _ (a2.r (a7.r ((b8 _).dr.r d)));refine o7 34 _ _ rfl (w+1) #[S.G,S.H,O ua S.K.length uc,O W S.F.length U] rfl rfl 34 _ al size34 rfl (by simp[aGr]) ?_;have ai:=aQ E (w+1) #[S.G,S.H,O ua S.K.length uc,O W S.F.length U];have b1:a3≠w+1:=by omega
  have av:=(ai.block a3 (aGp _ _ i.1:a3<E.heap.size) (λm=>b1 (b7 m)));refine e.out _ _ (⟨(aHm (a:=⟨a3,0,J⟩) av).trans i.1,(aHm (a:=⟨a3,1,J⟩) av).trans i.2.1,(aHm (a:=⟨a3,2,J⟩) av).trans i.2.2.1,(aHm (a:=⟨a3,3,J⟩) av).trans i.2.2.2⟩) λi=>?_
  clear e h;refine tkH 5 ?_;refine tkH 6 ?_;refine dnH ?_;go_wp2_with fail;exact Up (L.r (a2.r (a7.r ((b8 _).dr.r d)))) cu (B.e ((b8 _).dr.r d)) al rfl rfl rfl (mQ R.o).1 (mQ R.o).2
theorem Uk (w:y4) (z v:y5) (s:aG) (D:aK w z s.K) (hb:aS w v s.F) (hs:aI s=0) :
  y8 prog 18 #[.agg #[s.G,s.H,z,v],b9 (tx kS)] w (rZ w s z v (eC s kS)):=by
 obtain⟨h,X,L,K,P,a8⟩:=dW w s z v;obtain⟨W,_,aj⟩:=zL hs;obtain⟨HP,C,u,N,a1⟩:=zm W L K P X;obtain⟨qa,qc,rfl,_,_,_⟩:=D.i;obtain⟨R,S,rfl,_,_,_⟩:=hb.i;obtain⟨G,A,t⟩:=zq D hb (by unfold eC;rw[c7 rfl]:eC s kS=(s,kK (s.F.map aH.Id),0));have q0:=Ig (s:=kS) (l:=[98,111,111,107,115]) rfl;obtain⟨ii,a9,aa,ab,ac⟩:=s8 Si;clear W D hb L K P X a8;go_enter func18,ntmps18;go_wp2_with fail;rw[a1.o];obtain⟨ad,ae,af,a3⟩:=u _ (b8 h);go_loopw [7,8] (λb a wr=>∃ k:Nat,a=Y Z k/\k<=s.F.length/\Hid (wr.ownsRow h 3 1 b k (Ad ((s.F.map aH.Id).take k)))/\Hid (d7 h wr)) (λb a _=>s.F.length-(intOf a).toNat);exact⟨0,rfl,by omega,I (aGQ _ _ _ _),I (b8 _)⟩;obtain⟨k,rfl,hk,B,a⟩:=hrel;have b3:=a.c a3;by_cases a5:k<s.F.length
 ·have a6:=z7 k s.F.length;obtain⟨b,c⟩:=aV (f:=s.F) (k:=k) a5;obtain⟨Q,U,rfl,x,d⟩:=aFP A c;have H:=(C.r a).c d;have o:=I (by rw[aHZ,aHt,c];rfl:(s.F.map aH.Id).take (k+1)=(s.F.map aH.Id).take k++[b.Id]);have e:=B.o;have j:=I (by have:=a.size;simp;omega:h.heap.size<=(wr.alloc (zt #[b.Id] 3)).heap.size);clear c d x;go_wp2_with (at_builtin;refine r6 _ rfl _ _ 74 rfl h 3 ii _ 1 8 underlying74 a9 aa ab ac rfl (by decide) _ _ _ rfl (e.alloc _) ⟨wr,0,J⟩ 1 1 [Y Z b.Id] rfl rfl (wN _ rfl _ _) (aAw _ _) (by unfold o0;omega) (by omega) j ?_);intro F q i g y;obtain⟨p,m⟩:=zr ((a.a (zt #[b.Id] 3)).gr g (λr E=>bN e r E)) (by rw[o.o,uC];exact i:q.ownsRow h 3 1 F (k+1) (Ad ((s.F.map aH.Id).take (k+1))));clear e i g y;go_wp2;go_roundw;exact⟨k+1,by go_num,by omega,m,p⟩;simp[intOf];omega
 have V:k=s.F.length:=by omega
 have a6:=z8 k s.F.length;obtain⟨l,m⟩:∃ l,s.F.map aH.Id=l:=⟨_,rfl⟩;have y:l.length=k:=by rw[<- m,aHC,V]
 have p:∀ n∈l,iF n:=λn o=>by
  rw[<- m] at o;obtain⟨b,c,rfl⟩:=aHd.1 o;exact HP b c
 have e:=B.o;rw[m,aHF (by omega),<- y] at e;have F:=rP e (λn o=>⟨by have:=(p n o).1;omega,(p n o).2⟩) (by omega);obtain⟨ag,ah,rfl,_,_,_⟩:=F.i;have d:=I (λ(Q:y4) (a4:d7 wr Q)=>tF Q _ l (F.m a4) (by omega) p);have E:=jD l p;have H:=I m;obtain⟨b0,b1,b2,_⟩:=u _ a;rw[y] at d;clear e F p m V B;cases c:l with
 | nil=>
  subst c;go_wp2_with fail;refine(d _ (b8 _)).m ?_;rintro a2 w5 ⟨rfl,g⟩;obtain⟨c0,c1,c2,c3⟩:=u _ (a.r g);have q:=N _ (a.r g);have a7:(tx (cY [])).toList.isEmpty=true:=by simp[tx,ByteArray.toList_eq,cY]
  go_wp2_with (refine z6 (w+1) #[s.G,s.H,O qa s.K.length qc,O R s.F.length S] q ?_);exact lK (T:=[]) (C.r (a.r g)) G A q rfl rfl rfl (by rw[t.o]) (λ_=>by rw[t.o];exact⟨rfl,by rw[H.o];rfl⟩)
 | cons n r=>
  have x:=Bc n r;rw[<- c] at x;obtain⟨b,i⟩:∃ b,kK (n::r)=b:=⟨_,rfl⟩;have HJ:=I (by rw[H.o,c,i]:kK (s.F.map aH.Id)=b);rw[<- c] at i;rw[c] at x E;rw[c] at d;rw[c] at i;rw[x,i] at d E;obtain⟨T,j⟩:∃ T,tx (32::b)=T:=⟨_,rfl⟩;have hz:T.size=b.length+1:=by rw[<- j,aP];rfl
  have a7:T.toList.isEmpty=false:=by rw[<- j];simp[tx,ByteArray.toList_eq]
  have a0:=I (show T.extract 1 (b.length+1)=tx b from by
   have:=Uz (32::b) 1 (b.length+1);rw[j] at this;rw[this];simp)
  rw[j] at d;have U:r.length+1=k:=by rw[<- y,c];rfl
  rw[<- U] at d;have c1:(1:Int)<=(b.length:Int)+1:=by omega
  clear j E x i y U;go_wp2_with fail;refine(d _ (b8 _)).m ?_;rintro a2 w5 ⟨rfl,g⟩;obtain⟨c0,ai,c2,c3⟩:=u _ (a.r g);have q:=N _ (a.r g);go_wp2_with (refine z6 (w+1) #[s.G,s.H,O qa s.K.length qc,O R s.F.length S] q ?_);exact lK (T:=b) (C.r (a.r g)) G A q rfl (by rw[<- a0.o];rfl) rfl (by rw[t.o]) (λ_=>by rw[t.o];exact⟨rfl,HJ.symm⟩)
theorem aAt (w:y4) (b a:y5) (s:aG) (x:By) (d:aK w b s.K) (hb:aS w a s.F) (e:aI s=0) (f:x.length<=4096) :
  y8 prog 18 #[.agg #[s.G,s.H,b,a],b9 (tx x)] w (rZ w s b a (eC s x)):=by
 by_cases c:x=kS
 ·subst c;exact Uk w b a s d hb e
 exact Uj w b a s x d hb e f c
theorem aA2 (w:y4) (q t:By) (b:4096<q.length):y8 prog 5 #[b9 (tx q),b9 (tx t)] w (oC w (lI q t)):=by
 have a:=I (aCF (t:=t) b);have d:=aP q;have c:(4096:Int)<(q.length:Int):=by omega
 go_enter func5,ntmps5;go_wp2;go_ret2;rw[a.o];exact⟨rfl,b8 w⟩
theorem aBh (w:y4) (q t:By) (g:q.length<=4096) (b:(nL q).2=false) (a:(eK q).2=if(nL q).2 then 0 else 1):y8 prog 5 #[b9 (tx q),b9 (tx t)] w (oC w (lI q t)):=by
 have e:=I (show lI q t=([],1) from by
  rw[b] at a;unfold lI;rw[c7 (by rw[a];simp),a];rfl)
 have d:=I (Ew w q g);have k:=aP q;have j:¬ (4096:Int)<(q.length:Int):=by omega
 generalize nL q=f at *;obtain⟨l,m⟩:=f;subst b;clear a;go_enter func5,ntmps5;go_wp2_with fail;refine d.m ?_;rintro i r ⟨n,rfl,c,h⟩;obtain⟨o,p,rfl,_,_,_⟩:=c.i;clear c;go_wp2;go_ret2;rw[e.o];exact⟨rfl,h⟩
theorem Df {ex:List Nat} {C:Nat} {a W1:y4} {u v u2 d:y5} {S b:aG} (c:(b=S/\u2=u/\d=v)\/StS a W1 u2 d b) (g:StX ex C a u v S) (i:d7 a W1) (h:∀ e∈ex,e<a.heap.size) (f:C<=a):StX ex C W1 u2 d b:=by
 rcases c with ⟨rfl,rfl,rfl⟩|c
 ·exact g.e i
 exact(StX.under c h).low f (λe e=>e)
theorem go_step {S:aG} {t:By} {fr i:Nat} (a:i<t.length) (b:fr<=i):goB S ((t.drop fr).take (i-fr)) (t.drop i) =
  if t[i]'a=10 then(dJ S ((t.drop fr).take (i-fr))).2++10::goB (dJ S ((t.drop fr).take (i-fr))).1 ((t.drop (i+1)).take (i+1-(i+1))) (t.drop (i+1)) else goB S ((t.drop fr).take (i+1-fr)) (t.drop (i+1)):=by
 rw[List.drop_eq_getElem_cons a,goB];split
 ·simp
 rw[show i+1-fr=(i-fr)+1 by omega,aHZ,aGG,show fr+(i-fr)=i by omega,aGm a];rfl
theorem aDs (w:y4) (q t:By) (a6:q.length<=4096) (ht:t.length<=9223372036854775807) (hf:(nL q).2=true) (hD:(eK q).2=if(nL q).2 then 0 else 1) (ax:(eK q).1=(nL q).1) (al:aT (nL q).1=0):y8 prog 5 #[b9 (tx q),b9 (tx t)] w (oC w (lI q t)):=by
 have ad:(eK q).2=0:=by rw[hD,hf];rfl
 obtain⟨HM,HO,HK,b4⟩:=zp (Rm (t:=t) ad) (Rl (t:=t) ad) (Ul (t:=t) ad) (Ew w q a6);rw[ax] at HK;have hz:=aP q;have hy:=aP t;have T:¬ (4096:Int)<(q.length:Int):=by omega
 have ok:=gG al;obtain⟨bh,OK⟩:=zr (Jv al) ok;clear ad hD ax ok al;generalize nL q=e at *;obtain⟨l,is⟩:=e;subst hf;go_enter func5,ntmps5;go_wp2_with fail;refine b4.m ?_;rintro o w1 ⟨a8,rfl,hv,hx⟩;have BG:=I (λ(m:y4) (hW:d7 w1 m)=>aBy m a8 l (hv.m hW) OK);obtain⟨va,vc,rfl,_,_,_⟩:=hv.i;have Q:=I hx;obtain⟨ln,ac⟩:∃ ap,l.length=ap:=⟨_,rfl⟩;rw[ac] at BG;rw[ac];have bo:=I ac;clear hv hx ac;go_wp2;go_loopw [8,9] (λd c wr=>∃ a g:Nat,d=Y Z g/\c=Y Z a/\a<=t.length/\g<=61/\Hid (g=(t.take a).count 10)/\wr=w1) (λ_ c _=>t.length-(intOf c).toNat);exact⟨0,0,rfl,rfl,by omega,by omega,I (by simp),rfl⟩;obtain⟨a,g,rfl,rfl,hi,hc,K,bp⟩:=hrel;obtain rfl:=bp.symm;by_cases bl:g<=60;rotate_left
 ·have u:=I (show 60<t.count 10 from by
   have:=List.Sublist.count_le 10 (List.take_sublist a t);have:=K.o;omega)
  have ay:¬ (g:Int)<=60:=by omega
  have az:(60:Int)<g:=by omega
  by_cases A:a<t.length
  all_goals by_cases b2:4096<t.length
  ·have U:=z7 a t.length;have a3:(4096:Int)<(t.length:Int):=by omega
   go_wp2;go_ret2;rw[HM (.inr u)];exact⟨rfl,Q⟩
  ·have U:=z7 a t.length;have a3:¬ (4096:Int)<(t.length:Int):=by omega
   go_wp2;go_ret2;rw[HM (.inr u)];exact⟨rfl,Q⟩
  ·have U:=z8 a t.length;have a3:(4096:Int)<(t.length:Int):=by omega
   go_wp2;go_ret2;rw[HM (.inr u)];exact⟨rfl,Q⟩
  have U:=z8 a t.length;have a3:¬ (4096:Int)<(t.length:Int):=by omega
  go_wp2;go_ret2;rw[HM (.inr u)];exact⟨rfl,Q⟩
 have ay:(g:Int)<=60:=by omega
 by_cases A:a<t.length
 ·have U:=z7 a t.length;have x:a<(tx t).size:=by rw[hy];exact A
  have am:=λw=>nK (tx t) a x w;have G:=I (by rw[fM (tx t) a x];rfl:bV (tx t) a=(t[a]'A).toNat);have c:=I (show (t.take (a+1)).count 10=(t.take a).count 10+if t[a]'A=10 then 1 else 0 from by
   rw[aHZ,aGm A,List.count_append];simp[List.count_cons])
  by_cases T:bV (tx t) a=10
  ·have L:=I (show g+1=(t.take (a+1)).count 10 from by
    rw[c.o,c7 (UInt8.toNat_inj.1 (by rw[<- G.o,T];rfl)),K.o])
   clear c G K;go_wp2;go_roundw;exact⟨a+1,g+1,by go_num,by go_num,by omega,by omega,L,by trivial⟩;simp[intOf];omega
  have f:((bV (tx t) a:Int) == 10)=false:=by simp;omega
  have L:=I (show g=(t.take (a+1)).count 10 from by
   rw[c.o,d8 (λo=>T (by rw[G.o,o];rfl)),K.o];rfl)
  clear c G K T;generalize bV (tx t) a=h at *;go_wp2;go_roundw;exact⟨a+1,g,by go_num,by go_num,by omega,by omega,L,by trivial⟩;simp[intOf];omega
 have a5:a=t.length:=by omega
 have aq:=I (by rw[K.o,a5,List.take_length]:g=t.count 10);have U:=z8 a t.length;by_cases b2:4096<t.length
 ·have a3:(4096:Int)<(t.length:Int):=by omega
  clear a5 K;go_wp2;go_ret2;rw[HM (.inl b2)];exact⟨rfl,Q⟩
 have a3:¬ (4096:Int)<(t.length:Int):=by omega
 have az:¬ (60:Int)<g:=by omega
 have au:=I (by rw[<- aq.o];omega:¬ (4096<t.length\/60<t.count 10));clear a5 K aq;by_cases a1:t≠[]/\t.getLast?≠M 10
 ·obtain⟨n,B⟩:∃ n,t.length=n+1:=⟨t.length-1,by have:=aHX.2 a1.1;omega⟩;have i:(0:Int)<(t.length:Int):=by omega
  have a7:IntKind.i64.wrap ((t.length:Int)-1)=(n:Int):=by rw[IntKind.wrap_i64];omega
  have x:n<(tx t).size:=by rw[hy];omega
  have am:=λw=>nK (tx t) n x w;have c:bV (tx t) n≠10:=λo=>a1.2 (by
   rw[fM (tx t) n x] at o;rw[aIU,show t.length-1=n by omega,aGm (by omega)];congr 1;exact UInt8.toNat_inj.1 o)
  have f:((bV (tx t) n:Int) != 10)=true:=by simp;omega
  have ag:=I (HO au a1);clear B c a1;generalize bV (tx t) n=h at *;go_wp2;go_ret2;rw[ag.o];exact⟨rfl,Q⟩
 obtain⟨ag,ar⟩:=zr (HK au a1) (show t≠[]->t.getLast?=M 10 from λh0=>Classical.byContradiction λd=>a1 ⟨h0,d⟩);clear a1;go_upto_region 14 with fail
 go_cut [60] from 50 to 59 (λo m=>o=zx false/\m=w1)
 case first=>
  by_cases h0:t=[]
  ·subst h0;go_wp2_with fail;go_meet
   case rel=>exact⟨rfl,rfl⟩
  obtain⟨n,B⟩:∃ n,t.length=n+1:=⟨t.length-1,by have:=aHX.2 h0;omega⟩;have i:(0:Int)<(t.length:Int):=by omega
  have a7:IntKind.i64.wrap ((t.length:Int)-1)=(n:Int):=by rw[IntKind.wrap_i64];omega
  have x:n<(tx t).size:=by rw[hy];omega
  have am:=λw=>nK (tx t) n x w;have c:bV (tx t) n=10:=by
   have:=ar h0;rw[aIU,show t.length-1=n by omega,aGm (by omega)] at this;rw[fM (tx t) n x];show (t[n]'(by omega)).toNat=10;rw[b7 this];rfl
  clear B h0;go_wp2_with fail;go_meet
  case rel=>exact⟨rfl,rfl⟩
 obtain⟨rfl,a7⟩:=hcut;obtain rfl:=a7.symm;clear U hi hc bl ay a3 az;go_wp2_with fail;refine(BG _ (b8 _)).m ?_;rintro o H ⟨ae,rfl,hS,k⟩;obtain⟨sa,sc,z,_,_,_⟩:=hS.tree.i;rw[bo.o] at z;subst z;have aj:=I (Q.r k);have ao:=y7 H (zt #[Y Z 0,Y Z 0,O J 0 0,O J 0 0] 34);obtain⟨ah,ai,aw⟩:=zq ((((StX.under (ex:=[]) hS (λa2 y=>by cases y)).box (aGi _)).e ((b8 H).a (zt #[Y Z 0,Y Z 0,O J 0 0,O J 0 0] 34))).kept (aQ _ _ #[Y Z 0,Y Z 0,O sa ln sc,O J 0 0]) (aHv ..)) (x5 _ H _ #[Y Z 0,Y Z 0,O sa ln sc,O J 0 0] _ _ ao) ((aj.a (zt #[Y Z 0,Y Z 0,O J 0 0,O J 0 0] 34)).sr (b:=H) aj.size #[Y Z 0,Y Z 0,O sa ln sc,O J 0 0]);clear hS k;go_wp2_with (refine z6 H #[Y Z 0,Y Z 0,O sa ln sc,O J 0 0] ao ?_);clear ao;obtain⟨w3,an⟩:∃ w3,(H.alloc (zt #[Y Z 0,Y Z 0,O J 0 0,O J 0 0] 34)).setRow H #[Y Z 0,Y Z 0,O sa ln sc,O J 0 0]=w3:=⟨_,rfl⟩;rw[an] at ah ai aw
 try rw[an]
 obtain⟨s,ak⟩:∃ ap,H.heap.size=ap:=⟨_,rfl⟩;obtain⟨bi,av⟩:=zr (show w.heap.size<=w1.heap.size from Q.size) (show w.heap.size<=H.heap.size from aj.size);rw[ak] at ah ai av
 try rw[ak]
 clear an ak;go_loopw [11,12,13] (λi c g wr=>∃ (a e:Nat) (S:aG) (d:By) (ae a8:y5),g=Y Z a/\c=Y Z e/\i=b9 (tx d)/\e<=a/\a<=t.length/\d.length<=700*a/\Hid (d++goB S ((t.drop e).take (a-e)) (t.drop a)=goB ⟨0,0,l,[]⟩ [] t)/\Hid (aI S=0)/\Hid (wr.heap[s]?=M (zt #[S.G,S.H,ae,a8] 34 (0,0)))/\Hid (StX [s] w wr ae a8 S)/\Hid (d7 w wr)) (λ_ _ g _=>t.length-(intOf g).toNat);exact⟨0,0,⟨0,0,l,[]⟩,[],_,_,rfl,rfl,rfl,by omega,by omega,by simp,I (by simp),bh,ai,I (ah.low bi (λa2 y=>y)),aw⟩;obtain⟨a,e,S,d,ae,a8,rfl,rfl,rfl,bn,hi,hO,HG,u,N,P,HX⟩:=hrel;by_cases A:a<t.length
 ·have U:=z7 a t.length;have x:a<(tx t).size:=by rw[hy];exact A
  have am:=λw=>nK (tx t) a x w;obtain⟨G,a9⟩:=zr (by rw[fM (tx t) a x];rfl:bV (tx t) a=(t[a]'A).toNat) (go_step (S:=S) A bn);obtain⟨ua,uc,z,_,_,_⟩:=P.st.tree.i;obtain⟨va,vc,e2,_,_,_⟩:=P.st.books.i;subst z e2;by_cases T:bV (tx t) a=10;rotate_left
  ·have f:((bV (tx t) a:Int) == 10)=false:=by simp;omega
   have L:=I (show d++goB S ((t.drop e).take (a+1-e)) (t.drop (a+1))=goB ⟨0,0,l,[]⟩ [] t from by
    rw[<- HG.o,a9.o,d8 (λo=>T (by rw[G.o,o];rfl))])
   clear a9 G HG T;generalize bV (tx t) a=h at *;go_wp2;go_roundw;exact⟨a+1,e,S,d,_,_,by go_num,rfl,rfl,by omega,by omega,by omega,L,u,N,P,HX⟩;simp[intOf];omega
  have b0:t[a]'A=10:=UInt8.toNat_inj.1 (by rw[<- G.o,T];rfl);have L:=I (show d++((dJ S ((t.drop e).take (a-e))).2++10::goB (dJ S ((t.drop e).take (a-e))).1 ((t.drop (a+1)).take (a+1-(a+1))) (t.drop (a+1)))=goB ⟨0,0,l,[]⟩ [] t from by
   rw[<- HG.o,a9.o,c7 b0])
  have b5:=I (Uz t e a);have bm:((t.drop e).take (a-e)).length<=4096:=by rw[aHB,aI4];omega
  generalize (t.drop e).take (a-e)=r at *;obtain⟨bd,af,be,bb,bc⟩:=zm (Lk u r) (Gz u r) (xK u r) (λ(a6:(eC S r).2.2=0)=>show dJ S r=((eC S r).1,(eC S r).2.1) from by unfold dJ;rw[c7 a6]) (λ(a6:(eC S r).2.2≠0)=>show dJ S r=(S,rS++32::Lib.itoa (eC S r).2.2) from by unfold dJ;rw[d8 a6]);have PO:=I (λ(m:y4) (hW:d7 wr m)=>show y8 prog 18 #[.agg #[S.G,S.H,O ua S.K.length uc,O va S.F.length vc],b9 ((tx t).extract e a)] m (rZ m S _ _ (eC S r)) from by
   rw[b5.o];exact aAt m _ _ S r (P.st.tree.m hW) (P.st.books.m hW) u bm)
  generalize eC S r=a2 at *;obtain⟨r1,r2,j⟩:=a2;have c1:(0:Int)<=e:=by omega
  have c2:(e:Int)<=a:=by omega
  have c3:(a:Int)<=t.length:=by omega
  have V:=y6 _ _ 0 _ _ _ N;have W:=y6 _ _ 1 _ _ _ N;have X:=y6 _ _ 2 _ _ _ N;have b3:=y6 _ _ 3 _ _ _ N;have bk:s<wr.heap.size:=(aGq.1 N).1;clear a9 G HG b0;go_upto_region 23 with fail
  go_cut [14,15,16] from 74 to 82 (λf i o m=>∃ (ab:Nat) (c:aG) (u2 v2:y5) (h:By),f=zz (M ⟨ab,0,J⟩)/\i=b9 (tx h)/\o=Y Z j/\Hid (j=0->c=r1/\h=r2)/\Hid (m.heap[ab]?=M (zt #[c.G,c.H,u2,v2] 34 (0,0)))/\Hid (StX [s] w m u2 v2 c)/\Hid (d7 wr m)/\wr<=ab)
  case first=>
   refine v8 (S:=λaa=>aa ⟨s,0,J⟩=M (Y Z S.G)/\aa ⟨s,1,J⟩=M (Y Z S.H)/\aa ⟨s,2,J⟩=M (O ua S.K.length uc)/\aa ⟨s,3,J⟩=M (O va S.F.length vc)) (by kernel_rfl) ⟨(b8 wr).dr.c V,(b8 wr).dr.c W,(b8 wr).dr.c X,(b8 wr).dr.c b3⟩ (λa4=>?_);refine tkH 0 ?_;refine tkH 1 ?_;refine tkH 2 ?_;refine tkH 3 ?_;refine tkH 4 ?_;refine wpAnyH_ready (rs:=[5,10]) (by kernel_rfl) (by simp) ?_;refine AllReadyH.cons rfl (λv i=>?_) (AllReadyH.cons rfl (λv i=>?_) AllReadyH.nil)
   all_goals simp only[zA,zB,zC]
   ·go_simp;refine(PO _ (b8 wr).dr).m ?_;rintro o R ⟨c,u2,v2,h,rfl,hS,f,hq⟩;have a0:=Df hS (P.e (b8 wr).dr) f (λa2 y=>by rw[aHf.1 y];exact bk) (HX.size);obtain⟨C,D,z,_,_,_⟩:=a0.st.tree.i;obtain⟨E,F,e2,_,_,_⟩:=a0.st.books.i;subst z e2;have f:d7 wr R:=(b8 wr).dr.r f;go_wp2_with fail;refine i.out _ _ (⟨f.c V,f.c W,f.c X,f.c b3⟩) λa4=>?_
    clear i v;refine tkH 6 ?_;refine tkH 7 ?_;refine tkH 8 ?_;refine tkH 9 ?_;refine goH 10 λv i=>?_;simp only[zA,zB,zC];go_simp;have B:=y7 R (zt #[Y Z 0,Y Z 0,O J 0 0,O J 0 0] 34);have k:=f.a (zt #[Y Z 0,Y Z 0,O J 0 0,O J 0 0] 34);refine i.out _ _ (⟨k.c V,k.c W,k.c X,k.c b3⟩) λa4=>?_
    clear i v;refine goH 11 λv i=>?_;simp only[zA,zB,zC];rw[c7 (by rfl)];refine o7 34 _ _ rfl R #[c.G,c.H,O C c.K.length D,O E c.F.length F] rfl rfl 34 _ B size34 rfl (by simp[aGr]) ?_;have p:=k.sr (b:=R) f.size #[c.G,c.H,O C c.K.length D,O E c.F.length F];refine i.out _ _ (⟨p.c V,p.c W,p.c X,p.c b3⟩) λa4=>?_
    clear i v;refine tkH 12 ?_;refine tkH 13 ?_;refine dnH ?_;go_wp2_with fail;go_meet
    case rel=>exact⟨R,c,_,_,h,rfl,rfl,rfl,I hq,I (x5 _ _ _ _ _ _ B),I ((((a0.box (aGi _)).e ((b8 R).a _)).kept (aQ _ _ _) (aHv ..)).low (aGi _) (λa2 y=>aGc _ y)),I p,f.size⟩
   go_simp;have B:((wr.alloc (zt #[Y Z 0,Y Z 0,O J 0 0,O J 0 0] 34)).drew).heap[wr.heap.size]?=M (zt #[Y Z 0,Y Z 0,O J 0 0,O J 0 0] 34 (0,0)):=y7 wr (zt #[Y Z 0,Y Z 0,O J 0 0,O J 0 0] 34);have k:=((b8 wr).a (zt #[Y Z 0,Y Z 0,O J 0 0,O J 0 0] 34)).dr;refine i.out _ _ (⟨k.c V,k.c W,k.c X,k.c b3⟩) λa4=>?_
   clear i v;refine goH 5 λv i=>?_;simp only[zA,zB,zC];go_simp;refine(PO _ k).m ?_;rintro o R ⟨c,u2,v2,h,rfl,hS,f,hq⟩;have a0:=Df hS (((P.box (aGi wr)).e k)) f (λa2 y=>by simp only[List.mem_cons,List.not_mem_nil,or_false] at y;simp;omega) (by have:=HX.size;simp;omega);obtain⟨C,D,z,_,_,_⟩:=a0.st.tree.i;obtain⟨E,F,e2,_,_,_⟩:=a0.st.books.i;subst z e2;have b1:=aO B f;have f:d7 wr R:=k.r f
   go_wp2_with fail;refine i.out _ _ (⟨f.c V,f.c W,f.c X,f.c b3⟩) λa4=>?_
   clear i v;refine tkH 6 ?_;refine tkH 7 ?_;refine tkH 8 ?_;refine tkH 9 ?_;refine goH 11 λv i=>?_;simp only[zA,zB,zC];rw[c7 (by rfl)];refine o7 34 _ _ rfl wr #[c.G,c.H,O C c.K.length D,O E c.F.length F] rfl rfl 34 _ b1 size34 rfl (by simp[aGr]) ?_;have p:=f.sr (b:=wr) (aGi _) #[c.G,c.H,O C c.K.length D,O E c.F.length F];refine i.out _ _ (⟨p.c V,p.c W,p.c X,p.c b3⟩) λa4=>?_
   clear i v;refine tkH 12 ?_;refine tkH 13 ?_;refine dnH ?_;go_wp2_with fail;go_meet
   case rel=>exact⟨wr,c,_,_,h,rfl,rfl,rfl,I hq,I (x5 _ _ _ _ _ _ b1),I ((a0.kept (aQ _ _ _) (aHv ..)).low (aGi _) (λa2 y=>aGc _ y)),I p,(aGi _)⟩
  obtain⟨ab,c,u2,v2,h,rfl,rfl,rfl,HQ,v,a4,aa,hX⟩:=hcut;have bq:d.length<=2867200:=by omega
  by_cases f:j=0
  ·obtain⟨rfl,rfl⟩:=HQ f;subst f;obtain⟨C,D,z,_,_,_⟩:=a4.st.tree.i;obtain⟨E,F,e2,_,_,_⟩:=a4.st.books.i;subst z e2;have x0:=y6 _ _ 0 _ _ _ v;have x1:=y6 _ _ 1 _ _ _ v;have x2:=y6 _ _ 2 _ _ _ v;have x3:=y6 _ _ 3 _ _ _ v;have b1:=aO N aa;have a7:(⟨#[10]⟩:ByteArray).size=1:=rfl;have br:h.length<=600:=bd.o;have q1:¬ 9223372036854775807<(tx d).size+(tx h).size:=by rw[aP,aP];omega
   have b6:=I (show tx d++tx h=tx (d++h) from gJ d h);have q2:¬ 9223372036854775807<(tx d).size+(tx h).size+1:=by rw[aP,aP];omega
   obtain⟨R,i⟩:=zr (by rw[b6.o];exact gJ _ [10]:tx d++tx h++(⟨#[10]⟩:ByteArray)=tx (d++h++[10])) (bb rfl);have a0:=I (show (d++h++[10])++goB c ((t.drop (a+1)).take (a+1-(a+1))) (t.drop (a+1))=goB ⟨0,0,l,[]⟩ [] t from by
    rw[<- L.o,i.o];simp)
   obtain⟨bf,bg,ba,bj⟩:=zp (by have:=be.o;rw[i.o] at this;exact this:aI c=0) (x5 _ s _ #[c.G,c.H,O C c.K.length D,O E c.F.length F] _ _ b1) (a4.kept (aQ _ s #[c.G,c.H,O C c.K.length D,O E c.F.length F]) (aHv ..)) ((HX.r aa).sr (b:=s) av #[c.G,c.H,O C c.K.length D,O E c.F.length F]);go_wp2_with (refine z6 s #[c.G,c.H,O C c.K.length D,O E c.F.length F] b1 ?_);go_roundw;exact⟨a+1,a+1,c,d++h++[10],_,_,by go_num,by go_num,by rw[R.o],by omega,by omega,by simp;omega,a0,bf,bg,ba,bj⟩;simp[intOf];omega
  have F:(j == 0)=false:=by simpa using f
  obtain⟨C,i⟩:=zr (λ(m:y4)=>lW j (by have:=af.1;omega) af.2 m) (bc f);have b1:(Lib.itoa j).length<=22:=by
   have:=jD [j] (λn B=>by rw[aHf.1 B];exact af);simp[cY] at this;omega
  have b6:(⟨#[101,114,114,111,114,32]⟩:ByteArray).size=6:=rfl;have a7:(⟨#[10]⟩:ByteArray).size=1:=rfl;have q0:¬ 9223372036854775807<6+(tx (Lib.itoa j)).size:=by rw[aP];omega
  have D:=I (show (⟨#[101,114,114,111,114,32]⟩:ByteArray)++tx (Lib.itoa j)=tx (rS++32::Lib.itoa j) from gJ [101,114,114,111,114,32] _);have q1:¬ 9223372036854775807<(tx d).size+(6+(tx (Lib.itoa j)).size):=by rw[aP,aP];omega
  have q2:¬ 9223372036854775807<(tx d).size+(6+(tx (Lib.itoa j)).size)+1:=by rw[aP,aP];omega
  have R:=I (by rw[D.o,gJ];exact gJ _ [10]:tx d++((⟨#[101,114,114,111,114,32]⟩:ByteArray)++tx (Lib.itoa j))++(⟨#[10]⟩:ByteArray)=tx (d++(rS++32::Lib.itoa j)++[10]));have a0:=I (show (d++(rS++32::Lib.itoa j)++[10])++goB S ((t.drop (a+1)).take (a+1-(a+1))) (t.drop (a+1))=goB ⟨0,0,l,[]⟩ [] t from by
   rw[<- L.o,i.o];simp)
  have E:rS.length=5:=rfl;clear f;go_wp2_with fail;refine(C _).m ?_;rintro o w5 ⟨rfl,p⟩;have B:=I (aa.r p);clear p;go_wp2;go_roundw;exact⟨a+1,a+1,S,d++(rS++32::Lib.itoa j)++[10],_,_,by go_num,by go_num,by rw[R.o],by omega,by omega,by simp[E];omega,a0,u,I (aO N B),I (P.e B),I (HX.r B)⟩;simp[intOf];omega
 have a5:a=t.length:=by omega
 have U:=z8 a t.length;have c:=I (show d=goB ⟨0,0,l,[]⟩ [] t from by
  rw[<- HG.o,a5,List.drop_of_length_le (aGi _)];simp[goB])
 clear a5;go_wp2;go_ret2;rw[ag.o,<- Gs _ t _ (aGi _) ar.o,<- c.o];exact⟨rfl,HX⟩
theorem aBi (w:y4) (q t:By) (f:t.length<=9223372036854775807):y8 prog 5 #[b9 (tx q),b9 (tx t)] w (oC w (lI q t)):=by
 by_cases b:4096<q.length
 ·exact aA2 w q t b
 obtain⟨e,c⟩:=aCB (λl b=>Lib.fieldsD_ascii l b) (by omega:q.length<=4096);cases a:(nL q).2 with
 | false=>exact aBh w q t (by omega) a c
 | true=>
  refine aDs w q t (by omega) f a c e ?_;unfold nL at a ⊢;split at a
  ·rename_i d;rw[c7 d];exact d.1
  cases a
def qIn:By:=qL0++10::(qL1++10::(qL2++10::(qL3++10::(qL4++10::(qL5++10::(qL6++10::(qL7++10::(qL8++10::(qL9++10::(qL10++10::(qL11++10::(qL12++10::[]))))))))))))
def qOut:By:=qO0++10::(qO1++10::(qO2++10::(qO3++10::(qO4++10::(qO5++10::(qO6++10::(qO7++10::(qO8++10::(qO9++10::(qO10++10::(qO11++10::(aF0++10::[]))))))))))))
theorem q_i1:rS++32::Lib.itoa 1=qO10:=by rw[show Lib.itoa 1=[49] from Lib.decDigits_one (i:=1) (by decide)];rfl
theorem q_i6:rS++32::Lib.itoa 6=qO8:=by rw[show Lib.itoa 6=[54] from Lib.decDigits_one (i:=6) (by decide)];rfl
theorem q_i8:rS++32::Lib.itoa 8=qO11:=by rw[show Lib.itoa 8=[56] from Lib.decDigits_one (i:=8) (by decide)];rfl
theorem aDN:eK (gZ (eP 10 0 6))=(eP 10 0 6,0):=aCz (λl a=>Lib.fieldsD_ascii l a) Bp
theorem oV {S a:aG} {x o r:By} (c:dJ S x=(a,o)) (d:∀ b∈x,b≠10):goB S [] (x++10::r)=o++10::goB a [] r:=by
 rw[Nu x S [] r d,List.nil_append,c]
theorem aFH:lI (gZ (eP 10 0 6)) qIn=(qOut,0):=by
 rw[Ul (by rw[aDN]) (by decide +kernel) (by decide +kernel),aDN,<- Gs _ qIn _ (aGi _) (λ_=>by decide +kernel)];show (goB qS0 [] qIn,(0:Int))=_;unfold qIn qOut;rw[oV qD0 (by decide),oV qD1 (by decide),oV qD2 (by decide),oV qD3 (by decide),oV qD4 (by decide),oV qD5 (by decide),oV qD6 (by decide),oV qD7 (by decide),oV qD8 (by decide),oV qD9 (by decide),oV qD10 (by decide),oV qD11 (by decide),oV qD12 (by decide),q_i6,q_i1,q_i8];rfl
theorem Py (w:y4) (h:gC w):y8 prog 6 #[] w λb t=>b=zv (zx true)/\d7 w t:=by
 obtain⟨p,f,e⟩:=zq (λa:y4=>aD9 a) (λ(a:y4) (o:y5) (c:aK a o (eP 10 0 6))=>Zz a o _ c) (λ(a:y4) (c:d7 w a)=>aA1 a (h.e c) (gZ (eP 10 0 6)) qIn (by have:=Lh (gG Bp);omega) (by decide +kernel));rw[show rE (eP 10 0 6)=(gZ (eP 10 0 6),0) from by unfold rE;rw[c7 Bp]] at f;rw[aFH] at e;have l:I64 10:=I64.of (by omega) (by omega);have m:I64 0:=I64.of (by omega) (by omega);have n:I64 6:=I64.of (by omega) (by omega);clear h;generalize gZ (eP 10 0 6)=u at *;go_enter func6,ntmps6;go_wp2_with fail;refine(p _).m ?_;rintro b v ⟨rfl,g,i⟩;obtain⟨q,r⟩:=zr (g.v l m n) i;clear g i l m n;go_wp2_with fail;refine(f _ _ q).m ?_;rintro b x ⟨rfl,j⟩;have d:=I (r.r j);clear j;go_wp2_with fail;refine(e _ d).m ?_;rintro b y ⟨rfl,k⟩;have s:=I (d.r k);clear k;go_wp2;go_ret;refine⟨?_,s⟩;rw[Tq];rfl
theorem Px (w:y4) (d:gC w) (q t:By) (f:q.length<=9223372036854775807) (c:t.length<=9223372036854775807) :
  y8 prog 3 #[b9 (tx q),b9 (tx t)] w λb a=>b=zv (zx true)/\d7 w a:=by
 obtain⟨i,j,h⟩:=zq (aA1 w d q t f c) (λ(a:y4)=>aBi a q t c) (λ(a:y4) (k:d7 w a)=>Py a (d.e k));generalize lI q t=p at *;obtain⟨g,n⟩:=p;clear d f c;have r:=Dh (x:=tx g) (y:=tx g) rfl;go_enter func3,ntmps3;go_wp2_with fail;refine i.m ?_;rintro b s ⟨rfl,l⟩;go_wp2_with fail;refine(j _).m ?_;rintro b u ⟨rfl,m⟩;have e:=I (l.r m);go_wp2_with fail;refine(h _ e).m ?_;rintro b v ⟨rfl,o⟩;go_wp2;go_ret;exact⟨by simp,e.r o⟩
end Go.Proofs.YtaekdjbnldlklaaGreatDoor
