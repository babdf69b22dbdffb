/- CutTrue. -/
import Derived.Test.YtncaoclhlfkdoaaGreatPCutL
import Derived.Test.YtncaoclhlfkdoaaGreatPCutM
set_option linter.unusedVariables false
set_option maxRecDepth 100000
set_option maxHeartbeats 8000000
set_option linter.unusedSimpArgs false
set_option linter.unusedVariables false
namespace Go.Proofs.YtncaoclhlfkdoaaGreat
open Go.RowKit
open List renaming getElem_toArray→zA,getElem_cons_zero→zB,getElem_cons_succ→zC,setIfInBounds_toArray→zD,set_cons_zero→zE,set_cons_succ→zF
theorem cut_told {s S:State} {q:Int} {f:List Run} {m d:List Int} (h:changeR s q f=(S,m,d,0)):stateE S=0∧S.Clock=s.Clock∧S.Next=s.Next∧S.Books.length+d.length=s.Books.length ∧
  ∀ (i:Nat) (x:Book),s.Books[i]?=some x→(m.count x.Id=0∧d.count x.Id=1∧findB S x.Id=(0,6)) ∨
   ∃ (n:Nat) (y:Book),d.count x.Id=0∧findB S x.Id=((n:Int),0)∧S.Books[n]?=some y∧y.Req=x.Req∧(m.count x.Id=0∧y.Bites=x.Bites∨m.count x.Id=1∧∀ z∈y.Bites,s.Clock≤z.At):=by
 obtain ⟨g1,g2,g3,k,rfl,hk,rfl,rfl,rfl⟩:=change_right h
 exact ⟨g1,rfl,rfl,cut_len g2 g3,fun i x hx=>cut_book g2 g3 hx⟩
theorem cutTrue_any (w:World) (sv:Value) (s:State) (q:Int) (rv:Value) (f:List Run) (hs:StateV w sv s) (hr:RunsV w rv f) (hq:I64 q) :
  Calls Tryz.prog 4 #[sv,.int .i64 q,rv] w fun e w'=>e=.returned (.bool true)∧Ext w w':=by
 obtain ⟨cs,rfl,tv,bv,rfl,ht,hb,_⟩:=hs
 obtain ⟨⟨⟨sc,sx,T,B⟩,m,d,er⟩,hsr⟩:∃ x,changeR s q f=x:=⟨_,rfl⟩
 have CA:=hid (fun (W:World) (h:Ext w W)=>Change_is hsr (ht.mono h) (hb.mono h) (hr.mono h) hq)
 have BG:=hid (fun (W:World)=>cutBegun_true W)
 have X0:=hid ((Ext.rf w).al (.cells #[.int .i64 s.Clock,.int .i64 s.Next,tv,bv] 25))
 have HS0:=hid (fun (V:World) (h:Ext (w.alloc (.cells #[.int .i64 s.Clock,.int .i64 s.Next,tv,bv] 25)) V)=>newState h)
 obtain ⟨qa,qc,rfl,_,_,_⟩:=ht.form
 obtain ⟨ba,bc,rfl,hb1,hb2,hb3,hbE⟩:=books_at hb
 obtain ⟨ra,rc,rfl,_,_,_⟩:=hr.form
 by_cases h0:er=0
 ·subst h0
  obtain ⟨g1,g2,g3,g4,g5⟩:=cut_told hsr
  have g2:sc=s.Clock:=g2
  have g3:sx=s.Next:=g3
  subst g2
  subst g3
  have g4:B.length+d.length=s.Books.length:=g4
  have PC:=hid (fun (W:World) (a b:Value) (h1:QueuesV W a T) (h2:BooksV W b B)=>planCheck_is g1 h1 h2)
  have HT:=hid g5
  have HBE:=hid hbE
  have HN:=hid g4
  have g4I:((B.length:Nat):Int)+((d.length:Nat):Int)=((s.Books.length:Nat):Int):=by omega
  have n1:=neF g4I
  have n2:(s.Clock != s.Clock)=false:=by simp
  have n3:(s.Next != s.Next)=false:=by simp
  clear hsr ht hb hr g1 g5 hbE g4 g4I
  generalize hN:s.Books.length=N at *
  have HNN:=hid hN
  clear hN
  generalize s.Tree.length=sn at *
  generalize f.length=fz at *
  go_enter Tryz.func4,Tryz.ntmps4
  go_wp2_with fail
  refine (CA.out _ X0.out).mono ?_
  rintro e wa ⟨u,v,mv,dv,rfl,hu,hv,hm,hd,hx⟩
  obtain ⟨ua,ca,rfl,_,_,_⟩:=hu.form
  obtain ⟨va,da,rfl,hv1,hv2,hv3,hvE⟩:=books_at hv
  obtain ⟨ma,mc,rfl,hm1,hm2,hm3,hmE⟩:=sv_at hm
  obtain ⟨na,nc,rfl,hd1,hd2,hd3,hdE⟩:=sv_at hd
  have hal:=(Ext.rf wa).al (.cells #[.int .i64 s.Clock,.int .i64 s.Next,.slice ua T.length ca,.slice va B.length da] 25)
  have HBa:=hid (fun (V:World) (h:Ext (wa.alloc (.cells #[.int .i64 s.Clock,.int .i64 s.Next,.slice ua T.length ca,.slice va B.length da] 25)) V)=>newState h)
  have HUa:=hid hu
  have HVa:=hid hv
  have HVE:=hid hvE
  have HME:=hid hmE
  have HDE:=hid hdE
  have Aa:=hid hal
  have Ga:=hid (hx.tr hal)
  have Xa:=hid (X0.out.tr Ga.out)
  obtain ⟨a0,a1,a2,a3⟩:=HS0.out wa hx
  have hlt:w.heap.size < wa.heap.size:=World.block_lt_of_cell? _ _ a0
  clear hu hv hm hd hvE hmE hdE hx hal
  go_wp2_with fail
  clear a0 a1 a2 a3 hlt
  refine (PC.out _ _ _ (HUa.out.mono Aa.out) (HVa.out.mono Aa.out)).mono ?_
  rintro e wb ⟨rfl,hx⟩
  have Kb:=hid hx
  obtain ⟨a0,a1,a2,a3⟩:=HBa.out wb hx
  obtain ⟨b0,b1,b2,b3⟩:=HS0.out wb (Ga.out.tr hx)
  clear hx
  generalize hM:m.length=M at *
  generalize hD:d.length=D at *
  generalize hBZ:B.length=BZ at *
  have HM:=hid hM
  have HD:=hid hD
  have HBZ:=hid hBZ
  clear hM hD hBZ
  go_wp2_with fail
  clear a0 a1 a2 a3 b0 b1 b2 b3 n1 n2 n3
  generalize wa.alloc (.cells #[.int .i64 s.Clock,.int .i64 s.Next,.slice ua T.length ca,.slice va BZ da] 25)=Va at *
  go_loopw [11] (fun c wr=>∃ k:Nat,c=.int .i64 k∧k≤N∧Ext Va wr) (fun c _=>N - (intOf c).toNat)
  case atStart=>exact ⟨0,rfl,Nat.zero_le _,Kb.out⟩
  case round =>
   obtain ⟨k,rfl,hk,hx⟩:=hrel
   have HX:=hid hx
   obtain ⟨b0,b1,b2,b3⟩:=HS0.out wr (Ga.out.tr hx)
   by_cases hlt:k < N
   ·have hlt':(k:Int) < (N:Int):=by omega
    obtain ⟨x,hxk⟩:=getA (f:=s.Books) (k:=k) (by rw [HNN.out];exact hlt)
    obtain ⟨fb,fo,rfl,hfb,hfe⟩:=HBE.out (by omega)
    obtain ⟨pv,biv,c0,c1,c2,c3,c4,c5,c6,hpv,hbi⟩:=ebook_cells (EBook.mono w wr fb _ x (Xa.out.tr hx) (hfe k x hxk))
    have hT:=HT.out k x hxk
    have t1:=deF (show ¬ (k:Int) < 0 by omega)
    have t2:=deF (show ¬ (N:Int)≤(k:Int) by omega)
    have t3:=deF (show ¬ N≤k by omega)
    have HTX:=hid hT
    have HEB:=hid (hfe k x hxk)
    clear hx hxk hT hfe hpv hbi c1 c2 c3 c4 c5 c6
    go_wp2_with fail
    clear b0 b1 b2 b3 c0
    generalize wr=w1 at *
    go_loopw [13,15] (fun u i wr=>∃ (j c:Nat),i=.int .i64 j∧u=.int .i64 c∧j≤M∧c≤j∧Hid (c=(m.take j).count x.Id)∧Ext Va wr) (fun _ i _=>M - (intOf i).toNat)
    case atStart=>exact ⟨0,0,rfl,rfl,Nat.zero_le _,Nat.le_refl _,hid rfl,HX.out⟩
    case round =>
     obtain ⟨j,c,rfl,rfl,hj,hcj,HC,hx⟩:=hrel
     by_cases hjl:j < M
     ·have hjl':(j:Int) < (M:Int):=by omega
      obtain ⟨n,hn⟩:=getA (f:=m) (k:=j) (by rw [HM.out];exact hjl)
      obtain ⟨mb,mo,rfl,_,hme⟩:=HME.out (by omega)
      have e0:=(Aa.out.tr hx).ce' (hme j n hn).1
      rw [Nat.mul_one] at e0
      have HNJ:=hid hn
      clear hn hme
      by_cases he:n=x.Id
      ·have q1:=eqT he
       have hcc:=HC.out
       clear he
       go_wp2_with fail
       go_roundw
       case rel=>exact ⟨j+1,c+1,by go_num,by go_num,by omega,by omega,hid (by rw [List.take_add_one,HNJ.out,List.count_append,← hcc,eq_of_beq q1];simp),hx⟩
       case measure=>simp [intOf];omega
      ·have q1:=eqF he
       have hcc:=HC.out
       have HNE:=hid he
       clear he
       go_wp2_with fail
       go_roundw
       case rel=>exact ⟨j+1,c,by go_num,rfl,by omega,by omega,hid (by rw [List.take_add_one,HNJ.out,List.count_append,← hcc];simp [HNE.out]),hx⟩
       case measure=>simp [intOf];omega
     ·obtain rfl:j=M:=by omega
      have hno:¬ (j:Int) < (j:Int):=by omega
      have hcc:c=m.count x.Id:=by have:=HC.out;rwa [List.take_of_length_le (by rw [HM.out];exact Nat.le_refl _)] at this
      have Hup:=hid hcc
      have HX2:=hid hx
      clear HC hcc hno hx
      generalize c=up at *
      go_wp2_with fail
      generalize wr=w2 at *
      go_loopw [14,16] (fun u i wr=>∃ (j c:Nat),i=.int .i64 j∧u=.int .i64 c∧j≤D∧c≤j∧Hid (c=(d.take j).count x.Id)∧Ext Va wr) (fun _ i _=>D - (intOf i).toNat)
      case atStart=>exact ⟨0,0,rfl,rfl,Nat.zero_le _,Nat.le_refl _,hid rfl,HX2.out⟩
      case round =>
       obtain ⟨j,c,rfl,rfl,hj,hcj,HC,hx⟩:=hrel
       by_cases hjl:j < D
       ·have hjl':(j:Int) < (D:Int):=by omega
        obtain ⟨n,hn⟩:=getA (f:=d) (k:=j) (by rw [HD.out];exact hjl)
        obtain ⟨mb,mo,rfl,_,hme⟩:=HDE.out (by omega)
        have e0:=(Aa.out.tr hx).ce' (hme j n hn).1
        rw [Nat.mul_one] at e0
        have HNJ:=hid hn
        clear hn hme
        by_cases he:n=x.Id
        ·have q1:=eqT he
         have hcc:=HC.out
         clear he
         go_wp2_with fail
         go_roundw
         case rel=>exact ⟨j+1,c+1,by go_num,by go_num,by omega,by omega,hid (by rw [List.take_add_one,HNJ.out,List.count_append,← hcc,eq_of_beq q1];simp),hx⟩
         case measure=>simp [intOf];omega
        ·have q1:=eqF he
         have hcc:=HC.out
         have HNE:=hid he
         clear he
         go_wp2_with fail
         go_roundw
         case rel=>exact ⟨j+1,c,by go_num,rfl,by omega,by omega,hid (by rw [List.take_add_one,HNJ.out,List.count_append,← hcc];simp [HNE.out]),hx⟩
         case measure=>simp [intOf];omega
       ·obtain rfl:j=D:=by omega
        have hno:¬ (j:Int) < (j:Int):=by omega
        have hcc:c=d.count x.Id:=by have:=HC.out;rwa [List.take_of_length_le (by rw [HD.out];exact Nat.le_refl _)] at this
        have Hdown:=hid hcc
        have HX3:=hid hx
        clear HC hcc hno hx
        generalize c=down at *
        obtain ⟨a0,a1,a2,a3⟩:=HBa.out wr HX3.out
        have HUr:=hid (HUa.out.mono (Aa.out.tr HX3.out))
        have HVr:=hid (HVa.out.mono (Aa.out.tr HX3.out))
        rcases HTX.out with ⟨g1,g2,g3⟩ | ⟨n,y,g1,g3,hn,hyr,hor⟩
        ·obtain rfl:up=0:=Hup.out.trans g1
         obtain rfl:down=1:=Hdown.out.trans g2
         have FB:=hid (planFind_is g3 HUr.out HVr.out)
         clear Hup Hdown HTX g1 g2 g3
         go_wp2_with fail
         refine FB.out.mono ?_
         rintro e w4 ⟨rfl,hx4⟩
         have HX4:=hid (HX3.out.tr hx4)
         clear a0 a1 a2 a3 FB hx4
         go_wp2_with fail
         go_roundw
         case rel=>exact ⟨k+1,by go_num,by omega,HX4.out⟩
         case measure=>simp [intOf];omega
        ·obtain rfl:down=0:=Hdown.out.trans g1
         have FB:=hid (planFind_is g3 HUr.out HVr.out)
         have hnB:n < BZ:=by rw [← HBZ.out];exact (List.getElem?_eq_some_iff.1 hn).1
         obtain ⟨xb,xo,rfl,hxb,hxe⟩:=HVE.out (by omega)
         have HYE:=hid (hxe n y hn)
         have HYR:=hid hyr
         have HOR:=hid hor
         have u1:=deF (show ¬ (n:Int) < 0 by omega)
         have u2:=deF (show ¬ (BZ:Int)≤(n:Int) by omega)
         have u3:=deF (show ¬ BZ≤n by omega)
         have u4:¬ (BZ:Int)≤(n:Int):=by omega
         have hup1:up≤1:=by rcases hor with h | h <;> (have:=Hup.out;omega)
         have v1:=deF (show ¬ (up:Int)+((0:Nat):Int) > 1 by omega)
         have v2:=deF (show ¬ 1 < (up:Int) by omega)
         have v3:¬ 1 < (up:Int):=by omega
         clear Hdown HTX g1 g3 hn hyr hor hxb hxe
         go_wp2_with fail
         refine FB.out.mono ?_
         rintro e w4 ⟨rfl,hx4⟩
         have HX4:=hid (HX3.out.tr hx4)
         clear a0 a1 a2 a3 FB hx4
         obtain ⟨_,_,_,a3⟩:=HBa.out w4 HX4.out
         obtain ⟨b0,_,_,b3⟩:=HS0.out w4 (Ga.out.tr HX4.out)
         obtain ⟨pv2,bv2,_,d1,d2,d3,d4,d5,d6,hpv2,hbv2⟩:=ebook_cells (EBook.mono wa w4 xb _ y (Aa.out.tr HX4.out) HYE.out)
         obtain ⟨pv1,bv1,_,c1,c2,c3,c4,c5,c6,hpv1,hbv1⟩:=ebook_cells (EBook.mono w w4 fb _ x (Xa.out.tr HX4.out) HEB.out)
         rw [HYR.out] at d1 d2 d3 d4 hpv2
         have ML1:=hid (fun p:Later w4=>later_of p (v:=.bool true) (sameReqs_yes p.v pv2 pv1 x.Req (hpv2.mono p.h) (hpv1.mono p.h)))
         have HG2:=hid hbv2
         have HG1:=hid hbv1
         have C6:=hid c6
         have D6:=hid d6
         obtain ⟨pa2,pc2,rfl,_,_,_⟩:=hpv2.form
         obtain ⟨pa1,pc1,rfl,_,_,_⟩:=hpv1.form
         obtain ⟨ga2,gc2,rfl,gl2,_,_,hgE⟩:=bites_at hbv2
         have HGE:=hid hgE
         obtain ⟨ga1,gc1,rfl,gl1,_,_⟩:=hbv1.form
         clear hpv1 hpv2 hbv1 hbv2 c6 d6 pv biv hgE
         generalize x.Req.Pieces.length=pn at *
         go_wp2_with fail
         replace a3:=fun p:Later w4=>p.cell a3
         replace b3:=fun p:Later w4=>p.cell b3
         replace c1:=fun p:Later w4=>p.cell c1
         replace c2:=fun p:Later w4=>p.cell c2
         replace c3:=fun p:Later w4=>p.cell c3
         replace c4:=fun p:Later w4=>p.cell c4
         replace c5:=fun p:Later w4=>p.cell c5
         replace d1:=fun p:Later w4=>p.cell d1
         replace d2:=fun p:Later w4=>p.cell d2
         replace d3:=fun p:Later w4=>p.cell d3
         replace d4:=fun p:Later w4=>p.cell d4
         replace d5:=fun p:Later w4=>p.cell d5
         clear b0
         refine region_later (by kernel_rfl) (by kernel_rfl) ?_
         repeat (go_big_quiet_step (first | with_reducible exact ML1.out _))
         refine wpQuiet_nil ?_
         rintro w' ⟨p,rfl⟩
         have HX5:=hid (HX4.out.tr p.h)
         have H45:=hid p.h
         clear ML1 a3 b3 c1 c2 c3 c4 c5 d1 d2 d3 d4 d5
         generalize p.v=w5 at *
         go_wp2_with fail
         rcases HOR.out with ⟨ho1,ho2⟩ | ⟨ho1,ho2⟩
         ·obtain rfl:up=0:=Hup.out.trans ho1
          have HB2:=HG2.out.mono H45.out
          have HB1:=HG1.out.mono H45.out
          rw [ho2] at HB2 gl2 D6
          have ML2:=hid (fun p:Later w5=>later_of p (v:=.bool true) (sameBites_yes (HB2.mono p.h) (HB1.mono p.h)))
          obtain ⟨_,_,_,a3⟩:=HBa.out w5 HX5.out
          obtain ⟨b0,_,_,b3⟩:=HS0.out w5 (Ga.out.tr HX5.out)
          have c6:=H45.out.ce' C6.out
          have d6:=H45.out.ce' D6.out
          clear HB1 HB2 Hup b0 HGE gl2
          replace a3:=fun p:Later w5=>p.cell a3
          replace b3:=fun p:Later w5=>p.cell b3
          replace c6:=fun p:Later w5=>p.cell c6
          replace d6:=fun p:Later w5=>p.cell d6
          generalize x.Bites.length=zb at *
          refine region_later (by kernel_rfl) (by kernel_rfl) ?_
          repeat (go_big_quiet_step (first | with_reducible exact ML2.out _))
          refine wpQuiet_nil ?_
          rintro w' ⟨p,rfl⟩
          have HX6:=hid (HX5.out.tr p.h)
          have H46:=hid (H45.out.tr p.h)
          clear ML2 a3 b3 c6 d6
          generalize p.v=w6 at *
          obtain ⟨_,_,_,a3⟩:=HBa.out w6 HX6.out
          have d6:=H46.out.ce' D6.out
          go_wp2_with fail
          refine wp_loop_rounds 1 ?_
          rw [rounds_succ]
          by_cases hz:(0:Int) < (zb:Int)
          ·go_wp2_with fail
           go_roundw
           case rel=>exact ⟨k+1,by go_num,by omega,HX6.out⟩
           case measure=>simp [intOf];omega
          ·go_wp2_with fail
           go_roundw
           case rel=>exact ⟨k+1,by go_num,by omega,HX6.out⟩
           case measure=>simp [intOf];omega
         ·obtain rfl:up=1:=Hup.out.trans ho1
          obtain ⟨_,_,_,a3⟩:=HBa.out w5 HX5.out
          obtain ⟨b0,_,_,b3⟩:=HS0.out w5 (Ga.out.tr HX5.out)
          have c6:=H45.out.ce' C6.out
          have d6:=H45.out.ce' D6.out
          generalize hyl:y.Bites.length=yl at *
          have HYL:=hid hyl
          have HO2:=hid ho2
          clear Hup HOR hyl ho2
          go_quiet (fail)
          have HX6:=hid (HX5.out.tr ((Ext.rf w5).dn nq))
          have H46:=hid (H45.out.tr ((Ext.rf w5).dn nq))
          clear a3 b0 b3 c6 d6
          generalize w5.drewN nq=w6 at *
          go_wp2_with fail
          go_loopw [19] (fun i wr=>∃ j:Nat,i=.int .i64 j∧j≤yl∧Ext w6 wr) (fun i _=>yl - (intOf i).toNat)
          case atStart=>exact ⟨0,rfl,Nat.zero_le _,Ext.rf _⟩
          case round =>
           obtain ⟨j,rfl,hj,hx⟩:=hrel
           have HXr:=hid (HX6.out.tr hx)
           obtain ⟨_,_,_,a3⟩:=HBa.out wr HXr.out
           obtain ⟨b0,_,_,_⟩:=HS0.out wr (Ga.out.tr HXr.out)
           have d6:=(H46.out.tr hx).ce' D6.out
           by_cases hjl:j < yl
           ·have hjl':(j:Int) < (yl:Int):=by omega
            obtain ⟨z,hz⟩:=getA (f:=y.Bites) (k:=j) (by rw [HYL.out];exact hjl)
            obtain ⟨gb,go,rfl,_,hge⟩:=HGE.out (by omega)
            have z1:=(H46.out.tr hx).ce' (hge j z hz).2.1
            have z2:=deF (show ¬ z.At < s.Clock from by have:=HO2.out z (List.mem_of_getElem? hz);omega)
            have z3:=deF (show ¬ (j:Int) < 0 by omega)
            have z4:=deF (show ¬ (yl:Int)≤(j:Int) by omega)
            have z5:=deF (show ¬ yl≤j by omega)
            clear hge hz
            go_wp2_with fail
            go_quiet (fail)
            go_wp2_with fail
            go_roundw
            case rel=>exact ⟨j+1,by go_num,by omega,hx.dn _⟩
            case measure=>simp [intOf];omega
           ·obtain rfl:j=yl:=by omega
            have hno:¬ (j:Int) < (j:Int):=by omega
            go_wp2_with fail
            go_roundw
            case rel=>exact ⟨k+1,by go_num,by omega,HXr.out⟩
            case measure=>simp [intOf];omega
   ·obtain rfl:k=N:=by omega
    have hno:¬ (k:Int) < (k:Int):=by omega
    clear hlt
    go_wp2_with fail
    refine (BG.out _).mono ?_
    rintro e wz ⟨rfl,hz⟩
    go_wp2_with fail
    go_ret
    exact ⟨rfl,Xa.out.tr (HX.out.tr hz)⟩
 ·have e1:=neT h0
  clear hsr ht hb hr hbE
  generalize s.Tree.length=sn at *
  generalize s.Books.length=sz at *
  generalize f.length=fz at *
  go_enter Tryz.func4,Tryz.ntmps4
  go_wp2_with fail
  refine (CA.out _ X0.out).mono ?_
  rintro e wa ⟨u,v,mv,dv,rfl,hu,hv,hm,hd,hx⟩
  obtain ⟨ua,ca,rfl,_,_,_⟩:=hu.form
  obtain ⟨va,da,rfl,_,_,_⟩:=hv.form
  obtain ⟨ma,mc,rfl,_,_,_⟩:=hm.form
  obtain ⟨na,nc,rfl,_,_,_⟩:=hd.form
  have hal:=(Ext.rf wa).al (.cells #[.int .i64 sc,.int .i64 sx,.slice ua T.length ca,.slice va B.length da] 25)
  have Xa:=hid (X0.out.tr (hx.tr hal))
  clear hu hv hm hd hx hal
  go_wp2_with fail
  refine (BG.out _).mono ?_
  rintro e wz ⟨rfl,hz⟩
  go_wp2_with fail
  go_ret
  exact ⟨rfl,Xa.out.tr hz⟩
end Go.Proofs.YtncaoclhlfkdoaaGreat
