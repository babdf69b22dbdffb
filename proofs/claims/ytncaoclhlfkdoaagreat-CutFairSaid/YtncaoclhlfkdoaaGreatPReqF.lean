/- requests of the field -/
import Derived.Test.YtncaoclhlfkdoaaGreatPReqP
import Derived.Test.YtncaoclhlfkdoaaGreatPUp
import Derived.Test.YtncaoclhlfkdoaaGreatPLoadB
/- Walk of the reference's MeetsOf. -/
set_option linter.unusedVariables false
set_option maxRecDepth 100000
set_option maxHeartbeats 8000000
set_option linter.unusedSimpArgs false
set_option linter.unusedVariables false
namespace Go.Proofs.YtncaoclhlfkdoaaGreat
open Go.RowKit
open List renaming getElem_toArray→zA,getElem_cons_zero→zB,getElem_cons_succ→zC,setIfInBounds_toArray→zD,set_cons_zero→zE,set_cons_succ→zF
theorem meetsR_refno {r:Request} {b:List Bite} (hr:ReqOk r) {k:Nat} (hk:k < b.length) (h:¬ RefOk r b k):meetsR r b=false:=by
 rw [Bool.eq_false_iff];exact fun h'=>h (((meetsR_ref hr).1 h').1 k hk)
theorem meetsR_any {r:Request} {b:List Bite} (hr:ReqOk r) (h:∀ k,k < b.length→RefOk r b k) (h2:r.Kind=2):meetsR r b=decide (b.length=1):=by
 by_cases hz:b.length=1
 ·rw [decide_eq_true hz];exact (meetsR_ref hr).2 ⟨h,by rw [if_pos h2];exact hz⟩
 ·rw [decide_eq_false hz,Bool.eq_false_iff];exact fun h'=>hz (by have:=((meetsR_ref hr).1 h').2;rw [if_pos h2] at this;exact this)
theorem meetsR_many {r:Request} {b:List Bite} (hr:ReqOk r) (h2:¬ r.Kind=2) (hz:b.length≠r.Pieces.length):meetsR r b=false:=by
 rw [Bool.eq_false_iff];exact fun h'=>hz (by have:=((meetsR_ref hr).1 h').2;rw [if_neg h2] at this;exact this.1)
theorem meetsR_link {r:Request} {b:List Bite} (hr:ReqOk r) (h2:¬ r.Kind=2) {k:Nat} (hk0:0 < k) (hk:k < b.length) (h:¬ LinkOk r b k):meetsR r b=false:=by
 rw [Bool.eq_false_iff];exact fun h'=>h (by have:=((meetsR_ref hr).1 h').2;rw [if_neg h2] at this;exact this.2 k hk0 hk)
theorem meetsR_all {r:Request} {b:List Bite} (hr:ReqOk r) (h:∀ k,k < b.length→RefOk r b k) (h2:¬ r.Kind=2) (hz:b.length=r.Pieces.length) (hl:∀ k,0 < k→k < b.length→LinkOk r b k):meetsR r b=true :=
 (meetsR_ref hr).2 ⟨h,by rw [if_neg h2];exact ⟨hz,hl⟩⟩
theorem MeetsOf_ok (w:World) (pv bv:Value) (r:Request) (b:List Bite) (hr:ReqOk r) (hv:PiecesV w pv r.Pieces) (hb:BitesV w bv b) :
  Calls Tryz.prog 181 #[.agg #[.int .i64 r.Queue,.int .i64 r.From,.int .i64 r.Until,.int .i64 r.Kind,pv],bv] w fun e w'=>e=.returned (.bool (meetsR r b))∧Ext w w':=by
 have S:=hid (fun (W:World) (h:Ext w W)=>shaped_any W pv r (hv.mono h))
 rw [deT hr] at S
 obtain ⟨m1,m3⟩:=hr.many
 obtain ⟨s1,s2,s3⟩:=hr.range.1
 have HPk:=hid hr.range.2
 have HB:=hid (fun (k:Nat) (hk:k < b.length) (h:¬ RefOk r b k)=>meetsR_refno hr hk h)
 have HA:=hid (fun (h:∀ k,k < b.length→RefOk r b k) (h2:r.Kind=2)=>meetsR_any hr h h2)
 have HM:=hid (fun (h2:¬ r.Kind=2) (hz:b.length≠r.Pieces.length)=>meetsR_many hr h2 hz)
 have HLL:=hid (fun (h2:¬ r.Kind=2) (k:Nat) (hk0:0 < k) (hk:k < b.length) (h:¬ LinkOk r b k)=>meetsR_link hr h2 hk0 hk h)
 have HAll:=hid (fun (h:∀ k,k < b.length→RefOk r b k) (h2:¬ r.Kind=2) (hz:b.length=r.Pieces.length) (hl:∀ k,0 < k→k < b.length→LinkOk r b k)=>meetsR_all hr h h2 hz hl)
 obtain ⟨pb,po,pc,rfl,hpc,hpc9,hpb,hpE⟩:=pieces_at hv m1
 obtain ⟨ba,bc,rfl,hbc,hbc9,hbl,hbE⟩:=bites_at hb
 have HPE:=hid hpE
 have HBE:=hid hbE
 have hk1:=hr.kind.1
 have hk4:=hr.kind.2
 clear hv hb hpE hbE hr
 generalize hn:r.Pieces.length=n at *
 have Hn:=hid hn
 generalize hz:b.length=z at *
 have Hz:=hid hz
 clear hn hz
 go_enter Tryz.func181,Tryz.ntmps181
 go_wp2_with fail
 refine (S.out _ ((Ext.rf w).al _)).mono ?_
 rintro e w1 ⟨rfl,hx1⟩
 have hal:=hid (((Ext.rf w).al _).tr hx1)
 have Hbox:=hid (fun (W:World) (h:Ext w1 W)=>reqCells (hx1.tr h))
 have hBw:w.heap.size < w1.heap.size:=by have:=hx1.size;simp at this;omega
 clear hx1
 go_wp2_with fail
 go_loopw [5] (fun c wr=>∃ k:Nat,c=.int .i64 k∧k≤z∧Hid (∀ j,j < k→RefOk r b j)∧Ext w1 wr) (fun c _=>z - (intOf c).toNat)
 case atStart=>exact ⟨0,rfl,by omega,hid (fun j hj=>absurd hj (Nat.not_lt_zero _)),Ext.rf _⟩
 case round =>
  obtain ⟨k,rfl,hk,Hall,hx⟩:=hrel
  have hxw:=hal.out.tr hx
  have hsz:=hx.size
  have hBr:w.heap.size < wr.heap.size:=by omega
  have hpr:pb < wr.heap.size:=by omega
  obtain ⟨z0,z1,z2,z3,z4⟩:=Hbox.out wr hx
  by_cases hlt:k < z
  ·have hlt':(k:Int) < (z:Int):=by omega
   obtain ⟨bb,bo,rfl,hbb,hbE⟩:=HBE.out (by omega)
   have HbE:=hid hbE
   obtain ⟨x,hxk⟩:=getA (f:=b) (k:=k) (by rw [Hz.out];exact hlt)
   obtain ⟨e1,e2⟩:=bite_at hxk
   obtain ⟨c1,c2,_,_⟩:=E2.mono w wr bb _ x hxw (hbE k x hxk)
   have hbr:bb < wr.heap.size:=by omega
   clear hbE
   by_cases t1:0≤x.Piece∧x.Piece≤(n:Int) - 1
   ·have W1:=hid (fun (W:World)=>within_yes x.Piece 0 ((n:Int) - 1) W t1.1 t1.2)
    obtain ⟨t1a,t1b⟩:=t1
    by_cases hk0:k=0
    ·subst hk0
     rw [Nat.zero_mul,Nat.add_zero] at c1 c2
     have hp0:True:=trivial
     by_cases t3:x.At < r.From
     ·have t3d:=deT t3
      have Hr:=hid (HB.out 0 hlt (fun h=>by have:=h.from_;rw [e2] at this;omega))
      clear hxk e1 e2 Hall hp0
      go_wp2_with fail
      go_quiet ((with_reducible exact Calls.quiet_of_same (W1.out _)))
      go_wp2_with fail
      go_quiet (fail)
      go_wp2_with fail
      go_ret
      exact ⟨(congrArg (fun b=>Ending.returned (.bool b)) Hr.out).symm,by first | exact hal.out.tr (hx.dn _) | exact hal.out.tr ((hx.dn _).dn _)⟩
     ·have t3d:=deF t3
      by_cases t4:r.Until < x.At
      ·have t4d:=deT t4
       have Hr:=hid (HB.out 0 hlt (fun h=>by have:=h.until_;rw [e2] at this;omega))
       clear hxk e1 e2 Hall hp0
       go_wp2_with fail
       go_quiet ((with_reducible exact Calls.quiet_of_same (W1.out _)))
       go_wp2_with fail
       go_quiet (fail)
       go_wp2_with fail
       go_ret
       exact ⟨(congrArg (fun b=>Ending.returned (.bool b)) Hr.out).symm,by first | exact hal.out.tr (hx.dn _) | exact hal.out.tr ((hx.dn _).dn _)⟩
      ·have t4d:=deF t4
       obtain ⟨j,hpj⟩:∃ j:Nat,x.Piece=j:=⟨x.Piece.toNat,by omega⟩
       have hjn:j < n:=by omega
       obtain ⟨y,hyk⟩:=getA (f:=r.Pieces) (k:=j) (by rw [Hn.out];exact hjn)
       obtain ⟨ey,_⟩:=piece_at hyk
       obtain ⟨d1,_,_,_⟩:=E2.mono w wr pb _ y hxw (HPE.out j y hyk)
       obtain ⟨⟨l1,l2⟩,_⟩:=HPk.out y (List.mem_of_getElem? hyk)
       rw [hpj] at c1 W1
       have hwr:(IntKind.i64.wrap (r.Until - y.Len))=r.Until - y.Len:=by rw [IntKind.wrap_i64];omega
       by_cases t5:r.Until - y.Len < x.At
       ·have t5d:=deT t5
        have Hr:=hid (HB.out 0 hlt (fun h=>by have:=h.fits;rw [e1,e2,hpj,Int.toNat_natCast,ey] at this;omega))
        clear hxk e1 e2 Hall hyk ey hpj hp0
        go_wp2_with fail
        go_quiet ((with_reducible exact Calls.quiet_of_same (W1.out _)))
        go_wp2_with fail
        go_quiet (fail)
        go_wp2_with fail
        go_ret
        exact ⟨(congrArg (fun b=>Ending.returned (.bool b)) Hr.out).symm,by first | exact hal.out.tr (hx.dn _) | exact hal.out.tr ((hx.dn _).dn _)⟩
       ·have t5d:=deF t5
        have Hs:=hid (show ∀ i,i < 0+1→RefOk r b i from fun i hi=>by
         by_cases e:i=0
         ·subst e
          exact ⟨by rw [e1];omega,by rw [e1,Hn.out];omega,fun h=>absurd h (Nat.lt_irrefl _),by rw [e2];omega,by rw [e2];omega,by rw [e1,e2,hpj,Int.toNat_natCast,ey];omega⟩
         ·exact Hall.out i (by omega))
        clear hxk e1 e2 Hall hyk ey hpj hp0
        go_wp2_with fail
        go_quiet ((with_reducible exact Calls.quiet_of_same (W1.out _)))
        go_wp2_with fail
        go_quiet (fail)
        clear hwr
        go_wp2_with fail
        go_roundw
        case rel=>exact ⟨0+1,by first | rfl | go_num,by omega,Hs,hx.dn _⟩
        case measure=>simp [intOf];omega
    ·have hkd:0 < k:=by omega
     have hkd2:=deT hkd
     have hkp:(0:Int) < (k:Int):=by omega
     obtain ⟨u,huk⟩:=getA (f:=b) (k:=k - 1) (by rw [Hz.out];omega)
     obtain ⟨f1,f2⟩:=bite_at huk
     obtain ⟨g1,_,_,_⟩:=E2.mono w wr bb _ u hxw (HbE.out (k - 1) u huk)
     by_cases t2:x.Piece≤u.Piece
     ·have t2d:=deT t2
      have hp0:True:=trivial
      have Hr:=hid (HB.out k hlt (fun h=>by have:=h.up hkd;rw [e1,f1] at this;omega))
      clear hxk e1 e2 Hall huk f1 f2 hp0 hk0
      go_wp2_with fail
      go_quiet ((with_reducible exact Calls.quiet_of_same (W1.out _)))
      go_wp2_with fail
      go_ret
      exact ⟨(congrArg (fun b=>Ending.returned (.bool b)) Hr.out).symm,by first | exact hal.out.tr (hx.dn _) | exact hal.out.tr ((hx.dn _).dn _)⟩
     ·have t2d:=deF t2
      have hp0:=hid (show bP b (k - 1) < bP b k from by rw [e1,f1];omega)
      clear huk f1 f2 hk0
      by_cases t3:x.At < r.From
      ·have t3d:=deT t3
       have Hr:=hid (HB.out k hlt (fun h=>by have:=h.from_;rw [e2] at this;omega))
       clear hxk e1 e2 Hall hp0
       go_wp2_with fail
       go_quiet ((with_reducible exact Calls.quiet_of_same (W1.out _)))
       go_wp2_with fail
       go_quiet (fail)
       go_wp2_with fail
       go_ret
       exact ⟨(congrArg (fun b=>Ending.returned (.bool b)) Hr.out).symm,by first | exact hal.out.tr (hx.dn _) | exact hal.out.tr ((hx.dn _).dn _)⟩
      ·have t3d:=deF t3
       by_cases t4:r.Until < x.At
       ·have t4d:=deT t4
        have Hr:=hid (HB.out k hlt (fun h=>by have:=h.until_;rw [e2] at this;omega))
        clear hxk e1 e2 Hall hp0
        go_wp2_with fail
        go_quiet ((with_reducible exact Calls.quiet_of_same (W1.out _)))
        go_wp2_with fail
        go_quiet (fail)
        go_wp2_with fail
        go_ret
        exact ⟨(congrArg (fun b=>Ending.returned (.bool b)) Hr.out).symm,by first | exact hal.out.tr (hx.dn _) | exact hal.out.tr ((hx.dn _).dn _)⟩
       ·have t4d:=deF t4
        obtain ⟨j,hpj⟩:∃ j:Nat,x.Piece=j:=⟨x.Piece.toNat,by omega⟩
        have hjn:j < n:=by omega
        obtain ⟨y,hyk⟩:=getA (f:=r.Pieces) (k:=j) (by rw [Hn.out];exact hjn)
        obtain ⟨ey,_⟩:=piece_at hyk
        obtain ⟨d1,_,_,_⟩:=E2.mono w wr pb _ y hxw (HPE.out j y hyk)
        obtain ⟨⟨l1,l2⟩,_⟩:=HPk.out y (List.mem_of_getElem? hyk)
        rw [hpj] at c1 W1
        have t2j:=deF (show ¬ (j:Int)≤u.Piece by omega)
        have hwr:(IntKind.i64.wrap (r.Until - y.Len))=r.Until - y.Len:=by rw [IntKind.wrap_i64];omega
        by_cases t5:r.Until - y.Len < x.At
        ·have t5d:=deT t5
         have Hr:=hid (HB.out k hlt (fun h=>by have:=h.fits;rw [e1,e2,hpj,Int.toNat_natCast,ey] at this;omega))
         clear hxk e1 e2 Hall hyk ey hpj hp0
         go_wp2_with fail
         go_quiet ((with_reducible exact Calls.quiet_of_same (W1.out _)))
         go_wp2_with fail
         go_quiet (fail)
         go_wp2_with fail
         go_ret
         exact ⟨(congrArg (fun b=>Ending.returned (.bool b)) Hr.out).symm,by first | exact hal.out.tr (hx.dn _) | exact hal.out.tr ((hx.dn _).dn _)⟩
        ·have t5d:=deF t5
         have Hs:=hid (show ∀ i,i < k+1→RefOk r b i from fun i hi=>by
          by_cases e:i=k
          ·subst e
           exact ⟨by rw [e1];omega,by rw [e1,Hn.out];omega,fun _=>hp0.out,by rw [e2];omega,by rw [e2];omega,by rw [e1,e2,hpj,Int.toNat_natCast,ey];omega⟩
          ·exact Hall.out i (by omega))
         clear hxk e1 e2 Hall hyk ey hpj hp0
         go_wp2_with fail
         go_quiet ((with_reducible exact Calls.quiet_of_same (W1.out _)))
         go_wp2_with fail
         go_quiet (fail)
         clear hwr
         go_wp2_with fail
         go_roundw
         case rel=>exact ⟨k+1,by first | rfl | go_num,by omega,Hs,hx.dn _⟩
         case measure=>simp [intOf];omega
   ·have W1:=hid (fun (W:World)=>within_no x.Piece 0 ((n:Int) - 1) W t1)
    have Hr:=hid (HB.out k hlt (fun h=>by exact t1 ⟨by have:=h.low;rw [e1] at this;exact this,by have:=h.is;rw [e1,Hn.out] at this;exact this⟩))
    clear hxk e1 e2 Hall t1
    go_wp2_with fail
    go_quiet ((with_reducible exact Calls.quiet_of_same (W1.out _)))
    go_wp2_with fail
    go_ret
    exact ⟨(congrArg (fun b=>Ending.returned (.bool b)) Hr.out).symm,by first | exact hal.out.tr (hx.dn _) | exact hal.out.tr ((hx.dn _).dn _)⟩
  ·have hlt':¬ (k:Int) < (z:Int):=by omega
   obtain rfl:k=z:=by omega
   by_cases k2:r.Kind=2
   ·have k2t:=eqT k2
    have HR:=hid (HA.out (fun j hj=>Hall.out j hj) k2)
    by_cases hz1:(k:Int)=1
    ·have hzt:=eqT hz1
     have Hr:=hid (show meetsR r b=true from by rw [HR.out];exact decide_eq_true (by omega))
     clear Hall k2 hz1
     go_wp2_with fail
     go_ret
     exact ⟨(congrArg (fun b=>Ending.returned (.bool b)) Hr.out).symm,hal.out.tr hx⟩
    ·have hzt:=eqF hz1
     have Hr:=hid (show meetsR r b=false from by rw [HR.out];exact decide_eq_false (by omega))
     clear Hall k2 hz1
     go_wp2_with fail
     go_ret
     exact ⟨(congrArg (fun b=>Ending.returned (.bool b)) Hr.out).symm,hal.out.tr hx⟩
   ·have k2f:=eqF k2
    by_cases hz1:(k:Int)=(n:Int)
    ·have hzt:=neF hz1
     have HLB:=hid (HLL.out k2)
     have HRU:=hid (show ∀ j,j < k→0≤bA b j∧bA b j≤48 from fun j hj=>by have h1:=(Hall.out j hj).from_;have h2:=(Hall.out j hj).until_;omega)
     have HR:=hid (fun (hl:∀ j,0 < j→j < k→LinkOk r b j)=>HAll.out (fun j hj=>Hall.out j hj) k2 (by omega) hl)
     have hkn:k=n:=by omega
     clear Hall hz1
     subst hkn
     obtain ⟨bb,bo,rfl,hbb,hbE⟩:=HBE.out (by omega)
     have HbE:=hid hbE
     clear hbE
     go_wp2_with fail
     clear z0 z1 z2 z3 z4
     go_loopw [6] (fun c wr2=>∃ i:Nat,c=.int .i64 i∧1≤i∧i≤k∧Hid (∀ j,0 < j→j < i→LinkOk r b j)∧Ext w1 wr2) (fun c _=>k - (intOf c).toNat)
     case atStart=>exact ⟨1,rfl,by omega,by omega,hid (fun j h1 hj=>by omega),hx⟩
     case round =>
      obtain ⟨i,rfl,hi1,hi,Hall,hx⟩:=hrel
      have hxw:=hal.out.tr hx
      have hsz:=hx.size
      have hBr:w.heap.size < wr.heap.size:=by omega
      have hpr:pb < wr.heap.size:=by omega
      have hbr:bb < wr.heap.size:=by omega
      obtain ⟨z0,z1,z2,z3,z4⟩:=Hbox.out wr hx
      by_cases hlti:i < k
      ·have hlti':(i:Int) < (k:Int):=by omega
       obtain ⟨x,hxk⟩:=getA (f:=b) (k:=i) (by rw [Hz.out];exact hlti)
       obtain ⟨e1,e2⟩:=bite_at hxk
       obtain ⟨_,c2,_,_⟩:=E2.mono w wr bb _ x hxw (HbE.out i x hxk)
       obtain ⟨u,huk⟩:=getA (f:=b) (k:=i - 1) (by rw [Hz.out];omega)
       obtain ⟨f1,f2⟩:=bite_at huk
       obtain ⟨_,g2,gi,_⟩:=E2.mono w wr bb _ u hxw (HbE.out (i - 1) u huk)
       obtain ⟨y,hyk⟩:=getA (f:=r.Pieces) (k:=i - 1) (by rw [Hn.out];omega)
       obtain ⟨ey,_⟩:=piece_at hyk
       obtain ⟨d1,_,_,_⟩:=E2.mono w wr pb _ y hxw (HPE.out (i - 1) y hyk)
       obtain ⟨⟨l1,l2⟩,_⟩:=HPk.out y (List.mem_of_getElem? hyk)
       have hRu:=HRU.out (i - 1) (by omega)
       rw [f2] at hRu
       obtain ⟨hRu1,hRu2⟩:=hRu
       have hwr:(IntKind.i64.wrap (u.At+y.Len))=u.At+y.Len:=by rw [IntKind.wrap_i64];omega
       by_cases k3:r.Kind=3
       ·have k3t:=eqT k3
        have k4f:=eqF (show ¬ r.Kind=4 by omega)
        by_cases t6:x.At < u.At+y.Len
        ·have t6d:=deT t6
         have Hr:=hid (HLB.out i (by omega) hlti (fun h=>by have:=h.order k3;rw [e2,f2,ey] at this;omega))
         clear hxk e1 e2 huk f1 f2 hyk ey Hall k3
         go_wp2_with fail
         go_quiet (fail)
         clear hwr
         go_wp2_with fail
         go_ret
         exact ⟨(congrArg (fun b=>Ending.returned (.bool b)) Hr.out).symm,hal.out.tr (hx.dn _)⟩
        ·have t6d:=deF t6
         have Hs:=hid (show ∀ q,0 < q→q < i+1→LinkOk r b q from fun q h1 hq=>by
          by_cases e:q=i
          ·subst e
           exact ⟨fun _=>by rw [e2,f2,ey];omega,fun h4=>by omega⟩
          ·exact Hall.out q h1 (by omega))
         clear hxk e1 e2 huk f1 f2 hyk ey Hall k3
         go_wp2_with fail
         go_quiet (fail)
         clear hwr
         go_wp2_with fail
         go_roundw
         case rel=>exact ⟨i+1,by go_num,by omega,by omega,Hs,hx.dn _⟩
         case measure=>simp [intOf];omega
       ·have k3f:=eqF k3
        by_cases k4:r.Kind=4
        ·have k4t:=eqT k4
         by_cases t7:x.At=u.At+y.Len
         ·have t7d:=neF t7
          have Hs:=hid (show ∀ q,0 < q→q < i+1→LinkOk r b q from fun q h1 hq=>by
           by_cases e:q=i
           ·subst e
            exact ⟨fun h3=>absurd h3 k3,fun _=>by rw [e2,f2,ey];exact t7⟩
           ·exact Hall.out q h1 (by omega))
          clear hxk e1 e2 huk f1 f2 hyk ey Hall k3 k4 t7
          go_wp2_with fail
          go_quiet (fail)
          clear hwr
          go_wp2_with fail
          go_roundw
          case rel=>exact ⟨i+1,by go_num,by omega,by omega,Hs,hx.dn _⟩
          case measure=>simp [intOf];omega
         ·have t7d:=neT t7
          have Hr:=hid (HLB.out i (by omega) hlti (fun h=>t7 (by have:=h.tight k4;rw [e2,f2,ey] at this;exact this)))
          clear hxk e1 e2 huk f1 f2 hyk ey Hall k3 k4 t7
          go_wp2_with fail
          go_quiet (fail)
          clear hwr
          go_wp2_with fail
          go_ret
          exact ⟨(congrArg (fun b=>Ending.returned (.bool b)) Hr.out).symm,hal.out.tr (hx.dn _)⟩
        ·have k4f:=eqF k4
         have Hs:=hid (show ∀ q,0 < q→q < i+1→LinkOk r b q from fun q h1 hq=>by
          by_cases e:q=i
          ·subst e
           exact ⟨fun h3=>absurd h3 k3,fun h4=>absurd h4 k4⟩
          ·exact Hall.out q h1 (by omega))
         clear hxk e1 e2 huk f1 f2 hyk ey Hall k3 k4
         go_wp2_with fail
         go_quiet (fail)
         clear hwr
         go_wp2_with fail
         go_roundw
         case rel=>exact ⟨i+1,by go_num,by omega,by omega,Hs,hx.dn _⟩
         case measure=>simp [intOf];omega
      ·have hlti':¬ (i:Int) < (k:Int):=by omega
       obtain rfl:i=k:=by omega
       have Hr:=hid (HR.out (fun j h1 hj=>Hall.out j h1 hj))
       clear Hall
       go_wp2_with fail
       go_ret
       exact ⟨(congrArg (fun b=>Ending.returned (.bool b)) Hr.out).symm,hal.out.tr hx⟩
    ·have hzt:=neT hz1
     have Hr:=hid (HM.out k2 (by omega))
     clear Hall k2 hz1
     go_wp2_with fail
     go_ret
     exact ⟨(congrArg (fun b=>Ending.returned (.bool b)) Hr.out).symm,hal.out.tr hx⟩
theorem MeetsOf_any (w:World) (pv bv:Value) (r:Request) (b:List Bite) (hv:PiecesV w pv r.Pieces) (hb:BitesV w bv b) :
  Calls Tryz.prog 181 #[.agg #[.int .i64 r.Queue,.int .i64 r.From,.int .i64 r.Until,.int .i64 r.Kind,pv],bv] w fun e w'=>e=.returned (.bool (meetsR r b))∧Ext w w':=by
 by_cases hr:ReqOk r
 ·exact MeetsOf_ok w pv bv r b hr hv hb
 ·have S:=hid (fun (W:World) (h:Ext w W)=>shaped_any W pv r (hv.mono h))
  rw [deF hr] at S
  rw [meetsR_form hr]
  obtain ⟨pa,pc,rfl,hpc,_,hpl⟩:=hv.form
  obtain ⟨ba,bc,rfl,hbc,_,hbl⟩:=hb.form
  clear hv hb hr
  generalize r.Pieces.length=n at *
  generalize b.length=z at *
  go_enter Tryz.func181,Tryz.ntmps181
  go_wp2_with fail
  refine (S.out _ ((Ext.rf w).al _)).mono ?_
  rintro e w1 ⟨rfl,hx1⟩
  go_wp2_with fail
  go_ret
  exact ⟨rfl,((Ext.rf w).al _).tr hx1⟩
def sAll:ByteArray:=⟨#[97,108,108]⟩
def sNorth:ByteArray:=⟨#[110,111,114,116,104]⟩
def sSouth:ByteArray:=⟨#[115,111,117,116,104]⟩
def sBarn:ByteArray:=⟨#[98,97,114,110]⟩
def fieldL (m p n:Int):List Queue:=[⟨sAll,-1,[⟨0,m⟩]⟩,⟨sNorth,p,[⟨0,8⟩,⟨20,4⟩]⟩,⟨sSouth,0,[⟨0,n⟩]⟩,⟨sBarn,1,[⟨0,8⟩]⟩]
structure FieldAt (w:World) (B:Nat) (m p n:Int):Prop where
 r0:w.heap[B]?=some (.cells #[.int .i64 0,.int .i64 m] 70 (0,0))
 r1:w.heap[B+1]?=some (.cells #[.int .i64 0,.int .i64 8,.int .i64 20,.int .i64 4] 70 (0,0))
 r2:w.heap[B+2]?=some (.cells #[.int .i64 0,.int .i64 n] 70 (0,0))
 r3:w.heap[B+3]?=some (.cells #[.int .i64 0,.int .i64 8] 70 (0,0))
 q:w.heap[B+4]?=some (.cells #[.string sAll,.int .i64 (-1),.slice (some ⟨B,0,none⟩) 1 1,.string sNorth,.int .i64 p,.slice (some ⟨B+1,0,none⟩) 2 2,.string sSouth,.int .i64 0,.slice (some ⟨B+2,0,none⟩) 1 1,.string sBarn,.int .i64 1,.slice (some ⟨B+3,0,none⟩) 1 1] 52 (0,0))
theorem FieldAt.ext {w w':World} {B:Nat} {m p n:Int} (h:FieldAt w B m p n) (hx:Ext w w'):FieldAt w' B m p n:=by
 have k:∀ {j:Nat} {o:Obj},w.heap[j]?=some o→w'.heap[j]?=some o:=fun hj=>(hx.block _ (Array.getElem?_eq_some_iff.1 hj).1).trans hj
 exact ⟨k h.r0,k h.r1,k h.r2,k h.r3,k h.q⟩
theorem runs_of_row {w:World} {b:Nat} {cs:Array Value} {t:TypeId} {l:List Run} (h:w.heap[b]?=some (.cells cs t (0,0))) (hcs:cs=(cells2 Run.At Run.N l).toArray) (hl:l.length≤48) (hi:∀ r∈l,I64 r.At∧I64 r.N) :
  RunsV w (.slice (some ⟨b,0,none⟩) l.length l.length) l:=by
 subst hcs
 refine .inr ⟨b,0,l.length,rfl,Nat.le_refl _,by omega,by omega,(Array.getElem?_eq_some_iff.1 h).1,fun k x hk=>?_⟩
 obtain ⟨h1,h2⟩:=cells2_get Run.At Run.N l k x hk
 have h3:=hi x (List.mem_of_getElem? hk)
 refine ⟨?_,?_,h3.1,h3.2⟩
 ·rw [cell_of_row w b _ _ _ _ h,Nat.zero_add];simpa using h1
 ·rw [cell_of_row w b _ _ _ _ h,Nat.zero_add];simpa using h2
theorem FieldAt.v {w:World} {B:Nat} {m p n:Int} (h:FieldAt w B m p n) (hm:I64 m) (hp:I64 p) (hn:I64 n):QueuesV w (.slice (some ⟨B+4,0,none⟩) 4 4) (fieldL m p n):=by
 have i2:∀ {a b:Int},-100≤a→a≤100→-100≤b→b≤100→I64 a∧I64 b:=fun _ _ _ _=>⟨I64.of (by omega) (by omega),I64.of (by omega) (by omega)⟩
 have i1:∀ {a:Int},-100≤a→a≤100→I64 a:=fun _ _=>I64.of (by omega) (by omega)
 have v0:=runs_of_row (l:=[⟨0,m⟩]) h.r0 rfl (by simp) (by intro r hr;simp at hr;subst hr;exact ⟨i1 (a:=0) (by omega) (by omega),hm⟩)
 have v1:=runs_of_row (l:=[⟨0,8⟩,⟨20,4⟩]) h.r1 rfl (by decide) (lit_nums (by decide +kernel))
 have v2:=runs_of_row (l:=[⟨0,n⟩]) h.r2 rfl (by simp) (by intro r hr;simp at hr;subst hr;exact ⟨i1 (a:=0) (by omega) (by omega),hn⟩)
 have v3:=runs_of_row (l:=[⟨0,8⟩]) h.r3 rfl (by decide) (lit_nums (by decide +kernel))
 have c:∀ j,w.cell? ⟨B+4,j,none⟩=_:=fun j=>cell_of_row w (B+4) j _ _ _ h.q
 refine .inr ⟨B+4,0,4,rfl,by simp [fieldL],by omega,by simp [fieldL],(Array.getElem?_eq_some_iff.1 h.q).1,fun k x hk=>?_⟩
 match k with
 | 0=>simp [fieldL] at hk;subst hk;exact ⟨c _,(show sAll.size≤_ by decide),c _,i1 (a:=-1) (by omega) (by omega),_,c _,v0⟩
 | 1=>simp [fieldL] at hk;subst hk;exact ⟨c _,(show sNorth.size≤_ by decide),c _,hp,_,c _,v1⟩
 | 2=>simp [fieldL] at hk;subst hk;exact ⟨c _,(show sSouth.size≤_ by decide),c _,i1 (a:=0) (by omega) (by omega),_,c _,v2⟩
 | 3=>simp [fieldL] at hk;subst hk;exact ⟨c _,(show sBarn.size≤_ by decide),c _,i1 (a:=1) (by omega) (by omega),_,c _,v3⟩
 | k+4=>simp [fieldL] at hk
theorem FieldAt.setP {w:World} {B:Nat} {m p n:Int} (h:FieldAt w B m p n) (z:Int):FieldAt (w.setCell ⟨B+4,4,none⟩ (.int .i64 z)) B m z n:=by
 have k:∀ {j:Nat} {o:Obj},j≠B+4→w.heap[j]?=some o→(w.setCell ⟨B+4,4,none⟩ (.int .i64 z)).heap[j]?=some o:=fun hj ho=>by rw [heap_setCell_other w ⟨B+4,4,none⟩ _ _ hj];exact ho
 exact ⟨k (by omega) h.r0,k (by omega) h.r1,k (by omega) h.r2,k (by omega) h.r3,by rw [heap_setCell_same w (B+4) 4 _ _ _ h.q];rfl⟩
theorem FieldAt.setM {w:World} {B:Nat} {m p n:Int} (h:FieldAt w B m p n) (z:Int):FieldAt (w.setCell ⟨B,1,none⟩ (.int .i64 z)) B z p n:=by
 have k:∀ {j:Nat} {o:Obj},j≠B→w.heap[j]?=some o→(w.setCell ⟨B,1,none⟩ (.int .i64 z)).heap[j]?=some o:=fun hj ho=>by rw [heap_setCell_other w ⟨B,1,none⟩ _ _ hj];exact ho
 exact ⟨by rw [heap_setCell_same w B 1 _ _ _ h.r0];rfl,k (by omega) h.r1,k (by omega) h.r2,k (by omega) h.r3,k (by omega) h.q⟩
theorem five_new (w:World) (o1 o2 o3 o4 o5:Obj) :
  ((((((w.alloc o1).alloc o2).alloc o3).alloc o4).alloc o5).heap[w.heap.size]?=some o1)∧((((((w.alloc o1).alloc o2).alloc o3).alloc o4).alloc o5).heap[w.heap.size+1]?=some o2) ∧
  ((((((w.alloc o1).alloc o2).alloc o3).alloc o4).alloc o5).heap[w.heap.size+2]?=some o3)∧((((((w.alloc o1).alloc o2).alloc o3).alloc o4).alloc o5).heap[w.heap.size+3]?=some o4)∧((((((w.alloc o1).alloc o2).alloc o3).alloc o4).alloc o5).heap[w.heap.size+4]?=some o5):=by
 obtain ⟨h1,h2,h3,h4,hx⟩:=four_new w o1 o2 o3 o4
 have h5:=heap_alloc_new ((((w.alloc o1).alloc o2).alloc o3).alloc o4) o5
 have s:((((w.alloc o1).alloc o2).alloc o3).alloc o4).heap.size=w.heap.size+4:=by simp
 rw [s] at h5
 have keep:∀ (W:World) (o b:Obj) (j:Nat),W.heap[j]?=some b→(W.alloc o).heap[j]?=some b:=fun W o b j h=>by
  rw [((Ext.rf W).al o).block j (Array.getElem?_eq_some_iff.1 h).1];exact h
 exact ⟨keep _ _ _ _ h1,keep _ _ _ _ h2,keep _ _ _ _ h3,keep _ _ _ _ h4,h5⟩
theorem field_any (w:World):Calls Tryz.prog 76 #[] w fun e w'=>e=.returned (.slice (some ⟨w.heap.size+4,0,none⟩) 4 4)∧FieldAt w' w.heap.size 10 0 6∧Ext w w':=by
 go_enter Tryz.func76,Tryz.ntmps76
 go_wp2_with fail
 go_ret
 refine ⟨rfl,?_,(((((Ext.rf w).al _).al _).al _).al _).al _⟩
 obtain ⟨h1,h2,h3,h4,h5⟩:=five_new w _ _ _ _ _
 exact ⟨h1,h2,h3,h4,h5⟩
theorem fieldC:checkT (fieldL 10 0 6)=0:=by unfold checkT;decide +kernel
theorem ints_lit {w:World} {cs:Array Value} {b n:Nat} {t:TypeId} (l:List Int) (hb:b=w.heap.size) (hcs:cs=(l.map (Value.int .i64)).toArray) (hn:n=l.length) (hl:l.length≤60) (hi:∀ x∈l,I64 x) :
  IntsV (w.alloc (.cells cs t)) (.slice (some ⟨b,0,none⟩) n n) l:=by
 subst hb hcs hn
 refine .inr ⟨w.heap.size,0,l.length,rfl,Nat.le_refl _,by omega,by omega,by simp,fun k x hk=>?_⟩
 refine ⟨?_,hi x (List.mem_of_getElem? hk)⟩
 rw [cell_of_row _ _ _ _ _ _ (heap_alloc_new w _)]
 simp [hk]
end Go.Proofs.YtncaoclhlfkdoaaGreat
