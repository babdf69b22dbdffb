/- Walks of the reference's find; room.First. -/
import Derived.Test.YtncaoclhlfkdoaaGreatPRunsZ
import Derived.Test.YtncaoclhlfkdoaaGreatPSeekS
import Derived.Test.YtncaoclhlfkdoaaGreatPPlace
import Derived.Test.YtncaoclhlfkdoaaGreatPReqL
import Derived.Laws.Rows
import Derived.BigQuiet
import Derived.Deep.RegionHeld3
/- Walks of the references: has, first, FirstOf; room.First. -/
set_option linter.unusedVariables false
set_option maxRecDepth 100000
set_option maxHeartbeats 8000000
namespace Go.Proofs.YtncaoclhlfkdoaaGreat
open Go.RowKit
open List renaming getElem_toArray→l1,getElem_cons_zero→l2,getElem_cons_succ→l3,setIfInBounds_toArray→l4,set_cons_zero→l5,set_cons_succ→l6
theorem has_any (w:World) (x:Nat→Int) (t u s:Nat) (n:Int) (ht:t≤96) (hu:u≤48) (hs:s≤48) :
  Calls Tryz.prog 180 #[.agg (tab x),.int .i64 t,.int .i64 u,.int .i64 s,.int .i64 n] w fun e w'=>e=.returned (.bool (decide (HasT x t u s n)))∧Ext w w':=by
 by_cases hb:t+s≤u
 ·have HY:=hid (fun (h:∀ i,t≤i→i < t+s→n≤x i)=>deT (show HasT x t u s n from ⟨hb,h⟩))
  have HN:=hid (fun (i:Nat) (h1:t≤i) (h2:i < t+s) (h:x i < n)=>deF (show ¬ HasT x t u s n from fun h'=>by have:=h'.2 i h1 h2;omega))
  generalize decide (HasT x t u s n)=d at *
  have hb':¬ (u:Int) < (t:Int)+(s:Int):=by omega
  go_enter Tryz.func180,Tryz.ntmps180
  go_wp2_with fail
  go_loopw [11] (fun c wr=>∃ k:Nat,c=.int .i64 k∧t≤k∧k≤t+s∧Hid (∀ i,t≤i→i < k→n≤x i)∧Hid (TabAt 104 wr w.heap.size x)∧Ext w wr) (fun c _=>t+s - (intOf c).toNat)
  case atStart=>exact ⟨t,rfl,Nat.le_refl _,by omega,hid (fun i h1 h2=>by omega),hid (TabAt.new w x),(Ext.rf w).al _⟩
  case round =>
   obtain ⟨k,rfl,hk1,hk,Hall,HT,hx⟩:=hrel
   by_cases hlt:k < t+s
   ·have hlt':(k:Int) < (t:Int)+(s:Int):=by omega
    have hcl:=HT.out.cell (t:=k) (by omega)
    by_cases hq:x k < n
    ·have Hr:=HN.out k hk1 hlt hq
     subst Hr
     go_wp2_with fail
     go_ret
     exact ⟨rfl,hx⟩
    ·have Hs:=hid (show ∀ i,t≤i→i < k+1→n≤x i from fun i h1 h2=>by
      by_cases e:i=k
      ·subst e;omega
      ·exact Hall.out i h1 (by omega))
     clear Hall
     go_wp2_with fail
     go_roundw
     case rel=>exact ⟨k+1,by go_num,by omega,by omega,Hs,HT,hx⟩
     case measure=>simp [intOf];omega
   ·have hlt':¬ (k:Int) < (t:Int)+(s:Int):=by omega
    obtain rfl:k=t+s:=by omega
    have Hr:=HY.out Hall.out
    subst Hr
    go_wp2_with fail
    go_ret
    exact ⟨rfl,hx⟩
 ·have Hr:=deF (show ¬ HasT x t u s n from fun h=>hb h.1)
  generalize decide (HasT x t u s n)=d at *
  subst Hr
  have hb':(u:Int) < (t:Int)+(s:Int):=by omega
  go_enter Tryz.func180,Tryz.ntmps180
  go_wp2_with fail
  go_ret
  exact ⟨rfl,(Ext.rf w).al _⟩
@[irreducible] def firstR (x:Nat→Int) (a u s:Nat) (n:Int):Int × Bool:=match firstT x a u s n with | some t=>((t:Int),true) | none=>(0,false)
theorem firstR_some {x:Nat→Int} {a u s t:Nat} {n:Int} (h:firstT x a u s n=some t):firstR x a u s n=((t:Int),true):=by unfold firstR;rw [h]
theorem firstR_none {x:Nat→Int} {a u s:Nat} {n:Int} (h:firstT x a u s n=none):firstR x a u s n=(0,false):=by unfold firstR;rw [h]
theorem firstRef_any (w:World) (x:Nat→Int) (a u s:Nat) (n:Int) (ha:a≤48) (hu:u≤48) (hs:s≤48) :
  Calls Tryz.prog 123 #[.agg (tab x),.int .i64 a,.int .i64 u,.int .i64 s,.int .i64 n] w (RetIs w (firstR x a u s n)):=by
 have H:=hid (fun (k:Nat) (hk:k≤96) (W:World)=>has_any W x k u s n hk hu hs)
 have HS:=hid (fun (k:Nat) (h1:a≤k) (h2:k < u) (h:HasT x k u s n) (hall:∀ j,a≤j→j < k→¬ HasT x j u s n)=>firstR_some (isFirst_eq (r:=some k) ⟨h1,h2,h,hall⟩).symm)
 have HN:=hid (fun (hall:∀ j,a≤j→j < u→¬ HasT x j u s n)=>firstR_none (isFirst_eq (r:=none) hall).symm)
 generalize firstR x a u s n=R at *
 go_enter Tryz.func123,Tryz.ntmps123
 go_wp2_with fail
 go_loopw [12] (fun c wr=>∃ k:Nat,c=.int .i64 k∧a≤k∧k≤48∧Hid (∀ i,a≤i→i < k→¬ HasT x i u s n)∧Hid (TabAt 104 wr w.heap.size x)∧Ext w wr) (fun c _=>48 - (intOf c).toNat)
 case atStart=>exact ⟨a,rfl,Nat.le_refl _,ha,hid (fun i h1 h2=>by omega),hid (TabAt.new w x),(Ext.rf w).al _⟩
 case round =>
  obtain ⟨k,rfl,hk1,hk,Hall,HT,hx⟩:=hrel
  by_cases hlt:k < u
  ·have hlt':(k:Int) < (u:Int):=by omega
   have C:=hid (fun (W:World)=>H.out k (by omega) W)
   by_cases hh:HasT x k u s n
   ·rw [deT hh] at C
    have Hr:=hid (HS.out k hk1 hlt hh Hall.out)
    clear hh
    go_wp2_with (first | (refine wpList_load_row rfl 104 _ rfl w.heap.size rfl 104 (tab x) (0,0) _ HT.out Tryz.underlying104 rfl (by rw [tab_size];exact Tryz.size104) ?_))
    refine (C.out _).mono ?_
    rintro e w1 ⟨rfl,hx1⟩
    go_wp2_with fail
    go_ret2
    exact retIs_of Hr.out (hx.tr hx1)
   ·rw [deF hh] at C
    have Hs:=hid (show ∀ i,a≤i→i < k+1→¬ HasT x i u s n from fun i h1 h2=>by
     by_cases e:i=k
     ·subst e;exact hh
     ·exact Hall.out i h1 (by omega))
    clear hh Hall
    go_wp2_with (first | (refine wpList_load_row rfl 104 _ rfl w.heap.size rfl 104 (tab x) (0,0) _ HT.out Tryz.underlying104 rfl (by rw [tab_size];exact Tryz.size104) ?_))
    refine (C.out _).mono ?_
    rintro e w1 ⟨rfl,hx1⟩
    go_wp2_with fail
    go_roundw
    case rel=>exact ⟨k+1,by go_num,by omega,by omega,Hs,hid (HT.out.ext hx1),hx.tr hx1⟩
    case measure=>simp [intOf];omega
  ·have hlt':¬ (k:Int) < (u:Int):=by omega
   have Hr:=hid (HN.out (fun j h1 h2=>Hall.out j h1 (by omega)))
   go_wp2_with fail
   go_ret2
   exact retIs_of Hr.out hx
theorem wpQuiet_load_row {P:Program} {ops:Array Oper} {C:World→Prop} {Q:Act→Prop} {o:Oper} {rest:List Oper} {a:Act} (hw:Region.wanted o (yielded ops a.tmps)=true) (ty:TypeId) (x:Operand) (ho:o.op=.load ty x)
  (g:Nat) (hx:a.eval x=.pointer (some ⟨g,0,none⟩)) (t:TypeId) (cs:Array Value) (fr:Nat × Nat) (d:TypeDesc) (hg:∀ w,C w→w.heap[g]?=some (.cells cs t fr))
  (hu:P.underlying ty=some d) (hd:(match d with | .struct _ | .array _ _=>true | _=>false)=true) (hi:(P.info? ty).map (·.size)=some cs.size)
  (h:wpQuiet P ops C Q rest (a.put o.dst (.agg cs))):wpQuiet P ops C Q (o::rest) a :=
 BigFrame.wpQuiet_want hw (fun K hK=>⟨.agg cs,fun w hw=>by
  unfold Oper.quietAt execOp
  simp only [ho,hx,Instr.loadAt,Instr.sureAddr,Sem.run_bind,Sem.run_pure,Result.andThen_ok,run_loadVar_row w g t ty cs fr d (hg w hw) hu hd hi]
  exact ⟨rfl,rfl⟩,hK _ h⟩)
theorem cells5_at {w W:World} {B:Nat} {a b c d e:Value} {t:TypeId} (h:w.heap[B]?=some (.cells #[a,b,c,d,e] t (0,0))) (hx:Ext w W) :
  W.cell? ⟨B,0,none⟩=some a∧W.cell? ⟨B,1,none⟩=some b∧W.cell? ⟨B,2,none⟩=some c∧W.cell? ⟨B,3,none⟩=some d∧W.cell? ⟨B,4,none⟩=some e:=by
 have k:∀ j v,(#[a,b,c,d,e]:Array Value)[j]?=some v→W.cell? ⟨B,j,none⟩=some v:=fun j v hv=>hx.ce' (by rw [cell_of_row _ _ _ _ _ _ h];exact hv)
 exact ⟨k 0 _ rfl,k 1 _ rfl,k 2 _ rfl,k 3 _ rfl,k 4 _ rfl⟩
theorem FreshV.later {w W:World} {u:Value} (h:FreshV W u) (hx:Ext w W):FreshV w u:=fun a n c e=>by
 have:=h a n c e
 have:=hx.size
 omega
def RetTight (w:World) (x:Nat→Int) (r:Request) (t:Nat) (e:Ending) (w':World):Prop :=
 ∃ u b,e=.returned (.tuple #[u,.bool b])∧Ext w w'∧(b=true→TightAt x r t∧BitesV w' u (rowB r t r.Pieces.length)∧FreshV w u)∧(b=false→¬ TightAt x r t)
theorem tightAt_any (w:World) (x:Nat→Int) (r:Request) (pv:Value) (t:Nat) (hp:PiecesV w pv r.Pieces) (hr:ReqOk r) (ht:t≤48) :
  Calls Tryz.prog 122 #[.agg (tab x),.agg #[.int .i64 r.Queue,.int .i64 r.From,.int .i64 r.Until,.int .i64 r.Kind,pv],.int .i64 t] w (RetTight w x r t):=by
 obtain ⟨⟨q1,q2,q3⟩,q4⟩:=req_range hr
 obtain ⟨m1,m3⟩:=hr.many
 obtain ⟨ir,ir1,ir2,ir3,ir4⟩:=info_parts Tryz.info49
 obtain ⟨pb,po,pc,rfl,hpc,hpc9,hpb,hpE⟩:=pieces_at hp (by omega)
 have HE:=hid hpE
 have HQ:=hid q4
 have HT:=hid (show ∀ k,TightK x r t k↔HasT x (startT r t k) r.Until.toNat (pL r k).toNat (pN r k) from fun _=>Iff.rfl)
 obtain ⟨U,hU⟩:=Int.eq_ofNat_of_zero_le (by omega:0≤r.Until)
 have hU2:r.Until.toNat=U:=by omega
 rw [hU2] at HT
 have hU48:U≤48:=by omega
 have HU:=hid hU
 have HUN:=hid (show r.Until.toNat≤48 from by omega)
 clear hU
 have HTA:=hid (show (∀ k,k < r.Pieces.length→TightK x r t k)→TightAt x r t from fun h=>h)
 have HTN:=hid (show ∀ k,k < r.Pieces.length→¬ TightK x r t k→¬ TightAt x r t from fun k hk h h'=>h (h' k hk))
 clear hp hr hpE q4 hU2
 generalize hnn:r.Pieces.length=n at *
 have Hnn:=hid hnn
 clear hnn
 go_enter Tryz.func122,Tryz.ntmps122
 go_wp2_with fail
 have hx2:=((Ext.rf w).al (.cells (tab x) 104)).al (.cells #[.int .i64 r.Queue,.int .i64 r.From,.int .i64 r.Until,.int .i64 r.Kind,.slice (some ⟨pb,po,none⟩) n pc] 40)
 have hT:TabAt 104 ((w.alloc (.cells (tab x) 104)).alloc (.cells #[.int .i64 r.Queue,.int .i64 r.From,.int .i64 r.Until,.int .i64 r.Kind,.slice (some ⟨pb,po,none⟩) n pc] 40)) w.heap.size x:=(TabAt.new w x).ext ((Ext.rf _).al _)
 have hR:=heap_alloc_new (w.alloc (.cells (tab x) 104)) (.cells #[.int .i64 r.Queue,.int .i64 r.From,.int .i64 r.Until,.int .i64 r.Kind,.slice (some ⟨pb,po,none⟩) n pc] 40)
 rw [World.size_alloc] at hR
 generalize (w.alloc (.cells (tab x) 104)).alloc (.cells #[.int .i64 r.Queue,.int .i64 r.From,.int .i64 r.Until,.int .i64 r.Kind,.slice (some ⟨pb,po,none⟩) n pc] 40)=w1 at *
 have HX2:=hid hx2
 have HT1:=hid hT
 have HR:=hid hR
 have hsz1:w.heap.size+1 < w1.heap.size:=(Array.getElem?_eq_some_iff.1 hR).1
 clear hx2 hT hR
 go_loopw [2,8,9] (fun a v c wr=>∃ (k:Nat) (ov:Value),ov=v∧a=.int .i64 (startT r t k:Int)∧c=.int .i64 k∧k≤n∧startT r t k≤48∧Hid (wr.ownsRow w1.heap.size 49 2 ov k (bitesV (rowB r t k)))∧Hid (∀ j,j < k→TightK x r t j)∧Ext w1 wr) (fun _ _ c _=>n - (intOf c).toNat)
 case atStart=>exact ⟨0,_,rfl,rfl,rfl,by omega,ht,World.ownsRow_nil _ _ _ _,hid (fun j hj=>absurd hj (Nat.not_lt_zero _)),Ext.rf _⟩
 case round =>
  obtain ⟨k,ov,rfl,rfl,rfl,hk,hst,Hown,Hall,hx⟩:=hrel
  obtain ⟨b0,b1,b2,b3,b4⟩:=cells5_at HR.out hx
  by_cases hlt:k < n
  ·have hlt':(k:Int) < (n:Int):=by omega
   obtain ⟨y,hy⟩:=getA (f:=r.Pieces) (k:=k) (by rw [Hnn.out];exact hlt)
   obtain ⟨d1,d2,_,_⟩:=E2.mono w wr pb _ y (HX2.out.tr hx) (HE.out k y hy)
   obtain ⟨⟨p1,p2⟩,p3,p4⟩:=HQ.out k hlt
   obtain ⟨eL,eN⟩:=piece_at hy
   have hTK:=HT.out k
   have hsn:=startT_next r t k
   rw [eL] at p1 p2 hTK hsn
   rw [eN] at p3 p4 hTK
   have Hsn:=hid hsn
   generalize hstk:startT r t k=st at *
   have Hstk:=hid hstk
   clear eL eN hy hstk hsn
   obtain ⟨z,hz⟩:=Int.eq_ofNat_of_zero_le (by omega:0≤y.Len)
   have hz2:y.Len.toNat=z:=by omega
   rw [hz2] at hTK Hsn
   have hzz:z≤24∧1≤z:=by omega
   have Hz:=hid hz
   clear hz hz2
   have e0:∀ V,(∃ p:Later wr,V=p.v)→V.heap[w.heap.size]?=some (.cells (tab x) 104 (0,0)):=fun V ⟨p,hp⟩=>by rw [hp];exact (HT1.out.ext hx).ext p.h
   have E0:=hid e0
   clear e0
   have c0:=fun p:Later wr=>p.cell b0
   have c2:=fun p:Later wr=>p.cell b2
   have c4:=fun p:Later wr=>p.cell b4
   have f1:=fun p:Later wr=>p.cell d1
   have f2:=fun p:Later wr=>p.cell d2
   have QH:=hid (fun p:Later wr=>later_of p (has_any p.v x st U z y.N (by omega) (by omega) (by omega)))
   rw [← Hz.out,← HU.out] at QH
   go_wp2_with fail
   refine region_later (by kernel_rfl) (by kernel_rfl) ?_
   refine wpQuiet_load_row (by kernel_rfl) 104 _ rfl w.heap.size rfl 104 (tab x) (0,0) _ E0.out Tryz.underlying104 rfl (by rw [tab_size];exact Tryz.size104) ?_
   simp only [Act.put,l4,l5,l6]
   repeat (go_big_quiet_step (with_reducible exact QH.out _))
   refine wpQuiet_nil ?_
   rintro w' ⟨p,rfl⟩
   have hxp:=hx.tr p.h
   have hownW:=ownsRow_ext Hown.out p.h
   have g4:=c4 p
   have g1:=f1 p
   have hlt3:∀ g,ov.ownBlock=some g→w1.heap.size≤g∧g < wr.heap.size:=fun g hg=>Hown.out.lt g hg
   have n0:some (w.heap.size+1)≠ov.ownBlock:=fun e=>by have:=(hlt3 _ e.symm).1;omega
   have n1:some pb≠ov.ownBlock:=fun e=>by have:=(hlt3 _ e.symm).1;omega
   clear c0 c2 c4 f1 f2 QH E0 b0 b1 b2 b3 b4 d1 d2
   by_cases hh:HasT x st U z y.N
   ·have Hd:=deT hh
    have Hk:=hid (hTK.2 hh)
    have HXP:=hid hxp
    have hps:=hxp.size
    have hlt3':=hid hlt3
    generalize p.v=W2 at *
    have g4l:w.heap.size+1 < W2.heap.size:=World.block_lt_of_cell? W2 ⟨w.heap.size+1,4,none⟩ g4
    have g1l:pb < W2.heap.size:=World.block_lt_of_cell? W2 ⟨pb,_,none⟩ g1
    clear hTK hh hxp hlt3
    rw [Hd]
    go_wp2_with (at_builtin;refine wpList_append_lies _ rfl _ _ 41 rfl w1.heap.size 49 ir _ 2 16 Tryz.underlying41 ir1 ir2 ir3 ir4 rfl (by decide) _ _ _ rfl (hownW.alloc _) ⟨W2.heap.size,0,none⟩ 1 1 [.int .i64 k,.int .i64 st] rfl rfl (new2 _ (by simp) _ _ _) (one2 _ _ _ _) (by decide) (by unfold maxLen;omega) (by omega) (by simp;omega) (W2.heap.size+1) (by simp) ?_)
    intro gg cap W3 hown2 hgrow hat hlt4
    have k4:W3.cell? ⟨w.heap.size+1,4,none⟩=some (.slice (some ⟨pb,po,none⟩) n pc):=by rw [hgrow.cell_far ⟨w.heap.size+1,4,none⟩ (by simp;omega) n0];exact ((Ext.rf W2).al _).ce' g4
    have k1:W3.cell? ⟨pb,po+k*2,none⟩=some (.int .i64 y.Len):=by rw [hgrow.cell_far ⟨pb,po+k*2,none⟩ (by simp;omega) n1];exact ((Ext.rf W2).al _).ce' g1
    have Hown2:=hid (show W3.ownsRow w1.heap.size 49 2 (.slice (some ⟨gg,0,none⟩) (k+1) cap) (k+1) (bitesV (rowB r t (k+1))) from by rw [rowB_succ,bitesV_snoc,Hstk.out];exact hown2)
    have HX3:=hid (Ext.gr (HXP.out.al _) hgrow (fun g hg=>(hlt3'.out g hg).1))
    have Hs:=hid (show ∀ j,j < k+1→TightK x r t j from fun j hj=>by
     by_cases e:j=k
     ·subst e;exact Hk.out
     ·exact Hall.out j (by omega))
    have hwr:IntKind.i64.wrap ((st:Int)+y.Len)=(st:Int)+y.Len:=by rw [IntKind.wrap_i64];omega
    have hsle:st+z≤48:=by have:=(show HasT x st U z y.N from of_decide_eq_true Hd).1;omega
    clear hown2 hgrow hat hlt4 hownW n0 n1 Hall g4 g1 Hd
    go_wp2_with fail
    go_roundw
    case rel=>exact ⟨k+1,_,rfl,by rw [Hsn.out];have:=Hz.out;congr 1;omega,by go_num,by omega,by rw [Hsn.out];exact hsle,Hown2,Hs,HX3.out⟩
    case measure=>simp [intOf];omega
   ·have Hd:=deF hh
    have Hr:=hid (HTN.out k hlt (fun h=>hh (hTK.1 h)))
    have HXP:=hid hxp
    clear hTK hh hxp
    rw [Hd]
    go_wp2_with fail
    go_ret2
    exact ⟨_,false,rfl,HX2.out.tr HXP.out,fun h=>Bool.noConfusion h,fun _=>Hr.out⟩
  ·obtain rfl:k=n:=by omega
   have hlt':¬ (k:Int) < (k:Int):=by omega
   have Hr:=hid (HTA.out Hall.out)
   obtain ⟨oa,oc,rfl⟩:=own_slice Hown.out
   have hI:∀ b∈rowB r t k,I64 b.Piece∧I64 b.At:=fun b hb=>by
    obtain ⟨j,hj,rfl⟩:=List.mem_map.1 hb
    have hj':=List.mem_range.1 hj
    have h1:=(Hall.out j hj').1
    have h2:=HUN.out
    exact ⟨i64_nat (by omega),i64_nat (by omega)⟩
   have hB:BitesV wr (.slice oa k oc) (rowB r t k):=sv_of_owns2 (by rw [rowB_len];exact Hown.out) hI (by rw [rowB_len];omega)
   have HB:=hid hB
   clear hI hB
   go_wp2_with fail
   go_ret2
   exact ⟨_,true,rfl,HX2.out.tr hx,fun _=>⟨Hr.out,by rw [Hnn.out];exact HB.out,fresh_own Hown.out HX2.out.size⟩,fun h=>Bool.noConfusion h⟩
def RetPickF (w:World) (l:List Bite) (e:Ending) (w':World):Prop:=∃ u b,e=.returned (.tuple #[u,.bool b])∧Ext w w'∧(b=true→l≠[]∧BitesV w' u l∧FreshV w u)∧(b=false→l=[])
theorem find_boxes (w:World) (x:Nat→Int) (a b c d e:Value):∃ w1:World,((w.alloc (.cells (tab x) 104)).alloc (.cells #[a,b,c,d,e] 40))=w1∧Ext w w1∧TabAt 104 w1 w.heap.size x∧w1.heap[w.heap.size+1]?=some (.cells #[a,b,c,d,e] 40 (0,0))∧w1.heap.size=w.heap.size+2:=by
 have hR:=heap_alloc_new (w.alloc (.cells (tab x) 104)) (.cells #[a,b,c,d,e] 40)
 rw [World.size_alloc] at hR
 exact ⟨_,rfl,((Ext.rf w).al _).al _,(TabAt.new w x).ext ((Ext.rf _).al _),hR,by simp⟩
theorem find_tight (w:World) (x:Nat→Int) (r:Request) (pv:Value) (hp:PiecesV w pv r.Pieces) (hr:ReqOk r) (hk:r.Kind=4) :
  Calls Tryz.prog 60 #[.agg (tab x),.agg #[.int .i64 r.Queue,.int .i64 r.From,.int .i64 r.Until,.int .i64 r.Kind,pv]] w (RetPickF w (placeL x r)):=by
 obtain ⟨⟨q1,q2,q3⟩,_⟩:=req_range hr
 have hR:=placeL_tight (x:=x) hk
 have T:=hid (fun (t:Nat) (ht:t≤48) (W:World) (h:Ext w W)=>tightAt_any W x r pv t (hp.mono h) hr ht)
 rw [hk] at T ⊢
 obtain ⟨U,hU⟩:=Int.eq_ofNat_of_zero_le (by omega:0≤r.Until)
 obtain ⟨A0,hA0⟩:=Int.eq_ofNat_of_zero_le q1
 have hU48:U≤48:=by omega
 have hUA:A0≤U:=by omega
 rw [show r.Until.toNat - r.From.toNat=U - A0 by omega,show r.From.toNat=A0 by omega] at hR
 have HY:=hid (show ∀ t,t < U→TightAt x r t→tightGo x r (U - t) t=rowB r t r.Pieces.length from fun t h1 h=>by
  rw [show U - t=(U - t - 1)+1 by omega,tightGo,if_pos h])
 have HX:=hid (show ∀ t,t < U→¬ TightAt x r t→tightGo x r (U - t) t=tightGo x r (U - (t+1)) (t+1) from fun t h1 h=>by
  rw [show U - t=(U - (t+1))+1 by omega,tightGo,if_neg h])
 have HZ:=hid (show tightGo x r (U - U) U=[] from by rw [Nat.sub_self];rfl)
 have HN:=hid (show ∀ t,rowB r t r.Pieces.length≠[] from fun t h=>by
  have h1:=congrArg List.length h;rw [rowB_len,List.length_nil] at h1;have:=hr.many.1;omega)
 obtain ⟨pa,pc,rfl,_,_,_⟩:=hp.form
 generalize placeL x r=R at *
 have HR:=hid hR.symm
 have HU:=hid hU
 have HA:=hid hA0
 have hA:=hA0
 clear hR hU hp hr hA0 hk
 generalize tightGo x r=tg at *
 generalize hpn:r.Pieces.length=pn at *
 have Hpn:=hid hpn
 clear hpn
 obtain ⟨w1,hw1,hx1,hT1,hR1,hs1⟩:=find_boxes w x (.int .i64 r.Queue) (.int .i64 r.From) (.int .i64 r.Until) (.int .i64 4) (.slice pa pn pc)
 obtain ⟨b0,b1,b2,b3,b4⟩:=cells5_at hR1 (Ext.rf w1)
 have HT1:=hid hT1
 have HR1:=hid hR1
 have hq2:(A0:Int) < r.Until:=by omega
 clear hA
 go_enter Tryz.func60,Tryz.ntmps60
 go_wp2_with fail
 clear hw1
 go_loopw [6] (fun c wr=>∃ a:Nat,c=.int .i64 (a:Int)∧A0≤a∧a≤U∧Hid (tg (U - a) a=R)∧Ext w1 wr) (fun c _=>U - (intOf c).toNat)
 case atStart=>exact ⟨A0,by rw [HA.out],Nat.le_refl _,hUA,HR,Ext.rf _⟩
 case round =>
  obtain ⟨a,rfl,ha1,ha,Hg,hx⟩:=hrel
  obtain ⟨d0,d1,d2,d3,d4⟩:=cells5_at HR1.out hx
  clear b0 b1 b2 b3 b4
  have hTx:=HT1.out.ext hx
  by_cases hlt:a < U
  ·have hlt':(a:Int) < r.Until:=by rw [HU.out];show (a:Int) < (U:Int);omega
   have T1:=hid (T.out a (by omega) wr (hx1.tr hx))
   have hHX:=HX.out a hlt
   have hHY:=HY.out a hlt
   have HHX:=hid hHX
   have HHY:=hid hHY
   clear hHX hHY
   go_wp2_with (first | (refine wpList_load_row rfl 104 _ rfl w.heap.size rfl 104 (tab x) (0,0) _ hTx Tryz.underlying104 rfl (by rw [tab_size];exact Tryz.size104) ?_))
   refine T1.out.mono ?_
   rintro e w2 ⟨u,bb,rfl,hx2,hy,hn⟩
   have Hy:=hid hy
   have Hn:=hid hn
   clear hy hn
   cases bb with
   | true =>
    obtain ⟨h1,h2,h3⟩:=Hy.out rfl
    have Hr:=hid (show R=rowB r a pn from by rw [← Hg.out];exact HHY.out h1)
    rw [Hpn.out] at h2
    have HB:=hid h2
    have HNN:=hid (HN.out a)
    have HFR:=hid (h3.later (hx1.tr hx))
    clear Hy Hn h1 h2 h3
    go_wp2_with fail
    go_ret2
    exact ⟨_,true,rfl,hx1.tr (hx.tr hx2),fun _=>⟨by rw [Hr.out];exact HNN.out,by rw [Hr.out];exact HB.out,HFR.out⟩,fun h=>Bool.noConfusion h⟩
   | false =>
    have Hg2:=hid (show tg (U - (a+1)) (a+1)=R from by rw [← HHX.out (Hn.out rfl)];exact Hg.out)
    clear Hy Hn
    go_wp2_with fail
    go_roundw
    case rel=>exact ⟨a+1,by go_num,by omega,by omega,Hg2,hx.tr hx2⟩
    case measure=>simp [intOf];omega
  ·obtain rfl:a=U:=by omega
   have hlt':¬ (a:Int) < r.Until:=by rw [HU.out];show ¬ (a:Int) < (a:Int);omega
   have Hr:=hid (show R=[] from by rw [← Hg.out];exact HZ.out)
   go_wp2_with fail
   go_ret2
   exact ⟨_,false,rfl,hx1.tr hx,fun h=>Bool.noConfusion h,fun _=>Hr.out⟩
theorem firstRef_piece (W:World) (x:Nat→Int) (r:Request) (a k:Nat) (hr:ReqOk r) (hk:k < r.Pieces.length) (ha:a≤48) :
  Calls Tryz.prog 123 #[.agg (tab x),.int .i64 (a:Int),.int .i64 r.Until,.int .i64 (pL r k),.int .i64 (pN r k)] W (RetIs W (match pieceT x r a k with | some t=>((t:Int),true) | none=>(0,false))):=by
 obtain ⟨⟨q1,q2,q3⟩,q4⟩:=req_range hr
 obtain ⟨⟨p1,p2⟩,_⟩:=q4 k hk
 have:=firstRef_any W x a r.Until.toNat (pL r k).toNat (pN r k) ha (by omega) (by omega)
 rw [Int.toNat_of_nonneg (by omega),Int.toNat_of_nonneg (by omega)] at this
 have e:firstR x a r.Until.toNat (pL r k).toNat (pN r k)=(match pieceT x r a k with | some t=>((t:Int),true) | none=>(0,false)):=by
  unfold pieceT
  cases h:firstT x a r.Until.toNat (pL r k).toNat (pN r k) with
  | some t=>exact firstR_some h
  | none=>exact firstR_none h
 rw [e] at this
 exact this
def TabOk (k:Nat) (x:Nat→Int):Prop:=∀ t,t < 48→-1000000000 - 50*(k:Int)≤x t∧x t≤1000000000
theorem TabOk.next {k:Nat} {x:Nat→Int} (h:TabOk k x):TabOk (k+1) x:=fun t ht=>by have:=h t ht;omega
theorem TabOk.take {k t z:Nat} {x:Nat→Int} {n:Int} (h:TabOk k x) (hn:1≤n∧n≤50):TabOk (k+1) (fun s=>x s+hillT t (t+z) (-n) s):=fun s hs=>by
 have h1:=h s hs
 have h2:hillT t (t+z) (-n) s=-n∨hillT t (t+z) (-n) s=0:=by unfold hillT;split <;> simp
 show -1000000000 - 50*((k+1:Nat):Int)≤x s+hillT t (t+z) (-n) s∧x s+hillT t (t+z) (-n) s≤1000000000
 omega
theorem keepR5 {w:World} {b xb o:Nat} {cs:Array Value} {t:TypeId} {fr:Nat × Nat} (h:w.heap[b]?=some (.cells cs t fr)) (hne:b≠xb) (v:Value):(w.setCell ⟨xb,o,none⟩ v).heap[b]?=some (.cells cs t fr):=by
 rw [heap_setCell_other w ⟨xb,o,none⟩ b v hne];exact h
theorem find_any (w:World) (x0:Nat→Int) (r:Request) (pv:Value) (hp:PiecesV w pv r.Pieces) (hr:ReqOk r) (hk:r.Kind=2) (hx0:TabOk 0 x0) :
  Calls Tryz.prog 60 #[.agg (tab x0),.agg #[.int .i64 r.Queue,.int .i64 r.From,.int .i64 r.Until,.int .i64 r.Kind,pv]] w (RetPickF w (placeL x0 r)):=by
 obtain ⟨⟨q1,q2,q3⟩,q4⟩:=req_range hr
 obtain ⟨m1,m3⟩:=hr.many
 obtain ⟨ir,ir1,ir2,ir3,ir4⟩:=info_parts Tryz.info49
 have F:=hid (fun (x:Nat→Int) (a k:Nat) (W:World) (hk:k < r.Pieces.length) (ha:a≤48)=>firstRef_piece W x r a k hr hk ha)
 have HPI:=hid (fun (x:Nat→Int) (a k t:Nat) (h:pieceT x r a k=some t)=>pieceT_in h)
 have hU48:r.Until.toNat≤48:=by omega
 obtain ⟨A0,hA0⟩:=Int.eq_ofNat_of_zero_le q1
 have hA48:A0≤48:=by omega
 have hA1:r.From.toNat=A0:=by omega
 have hR:=placeL_any (x:=x0) hk
 have H0:=hid (show ∀ x k,anyGo x r 0 k=[] from fun _ _=>rfl)
 have H1:=hid (show ∀ x m k,anyGo x r (m+1) k=match pieceT x r A0 k with | some t=>[⟨(k:Int),(t:Int)⟩] | none=>anyGo x r m (k+1) from fun x m k=>by rw [← hA1];rfl)
 rw [hk]
 obtain ⟨pb,po,pc,rfl,hpc,hpc9,hpb,hpE⟩:=pieces_at hp (by omega)
 have HE:=hid hpE
 have HQ:=hid q4
 have HOK:=hid hx0
 generalize placeL x0 r=R at *
 have HR:=hid hR.symm
 have HA:=hid hA0
 clear hR hp hr hA0 hk hpE q4 hx0 hA1
 generalize anyGo=tg at *
 generalize pieceT=pt at *
 generalize hnn:r.Pieces.length=n at *
 have Hnn:=hid hnn
 clear hnn
 obtain ⟨w1,hw1,hx1,hT1,hR1,hs1⟩:=find_boxes w x0 (.int .i64 r.Queue) (.int .i64 r.From) (.int .i64 r.Until) (.int .i64 2) (.slice (some ⟨pb,po,none⟩) n pc)
 obtain ⟨b0,b1,b2,b3,b4⟩:=cells5_at hR1 (Ext.rf w1)
 have HT1:=hid hT1
 have HR1:=hid hR1
 have HX1:=hid hx1
 clear hT1 hR1 hx1
 go_enter Tryz.func60,Tryz.ntmps60
 go_wp2_with fail
 clear hw1 b0 b1 b2 b3 b4
 go_loopw [9,10,11] (fun v f c wr=>∃ (k a:Nat) (x:Nat→Int) (ov:Value) (out:List Bite),ov=v∧f=.int .i64 (a:Int)∧c=.int .i64 k∧k≤n∧a≤48∧out.length=k∧Hid (tg x0 r (n - k) k=R)∧Hid (wr.ownsRow (w.heap.size+2) 49 2 ov k (bitesV out))∧Hid (∀ y∈out,I64 y.Piece∧I64 y.At)∧Hid (TabAt 104 wr w.heap.size x)∧Hid (wr.heap[w.heap.size+1]?=some (.cells #[.int .i64 r.Queue,.int .i64 r.From,.int .i64 r.Until,.int .i64 2,.slice (some ⟨pb,po,none⟩) n pc] 40 (0,0)))∧Hid (TabOk k x)∧Hid (x=x0∧a=A0)∧Ext w wr∧w.heap.size+2≤wr.heap.size) (fun _ _ c _=>n - (intOf c).toNat)
 case atStart=>exact ⟨0,A0,x0,_,[],rfl,by rw [HA.out],rfl,by omega,hA48,rfl,HR,World.ownsRow_nil _ _ _ _,hid (fun y hy=>by cases hy),HT1,HR1,HOK,hid ⟨rfl,rfl⟩,HX1.out,by omega⟩
 case round =>
  obtain ⟨k,a,x,ov,out,rfl,rfl,rfl,hk,ha,hol,Hg,Hown,Hout,HT,HR5,Hok,Hxa,hx,hsz⟩:=hrel
  obtain ⟨d0,d1,d2,d3,d4⟩:=cells5_at HR5.out (Ext.rf wr)
  by_cases hlt:k < n
  ·have hlt':(k:Int) < (n:Int):=by omega
   have hg:=Hg.out
   rw [show n - k=(n - (k+1))+1 by omega,H1.out] at hg
   obtain ⟨rfl,rfl⟩:=Hxa.out
   obtain ⟨y,hy⟩:=getA (f:=r.Pieces) (k:=k) (by rw [Hnn.out];exact hlt)
   obtain ⟨e1,e2,_,_⟩:=E2.mono w wr pb _ y hx (HE.out k y hy)
   obtain ⟨eL,eN⟩:=piece_at hy
   obtain ⟨⟨p1,p2⟩,p3,p4⟩:=HQ.out k hlt
   have hPI:=HPI.out x a k
   have F1:=hid (fun (W:World)=>F.out x a k W hlt ha)
   rw [eL] at p1 p2 hPI F1
   rw [eN] at p3 p4 hPI F1
   have hTx:=HT.out.ext ((Ext.rf wr).al (.cells #[.int .i64 y.Len,.int .i64 y.N] 68))
   have HPIk:=hid hPI
   obtain ⟨s0,s1,s2,s3,s4⟩:=cells5_at HR5.out ((Ext.rf wr).al (.cells #[.int .i64 y.Len,.int .i64 y.N] 68))
   clear eL eN hy hPI
   cases hp:pt x r a k with
   | none =>
    rw [hp] at hg F1
    have HG:=hid hg
    clear hg hp Hg
    go_wp2_with (first | (refine wpList_load_row rfl 104 _ rfl w.heap.size rfl 104 (tab x) (0,0) _ hTx Tryz.underlying104 rfl (by rw [tab_size];exact Tryz.size104) ?_))
    refine (F1.out _).mono ?_
    rintro e w2 ⟨rfl,hx2⟩
    have hx02:=((Ext.rf wr).al (.cells #[.int .i64 y.Len,.int .i64 y.N] 68)).tr hx2
    obtain ⟨d0',d1',d2',d3',d4'⟩:=cells5_at HR5.out hx02
    have hBX:wr.heap.size < w2.heap.size:=by have:=hx2.size;simp at this;omega
    have k0:w2.cell? ⟨wr.heap.size,0,none⟩=some (.int .i64 y.Len):=hx2.ce' (cell_of_row _ _ 0 _ _ _ (heap_alloc_new wr _))
    have hownW:=ownsRow_ext Hown.out hx02
    have hlt3:∀ g,ov.ownBlock=some g→w.heap.size+2≤g∧g < wr.heap.size:=fun g hg=>Hown.out.lt g hg
    have n1:some wr.heap.size≠ov.ownBlock:=fun e=>by have:=(hlt3 _ e.symm).2;omega
    have n2:some (w.heap.size+1)≠ov.ownBlock:=fun e=>by have:=(hlt3 _ e.symm).1;omega
    have n3:some w.heap.size≠ov.ownBlock:=fun e=>by have:=(hlt3 _ e.symm).1;omega
    have HX02:=hid hx02
    have Hlt3:=hid hlt3
    clear d0 d1 d2 d3 d4 s0 s1 s2 s3 s4 hTx hx2 hx02 hlt3
    generalize wr.heap.size=BX at *
    go_wp2_with (at_builtin;refine wpList_append_lies _ rfl _ _ 41 rfl (w.heap.size+2) 49 ir _ 2 16 Tryz.underlying41 ir1 ir2 ir3 ir4 rfl (by decide) _ _ _ rfl (hownW.alloc _) ⟨w2.heap.size,0,none⟩ 1 1 [.int .i64 k,.int .i64 0] rfl rfl (new2 _ (by simp) _ _ _) (one2 _ _ _ _) (by decide) (by unfold maxLen;omega) (by omega) (by simp;omega) (w2.heap.size+1) (by simp) ?_)
    intro gg cap W3 hown2 hgrow hat hlt4
    have k0':W3.cell? ⟨BX,0,none⟩=some (.int .i64 y.Len):=by rw [hgrow.cell_far ⟨BX,0,none⟩ (by simp;omega) n1];exact ((Ext.rf w2).al _).ce' k0
    have hR5:W3.heap[w.heap.size+1]?=_:=(hgrow.block (w.heap.size+1) (by simp;omega) n2).trans ((((Ext.rf w2).al _).block (w.heap.size+1) (by omega)).trans ((HX02.out.block (w.heap.size+1) (by have:=(Array.getElem?_eq_some_iff.1 HR5.out).1;exact this)).trans HR5.out))
    have hT3:TabAt 104 W3 w.heap.size x:=(hgrow.block w.heap.size (by simp;omega) n3).trans ((HT.out.ext HX02.out).ext ((Ext.rf w2).al _))
    have HR5':=hid hR5
    have HT3:=hid hT3
    have HX3:=hid (Ext.gr ((hx.tr HX02.out).al _) hgrow (fun g hg=>by have:=(Hlt3.out g hg).1;omega))
    have hsz3:=hgrow.size
    have Hown2:=hid hown2
    obtain ⟨d0,d1,d2,d3,d4⟩:=cells5_at hR5 (Ext.rf W3)
    clear d0' d1' d2' d3' d4' hR5 hT3 hgrow hat hlt4 n1 n2 n3 hown2 hownW
    have hz0:(0:Int) < 0+y.Len:=by omega
    go_wp2_with fail
    go_loopw [15] (fun c wi=>c=.int .i64 0∧wi=W3) (fun _ _=>0)
    case atStart=>exact ⟨rfl,rfl⟩
    case round =>
     obtain ⟨rfl,rfl⟩:=hrel
     go_wp2_with fail
     go_roundw
     case rel=>exact ⟨k+1,a,x,_,out++[⟨(k:Int),0⟩],rfl,rfl,by go_num,by omega,ha,by simp [hol],HG,hid (by rw [bitesV_snoc];exact Hown2.out),hid (fun z hz=>by
      rcases List.mem_append.1 hz with h | h
      ·exact Hout.out z h
      ·simp at h;subst h;exact ⟨i64_nat (n:=k) (by omega),i64_nat (n:=0) (by omega)⟩),HT3,HR5',hid Hok.out.next,hid ⟨rfl,rfl⟩,HX3.out,by simp at hsz3;omega⟩
     case measure=>simp [intOf];omega
   | some t =>
    rw [hp] at hg F1
    have HG:=hid hg
    obtain ⟨t1,t2,t3⟩:=HPIk.out t hp
    have t4:=t3.1
    clear hg hp Hg t3
    go_wp2_with (first | (refine wpList_load_row rfl 104 _ rfl w.heap.size rfl 104 (tab x) (0,0) _ hTx Tryz.underlying104 rfl (by rw [tab_size];exact Tryz.size104) ?_))
    refine (F1.out _).mono ?_
    rintro e w2 ⟨rfl,hx2⟩
    have hx02:=((Ext.rf wr).al (.cells #[.int .i64 y.Len,.int .i64 y.N] 68)).tr hx2
    obtain ⟨d0',d1',d2',d3',d4'⟩:=cells5_at HR5.out hx02
    clear d0 d1 d2 d3 d4 s0 s1 s2 s3 s4 hTx
    go_wp2_with fail
    go_ret2
    refine ⟨_,true,rfl,(hx.tr hx02).al _,fun _=>⟨by rw [← HG.out];simp,?_,fun a n c e=>by cases e;have:=(hx.tr hx02).size;exact this⟩,fun h=>Bool.noConfusion h⟩
    rw [← HG.out]
    exact pairs_lit (α:=Bite) [⟨(k:Int),(t:Int)⟩] rfl rfl rfl (by simp) (fun z hz=>by simp at hz;subst hz;exact ⟨i64_nat (by omega),i64_nat (by omega)⟩)
  ·obtain rfl:k=n:=by omega
   have hlt':¬ (k:Int) < (k:Int):=by omega
   have hg:=Hg.out
   rw [Nat.sub_self,H0.out] at hg
   have c3:=fun p:Later wr=>p.cell d3
   go_wp2_with fail
   refine region_later (by kernel_rfl) (by kernel_rfl) ?_
   repeat (go_big_quiet_step (fail))
   refine wpQuiet_nil ?_
   rintro w' ⟨p,rfl⟩
   have hx9:=hx.tr p.h
   have hov:=ownsRow_ext Hown.out p.h
   rw [← hol] at hov
   have HB:=hid (sv_of_owns2 hov Hout.out (by omega))
   clear hov c3
   go_wp2_with fail
   go_ret2
   exact ⟨_,false,rfl,hx9,fun h=>Bool.noConfusion h,fun _=>hg.symm⟩
theorem find_order (w:World) (x0:Nat→Int) (r:Request) (pv:Value) (hp:PiecesV w pv r.Pieces) (hr:ReqOk r) (hk:r.Kind=3) (hx0:TabOk 0 x0) :
  Calls Tryz.prog 60 #[.agg (tab x0),.agg #[.int .i64 r.Queue,.int .i64 r.From,.int .i64 r.Until,.int .i64 r.Kind,pv]] w (RetPickF w (placeL x0 r)):=by
 obtain ⟨⟨q1,q2,q3⟩,q4⟩:=req_range hr
 obtain ⟨m1,m3⟩:=hr.many
 obtain ⟨ir,ir1,ir2,ir3,ir4⟩:=info_parts Tryz.info49
 have F:=hid (fun (x:Nat→Int) (a k:Nat) (W:World) (hk:k < r.Pieces.length) (ha:a≤48)=>firstRef_piece W x r a k hr hk ha)
 have HPI:=hid (fun (x:Nat→Int) (a k t:Nat) (h:pieceT x r a k=some t)=>pieceT_in h)
 have hU48:r.Until.toNat≤48:=by omega
 obtain ⟨A0,hA0⟩:=Int.eq_ofNat_of_zero_le q1
 have hA48:A0≤48:=by omega
 have hA1:r.From.toNat=A0:=by omega
 have hR:=placeL_order (x:=x0) hk
 rw [hA1] at hR
 have H0:=hid (show ∀ k x a out,eachGo r keepX (behindA r) 0 k x a out=out from fun _ _ _ _=>rfl)
 have H1:=hid (show ∀ m k x a out,eachGo r keepX (behindA r) (m+1) k x a out=match pieceT x r a k with | none=>[] | some t=>eachGo r keepX (behindA r) m (k+1) (keepX x k t) ((behindA r) k t) (out++[⟨(k:Int),(t:Int)⟩]) from fun _ _ _ _ _=>rfl)
 have HN:=hid (show ∀ k t,behindA r k t=t+(pL r k).toNat from fun _ _=>rfl)
 have HX:=hid (show ∀ x k t,keepX x k t=x from fun _ _ _=>rfl)
 rw [hk]
 obtain ⟨pb,po,pc,rfl,hpc,hpc9,hpb,hpE⟩:=pieces_at hp (by omega)
 have HE:=hid hpE
 have HQ:=hid q4
 have HOK:=hid hx0
 generalize placeL x0 r=R at *
 have HR:=hid hR.symm
 have HA:=hid hA0
 clear hR hp hr hA0 hk hpE q4 hx0 hA1
 generalize eachGo r keepX (behindA r)=tg at *
 generalize pieceT=pt at *
 generalize (keepX:(Nat→Int)→Nat→Nat→Nat→Int)=TX at *
 generalize behindA r=NA at *
 generalize hnn:r.Pieces.length=n at *
 have Hnn:=hid hnn
 clear hnn
 obtain ⟨w1,hw1,hx1,hT1,hR1,hs1⟩:=find_boxes w x0 (.int .i64 r.Queue) (.int .i64 r.From) (.int .i64 r.Until) (.int .i64 3) (.slice (some ⟨pb,po,none⟩) n pc)
 obtain ⟨b0,b1,b2,b3,b4⟩:=cells5_at hR1 (Ext.rf w1)
 have HT1:=hid hT1
 have HR1:=hid hR1
 have HX1:=hid hx1
 clear hT1 hR1 hx1
 go_enter Tryz.func60,Tryz.ntmps60
 go_wp2_with fail
 clear hw1 b0 b1 b2 b3 b4
 go_loopw [9,10,11] (fun v f c wr=>∃ (k a:Nat) (x:Nat→Int) (ov:Value) (out:List Bite),ov=v∧f=.int .i64 (a:Int)∧c=.int .i64 k∧k≤n∧a≤48∧out.length=k∧Hid (tg (n - k) k x a out=R)∧Hid (wr.ownsRow (w.heap.size+2) 49 2 ov k (bitesV out))∧Hid (∀ y∈out,I64 y.Piece∧I64 y.At)∧Hid (TabAt 104 wr w.heap.size x)∧Hid (wr.heap[w.heap.size+1]?=some (.cells #[.int .i64 r.Queue,.int .i64 r.From,.int .i64 r.Until,.int .i64 3,.slice (some ⟨pb,po,none⟩) n pc] 40 (0,0)))∧Hid (TabOk k x)∧Ext w wr∧w.heap.size+2≤wr.heap.size) (fun _ _ c _=>n - (intOf c).toNat)
 case atStart=>exact ⟨0,A0,x0,_,[],rfl,by rw [HA.out],rfl,by omega,hA48,rfl,HR,World.ownsRow_nil _ _ _ _,hid (fun y hy=>by cases hy),HT1,HR1,HOK,HX1.out,by omega⟩
 case round =>
  obtain ⟨k,a,x,ov,out,rfl,rfl,rfl,hk,ha,hol,Hg,Hown,Hout,HT,HR5,Hok,hx,hsz⟩:=hrel
  obtain ⟨d0,d1,d2,d3,d4⟩:=cells5_at HR5.out (Ext.rf wr)
  by_cases hlt:k < n
  ·have hlt':(k:Int) < (n:Int):=by omega
   have hg:=Hg.out
   rw [show n - k=(n - (k+1))+1 by omega,H1.out] at hg
   obtain ⟨y,hy⟩:=getA (f:=r.Pieces) (k:=k) (by rw [Hnn.out];exact hlt)
   obtain ⟨e1,e2,_,_⟩:=E2.mono w wr pb _ y hx (HE.out k y hy)
   obtain ⟨eL,eN⟩:=piece_at hy
   obtain ⟨⟨p1,p2⟩,p3,p4⟩:=HQ.out k hlt
   have hPI:=HPI.out x a k
   have F1:=hid (fun (W:World)=>F.out x a k W hlt ha)
   rw [eL] at p1 p2 hPI F1
   rw [eN] at p3 p4 hPI F1
   have HNk:=hid (HN.out k)
   have HXk:=hid (HX.out x k)
   simp only [eL] at HNk
   have hTx:=HT.out.ext ((Ext.rf wr).al (.cells #[.int .i64 y.Len,.int .i64 y.N] 68))
   have HPIk:=hid hPI
   obtain ⟨s0,s1,s2,s3,s4⟩:=cells5_at HR5.out ((Ext.rf wr).al (.cells #[.int .i64 y.Len,.int .i64 y.N] 68))
   clear eL eN hy hPI
   cases hp:pt x r a k with
   | none =>
    rw [hp] at hg F1
    have HG:=hid hg
    clear hg hp Hg
    go_wp2_with (first | (refine wpList_load_row rfl 104 _ rfl w.heap.size rfl 104 (tab x) (0,0) _ hTx Tryz.underlying104 rfl (by rw [tab_size];exact Tryz.size104) ?_))
    refine (F1.out _).mono ?_
    rintro e w2 ⟨rfl,hx2⟩
    have hx02:=((Ext.rf wr).al (.cells #[.int .i64 y.Len,.int .i64 y.N] 68)).tr hx2
    obtain ⟨d0',d1',d2',d3',d4'⟩:=cells5_at HR5.out hx02
    clear d0 d1 d2 d3 d4 s0 s1 s2 s3 s4 hTx
    go_wp2_with fail
    go_ret2
    exact ⟨_,false,rfl,hx.tr hx02,fun h=>Bool.noConfusion h,fun _=>HG.out.symm⟩
   | some t =>
    rw [hp] at hg F1
    have HG:=hid hg
    obtain ⟨t1,t2,t3⟩:=HPIk.out t hp
    have t4:=t3.1
    clear hg hp Hg t3
    go_wp2_with (first | (refine wpList_load_row rfl 104 _ rfl w.heap.size rfl 104 (tab x) (0,0) _ hTx Tryz.underlying104 rfl (by rw [tab_size];exact Tryz.size104) ?_))
    refine (F1.out _).mono ?_
    rintro e w2 ⟨rfl,hx2⟩
    have hx02:=((Ext.rf wr).al (.cells #[.int .i64 y.Len,.int .i64 y.N] 68)).tr hx2
    obtain ⟨d0',d1',d2',d3',d4'⟩:=cells5_at HR5.out hx02
    have hBX:wr.heap.size < w2.heap.size:=by have:=hx2.size;simp at this;omega
    have k0:w2.cell? ⟨wr.heap.size,0,none⟩=some (.int .i64 y.Len):=hx2.ce' (cell_of_row _ _ 0 _ _ _ (heap_alloc_new wr _))
    have k1:w2.cell? ⟨wr.heap.size,1,none⟩=some (.int .i64 y.N):=hx2.ce' (cell_of_row _ _ 1 _ _ _ (heap_alloc_new wr _))
    have hownW:=ownsRow_ext Hown.out hx02
    have hlt3:∀ g,ov.ownBlock=some g→w.heap.size+2≤g∧g < wr.heap.size:=fun g hg=>Hown.out.lt g hg
    have n1:some wr.heap.size≠ov.ownBlock:=fun e=>by have:=(hlt3 _ e.symm).2;omega
    have n2:some (w.heap.size+1)≠ov.ownBlock:=fun e=>by have:=(hlt3 _ e.symm).1;omega
    have n3:some w.heap.size≠ov.ownBlock:=fun e=>by have:=(hlt3 _ e.symm).1;omega
    have HX02:=hid hx02
    have Hlt3:=hid hlt3
    clear d0 d1 d2 d3 d4 s0 s1 s2 s3 s4 hTx hx2 hx02 hlt3
    obtain ⟨BX,hBXe⟩:∃ BX,wr.heap.size=BX:=⟨_,rfl⟩
    rw [hBXe] at k0 k1 n1 hBX ⊢
    have hBX2:w.heap.size+2≤BX:=by omega
    clear hBXe
    go_wp2_with (at_builtin;refine wpList_append_lies _ rfl _ _ 41 rfl (w.heap.size+2) 49 ir _ 2 16 Tryz.underlying41 ir1 ir2 ir3 ir4 rfl (by decide) _ _ _ rfl (hownW.alloc _) ⟨w2.heap.size,0,none⟩ 1 1 [.int .i64 k,.int .i64 t] rfl rfl (new2 _ (by simp) _ _ _) (one2 _ _ _ _) (by decide) (by unfold maxLen;omega) (by omega) (by simp;omega) (w2.heap.size+1) (by simp) ?_)
    intro gg cap W3 hown2 hgrow hat hlt4
    have k0':W3.cell? ⟨BX,0,none⟩=some (.int .i64 y.Len):=by rw [hgrow.cell_far ⟨BX,0,none⟩ (by simp;omega) n1];exact ((Ext.rf w2).al _).ce' k0
    have k1':W3.cell? ⟨BX,1,none⟩=some (.int .i64 y.N):=by rw [hgrow.cell_far ⟨BX,1,none⟩ (by simp;omega) n1];exact ((Ext.rf w2).al _).ce' k1
    have hR5:W3.heap[w.heap.size+1]?=_:=(hgrow.block (w.heap.size+1) (by simp;omega) n2).trans ((((Ext.rf w2).al _).block (w.heap.size+1) (by omega)).trans ((HX02.out.block (w.heap.size+1) (by have:=(Array.getElem?_eq_some_iff.1 HR5.out).1;exact this)).trans HR5.out))
    have hT3:TabAt 104 W3 w.heap.size x:=(hgrow.block w.heap.size (by simp;omega) n3).trans ((HT.out.ext HX02.out).ext ((Ext.rf w2).al _))
    have HR5':=hid hR5
    have HT3:=hid hT3
    have HX3:=hid (Ext.gr ((hx.tr HX02.out).al _) hgrow (fun g hg=>by have:=(Hlt3.out g hg).1;omega))
    have hsz3:w.heap.size+2≤W3.heap.size∧BX < W3.heap.size:=by have:=hgrow.size;simp at this;omega
    have Hown2:=hid hown2
    obtain ⟨d0,d1,d2,d3,d4⟩:=cells5_at hR5 (Ext.rf W3)
    have Hout2:=hid (show ∀ z∈out++[⟨(k:Int),(t:Int)⟩],I64 z.Piece∧I64 z.At from fun z hz=>by
     rcases List.mem_append.1 hz with h | h
     ·exact Hout.out z h
     ·simp at h;subst h;exact ⟨i64_nat (n:=k) (by omega),i64_nat (n:=t) (by omega)⟩)
    have hwr:IntKind.i64.wrap ((t:Int)+y.Len)=(t:Int)+y.Len:=by rw [IntKind.wrap_i64];omega
    clear d0' d1' d2' d3' d4' hR5 hT3 hgrow hat hlt4 n1 n2 n3 hown2 hownW k0 k1
    go_wp2_with fail
    go_loopw [15] (fun c wi=>c=.int .i64 (t:Int)∧wi=W3) (fun _ _=>0)
    case atStart=>exact ⟨rfl,rfl⟩
    case round =>
     obtain ⟨rfl,rfl⟩:=hrel
     have hil:(t:Int) < (t:Int)+y.Len:=by omega
     go_wp2_with fail
     go_roundw
     case rel=>exact ⟨k+1,NA k t,TX x k t,_,out++[⟨(k:Int),(t:Int)⟩],rfl,by rw [HNk.out];congr 1;omega,by go_num,by omega,by rw [HNk.out];omega,by simp [hol],HG,hid (by rw [bitesV_snoc];exact Hown2.out),Hout2,hid (by rw [HXk.out];exact HT3.out),HR5',hid (by rw [HXk.out];exact Hok.out.next),HX3.out,hsz3.1⟩
     case measure=>simp [intOf];omega
  ·obtain rfl:k=n:=by omega
   have hlt':¬ (k:Int) < (k:Int):=by omega
   have hg:=Hg.out
   rw [Nat.sub_self,H0.out] at hg
   have c3:=fun p:Later wr=>p.cell d3
   go_wp2_with fail
   refine region_later (by kernel_rfl) (by kernel_rfl) ?_
   repeat (go_big_quiet_step (fail))
   refine wpQuiet_nil ?_
   rintro w' ⟨p,rfl⟩
   have hx9:=hx.tr p.h
   have hov:=ownsRow_ext Hown.out p.h
   rw [← hol] at hov
   have HB:=hid (sv_of_owns2 hov Hout.out (by omega))
   have HFR:=hid (fresh_own (w0:=w) hov (by omega))
   clear hov c3
   go_wp2_with fail
   go_ret2
   exact ⟨_,true,rfl,hx9,fun _=>by rw [← hg];exact ⟨fun h=>by rw [h] at hol;simp at hol;omega,HB.out,HFR.out⟩,fun h=>Bool.noConfusion h⟩
theorem find_all (w:World) (x0:Nat→Int) (r:Request) (pv:Value) (hp:PiecesV w pv r.Pieces) (hr:ReqOk r) (hk:r.Kind=1) (hx0:TabOk 0 x0) :
  Calls Tryz.prog 60 #[.agg (tab x0),.agg #[.int .i64 r.Queue,.int .i64 r.From,.int .i64 r.Until,.int .i64 r.Kind,pv]] w (RetPickF w (placeL x0 r)):=by
 obtain ⟨⟨q1,q2,q3⟩,q4⟩:=req_range hr
 obtain ⟨m1,m3⟩:=hr.many
 obtain ⟨ir,ir1,ir2,ir3,ir4⟩:=info_parts Tryz.info49
 have F:=hid (fun (x:Nat→Int) (a k:Nat) (W:World) (hk:k < r.Pieces.length) (ha:a≤48)=>firstRef_piece W x r a k hr hk ha)
 have HPI:=hid (fun (x:Nat→Int) (a k t:Nat) (h:pieceT x r a k=some t)=>pieceT_in h)
 have hU48:r.Until.toNat≤48:=by omega
 obtain ⟨A0,hA0⟩:=Int.eq_ofNat_of_zero_le q1
 have hA48:A0≤48:=by omega
 have hA1:r.From.toNat=A0:=by omega
 have hR:=placeL_all (x:=x0) hk
 rw [hA1] at hR
 have H0:=hid (show ∀ k x a out,eachGo r (takeX r) (fromA r) 0 k x a out=out from fun _ _ _ _=>rfl)
 have H1:=hid (show ∀ m k x a out,eachGo r (takeX r) (fromA r) (m+1) k x a out=match pieceT x r a k with | none=>[] | some t=>eachGo r (takeX r) (fromA r) m (k+1) ((takeX r) x k t) ((fromA r) k t) (out++[⟨(k:Int),(t:Int)⟩]) from fun _ _ _ _ _=>rfl)
 have HN:=hid (show ∀ k t,fromA r k t=A0 from fun _ _=>hA1)
 have HX:=hid (show ∀ x k t,takeX r x k t=fun s=>x s+hillT t (t+(pL r k).toNat) (-(pN r k)) s from fun _ _ _=>rfl)
 rw [hk]
 obtain ⟨pb,po,pc,rfl,hpc,hpc9,hpb,hpE⟩:=pieces_at hp (by omega)
 have HE:=hid hpE
 have HQ:=hid q4
 have HOK:=hid hx0
 generalize placeL x0 r=R at *
 have HR:=hid hR.symm
 have HA:=hid hA0
 clear hR hp hr hA0 hk hpE q4 hx0 hA1
 generalize eachGo r (takeX r) (fromA r)=tg at *
 generalize pieceT=pt at *
 generalize takeX r=TX at *
 generalize fromA r=NA at *
 generalize hnn:r.Pieces.length=n at *
 have Hnn:=hid hnn
 clear hnn
 obtain ⟨w1,hw1,hx1,hT1,hR1,hs1⟩:=find_boxes w x0 (.int .i64 r.Queue) (.int .i64 r.From) (.int .i64 r.Until) (.int .i64 1) (.slice (some ⟨pb,po,none⟩) n pc)
 obtain ⟨b0,b1,b2,b3,b4⟩:=cells5_at hR1 (Ext.rf w1)
 have HT1:=hid hT1
 have HR1:=hid hR1
 have HX1:=hid hx1
 clear hT1 hR1 hx1
 go_enter Tryz.func60,Tryz.ntmps60
 go_wp2_with fail
 clear hw1 b0 b1 b2 b3 b4
 go_loopw [9,10,11] (fun v f c wr=>∃ (k a:Nat) (x:Nat→Int) (ov:Value) (out:List Bite),ov=v∧f=.int .i64 (a:Int)∧c=.int .i64 k∧k≤n∧a≤48∧out.length=k∧Hid (tg (n - k) k x a out=R)∧Hid (wr.ownsRow (w.heap.size+2) 49 2 ov k (bitesV out))∧Hid (∀ y∈out,I64 y.Piece∧I64 y.At)∧Hid (TabAt 104 wr w.heap.size x)∧Hid (wr.heap[w.heap.size+1]?=some (.cells #[.int .i64 r.Queue,.int .i64 r.From,.int .i64 r.Until,.int .i64 1,.slice (some ⟨pb,po,none⟩) n pc] 40 (0,0)))∧Hid (TabOk k x)∧Hid (a=A0)∧Ext w wr∧w.heap.size+2≤wr.heap.size) (fun _ _ c _=>n - (intOf c).toNat)
 case atStart=>exact ⟨0,A0,x0,_,[],rfl,by rw [HA.out],rfl,by omega,hA48,rfl,HR,World.ownsRow_nil _ _ _ _,hid (fun y hy=>by cases hy),HT1,HR1,HOK,hid rfl,HX1.out,by omega⟩
 case round =>
  obtain ⟨k,a,x,ov,out,rfl,rfl,rfl,hk,ha,hol,Hg,Hown,Hout,HT,HR5,Hok,Ha,hx,hsz⟩:=hrel
  obtain ⟨d0,d1,d2,d3,d4⟩:=cells5_at HR5.out (Ext.rf wr)
  by_cases hlt:k < n
  ·have hlt':(k:Int) < (n:Int):=by omega
   have hg:=Hg.out
   rw [show n - k=(n - (k+1))+1 by omega,H1.out] at hg
   obtain ⟨y,hy⟩:=getA (f:=r.Pieces) (k:=k) (by rw [Hnn.out];exact hlt)
   obtain ⟨e1,e2,_,_⟩:=E2.mono w wr pb _ y hx (HE.out k y hy)
   obtain ⟨eL,eN⟩:=piece_at hy
   obtain ⟨⟨p1,p2⟩,p3,p4⟩:=HQ.out k hlt
   have hPI:=HPI.out x a k
   have F1:=hid (fun (W:World)=>F.out x a k W hlt ha)
   rw [eL] at p1 p2 hPI F1
   rw [eN] at p3 p4 hPI F1
   have HNk:=hid (HN.out k)
   have HXk:=hid (HX.out x k)
   simp only [eL,eN] at HXk
   have hTx:=HT.out.ext ((Ext.rf wr).al (.cells #[.int .i64 y.Len,.int .i64 y.N] 68))
   have HPIk:=hid hPI
   obtain ⟨s0,s1,s2,s3,s4⟩:=cells5_at HR5.out ((Ext.rf wr).al (.cells #[.int .i64 y.Len,.int .i64 y.N] 68))
   clear eL eN hy hPI
   cases hp:pt x r a k with
   | none =>
    rw [hp] at hg F1
    have HG:=hid hg
    clear hg hp Hg
    go_wp2_with (first | (refine wpList_load_row rfl 104 _ rfl w.heap.size rfl 104 (tab x) (0,0) _ hTx Tryz.underlying104 rfl (by rw [tab_size];exact Tryz.size104) ?_))
    refine (F1.out _).mono ?_
    rintro e w2 ⟨rfl,hx2⟩
    have hx02:=((Ext.rf wr).al (.cells #[.int .i64 y.Len,.int .i64 y.N] 68)).tr hx2
    obtain ⟨d0',d1',d2',d3',d4'⟩:=cells5_at HR5.out hx02
    clear d0 d1 d2 d3 d4 s0 s1 s2 s3 s4 hTx
    go_wp2_with fail
    go_ret2
    exact ⟨_,false,rfl,hx.tr hx02,fun h=>Bool.noConfusion h,fun _=>HG.out.symm⟩
   | some t =>
    rw [hp] at hg F1
    have HG:=hid hg
    obtain ⟨t1,t2,t3⟩:=HPIk.out t hp
    have t4:=t3.1
    clear hg hp Hg t3
    go_wp2_with (first | (refine wpList_load_row rfl 104 _ rfl w.heap.size rfl 104 (tab x) (0,0) _ hTx Tryz.underlying104 rfl (by rw [tab_size];exact Tryz.size104) ?_))
    refine (F1.out _).mono ?_
    rintro e w2 ⟨rfl,hx2⟩
    have hx02:=((Ext.rf wr).al (.cells #[.int .i64 y.Len,.int .i64 y.N] 68)).tr hx2
    obtain ⟨d0',d1',d2',d3',d4'⟩:=cells5_at HR5.out hx02
    have hBX:wr.heap.size < w2.heap.size:=by have:=hx2.size;simp at this;omega
    have k0:w2.cell? ⟨wr.heap.size,0,none⟩=some (.int .i64 y.Len):=hx2.ce' (cell_of_row _ _ 0 _ _ _ (heap_alloc_new wr _))
    have k1:w2.cell? ⟨wr.heap.size,1,none⟩=some (.int .i64 y.N):=hx2.ce' (cell_of_row _ _ 1 _ _ _ (heap_alloc_new wr _))
    have hownW:=ownsRow_ext Hown.out hx02
    have hlt3:∀ g,ov.ownBlock=some g→w.heap.size+2≤g∧g < wr.heap.size:=fun g hg=>Hown.out.lt g hg
    have n1:some wr.heap.size≠ov.ownBlock:=fun e=>by have:=(hlt3 _ e.symm).2;omega
    have n2:some (w.heap.size+1)≠ov.ownBlock:=fun e=>by have:=(hlt3 _ e.symm).1;omega
    have n3:some w.heap.size≠ov.ownBlock:=fun e=>by have:=(hlt3 _ e.symm).1;omega
    have HX02:=hid hx02
    have Hlt3:=hid hlt3
    clear d0 d1 d2 d3 d4 s0 s1 s2 s3 s4 hTx hx2 hx02 hlt3
    obtain ⟨BX,hBXe⟩:∃ BX,wr.heap.size=BX:=⟨_,rfl⟩
    rw [hBXe] at k0 k1 n1 hBX ⊢
    have hBX2:w.heap.size+2≤BX:=by omega
    clear hBXe
    go_wp2_with (at_builtin;refine wpList_append_lies _ rfl _ _ 41 rfl (w.heap.size+2) 49 ir _ 2 16 Tryz.underlying41 ir1 ir2 ir3 ir4 rfl (by decide) _ _ _ rfl (hownW.alloc _) ⟨w2.heap.size,0,none⟩ 1 1 [.int .i64 k,.int .i64 t] rfl rfl (new2 _ (by simp) _ _ _) (one2 _ _ _ _) (by decide) (by unfold maxLen;omega) (by omega) (by simp;omega) (w2.heap.size+1) (by simp) ?_)
    intro gg cap W3 hown2 hgrow hat hlt4
    have k0':W3.cell? ⟨BX,0,none⟩=some (.int .i64 y.Len):=by rw [hgrow.cell_far ⟨BX,0,none⟩ (by simp;omega) n1];exact ((Ext.rf w2).al _).ce' k0
    have k1':W3.cell? ⟨BX,1,none⟩=some (.int .i64 y.N):=by rw [hgrow.cell_far ⟨BX,1,none⟩ (by simp;omega) n1];exact ((Ext.rf w2).al _).ce' k1
    have hR5:W3.heap[w.heap.size+1]?=_:=(hgrow.block (w.heap.size+1) (by simp;omega) n2).trans ((((Ext.rf w2).al _).block (w.heap.size+1) (by omega)).trans ((HX02.out.block (w.heap.size+1) (by have:=(Array.getElem?_eq_some_iff.1 HR5.out).1;exact this)).trans HR5.out))
    have hT3:TabAt 104 W3 w.heap.size x:=(hgrow.block w.heap.size (by simp;omega) n3).trans ((HT.out.ext HX02.out).ext ((Ext.rf w2).al _))
    have HR5':=hid hR5
    have HT3:=hid hT3
    have HX3:=hid (Ext.gr ((hx.tr HX02.out).al _) hgrow (fun g hg=>by have:=(Hlt3.out g hg).1;omega))
    have hsz3:w.heap.size+2≤W3.heap.size∧BX < W3.heap.size:=by have:=hgrow.size;simp at this;omega
    have Hown2:=hid hown2
    obtain ⟨d0,d1,d2,d3,d4⟩:=cells5_at hR5 (Ext.rf W3)
    have Hout2:=hid (show ∀ z∈out++[⟨(k:Int),(t:Int)⟩],I64 z.Piece∧I64 z.At from fun z hz=>by
     rcases List.mem_append.1 hz with h | h
     ·exact Hout.out z h
     ·simp at h;subst h;exact ⟨i64_nat (n:=k) (by omega),i64_nat (n:=t) (by omega)⟩)
    have hwr:IntKind.i64.wrap ((t:Int)+y.Len)=(t:Int)+y.Len:=by rw [IntKind.wrap_i64];omega
    clear d0' d1' d2' d3' d4' hR5 hT3 hgrow hat hlt4 n1 n2 n3 hown2 hownW k0 k1
    go_wp2_with fail
    obtain ⟨z,hz⟩:=Int.eq_ofNat_of_zero_le (by omega:0≤y.Len)
    have hz2:y.Len.toNat=z:=by omega
    rw [hz2] at HXk
    have Hz:=hid hz
    have hz48:t+z≤48:=by omega
    clear hz hz2
    go_loopw [15] (fun c wi=>∃ i:Nat,c=.int .i64 (i:Int)∧t≤i∧i≤t+z∧Hid (TabAt 104 wi w.heap.size (mixT (fun s=>x s+hillT t (t+z) (-y.N) s) x i))∧Hid (wi.heap[w.heap.size+1]?=some (.cells #[.int .i64 r.Queue,.int .i64 r.From,.int .i64 r.Until,.int .i64 1,.slice (some ⟨pb,po,none⟩) n pc] 40 (0,0)))∧Hid (W3.grownBy wi (some w.heap.size))∧Ext w wi) (fun c _=>t+z - (intOf c).toNat)
    case atStart=>exact ⟨t,rfl,Nat.le_refl _,by omega,hid (by rw [mixB_start];exact HT3.out),HR5',hid (grown_of_ext (Ext.rf W3)),HX3.out⟩
    case round =>
     obtain ⟨i,rfl,hi1,hi2,HTi,HRi,HGi,hxi⟩:=hrel
     obtain ⟨f0,f1,f2,f3,f4⟩:=cells5_at HRi.out (Ext.rf wr)
     have hbi:wr.cell? ⟨BX,0,none⟩=some (.int .i64 y.Len):=by rw [HGi.out.cell_far ⟨BX,0,none⟩ hsz3.2 (fun e=>by simp at e;omega)];exact k0'
     have hbn:wr.cell? ⟨BX,1,none⟩=some (.int .i64 y.N):=by rw [HGi.out.cell_far ⟨BX,1,none⟩ hsz3.2 (fun e=>by simp at e;omega)];exact k1'
     by_cases hil:i < t+z
     ·have hil':(i:Int) < (t:Int)+y.Len:=by have:=Hz.out;omega
      have hc:=HTi.out.cell (t:=i) (by omega)
      rw [mixT_at] at hc
      have hfz:=HTi.out.free i
      have hbnd:=Hok.out i (by omega)
      have hwr2:IntKind.i64.wrap (x i - y.N)=x i - y.N:=by rw [IntKind.wrap_i64];omega
      have hin:=hid (hillT_in (n:=-y.N) hi1 hil)
      have HT2:=hid (HTi.out.set (t:=i) (by omega) (x i - y.N))
      clear hbnd
      go_wp2_with fail
      refine region_quiet_tail (C:=fun w'=>∃ m,w'=wr.drewN m) 8 (by kernel_rfl) (by kernel_rfl) ⟨1,rfl⟩ ?_
      simp only [List.take_succ_cons,List.take_zero,List.drop_succ_cons,List.drop_zero]
      repeat (go_big_quiet_step (fail))
      refine wpQuiet_nil ?_
      rintro w' ⟨nq,rfl⟩
      go_wp2_with fail
      refine ⟨⟨i+1,by go_num,by omega,by omega,hid ?_,hid (keepR5 (w:=wr.drewN nq) HRi.out (by omega) _),hid (grown_trans (grown_trans HGi.out (grown_of_ext ((Ext.rf wr).dn nq))) (grown_set _ _ _ _)),(hxi.dn nq).se (Nat.le_refl _) _⟩,by simp [intOf];omega⟩
      have h9:=(HTi.out.ext ((Ext.rf wr).dn nq)).set (t:=i) (by omega) (x i - y.N)
      have e9:x i - y.N=(fun s=>x s+hillT t (t+z) (-y.N) s) i:=by show x i - y.N=x i+hillT t (t+z) (-y.N) i;rw [hin.out];omega
      rw [e9] at h9 ⊢
      rw [← mixT_step]
      exact h9
     ·obtain rfl:i=t+z:=by omega
      have hil':¬ ((t+z:Nat):Int) < (t:Int)+y.Len:=by have:=Hz.out;omega
      have hT4:TabAt 104 wr w.heap.size (TX x k t):=by have:=HTi.out;rw [mixB_end] at this;rw [HXk.out];exact this
      have HT4:=hid hT4
      clear hT4
      go_wp2_with fail
      go_roundw
      case rel=>exact ⟨k+1,NA k t,TX x k t,_,out++[⟨(k:Int),(t:Int)⟩],rfl,by rw [HNk.out,Ha.out],by go_num,by omega,by rw [HNk.out];omega,by simp [hol],HG,hid (ownsRow_grown (by rw [bitesV_snoc];exact Hown2.out) HGi.out (by omega)),Hout2,HT4,HRi,hid (by rw [HXk.out];exact Hok.out.take ⟨p3,p4⟩),hid (HNk.out t),hxi,by have:=HGi.out.size;omega⟩
      case measure=>simp [intOf];omega
  ·obtain rfl:k=n:=by omega
   have hlt':¬ (k:Int) < (k:Int):=by omega
   have hg:=Hg.out
   rw [Nat.sub_self,H0.out] at hg
   have c3:=fun p:Later wr=>p.cell d3
   go_wp2_with fail
   refine region_later (by kernel_rfl) (by kernel_rfl) ?_
   repeat (go_big_quiet_step (fail))
   refine wpQuiet_nil ?_
   rintro w' ⟨p,rfl⟩
   have hx9:=hx.tr p.h
   have hov:=ownsRow_ext Hown.out p.h
   rw [← hol] at hov
   have HB:=hid (sv_of_owns2 hov Hout.out (by omega))
   have HFR:=hid (fresh_own (w0:=w) hov (by omega))
   clear hov c3
   go_wp2_with fail
   go_ret2
   exact ⟨_,true,rfl,hx9,fun _=>by rw [← hg];exact ⟨fun h=>by rw [h] at hol;simp at hol;omega,HB.out,HFR.out⟩,fun h=>Bool.noConfusion h⟩
theorem find_refF (w:World) (x0:Nat→Int) (r:Request) (pv:Value) (hp:PiecesV w pv r.Pieces) (hr:ReqOk r) (hx0:TabOk 0 x0) :
  Calls Tryz.prog 60 #[.agg (tab x0),.agg #[.int .i64 r.Queue,.int .i64 r.From,.int .i64 r.Until,.int .i64 r.Kind,pv]] w (RetPickF w (placeL x0 r)):=by
 obtain ⟨k1,k2⟩:=hr.kind
 rcases (by omega:r.Kind=1∨r.Kind=2∨r.Kind=3∨r.Kind=4) with hk | hk | hk | hk
 ·exact find_all w x0 r pv hp hr hk hx0
 ·exact find_any w x0 r pv hp hr hk hx0
 ·exact find_order w x0 r pv hp hr hk hx0
 ·exact find_tight w x0 r pv hp hr hk
theorem tabOk_fine {f:List Run} (h:Fine f):TabOk 0 (sp f):=fun t ht=>by
 have:=fine_sp h ht
 have h1:=this.1
 have h2:=this.2
 omega
end Go.Proofs.YtncaoclhlfkdoaaGreat
