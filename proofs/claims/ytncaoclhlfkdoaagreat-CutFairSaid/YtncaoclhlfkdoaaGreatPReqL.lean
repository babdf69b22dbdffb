/- requests; literals -/
import Derived.Test.YtncaoclhlfkdoaaGreatPSeekS
import Derived.Test.YtncaoclhlfkdoaaGreatPUp
import Derived.Test.YtncaoclhlfkdoaaGreatPCore
import Derived.Deep.RegionHeld3
/- Walks of requests: rangeError, shaped; req.Check, CheckReq. -/
set_option linter.unusedVariables false
set_option maxRecDepth 100000
set_option maxHeartbeats 8000000
namespace Go.Proofs.YtncaoclhlfkdoaaGreat
open Go.RowKit
open List renaming getElem_toArray→l1,getElem_cons_zero→l2,getElem_cons_succ→l3,setIfInBounds_toArray→l4,set_cons_zero→l5,set_cons_succ→l6
theorem pieces_at {w:World} {v:Value} {l:List Piece} (hv:PiecesV w v l) (h1:1≤l.length):∃ b off cap,v=.slice (some ⟨b,off,none⟩) l.length cap∧l.length≤cap∧cap≤9223372036854775807∧b < w.heap.size∧∀ k x,l[k]?=some x→EPiece w b (off+k*2) x:=by
 rcases hv with ⟨rfl,_⟩ | ⟨b,off,cap,rfl,h2,h3,h4,h5,h6⟩
 ·simp at h1
 ·exact ⟨b,off,cap,rfl,h2,h3,h5,h6⟩
theorem pall_snoc {l:List Piece} {k:Nat} {x:Piece} (h:∀ j y,j < k→l[j]?=some y→PieceOk y) (hx:l[k]?=some x) (hk:PieceOk x):∀ j y,j < k+1→l[j]?=some y→PieceOk y:=fun j y hj hy=>by
 by_cases e:j=k
 ·subst e;rw [hx] at hy;rw [← Option.some.inj hy];exact hk
 ·exact h j y (by omega) hy
theorem rangeError_any (w:World) (pv:Value) (r:Request) (hv:PiecesV w pv r.Pieces) :
  Calls Tryz.prog 89 #[.agg #[.int .i64 r.Queue,.int .i64 r.From,.int .i64 r.Until,.int .i64 r.Kind,pv]] w fun e w'=>e=.returned (.int .i64 (rangeE r))∧Ext w w':=by
 have hal:=hid (fun (o:Obj)=>(Ext.rf w).al o)
 by_cases hs:SpanOk r.From r.Until
 ·have S:=hid (fun (W:World)=>span_yes r.From r.Until W hs.1 hs.2.1 hs.2.2)
  rcases hv with ⟨h0,a0,c0,rfl,hc0⟩ | ⟨b,off,cap,rfl,h1,h2,h3,h4,h5⟩
  ·have Hr:=hid (rangeE_yes (r:=r) ⟨hs,by rw [h0];intro p hp;cases hp⟩)
   clear hs h0
   go_enter Tryz.func89,Tryz.ntmps89
   go_wp2_with fail
   refine (S.out _).mono ?_
   rintro e w1 ⟨rfl,rfl⟩
   go_wp2_with fail
   go_loopw [3] (fun c wr=>c=.int .i64 0∧wr=w.alloc (.cells #[.int .i64 r.Queue,.int .i64 r.From,.int .i64 r.Until,.int .i64 r.Kind,(.slice a0 0 c0)] 40)) (fun _ _=>0)
   case atStart=>exact ⟨rfl,rfl⟩
   case round =>
    obtain ⟨rfl,rfl⟩:=hrel
    go_wp2_with fail
    go_ret
    exact ⟨ret_int Hr.out.symm,hal.out _⟩
  ·have HE:=hid h5
   have HR:=hid (fun (h:∀ p∈r.Pieces,PieceOk p)=>rangeE_yes (r:=r) ⟨hs,h⟩)
   have HB:=hid (fun (p:Piece) (hp:p∈r.Pieces) (h:¬ PieceOk p)=>rangeE_no (r:=r) (fun h'=>h (h'.2 p hp)))
   clear hs h5
   generalize hn:r.Pieces.length=n at *
   have Hn:=hid hn
   clear hn
   go_enter Tryz.func89,Tryz.ntmps89
   go_wp2_with fail
   refine (S.out _).mono ?_
   rintro e w1 ⟨rfl,rfl⟩
   go_wp2_with fail
   go_loopw [3] (fun c wr=>∃ k:Nat,c=.int .i64 k∧k≤n∧Hid (∀ j y,j < k→r.Pieces[j]?=some y→PieceOk y)∧wr=w.alloc (.cells #[.int .i64 r.Queue,.int .i64 r.From,.int .i64 r.Until,.int .i64 r.Kind,(.slice (some ⟨b,off,none⟩) n cap)] 40)) (fun c _=>n - (intOf c).toNat)
   case atStart=>exact ⟨0,rfl,by omega,fun j y hj=>absurd hj (Nat.not_lt_zero _),rfl⟩
   case round =>
    obtain ⟨k,rfl,hk,Hall,rfl⟩:=hrel
    by_cases hlt:k < n
    ·have hlt':(k:Int) < (n:Int):=by omega
     obtain ⟨x,hxk⟩:=getA (f:=r.Pieces) (k:=k) (by rw [Hn.out];exact hlt)
     obtain ⟨c1,c2,_,_⟩:=E2.mono w _ b _ x (hal.out (.cells #[.int .i64 r.Queue,.int .i64 r.From,.int .i64 r.Until,.int .i64 r.Kind,(.slice (some ⟨b,off,none⟩) n cap)] 40)) (HE.out k x hxk)
     by_cases hp1:1≤x.Len∧x.Len≤24
     ·have W1:=hid (fun (W:World)=>within_yes x.Len 1 24 W hp1.1 hp1.2)
      by_cases hp2:1≤x.N∧x.N≤50
      ·have W2:=hid (fun (W:World)=>within_yes x.N 1 50 W hp2.1 hp2.2)
       have Hs:=hid (pall_snoc Hall.out hxk ⟨hp1,hp2⟩)
       clear hxk Hall hp1 hp2
       go_wp2_with fail
       refine (W1.out _).mono ?_
       rintro e w1 ⟨rfl,rfl⟩
       go_wp2_with fail
       refine (W2.out _).mono ?_
       rintro e w1 ⟨rfl,rfl⟩
       go_wp2_with fail
       go_roundw
       case rel=>exact ⟨k+1,by go_num,by omega,Hs,trivial⟩
       case measure=>simp [intOf];omega
      ·have W2:=hid (fun (W:World)=>within_no x.N 1 50 W hp2)
       have Hr:=hid (HB.out x (List.mem_of_getElem? hxk) (fun h=>hp2 h.2))
       clear hxk Hall hp1 hp2
       go_wp2_with fail
       refine (W1.out _).mono ?_
       rintro e w1 ⟨rfl,rfl⟩
       go_wp2_with fail
       refine (W2.out _).mono ?_
       rintro e w1 ⟨rfl,rfl⟩
       go_wp2_with fail
       go_ret
       exact ⟨ret_int Hr.out.symm,hal.out _⟩
     ·have W1:=hid (fun (W:World)=>within_no x.Len 1 24 W hp1)
      have Hr:=hid (HB.out x (List.mem_of_getElem? hxk) (fun h=>hp1 h.1))
      clear hxk Hall hp1
      go_wp2_with fail
      refine (W1.out _).mono ?_
      rintro e w1 ⟨rfl,rfl⟩
      go_wp2_with fail
      go_ret
      exact ⟨ret_int Hr.out.symm,hal.out _⟩
    ·have hlt':¬ (k:Int) < (n:Int):=by omega
     obtain rfl:k=n:=by omega
     have Hr:=hid (HR.out (fun p hp=>by
      obtain ⟨j,hj,rfl⟩:=List.mem_iff_getElem.1 hp
      exact Hall.out j _ (by rw [← Hn.out];exact hj) (by simp)))
     clear Hall
     go_wp2_with fail
     go_ret
     exact ⟨ret_int Hr.out.symm,hal.out _⟩
 ·have S:=hid (fun (W:World)=>span_no r.From r.Until W hs)
  have Hr:=hid (rangeE_no (r:=r) (fun h=>hs h.1))
  obtain ⟨pa,pc,rfl,hpc,_,hpl⟩:=hv.form
  clear hv hs
  generalize r.Pieces.length=n at *
  go_enter Tryz.func89,Tryz.ntmps89
  go_wp2_with fail
  refine (S.out _).mono ?_
  rintro e w1 ⟨rfl,rfl⟩
  go_wp2_with fail
  go_ret
  exact ⟨ret_int Hr.out.symm,hal.out _⟩
theorem shaped_any (w:World) (pv:Value) (r:Request) (hv:PiecesV w pv r.Pieces) :
  Calls Tryz.prog 182 #[.agg #[.int .i64 r.Queue,.int .i64 r.From,.int .i64 r.Until,.int .i64 r.Kind,pv]] w fun e w'=>e=.returned (.bool (decide (ReqOk r)))∧Ext w w':=by
 have hal:=hid (fun (o:Obj)=>(Ext.rf w).al o)
 have K:=hid (fun (W:World)=>isKind_any r.Kind W)
 have M:=hid (fun (W:World) (h:Ext w W)=>piecesError_any W pv r (hv.mono h))
 have G:=hid (fun (W:World) (h:Ext w W)=>rangeError_any W pv r (hv.mono h))
 obtain ⟨pa,pc,rfl,hpc,_,hpl⟩:=hv.form
 clear hv
 by_cases h1:KindOk r.Kind
 ·rw [deT h1] at K
  by_cases h2:ManyOk r
  ·rw [manyE_yes h2] at M
   by_cases h3:RangeOk r
   ·rw [rangeE_yes h3] at G
    rw [deT (p:=ReqOk r) ⟨h1,h2,h3⟩]
    clear h1 h2 h3
    generalize r.Pieces.length=n at *
    go_enter Tryz.func182,Tryz.ntmps182
    go_wp2_with fail
    refine (K.out _).mono ?_
    rintro e w1 ⟨rfl,rfl⟩
    go_wp2_with fail
    refine (M.out _ (hal.out _)).mono ?_
    rintro e w2 ⟨rfl,hx2⟩
    have hx02:=hid ((hal.out _).tr hx2)
    obtain ⟨_,_,_,_,_⟩:=reqCells hx2
    go_wp2_with fail
    refine (G.out _ hx02.out).mono ?_
    rintro e w3 ⟨rfl,hx3⟩
    go_wp2_with fail
    go_ret
    exact ⟨rfl,hx02.out.tr hx3⟩
   ·rw [rangeE_no h3] at G
    rw [deF (p:=ReqOk r) (fun h=>h3 h.range)]
    clear h1 h2 h3
    generalize r.Pieces.length=n at *
    go_enter Tryz.func182,Tryz.ntmps182
    go_wp2_with fail
    refine (K.out _).mono ?_
    rintro e w1 ⟨rfl,rfl⟩
    go_wp2_with fail
    refine (M.out _ (hal.out _)).mono ?_
    rintro e w2 ⟨rfl,hx2⟩
    have hx02:=hid ((hal.out _).tr hx2)
    obtain ⟨_,_,_,_,_⟩:=reqCells hx2
    go_wp2_with fail
    refine (G.out _ hx02.out).mono ?_
    rintro e w3 ⟨rfl,hx3⟩
    go_wp2_with fail
    go_ret
    exact ⟨rfl,hx02.out.tr hx3⟩
  ·rw [manyE_no h2] at M
   rw [deF (p:=ReqOk r) (fun h=>h2 h.many)]
   clear h1 h2
   generalize r.Pieces.length=n at *
   go_enter Tryz.func182,Tryz.ntmps182
   go_wp2_with fail
   refine (K.out _).mono ?_
   rintro e w1 ⟨rfl,rfl⟩
   go_wp2_with fail
   refine (M.out _ (hal.out _)).mono ?_
   rintro e w2 ⟨rfl,hx2⟩
   have hx02:=hid ((hal.out _).tr hx2)
   obtain ⟨_,_,_,_,_⟩:=reqCells hx2
   go_wp2_with fail
   go_ret
   exact ⟨rfl,hx02.out⟩
 ·rw [deF h1] at K
  rw [deF (p:=ReqOk r) (fun h=>h1 h.kind)]
  clear h1
  generalize r.Pieces.length=n at *
  go_enter Tryz.func182,Tryz.ntmps182
  go_wp2_with fail
  refine (K.out _).mono ?_
  rintro e w1 ⟨rfl,rfl⟩
  go_wp2_with fail
  go_ret
  exact ⟨rfl,hal.out _⟩
@[irreducible] def reqE (l:List Queue) (r:Request):Int :=
 if checkT l≠0 then checkT l else if ¬ KindOk r.Kind then 7 else if ¬ ManyOk r then 2 else if ¬ (0≤r.Queue∧r.Queue < l.length) then 6 else if ¬ RangeOk r then 3 else 0
theorem reqE_zero {l:List Queue} {r:Request} (h:reqE l r=0):checkT l=0∧ReqOk r∧0≤r.Queue∧r.Queue < l.length:=by
 unfold reqE at h
 by_cases h0:checkT l=0
 ·rw [if_neg (fun h'=>h' h0)] at h
  by_cases h1:KindOk r.Kind
  ·rw [if_neg (fun h'=>h' h1)] at h
   by_cases h2:ManyOk r
   ·rw [if_neg (fun h'=>h' h2)] at h
    by_cases h3:0≤r.Queue∧r.Queue < l.length
    ·rw [if_neg (fun h'=>h' h3)] at h
     by_cases h4:RangeOk r
     ·exact ⟨h0,⟨h1,h2,h4⟩,h3.1,h3.2⟩
     ·rw [if_pos h4] at h;omega
    ·rw [if_pos h3] at h;omega
   ·rw [if_pos h2] at h;omega
  ·rw [if_pos h1] at h;omega
 ·rw [if_pos h0] at h;exact absurd h h0
theorem reqE_ok {l:List Queue} {r:Request} (h0:checkT l=0) (h:ReqOk r) (h3:0≤r.Queue∧r.Queue < l.length):reqE l r=0:=by
 unfold reqE
 rw [if_neg (fun h'=>h' h0),if_neg (fun h'=>h' h.kind),if_neg (fun h'=>h' h.many),if_neg (fun h'=>h' h3),if_neg (fun h'=>h' h.range)]
theorem reqE_tree {l:List Queue} {r:Request} (h0:checkT l≠0):reqE l r=checkT l:=by unfold reqE;rw [if_pos h0]
theorem reqE_form {l:List Queue} {r:Request} (h0:checkT l=0):reqE l r=if (formR r).2=false∧¬ (0≤r.Queue∧r.Queue < l.length) then 6 else (formR r).1:=by
 unfold reqE
 rw [if_neg (fun h'=>h' h0)]
 rcases formR_cases r with ⟨h1,hr⟩ | ⟨h1,h2,hr⟩ | ⟨h1,h2,h3,hr⟩ | ⟨h1,hr⟩
 ·rw [hr,if_pos h1,if_neg (fun h=>by cases h.1)]
 ·rw [hr,if_neg (fun h'=>h' h1),if_pos h2,if_neg (fun h=>by cases h.1)]
 ·rw [hr,if_neg (fun h'=>h' h1),if_neg (fun h'=>h' h2)]
  by_cases h4:0≤r.Queue∧r.Queue < l.length
  ·rw [if_neg (fun h'=>h' h4),if_pos h3,if_neg (fun h=>h.2 h4)]
  ·rw [if_pos h4,if_pos ⟨rfl,h4⟩]
 ·rw [hr,if_neg (fun h'=>h' h1.kind),if_neg (fun h'=>h' h1.many)]
  by_cases h4:0≤r.Queue∧r.Queue < l.length
  ·rw [if_neg (fun h'=>h' h4),if_neg (fun h'=>h' h1.range),if_neg (fun h=>h.2 h4)]
  ·rw [if_pos h4,if_pos ⟨rfl,h4⟩]
theorem reqCheck_any (w:World) (v pv:Value) (l:List Queue) (r:Request) (hl:QueuesV w v l) (hv:PiecesV w pv r.Pieces) :
  Calls Tryz.prog 129 #[v,.agg #[.int .i64 r.Queue,.int .i64 r.From,.int .i64 r.Until,.int .i64 r.Kind,pv]] w fun e w'=>e=.returned (.int .i64 (reqE l r))∧Ext w w':=by
 have hal:=hid (fun (o:Obj)=>(Ext.rf w).al o)
 have T:=hid (fun (W:World) (h:Ext w W)=>treeCheck_any W v l (hl.mono h))
 have F:=hid (fun (W:World) (h:Ext w W)=>Form_any W pv r (hv.mono h))
 obtain ⟨pa,pc,rfl,hpc,_,hpl⟩:=hv.form
 obtain ⟨qa,qc,rfl,hqc,_,hql⟩:=hl.form
 clear hv hl
 by_cases h0:checkT l=0
 ·have Hf:=hid (reqE_form (r:=r) h0)
  rw [h0] at T
  obtain ⟨fe,fb,hf⟩:∃ fe fb,formR r=(fe,fb):=⟨_,_,rfl⟩
  rw [hf] at F Hf
  clear h0 hf
  cases fb with
  | true =>
   have Hr:=hid (show reqE l r=fe from by rw [Hf.out,if_neg (fun h=>by cases h.1)])
   generalize r.Pieces.length=n at *
   generalize l.length=m at *
   go_enter Tryz.func129,Tryz.ntmps129
   go_wp2_with fail
   refine (T.out _ (hal.out _)).mono ?_
   rintro e w1 ⟨rfl,hx1⟩
   have hx01:=hid ((hal.out _).tr hx1)
   obtain ⟨_,_,_,_,_⟩:=reqCells hx1
   go_wp2_with fail
   refine (F.out _ hx01.out).mono ?_
   rintro e w2 ⟨rfl,hx2⟩
   obtain ⟨_,_,_,_,_⟩:=reqCells (hx1.tr hx2)
   go_wp2_with fail
   go_ret
   exact ⟨ret_int Hr.out.symm,hx01.out.tr hx2⟩
  | false =>
   by_cases h1:r.Queue < 0
   ·have Hr:=hid (show reqE l r=6 from by rw [Hf.out,if_pos ⟨rfl,fun h=>by omega⟩])
    generalize r.Pieces.length=n at *
    generalize l.length=m at *
    go_enter Tryz.func129,Tryz.ntmps129
    go_wp2_with fail
    refine (T.out _ (hal.out _)).mono ?_
    rintro e w1 ⟨rfl,hx1⟩
    have hx01:=hid ((hal.out _).tr hx1)
    obtain ⟨_,_,_,_,_⟩:=reqCells hx1
    go_wp2_with fail
    refine (F.out _ hx01.out).mono ?_
    rintro e w2 ⟨rfl,hx2⟩
    obtain ⟨_,_,_,_,_⟩:=reqCells (hx1.tr hx2)
    go_wp2_with fail
    go_ret
    exact ⟨ret_int Hr.out.symm,hx01.out.tr hx2⟩
   ·by_cases h2:(l.length:Int)≤r.Queue
    ·have Hr:=hid (show reqE l r=6 from by rw [Hf.out,if_pos ⟨rfl,fun h=>by omega⟩])
     generalize r.Pieces.length=n at *
     generalize l.length=m at *
     go_enter Tryz.func129,Tryz.ntmps129
     go_wp2_with fail
     refine (T.out _ (hal.out _)).mono ?_
     rintro e w1 ⟨rfl,hx1⟩
     have hx01:=hid ((hal.out _).tr hx1)
     obtain ⟨_,_,_,_,_⟩:=reqCells hx1
     go_wp2_with fail
     refine (F.out _ hx01.out).mono ?_
     rintro e w2 ⟨rfl,hx2⟩
     obtain ⟨_,_,_,_,_⟩:=reqCells (hx1.tr hx2)
     go_wp2_with fail
     go_ret
     exact ⟨ret_int Hr.out.symm,hx01.out.tr hx2⟩
    ·have Hr:=hid (show reqE l r=fe from by rw [Hf.out,if_neg (fun h=>h.2 ⟨by omega,by omega⟩)])
     generalize r.Pieces.length=n at *
     generalize l.length=m at *
     go_enter Tryz.func129,Tryz.ntmps129
     go_wp2_with fail
     refine (T.out _ (hal.out _)).mono ?_
     rintro e w1 ⟨rfl,hx1⟩
     have hx01:=hid ((hal.out _).tr hx1)
     obtain ⟨_,_,_,_,_⟩:=reqCells hx1
     go_wp2_with fail
     refine (F.out _ hx01.out).mono ?_
     rintro e w2 ⟨rfl,hx2⟩
     obtain ⟨_,_,_,_,_⟩:=reqCells (hx1.tr hx2)
     go_wp2_with fail
     go_ret
     exact ⟨ret_int Hr.out.symm,hx01.out.tr hx2⟩
 ·have Hr:=hid (reqE_tree (r:=r) h0)
  have hne:=neT h0
  clear h0
  generalize r.Pieces.length=n at *
  generalize l.length=m at *
  go_enter Tryz.func129,Tryz.ntmps129
  go_wp2_with fail
  refine (T.out _ (hal.out _)).mono ?_
  rintro e w1 ⟨rfl,hx1⟩
  go_wp2_with fail
  go_ret
  exact ⟨ret_int Hr.out.symm,(hal.out _).tr hx1⟩
theorem CheckReq_any (w:World) (v pv:Value) (l:List Queue) (r:Request) (hl:QueuesV w v l) (hv:PiecesV w pv r.Pieces) :
  Calls Tryz.prog 147 #[v,.agg #[.int .i64 r.Queue,.int .i64 r.From,.int .i64 r.Until,.int .i64 r.Kind,pv]] w fun e w'=>e=.returned (.int .i64 (reqE l r))∧Ext w w':=by
 have hal:=hid (fun (o:Obj)=>(Ext.rf w).al o)
 have T:=hid (fun (W:World) (h:Ext w W)=>CheckTree_any W v l (hl.mono h))
 have K:=hid (fun (W:World)=>isKind_any r.Kind W)
 have M:=hid (fun (W:World) (h:Ext w W)=>piecesError_any W pv r (hv.mono h))
 have G:=hid (fun (W:World) (h:Ext w W)=>rangeError_any W pv r (hv.mono h))
 obtain ⟨pa,pc,rfl,hpc,_,hpl⟩:=hv.form
 obtain ⟨qa,qc,rfl,hqc,_,hql⟩:=hl.form
 clear hv hl
 by_cases h0:checkT l=0
 ·have Hf:=hid (show reqE l r=if ¬ KindOk r.Kind then 7 else if ¬ ManyOk r then 2 else if ¬ (0≤r.Queue∧r.Queue < l.length) then 6 else if ¬ RangeOk r then 3 else 0 from by unfold reqE;rw [if_neg (fun h'=>h' h0)])
  rw [h0] at T
  clear h0
  by_cases h1:KindOk r.Kind
  ·rw [deT h1] at K
   by_cases h2:ManyOk r
   ·rw [manyE_yes h2] at M
    by_cases h3:0≤r.Queue∧r.Queue < l.length
    ·have W1:=hid (fun (W:World)=>within_yes r.Queue 0 ((l.length:Int) - 1) W h3.1 (by omega))
     have Hr:=hid (show reqE l r=rangeE r from by
      rw [Hf.out,if_neg (fun h'=>h' h1),if_neg (fun h'=>h' h2),if_neg (fun h'=>h' h3)]
      by_cases h4:RangeOk r
      ·rw [if_neg (fun h'=>h' h4),rangeE_yes h4]
      ·rw [if_pos h4,rangeE_no h4])
     clear h1 h2 h3 Hf
     generalize r.Pieces.length=n at *
     generalize l.length=m at *
     generalize rangeE r=re at *
     go_enter Tryz.func147,Tryz.ntmps147
     go_wp2_with fail
     refine (T.out _ (hal.out _)).mono ?_
     rintro e w1 ⟨rfl,hx1⟩
     have hx01:=hid ((hal.out _).tr hx1)
     obtain ⟨_,_,_,_,_⟩:=reqCells hx1
     go_wp2_with fail
     refine (K.out _).mono ?_
     rintro e w2 ⟨rfl,rfl⟩
     go_wp2_with fail
     refine (M.out _ hx01.out).mono ?_
     rintro e w3 ⟨rfl,hx3⟩
     have hx03:=hid (hx01.out.tr hx3)
     obtain ⟨_,_,_,_,_⟩:=reqCells (hx1.tr hx3)
     go_wp2_with fail
     refine (W1.out _).mono ?_
     rintro e w4 ⟨rfl,rfl⟩
     go_wp2_with fail
     refine (G.out _ hx03.out).mono ?_
     rintro e w5 ⟨rfl,hx5⟩
     go_wp2_with fail
     go_ret
     exact ⟨ret_int Hr.out.symm,hx03.out.tr hx5⟩
    ·have W1:=hid (fun (W:World)=>within_no r.Queue 0 ((l.length:Int) - 1) W (fun h=>h3 ⟨h.1,by omega⟩))
     have Hr:=hid (show reqE l r=6 from by rw [Hf.out,if_neg (fun h'=>h' h1),if_neg (fun h'=>h' h2),if_pos h3])
     clear h1 h2 h3 Hf
     generalize r.Pieces.length=n at *
     generalize l.length=m at *
     go_enter Tryz.func147,Tryz.ntmps147
     go_wp2_with fail
     refine (T.out _ (hal.out _)).mono ?_
     rintro e w1 ⟨rfl,hx1⟩
     have hx01:=hid ((hal.out _).tr hx1)
     obtain ⟨_,_,_,_,_⟩:=reqCells hx1
     go_wp2_with fail
     refine (K.out _).mono ?_
     rintro e w2 ⟨rfl,rfl⟩
     go_wp2_with fail
     refine (M.out _ hx01.out).mono ?_
     rintro e w3 ⟨rfl,hx3⟩
     have hx03:=hid (hx01.out.tr hx3)
     obtain ⟨_,_,_,_,_⟩:=reqCells (hx1.tr hx3)
     go_wp2_with fail
     refine (W1.out _).mono ?_
     rintro e w4 ⟨rfl,rfl⟩
     go_wp2_with fail
     go_ret
     exact ⟨ret_int Hr.out.symm,hx03.out⟩
   ·rw [manyE_no h2] at M
    have Hr:=hid (show reqE l r=2 from by rw [Hf.out,if_neg (fun h'=>h' h1),if_pos h2])
    clear h1 h2 Hf
    generalize r.Pieces.length=n at *
    generalize l.length=m at *
    go_enter Tryz.func147,Tryz.ntmps147
    go_wp2_with fail
    refine (T.out _ (hal.out _)).mono ?_
    rintro e w1 ⟨rfl,hx1⟩
    have hx01:=hid ((hal.out _).tr hx1)
    obtain ⟨_,_,_,_,_⟩:=reqCells hx1
    go_wp2_with fail
    refine (K.out _).mono ?_
    rintro e w2 ⟨rfl,rfl⟩
    go_wp2_with fail
    refine (M.out _ hx01.out).mono ?_
    rintro e w3 ⟨rfl,hx3⟩
    go_wp2_with fail
    go_ret
    exact ⟨ret_int Hr.out.symm,hx01.out.tr hx3⟩
  ·rw [deF h1] at K
   have Hr:=hid (show reqE l r=7 from by rw [Hf.out,if_pos h1])
   clear h1 Hf
   generalize r.Pieces.length=n at *
   generalize l.length=m at *
   go_enter Tryz.func147,Tryz.ntmps147
   go_wp2_with fail
   refine (T.out _ (hal.out _)).mono ?_
   rintro e w1 ⟨rfl,hx1⟩
   have hx01:=hid ((hal.out _).tr hx1)
   obtain ⟨_,_,_,_,_⟩:=reqCells hx1
   go_wp2_with fail
   refine (K.out _).mono ?_
   rintro e w2 ⟨rfl,rfl⟩
   go_wp2_with fail
   go_ret
   exact ⟨ret_int Hr.out.symm,hx01.out⟩
 ·have Hr:=hid (reqE_tree (r:=r) h0)
  have hne:=neT h0
  clear h0
  generalize r.Pieces.length=n at *
  generalize l.length=m at *
  go_enter Tryz.func147,Tryz.ntmps147
  go_wp2_with fail
  refine (T.out _ (hal.out _)).mono ?_
  rintro e w1 ⟨rfl,hx1⟩
  go_wp2_with fail
  go_ret
  exact ⟨ret_int Hr.out.symm,(hal.out _).tr hx1⟩
theorem pairs_lit {α:Type} {f g:α→Int} {w:World} {cs:Array Value} {b n:Nat} {t:TypeId} (l:List α) (hb:b=w.heap.size) (hcs:cs=(cells2 f g l).toArray) (hn:n=l.length) (hl:l.length≤48) (hi:∀ r∈l,I64 (f r)∧I64 (g r)) :
  SV 2 (E2 f g) (w.alloc (.cells cs t)) (.slice (some ⟨b,0,none⟩) n n) l:=by
 subst hb hcs hn
 refine .inr ⟨w.heap.size,0,l.length,rfl,Nat.le_refl _,by omega,by omega,by simp,fun k x hk=>?_⟩
 obtain ⟨h1,h2⟩:=cells2_get f g l k x hk
 have h3:=hi x (List.mem_of_getElem? hk)
 have hc:∀ j v,(cells2 f g l)[j]?=some v→(w.alloc (.cells (cells2 f g l).toArray t)).cell? ⟨w.heap.size,0+j,none⟩=some v:=fun j v hv=>by
  rw [cell_of_row _ _ _ _ _ _ (heap_alloc_new w _),Nat.zero_add];simpa using hv
 exact ⟨hc _ _ h1,by rw [Nat.add_assoc];exact hc _ _ h2,h3.1,h3.2⟩
theorem lit_bites {l:List Bite} (h:(l.all fun r=>decide (-9000000≤r.Piece∧r.Piece≤9000000∧-9000000≤r.At∧r.At≤9000000))=true):∀ r∈l,I64 r.Piece∧I64 r.At:=fun r hr=>by
 have:=of_decide_eq_true (List.all_eq_true.1 h r hr)
 exact ⟨I64.of (by omega) (by omega),I64.of (by omega) (by omega)⟩
theorem bites_lit {w:World} {cs:Array Value} {b n:Nat} {t:TypeId} (l:List Bite) (hb:b=w.heap.size) (hcs:cs=(cells2 Bite.Piece Bite.At l).toArray) (hn:n=l.length) (hl:l.length≤48) (h:(l.all fun r=>decide (-9000000≤r.Piece∧r.Piece≤9000000∧-9000000≤r.At∧r.At≤9000000))=true) :
  BitesV (w.alloc (.cells cs t)) (.slice (some ⟨b,0,none⟩) n n) l:=pairs_lit l hb hcs hn hl (lit_bites h)
section
variable {P:Program} {ops:Array Oper} {Q:Exit→Act→World→Prop} {md:Region.Mode} {S:World→Prop}
theorem wpAnyH_pair {i j:Nat} {oi oj:Oper} (Ri Rj:Value→World→Prop) {fuel:Nat} {listed:Array Bool} {a:Act} {w:World}
  (hi:ops[i]?=some oi) (hj:ops[j]?=some oj)
  (hr:Region.ready md ops listed=[i,j]) (hri:Region.ready md ops (listed.setIfInBounds i true)=[j]) (hrj:Region.ready md ops (listed.setIfInBounds j true)=[i]) (hij:(i == j)=false)
  (hd:∀ v u,(a.put oj.dst u).put oi.dst v=(a.put oi.dst v).put oj.dst u)
  (wi:Region.wanted oi (yielded ops a.tmps)=true) (wj:Region.wanted oj (yielded ops a.tmps)=true)
  (wi':∀ u,Region.wanted oi (yielded ops (a.put oj.dst u).tmps)=true) (wj':∀ v,Region.wanted oj (yielded ops (a.put oi.dst v).tmps)=true)
  (h1:∀ K:Act→World→Prop,Shut (∀ v w',Ri v w'→S w'→K (a.put oi.dst v) w')→Oper.wp P oi a w K Q)
  (h2:∀ K:Act→World→Prop,Shut (∀ u w',Rj u w'→S w'→K (a.put oj.dst u) w')→Oper.wp P oj a w K Q)
  (h12:∀ v w1,Ri v w1→S w1→∀ K:Act→World→Prop,Shut (∀ u w',Rj u w'→Ri v w'→S w'→K ((a.put oi.dst v).put oj.dst u) w')→Oper.wp P oj (a.put oi.dst v) w1 K Q)
  (h21:∀ u w1,Rj u w1→S w1→∀ K:Act→World→Prop,Shut (∀ v w',Ri v w'→Rj u w'→S w'→K ((a.put oj.dst u).put oi.dst v) w')→Oper.wp P oi (a.put oj.dst u) w1 K Q)
  (K:∀ v u w',Ri v w'→Rj u w'→S w'→wpAnyH P md ops Q S fuel ((listed.setIfInBounds i true).setIfInBounds j true) ((a.put oi.dst v).put oj.dst u) w') :
  wpAnyH P md ops Q S (fuel+2) listed a w:=by
 have hij':i≠j:=by simpa using hij
 refine wpAnyH_all (fuel:=fuel+1) hr (by simp) (fun x hx=>?_)
 simp only [List.mem_cons,List.not_mem_nil,or_false] at hx
 rcases hx with rfl | rfl
 ·refine wpOp_step hi (fun K' hK=>?_)
  rw [if_pos wi]
  refine h1 K' (fun v w' hv hS=>hK _ _ ⟨hS,?_⟩)
  refine wpAnyH_ready hri (by simp) (AllReadyH.cons hj (fun K2 hK2=>?_) AllReadyH.nil)
  rw [if_pos (wj' v)]
  exact h12 v w' hv hS K2 (fun u w2 hu hv2 hS2=>hK2.out _ _ hS2 (fun _=>K v u w2 hv2 hu hS2))
 ·refine wpOp_step hj (fun K' hK=>?_)
  rw [if_pos wj]
  refine h2 K' (fun u w' hu hS=>hK _ _ ⟨hS,?_⟩)
  refine wpAnyH_ready hrj (by simp) (AllReadyH.cons hi (fun K2 hK2=>?_) AllReadyH.nil)
  rw [if_pos (wi' u)]
  refine h21 u w' hu hS K2 (fun v w2 hv hu2 hS2=>hK2.out _ _ hS2 (fun _=>?_))
  rw [hd,Array.setIfInBounds_comm _ _ (Ne.symm hij')]
  exact K v u w2 hv hu2 hS2
end
end Go.Proofs.YtncaoclhlfkdoaaGreat
