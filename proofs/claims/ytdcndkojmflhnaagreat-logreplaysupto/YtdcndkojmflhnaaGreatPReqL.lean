/- requests; literals; each theorem names its own conditions. -/
import Derived.Test.YtdcndkojmflhnaaGreatPSeekS
import Derived.Test.YtdcndkojmflhnaaGreatPUp
import Derived.Test.YtdcndkojmflhnaaGreatPCore
import Derived.Deep.RegionHeld3
/- Walks of requests: rangeError, shaped; req.Check, CheckReq. -/
set_option linter.unusedVariables false
set_option maxRecDepth 100000
set_option maxHeartbeats 8000000
set_option linter.unusedSimpArgs false
set_option linter.unusedVariables false
namespace Go.Proofs.YtdcndkojmflhnaaGreat
open Go.RowKit
open List renaming getElem_toArray→zA,getElem_cons_zero→zB,getElem_cons_succ→zC,setIfInBounds_toArray→zD,set_cons_zero→zE,set_cons_succ→zF
theorem pieces_at {w:World} {v:Value} {l:List Piece} (hv:PiecesV w v l) (h1:1≤l.length):∃ b off cap,v=.slice (some ⟨b,off,none⟩) l.length cap∧l.length≤cap∧cap≤9223372036854775807∧b < w.heap.size∧∀ k x,l[k]?=some x→EPiece w b (off+k*2) x:=by
 rcases hv with ⟨rfl,_⟩ | ⟨b,off,cap,rfl,h2,h3,h4,h5,h6⟩
 ·simp at h1
 ·exact ⟨b,off,cap,rfl,h2,h3,h5,h6⟩
@[irreducible] def reqE (l:List Queue) (r:Request):Int :=
 if checkT l≠0 then checkT l else if ¬ KindOk r.Kind then 7 else if ¬ ManyOk r then 2 else if ¬ (0≤r.Queue∧r.Queue < l.length) then 6 else if ¬ RangeOk r then 3 else 0
theorem reqE_zero {l:List Queue} {r:Request} (h:reqE l r=0):checkT l=0∧ReqOk r∧0≤r.Queue∧r.Queue < l.length:=by
 unfold reqE at h
 by_cases h0:checkT l=0
 ·rw [if_neg (fun h'=>h' h0)] at h
  by_cases h1:KindOk r.Kind
  ·rw [if_neg (fun h'=>h' h1)] at h
   by_cases h2:ManyOk r
   ·rw [if_neg (fun h'=>h' h2)] at h
    by_cases h3:0≤r.Queue∧r.Queue < l.length
    ·rw [if_neg (fun h'=>h' h3)] at h
     by_cases h4:RangeOk r
     ·exact ⟨h0,⟨h1,h2,h4⟩,h3.1,h3.2⟩
     ·rw [if_pos h4] at h;omega
    ·rw [if_pos h3] at h;omega
   ·rw [if_pos h2] at h;omega
  ·rw [if_pos h1] at h;omega
 ·rw [if_pos h0] at h;exact absurd h h0
theorem reqE_ok {l:List Queue} {r:Request} (h0:checkT l=0) (h:ReqOk r) (h3:0≤r.Queue∧r.Queue < l.length):reqE l r=0:=by
 unfold reqE
 rw [if_neg (fun h'=>h' h0),if_neg (fun h'=>h' h.kind),if_neg (fun h'=>h' h.many),if_neg (fun h'=>h' h3),if_neg (fun h'=>h' h.range)]
theorem reqE_tree {l:List Queue} {r:Request} (h0:checkT l≠0):reqE l r=checkT l:=by unfold reqE;rw [if_pos h0]
theorem reqE_form {l:List Queue} {r:Request} (h0:checkT l=0):reqE l r=if (formR r).2=false∧¬ (0≤r.Queue∧r.Queue < l.length) then 6 else (formR r).1:=by
 unfold reqE
 rw [if_neg (fun h'=>h' h0)]
 rcases formR_cases r with ⟨h1,hr⟩ | ⟨h1,h2,hr⟩ | ⟨h1,h2,h3,hr⟩ | ⟨h1,hr⟩
 ·rw [hr,if_pos h1,if_neg (fun h=>by cases h.1)]
 ·rw [hr,if_neg (fun h'=>h' h1),if_pos h2,if_neg (fun h=>by cases h.1)]
 ·rw [hr,if_neg (fun h'=>h' h1),if_neg (fun h'=>h' h2)]
  by_cases h4:0≤r.Queue∧r.Queue < l.length
  ·rw [if_neg (fun h'=>h' h4),if_pos h3,if_neg (fun h=>h.2 h4)]
  ·rw [if_pos h4,if_pos ⟨rfl,h4⟩]
 ·rw [hr,if_neg (fun h'=>h' h1.kind),if_neg (fun h'=>h' h1.many)]
  by_cases h4:0≤r.Queue∧r.Queue < l.length
  ·rw [if_neg (fun h'=>h' h4),if_neg (fun h'=>h' h1.range),if_neg (fun h=>h.2 h4)]
  ·rw [if_pos h4,if_pos ⟨rfl,h4⟩]
theorem reqCheck_any (w:World) (v pv:Value) (l:List Queue) (r:Request) (hl:QueuesV w v l) (hv:PiecesV w pv r.Pieces) :
  Calls Tryz.prog 128 #[v,.agg #[.int .i64 r.Queue,.int .i64 r.From,.int .i64 r.Until,.int .i64 r.Kind,pv]] w fun e w'=>e=.returned (.int .i64 (reqE l r))∧Ext w w':=by
 have hal:=hid (fun (o:Obj)=>(Ext.rf w).al o)
 have T:=hid (fun (W:World) (h:Ext w W)=>treeCheck_any W v l (hl.mono h))
 have F:=hid (fun (W:World) (h:Ext w W)=>Form_any W pv r (hv.mono h))
 obtain ⟨pa,pc,rfl,hpc,_,hpl⟩:=hv.form
 obtain ⟨qa,qc,rfl,hqc,_,hql⟩:=hl.form
 clear hv hl
 by_cases h0:checkT l=0
 ·have Hf:=hid (reqE_form (r:=r) h0)
  rw [h0] at T
  obtain ⟨fe,fb,hf⟩:∃ fe fb,formR r=(fe,fb):=⟨_,_,rfl⟩
  rw [hf] at F Hf
  clear h0 hf
  cases fb with
  | true =>
   have Hr:=hid (show reqE l r=fe from by rw [Hf.out,if_neg (fun h=>by cases h.1)])
   generalize r.Pieces.length=n at *
   generalize l.length=m at *
   go_enter Tryz.func128,Tryz.ntmps128
   go_wp2_with fail
   refine (T.out _ (hal.out _)).mono ?_
   rintro e w1 ⟨rfl,hx1⟩
   have hx01:=hid ((hal.out _).tr hx1)
   obtain ⟨_,_,_,_,_⟩:=reqCells hx1
   go_wp2_with fail
   refine (F.out _ hx01.out).mono ?_
   rintro e w2 ⟨rfl,hx2⟩
   obtain ⟨_,_,_,_,_⟩:=reqCells (hx1.tr hx2)
   go_wp2_with fail
   go_ret
   exact ⟨ret_int Hr.out.symm,hx01.out.tr hx2⟩
  | false =>
   by_cases h1:r.Queue < 0
   ·have Hr:=hid (show reqE l r=6 from by rw [Hf.out,if_pos ⟨rfl,fun h=>by omega⟩])
    generalize r.Pieces.length=n at *
    generalize l.length=m at *
    go_enter Tryz.func128,Tryz.ntmps128
    go_wp2_with fail
    refine (T.out _ (hal.out _)).mono ?_
    rintro e w1 ⟨rfl,hx1⟩
    have hx01:=hid ((hal.out _).tr hx1)
    obtain ⟨_,_,_,_,_⟩:=reqCells hx1
    go_wp2_with fail
    refine (F.out _ hx01.out).mono ?_
    rintro e w2 ⟨rfl,hx2⟩
    obtain ⟨_,_,_,_,_⟩:=reqCells (hx1.tr hx2)
    go_wp2_with fail
    go_ret
    exact ⟨ret_int Hr.out.symm,hx01.out.tr hx2⟩
   ·by_cases h2:(l.length:Int)≤r.Queue
    ·have Hr:=hid (show reqE l r=6 from by rw [Hf.out,if_pos ⟨rfl,fun h=>by omega⟩])
     generalize r.Pieces.length=n at *
     generalize l.length=m at *
     go_enter Tryz.func128,Tryz.ntmps128
     go_wp2_with fail
     refine (T.out _ (hal.out _)).mono ?_
     rintro e w1 ⟨rfl,hx1⟩
     have hx01:=hid ((hal.out _).tr hx1)
     obtain ⟨_,_,_,_,_⟩:=reqCells hx1
     go_wp2_with fail
     refine (F.out _ hx01.out).mono ?_
     rintro e w2 ⟨rfl,hx2⟩
     obtain ⟨_,_,_,_,_⟩:=reqCells (hx1.tr hx2)
     go_wp2_with fail
     go_ret
     exact ⟨ret_int Hr.out.symm,hx01.out.tr hx2⟩
    ·have Hr:=hid (show reqE l r=fe from by rw [Hf.out,if_neg (fun h=>h.2 ⟨by omega,by omega⟩)])
     generalize r.Pieces.length=n at *
     generalize l.length=m at *
     go_enter Tryz.func128,Tryz.ntmps128
     go_wp2_with fail
     refine (T.out _ (hal.out _)).mono ?_
     rintro e w1 ⟨rfl,hx1⟩
     have hx01:=hid ((hal.out _).tr hx1)
     obtain ⟨_,_,_,_,_⟩:=reqCells hx1
     go_wp2_with fail
     refine (F.out _ hx01.out).mono ?_
     rintro e w2 ⟨rfl,hx2⟩
     obtain ⟨_,_,_,_,_⟩:=reqCells (hx1.tr hx2)
     go_wp2_with fail
     go_ret
     exact ⟨ret_int Hr.out.symm,hx01.out.tr hx2⟩
 ·have Hr:=hid (reqE_tree (r:=r) h0)
  have hne:=neT h0
  clear h0
  generalize r.Pieces.length=n at *
  generalize l.length=m at *
  go_enter Tryz.func128,Tryz.ntmps128
  go_wp2_with fail
  refine (T.out _ (hal.out _)).mono ?_
  rintro e w1 ⟨rfl,hx1⟩
  go_wp2_with fail
  go_ret
  exact ⟨ret_int Hr.out.symm,(hal.out _).tr hx1⟩
theorem pairs_lit {α:Type} {f g:α→Int} {w:World} {cs:Array Value} {b n:Nat} {t:TypeId} (l:List α) (hb:b=w.heap.size) (hcs:cs=(cells2 f g l).toArray) (hn:n=l.length) (hl:l.length≤48) (hi:∀ r∈l,I64 (f r)∧I64 (g r)) :
  SV 2 (E2 f g) (w.alloc (.cells cs t)) (.slice (some ⟨b,0,none⟩) n n) l:=by
 subst hb hcs hn
 refine .inr ⟨w.heap.size,0,l.length,rfl,Nat.le_refl _,by omega,by omega,by simp,fun k x hk=>?_⟩
 obtain ⟨h1,h2⟩:=cells2_get f g l k x hk
 have h3:=hi x (List.mem_of_getElem? hk)
 have hc:∀ j v,(cells2 f g l)[j]?=some v→(w.alloc (.cells (cells2 f g l).toArray t)).cell? ⟨w.heap.size,0+j,none⟩=some v:=fun j v hv=>by
  rw [cell_of_row _ _ _ _ _ _ (heap_alloc_new w _),Nat.zero_add];simpa using hv
 exact ⟨hc _ _ h1,by rw [Nat.add_assoc];exact hc _ _ h2,h3.1,h3.2⟩
theorem lit_bites {l:List Bite} (h:(l.all fun r=>decide (-9000000≤r.Piece∧r.Piece≤9000000∧-9000000≤r.At∧r.At≤9000000))=true):∀ r∈l,I64 r.Piece∧I64 r.At:=fun r hr=>by
 have:=of_decide_eq_true (List.all_eq_true.1 h r hr)
 exact ⟨I64.of (by omega) (by omega),I64.of (by omega) (by omega)⟩
theorem bites_lit {w:World} {cs:Array Value} {b n:Nat} {t:TypeId} (l:List Bite) (hb:b=w.heap.size) (hcs:cs=(cells2 Bite.Piece Bite.At l).toArray) (hn:n=l.length) (hl:l.length≤48) (h:(l.all fun r=>decide (-9000000≤r.Piece∧r.Piece≤9000000∧-9000000≤r.At∧r.At≤9000000))=true) :
  BitesV (w.alloc (.cells cs t)) (.slice (some ⟨b,0,none⟩) n n) l:=pairs_lit l hb hcs hn hl (lit_bites h)
section
variable {P:Program} {ops:Array Oper} {Q:Exit→Act→World→Prop} {md:Region.Mode} {S:World→Prop}
theorem wpAnyH_pair {i j:Nat} {oi oj:Oper} (Ri Rj:Value→World→Prop) {fuel:Nat} {listed:Array Bool} {a:Act} {w:World}
  (hi:ops[i]?=some oi) (hj:ops[j]?=some oj)
  (hr:Region.ready md ops listed=[i,j]) (hri:Region.ready md ops (listed.setIfInBounds i true)=[j]) (hrj:Region.ready md ops (listed.setIfInBounds j true)=[i]) (hij:(i == j)=false)
  (hd:∀ v u,(a.put oj.dst u).put oi.dst v=(a.put oi.dst v).put oj.dst u)
  (wi:Region.wanted oi (yielded ops a.tmps)=true) (wj:Region.wanted oj (yielded ops a.tmps)=true)
  (wi':∀ u,Region.wanted oi (yielded ops (a.put oj.dst u).tmps)=true) (wj':∀ v,Region.wanted oj (yielded ops (a.put oi.dst v).tmps)=true)
  (h1:∀ K:Act→World→Prop,Shut (∀ v w',Ri v w'→S w'→K (a.put oi.dst v) w')→Oper.wp P oi a w K Q)
  (h2:∀ K:Act→World→Prop,Shut (∀ u w',Rj u w'→S w'→K (a.put oj.dst u) w')→Oper.wp P oj a w K Q)
  (h12:∀ v w1,Ri v w1→S w1→∀ K:Act→World→Prop,Shut (∀ u w',Rj u w'→Ri v w'→S w'→K ((a.put oi.dst v).put oj.dst u) w')→Oper.wp P oj (a.put oi.dst v) w1 K Q)
  (h21:∀ u w1,Rj u w1→S w1→∀ K:Act→World→Prop,Shut (∀ v w',Ri v w'→Rj u w'→S w'→K ((a.put oj.dst u).put oi.dst v) w')→Oper.wp P oi (a.put oj.dst u) w1 K Q)
  (K:∀ v u w',Ri v w'→Rj u w'→S w'→wpAnyH P md ops Q S fuel ((listed.setIfInBounds i true).setIfInBounds j true) ((a.put oi.dst v).put oj.dst u) w') :
  wpAnyH P md ops Q S (fuel+2) listed a w:=by
 have hij':i≠j:=by simpa using hij
 refine wpAnyH_all (fuel:=fuel+1) hr (by simp) (fun x hx=>?_)
 simp only [List.mem_cons,List.not_mem_nil,or_false] at hx
 rcases hx with rfl | rfl
 ·refine wpOp_step hi (fun K' hK=>?_)
  rw [if_pos wi]
  refine h1 K' (fun v w' hv hS=>hK _ _ ⟨hS,?_⟩)
  refine wpAnyH_ready hri (by simp) (AllReadyH.cons hj (fun K2 hK2=>?_) AllReadyH.nil)
  rw [if_pos (wj' v)]
  exact h12 v w' hv hS K2 (fun u w2 hu hv2 hS2=>hK2.out _ _ hS2 (fun _=>K v u w2 hv2 hu hS2))
 ·refine wpOp_step hj (fun K' hK=>?_)
  rw [if_pos wj]
  refine h2 K' (fun u w' hu hS=>hK _ _ ⟨hS,?_⟩)
  refine wpAnyH_ready hrj (by simp) (AllReadyH.cons hi (fun K2 hK2=>?_) AllReadyH.nil)
  rw [if_pos (wi' u)]
  refine h21 u w' hu hS K2 (fun v w2 hv hu2 hS2=>hK2.out _ _ hS2 (fun _=>?_))
  rw [hd,Array.setIfInBounds_comm _ _ (Ne.symm hij')]
  exact K v u w2 hv hu2 hS2
end
end Go.Proofs.YtdcndkojmflhnaaGreat
