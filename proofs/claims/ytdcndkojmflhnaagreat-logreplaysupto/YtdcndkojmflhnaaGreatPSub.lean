/- Walk of book.Submit; each theorem names its own conditions. -/
import Derived.Test.YtdcndkojmflhnaaGreatPAsk
import Derived.Test.YtdcndkojmflhnaaGreatPOwnS
set_option linter.unusedVariables false
set_option maxRecDepth 100000
set_option maxHeartbeats 8000000
set_option linter.unusedSimpArgs false
set_option linter.unusedVariables false
namespace Go.Proofs.YtdcndkojmflhnaaGreat
open Go.RowKit
open List renaming getElem_toArray→zA,getElem_cons_zero→zB,getElem_cons_succ→zC,setIfInBounds_toArray→zD,set_cons_zero→zE,set_cons_succ→zF
def noneS:State:=⟨0,0,[],[]⟩
def moreS (s:State) (r:Request) (b:List Bite):State:=⟨s.Clock,s.Next+1,s.Tree,s.Books++[⟨s.Next,r,b⟩]⟩
@[irreducible] noncomputable def submitR (s:State) (r:Request):State × Int × Int :=
 if mayE s r≠0 then (noneS,0,mayE s r) else if s.Books.length=12∨s.Next=1048576 then (noneS,0,2) else if placeL (plotT s r) r=[] then (noneS,0,8) else (moreS s r (placeL (plotT s r) r),s.Next,0)
theorem submitR_bad {s:State} {r:Request} (h:mayE s r≠0):submitR s r=(noneS,0,mayE s r):=by unfold submitR;rw [if_pos h]
theorem submitR_many {s:State} {r:Request} (h:mayE s r=0) (h2:s.Books.length=12∨s.Next=1048576):submitR s r=(noneS,0,2):=by unfold submitR;rw [if_neg (by simp [h]),if_pos h2]
theorem submitR_full {s:State} {r:Request} (h:mayE s r=0) (h2:¬ (s.Books.length=12∨s.Next=1048576)) (h3:placeL (plotT s r) r=[]):submitR s r=(noneS,0,8):=by unfold submitR;rw [if_neg (by simp [h]),if_neg h2,if_pos h3]
theorem submitR_ok {s:State} {r:Request} (h:mayE s r=0) (h2:¬ (s.Books.length=12∨s.Next=1048576)) (h3:placeL (plotT s r) r≠[]):submitR s r=(moreS s r (placeL (plotT s r) r),s.Next,0):=by unfold submitR;rw [if_neg (by simp [h]),if_neg h2,if_neg h3]
def RetState3 (w:World) (x:State × Int × Int) (e:Ending) (w':World):Prop :=
 ∃ u v,e=.returned (.tuple #[.agg #[.int .i64 x.1.Clock,.int .i64 x.1.Next,u,v],.int .i64 x.2.1,.int .i64 x.2.2])∧StS w.heap.size w' u v x.1∧Ext w w'
theorem retState3_of {w w':World} {x:State × Int × Int} {s:State} {n m:Int} {u v:Value} (h:x=(s,n,m)) (h1:StS w.heap.size w' u v s) (hx:Ext w w'):RetState3 w x (.returned (.tuple #[.agg #[.int .i64 s.Clock,.int .i64 s.Next,u,v],.int .i64 n,.int .i64 m])) w':=by
 subst h;exact ⟨u,v,rfl,h1,hx⟩
theorem retState3_none {w w':World} {x:State × Int × Int} {n m:Int} (h:x=(noneS,n,m)) (hx:Ext w w'):RetState3 w x (.returned (.tuple #[.agg #[.int .i64 0,.int .i64 0,.slice none 0 0,.slice none 0 0],.int .i64 n,.int .i64 m])) w' :=
 retState3_of (s:=noneS) h (.inr ⟨rfl,rfl,rfl,rfl⟩) hx
theorem results_row_two {P:Program} {fn:Func} {p u1 u2:Tmp} {ty:TypeId} (h:fn.results=#[.cell p ty,.tmp u1,.tmp u2]) (tmps:Array Value) (w:World) (g:Nat) (t:TypeId) (cs:Array Value) (fr:Nat × Nat) (d:TypeDesc)
  (hp:tmps.getD p undef=.pointer (some ⟨g,0,none⟩)) (hg:w.heap[g]?=some (.cells cs t fr))
  (hu:P.underlying ty=some d) (hd:(match d with | .struct _ | .array _ _=>true | _=>false)=true) (hi:(P.info? ty).map (·.size)=some cs.size) :
  (results fn tmps).run P w=.ok (.tuple #[.agg cs,tmps.getD u1 undef,tmps.getD u2 undef]) w:=by
 have hp':tmps[p]?.getD undef=.pointer (some ⟨g,0,none⟩):=by simpa using hp
 simp [results,h,hp',asAddr,run_loadVar_row w g t ty cs fr d hg hu hd hi]
theorem three_boxes (w:World) (s:State) (r:Request) (tv bv pv:Value):∃ w1:World,((w.alloc (.cells #[.int .i64 s.Clock,.int .i64 s.Next,tv,bv] 25)).alloc (.cells #[.int .i64 r.Queue,.int .i64 r.From,.int .i64 r.Until,.int .i64 r.Kind,pv] 28)).alloc (.cells #[.int .i64 0,.int .i64 0,.slice none 0 0,.slice none 0 0] 25)=w1∧Ext w w1∧(∀ W,Ext w1 W→(W.cell? ⟨w.heap.size,0,none⟩=some (.int .i64 s.Clock)∧W.cell? ⟨w.heap.size,1,none⟩=some (.int .i64 s.Next)∧W.cell? ⟨w.heap.size,2,none⟩=some tv∧W.cell? ⟨w.heap.size,3,none⟩=some bv)) ∧
  (∀ W,Ext w1 W→(W.cell? ⟨w.heap.size+1,0,none⟩=some (.int .i64 r.Queue)∧W.cell? ⟨w.heap.size+1,1,none⟩=some (.int .i64 r.From)∧W.cell? ⟨w.heap.size+1,2,none⟩=some (.int .i64 r.Until)∧W.cell? ⟨w.heap.size+1,3,none⟩=some (.int .i64 r.Kind)∧W.cell? ⟨w.heap.size+1,4,none⟩=some pv)) ∧
  (∀ W,Ext w1 W→W.heap[w.heap.size+1+1]?=some (.cells #[.int .i64 0,.int .i64 0,.slice none 0 0,.slice none 0 0] 25 (0,0)))∧w1.heap.size=w.heap.size+3:=by
 refine ⟨_,rfl,(((Ext.rf w).al _).al _).al _,fun W h=>stateCells ((((Ext.rf _).al _).al _).tr h),fun W h=>?_,fun W h=>?_,by simp⟩
 ·have:=reqCells (((Ext.rf _).al _).tr h)
  rwa [World.size_alloc] at this
 ·have e:=heap_alloc_new ((w.alloc (.cells #[.int .i64 s.Clock,.int .i64 s.Next,tv,bv] 25)).alloc (.cells #[.int .i64 r.Queue,.int .i64 r.From,.int .i64 r.Until,.int .i64 r.Kind,pv] 28)) (.cells #[.int .i64 0,.int .i64 0,.slice none 0 0,.slice none 0 0] 25)
  simp only [World.size_alloc] at e
  exact (h.block _ (by simp)).trans e
theorem Submit_bad (w:World) (tv bv pv:Value) (s:State) (r:Request) (hl:QueuesV w tv s.Tree) (hb:BooksV w bv s.Books) (hp:PiecesV w pv r.Pieces) (h0:mayE s r≠0) :
  Calls Tryz.prog 38 #[.agg #[.int .i64 s.Clock,.int .i64 s.Next,tv,bv],.agg #[.int .i64 r.Queue,.int .i64 r.From,.int .i64 r.Until,.int .i64 r.Kind,pv]] w (RetState3 w (submitR s r)):=by
 have F:=hid (fun (W:World) (h:Ext w W)=>bookAsked_any W tv bv pv s r (hl.mono h) (hb.mono h) (hp.mono h))
 obtain ⟨wb,hwb,HX,HSS,HRR,HZZ,hszb⟩:=three_boxes w s r tv bv pv
 have HX0:=hid HX
 have HS0:=hid HSS
 have HR0:=hid HRR
 have HZ0:=hid HZZ
 have HWB:=hid hwb
 clear HX HSS HRR hwb HZZ
 have HR:=hid (submitR_bad h0)
 have hne:=neT h0
 obtain ⟨qa,qc,rfl,_,_,_⟩:=hl.form
 obtain ⟨ba,bc,rfl,_,_,_⟩:=hb.form
 obtain ⟨pa,pc,rfl,_,_,_⟩:=hp.form
 clear hl hb hp h0
 generalize mayE s r=ae at *
 generalize s.Tree.length=n at *
 generalize s.Books.length=z at *
 generalize r.Pieces.length=pn at *
 go_enter Tryz.func38,Tryz.ntmps38
 go_wp2_with fail
 rw [HWB.out]
 refine (F.out _ HX0.out).mono ?_
 rintro e w2 ⟨rfl,hx2⟩
 have HB:=hid (HZ0.out w2 hx2)
 have HX2:=hid ((HX0.out.tr hx2).sr (b:=w.heap.size+1+1) (by omega) #[.int .i64 0,.int .i64 0,.slice none 0 0,.slice none 0 0])
 have HB2:=hid (setRow_heap w2 (w.heap.size+1+1) _ #[.int .i64 0,.int .i64 0,.slice none 0 0,.slice none 0 0] _ _ HB.out)
 go_wp2_with (refine wpList_store_row rfl 25 _ _ rfl (w.heap.size+1+1) #[.int .i64 0,.int .i64 0,.slice none 0 0,.slice none 0 0] rfl rfl 25 _ HB.out Tryz.size25 rfl (by simp [Value.oneCell']) ?_)
 exact bodyPost_ret (results_row_two (u1:=5) (u2:=6) rfl _ _ (w.heap.size+1+1) 25 #[.int .i64 0,.int .i64 0,.slice none 0 0,.slice none 0 0] (0,0) _ rfl HB2.out Tryz.underlying25 rfl Tryz.size25) rfl (retState3_none HR.out HX2.out)
theorem Submit_many (w:World) (tv bv pv:Value) (s:State) (r:Request) (hl:QueuesV w tv s.Tree) (hb:BooksV w bv s.Books) (hp:PiecesV w pv r.Pieces) (h0:mayE s r=0) (h1:s.Books.length=12∨s.Next=1048576) :
  Calls Tryz.prog 38 #[.agg #[.int .i64 s.Clock,.int .i64 s.Next,tv,bv],.agg #[.int .i64 r.Queue,.int .i64 r.From,.int .i64 r.Until,.int .i64 r.Kind,pv]] w (RetState3 w (submitR s r)):=by
 have F:=hid (fun (W:World) (h:Ext w W)=>bookAsked_any W tv bv pv s r (hl.mono h) (hb.mono h) (hp.mono h))
 obtain ⟨wb,hwb,HX,HSS,HRR,HZZ,hszb⟩:=three_boxes w s r tv bv pv
 have HX0:=hid HX
 have HS0:=hid HSS
 have HR0:=hid HRR
 have HZ0:=hid HZZ
 have HWB:=hid hwb
 clear HX HSS HRR hwb HZZ
 have HR:=hid (submitR_many h0 h1)
 rw [h0] at F
 obtain ⟨qa,qc,rfl,_,_,_⟩:=hl.form
 obtain ⟨ba,bc,rfl,_,_,_⟩:=hb.form
 obtain ⟨pa,pc,rfl,_,_,_⟩:=hp.form
 clear hl hb hp h0
 generalize s.Tree.length=n at *
 generalize s.Books.length=z at *
 generalize r.Pieces.length=pn at *
 go_enter Tryz.func38,Tryz.ntmps38
 go_wp2_with fail
 rw [HWB.out]
 refine (F.out _ HX0.out).mono ?_
 rintro e w2 ⟨rfl,hx2⟩
 obtain ⟨a0,a1,a2,a3⟩:=HS0.out w2 hx2
 have HB:=hid (HZ0.out w2 hx2)
 have HX2:=hid ((HX0.out.tr hx2).sr (b:=w.heap.size+1+1) (by omega) #[.int .i64 0,.int .i64 0,.slice none 0 0,.slice none 0 0])
 have HB2:=hid (setRow_heap w2 (w.heap.size+1+1) _ #[.int .i64 0,.int .i64 0,.slice none 0 0,.slice none 0 0] _ _ HB.out)
 by_cases hz:(z:Int)=12
 ·have t1:=eqT hz
  go_wp2_with (refine wpList_store_row rfl 25 _ _ rfl (w.heap.size+1+1) #[.int .i64 0,.int .i64 0,.slice none 0 0,.slice none 0 0] rfl rfl 25 _ HB.out Tryz.size25 rfl (by simp [Value.oneCell']) ?_)
  exact bodyPost_ret (results_row_two (u1:=5) (u2:=6) rfl _ _ (w.heap.size+1+1) 25 #[.int .i64 0,.int .i64 0,.slice none 0 0,.slice none 0 0] (0,0) _ rfl HB2.out Tryz.underlying25 rfl Tryz.size25) rfl (retState3_none HR.out HX2.out)
 ·have hn:s.Next=1048576:=by omega
  have t1:=eqF hz
  have t2:=eqT hn
  go_wp2_with (refine wpList_store_row rfl 25 _ _ rfl (w.heap.size+1+1) #[.int .i64 0,.int .i64 0,.slice none 0 0,.slice none 0 0] rfl rfl 25 _ HB.out Tryz.size25 rfl (by simp [Value.oneCell']) ?_)
  exact bodyPost_ret (results_row_two (u1:=5) (u2:=6) rfl _ _ (w.heap.size+1+1) 25 #[.int .i64 0,.int .i64 0,.slice none 0 0,.slice none 0 0] (0,0) _ rfl HB2.out Tryz.underlying25 rfl Tryz.size25) rfl (retState3_none HR.out HX2.out)
theorem Submit_rest (w:World) (tv bv pv:Value) (s:State) (r:Request) (hl:QueuesV w tv s.Tree) (hb:BooksV w bv s.Books) (hp:PiecesV w pv r.Pieces) (hI:I64 r.Queue∧I64 r.From∧I64 r.Until∧I64 r.Kind) (h0:mayE s r=0) (h1:¬ (s.Books.length=12∨s.Next=1048576)) :
  Calls Tryz.prog 38 #[.agg #[.int .i64 s.Clock,.int .i64 s.Next,tv,bv],.agg #[.int .i64 r.Queue,.int .i64 r.From,.int .i64 r.Until,.int .i64 r.Kind,pv]] w (RetState3 w (submitR s r)):=by
 have F:=hid (fun (W:World) (h:Ext w W)=>bookAsked_any W tv bv pv s r (hl.mono h) (hb.mono h) (hp.mono h))
 obtain ⟨wb,hwb,HX,HSS,HRR,HZZ,hszb⟩:=three_boxes w s r tv bv pv
 have HX0:=hid HX
 have HS0:=hid HSS
 have HR0:=hid HRR
 have HZ0:=hid HZZ
 have HWB:=hid hwb
 clear HX HSS HRR hwb HZZ
 have HN:=hid (submitR_full h0 h1)
 have HI:=hid (submitR_ok h0 h1)
 rw [h0] at F
 obtain ⟨hs,hrq,g1,g2,hfine,_⟩:=may_of h0
 obtain ⟨ok,h12,hbok⟩:=right_of hs
 obtain ⟨m1,m3⟩:=hrq.many
 obtain ⟨_,hin,_⟩:=formE_zero (stateE_zero hs).1
 have RI:=hid (fun (W:World) (h:Ext w W)=>RoomIn_any W tv bv s.Tree s.Books r.Queue (hl.mono h) (hb.mono h) ok hbok h12 g1 g2)
 have PI:=hid (fun (W:World) (u:Value) (h:Ext w W) (hu:RunsV W u (fold (roomT s.Tree s.Books r.Queue)))=>show Calls Tryz.prog 44 #[u,.agg #[.int .i64 r.Queue,.int .i64 r.From,.int .i64 r.Until,.int .i64 r.Kind,pv]] W (RetPlace W (placeL (plotT s r) r)) from In_any W u pv _ r hu (hp.mono h) hfine hrq)
 have OW:=hid (fun (W:World) (h:Ext w W)=>Own_S W tv bv s (hl.mono h) (hb.mono h) ok h12 hbok)
 have OR:=hid (fun (W:World) (h:Ext w W)=>OwnReq_any W pv r (hp.mono h) m1 m3)
 have HLV:=hid (liveB_of hbok)
 have HCP:=hid (treeOk_caps ok)
 have t1:=eqF (a:=(s.Books.length:Int)) (b:=12) (fun h=>h1 (.inl (by omega)))
 have t2:=eqF (a:=s.Next) (b:=1048576) (fun h=>h1 (.inr h))
 have hnx:0≤s.Next∧s.Next < 1048576:=⟨hin.2.2.1,by have:=hin.2.2.2;have:s.Next≠1048576:=fun h=>h1 (.inr h);omega⟩
 have hz12:s.Books.length < 12:=by have:s.Books.length≠12:=fun h=>h1 (.inl h);omega
 have HPM:=hid (And.intro m1 m3)
 have HPN:=hid (show r.Pieces≠[] from fun h=>by rw [h] at m1;exact absurd m1 (by decide))
 have HII:=hid hI
 have HLL:=hid (fun h:placeL (plotT s r) r≠[]=>(⟨g1,g2,found_meets hrq h⟩:BookOk s.Tree ⟨s.Next,r,placeL (plotT s r) r⟩).many.2)
 obtain ⟨qa,qc,rfl,_,_,_⟩:=hl.form
 obtain ⟨ba,bc,rfl,_,_,_⟩:=hb.form
 obtain ⟨pa,pc,rfl,_,_,_⟩:=hp.form
 clear hl hb hp h0 hs hrq hfine ok h12 hbok h1 g1 g2 hin m1 m3 hI
 generalize placeL (plotT s r) r=L at *
 generalize roomT s.Tree s.Books r.Queue=x at *
 generalize submitR s r=sr at *
 generalize hqn:s.Tree.length=n at *
 generalize hbz:s.Books.length=z at *
 generalize hrp:r.Pieces.length=pn at *
 have HQN:=hid hqn
 have HBZ:=hid hbz
 have HRP:=hid hrp
 clear hqn hbz hrp
 go_enter Tryz.func38,Tryz.ntmps38
 go_wp2_with fail
 rw [HWB.out]
 refine (F.out _ HX0.out).mono ?_
 rintro e w2 ⟨rfl,hx2⟩
 have hx02:=hid (HX0.out.tr hx2)
 have hxb2:=hid hx2
 obtain ⟨a0,a1,a2,a3⟩:=HS0.out w2 hx2
 obtain ⟨c0,c1,c2,c3,c4⟩:=HR0.out w2 hx2
 clear hx2
 go_wp2_with fail
 go_region_held3 (fun w'=>(w'.cell? ⟨w.heap.size,2,none⟩=some (.slice qa n qc)∧w'.cell? ⟨w.heap.size,3,none⟩=some (.slice ba z bc)∧w'.cell? ⟨w.heap.size+1,0,none⟩=some (.int .i64 r.Queue)∧w'.cell? ⟨w.heap.size+1,1,none⟩=some (.int .i64 r.From)∧w'.cell? ⟨w.heap.size+1,2,none⟩=some (.int .i64 r.Until)∧w'.cell? ⟨w.heap.size+1,3,none⟩=some (.int .i64 r.Kind)∧w'.cell? ⟨w.heap.size+1,4,none⟩=some (.slice pa pn pc)))
  (first
   | go_keep
   | (
     go_split_ands
     exact ⟨hxk.ce' (by assumption),hxk.ce' (by assumption),hxk.ce' (by assumption),hxk.ce' (by assumption),hxk.ce' (by assumption),hxk.ce' (by assumption),hxk.ce' (by assumption)⟩))
  (first
   | (go_at_call 74;refine (RI.out _ hx02.out.dr).mono ?_;rintro e W1 ⟨u,rfl,hu,hxk⟩;obtain ⟨ua,uc,rfl,_,_,_⟩:=hu.form;have HU:=hid hu;have HX1:=hid (hx02.out.dr.tr hxk);have HXB1:=hid (hxb2.out.dr.tr hxk);clear hu;generalize (fold x).length=fn at *)
   | (go_at_call 44;refine (PI.out _ _ HX1.out HU.out).mono ?_;rintro e W2 ⟨v,rfl,hv,hnil,hxk⟩;have HV:=hid hv;have HNIL:=hid hnil;have HX2:=hid (HX1.out.tr hxk);have HXB2:=hid (HXB1.out.tr hxk);clear hv hnil))
 clear a0 a1 a2 a3 c0 c1 c2 c3 c4
 by_cases hL:L=[]
 ·obtain rfl:=HNIL.out.1 hL
  have HR:=hid (HN.out hL)
  clear HN HI HV HNIL
  have he:∀ W,Sem.run Tryz.prog (binOp .eql 38 (.slice none 0 0) (.slice none 0 0)) W=.ok (.bool true) W:=fun W=>rfl
  have HB:=hid (HZ0.out W2 HXB2.out)
  have HX3:=hid (HX2.out.sr (b:=w.heap.size+1+1) (by omega) #[.int .i64 0,.int .i64 0,.slice none 0 0,.slice none 0 0])
  have HB2:=hid (setRow_heap W2 (w.heap.size+1+1) _ #[.int .i64 0,.int .i64 0,.slice none 0 0,.slice none 0 0] _ _ HB.out)
  go_wp2_with (refine wpList_store_row rfl 25 _ _ rfl (w.heap.size+1+1) #[.int .i64 0,.int .i64 0,.slice none 0 0,.slice none 0 0] rfl rfl 25 _ HB.out Tryz.size25 rfl (by simp [Value.oneCell']) ?_)
  exact bodyPost_ret (results_row_two (u1:=5) (u2:=6) rfl _ _ (w.heap.size+1+1) 25 #[.int .i64 0,.int .i64 0,.slice none 0 0,.slice none 0 0] (0,0) _ rfl HB2.out Tryz.underlying25 rfl Tryz.size25) rfl (retState3_none HR.out HX3.out)
 ·have HR:=hid (HI.out hL)
  obtain ⟨va,vc,rfl,hvc,hvc9,hvl,hvE⟩:=bites_at HV.out
  have hz1:1≤L.length:=List.length_pos_iff.2 hL
  obtain ⟨vb,vo,rfl,hvb,hE⟩:=hvE hz1
  have HFR:=hid (HNIL.out.2 _ _ _ rfl)
  have HLN:=hid hL
  clear HN HI HNIL hvE hE hL
  generalize hzz:L.length=m at *
  have Hm:=hid hzz
  clear hzz
  have he:∀ W,Sem.run Tryz.prog (binOp .eql 38 (.slice (some ⟨vb,vo,none⟩) m vc) (.slice none 0 0)) W=.ok (.bool false) W:=fun W=>rfl
  obtain ⟨a0,a1,a2,a3⟩:=HS0.out W2 HXB2.out
  go_wp2_with fail
  refine (OW.out _ HX2.out).mono ?_
  rintro e w7 ⟨u7,v7,rfl,hO7,hx7⟩
  clear a0 a1 a2 a3
  obtain ⟨gq,qcp,rfl,hgB,hgs⟩:=hO7.uform
  obtain ⟨ra,rc,rfl,hrw⟩:=hO7.vform
  rw [HBZ.out] at hO7 hrw ⊢
  rw [HQN.out] at hO7 ⊢
  have HX7:=hid (HX2.out.tr hx7)
  have HXB7:=hid (HXB2.out.tr hx7)
  have HVR:=hid hrw
  have HGQ:=hid (And.intro hgB hgs)
  obtain ⟨W8,hW8⟩:∃ W8,(w7.alloc (.cells #[.int .i64 0,.int .i64 0,.slice none 0 0,.slice none 0 0] 25)).setRow w7.heap.size #[.int .i64 s.Clock,.int .i64 s.Next,.slice (some ⟨gq,0,none⟩) n qcp,.slice ra z rc]=W8:=⟨_,rfl⟩
  have hx8:Ext w7 W8:=hW8▸((Ext.rf w7).al _).sr (b:=w7.heap.size) (Nat.le_refl _) _
  have hb8:W8.heap[w7.heap.size]?=some (.cells #[.int .i64 s.Clock,.int .i64 s.Next,.slice (some ⟨gq,0,none⟩) n qcp,.slice ra z rc] 25 (0,0)):=hW8▸setRow_heap (w7.alloc _) w7.heap.size _ _ _ _ (heap_alloc_new w7 _)
  have HW8:=hid hW8
  have HX8:=hid (HX7.out.tr hx8)
  have HXB8:=hid (HXB7.out.tr hx8)
  have HO8:=hid ((((hO7.under (r:=w.heap.size+1+1) (by have:=HXB2.out.size;omega)).low (B2:=w.heap.size) HX2.out.size (fun r hr=>hr)).box (Nat.le_refl _)).ext hx8)
  have HB8:=hid hb8
  have HS8:=hid (show w7.heap.size < W8.heap.size from (Array.getElem?_eq_some_iff.1 hb8).1)
  have HV8:=hid ((HV.out:BitesV W2 _ L).mono (hx7.tr hx8))
  have HSZ:=hid (And.intro HXB2.out.size hx7.size)
  clear hx7 hx8 hb8 hW8 hO7 hrw hgB hgs
  go_wp2_with (refine wpList_store_row rfl 25 _ _ rfl w7.heap.size #[.int .i64 s.Clock,.int .i64 s.Next,.slice (some ⟨gq,0,none⟩) n qcp,.slice ra z rc] rfl rfl 25 _ (heap_alloc_new w7 _) Tryz.size25 rfl (by simp [Value.oneCell']) ?_)
  rw [HW8.out]
  obtain ⟨ib,ib1,ib2,ib3,ib4⟩:=info_parts Tryz.info40
  have e3:W8.cell? ⟨w7.heap.size,3,none⟩=some (.slice ra z rc):=cell_of_row _ _ 3 _ _ _ HB8.out
  obtain ⟨a0,a1,a2,a3⟩:=HS0.out W8 HXB8.out
  obtain ⟨c0,c1,c2,c3,c4⟩:=HR0.out W8 HXB8.out
  obtain ⟨css,o1,hmore⟩:=HO8.out.more (by rw [HBZ.out];exact hz12)
  rw [HBZ.out] at o1
  have HO1:=hid o1
  have HMORE:=hid hmore
  clear o1 hmore
  have hne0:∀ k,(Value.slice ra z rc).ownBlock=some k→w.heap.size+1+1 < k:=fun k hk=>by have:=(HVR.out k hk).1;have:=HSZ.out.1;omega
  refine wp_region_tail 11 (fun W=>W.cell? ⟨w7.heap.size,3,none⟩=some (.slice ra z rc)∧W.cell? ⟨w.heap.size,1,none⟩=some (.int .i64 s.Next)∧W.cell? ⟨w.heap.size+1,0,none⟩=some (.int .i64 r.Queue)∧W.cell? ⟨w.heap.size+1,1,none⟩=some (.int .i64 r.From)∧W.cell? ⟨w.heap.size+1,2,none⟩=some (.int .i64 r.Until)∧W.cell? ⟨w.heap.size+1,3,none⟩=some (.int .i64 r.Kind)∧W.cell? ⟨w.heap.size+1,4,none⟩=some (.slice pa pn pc)) (by kernel_rfl) ⟨e3,a1,c0,c1,c2,c3,c4⟩ (fun hHeld=>?_)
  clear e3 a0 a1 a2 a3 c0 c1 c2 c3 c4
  refine wpAnyT_take (i:=0) (v:=?_) rfl (by kernel_rfl) (fun _ _ _ h=>h) (Or.inl ⟨by rfl,?_⟩) (by assumption) ?_
  rotate_left
  ·intro W hSW
   simp only [zA,zB]
   (try dsimp only at hSW)
   go_simp
   (try with_reducible rfl)
  simp only [zA,zB,Act.put,zD,zE,zF]
  refine wpAnyT_take (i:=1) (v:=?_) rfl (by kernel_rfl) (fun _ _ _ h=>h) (Or.inl ⟨by rfl,?_⟩) (by assumption) ?_
  rotate_left
  ·intro W hSW
   simp only [zA,zB,zC]
   (try dsimp only at hSW)
   go_simp
   (try with_reducible rfl)
  simp only [zA,zB,zC,Act.put,zD,zE,zF]
  refine wpAnyT_take (i:=2) (v:=?_) rfl (by kernel_rfl) (fun _ _ _ h=>h) (Or.inl ⟨by rfl,?_⟩) (by assumption) ?_
  rotate_left
  ·intro W hSW
   simp only [zA,zB,zC]
   (try dsimp only at hSW)
   go_simp
   (try with_reducible rfl)
  simp only [zA,zB,zC,Act.put,zD,zE,zF]
  refine wpAnyT_take (i:=3) (v:=?_) rfl (by kernel_rfl) (fun _ _ _ h=>h) (Or.inl ⟨by rfl,?_⟩) (by assumption) ?_
  rotate_left
  ·intro W hSW
   simp only [zA,zB,zC]
   (try dsimp only at hSW)
   go_simp
   (try with_reducible rfl)
  simp only [zA,zB,zC,Act.put,zD,zE,zF]
  refine wpAnyT_take (i:=4) (v:=?_) rfl (by kernel_rfl) (fun _ _ _ h=>h) (Or.inl ⟨by rfl,?_⟩) (by assumption) ?_
  rotate_left
  ·intro W hSW
   simp only [zA,zB,zC]
   (try dsimp only at hSW)
   go_simp
   (try with_reducible rfl)
  simp only [zA,zB,zC,Act.put,zD,zE,zF]
  refine wpAnyT_take (i:=6) (v:=?_) rfl (by kernel_rfl) (fun _ _ _ h=>h) (Or.inl ⟨by rfl,?_⟩) (by assumption) ?_
  rotate_left
  ·intro W hSW
   simp only [zA,zB,zC]
   (try dsimp only at hSW)
   go_simp
   (try with_reducible rfl)
  simp only [zA,zB,zC,Act.put,zD,zE,zF]
  refine wpAnyT_go (i:=5) (by kernel_rfl) rfl (fun K hK=>?_)
  simp only [zA,zB,zC]
  go_simp
  refine (OR.out _ HX8.out.dr).mono ?_
  rintro e W9 ⟨g9,cp9,rfl,hg9,hp9,hx9⟩
  go_wp2_with fail
  refine hK.out _ _ ?_ (fun hHeld=>?_)
  ·(obtain ⟨k0,k1,k2,k3,k4,k5,k6⟩:=hHeld;exact ⟨hx9.ce' k0,hx9.ce' k1,hx9.ce' k2,hx9.ce' k3,hx9.ce' k4,hx9.ce' k5,hx9.ce' k6⟩)
  clear hK K
  refine wpAnyT_take (i:=7) (v:=?_) rfl (by kernel_rfl) (fun _ _ _ h=>h) (Or.inl ⟨by rfl,?_⟩) (by assumption) ?_
  rotate_left
  ·intro W hSW
   simp only [zA,zB,zC]
   (try dsimp only at hSW)
   go_simp
   (try with_reducible rfl)
  simp only [zA,zB,zC,Act.put,zD,zE,zF]
  refine wpAnyT_go (i:=8) (by kernel_rfl) rfl (fun K hK=>?_)
  simp only [zA,zB,zC]
  go_simp
  refine hK.out _ _ ?_ (fun hHeld=>?_)
  ·(obtain ⟨k0,k1,k2,k3,k4,k5,k6⟩:=hHeld;have hal:=(Ext.rf W9).al (.cells #[.int .i64 s.Next,.int .i64 r.Queue,.int .i64 r.From,.int .i64 r.Until,.int .i64 r.Kind,.slice (some ⟨g9,0,none⟩) pn cp9,.slice (some ⟨vb,vo,none⟩) m vc] 40);exact ⟨hal.ce' k0,hal.ce' k1,hal.ce' k2,hal.ce' k3,hal.ce' k4,hal.ce' k5,hal.ce' k6⟩)
  clear hK K
  have hx89:Ext W8 W9:=(Ext.rf W8).dr.tr hx9
  have hal9:=hx89.al (.cells #[.int .i64 s.Next,.int .i64 r.Queue,.int .i64 r.From,.int .i64 r.Until,.int .i64 r.Kind,.slice (some ⟨g9,0,none⟩) pn cp9,.slice (some ⟨vb,vo,none⟩) m vc] 40)
  have hsz9:w7.heap.size < W9.heap.size:=Nat.lt_of_lt_of_le HS8.out hx89.size
  have HX9:=hid (HX8.out.tr hal9)
  have HP9:=hid (hp9.mono ((Ext.rf W9).al (.cells #[.int .i64 s.Next,.int .i64 r.Queue,.int .i64 r.From,.int .i64 r.Until,.int .i64 r.Kind,.slice (some ⟨g9,0,none⟩) pn cp9,.slice (some ⟨vb,vo,none⟩) m vc] 40)))
  have HV9:=hid ((HV8.out:BitesV W8 _ L).mono hal9)
  have HA9:=hid hal9
  have HN7:=hid (news7 W9 [.int .i64 s.Next,.int .i64 r.Queue,.int .i64 r.From,.int .i64 r.Until,.int .i64 r.Kind,.slice (some ⟨g9,0,none⟩) pn cp9,.slice (some ⟨vb,vo,none⟩) m vc] 40 rfl)
  refine wpAnyT_go (i:=9) (by kernel_rfl) rfl (fun K hK=>?_)
  simp only [zA,zB,zC]
  rw [if_pos (by rfl)]
  refine wp_append_lies _ _ _ _ (by rfl) w.heap.size 40 ib _ 7 88 Tryz.underlying23 ib1 ib2 ib3 ib4 rfl (by decide) (.slice ra z rc) z css.flatten (by rfl) (ownsRow_ext HO1.out HA9.out) ⟨W9.heap.size,0,none⟩ 1 1 [.int .i64 s.Next,.int .i64 r.Queue,.int .i64 r.From,.int .i64 r.Until,.int .i64 r.Kind,.slice (some ⟨g9,0,none⟩) pn cp9,.slice (some ⟨vb,vo,none⟩) m vc] (by rfl) (by rfl) HN7.out (by simp [Value.oneCell']) (by omega) (by unfold maxLen;omega) (by omega) HX9.out.size (W9.heap.size+1) (by simp) ?_
  intro g2 cp2 W10 hown hgrow hlie hlt
  have hgn:∀ (b:Nat) (o:Nat) (u:Value),(W9.alloc (.cells #[.int .i64 s.Next,.int .i64 r.Queue,.int .i64 r.From,.int .i64 r.Until,.int .i64 r.Kind,.slice (some ⟨g9,0,none⟩) pn cp9,.slice (some ⟨vb,vo,none⟩) m vc] 40)).cell? ⟨b,o,none⟩=some u→(b≤w.heap.size+1∨b=w7.heap.size)→W10.cell? ⟨b,o,none⟩=some u:=fun b o u h hb=>by
   rw [World.cell?_of_block (a:=⟨b,o,none⟩) (hgrow.block b (World.block_lt_of_cell? _ ⟨b,o,none⟩ h) (fun e=>by have h1:=hne0 b e.symm;have h2:=(HVR.out b e.symm).2;omega))]
   exact h
  refine hK.out _ _ ?_ (fun hHeld=>?_)
  ·(obtain ⟨k0,k1,k2,k3,k4,k5,k6⟩:=hHeld;exact ⟨hgn _ _ _ k0 (.inr rfl),hgn _ _ _ k1 (.inl (by omega)),hgn _ _ _ k2 (.inl (by omega)),hgn _ _ _ k3 (.inl (by omega)),hgn _ _ _ k4 (.inl (by omega)),hgn _ _ _ k5 (.inl (by omega)),hgn _ _ _ k6 (.inl (by omega))⟩)
  clear hK K
  have hb10:W10.heap[w7.heap.size]?=some (.cells #[.int .i64 s.Clock,.int .i64 s.Next,.slice (some ⟨gq,0,none⟩) n qcp,.slice ra z rc] 25 (0,0)) :=
   (hgrow.block w7.heap.size (by simp;omega) (fun e=>by have h2:=(HVR.out _ e.symm).2;omega)).trans ((HA9.out.block _ HS8.out).trans HB8.out)
  have f3:=frozen_of_row W10 w7.heap.size 3 _ _ hb10
  have HB10:=hid hb10
  have HOW:=hid hown
  have HGRW:=hid hgrow
  have HLIE:=hid hlie
  clear hown hgrow hlie hgn hb10
  refine wpAnyT_take (i:=10) (v:=?_) rfl (by kernel_rfl) (fun _ _ _ h=>h) (Or.inl ⟨by rfl,?_⟩) (by assumption) ?_
  rotate_left
  ·intro W hSW
   simp only [zA,zB,zC]
   (try dsimp only at hSW)
   go_simp
   (try with_reducible rfl)
  simp only [zA,zB,zC,Act.put,zD,zE,zF]
  refine wpAnyT_last (t:=11) (by kernel_rfl) rfl (by kernel_rfl) (fun K hK=>?_)
  simp only [zA,zB,zC]
  obtain ⟨k0,_⟩:=hHeld
  go_simp
  refine hK.out _ _ ?_
  clear hK K
  have hgr11:=grown_set W10 w7.heap.size 3 (.slice (some ⟨g2,0,none⟩) (z+1) cp2)
  have hO10:OwnS [w7.heap.size,w.heap.size+1+1] w.heap.size W10 (.slice (some ⟨gq,0,none⟩) n qcp) (.slice (some ⟨g2,0,none⟩) (z+1) cp2) s.Tree (s.Books++[⟨s.Next,r,L⟩]):=by
   refine HMORE.out _ W10 g2 (z+1) cp2 [.int .i64 s.Next,.int .i64 r.Queue,.int .i64 r.From,.int .i64 r.Until,.int .i64 r.Kind,.slice (some ⟨g9,0,none⟩) pn cp9,.slice (some ⟨vb,vo,none⟩) m vc] ⟨s.Next,r,L⟩ HA9.out ⟨_,_,rfl,⟨_,rfl,by have h:=HP9.out;exact h,HII.out.1,HII.out.2.1,HII.out.2.2.1,HII.out.2.2.2⟩,HV9.out,⟨by show -9223372036854775808≤s.Next;omega,by show s.Next≤9223372036854775807;omega⟩⟩ ?_ ?_ HOW.out (by rw [HBZ.out]) HGRW.out (by have h:=HLIE.out;rw [World.size_alloc];exact h) ?_
   ·exact ⟨⟨HPN.out,HLN.out⟩,by show 1≤r.Pieces.length∧r.Pieces.length≤3;rw [HRP.out];exact HPM.out,by show 1≤L.length;rw [Hm.out];exact hz1,by show L.length≤3;rw [Hm.out];exact HLL.out HLN.out⟩
   ·intro y hy a n' c e
    rw [World.size_alloc]
    have hq:=HGQ.out
    have hfr:=HFR.out
    have hsz:=HSZ.out
    have hx1:=HX1.out.size
    have hxb1:=HXB1.out.size
    have h8:=HS8.out
    have hg9':W8.heap.size≤g9:=hg9
    have hlt9:g9 < W9.heap.size:=by
     rcases hp9 with ⟨h,_⟩ | ⟨_,_,_,h,_,_,_,h2,_⟩
     ·exact absurd h HPN.out
     ·cases h;exact h2
    simp only [List.mem_cons,List.not_mem_nil,or_false] at hy
    rcases hy with rfl | rfl | rfl | rfl | rfl | rfl | rfl
    ·cases e
    ·cases e
    ·cases e
    ·cases e
    ·cases e
    ·cases e
     refine ⟨by show g9 < W9.heap.size+1;omega,by show w.heap.size≤g9;omega,fun h=>?_,fun r' hr'=>?_,fun r' hr'=>?_⟩
     ·have h2:g9=w7.heap.size∨g9=w.heap.size+1+1:=by simpa using h
      omega
     ·have h2:gq=r':=by simpa [Value.ownBlock] using hr'
      show g9≠r'
      omega
     ·have:=HVR.out r' hr'
      show g9≠r'
      omega
    ·cases e
     refine ⟨by show vb < W9.heap.size+1;omega,by show w.heap.size≤vb;omega,fun h=>?_,fun r' hr'=>?_,fun r' hr'=>?_⟩
     ·have h2:vb=w7.heap.size∨vb=w.heap.size+1+1:=by simpa using h
      omega
     ·have h2:gq=r':=by simpa [Value.ownBlock] using hr'
      show vb≠r'
      omega
     ·have:=HVR.out r' hr'
      show vb≠r'
      omega
   ·intro r' hr'
    rw [World.size_alloc]
    have h2:r'=w7.heap.size∨r'=w.heap.size+1+1:=by simpa using hr'
    have:=HSZ.out
    omega
  obtain ⟨W11,hW11⟩:∃ W11,W10.setCell ⟨w7.heap.size,3,none⟩ (.slice (some ⟨g2,0,none⟩) (z+1) cp2)=W11:=⟨_,rfl⟩
  have hb11:W11.heap[w7.heap.size]?=some (.cells #[.int .i64 s.Clock,.int .i64 s.Next,.slice (some ⟨gq,0,none⟩) n qcp,.slice (some ⟨g2,0,none⟩) (z+1) cp2] 25 (0,0)):=hW11▸heap_setCell_same W10 w7.heap.size 3 _ _ _ HB10.out
  have hXs:w.heap.size+1+1 < w7.heap.size:=by have:=HSZ.out;omega
  have hx10:Ext w W10:=HX9.out.gr HGRW.out (fun k hk=>by have:=hne0 k hk;omega)
  have HO11:=hid (hW11▸hO10.kept hgr11 (List.mem_cons_self ..))
  have HX11:=hid (hW11▸hx10.se (b:=w7.heap.size) (o:=3) (by omega) (.slice (some ⟨g2,0,none⟩) (z+1) cp2))
  have hold:∀ b,b≤w.heap.size+1+1→W11.heap[b]?=wb.heap[b]?:=fun b hb=>by
   have hbw:b < wb.heap.size:=by omega
   have hb8:b < W8.heap.size:=by have:=HXB8.out.size;omega
   rw [← hW11,heap_setCell_other W10 ⟨w7.heap.size,3,none⟩ b _ (by show b≠w7.heap.size;omega),HGRW.out.block b (by have:=HA9.out.size;omega) (fun e=>by have:=hne0 b e.symm;omega),HA9.out.block b hb8,HXB8.out.block b hbw]
  have HOLD:=hid hold
  have hzz11:=(hold (w.heap.size+1+1) (Nat.le_refl _)).trans (HZ0.out wb (Ext.rf wb))
  have HZ11:=hid hzz11
  have HB11:=hid hb11
  rw [hW11]
  clear hW11 hgr11 hO10 hx10 HB10 HOW HGRW HLIE k0 hzz11
  have e1:W11.cell? ⟨w7.heap.size,1,none⟩=some (.int .i64 s.Next):=cell_of_row _ _ 1 _ _ _ hb11
  have f1:=frozen_of_row W11 w7.heap.size 1 _ _ hb11
  have hwr:IntKind.i64.wrap (s.Next+1)=s.Next+1:=by rw [IntKind.wrap_i64];omega
  clear hb11 hold f3
  go_wp2_with fail
  obtain ⟨W12,hW12⟩:∃ W12,W11.setCell ⟨w7.heap.size,1,none⟩ (.int .i64 (s.Next+1))=W12:=⟨_,rfl⟩
  rw [hW12]
  have hgr12:W11.grownBy W12 (some w7.heap.size):=hW12▸grown_set W11 w7.heap.size 1 (.int .i64 (s.Next+1))
  have hb12:W12.heap[w7.heap.size]?=some (.cells #[.int .i64 s.Clock,.int .i64 (s.Next+1),.slice (some ⟨gq,0,none⟩) n qcp,.slice (some ⟨g2,0,none⟩) (z+1) cp2] 25 (0,0)):=hW12▸heap_setCell_same W11 w7.heap.size 1 _ _ _ HB11.out
  have HO12:=hid (HO11.out.kept hgr12 (List.mem_cons_self ..))
  have HX12:=hid (hW12▸HX11.out.se (b:=w7.heap.size) (o:=1) (by omega) (.int .i64 (s.Next+1)))
  have hzz12:W12.heap[w.heap.size+1+1]?=some (.cells #[.int .i64 0,.int .i64 0,.slice none 0 0,.slice none 0 0] 25 (0,0)):=by
   rw [← hW12,heap_setCell_other W11 ⟨w7.heap.size,1,none⟩ _ _ (by show w.heap.size+1+1≠w7.heap.size;omega)]
   exact HZ11.out
  have a1:W12.cell? ⟨w.heap.size,1,none⟩=some (.int .i64 s.Next):=by
   obtain ⟨_,h1,_⟩:=HS0.out wb (Ext.rf wb)
   rw [← h1]
   refine World.cell?_of_block (a:=⟨w.heap.size,1,none⟩) ?_
   rw [← hW12]
   exact (heap_setCell_other W11 ⟨w7.heap.size,1,none⟩ _ _ (by show w.heap.size≠w7.heap.size;omega)).trans (HOLD.out w.heap.size (by omega))
  have d0:W12.cell? ⟨w7.heap.size,0,none⟩=some (.int .i64 s.Clock):=cell_of_row _ _ 0 _ _ _ hb12
  have d1:W12.cell? ⟨w7.heap.size,1,none⟩=some (.int .i64 (s.Next+1)):=cell_of_row _ _ 1 _ _ _ hb12
  have d2:W12.cell? ⟨w7.heap.size,2,none⟩=some (.slice (some ⟨gq,0,none⟩) n qcp):=cell_of_row _ _ 2 _ _ _ hb12
  have d3:W12.cell? ⟨w7.heap.size,3,none⟩=some (.slice (some ⟨g2,0,none⟩) (z+1) cp2):=cell_of_row _ _ 3 _ _ _ hb12
  have z0:W12.cell? ⟨w.heap.size+1+1,0,none⟩=some (.int .i64 0):=cell_of_row _ _ 0 _ _ _ hzz12
  have z1:W12.cell? ⟨w.heap.size+1+1,1,none⟩=some (.int .i64 0):=cell_of_row _ _ 1 _ _ _ hzz12
  have z2:W12.cell? ⟨w.heap.size+1+1,2,none⟩=some (.slice none 0 0):=cell_of_row _ _ 2 _ _ _ hzz12
  have z3:W12.cell? ⟨w.heap.size+1+1,3,none⟩=some (.slice none 0 0):=cell_of_row _ _ 3 _ _ _ hzz12
  have y0:=frozen_of_row W12 (w.heap.size+1+1) 0 _ _ hzz12
  have y1:=frozen_of_row W12 (w.heap.size+1+1) 1 _ _ hzz12
  have y2:=frozen_of_row W12 (w.heap.size+1+1) 2 _ _ hzz12
  have y3:=frozen_of_row W12 (w.heap.size+1+1) 3 _ _ hzz12
  have n1:w.heap.size+1+1≠w7.heap.size:=by omega
  have n2:w.heap.size+1+1≠w.heap.size:=by omega
  have HZ12:=hid hzz12
  clear hW12 hgr12 hb12 hzz12 e1 f1
  go_region_held3 (fun w'=>(w'.cell? ⟨w7.heap.size,0,none⟩=some (.int .i64 s.Clock)∧w'.cell? ⟨w7.heap.size,1,none⟩=some (.int .i64 (s.Next+1))∧w'.cell? ⟨w7.heap.size,2,none⟩=some (.slice (some ⟨gq,0,none⟩) n qcp)∧w'.cell? ⟨w7.heap.size,3,none⟩=some (.slice (some ⟨g2,0,none⟩) (z+1) cp2)∧w'.cell? ⟨w.heap.size,1,none⟩=some (.int .i64 s.Next)))
   (go_keep) (fail)
  have hO13:=HO12.out.kept (grown_set4 W12 (w.heap.size+1+1) (.int .i64 s.Clock) (.int .i64 (s.Next+1)) (.slice (some ⟨gq,0,none⟩) n qcp) (.slice (some ⟨g2,0,none⟩) (z+1) cp2)) (List.mem_cons_of_mem _ (List.mem_cons_self ..))
  have hX13:=(((HX12.out.se (b:=w.heap.size+1+1) (o:=0) (by omega) (.int .i64 s.Clock)).se (b:=w.heap.size+1+1) (o:=1) (by omega) (.int .i64 (s.Next+1))).se (b:=w.heap.size+1+1) (o:=2) (by omega) (.slice (some ⟨gq,0,none⟩) n qcp)).se (b:=w.heap.size+1+1) (o:=3) (by omega) (.slice (some ⟨g2,0,none⟩) (z+1) cp2)
  have HO13:=hid (hO13.ext (Ext.rf _).dr)
  have HX13:=hid hX13.dr
  have HB13:=hid (row4_set (a0:=.int .i64 s.Clock) (a1:=.int .i64 (s.Next+1)) (a2:=.slice (some ⟨gq,0,none⟩) n qcp) (a3:=.slice (some ⟨g2,0,none⟩) (z+1) cp2) HZ12.out)
  clear hO13 hX13
  go_wp2_with fail
  exact bodyPost_ret (results_row_two (u1:=5) (u2:=6) rfl _ _ (w.heap.size+1+1) 25 #[.int .i64 s.Clock,.int .i64 (s.Next+1),.slice (some ⟨gq,0,none⟩) n qcp,.slice (some ⟨g2,0,none⟩) (z+1) cp2] (0,0) _ rfl HB13.out Tryz.underlying25 rfl Tryz.size25) rfl (retState3_of (s:=moreS s r L) HR.out (.inl (HO13.out.low (Nat.le_refl _) (fun r hr=>by cases hr))) HX13.out)
theorem Submit_any (w:World) (tv bv pv:Value) (s:State) (r:Request) (hl:QueuesV w tv s.Tree) (hb:BooksV w bv s.Books) (hp:PiecesV w pv r.Pieces) (hI:I64 r.Queue∧I64 r.From∧I64 r.Until∧I64 r.Kind) :
  Calls Tryz.prog 38 #[.agg #[.int .i64 s.Clock,.int .i64 s.Next,tv,bv],.agg #[.int .i64 r.Queue,.int .i64 r.From,.int .i64 r.Until,.int .i64 r.Kind,pv]] w (RetState3 w (submitR s r)):=by
 by_cases h0:mayE s r=0
 ·by_cases h1:s.Books.length=12∨s.Next=1048576
  ·exact Submit_many w tv bv pv s r hl hb hp h0 h1
  ·exact Submit_rest w tv bv pv s r hl hb hp hI h0 h1
 ·exact Submit_bad w tv bv pv s r hl hb hp h0
end Go.Proofs.YtdcndkojmflhnaaGreat
