/- log: an act, done; each theorem names its own conditions. -/
import Derived.Test.YtdcndkojmflhnaaGreatPCutK
import Derived.Test.YtdcndkojmflhnaaGreatPBookA
set_option linter.unusedVariables false
set_option linter.unusedSimpArgs false
set_option maxRecDepth 100000
set_option maxHeartbeats 8000000
set_option linter.unusedSimpArgs false
set_option linter.unusedVariables false
namespace Go.Proofs.YtdcndkojmflhnaaGreat
open Go.RowKit
open List renaming getElem_toArray→zA,getElem_cons_zero→zB,getElem_cons_succ→zC,setIfInBounds_toArray→zD,set_cons_zero→zE,set_cons_succ→zF
structure Act1 where
 Kind:Int
 N:Int
 Req:Request
 Cap:List Run
@[irreducible] noncomputable def doR (s:State) (x:Act1):State × Int :=
 if x.Kind=1 then ((submitR s x.Req).1,(submitR s x.Req).2.2) else if x.Kind=2 then cancelR s x.N else if x.Kind=3 then ((tickR s x.N).1,(tickR s x.N).2.2) else if x.Kind=4 then ((changeR s x.N x.Cap).1,(changeR s x.N x.Cap).2.2.2) else (noneS,7)
theorem doR_1 {s:State} {x:Act1} (h:x.Kind=1):doR s x=((submitR s x.Req).1,(submitR s x.Req).2.2):=by unfold doR;rw [if_pos h]
theorem doR_2 {s:State} {x:Act1} (h:x.Kind=2):doR s x=cancelR s x.N:=by unfold doR;rw [if_neg (by omega),if_pos h]
theorem doR_3 {s:State} {x:Act1} (h:x.Kind=3):doR s x=((tickR s x.N).1,(tickR s x.N).2.2):=by unfold doR;rw [if_neg (by omega),if_neg (by omega),if_pos h]
theorem doR_4 {s:State} {x:Act1} (h:x.Kind=4):doR s x=((changeR s x.N x.Cap).1,(changeR s x.N x.Cap).2.2.2):=by unfold doR;rw [if_neg (by omega),if_neg (by omega),if_neg (by omega),if_pos h]
theorem doR_no {s:State} {x:Act1} (h1:x.Kind≠1) (h2:x.Kind≠2) (h3:x.Kind≠3) (h4:x.Kind≠4):doR s x=(noneS,7):=by unfold doR;rw [if_neg h1,if_neg h2,if_neg h3,if_neg h4]
theorem StS.put {B B2 r:Nat} {W:World} {u v:Value} {S:State} (h:StS B W u v S) (hr:r < B) (hb:B2≤B) (cs:Array Value):StS B2 (W.setRow r cs) u v S:=by
 rcases h with h | h
 ·exact .inl (((h.under (r:=r) hr).kept (grown_srow W r cs) (List.mem_cons_self ..)).low (ex2:=[]) hb (fun r hr=>by cases hr))
 ·exact .inr h
theorem StS.later {B:Nat} {W W':World} {u v:Value} {S:State} (h:StS B W u v S) (hx:Ext W W'):StS B W' u v S:=by
 rcases h with h | h
 ·exact .inl (h.ext hx)
 ·exact .inr h
theorem StS.forms {B:Nat} {W:World} {u v:Value} {S:State} (h:StS B W u v S):∃ a c b d,u=.slice a S.Tree.length c∧v=.slice b S.Books.length d:=by
 obtain ⟨a,c,e1,_⟩:=h.tree.form
 obtain ⟨b,d,e2,_⟩:=h.books.form
 exact ⟨a,c,b,d,e1,e2⟩
theorem do_boxes (w:World) (s:State) (x:Act1) (tv bv pv cv:Value):∃ w1:World,((w.alloc (.cells #[.int .i64 s.Clock,.int .i64 s.Next,tv,bv] 25)).alloc (.cells #[.int .i64 x.Kind,.int .i64 x.N,.int .i64 x.Req.Queue,.int .i64 x.Req.From,.int .i64 x.Req.Until,.int .i64 x.Req.Kind,pv,cv] 31)).alloc (.cells #[.int .i64 0,.int .i64 0,.slice none 0 0,.slice none 0 0] 25)=w1∧Ext w w1 ∧
  (∀ W,Ext w1 W→W.heap[w.heap.size+2]?=some (.cells #[.int .i64 0,.int .i64 0,.slice none 0 0,.slice none 0 0] 25 (0,0)))∧w1.heap.size=w.heap.size+3:=by
 refine ⟨_,rfl,(((Ext.rf w).al _).al _).al _,fun W h=>?_,by simp⟩
 have e:=heap_alloc_new ((w.alloc (.cells #[.int .i64 s.Clock,.int .i64 s.Next,tv,bv] 25)).alloc (.cells #[.int .i64 x.Kind,.int .i64 x.N,.int .i64 x.Req.Queue,.int .i64 x.Req.From,.int .i64 x.Req.Until,.int .i64 x.Req.Kind,pv,cv] 31)) (.cells #[.int .i64 0,.int .i64 0,.slice none 0 0,.slice none 0 0] 25)
 simp only [World.size_alloc] at e
 exact (h.block _ (by simp)).trans e
theorem one_any (w:World) (c n k m:Int) (a b:Option Addr) (x1 x2 y1 y2:Nat) :
  Calls Tryz.prog 37 #[.agg #[.int .i64 c,.int .i64 n,.slice a x1 x2,.slice b y1 y2],.int .i64 k,.int .i64 m] w fun e w'=>e=.returned (.tuple #[.agg #[.int .i64 c,.int .i64 n,.slice a x1 x2,.slice b y1 y2],.int .i64 m])∧Ext w w':=by
 have hz:((w.alloc (.cells #[.int .i64 c,.int .i64 n,.slice a x1 x2,.slice b y1 y2] 25)).alloc (.cells #[.int .i64 0,.int .i64 0,.slice none 0 0,.slice none 0 0] 25)).heap[w.heap.size+1]?=some (.cells #[.int .i64 0,.int .i64 0,.slice none 0 0,.slice none 0 0] 25 (0,0)):=by
  have e:=heap_alloc_new (w.alloc (.cells #[.int .i64 c,.int .i64 n,.slice a x1 x2,.slice b y1 y2] 25)) (.cells #[.int .i64 0,.int .i64 0,.slice none 0 0,.slice none 0 0] 25)
  rwa [World.size_alloc] at e
 have HZ:=hid hz
 have HX:=hid ((((Ext.rf w).al (.cells #[.int .i64 c,.int .i64 n,.slice a x1 x2,.slice b y1 y2] 25)).al (.cells #[.int .i64 0,.int .i64 0,.slice none 0 0,.slice none 0 0] 25)).sr (b:=w.heap.size+1) (by omega) #[.int .i64 c,.int .i64 n,.slice a x1 x2,.slice b y1 y2])
 have HR:=hid (setRow_heap _ (w.heap.size+1) _ #[.int .i64 c,.int .i64 n,.slice a x1 x2,.slice b y1 y2] _ _ hz)
 clear hz
 go_enter Tryz.func37,Tryz.ntmps37
 go_wp2_with (refine wpList_store_row rfl 25 _ _ rfl (w.heap.size+1) #[.int .i64 c,.int .i64 n,.slice a x1 x2,.slice b y1 y2] rfl rfl 25 _ HZ.out Tryz.size25 rfl (by simp [Value.oneCell']) ?_)
 exact bodyPost_ret (results_row_tmp (u:=7) rfl _ _ (w.heap.size+1) 25 #[.int .i64 c,.int .i64 n,.slice a x1 x2,.slice b y1 y2] (0,0) _ rfl HR.out Tryz.underlying25 rfl Tryz.size25) rfl ⟨rfl,HX.out⟩
theorem Do_1 (w:World) (tv bv pv cv:Value) (s:State) (x:Act1) (hk:x.Kind=1) (hl:QueuesV w tv s.Tree) (hb:BooksV w bv s.Books) (hp:PiecesV w pv x.Req.Pieces) (hc:RunsV w cv x.Cap) (hI:I64 x.Req.Queue∧I64 x.Req.From∧I64 x.Req.Until∧I64 x.Req.Kind) (hN:I64 x.N) :
  Calls Tryz.prog 13 #[.agg #[.int .i64 s.Clock,.int .i64 s.Next,tv,bv],.agg #[.int .i64 x.Kind,.int .i64 x.N,.int .i64 x.Req.Queue,.int .i64 x.Req.From,.int .i64 x.Req.Until,.int .i64 x.Req.Kind,pv,cv]] w (RetState2 w (doR s x)):=by
 have HRR:=hid (doR_1 (s:=s) hk)
 have CA:=hid (fun (W:World) (h:Ext w W)=>Submit_any W tv bv pv s x.Req (hl.mono h) (hb.mono h) (hp.mono h) hI)
 obtain ⟨wb,hwb,HX,HZZ,hszb⟩:=do_boxes w s x tv bv pv cv
 have HX0:=hid HX
 have HZ0:=hid HZZ
 have HWB:=hid hwb
 have HSB:=hid hszb
 clear HX HZZ hwb hszb
 have q1:=eqT hk
 have q2:=eqF (show x.Kind≠2 by omega)
 have q3:=eqF (show x.Kind≠3 by omega)
 have q4:=eqF (show x.Kind≠4 by omega)
 obtain ⟨qa,qc,rfl,_,_,_⟩:=hl.form
 obtain ⟨ba,bc,rfl,_,_,_⟩:=hb.form
 obtain ⟨pa,pc,rfl,_,_,_⟩:=hp.form
 obtain ⟨ra,rc,rfl,_,_,_⟩:=hc.form
 clear hl hb hp hc hk
 generalize submitR s x.Req=cr at *
 obtain ⟨S,n,er⟩:=cr
 generalize s.Tree.length=sn at *
 generalize s.Books.length=sz at *
 generalize x.Req.Pieces.length=pn at *
 generalize x.Cap.length=rn at *
 go_enter Tryz.func13,Tryz.ntmps13
 go_wp2_with fail
 rw [HWB.out]
 refine (CA.out _ HX0.out).mono ?_
 rintro e w2 ⟨u,v,rfl,hS,hx2⟩
 obtain ⟨ua,uc,va,vc,rfl,rfl⟩:=hS.forms
 have ON:=hid (fun (W:World)=>one_any W S.Clock S.Next n er ua va S.Tree.length uc S.Books.length vc)
 have HS2:=hid hS
 have HX2:=hid hx2
 clear hS hx2
 go_wp2_with fail
 refine (ON.out _).mono ?_
 rintro e w3 ⟨rfl,hx3⟩
 have HS3:=hid (HS2.out.later hx3)
 have HX3:=hid (HX2.out.tr hx3)
 clear hx3
 have HZ:=hid (HZ0.out _ HX3.out)
 have HEND:=hid (HS3.out.put (r:=w.heap.size+2) (B2:=w.heap.size) (by rw [HSB.out];omega) HX0.out.size #[.int .i64 S.Clock,.int .i64 S.Next,.slice ua S.Tree.length uc,.slice va S.Books.length vc])
 have HXE:=hid ((HX0.out.tr HX3.out).sr (b:=w.heap.size+2) (by omega) #[.int .i64 S.Clock,.int .i64 S.Next,.slice ua S.Tree.length uc,.slice va S.Books.length vc])
 have HR:=hid (setRow_heap w3 (w.heap.size+2) _ #[.int .i64 S.Clock,.int .i64 S.Next,.slice ua S.Tree.length uc,.slice va S.Books.length vc] _ _ HZ.out)
 go_wp2_with (refine wpList_store_row rfl 25 _ _ rfl (w.heap.size+2) #[.int .i64 S.Clock,.int .i64 S.Next,.slice ua S.Tree.length uc,.slice va S.Books.length vc] rfl rfl 25 _ HZ.out Tryz.size25 rfl (by simp [Value.oneCell']) ?_)
 exact bodyPost_ret (results_row_tmp (u:=5) rfl _ _ (w.heap.size+2) 25 #[.int .i64 S.Clock,.int .i64 S.Next,.slice ua S.Tree.length uc,.slice va S.Books.length vc] (0,0) _ rfl HR.out Tryz.underlying25 rfl Tryz.size25) rfl (retState2_of HRR.out HEND.out HXE.out)
theorem Do_2 (w:World) (tv bv pv cv:Value) (s:State) (x:Act1) (hk:x.Kind=2) (hl:QueuesV w tv s.Tree) (hb:BooksV w bv s.Books) (hp:PiecesV w pv x.Req.Pieces) (hc:RunsV w cv x.Cap) (hI:I64 x.Req.Queue∧I64 x.Req.From∧I64 x.Req.Until∧I64 x.Req.Kind) (hN:I64 x.N) :
  Calls Tryz.prog 13 #[.agg #[.int .i64 s.Clock,.int .i64 s.Next,tv,bv],.agg #[.int .i64 x.Kind,.int .i64 x.N,.int .i64 x.Req.Queue,.int .i64 x.Req.From,.int .i64 x.Req.Until,.int .i64 x.Req.Kind,pv,cv]] w (RetState2 w (doR s x)):=by
 have HRR:=hid (doR_2 (s:=s) hk)
 have CA:=hid (fun (W:World) (h:Ext w W)=>Cancel_any W tv bv s x.N (hl.mono h) (hb.mono h))
 obtain ⟨wb,hwb,HX,HZZ,hszb⟩:=do_boxes w s x tv bv pv cv
 have HX0:=hid HX
 have HZ0:=hid HZZ
 have HWB:=hid hwb
 have HSB:=hid hszb
 clear HX HZZ hwb hszb
 have q1:=eqF (show x.Kind≠1 by omega)
 have q2:=eqT hk
 have q3:=eqF (show x.Kind≠3 by omega)
 have q4:=eqF (show x.Kind≠4 by omega)
 obtain ⟨qa,qc,rfl,_,_,_⟩:=hl.form
 obtain ⟨ba,bc,rfl,_,_,_⟩:=hb.form
 obtain ⟨pa,pc,rfl,_,_,_⟩:=hp.form
 obtain ⟨ra,rc,rfl,_,_,_⟩:=hc.form
 clear hl hb hp hc hk
 generalize cancelR s x.N=cr at *
 obtain ⟨S,er⟩:=cr
 generalize s.Tree.length=sn at *
 generalize s.Books.length=sz at *
 generalize x.Req.Pieces.length=pn at *
 generalize x.Cap.length=rn at *
 go_enter Tryz.func13,Tryz.ntmps13
 go_wp2_with fail
 rw [HWB.out]
 refine (CA.out _ HX0.out).mono ?_
 rintro e w2 ⟨u,v,rfl,hS,hx2⟩
 obtain ⟨ua,uc,va,vc,rfl,rfl⟩:=hS.forms
 have HS3:=hid hS
 have HX3:=hid hx2
 clear hS hx2
 have HZ:=hid (HZ0.out _ HX3.out)
 have HEND:=hid (HS3.out.put (r:=w.heap.size+2) (B2:=w.heap.size) (by rw [HSB.out];omega) HX0.out.size #[.int .i64 S.Clock,.int .i64 S.Next,.slice ua S.Tree.length uc,.slice va S.Books.length vc])
 have HXE:=hid ((HX0.out.tr HX3.out).sr (b:=w.heap.size+2) (by omega) #[.int .i64 S.Clock,.int .i64 S.Next,.slice ua S.Tree.length uc,.slice va S.Books.length vc])
 have HR:=hid (setRow_heap w2 (w.heap.size+2) _ #[.int .i64 S.Clock,.int .i64 S.Next,.slice ua S.Tree.length uc,.slice va S.Books.length vc] _ _ HZ.out)
 go_wp2_with (refine wpList_store_row rfl 25 _ _ rfl (w.heap.size+2) #[.int .i64 S.Clock,.int .i64 S.Next,.slice ua S.Tree.length uc,.slice va S.Books.length vc] rfl rfl 25 _ HZ.out Tryz.size25 rfl (by simp [Value.oneCell']) ?_)
 exact bodyPost_ret (results_row_tmp (u:=5) rfl _ _ (w.heap.size+2) 25 #[.int .i64 S.Clock,.int .i64 S.Next,.slice ua S.Tree.length uc,.slice va S.Books.length vc] (0,0) _ rfl HR.out Tryz.underlying25 rfl Tryz.size25) rfl (retState2_of HRR.out HEND.out HXE.out)
theorem Do_3 (w:World) (tv bv pv cv:Value) (s:State) (x:Act1) (hk:x.Kind=3) (hl:QueuesV w tv s.Tree) (hb:BooksV w bv s.Books) (hp:PiecesV w pv x.Req.Pieces) (hc:RunsV w cv x.Cap) (hI:I64 x.Req.Queue∧I64 x.Req.From∧I64 x.Req.Until∧I64 x.Req.Kind) (hN:I64 x.N) :
  Calls Tryz.prog 13 #[.agg #[.int .i64 s.Clock,.int .i64 s.Next,tv,bv],.agg #[.int .i64 x.Kind,.int .i64 x.N,.int .i64 x.Req.Queue,.int .i64 x.Req.From,.int .i64 x.Req.Until,.int .i64 x.Req.Kind,pv,cv]] w (RetState2 w (doR s x)):=by
 have HRR:=hid (doR_3 (s:=s) hk)
 have CA:=hid (fun (W:World) (h:Ext w W)=>Tick_any W tv bv s x.N (hl.mono h) (hb.mono h))
 obtain ⟨wb,hwb,HX,HZZ,hszb⟩:=do_boxes w s x tv bv pv cv
 have HX0:=hid HX
 have HZ0:=hid HZZ
 have HWB:=hid hwb
 have HSB:=hid hszb
 clear HX HZZ hwb hszb
 have q1:=eqF (show x.Kind≠1 by omega)
 have q2:=eqF (show x.Kind≠2 by omega)
 have q3:=eqT hk
 have q4:=eqF (show x.Kind≠4 by omega)
 obtain ⟨qa,qc,rfl,_,_,_⟩:=hl.form
 obtain ⟨ba,bc,rfl,_,_,_⟩:=hb.form
 obtain ⟨pa,pc,rfl,_,_,_⟩:=hp.form
 obtain ⟨ra,rc,rfl,_,_,_⟩:=hc.form
 clear hl hb hp hc hk
 generalize tickR s x.N=cr at *
 obtain ⟨S,n,er⟩:=cr
 generalize s.Tree.length=sn at *
 generalize s.Books.length=sz at *
 generalize x.Req.Pieces.length=pn at *
 generalize x.Cap.length=rn at *
 go_enter Tryz.func13,Tryz.ntmps13
 go_wp2_with fail
 rw [HWB.out]
 refine (CA.out _ HX0.out).mono ?_
 rintro e w2 ⟨u,v,rfl,hS,hx2⟩
 obtain ⟨ua,uc,va,vc,rfl,rfl⟩:=hS.forms
 have ON:=hid (fun (W:World)=>one_any W S.Clock S.Next n er ua va S.Tree.length uc S.Books.length vc)
 have HS2:=hid hS
 have HX2:=hid hx2
 clear hS hx2
 go_wp2_with fail
 refine (ON.out _).mono ?_
 rintro e w3 ⟨rfl,hx3⟩
 have HS3:=hid (HS2.out.later hx3)
 have HX3:=hid (HX2.out.tr hx3)
 clear hx3
 have HZ:=hid (HZ0.out _ HX3.out)
 have HEND:=hid (HS3.out.put (r:=w.heap.size+2) (B2:=w.heap.size) (by rw [HSB.out];omega) HX0.out.size #[.int .i64 S.Clock,.int .i64 S.Next,.slice ua S.Tree.length uc,.slice va S.Books.length vc])
 have HXE:=hid ((HX0.out.tr HX3.out).sr (b:=w.heap.size+2) (by omega) #[.int .i64 S.Clock,.int .i64 S.Next,.slice ua S.Tree.length uc,.slice va S.Books.length vc])
 have HR:=hid (setRow_heap w3 (w.heap.size+2) _ #[.int .i64 S.Clock,.int .i64 S.Next,.slice ua S.Tree.length uc,.slice va S.Books.length vc] _ _ HZ.out)
 go_wp2_with (refine wpList_store_row rfl 25 _ _ rfl (w.heap.size+2) #[.int .i64 S.Clock,.int .i64 S.Next,.slice ua S.Tree.length uc,.slice va S.Books.length vc] rfl rfl 25 _ HZ.out Tryz.size25 rfl (by simp [Value.oneCell']) ?_)
 exact bodyPost_ret (results_row_tmp (u:=5) rfl _ _ (w.heap.size+2) 25 #[.int .i64 S.Clock,.int .i64 S.Next,.slice ua S.Tree.length uc,.slice va S.Books.length vc] (0,0) _ rfl HR.out Tryz.underlying25 rfl Tryz.size25) rfl (retState2_of HRR.out HEND.out HXE.out)
theorem Do_4 (w:World) (tv bv pv cv:Value) (s:State) (x:Act1) (hk:x.Kind=4) (hl:QueuesV w tv s.Tree) (hb:BooksV w bv s.Books) (hp:PiecesV w pv x.Req.Pieces) (hc:RunsV w cv x.Cap) (hI:I64 x.Req.Queue∧I64 x.Req.From∧I64 x.Req.Until∧I64 x.Req.Kind) (hN:I64 x.N) :
  Calls Tryz.prog 13 #[.agg #[.int .i64 s.Clock,.int .i64 s.Next,tv,bv],.agg #[.int .i64 x.Kind,.int .i64 x.N,.int .i64 x.Req.Queue,.int .i64 x.Req.From,.int .i64 x.Req.Until,.int .i64 x.Req.Kind,pv,cv]] w (RetState2 w (doR s x)):=by
 have HRR:=hid (doR_4 (s:=s) hk)
 have CA:=hid (fun (W:World) (h:Ext w W)=>Change_any W tv bv cv s x.N x.Cap (hl.mono h) (hb.mono h) (hc.mono h) hN)
 obtain ⟨wb,hwb,HX,HZZ,hszb⟩:=do_boxes w s x tv bv pv cv
 have HX0:=hid HX
 have HZ0:=hid HZZ
 have HWB:=hid hwb
 have HSB:=hid hszb
 clear HX HZZ hwb hszb
 have q1:=eqF (show x.Kind≠1 by omega)
 have q2:=eqF (show x.Kind≠2 by omega)
 have q3:=eqF (show x.Kind≠3 by omega)
 have q4:=eqT hk
 obtain ⟨qa,qc,rfl,_,_,_⟩:=hl.form
 obtain ⟨ba,bc,rfl,_,_,_⟩:=hb.form
 obtain ⟨pa,pc,rfl,_,_,_⟩:=hp.form
 obtain ⟨ra,rc,rfl,_,_,_⟩:=hc.form
 clear hl hb hp hc hk
 generalize changeR s x.N x.Cap=cr at *
 obtain ⟨S,m,d,er⟩:=cr
 generalize s.Tree.length=sn at *
 generalize s.Books.length=sz at *
 generalize x.Req.Pieces.length=pn at *
 generalize x.Cap.length=rn at *
 go_enter Tryz.func13,Tryz.ntmps13
 go_wp2_with fail
 rw [HWB.out]
 refine (CA.out _ HX0.out).mono ?_
 rintro e w2 ⟨u,v,mv,dv,rfl,hS,hm,hd,hx2⟩
 obtain ⟨ua,uc,va,vc,rfl,rfl⟩:=hS.forms
 obtain ⟨ma,mc,rfl,_,_,_⟩:=hm.form
 obtain ⟨da,dc,rfl,_,_,_⟩:=hd.form
 clear hm hd
 have HS3:=hid (hS.later ((Ext.rf w2).al (.cells #[.int .i64 S.Clock,.int .i64 S.Next,.slice ua S.Tree.length uc,.slice va S.Books.length vc] 25)))
 have HX3:=hid (hx2.tr ((Ext.rf w2).al (.cells #[.int .i64 S.Clock,.int .i64 S.Next,.slice ua S.Tree.length uc,.slice va S.Books.length vc] 25)))
 clear hS hx2
 have HZ:=hid (HZ0.out _ HX3.out)
 have HEND:=hid (HS3.out.put (r:=w.heap.size+2) (B2:=w.heap.size) (by rw [HSB.out];omega) HX0.out.size #[.int .i64 S.Clock,.int .i64 S.Next,.slice ua S.Tree.length uc,.slice va S.Books.length vc])
 have HXE:=hid ((HX0.out.tr HX3.out).sr (b:=w.heap.size+2) (by omega) #[.int .i64 S.Clock,.int .i64 S.Next,.slice ua S.Tree.length uc,.slice va S.Books.length vc])
 have HR:=hid (setRow_heap (w2.alloc (.cells #[.int .i64 S.Clock,.int .i64 S.Next,.slice ua S.Tree.length uc,.slice va S.Books.length vc] 25)) (w.heap.size+2) _ #[.int .i64 S.Clock,.int .i64 S.Next,.slice ua S.Tree.length uc,.slice va S.Books.length vc] _ _ HZ.out)
 go_wp2_with (refine wpList_store_row rfl 25 _ _ rfl (w.heap.size+2) #[.int .i64 S.Clock,.int .i64 S.Next,.slice ua S.Tree.length uc,.slice va S.Books.length vc] rfl rfl 25 _ HZ.out Tryz.size25 rfl (by simp [Value.oneCell']) ?_)
 exact bodyPost_ret (results_row_tmp (u:=5) rfl _ _ (w.heap.size+2) 25 #[.int .i64 S.Clock,.int .i64 S.Next,.slice ua S.Tree.length uc,.slice va S.Books.length vc] (0,0) _ rfl HR.out Tryz.underlying25 rfl Tryz.size25) rfl (retState2_of HRR.out HEND.out HXE.out)
theorem Do_no (w:World) (tv bv pv cv:Value) (s:State) (x:Act1) (h1:x.Kind≠1) (h2:x.Kind≠2) (h3:x.Kind≠3) (h4:x.Kind≠4) (hl:QueuesV w tv s.Tree) (hb:BooksV w bv s.Books) (hp:PiecesV w pv x.Req.Pieces) (hc:RunsV w cv x.Cap) :
  Calls Tryz.prog 13 #[.agg #[.int .i64 s.Clock,.int .i64 s.Next,tv,bv],.agg #[.int .i64 x.Kind,.int .i64 x.N,.int .i64 x.Req.Queue,.int .i64 x.Req.From,.int .i64 x.Req.Until,.int .i64 x.Req.Kind,pv,cv]] w (RetState2 w (doR s x)):=by
 have HRR:=hid (doR_no (s:=s) h1 h2 h3 h4)
 obtain ⟨wb,hwb,HX,HZZ,hszb⟩:=do_boxes w s x tv bv pv cv
 have q1:=eqF h1
 have q2:=eqF h2
 have q3:=eqF h3
 have q4:=eqF h4
 obtain ⟨qa,qc,rfl,_,_,_⟩:=hl.form
 obtain ⟨ba,bc,rfl,_,_,_⟩:=hb.form
 obtain ⟨pa,pc,rfl,_,_,_⟩:=hp.form
 obtain ⟨ra,rc,rfl,_,_,_⟩:=hc.form
 clear hl hb hp hc h1 h2 h3 h4
 generalize s.Tree.length=sn at *
 generalize s.Books.length=sz at *
 generalize x.Req.Pieces.length=pn at *
 generalize x.Cap.length=rn at *
 have HZ:=hid (HZZ wb (Ext.rf _))
 have HXE:=hid (HX.sr (b:=w.heap.size+2) (by omega) #[.int .i64 0,.int .i64 0,.slice none 0 0,.slice none 0 0])
 have HR:=hid (setRow_heap wb (w.heap.size+2) _ #[.int .i64 0,.int .i64 0,.slice none 0 0,.slice none 0 0] _ _ HZ.out)
 clear HX HZZ hszb
 subst hwb
 go_enter Tryz.func13,Tryz.ntmps13
 go_wp2_with (refine wpList_store_row rfl 25 _ _ rfl (w.heap.size+2) #[.int .i64 0,.int .i64 0,.slice none 0 0,.slice none 0 0] rfl rfl 25 _ HZ.out Tryz.size25 rfl (by simp [Value.oneCell']) ?_)
 exact bodyPost_ret (results_row_tmp (u:=5) rfl _ _ (w.heap.size+2) 25 #[.int .i64 0,.int .i64 0,.slice none 0 0,.slice none 0 0] (0,0) _ rfl HR.out Tryz.underlying25 rfl Tryz.size25) rfl (retState2_none HRR.out HXE.out)
theorem Do_any (w:World) (tv bv pv cv:Value) (s:State) (x:Act1) (hl:QueuesV w tv s.Tree) (hb:BooksV w bv s.Books) (hp:PiecesV w pv x.Req.Pieces) (hc:RunsV w cv x.Cap) (hI:I64 x.Req.Queue∧I64 x.Req.From∧I64 x.Req.Until∧I64 x.Req.Kind) (hN:I64 x.N) :
  Calls Tryz.prog 13 #[.agg #[.int .i64 s.Clock,.int .i64 s.Next,tv,bv],.agg #[.int .i64 x.Kind,.int .i64 x.N,.int .i64 x.Req.Queue,.int .i64 x.Req.From,.int .i64 x.Req.Until,.int .i64 x.Req.Kind,pv,cv]] w (RetState2 w (doR s x)):=by
 by_cases h1:x.Kind=1
 ·exact Do_1 w tv bv pv cv s x h1 hl hb hp hc hI hN
 by_cases h2:x.Kind=2
 ·exact Do_2 w tv bv pv cv s x h2 hl hb hp hc hI hN
 by_cases h3:x.Kind=3
 ·exact Do_3 w tv bv pv cv s x h3 hl hb hp hc hI hN
 by_cases h4:x.Kind=4
 ·exact Do_4 w tv bv pv cv s x h4 hl hb hp hc hI hN
 exact Do_no w tv bv pv cv s x h1 h2 h3 h4 hl hb hp hc
end Go.Proofs.YtdcndkojmflhnaaGreat
