/- Tick, TickOf; each theorem names its own conditions. -/
import Derived.Test.YtdcndkojmflhnaaGreatPCan
/- Walks of book.Tick and of the reference's TickOf. -/
set_option linter.unusedVariables false
set_option maxRecDepth 100000
set_option maxHeartbeats 8000000
set_option linter.unusedSimpArgs false
set_option linter.unusedVariables false
namespace Go.Proofs.YtdcndkojmflhnaaGreat
open Go.RowKit
open List renaming getElem_toArray→zA,getElem_cons_zero→zB,getElem_cons_succ→zC,setIfInBounds_toArray→zD,set_cons_zero→zE,set_cons_succ→zF
noncomputable def stayB (t:Int) (b:List Book):List Book:=b.filter fun x=>!lateB t x
noncomputable def laterS (s:State) (t:Int):State:=⟨t,s.Next,s.Tree,stayB t s.Books⟩
@[irreducible] noncomputable def tickR (s:State) (t:Int):State × Int × Int :=
 if stateE s≠0 then (noneS,0,stateE s) else if ¬ (0≤t∧t≤48) then (noneS,0,3) else if t < s.Clock then (noneS,0,9) else (laterS s t,(s.Books.length:Int) - ((stayB t s.Books).length:Int),0)
theorem tickR_bad {s:State} {t:Int} (h:stateE s≠0):tickR s t=(noneS,0,stateE s):=by unfold tickR;rw [if_pos h]
theorem tickR_range {s:State} {t:Int} (h:stateE s=0) (h2:¬ (0≤t∧t≤48)):tickR s t=(noneS,0,3):=by unfold tickR;rw [if_neg (by simp [h]),if_pos h2]
theorem tickR_late {s:State} {t:Int} (h:stateE s=0) (h2:0≤t∧t≤48) (h3:t < s.Clock):tickR s t=(noneS,0,9):=by unfold tickR;rw [if_neg (by simp [h]),if_neg (by simp [h2]),if_pos h3]
theorem tickR_ok {s:State} {t:Int} (h:stateE s=0) (h2:0≤t∧t≤48) (h3:¬ t < s.Clock):tickR s t=(laterS s t,(s.Books.length:Int) - ((stayB t s.Books).length:Int),0):=by unfold tickR;rw [if_neg (by simp [h]),if_neg (by simp [h2]),if_neg h3]
theorem Tick1_any (w:World) (pv bv:Value) (x:Book) (t:Int) (B:Nat) (hp:PiecesV w pv x.Req.Pieces) (hb:BitesV w bv x.Bites) (hc:w.cell? ⟨B,0,none⟩=some (.int .i64 t)) :
  Calls Tryz.prog 80 #[.agg #[.int .i64 x.Id,.int .i64 x.Req.Queue,.int .i64 x.Req.From,.int .i64 x.Req.Until,.int .i64 x.Req.Kind,pv,bv],.pointer (some ⟨B,0,none⟩)] w fun e w'=>e=.returned (.bool (lateB t x))∧Ext w w':=by
 have O:=hid (fun (W:World) (h:Ext w W)=>Ended_any W pv bv x t (hp.mono h) (hb.mono h))
 have hBl:=World.block_lt_of_cell? w _ hc
 have hB:B < w.heap.size:=hBl
 clear hBl
 obtain ⟨pa,pc,rfl,_,_,_⟩:=hp.form
 obtain ⟨ba,bc,rfl,_,_,_⟩:=hb.form
 clear hp hb
 generalize lateB t x=lt at *
 generalize x.Req.Pieces.length=pn at *
 generalize x.Bites.length=bn at *
 go_enter Tryz.func80,Tryz.ntmps80
 go_wp2_with fail
 refine (O.out _ ((Ext.rf w).al _)).mono ?_
 rintro e w1 ⟨rfl,hx⟩
 go_wp2_with fail
 go_ret
 exact ⟨rfl,((Ext.rf w).al _).tr hx⟩
theorem tick_boxes (w:World) (s:State) (t:Int) (tv bv:Value):∃ w1:World,((w.alloc (.cells #[.int .i64 s.Clock,.int .i64 s.Next,tv,bv] 25)).alloc (.cells #[.int .i64 t] 3)).alloc (.cells #[.int .i64 0,.int .i64 0,.slice none 0 0,.slice none 0 0] 25)=w1∧Ext w w1∧(∀ W,Ext w1 W→(W.cell? ⟨w.heap.size,0,none⟩=some (.int .i64 s.Clock)∧W.cell? ⟨w.heap.size,1,none⟩=some (.int .i64 s.Next)∧W.cell? ⟨w.heap.size,2,none⟩=some tv∧W.cell? ⟨w.heap.size,3,none⟩=some bv)) ∧
  (∀ W,Ext w1 W→W.cell? ⟨w.heap.size+1,0,none⟩=some (.int .i64 t)) ∧
  (∀ W,Ext w1 W→W.heap[w.heap.size+1+1]?=some (.cells #[.int .i64 0,.int .i64 0,.slice none 0 0,.slice none 0 0] 25 (0,0)))∧w1.heap.size=w.heap.size+3:=by
 refine ⟨_,rfl,(((Ext.rf w).al _).al _).al _,fun W h=>stateCells ((((Ext.rf _).al _).al _).tr h),fun W h=>?_,fun W h=>?_,by simp⟩
 ·have e:=heap_alloc_new (w.alloc (.cells #[.int .i64 s.Clock,.int .i64 s.Next,tv,bv] 25)) (.cells #[.int .i64 t] 3)
  simp only [World.size_alloc] at e
  exact cell_of_row W _ 0 _ _ _ ((h.block _ (by simp)).trans ((((Ext.rf _).al _).block _ (by simp)).trans e))
 ·have e:=heap_alloc_new ((w.alloc (.cells #[.int .i64 s.Clock,.int .i64 s.Next,tv,bv] 25)).alloc (.cells #[.int .i64 t] 3)) (.cells #[.int .i64 0,.int .i64 0,.slice none 0 0,.slice none 0 0] 25)
  simp only [World.size_alloc] at e
  exact (h.block _ (by simp)).trans e
theorem Tick_bad (w:World) (tv bv:Value) (s:State) (t:Int) (hl:QueuesV w tv s.Tree) (hb:BooksV w bv s.Books) (h0:stateE s≠0) :
  Calls Tryz.prog 40 #[.agg #[.int .i64 s.Clock,.int .i64 s.Next,tv,bv],.int .i64 t] w (RetState3 w (tickR s t)):=by
 have F:=hid (fun (W:World) (h:Ext w W)=>planCheck_any W tv bv s (hl.mono h) (hb.mono h))
 obtain ⟨wb,hwb,HX,HSS,HTT,HZZ,hszb⟩:=tick_boxes w s t tv bv
 have HX0:=hid HX
 have HS0:=hid HSS
 have HT0:=hid HTT
 have HZ0:=hid HZZ
 have HWB:=hid hwb
 have HSB:=hid hszb
 clear HX HSS HTT HZZ hwb hszb
 have HR:=hid (tickR_bad (t:=t) h0)
 have hne:=neT h0
 obtain ⟨qa,qc,rfl,_,_,_⟩:=hl.form
 obtain ⟨ba,bc,rfl,_,_,_⟩:=hb.form
 clear hl hb
 clear h0
 generalize stateE s=se at *
 generalize s.Tree.length=n at *
 generalize s.Books.length=z at *
 go_enter Tryz.func40,Tryz.ntmps40
 go_wp2_with fail
 rw [HWB.out]
 refine (F.out _ HX0.out).mono ?_
 rintro e w2 ⟨rfl,hx2⟩
 have HB:=hid (HZ0.out w2 (hx2))
 have HX2:=hid ((HX0.out.tr (hx2)).sr (b:=w.heap.size+1+1) (by omega) #[.int .i64 0,.int .i64 0,.slice none 0 0,.slice none 0 0])
 have HB2:=hid (setRow_heap w2 (w.heap.size+1+1) _ #[.int .i64 0,.int .i64 0,.slice none 0 0,.slice none 0 0] _ _ HB.out)
 go_wp2_with (refine wpList_store_row rfl 25 _ _ rfl (w.heap.size+1+1) #[.int .i64 0,.int .i64 0,.slice none 0 0,.slice none 0 0] rfl rfl 25 _ HB.out Tryz.size25 rfl (by simp [Value.oneCell']) ?_)
 exact bodyPost_ret (results_row_two (u1:=5) (u2:=6) rfl _ _ (w.heap.size+1+1) 25 #[.int .i64 0,.int .i64 0,.slice none 0 0,.slice none 0 0] (0,0) _ rfl HB2.out Tryz.underlying25 rfl Tryz.size25) rfl (retState3_none HR.out HX2.out)
theorem Tick_range (w:World) (tv bv:Value) (s:State) (t:Int) (hl:QueuesV w tv s.Tree) (hb:BooksV w bv s.Books) (h0:stateE s=0) (h1:¬ (0≤t∧t≤48)) :
  Calls Tryz.prog 40 #[.agg #[.int .i64 s.Clock,.int .i64 s.Next,tv,bv],.int .i64 t] w (RetState3 w (tickR s t)):=by
 have F:=hid (fun (W:World) (h:Ext w W)=>planCheck_any W tv bv s (hl.mono h) (hb.mono h))
 obtain ⟨wb,hwb,HX,HSS,HTT,HZZ,hszb⟩:=tick_boxes w s t tv bv
 have HX0:=hid HX
 have HS0:=hid HSS
 have HT0:=hid HTT
 have HZ0:=hid HZZ
 have HWB:=hid hwb
 have HSB:=hid hszb
 clear HX HSS HTT HZZ hwb hszb
 have HR:=hid (tickR_range h0 h1)
 rw [h0] at F
 obtain ⟨qa,qc,rfl,_,_,_⟩:=hl.form
 obtain ⟨ba,bc,rfl,_,_,_⟩:=hb.form
 clear hl hb
 clear h0
 generalize s.Tree.length=n at *
 generalize s.Books.length=z at *
 go_enter Tryz.func40,Tryz.ntmps40
 go_wp2_with fail
 rw [HWB.out]
 refine (F.out _ HX0.out).mono ?_
 rintro e w2 ⟨rfl,hx2⟩
 obtain ⟨a0,a1,a2,a3⟩:=HS0.out w2 hx2
 have ct:=HT0.out w2 hx2
 by_cases hlo:t < 0
 ·have t1:=deT hlo
  have HB:=hid (HZ0.out w2 (hx2))
  have HX2:=hid ((HX0.out.tr (hx2)).sr (b:=w.heap.size+1+1) (by omega) #[.int .i64 0,.int .i64 0,.slice none 0 0,.slice none 0 0])
  have HB2:=hid (setRow_heap w2 (w.heap.size+1+1) _ #[.int .i64 0,.int .i64 0,.slice none 0 0,.slice none 0 0] _ _ HB.out)
  go_wp2_with (refine wpList_store_row rfl 25 _ _ rfl (w.heap.size+1+1) #[.int .i64 0,.int .i64 0,.slice none 0 0,.slice none 0 0] rfl rfl 25 _ HB.out Tryz.size25 rfl (by simp [Value.oneCell']) ?_)
  exact bodyPost_ret (results_row_two (u1:=5) (u2:=6) rfl _ _ (w.heap.size+1+1) 25 #[.int .i64 0,.int .i64 0,.slice none 0 0,.slice none 0 0] (0,0) _ rfl HB2.out Tryz.underlying25 rfl Tryz.size25) rfl (retState3_none HR.out HX2.out)
 ·have hhi:48 < t:=by omega
  have t1:=deF hlo
  have t2:=deT hhi
  have HB:=hid (HZ0.out w2 (hx2))
  have HX2:=hid ((HX0.out.tr (hx2)).sr (b:=w.heap.size+1+1) (by omega) #[.int .i64 0,.int .i64 0,.slice none 0 0,.slice none 0 0])
  have HB2:=hid (setRow_heap w2 (w.heap.size+1+1) _ #[.int .i64 0,.int .i64 0,.slice none 0 0,.slice none 0 0] _ _ HB.out)
  go_wp2_with (refine wpList_store_row rfl 25 _ _ rfl (w.heap.size+1+1) #[.int .i64 0,.int .i64 0,.slice none 0 0,.slice none 0 0] rfl rfl 25 _ HB.out Tryz.size25 rfl (by simp [Value.oneCell']) ?_)
  exact bodyPost_ret (results_row_two (u1:=5) (u2:=6) rfl _ _ (w.heap.size+1+1) 25 #[.int .i64 0,.int .i64 0,.slice none 0 0,.slice none 0 0] (0,0) _ rfl HB2.out Tryz.underlying25 rfl Tryz.size25) rfl (retState3_none HR.out HX2.out)
theorem Tick_late (w:World) (tv bv:Value) (s:State) (t:Int) (hl:QueuesV w tv s.Tree) (hb:BooksV w bv s.Books) (h0:stateE s=0) (h1:0≤t∧t≤48) (h2:t < s.Clock) :
  Calls Tryz.prog 40 #[.agg #[.int .i64 s.Clock,.int .i64 s.Next,tv,bv],.int .i64 t] w (RetState3 w (tickR s t)):=by
 have F:=hid (fun (W:World) (h:Ext w W)=>planCheck_any W tv bv s (hl.mono h) (hb.mono h))
 obtain ⟨wb,hwb,HX,HSS,HTT,HZZ,hszb⟩:=tick_boxes w s t tv bv
 have HX0:=hid HX
 have HS0:=hid HSS
 have HT0:=hid HTT
 have HZ0:=hid HZZ
 have HWB:=hid hwb
 have HSB:=hid hszb
 clear HX HSS HTT HZZ hwb hszb
 have HR:=hid (tickR_late h0 h1 h2)
 rw [h0] at F
 obtain ⟨qa,qc,rfl,_,_,_⟩:=hl.form
 obtain ⟨ba,bc,rfl,_,_,_⟩:=hb.form
 clear hl hb
 clear h0
 obtain ⟨g1,g2⟩:=h1
 generalize s.Tree.length=n at *
 generalize s.Books.length=z at *
 go_enter Tryz.func40,Tryz.ntmps40
 go_wp2_with fail
 rw [HWB.out]
 refine (F.out _ HX0.out).mono ?_
 rintro e w2 ⟨rfl,hx2⟩
 obtain ⟨a0,a1,a2,a3⟩:=HS0.out w2 hx2
 have ct:=HT0.out w2 hx2
 have t1:=deF (show ¬ t < 0 by omega)
 have t2:=deF (show ¬ 48 < t by omega)
 have t3:=deT h2
 have HB:=hid (HZ0.out w2 (hx2))
 have HX2:=hid ((HX0.out.tr (hx2)).sr (b:=w.heap.size+1+1) (by omega) #[.int .i64 0,.int .i64 0,.slice none 0 0,.slice none 0 0])
 have HB2:=hid (setRow_heap w2 (w.heap.size+1+1) _ #[.int .i64 0,.int .i64 0,.slice none 0 0,.slice none 0 0] _ _ HB.out)
 go_wp2_with (refine wpList_store_row rfl 25 _ _ rfl (w.heap.size+1+1) #[.int .i64 0,.int .i64 0,.slice none 0 0,.slice none 0 0] rfl rfl 25 _ HB.out Tryz.size25 rfl (by simp [Value.oneCell']) ?_)
 exact bodyPost_ret (results_row_two (u1:=5) (u2:=6) rfl _ _ (w.heap.size+1+1) 25 #[.int .i64 0,.int .i64 0,.slice none 0 0,.slice none 0 0] (0,0) _ rfl HB2.out Tryz.underlying25 rfl Tryz.size25) rfl (retState3_none HR.out HX2.out)
theorem Tick_rest (w:World) (tv bv:Value) (s:State) (t:Int) (hl:QueuesV w tv s.Tree) (hb:BooksV w bv s.Books) (h0:stateE s=0) (h1:0≤t∧t≤48) (h2:¬ t < s.Clock) :
  Calls Tryz.prog 40 #[.agg #[.int .i64 s.Clock,.int .i64 s.Next,tv,bv],.int .i64 t] w (RetState3 w (tickR s t)):=by
 have F:=hid (fun (W:World) (h:Ext w W)=>planCheck_any W tv bv s (hl.mono h) (hb.mono h))
 obtain ⟨wb,hwb,HX,HSS,HTT,HZZ,hszb⟩:=tick_boxes w s t tv bv
 have HX0:=hid HX
 have HS0:=hid HSS
 have HT0:=hid HTT
 have HZ0:=hid HZZ
 have HWB:=hid hwb
 have HSB:=hid hszb
 clear HX HSS HTT HZZ hwb hszb
 have HR:=hid (tickR_ok h0 h1 h2)
 rw [h0] at F
 obtain ⟨ok,h12,hbok⟩:=right_of h0
 have OW:=hid (fun (W:World) (h:Ext w W)=>Own_S W tv bv s (hl.mono h) (hb.mono h) ok h12 hbok)
 obtain ⟨qa,qc,rfl,_,_,_⟩:=hl.form
 obtain ⟨ba,bc,rfl,_,_,_⟩:=hb.form
 clear hl hb
 clear h0 ok hbok
 obtain ⟨g1,g2⟩:=h1
 generalize hqn:s.Tree.length=n at *
 generalize hbz:s.Books.length=z at *
 have HQN:=hid hqn
 have HBZ:=hid hbz
 clear hqn hbz
 go_enter Tryz.func40,Tryz.ntmps40
 go_wp2_with fail
 rw [HWB.out]
 refine (F.out _ HX0.out).mono ?_
 rintro e w2 ⟨rfl,hx2⟩
 obtain ⟨a0,a1,a2,a3⟩:=HS0.out w2 hx2
 have ct:=HT0.out w2 hx2
 have t1:=deF (show ¬ t < 0 by omega)
 have t2:=deF (show ¬ 48 < t by omega)
 have t3:=deF (show ¬ t < s.Clock by omega)
 have HX2:=hid (HX0.out.tr hx2)
 have HXB2:=hid hx2
 clear hx2
 go_wp2_with fail
 refine (OW.out _ HX2.out).mono ?_
 rintro e w7 ⟨u7,v7,rfl,hO7,hx7⟩
 clear a0 a1 a2 a3 ct
 obtain ⟨gq,qcp,rfl,hgB,hgs⟩:=hO7.uform
 obtain ⟨ra,rc,rfl,hrw⟩:=hO7.vform
 rw [HBZ.out] at hO7 hrw ⊢
 rw [HQN.out] at hO7 ⊢
 have HX7:=hid (HX2.out.tr hx7)
 have HXB7:=hid (HXB2.out.tr hx7)
 have HSZ:=hid (And.intro HXB2.out.size hx7.size)
 have HROW:=hid hrw
 obtain ⟨W8,hW8⟩:∃ W8,(w7.alloc (.cells #[.int .i64 0,.int .i64 0,.slice none 0 0,.slice none 0 0] 25)).setRow w7.heap.size #[.int .i64 s.Clock,.int .i64 s.Next,.slice (some ⟨gq,0,none⟩) n qcp,.slice ra z rc]=W8:=⟨_,rfl⟩
 have hx8:Ext w7 W8:=hW8▸((Ext.rf w7).al _).sr (b:=w7.heap.size) (Nat.le_refl _) _
 have hb8:W8.heap[w7.heap.size]?=some (.cells #[.int .i64 s.Clock,.int .i64 s.Next,.slice (some ⟨gq,0,none⟩) n qcp,.slice ra z rc] 25 (0,0)):=hW8▸setRow_heap (w7.alloc _) w7.heap.size _ _ _ _ (heap_alloc_new w7 _)
 have hO8:=(((hO7.under (r:=w.heap.size+1+1) (by have:=HXB2.out.size;have:=HSB.out;omega)).low (B2:=w.heap.size) HX2.out.size (fun r hr=>hr)).box (Nat.le_refl _)).ext hx8
 obtain ⟨W9,hW9⟩:∃ W9,W8.setCell ⟨w7.heap.size,0,none⟩ (.int .i64 t)=W9:=⟨_,rfl⟩
 have hO9:=hW9▸hO8.kept (grown_set W8 w7.heap.size 0 (.int .i64 t)) (List.mem_cons_self ..)
 have hb9:W9.heap[w7.heap.size]?=some (.cells #[.int .i64 t,.int .i64 s.Next,.slice (some ⟨gq,0,none⟩) n qcp,.slice ra z rc] 25 (0,0)):=hW9▸heap_setCell_same W8 w7.heap.size 0 _ _ _ hb8
 have HXB8:=hid (HXB7.out.tr hx8)
 have hxb9:Ext wb W9:=hW9▸HXB8.out.se (b:=w7.heap.size) (o:=0) HXB7.out.size _
 have DE:=hid (DeleteFunc_any [w7.heap.size,w.heap.size+1+1] w.heap.size W9 _ _ _ s.Books 80 #[.pointer (some ⟨w.heap.size+1,0,none⟩)] (lateB t) hO9 (enters_of Tryz.func80 (by kernel_rfl) rfl) (fun k x hk W pv bv hg hp hb=>Tick1_any W pv bv x t (w.heap.size+1) hp hb (grown_cell hg (HT0.out W9 hxb9) (fun r hr=>by have:=HROW.out r hr;have:=HSZ.out;have:=HSB.out;omega))))
 have HW8:=hid hW8
 have HW9:=hid hW9
 have HX8:=hid (HX7.out.tr hx8)
 have HXB9:=hid hxb9
 have HX9:=hid (HX0.out.tr hxb9)
 have HB8:=hid hb8
 have HB9:=hid hb9
 have HS9:=hid (show w7.heap.size < W9.heap.size from (Array.getElem?_eq_some_iff.1 hb9).1)
 have f8:=frozen_of_row W8 w7.heap.size 0 _ _ hb8
 have e8:W8.cell? ⟨w7.heap.size,0,none⟩=some (.int .i64 s.Clock):=cell_of_row _ _ 0 _ _ _ hb8
 have e3:W8.cell? ⟨w7.heap.size,3,none⟩=some (.slice ra z rc):=cell_of_row _ _ 3 _ _ _ hb8
 have ct:=HT0.out W8 HXB8.out
 clear hx7 hx8 hb8 hW8 hO7 hO8 hO9 hb9 hxb9 hW9 hgB hgs hrw
 go_wp2_with (refine wpList_store_row rfl 25 _ _ rfl w7.heap.size #[.int .i64 s.Clock,.int .i64 s.Next,.slice (some ⟨gq,0,none⟩) n qcp,.slice ra z rc] rfl rfl 25 _ (heap_alloc_new w7 _) Tryz.size25 rfl (by simp [Value.oneCell']) ?_;rw [HW8.out])
 rw [HW9.out]
 refine DE.out.mono ?_
 rintro e W10 ⟨v',rfl,hO10,hg10,hvb⟩
 obtain ⟨ra2,rc2,rfl,hrw2⟩:=hO10.vform
 obtain ⟨m,hm⟩:∃ m,(s.Books.filter fun x=>!lateB t x).length=m:=⟨_,rfl⟩
 rw [hm] at hO10 hvb hrw2 ⊢
 have hmz:m≤z:=by rw [← hm,← HBZ.out];exact List.length_filter_le _ _
 have hsz:=HSZ.out
 have hsb:=HSB.out
 have hs9:=HS9.out
 have hrow:=HROW.out
 have hb10:W10.heap[w7.heap.size]?=some (.cells #[.int .i64 t,.int .i64 s.Next,.slice (some ⟨gq,0,none⟩) n qcp,.slice ra z rc] 25 (0,0)):=(hg10.block _ HS9.out (fun e=>by have:=hrow _ e.symm;omega)).trans HB9.out
 have f3:=frozen_of_row W10 w7.heap.size 3 _ _ hb10
 have k3:W10.cell? ⟨w7.heap.size,3,none⟩=some (.slice ra z rc):=cell_of_row _ _ 3 _ _ _ hb10
 obtain ⟨W11,hW11⟩:∃ W11,W10.setCell ⟨w7.heap.size,3,none⟩ (.slice ra2 m rc2)=W11:=⟨_,rfl⟩
 have hb11:W11.heap[w7.heap.size]?=some (.cells #[.int .i64 t,.int .i64 s.Next,.slice (some ⟨gq,0,none⟩) n qcp,.slice ra2 m rc2] 25 (0,0)):=hW11▸heap_setCell_same W10 w7.heap.size 3 _ _ _ hb10
 have HO11:=hid (hW11▸hO10.kept (grown_set W10 w7.heap.size 3 (.slice ra2 m rc2)) (List.mem_cons_self ..))
 have HX11:=hid (show Ext w W11 from hW11▸(HX9.out.gr hg10 (fun k hk=>by have:=hrow k hk;have:=HX2.out.size;omega)).se (b:=w7.heap.size) (o:=3) HX7.out.size _)
 have hold:∀ b,b≤w.heap.size+1+1→W11.heap[b]?=wb.heap[b]?:=fun b hb=>by
  rw [← hW11,heap_setCell_other W10 ⟨w7.heap.size,3,none⟩ b _ (by show b≠w7.heap.size;omega),hg10.block b (by have:=HXB9.out.size;omega) (fun e=>by have:=hrow b e.symm;omega),HXB9.out.block b (by omega)]
 have hzz:=(hold (w.heap.size+1+1) (Nat.le_refl _)).trans (HZ0.out wb (Ext.rf wb))
 have a3:W11.cell? ⟨w.heap.size,3,none⟩=some (.slice ba z bc):=by
  obtain ⟨_,_,_,h1⟩:=HS0.out wb (Ext.rf wb)
  rw [← h1]
  exact World.cell?_of_block (a:=⟨w.heap.size,3,none⟩) (hold w.heap.size (by omega))
 have d0:W11.cell? ⟨w7.heap.size,0,none⟩=some (.int .i64 t):=cell_of_row _ _ 0 _ _ _ hb11
 have d1:W11.cell? ⟨w7.heap.size,1,none⟩=some (.int .i64 s.Next):=cell_of_row _ _ 1 _ _ _ hb11
 have d2:W11.cell? ⟨w7.heap.size,2,none⟩=some (.slice (some ⟨gq,0,none⟩) n qcp):=cell_of_row _ _ 2 _ _ _ hb11
 have d3:W11.cell? ⟨w7.heap.size,3,none⟩=some (.slice ra2 m rc2):=cell_of_row _ _ 3 _ _ _ hb11
 have z0:W11.cell? ⟨w.heap.size+1+1,0,none⟩=some (.int .i64 0):=cell_of_row _ _ 0 _ _ _ hzz
 have z1:W11.cell? ⟨w.heap.size+1+1,1,none⟩=some (.int .i64 0):=cell_of_row _ _ 1 _ _ _ hzz
 have z2:W11.cell? ⟨w.heap.size+1+1,2,none⟩=some (.slice none 0 0):=cell_of_row _ _ 2 _ _ _ hzz
 have z3:W11.cell? ⟨w.heap.size+1+1,3,none⟩=some (.slice none 0 0):=cell_of_row _ _ 3 _ _ _ hzz
 have y0:=frozen_of_row W11 (w.heap.size+1+1) 0 _ _ hzz
 have y1:=frozen_of_row W11 (w.heap.size+1+1) 1 _ _ hzz
 have y2:=frozen_of_row W11 (w.heap.size+1+1) 2 _ _ hzz
 have y3:=frozen_of_row W11 (w.heap.size+1+1) 3 _ _ hzz
 have n1:w.heap.size+1+1≠w7.heap.size:=by omega
 have n2:w.heap.size+1+1≠w.heap.size:=by omega
 have hwr:IntKind.i64.wrap ((z:Int) - (m:Int))=(z:Int) - (m:Int):=by rw [IntKind.wrap_i64];omega
 have HW11:=hid hW11
 have HZ11:=hid hzz
 have HM:=hid hm
 clear hW11 hb11 hzz hold hb10 hO10 hg10 hvb hrw2 hm hrow hsb
 go_wp2_with fail
 rw [HW11.out]
 clear k3 f3
 go_region_held3 (fun w'=>(w'.cell? ⟨w7.heap.size,0,none⟩=some (.int .i64 t)∧w'.cell? ⟨w7.heap.size,1,none⟩=some (.int .i64 s.Next)∧w'.cell? ⟨w7.heap.size,2,none⟩=some (.slice (some ⟨gq,0,none⟩) n qcp)∧w'.cell? ⟨w7.heap.size,3,none⟩=some (.slice ra2 m rc2)∧w'.cell? ⟨w.heap.size,3,none⟩=some (.slice ba z bc)))
  (go_keep) (fail)
 have hO13:=HO11.out.kept (grown_set4 W11 (w.heap.size+1+1) (.int .i64 t) (.int .i64 s.Next) (.slice (some ⟨gq,0,none⟩) n qcp) (.slice ra2 m rc2)) (List.mem_cons_of_mem _ (List.mem_cons_self ..))
 have hX13:=(((HX11.out.se (b:=w.heap.size+1+1) (o:=0) (by omega) (.int .i64 t)).se (b:=w.heap.size+1+1) (o:=1) (by omega) (.int .i64 s.Next)).se (b:=w.heap.size+1+1) (o:=2) (by omega) (.slice (some ⟨gq,0,none⟩) n qcp)).se (b:=w.heap.size+1+1) (o:=3) (by omega) (.slice ra2 m rc2)
 have HO13:=hid (hO13.ext (Ext.rf _).dr)
 have HX13:=hid hX13.dr
 have HB13:=hid (row4_set (a0:=.int .i64 t) (a1:=.int .i64 s.Next) (a2:=.slice (some ⟨gq,0,none⟩) n qcp) (a3:=(.slice ra2 m rc2)) HZ11.out)
 have HR2:=hid (show tickR s t=(laterS s t,(z:Int) - (m:Int),0) from by rw [HR.out];unfold stayB;rw [HM.out])
 clear hO13 hX13
 go_wp2_with fail
 exact bodyPost_ret (results_row_two (u1:=5) (u2:=6) rfl _ _ (w.heap.size+1+1) 25 #[.int .i64 t,.int .i64 s.Next,.slice (some ⟨gq,0,none⟩) n qcp,.slice ra2 m rc2] (0,0) _ rfl HB13.out Tryz.underlying25 rfl Tryz.size25) rfl (retState3_of (s:=laterS s t) HR2.out (.inl (HO13.out.low (Nat.le_refl _) (fun r hr=>by cases hr))) HX13.out)
theorem Tick_any (w:World) (tv bv:Value) (s:State) (t:Int) (hl:QueuesV w tv s.Tree) (hb:BooksV w bv s.Books) :
  Calls Tryz.prog 40 #[.agg #[.int .i64 s.Clock,.int .i64 s.Next,tv,bv],.int .i64 t] w (RetState3 w (tickR s t)):=by
 by_cases h0:stateE s=0
 ·by_cases h1:0≤t∧t≤48
  ·by_cases h2:t < s.Clock
   ·exact Tick_late w tv bv s t hl hb h0 h1 h2
   ·exact Tick_rest w tv bv s t hl hb h0 h1 h2
  ·exact Tick_range w tv bv s t hl hb h0 h1
 ·exact Tick_bad w tv bv s t hl hb h0
end Go.Proofs.YtdcndkojmflhnaaGreat
