/- room; plots; each theorem names its own conditions. -/
import Derived.Test.YtdcndkojmflhnaaGreatPLoadD
import Derived.Test.YtdcndkojmflhnaaGreatPReqL
import Derived.Test.YtdcndkojmflhnaaGreatPSeekS
import Derived.Test.YtdcndkojmflhnaaGreatPRunsY
import Derived.Test.YtdcndkojmflhnaaGreatPLoadB
import Derived.WalkSpells
import Derived.StillTactics
import Derived.Tactics2
/- Walks of room.In and room.Of. -/
/- Walk of room.In: what is free in a queue, and in all above it. -/
set_option linter.unusedVariables false
set_option linter.unusedSimpArgs false
set_option maxRecDepth 100000
set_option maxHeartbeats 8000000
set_option linter.unusedSimpArgs false
set_option linter.unusedVariables false
namespace Go.Proofs.YtdcndkojmflhnaaGreat
open Go.RowKit
open List renaming getElem_toArray→zA,getElem_cons_zero→zB,getElem_cons_succ→zC,setIfInBounds_toArray→zD,set_cons_zero→zE,set_cons_succ→zF
attribute [local go_sem] Oper.semAt_some
def minTo (g:Nat→Int):List Nat→Int
 | []=>0
 | k::ks=>ks.foldl (fun a k=>min a (g k)) (g k)
theorem minTo_snoc (g:Nat→Int) {ks:List Nat} (k:Nat) (h:ks≠[]):minTo g (ks++[k])=min (minTo g ks) (g k):=by
 cases ks with
 | nil=>exact absurd rfl h
 | cons j ks=>simp [minTo,List.foldl_append]
theorem minTo_num {g:Nat→Int} {a b:Int}:∀ (ks:List Nat),(∀ k∈ks,a≤g k∧g k≤b)→ks≠[]→a≤minTo g ks∧minTo g ks≤b
 | [],_,h=>absurd rfl h
 | k::ks,hg,_=>by
  have key:∀ (ks:List Nat) (c:Int),(∀ k∈ks,a≤g k∧g k≤b)→a≤c∧c≤b→a≤ks.foldl (fun a k=>min a (g k)) c∧ks.foldl (fun a k=>min a (g k)) c≤b:=by
   intro ks
   induction ks with
   | nil=>intro c _ h;exact h
   | cons j ks ih =>
    intro c hk h
    refine ih _ (fun i hi=>hk i (List.mem_cons_of_mem _ hi)) ?_
    have:=hk j (List.mem_cons_self ..)
    show a≤min c (g j)∧min c (g j)≤b
    omega
  exact key ks _ (fun i hi=>hg i (List.mem_cons_of_mem _ hi)) (hg k (List.mem_cons_self ..))
def minF (G:Nat→Nat→Int) (ks:List Nat):Nat→Int:=fun t=>minTo (fun k=>G k t) ks
def leftT (l:List Queue) (b:List Book) (k:Nat):Nat→Int:=fun t=>sp (cp l k) t - takenT l b k t
def roomT (l:List Queue) (b:List Book) (q:Int):Nat→Int:=minF (leftT l b) (lineL l q)
theorem cap_num {l:List Queue} (h:TreeOk l) {k:Nat} (hk:k < l.length) (t:Nat):0≤sp (cp l k) t∧sp (cp l k) t≤50:=by
 have hc:=h.caps k hk
 obtain ⟨r,hr,e⟩:=sp_mem (cp l k) t (fun e=>by have:=hc.1.1;rw [e] at this;exact this)
 rw [e]
 exact hc.2 r hr
theorem left_num {l:List Queue} {b:List Book} (h:TreeOk l) (hb:∀ x∈b,BookOk l x) (h12:b.length≤12) (k t:Nat) (hk:k < l.length):-1800≤leftT l b k t∧leftT l b k t≤50:=by
 have h1:=cap_num h hk t
 have h2:=takenT_num (l:=l) k t b hb
 unfold leftT
 omega
theorem room1 (a b:Int) (w:World) (ha:-1000000000≤a) (ha':a≤1000000000) (hb:-1000000000≤b) (hb':b≤1000000000):Calls Tryz.prog 130 #[.int .i64 a,.int .i64 b] w fun e w'=>e=.returned (.int .i64 (a - b))∧w'=w:=by
 go_enter Tryz.func130,Tryz.ntmps130
 go_wp2
 go_ret
 exact ⟨rfl,rfl⟩
theorem room2 (a b:Int) (w:World):Calls Tryz.prog 131 #[.int .i64 a,.int .i64 b] w fun e w'=>e=.returned (.int .i64 (min a b))∧w'=w:=by
 by_cases h:b < a
 ·rw [show min a b=b by omega]
  go_enter Tryz.func131,Tryz.ntmps131
  go_wp2
  go_ret
  exact ⟨rfl,rfl⟩
 ·rw [show min a b=a by omega]
  go_enter Tryz.func131,Tryz.ntmps131
  go_wp2
  go_ret
  exact ⟨rfl,rfl⟩
theorem zip_left (G:Nat) (heg:∀ (args:Array Value) (w:World),(callFunc G args).run Tryz.prog w=.ok (.enter G args) w)
  (hof:∀ (a b:Int) (w:World),-1000000000≤a→a≤1000000000→-1000000000≤b→b≤1000000000→Calls Tryz.prog G #[.int .i64 a,.int .i64 b] w fun e w'=>e=.returned (.int .i64 (a - b))∧w'=w)
  (w:World) (vf vg:Value) (l:List Queue) (b:List Book) (k:Nat) (hk:k < l.length) (ok:TreeOk l) (hb:∀ x∈b,BookOk l x) (h12:b.length≤12) (hf:RunsV w vf (cp l k)) (hg:RunsV w vg (fold (takenT l b k))) :
  Calls Tryz.prog 122 #[vf,vg,.func (.func G) #[] #[]] w (RetRunsF w (fold (leftT l b k))):=by
 have hc:=ok.caps k hk
 have h:=Zip_anyF w vf vg _ _ hf hg hc.1.1 (shape_fold _) G (fun a b=>a - b) heg (fun a ha c hcm=>by
  have h1:=hc.2 a ha
  unfold CapNum at h1
  have h2:=fold_all (p:=fun m=>0≤m∧m≤1800) (fun t _=>by have:=takenT_num (l:=l) k t b hb;omega) c hcm
  exact ⟨I64.of (by omega) (by omega),fun V=>hof _ _ V (by omega) (by omega) (by omega) (by omega)⟩)
 rw [fold_congr (y:=leftT l b k) (fun t ht=>by rw [sp_fold ht];rfl)] at h
 exact h
theorem zip_min (w:World) (vf vg:Value) (x y:Nat→Int) (hf:RunsV w vf (fold x)) (hg:RunsV w vg (fold y)) (hx:∀ t,t < 48→-100000000≤x t∧x t≤100000000) (hy:∀ t,t < 48→-100000000≤y t∧y t≤100000000) :
  Calls Tryz.prog 122 #[vf,vg,.func (.func 131) #[] #[]] w (RetRunsF w (fold fun t=>min (x t) (y t))):=by
 have h:=Zip_anyF w vf vg _ _ hf hg (shape_fold x) (shape_fold y) 131 (fun a b=>min a b) (enters_of Tryz.func131 (by kernel_rfl) rfl) (fun a ha b hb=>by
  have h1:=fold_all (p:=fun m=>-100000000≤m∧m≤100000000) hx a ha
  have h2:=fold_all (p:=fun m=>-100000000≤m∧m≤100000000) hy b hb
  exact ⟨I64.of (by omega) (by omega),fun V=>room2 _ _ V⟩)
 rw [fold_congr (y:=fun t=>min (x t) (y t)) (fun t ht=>by rw [sp_fold ht,sp_fold ht])] at h
 exact h
def OutV (bs:List Nat) (W:World) (v:Value) (G:Nat→Nat→Int) (pre:List Nat):Prop :=
 (pre=[]∧v=.slice none 0 0)∨(pre≠[]∧RunsV W v (fold (minF G pre))∧ApartL bs v)
structure RoomIn (w w1:World) (BT BO Bq top:Nat) (tv:Value) (G:Nat→Nat→Int) (pre:List Nat) (W:World):Prop where
 boxt:Boxed W BT 162 tv
 boxo:∃ v,Boxed W BO 29 v∧OutV [BO,Bq] W v G pre
 ext:Ext w1 W
 hi:top≤W.heap.size
structure RoomLie (w1:World) (BT BO Bq top:Nat):Prop where
 t:w1.heap.size≤BT∧BT < top∧BT≠Bq∧BT≠BO
 o:w1.heap.size≤BO∧BO < top∧BO≠Bq
 q:w1.heap.size≤Bq∧Bq < top
section
variable {w w1:World} {BT BO Bq top:Nat} {tv:Value} {G:Nat→Nat→Int} {pre:List Nat} {W W':World}
theorem OutV.grown {bs:List Nat} {v:Value} {row:Option Nat} (h:OutV bs W v G pre) (hg:W.grownBy W' row) (hr:∀ r,row=some r→r∈bs):OutV bs W' v G pre:=by
 rcases h with h | ⟨h1,h2,h3⟩
 ·exact .inl h
 ·exact .inr ⟨h1,runs_grown h2 h3 hg hr,h3⟩
theorem RoomIn.grown {row:Option Nat} (h:RoomIn w w1 BT BO Bq top tv G pre W) (hl:RoomLie w1 BT BO Bq top) (hg:W.grownBy W' row) (hr:∀ r,row=some r→r=Bq):RoomIn w w1 BT BO Bq top tv G pre W':=by
 obtain ⟨v,hv,ho⟩:=h.boxo
 exact ⟨h.boxt.kept hg (fun e=>hl.t.2.2.1 (hr _ e.symm)),⟨v,hv.kept hg (fun e=>hl.o.2.2 (hr _ e.symm)),ho.grown hg (fun r e=>by rw [hr r e];simp)⟩,
  Below.grown h.ext hg h.ext.size (fun k e=>by rw [hr k e];exact hl.q.1),Nat.le_trans h.hi hg.size⟩
theorem RoomIn.ownFrom {β:Type} (hl:RoomLie w1 BT BO Bq top) (G:Nat→Nat→Int) (f:β→List Nat):OwnFrom top (fun s W=>RoomIn w w1 BT BO Bq top tv G (f s) W):=fun s W W' row h hg hr=>by
 obtain ⟨v,hv,ho⟩:=h.boxo
 refine ⟨h.boxt.kept hg (fun e=>by have:=(hr _ e.symm).1;have:=hl.t.2.1;omega),⟨v,hv.kept hg (fun e=>by have:=(hr _ e.symm).1;have:=hl.o.2.1;omega),?_⟩,
  Below.grown h.ext hg h.ext.size (fun k e=>by have:=(hr k e).1;have:=hl.q;omega),Nat.le_trans h.hi hg.size⟩
 rcases ho with ho | ⟨h1,h2,h3⟩
 ·exact .inl ho
 ·exact .inr ⟨h1,runs_own h2 (fold_ne _) hg (fun r e=>(hr r e).2),h3⟩
theorem RoomIn.mono (h:RoomIn w w1 BT BO Bq top tv G pre W) (hx:Ext W W'):RoomIn w w1 BT BO Bq top tv G pre W':=by
 obtain ⟨v,hv,ho⟩:=h.boxo
 refine ⟨(hx.block BT h.boxt.lt).trans h.boxt,⟨v,(hx.block BO hv.lt).trans hv,?_⟩,h.ext.tr hx,Nat.le_trans h.hi hx.size⟩
 rcases ho with ho | ⟨h1,h2,h3⟩
 ·exact .inl ho
 ·exact .inr ⟨h1,h2.mono hx,h3⟩
theorem RoomIn.step (h:RoomIn w w1 BT BO Bq top tv G pre W) (hl:RoomLie w1 BT BO Bq top) {V:World} (hx:Ext W V) {v:Value} {k:Nat} (hv:RunsV V v (fold (minF G (pre++[k])))) (hf:∀ a n c,v=.slice (some a) n c→top≤a.block) :
  RoomIn w w1 BT BO Bq top tv G (pre++[k]) (V.setCell ⟨BO,0,none⟩ v):=by
 have hg:=grown_set V BO 0 v
 have ha:ApartL [BO,Bq] v:=by
  obtain ⟨b,off,cap,rfl,_⟩:=runs_cells hv (fold_ne _)
  have:=hf _ _ _ rfl
  have h1:=hl.o
  have h2:=hl.q
  exact apart_at (fun hm=>by simp at hm;rcases hm with rfl | rfl <;> simp at this <;> omega)
 obtain ⟨u,hu,_⟩:=h.boxo
 have hu1:Boxed V BO 29 u:=(hx.block BO hu.lt).trans hu
 have ht1:Boxed V BT 162 tv:=(hx.block BT h.boxt.lt).trans h.boxt
 exact ⟨ht1.kept hg (fun e=>hl.t.2.2.2 (by have:=Option.some.inj e;exact this)),⟨v,hu1.set v,.inr ⟨by simp,runs_grown hv ha hg (fun r e=>by cases e;simp),ha⟩⟩,
  (h.ext.tr hx).se hl.o.1 _,Nat.le_trans (Nat.le_trans h.hi hx.size) hg.size⟩
end
attribute [local go_sem] Oper.semAt_some
theorem RoomIn_any (w:World) (v bv:Value) (l:List Queue) (b:List Book) (q:Int) (hl:QueuesV w v l) (hb:BooksV w bv b) (ok:TreeOk l) (hok:∀ x∈b,BookOk l x) (hb12:b.length≤12) (hq0:0≤q) (hq1:q < l.length) :
  Calls Tryz.prog 74 #[v,bv,.int .i64 q] w (RetRuns w (fold (roomT l b q))):=by
 have TK:=hid (fun (W:World) (hx:Ext w W)=>Taken_any W v bv l b (hl.mono hx) (hb.mono hx) ok.pars ok.n5 hok hb12 ok.n1)
 obtain ⟨qb,qo,qc,rfl,hqc,hqc9,hqb,hqE⟩:=queues_at hl ok.n1
 obtain ⟨ba,bc,rfl,_,_,_,_⟩:=books_at hb
 have HQE:=hid hqE
 have OK:=hid ok
 have HOK:=hid hok
 have h5:=ok.n5
 have HU:=hid (fun (W:World) (hx:Ext w W)=>upAt_new W qb qo qc l q ok.pars (by omega) hq1 ok.n5 (Nat.lt_of_lt_of_le hqb hx.size) (fun k x hk=>EQueue.mono w W qb _ x hx (hqE k x hk)))
 have HL5:=hid (lineL_five ok.pars hq1 ok.n5)
 have HB12:=hid hb12
 have HLN:=hid (show lineL l q≠[] from by
  obtain ⟨k,rfl⟩:=Int.eq_ofNat_of_zero_le hq0
  rw [lineL_pos ok.pars (by omega)];simp)
 clear hl hb ok hok hqE hb12
 generalize hnn:l.length=n at *
 have Hn:=hid hnn
 clear hnn
 generalize hzz:b.length=z at *
 have Hz:=hid hzz
 clear hzz
 refine (callsIn_wide (n:=3)).1 ?_
 refine callsIn_of_wp_marks Tryz.func74 rfl trivial ?_ rfl
 simp only [Tryz.ntmps74,List.size_toArray,List.length_cons,List.length_nil,Nat.reduceAdd,Nat.reduceSub,Array.replicate_succ,Array.replicate_zero,List.push_toArray,List.append_toArray,List.nil_append,List.cons_append]
 have HA0:=hid ((Ext.rf w).al (.cells #[.slice (some ⟨qb,qo,none⟩) n qc] 22))
 have HBL:=hid (Boxed.new w 22 (.slice (some ⟨qb,qo,none⟩) n qc))
 gi_wp2
 refine ⟨trivial,(callsIn_wide.2 (TK.out _ HA0.out)).mono ?_⟩
 rintro e w1 ⟨tv,rfl,htv,hx1⟩
 have HX01:=hid (HA0.out.tr hx1)
 have HBL1:=hid (show Boxed w1 w.heap.size 22 (.slice (some ⟨qb,qo,none⟩) n qc) from (hx1.block _ HBL.out.lt).trans HBL.out)
 obtain ⟨tb,toff,tc,rfl,htl,htc,_,htb,htE⟩:∃ tb toff tc,tv=.slice (some ⟨tb,toff,none⟩) n tc∧n≤tc∧tc≤9223372036854775807∧n≤17592186044416∧tb < w1.heap.size∧∀ k,k < n→ERuns w1 tb (toff+k) (fold (takenT l b k)):=by
  rcases htv with ⟨e,_⟩ | ⟨tb,toff,tc,rfl,q1,q2,q3,q4,q5⟩
  ·have:=congrArg List.length e;have:=HLN.out;simp at *;omega
  ·rw [List.length_map,List.length_range] at q1 q3
   refine ⟨tb,toff,tc,by simp,q1,q2,q3,q4,fun k hk=>?_⟩
   have:=q5 k (fold (takenT l b k)) (by simp [hk])
   rwa [Nat.mul_one] at this
 have HTE:=hid htE
 clear htv htE hx1
 have HBT:=hid (Boxed.new w1 162 (.slice (some ⟨tb,toff,none⟩) n tc))
 have HBO:=hid (Boxed.new (w1.alloc (.cells #[.slice (some ⟨tb,toff,none⟩) n tc] 162)) 29 (.slice none 0 0))
 have HSZ:=hid (show ((w1.alloc (.cells #[.slice (some ⟨tb,toff,none⟩) n tc] 162)).alloc (.cells #[.slice none 0 0] 29)).heap.size=w1.heap.size+1+1 from by simp only [World.size_alloc])
 have Hx3:=hid (((Ext.rf w1).al (.cells #[.slice (some ⟨tb,toff,none⟩) n tc] 162)).al (.cells #[.slice none 0 0] 29))
 have Hx23:=hid ((Ext.rf (w1.alloc (.cells #[.slice (some ⟨tb,toff,none⟩) n tc] 162))).al (.cells #[.slice none 0 0] 29))
 have hbl3:=(Hx3.out.block _ HBL1.out.lt).trans HBL1.out
 have hcl3:=(show Boxed _ w.heap.size 22 _ from hbl3).cell
 gi_wp2
 generalize hw4:((w1.alloc (.cells #[.slice (some ⟨tb,toff,none⟩) n tc] 162)).alloc (.cells #[.slice none 0 0] 29))=w4 at *
 refine ⟨trivial,(callsIn_wide.2 (Up_any _ _ _ _ _)).mono ?_⟩
 rintro e w5 ⟨rfl,rfl⟩
 have U:=HU.out w4 (HX01.out.tr Hx3.out)
 have hx6:=((Ext.rf w4).al (.cells #[.slice (some ⟨qb,qo,none⟩) n qc] 22)).al (.cells #[.int .i64 q] 3)
 have hs6:((w4.alloc (.cells #[.slice (some ⟨qb,qo,none⟩) n qc] 22)).alloc (.cells #[.int .i64 q] 3)).heap.size=w4.heap.size+1+1:=by simp only [World.size_alloc]
 have hBO4:Boxed w4 (w1.heap.size+1) 29 (.slice none 0 0):=by have:=HBO.out;rwa [World.size_alloc] at this
 have hBT4:Boxed w4 w1.heap.size 162 (.slice (some ⟨tb,toff,none⟩) n tc):=(Hx23.out.block _ HBT.out.lt).trans HBT.out
 have HLE:RoomLie w1 w1.heap.size (w1.heap.size+1) (w4.heap.size+1) ((w4.alloc (.cells #[.slice (some ⟨qb,qo,none⟩) n qc] 22)).alloc (.cells #[.int .i64 q] 3)).heap.size:=by
  have e1:=HSZ.out
  rw [hs6]
  exact ⟨⟨by omega,by omega,by omega,by omega⟩,⟨by omega,by omega,by omega⟩,⟨by omega,by omega⟩⟩
 have HT0:=hid (show RoomIn w w1 w1.heap.size (w1.heap.size+1) (w4.heap.size+1) ((w4.alloc (.cells #[.slice (some ⟨qb,qo,none⟩) n qc] 22)).alloc (.cells #[.int .i64 q] 3)).heap.size (.slice (some ⟨tb,toff,none⟩) n tc) (leftT l b) [] ((w4.alloc (.cells #[.slice (some ⟨qb,qo,none⟩) n qc] 22)).alloc (.cells #[.int .i64 q] 3)) from
  ⟨(hx6.block _ hBT4.lt).trans hBT4,⟨_,(hx6.block _ hBO4.lt).trans hBO4,.inl ⟨rfl,rfl⟩⟩,Hx3.out.tr hx6,Nat.le_refl _⟩)
 clear hBO4 hBT4 hbl3 hcl3
 gi_wp2
 generalize ((w4.alloc (.cells #[.slice (some ⟨qb,qo,none⟩) n qc] 22)).alloc (.cells #[.int .i64 q] 3))=w6 at *
 refine wp_rangeOf (by omega) (gf:=167) (lb:=#[.pointer (some ⟨w4.heap.size+1,0,none⟩),.pointer (some ⟨w4.heap.size,0,none⟩)]) rfl (enters_of Tryz.func167 (by kernel_rfl) rfl)
  (U.seq _ (by omega)) (fun h k=>h.tr k) (KeepB.put U.lt) (Below.refl _ _) (by omega) (fun _=>rfl)
  (fun (pre:List (Fin l.length)) W=>RoomIn w w1 w1.heap.size (w1.heap.size+1) (w4.heap.size+1) w6.heap.size (.slice (some ⟨tb,toff,none⟩) n tc) (leftT l b) (pre.map (fun y=>y.1)) W)
  (fun _ _ _=>False) (RoomIn.ownFrom HLE _ (fun pre:List (Fin l.length)=>pre.map (fun y=>y.1))) (fun _ _ _ _ _ hs _ _=>hs.elim) (fun s A B row hs hg hr=>by exact hs.grown HLE hg hr) (fun _ _ _ _ _ hs _ _=>hs.elim) HT0.out ?a1 ?assign ?body ?done ?stop
 case assign =>
  intro y i W K hK
  gi_wp2
  exact hK
 case body =>
  rintro y pre i W0 hI0 hlen
  clear hs6
  have hik:i.1 < n:=by have:=i.2;have:=Hn.out;omega
  refine wpIn_block ?_
  refine wpIn_seq_k (fun K0 hK0=>?_)
  refine wpIn_round_heldA (S:=fun V=>Ext W0.drew V) K0 (by kernel_rfl) (by kernel_rfl) (fun a' w' h=>h) ?_
  have HK0:=hid hK0
  clear hK0
  have HxW:=hid (Ext.dr (Ext.rf W0))
  have hI:=hI0.mono HxW.out
  have HI:=hid hI
  generalize W0.drew=W at *
  have HS:=hid (Ext.rf W)
  have hx1W:=hI.ext
  obtain ⟨qx,hqx⟩:=getA (f:=l) (k:=i.1) i.2
  obtain ⟨_,_,_,_,cv,c3,hcv⟩:=EQueue.mono w W qb _ qx (HX01.out.tr hx1W) (HQE.out i.1 qx hqx)
  obtain ⟨rv,c4,hrv⟩:=ERuns.mono w1 W tb _ _ hx1W (HTE.out i.1 hik)
  have c1:=((show Boxed W w.heap.size 22 _ from (hx1W.block _ HBL1.out.lt).trans HBL1.out)).cell
  have c2:=hI.boxt.cell
  rw [← (at_some hqx).2.2] at hcv
  have hne:cp l i.1≠[]:=fun e=>by have:=(OK.out.caps i.1 i.2).1.1;rw [e] at this;exact this
  have ZL:=hid (zip_left 130 (enters_of Tryz.func130 (by kernel_rfl) rfl) room1 W cv rv l b i.1 i.2 OK.out HOK.out (by rw [Hz.out];exact HB12.out) hcv hrv)
  obtain ⟨cb,co,cc,rfl,_⟩:=runs_cells hcv hne
  obtain ⟨rb,ro,rc,rfl,_⟩:=runs_cells hrv (fold_ne _)
  clear hI0 hI hcv hrv hne hqx
  generalize (cp l i.1).length=cn at *
  generalize (fold (takenT l b i.1)).length=rn at *
  have HPRE:=hid (show pre.length≤5 from by have:=HL5.out;omega)
  clear hlen
  refine wpAnyH_take (i:=0) (oi:=_) (v:=?_) rfl (by kernel_rfl) (by kernel_rfl) (by kernel_rfl) (fun _ _ _ h=>(by cases h.1)) (Or.inl ⟨by kernel_rfl,?_⟩) HS.out ?_
  rotate_left
  ·intro V hSw;have l1:=hSw.ce' c1;have l2:=hSw.ce' c2;have l3:=hSw.ce' c3;have l4:=hSw.ce' c4;go_simp;with_reducible rfl
  try simp only [Act.put,zD,zE,zF,zA,zC,zB]
  refine wpAnyH_take (i:=1) (oi:=_) (v:=?_) rfl (by kernel_rfl) (by kernel_rfl) (by kernel_rfl) (fun _ _ _ h=>(by cases h.1)) (Or.inl ⟨by kernel_rfl,?_⟩) HS.out ?_
  rotate_left
  ·intro V hSw;have l1:=hSw.ce' c1;have l2:=hSw.ce' c2;have l3:=hSw.ce' c3;have l4:=hSw.ce' c4;go_simp;with_reducible rfl
  try simp only [Act.put,zD,zE,zF,zA,zC,zB]
  refine wpAnyH_take (i:=2) (oi:=_) (v:=?_) rfl (by kernel_rfl) (by kernel_rfl) (by kernel_rfl) (fun _ _ _ h=>(by cases h.1)) (Or.inl ⟨by kernel_rfl,?_⟩) HS.out ?_
  rotate_left
  ·intro V hSw;have l1:=hSw.ce' c1;have l2:=hSw.ce' c2;have l3:=hSw.ce' c3;have l4:=hSw.ce' c4;go_simp;with_reducible rfl
  try simp only [Act.put,zD,zE,zF,zA,zC,zB]
  refine wpAnyH_take (i:=3) (oi:=_) (v:=?_) rfl (by kernel_rfl) (by kernel_rfl) (by kernel_rfl) (fun _ _ _ h=>(by cases h.1)) (Or.inl ⟨by kernel_rfl,?_⟩) HS.out ?_
  rotate_left
  ·intro V hSw;have l1:=hSw.ce' c1;have l2:=hSw.ce' c2;have l3:=hSw.ce' c3;have l4:=hSw.ce' c4;go_simp;with_reducible rfl
  try simp only [Act.put,zD,zE,zF,zA,zC,zB]
  refine wpAnyH_take (i:=4) (oi:=_) (v:=?_) rfl (by kernel_rfl) (by kernel_rfl) (by kernel_rfl) (fun _ _ _ h=>(by cases h.1)) (Or.inl ⟨by kernel_rfl,?_⟩) HS.out ?_
  rotate_left
  ·intro V hSw;have l1:=hSw.ce' c1;have l2:=hSw.ce' c2;have l3:=hSw.ce' c3;have l4:=hSw.ce' c4;go_simp;with_reducible rfl
  try simp only [Act.put,zD,zE,zF,zA,zC,zB]
  refine wpAnyH_take (i:=5) (oi:=_) (v:=?_) rfl (by kernel_rfl) (by kernel_rfl) (by kernel_rfl) (fun _ _ _ h=>(by cases h.1)) (Or.inl ⟨by kernel_rfl,?_⟩) HS.out ?_
  rotate_left
  ·intro V hSw;have l1:=hSw.ce' c1;have l2:=hSw.ce' c2;have l3:=hSw.ce' c3;have l4:=hSw.ce' c4;go_simp;with_reducible rfl
  try simp only [Act.put,zD,zE,zF,zA,zC,zB]
  refine wpAnyH_take (i:=6) (oi:=_) (v:=?_) rfl (by kernel_rfl) (by kernel_rfl) (by kernel_rfl) (fun _ _ _ h=>(by cases h.1)) (Or.inl ⟨by kernel_rfl,?_⟩) HS.out ?_
  rotate_left
  ·intro V hSw;have l1:=hSw.ce' c1;have l2:=hSw.ce' c2;have l3:=hSw.ce' c3;have l4:=hSw.ce' c4;go_simp;with_reducible rfl
  try simp only [Act.put,zD,zE,zF,zA,zC,zB]
  refine wpAnyH_take (i:=7) (oi:=_) (v:=?_) rfl (by kernel_rfl) (by kernel_rfl) (by kernel_rfl) (fun _ _ _ h=>(by cases h.1)) (Or.inl ⟨by kernel_rfl,?_⟩) HS.out ?_
  rotate_left
  ·intro V hSw;have l1:=hSw.ce' c1;have l2:=hSw.ce' c2;have l3:=hSw.ce' c3;have l4:=hSw.ce' c4;go_simp;with_reducible rfl
  try simp only [Act.put,zD,zE,zF,zA,zC,zB]
  refine wpAnyH_take (i:=8) (oi:=_) (v:=?_) rfl (by kernel_rfl) (by kernel_rfl) (by kernel_rfl) (fun _ _ _ h=>(by cases h.1)) (Or.inl ⟨by kernel_rfl,?_⟩) HS.out ?_
  rotate_left
  ·intro V hSw;have l1:=hSw.ce' c1;have l2:=hSw.ce' c2;have l3:=hSw.ce' c3;have l4:=hSw.ce' c4;go_simp;with_reducible rfl
  try simp only [Act.put,zD,zE,zF,zA,zC,zB]
  refine wpAnyH_ready (rs:=[9]) (by kernel_rfl) (by simp) ?_
  refine AllReadyH.cons rfl (fun K hK=>?_) AllReadyH.nil
  go_simp
  refine ZL.out.mono ?_
  rintro e W1 ⟨vz,rfl,hvz,hfr,hxz⟩
  refine hK.out _ _ hxz (fun _=>?_)
  clear hK K
  try simp only [Act.put,zD,zE,zF,zA,zC,zB]
  obtain ⟨zb,zo,zc,rfl,_⟩:=runs_cells hvz (fold_ne _)
  have HS1:=hid hxz
  clear HS
  refine wpAnyH_ready (rs:=[10]) (by kernel_rfl) (by simp) ?_
  refine AllReadyH.cons rfl (fun K hK=>?_) AllReadyH.nil
  go_simp
  refine hK.out _ _ HS1.out (fun _=>?_)
  clear hK K
  try simp only [Act.put,zD,zE,zF,zA,zC,zB]
  refine wpAnyH_done (by kernel_rfl) ⟨rfl,HK0.out _ _ ?_⟩ _
  clear HK0 K0
  have hI1:=HI.out.mono HS1.out
  have hzt:=Nat.le_trans HI.out.hi (hfr _ _ _ rfl)
  obtain ⟨ov,hov,hO⟩:=hI1.boxo
  have c8:=hov.cell
  have f8:=hov.frozen
  have HK1:=hid (And.intro (KeepsFrom.ext (B:=w6.heap.size) (HxW.out.tr HS1.out)) (KeepB.ext (bs:=[w4.heap.size,w4.heap.size+1,qb]) (HxW.out.tr HS1.out)))
  rcases hO with ⟨hp,rfl⟩ | ⟨hp,hrov,hap⟩
  ·have hST:=hid (hI1.step HLE (Ext.rf W1) (k:=i.1) (by rw [hp];exact hvz) (fun a n c e=>by cases e;exact hzt))
   clear hvz hfr hov hp hI1
   generalize (fold (leftT l b i.1)).length=zn at *
   have hb1:Sem.run Tryz.prog (binOp .eql 29 (.slice none 0 0) (.slice none 0 0)) W1=.ok (.bool true) W1:=by rfl
   gi_wp2
   refine ⟨HK1.out.1.trans (KeepsFrom.sc _ _ _ _ _),HK1.out.2.tr (KeepB.grown (grown_set _ _ _ _) (fun r e=>by
      have e:=Option.some.inj e
      have h2:=HX01.out.size
      have h3:=HSZ.out
      simp only [List.mem_cons,List.not_mem_nil,or_false]
      omega)),?_⟩
   show RoomIn _ _ _ _ _ _ _ _ ((pre++[i]).map (fun y:Fin l.length=>y.1)) _
   rw [List.map_append,List.map_singleton]
   exact hST.out
  ·have hin:∀ j∈pre.map (fun y:Fin l.length=>y.1),j < l.length:=fun j hj=>by
    obtain ⟨y,_,rfl⟩:=List.mem_map.1 hj;exact y.2
   have ZM:=hid (zip_min W1 ov _ _ _ hrov hvz (fun t _=>by
    have:=minTo_num (g:=fun k=>leftT l b k t) (a:=-1800) (b:=50) _ (fun j hj=>left_num OK.out HOK.out (by rw [Hz.out];exact HB12.out) j t (hin j hj)) hp
    unfold minF;omega) (fun t _=>by have:=left_num (t:=t) OK.out HOK.out (by rw [Hz.out];exact HB12.out) i.1 i.2;omega))
   obtain ⟨ob,oo,oc,rfl,_⟩:=runs_cells hrov (fold_ne _)
   have HOV:=hid hov
   have HP:=hid hp
   have HI1:=hid hI1
   clear hvz hfr hov hp hI1 hrov hap hin
   generalize (fold (leftT l b i.1)).length=zn at *
   generalize (fold (minF (leftT l b) (pre.map (fun y:Fin l.length=>y.1)))).length=on at *
   have hb1:Sem.run Tryz.prog (binOp .eql 29 (.slice (some ⟨ob,oo,none⟩) on oc) (.slice none 0 0)) W1=.ok (.bool false) W1:=by rfl
   gi_wp2
   refine ⟨trivial,(CallsIn.inRound y (callsIn_wide.2 ZM.out)).mono ?_⟩
   rintro e W2 ⟨vm,rfl,hvm,hfm,hx2⟩
   have hST:=hid (HI1.out.step HLE hx2 (k:=i.1) (v:=vm) (by
    rw [show minF (leftT l b) (pre.map (fun y:Fin l.length=>y.1)++[i.1])=fun t=>min (minF (leftT l b) (pre.map (fun y:Fin l.length=>y.1)) t) (leftT l b i.1 t) from funext fun t=>minTo_snoc _ _ HP.out]
    exact hvm) (fun a n c e=>Nat.le_trans (Nat.le_trans HI1.out.hi (Nat.le_refl _)) (hfm a n c e)))
   obtain ⟨mb,mo,mc,rfl,_⟩:=runs_cells hvm (fold_ne _)
   have hov2:Boxed W2 (w1.heap.size+1) 29 _:=(hx2.block _ HOV.out.lt).trans HOV.out
   have c8':=hov2.cell
   have f8':=hov2.frozen
   have HK2:=hid (And.intro (HK1.out.1.trans (KeepsFrom.ext hx2)) (HK1.out.2.tr (KeepB.ext hx2)))
   clear hvm hfm hx2 hov2
   generalize (fold fun t=>min (minF (leftT l b) (pre.map (fun y:Fin l.length=>y.1)) t) (leftT l b i.1 t)).length=mn at *
   gi_wp2
   refine ⟨HK2.out.1.trans (KeepsFrom.sc _ _ _ _ _),HK2.out.2.tr (KeepB.grown (grown_set _ _ _ _) (fun r e=>by
      have e:=Option.some.inj e
      have h2:=HX01.out.size
      have h3:=HSZ.out
      simp only [List.mem_cons,List.not_mem_nil,or_false]
      omega)),?_⟩
   show RoomIn _ _ _ _ _ _ _ _ ((pre++[i]).map (fun y:Fin l.length=>y.1)) _
   rw [List.map_append,List.map_singleton]
   exact hST.out
 case done =>
  rintro D ys W hD hys hI hK
  obtain ⟨ov,hov,hO⟩:=hI.boxo
  rw [hys] at hO
  obtain ⟨_,hrov,_⟩:=hO.resolve_left (fun h=>HLN.out h.1)
  obtain ⟨ob,oo,oc,rfl,_⟩:=runs_cells hrov (fold_ne _)
  have c8:=hov.cell
  have HR:=hid (runs_own hrov (fold_ne _) (grownBy_putObj' W D (.deferred none)) (fun r e=>by cases e;exact ⟨_,hK,rfl⟩))
  have HEX:=hid ((HX01.out.tr hI.ext).trans (belowK_b (w:=w) (Nat.le_refl _) W D _ (.deferred none) (by have h1:=HX01.out.size;have h2:=HSZ.out;omega) hK rfl rfl))
  clear hys hI hov hO hrov
  generalize (fold (minF (leftT l b) (lineL l q))).length=rn at *
  gi_wp2
  refine ⟨by simp,.inl ⟨_,_,rfl,run_takeDeferred hK,?_⟩⟩
  refine ⟨_,results_tmp rfl _ _ _,_,rfl,?_,HEX.out⟩
  exact HR.out
 case stop =>
  rintro D c pre W _ _ h _
  exact h.elim
theorem i64_small' {n:Int} (h1:-1000≤n) (h2:n≤1000):I64 n:=I64.of (by omega) (by omega)
def plotL:List Piece:=[⟨4,3⟩,⟨5,6⟩]
def plotR (k:Int):Request:=⟨3,2,30,k,plotL⟩
theorem plot_any (w:World) (k:Int):Calls Tryz.prog 32 #[.int .i64 k] w fun e w'=>∃ pb:Nat,e=.returned (.agg #[.int .i64 3,.int .i64 2,.int .i64 30,.int .i64 k,.slice (some ⟨pb,0,none⟩) 2 2])∧PiecesV w' (.slice (some ⟨pb,0,none⟩) 2 2) plotL∧Ext w w':=by
 have hp:=hid (fun (W:World) (t:TypeId)=>pairs_lit (f:=Piece.Len) (g:=Piece.N) (w:=W) (b:=W.heap.size) (n:=2) (cs:=#[.int .i64 4,.int .i64 3,.int .i64 5,.int .i64 6]) (t:=t) plotL rfl rfl rfl (by decide) (fun r hr=>by simp [plotL] at hr;rcases hr with rfl | rfl <;> exact ⟨i64_small' (by decide) (by decide),i64_small' (by decide) (by decide)⟩))
 go_enter Tryz.func32,Tryz.ntmps32
 go_wp2_with fail
 have hrow:∀ (o1 o2:Obj),((w.alloc o1).alloc o2).heap[w.heap.size]?=some o1:=fun o1 o2=>by
  rw [((Ext.rf (w.alloc o1)).al o2).block w.heap.size (by simp)];exact heap_alloc_new w o1
 refine bodyPost_ret (v:=.agg #[.int .i64 3,.int .i64 2,.int .i64 30,.int .i64 k,.slice (some ⟨w.heap.size+1,0,none⟩) 2 2]) (results_cell_row rfl _ _ w.heap.size 28 _ (0,0) _ rfl (hrow _ _) Tryz.underlying28 rfl (by kernel_rfl)) rfl ⟨_,rfl,?_,((Ext.rf w).al _).al _⟩
 have:=hp.out (w.alloc (.cells #[.int .i64 3,.int .i64 2,.int .i64 30,.int .i64 k,.slice (some ⟨w.heap.size+1,0,none⟩) 2 2] 28)) 44
 rw [World.size_alloc] at this
 exact this
def sownL:List Book:=[⟨1,plotR 1,[⟨0,8⟩,⟨1,10⟩]⟩,⟨4,⟨2,0,48,2,[⟨6,1⟩]⟩,[⟨0,9⟩]⟩]
structure SownAt (W:World) (B p1 b1 p2 b2:Nat):Prop where
 row:RowAt 40 W B [.int .i64 1,.int .i64 3,.int .i64 2,.int .i64 30,.int .i64 1,.slice (some ⟨p1,0,none⟩) 2 2,.slice (some ⟨b1,0,none⟩) 2 2,.int .i64 4,.int .i64 2,.int .i64 0,.int .i64 48,.int .i64 2,.slice (some ⟨p2,0,none⟩) 1 1,.slice (some ⟨b2,0,none⟩) 1 1]
 lt:p1 < B∧b1 < B∧p2 < B∧b2 < B
 p1:PiecesV W (.slice (some ⟨p1,0,none⟩) 2 2) plotL
 b1:BitesV W (.slice (some ⟨b1,0,none⟩) 2 2) [⟨0,8⟩,⟨1,10⟩]
 p2:PiecesV W (.slice (some ⟨p2,0,none⟩) 1 1) [⟨6,1⟩]
 b2:BitesV W (.slice (some ⟨b2,0,none⟩) 1 1) [⟨0,9⟩]
theorem SownAt.ext {W W':World} {B p1 b1 p2 b2:Nat} (h:SownAt W B p1 b1 p2 b2) (hx:Ext W W'):SownAt W' B p1 b1 p2 b2 :=
 ⟨h.row.ext hx,h.lt,h.p1.mono hx,h.b1.mono hx,h.p2.mono hx,h.b2.mono hx⟩
theorem SownAt.v {W:World} {B p1 b1 p2 b2:Nat} (h:SownAt W B p1 b1 p2 b2):BooksV W (.slice (some ⟨B,0,none⟩) 2 2) sownL:=by
 refine .inr ⟨B,0,2,rfl,by decide,by omega,by decide,h.row.lt,fun k x hk=>?_⟩
 rcases k with _ | _ | k
 ·cases hk
  refine ⟨[.int .i64 1,.int .i64 3,.int .i64 2,.int .i64 30,.int .i64 1,.slice (some ⟨p1,0,none⟩) 2 2,.slice (some ⟨b1,0,none⟩) 2 2],⟨_,_,rfl,⟨_,rfl,h.p1,i64_small' (by decide) (by decide),i64_small' (by decide) (by decide),i64_small' (by decide) (by decide),i64_small' (by decide) (by decide)⟩,h.b1,i64_small' (by decide) (by decide)⟩,fun j u hj=>?_⟩
  have hlt:=(List.getElem?_eq_some_iff.1 hj).1
  simp only [List.length_cons,List.length_nil] at hlt
  refine h.row.cell ?_
  rw [show 0+0*7+j=j by omega]
  rcases (by omega:j=0∨j=1∨j=2∨j=3∨j=4∨j=5∨j=6) with rfl | rfl | rfl | rfl | rfl | rfl | rfl <;> exact hj
 ·cases hk
  refine ⟨[.int .i64 4,.int .i64 2,.int .i64 0,.int .i64 48,.int .i64 2,.slice (some ⟨p2,0,none⟩) 1 1,.slice (some ⟨b2,0,none⟩) 1 1],⟨_,_,rfl,⟨_,rfl,h.p2,i64_small' (by decide) (by decide),i64_small' (by decide) (by decide),i64_small' (by decide) (by decide),i64_small' (by decide) (by decide)⟩,h.b2,i64_small' (by decide) (by decide)⟩,fun j u hj=>?_⟩
  have hlt:=(List.getElem?_eq_some_iff.1 hj).1
  simp only [List.length_cons,List.length_nil] at hlt
  refine h.row.cell ?_
  rw [show 0+(0+1)*7+j=7+j by omega]
  rcases (by omega:j=0∨j=1∨j=2∨j=3∨j=4∨j=5∨j=6) with rfl | rfl | rfl | rfl | rfl | rfl | rfl <;> exact hj
 ·simp [sownL] at hk
def sownN:List Book:=[⟨1,plotR 1,[]⟩,⟨4,⟨2,0,48,2,[⟨6,1⟩]⟩,[⟨0,9⟩]⟩]
theorem sv2_set {α:Type} {f g:α→Int} {W:World} {p n c B o:Nat} {u:Value} {xs:List α} (h:SV 2 (E2 f g) W (.slice (some ⟨p,0,none⟩) n c) xs) (hp:p≠B):SV 2 (E2 f g) (W.setCell ⟨B,o,none⟩ u) (.slice (some ⟨p,0,none⟩) n c) xs:=by
 have hg:W.grownBy (W.setCell ⟨B,o,none⟩ u) (some B):=⟨rfl,rfl,rfl,(KeepsWalks.setCell W _ u).size,fun k _ hk=>Below.heap_setCell _ _ _ k (fun e=>hk (by rw [e]))⟩
 rcases h with h | ⟨b,off,cap,e,h1,h2,hl,h3,h4⟩
 ·exact .inl h
 ·refine .inr ⟨b,off,cap,e,h1,h2,hl,Nat.lt_of_lt_of_le h3 hg.size,fun k x hk=>?_⟩
  cases e
  have hc:∀ o,(W.setCell ⟨B,_,none⟩ u).cell? ⟨p,o,none⟩=W.cell? ⟨p,o,none⟩:=fun o=>World.cell?_of_block (a:=⟨p,o,none⟩) (hg.block p h3 (fun e=>hp (Option.some.inj e)))
  obtain ⟨e1,e2,e3⟩:=h4 k x hk
  exact ⟨by rw [hc];exact e1,by rw [hc];exact e2,e3⟩
theorem SownAt.nil {W:World} {B p1 b1 p2 b2:Nat} (h:SownAt W B p1 b1 p2 b2):BooksV (W.setCell ⟨B,6,none⟩ (.slice none 0 0)) (.slice (some ⟨B,0,none⟩) 2 2) sownN:=by
 have hr:=h.row.set 6 (.slice none 0 0)
 have q1:PiecesV (W.setCell ⟨B,6,none⟩ (.slice none 0 0)) (.slice (some ⟨p1,0,none⟩) 2 2) plotL:=sv2_set h.p1 (by have:=h.lt;omega)
 have q2:PiecesV (W.setCell ⟨B,6,none⟩ (.slice none 0 0)) (.slice (some ⟨p2,0,none⟩) 1 1) [⟨6,1⟩]:=sv2_set h.p2 (by have:=h.lt;omega)
 have q3:BitesV (W.setCell ⟨B,6,none⟩ (.slice none 0 0)) (.slice (some ⟨b2,0,none⟩) 1 1) [⟨0,9⟩]:=sv2_set h.b2 (by have:=h.lt;omega)
 refine .inr ⟨B,0,2,rfl,by decide,by omega,by decide,hr.lt,fun k x hk=>?_⟩
 rcases k with _ | _ | k
 ·cases hk
  refine ⟨[.int .i64 1,.int .i64 3,.int .i64 2,.int .i64 30,.int .i64 1,.slice (some ⟨p1,0,none⟩) 2 2,.slice none 0 0],⟨_,_,rfl,⟨_,rfl,q1,i64_small' (by decide) (by decide),i64_small' (by decide) (by decide),i64_small' (by decide) (by decide),i64_small' (by decide) (by decide)⟩,SV.nil,i64_small' (by decide) (by decide)⟩,fun j u hj=>?_⟩
  have hlt:=(List.getElem?_eq_some_iff.1 hj).1
  simp only [List.length_cons,List.length_nil] at hlt
  refine hr.cell ?_
  rw [show 0+0*7+j=j by omega]
  rcases (by omega:j=0∨j=1∨j=2∨j=3∨j=4∨j=5∨j=6) with rfl | rfl | rfl | rfl | rfl | rfl | rfl <;> exact hj
 ·cases hk
  refine ⟨[.int .i64 4,.int .i64 2,.int .i64 0,.int .i64 48,.int .i64 2,.slice (some ⟨p2,0,none⟩) 1 1,.slice (some ⟨b2,0,none⟩) 1 1],⟨_,_,rfl,⟨_,rfl,q2,i64_small' (by decide) (by decide),i64_small' (by decide) (by decide),i64_small' (by decide) (by decide),i64_small' (by decide) (by decide)⟩,q3,i64_small' (by decide) (by decide)⟩,fun j u hj=>?_⟩
  have hlt:=(List.getElem?_eq_some_iff.1 hj).1
  simp only [List.length_cons,List.length_nil] at hlt
  refine hr.cell ?_
  rw [show 0+(0+1)*7+j=7+j by omega]
  rcases (by omega:j=0∨j=1∨j=2∨j=3∨j=4∨j=5∨j=6) with rfl | rfl | rfl | rfl | rfl | rfl | rfl <;> exact hj
 ·simp [sownN] at hk
end Go.Proofs.YtdcndkojmflhnaaGreat
