/- relieve: the books that give way; each theorem names its own conditions. -/
import Derived.Test.YtdcndkojmflhnaaGreatPCutC
set_option linter.unusedVariables false
set_option linter.unusedSimpArgs false
set_option maxRecDepth 100000
set_option maxHeartbeats 8000000
set_option linter.unusedSimpArgs false
set_option linter.unusedVariables false
namespace Go.Proofs.YtdcndkojmflhnaaGreat
open Go.RowKit
open List renaming getElem_toArray→zA,getElem_cons_zero→zB,getElem_cons_succ→zC,setIfInBounds_toArray→zD,set_cons_zero→zE,set_cons_succ→zF
theorem OwnS.keptR {ex:List Nat} {B:Nat} {W W':World} {u v:Value} {l:List Queue} {b:List Book} {row:Option Nat} (h:OwnS ex B W u v l b) (hg:W.grownBy W' row) (hr:∀ r,row=some r→r∈ex):OwnS ex B W' u v l b:=by
 cases row with
 | none=>exact h.ext ((Ext.rf W).gr (v:=.bool true) hg (fun k e=>by cases e))
 | some r=>exact h.kept hg (hr r rfl)
theorem OwnS.take1 {ex:List Nat} {B gb z cap k:Nat} {W:World} {u:Value} {l:List Queue} {b:List Book} {x:Book} (h:OwnS ex B W u (.slice (some ⟨gb,0,none⟩) z cap) l b) (hz:b.length=z) (hk:b[k]?=some x) :
  ∃ pv bv:Value,BCells W gb (k*7) x pv bv∧PiecesV W pv x.Req.Pieces∧BitesV W bv x.Bites∧BookC W [.int .i64 x.Id,.int .i64 x.Req.Queue,.int .i64 x.Req.From,.int .i64 x.Req.Until,.int .i64 x.Req.Kind,pv,bv] x∧LiveX x ∧
   ∀ s∈([.int .i64 x.Id,.int .i64 x.Req.Queue,.int .i64 x.Req.From,.int .i64 x.Req.Until,.int .i64 x.Req.Kind,pv,bv]:List Value),∀ a n c,s=.slice (some a) n c→a.block < W.heap.size∧a.block≠gb∧B≤a.block∧a.block ∉ ex∧∀ r,u.ownBlock=some r→a.block≠r:=by
 obtain ⟨g,qc,rfl,h1,h2,h5,h12,hgB,hs,he,hl,hc,⟨css,o1,o2,o3,o4⟩,hne,hq⟩:=h
 rcases o1.2 with ⟨hv,_⟩ | ⟨g',cap',cur,hv,hb,hcur,hnc,hcm,hcs,htk⟩
 ·cases hv
 have hkl:=(List.getElem?_eq_some_iff.1 hk).1
 obtain ⟨cs,hcs'⟩:=getA (f:=css) (k:=k) (by rw [o2.len];exact hkl)
 have hbc:=o2.each k cs x hcs' hk
 have hmem:=List.mem_of_getElem? hcs'
 have h7:∀ cs∈css,cs.length=7:=o2.seven
 have hgg:g'=gb∧cap'=cap:=by cases hv;exact ⟨rfl,rfl⟩
 obtain ⟨rfl,rfl⟩:=hgg
 have hcell:∀ (j:Nat) v,j < 7→cs[j]?=some v→W.cell? ⟨g',k*7+j,none⟩=some v:=fun j v hj hv=>by
  refine row_cell hcur ?_
  have e:=flatw (m:=7) (by omega) css h7 k j hj
  rw [hcs'] at e
  have e2:css.flatten[k*7+j]?=some v:=by rw [e];exact hv
  rw [← htk,List.getElem?_take] at e2
  split at e2
  ·exact e2
  ·cases e2
 have hlow:=cells7_low o2 (fun x hx=>(hl x hx).1) cs hmem
 have hap:=o3 cs hmem
 have hap2:=o4 g' rfl cs hmem
 have hbc':=hbc
 obtain ⟨qs,bv,rfl,⟨pv,rfl,hp,i1,i2,i3,i4⟩,hbt,i5⟩:=hbc
 refine ⟨pv,bv,⟨hcell 0 _ (by omega) rfl,hcell 1 _ (by omega) rfl,hcell 2 _ (by omega) rfl,hcell 3 _ (by omega) rfl,hcell 4 _ (by omega) rfl,hcell 5 _ (by omega) rfl,hcell 6 _ (by omega) rfl⟩,hp,hbt,hbc',hl x (List.mem_of_getElem? hk),fun s hsm a n c e=>?_⟩
 have e1:=hlow s hsm a n c e
 have e2:=hap s hsm a n c e
 have e3:=hap2 s hsm a n c e
 refine ⟨e1,fun h=>e3 (List.mem_singleton.2 h),?_,fun h=>e2 (List.mem_cons_of_mem _ (List.mem_append_left _ h)),fun r hr h=>e2 ?_⟩
 ·rcases Nat.lt_or_ge a.block B with h | h
  ·exact absurd (List.mem_cons_of_mem _ (List.mem_append_right _ (List.mem_range.2 h))) e2
  ·exact h
 ·have:g=r:=by simpa [Value.ownBlock] using hr
  rw [h,← this];exact List.mem_cons_self ..
structure AwayIn (w0:World) (X gq qc gb cap:Nat) (c nx:Int) (l:List Queue) (b a:List Book) (va:Value) (W:World):Prop where
 box:W.heap[X]?=some (.cells #[.int .i64 c,.int .i64 nx,.slice (some ⟨gq,0,none⟩) l.length qc,.slice (some ⟨gb,0,none⟩) b.length cap] 25 (0,0))
 own:OwnS (va.ownBlock.toList++[X]) w0.heap.size W (.slice (some ⟨gq,0,none⟩) l.length qc) (.slice (some ⟨gb,0,none⟩) b.length cap) l b
 away:OwnB (gb::gq::X::List.range w0.heap.size) w0.heap.size W va a
 apart:va.ownBlock≠some X
 live:LiveB a
 ext:Ext w0 W
 low:w0.heap.size≤X
variable {w0 W:World} {X gq qc gb cap:Nat} {c nx:Int} {l:List Queue} {b a:List Book} {va:Value}
theorem AwayIn.ne (h:AwayIn w0 X gq qc gb cap c nx l b a va W) {r:Nat} (hr:va.ownBlock=some r):r≠gb∧r≠gq∧r≠X∧w0.heap.size≤r∧r < W.heap.size:=by
 obtain ⟨g,qc',e,h1,h2,h5,h12,hgB,hs,he,_,_,_,hne,_⟩:=h.own
 cases e
 obtain ⟨css,o1,_⟩:=h.away
 have:=o1.lt r hr
 have hm:r∈va.ownBlock.toList++[X]:=List.mem_append_left _ (by rw [hr];exact List.mem_singleton.2 rfl)
 exact ⟨fun e=>(hne gb rfl).2 (e▸hm),fun e=>he (e▸hm),fun e=>h.apart (e▸hr),this.1,this.2⟩
theorem AwayIn.gbX (h:AwayIn w0 X gq qc gb cap c nx l b a va W):gb≠X∧w0.heap.size≤gb∧gb < W.heap.size∧gq≠X∧gq≠gb:=by
 obtain ⟨g,qc',e,h1,h2,h5,h12,hgB,hs,he,_,_,⟨css,o1,_⟩,hne,_⟩:=h.own
 cases e
 have:=o1.lt gb rfl
 exact ⟨fun e=>(hne gb rfl).2 (e▸List.mem_append_right _ (List.mem_singleton.2 rfl)),this.1,this.2,fun e=>he (e▸List.mem_append_right _ (List.mem_singleton.2 rfl)),(hne gb rfl).1⟩
theorem AwayIn.later {W':World} (h:AwayIn w0 X gq qc gb cap c nx l b a va W) (hx:Ext W W'):AwayIn w0 X gq qc gb cap c nx l b a va W' :=
 ⟨blk_ext h.box hx,h.own.ext hx,h.away.ext hx,h.apart,h.live,h.ext.tr hx,h.low⟩
theorem AwayIn.push {W':World} {k g2 cap2:Nat} {x:Book} {pv bv:Value} {ca:List (List Value)} (h:AwayIn w0 X gq qc gb cap c nx l b a va W)
  (o1:W.ownsRow w0.heap.size 40 7 va a.length ca.flatten) (o2:Cells7 W ca a) (o3:ApartC (gb::gq::X::List.range w0.heap.size) ca) (o4:∀ g,va.ownBlock=some g→ApartC [g] ca)
  (hbc:BookC W [.int .i64 x.Id,.int .i64 x.Req.Queue,.int .i64 x.Req.From,.int .i64 x.Req.Until,.int .i64 x.Req.Kind,pv,bv] x) (hlx:LiveX x)
  (hap:∀ s∈([.int .i64 x.Id,.int .i64 x.Req.Queue,.int .i64 x.Req.From,.int .i64 x.Req.Until,.int .i64 x.Req.Kind,pv,bv]:List Value),∀ ad n c',s=.slice (some ad) n c'→ad.block < W.heap.size∧ad.block≠gb∧w0.heap.size≤ad.block∧ad.block ∉ va.ownBlock.toList++[X]∧∀ r,(Value.slice (some ⟨gq,0,none⟩) l.length qc).ownBlock=some r→ad.block≠r)
  (hown:W'.ownsRow w0.heap.size 40 7 (.slice (some ⟨g2,0,none⟩) (a.length+1) cap2) (a.length+1) (ca.flatten++[.int .i64 x.Id,.int .i64 x.Req.Queue,.int .i64 x.Req.From,.int .i64 x.Req.Until,.int .i64 x.Req.Kind,pv,bv]))
  (hg:(W.alloc (.cells #[.int .i64 x.Id,.int .i64 x.Req.Queue,.int .i64 x.Req.From,.int .i64 x.Req.Until,.int .i64 x.Req.Kind,pv,bv] 40)).grownBy W' va.ownBlock)
  (hlie:va.ownBlock=some g2∨g2=W.heap.size+1) :
  AwayIn w0 X gq qc gb cap c nx l b (a++[x]) (.slice (some ⟨g2,0,none⟩) (a++[x]).length cap2) W':=by
 have hlen:(a++[x]).length=a.length+1:=by simp
 have hx1:Ext W (W.alloc (.cells #[.int .i64 x.Id,.int .i64 x.Req.Queue,.int .i64 x.Req.From,.int .i64 x.Req.Until,.int .i64 x.Req.Kind,pv,bv] 40)):=(Ext.rf W).al _
 have hsz:(W.alloc (.cells #[.int .i64 x.Id,.int .i64 x.Req.Queue,.int .i64 x.Req.From,.int .i64 x.Req.Until,.int .i64 x.Req.Kind,pv,bv] 40)).heap.size=W.heap.size+1:=World.size_alloc ..
 have hXw:=(Array.getElem?_eq_some_iff.1 h.box).1
 obtain ⟨n1,n2,n3,n4,n5⟩:=h.gbX
 have hg2:g2≠X∧g2≠gb∧g2≠gq:=by
  rcases hlie with h1 | h1
  ·have:=h.ne h1;exact ⟨this.2.2.1,this.1,this.2.1⟩
  ·obtain ⟨gq',qc',e,_,hs⟩:=h.own.uform
   cases e
   exact ⟨by omega,by omega,by omega⟩
 refine ⟨?_,?_,?_,?_,live_app h.live hlx,?_,h.low⟩
 ·exact (hg.block X (Nat.lt_of_lt_of_le hXw hx1.size) (fun e=>(h.ne e.symm).2.2.1 rfl)).trans (blk_ext h.box hx1)
 ·have hO:=h.own.ext hx1
  have hO2:OwnS (g2::(va.ownBlock.toList++[X])) w0.heap.size (W.alloc (.cells #[.int .i64 x.Id,.int .i64 x.Req.Queue,.int .i64 x.Req.From,.int .i64 x.Req.Until,.int .i64 x.Req.Kind,pv,bv] 40)) (.slice (some ⟨gq,0,none⟩) l.length qc) (.slice (some ⟨gb,0,none⟩) b.length cap) l b:=by
   rcases hlie with h1 | h1
   ·exact hO.low (Nat.le_refl _) (fun r hr=>by
     rcases List.mem_cons.1 hr with rfl | hr
     ·exact List.mem_append_left _ (by rw [h1];exact List.mem_singleton.2 rfl)
     ·exact hr)
   ·exact hO.box (by omega)
  refine (hO2.keptR hg (fun r hr=>List.mem_cons_of_mem _ (List.mem_append_left _ (by rw [hr];exact List.mem_singleton.2 rfl)))).low (Nat.le_refl _) (fun r hr=>?_)
  have hr':r=g2∨r=X:=by simpa [Value.ownBlock] using hr
  rcases hr' with rfl | rfl
  ·exact List.mem_cons_self ..
  ·exact List.mem_cons_of_mem _ (List.mem_append_right _ (List.mem_singleton.2 rfl))
 ·rw [hlen]
  refine OwnB.snoc (ownsRow_ext o1 hx1) (o2.mono hx1) o3 o4 (fun ds hd s hs ad n c' e=>Nat.lt_of_lt_of_le (cells7_low o2 (fun y hy=>(h.live y hy).1) ds hd s hs ad n c' e) hx1.size) (hbc.mono hx1) (fun s hs ad n c' e=>?_) hown rfl hg (by rw [hsz];exact hlie)
  obtain ⟨p1,p2,p3,p4,p5⟩:=hap s hs ad n c' e
  refine ⟨Nat.lt_of_lt_of_le p1 hx1.size,fun hm=>?_,fun r hr e'=>p4 (List.mem_append_left _ (by rw [hr,e'];exact List.mem_singleton.2 rfl))⟩
  rcases List.mem_cons.1 hm with h1 | hm
  ·exact p2 h1
  ·rcases List.mem_cons.1 hm with h1 | hm
   ·exact p5 gq rfl h1
   ·rcases List.mem_cons.1 hm with h1 | hm
    ·exact p4 (List.mem_append_right _ (List.mem_singleton.2 h1))
    ·have:=List.mem_range.1 hm;omega
 ·intro e
  have:g2=X:=by simpa [Value.ownBlock] using e
  exact hg2.1 this
 ·exact (h.ext.tr hx1).gr hg (fun k hk=>(h.ne hk).2.2.2.1)
theorem AwayIn.drop {W':World} {k:Nat} (h:AwayIn w0 X gq qc gb cap c nx l b a va W) (hk:k < b.length) (hO:OwnS (va.ownBlock.toList++[X]) w0.heap.size W' (.slice (some ⟨gq,0,none⟩) l.length qc) (.slice (some ⟨gb,0,none⟩) (b.length - 1) cap) l (b.eraseIdx k)) (hg:W.grownBy W' (some gb)) :
  AwayIn w0 X gq qc gb cap c nx l (b.eraseIdx k) a va (W'.setCell ⟨X,3,none⟩ (.slice (some ⟨gb,0,none⟩) (b.length - 1) cap)):=by
 obtain ⟨n1,n2,n3,n4,n5⟩:=h.gbX
 have hXw:=(Array.getElem?_eq_some_iff.1 h.box).1
 have hlen:(b.eraseIdx k).length=b.length - 1:=List.length_eraseIdx_of_lt hk
 have hb:=(hg.block X hXw (fun e=>n1 (Option.some.inj e).symm)).trans h.box
 have hs:=grown_set W' X 3 (.slice (some ⟨gb,0,none⟩) (b.length - 1) cap)
 rw [← hlen] at hO hs ⊢
 refine ⟨heap_setCell_same W' X 3 _ _ _ hb,hO.kept hs (List.mem_append_right _ (List.mem_singleton.2 rfl)),?_,h.apart,h.live,?_,h.low⟩
 ·exact (h.away.keptR hg (List.mem_cons_self ..) (fun r hr=>(h.ne hr).1)).keptR hs (List.mem_cons_of_mem _ (List.mem_cons_of_mem _ (List.mem_cons_self ..))) (fun r hr=>(h.ne hr).2.2.1)
 ·exact (h.ext.gr (v:=.slice (some ⟨gb,0,none⟩) 0 0) hg (fun k hk=>by have e:=Option.some.inj hk;have e2:gb=k:=e;omega)).se h.low _
def boxLen (X:Nat) (W:World):Nat:=match W.cell? ⟨X,3,none⟩ with | some (.slice _ n _)=>n | _=>0
theorem boxLen_of (h:AwayIn w0 X gq qc gb cap c nx l b a va W):boxLen X W=b.length:=by
 unfold boxLen;rw [cell_of_row W X 3 _ _ _ h.box];rfl
structure RelAt (l:List Queue) (c:Nat) (b0 b a:List Book):Prop where
 go:relG l c b.length b a=relL l c b0
 sub:b.Sublist b0
 perm:(b++a).Perm b0
theorem RelAt.step {c t q:Nat} {b0:List Book} {x:Book} (h:RelAt l c b0 b a) (ho:OverIs l b c t q) (hx:b[vicK l b t q]?=some x):RelAt l c b0 (b.eraseIdx (vicK l b t q)) (a++[x]) :=
 ⟨(rel_step ho hx).symm.trans h.go,(List.eraseIdx_sublist ..).trans h.sub,(perm_move hx).trans h.perm⟩
theorem AwayIn.sorted {g n cp:Nat} {W':World} (h:AwayIn w0 X gq qc gb cap c nx l b a (.slice (some ⟨g,0,none⟩) n cp) W) (ho:OwnB (gb::gq::X::List.range w0.heap.size) w0.heap.size W' (.slice (some ⟨g,0,none⟩) n cp) (sortB a)) (hg:W.grownBy W' (some g)) :
  AwayIn w0 X gq qc gb cap c nx l b (sortB a) (.slice (some ⟨g,0,none⟩) n cp) W':=by
 have hne:=h.ne (r:=g) rfl
 exact ⟨(hg.block X (Array.getElem?_eq_some_iff.1 h.box).1 (fun e=>hne.2.2.1 (Option.some.inj e).symm)).trans h.box,h.own.kept hg (List.mem_append_left _ (List.mem_singleton.2 rfl)),ho,h.apart,
  fun x hx=>h.live x ((sortB_perm a).subset hx),h.ext.gr (v:=.slice (some ⟨g,0,none⟩) n cp) hg (fun k hk=>by have e:=Option.some.inj hk;have e2:g=k:=e;omega),h.low⟩
def RelPost (w0:World) (X gq qc:Nat) (c nx:Int) (l:List Queue) (b0:List Book) (e:Ending) (w':World):Prop :=
 ∃ va gb cap,e=.returned va∧AwayIn w0 X gq qc gb cap c nx l (relL l c.toNat b0).1 (sortB (relL l c.toNat b0).2) va w'∧b0.length≤cap
theorem relieve_some (w0 w:World) (X gq qc gb cap:Nat) (c nx:Int) (l:List Queue) (b0:List Book) (h:AwayIn w0 X gq qc gb cap c nx l b0 [] (.slice none 0 0) w) (hcap:b0.length≤cap) (ok:TreeOk l) (hok:∀ x∈b0,BookOk l x) (h12:b0.length≤12) (hc:0≤c∧c≤48) (hd:b0.Pairwise (fun x y=>x.Id≠y.Id)) :
  Calls Tryz.prog 84 #[.pointer (some ⟨X,0,none⟩)] w (RelPost w0 X gq qc c nx l b0):=by
 obtain ⟨ib,ib1,ib2,ib3,ib4⟩:=info_parts Tryz.info40
 have H0:=hid h
 have HOK:=hid hok
 have HD:=hid hd
 have HCAP:=hid hcap
 have HC:=hid hc
 clear h hok hd hcap hc
 go_enter Tryz.func84,Tryz.ntmps84
 go_wp2_with fail
 go_loopw [3] (fun va wr=>∃ b a,Hid (AwayIn w0 X gq qc gb cap c nx l b a va wr)∧Hid (RelAt l c.toNat b0 b a)) (fun va wr=>boxLen X wr)
 case atStart=>exact ⟨b0,[],H0,hid ⟨rfl,List.Sublist.refl _,by rw [List.append_nil]⟩⟩
 case round =>
  obtain ⟨b,a,HA,HR⟩:=hrel
  have hbok:∀ x∈b,BookOk l x:=fun x hx=>HOK.out x (HR.out.sub.subset hx)
  have hb12:b.length≤12:=Nat.le_trans HR.out.sub.length_le h12
  have T:=hid (fun p:Later wr=>later_of p (v:=.tuple #[.int .i64 (tooR l b c.toNat).1,.int .i64 (tooR l b c.toNat).2.1,.bool (tooR l b c.toNat).2.2]) (show Calls Tryz.prog 69 #[.slice (some ⟨gq,0,none⟩) l.length qc,.slice (some ⟨gb,0,none⟩) b.length cap,.int .i64 c] p.v (RetToo p.v (tooR l b c.toNat)) from by
   have:=loadToo_any p.v _ _ l b c.toNat (by have:=HC.out;omega) (HA.out.own.tree.mono p.h) (HA.out.own.books.mono p.h) ok hbok hb12
   rwa [Int.toNat_of_nonneg HC.out.1] at this))
  have k0:=fun p:Later wr=>p.cell (cell_of_row wr X 0 _ _ _ HA.out.box)
  have k2:=fun p:Later wr=>p.cell (cell_of_row wr X 2 _ _ _ HA.out.box)
  have k3:=fun p:Later wr=>p.cell (cell_of_row wr X 3 _ _ _ HA.out.box)
  by_cases hf:FitsT l b c.toNat
  ·rw [tooR_no hf] at T
   have HSTOP:=hid (show relL l c.toNat b0=(b,a) from HR.out.go.symm.trans (rel_stop (too_no hf) _))
   go_wp2_with fail
   refine region_later (by kernel_rfl) (by kernel_rfl) ?_
   repeat (go_big_quiet_step (first | with_reducible exact T.out _))
   refine wpQuiet_nil ?_
   rintro w' ⟨p,rfl⟩
   have HA2:=hid (HA.out.later p.h)
   have had:a.Pairwise (fun x y=>x.Id≠y.Id):=(List.pairwise_append.1 ((List.Perm.pairwise_iff (fun h e=>h e.symm) HR.out.perm).2 HD.out)).2.1
   have ha12:a.length≤12:=by have:=HR.out.perm.length_eq;rw [List.length_append] at this;omega
   obtain ⟨css,o1,o2,o3,o4⟩:=HA2.out.away
   rcases o1.2 with ⟨rfl,ha0⟩ | ⟨g,cp,cur,rfl,_⟩
   ·have ha:a=[]:=List.eq_nil_of_length_eq_zero ha0
    have HN:=hid (fun W=>sort_none W)
    clear T k0 k2 k3 o1 o2 o3 o4
    generalize p.v=wp at *
    go_wp2_with (go_at_call 140;refine (HN.out _).mono ?_;rintro e w' ⟨rfl,rfl⟩)
    go_ret
    refine ⟨_,gb,cap,rfl,?_,HCAP.out⟩
    rw [HSTOP.out,ha]
    rw [ha] at HA2
    exact HA2.out
   ·have HN:=hid (sort_any _ _ g a.length cp p.v a HA2.out.away rfl ha12 had)
    clear T k0 k2 k3 o1 o2 o3 o4
    generalize p.v=wp at *
    go_wp2_with (go_at_call 140;refine HN.out.mono ?_;rintro e w' ⟨rfl,hso,hsg⟩)
    go_ret
    refine ⟨_,gb,cap,rfl,?_,HCAP.out⟩
    rw [HSTOP.out]
    exact HA2.out.sorted hso hsg
  ·obtain ⟨t,q,ho⟩:=over_some hf
   obtain ⟨x,hx,_⟩:=over_hit ok hbok ho
   have hkl:=(List.getElem?_eq_some_iff.1 hx).1
   have HST:=hid (HR.out.step ho hx)
   rw [tooR_is ho] at T
   have ht48:=ho.2.1
   have hfc:¬ (FitsT l b c.toNat):=hf
   clear hf
   go_wp2_with fail
   refine region_later (by kernel_rfl) (by kernel_rfl) ?_
   repeat (go_big_quiet_step (first | with_reducible exact T.out _))
   refine wpQuiet_nil ?_
   rintro w' ⟨p,rfl⟩
   have HA2:=hid (HA.out.later p.h)
   have HBL:=hid (boxLen_of HA.out)
   clear T k0 k2 k3 HA
   generalize p.v=wp at *
   have VI:=hid (victim_any wp X gb 0 cap b.length (.slice (some ⟨gq,0,none⟩) l.length qc) l b c nx t q HA2.out.box HA2.out.own.tree HA2.out.own.books rfl (by omega) ok hbok hb12 ht48)
   generalize vicK l b t q=k at *
   go_wp2_with fail
   refine VI.out.mono ?_
   rintro e wv ⟨rfl,hxv⟩
   have HA3:=hid (HA2.out.later hxv)
   clear HA2 VI hxv
   obtain ⟨pv,bv,⟨c0,c1,c2,c3,c4,c5,c6⟩,hpx,hbx,hbc,hlx,hap⟩:=HA3.out.own.take1 rfl hx
   obtain ⟨css,o1,o2,o3,o4⟩:=HA3.out.away
   obtain ⟨pa,pc,rfl,_⟩:=hpx.form
   obtain ⟨ba,bc,rfl,_⟩:=hbx.form
   have k3:wv.cell? ⟨X,3,none⟩=some (.slice (some ⟨gb,0,none⟩) b.length cap):=cell_of_row wv X 3 _ _ _ HA3.out.box
   have ha12:a.length≤12:=by have:=HR.out.perm.length_eq;rw [List.length_append] at this;omega
   have HN7:=hid (news7 wv [.int .i64 x.Id,.int .i64 x.Req.Queue,.int .i64 x.Req.From,.int .i64 x.Req.Until,.int .i64 x.Req.Kind,.slice pa x.Req.Pieces.length pc,.slice ba x.Bites.length bc] 40 rfl)
   have HPUSH:=hid (fun W' g2 cap2=>HA3.out.push (W':=W') (g2:=g2) (cap2:=cap2) (k:=k) o1 o2 o3 o4 hbc hlx hap)
   have HO1:=hid (ownsRow_ext o1 ((Ext.rf wv).al (.cells #[.int .i64 x.Id,.int .i64 x.Req.Queue,.int .i64 x.Req.From,.int .i64 x.Req.Until,.int .i64 x.Req.Kind,.slice pa x.Req.Pieces.length pc,.slice ba x.Bites.length bc] 40)))
   have HSZ:=hid (show w0.heap.size≤(wv.alloc (.cells #[.int .i64 x.Id,.int .i64 x.Req.Queue,.int .i64 x.Req.From,.int .i64 x.Req.Until,.int .i64 x.Req.Kind,.slice pa x.Req.Pieces.length pc,.slice ba x.Bites.length bc] 40)).heap.size from (HA3.out.ext.al _).size)
   have HX:=hid hx
   have HHB:=hid hb12
   have HKL:=hid hkl
   clear hpx hbx hbc hlx hap o1 o2 o3 o4 hx ho hbok
   generalize hpn:x.Req.Pieces.length=pn at *
   generalize hbn:x.Bites.length=bn at *
   clear hpn hbn
   go_wp2_with (at_builtin;refine wpList_append_lies _ rfl _ _ 23 rfl w0.heap.size 40 ib _ 7 88 Tryz.underlying23 ib1 ib2 ib3 ib4 rfl (by decide) u3 a.length css.flatten rfl HO1.out ⟨wv.heap.size,0,none⟩ 1 1 [.int .i64 x.Id,.int .i64 x.Req.Queue,.int .i64 x.Req.From,.int .i64 x.Req.Until,.int .i64 x.Req.Kind,.slice pa pn pc,.slice ba bn bc] rfl rfl HN7.out (by simp [Value.oneCell']) (by omega) (by unfold maxLen;omega) (by omega) HSZ.out (wv.heap.size+1) (by simp) ?_;intro g2 cap2 W2 hown hgrow hlie hlt;have HA4:=hid (HPUSH.out W2 g2 cap2 hown hgrow hlie);have k4:W2.cell? ⟨X,3,none⟩=some (.slice (some ⟨gb,0,none⟩) b.length cap):=cell_of_row W2 X 3 _ _ _ HA4.out.box;clear hown hgrow hlie)
   have DL:=hid (Delete_any _ _ W2 _ gb b.length cap k l b HA4.out.own rfl HKL.out HHB.out)
   refine DL.out.mono ?_
   rintro e W3 ⟨rfl,hO3,hg3⟩
   have hb3:=(hg3.block X (Array.getElem?_eq_some_iff.1 HA4.out.box).1 (fun e=>HA4.out.gbX.1 (Option.some.inj e).symm)).trans HA4.out.box
   have k5:W3.cell? ⟨X,3,none⟩=some (.slice (some ⟨gb,0,none⟩) b.length cap):=cell_of_row W3 X 3 _ _ _ hb3
   have f5:=frozen_of_row W3 X 3 _ _ hb3
   have HA5:=hid (HA4.out.drop HKL.out hO3 hg3)
   clear hb3 hO3 hg3 k4 DL HPUSH HA3 HA4
   go_wp2_with fail
   go_roundw
   case rel =>
    have e:(a++[x]).length=a.length+1:=by simp
    rw [e] at HA5
    exact ⟨_,_,HA5,HST⟩
   case measure=>rw [boxLen_of HA5.out,HBL.out,List.length_eraseIdx_of_lt HKL.out];omega
theorem relieve_none (w0 w:World) (X:Nat) (u v:Value) (c nx:Int) (l:List Queue) (hX:w.heap[X]?=some (.cells #[.int .i64 c,.int .i64 nx,u,v] 25 (0,0))) (hO:OwnS [X] w0.heap.size w u v l []) (ok:TreeOk l) (hc:0≤c∧c≤48) :
  Calls Tryz.prog 84 #[.pointer (some ⟨X,0,none⟩)] w fun e w'=>e=.returned (.slice none 0 0)∧Ext w w':=by
 obtain ⟨gq,qc,rfl,_,_⟩:=hO.uform
 obtain ⟨va,vc,hv,_⟩:=hO.vform
 have hv:v=.slice va 0 vc:=hv
 subst hv
 have hf:FitsT l [] c.toNat:=fun t h1 h2 p hp=>by
  have:=cap_num ok hp t
  unfold leftT
  simp only [takenT]
  omega
 have HO:=hid hO
 have HX:=hid hX
 clear hX hO
 go_enter Tryz.func84,Tryz.ntmps84
 go_wp2_with fail
 refine wp_loop_rounds 1 ?_
 rw [rounds_succ]
 have T:=hid (fun p:Later w=>later_of p (v:=.tuple #[.int .i64 (tooR l [] c.toNat).1,.int .i64 (tooR l [] c.toNat).2.1,.bool (tooR l [] c.toNat).2.2]) (show Calls Tryz.prog 69 #[.slice (some ⟨gq,0,none⟩) l.length qc,.slice va 0 vc,.int .i64 c] p.v (RetToo p.v (tooR l [] c.toNat)) from by
  have:=loadToo_any p.v _ _ l [] c.toNat (by omega) (HO.out.tree.mono p.h) (HO.out.books.mono p.h) ok (fun x hx=>by cases hx) (by simp)
  rwa [Int.toNat_of_nonneg hc.1] at this))
 have k0:=fun p:Later w=>p.cell (cell_of_row w X 0 _ _ _ HX.out)
 have k2:=fun p:Later w=>p.cell (cell_of_row w X 2 _ _ _ HX.out)
 have k3:=fun p:Later w=>p.cell (cell_of_row w X 3 _ _ _ HX.out)
 rw [tooR_no hf] at T
 clear hf
 go_wp2_with fail
 refine region_later (by kernel_rfl) (by kernel_rfl) ?_
 repeat (go_big_quiet_step (first | with_reducible exact T.out _))
 refine wpQuiet_nil ?_
 rintro w' ⟨p,rfl⟩
 have HN:=hid (fun W=>sort_none W)
 have HP:=hid p.h
 clear T k0 k2 k3
 generalize p.v=wp at *
 go_wp2_with (go_at_call 140;refine (HN.out _).mono ?_;rintro e w' ⟨rfl,rfl⟩)
 go_ret
 exact ⟨rfl,HP.out⟩
end Go.Proofs.YtdcndkojmflhnaaGreat
