/- cut.Change; each theorem names its own conditions. -/
import Derived.Test.YtdcndkojmflhnaaGreatPCutG
set_option linter.unusedVariables false
set_option linter.unusedSimpArgs false
set_option maxRecDepth 100000
set_option maxHeartbeats 8000000
set_option linter.unusedSimpArgs false
set_option linter.unusedVariables false
namespace Go.Proofs.YtdcndkojmflhnaaGreat
open Go.RowKit
open List renaming getElem_toArray→zA,getElem_cons_zero→zB,getElem_cons_succ→zC,setIfInBounds_toArray→zD,set_cons_zero→zE,set_cons_succ→zF
theorem QRow.setC {bs:List Nat} {W:World} {g:Nat} {l:List Queue} (h:QRow bs W g l) {k:Nat} {x:Queue} (hk:l[k]?=some x) {cv:Value} {f:List Run} (hv:RunsV W cv f) (ha:ApartL (g::bs) cv):QRow bs (W.setCell ⟨g,k*3+2,none⟩ cv) g (l.set k ⟨x.Name,x.Parent,f⟩):=by
 obtain ⟨vs,h1,h2⟩:=h
 have hg:=grown_set W g (k*3+2) cv
 have hr:∀ r,some g=some r→r∈g::bs:=fun r e=>by cases e;exact List.mem_cons_self ..
 refine ⟨vs.set (k*3+2) cv,h1.set _ _,fun j y hj=>?_⟩
 by_cases hjk:j=k
 ·subst hjk
  obtain ⟨a,b,c,d,cw,e,f',i⟩:=h2 j x hk
  rw [List.getElem?_set_self (List.getElem?_eq_some_iff.1 hk).1] at hj
  cases hj
  exact ⟨by rw [List.getElem?_set_ne (by omega)];exact a,b,by rw [List.getElem?_set_ne (by omega)];exact c,d,cv,by rw [List.getElem?_set_self (List.getElem?_eq_some_iff.1 e).1],runs_grown hv ha hg hr,ha⟩
 ·rw [List.getElem?_set_ne (fun h=>hjk h.symm)] at hj
  obtain ⟨a,b,c,d,cw,e,f',i⟩:=h2 j y hj
  exact ⟨by rw [List.getElem?_set_ne (by omega)];exact a,b,by rw [List.getElem?_set_ne (by omega)];exact c,d,cw,by rw [List.getElem?_set_ne (by omega)];exact e,runs_grown f' i hg hr,i⟩
theorem OwnS.setC {ex:List Nat} {B g qc k:Nat} {W:World} {v cv:Value} {l:List Queue} {b:List Book} {f:List Run} (h:OwnS ex B W (.slice (some ⟨g,0,none⟩) l.length qc) v l b) (hk:k < l.length) (hv:RunsV W cv f) (hf:f≠[]) (ha:ApartL (g::(v.ownBlock.toList++(ex++List.range B))) cv) :
  OwnS ex B (W.setCell ⟨g,k*3+2,none⟩ cv) (.slice (some ⟨g,0,none⟩) l.length qc) v (setCap l k f) b:=by
 obtain ⟨g',qc',e,h1,h2,h5,h12,hgB,hs,he,hl,hc,ho,hne,hq⟩:=h
 cases e
 obtain ⟨x,hx⟩:=getA hk
 obtain ⟨e1,e2,_⟩:=at_some hx
 have hg:=grown_set W g (k*3+2) cv
 refine ⟨g,qc,by rw [setCap_len],by rw [setCap_len];exact h1,h2,by rw [setCap_len];exact h5,h12,hgB,Nat.lt_of_lt_of_le hs hg.size,he,hl,fun y hy=>?_,ho.keptR hg (List.mem_cons_self ..) (fun r hr e=>(hne r hr).1 e.symm),hne,?_⟩
 ·rcases List.mem_or_eq_of_mem_set hy with h | h
  ·exact hc y h
  ·rw [h];exact hf
 ·have:=hq.setC hx hv ha
  rw [← e1,← e2] at this
  exact this
theorem ints_of_ownsI {w:World} {base e:Nat} {v:Value} {xs:List Int} (h:w.ownsRow base e 1 v xs.length (xs.map fun n=>Value.int .i64 n)) (hi:∀ x∈xs,I64 x) (hl:xs.length≤17592186044416):IntsV w v xs:=by
 rcases h.2 with ⟨rfl,h0⟩ | ⟨g,cap,cur,rfl,hb,hg,hcp,hm,hcs,htk⟩
 ·exact .inl ⟨List.eq_nil_of_length_eq_zero h0,none,0,rfl,by omega⟩
 ·refine .inr ⟨g,0,cap,rfl,hcp,by unfold maxLen at hm;omega,hl,(Array.getElem?_eq_some_iff.1 hg).1,fun k x hk=>⟨?_,hi x (List.mem_of_getElem? hk)⟩⟩
  refine row_cell hg ?_
  have hkl:=(List.getElem?_eq_some_iff.1 hk).1
  have e:(xs.map fun n=>Value.int .i64 n)[k]?=some (.int .i64 x):=by rw [List.getElem?_map,hk];rfl
  rw [← htk,List.getElem?_take_of_lt (by omega)] at e
  rw [Nat.zero_add,Nat.mul_one];exact e
structure ChangeIn (w0:World) (X gq qc gb cap:Nat) (c nx:Int) (l:List Queue) (A:List Book) (va:Value) (b:List Book) (m d:List Int) (vm vd:Value) (W:World):Prop where
 box:W.heap[X]?=some (.cells #[.int .i64 c,.int .i64 nx,.slice (some ⟨gq,0,none⟩) l.length qc,.slice (some ⟨gb,0,none⟩) b.length cap] 25 (0,0))
 own:OwnS (vm.ownBlock.toList++(vd.ownBlock.toList++(va.ownBlock.toList++[X]))) w0.heap.size W (.slice (some ⟨gq,0,none⟩) l.length qc) (.slice (some ⟨gb,0,none⟩) b.length cap) l b
 away:OwnB (vm.ownBlock.toList++(vd.ownBlock.toList++(gb::gq::X::List.range w0.heap.size))) w0.heap.size W va A
 live:LiveB A
 mrow:W.ownsRow w0.heap.size 3 1 vm m.length (m.map fun n=>Value.int .i64 n)
 drow:W.ownsRow w0.heap.size 3 1 vd d.length (d.map fun n=>Value.int .i64 n)
 mapart:∀ r,vm.ownBlock=some r→r≠X∧va.ownBlock≠some r∧vd.ownBlock≠some r
 dapart:∀ r,vd.ownBlock=some r→r≠X∧va.ownBlock≠some r∧vm.ownBlock≠some r
 aapart:va.ownBlock≠some X
 ext:Ext w0 W
 low:w0.heap.size≤X
section
variable {w0 W:World} {X gq qc gb cap:Nat} {c nx:Int} {l:List Queue} {A b:List Book} {m d:List Int} {va vm vd:Value}
theorem mem3 {α:Type} {r:α} {a b c:List α}:r∈a++(b++c)→r∈b++(a++c):=fun h=>by
 simp only [List.mem_append] at h ⊢
 rcases h with h | h | h
 ·exact .inr (.inl h)
 ·exact .inl h
 ·exact .inr (.inr h)
theorem ChangeIn.swap (h:ChangeIn w0 X gq qc gb cap c nx l A va b m d vm vd W):ChangeIn w0 X gq qc gb cap c nx l A va b d m vd vm W :=
 ⟨h.box,h.own.low (Nat.le_refl _) (fun r hr=>mem3 hr),h.away.sub (fun r hr=>mem3 hr),h.live,h.drow,h.mrow,h.dapart,h.mapart,h.aapart,h.ext,h.low⟩
theorem ChangeIn.later {W':World} (h:ChangeIn w0 X gq qc gb cap c nx l A va b m d vm vd W) (hx:Ext W W'):ChangeIn w0 X gq qc gb cap c nx l A va b m d vm vd W' :=
 ⟨blk_ext h.box hx,h.own.ext hx,h.away.ext hx,h.live,ownsRow_ext h.mrow hx,ownsRow_ext h.drow hx,h.mapart,h.dapart,h.aapart,h.ext.tr hx,h.low⟩
theorem ChangeIn.ne (h:ChangeIn w0 X gq qc gb cap c nx l A va b m d vm vd W):(gb≠X∧gq≠X∧gq≠gb∧w0.heap.size≤gb∧gb < W.heap.size∧gq < W.heap.size)∧(∀ r,vm.ownBlock=some r→r≠gb∧r≠gq)∧(∀ r,vd.ownBlock=some r→r≠gb∧r≠gq)∧∀ r,va.ownBlock=some r→r≠gb∧r≠gq:=by
 obtain ⟨g,qc',e,h1,h2,h5,h12,hgB,hs,he,_,_,⟨css,o1,_⟩,hne,_⟩:=h.own
 cases e
 have hg:=o1.lt gb rfl
 have hgb:=(hne gb rfl).2
 have X1:∀ r,r∈vm.ownBlock.toList++(vd.ownBlock.toList++(va.ownBlock.toList++[X]))→r≠gb∧r≠gq:=fun r hr=>⟨fun e=>hgb (e▸hr),fun e=>he (e▸hr)⟩
 refine ⟨⟨fun e=>(X1 X (by simp)).1 e.symm,fun e=>(X1 X (by simp)).2 e.symm,(hne gb rfl).1,hg.1,hg.2,hs⟩,fun r hr=>X1 r (by simp [hr]),fun r hr=>X1 r (by simp [hr]),fun r hr=>X1 r (by simp [hr])⟩
theorem ownsRow_keptR {W W':World} {base e sz n:Nat} {v:Value} {xs:List Value} {row:Option Nat} (h:W.ownsRow base e sz v n xs) (hg:W.grownBy W' row) (hne:∀ r,v.ownBlock=some r→row≠some r):W'.ownsRow base e sz v n xs:=by
 refine ⟨h.1,?_⟩
 rcases h.2 with h | ⟨g,cap,cur,hv,hb,hc,q⟩
 ·exact .inl h
 ·exact .inr ⟨g,cap,cur,hv,hb,(hg.block g (Array.getElem?_eq_some_iff.1 hc).1 (fun e=>hne g (by rw [hv];rfl) e.symm)).trans hc,q⟩
theorem ChangeIn.back {W1 W2:World} {b2:List Book} (h:ChangeIn w0 X gq qc gb cap c nx l A va b m d vm vd W) (hx:Ext W W1) (hg:W1.grownBy W2 (some gb)) (v:Value)
  (hbox:(W2.setCell ⟨X,3,none⟩ v).heap[X]?=some (.cells #[.int .i64 c,.int .i64 nx,.slice (some ⟨gq,0,none⟩) l.length qc,.slice (some ⟨gb,0,none⟩) b2.length cap] 25 (0,0)))
  (hown:OwnS (vm.ownBlock.toList++(vd.ownBlock.toList++(va.ownBlock.toList++[X]))) w0.heap.size (W2.setCell ⟨X,3,none⟩ v) (.slice (some ⟨gq,0,none⟩) l.length qc) (.slice (some ⟨gb,0,none⟩) b2.length cap) l b2) :
  ChangeIn w0 X gq qc gb cap c nx l A va b2 m d vm vd (W2.setCell ⟨X,3,none⟩ v):=by
 obtain ⟨⟨n1,n2,n3,n4,n5,_⟩,k1,k2,k3⟩:=h.ne
 have hs:=grown_set W2 X 3 v
 refine ⟨hbox,hown,?_,h.live,?_,?_,h.mapart,h.dapart,h.aapart,?_,h.low⟩
 ·refine ((h.away.ext hx).keptR hg (by simp) (fun r hr=>(k3 r hr).1)).keptR hs (by simp) (fun r hr e=>h.aapart (e▸hr))
 ·refine ownsRow_keptR (ownsRow_keptR (ownsRow_ext h.mrow hx) hg (fun r hr e=>(k1 r hr).1 (Option.some.inj e).symm)) hs (fun r hr e=>(h.mapart r hr).1 (Option.some.inj e).symm)
 ·refine ownsRow_keptR (ownsRow_keptR (ownsRow_ext h.drow hx) hg (fun r hr e=>(k2 r hr).1 (Option.some.inj e).symm)) hs (fun r hr e=>(h.dapart r hr).1 (Option.some.inj e).symm)
 ·exact ((h.ext.tr hx).gr (v:=.slice (some ⟨gb,0,none⟩) 0 0) hg (fun k hk=>by have e:=Option.some.inj hk;have e2:gb=k:=e;omega)).se h.low _
theorem ChangeIn.push {W':World} {g2 cap2:Nat} {n:Int} (h:ChangeIn w0 X gq qc gb cap c nx l A va b m d vm vd W)
  (hown:W'.ownsRow w0.heap.size 3 1 (.slice (some ⟨g2,0,none⟩) (m.length+1) cap2) (m.length+1) ((m.map fun n=>Value.int .i64 n)++[.int .i64 n]))
  (hg:(W.alloc (.cells #[.int .i64 n] 3)).grownBy W' vm.ownBlock) (hlie:vm.ownBlock=some g2∨g2=W.heap.size+1) :
  ChangeIn w0 X gq qc gb cap c nx l A va b (m++[n]) d (.slice (some ⟨g2,0,none⟩) (m++[n]).length cap2) vd W':=by
 have hlen:(m++[n]).length=m.length+1:=by simp
 obtain ⟨⟨n1,n2,n3,n4,n5,n6⟩,k1,k2,k3⟩:=h.ne
 have hXw:=(Array.getElem?_eq_some_iff.1 h.box).1
 have h1:=h.later ((Ext.rf W).al (.cells #[.int .i64 n] 3))
 have hsz:(W.alloc (.cells #[.int .i64 n] 3)).heap.size=W.heap.size+1:=World.size_alloc ..
 have hva:∀ r,va.ownBlock=some r→r < W.heap.size:=fun r hr=>by obtain ⟨css,o1,_⟩:=h.away;exact (o1.lt r hr).2
 have hvd:∀ r,vd.ownBlock=some r→r < W.heap.size:=fun r hr=>(h.drow.lt r hr).2
 have hg2:g2≠X∧va.ownBlock≠some g2∧vd.ownBlock≠some g2:=by
  rcases hlie with e | e
  ·exact h.mapart g2 e
  ·exact ⟨by omega,fun e2=>by have:=hva g2 e2;omega,fun e2=>by have:=hvd g2 e2;omega⟩
 have e2:(Value.slice (some ⟨g2,0,none⟩) (m++[n]).length cap2).ownBlock=some g2:=rfl
 refine ⟨?_,?_,?_,h.live,?_,?_,fun r hr=>?_,fun r hr=>?_,h.aapart,?_,h.low⟩
 ·exact (hg.block X (Nat.lt_of_lt_of_le hXw (by omega)) (fun e=>(h.mapart X e.symm).1 rfl)).trans h1.box
 ·have hO2:OwnS (g2::(vm.ownBlock.toList++(vd.ownBlock.toList++(va.ownBlock.toList++[X])))) w0.heap.size (W.alloc (.cells #[.int .i64 n] 3)) (.slice (some ⟨gq,0,none⟩) l.length qc) (.slice (some ⟨gb,0,none⟩) b.length cap) l b:=by
   rcases hlie with e | e
   ·exact h1.own.low (Nat.le_refl _) (fun r hr=>by
     rcases List.mem_cons.1 hr with rfl | hr
     ·exact List.mem_append_left _ (by rw [e];exact List.mem_singleton.2 rfl)
     ·exact hr)
   ·exact h1.own.box (by omega)
  refine (hO2.keptR hg (fun r hr=>List.mem_cons_of_mem _ (List.mem_append_left _ (by rw [hr];exact List.mem_singleton.2 rfl)))).low (Nat.le_refl _) (fun r hr=>?_)
  rw [e2] at hr
  rcases List.mem_append.1 hr with h | h
  ·rw [List.mem_singleton.1 h];exact List.mem_cons_self ..
  ·exact List.mem_cons_of_mem _ (List.mem_append_right _ h)
 ·have hA2:OwnB (g2::(vm.ownBlock.toList++(vd.ownBlock.toList++(gb::gq::X::List.range w0.heap.size)))) w0.heap.size (W.alloc (.cells #[.int .i64 n] 3)) va A:=by
   rcases hlie with e | e
   ·exact h1.away.sub (fun r hr=>by
     rcases List.mem_cons.1 hr with rfl | hr
     ·exact List.mem_append_left _ (by rw [e];exact List.mem_singleton.2 rfl)
     ·exact hr)
   ·exact h1.away.low_all h.live (by omega)
  have hA3:OwnB (g2::(vm.ownBlock.toList++(vd.ownBlock.toList++(gb::gq::X::List.range w0.heap.size)))) w0.heap.size W' va A:=by
   cases hv:vm.ownBlock with
   | none=>rw [hv] at hg hA2;exact hA2.ext ((Ext.rf _).gr (v:=.bool true) hg (fun k e=>by cases e))
   | some r=>rw [hv] at hg hA2;exact hA2.keptR hg (by simp) (fun k hk e=>(h.mapart r hv).2.1 (e▸hk))
  refine hA3.sub (fun r hr=>?_)
  rw [e2] at hr
  rcases List.mem_append.1 hr with h | h
  ·rw [List.mem_singleton.1 h];exact List.mem_cons_self ..
  ·exact List.mem_cons_of_mem _ (List.mem_append_right _ h)
 ·rw [hlen,List.map_append];exact hown
 ·exact ownsRow_keptR h1.drow hg (fun r hr e=>(h.dapart r hr).2.2 e)
 ·have:g2=r:=by simpa [Value.ownBlock] using hr
  rw [← this];exact hg2
 ·exact ⟨(h.dapart r hr).1,(h.dapart r hr).2.1,fun e=>hg2.2.2 (by
                                    have:g2=r:=by simpa [Value.ownBlock] using e
                                    rw [this];exact hr)⟩
 ·exact (h1.ext).gr hg (fun k hk=>(h.mrow.lt k hk).1)
theorem ChangeIn.take {k:Nat} {x:Book} (h:ChangeIn w0 X gq qc gb cap c nx l A va b m d vm vd W) (hk:A[k]?=some x) :
  ∃ ga ca pv bv,va=.slice (some ⟨ga,0,none⟩) A.length ca∧BCells W ga (k*7) x pv bv∧BookC W [.int .i64 x.Id,.int .i64 x.Req.Queue,.int .i64 x.Req.From,.int .i64 x.Req.Until,.int .i64 x.Req.Kind,pv,bv] x ∧
   ∀ s∈([.int .i64 x.Id,.int .i64 x.Req.Queue,.int .i64 x.Req.From,.int .i64 x.Req.Until,.int .i64 x.Req.Kind,pv,bv]:List Value),∀ a n c,s=.slice (some a) n c→a.block < W.heap.size∧a.block≠gb∧w0.heap.size≤a.block∧a.block ∉ vm.ownBlock.toList++(vd.ownBlock.toList++(va.ownBlock.toList++[X]))∧∀ r,(Value.slice (some ⟨gq,0,none⟩) l.length qc).ownBlock=some r→a.block≠r:=by
 obtain ⟨css,o1,o2,o3,o4⟩:=h.away
 have hkl:=(List.getElem?_eq_some_iff.1 hk).1
 rcases o1.2 with ⟨_,h0⟩ | ⟨ga,ca,cur,hv,hb,hcur,hnc,hcm,hcs,htk⟩
 ·omega
 obtain ⟨cs,hcs'⟩:=getA (f:=css) (k:=k) (by rw [o2.len];exact hkl)
 have hbc:=o2.each k cs x hcs' hk
 have hmem:=List.mem_of_getElem? hcs'
 have hcell:∀ (j:Nat) v,j < 7→cs[j]?=some v→W.cell? ⟨ga,k*7+j,none⟩=some v:=fun j v hj hv=>by
  refine row_cell hcur ?_
  have e:=flatw (m:=7) (by omega) css o2.seven k j hj
  rw [hcs'] at e
  have e2:css.flatten[k*7+j]?=some v:=by rw [e];exact hv
  rw [← htk,List.getElem?_take] at e2
  split at e2
  ·exact e2
  ·cases e2
 have hlow:=cells7_low o2 (fun x hx=>(h.live x hx).1) cs hmem
 have hap:=o3 cs hmem
 have hap2:=o4 ga (by rw [hv];rfl) cs hmem
 have hbc':=hbc
 obtain ⟨qs,bv,rfl,⟨pv,rfl,_⟩,_⟩:=hbc
 refine ⟨ga,ca,pv,bv,hv,⟨hcell 0 _ (by omega) rfl,hcell 1 _ (by omega) rfl,hcell 2 _ (by omega) rfl,hcell 3 _ (by omega) rfl,hcell 4 _ (by omega) rfl,hcell 5 _ (by omega) rfl,hcell 6 _ (by omega) rfl⟩,hbc',fun s hsm a n c e=>?_⟩
 have e1:=hlow s hsm a n c e
 have e2:=hap s hsm a n c e
 have e3:=hap2 s hsm a n c e
 have hvb:va.ownBlock=some ga:=by rw [hv];rfl
 refine ⟨e1,fun h=>e2 (by simp [h]),?_,fun h=>?_,fun r hr h=>e2 ?_⟩
 ·rcases Nat.lt_or_ge a.block w0.heap.size with h | h
  ·exact absurd (show a.block∈_ from by simp [List.mem_range.2 h,h]) e2
  ·exact h
 ·simp only [List.mem_append,List.mem_singleton,hvb,Option.toList_some] at h
  rcases h with h | h | h | h
  ·exact e2 (List.mem_append_left _ h)
  ·exact e2 (List.mem_append_right _ (List.mem_append_left _ h))
  ·exact e3 (List.mem_singleton.2 h)
  ·exact e2 (by simp [h])
 ·have:gq=r:=by simpa [Value.ownBlock] using hr
  simp [h,← this]
end
def RetChange (w:World) (x:State × List Int × List Int × Int) (e:Ending) (w':World):Prop :=
 ∃ u v mv dv,e=.returned (.tuple #[.agg #[.int .i64 x.1.Clock,.int .i64 x.1.Next,u,v],mv,dv,.int .i64 x.2.2.2])∧StS w.heap.size w' u v x.1∧IntsV w' mv x.2.1∧IntsV w' dv x.2.2.1∧Ext w w'
theorem retChange_of {w w':World} {x:State × List Int × List Int × Int} {s:State} {m d:List Int} {n:Int} {u v mv dv:Value} (h:x=(s,m,d,n)) (h1:StS w.heap.size w' u v s) (h2:IntsV w' mv m) (h3:IntsV w' dv d) (hx:Ext w w') :
  RetChange w x (.returned (.tuple #[.agg #[.int .i64 s.Clock,.int .i64 s.Next,u,v],mv,dv,.int .i64 n])) w':=by
 subst h;exact ⟨u,v,mv,dv,rfl,h1,h2,h3,hx⟩
theorem retChange_none {w w':World} {x:State × List Int × List Int × Int} {n:Int} (h:x=(noneS,[],[],n)) (hx:Ext w w'):RetChange w x (.returned (.tuple #[.agg #[.int .i64 0,.int .i64 0,.slice none 0 0,.slice none 0 0],.slice none 0 0,.slice none 0 0,.int .i64 n])) w' :=
 retChange_of (s:=noneS) h (.inr ⟨rfl,rfl,rfl,rfl⟩) SV.nil SV.nil hx
theorem results_row_three {P:Program} {fn:Func} {p u1 u2 u3:Tmp} {ty:TypeId} (h:fn.results=#[.cell p ty,.tmp u1,.tmp u2,.tmp u3]) (tmps:Array Value) (w:World) (g:Nat) (t:TypeId) (cs:Array Value) (fr:Nat × Nat) (d:TypeDesc)
  (hp:tmps.getD p undef=.pointer (some ⟨g,0,none⟩)) (hg:w.heap[g]?=some (.cells cs t fr))
  (hu:P.underlying ty=some d) (hd:(match d with | .struct _ | .array _ _=>true | _=>false)=true) (hi:(P.info? ty).map (·.size)=some cs.size) :
  (results fn tmps).run P w=.ok (.tuple #[.agg cs,tmps.getD u1 undef,tmps.getD u2 undef,tmps.getD u3 undef]) w:=by
 have hp':tmps[p]?.getD undef=.pointer (some ⟨g,0,none⟩):=by simpa using hp
 simp [results,h,hp',asAddr,run_loadVar_row w g t ty cs fr d hg hu hd hi]
theorem Change_bad (w:World) (tv bv rv:Value) (s:State) (q:Int) (f:List Run) (hl:QueuesV w tv s.Tree) (hb:BooksV w bv s.Books) (hr:RunsV w rv f) (h0:stateE s≠0) :
  Calls Tryz.prog 41 #[.agg #[.int .i64 s.Clock,.int .i64 s.Next,tv,bv],.int .i64 q,rv] w (RetChange w (changeR s q f)):=by
 have F:=hid (fun (W:World) (h:Ext w W)=>planCheck_any W tv bv s (hl.mono h) (hb.mono h))
 have CF:=hid (fun (W:World) (h:Ext w W)=>Cap_any W rv f (hr.mono h))
 obtain ⟨wb,hwb,HX,HSS,HZZ,hszb⟩:=two_boxes2 w s tv bv
 have HX0:=hid HX
 have HS0:=hid HSS
 have HZ0:=hid HZZ
 have HWB:=hid hwb
 have HSB:=hid hszb
 clear HX HSS HZZ hwb hszb
 have HR:=hid (changeR_bad (q:=q) (f:=f) h0)
 have hne:=neT h0
 generalize stateE s=se at *
 obtain ⟨qa,qc,rfl,_,_,_⟩:=hl.form
 obtain ⟨ba,bc,rfl,_,_,_⟩:=hb.form
 obtain ⟨fa,fc,rfl,_,_,_⟩:=hr.form
 clear hl hb hr h0
 generalize changeR s q f=cr at *
 generalize s.Tree.length=n at *
 generalize s.Books.length=z at *
 generalize f.length=fl at *
 go_enter Tryz.func41,Tryz.ntmps41
 go_wp2_with fail
 rw [HWB.out]
 refine (F.out _ HX0.out).mono ?_
 rintro e w2 ⟨rfl,hx2⟩
 have HB:=hid (HZ0.out w2 hx2)
 have HX2:=hid ((HX0.out.tr hx2).sr (b:=w.heap.size+1) (by omega) #[.int .i64 0,.int .i64 0,.slice none 0 0,.slice none 0 0])
 have HB2:=hid (setRow_heap w2 (w.heap.size+1) _ #[.int .i64 0,.int .i64 0,.slice none 0 0,.slice none 0 0] _ _ HB.out)
 go_wp2_with (refine wpList_store_row rfl 25 _ _ rfl (w.heap.size+1) #[.int .i64 0,.int .i64 0,.slice none 0 0,.slice none 0 0] rfl rfl 25 _ HB.out Tryz.size25 rfl (by simp [Value.oneCell']) ?_)
 exact bodyPost_ret (results_row_three (u1:=7) (u2:=8) (u3:=9) rfl _ _ (w.heap.size+1) 25 #[.int .i64 0,.int .i64 0,.slice none 0 0,.slice none 0 0] (0,0) _ rfl HB2.out Tryz.underlying25 rfl Tryz.size25) rfl (retChange_none HR.out HX2.out)
theorem Change_no (w:World) (tv bv rv:Value) (s:State) (q:Int) (f:List Run) (hl:QueuesV w tv s.Tree) (hb:BooksV w bv s.Books) (hr:RunsV w rv f) (h0:stateE s=0) (h1:¬ (0≤q∧q < s.Tree.length)) :
  Calls Tryz.prog 41 #[.agg #[.int .i64 s.Clock,.int .i64 s.Next,tv,bv],.int .i64 q,rv] w (RetChange w (changeR s q f)):=by
 have F:=hid (fun (W:World) (h:Ext w W)=>planCheck_any W tv bv s (hl.mono h) (hb.mono h))
 have CF:=hid (fun (W:World) (h:Ext w W)=>Cap_any W rv f (hr.mono h))
 obtain ⟨wb,hwb,HX,HSS,HZZ,hszb⟩:=two_boxes2 w s tv bv
 have HX0:=hid HX
 have HS0:=hid HSS
 have HZ0:=hid HZZ
 have HWB:=hid hwb
 have HSB:=hid hszb
 clear HX HSS HZZ hwb hszb
 have HR:=hid (changeR_none (f:=f) h0 h1)
 rw [h0] at F
 obtain ⟨qa,qc,rfl,_,_,_⟩:=hl.form
 obtain ⟨ba,bc,rfl,_,_,_⟩:=hb.form
 obtain ⟨fa,fc,rfl,_,_,_⟩:=hr.form
 clear hl hb hr h0
 generalize changeR s q f=cr at *
 generalize s.Tree.length=n at *
 generalize s.Books.length=z at *
 generalize f.length=fl at *
 go_enter Tryz.func41,Tryz.ntmps41
 go_wp2_with fail
 rw [HWB.out]
 refine (F.out _ HX0.out).mono ?_
 rintro e w2 ⟨rfl,hx2⟩
 obtain ⟨a0,a1,a2,a3⟩:=HS0.out w2 hx2
 by_cases hq:q < 0
 ·clear a0 a1 a3
  have HB:=hid (HZ0.out w2 hx2)
  have HX2:=hid ((HX0.out.tr hx2).sr (b:=w.heap.size+1) (by omega) #[.int .i64 0,.int .i64 0,.slice none 0 0,.slice none 0 0])
  have HB2:=hid (setRow_heap w2 (w.heap.size+1) _ #[.int .i64 0,.int .i64 0,.slice none 0 0,.slice none 0 0] _ _ HB.out)
  go_wp2_with (refine wpList_store_row rfl 25 _ _ rfl (w.heap.size+1) #[.int .i64 0,.int .i64 0,.slice none 0 0,.slice none 0 0] rfl rfl 25 _ HB.out Tryz.size25 rfl (by simp [Value.oneCell']) ?_)
  exact bodyPost_ret (results_row_three (u1:=7) (u2:=8) (u3:=9) rfl _ _ (w.heap.size+1) 25 #[.int .i64 0,.int .i64 0,.slice none 0 0,.slice none 0 0] (0,0) _ rfl HB2.out Tryz.underlying25 rfl Tryz.size25) rfl (retChange_none HR.out HX2.out)
 ·have hq2:¬ q < (n:Int):=by omega
  have hq3:(n:Int)≤q:=by omega
  clear a0 a1 a3
  have HB:=hid (HZ0.out w2 hx2)
  have HX2:=hid ((HX0.out.tr hx2).sr (b:=w.heap.size+1) (by omega) #[.int .i64 0,.int .i64 0,.slice none 0 0,.slice none 0 0])
  have HB2:=hid (setRow_heap w2 (w.heap.size+1) _ #[.int .i64 0,.int .i64 0,.slice none 0 0,.slice none 0 0] _ _ HB.out)
  go_wp2_with (refine wpList_store_row rfl 25 _ _ rfl (w.heap.size+1) #[.int .i64 0,.int .i64 0,.slice none 0 0,.slice none 0 0] rfl rfl 25 _ HB.out Tryz.size25 rfl (by simp [Value.oneCell']) ?_)
  exact bodyPost_ret (results_row_three (u1:=7) (u2:=8) (u3:=9) rfl _ _ (w.heap.size+1) 25 #[.int .i64 0,.int .i64 0,.slice none 0 0,.slice none 0 0] (0,0) _ rfl HB2.out Tryz.underlying25 rfl Tryz.size25) rfl (retChange_none HR.out HX2.out)
theorem Change_form (w:World) (tv bv rv:Value) (s:State) (q:Int) (f:List Run) (hl:QueuesV w tv s.Tree) (hb:BooksV w bv s.Books) (hr:RunsV w rv f) (h0:stateE s=0) (h1:0≤q∧q < s.Tree.length) (h2:¬ CapOk f) :
  Calls Tryz.prog 41 #[.agg #[.int .i64 s.Clock,.int .i64 s.Next,tv,bv],.int .i64 q,rv] w (RetChange w (changeR s q f)):=by
 have F:=hid (fun (W:World) (h:Ext w W)=>planCheck_any W tv bv s (hl.mono h) (hb.mono h))
 have CF:=hid (fun (W:World) (h:Ext w W)=>Cap_any W rv f (hr.mono h))
 obtain ⟨wb,hwb,HX,HSS,HZZ,hszb⟩:=two_boxes2 w s tv bv
 have HX0:=hid HX
 have HS0:=hid HSS
 have HZ0:=hid HZZ
 have HWB:=hid hwb
 have HSB:=hid hszb
 clear HX HSS HZZ hwb hszb
 have HR:=hid (changeR_form h0 h1 h2)
 rw [h0] at F
 rw [deF h2] at CF
 clear h2
 obtain ⟨qa,qc,rfl,_,_,_⟩:=hl.form
 obtain ⟨ba,bc,rfl,_,_,_⟩:=hb.form
 obtain ⟨fa,fc,rfl,_,_,_⟩:=hr.form
 clear hl hb hr h0
 generalize changeR s q f=cr at *
 generalize s.Tree.length=n at *
 generalize s.Books.length=z at *
 generalize f.length=fl at *
 go_enter Tryz.func41,Tryz.ntmps41
 go_wp2_with fail
 rw [HWB.out]
 refine (F.out _ HX0.out).mono ?_
 rintro e w2 ⟨rfl,hx2⟩
 obtain ⟨a0,a1,a2,a3⟩:=HS0.out w2 hx2
 obtain ⟨hq1,hq2⟩:=h1
 have hq3:¬ q < 0:=by omega
 have hq4:¬ (n:Int)≤q:=by omega
 have HXB2:=hid hx2
 go_wp2_with fail
 refine (CF.out _ (HX0.out.tr hx2)).mono ?_
 rintro e w3 ⟨rfl,hx3⟩
 clear a0 a1 a2 a3
 have HB:=hid (HZ0.out w3 (HXB2.out.tr hx3))
 have HX2:=hid ((HX0.out.tr (HXB2.out.tr hx3)).sr (b:=w.heap.size+1) (by omega) #[.int .i64 0,.int .i64 0,.slice none 0 0,.slice none 0 0])
 have HB2:=hid (setRow_heap w3 (w.heap.size+1) _ #[.int .i64 0,.int .i64 0,.slice none 0 0,.slice none 0 0] _ _ HB.out)
 go_wp2_with (refine wpList_store_row rfl 25 _ _ rfl (w.heap.size+1) #[.int .i64 0,.int .i64 0,.slice none 0 0,.slice none 0 0] rfl rfl 25 _ HB.out Tryz.size25 rfl (by simp [Value.oneCell']) ?_)
 exact bodyPost_ret (results_row_three (u1:=7) (u2:=8) (u3:=9) rfl _ _ (w.heap.size+1) 25 #[.int .i64 0,.int .i64 0,.slice none 0 0,.slice none 0 0] (0,0) _ rfl HB2.out Tryz.underlying25 rfl Tryz.size25) rfl (retChange_none HR.out HX2.out)
theorem OwnS.capLe {ex:List Nat} {B g z cap:Nat} {W:World} {u:Value} {l:List Queue} {b:List Book} (h:OwnS ex B W u (.slice (some ⟨g,0,none⟩) z cap) l b) (hz:b.length=z):z≤cap:=by
 obtain ⟨_,_,_,_,_,_,_,_,_,_,_,_,⟨css,o1,_⟩,_⟩:=h
 rw [hz] at o1
 rcases o1.2 with ⟨hv,_⟩ | ⟨g',cap',cur,hv,hb,hcur,hnc,_⟩
 ·cases hv
 ·cases hv;exact hnc
theorem OwnS.qcell {ex:List Nat} {B g qc k:Nat} {W:World} {v:Value} {l:List Queue} {b:List Book} (h:OwnS ex B W (.slice (some ⟨g,0,none⟩) l.length qc) v l b) (hk:k < l.length):(∃ old,W.cell? ⟨g,k*3+2,none⟩=some old)∧W.frozen? ⟨g,k*3+2,none⟩=false:=by
 obtain ⟨g',qc',e,_,_,_,_,_,_,_,_,_,_,_,hq⟩:=h
 cases e
 obtain ⟨x,hx⟩:=getA hk
 obtain ⟨cv,h1,h2,_⟩:=hq.cell hx
 exact ⟨⟨cv,h1⟩,h2⟩
theorem end_none {s:State} (h:s.Books=[]) (k:Nat) (f:List Run):endB s k f=([],[],[]):=by
 have e:relB s k f=([],[]):=by unfold relB relL;rw [h];rfl
 unfold endB;rw [e];rfl
structure LoopAt (l:List Queue) (c nx:Int) (A:List Book) (N:Nat) (R:List Book × List Int × List Int) (j:Nat) (b:List Book) (m d:List Int):Prop where
 go:backsR l c (A.drop j) b m d=R
 right:stateE ⟨c,nx,l,b⟩=0
 diff:(b++A.drop j).Pairwise (fun x y=>x.Id≠y.Id)
 len:b.length+(A.drop j).length≤N
theorem drop_at {α:Type} {A:List α} {j:Nat} {x:α} (h:A[j]?=some x):A.drop j=x::A.drop (j+1):=by
 obtain ⟨hl,e⟩:=List.getElem?_eq_some_iff.1 h
 rw [← e];exact List.drop_eq_getElem_cons hl
theorem LoopAt.cons {l:List Queue} {c nx:Int} {A:List Book} {N j:Nat} {R:List Book × List Int × List Int} {b:List Book} {m d:List Int} {x:Book} (h:LoopAt l c nx A N R j b m d) (hx:A[j]?=some x):(∀ y∈b,y.Id≠x.Id)∧(b++A.drop (j+1)).Pairwise (fun x y=>x.Id≠y.Id)∧(∀ y∈b++A.drop (j+1),x.Id≠y.Id)∧b.length+(A.drop (j+1)).length+1≤N:=by
 have h1:=h.diff
 have h2:=h.len
 rw [drop_at hx] at h1 h2
 have h3:(x::(b++A.drop (j+1))).Pairwise (fun x y:Book=>x.Id≠y.Id):=(List.Perm.pairwise_iff (fun h e=>h e.symm) List.perm_middle).1 h1
 obtain ⟨h4,h5⟩:=List.pairwise_cons.1 h3
 exact ⟨fun y hy e=>h4 y (List.mem_append_left _ hy) e.symm,h5,h4,by rw [List.length_cons] at h2;omega⟩
theorem LoopAt.gone {l:List Queue} {c nx:Int} {A:List Book} {N j:Nat} {R:List Book × List Int × List Int} {b:List Book} {m d:List Int} {x:Book} (h:LoopAt l c nx A N R j b m d) (hx:A[j]?=some x) (hg:goneB l c b x=true):LoopAt l c nx A N R (j+1) b m (d++[x.Id]):=by
 have h1:=h.go
 have h2:=h.len
 rw [drop_at hx,backs_gone hg] at h1
 obtain ⟨p1,p2,p3,p4⟩:=h.cons hx
 exact ⟨h1,h.right,p2,by omega⟩
theorem LoopAt.put {l:List Queue} {c nx:Int} {A:List Book} {N j:Nat} {R:List Book × List Int × List Int} {b:List Book} {m d:List Int} {x:Book} (h:LoopAt l c nx A N R j b m d) (hx:A[j]?=some x) (hg:goneB l c b x=false) (hbk:BookOk l x) (hi:0≤x.Id∧x.Id < nx) (hN:N≤12):LoopAt l c nx A N R (j+1) (backB l c b x) (m++[x.Id]) d:=by
 have h1:=h.go
 rw [drop_at hx,backs_back hg] at h1
 obtain ⟨p1,p2,p3,p4⟩:=h.cons hx
 have hperm:(backB l c b x).Perm (⟨x.Id,x.Req,placedB l c b x⟩::b):=insB_perm _ _
 have hl:=hperm.length_eq
 rw [List.length_cons] at hl
 refine ⟨h1,(back_right h.right hbk hi p1 (by omega) hg).1,?_,by omega⟩
 exact (List.Perm.pairwise_iff (fun h e=>h e.symm) (List.Perm.append_right _ hperm)).2 (List.pairwise_cons.2 ⟨p3,p2⟩)
theorem back_len {l:List Queue} {c:Int} {b:List Book} {x:Book}:(backB l c b x).length=b.length+1:=(insB_perm _ _).length_eq
theorem capOk_ne {f:List Run} (h:CapOk f):f≠[]:=fun e=>by have:=h.1.1;rw [e] at this;exact this
theorem capOk_len {f:List Run} (h:CapOk f):f.length≤48:=shape_len h.1.1
theorem Change_rest (w:World) (tv bv rv:Value) (s:State) (k:Nat) (f:List Run) (hl:QueuesV w tv s.Tree) (hb:BooksV w bv s.Books) (hr:RunsV w rv f) (h0:stateE s=0) (h1:k < s.Tree.length) (h2:CapOk f) :
  Calls Tryz.prog 41 #[.agg #[.int .i64 s.Clock,.int .i64 s.Next,tv,bv],.int .i64 (k:Int),rv] w (RetChange w (changeR s (k:Int) f)):=by
 have F:=hid (fun (W:World) (h:Ext w W)=>planCheck_any W tv bv s (hl.mono h) (hb.mono h))
 have CF:=hid (fun (W:World) (h:Ext w W)=>Cap_any W rv f (hr.mono h))
 have CL:=hid (fun (W:World) (h:Ext w W)=>CloneRun_any W rv f (hr.mono h) (capOk_len h2))
 obtain ⟨ok,h12,hbok⟩:=right_of h0
 have OW:=hid (fun (W:World) (h:Ext w W)=>Own_S W tv bv s (hl.mono h) (hb.mono h) ok h12 hbok)
 obtain ⟨wb,hwb,HX,HSS,HZZ,hszb⟩:=two_boxes2 w s tv bv
 have HX0:=hid HX
 have HS0:=hid HSS
 have HZ0:=hid HZZ
 have HWB:=hid hwb
 have HSB:=hid hszb
 clear HX HSS HZZ hwb hszb
 have HR:=hid (changeR_ok h0 h1 h2)
 have H0:=hid h0
 have H2:=hid h2
 have HK:=hid h1
 have HOK:=hid hbok
 rw [h0] at F
 rw [deT h2] at CF
 obtain ⟨qa,qc0,rfl,_,_,_⟩:=hl.form
 obtain ⟨ba,bc,rfl,_,_,_⟩:=hb.form
 obtain ⟨fa,fc,rfl,_,_,_⟩:=hr.form
 have hq3:¬ (k:Int) < 0:=by omega
 have hq5:decide ((k:Int) < 0)=false:=deF hq3
 have hq4:¬ ((s.Tree.length:Nat):Int)≤(k:Int):=by omega
 clear hl hb hr h0 h2
 generalize changeR s (k:Int) f=cr at *
 generalize hqn:s.Tree.length=n at *
 generalize hbz:s.Books.length=z at *
 generalize hfl:f.length=fl at *
 have HQN:=hid hqn
 have HBZ:=hid hbz
 clear hqn hbz hfl
 go_enter Tryz.func41,Tryz.ntmps41
 go_wp2_with fail
 rw [HWB.out]
 refine (F.out _ HX0.out).mono ?_
 rintro e w2 ⟨rfl,hx2⟩
 obtain ⟨a0,a1,a2,a3⟩:=HS0.out w2 hx2
 have HXB2:=hid hx2
 go_wp2_with fail
 refine (CF.out _ (HX0.out.tr hx2)).mono ?_
 rintro e w3 ⟨rfl,hx3⟩
 clear a0 a1 a2 a3 hx2
 obtain ⟨a0,a1,a2,a3⟩:=HS0.out w3 (HXB2.out.tr hx3)
 have HXB3:=hid (HXB2.out.tr hx3)
 have HX3:=hid (HX0.out.tr HXB3.out)
 clear hx3
 go_wp2_with fail
 refine (OW.out _ HX3.out).mono ?_
 rintro e w7 ⟨u7,v7,rfl,hO7,hx7⟩
 clear a0 a1 a2 a3
 obtain ⟨gq,qc,rfl,hgB,hgs⟩:=hO7.uform
 obtain ⟨ra,rc,rfl,hrw⟩:=hO7.vform
 rw [HBZ.out] at hO7 hrw ⊢
 rw [HQN.out] at hO7 ⊢
 go_wp2_with fail
 obtain ⟨W8,hW8⟩:∃ W8,w7.alloc (.cells #[.int .i64 s.Clock,.int .i64 s.Next,.slice (some ⟨gq,0,none⟩) n qc,.slice ra z rc] 25)=W8:=⟨_,rfl⟩
 have hx8:Ext w7 W8:=hW8▸(Ext.rf w7).al _
 have hb8:W8.heap[w7.heap.size]?=some (.cells #[.int .i64 s.Clock,.int .i64 s.Next,.slice (some ⟨gq,0,none⟩) n qc,.slice ra z rc] 25 (0,0)):=hW8▸heap_alloc_new w7 _
 rw [hW8]
 have hO8:OwnS [w7.heap.size] wb.heap.size W8 (.slice (some ⟨gq,0,none⟩) n qc) (.slice ra z rc) s.Tree s.Books:=((hO7.low (B2:=wb.heap.size) HXB3.out.size (fun r hr=>hr)).box (r:=w7.heap.size) (Nat.le_refl _)).ext hx8
 have HO8:=hid hO8
 have HB8:=hid hb8
 have HX8:=hid (HX3.out.tr (hx7.tr hx8))
 have HXB8:=hid (HXB3.out.tr (hx7.tr hx8))
 have HX78:=hid hx8
 have HGQ:=hid (And.intro hgB hgs)
 have HS3:=hid (And.intro HX3.out.size hx7.size)
 have HRW:=hid hrw
 clear hO8 hb8 hx7 hx8 hO7 hW8 hgB hgs hrw
 have CL8:=hid (CL.out W8.drew HX8.out.dr)
 have e2:W8.cell? ⟨w7.heap.size,2,none⟩=some (.slice (some ⟨gq,0,none⟩) n qc):=cell_of_row _ _ 2 _ _ _ HB8.out
 refine wp_region_tail 7 (fun W=>W.cell? ⟨w7.heap.size,2,none⟩=some (.slice (some ⟨gq,0,none⟩) n qc)) (by kernel_rfl) e2 (fun hHeld=>?_)
 clear e2
 refine wpAnyT_take (i:=0) (v:=?_) rfl (by kernel_rfl) (fun _ _ _ h=>h) (Or.inl ⟨by rfl,?_⟩) (by assumption) ?_
 rotate_left
 ·intro W hSW
  simp only [zA,zB]
  (try dsimp only at hSW)
  go_simp
  (try with_reducible rfl)
 simp only [zA,zB,Act.put,zD,zE,zF]
 refine wpAnyT_take (i:=1) (v:=?_) rfl (by kernel_rfl) (fun _ _ _ h=>h) (Or.inl ⟨by rfl,?_⟩) (by assumption) ?_
 rotate_left
 ·intro W hSW
  simp only [zA,zB,zC]
  (try dsimp only at hSW)
  go_simp
  (try with_reducible rfl)
 simp only [zA,zB,zC,Act.put,zD,zE,zF]
 refine wpAnyT_take (i:=2) (v:=?_) rfl (by kernel_rfl) (fun _ _ _ h=>h) (Or.inl ⟨by rfl,?_⟩) (by assumption) ?_
 rotate_left
 ·intro W hSW
  simp only [zA,zB,zC]
  (try dsimp only at hSW)
  go_simp
  (try with_reducible rfl)
 simp only [zA,zB,zC,Act.put,zD,zE,zF]
 refine wpAnyT_take (i:=3) (v:=?_) rfl (by kernel_rfl) (fun _ _ _ h=>h) (Or.inl ⟨by rfl,?_⟩) (by assumption) ?_
 rotate_left
 ·intro W hSW
  simp only [zA,zB,zC]
  (try dsimp only at hSW)
  go_simp
  (try with_reducible rfl)
 simp only [zA,zB,zC,Act.put,zD,zE,zF]
 refine wpAnyT_go (i:=4) (by kernel_rfl) rfl (fun K hK=>?_)
 simp only [zA,zB,zC]
 go_simp
 refine CL8.out.mono ?_
 rintro e W9 ⟨cv,rfl,hcv,hfr,hx9⟩
 go_wp2_with fail
 refine hK.out _ _ ?_ (fun hHeld=>?_)
 ·(exact hx9.ce' hHeld)
 clear hK K
 refine wpAnyT_take (i:=5) (v:=?_) rfl (by kernel_rfl) (fun _ _ _ h=>h) (Or.inl ⟨by rfl,?_⟩) (by assumption) ?_
 rotate_left
 ·intro W hSW
  simp only [zA,zB,zC]
  (try dsimp only at hSW)
  go_simp
  (try with_reducible rfl)
 simp only [zA,zB,zC,Act.put,zD,zE,zF]
 refine wpAnyT_take (i:=6) (v:=?_) rfl (by kernel_rfl) (fun _ _ _ h=>h) (Or.inl ⟨by rfl,?_⟩) (by assumption) ?_
 rotate_left
 ·intro W hSW
  simp only [zA,zB,zC]
  (try dsimp only at hSW)
  go_simp
  (try with_reducible rfl)
 simp only [zA,zB,zC,Act.put,zD,zE,zF]
 have hx89:Ext W8 W9:=(Ext.rf W8).dr.tr hx9
 have hO9:=HO8.out.ext hx89
 rw [← HQN.out] at hO9
 obtain ⟨⟨old,k0⟩,f0⟩:=hO9.qcell (k:=k) (by rw [HQN.out];exact HK.out)
 have hrb:∀ r,(Value.slice ra z rc).ownBlock=some r→r < w7.heap.size:=fun r hr=>(HRW.out r hr).2
 have hO10:=hO9.setC (k:=k) (by rw [HQN.out];exact HK.out) hcv (capOk_ne H2.out) (fun a m c e hm=>by
  have h1:=hfr a m c e
  have h2:W8.drew.heap.size=W8.heap.size:=rfl
  have h3:=HXB8.out.size
  have h4:=(Array.getElem?_eq_some_iff.1 HB8.out).1
  have h5:=HGQ.out.2
  have h6:=HX78.out.size
  simp only [List.mem_cons,List.mem_append,List.not_mem_nil,or_false,Option.mem_toList] at hm
  rcases hm with hm | hm | hm | hm
  ·omega
  ·have:=hrb _ hm;omega
  ·omega
  ·have:=range_lt hm;omega)
 rw [HQN.out] at hO10
 have hb10:(W9.setCell ⟨gq,k*3+2,none⟩ cv).heap[w7.heap.size]?=some (.cells #[.int .i64 s.Clock,.int .i64 s.Next,.slice (some ⟨gq,0,none⟩) n qc,.slice ra z rc] 25 (0,0)):=by
  rw [heap_setCell_other W9 ⟨gq,k*3+2,none⟩ _ _ (by show w7.heap.size≠gq;have:=HGQ.out.2;omega)]
  exact blk_ext HB8.out hx89
 have hx10:Ext wb (W9.setCell ⟨gq,k*3+2,none⟩ cv):=(HXB8.out.tr hx89).se (b:=gq) (o:=k*3+2) (by have:=HGQ.out.1;have:=HXB3.out.size;omega) cv
 obtain ⟨ca,cn,cc,rfl⟩:∃ a n c,cv=.slice a n c:=by obtain ⟨a,c,e,_⟩:=hcv.form;exact ⟨a,_,c,e⟩
 have HO10:=hid hO10
 have HB10:=hid hb10
 have HX10:=hid hx10
 clear hO9 hO10 hb10 hx10 hcv hfr hx9 hHeld hx89 HO8 CL8
 refine wpAnyT_last (t:=7) (by kernel_rfl) rfl (by kernel_rfl) (fun K hK=>?_)
 simp only [zA,zB,zC]
 go_simp
 refine hK.out _ _ ?_
 clear hK K
 generalize W9.setCell ⟨gq,k*3+2,none⟩ (.slice ca cn cc)=W10 at *
 have hXl:wb.heap.size≤w7.heap.size:=by have:=HXB3.out.size;have:=HS3.out.2;omega
 have HOKT:=hid (treeOk_set (q:=k) (booksE_zero (formE_zero (stateE_zero H0.out).1).1).2.1 H2.out)
 have hcl:=(formE_zero (stateE_zero H0.out).1).2.1
 have HCL:=hid (show 0≤s.Clock∧s.Clock≤48 from ⟨hcl.1,hcl.2.1⟩)
 rcases Nat.eq_zero_or_pos z with hz0 | hz0
 ·have hbn:s.Books=[]:=List.eq_nil_of_length_eq_zero (by rw [HBZ.out];exact hz0)
  have hO:=HO10.out
  rw [hbn] at hO
  have RN:=hid (relieve_none wb W10 w7.heap.size _ _ s.Clock s.Next _ HB10.out hO HOKT.out HCL.out)
  clear hO
  go_wp2_with (go_at_call 84;refine RN.out.mono ?_;rintro e W11 ⟨rfl,hx11⟩)
  refine wp_loop_rounds 1 ?_
  rw [rounds_succ]
  have HB11:=hid (blk_ext HB10.out hx11)
  have HX11:=hid (HX10.out.tr hx11)
  have HO11:=hid (HO10.out.ext hx11)
  have HZ:=hid (HZ0.out _ (HX10.out.tr hx11))
  clear hx11
  have e0:W11.cell? ⟨w7.heap.size,0,none⟩=some (.int .i64 s.Clock):=cell_of_row _ _ 0 _ _ _ HB11.out
  have e1:W11.cell? ⟨w7.heap.size,1,none⟩=some (.int .i64 s.Next):=cell_of_row _ _ 1 _ _ _ HB11.out
  have e2:W11.cell? ⟨w7.heap.size,2,none⟩=some (.slice (some ⟨gq,0,none⟩) n qc):=cell_of_row _ _ 2 _ _ _ HB11.out
  have e3:W11.cell? ⟨w7.heap.size,3,none⟩=some (.slice ra z rc):=cell_of_row _ _ 3 _ _ _ HB11.out
  have HEND:=hid (show StS w.heap.size (W11.setRow (w.heap.size+1) #[.int .i64 s.Clock,.int .i64 s.Next,.slice (some ⟨gq,0,none⟩) n qc,.slice ra z rc]) (.slice (some ⟨gq,0,none⟩) n qc) (.slice ra z rc) (cutS s k f) from .inl (by
   have h:=(((HO11.out.under (r:=w.heap.size+1) (by have:=HSB.out;omega)).kept (grown_srow W11 (w.heap.size+1) #[.int .i64 s.Clock,.int .i64 s.Next,.slice (some ⟨gq,0,none⟩) n qc,.slice ra z rc]) (List.mem_cons_self ..)).low (ex2:=[]) (B2:=w.heap.size) HX0.out.size (fun r hr=>by cases hr))
   have e:(cutS s k f).Books=s.Books:=by show (endB s k f).1=s.Books;rw [end_none hbn,hbn]
   rw [e]
   exact h))
  have HX12:=hid ((HX0.out.tr HX11.out).sr (b:=w.heap.size+1) (by omega) #[.int .i64 s.Clock,.int .i64 s.Next,.slice (some ⟨gq,0,none⟩) n qc,.slice ra z rc])
  have HR12:=hid (setRow_heap W11 (w.heap.size+1) _ #[.int .i64 s.Clock,.int .i64 s.Next,.slice (some ⟨gq,0,none⟩) n qc,.slice ra z rc] _ _ HZ.out)
  have HRR:=hid (show cr=(cutS s k f,[],[],0) from by rw [HR.out,end_none hbn])
  clear hbn
  generalize hzz:z=z' at *
  clear hzz hz0
  go_wp2_with (refine wpList_store_row rfl 25 _ _ rfl (w.heap.size+1) #[.int .i64 s.Clock,.int .i64 s.Next,.slice (some ⟨gq,0,none⟩) n qc,.slice ra z' rc] rfl rfl 25 _ HZ.out Tryz.size25 rfl (by simp [Value.oneCell']) ?_)
  exact bodyPost_ret (results_row_three (u1:=7) (u2:=8) (u3:=9) rfl _ _ (w.heap.size+1) 25 #[.int .i64 s.Clock,.int .i64 s.Next,.slice (some ⟨gq,0,none⟩) n qc,.slice ra z' rc] (0,0) _ rfl HR12.out Tryz.underlying25 rfl Tryz.size25) rfl (retChange_of (s:=cutS s k f) HRR.out HEND.out SV.nil SV.nil HX12.out)
 ·obtain ⟨gb,rc',e,_,_⟩:=HO10.out.vsome (by rw [HBZ.out];exact hz0)
  rw [HBZ.out] at e
  cases e
  have hln:(setCap s.Tree k f).length=n:=by rw [setCap_len,HQN.out]
  obtain ⟨L,hL⟩:∃ L,setCap s.Tree k f=L:=⟨_,rfl⟩
  have hA0:AwayIn wb w7.heap.size gq qc gb rc s.Clock s.Next (setCap s.Tree k f) s.Books [] (.slice none 0 0) W10 :=
   ⟨by rw [hln,HBZ.out];exact HB10.out,by rw [hln,HBZ.out];exact HO10.out,⟨[],World.ownsRow_nil _ _ _ _,⟨rfl,fun k cs x h=>(by simp at h)⟩,fun cs h=>(by cases h),fun g h=>(by cases h)⟩,by simp [Value.ownBlock],fun x h=>(by cases h),HX10.out,hXl⟩
  obtain ⟨hf0,_⟩:=stateE_zero H0.out
  obtain ⟨_,_,hids,_⟩:=formE_zero hf0
  have RS:=hid (relieve_some wb W10 w7.heap.size gq qc gb rc s.Clock s.Next _ s.Books hA0 (by rw [HBZ.out];exact HO10.out.capLe HBZ.out) HOKT.out (fun x hx=>bookOk_set.2 (HOK.out x hx)) (by rw [HBZ.out];exact h12) HCL.out (ids_differ (idsT_iff.1 hids).2))
  obtain ⟨hA1,hA2,hA3⟩:=away_is (q:=k) H0.out H2.out
  have HL0:=hid (show LoopAt L s.Clock s.Next (sortB (relB s k f).2) s.Books.length (endB s k f) 0 (relB s k f).1 [] [] from by
   rw [← hL];exact ⟨rfl,rel_right H0.out H2.out,hA2,by rw [List.drop_zero,hA3];exact Nat.le_refl _⟩)
  have HAB:=hid (show ∀ x∈sortB (relB s k f).2,BookOk L x∧0≤x.Id∧x.Id < s.Next from by rw [← hL];exact hA1)
  clear hA0 hf0 hids hA1 hA2 hA3
  go_wp2_with fail
  refine RS.out.mono ?_
  rintro e W11 ⟨va,gb2,cap2,rfl,hA,hcap2⟩
  obtain ⟨A,hAe⟩:∃ A,sortB (relB s k f).2=A:=⟨_,rfl⟩
  obtain ⟨b1,hb1⟩:∃ b1,(relB s k f).1=b1:=⟨_,rfl⟩
  obtain ⟨R,hRe⟩:∃ R,endB s k f=R:=⟨_,rfl⟩
  have hA':AwayIn wb w7.heap.size gq qc gb2 cap2 s.Clock s.Next L b1 A va W11:=by rw [← hL,← hAe,← hb1];exact hA
  rw [hAe,hb1,hRe] at HL0
  rw [hAe] at HAB
  have hLn:L.length=n:=by rw [← hL];exact hln
  have hci:ChangeIn wb w7.heap.size gq qc gb2 cap2 s.Clock s.Next L A va b1 [] [] (.slice none 0 0) (.slice none 0 0) W11 :=
   ⟨hA'.box,hA'.own,hA'.away,hA'.live,World.ownsRow_nil _ _ _ _,World.ownsRow_nil _ _ _ _,fun r h=>(by cases h),fun r h=>(by cases h),hA'.apart,hA'.ext,hA'.low⟩
  obtain ⟨aa,ac,hva⟩:∃ a c,va=.slice a A.length c:=by
   obtain ⟨css,o1,_⟩:=hA'.away
   rcases o1.2 with ⟨h,h0⟩ | ⟨g,cp,cur,h,_⟩
   ·exact ⟨none,0,by rw [h,h0]⟩
   ·exact ⟨_,_,h⟩
  subst hva
  have hN12:s.Books.length≤12:=by rw [HBZ.out];exact h12
  have hNc:s.Books.length≤cap2:=hcap2
  have hnx:=(formE_zero (stateE_zero H0.out).1).2.1
  have HNX:=hid (show 0≤s.Next∧s.Next≤1048576 from ⟨hnx.2.2.1,hnx.2.2.2⟩)
  have HREQ:=hid (And.intro hL (And.intro hAe (And.intro hb1 hRe)))
  have HCI:=hid hci
  have HLN:=hid hLn
  have hAl:A.length≤12:=by have:=HL0.out.len;rw [List.drop_zero] at this;omega
  clear hA hA' hci hL hAe hb1 hRe hcap2 hLn hln hcl hnx
  generalize s.Books.length=N at *
  generalize hal:A.length=al at *
  have HAL:=hid hal
  clear hal
  obtain ⟨ii,ii1,ii2,ii3,ii4⟩:=info_parts Tryz.info3
  go_wp2_with fail
  go_loopw [12,13,47] (fun vm vd i wr=>∃ (j:Nat) (b:List Book) (m d:List Int),i=.int .i64 j∧j≤al∧Hid (ChangeIn wb w7.heap.size gq qc gb2 cap2 s.Clock s.Next L A (.slice aa al ac) b m d vm vd wr)∧Hid (LoopAt L s.Clock s.Next A N R j b m d)∧Hid (m.length+d.length=j)) (fun _ _ i _=>al - (intOf i).toNat)
  case atStart=>exact ⟨0,b1,[],[],rfl,Nat.zero_le _,HCI,HL0,hid rfl⟩
  case round =>
   obtain ⟨j,b,m,d,rfl,hj,HC,HLA,HMD⟩:=hrel
   by_cases hlt:j < al
   ·obtain ⟨x,hx⟩:=getA (f:=A) (k:=j) (by rw [HAL.out];exact hlt)
    obtain ⟨ga,ca',pv,bv,e,⟨c0,c1,c2,c3,c4,c5,c6⟩,hbc,hap⟩:=HC.out.take hx
    cases e
    obtain ⟨hbkx,hidx⟩:=HAB.out x (List.mem_of_getElem? hx)
    obtain ⟨hdx,_,_,hlx⟩:=HLA.out.cons hx
    obtain ⟨pa,pc,hpf,_⟩:=(bookC_parts hbc).1.form
    obtain ⟨ba',bc',hbf,_⟩:=(bookC_parts hbc).2.1.form
    subst hpf hbf
    have hxq:=(Ext.rf wr).al (.cells #[.int .i64 x.Id,.int .i64 x.Req.Queue,.int .i64 x.Req.From,.int .i64 x.Req.Until,.int .i64 x.Req.Kind,.slice pa x.Req.Pieces.length pc,.slice ba' x.Bites.length bc'] 40)
    have hbq:=World.alloc_heap_new wr (.cells #[.int .i64 x.Id,.int .i64 x.Req.Queue,.int .i64 x.Req.From,.int .i64 x.Req.Until,.int .i64 x.Req.Kind,.slice pa x.Req.Pieces.length pc,.slice ba' x.Bites.length bc'] 40)
    obtain ⟨wq,hwq⟩:∃ wq,wr.alloc (.cells #[.int .i64 x.Id,.int .i64 x.Req.Queue,.int .i64 x.Req.From,.int .i64 x.Req.Until,.int .i64 x.Req.Kind,.slice pa x.Req.Pieces.length pc,.slice ba' x.Bites.length bc'] 40)=wq:=⟨_,rfl⟩
    rw [hwq] at hxq hbq
    have hCq:=HC.out.later hxq
    obtain ⟨⟨_,_,_,_,_,_⟩,_⟩:=hCq.ne
    have hXq:=(Array.getElem?_eq_some_iff.1 hCq.box).1
    have BK:=hid (back_any wb wq w7.heap.size gq qc gb2 cap2 b.length s.Clock s.Next L b _ x _ _ ⟨hCq.box,hCq.own,rfl,by simp,fun r hr=>by
      simp only [List.mem_append,List.mem_singleton,Option.mem_toList] at hr
      rcases hr with hr | hr | hr | hr
      ·exact (hCq.mrow.lt r hr).2
      ·exact (hCq.drow.lt r hr).2
      ·obtain ⟨css,o1,_⟩:=hCq.away;exact (o1.lt r hr).2
      ·rw [hr];exact hXq,HLA.out.right,hbkx,hidx,hdx,⟨by omega,by omega⟩,hbc.mono hxq,fun s hs a n c e=>by
      obtain ⟨p1,p2⟩:=hap s hs a n c e
      exact ⟨Nat.lt_of_lt_of_le p1 hxq.size,p2⟩,hCq.ext.size⟩)
    have HCQ:=hid hCq
    have HX:=hid hx
    have HWQ:=hid hwq
    have HBQ:=hid hbq
    have HBKX:=hid hbkx
    have HIDX:=hid hidx
    clear hbc hap hbkx hidx hdx hxq hbq hwq hCq hXq hx
    generalize x.Req.Pieces.length=pn at *
    generalize x.Bites.length=bn at *
    go_wp2_with fail
    rw [HWQ.out]
    refine BK.out.mono ?_
    rintro e W2 (⟨hg,rfl,hx2⟩ | ⟨hg,rfl,hbx,hox,W1,W1',hx1,hg1,hw2⟩)
    ·have HC2:=hid (HCQ.out.later hx2)
     have HLA2:=hid (HLA.out.gone HX.out hg)
     have e0:W2.cell? ⟨wr.heap.size,0,none⟩=some (.int .i64 x.Id):=(bookCells7 (blk_ext HBQ.out hx2)).1
     have HO1:=hid (HC2.out.drow.alloc (.cells #[.int .i64 x.Id] 3))
     have HN1:=hid (new1 W2 rfl (.int .i64 x.Id) 3)
     have HSZ:=hid (show wb.heap.size≤(W2.alloc (.cells #[.int .i64 x.Id] 3)).heap.size from (HC2.out.ext.al _).size)
     have hmd:=HMD.out
     clear hg hx2 BK hmd
     have hdl:d.length≤12:=by have:=HMD.out;omega
     go_wp2_with (at_builtin;refine wpList_append_lies _ rfl _ _ 67 rfl wb.heap.size 3 ii _ 1 8 Tryz.underlying67 ii1 ii2 ii3 ii4 rfl (by decide) u13 d.length (d.map fun n=>Value.int .i64 n) rfl HO1.out ⟨W2.heap.size,0,none⟩ 1 1 [.int .i64 x.Id] rfl rfl HN1.out (by simp [Value.oneCell']) (by omega) (by unfold maxLen;omega) (by omega) HSZ.out (W2.heap.size+1) (by simp) ?_;intro g2 cp2 W3 hown hgrow hlie hlt3)
     have hrel2:=(HC2.out.swap.push hown hgrow hlie).swap
     go_roundw
     case rel =>
      have e:(d++[x.Id]).length=d.length+1:=by simp
      rw [e] at hrel2
      exact ⟨j+1,b,m,d++[x.Id],by go_num,by omega,hid hrel2,HLA2,hid (by rw [e];have:=HMD.out;omega)⟩
     case measure=>simp [intOf];omega
    ·subst hw2
     have HC2:=hid (HCQ.out.back (b2:=backB L s.Clock b x) hx1 hg1 _ (by rw [back_len];exact hbx) (by rw [back_len];exact hox))
     have HLA2:=hid (HLA.out.put HX.out hg HBKX.out HIDX.out hN12)
     obtain ⟨⟨_,_,_,_,n5,_⟩,_⟩:=HC.out.ne
     have hXr:=(Array.getElem?_eq_some_iff.1 HC.out.box).1
     have hbq1:=blk_ext HBQ.out hx1
     have hbq2:=(hg1.block wr.heap.size (Array.getElem?_eq_some_iff.1 hbq1).1 (fun e=>by have:=Option.some.inj e;omega)).trans hbq1
     have e0:(W1'.setCell ⟨w7.heap.size,3,none⟩ (.slice (some ⟨gb2,0,none⟩) (b.length+1) cap2)).cell? ⟨wr.heap.size,0,none⟩=some (.int .i64 x.Id):=(bookCells7 (by rw [heap_setCell_other W1' ⟨w7.heap.size,3,none⟩ _ _ (by show wr.heap.size≠w7.heap.size;omega)];exact hbq2)).1
     clear hbq1 hbq2 hXr n5 hx1 hg1 hbx hox
     generalize hW2:W1'.setCell ⟨w7.heap.size,3,none⟩ (.slice (some ⟨gb2,0,none⟩) (b.length+1) cap2)=W2 at *
     clear hW2
     have HO1:=hid (HC2.out.mrow.alloc (.cells #[.int .i64 x.Id] 3))
     have HN1:=hid (new1 W2 rfl (.int .i64 x.Id) 3)
     have HSZ:=hid (show wb.heap.size≤(W2.alloc (.cells #[.int .i64 x.Id] 3)).heap.size from (HC2.out.ext.al _).size)
     clear hg BK
     have hdl:m.length≤12:=by have:=HMD.out;omega
     go_wp2_with (at_builtin;refine wpList_append_lies _ rfl _ _ 67 rfl wb.heap.size 3 ii _ 1 8 Tryz.underlying67 ii1 ii2 ii3 ii4 rfl (by decide) u12 m.length (m.map fun n=>Value.int .i64 n) rfl HO1.out ⟨W2.heap.size,0,none⟩ 1 1 [.int .i64 x.Id] rfl rfl HN1.out (by simp [Value.oneCell']) (by omega) (by unfold maxLen;omega) (by omega) HSZ.out (W2.heap.size+1) (by simp) ?_;intro g2 cp2 W3 hown hgrow hlie hlt3)
     have hrel2:=HC2.out.push hown hgrow hlie
     go_roundw
     case rel =>
      have e:(m++[x.Id]).length=m.length+1:=by simp
      rw [e] at hrel2
      exact ⟨j+1,_,m++[x.Id],d,by go_num,by omega,hid hrel2,HLA2,hid (by rw [e];have:=HMD.out;omega)⟩
     case measure=>simp [intOf];omega
   ·obtain rfl:j=al:=by omega
    have hgo:=HLA.out.go
    rw [List.drop_of_length_le (by rw [HAL.out];exact Nat.le_refl _)] at hgo
    obtain ⟨hL,hAe,hb1,hRe⟩:=HREQ.out
    have hEe:endB s k f=(b,m,d):=hRe.trans hgo.symm
    have HB11:=hid (HLN.out▸HC.out.box)
    have e0:wr.cell? ⟨w7.heap.size,0,none⟩=some (.int .i64 s.Clock):=cell_of_row _ _ 0 _ _ _ HB11.out
    have e1:wr.cell? ⟨w7.heap.size,1,none⟩=some (.int .i64 s.Next):=cell_of_row _ _ 1 _ _ _ HB11.out
    have e2:wr.cell? ⟨w7.heap.size,2,none⟩=some (.slice (some ⟨gq,0,none⟩) n qc):=cell_of_row _ _ 2 _ _ _ HB11.out
    have e3:wr.cell? ⟨w7.heap.size,3,none⟩=some (.slice (some ⟨gb2,0,none⟩) b.length cap2):=cell_of_row _ _ 3 _ _ _ HB11.out
    have HZ:=hid (HZ0.out _ HC.out.ext)
    have HO11:=hid (HC.out.own)
    have EI:=hid (end_is (q:=k) H0.out H2.out)
    have hids:∀ y∈m++d,I64 y:=fun y hy=>by
     have hp:=EI.out.perm
     rw [hEe] at hp
     obtain ⟨z',hz',rfl⟩:=List.mem_map.1 (hp.subset hy)
     obtain ⟨_,q1,q2⟩:=HAB.out z' (by rw [← hAe];exact (sortB_perm _).symm.subset hz')
     have:=HNX.out
     unfold I64;omega
    have HEND:=hid (show StS w.heap.size (wr.setRow (w.heap.size+1) #[.int .i64 s.Clock,.int .i64 s.Next,.slice (some ⟨gq,0,none⟩) n qc,.slice (some ⟨gb2,0,none⟩) b.length cap2]) (.slice (some ⟨gq,0,none⟩) n qc) (.slice (some ⟨gb2,0,none⟩) b.length cap2) (cutS s k f) from .inl (by
     have h:=(((HO11.out.under (r:=w.heap.size+1) (by have:=HSB.out;omega)).kept (grown_srow wr (w.heap.size+1) #[.int .i64 s.Clock,.int .i64 s.Next,.slice (some ⟨gq,0,none⟩) n qc,.slice (some ⟨gb2,0,none⟩) b.length cap2]) (List.mem_cons_self ..)).low (ex2:=[]) (B2:=w.heap.size) HX0.out.size (fun r hr=>by cases hr))
     have e:(cutS s k f).Books=b:=by show (endB s k f).1=b;rw [hEe]
     have e':(cutS s k f).Tree=L:=hL
     rw [e,e']
     rw [HLN.out] at h
     exact h))
    have HX12:=hid ((HX0.out.tr HC.out.ext).sr (b:=w.heap.size+1) (by omega) #[.int .i64 s.Clock,.int .i64 s.Next,.slice (some ⟨gq,0,none⟩) n qc,.slice (some ⟨gb2,0,none⟩) b.length cap2])
    have HR12:=hid (setRow_heap wr (w.heap.size+1) _ #[.int .i64 s.Clock,.int .i64 s.Next,.slice (some ⟨gq,0,none⟩) n qc,.slice (some ⟨gb2,0,none⟩) b.length cap2] _ _ HZ.out)
    have HRR:=hid (show cr=(cutS s k f,m,d,0) from by rw [HR.out,hEe])
    have hsz:=HSB.out
    have HIM:=hid (ints_of_ownsI (ownsRow_keptR HC.out.mrow (grown_srow wr (w.heap.size+1) #[.int .i64 s.Clock,.int .i64 s.Next,.slice (some ⟨gq,0,none⟩) n qc,.slice (some ⟨gb2,0,none⟩) b.length cap2]) (fun r hr e=>by have:=(HC.out.mrow.lt r hr).1;have:=Option.some.inj e;omega)) (fun y hy=>hids y (List.mem_append_left _ hy)) (by have:=HMD.out;omega))
    have HID:=hid (ints_of_ownsI (ownsRow_keptR HC.out.drow (grown_srow wr (w.heap.size+1) #[.int .i64 s.Clock,.int .i64 s.Next,.slice (some ⟨gq,0,none⟩) n qc,.slice (some ⟨gb2,0,none⟩) b.length cap2]) (fun r hr e=>by have:=(HC.out.drow.lt r hr).1;have:=Option.some.inj e;omega)) (fun y hy=>hids y (List.mem_append_right _ hy)) (by have:=HMD.out;omega))
    clear hgo hL hAe hb1 hRe hEe hids hsz
    go_wp2_with (refine wpList_store_row rfl 25 _ _ rfl (w.heap.size+1) #[.int .i64 s.Clock,.int .i64 s.Next,.slice (some ⟨gq,0,none⟩) n qc,.slice (some ⟨gb2,0,none⟩) b.length cap2] rfl rfl 25 _ HZ.out Tryz.size25 rfl (by simp [Value.oneCell']) ?_)
    exact bodyPost_ret (results_row_three (u1:=7) (u2:=8) (u3:=9) rfl _ _ (w.heap.size+1) 25 #[.int .i64 s.Clock,.int .i64 s.Next,.slice (some ⟨gq,0,none⟩) n qc,.slice (some ⟨gb2,0,none⟩) b.length cap2] (0,0) _ rfl HR12.out Tryz.underlying25 rfl Tryz.size25) rfl (retChange_of (s:=cutS s k f) HRR.out HEND.out HIM.out HID.out HX12.out)
theorem Change_any (w:World) (tv bv rv:Value) (s:State) (q:Int) (f:List Run) (hl:QueuesV w tv s.Tree) (hb:BooksV w bv s.Books) (hr:RunsV w rv f) (hq:I64 q) :
  Calls Tryz.prog 41 #[.agg #[.int .i64 s.Clock,.int .i64 s.Next,tv,bv],.int .i64 q,rv] w (RetChange w (changeR s q f)):=by
 by_cases h0:stateE s=0
 ·by_cases h1:0≤q∧q < s.Tree.length
  ·obtain ⟨k,rfl⟩:∃ k:Nat,q=k:=⟨q.toNat,by omega⟩
   by_cases h2:CapOk f
   ·exact Change_rest w tv bv rv s k f hl hb hr h0 (by omega) h2
   ·exact Change_form w tv bv rv s k f hl hb hr h0 h1 h2
  ·exact Change_no w tv bv rv s q f hl hb hr h0 h1
 ·exact Change_bad w tv bv rv s q f hl hb hr h0
end Go.Proofs.YtdcndkojmflhnaaGreat
