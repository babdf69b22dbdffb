/- ChangeOf: what its loops keep. -/
import Derived.Test.YtncaoclhlfkdoaaGreatPCutI
set_option linter.unusedVariables false
set_option linter.unusedSimpArgs false
set_option maxRecDepth 100000
set_option maxHeartbeats 8000000
set_option linter.unusedSimpArgs false
set_option linter.unusedVariables false
namespace Go.Proofs.YtncaoclhlfkdoaaGreat
open Go.RowKit
open List renaming getElem_toArray→zA,getElem_cons_zero→zB,getElem_cons_succ→zC,setIfInBounds_toArray→zD,set_cons_zero→zE,set_cons_succ→zF
theorem run_append_nil {P:Program} (w:World) (t ty e:TypeId) (i:TypeInfo) (ht:P.underlying t=some (.slice e)) (hi:P.info? e=some i) (a:Addr) (n cap:Nat) (hn:n≤cap) :
  (Builtin.append_ #[t,t] ty #[.slice (some a) n cap,.slice none 0 0]).run P w=.ok (.slice (some a) n cap) w:=by
 simp [Builtin.append_,run_underlying ht,sizeOf,typeInfo,hi,Builtin.lenOf,Builtin.firstCells,hn,storeCells]
theorem wpList_append_nil {P:Program} {ops:Array Oper} {rest:List Oper} {o:Oper} {a:Act} {w:World} {Q:Exit→Act→World→Prop} (hgd:o.guard=none) (s x:Operand) (t:TypeId)
  (ho:o.op=.call { callee:=.builtin .append,args:=#[s,x],argTypes:=#[t,t] }) (e:TypeId) (i:TypeInfo) (ht:P.underlying t=some (.slice e)) (hi:P.info? e=some i)
  (ad:Addr) (n cap:Nat) (hs:a.eval s=.slice (some ad) n cap) (hx:a.eval x=.slice none 0 0) (hn:n≤cap)
  (h:wpList P ops Q rest (a.put o.dst (.slice (some ad) n cap)) w):wpList P ops Q (o::rest) a w :=
 wpList_plain hgd fun _ hK=>by
  have hr:=run_append_nil (P:=P) w t o.type e i ht hi ad n cap hn
  unfold Oper.wp execOp
  simp only [ho,resolve,invoke,builtin,Sem.run_bind,Sem.run_pure,Result.andThen_ok,List.map_toArray,List.map_cons,List.map_nil,hs,hx,hr]
  exact hK _ _ h
theorem wpList_append_any {P:Program} {ops:Array Oper} {rest:List Oper} {o:Oper} {a:Act} {w:World} {Q:Exit→Act→World→Prop} (hgd:o.guard=none) (s x:Operand) (t:TypeId)
  (ho:o.op=.call { callee:=.builtin .append,args:=#[s,x],argTypes:=#[t,t] })
  (base:Nat) (e:TypeId) (i:TypeInfo) (z:Value) (size bytes:Nat) (ht:P.underlying t=some (.slice e)) (hi:P.info? e=some i) (hz:i.zero=some z)
  (hsize:i.size=size) (hby:i.bytes=bytes) (hzs:z.cells.size=size) (hsz:0 < size)
  (g n cap:Nat) (xs:List Value) (hs:a.eval s=.slice (some ⟨g,0,none⟩) n cap) (hown:w.ownsRow base e size (.slice (some ⟨g,0,none⟩) n cap) n xs) (hn:n≤cap)
  (xv:Value) (b2 m:Nat) (news:List Value) (hx:a.eval x=xv) (hxo:w.ownsRow b2 e size xv m news) (h1:∀ u∈news,u.oneCell'=true)
  (h63:n+m≤maxLen) (hbytes:(n+m)*bytes≤140737488355328) (hbase:base≤w.heap.size)
  (h:∀ v' w',w'.ownsRow base e size v' (n+m) (xs++news)→w.grownBy w' (some g)→wpList P ops Q rest (a.put o.dst v') w'):wpList P ops Q (o::rest) a w:=by
 have hl:=hxo.1
 rcases hxo.2 with ⟨rfl,rfl⟩ | ⟨g',cap',cur,rfl,hb',hc',q1,q2,q3,q4⟩
 ·have hnil:news=[]:=List.eq_nil_of_length_eq_zero (by rw [hl];simp)
  refine wpList_append_nil hgd s x t ho e i ht hi ⟨g,0,none⟩ n cap hs hx hn (h _ _ ?_ (grown_of_ext (Ext.rf w)))
  rw [hnil,List.append_nil];exact hown
 ·exact wpList_append_own w hgd s x t ho base e i z size bytes ht hi hz hsize hby hzs hsz _ n xs hs hown ⟨g',0,none⟩ m cap' news hx hl (fun j u hj=>hxo.cells (g:=g') rfl j u hj) h1 h63 hbytes hbase (fun v' w' k1 k2 _=>h v' w' k1 k2)
theorem ins_first {x:Book}:∀ {b:List Book} {i:Nat},i≤b.length→(∀ j y,j < i→b[j]?=some y→y.Id < x.Id)→(∀ y,b[i]?=some y→¬ y.Id < x.Id)→insB x b=b.take i++x::b.drop i
 | [],i,_,_,_=>by simp [insB]
 | y::b,0,_,_,h2=>by simp only [insB];rw [if_neg (h2 y rfl)];rfl
 | y::b,i+1,h0,h1,h2=>by
  simp only [insB]
  rw [if_pos (h1 0 y (by omega) rfl),ins_first (i:=i) (by simpa using h0) (fun j z hj hz=>h1 (j+1) z (by omega) (by simpa using hz)) (fun z hz=>h2 z (by simpa using hz))]
  rfl
theorem OwnB.build {bs:List Nat} {base g n cap:Nat} {W W':World} {b:List Book} {css:List (List Value)} (hlen:css.length=b.length) (each:∀ (k:Nat) (cs:List Value) (x:Book),css[k]?=some cs→b[k]?=some x→BookC W cs x)
  (hlow:∀ ds∈css,∀ u∈ds,∀ a n c,u=.slice (some a) n c→a.block < W.heap.size∧a.block ∉ bs) (hx:Ext W W') (hg:W.heap.size≤g)
  (ho:W'.ownsRow base 43 7 (.slice (some ⟨g,0,none⟩) n cap) n css.flatten) (hn:n=b.length):OwnB bs base W' (.slice (some ⟨g,0,none⟩) n cap) b:=by
 subst hn
 refine ⟨css,ho,⟨hlen,fun k cs x h1 h2=>(each k cs x h1 h2).mono hx⟩,fun ds hd u hu a n c e=>(hlow ds hd u hu a n c e).2,fun g' hg' ds hd u hu a n c e hm=>?_⟩
 obtain rfl:g=g':=by simpa [Value.ownBlock] using hg'
 have h1:=(hlow ds hd u hu a n c e).1
 have h2:=List.mem_singleton.1 hm
 omega
theorem OwnB.at {bs:List Nat} {base ga n cp k:Nat} {W:World} {a:List Book} {x:Book} (h:OwnB bs base W (.slice (some ⟨ga,0,none⟩) n cp) a) (hk:a[k]?=some x) :
  ∃ pv bv:Value,BCells W ga (k*7) x pv bv∧BookC W [.int .i64 x.Id,.int .i64 x.Req.Queue,.int .i64 x.Req.From,.int .i64 x.Req.Until,.int .i64 x.Req.Kind,pv,bv] x∧(∀ s∈([.int .i64 x.Id,.int .i64 x.Req.Queue,.int .i64 x.Req.From,.int .i64 x.Req.Until,.int .i64 x.Req.Kind,pv,bv]:List Value),ApartL (ga::bs) s)∧W.there ga (k*7) 7:=by
 obtain ⟨css,o1,o2,o3,o4⟩:=h
 have hkl:=(List.getElem?_eq_some_iff.1 hk).1
 rcases o1.2 with ⟨hv,_⟩ | ⟨g',cp',cur,hv,hb,hcur,hnc,hcm,hcs,htk⟩
 ·cases hv
 have hgg:g'=ga∧cp'=cp:=by cases hv;exact ⟨rfl,rfl⟩
 obtain ⟨rfl,rfl⟩:=hgg
 obtain ⟨cs,hcs'⟩:=getA (f:=css) (k:=k) (by rw [o2.len];exact hkl)
 have hbc:=o2.each k cs x hcs' hk
 have hmem:=List.mem_of_getElem? hcs'
 have hcell:∀ (j:Nat) v,j < 7→cs[j]?=some v→W.cell? ⟨g',k*7+j,none⟩=some v:=fun j v hj hv=>by
  refine row_cell hcur ?_
  have e:=flatw (m:=7) (by omega) css o2.seven k j hj
  rw [hcs'] at e
  have e2:css.flatten[k*7+j]?=some v:=by rw [e];exact hv
  rw [← htk,List.getElem?_take] at e2
  split at e2
  ·exact e2
  ·cases e2
 have hap:=o3 cs hmem
 have hap2:=o4 g' rfl cs hmem
 have hbc':=hbc
 obtain ⟨qs,bv,rfl,⟨pv,rfl,_⟩,_⟩:=hbc
 refine ⟨pv,bv,⟨hcell 0 _ (by omega) rfl,hcell 1 _ (by omega) rfl,hcell 2 _ (by omega) rfl,hcell 3 _ (by omega) rfl,hcell 4 _ (by omega) rfl,hcell 5 _ (by omega) rfl,hcell 6 _ (by omega) rfl⟩,hbc',fun s hsm ad n c e hm=>?_,fun j hj=>⟨by rw [cell_of_row W g' _ _ _ _ hcur,Array.getElem?_eq_getElem (by rw [hcs];omega)];rfl,frozen_of_row W g' _ _ _ hcur⟩⟩
 rcases List.mem_cons.1 hm with h | h
 ·exact hap2 s hsm ad n c e (List.mem_singleton.2 h)
 ·exact hap s hsm ad n c e h
theorem OwnB.put {bs:List Nat} {base ga n cp k:Nat} {W:World} {a:List Book} {x:Book} {cs:List Value} (h:OwnB bs base W (.slice (some ⟨ga,0,none⟩) n cp) a) (hk:k < a.length) (hbc:BookC W cs x) (hap:∀ s∈cs,ApartL (ga::bs) s) :
  OwnB bs base (W.setCells ga (k*7) cs) (.slice (some ⟨ga,0,none⟩) n cp) (a.set k x):=by
 obtain ⟨css,o1,o2,o3,o4⟩:=h
 rcases o1.2 with ⟨hv,_⟩ | ⟨g',cp',cur,hv,hb,hcur,hnc,hcm,hcs,htk⟩
 ·cases hv
 have hgg:g'=ga∧cp'=cp∧n=a.length:=by cases hv;exact ⟨rfl,rfl,rfl⟩
 obtain ⟨rfl,rfl,rfl⟩:=hgg
 have h7:=bookC_len hbc
 have hcl:css.length=a.length:=o2.len
 obtain ⟨cur',q1,q2,q3,q4⟩:=setCells_mid cs (k*7) W cur hcur (by rw [h7,hcs];omega)
 rw [h7] at q3 q4
 have hdrop:cur'.toList.drop (k*7+7)=cur.toList.drop (k*7+7):=List.ext_getElem? fun m=>by
  rw [List.getElem?_drop,List.getElem?_drop,q4 _ (by omega)]
 have e1:cur'.toList=cur.toList.take (k*7)++cs++cur.toList.drop (k*7+7):=by
  rw [← q3,← hdrop];exact (List.take_append_drop ..).symm
 have hset:css.set k cs=css.take k++cs::css.drop (k+1):=List.set_eq_take_append_cons_drop .. |>.trans (by rw [if_pos (by omega)])
 have hfl:(css.set k cs).flatten=css.flatten.take (k*7)++(cs++css.flatten.drop ((k+1)*7)):=by
  rw [hset,List.flatten_append,List.flatten_cons,flat7_take css o2.seven,flat7_drop css o2.seven]
 have hg:=grown_setCells W g' cs (k*7)
 have hone:∀ ds∈css,∀ u∈ds,ApartL [g'] u:=o4 g' rfl
 have hmem:∀ ds∈css.set k cs,∀ u∈ds,ApartL bs u∧ApartL [g'] u:=fun ds hd u hu=>by
  rcases List.mem_or_eq_of_mem_set hd with h | h
  ·exact ⟨o3 ds h u hu,hone ds h u hu⟩
  ·subst h
   exact ⟨fun a n c e hm=>hap u hu a n c e (List.mem_cons_of_mem _ hm),fun a n c e hm=>hap u hu a n c e (by rw [List.mem_singleton.1 hm];exact List.mem_cons_self ..)⟩
 refine ⟨css.set k cs,⟨?_,.inr ⟨g',cp',cur',by rw [List.length_set],hb,q1,by rw [List.length_set];exact hnc,hcm,by rw [q2,hcs],?_⟩⟩,⟨by rw [List.length_set,List.length_set,hcl],fun j ds y h1 h2=>?_⟩,fun ds hd u hu=>(hmem ds hd u hu).1,fun g2 hg2 ds hd u hu=>?_⟩
 ·rw [flat7_len _ (fun ds hd=>by
   rcases List.mem_or_eq_of_mem_set hd with h | h
   ·exact o2.seven ds h
   ·rw [h];exact h7),List.length_set,List.length_set,hcl]
 ·rw [List.length_set,hfl,e1,← htk,List.take_take,List.drop_take,show min (k*7) (a.length*7)=k*7 by omega]
  have hA:(cur.toList.take (k*7)).length=k*7:=by rw [List.length_take,Array.length_toList,hcs];omega
  have hB:(cur.toList.take (k*7)++cs).length=k*7+7:=by rw [List.length_append,hA,h7]
  rw [List.take_append,hB,List.take_of_length_le (by rw [hB];omega),List.append_assoc,show (k+1)*7=k*7+7 by omega]
 ·by_cases hj:j=k
  ·subst hj
   rw [List.getElem?_set_self (by omega)] at h1
   rw [List.getElem?_set_self hk] at h2
   cases h1;cases h2
   exact bookC_grown hbc hg (fun u hu=>(hmem cs (List.mem_of_getElem? (by rw [List.getElem?_set_self (by omega)])) u hu).2)
  ·rw [List.getElem?_set_ne (fun h=>hj h.symm)] at h1 h2
   exact bookC_grown (o2.each j ds y h1 h2) hg (hone ds (List.mem_of_getElem? h1))
 ·obtain rfl:g'=g2:=by simpa [Value.ownBlock] using hg2
  exact (hmem ds hd u hu).2
section
variable {w0 W:World} {X gq qc gb cap:Nat} {c nx:Int} {l:List Queue} {b a:List Book} {va:Value}
theorem AwayIn.pre {W':World} {g2 cap2 n2:Nat} {x:Book} {pv bv:Value} {ca:List (List Value)} (h:AwayIn w0 X gq qc gb cap c nx l b a va W)
  (o2:Cells7 W ca a) (o3:ApartC (gb::gq::X::List.range w0.heap.size) ca)
  (hbc:BookC W [.int .i64 x.Id,.int .i64 x.Req.Queue,.int .i64 x.Req.From,.int .i64 x.Req.Until,.int .i64 x.Req.Kind,pv,bv] x) (hlx:LiveX x)
  (hap:∀ s∈([.int .i64 x.Id,.int .i64 x.Req.Queue,.int .i64 x.Req.From,.int .i64 x.Req.Until,.int .i64 x.Req.Kind,pv,bv]:List Value),∀ ad n c',s=.slice (some ad) n c'→ad.block < W.heap.size∧ad.block≠gb∧w0.heap.size≤ad.block∧ad.block ∉ va.ownBlock.toList++[X]∧∀ r,(Value.slice (some ⟨gq,0,none⟩) l.length qc).ownBlock=some r→ad.block≠r)
  (hx:Ext W W') (hg2:W.heap.size≤g2)
  (hown:W'.ownsRow W.heap.size 43 7 (.slice (some ⟨g2,0,none⟩) n2 cap2) n2 ([.int .i64 x.Id,.int .i64 x.Req.Queue,.int .i64 x.Req.From,.int .i64 x.Req.Until,.int .i64 x.Req.Kind,pv,bv]++ca.flatten)) (hn:n2=a.length+1) :
  AwayIn w0 X gq qc gb cap c nx l b (x::a) (.slice (some ⟨g2,0,none⟩) n2 cap2) W':=by
 have hXw:=(Array.getElem?_eq_some_iff.1 h.box).1
 refine ⟨blk_ext h.box hx,?_,?_,?_,fun y hy=>?_,h.ext.tr hx,h.low⟩
 ·refine ((h.own.box hg2).ext hx).low (Nat.le_refl _) (fun r hr=>?_)
  have hr':r=g2∨r=X:=by simpa [Value.ownBlock] using hr
  rcases hr' with rfl | rfl
  ·exact List.mem_cons_self ..
  ·exact List.mem_cons_of_mem _ (List.mem_append_right _ (List.mem_singleton.2 rfl))
 ·refine OwnB.build (W:=W) (css:=[.int .i64 x.Id,.int .i64 x.Req.Queue,.int .i64 x.Req.From,.int .i64 x.Req.Until,.int .i64 x.Req.Kind,pv,bv]::ca) (by simp [o2.len]) (fun k cs y h1 h2=>?_) (fun ds hd u hu ad n c' e=>?_) hx hg2 (ownsRow_low (by rw [List.flatten_cons];exact hown) h.ext.size) (by rw [hn];rfl)
  ·cases k with
   | zero =>
    have h1':=Option.some.inj h1
    have h2':=Option.some.inj h2
    rw [← h1',← h2'];exact hbc
   | succ k=>exact o2.each k cs y (by simpa using h1) (by simpa using h2)
  ·rcases List.mem_cons.1 hd with hd | hd
   ·rw [hd] at hu
    obtain ⟨p1,p2,p3,p4,p5⟩:=hap u hu ad n c' e
    refine ⟨p1,fun hm=>?_⟩
    rcases List.mem_cons.1 hm with h1 | hm
    ·exact p2 h1
    ·rcases List.mem_cons.1 hm with h1 | hm
     ·exact p5 gq rfl h1
     ·rcases List.mem_cons.1 hm with h1 | hm
      ·exact p4 (List.mem_append_right _ (List.mem_singleton.2 h1))
      ·have:=List.mem_range.1 hm;omega
   ·exact ⟨cells7_low o2 (fun y hy=>(h.live y hy).1) ds hd u hu ad n c' e,o3 ds hd u hu ad n c' e⟩
 ·intro e
  have:g2=X:=by simpa [Value.ownBlock] using e
  omega
 ·rcases List.mem_cons.1 hy with h1 | h1
  ·rw [h1];exact hlx
  ·exact h.live y h1
theorem AwayIn.put {ga n ca k:Nat} {x:Book} {cs:List Value} (h:AwayIn w0 X gq qc gb cap c nx l b a (.slice (some ⟨ga,0,none⟩) n ca) W) (hk:k < a.length) (hbc:BookC W cs x) (hlx:LiveX x) (hap:∀ s∈cs,ApartL (ga::gb::gq::X::List.range w0.heap.size) s) :
  AwayIn w0 X gq qc gb cap c nx l b (a.set k x) (.slice (some ⟨ga,0,none⟩) n ca) (W.setCells ga (k*7) cs):=by
 have hne:=h.ne (r:=ga) rfl
 have hg:=grown_setCells W ga cs (k*7)
 refine ⟨(hg.block X (Array.getElem?_eq_some_iff.1 h.box).1 (fun e=>hne.2.2.1 (Option.some.inj e).symm)).trans h.box,h.own.kept hg (List.mem_append_left _ (List.mem_singleton.2 rfl)),h.away.put hk hbc hap,h.apart,fun y hy=>?_,h.ext.gr (v:=.slice (some ⟨ga,0,none⟩) n ca) hg (fun k hk=>by have e:=Option.some.inj hk;have e2:ga=k:=e;omega),h.low⟩
 rcases List.mem_or_eq_of_mem_set hy with h1 | h1
 ·exact h.live y h1
 ·rw [h1];exact hlx
theorem AwayIn.renew {W':World} {gq' qc' gb' cap':Nat} {b':List Book} (h:AwayIn w0 X gq qc gb cap c nx l b a va W) (hO:OwnS [] W.heap.size W' (.slice (some ⟨gq',0,none⟩) l.length qc') (.slice (some ⟨gb',0,none⟩) b'.length cap') l b') (hx:Ext W W') :
  AwayIn w0 X gq' qc' gb' cap' c nx l b' a va (W'.setRow X #[.int .i64 c,.int .i64 nx,.slice (some ⟨gq',0,none⟩) l.length qc',.slice (some ⟨gb',0,none⟩) b'.length cap']):=by
 have hXw:=(Array.getElem?_eq_some_iff.1 h.box).1
 have hg:=grown_srow W' X #[.int .i64 c,.int .i64 nx,.slice (some ⟨gq',0,none⟩) l.length qc',.slice (some ⟨gb',0,none⟩) b'.length cap']
 obtain ⟨g1,c1,e1,hgq,_⟩:=hO.uform
 cases e1
 obtain ⟨_,_,_,hvb⟩:=hO.vform
 have hgb:=(hvb gb' rfl).1
 refine ⟨setRow_heap W' X _ _ _ _ (blk_ext h.box hx),?_,?_,h.apart,h.live,(h.ext.tr hx).sr h.low _,h.low⟩
 ·have hO2:OwnS (va.ownBlock.toList++[X]) W.heap.size W' (.slice (some ⟨gq',0,none⟩) l.length qc') (.slice (some ⟨gb',0,none⟩) b'.length cap') l b':=by
   cases hv:va.ownBlock with
   | none=>exact hO.under hXw
   | some r=>exact (hO.under hXw).under (h.ne hv).2.2.2.2
  exact (hO2.kept hg (List.mem_append_right _ (List.mem_singleton.2 rfl))).low h.ext.size (fun r hr=>hr)
 ·have h1:=((h.away.low_all h.live hgq).low_all h.live hgb).sub (cs:=gb'::gq'::X::List.range w0.heap.size) (fun r hr=>by
   simp only [List.mem_cons] at hr ⊢
   rcases hr with h | h | h | h
   ·exact .inl h
   ·exact .inr (.inl h)
   ·exact .inr (.inr (.inr (.inr (.inl h))))
   ·exact .inr (.inr (.inr (.inr (.inr h)))))
  exact (h1.ext hx).keptR hg (by simp) (fun r hr=>(h.ne hr).2.2.1)
end
theorem OwnS.mid {ex:List Nat} {B g z cap:Nat} {W:World} {u:Value} {l:List Queue} {b:List Book} (h:OwnS ex B W u (.slice (some ⟨g,0,none⟩) z cap) l b) (hz:b.length=z) (h12:b.length < 12) :
  ∃ css:List (List Value),css.length=z∧(∀ cs∈css,cs.length=7)∧(∀ v∈css.flatten,v.oneCell'=true)∧z≤cap∧(∀ (j:Nat) v,css.flatten[j]?=some v→W.cell? ⟨g,j,none⟩=some v) ∧
   (∀ (k:Nat) (x:Book),b[k]?=some x→∃ pv bv:Value,css[k]?=some [.int .i64 x.Id,.int .i64 x.Req.Queue,.int .i64 x.Req.From,.int .i64 x.Req.Until,.int .i64 x.Req.Kind,pv,bv]∧PiecesV W pv x.Req.Pieces∧BitesV W bv x.Bites) ∧
   ∀ (W':World) (g2 n2 cap2 i:Nat) (cs:List Value) (x:Book),Ext W W'→W.heap.size≤g2→i≤z→BookC W cs x→LiveX x →
    (∀ s∈cs,∀ a n c,s=.slice (some a) n c→a.block < W.heap.size∧B≤a.block∧a.block ∉ ex∧∀ r,u.ownBlock=some r→a.block≠r)→(∀ r∈ex,r < W.heap.size) →
    W'.ownsRow W.heap.size 43 7 (.slice (some ⟨g2,0,none⟩) n2 cap2) n2 ((css.take i).flatten++cs++(css.drop i).flatten)→n2=z+1 →
    OwnS ex B W' u (.slice (some ⟨g2,0,none⟩) n2 cap2) l (b.take i++x::b.drop i):=by
 obtain ⟨gq,qc,rfl,h1,h2,h5,_,hgB,hs,he,hl,hc,⟨css,o1,o2,o3,o4⟩,hne,hq⟩:=h
 rcases o1.2 with ⟨hv,_⟩ | ⟨g',cap',cur,hv,hb,hcur,hnc,hcm,hcs,htk⟩
 ·cases hv
 have hgg:g'=g∧cap'=cap:=by cases hv;exact ⟨rfl,rfl⟩
 obtain ⟨rfl,rfl⟩:=hgg
 have hcl:css.length=z:=by rw [o2.len,hz]
 refine ⟨css,hcl,o2.seven,o2.one,by omega,fun j v hj=>?_,fun k x hk=>?_,fun W' g2 n2 cap2 i cs x hx hg2 hi hbc hlx hap hex hown hn=>?_⟩
 ·refine row_cell hcur ?_
  have hjl:=(List.getElem?_eq_some_iff.1 hj).1
  have e2:=hj
  rw [← htk,List.getElem?_take] at e2
  split at e2
  ·exact e2
  ·cases e2
 ·obtain ⟨cs,hcs'⟩:=getA (f:=css) (k:=k) (by rw [o2.len];exact (List.getElem?_eq_some_iff.1 hk).1)
  obtain ⟨qs,bv,rfl,⟨pv,rfl,hp,_⟩,hbt,_⟩:=o2.each k cs x hcs' hk
  exact ⟨pv,bv,hcs',hp,hbt⟩
 ·have hBW:B≤W.heap.size:=by omega
  refine ⟨gq,qc,rfl,h1,h2,h5,?_,hgB,Nat.lt_of_lt_of_le hs hx.size,he,fun y hy=>?_,hc,?_,fun r hr=>?_,?_⟩
  ·simp only [List.length_append,List.length_take,List.length_cons,List.length_drop];omega
  ·rcases List.mem_append.1 hy with h | h
   ·exact hl y (List.mem_of_mem_take h)
   ·rcases List.mem_cons.1 h with h | h
    ·rw [h];exact hlx
    ·exact hl y (List.mem_of_mem_drop h)
  ·refine OwnB.build (W:=W) (css:=css.take i++cs::css.drop i) ?_ (fun k ds y k1 k2=>?_) (fun ds hd s hsm a n c e=>?_) hx hg2 (ownsRow_low (by rw [List.flatten_append,List.flatten_cons,← List.append_assoc];exact hown) hBW) ?_
   ·simp only [List.length_append,List.length_take,List.length_cons,List.length_drop];omega
   ·have hti:(css.take i).length=i:=by rw [List.length_take];omega
    have htb:(b.take i).length=i:=by rw [List.length_take];omega
    rcases Nat.lt_trichotomy k i with hk | hk | hk
    ·rw [List.getElem?_append_left (by omega),List.getElem?_take_of_lt hk] at k1 k2
     exact o2.each k ds y k1 k2
    ·subst hk
     rw [List.getElem?_append_right (by omega),hti,Nat.sub_self] at k1
     rw [List.getElem?_append_right (by omega),htb,Nat.sub_self] at k2
     have e1:cs=ds:=by simpa using k1
     have e2:x=y:=by simpa using k2
     rw [← e1,← e2];exact hbc
    ·obtain ⟨m,rfl⟩:∃ m,k=i+(m+1):=⟨k - i - 1,by omega⟩
     rw [List.getElem?_append_right (by omega),hti,show i+(m+1) - i=m+1 by omega,List.getElem?_cons_succ,List.getElem?_drop] at k1
     rw [List.getElem?_append_right (by omega),htb,show i+(m+1) - i=m+1 by omega,List.getElem?_cons_succ,List.getElem?_drop] at k2
     exact o2.each (i+m) ds y k1 k2
   ·have hold:ds∈css→a.block < W.heap.size∧a.block ∉ gq::(ex++List.range B):=fun hd=>⟨cells7_low o2 (fun y hy=>(hl y hy).1) ds hd s hsm a n c e,o3 ds hd s hsm a n c e⟩
    rcases List.mem_append.1 hd with h | h
    ·exact hold (List.mem_of_mem_take h)
    ·rcases List.mem_cons.1 h with h | h
     ·rw [h] at hsm
      obtain ⟨p1,p2,p3,p4⟩:=hap s hsm a n c e
      refine ⟨p1,fun hm=>?_⟩
      rcases List.mem_cons.1 hm with h | h
      ·exact p4 gq rfl h
      ·rcases List.mem_append.1 h with h | h
       ·exact p3 h
       ·have:=range_lt h;omega
     ·exact hold (List.mem_of_mem_drop h)
   ·simp only [List.length_append,List.length_take,List.length_cons,List.length_drop];omega
  ·obtain rfl:g2=r:=by simpa [Value.ownBlock] using hr
   exact ⟨by omega,fun hm=>by have:=hex g2 hm;omega⟩
  ·have h3:=(hq.more hc hg2).ext hx
   exact h3.less (fun r hr=>by
    rcases List.mem_append.1 hr with h | h
    ·have:r=g2:=by simpa [Value.ownBlock] using h
     rw [this];exact List.mem_cons_self ..
    ·exact List.mem_cons_of_mem _ (List.mem_append_right _ h))
section
variable {w0 W:World} {X gq qc gb cap:Nat} {c nx:Int} {l:List Queue} {A b:List Book} {m d:List Int} {va vm vd:Value}
theorem ChangeIn.old (h:ChangeIn w0 X gq qc gb cap c nx l A va b m d vm vd W):∀ r∈vm.ownBlock.toList++(vd.ownBlock.toList++(va.ownBlock.toList++[X])),r < W.heap.size:=fun r hr=>by
 simp only [List.mem_append,List.mem_singleton,Option.mem_toList] at hr
 rcases hr with hr | hr | hr | hr
 ·exact (h.mrow.lt r hr).2
 ·exact (h.drow.lt r hr).2
 ·obtain ⟨css,o1,_⟩:=h.away;exact (o1.lt r hr).2
 ·rw [hr];exact (Array.getElem?_eq_some_iff.1 h.box).1
theorem ChangeIn.anew {W':World} {g2 cap2:Nat} {b2:List Book} (h:ChangeIn w0 X gq qc gb cap c nx l A va b m d vm vd W) (hx:Ext W W') (hg2:W.heap.size≤g2)
  (hown:OwnS (vm.ownBlock.toList++(vd.ownBlock.toList++(va.ownBlock.toList++[X]))) w0.heap.size W' (.slice (some ⟨gq,0,none⟩) l.length qc) (.slice (some ⟨g2,0,none⟩) b2.length cap2) l b2) :
  ChangeIn w0 X gq qc g2 cap2 c nx l A va b2 m d vm vd (W'.setCell ⟨X,3,none⟩ (.slice (some ⟨g2,0,none⟩) b2.length cap2)):=by
 have hs:=grown_set W' X 3 (.slice (some ⟨g2,0,none⟩) b2.length cap2)
 refine ⟨heap_setCell_same W' X 3 _ _ _ (blk_ext h.box hx),hown.kept hs (by simp),?_,h.live,?_,?_,h.mapart,h.dapart,h.aapart,(h.ext.tr hx).se h.low _,h.low⟩
 ·have h1:=((h.away.low_all h.live hg2).sub (cs:=vm.ownBlock.toList++(vd.ownBlock.toList++(g2::gq::X::List.range w0.heap.size))) (fun r hr=>by
   simp only [List.mem_cons,List.mem_append] at hr ⊢
   rcases hr with h | h | h | h | h | h
   ·exact .inr (.inl h)
   ·exact .inr (.inr (.inl h))
   ·exact .inl h
   ·exact .inr (.inr (.inr (.inr (.inl h))))
   ·exact .inr (.inr (.inr (.inr (.inr (.inl h)))))
   ·exact .inr (.inr (.inr (.inr (.inr (.inr h)))))))
  exact (h1.ext hx).keptR hs (by simp) (fun r hr e=>h.aapart (e▸hr))
 ·exact ownsRow_keptR (ownsRow_ext h.mrow hx) hs (fun r hr e=>(h.mapart r hr).1 (Option.some.inj e).symm)
 ·exact ownsRow_keptR (ownsRow_ext h.drow hx) hs (fun r hr e=>(h.dapart r hr).1 (Option.some.inj e).symm)
end
end Go.Proofs.YtncaoclhlfkdoaaGreat
