/- The law LoadTrue; each theorem names its own conditions. -/
import Derived.Test.YtdcndkojmflhnaaGreatPLawO
import Derived.Deep.RegionHeldLaw
set_option linter.unusedVariables false
set_option maxRecDepth 100000
set_option maxHeartbeats 8000000
set_option linter.unusedSimpArgs false
set_option linter.unusedVariables false
namespace Go.Proofs.YtdcndkojmflhnaaGreat
open List renaming getElem_toArray→zA,getElem_cons_zero→zB,getElem_cons_succ→zC,setIfInBounds_toArray→zD,set_cons_zero→zE,set_cons_succ→zF
open Go.RowKit Go.ChangeShapes Go.WideShapes Go.Deep
theorem flat7 {α:Type}:∀ (css:List (List α)),(∀ cs∈css,cs.length=7)→∀ k j,j < 7→css.flatten[k*7+j]?=(css[k]?).bind (fun cs=>cs[j]?)
 | [],_,k,j,_=>by simp
 | cs::css,h,k,j,hj=>by
  have h1:=h cs (List.mem_cons_self ..)
  rw [List.flatten_cons]
  cases k with
  | zero =>
   rw [Nat.zero_mul,Nat.zero_add,List.getElem?_append_left (by omega)]
   rfl
  | succ k =>
   rw [List.getElem?_append_right (by omega),h1,show (k+1)*7+j - 7=k*7+j by omega,flat7 css (fun c hc=>h c (List.mem_cons_of_mem _ hc)) k j hj]
   rfl
theorem flat7_len {α:Type}:∀ (css:List (List α)),(∀ cs∈css,cs.length=7)→css.flatten.length=css.length*7
 | [],_=>rfl
 | cs::css,h=>by
  rw [List.flatten_cons,List.length_append,h cs (List.mem_cons_self ..),flat7_len css (fun c hc=>h c (List.mem_cons_of_mem _ hc)),List.length_cons]
  omega
structure Cells7 (w:World) (css:List (List Value)) (b:List Book):Prop where
 len:css.length=b.length
 each:∀ (k:Nat) (cs:List Value) (x:Book),css[k]?=some cs→b[k]?=some x→BookC w cs x
theorem bookC_len {w:World} {cs:List Value} {x:Book} (h:BookC w cs x):cs.length=7:=by
 obtain ⟨qs,bv,rfl,⟨pv,rfl,_⟩,_⟩:=h
 rfl
theorem bookC_one {w:World} {cs:List Value} {x:Book} (h:BookC w cs x):∀ u∈cs,u.oneCell'=true:=by
 obtain ⟨qs,bv,rfl,⟨pv,rfl,hp,_⟩,hb,_⟩:=h
 obtain ⟨a,c,rfl,_⟩:=hp.form
 obtain ⟨a2,c2,rfl,_⟩:=hb.form
 simp [Value.oneCell']
theorem Cells7.seven {w:World} {css:List (List Value)} {b:List Book} (h:Cells7 w css b):∀ cs∈css,cs.length=7:=fun cs hc=>by
 obtain ⟨k,hk⟩:=List.mem_iff_getElem?.1 hc
 have hkl:=(List.getElem?_eq_some_iff.1 hk).1
 obtain ⟨x,hx⟩:=getA (f:=b) (k:=k) (by rw [← h.len];exact hkl)
 exact bookC_len (h.each k cs x hk hx)
theorem Cells7.one {w:World} {css:List (List Value)} {b:List Book} (h:Cells7 w css b):∀ u∈css.flatten,u.oneCell'=true:=fun u hu=>by
 obtain ⟨cs,hc,hu⟩:=List.mem_flatten.1 hu
 obtain ⟨k,hk⟩:=List.mem_iff_getElem?.1 hc
 have hkl:=(List.getElem?_eq_some_iff.1 hk).1
 obtain ⟨x,hx⟩:=getA (f:=b) (k:=k) (by rw [← h.len];exact hkl)
 exact bookC_one (h.each k cs x hk hx) u hu
theorem Cells7.mono {w w':World} {css:List (List Value)} {b:List Book} (h:Cells7 w css b) (hx:Ext w w'):Cells7 w' css b :=
 ⟨h.len,fun k cs x h1 h2=>(h.each k cs x h1 h2).mono hx⟩
theorem Cells7.append {w:World} {css dss:List (List Value)} {b c:List Book} (h:Cells7 w css b) (g:Cells7 w dss c):Cells7 w (css++dss) (b++c):=by
 refine ⟨by rw [List.length_append,List.length_append,h.len,g.len],fun k cs x h1 h2=>?_⟩
 by_cases hk:k < css.length
 ·rw [List.getElem?_append_left hk] at h1
  rw [List.getElem?_append_left (by rw [← h.len];exact hk)] at h2
  exact h.each k cs x h1 h2
 ·rw [List.getElem?_append_right (by omega)] at h1
  rw [List.getElem?_append_right (by rw [← h.len];omega),← h.len] at h2
  exact g.each _ cs x h1 h2
theorem books_cells {w:World} {a:Option Addr} {z c:Nat} {b:List Book} (h:BooksV w (.slice a z c) b):∃ css,Cells7 w css b∧(1≤b.length→∃ ad,a=some ad∧∀ j u,css.flatten[j]?=some u→w.cell? (ad.add j)=some u):=by
 rcases h with ⟨rfl,_⟩ | ⟨b0,off,cap,e,h1,h2,h3,h4,h5⟩
 ·exact ⟨[],⟨rfl,fun k cs x h=>by simp at h⟩,fun h=>by simp at h⟩
 ·cases e
  have each:∀ i,i < b.length→∃ cs:List Value,∀ x,b[i]?=some x→BookC w cs x∧∀ (j:Nat) u,cs[j]?=some u→w.cell? ⟨b0,off+i*7+j,none⟩=some u:=fun i hi=>by
   obtain ⟨x,hx⟩:=getA (f:=b) (k:=i) hi
   obtain ⟨cs,hc1,hc2⟩:=h5 i x hx
   exact ⟨cs,fun y hy=>by rw [hx] at hy;cases hy;exact ⟨hc1,hc2⟩⟩
  obtain ⟨f,hf⟩:=choose_lt (α:=List Value) (p:=fun i cs=>∀ x,b[i]?=some x→BookC w cs x∧∀ (j:Nat) u,cs[j]?=some u→w.cell? ⟨b0,off+i*7+j,none⟩=some u) each
  have hget:∀ k cs,((List.range b.length).map f)[k]?=some cs→k < b.length∧cs=f k:=fun k cs hk=>by
   rw [List.getElem?_map] at hk
   by_cases hkl:k < b.length
   ·rw [List.getElem?_range hkl] at hk
    exact ⟨hkl,by simpa using hk.symm⟩
   ·rw [List.getElem?_eq_none (by simpa using hkl)] at hk
    cases hk
  have hC:Cells7 w ((List.range b.length).map f) b:=⟨by simp,fun k cs x h1 h2=>by
   obtain ⟨hk,rfl⟩:=hget k cs h1
   exact (hf k hk x h2).1⟩
  refine ⟨_,hC,fun _=>⟨_,rfl,fun j u hj=>?_⟩⟩
  have e:j=j / 7*7+j % 7:=by omega
  rw [e,flat7 _ hC.seven (j / 7) (j % 7) (by omega)] at hj
  cases hc:((List.range b.length).map f)[j / 7]? with
  | none=>rw [hc] at hj;cases hj
  | some cs =>
   rw [hc] at hj
   obtain ⟨hk,rfl⟩:=hget _ cs hc
   obtain ⟨x,hx⟩:=getA (f:=b) (k:=j / 7) hk
   have:=(hf _ hk x hx).2 (j % 7) u hj
   rw [addr_add]
   rwa [show off+j / 7*7+j % 7=off+j by omega] at this
theorem books_of_owns {w:World} {base T:Nat} {v:Value} {css:List (List Value)} {b:List Book} (h:w.ownsRow base T 7 v b.length css.flatten) (hc:Cells7 w css b) (hn:b.length≤12):BooksV w v b:=by
 rcases h.2 with ⟨rfl,h0⟩ | ⟨g,cap,cur,rfl,hb,hg,hcp,hm,hcs,htk⟩
 ·exact .inl ⟨List.eq_nil_of_length_eq_zero h0,none,0,rfl,by omega⟩
 ·refine .inr ⟨g,0,cap,rfl,hcp,by unfold maxLen at hm;omega,by omega,(Array.getElem?_eq_some_iff.1 hg).1,fun k x hk=>?_⟩
  have hkb:=(List.getElem?_eq_some_iff.1 hk).1
  obtain ⟨cs,hcs'⟩:=getA (f:=css) (k:=k) (by rw [hc.len];exact hkb)
  refine ⟨cs,hc.each k cs x hcs' hk,fun j u hj=>?_⟩
  have h7:=hc.seven cs (List.mem_of_getElem? hcs')
  have hj7:j < 7:=by have:=(List.getElem?_eq_some_iff.1 hj).1;omega
  have e:css.flatten[k*7+j]?=some u:=by rw [flat7 css hc.seven k j hj7,hcs'];exact hj
  have:=h.cells (g:=g) rfl (k*7+j) u e
  rw [addr_add] at this
  rwa [show 0+(k*7+j)=0+k*7+j by omega] at this
theorem cells_at {w:World} {ad:Addr} {m c:Nat} {b:List Book} (h:BooksV w (.slice (some ad) m c) b) (hm:b.length=m):∃ css,Cells7 w css b∧css.flatten.length=m*7∧∀ j u,css.flatten[j]?=some u→w.cell? (ad.add j)=some u:=by
 obtain ⟨css,h1,h2⟩:=books_cells h
 refine ⟨css,h1,by rw [flat7_len css h1.seven,h1.len,hm],fun j u hj=>?_⟩
 by_cases h0:1≤b.length
 ·obtain ⟨ad',e,h3⟩:=h2 h0
  cases e
  exact h3 j u hj
 ·have:css=[]:=List.eq_nil_of_length_eq_zero (by rw [h1.len];omega)
  subst this
  simp at hj
theorem own_lit7 (W:World) (cs:List Value) (T:TypeId) (h:cs.length=7):(W.alloc (.cells cs.toArray T)).ownsRow W.heap.size T 7 (.slice (some ⟨W.heap.size,0,none⟩) 1 1) 1 cs :=
 ⟨by omega,.inr ⟨W.heap.size,1,cs.toArray,rfl,Nat.le_refl _,heap_alloc_new W _,Nat.le_refl _,by decide,by simp [h],by simp [h,List.take_of_length_le]⟩⟩
theorem own_some7 {w:World} {base e sz n:Nat} {v:Value} {xs:List Value} (h:w.ownsRow base e sz v n xs) (hn:1≤n):∃ g cap,v=.slice (some ⟨g,0,none⟩) n cap:=by
 rcases h.2 with ⟨_,h0⟩ | ⟨g,cap,_,rfl,_⟩
 ·omega
 ·exact ⟨g,cap,rfl⟩
theorem step_append_own {P:Program} {ops:Array Oper} {o:Oper} {a:Act} {w:World} {K:Act→World→Prop} {Q:Exit→Act→World→Prop} {E:Prop} (hgd:o.guard=none) (s x:Operand) (t:TypeId)
  (ho:o.op=.call { callee:=.builtin .append,args:=#[s,x],argTypes:=#[t,t] })
  (base:Nat) (e:TypeId) (i:TypeInfo) (z:Value) (size bytes:Nat) (ht:P.underlying t=some (.slice e)) (hi:P.info? e=some i) (hz:i.zero=some z)
  (hsize:i.size=size) (hby:i.bytes=bytes) (hzs:z.cells.size=size) (hsz:0 < size)
  (v:Value) (n:Nat) (xs:List Value) (hs:a.eval s=v) (hown:w.ownsRow base e size v n xs)
  (ad:Addr) (m c:Nat) (news:List Value) (hx:a.eval x=.slice (some ad) m c) (hl:news.length=m*size) (hnews:∀ j u,news[j]?=some u→w.cell? (ad.add j)=some u) (h1:∀ u∈news,u.oneCell'=true)
  (h63:n+m≤maxLen) (hbytes:(n+m)*bytes≤140737488355328) (hbase:base≤w.heap.size)
  (h:∀ v' w',w'.ownsRow base e size v' (n+m) (xs++news)→w.grownBy w' v.ownBlock→K (a.put o.dst v') w') :
  if Region.wanted o (yielded ops a.tmps)=true then Oper.wp P o a w K Q else E:=by
 have hw:Region.wanted o (yielded ops a.tmps)=true:=by simp [Region.wanted,hgd]
 rw [if_pos hw]
 exact wp_append_own w s x t ho base e i z size bytes ht hi hz hsize hby hzs hsz v n xs hs hown ad m c news hx hl hnews h1 h63 hbytes hbase fun v' w' h2 h3 _=>h v' w' h2 h3
theorem ext_ceA {w w':World} (hx:Ext w w') {a:Addr} {v:Value} (h:w.cell? a=some v):w'.cell? a=some v:=by
 rw [hx.cell (World.block_lt_of_cell? w a h)];exact h
theorem Tryz.info40:(Tryz.prog.info? 40).map (fun i=>(i.zero,i.size,i.bytes))=some (some (.agg #[.int .i64 0,.int .i64 0,.int .i64 0,.int .i64 0,.int .i64 0,.slice none 0 0,.slice none 0 0]),7,88):=by kernel_rfl
end Go.Proofs.YtdcndkojmflhnaaGreat
