/- log.Replay; each theorem names its own conditions. -/
import Derived.Test.YtdcndkojmflhnaaGreatPLogF
set_option linter.unusedVariables false
set_option linter.unusedSimpArgs false
set_option maxRecDepth 100000
set_option maxHeartbeats 8000000
set_option linter.unusedSimpArgs false
set_option linter.unusedVariables false
namespace Go.Proofs.YtdcndkojmflhnaaGreat
open Go.RowKit
open List renaming getElem_toArray→zA,getElem_cons_zero→zB,getElem_cons_succ→zC,setIfInBounds_toArray→zD,set_cons_zero→zE,set_cons_succ→zF
def ActC (w:World) (cs:List Value) (x:Act1):Prop :=
 ∃ pv cv,cs=[.int .i64 x.Kind,.int .i64 x.N,.int .i64 x.Req.Queue,.int .i64 x.Req.From,.int .i64 x.Req.Until,.int .i64 x.Req.Kind,pv,cv]∧PiecesV w pv x.Req.Pieces∧RunsV w cv x.Cap∧(I64 x.Req.Queue∧I64 x.Req.From∧I64 x.Req.Until∧I64 x.Req.Kind)∧I64 x.Kind∧I64 x.N
theorem ActC.mono {w w':World} {cs:List Value} {x:Act1} (h:ActC w cs x) (hx:Ext w w'):ActC w' cs x:=by
 obtain ⟨pv,cv,h1,h2,h3,h4⟩:=h
 exact ⟨pv,cv,h1,h2.mono hx,h3.mono hx,h4⟩
theorem ActC.eight {w:World} {cs:List Value} {x:Act1} (h:ActC w cs x):cs.length=8:=by
 obtain ⟨pv,cv,rfl,_⟩:=h
 rfl
theorem ActC.one {w:World} {cs:List Value} {x:Act1} (h:ActC w cs x):∀ u∈cs,u.oneCell'=true:=by
 obtain ⟨pv,cv,rfl,hp,hc,_⟩:=h
 obtain ⟨a,c,rfl,_⟩:=hp.form
 obtain ⟨a2,c2,rfl,_⟩:=hc.form
 simp [Value.oneCell']
theorem ActC.grown {W W':World} {cs:List Value} {x:Act1} {row:Option Nat} (h:ActC W cs x) (hg:W.grownBy W' row) (ha:∀ u∈cs,ApartV u row):ActC W' cs x:=by
 obtain ⟨pv,cv,rfl,hp,hc,hi⟩:=h
 exact ⟨pv,cv,rfl,sv2_apart hp hg (ha _ (by simp)),sv2_apart hc hg (ha _ (by simp)),hi⟩
def EAct (w:World) (b o:Nat) (x:Act1):Prop:=∃ cs,ActC w cs x∧∀ (j:Nat) u,cs[j]?=some u→w.cell? ⟨b,o+j,none⟩=some u
theorem EAct.mono (w w':World) (b o:Nat) (x:Act1) (hx:Ext w w') (h:EAct w b o x):EAct w' b o x:=by
 obtain ⟨cs,h1,h2⟩:=h
 exact ⟨cs,h1.mono hx,fun j u hu=>hx.ce' (h2 j u hu)⟩
abbrev ActsV:=SV 8 EAct
theorem ActsV.mono {w w':World} {v:Value} {xs:List Act1} (h:ActsV w v xs) (hx:Ext w w'):ActsV w' v xs:=SV.mono EAct.mono h hx
theorem flat8 {α:Type}:∀ (css:List (List α)),(∀ cs∈css,cs.length=8)→∀ k j,j < 8→css.flatten[k*8+j]?=(css[k]?).bind (fun cs=>cs[j]?)
 | [],_,k,j,_=>by simp
 | cs::css,h,k,j,hj=>by
  have h1:=h cs (List.mem_cons_self ..)
  rw [List.flatten_cons]
  cases k with
  | zero =>
   rw [Nat.zero_mul,Nat.zero_add,List.getElem?_append_left (by omega)]
   rfl
  | succ k =>
   rw [List.getElem?_append_right (by omega),h1,show (k+1)*8+j - 8=k*8+j by omega,flat8 css (fun c hc=>h c (List.mem_cons_of_mem _ hc)) k j hj]
   rfl
structure Acts8 (base:Nat) (W:World) (v:Value) (l:List Act1) (css:List (List Value)):Prop where
 row:W.ownsRow base 31 8 v l.length css.flatten
 len:css.length=l.length
 each:∀ (k:Nat) (cs:List Value) (x:Act1),css[k]?=some cs→l[k]?=some x→ActC W cs x
 low:∀ cs∈css,∀ u∈cs,∀ a n c,u=.slice (some a) n c→a.block < W.heap.size∧∀ g,v.ownBlock=some g→a.block≠g
def OwnA (base:Nat) (W:World) (v:Value) (l:List Act1):Prop:=∃ css,Acts8 base W v l css
theorem OwnA.none (base:Nat) (W:World):OwnA base W (.slice none 0 0) [] :=
 ⟨[],World.ownsRow_nil _ _ _ _,rfl,fun k cs x h=>by simp at h,fun cs h=>by simp at h⟩
theorem Acts8.snoc {base g cap:Nat} {W W3 W5:World} {v:Value} {l:List Act1} {x:Act1} {css:List (List Value)} {cs:List Value} (h:Acts8 base W v l css) (hx:Ext W W3) (hc:ActC W3 cs x) (hn:∀ u∈cs,NewV W.heap.size W3 u)
  (hown:W5.ownsRow base 31 8 (.slice (some ⟨g,0,none⟩) (l.length+1) cap) (l.length+1) (css.flatten++cs)) (hg:W3.grownBy W5 v.ownBlock) (hgg:v.ownBlock=some g∨g=W3.heap.size) :
  OwnA base W5 (.slice (some ⟨g,0,none⟩) (l++[x]).length cap) (l++[x]):=by
 have hlen:(l++[x]).length=l.length+1:=by simp
 have hlt:∀ r,v.ownBlock=some r→r < W.heap.size:=fun r hr=>(h.row.lt r hr).2
 have hA:∀ ds∈css++[cs],∀ u∈ds,∀ a n c,u=.slice (some a) n c→a.block < W3.heap.size∧∀ r,v.ownBlock=some r→a.block≠r:=fun ds hd u hu a n c e=>by
  rcases List.mem_append.1 hd with h1 | h1
  ·have:=h.low ds h1 u hu a n c e
   exact ⟨Nat.lt_of_lt_of_le this.1 hx.size,this.2⟩
  ·rw [List.mem_singleton.1 h1] at hu
   have:=hn u hu a n c e
   exact ⟨this.2,fun r hr e'=>by have:=hlt r hr;omega⟩
 refine ⟨css++[cs],by rw [hlen,List.flatten_append];simpa using hown,by simp [h.len],fun k ds y hk hy=>?_,fun ds hd u hu a n c e=>⟨Nat.lt_of_lt_of_le (hA ds hd u hu a n c e).1 hg.size,fun g' hg'=>?_⟩⟩
 ·refine ActC.grown (W:=W3) ?_ hg (fun u hu a n c e he=>(hA ds (List.mem_of_getElem? hk) u hu a n c e).2 a.block he.symm rfl)
  by_cases hkb:k < l.length
  ·rw [List.getElem?_append_left (by rw [h.len];exact hkb)] at hk
   rw [List.getElem?_append_left hkb] at hy
   exact (h.each k ds y hk hy).mono hx
  ·have hkl:=(List.getElem?_eq_some_iff.1 hy).1
   have hkk:k=l.length:=by simp at hkl;omega
   subst hkk
   rw [List.getElem?_append_right (by rw [h.len];omega),h.len] at hk
   rw [List.getElem?_append_right (by omega)] at hy
   simp at hk hy
   subst hk;subst hy
   exact hc
 ·obtain rfl:g=g':=by simpa [Value.ownBlock] using hg'
  rcases hgg with h1 | h1
  ·exact (hA ds hd u hu a n c e).2 g h1
  ·have:=(hA ds hd u hu a n c e).1;omega
theorem Acts8.eight {base:Nat} {W:World} {v:Value} {l:List Act1} {css:List (List Value)} (h:Acts8 base W v l css):∀ cs∈css,cs.length=8:=fun cs hc=>by
 obtain ⟨k,hk⟩:=List.mem_iff_getElem?.1 hc
 have hkl:=(List.getElem?_eq_some_iff.1 hk).1
 obtain ⟨x,hx⟩:=getA (f:=l) (k:=k) (by rw [← h.len];exact hkl)
 exact (h.each k cs x hk hx).eight
theorem OwnA.v {base:Nat} {W:World} {v:Value} {l:List Act1} (h:OwnA base W v l) (h60:l.length≤60):ActsV W v l:=by
 obtain ⟨css,h⟩:=h
 rcases h.row.2 with ⟨rfl,h0⟩ | ⟨g,cap,cur,rfl,hb,hg,hcp,hm,hcs,htk⟩
 ·exact .inl ⟨List.eq_nil_of_length_eq_zero h0,Option.none,0,rfl,by omega⟩
 ·refine .inr ⟨g,0,cap,rfl,hcp,by unfold maxLen at hm;omega,by omega,(Array.getElem?_eq_some_iff.1 hg).1,fun k x hk=>?_⟩
  have hkb:=(List.getElem?_eq_some_iff.1 hk).1
  obtain ⟨cs,hcs'⟩:=getA (f:=css) (k:=k) (by rw [h.len];exact hkb)
  refine ⟨cs,h.each k cs x hcs' hk,fun j u hj=>?_⟩
  have h7:=h.eight cs (List.mem_of_getElem? hcs')
  have hj7:j < 8:=by have:=(List.getElem?_eq_some_iff.1 hj).1;omega
  have e:css.flatten[k*8+j]?=some u:=by rw [flat8 css h.eight k j hj7,hcs'];exact hj
  have:=h.row.cells (g:=g) rfl (k*8+j) u e
  rw [addr_add] at this
  rwa [show 0+(k*8+j)=0+k*8+j by omega] at this
theorem OwnA.ext {base:Nat} {W W':World} {v:Value} {l:List Act1} (h:OwnA base W v l) (hx:Ext W W'):OwnA base W' v l:=by
 obtain ⟨css,h⟩:=h
 exact ⟨css,ownsRow_ext h.row hx,h.len,fun k cs x h1 h2=>(h.each k cs x h1 h2).mono hx,fun cs hc u hu a n c e=>⟨Nat.lt_of_lt_of_le (h.low cs hc u hu a n c e).1 hx.size,(h.low cs hc u hu a n c e).2⟩⟩
theorem OwnA.form {base:Nat} {W:World} {v:Value} {l:List Act1} (h:OwnA base W v l):∃ a c,v=.slice a l.length c:=by
 obtain ⟨css,h⟩:=h
 rcases h.row.2 with ⟨rfl,h0⟩ | ⟨g,cap,cur,rfl,_⟩
 ·exact ⟨Option.none,0,by rw [h0]⟩
 ·exact ⟨_,cap,rfl⟩
def actsF:Nat→List UInt8→List Act1 × List UInt8
 | 0,t=>([],t)
 | n+1,t=>match actT t with
  | none=>([],t)
  | some (x,r)=>(x::(actsF n r).1,(actsF n r).2)
theorem actsF_none {n:Nat} {t:List UInt8} (h:actT t=none):actsF n t=([],t):=by
 cases n with
 | zero=>rfl
 | succ n=>simp only [actsF,h]
theorem actsF_some {n:Nat} {t r:List UInt8} {x:Act1} (h:actT t=some (x,r)):actsF (n+1) t=(x::(actsF n r).1,(actsF n r).2):=by simp only [actsF,h]
theorem actT_more {t r:List UInt8} {x:Act1} (h:actT t=some (x,r)):∃ d,t=d++r∧8≤d.length:=by
 match t,h with
 | k::n::q::f::u::rk::n1::r1,h =>
  simp only [actT] at h
  split at h
  ·next h1 =>
   cases hd:r1.drop (2*n1.toNat) with
   | nil=>rw [hd] at h;simp at h
   | cons n2 r2 =>
    rw [hd] at h
    simp only at h
    split at h
    ·next h2 =>
     simp only [Option.some.injEq,Prod.mk.injEq] at h
     have e1:r1=r1.take (2*n1.toNat)++(n2::(r2.take (2*n2.toNat)++r2.drop (2*n2.toNat))):=by rw [List.take_append_drop,← hd,List.take_append_drop]
     refine ⟨k::n::q::f::u::rk::n1::(r1.take (2*n1.toNat)++(n2::r2.take (2*n2.toNat))),?_,by simp;omega⟩
     rw [← h.2]
     simpa using e1
    ·cases h
  ·cases h
theorem actT_i64 {t r:List UInt8} {x:Act1} (h:actT t=some (x,r)):(I64 x.Req.Queue∧I64 x.Req.From∧I64 x.Req.Until∧I64 x.Req.Kind)∧I64 x.Kind∧I64 x.N:=by
 match t,h with
 | k::n::q::f::u::rk::n1::r1,h =>
  simp only [actT] at h
  split at h
  ·split at h
   ·split at h
    ·simp only [Option.some.injEq,Prod.mk.injEq] at h
     rw [← h.1]
     exact ⟨⟨byI_i64 _,byI_i64 _,byI_i64 _,byI_i64 _⟩,byI_i64 _,byI_i64 _⟩
    ·cases h
   ·cases h
  ·cases h
@[irreducible] def replayR (t:List UInt8):List Act1 × Int × Int:=if 4096 < t.length then ([],0,2) else ((actsF 60 t).1,(t.length:Int) - ((actsF 60 t).2.length:Int),0)
theorem replayR_many {t:List UInt8} (h:4096 < t.length):replayR t=([],0,2):=by unfold replayR;rw [if_pos h]
theorem replayR_ok {t:List UInt8} (h:¬ 4096 < t.length):replayR t=((actsF 60 t).1,(t.length:Int) - ((actsF 60 t).2.length:Int),0):=by unfold replayR;rw [if_neg h]
structure ReadTo (t:List UInt8) (l:List Act1) (r:List UInt8):Prop where
 eq:actsF 60 t=(l++(actsF (60 - l.length) r).1,(actsF (60 - l.length) r).2)
 behind:∃ d,t=d++r
theorem ReadTo.begin (t:List UInt8):ReadTo t [] t:=⟨rfl,[],rfl⟩
theorem ReadTo.step {t r r':List UInt8} {l:List Act1} {x:Act1} (h:ReadTo t l r) (h60:l.length < 60) (ha:actT r=some (x,r')):ReadTo t (l++[x]) r':=by
 obtain ⟨d,hd⟩:=h.behind
 obtain ⟨d',hd',_⟩:=actT_more ha
 refine ⟨?_,d++d',by rw [hd,hd',List.append_assoc]⟩
 rw [h.eq,show 60 - l.length=(60 - (l++[x]).length)+1 by simp;omega,actsF_some ha]
 simp
theorem ReadTo.stop {t r:List UInt8} {l:List Act1} (h:ReadTo t l r) (ha:actT r=none∨¬ l.length < 60):actsF 60 t=(l,r):=by
 rw [h.eq]
 rcases ha with ha | ha
 ·rw [actsF_none ha,List.append_nil]
 ·rw [show 60 - l.length=0 by omega];simp [actsF]
def RetActs (w:World) (q:List Act1 × Int × Int) (e:Ending) (w':World):Prop:=∃ v,e=.returned (.tuple #[v,.int .i64 q.2.1,.int .i64 q.2.2])∧ActsV w' v q.1∧Ext w w'
theorem retActs_of {w w':World} {q:List Act1 × Int × Int} {l:List Act1} {a b:Int} {v:Value} (h:q=(l,a,b)) (hv:ActsV w' v l) (hx:Ext w w'):RetActs w q (.returned (.tuple #[v,.int .i64 a,.int .i64 b])) w':=by
 subst h;exact ⟨v,rfl,hv,hx⟩
def lenV:Value→Nat
 | .slice _ n _=>n
 | _=>0
theorem news8 (W:World) (cs:List Value) (T:TypeId) (h:cs.length=8):∀ (j:Nat) u,cs[j]?=some u→(W.alloc (.cells cs.toArray T)).cell? ((⟨W.heap.size,0,none⟩:Addr).add j)=some u:=by
 have h0:(W.alloc (.cells cs.toArray T)).ownsRow W.heap.size T 8 (.slice (some ⟨W.heap.size,0,none⟩) 1 1) 1 cs :=
  ⟨by rw [h],.inr ⟨W.heap.size,1,cs.toArray,rfl,Nat.le_refl _,heap_alloc_new W _,Nat.le_refl _,by decide,by simp [h],by rw [List.toList_toArray,List.take_of_length_le (by omega)]⟩⟩
 exact h0.cells (g:=W.heap.size) rfl
theorem w64 {n:Int} (h:-9223372036854775808≤n∧n≤9223372036854775807):wrap64 n=n:=by unfold wrap64;omega
theorem Tryz.info31:(Tryz.prog.info? 31).map (fun i=>(i.zero,i.size,i.bytes))=some (some (.agg #[.int .i64 0,.int .i64 0,.int .i64 0,.int .i64 0,.int .i64 0,.int .i64 0,.slice none 0 0,.slice none 0 0]),8,96):=by kernel_rfl
theorem Replay_any (w:World) (t:List UInt8) :
  Calls Tryz.prog 22 #[.string (str t)] w (RetActs w (replayR t)):=by
 obtain ⟨T,hT⟩:∃ T,str t=T:=⟨_,rfl⟩
 have hsz:T.size=t.length:=by rw [← hT,str_size]
 by_cases hm:4096 < t.length
 ·have hm':(4096:Int) < (T.size:Int):=by omega
  have hd:=deT hm'
  have HR:=hid (replayR_many hm)
  clear hm hsz
  rw [hT]
  clear hT
  go_enter Tryz.func22,Tryz.ntmps22
  go_wp2_with fail
  go_ret3
  exact retActs_of HR.out SV.nil (Ext.rf w)
 ·have hm':¬ (4096:Int) < (T.size:Int):=by omega
  have hd:=deF hm'
  obtain ⟨ia,ia1,ia2,ia3,ia4⟩:=info_parts Tryz.info31
  have HR:=hid (replayR_ok hm)
  have HSZ:=hid hsz
  have HT:=hid hT
  have HM:=hid hm
  rw [hT]
  clear hm hsz hT
  go_enter Tryz.func22,Tryz.ntmps22
  go_wp2_with fail
  go_loopw [5,6] (fun v c wr=>∃ (l:List Act1) (r:List UInt8) (a:Option Addr) (cp:Nat),v=.slice a l.length cp∧c=.string (str r)∧l.length≤60∧Hid (ReadTo t l r)∧Hid (OwnA w.heap.size wr v l)∧Hid (Ext w wr)) (fun v _ _=>60 - lenV v)
  case atStart=>exact ⟨[],t,none,0,rfl,by rw [HT.out],Nat.zero_le _,hid (ReadTo.begin t),hid (OwnA.none _ _),hid (Ext.rf w)⟩
  case round =>
   obtain ⟨l,r,a,cp,rfl,rfl,h60,HRT,HOW,HX⟩:=hrel
   by_cases hlt:l.length < 60
   ·have hlt':(l.length:Int) < (60:Int):=by omega
    have hdl:=deT hlt'
    have RD:=hid (read_any wr r)
    go_wp2_with fail
    refine RD.out.mono ?_
    rintro e w1 ⟨hx1,hor⟩
    rcases hor with ⟨x,r',pv,cv,hact,rfl,hp,hc,np,nc⟩ | ⟨hact,rfl⟩
    ·obtain ⟨hi4,hik,hin⟩:=actT_i64 hact
     have hbox:=heap_alloc_new w1 (.cells #[.int .i64 x.Kind,.int .i64 x.N,.int .i64 x.Req.Queue,.int .i64 x.Req.From,.int .i64 x.Req.Until,.int .i64 x.Req.Kind,pv,cv] 31)
     have hxb:=(Ext.rf w1).al (.cells #[.int .i64 x.Kind,.int .i64 x.N,.int .i64 x.Req.Queue,.int .i64 x.Req.From,.int .i64 x.Req.Until,.int .i64 x.Req.Kind,pv,cv] 31)
     have hxc:=hxb.al (.cells #[.int .i64 x.Kind,.int .i64 x.N,.int .i64 x.Req.Queue,.int .i64 x.Req.From,.int .i64 x.Req.Until,.int .i64 x.Req.Kind,pv,cv] 31)
     have hac:ActC w1 [.int .i64 x.Kind,.int .i64 x.N,.int .i64 x.Req.Queue,.int .i64 x.Req.From,.int .i64 x.Req.Until,.int .i64 x.Req.Kind,pv,cv] x:=⟨pv,cv,rfl,hp,hc,hi4,hik,hin⟩
     have hnew:∀ u∈([.int .i64 x.Kind,.int .i64 x.N,.int .i64 x.Req.Queue,.int .i64 x.Req.From,.int .i64 x.Req.Until,.int .i64 x.Req.Kind,pv,cv]:List Value),NewV wr.heap.size w1 u:=fun u hu=>by
      simp only [List.mem_cons,List.not_mem_nil,or_false] at hu
      rcases hu with rfl | rfl | rfl | rfl | rfl | rfl | rfl | rfl
      ·intro a n c e;cases e
      ·intro a n c e;cases e
      ·intro a n c e;cases e
      ·intro a n c e;cases e
      ·intro a n c e;cases e
      ·intro a n c e;cases e
      ·exact np
      ·exact nc
     have hn8:=news8 (w1.alloc (.cells #[.int .i64 x.Kind,.int .i64 x.N,.int .i64 x.Req.Queue,.int .i64 x.Req.From,.int .i64 x.Req.Until,.int .i64 x.Req.Kind,pv,cv] 31)) [.int .i64 x.Kind,.int .i64 x.N,.int .i64 x.Req.Queue,.int .i64 x.Req.From,.int .i64 x.Req.Until,.int .i64 x.Req.Kind,pv,cv] 31 rfl
     rw [World.size_alloc] at hn8
     have hone:=hac.one
     obtain ⟨css,hA⟩:=HOW.out
     have HO1:=hid (ownsRow_ext hA.row (hx1.tr hxc))
     have hsz0:=(HX.out.tr (hx1.tr hxc)).size
     have HSZ0:=hid hsz0
     have HSN:=hid (fun (g cap:Nat) (W5:World)=>hA.snoc (g:=g) (cap:=cap) (W5:=W5) (hx1.tr hxc) (hac.mono hxc) (fun u hu=>(hnew u hu).ext hxc))
     have HX1:=hid (HX.out.tr (hx1.tr hxc))
     have HOWN:=hid (fun rr hr=>(HOW.out.choose_spec.row.lt rr hr).1)
     have HRT2:=hid (HRT.out.step hlt hact)
     have HN8:=hid hn8
     have HONE:=hid hone
     have k0:=cell_of_row _ _ 0 _ _ _ hbox
     have k1:=cell_of_row _ _ 1 _ _ _ hbox
     have k2:=cell_of_row _ _ 2 _ _ _ hbox
     have k3:=cell_of_row _ _ 3 _ _ _ hbox
     have k4:=cell_of_row _ _ 4 _ _ _ hbox
     have k5:=cell_of_row _ _ 5 _ _ _ hbox
     have k6:=cell_of_row _ _ 6 _ _ _ hbox
     have k7:=cell_of_row _ _ 7 _ _ _ hbox
     obtain ⟨pa,pc,rfl,_,_,_⟩:=hp.form
     obtain ⟨ca,cc,rfl,_,_,_⟩:=hc.form
     generalize x.Req.Pieces.length=pn at *
     generalize x.Cap.length=cn at *
     clear hact hp hc np nc hi4 hik hin hbox hxb hxc hac hnew hn8 hone hA hsz0 hx1 RD HOW HX
     go_wp2_with (at_builtin;refine wpList_append_lies _ rfl _ _ 57 rfl w.heap.size 31 ia _ 8 96 Tryz.underlying57 ia1 ia2 ia3 ia4 rfl (by decide) (.slice a l.length cp) l.length css.flatten rfl HO1.out ⟨w1.heap.size+1,0,none⟩ 1 1 [.int .i64 x.Kind,.int .i64 x.N,.int .i64 x.Req.Queue,.int .i64 x.Req.From,.int .i64 x.Req.Until,.int .i64 x.Req.Kind,.slice pa pn pc,.slice ca cn cc] rfl rfl HN8.out HONE.out (by omega) (by unfold maxLen;omega) (by omega) HSZ0.out (w1.heap.size+2) (by simp) ?_;intro g2 cap2 W2 hown hgrow hlie hlt2;have HO2:=hid (HSN.out g2 cap2 W2 hown hgrow (hlie.imp_right fun e=>e.trans (by simp only [World.size_alloc])));have HX2:=hid (HX1.out.gr (v:=.slice a l.length cp) hgrow HOWN.out);clear hown hgrow hlie hlt2)
     go_roundw
     case rel =>
      have e:(l++[x]).length=l.length+1:=by simp
      exact ⟨l++[x],r',_,_,by rw [e],rfl,by rw [e];omega,HRT2,by rw [e] at HO2;exact HO2,HX2⟩
     case measure=>simp [lenV];omega
    ·have HEND:=hid (retActs_of (q:=replayR t) (w:=w) (w':=w1.alloc (.cells #[.int .i64 0,.int .i64 0,.int .i64 0,.int .i64 0,.int .i64 0,.int .i64 0,.slice none 0 0,.slice none 0 0] 31)) (l:=l) (a:=(t.length:Int) - (r.length:Int)) (b:=0) (v:=.slice a l.length cp) (by
      have e:=HRT.out.stop (.inl hact)
      rw [HR.out,e]) ((HOW.out.ext (hx1.al _)).v h60) (HX.out.tr (hx1.al _)))
     rw [← HSZ.out,← str_size r] at HEND
     have hwr:wrap64 ((T.size:Int) - ((str r).size:Int))=(T.size:Int) - ((str r).size:Int):=w64 ⟨by rw [HSZ.out,str_size];obtain ⟨d,hd'⟩:=HRT.out.behind;have:=congrArg List.length hd';rw [List.length_append] at this;have:=HM.out;omega,by rw [HSZ.out,str_size];have:=HM.out;omega⟩
     rw [← hwr] at HEND
     unfold zeroAct
     clear hwr
     clear hact hx1 RD HOW HX HRT
     go_wp2_with fail
     go_ret3
     exact HEND.out
   ·have hlt':¬ (l.length:Int) < (60:Int):=by omega
    have hdl:=deF hlt'
    have HEND:=hid (retActs_of (q:=replayR t) (w:=w) (w':=wr) (l:=l) (a:=(t.length:Int) - (r.length:Int)) (b:=0) (v:=.slice a l.length cp) (by
      have e:=HRT.out.stop (.inr hlt)
      rw [HR.out,e]) (HOW.out.v h60) HX.out)
    rw [← HSZ.out,← str_size r] at HEND
    have hwr:wrap64 ((T.size:Int) - ((str r).size:Int))=(T.size:Int) - ((str r).size:Int):=w64 ⟨by rw [HSZ.out,str_size];obtain ⟨d,hd'⟩:=HRT.out.behind;have:=congrArg List.length hd';rw [List.length_append] at this;have:=HM.out;omega,by rw [HSZ.out,str_size];have:=HM.out;omega⟩
    rw [← hwr] at HEND
    clear HOW HX HRT hwr
    go_wp2_with fail
    go_ret3
    exact HEND.out
end Go.Proofs.YtdcndkojmflhnaaGreat
