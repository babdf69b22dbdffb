/- runs: walks, third part -/
import Derived.Test.YtncaoclhlfkdoaaGreatPRunsX
import Derived.Test.YtncaoclhlfkdoaaGreatPRunsY
import Derived.Shelf.Abstract
import Derived.Laws.PanicsMore
/- Walks of package runs: Hill, told, Plus, Minus, Lesser, Bump, Value, Least. -/
set_option linter.unusedVariables false
set_option maxRecDepth 100000
set_option maxHeartbeats 8000000
namespace Go.Proofs.YtncaoclhlfkdoaaGreat
open Go.RowKit
open List renaming getElem_toArray→l1,getElem_cons_zero→l2,getElem_cons_succ→l3,setIfInBounds_toArray→l4,set_cons_zero→l5,set_cons_succ→l6
theorem lesser1 (a b:Int) (w:World):Calls Tryz.prog 70 #[.int .i64 a,.int .i64 b] w fun e w'=>e=.returned (.int .i64 (min a b))∧w'=w:=by
 by_cases h:b < a
 ·rw [show min a b=b by omega]
  go_enter Tryz.func70,Tryz.ntmps70
  go_wp2
  go_ret
  exact ⟨rfl,rfl⟩
 ·rw [show min a b=a by omega]
  go_enter Tryz.func70,Tryz.ntmps70
  go_wp2
  go_ret
  exact ⟨rfl,rfl⟩
theorem told1 (x:Run) (w:World):Calls Tryz.prog 131 #[.agg #[.int .i64 x.At,.int .i64 x.N]] w fun e w'=>e=.returned (.bool (decide (¬ NumOk x.N)))∧Ext w w':=by
 by_cases h:NumOk x.N
 ·rw [deF (fun h'=>h' h)]
  have c:=fun w=>number_yes x.N w h
  have C:=hid c
  clear c h
  go_enter Tryz.func131,Tryz.ntmps131
  go_wp2_with fail
  refine (C.out _).mono ?_
  rintro e w' ⟨rfl,rfl⟩
  go_wp2_with fail
  go_ret
  exact ⟨rfl,(Ext.rf _).al _⟩
 ·rw [deT h]
  have c:=fun w=>number_no x.N w h
  have C:=hid c
  clear c h
  go_enter Tryz.func131,Tryz.ntmps131
  go_wp2_with fail
  refine (C.out _).mono ?_
  rintro e w' ⟨rfl,rfl⟩
  go_wp2_with fail
  go_ret
  exact ⟨rfl,(Ext.rf _).al _⟩
theorem Check_any (w:World) (v:Value) (f:List Run) (hv:RunsV w v f):Calls Tryz.prog 72 #[v] w fun e w'=>e=.returned (.int .i64 (chk f))∧Ext w w':=by
 have nilc:∀ (a:Option Addr) (cap:Nat),Calls Tryz.prog 72 #[.slice a 0 cap] w fun e w'=>e=.returned (.int .i64 1)∧Ext w w':=by
  intro a cap
  go_enter Tryz.func72,Tryz.ntmps72
  go_wp2
  go_ret
  exact ⟨rfl,Ext.rf _⟩
 by_cases h0:f.length=0
 ·have hf:f=[]:=List.eq_nil_of_length_eq_zero h0
  subst hf
  have hc:chk []=1:=chk_no (fun h=>h.1)
  rw [hc]
  obtain ⟨a,cap,rfl,_⟩:=hv.form
  exact nilc a cap
 ·rcases hv with ⟨rfl,a0,c0,rfl,hc0⟩ | ⟨b,off,cap,rfl,h1,h2,h3,h4,h5⟩
  ·exact absurd rfl h0
  ·exact Check_some w b off cap f h1 h2 h3 h4 h5 (by omega)
theorem RunsV.some {w:World} {v:Value} {f:List Run} (h:RunsV w v f) (hf:Shape f) :
  ∃ b off cap,v=.slice (some ⟨b,off,none⟩) f.length cap∧f.length≤cap∧cap≤9223372036854775807∧f.length≤17592186044416∧b < w.heap.size∧∀ k x,f[k]?=some x→ERun w b (off+k*2) x:=by
 rcases h with ⟨rfl,a0,c0,rfl,hc0⟩ | h
 ·exact hf.elim
 ·exact h
theorem Zip_any (w:World) (vf vg:Value) (f g:List Run) (hf:RunsV w vf f) (hg:RunsV w vg g) (hsf:Shape f) (hsg:Shape g) (G:Nat) (of:Int→Int→Int)
  (heg:∀ (args:Array Value) (w:World),(callFunc G args).run Tryz.prog w=.ok (.enter G args) w)
  (hof:∀ x∈f,∀ y∈g,I64 (of x.N y.N)∧∀ w,Calls Tryz.prog G #[.int .i64 x.N,.int .i64 y.N] w fun e w'=>e=.returned (.int .i64 (of x.N y.N))∧w'=w) :
  Calls Tryz.prog 117 #[vf,vg,.func (.func G) #[] #[]] w (RetRuns w (fold (fun t=>of (sp f t) (sp g t)))):=by
 obtain ⟨fb,fo,fc,rfl,f1,f2,_,f3,f4⟩:=hf.some hsf
 obtain ⟨gb,go,gc,rfl,g1,g2,_,g3,g4⟩:=hg.some hsg
 exact Zip_some w fb fo fc gb go gc f g G of hsf hsg f1 g1 f2 g2 f3 g3 f4 g4 heg hof
theorem Zip_anyF (w:World) (vf vg:Value) (f g:List Run) (hf:RunsV w vf f) (hg:RunsV w vg g) (hsf:Shape f) (hsg:Shape g) (G:Nat) (of:Int→Int→Int)
  (heg:∀ (args:Array Value) (w:World),(callFunc G args).run Tryz.prog w=.ok (.enter G args) w)
  (hof:∀ x∈f,∀ y∈g,I64 (of x.N y.N)∧∀ w,Calls Tryz.prog G #[.int .i64 x.N,.int .i64 y.N] w fun e w'=>e=.returned (.int .i64 (of x.N y.N))∧w'=w) :
  Calls Tryz.prog 117 #[vf,vg,.func (.func G) #[] #[]] w (RetRunsF w (fold (fun t=>of (sp f t) (sp g t)))):=by
 obtain ⟨fb,fo,fc,rfl,f1,f2,_,f3,f4⟩:=hf.some hsf
 obtain ⟨gb,go,gc,rfl,g1,g2,_,g3,g4⟩:=hg.some hsg
 exact Zip_fresh w fb fo fc gb go gc f g G of hsf hsg f1 g1 f2 g2 f3 g3 f4 g4 heg hof
theorem At_any (w:World) (v:Value) (f:List Run) (hv:RunsV w v f) (hs:Shape f) (t:Int) (h2:0≤t) (h3:t < 48) :
  Calls Tryz.prog 74 #[v,.int .i64 t] w fun e w'=>e=.returned (.int .i64 (sp f t.toNat))∧Ext w w':=by
 obtain ⟨b,off,cap,rfl,h4,h5,_,h6,h7⟩:=hv.some hs
 exact At_some w b off cap f t hs h5 h4 h6 h7 h2 h3
theorem Low_any (w:World) (v:Value) (f:List Run) (hv:RunsV w v f) (hs:Shape f) (s t:Int) (h1:0≤s) (h2:s < t) (h3:t≤48) :
  Calls Tryz.prog 191 #[v,.int .i64 s,.int .i64 t] w fun e w'=>e=.returned (.int .i64 (lowT (sp f) s.toNat t.toNat))∧Ext w w':=by
 obtain ⟨b,off,cap,rfl,h4,h5,_,h6,h7⟩:=hv.some hs
 exact Low_some w b off cap f s t hs h5 h4 h6 h7 h1 h2 h3
@[irreducible] def valueR (f:List Run) (t:Int):Int × Int:=if Fine f then (if 0≤t∧t < 48 then (sp f t.toNat,0) else (0,3)) else (0,1)
@[irreducible] def leastR (f:List Run) (a b:Int):Int × Int:=if Fine f then (if 0≤a∧a < b∧b≤48 then (lowT (sp f) a.toNat b.toNat,0) else (0,3)) else (0,1)
theorem Value_any (w:World) (v:Value) (f:List Run) (t:Int) (hv:RunsV w v f) :
  Calls Tryz.prog 31 #[v,.int .i64 t] w fun e w'=>e=.returned (.tuple #[.int .i64 (valueR f t).1,.int .i64 (valueR f t).2])∧Ext w w':=by
 have C:=hid (Check_any w v f hv)
 have Hv:=hid hv
 by_cases hf:Fine f
 ·have Hc:=hid (chk_yes hf)
  by_cases ht:0≤t∧t < 48
  ·have hr:valueR f t=(sp f t.toNat,0):=by unfold valueR;rw [if_pos hf,if_pos ht]
   have A:=hid (fun (W:World) (h:Ext w W)=>At_any W v f (hv.mono h) hf.1 t ht.1 ht.2)
   have S:=hid (fun (W:World)=>Span_yes t 48 W ht.1 ht.2 (by omega))
   rw [hr]
   clear hr ht hf hv
   generalize sp f t.toNat=r at *
   go_enter Tryz.func31,Tryz.ntmps31
   go_wp2_with fail
   refine C.out.mono ?_
   rintro e w1 ⟨rfl,hx1⟩
   rw [Hc.out]
   go_wp2_with fail
   refine (S.out _).mono ?_
   rintro e w2 ⟨rfl,rfl⟩
   go_wp2_with fail
   refine (A.out _ hx1).mono ?_
   rintro e w2 ⟨rfl,hx2⟩
   go_wp2_with fail
   go_ret2
   exact ⟨rfl,hx1.tr hx2⟩
  ·have hr:valueR f t=(0,3):=by unfold valueR;rw [if_pos hf,if_neg ht]
   have S:=hid (fun (W:World)=>Span_no t 48 W (fun h=>ht ⟨h.1,h.2.1⟩))
   rw [hr]
   clear hr ht hf hv
   go_enter Tryz.func31,Tryz.ntmps31
   go_wp2_with fail
   refine C.out.mono ?_
   rintro e w1 ⟨rfl,hx1⟩
   rw [Hc.out]
   go_wp2_with fail
   refine (S.out _).mono ?_
   rintro e w2 ⟨rfl,rfl⟩
   go_wp2_with fail
   go_ret2
   exact ⟨rfl,hx1⟩
 ·have Hc:=hid (chk_no hf)
  have hr:valueR f t=(0,1):=by unfold valueR;rw [if_neg hf]
  rw [hr]
  clear hr hf hv
  go_enter Tryz.func31,Tryz.ntmps31
  go_wp2_with fail
  refine C.out.mono ?_
  rintro e w1 ⟨rfl,hx1⟩
  rw [Hc.out]
  go_wp2_with fail
  go_ret2
  exact ⟨rfl,hx1⟩
@[irreducible] noncomputable def toldT (x:Nat→Int):List Run × Int:=open Classical in if ∀ t,t < 48→NumOk (x t) then (fold x,0) else ([],2)
theorem toldT_yes {x:Nat→Int} (h:∀ t,t < 48→NumOk (x t)):toldT x=(fold x,0):=by unfold toldT;rw [if_pos h]
def RetRuns2 (w:World) (r:List Run × Int) (e:Ending) (w':World):Prop:=∃ v,e=.returned (.tuple #[v,.int .i64 r.2])∧RunsV w' v r.1∧Ext w w'
theorem retRuns2_of {w w':World} {r:List Run × Int} {l:List Run} {n:Int} {v:Value} (h:r=(l,n)) (hv:RunsV w' v l) (hx:Ext w w'):RetRuns2 w r (.returned (.tuple #[v,.int .i64 n])) w':=by
 subst h;exact ⟨v,rfl,hv,hx⟩
def mixT (z x:Nat→Int) (t:Nat):Nat→Int:=fun s=>if s < t then z s else x s
theorem mixT_zero (z x:Nat→Int):mixT z x 0=x:=by funext s;simp [mixT]
theorem mixT_at (z x:Nat→Int) (t:Nat):mixT z x t t=x t:=by simp [mixT]
theorem mixT_step (z x:Nat→Int) (t:Nat):upd (mixT z x t) t (z t)=mixT z x (t+1):=by
 funext s
 unfold upd mixT
 by_cases h:s=t
 ·subst h;simp
 ·rw [if_neg h]
  by_cases h2:s < t
  ·rw [if_pos h2,if_pos (by omega)]
  ·rw [if_neg h2,if_neg (by omega)]
theorem mixT_all (z x:Nat→Int):∀ t,t < 48→mixT z x 48 t=z t:=fun t h=>by simp [mixT,h]
@[irreducible] noncomputable def bothR (f g:List Run) (of:Int→Int→Int):List Run × Int:=if Fine f∧Fine g then toldT (fun t=>of (sp f t) (sp g t)) else ([],1)
@[irreducible] def manyR (z:Nat→Int):Bool:=(fold z).any (fun x=>decide (¬ NumOk x.N))
theorem manyR_eq (z:Nat→Int):(fold z).any (fun x=>decide (¬ NumOk x.N))=manyR z:=by unfold manyR;rfl
theorem manyR_no {z:Nat→Int} (h:manyR z=false):toldT z=(fold z,0):=by
 rw [← manyR_eq,List.any_eq_false] at h
 exact toldT_yes (fold_fine (fun r hr=>by have:=h r hr;simpa using this))
theorem manyR_yes {z:Nat→Int} (h:manyR z=true):toldT z=([],2):=by
 rw [← manyR_eq,List.any_eq_true] at h
 obtain ⟨r,hr,hn⟩:=h
 unfold toldT
 rw [if_neg (fun hall=>(by simpa using hn:¬ NumOk r.N) ((fine_fold hall).2 r hr))]
theorem bothR_yes {f g:List Run} {of:Int→Int→Int} (h1:Fine f) (h2:Fine g):bothR f g of=toldT (fun t=>of (sp f t) (sp g t)):=by unfold bothR;rw [if_pos ⟨h1,h2⟩]
theorem bothR_no {f g:List Run} {of:Int→Int→Int} (h:¬ (Fine f∧Fine g)):bothR f g of=([],1):=by unfold bothR;rw [if_neg h]
theorem told_any (w:World) (vf vg:Value) (f g:List Run) (G:Nat) (of:Int→Int→Int) (hf:RunsV w vf f) (hg:RunsV w vg g)
  (heg:∀ (args:Array Value) (w:World),(callFunc G args).run Tryz.prog w=.ok (.enter G args) w)
  (hof:∀ a b,NumOk a→NumOk b→I64 (of a b)∧∀ w,Calls Tryz.prog G #[.int .i64 a,.int .i64 b] w fun e w'=>e=.returned (.int .i64 (of a b))∧w'=w) :
  Calls Tryz.prog 69 #[vf,vg,.func (.func G) #[] #[]] w (RetRuns2 w (bothR f g of)):=by
 have Cf:=hid (fun (W:World) (h:Ext w W)=>Check_any W vf f (hf.mono h))
 have Cg:=hid (fun (W:World) (h:Ext w W)=>Check_any W vg g (hg.mono h))
 have Z:=hid (fun (h1:Fine f) (h2:Fine g) (W:World) (h:Ext w W)=>Zip_any W vf vg f g (hf.mono h) (hg.mono h) h1.1 h2.1 G of heg (fun x hx y hy=>hof x.N y.N (h1.2 x hx) (h2.2 y hy)))
 have P:=hid (fun (W:World) (v:Value) (hv:RunsV W v (fold (fun t=>of (sp f t) (sp g t))))=>ContainsFunc_Run W v _ 131 #[] (fun x=>decide (¬ NumOk x.N)) hv (enters_of Tryz.func131 (by kernel_rfl) rfl) (fun k x _ W' _=>told1 x W'))
 obtain ⟨fa,fc,hfv,_⟩:=hf.form
 obtain ⟨ga,gc,hgv,_⟩:=hg.form
 clear hf hg
 generalize f.length=fn at hfv
 generalize g.length=gn at hgv
 subst hfv hgv
 go_enter Tryz.func69,Tryz.ntmps69
 go_wp2_with fail
 have hx0:=hid ((Ext.rf w).al (.cells #[.slice fa fn fc,.slice ga gn gc] 26))
 have hc0:(w.alloc (.cells #[.slice fa fn fc,.slice ga gn gc] 26)).cell? ⟨w.heap.size,0,none⟩=some (.slice fa fn fc):=by rw [cell_of_row _ _ _ _ _ _ (heap_alloc_new w _)];rfl
 have hc1:(w.alloc (.cells #[.slice fa fn fc,.slice ga gn gc] 26)).cell? ⟨w.heap.size,1,none⟩=some (.slice ga gn gc):=by rw [cell_of_row _ _ _ _ _ _ (heap_alloc_new w _)];rfl
 go_loopw [16] (fun c wr=>∃ i:Nat,c=.int .i64 i∧i≤2∧Hid (1≤i→Fine f)∧Hid (2≤i→Fine g)∧Ext (w.alloc (.cells #[.slice fa fn fc,.slice ga gn gc] 26)) wr) (fun c _=>2 - (intOf c).toNat)
 case atStart=>exact ⟨0,rfl,by omega,fun h=>absurd h (by omega),fun h=>absurd h (by omega),Ext.rf _⟩
 case round =>
  obtain ⟨i,rfl,hi,F1,F2,hx⟩:=hrel
  obtain rfl | rfl | rfl:i=0∨i=1∨i=2:=by omega
  ·replace hc0:=hx.ce' hc0
   by_cases h1:Fine f
   ·have Hc:=hid (chk_yes h1)
    have H1:=hid h1
    clear h1
    go_wp2_with fail
    refine (Cf.out _ (hx0.out.tr hx)).mono ?_
    rintro e w1 ⟨rfl,hx1⟩
    rw [Hc.out]
    go_wp2_with fail
    go_roundw
    case rel=>exact ⟨1,rfl,by omega,fun _=>H1.out,fun h=>absurd h (by omega),hx.tr hx1⟩
    case measure=>simp [intOf]
   ·have Hc:=hid (chk_no h1)
    have Hr:=hid (bothR_no (f:=f) (g:=g) (of:=of) (fun h=>h1 h.1))
    clear h1
    go_wp2_with fail
    refine (Cf.out _ (hx0.out.tr hx)).mono ?_
    rintro e w1 ⟨rfl,hx1⟩
    rw [Hc.out]
    go_wp2_with fail
    go_ret2
    exact retRuns2_of Hr.out (SV.nil) ((hx0.out.tr hx).tr hx1)
  ·replace hc1:=hx.ce' hc1
   by_cases h1:Fine g
   ·have Hc:=hid (chk_yes h1)
    have H1:=hid h1
    clear h1
    go_wp2_with fail
    refine (Cg.out _ (hx0.out.tr hx)).mono ?_
    rintro e w1 ⟨rfl,hx1⟩
    rw [Hc.out]
    go_wp2_with fail
    go_roundw
    case rel=>exact ⟨2,rfl,by omega,fun _=>F1.out (by omega),fun _=>H1.out,hx.tr hx1⟩
    case measure=>simp [intOf]
   ·have Hc:=hid (chk_no h1)
    have Hr:=hid (bothR_no (f:=f) (g:=g) (of:=of) (fun h=>h1 h.2))
    clear h1
    go_wp2_with fail
    refine (Cg.out _ (hx0.out.tr hx)).mono ?_
    rintro e w1 ⟨rfl,hx1⟩
    rw [Hc.out]
    go_wp2_with fail
    go_ret2
    exact retRuns2_of Hr.out (SV.nil) ((hx0.out.tr hx).tr hx1)
  ·have Hr:=hid (bothR_yes (of:=of) (F1.out (by omega)) (F2.out (by omega)))
   have Z':=hid (Z.out (F1.out (by omega)) (F2.out (by omega)))
   simp only [manyR_eq] at P
   generalize hz:(fun t=>of (sp f t) (sp g t))=z at *
   clear hz F1 F2
   go_wp2_with fail
   refine (Z'.out _ (hx0.out.tr hx)).mono ?_
   rintro e w1 ⟨v,rfl,hv,hx1⟩
   have Hv:=hid hv
   clear hv
   go_wp2_with fail
   refine (P.out _ _ Hv.out).mono ?_
   rintro e w2 ⟨rfl,hx2⟩
   by_cases hm:manyR z=true
   ·have Hm:=hid (Hr.out.trans (manyR_yes hm))
    rw [hm]
    clear hm
    go_wp2_with fail
    go_ret2
    exact retRuns2_of Hm.out (SV.nil) (((hx0.out.tr hx).tr hx1).tr hx2)
   ·have hm':manyR z=false:=by simpa using hm
    have Hm:=hid (Hr.out.trans (manyR_no hm'))
    rw [hm']
    clear hm hm'
    go_wp2_with fail
    go_ret2
    exact retRuns2_of Hm.out (Hv.out.mono hx2) (((hx0.out.tr hx).tr hx1).tr hx2)
theorem Lesser_any (w:World) (vf vg:Value) (f g:List Run) (hf:RunsV w vf f) (hg:RunsV w vg g) :
  Calls Tryz.prog 27 #[vf,vg] w (RetRuns2 w (bothR f g (fun a b=>min a b))):=by
 have B:=hid (told_any w vf vg f g 70 (fun a b=>min a b) hf hg (enters_of Tryz.func70 (by kernel_rfl) rfl)
  (fun a b ha hb=>⟨I64.of (by have:=ha.1;have:=hb.1;have:=ha.2;have:=hb.2;omega) (by have:=ha.1;have:=hb.1;have:=ha.2;have:=hb.2;omega),fun w=>lesser1 a b w⟩))
 clear hf hg
 generalize bothR f g (fun a b=>min a b)=r at *
 go_enter Tryz.func27,Tryz.ntmps27
 go_wp2_with fail
 refine B.out.mono ?_
 rintro e w1 ⟨v,rfl,hv,hx1⟩
 go_wp2_with fail
 go_ret2
 exact ⟨v,rfl,hv,hx1⟩
def putB (l:List Run) (t n:Int):List Run:=if t < 48 then putRun l ⟨t,n⟩ else l
theorem ownsRow_setCell {w:World} {base e sz n c o:Nat} {v u:Value} {xs:List Value} (h:w.ownsRow base e sz v n xs) (hc:c < base):(w.setCell ⟨c,o,none⟩ u).ownsRow base e sz v n xs:=by
 obtain ⟨h1,h2⟩:=h
 refine ⟨h1,?_⟩
 rcases h2 with h2 | ⟨g,cap,cur,hv,hb,hg,r⟩
 ·exact .inl h2
 ·exact .inr ⟨g,cap,cur,hv,hb,by rw [heap_setCell_other w ⟨c,o,none⟩ g u (by show g≠c;omega)];exact hg,r⟩
def BoxAt (c:Nat) (w:World) (l:List Run):Prop:=∃ v,w.heap[c]?=some (.cells #[v] 26 (0,0))∧w.ownsRow (c+1) 70 2 v l.length (cells2 Run.At Run.N l)∧(l=[]→v=.slice none 0 0)
theorem BoxAt.ext {c:Nat} {w w':World} {l:List Run} (h:BoxAt c w l) (hx:Ext w w'):BoxAt c w' l:=by
 obtain ⟨v,h1,h2,h3⟩:=h
 exact ⟨v,by rw [hx.block c (Array.getElem?_eq_some_iff.1 h1).1];exact h1,ownsRow_ext h2 hx,h3⟩
theorem boxAt_put {c:Nat} {W W2:World} {l2:List Run} {v u v2:Value} (hb:W.heap[c]?=some (.cells #[u] 26 (0,0))) (hv:∀ k,v.ownBlock=some k→c+1≤k)
  (hown:W2.ownsRow (c+1) 70 2 v2 l2.length (cells2 Run.At Run.N l2)) (hg:W.grownBy W2 v.ownBlock) (hne:l2≠[]):BoxAt c (W2.setCell ⟨c,0,none⟩ v2) l2:=by
 have h2:W2.heap[c]?=some (.cells #[u] 26 (0,0)):=by
  rw [hg.block c (Array.getElem?_eq_some_iff.1 hb).1 (fun e=>by have:=hv c e.symm;omega)];exact hb
 refine ⟨v2,?_,ownsRow_setCell hown (by omega),fun e=>absurd e hne⟩
 rw [heap_setCell_same W2 c 0 _ _ _ h2];rfl
theorem ownsRow_slice {w:World} {base e sz n:Nat} {v:Value} {xs:List Value} (h:w.ownsRow base e sz v n xs):∃ a cap,v=.slice a n cap:=by
 obtain ⟨_,h2⟩:=h
 rcases h2 with ⟨rfl,rfl⟩ | ⟨g,cap,cur,rfl,_⟩
 ·exact ⟨none,0,rfl⟩
 ·exact ⟨_,_,rfl⟩
theorem box_after {c:Nat} {W W2:World} {v u:Value} (hb:W.heap[c]?=some (.cells #[u] 26 (0,0))) (hv:∀ k,v.ownBlock=some k→c+1≤k) (hg:W.grownBy W2 v.ownBlock) :
  W2.heap[c]?=some (.cells #[u] 26 (0,0)):=by
 rw [hg.block c (Array.getElem?_eq_some_iff.1 hb).1 (fun e=>by have:=hv c e.symm;omega)];exact hb
theorem box_alloc {c:Nat} {W:World} {u:Value} (o:Obj) (hb:W.heap[c]?=some (.cells #[u] 26 (0,0))):(W.alloc o).heap[c]?=some (.cells #[u] 26 (0,0)):=by
 rw [((Ext.rf W).al o).block c (Array.getElem?_eq_some_iff.1 hb).1];exact hb
theorem put_any (w0 w:World) (c:Nat) (l:List Run) (t n:Int) (hc:w0.heap.size≤c) (hx:Ext w0 w) (hb:BoxAt c w l) (hl:l.length≤48) :
  Calls Tryz.prog 210 #[.int .i64 t,.int .i64 n,.pointer (some ⟨c,0,none⟩)] w fun e w'=>e=.returned (.tuple #[])∧Ext w0 w'∧BoxAt c w' (putB l t n):=by
 obtain ⟨ir,ir1,ir2,ir3,ir4⟩:=info_parts Tryz.info70
 have HB:=hid hb
 obtain ⟨v,hv,hown,hnil⟩:=hb
 have hcell:w.cell? ⟨c,0,none⟩=some v:=by rw [cell_of_row _ _ _ _ _ _ hv];rfl
 have hcw:=(Array.getElem?_eq_some_iff.1 hv).1
 have Hown:=hid hown
 have Hv:=hid hv
 clear hv
 by_cases ht:t < 48
 ·have hp:putB l t n=putRun l ⟨t,n⟩:=by unfold putB;rw [if_pos ht]
  rw [hp]
  clear hp
  rcases owns2_form hown hnil with ⟨rfl,rfl⟩ | ⟨ob,cp,r,rfl,hob,hobw,hlast,hpos,hlc⟩
  ·clear hown hnil
   go_enter Tryz.func210,Tryz.ntmps210
   go_wp2_with (at_builtin;refine wpList_append_own _ rfl _ _ 26 rfl (c+1) 70 ir _ 2 16 Tryz.underlying26 ir1 ir2 ir3 ir4 rfl (by decide) _ _ _ rfl (Hown.out.alloc _) ⟨w.heap.size,0,none⟩ 1 1 [.int .i64 t,.int .i64 n] rfl rfl (new2 _ (by simp) _ _ _) (one2 _ _ _ _) (by simp [maxLen]) (by simp) (by simp;omega) ?_)
   intro v2 W2 hown2 hgrow2 _
   have h2:=box_after (box_alloc _ Hv.out) (own_lt Hown.out) hgrow2
   have hc2:W2.cell? ⟨c,0,none⟩=_:=cell_of_row _ _ _ _ _ _ h2
   have hf2:=frozen_of_row W2 c 0 _ _ h2
   have Hbox:=hid (boxAt_put (l2:=[⟨t,n⟩]) (box_alloc _ Hv.out) (own_lt Hown.out) (by simpa [cells2] using hown2) hgrow2 (by simp))
   have Hx:=hid (((hx.al _).gr hgrow2 (fun k hk=>by have:=own_lt Hown.out k hk;omega)).se (o:=0) hc v2)
   obtain ⟨a2,c2,rfl⟩:=ownsRow_slice hown2
   clear hown2 hgrow2 h2
   go_wp2_with fail
   go_end0
   exact ⟨rfl,Hx.out,Hbox.out⟩
  ·have hpos':((l.length:Int) == 0)=false:=eqF (by omega)
   have hpos1:(0:Int) < (l.length:Int):=by omega
   have Hlast:=hid hlast
   clear hlast hnil hown
   by_cases hrz:r.N=n
   ·have hrz':(r.N != n)=false:=neF hrz
    have Hr:=hid (putRun_same (x:=⟨t,n⟩) Hlast.out hrz)
    rw [Hr.out]
    clear hrz Hr
    go_enter Tryz.func210,Tryz.ntmps210
    go_wp2_with fail
    go_end0
    exact ⟨rfl,hx,HB.out⟩
   ·have hrz':(r.N != n)=true:=neT hrz
    have Hr:=hid (putRun_new (x:=⟨t,n⟩) Hlast.out hrz)
    rw [Hr.out]
    clear hrz Hr
    go_enter Tryz.func210,Tryz.ntmps210
    go_wp2_with (at_builtin;refine wpList_append_own _ rfl _ _ 26 rfl (c+1) 70 ir _ 2 16 Tryz.underlying26 ir1 ir2 ir3 ir4 rfl (by decide) _ _ _ rfl (Hown.out.alloc _) ⟨w.heap.size,0,none⟩ 1 1 [.int .i64 t,.int .i64 n] rfl rfl (new2 _ (by simp) _ _ _) (one2 _ _ _ _) (by unfold maxLen;omega) (by omega) (by simp;omega) ?_)
    intro v2 W2 hown2 hgrow2 _
    have h2:=box_after (box_alloc _ Hv.out) (own_lt Hown.out) hgrow2
    have hc2:W2.cell? ⟨c,0,none⟩=_:=cell_of_row _ _ _ _ _ _ h2
    have hf2:=frozen_of_row W2 c 0 _ _ h2
    have Hbox:=hid (boxAt_put (l2:=l++[⟨t,n⟩]) (box_alloc _ Hv.out) (own_lt Hown.out) (by rw [cells2_snoc,List.length_append];exact hown2) hgrow2 (by simp))
    have Hx:=hid (((hx.al _).gr hgrow2 (fun k hk=>by have:=own_lt Hown.out k hk;omega)).se (o:=0) hc v2)
    obtain ⟨a2,c2,rfl⟩:=ownsRow_slice hown2
    clear hown2 hgrow2 h2
    go_wp2_with fail
    go_end0
    exact ⟨rfl,Hx.out,Hbox.out⟩
 ·have hp:putB l t n=l:=by unfold putB;rw [if_neg ht]
  rw [hp]
  obtain ⟨a2,c2,rfl⟩:=ownsRow_slice hown
  clear hp hown hnil
  go_enter Tryz.func210,Tryz.ntmps210
  go_wp2_with fail
  go_end0
  exact ⟨rfl,hx,HB.out⟩
theorem putB_len (l:List Run) (t n:Int):(putB l t n).length≤l.length+1:=by
 unfold putB
 split
 ·cases h:l.getLast? with
  | none=>rw [List.getLast?_eq_none_iff] at h;subst h;simp [putRun_nil]
  | some r =>
   by_cases he:r.N=n
   ·rw [putRun_same h he];omega
   ·rw [putRun_new h he];simp
 ·omega
theorem hillL_put {a b n:Int} (h1:0≤a) (h2:a < 48):hillL a b n=putB (putB (if 0 < a then putB [] 0 0 else []) a n) b 0:=by
 unfold hillL putB
 simp only [if_pos h2]
 rfl
theorem hill_nums {a b n:Int} (h1:0≤a) (h2:a < b) (h3:b≤48) (hn:I64 n):∀ r∈hillL a b n,I64 r.At∧I64 r.N:=by
 obtain ⟨i,rfl⟩:∃ k:Nat,a=k:=⟨a.toNat,by omega⟩
 obtain ⟨j,rfl⟩:∃ k:Nat,b=k:=⟨b.toNat,by omega⟩
 rw [hillL_eq (by omega) (by omega)]
 exact fold_nums (fun t ht=>by
  unfold hillT
  split
  ·exact hn
  ·exact I64.of (by omega) (by omega))
theorem Hill_any (w:World) (a b n:Int) (h1:0≤a) (h2:a < b) (h3:b≤48) (hn:I64 n) :
  Calls Tryz.prog 183 #[.int .i64 a,.int .i64 b,.int .i64 n] w (RetRuns w (hillL a b n)):=by
 have hb0:BoxAt w.heap.size (w.alloc (.cells #[.slice none 0 0] 26)) []:=⟨_,heap_alloc_new w _,World.ownsRow_nil _ _ _ _,fun _=>rfl⟩
 have Hb0:=hid hb0
 have hr:=hid (hillL_put (b:=b) (n:=n) h1 (by omega))
 have hN:=hid (hill_nums h1 h2 h3 hn)
 clear hb0
 by_cases h0:0 < a
 ·rw [if_pos h0] at hr
  go_enter Tryz.func183,Tryz.ntmps183
  go_wp2_with fail
  refine (put_any w _ w.heap.size [] 0 0 (Nat.le_refl _) ((Ext.rf w).al _) Hb0.out (by simp)).mono ?_
  rintro e w1 ⟨rfl,hx1,hb1⟩
  have l1:=putB_len [] 0 0
  generalize hl1:putB [] 0 0=o1 at *
  clear hl1
  have Hb1:=hid hb1
  clear hb1
  go_wp2_with fail
  refine (put_any w _ w.heap.size o1 a n (Nat.le_refl _) hx1 Hb1.out (by simp at l1;omega)).mono ?_
  rintro e w2 ⟨rfl,hx2,hb2⟩
  have l2:=putB_len o1 a n
  generalize hl2:putB o1 a n=o2 at *
  clear hl2
  have Hb2:=hid hb2
  clear hb2
  go_wp2_with fail
  refine (put_any w _ w.heap.size o2 b 0 (Nat.le_refl _) hx2 Hb2.out (by simp at l1;omega)).mono ?_
  rintro e w3 ⟨rfl,hx3,hb3⟩
  have l3:=putB_len o2 b 0
  rw [← hr.out] at hb3 l3
  have Hb3:=hid hb3
  obtain ⟨v,hv,hown,_⟩:=hb3
  have hcell:w3.cell? ⟨w.heap.size,0,none⟩=some v:=by rw [cell_of_row _ _ _ _ _ _ hv];rfl
  obtain ⟨a2,c2,rfl⟩:=ownsRow_slice hown
  have Hr:=hid (sv_of_owns2 hown hN.out (by simp at l1;omega))
  clear hown hv
  go_wp2_with fail
  go_ret
  exact ⟨_,rfl,Hr.out,hx3⟩
 ·rw [if_neg h0] at hr
  go_enter Tryz.func183,Tryz.ntmps183
  go_wp2_with fail
  refine (put_any w _ w.heap.size [] a n (Nat.le_refl _) ((Ext.rf w).al _) Hb0.out (by simp)).mono ?_
  rintro e w2 ⟨rfl,hx2,hb2⟩
  have l2:=putB_len [] a n
  generalize hl2:putB [] a n=o2 at *
  clear hl2
  have Hb2:=hid hb2
  clear hb2
  go_wp2_with fail
  refine (put_any w _ w.heap.size o2 b 0 (Nat.le_refl _) hx2 Hb2.out (by simp at l2;omega)).mono ?_
  rintro e w3 ⟨rfl,hx3,hb3⟩
  have l3:=putB_len o2 b 0
  rw [← hr.out] at hb3 l3
  have Hb3:=hid hb3
  obtain ⟨v,hv,hown,_⟩:=hb3
  have hcell:w3.cell? ⟨w.heap.size,0,none⟩=some v:=by rw [cell_of_row _ _ _ _ _ _ hv];rfl
  obtain ⟨a2,c2,rfl⟩:=ownsRow_slice hown
  have Hr:=hid (sv_of_owns2 hown hN.out (by simp at l2;omega))
  clear hown hv
  go_wp2_with fail
  go_ret
  exact ⟨_,rfl,Hr.out,hx3⟩
@[irreducible] noncomputable def bumpR (f:List Run) (a b n:Int):List Run × Int :=
 if Fine f then (if (0≤a∧a < b∧b≤48)∧NumOk n then toldT (fun t=>sp f t+hillT a.toNat b.toNat n t) else ([],3)) else ([],1)
theorem run_index_tab (x:Nat→Int) (k:Nat) (hk:k < 48) (w:World):(Instr.index 104 (.agg (tab x)) (.int .i64 k)).run Tryz.prog w=.ok (.int .i64 (x k)) w:=by
 have hn:(0≤(k:Int)∧(k:Int) < (48:Nat)):=by omega
 have hg:=tab_get (x:=x) hk
 simp [Instr.index,run_underlying Tryz.underlying104,asIntOf,hn,go_sem,hg]
 omega
theorem hillT_in {a b t:Nat} {n:Int} (h1:a≤t) (h2:t < b):hillT a b n t=n:=by unfold hillT;rw [if_pos ⟨h1,h2⟩]
theorem hillT_out {a b t:Nat} {n:Int} (h:¬ (a≤t∧t < b)):hillT a b n t=0:=by unfold hillT;rw [if_neg h]
theorem mixB_start (x:Nat→Int) (a b:Nat) (n:Int):mixT (fun t=>x t+hillT a b n t) x a=x:=by
 funext s;unfold mixT
 by_cases h:s < a
 ·rw [if_pos h];show x s+hillT a b n s=x s;rw [hillT_out (by omega)];omega
 ·rw [if_neg h]
theorem mixB_end (x:Nat→Int) (a b:Nat) (n:Int):mixT (fun t=>x t+hillT a b n t) x b=fun t=>x t+hillT a b n t:=by
 funext s;unfold mixT
 by_cases h:s < b
 ·rw [if_pos h]
 ·rw [if_neg h,hillT_out (by omega)];omega
theorem same_some (w:World) (fb fo fc gb go gc:Nat) (f g:List Run) (hl:f.length=g.length) (hf:∀ k x,f[k]?=some x→ERun w fb (fo+k*2) x) (hg:∀ k x,g[k]?=some x→ERun w gb (go+k*2) x) (hn:f.length≤17592186044416) :
  Calls Tryz.prog 28 #[.slice (some ⟨fb,fo,none⟩) f.length fc,.slice (some ⟨gb,go,none⟩) g.length gc] w fun e w'=>e=.returned (.bool (decide (f=g)))∧Ext w w':=by
 have HF:=hid hf
 have HG:=hid hg
 have Hl:=hid hl
 clear hf hg
 generalize hm:g.length=m at *
 generalize hk:f.length=n at *
 have Hn:=hid hk
 have Hm:=hid hm
 subst hl
 clear hk hm
 go_enter Tryz.func28,Tryz.ntmps28
 go_wp2_with fail
 go_loopw [5] (fun c wr=>∃ k:Nat,c=.int .i64 k∧k≤n∧Hid (∀ j,j < k→f[j]?=g[j]?)∧Ext w wr) (fun c _=>n - (intOf c).toNat)
 case atStart=>exact ⟨0,rfl,by omega,fun j hj=>absurd hj (Nat.not_lt_zero _),Ext.rf w⟩
 case round =>
  obtain ⟨k,rfl,hk,He,hx⟩:=hrel
  by_cases hlt:k < n
  ·have hlt':(k:Int) < (n:Int):=by omega
   obtain ⟨x,hxk⟩:=getE (f:=f) (k:=k) (by rw [Hn.out];exact hlt)
   obtain ⟨y,hyk⟩:=getE (f:=g) (k:=k) (by rw [Hm.out];exact hlt)
   obtain ⟨c1,c2,c3,c4⟩:=HF.out k x hxk
   obtain ⟨d1,d2,d3,d4⟩:=HG.out k y hyk
   replace c1:=hx.ce' c1
   replace c2:=hx.ce' c2
   replace d1:=hx.ce' d1
   replace d2:=hx.ce' d2
   by_cases ha:x.At=y.At
   ·by_cases hb:x.N=y.N
    ·have h1:=eqT ha
     have h2:=eqT hb
     have he:x=y:=by cases x;cases y;simp_all
     have Hxy:=hid (hxk.trans ((congrArg some he).trans hyk.symm))
     clear he hxk hyk ha hb
     go_wp2_with fail
     go_quiet (fail)
     go_wp2_with fail
     go_roundw
     case rel=>exact ⟨k+1,by go_num,by omega,hid (fun j hj=>if e:j=k then e▸Hxy.out else He.out j (by omega)),hx.dn _⟩
     case measure=>simp [intOf];omega
    ·have h1:=eqT ha
     have h2:=eqF hb
     have hfg:f≠g:=fun h=>hb (congrArg Run.N (Option.some.inj (hxk.symm.trans (h▸hyk))))
     have Hfg:=hid (deF hfg)
     clear hxk hyk ha hb hfg
     go_wp2_with fail
     go_quiet (fail)
     go_wp2_with fail
     go_ret
     exact ⟨(congrArg (fun b=>Ending.returned (.bool b)) Hfg.out).symm,hx.dn _⟩
   ·have h1:=eqF ha
    have hfg:f≠g:=fun h=>ha (congrArg Run.At (Option.some.inj (hxk.symm.trans (h▸hyk))))
    have Hfg:=hid (deF hfg)
    clear hxk hyk ha hfg
    go_wp2_with fail
    go_quiet (fail)
    go_wp2_with fail
    go_ret
    exact ⟨(congrArg (fun b=>Ending.returned (.bool b)) Hfg.out).symm,hx.dn _⟩
  ·have hlt':¬ (k:Int) < (n:Int):=by omega
   obtain rfl:k=n:=by omega
   have hfg:f=g:=by
    apply List.ext_getElem?
    intro j
    by_cases hj:j < k
    ·exact He.out j hj
    ·rw [List.getElem?_eq_none (by rw [Hn.out];omega),List.getElem?_eq_none (by rw [Hm.out];omega)]
   have Hr:=hid (deT hfg)
   go_wp2_with fail
   go_ret
   exact ⟨rfl,hx⟩
theorem SameRuns_any (w:World) (vf vg:Value) (f g:List Run) (hf:RunsV w vf f) (hg:RunsV w vg g) :
  Calls Tryz.prog 28 #[vf,vg] w fun e w'=>e=.returned (.bool (decide (f=g)))∧Ext w w':=by
 have nilc:∀ (a b:Option Addr) (c d:Nat),Calls Tryz.prog 28 #[.slice a 0 c,.slice b 0 d] w fun e w'=>e=.returned (.bool true)∧Ext w w':=by
  intro a b c d
  go_enter Tryz.func28,Tryz.ntmps28
  go_wp2_with fail
  go_loopw [5] (fun c wr=>c=.int .i64 0∧Ext w wr) (fun c _=>0)
  case atStart=>exact ⟨rfl,Ext.rf w⟩
  case round =>
   obtain ⟨rfl,hx⟩:=hrel
   go_wp2_with fail
   go_ret
   exact ⟨rfl,hx⟩
 have neqc:∀ (a b:Option Addr) (n m c d:Nat),n≠m→Calls Tryz.prog 28 #[.slice a n c,.slice b m d] w fun e w'=>e=.returned (.bool false)∧Ext w w':=by
  intro a b n m c d h
  have h':=neT (a:=(n:Int)) (b:=(m:Int)) (by omega)
  go_enter Tryz.func28,Tryz.ntmps28
  go_wp2_with fail
  go_ret
  exact ⟨rfl,Ext.rf w⟩
 by_cases hl:f.length=g.length
 ·by_cases h0:f.length=0
  ·have e1:f=[]:=List.eq_nil_of_length_eq_zero h0
   have e2:g=[]:=List.eq_nil_of_length_eq_zero (by omega)
   subst e1;subst e2
   obtain ⟨a,c,rfl,_⟩:=hf.form
   obtain ⟨b,d,rfl,_⟩:=hg.form
   rw [deT rfl]
   exact nilc a b c d
  ·rcases hf with ⟨rfl,a0,c0,rfl,hc0⟩ | ⟨fb,fo,fc,rfl,f1,f2,f3,f4,f5⟩
   ·exact absurd rfl h0
   ·rcases hg with ⟨rfl,a0,c0,rfl,hc0⟩ | ⟨gb,go,gc,rfl,g1,g2,g3,g4,g5⟩
    ·exact absurd hl h0
    ·exact same_some w fb fo fc gb go gc f g hl f5 g5 f3
 ·rw [deF (fun h=>hl (by rw [h]))]
  obtain ⟨a,c,rfl,_⟩:=hf.form
  obtain ⟨b,d,rfl,_⟩:=hg.form
  exact neqc a b _ _ c d hl
end Go.Proofs.YtncaoclhlfkdoaaGreat
