/- runs: walks, third part; each theorem names its own conditions. -/
import Derived.Test.YtdcndkojmflhnaaGreatPRunsX
import Derived.Test.YtdcndkojmflhnaaGreatPRunsY
import Derived.Shelf.Abstract
import Derived.Laws.PanicsMore
/- Walks of package runs: Hill, told, Plus, Minus, Lesser, Bump, Value, Least. -/
set_option linter.unusedVariables false
set_option maxRecDepth 100000
set_option maxHeartbeats 8000000
set_option linter.unusedSimpArgs false
set_option linter.unusedVariables false
namespace Go.Proofs.YtdcndkojmflhnaaGreat
open Go.RowKit
open List renaming getElem_toArray→zA,getElem_cons_zero→zB,getElem_cons_succ→zC,setIfInBounds_toArray→zD,set_cons_zero→zE,set_cons_succ→zF
theorem Check_any (w:World) (v:Value) (f:List Run) (hv:RunsV w v f):Calls Tryz.prog 42 #[v] w fun e w'=>e=.returned (.int .i64 (chk f))∧Ext w w':=by
 have nilc:∀ (a:Option Addr) (cap:Nat),Calls Tryz.prog 42 #[.slice a 0 cap] w fun e w'=>e=.returned (.int .i64 1)∧Ext w w':=by
  intro a cap
  go_enter Tryz.func42,Tryz.ntmps42
  go_wp2
  go_ret
  exact ⟨rfl,Ext.rf _⟩
 by_cases h0:f.length=0
 ·have hf:f=[]:=List.eq_nil_of_length_eq_zero h0
  subst hf
  have hc:chk []=1:=chk_no (fun h=>h.1)
  rw [hc]
  obtain ⟨a,cap,rfl,_⟩:=hv.form
  exact nilc a cap
 ·rcases hv with ⟨rfl,a0,c0,rfl,hc0⟩ | ⟨b,off,cap,rfl,h1,h2,h3,h4,h5⟩
  ·exact absurd rfl h0
  ·exact Check_some w b off cap f h1 h2 h3 h4 h5 (by omega)
theorem RunsV.some {w:World} {v:Value} {f:List Run} (h:RunsV w v f) (hf:Shape f) :
  ∃ b off cap,v=.slice (some ⟨b,off,none⟩) f.length cap∧f.length≤cap∧cap≤9223372036854775807∧f.length≤17592186044416∧b < w.heap.size∧∀ k x,f[k]?=some x→ERun w b (off+k*2) x:=by
 rcases h with ⟨rfl,a0,c0,rfl,hc0⟩ | h
 ·exact hf.elim
 ·exact h
theorem Zip_anyF (w:World) (vf vg:Value) (f g:List Run) (hf:RunsV w vf f) (hg:RunsV w vg g) (hsf:Shape f) (hsg:Shape g) (G:Nat) (of:Int→Int→Int)
  (heg:∀ (args:Array Value) (w:World),(callFunc G args).run Tryz.prog w=.ok (.enter G args) w)
  (hof:∀ x∈f,∀ y∈g,I64 (of x.N y.N)∧∀ w,Calls Tryz.prog G #[.int .i64 x.N,.int .i64 y.N] w fun e w'=>e=.returned (.int .i64 (of x.N y.N))∧w'=w) :
  Calls Tryz.prog 122 #[vf,vg,.func (.func G) #[] #[]] w (RetRunsF w (fold (fun t=>of (sp f t) (sp g t)))):=by
 obtain ⟨fb,fo,fc,rfl,f1,f2,_,f3,f4⟩:=hf.some hsf
 obtain ⟨gb,go,gc,rfl,g1,g2,_,g3,g4⟩:=hg.some hsg
 exact Zip_fresh w fb fo fc gb go gc f g G of hsf hsg f1 g1 f2 g2 f3 g3 f4 g4 heg hof
theorem At_any (w:World) (v:Value) (f:List Run) (hv:RunsV w v f) (hs:Shape f) (t:Int) (h2:0≤t) (h3:t < 48) :
  Calls Tryz.prog 177 #[v,.int .i64 t] w fun e w'=>e=.returned (.int .i64 (sp f t.toNat))∧Ext w w':=by
 obtain ⟨b,off,cap,rfl,h4,h5,_,h6,h7⟩:=hv.some hs
 exact At_some w b off cap f t hs h5 h4 h6 h7 h2 h3
theorem Low_any (w:World) (v:Value) (f:List Run) (hv:RunsV w v f) (hs:Shape f) (s t:Int) (h1:0≤s) (h2:s < t) (h3:t≤48) :
  Calls Tryz.prog 154 #[v,.int .i64 s,.int .i64 t] w fun e w'=>e=.returned (.int .i64 (lowT (sp f) s.toNat t.toNat))∧Ext w w':=by
 obtain ⟨b,off,cap,rfl,h4,h5,_,h6,h7⟩:=hv.some hs
 exact Low_some w b off cap f s t hs h5 h4 h6 h7 h1 h2 h3
@[irreducible] def leastR (f:List Run) (a b:Int):Int × Int:=if Fine f then (if 0≤a∧a < b∧b≤48 then (lowT (sp f) a.toNat b.toNat,0) else (0,3)) else (0,1)
@[irreducible] noncomputable def toldT (x:Nat→Int):List Run × Int:=open Classical in if ∀ t,t < 48→NumOk (x t) then (fold x,0) else ([],2)
theorem toldT_yes {x:Nat→Int} (h:∀ t,t < 48→NumOk (x t)):toldT x=(fold x,0):=by unfold toldT;rw [if_pos h]
def putB (l:List Run) (t n:Int):List Run:=if t < 48 then putRun l ⟨t,n⟩ else l
theorem ownsRow_setCell {w:World} {base e sz n c o:Nat} {v u:Value} {xs:List Value} (h:w.ownsRow base e sz v n xs) (hc:c < base):(w.setCell ⟨c,o,none⟩ u).ownsRow base e sz v n xs:=by
 obtain ⟨h1,h2⟩:=h
 refine ⟨h1,?_⟩
 rcases h2 with h2 | ⟨g,cap,cur,hv,hb,hg,r⟩
 ·exact .inl h2
 ·exact .inr ⟨g,cap,cur,hv,hb,by rw [heap_setCell_other w ⟨c,o,none⟩ g u (by show g≠c;omega)];exact hg,r⟩
def BoxAt (c:Nat) (w:World) (l:List Run):Prop:=∃ v,w.heap[c]?=some (.cells #[v] 29 (0,0))∧w.ownsRow (c+1) 48 2 v l.length (cells2 Run.At Run.N l)∧(l=[]→v=.slice none 0 0)
theorem BoxAt.ext {c:Nat} {w w':World} {l:List Run} (h:BoxAt c w l) (hx:Ext w w'):BoxAt c w' l:=by
 obtain ⟨v,h1,h2,h3⟩:=h
 exact ⟨v,by rw [hx.block c (Array.getElem?_eq_some_iff.1 h1).1];exact h1,ownsRow_ext h2 hx,h3⟩
theorem boxAt_put {c:Nat} {W W2:World} {l2:List Run} {v u v2:Value} (hb:W.heap[c]?=some (.cells #[u] 29 (0,0))) (hv:∀ k,v.ownBlock=some k→c+1≤k)
  (hown:W2.ownsRow (c+1) 48 2 v2 l2.length (cells2 Run.At Run.N l2)) (hg:W.grownBy W2 v.ownBlock) (hne:l2≠[]):BoxAt c (W2.setCell ⟨c,0,none⟩ v2) l2:=by
 have h2:W2.heap[c]?=some (.cells #[u] 29 (0,0)):=by
  rw [hg.block c (Array.getElem?_eq_some_iff.1 hb).1 (fun e=>by have:=hv c e.symm;omega)];exact hb
 refine ⟨v2,?_,ownsRow_setCell hown (by omega),fun e=>absurd e hne⟩
 rw [heap_setCell_same W2 c 0 _ _ _ h2];rfl
theorem ownsRow_slice {w:World} {base e sz n:Nat} {v:Value} {xs:List Value} (h:w.ownsRow base e sz v n xs):∃ a cap,v=.slice a n cap:=by
 obtain ⟨_,h2⟩:=h
 rcases h2 with ⟨rfl,rfl⟩ | ⟨g,cap,cur,rfl,_⟩
 ·exact ⟨none,0,rfl⟩
 ·exact ⟨_,_,rfl⟩
theorem box_after {c:Nat} {W W2:World} {v u:Value} (hb:W.heap[c]?=some (.cells #[u] 29 (0,0))) (hv:∀ k,v.ownBlock=some k→c+1≤k) (hg:W.grownBy W2 v.ownBlock) :
  W2.heap[c]?=some (.cells #[u] 29 (0,0)):=by
 rw [hg.block c (Array.getElem?_eq_some_iff.1 hb).1 (fun e=>by have:=hv c e.symm;omega)];exact hb
theorem box_alloc {c:Nat} {W:World} {u:Value} (o:Obj) (hb:W.heap[c]?=some (.cells #[u] 29 (0,0))):(W.alloc o).heap[c]?=some (.cells #[u] 29 (0,0)):=by
 rw [((Ext.rf W).al o).block c (Array.getElem?_eq_some_iff.1 hb).1];exact hb
theorem put_any (w0 w:World) (c:Nat) (l:List Run) (t n:Int) (hc:w0.heap.size≤c) (hx:Ext w0 w) (hb:BoxAt c w l) (hl:l.length≤48) :
  Calls Tryz.prog 181 #[.int .i64 t,.int .i64 n,.pointer (some ⟨c,0,none⟩)] w fun e w'=>e=.returned (.tuple #[])∧Ext w0 w'∧BoxAt c w' (putB l t n):=by
 obtain ⟨ir,ir1,ir2,ir3,ir4⟩:=info_parts Tryz.info48
 have HB:=hid hb
 obtain ⟨v,hv,hown,hnil⟩:=hb
 have hcell:w.cell? ⟨c,0,none⟩=some v:=by rw [cell_of_row _ _ _ _ _ _ hv];rfl
 have hcw:=(Array.getElem?_eq_some_iff.1 hv).1
 have Hown:=hid hown
 have Hv:=hid hv
 clear hv
 by_cases ht:t < 48
 ·have hp:putB l t n=putRun l ⟨t,n⟩:=by unfold putB;rw [if_pos ht]
  rw [hp]
  clear hp
  rcases owns2_form hown hnil with ⟨rfl,rfl⟩ | ⟨ob,cp,r,rfl,hob,hobw,hlast,hpos,hlc⟩
  ·clear hown hnil
   go_enter Tryz.func181,Tryz.ntmps181
   go_wp2_with (at_builtin;refine wpList_append_own _ rfl _ _ 29 rfl (c+1) 48 ir _ 2 16 Tryz.underlying29 ir1 ir2 ir3 ir4 rfl (by decide) _ _ _ rfl (Hown.out.alloc _) ⟨w.heap.size,0,none⟩ 1 1 [.int .i64 t,.int .i64 n] rfl rfl (new2 _ (by simp) _ _ _) (one2 _ _ _ _) (by simp [maxLen]) (by simp) (by simp;omega) ?_)
   intro v2 W2 hown2 hgrow2 _
   have h2:=box_after (box_alloc _ Hv.out) (own_lt Hown.out) hgrow2
   have hc2:W2.cell? ⟨c,0,none⟩=_:=cell_of_row _ _ _ _ _ _ h2
   have hf2:=frozen_of_row W2 c 0 _ _ h2
   have Hbox:=hid (boxAt_put (l2:=[⟨t,n⟩]) (box_alloc _ Hv.out) (own_lt Hown.out) (by simpa [cells2] using hown2) hgrow2 (by simp))
   have Hx:=hid (((hx.al _).gr hgrow2 (fun k hk=>by have:=own_lt Hown.out k hk;omega)).se (o:=0) hc v2)
   obtain ⟨a2,c2,rfl⟩:=ownsRow_slice hown2
   clear hown2 hgrow2 h2
   go_wp2_with fail
   go_end0
   exact ⟨rfl,Hx.out,Hbox.out⟩
  ·have hpos':((l.length:Int) == 0)=false:=eqF (by omega)
   have hpos1:(0:Int) < (l.length:Int):=by omega
   have Hlast:=hid hlast
   clear hlast hnil hown
   by_cases hrz:r.N=n
   ·have hrz':(r.N != n)=false:=neF hrz
    have Hr:=hid (putRun_same (x:=⟨t,n⟩) Hlast.out hrz)
    rw [Hr.out]
    clear hrz Hr
    go_enter Tryz.func181,Tryz.ntmps181
    go_wp2_with fail
    go_end0
    exact ⟨rfl,hx,HB.out⟩
   ·have hrz':(r.N != n)=true:=neT hrz
    have Hr:=hid (putRun_new (x:=⟨t,n⟩) Hlast.out hrz)
    rw [Hr.out]
    clear hrz Hr
    go_enter Tryz.func181,Tryz.ntmps181
    go_wp2_with (at_builtin;refine wpList_append_own _ rfl _ _ 29 rfl (c+1) 48 ir _ 2 16 Tryz.underlying29 ir1 ir2 ir3 ir4 rfl (by decide) _ _ _ rfl (Hown.out.alloc _) ⟨w.heap.size,0,none⟩ 1 1 [.int .i64 t,.int .i64 n] rfl rfl (new2 _ (by simp) _ _ _) (one2 _ _ _ _) (by unfold maxLen;omega) (by omega) (by simp;omega) ?_)
    intro v2 W2 hown2 hgrow2 _
    have h2:=box_after (box_alloc _ Hv.out) (own_lt Hown.out) hgrow2
    have hc2:W2.cell? ⟨c,0,none⟩=_:=cell_of_row _ _ _ _ _ _ h2
    have hf2:=frozen_of_row W2 c 0 _ _ h2
    have Hbox:=hid (boxAt_put (l2:=l++[⟨t,n⟩]) (box_alloc _ Hv.out) (own_lt Hown.out) (by rw [cells2_snoc,List.length_append];exact hown2) hgrow2 (by simp))
    have Hx:=hid (((hx.al _).gr hgrow2 (fun k hk=>by have:=own_lt Hown.out k hk;omega)).se (o:=0) hc v2)
    obtain ⟨a2,c2,rfl⟩:=ownsRow_slice hown2
    clear hown2 hgrow2 h2
    go_wp2_with fail
    go_end0
    exact ⟨rfl,Hx.out,Hbox.out⟩
 ·have hp:putB l t n=l:=by unfold putB;rw [if_neg ht]
  rw [hp]
  obtain ⟨a2,c2,rfl⟩:=ownsRow_slice hown
  clear hp hown hnil
  go_enter Tryz.func181,Tryz.ntmps181
  go_wp2_with fail
  go_end0
  exact ⟨rfl,hx,HB.out⟩
theorem putB_len (l:List Run) (t n:Int):(putB l t n).length≤l.length+1:=by
 unfold putB
 split
 ·cases h:l.getLast? with
  | none=>rw [List.getLast?_eq_none_iff] at h;subst h;simp [putRun_nil]
  | some r =>
   by_cases he:r.N=n
   ·rw [putRun_same h he];omega
   ·rw [putRun_new h he];simp
 ·omega
theorem hillL_put {a b n:Int} (h1:0≤a) (h2:a < 48):hillL a b n=putB (putB (if 0 < a then putB [] 0 0 else []) a n) b 0:=by
 unfold hillL putB
 simp only [if_pos h2]
 rfl
theorem hill_nums {a b n:Int} (h1:0≤a) (h2:a < b) (h3:b≤48) (hn:I64 n):∀ r∈hillL a b n,I64 r.At∧I64 r.N:=by
 obtain ⟨i,rfl⟩:∃ k:Nat,a=k:=⟨a.toNat,by omega⟩
 obtain ⟨j,rfl⟩:∃ k:Nat,b=k:=⟨b.toNat,by omega⟩
 rw [hillL_eq (by omega) (by omega)]
 exact fold_nums (fun t ht=>by
  unfold hillT
  split
  ·exact hn
  ·exact I64.of (by omega) (by omega))
theorem Hill_any (w:World) (a b n:Int) (h1:0≤a) (h2:a < b) (h3:b≤48) (hn:I64 n) :
  Calls Tryz.prog 150 #[.int .i64 a,.int .i64 b,.int .i64 n] w (RetRuns w (hillL a b n)):=by
 have hb0:BoxAt w.heap.size (w.alloc (.cells #[.slice none 0 0] 29)) []:=⟨_,heap_alloc_new w _,World.ownsRow_nil _ _ _ _,fun _=>rfl⟩
 have Hb0:=hid hb0
 have hr:=hid (hillL_put (b:=b) (n:=n) h1 (by omega))
 have hN:=hid (hill_nums h1 h2 h3 hn)
 clear hb0
 by_cases h0:0 < a
 ·rw [if_pos h0] at hr
  go_enter Tryz.func150,Tryz.ntmps150
  go_wp2_with fail
  refine (put_any w _ w.heap.size [] 0 0 (Nat.le_refl _) ((Ext.rf w).al _) Hb0.out (by simp)).mono ?_
  rintro e w1 ⟨rfl,hx1,hb1⟩
  have l1:=putB_len [] 0 0
  generalize hl1:putB [] 0 0=o1 at *
  clear hl1
  have Hb1:=hid hb1
  clear hb1
  go_wp2_with fail
  refine (put_any w _ w.heap.size o1 a n (Nat.le_refl _) hx1 Hb1.out (by simp at l1;omega)).mono ?_
  rintro e w2 ⟨rfl,hx2,hb2⟩
  have l2:=putB_len o1 a n
  generalize hl2:putB o1 a n=o2 at *
  clear hl2
  have Hb2:=hid hb2
  clear hb2
  go_wp2_with fail
  refine (put_any w _ w.heap.size o2 b 0 (Nat.le_refl _) hx2 Hb2.out (by simp at l1;omega)).mono ?_
  rintro e w3 ⟨rfl,hx3,hb3⟩
  have l3:=putB_len o2 b 0
  rw [← hr.out] at hb3 l3
  have Hb3:=hid hb3
  obtain ⟨v,hv,hown,_⟩:=hb3
  have hcell:w3.cell? ⟨w.heap.size,0,none⟩=some v:=by rw [cell_of_row _ _ _ _ _ _ hv];rfl
  obtain ⟨a2,c2,rfl⟩:=ownsRow_slice hown
  have Hr:=hid (sv_of_owns2 hown hN.out (by simp at l1;omega))
  clear hown hv
  go_wp2_with fail
  go_ret
  exact ⟨_,rfl,Hr.out,hx3⟩
 ·rw [if_neg h0] at hr
  go_enter Tryz.func150,Tryz.ntmps150
  go_wp2_with fail
  refine (put_any w _ w.heap.size [] a n (Nat.le_refl _) ((Ext.rf w).al _) Hb0.out (by simp)).mono ?_
  rintro e w2 ⟨rfl,hx2,hb2⟩
  have l2:=putB_len [] a n
  generalize hl2:putB [] a n=o2 at *
  clear hl2
  have Hb2:=hid hb2
  clear hb2
  go_wp2_with fail
  refine (put_any w _ w.heap.size o2 b 0 (Nat.le_refl _) hx2 Hb2.out (by simp at l2;omega)).mono ?_
  rintro e w3 ⟨rfl,hx3,hb3⟩
  have l3:=putB_len o2 b 0
  rw [← hr.out] at hb3 l3
  have Hb3:=hid hb3
  obtain ⟨v,hv,hown,_⟩:=hb3
  have hcell:w3.cell? ⟨w.heap.size,0,none⟩=some v:=by rw [cell_of_row _ _ _ _ _ _ hv];rfl
  obtain ⟨a2,c2,rfl⟩:=ownsRow_slice hown
  have Hr:=hid (sv_of_owns2 hown hN.out (by simp at l2;omega))
  clear hown hv
  go_wp2_with fail
  go_ret
  exact ⟨_,rfl,Hr.out,hx3⟩
@[irreducible] noncomputable def bumpR (f:List Run) (a b n:Int):List Run × Int :=
 if Fine f then (if (0≤a∧a < b∧b≤48)∧NumOk n then toldT (fun t=>sp f t+hillT a.toNat b.toNat n t) else ([],3)) else ([],1)
theorem hillT_in {a b t:Nat} {n:Int} (h1:a≤t) (h2:t < b):hillT a b n t=n:=by unfold hillT;rw [if_pos ⟨h1,h2⟩]
theorem hillT_out {a b t:Nat} {n:Int} (h:¬ (a≤t∧t < b)):hillT a b n t=0:=by unfold hillT;rw [if_neg h]
theorem same_some (w:World) (fb fo fc gb go gc:Nat) (f g:List Run) (hl:f.length=g.length) (hf:∀ k x,f[k]?=some x→ERun w fb (fo+k*2) x) (hg:∀ k x,g[k]?=some x→ERun w gb (go+k*2) x) (hn:f.length≤17592186044416) :
  Calls Tryz.prog 19 #[.slice (some ⟨fb,fo,none⟩) f.length fc,.slice (some ⟨gb,go,none⟩) g.length gc] w fun e w'=>e=.returned (.bool (decide (f=g)))∧Ext w w':=by
 have HF:=hid hf
 have HG:=hid hg
 have Hl:=hid hl
 clear hf hg
 generalize hm:g.length=m at *
 generalize hk:f.length=n at *
 have Hn:=hid hk
 have Hm:=hid hm
 subst hl
 clear hk hm
 go_enter Tryz.func19,Tryz.ntmps19
 go_wp2_with fail
 go_loopw [5] (fun c wr=>∃ k:Nat,c=.int .i64 k∧k≤n∧Hid (∀ j,j < k→f[j]?=g[j]?)∧Ext w wr) (fun c _=>n - (intOf c).toNat)
 case atStart=>exact ⟨0,rfl,by omega,fun j hj=>absurd hj (Nat.not_lt_zero _),Ext.rf w⟩
 case round =>
  obtain ⟨k,rfl,hk,He,hx⟩:=hrel
  by_cases hlt:k < n
  ·have hlt':(k:Int) < (n:Int):=by omega
   obtain ⟨x,hxk⟩:=getE (f:=f) (k:=k) (by rw [Hn.out];exact hlt)
   obtain ⟨y,hyk⟩:=getE (f:=g) (k:=k) (by rw [Hm.out];exact hlt)
   obtain ⟨c1,c2,c3,c4⟩:=HF.out k x hxk
   obtain ⟨d1,d2,d3,d4⟩:=HG.out k y hyk
   replace c1:=hx.ce' c1
   replace c2:=hx.ce' c2
   replace d1:=hx.ce' d1
   replace d2:=hx.ce' d2
   by_cases ha:x.At=y.At
   ·by_cases hb:x.N=y.N
    ·have h1:=eqT ha
     have h2:=eqT hb
     have he:x=y:=by cases x;cases y;simp_all
     have Hxy:=hid (hxk.trans ((congrArg some he).trans hyk.symm))
     clear he hxk hyk ha hb
     go_wp2_with fail
     go_quiet (fail)
     go_wp2_with fail
     go_roundw
     case rel=>exact ⟨k+1,by go_num,by omega,hid (fun j hj=>if e:j=k then e▸Hxy.out else He.out j (by omega)),hx.dn _⟩
     case measure=>simp [intOf];omega
    ·have h1:=eqT ha
     have h2:=eqF hb
     have hfg:f≠g:=fun h=>hb (congrArg Run.N (Option.some.inj (hxk.symm.trans (h▸hyk))))
     have Hfg:=hid (deF hfg)
     clear hxk hyk ha hb hfg
     go_wp2_with fail
     go_quiet (fail)
     go_wp2_with fail
     go_ret
     exact ⟨(congrArg (fun b=>Ending.returned (.bool b)) Hfg.out).symm,hx.dn _⟩
   ·have h1:=eqF ha
    have hfg:f≠g:=fun h=>ha (congrArg Run.At (Option.some.inj (hxk.symm.trans (h▸hyk))))
    have Hfg:=hid (deF hfg)
    clear hxk hyk ha hfg
    go_wp2_with fail
    go_quiet (fail)
    go_wp2_with fail
    go_ret
    exact ⟨(congrArg (fun b=>Ending.returned (.bool b)) Hfg.out).symm,hx.dn _⟩
  ·have hlt':¬ (k:Int) < (n:Int):=by omega
   obtain rfl:k=n:=by omega
   have hfg:f=g:=by
    apply List.ext_getElem?
    intro j
    by_cases hj:j < k
    ·exact He.out j hj
    ·rw [List.getElem?_eq_none (by rw [Hn.out];omega),List.getElem?_eq_none (by rw [Hm.out];omega)]
   have Hr:=hid (deT hfg)
   go_wp2_with fail
   go_ret
   exact ⟨rfl,hx⟩
theorem SameRuns_any (w:World) (vf vg:Value) (f g:List Run) (hf:RunsV w vf f) (hg:RunsV w vg g) :
  Calls Tryz.prog 19 #[vf,vg] w fun e w'=>e=.returned (.bool (decide (f=g)))∧Ext w w':=by
 have nilc:∀ (a b:Option Addr) (c d:Nat),Calls Tryz.prog 19 #[.slice a 0 c,.slice b 0 d] w fun e w'=>e=.returned (.bool true)∧Ext w w':=by
  intro a b c d
  go_enter Tryz.func19,Tryz.ntmps19
  go_wp2_with fail
  go_loopw [5] (fun c wr=>c=.int .i64 0∧Ext w wr) (fun c _=>0)
  case atStart=>exact ⟨rfl,Ext.rf w⟩
  case round =>
   obtain ⟨rfl,hx⟩:=hrel
   go_wp2_with fail
   go_ret
   exact ⟨rfl,hx⟩
 have neqc:∀ (a b:Option Addr) (n m c d:Nat),n≠m→Calls Tryz.prog 19 #[.slice a n c,.slice b m d] w fun e w'=>e=.returned (.bool false)∧Ext w w':=by
  intro a b n m c d h
  have h':=neT (a:=(n:Int)) (b:=(m:Int)) (by omega)
  go_enter Tryz.func19,Tryz.ntmps19
  go_wp2_with fail
  go_ret
  exact ⟨rfl,Ext.rf w⟩
 by_cases hl:f.length=g.length
 ·by_cases h0:f.length=0
  ·have e1:f=[]:=List.eq_nil_of_length_eq_zero h0
   have e2:g=[]:=List.eq_nil_of_length_eq_zero (by omega)
   subst e1;subst e2
   obtain ⟨a,c,rfl,_⟩:=hf.form
   obtain ⟨b,d,rfl,_⟩:=hg.form
   rw [deT rfl]
   exact nilc a b c d
  ·rcases hf with ⟨rfl,a0,c0,rfl,hc0⟩ | ⟨fb,fo,fc,rfl,f1,f2,f3,f4,f5⟩
   ·exact absurd rfl h0
   ·rcases hg with ⟨rfl,a0,c0,rfl,hc0⟩ | ⟨gb,go,gc,rfl,g1,g2,g3,g4,g5⟩
    ·exact absurd hl h0
    ·exact same_some w fb fo fc gb go gc f g hl f5 g5 f3
 ·rw [deF (fun h=>hl (by rw [h]))]
  obtain ⟨a,c,rfl,_⟩:=hf.form
  obtain ⟨b,d,rfl,_⟩:=hg.form
  exact neqc a b _ _ c d hl
end Go.Proofs.YtdcndkojmflhnaaGreat
