/- runs: walks, second part; each theorem names its own conditions. -/
import Derived.Test.YtdcndkojmflhnaaGreatPCore
import Derived.Test.YtdcndkojmflhnaaGreatPRunsX
import Derived.Laws.Rows
import Derived.Laws.MakeOwn
import Derived.Deep.DeepCutAuto
import Derived.Deep.DeepMust
/- Blocks of 48 cells; rows of cells. -/
/- A block that holds a number for each time: the references' tables. -/
set_option linter.unusedVariables false
set_option maxRecDepth 100000
set_option maxHeartbeats 8000000
set_option linter.unusedSimpArgs false
set_option linter.unusedVariables false
namespace Go.Proofs.YtdcndkojmflhnaaGreat
open Go.RowKit
open List renaming getElem_toArray→zA,getElem_cons_zero→zB,getElem_cons_succ→zC,setIfInBounds_toArray→zD,set_cons_zero→zE,set_cons_succ→zF
@[irreducible] def tab (x:Nat→Int):Array Value:=((List.range 48).map (fun t=>Value.int .i64 (x t))).toArray
theorem tab_size (x:Nat→Int):(tab x).size=48:=by unfold tab;simp
theorem tab_get {x:Nat→Int} {t:Nat} (h:t < 48):(tab x)[t]?=some (.int .i64 (x t)):=by
 unfold tab;simp [h]
theorem tab_congr {x y:Nat→Int} (h:∀ t,t < 48→x t=y t):tab x=tab y:=by
 unfold tab
 congr 1
 exact List.map_congr_left fun t ht=>by rw [h t (List.mem_range.1 ht)]
def upd (x:Nat→Int) (t:Nat) (n:Int):Nat→Int:=fun s=>if s=t then n else x s
theorem upd_same (x:Nat→Int) (t:Nat) (n:Int):upd x t n t=n:=by simp [upd]
theorem upd_other (x:Nat→Int) {t s:Nat} (n:Int) (h:s≠t):upd x t n s=x s:=by simp [upd,h]
theorem tab_set {x:Nat→Int} {t:Nat} (n:Int) (h:t < 48):(tab x).setIfInBounds t (.int .i64 n)=tab (upd x t n):=by
 apply Array.ext
 ·simp [tab_size]
 ·intro i h1 h2
  have hi:i < 48:=by simpa [tab_size] using h2
  have e1:(tab (upd x t n))[i]?=some (.int .i64 (upd x t n i)):=tab_get hi
  have e2:((tab x).setIfInBounds t (.int .i64 n))[i]?=some (.int .i64 (upd x t n i)):=by
   rw [Array.getElem?_setIfInBounds]
   by_cases e:t=i
   ·subst e;rw [if_pos rfl,if_pos (by rw [tab_size];exact h),upd_same]
   ·rw [if_neg e,tab_get hi,upd_other x n (fun h=>e h.symm)]
  rw [Array.getElem?_eq_getElem h1] at e2
  rw [Array.getElem?_eq_getElem h2] at e1
  rw [Option.some.inj e2,Option.some.inj e1]
def TabAt (T:TypeId) (w:World) (b:Nat) (x:Nat→Int):Prop:=w.heap[b]?=some (.cells (tab x) T (0,0))
section
variable {T:TypeId} {w w':World} {b:Nat} {x:Nat→Int}
theorem TabAt.lt (h:TabAt T w b x):b < w.heap.size:=(Array.getElem?_eq_some_iff.1 h).1
theorem TabAt.cell (h:TabAt T w b x) {t:Nat} (ht:t < 48):w.cell? ⟨b,t,none⟩=some (.int .i64 (x t)):=by
 rw [cell_of_row w b t _ T _ h];exact tab_get ht
theorem TabAt.free (h:TabAt T w b x) (t:Nat):w.frozen? ⟨b,t,none⟩=false:=frozen_of_row w b t _ T h
theorem TabAt.set (h:TabAt T w b x) {t:Nat} (ht:t < 48) (n:Int):TabAt T (w.setCell ⟨b,t,none⟩ (.int .i64 n)) b (upd x t n):=by
 unfold TabAt
 rw [heap_setCell_same w b t _ T _ h,tab_set n ht]
theorem TabAt.other (h:TabAt T w b x) {c o:Nat} (hc:b≠c) (v:Value):TabAt T (w.setCell ⟨c,o,none⟩ v) b x:=by
 unfold TabAt
 rw [heap_setCell_other w ⟨c,o,none⟩ b v hc];exact h
theorem TabAt.ext (h:TabAt T w b x) (hx:Ext w w'):TabAt T w' b x:=by
 unfold TabAt
 rw [hx.block b h.lt];exact h
theorem TabAt.congr {y:Nat→Int} (h:TabAt T w b x) (e:∀ t,t < 48→x t=y t):TabAt T w b y:=by
 unfold TabAt at *;rw [← tab_congr e];exact h
theorem TabAt.new (w:World) (x:Nat→Int):TabAt T (w.alloc (.cells (tab x) T)) w.heap.size x:=heap_alloc_new w _
theorem TabAt.grown (h:TabAt T w b x) {v:Value} (hg:w.grownBy w' v.ownBlock) (hv:∀ k,v.ownBlock=some k→b < k):TabAt T w' b x:=by
 unfold TabAt
 rw [hg.block b h.lt (fun e=>by have:=hv b e.symm;omega)];exact h
theorem TabAt.srow (h:TabAt T w b x) {c:Nat} (hc:b≠c) (cs:Array Value):TabAt T (w.setRow c cs) b x:=by
 unfold TabAt
 rw [setRow_other w c b cs hc];exact h
theorem TabAt.row (h:TabAt T w b x) (y:Nat→Int):TabAt T (w.setRow b (tab y)) b y:=setRow_heap w b _ _ T _ h
end
theorem Ext.sr {a w:World} (h:Ext a w) {b:Nat} (hb:a.heap.size≤b) (cs:Array Value):Ext a (w.setRow b cs) :=
 h.trans ⟨rfl,rfl,rfl,by simp [World.setRow],fun k hk=>setRow_other w b k cs (by omega)⟩
def RowAt (T:TypeId) (w:World) (b:Nat) (vs:List Value):Prop:=w.heap[b]?=some (.cells vs.toArray T (0,0))
section
variable {T:TypeId} {w w':World} {b:Nat} {vs:List Value}
theorem RowAt.lt (h:RowAt T w b vs):b < w.heap.size:=(Array.getElem?_eq_some_iff.1 h).1
theorem RowAt.cell (h:RowAt T w b vs) {k:Nat} {v:Value} (hk:vs[k]?=some v):w.cell? ⟨b,k,none⟩=some v:=by
 rw [cell_of_row w b k _ T _ h];simpa using hk
theorem RowAt.free (h:RowAt T w b vs) (k:Nat):w.frozen? ⟨b,k,none⟩=false:=frozen_of_row w b k _ T h
theorem RowAt.set (h:RowAt T w b vs) (k:Nat) (v:Value):RowAt T (w.setCell ⟨b,k,none⟩ v) b (vs.set k v):=by
 unfold RowAt
 rw [heap_setCell_same w b k _ T _ h];simp
theorem RowAt.other (h:RowAt T w b vs) {c o:Nat} (hc:b≠c) (v:Value):RowAt T (w.setCell ⟨c,o,none⟩ v) b vs:=by
 unfold RowAt
 rw [heap_setCell_other w ⟨c,o,none⟩ b v hc];exact h
theorem RowAt.ext (h:RowAt T w b vs) (hx:Ext w w'):RowAt T w' b vs:=by
 unfold RowAt
 rw [hx.block b h.lt];exact h
theorem RowAt.new (w:World) (vs:List Value):RowAt T (w.alloc (.cells vs.toArray T)) w.heap.size vs:=heap_alloc_new w _
theorem RowAt.kept (h:RowAt T w b vs) {row:Option Nat} (hg:w.grownBy w' row) (hne:some b≠row):RowAt T w' b vs:=(hg.block b h.lt hne).trans h
end
theorem run_make_one {P:Program} {t e:TypeId} {i:TypeInfo} {z:Value} (ht:P.underlying t=some (.slice e)) (hi:P.info? e=some i) (hz:i.zero=some z) (hzc:z.cells=#[z]) (hs:i.size=1) (n:Nat) (hb:i.bytes*n≤281474976710656) (hn:n≤17592186044416) (w:World) :
  (Instr.makeSlice t (.int .i64 (n:Int)) (.int .i64 (n:Int))).run P w=.ok (.slice (some ⟨w.heap.size,0,none⟩) n n) (w.alloc (.cells (List.replicate n z).toArray e)):=by
 have hb':(i.bytes:Int)*(n:Int)≤281474976710656:=by
  have h:((i.bytes*n:Nat):Int)≤281474976710656:=by omega
  rwa [Int.natCast_mul] at h
 have:=run_make (P:=P) w t e i z ht hi hz .i64 .i64 n n (by omega) (Int.le_refl _) hb' (by omega)
 rw [this]
 simp only [Int.toNat_natCast,hzc,hs,Nat.mul_one]
 congr 2
 congr 1
 apply Array.toList_inj.1
 apply List.ext_getElem?
 intro j
 by_cases hj:j < n
 ·simp [madeCells,hj,Nat.mod_one]
 ·simp [madeCells,hj]
attribute [local go_sem] quiet2
def RetRuns (w:World) (rs:List Run) (e:Ending) (w':World):Prop:=∃ v,e=.returned v∧RunsV w' v rs∧Ext w w'
def RetRunsF (w:World) (rs:List Run) (e:Ending) (w':World):Prop:=∃ v,e=.returned v∧RunsV w' v rs∧(∀ a n c,v=.slice (some a) n c→w.heap.size≤a.block)∧Ext w w'
theorem RetRunsF.ret {w w':World} {rs:List Run} {e:Ending} (h:RetRunsF w rs e w'):RetRuns w rs e w':=by
 obtain ⟨v,h1,h2,_,h3⟩:=h;exact ⟨v,h1,h2,h3⟩
theorem own_fresh {w:World} {base e sz n:Nat} {v:Value} {xs:List Value} (h:w.ownsRow base e sz v n xs):∀ a m c,v=.slice (some a) m c→base≤a.block:=fun a m c e=>h.lt a.block (by rw [e];rfl) |>.1
theorem foldTo_num {x:Nat→Int}:∀ n r,r∈foldTo x n→∃ t,t < n∧r.N=x t
 | 0,r,h=>by simp [foldTo] at h
 | n+1,r,h=>by
  simp only [foldTo,List.mem_append] at h
  rcases h with h | h
  ·obtain ⟨t,h1,h2⟩:=foldTo_num n r h;exact ⟨t,by omega,h2⟩
  ·split at h
   ·simp at h;subst h;exact ⟨n,by omega,rfl⟩
   ·simp at h
theorem owns2_form {w:World} {base e:Nat} {v:Value} {out:List Run} (h:w.ownsRow base e 2 v out.length (cells2 Run.At Run.N out)) (hnil:out=[]→v=.slice none 0 0) :
  (out=[]∧v=.slice none 0 0)∨∃ ob cp r,v=.slice (some ⟨ob,0,none⟩) out.length cp∧base≤ob∧ob < w.heap.size∧out.getLast?=some r∧0 < out.length∧w.cell? ⟨ob,(out.length - 1)*2+1,none⟩=some (.int .i64 r.N):=by
 by_cases h0:out=[]
 ·exact .inl ⟨h0,hnil h0⟩
 ·obtain ⟨_,h2⟩:=h
  have hp:0 < out.length:=List.length_pos_iff.2 h0
  rcases h2 with ⟨rfl,h2⟩ | ⟨b,cap,cur,rfl,hb,hg,hn,hm,hs,ht⟩
  ·omega
  ·right
   obtain ⟨r,hr⟩:∃ r,out.getLast?=some r:=⟨out.getLast h0,List.getLast?_eq_some_getLast h0⟩
   refine ⟨b,cap,r,rfl,hb,(Array.getElem?_eq_some_iff.1 hg).1,hr,hp,?_⟩
   have hk:out[out.length - 1]?=some r:=by rw [← List.getLast?_eq_getElem?];exact hr
   have:=(cells2_get Run.At Run.N out _ r hk).2
   simp only [World.cell?,hg,Option.isSome_none,Bool.false_eq_true,if_false]
   rw [← ht,List.getElem?_take] at this
   split at this
   ·simpa using this
   ·cases this
theorem sp_mem:∀ (l:List Run) (t:Nat),l≠[]→∃ r∈l,sp l t=r.N
 | [],_,h=>absurd rfl h
 | [a],_,_=>⟨a,by simp,rfl⟩
 | a::b::l,t,_=>by
  rw [sp]
  split
  ·obtain ⟨r,h1,h2⟩:=sp_mem (b::l) t (by simp)
   exact ⟨r,List.mem_cons_of_mem _ h1,h2⟩
  ·exact ⟨a,by simp,rfl⟩
theorem shape_ne {f:List Run} (h:Shape f):f≠[]:=by
 intro e;subst e;exact h
theorem zip_nums {f g:List Run} {of:Int→Int→Int} (hf:Shape f) (hg:Shape g) (h:∀ x∈f,∀ y∈g,I64 (of x.N y.N)):∀ r∈fold (fun t=>of (sp f t) (sp g t)),I64 r.At∧I64 r.N:=fun r hr=>by
 rw [fold_eq] at hr
 have h1:=foldTo_at _ _ hr
 obtain ⟨t,_,h2⟩:=foldTo_num _ _ hr
 obtain ⟨x,hx,e1⟩:=sp_mem f t (shape_ne hf)
 obtain ⟨y,hy,e2⟩:=sp_mem g t (shape_ne hg)
 refine ⟨I64.of (by omega) (by omega),?_⟩
 rw [h2]
 simp only [e1,e2]
 exact h x hx y hy
theorem Tryz.info48:(Tryz.prog.info? 48).map (fun i=>(i.zero,i.size,i.bytes))=some (some (.agg #[.int .i64 0,.int .i64 0]),2,16):=by kernel_rfl
theorem Zip_fresh (w:World) (fb fo fc gb go gc:Nat) (f g:List Run) (G:Nat) (of:Int→Int→Int) (hsf:Shape f) (hsg:Shape g)
  (hfc:f.length≤fc) (hgc:g.length≤gc) (hfm:fc≤9223372036854775807) (hgm:gc≤9223372036854775807) (hfb:fb < w.heap.size) (hgb:gb < w.heap.size)
  (hE:∀ k x,f[k]?=some x→ERun w fb (fo+k*2) x) (hG:∀ k x,g[k]?=some x→ERun w gb (go+k*2) x)
  (heg:∀ (args:Array Value) (w:World),(callFunc G args).run Tryz.prog w=.ok (.enter G args) w)
  (hof:∀ x∈f,∀ y∈g,I64 (of x.N y.N)∧∀ w,Calls Tryz.prog G #[.int .i64 x.N,.int .i64 y.N] w fun e w'=>e=.returned (.int .i64 (of x.N y.N))∧w'=w) :
  Calls Tryz.prog 122 #[.slice (some ⟨fb,fo,none⟩) f.length fc,.slice (some ⟨gb,go,none⟩) g.length gc,.func (.func G) #[] #[]] w (RetRunsF w (fold (fun t=>of (sp f t) (sp g t)))):=by
 have hfl:=shape_len hsf
 have hgl:=shape_len hsg
 have HE:=hid hE
 have HG:=hid hG
 have Hsf:=hid hsf
 have Hsg:=hid hsg
 have Hof:=hid hof
 clear hE hG hsf hsg hof
 obtain ⟨ir,ir1,ir2,ir3,ir4⟩:=info_parts Tryz.info48
 generalize hn:f.length=n at *
 have Hn:=hid hn
 generalize hm:g.length=m at *
 have Hm:=hid hm
 clear hn hm
 go_enter Tryz.func122,Tryz.ntmps122
 go_wp2_with fail
 go_loopw [7,8,9] (fun v a c wr=>∃ (i k:Nat) (out:List Run),a=.int .i64 i∧c=.int .i64 k∧i≤n∧k≤m∧Hid (wr.ownsRow w.heap.size 48 2 v out.length (cells2 Run.At Run.N out))∧Hid (out=[]→v=.slice none 0 0)∧Hid (ZipAt f g (fun t=>of (sp f t) (sp g t)) i k out)∧Ext w wr)
  (fun _ a c _=>(n+m) - (intOf a+intOf c).toNat)
 case atStart=>exact ⟨0,0,[],rfl,rfl,Nat.zero_le _,Nat.zero_le _,World.ownsRow_nil _ _ _ _,fun _=>rfl,zipAt_start Hsf.out Hsg.out _,Ext.rf _⟩
 case round =>
  obtain ⟨i,k,out,rfl,rfl,hi,hk,Hown,Hnil,Hz,hx⟩:=hrel
  have hfw:fb < wr.heap.size:=Nat.lt_of_lt_of_le hfb hx.size
  have hgw:gb < wr.heap.size:=Nat.lt_of_lt_of_le hgb hx.size
  by_cases hi1:i < n
  ·by_cases hk1:k < m
   ·obtain ⟨x,hxi⟩:=getE (f:=f) (k:=i) (by rw [Hn.out];exact hi1)
    obtain ⟨y,hyk⟩:=getE (f:=g) (k:=k) (by rw [Hm.out];exact hk1)
    obtain ⟨c1,c2,c3,c4⟩:=HE.out i x hxi
    obtain ⟨d1,d2,d3,d4⟩:=HG.out k y hyk
    replace c1:=hx.ce' c1
    replace c2:=hx.ce' c2
    replace d1:=hx.ce' d1
    replace d2:=hx.ce' d2
    have hzs:=zipAt_step Hsf.out Hsg.out (of:=of) (by rw [Hn.out];exact hi1) (by rw [Hm.out];exact hk1) Hz.out
    rw [curAt_some hxi,curAt_some hyk,curN_some hxi,curN_some hyk] at hzs
    have Hzs:=hid hzs
    have hoz:=(Hof.out x (List.mem_of_getElem? hxi) y (List.mem_of_getElem? hyk)).1
    have N1:=fun (W:World) (h:Ext w W)=>next_any W fb fo fc f i (by rw [Hn.out];omega) (Nat.lt_of_lt_of_le hfb h.size) (fun k x hk=>E2.mono w W _ _ _ h (HE.out k x hk)) (by rw [Hn.out];exact hi1)
    have N2:=fun (W:World) (h:Ext w W)=>next_any W gb go gc g k (by rw [Hm.out];omega) (Nat.lt_of_lt_of_le hgb h.size) (fun k x hk=>E2.mono w W _ _ _ h (HG.out k x hk)) (by rw [Hm.out];exact hk1)
    rw [Hn.out] at N1
    rw [Hm.out] at N2
    have HN1:=hid N1
    have HN2:=hid N2
    have ho:=Hof.out x (List.mem_of_getElem? hxi) y (List.mem_of_getElem? hyk)
    have Ho:=hid ho
    have Hx:=hid hxi
    have Hy:=hid hyk
    have hi1':(i:Int) < (n:Int):=by omega
    have hk1':(k:Int) < (m:Int):=by omega
    have Hoi:=hid hoz
    clear ho hxi hyk hzs hoz N1 N2
    go_upto_region 4 with fail
    go_cut [10] (fun p W=>∃ B:Nat,p=.pointer (some ⟨B,0,none⟩)∧wr.heap.size≤B∧W.cell? ⟨B,0,none⟩=some (.int .i64 (max x.At y.At))∧W.cell? ⟨B,1,none⟩=some (.int .i64 (of x.N y.N))∧Ext wr W)
    case first =>
     refine region_box_tail 25 24 (Obj.cells #[.int .i64 0,.int .i64 0] 48) (by kernel_rfl) (by kernel_rfl) rfl rfl rfl (fun a w=>by kernel_rfl) ?_
     simp only [List.take_succ_cons,List.take_zero,List.drop_succ_cons,List.drop_zero]
     repeat (refine wpQuiet2_step rfl (fun K hK=>?_);go_simp;refine hK _ ?_;clear hK K)
     refine wpQuiet2_step rfl (fun K hK=>?_)
     go_simp
     refine ⟨_,⟨fun m=>(Ho.out.2 _).mono fun e w' ⟨h1,h2⟩=>⟨h1,_,h2⟩,fun m=>(Ho.out.2 _).mono fun e w' ⟨h1,h2⟩=>⟨h1,_,h2⟩⟩,hK _ ?_⟩
     clear hK K
     repeat (refine wpQuiet2_step rfl (fun K hK=>?_);go_simp;refine hK _ ?_;clear hK K)
     refine wpQuiet2_alloc rfl ?_
     refine wpQuiet2_nil ?_
     intro m0
     simp only [Act.put,zD,zE,zF]
     rw [maxw]
     generalize hmx:max x.At y.At=mx
     have Hmx:=hid hmx
     generalize hoz:of x.N y.N=z0
     have Hoz:=hid hoz
     clear hmx hoz HN1 HN2 Hzs Ho Hoi Hown Hz Hnil
     go_wp2_with fail
     go_meet
     case rel=>exact ⟨wr.heap.size,rfl,Nat.le_refl _,by rw [Hmx.out];simp [go_sem],by rw [Hoz.out];simp [go_sem],(((Ext.rf wr).al _).dn _).se (Nat.le_refl _) _ |>.se (Nat.le_refl _) _⟩
    case rest =>
     obtain ⟨B,rfl,hB,b1,b2,hxc⟩:=hcut
     clear c1 c2 d1 d2
     go_step
     go_step
     have hobw:w.heap.size≤wc.heap.size:=Nat.le_trans hx.size hxc.size
     go_cut [7,11] (fun v _ W=>∃ out2:List Run,out2=putRun out ⟨max x.At y.At,of x.N y.N⟩∧Hid (W.ownsRow w.heap.size 48 2 v out2.length (cells2 Run.At Run.N out2))∧Ext w W)
     case first =>
      have Hown2:=hid (ownsRow_ext Hown.out hxc)
      have hol:=zipAt_len Hsf.out Hz.out
      generalize hmx:max x.At y.At=mx at b1
      have Hmx:=hid hmx
      generalize hoz:of x.N y.N=z0 at b2
      have Hoz:=hid hoz
      clear hmx hoz HN1 HN2 Hzs Ho Hoi Hz Hown
      rcases owns2_form Hown2.out Hnil.out with ⟨rfl,rfl⟩ | ⟨ob,cp,r,rfl,hob,hobw,hlast,hpos,hlc⟩
      ·clear Hnil
       have hBw:B < wc.heap.size:=World.block_lt_of_cell? wc ⟨B,0,none⟩ b1
       go_wp2_with fail
       go_quiet (fail)
       have hownW:=ownsRow_ext Hown2.out ((Ext.rf wc).dn nq)
       go_wp2_with (at_builtin;refine wpList_append_own _ rfl _ _ 29 rfl w.heap.size 48 ir _ 2 16 Tryz.underlying29 ir1 ir2 ir3 ir4 rfl (by decide) _ _ _ rfl (hownW.alloc _) ⟨wc.heap.size,0,none⟩ 1 1 [.int .i64 mx,.int .i64 z0] rfl rfl (new2 _ (by simp) _ _ _) (one2 _ _ _ _) (by simp [maxLen]) (by simp) (by simp;omega) ?_)
       intro v2 W2 hown2 hgrow2 _
       go_wp2_with fail
       go_meet
       case rel=>exact ⟨_,rfl,hid (by rw [Hmx.out,Hoz.out];simpa [putRun_nil,cells2] using hown2),(((hx.tr hxc).dn nq).al _).gr hgrow2 (own_lt hownW)⟩
      ·have hpos':((out.length:Int) == 0)=false:=eqF (by omega)
       have hpos1:(0:Int) < (out.length:Int):=by omega
       have Hlast:=hid hlast
       have hBw:B < wc.heap.size:=World.block_lt_of_cell? wc ⟨B,0,none⟩ b1
       clear hlast Hnil
       by_cases hrz:r.N=z0
       ·have hrz':(r.N != z0)=false:=neF hrz
        have Hrz:=hid hrz
        clear hrz
        go_wp2_with fail
        go_quiet (fail)
        go_wp2_with fail
        go_meet
        case rel=>exact ⟨_,rfl,by rw [putRun_same Hlast.out (by rw [Hoz.out];exact Hrz.out)];exact ownsRow_ext Hown2.out ((Ext.rf wc).dn nq),(hx.tr hxc).dn nq⟩
       ·have hrz':(r.N != z0)=true:=neT hrz
        have Hrz:=hid hrz
        clear hrz
        go_wp2_with fail
        go_quiet (fail)
        have hownW:=ownsRow_ext Hown2.out ((Ext.rf wc).dn nq)
        go_wp2_with (at_builtin;refine wpList_append_own _ rfl _ _ 29 rfl w.heap.size 48 ir _ 2 16 Tryz.underlying29 ir1 ir2 ir3 ir4 rfl (by decide) _ _ _ rfl (hownW.alloc _) ⟨wc.heap.size,0,none⟩ 1 1 [.int .i64 mx,.int .i64 z0] rfl rfl (new2 _ (by simp) _ _ _) (one2 _ _ _ _) (by unfold maxLen;omega) (by omega) (by simp;omega) ?_)
        intro v2 W2 hown2 hgrow2 _
        go_wp2_with fail
        go_meet
        case rel=>exact ⟨_,rfl,by rw [Hmx.out,Hoz.out,putRun_new Hlast.out (x:=⟨mx,z0⟩) Hrz.out,cells2_snoc,List.length_append];exact hown2,(((hx.tr hxc).dn nq).al _).gr hgrow2 (own_lt hownW)⟩
     case rest =>
      obtain ⟨out2,hout2,Hown2,hx2⟩:=hcut
      have Hne:=hid (hout2▸putRun_ne out ⟨max x.At y.At,of x.N y.N⟩)
      have Hzs2:=hid (by have:=Hzs.out;rw [← hout2] at this;exact this)
      clear b1 b2 hB Ho Hoi Hz Hown Hnil Hzs hout2
      have N1:=HN1.out _ hx2
      have N2:=HN2.out _ hx2
      generalize hna:nextAt f i=na at *
      generalize hnb:nextAt g k=nb at *
      have HM1:=hid N1
      have HM2:=hid N2
      clear N1 N2 hna hnb HN1 HN2
      go_wp2_with fail
      refine HM1.out.mono ?_
      rintro e W3 ⟨rfl,rfl⟩
      go_wp2_with fail
      refine HM2.out.mono ?_
      rintro e W3 ⟨rfl,rfl⟩
      clear HM1 HM2
      by_cases ab:na≤nb
      ·by_cases ba:nb≤na
       ·have Hz3:=hid (by have:=Hzs2.out;rw [if_pos ab,if_pos ba] at this;exact this)
        go_wp2_with fail
        go_roundw
        case rel=>exact ⟨i+1,k+1,out2,by go_num,by go_num,by omega,by omega,Hown2,fun h=>absurd h Hne.out,Hz3.out,hx2⟩
        case measure=>simp [intOf];omega
       ·have Hz3:=hid (by have:=Hzs2.out;rw [if_pos ab,if_neg ba] at this;exact this)
        go_wp2_with fail
        go_roundw
        case rel=>exact ⟨i+1,k,out2,by go_num,rfl,by omega,by omega,Hown2,fun h=>absurd h Hne.out,Hz3.out,hx2⟩
        case measure=>simp [intOf];omega
      ·have ba:nb≤na:=by omega
       have Hz3:=hid (by have:=Hzs2.out;rw [if_neg ab,if_pos ba] at this;exact this)
       go_wp2_with fail
       go_roundw
       case rel=>exact ⟨i,k+1,out2,rfl,by go_num,by omega,by omega,Hown2,fun h=>absurd h Hne.out,Hz3.out,hx2⟩
       case measure=>simp [intOf];omega
   ·have hi1':(i:Int) < (n:Int):=by omega
    have hk1':¬ (k:Int) < (m:Int):=by omega
    have hd:=zipAt_done Hz.out (.inr (by rw [Hm.out];omega))
    subst hd
    have hol:(fold (fun t=>of (sp f t) (sp g t))).length≤48:=by rw [fold_eq];exact foldTo_le 48
    go_wp2_with fail
    go_ret
    exact ⟨_,rfl,sv_of_owns2 Hown.out (fun r hr=>zip_nums Hsf.out Hsg.out (fun x hx y hy=>(Hof.out x hx y hy).1) r hr) (by omega),own_fresh Hown.out,hx⟩
  ·have hi1':¬ (i:Int) < (n:Int):=by omega
   have hd:=zipAt_done Hz.out (.inl (by rw [Hn.out];omega))
   subst hd
   have hol:(fold (fun t=>of (sp f t) (sp g t))).length≤48:=by rw [fold_eq];exact foldTo_le 48
   go_wp2_with fail
   go_ret
   exact ⟨_,rfl,sv_of_owns2 Hown.out (fun r hr=>zip_nums Hsf.out Hsg.out (fun x hx y hy=>(Hof.out x hx y hy).1) r hr) (by omega),own_fresh Hown.out,hx⟩
theorem fold_nums {x:Nat→Int} (h:∀ t,t < 48→I64 (x t)):∀ r∈fold x,I64 r.At∧I64 r.N:=fun r hr=>by
 rw [fold_eq] at hr
 have h1:=foldTo_at _ _ hr
 obtain ⟨t,ht,h2⟩:=foldTo_num _ _ hr
 exact ⟨I64.of (by omega) (by omega),by rw [h2];exact h t ht⟩
@[irreducible] def idxOf {α:Type} (p:α→Bool) (xs:List α):Int:=match xs.findIdx? p with | some i=>(i:Int) | none=>-1
theorem idxOf_at {α:Type} {p:α→Bool} {xs:List α} {k:Nat} {x:α} (hk:xs[k]?=some x) (hp:p x=true) (hall:∀ j y,j < k→xs[j]?=some y→p y=false):idxOf p xs=k:=by
 unfold idxOf
 have hkl:=(List.getElem?_eq_some_iff.1 hk).1
 have:xs.findIdx? p=some k:=by
  rw [List.findIdx?_eq_some_iff_getElem]
  refine ⟨hkl,?_,fun j hj=>?_⟩
  ·have:=(List.getElem?_eq_some_iff.1 hk).2;rw [this];exact hp
  ·rw [hall j (xs[j]'(by omega)) hj (by simp)];simp
 rw [this]
theorem idxOf_none {α:Type} {p:α→Bool} {xs:List α} (hall:∀ j y,j < xs.length→xs[j]?=some y→p y=false):idxOf p xs=-1:=by
 unfold idxOf
 have:xs.findIdx? p=none:=by
  rw [List.findIdx?_eq_none_iff]
  intro x hx
  obtain ⟨j,hj,rfl⟩:=List.mem_iff_getElem.1 hx
  exact hall j _ hj (by simp)
 rw [this]
theorem idxOf_any {α:Type} (p:α→Bool) (xs:List α):decide (0≤idxOf p xs)=xs.any p:=by
 unfold idxOf
 cases h:xs.findIdx? p with
 | none =>
  rw [List.findIdx?_eq_none_iff] at h
  have:xs.any p=false:=by rw [List.any_eq_false];intro x hx;rw [h x hx];simp
  rw [this];rfl
 | some i =>
  rw [List.findIdx?_eq_some_iff_getElem] at h
  obtain ⟨hi,hp,_⟩:=h
  have:xs.any p=true:=List.any_eq_true.2 ⟨xs[i],List.getElem_mem _,hp⟩
  rw [this];simp
theorem hall_snoc {α:Type} {p:α→Bool} {xs:List α} {k:Nat} {x:α} (hk:xs[k]?=some x) (hp:p x=false) (hall:∀ j y,j < k→xs[j]?=some y→p y=false):∀ j y,j < k+1→xs[j]?=some y→p y=false:=fun j y hj hy=>by
 by_cases e:j=k
 ·subst e;rw [hk] at hy;obtain rfl:=Option.some.inj hy;exact hp
 ·exact hall j y (by omega) hy
theorem IndexFunc_Run (w:World) (b off cap:Nat) (f:List Run) (G:Nat) (lb:Array Value) (p:Run→Bool) (hl:f.length≤17592186044416) (hb:b < w.heap.size) (hE:∀ k x,f[k]?=some x→ERun w b (off+k*2) x)
  (heg:∀ (args:Array Value) (w:World),(callFunc G args).run Tryz.prog w=.ok (.enter G args) w)
  (hp:∀ (k:Nat) (x:Run),f[k]?=some x→∀ W,Ext w W→Calls Tryz.prog G (#[.agg #[.int .i64 x.At,.int .i64 x.N]]++lb) W fun e w'=>e=.returned (.bool (p x))∧Ext W w') :
  Calls Tryz.prog 171 #[.slice (some ⟨b,off,none⟩) f.length cap,.func (.func G) #[] lb] w fun e w'=>e=.returned (.int .i64 (idxOf p f))∧Ext w w':=by
 have HE:=hid hE
 have Hp:=hid hp
 clear hE hp
 generalize hn:f.length=n at *
 have Hn:=hid hn
 clear hn
 go_enter Tryz.func171,Tryz.ntmps171
 go_wp2_with fail
 go_loopw [8] (fun i wr=>∃ k:Nat,k≤n∧i=.int .i64 k∧Hid (∀ j y,j < k→f[j]?=some y→p y=false)∧Ext w wr) (fun i _=>n - (intOf i).toNat)
 case atStart=>exact ⟨0,Nat.zero_le _,rfl,fun j y hj=>absurd hj (Nat.not_lt_zero _),Ext.rf _⟩
 case round =>
  obtain ⟨k,hk,rfl,Hall,hx⟩:=hrel
  have hbw:b < wr.heap.size:=Nat.lt_of_lt_of_le hb hx.size
  by_cases hlt:k < n
  ·obtain ⟨x,hxk⟩:=getE (f:=f) (k:=k) (by rw [Hn.out];exact hlt)
   obtain ⟨c1,c2,c3,c4⟩:=HE.out k x hxk
   replace c1:=hx.ce' c1
   replace c2:=hx.ce' c2
   have hc:=Hp.out k x hxk wr hx
   have Hc:=hid hc
   have Hx:=hid hxk
   clear hc hxk
   cases hpx:p x with
   | true =>
    rw [hpx] at Hc
    have Hpx:=hid hpx
    clear hpx
    go_wp2_with fail
    refine Hc.out.mono ?_
    rintro e w1 ⟨rfl,hx1⟩
    go_wp2_with fail
    go_ret
    exact ⟨ret_int (idxOf_at Hx.out Hpx.out Hall.out).symm,hx.tr hx1⟩
   | false =>
    rw [hpx] at Hc
    have Hpx:=hid hpx
    clear hpx
    go_wp2_with fail
    refine Hc.out.mono ?_
    rintro e w1 ⟨rfl,hx1⟩
    go_wp2_with fail
    go_roundw
    case rel=>exact ⟨k+1,by omega,by go_num,hall_snoc Hx.out Hpx.out Hall.out,hx.tr hx1⟩
    case measure=>simp [intOf];omega
  ·obtain rfl:k=n:=by omega
   go_wp2_with fail
   go_ret
   exact ⟨ret_int (idxOf_none (fun j y hj hy=>Hall.out j y (by rw [Hn.out] at hj;exact hj) hy)).symm,hx⟩
theorem ContainsFunc_Run (w:World) (v:Value) (f:List Run) (G:Nat) (lb:Array Value) (p:Run→Bool) (hv:RunsV w v f)
  (heg:∀ (args:Array Value) (w:World),(callFunc G args).run Tryz.prog w=.ok (.enter G args) w)
  (hp:∀ (k:Nat) (x:Run),f[k]?=some x→∀ W,Ext w W→Calls Tryz.prog G (#[.agg #[.int .i64 x.At,.int .i64 x.N]]++lb) W fun e w'=>e=.returned (.bool (p x))∧Ext W w') :
  Calls Tryz.prog 138 #[v,.func (.func G) #[] lb] w fun e w'=>e=.returned (.bool (f.any p))∧Ext w w':=by
 rcases hv with ⟨rfl,a0,c0,rfl,hc0⟩ | ⟨b,off,cap,rfl,h1,h2,h3,h4,h5⟩
 ·go_enter Tryz.func138,Tryz.ntmps138
  go_wp2
  go_loopw [8] (fun i wr=>i=.int .i64 0∧wr=w) (fun i _=>0)
  case atStart=>exact ⟨rfl,rfl⟩
  case round =>
   obtain ⟨rfl,rfl⟩:=hrel
   go_wp2
   go_ret
   exact ⟨rfl,Ext.rf _⟩
 ·have hi:=IndexFunc_Run w b off cap f G lb p h3 h4 h5 heg hp
  have Hi:=hid hi
  have ha:=hid (idxOf_any p f)
  clear hi hp h5
  generalize idxOf p f=q at *
  generalize hn:f.length=n at *
  clear hn
  generalize f.any p=r at *
  go_enter Tryz.func138,Tryz.ntmps138
  go_wp2_with fail
  refine Hi.out.mono ?_
  rintro e w1 ⟨rfl,hx1⟩
  go_wp2_with fail
  go_ret
  exact ⟨ret_bool ha.out,hx1⟩
end Go.Proofs.YtdcndkojmflhnaaGreat
