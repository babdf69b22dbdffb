/- laws; data that come in; each theorem names its own conditions. -/
import Derived.Test.YtdcndkojmflhnaaGreatPRoomP
import Derived.Test.YtdcndkojmflhnaaGreatPLoadR
import Derived.Test.YtdcndkojmflhnaaGreatPFind
import Derived.Test.YtdcndkojmflhnaaGreatPRunsZ
import Derived.Test.YtdcndkojmflhnaaGreatPOverD
import Derived.Test.YtdcndkojmflhnaaGreatProg
import Derived.Test.YtdcndkojmflhnaaGreatPCore
import Derived.WalkSpells
import Derived.StillTactics
import Derived.Tactics2
import Derived.Deep.RegionHeld3
import Derived.Deep.Slices
import Derived.ChangeSame
import Derived.SizedLaws
import Derived.Deep.Strs
import Derived.ChangeArms
/- The laws of load and room. -/
/- The laws on room: roomBegun is true; RoomFirst. -/
set_option linter.unusedVariables false
set_option maxRecDepth 100000
set_option maxHeartbeats 8000000
set_option linter.unusedSimpArgs false
set_option linter.unusedVariables false
namespace Go.Proofs.YtdcndkojmflhnaaGreat
open Go.RowKit
open List renaming getElem_toArray→zA,getElem_cons_zero→zB,getElem_cons_succ→zC,setIfInBounds_toArray→zD,set_cons_zero→zE,set_cons_succ→zF
theorem least_nat {P:Nat→Prop} (h:∃ n,P n):∃ n,P n∧∀ m,m < n→¬ P m:=by
 obtain ⟨n,hn⟩:=h
 induction n using Nat.strongRecOn with
 | ind n ih =>
  by_cases h:∃ m,m < n∧P m
  ·obtain ⟨m,hm,hp⟩:=h
   exact ih m hm hp
  ·exact ⟨n,hn,fun m hm hp=>h ⟨m,hm,hp⟩⟩
theorem over_some {l:List Queue} {b:List Book} {f:Nat} (h:¬ FitsT l b f):∃ t q,OverIs l b f t q:=by
 have h1:∃ t,f≤t∧t < 48∧∃ q,q < l.length∧leftT l b q t < 0:=by
  apply Classical.byContradiction
  intro hn
  refine h (fun s h1 h2 p hp=>?_)
  apply Classical.byContradiction
  intro h3
  exact hn ⟨s,h1,h2,p,hp,by omega⟩
 obtain ⟨t,⟨a1,a2,a3⟩,a4⟩:=least_nat h1
 obtain ⟨q,⟨b1,b2⟩,b3⟩:=least_nat a3
 refine ⟨t,q,a1,a2,b1,b2,fun s h1 h2 p hp=>?_,fun p hp=>?_⟩
 ·apply Classical.byContradiction
  intro h3
  exact a4 s h2 ⟨h1,by omega,p,hp,by omega⟩
 ·apply Classical.byContradiction
  intro h3
  exact b3 p hp ⟨by omega,by omega⟩
theorem too_yes {l:List Queue} {b:List Book} {f:Nat} (h:¬ FitsT l b f):(tooR l b f).2.2=true:=by
 obtain ⟨t,q,h⟩:=over_some h
 rw [tooR_is h]
theorem too_no {l:List Queue} {b:List Book} {f:Nat} (h:FitsT l b f):(tooR l b f).2.2=false:=by rw [tooR_no h]
theorem sameRuns_yes {w:World} {vf vg:Value} {f:List Run} (hf:RunsV w vf f) (hg:RunsV w vg f) :
  Calls Tryz.prog 19 #[vf,vg] w fun e w'=>e=.returned (.bool true)∧Ext w w':=by
 have:=SameRuns_any w vf vg f f hf hg;rw [deT rfl] at this;exact this
theorem firstE_all {l:List Queue}:∀ {b:List Book},firstE l b=0↔∀ x∈b,reqE l x.Req=0∧meetsR x.Req x.Bites=true
 | []=>by simp [firstE]
 | y::b=>by
  by_cases h1:reqE l y.Req=0
  ·by_cases h2:meetsR y.Req y.Bites=true
   ·rw [firstE_ok h1 h2,firstE_all]
    constructor
    ·intro h x hx
     rcases List.mem_cons.1 hx with rfl | hx
     ·exact ⟨h1,h2⟩
     ·exact h x hx
    ·exact fun h x hx=>h x (List.mem_cons_of_mem _ hx)
   ·constructor
    ·intro h;rw [firstE_form h1 (by simpa using h2)] at h;omega
    ·intro h;exact absurd (h y (List.mem_cons_self ..)).2 h2
  ·constructor
   ·intro h;rw [firstE_bad h1] at h;exact absurd h h1
   ·intro h;exact absurd (h y (List.mem_cons_self ..)).1 h1
theorem booksE_sub {l:List Queue} {b c:List Book} (h:booksE l b=0) (hm:∀ x∈c,x∈b) (hc:c.length≤12):booksE l c=0:=by
 obtain ⟨_,h0,h12,_⟩:=booksE_zero h
 rw [booksE_first h0 (by omega)] at h
 rw [booksE_first h0 (by omega)]
 exact firstE_all.2 fun x hx=>firstE_all.1 h x (hm x hx)
open Go.RowKit Go.ChangeShapes Go.WideShapes Go.Deep
section
variable {H:Type} {P:Program} {enc:TypeId × Value→H} {W:World} {base:Nat} {spare:Nat→Bool} {held:Bool}
def Opens {α:Type} (P:Program) (enc:TypeId × Value→H) (W:World) (base:Nat) (spare:Nat→Bool) (held:Bool) (e:TypeId) (sz:Nat) (E:World→Nat→Nat→α→Prop):Prop :=
 ∀ (fuel:Nat) (cs:List Value) (x:DataW H × List MemPlace),DataW.trod enc P W base spare held fuel e cs=some x→(∀ n∈x.1.weights P e,n≤reachBytes) →
  ∀ b o,(∀ j,j < sz→W.cell? ⟨b,o+j,none⟩=cs[j]?)→∃ y:α,E W b o y
theorem addr_add (b o j:Nat):(⟨b,o,none⟩:Addr).add j=⟨b,o+j,none⟩:=by
 unfold Addr.add
 split <;> simp_all
theorem weightsAll_mem {e:TypeId}:∀ {l:List (DataW H)} {d:DataW H},d∈l→∀ n∈d.weights P e,n∈DataW.weightsAll P e l
 | a::l,d,hd,n,hn=>by
  simp only [DataW.weightsAll,List.mem_append]
  rcases List.mem_cons.1 hd with rfl | hd
  ·exact .inl hn
  ·exact .inr (weightsAll_mem hd n hn)
theorem open_sv {α:Type} [Inhabited α] {t e:TypeId} {sz:Nat} {E:World→Nat→Nat→α→Prop} (ht:P.underlying t=some (.slice e)) (hc:P.cellsOf e=sz) (hsz:0 < sz) (hby:8≤P.bytesOf e)
  (hE:Opens P enc W base spare held e sz E) {fuel:Nat} {v:Value} {x:DataW H × List MemPlace} (h:DataW.trod enc P W base spare held fuel t [v]=some x) (hw:∀ n∈x.1.weights P t,n≤reachBytes) :
  ∃ xs,SV sz E W v xs:=by
 rcases open_slice ht h with ⟨hv,_⟩ | ⟨a,len,cap,m,n,D,Pl,hv,hb,hl,hm,hmm,rfl,hx⟩
 ·obtain rfl:v=.slice none 0 0:=by simpa using hv
  exact ⟨[],SV.nil⟩
 ·obtain rfl:v=.slice (some a) len cap:=by simpa using hv
  by_cases h0:len=0
  ·subst h0
   exact ⟨[],.inl ⟨rfl,some a,cap,rfl,by unfold maxLen at hm;omega⟩⟩
  ·have hlm:len≤m:=by rw [hmm];split <;> omega
   have hbig:len*8≤reachBytes:=by
    have h1:=hw ((len+(m - len))*P.bytesOf e) (by simp [DataW.weights,ht])
    have h2:len*8≤(len+(m - len))*P.bytesOf e:=Nat.mul_le_mul (by omega) hby
    omega
   have cells:∀ i,i < m→∃ cs',DataW.trod enc P W base spare held n e cs'=some (D i,Pl i)∧∀ j,j < sz→W.cell? ((a.add (i*sz)).add j)=cs'[j]?∧cs'.length=sz:=by
    intro i hi
    obtain ⟨cs',h1,h2⟩:=hx i hi
    rw [hc] at h1
    obtain ⟨_,h3,h4⟩:=World.cells?_some h1
    exact ⟨cs',h2,fun j hj=>⟨h4 j hj,h3⟩⟩
   obtain ⟨cs0,_,h1⟩:=cells 0 (by omega)
   obtain ⟨h2,h3⟩:=h1 0 hsz
   have h4:W.cell? ((a.add (0*sz)).add 0)=some (cs0[0]'(by omega)):=by rw [h2,List.getElem?_eq_getElem]
   have hspot:=World.cell?_spot h4
   have hblk:=World.block_lt_of_cell? W _ h4
   obtain ⟨b,off,spot⟩:=a
   obtain rfl:spot=none:=by simpa [Addr.add] using hspot
   have hb2:b < W.heap.size:=by simpa [Addr.add] using hblk
   have each:∀ i,i < len→∃ y:α,E W b (off+i*sz) y:=by
    intro i hi
    obtain ⟨cs',h5,h6⟩:=cells i (by omega)
    refine hE n cs' _ h5 (fun k hk=>hw k ?_) b _ (fun j hj=>by have:=(h6 j hj).1;rw [addr_add,addr_add] at this;exact this)
    simp only [DataW.weights,ht,List.mem_cons,List.mem_append]
    exact .inr (.inl (weightsAll_mem (List.mem_map.2 ⟨i,List.mem_range.2 hi,rfl⟩) k hk))
   obtain ⟨f,hf⟩:=choose_lt (α:=α) (p:=fun i y=>E W b (off+i*sz) y) each
   refine ⟨(List.range len).map f,.inr ⟨b,off,cap,by simp,by simpa using hl,by unfold maxLen at hm;omega,by simp;unfold reachBytes at hbig;omega,hb2,fun k y hk=>?_⟩⟩
   rw [List.getElem?_map] at hk
   by_cases hkl:k < len
   ·rw [List.getElem?_range hkl] at hk
    simp at hk
    subst hk
    exact hf k hkl
   ·rw [List.getElem?_eq_none (by simpa using hkl)] at hk
    cases hk
end
theorem cells48_is:Tryz.prog.cellsOf 48=2:=by kernel_rfl
theorem bytes48_is:8≤Tryz.prog.bytesOf 48:=of_decide_eq_true (by kernel_rfl)
theorem cells3_is:Tryz.prog.cellsOf 3=1:=by kernel_rfl
section
variable {H:Type} {enc:TypeId × Value→H} {W:World} {base:Nat} {spare:Nat→Bool} {held:Bool}
theorem opens_run:Opens Tryz.prog enc W base spare held 48 2 ERun:=by
 intro fuel cs x h hw b o hcell
 obtain ⟨y0,y1,n,rfl,hl,h0,h1⟩:=trod_struct2 Tryz.underlying48 h
 rw [cells48_is] at hl
 match cs,hl with
 | [c0,c1],_ =>
  simp only [cells3_is,List.drop_zero,List.drop_succ_cons,List.take_succ_cons,List.take_zero] at h0 h1
  obtain ⟨n0,e0,_,w0⟩:=DataW.trod_int Tryz.underlying3 h0
  obtain ⟨n1,e1,_,w1⟩:=DataW.trod_int Tryz.underlying3 h1
  simp only [List.cons.injEq,and_true] at e0 e1
  subst e0 e1
  exact ⟨⟨n0,n1⟩,hcell 0 (by omega),hcell 1 (by omega),I64.of_wf w0,I64.of_wf w1⟩
theorem open_runs {fuel:Nat} {v:Value} {x:DataW H × List MemPlace} (h:DataW.trod enc Tryz.prog W base spare held fuel 29 [v]=some x) (hw:∀ n∈x.1.weights Tryz.prog 29,n≤reachBytes):∃ xs,RunsV W v xs :=
 open_sv Tryz.underlying29 cells48_is (by omega) bytes48_is opens_run h hw
end
open Go.RowKit Go.ChangeShapes Go.WideShapes Go.Deep
theorem cells46_is:Tryz.prog.cellsOf 46=3:=by kernel_rfl
theorem bytes46_is:8≤Tryz.prog.bytesOf 46:=of_decide_eq_true (by kernel_rfl)
theorem cells9_is:Tryz.prog.cellsOf 9=1:=by kernel_rfl
theorem cells29_is:Tryz.prog.cellsOf 29=1:=by kernel_rfl
section
variable {H:Type} {enc:TypeId × Value→H} {W:World} {base:Nat} {spare:Nat→Bool} {held:Bool}
theorem opens_queue:Opens Tryz.prog enc W base spare held 46 3 EQueue:=by
 intro fuel cs x h hw b o hcell
 obtain ⟨y0,y1,y2,n,rfl,hl,h0,h1,h2⟩:=trod_struct3 Tryz.underlying46 h
 rw [cells46_is] at hl
 match cs,hl with
 | [c0,c1,c2],_ =>
  simp only [cells3_is,cells9_is,cells29_is,List.drop_zero,List.drop_succ_cons,List.take_succ_cons,List.take_zero] at h0 h1 h2
  obtain ⟨s,e0,_,w0⟩:=DataW.trod_string Tryz.underlying9 h0
  obtain ⟨n1,e1,_,w1⟩:=DataW.trod_int Tryz.underlying3 h1
  simp only [List.cons.injEq,and_true] at e0 e1
  subst e0 e1
  obtain ⟨xs,hxs⟩:=open_runs h2 (fun k hk=>hw k (by
   simp only [DataW.weights,Tryz.underlying46,List.map_cons,List.map_nil,DataW.weightsEach,List.mem_append]
   exact .inr (.inr (.inl hk))))
  exact ⟨⟨s,n1,xs⟩,hcell 0 (by omega),w0,hcell 1 (by omega),I64.of_wf w1,_,hcell 2 (by omega),hxs⟩
theorem open_queues {fuel:Nat} {v:Value} {x:DataW H × List MemPlace} (h:DataW.trod enc Tryz.prog W base spare held fuel 22 [v]=some x) (hw:∀ n∈x.1.weights Tryz.prog 22,n≤reachBytes):∃ xs,QueuesV W v xs :=
 open_sv Tryz.underlying22 cells46_is (by omega) bytes46_is opens_queue h hw
end
open Go.RowKit Go.ChangeShapes Go.WideShapes Go.Deep
theorem cells44_is:Tryz.prog.cellsOf 44=2:=by kernel_rfl
theorem bytes44_is:8≤Tryz.prog.bytesOf 44:=of_decide_eq_true (by kernel_rfl)
theorem cells42_is:Tryz.prog.cellsOf 42=2:=by kernel_rfl
theorem bytes42_is:8≤Tryz.prog.bytesOf 42:=of_decide_eq_true (by kernel_rfl)
theorem cells28_is:Tryz.prog.cellsOf 28=5:=by kernel_rfl
theorem cells26_is:Tryz.prog.cellsOf 26=1:=by kernel_rfl
section
variable {H:Type} {P:Program} {enc:TypeId × Value→H} {w:World} {base:Nat} {spare:Nat→Bool} {held:Bool}
theorem trod_struct5 {t:TypeId} {f0 f1 f2 f3 f4:Field} {fuel:Nat} {cs:List Value} {x:DataW H × List MemPlace} (ht:P.underlying t=some (.struct #[f0,f1,f2,f3,f4])) (h:DataW.trod enc P w base spare held fuel t cs=some x) :
  ∃ y0 y1 y2 y3 y4 n,x=(.agg [y0.1,y1.1,y2.1,y3.1,y4.1],y0.2++(y1.2++(y2.2++(y3.2++y4.2))))∧cs.length=P.cellsOf t∧DataW.trod enc P w base spare held n f0.type ((cs.drop f0.offset).take (P.cellsOf f0.type))=some y0 ∧
   DataW.trod enc P w base spare held n f1.type ((cs.drop f1.offset).take (P.cellsOf f1.type))=some y1∧DataW.trod enc P w base spare held n f2.type ((cs.drop f2.offset).take (P.cellsOf f2.type))=some y2 ∧
   DataW.trod enc P w base spare held n f3.type ((cs.drop f3.offset).take (P.cellsOf f3.type))=some y3∧DataW.trod enc P w base spare held n f4.type ((cs.drop f4.offset).take (P.cellsOf f4.type))=some y4:=by
 obtain ⟨xs,n,_,rfl,hl,hlen,hf⟩:=DataW.trod_struct ht h
 match xs,hlen with
 | [y0,y1,y2,y3,y4],_=>exact ⟨y0,y1,y2,y3,y4,n,by simp,hl,by simpa using hf 0 f0 rfl,by simpa using hf 1 f1 rfl,by simpa using hf 2 f2 rfl,by simpa using hf 3 f3 rfl,by simpa using hf 4 f4 rfl⟩
end
section
variable {H:Type} {enc:TypeId × Value→H} {W:World} {base:Nat} {spare:Nat→Bool} {held:Bool}
theorem opens_piece:Opens Tryz.prog enc W base spare held 44 2 EPiece:=by
 intro fuel cs x h hw b o hcell
 obtain ⟨y0,y1,n,rfl,hl,h0,h1⟩:=trod_struct2 Tryz.underlying44 h
 rw [cells44_is] at hl
 match cs,hl with
 | [c0,c1],_ =>
  simp only [cells3_is,List.drop_zero,List.drop_succ_cons,List.take_succ_cons,List.take_zero] at h0 h1
  obtain ⟨n0,e0,_,w0⟩:=DataW.trod_int Tryz.underlying3 h0
  obtain ⟨n1,e1,_,w1⟩:=DataW.trod_int Tryz.underlying3 h1
  simp only [List.cons.injEq,and_true] at e0 e1
  subst e0 e1
  exact ⟨⟨n0,n1⟩,hcell 0 (by omega),hcell 1 (by omega),I64.of_wf w0,I64.of_wf w1⟩
theorem opens_bite:Opens Tryz.prog enc W base spare held 42 2 EBite:=by
 intro fuel cs x h hw b o hcell
 obtain ⟨y0,y1,n,rfl,hl,h0,h1⟩:=trod_struct2 Tryz.underlying42 h
 rw [cells42_is] at hl
 match cs,hl with
 | [c0,c1],_ =>
  simp only [cells3_is,List.drop_zero,List.drop_succ_cons,List.take_succ_cons,List.take_zero] at h0 h1
  obtain ⟨n0,e0,_,w0⟩:=DataW.trod_int Tryz.underlying3 h0
  obtain ⟨n1,e1,_,w1⟩:=DataW.trod_int Tryz.underlying3 h1
  simp only [List.cons.injEq,and_true] at e0 e1
  subst e0 e1
  exact ⟨⟨n0,n1⟩,hcell 0 (by omega),hcell 1 (by omega),I64.of_wf w0,I64.of_wf w1⟩
theorem open_pieces {fuel:Nat} {v:Value} {x:DataW H × List MemPlace} (h:DataW.trod enc Tryz.prog W base spare held fuel 26 [v]=some x) (hw:∀ n∈x.1.weights Tryz.prog 26,n≤reachBytes):∃ xs,PiecesV W v xs :=
 open_sv Tryz.underlying26 cells44_is (by omega) bytes44_is opens_piece h hw
theorem open_bites {fuel:Nat} {v:Value} {x:DataW H × List MemPlace} (h:DataW.trod enc Tryz.prog W base spare held fuel 38 [v]=some x) (hw:∀ n∈x.1.weights Tryz.prog 38,n≤reachBytes):∃ xs,BitesV W v xs :=
 open_sv Tryz.underlying38 cells42_is (by omega) bytes42_is opens_bite h hw
theorem open_reqC {fuel:Nat} {cs:List Value} {x:DataW H × List MemPlace} (h:DataW.trod enc Tryz.prog W base spare held fuel 28 cs=some x) (hw:∀ n∈x.1.weights Tryz.prog 28,n≤reachBytes):∃ r,ReqC W cs r:=by
 obtain ⟨y0,y1,y2,y3,y4,n,rfl,hl,h0,h1,h2,h3,h4⟩:=trod_struct5 Tryz.underlying28 h
 rw [cells28_is] at hl
 match cs,hl with
 | [c0,c1,c2,c3,c4],_ =>
  simp only [cells3_is,cells26_is,List.drop_zero,List.drop_succ_cons,List.take_succ_cons,List.take_zero] at h0 h1 h2 h3 h4
  obtain ⟨n0,e0,_,w0⟩:=DataW.trod_int Tryz.underlying3 h0
  obtain ⟨n1,e1,_,w1⟩:=DataW.trod_int Tryz.underlying3 h1
  obtain ⟨n2,e2,_,w2⟩:=DataW.trod_int Tryz.underlying3 h2
  obtain ⟨n3,e3,_,w3⟩:=DataW.trod_int Tryz.underlying3 h3
  simp only [List.cons.injEq,and_true] at e0 e1 e2 e3
  subst e0 e1 e2 e3
  obtain ⟨xs,hxs⟩:=open_pieces h4 (fun k hk=>hw k (by
   simp only [DataW.weights,Tryz.underlying28,List.map_cons,List.map_nil,DataW.weightsEach,List.mem_append]
   exact .inr (.inr (.inr (.inr (.inl hk))))))
  exact ⟨⟨n0,n1,n2,n3,xs⟩,_,rfl,hxs,I64.of_wf w0,I64.of_wf w1,I64.of_wf w2,I64.of_wf w3⟩
end
open Go.RowKit Go.ChangeShapes Go.WideShapes Go.Deep
theorem cells40_is:Tryz.prog.cellsOf 40=7:=by kernel_rfl
theorem bytes40_is:8≤Tryz.prog.bytesOf 40:=of_decide_eq_true (by kernel_rfl)
theorem cells38_is:Tryz.prog.cellsOf 38=1:=by kernel_rfl
section
variable {H:Type} {enc:TypeId × Value→H} {W:World} {base:Nat} {spare:Nat→Bool} {held:Bool}
theorem opens_book:Opens Tryz.prog enc W base spare held 40 7 EBook:=by
 intro fuel cs x h hw b o hcell
 obtain ⟨y0,y1,y2,n,rfl,hl,h0,h1,h2⟩:=trod_struct3 Tryz.underlying40 h
 rw [cells40_is] at hl
 match cs,hl with
 | [c0,c1,c2,c3,c4,c5,c6],_ =>
  simp only [cells3_is,cells28_is,cells38_is,List.drop_zero,List.drop_succ_cons,List.take_succ_cons,List.take_zero] at h0 h1 h2
  obtain ⟨n0,e0,_,w0⟩:=DataW.trod_int Tryz.underlying3 h0
  simp only [List.cons.injEq,and_true] at e0
  subst e0
  obtain ⟨r,hr⟩:=open_reqC h1 (fun k hk=>hw k (by
   simp only [DataW.weights,Tryz.underlying40,List.map_cons,List.map_nil,DataW.weightsEach,List.mem_append]
   exact .inr (.inl hk)))
  obtain ⟨xs,hxs⟩:=open_bites h2 (fun k hk=>hw k (by
   simp only [DataW.weights,Tryz.underlying40,List.map_cons,List.map_nil,DataW.weightsEach,List.mem_append]
   exact .inr (.inr (.inl hk))))
  refine ⟨⟨n0,r,xs⟩,_,⟨_,c6,rfl,hr,hxs,I64.of_wf w0⟩,fun j u hj=>?_⟩
  have hlt:j < 7:=by have:=(List.getElem?_eq_some_iff.1 hj).1;simpa using this
  rw [hcell j hlt]
  exact hj
theorem open_books {fuel:Nat} {v:Value} {x:DataW H × List MemPlace} (h:DataW.trod enc Tryz.prog W base spare held fuel 23 [v]=some x) (hw:∀ n∈x.1.weights Tryz.prog 23,n≤reachBytes):∃ xs,BooksV W v xs :=
 open_sv Tryz.underlying23 cells40_is (by omega) bytes40_is opens_book h hw
end
end Go.Proofs.YtdcndkojmflhnaaGreat
