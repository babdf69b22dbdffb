/- What comes in, opened: an act, acts; each theorem names its own conditions. -/
import Derived.Test.YtdcndkojmflhnaaGreatPLogM
set_option linter.unusedVariables false
set_option maxRecDepth 100000
set_option maxHeartbeats 8000000
set_option linter.unusedSimpArgs false
set_option linter.unusedVariables false
namespace Go.Proofs.YtdcndkojmflhnaaGreat
open List renaming getElem_toArray→zA,getElem_cons_zero→zB,getElem_cons_succ→zC,setIfInBounds_toArray→zD,set_cons_zero→zE,set_cons_succ→zF
open Go.RowKit Go.ChangeShapes Go.WideShapes Go.Deep
theorem cells31_is:Tryz.prog.cellsOf 31=8:=by kernel_rfl
instance:Inhabited Act1:=⟨⟨0,0,⟨0,0,0,0,[]⟩,[]⟩⟩
section
variable {H:Type} {enc:TypeId × Value→H} {W:World} {base:Nat} {spare:Nat→Bool} {held:Bool}
theorem open_actC {fuel:Nat} {cs:List Value} {x:DataW H × List MemPlace} (h:DataW.trod enc Tryz.prog W base spare held fuel 31 cs=some x) (hw:∀ n∈x.1.weights Tryz.prog 31,n≤reachBytes):∃ y,ActC W cs y:=by
 obtain ⟨y0,y1,y2,y3,n,rfl,hl,h0,h1,h2,h3⟩:=trod_struct4s Tryz.underlying31 h
 rw [cells31_is] at hl
 match cs,hl with
 | [c0,c1,c2,c3,c4,c5,c6,c7],_ =>
  simp only [cells3_is,cells28_is,cells29_is,List.drop_zero,List.drop_succ_cons,List.take_succ_cons,List.take_zero] at h0 h1 h2 h3
  obtain ⟨n0,e0,_,w0⟩:=DataW.trod_int Tryz.underlying3 h0
  obtain ⟨n1,e1,_,w1⟩:=DataW.trod_int Tryz.underlying3 h1
  simp only [List.cons.injEq,and_true] at e0 e1
  subst e0 e1
  obtain ⟨r,pv,hr,hp,i1,i2,i3,i4⟩:=open_reqC h2 (fun k hk=>hw k (by
   simp only [DataW.weights,Tryz.underlying31,List.map_cons,List.map_nil,DataW.weightsEach,List.mem_append]
   exact .inr (.inr (.inl hk))))
  obtain ⟨xs,hxs⟩:=open_runs h3 (fun k hk=>hw k (by
   simp only [DataW.weights,Tryz.underlying31,List.map_cons,List.map_nil,DataW.weightsEach,List.mem_append]
   exact .inr (.inr (.inr (.inl hk)))))
  simp only [List.cons.injEq,and_true] at hr
  obtain ⟨rfl,rfl,rfl,rfl,rfl⟩:=hr
  exact ⟨⟨n0,n1,r,xs⟩,_,_,rfl,hp,hxs,⟨i1,i2,i3,i4⟩,I64.of_wf w0,I64.of_wf w1⟩
theorem open_act {r:Reach} {b0:Nat} {v:Value} {d:DataW H} {p:List MemPlace} (hv:Value.okWide Tryz.prog W r b0 31 v) (h:DataW.Trod enc Tryz.prog W base spare held 31 v d p) (hw:∀ n∈d.weights Tryz.prog 31,n≤reachBytes):∃ x,ActV W v x:=by
 obtain ⟨cs,rfl,hsz⟩:=okWide_struct Tryz.underlying31 hv
 obtain ⟨fuel,hf⟩:=h
 obtain ⟨x,hx⟩:=open_actC (cs:=cs.toList) (by simpa [Value.cells] using hf) hw
 exact ⟨x,cs.toList,by simp,hx⟩
end
end Go.Proofs.YtdcndkojmflhnaaGreat
