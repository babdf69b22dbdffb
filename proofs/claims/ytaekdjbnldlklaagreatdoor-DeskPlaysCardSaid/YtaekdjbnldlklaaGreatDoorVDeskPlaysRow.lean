/- The statement DeskPlays: whatever comes in, the law answers true, and what came reads as it did; the package variables that the row lists hold what the program's text lays into them (the tied card). -/
import Derived.Test.YtaekdjbnldlklaaGreatDoorCards
import Derived.Test.YtaekdjbnldlklaaGreatDoorTie
import Derived.Test.YtaekdjbnldlklaaGreatDoorVTextA
import Derived.Test.YtaekdjbnldlklaaGreatDoorVDeskK
import Derived.SevenTiedAt
import Derived.Lay
set_option linter.unusedVariables false
set_option maxRecDepth 100000
set_option maxHeartbeats 8000000
set_option linter.unusedSimpArgs false
namespace Go.Proofs.YtaekdjbnldlklaaGreatDoor.deskPlaysDone
open _root_.Go.Proofs.Tryz
open Go.ChangeShapes Go.WideShapes Go.ChangeAt Go.RowKit
open Go.ChangeMaps (open_string shut_string)
theorem own:ownKnob prog.godebug=none:=by kernel_rfl
theorem laidOut:laidOutB prog=true:=by kernel_rfl
theorem lifted (os:Os) (started:os.Started) (H:Type) (enc:TypeId × Value->H) :
  ReturnsInHanded {} Tryz.checked os 3 .any (λw args=>(Rows.deskPlaysSpec.pre enc prog Tryz.f3 [] false w args/\laidMetH prog Rows.deskPlaysRow.laid w)/\sizedMet enc prog Tryz.f3 (OpenSpec.ofChange Rows.deskPlaysSpec) false w args)
   (Rows.deskPlaysSpec.post enc prog Tryz.f3 false true false false):=by
 refine Ud (C:=Tryz.checked) (X:=λw _=>laidMetH prog Rows.deskPlaysRow.laid w) (λ_ _ _ hh h=>h.of_heap hh) own started (by kernel_rfl) func3
  (ChangeSpec.witness_shaped (enc:=enc) (C:=Tryz.checked) (os:=os) (X:=λw _=>laidMetH prog Rows.deskPlaysRow.laid w) false (World.laidAll prog os Rows.deskPlaysRow.laid) #[.string ByteArray.empty,.string ByteArray.empty] 8 (World.laidAll_os _ _ _)
   (World.shaped_of_ZipB (by kernel_rfl) (by kernel_rfl)) (by kernel_rfl) (by kernel_rfl) (by kernel_rfl)
   (by rw[MakeChecks.laidMetH_plain _ _ _ (by kernel_rfl)];exact laidMet_laidAll _ (by kernel_rfl) (by kernel_rfl))) ?_
 intro W base args ds gs before hval0 hW hsz0 hL hsh;have hval:∀ (j:Nat) t v,Tryz.f3.params[j]?=some t->args[j]?=some v->Value.okWide prog W .any base t v:=hval0;have hsz:(DataW.weightsEach prog (Tryz.f3.params.toList++Rows.deskPlaysSpec.plain.varTypes prog) (ds++gs)).all (·<=reachBytes)=true:=hsz0;have hT:gC W:=Ts (by have h:=hL;rw[MakeChecks.laidMetH_plain _ _ _ (by kernel_rfl)] at h;exact h) hsh;have hW':=hW;obtain⟨p,q,hA0,hV,rfl,hfz,hnd⟩:=hW;have hA:DataW.TrodAll enc prog W 0 (λ_=>true) true Tryz.f3.params.toList args.toList ds p:=hA0;rw[params3] at hA hval hsz;obtain⟨v0,vs0,d0,ds0,p0,q0,hargs,rfl,rfl,h0,r0⟩:=trodAll_cons hA;obtain⟨v1,vs1,d1,ds1,p1,q1,rfl,rfl,rfl,h1,r1⟩:=trodAll_cons r0;obtain⟨rfl,rfl,rfl⟩:=trodAll_nil r1;obtain rfl:args=#[v0,v1]:=by cases args;simp_all
 obtain⟨rfl,rfl⟩:=trodVars_none hV;obtain⟨s0,rfl,rfl,rfl,w0⟩:=open_string underlying9 (hval 0 9 v0 rfl rfl) h0;obtain⟨s1,rfl,rfl,rfl,w1⟩:=open_string underlying9 (hval 1 9 v1 rfl rfl) h1;clear hA0 hval0;have walk:=Px W hT (bs s0) (bs s1) (by rw[iL];exact w0) (by rw[iL];exact w1);rw[oM,oM] at walk;refine walk.m λe W' ⟨he,bel⟩=>?_;subst he;exact⟨_,rfl,_,_,_,[],_,[],hW',trodAll_mk1 (shut_bool underlying4 _),(trodAll_cons_mk (shut_string underlying9 w0) (trodAll_cons_mk (shut_string underlying9 w1) trodAll_mk0)),rfl,bel.frame _,λh=>by cases h⟩
theorem over:Rows.deskPlaysRow.holds Tryz.pinned (OpenSpec.ofChange Rows.deskPlaysSpec):=
 OpenClaim.holds_of_wide 3 Tryz.f3 rfl rfl rfl rfl rfl rfl rfl ⟨rfl,rfl,rfl,rfl,rfl⟩ rfl rfl rfl rfl rfl (by kernel_rfl) func3 (by kernel_rfl)
  (of_decide_eq_true (by kernel_rfl)) (by unfold Func.isWrapper;first | (rw[if_pos (by decide +kernel)];kernel_rfl) | (rw[if_neg (by decide +kernel)];exact⟨rfl,rfl⟩))
  (λos started H enc _=>lifted os started H enc)
theorem proved:Rows.DeskPlaysCardSaid:=
 Claim7.holds_tied_plain_at .later [] [.data,.data,.data,.data,.sentinel,.sentinel,.listed,.data,.pinned] true (true,"c0c8e31437339e1dcd8c803db411a53562a0cb73e4613493b5b7b1512c1da5aa") true
  over (λ_ h=>by cases h) (by kernel_rfl) (λ_ h=>by cases h) deskPlays_row_tie rfl ⟨rfl,rfl⟩ (by kernel_rfl) rfl
  (λf fn hf hfn=>by
   obtain rfl : f = 3:=Option.some.inj ((show prog.funcNamed "acreage/acreagelaw.DeskPlays" = some 3 by kernel_rfl).symm.trans hf) |>.symm
   obtain rfl:fn=Tryz.f3:=(Option.some.inj (func3.symm.trans hfn)).symm;exact⟨by kernel_rfl,λj t ht=>by
    rw[params3] at ht;have hm:t∈[9,9]:=by simpa using Array.mem_of_getElem? ht
    have hall:([9,9].all λu=>!prog.wantsStandIn u)=true:=by kernel_rfl
    exact(show prog.wantsStandIn t=false by simpa using List.all_eq_true.1 hall t hm)⟩)
  (by kernel_rfl)
#print axioms proved
end Go.Proofs.YtaekdjbnldlklaaGreatDoor.deskPlaysDone
