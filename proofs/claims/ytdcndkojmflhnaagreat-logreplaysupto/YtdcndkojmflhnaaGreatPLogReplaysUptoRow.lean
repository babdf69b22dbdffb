/- The statement LogReplaysUpto: whatever comes in of bulk at most 1048576, the law answers true, and what came reads as it did. Condition: that bulk. -/
import Derived.Test.YtdcndkojmflhnaaGreatRows
import Derived.Test.YtdcndkojmflhnaaGreatPLogS
import Derived.Test.YtdcndkojmflhnaaGreatPLogM
import Derived.ProofKit
import Derived.OpenShut
import Derived.ShutString
import Derived.ChangeOld
import Derived.Below
import Derived.SizedLaws
import Derived.JoinedCond
import Derived.Deep.CondSized
set_option linter.unusedVariables false
set_option maxRecDepth 100000
set_option maxHeartbeats 8000000
set_option linter.unusedSimpArgs false
set_option linter.unusedVariables false
namespace Go.Proofs.YtdcndkojmflhnaaGreat.logReplaysUptoDone
open Go.ChangeShapes Go.WideShapes Go.ChangeAt Go.RowKit
open Go.ChangeMaps (open_string shut_string)
theorem own:ownKnob Tryz.prog.godebug=none:=by kernel_rfl
theorem laidOut:laidOutB Tryz.prog=true:=by kernel_rfl
theorem one_le {H:Type} (d:DataW H):1≤Rows.uptoBulk d:=by
 cases d with
 | lit l=>cases l <;> simp [Rows.uptoBulk]
 | _=>simp [Rows.uptoBulk]
theorem length_le {H:Type} (l:List (DataW H)):l.length≤Rows.uptoBulkAll l:=by
 induction l with
 | nil=>simp [Rows.uptoBulkAll]
 | cons x r ih=>have:=one_le x;simp only [Rows.uptoBulkAll,List.length_cons];omega
theorem slice_bulk {H:Type} {enc:TypeId × Value→H} {W:World} {base:Nat} {spare:Nat→Bool} {held:Bool} {t e:TypeId} {fuel n c:Nat} {a:Option Addr} {x:DataW H × List MemPlace} (ht:Tryz.prog.underlying t=some (.slice e))
  (h:DataW.trod enc Tryz.prog W base spare held fuel t [.slice a n c]=some x):n≤Rows.uptoBulk x.1:=by
 rcases DataW.trod_slice ht h with ⟨hv,_⟩ | ⟨a',len,cap,elems,rest,m,_,hv,rfl,_,_,_,hl,_⟩
 ·simp only [List.cons.injEq,Value.slice.injEq,and_true] at hv
  omega
 ·simp only [List.cons.injEq,Value.slice.injEq,and_true] at hv
  have h1:=length_le (elems.map (·.1))
  rw [List.length_map] at h1
  simp only [Rows.uptoBulk]
  omega
theorem open_act_bulk {H:Type} {enc:TypeId × Value→H} {W:World} {base:Nat} {spare:Nat→Bool} {held:Bool} {r:Reach} {b0:Nat} {v:Value} {d:DataW H} {p:List MemPlace} (hv:Value.okWide Tryz.prog W r b0 31 v) (h:DataW.Trod enc Tryz.prog W base spare held 31 v d p) (hw:∀ n∈d.weights Tryz.prog 31,n≤reachBytes) :
  ∃ x,ActV W v x∧x.Req.Pieces.length+x.Cap.length≤Rows.uptoBulk d:=by
 obtain ⟨x,hx⟩:=open_act hv h hw
 refine ⟨x,hx,?_⟩
 obtain ⟨cs,rfl,pv,cv,rfl,hp,hc,_⟩:=hx
 obtain ⟨fuel,hf⟩:=h
 obtain ⟨pa,pc,rfl,_,_,_⟩:=hp.form
 obtain ⟨ca,cc,rfl,_,_,_⟩:=hc.form
 obtain ⟨y0,y1,y2,y3,n,hd,hl,h0,h1,h2,h3⟩:=trod_struct4s Tryz.underlying31 hf
 simp only [Value.cells,List.toList_toArray,cells3_is,cells28_is,cells29_is,List.drop_zero,List.drop_succ_cons,List.take_succ_cons,List.take_zero] at h0 h1 h2 h3
 obtain ⟨z0,z1,z2,z3,z4,m,rfl,hl2,g0,g1,g2,g3,g4⟩:=trod_struct5 Tryz.underlying28 h2
 simp only [cells26_is,List.drop_zero,List.drop_succ_cons,List.take_succ_cons,List.take_zero] at g4
 have k1:=slice_bulk Tryz.underlying26 g4
 have k2:=slice_bulk Tryz.underlying29 h3
 obtain rfl:d=.agg [y0.1,y1.1,.agg [z0.1,z1.1,z2.1,z3.1,z4.1],y3.1]:=congrArg Prod.fst hd
 simp only [Rows.uptoBulk,Rows.uptoBulkAll]
 omega
theorem contract (H:Type) (enc:TypeId × Value→H) (W:World) (base:Nat) (args:Array Value) (ds gs:List (DataW H)) (before:List MemPlace)
  (hval0:∀ (j:Nat) t v,Tryz.f5.params[j]?=some t→args[j]?=some v→Value.okWide Tryz.prog W .any base t v)
  (hW:DataW.Whole enc Tryz.prog Tryz.f5.params.toList Rows.logReplaysSpec.vars false W args.toList ds gs before) (hk:Rows.uptoSmall H (ds++gs)=true)
  (hsz0:(DataW.weightsEach Tryz.prog (Tryz.f5.params.toList++Rows.logReplaysSpec.plain.varTypes Tryz.prog) (ds++gs)).all (·≤reachBytes)=true) :
  Calls Tryz.prog 5 args W fun e W'=>∃ v,e=.returned v∧Rows.logReplaysSpec.post enc Tryz.prog Tryz.f5 false true false false W args v W':=by
 have hval:∀ (j:Nat) t v,Tryz.f5.params[j]?=some t→args[j]?=some v→Value.okWide Tryz.prog W .any base t v:=hval0
 have hsz:(DataW.weightsEach Tryz.prog (Tryz.f5.params.toList++Rows.logReplaysSpec.plain.varTypes Tryz.prog) (ds++gs)).all (·≤reachBytes)=true:=hsz0
 have hW':=hW
 obtain ⟨p,q,hA0,hV,rfl,hfz,hnd⟩:=hW
 have hA:DataW.TrodAll enc Tryz.prog W 0 (fun _=>true) true Tryz.f5.params.toList args.toList ds p:=hA0
 rw [Tryz.params5] at hA hval hsz
 obtain ⟨v0,vs0,d0,ds0,p0,q0,hargs,rfl,rfl,h0,r0⟩:=trodAll_cons hA
 obtain ⟨v1,vs1,d1,ds1,p1,q1,rfl,rfl,rfl,h1,r1⟩:=trodAll_cons r0
 obtain ⟨rfl,rfl,rfl⟩:=trodAll_nil r1
 obtain rfl:args=#[v0,v1]:=by cases args;simp_all
 obtain ⟨rfl,rfl⟩:=trodVars_none hV
 have k0:=h0
 have lt0:∀ x∈p0,x.block < W.heap.size:=by obtain ⟨m,hm⟩:=k0;exact DataW.trod_lt m _ _ _ hm
 have z0:∀ n∈d0.weights Tryz.prog 31,n≤reachBytes:=fun n hn=>of_decide_eq_true (List.all_eq_true.1 hsz n (DataW.weights_mem_each (j:=0) (t:=31) (d:=d0) rfl rfl n hn))
 obtain ⟨x0,w0,hb0⟩:∃ x,ActV W v0 x∧x.Req.Pieces.length+x.Cap.length≤Rows.uptoBulk d0:=open_act_bulk (hval 0 31 v0 rfl rfl) h0 z0
 obtain ⟨s1,rfl,rfl,rfl,w1⟩:=open_string Tryz.underlying9 (hval 1 9 v1 rfl rfl) h1
 have hk2:Rows.uptoBulkAll ([d0,.lit (.string _)]++[])≤1048576:=of_decide_eq_true hk
 simp only [List.append_nil,Rows.uptoBulkAll] at hk2
 clear hA0 hval0
 refine (logReplays_any W v0 x0 (s1) w0 (by omega)).mono fun e W' ⟨he,bel⟩=>?_
 subst he
 exact ⟨_,rfl,_,_,_,[],_,[],hW',trodAll_mk1 (shut_bool Tryz.underlying4 _),(trodAll_cons_mk (Below.trod laidOut (by kernel_rfl) (of_decide_eq_true (by kernel_rfl)) k0 bel lt0) (trodAll_cons_mk (shut_string Tryz.underlying9 w1) trodAll_mk0)),rfl,bel.frame _,fun h=>by cases h⟩
theorem lifted (os:Os) (started:os.Started) (H:Type) (enc:TypeId × Value→H) (F:Stop.Interp) :
  ReturnsInHanded {} Tryz.checked os 5 .any ((Rows.OpenSpec.upto Rows.logReplaysSpec).pre6 enc Tryz.prog Tryz.f5 Rows.logReplaysUptoRow.domain false) (((Rows.OpenSpec.upto Rows.logReplaysSpec).at F).post enc Tryz.prog Tryz.f5 false true false false):=by
 refine returnsInHanded_of_cond_sized (C:=Tryz.checked) (s:=Rows.OpenSpec.upto Rows.logReplaysSpec) (k:=Rows.uptoSmall) rfl own started (by kernel_rfl) Tryz.func5
  (OpenSpec.witness (enc:=enc) (C:=Tryz.checked) (s:=Rows.OpenSpec.upto Rows.logReplaysSpec) (k:=Rows.uptoSmall) rfl false ⟨#[],#[.agg #[.int .i64 0,.int .i64 0,.int .i64 0,.int .i64 0,.int .i64 0,.int .i64 0,.slice none 0 0,.slice none 0 0],.string ByteArray.empty],[]⟩ 8 (by kernel_rfl) (by kernel_rfl) (by kernel_rfl)
   (x:=([.agg [.lit (.int .i64 0),.lit (.int .i64 0),.agg [.lit (.int .i64 0),.lit (.int .i64 0),.lit (.int .i64 0),.lit (.int .i64 0),.nil],.nil],.lit (.string [])],[],[])) (by kernel_rfl) rfl (by kernel_rfl)) ?_
 intro W base args ds gs before hval hW _ hk hsz _
 exact contract H enc W base args ds gs before hval hW hk hsz
theorem over:Rows.logReplaysUptoRow.holds Tryz.pinned (Rows.OpenSpec.upto Rows.logReplaysSpec) :=
 OpenClaim.holds_of_cond 5 Tryz.f5 rfl rfl rfl rfl rfl rfl rfl ⟨rfl,rfl,rfl,rfl,rfl⟩ rfl rfl rfl rfl rfl (by kernel_rfl) Tryz.func5 (by kernel_rfl)
  (of_decide_eq_true (by kernel_rfl)) (by unfold Func.isWrapper;first | (rw [if_pos (by decide +kernel)];kernel_rfl) | (rw [if_neg (by decide +kernel)];exact ⟨rfl,rfl⟩))
  (fun os started H enc _ F=>lifted os started H enc F)
theorem proved:Rows.LogReplaysUptoSaid:=over
#print axioms proved
end Go.Proofs.YtdcndkojmflhnaaGreat.logReplaysUptoDone
