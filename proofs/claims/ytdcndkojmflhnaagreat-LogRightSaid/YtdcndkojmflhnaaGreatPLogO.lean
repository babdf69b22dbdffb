import Derived.Test.YtdcndkojmflhnaaGreatPLogN
/- LogRight. -/
set_option linter.unusedVariables false
set_option linter.unusedSimpArgs false
set_option maxRecDepth 100000
set_option maxHeartbeats 8000000
set_option linter.unusedSimpArgs false
set_option linter.unusedVariables false
namespace Go.Proofs.YtdcndkojmflhnaaGreat
open Go.RowKit
open List renaming getElem_toArray→zA,getElem_cons_zero→zB,getElem_cons_succ→zC,setIfInBounds_toArray→zD,set_cons_zero→zE,set_cons_succ→zF
theorem logRight_any (w:World) (sv:Value) (s:State) (av:Value) (x:Act1) (n:Int) (hs:StateV w sv s) (ha:ActV w av x) (hn:I64 n) :
  Calls Tryz.prog 9 #[sv,av,.int .i64 n] w fun e w'=>e=.returned (.bool true)∧Ext w w':=by
 obtain ⟨cs,rfl,tv,bv,rfl,ht,hb,_⟩:=hs
 obtain ⟨ds,rfl,pv,cv,rfl,hp,hc,hI,hK,hN⟩:=ha
 obtain ⟨⟨X,er⟩,hd⟩:∃ q,doR s x=q:=⟨_,rfl⟩
 have CA:=hid (fun (W:World) (h:Ext w W)=>Do_is hd (ht.mono h) (hb.mono h) (hp.mono h) (hc.mono h) hI hN)
 have BG:=hid (fun (W:World)=>logBegun_true W)
 have HT:=hid (fun (W:World) (h:Ext w W)=>And.intro (ht.mono h) (And.intro (hb.mono h) (hp.mono h)))
 have HC:=hid (fun (W:World) (h:Ext w W)=>hc.mono h)
 have HI:=hid hI
 have HN:=hid (And.intro hn hN)
 obtain ⟨qa,qc,rfl,_,_,_⟩:=ht.form
 obtain ⟨ba,bc,rfl,_,_,_⟩:=hb.form
 obtain ⟨pa,pc,rfl,_,_,_⟩:=hp.form
 obtain ⟨ca,cc,rfl,_,_,_⟩:=hc.form
 clear ht hb hp hc hI hN hn
 generalize s.Tree.length=sn at *
 generalize s.Books.length=sz at *
 generalize x.Req.Pieces.length=pn at *
 generalize x.Cap.length=cn at *
 obtain ⟨W0,hW0,hx0,hbs,hba,hs0⟩:=sa_boxes w (.int .i64 s.Clock) (.int .i64 s.Next) (.slice qa sn qc) (.slice ba sz bc) (.int .i64 x.Kind) (.int .i64 x.N) (.int .i64 x.Req.Queue) (.int .i64 x.Req.From) (.int .i64 x.Req.Until) (.int .i64 x.Req.Kind) (.slice pa pn pc) (.slice ca cn cc)
 have X0:=hid hx0
 have HBS:=hid hbs
 have HBA:=hid hba
 have HS0:=hid hs0
 obtain ⟨n0,n1,n2,n3⟩:=stateRow hbs
 obtain ⟨k0,k1,k2,k3,k4,k5,k6,k7⟩:=actRow hba
 clear hx0 hbs hba hs0
 have HD:=hid hd
 clear hd
 go_enter Tryz.func9,Tryz.ntmps9
 go_wp2_with fail
 clear n0 n1 n2 n3 k0 k1 k2 k3 k4 k5 k6 k7
 refine (CA.out _ X0.out).mono ?_
 rintro e wa ⟨u,v,rfl,hu,hv,hx⟩
 obtain ⟨ua,uc,rfl,_,_,_⟩:=hu.form
 obtain ⟨va,vc,rfl,_,_,_⟩:=hv.form
 have hal:=(Ext.rf wa).al (.cells #[.int .i64 X.Clock,.int .i64 X.Next,.slice ua X.Tree.length uc,.slice va X.Books.length vc] 25)
 have HBa:=hid (recov_box (wa:=wa) (S:=X) (ua:=ua) (va:=va) (ca:=uc) (da:=vc))
 have HUa:=hid hu
 have HVa:=hid hv
 have Aa:=hid hal
 have Ga:=hid (hx.tr hal)
 have Ha:=hid hx
 obtain ⟨n0,n1,n2,n3⟩:=stateRow (blk_ext HBS.out hx)
 obtain ⟨k0,k1,k2,k3,k4,k5,k6,k7⟩:=actRow (blk_ext HBA.out hx)
 have hl0:w.heap.size < wa.heap.size:=World.block_lt_of_cell? _ _ n0
 have hl1:w.heap.size+1 < wa.heap.size:=World.block_lt_of_cell? _ _ k0
 have hl2:w.heap.size < wa.heap.size+1:=by omega
 have hl3:w.heap.size < wa.heap.size+1+1:=by omega
 clear hu hv hx hal
 by_cases h0:er=0
 ·subst h0
  have hne0:((0:Int) != 0)=false:=by simp
  obtain ⟨gX,_,gk⟩:=doR_right HD.out
  rcases gk with hk | hk | hk | hk
  ·have I0:I64 (0:Int):=i64_small' (by decide) (by decide)
   have hy:doR s ⟨1,n,x.Req,[⟨n,0⟩]⟩=(X,0):=by
    have h1:=HD.out
    rw [doR_1 hk] at h1
    rw [doR_1 rfl]
    exact h1
   rw [hk] at k0
   go_wp2_with fail
   have Kb:=hid (((Ext.rf (wa.alloc (.cells #[.int .i64 X.Clock,.int .i64 X.Next,.slice ua X.Tree.length uc,.slice va X.Books.length vc] 25))).al (.cells #[.int .i64 1,.int .i64 n,.int .i64 x.Req.Queue,.int .i64 x.Req.From,.int .i64 x.Req.Until,.int .i64 x.Req.Kind,.slice pa pn pc,.slice (some ⟨wa.heap.size+1+1,0,none⟩) 1 1] 31)).al (.cells #[.int .i64 n,.int .i64 0] 48))
   clear n0 n1 n2 n3 k0 k1 k2 k3 k4 k5 k6 k7 hl0 hl1 hl2 hl3
   refine (Do_is (s:=s) (x:=⟨1,n,x.Req,[⟨n,0⟩]⟩) hy (HT.out _ (X0.out.tr (Ga.out.tr Kb.out))).1 (HT.out _ (X0.out.tr (Ga.out.tr Kb.out))).2.1 (HT.out _ (X0.out.tr (Ga.out.tr Kb.out))).2.2 (runs_lit (w:=((wa.alloc (.cells #[.int .i64 X.Clock,.int .i64 X.Next,.slice ua X.Tree.length uc,.slice va X.Books.length vc] 25)).alloc (.cells #[.int .i64 1,.int .i64 n,.int .i64 x.Req.Queue,.int .i64 x.Req.From,.int .i64 x.Req.Until,.int .i64 x.Req.Kind,.slice pa pn pc,.slice (some ⟨wa.heap.size+1+1,0,none⟩) 1 1] 31))) [⟨n,0⟩] (by simp) rfl rfl (by simp) (fun r hr=>by rw [List.mem_singleton.1 hr];exact ⟨HN.out.1,I0⟩)) HI.out HN.out.1).mono ?_
   rintro e wd ⟨u,v,rfl,hu,hv,hx⟩
   obtain ⟨ud,ucd,rfl,_,_,_⟩:=hu.form
   obtain ⟨vd,vcd,rfl,_,_,_⟩:=hv.form
   have hal:=(Ext.rf wd).al (.cells #[.int .i64 X.Clock,.int .i64 X.Next,.slice ud X.Tree.length ucd,.slice vd X.Books.length vcd] 25)
   have HBd:=hid (recov_box (wa:=wd) (S:=X) (ua:=ud) (va:=vd) (ca:=ucd) (da:=vcd))
   have HUd:=hid hu
   have HVd:=hid hv
   have Ad:=hid hal
   have Kd:=hid (Kb.out.tr (hx.tr hal))
   clear hu hv hx hal Kb
   go_wp2_with fail
   refine (BG.out _).mono ?_
   rintro e we ⟨rfl,hx⟩
   have Ke:=hid hx
   clear hx
   obtain ⟨a0,a1,a2,a3⟩:=HBa.out we (Kd.out.tr Ke.out)
   have PC:=hid (planCheck_is gX (HUa.out.mono (Aa.out.tr (Kd.out.tr Ke.out))) (HVa.out.mono (Aa.out.tr (Kd.out.tr Ke.out))))
   go_wp2_with fail
   clear a0 a1 a2 a3
   refine PC.out.mono ?_
   rintro e wf ⟨rfl,hx⟩
   have Kf:=hid (Ke.out.tr hx)
   clear hx
   obtain ⟨a0,a1,a2,a3⟩:=HBa.out wf (Kd.out.tr Kf.out)
   obtain ⟨b0,b1,b2,b3⟩:=HBd.out wf Kf.out
   have SS:=hid (sameStates_yes wf X.Clock X.Next (.slice ua X.Tree.length uc) (.slice va X.Books.length vc) (.slice ud X.Tree.length ucd) (.slice vd X.Books.length vcd) X.Tree X.Books (HUa.out.mono (Aa.out.tr (Kd.out.tr Kf.out))) (HVa.out.mono (Aa.out.tr (Kd.out.tr Kf.out))) (HUd.out.mono (Ad.out.tr Kf.out)) (HVd.out.mono (Ad.out.tr Kf.out)))
   go_wp2_with fail
   refine SS.out.mono ?_
   rintro e wg ⟨rfl,hx⟩
   go_wp2_with fail
   go_ret
   exact ⟨rfl,(X0.out.tr Ga.out).tr ((Kd.out.tr Kf.out).tr hx)⟩
  ·have I0:I64 (0:Int):=i64_small' (by decide) (by decide)
   have hy:doR s ⟨2,x.N,⟨n,0,0,0,[]⟩,[⟨n,0⟩]⟩=(X,0):=by
    have h1:=HD.out
    rw [doR_2 hk] at h1
    rw [doR_2 rfl]
    exact h1
   rw [hk] at k0
   go_wp2_with fail
   have Kb:=hid (((Ext.rf (wa.alloc (.cells #[.int .i64 X.Clock,.int .i64 X.Next,.slice ua X.Tree.length uc,.slice va X.Books.length vc] 25))).al (.cells #[.int .i64 2,.int .i64 x.N,.int .i64 n,.int .i64 0,.int .i64 0,.int .i64 0,.slice none 0 0,.slice (some ⟨wa.heap.size+1+1,0,none⟩) 1 1] 31)).al (.cells #[.int .i64 n,.int .i64 0] 48))
   clear n0 n1 n2 n3 k0 k1 k2 k3 k4 k5 k6 k7 hl0 hl1 hl2 hl3
   refine (Do_is (s:=s) (x:=⟨2,x.N,⟨n,0,0,0,[]⟩,[⟨n,0⟩]⟩) hy (HT.out _ (X0.out.tr (Ga.out.tr Kb.out))).1 (HT.out _ (X0.out.tr (Ga.out.tr Kb.out))).2.1 SV.nil (runs_lit (w:=((wa.alloc (.cells #[.int .i64 X.Clock,.int .i64 X.Next,.slice ua X.Tree.length uc,.slice va X.Books.length vc] 25)).alloc (.cells #[.int .i64 2,.int .i64 x.N,.int .i64 n,.int .i64 0,.int .i64 0,.int .i64 0,.slice none 0 0,.slice (some ⟨wa.heap.size+1+1,0,none⟩) 1 1] 31))) [⟨n,0⟩] (by simp) rfl rfl (by simp) (fun r hr=>by rw [List.mem_singleton.1 hr];exact ⟨HN.out.1,I0⟩)) ⟨HN.out.1,I0,I0,I0⟩ HN.out.2).mono ?_
   rintro e wd ⟨u,v,rfl,hu,hv,hx⟩
   obtain ⟨ud,ucd,rfl,_,_,_⟩:=hu.form
   obtain ⟨vd,vcd,rfl,_,_,_⟩:=hv.form
   have hal:=(Ext.rf wd).al (.cells #[.int .i64 X.Clock,.int .i64 X.Next,.slice ud X.Tree.length ucd,.slice vd X.Books.length vcd] 25)
   have HBd:=hid (recov_box (wa:=wd) (S:=X) (ua:=ud) (va:=vd) (ca:=ucd) (da:=vcd))
   have HUd:=hid hu
   have HVd:=hid hv
   have Ad:=hid hal
   have Kd:=hid (Kb.out.tr (hx.tr hal))
   clear hu hv hx hal Kb
   go_wp2_with fail
   refine (BG.out _).mono ?_
   rintro e we ⟨rfl,hx⟩
   have Ke:=hid hx
   clear hx
   obtain ⟨a0,a1,a2,a3⟩:=HBa.out we (Kd.out.tr Ke.out)
   have PC:=hid (planCheck_is gX (HUa.out.mono (Aa.out.tr (Kd.out.tr Ke.out))) (HVa.out.mono (Aa.out.tr (Kd.out.tr Ke.out))))
   go_wp2_with fail
   clear a0 a1 a2 a3
   refine PC.out.mono ?_
   rintro e wf ⟨rfl,hx⟩
   have Kf:=hid (Ke.out.tr hx)
   clear hx
   obtain ⟨a0,a1,a2,a3⟩:=HBa.out wf (Kd.out.tr Kf.out)
   obtain ⟨b0,b1,b2,b3⟩:=HBd.out wf Kf.out
   have SS:=hid (sameStates_yes wf X.Clock X.Next (.slice ua X.Tree.length uc) (.slice va X.Books.length vc) (.slice ud X.Tree.length ucd) (.slice vd X.Books.length vcd) X.Tree X.Books (HUa.out.mono (Aa.out.tr (Kd.out.tr Kf.out))) (HVa.out.mono (Aa.out.tr (Kd.out.tr Kf.out))) (HUd.out.mono (Ad.out.tr Kf.out)) (HVd.out.mono (Ad.out.tr Kf.out)))
   go_wp2_with fail
   refine SS.out.mono ?_
   rintro e wg ⟨rfl,hx⟩
   go_wp2_with fail
   go_ret
   exact ⟨rfl,(X0.out.tr Ga.out).tr ((Kd.out.tr Kf.out).tr hx)⟩
  ·have I0:I64 (0:Int):=i64_small' (by decide) (by decide)
   have hy:doR s ⟨3,x.N,⟨n,0,0,0,[]⟩,[⟨n,0⟩]⟩=(X,0):=by
    have h1:=HD.out
    rw [doR_3 hk] at h1
    rw [doR_3 rfl]
    exact h1
   rw [hk] at k0
   go_wp2_with fail
   have Kb:=hid (((Ext.rf (wa.alloc (.cells #[.int .i64 X.Clock,.int .i64 X.Next,.slice ua X.Tree.length uc,.slice va X.Books.length vc] 25))).al (.cells #[.int .i64 3,.int .i64 x.N,.int .i64 n,.int .i64 0,.int .i64 0,.int .i64 0,.slice none 0 0,.slice (some ⟨wa.heap.size+1+1,0,none⟩) 1 1] 31)).al (.cells #[.int .i64 n,.int .i64 0] 48))
   clear n0 n1 n2 n3 k0 k1 k2 k3 k4 k5 k6 k7 hl0 hl1 hl2 hl3
   refine (Do_is (s:=s) (x:=⟨3,x.N,⟨n,0,0,0,[]⟩,[⟨n,0⟩]⟩) hy (HT.out _ (X0.out.tr (Ga.out.tr Kb.out))).1 (HT.out _ (X0.out.tr (Ga.out.tr Kb.out))).2.1 SV.nil (runs_lit (w:=((wa.alloc (.cells #[.int .i64 X.Clock,.int .i64 X.Next,.slice ua X.Tree.length uc,.slice va X.Books.length vc] 25)).alloc (.cells #[.int .i64 3,.int .i64 x.N,.int .i64 n,.int .i64 0,.int .i64 0,.int .i64 0,.slice none 0 0,.slice (some ⟨wa.heap.size+1+1,0,none⟩) 1 1] 31))) [⟨n,0⟩] (by simp) rfl rfl (by simp) (fun r hr=>by rw [List.mem_singleton.1 hr];exact ⟨HN.out.1,I0⟩)) ⟨HN.out.1,I0,I0,I0⟩ HN.out.2).mono ?_
   rintro e wd ⟨u,v,rfl,hu,hv,hx⟩
   obtain ⟨ud,ucd,rfl,_,_,_⟩:=hu.form
   obtain ⟨vd,vcd,rfl,_,_,_⟩:=hv.form
   have hal:=(Ext.rf wd).al (.cells #[.int .i64 X.Clock,.int .i64 X.Next,.slice ud X.Tree.length ucd,.slice vd X.Books.length vcd] 25)
   have HBd:=hid (recov_box (wa:=wd) (S:=X) (ua:=ud) (va:=vd) (ca:=ucd) (da:=vcd))
   have HUd:=hid hu
   have HVd:=hid hv
   have Ad:=hid hal
   have Kd:=hid (Kb.out.tr (hx.tr hal))
   clear hu hv hx hal Kb
   go_wp2_with fail
   refine (BG.out _).mono ?_
   rintro e we ⟨rfl,hx⟩
   have Ke:=hid hx
   clear hx
   obtain ⟨a0,a1,a2,a3⟩:=HBa.out we (Kd.out.tr Ke.out)
   have PC:=hid (planCheck_is gX (HUa.out.mono (Aa.out.tr (Kd.out.tr Ke.out))) (HVa.out.mono (Aa.out.tr (Kd.out.tr Ke.out))))
   go_wp2_with fail
   clear a0 a1 a2 a3
   refine PC.out.mono ?_
   rintro e wf ⟨rfl,hx⟩
   have Kf:=hid (Ke.out.tr hx)
   clear hx
   obtain ⟨a0,a1,a2,a3⟩:=HBa.out wf (Kd.out.tr Kf.out)
   obtain ⟨b0,b1,b2,b3⟩:=HBd.out wf Kf.out
   have SS:=hid (sameStates_yes wf X.Clock X.Next (.slice ua X.Tree.length uc) (.slice va X.Books.length vc) (.slice ud X.Tree.length ucd) (.slice vd X.Books.length vcd) X.Tree X.Books (HUa.out.mono (Aa.out.tr (Kd.out.tr Kf.out))) (HVa.out.mono (Aa.out.tr (Kd.out.tr Kf.out))) (HUd.out.mono (Ad.out.tr Kf.out)) (HVd.out.mono (Ad.out.tr Kf.out)))
   go_wp2_with fail
   refine SS.out.mono ?_
   rintro e wg ⟨rfl,hx⟩
   go_wp2_with fail
   go_ret
   exact ⟨rfl,(X0.out.tr Ga.out).tr ((Kd.out.tr Kf.out).tr hx)⟩
  ·have I0:I64 (0:Int):=i64_small' (by decide) (by decide)
   have hy:doR s ⟨4,x.N,⟨n,0,0,0,[]⟩,x.Cap⟩=(X,0):=by
    have h1:=HD.out
    rw [doR_4 hk] at h1
    rw [doR_4 rfl]
    exact h1
   rw [hk] at k0
   go_wp2_with fail
   have Kb:=hid ((Ext.rf (wa.alloc (.cells #[.int .i64 X.Clock,.int .i64 X.Next,.slice ua X.Tree.length uc,.slice va X.Books.length vc] 25))).al (.cells #[.int .i64 4,.int .i64 x.N,.int .i64 n,.int .i64 0,.int .i64 0,.int .i64 0,.slice none 0 0,.slice ca cn cc] 31))
   clear n0 n1 n2 n3 k0 k1 k2 k3 k4 k5 k6 k7 hl0 hl1 hl2 hl3
   refine (Do_is (s:=s) (x:=⟨4,x.N,⟨n,0,0,0,[]⟩,x.Cap⟩) hy (HT.out _ (X0.out.tr (Ga.out.tr Kb.out))).1 (HT.out _ (X0.out.tr (Ga.out.tr Kb.out))).2.1 SV.nil (HC.out _ (X0.out.tr (Ga.out.tr Kb.out))) ⟨HN.out.1,I0,I0,I0⟩ HN.out.2).mono ?_
   rintro e wd ⟨u,v,rfl,hu,hv,hx⟩
   obtain ⟨ud,ucd,rfl,_,_,_⟩:=hu.form
   obtain ⟨vd,vcd,rfl,_,_,_⟩:=hv.form
   have hal:=(Ext.rf wd).al (.cells #[.int .i64 X.Clock,.int .i64 X.Next,.slice ud X.Tree.length ucd,.slice vd X.Books.length vcd] 25)
   have HBd:=hid (recov_box (wa:=wd) (S:=X) (ua:=ud) (va:=vd) (ca:=ucd) (da:=vcd))
   have HUd:=hid hu
   have HVd:=hid hv
   have Ad:=hid hal
   have Kd:=hid (Kb.out.tr (hx.tr hal))
   clear hu hv hx hal Kb
   go_wp2_with fail
   refine (BG.out _).mono ?_
   rintro e we ⟨rfl,hx⟩
   have Ke:=hid hx
   clear hx
   obtain ⟨a0,a1,a2,a3⟩:=HBa.out we (Kd.out.tr Ke.out)
   have PC:=hid (planCheck_is gX (HUa.out.mono (Aa.out.tr (Kd.out.tr Ke.out))) (HVa.out.mono (Aa.out.tr (Kd.out.tr Ke.out))))
   go_wp2_with fail
   clear a0 a1 a2 a3
   refine PC.out.mono ?_
   rintro e wf ⟨rfl,hx⟩
   have Kf:=hid (Ke.out.tr hx)
   clear hx
   obtain ⟨a0,a1,a2,a3⟩:=HBa.out wf (Kd.out.tr Kf.out)
   obtain ⟨b0,b1,b2,b3⟩:=HBd.out wf Kf.out
   have SS:=hid (sameStates_yes wf X.Clock X.Next (.slice ua X.Tree.length uc) (.slice va X.Books.length vc) (.slice ud X.Tree.length ucd) (.slice vd X.Books.length vcd) X.Tree X.Books (HUa.out.mono (Aa.out.tr (Kd.out.tr Kf.out))) (HVa.out.mono (Aa.out.tr (Kd.out.tr Kf.out))) (HUd.out.mono (Ad.out.tr Kf.out)) (HVd.out.mono (Ad.out.tr Kf.out)))
   go_wp2_with fail
   refine SS.out.mono ?_
   rintro e wg ⟨rfl,hx⟩
   go_wp2_with fail
   go_ret
   exact ⟨rfl,(X0.out.tr Ga.out).tr ((Kd.out.tr Kf.out).tr hx)⟩
 ·have hne:=neT h0
  go_wp2_with fail
  refine (BG.out _).mono ?_
  rintro e we ⟨rfl,hx⟩
  go_wp2_with fail
  go_ret
  exact ⟨rfl,(X0.out.tr Ga.out).tr hx⟩
end Go.Proofs.YtdcndkojmflhnaaGreat
