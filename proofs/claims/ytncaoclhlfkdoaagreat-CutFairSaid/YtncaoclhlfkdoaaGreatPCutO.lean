/- CutNone. -/
import Derived.Test.YtncaoclhlfkdoaaGreatPCutN
set_option linter.unusedVariables false
set_option linter.unusedSimpArgs false
set_option maxRecDepth 100000
set_option maxHeartbeats 8000000
set_option linter.unusedSimpArgs false
set_option linter.unusedVariables false
namespace Go.Proofs.YtncaoclhlfkdoaaGreat
open Go.RowKit
open List renaming getElem_toArray→zA,getElem_cons_zero→zB,getElem_cons_succ→zC,setIfInBounds_toArray→zD,set_cons_zero→zE,set_cons_succ→zF
theorem books_set {s:State} {k:Nat} {f:List Run} (h:stateE s=0) (hf:CapOk f):booksE (setCap s.Tree k f) s.Books=0:=by
 obtain ⟨h1,_⟩:=formE_zero (stateE_zero h).1
 obtain ⟨_,h0,h12,hbok⟩:=booksE_zero h1
 have hc:=checkT_set (q:=k) h0 hf
 rw [booksE_first hc (by omega)]
 refine firstE_all.2 fun x hx=>?_
 have hb:=bookOk_set (q:=k) (f:=f).2 (hbok x hx)
 exact ⟨reqE_ok hc hb.req ⟨hb.q0,hb.q1⟩,hb.meets⟩
theorem fits_told {s:State} {k:Nat} {f:List Run} (h:stateE s=0) (hf:CapOk f):∃ b:Bool,fitsR (setCap s.Tree k f) s.Books s.Clock=(b,0)∧(b=true↔FitsT (setCap s.Tree k f) s.Books s.Clock.toNat):=by
 obtain ⟨_,h2,_,_⟩:=formE_zero (stateE_zero h).1
 refine ⟨_,fitsR_ok (books_set h hf) ⟨h2.1,h2.2.1⟩,?_⟩
 by_cases hn:FitsT (setCap s.Tree k f) s.Books s.Clock.toNat
 ·rw [too_no hn];exact ⟨fun _=>hn,fun _=>rfl⟩
 ·rw [too_yes hn];exact ⟨fun h=>(by cases h),fun h=>absurd h hn⟩
theorem cap_sp {f:List Run} (h:CapOk f) (t:Nat):0≤sp f t∧sp f t≤50:=by
 obtain ⟨r,hr,e⟩:=sp_mem f t (capOk_ne h)
 rw [e]
 exact h.2 r hr
theorem less_told {s:State} {k:Nat} {f:List Run} (h:stateE s=0) (hk:k < s.Tree.length) (hf:CapOk f):∃ l,bothR (cp s.Tree k) f (fun a b=>min a b)=(l,0)∧(l=cp s.Tree k→FitsT (setCap s.Tree k f) s.Books s.Clock.toNat):=by
 obtain ⟨h1,_⟩:=formE_zero (stateE_zero h).1
 obtain ⟨ok,_,_,_⟩:=booksE_zero h1
 have hc:=ok.caps k hk
 have hn:∀ t,t < 48→NumOk (min (sp (cp s.Tree k) t) (sp f t)):=fun t _=>by
  have h3:=cap_sp hc t
  have h4:=cap_sp hf t
  unfold NumOk
  omega
 refine ⟨_,(bothR_yes hc.1 hf.1).trans (toldT_yes hn),fun e=>cut_more h fun t ht=>?_⟩
 have h3:sp (fold fun t=>min (sp (cp s.Tree k) t) (sp f t)) t=min (sp (cp s.Tree k) t) (sp f t):=sp_fold ht
 rw [e] at h3
 omega
theorem cutNone_any (w:World) (sv:Value) (s:State) (q:Int) (rv:Value) (f:List Run) (hs:StateV w sv s) (hr:RunsV w rv f) (hq:I64 q) :
  Calls Tryz.prog 5 #[sv,.int .i64 q,rv] w fun e w'=>e=.returned (.bool true)∧Ext w w':=by
 obtain ⟨cs,rfl,tv,bv,rfl,ht,hb,_⟩:=hs
 obtain ⟨⟨⟨sc,sx,T,B⟩,m,d,er⟩,hsr⟩:∃ x,changeR s q f=x:=⟨_,rfl⟩
 have CA:=hid (fun (W:World) (h:Ext w W)=>Change_is hsr (ht.mono h) (hb.mono h) (hr.mono h) hq)
 have BG:=hid (fun (W:World)=>cutBegun_true W)
 have X0:=hid ((Ext.rf w).al (.cells #[.int .i64 s.Clock,.int .i64 s.Next,tv,bv] 25))
 have HS0:=hid (fun (V:World) (h:Ext (w.alloc (.cells #[.int .i64 s.Clock,.int .i64 s.Next,tv,bv] 25)) V)=>newState h)
 by_cases h0:er=0
 ·subst h0
  obtain ⟨g1,g2,g3,k,rfl,hk,gS,gm,gd⟩:=change_right hsr
  obtain ⟨g4,g5,_,_⟩:=cut_told hsr
  have g4':stateE (⟨sc,sx,T,B⟩:State)=0:=g1
  have e1:sc=s.Clock:=congrArg State.Clock gS
  have e2:sx=s.Next:=congrArg State.Next gS
  have e3:B=(endB s k f).1:=congrArg State.Books gS
  subst e1
  subst e2
  obtain ⟨ok,h12,hbok⟩:=right_of g2
  have OW:=hid (fun (W:World) (h:Ext w W)=>OwnState_any W tv bv s (ht.mono h) (hb.mono h) ok h12 hbok)
  obtain ⟨ft,hft,hfit⟩:=fits_told (k:=k) g2 g3
  obtain ⟨lm,hlm,hless⟩:=less_told g2 hk g3
  obtain ⟨ql,hqx⟩:=getA (f:=s.Tree) (k:=k) hk
  obtain ⟨_,_,hcpk⟩:=at_some hqx
  obtain ⟨qa,qc,rfl,_,_,_,hqE⟩:=sv_at ht
  obtain ⟨qb,qo,rfl,hqb,hqe⟩:=hqE (by omega)
  obtain ⟨_,_,_,_,cvk,hck,hcv⟩:=hqe k ql hqx
  have HCK:=hid (fun (W:World) (h:Ext w W)=>h.ce' hck)
  have hcv':RunsV w cvk (cp s.Tree k):=by rw [hcpk];exact hcv
  have FT:=hid (fun (W:World) (a b:Value) (h1:QueuesV W a (setCap s.Tree k f)) (h2:BooksV W b s.Books)=>Fits_is hft h1 h2)
  have LS:=hid (fun (W:World) (h:Ext w W)=>show Calls Tryz.prog 27 #[cvk,rv] W (fun e w'=>∃ v,e=.returned (.tuple #[v,.int .i64 0])∧RunsV w' v lm∧Ext W w') from by
   have:=Lesser_any W cvk rv _ f (hcv'.mono h) (hr.mono h)
   rw [hlm] at this
   exact this)
  have SR:=hid (fun (W:World) (h:Ext w W) (v:Value) (hv:RunsV W v lm)=>SameRuns_any W v cvk lm (cp s.Tree k) hv (hcv'.mono h))
  have HSC:=hid (fun (w':World) (g qq:Nat) (v:Value) (W:World) (h:OwnS [] W.heap.size w' (.slice (some ⟨g,0,none⟩) s.Tree.length qq) v s.Tree s.Books) (hx:Ext w W) (hx2:Ext W w') (hxx:W.heap.size≤g) (hvv:∀ r,v.ownBlock=some r→W.heap.size≤r) =>
   (h.low (ex2:=[]) (B2:=0) (Nat.zero_le _) (fun r hr=>hr)).setC (k:=k) hk (hr.mono (hx.tr hx2)) (capOk_ne g3) (fun a n c e hm=>by
    have h1:a.block < w.heap.size:=sv2_low hr (capOk_ne g3) a n c e
    have h2:=hx.size
    simp only [List.mem_cons,List.mem_append,List.not_mem_nil,or_false,Option.mem_toList,List.range_zero,List.append_nil] at hm
    rcases hm with hm | hm
    ·omega
    ·have:=hvv _ hm;omega))
  have HQC:=hid (fun (w':World) (g qq:Nat) (v:Value) (W:World) (h:OwnS [] W.heap.size w' (.slice (some ⟨g,0,none⟩) s.Tree.length qq) v s.Tree s.Books)=>h.qcell hk)
  have HNE:=hid (fun (h:FitsT (setCap s.Tree k f) s.Books s.Clock.toNat)=>cut_none h)
  have HFIT:=hid hfit
  have HLESS:=hid hless
  have HK:=hid hk
  have HBV:=hid hb
  have HGM:=hid (And.intro gm (And.intro gd e3))
  have q1:¬ (k:Int) < 0:=by omega
  have q2:¬ ((s.Tree.length:Nat):Int)≤(k:Int):=by omega
  have q3:=deF q1
  have q4:=deF q2
  have q5:=deF (show ¬ s.Tree.length≤k by omega)
  obtain ⟨ba,bc,rfl,_,_,_⟩:=hb.form
  obtain ⟨ra,rc,rfl,_,_,_⟩:=hr.form
  clear hsr ht hb hr g1 g2 g3 g4 g5 g4' gS gm gd e3 ok h12 hbok hft hlm hless hfit hqx hcpk hqE hqb hqe hck hcv hcv'
  generalize f.length=fz at *
  go_enter Tryz.func5,Tryz.ntmps5
  go_wp2_with fail
  refine (CA.out _ X0.out).mono ?_
  rintro e wa ⟨u,v,mv,dv,rfl,hu,hv,hm,hd,hx⟩
  obtain ⟨ua,ca,rfl,_,_,_⟩:=hu.form
  obtain ⟨va,da,rfl,_,_,_⟩:=hv.form
  obtain ⟨ma,mc,rfl,_,_,_⟩:=hm.form
  obtain ⟨na,nc,rfl,_,_,_⟩:=hd.form
  have hal:=(Ext.rf wa).al (.cells #[.int .i64 s.Clock,.int .i64 s.Next,.slice ua T.length ca,.slice va B.length da] 25)
  have HBa:=hid (fun (V:World) (h:Ext (wa.alloc (.cells #[.int .i64 s.Clock,.int .i64 s.Next,.slice ua T.length ca,.slice va B.length da] 25)) V)=>newState h)
  have HVa:=hid hv
  have Aa:=hid hal
  have Ga:=hid (hx.tr hal)
  have Xa:=hid (X0.out.tr Ga.out)
  obtain ⟨b0,b1,b2,b3⟩:=HS0.out _ Ga.out
  clear hu hv hm hd hx hal
  go_wp2_with fail
  clear b0 b1 b2 b3
  refine (OW.out _ Xa.out).mono ?_
  rintro e wb ⟨u7,v7,rfl,hO,hx⟩
  obtain ⟨gq,qc2,rfl,hgB,hgs⟩:=hO.uform
  obtain ⟨oa,oc,rfl,how⟩:=hO.vform
  generalize hVa:wa.alloc (.cells #[.int .i64 s.Clock,.int .i64 s.Next,.slice ua T.length ca,.slice va B.length da] 25)=Va at *
  have hVs:Ext w Va:=Xa.out
  obtain ⟨⟨old,k0⟩,f0⟩:=HQC.out _ _ _ _ _ hO
  have hst:=HSC.out _ _ _ _ _ hO hVs hx hgB (fun r hr=>(how r hr).1)
  have hal:=(Ext.rf (wb.setCell ⟨gq,k*3+2,none⟩ (.slice ra fz rc))).al (.cells #[.int .i64 s.Clock,.int .i64 s.Next,.slice (some ⟨gq,0,none⟩) s.Tree.length qc2,.slice oa s.Books.length oc] 25)
  have HT:=hid (hst.ext hal)
  have GB:=hid ((hx.se (b:=gq) (o:=k*3+2) hgB (.slice ra fz rc)).al (.cells #[.int .i64 s.Clock,.int .i64 s.Next,.slice (some ⟨gq,0,none⟩) s.Tree.length qc2,.slice oa s.Books.length oc] 25))
  have hgn:¬ gq=wb.heap.size:=by omega
  have hgn2:¬ wb.heap.size=gq:=by omega
  clear hO hx hgB how hst hal
  go_wp2_with fail
  clear k0 f0 hgn hgn2 hgs
  have C:=hid (FT.out _ _ _ HT.out.tree HT.out.books)
  clear HT
  generalize (wb.setCell ⟨gq,k*3+2,none⟩ (.slice ra fz rc)).alloc (.cells #[.int .i64 s.Clock,.int .i64 s.Next,.slice (some ⟨gq,0,none⟩) s.Tree.length qc2,.slice oa s.Books.length oc] 25)=W2 at *
  refine C.out.mono ?_
  rintro e wc ⟨rfl,hx⟩
  have GC:=hid (GB.out.tr hx)
  have XC:=hid (Xa.out.tr GC.out)
  clear C hx
  obtain ⟨b0,b1,b2,b3⟩:=HS0.out wc (Ga.out.tr GC.out)
  have ck:=HCK.out wc XC.out
  go_wp2_with fail
  clear b0 b1 b2 b3 ck
  refine (LS.out _ XC.out).mono ?_
  rintro e wd ⟨lv,rfl,hlv,hx⟩
  obtain ⟨la,lc,rfl,_,_,_⟩:=hlv.form
  have GD:=hid (GC.out.tr hx)
  have XD:=hid (XC.out.tr hx)
  have HLV:=hid hlv
  clear hx hlv
  obtain ⟨b0,b1,b2,b3⟩:=HS0.out wd (Ga.out.tr GD.out)
  have ck:=HCK.out wd XD.out
  go_wp2_with fail
  clear b0 b1 b2 b3 ck
  refine (SR.out _ XD.out _ HLV.out).mono ?_
  rintro e we ⟨rfl,hx⟩
  have GE:=hid (GD.out.tr hx)
  have XE:=hid (XD.out.tr hx)
  have hbb:ft=false→decide (lm=cp s.Tree k)=false:=fun h=>decide_eq_false fun h2=>by
   have:=HFIT.out.2 (HLESS.out h2)
   rw [h] at this
   exact Bool.noConfusion this
  clear hx HLV
  generalize decide (lm=cp s.Tree k)=bb at *
  cases ft with
  | true =>
   have hen:=HNE.out (HFIT.out.1 rfl)
   obtain ⟨gm,gd,gb⟩:=HGM.out
   rw [hen] at gm gd gb
   subst gm
   subst gd
   subst gb
   clear hbb HFIT HLESS HNE HGM hen
   dsimp only [List.length_nil]
   cases bb
   all_goals
    go_wp2_with fail
    refine (BG.out _).mono ?_
    rintro e wf ⟨rfl,hx⟩
    have GF:=hid (GE.out.tr hx)
    have XF:=hid (XE.out.tr hx)
    obtain ⟨a0,a1,a2,a3⟩:=HBa.out wf GF.out
    obtain ⟨b0,b1,b2,b3⟩:=HS0.out wf (Ga.out.tr GF.out)
    clear hx
    go_wp2_with fail
    refine (sameBooks_yes _ _ _ s.Books (HVa.out.mono (Aa.out.tr GF.out)) (HBV.out.mono XF.out)).mono ?_
    rintro e wg ⟨rfl,hx⟩
    clear a0 a1 a2 a3 b0 b1 b2 b3
    go_wp2_with fail
    go_ret
    exact ⟨rfl,XF.out.tr hx⟩
  | false =>
   obtain rfl:bb=false:=hbb rfl
   clear hbb HFIT HLESS HNE HGM
   go_wp2_with fail
   refine (BG.out _).mono ?_
   rintro e wf ⟨rfl,hx⟩
   go_wp2_with fail
   go_ret
   exact ⟨rfl,XE.out.tr hx⟩
 ·have e1:=neT h0
  obtain ⟨qa,qc,rfl,_,_,_⟩:=ht.form
  obtain ⟨ba,bc,rfl,_,_,_⟩:=hb.form
  obtain ⟨ra,rc,rfl,_,_,_⟩:=hr.form
  clear hsr ht hb hr
  generalize s.Tree.length=sn at *
  generalize s.Books.length=sz at *
  generalize f.length=fz at *
  go_enter Tryz.func5,Tryz.ntmps5
  go_wp2_with fail
  refine (CA.out _ X0.out).mono ?_
  rintro e wa ⟨u,v,mv,dv,rfl,hu,hv,hm,hd,hx⟩
  obtain ⟨ua,ca,rfl,_,_,_⟩:=hu.form
  obtain ⟨va,da,rfl,_,_,_⟩:=hv.form
  obtain ⟨ma,mc,rfl,_,_,_⟩:=hm.form
  obtain ⟨na,nc,rfl,_,_,_⟩:=hd.form
  have hal:=(Ext.rf wa).al (.cells #[.int .i64 sc,.int .i64 sx,.slice ua T.length ca,.slice va B.length da] 25)
  have Xa:=hid (X0.out.tr (hx.tr hal))
  clear hu hv hm hd hx hal
  go_wp2_with fail
  refine (BG.out _).mono ?_
  rintro e wz ⟨rfl,hz⟩
  go_wp2_with fail
  go_ret
  exact ⟨rfl,Xa.out.tr hz⟩
end Go.Proofs.YtncaoclhlfkdoaaGreat
