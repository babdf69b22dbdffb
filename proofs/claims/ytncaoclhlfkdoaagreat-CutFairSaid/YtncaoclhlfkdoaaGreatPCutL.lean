/- cutBegun; CutTells. -/
import Derived.Test.YtncaoclhlfkdoaaGreatPCutK
import Derived.Test.YtncaoclhlfkdoaaGreatPCutA
import Derived.Test.YtncaoclhlfkdoaaGreatPBookA
set_option linter.unusedVariables false
set_option maxRecDepth 100000
set_option maxHeartbeats 8000000
set_option linter.unusedSimpArgs false
set_option linter.unusedVariables false
namespace Go.Proofs.YtncaoclhlfkdoaaGreat
open Go.RowKit
open List renaming getElem_toArray→zA,getElem_cons_zero→zB,getElem_cons_succ→zC,setIfInBounds_toArray→zD,set_cons_zero→zE,set_cons_succ→zF
def cutRa:List Run:=[⟨0,3⟩,⟨22,6⟩]
def cutRb:List Run:=[⟨0,9⟩]
def bookOne:Book:=⟨1,plotR 3,[⟨0,8⟩,⟨1,13⟩]⟩
def bookTwo:Book:=⟨4,⟨2,3,48,2,[⟨6,4⟩]⟩,[⟨0,9⟩]⟩
theorem cutRa_ok:CapOk cutRa:=by decide +kernel
theorem cutRb_ok:CapOk cutRb:=by decide +kernel
theorem cutRn:¬ CapOk []:=by decide +kernel
noncomputable def treeCa:List Queue:=setCap (fieldL 10 0 6) 1 cutRa
noncomputable def treeCb:List Queue:=setCap (fieldL 10 0 6) 0 cutRb
theorem overCa:OverIs treeCa farmB 5 13 1:=by
 have h1:leftT treeCa farmB 1 13 < 0:=by decide +kernel
 have h2:∀ s,s < 13→5≤s→∀ p,p < 4→0≤leftT treeCa farmB p s:=by decide +kernel
 have h3:∀ p,p < 1→0≤leftT treeCa farmB p 13:=by decide +kernel
 exact ⟨by decide,by decide,by show (1:Nat) < 4;decide,h1,fun s a b p c=>h2 s b a p c,h3⟩
theorem overCb:OverIs treeCb farmB 5 13 0:=by
 have h1:leftT treeCb farmB 0 13 < 0:=by decide +kernel
 have h2:∀ s,s < 13→5≤s→∀ p,p < 4→0≤leftT treeCb farmB p s:=by decide +kernel
 exact ⟨by decide,by decide,by show (0:Nat) < 4;decide,h1,fun s a b p c=>h2 s b a p c,fun p h=>absurd h (Nat.not_lt_zero p)⟩
theorem over9:OverIs (fieldL 9 0 6) farmB 5 13 0:=by
 have h1:leftT (fieldL 9 0 6) farmB 0 13 < 0:=by decide +kernel
 have h2:∀ s,s < 13→5≤s→∀ p,p < 4→0≤leftT (fieldL 9 0 6) farmB p s:=by decide +kernel
 exact ⟨by decide,by decide,by show (0:Nat) < 4;decide,h1,fun s a b p c=>h2 s b a p c,fun p h=>absurd h (Nat.not_lt_zero p)⟩
theorem fitCa:FitsT treeCa [bookTwo] 5:=by
 have h2:∀ s,s < 48→5≤s→∀ p,p < 4→0≤leftT treeCa [bookTwo] p s:=by decide +kernel
 exact fun s a b p c=>h2 s b a p c
theorem fitCb:FitsT treeCb [bookOne] 5:=by
 have h2:∀ s,s < 48→5≤s→∀ p,p < 4→0≤leftT treeCb [bookOne] p s:=by decide +kernel
 exact fun s a b p c=>h2 s b a p c
theorem vicCa:vicK treeCa farmB 13 1=0:=by decide +kernel
theorem vicCb:vicK treeCb farmB 13 0=1:=by decide +kernel
theorem relCa:relB (farmS 10) 1 cutRa=([bookTwo],[bookOne]):=by
 show relG treeCa 5 farmB.length farmB []=_
 rw [rel_step overCa (show farmB[vicK treeCa farmB 13 1]?=some bookOne by rw [vicCa];rfl),vicCa]
 exact rel_stop (too_no fitCa) _
theorem relCb:relB (farmS 10) 0 cutRb=([bookOne],[bookTwo]):=by
 show relG treeCb 5 farmB.length farmB []=_
 rw [rel_step overCb (show farmB[vicK treeCb farmB 13 0]?=some bookTwo by rw [vicCb];rfl),vicCb]
 exact rel_stop (too_no fitCb) _
theorem roomCa:fold (roomT treeCa [bookTwo] 3)=[⟨0,3⟩,⟨22,6⟩]:=by decide +kernel
theorem roomCb:fold (roomT treeCb [bookOne] 2)=[⟨0,6⟩,⟨13,3⟩,⟨18,6⟩]:=by decide +kernel
theorem placedCa:placedB treeCa 5 [bookTwo] bookOne=[⟨0,5⟩,⟨1,22⟩]:=by
 show placeL (sp (fold (roomT treeCa [bookTwo] 3))) (laterQ (plotR 3) 5)=_
 rw [roomCa,placeL_order rfl];decide +kernel
theorem placedCb:placedB treeCb 5 [bookOne] bookTwo=[⟨0,5⟩]:=by
 show placeL (sp (fold (roomT treeCb [bookOne] 2))) (laterQ ⟨2,3,48,2,[⟨6,4⟩]⟩ 5)=_
 rw [roomCb,placeL_any rfl];decide +kernel
theorem goneCa:goneB treeCa 5 [bookTwo] bookOne=false:=gone_no.2 ⟨by decide,by decide,by rw [placedCa];decide⟩
theorem goneCb:goneB treeCb 5 [bookOne] bookTwo=false:=gone_no.2 ⟨by decide,by decide,by rw [placedCb];decide⟩
def cutBa:List Book:=[⟨1,plotR 3,[⟨0,5⟩,⟨1,22⟩]⟩,bookTwo]
def cutBb:List Book:=[bookOne,⟨4,⟨2,3,48,2,[⟨6,4⟩]⟩,[⟨0,5⟩]⟩]
theorem endCa:endB (farmS 10) 1 cutRa=(cutBa,[1],[]):=by
 unfold endB
 rw [relCa]
 show backsR treeCa 5 [bookOne] [bookTwo] [] []=_
 rw [backs_back goneCa]
 show (backB treeCa 5 [bookTwo] bookOne,[bookOne.Id],([]:List Int))=_
 unfold backB
 rw [placedCa]
 rfl
theorem endCb:endB (farmS 10) 0 cutRb=(cutBb,[4],[]):=by
 unfold endB
 rw [relCb]
 show backsR treeCb 5 [bookTwo] [bookOne] [] []=_
 rw [backs_back goneCb]
 show (backB treeCb 5 [bookOne] bookTwo,[bookTwo.Id],([]:List Int))=_
 unfold backB
 rw [placedCb]
 rfl
theorem changeCa:changeR (farmS 10) 1 cutRa=(⟨5,6,treeCa,cutBa⟩,[1],[],0):=by
 have h:=changeR_ok (q:=1) farmV (by show (1:Nat) < 4;decide) cutRa_ok
 unfold cutS at h
 rw [endCa] at h
 exact h
theorem changeCb:changeR (farmS 10) 0 cutRb=(⟨5,6,treeCb,cutBb⟩,[4],[],0):=by
 have h:=changeR_ok (q:=0) farmV (by show (0:Nat) < 4;decide) cutRb_ok
 unfold cutS at h
 rw [endCb] at h
 exact h
theorem changeCn:changeR (farmS 10) 1 []=(⟨0,0,[],[]⟩,[],[],1):=changeR_form farmV (by show (0:Int)≤1∧(1:Int) < ((4:Nat):Int);decide) cutRn
theorem firstCa:cutR1 (farmS 10)=(0,0,false,0):=by
 rw [cutR1_ok (farm_form fieldC)]
 have h:tooR (farmS 10).Tree (farmS 10).Books (farmS 10).Clock.toNat=(0,0,false):=by
  have h3:∀ s,s < 48→5≤s→∀ p,p < 4→0≤leftT (fieldL 10 0 6) farmB p s:=by decide +kernel
  exact tooR_no (fun s a b p c=>h3 s b a p c)
 rw [h]
theorem firstCb:cutR1 (farmS 9)=(13,0,true,0):=by
 rw [cutR1_ok (farm_form fieldC9)]
 have h:tooR (farmS 9).Tree (farmS 9).Books (farmS 9).Clock.toNat=(13,0,true):=tooR_is over9
 rw [h]
theorem FirstCut_any (w:World) (tv bv:Value) (s:State) (hl:QueuesV w tv s.Tree) (hb:BooksV w bv s.Books) :
  Calls Tryz.prog 15 #[.agg #[.int .i64 s.Clock,.int .i64 s.Next,tv,bv]] w (RetFirst4 w (cutR1 s)):=by
 have F:=hid (fun (W:World) (h:Ext w W)=>planForm_any W tv bv s (hl.mono h) (hb.mono h))
 have HS0:=hid (fun (W:World) (hx:Ext (w.alloc (.cells #[.int .i64 s.Clock,.int .i64 s.Next,tv,bv] 25)) W)=>stateCells hx)
 have HX0:=hid ((Ext.rf w).al (.cells #[.int .i64 s.Clock,.int .i64 s.Next,tv,bv] 25))
 by_cases h0:formE s=0
 ·obtain ⟨hb0,⟨k1,k2,_,_⟩,_,_⟩:=formE_zero h0
  obtain ⟨ok,_,h12,hbok⟩:=booksE_zero hb0
  have T:=hid (fun (W:World) (h:Ext w W)=>show Calls Tryz.prog 53 #[tv,bv,.int .i64 s.Clock] W (RetToo W (tooR s.Tree s.Books s.Clock.toNat)) from by
   have:=loadToo_any W tv bv s.Tree s.Books s.Clock.toNat (by omega) (hl.mono h) (hb.mono h) ok hbok h12
   rwa [Int.toNat_of_nonneg k1] at this)
  have HR:=hid (cutR1_ok h0)
  rw [h0] at F
  obtain ⟨qa,qc,rfl,_,_,_⟩:=hl.form
  obtain ⟨ba,bc,rfl,_,_,_⟩:=hb.form
  clear hl hb h0 hb0 ok hbok k1 k2
  generalize cutR1 s=se at *
  generalize tooR s.Tree s.Books s.Clock.toNat=tr at *
  obtain ⟨tt,tq,is⟩:=tr
  generalize s.Tree.length=n at *
  generalize s.Books.length=z at *
  go_enter Tryz.func15,Tryz.ntmps15
  go_wp2_with fail
  refine (F.out _ HX0.out).mono ?_
  rintro e w2 ⟨rfl,hx2⟩
  obtain ⟨a0,a1,a2,a3⟩:=HS0.out w2 hx2
  go_wp2_with fail
  refine (T.out _ (HX0.out.tr hx2)).mono ?_
  rintro e w3 ⟨rfl,hx3⟩
  clear a0 a1 a2 a3
  have HX3:=hid (HX0.out.tr (hx2.tr hx3))
  clear hx2 hx3
  go_wp2_with fail
  ((try simp only [Exit.inBlock,Exit.then]);refine bodyPost_ret (results_tmp4 rfl _ _ _) rfl ?_)
  exact retFirst4_of HR.out HX3.out
 ·have HR:=hid (cutR1_bad h0)
  have hne:=neT h0
  obtain ⟨qa,qc,rfl,_,_,_⟩:=hl.form
  obtain ⟨ba,bc,rfl,_,_,_⟩:=hb.form
  clear hl hb h0
  generalize cutR1 s=se at *
  generalize formE s=fe at *
  generalize s.Tree.length=n at *
  generalize s.Books.length=z at *
  go_enter Tryz.func15,Tryz.ntmps15
  go_wp2_with fail
  refine (F.out _ HX0.out).mono ?_
  rintro e w2 ⟨rfl,hx2⟩
  have HX2:=hid (HX0.out.tr hx2)
  clear hx2
  go_wp2_with fail
  ((try simp only [Exit.inBlock,Exit.then]);refine bodyPost_ret (results_tmp4 rfl _ _ _) rfl ?_)
  exact retFirst4_of HR.out HX2.out
theorem Change_is {w:World} {tv bv rv:Value} {c n q:Int} {l:List Queue} {b:List Book} {f:List Run} {S:State} {m d:List Int} {e:Int} (h:changeR ⟨c,n,l,b⟩ q f=(S,m,d,e)) (hl:QueuesV w tv l) (hb:BooksV w bv b) (hr:RunsV w rv f) (hq:I64 q) :
  Calls Tryz.prog 14 #[.agg #[.int .i64 c,.int .i64 n,tv,bv],.int .i64 q,rv] w fun x w'=>∃ u v mv dv,x=.returned (.tuple #[.agg #[.int .i64 S.Clock,.int .i64 S.Next,u,v],mv,dv,.int .i64 e])∧QueuesV w' u S.Tree∧BooksV w' v S.Books∧IntsV w' mv m∧IntsV w' dv d∧Ext w w':=by
 have:=Change_any w tv bv rv ⟨c,n,l,b⟩ q f hl hb hr hq
 rw [h] at this
 exact this.mono fun x w' ⟨u,v,mv,dv,h1,h2,h3,h4,h5⟩=>⟨u,v,mv,dv,h1,h2.tree,h2.books,h3,h4,h5⟩
theorem ChangeOf_is {w:World} {tv bv rv:Value} {c n q:Int} {l:List Queue} {b:List Book} {f:List Run} {S:State} {m d:List Int} {e:Int} (h:changeR ⟨c,n,l,b⟩ q f=(S,m,d,e)) (hl:QueuesV w tv l) (hb:BooksV w bv b) (hr:RunsV w rv f) (hq:I64 q) :
  Calls Tryz.prog 16 #[.agg #[.int .i64 c,.int .i64 n,tv,bv],.int .i64 q,rv] w fun x w'=>∃ u v mv dv,x=.returned (.tuple #[.agg #[.int .i64 S.Clock,.int .i64 S.Next,u,v],mv,dv,.int .i64 e])∧QueuesV w' u S.Tree∧BooksV w' v S.Books∧IntsV w' mv m∧IntsV w' dv d∧Ext w w':=by
 have:=ChangeOf_any w tv bv rv ⟨c,n,l,b⟩ q f hl hb hr hq
 rw [h] at this
 exact this.mono fun x w' ⟨u,v,mv,dv,h1,h2,h3,h4,h5⟩=>⟨u,v,mv,dv,h1,h2.tree,h2.books,h3,h4,h5⟩
theorem FirstCut_is {w:World} {tv bv:Value} {c n:Int} {l:List Queue} {b:List Book} {t q:Int} {d:Bool} {e:Int} (h:cutR1 ⟨c,n,l,b⟩=(t,q,d,e)) (hl:QueuesV w tv l) (hb:BooksV w bv b) :
  Calls Tryz.prog 15 #[.agg #[.int .i64 c,.int .i64 n,tv,bv]] w fun x w'=>x=.returned (.tuple #[.int .i64 t,.int .i64 q,.bool d,.int .i64 e])∧Ext w w':=by
 have:=FirstCut_any w tv bv ⟨c,n,l,b⟩ hl hb
 rw [h] at this
 exact this
theorem CutFirst_is {w:World} {tv bv:Value} {c n:Int} {l:List Queue} {b:List Book} {t q:Int} {d:Bool} {e:Int} (h:cutR1 ⟨c,n,l,b⟩=(t,q,d,e)) (hl:QueuesV w tv l) (hb:BooksV w bv b) :
  Calls Tryz.prog 17 #[.agg #[.int .i64 c,.int .i64 n,tv,bv]] w fun x w'=>x=.returned (.tuple #[.int .i64 t,.int .i64 q,.bool d,.int .i64 e])∧Ext w w':=by
 have:=CutFirst_any w tv bv ⟨c,n,l,b⟩ hl hb
 rw [h] at this
 exact this
theorem nth_bites {w:World} {v:Value} {l:List Book} {k:Nat} {x:Book} (hv:BooksV w v l) (h:l[k]?=some x) :
  ∃ b off cap bv,v=.slice (some ⟨b,off,none⟩) l.length cap∧l.length≤cap∧cap≤9223372036854775807∧b < w.heap.size∧w.cell? ⟨b,off+k*7+6,none⟩=some bv∧BitesV w bv x.Bites:=by
 obtain ⟨a,cap,rfl,h1,h2,_,h4⟩:=books_at hv
 obtain ⟨b,off,rfl,hb,hE⟩:=h4 (by have:=(List.getElem?_eq_some_iff.1 h).1;omega)
 obtain ⟨cs,⟨qs,bv,rfl,hq,hbv,_⟩,hc⟩:=hE k x h
 obtain ⟨pv,rfl,_⟩:=hq
 exact ⟨b,off,cap,bv,rfl,h1,h2,hb,hc 6 bv rfl,hbv⟩
theorem first_bites {w:World} {v:Value} {l:List Book} {x:Book} (hv:BooksV w v l) (h:l[0]?=some x) :
  ∃ b off cap bv,v=.slice (some ⟨b,off,none⟩) l.length cap∧l.length≤cap∧cap≤9223372036854775807∧b < w.heap.size∧w.cell? ⟨b,off+6,none⟩=some bv∧BitesV w bv x.Bites:=by
 obtain ⟨b,off,cap,bv,h1,h2,h3,h4,h5,h6⟩:=nth_bites hv h
 exact ⟨b,off,cap,bv,h1,h2,h3,h4,by simpa using h5,h6⟩
theorem second_bites {w:World} {v:Value} {l:List Book} {x:Book} (hv:BooksV w v l) (h:l[1]?=some x) :
  ∃ b off cap bv,v=.slice (some ⟨b,off,none⟩) l.length cap∧l.length≤cap∧cap≤9223372036854775807∧b < w.heap.size∧w.cell? ⟨b,off+13,none⟩=some bv∧BitesV w bv x.Bites:=by
 obtain ⟨b,off,cap,bv,h1,h2,h3,h4,h5,h6⟩:=nth_bites hv h
 exact ⟨b,off,cap,bv,h1,h2,h3,h4,by rw [show off+1*7+6=off+13 by omega] at h5;exact h5,h6⟩
theorem sameInts_nil (w:World) (a b:Option Addr) (c d:Nat) :
  Calls Tryz.prog 20 #[.slice a 0 c,.slice b 0 d] w fun e w'=>e=.returned (.bool true)∧Ext w w':=by
 go_enter Tryz.func20,Tryz.ntmps20
 go_wp2_with fail
 refine wp_loop_rounds 1 ?_
 rw [rounds_succ]
 go_wp2_with fail
 go_ret
 exact ⟨rfl,Ext.rf w⟩
theorem sameInts_yes {w:World} {vf vg:Value} {f:List Int} (hf:IntsV w vf f) (hg:IntsV w vg f) :
  Calls Tryz.prog 20 #[vf,vg] w fun e w'=>e=.returned (.bool true)∧Ext w w':=by
 rcases hf with ⟨rfl,a,c,rfl,_⟩ | ⟨fb,fo,fc,rfl,_,_,hn,_,hf⟩
 ·rcases hg with ⟨_,b,d,rfl,_⟩ | ⟨gb,go,gc,rfl,_⟩
  ·exact sameInts_nil w a b c d
  ·exact sameInts_nil w a _ c gc
 ·rcases hg with ⟨rfl,b,d,rfl,_⟩ | ⟨gb,go,gc,rfl,_,_,_,_,hg⟩
  ·exact sameInts_nil w _ b fc d
  ·have:=sameInts_some w fb fo fc gb go gc f f rfl hf hg hn
   rwa [deT rfl] at this
theorem runs_i64 {l:List Run} (h:(l.all fun r=>decide (-9000000≤r.At∧r.At≤9000000∧-9000000≤r.N∧r.N≤9000000))=true):∀ r∈l,I64 r.At∧I64 r.N:=fun r hr=>by
 have h1:=List.all_eq_true.1 h r hr
 have h2:=of_decide_eq_true h1
 unfold I64
 omega
theorem cutBegun_true (w:World):Calls Tryz.prog 18 #[] w fun e w'=>e=.returned (.bool true)∧Ext w w':=by
 have hv10:I64 (10:Int):=i64_small' (by decide) (by decide)
 have hv9:I64 (9:Int):=i64_small' (by decide) (by decide)
 have i0:I64 (0:Int):=i64_small' (by decide) (by decide)
 have i1:I64 (1:Int):=i64_small' (by decide) (by decide)
 have i4:I64 (4:Int):=i64_small' (by decide) (by decide)
 have RA:=hid (fun (W:World)=>runs_lit (w:=W) [⟨0,3⟩,⟨22,6⟩] rfl rfl rfl (by decide) (runs_i64 (by decide)))
 have RB:=hid (fun (W:World)=>runs_lit (w:=W) [⟨0,9⟩] rfl rfl rfl (by decide) (runs_i64 (by decide)))
 go_enter Tryz.func18,Tryz.ntmps18
 go_wp2_with fail
 refine (farm_any _).mono ?_
 rintro e w1 ⟨F1,G1,p1,q1,r1,s1,rfl,hF1,FA,hx1⟩
 have HA:=hid FA
 have X1:=hid hx1
 clear FA hx1
 go_wp2_with fail
 have AL:=(Ext.rf w1).al (.cells #[.int .i64 0,.int .i64 3,.int .i64 22,.int .i64 6] 70)
 have C:=hid (Change_is changeCa ((HA.out.ext AL).tree hv10) (HA.out.ext AL).books (RA.out w1) i1)
 have Y1:=hid (X1.out.tr AL)
 clear AL HA X1
 refine C.out.mono ?_
 rintro e va ⟨u,v,mv,dv,rfl,hu,hv,hm,hd,hx⟩
 obtain ⟨tba,ofsa,vca,sva,h,_,_,htba,hc3,hbv⟩:=first_bites hv rfl
 have h':v=.slice (some ⟨tba,ofsa,none⟩) 2 vca:=h
 clear h;subst h'
 have HCa:=hid hc3
 have HVa:=hid hbv
 have HMa:=hid hm
 clear hc3 hbv
 obtain ⟨uaa,uca,h,_,_,_⟩:=hu.form
 have h':u=.slice uaa 4 uca:=h
 clear h;subst h'
 obtain ⟨maa,mca,h,_,_,_⟩:=hm.form
 have h':mv=.slice maa 1 mca:=h
 clear h;subst h'
 obtain ⟨daa,dca,h,_,_,_⟩:=hd.form
 have h':dv=.slice daa 0 dca:=h
 clear h;subst h'
 have hal:=(Ext.rf va).al (.cells #[.int .i64 5,.int .i64 6,.slice uaa 4 uca,.slice (some ⟨tba,ofsa,none⟩) 2 vca] 25)
 have HBa:=hid (fun (V:World) (h:Ext (va.alloc (.cells #[.int .i64 5,.int .i64 6,.slice uaa 4 uca,.slice (some ⟨tba,ofsa,none⟩) 2 vca] 25)) V)=>newState h)
 have Aa:=hid hal
 have Xa:=hid (Y1.out.tr (hx.tr hal))
 clear C Y1 hx hu hv hm hd hal
 go_wp2_with fail
 refine (farm_any _).mono ?_
 rintro e w2 ⟨F2,G2,p2,q2,r2,s2,rfl,hF2,FA,hx2⟩
 have C:=hid (Change_is changeCn (FA.tree hv10) FA.books SV.nil i1)
 have K2:=hid hx2
 clear FA hx2
 go_wp2_with fail
 refine C.out.mono ?_
 rintro e vb ⟨u,v,mv,dv,rfl,hu,hv,hm,hd,hx⟩
 obtain ⟨vab,vcb,h,_,_,_⟩:=hv.form
 have h':v=.slice vab 0 vcb:=h
 clear h;subst h'
 obtain ⟨uab,ucb,h,_,_,_⟩:=hu.form
 have h':u=.slice uab 0 ucb:=h
 clear h;subst h'
 obtain ⟨mab,mcb,h,_,_,_⟩:=hm.form
 have h':mv=.slice mab 0 mcb:=h
 clear h;subst h'
 obtain ⟨dab,dcb,h,_,_,_⟩:=hd.form
 have h':dv=.slice dab 0 dcb:=h
 clear h;subst h'
 have hal:=(Ext.rf vb).al (.cells #[.int .i64 0,.int .i64 0,.slice uab 0 ucb,.slice vab 0 vcb] 25)
 have HBb:=hid (fun (V:World) (h:Ext (vb.alloc (.cells #[.int .i64 0,.int .i64 0,.slice uab 0 ucb,.slice vab 0 vcb] 25)) V)=>newState h)
 have Ab:=hid hal
 have Kb:=hid (K2.out.tr (hx.tr hal))
 clear C K2 hx hu hv hm hd hal
 go_wp2_with fail
 refine (farm_any _).mono ?_
 rintro e w3 ⟨F3,G3,p3,q3,r3,s3,rfl,hF3,FA,hx3⟩
 have C:=hid (FirstCut_is firstCa (FA.tree hv10) FA.books)
 have K3:=hid (Kb.out.tr hx3)
 clear FA hx3 Kb
 go_wp2_with fail
 refine C.out.mono ?_
 rintro e vc ⟨rfl,hx⟩
 have Kc:=hid (K3.out.tr hx)
 clear C K3 hx
 go_wp2_with fail
 refine (farm_any _).mono ?_
 rintro e w4 ⟨F4,G4,p4,q4,r4,s4,rfl,hF4,FA,hx4⟩
 have l1:F4+4 < w4.heap.size:=(Array.getElem?_eq_some_iff.1 FA.field.q).1
 have l2:F4 < w4.heap.size:=by omega
 have l3:¬ F4=w4.heap.size:=by omega
 have l4:¬ w4.heap.size=F4:=by omega
 have k1:w4.cell? ⟨F4+4,2,none⟩=some (.slice (some ⟨F4,0,none⟩) 1 1):=cell_of_row w4 (F4+4) 2 _ _ _ FA.field.q
 have k2:w4.cell? ⟨F4,1,none⟩=some (.int .i64 10):=cell_of_row w4 F4 1 _ _ _ FA.field.r0
 have k3:w4.frozen? ⟨F4,1,none⟩=false:=frozen_of_row w4 F4 1 _ _ FA.field.r0
 have HA:=hid ((FA.setM 9).ext ((Ext.rf (w4.setCell ⟨F4,1,none⟩ (.int .i64 9))).al (.cells #[.int .i64 5,.int .i64 6,.slice (some ⟨F4+4,0,none⟩) 4 4,.slice (some ⟨G4,0,none⟩) 2 2] 25)))
 have Kd:=hid (Kc.out.tr ((hx4.se (o:=1) hF4 (.int .i64 9)).al (.cells #[.int .i64 5,.int .i64 6,.slice (some ⟨F4+4,0,none⟩) 4 4,.slice (some ⟨G4,0,none⟩) 2 2] 25)))
 clear FA hx4
 go_wp2_with fail
 have C:=hid (FirstCut_is firstCb (HA.out.tree hv9) HA.out.books)
 clear HA k1 k2 k3 l1 l2 l3 l4
 refine C.out.mono ?_
 rintro e v4 ⟨rfl,hx⟩
 have Ke:=hid (Kd.out.tr hx)
 clear C Kd hx
 go_wp2_with fail
 refine (farm_any _).mono ?_
 rintro e w5 ⟨F5,G5,p5,q5,r5,s5,rfl,hF5,FA,hx5⟩
 have HA:=hid FA
 have K5:=hid (Ke.out.tr hx5)
 clear FA hx5 Ke
 go_wp2_with fail
 have AL:=(Ext.rf w5).al (.cells #[.int .i64 0,.int .i64 9] 70)
 have C:=hid (Change_is changeCb ((HA.out.ext AL).tree hv10) (HA.out.ext AL).books (RB.out w5) i0)
 have Y5:=hid (K5.out.tr AL)
 clear AL HA K5
 refine C.out.mono ?_
 rintro e ve ⟨u,v,mv,dv,rfl,hu,hv,hm,hd,hx⟩
 obtain ⟨tbe,ofse,vce,sve,h,_,_,htbe,hc3,hbv⟩:=second_bites hv rfl
 have h':v=.slice (some ⟨tbe,ofse,none⟩) 2 vce:=h
 clear h;subst h'
 have HCe:=hid hc3
 have HVe:=hid hbv
 have HMe:=hid hm
 clear hc3 hbv
 obtain ⟨uae,uce,h,_,_,_⟩:=hu.form
 have h':u=.slice uae 4 uce:=h
 clear h;subst h'
 obtain ⟨mae,mce,h,_,_,_⟩:=hm.form
 have h':mv=.slice mae 1 mce:=h
 clear h;subst h'
 obtain ⟨dae,dce,h,_,_,_⟩:=hd.form
 have h':dv=.slice dae 0 dce:=h
 clear h;subst h'
 have hal:=(Ext.rf ve).al (.cells #[.int .i64 5,.int .i64 6,.slice uae 4 uce,.slice (some ⟨tbe,ofse,none⟩) 2 vce] 25)
 have HBe:=hid (fun (V:World) (h:Ext (ve.alloc (.cells #[.int .i64 5,.int .i64 6,.slice uae 4 uce,.slice (some ⟨tbe,ofse,none⟩) 2 vce] 25)) V)=>newState h)
 have Ae:=hid hal
 have Kf:=hid (Y5.out.tr (hx.tr hal))
 clear C Y5 hx hu hv hm hd hal
 go_wp2_with fail
 have hsz:ve.heap.size+1=(ve.alloc (.cells #[.int .i64 5,.int .i64 6,.slice uae 4 uce,.slice (some ⟨tbe,ofse,none⟩) 2 vce] 25)).heap.size:=(World.size_alloc _ _).symm
 have al:=(Ext.rf (ve.alloc (.cells #[.int .i64 5,.int .i64 6,.slice uae 4 uce,.slice (some ⟨tbe,ofse,none⟩) 2 vce] 25))).al (.cells #[.int .i64 1] 3)
 have S1:=hid (sameInts_yes (HMa.out.mono (Aa.out.tr (Kf.out.tr al))) (ints_lit (b:=ve.heap.size+1) (n:=1) [1] hsz rfl rfl (by decide) (fun x hx=>by rw [List.mem_singleton.1 hx];exact i1)))
 have AL:=hid al
 clear al hsz
 refine S1.out.mono ?_
 rintro e z1 ⟨rfl,hx⟩
 have M1:=hid (AL.out.tr hx)
 clear S1 AL hx
 have t0:=(Aa.out.tr (Kf.out.tr M1.out)).ce' HCa.out
 obtain ⟨a0,a1,a2,a3⟩:=HBa.out z1 (Kf.out.tr M1.out)
 go_wp2_with fail
 have al:=(Ext.rf z1).al (.cells #[.int .i64 0,.int .i64 5,.int .i64 1,.int .i64 22] 49)
 have S1:=hid (sameBites_yes (HVa.out.mono (Aa.out.tr (Kf.out.tr (M1.out.tr al)))) (bites_lit (b:=z1.heap.size) (n:=2) [⟨0,5⟩,⟨1,22⟩] rfl rfl rfl (by decide) (by decide)))
 have AL:=hid al
 clear al t0 a0 a1 a2 a3
 refine S1.out.mono ?_
 rintro e z2 ⟨rfl,hx⟩
 have M2:=hid (M1.out.tr (AL.out.tr hx))
 clear S1 AL hx
 go_wp2_with fail
 have al:=(Ext.rf z2).al (.cells #[.int .i64 4] 3)
 have S1:=hid (sameInts_yes (HMe.out.mono (Ae.out.tr (M2.out.tr al))) (ints_lit (b:=z2.heap.size) (n:=1) [4] rfl rfl rfl (by decide) (fun x hx=>by rw [List.mem_singleton.1 hx];exact i4)))
 have AL:=hid al
 clear al
 refine S1.out.mono ?_
 rintro e z3 ⟨rfl,hx⟩
 have M3:=hid (M2.out.tr (AL.out.tr hx))
 clear S1 AL hx
 have t0:=(Ae.out.tr M3.out).ce' HCe.out
 obtain ⟨a0,a1,a2,a3⟩:=HBe.out z3 M3.out
 go_wp2_with fail
 have al:=(Ext.rf z3).al (.cells #[.int .i64 0,.int .i64 5] 49)
 have S1:=hid (sameBites_yes (HVe.out.mono (Ae.out.tr (M3.out.tr al))) (bites_lit (b:=z3.heap.size) (n:=1) [⟨0,5⟩] rfl rfl rfl (by decide) (by decide)))
 have AL:=hid al
 clear al t0 a0 a1 a2 a3
 refine S1.out.mono ?_
 rintro e z4 ⟨rfl,hx⟩
 have M4:=hid (M3.out.tr (AL.out.tr hx))
 clear S1 AL hx
 go_wp2_with fail
 go_ret
 exact ⟨rfl,Xa.out.tr (Kf.out.tr M4.out)⟩
theorem cutTells_any (w:World) (sv:Value) (s:State) (q:Int) (rv:Value) (f:List Run) (hs:StateV w sv s) (hr:RunsV w rv f) (hq:I64 q) :
  Calls Tryz.prog 3 #[sv,.int .i64 q,rv] w fun e w'=>e=.returned (.bool true)∧Ext w w':=by
 obtain ⟨cs,rfl,tv,bv,rfl,ht,hb,_⟩:=hs
 obtain ⟨⟨S,m,d,er⟩,hsr⟩:∃ x,changeR s q f=x:=⟨_,rfl⟩
 obtain ⟨⟨t,k,b,fr⟩,htr⟩:∃ x,cutR1 s=x:=⟨_,rfl⟩
 have CA:=hid (fun (W:World) (h:Ext w W)=>Change_is hsr (ht.mono h) (hb.mono h) (hr.mono h) hq)
 have CR:=hid (fun (W:World) (h:Ext w W)=>ChangeOf_is hsr (ht.mono h) (hb.mono h) (hr.mono h) hq)
 have TA:=hid (fun (W:World) (h:Ext w W)=>FirstCut_is htr (ht.mono h) (hb.mono h))
 have TR:=hid (fun (W:World) (h:Ext w W)=>CutFirst_is htr (ht.mono h) (hb.mono h))
 have BG:=hid (fun (W:World)=>cutBegun_true W)
 have X0:=hid ((Ext.rf w).al (.cells #[.int .i64 s.Clock,.int .i64 s.Next,tv,bv] 25))
 have HS0:=hid (fun (V:World) (h:Ext (w.alloc (.cells #[.int .i64 s.Clock,.int .i64 s.Next,tv,bv] 25)) V)=>newState h)
 have e1:(er == er)=true:=by simp
 have e2:(t == t)=true:=by simp
 have e3:(fr == fr)=true:=by simp
 have e4:(k == k)=true:=by simp
 have e5:(b == b)=true:=by simp
 clear hsr htr
 obtain ⟨qa,qc,rfl,_,_,_⟩:=ht.form
 obtain ⟨ba,bc,rfl,_,_,_⟩:=hb.form
 obtain ⟨ra,rc,rfl,_,_,_⟩:=hr.form
 clear ht hb hr
 generalize s.Tree.length=sn at *
 generalize s.Books.length=sz at *
 generalize f.length=fz at *
 go_enter Tryz.func3,Tryz.ntmps3
 go_wp2_with fail
 refine (CA.out _ X0.out).mono ?_
 rintro e wa ⟨u,v,mv,dv,rfl,hu,hv,hm,hd,hx⟩
 obtain ⟨ua,ca,rfl,_,_,_⟩:=hu.form
 obtain ⟨va,da,rfl,_,_,_⟩:=hv.form
 obtain ⟨ma,mca,rfl,_,_,_⟩:=hm.form
 obtain ⟨na,nca,rfl,_,_,_⟩:=hd.form
 have hal:=(Ext.rf wa).al (.cells #[.int .i64 S.Clock,.int .i64 S.Next,.slice ua S.Tree.length ca,.slice va S.Books.length da] 25)
 have HBa:=hid (fun (V:World) (h:Ext (wa.alloc (.cells #[.int .i64 S.Clock,.int .i64 S.Next,.slice ua S.Tree.length ca,.slice va S.Books.length da] 25)) V)=>newState h)
 have HUa:=hid hu
 have HVa:=hid hv
 have HMa:=hid hm
 have HDa:=hid hd
 have Aa:=hid hal
 have Ga:=hid (hx.tr hal)
 have Xa:=hid (X0.out.tr Ga.out)
 obtain ⟨a0,a1,a2,a3⟩:=HS0.out wa hx
 have hlt:w.heap.size < wa.heap.size:=World.block_lt_of_cell? _ _ a0
 clear hu hv hm hd hx hal
 go_wp2_with fail
 clear a0 a1 a2 a3 hlt
 refine (TA.out _ Xa.out).mono ?_
 rintro e wb ⟨rfl,hx⟩
 have Kb:=hid hx
 have Gb:=hid (Ga.out.tr hx)
 have Xb:=hid (X0.out.tr Gb.out)
 clear hx
 obtain ⟨a0,a1,a2,a3⟩:=HS0.out wb Gb.out
 go_wp2_with fail
 clear a0 a1 a2 a3
 refine (CR.out _ Xb.out).mono ?_
 rintro e wc ⟨u,v,mv,dv,rfl,hu,hv,hm,hd,hx⟩
 obtain ⟨uc,cc,rfl,_,_,_⟩:=hu.form
 obtain ⟨vc,dc,rfl,_,_,_⟩:=hv.form
 obtain ⟨mc,mcc,rfl,_,_,_⟩:=hm.form
 obtain ⟨nc,ncc,rfl,_,_,_⟩:=hd.form
 have hal:=(Ext.rf wc).al (.cells #[.int .i64 S.Clock,.int .i64 S.Next,.slice uc S.Tree.length cc,.slice vc S.Books.length dc] 25)
 have HBc:=hid (fun (V:World) (h:Ext (wc.alloc (.cells #[.int .i64 S.Clock,.int .i64 S.Next,.slice uc S.Tree.length cc,.slice vc S.Books.length dc] 25)) V)=>newState h)
 have HUc:=hid hu
 have HVc:=hid hv
 have HMc:=hid hm
 have HDc:=hid hd
 have Ac:=hid hal
 have Gc:=hid (Gb.out.tr (hx.tr hal))
 have Xc:=hid (X0.out.tr Gc.out)
 have Kc:=hid (Kb.out.tr (hx.tr hal))
 obtain ⟨a0,a1,a2,a3⟩:=HS0.out wc (Gb.out.tr hx)
 have hlt:w.heap.size < wc.heap.size:=World.block_lt_of_cell? _ _ a0
 clear hu hv hm hd hx hal
 go_wp2_with fail
 clear a0 a1 a2 a3 hlt
 refine (TR.out _ Xc.out).mono ?_
 rintro e wd ⟨rfl,hx⟩
 have Kd:=hid hx
 have Xd:=hid (Xc.out.tr hx)
 clear hx
 go_wp2_with fail
 refine (BG.out _).mono ?_
 rintro e we ⟨rfl,hx⟩
 have Ke:=hid (Kd.out.tr hx)
 have Xe:=hid (Xd.out.tr hx)
 clear hx
 obtain ⟨a0,a1,a2,a3⟩:=HBa.out we (Kc.out.tr Ke.out)
 obtain ⟨b0,b1,b2,b3⟩:=HBc.out we Ke.out
 have SS:=hid (fun (W:World) (h:Ext we W)=>sameStates_yes W S.Clock S.Next (.slice ua S.Tree.length ca) (.slice va S.Books.length da) (.slice uc S.Tree.length cc) (.slice vc S.Books.length dc) S.Tree S.Books (HUa.out.mono (Aa.out.tr (Kc.out.tr (Ke.out.tr h)))) (HVa.out.mono (Aa.out.tr (Kc.out.tr (Ke.out.tr h)))) (HUc.out.mono (Ac.out.tr (Ke.out.tr h))) (HVc.out.mono (Ac.out.tr (Ke.out.tr h))))
 go_wp2_with fail
 refine (SS.out _ (Ext.rf _)).mono ?_
 rintro e wf ⟨rfl,hx⟩
 have Kf:=hid (Ke.out.tr hx)
 have Xf:=hid (Xe.out.tr hx)
 clear a0 a1 a2 a3 b0 b1 b2 b3 SS hx
 go_wp2_with fail
 refine (sameInts_yes (HMa.out.mono (Aa.out.tr (Kc.out.tr Kf.out))) (HMc.out.mono (Ac.out.tr Kf.out))).mono ?_
 rintro e wg ⟨rfl,hx⟩
 have Kg:=hid (Kf.out.tr hx)
 have Xg:=hid (Xf.out.tr hx)
 clear hx
 go_wp2_with fail
 refine (sameInts_yes (HDa.out.mono (Aa.out.tr (Kc.out.tr Kg.out))) (HDc.out.mono (Ac.out.tr Kg.out))).mono ?_
 rintro e wh ⟨rfl,hx⟩
 go_wp2_with fail
 go_ret
 exact ⟨rfl,Xg.out.tr hx⟩
end Go.Proofs.YtncaoclhlfkdoaaGreat
