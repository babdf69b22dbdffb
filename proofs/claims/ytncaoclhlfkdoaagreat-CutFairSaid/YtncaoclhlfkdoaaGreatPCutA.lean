/- cut.First, CutFirst. -/
import Derived.Test.YtncaoclhlfkdoaaGreatPCutP
set_option linter.unusedVariables false
set_option maxRecDepth 100000
set_option maxHeartbeats 8000000
set_option linter.unusedSimpArgs false
set_option linter.unusedVariables false
namespace Go.Proofs.YtncaoclhlfkdoaaGreat
open Go.RowKit
open List renaming getElem_toArray→zA,getElem_cons_zero→zB,getElem_cons_succ→zC,setIfInBounds_toArray→zD,set_cons_zero→zE,set_cons_succ→zF
theorem results_tmp4 {fn:Func} {t u v x:Tmp} (h:fn.results=#[.tmp t,.tmp u,.tmp v,.tmp x]) (tmps:Array Value) (P:Program) (w:World) :
  (results fn tmps).run P w=.ok (.tuple #[tmps.getD t undef,tmps.getD u undef,tmps.getD v undef,tmps.getD x undef]) w:=by
 simp [results,h]
@[irreducible] noncomputable def cutR1 (s:State):Int × Int × Bool × Int:=if formE s≠0 then (0,0,false,formE s) else ((tooR s.Tree s.Books s.Clock.toNat).1,(tooR s.Tree s.Books s.Clock.toNat).2.1,(tooR s.Tree s.Books s.Clock.toNat).2.2,0)
theorem cutR1_bad {s:State} (h:formE s≠0):cutR1 s=(0,0,false,formE s):=by unfold cutR1;rw [if_pos h]
theorem cutR1_ok {s:State} (h:formE s=0):cutR1 s=((tooR s.Tree s.Books s.Clock.toNat).1,(tooR s.Tree s.Books s.Clock.toNat).2.1,(tooR s.Tree s.Books s.Clock.toNat).2.2,0):=by unfold cutR1;rw [if_neg (by simp [h])]
def RetFirst4 (w:World) (r:Int × Int × Bool × Int) (e:Ending) (w':World):Prop:=e=.returned (.tuple #[.int .i64 r.1,.int .i64 r.2.1,.bool r.2.2.1,.int .i64 r.2.2.2])∧Ext w w'
theorem retFirst4_of {w w':World} {r:Int × Int × Bool × Int} {a b n:Int} {c:Bool} (h:r=(a,b,c,n)) (hx:Ext w w'):RetFirst4 w r (.returned (.tuple #[.int .i64 a,.int .i64 b,.bool c,.int .i64 n])) w':=by subst h;exact ⟨rfl,hx⟩
theorem CutFirst_any (w:World) (tv bv:Value) (s:State) (hl:QueuesV w tv s.Tree) (hb:BooksV w bv s.Books) :
  Calls Tryz.prog 17 #[.agg #[.int .i64 s.Clock,.int .i64 s.Next,tv,bv]] w (RetFirst4 w (cutR1 s)):=by
 have F:=hid (fun (W:World) (h:Ext w W)=>formed_any W tv bv s (hl.mono h) (hb.mono h))
 have HS0:=hid (fun (W:World) (hx:Ext (w.alloc (.cells #[.int .i64 s.Clock,.int .i64 s.Next,tv,bv] 25)) W)=>stateCells hx)
 have HX0:=hid ((Ext.rf w).al (.cells #[.int .i64 s.Clock,.int .i64 s.Next,tv,bv] 25))
 by_cases h0:formE s=0
 ·obtain ⟨hb0,⟨k1,k2,_,_⟩,_,_⟩:=formE_zero h0
  obtain ⟨ok,_,h12,hbok⟩:=booksE_zero hb0
  have T:=hid (fun (W:World) (h:Ext w W)=>show Calls Tryz.prog 56 #[tv,bv,.int .i64 s.Clock] W (RetToo W (tooR s.Tree s.Books s.Clock.toNat)) from by
   have:=tooRef_any W tv bv s.Tree s.Books s.Clock.toNat (by omega) (hl.mono h) (hb.mono h) ok hbok h12
   rwa [Int.toNat_of_nonneg k1] at this)
  have HR:=hid (cutR1_ok h0)
  rw [h0] at F
  obtain ⟨qa,qc,rfl,_,_,_⟩:=hl.form
  obtain ⟨ba,bc,rfl,_,_,_⟩:=hb.form
  clear hl hb h0 hb0 ok hbok k1 k2
  generalize cutR1 s=se at *
  generalize tooR s.Tree s.Books s.Clock.toNat=tr at *
  obtain ⟨tt,tq,is⟩:=tr
  generalize s.Tree.length=n at *
  generalize s.Books.length=z at *
  go_enter Tryz.func17,Tryz.ntmps17
  go_wp2_with fail
  refine (F.out _ HX0.out).mono ?_
  rintro e w2 ⟨rfl,hx2⟩
  obtain ⟨a0,a1,a2,a3⟩:=HS0.out w2 hx2
  go_wp2_with fail
  refine (T.out _ (HX0.out.tr hx2)).mono ?_
  rintro e w3 ⟨rfl,hx3⟩
  clear a0 a1 a2 a3
  have HX3:=hid (HX0.out.tr (hx2.tr hx3))
  clear hx2 hx3
  go_wp2_with fail
  ((try simp only [Exit.inBlock,Exit.then]);refine bodyPost_ret (results_tmp4 rfl _ _ _) rfl ?_)
  exact retFirst4_of HR.out HX3.out
 ·have HR:=hid (cutR1_bad h0)
  have hne:=neT h0
  obtain ⟨qa,qc,rfl,_,_,_⟩:=hl.form
  obtain ⟨ba,bc,rfl,_,_,_⟩:=hb.form
  clear hl hb h0
  generalize cutR1 s=se at *
  generalize formE s=fe at *
  generalize s.Tree.length=n at *
  generalize s.Books.length=z at *
  go_enter Tryz.func17,Tryz.ntmps17
  go_wp2_with fail
  refine (F.out _ HX0.out).mono ?_
  rintro e w2 ⟨rfl,hx2⟩
  have HX2:=hid (HX0.out.tr hx2)
  clear hx2
  go_wp2_with fail
  ((try simp only [Exit.inBlock,Exit.then]);refine bodyPost_ret (results_tmp4 rfl _ _ _) rfl ?_)
  exact retFirst4_of HR.out HX2.out
end Go.Proofs.YtncaoclhlfkdoaaGreat
