/- States: Ended, Form, Check, Find, Clone, ownTree, Begin, SameStates, and the references; the farm, planBegun; the law PlanTells; each theorem names its own conditions. -/
import Derived.Test.YtdcndkojmflhnaaGreatPLawO
import Derived.Test.YtdcndkojmflhnaaGreatPReqP
import Derived.Test.YtdcndkojmflhnaaGreatPSeekS
import Derived.Test.YtdcndkojmflhnaaGreatPLoadTrue
import Derived.Test.YtdcndkojmflhnaaGreatPRoomP
import Derived.Test.YtdcndkojmflhnaaGreatPReqF
import Derived.Deep.RegionHeldLaw
import Derived.Deep.AppendLies
/- States: Ended, Form, Check, Find, and the references. -/
/- Walks of plan.Ended, plan.Form and slices.ContainsFunc at books. -/
set_option linter.unusedVariables false
set_option maxRecDepth 100000
set_option maxHeartbeats 8000000
set_option linter.unusedSimpArgs false
set_option linter.unusedVariables false
namespace Go.Proofs.YtdcndkojmflhnaaGreat
open Go.RowKit
open List renaming getElem_toArray→zA,getElem_cons_zero→zB,getElem_cons_succ→zC,setIfInBounds_toArray→zD,set_cons_zero→zE,set_cons_succ→zF
noncomputable def lateB (t:Int) (x:Book):Bool:=decide ((overR x.Req x.Bites).1≤t)
def idsT (last next:Int):List Book→Bool
 | []=>true
 | x::b=>decide (last < x.Id) && decide (x.Id < next) && idsT x.Id next b
theorem idsT_bad {last next:Int} {x:Book} {b:List Book} (h:¬ (last < x.Id∧x.Id < next)):idsT last next (x::b)=false:=by
 unfold idsT
 by_cases h1:last < x.Id
 ·rw [deF (fun h2=>h ⟨h1,h2⟩)];simp
 ·rw [deF h1];simp
theorem idsT_ok {last next:Int} {x:Book} {b:List Book} (h1:last < x.Id) (h2:x.Id < next):idsT last next (x::b)=idsT x.Id next b:=by
 show (decide _ && decide _ && idsT _ _ _)=_
 rw [deT h1,deT h2];simp
def lastId (b:List Book) (k:Nat):Int:=if k=0 then -1 else (b.getD (k - 1) default).Id
theorem lastId_succ {b:List Book} {k:Nat} {x:Book} (h:b[k]?=some x):lastId b (k+1)=x.Id:=by
 unfold lastId
 rw [if_neg (by omega),Nat.add_sub_cancel,List.getD_eq_getElem?_getD,h];rfl
def StateIn (s:State):Prop:=0≤s.Clock∧s.Clock≤48∧0≤s.Next∧s.Next≤1048576
instance (s:State):Decidable (StateIn s):=inferInstanceAs (Decidable (_∧_∧_∧_))
@[irreducible] noncomputable def formE (s:State):Int :=
 if booksE s.Tree s.Books≠0 then booksE s.Tree s.Books else if ¬ StateIn s then 3 else if idsT (-1) s.Next s.Books=false then 1 else if s.Books.any (lateB s.Clock)=true then 9 else 0
theorem formE_books {s:State} (h:booksE s.Tree s.Books≠0):formE s=booksE s.Tree s.Books:=by unfold formE;rw [if_pos h]
theorem formE_range {s:State} (h:booksE s.Tree s.Books=0) (h1:¬ StateIn s):formE s=3:=by unfold formE;rw [if_neg (by simp [h]),if_pos h1]
theorem formE_ids {s:State} (h:booksE s.Tree s.Books=0) (h1:StateIn s) (h2:idsT (-1) s.Next s.Books=false):formE s=1:=by unfold formE;rw [if_neg (by simp [h]),if_neg (by simpa using h1),if_pos h2]
theorem formE_late {s:State} (h:booksE s.Tree s.Books=0) (h1:StateIn s) (h2:idsT (-1) s.Next s.Books=true) (h3:s.Books.any (lateB s.Clock)=true):formE s=9:=by unfold formE;rw [if_neg (by simp [h]),if_neg (by simpa using h1),if_neg (by simp [h2]),if_pos h3]
theorem formE_ok {s:State} (h:booksE s.Tree s.Books=0) (h1:StateIn s) (h2:idsT (-1) s.Next s.Books=true) (h3:s.Books.any (lateB s.Clock)=false):formE s=0:=by unfold formE;rw [if_neg (by simp [h]),if_neg (by simpa using h1),if_neg (by simp [h2]),if_neg (by simp [h3])]
theorem stateCells {w W:World} {a b c d:Value} {t:TypeId} (hx:Ext (w.alloc (.cells #[a,b,c,d] t)) W) :
  W.cell? ⟨w.heap.size,0,none⟩=some a∧W.cell? ⟨w.heap.size,1,none⟩=some b∧W.cell? ⟨w.heap.size,2,none⟩=some c∧W.cell? ⟨w.heap.size,3,none⟩=some d:=by
 have h:=heap_alloc_new w (.cells #[a,b,c,d] t)
 have k:∀ j v,(#[a,b,c,d]:Array Value)[j]?=some v→W.cell? ⟨w.heap.size,j,none⟩=some v:=fun j v hv=>hx.ce' (by rw [cell_of_row _ _ _ _ _ _ h];exact hv)
 exact ⟨k 0 _ rfl,k 1 _ rfl,k 2 _ rfl,k 3 _ rfl⟩
theorem Ended_any (w:World) (pv bv:Value) (x:Book) (t:Int) (hp:PiecesV w pv x.Req.Pieces) (hb:BitesV w bv x.Bites) :
  Calls Tryz.prog 81 #[.agg #[.int .i64 x.Id,.int .i64 x.Req.Queue,.int .i64 x.Req.From,.int .i64 x.Req.Until,.int .i64 x.Req.Kind,pv,bv],.int .i64 t] w fun e w'=>e=.returned (.bool (lateB t x))∧Ext w w':=by
 have O:=hid (fun (W:World) (h:Ext w W)=>Over_any W pv bv x.Req x.Bites (hp.mono h) (hb.mono h))
 have HL:=hid (show lateB t x=decide ((overR x.Req x.Bites).1≤t) from rfl)
 obtain ⟨pa,pc,rfl,_,_,_⟩:=hp.form
 obtain ⟨ba,bc,rfl,_,_,_⟩:=hb.form
 clear hp hb
 generalize lateB t x=lt at *
 generalize overR x.Req x.Bites=ov at *
 obtain ⟨n,m⟩:=ov
 generalize x.Req.Pieces.length=pn at *
 generalize x.Bites.length=bn at *
 go_enter Tryz.func81,Tryz.ntmps81
 go_wp2_with fail
 refine (O.out _ ((Ext.rf w).al _)).mono ?_
 rintro e w1 ⟨rfl,hx⟩
 go_wp2_with fail
 go_ret
 exact ⟨(congrArg (fun b=>Ending.returned (.bool b)) HL.out).symm,((Ext.rf w).al _).tr hx⟩
theorem Form1_any (w:World) (pv bv:Value) (x:Book) (t:Int) (B:Nat) (hp:PiecesV w pv x.Req.Pieces) (hb:BitesV w bv x.Bites) (hc:w.cell? ⟨B,0,none⟩=some (.int .i64 t)) :
  Calls Tryz.prog 120 #[.agg #[.int .i64 x.Id,.int .i64 x.Req.Queue,.int .i64 x.Req.From,.int .i64 x.Req.Until,.int .i64 x.Req.Kind,pv,bv],.pointer (some ⟨B,0,none⟩)] w fun e w'=>e=.returned (.bool (lateB t x))∧Ext w w':=by
 have O:=hid (fun (W:World) (h:Ext w W)=>Ended_any W pv bv x t (hp.mono h) (hb.mono h))
 have hBl:=World.block_lt_of_cell? w _ hc
 have hB:B < w.heap.size:=hBl
 clear hBl
 obtain ⟨pa,pc,rfl,_,_,_⟩:=hp.form
 obtain ⟨ba,bc,rfl,_,_,_⟩:=hb.form
 clear hp hb
 generalize lateB t x=lt at *
 generalize x.Req.Pieces.length=pn at *
 generalize x.Bites.length=bn at *
 go_enter Tryz.func120,Tryz.ntmps120
 go_wp2_with fail
 refine (O.out _ ((Ext.rf w).al _)).mono ?_
 rintro e w1 ⟨rfl,hx⟩
 go_wp2_with fail
 go_ret
 exact ⟨rfl,((Ext.rf w).al _).tr hx⟩
theorem IndexFunc_Book (w:World) (b off cap:Nat) (f:List Book) (G:Nat) (lb:Array Value) (p:Book→Bool) (hl:f.length≤17592186044416) (hb:b < w.heap.size) (hE:∀ k x,f[k]?=some x→EBook w b (off+k*7) x)
  (heg:∀ (args:Array Value) (w:World),(callFunc G args).run Tryz.prog w=.ok (.enter G args) w)
  (hp:∀ (k:Nat) (x:Book),f[k]?=some x→∀ W pv bv,Ext w W→PiecesV W pv x.Req.Pieces→BitesV W bv x.Bites→Calls Tryz.prog G (#[.agg #[.int .i64 x.Id,.int .i64 x.Req.Queue,.int .i64 x.Req.From,.int .i64 x.Req.Until,.int .i64 x.Req.Kind,pv,bv]]++lb) W fun e w'=>e=.returned (.bool (p x))∧Ext W w') :
  Calls Tryz.prog 136 #[.slice (some ⟨b,off,none⟩) f.length cap,.func (.func G) #[] lb] w fun e w'=>e=.returned (.int .i64 (idxOf p f))∧Ext w w':=by
 have HE:=hid hE
 have Hp:=hid hp
 clear hE hp
 generalize hn:f.length=n at *
 have Hn:=hid hn
 clear hn
 go_enter Tryz.func136,Tryz.ntmps136
 go_wp2_with fail
 go_loopw [8] (fun i wr=>∃ k:Nat,k≤n∧i=.int .i64 k∧Hid (∀ j y,j < k→f[j]?=some y→p y=false)∧Ext w wr) (fun i _=>n - (intOf i).toNat)
 case atStart=>exact ⟨0,Nat.zero_le _,rfl,fun j y hj=>absurd hj (Nat.not_lt_zero _),Ext.rf _⟩
 case round =>
  obtain ⟨k,hk,rfl,Hall,hx⟩:=hrel
  have hbw:b < wr.heap.size:=Nat.lt_of_lt_of_le hb hx.size
  by_cases hlt:k < n
  ·obtain ⟨x,hxk⟩:=getA (f:=f) (k:=k) (by rw [Hn.out];exact hlt)
   obtain ⟨pv,biv,c0,c1,c2,c3,c4,c5,c6,hpv,hbi⟩:=ebook_cells (EBook.mono w wr b _ x hx (HE.out k x hxk))
   have hc:=Hp.out k x hxk wr pv biv hx hpv hbi
   have Hc:=hid hc
   have Hx:=hid hxk
   obtain ⟨pa,pc,rfl,_,_,_⟩:=hpv.form
   obtain ⟨bia,bic,rfl,_,_,_⟩:=hbi.form
   clear hc hxk hpv hbi
   generalize x.Req.Pieces.length=pn at *
   generalize x.Bites.length=bn at *
   cases hpx:p x with
   | true =>
    rw [hpx] at Hc
    have Hpx:=hid hpx
    clear hpx
    go_wp2_with fail
    refine Hc.out.mono ?_
    rintro e w1 ⟨rfl,hx1⟩
    go_wp2_with fail
    go_ret
    exact ⟨ret_int (idxOf_at Hx.out Hpx.out Hall.out).symm,hx.tr hx1⟩
   | false =>
    rw [hpx] at Hc
    have Hpx:=hid hpx
    clear hpx
    go_wp2_with fail
    refine Hc.out.mono ?_
    rintro e w1 ⟨rfl,hx1⟩
    go_wp2_with fail
    go_roundw
    case rel=>exact ⟨k+1,by omega,by go_num,hall_snoc Hx.out Hpx.out Hall.out,hx.tr hx1⟩
    case measure=>simp [intOf];omega
  ·obtain rfl:k=n:=by omega
   go_wp2_with fail
   go_ret
   exact ⟨ret_int (idxOf_none (fun j y hj hy=>Hall.out j y (by rw [Hn.out] at hj;exact hj) hy)).symm,hx⟩
theorem ContainsFunc_Book (w:World) (v:Value) (f:List Book) (G:Nat) (lb:Array Value) (p:Book→Bool) (hv:BooksV w v f)
  (heg:∀ (args:Array Value) (w:World),(callFunc G args).run Tryz.prog w=.ok (.enter G args) w)
  (hp:∀ (k:Nat) (x:Book),f[k]?=some x→∀ W pv bv,Ext w W→PiecesV W pv x.Req.Pieces→BitesV W bv x.Bites→Calls Tryz.prog G (#[.agg #[.int .i64 x.Id,.int .i64 x.Req.Queue,.int .i64 x.Req.From,.int .i64 x.Req.Until,.int .i64 x.Req.Kind,pv,bv]]++lb) W fun e w'=>e=.returned (.bool (p x))∧Ext W w') :
  Calls Tryz.prog 119 #[v,.func (.func G) #[] lb] w fun e w'=>e=.returned (.bool (f.any p))∧Ext w w':=by
 rcases hv with ⟨rfl,a0,c0,rfl,hc0⟩ | ⟨b,off,cap,rfl,h1,h2,h3,h4,h5⟩
 ·go_enter Tryz.func119,Tryz.ntmps119
  go_wp2
  go_loopw [8] (fun i wr=>i=.int .i64 0∧wr=w) (fun i _=>0)
  case atStart=>exact ⟨rfl,rfl⟩
  case round =>
   obtain ⟨rfl,rfl⟩:=hrel
   go_wp2
   go_ret
   exact ⟨rfl,Ext.rf _⟩
 ·have hi:=IndexFunc_Book w b off cap f G lb p h3 h4 h5 heg hp
  have Hi:=hid hi
  have ha:=hid (idxOf_any p f)
  clear hi hp h5
  generalize idxOf p f=q at *
  generalize hn:f.length=n at *
  clear hn
  generalize f.any p=r at *
  go_enter Tryz.func119,Tryz.ntmps119
  go_wp2_with fail
  refine Hi.out.mono ?_
  rintro e w1 ⟨rfl,hx1⟩
  go_wp2_with fail
  go_ret
  exact ⟨(congrArg (fun b=>Ending.returned (.bool b)) ha.out),hx1⟩
theorem planForm_any (w:World) (tv bv:Value) (s:State) (hl:QueuesV w tv s.Tree) (hb:BooksV w bv s.Books) :
  Calls Tryz.prog 68 #[.agg #[.int .i64 s.Clock,.int .i64 s.Next,tv,bv]] w fun e w'=>e=.returned (.int .i64 (formE s))∧Ext w w':=by
 have C:=hid (fun (W:World) (h:Ext w W)=>loadCheck_any W tv bv s.Tree s.Books (hl.mono h) (hb.mono h))
 have HB:=hid (fun (W:World) (h:Ext w W)=>hb.mono h)
 have HS0:=hid (fun (W:World) (hx:Ext (w.alloc (.cells #[.int .i64 s.Clock,.int .i64 s.Next,tv,bv] 25)) W)=>stateCells hx)
 have HX0:=hid ((Ext.rf w).al (.cells #[.int .i64 s.Clock,.int .i64 s.Next,tv,bv] 25))
 obtain ⟨qa,qc,rfl,_,_,_⟩:=hl.form
 obtain ⟨ba,bc,rfl,hbc,hbc9,hbl,hbE⟩:=books_at hb
 have HBE:=hid hbE
 clear hl hb hbE
 by_cases h0:booksE s.Tree s.Books=0
 ·rw [h0] at C
  by_cases h1:StateIn s
  ·obtain ⟨k1,k2,k3,k4⟩:=h1
   have k1':¬ s.Clock < 0:=by omega
   have k2':¬ 48 < s.Clock:=by omega
   have k3':¬ s.Next < 0:=by omega
   have k4':¬ 1048576 < s.Next:=by omega
   have HI:=hid (fun (h:idsT (-1) s.Next s.Books=false)=>formE_ids h0 ⟨k1,k2,k3,k4⟩ h)
   have HLt:=hid (fun (h:idsT (-1) s.Next s.Books=true) (h3:s.Books.any (lateB s.Clock)=true)=>formE_late h0 ⟨k1,k2,k3,k4⟩ h h3)
   have HOk:=hid (fun (h:idsT (-1) s.Next s.Books=true) (h3:s.Books.any (lateB s.Clock)=false)=>formE_ok h0 ⟨k1,k2,k3,k4⟩ h h3)
   obtain ⟨R,hR⟩:∃ R,idsT (-1) s.Next s.Books=R:=⟨_,rfl⟩
   have H0:=hid (show idsT (lastId s.Books 0) s.Next (s.Books.drop 0)=R from hR)
   rw [hR] at HI HLt HOk
   clear h0 k1 k2 k3 k4 hR
   generalize formE s=fe at *
   generalize s.Tree.length=n at *
   generalize hzz:s.Books.length=z at *
   have Hz:=hid hzz
   clear hzz
   go_enter Tryz.func68,Tryz.ntmps68
   go_wp2_with fail
   generalize hw1:w.alloc (.cells #[.int .i64 s.Clock,.int .i64 s.Next,.slice qa n qc,.slice ba z bc] 25)=w1 at *
   refine (C.out _ HX0.out).mono ?_
   rintro e w2 ⟨rfl,hx2⟩
   obtain ⟨a0,a1,a2,a3⟩:=HS0.out w2 hx2
   have HX2:=hid hx2
   clear hx2 a2
   go_wp2_with fail
   have HA0:=hid a0
   have HA1:=hid a1
   have HA3:=hid a3
   clear a0 a1 a3
   go_loopw [4,36] (fun a c wr=>∃ k:Nat,a=.int .i64 (lastId s.Books k)∧c=.int .i64 k∧k≤z∧Hid (idsT (lastId s.Books k) s.Next (s.Books.drop k)=R)∧Ext w2 wr) (fun _ c _=>z - (intOf c).toNat)
   case atStart=>exact ⟨0,rfl,rfl,by omega,H0,Ext.rf _⟩
   case round =>
    obtain ⟨k,rfl,rfl,hk,HK,hx⟩:=hrel
    by_cases hlt:k < z
    ·have hlt':(k:Int) < (z:Int):=by omega
     obtain ⟨x,hxk⟩:=getA (f:=s.Books) (k:=k) (by rw [Hz.out];exact hlt)
     obtain ⟨bb,bo,rfl,hbb,hE⟩:=HBE.out (by omega)
     obtain ⟨pv,biv,c0,c1,c2,c3,c4,c5,c6,hp,hbi⟩:=ebook_cells (EBook.mono w wr bb _ x ((HX0.out.tr HX2.out).tr hx) (hE k x hxk))
     have a1:=hx.ce' HA1.out
     have hwl:w.heap.size < wr.heap.size:=World.block_lt_of_cell? _ _ a1
     have hL:=lastId_succ hxk
     have hg:=HK.out
     rw [drop_get hxk] at hg
     obtain ⟨pa,pc,rfl,_,_,_⟩:=hp.form
     obtain ⟨bia,bic,rfl,_,_,_⟩:=hbi.form
     clear hp hbi hE hxk
     generalize x.Req.Pieces.length=pn at *
     generalize x.Bites.length=bn at *
     have HL:=hid hL
     clear hL
     generalize hla:lastId s.Books k=la at *
     clear hla
     by_cases g1:x.Id≤la
     ·rw [idsT_bad (by omega)] at hg
      have Hg:=hid (HI.out hg.symm)
      clear hg
      go_wp2_with fail
      go_ret
      exact ⟨ret_int Hg.out.symm,HX0.out.tr (HX2.out.tr (hx.al _))⟩
     ·by_cases g2:x.Id < s.Next
      ·have g2':¬ s.Next≤x.Id:=by omega
       rw [idsT_ok (by omega) g2] at hg
       have Hg:=hid hg
       clear hg
       go_wp2_with fail
       go_roundw
       case rel=>exact ⟨k+1,by rw [HL.out],by go_num,by omega,hid (by rw [HL.out];exact Hg.out),hx.al _⟩
       case measure=>simp [intOf];omega
      ·have g2':s.Next≤x.Id:=by omega
       rw [idsT_bad (by omega)] at hg
       have Hg:=hid (HI.out hg.symm)
       clear hg
       go_wp2_with fail
       go_ret
       exact ⟨ret_int Hg.out.symm,HX0.out.tr (HX2.out.tr (hx.al _))⟩
    ·obtain rfl:k=z:=by omega
     have hlt':¬ (k:Int) < (k:Int):=by omega
     have hR:true=R:=by
      have:=HK.out
      rw [List.drop_of_length_le (by rw [Hz.out];exact Nat.le_refl _)] at this
      exact this
     subst hR
     have a3:=hx.ce' HA3.out
     have HA0w:=hid (hx.ce' HA0.out)
     have HBK:=hid (HB.out _ ((HX0.out.tr HX2.out).tr hx))
     have CF:=hid (ContainsFunc_Book wr (.slice ba k bc) s.Books 120 #[.pointer (some ⟨w.heap.size,0,none⟩)] (lateB s.Clock) HBK.out (enters_of Tryz.func120 (by kernel_rfl) rfl) (fun j y hj W pv bv hW hp hb=>Form1_any W pv bv y s.Clock w.heap.size hp hb (hW.ce' HA0w.out)))
     cases hany:s.Books.any (lateB s.Clock) with
     | true =>
      rw [hany] at CF
      have Hg:=hid (HLt.out rfl hany)
      clear hany
      go_wp2_with fail
      refine CF.out.mono ?_
      rintro e w3 ⟨rfl,hx3⟩
      go_wp2_with fail
      go_ret
      exact ⟨ret_int Hg.out.symm,HX0.out.tr (HX2.out.tr (hx.tr hx3))⟩
     | false =>
      rw [hany] at CF
      have Hg:=hid (HOk.out rfl hany)
      clear hany
      go_wp2_with fail
      refine CF.out.mono ?_
      rintro e w3 ⟨rfl,hx3⟩
      go_wp2_with fail
      go_ret
      exact ⟨ret_int Hg.out.symm,HX0.out.tr (HX2.out.tr (hx.tr hx3))⟩
  ·have HR:=hid (formE_range h0 h1)
   have hcase:s.Clock < 0∨(¬ s.Clock < 0∧48 < s.Clock)∨(¬ s.Clock < 0∧¬ 48 < s.Clock∧s.Next < 0)∨(¬ s.Clock < 0∧¬ 48 < s.Clock∧¬ s.Next < 0∧1048576 < s.Next):=by
    unfold StateIn at h1;omega
   clear h0 h1
   generalize formE s=fe at *
   generalize s.Tree.length=n at *
   generalize s.Books.length=z at *
   rcases hcase with h1 | ⟨h1,h2⟩ | ⟨h1,h2,h3⟩ | ⟨h1,h2,h3,h4⟩
   all_goals go_enter Tryz.func68,Tryz.ntmps68
   all_goals go_wp2_with fail
   all_goals refine (C.out _ HX0.out).mono ?_
   all_goals rintro e w2 ⟨rfl,hx2⟩
   all_goals obtain ⟨a0,a1,a2,a3⟩:=HS0.out w2 hx2
   all_goals go_wp2_with fail
   all_goals go_ret
   all_goals exact ⟨ret_int HR.out.symm,HX0.out.tr hx2⟩
 ·have HR:=hid (formE_books h0)
  have hne:=neT h0
  clear h0
  generalize formE s=fe at *
  generalize booksE s.Tree s.Books=be at *
  generalize s.Tree.length=n at *
  generalize s.Books.length=z at *
  go_enter Tryz.func68,Tryz.ntmps68
  go_wp2_with fail
  refine (C.out _ HX0.out).mono ?_
  rintro e w2 ⟨rfl,hx2⟩
  go_wp2_with fail
  go_ret
  exact ⟨ret_int HR.out.symm,HX0.out.tr hx2⟩
@[irreducible] noncomputable def stateE (s:State):Int:=if formE s≠0 then formE s else if (tooR s.Tree s.Books s.Clock.toNat).2.2=true then 10 else 0
theorem stateE_form {s:State} (h:formE s≠0):stateE s=formE s:=by unfold stateE;rw [if_pos h]
theorem stateE_sum {s:State} (h:formE s=0) (h2:(tooR s.Tree s.Books s.Clock.toNat).2.2=true):stateE s=10:=by unfold stateE;rw [if_neg (by simp [h]),if_pos h2]
theorem stateE_ok {s:State} (h:formE s=0) (h2:(tooR s.Tree s.Books s.Clock.toNat).2.2=false):stateE s=0:=by unfold stateE;rw [if_neg (by simp [h]),if_neg (by simp [h2])]
theorem formE_zero {s:State} (h:formE s=0):booksE s.Tree s.Books=0∧StateIn s∧idsT (-1) s.Next s.Books=true∧s.Books.any (lateB s.Clock)=false:=by
 by_cases h0:booksE s.Tree s.Books=0
 ·by_cases h1:StateIn s
  ·cases h2:idsT (-1) s.Next s.Books with
   | false=>rw [formE_ids h0 h1 h2] at h;omega
   | true =>
    cases h3:s.Books.any (lateB s.Clock) with
    | true=>rw [formE_late h0 h1 h2 h3] at h;omega
    | false=>exact ⟨h0,h1,rfl,rfl⟩
  ·rw [formE_range h0 h1] at h;omega
 ·rw [formE_books h0] at h;exact absurd h h0
theorem planCheck_any (w:World) (tv bv:Value) (s:State) (hl:QueuesV w tv s.Tree) (hb:BooksV w bv s.Books) :
  Calls Tryz.prog 29 #[.agg #[.int .i64 s.Clock,.int .i64 s.Next,tv,bv]] w fun e w'=>e=.returned (.int .i64 (stateE s))∧Ext w w':=by
 have F:=hid (fun (W:World) (h:Ext w W)=>planForm_any W tv bv s (hl.mono h) (hb.mono h))
 have HS0:=hid (fun (W:World) (hx:Ext (w.alloc (.cells #[.int .i64 s.Clock,.int .i64 s.Next,tv,bv] 25)) W)=>stateCells hx)
 have HX0:=hid ((Ext.rf w).al (.cells #[.int .i64 s.Clock,.int .i64 s.Next,tv,bv] 25))
 by_cases h0:formE s=0
 ·obtain ⟨hb0,⟨k1,k2,_,_⟩,_,_⟩:=formE_zero h0
  obtain ⟨ok,_,h12,hbok⟩:=booksE_zero hb0
  have T:=hid (fun (W:World) (h:Ext w W)=>show Calls Tryz.prog 69 #[tv,bv,.int .i64 s.Clock] W (RetToo W (tooR s.Tree s.Books s.Clock.toNat)) from by
   have:=loadToo_any W tv bv s.Tree s.Books s.Clock.toNat (by omega) (hl.mono h) (hb.mono h) ok hbok h12
   rwa [Int.toNat_of_nonneg k1] at this)
  rw [h0] at F
  have H1:=hid (stateE_sum h0)
  have H2:=hid (stateE_ok h0)
  obtain ⟨qa,qc,rfl,_,_,_⟩:=hl.form
  obtain ⟨ba,bc,rfl,_,_,_⟩:=hb.form
  clear hl hb h0 hb0 ok hbok k1 k2
  generalize stateE s=se at *
  generalize tooR s.Tree s.Books s.Clock.toNat=tr at *
  obtain ⟨tt,tq,is⟩:=tr
  generalize s.Tree.length=n at *
  generalize s.Books.length=z at *
  go_enter Tryz.func29,Tryz.ntmps29
  go_wp2_with fail
  refine (F.out _ HX0.out).mono ?_
  rintro e w2 ⟨rfl,hx2⟩
  obtain ⟨a0,a1,a2,a3⟩:=HS0.out w2 hx2
  go_wp2_with fail
  refine (T.out _ (HX0.out.tr hx2)).mono ?_
  rintro e w3 ⟨rfl,hx3⟩
  clear a0 a1 a2 a3
  cases is with
  | true =>
   have Hg:=hid (H1.out rfl)
   go_wp2_with fail
   go_ret
   exact ⟨ret_int Hg.out.symm,HX0.out.tr (hx2.tr hx3)⟩
  | false =>
   have Hg:=hid (H2.out rfl)
   go_wp2_with fail
   go_ret
   exact ⟨ret_int Hg.out.symm,HX0.out.tr (hx2.tr hx3)⟩
 ·have HR:=hid (stateE_form h0)
  have hne:=neT h0
  obtain ⟨qa,qc,rfl,_,_,_⟩:=hl.form
  obtain ⟨ba,bc,rfl,_,_,_⟩:=hb.form
  clear hl hb h0
  generalize stateE s=se at *
  generalize formE s=fe at *
  generalize s.Tree.length=n at *
  generalize s.Books.length=z at *
  go_enter Tryz.func29,Tryz.ntmps29
  go_wp2_with fail
  refine (F.out _ HX0.out).mono ?_
  rintro e w2 ⟨rfl,hx2⟩
  go_wp2_with fail
  go_ret
  exact ⟨ret_int HR.out.symm,HX0.out.tr hx2⟩
def idAt (b:List Book) (k:Nat):Int:=(b.getD k default).Id
theorem idAt_some {b:List Book} {k:Nat} {x:Book} (h:b[k]?=some x):idAt b k=x.Id:=by simp [idAt,List.getD,h]
theorem ids_in {next:Int}:∀ {b:List Book} {last:Int},idsT last next b=true→∀ k,k < b.length→last < idAt b k∧idAt b k < next
 | [],last,_,k,hk=>by simp at hk
 | x::b,last,h,k,hk=>by
  have h1:last < x.Id∧x.Id < next:=by
   apply Classical.byContradiction
   intro hn
   rw [idsT_bad hn] at h
   cases h
  rw [idsT_ok h1.1 h1.2] at h
  cases k with
  | zero=>exact h1
  | succ k =>
   have:=ids_in h k (by simpa using hk)
   have e:idAt (x::b) (k+1)=idAt b k:=rfl
   omega
theorem ids_mono {next:Int}:∀ {b:List Book} {last:Int},idsT last next b=true→∀ i j,i < j→j < b.length→idAt b i < idAt b j
 | [],last,_,i,j,_,hj=>by simp at hj
 | x::b,last,h,i,j,hij,hj=>by
  have h1:last < x.Id∧x.Id < next:=by
   apply Classical.byContradiction
   intro hn
   rw [idsT_bad hn] at h
   cases h
  rw [idsT_ok h1.1 h1.2] at h
  obtain ⟨j,rfl⟩:∃ m,j=m+1:=⟨j - 1,by omega⟩
  have hj':j < b.length:=by simpa using hj
  cases i with
  | zero=>exact (ids_in h j hj').1
  | succ i=>exact ids_mono h i j (by omega) hj'
def isId (id:Int) (x:Book):Bool:=decide (x.Id=id)
@[irreducible] noncomputable def findB (s:State) (id:Int):Int × Int:=if stateE s≠0 then (0,stateE s) else if 0≤idxOf (isId id) s.Books then (idxOf (isId id) s.Books,0) else (0,6)
theorem findB_bad {s:State} {id:Int} (h:stateE s≠0):findB s id=(0,stateE s):=by unfold findB;rw [if_pos h]
theorem findB_is {s:State} {id:Int} (h:stateE s=0) (h2:0≤idxOf (isId id) s.Books):findB s id=(idxOf (isId id) s.Books,0):=by unfold findB;rw [if_neg (by simp [h]),if_pos h2]
theorem findB_no {s:State} {id:Int} (h:stateE s=0) (h2:¬ 0≤idxOf (isId id) s.Books):findB s id=(0,6):=by unfold findB;rw [if_neg (by simp [h]),if_neg h2]
theorem stateE_zero {s:State} (h:stateE s=0):formE s=0∧(tooR s.Tree s.Books s.Clock.toNat).2.2=false:=by
 by_cases h0:formE s=0
 ·cases h1:(tooR s.Tree s.Books s.Clock.toNat).2.2 with
  | true=>rw [stateE_sum h0 h1] at h;omega
  | false=>exact ⟨h0,rfl⟩
 ·rw [stateE_form h0] at h;exact absurd h h0
def InB (b:List Book) (id:Int) (i:Nat):Prop:=i≤b.length∧(∀ j,j < i→idAt b j < id)∧∀ j,i≤j→j < b.length→id≤idAt b j
def FoundB (b:List Book) (id:Int) (i:Nat) (fb:Bool):Prop:=InB b id i∧((fb=true∧idxOf (isId id) b=i)∨(fb=false∧idxOf (isId id) b=-1))
theorem foundB_of {next last:Int} {b:List Book} {id:Int} {i:Nat} {fb:Bool} (hs:idsT last next b=true) (h0:i≤b.length) (h1:∀ j,j < i→idAt b j < id) (h2:∀ j,i≤j→j < b.length→id≤idAt b j) (h3:fb=true↔i < b.length∧idAt b i=id):FoundB b id i fb:=by
 refine ⟨⟨h0,h1,h2⟩,?_⟩
 cases fb with
 | true =>
  obtain ⟨hi,he⟩:=h3.1 rfl
  obtain ⟨x,hx⟩:=getA (f:=b) (k:=i) hi
  rw [idAt_some hx] at he
  exact .inl ⟨rfl,idxOf_at hx (by unfold isId;exact decide_eq_true he) (fun j y hj hy=>by
   have:=h1 j hj
   rw [idAt_some hy] at this
   unfold isId;exact decide_eq_false (by omega))⟩
 | false =>
  refine .inr ⟨rfl,idxOf_none (fun j y hj hy=>?_)⟩
  unfold isId
  refine decide_eq_false (fun he=>?_)
  have e:=idAt_some hy
  have hji:i≤j:=by
   apply Classical.byContradiction
   intro hc
   have:=h1 j (by omega)
   omega
  by_cases hij:i=j
  ·subst hij
   have:=h3.2 ⟨hj,by rw [e];exact he⟩
   cases this
  ·have h4:=h2 i (Nat.le_refl _) (by omega)
   have h5:=ids_mono hs i j (by omega) hj
   omega
def RetFoundB (f:List Book) (t:Int) (w:World) (e:Ending) (w':World):Prop:=∃ (i:Nat) (b:Bool),e=.returned (.tuple #[.int .i64 i,.bool b])∧FoundB f t i b∧Ext w w'
theorem Where1_any (w:World) (pv bv:Value) (x:Book) (id:Int) (hp:PiecesV w pv x.Req.Pieces) (hb:BitesV w bv x.Bites) (h1:0≤x.Id) (h2:x.Id≤1048576) (h3:0≤id) (h4:id≤1048576) :
  Calls Tryz.prog 169 #[.agg #[.int .i64 x.Id,.int .i64 x.Req.Queue,.int .i64 x.Req.From,.int .i64 x.Req.Until,.int .i64 x.Req.Kind,pv,bv],.int .i64 id] w fun e w'=>e=.returned (.int .i64 (x.Id - id))∧Ext w w':=by
 have hw:IntKind.i64.wrap (x.Id - id)=x.Id - id:=by rw [IntKind.wrap_i64] <;> omega
 obtain ⟨pa,pc,rfl,_,_,_⟩:=hp.form
 obtain ⟨ba,bc,rfl,_,_,_⟩:=hb.form
 clear hp hb
 generalize x.Req.Pieces.length=pn at *
 generalize x.Bites.length=bn at *
 go_enter Tryz.func169,Tryz.ntmps169
 go_wp2
 go_ret
 exact ⟨rfl,(Ext.rf w).al _⟩
theorem searchB_any (w:World) (v:Value) (f:List Book) (t next:Int) (hs:idsT (-1) next f=true) (hn:next≤1048576) (hv:BooksV w v f) (h12:f.length≤12) (h2:0≤t) (h3:t≤1048576) :
  Calls Tryz.prog 168 #[v,.int .i64 t,.func (.func 169) #[] #[]] w (RetFoundB f t w):=by
 have HF:=hid (fun (i:Nat) (b:Bool) (h0:i≤f.length) (h1:∀ j,j < i→idAt f j < t) (h2:∀ j,i≤j→j < f.length→t≤idAt f j) (h3:b=true↔i < f.length∧idAt f i=t)=>foundB_of hs h0 h1 h2 h3)
 have HI:=hid (fun k (hk:k < f.length)=>show 0≤idAt f k∧idAt f k≤1048576 from by have:=ids_in hs k hk;omega)
 have HM:=hid (fun i j (hij:i < j) (hj:j < f.length)=>ids_mono hs i j hij hj)
 obtain ⟨ba,bc,rfl,_,hm,_,hE⟩:=books_at hv
 have HE:=hid hE
 clear hs hv hE
 generalize hnn:f.length=n at *
 have Hn:=hid hnn
 clear hnn
 go_enter Tryz.func168,Tryz.ntmps168
 go_wp2_with fail
 go_loopw [9,10] (fun a c wr=>∃ i j:Nat,i≤j∧j≤n∧a=.int .i64 i∧c=.int .i64 j∧Hid ((∀ m,m < i→idAt f m < t)∧(∀ m,j≤m→m < n→t≤idAt f m))∧Ext w wr) (fun a c _=>(intOf c - intOf a).toNat)
 case atStart=>exact ⟨0,n,Nat.zero_le _,Nat.le_refl _,rfl,rfl,⟨fun m hm=>absurd hm (Nat.not_lt_zero _),fun m h1 h2=>by omega⟩,Ext.rf _⟩
 case round =>
  obtain ⟨i,j,hij,hjn,rfl,rfl,H,hx⟩:=hrel
  by_cases hlt:i < j
  ·obtain ⟨x,hxm⟩:=getA (f:=f) (k:=(i+j) / 2) (by rw [Hn.out];omega)
   obtain ⟨b,off,rfl,hb,hEE⟩:=HE.out (by omega)
   obtain ⟨pv,biv,c0,c1,c2,c3,c4,c5,c6,hp,hbi⟩:=ebook_cells (EBook.mono w wr b _ x hx (hEE ((i+j) / 2) x hxm))
   have hr:=HI.out ((i+j) / 2) (by omega)
   rw [idAt_some hxm] at hr
   have CM:=hid (fun (W:World) (h:Ext wr W)=>Where1_any W pv biv x t (hp.mono h) (hbi.mono h) hr.1 hr.2 h2 h3)
   have CM1:=hid (CM.out wr (Ext.rf wr))
   obtain ⟨pa,pc,rfl,_,_,_⟩:=hp.form
   obtain ⟨bia,bic,rfl,_,_,_⟩:=hbi.form
   have hid_:=idAt_some hxm
   have Hx:=hid hid_
   clear hxm hp hbi hEE hid_ CM
   generalize x.Req.Pieces.length=pn at *
   generalize x.Bites.length=bn at *
   by_cases hc:x.Id < t
   ·have hc':x.Id - t < 0:=by omega
    have HN:=hid (show ∀ m,m < (i+j) / 2+1→idAt f m < t from fun m hm=>by
     by_cases e:m=(i+j) / 2
     ·rw [e,Hx.out];exact hc
     ·have:=HM.out m ((i+j) / 2) (by omega) (by omega);rw [Hx.out] at this;omega)
    go_wp2_with (go_at_call 169;refine CM1.out.mono ?_;rintro e w1 ⟨rfl,hx1⟩)
    go_roundw
    case rel=>exact ⟨(i+j) / 2+1,j,by omega,by omega,by go_num,rfl,⟨HN.out,H.out.2⟩,hx.tr hx1⟩
    case measure=>simp [intOf];omega
   ·have hc':¬ x.Id - t < 0:=by omega
    have HN:=hid (show ∀ m,(i+j) / 2≤m→m < n→t≤idAt f m from fun m hm hmn=>by
     by_cases e:m=(i+j) / 2
     ·rw [e,Hx.out];omega
     ·have:=HM.out ((i+j) / 2) m (by omega) hmn;rw [Hx.out] at this;omega)
    go_wp2_with (go_at_call 169;refine CM1.out.mono ?_;rintro e w1 ⟨rfl,hx1⟩)
    go_roundw
    case rel=>exact ⟨i,(i+j) / 2,by omega,by omega,rfl,by go_num,⟨H.out.1,HN.out⟩,hx.tr hx1⟩
    case measure=>simp [intOf];omega
  ·obtain rfl:i=j:=by omega
   by_cases hin:i < n
   ·obtain ⟨x,hxm⟩:=getA (f:=f) (k:=i) (by rw [Hn.out];omega)
    obtain ⟨b,off,rfl,hb,hEE⟩:=HE.out (by omega)
    obtain ⟨pv,biv,c0,c1,c2,c3,c4,c5,c6,hp,hbi⟩:=ebook_cells (EBook.mono w wr b _ x hx (hEE i x hxm))
    have hr:=HI.out i hin
    rw [idAt_some hxm] at hr
    have CM1:=hid (Where1_any wr pv biv x t hp hbi hr.1 hr.2 h2 h3)
    obtain ⟨pa,pc,rfl,_,_,_⟩:=hp.form
    obtain ⟨bia,bic,rfl,_,_,_⟩:=hbi.form
    have Hx:=hid (idAt_some hxm)
    have hin':(i:Int) < (n:Int):=by omega
    clear hxm hp hbi hEE
    generalize x.Req.Pieces.length=pn at *
    generalize x.Bites.length=bn at *
    by_cases hc:x.Id=t
    ·have hq:=eqT (a:=x.Id - t) (b:=0) (by omega)
     have HR:=hid (HF.out i true hjn H.out.1 H.out.2 ⟨fun _=>⟨hin,by rw [Hx.out];exact hc⟩,fun _=>rfl⟩)
     clear hc
     go_wp2_with (go_at_call 169;refine CM1.out.mono ?_;rintro e w1 ⟨rfl,hx1⟩)
     go_ret2
     exact ⟨i,true,rfl,HR.out,hx.tr hx1⟩
    ·have hq:=eqF (a:=x.Id - t) (b:=0) (by omega)
     have HR:=hid (HF.out i false hjn H.out.1 H.out.2 ⟨fun h=>(by cases h),fun h=>by rw [Hx.out] at h;exact absurd h.2 hc⟩)
     go_wp2_with (go_at_call 169;refine CM1.out.mono ?_;rintro e w1 ⟨rfl,hx1⟩)
     go_ret2
     exact ⟨i,false,rfl,HR.out,hx.tr hx1⟩
   ·have hin':¬ (i:Int) < (n:Int):=by omega
    have HR:=hid (HF.out i false hjn H.out.1 H.out.2 ⟨fun h=>(by cases h),fun h=>absurd h.1 hin⟩)
    go_wp2_with fail
    go_ret2
    exact ⟨i,false,rfl,HR.out,hx⟩
theorem Where_any (w:World) (v:Value) (f:List Book) (t next:Int) (hs:idsT (-1) next f=true) (hn:next≤1048576) (hv:BooksV w v f) (h12:f.length≤12) (h2:0≤t) (h3:t≤1048576) :
  Calls Tryz.prog 135 #[v,.int .i64 t] w (RetFoundB f t w):=by
 have S:=hid (searchB_any w v f t next hs hn hv h12 h2 h3)
 obtain ⟨ba,bc,rfl,_,_,_⟩:=hv.form
 clear hs hv
 generalize f.length=n at *
 go_enter Tryz.func135,Tryz.ntmps135
 go_wp2_with fail
 refine S.out.mono ?_
 rintro e w1 ⟨i,b,rfl,hf,hx⟩
 have HFB:=hid hf
 clear hf
 go_wp2_with fail
 go_ret2
 exact ⟨i,b,rfl,HFB.out,hx⟩
theorem planFind_any (w:World) (tv bv:Value) (s:State) (id:Int) (hl:QueuesV w tv s.Tree) (hb:BooksV w bv s.Books) :
  Calls Tryz.prog 77 #[.agg #[.int .i64 s.Clock,.int .i64 s.Next,tv,bv],.int .i64 id] w (RetInt2 w (findB s id)):=by
 have F:=hid (fun (W:World) (h:Ext w W)=>planCheck_any W tv bv s (hl.mono h) (hb.mono h))
 have HS0:=hid (fun (W:World) (hx:Ext (w.alloc (.cells #[.int .i64 s.Clock,.int .i64 s.Next,tv,bv] 25)) W)=>stateCells hx)
 have HX0:=hid ((Ext.rf w).al (.cells #[.int .i64 s.Clock,.int .i64 s.Next,tv,bv] 25))
 by_cases h0:stateE s=0
 ·obtain ⟨hf0,_⟩:=stateE_zero h0
  obtain ⟨hb0,⟨_,_,k3,k4⟩,hids,_⟩:=formE_zero hf0
  obtain ⟨_,_,h12,_⟩:=booksE_zero hb0
  rw [h0] at F
  by_cases hr:0≤id∧id < s.Next
  ·have WH:=hid (fun (W:World) (h:Ext w W)=>Where_any W bv s.Books id s.Next hids k4 (hb.mono h) h12 hr.1 (by omega))
   have H1:=hid (findB_is (id:=id) h0)
   have H2:=hid (findB_no (id:=id) h0)
   obtain ⟨g1,g2⟩:=hr
   have g1':¬ id < 0:=by omega
   have g2':¬ s.Next≤id:=by omega
   obtain ⟨qa,qc,rfl,_,_,_⟩:=hl.form
   obtain ⟨ba,bc,rfl,_,_,_⟩:=hb.form
   clear hl hb h0 hf0 hb0 hids k3 k4
   generalize findB s id=fr at *
   generalize s.Tree.length=n at *
   generalize s.Books.length=z at *
   go_enter Tryz.func77,Tryz.ntmps77
   go_wp2_with fail
   refine (F.out _ HX0.out).mono ?_
   rintro e w2 ⟨rfl,hx2⟩
   obtain ⟨a0,a1,a2,a3⟩:=HS0.out w2 hx2
   go_wp2_with fail
   refine (WH.out _ (HX0.out.tr hx2)).mono ?_
   rintro e w3 ⟨i,b,rfl,hfb,hx3⟩
   obtain ⟨_,hfb⟩:=hfb
   rcases hfb with ⟨rfl,hi⟩ | ⟨rfl,hi⟩
   ·have Hg:=hid (H1.out (by rw [hi];omega))
    rw [hi] at Hg
    clear hi a0 a1 a2 a3
    go_wp2_with fail
    go_ret2
    exact retInt2_of Hg.out (HX0.out.tr (hx2.tr hx3))
   ·have Hg:=hid (H2.out (by rw [hi];omega))
    clear hi a0 a1 a2 a3
    go_wp2_with fail
    go_ret2
    exact retInt2_of Hg.out (HX0.out.tr (hx2.tr hx3))
  ·have hno:idxOf (isId id) s.Books=-1:=idxOf_none (fun j y hj hy=>by
    have:=ids_in hids j hj
    rw [idAt_some hy] at this
    unfold isId;exact decide_eq_false (by omega))
   have Hg:=hid (findB_no (id:=id) h0 (by rw [hno];omega))
   obtain ⟨qa,qc,rfl,_,_,_⟩:=hl.form
   obtain ⟨ba,bc,rfl,_,_,_⟩:=hb.form
   clear hl hb h0 hf0 hb0 hids hno
   generalize findB s id=fr at *
   generalize s.Tree.length=n at *
   generalize s.Books.length=z at *
   by_cases g1:id < 0
   ·go_enter Tryz.func77,Tryz.ntmps77
    go_wp2_with fail
    refine (F.out _ HX0.out).mono ?_
    rintro e w2 ⟨rfl,hx2⟩
    obtain ⟨a0,a1,a2,a3⟩:=HS0.out w2 hx2
    go_wp2_with fail
    go_ret2
    exact retInt2_of Hg.out (HX0.out.tr hx2)
   ·have g2:s.Next≤id:=by omega
    go_enter Tryz.func77,Tryz.ntmps77
    go_wp2_with fail
    refine (F.out _ HX0.out).mono ?_
    rintro e w2 ⟨rfl,hx2⟩
    obtain ⟨a0,a1,a2,a3⟩:=HS0.out w2 hx2
    go_wp2_with fail
    go_ret2
    exact retInt2_of Hg.out (HX0.out.tr hx2)
 ·have HR:=hid (findB_bad (id:=id) h0)
  have hne:=neT h0
  obtain ⟨qa,qc,rfl,_,_,_⟩:=hl.form
  obtain ⟨ba,bc,rfl,_,_,_⟩:=hb.form
  clear hl hb h0
  generalize findB s id=fr at *
  generalize stateE s=fe at *
  generalize s.Tree.length=n at *
  generalize s.Books.length=z at *
  go_enter Tryz.func77,Tryz.ntmps77
  go_wp2_with fail
  refine (F.out _ HX0.out).mono ?_
  rintro e w2 ⟨rfl,hx2⟩
  go_wp2_with fail
  go_ret2
  exact retInt2_of HR.out (HX0.out.tr hx2)
theorem own_empty (W:World) (T sz:Nat) (h:0 < sz):(W.alloc (.cells #[] T)).ownsRow W.heap.size T sz (.slice (some ⟨W.heap.size,0,none⟩) 0 0) 0 [] :=
 ⟨by simp,.inr ⟨W.heap.size,0,#[],rfl,Nat.le_refl _,heap_alloc_new W _,Nat.le_refl _,by decide,by simp,by simp⟩⟩
theorem pair_news {α:Type} {f g:α→Int} {w:World} {b off:Nat} {xs:List α} (hE:∀ k x,xs[k]?=some x→E2 f g w b (off+k*2) x):∀ (j:Nat) u,(cells2 f g xs)[j]?=some u→w.cell? ((⟨b,off,none⟩:Addr).add j)=some u:=by
 intro j u hj
 have hjl:=(List.getElem?_eq_some_iff.1 hj).1
 rw [cells2_length] at hjl
 have hk:j / 2 < xs.length:=by omega
 obtain ⟨x,hx⟩:∃ x,xs[j / 2]?=some x:=⟨_,List.getElem?_eq_getElem hk⟩
 obtain ⟨e1,e2,_⟩:=hE _ x hx
 obtain ⟨g1,g2⟩:=cells2_get f g xs (j / 2) x hx
 have ha:(⟨b,off,none⟩:Addr).add j=⟨b,off+j,none⟩:=by unfold Addr.add;split <;> simp_all
 rw [ha]
 by_cases hp:j % 2=0
 ·rw [show j / 2*2=j by omega] at g1 e1
  rw [hj] at g1
  rw [e1,← g1]
 ·rw [show j / 2*2+1=j by omega] at g2
  rw [hj] at g2
  rw [show off+j=off+j / 2*2+1 by omega,e2,← g2]
theorem pair_one {α:Type} {f g:α→Int} (xs:List α):∀ u∈cells2 f g xs,u.oneCell'=true:=by
 intro u hu
 unfold cells2 at hu
 obtain ⟨x,_,hx⟩:=List.mem_flatMap.1 hu
 simp only [List.mem_cons,List.not_mem_nil,or_false] at hx
 rcases hx with rfl | rfl <;> rfl
theorem CloneRun_any (w:World) (v:Value) (f:List Run) (hv:RunsV w v f) (hl:f.length≤48) :
  Calls Tryz.prog 83 #[v] w (RetRunsF w f):=by
 obtain ⟨ir,ir1,ir2,ir3,ir4⟩:=info_parts Tryz.info48
 obtain ⟨a,cap,rfl,hc1,hc2,_⟩:=hv.form
 cases a with
 | none =>
  have hf:f=[]:=by
   rcases hv with ⟨h,_⟩ | ⟨b,off,c,e,_⟩
   ·exact h
   ·cases e
  subst hf
  clear hv
  rw [List.length_nil]
  have he:∀ W,Sem.run Tryz.prog (binOp .eql 29 (.slice none 0 cap) (.slice none 0 0)) W=.ok (.bool true) W:=fun W=>rfl
  go_enter Tryz.func83,Tryz.ntmps83
  go_wp2_with fail
  go_ret
  exact ⟨_,rfl,SV.nil,(fun a n c h=>by have h':Value.slice none 0 0=.slice (some a) n c:=h;cases h'),Ext.rf w⟩
 | some ad =>
  have hnews:∀ (j:Nat) u,(cells2 Run.At Run.N f)[j]?=some u→w.cell? (ad.add j)=some u:=by
   rcases hv with ⟨rfl,_⟩ | ⟨b,off,c,e,_,_,_,_,hE⟩
   ·intro j u h;simp [cells2] at h
   ·cases e;exact pair_news hE
  have hI:∀ r∈f,I64 r.At∧I64 r.N:=by
   rcases hv with ⟨rfl,_⟩ | ⟨b,off,c,e,_,_,_,_,hE⟩
   ·intro r hr;cases hr
   ·intro r hr
    obtain ⟨k,hk⟩:=List.mem_iff_getElem?.1 hr
    obtain ⟨_,_,i1,i2⟩:=hE k r hk
    exact ⟨i1,i2⟩
  have HN:=hid hnews
  have HI:=hid hI
  have hlen:=cells2_length Run.At Run.N f
  have HL:=hid hlen
  have hown:=own_empty w 48 2 (by omega)
  clear hv hnews hI hlen
  generalize hn:f.length=n at *
  have Hn:=hid hn
  clear hn
  have he:∀ W,Sem.run Tryz.prog (binOp .eql 29 (.slice (some ad) n cap) (.slice none 0 0)) W=.ok (.bool false) W:=fun W=>rfl
  go_enter Tryz.func83,Tryz.ntmps83
  go_wp2_with (at_builtin;refine wpList_append_own _ rfl _ _ 29 rfl w.heap.size 48 ir _ 2 16 Tryz.underlying29 ir1 ir2 ir3 ir4 rfl (by decide) _ _ _ rfl hown ad n cap (cells2 Run.At Run.N f) rfl HL.out (fun j u hj=>ext_ceA ((Ext.rf w).al _) (HN.out j u hj)) (pair_one f) (by unfold maxLen;omega) (by omega) (by simp) ?_)
  intro v2 W2 hown2 hgrow2 hnil2
  have HO:=hid hown2
  have HX:=hid (((Ext.rf w).al (.cells #[] 48)).gr hgrow2 (fun k hk=>by cases hk;exact Nat.le_refl _))
  clear hown2 hgrow2 hnil2 hown
  go_wp2_with fail
  go_ret
  refine ⟨_,rfl,sv_of_owns2 (base:=w.heap.size) (e:=48) ?_ HI.out (by rw [Hn.out];omega),own_fresh HO.out,HX.out⟩
  have h:=HO.out
  rw [Hn.out]
  simpa using h
open Go.RowKit Go.ChangeShapes Go.WideShapes Go.Deep
theorem flatw {α:Type} {m:Nat} (hm:0 < m):∀ (css:List (List α)),(∀ cs∈css,cs.length=m)→∀ k j,j < m→css.flatten[k*m+j]?=(css[k]?).bind (fun cs=>cs[j]?)
 | [],_,k,j,_=>by simp
 | cs::css,h,k,j,hj=>by
  have h1:=h cs (List.mem_cons_self ..)
  rw [List.flatten_cons]
  cases k with
  | zero =>
   rw [Nat.zero_mul,Nat.zero_add,List.getElem?_append_left (by omega)]
   rfl
  | succ k =>
   have e:(k+1)*m=k*m+m:=by rw [Nat.succ_mul]
   rw [List.getElem?_append_right (by omega),h1,show (k+1)*m+j - m=k*m+j by omega,flatw hm css (fun c hc=>h c (List.mem_cons_of_mem _ hc)) k j hj]
   rfl
theorem flatw_len {α:Type} {m:Nat}:∀ (css:List (List α)),(∀ cs∈css,cs.length=m)→css.flatten.length=css.length*m
 | [],_=>by simp
 | cs::css,h=>by
  rw [List.flatten_cons,List.length_append,h cs (List.mem_cons_self ..),flatw_len css (fun c hc=>h c (List.mem_cons_of_mem _ hc)),List.length_cons,Nat.succ_mul]
  omega
def QRow (bs:List Nat) (W:World) (g:Nat) (l:List Queue):Prop :=
 ∃ vs:List Value,RowAt 46 W g vs∧∀ j x,l[j]?=some x→vs[j*3]?=some (.string x.Name)∧x.Name.size≤9223372036854775807∧vs[j*3+1]?=some (.int .i64 x.Parent)∧I64 x.Parent∧∃ cv,vs[j*3+2]?=some cv∧RunsV W cv x.Cap∧ApartL (g::bs) cv
def NewIn (m j k base:Nat) (W:World) (g:Nat):Prop:=g < W.heap.size∧∀ i,i < k→∀ a n c,W.cell? ⟨g,i*m+j,none⟩=some (.slice (some a) n c)→base≤a.block
theorem NewIn.zero {m j base:Nat} {W:World} {g:Nat} (h:g < W.heap.size):NewIn m j 0 base W g:=⟨h,fun i hi=>by omega⟩
theorem NewIn.ext {m j k base:Nat} {W W':World} {g:Nat} (h:NewIn m j k base W g) (hx:Ext W W'):NewIn m j k base W' g :=
 ⟨Nat.lt_of_lt_of_le h.1 hx.size,fun i hi a n c e=>h.2 i hi a n c (by rw [← hx.ce h.1];exact e)⟩
theorem NewIn.kept {m j k base r:Nat} {W W':World} {g:Nat} (h:NewIn m j k base W g) (hg:W.grownBy W' (some r)) (hr:g≠r):NewIn m j k base W' g :=
 ⟨Nat.lt_of_lt_of_le h.1 hg.size,fun i hi a n c e=>h.2 i hi a n c (by rw [← World.cell?_of_block (a:=⟨g,i*m+j,none⟩) (hg.block g h.1 (fun e=>hr (Option.some.inj e)))];exact e)⟩
theorem NewIn.less {m j k l base b2:Nat} {W:World} {g:Nat} (h:NewIn m j k base W g) (hl:l≤k) (hb:b2≤base):NewIn m j l b2 W g :=
 ⟨h.1,fun i hi a n c e=>Nat.le_trans hb (h.2 i (by omega) a n c e)⟩
theorem NewIn.other {m j k base o:Nat} {W:World} {g:Nat} (h:NewIn m j k base W g) (ho:∀ i,i < k→i*m+j≠o) (u:Value):NewIn m j k base (W.setCell ⟨g,o,none⟩ u) g :=
 ⟨by simpa [World.setCell] using h.1,fun i hi a n c e=>h.2 i hi a n c (by rw [← e];exact (World.cell?_setCell_other _ _ _ _ (fun e2=>ho i hi (by injection e2 with _ e3;exact e3.symm))).symm)⟩
theorem NewIn.set {m j k base:Nat} {W:World} {g:Nat} {u old:Value} (h:NewIn m j k base W g) (hm:0 < m) (hc:W.cell? ⟨g,k*m+j,none⟩=some old) (hu:∀ a n c,u=.slice (some a) n c→base≤a.block):NewIn m j (k+1) base (W.setCell ⟨g,k*m+j,none⟩ u) g:=by
 have h1:=h.other (o:=k*m+j) (fun i hi e=>by
  have:=(Nat.mul_lt_mul_right hm).2 hi
  omega) u
 refine ⟨h1.1,fun i hi a n c e=>?_⟩
 by_cases hik:i=k
 ·subst hik
  rw [World.cell?_setCell_same _ _ _ hc] at e
  exact hu a n c (Option.some.inj e)
 ·exact h1.2 i (by omega) a n c e
theorem QRow.ext {bs:List Nat} {W W':World} {g:Nat} {l:List Queue} (h:QRow bs W g l) (hx:Ext W W'):QRow bs W' g l:=by
 obtain ⟨vs,h1,h2⟩:=h
 refine ⟨vs,h1.ext hx,fun j x hj=>?_⟩
 obtain ⟨a,b,c,d,cv,e,f,i⟩:=h2 j x hj
 exact ⟨a,b,c,d,cv,e,f.mono hx,i⟩
theorem QRow.kept {bs:List Nat} {W W':World} {g r:Nat} {l:List Queue} (h:QRow bs W g l) (hg:W.grownBy W' (some r)) (hr:r∈bs) (hne:g≠r):QRow bs W' g l:=by
 obtain ⟨vs,h1,h2⟩:=h
 refine ⟨vs,h1.kept hg (fun e=>hne (Option.some.inj e)),fun j x hj=>?_⟩
 obtain ⟨a,b,c,d,cv,e,f,i⟩:=h2 j x hj
 exact ⟨a,b,c,d,cv,e,runs_grown f i hg (fun r' e'=>by cases e';exact List.mem_cons_of_mem _ hr),i⟩
theorem grown_srow (W:World) (b:Nat) (cs:Array Value):W.grownBy (W.setRow b cs) (some b) :=
 ⟨rfl,rfl,rfl,by simp [World.setRow],fun k _ hne=>setRow_other W b k cs (fun e=>hne (by rw [e]))⟩
theorem QRow.v {bs:List Nat} {W:World} {g cap:Nat} {l:List Queue} (h:QRow bs W g l) (hc:l.length≤cap) (hc2:cap≤9223372036854775807) (h5:l.length≤5):QueuesV W (.slice (some ⟨g,0,none⟩) l.length cap) l:=by
 obtain ⟨vs,h1,h2⟩:=h
 refine .inr ⟨g,0,cap,rfl,hc,hc2,by omega,h1.lt,fun k x hk=>?_⟩
 obtain ⟨a,b,c,d,cv,e,f,_⟩:=h2 k x hk
 rw [Nat.zero_add]
 exact ⟨h1.cell a,b,h1.cell c,d,cv,h1.cell e,f⟩
theorem QRow.cell {bs:List Nat} {W:World} {g:Nat} {l:List Queue} (h:QRow bs W g l) {k:Nat} {x:Queue} (hk:l[k]?=some x):∃ cv,W.cell? ⟨g,k*3+2,none⟩=some cv∧W.frozen? ⟨g,k*3+2,none⟩=false∧RunsV W cv x.Cap∧g < W.heap.size:=by
 obtain ⟨vs,h1,h2⟩:=h
 obtain ⟨_,_,_,_,cv,e,f,_⟩:=h2 k x hk
 exact ⟨cv,h1.cell e,h1.free _,f,h1.lt⟩
theorem QRow.set {bs:List Nat} {W:World} {g:Nat} {l:List Queue} (h:QRow bs W g l) {k:Nat} {x:Queue} (hk:l[k]?=some x) {cv:Value} (hv:RunsV W cv x.Cap) (ha:ApartL (g::bs) cv):QRow bs (W.setCell ⟨g,k*3+2,none⟩ cv) g l:=by
 obtain ⟨vs,h1,h2⟩:=h
 have hg:=grown_set W g (k*3+2) cv
 have hr:∀ r,some g=some r→r∈g::bs:=fun r e=>by cases e;exact List.mem_cons_self ..
 refine ⟨vs.set (k*3+2) cv,h1.set _ _,fun j y hj=>?_⟩
 obtain ⟨a,b,c,d,cw,e,f,i⟩:=h2 j y hj
 refine ⟨by rw [List.getElem?_set_ne (by omega)];exact a,b,by rw [List.getElem?_set_ne (by omega)];exact c,d,?_⟩
 by_cases hjk:j=k
 ·subst hjk
  rw [hk] at hj
  cases hj
  exact ⟨cv,by rw [List.getElem?_set_self (List.getElem?_eq_some_iff.1 e).1],runs_grown hv ha hg hr,ha⟩
 ·exact ⟨cw,by rw [List.getElem?_set_ne (by omega)];exact e,runs_grown f i hg hr,i⟩
theorem Tryz.info46:(Tryz.prog.info? 46).map (fun i=>(i.zero,i.size,i.bytes))=some (some (.agg #[.string ByteArray.empty,.int .i64 0,.slice none 0 0]),3,48):=by kernel_rfl
theorem queues_cells {w:World} {b off:Nat} {l:List Queue} (hE:∀ k x,l[k]?=some x→EQueue w b (off+k*3) x) (hc:∀ k,k < l.length→Shape (cp l k)):∃ css:List (List Value),css.length=l.length∧(∀ cs∈css,cs.length=3)∧(∀ u∈css.flatten,u.oneCell'=true) ∧
  (∀ (j:Nat) u,css.flatten[j]?=some u→w.cell? ((⟨b,off,none⟩:Addr).add j)=some u)∧∀ (k:Nat) x,l[k]?=some x→∃ cv,css[k]?=some [.string x.Name,.int .i64 x.Parent,cv]∧RunsV w cv x.Cap∧x.Cap≠[]:=by
 have each:∀ k,k < l.length→∃ cs:List Value,∀ x,l[k]?=some x→∃ cv,cs=[.string x.Name,.int .i64 x.Parent,cv]∧RunsV w cv x.Cap∧w.cell? ⟨b,off+k*3,none⟩=some (.string x.Name)∧w.cell? ⟨b,off+k*3+1,none⟩=some (.int .i64 x.Parent)∧w.cell? ⟨b,off+k*3+2,none⟩=some cv:=fun k hk=>by
  obtain ⟨x,hx⟩:=getA (f:=l) (k:=k) hk
  obtain ⟨c1,_,c2,_,cv,c3,hr⟩:=hE k x hx
  exact ⟨[.string x.Name,.int .i64 x.Parent,cv],fun y hy=>by rw [hx] at hy;cases hy;exact ⟨cv,rfl,hr,c1,c2,c3⟩⟩
 obtain ⟨f,hf⟩:=choose_lt (α:=List Value) (p:=fun k cs=>∀ x,l[k]?=some x→∃ cv,cs=[.string x.Name,.int .i64 x.Parent,cv]∧RunsV w cv x.Cap∧w.cell? ⟨b,off+k*3,none⟩=some (.string x.Name)∧w.cell? ⟨b,off+k*3+1,none⟩=some (.int .i64 x.Parent)∧w.cell? ⟨b,off+k*3+2,none⟩=some cv) each
 have hget:∀ k cs,((List.range l.length).map f)[k]?=some cs→k < l.length∧cs=f k:=fun k cs hk=>by
  rw [List.getElem?_map] at hk
  by_cases hkl:k < l.length
  ·rw [List.getElem?_range hkl] at hk
   exact ⟨hkl,by simpa using hk.symm⟩
  ·rw [List.getElem?_eq_none (by simpa using hkl)] at hk
   cases hk
 have h3:∀ cs∈(List.range l.length).map f,cs.length=3:=fun cs hcs=>by
  obtain ⟨k,hk⟩:=List.mem_iff_getElem?.1 hcs
  obtain ⟨hkl,rfl⟩:=hget k cs hk
  obtain ⟨x,hx⟩:=getA (f:=l) (k:=k) hkl
  obtain ⟨cv,e,_⟩:=hf k hkl x hx
  rw [e];rfl
 refine ⟨(List.range l.length).map f,by simp,h3,fun u hu=>?_,fun j u hj=>?_,fun k x hx=>?_⟩
 ·obtain ⟨cs,hcs,hu⟩:=List.mem_flatten.1 hu
  obtain ⟨k,hk⟩:=List.mem_iff_getElem?.1 hcs
  obtain ⟨hkl,rfl⟩:=hget k cs hk
  obtain ⟨x,hx⟩:=getA (f:=l) (k:=k) hkl
  obtain ⟨cv,e,hr,_⟩:=hf k hkl x hx
  obtain ⟨a,c,rfl,_⟩:=hr.form
  rw [e] at hu
  simp only [List.mem_cons,List.not_mem_nil,or_false] at hu
  rcases hu with rfl | rfl | rfl <;> rfl
 ·have e:j=j / 3*3+j % 3:=by omega
  rw [e,flatw (by omega) _ h3 (j / 3) (j % 3) (by omega)] at hj
  cases hc:((List.range l.length).map f)[j / 3]? with
  | none=>rw [hc] at hj;cases hj
  | some cs =>
   rw [hc] at hj
   obtain ⟨hk,rfl⟩:=hget _ cs hc
   obtain ⟨x,hx⟩:=getA (f:=l) (k:=j / 3) hk
   obtain ⟨cv,e2,_,c1,c2,c3⟩:=hf _ hk x hx
   have hj':(f (j / 3))[j % 3]?=some u:=hj
   rw [e2] at hj'
   rw [addr_add]
   rcases (by omega:j % 3=0∨j % 3=1∨j % 3=2) with h | h | h
   ·rw [h] at hj';cases hj'
    rwa [show off+j / 3*3=off+j by omega] at c1
   ·rw [h] at hj';cases hj'
    rwa [show off+j / 3*3+1=off+j by omega] at c2
   ·rw [h] at hj';cases hj'
    rwa [show off+j / 3*3+2=off+j by omega] at c3
 ·have hkl:=(List.getElem?_eq_some_iff.1 hx).1
  obtain ⟨cv,e,hr,_⟩:=hf k hkl x hx
  refine ⟨cv,by rw [List.getElem?_map,List.getElem?_range hkl];simp [e],hr,fun h0=>?_⟩
  have:=hc k hkl
  rw [(at_some hx).2.2,h0] at this
  exact this
theorem CloneQueue_any (bs:List Nat) (w0 w:World) (v:Value) (l:List Queue) (hv:QueuesV w0 v l) (hw:Ext w0 w) (ok:TreeOk l) (hbs:∀ r∈bs,w0.heap.size≤r∧r < w.heap.size) :
  Calls Tryz.prog 162 #[v] w fun e w'=>∃ g cap,e=.returned (.slice (some ⟨g,0,none⟩) l.length cap)∧l.length≤cap∧cap≤9223372036854775807∧w.heap.size≤g∧QRow bs w' g l∧Ext w w':=by
 obtain ⟨ir,ir1,ir2,ir3,ir4⟩:=info_parts Tryz.info46
 obtain ⟨b,off,c,rfl,hc1,hc2,hb,hE⟩:=queues_at hv ok.n1
 have hI:∀ (k:Nat) (x:Queue),l[k]?=some x→x.Name.size≤9223372036854775807∧I64 x.Parent:=fun k x hk=>by
  obtain ⟨_,h1,_,h2,_⟩:=hE k x hk
  exact ⟨h1,h2⟩
 have HI:=hid hI
 obtain ⟨css,h1,h3,ho,hnews,hq⟩:=queues_cells hE (fun k hk=>(ok.caps k hk).1.1)
 have hlen:=flatw_len css h3
 rw [h1] at hlen
 have HL:=hid hlen
 have HN:=hid hnews
 have HO1:=hid ho
 have HQ:=hid hq
 have H3:=hid h3
 have hn5:=ok.n5
 have hn1:=ok.n1
 have hown:=own_empty w 46 3 (by omega)
 clear hv hE hnews ho hq hlen hI h3
 generalize hn:l.length=n at *
 have Hn:=hid hn
 clear hn
 have he:∀ W,Sem.run Tryz.prog (binOp .eql 22 (.slice (some ⟨b,off,none⟩) n c) (.slice none 0 0)) W=.ok (.bool false) W:=fun W=>rfl
 go_enter Tryz.func162,Tryz.ntmps162
 go_wp2_with (at_builtin;refine wpList_append_own _ rfl _ _ 22 rfl w.heap.size 46 ir _ 3 48 Tryz.underlying22 ir1 ir2 ir3 ir4 rfl (by decide) _ _ _ rfl hown ⟨b,off,none⟩ n c css.flatten rfl HL.out (fun j u hj=>ext_ceA (hw.al _) (HN.out j u hj)) HO1.out (by unfold maxLen;omega) (by omega) (by simp) ?_)
 intro v2 W2 hown2 hgrow2 hnil2
 have HO:=hid hown2
 have HX:=hid (((Ext.rf w).al (.cells #[] 46)).gr hgrow2 (fun k hk=>by cases hk;exact Nat.le_refl _))
 clear hown2 hgrow2 hnil2 hown
 obtain ⟨g,cap,hvv⟩:∃ g cap,v2=.slice (some ⟨g,0,none⟩) n cap:=by
  rcases HO.out.2 with ⟨_,h⟩ | ⟨g,cap,_,h,_⟩
  ·omega
  ·exact ⟨g,cap,by simpa using h⟩
 subst hvv
 go_wp2_with fail
 go_ret
 rcases HO.out.2 with ⟨h,_⟩ | ⟨g',cap',cur,h,hb',hg,hcp,hm,hcs,htk⟩
 ·cases h
 ·cases h
  have htk':cur.toList.take (n*3)=css.flatten:=by simpa using htk
  refine ⟨g,cap,rfl,by simpa using hcp,by unfold maxLen at hm;omega,hb',⟨cur.toList,by unfold RowAt;simpa using hg,fun j x hj=>?_⟩,HX.out⟩
  have hjn:j < n:=by have:=(List.getElem?_eq_some_iff.1 hj).1;rw [Hn.out] at this;exact this
  obtain ⟨cv,e,hr,hne⟩:=HQ.out j x hj
  have get:∀ i,i < 3→cur.toList[j*3+i]?=([.string x.Name,.int .i64 x.Parent,cv]:List Value)[i]?:=fun i hi=>by
   have h1:(cur.toList.take (n*3))[j*3+i]?=cur.toList[j*3+i]?:=List.getElem?_take_of_lt (by omega)
   rw [← h1,htk',flatw (by omega) css H3.out j i hi,e]
   rfl
  obtain ⟨b2,off2,c2,rfl,hbl,_⟩:=runs_cells hr hne
  refine ⟨get 0 (by omega),(HI.out j x hj).1,get 1 (by omega),(HI.out j x hj).2,_,get 2 (by omega),hr.mono (hw.tr HX.out),apart_at (fun hm2=>?_)⟩
  have hws:=hw.size
  rcases List.mem_cons.1 hm2 with h | h
  ·omega
  ·have:=(hbs _ h).1;omega
theorem planOwnTree_any (bs:List Nat) (w0 w:World) (v:Value) (l:List Queue) (hv:QueuesV w0 v l) (hw:Ext w0 w) (ok:TreeOk l) (hbs:∀ r∈bs,w0.heap.size≤r∧r < w.heap.size) :
  Calls Tryz.prog 117 #[v] w fun e w'=>∃ g cap,e=.returned (.slice (some ⟨g,0,none⟩) l.length cap)∧l.length≤cap∧cap≤9223372036854775807∧w.heap.size≤g∧QRow bs w' g l∧NewIn 3 2 l.length w.heap.size w' g∧Ext w w':=by
 have C:=hid (CloneQueue_any bs w0 w v l hv hw ok hbs)
 have CR:=hid (fun (W:World) (u:Value) (k:Nat) (x:Queue) (hk:l[k]?=some x) (hu:RunsV W u x.Cap)=>CloneRun_any W u x.Cap hu (by
  have:=ok.caps k (List.getElem?_eq_some_iff.1 hk).1
  rw [(at_some hk).2.2] at this
  exact shape_len this.1.1))
 have CN:=hid (fun (k:Nat) (x:Queue) (hk:l[k]?=some x)=>show x.Cap≠[] from fun h0=>by
  have:=(ok.caps k (List.getElem?_eq_some_iff.1 hk).1).1.1
  rw [(at_some hk).2.2,h0] at this
  exact this)
 have hn5:=ok.n5
 have HBS:=hid hbs
 obtain ⟨a,cap,rfl,_,_,_⟩:=hv.form
 clear hv ok hbs
 generalize hn:l.length=n at *
 have Hn:=hid hn
 clear hn
 go_enter Tryz.func117,Tryz.ntmps117
 go_wp2_with fail
 refine C.out.mono ?_
 rintro e w1 ⟨g,cap2,rfl,hc1,hc2,hg,hQ,hx1⟩
 have HQ:=hid hQ
 have HNI:=hid (NewIn.zero (m:=3) (j:=2) (base:=w.heap.size) (W:=w1) (g:=g) (by obtain ⟨vs,h,_⟩:=hQ;exact h.lt))
 clear hQ
 go_wp2_with fail
 go_loopw [8] (fun c wr=>∃ k:Nat,c=.int .i64 k∧k≤n∧Hid (QRow bs wr g l)∧Hid (NewIn 3 2 k w.heap.size wr g)∧Ext w wr) (fun c _=>n - (intOf c).toNat)
 case atStart=>exact ⟨0,rfl,by omega,HQ,HNI,hx1⟩
 case round =>
  obtain ⟨k,rfl,hk,HR,HNK,hx⟩:=hrel
  by_cases hlt:k < n
  ·have hlt':(k:Int) < (n:Int):=by omega
   obtain ⟨x,hxk⟩:=getA (f:=l) (k:=k) (by rw [Hn.out];exact hlt)
   obtain ⟨cv,c1,f1,hr,hgl⟩:=HR.out.cell hxk
   have hne:=CN.out k x hxk
   obtain ⟨cb,co,cc,rfl,_⟩:=runs_cells hr hne
   have CL:=hid (CR.out wr _ k x hxk hr)
   have HXK:=hid hxk
   have HNE:=hid hne
   clear hr hxk hne f1
   generalize x.Cap.length=xn at *
   go_wp2_with fail
   refine CL.out.mono ?_
   rintro e w2 ⟨u,rfl,hu,hfr,hx2⟩
   have HQ2:=hid (HR.out.ext hx2)
   obtain ⟨cv2,c3,f3,_,hgl2⟩:=HQ2.out.cell HXK.out
   obtain ⟨ub,uo,uc,rfl,_⟩:=runs_cells hu HNE.out
   have hap:ApartL (g::bs) (.slice (some ⟨ub,uo,none⟩) x.Cap.length uc):=apart_at (fun hm=>by
    have e2:wr.heap.size≤ub:=hfr _ _ _ rfl
    have e3:=hx.size
    rcases List.mem_cons.1 hm with h | h
    ·omega
    ·have:=(HBS.out _ h).2;omega)
   have HS:=hid (HQ2.out.set HXK.out hu hap)
   have HNK2:=hid ((HNK.out.ext hx2).set (by omega) c3 (u:=.slice (some ⟨ub,uo,none⟩) x.Cap.length uc) (fun a n' c' e2=>by cases e2;exact Nat.le_trans hx.size (hfr _ _ _ rfl)))
   clear hu hfr hap CL
   generalize x.Cap.length=xm at *
   go_wp2_with fail
   go_roundw
   case rel=>exact ⟨k+1,by go_num,by omega,HS,HNK2,(hx.tr hx2).se hg _⟩
   case measure=>simp [intOf];omega
  ·obtain rfl:k=n:=by omega
   have hlt':¬ (k:Int) < (k:Int):=by omega
   go_wp2_with fail
   go_ret
   exact ⟨g,cap2,rfl,hc1,hc2,hg,HR.out,HNK.out,hx⟩
theorem Tryz.size25:(Tryz.prog.info? 25).map (·.size)=some 4:=by kernel_rfl
theorem results_row_tmp {P:Program} {fn:Func} {p u:Tmp} {ty:TypeId} (h:fn.results=#[.cell p ty,.tmp u]) (tmps:Array Value) (w:World) (g:Nat) (t:TypeId) (cs:Array Value) (fr:Nat × Nat) (d:TypeDesc)
  (hp:tmps.getD p undef=.pointer (some ⟨g,0,none⟩)) (hg:w.heap[g]?=some (.cells cs t fr))
  (hu:P.underlying ty=some d) (hd:(match d with | .struct _ | .array _ _=>true | _=>false)=true) (hi:(P.info? ty).map (·.size)=some cs.size) :
  (results fn tmps).run P w=.ok (.tuple #[.agg cs,tmps.getD u undef]) w:=by
 rw [results_cell_tmp h,hp]
 simp [asAddr,run_loadVar_row w g t ty cs fr d hg hu hd hi]
def OutQ (bs:List Nat) (base:Nat) (l:List Queue) (k:Nat) (v:Value) (W:World):Prop :=
 ∃ css:List (List Value),css.length=k∧W.ownsRow base 46 3 v k css.flatten∧(∀ cs∈css,cs.length=3) ∧
  ∀ (j:Nat) (x:Queue),j < k→l[j]?=some x→∃ cv,css[j]?=some [.string x.Name,.int .i64 x.Parent,cv]∧RunsV W cv x.Cap∧x.Cap≠[]∧ApartL bs cv∧∀ g,v.ownBlock=some g→ApartL [g] cv
theorem OutQ.nil (bs:List Nat) (base:Nat) (l:List Queue) (W:World):OutQ bs base l 0 (.slice none 0 0) W:=⟨[],rfl,World.ownsRow_nil _ _ _ _,by simp,fun j x h=>by omega⟩
theorem OutQ.ext {bs:List Nat} {base k:Nat} {l:List Queue} {v:Value} {W W':World} (h:OutQ bs base l k v W) (hx:Ext W W'):OutQ bs base l k v W':=by
 obtain ⟨css,h1,h2,h3,h4⟩:=h
 refine ⟨css,h1,ownsRow_ext h2 hx,h3,fun j x hj hk=>?_⟩
 obtain ⟨cv,a,b,c,d,e⟩:=h4 j x hj hk
 exact ⟨cv,a,b.mono hx,c,d,e⟩
theorem OutQ.step {bs:List Nat} {base k:Nat} {l:List Queue} {v cv:Value} {W W':World} {css:List (List Value)} {x:Queue} {g cap:Nat} (h1:css.length=k) (h3:∀ cs∈css,cs.length=3)
  (h4:∀ (j:Nat) (x:Queue),j < k→l[j]?=some x→∃ cv,css[j]?=some [.string x.Name,.int .i64 x.Parent,cv]∧RunsV W cv x.Cap∧x.Cap≠[]∧ApartL bs cv∧∀ g,v.ownBlock=some g→ApartL [g] cv)
  (hk:l[k]?=some x) (hu:RunsV W cv x.Cap) (hne:x.Cap≠[]) (hb:ApartL bs cv) (hf:∀ g,v.ownBlock=some g→ApartL [g] cv)
  (ho:W'.ownsRow base 46 3 (.slice (some ⟨g,0,none⟩) (k+1) cap) (k+1) (css.flatten++[.string x.Name,.int .i64 x.Parent,cv])) (hg:W.grownBy W' v.ownBlock) (hgg:v.ownBlock=some g∨g=W.heap.size) :
  OutQ bs base l (k+1) (.slice (some ⟨g,0,none⟩) (k+1) cap) W':=by
 have key:∀ (y:Queue) (c:Value),RunsV W c y.Cap→y.Cap≠[]→(∀ g,v.ownBlock=some g→ApartL [g] c)→RunsV W' c y.Cap∧∀ g',(Value.slice (some ⟨g,0,none⟩) (k+1) cap).ownBlock=some g'→ApartL [g'] c:=by
  intro y c hy hn ha
  obtain ⟨b,off,c',e,hbl,_⟩:=runs_cells hy hn
  refine ⟨runsV_grown hy hg (fun a n c e he=>ha a.block he.symm a n c e (List.mem_singleton.2 rfl)),fun g' hg'=>?_⟩
  obtain rfl:g=g':=by simpa [Value.ownBlock] using hg'
  subst e
  rcases hgg with h | h
  ·exact ha g h
  ·exact apart_at (fun hm=>by have:=List.mem_singleton.1 hm;omega)
 refine ⟨css++[[.string x.Name,.int .i64 x.Parent,cv]],by simp [h1],by rw [List.flatten_append];simpa using ho,fun cs hcs=>?_,fun j y hj hy=>?_⟩
 ·rcases List.mem_append.1 hcs with h | h
  ·exact h3 cs h
  ·rw [List.mem_singleton.1 h];rfl
 ·by_cases hjk:j < k
  ·obtain ⟨c,a,b,n,d,e⟩:=h4 j y hjk hy
   obtain ⟨q1,q2⟩:=key y c b n e
   exact ⟨c,by rw [List.getElem?_append_left (by omega)];exact a,q1,n,d,q2⟩
  ·obtain rfl:j=k:=by omega
   rw [hk] at hy
   cases hy
   obtain ⟨q1,q2⟩:=key x cv hu hne hf
   exact ⟨cv,by rw [List.getElem?_append_right (by omega),h1,Nat.sub_self];rfl,q1,hne,hb,q2⟩
theorem OutQ.row {bs:List Nat} {base:Nat} {l:List Queue} {v:Value} {W:World} (h:OutQ bs base l l.length v W) (h1:1≤l.length) (hI:∀ (k:Nat) (x:Queue),l[k]?=some x→x.Name.size≤9223372036854775807∧I64 x.Parent) :
  ∃ g cap,v=.slice (some ⟨g,0,none⟩) l.length cap∧l.length≤cap∧cap≤9223372036854775807∧base≤g∧QRow bs W g l:=by
 obtain ⟨css,c1,c2,c3,c4⟩:=h
 rcases c2.2 with ⟨_,h0⟩ | ⟨g,cap,cur,rfl,hb,hg,hcp,hm,hcs,htk⟩
 ·omega
 ·refine ⟨g,cap,rfl,hcp,by unfold maxLen at hm;omega,hb,cur.toList,by unfold RowAt;simpa using hg,fun j x hj=>?_⟩
  have hjn:=(List.getElem?_eq_some_iff.1 hj).1
  obtain ⟨cv,e,hr,hne,hbs,hap⟩:=c4 j x hjn hj
  have get:∀ i,i < 3→cur.toList[j*3+i]?=([.string x.Name,.int .i64 x.Parent,cv]:List Value)[i]?:=fun i hi=>by
   have h1:(cur.toList.take (l.length*3))[j*3+i]?=cur.toList[j*3+i]?:=List.getElem?_take_of_lt (by omega)
   rw [← h1,htk,flatw (by omega) css c3 j i hi,e]
   rfl
  refine ⟨get 0 (by omega),(hI j x hj).1,get 1 (by omega),(hI j x hj).2,cv,get 2 (by omega),hr,fun a n c he hm2=>?_⟩
  rcases List.mem_cons.1 hm2 with h | h
  ·exact hap g rfl a n c he (by rw [h];exact List.mem_singleton.2 rfl)
  ·exact hbs a n c he h
theorem keep3 {w1 w':World} {a1 a2 a3:Addr} {a b c:Value} (hx:Ext w1 w') (b0:w1.cell? a1=some a) (b1:w1.cell? a2=some b) (b2:w1.cell? a3=some c) :
  w'.cell? a1=some a∧w'.cell? a2=some b∧w'.cell? a3=some c:=⟨ext_ceA hx b0,ext_ceA hx b1,ext_ceA hx b2⟩
theorem sv_at {α:Type} {sz:Nat} {E:World→Nat→Nat→α→Prop} {w:World} {v:Value} {l:List α} (hv:SV sz E w v l):∃ a cap,v=.slice a l.length cap∧l.length≤cap∧cap≤9223372036854775807∧l.length≤17592186044416 ∧
  (1≤l.length→∃ b off,a=some ⟨b,off,none⟩∧b < w.heap.size∧∀ k x,l[k]?=some x→E w b (off+k*sz) x):=by
 rcases hv with ⟨rfl,a,cap,rfl,h⟩ | ⟨b,off,cap,rfl,h1,h2,h3,h4,h5⟩
 ·exact ⟨a,cap,rfl,by simp,h,by simp,fun h=>by simp at h⟩
 ·exact ⟨_,cap,rfl,h1,h2,h3,fun _=>⟨b,off,rfl,h4,h5⟩⟩
theorem sameTrees_yes (w:World) (vf vg:Value) (l:List Queue) (hf:QueuesV w vf l) (hg:QueuesV w vg l) :
  Calls Tryz.prog 55 #[vf,vg] w fun e w'=>e=.returned (.bool true)∧Ext w w':=by
 obtain ⟨fa,fc,rfl,_,_,_,hfE⟩:=sv_at hf
 obtain ⟨ga,gc,rfl,_,_,_,hgE⟩:=sv_at hg
 have HF:=hid hfE
 have HG:=hid hgE
 clear hf hg hfE hgE
 generalize hn:l.length=n at *
 have Hn:=hid hn
 clear hn
 go_enter Tryz.func55,Tryz.ntmps55
 go_wp2_with fail
 go_loopw [5] (fun c wr=>∃ k:Nat,c=.int .i64 k∧k≤n∧Ext w wr) (fun c _=>n - (intOf c).toNat)
 case atStart=>exact ⟨0,rfl,by omega,Ext.rf w⟩
 case round =>
  obtain ⟨k,rfl,hk,hx⟩:=hrel
  by_cases hlt:k < n
  ·have hlt':(k:Int) < (n:Int):=by omega
   obtain ⟨x,hxk⟩:=getA (f:=l) (k:=k) (by rw [Hn.out];exact hlt)
   obtain ⟨fb,fo,rfl,hfb,hfe⟩:=HF.out (by omega)
   obtain ⟨gb,go,rfl,hgb,hge⟩:=HG.out (by omega)
   obtain ⟨c0,_,c1,_,cv,c2,hu⟩:=EQueue.mono w wr fb _ x hx (hfe k x hxk)
   obtain ⟨d0,_,d1,_,dv,d2,hv⟩:=EQueue.mono w wr gb _ x hx (hge k x hxk)
   replace c0:=fun p:Later wr=>p.cell c0
   replace c1:=fun p:Later wr=>p.cell c1
   replace c2:=fun p:Later wr=>p.cell c2
   replace d0:=fun p:Later wr=>p.cell d0
   replace d1:=fun p:Later wr=>p.cell d1
   replace d2:=fun p:Later wr=>p.cell d2
   have ML:=hid (fun p:Later wr=>later_of p (v:=.bool true) (sameRuns_yes (hu.mono p.h) (hv.mono p.h)))
   obtain ⟨ua,uc,rfl,_,_,_⟩:=hu.form
   obtain ⟨va,vc,rfl,_,_,_⟩:=hv.form
   have t1:=deF (show ¬ (k:Int) < 0 by omega)
   have t2:=deF (show ¬ (n:Int)≤(k:Int) by omega)
   have t3:=deF (show ¬ n≤k by omega)
   clear hfe hge hu hv hxk
   generalize x.Cap.length=xn at *
   go_wp2_with fail
   refine region_later (by kernel_rfl) (by kernel_rfl) ?_
   repeat (go_big_quiet_step (with_reducible exact ML.out _))
   refine wpQuiet_nil ?_
   rintro w' ⟨p,rfl⟩
   have HX:=hid (hx.tr p.h)
   clear ML c0 c1 c2 d0 d1 d2
   generalize p.v=W at *
   go_wp2_with fail
   go_roundw
   case rel=>exact ⟨k+1,by go_num,by omega,HX.out⟩
   case measure=>simp [intOf];omega
  ·obtain rfl:k=n:=by omega
   have hlt':¬ (k:Int) < (k:Int):=by omega
   go_wp2_with fail
   go_ret
   exact ⟨rfl,hx⟩
theorem reqCells2 {w W:World} {a b c d e:Value} {t:TypeId} (hx:Ext (w.alloc (.cells #[a,b,c,d,e] t)) W) :
  W.cell? ⟨w.heap.size,0,none⟩=some a∧W.cell? ⟨w.heap.size,1,none⟩=some b∧W.cell? ⟨w.heap.size,2,none⟩=some c∧W.cell? ⟨w.heap.size,3,none⟩=some d∧W.cell? ⟨w.heap.size,4,none⟩=some e:=by
 have h:=heap_alloc_new w (.cells #[a,b,c,d,e] t)
 have k:∀ j v,(#[a,b,c,d,e]:Array Value)[j]?=some v→W.cell? ⟨w.heap.size,j,none⟩=some v:=fun j v hv=>hx.ce' (by rw [cell_of_row _ _ _ _ _ _ h];exact hv)
 exact ⟨k 0 _ rfl,k 1 _ rfl,k 2 _ rfl,k 3 _ rfl,k 4 _ rfl⟩
theorem sameReqs_yes (w:World) (pv qv:Value) (r:Request) (hp:PiecesV w pv r.Pieces) (hq:PiecesV w qv r.Pieces) :
  Calls Tryz.prog 62 #[.agg #[.int .i64 r.Queue,.int .i64 r.From,.int .i64 r.Until,.int .i64 r.Kind,pv],.agg #[.int .i64 r.Queue,.int .i64 r.From,.int .i64 r.Until,.int .i64 r.Kind,qv]] w fun e w'=>e=.returned (.bool true)∧Ext w w':=by
 obtain ⟨fa,fc,rfl,_,_,_,hfE⟩:=sv_at hp
 obtain ⟨ga,gc,rfl,_,_,_,hgE⟩:=sv_at hq
 have HF:=hid hfE
 have HG:=hid hgE
 clear hp hq hfE hgE
 generalize hn:r.Pieces.length=n at *
 have Hn:=hid hn
 clear hn
 have HX1:=hid ((Ext.rf w).al (.cells #[.int .i64 r.Queue,.int .i64 r.From,.int .i64 r.Until,.int .i64 r.Kind,(.slice fa n fc)] 28))
 have HS1:=hid (fun (W:World) (h:Ext (w.alloc (.cells #[.int .i64 r.Queue,.int .i64 r.From,.int .i64 r.Until,.int .i64 r.Kind,(.slice fa n fc)] 28)) W)=>(reqCells2 h).2.2.2.2)
 have HX2:=hid ((Ext.rf (w.alloc (.cells #[.int .i64 r.Queue,.int .i64 r.From,.int .i64 r.Until,.int .i64 r.Kind,(.slice fa n fc)] 28))).al (.cells #[.int .i64 r.Queue,.int .i64 r.From,.int .i64 r.Until,.int .i64 r.Kind,(.slice ga n gc)] 28))
 have HS2:=hid (fun (W:World) (h:Ext ((w.alloc (.cells #[.int .i64 r.Queue,.int .i64 r.From,.int .i64 r.Until,.int .i64 r.Kind,(.slice fa n fc)] 28)).alloc (.cells #[.int .i64 r.Queue,.int .i64 r.From,.int .i64 r.Until,.int .i64 r.Kind,(.slice ga n gc)] 28)) W)=>show W.cell? ⟨w.heap.size+1,4,none⟩=some (.slice ga n gc) from by
  have:=(reqCells2 h).2.2.2.2
  rwa [World.size_alloc] at this)
 go_enter Tryz.func62,Tryz.ntmps62
 go_wp2_with fail
 generalize (w.alloc (.cells #[.int .i64 r.Queue,.int .i64 r.From,.int .i64 r.Until,.int .i64 r.Kind,(.slice fa n fc)] 28)).alloc (.cells #[.int .i64 r.Queue,.int .i64 r.From,.int .i64 r.Until,.int .i64 r.Kind,(.slice ga n gc)] 28)=w2 at *
 go_loopw [5] (fun c wr=>∃ k:Nat,c=.int .i64 k∧k≤n∧Ext w2 wr) (fun c _=>n - (intOf c).toNat)
 case atStart=>exact ⟨0,rfl,by omega,Ext.rf w2⟩
 case round =>
  obtain ⟨k,rfl,hk,hx⟩:=hrel
  have e1:=HS1.out wr (HX2.out.tr hx)
  have e2:=HS2.out wr hx
  by_cases hlt:k < n
  ·have hlt':(k:Int) < (n:Int):=by omega
   obtain ⟨x,hxk⟩:=getA (f:=r.Pieces) (k:=k) (by rw [Hn.out];exact hlt)
   obtain ⟨fb,fo,rfl,hfb,hfe⟩:=HF.out (by omega)
   obtain ⟨gb,go,rfl,hgb,hge⟩:=HG.out (by omega)
   obtain ⟨c0,c1,_,_⟩:=E2.mono w wr fb _ x ((HX1.out.tr HX2.out).tr hx) (hfe k x hxk)
   obtain ⟨d0,d1,_,_⟩:=E2.mono w wr gb _ x ((HX1.out.tr HX2.out).tr hx) (hge k x hxk)
   have t1:=deF (show ¬ (k:Int) < 0 by omega)
   have t2:=deF (show ¬ (n:Int)≤(k:Int) by omega)
   have t3:=deF (show ¬ n≤k by omega)
   clear hfe hge hxk
   go_wp2_with fail
   go_quiet (fail)
   go_wp2_with fail
   go_roundw
   case rel=>exact ⟨k+1,by go_num,by omega,hx.dn _⟩
   case measure=>simp [intOf];omega
  ·obtain rfl:k=n:=by omega
   have hlt':¬ (k:Int) < (k:Int):=by omega
   go_wp2_with fail
   go_ret
   exact ⟨rfl,(HX1.out.tr HX2.out).tr hx⟩
theorem sameBites_yes {w:World} {vf vg:Value} {f:List Bite} (hf:BitesV w vf f) (hg:BitesV w vg f) :
  Calls Tryz.prog 18 #[vf,vg] w fun e w'=>e=.returned (.bool true)∧Ext w w':=by
 have:=SameBites_any w vf vg f f hf hg;rw [deT rfl] at this;exact this
theorem sameBooks_yes (w:World) (vf vg:Value) (l:List Book) (hf:BooksV w vf l) (hg:BooksV w vg l) :
  Calls Tryz.prog 56 #[vf,vg] w fun e w'=>e=.returned (.bool true)∧Ext w w':=by
 obtain ⟨fa,fc,rfl,_,_,_,hfE⟩:=sv_at hf
 obtain ⟨ga,gc,rfl,_,_,_,hgE⟩:=sv_at hg
 have HF:=hid hfE
 have HG:=hid hgE
 clear hf hg hfE hgE
 generalize hn:l.length=n at *
 have Hn:=hid hn
 clear hn
 go_enter Tryz.func56,Tryz.ntmps56
 go_wp2_with fail
 go_loopw [5] (fun c wr=>∃ k:Nat,c=.int .i64 k∧k≤n∧Ext w wr) (fun c _=>n - (intOf c).toNat)
 case atStart=>exact ⟨0,rfl,by omega,Ext.rf w⟩
 case round =>
  obtain ⟨k,rfl,hk,hx⟩:=hrel
  by_cases hlt:k < n
  ·have hlt':(k:Int) < (n:Int):=by omega
   obtain ⟨x,hxk⟩:=getA (f:=l) (k:=k) (by rw [Hn.out];exact hlt)
   obtain ⟨fb,fo,rfl,hfb,hfe⟩:=HF.out (by omega)
   obtain ⟨gb,go,rfl,hgb,hge⟩:=HG.out (by omega)
   obtain ⟨pv,bv,c0,c1,c2,c3,c4,c5,c6,hp,hb⟩:=ebook_cells (EBook.mono w wr fb _ x hx (hfe k x hxk))
   obtain ⟨qv,dv,d0,d1,d2,d3,d4,d5,d6,hq,hd⟩:=ebook_cells (EBook.mono w wr gb _ x hx (hge k x hxk))
   have ML1:=hid (fun p:Later wr=>later_of p (v:=.bool true) (sameReqs_yes p.v pv qv x.Req (hp.mono p.h) (hq.mono p.h)))
   have ML2:=hid (fun p:Later wr=>later_of p (v:=.bool true) (sameBites_yes (hb.mono p.h) (hd.mono p.h)))
   obtain ⟨pa,pc,rfl,_,_,_⟩:=hp.form
   obtain ⟨qa,qc,rfl,_,_,_⟩:=hq.form
   obtain ⟨ba,bc,rfl,_,_,_⟩:=hb.form
   obtain ⟨da,dc,rfl,_,_,_⟩:=hd.form
   have t1:=deF (show ¬ (k:Int) < 0 by omega)
   have t2:=deF (show ¬ (n:Int)≤(k:Int) by omega)
   have t3:=deF (show ¬ n≤k by omega)
   clear hfe hge hxk hp hq hb hd
   generalize x.Req.Pieces.length=pn at *
   generalize x.Bites.length=bn at *
   replace c0:=fun p:Later wr=>p.cell c0
   replace c1:=fun p:Later wr=>p.cell c1
   replace c2:=fun p:Later wr=>p.cell c2
   replace c3:=fun p:Later wr=>p.cell c3
   replace c4:=fun p:Later wr=>p.cell c4
   replace c5:=fun p:Later wr=>p.cell c5
   replace c6:=fun p:Later wr=>p.cell c6
   replace d0:=fun p:Later wr=>p.cell d0
   replace d1:=fun p:Later wr=>p.cell d1
   replace d2:=fun p:Later wr=>p.cell d2
   replace d3:=fun p:Later wr=>p.cell d3
   replace d4:=fun p:Later wr=>p.cell d4
   replace d5:=fun p:Later wr=>p.cell d5
   replace d6:=fun p:Later wr=>p.cell d6
   go_wp2_with fail
   refine region_later (by kernel_rfl) (by kernel_rfl) ?_
   repeat (go_big_quiet_step (first | with_reducible exact ML1.out _ | with_reducible exact ML2.out _))
   refine wpQuiet_nil ?_
   rintro w' ⟨p,rfl⟩
   have HX:=hid (hx.tr p.h)
   clear ML1 ML2 c0 c1 c2 c3 c4 c5 c6 d0 d1 d2 d3 d4 d5 d6
   generalize p.v=W at *
   go_wp2_with fail
   go_roundw
   case rel=>exact ⟨k+1,by go_num,by omega,HX.out⟩
   case measure=>simp [intOf];omega
  ·obtain rfl:k=n:=by omega
   have hlt':¬ (k:Int) < (k:Int):=by omega
   go_wp2_with fail
   go_ret
   exact ⟨rfl,hx⟩
theorem sameStates_yes (w:World) (c n:Int) (tv bv tu bu:Value) (l:List Queue) (b:List Book) (h1:QueuesV w tv l) (h2:BooksV w bv b) (h3:QueuesV w tu l) (h4:BooksV w bu b) :
  Calls Tryz.prog 17 #[.agg #[.int .i64 c,.int .i64 n,tv,bv],.agg #[.int .i64 c,.int .i64 n,tu,bu]] w fun e w'=>e=.returned (.bool true)∧Ext w w':=by
 have ST:=hid (fun (W:World) (h:Ext w W)=>sameTrees_yes W tv tu l (h1.mono h) (h3.mono h))
 have SB:=hid (fun (W:World) (h:Ext w W)=>sameBooks_yes W bv bu b (h2.mono h) (h4.mono h))
 obtain ⟨a1,c1,rfl,_,_,_⟩:=h1.form
 obtain ⟨a2,c2,rfl,_,_,_⟩:=h2.form
 obtain ⟨a3,c3,rfl,_,_,_⟩:=h3.form
 obtain ⟨a4,c4,rfl,_,_,_⟩:=h4.form
 clear h1 h2 h3 h4
 generalize l.length=ln at *
 generalize b.length=bn at *
 have HX1:=hid ((Ext.rf w).al (.cells #[.int .i64 c,.int .i64 n,.slice a1 ln c1,.slice a2 bn c2] 25))
 have HS1:=hid (fun (W:World) (h:Ext (w.alloc (.cells #[.int .i64 c,.int .i64 n,.slice a1 ln c1,.slice a2 bn c2] 25)) W)=>stateCells h)
 have HX2:=hid ((Ext.rf (w.alloc (.cells #[.int .i64 c,.int .i64 n,.slice a1 ln c1,.slice a2 bn c2] 25))).al (.cells #[.int .i64 c,.int .i64 n,.slice a3 ln c3,.slice a4 bn c4] 25))
 have HS2:=hid (fun (W:World) (h:Ext ((w.alloc (.cells #[.int .i64 c,.int .i64 n,.slice a1 ln c1,.slice a2 bn c2] 25)).alloc (.cells #[.int .i64 c,.int .i64 n,.slice a3 ln c3,.slice a4 bn c4] 25)) W)=>show W.cell? ⟨w.heap.size+1,3,none⟩=some (.slice a4 bn c4) from by
  have:=(stateCells h).2.2.2
  rwa [World.size_alloc] at this)
 have hE:=hid (HX1.out.tr HX2.out)
 go_enter Tryz.func17,Tryz.ntmps17
 go_wp2_with fail
 refine (ST.out _ hE.out).mono ?_
 rintro e w3 ⟨rfl,hx3⟩
 obtain ⟨_,_,_,k3⟩:=HS1.out w3 (HX2.out.tr hx3)
 have k4:=HS2.out w3 hx3
 go_wp2_with fail
 refine (SB.out _ (hE.out.tr hx3)).mono ?_
 rintro e w4 ⟨rfl,hx4⟩
 go_wp2_with fail
 go_ret
 exact ⟨rfl,hE.out.tr (hx3.tr hx4)⟩
def farmB:List Book:=[⟨1,plotR 3,[⟨0,8⟩,⟨1,13⟩]⟩,⟨4,⟨2,3,48,2,[⟨6,4⟩]⟩,[⟨0,9⟩]⟩]
def farmS (m:Int):State:=⟨5,6,fieldL m 0 6,farmB⟩
structure FarmAt (W:World) (F B p1 b1 p2 b2:Nat) (m:Int):Prop where
 field:FieldAt W F m 0 6
 row:RowAt 40 W B [.int .i64 1,.int .i64 3,.int .i64 2,.int .i64 30,.int .i64 3,.slice (some ⟨p1,0,none⟩) 2 2,.slice (some ⟨b1,0,none⟩) 2 2,.int .i64 4,.int .i64 2,.int .i64 3,.int .i64 48,.int .i64 2,.slice (some ⟨p2,0,none⟩) 1 1,.slice (some ⟨b2,0,none⟩) 1 1]
 ne:p1≠F∧b1≠F∧p2≠F∧b2≠F∧B≠F
 p1:PiecesV W (.slice (some ⟨p1,0,none⟩) 2 2) plotL
 b1:BitesV W (.slice (some ⟨b1,0,none⟩) 2 2) [⟨0,8⟩,⟨1,13⟩]
 p2:PiecesV W (.slice (some ⟨p2,0,none⟩) 1 1) [⟨6,4⟩]
 b2:BitesV W (.slice (some ⟨b2,0,none⟩) 1 1) [⟨0,9⟩]
theorem sv2_kept {α:Type} {f g:α→Int} {W W':World} {p n c r:Nat} {xs:List α} (h:SV 2 (E2 f g) W (.slice (some ⟨p,0,none⟩) n c) xs) (hg:W.grownBy W' (some r)) (hp:p≠r):SV 2 (E2 f g) W' (.slice (some ⟨p,0,none⟩) n c) xs:=by
 rcases h with h | ⟨b,off,cap,e,h1,h2,hl,h3,h4⟩
 ·exact .inl h
 ·refine .inr ⟨b,off,cap,e,h1,h2,hl,Nat.lt_of_lt_of_le h3 hg.size,fun k x hk=>?_⟩
  cases e
  have hc:∀ o,W'.cell? ⟨p,o,none⟩=W.cell? ⟨p,o,none⟩:=fun o=>World.cell?_of_block (a:=⟨p,o,none⟩) (hg.block p h3 (fun e=>hp (Option.some.inj e)))
  obtain ⟨e1,e2,e3⟩:=h4 k x hk
  exact ⟨by rw [hc];exact e1,by rw [hc];exact e2,e3⟩
section
variable {W W':World} {F B p1 b1 p2 b2:Nat} {m:Int}
theorem FarmAt.ext (h:FarmAt W F B p1 b1 p2 b2 m) (hx:Ext W W'):FarmAt W' F B p1 b1 p2 b2 m :=
 ⟨h.field.ext hx,h.row.ext hx,h.ne,h.p1.mono hx,h.b1.mono hx,h.p2.mono hx,h.b2.mono hx⟩
theorem FarmAt.tree (h:FarmAt W F B p1 b1 p2 b2 m) (hm:I64 m):QueuesV W (.slice (some ⟨F+4,0,none⟩) 4 4) (fieldL m 0 6):=h.field.v hm (i64_small' (by decide) (by decide)) (i64_small' (by decide) (by decide))
theorem FarmAt.books (h:FarmAt W F B p1 b1 p2 b2 m):BooksV W (.slice (some ⟨B,0,none⟩) 2 2) farmB:=by
 refine .inr ⟨B,0,2,rfl,by decide,by omega,by decide,h.row.lt,fun k x hk=>?_⟩
 rcases k with _ | _ | k
 ·cases hk
  refine ⟨[.int .i64 1,.int .i64 3,.int .i64 2,.int .i64 30,.int .i64 3,.slice (some ⟨p1,0,none⟩) 2 2,.slice (some ⟨b1,0,none⟩) 2 2],⟨_,_,rfl,⟨_,rfl,h.p1,i64_small' (by decide) (by decide),i64_small' (by decide) (by decide),i64_small' (by decide) (by decide),i64_small' (by decide) (by decide)⟩,h.b1,i64_small' (by decide) (by decide)⟩,fun j u hj=>?_⟩
  have hlt:=(List.getElem?_eq_some_iff.1 hj).1
  simp only [List.length_cons,List.length_nil] at hlt
  refine h.row.cell ?_
  rw [show 0+0*7+j=j by omega]
  rcases (by omega:j=0∨j=1∨j=2∨j=3∨j=4∨j=5∨j=6) with rfl | rfl | rfl | rfl | rfl | rfl | rfl <;> exact hj
 ·cases hk
  refine ⟨[.int .i64 4,.int .i64 2,.int .i64 3,.int .i64 48,.int .i64 2,.slice (some ⟨p2,0,none⟩) 1 1,.slice (some ⟨b2,0,none⟩) 1 1],⟨_,_,rfl,⟨_,rfl,h.p2,i64_small' (by decide) (by decide),i64_small' (by decide) (by decide),i64_small' (by decide) (by decide),i64_small' (by decide) (by decide)⟩,h.b2,i64_small' (by decide) (by decide)⟩,fun j u hj=>?_⟩
  have hlt:=(List.getElem?_eq_some_iff.1 hj).1
  simp only [List.length_cons,List.length_nil] at hlt
  refine h.row.cell ?_
  rw [show 0+(0+1)*7+j=7+j by omega]
  rcases (by omega:j=0∨j=1∨j=2∨j=3∨j=4∨j=5∨j=6) with rfl | rfl | rfl | rfl | rfl | rfl | rfl <;> exact hj
 ·simp [farmB] at hk
theorem FarmAt.srow {r:Nat} (h:FarmAt W F B p1 b1 p2 b2 m) (cs:Array Value) (h1:r < F) (h2:p1≠r∧b1≠r∧p2≠r∧b2≠r∧B≠r):FarmAt (W.setRow r cs) F B p1 b1 p2 b2 m:=by
 have hg:=grown_srow W r cs
 have k:∀ {j:Nat} {o:Obj},j≠r→W.heap[j]?=some o→(W.setRow r cs).heap[j]?=some o:=fun hj ho=>by rw [setRow_other W r _ cs hj];exact ho
 exact ⟨⟨k (by omega) h.field.r0,k (by omega) h.field.r1,k (by omega) h.field.r2,k (by omega) h.field.r3,k (by omega) h.field.q⟩,h.row.kept hg (fun e=>h2.2.2.2.2 (Option.some.inj e)),h.ne,
  sv2_kept h.p1 hg h2.1,sv2_kept h.b1 hg h2.2.1,sv2_kept h.p2 hg h2.2.2.1,sv2_kept h.b2 hg h2.2.2.2.1⟩
end
theorem farm_any (w:World):Calls Tryz.prog 34 #[] w fun e w'=>∃ F B p1 b1 p2 b2:Nat,e=.returned (.agg #[.int .i64 5,.int .i64 6,.slice (some ⟨F+4,0,none⟩) 4 4,.slice (some ⟨B,0,none⟩) 2 2])∧w.heap.size≤F∧FarmAt w' F B p1 b1 p2 b2 10∧Ext w w':=by
 have H0:=hid (heap_alloc_new w (.cells #[.int .i64 0,.int .i64 0,.slice none 0 0,.slice none 0 0] 25))
 go_enter Tryz.func34,Tryz.ntmps34
 go_wp2_with fail
 refine (field_any _).mono ?_
 rintro e w1 ⟨rfl,hF,hx1⟩
 rw [World.size_alloc] at *
 have HF:=hid hF
 have X1:=hid (show Ext (w.alloc (.cells #[.int .i64 0,.int .i64 0,.slice none 0 0,.slice none 0 0] 25)) w1 from hx1)
 clear hF hx1
 go_wp2_with fail
 refine (plot_any w1 3).mono ?_
 rintro e w2 ⟨pb,rfl,hP,hx2⟩
 have HP:=hid hP
 have X2:=hid hx2
 clear hP hx2
 have hsz1:w.heap.size+1≤w1.heap.size:=by have:=X1.out.size;simpa using this
 have hF4:w.heap.size+1+4 < w1.heap.size:=(Array.getElem?_eq_some_iff.1 HF.out.q).1
 have hsz2:=X2.out.size
 have hp0:pb < w2.heap.size∧w2.cell? ⟨pb,0,none⟩=some (.int .i64 4):=by
  rcases HP.out with ⟨h,_⟩ | ⟨b,off,cap,e,_,_,_,h,hE⟩
  ·cases h
  ·cases e
   exact ⟨h,by have:=(hE 0 _ rfl).1;simpa using this⟩
 have hpF:pb≠w.heap.size+1:=fun e=>by
  have h1:=cell_of_row w2 (w.heap.size+1) 0 _ _ _ (HF.out.ext X2.out).r0
  have h2:=hp0.2
  rw [e,h1] at h2
  simp at h2
 have hz2:w2.heap[w.heap.size]?=some (.cells #[.int .i64 0,.int .i64 0,.slice none 0 0,.slice none 0 0] 25 (0,0)):=(((X1.out.tr X2.out).block _ (by simp))).trans H0.out
 have hpZ:pb≠w.heap.size:=fun e=>by
  have h1:=cell_of_row w2 w.heap.size 0 _ _ _ hz2
  have h2:=hp0.2
  rw [e,h1] at h2
  simp at h2
 have e3:=(Ext.rf w2).al (.cells #[.int .i64 0,.int .i64 8,.int .i64 1,.int .i64 13] 42)
 have e4:=(Ext.rf (w2.alloc (.cells #[.int .i64 0,.int .i64 8,.int .i64 1,.int .i64 13] 42))).al (.cells #[.int .i64 6,.int .i64 4] 44)
 have e5:=(Ext.rf ((w2.alloc (.cells #[.int .i64 0,.int .i64 8,.int .i64 1,.int .i64 13] 42)).alloc (.cells #[.int .i64 6,.int .i64 4] 44))).al (.cells #[.int .i64 0,.int .i64 9] 42)
 have e6:=(Ext.rf (((w2.alloc (.cells #[.int .i64 0,.int .i64 8,.int .i64 1,.int .i64 13] 42)).alloc (.cells #[.int .i64 6,.int .i64 4] 44)).alloc (.cells #[.int .i64 0,.int .i64 9] 42))).al (.cells #[.int .i64 1,.int .i64 3,.int .i64 2,.int .i64 30,.int .i64 3,.slice (some ⟨pb,0,none⟩) 2 2,.slice (some ⟨w2.heap.size,0,none⟩) 2 2,.int .i64 4,.int .i64 2,.int .i64 3,.int .i64 48,.int .i64 2,.slice (some ⟨w2.heap.size+1,0,none⟩) 1 1,.slice (some ⟨w2.heap.size+1+1,0,none⟩) 1 1] 40)
 have vb1:BitesV (w2.alloc (.cells #[.int .i64 0,.int .i64 8,.int .i64 1,.int .i64 13] 42)) (.slice (some ⟨w2.heap.size,0,none⟩) 2 2) [⟨0,8⟩,⟨1,13⟩]:=bites_lit (w:=w2) [⟨0,8⟩,⟨1,13⟩] rfl rfl rfl (by decide) (by decide)
 have vp2:PiecesV ((w2.alloc (.cells #[.int .i64 0,.int .i64 8,.int .i64 1,.int .i64 13] 42)).alloc (.cells #[.int .i64 6,.int .i64 4] 44)) (.slice (some ⟨w2.heap.size+1,0,none⟩) 1 1) [⟨6,4⟩]:=pairs_lit (f:=Piece.Len) (g:=Piece.N) (w:=(w2.alloc (.cells #[.int .i64 0,.int .i64 8,.int .i64 1,.int .i64 13] 42))) [⟨6,4⟩] (by rw [World.size_alloc]) rfl rfl (by decide) (fun r hr=>by simp at hr;rcases hr with rfl;exact ⟨i64_small' (by decide) (by decide),i64_small' (by decide) (by decide)⟩)
 have vb2:BitesV (((w2.alloc (.cells #[.int .i64 0,.int .i64 8,.int .i64 1,.int .i64 13] 42)).alloc (.cells #[.int .i64 6,.int .i64 4] 44)).alloc (.cells #[.int .i64 0,.int .i64 9] 42)) (.slice (some ⟨w2.heap.size+1+1,0,none⟩) 1 1) [⟨0,9⟩]:=bites_lit (w:=((w2.alloc (.cells #[.int .i64 0,.int .i64 8,.int .i64 1,.int .i64 13] 42)).alloc (.cells #[.int .i64 6,.int .i64 4] 44))) [⟨0,9⟩] (by rw [World.size_alloc,World.size_alloc]) rfl rfl (by decide) (by decide)
 have s5:(((w2.alloc (.cells #[.int .i64 0,.int .i64 8,.int .i64 1,.int .i64 13] 42)).alloc (.cells #[.int .i64 6,.int .i64 4] 44)).alloc (.cells #[.int .i64 0,.int .i64 9] 42)).heap.size=w2.heap.size+1+1+1:=by simp only [World.size_alloc]
 have hFA:=hid (show FarmAt ((((w2.alloc (.cells #[.int .i64 0,.int .i64 8,.int .i64 1,.int .i64 13] 42)).alloc (.cells #[.int .i64 6,.int .i64 4] 44)).alloc (.cells #[.int .i64 0,.int .i64 9] 42)).alloc (.cells #[.int .i64 1,.int .i64 3,.int .i64 2,.int .i64 30,.int .i64 3,.slice (some ⟨pb,0,none⟩) 2 2,.slice (some ⟨w2.heap.size,0,none⟩) 2 2,.int .i64 4,.int .i64 2,.int .i64 3,.int .i64 48,.int .i64 2,.slice (some ⟨w2.heap.size+1,0,none⟩) 1 1,.slice (some ⟨w2.heap.size+1+1,0,none⟩) 1 1] 40)) (w.heap.size+1) (w2.heap.size+1+1+1) pb w2.heap.size (w2.heap.size+1) (w2.heap.size+1+1) 10 from
  ⟨HF.out.ext (X2.out.tr (e3.tr (e4.tr (e5.tr e6)))),by
   have:=RowAt.new (T:=40) (((w2.alloc (.cells #[.int .i64 0,.int .i64 8,.int .i64 1,.int .i64 13] 42)).alloc (.cells #[.int .i64 6,.int .i64 4] 44)).alloc (.cells #[.int .i64 0,.int .i64 9] 42)) #[.int .i64 1,.int .i64 3,.int .i64 2,.int .i64 30,.int .i64 3,.slice (some ⟨pb,0,none⟩) 2 2,.slice (some ⟨w2.heap.size,0,none⟩) 2 2,.int .i64 4,.int .i64 2,.int .i64 3,.int .i64 48,.int .i64 2,.slice (some ⟨w2.heap.size+1,0,none⟩) 1 1,.slice (some ⟨w2.heap.size+1+1,0,none⟩) 1 1].toList
   rw [s5] at this
   exact this,⟨hpF,by omega,by omega,by omega,by omega⟩,HP.out.mono (e3.tr (e4.tr (e5.tr e6))),vb1.mono (e4.tr (e5.tr e6)),PiecesV.mono vp2 (e5.tr e6),vb2.mono e6⟩)
 have hX6:=hid (X1.out.tr (X2.out.tr (e3.tr (e4.tr (e5.tr e6)))))
 have HB:=hid (show ((((w2.alloc (.cells #[.int .i64 0,.int .i64 8,.int .i64 1,.int .i64 13] 42)).alloc (.cells #[.int .i64 6,.int .i64 4] 44)).alloc (.cells #[.int .i64 0,.int .i64 9] 42)).alloc (.cells #[.int .i64 1,.int .i64 3,.int .i64 2,.int .i64 30,.int .i64 3,.slice (some ⟨pb,0,none⟩) 2 2,.slice (some ⟨w2.heap.size,0,none⟩) 2 2,.int .i64 4,.int .i64 2,.int .i64 3,.int .i64 48,.int .i64 2,.slice (some ⟨w2.heap.size+1,0,none⟩) 1 1,.slice (some ⟨w2.heap.size+1+1,0,none⟩) 1 1] 40)).heap[w.heap.size]?=some (.cells #[.int .i64 0,.int .i64 0,.slice none 0 0,.slice none 0 0] 25 (0,0)) from ((e3.tr (e4.tr (e5.tr e6))).block _ (by omega)).trans hz2)
 have hXX:=hid (((((Ext.rf w).al _).tr hX6.out)).sr (Nat.le_refl w.heap.size) #[.int .i64 5,.int .i64 6,.slice (some ⟨w.heap.size+1+4,0,none⟩) 4 4,.slice (some ⟨w2.heap.size+1+1+1,0,none⟩) 2 2])
 have hFF:=hid (hFA.out.srow (r:=w.heap.size) #[.int .i64 5,.int .i64 6,.slice (some ⟨w.heap.size+1+4,0,none⟩) 4 4,.slice (some ⟨w2.heap.size+1+1+1,0,none⟩) 2 2] (by omega) ⟨hpZ,by omega,by omega,by omega,by omega⟩)
 clear e3 e4 e5 e6 vb1 vp2 vb2 s5 hz2
 go_wp2_with (refine wpList_store_row rfl 25 _ _ rfl w.heap.size #[.int .i64 5,.int .i64 6,.slice (some ⟨w.heap.size+1+4,0,none⟩) 4 4,.slice (some ⟨w2.heap.size+1+1+1,0,none⟩) 2 2] rfl rfl 25 #[.int .i64 0,.int .i64 0,.slice none 0 0,.slice none 0 0] HB.out Tryz.size25 rfl (by simp [Value.oneCell']) ?_)
 have HB2:=setRow_heap ((((w2.alloc (.cells #[.int .i64 0,.int .i64 8,.int .i64 1,.int .i64 13] 42)).alloc (.cells #[.int .i64 6,.int .i64 4] 44)).alloc (.cells #[.int .i64 0,.int .i64 9] 42)).alloc (.cells #[.int .i64 1,.int .i64 3,.int .i64 2,.int .i64 30,.int .i64 3,.slice (some ⟨pb,0,none⟩) 2 2,.slice (some ⟨w2.heap.size,0,none⟩) 2 2,.int .i64 4,.int .i64 2,.int .i64 3,.int .i64 48,.int .i64 2,.slice (some ⟨w2.heap.size+1,0,none⟩) 1 1,.slice (some ⟨w2.heap.size+1+1,0,none⟩) 1 1] 40)) w.heap.size _ #[.int .i64 5,.int .i64 6,.slice (some ⟨w.heap.size+1+4,0,none⟩) 4 4,.slice (some ⟨w2.heap.size+1+1+1,0,none⟩) 2 2] _ _ HB.out
 exact bodyPost_ret (results_cell_row rfl _ _ w.heap.size 25 #[.int .i64 5,.int .i64 6,.slice (some ⟨w.heap.size+1+4,0,none⟩) 4 4,.slice (some ⟨w2.heap.size+1+1+1,0,none⟩) 2 2] (0,0) _ rfl HB2 Tryz.underlying25 rfl Tryz.size25) rfl ⟨_,_,_,_,_,_,rfl,by omega,hFF.out,hXX.out⟩
theorem over_is {l:List Queue} {x:Book} (h:BookOk l x):overR x.Req x.Bites=(maxTo (overA x.Req x.Bites) (x.Bites.length - 1),0):=overR_yes h.req h.many.1 (fun k hk=>(h.bites k hk).1)
theorem late_is {l:List Queue} {x:Book} (h:BookOk l x) (t:Int):lateB t x=decide (maxTo (overA x.Req x.Bites) (x.Bites.length - 1)≤t):=by unfold lateB;rw [over_is h]
theorem beginV:stateE ⟨0,0,fieldL 10 0 6,[]⟩=0:=by
 have hb:booksE (fieldL 10 0 6) []=0:=by rw [booksE_first fieldC (by decide)];rfl
 exact stateE_ok (formE_ok hb (by decide) (by decide) rfl) (too_no (fun s h1 h2 p hp=>by
  have h3:∀ s,s < 48→∀ p,p < 4→0≤leftT (fieldL 10 0 6) [] p s:=by decide +kernel
  exact h3 s h2 p hp))
theorem planCheck_is {w:World} {tv bv:Value} {c n:Int} {l:List Queue} {b:List Book} {e:Int} (h:stateE ⟨c,n,l,b⟩=e) (hl:QueuesV w tv l) (hb:BooksV w bv b) :
  Calls Tryz.prog 29 #[.agg #[.int .i64 c,.int .i64 n,tv,bv]] w fun x w'=>x=.returned (.int .i64 e)∧Ext w w':=by
 have:=planCheck_any w tv bv ⟨c,n,l,b⟩ hl hb;rw [h] at this;exact this
theorem QRow.less {bs cs:List Nat} {W:World} {g:Nat} {l:List Queue} (h:QRow bs W g l) (hs:∀ r∈cs,r∈bs):QRow cs W g l:=by
 obtain ⟨vs,h1,h2⟩:=h
 refine ⟨vs,h1,fun j x hj=>?_⟩
 obtain ⟨a,b,c,d,cv,e,f,i⟩:=h2 j x hj
 refine ⟨a,b,c,d,cv,e,f,fun ad n c he hm=>i ad n c he ?_⟩
 rcases List.mem_cons.1 hm with h | h
 ·rw [h];exact List.mem_cons_self ..
 ·exact List.mem_cons_of_mem _ (hs _ h)
open Go.RowKit Go.ChangeShapes Go.WideShapes Go.Deep
theorem cells25_is:Tryz.prog.cellsOf 25=4:=by kernel_rfl
theorem cells22_is:Tryz.prog.cellsOf 22=1:=by kernel_rfl
theorem cells23_is:Tryz.prog.cellsOf 23=1:=by kernel_rfl
section
variable {H:Type} {P:Program} {enc:TypeId × Value→H} {w:World} {base:Nat} {spare:Nat→Bool} {held:Bool}
theorem trod_struct4s {t:TypeId} {f0 f1 f2 f3:Field} {fuel:Nat} {cs:List Value} {x:DataW H × List MemPlace} (ht:P.underlying t=some (.struct #[f0,f1,f2,f3])) (h:DataW.trod enc P w base spare held fuel t cs=some x) :
  ∃ y0 y1 y2 y3 n,x=(.agg [y0.1,y1.1,y2.1,y3.1],y0.2++(y1.2++(y2.2++y3.2)))∧cs.length=P.cellsOf t∧DataW.trod enc P w base spare held n f0.type ((cs.drop f0.offset).take (P.cellsOf f0.type))=some y0 ∧
   DataW.trod enc P w base spare held n f1.type ((cs.drop f1.offset).take (P.cellsOf f1.type))=some y1∧DataW.trod enc P w base spare held n f2.type ((cs.drop f2.offset).take (P.cellsOf f2.type))=some y2 ∧
   DataW.trod enc P w base spare held n f3.type ((cs.drop f3.offset).take (P.cellsOf f3.type))=some y3:=by
 obtain ⟨xs,n,_,rfl,hl,hlen,hf⟩:=DataW.trod_struct ht h
 match xs,hlen with
 | [y0,y1,y2,y3],_=>exact ⟨y0,y1,y2,y3,n,by simp,hl,by simpa using hf 0 f0 rfl,by simpa using hf 1 f1 rfl,by simpa using hf 2 f2 rfl,by simpa using hf 3 f3 rfl⟩
end
section
variable {H:Type} {enc:TypeId × Value→H} {W:World} {base:Nat} {spare:Nat→Bool} {held:Bool}
theorem open_stateC {fuel:Nat} {cs:List Value} {x:DataW H × List MemPlace} (h:DataW.trod enc Tryz.prog W base spare held fuel 25 cs=some x) (hw:∀ n∈x.1.weights Tryz.prog 25,n≤reachBytes):∃ s,StateC W cs s:=by
 obtain ⟨y0,y1,y2,y3,n,rfl,hl,h0,h1,h2,h3⟩:=trod_struct4s Tryz.underlying25 h
 rw [cells25_is] at hl
 match cs,hl with
 | [c0,c1,c2,c3],_ =>
  simp only [cells3_is,cells22_is,cells23_is,List.drop_zero,List.drop_succ_cons,List.take_succ_cons,List.take_zero] at h0 h1 h2 h3
  obtain ⟨n0,e0,_,w0⟩:=DataW.trod_int Tryz.underlying3 h0
  obtain ⟨n1,e1,_,w1⟩:=DataW.trod_int Tryz.underlying3 h1
  simp only [List.cons.injEq,and_true] at e0 e1
  subst e0 e1
  obtain ⟨qs,hqs⟩:=open_queues h2 (fun k hk=>hw k (by
   simp only [DataW.weights,Tryz.underlying25,List.map_cons,List.map_nil,DataW.weightsEach,List.mem_append]
   exact .inr (.inr (.inl hk))))
  obtain ⟨bs,hbs⟩:=open_books h3 (fun k hk=>hw k (by
   simp only [DataW.weights,Tryz.underlying25,List.map_cons,List.map_nil,DataW.weightsEach,List.mem_append]
   exact .inr (.inr (.inr (.inl hk)))))
  exact ⟨⟨n0,n1,qs,bs⟩,_,_,rfl,hqs,hbs,I64.of_wf w0,I64.of_wf w1⟩
theorem open_state {r:Reach} {b0:Nat} {v:Value} {d:DataW H} {p:List MemPlace} (hv:Value.okWide Tryz.prog W r b0 25 v) (h:DataW.Trod enc Tryz.prog W base spare held 25 v d p) (hw:∀ n∈d.weights Tryz.prog 25,n≤reachBytes):∃ x,StateV W v x:=by
 obtain ⟨cs,rfl,hsz⟩:=okWide_struct Tryz.underlying25 hv
 obtain ⟨fuel,hf⟩:=h
 obtain ⟨x,hx⟩:=open_stateC (cs:=cs.toList) (by simpa [Value.cells] using hf) hw
 exact ⟨x,cs.toList,by simp,hx⟩
end
end Go.Proofs.YtdcndkojmflhnaaGreat
