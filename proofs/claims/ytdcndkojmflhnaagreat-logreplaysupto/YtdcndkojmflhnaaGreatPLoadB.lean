/- laws of runs; loads; each theorem names its own conditions. -/
import Derived.Test.YtdcndkojmflhnaaGreatPRunsZ
import Derived.Test.YtdcndkojmflhnaaGreatPReqL
import Derived.Test.YtdcndkojmflhnaaGreatPReqP
import Derived.Test.YtdcndkojmflhnaaGreatPFind
import Derived.Laws.OwnMore
/- Laws of runs: what they need. -/
/- The laws on runs: what must be in any case. -/
set_option linter.unusedVariables false
set_option maxRecDepth 100000
set_option maxHeartbeats 8000000
set_option linter.unusedSimpArgs false
set_option linter.unusedVariables false
namespace Go.Proofs.YtdcndkojmflhnaaGreat
open Go.RowKit
open List renaming getElem_toArray→zA,getElem_cons_zero→zB,getElem_cons_succ→zC,setIfInBounds_toArray→zD,set_cons_zero→zE,set_cons_succ→zF
theorem runs_lit {w:World} {cs:Array Value} {b n:Nat} (l:List Run) (hb:b=w.heap.size) (hcs:cs=(cells2 Run.At Run.N l).toArray) (hn:n=l.length) (hl:l.length≤48) (hi:∀ r∈l,I64 r.At∧I64 r.N) :
  RunsV (w.alloc (.cells cs 48)) (.slice (some ⟨b,0,none⟩) n n) l:=by
 subst hb hcs hn
 have hsz:(cells2 Run.At Run.N l).toArray.size=l.length*2:=by
  clear hl hi
  induction l with
  | nil=>rfl
  | cons a l ih=>simp [cells2] at ih ⊢;omega
 have:=World.ownsRow_lit (base:=w.heap.size) (e:=48) (size:=2) w (cells2 Run.At Run.N l).toArray l.length (Nat.le_refl _) (by unfold maxLen;omega) hsz
 exact sv_of_owns2 (by simpa using this) hi (by omega)
theorem lit_nums {l:List Run} (h:(l.all fun r=>decide (-9000000≤r.At∧r.At≤9000000∧-9000000≤r.N∧r.N≤9000000))=true):∀ r∈l,I64 r.At∧I64 r.N:=fun r hr=>by
 have:=of_decide_eq_true (List.all_eq_true.1 h r hr)
 exact ⟨I64.of (by omega) (by omega),I64.of (by omega) (by omega)⟩
theorem ebook_cells {w:World} {b o:Nat} {x:Book} (h:EBook w b o x):∃ pv bv,w.cell? ⟨b,o,none⟩=some (.int .i64 x.Id)∧w.cell? ⟨b,o+1,none⟩=some (.int .i64 x.Req.Queue)∧w.cell? ⟨b,o+2,none⟩=some (.int .i64 x.Req.From)∧w.cell? ⟨b,o+3,none⟩=some (.int .i64 x.Req.Until)∧w.cell? ⟨b,o+4,none⟩=some (.int .i64 x.Req.Kind)∧w.cell? ⟨b,o+5,none⟩=some pv∧w.cell? ⟨b,o+6,none⟩=some bv∧PiecesV w pv x.Req.Pieces∧BitesV w bv x.Bites:=by
 obtain ⟨cs,⟨qs,bv,rfl,⟨pv,rfl,h1,_⟩,h2,_⟩,hc⟩:=h
 exact ⟨pv,bv,hc 0 _ rfl,hc 1 _ rfl,hc 2 _ rfl,hc 3 _ rfl,hc 4 _ rfl,hc 5 _ rfl,hc 6 _ rfl,h1,h2⟩
noncomputable def firstE (l:List Queue):List Book→Int
 | []=>0
 | x::b=>if reqE l x.Req≠0 then reqE l x.Req else if meetsR x.Req x.Bites=true then firstE l b else 1
@[irreducible] noncomputable def booksE (l:List Queue) (b:List Book):Int:=if checkT l≠0 then checkT l else if 12 < b.length then 2 else firstE l b
theorem booksE_tree {l:List Queue} {b:List Book} (h:checkT l≠0):booksE l b=checkT l:=by unfold booksE;rw [if_pos h]
theorem booksE_many {l:List Queue} {b:List Book} (h:checkT l=0) (h2:12 < b.length):booksE l b=2:=by unfold booksE;rw [if_neg (fun h'=>h' h),if_pos h2]
theorem booksE_first {l:List Queue} {b:List Book} (h:checkT l=0) (h2:¬ 12 < b.length):booksE l b=firstE l b:=by unfold booksE;rw [if_neg (fun h'=>h' h),if_neg h2]
theorem firstE_bad {l:List Queue} {x:Book} {b:List Book} (h:reqE l x.Req≠0):firstE l (x::b)=reqE l x.Req:=by rw [firstE,if_pos h]
theorem firstE_form {l:List Queue} {x:Book} {b:List Book} (h:reqE l x.Req=0) (h2:meetsR x.Req x.Bites=false):firstE l (x::b)=1:=by rw [firstE,if_neg (fun h'=>h' h),if_neg (by rw [h2];decide)]
theorem firstE_ok {l:List Queue} {x:Book} {b:List Book} (h:reqE l x.Req=0) (h2:meetsR x.Req x.Bites=true):firstE l (x::b)=firstE l b:=by rw [firstE,if_neg (fun h'=>h' h),if_pos h2]
theorem drop_get {α:Type} {b:List α} {k:Nat} {x:α} (h:b[k]?=some x):b.drop k=x::b.drop (k+1):=by
 obtain ⟨hk,e⟩:=List.getElem?_eq_some_iff.1 h
 rw [List.drop_eq_getElem_cons hk,e]
theorem books_at {w:World} {v:Value} {l:List Book} (hv:BooksV w v l):∃ a cap,v=.slice a l.length cap∧l.length≤cap∧cap≤9223372036854775807∧l.length≤17592186044416 ∧
  (1≤l.length→∃ b off,a=some ⟨b,off,none⟩∧b < w.heap.size∧∀ k x,l[k]?=some x→EBook w b (off+k*7) x):=by
 rcases hv with ⟨rfl,a,cap,rfl,h⟩ | ⟨b,off,cap,rfl,h1,h2,h3,h4,h5⟩
 ·exact ⟨a,cap,rfl,by simp,h,by simp,fun h=>by simp at h⟩
 ·exact ⟨_,cap,rfl,h1,h2,h3,fun _=>⟨b,off,rfl,h4,h5⟩⟩
theorem bookCells {w W:World} {a b c d e f g:Value} {t:TypeId} (hx:Ext (w.alloc (.cells #[a,b,c,d,e,f,g] t)) W) :
  W.cell? ⟨w.heap.size,1,none⟩=some b∧W.cell? ⟨w.heap.size,2,none⟩=some c∧W.cell? ⟨w.heap.size,3,none⟩=some d∧W.cell? ⟨w.heap.size,4,none⟩=some e∧W.cell? ⟨w.heap.size,5,none⟩=some f∧W.cell? ⟨w.heap.size,6,none⟩=some g:=by
 have h:=heap_alloc_new w (.cells #[a,b,c,d,e,f,g] t)
 have k:∀ j v,(#[a,b,c,d,e,f,g]:Array Value)[j]?=some v→W.cell? ⟨w.heap.size,j,none⟩=some v:=fun j v hv=>hx.ce' (by rw [cell_of_row _ _ _ _ _ _ h];exact hv)
 exact ⟨k 1 _ rfl,k 2 _ rfl,k 3 _ rfl,k 4 _ rfl,k 5 _ rfl,k 6 _ rfl⟩
theorem loadCheck_any (w:World) (v bv:Value) (l:List Queue) (b:List Book) (hl:QueuesV w v l) (hb:BooksV w bv b) :
  Calls Tryz.prog 118 #[v,bv] w fun e w'=>e=.returned (.int .i64 (booksE l b))∧Ext w w':=by
 have T:=hid (treeCheck_any w v l hl)
 have Q:=hid (fun (W:World) (pv:Value) (r:Request) (h:Ext w W) (hp:PiecesV W pv r.Pieces)=>reqCheck_any W v pv l r (hl.mono h) hp)
 obtain ⟨ba,bc,rfl,hbc,hbc9,hbl,hbE⟩:=books_at hb
 obtain ⟨qa,qc,rfl,_,_,_⟩:=hl.form
 have HBE:=hid hbE
 by_cases h0:checkT l=0
 ·rw [h0] at T
  by_cases h12:12 < b.length
  ·have hR:=hid (booksE_many h0 h12)
   have h12':(12:Int) < (b.length:Int):=by omega
   clear hl hb hbE h0 h12 Q HBE
   generalize l.length=ln at *
   generalize b.length=bn at *
   go_enter Tryz.func118,Tryz.ntmps118
   go_wp2_with fail
   refine T.out.mono ?_
   rintro e w1 ⟨rfl,hx1⟩
   go_wp2_with fail
   go_ret
   exact ⟨ret_int hR.out.symm,hx1⟩
  ·have hR:=booksE_first h0 h12
   rw [hR]
   have h12':¬ (12:Int) < (b.length:Int):=by omega
   obtain ⟨R,hRr⟩:∃ R,firstE l b=R:=⟨_,rfl⟩
   have HR:=hid hRr
   rw [hRr]
   have H0:=hid (show firstE l []=0 from rfl)
   clear hl hb hbE h0 h12 hR hRr
   generalize l.length=ln at *
   generalize hzz:b.length=z at *
   have Hz:=hid hzz
   clear hzz
   go_enter Tryz.func118,Tryz.ntmps118
   go_wp2_with fail
   refine T.out.mono ?_
   rintro e w1 ⟨rfl,hx1⟩
   go_wp2_with fail
   go_loopw [19] (fun c wr=>∃ k:Nat,c=.int .i64 k∧k≤z∧Hid (firstE l (b.drop k)=R)∧Ext w wr) (fun c _=>z - (intOf c).toNat)
   case atStart=>exact ⟨0,rfl,by omega,HR,hx1⟩
   case round =>
    obtain ⟨k,rfl,hk,Hg,hx⟩:=hrel
    by_cases hlt:k < z
    ·have hlt':(k:Int) < (z:Int):=by omega
     obtain ⟨x,hxk⟩:=getA (f:=b) (k:=k) (by rw [Hz.out];exact hlt)
     obtain ⟨bb,bo,rfl,hbb,hE⟩:=HBE.out (by omega)
     obtain ⟨pv,bv,c0,c1,c2,c3,c4,c5,c6,hp,hbi⟩:=ebook_cells (EBook.mono w wr bb _ x hx (hE k x hxk))
     have hg:=Hg.out
     rw [drop_get hxk] at hg
     have Q1:=hid (fun (W:World) (h:Ext wr W)=>Q.out W pv x.Req (hx.tr h) (hp.mono h))
     have M1:=hid (fun (W:World) (h:Ext wr W)=>Meets_any W pv bv x.Req x.Bites (hp.mono h) (hbi.mono h))
     obtain ⟨pa,pc,rfl,_,_,_⟩:=hp.form
     obtain ⟨bia,bic,rfl,_,_,_⟩:=hbi.form
     have hal:=hid (fun (o:Obj)=>(Ext.rf wr).al o)
     by_cases hq:reqE l x.Req=0
     ·rw [hq] at Q1
      cases hm:meetsR x.Req x.Bites with
      | false =>
       rw [hm] at M1
       rw [firstE_form hq hm] at hg
       have HG:=hid hg
       clear hg hq hm hxk hE hp hbi Hg
       generalize x.Req.Pieces.length=pn at *
       generalize x.Bites.length=bn at *
       go_wp2_with fail
       refine (Q1.out _ (hal.out _)).mono ?_
       rintro e w2 ⟨rfl,hx2⟩
       obtain ⟨_,_,_,_,_,_⟩:=bookCells hx2
       have hx02:=(hal.out _).tr hx2
       go_wp2_with fail
       refine (M1.out _ hx02).mono ?_
       rintro e w3 ⟨rfl,hx3⟩
       go_wp2_with fail
       go_ret
       exact ⟨ret_int HG.out,hx.tr (hx02.tr hx3)⟩
      | true =>
       rw [hm] at M1
       rw [firstE_ok hq hm] at hg
       have HG:=hid hg
       clear hg hq hm hxk hE hp hbi Hg
       generalize x.Req.Pieces.length=pn at *
       generalize x.Bites.length=bn at *
       go_wp2_with fail
       refine (Q1.out _ (hal.out _)).mono ?_
       rintro e w2 ⟨rfl,hx2⟩
       obtain ⟨_,_,_,_,_,_⟩:=bookCells hx2
       have hx02:=(hal.out _).tr hx2
       go_wp2_with fail
       refine (M1.out _ hx02).mono ?_
       rintro e w3 ⟨rfl,hx3⟩
       go_wp2_with fail
       go_roundw
       case rel=>exact ⟨k+1,by go_num,by omega,HG,hx.tr (hx02.tr hx3)⟩
       case measure=>simp [intOf];omega
     ·rw [firstE_bad hq] at hg
      have HG:=hid hg
      have hne:=neT hq
      clear hg hq hxk hE hp hbi Hg M1
      generalize reqE l x.Req=re at *
      generalize x.Req.Pieces.length=pn at *
      generalize x.Bites.length=bn at *
      go_wp2_with fail
      refine (Q1.out _ (hal.out _)).mono ?_
      rintro e w2 ⟨rfl,hx2⟩
      have hx02:=(hal.out _).tr hx2
      go_wp2_with fail
      go_ret
      exact ⟨ret_int HG.out,hx.tr hx02⟩
    ·obtain rfl:k=z:=by omega
     have hlt':¬ (k:Int) < (k:Int):=by omega
     have hg:=Hg.out
     rw [List.drop_of_length_le (by rw [Hz.out];exact Nat.le_refl _),H0.out] at hg
     have HG:=hid hg
     clear hg
     go_wp2_with fail
     go_ret
     exact ⟨ret_int HG.out,hx⟩
 ·have hR:=hid (booksE_tree (b:=b) h0)
  have hne:=neT h0
  clear hl hb hbE h0 Q HBE
  generalize checkT l=ce at *
  generalize l.length=ln at *
  generalize b.length=bn at *
  go_enter Tryz.func118,Tryz.ntmps118
  go_wp2_with fail
  refine T.out.mono ?_
  rintro e w1 ⟨rfl,hx1⟩
  go_wp2_with fail
  go_ret
  exact ⟨ret_int hR.out.symm,hx1⟩
def takesUp (x:Book):Nat→Nat→Int
 | 0=>fun _=>0
 | k+1=>fun t=>takesUp x k t+hillT (bA x.Bites k).toNat ((bA x.Bites k).toNat+(pL x.Req (bP x.Bites k).toNat).toNat) (pN x.Req (bP x.Bites k).toNat) t
def takesT (x:Book):Nat→Int:=takesUp x x.Bites.length
theorem takesUp_num {x:Book} (hr:ReqOk x.Req) (hin:∀ k,k < x.Bites.length→BiteIn x.Req x.Bites k):∀ k,k≤x.Bites.length→∀ t,0≤takesUp x k t∧takesUp x k t≤50*(k:Int)
 | 0,_,t=>⟨Int.le_refl _,Int.le_refl _⟩
 | k+1,hk,t=>by
  obtain ⟨h1,h2⟩:=takesUp_num hr hin k (by omega) t
  obtain ⟨_,q4⟩:=req_range hr
  have hb:=hin k (by omega)
  obtain ⟨_,p3,p4⟩:=q4 (bP x.Bites k).toNat (by have:=hb.low;have:=hb.is;omega)
  simp only [takesUp]
  unfold hillT
  split <;> omega
theorem fold_zero:fold (fun _=>(0:Int))=[⟨0,0⟩]:=by decide +kernel
theorem sum_any (a b:Int) (w:World) (ha:-1000000000≤a∧a≤1000000000) (hb:-1000000000≤b∧b≤1000000000):Calls Tryz.prog 165 #[.int .i64 a,.int .i64 b] w fun e w'=>e=.returned (.int .i64 (a+b))∧w'=w:=by
 obtain ⟨a1,a2⟩:=ha
 obtain ⟨b1,b2⟩:=hb
 go_enter Tryz.func165,Tryz.ntmps165
 go_wp2
 go_ret
 exact ⟨rfl,rfl⟩
theorem zip_sum (w:World) (vf vg:Value) (x y:Nat→Int) (hf:RunsV w vf (fold x)) (hg:RunsV w vg (fold y)) (hx:∀ t,t < 48→-100000000≤x t∧x t≤100000000) (hy:∀ t,t < 48→-100000000≤y t∧y t≤100000000) :
  Calls Tryz.prog 122 #[vf,vg,.func (.func 165) #[] #[]] w (RetRunsF w (fold fun t=>x t+y t)):=by
 have h:=Zip_anyF w vf vg _ _ hf hg (shape_fold x) (shape_fold y) 165 (fun a b=>a+b) (enters_of Tryz.func165 (by kernel_rfl) rfl) (fun a ha b hb=>by
  have h1:=fold_all (p:=fun m=>-100000000≤m∧m≤100000000) hx a ha
  have h2:=fold_all (p:=fun m=>-100000000≤m∧m≤100000000) hy b hb
  exact ⟨I64.of (by omega) (by omega),fun V=>sum_any _ _ V ⟨by omega,by omega⟩ ⟨by omega,by omega⟩⟩)
 rw [fold_congr (y:=fun t=>x t+y t) (fun t ht=>by rw [sp_fold ht,sp_fold ht])] at h
 exact h
theorem One_any (w:World) (pv bv:Value) (x:Book) (hp:PiecesV w pv x.Req.Pieces) (hb:BitesV w bv x.Bites) (hr:ReqOk x.Req) (hin:∀ k,k < x.Bites.length→BiteIn x.Req x.Bites k) (h3:x.Bites.length≤3) (hfit:∀ k,k < x.Bites.length→bA x.Bites k+pL x.Req (bP x.Bites k).toNat≤48) :
  Calls Tryz.prog 164 #[.agg #[.int .i64 x.Id,.int .i64 x.Req.Queue,.int .i64 x.Req.From,.int .i64 x.Req.Until,.int .i64 x.Req.Kind,pv,bv]] w (RetRuns w (fold (takesT x))):=by
 obtain ⟨⟨q1,q2,q3⟩,q4⟩:=req_range hr
 obtain ⟨m1,m3⟩:=hr.many
 have HT:=hid (takesUp_num hr hin)
 obtain ⟨pb,po,pc,rfl,hpc,hpc9,hpb,hpE⟩:=pieces_at hp (by omega)
 have HPE:=hid hpE
 have HQ:=hid q4
 have HIN:=hid hin
 have HFT:=hid hfit
 obtain ⟨ba,bc,rfl,hbc,hbc9,hbl,hbE⟩:=bites_at hb
 have HBE:=hid hbE
 have H0:=hid (show takesUp x 0=fun _=>0 from rfl)
 have H1:=hid (show ∀ k,takesUp x (k+1)=fun t=>takesUp x k t+hillT (bA x.Bites k).toNat ((bA x.Bites k).toNat+(pL x.Req (bP x.Bites k).toNat).toNat) (pN x.Req (bP x.Bites k).toNat) t from fun _=>rfl)
 have hTT:takesT x=takesUp x x.Bites.length:=rfl
 rw [hTT]
 clear hp hb hpE hin hr q4 hbE hTT hfit
 generalize hnn:x.Req.Pieces.length=n at *
 have Hnn:=hid hnn
 clear hnn
 generalize hzz:x.Bites.length=z at *
 have Hz:=hid hzz
 clear hzz
 generalize takesUp x=tu at *
 go_enter Tryz.func164,Tryz.ntmps164
 go_wp2_with fail
 have hx1:=((Ext.rf w).al (.cells #[.int .i64 x.Id,.int .i64 x.Req.Queue,.int .i64 x.Req.From,.int .i64 x.Req.Until,.int .i64 x.Req.Kind,.slice (some ⟨pb,po,none⟩) n pc,.slice ba z bc] 40)).al (.cells #[.int .i64 0,.int .i64 0] 48)
 have hZ:=runs_lit (w:=w.alloc (.cells #[.int .i64 x.Id,.int .i64 x.Req.Queue,.int .i64 x.Req.From,.int .i64 x.Req.Until,.int .i64 x.Req.Kind,.slice (some ⟨pb,po,none⟩) n pc,.slice ba z bc] 40)) (cs:=#[.int .i64 0,.int .i64 0]) (b:=w.heap.size+1) (n:=1) [⟨0,0⟩] (by simp) rfl rfl (by decide) (lit_nums (by decide +kernel))
 have hbk:=bookCells ((Ext.rf (w.alloc (.cells #[.int .i64 x.Id,.int .i64 x.Req.Queue,.int .i64 x.Req.From,.int .i64 x.Req.Until,.int .i64 x.Req.Kind,.slice (some ⟨pb,po,none⟩) n pc,.slice ba z bc] 40))).al (.cells #[.int .i64 0,.int .i64 0] 48))
 generalize (w.alloc (.cells #[.int .i64 x.Id,.int .i64 x.Req.Queue,.int .i64 x.Req.From,.int .i64 x.Req.Until,.int .i64 x.Req.Kind,.slice (some ⟨pb,po,none⟩) n pc,.slice ba z bc] 40)).alloc (.cells #[.int .i64 0,.int .i64 0] 48)=w1 at *
 have HX1:=hid hx1
 have HZ:=hid hZ
 have HBK:=hid hbk.2.2.2.2.1
 clear hx1 hZ hbk
 go_loopw [3,12] (fun v c wr=>∃ (k:Nat) (ga:Option Addr) (gn gc:Nat),v=.slice ga gn gc∧c=.int .i64 k∧k≤z∧Hid (RunsV wr (.slice ga gn gc) (fold (tu k)))∧Ext w1 wr) (fun _ c _=>z - (intOf c).toNat)
 case atStart=>exact ⟨0,_,1,1,rfl,rfl,by omega,hid (by rw [H0.out,fold_zero];exact HZ.out),Ext.rf _⟩
 case round =>
  obtain ⟨k,ga,gn,gc,rfl,rfl,hk,Hf,hx⟩:=hrel
  by_cases hlt:k < z
  ·have hlt':(k:Int) < (z:Int):=by omega
   obtain ⟨y,hyk⟩:=getA (f:=x.Bites) (k:=k) (by rw [Hz.out];exact hlt)
   obtain ⟨bb,bo,rfl,hbb,hBE⟩:=HBE.out (by omega)
   obtain ⟨c1,c2,_,_⟩:=E2.mono w wr bb _ y (HX1.out.tr hx) (hBE k y hyk)
   obtain ⟨e1,e2⟩:=bite_at hyk
   have hI:=HIN.out k hlt
   obtain ⟨j,hj⟩:=Int.eq_ofNat_of_zero_le (by have:=hI.low;rw [e1] at this;exact this:0≤y.Piece)
   have hjn:j < n:=by have:=hI.is;rw [e1,hj,Hnn.out] at this;exact_mod_cast this
   have hA0:0≤y.At:=by have:=hI.at0;rw [e2] at this;exact this
   have hA1:y.At≤48:=by have:=hI.at48;rw [e2] at this;exact this
   obtain ⟨p,hpk⟩:=getA (f:=x.Req.Pieces) (k:=j) (by rw [Hnn.out];exact hjn)
   obtain ⟨d1,d2,_,_⟩:=E2.mono w wr pb _ p (HX1.out.tr hx) (HPE.out j p hpk)
   obtain ⟨⟨p1,p2⟩,p3,p4⟩:=HQ.out j hjn
   obtain ⟨eL,eN⟩:=piece_at hpk
   rw [eL] at p1 p2
   rw [eN] at p3 p4
   have hnx:=H1.out k
   rw [e1,e2,hj,Int.toNat_natCast,eL,eN] at hnx
   rw [hj] at c1
   have HNX:=hid hnx
   have hfit:=HFT.out k hlt
   rw [e1,e2,hj,Int.toNat_natCast,eL] at hfit
   have HH:=hid (fun (V:World)=>Hill_any V y.At (y.At+p.Len) p.N hA0 (by omega) hfit (I64.of (by omega) (by omega)))
   have hhe:hillL y.At (y.At+p.Len) p.N=fold (hillT y.At.toNat (y.At.toNat+p.Len.toNat) p.N):=by
    rw [show y.At=((y.At.toNat:Nat):Int) by omega,show ((y.At.toNat:Nat):Int)+p.Len=((y.At.toNat+p.Len.toNat:Nat):Int) by omega,hillL_eq (by omega) (by omega)]
    simp only [Int.toNat_natCast]
   rw [hhe] at HH
   have HZZ:=hid (fun (V:World) (vh:Value) (hV:Ext wr V) (hvh:RunsV V vh (fold (hillT y.At.toNat (y.At.toNat+p.Len.toNat) p.N)))=>zip_sum V (.slice ga gn gc) vh (tu k) _ (Hf.out.mono hV) hvh (fun t _=>by have:=HT.out k (by omega) t;omega) (fun t _=>by unfold hillT;split <;> omega))
   have hw1:IntKind.i64.wrap (y.At+p.Len)=y.At+p.Len:=by rw [IntKind.wrap_i64];omega
   have hbx:=(Ext.rf wr).al (.cells #[.int .i64 (j:Int),.int .i64 y.At] 42)
   have b5:=hbx.ce' (hx.ce' HBK.out)
   have d1':=hbx.ce' d1
   have d2':=hbx.ce' d2
   have hal:=hid (fun (o1 o2:Obj)=>((Ext.rf wr).al o1).al o2)
   clear e1 e2 hI hj hyk hpk eL eN hnx hBE hhe hfit hbx
   go_wp2_with fail
   refine (HH.out _).mono ?_
   rintro e w2 ⟨vh,rfl,hvh,hx2⟩
   have hx02:=hid ((hal.out _ _).tr hx2)
   have HVH:=hid hvh
   clear hvh hx2
   go_wp2_with fail
   refine (HZZ.out _ _ hx02.out HVH.out).mono ?_
   rintro e w3 ⟨vz,rfl,hvz,_,hx3⟩
   obtain ⟨za,zc,rfl,_,_,_⟩:=hvz.form
   have HVZ:=hid hvz
   clear hvz
   go_wp2_with fail
   go_roundw
   case rel=>exact ⟨k+1,za,_,zc,rfl,by go_num,by omega,hid (by rw [HNX.out];exact HVZ.out),hx.tr (hx02.out.tr hx3)⟩
   case measure=>simp [intOf];omega
  ·obtain rfl:k=z:=by omega
   have hlt':¬ (k:Int) < (k:Int):=by omega
   go_wp2_with fail
   go_ret
   exact ⟨_,rfl,Hf.out,HX1.out.tr hx⟩
structure BookOk (l:List Queue) (x:Book):Prop where
 q0:0≤x.Req.Queue
 q1:x.Req.Queue < l.length
 meets:meetsR x.Req x.Bites=true
theorem BookOk.req {l:List Queue} {x:Book} (h:BookOk l x):ReqOk x.Req:=(meetsR_iff.1 h.meets).1
theorem BookOk.bites {l:List Queue} {x:Book} (h:BookOk l x):∀ k,k < x.Bites.length→BiteIn x.Req x.Bites k∧bA x.Bites k+pL x.Req (bP x.Bites k).toNat≤48:=by
 intro k hk
 have hr:=h.req
 have m:=((meetsR_ref hr).1 h.meets).1 k hk
 have hu:=(req_range hr).1
 have h1:=m.low
 have h2:=m.is
 have h3:=(req_range hr).2 (bP x.Bites k).toNat (by omega)
 have h4:=m.from_
 have h5:=m.until_
 have h6:=m.fits
 exact ⟨⟨m.low,by omega,by omega,by omega⟩,by omega⟩
theorem BookOk.many {l:List Queue} {x:Book} (h:BookOk l x):1≤x.Bites.length∧x.Bites.length≤3:=by
 have c:=(meetsR_iff.1 h.meets).2.2
 have m:=h.req.many
 unfold CountOk at c
 unfold ManyOk at m
 split at c <;> omega
theorem firstE_zero {l:List Queue}:∀ {b:List Book},firstE l b=0→∀ x∈b,BookOk l x
 | [],_,x,hx=>by cases hx
 | y::b,h,x,hx=>by
  by_cases h1:reqE l y.Req=0
  ·by_cases h2:meetsR y.Req y.Bites=true
   ·rcases List.mem_cons.1 hx with rfl | hx
    ·obtain ⟨_,_,h3,h4⟩:=reqE_zero h1
     exact ⟨h3,h4,h2⟩
    ·exact firstE_zero (by rw [← firstE_ok h1 h2];exact h) x hx
   ·rw [firstE_form h1 (by simpa using h2)] at h;omega
  ·rw [firstE_bad h1] at h;exact absurd h h1
theorem booksE_zero {l:List Queue} {b:List Book} (h:booksE l b=0):TreeOk l∧checkT l=0∧b.length≤12∧∀ x∈b,BookOk l x:=by
 by_cases h0:checkT l=0
 ·by_cases h1:12 < b.length
  ·rw [booksE_many h0 h1] at h;omega
  ·rw [booksE_first h0 h1] at h
   exact ⟨checkT_ok h0,h0,by omega,firstE_zero h⟩
 ·rw [booksE_tree h0] at h;exact absurd h h0
theorem book_num {l:List Queue} {x:Book} (h:BookOk l x) (t:Nat):0≤takesT x t∧takesT x t≤150:=by
 have:=takesUp_num h.req (fun k hk=>(h.bites k hk).1) x.Bites.length (Nat.le_refl _) t
 have:=h.many
 unfold takesT
 omega
def takenT (l:List Queue):List Book→Nat→Nat→Int
 | [],_=>fun _=>0
 | x::b,q=>fun t=>(if under l x.Req.Queue q=true then takesT x t else 0)+takenT l b q t
theorem takenT_append (l:List Queue) (q t:Nat):∀ b c,takenT l (b++c) q t=takenT l b q t+takenT l c q t
 | [],c=>by simp [takenT]
 | x::b,c=>by
  have:=takenT_append l q t b c
  simp only [List.cons_append,takenT];omega
theorem takenT_snoc (l:List Queue) (q t:Nat) {b:List Book} {k:Nat} {x:Book} (h:b[k]?=some x):takenT l (b.take (k+1)) q t=takenT l (b.take k) q t+(if under l x.Req.Queue q=true then takesT x t else 0):=by
 obtain ⟨hk,e⟩:=List.getElem?_eq_some_iff.1 h
 rw [← List.take_append_getElem hk,takenT_append,e]
 simp [takenT]
theorem takenT_num {l:List Queue} (q t:Nat):∀ b,(∀ x∈b,BookOk l x)→0≤takenT l b q t∧takenT l b q t≤150*(b.length:Int)
 | [],_=>by simp [takenT]
 | x::b,h=>by
  have:=takenT_num q t b (fun y hy=>h y (List.mem_cons_of_mem _ hy))
  have:=book_num (h x (List.mem_cons_self ..)) t
  simp only [takenT,List.length_cons]
  split <;> omega
def addAt (F:Nat→Nat→Int) (f:Nat→Int) (q:Nat):Nat→Nat→Int:=fun k=>if k=q then fun t=>F k t+f t else F k
def addAll (F:Nat→Nat→Int) (f:Nat→Int) (xs:List Nat):Nat→Nat→Int:=xs.foldl (fun F q=>addAt F f q) F
theorem addAll_snoc (F:Nat→Nat→Int) (f:Nat→Int) (xs:List Nat) (q:Nat):addAll F f (xs++[q])=addAt (addAll F f xs) f q:=by simp [addAll]
theorem addAll_num {f:Nat→Int} {m:Int} {t:Nat} (hf:0≤f t∧f t≤m):∀ (xs:List Nat) (F:Nat→Nat→Int) (a:Int),(∀ k,0≤F k t∧F k t≤a)→∀ k,0≤addAll F f xs k t∧addAll F f xs k t≤a+m*(xs.length:Int)
 | [],F,a,hF,k=>by simpa [addAll] using hF k
 | x::xs,F,a,hF,k=>by
  have ih:=addAll_num hf xs (addAt F f x) (a+m) (fun j=>by
   have:=hF j
   unfold addAt
   split <;> (try simp only []) <;> omega) k
  rw [show a+m*((x::xs).length:Int)=a+m+m*(xs.length:Int) by rw [List.length_cons,Int.natCast_succ,Int.mul_add];omega]
  exact ih
theorem addAll_line {f:Nat→Int} (k t:Nat):∀ (xs:List Nat) (F:Nat→Nat→Int),xs.Nodup→addAll F f xs k t=F k t+(if k∈xs then f t else 0)
 | [],F,_=>by simp [addAll]
 | x::xs,F,h=>by
  have ih:=addAll_line (f:=f) k t xs (addAt F f x) (List.nodup_cons.1 h).2
  show addAll (addAt F f x) f xs k t=_
  rw [ih]
  have hx:=(List.nodup_cons.1 h).1
  by_cases e:k=x
  ·subst e
   rw [if_neg hx,if_pos (List.mem_cons_self ..)]
   simp [addAt]
  ·have:addAt F f x k=F k:=by simp [addAt,e]
   rw [this]
   by_cases hk:k∈xs
   ·rw [if_pos hk,if_pos (List.mem_cons_of_mem _ hk)]
   ·rw [if_neg hk,if_neg (fun h'=>by rcases List.mem_cons.1 h' with h' | h';exact e h';exact hk h')]
theorem line_nodup {l:List Queue} (hp:ParsOk l):∀ (n:Nat) (q:Int),q < n→q < l.length→(lineL l q).Nodup
 | 0,q,h1,_=>by rw [lineL_neg (by omega)];exact List.nodup_nil
 | n+1,q,h1,h2=>by
  by_cases h:q < 0
  ·rw [lineL_neg h];exact List.nodup_nil
  ·obtain ⟨k,rfl⟩:=Int.eq_ofNat_of_zero_le (by omega:0≤q)
   have hk:k < l.length:=by omega
   have hpk:=hp k hk
   rw [lineL_pos hp hk]
   have hlt:par l k < k:=hpk.2
   refine List.nodup_cons.2 ⟨fun hm=>?_,line_nodup hp n _ (by omega) (by omega)⟩
   have:=(lineL_lt hp (n+1) (par l k) (by omega) (by omega) k hm).2
   omega
theorem under_mem {l:List Queue} {q:Int} {k:Nat}:(k∈lineL l q)↔under l q k=true:=by
 rw [under_iff]
 constructor
 ·intro h;exact ⟨k,h,rfl⟩
 ·rintro ⟨j,h,e⟩
  have:j=k:=by omega
  rw [← this];exact h
theorem addAll_book {l:List Queue} {b:List Book} (hp:ParsOk l) {m:Nat} {x:Book} (hx:b[m]?=some x) (hq:x.Req.Queue < l.length) (k:Nat):(∀ t,addAll (takenT l (b.take m)) (takesT x) (lineL l x.Req.Queue) k t=takenT l (b.take (m+1)) k t):=by
 intro t
 rw [addAll_line k t _ _ (line_nodup hp l.length _ hq hq),takenT_snoc l k t hx]
 by_cases h:k∈lineL l x.Req.Queue
 ·rw [if_pos h,if_pos (under_mem.1 h)]
 ·rw [if_neg h,if_neg (fun h'=>h (under_mem.2 h'))]
def ApartL (bs:List Nat) (v:Value):Prop:=∀ a n c,v=.slice (some a) n c→a.block ∉ bs
def LoadsAt (bs:List Nat) (W:World) (B n:Nat) (F:Nat→Nat→Int):Prop :=
 ∃ vs:List Value,vs.length=n∧RowAt 29 W B vs∧∀ k v,vs[k]?=some v→RunsV W v (fold (F k))∧ApartL bs v
theorem fold_ne (x:Nat→Int):fold x≠[]:=fun h=>by have:=shape_fold x;rw [h] at this;exact this
theorem runs_cells {W:World} {v:Value} {f:List Run} (h:RunsV W v f) (hf:f≠[]):∃ b off cap,v=.slice (some ⟨b,off,none⟩) f.length cap∧b < W.heap.size∧(∃ n m,W.cell? ⟨b,off,none⟩=some (.int .i64 n)∧W.cell? ⟨b,off+1,none⟩=some (.int .i64 m)):=by
 rcases h with ⟨rfl,_⟩ | ⟨b,off,cap,rfl,h1,h2,hl,h3,h4⟩
 ·exact absurd rfl hf
 ·cases f with
  | nil=>exact absurd rfl hf
  | cons x f =>
   obtain ⟨e1,e2,_⟩:=h4 0 x rfl
   rw [Nat.zero_mul,Nat.add_zero] at e1 e2
   exact ⟨b,off,cap,rfl,h3,_,_,e1,e2⟩
theorem ApartL.at {bs:List Nat} {b off n c:Nat} (h:ApartL bs (.slice (some ⟨b,off,none⟩) n c)):b ∉ bs:=h _ _ _ rfl
theorem apart_at {bs:List Nat} {b off n c:Nat} (h:b ∉ bs):ApartL bs (.slice (some ⟨b,off,none⟩) n c):=fun a m d e=>by cases e;exact h
theorem runs_grown {W W':World} {v:Value} {f:List Run} {row:Option Nat} {bs:List Nat} (h:RunsV W v f) (ha:ApartL bs v) (hg:W.grownBy W' row) (hr:∀ r,row=some r→r∈bs):RunsV W' v f :=
 runsV_grown h hg (fun a n c e he=>ha a n c e (hr _ he.symm))
theorem runs_own {W W':World} {v:Value} {f:List Run} {row:Option Nat} (h:RunsV W v f) (hf:f≠[]) (hg:W.grownBy W' row) (hr:∀ r,row=some r→∃ o:Obj,W.heap[r]?=some o∧o.isCells=false):RunsV W' v f:=by
 obtain ⟨b,off,cap,rfl,hb,n,m,hc,_⟩:=runs_cells h hf
 refine runsV_grown h hg (fun a n c e he=>?_)
 cases e
 obtain ⟨o,ho,hc'⟩:=hr _ he.symm
 unfold World.cell? at hc
 rw [ho] at hc
 cases o <;> simp [Obj.isCells] at hc' <;> simp at hc
theorem LoadsAt.row {bs:List Nat} {W:World} {B n:Nat} {F:Nat→Nat→Int} (h:LoadsAt bs W B n F) {k:Nat} (hk:k < n):∃ v,W.cell? ⟨B,k,none⟩=some v∧W.frozen? ⟨B,k,none⟩=false∧RunsV W v (fold (F k))∧ApartL bs v:=by
 obtain ⟨vs,h1,h2,h3⟩:=h
 obtain ⟨v,hv⟩:=getA (f:=vs) (k:=k) (by omega)
 exact ⟨v,h2.cell hv,h2.free k,h3 k v hv⟩
theorem LoadsAt.ext {bs:List Nat} {W W':World} {B n:Nat} {F:Nat→Nat→Int} (h:LoadsAt bs W B n F) (hx:Ext W W'):LoadsAt bs W' B n F:=by
 obtain ⟨vs,h1,h2,h3⟩:=h
 exact ⟨vs,h1,h2.ext hx,fun k v hk=>⟨(h3 k v hk).1.mono hx,(h3 k v hk).2⟩⟩
theorem LoadsAt.grown {bs:List Nat} {W W':World} {B n:Nat} {F:Nat→Nat→Int} {row:Option Nat} (h:LoadsAt bs W B n F) (hg:W.grownBy W' row) (hr:∀ r,row=some r→r∈bs∧r≠B):LoadsAt bs W' B n F:=by
 obtain ⟨vs,h1,h2,h3⟩:=h
 exact ⟨vs,h1,h2.kept hg (fun e=>(hr B e.symm).2 rfl),fun k v hk=>⟨runs_grown (h3 k v hk).1 (h3 k v hk).2 hg (fun r e=>(hr r e).1),(h3 k v hk).2⟩⟩
theorem LoadsAt.own {bs:List Nat} {W W':World} {B n:Nat} {F:Nat→Nat→Int} {row:Option Nat} (h:LoadsAt bs W B n F) (hg:W.grownBy W' row) (hr:∀ r,row=some r→∃ o:Obj,W.heap[r]?=some o∧o.isCells=false):LoadsAt bs W' B n F:=by
 obtain ⟨vs,h1,h2,h3⟩:=h
 refine ⟨vs,h1,h2.kept hg (fun e=>?_),fun k v hk=>⟨runs_own (h3 k v hk).1 (fold_ne _) hg hr,(h3 k v hk).2⟩⟩
 obtain ⟨o,ho,hc⟩:=hr B e.symm
 rw [show W.heap[B]?=_ from h2] at ho
 cases ho
 simp [Obj.isCells] at hc
theorem LoadsAt.set {bs:List Nat} {W:World} {B n:Nat} {F:Nat→Nat→Int} (h:LoadsAt bs W B n F) (hB:B∈bs) {q:Nat} {v:Value} {G:Nat→Int} (hv:RunsV W v (fold G)) (ha:ApartL bs v):LoadsAt bs (W.setCell ⟨B,q,none⟩ v) B n (fun k=>if k=q then G else F k):=by
 obtain ⟨vs,h1,h2,h3⟩:=h
 have hg:=grown_set W B q v
 have hr:∀ r,some B=some r→r∈bs:=fun r e=>by cases e;exact hB
 refine ⟨vs.set q v,by simpa using h1,h2.set q v,fun k u hk=>?_⟩
 by_cases e:k=q
 ·subst e
  show RunsV _ u (fold (if k=k then G else F k))∧_
  rw [if_pos rfl]
  have hlt:k < vs.length:=by have:=(List.getElem?_eq_some_iff.1 hk).1;simpa using this
  rw [List.getElem?_set_self hlt] at hk
  cases hk
  exact ⟨runs_grown hv ha hg hr,ha⟩
 ·show RunsV _ u (fold (if k=q then G else F k))∧_
  rw [if_neg e]
  rw [List.getElem?_set_ne (fun h=>e h.symm)] at hk
  exact ⟨runs_grown (h3 k u hk).1 (h3 k u hk).2 hg hr,(h3 k u hk).2⟩
theorem LoadsAt.also {bs:List Nat} {W:World} {B n:Nat} {F:Nat→Nat→Int} (h:LoadsAt bs W B n F) {q:Nat} (hq:W.heap.size≤q):LoadsAt (q::bs) W B n F:=by
 obtain ⟨vs,h1,h2,h3⟩:=h
 refine ⟨vs,h1,h2,fun k v hk=>⟨(h3 k v hk).1,?_⟩⟩
 obtain ⟨b,off,cap,rfl,hb,_⟩:=runs_cells (h3 k v hk).1 (fold_ne _)
 have:=(h3 k _ hk).2.at
 exact apart_at (fun h=>by rcases List.mem_cons.1 h with h | h;omega;exact this h)
theorem LoadsAt.less {bs cs:List Nat} {W:World} {B n:Nat} {F:Nat→Nat→Int} (h:LoadsAt bs W B n F) (hs:∀ x∈cs,x∈bs):LoadsAt cs W B n F:=by
 obtain ⟨vs,h1,h2,h3⟩:=h
 exact ⟨vs,h1,h2,fun k v hk=>⟨(h3 k v hk).1,fun a m c e hm=>(h3 k v hk).2 a m c e (hs _ hm)⟩⟩
theorem LoadsAt.congr {bs:List Nat} {W:World} {B n:Nat} {F G:Nat→Nat→Int} (h:LoadsAt bs W B n F) (e:∀ k,k < n→∀ t,F k t=G k t):LoadsAt bs W B n G:=by
 obtain ⟨vs,h1,h2,h3⟩:=h
 refine ⟨vs,h1,h2,fun k v hk=>?_⟩
 have hk':k < n:=by have:=(List.getElem?_eq_some_iff.1 hk).1;omega
 rw [show G k=F k from funext fun t=>(e k hk' t).symm]
 exact h3 k v hk
theorem LoadsAt.apart {bs:List Nat} {W:World} {B n:Nat} {F:Nat→Nat→Int} (h:LoadsAt bs W B n F) {v:Value} {f:List Run} (hv:RunsV W v f) (hf:f≠[]):ApartL [B] v:=by
 obtain ⟨vs,h1,h2,h3⟩:=h
 obtain ⟨b,off,cap,rfl,hb,m,_,hc,_⟩:=runs_cells hv hf
 refine apart_at (fun h=>?_)
 rcases List.mem_cons.1 h with rfl | h
 ·rw [cell_of_row _ _ _ _ _ _ h2] at hc
  have hk:=hc
  rw [List.getElem?_toArray] at hk
  obtain ⟨b',off',cap',e,_⟩:=runs_cells (h3 _ _ hk).1 (fold_ne _)
  cases e
 ·cases h
theorem LoadsAt.loads {bs:List Nat} {W:World} {B n:Nat} {F:Nat→Nat→Int} (h:LoadsAt bs W B n F) (hn:n≤5):LoadsV W (.slice (some ⟨B,0,none⟩) n n) ((List.range n).map fun k=>fold (F k)):=by
 obtain ⟨vs,h1,h2,h3⟩:=h
 refine .inr ⟨B,0,n,by simp,by simp,by omega,by simp;omega,h2.lt,fun k x hk=>?_⟩
 have hkn:k < n:=by have:=(List.getElem?_eq_some_iff.1 hk).1;simpa using this
 obtain ⟨v,hv⟩:=getA (f:=vs) (k:=k) (by omega)
 have e:x=fold (F k):=by simp [hkn] at hk;exact hk.symm
 rw [e,Nat.zero_add,Nat.mul_one]
 exact ⟨v,h2.cell hv,(h3 k v hv).1⟩
end Go.Proofs.YtdcndkojmflhnaaGreat
