/- laws; loads -/
import Derived.Test.YtncaoclhlfkdoaaGreatPReqF
import Derived.Test.YtncaoclhlfkdoaaGreatPReqP
import Derived.Test.YtncaoclhlfkdoaaGreatPReqL
import Derived.Test.YtncaoclhlfkdoaaGreatPRoomP
import Derived.Test.YtncaoclhlfkdoaaGreatPLoadD
import Derived.Test.YtncaoclhlfkdoaaGreatPCore
import Derived.WalkSpells
import Derived.StillTactics
import Derived.Tactics2
import Derived.Deep.RegionHeld3
/- The laws on requests: plot; reqBegun is true. -/
set_option linter.unusedVariables false
set_option maxRecDepth 100000
set_option maxHeartbeats 8000000
set_option linter.unusedSimpArgs false
set_option linter.unusedVariables false
namespace Go.Proofs.YtncaoclhlfkdoaaGreat
open Go.RowKit
open List renaming getElem_toArray→zA,getElem_cons_zero→zB,getElem_cons_succ→zC,setIfInBounds_toArray→zD,set_cons_zero→zE,set_cons_succ→zF
instance (r:Request) (b:List Bite) (k:Nat):Decidable (BiteIn r b k) :=
 decidable_of_iff ((0≤bP b k∧bP b k < r.Pieces.length)∧0≤bA b k∧bA b k≤48) ⟨fun h=>⟨h.1.1,h.1.2,h.2.1,h.2.2⟩,fun h=>⟨⟨h.low,h.is⟩,h.at0,h.at48⟩⟩
instance (r:Request) (b:List Bite) (k:Nat):Decidable (StepOk r b k) :=
 decidable_of_iff ((lastP b k < bP b k∧bP b k < r.Pieces.length)∧(r.From≤bA b k∧bA b k≤r.Until)∧pL r (bP b k).toNat≤r.Until - bA b k∧(0 < k→r.Kind=3→endA r b k≤bA b k)∧(0 < k→r.Kind=4→bA b k=endA r b k))
  ⟨fun h=>⟨h.1.1,h.1.2,h.2.1.1,h.2.1.2,h.2.2.1,h.2.2.2.1,h.2.2.2.2⟩,fun h=>⟨⟨h.up,h.is⟩,⟨h.from_,h.until_⟩,h.fits,h.order,h.tight⟩⟩
theorem meetsR_dec (r:Request) (b:List Bite):meetsR r b=decide (ReqOk r∧(∀ k,k < b.length→StepOk r b k)∧CountOk r b):=by
 by_cases h:ReqOk r∧(∀ k,k < b.length→StepOk r b k)∧CountOk r b
 ·rw [decide_eq_true h];exact meetsR_iff.2 h
 ·rw [decide_eq_false h];exact meetsR_no h
def loadsL (l:List Queue) (b:List Book):List (List Run):=(List.range l.length).map fun k=>fold (takenT l b k)
@[irreducible] noncomputable def loadsR (l:List Queue) (b:List Book):List (List Run) × Int:=if booksE l b=0 then (loadsL l b,0) else ([],booksE l b)
theorem loadsR_bad {l:List Queue} {b:List Book} (h:booksE l b≠0):loadsR l b=([],booksE l b):=by unfold loadsR;rw [if_neg h]
theorem loadsR_ok {l:List Queue} {b:List Book} (h:booksE l b=0):loadsR l b=(loadsL l b,0):=by unfold loadsR;rw [if_pos h]
def RetLoads2 (w:World) (r:List (List Run) × Int) (e:Ending) (w':World):Prop:=∃ v,e=.returned (.tuple #[v,.int .i64 r.2])∧LoadsV w' v r.1∧Ext w w'
theorem retLoads2_of {w w':World} {r:List (List Run) × Int} {l:List (List Run)} {n:Int} {v:Value} (h:r=(l,n)) (hv:LoadsV w' v l) (hx:Ext w w'):RetLoads2 w r (.returned (.tuple #[v,.int .i64 n])) w':=by
 subst h;exact ⟨v,rfl,hv,hx⟩
theorem LoadOf_go (w:World) (v bv:Value) (l:List Queue) (b:List Book) (hl:QueuesV w v l) (hb:BooksV w bv b) :
  Calls Tryz.prog 30 #[v,bv] w (RetLoads2 w (loadsR l b)):=by
 have C:=hid (loadCheck_any w v bv l b hl hb)
 by_cases h:booksE l b=0
 ·obtain ⟨ok,_,h12,hbok⟩:=booksE_zero h
  rw [h] at C
  have Hr:=hid (loadsR_ok h)
  have I:=hid (fun (W:World) (hx:Ext w W)=>show Calls Tryz.prog 71 #[v,bv] W (fun e w'=>∃ u,e=.returned u∧LoadsV w' u (loadsL l b)∧Ext W w') from Taken_any W v bv l b (hl.mono hx) (hb.mono hx) ok.pars ok.n5 hbok h12 ok.n1)
  obtain ⟨a,cap,rfl,_,_,hl5⟩:=hl.form
  obtain ⟨ba,bc,rfl,_,_,_⟩:=hb.form
  clear hl hb h ok hbok
  generalize l.length=n at *
  generalize b.length=z at *
  go_enter Tryz.func30,Tryz.ntmps30
  go_wp2_with fail
  refine C.out.mono ?_
  rintro e w1 ⟨rfl,hx⟩
  go_wp2_with fail
  refine (I.out _ hx).mono ?_
  rintro e w2 ⟨u,rfl,hu,hx2⟩
  obtain ⟨ua,uc,rfl,_,_,_⟩:=hu.form
  go_wp2_with fail
  go_ret2
  refine retLoads2_of Hr.out ?_ (hx.tr hx2)
  exact hu
 ·have Hr:=hid (loadsR_bad h)
  have hne:=neT h
  obtain ⟨a,cap,rfl,_,_,hl5⟩:=hl.form
  obtain ⟨ba,bc,rfl,_,_,_⟩:=hb.form
  clear hl hb h
  generalize booksE l b=be at *
  generalize l.length=n at *
  generalize b.length=z at *
  go_enter Tryz.func30,Tryz.ntmps30
  go_wp2_with fail
  refine C.out.mono ?_
  rintro e w1 ⟨rfl,hx⟩
  go_wp2_with fail
  go_ret2
  exact retLoads2_of Hr.out SV.nil hx
theorem CheckBooks_any (w:World) (v bv:Value) (l:List Queue) (b:List Book) (hl:QueuesV w v l) (hb:BooksV w bv b) :
  Calls Tryz.prog 125 #[v,bv] w fun e w'=>e=.returned (.int .i64 (booksE l b))∧Ext w w':=by
 have T:=hid (CheckTree_any w v l hl)
 have Q:=hid (fun (W:World) (pv:Value) (r:Request) (h:Ext w W) (hp:PiecesV W pv r.Pieces)=>CheckReq_any W v pv l r (hl.mono h) hp)
 obtain ⟨ba,bc,rfl,hbc,hbc9,hbl,hbE⟩:=books_at hb
 obtain ⟨qa,qc,rfl,_,_,_⟩:=hl.form
 have HBE:=hid hbE
 by_cases h0:checkT l=0
 ·rw [h0] at T
  by_cases h12:12 < b.length
  ·have hR:=hid (booksE_many h0 h12)
   have h12':(12:Int) < (b.length:Int):=by omega
   clear hl hb hbE h0 h12 Q HBE
   generalize l.length=ln at *
   generalize b.length=bn at *
   go_enter Tryz.func125,Tryz.ntmps125
   go_wp2_with fail
   refine T.out.mono ?_
   rintro e w1 ⟨rfl,hx1⟩
   go_wp2_with fail
   go_ret
   exact ⟨ret_int hR.out.symm,hx1⟩
  ·have hR:=booksE_first h0 h12
   rw [hR]
   have h12':¬ (12:Int) < (b.length:Int):=by omega
   obtain ⟨R,hRr⟩:∃ R,firstE l b=R:=⟨_,rfl⟩
   have HR:=hid hRr
   rw [hRr]
   have H0:=hid (show firstE l []=0 from rfl)
   clear hl hb hbE h0 h12 hR hRr
   generalize l.length=ln at *
   generalize hzz:b.length=z at *
   have Hz:=hid hzz
   clear hzz
   go_enter Tryz.func125,Tryz.ntmps125
   go_wp2_with fail
   refine T.out.mono ?_
   rintro e w1 ⟨rfl,hx1⟩
   go_wp2_with fail
   go_loopw [6] (fun c wr=>∃ k:Nat,c=.int .i64 k∧k≤z∧Hid (firstE l (b.drop k)=R)∧Ext w wr) (fun c _=>z - (intOf c).toNat)
   case atStart=>exact ⟨0,rfl,by omega,HR,hx1⟩
   case round =>
    obtain ⟨k,rfl,hk,Hg,hx⟩:=hrel
    by_cases hlt:k < z
    ·have hlt':(k:Int) < (z:Int):=by omega
     obtain ⟨x,hxk⟩:=getA (f:=b) (k:=k) (by rw [Hz.out];exact hlt)
     obtain ⟨bb,bo,rfl,hbb,hE⟩:=HBE.out (by omega)
     obtain ⟨pv,bv,c0,c1,c2,c3,c4,c5,c6,hp,hbi⟩:=ebook_cells (EBook.mono w wr bb _ x hx (hE k x hxk))
     have hg:=Hg.out
     rw [drop_get hxk] at hg
     have Q1:=hid (Q.out wr pv x.Req hx hp)
     have M1:=hid (fun (W:World) (h:Ext wr W)=>MeetsOf_any W pv bv x.Req x.Bites (hp.mono h) (hbi.mono h))
     obtain ⟨pa,pc,rfl,_,_,_⟩:=hp.form
     obtain ⟨bia,bic,rfl,_,_,_⟩:=hbi.form
     by_cases hq:reqE l x.Req=0
     ·rw [hq] at Q1
      have HG0:=hid hg
      have HQ:=hid hq
      clear hg hq hxk hE hp hbi Hg
      generalize x.Req.Pieces.length=pn at *
      generalize x.Bites.length=bn at *
      go_wp2_with fail
      refine Q1.out.mono ?_
      rintro e w2 ⟨rfl,hx2⟩
      replace c1:=fun p:Later w2=>p.cell (hx2.ce' c1)
      replace c2:=fun p:Later w2=>p.cell (hx2.ce' c2)
      replace c3:=fun p:Later w2=>p.cell (hx2.ce' c3)
      replace c4:=fun p:Later w2=>p.cell (hx2.ce' c4)
      replace c5:=fun p:Later w2=>p.cell (hx2.ce' c5)
      replace c6:=fun p:Later w2=>p.cell (hx2.ce' c6)
      clear c0
      have ML:=hid (fun p:Later w2=>later_of p (M1.out p.v (hx2.tr p.h)))
      have HX2:=hid (hx.tr hx2)
      clear hx2 M1 Q1 Q T
      go_wp2_with fail
      refine region_later (by kernel_rfl) (by kernel_rfl) ?_
      repeat (go_big_quiet_step (with_reducible exact ML.out _))
      refine wpQuiet_nil ?_
      rintro w' ⟨p,rfl⟩
      have HX3:=hid (HX2.out.tr p.h)
      clear ML c1 c2 c3 c4 c5 c6
      generalize p.v=W3 at *
      cases hm:meetsR x.Req x.Bites with
      | false =>
       have hg:=HG0.out
       rw [firstE_form HQ.out hm] at hg
       have HG:=hid hg
       clear hg
       go_wp2_with fail
       go_ret
       exact ⟨ret_int HG.out,HX3.out⟩
      | true =>
       have hg:=HG0.out
       rw [firstE_ok HQ.out hm] at hg
       have HG:=hid hg
       clear hg
       go_wp2_with fail
       go_roundw
       case rel=>exact ⟨k+1,by go_num,by omega,HG,HX3.out⟩
       case measure=>simp [intOf];omega
     ·rw [firstE_bad hq] at hg
      have HG:=hid hg
      have hne:=neT hq
      clear hg hq hxk hE hp hbi Hg M1
      generalize reqE l x.Req=re at *
      generalize x.Req.Pieces.length=pn at *
      generalize x.Bites.length=bn at *
      go_wp2_with fail
      refine Q1.out.mono ?_
      rintro e w2 ⟨rfl,hx2⟩
      go_wp2_with fail
      go_ret
      exact ⟨ret_int HG.out,hx.tr hx2⟩
    ·obtain rfl:k=z:=by omega
     have hlt':¬ (k:Int) < (k:Int):=by omega
     have hg:=Hg.out
     rw [List.drop_of_length_le (by rw [Hz.out];exact Nat.le_refl _),H0.out] at hg
     have HG:=hid hg
     clear hg
     go_wp2_with fail
     go_ret
     exact ⟨ret_int HG.out,hx⟩
 ·have hR:=hid (booksE_tree (b:=b) h0)
  have hne:=neT h0
  clear hl hb hbE h0 Q HBE
  generalize checkT l=ce at *
  generalize l.length=ln at *
  generalize b.length=bn at *
  go_enter Tryz.func125,Tryz.ntmps125
  go_wp2_with fail
  refine T.out.mono ?_
  rintro e w1 ⟨rfl,hx1⟩
  go_wp2_with fail
  go_ret
  exact ⟨ret_int hR.out.symm,hx1⟩
theorem keep5 {w1 w':World} {a1 a2 a3 a4 a5:Addr} {a b c d e:Value} (hx:Ext w1 w') (b0:w1.cell? a1=some a) (b1:w1.cell? a2=some b) (b2:w1.cell? a3=some c) (b3:w1.cell? a4=some d) (b4:w1.cell? a5=some e) :
  w'.cell? a1=some a∧w'.cell? a2=some b∧w'.cell? a3=some c∧w'.cell? a4=some d∧w'.cell? a5=some e:=by
 have k:∀ {a:Addr} {v:Value},w1.cell? a=some v→w'.cell? a=some v:=fun {a v} h=>by
  rw [hx.cell (World.block_lt_of_cell? w1 a h)];exact h
 exact ⟨k b0,k b1,k b2,k b3,k b4⟩
theorem takes_any (w:World) (pv bv:Value) (x:Book) (t:Nat) (hp:PiecesV w pv x.Req.Pieces) (hb:BitesV w bv x.Bites) (hr:ReqOk x.Req) (hin:∀ k,k < x.Bites.length→BiteIn x.Req x.Bites k) (h3:x.Bites.length≤3) :
  Calls Tryz.prog 121 #[.agg #[.int .i64 x.Id,.int .i64 x.Req.Queue,.int .i64 x.Req.From,.int .i64 x.Req.Until,.int .i64 x.Req.Kind,pv,bv],.int .i64 (t:Int)] w fun e w'=>e=.returned (.int .i64 (takesT x t))∧Ext w w':=by
 obtain ⟨⟨q1,q2,q3⟩,q4⟩:=req_range hr
 obtain ⟨m1,m3⟩:=hr.many
 have HT:=hid (takesUp_num hr hin)
 obtain ⟨pb,po,pc,rfl,hpc,hpc9,hpb,hpE⟩:=pieces_at hp (by omega)
 have HPE:=hid hpE
 have HQ:=hid q4
 have HIN:=hid hin
 obtain ⟨ba,bc,rfl,hbc,hbc9,hbl,hbE⟩:=bites_at hb
 have HBE:=hid hbE
 have H0:=hid (show takesUp x 0 t=0 from rfl)
 have H1:=hid (show ∀ k,takesUp x (k+1) t=takesUp x k t+(if (bA x.Bites k).toNat≤t∧t < (bA x.Bites k).toNat+(pL x.Req (bP x.Bites k).toNat).toNat then pN x.Req (bP x.Bites k).toNat else 0) from fun _=>rfl)
 have hTT:takesT x=takesUp x x.Bites.length:=rfl
 rw [hTT]
 clear hp hb hpE hin hr q4 hbE hTT
 generalize hnn:x.Req.Pieces.length=n at *
 have Hnn:=hid hnn
 clear hnn
 generalize hzz:x.Bites.length=z at *
 have Hz:=hid hzz
 clear hzz
 have HTK:=hid (fun k (hk:k≤z)=>HT.out k hk t)
 clear HT
 go_enter Tryz.func121,Tryz.ntmps121
 go_wp2_with fail
 have hx0:=(Ext.rf w).al (.cells #[.int .i64 x.Id,.int .i64 x.Req.Queue,.int .i64 x.Req.From,.int .i64 x.Req.Until,.int .i64 x.Req.Kind,.slice (some ⟨pb,po,none⟩) n pc,.slice ba z bc] 43)
 have hR0:=fun W=>bookCells (W:=W) (w:=w) (a:=.int .i64 x.Id) (b:=.int .i64 x.Req.Queue) (c:=.int .i64 x.Req.From) (d:=.int .i64 x.Req.Until) (e:=.int .i64 x.Req.Kind) (f:=.slice (some ⟨pb,po,none⟩) n pc) (g:=.slice ba z bc) (t:=43)
 generalize w.alloc (.cells #[.int .i64 x.Id,.int .i64 x.Req.Queue,.int .i64 x.Req.From,.int .i64 x.Req.Until,.int .i64 x.Req.Kind,.slice (some ⟨pb,po,none⟩) n pc,.slice ba z bc] 43)=w1 at *
 have HR1:=hid hR0
 have HX1:=hid hx0
 clear hR0 hx0
 go_loopw [5,6] (fun s c wr=>∃ (k:Nat),s=.int .i64 (takesUp x k t)∧c=.int .i64 k∧k≤z∧Ext w1 wr) (fun _ c _=>z - (intOf c).toNat)
 case atStart=>exact ⟨0,by rw [H0.out],rfl,by omega,Ext.rf _⟩
 case round =>
  obtain ⟨k,rfl,rfl,hk,hx⟩:=hrel
  obtain ⟨_,_,_,_,b5,b6⟩:=HR1.out wr hx
  by_cases hlt:k < z
  ·have hlt':(k:Int) < (z:Int):=by omega
   obtain ⟨y,hyk⟩:=getA (f:=x.Bites) (k:=k) (by rw [Hz.out];exact hlt)
   obtain ⟨bb,bo,rfl,hbb,hBE⟩:=HBE.out (by omega)
   obtain ⟨c1,c2,_,_⟩:=E2.mono w wr bb _ y (HX1.out.tr hx) (hBE k y hyk)
   obtain ⟨e1,e2⟩:=bite_at hyk
   have hI:=HIN.out k hlt
   obtain ⟨j,hj⟩:=Int.eq_ofNat_of_zero_le (by have:=hI.low;rw [e1] at this;exact this:0≤y.Piece)
   have hjn:j < n:=by have:=hI.is;rw [e1,hj,Hnn.out] at this;exact_mod_cast this
   have hA0:0≤y.At:=by have:=hI.at0;rw [e2] at this;exact this
   have hA1:y.At≤48:=by have:=hI.at48;rw [e2] at this;exact this
   obtain ⟨p,hpk⟩:=getA (f:=x.Req.Pieces) (k:=j) (by rw [Hnn.out];exact hjn)
   obtain ⟨d1,d2,_,_⟩:=E2.mono w wr pb _ p (HX1.out.tr hx) (HPE.out j p hpk)
   obtain ⟨⟨p1,p2⟩,p3,p4⟩:=HQ.out j hjn
   obtain ⟨eL,eN⟩:=piece_at hpk
   rw [eL] at p1 p2
   rw [eN] at p3 p4
   have hnx:=H1.out k
   have hpj:y.Piece.toNat=j:=by omega
   rw [e1,e2,hpj,eL,eN] at hnx
   rw [hj] at c1
   have HNX:=hid hnx
   obtain ⟨hk1,hk2⟩:=HTK.out k hk
   have t1:=deF (show ¬ (j:Int) < 0 by omega)
   have t2:=deF (show ¬ (n:Int)≤(j:Int) by omega)
   have t2':=deF (show ¬ n≤j by omega)
   have hw1:IntKind.i64.wrap (y.At+p.Len)=y.At+p.Len:=by rw [IntKind.wrap_i64];omega
   generalize takesUp x k t=sk at *
   have hw2:IntKind.i64.wrap (sk+p.N)=sk+p.N:=by rw [IntKind.wrap_i64];omega
   clear e1 e2 hI hyk hj hpk eL eN hnx hBE hpj
   go_wp2_with fail
   go_region_held3 (fun w'=>w'.cell? ⟨w.heap.size,5,none⟩=some (.slice (some ⟨pb,po,none⟩) n pc)∧w'.cell? ⟨w.heap.size,6,none⟩=some (.slice (some ⟨bb,bo,none⟩) z bc)∧w'.cell? ⟨bb,bo+k*2,none⟩=some (.int .i64 (j:Int))∧w'.cell? ⟨pb,po+j*2,none⟩=some (.int .i64 p.Len)∧w'.cell? ⟨pb,po+j*2+1,none⟩=some (.int .i64 p.N)) ((refine keep5 ?_ b5 b6 c1 d1 d2;(repeat (first | exact Ext.rf _ | refine Ext.dr ?_ | refine Ext.al ?_ _ | refine Ext.se ?_ (by simp) _)))) (fail)
   go_wp2_with fail
   have HX3:=hid (((Ext.rf wr).al (.cells #[.int .i64 p.Len,.int .i64 p.N] 68)).dr)
   have k0:(wr.alloc (.cells #[.int .i64 p.Len,.int .i64 p.N] 68)).drew.cell? ⟨wr.heap.size,0,none⟩=some (.int .i64 p.Len):=cell_of_row _ _ 0 _ _ _ (heap_alloc_new wr _)
   have k1:(wr.alloc (.cells #[.int .i64 p.Len,.int .i64 p.N] 68)).drew.cell? ⟨wr.heap.size,1,none⟩=some (.int .i64 p.N):=cell_of_row _ _ 1 _ _ _ (heap_alloc_new wr _)
   replace c2:=HX3.out.ce' c2
   replace b6:=HX3.out.ce' b6
   have HXK:=hid (hx.tr HX3.out)
   clear b5 c1 d1 d2 HX3 hx
   generalize (wr.alloc (.cells #[.int .i64 p.Len,.int .i64 p.N] 68)).drew=W3 at *
   generalize wr.heap.size=BP at *
   by_cases g1:y.At≤(t:Int)
   ·by_cases g2:(t:Int) < y.At+p.Len
    ·have h1:=deT g1
     have h2:=deT g2
     have hv:=HNX.out
     rw [if_pos (by omega)] at hv
     have HV:=hid hv
     clear hv
     go_quiet (fail)
     replace k1:=(Ext.dn (Ext.rf W3) nq).ce' k1
     have HXN:=hid (HXK.out.dn nq)
     clear k0 c2 b6 HXK
     generalize W3.drewN nq=W4 at *
     go_wp2_with fail
     go_roundw
     case rel=>exact ⟨k+1,by rw [HV.out],by go_num,by omega,HXN.out⟩
     case measure=>simp [intOf];omega
    ·have h1:=deT g1
     have h2:=deF g2
     have hv:=HNX.out
     rw [if_neg (by omega)] at hv
     have HV:=hid hv
     clear hv
     go_quiet (fail)
     have HXN:=hid (HXK.out.dn nq)
     clear k0 k1 c2 b6 HXK
     generalize W3.drewN nq=W4 at *
     go_wp2_with fail
     go_roundw
     case rel=>exact ⟨k+1,by rw [HV.out,Int.add_zero],by go_num,by omega,HXN.out⟩
     case measure=>simp [intOf];omega
   ·have h1:=deF g1
    have hv:=HNX.out
    rw [if_neg (by omega)] at hv
    have HV:=hid hv
    clear hv
    go_quiet (fail)
    have HXN:=hid (HXK.out.dn nq)
    clear k0 k1 c2 b6 HXK
    generalize W3.drewN nq=W4 at *
    go_wp2_with fail
    go_roundw
    case rel=>exact ⟨k+1,by rw [HV.out,Int.add_zero],by go_num,by omega,HXN.out⟩
    case measure=>simp [intOf];omega
  ·obtain rfl:k=z:=by omega
   have hlt':¬ (k:Int) < (k:Int):=by omega
   go_wp2_with fail
   go_ret
   exact ⟨rfl,HX1.out.tr hx⟩
theorem taken_any (w:World) (v bv:Value) (l:List Queue) (b:List Book) (q t:Nat) (hl:QueuesV w v l) (hb:BooksV w bv b) (hp:ParsOk l) (h5:l.length≤5) (hok:∀ x∈b,BookOk l x) (hb12:b.length≤12) :
  Calls Tryz.prog 119 #[v,bv,.int .i64 (q:Int),.int .i64 (t:Int)] w fun e w'=>e=.returned (.int .i64 (takenT l b q t))∧Ext w w':=by
 have BN:=hid (fun (W:World) (h:Ext w W) (x:Book) (hx:x∈b)=>beneath_any W v l x.Req.Queue (q:Int) (hl.mono h) hp h5 (hok x hx).q0 (hok x hx).q1)
 have TK:=hid (fun (W:World) (pv biv:Value) (x:Book) (hx:x∈b) (h1:PiecesV W pv x.Req.Pieces) (h2:BitesV W biv x.Bites)=>takes_any W pv biv x t h1 h2 (hok x hx).req (fun k hk=>((hok x hx).bites k hk).1) (hok x hx).many.2)
 have TS:=hid (fun (k:Nat) (x:Book) (h:b[k]?=some x)=>takenT_snoc l q t h)
 have TN:=hid (fun (k:Nat)=>show 0≤takenT l (b.take k) q t∧takenT l (b.take k) q t≤1800 by
  have h:=takenT_num (l:=l) q t (b.take k) (fun y hy=>hok y (List.mem_of_mem_take hy))
  have:(b.take k).length≤12:=by rw [List.length_take];omega
  omega)
 have BK:=hid (fun (x:Book) (hx:x∈b)=>book_num (hok x hx) t)
 have H0:=hid (show takenT l (b.take 0) q t=0 by simp [takenT])
 have HZ:=hid (show takenT l (b.take b.length) q t=takenT l b q t by rw [List.take_length])
 obtain ⟨ba,bc,rfl,hbc,hbc9,hbl,hbE⟩:=books_at hb
 obtain ⟨qa,qc,rfl,_,_,_⟩:=hl.form
 have HBE:=hid hbE
 clear hl hb hbE hok hp
 generalize l.length=n at *
 generalize hzz:b.length=z at *
 have Hz:=hid hzz
 clear hzz
 go_enter Tryz.func119,Tryz.ntmps119
 go_wp2_with fail
 go_loopw [9,10] (fun s c wr=>∃ (k:Nat),s=.int .i64 (takenT l (b.take k) q t)∧c=.int .i64 k∧k≤z∧Ext w wr) (fun _ c _=>z - (intOf c).toNat)
 case atStart=>exact ⟨0,by rw [H0.out],rfl,by omega,Ext.rf _⟩
 case round =>
  obtain ⟨k,rfl,rfl,hk,hx⟩:=hrel
  by_cases hlt:k < z
  ·have hlt':(k:Int) < (z:Int):=by omega
   obtain ⟨x,hxk⟩:=getA (f:=b) (k:=k) (by rw [Hz.out];exact hlt)
   obtain ⟨bb,bo,rfl,hbb,hE⟩:=HBE.out (by omega)
   obtain ⟨pv,biv,c0,c1,c2,c3,c4,c5,c6,hp,hbi⟩:=ebook_cells (EBook.mono w wr bb _ x hx (hE k x hxk))
   have hm:x∈b:=List.mem_of_getElem? hxk
   have hT:=TS.out k x hxk
   have B1:=hid (BN.out wr hx x hm)
   have T1:=hid (fun (W:World) (h:Ext wr W)=>TK.out W pv biv x hm (hp.mono h) (hbi.mono h))
   obtain ⟨hs1,hs2⟩:=TN.out k
   obtain ⟨hb1,hb2⟩:=BK.out x hm
   obtain ⟨pa,pc,rfl,_,_,_⟩:=hp.form
   obtain ⟨bia,bic,rfl,_,_,_⟩:=hbi.form
   clear hp hbi hE hxk hm
   cases hu:under l x.Req.Queue q with
   | true =>
    rw [hu,if_pos rfl] at hT
    rw [hu] at B1
    have HT:=hid hT
    have hw2:IntKind.i64.wrap (takenT l (b.take k) q t+takesT x t)=takenT l (b.take k) q t+takesT x t:=by rw [IntKind.wrap_i64];omega
    clear hu hT
    generalize takenT l (b.take k) q t=sk at *
    generalize takesT x t=tk at *
    generalize x.Req.Pieces.length=pn at *
    generalize x.Bites.length=bn at *
    go_wp2_with fail
    refine B1.out.mono ?_
    rintro e w2 ⟨rfl,hx2⟩
    replace c0:=hx2.ce' c0
    replace c1:=hx2.ce' c1
    replace c2:=hx2.ce' c2
    replace c3:=hx2.ce' c3
    replace c4:=hx2.ce' c4
    replace c5:=hx2.ce' c5
    replace c6:=hx2.ce' c6
    go_wp2_with fail
    refine (T1.out _ hx2).mono ?_
    rintro e w3 ⟨rfl,hx3⟩
    have HX3:=hid ((hx.tr hx2).tr hx3)
    clear c0 c1 c2 c3 c4 c5 c6 hx2 hx3 B1 T1
    go_wp2_with fail
    go_roundw
    case rel=>exact ⟨k+1,by rw [HT.out],by go_num,by omega,HX3.out⟩
    case measure=>simp [intOf];omega
   | false =>
    rw [hu,if_neg (by simp),Int.add_zero] at hT
    rw [hu] at B1
    have HT:=hid hT
    clear hu hT
    generalize takenT l (b.take k) q t=sk at *
    generalize takesT x t=tk at *
    generalize x.Req.Pieces.length=pn at *
    generalize x.Bites.length=bn at *
    go_wp2_with fail
    refine B1.out.mono ?_
    rintro e w2 ⟨rfl,hx2⟩
    have HX3:=hid (hx.tr hx2)
    clear c0 c1 c2 c3 c4 c5 c6 hx2 B1 T1
    go_wp2_with fail
    go_roundw
    case rel=>exact ⟨k+1,by rw [HT.out],by go_num,by omega,HX3.out⟩
    case measure=>simp [intOf];omega
  ·obtain rfl:k=z:=by omega
   have hlt':¬ (k:Int) < (k:Int):=by omega
   have HR:=hid HZ.out
   go_wp2_with fail
   go_ret
   exact ⟨ret_int HR.out,hx⟩
def LoadsRow (base k:Nat) (v:Value) (F:Nat→Nat→Int) (W:World):Prop :=
 ∃ vs:List Value,W.ownsRow base 26 1 v k vs∧∀ j u,vs[j]?=some u→RunsV W u (fold (F j))∧∀ g,v.ownBlock=some g→ApartL [g] u
theorem LoadsRow.nil (base:Nat) (F:Nat→Nat→Int) (W:World):LoadsRow base 0 (.slice none 0 0) F W:=⟨[],World.ownsRow_nil _ _ _ _,fun j u h=>by simp at h⟩
theorem LoadsRow.ext {base k:Nat} {v:Value} {F:Nat→Nat→Int} {W W':World} (h:LoadsRow base k v F W) (hx:Ext W W'):LoadsRow base k v F W':=by
 obtain ⟨vs,h1,h2⟩:=h
 exact ⟨vs,ownsRow_ext h1 hx,fun j u hj=>⟨(h2 j u hj).1.mono hx,(h2 j u hj).2⟩⟩
theorem LoadsRow.step {base k:Nat} {v:Value} {F:Nat→Nat→Int} {W W':World} {vs:List Value} {u:Value} {g cap:Nat} (h1:W.ownsRow base 26 1 v k vs) (h2:∀ j u,vs[j]?=some u→RunsV W u (fold (F j))∧∀ g,v.ownBlock=some g→ApartL [g] u)
  (hu:RunsV W u (fold (F k))) (hf:∀ g,v.ownBlock=some g→ApartL [g] u) (ho:W'.ownsRow base 26 1 (.slice (some ⟨g,0,none⟩) (k+1) cap) (k+1) (vs++[u])) (hg:W.grownBy W' v.ownBlock) (hgg:v.ownBlock=some g∨g=W.heap.size) :
  LoadsRow base (k+1) (.slice (some ⟨g,0,none⟩) (k+1) cap) F W':=by
 have hlen:vs.length=k:=by have:=h1.1;omega
 have key:∀ j y,RunsV W y (fold (F j))→(∀ g,v.ownBlock=some g→ApartL [g] y)→RunsV W' y (fold (F j))∧∀ g',(Value.slice (some ⟨g,0,none⟩) (k+1) cap).ownBlock=some g'→ApartL [g'] y:=by
  intro j y hy ha
  obtain ⟨b,off,c,e,hb,_⟩:=runs_cells hy (fold_ne _)
  refine ⟨runsV_grown hy hg (fun a n c e he=>ha a.block he.symm a n c e (List.mem_singleton.2 rfl)),fun g' hg'=>?_⟩
  obtain rfl:g=g':=by simpa [Value.ownBlock] using hg'
  subst e
  rcases hgg with h | h
  ·exact ha g h
  ·exact apart_at (fun hm=>by have:=List.mem_singleton.1 hm;omega)
 refine ⟨vs++[u],ho,fun j y hj=>?_⟩
 rcases Nat.lt_or_ge j k with hlt | hge
 ·rw [List.getElem?_append_left (by omega)] at hj
  exact key j y (h2 j y hj).1 (h2 j y hj).2
 ·rw [List.getElem?_append_right (by omega)] at hj
  obtain rfl:j=k:=by
   have:=(List.getElem?_eq_some_iff.1 hj).1
   simp at this;omega
  have e:u=y:=by
   rw [hlen,Nat.sub_self] at hj
   simpa using hj
  subst e
  exact key j u hu hf
theorem LoadsRow.loads {base n:Nat} {v:Value} {F:Nat→Nat→Int} {W:World} (h:LoadsRow base n v F W) (hn:n≤5):LoadsV W v ((List.range n).map fun k=>fold (F k)):=by
 obtain ⟨vs,h1,h2⟩:=h
 have hlen:vs.length=n:=by have:=h1.1;omega
 rcases h1.2 with ⟨rfl,rfl⟩ | ⟨g,cap,cur,rfl,hb,hg,hc,hm,hcs,htk⟩
 ·exact SV.nil
 ·refine .inr ⟨g,0,cap,by simp,by simpa using hc,by unfold maxLen at hm;omega,by simp;omega,(Array.getElem?_eq_some_iff.1 hg).1,fun k x hk=>?_⟩
  have hkn:k < n:=by have:=(List.getElem?_eq_some_iff.1 hk).1;simpa using this
  obtain ⟨u,hu⟩:=getA (f:=vs) (k:=k) (by omega)
  have e:x=fold (F k):=by simp [hkn] at hk;exact hk.symm
  rw [e,Nat.zero_add,Nat.mul_one]
  refine ⟨u,?_,(h2 k u hu).1⟩
  have:=h1.cells (g:=g) rfl k u hu
  by_cases e0:k=0 <;> simpa [Addr.add,e0] using this
theorem loads_at {w:World} {v:Value} {l:List (List Run)} (hv:LoadsV w v l):∃ a cap,v=.slice a l.length cap∧l.length≤cap∧cap≤9223372036854775807∧l.length≤17592186044416 ∧
  (1≤l.length→∃ b off,a=some ⟨b,off,none⟩∧b < w.heap.size∧∀ k x,l[k]?=some x→∃ u,w.cell? ⟨b,off+k,none⟩=some u∧RunsV w u x):=by
 rcases hv with ⟨rfl,a,cap,rfl,h⟩ | ⟨b,off,cap,rfl,h1,h2,h3,h4,h5⟩
 ·exact ⟨a,cap,rfl,by simp,h,by simp,fun h=>by simp at h⟩
 ·refine ⟨_,cap,rfl,h1,h2,h3,fun _=>⟨b,off,rfl,h4,fun k x hk=>?_⟩⟩
  have:=h5 k x hk
  rw [Nat.mul_one] at this
  exact this
end Go.Proofs.YtncaoclhlfkdoaaGreat
