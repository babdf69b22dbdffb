/- Walks of slices.Clone at pieces, bites and books, of plan.OwnReq and plan.Own; each theorem names its own conditions. -/
import Derived.Test.YtdcndkojmflhnaaGreatPPlanL
set_option linter.unusedVariables false
set_option maxRecDepth 100000
set_option maxHeartbeats 8000000
set_option linter.unusedSimpArgs false
set_option linter.unusedVariables false
namespace Go.Proofs.YtdcndkojmflhnaaGreat
open Go.RowKit
open List renaming getElem_toArray→zA,getElem_cons_zero→zB,getElem_cons_succ→zC,setIfInBounds_toArray→zD,set_cons_zero→zE,set_cons_succ→zF
theorem setCell_same {W:World} {b o:Nat} {v:Value} (h:W.cell? ⟨b,o,none⟩=some v):W.setCell ⟨b,o,none⟩ v=W:=by
 have hb:=World.block_lt_of_cell? W _ h
 unfold World.setCell
 have e:(W.heap.modify b fun | .cells c elem frozen=>.cells (if (none:Option Nat).isSome then c else c.setIfInBounds o v) elem frozen | o=>o)=W.heap:=by
  apply Array.ext
  ·simp
  ·intro i h1 h2
   rw [Array.getElem_modify]
   split
   ·rename_i hbi
    subst hbi
    unfold World.cell? at h
    rw [Array.getElem?_eq_getElem hb] at h
    cases hob:W.heap[b] with
    | cells c elem fr =>
     rw [hob] at h
     have hc:c[o]?=some v:=by simpa using h
     have hs:c.setIfInBounds o v=c:=by
      apply Array.ext
      ·simp
      ·intro j h3 h4
       rw [Array.getElem_setIfInBounds]
       split
       ·rename_i hoj
        subst hoj
        rw [Array.getElem?_eq_getElem h4] at hc
        exact (Option.some.inj hc).symm
       ·rfl
     simp [hs]
    | _=>simp_all
   ·rfl
 exact congrArg (fun hp=>{ W with heap:=hp }) e
theorem flat7_set {α:Type}:∀ (css:List (List α)),(∀ cs∈css,cs.length=7)→∀ (k j:Nat) (cs:List α) (v:α),css[k]?=some cs→j < 7→css.flatten.set (k*7+j) v=(css.set k (cs.set j v)).flatten
 | [],_,k,j,cs,v,h,_=>by simp at h
 | c::css,h7,k,j,cs,v,h,hj=>by
  have h1:=h7 c (List.mem_cons_self ..)
  cases k with
  | zero =>
   cases h
   rw [Nat.zero_mul,Nat.zero_add,List.flatten_cons,List.set_append_left _ _ (by omega)]
   rfl
  | succ k =>
   rw [List.flatten_cons,List.set_append_right _ _ (by omega),h1,show (k+1)*7+j - 7=k*7+j by omega,flat7_set css (fun d hd=>h7 d (List.mem_cons_of_mem _ hd)) k j cs v h hj]
   rfl
theorem ownsRow_store {W:World} {base T sz n g cap o:Nat} {xs:List Value} {v:Value} (h:W.ownsRow base T sz (.slice (some ⟨g,0,none⟩) n cap) n xs) (ho:o < n*sz):(W.setCell ⟨g,o,none⟩ v).ownsRow base T sz (.slice (some ⟨g,0,none⟩) n cap) n (xs.set o v):=by
 obtain ⟨h1,h2⟩:=h
 refine ⟨by simpa using h1,?_⟩
 rcases h2 with ⟨h,_⟩ | ⟨g',cap',cur,he,hb,hg,hn,hm,hs,ht⟩
 ·cases h
 ·cases he
  refine .inr ⟨g,cap,cur.setIfInBounds o v,rfl,hb,?_,hn,hm,by simpa using hs,?_⟩
  ·exact heap_setCell_same W g o cur T v hg
  ·rw [Array.toList_setIfInBounds,List.take_set,ht]
theorem sv2_apart {α:Type} {f g:α→Int} {W W':World} {v:Value} {xs:List α} {row:Option Nat} (h:SV 2 (E2 f g) W v xs) (hg:W.grownBy W' row) (ha:ApartV v row):SV 2 (E2 f g) W' v xs:=by
 rcases h with h | ⟨b,off,cap,rfl,h1,h2,hl,h3,h4⟩
 ·exact .inl h
 ·refine .inr ⟨b,off,cap,rfl,h1,h2,hl,Nat.lt_of_lt_of_le h3 hg.size,fun k x hk=>?_⟩
  have hc:∀ o,W'.cell? ⟨b,o,none⟩=W.cell? ⟨b,o,none⟩:=fun o=>World.cell?_of_block (a:=⟨b,o,none⟩) (hg.block b h3 (ha _ _ _ rfl))
  obtain ⟨e1,e2,e3⟩:=h4 k x hk
  exact ⟨by rw [hc];exact e1,by rw [hc];exact e2,e3⟩
theorem sv2_low {α:Type} {f g:α→Int} {W:World} {v:Value} {xs:List α} (h:SV 2 (E2 f g) W v xs) (hne:xs≠[]):∀ a n c,v=.slice (some a) n c→a.block < W.heap.size:=by
 rcases h with ⟨h,_⟩ | ⟨b,off,cap,rfl,h1,h2,hl,h3,h4⟩
 ·exact absurd h hne
 ·intro a n c e;cases e;exact h3
def ApartC (bs:List Nat) (css:List (List Value)):Prop:=∀ cs∈css,∀ u∈cs,ApartL bs u
theorem apartL_int (bs:List Nat) (k:IntKind) (n:Int):ApartL bs (.int k n):=fun a n c e=>by cases e
theorem bookC_grown {W W':World} {cs:List Value} {x:Book} {r:Nat} (h:BookC W cs x) (hg:W.grownBy W' (some r)) (ha:∀ u∈cs,ApartL [r] u):BookC W' cs x:=by
 obtain ⟨qs,bv,rfl,⟨pv,rfl,hp,i1,i2,i3,i4⟩,hb,i5⟩:=h
 have ap:∀ u,ApartL [r] u→ApartV u (some r):=fun u hu a n c e he=>hu a n c e (List.mem_singleton.2 (Option.some.inj he))
 exact ⟨_,bv,rfl,⟨pv,rfl,sv2_apart hp hg (ap _ (ha _ (by simp))),i1,i2,i3,i4⟩,sv2_apart hb hg (ap _ (ha _ (by simp))),i5⟩
theorem cells7_grown {W W':World} {css:List (List Value)} {b:List Book} {r:Nat} (h:Cells7 W css b) (hg:W.grownBy W' (some r)) (ha:ApartC [r] css):Cells7 W' css b :=
 ⟨h.len,fun k cs x h1 h2=>bookC_grown (h.each k cs x h1 h2) hg (ha cs (List.mem_of_getElem? h1))⟩
theorem cells7_low {W:World} {css:List (List Value)} {b:List Book} (h:Cells7 W css b) (hne:∀ x∈b,x.Req.Pieces≠[]∧x.Bites≠[]):∀ cs∈css,∀ u∈cs,∀ a n c,u=.slice (some a) n c→a.block < W.heap.size:=by
 intro cs hc u hu
 obtain ⟨k,hk⟩:=List.mem_iff_getElem?.1 hc
 have hkl:=(List.getElem?_eq_some_iff.1 hk).1
 obtain ⟨x,hx⟩:=getA (f:=b) (k:=k) (by rw [← h.len];exact hkl)
 obtain ⟨n1,n2⟩:=hne x (List.mem_of_getElem? hx)
 obtain ⟨qs,bv,rfl,⟨pv,rfl,hp,i1,i2,i3,i4⟩,hb,i5⟩:=h.each k cs x hk hx
 simp only [List.cons_append,List.nil_append,List.mem_cons,List.not_mem_nil,or_false] at hu
 rcases hu with rfl | rfl | rfl | rfl | rfl | rfl | rfl
 ·intro a n c e;cases e
 ·intro a n c e;cases e
 ·intro a n c e;cases e
 ·intro a n c e;cases e
 ·intro a n c e;cases e
 ·exact sv2_low hp n1
 ·exact sv2_low hb n2
theorem cells7_set {W:World} {css:List (List Value)} {b:List Book} {k:Nat} {cs:List Value} {x:Book} (h:Cells7 W css b) (hk:b[k]?=some x) (hc:BookC W cs x):Cells7 W (css.set k cs) b:=by
 refine ⟨by rw [List.length_set,h.len],fun j ds y h1 h2=>?_⟩
 by_cases hj:k=j
 ·subst hj
  have hkl:k < css.length:=by rw [h.len];exact (List.getElem?_eq_some_iff.1 hk).1
  rw [List.getElem?_set_self hkl] at h1
  rw [hk] at h2
  cases h1;cases h2
  exact hc
 ·rw [List.getElem?_set_ne hj] at h1
  exact h.each j ds y h1 h2
theorem apartC_set {bs:List Nat} {css:List (List Value)} {k:Nat} {cs:List Value} (h:ApartC bs css) (hc:∀ u∈cs,ApartL bs u):ApartC bs (css.set k cs):=fun ds hd u hu=>by
 rcases List.mem_or_eq_of_mem_set hd with h1 | h1
 ·exact h ds h1 u hu
 ·subst h1;exact hc u hu
def OwnB (bs:List Nat) (base:Nat) (W:World) (v:Value) (b:List Book):Prop :=
 ∃ css,W.ownsRow base 40 7 v b.length css.flatten∧Cells7 W css b∧ApartC bs css∧∀ g,v.ownBlock=some g→ApartC [g] css
theorem OwnB.v {bs:List Nat} {base:Nat} {W:World} {v:Value} {b:List Book} (h:OwnB bs base W v b) (h12:b.length≤12):BooksV W v b:=by
 obtain ⟨css,h1,h2,_⟩:=h
 exact books_of_owns h1 h2 h12
theorem OwnB.ext {bs:List Nat} {base:Nat} {W W':World} {v:Value} {b:List Book} (h:OwnB bs base W v b) (hx:Ext W W'):OwnB bs base W' v b:=by
 obtain ⟨css,h1,h2,h3,h4⟩:=h
 exact ⟨css,ownsRow_ext h1 hx,h2.mono hx,h3,h4⟩
theorem OwnB.kept {bs:List Nat} {base r:Nat} {W W':World} {v:Value} {b:List Book} (h:OwnB bs base W v b) (hg:W.grownBy W' (some r)) (hr:r∈bs) (hb:r < base):OwnB bs base W' v b:=by
 obtain ⟨css,h1,h2,h3,h4⟩:=h
 exact ⟨css,ownsRow_grown h1 hg hb,cells7_grown h2 hg (fun cs hc u hu a n c e hm=>h3 cs hc u hu a n c e (by rw [List.mem_singleton.1 hm];exact hr)),h3,h4⟩
theorem OwnB.cells {bs:List Nat} {base g z cap:Nat} {W:World} {b:List Book} {k:Nat} {x:Book} (h:OwnB bs base W (.slice (some ⟨g,0,none⟩) z cap) b) (hz:b.length=z) (hk:b[k]?=some x) :
  ∃ pv bv,PiecesV W pv x.Req.Pieces∧BitesV W bv x.Bites∧W.cell? ⟨g,k*7,none⟩=some (.int .i64 x.Id)∧W.cell? ⟨g,k*7+1,none⟩=some (.int .i64 x.Req.Queue)∧W.cell? ⟨g,k*7+2,none⟩=some (.int .i64 x.Req.From)∧W.cell? ⟨g,k*7+3,none⟩=some (.int .i64 x.Req.Until)∧W.cell? ⟨g,k*7+4,none⟩=some (.int .i64 x.Req.Kind)∧W.cell? ⟨g,k*7+5,none⟩=some pv∧W.cell? ⟨g,k*7+6,none⟩=some bv∧g < W.heap.size∧base≤g∧(∀ o,W.frozen? ⟨g,o,none⟩=false):=by
 obtain ⟨css,h1,h2,_⟩:=h
 have hkb:=(List.getElem?_eq_some_iff.1 hk).1
 obtain ⟨cs,hcs⟩:=getA (f:=css) (k:=k) (by rw [h2.len];exact hkb)
 obtain ⟨qs,bv,rfl,⟨pv,rfl,hp,_⟩,hb,_⟩:=h2.each k cs x hcs hk
 have get:∀ j u,j < 7→([.int .i64 x.Id,.int .i64 x.Req.Queue,.int .i64 x.Req.From,.int .i64 x.Req.Until,.int .i64 x.Req.Kind,pv,bv]:List Value)[j]?=some u→W.cell? ⟨g,k*7+j,none⟩=some u:=fun j u hj hu=>by
  have e:css.flatten[k*7+j]?=some u:=by rw [flat7 css h2.seven k j hj,hcs];exact hu
  have:=h1.cells (g:=g) rfl (k*7+j) u e
  rw [addr_add] at this
  rwa [Nat.zero_add] at this
 obtain ⟨hl1,hl2⟩:=h1.lt g rfl
 refine ⟨pv,bv,hp,hb,get 0 _ (by omega) rfl,get 1 _ (by omega) rfl,get 2 _ (by omega) rfl,get 3 _ (by omega) rfl,get 4 _ (by omega) rfl,get 5 _ (by omega) rfl,get 6 _ (by omega) rfl,hl2,hl1,fun o=>?_⟩
 rcases h1.2 with ⟨h,_⟩ | ⟨g',cap',cur,he,_,hg,_⟩
 ·cases h
 ·cases he
  exact frozen_of_row W g o _ _ hg
theorem OwnB.setP {bs:List Nat} {base g z cap:Nat} {W:World} {b:List Book} {k:Nat} {x:Book} {u:Value} (h:OwnB bs base W (.slice (some ⟨g,0,none⟩) z cap) b) (hz:b.length=z) (hk:b[k]?=some x) (hu:PiecesV W u x.Req.Pieces) (ha:ApartL (g::bs) u) :
  OwnB bs base (W.setCell ⟨g,k*7+5,none⟩ u) (.slice (some ⟨g,0,none⟩) z cap) b:=by
 obtain ⟨css,h1,h2,h3,h4⟩:=h
 have hkb:=(List.getElem?_eq_some_iff.1 hk).1
 obtain ⟨cs,hcs⟩:=getA (f:=css) (k:=k) (by rw [h2.len];exact hkb)
 obtain ⟨qs,bv,rfl,⟨pv,rfl,hp,i1,i2,i3,i4⟩,hb,i5⟩:=h2.each k cs x hcs hk
 have hmem:=List.mem_of_getElem? hcs
 have e:=flat7_set css h2.seven k 5 _ u hcs (by omega)
 have hg:=grown_set W g (k*7+5) u
 have h4g:=h4 g rfl
 have ap1:ApartL [g] u:=fun a n c e hm=>ha a n c e (by rw [List.mem_singleton.1 hm];exact List.mem_cons_self ..)
 have ap2:ApartL bs u:=fun a n c e hm=>ha a n c e (List.mem_cons_of_mem _ hm)
 have hA1:ApartC [g] (css.set k [.int .i64 x.Id,.int .i64 x.Req.Queue,.int .i64 x.Req.From,.int .i64 x.Req.Until,.int .i64 x.Req.Kind,u,bv]):=apartC_set h4g (fun w hw=>by
  simp only [List.mem_cons,List.not_mem_nil,or_false] at hw
  rcases hw with rfl | rfl | rfl | rfl | rfl | rfl | rfl
  ·exact apartL_int _ _ _
  ·exact apartL_int _ _ _
  ·exact apartL_int _ _ _
  ·exact apartL_int _ _ _
  ·exact apartL_int _ _ _
  ·exact ap1
  ·exact h4g _ hmem _ (by simp))
 have hA2:ApartC bs (css.set k [.int .i64 x.Id,.int .i64 x.Req.Queue,.int .i64 x.Req.From,.int .i64 x.Req.Until,.int .i64 x.Req.Kind,u,bv]):=apartC_set h3 (fun w hw=>by
  simp only [List.mem_cons,List.not_mem_nil,or_false] at hw
  rcases hw with rfl | rfl | rfl | rfl | rfl | rfl | rfl
  ·exact apartL_int _ _ _
  ·exact apartL_int _ _ _
  ·exact apartL_int _ _ _
  ·exact apartL_int _ _ _
  ·exact apartL_int _ _ _
  ·exact ap2
  ·exact h3 _ hmem _ (by simp))
 have hC:Cells7 W (css.set k [.int .i64 x.Id,.int .i64 x.Req.Queue,.int .i64 x.Req.From,.int .i64 x.Req.Until,.int .i64 x.Req.Kind,u,bv]) b:=cells7_set h2 hk ⟨_,bv,rfl,⟨u,rfl,hu,i1,i2,i3,i4⟩,hb,i5⟩
 refine ⟨css.set k [.int .i64 x.Id,.int .i64 x.Req.Queue,.int .i64 x.Req.From,.int .i64 x.Req.Until,.int .i64 x.Req.Kind,u,bv],?_,cells7_grown hC hg hA1,hA2,fun g' hg'=>?_⟩
 ·rw [hz] at h1 ⊢
  have:=ownsRow_store (o:=k*7+5) (v:=u) h1 (by omega)
  rw [e] at this
  exact this
 ·obtain rfl:g=g':=by simpa [Value.ownBlock] using hg'
  exact hA1
theorem OwnB.setB {bs:List Nat} {base g z cap:Nat} {W:World} {b:List Book} {k:Nat} {x:Book} {u:Value} (h:OwnB bs base W (.slice (some ⟨g,0,none⟩) z cap) b) (hz:b.length=z) (hk:b[k]?=some x) (hu:BitesV W u x.Bites) (ha:ApartL (g::bs) u) :
  OwnB bs base (W.setCell ⟨g,k*7+6,none⟩ u) (.slice (some ⟨g,0,none⟩) z cap) b:=by
 obtain ⟨css,h1,h2,h3,h4⟩:=h
 have hkb:=(List.getElem?_eq_some_iff.1 hk).1
 obtain ⟨cs,hcs⟩:=getA (f:=css) (k:=k) (by rw [h2.len];exact hkb)
 obtain ⟨qs,bv,rfl,⟨pv,rfl,hp,i1,i2,i3,i4⟩,hb,i5⟩:=h2.each k cs x hcs hk
 have hmem:=List.mem_of_getElem? hcs
 have e:=flat7_set css h2.seven k 6 _ u hcs (by omega)
 have hg:=grown_set W g (k*7+6) u
 have h4g:=h4 g rfl
 have ap1:ApartL [g] u:=fun a n c e hm=>ha a n c e (by rw [List.mem_singleton.1 hm];exact List.mem_cons_self ..)
 have ap2:ApartL bs u:=fun a n c e hm=>ha a n c e (List.mem_cons_of_mem _ hm)
 have hA:∀ ds,ApartC ds css→ApartL ds u→ApartC ds (css.set k [.int .i64 x.Id,.int .i64 x.Req.Queue,.int .i64 x.Req.From,.int .i64 x.Req.Until,.int .i64 x.Req.Kind,pv,u]):=fun ds hds hdu=>apartC_set hds (fun w hw=>by
  simp only [List.mem_cons,List.not_mem_nil,or_false] at hw
  rcases hw with rfl | rfl | rfl | rfl | rfl | rfl | rfl
  ·exact apartL_int _ _ _
  ·exact apartL_int _ _ _
  ·exact apartL_int _ _ _
  ·exact apartL_int _ _ _
  ·exact apartL_int _ _ _
  ·exact hds _ hmem _ (by simp)
  ·exact hdu)
 have hA1:=hA [g] h4g ap1
 have hA2:=hA bs h3 ap2
 have hC:Cells7 W (css.set k [.int .i64 x.Id,.int .i64 x.Req.Queue,.int .i64 x.Req.From,.int .i64 x.Req.Until,.int .i64 x.Req.Kind,pv,u]) b:=cells7_set h2 hk ⟨_,u,rfl,⟨pv,rfl,hp,i1,i2,i3,i4⟩,hu,i5⟩
 refine ⟨css.set k [.int .i64 x.Id,.int .i64 x.Req.Queue,.int .i64 x.Req.From,.int .i64 x.Req.Until,.int .i64 x.Req.Kind,pv,u],?_,cells7_grown hC hg hA1,hA2,fun g' hg'=>?_⟩
 ·rw [hz] at h1 ⊢
  have:=ownsRow_store (o:=k*7+6) (v:=u) h1 (by omega)
  rw [e] at this
  exact this
 ·obtain rfl:g=g':=by simpa [Value.ownBlock] using hg'
  exact hA1
theorem OwnB.less {bs:List Nat} {base:Nat} {W:World} {v:Value} {b:List Book} (h:OwnB bs base W v b):OwnB [] base W v b:=by
 obtain ⟨css,h1,h2,h3,h4⟩:=h
 exact ⟨css,h1,h2,fun cs hc u hu a n c e hm=>(by cases hm),h4⟩
theorem Tryz.info44:(Tryz.prog.info? 44).map (fun i=>(i.zero,i.size,i.bytes))=some (some (.agg #[.int .i64 0,.int .i64 0]),2,16):=by kernel_rfl
theorem ClonePiece_any (w:World) (v:Value) (f:List Piece) (hv:PiecesV w v f) (h1:1≤f.length) (hl:f.length≤3) :
  Calls Tryz.prog 134 #[v] w fun e w'=>∃ g cap,e=.returned (.slice (some ⟨g,0,none⟩) f.length cap)∧w.heap.size≤g∧PiecesV w' (.slice (some ⟨g,0,none⟩) f.length cap) f∧Ext w w':=by
 obtain ⟨ir,ir1,ir2,ir3,ir4⟩:=info_parts Tryz.info44
 obtain ⟨b,off,cap,rfl,_,_,hb,hE⟩:=pieces_at hv h1
 have HN:=hid (pair_news hE)
 have HI:=hid (show ∀ r∈f,I64 r.Len∧I64 r.N from fun r hr=>by
  obtain ⟨k,hk⟩:=List.mem_iff_getElem?.1 hr
  obtain ⟨_,_,i1,i2⟩:=hE k r hk
  exact ⟨i1,i2⟩)
 have HL:=hid (cells2_length Piece.Len Piece.N f)
 have hown:=own_empty w 44 2 (by omega)
 clear hv hE
 generalize hn:f.length=n at *
 have Hn:=hid hn
 clear hn
 have he:∀ W,Sem.run Tryz.prog (binOp .eql 26 (.slice (some ⟨b,off,none⟩) n cap) (.slice none 0 0)) W=.ok (.bool false) W:=fun W=>rfl
 go_enter Tryz.func134,Tryz.ntmps134
 go_wp2_with (at_builtin;refine wpList_append_own _ rfl _ _ 26 rfl w.heap.size 44 ir _ 2 16 Tryz.underlying26 ir1 ir2 ir3 ir4 rfl (by decide) _ _ _ rfl hown ⟨b,off,none⟩ n cap (cells2 Piece.Len Piece.N f) rfl HL.out (fun j u hj=>ext_ceA ((Ext.rf w).al _) (HN.out j u hj)) (pair_one f) (by unfold maxLen;omega) (by omega) (by simp) ?_)
 intro v2 W2 hown2 hgrow2 hnil2
 have HO:=hid hown2
 have HX:=hid (((Ext.rf w).al (.cells #[] 44)).gr hgrow2 (fun k hk=>by cases hk;exact Nat.le_refl _))
 clear hown2 hgrow2 hnil2 hown
 obtain ⟨g,c2,hvv⟩:=own_some7 HO.out (by omega)
 try rw [Nat.zero_add] at hvv
 subst hvv
 go_wp2_with fail
 go_ret
 refine ⟨g,c2,rfl,own_lt HO.out g rfl,sv_of_owns2 (base:=w.heap.size) (e:=44) ?_ HI.out (by rw [Hn.out];omega),HX.out⟩
 have h:=HO.out
 rw [Hn.out]
 simpa using h
theorem CloneBite_any (w:World) (v:Value) (f:List Bite) (hv:BitesV w v f) (h1:1≤f.length) (hl:f.length≤3) :
  Calls Tryz.prog 133 #[v] w fun e w'=>∃ g cap,e=.returned (.slice (some ⟨g,0,none⟩) f.length cap)∧w.heap.size≤g∧BitesV w' (.slice (some ⟨g,0,none⟩) f.length cap) f∧Ext w w':=by
 obtain ⟨ir,ir1,ir2,ir3,ir4⟩:=info_parts Tryz.info42
 obtain ⟨va,cap,rfl,_,_,_,hE0⟩:=bites_at hv
 obtain ⟨b,off,rfl,hb,hE⟩:=hE0 h1
 have HN:=hid (pair_news hE)
 have HI:=hid (show ∀ r∈f,I64 r.Piece∧I64 r.At from fun r hr=>by
  obtain ⟨k,hk⟩:=List.mem_iff_getElem?.1 hr
  obtain ⟨_,_,i1,i2⟩:=hE k r hk
  exact ⟨i1,i2⟩)
 have HL:=hid (cells2_length Bite.Piece Bite.At f)
 have hown:=own_empty w 42 2 (by omega)
 clear hv hE hE0
 generalize hn:f.length=n at *
 have Hn:=hid hn
 clear hn
 have he:∀ W,Sem.run Tryz.prog (binOp .eql 38 (.slice (some ⟨b,off,none⟩) n cap) (.slice none 0 0)) W=.ok (.bool false) W:=fun W=>rfl
 go_enter Tryz.func133,Tryz.ntmps133
 go_wp2_with (at_builtin;refine wpList_append_own _ rfl _ _ 38 rfl w.heap.size 42 ir _ 2 16 Tryz.underlying38 ir1 ir2 ir3 ir4 rfl (by decide) _ _ _ rfl hown ⟨b,off,none⟩ n cap (cells2 Bite.Piece Bite.At f) rfl HL.out (fun j u hj=>ext_ceA ((Ext.rf w).al _) (HN.out j u hj)) (pair_one f) (by unfold maxLen;omega) (by omega) (by simp) ?_)
 intro v2 W2 hown2 hgrow2 hnil2
 have HO:=hid hown2
 have HX:=hid (((Ext.rf w).al (.cells #[] 42)).gr hgrow2 (fun k hk=>by cases hk;exact Nat.le_refl _))
 clear hown2 hgrow2 hnil2 hown
 obtain ⟨g,c2,hvv⟩:=own_some7 HO.out (by omega)
 try rw [Nat.zero_add] at hvv
 subst hvv
 go_wp2_with fail
 go_ret
 refine ⟨g,c2,rfl,own_lt HO.out g rfl,sv_of_owns2 (base:=w.heap.size) (e:=42) ?_ HI.out (by rw [Hn.out];omega),HX.out⟩
 have h:=HO.out
 rw [Hn.out]
 simpa using h
def LiveB (b:List Book):Prop:=∀ x∈b,(x.Req.Pieces≠[]∧x.Bites≠[])∧(1≤x.Req.Pieces.length∧x.Req.Pieces.length≤3)∧1≤x.Bites.length∧x.Bites.length≤3
theorem CloneBook_any (bs:List Nat) (w0 w:World) (v:Value) (b:List Book) (hv:BooksV w0 v b) (hw:Ext w0 w) (h12:b.length≤12) (hlive:LiveB b) (hbs:∀ r∈bs,w0.heap.size≤r) :
  Calls Tryz.prog 132 #[v] w fun e w'=>∃ u,e=.returned u∧OwnB bs w.heap.size w' u b∧Ext w w':=by
 obtain ⟨ib,ib1,ib2,ib3,ib4⟩:=info_parts Tryz.info40
 obtain ⟨a,cap,rfl,_,_,_⟩:=hv.form
 cases a with
 | none =>
  have hf:b=[]:=by
   rcases hv with ⟨h,_⟩ | ⟨b',off,c,e,_⟩
   ·exact h
   ·cases e
  subst hf
  clear hv
  rw [List.length_nil]
  have he:∀ W,Sem.run Tryz.prog (binOp .eql 23 (.slice none 0 cap) (.slice none 0 0)) W=.ok (.bool true) W:=fun W=>rfl
  go_enter Tryz.func132,Tryz.ntmps132
  go_wp2_with fail
  go_ret
  exact ⟨_,rfl,⟨[],World.ownsRow_nil _ _ _ _,⟨rfl,fun k cs x h=>by simp at h⟩,fun cs h=>by simp at h,fun g h=>by cases h⟩,Ext.rf w⟩
 | some ad =>
  obtain ⟨css,hC,hlen,hnews⟩:=cells_at hv rfl
  have HN:=hid hnews
  have HL:=hid hlen
  have HO1:=hid hC.one
  have HC:=hid hC
  have HLO:=hid (cells7_low hC (fun x hx=>(hlive x hx).1))
  have HBS:=hid hbs
  have hown:=own_empty w 40 7 (by omega)
  clear hv hC hlen hnews hlive hbs
  generalize hn:b.length=n at *
  have Hn:=hid hn
  clear hn
  have he:∀ W,Sem.run Tryz.prog (binOp .eql 23 (.slice (some ad) n cap) (.slice none 0 0)) W=.ok (.bool false) W:=fun W=>rfl
  go_enter Tryz.func132,Tryz.ntmps132
  go_wp2_with (at_builtin;refine wpList_append_own _ rfl _ _ 23 rfl w.heap.size 40 ib _ 7 88 Tryz.underlying23 ib1 ib2 ib3 ib4 rfl (by decide) _ _ _ rfl hown ad n cap css.flatten rfl HL.out (fun j u hj=>ext_ceA (hw.al _) (HN.out j u hj)) HO1.out (by unfold maxLen;omega) (by omega) (by simp) ?_)
  intro v2 W2 hown2 hgrow2 hnil2
  have HO:=hid hown2
  have HX:=hid (((Ext.rf w).al (.cells #[] 40)).gr hgrow2 (fun k hk=>by cases hk;exact Nat.le_refl _))
  clear hown2 hgrow2 hnil2 hown
  go_wp2_with fail
  go_ret
  refine ⟨_,rfl,⟨css,?_,HC.out.mono (hw.tr HX.out),fun cs hc u hu a n' c e hm=>?_,fun g hg cs hc u hu a n' c e hm=>?_⟩,HX.out⟩
  ·have h:=HO.out
   rw [Hn.out]
   simpa using h
  ·have h1:=HLO.out cs hc u hu a n' c e
   have h2:=HBS.out _ hm
   omega
  ·have h1:=HLO.out cs hc u hu a n' c e
   have h2:=own_lt HO.out g hg
   have h3:=hw.size
   rw [List.mem_singleton] at hm
   omega
theorem Tryz.size28:(Tryz.prog.info? 28).map (·.size)=some 5:=by kernel_rfl
theorem OwnReq_any (w:World) (pv:Value) (r:Request) (hp:PiecesV w pv r.Pieces) (h1:1≤r.Pieces.length) (h3:r.Pieces.length≤3) :
  Calls Tryz.prog 76 #[.agg #[.int .i64 r.Queue,.int .i64 r.From,.int .i64 r.Until,.int .i64 r.Kind,pv]] w fun e w'=>∃ g cap,e=.returned (.agg #[.int .i64 r.Queue,.int .i64 r.From,.int .i64 r.Until,.int .i64 r.Kind,.slice (some ⟨g,0,none⟩) r.Pieces.length cap])∧w.heap.size≤g∧PiecesV w' (.slice (some ⟨g,0,none⟩) r.Pieces.length cap) r.Pieces∧Ext w w':=by
 have CP:=hid (fun (W:World) (h:Ext w W)=>ClonePiece_any W pv r.Pieces (hp.mono h) h1 h3)
 obtain ⟨pa,pc,rfl,_,_,_⟩:=hp.form
 clear hp
 generalize hpn:r.Pieces.length=pn at *
 have Hpn:=hid hpn
 clear hpn
 go_enter Tryz.func76,Tryz.ntmps76
 have H0:=hid (heap_alloc_new (w.alloc (.cells #[.int .i64 r.Queue,.int .i64 r.From,.int .i64 r.Until,.int .i64 r.Kind,.slice pa pn pc] 28)) (.cells #[.int .i64 0,.int .i64 0,.int .i64 0,.int .i64 0,.slice none 0 0] 28))
 have HX1:=hid (((Ext.rf w).al (.cells #[.int .i64 r.Queue,.int .i64 r.From,.int .i64 r.Until,.int .i64 r.Kind,.slice pa pn pc] 28)).al (.cells #[.int .i64 0,.int .i64 0,.int .i64 0,.int .i64 0,.slice none 0 0] 28))
 have HRQ:=hid (fun (W:World) (h:Ext ((w.alloc (.cells #[.int .i64 r.Queue,.int .i64 r.From,.int .i64 r.Until,.int .i64 r.Kind,.slice pa pn pc] 28)).alloc (.cells #[.int .i64 0,.int .i64 0,.int .i64 0,.int .i64 0,.slice none 0 0] 28)) W)=>reqCells (((Ext.rf _).al _).tr h))
 go_wp2_with fail
 refine (CP.out _ HX1.out).mono ?_
 rintro e w2 ⟨g,cap,rfl,hg,hpv,hx2⟩
 obtain ⟨c0,c1,c2,c3,c4⟩:=HRQ.out w2 hx2
 simp only [World.size_alloc] at hg
 have hs2:w.heap.size+1 < w2.heap.size:=by have:=hx2.size;simp at this;omega
 have hs1:w.heap.size < w2.heap.size:=by omega
 have HB0:w2.heap[w.heap.size]?=some (.cells #[.int .i64 r.Queue,.int .i64 r.From,.int .i64 r.Until,.int .i64 r.Kind,.slice pa pn pc] 28 (0,0)):=(hx2.block _ (by simp;omega)).trans ((((Ext.rf _).al _).block _ (by simp)).trans (heap_alloc_new w _))
 have HB1:w2.heap[w.heap.size+1]?=some (.cells #[.int .i64 0,.int .i64 0,.int .i64 0,.int .i64 0,.slice none 0 0] 28 (0,0)):=by
  have h:=H0.out
  rw [World.size_alloc] at h
  exact (hx2.block (w.heap.size+1) (by simp)).trans h
 have f4:=frozen_of_row w2 w.heap.size 4 _ _ HB0
 have HB3:=hid (show (w2.setCell ⟨w.heap.size,4,none⟩ (.slice (some ⟨g,0,none⟩) pn cap)).heap[w.heap.size+1]?=some (.cells #[.int .i64 0,.int .i64 0,.int .i64 0,.int .i64 0,.slice none 0 0] 28 (0,0)) from (heap_setCell_other w2 ⟨w.heap.size,4,none⟩ _ _ (by show w.heap.size+1≠w.heap.size;omega)).trans HB1)
 have HP3:=hid (sv2_kept (sv2_kept hpv (grown_set w2 w.heap.size 4 (.slice (some ⟨g,0,none⟩) pn cap)) (by omega)) (grown_srow (w2.setCell ⟨w.heap.size,4,none⟩ (.slice (some ⟨g,0,none⟩) pn cap)) (w.heap.size+1) #[.int .i64 r.Queue,.int .i64 r.From,.int .i64 r.Until,.int .i64 r.Kind,.slice (some ⟨g,0,none⟩) pn cap]) (by omega))
 have HX3:=hid (show Ext w ((w2.setCell ⟨w.heap.size,4,none⟩ (.slice (some ⟨g,0,none⟩) pn cap)).setRow (w.heap.size+1) #[.int .i64 r.Queue,.int .i64 r.From,.int .i64 r.Until,.int .i64 r.Kind,.slice (some ⟨g,0,none⟩) pn cap]) from ((HX1.out.tr hx2).se (Nat.le_refl _) _).sr (by omega) _)
 have HR3:=hid (setRow_heap _ (w.heap.size+1) _ #[.int .i64 r.Queue,.int .i64 r.From,.int .i64 r.Until,.int .i64 r.Kind,.slice (some ⟨g,0,none⟩) pn cap] _ _ HB3.out)
 have HG:=hid hg
 clear hx2 hpv HB0 HB1 hg CP HRQ
 go_wp2_with (refine wpList_store_row rfl 28 _ _ rfl (w.heap.size+1) #[.int .i64 r.Queue,.int .i64 r.From,.int .i64 r.Until,.int .i64 r.Kind,.slice (some ⟨g,0,none⟩) pn cap] rfl rfl 28 _ HB3.out Tryz.size28 rfl (by simp [Value.oneCell']) ?_)
 exact bodyPost_ret (results_cell_row rfl _ _ (w.heap.size+1) 28 #[.int .i64 r.Queue,.int .i64 r.From,.int .i64 r.Until,.int .i64 r.Kind,.slice (some ⟨g,0,none⟩) pn cap] (0,0) _ rfl HR3.out Tryz.underlying28 rfl Tryz.size28) rfl ⟨g,cap,rfl,by have:=HG.out;omega,HP3.out,HX3.out⟩
theorem QRow.more {bs:List Nat} {W:World} {g r:Nat} {l:List Queue} (h:QRow bs W g l) (hne:∀ x∈l,x.Cap≠[]) (hr:W.heap.size≤r):QRow (r::bs) W g l:=by
 obtain ⟨vs,h1,h2⟩:=h
 refine ⟨vs,h1,fun j x hj=>?_⟩
 obtain ⟨a,b,c,d,cv,e,f,i⟩:=h2 j x hj
 obtain ⟨b2,off,cap,rfl,hb,_⟩:=runs_cells f (hne x (List.mem_of_getElem? hj))
 refine ⟨a,b,c,d,_,e,f,apart_at (fun hm=>?_)⟩
 have hi:=i ⟨b2,off,none⟩ _ _ rfl
 rcases List.mem_cons.1 hm with h | h
 ·exact hi (by show b2∈g::bs;rw [h];exact List.mem_cons_self ..)
 ·rcases List.mem_cons.1 h with h | h
  ·omega
  ·exact hi (List.mem_cons_of_mem _ h)
theorem treeOk_caps {l:List Queue} (ok:TreeOk l):∀ x∈l,x.Cap≠[]:=fun x hx h0=>by
 obtain ⟨k,hk⟩:=List.mem_iff_getElem?.1 hx
 have:=(ok.caps k (List.getElem?_eq_some_iff.1 hk).1).1.1
 rw [(at_some hk).2.2,h0] at this
 exact this
theorem liveB_of {l:List Queue} {b:List Book} (h:∀ x∈b,BookOk l x):LiveB b:=fun x hx=>by
 obtain ⟨r1,r2⟩:=(h x hx).req.many
 obtain ⟨m1,m2⟩:=(h x hx).many
 exact ⟨⟨fun h0=>by rw [h0] at r1;exact absurd r1 (by decide),fun h0=>by rw [h0] at m1;exact absurd m1 (by decide)⟩,⟨r1,r2⟩,⟨m1,m2⟩⟩
structure OwnAt (w:World) (base g cap:Nat) (va:Option Addr) (vc:Nat) (s:State) (k:Nat) (W:World):Prop where
 box:W.heap[w.heap.size]?=some (.cells #[.int .i64 s.Clock,.int .i64 s.Next,.slice (some ⟨g,0,none⟩) s.Tree.length cap,.slice va s.Books.length vc] 25 (0,0))
 res:W.heap[w.heap.size+1]?=some (.cells #[.int .i64 0,.int .i64 0,.slice none 0 0,.slice none 0 0] 25 (0,0))
 own:OwnB [w.heap.size,w.heap.size+1] base W (.slice va s.Books.length vc) s.Books
 row:QRow [w.heap.size,w.heap.size+1] W g s.Tree
 apart:∀ r,(Value.slice va s.Books.length vc).ownBlock=some r→g≠r∧QRow [r,w.heap.size,w.heap.size+1] W g s.Tree
 size:base≤W.heap.size
 low:w.heap.size+2≤base
 ext:Ext w W
 gb:g < base
 nq:NewIn 3 2 s.Tree.length w.heap.size W g
 nb:∀ r,(Value.slice va s.Books.length vc).ownBlock=some r→NewIn 7 5 k base W r∧NewIn 7 6 k base W r
theorem OwnAt.later {w W W':World} {base g cap vc k:Nat} {va:Option Addr} {s:State} (h:OwnAt w base g cap va vc s k W) (hx:Ext W W'):OwnAt w base g cap va vc s k W':=by
 have h0:w.heap.size+1 < W.heap.size:=by have:=h.low;have:=h.size;omega
 exact ⟨(hx.block _ (by omega)).trans h.box,(hx.block _ h0).trans h.res,h.own.ext hx,h.row.ext hx,fun r hr=>⟨(h.apart r hr).1,(h.apart r hr).2.ext hx⟩,Nat.le_trans h.size hx.size,h.low,h.ext.tr hx,h.gb,h.nq.ext hx,fun r hr=>⟨(h.nb r hr).1.ext hx,(h.nb r hr).2.ext hx⟩⟩
theorem OwnAt.kept {w W W':World} {base g cap vc r k l:Nat} {ad:Addr} {s:State} (h:OwnAt w base g cap (some ad) vc s k W) (hr:ad.block=r) (hb:base≤r) (hg:W.grownBy W' (some r)) (hx:Ext w W') (ho:OwnB [w.heap.size,w.heap.size+1] base W' (.slice (some ad) s.Books.length vc) s.Books) (hn:NewIn 7 5 l base W' r∧NewIn 7 6 l base W' r):OwnAt w base g cap (some ad) vc s l W':=by
 have h0:w.heap.size+1 < W.heap.size:=by have:=h.low;have:=h.size;omega
 have h1:=h.low
 obtain ⟨a1,a2⟩:=h.apart r (by show some ad.block=some r;rw [hr])
 have hq:=a2.kept hg (List.mem_cons_self ..) a1
 refine ⟨(hg.block _ (by omega) (fun e=>by cases e;omega)).trans h.box,(hg.block _ h0 (fun e=>by cases e;omega)).trans h.res,ho,hq.less (fun x hx=>List.mem_cons_of_mem _ hx),fun r' hr'=>?_,Nat.le_trans h.size hg.size,h.low,hx,h.gb,h.nq.kept hg a1,fun r' hr'=>?_⟩
 ·obtain rfl:r=r':=by have h2:some ad.block=some r':=hr';rw [hr] at h2;exact Option.some.inj h2
  exact ⟨a1,hq⟩
 ·obtain rfl:r=r':=by have h2:some ad.block=some r':=hr';rw [hr] at h2;exact Option.some.inj h2
  exact hn
theorem Own_any (w:World) (tv bv:Value) (s:State) (hl:QueuesV w tv s.Tree) (hb:BooksV w bv s.Books) (ok:TreeOk s.Tree) (h12:s.Books.length≤12) (hok:∀ x∈s.Books,BookOk s.Tree x) :
  Calls Tryz.prog 75 #[.agg #[.int .i64 s.Clock,.int .i64 s.Next,tv,bv]] w fun e w'=>∃ base g cap va vc,e=.returned (.agg #[.int .i64 s.Clock,.int .i64 s.Next,.slice (some ⟨g,0,none⟩) s.Tree.length cap,.slice va s.Books.length vc])∧s.Tree.length≤cap∧cap≤9223372036854775807∧w.heap.size≤g∧w.heap.size≤base∧base≤w'.heap.size ∧
   QRow [] w' g s.Tree∧(∀ r,(Value.slice va s.Books.length vc).ownBlock=some r→g≠r∧QRow [r] w' g s.Tree∧NewIn 7 5 s.Books.length base w' r∧NewIn 7 6 s.Books.length base w' r)∧OwnB [] base w' (.slice va s.Books.length vc) s.Books∧g < base∧NewIn 3 2 s.Tree.length w.heap.size w' g∧Ext w w':=by
 have OT:=hid (fun (W:World) (h:Ext w W) (hs:w.heap.size+1 < W.heap.size)=>planOwnTree_any [w.heap.size,w.heap.size+1] w W tv s.Tree hl h ok (fun r hr=>by
  simp only [List.mem_cons,List.not_mem_nil,or_false] at hr
  omega))
 have hlive:=liveB_of hok
 have CB:=hid (fun (W:World) (h:Ext w W)=>CloneBook_any [w.heap.size,w.heap.size+1] w W bv s.Books hb h h12 hlive (fun r hr=>by
  simp only [List.mem_cons,List.not_mem_nil,or_false] at hr
  omega))
 have HLV:=hid (fun (k:Nat) (x:Book) (h:s.Books[k]?=some x)=>hlive x (List.mem_of_getElem? h))
 have HCP:=hid (treeOk_caps ok)
 have hn5:=ok.n5
 obtain ⟨qa,qc,rfl,_,_,_⟩:=hl.form
 obtain ⟨ba,bc,rfl,_,_,_⟩:=hb.form
 clear hl hb ok hok hlive
 go_enter Tryz.func75,Tryz.ntmps75
 have HX1:=hid (((Ext.rf w).al (.cells #[.int .i64 s.Clock,.int .i64 s.Next,.slice qa s.Tree.length qc,.slice ba s.Books.length bc] 25)).al (.cells #[.int .i64 0,.int .i64 0,.slice none 0 0,.slice none 0 0] 25))
 have H0:=hid (heap_alloc_new w (.cells #[.int .i64 s.Clock,.int .i64 s.Next,.slice qa s.Tree.length qc,.slice ba s.Books.length bc] 25))
 have H1:=hid (heap_alloc_new (w.alloc (.cells #[.int .i64 s.Clock,.int .i64 s.Next,.slice qa s.Tree.length qc,.slice ba s.Books.length bc] 25)) (.cells #[.int .i64 0,.int .i64 0,.slice none 0 0,.slice none 0 0] 25))
 go_wp2_with fail
 refine (OT.out _ HX1.out (by simp)).mono ?_
 rintro e w2 ⟨g,cap,rfl,hc1,hc2,hg,hq2,hnq2,hx2⟩
 rw [World.size_alloc,World.size_alloc] at hnq2
 simp only [World.size_alloc] at hg
 have hs2:w.heap.size+1 < w2.heap.size:=by have:=hx2.size;simp at this;omega
 have hb2:w2.heap[w.heap.size]?=some (.cells #[.int .i64 s.Clock,.int .i64 s.Next,.slice qa s.Tree.length qc,.slice ba s.Books.length bc] 25 (0,0)):=(hx2.block _ (by simp;omega)).trans ((((Ext.rf _).al _).block _ (by simp)).trans H0.out)
 have hr2:w2.heap[w.heap.size+1]?=some (.cells #[.int .i64 0,.int .i64 0,.slice none 0 0,.slice none 0 0] 25 (0,0)):=by
  have h:=H1.out
  rw [World.size_alloc] at h
  exact (hx2.block (w.heap.size+1) (by simp)).trans h
 have HX2:=hid (HX1.out.tr hx2)
 have hb3:=heap_setCell_same w2 w.heap.size 2 _ _ (.slice (some ⟨g,0,none⟩) s.Tree.length cap) hb2
 have hr3:=(heap_setCell_other w2 ⟨w.heap.size,2,none⟩ (w.heap.size+1) (.slice (some ⟨g,0,none⟩) s.Tree.length cap) (by show w.heap.size+1≠w.heap.size;omega)).trans hr2
 have HQ3:=hid (hq2.kept (grown_set w2 w.heap.size 2 (.slice (some ⟨g,0,none⟩) s.Tree.length cap)) (List.mem_cons_self ..) (by omega))
 have HX3:=hid (HX2.out.se (Nat.le_refl _) (o:=2) (.slice (some ⟨g,0,none⟩) s.Tree.length cap))
 have HNQ3:=hid ((hnq2.less (Nat.le_refl _) (b2:=w.heap.size) (by omega)).kept (grown_set w2 w.heap.size 2 (.slice (some ⟨g,0,none⟩) s.Tree.length cap)) (by omega))
 have c2:=cell_of_row w2 w.heap.size 2 _ _ _ hb2
 have f2:=frozen_of_row w2 w.heap.size 2 _ _ hb2
 have hsz3:(w2.setCell ⟨w.heap.size,2,none⟩ (.slice (some ⟨g,0,none⟩) s.Tree.length cap)).heap.size=w2.heap.size:=by simp [World.setCell]
 have HB3:=hid hb3
 have HR3:=hid hr3
 have HG:=hid hg
 clear hx2 hq2 hb2 hr2 hb3 hr3 hg HX1 H0 H1 hnq2
 have c3:(w2.setCell ⟨w.heap.size,2,none⟩ (.slice (some ⟨g,0,none⟩) s.Tree.length cap)).cell? ⟨w.heap.size,3,none⟩=some (.slice ba s.Books.length bc):=cell_of_row _ w.heap.size 3 _ _ _ HB3.out
 go_wp2_with fail
 refine (CB.out _ HX3.out).mono ?_
 rintro e w4 ⟨v,rfl,hv,hx4⟩
 obtain ⟨va,vc,hvv,hvs⟩:∃ va vc,v=.slice va s.Books.length vc∧(1≤s.Books.length→∃ gb,va=some ⟨gb,0,none⟩):=by
  obtain ⟨css,h1,_⟩:=hv
  rcases h1.2 with ⟨h,h0⟩ | ⟨gb,cb,_,h,_⟩
  ·exact ⟨none,0,by rw [h,h0],fun h1=>by omega⟩
  ·exact ⟨_,cb,h,fun _=>⟨gb,rfl⟩⟩
 subst hvv
 have hs4:w2.heap.size≤w4.heap.size:=by rw [← hsz3];exact hx4.size
 have hb4:=(hx4.block w.heap.size (by rw [hsz3];omega)).trans HB3.out
 have hr4:=(hx4.block (w.heap.size+1) (by rw [hsz3];omega)).trans HR3.out
 have f4:=frozen_of_row w4 w.heap.size 3 _ _ hb4
 have c4:w4.cell? ⟨w.heap.size,3,none⟩=some (.slice ba s.Books.length bc):=cell_of_row _ w.heap.size 3 _ _ _ hb4
 have hgl:g < w2.heap.size:=by
  obtain ⟨vs,h1,_⟩:=HQ3.out
  have:=h1.lt
  omega
 have HAT:Hid (OwnAt w w2.heap.size g cap va vc s 0 (w4.setCell ⟨w.heap.size,3,none⟩ (.slice va s.Books.length vc))):=hid (by
  have hgr:=grown_set w4 w.heap.size 3 (.slice va s.Books.length vc)
  have hge:=HG.out
  refine ⟨heap_setCell_same w4 w.heap.size 3 _ _ _ hb4,(heap_setCell_other w4 ⟨w.heap.size,3,none⟩ (w.heap.size+1) _ (by show w.heap.size+1≠w.heap.size;omega)).trans hr4,?_,((HQ3.out.ext hx4).kept hgr (List.mem_cons_self ..) (by omega)),fun r hr=>?_,by simpa [World.setCell] using hs4,by omega,(HX3.out.tr hx4).se (Nat.le_refl _) _,hgl,(HNQ3.out.ext hx4).kept hgr (by omega),fun r hr=>?_⟩
  ·have h:=hv
   rw [hsz3] at h
   exact h.kept hgr (List.mem_cons_self ..) (by omega)
  ·obtain ⟨css,h1,_⟩:=hv
   have hrb:=own_lt h1 r hr
   rw [hsz3] at hrb
   exact ⟨by omega,((HQ3.out.more HCP.out (by rw [hsz3];exact hrb)).ext hx4).kept hgr (List.mem_cons_of_mem _ (List.mem_cons_self ..)) (by omega)⟩
  ·obtain ⟨css,h1,_⟩:=hv
   have hrl:r < (w4.setCell ⟨w.heap.size,3,none⟩ (.slice va s.Books.length vc)).heap.size:=by
    have:=(h1.lt r hr).2
    simpa [World.setCell] using this
   exact ⟨NewIn.zero hrl,NewIn.zero hrl⟩)
 have HVS:=hid hvs
 clear hv hvs hx4 hb4 hr4 HB3 HR3 HQ3 HX3 HX2 c2 f2 c3 OT CB HCP
 go_wp2_with fail
 have h5:(w4.setCell ⟨w.heap.size,3,none⟩ (.slice va s.Books.length vc)).heap.size=w4.heap.size:=by simp [World.setCell]
 generalize w4.setCell ⟨w.heap.size,3,none⟩ (.slice va s.Books.length vc)=w5 at *
 go_loopw [15] (fun c wr=>∃ k:Nat,c=.int .i64 k∧k≤s.Books.length∧Hid (OwnAt w w2.heap.size g cap va vc s k wr)) (fun c _=>s.Books.length - (intOf c).toNat)
 case atStart=>exact ⟨0,rfl,by omega,HAT⟩
 case round =>
  obtain ⟨k,rfl,hk,HA⟩:=hrel
  have hbx:=cell_of_row wr w.heap.size 3 _ _ _ HA.out.box
  have c3:wr.cell? ⟨w.heap.size,3,none⟩=some (.slice va s.Books.length vc):=hbx
  clear hbx
  by_cases hlt:k < s.Books.length
  ·have hlt':(k:Int) < (s.Books.length:Int):=by omega
   obtain ⟨x,hxk⟩:=getA (f:=s.Books) (k:=k) hlt
   obtain ⟨gb,hva⟩:=HVS.out (by omega)
   subst hva
   obtain ⟨hlv1,hlv2,hlv3⟩:=HLV.out k x hxk
   obtain ⟨pv,bw,hp,hbi,d0,d1,d2,d3,d4,d5,d6,hgl2,hgb,hfz⟩:=HA.out.own.cells rfl hxk
   have HOR:=hid (fun (W:World) (h:Ext wr W)=>OwnReq_any W pv x.Req (hp.mono h) hlv2.1 hlv2.2)
   obtain ⟨pa,pc,rfl,_,_,_⟩:=hp.form
   obtain ⟨ia,ic,rfl,_,_,_⟩:=hbi.form
   have HXK:=hid hxk
   clear hp hbi hxk hlv1
   go_wp2_with fail
   refine wp_region_held_drew (S:=fun W=>W.cell? ⟨w.heap.size,3,none⟩=some (.slice (some ⟨gb,0,none⟩) s.Books.length vc)) (by kernel_rfl) (by simpa using c3) (fun hHeld=>?_)
   refine wpAnyH_take (i:=0) (v:=?_) rfl (by kernel_rfl) (by kernel_rfl) (by kernel_rfl) (fun _ _ _ h=>h) (Or.inl ⟨by rfl,?_⟩) (by assumption) ?_
   rotate_left
   ·intro W hSW
    simp only [zA,zB]
    go_simp
    (try with_reducible rfl)
   simp only [zA,zB,Act.put,zD,zE,zF]
   refine wpAnyH_take (i:=1) (v:=?_) rfl (by kernel_rfl) (by kernel_rfl) (by kernel_rfl) (fun _ _ _ h=>h) (Or.inl ⟨by rfl,?_⟩) (by assumption) ?_
   rotate_left
   ·intro W hSW
    simp only [zA,zB,zC]
    go_simp
    (try with_reducible rfl)
   simp only [zA,zB,zC,Act.put,zD,zE,zF]
   refine wpAnyH_take (i:=2) (v:=?_) rfl (by kernel_rfl) (by kernel_rfl) (by kernel_rfl) (fun _ _ _ h=>h) (Or.inl ⟨by rfl,?_⟩) (by assumption) ?_
   rotate_left
   ·intro W hSW
    simp only [zA,zB,zC]
    go_simp
    (try with_reducible rfl)
   simp only [zA,zB,zC,Act.put,zD,zE,zF]
   refine wpAnyH_take (i:=3) (v:=?_) rfl (by kernel_rfl) (by kernel_rfl) (by kernel_rfl) (fun _ _ _ h=>h) (Or.inl ⟨by rfl,?_⟩) (by assumption) ?_
   rotate_left
   ·intro W hSW
    simp only [zA,zB,zC]
    go_simp
    (try with_reducible rfl)
   simp only [zA,zB,zC,Act.put,zD,zE,zF]
   refine wpAnyH_take (i:=4) (v:=?_) rfl (by kernel_rfl) (by kernel_rfl) (by kernel_rfl) (fun _ _ _ h=>h) (Or.inl ⟨by rfl,?_⟩) (by assumption) ?_
   rotate_left
   ·intro W hSW
    simp only [zA,zB,zC]
    go_simp
    (try with_reducible rfl)
   simp only [zA,zB,zC,Act.put,zD,zE,zF]
   refine wpAnyH_take (i:=5) (v:=?_) rfl (by kernel_rfl) (by kernel_rfl) (by kernel_rfl) (fun _ _ _ h=>h) (Or.inl ⟨by rfl,?_⟩) (by assumption) ?_
   rotate_left
   ·intro W hSW
    simp only [zA,zB,zC]
    go_simp
    (try with_reducible rfl)
   simp only [zA,zB,zC,Act.put,zD,zE,zF]
   refine wpAnyH_take (i:=6) (v:=?_) rfl (by kernel_rfl) (by kernel_rfl) (by kernel_rfl) (fun _ _ _ h=>h) (Or.inl ⟨by rfl,?_⟩) (by assumption) ?_
   rotate_left
   ·intro W hSW
    simp only [zA,zB,zC]
    go_simp
    (try with_reducible rfl)
   simp only [zA,zB,zC,Act.put,zD,zE,zF]
   refine wpAnyH_take (i:=7) (v:=?_) rfl (by kernel_rfl) (by kernel_rfl) (by kernel_rfl) (fun _ _ _ h=>h) (Or.inl ⟨by rfl,?_⟩) (by assumption) ?_
   rotate_left
   ·intro W hSW
    simp only [zA,zB,zC]
    go_simp
    (try with_reducible rfl)
   simp only [zA,zB,zC,Act.put,zD,zE,zF]
   refine wpAnyH_ready (rs:=[8]) (by kernel_rfl) (by simp) ?_
   refine AllReadyH.cons rfl (fun K hK=>?_) AllReadyH.nil
   simp only [zA,zB,zC]
   go_simp
   refine hK.out _ _ ?_ (fun hHeld=>?_)
   ·simpa using c3
   clear hK K
   refine wpAnyH_ready (rs:=[9]) (by kernel_rfl) (by simp) ?_
   refine AllReadyH.cons rfl (fun K hK=>?_) AllReadyH.nil
   simp only [zA,zB,zC]
   go_simp
   refine (HOR.out _ (Ext.rf wr).dr).mono ?_
   rintro e W2 ⟨g2,cp2,rfl,hg2,hp2,hx2⟩
   have HA2:=hid (HA.out.later ((Ext.rf wr).dr.tr hx2))
   have hg2':wr.heap.size≤g2:=hg2
   clear d0 d1 d2 d3 d4 d5 d6 c3 hfz HOR hg2 hx2
   obtain ⟨pv2,bw2,_,_,d0,d1,d2,d3,d4,d5,d6,hgl3,_,hfz3⟩:=HA2.out.own.cells rfl HXK.out
   have hth:W2.there gb (k*7+1) 5:=fun j hj=>by
    refine ⟨?_,hfz3 _⟩
    rcases (by omega:j=0∨j=1∨j=2∨j=3∨j=4) with rfl | rfl | rfl | rfl | rfl
    ·show (W2.cell? ⟨gb,k*7+1,none⟩).isSome=true;rw [d1];rfl
    ·show (W2.cell? ⟨gb,k*7+2,none⟩).isSome=true;rw [d2];rfl
    ·show (W2.cell? ⟨gb,k*7+3,none⟩).isSome=true;rw [d3];rfl
    ·show (W2.cell? ⟨gb,k*7+4,none⟩).isSome=true;rw [d4];rfl
    ·show (W2.cell? ⟨gb,k*7+5,none⟩).isSome=true;rw [d5];rfl
   have HTH:=hid hth
   have hW:W2.setCells gb (k*7+1) [.int .i64 x.Req.Queue,.int .i64 x.Req.From,.int .i64 x.Req.Until,.int .i64 x.Req.Kind,.slice (some ⟨g2,0,none⟩) x.Req.Pieces.length cp2]=W2.setCell ⟨gb,k*7+5,none⟩ (.slice (some ⟨g2,0,none⟩) x.Req.Pieces.length cp2):=by
    show ((((W2.setCell ⟨gb,k*7+1,none⟩ _).setCell ⟨gb,k*7+2,none⟩ _).setCell ⟨gb,k*7+3,none⟩ _).setCell ⟨gb,k*7+4,none⟩ _).setCell ⟨gb,k*7+5,none⟩ _=_
    rw [setCell_same d1,setCell_same d2,setCell_same d3,setCell_same d4]
   have HW:=hid hW
   have hlo:=HA2.out.low
   have hap:ApartL (gb::[w.heap.size,w.heap.size+1]) (.slice (some ⟨g2,0,none⟩) x.Req.Pieces.length cp2):=apart_at (fun hm=>by
    simp only [List.mem_cons,List.not_mem_nil,or_false] at hm
    omega)
   have hnb:=HA2.out.nb gb rfl
   have hlow2:=HA2.out.size
   have hbs2:=HA.out.size
   have HA3:=hid (HA2.out.kept (l:=k) rfl hgb (grown_set W2 gb (k*7+5) (.slice (some ⟨g2,0,none⟩) x.Req.Pieces.length cp2)) (HA2.out.ext.se (by omega) _) (HA2.out.own.setP rfl HXK.out hp2 hap) ⟨(hnb.1.other (fun i hi e=>by omega) _),(hnb.2.other (fun i hi e=>by omega) _)⟩)
   have HN5:=hid (hnb.1.set (by omega) d5 (u:=.slice (some ⟨g2,0,none⟩) x.Req.Pieces.length cp2) (fun a n' c' e2=>by cases e2;show w2.heap.size≤g2;omega))
   clear hth hW hap d0 d1 d2 d3 d4 d5 d6 hfz3 hp2 hnb hlow2 hbs2
   go_wp2_with fail
   refine hK.out _ _ ?_ (fun hHeld=>?_)
   ·exact cell_of_row W2 w.heap.size 3 _ _ _ HA2.out.box
   clear hK K
   refine wpAnyH_take (i:=10) (v:=?_) rfl (by kernel_rfl) (by kernel_rfl) (by kernel_rfl) (fun _ _ _ h=>h) (Or.inl ⟨by rfl,?_⟩) (by assumption) ?_
   rotate_left
   ·intro W hSW
    simp only [zA,zB,zC]
    go_simp
    (try with_reducible rfl)
   simp only [zA,zB,zC,Act.put,zD,zE,zF]
   refine wpAnyH_take (i:=11) (v:=?_) rfl (by kernel_rfl) (by kernel_rfl) (by kernel_rfl) (fun _ _ _ h=>h) (Or.inl ⟨by rfl,?_⟩) (by assumption) ?_
   rotate_left
   ·intro W hSW
    simp only [zA,zB,zC]
    go_simp
    (try with_reducible rfl)
   simp only [zA,zB,zC,Act.put,zD,zE,zF]
   refine wpAnyH_ready (rs:=[12]) (by kernel_rfl) (by simp) ?_
   refine AllReadyH.cons rfl (fun K hK=>?_) AllReadyH.nil
   simp only [zA,zB,zC]
   rw [if_pos (by rfl)]
   refine wp_store_mid 28 _ _ rfl gb (k*7+1) #[.int .i64 x.Req.Queue,.int .i64 x.Req.From,.int .i64 x.Req.Until,.int .i64 x.Req.Kind,.slice (some ⟨g2,0,none⟩) x.Req.Pieces.length cp2] rfl rfl HTH.out Tryz.size28 (by simp [Value.oneCell']) ?_
   rw [show W2.setCells gb (k*7+1) (#[.int .i64 x.Req.Queue,.int .i64 x.Req.From,.int .i64 x.Req.Until,.int .i64 x.Req.Kind,.slice (some ⟨g2,0,none⟩) x.Req.Pieces.length cp2]:Array Value).toList=W2.setCell ⟨gb,k*7+5,none⟩ (.slice (some ⟨g2,0,none⟩) x.Req.Pieces.length cp2) from HW.out]
   refine hK.out _ _ ?_ (fun hHeld=>?_)
   ·exact cell_of_row _ w.heap.size 3 _ _ _ HA3.out.box
   clear hK K
   refine wpAnyH_done (by kernel_rfl) ?_ _
   generalize W2.setCell ⟨gb,k*7+5,none⟩ (.slice (some ⟨g2,0,none⟩) x.Req.Pieces.length cp2)=W3 at *
   clear HW HTH HA2
   have c3:W3.cell? ⟨w.heap.size,3,none⟩=some (.slice (some ⟨gb,0,none⟩) s.Books.length vc):=cell_of_row W3 w.heap.size 3 _ _ _ HA3.out.box
   obtain ⟨pv3,bw3,_,hbi3,_,_,_,_,_,_,d6,_,_,_⟩:=HA3.out.own.cells rfl HXK.out
   have HCB:=hid (fun (W:World) (h:Ext W3 W)=>CloneBite_any W bw3 x.Bites (hbi3.mono h) hlv3.1 hlv3.2)
   obtain ⟨ia3,ic3,rfl,_,_,_⟩:=hbi3.form
   clear hbi3
   go_wp2_with fail
   refine wp_region_held_drew (S:=fun W=>W.cell? ⟨w.heap.size,3,none⟩=some (.slice (some ⟨gb,0,none⟩) s.Books.length vc)) (by kernel_rfl) (by simpa using c3) (fun hHeld=>?_)
   refine wpAnyH_take (i:=0) (v:=?_) rfl (by kernel_rfl) (by kernel_rfl) (by kernel_rfl) (fun _ _ _ h=>h) (Or.inl ⟨by rfl,?_⟩) (by assumption) ?_
   rotate_left
   ·intro W hSW
    simp only [zA,zB]
    go_simp
    (try with_reducible rfl)
   simp only [zA,zB,Act.put,zD,zE,zF]
   refine wpAnyH_take (i:=1) (v:=?_) rfl (by kernel_rfl) (by kernel_rfl) (by kernel_rfl) (fun _ _ _ h=>h) (Or.inl ⟨by rfl,?_⟩) (by assumption) ?_
   rotate_left
   ·intro W hSW
    simp only [zA,zB,zC]
    go_simp
    (try with_reducible rfl)
   simp only [zA,zB,zC,Act.put,zD,zE,zF]
   refine wpAnyH_take (i:=2) (v:=?_) rfl (by kernel_rfl) (by kernel_rfl) (by kernel_rfl) (fun _ _ _ h=>h) (Or.inl ⟨by rfl,?_⟩) (by assumption) ?_
   rotate_left
   ·intro W hSW
    simp only [zA,zB,zC]
    go_simp
    (try with_reducible rfl)
   simp only [zA,zB,zC,Act.put,zD,zE,zF]
   refine wpAnyH_take (i:=3) (v:=?_) rfl (by kernel_rfl) (by kernel_rfl) (by kernel_rfl) (fun _ _ _ h=>h) (Or.inl ⟨by rfl,?_⟩) (by assumption) ?_
   rotate_left
   ·intro W hSW
    simp only [zA,zB,zC]
    go_simp
    (try with_reducible rfl)
   simp only [zA,zB,zC,Act.put,zD,zE,zF]
   refine wpAnyH_take (i:=4) (v:=?_) rfl (by kernel_rfl) (by kernel_rfl) (by kernel_rfl) (fun _ _ _ h=>h) (Or.inl ⟨by rfl,?_⟩) (by assumption) ?_
   rotate_left
   ·intro W hSW
    simp only [zA,zB,zC]
    go_simp
    (try with_reducible rfl)
   simp only [zA,zB,zC,Act.put,zD,zE,zF]
   refine wpAnyH_take (i:=5) (v:=?_) rfl (by kernel_rfl) (by kernel_rfl) (by kernel_rfl) (fun _ _ _ h=>h) (Or.inl ⟨by rfl,?_⟩) (by assumption) ?_
   rotate_left
   ·intro W hSW
    simp only [zA,zB,zC]
    go_simp
    (try with_reducible rfl)
   simp only [zA,zB,zC,Act.put,zD,zE,zF]
   refine wpAnyH_take (i:=6) (v:=?_) rfl (by kernel_rfl) (by kernel_rfl) (by kernel_rfl) (fun _ _ _ h=>h) (Or.inl ⟨by rfl,?_⟩) (by assumption) ?_
   rotate_left
   ·intro W hSW
    simp only [zA,zB,zC]
    go_simp
    (try with_reducible rfl)
   simp only [zA,zB,zC,Act.put,zD,zE,zF]
   refine wpAnyH_take (i:=7) (v:=?_) rfl (by kernel_rfl) (by kernel_rfl) (by kernel_rfl) (fun _ _ _ h=>h) (Or.inl ⟨by rfl,?_⟩) (by assumption) ?_
   rotate_left
   ·intro W hSW
    simp only [zA,zB,zC]
    go_simp
    (try with_reducible rfl)
   simp only [zA,zB,zC,Act.put,zD,zE,zF]
   refine wpAnyH_ready (rs:=[8]) (by kernel_rfl) (by simp) ?_
   refine AllReadyH.cons rfl (fun K hK=>?_) AllReadyH.nil
   simp only [zA,zB,zC]
   go_simp
   refine hK.out _ _ ?_ (fun hHeld=>?_)
   ·simpa using c3
   clear hK K
   refine wpAnyH_ready (rs:=[9]) (by kernel_rfl) (by simp) ?_
   refine AllReadyH.cons rfl (fun K hK=>?_) AllReadyH.nil
   simp only [zA,zB,zC]
   go_simp
   refine (HCB.out _ (Ext.rf W3).dr).mono ?_
   rintro e W4 ⟨g4,cp4,rfl,hg4,hb4,hx4⟩
   have HA4:=hid (HA3.out.later ((Ext.rf W3).dr.tr hx4))
   have HN5':=hid (HN5.out.ext ((Ext.rf W3).dr.tr hx4))
   have hg4':W3.heap.size≤g4:=hg4
   have hgb3:gb < W3.heap.size:=by
    obtain ⟨_,_,_,_,_,_,_,_,_,_,_,h,_⟩:=HA3.out.own.cells rfl HXK.out
    exact h
   have hsz3:=HA3.out.size
   clear d6 c3 HCB hg4 hx4
   obtain ⟨pv4,bw4,_,_,_,_,_,_,_,_,d6,hgl4,_,hfz4⟩:=HA4.out.own.cells rfl HXK.out
   have f6:=hfz4 (k*7+6)
   have hap:ApartL (gb::[w.heap.size,w.heap.size+1]) (.slice (some ⟨g4,0,none⟩) x.Bites.length cp4):=apart_at (fun hm=>by
    simp only [List.mem_cons,List.not_mem_nil,or_false] at hm
    omega)
   have HA5:=hid (HA4.out.kept (l:=k+1) rfl hgb (grown_set W4 gb (k*7+6) (.slice (some ⟨g4,0,none⟩) x.Bites.length cp4)) (HA4.out.ext.se (by omega) _) (HA4.out.own.setB rfl HXK.out hb4 hap) ⟨HN5'.out.other (fun i hi e=>by omega) _,(HA4.out.nb gb rfl).2.set (by omega) d6 (fun a n' c' e2=>by cases e2;show w2.heap.size≤g4;omega)⟩)
   go_wp2_with fail
   refine hK.out _ _ ?_ (fun hHeld=>?_)
   ·exact cell_of_row W4 w.heap.size 3 _ _ _ HA4.out.box
   clear hK K
   refine wpAnyH_take (i:=10) (v:=?_) rfl (by kernel_rfl) (by kernel_rfl) (by kernel_rfl) (fun _ _ _ h=>h) (Or.inl ⟨by rfl,?_⟩) (by assumption) ?_
   rotate_left
   ·intro W hSW
    simp only [zA,zB,zC]
    go_simp
    (try with_reducible rfl)
   simp only [zA,zB,zC,Act.put,zD,zE,zF]
   refine wpAnyH_take (i:=11) (v:=?_) rfl (by kernel_rfl) (by kernel_rfl) (by kernel_rfl) (fun _ _ _ h=>h) (Or.inl ⟨by rfl,?_⟩) (by assumption) ?_
   rotate_left
   ·intro W hSW
    simp only [zA,zB,zC]
    go_simp
    (try with_reducible rfl)
   simp only [zA,zB,zC,Act.put,zD,zE,zF]
   refine wpAnyH_ready (rs:=[12]) (by kernel_rfl) (by simp) ?_
   refine AllReadyH.cons rfl (fun K hK=>?_) AllReadyH.nil
   simp only [zA,zB,zC]
   go_simp
   refine hK.out _ _ ?_ (fun hHeld=>?_)
   ·exact cell_of_row _ w.heap.size 3 _ _ _ HA5.out.box
   clear hK K
   refine wpAnyH_done (by kernel_rfl) ?_ _
   clear hap hfz4 hb4 HA4
   go_wp2_with fail
   go_roundw
   case rel=>exact ⟨k+1,by go_num,by omega,HA5⟩
   case measure=>simp [intOf];omega
  ·obtain rfl:k=s.Books.length:=by omega
   have hlt':¬ (s.Books.length:Int) < (s.Books.length:Int):=by omega
   have k0:=cell_of_row wr w.heap.size 0 _ _ _ HA.out.box
   have k1:=cell_of_row wr w.heap.size 1 _ _ _ HA.out.box
   have k2:=cell_of_row wr w.heap.size 2 _ _ _ HA.out.box
   have q0:wr.cell? ⟨w.heap.size,0,none⟩=some (.int .i64 s.Clock):=k0
   have q1:wr.cell? ⟨w.heap.size,1,none⟩=some (.int .i64 s.Next):=k1
   have q2:wr.cell? ⟨w.heap.size,2,none⟩=some (.slice (some ⟨g,0,none⟩) s.Tree.length cap):=k2
   clear k0 k1 k2
   have HRS:=hid HA.out.res
   have HR9:=hid (setRow_heap wr (w.heap.size+1) _ #[.int .i64 s.Clock,.int .i64 s.Next,.slice (some ⟨g,0,none⟩) s.Tree.length cap,.slice va s.Books.length vc] _ _ HA.out.res)
   have hgr:=grown_srow wr (w.heap.size+1) #[.int .i64 s.Clock,.int .i64 s.Next,.slice (some ⟨g,0,none⟩) s.Tree.length cap,.slice va s.Books.length vc]
   have hge:=HG.out
   have hlo:=HA.out.low
   have hm:w.heap.size+1∈[w.heap.size,w.heap.size+1]:=List.mem_cons_of_mem _ (List.mem_cons_self ..)
   have HO9:=hid (HA.out.own.kept hgr hm (by omega))
   have HQ9:=hid (HA.out.row.kept hgr hm (by omega))
   have HP9:=hid (fun r hr=>(⟨(HA.out.apart r hr).1,(HA.out.apart r hr).2.kept hgr (List.mem_cons_of_mem _ hm) (by omega)⟩:g≠r∧QRow [r,w.heap.size,w.heap.size+1] _ g s.Tree))
   have HX9:=hid (HA.out.ext.sr (b:=w.heap.size+1) (by omega) #[.int .i64 s.Clock,.int .i64 s.Next,.slice (some ⟨g,0,none⟩) s.Tree.length cap,.slice va s.Books.length vc])
   have HZ9:=hid (Nat.le_trans HA.out.size hgr.size)
   have HNQ9:=hid (HA.out.nq.kept hgr (by omega))
   have HGB9:=hid HA.out.gb
   have HNB9:=hid (fun r hr=>(⟨(HA.out.nb r hr).1.kept hgr (by obtain ⟨css,h1,_⟩:=HA.out.own;have:=own_lt h1 r hr;omega),(HA.out.nb r hr).2.kept hgr (by obtain ⟨css,h1,_⟩:=HA.out.own;have:=own_lt h1 r hr;omega)⟩:NewIn 7 5 s.Books.length w2.heap.size _ r∧NewIn 7 6 s.Books.length w2.heap.size _ r))
   clear hgr hm
   go_wp2_with (refine wpList_store_row rfl 25 _ _ rfl (w.heap.size+1) #[.int .i64 s.Clock,.int .i64 s.Next,.slice (some ⟨g,0,none⟩) s.Tree.length cap,.slice va s.Books.length vc] rfl rfl 25 _ HRS.out Tryz.size25 rfl (by simp [Value.oneCell']) ?_)
   exact bodyPost_ret (results_cell_row rfl _ _ (w.heap.size+1) 25 #[.int .i64 s.Clock,.int .i64 s.Next,.slice (some ⟨g,0,none⟩) s.Tree.length cap,.slice va s.Books.length vc] (0,0) _ rfl HR9.out Tryz.underlying25 rfl Tryz.size25) rfl
    ⟨w2.heap.size,g,cap,va,vc,rfl,hc1,hc2,by omega,by omega,HZ9.out,HQ9.out.less (fun x hx=>by cases hx),fun r hr=>⟨(HP9.out r hr).1,(HP9.out r hr).2.less (fun x hx=>by rw [List.mem_singleton.1 hx];exact List.mem_cons_self ..),(HNB9.out r hr).1,(HNB9.out r hr).2⟩,HO9.out.less,HGB9.out,HNQ9.out,HX9.out⟩
end Go.Proofs.YtdcndkojmflhnaaGreat
