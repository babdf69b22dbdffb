/- DeleteFunc of books; Cancel, CancelOf; each theorem names its own conditions. -/
import Derived.Test.YtdcndkojmflhnaaGreatPOwnS
import Derived.Test.YtdcndkojmflhnaaGreatPSub
import Derived.Test.YtdcndkojmflhnaaGreatPRefO
/- A row of books that is written anew in place; walk of slices.Delete at books. -/
set_option linter.unusedVariables false
set_option maxRecDepth 100000
set_option maxHeartbeats 8000000
set_option linter.unusedSimpArgs false
set_option linter.unusedVariables false
namespace Go.Proofs.YtdcndkojmflhnaaGreat
open Go.RowKit
open List renaming getElem_toArray→zA,getElem_cons_zero→zB,getElem_cons_succ→zC,setIfInBounds_toArray→zD,set_cons_zero→zE,set_cons_succ→zF
theorem flat7_take {α:Type}:∀ (css:List (List α)),(∀ cs∈css,cs.length=7)→∀ k,css.flatten.take (k*7)=(css.take k).flatten
 | [],_,k=>by simp
 | c::css,h,0=>by simp
 | c::css,h,k+1=>by
  have h1:=h c (List.mem_cons_self ..)
  rw [List.take_succ_cons,List.flatten_cons,List.flatten_cons,List.take_append,h1,List.take_of_length_le (by omega),show (k+1)*7 - 7=k*7 by omega,flat7_take css (fun d hd=>h d (List.mem_cons_of_mem _ hd)) k]
theorem flat7_drop {α:Type}:∀ (css:List (List α)),(∀ cs∈css,cs.length=7)→∀ k,css.flatten.drop (k*7)=(css.drop k).flatten
 | [],_,k=>by simp
 | c::css,h,0=>by simp
 | c::css,h,k+1=>by
  have h1:=h c (List.mem_cons_self ..)
  rw [List.drop_succ_cons,List.flatten_cons,List.drop_append,h1,List.drop_eq_nil_of_le (by omega),List.nil_append,show (k+1)*7 - 7=k*7 by omega,flat7_drop css (fun d hd=>h d (List.mem_cons_of_mem _ hd)) k]
theorem OwnS.rerow {ex:List Nat} {B g z cap:Nat} {W:World} {u:Value} {l:List Queue} {b:List Book} (h:OwnS ex B W u (.slice (some ⟨g,0,none⟩) z cap) l b) (hz:b.length=z) :
  ∃ (css:List (List Value)) (cur:Array Value),W.heap[g]?=some (.cells cur 40 (0,0))∧cur.size=cap*7∧cur.toList.take (z*7)=css.flatten∧css.length=z∧(∀ cs∈css,cs.length=7)∧(∀ u∈css.flatten,u.oneCell'=true)∧z≤cap∧cap≤maxLen∧B≤g∧(∀ W',W.grownBy W' (some g)→∀ (k:Nat) (cs:List Value) (x:Book),css[k]?=some cs→b[k]?=some x→BookC W' cs x) ∧
   ∀ (W':World) (n':Nat) (css':List (List Value)) (b':List Book) (cur':Array Value),W.grownBy W' (some g)→W'.heap[g]?=some (.cells cur' 40 (0,0))→cur'.size=cap*7→cur'.toList.take (n'*7)=css'.flatten→n'≤cap→b'.length=n'→css'.length=n'→n'≤12 →
    (∀ (k:Nat) (cs:List Value) (x:Book),css'[k]?=some cs→b'[k]?=some x→∃ j:Nat,css[j]?=some cs∧b[j]?=some x)→OwnS ex B W' u (.slice (some ⟨g,0,none⟩) n' cap) l b':=by
 obtain ⟨gq,qc,rfl,h1,h2,h5,h12,hgB,hs,he,hl,hc,⟨css,o1,o2,o3,o4⟩,hne,hq⟩:=h
 rcases o1.2 with ⟨hv,_⟩ | ⟨g',cap',cur,hv,hb,hcur,hnc,hcm,hcs,htk⟩
 ·cases hv
 ·cases hv
  rw [hz] at *
  refine ⟨css,cur,hcur,hcs,htk,by rw [o2.len,hz],o2.seven,o2.one,hnc,hcm,hb,fun W' hg k cs x h1 h2=>bookC_grown (o2.each k cs x h1 h2) hg (o4 g rfl cs (List.mem_of_getElem? h1)),fun W' n' css' b' cur' hg hcur' hs' ht' hn' hb' hc' h12' hsub=>?_⟩
  have hpair:∀ cs∈css',∃ (x:Book) (j:Nat),x∈b'∧css[j]?=some cs∧b[j]?=some x:=fun cs hm=>by
   obtain ⟨k,hk⟩:=List.mem_iff_getElem?.1 hm
   have hkl:=(List.getElem?_eq_some_iff.1 hk).1
   obtain ⟨x,hx⟩:=getA (f:=b') (k:=k) (by omega)
   obtain ⟨j,hj1,hj2⟩:=hsub k cs x hk hx
   exact ⟨x,j,List.mem_of_getElem? hx,hj1,hj2⟩
  have hin:∀ cs∈css',cs∈css:=fun cs hm=>by
   obtain ⟨x,j,_,h,_⟩:=hpair cs hm
   exact List.mem_of_getElem? h
  have hlive:LiveB b':=fun x hx=>by
   obtain ⟨k,hk⟩:=List.mem_iff_getElem?.1 hx
   have hkl:=(List.getElem?_eq_some_iff.1 hk).1
   obtain ⟨cs,hcs⟩:=getA (f:=css') (k:=k) (by omega)
   obtain ⟨j,_,hj⟩:=hsub k cs x hcs hk
   exact hl x (List.mem_of_getElem? hj)
  have h4:=o4 g rfl
  refine ⟨gq,qc,rfl,h1,h2,h5,by omega,hgB,Nat.lt_of_lt_of_le hs hg.size,he,hlive,hc,⟨css',⟨?_,.inr ⟨g,cap,cur',by rw [hb'],hb,hcur',by omega,hcm,hs',by rw [hb'];exact ht'⟩⟩,⟨by omega,fun k cs x hk hx=>?_⟩,fun cs hm=>o3 cs (hin cs hm),fun g' hg'=>?_⟩,fun r hr=>hne r hr,?_⟩
  ·rw [flat7_len css' (fun cs hm=>o2.seven cs (hin cs hm)),hc',hb']
  ·obtain ⟨j,hj1,hj2⟩:=hsub k cs x hk hx
   exact bookC_grown (o2.each j cs x hj1 hj2) hg (h4 cs (List.mem_of_getElem? hj1))
  ·obtain rfl:g=g':=by simpa [Value.ownBlock] using hg'
   exact fun cs hm=>h4 cs (hin cs hm)
  ·exact hq.kept hg (List.mem_append_left _ (List.mem_singleton.2 rfl)) (hne g rfl).1
theorem setCells_row {g:Nat} {T:TypeId}:∀ (vs:List Value) (o:Nat) (W:World) (cur:Array Value),W.heap[g]?=some (.cells cur T (0,0)) →
  ∃ cur',(W.setCells g o vs).heap[g]?=some (.cells cur' T (0,0))∧cur'.size=cur.size∧cur'.toList.take o=cur.toList.take o∧W.grownBy (W.setCells g o vs) (some g)
 | [],o,W,cur,h=>⟨cur,h,rfl,rfl,grown_of_ext (Ext.rf W)⟩
 | v::vs,o,W,cur,h=>by
  obtain ⟨cur',h1,h2,h3,h4⟩:=setCells_row vs (o+1) (W.setCell ⟨g,o,none⟩ v) _ (heap_setCell_same W g o cur T v h)
  refine ⟨cur',h1,by simpa using h2,?_,grown_trans (grown_set W g o v) h4⟩
  have e:cur'.toList.take o=(cur'.toList.take (o+1)).take o:=by rw [List.take_take];congr 1;omega
  rw [e,h3,List.take_take,show min o (o+1)=o by omega,Array.toList_setIfInBounds,List.take_set_of_le (Nat.le_refl _)]
def zeros7 (n:Nat):List Value:=(Builtin.zeroCells #[.int .i64 0,.int .i64 0,.int .i64 0,.int .i64 0,.int .i64 0,.slice none 0 0,.slice none 0 0] n).toList
theorem run_clear7 (w:World) (ty:TypeId) (b o n c:Nat) (hn:0 < n) (hc:∀ j,j < n*7→(w.cell? ⟨b,o+j,none⟩).isSome=true) (hf:∀ j,j < n*7→w.frozen? ⟨b,o+j,none⟩=false) :
  (Builtin.clear_ #[23] ty #[.slice (some ⟨b,o,none⟩) n c]).run Tryz.prog w=.ok (.tuple #[]) (w.setCells b o (zeros7 n)):=by
 have hl:(zeros7 n).length=n*7:=by
  unfold zeros7
  rw [Array.length_toList,size_zeroCells]
  rfl
 have h1:∀ v∈zeros7 n,v.oneCell'=true:=fun v hv=>by
  unfold zeros7 Builtin.zeroCells at hv
  rw [Array.toList_map,List.mem_map] at hv
  obtain ⟨i,_,rfl⟩:=hv
  have hi:i % 7 < 7:=Nat.mod_lt _ (by omega)
  show (#[.int .i64 0,.int .i64 0,.int .i64 0,.int .i64 0,.int .i64 0,.slice none 0 0,.slice none 0 0]:Array Value)[i % 7]!.oneCell'=true
  generalize i % 7=j at hi
  rcases (by omega:j=0∨j=1∨j=2∨j=3∨j=4∨j=5∨j=6) with rfl | rfl | rfl | rfl | rfl | rfl | rfl <;> rfl
 have hst:=run_storeCells_cells (P:=Tryz.prog) b o (zeros7 n) 0 w (by rw [hl];simpa using hc) (by rw [hl];simpa using hf) h1
 simp only [Nat.add_zero] at hst
 obtain ⟨m,rfl⟩:∃ m,n=m+1:=⟨n - 1,by omega⟩
 unfold zeros7 at hst ⊢
 simp [Builtin.clear_,run_underlying Tryz.underlying23,Value.cells,hst]
theorem wp_append_row {P:Program} {o:Oper} {a:Act} {w:World} {K:Act→World→Prop} {Q:Exit→Act→World→Prop} (s x:Operand) (t:TypeId)
  (ho:o.op=.call { callee:=.builtin .append,args:=#[s,x],argTypes:=#[t,t] }) (e:TypeId) (i:TypeInfo) (ht:P.underlying t=some (.slice e)) (hi:P.info? e=some i)
  (g n cap:Nat) (cur:Array Value) (hg:w.heap[g]?=some (.cells cur e (0,0))) (hs:a.eval s=.slice (some ⟨g,0,none⟩) n cap) (ad:Addr) (m c:Nat) (news:List Value) (hx:a.eval x=.slice (some ad) m c)
  (hl:news.length=m*i.size) (hnews:∀ j u,news[j]?=some u→w.cell? (ad.add j)=some u) (h1:∀ u∈news,u.oneCell'=true) (hroom:n+m≤cap) (hfit:n*i.size+news.length≤cur.size)
  (h:K (a.put o.dst (.slice (some ⟨g,0,none⟩) (n+m) cap)) (w.setRow g (cur.toList.take (n*i.size)++news++cur.toList.drop (n*i.size+news.length)).toArray)):o.wp P a w K Q:=by
 have hr:=run_append_room (P:=P) w t o.type e i ht hi g n cap cur hg ad m c news hl hnews h1 hroom hfit
 unfold Oper.wp execOp
 simp only [ho,resolve,invoke,builtin,Sem.run_bind,Sem.run_pure,Result.andThen_ok,List.map_toArray,List.map_cons,List.map_nil,hs,hx,hr]
 exact h
theorem addr7 (g o j:Nat):(⟨g,o,none⟩:Addr).add j=⟨g,o+j,none⟩:=addr_add g o j
theorem row_cell {W:World} {g:Nat} {cur:Array Value} {T:TypeId} (h:W.heap[g]?=some (.cells cur T (0,0))) {o:Nat} {u:Value} (hu:cur.toList[o]?=some u):W.cell? ⟨g,o,none⟩=some u:=by
 rw [cell_of_row W g o cur T _ h]
 simpa using hu
theorem Delete_any (ex:List Nat) (B:Nat) (w:World) (u:Value) (g z cap k:Nat) (l:List Queue) (b:List Book) (h:OwnS ex B w u (.slice (some ⟨g,0,none⟩) z cap) l b) (hz:b.length=z) (hk:k < z) (h12:z≤12) :
  Calls Tryz.prog 78 #[.slice (some ⟨g,0,none⟩) z cap,.int .i64 (k:Int),.int .i64 ((k:Int)+1)] w fun e w'=>e=.returned (.slice (some ⟨g,0,none⟩) (z - 1) cap)∧OwnS ex B w' u (.slice (some ⟨g,0,none⟩) (z - 1) cap) l (b.eraseIdx k)∧w.grownBy w' (some g):=by
 obtain ⟨css,cur,hcur,hcs,htk,hlen,h7,h1,hzc,hcm,hgB,hbc,hre⟩:=h.rerow hz
 obtain ⟨ib,ib1,ib2,ib3,ib4⟩:=info_parts Tryz.info40
 have hk1:((k:Int) == (k:Int)+1)=false:=eqF (by omega)
 have hkc:k≤cap:=by omega
 have hb1:(0:Int)≤(k:Int)+1:=by omega
 have hb2:(k:Int)+1≤(z:Int):=by omega
 obtain ⟨news,hnews⟩:∃ news,news=(css.drop (k+1)).flatten:=⟨_,rfl⟩
 have hnl:news.length=(z - (k+1))*7:=by rw [hnews,flat7_len _ (fun cs hm=>h7 cs (List.mem_of_mem_drop hm)),List.length_drop,hlen]
 have hcell:∀ (j:Nat) v,j < z*7→css.flatten[j]?=some v→w.cell? ⟨g,j,none⟩=some v:=fun j v hj hv=>row_cell hcur (by rw [← htk,List.getElem?_take_of_lt hj] at hv;exact hv)
 obtain ⟨A,hA,hsrc⟩:∃ A:Addr,(if cap=k+1 then some (⟨g,0,none⟩:Addr) else some ⟨g,(k+1)*7,none⟩)=some A∧Hid (∀ (j:Nat) v,news[j]?=some v→w.drew.cell? (A.add j)=some v):=by
  by_cases hc:cap=k+1
  ·refine ⟨⟨g,0,none⟩,by simp [hc],fun j v hv=>?_⟩
   have h0:news.length=0:=by rw [hnl];omega
   rw [List.length_eq_zero_iff.1 h0] at hv
   simp at hv
  ·refine ⟨⟨g,(k+1)*7,none⟩,by simp [hc],fun j v hv=>?_⟩
   have hjl:j < (z - (k+1))*7:=by rw [← hnl];exact (List.getElem?_eq_some_iff.1 hv).1
   rw [addr7]
   refine hcell _ v (by omega) ?_
   rw [hnews,← flat7_drop css h7,List.getElem?_drop] at hv
   exact hv
 have HCUR:=hid hcur
 have HRE:=hid hre
 have HTK:=hid htk
 have HNW:=hid hnews
 have HNL:=hid hnl
 have HN1:=hid (show ∀ v∈news,v.oneCell'=true from fun v hv=>by
  rw [hnews,← flat7_drop css h7] at hv
  exact h1 v (List.mem_of_mem_drop hv))
 have HH7:=hid h7
 clear hcur hre htk hnews hnl hcell hbc h1 h
 go_enter Tryz.func78,Tryz.ntmps78
 go_wp2_with fail
 refine wp_region_held_drew (S:=fun _=>True) (by kernel_rfl) trivial (fun hHeld=>?_)
 refine wpAnyH_take (i:=0) (v:=?_) rfl (by kernel_rfl) (by kernel_rfl) (by kernel_rfl) (fun _ _ _ h=>h) (Or.inl ⟨by rfl,?_⟩) (by assumption) ?_
 rotate_left
 ·intro W hSW
  simp only [zA,zB]
  (try dsimp only at hSW)
  go_simp
  (try with_reducible rfl)
 simp only [zA,zB,Act.put,zD,zE,zF]
 refine wpAnyH_take (i:=1) (v:=?_) rfl (by kernel_rfl) (by kernel_rfl) (by kernel_rfl) (fun _ _ _ h=>h) (Or.inl ⟨by rfl,?_⟩) (by assumption) ?_
 rotate_left
 ·intro W hSW
  simp only [zA,zB,zC]
  (try dsimp only at hSW)
  go_simp
  (try with_reducible rfl)
 simp only [zA,zB,zC,Act.put,zD,zE,zF]
 refine wpAnyH_take (i:=2) (v:=?_) rfl (by kernel_rfl) (by kernel_rfl) (by kernel_rfl) (fun _ _ _ h=>h) (Or.inl ⟨by rfl,?_⟩) (by assumption) ?_
 rotate_left
 ·intro W hSW
  simp only [zA,zB,zC]
  (try dsimp only at hSW)
  go_simp
  (try with_reducible rfl)
 simp only [zA,zB,zC,Act.put,zD,zE,zF]
 refine wpAnyH_take (i:=3) (v:=?_) rfl (by kernel_rfl) (by kernel_rfl) (by kernel_rfl) (fun _ _ _ h=>h) (Or.inl ⟨by rfl,?_⟩) (by assumption) ?_
 rotate_left
 ·intro W hSW
  simp only [zA,zB,zC]
  (try dsimp only at hSW)
  go_simp
  (try with_reducible rfl)
 simp only [zA,zB,zC,Act.put,zD,zE,zF]
 refine wpAnyH_take (i:=4) (v:=?_) rfl (by kernel_rfl) (by kernel_rfl) (by kernel_rfl) (fun _ _ _ h=>h) (Or.inl ⟨by rfl,?_⟩) (by assumption) ?_
 rotate_left
 ·intro W hSW
  simp only [zA,zB,zC]
  (try dsimp only at hSW)
  go_simp
  (try with_reducible rfl)
 simp only [zA,zB,zC,Act.put,zD,zE,zF]
 refine wpAnyH_take (i:=5) (v:=?_) rfl (by kernel_rfl) (by kernel_rfl) (by kernel_rfl) (fun _ _ _ h=>h) (Or.inl ⟨by rfl,?_⟩) (by assumption) ?_
 rotate_left
 ·intro W hSW
  simp only [zA,zB,zC]
  (try dsimp only at hSW)
  go_simp
  (try with_reducible rfl)
 simp only [zA,zB,zC,Act.put,zD,zE,zF]
 refine wpAnyH_ready (rs:=[6]) (by kernel_rfl) (by simp) ?_
 refine AllReadyH.cons rfl (fun K hK=>?_) AllReadyH.nil
 simp only [zA,zB,zC]
 rw [if_pos (by rfl)]
 refine wp_append_row _ _ _ (by rfl) 40 ib Tryz.underlying23 ib1 g k cap cur HCUR.out (by rfl) A (z - (k+1)) (cap - (k+1)) news (by rfl) (by rw [HNL.out,ib3]) hsrc.out HN1.out (by omega) (by rw [HNL.out,ib3,hcs];omega) ?_
 refine hK.out _ _ ?_ (fun hHeld=>?_)
 ·trivial
 clear hK K
 refine wpAnyH_take (i:=7) (v:=?_) rfl (by kernel_rfl) (by kernel_rfl) (by kernel_rfl) (fun _ _ _ h=>h) (Or.inl ⟨by rfl,?_⟩) (by assumption) ?_
 rotate_left
 ·intro W hSW
  simp only [zA,zB,zC]
  (try dsimp only at hSW)
  go_simp
  (try with_reducible rfl)
 simp only [zA,zB,zC,Act.put,zD,zE,zF]
 refine wpAnyH_done (by kernel_rfl) ?_ _
 rw [ib3,HNL.out]
 obtain ⟨m,hm⟩:∃ m,k+(z - (k+1))=m:=⟨_,rfl⟩
 rw [hm]
 have hm1:z - m=1:=by omega
 have hmz:m≤z:=by omega
 have hmc:m≤cap:=by omega
 have hmi:(m:Int)≤(z:Int):=by omega
 have hcne:¬ cap=m:=by omega
 obtain ⟨cur1,hcur1⟩:∃ cur1,(cur.toList.take (k*7)++news++cur.toList.drop (k*7+(z - (k+1))*7)).toArray=cur1:=⟨_,rfl⟩
 rw [hcur1]
 obtain ⟨W1,hW1⟩:∃ W1,w.drew.setRow g cur1=W1:=⟨_,rfl⟩
 have hb1':W1.heap[g]?=some (.cells cur1 40 (0,0)):=hW1▸setRow_heap w.drew g cur cur1 _ _ HCUR.out
 have hg1:w.grownBy W1 (some g):=hW1▸grown_trans (grown_of_ext (Ext.rf w).dr) (grown_srow w.drew g cur1)
 have hs1:cur1.size=cap*7:=by
  rw [← hcur1]
  simp only [List.size_toArray,List.length_append,List.length_take,List.length_drop,Array.length_toList,HNL.out,hcs]
  omega
 have ht1:cur1.toList.take (m*7)=(css.eraseIdx k).flatten:=by
  rw [← hcur1,List.eraseIdx_eq_take_drop_succ,List.flatten_append,← HNW.out]
  have e1:cur.toList.take (k*7)=(css.take k).flatten:=by
   rw [← flat7_take css HH7.out k,← HTK.out,List.take_take,show min (k*7) (z*7)=k*7 by omega]
  have e2:(cur.toList.take (k*7)++news).length=m*7:=by rw [List.length_append,List.length_take,Array.length_toList,HNL.out,hcs];omega
  rw [← e1,← e2]
  exact List.take_left
 obtain ⟨cur2,hc2,hs2,ht2,hg2⟩:=setCells_row (zeros7 1) (m*7) W1 cur1 hb1'
 have hcl:∀ ty,(Builtin.clear_ #[23] ty #[.slice (some ⟨g,m*7,none⟩) 1 (cap - m)]).run Tryz.prog W1=.ok (.tuple #[]) (W1.setCells g (m*7) (zeros7 1)):=fun ty =>
  run_clear7 W1 ty g (m*7) 1 (cap - m) (by omega) (fun j hj=>by
   rw [cell_of_row W1 g _ _ _ _ hb1',Array.getElem?_eq_getElem (by rw [hs1];omega)];rfl) (fun j hj=>frozen_of_row W1 g _ _ _ hb1')
 have HF:=hid (HRE.out _ m (css.eraseIdx k) (b.eraseIdx k) cur2 (grown_trans hg1 hg2) hc2 (by omega) (by rw [ht2,ht1]) (by omega) (by rw [List.length_eraseIdx];split <;> omega) (by rw [List.length_eraseIdx];split <;> omega) (by omega) (fun j cs x h1 h2=>by
  rw [List.getElem?_eraseIdx] at h1 h2
  split at h1
  ·rename_i hj
   rw [if_pos hj] at h2
   exact ⟨j,h1,h2⟩
  ·rename_i hj
   rw [if_neg hj] at h2
   exact ⟨j+1,h1,h2⟩))
 have HG:=hid (grown_trans hg1 hg2)
 have HW1:=hid hW1
 have HM:=hid (show z - 1=m by omega)
 rw [HW1.out]
 clear hb1' hg1 hs1 ht1 hc2 hs2 ht2 hg2 hW1 hcur1 hm HCUR HRE HTK HNW HNL HN1 HH7 hsrc hA
 go_wp2_with fail
 go_ret
 exact ⟨by rw [HM.out];rfl,by rw [HM.out];exact HF.out,HG.out⟩
def keptP (css:List (List Value)) (b:List Book) (p:Book→Bool) (j:Nat):List (List Value × Book):=((css.zip b).take j).filter fun q=>!p q.2
def keptC (css:List (List Value)) (b:List Book) (p:Book→Bool) (j:Nat):List (List Value):=(keptP css b p j).map Prod.fst
theorem keptC_zero (css:List (List Value)) (b:List Book) (p:Book→Bool):keptC css b p 0=[]:=by simp [keptC,keptP]
theorem keptC_succ {css:List (List Value)} {b:List Book} {p:Book→Bool} {j:Nat} {cs:List Value} {x:Book} (h1:css[j]?=some cs) (h2:b[j]?=some x):keptC css b p (j+1)=if p x=true then keptC css b p j else keptC css b p j++[cs]:=by
 have hz:(css.zip b)[j]?=some (cs,x):=by rw [List.getElem?_zip_eq_some];exact ⟨h1,h2⟩
 unfold keptC keptP
 rw [List.take_add_one,hz,List.filter_append,List.map_append]
 by_cases hp:p x=true
 ·rw [if_pos hp];simp [hp]
 ·rw [if_neg hp];simp [hp]
theorem keptB_eq {css:List (List Value)} {b:List Book} {p:Book→Bool} (hl:css.length=b.length):(keptP css b p b.length).map Prod.snd=b.filter fun x=>!p x:=by
 unfold keptP
 rw [List.take_of_length_le (by rw [List.length_zip];omega)]
 have e:(css.zip b).map Prod.snd=b:=by rw [List.map_snd_zip (by omega)]
 conv=>rhs;rw [← e]
 rw [List.filter_map]
 rfl
theorem kept_pair {css:List (List Value)} {b:List Book} {p:Book→Bool} {j k:Nat} {cs:List Value} {x:Book} (h1:(keptC css b p j)[k]?=some cs) (h2:((keptP css b p j).map Prod.snd)[k]?=some x):∃ i:Nat,css[i]?=some cs∧b[i]?=some x:=by
 unfold keptC at h1
 rw [List.getElem?_map] at h1 h2
 cases hq:(keptP css b p j)[k]? with
 | none=>rw [hq] at h1;cases h1
 | some q =>
  rw [hq] at h1 h2
  simp only [Option.map_some,Option.some.injEq] at h1 h2
  have hm:=List.mem_of_mem_take (List.mem_filter.1 (List.mem_of_getElem? hq)).1
  obtain ⟨i,hi⟩:=List.mem_iff_getElem?.1 hm
  rw [List.getElem?_zip_eq_some] at hi
  exact ⟨i,by rw [← h1];exact hi.1,by rw [← h2];exact hi.2⟩
structure DelAt (w:World) (g cap:Nat) (cur0:Array Value) (css:List (List Value)) (b:List Book) (p:Book→Bool) (j:Nat) (W:World):Prop where
 grown:w.grownBy W (some g)
 row:∃ cur:Array Value,W.heap[g]?=some (.cells cur 40 (0,0))∧cur.size=cap*7∧cur.toList.take ((keptC css b p j).length*7)=(keptC css b p j).flatten∧∀ m,j*7≤m→cur.toList[m]?=cur0.toList[m]?
 less:(keptC css b p j).length+1≤j
theorem setCells_mid {g:Nat} {T:TypeId}:∀ (vs:List Value) (o:Nat) (W:World) (cur:Array Value),W.heap[g]?=some (.cells cur T (0,0))→o+vs.length≤cur.size →
  ∃ cur',(W.setCells g o vs).heap[g]?=some (.cells cur' T (0,0))∧cur'.size=cur.size∧cur'.toList.take (o+vs.length)=cur.toList.take o++vs∧∀ m,o+vs.length≤m→cur'.toList[m]?=cur.toList[m]?
 | [],o,W,cur,h,_=>⟨cur,h,rfl,by simp,fun m _=>rfl⟩
 | v::vs,o,W,cur,h,ho=>by
  simp only [List.length_cons] at ho
  obtain ⟨cur',h1,h2,h3,h4⟩:=setCells_mid vs (o+1) (W.setCell ⟨g,o,none⟩ v) _ (heap_setCell_same W g o cur T v h) (by rw [Array.size_setIfInBounds];omega)
  refine ⟨cur',h1,by simpa using h2,?_,fun m hm=>?_⟩
  ·rw [List.length_cons,show o+(vs.length+1)=o+1+vs.length by omega,h3,Array.toList_setIfInBounds,List.take_add_one,List.take_set_of_le (Nat.le_refl _),List.getElem?_set_self (by rw [Array.length_toList];omega)]
   simp
  ·simp only [List.length_cons] at hm
   rw [h4 m (by omega),Array.toList_setIfInBounds,List.getElem?_set_ne (by omega)]
theorem grown_setCells (W:World) (g:Nat):∀ (vs:List Value) (o:Nat),W.grownBy (W.setCells g o vs) (some g):=fun vs=>by
 induction vs generalizing W with
 | nil=>exact fun o=>grown_of_ext (Ext.rf W)
 | cons v vs ih=>exact fun o=>grown_trans (grown_set W g o v) (ih _ (o+1))
theorem idxOf_first {α:Type} {p:α→Bool} {xs:List α} (h:0≤idxOf p xs):∃ (k:Nat) (x:α),idxOf p xs=k∧xs[k]?=some x∧p x=true∧∀ j y,j < k→xs[j]?=some y→p y=false:=by
 unfold idxOf at h ⊢
 cases hf:xs.findIdx? p with
 | none=>rw [hf] at h;exact absurd h (by decide)
 | some i =>
  obtain ⟨hi,hp,ha⟩:=List.findIdx?_eq_some_iff_getElem.1 hf
  refine ⟨i,xs[i],rfl,List.getElem?_eq_getElem hi,hp,fun j y hj hy=>?_⟩
  obtain ⟨hjl,rfl⟩:=List.getElem?_eq_some_iff.1 hy
  have:=ha j hj
  simpa using this
theorem keptC_take {css:List (List Value)} {b:List Book} {p:Book→Bool}:∀ (j:Nat),j≤css.length→css.length=b.length→(∀ i y,i < j→b[i]?=some y→p y=false)→keptC css b p j=css.take j
 | 0,_,_,_=>by rw [keptC_zero];rfl
 | j+1,hj,hl,h=>by
  obtain ⟨cs,hcs⟩:=getA (f:=css) (k:=j) (by omega)
  obtain ⟨x,hx⟩:=getA (f:=b) (k:=j) (by omega)
  rw [keptC_succ hcs hx,if_neg (by rw [h j x (by omega) hx];simp),keptC_take j (by omega) hl (fun i y hi hy=>h i y (by omega) hy),List.take_add_one,hcs]
  rfl
theorem DelAt.keep {w W W':World} {g cap j:Nat} {cur0:Array Value} {css:List (List Value)} {b:List Book} {p:Book→Bool} {cs:List Value} {x:Book} (h:DelAt w g cap cur0 css b p j W) (hx:Ext W W') (h1:css[j]?=some cs) (h2:b[j]?=some x) (hp:p x=true):DelAt w g cap cur0 css b p (j+1) W':=by
 obtain ⟨cur,r1,r2,r3,r4⟩:=h.row
 have e:keptC css b p (j+1)=keptC css b p j:=by rw [keptC_succ h1 h2,if_pos hp]
 exact ⟨grown_trans h.grown (grown_of_ext hx),⟨cur,(hx.block g (Array.getElem?_eq_some_iff.1 r1).1).trans r1,r2,by rw [e];exact r3,fun m hm=>r4 m (by omega)⟩,by rw [e];have:=h.less;omega⟩
theorem DelAt.move {w W W':World} {g cap z j:Nat} {cur0:Array Value} {css:List (List Value)} {b:List Book} {p:Book→Bool} {cs:List Value} {x:Book} (h:DelAt w g cap cur0 css b p j W) (hx:Ext W W') (hj:j < z) (hz:z≤cap) (h7:cs.length=7) (h1:css[j]?=some cs) (h2:b[j]?=some x) (hp:p x=false):DelAt w g cap cur0 css b p (j+1) (W'.setCells g ((keptC css b p j).length*7) cs):=by
 obtain ⟨cur,r1,r2,r3,r4⟩:=h.row
 have hl:=h.less
 have e:keptC css b p (j+1)=keptC css b p j++[cs]:=by rw [keptC_succ h1 h2,if_neg (by rw [hp];simp)]
 have r1':=(hx.block g (Array.getElem?_eq_some_iff.1 r1).1).trans r1
 obtain ⟨cur',q1,q2,q3,q4⟩:=setCells_mid cs ((keptC css b p j).length*7) W' cur r1' (by rw [h7,r2];omega)
 rw [h7] at q3 q4
 refine ⟨grown_trans h.grown (grown_trans (grown_of_ext hx) (grown_setCells W' g cs _)),⟨cur',q1,by omega,?_,fun m hm=>?_⟩,by rw [e,List.length_append];simp;omega⟩
 ·rw [e,List.length_append,List.flatten_append,← r3]
  simp only [List.length_cons,List.length_nil,List.flatten_cons,List.flatten_nil,List.append_nil]
  rw [← q3]
  congr 1
  omega
 ·rw [q4 m (by omega),r4 m (by omega)]
theorem DeleteFunc_some (ex:List Nat) (B:Nat) (w:World) (u:Value) (g z cap:Nat) (l:List Queue) (b:List Book) (G:Nat) (lb:Array Value) (p:Book→Bool) (h:OwnS ex B w u (.slice (some ⟨g,0,none⟩) z cap) l b) (hz:b.length=z) (h12:z≤12)
  (heg:∀ (args:Array Value) (w:World),(callFunc G args).run Tryz.prog w=.ok (.enter G args) w)
  (hp:∀ (k:Nat) (x:Book),b[k]?=some x→∀ W pv bv,w.grownBy W (some g)→PiecesV W pv x.Req.Pieces→BitesV W bv x.Bites→Calls Tryz.prog G (#[.agg #[.int .i64 x.Id,.int .i64 x.Req.Queue,.int .i64 x.Req.From,.int .i64 x.Req.Until,.int .i64 x.Req.Kind,pv,bv]]++lb) W fun e w'=>e=.returned (.bool (p x))∧Ext W w') :
  Calls Tryz.prog 79 #[.slice (some ⟨g,0,none⟩) z cap,.func (.func G) #[] lb] w fun e w'=>∃ n',e=.returned (.slice (some ⟨g,0,none⟩) n' cap)∧n'=(b.filter fun x=>!p x).length∧OwnS ex B w' u (.slice (some ⟨g,0,none⟩) n' cap) l (b.filter fun x=>!p x)∧w.grownBy w' (some g):=by
 obtain ⟨css,cur,hcur,hcs,htk,hlen,h7,h1,hzc,hcm,hgB,hbc,hre⟩:=h.rerow hz
 have hbv:=h.books
 have hgw:g < w.heap.size:=(Array.getElem?_eq_some_iff.1 hcur).1
 have hE:∀ k x,b[k]?=some x→EBook w g (0+k*7) x:=by
  rcases hbv with ⟨h0,_⟩ | ⟨_,_,_,e,_,_,_,_,hE⟩
  ·intro k x hk;rw [h0] at hk;simp at hk
  ·cases e;exact hE
 have IF:=hid (show Calls Tryz.prog 136 #[.slice (some ⟨g,0,none⟩) z cap,.func (.func G) #[] lb] w (fun e w'=>e=.returned (.int .i64 (idxOf p b))∧Ext w w') from by
  have:=IndexFunc_Book w g 0 cap b G lb p (by omega) hgw hE heg (fun k x hk W pv bv hx=>hp k x hk W pv bv (grown_of_ext hx))
  rwa [hz] at this)
 have hrow:∀ (k:Nat) cs x,css[k]?=some cs→b[k]?=some x→∀ j v,j < 7→cs[j]?=some v→cur.toList[k*7+j]?=some v:=fun k cs x hk hx j v hj hv=>by
  have hkz:k < z:=by rw [← hz];exact (List.getElem?_eq_some_iff.1 hx).1
  have e:css.flatten[k*7+j]?=some v:=by rw [flat7 css h7 k j hj,hk];exact hv
  rw [← htk,List.getElem?_take_of_lt (by omega)] at e
  exact e
 have HROW:=hid hrow
 have HCUR:=hid hcur
 have HRE:=hid hre
 have HTK:=hid htk
 have HH7:=hid h7
 have HBC:=hid hbc
 have HP:=hid hp
 have HH:=hid h
 have hbz:=hz
 by_cases hix:0≤idxOf p b
 ·obtain ⟨k0,x0,hi0,hk0,hp0,hall0⟩:=idxOf_first hix
  rw [hi0] at IF
  have hk0z:k0 < z:=by rw [← hz];exact (List.getElem?_eq_some_iff.1 hk0).1
  have hlb:css.length=b.length:=by omega
  obtain ⟨cs0,hcs0⟩:=getA (f:=css) (k:=k0) (by omega)
  have hkc0:=keptC_take k0 (by omega) hlb hall0
  have hkc1:keptC css b p (k0+1)=css.take k0:=by rw [keptC_succ hcs0 hk0,if_pos hp0,hkc0]
  have HST:=hid (fun (W:World) (hx:Ext w W)=>show DelAt w g cap cur css b p (k0+1) W from by
   refine ⟨grown_of_ext hx,⟨cur,(hx.block g hgw).trans hcur,hcs,?_,fun m _=>rfl⟩,?_⟩
   ·rw [hkc1,List.length_take,Nat.min_eq_left (by omega),← flat7_take css h7,← htk,List.take_take,show min (k0*7) (z*7)=k0*7 by omega]
   ·rw [hkc1,List.length_take];omega)
  have HKL:=hid (show (keptC css b p (k0+1)).length=k0 from by rw [hkc1,List.length_take];omega)
  have hn1:=eqF (a:=(k0:Int)) (b:=-1) (by omega)
  have hwr0:IntKind.i64.wrap ((k0:Int)+1)=(k0:Int)+1:=by rw [IntKind.wrap_i64];omega
  clear hbv hE hrow hcur hre htk h7 hbc hp h1 h hix hall0 hkc0 hkc1 hp0 hcs0 hk0 hi0
  go_enter Tryz.func79,Tryz.ntmps79
  go_wp2_with fail
  refine IF.out.mono ?_
  rintro e w2 ⟨rfl,hx2⟩
  have HD0:=hid (HST.out w2 hx2)
  go_wp2_with fail
  go_loopw [5,6] (fun ci cj wr=>∃ j:Nat,cj=.int .i64 j∧ci=.int .i64 ((keptC css b p j).length:Nat)∧k0 < j∧j≤z∧Hid (DelAt w g cap cur css b p j wr)) (fun _ cj _=>z - (intOf cj).toNat)
  case atStart=>exact ⟨k0+1,by go_num,by rw [HKL.out],by omega,by omega,HD0⟩
  case round =>
   obtain ⟨j,rfl,rfl,hj0,hj,HD⟩:=hrel
   have hless:=HD.out.less
   by_cases hlt:j < z
   ·have hlt':(j:Int) < (z:Int):=by omega
    obtain ⟨cs,hcs'⟩:=getA (f:=css) (k:=j) (by omega)
    obtain ⟨x,hxj⟩:=getA (f:=b) (k:=j) (by omega)
    have hcs7:=HH7.out cs (List.mem_of_getElem? hcs')
    obtain ⟨curj,r1,r2,r3,r4⟩:=HD.out.row
    have hBC:=HBC.out wr HD.out.grown j cs x hcs' hxj
    obtain ⟨qs,bv,rfl,⟨pv,rfl,hpv,_⟩,hbi,_⟩:=hBC
    have cell:∀ i v,i < 7→([.int .i64 x.Id,.int .i64 x.Req.Queue,.int .i64 x.Req.From,.int .i64 x.Req.Until,.int .i64 x.Req.Kind,pv,bv]:List Value)[i]?=some v→wr.cell? ⟨g,j*7+i,none⟩=some v:=fun i v hi hv=>row_cell r1 (by rw [r4 _ (by omega)];exact HROW.out j _ x hcs' hxj i v hi hv)
    have c0:=cell 0 _ (by omega) rfl
    have c1:=cell 1 _ (by omega) rfl
    have c2:=cell 2 _ (by omega) rfl
    have c3:=cell 3 _ (by omega) rfl
    have c4:=cell 4 _ (by omega) rfl
    have c5:=cell 5 _ (by omega) rfl
    have c6:=cell 6 _ (by omega) rfl
    rw [Nat.add_zero] at c0
    have HPC:=hid (fun (W:World) (hx:Ext wr W)=>HP.out j x hxj W pv bv (grown_trans HD.out.grown (grown_of_ext hx)) (hpv.mono hx) (hbi.mono hx))
    obtain ⟨pa,pc,rfl,_,_,_⟩:=hpv.form
    obtain ⟨ia,ic,rfl,_,_,_⟩:=hbi.form
    have HCS:=hid hcs'
    have HXJ:=hid hxj
    have hthere:∀ W,Ext wr W→W.there g ((keptC css b p j).length*7) 7:=fun W hx i hi=>by
     have hlt2:(keptC css b p j).length*7+i < curj.toList.length:=by
      have e:curj.toList.length=cap*7:=by rw [Array.length_toList];exact r2
      rw [e];omega
     refine ⟨?_,?_⟩
     ·rw [hx.ce' (row_cell r1 (List.getElem?_eq_getElem hlt2))];rfl
     ·exact frozen_of_row W g _ _ _ ((hx.block g (Array.getElem?_eq_some_iff.1 r1).1).trans r1)
    have HTH:=hid hthere
    have HLK:=hid (show (keptC css b p j).length < z from by omega)
    have hgwr:g < wr.heap.size:=(Array.getElem?_eq_some_iff.1 r1).1
    have t1:=deF (show ¬ (j:Int) < 0 by omega)
    have t2:=deF (show ¬ (z:Int)≤(j:Int) by omega)
    clear cell r1 r2 r3 r4 hpv hbi hthere hcs' hxj hless
    generalize hkl:(keptC css b p j).length=kl at *
    have HKL2:=hid hkl
    clear hkl
    cases hpx:p x with
    | true =>
     rw [hpx] at HPC
     have HPX:=hid hpx
     clear hpx
     go_wp2_with fail
     refine (HPC.out _ ((Ext.rf wr).al _)).mono ?_
     rintro e w3 ⟨rfl,hx3⟩
     have HD3:=hid (HD.out.keep (((Ext.rf wr).al _).tr hx3) HCS.out HXJ.out HPX.out)
     have HKE:=hid (show (keptC css b p (j+1)).length=kl from by rw [keptC_succ HCS.out HXJ.out,if_pos HPX.out];exact HKL2.out)
     go_wp2_with fail
     go_roundw
     case rel=>exact ⟨j+1,by go_num,by rw [HKE.out],by omega,by omega,HD3⟩
     case measure=>simp [intOf];omega
    | false =>
     rw [hpx] at HPC
     have HPX:=hid hpx
     clear hpx
     go_wp2_with fail
     refine (HPC.out _ ((Ext.rf wr).al _)).mono ?_
     rintro e w3 ⟨rfl,hx3⟩
     have hxa:=((Ext.rf wr).al (.cells #[.int .i64 x.Id,.int .i64 x.Req.Queue,.int .i64 x.Req.From,.int .i64 x.Req.Until,.int .i64 x.Req.Kind,.slice pa x.Req.Pieces.length pc,.slice ia x.Bites.length ic] 40)).tr hx3
     have hbx:w3.heap[wr.heap.size]?=some (.cells #[.int .i64 x.Id,.int .i64 x.Req.Queue,.int .i64 x.Req.From,.int .i64 x.Req.Until,.int .i64 x.Req.Kind,.slice pa x.Req.Pieces.length pc,.slice ia x.Bites.length ic] 40 (0,0)):=(hx3.block _ (by simp)).trans (heap_alloc_new wr _)
     obtain ⟨k0',k1,k2,k3,k4,k5,k6,_⟩:=bookCells7 hbx
     have HTH3:Hid (w3.there g (kl*7) 7):=hid (HTH.out w3 hxa)
     have HD3:=hid (HD.out.move (z:=z) hxa hlt hzc hcs7 HCS.out HXJ.out HPX.out)
     have HKE:=hid (show (keptC css b p (j+1)).length=kl+1 from by rw [keptC_succ HCS.out HXJ.out,if_neg (by rw [HPX.out];simp),List.length_append,HKL2.out];rfl)
     have hkl':(kl:Int) < (z:Int):=by have:=HLK.out;omega
     have t3:=deF (show ¬ (kl:Int) < 0 by omega)
     have t4:=deF (show ¬ (z:Int)≤(kl:Int) by omega)
     have hwk:IntKind.i64.wrap ((kl:Int)+1)=(kl:Int)+1:=by rw [IntKind.wrap_i64];omega
     rw [HKL2.out] at HD3
     obtain ⟨w4,hw4⟩:∃ w4,w3.setCells g (kl*7) (#[.int .i64 x.Id,.int .i64 x.Req.Queue,.int .i64 x.Req.From,.int .i64 x.Req.Until,.int .i64 x.Req.Kind,.slice pa x.Req.Pieces.length pc,.slice ia x.Bites.length ic]:Array Value).toList=w4:=⟨_,rfl⟩
     have HD4:Hid (DelAt w g cap cur css b p (j+1) w4):=hw4▸HD3
     have HW4:=hid hw4
     clear hbx hxa HD3 hw4
     go_wp2_with (refine wpList_store_mid rfl 40 (.tmp 33) (.tmp 32) rfl g (kl*7) #[.int .i64 x.Id,.int .i64 x.Req.Queue,.int .i64 x.Req.From,.int .i64 x.Req.Until,.int .i64 x.Req.Kind,.slice pa x.Req.Pieces.length pc,.slice ia x.Bites.length ic] rfl rfl HTH3.out Tryz.size40 (by simp [Value.oneCell']) ?_;rw [HW4.out])
     go_roundw
     case rel=>exact ⟨j+1,by go_num,by rw [HKE.out];go_num,by omega,by omega,HD4⟩
     case measure=>simp [intOf];omega
   ·obtain rfl:j=z:=by omega
    have hlt':¬ (j:Int) < (j:Int):=by omega
    obtain ⟨curj,r1,r2,r3,r4⟩:=HD.out.row
    obtain ⟨m,hm⟩:∃ m,(keptC css b p j).length=m:=⟨_,rfl⟩
    rw [hm] at hless r3 ⊢
    obtain ⟨cur2,hc2,hs2,ht2,hg2⟩:=setCells_row (zeros7 (j - m)) (m*7) wr curj r1
    have hcl:∀ ty,(Builtin.clear_ #[23] ty #[.slice (some ⟨g,m*7,none⟩) (j - m) (cap - m)]).run Tryz.prog wr=.ok (.tuple #[]) (wr.setCells g (m*7) (zeros7 (j - m))):=fun ty =>
     run_clear7 wr ty g (m*7) (j - m) (cap - m) (by omega) (fun i hi=>by
      rw [cell_of_row wr g _ _ _ _ r1,Array.getElem?_eq_getElem (by rw [r2];omega)];rfl) (fun i hi=>frozen_of_row wr g _ _ _ r1)
    have hkb:((keptP css b p j).map Prod.snd)=b.filter fun x=>!p x:=by rw [← hbz];exact keptB_eq (by omega)
    have hml:(b.filter fun x=>!p x).length=m:=by rw [← hkb,List.length_map,← hm];unfold keptC;rw [List.length_map]
    have HF:=hid (HRE.out _ m (keptC css b p j) (b.filter fun x=>!p x) cur2 (grown_trans HD.out.grown hg2) hc2 (by omega) (by rw [ht2,r3]) (by omega) hml hm (by omega) (fun i cs x h1 h2=>kept_pair (j:=j) h1 (by rw [hkb];exact h2)))
    have HG:=hid (grown_trans HD.out.grown hg2)
    have HM:=hid hml
    have hmj:m≤j:=by omega
    have hmc:m≤cap:=by omega
    have hmi:(m:Int)≤(j:Int):=by omega
    have hcne:¬ cap=m:=by omega
    clear r1 r2 r3 r4 hm hc2 hs2 ht2 hg2 hkb hml
    go_wp2_with fail
    go_ret
    exact ⟨m,rfl,HM.out.symm,HF.out,HG.out⟩
 ·have hall:b.any p=false:=by rw [← idxOf_any];simpa using hix
  have hix1:idxOf p b=-1:=idxOf_none (fun j y hj hy=>by
   have:=List.any_eq_false.1 hall y (List.mem_of_getElem? hy)
   simpa using this)
  rw [hix1] at IF
  have hf:(b.filter fun x=>!p x)=b:=List.filter_eq_self.2 (fun x hx=>by
   have:=List.any_eq_false.1 hall x hx
   simpa using this)
  clear hbv hE hrow hcur hre htk h7 hbc hp h1 h hix hall
  go_enter Tryz.func79,Tryz.ntmps79
  go_wp2_with fail
  refine IF.out.mono ?_
  rintro e w2 ⟨rfl,hx2⟩
  go_wp2_with fail
  go_ret
  exact ⟨z,rfl,by rw [hf,hbz],by rw [hf];exact HH.out.ext hx2,grown_of_ext hx2⟩
theorem IndexFunc_none (w:World) (G:Nat) (lb:Array Value) (c:Nat) :
  Calls Tryz.prog 136 #[.slice none 0 c,.func (.func G) #[] lb] w fun e w'=>e=.returned (.int .i64 (-1))∧w'=w:=by
 go_enter Tryz.func136,Tryz.ntmps136
 go_wp2
 go_loopw [8] (fun i wr=>i=.int .i64 0∧wr=w) (fun i _=>0)
 case atStart=>exact ⟨rfl,rfl⟩
 case round =>
  obtain ⟨rfl,rfl⟩:=hrel
  go_wp2
  go_ret
  exact ⟨rfl,rfl⟩
theorem DeleteFunc_none (w:World) (G:Nat) (lb:Array Value) (c:Nat) :
  Calls Tryz.prog 79 #[.slice none 0 c,.func (.func G) #[] lb] w fun e w'=>e=.returned (.slice none 0 c)∧w'=w:=by
 have IF:=hid (IndexFunc_none w G lb c)
 go_enter Tryz.func79,Tryz.ntmps79
 go_wp2_with fail
 refine IF.out.mono ?_
 rintro e w2 ⟨rfl,hw⟩
 obtain rfl:=hw.symm
 go_wp2_with fail
 go_ret
 exact ⟨rfl,rfl⟩
theorem DeleteFunc_any (ex:List Nat) (B:Nat) (w:World) (u v:Value) (l:List Queue) (b:List Book) (G:Nat) (lb:Array Value) (p:Book→Bool) (h:OwnS ex B w u v l b)
  (heg:∀ (args:Array Value) (w:World),(callFunc G args).run Tryz.prog w=.ok (.enter G args) w)
  (hp:∀ (k:Nat) (x:Book),b[k]?=some x→∀ W pv bv,w.grownBy W v.ownBlock→PiecesV W pv x.Req.Pieces→BitesV W bv x.Bites→Calls Tryz.prog G (#[.agg #[.int .i64 x.Id,.int .i64 x.Req.Queue,.int .i64 x.Req.From,.int .i64 x.Req.Until,.int .i64 x.Req.Kind,pv,bv]]++lb) W fun e w'=>e=.returned (.bool (p x))∧Ext W w') :
  Calls Tryz.prog 79 #[v,.func (.func G) #[] lb] w fun e w'=>∃ v',e=.returned v'∧OwnS ex B w' u v' l (b.filter fun x=>!p x)∧w.grownBy w' v.ownBlock∧∀ r,v'.ownBlock=some r→v.ownBlock=some r:=by
 have h12:b.length≤12:=by obtain ⟨g,cap,rfl,_,_,_,h12,_⟩:=h;exact h12
 by_cases hb:b=[]
 ·subst hb
  obtain ⟨a,cap,rfl,_⟩:=h.vform
  cases a with
  | none =>
   refine (DeleteFunc_none w G lb cap).mono ?_
   rintro e w' ⟨rfl,hw⟩
   subst hw
   exact ⟨_,rfl,h,⟨rfl,rfl,rfl,Nat.le_refl _,fun _ _ _=>rfl⟩,fun r hr=>hr⟩
  | some ad =>
   obtain ⟨g,hg⟩:∃ g,ad=⟨g,0,none⟩:=by
    obtain ⟨g0,c0,_,_,_,_,_,_,_,_,_,_,⟨css,o1,_⟩,_⟩:=h
    rcases o1.2 with ⟨hv,_⟩ | ⟨gb,cb,_,hv,_⟩
    ·cases hv
    ·cases hv;exact ⟨gb,rfl⟩
   subst hg
   refine (DeleteFunc_some ex B w u g 0 cap l [] G lb p h rfl (by omega) heg hp).mono ?_
   rintro e w' ⟨n',rfl,hn,ho,hg⟩
   exact ⟨_,rfl,ho,hg,fun r hr=>hr⟩
 ·obtain ⟨g,cap,rfl,_,_⟩:=h.vsome (List.length_pos_iff.2 hb)
  refine (DeleteFunc_some ex B w u g b.length cap l b G lb p h rfl h12 heg hp).mono ?_
  rintro e w' ⟨n',rfl,hn,ho,hg⟩
  exact ⟨_,rfl,ho,hg,fun r hr=>hr⟩
def lessS (s:State) (k:Nat):State:=⟨s.Clock,s.Next,s.Tree,s.Books.eraseIdx k⟩
@[irreducible] noncomputable def cancelR (s:State) (id:Int):State × Int:=if (findB s id).2≠0 then (noneS,(findB s id).2) else (lessS s (findB s id).1.toNat,0)
theorem cancelR_bad {s:State} {id:Int} (h:(findB s id).2≠0):cancelR s id=(noneS,(findB s id).2):=by unfold cancelR;rw [if_pos h]
theorem cancelR_ok {s:State} {id:Int} {k:Nat} (h:findB s id=((k:Int),0)):cancelR s id=(lessS s k,0):=by unfold cancelR;rw [h];simp
theorem idxOf_some {α:Type} {p:α→Bool} {xs:List α} (h:0≤idxOf p xs):∃ (k:Nat) (x:α),idxOf p xs=k∧xs[k]?=some x∧p x=true:=by
 unfold idxOf at h ⊢
 cases hf:xs.findIdx? p with
 | none=>rw [hf] at h;exact absurd h (by decide)
 | some i =>
  obtain ⟨hi,hp,_⟩:=List.findIdx?_eq_some_iff_getElem.1 hf
  exact ⟨i,xs[i],rfl,List.getElem?_eq_getElem hi,hp⟩
theorem findB_cases (s:State) (id:Int):(∃ e,findB s id=(0,e)∧e≠0)∨(stateE s=0∧∃ k:Nat,k < s.Books.length∧findB s id=((k:Int),0)):=by
 by_cases h0:stateE s=0
 ·by_cases h1:0≤idxOf (isId id) s.Books
  ·right
   obtain ⟨k,x,e,hk,_⟩:=idxOf_some h1
   exact ⟨h0,k,(List.getElem?_eq_some_iff.1 hk).1,by rw [findB_is h0 h1,e]⟩
  ·left
   exact ⟨6,findB_no h0 h1,by decide⟩
 ·left
  exact ⟨_,findB_bad h0,h0⟩
def RetState2 (w:World) (x:State × Int) (e:Ending) (w':World):Prop :=
 ∃ u v,e=.returned (.tuple #[.agg #[.int .i64 x.1.Clock,.int .i64 x.1.Next,u,v],.int .i64 x.2])∧StS w.heap.size w' u v x.1∧Ext w w'
theorem retState2_of {w w':World} {x:State × Int} {s:State} {m:Int} {u v:Value} (h:x=(s,m)) (h1:StS w.heap.size w' u v s) (hx:Ext w w'):RetState2 w x (.returned (.tuple #[.agg #[.int .i64 s.Clock,.int .i64 s.Next,u,v],.int .i64 m])) w':=by
 subst h;exact ⟨u,v,rfl,h1,hx⟩
theorem retState2_none {w w':World} {x:State × Int} {m:Int} (h:x=(noneS,m)) (hx:Ext w w'):RetState2 w x (.returned (.tuple #[.agg #[.int .i64 0,.int .i64 0,.slice none 0 0,.slice none 0 0],.int .i64 m])) w' :=
 retState2_of (s:=noneS) h (.inr ⟨rfl,rfl,rfl,rfl⟩) hx
theorem Cancel_any (w:World) (tv bv:Value) (s:State) (id:Int) (hl:QueuesV w tv s.Tree) (hb:BooksV w bv s.Books) :
  Calls Tryz.prog 39 #[.agg #[.int .i64 s.Clock,.int .i64 s.Next,tv,bv],.int .i64 id] w (RetState2 w (cancelR s id)):=by
 obtain ⟨wb,hwb,HX,HSS,HZZ,hszb⟩:=two_boxes2 w s tv bv
 have HX0:=hid HX
 have HS0:=hid HSS
 have HZ0:=hid HZZ
 have HWB:=hid hwb
 have HSB:=hid hszb
 clear HX HSS HZZ hwb hszb
 have F:=hid (fun (W:World) (h:Ext w W)=>planFind_any W tv bv s id (hl.mono h) (hb.mono h))
 rcases findB_cases s id with ⟨er,hf,hne0⟩ | ⟨hs,k,hk,hf⟩
 ·have HR:=hid (cancelR_bad (s:=s) (id:=id) (by rw [hf];exact hne0))
  rw [hf] at F HR
  have hne:=neT hne0
  obtain ⟨qa,qc,rfl,_,_,_⟩:=hl.form
  obtain ⟨ba,bc,rfl,_,_,_⟩:=hb.form
  clear hl hb hf hne0
  generalize s.Tree.length=n at *
  generalize s.Books.length=z at *
  go_enter Tryz.func39,Tryz.ntmps39
  go_wp2_with fail
  rw [HWB.out]
  refine (F.out _ HX0.out).mono ?_
  rintro e w2 ⟨rfl,hx2⟩
  have HB:=hid (HZ0.out w2 hx2)
  have HX2:=hid ((HX0.out.tr hx2).sr (b:=w.heap.size+1) (by omega) #[.int .i64 0,.int .i64 0,.slice none 0 0,.slice none 0 0])
  have HB2:=hid (setRow_heap w2 (w.heap.size+1) _ #[.int .i64 0,.int .i64 0,.slice none 0 0,.slice none 0 0] _ _ HB.out)
  go_wp2_with (refine wpList_store_row rfl 25 _ _ rfl (w.heap.size+1) #[.int .i64 0,.int .i64 0,.slice none 0 0,.slice none 0 0] rfl rfl 25 _ HB.out Tryz.size25 rfl (by simp [Value.oneCell']) ?_)
  exact bodyPost_ret (results_row_tmp (u:=5) rfl _ _ (w.heap.size+1) 25 #[.int .i64 0,.int .i64 0,.slice none 0 0,.slice none 0 0] (0,0) _ rfl HB2.out Tryz.underlying25 rfl Tryz.size25) rfl (retState2_none HR.out HX2.out)
 ·have HR:=hid (cancelR_ok hf)
  rw [hf] at F
  obtain ⟨ok,h12,hbok⟩:=right_of hs
  have OW:=hid (fun (W:World) (h:Ext w W)=>Own_S W tv bv s (hl.mono h) (hb.mono h) ok h12 hbok)
  obtain ⟨qa,qc,rfl,_,_,_⟩:=hl.form
  obtain ⟨ba,bc,rfl,_,_,_⟩:=hb.form
  clear hl hb hf hs ok hbok
  generalize hqn:s.Tree.length=n at *
  generalize hbz:s.Books.length=z at *
  have HQN:=hid hqn
  have HBZ:=hid hbz
  clear hqn hbz
  go_enter Tryz.func39,Tryz.ntmps39
  go_wp2_with fail
  rw [HWB.out]
  refine (F.out _ HX0.out).mono ?_
  rintro e w2 ⟨rfl,hx2⟩
  obtain ⟨a0,a1,a2,a3⟩:=HS0.out w2 hx2
  have HX2:=hid (HX0.out.tr hx2)
  have HXB2:=hid hx2
  clear hx2
  go_wp2_with fail
  refine (OW.out _ HX2.out).mono ?_
  rintro e w7 ⟨u7,v7,rfl,hO7,hx7⟩
  clear a0 a1 a2 a3
  obtain ⟨gq,qcp,rfl,hgB,hgs⟩:=hO7.uform
  obtain ⟨gb,rc,rfl,hbB,hbs⟩:=hO7.vsome (by rw [HBZ.out];omega)
  rw [HBZ.out] at hO7 ⊢
  rw [HQN.out] at hO7 ⊢
  have HX7:=hid (HX2.out.tr hx7)
  have HXB7:=hid (HXB2.out.tr hx7)
  have HSZ:=hid (And.intro HXB2.out.size hx7.size)
  have HGQ:=hid (And.intro (And.intro hgB hgs) (And.intro hbB hbs))
  obtain ⟨W8,hW8⟩:∃ W8,(w7.alloc (.cells #[.int .i64 0,.int .i64 0,.slice none 0 0,.slice none 0 0] 25)).setRow w7.heap.size #[.int .i64 s.Clock,.int .i64 s.Next,.slice (some ⟨gq,0,none⟩) n qcp,.slice (some ⟨gb,0,none⟩) z rc]=W8:=⟨_,rfl⟩
  have hx8:Ext w7 W8:=hW8▸((Ext.rf w7).al _).sr (b:=w7.heap.size) (Nat.le_refl _) _
  have hb8:W8.heap[w7.heap.size]?=some (.cells #[.int .i64 s.Clock,.int .i64 s.Next,.slice (some ⟨gq,0,none⟩) n qcp,.slice (some ⟨gb,0,none⟩) z rc] 25 (0,0)):=hW8▸setRow_heap (w7.alloc _) w7.heap.size _ _ _ _ (heap_alloc_new w7 _)
  have hO8:=(((hO7.under (r:=w.heap.size+1) (by have:=HXB2.out.size;have:=HSB.out;omega)).low (B2:=w.heap.size) HX2.out.size (fun r hr=>hr)).box (Nat.le_refl _)).ext hx8
  have DE:=hid (Delete_any [w7.heap.size,w.heap.size+1] w.heap.size W8 (.slice (some ⟨gq,0,none⟩) n qcp) gb z rc k s.Tree s.Books hO8 HBZ.out hk h12)
  have HW8:=hid hW8
  have HX8:=hid (HX7.out.tr hx8)
  have HXB8:=hid (HXB7.out.tr hx8)
  have HB8:=hid hb8
  have HS8:=hid (show w7.heap.size < W8.heap.size from (Array.getElem?_eq_some_iff.1 hb8).1)
  have e3:W8.cell? ⟨w7.heap.size,3,none⟩=some (.slice (some ⟨gb,0,none⟩) z rc):=cell_of_row _ _ 3 _ _ _ hb8
  have hwr:IntKind.i64.wrap ((k:Int)+1)=(k:Int)+1:=by rw [IntKind.wrap_i64];omega
  clear hx7 hx8 hb8 hW8 hO7 hO8 hgB hgs hbB hbs
  go_wp2_with (refine wpList_store_row rfl 25 _ _ rfl w7.heap.size #[.int .i64 s.Clock,.int .i64 s.Next,.slice (some ⟨gq,0,none⟩) n qcp,.slice (some ⟨gb,0,none⟩) z rc] rfl rfl 25 _ (heap_alloc_new w7 _) Tryz.size25 rfl (by simp [Value.oneCell']) ?_;rw [HW8.out])
  refine DE.out.mono ?_
  rintro e W9 ⟨rfl,hO9,hg9⟩
  have hgx:gb≠w7.heap.size:=by have:=HGQ.out;omega
  have hb9:W9.heap[w7.heap.size]?=some (.cells #[.int .i64 s.Clock,.int .i64 s.Next,.slice (some ⟨gq,0,none⟩) n qcp,.slice (some ⟨gb,0,none⟩) z rc] 25 (0,0)):=(hg9.block _ HS8.out (fun e=>hgx (Option.some.inj e).symm)).trans HB8.out
  have f3:=frozen_of_row W9 w7.heap.size 3 _ _ hb9
  have k3:W9.cell? ⟨w7.heap.size,3,none⟩=some (.slice (some ⟨gb,0,none⟩) z rc):=cell_of_row _ _ 3 _ _ _ hb9
  obtain ⟨W10,hW10⟩:∃ W10,W9.setCell ⟨w7.heap.size,3,none⟩ (.slice (some ⟨gb,0,none⟩) (z - 1) rc)=W10:=⟨_,rfl⟩
  have hb10:W10.heap[w7.heap.size]?=some (.cells #[.int .i64 s.Clock,.int .i64 s.Next,.slice (some ⟨gq,0,none⟩) n qcp,.slice (some ⟨gb,0,none⟩) (z - 1) rc] 25 (0,0)):=hW10▸heap_setCell_same W9 w7.heap.size 3 _ _ _ hb9
  have hO10:=hW10▸hO9.kept (grown_set W9 w7.heap.size 3 (.slice (some ⟨gb,0,none⟩) (z - 1) rc)) (List.mem_cons_self ..)
  have hX10:Ext w W10:=hW10▸(HX8.out.gr (v:=.slice (some ⟨gb,0,none⟩) z rc) hg9 (fun k hk=>by have e2:=Option.some.inj hk;have:=HGQ.out;have:=HX2.out.size;simp at e2;omega)).se (b:=w7.heap.size) (o:=3) (by have:=HX7.out.size;omega) _
  have hz10:W10.heap[w.heap.size+1]?=some (.cells #[.int .i64 0,.int .i64 0,.slice none 0 0,.slice none 0 0] 25 (0,0)):=by
   have h1:=HZ0.out W8 HXB8.out
   have hsz:=HSZ.out
   have hsb:=HSB.out
   have hgq:=HGQ.out
   rw [← hW10,heap_setCell_other W9 ⟨w7.heap.size,3,none⟩ _ _ (by show w.heap.size+1≠w7.heap.size;omega),hg9.block _ (by have:=HS8.out;omega) (fun e=>by have e2:=Option.some.inj e;omega)]
   exact h1
  have d0:W9.cell? ⟨w7.heap.size,0,none⟩=some (.int .i64 s.Clock):=cell_of_row _ _ 0 _ _ _ hb9
  have d1:W9.cell? ⟨w7.heap.size,1,none⟩=some (.int .i64 s.Next):=cell_of_row _ _ 1 _ _ _ hb9
  have d2:W9.cell? ⟨w7.heap.size,2,none⟩=some (.slice (some ⟨gq,0,none⟩) n qcp):=cell_of_row _ _ 2 _ _ _ hb9
  have HW10:=hid hW10
  have HO11:=hid ((hO10.kept (grown_srow W10 (w.heap.size+1) #[.int .i64 s.Clock,.int .i64 s.Next,.slice (some ⟨gq,0,none⟩) n qcp,.slice (some ⟨gb,0,none⟩) (z - 1) rc]) (by simp)).low (ex2:=[]) (Nat.le_refl _) (fun r hr=>by cases hr))
  have HX11:=hid (hX10.sr (b:=w.heap.size+1) (by omega) #[.int .i64 s.Clock,.int .i64 s.Next,.slice (some ⟨gq,0,none⟩) n qcp,.slice (some ⟨gb,0,none⟩) (z - 1) rc])
  have HR11:=hid (setRow_heap W10 (w.heap.size+1) _ #[.int .i64 s.Clock,.int .i64 s.Next,.slice (some ⟨gq,0,none⟩) n qcp,.slice (some ⟨gb,0,none⟩) (z - 1) rc] _ _ hz10)
  have HZ10:=hid hz10
  clear hO9 hg9 hb9 hW10 hb10 hO10 hX10 hz10 e3
  go_wp2_with (first
   | (rw [HW10.out];refine wpList_store_row rfl 25 _ _ rfl (w.heap.size+1) #[.int .i64 s.Clock,.int .i64 s.Next,.slice (some ⟨gq,0,none⟩) n qcp,.slice (some ⟨gb,0,none⟩) (z - 1) rc] rfl rfl 25 _ HZ10.out Tryz.size25 rfl (by simp [Value.oneCell']) ?_))
  exact bodyPost_ret (results_row_tmp (u:=5) rfl _ _ (w.heap.size+1) 25 #[.int .i64 s.Clock,.int .i64 s.Next,.slice (some ⟨gq,0,none⟩) n qcp,.slice (some ⟨gb,0,none⟩) (z - 1) rc] (0,0) _ rfl HR11.out Tryz.underlying25 rfl Tryz.size25) rfl (retState2_of (s:=lessS s k) HR.out (.inl HO11.out) HX11.out)
end Go.Proofs.YtdcndkojmflhnaaGreat
