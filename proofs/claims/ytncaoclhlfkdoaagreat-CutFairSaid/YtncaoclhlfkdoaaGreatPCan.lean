/- DeleteFunc of books; Cancel, CancelOf -/
import Derived.Test.YtncaoclhlfkdoaaGreatPOwnS
import Derived.Test.YtncaoclhlfkdoaaGreatPSub
import Derived.Test.YtncaoclhlfkdoaaGreatPRefO
/- A row of books that is written anew in place; walk of slices.Delete at books. -/
set_option linter.unusedVariables false
set_option maxRecDepth 100000
set_option maxHeartbeats 8000000
set_option linter.unusedSimpArgs false
set_option linter.unusedVariables false
namespace Go.Proofs.YtncaoclhlfkdoaaGreat
open Go.RowKit
open List renaming getElem_toArray→zA,getElem_cons_zero→zB,getElem_cons_succ→zC,setIfInBounds_toArray→zD,set_cons_zero→zE,set_cons_succ→zF
theorem flat7_take {α:Type}:∀ (css:List (List α)),(∀ cs∈css,cs.length=7)→∀ k,css.flatten.take (k*7)=(css.take k).flatten
 | [],_,k=>by simp
 | c::css,h,0=>by simp
 | c::css,h,k+1=>by
  have h1:=h c (List.mem_cons_self ..)
  rw [List.take_succ_cons,List.flatten_cons,List.flatten_cons,List.take_append,h1,List.take_of_length_le (by omega),show (k+1)*7 - 7=k*7 by omega,flat7_take css (fun d hd=>h d (List.mem_cons_of_mem _ hd)) k]
theorem flat7_drop {α:Type}:∀ (css:List (List α)),(∀ cs∈css,cs.length=7)→∀ k,css.flatten.drop (k*7)=(css.drop k).flatten
 | [],_,k=>by simp
 | c::css,h,0=>by simp
 | c::css,h,k+1=>by
  have h1:=h c (List.mem_cons_self ..)
  rw [List.drop_succ_cons,List.flatten_cons,List.drop_append,h1,List.drop_eq_nil_of_le (by omega),List.nil_append,show (k+1)*7 - 7=k*7 by omega,flat7_drop css (fun d hd=>h d (List.mem_cons_of_mem _ hd)) k]
theorem OwnS.rerow {ex:List Nat} {B g z cap:Nat} {W:World} {u:Value} {l:List Queue} {b:List Book} (h:OwnS ex B W u (.slice (some ⟨g,0,none⟩) z cap) l b) (hz:b.length=z) :
  ∃ (css:List (List Value)) (cur:Array Value),W.heap[g]?=some (.cells cur 43 (0,0))∧cur.size=cap*7∧cur.toList.take (z*7)=css.flatten∧css.length=z∧(∀ cs∈css,cs.length=7)∧(∀ u∈css.flatten,u.oneCell'=true)∧z≤cap∧cap≤maxLen∧B≤g∧(∀ W',W.grownBy W' (some g)→∀ (k:Nat) (cs:List Value) (x:Book),css[k]?=some cs→b[k]?=some x→BookC W' cs x) ∧
   ∀ (W':World) (n':Nat) (css':List (List Value)) (b':List Book) (cur':Array Value),W.grownBy W' (some g)→W'.heap[g]?=some (.cells cur' 43 (0,0))→cur'.size=cap*7→cur'.toList.take (n'*7)=css'.flatten→n'≤cap→b'.length=n'→css'.length=n'→n'≤12 →
    (∀ (k:Nat) (cs:List Value) (x:Book),css'[k]?=some cs→b'[k]?=some x→∃ j:Nat,css[j]?=some cs∧b[j]?=some x)→OwnS ex B W' u (.slice (some ⟨g,0,none⟩) n' cap) l b':=by
 obtain ⟨gq,qc,rfl,h1,h2,h5,h12,hgB,hs,he,hl,hc,⟨css,o1,o2,o3,o4⟩,hne,hq⟩:=h
 rcases o1.2 with ⟨hv,_⟩ | ⟨g',cap',cur,hv,hb,hcur,hnc,hcm,hcs,htk⟩
 ·cases hv
 ·cases hv
  rw [hz] at *
  refine ⟨css,cur,hcur,hcs,htk,by rw [o2.len,hz],o2.seven,o2.one,hnc,hcm,hb,fun W' hg k cs x h1 h2=>bookC_grown (o2.each k cs x h1 h2) hg (o4 g rfl cs (List.mem_of_getElem? h1)),fun W' n' css' b' cur' hg hcur' hs' ht' hn' hb' hc' h12' hsub=>?_⟩
  have hpair:∀ cs∈css',∃ (x:Book) (j:Nat),x∈b'∧css[j]?=some cs∧b[j]?=some x:=fun cs hm=>by
   obtain ⟨k,hk⟩:=List.mem_iff_getElem?.1 hm
   have hkl:=(List.getElem?_eq_some_iff.1 hk).1
   obtain ⟨x,hx⟩:=getA (f:=b') (k:=k) (by omega)
   obtain ⟨j,hj1,hj2⟩:=hsub k cs x hk hx
   exact ⟨x,j,List.mem_of_getElem? hx,hj1,hj2⟩
  have hin:∀ cs∈css',cs∈css:=fun cs hm=>by
   obtain ⟨x,j,_,h,_⟩:=hpair cs hm
   exact List.mem_of_getElem? h
  have hlive:LiveB b':=fun x hx=>by
   obtain ⟨k,hk⟩:=List.mem_iff_getElem?.1 hx
   have hkl:=(List.getElem?_eq_some_iff.1 hk).1
   obtain ⟨cs,hcs⟩:=getA (f:=css') (k:=k) (by omega)
   obtain ⟨j,_,hj⟩:=hsub k cs x hcs hk
   exact hl x (List.mem_of_getElem? hj)
  have h4:=o4 g rfl
  refine ⟨gq,qc,rfl,h1,h2,h5,by omega,hgB,Nat.lt_of_lt_of_le hs hg.size,he,hlive,hc,⟨css',⟨?_,.inr ⟨g,cap,cur',by rw [hb'],hb,hcur',by omega,hcm,hs',by rw [hb'];exact ht'⟩⟩,⟨by omega,fun k cs x hk hx=>?_⟩,fun cs hm=>o3 cs (hin cs hm),fun g' hg'=>?_⟩,fun r hr=>hne r hr,?_⟩
  ·rw [flat7_len css' (fun cs hm=>o2.seven cs (hin cs hm)),hc',hb']
  ·obtain ⟨j,hj1,hj2⟩:=hsub k cs x hk hx
   exact bookC_grown (o2.each j cs x hj1 hj2) hg (h4 cs (List.mem_of_getElem? hj1))
  ·obtain rfl:g=g':=by simpa [Value.ownBlock] using hg'
   exact fun cs hm=>h4 cs (hin cs hm)
  ·exact hq.kept hg (List.mem_append_left _ (List.mem_singleton.2 rfl)) (hne g rfl).1
theorem setCells_row {g:Nat} {T:TypeId}:∀ (vs:List Value) (o:Nat) (W:World) (cur:Array Value),W.heap[g]?=some (.cells cur T (0,0)) →
  ∃ cur',(W.setCells g o vs).heap[g]?=some (.cells cur' T (0,0))∧cur'.size=cur.size∧cur'.toList.take o=cur.toList.take o∧W.grownBy (W.setCells g o vs) (some g)
 | [],o,W,cur,h=>⟨cur,h,rfl,rfl,grown_of_ext (Ext.rf W)⟩
 | v::vs,o,W,cur,h=>by
  obtain ⟨cur',h1,h2,h3,h4⟩:=setCells_row vs (o+1) (W.setCell ⟨g,o,none⟩ v) _ (heap_setCell_same W g o cur T v h)
  refine ⟨cur',h1,by simpa using h2,?_,grown_trans (grown_set W g o v) h4⟩
  have e:cur'.toList.take o=(cur'.toList.take (o+1)).take o:=by rw [List.take_take];congr 1;omega
  rw [e,h3,List.take_take,show min o (o+1)=o by omega,Array.toList_setIfInBounds,List.take_set_of_le (Nat.le_refl _)]
def zeros7 (n:Nat):List Value:=(Builtin.zeroCells #[.int .i64 0,.int .i64 0,.int .i64 0,.int .i64 0,.int .i64 0,.slice none 0 0,.slice none 0 0] n).toList
theorem run_clear7 (w:World) (ty:TypeId) (b o n c:Nat) (hn:0 < n) (hc:∀ j,j < n*7→(w.cell? ⟨b,o+j,none⟩).isSome=true) (hf:∀ j,j < n*7→w.frozen? ⟨b,o+j,none⟩=false) :
  (Builtin.clear_ #[23] ty #[.slice (some ⟨b,o,none⟩) n c]).run Tryz.prog w=.ok (.tuple #[]) (w.setCells b o (zeros7 n)):=by
 have hl:(zeros7 n).length=n*7:=by
  unfold zeros7
  rw [Array.length_toList,size_zeroCells]
  rfl
 have h1:∀ v∈zeros7 n,v.oneCell'=true:=fun v hv=>by
  unfold zeros7 Builtin.zeroCells at hv
  rw [Array.toList_map,List.mem_map] at hv
  obtain ⟨i,_,rfl⟩:=hv
  have hi:i % 7 < 7:=Nat.mod_lt _ (by omega)
  show (#[.int .i64 0,.int .i64 0,.int .i64 0,.int .i64 0,.int .i64 0,.slice none 0 0,.slice none 0 0]:Array Value)[i % 7]!.oneCell'=true
  generalize i % 7=j at hi
  rcases (by omega:j=0∨j=1∨j=2∨j=3∨j=4∨j=5∨j=6) with rfl | rfl | rfl | rfl | rfl | rfl | rfl <;> rfl
 have hst:=run_storeCells_cells (P:=Tryz.prog) b o (zeros7 n) 0 w (by rw [hl];simpa using hc) (by rw [hl];simpa using hf) h1
 simp only [Nat.add_zero] at hst
 obtain ⟨m,rfl⟩:∃ m,n=m+1:=⟨n - 1,by omega⟩
 unfold zeros7 at hst ⊢
 simp [Builtin.clear_,run_underlying Tryz.underlying23,Value.cells,hst]
theorem wp_append_row {P:Program} {o:Oper} {a:Act} {w:World} {K:Act→World→Prop} {Q:Exit→Act→World→Prop} (s x:Operand) (t:TypeId)
  (ho:o.op=.call { callee:=.builtin .append,args:=#[s,x],argTypes:=#[t,t] }) (e:TypeId) (i:TypeInfo) (ht:P.underlying t=some (.slice e)) (hi:P.info? e=some i)
  (g n cap:Nat) (cur:Array Value) (hg:w.heap[g]?=some (.cells cur e (0,0))) (hs:a.eval s=.slice (some ⟨g,0,none⟩) n cap) (ad:Addr) (m c:Nat) (news:List Value) (hx:a.eval x=.slice (some ad) m c)
  (hl:news.length=m*i.size) (hnews:∀ j u,news[j]?=some u→w.cell? (ad.add j)=some u) (h1:∀ u∈news,u.oneCell'=true) (hroom:n+m≤cap) (hfit:n*i.size+news.length≤cur.size)
  (h:K (a.put o.dst (.slice (some ⟨g,0,none⟩) (n+m) cap)) (w.setRow g (cur.toList.take (n*i.size)++news++cur.toList.drop (n*i.size+news.length)).toArray)):o.wp P a w K Q:=by
 have hr:=run_append_room (P:=P) w t o.type e i ht hi g n cap cur hg ad m c news hl hnews h1 hroom hfit
 unfold Oper.wp execOp
 simp only [ho,resolve,invoke,builtin,Sem.run_bind,Sem.run_pure,Result.andThen_ok,List.map_toArray,List.map_cons,List.map_nil,hs,hx,hr]
 exact h
theorem addr7 (g o j:Nat):(⟨g,o,none⟩:Addr).add j=⟨g,o+j,none⟩:=addr_add g o j
theorem row_cell {W:World} {g:Nat} {cur:Array Value} {T:TypeId} (h:W.heap[g]?=some (.cells cur T (0,0))) {o:Nat} {u:Value} (hu:cur.toList[o]?=some u):W.cell? ⟨g,o,none⟩=some u:=by
 rw [cell_of_row W g o cur T _ h]
 simpa using hu
theorem Delete_any (ex:List Nat) (B:Nat) (w:World) (u:Value) (g z cap k:Nat) (l:List Queue) (b:List Book) (h:OwnS ex B w u (.slice (some ⟨g,0,none⟩) z cap) l b) (hz:b.length=z) (hk:k < z) (h12:z≤12) :
  Calls Tryz.prog 109 #[.slice (some ⟨g,0,none⟩) z cap,.int .i64 (k:Int),.int .i64 ((k:Int)+1)] w fun e w'=>e=.returned (.slice (some ⟨g,0,none⟩) (z - 1) cap)∧OwnS ex B w' u (.slice (some ⟨g,0,none⟩) (z - 1) cap) l (b.eraseIdx k)∧w.grownBy w' (some g):=by
 obtain ⟨css,cur,hcur,hcs,htk,hlen,h7,h1,hzc,hcm,hgB,hbc,hre⟩:=h.rerow hz
 obtain ⟨ib,ib1,ib2,ib3,ib4⟩:=info_parts Tryz.info43
 have hk1:((k:Int) == (k:Int)+1)=false:=eqF (by omega)
 have hkc:k≤cap:=by omega
 have hb1:(0:Int)≤(k:Int)+1:=by omega
 have hb2:(k:Int)+1≤(z:Int):=by omega
 obtain ⟨news,hnews⟩:∃ news,news=(css.drop (k+1)).flatten:=⟨_,rfl⟩
 have hnl:news.length=(z - (k+1))*7:=by rw [hnews,flat7_len _ (fun cs hm=>h7 cs (List.mem_of_mem_drop hm)),List.length_drop,hlen]
 have hcell:∀ (j:Nat) v,j < z*7→css.flatten[j]?=some v→w.cell? ⟨g,j,none⟩=some v:=fun j v hj hv=>row_cell hcur (by rw [← htk,List.getElem?_take_of_lt hj] at hv;exact hv)
 obtain ⟨A,hA,hsrc⟩:∃ A:Addr,(if cap=k+1 then some (⟨g,0,none⟩:Addr) else some ⟨g,(k+1)*7,none⟩)=some A∧Hid (∀ (j:Nat) v,news[j]?=some v→w.drew.cell? (A.add j)=some v):=by
  by_cases hc:cap=k+1
  ·refine ⟨⟨g,0,none⟩,by simp [hc],fun j v hv=>?_⟩
   have h0:news.length=0:=by rw [hnl];omega
   rw [List.length_eq_zero_iff.1 h0] at hv
   simp at hv
  ·refine ⟨⟨g,(k+1)*7,none⟩,by simp [hc],fun j v hv=>?_⟩
   have hjl:j < (z - (k+1))*7:=by rw [← hnl];exact (List.getElem?_eq_some_iff.1 hv).1
   rw [addr7]
   refine hcell _ v (by omega) ?_
   rw [hnews,← flat7_drop css h7,List.getElem?_drop] at hv
   exact hv
 have HCUR:=hid hcur
 have HRE:=hid hre
 have HTK:=hid htk
 have HNW:=hid hnews
 have HNL:=hid hnl
 have HN1:=hid (show ∀ v∈news,v.oneCell'=true from fun v hv=>by
  rw [hnews,← flat7_drop css h7] at hv
  exact h1 v (List.mem_of_mem_drop hv))
 have HH7:=hid h7
 clear hcur hre htk hnews hnl hcell hbc h1 h
 go_enter Tryz.func109,Tryz.ntmps109
 go_wp2_with fail
 refine wp_region_held_drew (S:=fun _=>True) (by kernel_rfl) trivial (fun hHeld=>?_)
 refine wpAnyH_take (i:=0) (v:=?_) rfl (by kernel_rfl) (by kernel_rfl) (by kernel_rfl) (fun _ _ _ h=>h) (Or.inl ⟨by rfl,?_⟩) (by assumption) ?_
 rotate_left
 ·intro W hSW
  simp only [zA,zB]
  (try dsimp only at hSW)
  go_simp
  (try with_reducible rfl)
 simp only [zA,zB,Act.put,zD,zE,zF]
 refine wpAnyH_take (i:=1) (v:=?_) rfl (by kernel_rfl) (by kernel_rfl) (by kernel_rfl) (fun _ _ _ h=>h) (Or.inl ⟨by rfl,?_⟩) (by assumption) ?_
 rotate_left
 ·intro W hSW
  simp only [zA,zB,zC]
  (try dsimp only at hSW)
  go_simp
  (try with_reducible rfl)
 simp only [zA,zB,zC,Act.put,zD,zE,zF]
 refine wpAnyH_take (i:=2) (v:=?_) rfl (by kernel_rfl) (by kernel_rfl) (by kernel_rfl) (fun _ _ _ h=>h) (Or.inl ⟨by rfl,?_⟩) (by assumption) ?_
 rotate_left
 ·intro W hSW
  simp only [zA,zB,zC]
  (try dsimp only at hSW)
  go_simp
  (try with_reducible rfl)
 simp only [zA,zB,zC,Act.put,zD,zE,zF]
 refine wpAnyH_take (i:=3) (v:=?_) rfl (by kernel_rfl) (by kernel_rfl) (by kernel_rfl) (fun _ _ _ h=>h) (Or.inl ⟨by rfl,?_⟩) (by assumption) ?_
 rotate_left
 ·intro W hSW
  simp only [zA,zB,zC]
  (try dsimp only at hSW)
  go_simp
  (try with_reducible rfl)
 simp only [zA,zB,zC,Act.put,zD,zE,zF]
 refine wpAnyH_take (i:=4) (v:=?_) rfl (by kernel_rfl) (by kernel_rfl) (by kernel_rfl) (fun _ _ _ h=>h) (Or.inl ⟨by rfl,?_⟩) (by assumption) ?_
 rotate_left
 ·intro W hSW
  simp only [zA,zB,zC]
  (try dsimp only at hSW)
  go_simp
  (try with_reducible rfl)
 simp only [zA,zB,zC,Act.put,zD,zE,zF]
 refine wpAnyH_take (i:=5) (v:=?_) rfl (by kernel_rfl) (by kernel_rfl) (by kernel_rfl) (fun _ _ _ h=>h) (Or.inl ⟨by rfl,?_⟩) (by assumption) ?_
 rotate_left
 ·intro W hSW
  simp only [zA,zB,zC]
  (try dsimp only at hSW)
  go_simp
  (try with_reducible rfl)
 simp only [zA,zB,zC,Act.put,zD,zE,zF]
 refine wpAnyH_ready (rs:=[6]) (by kernel_rfl) (by simp) ?_
 refine AllReadyH.cons rfl (fun K hK=>?_) AllReadyH.nil
 simp only [zA,zB,zC]
 rw [if_pos (by rfl)]
 refine wp_append_row _ _ _ (by rfl) 43 ib Tryz.underlying23 ib1 g k cap cur HCUR.out (by rfl) A (z - (k+1)) (cap - (k+1)) news (by rfl) (by rw [HNL.out,ib3]) hsrc.out HN1.out (by omega) (by rw [HNL.out,ib3,hcs];omega) ?_
 refine hK.out _ _ ?_ (fun hHeld=>?_)
 ·trivial
 clear hK K
 refine wpAnyH_take (i:=7) (v:=?_) rfl (by kernel_rfl) (by kernel_rfl) (by kernel_rfl) (fun _ _ _ h=>h) (Or.inl ⟨by rfl,?_⟩) (by assumption) ?_
 rotate_left
 ·intro W hSW
  simp only [zA,zB,zC]
  (try dsimp only at hSW)
  go_simp
  (try with_reducible rfl)
 simp only [zA,zB,zC,Act.put,zD,zE,zF]
 refine wpAnyH_done (by kernel_rfl) ?_ _
 rw [ib3,HNL.out]
 obtain ⟨m,hm⟩:∃ m,k+(z - (k+1))=m:=⟨_,rfl⟩
 rw [hm]
 have hm1:z - m=1:=by omega
 have hmz:m≤z:=by omega
 have hmc:m≤cap:=by omega
 have hmi:(m:Int)≤(z:Int):=by omega
 have hcne:¬ cap=m:=by omega
 obtain ⟨cur1,hcur1⟩:∃ cur1,(cur.toList.take (k*7)++news++cur.toList.drop (k*7+(z - (k+1))*7)).toArray=cur1:=⟨_,rfl⟩
 rw [hcur1]
 obtain ⟨W1,hW1⟩:∃ W1,w.drew.setRow g cur1=W1:=⟨_,rfl⟩
 have hb1':W1.heap[g]?=some (.cells cur1 43 (0,0)):=hW1▸setRow_heap w.drew g cur cur1 _ _ HCUR.out
 have hg1:w.grownBy W1 (some g):=hW1▸grown_trans (grown_of_ext (Ext.rf w).dr) (grown_srow w.drew g cur1)
 have hs1:cur1.size=cap*7:=by
  rw [← hcur1]
  simp only [List.size_toArray,List.length_append,List.length_take,List.length_drop,Array.length_toList,HNL.out,hcs]
  omega
 have ht1:cur1.toList.take (m*7)=(css.eraseIdx k).flatten:=by
  rw [← hcur1,List.eraseIdx_eq_take_drop_succ,List.flatten_append,← HNW.out]
  have e1:cur.toList.take (k*7)=(css.take k).flatten:=by
   rw [← flat7_take css HH7.out k,← HTK.out,List.take_take,show min (k*7) (z*7)=k*7 by omega]
  have e2:(cur.toList.take (k*7)++news).length=m*7:=by rw [List.length_append,List.length_take,Array.length_toList,HNL.out,hcs];omega
  rw [← e1,← e2]
  exact List.take_left
 obtain ⟨cur2,hc2,hs2,ht2,hg2⟩:=setCells_row (zeros7 1) (m*7) W1 cur1 hb1'
 have hcl:∀ ty,(Builtin.clear_ #[23] ty #[.slice (some ⟨g,m*7,none⟩) 1 (cap - m)]).run Tryz.prog W1=.ok (.tuple #[]) (W1.setCells g (m*7) (zeros7 1)):=fun ty =>
  run_clear7 W1 ty g (m*7) 1 (cap - m) (by omega) (fun j hj=>by
   rw [cell_of_row W1 g _ _ _ _ hb1',Array.getElem?_eq_getElem (by rw [hs1];omega)];rfl) (fun j hj=>frozen_of_row W1 g _ _ _ hb1')
 have HF:=hid (HRE.out _ m (css.eraseIdx k) (b.eraseIdx k) cur2 (grown_trans hg1 hg2) hc2 (by omega) (by rw [ht2,ht1]) (by omega) (by rw [List.length_eraseIdx];split <;> omega) (by rw [List.length_eraseIdx];split <;> omega) (by omega) (fun j cs x h1 h2=>by
  rw [List.getElem?_eraseIdx] at h1 h2
  split at h1
  ·rename_i hj
   rw [if_pos hj] at h2
   exact ⟨j,h1,h2⟩
  ·rename_i hj
   rw [if_neg hj] at h2
   exact ⟨j+1,h1,h2⟩))
 have HG:=hid (grown_trans hg1 hg2)
 have HW1:=hid hW1
 have HM:=hid (show z - 1=m by omega)
 rw [HW1.out]
 clear hb1' hg1 hs1 ht1 hc2 hs2 ht2 hg2 hW1 hcur1 hm HCUR HRE HTK HNW HNL HN1 HH7 hsrc hA
 go_wp2_with fail
 go_ret
 exact ⟨by rw [HM.out];rfl,by rw [HM.out];exact HF.out,HG.out⟩
theorem OwnS.cut {ex:List Nat} {B g z cap k:Nat} {w:World} {u:Value} {l:List Queue} {b:List Book} (h:OwnS ex B w u (.slice (some ⟨g,0,none⟩) z cap) l b) (hz:b.length=z) (hk:k < z) (h12:z≤12) :
  ∃ (cur:Array Value) (news:List Value) (A:Addr),w.heap[g]?=some (.cells cur 43 (0,0))∧cur.size=cap*7∧z≤cap∧(if cap=k+1 then some (⟨g,0,none⟩:Addr) else some ⟨g,(k+1)*7,none⟩)=some A∧news.length=(z - (k+1))*7 ∧
   (∀ (j:Nat) v,news[j]?=some v→w.cell? (A.add j)=some v)∧(∀ v∈news,v.oneCell'=true) ∧
   OwnS ex B (w.setRow g (cur.toList.take (k*7)++news++cur.toList.drop (k*7+(z - (k+1))*7)).toArray) u (.slice (some ⟨g,0,none⟩) (z - 1) cap) l (b.eraseIdx k) ∧
   w.grownBy (w.setRow g (cur.toList.take (k*7)++news++cur.toList.drop (k*7+(z - (k+1))*7)).toArray) (some g):=by
 obtain ⟨css,cur,hcur,hcs,htk,hlen,h7,h1,hzc,hcm,hgB,hbc,hre⟩:=h.rerow hz
 obtain ⟨news,hnews⟩:∃ news,news=(css.drop (k+1)).flatten:=⟨_,rfl⟩
 have hnl:news.length=(z - (k+1))*7:=by rw [hnews,flat7_len _ (fun cs hm=>h7 cs (List.mem_of_mem_drop hm)),List.length_drop,hlen]
 have hcell:∀ (j:Nat) v,j < z*7→css.flatten[j]?=some v→w.cell? ⟨g,j,none⟩=some v:=fun j v hj hv=>row_cell hcur (by rw [← htk,List.getElem?_take_of_lt hj] at hv;exact hv)
 obtain ⟨A,hA,hsrc⟩:∃ A:Addr,(if cap=k+1 then some (⟨g,0,none⟩:Addr) else some ⟨g,(k+1)*7,none⟩)=some A∧(∀ (j:Nat) v,news[j]?=some v→w.cell? (A.add j)=some v):=by
  by_cases hc:cap=k+1
  ·refine ⟨⟨g,0,none⟩,by simp [hc],fun j v hv=>?_⟩
   have h0:news.length=0:=by rw [hnl];omega
   rw [List.length_eq_zero_iff.1 h0] at hv
   simp at hv
  ·refine ⟨⟨g,(k+1)*7,none⟩,by simp [hc],fun j v hv=>?_⟩
   have hjl:j < (z - (k+1))*7:=by rw [← hnl];exact (List.getElem?_eq_some_iff.1 hv).1
   rw [addr7]
   refine hcell _ v (by omega) ?_
   rw [hnews,← flat7_drop css h7,List.getElem?_drop] at hv
   exact hv
 have hg:=grown_srow w g (cur.toList.take (k*7)++news++cur.toList.drop (k*7+(z - (k+1))*7)).toArray
 refine ⟨cur,news,A,hcur,hcs,hzc,hA,hnl,hsrc,fun v hv=>?_,?_,hg⟩
 ·rw [hnews,← flat7_drop css h7] at hv
  exact h1 v (List.mem_of_mem_drop hv)
 ·refine hre _ (z - 1) (css.eraseIdx k) (b.eraseIdx k) _ hg (setRow_heap w g cur _ _ _ hcur) ?_ ?_ (by omega) (by rw [List.length_eraseIdx];split <;> omega) (by rw [List.length_eraseIdx];split <;> omega) (by omega) (fun j cs x h1 h2=>?_)
  ·simp only [List.size_toArray,List.length_append,List.length_take,List.length_drop,Array.length_toList,hnl,hcs]
   omega
  ·rw [List.eraseIdx_eq_take_drop_succ,List.flatten_append,← hnews]
   have e1:cur.toList.take (k*7)=(css.take k).flatten:=by
    rw [← flat7_take css h7 k,← htk,List.take_take,show min (k*7) (z*7)=k*7 by omega]
   have e2:(cur.toList.take (k*7)++news).length=(z - 1)*7:=by rw [List.length_append,List.length_take,Array.length_toList,hnl,hcs];omega
   rw [← e1,← e2]
   exact List.take_left
  ·rw [List.getElem?_eraseIdx] at h1 h2
   split at h1
   ·rename_i hj
    rw [if_pos hj] at h2
    exact ⟨j,h1,h2⟩
   ·rename_i hj
    rw [if_neg hj] at h2
    exact ⟨j+1,h1,h2⟩
def keptP (css:List (List Value)) (b:List Book) (p:Book→Bool) (j:Nat):List (List Value × Book):=((css.zip b).take j).filter fun q=>!p q.2
def keptC (css:List (List Value)) (b:List Book) (p:Book→Bool) (j:Nat):List (List Value):=(keptP css b p j).map Prod.fst
theorem keptC_succ {css:List (List Value)} {b:List Book} {p:Book→Bool} {j:Nat} {cs:List Value} {x:Book} (h1:css[j]?=some cs) (h2:b[j]?=some x):keptC css b p (j+1)=if p x=true then keptC css b p j else keptC css b p j++[cs]:=by
 have hz:(css.zip b)[j]?=some (cs,x):=by rw [List.getElem?_zip_eq_some];exact ⟨h1,h2⟩
 unfold keptC keptP
 rw [List.take_add_one,hz,List.filter_append,List.map_append]
 by_cases hp:p x=true
 ·rw [if_pos hp];simp [hp]
 ·rw [if_neg hp];simp [hp]
structure DelAt (w:World) (g cap:Nat) (cur0:Array Value) (css:List (List Value)) (b:List Book) (p:Book→Bool) (j:Nat) (W:World):Prop where
 grown:w.grownBy W (some g)
 row:∃ cur:Array Value,W.heap[g]?=some (.cells cur 43 (0,0))∧cur.size=cap*7∧cur.toList.take ((keptC css b p j).length*7)=(keptC css b p j).flatten∧∀ m,j*7≤m→cur.toList[m]?=cur0.toList[m]?
 less:(keptC css b p j).length+1≤j
theorem setCells_mid {g:Nat} {T:TypeId}:∀ (vs:List Value) (o:Nat) (W:World) (cur:Array Value),W.heap[g]?=some (.cells cur T (0,0))→o+vs.length≤cur.size →
  ∃ cur',(W.setCells g o vs).heap[g]?=some (.cells cur' T (0,0))∧cur'.size=cur.size∧cur'.toList.take (o+vs.length)=cur.toList.take o++vs∧∀ m,o+vs.length≤m→cur'.toList[m]?=cur.toList[m]?
 | [],o,W,cur,h,_=>⟨cur,h,rfl,by simp,fun m _=>rfl⟩
 | v::vs,o,W,cur,h,ho=>by
  simp only [List.length_cons] at ho
  obtain ⟨cur',h1,h2,h3,h4⟩:=setCells_mid vs (o+1) (W.setCell ⟨g,o,none⟩ v) _ (heap_setCell_same W g o cur T v h) (by rw [Array.size_setIfInBounds];omega)
  refine ⟨cur',h1,by simpa using h2,?_,fun m hm=>?_⟩
  ·rw [List.length_cons,show o+(vs.length+1)=o+1+vs.length by omega,h3,Array.toList_setIfInBounds,List.take_add_one,List.take_set_of_le (Nat.le_refl _),List.getElem?_set_self (by rw [Array.length_toList];omega)]
   simp
  ·simp only [List.length_cons] at hm
   rw [h4 m (by omega),Array.toList_setIfInBounds,List.getElem?_set_ne (by omega)]
theorem grown_setCells (W:World) (g:Nat):∀ (vs:List Value) (o:Nat),W.grownBy (W.setCells g o vs) (some g):=fun vs=>by
 induction vs generalizing W with
 | nil=>exact fun o=>grown_of_ext (Ext.rf W)
 | cons v vs ih=>exact fun o=>grown_trans (grown_set W g o v) (ih _ (o+1))
theorem DelAt.keep {w W W':World} {g cap j:Nat} {cur0:Array Value} {css:List (List Value)} {b:List Book} {p:Book→Bool} {cs:List Value} {x:Book} (h:DelAt w g cap cur0 css b p j W) (hx:Ext W W') (h1:css[j]?=some cs) (h2:b[j]?=some x) (hp:p x=true):DelAt w g cap cur0 css b p (j+1) W':=by
 obtain ⟨cur,r1,r2,r3,r4⟩:=h.row
 have e:keptC css b p (j+1)=keptC css b p j:=by rw [keptC_succ h1 h2,if_pos hp]
 exact ⟨grown_trans h.grown (grown_of_ext hx),⟨cur,(hx.block g (Array.getElem?_eq_some_iff.1 r1).1).trans r1,r2,by rw [e];exact r3,fun m hm=>r4 m (by omega)⟩,by rw [e];have:=h.less;omega⟩
theorem without_any (w:World) (tv bv:Value) (s:State) (k:Nat) (hl:QueuesV w tv s.Tree) (hb:BooksV w bv s.Books) (ok:TreeOk s.Tree) (h12:s.Books.length≤12) (hok:∀ x∈s.Books,BookOk s.Tree x) (hk:k < s.Books.length) :
  Calls Tryz.prog 58 #[.agg #[.int .i64 s.Clock,.int .i64 s.Next,tv,bv],.int .i64 (k:Int)] w fun e w'=>∃ u v,e=.returned (.agg #[.int .i64 s.Clock,.int .i64 s.Next,u,v])∧OwnS [] w.heap.size w' u v s.Tree (s.Books.eraseIdx k)∧Ext w w'∧∃ g cap,v=.slice (some ⟨g,0,none⟩) (s.Books.eraseIdx k).length cap:=by
 obtain ⟨wb,hwb,HX,HSS,HZZ,hszb⟩:=two_boxes2 w s tv bv
 have HX0:=hid HX
 have HS0:=hid HSS
 have HZ0:=hid HZZ
 have HWB:=hid hwb
 have HSB:=hid hszb
 have OW:=hid (fun (W:World) (h:Ext w W)=>OwnState_any W tv bv s (hl.mono h) (hb.mono h) ok h12 hok)
 obtain ⟨a0,a1,a2,a3⟩:=HSS wb (Ext.rf wb)
 clear HX HSS HZZ hwb hszb
 obtain ⟨qa,qc,rfl,_,_,_⟩:=hl.form
 obtain ⟨ba,bc,rfl,_,_,_⟩:=hb.form
 clear hl hb ok hok
 generalize hqn:s.Tree.length=n at *
 generalize hbz:s.Books.length=z at *
 have HQN:=hid hqn
 have HBZ:=hid hbz
 clear hqn hbz
 go_enter Tryz.func58,Tryz.ntmps58
 go_wp2_with fail
 rw [HWB.out]
 refine (OW.out _ HX0.out).mono ?_
 rintro e w7 ⟨u7,v7,rfl,hO7,hx7⟩
 clear a0 a1 a2 a3
 obtain ⟨gq,qcp,rfl,hgB,hgs⟩:=hO7.uform
 obtain ⟨gb,rc,rfl,hbB,hbs⟩:=hO7.vsome (by rw [HBZ.out];omega)
 rw [HBZ.out] at hO7 ⊢
 rw [HQN.out] at hO7 ⊢
 have HX7:=hid (HX0.out.tr hx7)
 have HGQ:=hid (And.intro (And.intro hgB hgs) (And.intro hbB hbs))
 obtain ⟨W8,hW8⟩:∃ W8,(w7.alloc (.cells #[.int .i64 0,.int .i64 0,.slice none 0 0,.slice none 0 0] 25)).setRow w7.heap.size #[.int .i64 s.Clock,.int .i64 s.Next,.slice (some ⟨gq,0,none⟩) n qcp,.slice (some ⟨gb,0,none⟩) z rc]=W8:=⟨_,rfl⟩
 have hx8:Ext w7 W8:=hW8▸((Ext.rf w7).al _).sr (b:=w7.heap.size) (Nat.le_refl _) _
 have hb8:W8.heap[w7.heap.size]?=some (.cells #[.int .i64 s.Clock,.int .i64 s.Next,.slice (some ⟨gq,0,none⟩) n qcp,.slice (some ⟨gb,0,none⟩) z rc] 25 (0,0)):=hW8▸setRow_heap (w7.alloc _) w7.heap.size _ _ _ _ (heap_alloc_new w7 _)
 have hO8:=(((hO7.under (r:=w.heap.size+1) (by have:=HSB.out;omega)).low (B2:=w.heap.size) HX0.out.size (fun r hr=>hr)).box (Nat.le_refl _)).ext (hx8.tr (Ext.rf W8).dr)
 obtain ⟨cur,news,A,q1,q2,q3,q4,q5,q6,q7,q8,q9⟩:=hO8.cut HBZ.out hk h12
 obtain ⟨ib,ib1,ib2,ib3,ib4⟩:=info_parts Tryz.info43
 have hkc:k≤rc:=by omega
 have hkz:k≤z:=by omega
 have hb1:(0:Int)≤(k:Int)+1:=by omega
 have hb2:(k:Int)+1≤(z:Int):=by omega
 have hwr:IntKind.i64.wrap ((k:Int)+1)=(k:Int)+1:=by rw [IntKind.wrap_i64];omega
 have HQ1:=hid q1
 have HQ5:=hid q5
 have HQ6:=hid q6
 have HQ7:=hid q7
 have HQ8:=hid q8
 have HQ9:=hid q9
 have HW8:=hid hW8
 have HX8:=hid (HX7.out.tr hx8)
 have HXB8:=hid (hx7.tr hx8)
 have HB8:=hid hb8
 have HS8:=hid (show w7.heap.size < W8.heap.size from (Array.getElem?_eq_some_iff.1 hb8).1)
 have e3:W8.cell? ⟨w7.heap.size,3,none⟩=some (.slice (some ⟨gb,0,none⟩) z rc):=cell_of_row _ _ 3 _ _ _ hb8
 have hgx:gb≠w7.heap.size:=by omega
 clear hx7 hx8 hb8 hW8 hO7 hO8 hgB hgs hbB hbs q1 q5 q6 q7 q8 q9
 go_wp2_with (refine wpList_store_row rfl 25 _ _ rfl w7.heap.size #[.int .i64 s.Clock,.int .i64 s.Next,.slice (some ⟨gq,0,none⟩) n qcp,.slice (some ⟨gb,0,none⟩) z rc] rfl rfl 25 _ (heap_alloc_new w7 _) Tryz.size25 rfl (by simp [Value.oneCell']) ?_;rw [HW8.out])
 refine wp_region_tail 11 (fun W=>W.cell? ⟨w7.heap.size,3,none⟩=some (.slice (some ⟨gb,0,none⟩) z rc)) (by kernel_rfl) e3 (fun hHeld=>?_)
 refine wpAnyT_take (i:=0) (v:=?_) rfl (by kernel_rfl) (fun _ _ _ h=>h) (Or.inl ⟨by rfl,?_⟩) (by assumption) ?_
 rotate_left
 ·intro W hSW
  simp only [zA,zB]
  (try dsimp only at hSW)
  go_simp
  (try with_reducible rfl)
 simp only [zA,zB,Act.put,zD,zE,zF]
 refine wpAnyT_take (i:=1) (v:=?_) rfl (by kernel_rfl) (fun _ _ _ h=>h) (Or.inl ⟨by rfl,?_⟩) (by assumption) ?_
 rotate_left
 ·intro W hSW
  simp only [zA,zB,zC]
  (try dsimp only at hSW)
  go_simp
  (try with_reducible rfl)
 simp only [zA,zB,zC,Act.put,zD,zE,zF]
 refine wpAnyT_take (i:=2) (v:=?_) rfl (by kernel_rfl) (fun _ _ _ h=>h) (Or.inl ⟨by rfl,?_⟩) (by assumption) ?_
 rotate_left
 ·intro W hSW
  simp only [zA,zB,zC]
  (try dsimp only at hSW)
  go_simp
  (try with_reducible rfl)
 simp only [zA,zB,zC,Act.put,zD,zE,zF]
 refine wpAnyT_take (i:=3) (v:=?_) rfl (by kernel_rfl) (fun _ _ _ h=>h) (Or.inl ⟨by rfl,?_⟩) (by assumption) ?_
 rotate_left
 ·intro W hSW
  simp only [zA,zB,zC]
  (try dsimp only at hSW)
  go_simp
  (try with_reducible rfl)
 simp only [zA,zB,zC,Act.put,zD,zE,zF]
 refine wpAnyT_take (i:=4) (v:=?_) rfl (by kernel_rfl) (fun _ _ _ h=>h) (Or.inl ⟨by rfl,?_⟩) (by assumption) ?_
 rotate_left
 ·intro W hSW
  simp only [zA,zB,zC]
  (try dsimp only at hSW)
  go_simp
  (try with_reducible rfl)
 simp only [zA,zB,zC,Act.put,zD,zE,zF]
 refine wpAnyT_take (i:=5) (v:=?_) rfl (by kernel_rfl) (fun _ _ _ h=>h) (Or.inl ⟨by rfl,?_⟩) (by assumption) ?_
 rotate_left
 ·intro W hSW
  simp only [zA,zB,zC]
  (try dsimp only at hSW)
  go_simp
  (try with_reducible rfl)
 simp only [zA,zB,zC,Act.put,zD,zE,zF]
 refine wpAnyT_take (i:=6) (v:=?_) rfl (by kernel_rfl) (fun _ _ _ h=>h) (Or.inl ⟨by rfl,?_⟩) (by assumption) ?_
 rotate_left
 ·intro W hSW
  simp only [zA,zB,zC]
  (try dsimp only at hSW)
  go_simp
  (try with_reducible rfl)
 simp only [zA,zB,zC,Act.put,zD,zE,zF]
 refine wpAnyT_take (i:=7) (v:=?_) rfl (by kernel_rfl) (fun _ _ _ h=>h) (Or.inl ⟨by rfl,?_⟩) (by assumption) ?_
 rotate_left
 ·intro W hSW
  simp only [zA,zB,zC]
  (try dsimp only at hSW)
  go_simp
  (try with_reducible rfl)
 simp only [zA,zB,zC,Act.put,zD,zE,zF]
 refine wpAnyT_take (i:=8) (v:=?_) rfl (by kernel_rfl) (fun _ _ _ h=>h) (Or.inl ⟨by rfl,?_⟩) (by assumption) ?_
 rotate_left
 ·intro W hSW
  simp only [zA,zB,zC]
  (try dsimp only at hSW)
  go_simp
  (try with_reducible rfl)
 simp only [zA,zB,zC,Act.put,zD,zE,zF]
 refine wpAnyT_go (i:=9) (by kernel_rfl) rfl (fun K hK=>?_)
 simp only [zA,zB,zC]
 rw [if_pos (by rfl)]
 refine wp_append_row _ _ _ (by rfl) 43 ib Tryz.underlying23 ib1 gb k rc cur HQ1.out (by rfl) A (z - (k+1)) (rc - (k+1)) news (by rfl) (by rw [HQ5.out,ib3]) HQ6.out HQ7.out (by omega) (by rw [HQ5.out,ib3,q2];omega) ?_
 rw [ib3,HQ5.out]
 obtain ⟨m,hm⟩:∃ m,k+(z - (k+1))=m:=⟨_,rfl⟩
 rw [hm]
 have HM:=hid (show z - 1=m by omega)
 obtain ⟨W9,hW9⟩:∃ W9,W8.drew.setRow gb (cur.toList.take (k*7)++news++cur.toList.drop (k*7+(z - (k+1))*7)).toArray=W9:=⟨_,rfl⟩
 have hg9:W8.grownBy W9 (some gb):=hW9▸grown_trans (grown_of_ext (Ext.rf W8).dr) HQ9.out
 have hO9:=hW9▸HQ8.out
 rw [HM.out] at hO9
 rw [hW9]
 have hb9:W9.heap[w7.heap.size]?=some (.cells #[.int .i64 s.Clock,.int .i64 s.Next,.slice (some ⟨gq,0,none⟩) n qcp,.slice (some ⟨gb,0,none⟩) z rc] 25 (0,0)):=(hg9.block _ HS8.out (fun e=>hgx (Option.some.inj e).symm)).trans HB8.out
 refine hK.out _ _ ?_ (fun hHeld=>?_)
 ·(exact cell_of_row _ _ 3 _ _ _ hb9)
 clear hK K
 have f3:=frozen_of_row W9 w7.heap.size 3 _ _ hb9
 refine wpAnyT_take (i:=10) (v:=?_) rfl (by kernel_rfl) (fun _ _ _ h=>h) (Or.inl ⟨by rfl,?_⟩) (by assumption) ?_
 rotate_left
 ·intro W hSW
  simp only [zA,zB,zC]
  (try dsimp only at hSW)
  go_simp
  (try with_reducible rfl)
 simp only [zA,zB,zC,Act.put,zD,zE,zF]
 refine wpAnyT_last (t:=11) (by kernel_rfl) rfl (by kernel_rfl) (fun K hK=>?_)
 simp only [zA,zB,zC]
 go_simp
 refine hK.out _ _ ?_
 clear hK K
 obtain ⟨W10,hW10⟩:∃ W10,W9.setCell ⟨w7.heap.size,3,none⟩ (.slice (some ⟨gb,0,none⟩) m rc)=W10:=⟨_,rfl⟩
 rw [hW10]
 have hb10:W10.heap[w7.heap.size]?=some (.cells #[.int .i64 s.Clock,.int .i64 s.Next,.slice (some ⟨gq,0,none⟩) n qcp,.slice (some ⟨gb,0,none⟩) m rc] 25 (0,0)):=hW10▸heap_setCell_same W9 w7.heap.size 3 _ _ _ hb9
 have hO10:=hW10▸hO9.kept (grown_set W9 w7.heap.size 3 (.slice (some ⟨gb,0,none⟩) m rc)) (List.mem_cons_self ..)
 have hX10:Ext w W10:=hW10▸(HX8.out.gr (v:=.slice (some ⟨gb,0,none⟩) z rc) hg9 (fun k hk=>by have e2:=Option.some.inj hk;have:=HGQ.out;have:=HX0.out.size;simp at e2;omega)).se (b:=w7.heap.size) (o:=3) (by have:=HX7.out.size;omega) _
 have hz10:W10.heap[w.heap.size+1]?=some (.cells #[.int .i64 0,.int .i64 0,.slice none 0 0,.slice none 0 0] 25 (0,0)):=by
  have h1:=HZ0.out W8 HXB8.out
  have hsb:=HSB.out
  have hgq:=HGQ.out
  rw [← hW10,heap_setCell_other W9 ⟨w7.heap.size,3,none⟩ _ _ (by show w.heap.size+1≠w7.heap.size;omega),hg9.block _ (by have:=HS8.out;omega) (fun e=>by have e2:=Option.some.inj e;omega)]
  exact h1
 have d0:W10.cell? ⟨w7.heap.size,0,none⟩=some (.int .i64 s.Clock):=cell_of_row _ _ 0 _ _ _ hb10
 have d1:W10.cell? ⟨w7.heap.size,1,none⟩=some (.int .i64 s.Next):=cell_of_row _ _ 1 _ _ _ hb10
 have d2:W10.cell? ⟨w7.heap.size,2,none⟩=some (.slice (some ⟨gq,0,none⟩) n qcp):=cell_of_row _ _ 2 _ _ _ hb10
 have d3:W10.cell? ⟨w7.heap.size,3,none⟩=some (.slice (some ⟨gb,0,none⟩) m rc):=cell_of_row _ _ 3 _ _ _ hb10
 have HO11:=hid ((hO10.kept (grown_srow W10 (w.heap.size+1) #[.int .i64 s.Clock,.int .i64 s.Next,.slice (some ⟨gq,0,none⟩) n qcp,.slice (some ⟨gb,0,none⟩) m rc]) (by simp)).low (ex2:=[]) (Nat.le_refl _) (fun r hr=>by cases hr))
 have HX11:=hid (hX10.sr (b:=w.heap.size+1) (by omega) #[.int .i64 s.Clock,.int .i64 s.Next,.slice (some ⟨gq,0,none⟩) n qcp,.slice (some ⟨gb,0,none⟩) m rc])
 have HR11:=hid (setRow_heap W10 (w.heap.size+1) _ #[.int .i64 s.Clock,.int .i64 s.Next,.slice (some ⟨gq,0,none⟩) n qcp,.slice (some ⟨gb,0,none⟩) m rc] _ _ hz10)
 have HZ10:=hid hz10
 clear hO9 hg9 hb9 hW10 hb10 hO10 hX10 hz10 hW9 hm
 go_wp2_with (refine wpList_store_row rfl 25 _ _ rfl (w.heap.size+1) #[.int .i64 s.Clock,.int .i64 s.Next,.slice (some ⟨gq,0,none⟩) n qcp,.slice (some ⟨gb,0,none⟩) m rc] rfl rfl 25 _ HZ10.out Tryz.size25 rfl (by simp [Value.oneCell']) ?_)
 exact bodyPost_ret (results_cell_row rfl _ _ (w.heap.size+1) 25 #[.int .i64 s.Clock,.int .i64 s.Next,.slice (some ⟨gq,0,none⟩) n qcp,.slice (some ⟨gb,0,none⟩) m rc] (0,0) _ rfl HR11.out Tryz.underlying25 rfl Tryz.size25) rfl ⟨_,_,rfl,HO11.out,HX11.out,gb,rc,by rw [List.length_eraseIdx_of_lt (by rw [HBZ.out];exact hk),HBZ.out,HM.out]⟩
end Go.Proofs.YtncaoclhlfkdoaaGreat
