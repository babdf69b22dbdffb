/- back: a book is put in again; each theorem names its own conditions. -/
import Derived.Test.YtdcndkojmflhnaaGreatPCutD
import Derived.Shelf.Spec.SlicesInsert
/- slices.IndexFunc, slices.ContainsFunc at slices of bites. -/
set_option linter.unusedVariables false
set_option maxRecDepth 100000
set_option maxHeartbeats 8000000
set_option linter.unusedSimpArgs false
set_option linter.unusedVariables false
namespace Go.Proofs.YtdcndkojmflhnaaGreat
open Go.RowKit
open List renaming getElem_toArray→zA,getElem_cons_zero→zB,getElem_cons_succ→zC,setIfInBounds_toArray→zD,set_cons_zero→zE,set_cons_succ→zF
theorem IndexFunc_Bite (w:World) (b off cap:Nat) (f:List Bite) (G:Nat) (lb:Array Value) (p:Bite→Bool) (hl:f.length≤17592186044416) (hb:b < w.heap.size) (hE:∀ k x,f[k]?=some x→EBite w b (off+k*2) x)
  (heg:∀ (args:Array Value) (w:World),(callFunc G args).run Tryz.prog w=.ok (.enter G args) w)
  (hp:∀ (k:Nat) (x:Bite),f[k]?=some x→∀ W,Ext w W→Calls Tryz.prog G (#[.agg #[.int .i64 x.Piece,.int .i64 x.At]]++lb) W fun e w'=>e=.returned (.bool (p x))∧Ext W w') :
  Calls Tryz.prog 178 #[.slice (some ⟨b,off,none⟩) f.length cap,.func (.func G) #[] lb] w fun e w'=>e=.returned (.int .i64 (idxOf p f))∧Ext w w':=by
 have HE:=hid hE
 have Hp:=hid hp
 clear hE hp
 generalize hn:f.length=n at *
 have Hn:=hid hn
 clear hn
 go_enter Tryz.func178,Tryz.ntmps178
 go_wp2_with fail
 go_loopw [8] (fun i wr=>∃ k:Nat,k≤n∧i=.int .i64 k∧Hid (∀ j y,j < k→f[j]?=some y→p y=false)∧Ext w wr) (fun i _=>n - (intOf i).toNat)
 case atStart=>exact ⟨0,Nat.zero_le _,rfl,fun j y hj=>absurd hj (Nat.not_lt_zero _),Ext.rf _⟩
 case round =>
  obtain ⟨k,hk,rfl,Hall,hx⟩:=hrel
  have hbw:b < wr.heap.size:=Nat.lt_of_lt_of_le hb hx.size
  by_cases hlt:k < n
  ·obtain ⟨x,hxk⟩:=getA (f:=f) (k:=k) (by rw [Hn.out];exact hlt)
   obtain ⟨c1,c2,c3,c4⟩:=HE.out k x hxk
   replace c1:=hx.ce' c1
   replace c2:=hx.ce' c2
   have hc:=Hp.out k x hxk wr hx
   have Hc:=hid hc
   have Hx:=hid hxk
   clear hc hxk
   cases hpx:p x with
   | true =>
    rw [hpx] at Hc
    have Hpx:=hid hpx
    clear hpx
    go_wp2_with fail
    refine Hc.out.mono ?_
    rintro e w1 ⟨rfl,hx1⟩
    go_wp2_with fail
    go_ret
    exact ⟨ret_int (idxOf_at Hx.out Hpx.out Hall.out).symm,hx.tr hx1⟩
   | false =>
    rw [hpx] at Hc
    have Hpx:=hid hpx
    clear hpx
    go_wp2_with fail
    refine Hc.out.mono ?_
    rintro e w1 ⟨rfl,hx1⟩
    go_wp2_with fail
    go_roundw
    case rel=>exact ⟨k+1,by omega,by go_num,hall_snoc Hx.out Hpx.out Hall.out,hx.tr hx1⟩
    case measure=>simp [intOf];omega
  ·obtain rfl:k=n:=by omega
   go_wp2_with fail
   go_ret
   exact ⟨ret_int (idxOf_none (fun j y hj hy=>Hall.out j y (by rw [Hn.out] at hj;exact hj) hy)).symm,hx⟩
theorem ContainsFunc_Bite (w:World) (v:Value) (f:List Bite) (G:Nat) (lb:Array Value) (p:Bite→Bool) (hv:BitesV w v f)
  (heg:∀ (args:Array Value) (w:World),(callFunc G args).run Tryz.prog w=.ok (.enter G args) w)
  (hp:∀ (k:Nat) (x:Bite),f[k]?=some x→∀ W,Ext w W→Calls Tryz.prog G (#[.agg #[.int .i64 x.Piece,.int .i64 x.At]]++lb) W fun e w'=>e=.returned (.bool (p x))∧Ext W w') :
  Calls Tryz.prog 144 #[v,.func (.func G) #[] lb] w fun e w'=>e=.returned (.bool (f.any p))∧Ext w w':=by
 rcases hv with ⟨rfl,a0,c0,rfl,hc0⟩ | ⟨b,off,cap,rfl,h1,h2,h3,h4,h5⟩
 ·go_enter Tryz.func144,Tryz.ntmps144
  go_wp2
  go_loopw [8] (fun i wr=>i=.int .i64 0∧wr=w) (fun i _=>0)
  case atStart=>exact ⟨rfl,rfl⟩
  case round =>
   obtain ⟨rfl,rfl⟩:=hrel
   go_wp2
   go_ret
   exact ⟨rfl,Ext.rf _⟩
 ·have hi:=IndexFunc_Bite w b off cap f G lb p h3 h4 h5 heg hp
  have Hi:=hid hi
  have ha:=hid (idxOf_any p f)
  clear hi hp h5
  generalize idxOf p f=q at *
  generalize hn:f.length=n at *
  clear hn
  generalize f.any p=r at *
  go_enter Tryz.func144,Tryz.ntmps144
  go_wp2_with fail
  refine Hi.out.mono ?_
  rintro e w1 ⟨rfl,hx1⟩
  go_wp2_with fail
  go_ret
  exact ⟨ret_bool ha.out,hx1⟩
theorem early_any (W:World) (x:Bite) (N X:Nat) (c:Int) (hN:W.cell? ⟨N,0,none⟩=some (.pointer (some ⟨X,0,none⟩))) (hX:W.cell? ⟨X,0,none⟩=some (.int .i64 c)) :
  Calls Tryz.prog 145 #[.agg #[.int .i64 x.Piece,.int .i64 x.At],.pointer (some ⟨N,0,none⟩)] W fun e w'=>e=.returned (.bool (decide (x.At < c)))∧Ext W w':=by
 have hx:=(Ext.rf W).al (.cells #[.int .i64 x.Piece,.int .i64 x.At] 42)
 have k0:=hx.ce' hN
 have k1:=hx.ce' hX
 have HX:=hid hx
 clear hx hN hX
 go_enter Tryz.func145,Tryz.ntmps145
 go_wp2_with fail
 go_quiet (fail)
 go_wp2_with fail
 go_ret
 exact ⟨rfl,HX.out.dn _⟩
theorem OwnS.rowI {ex:List Nat} {B g z cap i:Nat} {W:World} {u:Value} {l:List Queue} {b:List Book} {x:Book} {cs:List Value} (h:OwnS ex B W u (.slice (some ⟨g,0,none⟩) z cap) l b) (hz:b.length=z) (hi:i≤z) (hz12:z < 12) (hcap:z < cap)
  (hbc:BookC W cs x) (hlx:LiveX x) (hap:∀ s∈cs,∀ a n c,s=.slice (some a) n c→a.block < W.heap.size∧a.block≠g∧B≤a.block∧a.block ∉ ex∧∀ r,u.ownBlock=some r→a.block≠r) :
  ∃ (css:List (List Value)) (cur:Array Value),W.heap[g]?=some (.cells cur 40 (0,0))∧cur.size=cap*7∧cur.toList.take (z*7)=css.flatten∧css.length=z∧(∀ cs∈css,cs.length=7)∧(∀ u∈css.flatten,u.oneCell'=true)∧cap≤maxLen∧B≤g ∧
   ∀ (W':World) (cur':Array Value),W.grownBy W' (some g)→W'.heap[g]?=some (.cells cur' 40 (0,0))→cur'.size=cap*7→cur'.toList.take ((z+1)*7)=(css.take i++cs::css.drop i).flatten →
    OwnS ex B W' u (.slice (some ⟨g,0,none⟩) (z+1) cap) l (b.take i++x::b.drop i):=by
 obtain ⟨gq,qc,rfl,h1,h2,h5,h12,hgB,hs,he,hl,hc,⟨css,o1,o2,o3,o4⟩,hne,hq⟩:=h
 rw [hz] at o1 h12
 rcases o1.2 with ⟨hv,_⟩ | ⟨g',cap',cur,hv,hb,hcur,hnc,hcm,hcs,htk⟩
 ·cases hv
 ·cases hv
  refine ⟨css,cur,hcur,hcs,htk,by rw [o2.len,hz],o2.seven,o2.one,hcm,hb,fun W' cur' hg hcur' hs' ht'=>?_⟩
  have hl7:=bookC_len hbc
  have hlen:css.length=z:=by rw [o2.len,hz]
  have hcl:(css.take i++cs::css.drop i).length=z+1:=by simp only [List.length_append,List.length_take,List.length_cons,List.length_drop];omega
  have hbl:(b.take i++x::b.drop i).length=z+1:=by simp only [List.length_append,List.length_take,List.length_cons,List.length_drop];omega
  have hmem:∀ ds∈css.take i++cs::css.drop i,ds∈css∨ds=cs:=fun ds hd=>by
   rcases List.mem_append.1 hd with h | h
   ·exact .inl (List.mem_of_mem_take h)
   ·rcases List.mem_cons.1 h with h | h
    ·exact .inr h
    ·exact .inl (List.mem_of_mem_drop h)
  have hmemb:∀ y∈b.take i++x::b.drop i,y∈b∨y=x:=fun ds hd=>by
   rcases List.mem_append.1 hd with h | h
   ·exact .inl (List.mem_of_mem_take h)
   ·rcases List.mem_cons.1 h with h | h
    ·exact .inr h
    ·exact .inl (List.mem_of_mem_drop h)
  have h7:∀ ds∈css.take i++cs::css.drop i,ds.length=7:=fun ds hd=>by
   rcases hmem ds hd with h | rfl
   ·exact o2.seven ds h
   ·exact hl7
  have h4:=o4 g rfl
  refine ⟨gq,qc,rfl,h1,h2,h5,by omega,hgB,Nat.lt_of_lt_of_le hs hg.size,he,fun y hy=>?_,hc,⟨css.take i++cs::css.drop i,⟨?_,.inr ⟨g,cap,cur',by rw [hbl],hb,hcur',by omega,hcm,hs',by rw [hbl];exact ht'⟩⟩,⟨by omega,fun k ds y hk hy=>?_⟩,fun ds hd=>?_,fun g' hg' ds hd=>?_⟩,fun r hr=>hne r hr,?_⟩
  ·rcases hmemb y hy with h | rfl
   ·exact hl y h
   ·exact hlx
  ·rw [flat7_len _ h7,hcl,hbl]
  ·rcases Nat.lt_trichotomy k i with h | h | h
   ·rw [List.getElem?_append_left (by simp only [List.length_take];omega),List.getElem?_take_of_lt h] at hk hy
    exact bookC_grown (o2.each k ds y hk hy) hg (h4 ds (List.mem_of_getElem? hk))
   ·subst h
    rw [List.getElem?_append_right (by simp only [List.length_take];omega)] at hk hy
    rw [show k - (css.take k).length=0 by simp only [List.length_take];omega] at hk
    rw [show k - (b.take k).length=0 by simp only [List.length_take];omega] at hy
    cases hk;cases hy
    exact bookC_grown hbc hg (fun s hs a n c e hm=>(hap s hs a n c e).2.1 (List.mem_singleton.1 hm))
   ·rw [List.getElem?_append_right (by simp only [List.length_take];omega)] at hk hy
    rw [show k - (css.take i).length=(k - 1 - i)+1 by simp only [List.length_take];omega,List.getElem?_cons_succ,List.getElem?_drop] at hk
    rw [show k - (b.take i).length=(k - 1 - i)+1 by simp only [List.length_take];omega,List.getElem?_cons_succ,List.getElem?_drop] at hy
    rw [show i+(k - 1 - i)=k - 1 by omega] at hk hy
    exact bookC_grown (o2.each (k - 1) ds y hk hy) hg (h4 ds (List.mem_of_getElem? hk))
  ·rcases hmem ds hd with h | rfl
   ·exact o3 ds h
   ·intro s hs a n c e hm
    obtain ⟨q1,q2,q3,q4,q5⟩:=hap s hs a n c e
    rcases List.mem_cons.1 hm with h | h
    ·exact q5 gq rfl h
    ·rcases List.mem_append.1 h with h | h
     ·exact q4 h
     ·have:=range_lt h;omega
  ·obtain rfl:g=g':=by simpa [Value.ownBlock] using hg'
   rcases hmem ds hd with h | rfl
   ·exact h4 ds h
   ·exact fun s hs a n c e hm=>(hap s hs a n c e).2.1 (List.mem_singleton.1 hm)
  ·exact hq.kept hg (List.mem_append_left _ (List.mem_singleton.2 rfl)) (hne g rfl).1
theorem run_copy_cellsN {P:Program} (w:World) (dT sT ty elem:TypeId) (sz b o dLen dCap:Nat) (a:Addr) (sLen sCap:Nat) (cs:List Value)
  (hu:P.underlying dT=some (.slice elem)) (hs:(P.info? elem).map (·.size)=some sz) (hn:cs.length=Nat.min sLen dLen*sz)
  (hsrc:∀ j v,cs[j]?=some v→w.cell? (a.add j)=some v) (hc:∀ j,j < cs.length→(w.cell? ⟨b,o+j,none⟩).isSome=true) (hf:∀ j,j < cs.length→w.frozen? ⟨b,o+j,none⟩=false) (h1:∀ v∈cs,v.oneCell'=true) :
  (Builtin.copy_ #[dT,sT] ty #[.slice (some ⟨b,o,none⟩) dLen dCap,.slice (some a) sLen sCap]).run P w=.ok (goInt (Nat.min sLen dLen)) (w.setCells b o cs):=by
 have hl:=run_loadCells_list (P:=P) w a cs hsrc
 have hst:=run_storeCells_cells (P:=P) b o cs 0 w (by simpa using hc) (by simpa using hf) h1
 cases hq:P.info? elem with
 | none=>simp [hq] at hs
 | some i =>
  have hi:i.size=sz:=by simpa [hq] using hs
  rw [hn] at hl
  simp [Builtin.copy_,run_underlying hu,Builtin.lenOf,Builtin.firstCells,sizeOf,typeInfo,hq,hi,hl,hst]
theorem wpList_append_row {P:Program} {ops:Array Oper} {rest:List Oper} {o:Oper} {a:Act} {w:World} {Q:Exit→Act→World→Prop} (hgd:o.guard=none) (s x:Operand) (t:TypeId)
  (ho:o.op=.call { callee:=.builtin .append,args:=#[s,x],argTypes:=#[t,t] }) (e:TypeId) (i:TypeInfo) (ht:P.underlying t=some (.slice e)) (hi:P.info? e=some i)
  (g n cap:Nat) (cur:Array Value) (hg:w.heap[g]?=some (.cells cur e (0,0))) (hs:a.eval s=.slice (some ⟨g,0,none⟩) n cap) (ad:Addr) (m c:Nat) (news:List Value) (hx:a.eval x=.slice (some ad) m c)
  (hl:news.length=m*i.size) (hnews:∀ j u,news[j]?=some u→w.cell? (ad.add j)=some u) (h1:∀ u∈news,u.oneCell'=true) (hroom:n+m≤cap) (hfit:n*i.size+news.length≤cur.size)
  (h:wpList P ops Q rest (a.put o.dst (.slice (some ⟨g,0,none⟩) (n+m) cap)) (w.setRow g (cur.toList.take (n*i.size)++news++cur.toList.drop (n*i.size+news.length)).toArray)):wpList P ops Q (o::rest) a w :=
 wpList_plain hgd fun _ hK=>wp_append_row s x t ho e i ht hi g n cap cur hg hs ad m c news hx hl hnews h1 hroom hfit (hK _ _ h)
theorem shape_row {W:World} {b:Nat} {cur:Array Value} {T:TypeId} {fr:Nat × Nat} (h:W.heap[b]?=some (.cells cur T fr)):W.shape? b=some (T,cur.size):=by simp [World.shape?,h]
theorem setCells_two {g i z cap:Nat} {W:World} {cur:Array Value} {css:List (List Value)} {cs:List Value} {T:TypeId} (h:W.heap[g]?=some (.cells cur T (0,0))) (hs:cur.size=cap*7) (ht:cur.toList.take (z*7)=css.flatten) (hl:css.length=z) (h7:∀ cs∈css,cs.length=7) (hc7:cs.length=7) (hi:i≤z) (hz:z < cap) :
  ∃ cur',((W.setCells g ((i+1)*7) (css.drop i).flatten).setCells g (i*7) cs).heap[g]?=some (.cells cur' T (0,0))∧cur'.size=cap*7∧cur'.toList.take ((z+1)*7)=(css.take i++cs::css.drop i).flatten∧W.grownBy ((W.setCells g ((i+1)*7) (css.drop i).flatten).setCells g (i*7) cs) (some g):=by
 have hdl:(css.drop i).flatten.length=(z - i)*7:=by rw [flat7_len _ (fun c hc=>h7 c (List.mem_of_mem_drop hc)),List.length_drop,hl]
 obtain ⟨c1,a1,a2,a3,a4⟩:=setCells_mid (css.drop i).flatten ((i+1)*7) W cur h (by rw [hdl,hs];omega)
 obtain ⟨c2,b1,b2,b3,b4⟩:=setCells_mid cs (i*7) (W.setCells g ((i+1)*7) (css.drop i).flatten) c1 a1 (by rw [hc7,a2,hs];omega)
 refine ⟨c2,b1,by rw [b2,a2,hs],?_,grown_trans (grown_setCells W g _ _) (grown_setCells _ g _ _)⟩
 have e1:(css.take i).flatten=cur.toList.take (i*7):=by
  rw [← flat7_take css h7 i,← ht,List.take_take,show min (i*7) (z*7)=i*7 by omega]
 have e2:c1.toList.take (i*7)=cur.toList.take (i*7):=by
  have:=congrArg (List.take (i*7)) a3
  rw [List.take_take,List.take_append_of_le_length (by rw [List.length_take,Array.length_toList,hs];omega),List.take_take,show min (i*7) ((i+1)*7+(css.drop i).flatten.length)=i*7 by omega,show min (i*7) ((i+1)*7)=i*7 by omega] at this
  exact this
 rw [List.flatten_append,List.flatten_cons,e1]
 refine List.ext_getElem? fun j=>?_
 have hcl:(cur.toList.take (i*7)).length=i*7:=by rw [List.length_take,Array.length_toList,hs];omega
 rcases Nat.lt_or_ge j (i*7+7) with hj | hj
 ·rw [← List.append_assoc,List.getElem?_append_left (by rw [List.length_append,hcl,hc7];exact hj),List.getElem?_take_of_lt (by omega)]
  rw [e2,hc7] at b3
  rw [← b3,List.getElem?_take_of_lt hj]
 ·rw [← List.append_assoc,List.getElem?_append_right (by rw [List.length_append,hcl,hc7];exact hj),List.length_append,hcl,hc7]
  rcases Nat.lt_or_ge j ((z+1)*7) with hjz | hjz
  ·rw [List.getElem?_take_of_lt hjz,b4 j (by rw [hc7];exact hj)]
   have e3:c1.toList[j]?=(c1.toList.take ((i+1)*7+(css.drop i).flatten.length))[j]?:=by rw [List.getElem?_take_of_lt (by rw [hdl];omega)]
   rw [e3,a3,List.getElem?_append_right (by rw [List.length_take,Array.length_toList,hs];omega),List.length_take,Array.length_toList,hs]
   congr 1
   omega
  ·rw [List.getElem?_eq_none (by rw [List.length_take];omega),List.getElem?_eq_none (by rw [hdl];omega)]
theorem Insert_any (ex:List Nat) (B:Nat) (w:World) (u:Value) (g z cap i vb:Nat) (l:List Queue) (b:List Book) (x:Book) (cs:List Value) (h:OwnS ex B w u (.slice (some ⟨g,0,none⟩) z cap) l b) (hz:b.length=z) (hi:i≤z) (hz12:z < 12) (hcap:z < cap)
  (hbc:BookC w cs x) (hlx:LiveX x) (hap:∀ s∈cs,∀ a n c,s=.slice (some a) n c→a.block < w.heap.size∧a.block≠g∧B≤a.block∧a.block ∉ ex∧∀ r,u.ownBlock=some r→a.block≠r) (hc1:∀ v∈cs,v.oneCell'=true)
  (hvb:w.heap[vb]?=some (.cells cs.toArray 40 (0,0))) (hne:vb≠g) :
  Calls Tryz.prog 146 #[.slice (some ⟨g,0,none⟩) z cap,.int .i64 (i:Int),.slice (some ⟨vb,0,none⟩) 1 1] w fun e w' =>
   e=.returned (.slice (some ⟨g,0,none⟩) (z+1) cap)∧OwnS ex B w' u (.slice (some ⟨g,0,none⟩) (z+1) cap) l (b.take i++x::b.drop i)∧w.grownBy w' (some g):=by
 obtain ⟨css,cur,hcur,hcs,htk,hlen,h7,h1,hcm,hgB,hre⟩:=h.rowI hz hi hz12 hcap hbc hlx hap
 obtain ⟨ib,ib1,ib2,ib3,ib4⟩:=info_parts Tryz.info40
 have hc7:=bookC_len hbc
 have hcm':cap≤9223372036854775807:=by unfold maxLen at hcm;omega
 have hnews:∀ (j:Nat) v,cs[j]?=some v→w.cell? ((⟨vb,0,none⟩:Addr).add j)=some v:=fun j v hj=>by
  rw [addr7,Nat.zero_add,cell_of_row w vb j _ _ _ hvb];simpa using hj
 have hb3:¬ (cap=i):=by omega
 rcases Nat.lt_or_ge i z with hiz | hiz
 ·have hne2:¬ ((i:Int)=(z:Int)):=by omega
  have hdl:(css.drop i).flatten.length=(z - i)*7:=by rw [flat7_len _ (fun c hc=>h7 c (List.mem_of_mem_drop hc)),List.length_drop,hlen]
  have hsz:(Tryz.prog.info? 40).map (·.size)=some 7:=by rw [ib1];simp [ib3]
  have hov:∀ lb cb,(callFunc 179 #[.slice (some ⟨vb,0,none⟩) 1 1,.slice (some ⟨g,(i+1)*7,none⟩) lb cb]).run Tryz.prog w=.ok (.value (.bool false)) w:=fun lb cb=>by
   rw [run_callFunc_extern Tryz.func179 (by kernel_rfl) (by kernel_rfl) (by kernel_rfl) (e:=Extern.SlicesOverlaps.overlaps #[23,23] #[4]) (by kernel_rfl),
    Lib.run_overlaps_apart w 23 4 40 Tryz.underlying23 7 Tryz.sizeOfBook ⟨vb,0,none⟩ ⟨g,(i+1)*7,none⟩ 1 1 lb cb hne _ _ _ _ (shape_row hvb) (shape_row hcur) (by rw [hcs];omega) (frozen_of_row w vb 0 _ _ hvb) (frozen_of_row w vb _ _ _ hvb)]
   rfl
  have hcell:∀ (j:Nat) v,j < z*7→css.flatten[j]?=some v→w.cell? ⟨g,j,none⟩=some v:=fun j v hj hv=>row_cell hcur (by rw [← htk,List.getElem?_take_of_lt hj] at hv;exact hv)
  have hcp1:∀ ty dc sc,(Builtin.copy_ #[23,23] ty #[.slice (some ⟨g,(i+1)*7,none⟩) (z - i) dc,.slice (some ⟨g,i*7,none⟩) (z+1 - i) sc]).run Tryz.prog w.drew=.ok (goInt (Nat.min (z+1 - i) (z - i))) (w.drew.setCells g ((i+1)*7) (css.drop i).flatten):=fun ty dc sc =>
   run_copy_cellsN w.drew _ _ ty 40 7 g ((i+1)*7) (z - i) dc ⟨g,i*7,none⟩ (z+1 - i) sc (css.drop i).flatten Tryz.underlying23 hsz (by rw [hdl];congr 1;simp only [Nat.min_def];split <;> omega)
    (fun j v hj=>by
     have hjl:=(List.getElem?_eq_some_iff.1 hj).1
     rw [hdl] at hjl
     rw [addr7]
     refine hcell _ v (by omega) ?_
     rw [← flat7_drop css h7,List.getElem?_drop] at hj
     exact hj)
    (fun j hj=>by
     rw [hdl] at hj
     show (w.cell? ⟨g,(i+1)*7+j,none⟩).isSome=true
     rw [cell_of_row w g _ _ _ _ hcur,getElem?_pos cur _ (by rw [hcs];omega)];rfl)
    (fun j hj=>frozen_of_row w g _ _ _ hcur) (fun v hv=>by rw [← flat7_drop css h7] at hv;exact h1 v (List.mem_of_mem_drop hv))
  obtain ⟨c1,r1,r2,r3,r4⟩:=setCells_two (W:=w.drew) (i:=i) (z:=z) hcur hcs htk hlen h7 hc7 hi hcap
  obtain ⟨W1,hW1⟩:∃ W1,w.drew.setCells g ((i+1)*7) (css.drop i).flatten=W1:=⟨_,rfl⟩
  have hg1:w.drew.grownBy W1 (some g):=hW1▸grown_setCells w.drew g _ _
  have hb1:∃ cu,W1.heap[g]?=some (.cells cu 40 (0,0))∧cu.size=cap*7:=by
   obtain ⟨cu,q1,q2,_⟩:=setCells_mid (css.drop i).flatten ((i+1)*7) w.drew cur hcur (by rw [hdl,hcs];omega)
   rw [hW1] at q1
   exact ⟨cu,q1,q2.trans hcs⟩
  obtain ⟨cu,hcu,hcus⟩:=hb1
  have hvb1:W1.heap[vb]?=some (.cells cs.toArray 40 (0,0)):=(hg1.block vb (Array.getElem?_eq_some_iff.1 hvb).1 (fun e=>hne (Option.some.inj e))).trans hvb
  have hcp2:∀ ty dc,(Builtin.copy_ #[23,23] ty #[.slice (some ⟨g,i*7,none⟩) (z+1 - i) dc,.slice (some ⟨vb,0,none⟩) 1 1]).run Tryz.prog W1=.ok (goInt (Nat.min 1 (z+1 - i))) (W1.setCells g (i*7) cs):=fun ty dc =>
   run_copy_cellsN W1 _ _ ty 40 7 g (i*7) (z+1 - i) dc ⟨vb,0,none⟩ 1 1 cs Tryz.underlying23 hsz (by rw [hc7];simp only [Nat.min_def];split <;> omega)
    (fun j v hj=>by rw [addr7,Nat.zero_add,cell_of_row W1 vb j _ _ _ hvb1];simpa using hj)
    (fun j hj=>by rw [cell_of_row W1 g _ _ _ _ hcu,getElem?_pos cu _ (by rw [hcus];omega)];rfl) (fun j hj=>frozen_of_row W1 g _ _ _ hcu) hc1
  rw [hW1] at hcp1 r1 r4
  have HRE:=hid (hre _ c1 (grown_trans (grown_of_ext (Ext.dr (Ext.rf w))) r4) r1 r2 r3)
  have HG:=hid (grown_trans (grown_of_ext (Ext.dr (Ext.rf w))) r4)
  have HW1:=hid hW1
  have hw1:IntKind.i64.wrap ((i:Int)+1)=(i:Int)+1:=by rw [IntKind.wrap_i64];omega
  have hw2:IntKind.i64.wrap ((z:Int)+1)=(z:Int)+1:=by rw [IntKind.wrap_i64];omega
  have hb1:(0:Int)≤(i:Int)+1:=by omega
  have hb2:¬ (cap=i+1):=by omega
  have hb5:(i:Int)+1≤(z:Int)+1:=by omega
  have hb6:(i:Int)≤(z:Int)+1:=by omega
  have hb7:(z:Int)+1≤(cap:Int):=by omega
  have hb8:¬ ((z:Int)+1 > (cap:Int)):=by omega
  have mixed:Tryz.prog.follows .mixedOrders=true:=by kernel_rfl
  clear h hre hcur htk h1 h7 hvb hnews hbc hap hc1 hW1 hg1 hcu hvb1 r1 r3 r4 hcell
  go_enter Tryz.func146,Tryz.ntmps146
  go_wp2_with (simp only [hov])
  go_region_law_o (refine step_copy_runI rfl _ _ 23 23 rfl _ _ (by simp [Act.eval,Act.put]) (by simp [Act.eval,Act.put]) (hcp1 _ _ _) ?_)
  go_wp2_with (at_builtin;refine wpList_copy_runI _ rfl _ _ 23 23 rfl _ _ rfl rfl (hcp2 _ _) ?_)
  go_ret
  exact ⟨rfl,HRE.out,HG.out⟩
 ·obtain rfl:i=z:=by omega
  have HRE:=hid (hre (w.setRow g (cur.toList.take (i*ib.size)++cs++cur.toList.drop (i*ib.size+cs.length)).toArray) _ (grown_srow w g _) (setRow_heap w g cur _ _ _ hcur) (by simp only [List.size_toArray,List.length_append,List.length_take,List.length_drop,Array.length_toList,hc7,ib3,hcs];omega) (by
   rw [ib3,List.take_of_length_le (l:=css) (by omega),show css.drop i=[] from List.drop_eq_nil_of_le (by omega),List.flatten_append,List.flatten_cons,List.flatten_nil,List.append_nil,← htk,hc7]
   have e:(cur.toList.take (i*7)++cs).length=(i+1)*7:=by rw [List.length_append,List.length_take,Array.length_toList,hcs,hc7];omega
   rw [← e]
   exact List.take_left))
  have HG:=hid (grown_srow w g (cur.toList.take (i*ib.size)++cs++cur.toList.drop (i*ib.size+cs.length)).toArray)
  have HCUR:=hid hcur
  have HNW:=hid hnews
  have HC1:=hid hc1
  have HC7:=hid (show cs.length=1*ib.size by rw [hc7,ib3])
  have HFIT:=hid (show i*ib.size+cs.length≤cur.size by rw [ib3,hc7,hcs];omega)
  have HI4:=hid ib4
  clear h hre hcur htk h1 h7 hvb hnews hbc hap hc1 ib2 ib3 ib4 hc7 hcs
  go_enter Tryz.func146,Tryz.ntmps146
  go_wp2_with (at_builtin;refine wpList_append_row rfl _ _ 23 rfl 40 ib Tryz.underlying23 ib1 g i cap cur HCUR.out rfl ⟨vb,0,none⟩ 1 1 cs rfl HC7.out HNW.out HC1.out (by omega) HFIT.out ?_)
  go_ret
  have h1:=HRE.out
  have h2:=HG.out
  rw [List.append_assoc] at h1 h2
  exact ⟨rfl,h1,h2⟩
end Go.Proofs.YtdcndkojmflhnaaGreat
