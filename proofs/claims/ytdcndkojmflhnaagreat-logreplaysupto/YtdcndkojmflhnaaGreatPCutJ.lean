/- ChangeOf: what its loops keep; each theorem names its own conditions. -/
import Derived.Test.YtdcndkojmflhnaaGreatPCutH
set_option linter.unusedVariables false
set_option linter.unusedSimpArgs false
set_option maxRecDepth 100000
set_option maxHeartbeats 8000000
set_option linter.unusedSimpArgs false
set_option linter.unusedVariables false
namespace Go.Proofs.YtdcndkojmflhnaaGreat
open Go.RowKit
open List renaming getElem_toArray→zA,getElem_cons_zero→zB,getElem_cons_succ→zC,setIfInBounds_toArray→zD,set_cons_zero→zE,set_cons_succ→zF
theorem OwnB.at {bs:List Nat} {base ga n cp k:Nat} {W:World} {a:List Book} {x:Book} (h:OwnB bs base W (.slice (some ⟨ga,0,none⟩) n cp) a) (hk:a[k]?=some x) :
  ∃ pv bv:Value,BCells W ga (k*7) x pv bv∧BookC W [.int .i64 x.Id,.int .i64 x.Req.Queue,.int .i64 x.Req.From,.int .i64 x.Req.Until,.int .i64 x.Req.Kind,pv,bv] x∧(∀ s∈([.int .i64 x.Id,.int .i64 x.Req.Queue,.int .i64 x.Req.From,.int .i64 x.Req.Until,.int .i64 x.Req.Kind,pv,bv]:List Value),ApartL (ga::bs) s)∧W.there ga (k*7) 7:=by
 obtain ⟨css,o1,o2,o3,o4⟩:=h
 have hkl:=(List.getElem?_eq_some_iff.1 hk).1
 rcases o1.2 with ⟨hv,_⟩ | ⟨g',cp',cur,hv,hb,hcur,hnc,hcm,hcs,htk⟩
 ·cases hv
 have hgg:g'=ga∧cp'=cp:=by cases hv;exact ⟨rfl,rfl⟩
 obtain ⟨rfl,rfl⟩:=hgg
 obtain ⟨cs,hcs'⟩:=getA (f:=css) (k:=k) (by rw [o2.len];exact hkl)
 have hbc:=o2.each k cs x hcs' hk
 have hmem:=List.mem_of_getElem? hcs'
 have hcell:∀ (j:Nat) v,j < 7→cs[j]?=some v→W.cell? ⟨g',k*7+j,none⟩=some v:=fun j v hj hv=>by
  refine row_cell hcur ?_
  have e:=flatw (m:=7) (by omega) css o2.seven k j hj
  rw [hcs'] at e
  have e2:css.flatten[k*7+j]?=some v:=by rw [e];exact hv
  rw [← htk,List.getElem?_take] at e2
  split at e2
  ·exact e2
  ·cases e2
 have hap:=o3 cs hmem
 have hap2:=o4 g' rfl cs hmem
 have hbc':=hbc
 obtain ⟨qs,bv,rfl,⟨pv,rfl,_⟩,_⟩:=hbc
 refine ⟨pv,bv,⟨hcell 0 _ (by omega) rfl,hcell 1 _ (by omega) rfl,hcell 2 _ (by omega) rfl,hcell 3 _ (by omega) rfl,hcell 4 _ (by omega) rfl,hcell 5 _ (by omega) rfl,hcell 6 _ (by omega) rfl⟩,hbc',fun s hsm ad n c e hm=>?_,fun j hj=>⟨by rw [cell_of_row W g' _ _ _ _ hcur,Array.getElem?_eq_getElem (by rw [hcs];omega)];rfl,frozen_of_row W g' _ _ _ hcur⟩⟩
 rcases List.mem_cons.1 hm with h | h
 ·exact hap2 s hsm ad n c e (List.mem_singleton.2 h)
 ·exact hap s hsm ad n c e h
theorem OwnB.put {bs:List Nat} {base ga n cp k:Nat} {W:World} {a:List Book} {x:Book} {cs:List Value} (h:OwnB bs base W (.slice (some ⟨ga,0,none⟩) n cp) a) (hk:k < a.length) (hbc:BookC W cs x) (hap:∀ s∈cs,ApartL (ga::bs) s) :
  OwnB bs base (W.setCells ga (k*7) cs) (.slice (some ⟨ga,0,none⟩) n cp) (a.set k x):=by
 obtain ⟨css,o1,o2,o3,o4⟩:=h
 rcases o1.2 with ⟨hv,_⟩ | ⟨g',cp',cur,hv,hb,hcur,hnc,hcm,hcs,htk⟩
 ·cases hv
 have hgg:g'=ga∧cp'=cp∧n=a.length:=by cases hv;exact ⟨rfl,rfl,rfl⟩
 obtain ⟨rfl,rfl,rfl⟩:=hgg
 have h7:=bookC_len hbc
 have hcl:css.length=a.length:=o2.len
 obtain ⟨cur',q1,q2,q3,q4⟩:=setCells_mid cs (k*7) W cur hcur (by rw [h7,hcs];omega)
 rw [h7] at q3 q4
 have hdrop:cur'.toList.drop (k*7+7)=cur.toList.drop (k*7+7):=List.ext_getElem? fun m=>by
  rw [List.getElem?_drop,List.getElem?_drop,q4 _ (by omega)]
 have e1:cur'.toList=cur.toList.take (k*7)++cs++cur.toList.drop (k*7+7):=by
  rw [← q3,← hdrop];exact (List.take_append_drop ..).symm
 have hset:css.set k cs=css.take k++cs::css.drop (k+1):=List.set_eq_take_append_cons_drop .. |>.trans (by rw [if_pos (by omega)])
 have hfl:(css.set k cs).flatten=css.flatten.take (k*7)++(cs++css.flatten.drop ((k+1)*7)):=by
  rw [hset,List.flatten_append,List.flatten_cons,flat7_take css o2.seven,flat7_drop css o2.seven]
 have hg:=grown_setCells W g' cs (k*7)
 have hone:∀ ds∈css,∀ u∈ds,ApartL [g'] u:=o4 g' rfl
 have hmem:∀ ds∈css.set k cs,∀ u∈ds,ApartL bs u∧ApartL [g'] u:=fun ds hd u hu=>by
  rcases List.mem_or_eq_of_mem_set hd with h | h
  ·exact ⟨o3 ds h u hu,hone ds h u hu⟩
  ·subst h
   exact ⟨fun a n c e hm=>hap u hu a n c e (List.mem_cons_of_mem _ hm),fun a n c e hm=>hap u hu a n c e (by rw [List.mem_singleton.1 hm];exact List.mem_cons_self ..)⟩
 refine ⟨css.set k cs,⟨?_,.inr ⟨g',cp',cur',by rw [List.length_set],hb,q1,by rw [List.length_set];exact hnc,hcm,by rw [q2,hcs],?_⟩⟩,⟨by rw [List.length_set,List.length_set,hcl],fun j ds y h1 h2=>?_⟩,fun ds hd u hu=>(hmem ds hd u hu).1,fun g2 hg2 ds hd u hu=>?_⟩
 ·rw [flat7_len _ (fun ds hd=>by
   rcases List.mem_or_eq_of_mem_set hd with h | h
   ·exact o2.seven ds h
   ·rw [h];exact h7),List.length_set,List.length_set,hcl]
 ·rw [List.length_set,hfl,e1,← htk,List.take_take,List.drop_take,show min (k*7) (a.length*7)=k*7 by omega]
  have hA:(cur.toList.take (k*7)).length=k*7:=by rw [List.length_take,Array.length_toList,hcs];omega
  have hB:(cur.toList.take (k*7)++cs).length=k*7+7:=by rw [List.length_append,hA,h7]
  rw [List.take_append,hB,List.take_of_length_le (by rw [hB];omega),List.append_assoc,show (k+1)*7=k*7+7 by omega]
 ·by_cases hj:j=k
  ·subst hj
   rw [List.getElem?_set_self (by omega)] at h1
   rw [List.getElem?_set_self hk] at h2
   cases h1;cases h2
   exact bookC_grown hbc hg (fun u hu=>(hmem cs (List.mem_of_getElem? (by rw [List.getElem?_set_self (by omega)])) u hu).2)
  ·rw [List.getElem?_set_ne (fun h=>hj h.symm)] at h1 h2
   exact bookC_grown (o2.each j ds y h1 h2) hg (hone ds (List.mem_of_getElem? h1))
 ·obtain rfl:g'=g2:=by simpa [Value.ownBlock] using hg2
  exact (hmem ds hd u hu).2
section
variable {w0 W:World} {X gq qc gb cap:Nat} {c nx:Int} {l:List Queue} {b a:List Book} {va:Value}
theorem AwayIn.put {ga n ca k:Nat} {x:Book} {cs:List Value} (h:AwayIn w0 X gq qc gb cap c nx l b a (.slice (some ⟨ga,0,none⟩) n ca) W) (hk:k < a.length) (hbc:BookC W cs x) (hlx:LiveX x) (hap:∀ s∈cs,ApartL (ga::gb::gq::X::List.range w0.heap.size) s) :
  AwayIn w0 X gq qc gb cap c nx l b (a.set k x) (.slice (some ⟨ga,0,none⟩) n ca) (W.setCells ga (k*7) cs):=by
 have hne:=h.ne (r:=ga) rfl
 have hg:=grown_setCells W ga cs (k*7)
 refine ⟨(hg.block X (Array.getElem?_eq_some_iff.1 h.box).1 (fun e=>hne.2.2.1 (Option.some.inj e).symm)).trans h.box,h.own.kept hg (List.mem_append_left _ (List.mem_singleton.2 rfl)),h.away.put hk hbc hap,h.apart,fun y hy=>?_,h.ext.gr (v:=.slice (some ⟨ga,0,none⟩) n ca) hg (fun k hk=>by have e:=Option.some.inj hk;have e2:ga=k:=e;omega),h.low⟩
 rcases List.mem_or_eq_of_mem_set hy with h1 | h1
 ·exact h.live y h1
 ·rw [h1];exact hlx
end
section
variable {w0 W:World} {X gq qc gb cap:Nat} {c nx:Int} {l:List Queue} {A b:List Book} {m d:List Int} {va vm vd:Value}
end
end Go.Proofs.YtdcndkojmflhnaaGreat
