/- The sort of books by Id; each theorem names its own conditions. -/
import Derived.Shelf.SlSortCmp.SmallK
import Derived.Shelf.SlicesG.Cmp
import Derived.Shelf.Small.Bits
import Derived.Ground.SlsfProg
import Derived.Ground.SlgcProg
import Derived.Ground.NamesProg
import Derived.Test.YtdcndkojmflhnaaGreatPCutB
set_option linter.unusedVariables false
set_option maxRecDepth 100000
set_option maxHeartbeats 8000000
set_option linter.unusedSimpArgs false
set_option linter.unusedVariables false
namespace Go.Proofs.YtdcndkojmflhnaaGreat
open List renaming getElem_toArray→zA,getElem_cons_zero→zB,getElem_cons_succ→zC,setIfInBounds_toArray→zD,set_cons_zero→zE,set_cons_succ→zF
open Go.RowKit Go.Shelf Go.Lib
def Tryz.sortBooks_ren:Go.Shelf.Ren:=⟨fun | 6=>140 | 15=>173 | 14=>172 | 28=>192 | 29=>193 | 20=>184 | 21=>185 | 22=>186 | 23=>187 | 24=>188 | 25=>189 | 26=>190 | 27=>191 | 46=>199 | 47=>200 | 48=>201 | 49=>202 | 50=>203 | 57=>205 | n=>n,fun | 22=>23 | 24=>40 | 25=>179 | 3=>3 | 39=>207 | 0=>0 | 53=>224 | 55=>226 | 4=>4 | 46=>218 | 45=>217 | 50=>143 | 5=>5 | 9=>9 | 66=>231 | 70=>150 | 76=>237 | 77=>238 | n=>n,fun | n=>n⟩
theorem Tryz.sortBooks:Go.Proofs.SlLaysF0.n6 Tryz.prog Tryz.sortBooks_ren:={
 mixed:=by kernel_rfl
 f6:=⟨Tryz.f140.name,by decide,Tryz.func140.trans (congrArg some (by kernel_rfl))⟩
 f14:=⟨Tryz.f172.name,by decide,Tryz.func172.trans (congrArg some (by kernel_rfl))⟩
 f15:=Tryz.func173.trans (congrArg some (by kernel_rfl))
 f20:=⟨Tryz.f184.name,by decide,Tryz.func184.trans (congrArg some (by kernel_rfl))⟩
 f21:=⟨Tryz.f185.name,by decide,Tryz.func185.trans (congrArg some (by kernel_rfl))⟩
 f22:=⟨Tryz.f186.name,by decide,Tryz.func186.trans (congrArg some (by kernel_rfl))⟩
 f23:=⟨Tryz.f187.name,by decide,Tryz.func187.trans (congrArg some (by kernel_rfl))⟩
 f24:=⟨Tryz.f188.name,by decide,Tryz.func188.trans (congrArg some (by kernel_rfl))⟩
 f25:=⟨Tryz.f189.name,by decide,Tryz.func189.trans (congrArg some (by kernel_rfl))⟩
 f26:=⟨Tryz.f190.name,by decide,Tryz.func190.trans (congrArg some (by kernel_rfl))⟩
 f27:=⟨Tryz.f191.name,by decide,Tryz.func191.trans (congrArg some (by kernel_rfl))⟩
 f28:=Tryz.func192.trans (congrArg some (by kernel_rfl))
 f29:=Tryz.func193.trans (congrArg some (by kernel_rfl))
 f46:=⟨Tryz.f199.name,by decide,Tryz.func199.trans (congrArg some (by kernel_rfl))⟩
 f47:=Tryz.func200.trans (congrArg some (by kernel_rfl))
 f48:=Tryz.func201.trans (congrArg some (by kernel_rfl))
 f49:=⟨Tryz.f202.name,by decide,Tryz.func202.trans (congrArg some (by kernel_rfl))⟩
 f50:=⟨Tryz.f203.name,by decide,Tryz.func203.trans (congrArg some (by kernel_rfl))⟩
 f57:=⟨Tryz.f205.name,by decide,Tryz.func205.trans (congrArg some (by kernel_rfl))⟩
 t0:=Tryz.underlying0
 a0:=Tryz.isAgg0
 z0:=Tryz.sizeOf0
 v0:=Tryz.zeroValue0
 t3:=Tryz.underlying3
 a3:=Tryz.isAgg3
 z3:=Tryz.sizeOf3
 v3:=Tryz.zeroValue3
 t4:=Tryz.underlying4
 a4:=Tryz.isAgg4
 z4:=Tryz.sizeOf4
 v4:=Tryz.zeroValue4
 t5:=Tryz.underlying5
 a5:=Tryz.isAgg5
 z5:=Tryz.sizeOf5
 v5:=Tryz.zeroValue5
 t9:=Tryz.underlying9
 a9:=Tryz.isAgg9
 z9:=Tryz.sizeOf9
 v9:=Tryz.zeroValue9
 t22:=Tryz.underlying23
 a22:=Tryz.isAgg23
 z22:=Tryz.sizeOf23
 v22:=Tryz.zeroValue23
 t25:=Tryz.underlying179
 a25:=Tryz.isAgg179
 z25:=Tryz.sizeOf179
 v25:=Tryz.zeroValue179
 t39:=Tryz.underlying207
 a39:=Tryz.isAgg207
 z39:=Tryz.sizeOf207
 v39:=Tryz.zeroValue207
 t45:=Tryz.underlying217
 a45:=Tryz.isAgg217
 z45:=Tryz.sizeOf217
 v45:=Tryz.zeroValue217
 t46:=Tryz.underlying218
 a46:=Tryz.isAgg218
 z46:=Tryz.sizeOf218
 v46:=Tryz.zeroValue218
 t50:=Tryz.underlying143
 a50:=Tryz.isAgg143
 z50:=Tryz.sizeOf143
 v50:=Tryz.zeroValue143
 t53:=Tryz.underlying224
 a53:=Tryz.isAgg224
 z53:=Tryz.sizeOf224
 v53:=Tryz.zeroValue224
 t55:=Tryz.underlying226
 a55:=Tryz.isAgg226
 z55:=Tryz.sizeOf226
 v55:=Tryz.zeroValue226
 t66:=Tryz.underlying231
 a66:=Tryz.isAgg231
 z66:=Tryz.sizeOf231
 v66:=Tryz.zeroValue231
 t70:=Tryz.underlying150
 a70:=Tryz.isAgg150
 z70:=Tryz.sizeOf150
 v70:=Tryz.zeroValue150
 t76:=Tryz.underlying237
 a76:=Tryz.isAgg237
 z76:=Tryz.sizeOf237
 v76:=Tryz.zeroValue237
 t77:=Tryz.underlying238
 a77:=Tryz.isAgg238
 z77:=Tryz.sizeOf238
 v77:=Tryz.zeroValue238 }
def Tryz.cmpInts_ren:Go.Shelf.Ren:=⟨fun | 5=>142 | 7=>174 | n=>n,fun | 22=>3 | 3=>3 | 4=>4 | n=>n,fun | n=>n⟩
theorem Tryz.cmpInts:Go.Proofs.SlLaysC2.n5 Tryz.prog Tryz.cmpInts_ren:={
 mixed:=by kernel_rfl
 f5:=⟨Tryz.f142.name,by decide,Tryz.func142.trans (congrArg some (by kernel_rfl))⟩
 f7:=⟨Tryz.f174.name,by decide,Tryz.func174.trans (congrArg some (by kernel_rfl))⟩
 t3:=Tryz.underlying3
 a3:=Tryz.isAgg3
 z3:=Tryz.sizeOf3
 v3:=Tryz.zeroValue3
 t4:=Tryz.underlying4
 a4:=Tryz.isAgg4
 z4:=Tryz.sizeOf4
 v4:=Tryz.zeroValue4
 t22:=Tryz.underlying3
 a22:=Tryz.isAgg3
 z22:=Tryz.sizeOf3
 v22:=Tryz.zeroValue3 }
def Tryz.bitsLens_ren:Go.Shelf.Ren:=⟨fun | 125=>173 | 128=>192 | 129=>193 | n=>n,fun | 46=>207 | 3=>3 | 51=>224 | 53=>226 | 4=>4 | 5=>5 | 9=>9 | n=>n,fun | n=>n⟩
theorem Tryz.bitsLens:Go.Proofs.Lays.n125 Tryz.prog Tryz.bitsLens_ren:={
 mixed:=by kernel_rfl
 f125:=Tryz.func173.trans (congrArg some (by kernel_rfl))
 f128:=Tryz.func192.trans (congrArg some (by kernel_rfl))
 f129:=Tryz.func193.trans (congrArg some (by kernel_rfl))
 t3:=Tryz.underlying3
 a3:=Tryz.isAgg3
 z3:=Tryz.sizeOf3
 v3:=Tryz.zeroValue3
 t4:=Tryz.underlying4
 a4:=Tryz.isAgg4
 z4:=Tryz.sizeOf4
 v4:=Tryz.zeroValue4
 t5:=Tryz.underlying5
 a5:=Tryz.isAgg5
 z5:=Tryz.sizeOf5
 v5:=Tryz.zeroValue5
 t9:=Tryz.underlying9
 a9:=Tryz.isAgg9
 z9:=Tryz.sizeOf9
 v9:=Tryz.zeroValue9
 t46:=Tryz.underlying207
 a46:=Tryz.isAgg207
 z46:=Tryz.sizeOf207
 v46:=Tryz.zeroValue207
 t51:=Tryz.underlying224
 a51:=Tryz.isAgg224
 z51:=Tryz.sizeOf224
 v51:=Tryz.zeroValue224
 t53:=Tryz.underlying226
 a53:=Tryz.isAgg226
 z53:=Tryz.sizeOf226
 v53:=Tryz.zeroValue226 }
theorem Tryz.isAggBook:∀ w,(isAgg 40).run Tryz.prog w=.ok true w:=fun w=>by kernel_rfl
theorem Tryz.sizeOfBook:∀ w,(Go.sizeOf 40).run Tryz.prog w=.ok 7 w:=fun w=>by kernel_rfl
abbrev SlT:=Option Addr × Nat × Nat
abbrev BkT:=Book × SlT × SlT
instance:Inhabited BkT:=⟨⟨default,(none,0,0),(none,0,0)⟩⟩
def encB (p:BkT):List Value:=[.int .i64 p.1.Id,.int .i64 p.1.Req.Queue,.int .i64 p.1.Req.From,.int .i64 p.1.Req.Until,.int .i64 p.1.Req.Kind,.slice p.2.1.1 p.2.1.2.1 p.2.1.2.2,.slice p.2.2.1 p.2.2.2.1 p.2.2.2.2]
theorem encB_len (p:BkT):(encB p).length=7:=rfl
theorem encB_one (p:BkT):∀ v∈encB p,v.oneCell'=true:=fun v hv=>by
 simp only [encB,List.mem_cons,List.not_mem_nil,or_false] at hv
 rcases hv with rfl | rfl | rfl | rfl | rfl | rfl | rfl <;> rfl
def cmpB (p q:BkT):Int:=Lib.compareInt p.1.Id q.1.Id
theorem ltB (p q:BkT):ltOf cmpB p q=decide (p.1.Id < q.1.Id):=by
 unfold ltOf cmpB Lib.compareInt
 by_cases h1:p.1.Id < q.1.Id
 ·simp [h1]
 ·by_cases h2:q.1.Id < p.1.Id <;> simp [h1,h2]
theorem swoB:Sort.SWO (ltOf cmpB) where
 irrefl x:=by rw [ltB];simp
 trans x y z h1 h2:=by rw [ltB] at *;simp at *;omega
 ntrans x y z h1 h2:=by rw [ltB] at *;simp at *;omega
theorem less_any (p q:BkT) (W:World):Calls Tryz.prog 141 #[.agg (encB p).toArray,.agg (encB q).toArray] W fun e w'=>e=.returned (.int .i64 (cmpB p q))∧∃ m os',w'=Sort.grow (W.drewN m) os':=by
 have hcon:=fun W'=>AnyG.cmp_Compare_int Tryz.cmpInts p.1.Id q.1.Id W'
 change ∀ W',Calls Tryz.prog 142 _ _ _ at hcon
 unfold cmpB
 generalize Lib.compareInt p.1.Id q.1.Id=r at hcon ⊢
 obtain ⟨x,⟨a1,a2,a3⟩,⟨b1,b2,b3⟩⟩:=p
 obtain ⟨y,⟨c1,c2,c3⟩,⟨d1,d2,d3⟩⟩:=q
 simp only [encB]
 go_enter Tryz.func141,Tryz.ntmps141
 go_wp2_with (go_at_call 142;refine (hcon _).mono ?_;rintro e w' ⟨rfl,rfl⟩)
 go_ret
 exact ⟨rfl,0,_,by rw [Sort.alloc_eq_grow,Sort.alloc_eq_grow,Sort.grow_grow];rfl⟩
theorem lessLays (blk off size:Nat) (w:World):CmpLays Tryz.prog 141 #[] encB 7 cmpB blk off size w:=fun _ _ _ _ p q=>less_any p q _
theorem bitsLen_any (n:Nat) (W:World) (h:n≤12):Calls Tryz.prog 173 #[.int .u64 n] W fun e w'=>(∃ l:Int,e=.returned (.int .i64 l))∧w'=W :=
 (Any.bits_Len Tryz.bitsLens n W (by omega) (by omega)).mono fun _ _ ⟨he,hw⟩=>⟨⟨_,he⟩,hw⟩
theorem book_pair {w:World} {cs:List Value} {x:Book} (h:BookC w cs x):∃ p:BkT,p.1=x∧encB p=cs:=by
 obtain ⟨qs,bv,rfl,⟨pv,rfl,hp,_⟩,hb,_⟩:=h
 obtain ⟨pa,pc,rfl,_⟩:=hp.form
 obtain ⟨ba,bc,rfl,_⟩:=hb.form
 exact ⟨(x,(pa,_,pc),(ba,_,bc)),rfl,rfl⟩
theorem books_pairs {w:World}:∀ {css:List (List Value)} {b:List Book},Cells7 w css b→∃ ps:List BkT,ps.map Prod.fst=b∧ps.map encB=css
 | [],b,h=>by
  have:=h.len
  simp only [List.length_nil] at this
  exact ⟨[],by rw [List.eq_nil_of_length_eq_zero this.symm];rfl,rfl⟩
 | cs::css,[],h=>by have:=h.len;simp at this
 | cs::css,x::b,h=>by
  obtain ⟨p,h1,h2⟩:=book_pair (h.each 0 cs x rfl rfl)
  obtain ⟨ps,h3,h4⟩:=books_pairs (css:=css) (b:=b) ⟨by have:=h.len;simpa using this,fun k cs' x' hc hx=>h.each (k+1) cs' x' (by simpa using hc) (by simpa using hx)⟩
  exact ⟨p::ps,by rw [List.map_cons,h1,h3],by rw [List.map_cons,h2,h4]⟩
theorem flatB_get (ps:List BkT) {k j:Nat} (hk:k < ps.length) (hj:j < 7):(ps.map encB).flatten[k*7+j]?=some (encB (ps.toArray[k]!))[j]! := by
 rw [flatw (by omega) _ (fun cs hc=>by obtain ⟨p,_,rfl⟩:=List.mem_map.1 hc;rfl) k j hj]
 obtain ⟨p,hp⟩:=getA hk
 have e:ps.toArray[k]! = p:=by
  rw [Array.getElem!_eq_getD,Array.getD_eq_getD_getElem?,List.getElem?_toArray,hp];rfl
 rw [e,List.getElem?_map,hp]
 show (encB p)[j]?=some (encB p)[j]!
 rw [List.getElem!_eq_getElem?_getD,List.getElem?_eq_getElem (by rw [encB_len];exact hj)]
 rfl
theorem flatB_all (ps:List BkT):(Sort.flatK encB 7 ps.toArray).toList=(ps.map encB).flatten:=by
 refine List.ext_getElem? fun i=>?_
 rcases Nat.lt_or_ge i (ps.length*7) with hi | hi
 ·have e:i=i / 7*7+i % 7:=by omega
  have h1:=Sort.get_flatK encB 7 ps.toArray i (by simpa using hi)
  have h2:=flatB_get ps (k:=i / 7) (j:=i % 7) (by omega) (Nat.mod_lt _ (by omega))
  rw [← e] at h2
  rw [h2,← h1,Array.getElem?_toList,getElem?_pos _ i (by rw [Sort.size_flatK];simpa using hi),getElem!_pos _ i (by rw [Sort.size_flatK];simpa using hi)]
 ·rw [List.getElem?_eq_none,List.getElem?_eq_none]
  ·rw [flatw_len (m:=7) _ (fun cs hc=>by obtain ⟨p,_,rfl⟩:=List.mem_map.1 hc;rfl),List.length_map];exact hi
  ·rw [Array.length_toList,Sort.size_flatK];simpa using hi
theorem sortW_row {enc:BkT→List Value} {W:World} {g m:Nat} {d:Array BkT} {os:Array Obj} {cur:Array Value} {T:TypeId} (h:W.heap[g]?=some (.cells cur T (0,0))) :
  (sortWorldK enc 7 W g 0 m d os).heap[g]?=some (.cells (Sort.putCells id 0 (Sort.flatK enc 7 d) cur) T (0,0))∧W.grownBy (sortWorldK enc 7 W g 0 m d os) (some g):=by
 have hl:=(Array.getElem?_eq_some_iff.1 h).1
 have e:(sortWorldK enc 7 W g 0 m d os).heap=W.heap.modify g (Sort.onCells (Sort.putCells id 0 (Sort.flatK enc 7 d)))++os:=rfl
 constructor
 ·rw [e,Array.getElem?_append_left (by rw [Array.size_modify];exact hl),Array.getElem?_modify,if_pos rfl,h]
  rfl
 ·refine ⟨rfl,rfl,rfl,by rw [e,Array.size_append,Array.size_modify];omega,fun k hk hne=>?_⟩
  rw [e,Array.getElem?_append_left (by rw [Array.size_modify];exact hk),Array.getElem?_modify,if_neg (fun h=>hne (by rw [h]))]
theorem putCells_take {F cur:Array Value} (h:F.size≤cur.size):(Sort.putCells id 0 F cur).size=cur.size∧(Sort.putCells id 0 F cur).toList.take F.size=F.toList:=by
 have hs:(Sort.putCells id 0 F cur).size=cur.size:=by unfold Sort.putCells;simp
 refine ⟨hs,List.ext_getElem? fun i=>?_⟩
 rcases Nat.lt_or_ge i F.size with hi | hi
 ·rw [List.getElem?_take_of_lt hi,Array.getElem?_toList,Array.getElem?_toList]
  unfold Sort.putCells
  rw [Array.getElem?_mapIdx,getElem?_pos cur i (by omega),getElem?_pos F i hi]
  simp only [Option.map_some,Nat.zero_le,Nat.zero_add,true_and,Nat.sub_zero,id]
  rw [if_pos hi,getElem!_pos F i hi]
 ·rw [List.getElem?_eq_none (by rw [List.length_take];omega),List.getElem?_eq_none (by rw [Array.length_toList];exact hi)]
theorem sort_any (bs:List Nat) (base g n cap:Nat) (W:World) (a:List Book) (h:OwnB bs base W (.slice (some ⟨g,0,none⟩) n cap) a) (hn:a.length=n) (h12:n≤12) (hd:a.Pairwise (fun x y=>x.Id≠y.Id)) :
  Calls Tryz.prog 140 #[.slice (some ⟨g,0,none⟩) n cap,.func (.func 141) #[] #[]] W fun e w' =>
   e=.returned (.tuple #[])∧OwnB bs base w' (.slice (some ⟨g,0,none⟩) n cap) (sortB a)∧W.grownBy w' (some g):=by
 obtain ⟨css,o1,o2,o3,o4⟩:=h
 rw [hn] at o1
 rcases o1.2 with ⟨hv,_⟩ | ⟨g',cap',cur,hv,hb,hcur,hnc,hcm,hcs,htk⟩
 ·cases hv
 cases hv
 obtain ⟨ps,e1,e2⟩:=books_pairs o2
 have hpl:ps.length=n:=by rw [← hn,← e1,List.length_map]
 rw [← e2,← flatB_all] at htk
 have hH:Sort.HoldsK encB 7 W g 0 ps.toArray:=by
  intro j hj
  have hj7:j < n*7:=by rw [Sort.size_flatK] at hj;simpa [hpl] using hj
  refine ⟨?_,frozen_of_row W g (0+j) _ _ hcur⟩
  rw [cell_of_row W g (0+j) _ _ _ hcur,Nat.zero_add]
  have h1:cur.toList[j]?=some (Sort.flatK encB 7 ps.toArray)[j]! := by
   rw [← List.getElem?_take_of_lt (l:=cur.toList) hj7,htk,Array.getElem?_toList,getElem?_pos _ j hj,getElem!_pos _ j hj]
  simpa using h1
 have hS:=AnyQ.slices_SortFunc_small_sorted Tryz.sortBooks 7 Tryz.isAggBook Tryz.sizeOfBook encB encB_len encB_one cmpB 141 #[] swoB g 0 cap ps.toArray W (enters_of Tryz.func141 (by kernel_rfl) rfl) (lessLays _ _ _ _) hH (Array.getElem?_eq_some_iff.1 hcur).1 (by simp;omega) bitsLen_any
 rw [List.size_toArray,hpl] at hS
 refine Calls.mono hS ?_
 rintro e w' ⟨rfl,d',m,os,⟨p1,p2,p3⟩,hs,rfl⟩
 obtain ⟨r1,r2⟩:=sortW_row (enc:=encB) (m:=m) (d:=d') (os:=os) hcur
 refine ⟨rfl,?_,r2⟩
 have hdl:d'.size=n:=by rw [p1,List.size_toArray,hpl]
 have hperm:d'.toList.Perm ps:=by
  have e3:d'.extract 0 n=d':=by rw [← hdl];exact Array.extract_size
  have e4:ps.toArray.extract 0 n=ps.toArray:=by rw [← hpl,← List.size_toArray];exact Array.extract_size
  rw [e3,e4] at p3
  exact p3
 have hmp:(d'.toList.map Prod.fst).Perm a:=by have:=hperm.map Prod.fst;rwa [e1] at this
 have hdd:(d'.toList.map Prod.fst).Pairwise (fun x y:Book=>x.Id≠y.Id):=(List.Perm.pairwise_iff (fun h e=>h e.symm) hmp).2 hd
 have hris:Rising (d'.toList.map Prod.fst):=by
  rw [List.pairwise_iff_getElem] at hdd
  refine List.pairwise_iff_getElem.2 ?_
  intro i j hi hj hij
  have h1:=hdd i j hi hj hij
  rw [List.length_map,Array.length_toList,hdl] at hi hj
  have h2:=hs i j (Nat.zero_le _) hij hj
  rw [ltB,decide_eq_false_iff_not,getElem!_pos d' i (by omega),getElem!_pos d' j (by omega)] at h2
  simp only [List.getElem_map,Array.getElem_toList] at h1 ⊢
  omega
 have hsort:d'.toList.map Prod.fst=sortB a:=sorted_eq hris (sortB_rising hd) (hmp.trans (sortB_perm a).symm)
 have hcc:∀ cs∈d'.toList.map encB,cs∈css:=fun cs hc=>by
  obtain ⟨p,hp,rfl⟩:=List.mem_map.1 hc
  rw [← e2];exact List.mem_map.2 ⟨p,hperm.subset hp,rfl⟩
 have hfl:(Sort.flatK encB 7 d').size=n*7:=by rw [Sort.size_flatK,hdl]
 obtain ⟨q1,q2⟩:=putCells_take (F:=Sort.flatK encB 7 d') (cur:=cur) (by rw [hfl,hcs];exact Nat.mul_le_mul_right 7 hnc)
 have hft:(Sort.flatK encB 7 d').toList=(d'.toList.map encB).flatten:=by have:=flatB_all d'.toList;simpa using this
 have hle:(sortB a).length=n:=by rw [(sortB_perm a).length_eq,hn]
 rw [← hsort]
 refine ⟨d'.toList.map encB,⟨?_,.inr ⟨g,cap,_,by rw [hsort,hle],hb,r1,by rw [hsort,hle];exact hnc,hcm,by rw [q1];exact hcs,?_⟩⟩,⟨by simp,fun k cs x hc hx=>?_⟩,fun cs hc=>o3 cs (hcc cs hc),fun g' hg' cs hc=>o4 g' hg' cs (hcc cs hc)⟩
 ·rw [← hft,Array.length_toList,hfl,hsort,hle]
 ·rw [hsort,hle,← hfl,q2,hft]
 ·rw [List.getElem?_map] at hc hx
  obtain ⟨p,hp⟩:∃ p,d'.toList[k]?=some p:=by
   cases hk:d'.toList[k]? with
   | none=>rw [hk] at hc;cases hc
   | some p=>exact ⟨p,rfl⟩
  rw [hp] at hc hx
  cases hc;cases hx
  obtain ⟨i,hi⟩:=List.mem_iff_getElem?.1 (hperm.subset (List.mem_of_getElem? hp))
  have hb1:=o2.each i (encB p) p.1 (by rw [← e2,List.getElem?_map,hi];rfl) (by rw [← e1,List.getElem?_map,hi];rfl)
  exact bookC_grown hb1 r2 (o4 g rfl (encB p) (hcc _ (List.mem_map.2 ⟨p,List.mem_of_getElem? hp,rfl⟩)))
theorem insertion_none (W:World) (c:Value):Calls Tryz.prog 184 #[.slice none 0 0,.int .i64 0,.int .i64 0,c] W fun e w'=>e=.returned (.tuple #[])∧w'=W:=by
 go_enter Tryz.func184,Tryz.ntmps184
 go_wp2
 refine wp_loop_rounds 1 ?_
 rw [rounds_succ]
 go_wp2
 go_end0
 exact ⟨rfl,rfl⟩
theorem pdq_none (W:World) (l:Int) (g:Nat) (lb:Array Value):Calls Tryz.prog 172 #[.slice none 0 0,.int .i64 0,.int .i64 0,.int .i64 l,.func (.func g) #[] lb] W fun e w'=>e=.returned (.tuple #[])∧w'=W:=by
 have hi:=hid (insertion_none W (.func (.func g) #[] lb))
 go_enter Tryz.func172,Tryz.ntmps172
 go_wp2
 refine wp_loop_rounds 1 ?_
 rw [rounds_succ]
 go_wp2_with (go_at_call 184;refine hi.out.mono ?_;rintro e w' ⟨rfl,rfl⟩)
 (try simp only [Exit.inBlock,Exit.then]);refine bodyPost_ret (results_none rfl _ _ _) rfl ?_
 exact ⟨rfl,rfl⟩
theorem sort_none (W:World):Calls Tryz.prog 140 #[.slice none 0 0,.func (.func 141) #[] #[]] W fun e w'=>e=.returned (.tuple #[])∧w'=W:=by
 have BL:=hid (bitsLen_any 0 W (by omega))
 have PN:=hid (fun l=>pdq_none W l 141 #[])
 go_enter Tryz.func140,Tryz.ntmps140
 go_wp2_with fail
 refine BL.out.mono ?_
 rintro e w' ⟨⟨l,rfl⟩,hw⟩
 obtain rfl:=hw.symm
 go_wp2_with (go_at_call 172;refine (PN.out l).mono ?_;rintro e w' ⟨rfl,rfl⟩)
 go_end0
 exact ⟨rfl,rfl⟩
end Go.Proofs.YtdcndkojmflhnaaGreat
