/- slices.Backward at books; who gives way; each theorem names its own conditions. -/
import Derived.RangeFuncNested
import Derived.RangeFuncBound
import Derived.RangeFuncCalls
import Derived.RangeFuncLeaves
import Derived.RangeFuncBox
import Derived.Shelf.Abstract
import Derived.Shelf.RegionOpen
import Derived.WalkKit
import Derived.OwnWalkIn
import Derived.TacticsInMore
import Derived.LoopNIn
import Derived.LoopIn
import Derived.Maps.AppendAt
import Derived.Test.YtdcndkojmflhnaaGreatPCutP
/- The iterator slices.Backward: books from the last one on. -/
set_option linter.unusedVariables false
set_option maxRecDepth 100000
set_option maxHeartbeats 8000000
set_option linter.unusedSimpArgs false
set_option linter.unusedVariables false
namespace Go.Proofs.YtdcndkojmflhnaaGreat
open Go.RowKit
open List renaming getElem_toArray→zA,getElem_cons_zero→zB,getElem_cons_succ→zC,setIfInBounds_toArray→zD,set_cons_zero→zE,set_cons_succ→zF
attribute [local go_sem] Oper.semAt_some
abbrev bookVal (x:Book) (pv bv:Value):Value:=.agg #[.int .i64 x.Id,.int .i64 x.Req.Queue,.int .i64 x.Req.From,.int .i64 x.Req.Until,.int .i64 x.Req.Kind,pv,bv]
def BCells (W:World) (g o:Nat) (x:Book) (pv bv:Value):Prop :=
 W.cell? ⟨g,o,none⟩=some (.int .i64 x.Id)∧W.cell? ⟨g,o+1,none⟩=some (.int .i64 x.Req.Queue)∧W.cell? ⟨g,o+2,none⟩=some (.int .i64 x.Req.From)∧W.cell? ⟨g,o+3,none⟩=some (.int .i64 x.Req.Until) ∧
  W.cell? ⟨g,o+4,none⟩=some (.int .i64 x.Req.Kind)∧W.cell? ⟨g,o+5,none⟩=some pv∧W.cell? ⟨g,o+6,none⟩=some bv
theorem BCells.keep {W W':World} {g o:Nat} {x:Book} {pv bv:Value} (h:BCells W g o x pv bv) (he:W'.heap[g]?=W.heap[g]?):BCells W' g o x pv bv:=by
 have e:∀ o,W'.cell? ⟨g,o,none⟩=W.cell? ⟨g,o,none⟩:=fun o=>World.cell?_of_block (a:=⟨g,o,none⟩) he
 unfold BCells at h ⊢
 rw [e,e,e,e,e,e,e];exact h
def DownL {n:Nat} (pre:List (Fin n)):Prop:=∀ (i:Nat) (x:Fin n),pre[i]?=some x→x.1+i+1=n
theorem DownL.snoc {n:Nat} {pre:List (Fin n)} {x:Fin n} (h:DownL pre) (hx:x.1+pre.length+1=n):DownL (pre++[x]):=by
 intro i y hi
 rcases Nat.lt_or_ge i pre.length with hl | hl
 ·rw [List.getElem?_append_left hl] at hi;exact h i y hi
 ·have hl2:=(List.getElem?_eq_some_iff.1 hi).1
  rw [List.length_append,List.length_singleton] at hl2
  have:i=pre.length:=by omega
  subst this
  rw [List.getElem?_append_right (Nat.le_refl _),Nat.sub_self] at hi
  cases hi
  exact hx
theorem DownL.mem {n:Nat} {pre:List (Fin n)} {x:Fin n} (h:DownL (pre++[x])) {j:Nat} (h1:x.1 < j) (h2:j < n):∃ y∈pre,y.1=j:=by
 have hx:=h pre.length x (by simp)
 obtain ⟨y,hy⟩:∃ y,pre[n - 1 - j]?=some y:=⟨_,List.getElem?_eq_getElem (by omega)⟩
 have:=h (n - 1 - j) y (by rw [List.getElem?_append_left (by omega)];exact hy)
 exact ⟨y,List.mem_of_getElem? hy,by omega⟩
theorem DownL.all {n:Nat} {xs:List (Fin n)} (h:DownL xs) (hl:xs.length=n) {j:Nat} (h2:j < n):∃ y∈xs,y.1=j:=by
 obtain ⟨y,hy⟩:∃ y,xs[n - 1 - j]?=some y:=⟨_,List.getElem?_eq_getElem (by omega)⟩
 have:=h (n - 1 - j) y hy
 exact ⟨y,List.mem_of_getElem? hy,by omega⟩
theorem back1_in (n:Nat) (hn:1≤n) (y Bs g off cap z:Nat) (b:List Book) (pv bv:Nat→Value) (hz:b.length=z) (h12:z≤12) (hzc:z≤cap)
  (J Jx:List (Fin z)→World→Prop)
  (hY:∀ pre x W,J pre W→pre.length < z→YieldAt Fence.wide (n - 1) Tryz.prog y #[.int .i64 (x.1:Int),bookVal (b.getD x.1 default) (pv x.1) (bv x.1)] W fun e W' =>
   (e=.returned (.bool true)∧J (pre++[x]) W'∧KeepB [Bs,g] W W')∨(e=.returned (.bool false)∧Jx (pre++[x]) W'))
  (W:World) (hBs:Boxed W Bs 23 (.slice (some ⟨g,off,none⟩) z cap)) (hg:g < W.heap.size) (hE:∀ k x,b[k]?=some x→BCells W g (off+k*7) x (pv k) (bv k)) (h0:J [] W) :
  CallsIn Fence.wide n Tryz.prog 194 #[.func (.yield y) #[] #[],.pointer (some ⟨Bs,0,none⟩)] W fun e W'=>(∃ v,e=.returned v) ∧
   ((∃ xs,(xs.length=z∧DownL xs)∧J xs W')∨(∃ pre,DownL pre∧Jx pre W')):=by
 refine callsIn_of_wp Tryz.func194 rfl trivial ?_ rfl
 simp only [Tryz.ntmps194,List.size_toArray,List.length_cons,List.length_nil,Nat.reduceAdd,Nat.reduceSub,Array.replicate_succ,Array.replicate_zero,List.push_toArray,List.append_toArray,List.nil_append,List.cons_append]
 have HE:=hid hE
 have HZ:=hid hz
 have hc0:=hBs.cell
 clear hE hz
 gi_wp2
 gi_loopw [3] (fun i wr=>∃ (pre:List (Fin z)) (k:Nat),i=.int .i64 ((k:Int) - 1)∧k+pre.length=z∧Hid (DownL pre)∧J pre wr∧KeepB [Bs,g] W wr) (fun i wr=>(intOf i+1).toNat)
 case atStart=>exact ⟨[],z,by go_num,by simp,hid (fun i x h=>(by simp at h)),h0,KeepB.rf _ _⟩
 case round =>
  obtain ⟨pre,k,rfl,hk,HD,hJ,hK⟩:=hrel
  have hBs':Boxed wr Bs 23 (.slice (some ⟨g,off,none⟩) z cap):=(hK.same Bs (by simp) hBs.lt).trans hBs
  have hcl:=hBs'.cell
  clear hc0
  cases k with
  | succ m =>
   rw [show (((m+1:Nat):Int) - 1)=(m:Int) by omega]
   have hmz:m < z:=by omega
   obtain ⟨x,hx⟩:=getA (f:=b) (k:=m) (by rw [HZ.out];exact hmz)
   have hBC:=(HE.out m x hx).keep (hK.same g (by simp) hg)
   obtain ⟨c0,c1,c2,c3,c4,c5,c6⟩:=hBC
   have hlen:pre.length < z:=by omega
   have hxe:b.getD m default=x:=by rw [List.getD_eq_getElem?_getD,hx];rfl
   have HS:=hid (HD.out.snoc (x:=⟨m,hmz⟩) (by show m+pre.length+1=z;omega))
   obtain ⟨fn,tmps,assign,body,hy,hR⟩:=hY pre ⟨m,hmz⟩ wr hJ hlen
   dsimp only at hy
   rw [hxe] at hy
   have HX:=hid hx
   clear hx hxe HD
   gi_wp2
   refine hR.mono ?_
   rintro e W3 (⟨rfl,hJ3,hk3⟩ | ⟨rfl,hJx3⟩)
   ·have HK3:=hid (hK.tr hk3)
    clear hy hcl
    gi_wp2
    go_roundw
    case rel=>exact ⟨pre++[⟨m,hmz⟩],m,by go_num,by simp;omega,HS,hJ3,HK3.out⟩
    case measure=>simp [intOf]
   ·clear hy hcl
    gi_wp2
    refine bodyPost_ret (results_none rfl _ _ _) rfl ?_
    exact ⟨⟨_,rfl⟩,.inr ⟨_,HS.out,hJx3⟩⟩
  | zero =>
   have HD':=HD
   have hz0:pre.length=z:=by omega
   have hneg:((0:Nat):Int) - 1 < 0:=by omega
   gi_wp2
   go_end0
   exact ⟨⟨_,rfl⟩,.inl ⟨_,⟨hz0,HD.out⟩,hJ⟩⟩
theorem back_seq (n:Nat) (hn:1≤n) (Bs g off cap z:Nat) (b:List Book) (pv bv:Nat→Value) (hz:b.length=z) (h12:z≤12) (hzc:z≤cap) (w:World) (hBs:Boxed w Bs 23 (.slice (some ⟨g,off,none⟩) z cap)) (hg:g < w.heap.size) (hE:∀ k x,b[k]?=some x→BCells w g (off+k*7) x (pv k) (bv k)) :
  SeqStopsK Fence.wide n Tryz.prog 194 #[.pointer (some ⟨Bs,0,none⟩)] (fun x:Fin z=>#[Value.int .i64 (x.1:Int),bookVal (b.getD x.1 default) (pv x.1) (bv x.1)]) (KeepB [Bs,g]) (fun xs=>xs.length=z∧DownL xs) DownL z w :=
 fun y J Jx W hW _ _ hY h0=>back1_in n hn y Bs g off cap z b pv bv hz h12 hzc J Jx hY W ((hW.block Bs hBs.lt).trans hBs) (Nat.lt_of_lt_of_le hg hW.size) (fun k x hk=>(hE k x hk).keep (hW.block g hg)) h0
theorem Backward_any (w:World) (a:Option Addr) (len cap:Nat) :
  Calls Tryz.prog 175 #[.slice a len cap] w fun e w'=>e=.returned (.func (.func 194) #[] #[.pointer (some ⟨w.heap.size,0,none⟩)])∧w'=w.alloc (.cells #[.slice a len cap] 23):=by
 go_enter Tryz.func175,Tryz.ntmps175
 go_wp2_with fail
 go_ret
 exact ⟨rfl,rfl⟩
attribute [local go_sem] Oper.semAt_some
theorem books_parts {w:World} {g off cap z:Nat} {b:List Book} (hb:BooksV w (.slice (some ⟨g,off,none⟩) z cap) b) (hz:b.length=z) (h0:0 < z) :
  z≤cap∧g < w.heap.size∧∃ pv bv:Nat→Value,∀ k x,b[k]?=some x→BCells w g (off+k*7) x (pv k) (bv k)∧PiecesV w (pv k) x.Req.Pieces∧BitesV w (bv k) x.Bites:=by
 rcases hb with ⟨rfl,_⟩ | ⟨b',off',cap',e,h1,h2,h3,h4,h5⟩
 ·simp at hz;omega
 ·cases e
  refine ⟨h1,h4,?_⟩
  have H:∀ k,∃ p:Value × Value,∀ x,b[k]?=some x→BCells w g (off+k*7) x p.1 p.2∧PiecesV w p.1 x.Req.Pieces∧BitesV w p.2 x.Bites:=fun k=>by
   cases hk:b[k]? with
   | none=>exact ⟨(undef,undef),fun x hx=>by cases hx⟩
   | some x =>
    obtain ⟨pv,biv,c0,c1,c2,c3,c4,c5,c6,hp,hbi⟩:=ebook_cells (h5 k x hk)
    exact ⟨(pv,biv),fun y hy=>by cases hy;exact ⟨⟨c0,c1,c2,c3,c4,c5,c6⟩,hp,hbi⟩⟩
  obtain ⟨f,hf⟩:=Classical.axiomOfChoice H
  exact ⟨fun k=>(f k).1,fun k=>(f k).2,hf⟩
theorem rowAt_own (B Bx:Nat) (o:Obj) (ho:o.isCells=true):OwnFrom B (fun (_:Unit) W=>W.heap[Bx]?=some o):=fun _ X Y row h hg hr =>
 (hg.block Bx (Array.getElem?_eq_some_iff.1 h).1 (fun e=>by obtain ⟨_,o',ho',hc⟩:=hr Bx e.symm;rw [show X.heap[Bx]?=_ from h] at ho';cases ho';rw [ho] at hc;cases hc)).trans h
theorem blk_ext {W W':World} {B:Nat} {o:Obj} (h:W.heap[B]?=some o) (hx:Ext W W'):W'.heap[B]?=some o:=(hx.block B (Array.getElem?_eq_some_iff.1 h).1).trans h
def lastN {n:Nat} (pre:List (Fin n)):Int:=match pre.getLast? with | some x=>(x.1:Int) | none=>0
theorem lastN_snoc {n:Nat} (pre:List (Fin n)) (x:Fin n):lastN (pre++[x])=(x.1:Int):=by simp [lastN]
def FirstHit {n:Nat} (p:Nat→Bool) (pre:List (Fin n)):Prop:=∃ ys x,pre=ys++[x]∧(∀ y∈ys,p y.1=false)∧p x.1=true
theorem firstHit_is {n:Nat} {p:Nat→Bool} {pre:List (Fin n)} (h:FirstHit p pre) (hd:DownL pre):lastN pre=(lastK p n:Int):=by
 obtain ⟨ys,x,rfl,h1,h2⟩:=h
 rw [lastN_snoc]
 have hx:=x.2
 have e:=lastK_cut (p:=p) (n:=n) (m:=x.1+1) (by omega) (fun j hj hn=>by
  obtain ⟨y,hy,rfl⟩:=hd.mem (j:=j) (by omega) hn
  exact h1 y hy)
 rw [e]
 simp only [lastK]
 rw [if_pos h2]
theorem noHit_is {n:Nat} {p:Nat→Bool} {xs:List (Fin n)} (h:∀ y∈xs,p y.1=false) (hd:DownL xs) (hl:xs.length=n):lastK p n=0:=by
 have e:=lastK_cut (p:=p) (n:=n) (m:=0) (Nat.zero_le _) (fun j _ hn=>by
  obtain ⟨y,hy,rfl⟩:=hd.all hl hn
  exact h y hy)
 rw [e];rfl
def VicAx (n0 n4 X g off cap z t q:Nat) (xb:Book) (pv bv:Value) (k:Nat) (a':Act) (W:World):Prop :=
 ∃ Bx,W.heap[Bx]?=some (.cells #[.int .i64 xb.Id,.int .i64 xb.Req.Queue,.int .i64 xb.Req.From,.int .i64 xb.Req.Until,.int .i64 xb.Req.Kind,pv,bv] 40 (0,0)) ∧
  a'={ tmps:=#[.pointer (some ⟨X,0,none⟩),.int .i64 (t:Int),.int .i64 (q:Int),.pointer (some ⟨n0,0,none⟩),.pointer (some ⟨n0+1,0,none⟩),.pointer (some ⟨n0+1+1,0,none⟩),.pointer (some ⟨n0+1+1+1,0,none⟩),.int .i64 (k:Int),.pointer (some ⟨Bx,0,none⟩),.pointer (some ⟨X,0,none⟩),.pointer (some ⟨X,0,none⟩),.pointer (some ⟨X,3,none⟩),.slice (some ⟨g,off,none⟩) z cap,.func (.func 194) #[] #[.pointer (some ⟨n4,0,none⟩)],.int .i64 (k:Int),bookVal xb pv bv,undef,undef,undef,undef,undef,undef,undef,undef,undef,undef,undef,undef,undef,undef,undef,undef,undef],defers:=[] }
theorem VicAx.own {n0 n4 X g off cap z t q:Nat} {xb:Book} {pv bv:Value} {k:Nat} {a':Act} {B:Nat}:OwnFrom B (fun (_:Unit) W=>VicAx n0 n4 X g off cap z t q xb pv bv k a' W):=by
 rintro s A A' row ⟨Bx,h1,h2⟩ hg hr
 exact ⟨Bx,rowAt_own B Bx _ rfl s A A' row h1 hg hr,h2⟩
theorem victim_any (w:World) (X g off cap z:Nat) (u:Value) (l:List Queue) (b:List Book) (c nx:Int) (t q:Nat) (hX:w.heap[X]?=some (.cells #[.int .i64 c,.int .i64 nx,u,.slice (some ⟨g,off,none⟩) z cap] 25 (0,0)))
  (hl:QueuesV w u l) (hb:BooksV w (.slice (some ⟨g,off,none⟩) z cap) b) (hz:b.length=z) (h0:0 < z) (ok:TreeOk l) (hok:∀ x∈b,BookOk l x) (h12:z≤12) (ht:t < 48) :
  Calls Tryz.prog 143 #[.pointer (some ⟨X,0,none⟩),.int .i64 (t:Int),.int .i64 (q:Int)] w fun e w'=>e=.returned (.int .i64 (vicK l b t q:Int))∧Ext w w':=by
 obtain ⟨hzc,hgw,pv,bv,hP⟩:=books_parts hb hz h0
 obtain ⟨ua,uc,rfl,_⟩:=hl.form
 refine (callsIn_wide (n:=3)).1 ?_
 refine callsIn_of_wp_marks Tryz.func143 rfl trivial ?_ rfl
 simp only [Tryz.ntmps143,List.size_toArray,List.length_cons,List.length_nil,Nat.reduceAdd,Nat.reduceSub,Array.replicate_succ,Array.replicate_zero,List.push_toArray,List.append_toArray,List.nil_append,List.cons_append]
 obtain ⟨w4,hw4⟩:∃ w4,(((w.alloc (.cells #[.pointer (some ⟨X,0,none⟩)] 128)).alloc (.cells #[.int .i64 (t:Int)] 3)).alloc (.cells #[.int .i64 (q:Int)] 3)).alloc (.cells #[.int .i64 0] 3)=w4:=⟨_,rfl⟩
 have hx4:Ext w w4:=by rw [← hw4];exact ((((Ext.rf w).al _).al _).al _).al _
 have hs4:w4.heap.size=w.heap.size+1+1+1+1:=by rw [← hw4];simp
 have b0:Boxed w4 w.heap.size 128 (.pointer (some ⟨X,0,none⟩)):=by rw [← hw4];exact (((Boxed.new w _ _).alloc _).alloc _).alloc _
 have b1:Boxed w4 (w.heap.size+1) 3 (.int .i64 (t:Int)):=by
  rw [← hw4];have:=((Boxed.new (w.alloc (.cells #[.pointer (some ⟨X,0,none⟩)] 128)) 3 (.int .i64 (t:Int))).alloc (.cells #[.int .i64 (q:Int)] 3)).alloc (.cells #[.int .i64 0] 3);rwa [World.size_alloc] at this
 have b2:Boxed w4 (w.heap.size+1+1) 3 (.int .i64 (q:Int)):=by
  rw [← hw4];have:=(Boxed.new ((w.alloc (.cells #[.pointer (some ⟨X,0,none⟩)] 128)).alloc (.cells #[.int .i64 (t:Int)] 3)) 3 (.int .i64 (q:Int))).alloc (.cells #[.int .i64 0] 3);rwa [World.size_alloc,World.size_alloc] at this
 have b3:Boxed w4 (w.heap.size+1+1+1) 3 (.int .i64 0):=by
  rw [← hw4];have:=Boxed.new (((w.alloc (.cells #[.pointer (some ⟨X,0,none⟩)] 128)).alloc (.cells #[.int .i64 (t:Int)] 3)).alloc (.cells #[.int .i64 (q:Int)] 3)) 3 (.int .i64 0);rwa [World.size_alloc,World.size_alloc,World.size_alloc] at this
 have hXl:=(Array.getElem?_eq_some_iff.1 hX).1
 have HXw:=hid hX
 have a3:w4.cell? ⟨X,3,none⟩=some (.slice (some ⟨g,off,none⟩) z cap):=hx4.ce' (cell_of_row w X 3 _ _ _ hX)
 have h5b:Boxed (w4.alloc (.cells #[.slice (some ⟨g,off,none⟩) z cap] 23)) w4.heap.size 23 (.slice (some ⟨g,off,none⟩) z cap):=Boxed.new w4 _ _
 have hx5:=hx4.al (.cells #[.slice (some ⟨g,off,none⟩) z cap] 23)
 have B0:=hid (b0.alloc (.cells #[.slice (some ⟨g,off,none⟩) z cap] 23))
 have B1:=hid (b1.alloc (.cells #[.slice (some ⟨g,off,none⟩) z cap] 23))
 have B2:=hid (b2.alloc (.cells #[.slice (some ⟨g,off,none⟩) z cap] 23))
 have B3:=hid (b3.alloc (.cells #[.slice (some ⟨g,off,none⟩) z cap] 23))
 have HBW:=hid (fun (W:World)=>Backward_any W (some ⟨g,off,none⟩) z cap)
 have HSEQ:=hid (back_seq 2 (by omega) w4.heap.size g off cap z b pv bv hz h12 hzc (w4.alloc (.cells #[.slice (some ⟨g,off,none⟩) z cap] 23)) h5b (Nat.lt_of_lt_of_le hgw hx5.size) (fun k x hk=>((hP k x hk).1).keep (hx5.block g hgw)))
 rw [← hw4] at a3
 have HW4:=hid hw4
 have HS4:=hid hs4
 have HX5:=hid hx5
 have HL:=hid hl
 have HP:=hid hP
 have HZ:=hid hz
 have HOK:=hid hok
 have HG:=hid hgw
 clear b1 b2 b3 hw4 hs4 hx5 hx4 h5b hX hl hb hP hz hok hgw b0
 gi_wp2
 refine ⟨trivial,(callsIn_wide.2 (HBW.out _)).mono ?_⟩
 rintro e w' ⟨rfl,rfl⟩
 rw [HW4.out]
 gi_wp2
 refine wpIn_rangeFunc_ownH rfl (by omega) (gf:=194) (lb:=#[.pointer (some ⟨w4.heap.size,0,none⟩)]) rfl trivial (enters_of Tryz.func194 (by kernel_rfl) rfl)
  HSEQ.out (fun h k=>h.tr k) (KeepB.put (by have:=HX5.out.size;have:=HG.out;intro j hj;simp only [List.mem_cons,List.not_mem_nil,or_false] at hj;simp only [World.size_alloc];have:=HS4.out;omega)) (Below.refl _ _) (fun _=>rfl)
  (fun pre W=>(∀ y∈pre,hitK l b t q y.1=false)∧(Boxed W w.heap.size 128 (.pointer (some ⟨X,0,none⟩))∧Boxed W (w.heap.size+1) 3 (.int .i64 (t:Int))∧Boxed W (w.heap.size+1+1) 3 (.int .i64 (q:Int))∧Boxed W (w.heap.size+1+1+1) 3 (.int .i64 0))∧Below w.heap.size w W)
  (fun c pre W=>(c=.ret∧FirstHit (hitK l b t q) pre)∧Boxed W (w.heap.size+1+1+1) 3 (.int .i64 (lastN pre))∧Below w.heap.size w W)
  (OwnFrom.and (ownFrom_pure _ _) (OwnFrom.and (OwnFrom.and (Own.from (boxed_own _ _ _) _) (OwnFrom.and (Own.from (boxed_own _ _ _) _) (OwnFrom.and (Own.from (boxed_own _ _ _) _) (Own.from (boxed_own _ _ _) _)))) (ownFrom_below (Nat.le_refl _) (by have:=HS4.out;simp only [World.size_alloc];omega))))
  (fun c=>OwnFrom.and (ownFrom_pure _ _) (OwnFrom.and (Own.from (boxed_own _ _ (fun pre=>.int .i64 (lastN pre))) _) (ownFrom_below (Nat.le_refl _) (by have:=HS4.out;simp only [World.size_alloc];omega))))
  ⟨(fun y hy=>by cases hy),⟨B0.out,B1.out,B2.out,B3.out⟩,HX5.out⟩
  (fun (x:Fin z) a' W=>VicAx w.heap.size w4.heap.size X g off cap z t q (b.getD x.1 default) (pv x.1) (bv x.1) x.1 a' W) (fun x a'=>VicAx.own)
  ?assign ?body ?done ?stop
 case assign =>
  rintro y pre x W K ⟨hi1,⟨h0,h1,h2,h3⟩,hB⟩ hK
  have HK:=hid hK
  clear hK
  obtain ⟨xb,hxb⟩:=getA (f:=b) (k:=x.1) (by rw [HZ.out];exact x.2)
  obtain ⟨_,hpx,hbx⟩:=HP.out x.1 xb hxb
  obtain ⟨pa,pc,hpf,_⟩:=hpx.form
  obtain ⟨ba,bc,hbf,_⟩:=hbx.form
  clear hxb hpx hbx
  generalize b.getD x.1 default=xd at *
  generalize pv x.1=pvx at *
  generalize bv x.1=bvx at *
  subst hpf hbf
  generalize xb.Req.Pieces.length=pn at *
  generalize xb.Bites.length=bn at *
  gi_wp2
  exact HK.out _ _ (KeepsFrom.ext ((Ext.rf W).al _)) (KeepB.ext ((Ext.rf W).al _)) ⟨hi1,⟨h0.alloc _,h1.alloc _,h2.alloc _,h3.alloc _⟩,hB.alloc hB.size _⟩ ⟨W.heap.size,World.alloc_heap_new W _,rfl⟩
 case body =>
  rintro y pre x a' W0 hly ⟨rr,hrr⟩ ⟨hi1,⟨h0,h1,h2,h3⟩,hB⟩ ⟨Bx,hbx,rfl⟩ hlen
  obtain ⟨xb,hxb⟩:=getA (f:=b) (k:=x.1) (by rw [HZ.out];exact x.2)
  have hxe:b.getD x.1 default=xb:=by rw [List.getD_eq_getElem?_getD,hxb];rfl
  rw [hxe] at hbx ⊢
  obtain ⟨_,hpx,hbtx⟩:=HP.out x.1 xb hxb
  have hXB:=(hB.block X hXl).trans HXw.out
  have hbk:=HOK.out xb (List.mem_of_getElem? hxb)
  have hhit:hitK l b t q x.1=(under l xb.Req.Queue (q:Int) && decide (0 < takesT xb t)):=hitK_some hxb
  have HHIT:=hid hhit
  refine wpIn_block ?_
  refine wpIn_seq_k (fun K0 hK0=>?_)
  refine wpIn_round_heldA (S:=fun V=>Ext W0.drew V) K0 (by kernel_rfl) (by kernel_rfl) (fun a' w' h=>h) ?_
  have HK0:=hid hK0
  clear hK0
  have HxW:=hid (Ext.dr (Ext.rf W0))
  have k0:=HxW.out.ce' h0.cell
  have k1:=HxW.out.ce' h1.cell
  have k2:=HxW.out.ce' h2.cell
  have k3:W0.drew.cell? ⟨X,2,none⟩=some (.slice ua l.length uc):=HxW.out.ce' (cell_of_row W0 X 2 _ _ _ hXB)
  obtain ⟨q0,q1,q2,q3,q4,q5,q6,_⟩:=bookCells7 hbx
  replace q0:=HxW.out.ce' q0
  replace q1:=HxW.out.ce' q1
  replace q2:=HxW.out.ce' q2
  replace q3:=HxW.out.ce' q3
  replace q4:=HxW.out.ce' q4
  replace q5:=HxW.out.ce' q5
  replace q6:=HxW.out.ce' q6
  have hxw:Ext w W0.drew:=(show Ext w W0 from hB).tr HxW.out
  have BN:=hid (fun (V:World) (h:Ext W0.drew V)=>Beneath_any V (.slice ua l.length uc) l xb.Req.Queue (q:Int) (HL.out.mono (hxw.tr h)) ok.pars ok.n5 hbk.q0 hbk.q1)
  have ON:=hid (fun (V:World) (h:Ext W0.drew V)=>One_any V (pv x.1) (bv x.1) xb (hpx.mono (hxw.tr h)) (hbtx.mono (hxw.tr h)) hbk.req (fun k hk=>(hbk.bites k hk).1) hbk.many.2 (fun k hk=>(hbk.bites k hk).2))
  have AT:=hid (fun (V:World) (v:Value) (hv:RunsV V v (fold (takesT xb)))=>at_fold V v (takesT xb) t ht hv)
  obtain ⟨pa,pc,hpf,_⟩:=hpx.form
  obtain ⟨ba,bc,hbf,_⟩:=hbtx.form
  have HB0:=hid hB
  have H3:=hid h3
  have HB4:=hid (And.intro h0 (And.intro h1 h2))
  have HNE:=hid hi1
  have HS:=hid (Ext.rf W0.drew)
  have HNN:Hid (takesT xb t=takesT xb t):=hid rfl
  have hge:=(book_num hbk t).1
  rw [hpf,hbf] at *
  clear hxe hxb hpx hbtx hXB hbk hhit hrr hbx hB h0 h1 h2 h3 hi1 hlen hpf hbf hxw
  generalize xb.Req.Pieces.length=pn at *
  generalize xb.Bites.length=bn at *
  generalize W0.drew=W at *
  refine wpAnyH_take (i:=0) (oi:=_) (v:=?_) rfl (by kernel_rfl) (by kernel_rfl) (by kernel_rfl) (fun _ _ _ h=>(by cases h.1)) (Or.inl ⟨by kernel_rfl,?_⟩) HS.out ?_
  rotate_left
  ·intro V hSw;have l0:=hSw.ce' k0;have l1:=hSw.ce' k1;have l2:=hSw.ce' k2;have l3:=hSw.ce' k3;have l4:=hSw.ce' q0;have l5:=hSw.ce' q1;have l6:=hSw.ce' q2;have l7:=hSw.ce' q3;have l8:=hSw.ce' q4;have l9:=hSw.ce' q5;have l10:=hSw.ce' q6;go_simp;with_reducible rfl
  try simp only [Act.put,zD,zE,zF,zA,zC,zB]
  refine wpAnyH_take (i:=1) (oi:=_) (v:=?_) rfl (by kernel_rfl) (by kernel_rfl) (by kernel_rfl) (fun _ _ _ h=>(by cases h.1)) (Or.inl ⟨by kernel_rfl,?_⟩) HS.out ?_
  rotate_left
  ·intro V hSw;have l0:=hSw.ce' k0;have l1:=hSw.ce' k1;have l2:=hSw.ce' k2;have l3:=hSw.ce' k3;have l4:=hSw.ce' q0;have l5:=hSw.ce' q1;have l6:=hSw.ce' q2;have l7:=hSw.ce' q3;have l8:=hSw.ce' q4;have l9:=hSw.ce' q5;have l10:=hSw.ce' q6;go_simp;with_reducible rfl
  try simp only [Act.put,zD,zE,zF,zA,zC,zB]
  refine wpAnyH_take (i:=2) (oi:=_) (v:=?_) rfl (by kernel_rfl) (by kernel_rfl) (by kernel_rfl) (fun _ _ _ h=>(by cases h.1)) (Or.inl ⟨by kernel_rfl,?_⟩) HS.out ?_
  rotate_left
  ·intro V hSw;have l0:=hSw.ce' k0;have l1:=hSw.ce' k1;have l2:=hSw.ce' k2;have l3:=hSw.ce' k3;have l4:=hSw.ce' q0;have l5:=hSw.ce' q1;have l6:=hSw.ce' q2;have l7:=hSw.ce' q3;have l8:=hSw.ce' q4;have l9:=hSw.ce' q5;have l10:=hSw.ce' q6;go_simp;with_reducible rfl
  try simp only [Act.put,zD,zE,zF,zA,zC,zB]
  refine wpAnyH_take (i:=3) (oi:=_) (v:=?_) rfl (by kernel_rfl) (by kernel_rfl) (by kernel_rfl) (fun _ _ _ h=>(by cases h.1)) (Or.inl ⟨by kernel_rfl,?_⟩) HS.out ?_
  rotate_left
  ·intro V hSw;have l0:=hSw.ce' k0;have l1:=hSw.ce' k1;have l2:=hSw.ce' k2;have l3:=hSw.ce' k3;have l4:=hSw.ce' q0;have l5:=hSw.ce' q1;have l6:=hSw.ce' q2;have l7:=hSw.ce' q3;have l8:=hSw.ce' q4;have l9:=hSw.ce' q5;have l10:=hSw.ce' q6;go_simp;with_reducible rfl
  try simp only [Act.put,zD,zE,zF,zA,zC,zB]
  refine wpAnyH_take (i:=4) (oi:=_) (v:=?_) rfl (by kernel_rfl) (by kernel_rfl) (by kernel_rfl) (fun _ _ _ h=>(by cases h.1)) (Or.inl ⟨by kernel_rfl,?_⟩) HS.out ?_
  rotate_left
  ·intro V hSw;have l0:=hSw.ce' k0;have l1:=hSw.ce' k1;have l2:=hSw.ce' k2;have l3:=hSw.ce' k3;have l4:=hSw.ce' q0;have l5:=hSw.ce' q1;have l6:=hSw.ce' q2;have l7:=hSw.ce' q3;have l8:=hSw.ce' q4;have l9:=hSw.ce' q5;have l10:=hSw.ce' q6;go_simp;with_reducible rfl
  try simp only [Act.put,zD,zE,zF,zA,zC,zB]
  refine wpAnyH_take (i:=5) (oi:=_) (v:=?_) rfl (by kernel_rfl) (by kernel_rfl) (by kernel_rfl) (fun _ _ _ h=>(by cases h.1)) (Or.inl ⟨by kernel_rfl,?_⟩) HS.out ?_
  rotate_left
  ·intro V hSw;have l0:=hSw.ce' k0;have l1:=hSw.ce' k1;have l2:=hSw.ce' k2;have l3:=hSw.ce' k3;have l4:=hSw.ce' q0;have l5:=hSw.ce' q1;have l6:=hSw.ce' q2;have l7:=hSw.ce' q3;have l8:=hSw.ce' q4;have l9:=hSw.ce' q5;have l10:=hSw.ce' q6;go_simp;with_reducible rfl
  try simp only [Act.put,zD,zE,zF,zA,zC,zB]
  refine wpAnyH_take (i:=6) (oi:=_) (v:=?_) rfl (by kernel_rfl) (by kernel_rfl) (by kernel_rfl) (fun _ _ _ h=>(by cases h.1)) (Or.inl ⟨by kernel_rfl,?_⟩) HS.out ?_
  rotate_left
  ·intro V hSw;have l0:=hSw.ce' k0;have l1:=hSw.ce' k1;have l2:=hSw.ce' k2;have l3:=hSw.ce' k3;have l4:=hSw.ce' q0;have l5:=hSw.ce' q1;have l6:=hSw.ce' q2;have l7:=hSw.ce' q3;have l8:=hSw.ce' q4;have l9:=hSw.ce' q5;have l10:=hSw.ce' q6;go_simp;with_reducible rfl
  try simp only [Act.put,zD,zE,zF,zA,zC,zB]
  refine wpAnyH_take (i:=7) (oi:=_) (v:=?_) rfl (by kernel_rfl) (by kernel_rfl) (by kernel_rfl) (fun _ _ _ h=>(by cases h.1)) (Or.inl ⟨by kernel_rfl,?_⟩) HS.out ?_
  rotate_left
  ·intro V hSw;have l0:=hSw.ce' k0;have l1:=hSw.ce' k1;have l2:=hSw.ce' k2;have l3:=hSw.ce' k3;have l4:=hSw.ce' q0;have l5:=hSw.ce' q1;have l6:=hSw.ce' q2;have l7:=hSw.ce' q3;have l8:=hSw.ce' q4;have l9:=hSw.ce' q5;have l10:=hSw.ce' q6;go_simp;with_reducible rfl
  try simp only [Act.put,zD,zE,zF,zA,zC,zB]
  refine wpAnyH_ready (rs:=[8]) (by kernel_rfl) (by simp) ?_
  refine AllReadyH.cons rfl (fun K hK=>?_) AllReadyH.nil
  go_simp
  refine (BN.out _ HS.out).mono ?_
  rintro e V ⟨rfl,hv⟩
  refine hK.out _ _ hv (fun _=>?_)
  clear hK K
  try simp only [Act.put,zD,zE,zF,zA,zC,zB]
  clear HS
  have HS:=hid hv
  cases hu:under l xb.Req.Queue (q:Int) with
  | false =>
   rw [hu] at HHIT
   refine wpAnyH_take (i:=9) (oi:=_) (v:=?_) rfl (by kernel_rfl) (by kernel_rfl) (by kernel_rfl) (fun _ _ _ h=>(by cases h.1)) (Or.inl ⟨by kernel_rfl,?_⟩) HS.out ?_
   rotate_left
   ·intro V hSw;have l0:=hSw.ce' k0;go_simp;with_reducible rfl
   try simp only [Act.put,zD,zE,zF,zA,zC,zB]
   refine wpAnyH_take (i:=10) (oi:=_) (v:=undef) rfl (by kernel_rfl) (by kernel_rfl) (by kernel_rfl) (fun _ _ _ h=>(by cases h.1)) (Or.inr ⟨by kernel_rfl,rfl⟩) HS.out ?_
   try simp only [Act.put,zD,zE,zF,zA,zC,zB]
   refine wpAnyH_take (i:=11) (oi:=_) (v:=undef) rfl (by kernel_rfl) (by kernel_rfl) (by kernel_rfl) (fun _ _ _ h=>(by cases h.1)) (Or.inr ⟨by kernel_rfl,rfl⟩) HS.out ?_
   try simp only [Act.put,zD,zE,zF,zA,zC,zB]
   refine wpAnyH_take (i:=12) (oi:=_) (v:=undef) rfl (by kernel_rfl) (by kernel_rfl) (by kernel_rfl) (fun _ _ _ h=>(by cases h.1)) (Or.inr ⟨by kernel_rfl,rfl⟩) HS.out ?_
   try simp only [Act.put,zD,zE,zF,zA,zC,zB]
   refine wpAnyH_take (i:=13) (oi:=_) (v:=undef) rfl (by kernel_rfl) (by kernel_rfl) (by kernel_rfl) (fun _ _ _ h=>(by cases h.1)) (Or.inr ⟨by kernel_rfl,rfl⟩) HS.out ?_
   try simp only [Act.put,zD,zE,zF,zA,zC,zB]
   refine wpAnyH_take (i:=14) (oi:=_) (v:=undef) rfl (by kernel_rfl) (by kernel_rfl) (by kernel_rfl) (fun _ _ _ h=>(by cases h.1)) (Or.inr ⟨by kernel_rfl,rfl⟩) HS.out ?_
   try simp only [Act.put,zD,zE,zF,zA,zC,zB]
   refine wpAnyH_take (i:=15) (oi:=_) (v:=?_) rfl (by kernel_rfl) (by kernel_rfl) (by kernel_rfl) (fun _ _ _ h=>(by cases h.1)) (Or.inl ⟨by kernel_rfl,?_⟩) HS.out ?_
   rotate_left
   ·intro V hSw;have l0:=hSw.ce' k0;go_simp;with_reducible rfl
   try simp only [Act.put,zD,zE,zF,zA,zC,zB]
   refine wpAnyH_done (by kernel_rfl) ⟨rfl,HK0.out _ _ ?_⟩ _
   clear HK0 K0
   have HV:=hid (HxW.out.tr hv)
   clear k0 k1 k2 k3 q0 q1 q2 q3 q4 q5 q6 hv
   gi_wp2
   refine ⟨KeepsFrom.ext HV.out,KeepB.ext HV.out,fun y hy=>?_,⟨blk_ext HB4.out.1 HV.out,blk_ext HB4.out.2.1 HV.out,blk_ext HB4.out.2.2 HV.out,blk_ext H3.out HV.out⟩,(show Ext w W0 from HB0.out).tr HV.out⟩
   rcases List.mem_append.1 hy with h | h
   ·exact HNE.out y h
   ·rw [List.mem_singleton.1 h,HHIT.out];rfl
  | true =>
   rw [hu,Bool.true_and] at HHIT
   refine wpAnyH_take (i:=9) (oi:=_) (v:=?_) rfl (by kernel_rfl) (by kernel_rfl) (by kernel_rfl) (fun _ _ _ h=>(by cases h.1)) (Or.inl ⟨by kernel_rfl,?_⟩) HS.out ?_
   rotate_left
   ·intro V hSw;have l0:=hSw.ce' k0;go_simp;with_reducible rfl
   try simp only [Act.put,zD,zE,zF,zA,zC,zB]
   refine wpAnyH_take (i:=10) (oi:=_) (v:=?_) rfl (by kernel_rfl) (by kernel_rfl) (by kernel_rfl) (fun _ _ _ h=>(by cases h.1)) (Or.inl ⟨by kernel_rfl,?_⟩) HS.out ?_
   rotate_left
   ·intro V hSw;have l0:=hSw.ce' k0;have l1:=hSw.ce' k1;have l2:=hSw.ce' k2;have l3:=hSw.ce' k3;have l4:=hSw.ce' q0;have l5:=hSw.ce' q1;have l6:=hSw.ce' q2;have l7:=hSw.ce' q3;have l8:=hSw.ce' q4;have l9:=hSw.ce' q5;have l10:=hSw.ce' q6;go_simp;with_reducible rfl
   try simp only [Act.put,zD,zE,zF,zA,zC,zB]
   refine wpAnyH_take (i:=12) (oi:=_) (v:=?_) rfl (by kernel_rfl) (by kernel_rfl) (by kernel_rfl) (fun _ _ _ h=>(by cases h.1)) (Or.inl ⟨by kernel_rfl,?_⟩) HS.out ?_
   rotate_left
   ·intro V hSw;have l0:=hSw.ce' k0;have l1:=hSw.ce' k1;have l2:=hSw.ce' k2;have l3:=hSw.ce' k3;have l4:=hSw.ce' q0;have l5:=hSw.ce' q1;have l6:=hSw.ce' q2;have l7:=hSw.ce' q3;have l8:=hSw.ce' q4;have l9:=hSw.ce' q5;have l10:=hSw.ce' q6;go_simp;with_reducible rfl
   try simp only [Act.put,zD,zE,zF,zA,zC,zB]
   refine wpAnyH_ready (rs:=[11]) (by kernel_rfl) (by simp) ?_
   refine AllReadyH.cons rfl (fun K hK=>?_) AllReadyH.nil
   go_simp
   refine (ON.out _ HS.out).mono ?_
   rintro e V2 ⟨vf,rfl,hvf,hv2⟩
   refine hK.out _ _ (hv.tr hv2) (fun _=>?_)
   clear hK K
   try simp only [Act.put,zD,zE,zF,zA,zC,zB]
   clear HS
   have HS:=hid (hv.tr hv2)
   obtain ⟨fa,fc,rfl,_⟩:=hvf.form
   have AT1:=hid (AT.out _ _ hvf)
   clear hv hv2 hvf
   generalize (fold (takesT xb)).length=fn at *
   refine wpAnyH_ready (rs:=[13]) (by kernel_rfl) (by simp) ?_
   refine AllReadyH.cons rfl (fun K hK=>?_) AllReadyH.nil
   go_simp
   refine AT1.out.mono ?_
   rintro e V3 ⟨rfl,hv3⟩
   refine hK.out _ _ (HS.out.tr hv3) (fun _=>?_)
   clear hK K
   try simp only [Act.put,zD,zE,zF,zA,zC,zB]
   have HS3:=hid (HS.out.tr hv3)
   clear HS hv3
   have HS:=HS3
   have HV:=hid (HxW.out.tr HS3.out)
   clear HS3
   by_cases hpos:0 < takesT xb t
   ·rw [deT hpos] at HHIT
    refine wpAnyH_take (i:=14) (oi:=_) (v:=?_) rfl (by kernel_rfl) (by kernel_rfl) (by kernel_rfl) (fun _ _ _ h=>(by cases h.1)) (Or.inl ⟨by kernel_rfl,?_⟩) HS.out ?_
    rotate_left
    ·intro V hSw;have l0:=hSw.ce' k0;go_simp;with_reducible rfl
    try simp only [Act.put,zD,zE,zF,zA,zC,zB]
    refine wpAnyH_take (i:=15) (oi:=_) (v:=?_) rfl (by kernel_rfl) (by kernel_rfl) (by kernel_rfl) (fun _ _ _ h=>(by cases h.1)) (Or.inl ⟨by kernel_rfl,?_⟩) HS.out ?_
    rotate_left
    ·intro V hSw;have l0:=hSw.ce' k0;go_simp;with_reducible rfl
    try simp only [Act.put,zD,zE,zF,zA,zC,zB]
    refine wpAnyH_done (by kernel_rfl) ⟨rfl,HK0.out _ _ ?_⟩ _
    clear HK0 K0
    have H3V:Boxed _ (w.heap.size+1+1+1) 3 (.int .i64 0):=blk_ext H3.out HV.out
    have k6:=H3V.cell
    have f6:=H3V.frozen
    have HE:=hid (And.intro ((KeepsFrom.ext (B:=w4.heap.size+1) HV.out).trans (KeepsFrom.se _ (w.heap.size+1+1+1) (.int .i64 (x.1:Int)))) (And.intro (H3V.set (.int .i64 (x.1:Int))) (((show Ext w W0 from HB0.out).tr HV.out).se (b:=w.heap.size+1+1+1) (o:=0) (by omega) (.int .i64 (x.1:Int)))))
    clear k0 k1 k2 k3 q0 q1 q2 q3 q4 q5 q6 H3V
    gi_wp2
    refine ⟨HE.out.1,⟨rfl,pre,x,rfl,HNE.out,HHIT.out⟩,?_,HE.out.2.2⟩
    rw [lastN_snoc];exact HE.out.2.1
   ·have hpos':takesT xb t=0:=by omega
    rw [deF hpos] at HHIT
    refine wpAnyH_take (i:=14) (oi:=_) (v:=?_) rfl (by kernel_rfl) (by kernel_rfl) (by kernel_rfl) (fun _ _ _ h=>(by cases h.1)) (Or.inl ⟨by kernel_rfl,?_⟩) HS.out ?_
    rotate_left
    ·intro V hSw;have l0:=hSw.ce' k0;go_simp;with_reducible rfl
    try simp only [Act.put,zD,zE,zF,zA,zC,zB]
    refine wpAnyH_take (i:=15) (oi:=_) (v:=?_) rfl (by kernel_rfl) (by kernel_rfl) (by kernel_rfl) (fun _ _ _ h=>(by cases h.1)) (Or.inl ⟨by kernel_rfl,?_⟩) HS.out ?_
    rotate_left
    ·intro V hSw;have l0:=hSw.ce' k0;go_simp;with_reducible rfl
    try simp only [Act.put,zD,zE,zF,zA,zC,zB]
    refine wpAnyH_done (by kernel_rfl) ⟨rfl,HK0.out _ _ ?_⟩ _
    clear HK0 K0
    clear k0 k1 k2 k3 q0 q1 q2 q3 q4 q5 q6
    gi_wp2
    refine ⟨KeepsFrom.ext HV.out,KeepB.ext HV.out,fun y hy=>?_,⟨blk_ext HB4.out.1 HV.out,blk_ext HB4.out.2.1 HV.out,blk_ext HB4.out.2.2 HV.out,blk_ext H3.out HV.out⟩,(show Ext w W0 from HB0.out).tr HV.out⟩
    rcases List.mem_append.1 hy with h | h
    ·exact HNE.out y h
    ·rw [List.mem_singleton.1 h];exact HHIT.out
 case done =>
  rintro D ys W hD ⟨hlen,hdn⟩ ⟨hne,⟨_,_,_,h3⟩,hB⟩ hK
  have hcr:=h3.cell
  have hfr:=h3.frozen
  have Hno:=hid (show vicK l b t q=0 from by unfold vicK;rw [HZ.out];exact noHit_is hne hdn hlen)
  have hK':=(KeepsOthers.setCell W ⟨w.heap.size+1+1+1,0,none⟩ (.int .i64 0)).same D _ hK rfl
  have hc5:=cell_kept ((h3.set (.int .i64 0)).cell) (grownBy_putObj' _ D (.deferred none)) (fun r e=>by cases e;exact ⟨_,hK',rfl⟩)
  have Hend:=hid ((hB.setCell (p:=⟨w.heap.size+1+1+1,0,none⟩) (by show w.heap.size≤w.heap.size+1+1+1;omega) (.int .i64 0)).trans (belowK_b (w:=w) (Nat.le_refl _) _ D _ (.deferred none) (by simp at hD;have:=HS4.out;omega) hK' rfl rfl))
  clear hne hdn
  gi_wp2
  refine ⟨by simp,.inl ⟨_,_,rfl,run_takeDeferred hK',?_⟩⟩
  refine ⟨.int .i64 0,?_,by rw [Hno.out];rfl,Hend.out⟩
  simp [results,Tryz.f143,go_sem,hc5]
 case stop =>
  rintro D c pre W hD hpre ⟨⟨rfl,hfh⟩,h3,hB⟩ hK
  have Hyes:=hid (show lastN pre=(vicK l b t q:Int) from by unfold vicK;rw [HZ.out];exact firstHit_is hfh hpre)
  have hc5:=cell_kept h3.cell (grownBy_putObj' _ D (.deferred none)) (fun r e=>by cases e;exact ⟨_,hK,rfl⟩)
  have Hend:=hid (hB.trans (belowK_b (w:=w) (Nat.le_refl _) _ D _ (.deferred none) (by simp at hD;have:=HS4.out;omega) hK rfl rfl))
  clear hpre hfh
  gi_wp2
  refine ⟨by simp,.inl ⟨_,_,rfl,run_takeDeferred hK,?_⟩⟩
  refine ⟨.int .i64 (lastN pre),?_,by rw [Hyes.out],Hend.out⟩
  simp [results,Tryz.f143,go_sem,hc5]
end Go.Proofs.YtdcndkojmflhnaaGreat
