/- Walks of package place; each theorem names its own conditions. -/
import Derived.Test.YtdcndkojmflhnaaGreatPSeekS
import Derived.Test.YtdcndkojmflhnaaGreatPReqL
import Derived.Test.YtdcndkojmflhnaaGreatPCore
import Derived.Test.YtdcndkojmflhnaaGreatPRunsY
import Derived.Test.YtdcndkojmflhnaaGreatPRunsZ
import Derived.Deep.AppendLies
import Derived.Deep.RegionHeld3
import Derived.WalkSpells
import Derived.StillTactics
import Derived.Tactics2
import Derived.MapKept
import Derived.Carry
/- Places, plainly: what place.Find finds; no program in sight. -/
set_option linter.unusedVariables false
set_option maxRecDepth 100000
set_option maxHeartbeats 8000000
set_option linter.unusedSimpArgs false
set_option linter.unusedVariables false
namespace Go.Proofs.YtdcndkojmflhnaaGreat
open Go.RowKit
open List renaming getElem_toArray→zA,getElem_cons_zero→zB,getElem_cons_succ→zC,setIfInBounds_toArray→zD,set_cons_zero→zE,set_cons_succ→zF
def pieceT (x:Nat→Int) (r:Request) (a k:Nat):Option Nat:=firstT x a r.Until.toNat (pL r k).toNat (pN r k)
theorem pieceT_lt {x:Nat→Int} {r:Request} {a k t:Nat} (h48:r.Until.toNat≤48) (h:pieceT x r a k=some t):t < 48:=by
 have:=firstT_is x a r.Until.toNat (pL r k).toNat (pN r k)
 unfold pieceT at h
 rw [h] at this
 have:=this.2.1;omega
theorem pieceT_in {x:Nat→Int} {r:Request} {a k t:Nat} (h:pieceT x r a k=some t):a≤t∧t < r.Until.toNat∧HasT x t r.Until.toNat (pL r k).toNat (pN r k):=by
 have:=firstT_is x a r.Until.toNat (pL r k).toNat (pN r k)
 unfold pieceT at h
 rw [h] at this
 exact ⟨this.1,this.2.1,this.2.2.1⟩
theorem seekR_piece {f:List Run} {r:Request} {a k:Nat}:seekR f (a:Int) r.Until (pL r k) (pN r k)=match pieceT (sp f) r a k with | some t=>((t:Int),true) | none=>(0,false):=by
 unfold seekR pieceT;simp only [Int.toNat_natCast]
 cases firstT (sp f) a r.Until.toNat (pL r k).toNat (pN r k) <;> rfl
def anyGo (x:Nat→Int) (r:Request):Nat→Nat→List Bite
 | 0,_=>[]
 | m+1,k=>match pieceT x r r.From.toNat k with
  | some t=>[⟨(k:Int),(t:Int)⟩]
  | none=>anyGo x r m (k+1)
def eachGo (r:Request) (nx:(Nat→Int)→Nat→Nat→Nat→Int) (na:Nat→Nat→Nat):Nat→Nat→(Nat→Int)→Nat→List Bite→List Bite
 | 0,_,_,_,out=>out
 | m+1,k,x,a,out=>match pieceT x r a k with
  | none=>[]
  | some t=>eachGo r nx na m (k+1) (nx x k t) (na k t) (out++[⟨(k:Int),(t:Int)⟩])
def keepX (x:Nat→Int) (_ _:Nat):Nat→Int:=x
def takeX (r:Request) (x:Nat→Int) (k t:Nat):Nat→Int:=fun i=>x i+hillT t (t+(pL r k).toNat) (-(pN r k)) i
def behindA (r:Request) (k t:Nat):Nat:=t+(pL r k).toNat
def fromA (r:Request) (_ _:Nat):Nat:=r.From.toNat
def startT (r:Request) (t:Nat):Nat→Nat
 | 0=>t
 | k+1=>startT r t k+(pL r k).toNat
def rowB (r:Request) (t:Nat) (k:Nat):List Bite:=(List.range k).map fun (i:Nat)=>(⟨(i:Int),(startT r t i:Int)⟩:Bite)
theorem rowB_succ (r:Request) (t k:Nat):rowB r t (k+1)=rowB r t k++[⟨(k:Int),(startT r t k:Int)⟩]:=by simp [rowB,List.range_succ]
theorem rowB_len (r:Request) (t k:Nat):(rowB r t k).length=k:=by simp [rowB]
def TightK (x:Nat→Int) (r:Request) (t k:Nat):Prop:=HasT x (startT r t k) r.Until.toNat (pL r k).toNat (pN r k)
instance (x:Nat→Int) (r:Request) (t k:Nat):Decidable (TightK x r t k):=inferInstanceAs (Decidable (HasT _ _ _ _ _))
def TightAt (x:Nat→Int) (r:Request) (t:Nat):Prop:=∀ k,k < r.Pieces.length→TightK x r t k
instance (x:Nat→Int) (r:Request) (t:Nat):Decidable (TightAt x r t):=inferInstanceAs (Decidable (∀ k,k < r.Pieces.length→_))
def tightGo (x:Nat→Int) (r:Request):Nat→Nat→List Bite
 | 0,_=>[]
 | m+1,t=>if TightAt x r t then rowB r t r.Pieces.length else tightGo x r m (t+1)
theorem tightGo_skip {x:Nat→Int} {r:Request}:∀ {d m t:Nat},d≤m→(∀ s,t≤s→s < t+d→¬ TightAt x r s)→tightGo x r m t=tightGo x r (m - d) (t+d)
 | 0,m,t,_,_=>by simp
 | d+1,0,t,h,_=>by omega
 | d+1,m+1,t,h,hn=>by
  have h1:tightGo x r (m+1) t=tightGo x r m (t+1):=by
   rw [tightGo,if_neg (hn t (Nat.le_refl _) (by omega))]
  rw [h1,tightGo_skip (d:=d) (by omega) (fun s h1 h2=>hn s (by omega) (by omega)),show m+1 - (d+1)=m - d by omega,show t+1+d=t+(d+1) by omega]
theorem tightGo_none {x:Nat→Int} {r:Request} {m t:Nat} (hn:∀ s,t≤s→s < t+m→¬ TightAt x r s):tightGo x r m t=[]:=by
 rw [tightGo_skip (d:=m) (Nat.le_refl _) hn,Nat.sub_self];rfl
@[irreducible] def placeL (x:Nat→Int) (r:Request):List Bite :=
 if r.Kind=4 then tightGo x r (r.Until.toNat - r.From.toNat) r.From.toNat
 else if r.Kind=3 then eachGo r keepX (behindA r) r.Pieces.length 0 x r.From.toNat []
 else if r.Kind=2 then anyGo x r r.Pieces.length 0
 else eachGo r (takeX r) (fromA r) r.Pieces.length 0 x r.From.toNat []
theorem placeL_tight {x:Nat→Int} {r:Request} (h:r.Kind=4):placeL x r=tightGo x r (r.Until.toNat - r.From.toNat) r.From.toNat:=by unfold placeL;rw [if_pos h]
theorem placeL_order {x:Nat→Int} {r:Request} (h:r.Kind=3):placeL x r=eachGo r keepX (behindA r) r.Pieces.length 0 x r.From.toNat []:=by unfold placeL;rw [if_neg (by omega),if_pos h]
theorem placeL_any {x:Nat→Int} {r:Request} (h:r.Kind=2):placeL x r=anyGo x r r.Pieces.length 0:=by unfold placeL;rw [if_neg (by omega),if_neg (by omega),if_pos h]
theorem placeL_all {x:Nat→Int} {r:Request} (h:r.Kind=1):placeL x r=eachGo r (takeX r) (fromA r) r.Pieces.length 0 x r.From.toNat []:=by unfold placeL;rw [if_neg (by omega),if_neg (by omega),if_neg (by omega)]
theorem fold_all {x:Nat→Int} {p:Int→Prop} (h:∀ t,t < 48→p (x t)):∀ r∈fold x,p r.N:=fun r hr=>by
 have hs:=shape_fold x
 obtain ⟨k,hk,rfl⟩:=List.mem_iff_getElem.1 hr
 obtain ⟨h1,h2,h3,h4⟩:=shape_idx hs hk
 have e1:curN (fold x) k=((fold x)[k]).N:=curN_some (List.getElem?_eq_getElem hk)
 have h5:=h4 (curAt (fold x) k).toNat (by omega) (by omega)
 rw [← e1,← h5,sp_fold (by omega)]
 exact h _ (by omega)
def SeekerAt (w:World) (B:Nat) (r:Request) (pv fv:Value):Prop:=w.heap[B]?=some (.cells #[.int .i64 r.Queue,.int .i64 r.From,.int .i64 r.Until,.int .i64 r.Kind,pv,fv] 135 (0,0))
theorem SeekerAt.ext {w w':World} {B:Nat} {r:Request} {pv fv:Value} (h:SeekerAt w B r pv fv) (hx:Ext w w'):SeekerAt w' B r pv fv :=
 (hx.block _ (Array.getElem?_eq_some_iff.1 h).1).trans h
theorem SeekerAt.cells {w:World} {B:Nat} {r:Request} {pv fv:Value} (h:SeekerAt w B r pv fv):w.cell? ⟨B,0,none⟩=some (.int .i64 r.Queue)∧w.cell? ⟨B,1,none⟩=some (.int .i64 r.From)∧w.cell? ⟨B,2,none⟩=some (.int .i64 r.Until)∧w.cell? ⟨B,3,none⟩=some (.int .i64 r.Kind)∧w.cell? ⟨B,4,none⟩=some pv∧w.cell? ⟨B,5,none⟩=some fv:=by
 have c:∀ j,w.cell? ⟨B,j,none⟩=_:=fun j=>cell_of_row w B j _ _ _ h
 exact ⟨c _,c _,c _,c _,c _,c _⟩
theorem SeekerAt.lt {w:World} {B:Nat} {r:Request} {pv fv:Value} (h:SeekerAt w B r pv fv):B < w.heap.size:=(Array.getElem?_eq_some_iff.1 h).1
theorem req_range {r:Request} (hr:ReqOk r):(0≤r.From∧r.From < r.Until∧r.Until≤48)∧∀ k,k < r.Pieces.length→(1≤pL r k∧pL r k≤24)∧1≤pN r k∧pN r k≤50:=by
 refine ⟨hr.range.1,fun k hk=>?_⟩
 obtain ⟨y,hy⟩:=getA (f:=r.Pieces) (k:=k) hk
 have h1:=hr.range.2 y (List.mem_of_getElem? hy)
 rw [(piece_at hy).1,(piece_at hy).2]
 exact h1
theorem first_any (w:World) (B:Nat) (r:Request) (pv fv:Value) (f:List Run) (k:Nat) (a:Int) (hS:SeekerAt w B r pv fv) (hp:PiecesV w pv r.Pieces) (hf:RunsV w fv f) (hs:Shape f) (hr:ReqOk r) (hk:k < r.Pieces.length) (ha:0≤a∧a≤48) :
  Calls Tryz.prog 152 #[.pointer (some ⟨B,0,none⟩),.int .i64 k,.int .i64 a] w (RetIs w (seekR f a r.Until (pL r k) (pN r k))):=by
 obtain ⟨⟨q1,q2,q3⟩,q4⟩:=req_range hr
 obtain ⟨⟨q5,q6⟩,q7,q8⟩:=q4 k hk
 obtain ⟨c0,c1,c2,c3,c4,c5⟩:=hS.cells
 obtain ⟨pb,po,pc,rfl,hpc,hpc9,hpb,hpE⟩:=pieces_at hp (by omega)
 obtain ⟨y,hy⟩:=getA (f:=r.Pieces) (k:=k) hk
 obtain ⟨d1,d2,d3,d4⟩:=hpE k y hy
 have S:=hid (fun (W:World) (h:Ext w W)=>Seek_any W fv f a r.Until (pL r k) (pN r k) (hf.mono h) hs ha ⟨by omega,by omega⟩ ⟨by omega,by omega⟩)
 rw [(piece_at hy).1,(piece_at hy).2] at S
 rw [(piece_at hy).1,(piece_at hy).2]
 have hal:=hid (fun (o:Obj)=>(Ext.rf w).al o)
 obtain ⟨fa,fc,rfl,_,_,_⟩:=hf.form
 have hlt':(k:Int) < (r.Pieces.length:Int):=by omega
 clear hS hp hf hs hr hpE hy q5 q6 q7 q8 q4
 generalize r.Pieces.length=n at *
 generalize f.length=fn at *
 generalize hsk:seekR f a r.Until y.Len y.N=sk at *
 clear hsk
 go_enter Tryz.func152,Tryz.ntmps152
 go_wp2_with fail
 have hx1:=hid (hal.out (.cells #[.int .i64 y.Len,.int .i64 y.N] 44))
 have g0:(w.alloc (.cells #[.int .i64 y.Len,.int .i64 y.N] 44)).cell? ⟨w.heap.size,0,none⟩=some (.int .i64 y.Len):=cell_of_row _ _ 0 _ _ _ (heap_alloc_new w _)
 have g1:(w.alloc (.cells #[.int .i64 y.Len,.int .i64 y.N] 44)).cell? ⟨w.heap.size,1,none⟩=some (.int .i64 y.N):=cell_of_row _ _ 1 _ _ _ (heap_alloc_new w _)
 replace c2:=hx1.out.ce' c2
 replace c5:=hx1.out.ce' c5
 clear c0 c1 c3 c4 d1 d2 hal
 generalize w.alloc (.cells #[.int .i64 y.Len,.int .i64 y.N] 44)=W1 at *
 generalize w.heap.size=B1 at *
 obtain ⟨s1,s2⟩:=sk
 replace c2:=fun p:Later W1=>p.cell c2
 replace c5:=fun p:Later W1=>p.cell c5
 replace g0:=fun p:Later W1=>p.cell g0
 replace g1:=fun p:Later W1=>p.cell g1
 have S1:=hid (fun p:Later W1=>later_of p (S.out p.v (hx1.out.tr p.h)))
 refine region_later_tail 17 (by kernel_rfl) (by kernel_rfl) ?_
 simp only [List.take_succ_cons,List.take_zero,List.drop_succ_cons,List.drop_zero]
 repeat (go_big_quiet_step (exact S1.out _))
 refine wpQuiet_nil ?_
 rintro w' ⟨p,rfl⟩
 go_wp2_with fail
 go_ret2
 exact ⟨rfl,hx1.out.tr p.h⟩
def FreshV (W:World) (v:Value):Prop:=∀ a n c,v=.slice (some a) n c→W.heap.size≤a.block
theorem freshV_none (W:World) (n c:Nat):FreshV W (.slice none n c):=fun a m d e=>by cases e
theorem fresh_own {w0 w:World} {base e sz n:Nat} {v:Value} {xs:List Value} (h:w.ownsRow base e sz v n xs) (hb:w0.heap.size≤base):FreshV w0 v:=fun a m c e=>by
 subst e;exact Nat.le_trans hb (own_lt h a.block rfl)
def RetPlace (w0:World) (l:List Bite) (e:Ending) (w':World):Prop:=∃ v,e=.returned v∧BitesV w' v l∧((l=[]→v=.slice none 0 0)∧FreshV w0 v)∧Ext w0 w'
theorem any_any (w:World) (B:Nat) (r:Request) (pv fv:Value) (f:List Run) (hS:SeekerAt w B r pv fv) (hp:PiecesV w pv r.Pieces) (hf:RunsV w fv f) (hs:Shape f) (hr:ReqOk r) :
  Calls Tryz.prog 91 #[.pointer (some ⟨B,0,none⟩)] w (RetPlace w (anyGo (sp f) r r.Pieces.length 0)):=by
 obtain ⟨⟨q1,q2,q3⟩,q4⟩:=req_range hr
 obtain ⟨m1,m3⟩:=hr.many
 obtain ⟨c0,c1,c2,c3,c4,c5⟩:=hS.cells
 obtain ⟨pb,po,pc,rfl,hpc,hpc9,hpb,hpE⟩:=pieces_at hp (by omega)
 have F:=hid (fun (k:Nat) (hk:k < r.Pieces.length) (W:World) (h:Ext w W)=>first_any W B r _ fv f k r.From (hS.ext h) (hp.mono h) (hf.mono h) hs hr hk ⟨by omega,by omega⟩)
 have G:=hid (show ∀ k,seekR f r.From r.Until (pL r k) (pN r k)=match pieceT (sp f) r r.From.toNat k with | some t=>((t:Int),true) | none=>(0,false) from fun k=>by
  have:=seekR_piece (f:=f) (r:=r) (a:=r.From.toNat) (k:=k);rwa [show ((r.From.toNat:Nat):Int)=r.From by omega] at this)
 have H0:=hid (show ∀ k,anyGo (sp f) r 0 k=[] from fun _=>rfl)
 have H1:=hid (show ∀ m k,anyGo (sp f) r (m+1) k=match pieceT (sp f) r r.From.toNat k with | some t=>[⟨(k:Int),(t:Int)⟩] | none=>anyGo (sp f) r m (k+1) from fun _ _=>rfl)
 have PB:=hid (fun (k t:Nat) (h:pieceT (sp f) r r.From.toNat k=some t)=>pieceT_lt (by omega:r.Until.toNat≤48) h)
 clear hS hp hf hs hr hpE q4 c0 c2 c3
 generalize r.Pieces.length=n at *
 generalize anyGo (sp f) r=g at *
 generalize pieceT (sp f) r r.From.toNat=pt at *
 obtain ⟨R,hR⟩:∃ R,g n 0=R:=⟨_,rfl⟩
 have HR:=hid hR
 rw [hR]
 clear hR
 go_enter Tryz.func91,Tryz.ntmps91
 go_wp2_with fail
 go_loopw [12] (fun c wr=>∃ k:Nat,c=.int .i64 k∧k≤n∧Hid (g (n - k) k=R)∧Ext w wr) (fun c _=>n - (intOf c).toNat)
 case atStart=>exact ⟨0,rfl,by omega,HR,Ext.rf _⟩
 case round =>
  obtain ⟨k,rfl,hk,Hg,hx⟩:=hrel
  by_cases hlt:k < n
  ·have hlt':(k:Int) < (n:Int):=by omega
   have hg:=Hg.out
   rw [show n - k=(n - (k+1))+1 by omega,H1.out] at hg
   replace c1:=hx.ce' c1
   have F1:=hid (F.out k hlt wr hx)
   rw [G.out k] at F1
   cases hp:pt k with
   | some t =>
    rw [hp] at hg F1
    have HG:=hid hg
    have ht:=PB.out k t hp
    clear hg hp Hg
    go_wp2_with fail
    refine F1.out.mono ?_
    rintro e w2 ⟨rfl,hx2⟩
    go_wp2_with fail
    go_ret
    refine ⟨_,rfl,?_,⟨fun h=>?_,fun a n' c e=>by cases e;exact (hx.tr hx2).size⟩,(hx.tr hx2).al _⟩
    ·rw [← HG.out]
     exact pairs_lit (α:=Bite) [⟨(k:Int),(t:Int)⟩] rfl rfl rfl (by simp) (fun x hxx=>by simp at hxx;subst hxx;exact ⟨I64.of (by show -9223372036854775808≤(k:Int);omega) (by show (k:Int)≤9223372036854775807;omega),I64.of (by show -9223372036854775808≤(t:Int);omega) (by show (t:Int)≤9223372036854775807;omega)⟩)
    ·rw [h] at HG;exact absurd HG.out (by simp)
   | none =>
    rw [hp] at hg F1
    have HG:=hid hg
    clear hg hp Hg
    go_wp2_with fail
    refine F1.out.mono ?_
    rintro e w2 ⟨rfl,hx2⟩
    go_wp2_with fail
    go_roundw
    case rel=>exact ⟨k+1,by go_num,by omega,HG,hx.tr hx2⟩
    case measure=>simp [intOf];omega
  ·obtain rfl:k=n:=by omega
   have hlt':¬ (k:Int) < (k:Int):=by omega
   have hg:=Hg.out
   rw [Nat.sub_self,H0.out] at hg
   subst hg
   go_wp2_with fail
   go_ret
   exact ⟨_,rfl,SV.nil,⟨fun _=>rfl,freshV_none _ _ _⟩,hx⟩
def LeftAt (w0:World) (B:Nat) (r:Request) (pv:Value) (k:Nat) (x:Nat→Int) (fv:Value) (W:World):Prop :=
 Ext w0 W∧∃ f,SeekerAt W B r pv fv∧RunsV W fv f∧Shape f∧(∀ t,t < 48→sp f t=x t)∧∀ y∈f,-1048576 - 50*(k:Int)≤y.N∧y.N≤1048576
theorem LeftAt.ext {w0:World} {B:Nat} {r:Request} {pv fv:Value} {k:Nat} {x:Nat→Int} {W W':World} (h:LeftAt w0 B r pv k x fv W) (hx:Ext W W'):LeftAt w0 B r pv k x fv W':=by
 obtain ⟨h1,f,h2,h3,h4⟩:=h
 exact ⟨h1.tr hx,f,h2.ext hx,h3.mono hx,h4⟩
theorem LeftAt.next {w0:World} {B:Nat} {r:Request} {pv fv:Value} {k:Nat} {x:Nat→Int} {W:World} (h:LeftAt w0 B r pv k x fv W):LeftAt w0 B r pv (k+1) x fv W:=by
 obtain ⟨h1,f,h2,h3,h4,h5,h6⟩:=h
 exact ⟨h1,f,h2,h3,h4,h5,fun y hy=>by have:=h6 y hy;omega⟩
def ApartV (v:Value) (row:Option Nat):Prop:=∀ a n c,v=.slice (some a) n c→some a.block≠row
theorem runsV_grown {w w':World} {v:Value} {f:List Run} {row:Option Nat} (h:RunsV w v f) (hg:w.grownBy w' row) (ha:ApartV v row):RunsV w' v f:=by
 rcases h with h | ⟨b,off,cap,rfl,h1,h2,hl,h3,h4⟩
 ·exact .inl h
 ·refine .inr ⟨b,off,cap,rfl,h1,h2,hl,Nat.lt_of_lt_of_le h3 hg.size,fun k x hk=>?_⟩
  have hc:∀ o,w'.cell? ⟨b,o,none⟩=w.cell? ⟨b,o,none⟩:=fun o=>World.cell?_of_block (a:=⟨b,o,none⟩) (hg.block b h3 (ha _ _ _ rfl))
  obtain ⟨e1,e2,e3⟩:=h4 k x hk
  exact ⟨by rw [hc];exact e1,by rw [hc];exact e2,e3⟩
theorem runsV_block {w:World} {v:Value} {f:List Run} (h:RunsV w v f) (hs:Shape f):∃ b off cap,v=.slice (some ⟨b,off,none⟩) f.length cap∧b < w.heap.size:=by
 obtain ⟨b,off,cap,h1,_,_,_,h2,_⟩:=h.some hs
 exact ⟨b,off,cap,h1,h2⟩
theorem LeftAt.grown {w0:World} {B:Nat} {r:Request} {pv fv:Value} {k:Nat} {x:Nat→Int} {W W':World} {row:Option Nat} (h:LeftAt w0 B r pv k x fv W) (hg:W.grownBy W' row) (ha:ApartV fv row) (hB:some B≠row) (hw:∀ k,row=some k→w0.heap.size≤k):LeftAt w0 B r pv k x fv W':=by
 obtain ⟨h1,f,h2,h3,h4⟩:=h
 exact ⟨Below.grown h1 hg h1.size hw,f,(hg.block B h2.lt hB).trans h2,runsV_grown h3 hg ha,h4⟩
theorem ownsRow_grown {w w':World} {base e sz n:Nat} {v:Value} {xs:List Value} {B:Nat} (h:w.ownsRow base e sz v n xs) (hg:w.grownBy w' (some B)) (hB:B < base):w'.ownsRow base e sz v n xs:=by
 obtain ⟨h1,h2⟩:=h
 refine ⟨h1,?_⟩
 rcases h2 with h2 | ⟨g,cap,cur,hv,hb,hg',r⟩
 ·exact .inl h2
 ·exact .inr ⟨g,cap,cur,hv,hb,by rw [hg.block g (Array.getElem?_eq_some_iff.1 hg').1 (fun e=>by simp at e;omega)];exact hg',r⟩
theorem grown_of_ext {w w':World} {B:Nat} (h:Ext w w'):w.grownBy w' (some B):=⟨h.os,h.tape,h.output,h.size,fun k hk _=>h.block k hk⟩
theorem grown_trans {a b c:World} {B:Option Nat} (h:a.grownBy b B) (k:b.grownBy c B):a.grownBy c B :=
 ⟨k.os.trans h.os,k.tape.trans h.tape,k.output.trans h.output,Nat.le_trans h.size k.size,fun j hj hne=>(k.block j (Nat.lt_of_lt_of_le hj h.size) hne).trans (h.block j hj hne)⟩
theorem grown_row {w W W':World} {B:Nat} {row:Option Nat} (h:w.grownBy W (some B)) (hg:W.grownBy W' row) (hr:∀ k,row=some k→w.heap.size≤k):w.grownBy W' (some B) :=
 ⟨hg.os.trans h.os,hg.tape.trans h.tape,hg.output.trans h.output,Nat.le_trans h.size hg.size,fun j hj hne=>(hg.block j (Nat.lt_of_lt_of_le hj h.size) (fun e=>by have:=hr j e.symm;omega)).trans (h.block j hj hne)⟩
theorem pieceT_congr {x y:Nat→Int} {r:Request} {a k:Nat} (h48:r.Until.toNat≤48) (h:∀ t,t < 48→x t=y t):pieceT x r a k=pieceT y r a k:=by
 unfold pieceT;exact firstT_congr (fun i hi=>h i (by omega))
theorem first_left {w0 W:World} {B:Nat} {r:Request} {pv fv:Value} {k j:Nat} {x:Nat→Int} (h:LeftAt w0 B r pv k x fv W) (hp:PiecesV w0 pv r.Pieces) (hr:ReqOk r) (hj:j < r.Pieces.length) {a:Nat} (ha:a≤48) :
  Calls Tryz.prog 152 #[.pointer (some ⟨B,0,none⟩),.int .i64 j,.int .i64 a] W (RetIs W (match pieceT x r a j with | some t=>((t:Int),true) | none=>(0,false))):=by
 obtain ⟨h1,f,h2,h3,h4,h5,h6⟩:=h
 obtain ⟨⟨q1,q2,q3⟩,_⟩:=req_range hr
 have:=first_any W B r pv fv f j (a:Int) h2 (hp.mono h1) h3 h4 hr hj ⟨by omega,by omega⟩
 rw [seekR_piece,pieceT_congr (by omega) h5] at this
 exact this
def bitesV (l:List Bite):List Value:=cells2 Bite.Piece Bite.At l
theorem bitesV_snoc (l:List Bite) (x:Bite):bitesV (l++[x])=bitesV l++[.int .i64 x.Piece,.int .i64 x.At]:=cells2_snoc _ _ _ _
theorem Tryz.info42:(Tryz.prog.info? 42).map (fun i=>(i.zero,i.size,i.bytes))=some (some (.agg #[.int .i64 0,.int .i64 0]),2,16):=by kernel_rfl
theorem each_any (w0 w:World) (B:Nat) (r:Request) (pv:Value) (x0:Nat→Int) (G:Nat) (lb:Array Value) (nx:(Nat→Int)→Nat→Nat→Nat→Int) (na:Nat→Nat→Nat)
  (fv0:Value) (h0:LeftAt w0 B r pv 0 x0 fv0 w) (hp:PiecesV w0 pv r.Pieces) (hr:ReqOk r) (hB:w0.heap.size≤B)
  (heg:∀ (args:Array Value) (w:World),(callFunc G args).run Tryz.prog w=.ok (.enter G args) w)
  (hn:∀ k y x t fv W,r.Pieces[k]?=some y→LeftAt w0 B r pv k x fv W→w.grownBy W (some B)→t+(pL r k).toNat≤48→na k t≤48∧Calls Tryz.prog G (#[.agg #[.int .i64 y.Len,.int .i64 y.N],.int .i64 t]++lb) W fun e w'=>e=.returned (.int .i64 (na k t))∧∃ fv',(fv'=fv∨FreshV W fv')∧LeftAt w0 B r pv (k+1) (nx x k t) fv' w'∧W.grownBy w' (some B)) :
  Calls Tryz.prog 148 #[.pointer (some ⟨B,0,none⟩),.func (.func G) #[] lb] w fun e w'=>∃ v,e=.returned v∧BitesV w' v (eachGo r nx na r.Pieces.length 0 x0 r.From.toNat [])∧((eachGo r nx na r.Pieces.length 0 x0 r.From.toNat []=[]→v=.slice none 0 0)∧FreshV w0 v)∧Ext w0 w':=by
 obtain ⟨⟨q1,q2,q3⟩,q4⟩:=req_range hr
 obtain ⟨m1,m3⟩:=hr.many
 obtain ⟨hx0,f0,hS0,hR0,hs0,_⟩:=id h0
 obtain ⟨c0,c1,c2,c3,c4,c5⟩:=hS0.cells
 have F:=hid (fun (k j:Nat) (x:Nat→Int) (fv:Value) (W:World) (h:LeftAt w0 B r pv k x fv W) (hj:j < r.Pieces.length) (a:Nat) (ha:a≤48)=>first_left h hp hr hj ha)
 obtain ⟨ir,ir1,ir2,ir3,ir4⟩:=info_parts Tryz.info42
 obtain ⟨pb,po,pc,rfl,hpc,hpc9,hpb,hpE⟩:=pieces_at hp (by omega)
 have HE:=hid hpE
 have HN:=hid hn
 have H0:=hid (show ∀ k x a out,eachGo r nx na 0 k x a out=out from fun _ _ _ _=>rfl)
 have H1:=hid (show ∀ m k x a out,eachGo r nx na (m+1) k x a out=match pieceT x r a k with | none=>[] | some t=>eachGo r nx na m (k+1) (nx x k t) (na k t) (out++[⟨(k:Int),(t:Int)⟩]) from fun _ _ _ _ _=>rfl)
 have HP:=hid (fun (x:Nat→Int) (a k t:Nat) (h:pieceT x r a k=some t)=>pieceT_in h)
 have HL:=hid h0
 have HBw:=hS0.lt
 have HA0:=hid (show ApartV fv0 none from fun a n c _=>by simp)
 have HFB:=hid hx0.size
 obtain ⟨R,hR⟩:∃ R,eachGo r nx na r.Pieces.length 0 x0 r.From.toNat []=R:=⟨_,rfl⟩
 have HR:=hid hR
 rw [hR]
 have hfr:(r.From.toNat:Int)=r.From:=by omega
 have hU:r.Until.toNat≤48:=by omega
 have hF48:r.From.toNat≤48:=by omega
 clear h0 hp hr hpE hn hS0 hR hR0 hs0 q4 c0 c2 c3 c5
 generalize hnn:r.Pieces.length=n at *
 have Hnn:=hid hnn
 clear hnn
 generalize eachGo r nx na=g at *
 generalize pieceT=pt at *
 go_enter Tryz.func148,Tryz.ntmps148
 go_wp2_with fail
 go_loopw [5,6,22] (fun v fa c wr=>∃ (k a:Nat) (x:Nat→Int) (fv ov:Value) (out:List Bite),ov=v∧fa=.int .i64 (a:Int)∧c=.int .i64 k∧k≤n∧a≤48∧out.length=k∧Hid (g (n - k) k x a out=R)∧Hid (LeftAt w0 B r (.slice (some ⟨pb,po,none⟩) n pc) k x fv wr)∧Hid (wr.ownsRow w.heap.size 42 2 ov k (bitesV out))∧Hid (ApartV fv ov.ownBlock)∧Hid (∀ y∈out,I64 y.Piece∧I64 y.At)∧Hid (w.grownBy wr (some B))) (fun _ _ c _=>n - (intOf c).toNat)
 case atStart=>exact ⟨0,r.From.toNat,x0,fv0,_,[],rfl,by rw [hfr],rfl,by omega,hF48,rfl,HR,HL,World.ownsRow_nil _ _ _ _,HA0,hid (fun y hy=>by cases hy),hid (grown_of_ext (Ext.rf w))⟩
 case round =>
  obtain ⟨k,a,x,fv,ov,out,rfl,rfl,rfl,hk,ha,hol,Hg,Hl,Hown,Hap,Hout,Hgw⟩:=hrel
  have hsz:=Hgw.out.size
  have hx:=Hl.out.1
  by_cases hlt:k < n
  ·have hlt':(k:Int) < (n:Int):=by omega
   have hg:=Hg.out
   rw [show n - k=(n - (k+1))+1 by omega,H1.out] at hg
   obtain ⟨y,hy⟩:=getA (f:=r.Pieces) (k:=k) (by rw [Hnn.out];exact hlt)
   obtain ⟨d1,d2,_,_⟩:=E2.mono w0 wr pb _ y hx (HE.out k y hy)
   have F1:=hid (fun (W:World) (h:Ext wr W)=>F.out k k x fv W (Hl.out.ext h) hlt a ha)
   have HN1:=hid (fun (t:Nat) (fv:Value) (W:World)=>HN.out k y x t fv W hy)
   cases hp:pt x r a k with
   | none =>
    rw [hp] at hg F1
    have HG:=hid hg
    clear hg hp Hg hy
    go_wp2_with fail
    refine (F1.out _ ((Ext.rf _).al _)).mono ?_
    rintro e w2 ⟨rfl,hx2⟩
    go_wp2_with fail
    go_ret
    exact ⟨_,rfl,by rw [← HG.out];exact SV.nil,⟨fun _=>rfl,freshV_none _ _ _⟩,hx.tr (((Ext.rf _).al _).tr hx2)⟩
   | some t =>
    rw [hp] at hg F1
    have HG:=hid hg
    obtain ⟨p1,p2,p3⟩:=HP.out x a k t hp
    have ht48:t+(pL r k).toNat≤48:=by have:=p3.1;omega
    clear hg hp Hg hy p3
    go_wp2_with fail
    refine (F1.out _ ((Ext.rf _).al _)).mono ?_
    rintro e w2 ⟨rfl,hx2⟩
    have hBX:wr.heap.size < w2.heap.size:=by have:=hx2.size;simp at this;omega
    have k0:w2.cell? ⟨wr.heap.size,0,none⟩=some (.int .i64 y.Len):=hx2.ce' (cell_of_row _ _ 0 _ _ _ (heap_alloc_new wr _))
    have k1:w2.cell? ⟨wr.heap.size,1,none⟩=some (.int .i64 y.N):=hx2.ce' (cell_of_row _ _ 1 _ _ _ (heap_alloc_new wr _))
    have hx02:=((Ext.rf wr).al (.cells #[.int .i64 y.Len,.int .i64 y.N] 44)).tr hx2
    have hownW:=ownsRow_ext Hown.out hx02
    have hlt3:∀ g,ov.ownBlock=some g→w.heap.size≤g∧g < wr.heap.size:=fun g hg=>Hown.out.lt g hg
    have n1:some wr.heap.size≠ov.ownBlock:=fun e=>by have:=(hlt3 _ e.symm).2;omega
    have HX2:=hid hx02
    have Hlt3:=hid hlt3
    clear hx2 hx02 hlt3
    generalize wr.heap.size=BX at *
    go_wp2_with (at_builtin;refine wpList_append_lies _ rfl _ _ 38 rfl w.heap.size 42 ir _ 2 16 Tryz.underlying38 ir1 ir2 ir3 ir4 rfl (by decide) _ _ _ rfl (hownW.alloc _) ⟨w2.heap.size,0,none⟩ 1 1 [.int .i64 k,.int .i64 t] rfl rfl (new2 _ (by simp) _ _ _) (one2 _ _ _ _) (by decide) (by unfold maxLen;omega) (by omega) (by simp;omega) (w2.heap.size+1) (by simp) ?_)
    intro gg cap W2 hown2 hgrow hat hlt4
    have HBne:=hid (show some B≠ov.ownBlock from fun e=>by have:=(Hlt3.out _ e.symm).1;omega)
    have hsz2:w.heap.size≤W2.heap.size:=by have:=hgrow.size;simp at this;omega
    replace k0:W2.cell? ⟨BX,0,none⟩=some (.int .i64 y.Len):=by rw [hgrow.cell_far ⟨BX,0,none⟩ (by simp;omega) n1];exact ((Ext.rf w2).al _).ce' k0
    replace k1:W2.cell? ⟨BX,1,none⟩=some (.int .i64 y.N):=by rw [hgrow.cell_far ⟨BX,1,none⟩ (by simp;omega) n1];exact ((Ext.rf w2).al _).ce' k1
    have HL2:=hid ((Hl.out.ext (HX2.out.tr ((Ext.rf w2).al _))).grown hgrow Hap.out HBne.out (fun j hj=>by have:=(Hlt3.out _ hj).1;have:=hx0.size;omega))
    have Hfv:=hid (show ∀ b n c,fv=.slice (some b) n c→b.block < w2.heap.size from fun b n c e=>by
     obtain ⟨_,f,_,hf,hs,_⟩:=Hl.out.ext HX2.out
     obtain ⟨b',_,_,e',h'⟩:=runsV_block hf hs
     rw [e] at e';simp at e';rw [e'.1];exact h')
    have Hown2:=hid hown2
    have Hat:=hid hat
    have HGW2:=hid (grown_row (grown_trans Hgw.out (grown_of_ext (HX2.out.tr ((Ext.rf w2).al _)))) hgrow (fun j hj=>(Hlt3.out j hj).1))
    obtain ⟨ha2,hC⟩:=HN1.out t fv W2 HL2.out HGW2.out ht48
    have HC:=hid hC
    clear hown2 hgrow hat hC n1 hownW
    go_wp2_with fail
    refine HC.out.mono ?_
    rintro e w3 ⟨rfl,fv',hfv,hL3,hg3⟩
    have HL3:=hid hL3
    have HG3:=hid hg3
    have Hap3:=hid (show ApartV fv' (some gg) from fun b n c e h=>by
     simp at h
     rcases hfv with hfv | hfv
     ·subst hfv
      rcases Hat.out with h1 | h1
      ·exact Hap.out b n c e (by rw [h1,h])
      ·have:=Hfv.out b n c e;omega
     ·have:=hfv b n c e;omega)
    clear hL3 hg3 hfv
    go_wp2_with fail
    go_roundw
    case rel=>exact ⟨k+1,na k t,nx x k t,fv',_,out++[⟨(k:Int),(t:Int)⟩],rfl,rfl,by go_num,by omega,ha2,by simp [hol],HG,HL3,hid (ownsRow_grown (by rw [bitesV_snoc];exact Hown2.out) HG3.out HBw),Hap3,hid (fun z hz=>by
     rcases List.mem_append.1 hz with h | h
     ·exact Hout.out z h
     ·simp at h;subst h;exact ⟨I64.of (by show -9223372036854775808≤(k:Int);omega) (by show (k:Int)≤9223372036854775807;omega),I64.of (by show -9223372036854775808≤(t:Int);omega) (by show (t:Int)≤9223372036854775807;omega)⟩),hid (grown_trans HGW2.out HG3.out)⟩
    case measure=>simp [intOf];omega
  ·obtain rfl:k=n:=by omega
   have hlt':¬ (k:Int) < (k:Int):=by omega
   have hg:=Hg.out
   rw [Nat.sub_self,H0.out] at hg
   subst hg
   go_wp2_with fail
   go_ret
   have hov:=Hown.out
   rw [← hol] at hov
   exact ⟨_,rfl,sv_of_owns2 hov Hout.out (by omega),⟨fun h=>(by rw [h] at hol;simp at hol;omega),fresh_own hov HFB.out⟩,hx⟩
theorem order1 (y:Piece) (t:Nat) (W:World) (h1:1≤y.Len) (h2:y.Len≤24) (h3:t≤48) :
  Calls Tryz.prog 153 #[.agg #[.int .i64 y.Len,.int .i64 y.N],.int .i64 t] W fun e w'=>e=.returned (.int .i64 ((t:Int)+y.Len))∧Ext W w':=by
 go_enter Tryz.func153,Tryz.ntmps153
 go_wp2_with fail
 go_ret
 exact ⟨rfl,(Ext.rf W).al _⟩
theorem left_start {w0 w:World} {B:Nat} {r:Request} {pv fv:Value} {f:List Run} (hx:Ext w0 w) (hS:SeekerAt w B r pv fv) (hf:RunsV w fv f) (hfine:Fine f):LeftAt w0 B r pv 0 (sp f) fv w :=
 ⟨hx,f,hS,hf,hfine.1,fun _ _=>rfl,fun y hy=>by have:=hfine.2 y hy;exact ⟨by have:=this.1;omega,this.2⟩⟩
theorem order_any (w0 w:World) (B:Nat) (r:Request) (pv fv:Value) (f:List Run) (hx:Ext w0 w) (hB:w0.heap.size≤B) (hS:SeekerAt w B r pv fv) (hp:PiecesV w0 pv r.Pieces) (hf:RunsV w fv f) (hfine:Fine f) (hr:ReqOk r) :
  Calls Tryz.prog 92 #[.pointer (some ⟨B,0,none⟩)] w (RetPlace w0 (eachGo r keepX (behindA r) r.Pieces.length 0 (sp f) r.From.toNat [])):=by
 have E:=hid (each_any w0 w B r pv (sp f) 153 #[] keepX (behindA r) fv (left_start hx hS hf hfine) hp hr hB (enters_of Tryz.func153 (by kernel_rfl) rfl)
  (fun k y x t fv W hy hL _ ht=>⟨ht,(order1 y t W (by
    have:=hr.range.2 y (List.mem_of_getElem? hy);exact this.1.1) (by
    have:=hr.range.2 y (List.mem_of_getElem? hy);exact this.1.2) (by omega)).mono fun e w' ⟨he,hx'⟩=>⟨by
     rw [he];unfold behindA;rw [(piece_at hy).1]
     have:=(hr.range.2 y (List.mem_of_getElem? hy)).1.1
     rw [show ((t+y.Len.toNat:Nat):Int)=(t:Int)+y.Len by omega],fv,.inl rfl,(hL.ext hx').next,grown_of_ext hx'⟩⟩))
 clear hS hp hf hfine hr
 generalize eachGo r keepX (behindA r) r.Pieces.length 0 (sp f) r.From.toNat []=R at *
 go_enter Tryz.func92,Tryz.ntmps92
 go_wp2_with fail
 refine E.out.mono ?_
 rintro e w2 ⟨v,rfl,h⟩
 have H:=hid h
 clear h
 go_wp2_with fail
 go_ret
 exact ⟨_,rfl,H.out⟩
theorem frz_ext {w w':World} (hx:Ext w w') {b o:Nat} {v:Value} (hc:w.cell? ⟨b,o,none⟩=some v) (h:w.frozen? ⟨b,o,none⟩=false):w'.frozen? ⟨b,o,none⟩=false:=by
 rw [World.frozen?_of_block (a:=⟨b,o,none⟩) (hx.block b (World.block_lt_of_cell? w ⟨b,o,none⟩ hc))];exact h
theorem grown_set (w:World) (B o:Nat) (v:Value):w.grownBy (w.setCell ⟨B,o,none⟩ v) (some B) :=
 ⟨rfl,rfl,rfl,by simp,fun k hk hne=>heap_setCell_other w ⟨B,o,none⟩ k v (fun e=>hne (by rw [e]))⟩
theorem SeekerAt.put {w:World} {B:Nat} {r:Request} {pv fv:Value} (h:SeekerAt w B r pv fv) (v:Value):SeekerAt (w.setCell ⟨B,5,none⟩ v) B r pv v:=by
 unfold SeekerAt
 rw [heap_setCell_same w B 5 _ _ _ h];rfl
theorem all11 (a b:Int) (w:World) (ha:-1000000000≤a∧a≤1000000000) (hb:-1000000000≤b∧b≤1000000000):Calls Tryz.prog 151 #[.int .i64 a,.int .i64 b] w fun e w'=>e=.returned (.int .i64 (a+b))∧w'=w:=by
 obtain ⟨a1,a2⟩:=ha
 obtain ⟨b1,b2⟩:=hb
 go_enter Tryz.func151,Tryz.ntmps151
 go_wp2
 go_ret
 exact ⟨rfl,rfl⟩
theorem left_take {w0 W V:World} {B:Nat} {r:Request} {pv fv vz:Value} {f:List Run} {k t:Nat} {x:Nat→Int} {L N:Int} (hL:LeftAt w0 B r pv k x fv W) (hB:w0.heap.size≤B) (hxV:Ext W V) (hfr:FreshV W vz)
  (hsx:∀ i,i < 48→sp f i=x i) (hfb:∀ y∈f,-1048576 - 50*(k:Int)≤y.N∧y.N≤1048576) (hs:Shape f) (hk:k < r.Pieces.length) (hr:ReqOk r) (ht:t+(pL r k).toNat≤48)
  (hv:RunsV V vz (fold fun i=>sp f i+sp (hillL (t:Int) ((t:Int)+pL r k) (-(pN r k))) i)) :
  LeftAt w0 B r pv (k+1) (takeX r x k t) vz (V.setCell ⟨B,5,none⟩ vz):=by
 obtain ⟨_,q4⟩:=req_range hr
 obtain ⟨⟨q5,q6⟩,q7,q8⟩:=q4 k hk
 obtain ⟨hx0,f',hS,_⟩:=hL
 have hBW:=hS.lt
 have hz:∀ i,i < 48→sp f i+sp (hillL (t:Int) ((t:Int)+pL r k) (-(pN r k))) i=takeX r x k t i:=fun i hi=>by
  unfold takeX
  rw [hsx i hi,show (t:Int)+pL r k=((t+(pL r k).toNat:Nat):Int) by omega,hillL_eq (by omega) (by omega),sp_fold hi]
 refine ⟨(hx0.tr hxV).se hB _,_,(hS.ext hxV).put _,runsV_grown hv (grown_set V B 5 vz) (fun a n c e h=>by simp at h;have:=hfr a n c e;omega),shape_fold _,fun i hi=>by rw [sp_fold hi];exact hz i hi,?_⟩
 refine fold_all (p:=fun m=>-1048576 - 50*((k+1:Nat):Int)≤m∧m≤1048576) (fun i hi=>?_)
 rw [hz i hi]
 unfold takeX
 obtain ⟨y,hy,e⟩:=sp_mem f i (shape_ne hs)
 have h1:=hfb y hy
 rw [← hsx i hi,e]
 unfold hillT
 split <;> omega
def TakeAt (w0:World) (B:Nat) (r:Request) (pv:Value) (k:Nat) (x:Nat→Int) (fv:Value) (W w':World):Prop:=∃ fv',(fv'=fv∨FreshV W fv')∧LeftAt w0 B r pv (k+1) x fv' w'∧W.grownBy w' (some B)
theorem all1 (w0 W:World) (B BX:Nat) (r:Request) (pv fv:Value) (k t:Nat) (y:Piece) (x:Nat→Int) (hy:r.Pieces[k]?=some y) (hL:LeftAt w0 B r pv k x fv W) (hB:w0.heap.size≤B) (hbox:W.cell? ⟨BX,0,none⟩=some (.pointer (some ⟨B,0,none⟩))) (hne:BX≠B) (hr:ReqOk r) (ht:t+(pL r k).toNat≤48) :
  Calls Tryz.prog 149 #[.agg #[.int .i64 y.Len,.int .i64 y.N],.int .i64 t,.pointer (some ⟨BX,0,none⟩)] W fun e w'=>e=.returned (.int .i64 r.From)∧TakeAt w0 B r pv k (takeX r x k t) fv W w':=by
 have hk:k < r.Pieces.length:=(List.getElem?_eq_some_iff.1 hy).1
 obtain ⟨⟨q1,q2,q3⟩,q4⟩:=req_range hr
 obtain ⟨⟨q5,q6⟩,q7,q8⟩:=q4 k hk
 obtain ⟨_,f,hS,hf,hs,hsx,hfb⟩:=id hL
 obtain ⟨c0,c1,c2,c3,c4,c5⟩:=hS.cells
 have fz:W.frozen? ⟨B,5,none⟩=false:=frozen_of_row _ _ 5 _ _ hS
 have hBW:=hS.lt
 have LT:=hid (fun (V:World) (vz:Value) (hxV:Ext W V) (hfr:FreshV W vz) hv=>left_take (vz:=vz) (L:=0) (N:=0) hL hB hxV hfr hsx hfb hs hk hr ht hv)
 have HS:=hid hS
 obtain ⟨eL,eN⟩:=piece_at hy
 rw [eL,eN] at LT
 rw [eL] at ht q5 q6
 rw [eN] at q7 q8
 have HH:=hid (fun (V:World)=>Hill_any V (t:Int) ((t:Int)+y.Len) (-y.N) (by omega) (by omega) (by omega) (I64.of (by omega) (by omega)))
 have hhs:Shape (hillL (t:Int) ((t:Int)+y.Len) (-y.N)):=by
  rw [show (t:Int)+y.Len=((t+y.Len.toNat:Nat):Int) by omega,hillL_eq (by omega) (by omega)];exact shape_fold _
 have hhn:∀ z∈hillL (t:Int) ((t:Int)+y.Len) (-y.N),-50≤z.N∧z.N≤50:=by
  rw [show (t:Int)+y.Len=((t+y.Len.toNat:Nat):Int) by omega,hillL_eq (by omega) (by omega)]
  exact fold_all (p:=fun m=>-50≤m∧m≤50) (fun i _=>by unfold hillT;split <;> omega)
 have hk3:k < 3:=by have:=hr.many.2;omega
 have HZ:=hid (fun (V:World) (vh:Value) (hxV:Ext W V) (hvh:RunsV V vh (hillL (t:Int) ((t:Int)+y.Len) (-y.N)))=>Zip_anyF V fv vh f _ (hf.mono hxV) hvh hs hhs 151 (fun a b=>a+b) (enters_of Tryz.func151 (by kernel_rfl) rfl) (fun a ha b hb=>by
  have h1:=hfb a ha
  have h2:=hhn b hb
  exact ⟨I64.of (by omega) (by omega),fun V'=>all11 _ _ V' ⟨by omega,by omega⟩ ⟨by omega,by omega⟩⟩))
 obtain ⟨fa,fc,rfl,_,_,_⟩:=hf.form
 have hw1:IntKind.i64.wrap ((t:Int)+y.Len)=(t:Int)+y.Len:=by rw [IntKind.wrap_i64];omega
 have hw2:IntKind.i64.wrap (-y.N)=-y.N:=by rw [IntKind.wrap_i64];omega
 clear hS hf hs hsx hfb hhs hhn hL hr hy hk q4 eL eN c0 c2 c3 c4
 generalize hillL (t:Int) ((t:Int)+y.Len) (-y.N)=hl at *
 generalize f.length=fn at *
 go_enter Tryz.func149,Tryz.ntmps149
 go_wp2_with fail
 have HX1:=hid ((Ext.rf W).al (.cells #[.int .i64 y.Len,.int .i64 y.N] 44))
 have g0:(W.alloc (.cells #[.int .i64 y.Len,.int .i64 y.N] 44)).cell? ⟨W.heap.size,0,none⟩=some (.int .i64 y.Len):=cell_of_row _ _ 0 _ _ _ (heap_alloc_new W _)
 have g1:(W.alloc (.cells #[.int .i64 y.Len,.int .i64 y.N] 44)).cell? ⟨W.heap.size,1,none⟩=some (.int .i64 y.N):=cell_of_row _ _ 1 _ _ _ (heap_alloc_new W _)
 have fz1:=frz_ext HX1.out c5 fz
 replace c1:=HX1.out.ce' c1
 replace c5:=HX1.out.ce' c5
 replace hbox:=HX1.out.ce' hbox
 have hWB:W.heap.size≠B:=by omega
 clear fz
 generalize W.alloc (.cells #[.int .i64 y.Len,.int .i64 y.N] 44)=W1 at *
 generalize hBY:W.heap.size=BY at *
 have HBY:=hid hBY
 clear hBY
 have hne':B≠BX:=fun e=>hne e.symm
 have hWB':B≠BY:=fun e=>hWB e.symm
 refine wp_region_noPanic ?_
 refine wp_region_held (S:=fun w':World=>w'.cell? ⟨BX,0,none⟩=some (.pointer (some ⟨B,0,none⟩))∧w'.cell? ⟨BY,0,none⟩=some (.int .i64 y.Len)∧w'.cell? ⟨BY,1,none⟩=some (.int .i64 y.N)) (by kernel_rfl) ?_
 have HS0:=hid (show (fun w':World=>w'.cell? ⟨BX,0,none⟩=some (.pointer (some ⟨B,0,none⟩))∧w'.cell? ⟨BY,0,none⟩=some (.int .i64 y.Len)∧w'.cell? ⟨BY,1,none⟩=some (.int .i64 y.N)) W1.drew from ⟨hbox,g0,g1⟩)
 refine wpAnyH_take (i:=0) (oi:=_) (v:=?_) rfl (by kernel_rfl) (by kernel_rfl) (by kernel_rfl) (fun _ _ _ h=>h) (Or.inl ⟨by kernel_rfl,?_⟩) HS0.out ?_
 rotate_left
 ·intro w hSw;obtain ⟨s1,s2,s3⟩:=hSw;go_simp;with_reducible rfl
 try simp only [Act.put,zD,zE,zF,zA,zB]
 refine wpAnyH_take (i:=1) (oi:=_) (v:=?_) rfl (by kernel_rfl) (by kernel_rfl) (by kernel_rfl) (fun _ _ _ h=>h) (Or.inl ⟨by kernel_rfl,?_⟩) HS0.out ?_
 rotate_left
 ·intro w hSw;obtain ⟨s1,s2,s3⟩:=hSw;go_simp;with_reducible rfl
 try simp only [Act.put,zD,zE,zF,zA,zC,zB]
 refine wpAnyH_take (i:=2) (oi:=_) (v:=?_) rfl (by kernel_rfl) (by kernel_rfl) (by kernel_rfl) (fun _ _ _ h=>h) (Or.inl ⟨by kernel_rfl,?_⟩) HS0.out ?_
 rotate_left
 ·intro w hSw;obtain ⟨s1,s2,s3⟩:=hSw;go_simp;with_reducible rfl
 try simp only [Act.put,zD,zE,zF,zA,zC,zB]
 refine wpAnyH_take (i:=3) (oi:=_) (v:=?_) rfl (by kernel_rfl) (by kernel_rfl) (by kernel_rfl) (fun _ _ _ h=>h) (Or.inl ⟨by kernel_rfl,?_⟩) HS0.out ?_
 rotate_left
 ·intro w hSw;obtain ⟨s1,s2,s3⟩:=hSw;go_simp;with_reducible rfl
 try simp only [Act.put,zD,zE,zF,zA,zC,zB]
 refine wpAnyH_take (i:=5) (oi:=_) (v:=?_) rfl (by kernel_rfl) (by kernel_rfl) (by kernel_rfl) (fun _ _ _ h=>h) (Or.inl ⟨by kernel_rfl,?_⟩) HS0.out ?_
 rotate_left
 ·intro w hSw;obtain ⟨s1,s2,s3⟩:=hSw;go_simp;with_reducible rfl
 try simp only [Act.put,zD,zE,zF,zA,zC,zB]
 refine wpAnyH_take (i:=6) (oi:=_) (v:=?_) rfl (by kernel_rfl) (by kernel_rfl) (by kernel_rfl) (fun _ _ _ h=>h) (Or.inl ⟨by kernel_rfl,?_⟩) HS0.out ?_
 rotate_left
 ·intro w hSw;obtain ⟨s1,s2,s3⟩:=hSw;go_simp;with_reducible rfl
 try simp only [Act.put,zD,zE,zF,zA,zC,zB]
 refine wpAnyH_take (i:=7) (oi:=_) (v:=?_) rfl (by kernel_rfl) (by kernel_rfl) (by kernel_rfl) (fun _ _ _ h=>h) (Or.inl ⟨by kernel_rfl,?_⟩) HS0.out ?_
 rotate_left
 ·intro w hSw;obtain ⟨s1,s2,s3⟩:=hSw;go_simp;with_reducible rfl
 try simp only [Act.put,zD,zE,zF,zA,zC,zB]
 refine wpAnyH_take (i:=8) (oi:=_) (v:=?_) rfl (by kernel_rfl) (by kernel_rfl) (by kernel_rfl) (fun _ _ _ h=>h) (Or.inl ⟨by kernel_rfl,?_⟩) HS0.out ?_
 rotate_left
 ·intro w hSw;obtain ⟨s1,s2,s3⟩:=hSw;go_simp;with_reducible rfl
 try simp only [Act.put,zD,zE,zF,zA,zC,zB]
 refine wpAnyH_take (i:=9) (oi:=_) (v:=?_) rfl (by kernel_rfl) (by kernel_rfl) (by kernel_rfl) (fun _ _ _ h=>h) (Or.inl ⟨by kernel_rfl,?_⟩) HS0.out ?_
 rotate_left
 ·intro w hSw;obtain ⟨s1,s2,s3⟩:=hSw;go_simp;with_reducible rfl
 try simp only [Act.put,zD,zE,zF,zA,zC,zB]
 refine wpAnyH_take (i:=10) (oi:=_) (v:=?_) rfl (by kernel_rfl) (by kernel_rfl) (by kernel_rfl) (fun _ _ _ h=>h) (Or.inl ⟨by kernel_rfl,?_⟩) HS0.out ?_
 rotate_left
 ·intro w hSw;obtain ⟨s1,s2,s3⟩:=hSw;go_simp;with_reducible rfl
 try simp only [Act.put,zD,zE,zF,zA,zC,zB]
 refine wpAnyH_take (i:=11) (oi:=_) (v:=?_) rfl (by kernel_rfl) (by kernel_rfl) (by kernel_rfl) (fun _ _ _ h=>h) (Or.inl ⟨by kernel_rfl,?_⟩) HS0.out ?_
 rotate_left
 ·intro w hSw;obtain ⟨s1,s2,s3⟩:=hSw;go_simp;with_reducible rfl
 try simp only [Act.put,zD,zE,zF,zA,zC,zB]
 refine wpAnyH_take (i:=12) (oi:=_) (v:=?_) rfl (by kernel_rfl) (by kernel_rfl) (by kernel_rfl) (fun _ _ _ h=>h) (Or.inl ⟨by kernel_rfl,?_⟩) HS0.out ?_
 rotate_left
 ·intro w hSw;obtain ⟨s1,s2,s3⟩:=hSw;go_simp;with_reducible rfl
 try simp only [Act.put,zD,zE,zF,zA,zC,zB]
 refine wpAnyH_pair (i:=4) (j:=13) (fun v V=>v=.slice fa fn fc∧Ext W1 V) (fun v V=>RunsV V v hl∧Ext W1 V) rfl rfl (by kernel_rfl) (by kernel_rfl) (by kernel_rfl) (by rfl) (fun _ _=>by kernel_rfl) (by kernel_rfl) (by kernel_rfl) (fun _=>by kernel_rfl) (fun _=>by kernel_rfl) ?_ ?_ ?_ ?_ ?_
 ·intro K hK
  simp only [Act.put,zD,zE,zF,zA,zC,zB] at hK ⊢
  go_simp
  exact hK.out _ _ (by first | exact ⟨rfl,Ext.dr (Ext.rf W1)⟩ | exact Ext.dr (Ext.rf W1) | exact ⟨trivial,Ext.dr (Ext.rf W1)⟩) HS0.out
 ·intro K hK
  simp only [Act.put,zD,zE,zF,zA,zC,zB] at hK ⊢
  go_simp
  refine (HH.out _).mono ?_
  rintro e W2 ⟨vh,rfl,hvh,hxk⟩
  have hxk1:Ext W1 W2:=Ext.tr (Ext.dr (Ext.rf W1)) hxk
  exact hK.out _ _ ⟨hvh,hxk1⟩ ⟨hxk1.ce' hbox,hxk1.ce' g0,hxk1.ce' g1⟩
 ·rintro v V ⟨rfl,hxV⟩ hS K hK
  simp only [Act.put,zD,zE,zF,zA,zC,zB] at hK ⊢
  go_simp
  refine (HH.out _).mono ?_
  rintro e W2 ⟨vh,rfl,hvh,hxk⟩
  have hxk1:Ext W1 W2:=hxV.tr hxk
  exact hK.out _ _ ⟨hvh,hxk1⟩ (by first | exact ⟨rfl,hxk1⟩ | exact hxk1 | exact ⟨trivial,hxk1⟩) ⟨hxk1.ce' hbox,hxk1.ce' g0,hxk1.ce' g1⟩
 ·rintro v V ⟨hvh,hxV⟩ hS K hK
  have c5b:=hxV.ce' c5
  simp only [Act.put,zD,zE,zF,zA,zC,zB] at hK ⊢
  go_simp
  exact hK.out _ _ (by first | exact ⟨rfl,hxV⟩ | exact hxV | exact ⟨trivial,hxV⟩) ⟨hvh,hxV⟩ hS
 rintro v vh W2 ⟨rfl,_⟩ ⟨hvh,hx12⟩ hS
 have HX12:=hid hx12
 have HVH:=hid hvh
 have HS1:=hid hS
 clear hx12 hvh hS HS0
 try simp only [Act.put,zD,zE,zF,zA,zC,zB]
 refine wpAnyH_ready (rs:=[14]) (by kernel_rfl) (by simp) ?_
 refine AllReadyH.cons rfl (fun K hK=>?_) AllReadyH.nil
 go_simp
 refine (HZ.out _ _ (HX1.out.tr HX12.out) HVH.out).mono ?_
 rintro e W3 ⟨vz,rfl,hvz,hfr,hxk⟩
 obtain ⟨za,zc,rfl,_,_,_⟩:=hvz.form
 generalize (fold fun t=>sp f t+sp hl t).length=zn at *
 have HX13:=hid (HX12.out.tr hxk)
 have HVZ:=hid hvz
 have HFR:=hid (show FreshV W (.slice za zn zc) from fun a n c e=>Nat.le_trans (HX1.out.tr HX12.out).size (hfr a n c e))
 have HS3:=hid (show (fun w':World=>w'.cell? ⟨BX,0,none⟩=some (.pointer (some ⟨B,0,none⟩))∧w'.cell? ⟨BY,0,none⟩=some (.int .i64 y.Len)∧w'.cell? ⟨BY,1,none⟩=some (.int .i64 y.N)) W3 from ⟨HX13.out.ce' hbox,HX13.out.ce' g0,HX13.out.ce' g1⟩)
 refine hK.out _ _ HS3.out (fun _=>?_)
 clear hK K hvz hfr hxk
 try simp only [Act.put,zD,zE,zF,zA,zC,zB]
 refine wpAnyH_take (i:=15) (oi:=_) (v:=?_) rfl (by kernel_rfl) (by kernel_rfl) (by kernel_rfl) (fun _ _ _ h=>h) (Or.inl ⟨by kernel_rfl,?_⟩) HS3.out ?_
 rotate_left
 ·intro w hSw;obtain ⟨s1,s2,s3⟩:=hSw;go_simp;with_reducible rfl
 try simp only [Act.put,zD,zE,zF,zA,zC,zB]
 refine wpAnyH_take (i:=16) (oi:=_) (v:=?_) rfl (by kernel_rfl) (by kernel_rfl) (by kernel_rfl) (fun _ _ _ h=>h) (Or.inl ⟨by kernel_rfl,?_⟩) HS3.out ?_
 rotate_left
 ·intro w hSw;obtain ⟨s1,s2,s3⟩:=hSw;go_simp;with_reducible rfl
 try simp only [Act.put,zD,zE,zF,zA,zC,zB]
 have c5c:=HX13.out.ce' c5
 have fzc:=frz_ext HX13.out c5 fz1
 have c1c:=HX13.out.ce' c1
 have b1:(W3.setCell ⟨B,5,none⟩ (.slice za zn zc)).cell? ⟨BX,0,none⟩=some (.pointer (some ⟨B,0,none⟩)):=by rw [World.cell?_setCell_far _ _ _ _ hne'];exact HS3.out.1
 have b2:(W3.setCell ⟨B,5,none⟩ (.slice za zn zc)).cell? ⟨BY,0,none⟩=some (.int .i64 y.Len):=by rw [World.cell?_setCell_far _ _ _ _ hWB'];exact HS3.out.2.1
 have b3:(W3.setCell ⟨B,5,none⟩ (.slice za zn zc)).cell? ⟨BY,1,none⟩=some (.int .i64 y.N):=by rw [World.cell?_setCell_far _ _ _ _ hWB'];exact HS3.out.2.2
 have b4:(W3.setCell ⟨B,5,none⟩ (.slice za zn zc)).cell? ⟨B,1,none⟩=some (.int .i64 r.From):=by rw [World.cell?_setCell_other _ _ _ _ (by simp)];exact c1c
 have HL4:=hid (LT.out W3 (.slice za zn zc) (HX1.out.tr HX13.out) HFR.out HVZ.out)
 have HG4:=hid (grown_trans (grown_of_ext (B:=B) (HX1.out.tr HX13.out)) (grown_set W3 B 5 (.slice za zn zc)))
 clear c1c
 refine wpAnyH_ready (rs:=[17]) (by kernel_rfl) (by simp) ?_
 refine AllReadyH.cons rfl (fun K hK=>?_) AllReadyH.nil
 go_simp
 refine hK.out _ _ ⟨b1,b2,b3⟩ (fun _=>?_)
 clear hK K c5c fzc
 try simp only [Act.put,zD,zE,zF,zA,zC,zB]
 refine wpAnyH_done (by kernel_rfl) ?_ _
 refine NoPanic.normal ?_
 clear c1 c5 hbox g0 g1 fz1
 generalize W3.setCell ⟨B,5,none⟩ (.slice za zn zc)=W4 at *
 go_wp2_with fail
 go_ret
 exact ⟨rfl,_,.inr HFR.out,HL4.out,HG4.out⟩
theorem all_any (w0 w:World) (B:Nat) (r:Request) (pv fv:Value) (f:List Run) (hx:Ext w0 w) (hB:w0.heap.size≤B) (hS:SeekerAt w B r pv fv) (hp:PiecesV w0 pv r.Pieces) (hf:RunsV w fv f) (hfine:Fine f) (hr:ReqOk r) :
  Calls Tryz.prog 90 #[.pointer (some ⟨B,0,none⟩)] w (RetPlace w0 (eachGo r (takeX r) (fromA r) r.Pieces.length 0 (sp f) r.From.toNat [])):=by
 have hBw:=hS.lt
 have hx1:=(Ext.rf w).al (.cells #[.pointer (some ⟨B,0,none⟩)] 133)
 have hbox:(w.alloc (.cells #[.pointer (some ⟨B,0,none⟩)] 133)).cell? ⟨w.heap.size,0,none⟩=some (.pointer (some ⟨B,0,none⟩)):=cell_of_row _ _ 0 _ _ _ (heap_alloc_new w _)
 obtain ⟨⟨q1,q2,q3⟩,_⟩:=req_range hr
 have E:=hid (each_any w0 (w.alloc (.cells #[.pointer (some ⟨B,0,none⟩)] 133)) B r pv (sp f) 149 #[.pointer (some ⟨w.heap.size,0,none⟩)] (takeX r) (fromA r) fv (left_start (hx.tr hx1) (hS.ext hx1) (hf.mono hx1) hfine) hp hr hB (enters_of Tryz.func149 (by kernel_rfl) rfl)
  (fun k y x t fv W hy hL hgw ht=>⟨by unfold fromA;omega,(all1 w0 W B w.heap.size r pv fv k t y x hy hL hB (by
    rw [World.cell?_of_block (a:=⟨w.heap.size,0,none⟩) (hgw.block w.heap.size (by simp) (fun e=>by simp at e;omega))];exact hbox) (by omega) hr ht).mono fun e w' ⟨he,hT⟩=>⟨by
     rw [he];unfold fromA;rw [Int.toNat_of_nonneg q1],hT⟩⟩))
 clear hS hp hf hfine hr hbox hx1
 generalize eachGo r (takeX r) (fromA r) r.Pieces.length 0 (sp f) r.From.toNat []=R at *
 go_enter Tryz.func90,Tryz.ntmps90
 go_wp2_with fail
 refine E.out.mono ?_
 rintro e w2 ⟨v,rfl,h⟩
 have H:=hid h
 clear h
 go_wp2_with fail
 go_ret
 exact ⟨_,rfl,H.out⟩
theorem i64_nat {n:Nat} (h:n≤1000):I64 (n:Int):=I64.of (by omega) (by omega)
theorem own_slice {w:World} {base e sz n:Nat} {v:Value} {xs:List Value} (h:w.ownsRow base e sz v n xs):∃ a cap,v=.slice a n cap:=by
 rcases h.2 with ⟨h1,h2⟩ | ⟨g,cap,cur,hv,_⟩
 ·exact ⟨none,0,by rw [h1,h2]⟩
 ·exact ⟨_,cap,hv⟩
theorem startT_next (r:Request) (t k:Nat):startT r t (k+1)=startT r t k+(pL r k).toNat:=rfl
theorem tight_any (w:World) (B:Nat) (r:Request) (pv fv:Value) (f:List Run) (hS:SeekerAt w B r pv fv) (hp:PiecesV w pv r.Pieces) (hf:RunsV w fv f) (hs:Shape f) (hr:ReqOk r) :
  Calls Tryz.prog 93 #[.pointer (some ⟨B,0,none⟩)] w (RetPlace w (tightGo (sp f) r (r.Until.toNat - r.From.toNat) r.From.toNat)):=by
 obtain ⟨⟨q1,q2,q3⟩,q4⟩:=req_range hr
 obtain ⟨m1,m3⟩:=hr.many
 obtain ⟨ir,ir1,ir2,ir3,ir4⟩:=info_parts Tryz.info42
 obtain ⟨c0,c1,c2,c3,c4,c5⟩:=hS.cells
 obtain ⟨pb,po,pc,rfl,hpc,hpc9,hpb,hpE⟩:=pieces_at hp (by omega)
 have HE:=hid hpE
 obtain ⟨U,hU⟩:=Int.eq_ofNat_of_zero_le (by omega:0≤r.Until)
 obtain ⟨A0,hA0⟩:=Int.eq_ofNat_of_zero_le q1
 have hU48:U≤48:=by omega
 have F:=hid (show ∀ a:Nat,a≤48→∀ W,Ext w W→Calls Tryz.prog 152 #[.pointer (some ⟨B,0,none⟩),.int .i64 0,.int .i64 (a:Int)] W (RetIs W (match pieceT (sp f) r a 0 with | some t=>((t:Int),true) | none=>(0,false))) from fun a ha W h=>by
  have:=first_any W B r _ fv f 0 (a:Int) (hS.ext h) (hp.mono h) (hf.mono h) hs hr (by omega) ⟨by omega,by omega⟩
  rw [seekR_piece] at this;exact this)
 have PN:=hid (show ∀ a,pieceT (sp f) r a 0=none→∀ s,a≤s→s < U→¬ TightAt (sp f) r s from fun a h s h1 h2 ht=>by
  have:=firstT_is (sp f) a r.Until.toNat (pL r 0).toNat (pN r 0)
  unfold pieceT at h
  rw [h] at this
  exact this s h1 (by omega) (ht 0 (by omega)))
 have PS:=hid (show ∀ a t,pieceT (sp f) r a 0=some t→a≤t∧t < U∧∀ s,a≤s→s < t→¬ TightAt (sp f) r s from fun a t h=>by
  have:=firstT_is (sp f) a r.Until.toNat (pL r 0).toNat (pN r 0)
  unfold pieceT at h
  rw [h] at this
  exact ⟨this.1,by have:=this.2.1;omega,fun s h1 h2 ht=>this.2.2.2 s h1 h2 (ht 0 (by omega))⟩)
 have TK:=hid (show ∀ t k,k < r.Pieces.length→(TightK (sp f) r t k↔startT r t k+(pL r k).toNat≤U∧pN r k≤lowT (sp f) (startT r t k) (startT r t k+(pL r k).toNat)) from fun t k hk=>by
  have:=(q4 k hk).1.1
  unfold TightK HasT
  rw [le_lowT (by omega),show r.Until.toNat=U by omega])
 have L:=hid (fun (a z:Int) (h1:0≤a) (h2:a < z) (h3:z≤48) (W:World) (h:Ext w W)=>Low_any W fv f (hf.mono h) hs a z h1 h2 h3)
 have HA:=hid (show ∀ a t,a≤t→t < U→(∀ s,a≤s→s < t→¬ TightAt (sp f) r s)→tightGo (sp f) r (U - a) a=tightGo (sp f) r (U - t) t from fun a t h1 h2 h=>by
  rw [tightGo_skip (d:=t - a) (by omega) (fun s k1 k2=>h s k1 (by omega)),show U - a - (t - a)=U - t by omega,show a+(t - a)=t by omega])
 have HZ:=hid (show ∀ a,(∀ s,a≤s→s < U→¬ TightAt (sp f) r s)→a≤U→tightGo (sp f) r (U - a) a=[] from fun a h h1=>tightGo_none (fun s k1 k2=>h s k1 (by omega)))
 have HY:=hid (show ∀ t,t < U→(∀ k,k < r.Pieces.length→TightK (sp f) r t k)→tightGo (sp f) r (U - t) t=rowB r t r.Pieces.length from fun t h1 h=>by
  rw [show U - t=(U - t - 1)+1 by omega,tightGo,if_pos (show TightAt (sp f) r t from h)])
 have HX:=hid (show ∀ t k,t < U→k < r.Pieces.length→¬ TightK (sp f) r t k→tightGo (sp f) r (U - t) t=tightGo (sp f) r (U - (t+1)) (t+1) from fun t k h1 hk h=>by
  rw [show U - t=(U - (t+1))+1 by omega,tightGo,if_neg (fun h'=>h (h' k hk))])
 have HI:=hid (show ∀ t k x,t≤48→(∀ j,j < k→TightK (sp f) r t j)→x∈rowB r t k→k≤r.Pieces.length→I64 x.Piece∧I64 x.At from fun t k x h0 h hx hk=>by
  obtain ⟨j,hj,rfl⟩:=List.mem_map.1 hx
  have hj':=List.mem_range.1 hj
  have:=(h j hj').1
  exact ⟨i64_nat (by omega),i64_nat (by omega)⟩)
 have HQ:=hid q4
 obtain ⟨fa,fc,rfl,_,_,_⟩:=hf.form
 obtain ⟨R,hR⟩:∃ R,tightGo (sp f) r (r.Until.toNat - r.From.toNat) r.From.toNat=R:=⟨_,rfl⟩
 have HR:=hid hR
 rw [hR]
 clear hS hp hf hs hr hpE q4 hR
 generalize hnn:r.Pieces.length=n at *
 have Hnn:=hid hnn
 clear hnn
 generalize f.length=fn at *
 generalize tightGo (sp f) r=tg at *
 go_enter Tryz.func93,Tryz.ntmps93
 go_wp2_with fail
 go_loopw [3] (fun c wr=>∃ a:Nat,c=.int .i64 (a:Int)∧A0≤a∧a≤U∧Hid (tg (U - a) a=R)∧Ext w wr) (fun c _=>U - (intOf c).toNat)
 case atStart=>exact ⟨A0,rfl,Nat.le_refl _,by omega,hid (by have:=HR.out;rw [hA0,hU] at this;simpa using this),Ext.rf _⟩
 case round =>
  obtain ⟨a,rfl,ha1,ha,Hg,hx⟩:=hrel
  have hal:=HA.out a
  have c1':=hx.ce' c1
  cases hp:pieceT (sp f) r a 0 with
  | none =>
   have F1:=hid (F.out a (by omega) wr hx)
   rw [hp] at F1
   have Hr:=hid (show R=[] from by rw [← Hg.out];exact HZ.out a (PN.out a hp) ha)
   clear hp hal
   go_wp2_with fail
   refine F1.out.mono ?_
   rintro e w2 ⟨rfl,hx2⟩
   go_wp2_with fail
   go_ret
   exact ⟨_,rfl,by rw [Hr.out];exact SV.nil,⟨fun _=>rfl,freshV_none _ _ _⟩,hx.tr hx2⟩
  | some t =>
   have F1:=hid (F.out a (by omega) wr hx)
   rw [hp] at F1
   obtain ⟨t1,t2,t3⟩:=PS.out a t hp
   have Hg2:=hid (show tg (U - t) t=R from by rw [← hal t t1 t2 t3];exact Hg.out)
   clear hp hal t3 Hg
   go_wp2_with fail
   refine F1.out.mono ?_
   rintro e w2 ⟨rfl,hx2⟩
   have hx02:=hx.tr hx2
   have c4':=hx02.ce' c4
   go_wp2_with fail
   go_loopw [6,7,30] (fun v at_ c wi=>∃ (k:Nat) (ov:Value),ov=v∧at_=.int .i64 (startT r t k:Int)∧c=.int .i64 k∧k≤n∧startT r t k≤48∧Hid (wi.ownsRow w.heap.size 42 2 ov k (bitesV (rowB r t k)))∧Hid (∀ j,j < k→TightK (sp f) r t j)∧Ext w wi) (fun _ _ c _=>n - (intOf c).toNat)
   case atStart=>exact ⟨0,_,rfl,rfl,rfl,by omega,(by show t≤48;omega),World.ownsRow_nil _ _ _ _,hid (fun j hj=>absurd hj (Nat.not_lt_zero _)),hx02⟩
   case round =>
    obtain ⟨k,ov,rfl,rfl,rfl,hk,hst,Hown,Hall,hxi⟩:=hrel
    by_cases hlt:k < n
    ·have hlt':(k:Int) < (n:Int):=by omega
     obtain ⟨y,hy⟩:=getA (f:=r.Pieces) (k:=k) (by rw [Hnn.out];exact hlt)
     obtain ⟨d1,d2,_,_⟩:=E2.mono w wr pb _ y hxi (HE.out k y hy)
     obtain ⟨⟨p1,p2⟩,p3,p4⟩:=HQ.out k hlt
     obtain ⟨eL,eN⟩:=piece_at hy
     have hTK:=TK.out t k hlt
     have hHX:=HX.out t k t2 hlt
     have hsn:=startT_next r t k
     rw [eL] at p1 p2 hTK hsn
     rw [eN] at p3 p4 hTK
     have Hsn:=hid hsn
     generalize hstk:startT r t k=st at *
     have Hstk:=hid hstk
     clear eL eN hy hstk hsn
     have hwr:IntKind.i64.wrap ((st:Int)+y.Len)=(st:Int)+y.Len:=by rw [IntKind.wrap_i64];omega
     by_cases g1:(U:Int) < (st:Int)+y.Len
     ·have Hnx:=hid (hHX (fun h=>by have:=(hTK.1 h).1;omega))
      clear hTK hHX
      obtain ⟨oa,oc,rfl⟩:=own_slice Hown.out
      have hkn:=eqF (a:=(k:Int)) (b:=(n:Int)) (by omega)
      have c4'':=hxi.ce' c4
      have HBX:=hid ((Ext.rf wr).al (.cells #[.int .i64 y.Len,.int .i64 y.N] 44))
      have k0:(wr.alloc (.cells #[.int .i64 y.Len,.int .i64 y.N] 44)).cell? ⟨wr.heap.size,0,none⟩=some (.int .i64 y.Len):=cell_of_row _ _ 0 _ _ _ (heap_alloc_new wr _)
      have k1:(wr.alloc (.cells #[.int .i64 y.Len,.int .i64 y.N] 44)).cell? ⟨wr.heap.size,1,none⟩=some (.int .i64 y.N):=cell_of_row _ _ 1 _ _ _ (heap_alloc_new wr _)
      have e2:=HBX.out.ce' (hxi.ce' c2)
      go_wp2_with fail
      generalize wr.alloc (.cells #[.int .i64 y.Len,.int .i64 y.N] 44)=W1 at *
      replace k0:=fun p:Later W1=>p.cell k0
      replace e2:=fun p:Later W1=>p.cell e2
      refine region_later (by kernel_rfl) (by kernel_rfl) ?_
      repeat (go_big_quiet_step (fail))
      refine wpQuiet_nil ?_
      rintro w' ⟨p,rfl⟩
      have e4:=(HBX.out.tr p.h).ce' c4''
      go_wp2_with fail
      go_roundw
      case rel=>exact ⟨t+1,by go_num,by omega,by omega,hid (by rw [← Hnx.out];exact Hg2.out),hxi.tr (HBX.out.tr p.h)⟩
      case measure=>simp [intOf];omega
     ·have g1':¬ r.Until < (st:Int)+y.Len:=by omega
      have g1d:=deF g1'
      have g1e:=deF g1
      by_cases g2:lowT (sp f) st (st+y.Len.toNat) < y.N
      ·have Hnx:=hid (hHX (fun h=>by have:=(hTK.1 h).2;omega))
       clear hTK hHX
       obtain ⟨oa,oc,rfl⟩:=own_slice Hown.out
       have hkn:=eqF (a:=(k:Int)) (b:=(n:Int)) (by omega)
       have c4'':=hxi.ce' c4
       have HBX:=hid ((Ext.rf wr).al (.cells #[.int .i64 y.Len,.int .i64 y.N] 44))
       have k0:(wr.alloc (.cells #[.int .i64 y.Len,.int .i64 y.N] 44)).cell? ⟨wr.heap.size,0,none⟩=some (.int .i64 y.Len):=cell_of_row _ _ 0 _ _ _ (heap_alloc_new wr _)
       have k1:(wr.alloc (.cells #[.int .i64 y.Len,.int .i64 y.N] 44)).cell? ⟨wr.heap.size,1,none⟩=some (.int .i64 y.N):=cell_of_row _ _ 1 _ _ _ (heap_alloc_new wr _)
       have e2:=HBX.out.ce' (hxi.ce' c2)
       have e5:=HBX.out.ce' (hxi.ce' c5)
       go_wp2_with fail
       generalize wr.alloc (.cells #[.int .i64 y.Len,.int .i64 y.N] 44)=W1 at *
       replace k0:=fun p:Later W1=>p.cell k0
       replace e2:=fun p:Later W1=>p.cell e2
       replace k1:=fun p:Later W1=>p.cell k1
       replace e5:=fun p:Later W1=>p.cell e5
       have QL:=hid (show ∀ p:Later W1,Calls Tryz.prog 154 #[.slice fa fn fc,.int .i64 (st:Int),.int .i64 ((st:Int)+y.Len)] p.v fun e w'=>e=.returned (.int .i64 (lowT (sp f) st (st+y.Len.toNat)))∧∃ q:Later W1,w'=q.v from fun p=>by
        have:=L.out (st:Int) ((st:Int)+y.Len) (by omega) (by omega) (by omega) p.v (hxi.tr (HBX.out.tr p.h))
        rw [show ((st:Int)+y.Len).toNat=st+y.Len.toNat by omega,Int.toNat_natCast] at this
        exact later_of p this)
       refine region_later (by kernel_rfl) (by kernel_rfl) ?_
       repeat (go_big_quiet_step (with_reducible exact QL.out _))
       refine wpQuiet_nil ?_
       rintro w' ⟨p,rfl⟩
       have e4:=(HBX.out.tr p.h).ce' c4''
       go_wp2_with fail
       go_roundw
       case rel=>exact ⟨t+1,by go_num,by omega,by omega,hid (by rw [← Hnx.out];exact Hg2.out),hxi.tr (HBX.out.tr p.h)⟩
       case measure=>simp [intOf];omega
      ·have Hk:=hid (hTK.2 ⟨by omega,by omega⟩)
       clear hTK hHX
       have c4'':=hxi.ce' c4
       have HBX:=hid ((Ext.rf wr).al (.cells #[.int .i64 y.Len,.int .i64 y.N] 44))
       have k0:(wr.alloc (.cells #[.int .i64 y.Len,.int .i64 y.N] 44)).cell? ⟨wr.heap.size,0,none⟩=some (.int .i64 y.Len):=cell_of_row _ _ 0 _ _ _ (heap_alloc_new wr _)
       have k1:(wr.alloc (.cells #[.int .i64 y.Len,.int .i64 y.N] 44)).cell? ⟨wr.heap.size,1,none⟩=some (.int .i64 y.N):=cell_of_row _ _ 1 _ _ _ (heap_alloc_new wr _)
       have e2:=HBX.out.ce' (hxi.ce' c2)
       have e5:=HBX.out.ce' (hxi.ce' c5)
       go_wp2_with fail
       generalize wr.alloc (.cells #[.int .i64 y.Len,.int .i64 y.N] 44)=W1 at *
       replace k0:=fun p:Later W1=>p.cell k0
       replace e2:=fun p:Later W1=>p.cell e2
       replace k1:=fun p:Later W1=>p.cell k1
       replace e5:=fun p:Later W1=>p.cell e5
       have QL:=hid (show ∀ p:Later W1,Calls Tryz.prog 154 #[.slice fa fn fc,.int .i64 (st:Int),.int .i64 ((st:Int)+y.Len)] p.v fun e w'=>e=.returned (.int .i64 (lowT (sp f) st (st+y.Len.toNat)))∧∃ q:Later W1,w'=q.v from fun p=>by
        have:=L.out (st:Int) ((st:Int)+y.Len) (by omega) (by omega) (by omega) p.v (hxi.tr (HBX.out.tr p.h))
        rw [show ((st:Int)+y.Len).toNat=st+y.Len.toNat by omega,Int.toNat_natCast] at this
        exact later_of p this)
       refine region_later (by kernel_rfl) (by kernel_rfl) ?_
       repeat (go_big_quiet_step (with_reducible exact QL.out _))
       refine wpQuiet_nil ?_
       rintro w' ⟨p,rfl⟩
       have hxp:=HBX.out.tr p.h
       have hownW:=ownsRow_ext Hown.out hxp
       have k0p:=k0 p
       have hgs:=p.h.size
       have hwz:w.heap.size≤p.v.heap.size:=by have:=(hxi.tr hxp).size;exact this
       clear k0 k1 e2 e5 QL HBX c4''
       generalize p.v=W2 at *
       have hln3:∀ g,ov.ownBlock=some g→w.heap.size≤g∧g < wr.heap.size:=fun g hg=>Hown.out.lt g hg
       have n1:some wr.heap.size≠ov.ownBlock:=fun e=>by have:=(hln3 _ e.symm).2;omega
       have HXP:=hid hxp
       clear hxp
       generalize wr.heap.size=BX at *
       go_wp2_with (at_builtin;refine wpList_append_lies _ rfl _ _ 38 rfl w.heap.size 42 ir _ 2 16 Tryz.underlying38 ir1 ir2 ir3 ir4 rfl (by decide) _ _ _ rfl (hownW.alloc _) ⟨W2.heap.size,0,none⟩ 1 1 [.int .i64 k,.int .i64 st] rfl rfl (new2 _ (by simp) _ _ _) (one2 _ _ _ _) (by decide) (by unfold maxLen;omega) (by omega) (by simp;omega) (W2.heap.size+1) (by simp) ?_)
       intro gg cap W3 hown2 hgrow hat hlt4
       have k0q:W3.cell? ⟨BX,0,none⟩=some (.int .i64 y.Len):=by rw [hgrow.cell_far ⟨BX,0,none⟩ (by have:=World.block_lt_of_cell? W2 _ k0p;simp at this ⊢;omega) n1];exact ((Ext.rf W2).al _).ce' k0p
       have Hown2:=hid (show W3.ownsRow w.heap.size 42 2 (.slice (some ⟨gg,0,none⟩) (k+1) cap) (k+1) (bitesV (rowB r t (k+1))) from by rw [rowB_succ,bitesV_snoc,Hstk.out];exact hown2)
       have HX3:=hid (Ext.gr ((hxi.tr HXP.out).al _) hgrow (fun g hg=>(hln3 g hg).1))
       have Hs:=hid (show ∀ j,j < k+1→TightK (sp f) r t j from fun j hj=>by
        by_cases e:j=k
        ·subst e;exact Hk.out
        ·exact Hall.out j (by omega))
       have hsle:st+y.Len.toNat≤48:=by omega
       clear hown2 hgrow hat hlt4 k0p hownW n1 hln3 Hall
       go_wp2_with fail
       go_roundw
       case rel=>exact ⟨k+1,_,rfl,by rw [Hsn.out];congr 1;omega,by go_num,by omega,by rw [Hsn.out];omega,Hown2,Hs,HX3.out⟩
       case measure=>simp [intOf];omega
    ·obtain rfl:k=n:=by omega
     have hlt':¬ (k:Int) < (k:Int):=by omega
     obtain ⟨oa,oc,rfl⟩:=own_slice Hown.out
     have Hr:=hid (show R=rowB r t k from by rw [← Hg2.out];exact HY.out t t2 Hall.out)
     have c4'':=hxi.ce' c4
     go_wp2_with fail
     go_ret
     exact ⟨_,rfl,by rw [Hr.out];exact sv_of_owns2 (by rw [rowB_len];exact Hown.out) (fun x hx=>HI.out t k x (by omega) Hall.out hx (Nat.le_refl _)) (by rw [rowB_len];omega),⟨fun h=>(by rw [Hr.out] at h;have:=congrArg List.length h;rw [rowB_len] at this;simp at this;omega),fresh_own Hown.out (Nat.le_refl _)⟩,hxi⟩
section
variable {P:Program} {w:World} {mty kt et:TypeId} {r:Nat} {es:Array MapEntry} {clock:Nat} {k:Int}
theorem run_ins (val:Value) (hm:P.underlying mty=some (.map kt et)) (hk:P.underlying kt=some (.int .i64)) (hb:w.heap[r]?=some (.map es clock)) (hf:Instr.findNow (.int .i64) (.int .i64 k) es.toList 0=some none) :
  (Instr.mapUpdate mty (.map (some r)) (.int .i64 k) val).run P w=.ok () { w with heap:=w.heap.setIfInBounds r (.map (es.push { key:=.int .i64 k,val:=val,born:=clock }) (clock+1)) }:=by
 have hc:(Instr.checkKey false 10000 kt (.int .i64 k)).run P w=.ok () w:=MapKept.run_checkKey (k:=.int .i64 k) hk (by simp [MapKept.IsKey]) false 9999
 simp [Instr.mapUpdate,run_underlying hm,MapKept.run_getObj_map hb,hc,MapKept.run_findKey hk hf,MapKept.run_setObj_map _ hb,Result.andThen]
theorem run_look {i:Nat} {v:Value} (hm:P.underlying mty=some (.map kt et)) (hk:P.underlying kt=some (.int .i64)) (hb:w.heap[r]?=some (.map es clock)) (hf:Instr.findNow (.int .i64) (.int .i64 k) es.toList 0=some (some (i,v))) :
  (Instr.lookup mty (.map (some r)) (.int .i64 k) false).run P w=.ok v w:=by
 have hc:(Instr.checkKey (es.isEmpty) 10000 kt (.int .i64 k)).run P w=.ok () w:=MapKept.run_checkKey (k:=.int .i64 k) hk (by simp [MapKept.IsKey]) _ 9999
 simp [Instr.lookup,run_underlying hm,MapKept.run_getObj_map hb,hc,MapKept.run_findKey hk hf,Result.andThen]
end
def setM (w:World) (m:Nat) (o:Obj):World:={ w with heap:=w.heap.setIfInBounds m o }
theorem setM_same {w:World} {m:Nat} (o:Obj) (h:m < w.heap.size):(setM w m o).heap[m]?=some o:=by simp [setM,h]
theorem setM_other {w:World} {m j:Nat} (o:Obj) (h:m≠j):(setM w m o).heap[j]?=w.heap[j]?:=by simp [setM,h]
theorem setM_size (w:World) (m:Nat) (o:Obj):(setM w m o).heap.size=w.heap.size:=by simp [setM]
theorem Ext.sm {a w:World} (h:Ext a w) {m:Nat} (hm:a.heap.size≤m) (o:Obj):Ext a (setM w m o) :=
 h.trans ⟨rfl,rfl,rfl,by rw [setM_size];exact Nat.le_refl _,fun k hk=>setM_other o (by omega)⟩
theorem In_any (w:World) (v pv:Value) (f:List Run) (r:Request) (hv:RunsV w v f) (hp:PiecesV w pv r.Pieces) (hfine:Fine f) (hr:ReqOk r) :
  Calls Tryz.prog 44 #[v,.agg #[.int .i64 r.Queue,.int .i64 r.From,.int .i64 r.Until,.int .i64 r.Kind,pv]] w (RetPlace w (placeL (sp f) r)):=by
 have hmm:=@run_makeMap Tryz.prog
 obtain ⟨fa,fc,rfl,_,_,_⟩:=hv.form
 obtain ⟨pa,pc,rfl,_,_,_⟩:=hp.form
 have C1:=hid (fun (W:World) (B:Nat) (hx:Ext w W) (hB:w.heap.size≤B) (hS:SeekerAt W B r (.slice pa r.Pieces.length pc) (.slice fa f.length fc))=>all_any w W B r _ _ f hx hB hS hp (hv.mono hx) hfine hr)
 have C3:=hid (fun (W:World) (B:Nat) (hx:Ext w W) (hB:w.heap.size≤B) (hS:SeekerAt W B r (.slice pa r.Pieces.length pc) (.slice fa f.length fc))=>order_any w W B r _ _ f hx hB hS hp (hv.mono hx) hfine hr)
 have C2:=hid (fun (W:World) (B:Nat) (hx:Ext w W) (hS:SeekerAt W B r (.slice pa r.Pieces.length pc) (.slice fa f.length fc))=>any_any W B r _ _ f hS (hp.mono hx) (hv.mono hx) hfine.1 hr)
 have C4:=hid (fun (W:World) (B:Nat) (hx:Ext w W) (hS:SeekerAt W B r (.slice pa r.Pieces.length pc) (.slice fa f.length fc))=>tight_any W B r _ _ f hS (hp.mono hx) (hv.mono hx) hfine.1 hr)
 have P1:=hid (fun h=>placeL_all (x:=sp f) (r:=r) h)
 have P2:=hid (fun h=>placeL_any (x:=sp f) (r:=r) h)
 have P3:=hid (fun h=>placeL_order (x:=sp f) (r:=r) h)
 have P4:=hid (fun h=>placeL_tight (x:=sp f) (r:=r) h)
 obtain ⟨k1,k2⟩:=hr.kind
 clear hv hp hfine hr
 generalize placeL (sp f) r=R at *
 generalize r.Pieces.length=pn at *
 generalize f.length=fn at *
 go_enter Tryz.func44,Tryz.ntmps44
 go_wp2_with fail
 obtain ⟨q0,q1,q2,hx0⟩:∃ _:(((w.alloc (.cells #[.int .i64 r.Queue,.int .i64 r.From,.int .i64 r.Until,.int .i64 r.Kind,.slice pa pn pc] 28)).alloc (.cells #[.int .i64 r.Queue,.int .i64 r.From,.int .i64 r.Until,.int .i64 r.Kind,.slice pa pn pc,.slice fa fn fc] 135)).alloc (.map #[] 0)).heap[w.heap.size]?=some (.cells #[.int .i64 r.Queue,.int .i64 r.From,.int .i64 r.Until,.int .i64 r.Kind,.slice pa pn pc] 28),∃ _:(((w.alloc (.cells #[.int .i64 r.Queue,.int .i64 r.From,.int .i64 r.Until,.int .i64 r.Kind,.slice pa pn pc] 28)).alloc (.cells #[.int .i64 r.Queue,.int .i64 r.From,.int .i64 r.Until,.int .i64 r.Kind,.slice pa pn pc,.slice fa fn fc] 135)).alloc (.map #[] 0)).heap[w.heap.size+1]?=some (.cells #[.int .i64 r.Queue,.int .i64 r.From,.int .i64 r.Until,.int .i64 r.Kind,.slice pa pn pc,.slice fa fn fc] 135),∃ _:(((w.alloc (.cells #[.int .i64 r.Queue,.int .i64 r.From,.int .i64 r.Until,.int .i64 r.Kind,.slice pa pn pc] 28)).alloc (.cells #[.int .i64 r.Queue,.int .i64 r.From,.int .i64 r.Until,.int .i64 r.Kind,.slice pa pn pc,.slice fa fn fc] 135)).alloc (.map #[] 0)).heap[w.heap.size+1+1]?=some (.map #[] 0),Ext w (((w.alloc (.cells #[.int .i64 r.Queue,.int .i64 r.From,.int .i64 r.Until,.int .i64 r.Kind,.slice pa pn pc] 28)).alloc (.cells #[.int .i64 r.Queue,.int .i64 r.From,.int .i64 r.Until,.int .i64 r.Kind,.slice pa pn pc,.slice fa fn fc] 135)).alloc (.map #[] 0)):=by
  have keep:∀ (W:World) (o b:Obj) (j:Nat),W.heap[j]?=some b→(W.alloc o).heap[j]?=some b:=fun W o b j h=>by
   rw [((Ext.rf W).al o).block j (Array.getElem?_eq_some_iff.1 h).1];exact h
  have h1:=heap_alloc_new w (.cells #[.int .i64 r.Queue,.int .i64 r.From,.int .i64 r.Until,.int .i64 r.Kind,.slice pa pn pc] 28)
  have h2:=heap_alloc_new (w.alloc (.cells #[.int .i64 r.Queue,.int .i64 r.From,.int .i64 r.Until,.int .i64 r.Kind,.slice pa pn pc] 28)) (.cells #[.int .i64 r.Queue,.int .i64 r.From,.int .i64 r.Until,.int .i64 r.Kind,.slice pa pn pc,.slice fa fn fc] 135)
  have h3:=heap_alloc_new ((w.alloc (.cells #[.int .i64 r.Queue,.int .i64 r.From,.int .i64 r.Until,.int .i64 r.Kind,.slice pa pn pc] 28)).alloc (.cells #[.int .i64 r.Queue,.int .i64 r.From,.int .i64 r.Until,.int .i64 r.Kind,.slice pa pn pc,.slice fa fn fc] 135)) (.map #[] 0)
  simp only [World.size_alloc] at h2 h3
  exact ⟨keep _ _ _ _ (keep _ _ _ _ h1),keep _ _ _ _ h2,h3,((((Ext.rf w).al _).al _).al _)⟩
 generalize ((w.alloc (.cells #[.int .i64 r.Queue,.int .i64 r.From,.int .i64 r.Until,.int .i64 r.Kind,.slice pa pn pc] 28)).alloc (.cells #[.int .i64 r.Queue,.int .i64 r.From,.int .i64 r.Until,.int .i64 r.Kind,.slice pa pn pc,.slice fa fn fc] 135)).alloc (.map #[] 0)=V0 at *
 rw [run_ins (es:=#[]) (clock:=0) (.func (.func 90) #[.pointer (some ⟨w.heap.size+1,0,none⟩)] #[]) Tryz.underlying137 Tryz.underlying3 q2 rfl]
 obtain ⟨V1,hV⟩:∃ V,setM V0 (w.heap.size+1+1) (.map #[⟨.int .i64 1,(.func (.func 90) #[.pointer (some ⟨w.heap.size+1,0,none⟩)] #[]),0⟩] 1)=V:=⟨_,rfl⟩
 have t2:V1.heap[w.heap.size+1+1]?=some (.map #[⟨.int .i64 1,(.func (.func 90) #[.pointer (some ⟨w.heap.size+1,0,none⟩)] #[]),0⟩] 1):=by rw [← hV];exact setM_same _ (Array.getElem?_eq_some_iff.1 q2).1
 have t1:V1.heap[w.heap.size+1]?=some (.cells #[.int .i64 r.Queue,.int .i64 r.From,.int .i64 r.Until,.int .i64 r.Kind,.slice pa pn pc,.slice fa fn fc] 135):=by rw [← hV,setM_other _ (by omega)];exact q1
 have t0:V1.heap[w.heap.size]?=some (.cells #[.int .i64 r.Queue,.int .i64 r.From,.int .i64 r.Until,.int .i64 r.Kind,.slice pa pn pc] 28):=by rw [← hV,setM_other _ (by omega)];exact q0
 have hx1:Ext w V1:=by rw [← hV];exact hx0.sm (by omega) _
 have hV2:{ V0 with heap:=V0.heap.setIfInBounds (w.heap.size+1+1) (.map ((#[]:Array MapEntry).push { key:=.int .i64 1,val:=(.func (.func 90) #[.pointer (some ⟨w.heap.size+1,0,none⟩)] #[]),born:=0 }) (0+1)) }=V1:=hV
 rw [hV2]
 clear hV hV2 q0 q1 q2 hx0
 have q0:=t0
 have q1:=t1
 have q2:=t2
 clear t0 t1 t2
 have Q0:=hid q0
 have Q1:=hid q1
 have Q2:=hid q2
 clear q0 q1 q2
 go_wp2_with fail
 have q0:=Q0.out
 have q1:=Q1.out
 have q2:=Q2.out
 clear Q0 Q1 Q2
 rw [run_ins (es:=#[⟨.int .i64 1,(.func (.func 90) #[.pointer (some ⟨w.heap.size+1,0,none⟩)] #[]),0⟩]) (clock:=1) (.func (.func 91) #[.pointer (some ⟨w.heap.size+1,0,none⟩)] #[]) Tryz.underlying137 Tryz.underlying3 q2 rfl]
 obtain ⟨V2,hV⟩:∃ V,setM V1 (w.heap.size+1+1) (.map #[⟨.int .i64 1,(.func (.func 90) #[.pointer (some ⟨w.heap.size+1,0,none⟩)] #[]),0⟩,⟨.int .i64 2,(.func (.func 91) #[.pointer (some ⟨w.heap.size+1,0,none⟩)] #[]),1⟩] 2)=V:=⟨_,rfl⟩
 have t2:V2.heap[w.heap.size+1+1]?=some (.map #[⟨.int .i64 1,(.func (.func 90) #[.pointer (some ⟨w.heap.size+1,0,none⟩)] #[]),0⟩,⟨.int .i64 2,(.func (.func 91) #[.pointer (some ⟨w.heap.size+1,0,none⟩)] #[]),1⟩] 2):=by rw [← hV];exact setM_same _ (Array.getElem?_eq_some_iff.1 q2).1
 have t1:V2.heap[w.heap.size+1]?=some (.cells #[.int .i64 r.Queue,.int .i64 r.From,.int .i64 r.Until,.int .i64 r.Kind,.slice pa pn pc,.slice fa fn fc] 135):=by rw [← hV,setM_other _ (by omega)];exact q1
 have t0:V2.heap[w.heap.size]?=some (.cells #[.int .i64 r.Queue,.int .i64 r.From,.int .i64 r.Until,.int .i64 r.Kind,.slice pa pn pc] 28):=by rw [← hV,setM_other _ (by omega)];exact q0
 have hx2:Ext w V2:=by rw [← hV];exact hx1.sm (by omega) _
 have hV2:{ V1 with heap:=V1.heap.setIfInBounds (w.heap.size+1+1) (.map ((#[⟨.int .i64 1,(.func (.func 90) #[.pointer (some ⟨w.heap.size+1,0,none⟩)] #[]),0⟩]:Array MapEntry).push { key:=.int .i64 2,val:=(.func (.func 91) #[.pointer (some ⟨w.heap.size+1,0,none⟩)] #[]),born:=1 }) (1+1)) }=V2:=hV
 rw [hV2]
 clear hV hV2 q0 q1 q2 hx1
 have q0:=t0
 have q1:=t1
 have q2:=t2
 clear t0 t1 t2
 have Q0:=hid q0
 have Q1:=hid q1
 have Q2:=hid q2
 clear q0 q1 q2
 go_wp2_with fail
 have q0:=Q0.out
 have q1:=Q1.out
 have q2:=Q2.out
 clear Q0 Q1 Q2
 rw [run_ins (es:=#[⟨.int .i64 1,(.func (.func 90) #[.pointer (some ⟨w.heap.size+1,0,none⟩)] #[]),0⟩,⟨.int .i64 2,(.func (.func 91) #[.pointer (some ⟨w.heap.size+1,0,none⟩)] #[]),1⟩]) (clock:=2) (.func (.func 92) #[.pointer (some ⟨w.heap.size+1,0,none⟩)] #[]) Tryz.underlying137 Tryz.underlying3 q2 rfl]
 obtain ⟨V3,hV⟩:∃ V,setM V2 (w.heap.size+1+1) (.map #[⟨.int .i64 1,(.func (.func 90) #[.pointer (some ⟨w.heap.size+1,0,none⟩)] #[]),0⟩,⟨.int .i64 2,(.func (.func 91) #[.pointer (some ⟨w.heap.size+1,0,none⟩)] #[]),1⟩,⟨.int .i64 3,(.func (.func 92) #[.pointer (some ⟨w.heap.size+1,0,none⟩)] #[]),2⟩] 3)=V:=⟨_,rfl⟩
 have t2:V3.heap[w.heap.size+1+1]?=some (.map #[⟨.int .i64 1,(.func (.func 90) #[.pointer (some ⟨w.heap.size+1,0,none⟩)] #[]),0⟩,⟨.int .i64 2,(.func (.func 91) #[.pointer (some ⟨w.heap.size+1,0,none⟩)] #[]),1⟩,⟨.int .i64 3,(.func (.func 92) #[.pointer (some ⟨w.heap.size+1,0,none⟩)] #[]),2⟩] 3):=by rw [← hV];exact setM_same _ (Array.getElem?_eq_some_iff.1 q2).1
 have t1:V3.heap[w.heap.size+1]?=some (.cells #[.int .i64 r.Queue,.int .i64 r.From,.int .i64 r.Until,.int .i64 r.Kind,.slice pa pn pc,.slice fa fn fc] 135):=by rw [← hV,setM_other _ (by omega)];exact q1
 have t0:V3.heap[w.heap.size]?=some (.cells #[.int .i64 r.Queue,.int .i64 r.From,.int .i64 r.Until,.int .i64 r.Kind,.slice pa pn pc] 28):=by rw [← hV,setM_other _ (by omega)];exact q0
 have hx3:Ext w V3:=by rw [← hV];exact hx2.sm (by omega) _
 have hV2:{ V2 with heap:=V2.heap.setIfInBounds (w.heap.size+1+1) (.map ((#[⟨.int .i64 1,(.func (.func 90) #[.pointer (some ⟨w.heap.size+1,0,none⟩)] #[]),0⟩,⟨.int .i64 2,(.func (.func 91) #[.pointer (some ⟨w.heap.size+1,0,none⟩)] #[]),1⟩]:Array MapEntry).push { key:=.int .i64 3,val:=(.func (.func 92) #[.pointer (some ⟨w.heap.size+1,0,none⟩)] #[]),born:=2 }) (2+1)) }=V3:=hV
 rw [hV2]
 clear hV hV2 q0 q1 q2 hx2
 have q0:=t0
 have q1:=t1
 have q2:=t2
 clear t0 t1 t2
 have Q0:=hid q0
 have Q1:=hid q1
 have Q2:=hid q2
 clear q0 q1 q2
 go_wp2_with fail
 have q0:=Q0.out
 have q1:=Q1.out
 have q2:=Q2.out
 clear Q0 Q1 Q2
 rw [run_ins (es:=#[⟨.int .i64 1,(.func (.func 90) #[.pointer (some ⟨w.heap.size+1,0,none⟩)] #[]),0⟩,⟨.int .i64 2,(.func (.func 91) #[.pointer (some ⟨w.heap.size+1,0,none⟩)] #[]),1⟩,⟨.int .i64 3,(.func (.func 92) #[.pointer (some ⟨w.heap.size+1,0,none⟩)] #[]),2⟩]) (clock:=3) (.func (.func 93) #[.pointer (some ⟨w.heap.size+1,0,none⟩)] #[]) Tryz.underlying137 Tryz.underlying3 q2 rfl]
 obtain ⟨V4,hV⟩:∃ V,setM V3 (w.heap.size+1+1) (.map #[⟨.int .i64 1,(.func (.func 90) #[.pointer (some ⟨w.heap.size+1,0,none⟩)] #[]),0⟩,⟨.int .i64 2,(.func (.func 91) #[.pointer (some ⟨w.heap.size+1,0,none⟩)] #[]),1⟩,⟨.int .i64 3,(.func (.func 92) #[.pointer (some ⟨w.heap.size+1,0,none⟩)] #[]),2⟩,⟨.int .i64 4,(.func (.func 93) #[.pointer (some ⟨w.heap.size+1,0,none⟩)] #[]),3⟩] 4)=V:=⟨_,rfl⟩
 have t2:V4.heap[w.heap.size+1+1]?=some (.map #[⟨.int .i64 1,(.func (.func 90) #[.pointer (some ⟨w.heap.size+1,0,none⟩)] #[]),0⟩,⟨.int .i64 2,(.func (.func 91) #[.pointer (some ⟨w.heap.size+1,0,none⟩)] #[]),1⟩,⟨.int .i64 3,(.func (.func 92) #[.pointer (some ⟨w.heap.size+1,0,none⟩)] #[]),2⟩,⟨.int .i64 4,(.func (.func 93) #[.pointer (some ⟨w.heap.size+1,0,none⟩)] #[]),3⟩] 4):=by rw [← hV];exact setM_same _ (Array.getElem?_eq_some_iff.1 q2).1
 have t1:V4.heap[w.heap.size+1]?=some (.cells #[.int .i64 r.Queue,.int .i64 r.From,.int .i64 r.Until,.int .i64 r.Kind,.slice pa pn pc,.slice fa fn fc] 135):=by rw [← hV,setM_other _ (by omega)];exact q1
 have t0:V4.heap[w.heap.size]?=some (.cells #[.int .i64 r.Queue,.int .i64 r.From,.int .i64 r.Until,.int .i64 r.Kind,.slice pa pn pc] 28):=by rw [← hV,setM_other _ (by omega)];exact q0
 have hx4:Ext w V4:=by rw [← hV];exact hx3.sm (by omega) _
 have hV2:{ V3 with heap:=V3.heap.setIfInBounds (w.heap.size+1+1) (.map ((#[⟨.int .i64 1,(.func (.func 90) #[.pointer (some ⟨w.heap.size+1,0,none⟩)] #[]),0⟩,⟨.int .i64 2,(.func (.func 91) #[.pointer (some ⟨w.heap.size+1,0,none⟩)] #[]),1⟩,⟨.int .i64 3,(.func (.func 92) #[.pointer (some ⟨w.heap.size+1,0,none⟩)] #[]),2⟩]:Array MapEntry).push { key:=.int .i64 4,val:=(.func (.func 93) #[.pointer (some ⟨w.heap.size+1,0,none⟩)] #[]),born:=3 }) (3+1)) }=V4:=hV
 rw [hV2]
 clear hV hV2 q0 q1 q2 hx3
 have q0:=t0
 have q1:=t1
 have q2:=t2
 clear t0 t1 t2
 have b3:V4.cell? ⟨w.heap.size,3,none⟩=some (.int .i64 r.Kind):=cell_of_row _ _ 3 _ _ _ q0
 have HS:=hid (show SeekerAt V4 (w.heap.size+1) r (.slice pa pn pc) (.slice fa fn fc) from q1)
 have HQ:=hid q2
 have HX:=hid hx4
 clear q0 q1 q2 hx4
 go_wp2_with fail
 rcases (by omega:r.Kind=1∨r.Kind=2∨r.Kind=3∨r.Kind=4) with hk | hk | hk | hk
 ·have hRr:=P1.out hk
  subst hRr
  rw [run_look (i:=0) (v:=.func (.func 90) #[.pointer (some ⟨w.heap.size+1,0,none⟩)] #[]) Tryz.underlying137 Tryz.underlying3 HQ.out (by rw [hk];rfl)]
  have C:=hid (C1.out V4 _ HX.out (by omega) HS.out)
  clear C1 C2 C3 C4 P1 P2 P3 P4 hk
  go_wp2_with fail
  refine C.out.mono ?_
  rintro e w2 ⟨v,rfl,hb,hz,hx2⟩
  have HB:=hid hb
  have HZ:=hid hz
  have HX2:=hid hx2
  clear hb hz hx2
  go_wp2_with fail
  go_ret
  exact ⟨_,rfl,HB.out,HZ.out,HX2.out⟩
 ·have hRr:=P2.out hk
  subst hRr
  rw [run_look (i:=1) (v:=.func (.func 91) #[.pointer (some ⟨w.heap.size+1,0,none⟩)] #[]) Tryz.underlying137 Tryz.underlying3 HQ.out (by rw [hk];rfl)]
  have C:=hid (C2.out V4 _ HX.out HS.out)
  clear C1 C2 C3 C4 P1 P2 P3 P4 hk
  go_wp2_with fail
  refine C.out.mono ?_
  rintro e w2 ⟨v,rfl,hb,hz,hx2⟩
  have HB:=hid hb
  have HZ:=hid hz
  have HX2:=hid hx2
  clear hb hz hx2
  go_wp2_with fail
  go_ret
  exact ⟨_,rfl,HB.out,⟨HZ.out.1,fun a n' c e=>Nat.le_trans HX.out.size (HZ.out.2 a n' c e)⟩,HX.out.tr HX2.out⟩
 ·have hRr:=P3.out hk
  subst hRr
  rw [run_look (i:=2) (v:=.func (.func 92) #[.pointer (some ⟨w.heap.size+1,0,none⟩)] #[]) Tryz.underlying137 Tryz.underlying3 HQ.out (by rw [hk];rfl)]
  have C:=hid (C3.out V4 _ HX.out (by omega) HS.out)
  clear C1 C2 C3 C4 P1 P2 P3 P4 hk
  go_wp2_with fail
  refine C.out.mono ?_
  rintro e w2 ⟨v,rfl,hb,hz,hx2⟩
  have HB:=hid hb
  have HZ:=hid hz
  have HX2:=hid hx2
  clear hb hz hx2
  go_wp2_with fail
  go_ret
  exact ⟨_,rfl,HB.out,HZ.out,HX2.out⟩
 ·have hRr:=P4.out hk
  subst hRr
  rw [run_look (i:=3) (v:=.func (.func 93) #[.pointer (some ⟨w.heap.size+1,0,none⟩)] #[]) Tryz.underlying137 Tryz.underlying3 HQ.out (by rw [hk];rfl)]
  have C:=hid (C4.out V4 _ HX.out HS.out)
  clear C1 C2 C3 C4 P1 P2 P3 P4 hk
  go_wp2_with fail
  refine C.out.mono ?_
  rintro e w2 ⟨v,rfl,hb,hz,hx2⟩
  have HB:=hid hb
  have HZ:=hid hz
  have HX2:=hid hx2
  clear hb hz hx2
  go_wp2_with fail
  go_ret
  exact ⟨_,rfl,HB.out,⟨HZ.out.1,fun a n' c e=>Nat.le_trans HX.out.size (HZ.out.2 a n' c e)⟩,HX.out.tr HX2.out⟩
end Go.Proofs.YtdcndkojmflhnaaGreat
