/- The reference: actFrom; each theorem names its own conditions. -/
import Derived.Test.YtdcndkojmflhnaaGreatPLogJ
set_option linter.unusedVariables false
set_option linter.unusedSimpArgs false
set_option maxRecDepth 100000
set_option maxHeartbeats 8000000
set_option linter.unusedSimpArgs false
set_option linter.unusedVariables false
namespace Go.Proofs.YtdcndkojmflhnaaGreat
open Go.RowKit
open List renaming getElem_toArray→zA,getElem_cons_zero→zB,getElem_cons_succ→zC,setIfInBounds_toArray→zD,set_cons_zero→zE,set_cons_succ→zF
theorem str_at (l:List UInt8) (i:Nat) (b:UInt8) (h:l[i]?=some b) (hs:i < (str l).size):(str l)[i]'hs=b:=by
 obtain ⟨h1,h2⟩:=List.getElem?_eq_some_iff.1 h
 have e:(str l)[i]'hs=l.toArray[i]'(by simpa using h1):=rfl
 rw [e,zA]
 exact h2
theorem at_str {l:List UInt8} {T:ByteArray} (hT:str l=T) (i:Nat) (b:UInt8) (h:l[i]?=some b):∃ hs:i < T.size,(T[i]'hs).toNat=b.toNat:=by
 subst hT
 have hs:i < (str l).size:=by rw [str_size];exact (List.getElem?_eq_some_iff.1 h).1
 exact ⟨hs,by rw [str_at l i b h hs]⟩
theorem run_slice_from {l:List UInt8} {T:ByteArray} (hT:str l=T) (i:Nat) (h:i≤l.length) (W:World):(str l).extract i (str l).size=str (l.drop i):=by
 apply ByteArray.ext
 rw [ByteArray.data_extract,str_size]
 unfold str
 simp [List.take_of_length_le]
theorem actT_long {t:List UInt8} (h:¬ 8≤t.length):actT t=none:=by
 match t with
 | []=>rfl
 | [_]=>rfl
 | [_,_]=>rfl
 | [_,_,_]=>rfl
 | [_,_,_,_]=>rfl
 | [_,_,_,_,_]=>rfl
 | [_,_,_,_,_,_]=>rfl
 | [k,n,q,f,u,rk,n1] =>
  simp only [actT]
  split
  ·next h1=>simp
  ·rfl
 | _::_::_::_::_::_::_::_::_=>simp at h
theorem eight_bytes {t:List UInt8} (h:8≤t.length):∃ k n q f u rk n1 r1,t=k::n::q::f::u::rk::n1::r1:=by
 match t,h with
 | k::n::q::f::u::rk::n1::r1,_=>exact ⟨k,n,q,f,u,rk,n1,r1,rfl⟩
section
variable {k n q f u rk n1:UInt8} {r1:List UInt8}
theorem actT_three (h:3 < n1.toNat):actT (k::n::q::f::u::rk::n1::r1)=none:=by
 simp only [actT];rw [if_neg (by omega)]
theorem actT_ends {a:Nat} (ha:n1.toNat=a) (h:r1.length≤2*a):actT (k::n::q::f::u::rk::n1::r1)=none:=by
 simp only [actT]
 split
 ·rw [List.drop_of_length_le (by omega)]
 ·rfl
theorem actT_caps {a:Nat} {n2:UInt8} {r2:List UInt8} (ha:n1.toNat=a) (hd:r1.drop (2*a)=n2::r2) (h:48 < n2.toNat∨r2.length < 2*n2.toNat):actT (k::n::q::f::u::rk::n1::r1)=none:=by
 simp only [actT]
 split
 ·rw [ha,hd]
  simp only
  rw [if_neg (by omega)]
 ·rfl
theorem actT_is {a:Nat} {n2:UInt8} {r2:List UInt8} (ha:n1.toNat=a) (h3:a≤3) (hd:r1.drop (2*a)=n2::r2) (h:n2.toNat≤48) (h2:2*n2.toNat≤r2.length) :
  actT (k::n::q::f::u::rk::n1::r1)=some (⟨byI k,byI n,⟨byI q,byI f,byI u,byI rk,pieceOf a r1⟩,runOf n2.toNat r2⟩,r2.drop (2*n2.toNat)):=by
 have hl:2*a≤r1.length:=by
  have:=congrArg List.length hd
  rw [List.length_drop,List.length_cons] at this
  omega
 simp only [actT]
 rw [if_pos ⟨by omega,by omega⟩,ha,hd]
 simp only
 rw [if_pos ⟨h,h2⟩]
end
theorem two_more {l:List UInt8} {i:Nat} (h:i+1 < l.length):∃ a c rest,l.drop i=a::c::rest:=by
 rcases hd:l.drop i with _ | ⟨a,_ | ⟨c,rest⟩⟩
 ·have:=congrArg List.length hd;rw [List.length_drop,List.length_nil] at this;omega
 ·have:=congrArg List.length hd;rw [List.length_drop,List.length_singleton] at this;omega
 ·exact ⟨a,c,rest,rfl⟩
theorem byte_at {k n q f u rk n1 b:UInt8} {r1:List UInt8} {p i o:Nat} (hp:p=7+i+o) (h:(r1.drop i)[o]?=some b):(k::n::q::f::u::rk::n1::r1)[p]?=some b:=by
 subst hp
 rw [show 7+i+o=i+o+1+1+1+1+1+1+1 by omega]
 simp only [List.getElem?_cons_succ]
 rw [List.getElem?_drop] at h
 exact h
def FromPost (w:World) (t:List UInt8) (e:Ending) (w':World):Prop:=Ext w w' ∧
 (
  (∃ (x:Act1) (r:List UInt8) (pv cv:Value),actT t=some (x,r)∧e=.returned (.tuple #[.agg #[.int .i64 x.Kind,.int .i64 x.N,.int .i64 x.Req.Queue,.int .i64 x.Req.From,.int .i64 x.Req.Until,.int .i64 x.Req.Kind,pv,cv],.int .i64 ((t.length:Int) - (r.length:Int))])∧PiecesV w' pv x.Req.Pieces∧RunsV w' cv x.Cap∧NewV w.heap.size w' pv∧NewV w.heap.size w' cv) ∨
  (actT t=none∧e=.returned (.tuple #[.agg zeroAct,.int .i64 0])))
theorem fromNone {w w':World} {t:List UInt8} (h:actT t=none) (hx:Ext w w'):FromPost w t (.returned (.tuple #[.agg zeroAct,.int .i64 0])) w':=⟨hx,.inr ⟨h,rfl⟩⟩
theorem actFrom_any (w:World) (t:List UInt8) (h4:t.length≤4096) :
  Calls Tryz.prog 61 #[.string (str t)] w (FromPost w t):=by
 obtain ⟨T,hT⟩:∃ T,str t=T:=⟨_,rfl⟩
 have hsz:T.size=t.length:=by rw [← hT,str_size]
 have HX0:=hid ((Ext.rf w).al (.cells zeroAct 31))
 have HB0:=hid (heap_alloc_new w (.cells zeroAct 31))
 unfold zeroAct at HX0 HB0
 obtain ⟨ip,ip1,ip2,ip3,ip4⟩:=info_parts Tryz.info44
 obtain ⟨ic,ic1,ic2,ic3,ic4⟩:=info_parts Tryz.info48
 have HN:=hid (fun w' h hx=>fromNone (w:=w) (w':=w') (t:=t) h hx)
 by_cases h8:8≤t.length
 ·obtain ⟨k,n,q,f,u,rk,n1,r1,rfl⟩:=eight_bytes h8
  have hr1:r1.length+7=T.size:=by rw [hsz];simp
  have hsz2:=hid (show T.size≤4096 by omega)
  have hlt:¬ (T.size:Int) < 8:=by simp at h8;omega
  have hd:=deF hlt
  obtain ⟨s6,e6⟩:=at_str hT 6 n1 rfl
  have l6:=n1.toNat_lt
  obtain ⟨s0,e0⟩:=at_str hT 0 k rfl
  have l0:=k.toNat_lt
  obtain ⟨s1,e1⟩:=at_str hT 1 n rfl
  have l1:=n.toNat_lt
  obtain ⟨s2,e2⟩:=at_str hT 2 q rfl
  have l2:=q.toNat_lt
  obtain ⟨s3,e3⟩:=at_str hT 3 f rfl
  have l3:=f.toNat_lt
  obtain ⟨s4,e4⟩:=at_str hT 4 u rfl
  have l4:=u.toNat_lt
  obtain ⟨s5,e5⟩:=at_str hT 5 rk rfl
  have l5:=rk.toNat_lt
  have HT:=hid hT
  rw [hT]
  clear hT
  generalize hy6:n1.toNat=y6 at *
  have HY6:=hid hy6
  generalize hy0:k.toNat=y0 at *
  generalize hy1:n.toNat=y1 at *
  generalize hy2:q.toNat=y2 at *
  generalize hy3:f.toNat=y3 at *
  generalize hy4:u.toNat=y4 at *
  generalize hy5:rk.toNat=y5 at *
  have HY:=hid (And.intro hy0 (And.intro hy1 (And.intro hy2 (And.intro hy3 (And.intro hy4 hy5)))))
  clear hy0 hy1 hy2 hy3 hy4 hy5
  have j1:(1:Int) < (T.size:Int):=by omega
  have j2:(2:Int) < (T.size:Int):=by omega
  have j3:(3:Int) < (T.size:Int):=by omega
  have j4:(4:Int) < (T.size:Int):=by omega
  have j5:(5:Int) < (T.size:Int):=by omega
  have v0:IntKind.i64.wrap (y0:Int)=(y0:Int):=by rw [IntKind.wrap_i64];omega
  have v1:IntKind.i64.wrap (y1:Int)=(y1:Int):=by rw [IntKind.wrap_i64];omega
  have v2:IntKind.i64.wrap (y2:Int)=(y2:Int):=by rw [IntKind.wrap_i64];omega
  have v3:IntKind.i64.wrap (y3:Int)=(y3:Int):=by rw [IntKind.wrap_i64];omega
  have v4:IntKind.i64.wrap (y4:Int)=(y4:Int):=by rw [IntKind.wrap_i64];omega
  have v5:IntKind.i64.wrap (y5:Int)=(y5:Int):=by rw [IntKind.wrap_i64];omega
  by_cases h3:3 < y6
  ·have HA:=hid (actT_three (k:=k) (n:=n) (q:=q) (f:=f) (u:=u) (rk:=rk) (n1:=n1) (r1:=r1) (by omega))
   have h3d:=deT (show (3:Int) < (y6:Int) by omega)
   clear hy6
   clear hsz h4 h8
   go_enter Tryz.func61,Tryz.ntmps61
   go_wp2_with fail
   exact bodyPost_ret (results_row_tmp (p:=2) (u:=3) rfl _ _ w.heap.size 31 zeroAct (0,0) _ rfl HB0.out Tryz.underlying31 rfl act_size) rfl (HN.out _ HA.out HX0.out)
  ·have h3d:=deF (show ¬ (3:Int) < (y6:Int) by omega)
   clear hy6
   clear hsz h4 h8
   go_enter Tryz.func61,Tryz.ntmps61
   go_wp2_with fail
   refine wp_region_tail 21 (fun _=>True) (by kernel_rfl) trivial (fun hHeld=>?_)
   refine wpAnyT_take (i:=0) (v:=?_) rfl (by kernel_rfl) (fun _ _ _ h=>h) (Or.inl ⟨by rfl,?_⟩) (by assumption) ?_
   rotate_left
   ·intro W hSW
    simp only [zA,zB]
    (try dsimp only at hSW)
    go_simp
    (try with_reducible rfl)
   simp only [zA,zB,Act.put,zD,zE,zF]
   refine wpAnyT_take (i:=1) (v:=?_) rfl (by kernel_rfl) (fun _ _ _ h=>h) (Or.inl ⟨by rfl,?_⟩) (by assumption) ?_
   rotate_left
   ·intro W hSW
    simp only [zA,zB,zC]
    (try dsimp only at hSW)
    go_simp
    (try with_reducible rfl)
   simp only [zA,zB,zC,Act.put,zD,zE,zF]
   refine wpAnyT_take (i:=2) (v:=?_) rfl (by kernel_rfl) (fun _ _ _ h=>h) (Or.inl ⟨by rfl,?_⟩) (by assumption) ?_
   rotate_left
   ·intro W hSW
    simp only [zA,zB,zC]
    (try dsimp only at hSW)
    go_simp
    (try with_reducible rfl)
   simp only [zA,zB,zC,Act.put,zD,zE,zF]
   refine wpAnyT_take (i:=3) (v:=?_) rfl (by kernel_rfl) (fun _ _ _ h=>h) (Or.inl ⟨by rfl,?_⟩) (by assumption) ?_
   rotate_left
   ·intro W hSW
    simp only [zA,zB,zC]
    (try dsimp only at hSW)
    go_simp
    (try with_reducible rfl)
   simp only [zA,zB,zC,Act.put,zD,zE,zF]
   refine wpAnyT_take (i:=4) (v:=?_) rfl (by kernel_rfl) (fun _ _ _ h=>h) (Or.inl ⟨by rfl,?_⟩) (by assumption) ?_
   rotate_left
   ·intro W hSW
    simp only [zA,zB,zC]
    (try dsimp only at hSW)
    go_simp
    (try with_reducible rfl)
   simp only [zA,zB,zC,Act.put,zD,zE,zF]
   refine wpAnyT_take (i:=5) (v:=?_) rfl (by kernel_rfl) (fun _ _ _ h=>h) (Or.inl ⟨by rfl,?_⟩) (by assumption) ?_
   rotate_left
   ·intro W hSW
    simp only [zA,zB,zC]
    (try dsimp only at hSW)
    go_simp
    (try with_reducible rfl)
   simp only [zA,zB,zC,Act.put,zD,zE,zF]
   refine wpAnyT_take (i:=6) (v:=?_) rfl (by kernel_rfl) (fun _ _ _ h=>h) (Or.inl ⟨by rfl,?_⟩) (by assumption) ?_
   rotate_left
   ·intro W hSW
    simp only [zA,zB,zC]
    (try dsimp only at hSW)
    go_simp
    (try with_reducible rfl)
   simp only [zA,zB,zC,Act.put,zD,zE,zF]
   refine wpAnyT_take (i:=7) (v:=?_) rfl (by kernel_rfl) (fun _ _ _ h=>h) (Or.inl ⟨by rfl,?_⟩) (by assumption) ?_
   rotate_left
   ·intro W hSW
    simp only [zA,zB,zC]
    (try dsimp only at hSW)
    go_simp
    (try with_reducible rfl)
   simp only [zA,zB,zC,Act.put,zD,zE,zF]
   refine wpAnyT_take (i:=8) (v:=?_) rfl (by kernel_rfl) (fun _ _ _ h=>h) (Or.inl ⟨by rfl,?_⟩) (by assumption) ?_
   rotate_left
   ·intro W hSW
    simp only [zA,zB,zC]
    (try dsimp only at hSW)
    go_simp
    (try with_reducible rfl)
   simp only [zA,zB,zC,Act.put,zD,zE,zF]
   refine wpAnyT_take (i:=9) (v:=?_) rfl (by kernel_rfl) (fun _ _ _ h=>h) (Or.inl ⟨by rfl,?_⟩) (by assumption) ?_
   rotate_left
   ·intro W hSW
    simp only [zA,zB,zC]
    (try dsimp only at hSW)
    go_simp
    (try with_reducible rfl)
   simp only [zA,zB,zC,Act.put,zD,zE,zF]
   refine wpAnyT_take (i:=10) (v:=?_) rfl (by kernel_rfl) (fun _ _ _ h=>h) (Or.inl ⟨by rfl,?_⟩) (by assumption) ?_
   rotate_left
   ·intro W hSW
    simp only [zA,zB,zC]
    (try dsimp only at hSW)
    go_simp
    (try with_reducible rfl)
   simp only [zA,zB,zC,Act.put,zD,zE,zF]
   refine wpAnyT_take (i:=11) (v:=?_) rfl (by kernel_rfl) (fun _ _ _ h=>h) (Or.inl ⟨by rfl,?_⟩) (by assumption) ?_
   rotate_left
   ·intro W hSW
    simp only [zA,zB,zC]
    (try dsimp only at hSW)
    go_simp
    (try with_reducible rfl)
   simp only [zA,zB,zC,Act.put,zD,zE,zF]
   refine wpAnyT_take (i:=12) (v:=?_) rfl (by kernel_rfl) (fun _ _ _ h=>h) (Or.inl ⟨by rfl,?_⟩) (by assumption) ?_
   rotate_left
   ·intro W hSW
    simp only [zA,zB,zC]
    (try dsimp only at hSW)
    go_simp
    (try with_reducible rfl)
   simp only [zA,zB,zC,Act.put,zD,zE,zF]
   refine wpAnyT_take (i:=13) (v:=?_) rfl (by kernel_rfl) (fun _ _ _ h=>h) (Or.inl ⟨by rfl,?_⟩) (by assumption) ?_
   rotate_left
   ·intro W hSW
    simp only [zA,zB,zC]
    (try dsimp only at hSW)
    go_simp
    (try with_reducible rfl)
   simp only [zA,zB,zC,Act.put,zD,zE,zF]
   refine wpAnyT_take (i:=14) (v:=?_) rfl (by kernel_rfl) (fun _ _ _ h=>h) (Or.inl ⟨by rfl,?_⟩) (by assumption) ?_
   rotate_left
   ·intro W hSW
    simp only [zA,zB,zC]
    (try dsimp only at hSW)
    go_simp
    (try with_reducible rfl)
   simp only [zA,zB,zC,Act.put,zD,zE,zF]
   refine wpAnyT_take (i:=15) (v:=?_) rfl (by kernel_rfl) (fun _ _ _ h=>h) (Or.inl ⟨by rfl,?_⟩) (by assumption) ?_
   rotate_left
   ·intro W hSW
    simp only [zA,zB,zC]
    (try dsimp only at hSW)
    go_simp
    (try with_reducible rfl)
   simp only [zA,zB,zC,Act.put,zD,zE,zF]
   refine wpAnyT_take (i:=16) (v:=?_) rfl (by kernel_rfl) (fun _ _ _ h=>h) (Or.inl ⟨by rfl,?_⟩) (by assumption) ?_
   rotate_left
   ·intro W hSW
    simp only [zA,zB,zC]
    (try dsimp only at hSW)
    go_simp
    (try with_reducible rfl)
   simp only [zA,zB,zC,Act.put,zD,zE,zF]
   refine wpAnyT_take (i:=17) (v:=?_) rfl (by kernel_rfl) (fun _ _ _ h=>h) (Or.inl ⟨by rfl,?_⟩) (by assumption) ?_
   rotate_left
   ·intro W hSW
    simp only [zA,zB,zC]
    (try dsimp only at hSW)
    go_simp
    (try with_reducible rfl)
   simp only [zA,zB,zC,Act.put,zD,zE,zF]
   refine wpAnyT_take (i:=18) (v:=?_) rfl (by kernel_rfl) (fun _ _ _ h=>h) (Or.inl ⟨by rfl,?_⟩) (by assumption) ?_
   rotate_left
   ·intro W hSW
    simp only [zA,zB,zC]
    (try dsimp only at hSW)
    go_simp
    (try with_reducible rfl)
   simp only [zA,zB,zC,Act.put,zD,zE,zF]
   refine wpAnyT_take (i:=19) (v:=?_) rfl (by kernel_rfl) (fun _ _ _ h=>h) (Or.inl ⟨by rfl,?_⟩) (by assumption) ?_
   rotate_left
   ·intro W hSW
    simp only [zA,zB,zC]
    (try dsimp only at hSW)
    go_simp
    (try with_reducible rfl)
   simp only [zA,zB,zC,Act.put,zD,zE,zF]
   refine wpAnyT_go (i:=20) (by kernel_rfl) rfl (fun K hK=>?_)
   simp only [zA,zB,zC]
   go_simp
   refine hK.out _ _ ?_ (fun hHeld=>?_)
   ·(exact trivial)
   clear hK K
   refine wpAnyT_last (t:=21) (by kernel_rfl) rfl (by kernel_rfl) (fun K hK=>?_)
   simp only [zA,zB,zC]
   go_simp
   refine hK.out _ _ ?_
   clear hK K
   have hm:7+2*(y6:Int)=((7+2*y6:Nat):Int):=by omega
   obtain ⟨m,hmm⟩:∃ m:Nat,7+2*y6=m:=⟨_,rfl⟩
   rw [hmm] at hm
   by_cases hend:T.size≤m
   ·have HA:=hid (actT_ends (k:=k) (n:=n) (q:=q) (f:=f) (u:=u) (rk:=rk) (n1:=n1) (r1:=r1) HY6.out (by omega))
    have g1:(T.size:Int)≤(m:Int):=by omega
    have g2:=deT g1
    clear e0 e1 e2 e3 e4 e5 s0 s1 s2 s3 s4 s5 j1 j2 j3 j4 j5 v0 v1 v2 v3 v4 v5
    go_wp2_with fail
    have HX2:=(HX0.out.al (.cells #[.int .i64 (y0:Int),.int .i64 (y1:Int),.int .i64 (y2:Int),.int .i64 (y3:Int),.int .i64 (y4:Int),.int .i64 (y5:Int),.slice none 0 0,.slice none 0 0] 31)).dr
    have HB2:=blk_ext HB0.out (((Ext.rf _).al (.cells #[.int .i64 (y0:Int),.int .i64 (y1:Int),.int .i64 (y2:Int),.int .i64 (y3:Int),.int .i64 (y4:Int),.int .i64 (y5:Int),.slice none 0 0,.slice none 0 0] 31)).dr)
    exact bodyPost_ret (results_row_tmp (p:=2) (u:=3) rfl _ _ w.heap.size 31 zeroAct (0,0) _ rfl HB2 Tryz.underlying31 rfl act_size) rfl (HN.out _ HA.out HX2)
   ·obtain ⟨n2,r2,hdr⟩:∃ n2 r2,r1.drop (2*y6)=n2::r2:=by
     cases hd2:r1.drop (2*y6) with
     | nil=>have:=congrArg List.length hd2;rw [List.length_drop,List.length_nil] at this;omega
     | cons a b=>exact ⟨a,b,rfl⟩
    have hl2:r2.length+m+1=T.size:=by
     have:=congrArg List.length hdr
     rw [List.length_drop,List.length_cons] at this
     omega
    obtain ⟨sm,em⟩:=at_str HT.out m n2 (by
     rw [← hmm,show 7+2*y6=2*y6+1+1+1+1+1+1+1 by omega]
     simp only [List.getElem?_cons_succ]
     have h0:=congrArg (fun l:List UInt8=>l[0]?) hdr
     simp only [List.getElem?_drop,Nat.add_zero] at h0
     exact h0)
    have lm:=n2.toNat_lt
    have HACT:=hid (fun h2 h3=>actT_is (k:=k) (n:=n) (q:=q) (f:=f) (u:=u) (rk:=rk) (n1:=n1) (r1:=r1) (a:=y6) HY6.out (by omega) hdr h2 h3)
    have HCAP:=hid (fun h=>actT_caps (k:=k) (n:=n) (q:=q) (f:=f) (u:=u) (rk:=rk) (n1:=n1) (r1:=r1) (a:=y6) HY6.out hdr h)
    generalize hz:n2.toNat=z at *
    have HZ:=hid hz
    have g1:¬ (T.size:Int)≤(m:Int):=by omega
    have g2:=deF g1
    have g3:(m:Int) < (T.size:Int):=by omega
    have vm:IntKind.i64.wrap (z:Int)=(z:Int):=by rw [IntKind.wrap_i64];omega
    have HB2:=hid (blk_ext HB0.out (((Ext.rf _).al (.cells #[.int .i64 (y0:Int),.int .i64 (y1:Int),.int .i64 (y2:Int),.int .i64 (y3:Int),.int .i64 (y4:Int),.int .i64 (y5:Int),.slice none 0 0,.slice none 0 0] 31)).dr))
    have HX2:=hid ((HX0.out.al (.cells #[.int .i64 (y0:Int),.int .i64 (y1:Int),.int .i64 (y2:Int),.int .i64 (y3:Int),.int .i64 (y4:Int),.int .i64 (y5:Int),.slice none 0 0,.slice none 0 0] 31)).dr)
    clear e0 e1 e2 e3 e4 e5 s0 s1 s2 s3 s4 s5 j1 j2 j3 j4 j5 v0 v1 v2 v3 v4 v5 hz
    by_cases h48:48 < z
    ·have HA:=hid (HCAP.out (.inl h48))
     have g4:=deT (show (48:Int) < (z:Int) by omega)
     go_wp2_with fail
     exact bodyPost_ret (results_row_tmp (p:=2) (u:=3) rfl _ _ w.heap.size 31 zeroAct (0,0) _ rfl HB2.out Tryz.underlying31 rfl act_size) rfl (HN.out _ HA.out HX2.out)
    ·have g4:=deF (show ¬ (48:Int) < (z:Int) by omega)
     by_cases hse:T.size < m+1+2*z
     ·have HA:=hid (HCAP.out (.inr (by omega)))
      have g5:=deT (show (T.size:Int) < (m:Int)+1+2*(z:Int) by omega)
      go_wp2_with fail
      exact bodyPost_ret (results_row_tmp (p:=2) (u:=3) rfl _ _ w.heap.size 31 zeroAct (0,0) _ rfl HB2.out Tryz.underlying31 rfl act_size) rfl (HN.out _ HA.out HX2.out)
     ·have g5:=deF (show ¬ (T.size:Int) < (m:Int)+1+2*(z:Int) by omega)
      have HXR:=hid (blk_ext (heap_alloc_new (w.alloc (.cells #[.int .i64 0,.int .i64 0,.int .i64 0,.int .i64 0,.int .i64 0,.int .i64 0,.slice none 0 0,.slice none 0 0] 31)) (.cells #[.int .i64 (y0:Int),.int .i64 (y1:Int),.int .i64 (y2:Int),.int .i64 (y3:Int),.int .i64 (y4:Int),.int .i64 (y5:Int),.slice none 0 0,.slice none 0 0] 31)) (Ext.rf _).dr)
      rw [World.size_alloc] at HXR
      have HDR:=hid hdr
      have h48':z≤48:=by omega
      have h4':=hsz2.out
      go_wp2_with fail
      have hs1:w.heap.size+2≤(((w.alloc (.cells #[.int .i64 0,.int .i64 0,.int .i64 0,.int .i64 0,.int .i64 0,.int .i64 0,.slice none 0 0,.slice none 0 0] 31)).alloc (.cells #[.int .i64 (y0:Int),.int .i64 (y1:Int),.int .i64 (y2:Int),.int .i64 (y3:Int),.int .i64 (y4:Int),.int .i64 (y5:Int),.slice none 0 0,.slice none 0 0] 31)).drew).heap.size:=by simp
      generalize ((w.alloc (.cells #[.int .i64 0,.int .i64 0,.int .i64 0,.int .i64 0,.int .i64 0,.int .i64 0,.slice none 0 0,.slice none 0 0] 31)).alloc (.cells #[.int .i64 (y0:Int),.int .i64 (y1:Int),.int .i64 (y2:Int),.int .i64 (y3:Int),.int .i64 (y4:Int),.int .i64 (y5:Int),.slice none 0 0,.slice none 0 0] 31)).drew=W1 at *
      go_loopw [6] (fun c wr=>∃ (j p:Nat) (v:Value),c=.int .i64 p∧p=7+2*j∧j≤y6∧Hid (wr.heap[w.heap.size+1]?=some (.cells #[.int .i64 (y0:Int),.int .i64 (y1:Int),.int .i64 (y2:Int),.int .i64 (y3:Int),.int .i64 (y4:Int),.int .i64 (y5:Int),v,.slice none 0 0] 31 (0,0)))∧Hid (wr.ownsRow (w.heap.size+2) 44 2 v j (cells2 Piece.Len Piece.N (pieceOf j r1)))∧Hid (wr.heap[w.heap.size]?=some (.cells zeroAct 31 (0,0)))∧Hid (Ext w wr)∧w.heap.size+2≤wr.heap.size) (fun c _=>m - (intOf c).toNat)
      case atStart=>exact ⟨0,7,.slice none 0 0,rfl,rfl,Nat.zero_le _,HXR,hid (World.ownsRow_nil _ _ _ _),HB2,HX2,hs1⟩
      case round =>
       obtain ⟨j,p,v,rfl,hp,hj,HXB,HOW,HZB,HX,hsr⟩:=hrel
       by_cases hlt:j < y6
       ·have hlt':(p:Int) < (m:Int):=by omega
        have hr1l:2*y6 < r1.length:=by omega
        obtain ⟨a,c,rest,hac⟩:∃ a c rest,r1.drop (2*j)=a::c::rest:=two_more (by omega)
        have hp0:=byte_at (k:=k) (n:=n) (q:=q) (f:=f) (u:=u) (rk:=rk) (n1:=n1) (i:=2*j) (o:=0) hp (congrArg (fun l:List UInt8=>l[0]?) hac)
        obtain ⟨p1,hpp⟩:∃ p1,p+1=p1:=⟨_,rfl⟩
        have hp1:=byte_at (k:=k) (n:=n) (q:=q) (f:=f) (u:=u) (rk:=rk) (n1:=n1) (p:=p1) (i:=2*j) (o:=1) (by omega) (congrArg (fun l:List UInt8=>l[1]?) hac)
        obtain ⟨sp0,ep0⟩:=at_str HT.out p a hp0
        obtain ⟨sp1,ep1⟩:=at_str HT.out p1 c hp1
        have la:=a.toNat_lt
        have lc:=c.toNat_lt
        have HPO:=hid (pieceOf_snoc j r1 a c rest hac)
        rw [show byI a=(a.toNat:Int) from rfl,show byI c=(c.toNat:Int) from rfl] at HPO
        generalize a.toNat=za at *
        generalize c.toNat=zc at *
        have ja:(p:Int) < (T.size:Int):=by omega
        have jc:(p1:Int) < (T.size:Int):=by omega
        have hw1:IntKind.i64.wrap ((p:Int)+1)=(p1:Int):=by rw [IntKind.wrap_i64];omega
        have va:IntKind.i64.wrap (za:Int)=(za:Int):=by rw [IntKind.wrap_i64];omega
        have vc:IntKind.i64.wrap (zc:Int)=(zc:Int):=by rw [IntKind.wrap_i64];omega
        have k6:=cell_of_row _ _ 6 _ _ _ HXB.out
        have hp4:p≤4096:=by omega
        have HPJ:=hid hp
        clear hp0 hp1 hac hp hpp
        go_wp2_with fail
        refine wp_region_tail 17 (fun W=>W.cell? ⟨w.heap.size+1,6,none⟩=some v) (by kernel_rfl) k6 (fun hHeld=>?_)
        refine wpAnyT_take (i:=0) (v:=?_) rfl (by kernel_rfl) (fun _ _ _ h=>h) (Or.inl ⟨by rfl,?_⟩) (by assumption) ?_
        rotate_left
        ·intro W hSW
         simp only [zA,zB]
         (try dsimp only at hSW)
         go_simp
         (try with_reducible rfl)
        simp only [zA,zB,Act.put,zD,zE,zF]
        refine wpAnyT_take (i:=1) (v:=?_) rfl (by kernel_rfl) (fun _ _ _ h=>h) (Or.inl ⟨by rfl,?_⟩) (by assumption) ?_
        rotate_left
        ·intro W hSW
         simp only [zA,zB,zC]
         (try dsimp only at hSW)
         go_simp
         (try with_reducible rfl)
        simp only [zA,zB,zC,Act.put,zD,zE,zF]
        refine wpAnyT_take (i:=2) (v:=?_) rfl (by kernel_rfl) (fun _ _ _ h=>h) (Or.inl ⟨by rfl,?_⟩) (by assumption) ?_
        rotate_left
        ·intro W hSW
         simp only [zA,zB,zC]
         (try dsimp only at hSW)
         go_simp
         (try with_reducible rfl)
        simp only [zA,zB,zC,Act.put,zD,zE,zF]
        refine wpAnyT_take (i:=3) (v:=?_) rfl (by kernel_rfl) (fun _ _ _ h=>h) (Or.inl ⟨by rfl,?_⟩) (by assumption) ?_
        rotate_left
        ·intro W hSW
         simp only [zA,zB,zC]
         (try dsimp only at hSW)
         go_simp
         (try with_reducible rfl)
        simp only [zA,zB,zC,Act.put,zD,zE,zF]
        refine wpAnyT_take (i:=4) (v:=?_) rfl (by kernel_rfl) (fun _ _ _ h=>h) (Or.inl ⟨by rfl,?_⟩) (by assumption) ?_
        rotate_left
        ·intro W hSW
         simp only [zA,zB,zC]
         (try dsimp only at hSW)
         go_simp
         (try with_reducible rfl)
        simp only [zA,zB,zC,Act.put,zD,zE,zF]
        refine wpAnyT_take (i:=5) (v:=?_) rfl (by kernel_rfl) (fun _ _ _ h=>h) (Or.inl ⟨by rfl,?_⟩) (by assumption) ?_
        rotate_left
        ·intro W hSW
         simp only [zA,zB,zC]
         (try dsimp only at hSW)
         go_simp
         (try with_reducible rfl)
        simp only [zA,zB,zC,Act.put,zD,zE,zF]
        refine wpAnyT_take (i:=6) (v:=?_) rfl (by kernel_rfl) (fun _ _ _ h=>h) (Or.inl ⟨by rfl,?_⟩) (by assumption) ?_
        rotate_left
        ·intro W hSW
         simp only [zA,zB,zC]
         (try dsimp only at hSW)
         go_simp
         (try with_reducible rfl)
        simp only [zA,zB,zC,Act.put,zD,zE,zF]
        refine wpAnyT_take (i:=7) (v:=?_) rfl (by kernel_rfl) (fun _ _ _ h=>h) (Or.inl ⟨by rfl,?_⟩) (by assumption) ?_
        rotate_left
        ·intro W hSW
         simp only [zA,zB,zC]
         (try dsimp only at hSW)
         go_simp
         (try with_reducible rfl)
        simp only [zA,zB,zC,Act.put,zD,zE,zF]
        refine wpAnyT_take (i:=8) (v:=?_) rfl (by kernel_rfl) (fun _ _ _ h=>h) (Or.inl ⟨by rfl,?_⟩) (by assumption) ?_
        rotate_left
        ·intro W hSW
         simp only [zA,zB,zC]
         (try dsimp only at hSW)
         go_simp
         (try with_reducible rfl)
        simp only [zA,zB,zC,Act.put,zD,zE,zF]
        refine wpAnyT_take (i:=9) (v:=?_) rfl (by kernel_rfl) (fun _ _ _ h=>h) (Or.inl ⟨by rfl,?_⟩) (by assumption) ?_
        rotate_left
        ·intro W hSW
         simp only [zA,zB,zC]
         (try dsimp only at hSW)
         go_simp
         (try with_reducible rfl)
        simp only [zA,zB,zC,Act.put,zD,zE,zF]
        refine wpAnyT_take (i:=10) (v:=?_) rfl (by kernel_rfl) (fun _ _ _ h=>h) (Or.inl ⟨by rfl,?_⟩) (by assumption) ?_
        rotate_left
        ·intro W hSW
         simp only [zA,zB,zC]
         (try dsimp only at hSW)
         go_simp
         (try with_reducible rfl)
        simp only [zA,zB,zC,Act.put,zD,zE,zF]
        refine wpAnyT_take (i:=11) (v:=?_) rfl (by kernel_rfl) (fun _ _ _ h=>h) (Or.inl ⟨by rfl,?_⟩) (by assumption) ?_
        rotate_left
        ·intro W hSW
         simp only [zA,zB,zC]
         (try dsimp only at hSW)
         go_simp
         (try with_reducible rfl)
        simp only [zA,zB,zC,Act.put,zD,zE,zF]
        refine wpAnyT_take (i:=12) (v:=?_) rfl (by kernel_rfl) (fun _ _ _ h=>h) (Or.inl ⟨by rfl,?_⟩) (by assumption) ?_
        rotate_left
        ·intro W hSW
         simp only [zA,zB,zC]
         (try dsimp only at hSW)
         go_simp
         (try with_reducible rfl)
        simp only [zA,zB,zC,Act.put,zD,zE,zF]
        refine wpAnyT_go (i:=13) (by kernel_rfl) rfl (fun K hK=>?_)
        simp only [zA,zB,zC]
        go_simp
        obtain ⟨W2,hW2⟩:∃ W2,(wr.alloc (.cells #[.int .i64 (za:Int),.int .i64 (zc:Int)] 44)).drew=W2:=⟨_,rfl⟩
        rw [hW2]
        have hx2:Ext wr W2:=hW2▸((Ext.rf wr).al _).dr
        refine hK.out _ _ ?_ (fun hHeld=>?_)
        ·(exact hx2.ce' k6)
        clear hK K
        refine wpAnyT_go (i:=14) (by kernel_rfl) rfl (fun K hK=>?_)
        simp only [zA,zB,zC]
        refine wp_append_own _ _ _ _ (by rfl) (w.heap.size+2) 44 ip _ 2 16 Tryz.underlying26 ip1 ip2 ip3 ip4 rfl (by decide) v j (cells2 Piece.Len Piece.N (pieceOf j r1)) (by rfl) (ownsRow_ext HOW.out hx2) ⟨wr.heap.size,0,none⟩ 1 1 [.int .i64 (za:Int),.int .i64 (zc:Int)] (by rfl) (by rfl) (by
         rw [← hW2]
         exact fun i u hi=>ext_ceA (Ext.rf _).dr (new2 wr rfl _ _ _ i u hi)) (one2 _ _ _ _) (by unfold maxLen;omega) (by omega) (by have:=hx2.size;omega) (fun v5 W5 hown5 hgrow5 hnil5=>?_)
        obtain ⟨g5,c5,rfl⟩:=own_some7 hown5 (by omega)
        have hX5:W5.heap[w.heap.size+1]?=some (.cells #[.int .i64 (y0:Int),.int .i64 (y1:Int),.int .i64 (y2:Int),.int .i64 (y3:Int),.int .i64 (y4:Int),.int .i64 (y5:Int),v,.slice none 0 0] 31 (0,0)):=(hgrow5.block _ (by have:=hx2.size;omega) (fun e=>by have:=own_lt HOW.out _ e.symm;omega)).trans (blk_ext HXB.out hx2)
        have hZ5:W5.heap[w.heap.size]?=some (.cells zeroAct 31 (0,0)):=(hgrow5.block _ (by have:=hx2.size;omega) (fun e=>by have:=own_lt HOW.out _ e.symm;omega)).trans (blk_ext HZB.out hx2)
        have hx5:Ext w W5:=(HX.out.tr hx2).gr hgrow5 (fun g hg=>by have:=own_lt HOW.out g hg;omega)
        have hs5:w.heap.size+2≤W5.heap.size:=by have:=hgrow5.size;have:=hx2.size;omega
        have k65:=cell_of_row _ _ 6 _ _ _ hX5
        have f65:=frozen_of_row _ _ 6 _ _ hX5
        refine hK.out _ _ ?_ (fun hHeld=>?_)
        ·(exact k65)
        clear hK K
        refine wpAnyT_take (i:=15) (v:=?_) rfl (by kernel_rfl) (fun _ _ _ h=>h) (Or.inl ⟨by rfl,?_⟩) (by assumption) ?_
        rotate_left
        ·intro W hSW
         simp only [zA,zB,zC]
         (try dsimp only at hSW)
         go_simp
         (try with_reducible rfl)
        simp only [zA,zB,zC,Act.put,zD,zE,zF]
        refine wpAnyT_take (i:=16) (v:=?_) rfl (by kernel_rfl) (fun _ _ _ h=>h) (Or.inl ⟨by rfl,?_⟩) (by assumption) ?_
        rotate_left
        ·intro W hSW
         simp only [zA,zB,zC]
         (try dsimp only at hSW)
         go_simp
         (try with_reducible rfl)
        simp only [zA,zB,zC,Act.put,zD,zE,zF]
        refine wpAnyT_last (t:=17) (by kernel_rfl) rfl (by kernel_rfl) (fun K hK=>?_)
        simp only [zA,zB,zC]
        go_simp
        refine hK.out _ _ ?_
        clear hK K
        have HX6:=hid (show (W5.setCell ⟨w.heap.size+1,6,none⟩ (.slice (some ⟨g5,0,none⟩) (j+1) c5)).heap[w.heap.size+1]?=some (.cells #[.int .i64 (y0:Int),.int .i64 (y1:Int),.int .i64 (y2:Int),.int .i64 (y3:Int),.int .i64 (y4:Int),.int .i64 (y5:Int),.slice (some ⟨g5,0,none⟩) (j+1) c5,.slice none 0 0] 31 (0,0)) from heap_setCell_same W5 _ 6 _ _ _ hX5)
        have HO6:=hid (ownsRow_grown hown5 (grown_set W5 (w.heap.size+1) 6 (.slice (some ⟨g5,0,none⟩) (j+1) c5)) (by omega))
        have HZ6:=hid ((heap_setCell_other W5 ⟨w.heap.size+1,6,none⟩ w.heap.size (.slice (some ⟨g5,0,none⟩) (j+1) c5) (by show w.heap.size≠w.heap.size+1;omega)).trans hZ5)
        have HXX:=hid (hx5.se (b:=w.heap.size+1) (o:=6) (by omega) (.slice (some ⟨g5,0,none⟩) (j+1) c5))
        have hs6:w.heap.size+2≤(W5.setCell ⟨w.heap.size+1,6,none⟩ (.slice (some ⟨g5,0,none⟩) (j+1) c5)).heap.size:=by simp [World.setCell];exact hs5
        generalize W5.setCell ⟨w.heap.size+1,6,none⟩ (.slice (some ⟨g5,0,none⟩) (j+1) c5)=W6 at *
        clear hHeld k6 k65 f65 hX5 hZ5 hx5 hs5 hown5 hgrow5 hnil5 hW2 hx2 HOW HXB HZB HX
        go_wp2_with fail
        go_roundw
        case rel=>exact ⟨j+1,p+2,_,by go_num,by have:=HPJ.out;omega,by omega,HX6,hid (by
         rw [HPO.out,cells2_snoc]
         exact HO6.out),HZ6,HXX,hs6⟩
        case measure=>have:=HPJ.out;simp [intOf];omega
       ·obtain rfl:j=y6:=by omega
        obtain rfl:p=m:=by omega
        have hno:¬ (p:Int) < (p:Int):=by omega
        have hpl:=pieceOf_len j r1 (by omega)
        have hpv:PiecesV wr v (pieceOf j r1):=sv_of_owns2 (by rw [hpl];exact HOW.out) (pieceOf_i64 j r1) (by rw [hpl];omega)
        have hnv:=NewV.owned HOW.out (Nat.le_refl _)
        obtain ⟨va,vc,rfl,_,_,_⟩:=hpv.form
        obtain ⟨Q,hQ⟩:∃ Q:Nat,p+1=Q:=⟨_,rfl⟩
        obtain ⟨E,hE⟩:∃ E:Nat,Q+2*z=E:=⟨_,rfl⟩
        have hQi:(p:Int)+1=(Q:Int):=by omega
        have hEi:(Q:Int)+2*(z:Int)=(E:Int):=by omega
        have hEi2:(p:Int)+1+2*(z:Int)=(E:Int):=by omega
        have HPV:=hid hpv
        have HNV:=hid hnv
        have HQE:=hid (And.intro hQ hE)
        have HXB2:=hid HXB.out
        have HP7:=hid hp
        have h4096:p≤4096:=by omega
        have hE4:E≤4096:=by omega
        clear hpv hnv hp hQ hE HOW hmm
        generalize hpn:(pieceOf j r1).length=pn at *
        have HPN:=hid hpn
        clear hpn hpl
        go_wp2_with fail
        clear em sm e6 s6
        generalize wr=wl at *
        go_loopw [8] (fun c wr=>∃ (i o:Nat) (v2:Value),c=.int .i64 o∧o=Q+2*i∧i≤z∧Hid (wr.heap[w.heap.size+1]?=some (.cells #[.int .i64 (y0:Int),.int .i64 (y1:Int),.int .i64 (y2:Int),.int .i64 (y3:Int),.int .i64 (y4:Int),.int .i64 (y5:Int),(.slice va pn vc),v2] 31 (0,0)))∧Hid (wr.ownsRow wl.heap.size 48 2 v2 i (cells2 Run.At Run.N (runOf i r2)))∧Hid (wr.heap[w.heap.size]?=some (.cells zeroAct 31 (0,0)))∧Hid (PiecesV wr (.slice va pn vc) (pieceOf j r1))∧Hid (Ext w wr)∧wl.heap.size≤wr.heap.size) (fun c _=>E - (intOf c).toNat)
        case atStart=>exact ⟨0,Q,.slice none 0 0,rfl,rfl,Nat.zero_le _,HXB2,hid (World.ownsRow_nil _ _ _ _),HZB,HPV,HX,Nat.le_refl _⟩
        case round =>
         obtain ⟨i,o,v2,rfl,ho,hi,HXC,HOC,HZC,HPC,HXX,hsc⟩:=hrel
         by_cases hlt2:i < z
         ·have hlt':(o:Int) < (E:Int):=by have:=HQE.out;omega
          obtain ⟨a,c,rest,hac⟩:∃ a c rest,r2.drop (2*i)=a::c::rest:=two_more (by omega)
          obtain ⟨o1,hoo⟩:∃ o1,o+1=o1:=⟨_,rfl⟩
          have hb0:=byte_at (k:=k) (n:=n) (q:=q) (f:=f) (u:=u) (rk:=rk) (n1:=n1) (p:=o) (i:=2*j) (o:=2*i+1) (by have:=HQE.out;have:=HP7.out;omega) (by
           rw [HDR.out,List.getElem?_cons_succ]
           have h0:=congrArg (fun l:List UInt8=>l[0]?) hac
           simp only [List.getElem?_drop,Nat.add_zero] at h0
           exact h0)
          have hb1:=byte_at (k:=k) (n:=n) (q:=q) (f:=f) (u:=u) (rk:=rk) (n1:=n1) (p:=o1) (i:=2*j) (o:=2*i+1+1) (by have:=HQE.out;have:=HP7.out;omega) (by
           rw [HDR.out,List.getElem?_cons_succ]
           have h0:=congrArg (fun l:List UInt8=>l[1]?) hac
           simp only [List.getElem?_drop] at h0
           exact h0)
          obtain ⟨sp0,ep0⟩:=at_str HT.out o a hb0
          obtain ⟨sp1,ep1⟩:=at_str HT.out o1 c hb1
          have la:=a.toNat_lt
          have lc:=c.toNat_lt
          have HPO:=hid (runOf_snoc i r2 a c rest hac)
          rw [show byI a=(a.toNat:Int) from rfl,show byI c=(c.toNat:Int) from rfl] at HPO
          generalize a.toNat=za at *
          generalize c.toNat=zc at *
          have ja:(o:Int) < (T.size:Int):=by omega
          have jc:(o1:Int) < (T.size:Int):=by omega
          have hw1:IntKind.i64.wrap ((o:Int)+1)=(o1:Int):=by rw [IntKind.wrap_i64];omega
          have va1:IntKind.i64.wrap (za:Int)=(za:Int):=by rw [IntKind.wrap_i64];omega
          have vc1:IntKind.i64.wrap (zc:Int)=(zc:Int):=by rw [IntKind.wrap_i64];omega
          have k7:=cell_of_row _ _ 7 _ _ _ HXC.out
          have ho4:o≤4096:=by omega
          have HOJ:=hid ho
          clear hb0 hb1 hac ho hoo
          go_wp2_with fail
          refine wp_region_tail 15 (fun W=>W.cell? ⟨w.heap.size+1,7,none⟩=some v2) (by kernel_rfl) k7 (fun hHeld=>?_)
          refine wpAnyT_take (i:=0) (v:=?_) rfl (by kernel_rfl) (fun _ _ _ h=>h) (Or.inl ⟨by rfl,?_⟩) (by assumption) ?_
          rotate_left
          ·intro W hSW
           simp only [zA,zB]
           (try dsimp only at hSW)
           go_simp
           (try with_reducible rfl)
          simp only [zA,zB,Act.put,zD,zE,zF]
          refine wpAnyT_take (i:=1) (v:=?_) rfl (by kernel_rfl) (fun _ _ _ h=>h) (Or.inl ⟨by rfl,?_⟩) (by assumption) ?_
          rotate_left
          ·intro W hSW
           simp only [zA,zB,zC]
           (try dsimp only at hSW)
           go_simp
           (try with_reducible rfl)
          simp only [zA,zB,zC,Act.put,zD,zE,zF]
          refine wpAnyT_take (i:=2) (v:=?_) rfl (by kernel_rfl) (fun _ _ _ h=>h) (Or.inl ⟨by rfl,?_⟩) (by assumption) ?_
          rotate_left
          ·intro W hSW
           simp only [zA,zB,zC]
           (try dsimp only at hSW)
           go_simp
           (try with_reducible rfl)
          simp only [zA,zB,zC,Act.put,zD,zE,zF]
          refine wpAnyT_take (i:=3) (v:=?_) rfl (by kernel_rfl) (fun _ _ _ h=>h) (Or.inl ⟨by rfl,?_⟩) (by assumption) ?_
          rotate_left
          ·intro W hSW
           simp only [zA,zB,zC]
           (try dsimp only at hSW)
           go_simp
           (try with_reducible rfl)
          simp only [zA,zB,zC,Act.put,zD,zE,zF]
          refine wpAnyT_take (i:=4) (v:=?_) rfl (by kernel_rfl) (fun _ _ _ h=>h) (Or.inl ⟨by rfl,?_⟩) (by assumption) ?_
          rotate_left
          ·intro W hSW
           simp only [zA,zB,zC]
           (try dsimp only at hSW)
           go_simp
           (try with_reducible rfl)
          simp only [zA,zB,zC,Act.put,zD,zE,zF]
          refine wpAnyT_take (i:=5) (v:=?_) rfl (by kernel_rfl) (fun _ _ _ h=>h) (Or.inl ⟨by rfl,?_⟩) (by assumption) ?_
          rotate_left
          ·intro W hSW
           simp only [zA,zB,zC]
           (try dsimp only at hSW)
           go_simp
           (try with_reducible rfl)
          simp only [zA,zB,zC,Act.put,zD,zE,zF]
          refine wpAnyT_take (i:=6) (v:=?_) rfl (by kernel_rfl) (fun _ _ _ h=>h) (Or.inl ⟨by rfl,?_⟩) (by assumption) ?_
          rotate_left
          ·intro W hSW
           simp only [zA,zB,zC]
           (try dsimp only at hSW)
           go_simp
           (try with_reducible rfl)
          simp only [zA,zB,zC,Act.put,zD,zE,zF]
          refine wpAnyT_take (i:=7) (v:=?_) rfl (by kernel_rfl) (fun _ _ _ h=>h) (Or.inl ⟨by rfl,?_⟩) (by assumption) ?_
          rotate_left
          ·intro W hSW
           simp only [zA,zB,zC]
           (try dsimp only at hSW)
           go_simp
           (try with_reducible rfl)
          simp only [zA,zB,zC,Act.put,zD,zE,zF]
          refine wpAnyT_take (i:=8) (v:=?_) rfl (by kernel_rfl) (fun _ _ _ h=>h) (Or.inl ⟨by rfl,?_⟩) (by assumption) ?_
          rotate_left
          ·intro W hSW
           simp only [zA,zB,zC]
           (try dsimp only at hSW)
           go_simp
           (try with_reducible rfl)
          simp only [zA,zB,zC,Act.put,zD,zE,zF]
          refine wpAnyT_take (i:=9) (v:=?_) rfl (by kernel_rfl) (fun _ _ _ h=>h) (Or.inl ⟨by rfl,?_⟩) (by assumption) ?_
          rotate_left
          ·intro W hSW
           simp only [zA,zB,zC]
           (try dsimp only at hSW)
           go_simp
           (try with_reducible rfl)
          simp only [zA,zB,zC,Act.put,zD,zE,zF]
          refine wpAnyT_take (i:=10) (v:=?_) rfl (by kernel_rfl) (fun _ _ _ h=>h) (Or.inl ⟨by rfl,?_⟩) (by assumption) ?_
          rotate_left
          ·intro W hSW
           simp only [zA,zB,zC]
           (try dsimp only at hSW)
           go_simp
           (try with_reducible rfl)
          simp only [zA,zB,zC,Act.put,zD,zE,zF]
          refine wpAnyT_take (i:=11) (v:=?_) rfl (by kernel_rfl) (fun _ _ _ h=>h) (Or.inl ⟨by rfl,?_⟩) (by assumption) ?_
          rotate_left
          ·intro W hSW
           simp only [zA,zB,zC]
           (try dsimp only at hSW)
           go_simp
           (try with_reducible rfl)
          simp only [zA,zB,zC,Act.put,zD,zE,zF]
          refine wpAnyT_go (i:=12) (by kernel_rfl) rfl (fun K hK=>?_)
          simp only [zA,zB,zC]
          go_simp
          obtain ⟨W2,hW2⟩:∃ W2,(wr.alloc (.cells #[.int .i64 (za:Int),.int .i64 (zc:Int)] 48)).drew=W2:=⟨_,rfl⟩
          rw [hW2]
          have hx2:Ext wr W2:=hW2▸((Ext.rf wr).al _).dr
          refine hK.out _ _ ?_ (fun hHeld=>?_)
          ·(exact hx2.ce' k7)
          clear hK K
          refine wpAnyT_go (i:=13) (by kernel_rfl) rfl (fun K hK=>?_)
          simp only [zA,zB,zC]
          refine wp_append_own _ _ _ _ (by rfl) wl.heap.size 48 ic _ 2 16 Tryz.underlying29 ic1 ic2 ic3 ic4 rfl (by decide) v2 i (cells2 Run.At Run.N (runOf i r2)) (by rfl) (ownsRow_ext HOC.out hx2) ⟨wr.heap.size,0,none⟩ 1 1 [.int .i64 (za:Int),.int .i64 (zc:Int)] (by rfl) (by rfl) (by
           rw [← hW2]
           exact fun i u hi=>ext_ceA (Ext.rf _).dr (new2 wr rfl _ _ _ i u hi)) (one2 _ _ _ _) (by unfold maxLen;omega) (by omega) (by have:=hx2.size;omega) (fun v5 W5 hown5 hgrow5 hnil5=>?_)
          obtain ⟨g5,c5,rfl⟩:=own_some7 hown5 (by omega)
          have hX5:W5.heap[w.heap.size+1]?=some (.cells #[.int .i64 (y0:Int),.int .i64 (y1:Int),.int .i64 (y2:Int),.int .i64 (y3:Int),.int .i64 (y4:Int),.int .i64 (y5:Int),(.slice va pn vc),v2] 31 (0,0)):=(hgrow5.block _ (by have:=hx2.size;omega) (fun e=>by have:=own_lt HOC.out _ e.symm;omega)).trans (blk_ext HXC.out hx2)
          have hZ5:W5.heap[w.heap.size]?=some (.cells zeroAct 31 (0,0)):=(hgrow5.block _ (by have:=hx2.size;omega) (fun e=>by have:=own_lt HOC.out _ e.symm;omega)).trans (blk_ext HZC.out hx2)
          have hx5:Ext w W5:=(HXX.out.tr hx2).gr hgrow5 (fun g hg=>by have:=own_lt HOC.out g hg;omega)
          have hs5:wl.heap.size≤W5.heap.size:=by have:=hgrow5.size;have:=hx2.size;omega
          have hp5:PiecesV W5 (.slice va pn vc) (pieceOf j r1):=sv2_apart (HPC.out.mono hx2) hgrow5 (fun a n c e h=>by have h1:=HNV.out a n c e;have h2:=own_lt HOC.out _ h.symm;omega)
          have k75:=cell_of_row _ _ 7 _ _ _ hX5
          have f75:=frozen_of_row _ _ 7 _ _ hX5
          refine hK.out _ _ ?_ (fun hHeld=>?_)
          ·(exact k75)
          clear hK K
          refine wpAnyT_take (i:=14) (v:=?_) rfl (by kernel_rfl) (fun _ _ _ h=>h) (Or.inl ⟨by rfl,?_⟩) (by assumption) ?_
          rotate_left
          ·intro W hSW
           simp only [zA,zB,zC]
           (try dsimp only at hSW)
           go_simp
           (try with_reducible rfl)
          simp only [zA,zB,zC,Act.put,zD,zE,zF]
          refine wpAnyT_last (t:=15) (by kernel_rfl) rfl (by kernel_rfl) (fun K hK=>?_)
          simp only [zA,zB,zC]
          go_simp
          refine hK.out _ _ ?_
          clear hK K
          have HX6:=hid (show (W5.setCell ⟨w.heap.size+1,7,none⟩ (.slice (some ⟨g5,0,none⟩) (i+1) c5)).heap[w.heap.size+1]?=some (.cells #[.int .i64 (y0:Int),.int .i64 (y1:Int),.int .i64 (y2:Int),.int .i64 (y3:Int),.int .i64 (y4:Int),.int .i64 (y5:Int),(.slice va pn vc),(.slice (some ⟨g5,0,none⟩) (i+1) c5)] 31 (0,0)) from heap_setCell_same W5 _ 7 _ _ _ hX5)
          have HO6:=hid (ownsRow_grown hown5 (grown_set W5 (w.heap.size+1) 7 (.slice (some ⟨g5,0,none⟩) (i+1) c5)) (by omega))
          have HZ6:=hid ((heap_setCell_other W5 ⟨w.heap.size+1,7,none⟩ w.heap.size (.slice (some ⟨g5,0,none⟩) (i+1) c5) (by show w.heap.size≠w.heap.size+1;omega)).trans hZ5)
          have HXQ:=hid (hx5.se (b:=w.heap.size+1) (o:=7) (by omega) (.slice (some ⟨g5,0,none⟩) (i+1) c5))
          have HP6:=hid (sv2_apart hp5 (grown_set W5 (w.heap.size+1) 7 (.slice (some ⟨g5,0,none⟩) (i+1) c5)) (fun a n c e h=>by have h1:=HNV.out a n c e;have h2:=Option.some.inj h;omega))
          have hs6:wl.heap.size≤(W5.setCell ⟨w.heap.size+1,7,none⟩ (.slice (some ⟨g5,0,none⟩) (i+1) c5)).heap.size:=by simp [World.setCell];exact hs5
          generalize W5.setCell ⟨w.heap.size+1,7,none⟩ (.slice (some ⟨g5,0,none⟩) (i+1) c5)=W6 at *
          clear hHeld k7 k75 f75 hX5 hZ5 hx5 hs5 hown5 hgrow5 hnil5 hW2 hx2 HOC HXC HZC HXX hp5
          go_wp2_with fail
          go_roundw
          case rel=>exact ⟨i+1,o+2,_,by go_num,by have:=HOJ.out;omega,by omega,HX6,hid (by
           rw [HPO.out,cells2_snoc]
           exact HO6.out),HZ6,HP6,HXQ,hs6⟩
          case measure=>have:=HOJ.out;have:=HQE.out;simp [intOf];omega
         ·obtain rfl:i=z:=by omega
          obtain rfl:o=E:=by have:=HQE.out;omega
          have hno2:¬ (o:Int) < (o:Int):=by omega
          have hcl:=runOf_len i r2 (by omega)
          have hcv:RunsV wr v2 (runOf i r2):=sv_of_owns2 (by rw [hcl];exact HOC.out) (runOf_i64 i r2) (by rw [hcl];omega)
          have hncv:=NewV.owned HOC.out (b2:=w.heap.size+1) (by omega)
          obtain ⟨ca,cc,rfl,_,_,_⟩:=hcv.form
          rw [hcl] at hcv hncv HXC
          have q0:=cell_of_row _ _ 0 _ _ _ HXC.out
          have q1:=cell_of_row _ _ 1 _ _ _ HXC.out
          have q2:=cell_of_row _ _ 2 _ _ _ HXC.out
          have q3:=cell_of_row _ _ 3 _ _ _ HXC.out
          have q4:=cell_of_row _ _ 4 _ _ _ HXC.out
          have q5:=cell_of_row _ _ 5 _ _ _ HXC.out
          have q6:=cell_of_row _ _ 6 _ _ _ HXC.out
          have q7:=cell_of_row _ _ 7 _ _ _ HXC.out
          have HCV:=hid hcv
          have HNC:=hid hncv
          have HCL:=hid hcl
          clear hcv hncv hcl HOC ho
          go_wp2_with (refine wpList_store_row rfl 31 _ _ rfl w.heap.size #[.int .i64 (y0:Int),.int .i64 (y1:Int),.int .i64 (y2:Int),.int .i64 (y3:Int),.int .i64 (y4:Int),.int .i64 (y5:Int),.slice va pn vc,.slice ca i cc] rfl rfl 31 zeroAct HZC.out act_size rfl (by simp [Value.oneCell']) ?_)
          have hE8:=setRow_heap wr w.heap.size _ #[.int .i64 (y0:Int),.int .i64 (y1:Int),.int .i64 (y2:Int),.int .i64 (y3:Int),.int .i64 (y4:Int),.int .i64 (y5:Int),.slice va pn vc,.slice ca i cc] _ _ HZC.out
          have hap:∀ (B:Nat) (u:Value),NewV B wl u∨NewV B wr u→w.heap.size < B→ApartV u (some w.heap.size):=fun B u hu hB a n c e h=>by
           have h2:=Option.some.inj h
           rcases hu with hu | hu <;> (have h1:=hu a n c e;omega)
          have hact:=HACT.out (by omega) (by omega)
          have hgr:=grown_srow wr w.heap.size #[.int .i64 (y0:Int),.int .i64 (y1:Int),.int .i64 (y2:Int),.int .i64 (y3:Int),.int .i64 (y4:Int),.int .i64 (y5:Int),.slice va pn vc,.slice ca i cc]
          have hgs:=hgr.size
          have hlen:((k::n::q::f::u::rk::n1::r1).length:Int) - ((r2.drop (2*i)).length:Int)=(o:Int):=by
           have h1:=HQE.out
           rw [List.length_drop]
           simp only [List.length_cons]
           omega
          refine bodyPost_ret (results_row_tmp (p:=2) (u:=3) rfl _ _ w.heap.size 31 #[.int .i64 (y0:Int),.int .i64 (y1:Int),.int .i64 (y2:Int),.int .i64 (y3:Int),.int .i64 (y4:Int),.int .i64 (y5:Int),.slice va pn vc,.slice ca i cc] (0,0) _ rfl hE8 Tryz.underlying31 rfl act_size) rfl ⟨HXX.out.sr (Nat.le_refl _) _,.inl ⟨_,_,.slice va pn vc,.slice ca i cc,hact,?_,sv2_apart HPC.out hgr (hap (w.heap.size+2) _ (.inl HNV.out) (by omega)),sv2_apart HCV.out hgr (hap (w.heap.size+1) _ (.inr HNC.out) (by omega)),fun a n c e=>?_,fun a n c e=>?_⟩⟩
          ·rw [hlen]
           obtain ⟨a0,a1,a2,a3,a4,a5⟩:=HY.out
           show _=Ending.returned (.tuple #[.agg #[.int .i64 (k.toNat:Int),.int .i64 (n.toNat:Int),.int .i64 (q.toNat:Int),.int .i64 (f.toNat:Int),.int .i64 (u.toNat:Int),.int .i64 (rk.toNat:Int),.slice va pn vc,.slice ca i cc],.int .i64 (o:Int)])
           rw [a0,a1,a2,a3,a4,a5]
           rfl
          ·have:=HNV.out a n c e;omega
          ·have:=HNC.out a n c e;omega
 ·have HA:=hid (actT_long h8)
  have hlt:(T.size:Int) < 8:=by omega
  have hd:=deT hlt
  rw [hT]
  clear hT h8 hsz h4
  go_enter Tryz.func61,Tryz.ntmps61
  go_wp2_with fail
  exact bodyPost_ret (results_row_tmp (p:=2) (u:=3) rfl _ _ w.heap.size 31 zeroAct (0,0) _ rfl HB0.out Tryz.underlying31 rfl act_size) rfl (HN.out _ HA.out HX0.out)
theorem ReplayOf_any (w:World) (t:List UInt8) :
  Calls Tryz.prog 23 #[.string (str t)] w (RetActs w (replayR t)):=by
 obtain ⟨T,hT⟩:∃ T,str t=T:=⟨_,rfl⟩
 have hsz:T.size=t.length:=by rw [← hT,str_size]
 by_cases hm:4096 < t.length
 ·have hm':(4096:Int) < (T.size:Int):=by omega
  have hd:=deT hm'
  have HR:=hid (replayR_many hm)
  clear hm hsz
  rw [hT]
  clear hT
  go_enter Tryz.func23,Tryz.ntmps23
  go_wp2_with fail
  go_ret3
  exact retActs_of HR.out SV.nil (Ext.rf w)
 ·have hm':¬ (4096:Int) < (T.size:Int):=by omega
  have hd:=deF hm'
  obtain ⟨ia,ia1,ia2,ia3,ia4⟩:=info_parts Tryz.info31
  have HR:=hid (replayR_ok hm)
  have HSZ:=hid hsz
  have HT:=hid hT
  have HM:=hid hm
  rw [hT]
  clear hm hT hsz
  go_enter Tryz.func23,Tryz.ntmps23
  go_wp2_with fail
  go_loopw [5,6] (fun v c wr=>∃ (l:List Act1) (r:List UInt8) (a:Option Addr) (cp p:Nat),v=.slice a l.length cp∧c=.int .i64 p∧l.length≤60∧p≤t.length∧Hid (r=t.drop p)∧Hid (ReadTo t l r)∧Hid (OwnA w.heap.size wr v l)∧Hid (Ext w wr)) (fun v _ _=>60 - lenV v)
  case atStart=>exact ⟨[],t,none,0,0,rfl,rfl,Nat.zero_le _,Nat.zero_le _,hid rfl,hid (ReadTo.begin t),hid (OwnA.none _ _),hid (Ext.rf w)⟩
  case round =>
   obtain ⟨l,r,a,cp,p,rfl,rfl,h60,hp,HP,HRT,HOW,HX⟩:=hrel
   have HRL:=hid (show r.length=t.length - p from by rw [HP.out,List.length_drop])
   by_cases hlt:l.length < 60
   ·have hlt':(l.length:Int) < (60:Int):=by omega
    have hdl:=deT hlt'
    have hex:T.extract p T.size=str r:=by rw [← HT.out,run_slice_from HT.out p hp wr,← HP.out]
    have RD:=hid (actFrom_any wr r (by have:=HM.out;have:=HRL.out;omega))
    have hp2:p≤T.size:=by have:=HSZ.out;omega
    go_wp2_with fail
    refine RD.out.mono ?_
    rintro e w1 ⟨hx1,hor⟩
    clear hex
    rcases hor with ⟨x,r',pv,cv,hact,rfl,hpv,hcv,np,nc⟩ | ⟨hact,rfl⟩
    ·obtain ⟨d0,hd0,hd8⟩:=actT_more hact
     have hdl0:r.length=d0.length+r'.length:=by rw [hd0,List.length_append]
     obtain ⟨d,hdd⟩:∃ d:Nat,d0.length=d:=⟨_,rfl⟩
     rw [hdd] at hdl0 hd8
     rw [show (r.length:Int) - (r'.length:Int)=(d:Int) by omega]
     have hne0:=neT (show ¬ (d:Int)=0 by omega)
     have heq0:=eqF (show ¬ (d:Int)=0 by omega)
     obtain ⟨hi4,hik,hin⟩:=actT_i64 hact
     have hbox:=heap_alloc_new w1 (.cells #[.int .i64 x.Kind,.int .i64 x.N,.int .i64 x.Req.Queue,.int .i64 x.Req.From,.int .i64 x.Req.Until,.int .i64 x.Req.Kind,pv,cv] 31)
     have hxb:=(Ext.rf w1).al (.cells #[.int .i64 x.Kind,.int .i64 x.N,.int .i64 x.Req.Queue,.int .i64 x.Req.From,.int .i64 x.Req.Until,.int .i64 x.Req.Kind,pv,cv] 31)
     have hxc:=hxb.al (.cells #[.int .i64 x.Kind,.int .i64 x.N,.int .i64 x.Req.Queue,.int .i64 x.Req.From,.int .i64 x.Req.Until,.int .i64 x.Req.Kind,pv,cv] 31)
     have hac:ActC w1 [.int .i64 x.Kind,.int .i64 x.N,.int .i64 x.Req.Queue,.int .i64 x.Req.From,.int .i64 x.Req.Until,.int .i64 x.Req.Kind,pv,cv] x:=⟨pv,cv,rfl,hpv,hcv,hi4,hik,hin⟩
     have hnew:∀ u∈([.int .i64 x.Kind,.int .i64 x.N,.int .i64 x.Req.Queue,.int .i64 x.Req.From,.int .i64 x.Req.Until,.int .i64 x.Req.Kind,pv,cv]:List Value),NewV wr.heap.size w1 u:=fun u hu=>by
      simp only [List.mem_cons,List.not_mem_nil,or_false] at hu
      rcases hu with rfl | rfl | rfl | rfl | rfl | rfl | rfl | rfl
      ·intro a n c e;cases e
      ·intro a n c e;cases e
      ·intro a n c e;cases e
      ·intro a n c e;cases e
      ·intro a n c e;cases e
      ·intro a n c e;cases e
      ·exact np
      ·exact nc
     have hn8:=news8 (w1.alloc (.cells #[.int .i64 x.Kind,.int .i64 x.N,.int .i64 x.Req.Queue,.int .i64 x.Req.From,.int .i64 x.Req.Until,.int .i64 x.Req.Kind,pv,cv] 31)) [.int .i64 x.Kind,.int .i64 x.N,.int .i64 x.Req.Queue,.int .i64 x.Req.From,.int .i64 x.Req.Until,.int .i64 x.Req.Kind,pv,cv] 31 rfl
     rw [World.size_alloc] at hn8
     have hone:=hac.one
     obtain ⟨css,hA⟩:=HOW.out
     have HO1:=hid (ownsRow_ext hA.row (hx1.tr hxc))
     have hsz0:=(HX.out.tr (hx1.tr hxc)).size
     have HSZ0:=hid hsz0
     have HSN:=hid (fun (g cap:Nat) (W5:World)=>hA.snoc (g:=g) (cap:=cap) (W5:=W5) (hx1.tr hxc) (hac.mono hxc) (fun u hu=>(hnew u hu).ext hxc))
     have HX1:=hid (HX.out.tr (hx1.tr hxc))
     have HOWN:=hid (fun rr hr=>(HOW.out.choose_spec.row.lt rr hr).1)
     have HRT2:=hid (HRT.out.step hlt hact)
     have HP2:=hid (show r'=t.drop (p+d) from by rw [← List.drop_drop,← HP.out,hd0,← hdd,List.drop_left])
     have HN8:=hid hn8
     have HONE:=hid hone
     have k0:=cell_of_row _ _ 0 _ _ _ hbox
     have k1:=cell_of_row _ _ 1 _ _ _ hbox
     have k2:=cell_of_row _ _ 2 _ _ _ hbox
     have k3:=cell_of_row _ _ 3 _ _ _ hbox
     have k4:=cell_of_row _ _ 4 _ _ _ hbox
     have k5:=cell_of_row _ _ 5 _ _ _ hbox
     have k6:=cell_of_row _ _ 6 _ _ _ hbox
     have k7:=cell_of_row _ _ 7 _ _ _ hbox
     have hpd:p+d≤t.length:=by have:=HRL.out;omega
     have hpd4:p+d≤4096:=by have:=HM.out;omega
     obtain ⟨pa,pc,rfl,_,_,_⟩:=hpv.form
     obtain ⟨ca,cc,rfl,_,_,_⟩:=hcv.form
     generalize x.Req.Pieces.length=pn at *
     generalize x.Cap.length=cn at *
     clear hact hpv hcv np nc hi4 hik hin hbox hxb hxc hac hnew hn8 hone hA hsz0 hx1 RD HOW HX hd0 hdd hdl0 hp2 HRL
     go_wp2_with (at_builtin;refine wpList_append_lies _ rfl _ _ 57 rfl w.heap.size 31 ia _ 8 96 Tryz.underlying57 ia1 ia2 ia3 ia4 rfl (by decide) (.slice a l.length cp) l.length css.flatten rfl HO1.out ⟨w1.heap.size+1,0,none⟩ 1 1 [.int .i64 x.Kind,.int .i64 x.N,.int .i64 x.Req.Queue,.int .i64 x.Req.From,.int .i64 x.Req.Until,.int .i64 x.Req.Kind,.slice pa pn pc,.slice ca cn cc] rfl rfl HN8.out HONE.out (by omega) (by unfold maxLen;omega) (by omega) HSZ0.out (w1.heap.size+2) (by simp) ?_;intro g2 cap2 W2 hown hgrow hlie hlt2;have HO2:=hid (HSN.out g2 cap2 W2 hown hgrow (hlie.imp_right fun e=>e.trans (by simp only [World.size_alloc])));have HX2:=hid (HX1.out.gr (v:=.slice a l.length cp) hgrow HOWN.out);clear hown hgrow hlie hlt2)
     go_roundw
     case rel =>
      have e:(l++[x]).length=l.length+1:=by simp
      exact ⟨l++[x],r',_,_,p+d,by rw [e],by go_num,by rw [e];omega,hpd,HP2,HRT2,by rw [e] at HO2;exact HO2,HX2⟩
     case measure=>simp [lenV];omega
    ·have HEND:=hid (retActs_of (q:=replayR t) (w:=w) (w':=w1.alloc (.cells #[.int .i64 0,.int .i64 0,.int .i64 0,.int .i64 0,.int .i64 0,.int .i64 0,.slice none 0 0,.slice none 0 0] 31)) (l:=l) (a:=(p:Int)) (b:=0) (v:=.slice a l.length cp) (by
      have e:=HRT.out.stop (.inl hact)
      rw [HR.out,e,show (t.length:Int) - (r.length:Int)=(p:Int) by have:=HRL.out;omega]) ((HOW.out.ext (hx1.al _)).v h60) (HX.out.tr (hx1.al _)))
     unfold zeroAct
     clear hact hx1 RD HOW HX HRT hp2 HRL
     go_wp2_with fail
     go_ret3
     exact HEND.out
   ·have hlt':¬ (l.length:Int) < (60:Int):=by omega
    have hdl:=deF hlt'
    have HEND:=hid (retActs_of (q:=replayR t) (w:=w) (w':=wr) (l:=l) (a:=(p:Int)) (b:=0) (v:=.slice a l.length cp) (by
      have e:=HRT.out.stop (.inr hlt)
      rw [HR.out,e,show (t.length:Int) - (r.length:Int)=(p:Int) by have:=HRL.out;omega]) (HOW.out.v h60) HX.out)
    clear HOW HX HRT HRL
    go_wp2_with fail
    go_ret3
    exact HEND.out
theorem sameActs_yes (w:World) (vf vg:Value) (l:List Act1) (hf:ActsV w vf l) (hg:ActsV w vg l) :
  Calls Tryz.prog 24 #[vf,vg] w fun e w'=>e=.returned (.bool true)∧Ext w w':=by
 obtain ⟨fa,fc,rfl,_,_,_⟩:=hf.form
 obtain ⟨ga,gc,rfl,_,_,_⟩:=hg.form
 have HF:=hid hf
 have HG:=hid hg
 clear hf hg
 generalize hn:l.length=n at *
 have Hn:=hid hn
 clear hn
 go_enter Tryz.func24,Tryz.ntmps24
 go_wp2_with fail
 go_loopw [5] (fun c wr=>∃ k:Nat,c=.int .i64 k∧k≤n∧Ext w wr) (fun c _=>n - (intOf c).toNat)
 case atStart=>exact ⟨0,rfl,by omega,Ext.rf w⟩
 case round =>
  obtain ⟨k,rfl,hk,hx⟩:=hrel
  by_cases hlt:k < n
  ·have hlt':(k:Int) < (n:Int):=by omega
   obtain ⟨x,hxk⟩:=getA (f:=l) (k:=k) (by rw [Hn.out];exact hlt)
   obtain ⟨fb,fo,pv,bv,rfl,hfb,hp,hb,_,_,_,c0,c1,c2,c3,c4,c5,c6,c7⟩:=acts_at (HF.out.mono hx) hxk
   obtain ⟨gb,go,qv,dv,rfl,hgb,hq,hd,_,_,_,d0,d1,d2,d3,d4,d5,d6,d7⟩:=acts_at (HG.out.mono hx) hxk
   have ML1:=hid (fun p:Later wr=>later_of p (v:=.bool true) (sameReqs_yes p.v pv qv x.Req (hp.mono p.h) (hq.mono p.h)))
   have ML2:=hid (fun p:Later wr=>later_of p (v:=.bool true) (sameRuns_yes (hb.mono p.h) (hd.mono p.h)))
   obtain ⟨pa,pc,rfl,_,_,_⟩:=hp.form
   obtain ⟨qa,qc,rfl,_,_,_⟩:=hq.form
   obtain ⟨ba,bc,rfl,_,_,_⟩:=hb.form
   obtain ⟨da,dc,rfl,_,_,_⟩:=hd.form
   have t1:=deF (show ¬ (k:Int) < 0 by omega)
   have t2:=deF (show ¬ (n:Int)≤(k:Int) by omega)
   have t3:=deF (show ¬ n≤k by omega)
   clear hxk hp hq hb hd
   generalize x.Req.Pieces.length=pn at *
   generalize x.Cap.length=bn at *
   replace c0:=fun p:Later wr=>p.cell c0
   replace c1:=fun p:Later wr=>p.cell c1
   replace c2:=fun p:Later wr=>p.cell c2
   replace c3:=fun p:Later wr=>p.cell c3
   replace c4:=fun p:Later wr=>p.cell c4
   replace c5:=fun p:Later wr=>p.cell c5
   replace c6:=fun p:Later wr=>p.cell c6
   replace c7:=fun p:Later wr=>p.cell c7
   replace d0:=fun p:Later wr=>p.cell d0
   replace d1:=fun p:Later wr=>p.cell d1
   replace d2:=fun p:Later wr=>p.cell d2
   replace d3:=fun p:Later wr=>p.cell d3
   replace d4:=fun p:Later wr=>p.cell d4
   replace d5:=fun p:Later wr=>p.cell d5
   replace d6:=fun p:Later wr=>p.cell d6
   replace d7:=fun p:Later wr=>p.cell d7
   go_wp2_with fail
   refine region_later (by kernel_rfl) (by kernel_rfl) ?_
   repeat (go_big_quiet_step (first | with_reducible exact ML1.out _ | with_reducible exact ML2.out _))
   refine wpQuiet_nil ?_
   rintro w' ⟨p,rfl⟩
   have HX:=hid (hx.tr p.h)
   clear ML1 ML2 c0 c1 c2 c3 c4 c5 c6 c7 d0 d1 d2 d3 d4 d5 d6 d7
   generalize p.v=W at *
   go_wp2_with fail
   go_roundw
   case rel=>exact ⟨k+1,by go_num,by omega,HX.out⟩
   case measure=>simp [intOf];omega
  ·obtain rfl:k=n:=by omega
   have hlt':¬ (k:Int) < (k:Int):=by omega
   go_wp2_with fail
   go_ret
   exact ⟨rfl,hx⟩
end Go.Proofs.YtdcndkojmflhnaaGreat
