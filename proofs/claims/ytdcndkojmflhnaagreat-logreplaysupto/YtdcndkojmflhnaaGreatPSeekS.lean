/- seeking; what is the same; requests; each theorem names its own conditions. -/
import Derived.Test.YtdcndkojmflhnaaGreatPRunsZ
import Derived.Test.YtdcndkojmflhnaaGreatPRunsY
import Derived.Shelf.Abstract
/- Walk of room.Seek. -/
set_option linter.unusedVariables false
set_option maxRecDepth 100000
set_option maxHeartbeats 8000000
set_option linter.unusedSimpArgs false
set_option linter.unusedVariables false
namespace Go.Proofs.YtdcndkojmflhnaaGreat
open Go.RowKit
open List renaming getElem_toArray→zA,getElem_cons_zero→zB,getElem_cons_succ→zC,setIfInBounds_toArray→zD,set_cons_zero→zE,set_cons_succ→zF
@[irreducible] def seekR (f:List Run) (from_ until_ size n:Int):Int × Bool:=match firstT (sp f) from_.toNat until_.toNat size.toNat n with | some t=>((t:Int),true) | none=>(0,false)
theorem seekR_some {f:List Run} {F U Z t:Nat} {n:Int} (h:firstT (sp f) F U Z n=some t):seekR f (F:Int) (U:Int) (Z:Int) n=((t:Int),true):=by unfold seekR;simp only [Int.toNat_natCast,h]
theorem seekR_none {f:List Run} {F U Z:Nat} {n:Int} (h:firstT (sp f) F U Z n=none):seekR f (F:Int) (U:Int) (Z:Int) n=(0,false):=by unfold seekR;simp only [Int.toNat_natCast,h]
def RetIs (w:World) (r:Int × Bool) (e:Ending) (w':World):Prop:=e=.returned (.tuple #[.int .i64 r.1,.bool r.2])∧Ext w w'
theorem retIs_of {w w':World} {r:Int × Bool} {n:Int} {b:Bool} (h:r=(n,b)) (hx:Ext w w'):RetIs w r (.returned (.tuple #[.int .i64 n,.bool b])) w':=by
 subst h;exact ⟨rfl,hx⟩
theorem seekAt_bound {f:List Run} {F U Z:Nat} {n:Int} {k A:Nat} (hU:U≤48) (hF:F≤48) (h:SeekAt f F U Z n k A):A≤48:=by
 obtain ⟨E,hE,a1,a2,_⟩:=h
 omega
theorem Seek_some (w:World) (b off cap:Nat) (f:List Run) (F U Z:Nat) (n:Int) (hs:Shape f) (hF:F≤48) (hU:U≤48) (hZ:0 < Z) (hZ4:Z≤48) (hcap:f.length≤cap) (hm:cap≤9223372036854775807) (hb:b < w.heap.size) (hE:∀ k x,f[k]?=some x→ERun w b (off+k*2) x) :
  Calls Tryz.prog 182 #[.slice (some ⟨b,off,none⟩) f.length cap,.int .i64 F,.int .i64 U,.int .i64 Z,.int .i64 n] w (RetIs w (seekR f F U Z n)):=by
 have HE:=hid hE
 have hl:=shape_len hs
 have S0:=hid (seekAt_start (n:=n) (from_:=F) (until_:=U) hs hZ)
 have SP:=hid (fun (k A:Nat) (hk:k < f.length) (h:SeekAt f F U Z n k A)=>seekAt_pass hs hZ hk h)
 have SL:=hid (fun (k A:Nat) (hk:k < f.length) (h:SeekAt f F U Z n k A)=>seekAt_low hs hZ hk h)
 have SH:=hid (fun (k A:Nat) (hk:k < f.length) (h:SeekAt f F U Z n k A)=>seekAt_high hs hk h)
 have SF:=hid (fun (k A:Nat) (hk:k < f.length) (h:SeekAt f F U Z n k A)=>seekAt_found hs hZ hk h)
 have SN:=hid (fun (A:Nat) (h:SeekAt f F U Z n f.length A)=>seekR_none (seekAt_none hU h))
 have SB:=hid (fun (k A:Nat) (h:SeekAt f F U Z n k A)=>seekAt_bound hU hF h)
 have SI:=hid (fun (k:Nat) (hk:k < f.length)=>shape_idx hs hk)
 clear hE hs
 generalize hn:f.length=m at *
 have Hn:=hid hn
 clear hn
 go_enter Tryz.func182,Tryz.ntmps182
 go_wp2_with fail
 go_loopw [12,19] (fun a c wr=>∃ k A:Nat,k≤m∧a=.int .i64 (A:Int)∧c=.int .i64 k∧Hid (SeekAt f F U Z n k A)∧Ext w wr) (fun _ c _=>m - (intOf c).toNat)
 case atStart=>exact ⟨0,F,Nat.zero_le _,rfl,rfl,S0,Ext.rf _⟩
 case round =>
  obtain ⟨k,A,hk,rfl,rfl,hat,hx⟩:=hrel
  have hbw:b < wr.heap.size:=Nat.lt_of_lt_of_le hb hx.size
  have hA:=SB.out k A hat.out
  by_cases hlt:k < m
  ·have hlt':(k:Int) < (m:Int):=by omega
   obtain ⟨x,hxk⟩:=getE (f:=f) (k:=k) (by rw [Hn.out];exact hlt)
   obtain ⟨c1,c2,c3,c4⟩:=HE.out k x hxk
   replace c1:=hx.ce' c1
   replace c2:=hx.ce' c2
   have cn:=curN_some hxk
   have hcN:=hid cn
   obtain ⟨q1,q2,q3,q4⟩:=SI.out k hlt
   clear hxk cn q4
   have e48:nextAt f k≤48∧0≤nextAt f k:=⟨by omega,by omega⟩
   obtain ⟨E,hE⟩:∃ E:Int,seekEnd f U k=E:=⟨_,rfl⟩
   have HEE:=hid hE
   have hE0:0≤E∧E≤48:=by rw [← hE];unfold seekEnd;omega
   have SP1:=hid (SP.out k A hlt hat.out)
   have SL1:=hid (SL.out k A hlt hat.out)
   have SH1:=hid (SH.out k A hlt hat.out)
   have SF1:=hid (SF.out k A hlt hat.out)
   rw [hE] at SP1 SL1 SH1 SF1
   rw [hcN.out] at SL1 SH1 SF1
   clear hat SP SL SH SF
   have key:(k+1 < m∧∃ y,f[k+1]?=some y∧y.At < (U:Int)∧E=y.At)∨(k+1 < m∧∃ y,f[k+1]?=some y∧¬ y.At < (U:Int)∧E=U)∨(¬ k+1 < m∧E=U):=by
    by_cases hk1:k+1 < m
    ·obtain ⟨y,hyk⟩:=getE (f:=f) (k:=k+1) (by rw [Hn.out];exact hk1)
     rw [← hE];unfold seekEnd
     rw [nextAt_lt (by rw [Hn.out];exact hk1),curAt_some hyk]
     by_cases hy:y.At < (U:Int)
     ·exact .inl ⟨hk1,y,hyk,hy,by omega⟩
     ·exact .inr (.inl ⟨hk1,y,hyk,hy,by omega⟩)
    ·rw [← hE];unfold seekEnd
     rw [nextAt_end (by rw [Hn.out];exact hk1)]
     exact .inr (.inr ⟨hk1,by omega⟩)
   clear hE e48 HEE q1 q2 q3
   have leaf:∀ K:Prop,(E≤(A:Int)→K)→(¬ E≤(A:Int)→x.N < n→K)→(¬ E≤(A:Int)→¬ x.N < n→(Z:Int)≤E - A→K)→(¬ E≤(A:Int)→¬ x.N < n→¬ (Z:Int)≤E - A→K)→K:=fun K h1 h2 h3 h4=>by
    by_cases g1:E≤(A:Int)
    ·exact h1 g1
    ·by_cases g2:x.N < n
     ·exact h2 g1 g2
     ·by_cases g3:(Z:Int)≤E - A
      ·exact h3 g1 g2 g3
      ·exact h4 g1 g2 g3
   have Leaf:=hid leaf
   clear leaf
   have e1:=hE0.1
   have e2:=hE0.2
   clear hE0
   rcases key with ⟨hk1,y,hyk,hy,rfl⟩ | ⟨hk1,y,hyk,hy,rfl⟩ | ⟨hk1,rfl⟩
   ·have hk1':(k:Int)+1 < (m:Int):=by omega
    obtain ⟨d1,d2,d3,d4⟩:=HE.out (k+1) y hyk
    replace d1:=hx.ce' d1
    clear d2 hyk
    refine Leaf.out _ (fun g1=>?_) (fun g1 g2=>?_) (fun g1 g2 g3=>?_) (fun g1 g2 g3=>?_)
    ·go_wp2_with fail
     go_roundw
     case rel=>exact ⟨k+1,A,by omega,rfl,by go_num,hid (SP1.out g1),hx.al _⟩
     case measure=>simp [intOf];omega
    ·go_wp2_with fail
     go_roundw
     case rel=>exact ⟨k+1,y.At.toNat,by omega,by rw [Int.toNat_of_nonneg e1],by go_num,hid (SL1.out (by omega) g2),hx.al _⟩
     case measure=>simp [intOf];omega
    ·go_wp2_with fail
     go_ret2
     exact retIs_of (seekR_some (SF1.out (by omega) (by omega) g3)) (hx.al _)
    ·go_wp2_with fail
     go_roundw
     case rel=>exact ⟨k+1,A,by omega,rfl,by go_num,hid (SH1.out (by omega) (by omega) (by omega)),hx.al _⟩
     case measure=>simp [intOf];omega
   ·have hk1':(k:Int)+1 < (m:Int):=by omega
    obtain ⟨d1,d2,d3,d4⟩:=HE.out (k+1) y hyk
    replace d1:=hx.ce' d1
    clear d2 hyk
    refine Leaf.out _ (fun g1=>?_) (fun g1 g2=>?_) (fun g1 g2 g3=>?_) (fun g1 g2 g3=>?_)
    ·go_wp2_with fail
     go_roundw
     case rel=>exact ⟨k+1,A,by omega,rfl,by go_num,hid (SP1.out g1),hx.al _⟩
     case measure=>simp [intOf];omega
    ·go_wp2_with fail
     go_roundw
     case rel=>exact ⟨k+1,U,by omega,rfl,by go_num,hid (by have:=SL1.out (by omega) g2;simpa using this),hx.al _⟩
     case measure=>simp [intOf];omega
    ·go_wp2_with fail
     go_ret2
     exact retIs_of (seekR_some (SF1.out (by omega) (by omega) g3)) (hx.al _)
    ·go_wp2_with fail
     go_roundw
     case rel=>exact ⟨k+1,A,by omega,rfl,by go_num,hid (SH1.out (by omega) (by omega) (by omega)),hx.al _⟩
     case measure=>simp [intOf];omega
   ·have hk1':¬ (k:Int)+1 < (m:Int):=by omega
    refine Leaf.out _ (fun g1=>?_) (fun g1 g2=>?_) (fun g1 g2 g3=>?_) (fun g1 g2 g3=>?_)
    ·go_wp2_with fail
     go_roundw
     case rel=>exact ⟨k+1,A,by omega,rfl,by go_num,hid (SP1.out g1),hx.al _⟩
     case measure=>simp [intOf];omega
    ·go_wp2_with fail
     go_roundw
     case rel=>exact ⟨k+1,U,by omega,rfl,by go_num,hid (by have:=SL1.out (by omega) g2;simpa using this),hx.al _⟩
     case measure=>simp [intOf];omega
    ·go_wp2_with fail
     go_ret2
     exact retIs_of (seekR_some (SF1.out (by omega) (by omega) g3)) (hx.al _)
    ·go_wp2_with fail
     go_roundw
     case rel=>exact ⟨k+1,A,by omega,rfl,by go_num,hid (SH1.out (by omega) (by omega) (by omega)),hx.al _⟩
     case measure=>simp [intOf];omega
  ·obtain rfl:k=m:=by omega
   have hlt':¬ (k:Int) < (k:Int):=by omega
   have Hr:=hid (SN.out A (by have:=hat.out;rw [← Hn.out] at this ⊢;exact this))
   go_wp2_with fail
   go_ret2
   exact retIs_of Hr.out hx
theorem Seek_any (w:World) (v:Value) (f:List Run) (a u z n:Int) (hv:RunsV w v f) (hs:Shape f) (ha:0≤a∧a≤48) (hu:0≤u∧u≤48) (hz:1≤z∧z≤48) :
  Calls Tryz.prog 182 #[v,.int .i64 a,.int .i64 u,.int .i64 z,.int .i64 n] w (RetIs w (seekR f a u z n)):=by
 obtain ⟨b,off,cap,rfl,h4,h5,_,h6,h7⟩:=hv.some hs
 obtain ⟨F,rfl⟩:=Int.eq_ofNat_of_zero_le ha.1
 obtain ⟨U,rfl⟩:=Int.eq_ofNat_of_zero_le hu.1
 obtain ⟨Z,rfl⟩:=Int.eq_ofNat_of_zero_le (by omega:0≤z)
 exact Seek_some w b off cap f F U Z n hs (by omega) (by omega) (by omega) (by omega) h4 h5 h6 h7
theorem getA {α:Type} {f:List α} {k:Nat} (h:k < f.length):∃ x,f[k]?=some x:=⟨_,List.getElem?_eq_getElem h⟩
theorem sameBites_some (w:World) (fb fo fc gb go gc:Nat) (f g:List Bite) (hl:f.length=g.length) (hf:∀ k x,f[k]?=some x→EBite w fb (fo+k*2) x) (hg:∀ k x,g[k]?=some x→EBite w gb (go+k*2) x) (hn:f.length≤17592186044416) :
  Calls Tryz.prog 18 #[.slice (some ⟨fb,fo,none⟩) f.length fc,.slice (some ⟨gb,go,none⟩) g.length gc] w fun e w'=>e=.returned (.bool (decide (f=g)))∧Ext w w':=by
 have HF:=hid hf
 have HG:=hid hg
 have Hl:=hid hl
 clear hf hg
 generalize hm:g.length=m at *
 generalize hk:f.length=n at *
 have Hn:=hid hk
 have Hm:=hid hm
 subst hl
 clear hk hm
 go_enter Tryz.func18,Tryz.ntmps18
 go_wp2_with fail
 go_loopw [5] (fun c wr=>∃ k:Nat,c=.int .i64 k∧k≤n∧Hid (∀ j,j < k→f[j]?=g[j]?)∧Ext w wr) (fun c _=>n - (intOf c).toNat)
 case atStart=>exact ⟨0,rfl,by omega,fun j hj=>absurd hj (Nat.not_lt_zero _),Ext.rf w⟩
 case round =>
  obtain ⟨k,rfl,hk,He,hx⟩:=hrel
  by_cases hlt:k < n
  ·have hlt':(k:Int) < (n:Int):=by omega
   obtain ⟨x,hxk⟩:=getA (f:=f) (k:=k) (by rw [Hn.out];exact hlt)
   obtain ⟨y,hyk⟩:=getA (f:=g) (k:=k) (by rw [Hm.out];exact hlt)
   obtain ⟨c1,c2,c3,c4⟩:=HF.out k x hxk
   obtain ⟨d1,d2,d3,d4⟩:=HG.out k y hyk
   replace c1:=hx.ce' c1
   replace c2:=hx.ce' c2
   replace d1:=hx.ce' d1
   replace d2:=hx.ce' d2
   by_cases ha:x.Piece=y.Piece
   ·by_cases hb:x.At=y.At
    ·have h1:=eqT ha
     have h2:=eqT hb
     have he:x=y:=by cases x;cases y;simp_all
     have Hxy:=hid (hxk.trans ((congrArg some he).trans hyk.symm))
     clear he hxk hyk ha hb
     go_wp2_with fail
     go_quiet (fail)
     go_wp2_with fail
     go_roundw
     case rel=>exact ⟨k+1,by go_num,by omega,hid (fun j hj=>if e:j=k then e▸Hxy.out else He.out j (by omega)),hx.dn _⟩
     case measure=>simp [intOf];omega
    ·have h1:=eqT ha
     have h2:=eqF hb
     have hfg:f≠g:=fun h=>hb (congrArg Bite.At (Option.some.inj (hxk.symm.trans (h▸hyk))))
     have Hfg:=hid (deF hfg)
     clear hxk hyk ha hb hfg
     go_wp2_with fail
     go_quiet (fail)
     go_wp2_with fail
     go_ret
     exact ⟨(congrArg (fun b=>Ending.returned (.bool b)) Hfg.out).symm,hx.dn _⟩
   ·have h1:=eqF ha
    have hfg:f≠g:=fun h=>ha (congrArg Bite.Piece (Option.some.inj (hxk.symm.trans (h▸hyk))))
    have Hfg:=hid (deF hfg)
    clear hxk hyk ha hfg
    go_wp2_with fail
    go_quiet (fail)
    go_wp2_with fail
    go_ret
    exact ⟨(congrArg (fun b=>Ending.returned (.bool b)) Hfg.out).symm,hx.dn _⟩
  ·have hlt':¬ (k:Int) < (n:Int):=by omega
   obtain rfl:k=n:=by omega
   have hfg:f=g:=by
    apply List.ext_getElem?
    intro j
    by_cases hj:j < k
    ·exact He.out j hj
    ·rw [List.getElem?_eq_none (by rw [Hn.out];omega),List.getElem?_eq_none (by rw [Hm.out];omega)]
   have Hr:=hid (deT hfg)
   go_wp2_with fail
   go_ret
   exact ⟨rfl,hx⟩
theorem SameBites_any (w:World) (vf vg:Value) (f g:List Bite) (hf:BitesV w vf f) (hg:BitesV w vg g) :
  Calls Tryz.prog 18 #[vf,vg] w fun e w'=>e=.returned (.bool (decide (f=g)))∧Ext w w':=by
 have nilc:∀ (a b:Option Addr) (c d:Nat),Calls Tryz.prog 18 #[.slice a 0 c,.slice b 0 d] w fun e w'=>e=.returned (.bool true)∧Ext w w':=by
  intro a b c d
  go_enter Tryz.func18,Tryz.ntmps18
  go_wp2_with fail
  go_loopw [5] (fun c wr=>c=.int .i64 0∧Ext w wr) (fun c _=>0)
  case atStart=>exact ⟨rfl,Ext.rf w⟩
  case round =>
   obtain ⟨rfl,hx⟩:=hrel
   go_wp2_with fail
   go_ret
   exact ⟨rfl,hx⟩
 have neqc:∀ (a b:Option Addr) (n m c d:Nat),n≠m→Calls Tryz.prog 18 #[.slice a n c,.slice b m d] w fun e w'=>e=.returned (.bool false)∧Ext w w':=by
  intro a b n m c d h
  have h':=neT (a:=(n:Int)) (b:=(m:Int)) (by omega)
  go_enter Tryz.func18,Tryz.ntmps18
  go_wp2_with fail
  go_ret
  exact ⟨rfl,Ext.rf w⟩
 by_cases hl:f.length=g.length
 ·by_cases h0:f.length=0
  ·have e1:f=[]:=List.eq_nil_of_length_eq_zero h0
   have e2:g=[]:=List.eq_nil_of_length_eq_zero (by omega)
   subst e1;subst e2
   obtain ⟨a,c,rfl,_⟩:=hf.form
   obtain ⟨b,d,rfl,_⟩:=hg.form
   rw [deT rfl]
   exact nilc a b c d
  ·rcases hf with ⟨rfl,a0,c0,rfl,hc0⟩ | ⟨fb,fo,fc,rfl,f1,f2,f3,f4,f5⟩
   ·exact absurd rfl h0
   ·rcases hg with ⟨rfl,a0,c0,rfl,hc0⟩ | ⟨gb,go,gc,rfl,g1,g2,g3,g4,g5⟩
    ·exact absurd hl h0
    ·exact sameBites_some w fb fo fc gb go gc f g hl f5 g5 f3
 ·rw [deF (fun h=>hl (by rw [h]))]
  obtain ⟨a,c,rfl,_⟩:=hf.form
  obtain ⟨b,d,rfl,_⟩:=hg.form
  exact neqc a b _ _ c d hl
theorem IndexFunc_Piece (w:World) (b off cap:Nat) (f:List Piece) (G:Nat) (lb:Array Value) (p:Piece→Bool) (hl:f.length≤17592186044416) (hb:b < w.heap.size) (hE:∀ k x,f[k]?=some x→EPiece w b (off+k*2) x)
  (heg:∀ (args:Array Value) (w:World),(callFunc G args).run Tryz.prog w=.ok (.enter G args) w)
  (hp:∀ (k:Nat) (x:Piece),f[k]?=some x→∀ W,Ext w W→Calls Tryz.prog G (#[.agg #[.int .i64 x.Len,.int .i64 x.N]]++lb) W fun e w'=>e=.returned (.bool (p x))∧Ext W w') :
  Calls Tryz.prog 147 #[.slice (some ⟨b,off,none⟩) f.length cap,.func (.func G) #[] lb] w fun e w'=>e=.returned (.int .i64 (idxOf p f))∧Ext w w':=by
 have HE:=hid hE
 have Hp:=hid hp
 clear hE hp
 generalize hn:f.length=n at *
 have Hn:=hid hn
 clear hn
 go_enter Tryz.func147,Tryz.ntmps147
 go_wp2_with fail
 go_loopw [8] (fun i wr=>∃ k:Nat,k≤n∧i=.int .i64 k∧Hid (∀ j y,j < k→f[j]?=some y→p y=false)∧Ext w wr) (fun i _=>n - (intOf i).toNat)
 case atStart=>exact ⟨0,Nat.zero_le _,rfl,fun j y hj=>absurd hj (Nat.not_lt_zero _),Ext.rf _⟩
 case round =>
  obtain ⟨k,hk,rfl,Hall,hx⟩:=hrel
  have hbw:b < wr.heap.size:=Nat.lt_of_lt_of_le hb hx.size
  by_cases hlt:k < n
  ·obtain ⟨x,hxk⟩:=getA (f:=f) (k:=k) (by rw [Hn.out];exact hlt)
   obtain ⟨c1,c2,c3,c4⟩:=HE.out k x hxk
   replace c1:=hx.ce' c1
   replace c2:=hx.ce' c2
   have hc:=Hp.out k x hxk wr hx
   have Hc:=hid hc
   have Hx:=hid hxk
   clear hc hxk
   cases hpx:p x with
   | true =>
    rw [hpx] at Hc
    have Hpx:=hid hpx
    clear hpx
    go_wp2_with fail
    refine Hc.out.mono ?_
    rintro e w1 ⟨rfl,hx1⟩
    go_wp2_with fail
    go_ret
    exact ⟨ret_int (idxOf_at Hx.out Hpx.out Hall.out).symm,hx.tr hx1⟩
   | false =>
    rw [hpx] at Hc
    have Hpx:=hid hpx
    clear hpx
    go_wp2_with fail
    refine Hc.out.mono ?_
    rintro e w1 ⟨rfl,hx1⟩
    go_wp2_with fail
    go_roundw
    case rel=>exact ⟨k+1,by omega,by go_num,hall_snoc Hx.out Hpx.out Hall.out,hx.tr hx1⟩
    case measure=>simp [intOf];omega
  ·obtain rfl:k=n:=by omega
   go_wp2_with fail
   go_ret
   exact ⟨ret_int (idxOf_none (fun j y hj hy=>Hall.out j y (by rw [Hn.out] at hj;exact hj) hy)).symm,hx⟩
theorem ContainsFunc_Piece (w:World) (v:Value) (f:List Piece) (G:Nat) (lb:Array Value) (p:Piece→Bool) (hv:PiecesV w v f)
  (heg:∀ (args:Array Value) (w:World),(callFunc G args).run Tryz.prog w=.ok (.enter G args) w)
  (hp:∀ (k:Nat) (x:Piece),f[k]?=some x→∀ W,Ext w W→Calls Tryz.prog G (#[.agg #[.int .i64 x.Len,.int .i64 x.N]]++lb) W fun e w'=>e=.returned (.bool (p x))∧Ext W w') :
  Calls Tryz.prog 88 #[v,.func (.func G) #[] lb] w fun e w'=>e=.returned (.bool (f.any p))∧Ext w w':=by
 rcases hv with ⟨rfl,a0,c0,rfl,hc0⟩ | ⟨b,off,cap,rfl,h1,h2,h3,h4,h5⟩
 ·go_enter Tryz.func88,Tryz.ntmps88
  go_wp2
  go_loopw [8] (fun i wr=>i=.int .i64 0∧wr=w) (fun i _=>0)
  case atStart=>exact ⟨rfl,rfl⟩
  case round =>
   obtain ⟨rfl,rfl⟩:=hrel
   go_wp2
   go_ret
   exact ⟨rfl,Ext.rf _⟩
 ·have hi:=IndexFunc_Piece w b off cap f G lb p h3 h4 h5 heg hp
  have Hi:=hid hi
  have ha:=hid (idxOf_any p f)
  clear hi hp h5
  generalize idxOf p f=q at *
  generalize hn:f.length=n at *
  clear hn
  generalize f.any p=r at *
  go_enter Tryz.func88,Tryz.ntmps88
  go_wp2_with fail
  refine Hi.out.mono ?_
  rintro e w1 ⟨rfl,hx1⟩
  go_wp2_with fail
  go_ret
  exact ⟨ret_bool ha.out,hx1⟩
def PieceOk (p:Piece):Prop:=(1≤p.Len∧p.Len≤24)∧(1≤p.N∧p.N≤50)
instance (p:Piece):Decidable (PieceOk p):=inferInstanceAs (Decidable (_∧_))
def KindOk (k:Int):Prop:=1≤k∧k≤4
instance (k:Int):Decidable (KindOk k):=inferInstanceAs (Decidable (_∧_))
def ManyOk (r:Request):Prop:=1≤r.Pieces.length∧r.Pieces.length≤3
instance (r:Request):Decidable (ManyOk r):=inferInstanceAs (Decidable (_∧_))
def SpanOk (a b:Int):Prop:=0≤a∧a < b∧b≤48
instance (a b:Int):Decidable (SpanOk a b):=inferInstanceAs (Decidable (_∧_∧_))
def RangeOk (r:Request):Prop:=SpanOk r.From r.Until∧∀ p∈r.Pieces,PieceOk p
instance (r:Request):Decidable (RangeOk r):=inferInstanceAs (Decidable (_∧_))
structure ReqOk (r:Request):Prop where
 kind:KindOk r.Kind
 many:ManyOk r
 range:RangeOk r
theorem reqOk_iff {r:Request}:ReqOk r↔KindOk r.Kind∧ManyOk r∧RangeOk r:=⟨fun h=>⟨h.kind,h.many,h.range⟩,fun h=>⟨h.1,h.2.1,h.2.2⟩⟩
instance (r:Request):Decidable (ReqOk r):=decidable_of_iff _ reqOk_iff.symm
@[irreducible] def formR (r:Request):Int × Bool:=if ¬ KindOk r.Kind then (7,true) else if ¬ ManyOk r then (2,true) else if ¬ RangeOk r then (3,false) else (0,false)
theorem formR_kind {r:Request} (h:¬ KindOk r.Kind):formR r=(7,true):=by unfold formR;rw [if_pos h]
theorem formR_many {r:Request} (h:KindOk r.Kind) (h2:¬ ManyOk r):formR r=(2,true):=by unfold formR;rw [if_neg (fun h'=>h' h),if_pos h2]
theorem formR_range {r:Request} (h:KindOk r.Kind) (h2:ManyOk r) (h3:¬ RangeOk r):formR r=(3,false):=by unfold formR;rw [if_neg (fun h'=>h' h),if_neg (fun h'=>h' h2),if_pos h3]
theorem formR_ok {r:Request} (h:ReqOk r):formR r=(0,false):=by unfold formR;rw [if_neg (fun h'=>h' h.kind),if_neg (fun h'=>h' h.many),if_neg (fun h'=>h' h.range)]
theorem formR_cases (r:Request):(¬ KindOk r.Kind∧formR r=(7,true))∨(KindOk r.Kind∧¬ ManyOk r∧formR r=(2,true))∨(KindOk r.Kind∧ManyOk r∧¬ RangeOk r∧formR r=(3,false))∨(ReqOk r∧formR r=(0,false)):=by
 by_cases h1:KindOk r.Kind
 ·by_cases h2:ManyOk r
  ·by_cases h3:RangeOk r
   ·exact .inr (.inr (.inr ⟨⟨h1,h2,h3⟩,formR_ok ⟨h1,h2,h3⟩⟩))
   ·exact .inr (.inr (.inl ⟨h1,h2,h3,formR_range h1 h2 h3⟩))
  ·exact .inr (.inl ⟨h1,h2,formR_many h1 h2⟩)
 ·exact .inl ⟨h1,formR_kind h1⟩
theorem formR_bad {r:Request} (h:¬ ReqOk r):∃ e b,formR r=(e,b)∧e≠0:=by
 rcases formR_cases r with ⟨_,h1⟩ | ⟨_,_,h1⟩ | ⟨_,_,_,h1⟩ | ⟨h1,_⟩
 ·exact ⟨_,_,h1,by decide⟩
 ·exact ⟨_,_,h1,by decide⟩
 ·exact ⟨_,_,h1,by decide⟩
 ·exact absurd h1 h
theorem form1 (x:Piece) (w:World):Calls Tryz.prog 89 #[.agg #[.int .i64 x.Len,.int .i64 x.N]] w fun e w'=>e=.returned (.bool (decide (¬ PieceOk x)))∧Ext w w':=by
 have ho:=hid (fun (W:World) (o:Obj)=>(Ext.rf W).al o)
 by_cases h1:x.Len < 1
 ·rw [deT (p:=¬ PieceOk x) (fun h=>by have:=h.1.1;omega)]
  go_enter Tryz.func89,Tryz.ntmps89
  go_wp2_with fail
  go_ret
  exact ⟨rfl,ho.out _ _⟩
 ·by_cases h2:24 < x.Len
  ·rw [deT (p:=¬ PieceOk x) (fun h=>by have:=h.1.2;omega)]
   go_enter Tryz.func89,Tryz.ntmps89
   go_wp2_with fail
   go_ret
   exact ⟨rfl,ho.out _ _⟩
  ·by_cases h3:x.N < 1
   ·rw [deT (p:=¬ PieceOk x) (fun h=>by have:=h.2.1;omega)]
    go_enter Tryz.func89,Tryz.ntmps89
    go_wp2_with fail
    go_ret
    exact ⟨rfl,ho.out _ _⟩
   ·by_cases h4:50 < x.N
    ·rw [deT (p:=¬ PieceOk x) (fun h=>by have:=h.2.2;omega)]
     go_enter Tryz.func89,Tryz.ntmps89
     go_wp2_with fail
     go_ret
     exact ⟨rfl,ho.out _ _⟩
    ·rw [deF (p:=¬ PieceOk x) (fun h=>h ⟨⟨by omega,by omega⟩,by omega,by omega⟩)]
     go_enter Tryz.func89,Tryz.ntmps89
     go_wp2_with fail
     go_ret
     exact ⟨rfl,ho.out _ _⟩
def RetForm (w:World) (r:Int × Bool) (e:Ending) (w':World):Prop:=e=.returned (.tuple #[.int .i64 r.1,.bool r.2])∧Ext w w'
theorem retForm_of {w w':World} {r:Int × Bool} {n:Int} {b:Bool} (h:r=(n,b)) (hx:Ext w w'):RetForm w r (.returned (.tuple #[.int .i64 n,.bool b])) w':=by
 subst h;exact ⟨rfl,hx⟩
theorem Form_any (w:World) (pv:Value) (r:Request) (hv:PiecesV w pv r.Pieces) :
  Calls Tryz.prog 43 #[.agg #[.int .i64 r.Queue,.int .i64 r.From,.int .i64 r.Until,.int .i64 r.Kind,pv]] w (RetForm w (formR r)):=by
 have hal:=hid (fun (o:Obj)=>(Ext.rf w).al o)
 have P:=hid (fun (W:World) (h:Ext w W)=>ContainsFunc_Piece W pv r.Pieces 89 #[] (fun x=>decide (¬ PieceOk x)) (hv.mono h) (enters_of Tryz.func89 (by kernel_rfl) rfl) (fun k x _ W' _=>form1 x W'))
 obtain ⟨pa,pc,rfl,hpc,_,hpl⟩:=hv.form
 have Hm:=hid (show ManyOk r↔1≤r.Pieces.length∧r.Pieces.length≤3 from Iff.rfl)
 have Hany:=hid (show r.Pieces.any (fun x=>decide (¬ PieceOk x))=false↔∀ p∈r.Pieces,PieceOk p from by
  rw [List.any_eq_false]
  exact ⟨fun h p hp=>by simpa using h p hp,fun h p hp=>by simpa using h p hp⟩)
 clear hv
 generalize r.Pieces.any (fun x=>decide (¬ PieceOk x))=bad at *
 rcases formR_cases r with ⟨k1,hr⟩ | ⟨k1,k2,hr⟩ | ⟨k1,k2,k3,hr⟩ | ⟨k1,hr⟩
 ·have Hr:=hid hr
  by_cases h1:r.Kind < 1
  ·clear k1 hr
   generalize r.Pieces.length=n at *
   go_enter Tryz.func43,Tryz.ntmps43
   go_wp2_with fail
   go_ret2
   exact retForm_of Hr.out (hal.out _)
  ·have h2:4 < r.Kind:=by
    apply Classical.byContradiction
    intro h2;exact k1 ⟨by omega,by omega⟩
   clear k1 hr
   generalize r.Pieces.length=n at *
   go_enter Tryz.func43,Tryz.ntmps43
   go_wp2_with fail
   go_ret2
   exact retForm_of Hr.out (hal.out _)
 ·have Hr:=hid hr
  have g1:¬ r.Kind < 1:=by have:=k1.1;omega
  have g2:¬ 4 < r.Kind:=by have:=k1.2;omega
  have k3:¬ (1≤r.Pieces.length∧r.Pieces.length≤3):=fun h=>k2 h
  clear hr k1 k2
  by_cases h1:r.Pieces.length < 1
  ·have h1':(r.Pieces.length:Int) < 1:=by omega
   clear k3
   generalize r.Pieces.length=n at *
   go_enter Tryz.func43,Tryz.ntmps43
   go_wp2_with fail
   go_ret2
   exact retForm_of Hr.out (hal.out _)
  ·have h1':¬ (r.Pieces.length:Int) < 1:=by omega
   have h2':(3:Int) < (r.Pieces.length:Int):=by omega
   clear k3
   generalize r.Pieces.length=n at *
   go_enter Tryz.func43,Tryz.ntmps43
   go_wp2_with fail
   go_ret2
   exact retForm_of Hr.out (hal.out _)
 ·have Hr:=hid hr
  have g1:¬ r.Kind < 1:=by have:=k1.1;omega
  have g2:¬ 4 < r.Kind:=by have:=k1.2;omega
  have k2':=k2
  obtain ⟨j1,j2⟩:=k2'
  have g3:¬ (r.Pieces.length:Int) < 1:=by omega
  have g4:¬ (3:Int) < (r.Pieces.length:Int):=by omega
  by_cases hs:SpanOk r.From r.Until
  ·have S:=hid (fun (W:World)=>Span_yes r.From r.Until W hs.1 hs.2.1 hs.2.2)
   have hbad:bad=true:=by
    cases hb:bad with
    | true=>rfl
    | false=>exact absurd ⟨hs,Hany.out.1 hb⟩ k3
   subst hbad
   clear hr k1 k2 k3 hs
   generalize r.Pieces.length=n at *
   go_enter Tryz.func43,Tryz.ntmps43
   go_wp2_with fail
   refine (S.out _).mono ?_
   rintro e w1 ⟨rfl,rfl⟩
   go_wp2_with fail
   refine (P.out _ (hal.out _)).mono ?_
   rintro e w2 ⟨rfl,hx2⟩
   go_wp2_with fail
   go_ret2
   exact retForm_of Hr.out ((hal.out _).tr hx2)
  ·have S:=hid (fun (W:World)=>Span_no r.From r.Until W hs)
   clear hr k1 k2 k3 hs
   generalize r.Pieces.length=n at *
   go_enter Tryz.func43,Tryz.ntmps43
   go_wp2_with fail
   refine (S.out _).mono ?_
   rintro e w1 ⟨rfl,rfl⟩
   go_wp2_with fail
   go_ret2
   exact retForm_of Hr.out (hal.out _)
 ·have Hr:=hid hr
  have g1:¬ r.Kind < 1:=by have:=k1.kind.1;omega
  have g2:¬ 4 < r.Kind:=by have:=k1.kind.2;omega
  obtain ⟨j1,j2⟩:=k1.many
  have g3:¬ (r.Pieces.length:Int) < 1:=by omega
  have g4:¬ (3:Int) < (r.Pieces.length:Int):=by omega
  have hs:=k1.range.1
  have S:=hid (fun (W:World)=>Span_yes r.From r.Until W hs.1 hs.2.1 hs.2.2)
  have hbad:bad=false:=Hany.out.2 k1.range.2
  subst hbad
  clear hr k1 hs
  generalize r.Pieces.length=n at *
  go_enter Tryz.func43,Tryz.ntmps43
  go_wp2_with fail
  refine (S.out _).mono ?_
  rintro e w1 ⟨rfl,rfl⟩
  go_wp2_with fail
  refine (P.out _ (hal.out _)).mono ?_
  rintro e w2 ⟨rfl,hx2⟩
  go_wp2_with fail
  go_ret2
  exact retForm_of Hr.out ((hal.out _).tr hx2)
theorem reqCells {w W:World} {a b c d e:Value} {t:TypeId} (hx:Ext (w.alloc (.cells #[a,b,c,d,e] t)) W) :
  W.cell? ⟨w.heap.size,0,none⟩=some a∧W.cell? ⟨w.heap.size,1,none⟩=some b∧W.cell? ⟨w.heap.size,2,none⟩=some c∧W.cell? ⟨w.heap.size,3,none⟩=some d∧W.cell? ⟨w.heap.size,4,none⟩=some e:=by
 have h:=heap_alloc_new w (.cells #[a,b,c,d,e] t)
 have k:∀ j v,(#[a,b,c,d,e]:Array Value)[j]?=some v→W.cell? ⟨w.heap.size,j,none⟩=some v:=fun j v hv=>hx.ce' (by rw [cell_of_row _ _ _ _ _ _ h];exact hv)
 exact ⟨k 0 _ rfl,k 1 _ rfl,k 2 _ rfl,k 3 _ rfl,k 4 _ rfl⟩
def bP (b:List Bite) (k:Nat):Int:=(b.getD k default).Piece
def bA (b:List Bite) (k:Nat):Int:=(b.getD k default).At
def pL (r:Request) (j:Nat):Int:=(r.Pieces.getD j default).Len
def pN (r:Request) (j:Nat):Int:=(r.Pieces.getD j default).N
theorem bite_at {b:List Bite} {k:Nat} {x:Bite} (h:b[k]?=some x):bP b k=x.Piece∧bA b k=x.At:=by
 have e:b.getD k default=x:=by simp [List.getD_eq_getElem?_getD,h]
 exact ⟨by unfold bP;rw [e],by unfold bA;rw [e]⟩
theorem piece_at {r:Request} {k:Nat} {x:Piece} (h:r.Pieces[k]?=some x):pL r k=x.Len∧pN r k=x.N:=by
 have e:r.Pieces.getD k default=x:=by simp [List.getD_eq_getElem?_getD,h]
 exact ⟨by unfold pL;rw [e],by unfold pN;rw [e]⟩
def lastP (b:List Bite) (k:Nat):Int:=if k=0 then -1 else bP b (k - 1)
def endA (r:Request) (b:List Bite) (k:Nat):Int:=if k=0 then -1 else bA b (k - 1)+pL r (bP b (k - 1)).toNat
structure StepOk (r:Request) (b:List Bite) (k:Nat):Prop where
 up:lastP b k < bP b k
 is:bP b k < r.Pieces.length
 from_:r.From≤bA b k
 until_:bA b k≤r.Until
 fits:pL r (bP b k).toNat≤r.Until - bA b k
 order:0 < k→r.Kind=3→endA r b k≤bA b k
 tight:0 < k→r.Kind=4→bA b k=endA r b k
def CountOk (r:Request) (b:List Bite):Prop:=if r.Kind=2 then b.length=1 else b.length=r.Pieces.length
instance (r:Request) (b:List Bite):Decidable (CountOk r b):=by unfold CountOk;infer_instance
@[irreducible] noncomputable def meetsR (r:Request) (b:List Bite):Bool:=open Classical in decide (ReqOk r∧(∀ k,k < b.length→StepOk r b k)∧CountOk r b)
theorem meetsR_iff {r:Request} {b:List Bite}:meetsR r b=true↔ReqOk r∧(∀ k,k < b.length→StepOk r b k)∧CountOk r b:=by unfold meetsR;simp
theorem meetsR_no {r:Request} {b:List Bite} (h:¬ (ReqOk r∧(∀ k,k < b.length→StepOk r b k)∧CountOk r b)):meetsR r b=false:=by
 rw [Bool.eq_false_iff];exact fun h'=>h (meetsR_iff.1 h')
theorem meetsR_form {r:Request} {b:List Bite} (h:¬ ReqOk r):meetsR r b=false:=meetsR_no (fun h'=>h h'.1)
theorem meetsR_step {r:Request} {b:List Bite} {k:Nat} (hk:k < b.length) (h:¬ StepOk r b k):meetsR r b=false:=meetsR_no (fun h'=>h (h'.2.1 k hk))
structure RefOk (r:Request) (b:List Bite) (k:Nat):Prop where
 low:0≤bP b k
 is:bP b k≤(r.Pieces.length:Int) - 1
 up:0 < k→bP b (k - 1) < bP b k
 from_:r.From≤bA b k
 until_:bA b k≤r.Until
 fits:bA b k≤r.Until - pL r (bP b k).toNat
structure LinkOk (r:Request) (b:List Bite) (k:Nat):Prop where
 order:r.Kind=3→bA b (k - 1)+pL r (k - 1)≤bA b k
 tight:r.Kind=4→bA b k=bA b (k - 1)+pL r (k - 1)
theorem inc_id {f:Nat→Int} {n:Nat} (h0:∀ k,k < n→0≤f k) (hup:∀ k,0 < k→k < n→f (k - 1) < f k) (hn:∀ k,k < n→f k≤(n:Int) - 1):∀ k,k < n→f k=k:=by
 have lo:∀ k,k < n→(k:Int)≤f k:=by
  intro k
  induction k with
  | zero=>intro h;exact h0 0 h
  | succ k ih=>intro h;have:=ih (by omega);have:=hup (k+1) (by omega) h;simp only [Nat.add_sub_cancel] at this;omega
 have hi:∀ d k,k+d+1=n→f k≤k:=by
  intro d
  induction d with
  | zero=>intro k h;have:=hn k (by omega);omega
  | succ d ih=>intro k h;have:=ih (k+1) (by omega);have:=hup (k+1) (by omega) (by omega);simp only [Nat.add_sub_cancel] at this;omega
 intro k hk
 have:=lo k hk
 have:=hi (n - k - 1) k (by omega)
 omega
theorem step_low {r:Request} {b:List Bite} {n:Nat} (h:∀ k,k < n→StepOk r b k):∀ k,k < n→0≤bP b k:=by
 intro k
 induction k with
 | zero=>intro hk;have:=(h 0 hk).up;unfold lastP at this;rw [if_pos rfl] at this;omega
 | succ k ih=>intro hk;have h1:=ih (by omega);have:=(h (k+1) hk).up;unfold lastP at this;rw [if_neg (by omega)] at this;simp only [Nat.add_sub_cancel] at this;omega
theorem meetsR_ref {r:Request} {b:List Bite} (hr:ReqOk r):meetsR r b=true↔(∀ k,k < b.length→RefOk r b k)∧(if r.Kind=2 then b.length=1 else b.length=r.Pieces.length∧∀ k,0 < k→k < b.length→LinkOk r b k):=by
 rw [meetsR_iff]
 constructor
 ·rintro ⟨_,hs,hc⟩
  have h0:=step_low hs
  have hup:∀ k,0 < k→k < b.length→bP b (k - 1) < bP b k:=fun k h1 h2=>by
   have:=(hs k h2).up;unfold lastP at this;rw [if_neg (by omega)] at this;exact this
  refine ⟨fun k hk=>⟨h0 k hk,by have:=(hs k hk).is;omega,fun h=>hup k h hk,(hs k hk).from_,(hs k hk).until_,by have:=(hs k hk).fits;omega⟩,?_⟩
  unfold CountOk at hc
  split
  ·rename_i h2;rw [if_pos h2] at hc;exact hc
  ·rename_i h2
   rw [if_neg h2] at hc
   have hid:=inc_id h0 hup (fun k hk=>by have:=(hs k hk).is;omega)
   refine ⟨hc,fun k h1 hk=>?_⟩
   have e:endA r b k=bA b (k - 1)+pL r (k - 1):=by
    unfold endA;rw [if_neg (by omega),hid (k - 1) (by omega),Int.toNat_natCast]
   exact ⟨fun h3=>by have:=(hs k hk).order h1 h3;omega,fun h4=>by have:=(hs k hk).tight h1 h4;omega⟩
 ·rintro ⟨hs,hc⟩
  refine ⟨hr,fun k hk=>?_,?_⟩
  ·have h:=hs k hk
   have link:0 < k→r.Kind≠2→endA r b k=bA b (k - 1)+pL r (k - 1)∧LinkOk r b k:=fun h1 h2=>by
    rw [if_neg h2] at hc
    have hid:=inc_id (fun k hk=>(hs k hk).low) (fun k h1 hk=>(hs k hk).up h1) (fun k hk=>by have:=(hs k hk).is;omega)
    exact ⟨by unfold endA;rw [if_neg (by omega),hid (k - 1) (by omega),Int.toNat_natCast],hc.2 k h1 hk⟩
   refine ⟨?_,by have:=h.is;omega,h.from_,h.until_,by have:=h.fits;omega,fun h1 h3=>?_,fun h1 h4=>?_⟩
   ·unfold lastP
    split
    ·have:=h.low;omega
    ·exact h.up (by omega)
   ·obtain ⟨e,hl⟩:=link h1 (by omega)
    rw [e];exact hl.order h3
   ·obtain ⟨e,hl⟩:=link h1 (by omega)
    rw [e];exact hl.tight h4
  ·unfold CountOk
   split
   ·rename_i h2;rw [if_pos h2] at hc;exact hc
   ·rename_i h2;rw [if_neg h2] at hc;exact hc.1
theorem meetsR_yes {r:Request} {b:List Bite} (hr:ReqOk r) (h:∀ k,k < b.length→StepOk r b k):meetsR r b=decide (CountOk r b):=by
 by_cases hc:CountOk r b
 ·rw [decide_eq_true hc];exact meetsR_iff.2 ⟨hr,h,hc⟩
 ·rw [decide_eq_false hc];exact meetsR_no (fun h'=>hc h'.2.2)
end Go.Proofs.YtdcndkojmflhnaaGreat
