/- runs: walks, first part; each theorem names its own conditions. -/
import Derived.Test.YtdcndkojmflhnaaGreatProg
import Derived.Test.YtdcndkojmflhnaaGreatPCore
import Derived.Deep.QuietTactic
import Derived.BigQuiet
import Derived.WalkLawsBesides
import Derived.WalkSpells
/- Walks of package runs: Span, At (with slices.BinarySearchFunc), Low, and the function 'next' inside Zip. -/
set_option linter.unusedVariables false
set_option maxRecDepth 100000
set_option maxHeartbeats 8000000
set_option linter.unusedSimpArgs false
set_option linter.unusedVariables false
namespace Go.Proofs.YtdcndkojmflhnaaGreat
open Go.RowKit
open List renaming getElem_toArray→zA,getElem_cons_zero→zB,getElem_cons_succ→zC,setIfInBounds_toArray→zD,set_cons_zero→zE,set_cons_succ→zF
theorem getE {α:Type} {f:List α} {k:Nat} (h:k < f.length):∃ x,f[k]?=some x:=⟨f[k],by simp [h]⟩
theorem curAt_some {f:List Run} {k:Nat} {x:Run} (h:f[k]?=some x):curAt f k=x.At:=by simp [curAt,List.getD,h]
theorem curN_some {f:List Run} {k:Nat} {x:Run} (h:f[k]?=some x):curN f k=x.N:=by simp [curN,List.getD,h]
theorem Span_yes (a b:Int) (w:World) (h1:0≤a) (h2:a < b) (h3:b≤48):Calls Tryz.prog 87 #[.int .i64 a,.int .i64 b] w fun e w'=>e=.returned (.bool true)∧w=w':=by
 go_enter Tryz.func87,Tryz.ntmps87
 go_wp2
 go_ret
 exact ⟨rfl,rfl⟩
theorem Span_no (a b:Int) (w:World) (h:¬ (0≤a∧a < b∧b≤48)):Calls Tryz.prog 87 #[.int .i64 a,.int .i64 b] w fun e w'=>e=.returned (.bool false)∧w=w':=by
 by_cases h1:0≤a
 ·by_cases h2:a < b
  ·have h3:¬ b≤48:=fun h3=>h ⟨h1,h2,h3⟩
   clear h
   go_enter Tryz.func87,Tryz.ntmps87
   go_wp2
   go_ret
   exact ⟨rfl,rfl⟩
  ·clear h
   go_enter Tryz.func87,Tryz.ntmps87
   go_wp2
   go_ret
   exact ⟨rfl,rfl⟩
 ·clear h
  go_enter Tryz.func87,Tryz.ntmps87
  go_wp2
  go_ret
  exact ⟨rfl,rfl⟩
theorem next_any (w:World) (b off cap:Nat) (f:List Run) (k:Nat) (hl:f.length≤17592186044416) (hb:b < w.heap.size) (hE:∀ k x,f[k]?=some x→ERun w b (off+k*2) x) (hk:k < f.length) :
  Calls Tryz.prog 166 #[.slice (some ⟨b,off,none⟩) f.length cap,.int .i64 k] w fun e w'=>e=.returned (.int .i64 (nextAt f k))∧w=w':=by
 by_cases h:k+1 < f.length
 ·obtain ⟨x,hx⟩:=getE h
  obtain ⟨c1,c2,c3,c4⟩:=hE (k+1) x hx
  have hn:nextAt f k=x.At:=by rw [nextAt_lt h,curAt_some hx]
  have Hn:=hid hn
  have h':(k:Int)+1 < (f.length:Int):=by omega
  clear hn hx hE
  generalize f.length=n at *
  go_enter Tryz.func166,Tryz.ntmps166
  go_wp2
  go_ret
  exact ⟨ret_int Hn.out.symm,rfl⟩
 ·have hn:=hid (nextAt_end h)
  have h':¬ (k:Int)+1 < (f.length:Int):=by omega
  clear hE
  generalize hfl:f.length=n at *
  clear hfl
  go_enter Tryz.func166,Tryz.ntmps166
  go_wp2
  go_ret
  exact ⟨ret_int hn.out.symm,rfl⟩
theorem cmp_any (w:World) (at_ n t:Int) (h0:0≤at_) (h1:at_≤48) (h2:0≤t) (h3:t≤48) :
  Calls Tryz.prog 196 #[.agg #[.int .i64 at_,.int .i64 n],.int .i64 t] w fun e w'=>e=.returned (.int .i64 (at_ - t))∧Ext w w':=by
 go_enter Tryz.func196,Tryz.ntmps196
 go_wp2
 go_ret
 exact ⟨rfl,(Ext.rf _).al _⟩
theorem curAt_mono {f:List Run} (hs:Shape f) {i j:Nat} (hij:i < j) (hj:j < f.length):curAt f i < curAt f j:=by
 induction j with
 | zero=>omega
 | succ j ih =>
  have h:=shape_idx hs (i:=j) (by omega)
  rw [nextAt_lt hj] at h
  by_cases e:i=j
  ·subst e;exact h.2.1
  ·have:=ih (by omega) (by omega);omega
theorem by_lt {f:List Run} (hs:Shape f) {k:Nat} {x:Run} {t:Int} (hx:f[k]?=some x) (hk:k < f.length) (h:x.At < t):∀ m,m≤k→curAt f m < t:=fun m hm=>by
 rw [← curAt_some hx] at h
 by_cases e:m=k
 ·subst e;exact h
 ·have:=curAt_mono hs (i:=m) (j:=k) (by omega) hk;omega
theorem by_ge {f:List Run} (hs:Shape f) {k:Nat} {x:Run} {t:Int} (hx:f[k]?=some x) (h:t≤x.At):∀ m,k≤m→m < f.length→t≤curAt f m:=fun m hm hmn=>by
 rw [← curAt_some hx] at h
 by_cases e:k=m
 ·subst e;exact h
 ·have:=curAt_mono hs (i:=k) (j:=m) (by omega) hmn;omega
def Found (f:List Run) (t:Int) (w:World) (e:Ending) (w':World):Prop :=
 ∃ (i:Nat) (b:Bool),e=.returned (.tuple #[.int .i64 i,.bool b])∧i≤f.length∧(∀ j,j < i→curAt f j < t)∧(∀ j,i≤j→j < f.length→t≤curAt f j)∧(b=true↔i < f.length∧curAt f i=t)∧Ext w w'
theorem search_any (w:World) (b off cap:Nat) (f:List Run) (t:Int) (hs:Shape f) (hm:cap≤9223372036854775807) (hl:f.length≤cap) (hb:b < w.heap.size) (hE:∀ k x,f[k]?=some x→ERun w b (off+k*2) x) (h2:0≤t) (h3:t≤48) :
  Calls Tryz.prog 195 #[.slice (some ⟨b,off,none⟩) f.length cap,.int .i64 t,.func (.func 196) #[] #[]] w (Found f t w):=by
 have hlen:=shape_len hs
 have HE:=hid hE
 have Hs:=hid hs
 clear hE hs
 generalize hn:f.length=n at *
 have Hn:=hid hn
 clear hn
 go_enter Tryz.func195,Tryz.ntmps195
 go_wp2_with fail
 go_loopw [9,10] (fun a c wr=>∃ i j:Nat,i≤j∧j≤n∧a=.int .i64 i∧c=.int .i64 j∧Hid ((∀ m,m < i→curAt f m < t)∧(∀ m,j≤m→m < n→t≤curAt f m))∧Ext w wr) (fun a c _=>(intOf c - intOf a).toNat)
 case atStart=>exact ⟨0,n,Nat.zero_le _,Nat.le_refl _,rfl,rfl,⟨fun m hm=>absurd hm (Nat.not_lt_zero _),fun m h1 h2=>by omega⟩,Ext.rf _⟩
 case round =>
  obtain ⟨i,j,hij,hjn,rfl,rfl,H,hx⟩:=hrel
  have hbw:b < wr.heap.size:=Nat.lt_of_lt_of_le hb hx.size
  by_cases hlt:i < j
  ·obtain ⟨x,hxm⟩:=getE (f:=f) (k:=(i+j) / 2) (by rw [Hn.out];omega)
   obtain ⟨c1,c2,c3,c4⟩:=HE.out ((i+j) / 2) x hxm
   replace c1:=hx.ce' c1
   replace c2:=hx.ce' c2
   have hr:=shape_idx Hs.out (i:=(i+j) / 2) (by rw [Hn.out];omega)
   rw [curAt_some hxm] at hr
   obtain ⟨r1,r2,r3,_⟩:=hr
   have hr48:x.At≤48:=by omega
   have Hx:=hid hxm
   clear hxm r2 r3
   by_cases hc:x.At < t
   ·go_wp2_with (go_at_call 196;refine (cmp_any _ _ _ _ r1 hr48 h2 h3).mono ?_;rintro e w1 ⟨rfl,hx1⟩)
    go_roundw
    case rel=>exact ⟨(i+j) / 2+1,j,by omega,by omega,by go_num,rfl,⟨fun m hm=>by_lt Hs.out Hx.out (by rw [Hn.out];omega) hc m (by omega),H.out.2⟩,hx.tr hx1⟩
    case measure=>simp [intOf];omega
   ·go_wp2_with (go_at_call 196;refine (cmp_any _ _ _ _ r1 hr48 h2 h3).mono ?_;rintro e w1 ⟨rfl,hx1⟩)
    go_roundw
    case rel=>exact ⟨i,(i+j) / 2,by omega,by omega,rfl,by go_num,⟨H.out.1,fun m hm hmn=>by_ge Hs.out Hx.out (by omega) m hm (by rw [Hn.out];exact hmn)⟩,hx.tr hx1⟩
    case measure=>simp [intOf];omega
  ·obtain rfl:i=j:=by omega
   by_cases hin:i < n
   ·obtain ⟨x,hxm⟩:=getE (f:=f) (k:=i) (by rw [Hn.out];omega)
    obtain ⟨c1,c2,c3,c4⟩:=HE.out i x hxm
    replace c1:=hx.ce' c1
    replace c2:=hx.ce' c2
    have hr:=shape_idx Hs.out (i:=i) (by rw [Hn.out];omega)
    rw [curAt_some hxm] at hr
    obtain ⟨r1,r2,r3,_⟩:=hr
    have hr48:x.At≤48:=by omega
    have Hx:=hid hxm
    have hin':(i:Int) < (n:Int):=by omega
    clear hxm r2 r3
    by_cases hc:x.At=t
    ·have hq:=eqT (a:=x.At - t) (b:=0) (by omega)
     have Hc:=hid hc
     clear hc
     go_wp2_with (go_at_call 196;refine (cmp_any _ _ _ _ r1 hr48 h2 h3).mono ?_;rintro e w1 ⟨rfl,hx1⟩)
     go_ret2
     exact ⟨i,true,rfl,by rw [Hn.out];exact hjn,H.out.1,by rw [Hn.out];exact H.out.2,by rw [Hn.out,curAt_some Hx.out];simp [hin,Hc.out],hx.tr hx1⟩
    ·have hq:=eqF (a:=x.At - t) (b:=0) (by omega)
     go_wp2_with (go_at_call 196;refine (cmp_any _ _ _ _ r1 hr48 h2 h3).mono ?_;rintro e w1 ⟨rfl,hx1⟩)
     go_ret2
     exact ⟨i,false,rfl,by rw [Hn.out];exact hjn,H.out.1,by rw [Hn.out];exact H.out.2,by rw [Hn.out,curAt_some Hx.out];simp [hc],hx.tr hx1⟩
   ·have hin':¬ (i:Int) < (n:Int):=by omega
    go_wp2_with fail
    go_ret2
    exact ⟨i,false,rfl,by rw [Hn.out];exact hjn,H.out.1,by rw [Hn.out];exact H.out.2,by rw [Hn.out];simp [hin],hx⟩
theorem At_some (w:World) (b off cap:Nat) (f:List Run) (t:Int) (hs:Shape f) (hm:cap≤9223372036854775807) (hl:f.length≤cap) (hb:b < w.heap.size) (hE:∀ k x,f[k]?=some x→ERun w b (off+k*2) x) (h2:0≤t) (h3:t < 48) :
  Calls Tryz.prog 177 #[.slice (some ⟨b,off,none⟩) f.length cap,.int .i64 t] w fun e w'=>e=.returned (.int .i64 (sp f t.toNat))∧Ext w w':=by
 have hsearch:=search_any w b off cap f t hs hm hl hb hE h2 (by omega)
 have S:=hid hsearch
 have HE:=hid hE
 have Hs:=hid hs
 have hlen:=shape_len hs
 clear hE hs hsearch
 generalize hn:f.length=n at *
 have Hn:=hid hn
 clear hn
 go_enter Tryz.func177,Tryz.ntmps177
 go_wp2_with fail
 refine S.out.mono ?_
 rintro e w1 ⟨i,fb,rfl,f1,f2,f3,f4,hx⟩
 have hz:=shape_zero Hs.out
 cases fb with
 | true =>
  have f5:=f4.1 rfl
  obtain ⟨x,hxi⟩:=getE (f:=f) (k:=i) f5.1
  obtain ⟨c1,c2,c3,c4⟩:=HE.out i x hxi
  replace c1:=hx.ce' c1
  replace c2:=hx.ce' c2
  have hsp:sp f t.toNat=x.N:=by
   have h:=shape_idx Hs.out f5.1
   rw [← curN_some hxi]
   exact h.2.2.2 t.toNat (by omega) (by omega)
  have Hsp:=hid hsp
  have hin:(i:Int) < (n:Int):=by rw [Hn.out] at f5;omega
  clear f2 f3 f4 f5 hxi hsp hz
  go_wp2_with fail
  go_ret
  exact ⟨ret_int Hsp.out.symm,hx⟩
 | false =>
  have f5:¬ (i < f.length∧curAt f i=t):=fun h=>by have:=f4.2 h;cases this
  have hi0:0 < i:=by
   rcases Nat.eq_zero_or_pos i with h | h
   ·subst h
    exact absurd ⟨hz.1,by have:=f3 0 (Nat.le_refl _) hz.1;omega⟩ f5
   ·exact h
  obtain ⟨x,hxi⟩:=getE (f:=f) (k:=i - 1) (by omega)
  obtain ⟨c1,c2,c3,c4⟩:=HE.out (i - 1) x hxi
  replace c1:=hx.ce' c1
  replace c2:=hx.ce' c2
  have hsp:sp f t.toNat=x.N:=by
   have h:=shape_idx Hs.out (i:=i - 1) (by omega)
   rw [← curN_some hxi]
   have h1:=f2 (i - 1) (by omega)
   refine h.2.2.2 t.toNat (by omega) ?_
   by_cases hi:i < f.length
   ·rw [nextAt_lt (by omega),show i - 1+1=i by omega]
    have h4:=f3 i (Nat.le_refl _) hi
    have:curAt f i≠t:=fun e=>f5 ⟨hi,e⟩
    omega
   ·rw [nextAt_end (by omega)];omega
  have Hsp:=hid hsp
  have hin:(i:Int) - 1 < (n:Int):=by rw [Hn.out] at f1;omega
  have hin0:(0:Int)≤(i:Int) - 1:=by omega
  have hi1:(0:Int) < (i:Int):=by omega
  clear f2 f3 f4 f5 hxi hsp hz
  go_wp2_with fail
  go_ret
  exact ⟨ret_int Hsp.out.symm,hx⟩
theorem Low_some (w:World) (b off cap:Nat) (f:List Run) (s t:Int) (hs:Shape f) (hm:cap≤9223372036854775807) (hl:f.length≤cap) (hb:b < w.heap.size) (hE:∀ k x,f[k]?=some x→ERun w b (off+k*2) x) (h1:0≤s) (h2:s < t) (h3:t≤48) :
  Calls Tryz.prog 154 #[.slice (some ⟨b,off,none⟩) f.length cap,.int .i64 s,.int .i64 t] w fun e w'=>e=.returned (.int .i64 (lowT (sp f) s.toNat t.toNat))∧Ext w w':=by
 have hat:=At_some w b off cap f s hs hm hl hb hE h1 (by omega)
 have S:=hid hat
 have HE:=hid hE
 have Hs:=hid hs
 have hlen:=shape_len hs
 clear hE hs hat
 obtain ⟨a,rfl⟩:=Int.eq_ofNat_of_zero_le h1
 obtain ⟨c,rfl⟩:=Int.eq_ofNat_of_zero_le (show 0≤t by omega)
 rw [Int.toNat_natCast,Int.toNat_natCast]
 generalize hn:f.length=n at *
 have Hn:=hid hn
 clear hn
 go_enter Tryz.func154,Tryz.ntmps154
 go_wp2_with fail
 refine S.out.mono ?_
 rintro e w1 ⟨rfl,hx⟩
 rw [Int.toNat_natCast]
 go_wp2_with fail
 go_loopw [7,15] (fun v i wr=>∃ k:Nat,k≤n∧i=.int .i64 k∧v=.int .i64 (lowAt f (sp f) a c k)∧Ext w wr) (fun _ i _=>n - (intOf i).toNat)
 case atStart=>exact ⟨0,Nat.zero_le _,rfl,by rw [lowAt_start Hs.out],hx⟩
 case round =>
  obtain ⟨k,hk,rfl,rfl,hx⟩:=hrel
  have hbw:b < wr.heap.size:=Nat.lt_of_lt_of_le hb hx.size
  by_cases hlt:k < n
  ·obtain ⟨x,hxk⟩:=getE (f:=f) (k:=k) (by rw [Hn.out];exact hlt)
   obtain ⟨c1,c2,c3,c4⟩:=HE.out k x hxk
   replace c1:=hx.ce' c1
   replace c2:=hx.ce' c2
   have hstep:=lowAt_step Hs.out (a:=a) (b:=c) (by omega) (by omega) (k:=k) (by rw [Hn.out];exact hlt)
   rw [curAt_some hxk,curN_some hxk] at hstep
   have Hx:=hid hxk
   by_cases t1:(a:Int) < x.At
   ·by_cases t2:x.At < (c:Int)
    ·rw [if_pos ⟨t1,t2⟩] at hstep
     have Hst:=hid hstep
     clear hstep hxk
     generalize lowAt f (sp f) a c k=q at *
     go_wp2_with fail
     go_roundw
     case rel=>exact ⟨k+1,by omega,by go_num,by rw [Hst.out,minw],hx.al _⟩
     case measure=>simp [intOf];omega
    ·rw [if_neg (fun h=>t2 h.2)] at hstep
     have Hst:=hid hstep
     clear hstep hxk
     generalize lowAt f (sp f) a c k=q at *
     go_wp2_with fail
     go_roundw
     case rel=>exact ⟨k+1,by omega,by go_num,by rw [Hst.out],hx.al _⟩
     case measure=>simp [intOf];omega
   ·rw [if_neg (fun h=>t1 h.1)] at hstep
    have Hst:=hid hstep
    clear hstep hxk
    generalize lowAt f (sp f) a c k=q at *
    go_wp2_with fail
    go_roundw
    case rel=>exact ⟨k+1,by omega,by go_num,by rw [Hst.out],hx.al _⟩
    case measure=>simp [intOf];omega
  ·obtain rfl:k=n:=by omega
   have he:=lowAt_end (f:=f) (sp f) (a:=a) (b:=c) (by omega) (by omega)
   rw [Hn.out] at he
   have He:=hid he
   clear he
   go_wp2_with fail
   go_ret
   exact ⟨ret_int He.out,hx⟩
theorem number_yes (n:Int) (w:World) (h:NumOk n):Calls Tryz.prog 86 #[.int .i64 n] w fun e w'=>e=.returned (.bool true)∧w'=w:=by
 obtain ⟨h1,h2⟩:=h
 go_enter Tryz.func86,Tryz.ntmps86
 go_wp2
 go_ret
 exact ⟨rfl,rfl⟩
theorem number_no (n:Int) (w:World) (h:¬ NumOk n):Calls Tryz.prog 86 #[.int .i64 n] w fun e w'=>e=.returned (.bool false)∧w'=w:=by
 by_cases h1:-1048576≤n
 ·have h2:¬ n≤1048576:=fun h2=>h ⟨h1,h2⟩
  clear h
  go_enter Tryz.func86,Tryz.ntmps86
  go_wp2
  go_ret
  exact ⟨rfl,rfl⟩
 ·clear h
  go_enter Tryz.func86,Tryz.ntmps86
  go_wp2
  go_ret
  exact ⟨rfl,rfl⟩
@[irreducible] def chk (f:List Run):Int:=if Fine f then 0 else 1
theorem chk_yes {f:List Run} (h:Fine f):chk f=0:=by unfold chk;rw [if_pos h]
theorem chk_no {f:List Run} (h:¬ Fine f):chk f=1:=by unfold chk;rw [if_neg h]
theorem okAt_snoc {f:List Run} {k:Nat} (h:∀ j,j < k→okAt f j) (hk:okAt f k):∀ j,j < k+1→okAt f j:=fun j hj=>by
 by_cases e:j=k
 ·subst e;exact hk
 ·exact h j (by omega)
theorem Check_some (w:World) (b off cap:Nat) (f:List Run) (hcap:f.length≤cap) (hm:cap≤9223372036854775807) (hl:f.length≤17592186044416) (hb:b < w.heap.size)
  (hE:∀ k x,f[k]?=some x→ERun w b (off+k*2) x) (h0:0 < f.length) :
  Calls Tryz.prog 42 #[.slice (some ⟨b,off,none⟩) f.length cap] w fun e w'=>e=.returned (.int .i64 (chk f))∧Ext w w':=by
 obtain ⟨x0,hx0⟩:=getE h0
 have e0:=hE 0 x0 hx0
 obtain ⟨e1,e2,e3,e4⟩:=e0
 simp only [Nat.zero_mul,Nat.add_zero] at e1 e2
 have hne:((f.length:Int) == 0)=false:=eqF (by omega)
 generalize hn:f.length=n at *
 have Hn:=hid hn
 clear hn
 by_cases hz:x0.At=0
 ·have hz1:(x0.At != 0)=false:=neF hz
  have Hz:=hid hz
  clear hz
  go_enter Tryz.func42,Tryz.ntmps42
  go_wp2
  go_loopw [17] (fun c wr=>∃ k:Nat,k≤n∧c=.int .i64 k∧(∀ j,j < k→okAt f j)∧Ext w wr) (fun c _=>n - (intOf c).toNat)
  case atStart=>exact ⟨0,Nat.zero_le _,rfl,fun j hj=>absurd hj (Nat.not_lt_zero _),Ext.rf _⟩
  case round =>
   obtain ⟨k,hk,rfl,hok,hx⟩:=hrel
   have Hok:=hid hok
   clear hok
   have hbw:b < wr.heap.size:=Nat.lt_of_lt_of_le hb hx.size
   by_cases hlt:k < n
   ·obtain ⟨x,hxk⟩:=getE (f:=f) (k:=k) (by rw [Hn.out];exact hlt)
    obtain ⟨c1,c2,c3,c4⟩:=hE k x hxk
    replace c1:=hx.ce' c1
    replace c2:=hx.ce' c2
    have Hx:=hid hxk
    clear hxk
    have qc:∀ n (w:World),n=x.N→Calls Tryz.prog 86 #[.int .i64 n] w fun e w'=>e=.returned (.bool (decide (NumOk x.N)))∧w'=w:=fun n w e=>by
     subst e
     by_cases h:NumOk x.N
     ·rw [deT h];exact number_yes _ _ h
     ·rw [deF h];exact number_no _ _ h
    have Qc:=hid qc
    clear qc
    go_wp2
    by_cases t1:48≤x.At
    ·have no:¬ okAt f k:=fun h=>by have:=h.1;rw [curAt_some Hx.out] at this;omega
     have hc:chk f=1:=chk_no (fun h=>no ((fine_iff.1 h).2.2 k (by rw [Hn.out];exact hlt)))
     have Hc:=hid hc
     clear hc
     go_quiet (fail)
     go_wp2
     go_ret
     exact ⟨ret_int Hc.out.symm,(hx.al _).dn _⟩
    ·by_cases t2:NumOk x.N
     ·by_cases t3:k=0
      ·have hok':okAt f k:=⟨by rw [curAt_some Hx.out];omega,by rw [curN_some Hx.out];exact t2,fun h=>by omega⟩
       have Hok':=hid hok'
       clear hok'
       subst t3
       have Q:=fun n w e=>by have:=Qc.out n w e;rw [deT t2] at this;exact this
       have HQ:=hid Q
       clear Q
       go_quiet ((go_at_call 86;exact Calls.quiet_of_same (HQ.out _ _ rfl)))
       go_wp2
       go_roundw
       case rel=>exact ⟨0+1,by omega,by go_num,okAt_snoc Hok.out Hok'.out,(hx.al _).dn _⟩
       case measure=>simp [intOf];omega
      ·have hk0:0 < k:=by omega
       have hk1:(0:Int) < (k:Int):=by omega
       obtain ⟨y,hyk⟩:=getE (f:=f) (k:=k - 1) (by rw [Hn.out];omega)
       obtain ⟨d1,d2,d3,d4⟩:=hE (k - 1) y hyk
       replace d1:=hx.ce' d1
       replace d2:=hx.ce' d2
       have Hy:=hid hyk
       clear hyk
       have Q:=fun n w e=>by have:=Qc.out n w e;rw [deT t2] at this;exact this
       have HQ:=hid Q
       clear Q
       by_cases t4:x.At≤y.At
       ·have no:¬ okAt f k:=fun h=>by have:=(h.2.2 hk0).1;rw [curAt_some Hx.out,curAt_some Hy.out] at this;omega
        have hc:chk f=1:=chk_no (fun h=>no ((fine_iff.1 h).2.2 k (by rw [Hn.out];exact hlt)))
        have Hc:=hid hc
        clear hc no
        go_quiet ((go_at_call 86;exact Calls.quiet_of_same (HQ.out _ _ rfl)))
        go_wp2
        go_ret
        exact ⟨ret_int Hc.out.symm,(hx.al _).dn _⟩
       ·by_cases t5:x.N=y.N
        ·have no:¬ okAt f k:=fun h=>by have:=(h.2.2 hk0).2;rw [curN_some Hx.out,curN_some Hy.out] at this;exact this t5
         have hc:chk f=1:=chk_no (fun h=>no ((fine_iff.1 h).2.2 k (by rw [Hn.out];exact hlt)))
         have Hc:=hid hc
         have t6:=eqT t5
         clear hc no t5
         go_quiet ((go_at_call 86;exact Calls.quiet_of_same (HQ.out _ _ rfl)))
         go_wp2
         go_ret
         exact ⟨ret_int Hc.out.symm,(hx.al _).dn _⟩
        ·have hok':okAt f k:=⟨by rw [curAt_some Hx.out];omega,by rw [curN_some Hx.out];exact t2,fun _=>by rw [curAt_some Hx.out,curN_some Hx.out,curAt_some Hy.out,curN_some Hy.out];exact ⟨by omega,t5⟩⟩
         have Hok':=hid hok'
         have t6:=eqF t5
         clear hok' t5
         go_quiet ((go_at_call 86;exact Calls.quiet_of_same (HQ.out _ _ rfl)))
         go_wp2
         go_roundw
         case rel=>exact ⟨k+1,by omega,by go_num,okAt_snoc Hok.out Hok'.out,(hx.al _).dn _⟩
         case measure=>simp [intOf];omega
     ·have no:¬ okAt f k:=fun h=>by have:=h.2.1;rw [curN_some Hx.out] at this;exact t2 this
      have hc:chk f=1:=chk_no (fun h=>no ((fine_iff.1 h).2.2 k (by rw [Hn.out];exact hlt)))
      have Hc:=hid hc
      have Q:=fun n w e=>by have:=Qc.out n w e;rw [deF t2] at this;exact this
      have HQ:=hid Q
      clear Q hc no
      go_quiet ((go_at_call 86;exact Calls.quiet_of_same (HQ.out _ _ rfl)))
      go_wp2
      go_ret
      exact ⟨ret_int Hc.out.symm,(hx.al _).dn _⟩
   ·go_wp2
    go_ret
    have hc:chk f=0:=chk_yes (fine_iff.2 ⟨by rw [Hn.out];exact h0,by rw [curAt_some hx0];exact Hz.out,fun j hj=>Hok.out j (by rw [Hn.out] at hj;omega)⟩)
    exact ⟨ret_int hc.symm,hx⟩
 ·have hz1:(x0.At != 0)=true:=neT hz
  have hc:chk f=1:=chk_no (fun h=>hz (by rw [← curAt_some hx0];exact (fine_iff.1 h).2.1))
  have Hc:=hid hc
  clear hc
  go_enter Tryz.func42,Tryz.ntmps42
  go_wp2
  go_ret
  exact ⟨ret_int Hc.out.symm,Ext.rf _⟩
theorem within_yes (n lo hi:Int) (w:World) (h1:lo≤n) (h2:n≤hi):Calls Tryz.prog 59 #[.int .i64 n,.int .i64 lo,.int .i64 hi] w fun e w'=>e=.returned (.bool true)∧w'=w:=by
 go_enter Tryz.func59,Tryz.ntmps59
 go_wp2
 go_ret
 exact ⟨rfl,rfl⟩
theorem within_no (n lo hi:Int) (w:World) (h:¬ (lo≤n∧n≤hi)):Calls Tryz.prog 59 #[.int .i64 n,.int .i64 lo,.int .i64 hi] w fun e w'=>e=.returned (.bool false)∧w'=w:=by
 by_cases h1:lo≤n
 ·have h2:¬ n≤hi:=fun h2=>h ⟨h1,h2⟩
  clear h
  go_enter Tryz.func59,Tryz.ntmps59
  go_wp2
  go_ret
  exact ⟨rfl,rfl⟩
 ·clear h
  go_enter Tryz.func59,Tryz.ntmps59
  go_wp2
  go_ret
  exact ⟨rfl,rfl⟩
end Go.Proofs.YtdcndkojmflhnaaGreat
