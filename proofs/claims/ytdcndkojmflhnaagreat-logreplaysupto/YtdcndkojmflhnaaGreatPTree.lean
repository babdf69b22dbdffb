/- Walks of package tree, and of the reference's CheckTree; each theorem names its own conditions. -/
import Derived.Test.YtdcndkojmflhnaaGreatPRunsZ
import Derived.Laws.RangeAny
import Derived.Laws.RangeString
import Derived.Maps.Own
import Derived.Maps.OwnOps
import Derived.Maps.Views
import Derived.Maps.OwnSet
/- Walks of names: tree.Name, IsName; tree.Cap, CapFine. -/
set_option linter.unusedVariables false
set_option maxRecDepth 100000
set_option maxHeartbeats 8000000
set_option linter.unusedSimpArgs false
set_option linter.unusedVariables false
namespace Go.Proofs.YtdcndkojmflhnaaGreat
open Go.RowKit
open List renaming getElem_toArray→zA,getElem_cons_zero→zB,getElem_cons_succ→zC,setIfInBounds_toArray→zD,set_cons_zero→zE,set_cons_succ→zF
def byteAt (s:ByteArray) (i:Nat):Nat:=(s.get! i).toNat
def Letter (n:Nat):Prop:=97≤n∧n≤122
instance (n:Nat):Decidable (Letter n):=inferInstanceAs (Decidable (_∧_))
def Letters (s:ByteArray):Prop:=∀ i,i < s.size→Letter (byteAt s i)
instance (s:ByteArray):Decidable (Letters s):=inferInstanceAs (Decidable (∀ i,i < s.size→_))
def NameOk (s:ByteArray):Prop:=(1≤s.size∧s.size≤8)∧Letters s
instance (s:ByteArray):Decidable (NameOk s):=inferInstanceAs (Decidable (_∧_))
theorem byteAt_get (s:ByteArray) (i:Nat) (h:i < s.size):byteAt s i=(s[i]'h).toNat:=by
 unfold byteAt
 rw [show s.get! i=s[i]'h from by have:=get_at s i h;simpa using this]
theorem name1_yes (x:Nat) (w:World) (h:Letter x):Calls Tryz.prog 161 #[.int .i32 x] w fun e w'=>e=.returned (.bool false)∧w'=w:=by
 have h1:=h.1
 have h2:=h.2
 have h3:¬ (x:Int) < 97:=by omega
 have h4:¬ (122:Int) < (x:Int):=by omega
 go_enter Tryz.func161,Tryz.ntmps161
 go_wp2
 go_ret
 exact ⟨rfl,rfl⟩
theorem name1_no (x:Nat) (w:World) (h:¬ Letter x):Calls Tryz.prog 161 #[.int .i32 x] w fun e w'=>e=.returned (.bool true)∧w'=w:=by
 by_cases h1:x < 97
 ·have h3:(x:Int) < 97:=by omega
  clear h
  go_enter Tryz.func161,Tryz.ntmps161
  go_wp2
  go_ret
  exact ⟨rfl,rfl⟩
 ·have h2:¬ x≤122:=fun h2=>h ⟨by omega,h2⟩
  have h3:¬ (x:Int) < 97:=by omega
  have h4:(122:Int) < (x:Int):=by omega
  clear h
  go_enter Tryz.func161,Tryz.ntmps161
  go_wp2
  go_ret
  exact ⟨rfl,rfl⟩
theorem iter_ext (w:World) (s:ByteArray) (pos:Nat):Ext w (w.iter s pos):=(Ext.rf w).al _
def LetterAt (s:ByteArray) (r:Int):Prop:=(Letters s∧r=-1)∨(¬ Letters s∧0≤r)
theorem indexFunc_name (w:World) (s:ByteArray) (hs:s.size≤9223372036854775807) :
  Calls Tryz.prog 198 #[.string s,.func (.func 161) #[] #[],.bool true] w fun e w'=>∃ r,e=.returned (.int .i64 r)∧LetterAt s r∧Ext w w':=by
 have heg:∀ (args:Array Value) (w:World),(callFunc 161 args).run Tryz.prog w=.ok (.enter 161 args) w:=enters_of Tryz.func161 (by kernel_rfl) rfl
 go_enter Tryz.func198,Tryz.ntmps198
 go_wp2_with fail
 go_loopw [] (fun wr=>∃ pos:Nat,wr=w.iter s pos∧pos≤s.size∧Hid (∀ i,i < pos→Letter (byteAt s i))) (fun wr=>s.size - wr.iterPos w.heap.size)
 case atStart=>exact ⟨0,rfl,by omega,fun i hi=>absurd hi (Nat.not_lt_zero _)⟩
 case round =>
  obtain ⟨pos,rfl,hpos,Hl⟩:=hrel
  by_cases hps:pos < s.size
  ·by_cases hlet:Letter (byteAt s pos)
   ·have h1:(s[pos]'hps).toNat < 128:=by have:=hlet.2;rw [byteAt_get s pos hps] at this;omega
    have hnx:∀ ty,(Instr.next (.pointer (some ⟨w.heap.size,0,none⟩)) true ty).run Tryz.prog (w.iter s pos)=.ok (.tuple #[.bool true,.int .i64 pos,.int .i32 (byteAt s pos)]) (w.iter s (pos+1)):=fun ty=>by
     rw [byteAt_get s pos hps];exact run_next_ascii w s pos ty hps h1
    have C:=hid (name1_yes (byteAt s pos) (w.iter s (pos+1)) hlet)
    have Hl2:=hid (show ∀ i,i < pos+1→Letter (byteAt s i) from fun i hi=>if e:i=pos then e▸hlet else Hl.out i (by omega))
    clear hlet h1 Hl
    generalize byteAt s pos=x at *
    go_wp2_with fail
    refine C.out.mono ?_
    rintro e w1 ⟨rfl,rfl⟩
    go_wp2_with fail
    go_roundw
    case rel=>exact ⟨pos+1,rfl,by omega,Hl2⟩
    case measure=>simp;omega
   ·obtain ⟨R,K,hR,hnl⟩:∃ R K,Utf8.decode s pos=(R,K)∧¬ Letter R:=by
     by_cases h1:(s[pos]'hps).toNat < 128
     ·exact ⟨_,_,decode_ascii s pos hps h1,by rw [← byteAt_get s pos hps];exact hlet⟩
     ·have:=decode_high s pos hps (by omega)
      exact ⟨(Utf8.decode s pos).1,(Utf8.decode s pos).2,rfl,fun h=>by have:=h.2;omega⟩
    have hnx:∀ ty,(Instr.next (.pointer (some ⟨w.heap.size,0,none⟩)) true ty).run Tryz.prog (w.iter s pos)=.ok (.tuple #[.bool true,.int .i64 pos,.int .i32 R]) (w.iter s (pos+K)):=fun ty=>by
     have:=run_next_any (P:=Tryz.prog) w s pos ty hps
     rw [hR] at this;exact this
    have C:=hid (name1_no R (w.iter s (pos+K)) hnl)
    have Hr:=hid (show LetterAt s pos from .inr ⟨fun h=>hlet (h pos hps),by omega⟩)
    clear hlet hnl hR
    go_wp2_with fail
    refine C.out.mono ?_
    rintro e w1 ⟨rfl,rfl⟩
    go_wp2_with fail
    go_ret
    exact ⟨_,rfl,Hr.out,iter_ext _ _ _⟩
  ·have hnx:∀ ty,(Instr.next (.pointer (some ⟨w.heap.size,0,none⟩)) true ty).run Tryz.prog (w.iter s pos)=.ok (.tuple #[.bool false]) (w.iter s pos):=fun ty=>run_next_end w s pos ty hps
   have Hr:=hid (show LetterAt s (-1) from .inl ⟨fun i hi=>Hl.out i (by omega),rfl⟩)
   go_wp2_with fail
   go_ret
   exact ⟨_,rfl,Hr.out,iter_ext _ _ _⟩
theorem IndexFunc_name (w:World) (s:ByteArray) (hs:s.size≤9223372036854775807) :
  Calls Tryz.prog 183 #[.string s,.func (.func 161) #[] #[]] w fun e w'=>∃ r,e=.returned (.int .i64 r)∧LetterAt s r∧Ext w w':=by
 have C:=hid (indexFunc_name w s hs)
 go_enter Tryz.func183,Tryz.ntmps183
 go_wp2_with fail
 refine C.out.mono ?_
 rintro e w1 ⟨r,rfl,hr,hx⟩
 have Hr:=hid hr
 clear hr
 go_wp2_with fail
 go_ret
 exact ⟨_,rfl,Hr.out,hx⟩
theorem ContainsFunc_name (w:World) (s:ByteArray) (hs:s.size≤9223372036854775807) :
  Calls Tryz.prog 160 #[.string s,.func (.func 161) #[] #[]] w fun e w'=>e=.returned (.bool (decide (¬ Letters s)))∧Ext w w':=by
 have C:=hid (IndexFunc_name w s hs)
 by_cases hl:Letters s
 ·have hd:=hid (deF (p:=¬ Letters s) (fun h=>h hl))
  go_enter Tryz.func160,Tryz.ntmps160
  go_wp2_with fail
  refine C.out.mono ?_
  rintro e w1 ⟨r,rfl,hr,hx⟩
  obtain rfl:r=-1:=by rcases hr with ⟨_,h⟩ | ⟨h,_⟩;exact h;exact absurd hl h
  clear hr hl
  go_wp2_with fail
  go_ret
  exact ⟨(congrArg (fun b=>Ending.returned (.bool b)) hd.out).symm,hx⟩
 ·have hd:=hid (deT (p:=¬ Letters s) hl)
  go_enter Tryz.func160,Tryz.ntmps160
  go_wp2_with fail
  refine C.out.mono ?_
  rintro e w1 ⟨r,rfl,hr,hx⟩
  have hr0:0≤r:=by rcases hr with ⟨h,_⟩ | ⟨_,h⟩;exact absurd h hl;exact h
  clear hr hl
  go_wp2_with fail
  go_ret
  exact ⟨(congrArg (fun b=>Ending.returned (.bool b)) hd.out).symm,hx⟩
theorem Name_any (w:World) (s:ByteArray) (hs:s.size≤9223372036854775807) :
  Calls Tryz.prog 113 #[.string s] w fun e w'=>e=.returned (.bool (decide (NameOk s)))∧Ext w w':=by
 have C:=hid (ContainsFunc_name w s hs)
 by_cases h1:0 < s.size
 ·have h1':(0:Int) < (s.size:Int):=by omega
  by_cases h2:s.size≤8
  ·have h2':(s.size:Int)≤8:=by omega
   by_cases hl:Letters s
   ·rw [deF (p:=¬ Letters s) (fun h=>h hl)] at C
    have hd:=hid (deT (p:=NameOk s) ⟨⟨h1,h2⟩,hl⟩)
    clear hl
    go_enter Tryz.func113,Tryz.ntmps113
    go_wp2_with fail
    refine C.out.mono ?_
    rintro e w1 ⟨rfl,hx⟩
    go_wp2_with fail
    go_ret
    exact ⟨(congrArg (fun b=>Ending.returned (.bool b)) hd.out).symm,hx⟩
   ·rw [deT (p:=¬ Letters s) hl] at C
    have hd:=hid (deF (p:=NameOk s) (fun h=>hl h.2))
    clear hl
    go_enter Tryz.func113,Tryz.ntmps113
    go_wp2_with fail
    refine C.out.mono ?_
    rintro e w1 ⟨rfl,hx⟩
    go_wp2_with fail
    go_ret
    exact ⟨(congrArg (fun b=>Ending.returned (.bool b)) hd.out).symm,hx⟩
  ·have h2':¬ (s.size:Int)≤8:=by omega
   have hd:=hid (deF (p:=NameOk s) (fun h=>h2 h.1.2))
   go_enter Tryz.func113,Tryz.ntmps113
   go_wp2_with fail
   go_ret
   exact ⟨(congrArg (fun b=>Ending.returned (.bool b)) hd.out).symm,Ext.rf _⟩
 ·have h1':¬ (0:Int) < (s.size:Int):=by omega
  have hd:=hid (deF (p:=NameOk s) (fun h=>h1 h.1.1))
  go_enter Tryz.func113,Tryz.ntmps113
  go_wp2_with fail
  go_ret
  exact ⟨(congrArg (fun b=>Ending.returned (.bool b)) hd.out).symm,Ext.rf _⟩
def CapNum (n:Int):Prop:=0≤n∧n≤50
instance (n:Int):Decidable (CapNum n):=inferInstanceAs (Decidable (_∧_))
def CapOk (f:List Run):Prop:=Fine f∧∀ r∈f,CapNum r.N
instance (f:List Run):Decidable (CapOk f):=inferInstanceAs (Decidable (_∧_))
theorem cap1 (x:Run) (w:World):Calls Tryz.prog 139 #[.agg #[.int .i64 x.At,.int .i64 x.N]] w fun e w'=>e=.returned (.bool (decide (¬ CapNum x.N)))∧Ext w w':=by
 by_cases h1:x.N < 0
 ·rw [deT (p:=¬ CapNum x.N) (fun h=>by have:=h.1;omega)]
  go_enter Tryz.func139,Tryz.ntmps139
  go_wp2_with fail
  go_ret
  exact ⟨rfl,(Ext.rf _).al _⟩
 ·by_cases h2:50 < x.N
  ·rw [deT (p:=¬ CapNum x.N) (fun h=>by have:=h.2;omega)]
   go_enter Tryz.func139,Tryz.ntmps139
   go_wp2_with fail
   go_ret
   exact ⟨rfl,(Ext.rf _).al _⟩
  ·rw [deF (p:=¬ CapNum x.N) (fun h=>h ⟨by omega,by omega⟩)]
   go_enter Tryz.func139,Tryz.ntmps139
   go_wp2_with fail
   go_ret
   exact ⟨rfl,(Ext.rf _).al _⟩
theorem Cap_any (w:World) (v:Value) (f:List Run) (hv:RunsV w v f) :
  Calls Tryz.prog 82 #[v] w fun e w'=>e=.returned (.bool (decide (CapOk f)))∧Ext w w':=by
 have C:=hid (Check_any w v f hv)
 by_cases hf:Fine f
 ·have P:=hid (fun (W:World) (h:Ext w W)=>ContainsFunc_Run W v f 139 #[] (fun x=>decide (¬ CapNum x.N)) (hv.mono h) (enters_of Tryz.func139 (by kernel_rfl) rfl) (fun k x _ W' _=>cap1 x W'))
  have Hc:=hid (chk_yes hf)
  have hq:∃ c,f.any (fun x=>decide (¬ CapNum x.N))=c∧decide (CapOk f)=!c:=by
   refine ⟨_,rfl,?_⟩
   by_cases hc:∀ r∈f,CapNum r.N
   ·rw [deT (p:=CapOk f) ⟨hf,hc⟩]
    have:f.any (fun x=>decide (¬ CapNum x.N))=false:=List.any_eq_false.2 (fun r hr=>by simpa using hc r hr)
    rw [this];rfl
   ·rw [deF (p:=CapOk f) (fun h=>hc h.2)]
    have:f.any (fun x=>decide (¬ CapNum x.N))=true:=by
     rw [List.any_eq_true]
     apply Classical.byContradiction
     intro hn
     exact hc (fun r hr=>Classical.byContradiction fun h=>hn ⟨r,hr,by simpa using h⟩)
    rw [this];rfl
  obtain ⟨c,hc,hd⟩:=hq
  rw [hc] at P
  rw [hd]
  clear hc hd hf hv
  go_enter Tryz.func82,Tryz.ntmps82
  go_wp2_with fail
  refine C.out.mono ?_
  rintro e w1 ⟨rfl,hx1⟩
  rw [Hc.out]
  go_wp2_with fail
  refine (P.out _ hx1).mono ?_
  rintro e w2 ⟨rfl,hx2⟩
  go_wp2_with fail
  go_ret
  exact ⟨rfl,hx1.tr hx2⟩
 ·have Hc:=hid (chk_no hf)
  rw [deF (p:=CapOk f) (fun h=>hf h.1)]
  clear hf hv
  go_enter Tryz.func82,Tryz.ntmps82
  go_wp2_with fail
  refine C.out.mono ?_
  rintro e w1 ⟨rfl,hx1⟩
  rw [Hc.out]
  go_wp2_with fail
  go_ret
  exact ⟨rfl,hx1⟩
def FoundQ (n:Nat) (p:Nat→Bool) (I:Nat→World→Prop) (r:Int) (w':World):Prop :=
 (r=-1∧(∀ k,k < n→p k=false)∧I n w')∨(0≤r∧(∃ k,k < n∧p k=true)∧∃ k,I k w')
theorem getQ {l:List Queue} {k:Nat} (h:k < l.length):∃ x,l[k]?=some x:=⟨_,List.getElem?_eq_getElem h⟩
theorem IndexFunc_Queue (w0 w:World) (b off cap:Nat) (l:List Queue) (G:Nat) (lb:Array Value) (p:Nat→Bool) (I:Nat→World→Prop) (hl:l.length≤17592186044416) (hb:b < w0.heap.size)
  (hE:∀ k x,l[k]?=some x→EQueue w0 b (off+k*3) x)
  (heg:∀ (args:Array Value) (w:World),(callFunc G args).run Tryz.prog w=.ok (.enter G args) w)
  (hI0:I 0 w) (hIx:∀ k W,I k W→Ext w0 W)
  (hp:∀ (k:Nat) (x:Queue),l[k]?=some x→∀ W v,I k W→RunsV W v x.Cap→Calls Tryz.prog G (#[.agg #[.string x.Name,.int .i64 x.Parent,v]]++lb) W fun e w'=>e=.returned (.bool (p k))∧I (k+1) w') :
  Calls Tryz.prog 159 #[.slice (some ⟨b,off,none⟩) l.length cap,.func (.func G) #[] lb] w fun e w'=>∃ r,e=.returned (.int .i64 r)∧FoundQ l.length p I r w':=by
 have HE:=hid hE
 have Hp:=hid hp
 have HIx:=hid hIx
 have HI0:=hid hI0
 clear hE hp hIx hI0
 generalize hn:l.length=n at *
 have Hn:=hid hn
 clear hn
 go_enter Tryz.func159,Tryz.ntmps159
 go_wp2_with fail
 go_loopw [8] (fun i wr=>∃ k:Nat,k≤n∧i=.int .i64 k∧Hid (∀ j,j < k→p j=false)∧Hid (I k wr)) (fun i _=>n - (intOf i).toNat)
 case atStart=>exact ⟨0,Nat.zero_le _,rfl,fun j hj=>absurd hj (Nat.not_lt_zero _),HI0⟩
 case round =>
  obtain ⟨k,hk,rfl,Hall,HI⟩:=hrel
  have hx:=HIx.out k wr HI.out
  have hbw:b < wr.heap.size:=Nat.lt_of_lt_of_le hb hx.size
  by_cases hlt:k < n
  ·obtain ⟨x,hxk⟩:=getQ (l:=l) (k:=k) (by rw [Hn.out];exact hlt)
   obtain ⟨c1,c2,c3,c4,v,c5,hv⟩:=EQueue.mono w0 wr b _ x hx (HE.out k x hxk)
   have Hc:=hid (Hp.out k x hxk wr v HI.out hv)
   obtain ⟨va,vc,rfl,_⟩:=hv.form
   clear hv hxk
   generalize x.Cap.length=vn at *
   cases hpx:p k with
   | true =>
    rw [hpx] at Hc
    have Hr:=hid (show ∃ k,k < n∧p k=true from ⟨k,hlt,hpx⟩)
    clear hpx
    go_wp2_with fail
    refine Hc.out.mono ?_
    rintro e w1 ⟨rfl,hI⟩
    have HI2:=hid hI
    clear hI
    go_wp2_with fail
    go_ret
    exact ⟨_,rfl,.inr ⟨by omega,Hr.out,_,HI2.out⟩⟩
   | false =>
    rw [hpx] at Hc
    have Hr:=hid (show ∀ j,j < k+1→p j=false from fun j hj=>if e:j=k then e▸hpx else Hall.out j (by omega))
    clear hpx
    go_wp2_with fail
    refine Hc.out.mono ?_
    rintro e w1 ⟨rfl,hI⟩
    have HI2:=hid hI
    clear hI
    go_wp2_with fail
    go_roundw
    case rel=>exact ⟨k+1,by omega,by go_num,Hr,HI2⟩
    case measure=>simp [intOf];omega
  ·obtain rfl:k=n:=by omega
   go_wp2_with fail
   go_ret
   exact ⟨_,rfl,.inl ⟨rfl,Hall.out,HI.out⟩⟩
def HasQ (n:Nat) (p:Nat→Bool) (I:Nat→World→Prop) (c:Bool) (w':World):Prop :=
 (c=false∧(∀ k,k < n→p k=false)∧I n w')∨(c=true∧(∃ k,k < n∧p k=true)∧∃ k,I k w')
theorem ContainsFunc_Queue (w0 w:World) (b off cap:Nat) (l:List Queue) (G:Nat) (lb:Array Value) (p:Nat→Bool) (I:Nat→World→Prop) (hl:l.length≤17592186044416) (hb:b < w0.heap.size)
  (hE:∀ k x,l[k]?=some x→EQueue w0 b (off+k*3) x)
  (heg:∀ (args:Array Value) (w:World),(callFunc G args).run Tryz.prog w=.ok (.enter G args) w)
  (hI0:I 0 w) (hIx:∀ k W,I k W→Ext w0 W)
  (hp:∀ (k:Nat) (x:Queue),l[k]?=some x→∀ W v,I k W→RunsV W v x.Cap→Calls Tryz.prog G (#[.agg #[.string x.Name,.int .i64 x.Parent,v]]++lb) W fun e w'=>e=.returned (.bool (p k))∧I (k+1) w') :
  Calls Tryz.prog 111 #[.slice (some ⟨b,off,none⟩) l.length cap,.func (.func G) #[] lb] w fun e w'=>∃ c,e=.returned (.bool c)∧HasQ l.length p I c w':=by
 have C:=hid (IndexFunc_Queue w0 w b off cap l G lb p I hl hb hE heg hI0 hIx hp)
 clear hE hp hIx hI0
 generalize l.length=n at *
 go_enter Tryz.func111,Tryz.ntmps111
 go_wp2_with fail
 refine C.out.mono ?_
 rintro e w1 ⟨r,rfl,hr⟩
 rcases hr with ⟨rfl,h1,h2⟩ | ⟨h0,h1,h2⟩
 ·have H:=hid (show HasQ n p I false w1 from .inl ⟨rfl,h1,h2⟩)
  clear h1 h2
  go_wp2_with fail
  go_ret
  exact ⟨_,rfl,H.out⟩
 ·have H:=hid (show HasQ n p I true w1 from .inr ⟨rfl,h1,h2⟩)
  clear h1 h2
  go_wp2_with fail
  go_ret
  exact ⟨_,rfl,H.out⟩
theorem check2 (W:World) (s:ByteArray) (p:Int) (a:Option Addr) (n cap:Nat) (hs:s.size≤9223372036854775807) :
  Calls Tryz.prog 112 #[.agg #[.string s,.int .i64 p,.slice a n cap]] W fun e w'=>e=.returned (.bool (decide (¬ NameOk s)))∧Ext W w':=by
 have C:=hid (fun (W:World)=>Name_any W s hs)
 obtain ⟨c,h1,h2⟩:∃ c,decide (NameOk s)=c∧decide (¬ NameOk s)=!c:=⟨_,rfl,by simp⟩
 rw [h1] at C
 rw [h2]
 clear h1 h2
 go_enter Tryz.func112,Tryz.ntmps112
 go_wp2_with fail
 refine (C.out _).mono ?_
 rintro e w1 ⟨rfl,hx⟩
 go_wp2_with fail
 go_ret
 exact ⟨rfl,((Ext.rf _).al _).tr hx⟩
theorem check5 (W:World) (s:ByteArray) (p:Int) (v:Value) (f:List Run) (hv:RunsV W v f) :
  Calls Tryz.prog 116 #[.agg #[.string s,.int .i64 p,v]] W fun e w'=>e=.returned (.bool (decide (¬ CapOk f)))∧Ext W w':=by
 have C:=hid (fun (W':World) (h:Ext W W')=>Cap_any W' v f (hv.mono h))
 obtain ⟨c,h1,h2⟩:∃ c,decide (CapOk f)=c∧decide (¬ CapOk f)=!c:=⟨_,rfl,by simp⟩
 rw [h1] at C
 rw [h2]
 obtain ⟨a,cap,rfl,_⟩:=hv.form
 clear h1 h2 hv
 generalize f.length=n at *
 go_enter Tryz.func116,Tryz.ntmps116
 go_wp2_with fail
 refine (C.out _ ((Ext.rf _).al _)).mono ?_
 rintro e w1 ⟨rfl,hx⟩
 go_wp2_with fail
 go_ret
 exact ⟨rfl,((Ext.rf _).al _).tr hx⟩
def ParOk (p:Int) (k:Nat):Prop:=-1≤p∧p < (k:Int)
instance (p:Int) (k:Nat):Decidable (ParOk p k):=inferInstanceAs (Decidable (_∧_))
def NumAt (c:Nat) (n:Int) (W:World):Prop:=W.heap[c]?=some (.cells #[.int .i64 n] 3 (0,0))
theorem NumAt.ext {c:Nat} {n:Int} {w w':World} (h:NumAt c n w) (hx:Ext w w'):NumAt c n w':=by
 unfold NumAt
 rw [hx.block c (Array.getElem?_eq_some_iff.1 h).1];exact h
theorem NumAt.set {c:Nat} {n:Int} {w:World} (h:NumAt c n w) (m:Int):NumAt c m (w.setCell ⟨c,0,none⟩ (.int .i64 m)):=by
 unfold NumAt
 rw [heap_setCell_same w c 0 _ _ _ h];rfl
theorem NumAt.cell {c:Nat} {n:Int} {w:World} (h:NumAt c n w):w.cell? ⟨c,0,none⟩=some (.int .i64 n):=by rw [cell_of_row _ _ _ _ _ _ h];rfl
theorem NumAt.lt {c:Nat} {n:Int} {w:World} (h:NumAt c n w):c < w.heap.size:=(Array.getElem?_eq_some_iff.1 h).1
theorem check4 (w0 W:World) (s:ByteArray) (p:Int) (a:Option Addr) (n cap:Nat) (c k:Nat) (hk:k≤17592186044416) (hc:w0.heap.size≤c) (hx:Ext w0 W) (hn:NumAt c ((k:Int) - 1) W) :
  Calls Tryz.prog 115 #[.agg #[.string s,.int .i64 p,.slice a n cap],.pointer (some ⟨c,0,none⟩)] W fun e w'=>e=.returned (.bool (!decide (ParOk p k)))∧Ext w0 w'∧NumAt c (k:Int) w'∧(∀ j o,j≠c→W.heap[j]?=some o→w'.heap[j]?=some o):=by
 have hcl:=hn.cell
 have hfr:=frozen_of_row W c 0 _ _ hn
 have hcw:=hn.lt
 have Hend:=hid (fun (o:Obj)=>show NumAt c (k:Int) ((W.setCell ⟨c,0,none⟩ (.int .i64 (k:Int))).alloc o) from (hn.set _).ext ((Ext.rf _).al o))
 have Hold:=hid (fun (b:Obj)=>show ∀ j o,j≠c→W.heap[j]?=some o→((W.setCell ⟨c,0,none⟩ (.int .i64 (k:Int))).alloc b).heap[j]?=some o from fun j o hj ho=>by
  have h1:(W.setCell ⟨c,0,none⟩ (.int .i64 (k:Int))).heap[j]?=some o:=by rw [heap_setCell_other W ⟨c,0,none⟩ j _ hj];exact ho
  rw [((Ext.rf _).al b).block j (Array.getElem?_eq_some_iff.1 h1).1];exact h1)
 have Hx:=hid (fun (o:Obj)=>(hx.se (o:=0) hc (.int .i64 (k:Int))).al o)
 clear hn
 by_cases h1:p < -1
 ·have hd:=hid (deF (p:=ParOk p k) (fun h=>by have:=h.1;omega))
  go_enter Tryz.func115,Tryz.ntmps115
  go_wp2_with fail
  go_ret
  exact ⟨(congrArg (fun b=>Ending.returned (.bool (!b))) hd.out).symm,Hx.out _,Hend.out _,Hold.out _⟩
 ·by_cases h2:(k:Int)≤p
  ·have h2':(k:Int) - 1+1≤p:=by omega
   have hd:=hid (deF (p:=ParOk p k) (fun h=>by have:=h.2;omega))
   go_enter Tryz.func115,Tryz.ntmps115
   go_wp2_with fail
   go_ret
   exact ⟨(congrArg (fun b=>Ending.returned (.bool (!b))) hd.out).symm,Hx.out _,Hend.out _,Hold.out _⟩
  ·have h2':¬ (k:Int) - 1+1≤p:=by omega
   have hd:=hid (deT (p:=ParOk p k) ⟨by omega,by omega⟩)
   go_enter Tryz.func115,Tryz.ntmps115
   go_wp2_with fail
   go_ret
   exact ⟨(congrArg (fun b=>Ending.returned (.bool (!b))) hd.out).symm,Hx.out _,Hend.out _,Hold.out _⟩
open Go.RowKit Go.Maps Go.WideMaps
theorem lawS:Keyed Tryz.prog 9:=string_keyed Tryz.underlying9
theorem zeroI (w:World):(zeroValue 3).run Tryz.prog w=.ok (.int .i64 0) w:=by kernel_rfl
def CountAt (bm k:Nat) (cnt:ByteArray→Nat) (W:World):Prop :=
 ∃ D:DataW Nat,W.ownsMap Tryz.prog 9 (plainElem Tryz.prog 3) bm k D∧∀ s:ByteArray,D.atKey (.string s.data.toList) (.lit (.int .i64 0))=.lit (.int .i64 (cnt s))
def plus (cnt:ByteArray→Nat) (s:ByteArray):ByteArray→Nat:=fun t=>if t=s then cnt t+1 else cnt t
theorem old_after {W w1:World} {cm bm:Nat} {o b:Obj} (hm:W.heap[cm]?=some b) (hg:(W.alloc o).grownBy w1 (some bm)) (hne:cm≠bm):w1.heap[cm]?=some b:=by
 have hlt:=(Array.getElem?_eq_some_iff.1 hm).1
 have h1:=((Ext.rf W).al o).block cm hlt
 rw [hg.block cm (by have:=((Ext.rf W).al o).size;omega) (fun e=>hne (Option.some.inj e)),h1];exact hm
theorem new_after {W w1:World} {bm:Nat} {o:Obj} (hg:(W.alloc o).grownBy w1 (some bm)) (hbm:bm < W.heap.size):w1.heap[W.heap.size]?=some o:=by
 have h1:=heap_alloc_new W o
 rw [hg.block _ (Array.getElem?_eq_some_iff.1 h1).1 (fun e=>by have:=Option.some.inj e;omega)];exact h1
theorem check3 (w0 W:World) (s:ByteArray) (p:Int) (a:Option Addr) (n cap:Nat) (cm bm k:Nat) (cnt:ByteArray→Nat) (hs:s.size≤9223372036854775807) (hk:k≤17592186044416) (hcnt:cnt s≤k) (hbm:w0.heap.size≤bm) (hcm:w0.heap.size≤cm) (hne:cm≠bm) (hx:Ext w0 W)
  (hm:W.heap[cm]?=some (.cells #[.map (some bm)] 160 (0,0))) (hC:CountAt bm k cnt W) :
  Calls Tryz.prog 114 #[.agg #[.string s,.int .i64 p,.slice a n cap],.pointer (some ⟨cm,0,none⟩)] W fun e w'=>e=.returned (.bool (decide (0 < cnt s)))∧Ext w0 w' ∧
   w'.heap[cm]?=some (.cells #[.map (some bm)] 160 (0,0))∧CountAt bm (k+1) (plus cnt s) w'∧(∀ j o,j≠bm→W.heap[j]?=some o→w'.heap[j]?=some o):=by
 obtain ⟨D,hown,hat⟩:=hC
 have hcl:W.cell? ⟨cm,0,none⟩=some (.map (some bm)):=by rw [cell_of_row _ _ _ _ _ _ hm];rfl
 have hkey:keyOf Tryz.prog 9 (.string s)=some (.string s.data.toList):=keyOf_string_mk Tryz.underlying9 (by unfold maxLen;omega)
 have Hk:=hid hkey
 have Hown:=hid hown
 clear hkey hown
 have hcw:=(Array.getElem?_eq_some_iff.1 hm).1
 go_enter Tryz.func114,Tryz.ntmps114
 have hcI:(cnt s:Int)+1≤17592186044417:=by omega
 have Hwf:=hid (show (Lit.int .i64 ((cnt s:Int)+1)).wf=true from WalkArith.wf_i64 ⟨by omega,by omega⟩)
 have hbW:bm < W.heap.size:=Hown.out.lt
 have Hat:=hid hat
 have Hm:=hid hm
 clear hat hm
 go_wp2_with (first
  | (at_lookup;refine wpList_lookup_own_int _ rfl _ _ 160 rfl 9 3 .i64 lawS Tryz.underlying160 Tryz.underlying3 (zeroI _) bm k _ rfl (Hown.out.alloc _) _ _ rfl Hk.out ?_;intro c hc hwc;(obtain rfl:c=(cnt s:Int):=by have:=hc.symm.trans (Hat.out s);simpa using this);clear hc hwc)
  | (at_mapUpdate;go_loud (refine wpList_mapUpdate_own _ rfl _ _ _ 160 rfl 9 3 lawS Tryz.underlying160 _ bm k _ rfl (Hown.out.alloc _) (by unfold maxLen;omega) _ _ _ rfl rfl Hk.out _ [] (plainElem_int Tryz.underlying3 Hwf.out) ?_);intro w1 hown1 hgrow1;have Hown1:=hid hown1;have Hgr:=hid hgrow1;have hm1:=old_after Hm.out hgrow1 hne;have hb1:=new_after hgrow1 hbW;have hcl1:=cell_of_row w1 cm 0 _ _ _ hm1;have hcl2:=cell_of_row w1 W.heap.size 0 _ _ _ hb1;have Hm1:=hid hm1;clear hown1 hgrow1 hm1 hb1)
  | (at_lookup;refine wpList_lookup_own_int _ rfl _ _ 160 rfl 9 3 .i64 lawS Tryz.underlying160 Tryz.underlying3 (zeroI _) bm (k+1) _ rfl Hown1.out _ _ rfl Hk.out ?_;intro c hc hwc;(obtain rfl:c=(cnt s:Int)+1:=by have:=hc.symm.trans (atKey_put_same Hown.out.isMap (by simp [WideAt.IsKeyLit]) _ _);simpa using this);clear hc hwc))
 go_ret
 refine ⟨ret_bool (decide_eq_decide.2 (by omega)),Below.grown (hx.al _) Hgr.out (hx.al _).size (fun j hj=>by cases hj;exact hbm),Hm1.out,⟨_,Hown1.out,fun t=>?_⟩,fun j o hj ho=>old_after ho Hgr.out hj⟩
 unfold plus
 by_cases e:t=s
 ·subst e
  rw [if_pos rfl,atKey_put_same Hown.out.isMap (by simp [WideAt.IsKeyLit])]
  simp
 ·rw [if_neg e,atKey_put_other (fun h=>e (by
   have h1:t.data.toList=s.data.toList:=by simpa using h
   cases t;cases s;simp at h1;simp [h1]))]
  exact Hat.out t
theorem Check1_any (w0 w:World) (b off cap bl:Nat) (l:List Queue) (G:Nat) (lb:Array Value) (p:Nat→Bool) (I:Nat→World→Prop) (hl:l.length≤17592186044416) (hb:b < w0.heap.size)
  (hE:∀ k x,l[k]?=some x→EQueue w0 b (off+k*3) x)
  (heg:∀ (args:Array Value) (w:World),(callFunc G args).run Tryz.prog w=.ok (.enter G args) w)
  (hbl:w.cell? ⟨bl,0,none⟩=some (.slice (some ⟨b,off,none⟩) l.length cap))
  (hI0:I 0 w) (hIx:∀ k W,I k W→Ext w0 W)
  (hp:∀ (k:Nat) (x:Queue),l[k]?=some x→∀ W v,I k W→RunsV W v x.Cap→Calls Tryz.prog G (#[.agg #[.string x.Name,.int .i64 x.Parent,v]]++lb) W fun e w'=>e=.returned (.bool (p k))∧I (k+1) w') :
  Calls Tryz.prog 110 #[.func (.func G) #[] lb,.pointer (some ⟨bl,0,none⟩)] w fun e w'=>∃ c,e=.returned (.bool c)∧HasQ l.length p I c w':=by
 have C:=hid (ContainsFunc_Queue w0 w b off cap l G lb p I hl hb hE heg hI0 hIx hp)
 clear hE hp hIx hI0
 generalize l.length=n at *
 go_enter Tryz.func110,Tryz.ntmps110
 go_wp2_with fail
 refine C.out.mono ?_
 rintro e w1 ⟨c,rfl,hc⟩
 have Hc:=hid hc
 clear hc
 go_wp2_with fail
 go_ret
 exact ⟨_,rfl,Hc.out⟩
def nm (l:List Queue) (k:Nat):ByteArray:=(l.getD k default).Name
def par (l:List Queue) (k:Nat):Int:=(l.getD k default).Parent
def cp (l:List Queue) (k:Nat):List Run:=(l.getD k default).Cap
def cntQ (l:List Queue):Nat→ByteArray→Nat
 | 0,_=>0
 | k+1,s=>plus (cntQ l k) (nm l k) s
theorem cntQ_le (l:List Queue) (s:ByteArray):∀ k,cntQ l k s≤k
 | 0=>Nat.le_refl _
 | k+1=>by
  have:=cntQ_le l s k
  simp only [cntQ,plus];split <;> omega
theorem cntQ_pos (l:List Queue) (s:ByteArray):∀ k,0 < cntQ l k s↔∃ j,j < k∧nm l j=s
 | 0=>by simp [cntQ]
 | k+1=>by
  have ih:=cntQ_pos l s k
  simp only [cntQ,plus]
  constructor
  ·intro h
   by_cases e:s=nm l k
   ·exact ⟨k,by omega,e.symm⟩
   ·rw [if_neg e] at h
    obtain ⟨j,h1,h2⟩:=ih.1 h
    exact ⟨j,by omega,h2⟩
  ·rintro ⟨j,h1,h2⟩
   by_cases e:s=nm l k
   ·rw [if_pos e];omega
   ·rw [if_neg e]
    exact ih.2 ⟨j,by
     rcases Nat.lt_succ_iff_lt_or_eq.1 h1 with h | h
     ·exact h
     ·subst h;exact absurd h2.symm e,h2⟩
theorem at_some {l:List Queue} {k:Nat} {x:Queue} (h:l[k]?=some x):nm l k=x.Name∧par l k=x.Parent∧cp l k=x.Cap:=by
 have e:l.getD k default=x:=by simp [List.getD_eq_getElem?_getD,h]
 exact ⟨by unfold nm;rw [e],by unfold par;rw [e],by unfold cp;rw [e]⟩
def p2 (l:List Queue) (k:Nat):Bool:=decide (¬ NameOk (nm l k))
def p3 (l:List Queue) (k:Nat):Bool:=decide (0 < cntQ l k (nm l k))
def p4 (l:List Queue) (k:Nat):Bool:=!decide (ParOk (par l k) k)
def p5 (l:List Queue) (k:Nat):Bool:=decide (¬ CapOk (cp l k))
@[irreducible] def checkT (l:List Queue):Int :=
 if ¬ (1≤l.length∧l.length≤5) then 2
 else if (List.range l.length).any (p2 l) then 4
 else if (List.range l.length).any (p3 l) then 5
 else if (List.range l.length).any (p4 l) then 3
 else if (List.range l.length).any (p5 l) then 1
 else 0
theorem any_of {n:Nat} {p:Nat→Bool} (h:∃ k,k < n∧p k=true):(List.range n).any p=true:=by
 obtain ⟨k,h1,h2⟩:=h
 exact List.any_eq_true.2 ⟨k,List.mem_range.2 h1,h2⟩
theorem any_not {n:Nat} {p:Nat→Bool} (h:∀ k,k < n→p k=false):(List.range n).any p=false :=
 List.any_eq_false.2 (fun k hk=>by rw [h k (List.mem_range.1 hk)];decide)
theorem hasQ_any {n:Nat} {p:Nat→Bool} {I:Nat→World→Prop} {c:Bool} {w:World} (h:HasQ n p I c w):c=(List.range n).any p∧∃ k,I k w:=by
 rcases h with ⟨rfl,h1,h2⟩ | ⟨rfl,h1,h2⟩
 ·exact ⟨(any_not h1).symm,_,h2⟩
 ·exact ⟨(any_of h1).symm,h2⟩
theorem four_new (w:World) (o1 o2 o3 o4:Obj) :
  (((((w.alloc o1).alloc o2).alloc o3).alloc o4).heap[w.heap.size]?=some o1)∧(((((w.alloc o1).alloc o2).alloc o3).alloc o4).heap[w.heap.size+1]?=some o2) ∧
  (((((w.alloc o1).alloc o2).alloc o3).alloc o4).heap[w.heap.size+1+1]?=some o3)∧(((((w.alloc o1).alloc o2).alloc o3).alloc o4).heap[w.heap.size+1+1+1]?=some o4)∧Ext w ((((w.alloc o1).alloc o2).alloc o3).alloc o4):=by
 have s1:(w.alloc o1).heap.size=w.heap.size+1:=by simp
 have s2:((w.alloc o1).alloc o2).heap.size=w.heap.size+1+1:=by simp
 have s3:(((w.alloc o1).alloc o2).alloc o3).heap.size=w.heap.size+1+1+1:=by simp
 have a1:=heap_alloc_new w o1
 have a2:=heap_alloc_new (w.alloc o1) o2
 have a3:=heap_alloc_new ((w.alloc o1).alloc o2) o3
 have a4:=heap_alloc_new (((w.alloc o1).alloc o2).alloc o3) o4
 rw [s1] at a2
 rw [s2] at a3
 rw [s3] at a4
 have keep:∀ (W:World) (o b:Obj) (j:Nat),W.heap[j]?=some b→(W.alloc o).heap[j]?=some b:=fun W o b j h=>by
  rw [((Ext.rf W).al o).block j (Array.getElem?_eq_some_iff.1 h).1];exact h
 exact ⟨keep _ _ _ _ (keep _ _ _ _ (keep _ _ _ _ a1)),keep _ _ _ _ (keep _ _ _ _ a2),keep _ _ _ _ a3,a4,((((Ext.rf w).al o1).al o2).al o3).al o4⟩
def Seen (w:World) (l:List Queue) (B bm cm cn:Nat) (ob:Obj) (k:Nat) (W:World):Prop :=
 Ext w W∧W.heap[cm]?=some (.cells #[.map (some bm)] 160 (0,0))∧CountAt bm k (cntQ l k) W∧W.heap[B]?=some ob∧NumAt cn (-1) W
def Counted (w:World) (B cn:Nat) (ob:Obj) (k:Nat) (W:World):Prop:=Ext w W∧NumAt cn ((k:Int) - 1) W∧W.heap[B]?=some ob
theorem countAt_zero {bm:Nat} {W:World} (h:W.heap[bm]?=some (.map #[] 0)) (l:List Queue):CountAt bm 0 (cntQ l 0) W:=by
 obtain ⟨es,clock,h1,h2⟩:=World.ownsMap_made (H:=Nat) W Tryz.prog 9 (plainElem Tryz.prog 3)
 rw [heap_alloc_new] at h1
 have h3:=Option.some.inj h1
 simp only [Obj.map.injEq] at h3
 obtain ⟨rfl,rfl⟩:=h3
 exact ⟨_,⟨#[],0,h,h2⟩,fun s=>rfl⟩
theorem treeCheck_some (w:World) (b off cap:Nat) (l:List Queue) (h1:l.length≤cap) (hl:l.length≤5) (h0:1≤l.length) (hb:b < w.heap.size) (hE:∀ k x,l[k]?=some x→EQueue w b (off+k*3) x) :
  Calls Tryz.prog 63 #[.slice (some ⟨b,off,none⟩) l.length cap] w fun e w'=>e=.returned (.int .i64 (checkT l))∧Ext w w':=by
 have hn1:¬ (l.length:Int) < 1:=by omega
 have hn2:¬ (5:Int) < (l.length:Int):=by omega
 have hmm:=@run_makeMap Tryz.prog
 obtain ⟨n1,n2,n3,n4,hx4⟩:=four_new w (.cells #[.slice (some ⟨b,off,none⟩) l.length cap] 22) (.map #[] 0) (.cells #[.map (some (w.heap.size+1))] 160) (.cells #[.int .i64 (-1)] 3)
 have N1:=hid n1
 have N2:=hid n2
 have N3:=hid n3
 have N4:=hid n4
 have X4:=hid hx4
 have c1:=cell_of_row _ _ 0 _ _ _ n1
 have T2:=hid (fun (W:World) (hx:Ext w W) (hc:W.cell? ⟨w.heap.size,0,none⟩=some (.slice (some ⟨b,off,none⟩) l.length cap)) =>
  Check1_any w W b off cap w.heap.size l 112 #[] (p2 l) (fun _ W'=>Ext W W') (by omega) hb hE (enters_of Tryz.func112 (by kernel_rfl) rfl) hc (Ext.rf _) (fun _ _ h=>hx.tr h)
   (fun k x hk W' v hW hv=>by
    obtain ⟨_,q2,_⟩:=hE k x hk
    obtain ⟨e1,e2,e3⟩:=at_some hk
    obtain ⟨a,c,rfl,_⟩:=hv.form
    exact (check2 W' x.Name x.Parent a _ c q2).mono fun e w' ⟨he,hx'⟩=>⟨by rw [he];unfold p2;rw [e1],hW.tr hx'⟩))
 have T5:=hid (fun (W:World) (hx:Ext w W) (hc:W.cell? ⟨w.heap.size,0,none⟩=some (.slice (some ⟨b,off,none⟩) l.length cap)) =>
  Check1_any w W b off cap w.heap.size l 116 #[] (p5 l) (fun _ W'=>Ext W W') (by omega) hb hE (enters_of Tryz.func116 (by kernel_rfl) rfl) hc (Ext.rf _) (fun _ _ h=>hx.tr h)
   (fun k x hk W' v hW hv=>by
    obtain ⟨e1,e2,e3⟩:=at_some hk
    exact (check5 W' x.Name x.Parent v x.Cap hv).mono fun e w' ⟨he,hx'⟩=>⟨by rw [he];unfold p5;rw [e3],hW.tr hx'⟩))
 have T4:=hid (fun (W:World) (hx:Ext w W) (hc:W.heap[w.heap.size]?=some (.cells #[.slice (some ⟨b,off,none⟩) l.length cap] 22 (0,0))) (hn:NumAt (w.heap.size+1+1+1) (-1) W) =>
  Check1_any w W b off cap w.heap.size l 115 #[.pointer (some ⟨w.heap.size+1+1+1,0,none⟩)] (p4 l) (Counted w w.heap.size (w.heap.size+1+1+1) (.cells #[.slice (some ⟨b,off,none⟩) l.length cap] 22 (0,0))) (by omega) hb hE (enters_of Tryz.func115 (by kernel_rfl) rfl) (by rw [cell_of_row _ _ _ _ _ _ hc];rfl) ⟨hx,hn,hc⟩ (fun _ _ h=>h.1)
   (fun k x hk W' v hW hv=>by
    obtain ⟨e1,e2,e3⟩:=at_some hk
    obtain ⟨a,c,rfl,_⟩:=hv.form
    exact (check4 w W' x.Name x.Parent a _ c (w.heap.size+1+1+1) k (by have:=(List.getElem?_eq_some_iff.1 hk).1;omega) (by omega) hW.1 hW.2.1).mono fun e w' ⟨he,hx',hn',ho⟩ =>
     ⟨by rw [he];unfold p4;rw [e2],hx',by rw [show (((k+1:Nat):Int) - 1)=(k:Int) by omega];exact hn',ho _ _ (by omega) hW.2.2⟩))
 have T3:=hid (fun (W:World) (hx:Ext ((((w.alloc (.cells #[.slice (some ⟨b,off,none⟩) l.length cap] 22)).alloc (.map #[] 0)).alloc (.cells #[.map (some (w.heap.size+1))] 160)).alloc (.cells #[.int .i64 (-1)] 3)) W) (hC:CountAt (w.heap.size+1) 0 (cntQ l 0) W) =>
  have keep:∀ (j:Nat) (o:Obj),_→W.heap[j]?=some o:=fun j o (h:((((w.alloc (.cells #[.slice (some ⟨b,off,none⟩) l.length cap] 22)).alloc (.map #[] 0)).alloc (.cells #[.map (some (w.heap.size+1))] 160)).alloc (.cells #[.int .i64 (-1)] 3)).heap[j]?=some o)=>by
   rw [hx.block j (Array.getElem?_eq_some_iff.1 h).1];exact h
  Check1_any w W b off cap w.heap.size l 114 #[.pointer (some ⟨w.heap.size+1+1,0,none⟩)] (p3 l) (Seen w l w.heap.size (w.heap.size+1) (w.heap.size+1+1) (w.heap.size+1+1+1) (.cells #[.slice (some ⟨b,off,none⟩) l.length cap] 22 (0,0))) (by omega) hb hE (enters_of Tryz.func114 (by kernel_rfl) rfl) (by rw [cell_of_row _ _ _ _ _ _ (keep _ _ n1)];rfl)
   ⟨hx4.tr hx,keep _ _ n3,hC,keep _ _ n1,keep _ _ n4⟩ (fun _ _ h=>h.1)
   (fun k x hk W' v hW hv=>by
    obtain ⟨_,q2,_⟩:=hE k x hk
    obtain ⟨e1,e2,e3⟩:=at_some hk
    obtain ⟨a,c,rfl,_⟩:=hv.form
    obtain ⟨s1,s2,s3,s4,s5⟩:=hW
    exact (check3 w W' x.Name x.Parent a _ c (w.heap.size+1+1) (w.heap.size+1) k (cntQ l k) q2 (by have:=(List.getElem?_eq_some_iff.1 hk).1;omega) (cntQ_le _ _ _) (by omega) (by omega) (by omega) s1 s2 s3).mono fun e w' ⟨he,hx',hm',hC',ho⟩ =>
     ⟨by rw [he];unfold p3;rw [e1],hx',hm',by show CountAt _ _ (plus (cntQ l k) (nm l k)) _;rw [e1];exact hC',ho _ _ (by omega) s4,ho _ _ (by omega) s5⟩))
 clear hE n1 n2 n3 n4 hx4
 have hck:checkT l=if (List.range l.length).any (p2 l) then 4 else if (List.range l.length).any (p3 l) then 5 else if (List.range l.length).any (p4 l) then 3 else if (List.range l.length).any (p5 l) then 1 else 0:=by
  unfold checkT;rw [if_neg (by omega)]
 have Hck:=hid hck
 clear hck
 go_enter Tryz.func63,Tryz.ntmps63
 go_wp2_with fail
 refine (T2.out _ X4.out c1).mono ?_
 rintro e w1 ⟨c,rfl,hc⟩
 obtain ⟨hcv,_,hx1⟩:=hasQ_any hc
 clear hc T2
 have HX1:=hid hx1
 have hC0:CountAt (w.heap.size+1) 0 (cntQ l 0) w1:=by
  have h2:w1.heap[w.heap.size+1]?=some (.map #[] 0):=by rw [hx1.block _ (Array.getElem?_eq_some_iff.1 N2.out).1];exact N2.out
  exact countAt_zero h2 l
 cases c with
 | true =>
  have Hr:=hid (show checkT l=4 from by rw [Hck.out,← hcv,if_pos rfl])
  clear hcv
  go_wp2_with fail
  go_ret
  exact ⟨ret_int Hr.out.symm,X4.out.tr hx1⟩
 | false =>
  rw [← hcv,if_neg (by decide)] at Hck
  clear hcv
  have T3':=hid (T3.out w1 hx1 hC0)
  clear T3 hC0
  have c11:=hx1.ce' c1
  go_wp2_with fail
  refine T3'.out.mono ?_
  rintro e w2 ⟨c,rfl,hc⟩
  obtain ⟨hcv,k3,s1,s2,s3,s4,s5⟩:=hasQ_any hc
  have S1:=hid s1
  have T4':=hid (T4.out w2 s1 s4 s5)
  clear hc T3' T4 s2 s3 s5 c11
  have c12:=cell_of_row _ _ 0 _ _ _ s4
  cases c with
  | true =>
   have Hr:=hid (show checkT l=5 from by rw [Hck.out,← hcv,if_pos rfl])
   clear hcv
   go_wp2_with fail
   go_ret
   exact ⟨ret_int Hr.out.symm,s1⟩
  | false =>
   rw [← hcv,if_neg (by decide)] at Hck
   clear hcv s4
   go_wp2_with fail
   refine T4'.out.mono ?_
   rintro e w3 ⟨c,rfl,hc⟩
   obtain ⟨hcv,k4,u1,u2,u3⟩:=hasQ_any hc
   have c13:=cell_of_row _ _ 0 _ _ _ u3
   have T5':=hid (T5.out w3 u1 c13)
   clear hc T4' T5 u2 u3 c12
   cases c with
   | true =>
    have Hr:=hid (show checkT l=3 from by rw [Hck.out,← hcv,if_pos rfl])
    clear hcv
    go_wp2_with fail
    go_ret
    exact ⟨ret_int Hr.out.symm,u1⟩
   | false =>
    rw [← hcv,if_neg (by decide)] at Hck
    clear hcv
    go_wp2_with fail
    refine T5'.out.mono ?_
    rintro e w4 ⟨c,rfl,hc⟩
    obtain ⟨hcv,k5,u4⟩:=hasQ_any hc
    clear hc T5' c13
    cases c with
    | true =>
     have Hr:=hid (show checkT l=1 from by rw [Hck.out,← hcv,if_pos rfl])
     clear hcv
     go_wp2_with fail
     go_ret
     exact ⟨ret_int Hr.out.symm,u1.tr u4⟩
    | false =>
     have Hr:=hid (show checkT l=0 from by rw [Hck.out,← hcv,if_neg (by decide)])
     clear hcv
     go_wp2_with fail
     go_ret
     exact ⟨ret_int Hr.out.symm,u1.tr u4⟩
theorem treeCheck_any (w:World) (v:Value) (l:List Queue) (hv:QueuesV w v l) :
  Calls Tryz.prog 63 #[v] w fun e w'=>e=.returned (.int .i64 (checkT l))∧Ext w w':=by
 by_cases h:1≤l.length∧l.length≤5
 ·rcases hv with ⟨rfl,a0,c0,rfl,hc0⟩ | ⟨b,off,cap,rfl,h1,h2,h3,h4,h5⟩
  ·exact absurd h.1 (by simp)
  ·exact treeCheck_some w b off cap l h1 h.2 h.1 h4 h5
 ·have hr:checkT l=2:=by unfold checkT;rw [if_pos h]
  rw [hr]
  obtain ⟨a,cap,rfl,_,_,_⟩:=hv.form
  clear hv hr
  generalize l.length=n at *
  have hmm:=@run_makeMap Tryz.prog
  have hx:=hid (fun (o1 o2 o3 o4:Obj)=>(((((Ext.rf w).al o1).al o2).al o3).al o4))
  by_cases h1:(n:Int) < 1
  ·clear h
   go_enter Tryz.func63,Tryz.ntmps63
   go_wp2_with fail
   go_ret
   exact ⟨rfl,hx.out _ _ _ _⟩
  ·have h2:(5:Int) < (n:Int):=by omega
   clear h
   go_enter Tryz.func63,Tryz.ntmps63
   go_wp2_with fail
   go_ret
   exact ⟨rfl,hx.out _ _ _ _⟩
theorem p3_true {l:List Queue} {i k:Nat} (h:i < k) (e:nm l i=nm l k):p3 l k=true:=by
 unfold p3;exact decide_eq_true ((cntQ_pos l _ k).2 ⟨i,h,e⟩)
end Go.Proofs.YtdcndkojmflhnaaGreat
