/- back: a book is put in again. -/
import Derived.Test.YtncaoclhlfkdoaaGreatPCutD
/- slices.IndexFunc, slices.ContainsFunc at slices of bites. -/
set_option linter.unusedVariables false
set_option maxRecDepth 100000
set_option maxHeartbeats 8000000
set_option linter.unusedSimpArgs false
set_option linter.unusedVariables false
namespace Go.Proofs.YtncaoclhlfkdoaaGreat
open Go.RowKit
open List renaming getElem_toArray→zA,getElem_cons_zero→zB,getElem_cons_succ→zC,setIfInBounds_toArray→zD,set_cons_zero→zE,set_cons_succ→zF
theorem IndexFunc_Bite (w:World) (b off cap:Nat) (f:List Bite) (G:Nat) (lb:Array Value) (p:Bite→Bool) (hl:f.length≤17592186044416) (hb:b < w.heap.size) (hE:∀ k x,f[k]?=some x→EBite w b (off+k*2) x)
  (heg:∀ (args:Array Value) (w:World),(callFunc G args).run Tryz.prog w=.ok (.enter G args) w)
  (hp:∀ (k:Nat) (x:Bite),f[k]?=some x→∀ W,Ext w W→Calls Tryz.prog G (#[.agg #[.int .i64 x.Piece,.int .i64 x.At]]++lb) W fun e w'=>e=.returned (.bool (p x))∧Ext W w') :
  Calls Tryz.prog 172 #[.slice (some ⟨b,off,none⟩) f.length cap,.func (.func G) #[] lb] w fun e w'=>e=.returned (.int .i64 (idxOf p f))∧Ext w w':=by
 have HE:=hid hE
 have Hp:=hid hp
 clear hE hp
 generalize hn:f.length=n at *
 have Hn:=hid hn
 clear hn
 go_enter Tryz.func172,Tryz.ntmps172
 go_wp2_with fail
 go_loopw [8] (fun i wr=>∃ k:Nat,k≤n∧i=.int .i64 k∧Hid (∀ j y,j < k→f[j]?=some y→p y=false)∧Ext w wr) (fun i _=>n - (intOf i).toNat)
 case atStart=>exact ⟨0,Nat.zero_le _,rfl,fun j y hj=>absurd hj (Nat.not_lt_zero _),Ext.rf _⟩
 case round =>
  obtain ⟨k,hk,rfl,Hall,hx⟩:=hrel
  have hbw:b < wr.heap.size:=Nat.lt_of_lt_of_le hb hx.size
  by_cases hlt:k < n
  ·obtain ⟨x,hxk⟩:=getA (f:=f) (k:=k) (by rw [Hn.out];exact hlt)
   obtain ⟨c1,c2,c3,c4⟩:=HE.out k x hxk
   replace c1:=hx.ce' c1
   replace c2:=hx.ce' c2
   have hc:=Hp.out k x hxk wr hx
   have Hc:=hid hc
   have Hx:=hid hxk
   clear hc hxk
   cases hpx:p x with
   | true =>
    rw [hpx] at Hc
    have Hpx:=hid hpx
    clear hpx
    go_wp2_with fail
    refine Hc.out.mono ?_
    rintro e w1 ⟨rfl,hx1⟩
    go_wp2_with fail
    go_ret
    exact ⟨ret_int (idxOf_at Hx.out Hpx.out Hall.out).symm,hx.tr hx1⟩
   | false =>
    rw [hpx] at Hc
    have Hpx:=hid hpx
    clear hpx
    go_wp2_with fail
    refine Hc.out.mono ?_
    rintro e w1 ⟨rfl,hx1⟩
    go_wp2_with fail
    go_roundw
    case rel=>exact ⟨k+1,by omega,by go_num,hall_snoc Hx.out Hpx.out Hall.out,hx.tr hx1⟩
    case measure=>simp [intOf];omega
  ·obtain rfl:k=n:=by omega
   go_wp2_with fail
   go_ret
   exact ⟨ret_int (idxOf_none (fun j y hj hy=>Hall.out j y (by rw [Hn.out] at hj;exact hj) hy)).symm,hx⟩
theorem ContainsFunc_Bite (w:World) (v:Value) (f:List Bite) (G:Nat) (lb:Array Value) (p:Bite→Bool) (hv:BitesV w v f)
  (heg:∀ (args:Array Value) (w:World),(callFunc G args).run Tryz.prog w=.ok (.enter G args) w)
  (hp:∀ (k:Nat) (x:Bite),f[k]?=some x→∀ W,Ext w W→Calls Tryz.prog G (#[.agg #[.int .i64 x.Piece,.int .i64 x.At]]++lb) W fun e w'=>e=.returned (.bool (p x))∧Ext W w') :
  Calls Tryz.prog 110 #[v,.func (.func G) #[] lb] w fun e w'=>e=.returned (.bool (f.any p))∧Ext w w':=by
 rcases hv with ⟨rfl,a0,c0,rfl,hc0⟩ | ⟨b,off,cap,rfl,h1,h2,h3,h4,h5⟩
 ·go_enter Tryz.func110,Tryz.ntmps110
  go_wp2
  go_loopw [8] (fun i wr=>i=.int .i64 0∧wr=w) (fun i _=>0)
  case atStart=>exact ⟨rfl,rfl⟩
  case round =>
   obtain ⟨rfl,rfl⟩:=hrel
   go_wp2
   go_ret
   exact ⟨rfl,Ext.rf _⟩
 ·have hi:=IndexFunc_Bite w b off cap f G lb p h3 h4 h5 heg hp
  have Hi:=hid hi
  have ha:=hid (idxOf_any p f)
  clear hi hp h5
  generalize idxOf p f=q at *
  generalize hn:f.length=n at *
  clear hn
  generalize f.any p=r at *
  go_enter Tryz.func110,Tryz.ntmps110
  go_wp2_with fail
  refine Hi.out.mono ?_
  rintro e w1 ⟨rfl,hx1⟩
  go_wp2_with fail
  go_ret
  exact ⟨ret_bool ha.out,hx1⟩
theorem early_any (W:World) (x:Bite) (N X:Nat) (c:Int) (hN:W.cell? ⟨N,0,none⟩=some (.pointer (some ⟨X,0,none⟩))) (hX:W.cell? ⟨X,0,none⟩=some (.int .i64 c)) :
  Calls Tryz.prog 111 #[.agg #[.int .i64 x.Piece,.int .i64 x.At],.pointer (some ⟨N,0,none⟩)] W fun e w'=>e=.returned (.bool (decide (x.At < c)))∧Ext W w':=by
 have hx:=(Ext.rf W).al (.cells #[.int .i64 x.Piece,.int .i64 x.At] 49)
 have k0:=hx.ce' hN
 have k1:=hx.ce' hX
 have HX:=hid hx
 clear hx hN hX
 go_enter Tryz.func111,Tryz.ntmps111
 go_wp2_with fail
 go_quiet (fail)
 go_wp2_with fail
 go_ret
 exact ⟨rfl,HX.out.dn _⟩
theorem any_at {α:Type} {p:α→Bool} {f:List α} {k:Nat} {x:α} (h:f[k]?=some x) (hp:p x=true):f.any p=true:=List.any_eq_true.2 ⟨x,List.mem_of_getElem? h,hp⟩
theorem any_no {α:Type} {p:α→Bool} {f:List α} (h:∀ j y,j < f.length→f[j]?=some y→p y=false):f.any p=false:=by
 rw [List.any_eq_false]
 intro y hy
 obtain ⟨j,hj⟩:=List.mem_iff_getElem?.1 hy
 rw [h j y (List.getElem?_eq_some_iff.1 hj).1 hj]
 exact Bool.false_ne_true
theorem begun_any (w:World) (pv bv:Value) (x:Book) (c:Int) (hp:PiecesV w pv x.Req.Pieces) (hb:BitesV w bv x.Bites) :
  Calls Tryz.prog 59 #[bookVal x pv bv,.int .i64 c] w fun e w'=>e=.returned (.bool (begunB c x))∧Ext w w':=by
 obtain ⟨pa,pc,rfl,_⟩:=hp.form
 have HB:=hid hb
 obtain ⟨ba,bc,rfl,hbc1,hbc2,hb0⟩:=hb.form
 have HX:=hid ((Ext.rf w).al (.cells #[.int .i64 x.Id,.int .i64 x.Req.Queue,.int .i64 x.Req.From,.int .i64 x.Req.Until,.int .i64 x.Req.Kind,.slice pa x.Req.Pieces.length pc,.slice ba x.Bites.length bc] 43))
 have HBX:=hid (heap_alloc_new w (.cells #[.int .i64 x.Id,.int .i64 x.Req.Queue,.int .i64 x.Req.From,.int .i64 x.Req.Until,.int .i64 x.Req.Kind,.slice pa x.Req.Pieces.length pc,.slice ba x.Bites.length bc] 43))
 clear hp hb
 generalize x.Req.Pieces.length=pn at *
 generalize hbn:x.Bites.length=bn at *
 have Hbn:=hid hbn
 clear hbn
 go_enter Tryz.func59,Tryz.ntmps59
 go_wp2_with fail
 generalize w.alloc (.cells #[.int .i64 x.Id,.int .i64 x.Req.Queue,.int .i64 x.Req.From,.int .i64 x.Req.Until,.int .i64 x.Req.Kind,.slice pa pn pc,.slice ba bn bc] 43)=w1 at *
 go_loopw [5] (fun i wr=>∃ k:Nat,k≤bn∧i=.int .i64 k∧Hid (∀ j y,j < k→x.Bites[j]?=some y→decide (y.At < c)=false)∧wr=w1) (fun i _=>bn - (intOf i).toNat)
 case atStart=>exact ⟨0,Nat.zero_le _,rfl,hid (fun j y hj=>absurd hj (Nat.not_lt_zero _)),rfl⟩
 case round =>
  obtain ⟨k,hk,rfl,Hall,rfl⟩:=hrel
  have k6:wr.cell? ⟨w.heap.size,6,none⟩=some (.slice ba bn bc):=(bookCells7 HBX.out).2.2.2.2.2.2.1
  by_cases hlt:k < bn
  ·obtain ⟨y,hy⟩:=getA (f:=x.Bites) (k:=k) (by rw [Hbn.out];exact hlt)
   obtain ⟨b,off,cap,e,h1,h2,h3,h4,hE⟩:=(HB.out.mono HX.out).resolve_left (fun h=>by have:=h.1;rw [this] at hy;cases hy)
   cases e
   obtain ⟨c1,c2,c3,c4⟩:=hE k y hy
   have HY:=hid hy
   clear hE hy
   by_cases hlc:y.At < c
   ·have HR:=hid (show begunB c x=true from any_at HY.out (decide_eq_true hlc))
    go_wp2_with fail
    go_ret
    exact ⟨ret_bool HR.out.symm,HX.out⟩
   ·have HN:=hid (hall_snoc (p:=fun y:Bite=>decide (y.At < c)) HY.out (decide_eq_false hlc) Hall.out)
    go_wp2_with fail
    go_roundw
    case rel=>exact ⟨k+1,by omega,by go_num,HN.out,trivial⟩
    case measure=>simp [intOf];omega
  ·obtain rfl:k=bn:=by omega
   have HR:=hid (show begunB c x=false from any_no (fun j y hj hy=>Hall.out j y (by rw [Hbn.out] at hj;exact hj) hy))
   go_wp2_with fail
   go_ret
   exact ⟨ret_bool HR.out.symm,HX.out⟩
end Go.Proofs.YtncaoclhlfkdoaaGreat
