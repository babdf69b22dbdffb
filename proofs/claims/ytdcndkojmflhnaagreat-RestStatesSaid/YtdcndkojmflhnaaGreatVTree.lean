import Derived.Test.YtdcndkojmflhnaaGreatVCore
import Derived.Laws.RangeAny
import Derived.Laws.RangeString
import Derived.Maps.Own
import Derived.Maps.OwnOps
import Derived.Maps.Views
import Derived.Maps.OwnSet
import Derived.RangeFuncNested
import Derived.RangeFuncBound
import Derived.RangeFuncCalls
import Derived.RangeFuncLeaves
import Derived.RangeFuncBox
import Derived.Shelf.Abstract
import Derived.Shelf.RegionOpen
import Derived.WalkKit
import Derived.OwnWalkIn
import Derived.TacticsInMore
import Derived.LoopNIn
import Derived.LoopIn
import Derived.Maps.AppendAt
import Derived.Deep.RegionHeld3
import Derived.Deep.AppendLies
import Derived.WalkSpells
import Derived.StillTactics
import Derived.Tactics2
import Derived.MapKept
import Derived.Carry
set_option linter.unusedVariables false
set_option maxRecDepth 100000
set_option maxHeartbeats 8000000
set_option linter.unusedSimpArgs false
namespace Go.Proofs.YtdcndkojmflhnaaGreat
open Tryz
open Go.RowKit
open List renaming getElem_toArray->zA,getElem_cons_zero->zB,getElem_cons_succ->zC,setIfInBounds_toArray->zD,set_cons_zero->zE,set_cons_succ->zF
open Go.Value renaming int->aA,slice->aE
open Go.IntKind renaming i64->aB
open _root_.Nat renaming not_lt_zero->aBn,zero_le->aBO,lt_of_lt_of_le->aBA,le_refl->aBq,le_trans->aC4,reduceAdd->aCb,reduceSub->aCc,le_succ->aCo,sub_self->aCp
open _root_.Option renaming some->aC,none->aD
open _root_.List renaming any_eq_false->aBY,any_eq_true->aC1,mem_of_getElem?->aBJ,getElem_of_mem->aC2,getElem?_eq_getElem->aBu,mem_range->aC3,getElem?_eq_some_iff->aBD,mem_cons->aC8,length_cons->aBB,size_toArray->aC9,length_nil->aCa,push_toArray->aCf,append_toArray->aCg,nil_append->aCh,cons_append->aCi,not_mem_nil->aCj,length_append->aBk,contains_iff_mem->aCm,mem_map->aCn,mem_append->aBm,mem_iff_getElem->aBw
open _root_.Array renaming getElem?_eq_some_iff->aBy,replicate_succ->aCd,replicate_zero->aCe
open Go.World renaming alloc_heap_new->aC5,putObj_heap_same->aC6,putObj_heap_other->aC7,cell?_of_block->aCk,size_alloc->aCl,ownsRow_nil->aBV,block_lt_of_cell?->aBx,cell?_setCell_far->aCq
open _root_.Int renaming toNat_natCast->aBQ,eq_ofNat_of_zero_le->aBP
theorem tkH {P:Program} {md:Region.Mode} {ops:Array Oper} {Q:Exit->Act->World->Prop} {S:World->Prop} (i:Nat) {oi:Oper} {v:Value} {fuel:Nat} {listed:Array Bool} {a a':Act} {w:World} (h:wpAnyH P md ops Q S fuel (listed.setIfInBounds i true) a' w) (hi:ops[i]?=some oi:=by rfl)
 (h1:Region.noSelect ops=true:=by kernel_rfl) (h2:Region.free md ops listed i=true:=by kernel_rfl) (h3:(Region.ready md ops listed).contains i=true:=by kernel_rfl)
 (hw:Region.wanted oi (yielded ops a.tmps)=true:=by rfl)
 (hy:∀ W,S W->(execOp a.eval oi).run P W=.ok (.value v) W:=by intro W hSW;simp only[List.getElem_toArray,List.getElem_cons_zero,List.getElem_cons_succ];(try dsimp only at hSW);go_simp;(try with_reducible rfl))
 (hQ:∀ c a w,Q (.panic c) (a.put oi.dst v) w->Q (.panic c) a w:=by exact fun _ _ _ h=>h) (hS:S w:=by assumption)
 (ha:a.put oi.dst v=a':=by simp only[List.getElem_toArray,List.getElem_cons_zero,List.getElem_cons_succ,Act.put,List.setIfInBounds_toArray,List.set_cons_zero,List.set_cons_succ];rfl):wpAnyH P md ops Q S (fuel+1) listed a w:=by
 subst ha;exact wpAnyH_take hi h1 h2 h3 hQ (Or.inl ⟨hw,hy⟩) hS h
theorem tkU {P:Program} {md:Region.Mode} {ops:Array Oper} {Q:Exit->Act->World->Prop} {S:World->Prop} (i:Nat) {oi:Oper} {v:Value} {fuel:Nat} {listed:Array Bool} {a:Act} {w:World} (hS:S w)
 (hy:∀ W,S W->(execOp a.eval oi).run P W=.ok (.value v) W) (h:wpAnyH P md ops Q S fuel (listed.setIfInBounds i true) (a.put oi.dst v) w) (hi:ops[i]?=some oi:=by rfl)
 (h1:Region.noSelect ops=true:=by kernel_rfl) (h2:Region.free md ops listed i=true:=by kernel_rfl) (h3:(Region.ready md ops listed).contains i=true:=by kernel_rfl)
 (hw:Region.wanted oi (yielded ops a.tmps)=true:=by kernel_rfl)
 (hQ:∀ c a' w,Q (.panic c) (a'.put oi.dst v) w->Q (.panic c) a' w:=by exact fun _ _ _ h=>h):wpAnyH P md ops Q S (fuel+1) listed a w:=wpAnyH_take hi h1 h2 h3 hQ (Or.inl ⟨hw,hy⟩) hS h
def iA (s:ByteArray) (i:Nat):Nat:=(s.get! i).toNat
def qB (n:Nat):Prop:=97<=n/\n<=122
instance (n:Nat):Decidable (qB n):=inferInstanceAs (Decidable (_/\_))
def lW (s:ByteArray):Prop:=∀ i,i < s.size->qB (iA s i)
instance (s:ByteArray):Decidable (lW s):=inferInstanceAs (Decidable (∀ i,i < s.size->_))
def jS (s:ByteArray):Prop:=(1<=s.size/\s.size<=8)/\lW s
instance (s:ByteArray):Decidable (jS s):=inferInstanceAs (Decidable (_/\_))
theorem rP (s:ByteArray) (i:Nat) (h:i < s.size):iA s i=(s[i]'h).toNat:=by
 unfold iA;rw[show s.get! i=s[i]'h from by have:=get_at s i h;simpa using this]
theorem Vv (x:Nat) (w:World) (h:qB x):Calls prog 161 #[.int .i32 x] w fun e w'=>e=.returned (.bool false)/\w'=w:=by
 have h1:=h.1;have h2:=h.2;have h3:¬ (x:Int) < 97:=by omega
 have h4:¬ (122:Int) < (x:Int):=by omega
 go_enter func161,ntmps161
 go_wp2
 go_ret;exact⟨rfl,rfl⟩
theorem Yo (x:Nat) (w:World) (h:¬ qB x):Calls prog 161 #[.int .i32 x] w fun e w'=>e=.returned (.bool true)/\w'=w:=by
 by_cases h1:x < 97
 ·have h3:(x:Int) < 97:=by omega
  clear h;go_enter func161,ntmps161
  go_wp2
  go_ret;exact⟨rfl,rfl⟩
 ·have h2:¬ x<=122:=fun h2=>h ⟨by omega,h2⟩;have h3:¬ (x:Int) < 97:=by omega
  have h4:(122:Int) < (x:Int):=by omega
  clear h;go_enter func161,ntmps161
  go_wp2
  go_ret;exact⟨rfl,rfl⟩
theorem Op (w:World) (s:ByteArray) (pos:Nat):Ext w (w.iter s pos):=(Ext.rf w).al _
def yR (s:ByteArray) (r:Int):Prop:=(lW s/\r=-1)\/(¬ lW s/\0<=r)
theorem Ev (w:World) (s:ByteArray) (hs:s.size<=9223372036854775807) :
  Calls prog 198 #[.string s,.func (.func 161) #[] #[],.bool true] w fun e w'=>∃ r,e=.returned (aA aB r)/\yR s r/\Ext w w':=by
 have heg:∀ (args:Array Value) (w:World),(callFunc 161 args).run prog w=.ok (.enter 161 args) w:=enters_of func161 (by kernel_rfl) rfl;go_enter func198,ntmps198
 go_wp2_with fail
 go_loopw [] (fun wr=>∃ pos:Nat,wr=w.iter s pos/\pos<=s.size/\Hid (∀ i,i < pos->qB (iA s i))) (fun wr=>s.size - wr.iterPos w.heap.size)
 case atStart=>exact⟨0,rfl,by omega,fun i hi=>absurd hi (aBn _)⟩
 case round=>
  obtain⟨pos,rfl,hpos,Hl⟩:=hrel;by_cases hps:pos < s.size
  ·by_cases hlet:qB (iA s pos)
   ·have h1:(s[pos]'hps).toNat < 128:=by have:=hlet.2;rw[rP s pos hps] at this;omega
    have hnx:∀ ty,(Instr.next (.pointer (aC ⟨w.heap.size,0,aD⟩)) true ty).run prog (w.iter s pos)=.ok (.tuple #[.bool true,aA aB pos,.int .i32 (iA s pos)]) (w.iter s (pos+1)):=fun ty=>by
     rw[rP s pos hps];exact run_next_ascii w s pos ty hps h1
    have C:=hid (Vv (iA s pos) (w.iter s (pos+1)) hlet);have Hl2:=hid (show ∀ i,i < pos+1->qB (iA s i) from fun i hi=>if e:i=pos then e▸hlet else Hl.out i (by omega));clear hlet h1 Hl;generalize iA s pos=x at *
    go_wp2_with fail
    refine C.out.mono ?_;rintro e w1 ⟨rfl,rfl⟩
    go_wp2_with fail
    go_roundw
    case rel=>exact⟨pos+1,rfl,by omega,Hl2⟩
    case measure=>simp;omega
   ·obtain⟨R,K,hR,hnl⟩:∃ R K,Utf8.decode s pos=(R,K)/\¬ qB R:=by
     by_cases h1:(s[pos]'hps).toNat < 128
     ·exact⟨_,_,decode_ascii s pos hps h1,by rw[<- rP s pos hps];exact hlet⟩
     ·have:=decode_high s pos hps (by omega);exact⟨(Utf8.decode s pos).1,(Utf8.decode s pos).2,rfl,fun h=>by have:=h.2;omega⟩
    have hnx:∀ ty,(Instr.next (.pointer (aC ⟨w.heap.size,0,aD⟩)) true ty).run prog (w.iter s pos)=.ok (.tuple #[.bool true,aA aB pos,.int .i32 R]) (w.iter s (pos+K)):=fun ty=>by
     have:=run_next_any (P:=prog) w s pos ty hps;rw[hR] at this;exact this
    have C:=hid (Yo R (w.iter s (pos+K)) hnl);have Hr:=hid (show yR s pos from .inr ⟨fun h=>hlet (h pos hps),by omega⟩);clear hlet hnl hR
    go_wp2_with fail
    refine C.out.mono ?_;rintro e w1 ⟨rfl,rfl⟩
    go_wp2_with fail
    go_ret;exact⟨_,rfl,Hr.out,Op _ _ _⟩
  ·have hnx:∀ ty,(Instr.next (.pointer (aC ⟨w.heap.size,0,aD⟩)) true ty).run prog (w.iter s pos)=.ok (.tuple #[.bool false]) (w.iter s pos):=fun ty=>run_next_end w s pos ty hps;have Hr:=hid (show yR s (-1) from .inl ⟨fun i hi=>Hl.out i (by omega),rfl⟩)
   go_wp2_with fail
   go_ret;exact⟨_,rfl,Hr.out,Op _ _ _⟩
theorem Gm (w:World) (s:ByteArray) (hs:s.size<=9223372036854775807) :
  Calls prog 183 #[.string s,.func (.func 161) #[] #[]] w fun e w'=>∃ r,e=.returned (aA aB r)/\yR s r/\Ext w w':=by
 have C:=hid (Ev w s hs);go_enter func183,ntmps183
 go_wp2_with fail
 refine C.out.mono ?_;rintro e w1 ⟨r,rfl,hr,hx⟩;have Hr:=hid hr;clear hr
 go_wp2_with fail
 go_ret;exact⟨_,rfl,Hr.out,hx⟩
theorem yT (w:World) (s:ByteArray) (hs:s.size<=9223372036854775807) :
  Calls prog 160 #[.string s,.func (.func 161) #[] #[]] w fun e w'=>e=.returned (.bool (decide (¬ lW s)))/\Ext w w':=by
 have C:=hid (Gm w s hs);by_cases hl:lW s
 ·have hd:=hid (deF (p:=¬ lW s) (fun h=>h hl));go_enter func160,ntmps160
  go_wp2_with fail
  refine C.out.mono ?_;rintro e w1 ⟨r,rfl,hr,hx⟩;obtain rfl:r=-1:=by rcases hr with ⟨_,h⟩ | ⟨h,_⟩;exact h;exact absurd hl h
  clear hr hl
  go_wp2_with fail
  go_ret;exact⟨(congrArg (fun b=>Ending.returned (.bool b)) hd.out).symm,hx⟩
 ·have hd:=hid (deT (p:=¬ lW s) hl);go_enter func160,ntmps160
  go_wp2_with fail
  refine C.out.mono ?_;rintro e w1 ⟨r,rfl,hr,hx⟩;have hr0:0<=r:=by rcases hr with ⟨h,_⟩ | ⟨_,h⟩;exact absurd h hl;exact h
  clear hr hl
  go_wp2_with fail
  go_ret;exact⟨(congrArg (fun b=>Ending.returned (.bool b)) hd.out).symm,hx⟩
theorem Zz (w:World) (s:ByteArray) (hs:s.size<=9223372036854775807) :
  Calls prog 113 #[.string s] w fun e w'=>e=.returned (.bool (decide (jS s)))/\Ext w w':=by
 have C:=hid (yT w s hs);by_cases h1:0 < s.size
 ·have h1':(0:Int) < (s.size:Int):=by omega
  by_cases h2:s.size<=8
  ·have h2':(s.size:Int)<=8:=by omega
   by_cases hl:lW s
   ·rw[deF (p:=¬ lW s) (fun h=>h hl)] at C;have hd:=hid (deT (p:=jS s) ⟨⟨h1,h2⟩,hl⟩);clear hl;go_enter func113,ntmps113
    go_wp2_with fail
    refine C.out.mono ?_;rintro e w1 ⟨rfl,hx⟩
    go_wp2_with fail
    go_ret;exact⟨(congrArg (fun b=>Ending.returned (.bool b)) hd.out).symm,hx⟩
   ·rw[deT (p:=¬ lW s) hl] at C;have hd:=hid (deF (p:=jS s) (fun h=>hl h.2));clear hl;go_enter func113,ntmps113
    go_wp2_with fail
    refine C.out.mono ?_;rintro e w1 ⟨rfl,hx⟩
    go_wp2_with fail
    go_ret;exact⟨(congrArg (fun b=>Ending.returned (.bool b)) hd.out).symm,hx⟩
  ·have h2':¬ (s.size:Int)<=8:=by omega
   have hd:=hid (deF (p:=jS s) (fun h=>h2 h.1.2));go_enter func113,ntmps113
   go_wp2_with fail
   go_ret;exact⟨(congrArg (fun b=>Ending.returned (.bool b)) hd.out).symm,Ext.rf _⟩
 ·have h1':¬ (0:Int) < (s.size:Int):=by omega
  have hd:=hid (deF (p:=jS s) (fun h=>h1 h.1.1));go_enter func113,ntmps113
  go_wp2_with fail
  go_ret;exact⟨(congrArg (fun b=>Ending.returned (.bool b)) hd.out).symm,Ext.rf _⟩
theorem Wh (s:ByteArray) (k:Nat) (h:k < s.size) (w:World):(Instr.index 9 (.string s) (aA aB k)).run prog w=.ok (.int .u8 (iA s k)) w:=by
 rw[run_index_string w 9 s .i64 k underlying9,rP s k h];simp[h]
theorem Th (w:World) (s:ByteArray) (hs:s.size<=9223372036854775807) :
  Calls prog 65 #[.string s] w fun e w'=>e=.returned (.bool (decide (jS s)))/\Ext w w':=by
 go_enter func65,ntmps65
 go_wp2_with fail
 go_loopw [3] (fun c wr=>∃ k:Nat,c=aA aB k/\k<=s.size/\Hid (∀ i,i < k->qB (iA s i))/\Ext w wr) (fun c _=>s.size - (intOf c).toNat)
 case atStart=>exact⟨0,rfl,by omega,fun i hi=>absurd hi (aBn _),Ext.rf _⟩
 case round=>
  obtain⟨k,rfl,hk,Hl,hx⟩:=hrel;by_cases hlt:k < s.size
  ·have hlt':(k:Int) < (s.size:Int):=by omega
   have hix:=fun w=>Wh s k hlt w;by_cases h1:iA s k < 97
   ·have h1':(iA s k:Int) < 97:=by omega
    have hd:=hid (deF (p:=jS s) (fun h=>by have:=(h.2 k hlt).1;omega));generalize iA s k=x at *
    go_wp2_with fail
    go_ret;exact⟨(congrArg (fun b=>Ending.returned (.bool b)) hd.out).symm,hx⟩
   ·have h1':¬ (iA s k:Int) < 97:=by omega
    by_cases h2:122 < iA s k
    ·have h2':(122:Int) < (iA s k:Int):=by omega
     have hd:=hid (deF (p:=jS s) (fun h=>by have:=(h.2 k hlt).2;omega));generalize iA s k=x at *
     go_wp2_with fail
     go_ret;exact⟨(congrArg (fun b=>Ending.returned (.bool b)) hd.out).symm,hx⟩
    ·have h2':¬ (122:Int) < (iA s k:Int):=by omega
     have Hl2:=hid (show ∀ i,i < k+1->qB (iA s i) from fun i hi=>if e:i=k then e▸⟨by omega,by omega⟩ else Hl.out i (by omega));clear Hl;generalize iA s k=x at *
     go_wp2_with fail
     go_roundw
     case rel=>exact⟨k+1,by go_num,by omega,Hl2,hx⟩
     case measure=>simp[intOf];omega
  ·have hlt':¬ (k:Int) < (s.size:Int):=by omega
   by_cases hsz:1<=s.size/\s.size<=8
   ·have C:=hid (fun(W:World)=>cE (s.size:Int) 1 8 W (by omega) (by omega));have hd:=hid (deT (p:=jS s) ⟨hsz,fun i hi=>Hl.out i (by omega)⟩);clear hsz
    go_wp2_with fail
    refine(C.out _).mono ?_;rintro e w1 ⟨rfl,rfl⟩
    go_wp2_with fail
    go_ret;exact⟨(congrArg (fun b=>Ending.returned (.bool b)) hd.out).symm,hx⟩
   ·have C:=hid (fun(W:World)=>dU (s.size:Int) 1 8 W (by omega));have hd:=hid (deF (p:=jS s) (fun h=>hsz h.1));clear hsz
    go_wp2_with fail
    refine(C.out _).mono ?_;rintro e w1 ⟨rfl,rfl⟩
    go_wp2_with fail
    go_ret;exact⟨(congrArg (fun b=>Ending.returned (.bool b)) hd.out).symm,hx⟩
def kE (n:Int):Prop:=0<=n/\n<=50
instance (n:Int):Decidable (kE n):=inferInstanceAs (Decidable (_/\_))
def fK (f:List Run):Prop:=gM f/\∀ r∈f,kE r.N
instance (f:List Run):Decidable (fK f):=inferInstanceAs (Decidable (_/\_))
theorem cap1 (x:Run) (w:World):Calls prog 139 #[.agg #[aA aB x.At,aA aB x.N]] w fun e w'=>e=.returned (.bool (decide (¬ kE x.N)))/\Ext w w':=by
 by_cases h1:x.N < 0
 ·rw[deT (p:=¬ kE x.N) (fun h=>by have:=h.1;omega)];go_enter func139,ntmps139
  go_wp2_with fail
  go_ret;exact⟨rfl,(Ext.rf _).al _⟩
 ·by_cases h2:50 < x.N
  ·rw[deT (p:=¬ kE x.N) (fun h=>by have:=h.2;omega)];go_enter func139,ntmps139
   go_wp2_with fail
   go_ret;exact⟨rfl,(Ext.rf _).al _⟩
  ·rw[deF (p:=¬ kE x.N) (fun h=>h ⟨by omega,by omega⟩)];go_enter func139,ntmps139
   go_wp2_with fail
   go_ret;exact⟨rfl,(Ext.rf _).al _⟩
theorem yX (w:World) (v:Value) (f:List Run) (hv:bC w v f) :
  Calls prog 82 #[v] w fun e w'=>e=.returned (.bool (decide (fK f)))/\Ext w w':=by
 have C:=hid (Kq w v f hv);by_cases hf:gM f
 ·have P:=hid (fun(W:World) (h:Ext w W)=>Ai W v f 139 #[] (fun x=>decide (¬ kE x.N)) (hv.mono h) (enters_of func139 (by kernel_rfl) rfl) (fun k x _ W' _=>cap1 x W'));have Hc:=hid (Mf hf);have hq:∃ c,f.any (fun x=>decide (¬ kE x.N))=c/\decide (fK f)=!c:=by
   refine⟨_,rfl,?_⟩;by_cases hc:∀ r∈f,kE r.N
   ·rw[deT (p:=fK f) ⟨hf,hc⟩];have:f.any (fun x=>decide (¬ kE x.N))=false:=aBY.2 (fun r hr=>by simpa using hc r hr);rw[this];rfl
   ·rw[deF (p:=fK f) (fun h=>hc h.2)];have:f.any (fun x=>decide (¬ kE x.N))=true:=by
     rw[aC1];apply Classical.byContradiction;intro hn;exact hc (fun r hr=>Classical.byContradiction fun h=>hn ⟨r,hr,by simpa using h⟩)
    rw[this];rfl
  obtain⟨c,hc,hd⟩:=hq;rw[hc] at P;rw[hd];clear hc hd hf hv;go_enter func82,ntmps82
  go_wp2_with fail
  refine C.out.mono ?_;rintro e w1 ⟨rfl,hx1⟩;rw[Hc.out]
  go_wp2_with fail
  refine(P.out _ hx1).mono ?_;rintro e w2 ⟨rfl,hx2⟩
  go_wp2_with fail
  go_ret;exact⟨rfl,hx1.tr hx2⟩
 ·have Hc:=hid (tR hf);rw[deF (p:=fK f) (fun h=>hf h.1)];clear hf hv;go_enter func82,ntmps82
  go_wp2_with fail
  refine C.out.mono ?_;rintro e w1 ⟨rfl,hx1⟩;rw[Hc.out]
  go_wp2_with fail
  go_ret;exact⟨rfl,hx1⟩
theorem nQ (w:World) (v:Value) (f:List Run) (hv:bC w v f) :
  Calls prog 66 #[v] w fun e w'=>e=.returned (.bool (decide (fK f)))/\Ext w w':=by
 have R:=hid (fun(W:World) (h:Ext w W)=>yN W v f (hv.mono h));rcases hv with ⟨rfl,a0,c0,rfl,hc0⟩ | ⟨b,off,cap,rfl,h1,h2,h3,⟨h4,_⟩,h5⟩
 ·have hd:=hid (deF (p:=fK []) (fun h=>h.1.1));rw[deF (p:=gM []) (fun h=>h.1)] at R;go_enter func66,ntmps66
  go_wp2_with fail
  go_loopw [3] (fun i wr=>i=aA aB 0/\wr=w) (fun i _=>0)
  case atStart=>exact⟨rfl,rfl⟩
  case round=>
   obtain⟨rfl,rfl⟩:=hrel
   go_wp2_with fail
   refine(R.out _ (Ext.rf _)).mono ?_;rintro e w1 ⟨rfl,hx⟩
   go_wp2_with fail
   go_ret;exact⟨(congrArg (fun b=>Ending.returned (.bool b)) hd.out).symm,hx⟩
 ·have HE:=hid h5;clear h5;generalize hn:f.length=n at *;have Hn:=hid hn;clear hn;go_enter func66,ntmps66
  go_wp2_with fail
  go_loopw [3] (fun c wr=>∃ k:Nat,c=aA aB k/\k<=n/\Hid (∀ j y,j < k->f[j]?=aC y->kE y.N)/\Ext w wr) (fun c _=>n - (intOf c).toNat)
  case atStart=>exact⟨0,rfl,aBO _,fun j y hj=>absurd hj (aBn _),Ext.rf _⟩
  case round=>
   obtain⟨k,rfl,hk,Hall,hx⟩:=hrel;by_cases hlt:k < n
   ·have hlt':(k:Int) < (n:Int):=by omega
    obtain⟨x,hxk⟩:=pB (f:=f) (k:=k) (by rw[Hn.out];exact hlt);obtain⟨c1,c2,c3,c4⟩:=HE.out k x hxk;replace c1:=hx.ce' c1;replace c2:=hx.ce' c2;by_cases hc:kE x.N
    ·have C:=hid (fun(W:World)=>cE x.N 0 50 W hc.1 hc.2);have Hall2:=hid (show ∀ j y,j < k+1->f[j]?=aC y->kE y.N from fun j y hj hy=>if e:j=k then(by subst e;rw[hxk] at hy;cases hy;exact hc) else Hall.out j y (by omega) hy);clear hc hxk Hall
     go_wp2_with fail
     refine(C.out _).mono ?_;rintro e w1 ⟨rfl,rfl⟩
     go_wp2_with fail
     go_roundw
     case rel=>exact⟨k+1,by go_num,by omega,Hall2,hx⟩
     case measure=>simp[intOf];omega
    ·have C:=hid (fun(W:World)=>dU x.N 0 50 W hc);have hd:=hid (deF (p:=fK f) (fun h=>hc (h.2 x (aBJ hxk))));clear hc hxk Hall
     go_wp2_with fail
     refine(C.out _).mono ?_;rintro e w1 ⟨rfl,rfl⟩
     go_wp2_with fail
     go_ret;exact⟨(congrArg (fun b=>Ending.returned (.bool b)) hd.out).symm,hx⟩
   ·have hlt':¬ (k:Int) < (n:Int):=by omega
    have hd:decide (fK f)=decide (gM f):=by
     have hall:∀ r∈f,kE r.N:=fun r hr=>by
      obtain⟨j,hj,e⟩:=aC2 hr;exact Hall.out j r (by have:=Hn.out;omega) (by rw[aBu hj,e])
     by_cases hf:gM f
     ·rw[deT hf,deT (p:=fK f) ⟨hf,hall⟩]
     ·rw[deF hf,deF (p:=fK f) (fun h=>hf h.1)]
    have Hd:=hid hd;clear hd
    go_wp2_with fail
    refine(R.out _ hx).mono ?_;rintro e w1 ⟨rfl,hx1⟩
    go_wp2_with fail
    go_ret;exact⟨(congrArg (fun b=>Ending.returned (.bool b)) Hd.out).symm,hx.tr hx1⟩
def aBa (n:Nat) (p:Nat->Bool) (I:Nat->World->Prop) (r:Int) (w':World):Prop:=
 (r=-1/\(∀ k,k < n->p k=false)/\I n w')\/(0<=r/\(∃ k,k < n/\p k=true)/\∃ k,I k w')
theorem Ma {l:List Queue} {k:Nat} (h:k < l.length):∃ x,l[k]?=aC x:=⟨_,aBu h⟩
theorem Ck (w0 w:World) (b off cap:Nat) (l:List Queue) (G:Nat) (lb:Array Value) (p:Nat->Bool) (I:Nat->World->Prop) (hl:l.length<=17592186044416) (hb:b < w0.heap.size)
  (hE:∀ k x,l[k]?=aC x->dS w0 b (off+k*3) x)
  (heg:∀ (args:Array Value) (w:World),(callFunc G args).run prog w=.ok (.enter G args) w)
  (hI0:I 0 w) (hIx:∀ k W,I k W->Ext w0 W)
  (hp:∀ (k:Nat) (x:Queue),l[k]?=aC x->∀ W v,I k W->bC W v x.Cap->Calls prog G (#[.agg #[.string x.aQ,aA aB x.aR,v]]++lb) W fun e w'=>e=.returned (.bool (p k))/\I (k+1) w') :
  Calls prog 159 #[aE (aC ⟨b,off,aD⟩) l.length cap,.func (.func G) #[] lb] w fun e w'=>∃ r,e=.returned (aA aB r)/\aBa l.length p I r w':=by
 have HE:=hid hE;have Hp:=hid hp;have HIx:=hid hIx;have HI0:=hid hI0;clear hE hp hIx hI0;generalize hn:l.length=n at *;have Hn:=hid hn;clear hn;go_enter func159,ntmps159
 go_wp2_with fail
 go_loopw [8] (fun i wr=>∃ k:Nat,k<=n/\i=aA aB k/\Hid (∀ j,j < k->p j=false)/\Hid (I k wr)) (fun i _=>n - (intOf i).toNat)
 case atStart=>exact⟨0,aBO _,rfl,fun j hj=>absurd hj (aBn _),HI0⟩
 case round=>
  obtain⟨k,hk,rfl,Hall,HI⟩:=hrel;have hx:=HIx.out k wr HI.out;have hbw:b < wr.heap.size:=aBA hb hx.size;by_cases hlt:k < n
  ·obtain⟨x,hxk⟩:=Ma (l:=l) (k:=k) (by rw[Hn.out];exact hlt);obtain⟨c1,c2,c3,c4,v,c5,hv⟩:=dS.mono w0 wr b _ x hx (HE.out k x hxk);have Hc:=hid (Hp.out k x hxk wr v HI.out hv);obtain⟨va,vc,rfl,_⟩:=hv.form;clear hv hxk;generalize x.Cap.length=vn at *;cases hpx:p k with
   | true=>
    rw[hpx] at Hc;have Hr:=hid (show ∃ k,k < n/\p k=true from ⟨k,hlt,hpx⟩);clear hpx
    go_wp2_with fail
    refine Hc.out.mono ?_;rintro e w1 ⟨rfl,hI⟩;have HI2:=hid hI;clear hI
    go_wp2_with fail
    go_ret;exact⟨_,rfl,.inr ⟨by omega,Hr.out,_,HI2.out⟩⟩
   | false=>
    rw[hpx] at Hc;have Hr:=hid (show ∀ j,j < k+1->p j=false from fun j hj=>if e:j=k then e▸hpx else Hall.out j (by omega));clear hpx
    go_wp2_with fail
    refine Hc.out.mono ?_;rintro e w1 ⟨rfl,hI⟩;have HI2:=hid hI;clear hI
    go_wp2_with fail
    go_roundw
    case rel=>exact⟨k+1,by omega,by go_num,Hr,HI2⟩
    case measure=>simp[intOf];omega
  ·obtain rfl:k=n:=by omega
   go_wp2_with fail
   go_ret;exact⟨_,rfl,.inl ⟨rfl,Hall.out,HI.out⟩⟩
def aA3 (n:Nat) (p:Nat->Bool) (I:Nat->World->Prop) (c:Bool) (w':World):Prop:=
 (c=false/\(∀ k,k < n->p k=false)/\I n w')\/(c=true/\(∃ k,k < n/\p k=true)/\∃ k,I k w')
theorem wT (w0 w:World) (b off cap:Nat) (l:List Queue) (G:Nat) (lb:Array Value) (p:Nat->Bool) (I:Nat->World->Prop) (hl:l.length<=17592186044416) (hb:b < w0.heap.size)
  (hE:∀ k x,l[k]?=aC x->dS w0 b (off+k*3) x)
  (heg:∀ (args:Array Value) (w:World),(callFunc G args).run prog w=.ok (.enter G args) w)
  (hI0:I 0 w) (hIx:∀ k W,I k W->Ext w0 W)
  (hp:∀ (k:Nat) (x:Queue),l[k]?=aC x->∀ W v,I k W->bC W v x.Cap->Calls prog G (#[.agg #[.string x.aQ,aA aB x.aR,v]]++lb) W fun e w'=>e=.returned (.bool (p k))/\I (k+1) w') :
  Calls prog 111 #[aE (aC ⟨b,off,aD⟩) l.length cap,.func (.func G) #[] lb] w fun e w'=>∃ c,e=.returned (.bool c)/\aA3 l.length p I c w':=by
 have C:=hid (Ck w0 w b off cap l G lb p I hl hb hE heg hI0 hIx hp);clear hE hp hIx hI0;generalize l.length=n at *;go_enter func111,ntmps111
 go_wp2_with fail
 refine C.out.mono ?_;rintro e w1 ⟨r,rfl,hr⟩;rcases hr with ⟨rfl,h1,h2⟩ | ⟨h0,h1,h2⟩
 ·have H:=hid (show aA3 n p I false w1 from .inl ⟨rfl,h1,h2⟩);clear h1 h2
  go_wp2_with fail
  go_ret;exact⟨_,rfl,H.out⟩
 ·have H:=hid (show aA3 n p I true w1 from .inr ⟨rfl,h1,h2⟩);clear h1 h2
  go_wp2_with fail
  go_ret;exact⟨_,rfl,H.out⟩
theorem aB2 (W:World) (s:ByteArray) (p:Int) (a:Option Addr) (n cap:Nat) (hs:s.size<=9223372036854775807) :
  Calls prog 112 #[.agg #[.string s,aA aB p,aE a n cap]] W fun e w'=>e=.returned (.bool (decide (¬ jS s)))/\Ext W w':=by
 have C:=hid (fun(W:World)=>Zz W s hs);obtain⟨c,h1,h2⟩:∃ c,decide (jS s)=c/\decide (¬ jS s)=!c:=⟨_,rfl,by simp⟩;rw[h1] at C;rw[h2];clear h1 h2;go_enter func112,ntmps112
 go_wp2_with fail
 refine(C.out _).mono ?_;rintro e w1 ⟨rfl,hx⟩
 go_wp2_with fail
 go_ret;exact⟨rfl,((Ext.rf _).al _).tr hx⟩
theorem aAZ (W:World) (s:ByteArray) (p:Int) (v:Value) (f:List Run) (hv:bC W v f) :
  Calls prog 116 #[.agg #[.string s,aA aB p,v]] W fun e w'=>e=.returned (.bool (decide (¬ fK f)))/\Ext W w':=by
 have C:=hid (fun(W':World) (h:Ext W W')=>yX W' v f (hv.mono h));obtain⟨c,h1,h2⟩:∃ c,decide (fK f)=c/\decide (¬ fK f)=!c:=⟨_,rfl,by simp⟩;rw[h1] at C;rw[h2];obtain⟨a,cap,rfl,_⟩:=hv.form;clear h1 h2 hv;generalize f.length=n at *;go_enter func116,ntmps116
 go_wp2_with fail
 refine(C.out _ ((Ext.rf _).al _)).mono ?_;rintro e w1 ⟨rfl,hx⟩
 go_wp2_with fail
 go_ret;exact⟨rfl,((Ext.rf _).al _).tr hx⟩
def Bw (p:Int) (k:Nat):Prop:=-1<=p/\p < (k:Int)
instance (p:Int) (k:Nat):Decidable (Bw p k):=inferInstanceAs (Decidable (_/\_))
def mE (c:Nat) (n:Int) (W:World):Prop:=W.heap[c]?=aC (.cells #[aA aB n] 3 (0,0))
theorem mE.ext {c:Nat} {n:Int} {w w':World} (h:mE c n w) (hx:Ext w w'):mE c n w':=by
 unfold mE;rw[hx.block c (aBy.1 h).1];exact h
theorem mE.set {c:Nat} {n:Int} {w:World} (h:mE c n w) (m:Int):mE c m (w.setCell ⟨c,0,aD⟩ (aA aB m)):=by
 unfold mE;rw[heap_setCell_same w c 0 _ _ _ h];rfl
theorem mE.cell {c:Nat} {n:Int} {w:World} (h:mE c n w):w.cell? ⟨c,0,aD⟩=aC (aA aB n):=by rw[cell_of_row _ _ _ _ _ _ h];rfl
theorem mE.lt {c:Nat} {n:Int} {w:World} (h:mE c n w):c < w.heap.size:=(aBy.1 h).1
theorem aB0 (w0 W:World) (s:ByteArray) (p:Int) (a:Option Addr) (n cap:Nat) (c k:Nat) (hk:k<=17592186044416) (hc:w0.heap.size<=c) (hx:Ext w0 W) (hn:mE c ((k:Int) - 1) W) :
  Calls prog 115 #[.agg #[.string s,aA aB p,aE a n cap],.pointer (aC ⟨c,0,aD⟩)] W fun e w'=>e=.returned (.bool (!decide (Bw p k)))/\Ext w0 w'/\mE c (k:Int) w'/\(∀ j o,j≠c->W.heap[j]?=aC o->w'.heap[j]?=aC o):=by
 have hcl:=hn.cell;have hfr:=frozen_of_row W c 0 _ _ hn;have hcw:=hn.lt;have Hend:=hid (fun(o:Obj)=>show mE c (k:Int) ((W.setCell ⟨c,0,aD⟩ (aA aB (k:Int))).alloc o) from (hn.set _).ext ((Ext.rf _).al o));have Hold:=hid (fun(b:Obj)=>show ∀ j o,j≠c->W.heap[j]?=aC o->((W.setCell ⟨c,0,aD⟩ (aA aB (k:Int))).alloc b).heap[j]?=aC o from fun j o hj ho=>by
  have h1:(W.setCell ⟨c,0,aD⟩ (aA aB (k:Int))).heap[j]?=aC o:=by rw[heap_setCell_other W ⟨c,0,aD⟩ j _ hj];exact ho
  rw[((Ext.rf _).al b).block j (aBy.1 h1).1];exact h1)
 have Hx:=hid (fun(o:Obj)=>(hx.se (o:=0) hc (aA aB (k:Int))).al o);clear hn;by_cases h1:p < -1
 ·have hd:=hid (deF (p:=Bw p k) (fun h=>by have:=h.1;omega));go_enter func115,ntmps115
  go_wp2_with fail
  go_ret;exact⟨(congrArg (fun b=>Ending.returned (.bool (!b))) hd.out).symm,Hx.out _,Hend.out _,Hold.out _⟩
 ·by_cases h2:(k:Int)<=p
  ·have h2':(k:Int) - 1+1<=p:=by omega
   have hd:=hid (deF (p:=Bw p k) (fun h=>by have:=h.2;omega));go_enter func115,ntmps115
   go_wp2_with fail
   go_ret;exact⟨(congrArg (fun b=>Ending.returned (.bool (!b))) hd.out).symm,Hx.out _,Hend.out _,Hold.out _⟩
  ·have h2':¬ (k:Int) - 1+1<=p:=by omega
   have hd:=hid (deT (p:=Bw p k) ⟨by omega,by omega⟩);go_enter func115,ntmps115
   go_wp2_with fail
   go_ret;exact⟨(congrArg (fun b=>Ending.returned (.bool (!b))) hd.out).symm,Hx.out _,Hend.out _,Hold.out _⟩
open Go.RowKit Go.Maps Go.WideMaps
theorem aAV:Keyed prog 9:=string_keyed underlying9
theorem aAF (w:World):(zeroValue 3).run prog w=.ok (aA aB 0) w:=by kernel_rfl
def rW (bm k:Nat) (cnt:ByteArray->Nat) (W:World):Prop:=
 ∃ D:DataW Nat,W.ownsMap prog 9 (plainElem prog 3) bm k D/\∀ s:ByteArray,D.atKey (.string s.data.toList) (.lit (.int .i64 0))=.lit (.int .i64 (cnt s))
def Vl (cnt:ByteArray->Nat) (s:ByteArray):ByteArray->Nat:=fun t=>if t=s then cnt t+1 else cnt t
theorem Ji {W w1:World} {cm bm:Nat} {o b:Obj} (hm:W.heap[cm]?=aC b) (hg:(W.alloc o).grownBy w1 (aC bm)) (hne:cm≠bm):w1.heap[cm]?=aC b:=by
 have hlt:=(aBy.1 hm).1;have h1:=((Ext.rf W).al o).block cm hlt;rw[hg.block cm (by have:=((Ext.rf W).al o).size;omega) (fun e=>hne (Option.some.inj e)),h1];exact hm
theorem Vu {W w1:World} {bm:Nat} {o:Obj} (hg:(W.alloc o).grownBy w1 (aC bm)) (hbm:bm < W.heap.size):w1.heap[W.heap.size]?=aC o:=by
 have h1:=heap_alloc_new W o;rw[hg.block _ (aBy.1 h1).1 (fun e=>by have:=Option.some.inj e;omega)];exact h1
theorem aB1 (w0 W:World) (s:ByteArray) (p:Int) (a:Option Addr) (n cap:Nat) (cm bm k:Nat) (cnt:ByteArray->Nat) (hs:s.size<=9223372036854775807) (hk:k<=17592186044416) (hcnt:cnt s<=k) (hbm:w0.heap.size<=bm) (hcm:w0.heap.size<=cm) (hne:cm≠bm) (hx:Ext w0 W)
  (hm:W.heap[cm]?=some (.cells #[.map (some bm)] 160 (0,0))) (hC:rW bm k cnt W) :
  Calls prog 114 #[.agg #[.string s,.int .i64 p,.slice a n cap],.pointer (some ⟨cm,0,none⟩)] W fun e w'=>e=.returned (.bool (decide (0 < cnt s)))/\Ext w0 w'/\
   w'.heap[cm]?=some (.cells #[.map (some bm)] 160 (0,0))/\rW bm (k+1) (Vl cnt s) w'/\(∀ j o,j≠bm->W.heap[j]?=some o->w'.heap[j]?=some o):=by
 obtain⟨D,hown,hat⟩:=hC;have hcl:W.cell? ⟨cm,0,none⟩=some (.map (some bm)):=by rw[cell_of_row _ _ _ _ _ _ hm];rfl
 have hkey:keyOf prog 9 (.string s)=some (.string s.data.toList):=keyOf_string_mk underlying9 (by unfold maxLen;omega);have Hk:=hid hkey;have Hown:=hid hown;clear hkey hown;have hcw:=(aBy.1 hm).1;go_enter func114,ntmps114;have hcI:(cnt s:Int)+1<=17592186044417:=by omega
 have Hwf:=hid (show (Lit.int .i64 ((cnt s:Int)+1)).wf=true from WalkArith.wf_i64 ⟨by omega,by omega⟩);have hbW:bm < W.heap.size:=Hown.out.lt;have Hat:=hid hat;have Hm:=hid hm;clear hat hm
 go_wp2_with (first
  | (at_lookup;refine wpList_lookup_own_int _ rfl _ _ 160 rfl 9 3 .i64 aAV underlying160 underlying3 (aAF _) bm k _ rfl (Hown.out.alloc _) _ _ rfl Hk.out ?_;intro c hc hwc;(obtain rfl:c=(cnt s:Int):=by have:=hc.symm.trans (Hat.out s);simpa using this);clear hc hwc)
  | (at_mapUpdate;go_loud (refine wpList_mapUpdate_own _ rfl _ _ _ 160 rfl 9 3 aAV underlying160 _ bm k _ rfl (Hown.out.alloc _) (by unfold maxLen;omega) _ _ _ rfl rfl Hk.out _ [] (plainElem_int underlying3 Hwf.out) ?_);intro w1 hown1 hgrow1;have Hown1:=hid hown1;have Hgr:=hid hgrow1;have hm1:=Ji Hm.out hgrow1 hne;have hb1:=Vu hgrow1 hbW;have hcl1:=cell_of_row w1 cm 0 _ _ _ hm1;have hcl2:=cell_of_row w1 W.heap.size 0 _ _ _ hb1;have Hm1:=hid hm1;clear hown1 hgrow1 hm1 hb1)
  | (at_lookup;refine wpList_lookup_own_int _ rfl _ _ 160 rfl 9 3 .i64 aAV underlying160 underlying3 (aAF _) bm (k+1) _ rfl Hown1.out _ _ rfl Hk.out ?_;intro c hc hwc;(obtain rfl:c=(cnt s:Int)+1:=by have:=hc.symm.trans (atKey_put_same Hown.out.isMap (by simp[WideAt.IsKeyLit]) _ _);simpa using this);clear hc hwc))
 go_ret;refine⟨fD (decide_eq_decide.2 (by omega)),Below.grown (hx.al _) Hgr.out (hx.al _).size (fun j hj=>by cases hj;exact hbm),Hm1.out,⟨_,Hown1.out,fun t=>?_⟩,fun j o hj ho=>Ji ho Hgr.out hj⟩;unfold Vl;by_cases e:t=s
 ·subst e;rw[if_pos rfl,atKey_put_same Hown.out.isMap (by simp[WideAt.IsKeyLit])];simp
 ·rw[if_neg e,atKey_put_other (fun h=>e (by
   have h1:t.data.toList=s.data.toList:=by simpa using h
   cases t;cases s;simp at h1;simp[h1]))]
  exact Hat.out t
theorem rX (w0 w:World) (b off cap bl:Nat) (l:List Queue) (G:Nat) (lb:Array Value) (p:Nat->Bool) (I:Nat->World->Prop) (hl:l.length<=17592186044416) (hb:b < w0.heap.size)
  (hE:∀ k x,l[k]?=aC x->dS w0 b (off+k*3) x)
  (heg:∀ (args:Array Value) (w:World),(callFunc G args).run prog w=.ok (.enter G args) w)
  (hbl:w.cell? ⟨bl,0,aD⟩=aC (aE (aC ⟨b,off,aD⟩) l.length cap))
  (hI0:I 0 w) (hIx:∀ k W,I k W->Ext w0 W)
  (hp:∀ (k:Nat) (x:Queue),l[k]?=aC x->∀ W v,I k W->bC W v x.Cap->Calls prog G (#[.agg #[.string x.aQ,aA aB x.aR,v]]++lb) W fun e w'=>e=.returned (.bool (p k))/\I (k+1) w') :
  Calls prog 110 #[.func (.func G) #[] lb,.pointer (aC ⟨bl,0,aD⟩)] w fun e w'=>∃ c,e=.returned (.bool c)/\aA3 l.length p I c w':=by
 have C:=hid (wT w0 w b off cap l G lb p I hl hb hE heg hI0 hIx hp);clear hE hp hIx hI0;generalize l.length=n at *;go_enter func110,ntmps110
 go_wp2_with fail
 refine C.out.mono ?_;rintro e w1 ⟨c,rfl,hc⟩;have Hc:=hid hc;clear hc
 go_wp2_with fail
 go_ret;exact⟨_,rfl,Hc.out⟩
def nm (l:List Queue) (k:Nat):ByteArray:=(l.getD k default).aQ
def par (l:List Queue) (k:Nat):Int:=(l.getD k default).aR
def cp (l:List Queue) (k:Nat):List Run:=(l.getD k default).Cap
def sH (l:List Queue):Nat->ByteArray->Nat
 | 0,_=>0
 | k+1,s=>Vl (sH l k) (nm l k) s
theorem Uh (l:List Queue) (s:ByteArray):∀ k,sH l k s<=k
 | 0=>aBq _
 | k+1=>by
  have:=Uh l s k;simp only[sH,Vl];split <;> omega
theorem Fj (l:List Queue) (s:ByteArray):∀ k,0 < sH l k s↔∃ j,j < k/\nm l j=s
 | 0=>by simp[sH]
 | k+1=>by
  have ih:=Fj l s k;simp only[sH,Vl];constructor
  ·intro h;by_cases e:s=nm l k
   ·exact⟨k,by omega,e.symm⟩
   ·rw[if_neg e] at h;obtain⟨j,h1,h2⟩:=ih.1 h;exact⟨j,by omega,h2⟩
  ·rintro⟨j,h1,h2⟩;by_cases e:s=nm l k
   ·rw[if_pos e];omega
   ·rw[if_neg e];exact ih.2 ⟨j,by
     rcases Nat.lt_succ_iff_lt_or_eq.1 h1 with h | h
     ·exact h
     ·subst h;exact absurd h2.symm e,h2⟩
theorem fC {l:List Queue} {k:Nat} {x:Queue} (h:l[k]?=aC x):nm l k=x.aQ/\par l k=x.aR/\cp l k=x.Cap:=by
 have e:l.getD k default=x:=by simp[List.getD_eq_getElem?_getD,h]
 exact⟨by unfold nm;rw[e],by unfold par;rw[e],by unfold cp;rw[e]⟩
def p2 (l:List Queue) (k:Nat):Bool:=decide (¬ jS (nm l k))
def p3 (l:List Queue) (k:Nat):Bool:=decide (0 < sH l k (nm l k))
def p4 (l:List Queue) (k:Nat):Bool:=!decide (Bw (par l k) k)
def p5 (l:List Queue) (k:Nat):Bool:=decide (¬ fK (cp l k))
@[irreducible] def bM (l:List Queue):Int:=
 if¬ (1<=l.length/\l.length<=5) then 2
 else if(List.range l.length).any (p2 l) then 4
 else if(List.range l.length).any (p3 l) then 5
 else if(List.range l.length).any (p4 l) then 3
 else if(List.range l.length).any (p5 l) then 1
 else 0
theorem Fy {n:Nat} {p:Nat->Bool} (h:∃ k,k < n/\p k=true):(List.range n).any p=true:=by
 obtain⟨k,h1,h2⟩:=h;exact aC1.2 ⟨k,aC3.2 h1,h2⟩
theorem yK {n:Nat} {p:Nat->Bool} (h:∀ k,k < n->p k=false):(List.range n).any p=false:=
 aBY.2 (fun k hk=>by rw[h k (aC3.1 hk)];decide)
theorem xX {n:Nat} {p:Nat->Bool} {I:Nat->World->Prop} {c:Bool} {w:World} (h:aA3 n p I c w):c=(List.range n).any p/\∃ k,I k w:=by
 rcases h with ⟨rfl,h1,h2⟩ | ⟨rfl,h1,h2⟩
 ·exact⟨(yK h1).symm,_,h2⟩
 ·exact⟨(Fy h1).symm,h2⟩
theorem Ox (w:World) (o1 o2 o3 o4:Obj) :
  (((((w.alloc o1).alloc o2).alloc o3).alloc o4).heap[w.heap.size]?=aC o1)/\(((((w.alloc o1).alloc o2).alloc o3).alloc o4).heap[w.heap.size+1]?=aC o2)/\
  (((((w.alloc o1).alloc o2).alloc o3).alloc o4).heap[w.heap.size+1+1]?=aC o3)/\(((((w.alloc o1).alloc o2).alloc o3).alloc o4).heap[w.heap.size+1+1+1]?=aC o4)/\Ext w ((((w.alloc o1).alloc o2).alloc o3).alloc o4):=by
 have s1:(w.alloc o1).heap.size=w.heap.size+1:=by simp
 have s2:((w.alloc o1).alloc o2).heap.size=w.heap.size+1+1:=by simp
 have s3:(((w.alloc o1).alloc o2).alloc o3).heap.size=w.heap.size+1+1+1:=by simp
 have a1:=heap_alloc_new w o1;have a2:=heap_alloc_new (w.alloc o1) o2;have a3:=heap_alloc_new ((w.alloc o1).alloc o2) o3;have a4:=heap_alloc_new (((w.alloc o1).alloc o2).alloc o3) o4;rw[s1] at a2;rw[s2] at a3;rw[s3] at a4;have keep:∀ (W:World) (o b:Obj) (j:Nat),W.heap[j]?=aC b->(W.alloc o).heap[j]?=aC b:=fun W o b j h=>by
  rw[((Ext.rf W).al o).block j (aBy.1 h).1];exact h
 exact⟨keep _ _ _ _ (keep _ _ _ _ (keep _ _ _ _ a1)),keep _ _ _ _ (keep _ _ _ _ a2),keep _ _ _ _ a3,a4,((((Ext.rf w).al o1).al o2).al o3).al o4⟩
def Seen (w:World) (l:List Queue) (B bm cm cn:Nat) (ob:Obj) (k:Nat) (W:World):Prop:=
 Ext w W/\W.heap[cm]?=aC (.cells #[.map (aC bm)] 160 (0,0))/\rW bm k (sH l k) W/\W.heap[B]?=aC ob/\mE cn (-1) W
def aAE (w:World) (B cn:Nat) (ob:Obj) (k:Nat) (W:World):Prop:=Ext w W/\mE cn ((k:Int) - 1) W/\W.heap[B]?=aC ob
theorem Me {bm:Nat} {W:World} (h:W.heap[bm]?=aC (.map #[] 0)) (l:List Queue):rW bm 0 (sH l 0) W:=by
 obtain⟨es,clock,h1,h2⟩:=World.ownsMap_made (H:=Nat) W prog 9 (plainElem prog 3);rw[heap_alloc_new] at h1;have h3:=Option.some.inj h1;simp only[Obj.map.injEq] at h3;obtain⟨rfl,rfl⟩:=h3;exact⟨_,⟨#[],0,h,h2⟩,fun s=>rfl⟩
theorem De (w:World) (b off cap:Nat) (l:List Queue) (h1:l.length<=cap) (hl:l.length<=5) (h0:1<=l.length) (hb:b < w.heap.size) (hE:∀ k x,l[k]?=aC x->dS w b (off+k*3) x) :
  Calls prog 63 #[aE (aC ⟨b,off,aD⟩) l.length cap] w fun e w'=>e=.returned (aA aB (bM l))/\Ext w w':=by
 have hn1:¬ (l.length:Int) < 1:=by omega
 have hn2:¬ (5:Int) < (l.length:Int):=by omega
 have hmm:=@run_makeMap prog;obtain⟨n1,n2,n3,n4,hx4⟩:=Ox w (.cells #[aE (aC ⟨b,off,aD⟩) l.length cap] 22) (.map #[] 0) (.cells #[.map (aC (w.heap.size+1))] 160) (.cells #[aA aB (-1)] 3);have N1:=hid n1;have N2:=hid n2;have N3:=hid n3;have N4:=hid n4;have X4:=hid hx4;have c1:=cell_of_row _ _ 0 _ _ _ n1;have T2:=hid (fun(W:World) (hx:Ext w W) (hc:W.cell? ⟨w.heap.size,0,aD⟩=aC (aE (aC ⟨b,off,aD⟩) l.length cap))=>
  rX w W b off cap w.heap.size l 112 #[] (p2 l) (fun _ W'=>Ext W W') (by omega) hb hE (enters_of func112 (by kernel_rfl) rfl) hc (Ext.rf _) (fun _ _ h=>hx.tr h)
   (fun k x hk W' v hW hv=>by
    obtain⟨_,q2,_⟩:=hE k x hk;obtain⟨e1,e2,e3⟩:=fC hk;obtain⟨a,c,rfl,_⟩:=hv.form;exact(aB2 W' x.aQ x.aR a _ c q2).mono fun e w' ⟨he,hx'⟩=>⟨by rw[he];unfold p2;rw[e1],hW.tr hx'⟩))
 have T5:=hid (fun(W:World) (hx:Ext w W) (hc:W.cell? ⟨w.heap.size,0,aD⟩=aC (aE (aC ⟨b,off,aD⟩) l.length cap))=>
  rX w W b off cap w.heap.size l 116 #[] (p5 l) (fun _ W'=>Ext W W') (by omega) hb hE (enters_of func116 (by kernel_rfl) rfl) hc (Ext.rf _) (fun _ _ h=>hx.tr h)
   (fun k x hk W' v hW hv=>by
    obtain⟨e1,e2,e3⟩:=fC hk;exact(aAZ W' x.aQ x.aR v x.Cap hv).mono fun e w' ⟨he,hx'⟩=>⟨by rw[he];unfold p5;rw[e3],hW.tr hx'⟩))
 have T4:=hid (fun(W:World) (hx:Ext w W) (hc:W.heap[w.heap.size]?=aC (.cells #[aE (aC ⟨b,off,aD⟩) l.length cap] 22 (0,0))) (hn:mE (w.heap.size+1+1+1) (-1) W)=>
  rX w W b off cap w.heap.size l 115 #[.pointer (aC ⟨w.heap.size+1+1+1,0,aD⟩)] (p4 l) (aAE w w.heap.size (w.heap.size+1+1+1) (.cells #[aE (aC ⟨b,off,aD⟩) l.length cap] 22 (0,0))) (by omega) hb hE (enters_of func115 (by kernel_rfl) rfl) (by rw[cell_of_row _ _ _ _ _ _ hc];rfl) ⟨hx,hn,hc⟩ (fun _ _ h=>h.1)
   (fun k x hk W' v hW hv=>by
    obtain⟨e1,e2,e3⟩:=fC hk;obtain⟨a,c,rfl,_⟩:=hv.form;exact(aB0 w W' x.aQ x.aR a _ c (w.heap.size+1+1+1) k (by have:=(aBD.1 hk).1;omega) (by omega) hW.1 hW.2.1).mono fun e w' ⟨he,hx',hn',ho⟩=>
     ⟨by rw[he];unfold p4;rw[e2],hx',by rw[show (((k+1:Nat):Int) - 1)=(k:Int) by omega];exact hn',ho _ _ (by omega) hW.2.2⟩))
 have T3:=hid (fun(W:World) (hx:Ext ((((w.alloc (.cells #[aE (aC ⟨b,off,aD⟩) l.length cap] 22)).alloc (.map #[] 0)).alloc (.cells #[.map (aC (w.heap.size+1))] 160)).alloc (.cells #[aA aB (-1)] 3)) W) (hC:rW (w.heap.size+1) 0 (sH l 0) W)=>
  have keep:∀ (j:Nat) (o:Obj),_->W.heap[j]?=aC o:=fun j o (h:((((w.alloc (.cells #[aE (aC ⟨b,off,aD⟩) l.length cap] 22)).alloc (.map #[] 0)).alloc (.cells #[.map (aC (w.heap.size+1))] 160)).alloc (.cells #[aA aB (-1)] 3)).heap[j]?=aC o)=>by
   rw[hx.block j (aBy.1 h).1];exact h
  rX w W b off cap w.heap.size l 114 #[.pointer (aC ⟨w.heap.size+1+1,0,aD⟩)] (p3 l) (Seen w l w.heap.size (w.heap.size+1) (w.heap.size+1+1) (w.heap.size+1+1+1) (.cells #[aE (aC ⟨b,off,aD⟩) l.length cap] 22 (0,0))) (by omega) hb hE (enters_of func114 (by kernel_rfl) rfl) (by rw[cell_of_row _ _ _ _ _ _ (keep _ _ n1)];rfl)
   ⟨hx4.tr hx,keep _ _ n3,hC,keep _ _ n1,keep _ _ n4⟩ (fun _ _ h=>h.1)
   (fun k x hk W' v hW hv=>by
    obtain⟨_,q2,_⟩:=hE k x hk;obtain⟨e1,e2,e3⟩:=fC hk;obtain⟨a,c,rfl,_⟩:=hv.form;obtain⟨s1,s2,s3,s4,s5⟩:=hW;exact(aB1 w W' x.aQ x.aR a _ c (w.heap.size+1+1) (w.heap.size+1) k (sH l k) q2 (by have:=(aBD.1 hk).1;omega) (Uh _ _ _) (by omega) (by omega) (by omega) s1 s2 s3).mono fun e w' ⟨he,hx',hm',hC',ho⟩=>
     ⟨by rw[he];unfold p3;rw[e1],hx',hm',by show rW _ _ (Vl (sH l k) (nm l k)) _;rw[e1];exact hC',ho _ _ (by omega) s4,ho _ _ (by omega) s5⟩))
 clear hE n1 n2 n3 n4 hx4;have hck:bM l=if(List.range l.length).any (p2 l) then 4 else if(List.range l.length).any (p3 l) then 5 else if(List.range l.length).any (p4 l) then 3 else if(List.range l.length).any (p5 l) then 1 else 0:=by
  unfold bM;rw[if_neg (by omega)]
 have Hck:=hid hck;clear hck;go_enter func63,ntmps63
 go_wp2_with fail
 refine(T2.out _ X4.out c1).mono ?_;rintro e w1 ⟨c,rfl,hc⟩;obtain⟨hcv,_,hx1⟩:=xX hc;clear hc T2;have HX1:=hid hx1;have hC0:rW (w.heap.size+1) 0 (sH l 0) w1:=by
  have h2:w1.heap[w.heap.size+1]?=aC (.map #[] 0):=by rw[hx1.block _ (aBy.1 N2.out).1];exact N2.out
  exact Me h2 l
 cases c with
 | true=>
  have Hr:=hid (show bM l=4 from by rw[Hck.out,<- hcv,if_pos rfl]);clear hcv
  go_wp2_with fail
  go_ret;exact⟨bB Hr.out.symm,X4.out.tr hx1⟩
 | false=>
  rw[<- hcv,if_neg (by decide)] at Hck;clear hcv;have T3':=hid (T3.out w1 hx1 hC0);clear T3 hC0;have c11:=hx1.ce' c1
  go_wp2_with fail
  refine T3'.out.mono ?_;rintro e w2 ⟨c,rfl,hc⟩;obtain⟨hcv,k3,s1,s2,s3,s4,s5⟩:=xX hc;have S1:=hid s1;have T4':=hid (T4.out w2 s1 s4 s5);clear hc T3' T4 s2 s3 s5 c11;have c12:=cell_of_row _ _ 0 _ _ _ s4;cases c with
  | true=>
   have Hr:=hid (show bM l=5 from by rw[Hck.out,<- hcv,if_pos rfl]);clear hcv
   go_wp2_with fail
   go_ret;exact⟨bB Hr.out.symm,s1⟩
  | false=>
   rw[<- hcv,if_neg (by decide)] at Hck;clear hcv s4
   go_wp2_with fail
   refine T4'.out.mono ?_;rintro e w3 ⟨c,rfl,hc⟩;obtain⟨hcv,k4,u1,u2,u3⟩:=xX hc;have c13:=cell_of_row _ _ 0 _ _ _ u3;have T5':=hid (T5.out w3 u1 c13);clear hc T4' T5 u2 u3 c12;cases c with
   | true=>
    have Hr:=hid (show bM l=3 from by rw[Hck.out,<- hcv,if_pos rfl]);clear hcv
    go_wp2_with fail
    go_ret;exact⟨bB Hr.out.symm,u1⟩
   | false=>
    rw[<- hcv,if_neg (by decide)] at Hck;clear hcv
    go_wp2_with fail
    refine T5'.out.mono ?_;rintro e w4 ⟨c,rfl,hc⟩;obtain⟨hcv,k5,u4⟩:=xX hc;clear hc T5' c13;cases c with
    | true=>
     have Hr:=hid (show bM l=1 from by rw[Hck.out,<- hcv,if_pos rfl]);clear hcv
     go_wp2_with fail
     go_ret;exact⟨bB Hr.out.symm,u1.tr u4⟩
    | false=>
     have Hr:=hid (show bM l=0 from by rw[Hck.out,<- hcv,if_neg (by decide)]);clear hcv
     go_wp2_with fail
     go_ret;exact⟨bB Hr.out.symm,u1.tr u4⟩
theorem mT (w:World) (v:Value) (l:List Queue) (hv:aX w v l) :
  Calls prog 63 #[v] w fun e w'=>e=.returned (aA aB (bM l))/\Ext w w':=by
 by_cases h:1<=l.length/\l.length<=5
 ·rcases hv with ⟨rfl,a0,c0,rfl,hc0⟩ | ⟨b,off,cap,rfl,h1,h2,h3,⟨h4,_⟩,h5⟩
  ·exact absurd h.1 (by simp)
  ·exact De w b off cap l h1 h.2 h.1 h4 h5
 ·have hr:bM l=2:=by unfold bM;rw[if_pos h]
  rw[hr];obtain⟨a,cap,rfl,_,_,_⟩:=hv.form;clear hv hr;generalize l.length=n at *;have hmm:=@run_makeMap prog;have hx:=hid (fun(o1 o2 o3 o4:Obj)=>(((((Ext.rf w).al o1).al o2).al o3).al o4));by_cases h1:(n:Int) < 1
  ·clear h;go_enter func63,ntmps63
   go_wp2_with fail
   go_ret;exact⟨rfl,hx.out _ _ _ _⟩
  ·have h2:(5:Int) < (n:Int):=by omega
   clear h;go_enter func63,ntmps63
   go_wp2_with fail
   go_ret;exact⟨rfl,hx.out _ _ _ _⟩
theorem nameT {x y:ByteArray} (h:x=y):(x.toList == y.toList)=true:=by rw[h];simp
theorem nameF {x y:ByteArray} (h:¬ x=y):(x.toList == y.toList)=false:=by
 rw[beq_eq_false_iff_ne];intro e;rw[ByteArray.toList_eq,ByteArray.toList_eq] at e;exact h (by cases x;cases y;simp at e;simp[e])
theorem rQ {p:Nat->Bool} {k:Nat} (h:∀ j,j < k->p j=false) (hk:p k=false):∀ j,j < k+1->p j=false:=fun j hj=>if e:j=k then e▸hk else h j (by omega)
theorem Tu {l:List Queue} {i k:Nat} (h:i < k) (e:nm l i=nm l k):p3 l k=true:=by
 unfold p3;exact decide_eq_true ((Fj l _ k).2 ⟨i,h,e⟩)
theorem Yh {l:List Queue} {k:Nat} (h:∀ i,i < k->nm l i≠nm l k):p3 l k=false:=by
 unfold p3;exact decide_eq_false (fun h'=>by obtain⟨j,h1,h2⟩:=(Fj l _ k).1 h';exact h j h1 h2)
theorem Fk (w:World) (b off cap:Nat) (l:List Queue) (h1:l.length<=cap) (hl:l.length<=5) (h0:1<=l.length) (hb:b < w.heap.size) (hE:∀ k x,l[k]?=aC x->dS w b (off+k*3) x) :
  Calls prog 26 #[aE (aC ⟨b,off,aD⟩) l.length cap] w fun e w'=>e=.returned (aA aB (bM l))/\Ext w w':=by
 have HE:=hid hE;have W1:=hid (fun(W:World)=>cE (l.length:Int) 1 5 W (by omega) (by omega));have hck:bM l=if(List.range l.length).any (p2 l) then 4 else if(List.range l.length).any (p3 l) then 5 else if(List.range l.length).any (p4 l) then 3 else if(List.range l.length).any (p5 l) then 1 else 0:=by
  unfold bM;rw[if_neg (by omega)]
 have Hck:=hid hck;clear hck hE;generalize hn:l.length=n at *;have Hn:=hid hn;clear hn;go_enter func26,ntmps26
 go_wp2_with fail
 refine(W1.out _).mono ?_;rintro e w1 ⟨rfl,rfl⟩
 go_wp2_with fail
 go_loopw [3] (fun c wr=>∃ k:Nat,c=aA aB k/\k<=n/\Hid (∀ j,j < k->p2 l j=false)/\Ext w1 wr) (fun c _=>n - (intOf c).toNat)
 case atStart=>exact⟨0,rfl,by omega,fun j hj=>absurd hj (aBn _),Ext.rf _⟩
 case round=>
  obtain⟨k,rfl,hk,Hall,hx⟩:=hrel;by_cases hlt:k < n
  ·have hlt':(k:Int) < (n:Int):=by omega
   obtain⟨x,hxk⟩:=Ma (l:=l) (k:=k) (by rw[Hn.out];exact hlt);obtain⟨c1,c2,c3,c4,v,c5,hv⟩:=dS.mono w1 wr b _ x hx (HE.out k x hxk);obtain⟨e1,e2,e3⟩:=fC hxk;have C:=hid (fun(W:World)=>Th W x.aQ c2);by_cases hnm:jS x.aQ
   ·rw[deT hnm] at C;have Hs:=hid (rQ Hall.out (show p2 l k=false from by unfold p2;rw[e1];exact decide_eq_false (fun h=>h hnm)));clear hnm hv e1 e2 e3 hxk Hall
    go_wp2_with fail
    refine(C.out _).mono ?_;rintro e w2 ⟨rfl,hx2⟩
    go_wp2_with fail
    go_roundw
    case rel=>exact⟨k+1,by go_num,by omega,Hs,hx.tr hx2⟩
    case measure=>simp[intOf];omega
   ·rw[deF hnm] at C;have Hr:=hid (show bM l=4 from by rw[Hck.out,if_pos (Fy ⟨k,hlt,by unfold p2;rw[e1];exact decide_eq_true hnm⟩)]);clear hnm hv e1 e2 e3 hxk Hall
    go_wp2_with fail
    refine(C.out _).mono ?_;rintro e w2 ⟨rfl,hx2⟩
    go_wp2_with fail
    go_ret;exact⟨bB Hr.out.symm,hx.tr hx2⟩
  ·have hlt':¬ (k:Int) < (n:Int):=by omega
   obtain rfl:k=n:=by omega
   have Hck2:=hid (show bM l=if(List.range k).any (p3 l) then 5 else if(List.range k).any (p4 l) then 3 else if(List.range k).any (p5 l) then 1 else 0 from by rw[Hck.out,if_neg (by rw[yK Hall.out];decide)]);clear Hck Hall;have hkk:(1:Nat)<=k:=h0
   go_wp2_with fail
   go_loopw [4] (fun c wr=>∃ m:Nat,c=aA aB m/\m<=k/\Hid (∀ j,j < m->p3 l j=false)/\Ext w1 wr) (fun c _=>k - (intOf c).toNat)
   case atStart=>exact⟨0,rfl,by omega,fun j hj=>absurd hj (aBn _),hx⟩
   case round=>
    obtain⟨m,rfl,hm,Hall,hx⟩:=hrel;by_cases hlt:m < k
    ·have hlt':(m:Int) < (k:Int):=by omega
     obtain⟨x,hxk⟩:=Ma (l:=l) (k:=m) (by rw[Hn.out];exact hlt);have Hxk:=hid hxk;clear hxk
     go_wp2_with fail
     go_loopw [5] (fun c wr=>∃ i:Nat,c=aA aB i/\i<=m/\Hid (∀ j,j < i->nm l j≠nm l m)/\Ext w1 wr) (fun c _=>m - (intOf c).toNat)
     case atStart=>exact⟨0,rfl,by omega,fun j hj=>absurd hj (aBn _),hx⟩
     case round=>
      obtain⟨i,rfl,hi,HallI,hx⟩:=hrel;by_cases hlti:i < m
      ·have hlti':(i:Int) < (m:Int):=by omega
       obtain⟨y,hyk⟩:=Ma (l:=l) (k:=i) (by rw[Hn.out];omega);obtain⟨c1,_⟩:=dS.mono w1 wr b _ x hx (HE.out m x Hxk.out);obtain⟨d1,_⟩:=dS.mono w1 wr b _ y hx (HE.out i y hyk);obtain⟨e1,_,_⟩:=fC Hxk.out;obtain⟨f1,_,_⟩:=fC hyk;by_cases heq:y.aQ=x.aQ
       ·have hbe:=nameT heq;have Hr:=hid (show bM l=5 from by rw[Hck2.out,if_pos (Fy ⟨m,hlt,Tu hlti (by rw[e1,f1,heq])⟩)]);clear heq e1 f1 hyk HallI Hall
        go_wp2_with fail
        go_quiet (fail)
        go_wp2_with fail
        go_ret;exact⟨bB Hr.out.symm,hx.dn _⟩
       ·have hbe:=nameF heq;have Hs:=hid (show ∀ j,j < i+1->nm l j≠nm l m from fun j hj=>if e:j=i then by rw[e,f1,e1];exact heq else HallI.out j (by omega));clear heq e1 f1 hyk HallI
        go_wp2_with fail
        go_quiet (fail)
        go_wp2_with fail
        go_roundw
        case rel=>exact⟨i+1,by go_num,by omega,Hs,hx.dn _⟩
        case measure=>simp[intOf];omega
      ·have hlti':¬ (i:Int) < (m:Int):=by omega
       obtain rfl:i=m:=by omega
       have Hs:=hid (rQ Hall.out (Yh HallI.out));clear HallI Hall
       go_wp2_with fail
       go_roundw
       case rel=>exact⟨i+1,by go_num,by omega,Hs,hx⟩
       case measure=>simp[intOf];omega
    ·have hlt':¬ (m:Int) < (k:Int):=by omega
     obtain rfl:m=k:=by omega
     have Hck3:=hid (show bM l=if(List.range m).any (p4 l) then 3 else if(List.range m).any (p5 l) then 1 else 0 from by rw[Hck2.out,if_neg (by rw[yK Hall.out];decide)]);clear Hck2 Hall
     go_wp2_with fail
     go_loopw [6] (fun c wr=>∃ i:Nat,c=aA aB i/\i<=m/\Hid (∀ j,j < i->p4 l j=false)/\Ext w1 wr) (fun c _=>m - (intOf c).toNat)
     case atStart=>exact⟨0,rfl,by omega,fun j hj=>absurd hj (aBn _),hx⟩
     case round=>
      obtain⟨i,rfl,hi,Hall,hx⟩:=hrel;by_cases hlti:i < m
      ·have hlti':(i:Int) < (m:Int):=by omega
       obtain⟨y,hyk⟩:=Ma (l:=l) (k:=i) (by rw[Hn.out];omega);obtain⟨_,_,d3,d4,_⟩:=dS.mono w1 wr b _ y hx (HE.out i y hyk);obtain⟨_,f1,_⟩:=fC hyk;by_cases hpo:Bw y.aR i
       ·have C:=hid (fun(W:World)=>cE y.aR (-1) ((i:Int) - 1) W hpo.1 (by have:=hpo.2;omega));have Hs:=hid (rQ Hall.out (show p4 l i=false from by unfold p4;rw[f1,deT hpo];rfl));clear hpo f1 hyk Hall
        go_wp2_with fail
        refine(C.out _).mono ?_;rintro e w5 ⟨rfl,rfl⟩
        go_wp2_with fail
        go_roundw
        case rel=>exact⟨i+1,by go_num,by omega,Hs,hx⟩
        case measure=>simp[intOf];omega
       ·have C:=hid (fun(W:World)=>dU y.aR (-1) ((i:Int) - 1) W (fun h=>hpo ⟨h.1,by have:=h.2;omega⟩));have Hr:=hid (show bM l=3 from by rw[Hck3.out,if_pos (Fy ⟨i,hlti,by unfold p4;rw[f1,deF hpo];rfl⟩)]);clear hpo f1 hyk Hall
        go_wp2_with fail
        refine(C.out _).mono ?_;rintro e w5 ⟨rfl,rfl⟩
        go_wp2_with fail
        go_ret;exact⟨bB Hr.out.symm,hx⟩
      ·have hlti':¬ (i:Int) < (m:Int):=by omega
       obtain rfl:i=m:=by omega
       have Hck4:=hid (show bM l=if(List.range i).any (p5 l) then 1 else 0 from by rw[Hck3.out,if_neg (by rw[yK Hall.out];decide)]);clear Hck3 Hall
       go_wp2_with fail
       go_loopw [7] (fun c wr=>∃ j:Nat,c=aA aB j/\j<=i/\Hid (∀ r,r < j->p5 l r=false)/\Ext w1 wr) (fun c _=>i - (intOf c).toNat)
       case atStart=>exact⟨0,rfl,by omega,fun j hj=>absurd hj (aBn _),hx⟩
       case round=>
        obtain⟨j,rfl,hj,Hall,hx⟩:=hrel;by_cases hltj:j < i
        ·have hltj':(j:Int) < (i:Int):=by omega
         obtain⟨y,hyk⟩:=Ma (l:=l) (k:=j) (by rw[Hn.out];omega);obtain⟨_,_,_,_,v,d5,hv⟩:=dS.mono w1 wr b _ y hx (HE.out j y hyk);obtain⟨_,_,f1⟩:=fC hyk;have C:=hid (fun(W:World) (h:Ext wr W)=>nQ W v y.Cap (hv.mono h));obtain⟨va,vc,rfl,_⟩:=hv.form;by_cases hpo:fK y.Cap
         ·rw[deT hpo] at C;have Hs:=hid (rQ Hall.out (show p5 l j=false from by unfold p5;rw[f1];exact decide_eq_false (fun h=>h hpo)));clear hpo f1 hyk Hall hv;generalize y.Cap.length=cn at *
          go_wp2_with fail
          refine(C.out _ (Ext.rf _)).mono ?_;rintro e w6 ⟨rfl,hx6⟩
          go_wp2_with fail
          go_roundw
          case rel=>exact⟨j+1,by go_num,by omega,Hs,hx.tr hx6⟩
          case measure=>simp[intOf];omega
         ·rw[deF hpo] at C;have Hr:=hid (show bM l=1 from by rw[Hck4.out,if_pos (Fy ⟨j,hltj,by unfold p5;rw[f1];exact decide_eq_true hpo⟩)]);clear hpo f1 hyk Hall hv;generalize y.Cap.length=cn at *
          go_wp2_with fail
          refine(C.out _ (Ext.rf _)).mono ?_;rintro e w6 ⟨rfl,hx6⟩
          go_wp2_with fail
          go_ret;exact⟨bB Hr.out.symm,hx.tr hx6⟩
        ·have hltj':¬ (j:Int) < (i:Int):=by omega
         obtain rfl:j=i:=by omega
         have Hr:=hid (show bM l=0 from by rw[Hck4.out,if_neg (by rw[yK Hall.out];decide)]);clear Hck4 Hall
         go_wp2_with fail
         go_ret;exact⟨bB Hr.out.symm,hx⟩
theorem vM (w:World) (v:Value) (l:List Queue) (hv:aX w v l) :
  Calls prog 26 #[v] w fun e w'=>e=.returned (aA aB (bM l))/\Ext w w':=by
 by_cases h:1<=l.length/\l.length<=5
 ·rcases hv with ⟨rfl,a0,c0,rfl,hc0⟩ | ⟨b,off,cap,rfl,h1,h2,h3,⟨h4,_⟩,h5⟩
  ·exact absurd h.1 (by simp)
  ·exact Fk w b off cap l h1 h.2 h.1 h4 h5
 ·have hr:bM l=2:=by unfold bM;rw[if_pos h]
  rw[hr];have W1:=hid (dU (l.length:Int) 1 5 w (by omega));obtain⟨a,cap,rfl,_,_,_⟩:=hv.form;clear hv hr h;generalize l.length=n at *;go_enter func26,ntmps26
  go_wp2_with fail
  refine W1.out.mono ?_;rintro e w1 ⟨rfl,rfl⟩
  go_wp2_with fail
  go_ret;exact⟨rfl,Ext.rf _⟩
def Gd {β:Type} (q:Nat) (J:β->World->Prop):Prop:=
 ∀ s W W' row,J s W->W.grownBy W' row->(∀ r,row=aC r->r=q)->J s W'
structure eH (bs:List Nat) (W W':World):Prop where
 size:W.heap.size<=W'.heap.size
 same:∀ j∈bs,j < W.heap.size->W'.heap[j]?=W.heap[j]?
theorem eH.rf (bs:List Nat) (W:World):eH bs W W:=⟨aBq _,fun _ _ _=>rfl⟩
theorem eH.tr {bs:List Nat} {A B C:World} (h:eH bs A B) (k:eH bs B C):eH bs A C:=
 ⟨aC4 h.size k.size,fun j hj hl=>(k.same j hj (aBA hl h.size)).trans (h.same j hj hl)⟩
theorem eH.ext {bs:List Nat} {A B:World} (h:Ext A B):eH bs A B:=⟨h.size,fun j _ hl=>h.block j hl⟩
theorem eH.grown {bs:List Nat} {A B:World} {row:Option Nat} (hg:A.grownBy B row) (hr:∀ r,row=aC r->r∉bs):eH bs A B:=
 ⟨hg.size,fun j hj hl=>hg.block j hl (fun e=>hr j e.symm hj)⟩
theorem eH.se {bs:List Nat} {A:World} {b:Nat} (v:Value) (hb:b∉bs):eH bs A (A.setCell ⟨b,0,aD⟩ v):=
 eH.grown (grownBy_setCell' A b v) (fun r e=>by cases e;exact hb)
theorem eH.put {bs:List Nat} {n:Nat} (hn:∀ j∈bs,j < n) (W:World) (l:Nat) (o o':Obj) (hl:n<=l) (_:W.heap[l]?=aC o) (_:o.isCells=false) (_:o.isWalk=false):eH bs W (W.putObj l o'):=
 eH.grown (grownBy_putObj' W l o') (fun r e hr=>by cases e;have:=hn _ hr;omega)
theorem KeepsFrom.ext {B:Nat} {W W':World} (h:Ext W W'):KeepsFrom B W W':=⟨h.size,fun k o _ hk _=>by rw[h.block k (aBy.1 hk).1];exact hk⟩
theorem KeepsFrom.se {B:Nat} (W:World) (b:Nat) (v:Value):KeepsFrom B W (W.setCell ⟨b,0,aD⟩ v):=(KeepsOthers.setCell W _ v).from B
def Zt {α:Type} (n:Nat) (P:Program) (g:Nat) (lb:Array Value) (encs:α->Array Value) (Kp:World->World->Prop) (S Sp:List α->Prop) (N q:Nat) (w:World):Prop:=
 ∀ (l:Nat) (J Jx:List α->World->Prop) (W:World),Below w.heap.size w W->Gd q J->Gd q Jx->
  (∀ pre x W1,J pre W1->pre.length < N->YieldAt Fence.wide (n - 1) P l (encs x) W1 fun e W'=>
   (e=.returned (.bool true)/\J (pre++[x]) W'/\Kp W1 W')\/(e=.returned (.bool false)/\Jx (pre++[x]) W'))->
  J [] W->
  CallsIn Fence.wide n P g (#[.func (.yield l) #[] #[]]++lb) W fun e W'=>(∃ v,e=.returned v)/\((∃ xs,S xs/\J xs W')\/(∃ pre,Sp pre/\Jx pre W'))
variable {P:Program}
def Yb (fn:FuncId) (tmps:Array Value) (ps:Array Tmp) (assign body:Code) (D:Nat) (st:LoopState) (pe:Option Code):Loop:=
 { state:=st,pending:=pe,fn:=fn,tmps:=tmps,params:=ps,assign:=assign,body:=body,defers:=D }
theorem vN {α:Type} {n:Nat} {g:Operand} {ps:Array Tmp} {assign body:Code} {Q:Exit->Act->World->Prop} {a:Act} {w:World} (h1:1<=n) {gf:Nat} {lb:Array Value} (hg:a.eval g=.func (.func gf) #[] lb)
  (eg:∀ args w,(callFunc gf args).run P w=.ok (.enter gf args) w) {encs:α->Array Value} {Kp:World->World->Prop} {S Sp:List α->Prop} {N q:Nat} {w0:World} (hseq:Zt (n - 1) P gf lb encs Kp S Sp N q w0)
  (hKt:∀ {A B C:World},Kp A B->Kp B C->Kp A C) (hKb:∀ (W:World) (l:Nat) (o o':Obj),w.heap.size<=l->W.heap[l]?=aC o->o.isCells=false->o.isWalk=false->Kp W (W.putObj l o'))
  (hb0:Below w0.heap.size w0 w) (hq:q < w.heap.size) (hps:∀ x,(encs x).size=ps.size)
  (I:List α->World->Prop) (Ix:Code->List α->World->Prop) (hI:OwnFrom w.heap.size I) (hIx:∀ c,OwnFrom w.heap.size (Ix c)) (hIq:Gd q I) (hIxq:∀ c,Gd q (Ix c)) (h0:I [] w) (a₁:α->Act)
  (hassign:∀ (l:Nat) (x:α) (W:World) (K:Act->World->Prop),K (a₁ x) W->
   assign.wpIn (Fence.wide.inRound l) (n - 1 - 1) P (Exit.then K (fun _ _ _=>False)) { tmps:=(ps.zip (encs x)).foldl (fun t (p,v)=>t.setIfInBounds p v) a.tmps,defers:=[]} W)
  (hbody:∀ (l:Nat) (pre:List α) (x:α) (W:World),I pre W->pre.length < N->body.wpIn (Fence.wide.inRound l) (n - 1 - 1) P (ownPostG w.heap.size Kp I Ix (pre++[x]) W) (a₁ x) W)
  (hdone:∀ (D:Nat) (xs:List α) (W:World),w.heap.size<=D->S xs->I xs W->W.heap[D]?=aC (.deferred (aC []))->Q .normal { a with defers:={ target:=.collected D,args:=#[]}::a.defers } W)
  (hstop:∀ (D:Nat) (c:Code) (pre:List α) (W:World),w.heap.size<=D->Sp pre->Ix c pre W->W.heap[D]?=aC (.deferred (aC []))->c.wpIn Fence.wide n P Q { a with defers:={ target:=.collected D,args:=#[]}::a.defers } W) :
  (Code.rangeFunc g ps assign body).wpIn Fence.wide n P Q a w:=by
 refine wpIn_rangeFunc (fun fn hfn=>?_);obtain⟨D,hD⟩:∃ D,w.heap.size=D:=⟨_,rfl⟩
 let R:=Yb fn a.tmps ps assign body D
 let wd:=w.alloc (.deferred (aC []))
 let wl:=wd.alloc (.loop (R .ready aD))
 have hsd:wd.heap.size=D+1:=by simp[wd,hD]
 have hL:wl.heap[D+1]?=aC (.loop (R .ready aD)):=by rw[<- hsd];exact aC5 wd _
 have hDf:wl.heap[D]?=aC (.deferred (aC [])):=(Below.heap_alloc _ _ _ (by omega)).trans (by rw[<- hD];exact aC5 w _);have hIl:I [] wl:=hI.alloc _ (hI.alloc _ h0);have hbl:Below w0.heap.size w0 wl:=hb0.trans ((((Below.refl _ w).alloc (aBq _) _).alloc (by simp) _).mono hb0.size);have hqD:q < D:=by omega
 let J:List α->World->Prop:=fun pre W=>I pre W/\W.heap[D+1]?=aC (.loop (R .ready aD))/\W.heap[D]?=aC (.deferred (aC []))
 let Jx:List α->World->Prop:=fun pre W=>∃ c,Ix c pre W/\W.heap[D+1]?=aC (.loop (R .done (aC c)))/\W.heap[D]?=aC (.deferred (aC []))
 have keep:∀ {A B:World} {row:Option Nat} {j:Nat} {o:Obj},A.grownBy B row->(∀ r,row=aC r->r=q)->D<=j->A.heap[j]?=aC o->B.heap[j]?=aC o:=fun hg' hr hj ho=>
  (hg'.block _ (aBy.1 ho).1 (fun e=>by have:=hr _ e.symm;omega)).trans ho
 have tJ:Gd q J:=fun s A B row h hg' hr=>⟨hIq s A B row h.1 hg' hr,keep hg' hr (by omega) h.2.1,keep hg' hr (aBq _) h.2.2⟩;have tJx:Gd q Jx:=fun s A B row ⟨c,h,h2,h3⟩ hg' hr=>⟨c,hIxq c s A B row h hg' hr,keep hg' hr (by omega) h2,keep hg' hr (aBq _) h3⟩;refine⟨D+1,[{ target:=.collected D,args:=#[]}],wl,{ target:=.fn (.func gf) lb,args:=#[.func (.yield (D+1)) #[] #[]]},wl,gf,#[.func (.yield (D+1)) #[] #[]]++lb,wl,?_,?_,fun _ _=>trivial,?_,fun _=>h1,?_⟩
 ·have:=run_enterLoop_outer (P:=P) (w:=w) fn a.tmps ps assign body;rw[hD] at this;exact this
 ·simp only[resolve,hg];simp[go_sem]
 ·simp[invoke,go_sem,eg]
 ·refine(hseq (D+1) J Jx wl hbl tJ tJx (fun pre x W hJ hlen=>?_) ⟨hIl,hL,hDf⟩).mono ?_
  ·obtain⟨hi,hl,hk⟩:=hJ;have hlt:D+1 < W.heap.size:=(aBy.1 hl).1;refine⟨fn,_,assign,body,run_yield (P:=P) (args:=encs x) hl (hps x),roundIn_of_wpIn hfn (hassign _ x W _ ⟨_,run_beginRound hl rfl,?_⟩)⟩;obtain⟨W2,hW2⟩:∃ W2,W.putObj (D+1) (.loop { R .ready aD with state:=.busy })=W2:=⟨_,rfl⟩;have hl2:W2.heap[D+1]?=aC (.loop { R .ready aD with state:=.busy }):=by rw[<- hW2];exact aC6 hlt
   have hk2:W2.heap[D]?=aC (.deferred (aC [])):=by rw[<- hW2];exact(aC7 (by omega)).trans hk
   have hp2:Kp W W2:=by rw[<- hW2];exact hKb _ _ _ _ (by omega) hl rfl rfl
   have hi2:I pre W2:=by rw[<- hW2];exact hI.putObj _ hi (by omega) hl rfl
   show body.wpIn _ _ _ _ _ (W.putObj (D+1) (.loop { R .ready aD with state:=.busy }));rw[hW2];refine wpIn_mono (hbody _ pre x _ hi2 hlen) ?_;have fin:∀ (jump:Option Code) (W3:World),KeepsFrom w.heap.size W2 W3->
     ∃ W4,(Instr.endRound (D+1) jump).run P W3=.ok (.bool jump.isNone) W4/\W4=W3.putObj (D+1) (.loop (R (if jump.isNone then .ready else .done) jump))/\
      W3.heap[D+1]?=aC (.loop { R .ready aD with state:=.busy })/\W4.heap[D+1]?=aC (.loop (R (if jump.isNone then .ready else .done) jump))/\W4.heap[D]?=aC (.deferred (aC [])):=fun jump W3 hk3=>by
    have hl3:=hk3.same _ _ (by omega) hl2 rfl;exact⟨_,run_endRound (P:=P) jump hl3,rfl,hl3,aC6 (aBy.1 hl3).1,(aC7 (by omega)).trans (hk3.same _ _ (by omega) hk2 rfl)⟩
   rintro e a3 W3 hp;cases e with
   | normal=>
    obtain⟨hk3,hkp3,hi3⟩:=hp;obtain⟨W4,hr,rfl,hl3,hl4,hk4⟩:=fin aD W3 hk3;exact⟨_,_,hr,.inl ⟨rfl,⟨hI.putObj _ hi3 (by omega) hl3 rfl,hl4,hk4⟩,hKt (hKt hp2 hkp3) (hKb _ _ _ _ (by omega) hl3 rfl rfl)⟩⟩
   | ret=>
    obtain⟨hk3,hi3⟩:=hp;obtain⟨W4,hr,rfl,hl3,hl4,hk4⟩:=fin (aC .ret) W3 hk3;exact⟨_,_,hr,.inr ⟨rfl,.ret,(hIx _).putObj _ hi3 (by omega) hl3 rfl,hl4,hk4⟩⟩
   | exit id=>
    obtain⟨hk3,hi3⟩:=hp;obtain⟨W4,hr,rfl,hl3,hl4,hk4⟩:=fin (aC (.exit id)) W3 hk3;exact⟨_,_,hr,.inr ⟨rfl,.exit id,(hIx _).putObj _ hi3 (by omega) hl3 rfl,hl4,hk4⟩⟩
   | goto t=>
    obtain⟨hk3,hi3⟩:=hp;obtain⟨W4,hr,rfl,hl3,hl4,hk4⟩:=fin (aC (.goto t)) W3 hk3;exact⟨_,_,hr,.inr ⟨rfl,.goto t,(hIx _).putObj _ hi3 (by omega) hl3 rfl,hl4,hk4⟩⟩
   | panic ch=>exact hp.elim
   | outgrown=>exact hp.elim
  ·rintro e W2 ⟨⟨v,rfl⟩,(⟨xs,hS,hi,hl,hk⟩ | ⟨pre,hSp,c,hi,hl,hk⟩)⟩
   ·exact⟨aD,_,run_endLoop (P:=P) hl (by simp[R,Yb]),hdone _ xs _ (by omega) hS (hI.putObj _ hi (by omega) hl rfl) ((aC7 (by omega)).trans hk)⟩
   ·exact⟨aC c,_,run_endLoop (P:=P) hl (by simp[R,Yb]),hstop _ c pre _ (by omega) hSp ((hIx c).putObj _ hi (by omega) hl rfl) ((aC7 (by omega)).trans hk)⟩
attribute [local go_sem] Oper.semAt_some
def iZ (l:List Queue):Prop:=∀ k,k < l.length->Bw (par l k) k
def Av (l:List Queue):Nat->Int->List Nat
 | 0,_=>[]
 | f+1,q=>if 0<=q then q.toNat::Av l f (par l q.toNat) else[]
def cR (l:List Queue) (q:Int):List Nat:=Av l (q+1).toNat q
theorem qJ {l:List Queue} {q:Int} (h:q < 0):∀ f,Av l f q=[]
 | 0=>rfl
 | f+1=>by simp only[Av];rw[if_neg (by omega)]
theorem Ei {l:List Queue} (hp:iZ l):∀ (f g:Nat) (q:Int),q < l.length->q < f->q < g->Av l f q=Av l g q
 | 0,g,q,_,h1,_=>by rw[qJ (by omega),qJ (by omega)]
 | f+1,0,q,_,_,h2=>by rw[qJ (by omega),qJ (by omega)]
 | f+1,g+1,q,h0,h1,h2=>by
  simp only[Av];by_cases h:0<=q
  ·rw[if_pos h,if_pos h];have hk:=hp q.toNat (by omega);rw[Ei hp f g (par l q.toNat) (by have:=hk.2;omega) (by have:=hk.2;omega) (by have:=hk.2;omega)]
  ·rw[if_neg h,if_neg h]
theorem mL {l:List Queue} {q:Int} (h:q < 0):cR l q=[]:=qJ h _
theorem gT {l:List Queue} (hp:iZ l) {k:Nat} (hk:k < l.length):cR l (k:Int)=k::cR l (par l k):=by
 have h:=hp k hk;unfold cR;rw[show ((k:Int)+1).toNat=k+1 by omega];simp only[Av];rw[if_pos (by omega),aBQ];rw[Ei hp k ((par l k)+1).toNat (par l k) (by have:=h.2;omega) h.2 (by omega)]
theorem tD {l:List Queue} (hp:iZ l):∀ (n:Nat) (q:Int),q < n->q < l.length->∀ k∈cR l q,k < l.length/\(k:Int)<=q
 | n,q,hn,hq,k,hk=>by
  by_cases h:q < 0
  ·rw[mL h] at hk;cases hk
  ·obtain⟨m,rfl⟩:∃ m:Nat,q=m:=⟨q.toNat,by omega⟩;rw[gT hp (by omega)] at hk;rcases aC8.1 hk with rfl | hk
   ·exact⟨by omega,Int.le_refl _⟩
   ·have h2:=hp m (by omega)
    match n,hn with
    | n+1,hn=>
     have:=tD hp n (par l m) (by have:=h2.2;omega) (by have:=h2.2;omega) k hk;exact⟨this.1,by have:=h2.2;omega⟩
theorem Jp {l:List Queue} (hp:iZ l):∀ (n:Nat) (q:Int),q < n->q < l.length->(cR l q).length<=(q+1).toNat
 | n,q,hn,hq=>by
  by_cases h:q < 0
  ·rw[mL h];simp
  ·obtain⟨m,rfl⟩:∃ m:Nat,q=m:=⟨q.toNat,by omega⟩;rw[gT hp (by omega)];have h2:=hp m (by omega)
   match n,hn with
   | n+1,hn=>
    have:=Jp hp n (par l m) (by have:=h2.2;omega) (by have:=h2.2;omega);have:=h2.2;simp only[aBB];omega
def Sq (B:Nat) (W:World):Int:=match W.cell? ⟨B,0,aD⟩ with | some (.int _ x)=>x | _=>0
theorem Kg {W:World} {B:Nat} {t:TypeId} {k:IntKind} {x:Int} (h:Boxed W B t (.int k x)):Sq B W=x:=by unfold Sq;rw[h.cell]
theorem Sx (w:World) (a:Option Addr) (len cap:Nat) (q:Int) :
  Calls prog 129 #[aE a len cap,aA aB q] w fun e w'=>e=.returned (.func (.func 167) #[] #[.pointer (aC ⟨w.heap.size+1,0,aD⟩),.pointer (aC ⟨w.heap.size,0,aD⟩)])/\w'=(w.alloc (.cells #[aE a len cap] 22)).alloc (.cells #[aA aB q] 3):=by
 go_enter func129,ntmps129
 go_wp2_with fail
 go_ret;exact⟨rfl,rfl⟩
theorem aAP (n:Nat) (hn:1<=n) (y Bl Bq b off cap:Nat) (l:List Queue) (q:Int) (hne1:Bl≠Bq) (hne2:b≠Bq) (hp:iZ l) (hq1:-1<=q) (hq2:q < l.length) (hl5:l.length<=17592186044416)
  (J Jx:List (Fin l.length)->World->Prop) (tJ:Gd Bq J)
  (hY:∀ pre x W,J pre W->pre.length < (cR l q).length->YieldAt Fence.wide (n - 1) prog y #[aA aB (x.1:Int)] W fun e W'=>
   (e=.returned (.bool true)/\J (pre++[x]) W'/\eH [Bl,Bq,b] W W')\/(e=.returned (.bool false)/\Jx (pre++[x]) W'))
  (W:World) (hBl:Boxed W Bl 22 (aE (aC ⟨b,off,aD⟩) l.length cap)) (hBq:Boxed W Bq 3 (aA aB q)) (hb:b < W.heap.size) (hE:∀ k x,l[k]?=aC x->W.cell? ⟨b,off+k*3+1,aD⟩=aC (aA aB x.aR)) (h0:J [] W) :
  CallsIn Fence.wide n prog 167 #[.func (.yield y) #[] #[],.pointer (aC ⟨Bq,0,aD⟩),.pointer (aC ⟨Bl,0,aD⟩)] W fun e W'=>(∃ v,e=.returned v)/\
   ((∃ xs,xs.map (·.1)=cR l q/\J xs W')\/(∃ pre,pre.map (·.1) <+: cR l q/\Jx pre W')):=by
 refine callsIn_of_wp func167 rfl trivial ?_ rfl;simp only[ntmps167,aC9,aBB,aCa,aCb,aCc,aCd,aCe,aCf,aCg,aCh,aCi];have HE:=hid hE;clear hE
 gi_wp2
 gi_loopw [] (fun wr=>∃ (pre:List (Fin l.length)) (qv:Int),Boxed wr Bq 3 (aA aB qv)/\-1<=qv/\qv < l.length/\Hid (pre.map (·.1)++cR l qv=cR l q)/\J pre wr/\eH [Bl,b] W wr)
  (fun wr=>(Sq Bq wr+1).toNat)
 case atStart=>exact⟨[],q,hBq,hq1,hq2,hid rfl,h0,eH.rf _ _⟩
 case round=>
  obtain⟨pre,qv,hBv,hv1,hv2,HL,hJ,hK⟩:=hrel;have hcq:=hBv.cell;have hBl':Boxed wr Bl 22 (aE (aC ⟨b,off,aD⟩) l.length cap):=(hK.same Bl (by simp) hBl.lt).trans hBl;have hcl:=hBl'.cell;by_cases h:0<=qv
  ·obtain⟨k,rfl⟩:∃ k:Nat,qv=k:=⟨qv.toNat,by omega⟩;have hkl:k < l.length:=by omega
   have hlen:pre.length < (cR l q).length:=by
    rw[<- HL.out,gT hp hkl];simp
   obtain⟨x,hxk⟩:=Ma (l:=l) (k:=k) hkl;obtain⟨_,e2,_⟩:=fC hxk;have hE0:=HE.out k x hxk;have hpk:=hp k hkl;rw[e2] at hpk;obtain⟨hpk1,hpk2⟩:=hpk;have HS:=hid (show (pre++[(⟨k,hkl⟩:Fin l.length)]).map (·.1)++cR l x.aR=cR l q from by
    rw[<- HL.out,gT hp hkl,e2];simp)
   obtain⟨fn,tmps,assign,body,hy,hR⟩:=hY pre ⟨k,hkl⟩ wr hJ hlen;dsimp only at hy;clear hxk e2 HL
   gi_wp2
   refine hR.mono ?_;rintro e W3 (⟨rfl,hJ3,hk3⟩ | ⟨rfl,hJx3⟩)
   ·have hK3:eH [Bl,b] W W3:=hK.tr ⟨hk3.size,fun j hj hl=>hk3.same j (by simp only[aC8,aCj,or_false] at hj ⊢;rcases hj with rfl | rfl <;> simp) hl⟩;have hBl3:Boxed W3 Bl 22 (aE (aC ⟨b,off,aD⟩) l.length cap):=(hK3.same Bl (by simp) hBl.lt).trans hBl;have hBq3:Boxed W3 Bq 3 (aA aB (k:Int)):=(hk3.same Bq (by simp) hBv.lt).trans hBv;have hE3:W3.cell? ⟨b,off+k*3+1,aD⟩=aC (aA aB x.aR):=by
     rw[<- hE0];exact aCk (a:=⟨b,off+k*3+1,aD⟩) (hK3.same b (by simp) hb)
    have hcl3:=hBl3.cell;have hcq3:=hBq3.cell;have hfq3:=hBq3.frozen;have HB:=hid (hBq3.set (aA aB x.aR));have HJ:=hid (tJ _ _ _ _ hJ3 (grownBy_setCell' W3 Bq (aA aB x.aR)) (fun r e=>(Option.some.inj e).symm));have HK:=hid (hK3.tr (eH.se (A:=W3) (b:=Bq) (aA aB x.aR) (by simp;exact⟨fun e=>hne1 e.symm,fun e=>hne2 e.symm⟩)));have HM:=hid (Kg hBv);clear hE0 hcl hcq hy
    gi_wp2
    go_roundw
    case rel=>exact⟨pre++[⟨k,hkl⟩],x.aR,HB.out,hpk1,by omega,HS,HJ.out,HK.out⟩
    case measure=>rw[Kg HB.out,HM.out];omega
   ·have Hx:=hid (show (pre++[(⟨k,hkl⟩:Fin l.length)]).map (·.1) <+: cR l q from ⟨_,HS.out⟩);clear hy
    gi_wp2
    go_end0
    exact⟨⟨_,rfl⟩,.inr ⟨_,Hx.out,hJx3⟩⟩
  ·have Hx:=hid (show pre.map (·.1)=cR l q from by rw[<- HL.out,mL (by omega)];simp);have h':qv < 0:=by omega
   clear h
   gi_wp2
   refine⟨fun _ h=>(by cases h),?_⟩
   gi_wp2
   go_end0
   exact⟨⟨_,rfl⟩,.inl ⟨_,Hx.out,hJ⟩⟩
theorem aAO (n:Nat) (hn:1<=n) (Bl Bq b off cap:Nat) (l:List Queue) (q:Int) (hne1:Bl≠Bq) (hne2:b≠Bq) (hp:iZ l) (hq1:-1<=q) (hq2:q < l.length) (hl5:l.length<=17592186044416)
  (w:World) (hBl:Boxed w Bl 22 (aE (aC ⟨b,off,aD⟩) l.length cap)) (hBq:Boxed w Bq 3 (aA aB q)) (hb:b < w.heap.size) (hE:∀ k x,l[k]?=aC x->w.cell? ⟨b,off+k*3+1,aD⟩=aC (aA aB x.aR)) :
  Zt n prog 167 #[.pointer (aC ⟨Bq,0,aD⟩),.pointer (aC ⟨Bl,0,aD⟩)] (fun x:Fin l.length=>#[aA .i64 (x.1:Int)]) (eH [Bl,Bq,b]) (fun xs=>xs.map (·.1)=cR l q) (fun pre=>pre.map (·.1) <+: cR l q) (cR l q).length Bq w:=
 fun y J Jx W hW tJ _ hY h0=>aAP n hn y Bl Bq b off cap l q hne1 hne2 hp hq1 hq2 hl5 J Jx tJ hY W ((hW.block Bl hBl.lt).trans hBl) ((hW.block Bq hBq.lt).trans hBq) (aBA hb hW.size)
  (fun k x hk=>(hW.cell (p:=⟨b,off+k*3+1,aD⟩) hb).trans (hE k x hk)) h0
attribute [local go_sem] Oper.semAt_some
def Oc (l:List Nat):List Value:=l.map fun k:Nat=>aA aB (k:Int)
theorem Jk (l:List Nat) (k:Nat):Oc (l++[k])=Oc l++[aA aB (k:Int)]:=by simp[Oc]
theorem xT {w:World} {base e:Nat} {v:Value} {xs:List Nat} (h:w.ownsRow base e 1 v xs.length (Oc xs)) (hi:∀ x∈xs,x<=17592186044416) (hl:xs.length<=17592186044416):pP w v (xs.map fun k:Nat=>(k:Int)):=by
 obtain⟨h1,h2⟩:=h;rcases h2 with ⟨rfl,h2⟩ | ⟨b,cap,cur,rfl,hb,hg,hn,hm,hs,ht⟩
 ·obtain rfl:=List.eq_nil_of_length_eq_zero h2;exact .inl ⟨rfl,aD,0,rfl,by omega⟩
 ·refine .inr ⟨b,0,cap,by simp,by simpa using hn,hm,by simpa using hl,mS.row hg,fun k x hk=>?_⟩;rw[List.getElem?_map] at hk;cases hx:xs[k]? with
  | none=>rw[hx] at hk;cases hk
  | some y=>
   rw[hx] at hk;obtain rfl:(y:Int)=x:=by simpa using hk
   have hkl:k < xs.length:=(aBD.1 hx).1;have h3:(Oc xs)[k]?=aC (aA aB (y:Int)):=by simp[Oc,hx]
   rw[<- ht,List.getElem?_take] at h3;refine⟨?_,I64.of (by omega) (by have:=hi y (aBJ hx);omega)⟩;simp only[World.cell?,hg,Option.isSome_none,Bool.false_eq_true,if_false];split at h3
   ·simpa using h3
   ·cases h3
structure Pj (w:World) (Bl Bq b off cap:Nat) (l:List Queue) (q:Int):Prop where
 ne1:Bl≠Bq
 ne2:b≠Bq
 pars:iZ l
 q1:-1<=q
 q2:q < l.length
 l5:l.length<=5
 boxL:Boxed w Bl 22 (aE (aC ⟨b,off,aD⟩) l.length cap)
 boxQ:Boxed w Bq 3 (aA aB q)
 hb:b < w.heap.size
 cells:∀ k x,l[k]?=aC x->w.cell? ⟨b,off+k*3+1,aD⟩=aC (aA aB x.aR)
theorem Pj.ext {w w':World} {Bl Bq b off cap:Nat} {l:List Queue} {q:Int} (h:Pj w Bl Bq b off cap l q) (hx:Ext w w'):Pj w' Bl Bq b off cap l q:=
 { h with boxL:=(hx.block Bl h.boxL.lt).trans h.boxL,boxQ:=(hx.block Bq h.boxQ.lt).trans h.boxQ,hb:=aBA h.hb hx.size,cells:=fun k x hk=>hx.ce' (h.cells k x hk)}
theorem Pj.seq {w:World} {Bl Bq b off cap:Nat} {l:List Queue} {q:Int} (h:Pj w Bl Bq b off cap l q) (n:Nat) (hn:1<=n) :
  Zt n prog 167 #[.pointer (aC ⟨Bq,0,aD⟩),.pointer (aC ⟨Bl,0,aD⟩)] (fun x:Fin l.length=>#[aA .i64 (x.1:Int)]) (eH [Bl,Bq,b]) (fun xs=>xs.map (·.1)=cR l q) (fun pre=>pre.map (·.1) <+: cR l q) (cR l q).length Bq w:=
 aAO n hn Bl Bq b off cap l q h.ne1 h.ne2 h.pars h.q1 h.q2 (by have:=h.l5;omega) w h.boxL h.boxQ h.hb h.cells
theorem Pj.lt {w:World} {Bl Bq b off cap:Nat} {l:List Queue} {q:Int} (h:Pj w Bl Bq b off cap l q):∀ j∈[Bl,Bq,b],j < w.heap.size:=by
 intro j hj;simp only[aC8,aCj,or_false] at hj;rcases hj with rfl | rfl | rfl
 ·exact h.boxL.lt
 ·exact h.boxQ.lt
 ·exact h.hb
theorem mM {l:List Queue} {q:Int} (hp:iZ l) (h2:q < l.length) (h5:l.length<=5):(cR l q).length<=5:=by
 have:=Jp hp l.length q (by omega) h2;omega
theorem info3:(prog.info? 3).map (fun i=>(i.zero,i.size,i.bytes))=aC (aC (aA aB 0),1,8):=by kernel_rfl
theorem uX {n:Nat} {p:Nat->Bool} (h:(List.range n).any p=false):∀ k,k < n->p k=false:=fun k hk=>by
 have:=aBY.1 h k (aC3.2 hk);simpa using this
structure fB (l:List Queue):Prop where
 n1:1<=l.length
 n5:l.length<=5
 names:∀ k,k < l.length->jS (nm l k)
 diff:∀ i k,i < k->k < l.length->nm l i≠nm l k
 pars:iZ l
 caps:∀ k,k < l.length->fK (cp l k)
theorem qT {l:List Queue} (h:bM l=0):fB l:=by
 unfold bM at h;by_cases h1:¬ (1<=l.length/\l.length<=5)
 ·rw[if_pos h1] at h;omega
 rw[if_neg h1] at h;by_cases h2:(List.range l.length).any (p2 l)=true
 ·rw[if_pos h2] at h;omega
 rw[if_neg h2] at h;by_cases h3:(List.range l.length).any (p3 l)=true
 ·rw[if_pos h3] at h;omega
 rw[if_neg h3] at h;by_cases h4:(List.range l.length).any (p4 l)=true
 ·rw[if_pos h4] at h;omega
 rw[if_neg h4] at h;by_cases h5:(List.range l.length).any (p5 l)=true
 ·rw[if_pos h5] at h;omega
 have g2:=uX (Bool.eq_false_iff.2 h2);have g3:=uX (Bool.eq_false_iff.2 h3);have g4:=uX (Bool.eq_false_iff.2 h4);have g5:=uX (Bool.eq_false_iff.2 h5);exact{
  n1:=by omega
  n5:=by omega
  names:=fun k hk=>Classical.byContradiction fun h=>by have:=g2 k hk;unfold p2 at this;exact of_decide_eq_false this h
  diff:=fun i k hi hk e=>by have:=g3 k hk;rw[Tu hi e] at this;cases this
  pars:=fun k hk=>Classical.byContradiction fun h=>by have:=g4 k hk;unfold p4 at this;rw[deF h] at this;cases this
  caps:=fun k hk=>Classical.byContradiction fun h=>by have:=g5 k hk;unfold p5 at this;exact of_decide_eq_false this h }
theorem jG {w:World} {v:Value} {l:List Queue} (hv:aX w v l) (h1:1<=l.length):∃ b off cap,v=aE (aC ⟨b,off,aD⟩) l.length cap/\l.length<=cap/\cap<=9223372036854775807/\b < w.heap.size/\∀ k x,l[k]?=aC x->dS w b (off+k*3) x:=by
 rcases hv with ⟨rfl,_⟩ | ⟨b,off,cap,rfl,h2,h3,h4,⟨h5,_⟩,h6⟩
 ·simp at h1
 ·exact⟨b,off,cap,rfl,h2,h3,h5,h6⟩
theorem Dc (w:World) (b off cap:Nat) (l:List Queue) (q:Int) (hp:iZ l) (hq1:-1<=q) (hq2:q < l.length) (h5:l.length<=5) (hb:b < w.heap.size) (hE:∀ k x,l[k]?=aC x->dS w b (off+k*3) x) :
  Pj ((w.alloc (.cells #[aE (aC ⟨b,off,aD⟩) l.length cap] 22)).alloc (.cells #[aA aB q] 3)) w.heap.size (w.heap.size+1) b off cap l q:=by
 have hx:=((Ext.rf w).al (.cells #[aE (aC ⟨b,off,aD⟩) l.length cap] 22)).al (.cells #[aA aB q] 3);refine{ ne1:=by omega,ne2:=by omega,pars:=hp,q1:=hq1,q2:=hq2,l5:=h5,boxL:=(Boxed.new w _ _).alloc _,boxQ:=?_,hb:=aBA hb hx.size,cells:=fun k x hk=>?_ }
 ·have:=Boxed.new (w.alloc (.cells #[aE (aC ⟨b,off,aD⟩) l.length cap] 22)) 3 (aA aB q)
  rwa [aCl] at this
 ·exact hx.ce' (hE k x hk).2.2.1
theorem Jo {l:List Queue} {q:Int} (hp:iZ l) (h2:q < l.length) (h5:l.length<=5):(∀ x∈cR l q,x<=17592186044416)/\(cR l q).length<=17592186044416:=
 ⟨fun x hx=>by have:=tD hp l.length q (by omega) h2 x hx;omega,by have:=mM hp h2 h5;omega⟩
theorem one1 (k:IntKind) (a:Int):∀ u∈[aA k a],u.oneCell'=true:=by simp[Value.oneCell']
theorem Ci (W:World) {B:Nat} (hB:B=W.heap.size) (a:Value) (t:TypeId):∀ (j:Nat) u,[a][j]?=aC u->(W.alloc (.cells #[a] t)).cell? ((⟨B,0,aD⟩:Addr).add j)=aC u:=by
 subst hB;exact cell_one_new W a t
theorem Tf (w:World) (v:Value) (l:List Queue) (q:Int) (hv:aX w v l) (hp:iZ l) (h5:l.length<=5) (hq1:0<=q) (hq2:q < l.length) :
  Calls prog 155 #[v,aA aB q] w fun e w'=>∃ v,e=.returned v/\pP w' v ((cR l q).map fun k:Nat=>(k:Int))/\Ext w w':=by
 obtain⟨ii,ii1,ii2,ii3,ii4⟩:=info_parts info3;obtain⟨b,off,cap,rfl,hcap,hc9,hb,hE⟩:=jG hv (by omega);have HI:=hid (Jo hp hq2 h5);have hl5:=mM hp hq2 h5;have Hp:=hid hp;have HE:=hid hE;clear hv hp hE;generalize hn:l.length=n at *;have Hn:=hid hn;clear hn;go_enter func155,ntmps155
 go_wp2_with fail
 go_loopw [1,5] (fun c v wr=>∃ (pre:List Nat) (x:Int),c=aA aB x/\-1<=x/\x < n/\Hid (pre++cR l x=cR l q)/\Hid (wr.ownsRow w.heap.size 3 1 v pre.length (Oc pre))/\Ext w wr) (fun c _ _=>(intOf c+1).toNat)
 case atStart=>exact⟨[],q,rfl,by omega,by omega,hid rfl,aBV _ _ _ _,Ext.rf _⟩
 case round=>
  obtain⟨pre,x,rfl,hx1,hx2,HL,Hown,hx⟩:=hrel;have hlen:pre.length+(cR l x).length=(cR l q).length:=by rw[<- HL.out,aBk]
  have hsz:=hx.size;by_cases h:0<=x
  ·obtain⟨k,rfl⟩:∃ k:Nat,x=k:=⟨x.toNat,by omega⟩;have hkl:k < l.length:=by rw[Hn.out];omega
   obtain⟨y,hyk⟩:=Ma (l:=l) (k:=k) hkl;obtain⟨_,e2,_⟩:=fC hyk;have hpk:=Hp.out k hkl;rw[e2] at hpk;obtain⟨hpk1,hpk2⟩:=hpk;have HS:=hid (show (pre++[k])++cR l y.aR=cR l q from by rw[<- HL.out,gT Hp.out hkl,e2];simp);have hcell:=(dS.mono w wr b _ y hx (HE.out k y hyk)).2.2.1;have HC:=hid (dS.mono w wr b _ y hx (HE.out k y hyk)).2.2.1;have hpl:pre.length+1<=5:=by
    have:1<=(cR l (k:Int)).length:=by rw[gT Hp.out hkl];simp
    omega
   have hown:=Hown.out;have hbw:b < wr.heap.size:=by omega
   have HX:=hid hyk;clear e2 hyk HL hlen
   go_wp2_with (at_builtin;refine wpList_append_own _ rfl _ _ 67 rfl w.heap.size 3 ii _ 1 8 underlying67 ii1 ii2 ii3 ii4 rfl (by decide) _ _ _ rfl (hown.alloc _) ⟨wr.heap.size,0,aD⟩ 1 1 [aA aB (k:Int)] rfl rfl (Ci _ rfl _ _) (one1 _ _) (by unfold maxLen;omega) (by omega) (by simp;omega) ?_)
   intro v2 W2 hown2 hgrow2 hnil2;have hx2':=(hx.al (.cells #[aA aB (k:Int)] 3)).gr hgrow2 (fun k hk=>eU hown k hk);have hcell2:=(dS.mono w W2 b _ y hx2' (HE.out k y HX.out)).2.2.1
   go_wp2_with fail
   go_roundw
   case rel=>exact⟨pre++[k],y.aR,rfl,hpk1,by omega,HS,hid (by rw[Jk,aBk];exact hown2),hx2'⟩
   case measure=>simp[intOf];omega
  ·have hL:=hid (show pre=cR l q from by rw[<- HL.out,mL (by omega),List.append_nil]);clear HL
   go_wp2_with fail
   go_ret;refine⟨_,rfl,xT (by rw[<- hL.out];exact Hown.out) HI.out.1 HI.out.2,hx⟩
attribute [local go_sem] Oper.semAt_some
def under (l:List Queue) (k q:Int):Bool:=((cR l k).map fun j:Nat=>(j:Int)).contains q
theorem zH {l:List Queue} {k q:Int}:under l k q=true↔∃ j∈cR l k,(j:Int)=q:=by
 unfold under;rw[aCm,aCn]
theorem Xu {l:List Queue} {k q:Int} (h:∀ j∈cR l k,(j:Int)≠q):under l k q=false:=by
 rw[Bool.eq_false_iff];intro h';obtain⟨j,h1,h2⟩:=zH.1 h';exact h j h1 h2
theorem Qb (w:World) (v:Value) (l:List Queue) (k q:Int) (hv:aX w v l) (hp:iZ l) (h5:l.length<=5) (hk1:0<=k) (hk2:k < l.length) :
  Calls prog 176 #[v,aA aB k,aA aB q] w fun e w'=>e=.returned (.bool (under l k q))/\Ext w w':=by
 obtain⟨b,off,cap,rfl,hcap,hc9,hb,hE⟩:=jG hv (by omega);refine(callsIn_wide (n:=3)).1 ?_;refine callsIn_of_wp_marks func176 rfl trivial ?_ rfl;simp only[ntmps176,aC9,aBB,aCa,aCb,aCc,aCd,aCe,aCf,aCg,aCh,aCi];obtain⟨w2,hw2⟩:∃ w2,(w.alloc (.cells #[aA aB q] 3)).alloc (.cells #[.bool false] 4)=w2:=⟨_,rfl⟩;have hx2:Ext w w2:=by rw[<- hw2];exact((Ext.rf w).al _).al _
 have hs2:w2.heap.size=w.heap.size+1+1:=by rw[<- hw2];simp
 have bQ:Boxed w2 w.heap.size 3 (aA aB q):=by rw[<- hw2];exact(Boxed.new w _ _).alloc _
 have bR:Boxed w2 (w.heap.size+1) 4 (.bool false):=by
  rw[<- hw2];have:=Boxed.new (w.alloc (.cells #[aA aB q] 3)) 4 (.bool false);rwa [aCl] at this
 have U:=Dc w2 b off cap l k hp (by omega) hk2 h5 (aBA hb hx2.size) (fun k x hk=>dS.mono w w2 b _ x hx2 (hE k x hk));have hlt:=U.lt;have hbb:b < w.heap.size:=hb;have hx4:=(hx2.al (.cells #[aE (aC ⟨b,off,aD⟩) l.length cap] 22)).al (.cells #[aA aB k] 3);have bQ4:=(bQ.alloc (.cells #[aE (aC ⟨b,off,aD⟩) l.length cap] 22)).alloc (.cells #[aA aB k] 3);have bR4:=(bR.alloc (.cells #[aE (aC ⟨b,off,aD⟩) l.length cap] 22)).alloc (.cells #[aA aB k] 3);have hle2:w.heap.size+1 < w2.heap.size:=by omega
 have HU:=hid U;have Hlt:=hid hlt;have Hx4:=hid hx4;have HQ4:=hid bQ4;have HR4:=hid bR4;have Hw2:=hid hw2;have Hs2:=hid hs2;have HUp:=hid (fun(W:World)=>Sx W (aC ⟨b,off,aD⟩) l.length cap k);clear hv hE U hlt hx4 bQ4 bR4 bQ bR hw2 hs2 hx2
 gi_wp2
 refine⟨trivial,(callsIn_wide.2 (HUp.out _)).mono ?_⟩;rintro e w' ⟨rfl,rfl⟩;rw[Hw2.out]
 gi_wp2
 refine vN (by omega) (gf:=167) (lb:=#[.pointer (aC ⟨w2.heap.size+1,0,aD⟩),.pointer (aC ⟨w2.heap.size,0,aD⟩)]) rfl (enters_of func167 (by kernel_rfl) rfl)
  (HU.out.seq _ (by omega)) (fun h k=>h.tr k) (eH.put Hlt.out) (Below.refl _ _) (by simp) (fun _=>rfl)
  (fun pre W=>(∀ y∈pre,(y.1:Int)≠q)/\(Boxed W w.heap.size 3 (aA aB q)/\Boxed W (w.heap.size+1) 4 (.bool false))/\Below w.heap.size w W)
  (fun c pre W=>(c=.ret/\∃ y∈pre,(y.1:Int)=q)/\Boxed W (w.heap.size+1) 4 (.bool true)/\Below w.heap.size w W)
  (OwnFrom.and (ownFrom_pure _ _) (OwnFrom.and (OwnFrom.and (Own.from (boxed_own _ _ _) _) (Own.from (boxed_own _ _ _) _)) (ownFrom_below (aBq _) (by simp;omega))))
  (fun c=>OwnFrom.and (ownFrom_pure _ _) (OwnFrom.and (Own.from (boxed_own _ _ _) _) (ownFrom_below (aBq _) (by simp;omega))))
  (fun s A B row hs hg hr=>⟨hs.1,⟨hs.2.1.1.kept hg (fun e=>by have:=hr _ e.symm;omega),hs.2.1.2.kept hg (fun e=>by have:=hr _ e.symm;omega)⟩,hs.2.2.grown hg hs.2.2.size (fun k e=>by rw[hr k e];omega)⟩)
  (fun c s A B row hs hg hr=>⟨hs.1,hs.2.1.kept hg (fun e=>by have:=hr _ e.symm;omega),hs.2.2.grown hg hs.2.2.size (fun k e=>by rw[hr k e];omega)⟩)
  ⟨(fun y hy=>by cases hy),⟨HQ4.out,HR4.out⟩,Hx4.out⟩
  ?a1 ?assign ?body ?done ?stop
 case assign=>
  intro y x W K hK
  gi_wp2
  exact hK
 case body=>
  rintro y pre x W ⟨hne,⟨hbq,hbr⟩,hB⟩ hlen;have hcq:=hbq.cell;have hcr:=hbr.cell;have hfr:=hbr.frozen;by_cases hxq:(x.1:Int)=q
  ·have Hxq:=hid hxq;have ht:=eqT hxq;have Hend:=hid (And.intro (KeepsFrom.se (B:=((w2.alloc (.cells #[aE (aC ⟨b,off,aD⟩) l.length cap] 22)).alloc (.cells #[aA aB k] 3)).heap.size) W (w.heap.size+1) (.bool true)) (And.intro (hbr.set (.bool true)) (hB.setCell (p:=⟨w.heap.size+1,0,aD⟩) (aCo _) (.bool true))));clear hxq hne
   gi_wp2
   exact⟨Hend.out.1,⟨rfl,x,aBm.2 (.inr (by simp)),Hxq.out⟩,Hend.out.2.1,Hend.out.2.2⟩
  ·have ht:=eqF hxq;have Hne:=hid (show ∀ y∈pre++[x],(y.1:Int)≠q from fun y hy=>by
    rcases aBm.1 hy with h | h
    ·exact hne y h
    ·rw[List.mem_singleton.1 h];exact hxq)
   clear hxq hne
   gi_wp2
   exact⟨KeepsFrom.refl _ _,eH.rf _ _,Hne.out,⟨hbq,hbr⟩,hB⟩
 case done=>
  rintro D ys W hD hys ⟨hne,⟨hbq,hbr⟩,hB⟩ hK;have hcr:=hbr.cell;have hfr:=hbr.frozen;have Hno:=hid (show under l k q=false from Xu (fun j hj=>by
   rw[<- hys] at hj;obtain⟨y,hy,rfl⟩:=aCn.1 hj;exact hne y hy))
  have hK':=(KeepsOthers.setCell W ⟨w.heap.size+1,0,aD⟩ (.bool false)).same D _ hK rfl;have hc5:=cell_kept ((hbr.set (.bool false)).cell) (grownBy_putObj' _ D (.deferred aD)) (fun r e=>by cases e;exact⟨_,hK',rfl⟩);have Hend:=hid ((hB.setCell (p:=⟨w.heap.size+1,0,aD⟩) (aCo _) (.bool false)).trans (belowK_b (w:=w) (aBq _) _ D _ (.deferred aD) (by simp at hD;omega) hK' rfl rfl));clear hne hys
  gi_wp2
  refine⟨by simp,.inl ⟨_,_,rfl,run_takeDeferred hK',?_⟩⟩;refine⟨.bool false,?_,by rw[Hno.out],Hend.out⟩;simp[results,f176,go_sem,hc5]
 case stop=>
  rintro D c pre W hD hpre ⟨⟨rfl,y,hy,hyq⟩,hbr,hB⟩ hK;have Hyes:=hid (show under l k q=true from zH.2 ⟨y.1,hpre.subset (aCn.2 ⟨y,hy,rfl⟩),hyq⟩);have hc5:=cell_kept hbr.cell (grownBy_putObj' _ D (.deferred aD)) (fun r e=>by cases e;exact⟨_,hK,rfl⟩);have Hend:=hid (hB.trans (belowK_b (w:=w) (aBq _) _ D _ (.deferred aD) (by simp at hD;omega) hK rfl rfl));clear hpre hyq
  gi_wp2
  refine⟨by simp,.inl ⟨_,_,rfl,run_takeDeferred hK,?_⟩⟩;refine⟨.bool true,?_,by rw[Hyes.out],Hend.out⟩;simp[results,f176,go_sem,hc5]
theorem Bt (w:World) (v:Value) (l:List Queue) (k q:Int) (hv:aX w v l) (hp:iZ l) (h5:l.length<=5) (hk1:0<=k) (hk2:k < l.length) :
  Calls prog 126 #[v,aA aB k,aA aB q] w fun e w'=>e=.returned (.bool (under l k q))/\Ext w w':=by
 have C:=hid (Tf w v l k hv hp h5 hk1 hk2);obtain⟨a,cap,rfl,_,_,hl⟩:=hv.form;clear hv;generalize l.length=n at *;go_enter func126,ntmps126
 go_wp2_with fail
 refine C.out.mono ?_;rintro e w1 ⟨v,rfl,hv,hx1⟩;rcases hv with ⟨he,a0,c0,rfl,hc0⟩ | ⟨b,off,cap,rfl,h1,h2,h3,⟨h4,_⟩,hE⟩
 ·have Hr:=hid (show under l k q=false from by unfold under;rw[he];rfl);clear he
  go_wp2_with fail
  go_loopw [8] (fun c wr=>c=aA aB 0/\wr=w1) (fun _ _=>0)
  case atStart=>exact⟨rfl,rfl⟩
  case round=>
   obtain⟨rfl,rfl⟩:=hrel
   go_wp2_with fail
   go_ret;exact⟨fD Hr.out.symm,hx1⟩
 ·obtain⟨m,hm⟩:∃ m,((cR l k).map fun j:Nat=>(j:Int))=m:=⟨_,rfl⟩;rw[hm] at h1 h3 hE ⊢;have Hu:=hid (show under l k q=m.contains q from by unfold under;rw[hm]);have HE:=hid hE;clear hE hm;generalize hn:m.length=z at *;have Hn:=hid hn;clear hn
  go_wp2_with fail
  go_loopw [8] (fun c wr=>∃ i:Nat,c=aA aB i/\i<=z/\Hid (∀ j x,j < i->m[j]?=aC x->x≠q)/\wr=w1) (fun c _=>z - (intOf c).toNat)
  case atStart=>exact⟨0,rfl,by omega,fun j x hj=>absurd hj (aBn _),rfl⟩
  case round=>
   obtain⟨i,rfl,hi,Hall,rfl⟩:=hrel;by_cases hlt:i < z
   ·have hlt':(i:Int) < (z:Int):=by omega
    obtain⟨x,hxk⟩:=bT (f:=m) (k:=i) (by rw[Hn.out];exact hlt);have c1:=(HE.out i x hxk).1;rw[Nat.mul_one] at c1;by_cases hxq:x=q
    ·have ht:=eqT hxq;have Hr:=hid (show under l k q=true from by rw[Hu.out,aCm,<- hxq];exact aBJ hxk);clear hxq hxk
     go_wp2_with fail
     go_ret;exact⟨fD Hr.out.symm,hx1⟩
    ·have ht:=eqF hxq;have Hs:=hid (show ∀ j y,j < i+1->m[j]?=aC y->y≠q from fun j y hj hy=>by
      by_cases e:j=i
      ·subst e;rw[hxk] at hy;rw[<- Option.some.inj hy];exact hxq
      ·exact Hall.out j y (by omega) hy)
     clear hxq hxk Hall
     go_wp2_with fail
     go_roundw
     case rel=>exact⟨i+1,by go_num,by omega,Hs,trivial⟩
     case measure=>simp[intOf];omega
   ·have hlt':¬ (i:Int) < (z:Int):=by omega
    obtain rfl:i=z:=by omega
    have Hr:=hid (show under l k q=false from by
     rw[Hu.out,Bool.eq_false_iff];intro h;obtain⟨j,hj,hx⟩:=aC2 (aCm.1 h);exact Hall.out j q (by rw[<- Hn.out];exact hj) (by rw[aBu hj,hx]) rfl)
    clear Hall
    go_wp2_with fail
    go_ret;exact⟨fD Hr.out.symm,hx1⟩
theorem eZ {w:World} {v:Value} {l:List Piece} (hv:aU w v l) (h1:1<=l.length):∃ b off cap,v=aE (aC ⟨b,off,aD⟩) l.length cap/\l.length<=cap/\cap<=9223372036854775807/\b < w.heap.size/\∀ k x,l[k]?=aC x->Mq w b (off+k*2) x:=by
 rcases hv with ⟨rfl,_⟩ | ⟨b,off,cap,rfl,h2,h3,h4,⟨h5,_⟩,h6⟩
 ·simp at h1
 ·exact⟨b,off,cap,rfl,h2,h3,h5,h6⟩
theorem Vo {l:List Piece} {k:Nat} {x:Piece} (h:∀ j y,j < k->l[j]?=aC y->gQ y) (hx:l[k]?=aC x) (hk:gQ x):∀ j y,j < k+1->l[j]?=aC y->gQ y:=fun j y hj hy=>by
 by_cases e:j=k
 ·subst e;rw[hx] at hy;rw[<- Option.some.inj hy];exact hk
 ·exact h j y (by omega) hy
theorem oL (w:World) (pv:Value) (r:aS) (hv:aU w pv r.aF) :
  Calls prog 52 #[.agg #[aA aB r.aG,aA aB r.aI,aA aB r.aH,aA aB r.aJ,pv]] w fun e w'=>e=.returned (aA aB (vX r))/\Ext w w':=by
 have hal:=hid (fun(o:Obj)=>(Ext.rf w).al o);by_cases hs:Mm r.aI r.aH
 ·have S:=hid (fun(W:World)=>Xy r.aI r.aH W hs.1 hs.2.1 hs.2.2);rcases hv with ⟨h0,a0,c0,rfl,hc0⟩ | ⟨b,off,cap,rfl,h1,h2,h3,⟨h4,_⟩,h5⟩
  ·have Hr:=hid (oM (r:=r) ⟨hs,by rw[h0];intro p hp;cases hp⟩);clear hs h0;go_enter func52,ntmps52
   go_wp2_with fail
   refine(S.out _).mono ?_;rintro e w1 ⟨rfl,rfl⟩
   go_wp2_with fail
   go_loopw [3] (fun c wr=>c=aA aB 0/\wr=w.alloc (.cells #[aA aB r.aG,aA aB r.aI,aA aB r.aH,aA aB r.aJ,(aE a0 0 c0)] 28)) (fun _ _=>0)
   case atStart=>exact⟨rfl,rfl⟩
   case round=>
    obtain⟨rfl,rfl⟩:=hrel
    go_wp2_with fail
    go_ret;exact⟨bB Hr.out.symm,hal.out _⟩
  ·have HE:=hid h5;have HR:=hid (fun(h:∀ p∈r.aF,gQ p)=>oM (r:=r) ⟨hs,h⟩);have HB:=hid (fun(p:Piece) (hp:p∈r.aF) (h:¬ gQ p)=>qF (r:=r) (fun h'=>h (h'.2 p hp)));clear hs h5;generalize hn:r.aF.length=n at *;have Hn:=hid hn;clear hn;go_enter func52,ntmps52
   go_wp2_with fail
   refine(S.out _).mono ?_;rintro e w1 ⟨rfl,rfl⟩
   go_wp2_with fail
   go_loopw [3] (fun c wr=>∃ k:Nat,c=aA aB k/\k<=n/\Hid (∀ j y,j < k->r.aF[j]?=aC y->gQ y)/\wr=w.alloc (.cells #[aA aB r.aG,aA aB r.aI,aA aB r.aH,aA aB r.aJ,(aE (aC ⟨b,off,aD⟩) n cap)] 28)) (fun c _=>n - (intOf c).toNat)
   case atStart=>exact⟨0,rfl,by omega,fun j y hj=>absurd hj (aBn _),rfl⟩
   case round=>
    obtain⟨k,rfl,hk,Hall,rfl⟩:=hrel;by_cases hlt:k < n
    ·have hlt':(k:Int) < (n:Int):=by omega
     obtain⟨x,hxk⟩:=bT (f:=r.aF) (k:=k) (by rw[Hn.out];exact hlt);obtain⟨c1,c2,_,_⟩:=E2.mono w _ b _ x (hal.out (.cells #[aA aB r.aG,aA aB r.aI,aA aB r.aH,aA aB r.aJ,(aE (aC ⟨b,off,aD⟩) n cap)] 28)) (HE.out k x hxk);by_cases hp1:1<=x.Len/\x.Len<=24
     ·have W1:=hid (fun(W:World)=>cE x.Len 1 24 W hp1.1 hp1.2);by_cases hp2:1<=x.N/\x.N<=50
      ·have W2:=hid (fun(W:World)=>cE x.N 1 50 W hp2.1 hp2.2);have Hs:=hid (Vo Hall.out hxk ⟨hp1,hp2⟩);clear hxk Hall hp1 hp2
       go_wp2_with fail
       refine(W1.out _).mono ?_;rintro e w1 ⟨rfl,rfl⟩
       go_wp2_with fail
       refine(W2.out _).mono ?_;rintro e w1 ⟨rfl,rfl⟩
       go_wp2_with fail
       go_roundw
       case rel=>exact⟨k+1,by go_num,by omega,Hs,trivial⟩
       case measure=>simp[intOf];omega
      ·have W2:=hid (fun(W:World)=>dU x.N 1 50 W hp2);have Hr:=hid (HB.out x (aBJ hxk) (fun h=>hp2 h.2));clear hxk Hall hp1 hp2
       go_wp2_with fail
       refine(W1.out _).mono ?_;rintro e w1 ⟨rfl,rfl⟩
       go_wp2_with fail
       refine(W2.out _).mono ?_;rintro e w1 ⟨rfl,rfl⟩
       go_wp2_with fail
       go_ret;exact⟨bB Hr.out.symm,hal.out _⟩
     ·have W1:=hid (fun(W:World)=>dU x.Len 1 24 W hp1);have Hr:=hid (HB.out x (aBJ hxk) (fun h=>hp1 h.1));clear hxk Hall hp1
      go_wp2_with fail
      refine(W1.out _).mono ?_;rintro e w1 ⟨rfl,rfl⟩
      go_wp2_with fail
      go_ret;exact⟨bB Hr.out.symm,hal.out _⟩
    ·have hlt':¬ (k:Int) < (n:Int):=by omega
     obtain rfl:k=n:=by omega
     have Hr:=hid (HR.out (fun p hp=>by
      obtain⟨j,hj,rfl⟩:=aBw.1 hp;exact Hall.out j _ (by rw[<- Hn.out];exact hj) (by simp)))
     clear Hall
     go_wp2_with fail
     go_ret;exact⟨bB Hr.out.symm,hal.out _⟩
 ·have S:=hid (fun(W:World)=>aAi r.aI r.aH W hs);have Hr:=hid (qF (r:=r) (fun h=>hs h.1));obtain⟨pa,pc,rfl,hpc,_,hpl⟩:=hv.form;clear hv hs;generalize r.aF.length=n at *;go_enter func52,ntmps52
  go_wp2_with fail
  refine(S.out _).mono ?_;rintro e w1 ⟨rfl,rfl⟩
  go_wp2_with fail
  go_ret;exact⟨bB Hr.out.symm,hal.out _⟩
theorem rF (w:World) (pv:Value) (r:aS) (hv:aU w pv r.aF) :
  Calls prog 125 #[.agg #[aA aB r.aG,aA aB r.aI,aA aB r.aH,aA aB r.aJ,pv]] w fun e w'=>e=.returned (.bool (decide (bX r)))/\Ext w w':=by
 have hal:=hid (fun(o:Obj)=>(Ext.rf w).al o);have K:=hid (fun(W:World)=>wG r.aJ W);have M:=hid (fun(W:World) (h:Ext w W)=>nR W pv r (hv.mono h));have G:=hid (fun(W:World) (h:Ext w W)=>oL W pv r (hv.mono h));obtain⟨pa,pc,rfl,hpc,_,hpl⟩:=hv.form;clear hv;by_cases h1:jA r.aJ
 ·rw[deT h1] at K;by_cases h2:iB r
  ·rw[uO h2] at M;by_cases h3:iH r
   ·rw[oM h3] at G;rw[deT (p:=bX r) ⟨h1,h2,h3⟩];clear h1 h2 h3;generalize r.aF.length=n at *;go_enter func125,ntmps125
    go_wp2_with fail
    refine(K.out _).mono ?_;rintro e w1 ⟨rfl,rfl⟩
    go_wp2_with fail
    refine(M.out _ (hal.out _)).mono ?_;rintro e w2 ⟨rfl,hx2⟩;have hx02:=hid ((hal.out _).tr hx2);obtain⟨_,_,_,_,_⟩:=bY hx2
    go_wp2_with fail
    refine(G.out _ hx02.out).mono ?_;rintro e w3 ⟨rfl,hx3⟩
    go_wp2_with fail
    go_ret;exact⟨rfl,hx02.out.tr hx3⟩
   ·rw[qF h3] at G;rw[deF (p:=bX r) (fun h=>h3 h.range)];clear h1 h2 h3;generalize r.aF.length=n at *;go_enter func125,ntmps125
    go_wp2_with fail
    refine(K.out _).mono ?_;rintro e w1 ⟨rfl,rfl⟩
    go_wp2_with fail
    refine(M.out _ (hal.out _)).mono ?_;rintro e w2 ⟨rfl,hx2⟩;have hx02:=hid ((hal.out _).tr hx2);obtain⟨_,_,_,_,_⟩:=bY hx2
    go_wp2_with fail
    refine(G.out _ hx02.out).mono ?_;rintro e w3 ⟨rfl,hx3⟩
    go_wp2_with fail
    go_ret;exact⟨rfl,hx02.out.tr hx3⟩
  ·rw[xR h2] at M;rw[deF (p:=bX r) (fun h=>h2 h.many)];clear h1 h2;generalize r.aF.length=n at *;go_enter func125,ntmps125
   go_wp2_with fail
   refine(K.out _).mono ?_;rintro e w1 ⟨rfl,rfl⟩
   go_wp2_with fail
   refine(M.out _ (hal.out _)).mono ?_;rintro e w2 ⟨rfl,hx2⟩;have hx02:=hid ((hal.out _).tr hx2);obtain⟨_,_,_,_,_⟩:=bY hx2
   go_wp2_with fail
   go_ret;exact⟨rfl,hx02.out⟩
 ·rw[deF h1] at K;rw[deF (p:=bX r) (fun h=>h1 h.kind)];clear h1;generalize r.aF.length=n at *;go_enter func125,ntmps125
  go_wp2_with fail
  refine(K.out _).mono ?_;rintro e w1 ⟨rfl,rfl⟩
  go_wp2_with fail
  go_ret;exact⟨rfl,hal.out _⟩
@[irreducible] def fQ (l:List Queue) (r:aS):Int:=
 if bM l≠0 then bM l else if¬ jA r.aJ then 7 else if¬ iB r then 2 else if¬ (0<=r.aG/\r.aG < l.length) then 6 else if¬ iH r then 3 else 0
theorem zQ {l:List Queue} {r:aS} (h:fQ l r=0):bM l=0/\bX r/\0<=r.aG/\r.aG < l.length:=by
 unfold fQ at h;by_cases h0:bM l=0
 ·rw[if_neg (fun h'=>h' h0)] at h;by_cases h1:jA r.aJ
  ·rw[if_neg (fun h'=>h' h1)] at h;by_cases h2:iB r
   ·rw[if_neg (fun h'=>h' h2)] at h;by_cases h3:0<=r.aG/\r.aG < l.length
    ·rw[if_neg (fun h'=>h' h3)] at h;by_cases h4:iH r
     ·exact⟨h0,⟨h1,h2,h4⟩,h3.1,h3.2⟩
     ·rw[if_pos h4] at h;omega
    ·rw[if_pos h3] at h;omega
   ·rw[if_pos h2] at h;omega
  ·rw[if_pos h1] at h;omega
 ·rw[if_pos h0] at h;exact absurd h h0
theorem Lh {l:List Queue} {r:aS} (h0:bM l=0) (h:bX r) (h3:0<=r.aG/\r.aG < l.length):fQ l r=0:=by
 unfold fQ;rw[if_neg (fun h'=>h' h0),if_neg (fun h'=>h' h.kind),if_neg (fun h'=>h' h.many),if_neg (fun h'=>h' h3),if_neg (fun h'=>h' h.range)]
theorem Jd {l:List Queue} {r:aS} (h0:bM l≠0):fQ l r=bM l:=by unfold fQ;rw[if_pos h0]
theorem Vh {l:List Queue} {r:aS} (h0:bM l=0):fQ l r=if(kC r).2=false/\¬ (0<=r.aG/\r.aG < l.length) then 6 else(kC r).1:=by
 unfold fQ;rw[if_neg (fun h'=>h' h0)];rcases tN r with ⟨h1,hr⟩ | ⟨h1,h2,hr⟩ | ⟨h1,h2,h3,hr⟩ | ⟨h1,hr⟩
 ·rw[hr,if_pos h1,if_neg (fun h=>by cases h.1)]
 ·rw[hr,if_neg (fun h'=>h' h1),if_pos h2,if_neg (fun h=>by cases h.1)]
 ·rw[hr,if_neg (fun h'=>h' h1),if_neg (fun h'=>h' h2)];by_cases h4:0<=r.aG/\r.aG < l.length
  ·rw[if_neg (fun h'=>h' h4),if_pos h3,if_neg (fun h=>h.2 h4)]
  ·rw[if_pos h4,if_pos ⟨rfl,h4⟩]
 ·rw[hr,if_neg (fun h'=>h' h1.kind),if_neg (fun h'=>h' h1.many)];by_cases h4:0<=r.aG/\r.aG < l.length
  ·rw[if_neg (fun h'=>h' h4),if_neg (fun h'=>h' h1.range),if_neg (fun h=>h.2 h4)]
  ·rw[if_pos h4,if_pos ⟨rfl,h4⟩]
theorem xI (w:World) (v pv:Value) (l:List Queue) (r:aS) (hl:aX w v l) (hv:aU w pv r.aF) :
  Calls prog 128 #[v,.agg #[aA aB r.aG,aA aB r.aI,aA aB r.aH,aA aB r.aJ,pv]] w fun e w'=>e=.returned (aA aB (fQ l r))/\Ext w w':=by
 have hal:=hid (fun(o:Obj)=>(Ext.rf w).al o);have T:=hid (fun(W:World) (h:Ext w W)=>mT W v l (hl.mono h));have F:=hid (fun(W:World) (h:Ext w W)=>pA W pv r (hv.mono h));obtain⟨pa,pc,rfl,hpc,_,hpl⟩:=hv.form;obtain⟨qa,qc,rfl,hqc,_,hql⟩:=hl.form;clear hv hl;by_cases h0:bM l=0
 ·have Hf:=hid (Vh (r:=r) h0);rw[h0] at T;obtain⟨fe,fb,hf⟩:∃ fe fb,kC r=(fe,fb):=⟨_,_,rfl⟩;rw[hf] at F Hf;clear h0 hf;cases fb with
  | true=>
   have Hr:=hid (show fQ l r=fe from by rw[Hf.out,if_neg (fun h=>by cases h.1)]);generalize r.aF.length=n at *;generalize l.length=m at *;go_enter func128,ntmps128
   go_wp2_with fail
   refine(T.out _ (hal.out _)).mono ?_;rintro e w1 ⟨rfl,hx1⟩;have hx01:=hid ((hal.out _).tr hx1);obtain⟨_,_,_,_,_⟩:=bY hx1
   go_wp2_with fail
   refine(F.out _ hx01.out).mono ?_;rintro e w2 ⟨rfl,hx2⟩;obtain⟨_,_,_,_,_⟩:=bY (hx1.tr hx2)
   go_wp2_with fail
   go_ret;exact⟨bB Hr.out.symm,hx01.out.tr hx2⟩
  | false=>
   by_cases h1:r.aG < 0
   ·have Hr:=hid (show fQ l r=6 from by rw[Hf.out,if_pos ⟨rfl,fun h=>by omega⟩]);generalize r.aF.length=n at *;generalize l.length=m at *;go_enter func128,ntmps128
    go_wp2_with fail
    refine(T.out _ (hal.out _)).mono ?_;rintro e w1 ⟨rfl,hx1⟩;have hx01:=hid ((hal.out _).tr hx1);obtain⟨_,_,_,_,_⟩:=bY hx1
    go_wp2_with fail
    refine(F.out _ hx01.out).mono ?_;rintro e w2 ⟨rfl,hx2⟩;obtain⟨_,_,_,_,_⟩:=bY (hx1.tr hx2)
    go_wp2_with fail
    go_ret;exact⟨bB Hr.out.symm,hx01.out.tr hx2⟩
   ·by_cases h2:(l.length:Int)<=r.aG
    ·have Hr:=hid (show fQ l r=6 from by rw[Hf.out,if_pos ⟨rfl,fun h=>by omega⟩]);generalize r.aF.length=n at *;generalize l.length=m at *;go_enter func128,ntmps128
     go_wp2_with fail
     refine(T.out _ (hal.out _)).mono ?_;rintro e w1 ⟨rfl,hx1⟩;have hx01:=hid ((hal.out _).tr hx1);obtain⟨_,_,_,_,_⟩:=bY hx1
     go_wp2_with fail
     refine(F.out _ hx01.out).mono ?_;rintro e w2 ⟨rfl,hx2⟩;obtain⟨_,_,_,_,_⟩:=bY (hx1.tr hx2)
     go_wp2_with fail
     go_ret;exact⟨bB Hr.out.symm,hx01.out.tr hx2⟩
    ·have Hr:=hid (show fQ l r=fe from by rw[Hf.out,if_neg (fun h=>h.2 ⟨by omega,by omega⟩)]);generalize r.aF.length=n at *;generalize l.length=m at *;go_enter func128,ntmps128
     go_wp2_with fail
     refine(T.out _ (hal.out _)).mono ?_;rintro e w1 ⟨rfl,hx1⟩;have hx01:=hid ((hal.out _).tr hx1);obtain⟨_,_,_,_,_⟩:=bY hx1
     go_wp2_with fail
     refine(F.out _ hx01.out).mono ?_;rintro e w2 ⟨rfl,hx2⟩;obtain⟨_,_,_,_,_⟩:=bY (hx1.tr hx2)
     go_wp2_with fail
     go_ret;exact⟨bB Hr.out.symm,hx01.out.tr hx2⟩
 ·have Hr:=hid (Jd (r:=r) h0);have hne:=neT h0;clear h0;generalize r.aF.length=n at *;generalize l.length=m at *;go_enter func128,ntmps128
  go_wp2_with fail
  refine(T.out _ (hal.out _)).mono ?_;rintro e w1 ⟨rfl,hx1⟩
  go_wp2_with fail
  go_ret;exact⟨bB Hr.out.symm,(hal.out _).tr hx1⟩
theorem kA (w:World) (v pv:Value) (l:List Queue) (r:aS) (hl:aX w v l) (hv:aU w pv r.aF) :
  Calls prog 94 #[v,.agg #[aA aB r.aG,aA aB r.aI,aA aB r.aH,aA aB r.aJ,pv]] w fun e w'=>e=.returned (aA aB (fQ l r))/\Ext w w':=by
 have hal:=hid (fun(o:Obj)=>(Ext.rf w).al o);have T:=hid (fun(W:World) (h:Ext w W)=>vM W v l (hl.mono h));have K:=hid (fun(W:World)=>wG r.aJ W);have M:=hid (fun(W:World) (h:Ext w W)=>nR W pv r (hv.mono h));have G:=hid (fun(W:World) (h:Ext w W)=>oL W pv r (hv.mono h));obtain⟨pa,pc,rfl,hpc,_,hpl⟩:=hv.form;obtain⟨qa,qc,rfl,hqc,_,hql⟩:=hl.form;clear hv hl;by_cases h0:bM l=0
 ·have Hf:=hid (show fQ l r=if¬ jA r.aJ then 7 else if¬ iB r then 2 else if¬ (0<=r.aG/\r.aG < l.length) then 6 else if¬ iH r then 3 else 0 from by unfold fQ;rw[if_neg (fun h'=>h' h0)]);rw[h0] at T;clear h0;by_cases h1:jA r.aJ
  ·rw[deT h1] at K;by_cases h2:iB r
   ·rw[uO h2] at M;by_cases h3:0<=r.aG/\r.aG < l.length
    ·have W1:=hid (fun(W:World)=>cE r.aG 0 ((l.length:Int) - 1) W h3.1 (by omega));have Hr:=hid (show fQ l r=vX r from by
      rw[Hf.out,if_neg (fun h'=>h' h1),if_neg (fun h'=>h' h2),if_neg (fun h'=>h' h3)];by_cases h4:iH r
      ·rw[if_neg (fun h'=>h' h4),oM h4]
      ·rw[if_pos h4,qF h4])
     clear h1 h2 h3 Hf;generalize r.aF.length=n at *;generalize l.length=m at *;generalize vX r=re at *;go_enter func94,ntmps94
     go_wp2_with fail
     refine(T.out _ (hal.out _)).mono ?_;rintro e w1 ⟨rfl,hx1⟩;have hx01:=hid ((hal.out _).tr hx1);obtain⟨_,_,_,_,_⟩:=bY hx1
     go_wp2_with fail
     refine(K.out _).mono ?_;rintro e w2 ⟨rfl,rfl⟩
     go_wp2_with fail
     refine(M.out _ hx01.out).mono ?_;rintro e w3 ⟨rfl,hx3⟩;have hx03:=hid (hx01.out.tr hx3);obtain⟨_,_,_,_,_⟩:=bY (hx1.tr hx3)
     go_wp2_with fail
     refine(W1.out _).mono ?_;rintro e w4 ⟨rfl,rfl⟩
     go_wp2_with fail
     refine(G.out _ hx03.out).mono ?_;rintro e w5 ⟨rfl,hx5⟩
     go_wp2_with fail
     go_ret;exact⟨bB Hr.out.symm,hx03.out.tr hx5⟩
    ·have W1:=hid (fun(W:World)=>dU r.aG 0 ((l.length:Int) - 1) W (fun h=>h3 ⟨h.1,by omega⟩));have Hr:=hid (show fQ l r=6 from by rw[Hf.out,if_neg (fun h'=>h' h1),if_neg (fun h'=>h' h2),if_pos h3]);clear h1 h2 h3 Hf;generalize r.aF.length=n at *;generalize l.length=m at *;go_enter func94,ntmps94
     go_wp2_with fail
     refine(T.out _ (hal.out _)).mono ?_;rintro e w1 ⟨rfl,hx1⟩;have hx01:=hid ((hal.out _).tr hx1);obtain⟨_,_,_,_,_⟩:=bY hx1
     go_wp2_with fail
     refine(K.out _).mono ?_;rintro e w2 ⟨rfl,rfl⟩
     go_wp2_with fail
     refine(M.out _ hx01.out).mono ?_;rintro e w3 ⟨rfl,hx3⟩;have hx03:=hid (hx01.out.tr hx3);obtain⟨_,_,_,_,_⟩:=bY (hx1.tr hx3)
     go_wp2_with fail
     refine(W1.out _).mono ?_;rintro e w4 ⟨rfl,rfl⟩
     go_wp2_with fail
     go_ret;exact⟨bB Hr.out.symm,hx03.out⟩
   ·rw[xR h2] at M;have Hr:=hid (show fQ l r=2 from by rw[Hf.out,if_neg (fun h'=>h' h1),if_pos h2]);clear h1 h2 Hf;generalize r.aF.length=n at *;generalize l.length=m at *;go_enter func94,ntmps94
    go_wp2_with fail
    refine(T.out _ (hal.out _)).mono ?_;rintro e w1 ⟨rfl,hx1⟩;have hx01:=hid ((hal.out _).tr hx1);obtain⟨_,_,_,_,_⟩:=bY hx1
    go_wp2_with fail
    refine(K.out _).mono ?_;rintro e w2 ⟨rfl,rfl⟩
    go_wp2_with fail
    refine(M.out _ hx01.out).mono ?_;rintro e w3 ⟨rfl,hx3⟩
    go_wp2_with fail
    go_ret;exact⟨bB Hr.out.symm,hx01.out.tr hx3⟩
  ·rw[deF h1] at K;have Hr:=hid (show fQ l r=7 from by rw[Hf.out,if_pos h1]);clear h1 Hf;generalize r.aF.length=n at *;generalize l.length=m at *;go_enter func94,ntmps94
   go_wp2_with fail
   refine(T.out _ (hal.out _)).mono ?_;rintro e w1 ⟨rfl,hx1⟩;have hx01:=hid ((hal.out _).tr hx1);obtain⟨_,_,_,_,_⟩:=bY hx1
   go_wp2_with fail
   refine(K.out _).mono ?_;rintro e w2 ⟨rfl,rfl⟩
   go_wp2_with fail
   go_ret;exact⟨bB Hr.out.symm,hx01.out⟩
 ·have Hr:=hid (Jd (r:=r) h0);have hne:=neT h0;clear h0;generalize r.aF.length=n at *;generalize l.length=m at *;go_enter func94,ntmps94
  go_wp2_with fail
  refine(T.out _ (hal.out _)).mono ?_;rintro e w1 ⟨rfl,hx1⟩
  go_wp2_with fail
  go_ret;exact⟨bB Hr.out.symm,(hal.out _).tr hx1⟩
theorem qG {α:Type} {f g:α->Int} {w:World} {cs:Array Value} {b n:Nat} {t:TypeId} (l:List α) (hb:b=w.heap.size) (hcs:cs=(cF f g l).toArray) (hn:n=l.length) (hl:l.length<=48) (hi:∀ r∈l,I64 (f r)/\I64 (g r)) :
  SV 2 (E2 f g) (w.alloc (.cells cs t)) (aE (aC ⟨b,0,aD⟩) n n) l:=by
 subst hb hcs hn;refine .inr ⟨w.heap.size,0,l.length,rfl,aBq _,by omega,by omega,mS.row (heap_alloc_new w _),fun k x hk=>?_⟩;obtain⟨h1,h2⟩:=mR f g l k x hk;have h3:=hi x (aBJ hk);have hc:∀ j v,(cF f g l)[j]?=aC v->(w.alloc (.cells (cF f g l).toArray t)).cell? ⟨w.heap.size,0+j,aD⟩=aC v:=fun j v hv=>by
  rw[cell_of_row _ _ _ _ _ _ (heap_alloc_new w _),Nat.zero_add];simpa using hv
 exact⟨hc _ _ h1,by rw[Nat.add_assoc];exact hc _ _ h2,h3.1,h3.2⟩
theorem Vy {l:List bO} (h:(l.all fun r=>decide (-9000000<=r.Piece/\r.Piece<=9000000/\-9000000<=r.At/\r.At<=9000000))=true):∀ r∈l,I64 r.Piece/\I64 r.At:=fun r hr=>by
 have:=of_decide_eq_true (List.all_eq_true.1 h r hr);exact⟨I64.of (by omega) (by omega),I64.of (by omega) (by omega)⟩
theorem Ki {w:World} {cs:Array Value} {b n:Nat} {t:TypeId} (l:List bO) (hb:b=w.heap.size) (hcs:cs=(cF bO.Piece bO.At l).toArray) (hn:n=l.length) (hl:l.length<=48) (h:(l.all fun r=>decide (-9000000<=r.Piece/\r.Piece<=9000000/\-9000000<=r.At/\r.At<=9000000))=true) :
  bJ (w.alloc (.cells cs t)) (aE (aC ⟨b,0,aD⟩) n n) l:=qG l hb hcs hn hl (Vy h)
section
variable {P:Program} {ops:Array Oper} {Q:Exit->Act->World->Prop} {md:Region.Mode} {S:World->Prop}
theorem Nb {i j:Nat} {oi oj:Oper} (Ri Rj:Value->World->Prop) {fuel:Nat} {listed:Array Bool} {a:Act} {w:World}
  (hi:ops[i]?=aC oi) (hj:ops[j]?=aC oj)
  (hr:Region.ready md ops listed=[i,j]) (hri:Region.ready md ops (listed.setIfInBounds i true)=[j]) (hrj:Region.ready md ops (listed.setIfInBounds j true)=[i]) (hij:(i == j)=false)
  (hd:∀ v u,(a.put oj.dst u).put oi.dst v=(a.put oi.dst v).put oj.dst u)
  (wi:Region.wanted oi (yielded ops a.tmps)=true) (wj:Region.wanted oj (yielded ops a.tmps)=true)
  (wi':∀ u,Region.wanted oi (yielded ops (a.put oj.dst u).tmps)=true) (wj':∀ v,Region.wanted oj (yielded ops (a.put oi.dst v).tmps)=true)
  (h1:∀ K:Act->World->Prop,Shut (∀ v w',Ri v w'->S w'->K (a.put oi.dst v) w')->Oper.wp P oi a w K Q)
  (h2:∀ K:Act->World->Prop,Shut (∀ u w',Rj u w'->S w'->K (a.put oj.dst u) w')->Oper.wp P oj a w K Q)
  (h12:∀ v w1,Ri v w1->S w1->∀ K:Act->World->Prop,Shut (∀ u w',Rj u w'->Ri v w'->S w'->K ((a.put oi.dst v).put oj.dst u) w')->Oper.wp P oj (a.put oi.dst v) w1 K Q)
  (h21:∀ u w1,Rj u w1->S w1->∀ K:Act->World->Prop,Shut (∀ v w',Ri v w'->Rj u w'->S w'->K ((a.put oj.dst u).put oi.dst v) w')->Oper.wp P oi (a.put oj.dst u) w1 K Q)
  (K:∀ v u w',Ri v w'->Rj u w'->S w'->wpAnyH P md ops Q S fuel ((listed.setIfInBounds i true).setIfInBounds j true) ((a.put oi.dst v).put oj.dst u) w') :
  wpAnyH P md ops Q S (fuel+2) listed a w:=by
 have hij':i≠j:=by simpa using hij
 refine wpAnyH_all (fuel:=fuel+1) hr (by simp) (fun x hx=>?_);simp only[aC8,aCj,or_false] at hx;rcases hx with rfl | rfl
 ·refine wpOp_step hi (fun K' hK=>?_);rw[if_pos wi];refine h1 K' (fun v w' hv hS=>hK _ _ ⟨hS,?_⟩);refine wpAnyH_ready hri (by simp) (AllReadyH.cons hj (fun K2 hK2=>?_) AllReadyH.nil);rw[if_pos (wj' v)];exact h12 v w' hv hS K2 (fun u w2 hu hv2 hS2=>hK2.out _ _ hS2 (fun _=>K v u w2 hv2 hu hS2))
 ·refine wpOp_step hj (fun K' hK=>?_);rw[if_pos wj];refine h2 K' (fun u w' hu hS=>hK _ _ ⟨hS,?_⟩);refine wpAnyH_ready hrj (by simp) (AllReadyH.cons hi (fun K2 hK2=>?_) AllReadyH.nil);rw[if_pos (wi' u)];refine h21 u w' hu hS K2 (fun v w2 hv hu2 hS2=>hK2.out _ _ hS2 (fun _=>?_));rw[hd,Array.setIfInBounds_comm _ _ (Ne.symm hij')];exact K v u w2 hv hu2 hS2
end
def cV (x:Nat->Int) (r:aS) (a k:Nat):Option Nat:=jP x a r.aH.toNat (pL r k).toNat (pN r k)
theorem Vm {x:Nat->Int} {r:aS} {a k t:Nat} (h48:r.aH.toNat<=48) (h:cV x r a k=aC t):t < 48:=by
 have:=oG x a r.aH.toNat (pL r k).toNat (pN r k);unfold cV at h;rw[h] at this;have:=this.2.1;omega
theorem iJ {x:Nat->Int} {r:aS} {a k t:Nat} (h:cV x r a k=aC t):a<=t/\t < r.aH.toNat/\kX x t r.aH.toNat (pL r k).toNat (pN r k):=by
 have:=oG x a r.aH.toNat (pL r k).toNat (pN r k);unfold cV at h;rw[h] at this;exact⟨this.1,this.2.1,this.2.2.1⟩
theorem sM {f:List Run} {r:aS} {a k:Nat}:sN f (a:Int) r.aH (pL r k) (pN r k)=match cV (sp f) r a k with | some t=>((t:Int),true) | none=>(0,false):=by
 unfold sN cV;simp only[aBQ];cases jP (sp f) a r.aH.toNat (pL r k).toNat (pN r k) <;> rfl
def oW (x:Nat->Int) (r:aS):Nat->Nat->List bO
 | 0,_=>[]
 | m+1,k=>match cV x r r.aI.toNat k with
  | some t=>[⟨(k:Int),(t:Int)⟩]
  | none=>oW x r m (k+1)
def eX (r:aS) (nx:(Nat->Int)->Nat->Nat->Nat->Int) (na:Nat->Nat->Nat):Nat->Nat->(Nat->Int)->Nat->List bO->List bO
 | 0,_,_,_,out=>out
 | m+1,k,x,a,out=>match cV x r a k with
  | none=>[]
  | some t=>eX r nx na m (k+1) (nx x k t) (na k t) (out++[⟨(k:Int),(t:Int)⟩])
def oP (x:Nat->Int) (_ _:Nat):Nat->Int:=x
def jK (r:aS) (x:Nat->Int) (k t:Nat):Nat->Int:=fun i=>x i+cO t (t+(pL r k).toNat) (-(pN r k)) i
def fN (r:aS) (k t:Nat):Nat:=t+(pL r k).toNat
def nH (r:aS) (_ _:Nat):Nat:=r.aI.toNat
def fO (r:aS) (t:Nat):Nat->Nat
 | 0=>t
 | k+1=>fO r t k+(pL r k).toNat
def nX (r:aS) (t:Nat) (k:Nat):List bO:=(List.range k).map fun(i:Nat)=>(⟨(i:Int),(fO r t i:Int)⟩:bO)
theorem Jc (r:aS) (t k:Nat):nX r t (k+1)=nX r t k++[⟨(k:Int),(fO r t k:Int)⟩]:=by simp[nX,List.range_succ]
theorem nC (r:aS) (t k:Nat):(nX r t k).length=k:=by simp[nX]
def lS (x:Nat->Int) (r:aS) (t k:Nat):Prop:=kX x (fO r t k) r.aH.toNat (pL r k).toNat (pN r k)
instance (x:Nat->Int) (r:aS) (t k:Nat):Decidable (lS x r t k):=inferInstanceAs (Decidable (kX _ _ _ _ _))
def fW (x:Nat->Int) (r:aS) (t:Nat):Prop:=∀ k,k < r.aF.length->lS x r t k
instance (x:Nat->Int) (r:aS) (t:Nat):Decidable (fW x r t):=inferInstanceAs (Decidable (∀ k,k < r.aF.length->_))
def dQ (x:Nat->Int) (r:aS):Nat->Nat->List bO
 | 0,_=>[]
 | m+1,t=>if fW x r t then nX r t r.aF.length else dQ x r m (t+1)
theorem rA {x:Nat->Int} {r:aS}:∀ {d m t:Nat},d<=m->(∀ s,t<=s->s < t+d->¬ fW x r s)->dQ x r m t=dQ x r (m - d) (t+d)
 | 0,m,t,_,_=>by simp
 | d+1,0,t,h,_=>by omega
 | d+1,m+1,t,h,hn=>by
  have h1:dQ x r (m+1) t=dQ x r m (t+1):=by
   rw[dQ,if_neg (hn t (aBq _) (by omega))]
  rw[h1,rA (d:=d) (by omega) (fun s h1 h2=>hn s (by omega) (by omega)),show m+1 - (d+1)=m - d by omega,show t+1+d=t+(d+1) by omega]
theorem Ku {x:Nat->Int} {r:aS} {m t:Nat} (hn:∀ s,t<=s->s < t+m->¬ fW x r s):dQ x r m t=[]:=by
 rw[rA (d:=m) (aBq _) hn,aCp];rfl
@[irreducible] def cK (x:Nat->Int) (r:aS):List bO:=
 if r.aJ=4 then dQ x r (r.aH.toNat - r.aI.toNat) r.aI.toNat
 else if r.aJ=3 then eX r oP (fN r) r.aF.length 0 x r.aI.toNat []
 else if r.aJ=2 then oW x r r.aF.length 0
 else eX r (jK r) (nH r) r.aF.length 0 x r.aI.toNat []
theorem lN {x:Nat->Int} {r:aS} (h:r.aJ=4):cK x r=dQ x r (r.aH.toNat - r.aI.toNat) r.aI.toNat:=by unfold cK;rw[if_pos h]
theorem nY {x:Nat->Int} {r:aS} (h:r.aJ=3):cK x r=eX r oP (fN r) r.aF.length 0 x r.aI.toNat []:=by unfold cK;rw[if_neg (by omega),if_pos h]
theorem rI {x:Nat->Int} {r:aS} (h:r.aJ=2):cK x r=oW x r r.aF.length 0:=by unfold cK;rw[if_neg (by omega),if_neg (by omega),if_pos h]
theorem rJ {x:Nat->Int} {r:aS} (h:r.aJ=1):cK x r=eX r (jK r) (nH r) r.aF.length 0 x r.aI.toNat []:=by unfold cK;rw[if_neg (by omega),if_neg (by omega),if_neg (by omega)]
@[irreducible] def mC (f:List Run) (r:aS):List bO × Bool × Int:=
 if gM f then(if(kC r).1=0 then(cK (sp f) r,decide (cK (sp f) r≠[]),0) else([],false,(kC r).1)) else([],false,1)
theorem Ff {f:List Run} {r:aS} (h:¬ gM f):mC f r=([],false,1):=by unfold mC;rw[if_neg h]
theorem uT {f:List Run} {r:aS} (h:gM f) (h2:(kC r).1≠0):mC f r=([],false,(kC r).1):=by unfold mC;rw[if_pos h,if_neg h2]
theorem Pa {f:List Run} {r:aS} (h:gM f) (h2:(kC r).1=0):mC f r=(cK (sp f) r,decide (cK (sp f) r≠[]),0):=by unfold mC;rw[if_pos h,if_pos h2]
theorem oT {x:Nat->Int} {p:Int->Prop} (h:∀ t,t < 48->p (x t)):∀ r∈bN x,p r.N:=fun r hr=>by
 have hs:=eE x;obtain⟨k,hk,rfl⟩:=aBw.1 hr;obtain⟨h1,h2,h3,h4⟩:=cM hs hk;have e1:iN (bN x) k=((bN x)[k]).N:=cT (aBu hk);have h5:=h4 (bW (bN x) k).toNat (by omega) (by omega);rw[<- e1,<- h5,fL (by omega)];exact h _ (by omega)
def dZ (w:World) (B:Nat) (r:aS) (pv fv:Value):Prop:=w.heap[B]?=aC (.cells #[aA aB r.aG,aA aB r.aI,aA aB r.aH,aA aB r.aJ,pv,fv] 135 (0,0))
theorem dZ.ext {w w':World} {B:Nat} {r:aS} {pv fv:Value} (h:dZ w B r pv fv) (hx:Ext w w'):dZ w' B r pv fv:=
 (hx.block _ (aBy.1 h).1).trans h
theorem dZ.cells {w:World} {B:Nat} {r:aS} {pv fv:Value} (h:dZ w B r pv fv):w.cell? ⟨B,0,aD⟩=aC (aA aB r.aG)/\w.cell? ⟨B,1,aD⟩=aC (aA aB r.aI)/\w.cell? ⟨B,2,aD⟩=aC (aA aB r.aH)/\w.cell? ⟨B,3,aD⟩=aC (aA aB r.aJ)/\w.cell? ⟨B,4,aD⟩=aC pv/\w.cell? ⟨B,5,aD⟩=aC fv:=by
 have c:∀ j,w.cell? ⟨B,j,aD⟩=_:=fun j=>cell_of_row w B j _ _ _ h;exact⟨c _,c _,c _,c _,c _,c _⟩
theorem dZ.lt {w:World} {B:Nat} {r:aS} {pv fv:Value} (h:dZ w B r pv fv):B < w.heap.size:=(aBy.1 h).1
theorem cQ {r:aS} (hr:bX r):(0<=r.aI/\r.aI < r.aH/\r.aH<=48)/\∀ k,k < r.aF.length->(1<=pL r k/\pL r k<=24)/\1<=pN r k/\pN r k<=50:=by
 refine⟨hr.range.1,fun k hk=>?_⟩;obtain⟨y,hy⟩:=bT (f:=r.aF) (k:=k) hk;have h1:=hr.range.2 y (aBJ hy);rw[(dW hy).1,(dW hy).2];exact h1
theorem Ad (w:World) (B:Nat) (r:aS) (pv fv:Value) (f:List Run) (k:Nat) (a:Int) (hS:dZ w B r pv fv) (hp:aU w pv r.aF) (hf:bC w fv f) (hs:dI f) (hr:bX r) (hk:k < r.aF.length) (ha:0<=a/\a<=48) :
  Calls prog 152 #[.pointer (aC ⟨B,0,aD⟩),aA aB k,aA aB a] w (Bv w (sN f a r.aH (pL r k) (pN r k))):=by
 obtain⟨⟨q1,q2,q3⟩,q4⟩:=cQ hr;obtain⟨⟨q5,q6⟩,q7,q8⟩:=q4 k hk;obtain⟨c0,c1,c2,c3,c4,c5⟩:=hS.cells;obtain⟨pb,po,pc,rfl,hpc,hpc9,hpb,hpE⟩:=eZ hp (by omega);obtain⟨y,hy⟩:=bT (f:=r.aF) (k:=k) hk;obtain⟨d1,d2,d3,d4⟩:=hpE k y hy;have S:=hid (fun(W:World) (h:Ext w W)=>Zu W fv f a r.aH (pL r k) (pN r k) (hf.mono h) hs ha ⟨by omega,by omega⟩ ⟨by omega,by omega⟩);rw[(dW hy).1,(dW hy).2] at S;rw[(dW hy).1,(dW hy).2];have hal:=hid (fun(o:Obj)=>(Ext.rf w).al o);obtain⟨fa,fc,rfl,_,_,_⟩:=hf.form;have hlt':(k:Int) < (r.aF.length:Int):=by omega
 clear hS hp hf hs hr hpE hy q5 q6 q7 q8 q4;generalize r.aF.length=n at *;generalize f.length=fn at *;generalize hsk:sN f a r.aH y.Len y.N=sk at *;clear hsk;go_enter func152,ntmps152
 go_wp2_with fail
 have hx1:=hid (hal.out (.cells #[aA aB y.Len,aA aB y.N] 44));have g0:(w.alloc (.cells #[aA aB y.Len,aA aB y.N] 44)).cell? ⟨w.heap.size,0,aD⟩=aC (aA aB y.Len):=cell_of_row _ _ 0 _ _ _ (heap_alloc_new w _);have g1:(w.alloc (.cells #[aA aB y.Len,aA aB y.N] 44)).cell? ⟨w.heap.size,1,aD⟩=aC (aA aB y.N):=cell_of_row _ _ 1 _ _ _ (heap_alloc_new w _);replace c2:=hx1.out.ce' c2;replace c5:=hx1.out.ce' c5;clear c0 c1 c3 c4 d1 d2 hal;generalize w.alloc (.cells #[aA aB y.Len,aA aB y.N] 44)=W1 at *;generalize w.heap.size=B1 at *;obtain⟨s1,s2⟩:=sk;replace c2:=fun p:bF W1=>p.cell c2;replace c5:=fun p:bF W1=>p.cell c5;replace g0:=fun p:bF W1=>p.cell g0;replace g1:=fun p:bF W1=>p.cell g1;have S1:=hid (fun p:bF W1=>fH p (S.out p.v (hx1.out.tr p.h)));refine pH 17 (by kernel_rfl) (by kernel_rfl) ?_;simp only[List.take_succ_cons,List.take_zero,List.drop_succ_cons,List.drop_zero]
 repeat (go_big_quiet_step (exact S1.out _))
 refine wpQuiet_nil ?_;rintro w' ⟨p,rfl⟩
 go_wp2_with fail
 go_ret2
 exact⟨rfl,hx1.out.tr p.h⟩
def jT (W:World) (v:Value):Prop:=∀ a n c,v=aE (aC a) n c->W.heap.size<=a.block
theorem lD (W:World) (n c:Nat):jT W (aE aD n c):=fun a m d e=>by cases e
theorem qQ {w0 w:World} {base e sz n:Nat} {v:Value} {xs:List Value} (h:w.ownsRow base e sz v n xs) (hb:w0.heap.size<=base):jT w0 v:=fun a m c e=>by
 subst e;exact aC4 hb (eU h a.block rfl)
def oY (w0:World) (l:List bO) (e:Ending) (w':World):Prop:=∃ v,e=.returned v/\bJ w' v l/\((l=[]->v=aE aD 0 0)/\jT w0 v)/\Ext w0 w'
theorem aAs (w:World) (B:Nat) (r:aS) (pv fv:Value) (f:List Run) (hS:dZ w B r pv fv) (hp:aU w pv r.aF) (hf:bC w fv f) (hs:dI f) (hr:bX r) :
  Calls prog 91 #[.pointer (aC ⟨B,0,aD⟩)] w (oY w (oW (sp f) r r.aF.length 0)):=by
 obtain⟨⟨q1,q2,q3⟩,q4⟩:=cQ hr;obtain⟨m1,m3⟩:=hr.many;obtain⟨c0,c1,c2,c3,c4,c5⟩:=hS.cells;obtain⟨pb,po,pc,rfl,hpc,hpc9,hpb,hpE⟩:=eZ hp (by omega);have F:=hid (fun(k:Nat) (hk:k < r.aF.length) (W:World) (h:Ext w W)=>Ad W B r _ fv f k r.aI (hS.ext h) (hp.mono h) (hf.mono h) hs hr hk ⟨by omega,by omega⟩);have G:=hid (show ∀ k,sN f r.aI r.aH (pL r k) (pN r k)=match cV (sp f) r r.aI.toNat k with | some t=>((t:Int),true) | none=>(0,false) from fun k=>by
  have:=sM (f:=f) (r:=r) (a:=r.aI.toNat) (k:=k);rwa [show ((r.aI.toNat:Nat):Int)=r.aI by omega] at this)
 have H0:=hid (show ∀ k,oW (sp f) r 0 k=[] from fun _=>rfl);have H1:=hid (show ∀ m k,oW (sp f) r (m+1) k=match cV (sp f) r r.aI.toNat k with | some t=>[⟨(k:Int),(t:Int)⟩] | none=>oW (sp f) r m (k+1) from fun _ _=>rfl);have PB:=hid (fun(k t:Nat) (h:cV (sp f) r r.aI.toNat k=aC t)=>Vm (by omega:r.aH.toNat<=48) h);clear hS hp hf hs hr hpE q4 c0 c2 c3;generalize r.aF.length=n at *;generalize oW (sp f) r=g at *;generalize cV (sp f) r r.aI.toNat=pt at *;obtain⟨R,hR⟩:∃ R,g n 0=R:=⟨_,rfl⟩;have HR:=hid hR;rw[hR];clear hR;go_enter func91,ntmps91
 go_wp2_with fail
 go_loopw [12] (fun c wr=>∃ k:Nat,c=aA aB k/\k<=n/\Hid (g (n - k) k=R)/\Ext w wr) (fun c _=>n - (intOf c).toNat)
 case atStart=>exact⟨0,rfl,by omega,HR,Ext.rf _⟩
 case round=>
  obtain⟨k,rfl,hk,Hg,hx⟩:=hrel;by_cases hlt:k < n
  ·have hlt':(k:Int) < (n:Int):=by omega
   have hg:=Hg.out;rw[show n - k=(n - (k+1))+1 by omega,H1.out] at hg;replace c1:=hx.ce' c1;have F1:=hid (F.out k hlt wr hx);rw[G.out k] at F1;cases hp:pt k with
   | some t=>
    rw[hp] at hg F1;have HG:=hid hg;have ht:=PB.out k t hp;clear hg hp Hg
    go_wp2_with fail
    refine F1.out.mono ?_;rintro e w2 ⟨rfl,hx2⟩
    go_wp2_with fail
    go_ret;refine⟨_,rfl,?_,⟨fun h=>?_,fun a n' c e=>by cases e;exact(hx.tr hx2).size⟩,(hx.tr hx2).al _⟩
    ·rw[<- HG.out];exact qG (α:=bO) [⟨(k:Int),(t:Int)⟩] rfl rfl rfl (by simp) (fun x hxx=>by simp at hxx;subst hxx;exact⟨I64.of (by show -9223372036854775808<=(k:Int);omega) (by show (k:Int)<=9223372036854775807;omega),I64.of (by show -9223372036854775808<=(t:Int);omega) (by show (t:Int)<=9223372036854775807;omega)⟩)
    ·rw[h] at HG;exact absurd HG.out (by simp)
   | none=>
    rw[hp] at hg F1;have HG:=hid hg;clear hg hp Hg
    go_wp2_with fail
    refine F1.out.mono ?_;rintro e w2 ⟨rfl,hx2⟩
    go_wp2_with fail
    go_roundw
    case rel=>exact⟨k+1,by go_num,by omega,HG,hx.tr hx2⟩
    case measure=>simp[intOf];omega
  ·obtain rfl:k=n:=by omega
   have hlt':¬ (k:Int) < (k:Int):=by omega
   have hg:=Hg.out;rw[aCp,H0.out] at hg;subst hg
   go_wp2_with fail
   go_ret;exact⟨_,rfl,SV.nil,⟨fun _=>rfl,lD _ _ _⟩,hx⟩
def iQ (w0:World) (B:Nat) (r:aS) (pv:Value) (k:Nat) (x:Nat->Int) (fv:Value) (W:World):Prop:=
 Ext w0 W/\∃ f,dZ W B r pv fv/\bC W fv f/\dI f/\(∀ t,t < 48->sp f t=x t)/\∀ y∈f,-1048576 - 50*(k:Int)<=y.N/\y.N<=1048576
theorem iQ.ext {w0:World} {B:Nat} {r:aS} {pv fv:Value} {k:Nat} {x:Nat->Int} {W W':World} (h:iQ w0 B r pv k x fv W) (hx:Ext W W'):iQ w0 B r pv k x fv W':=by
 obtain⟨h1,f,h2,h3,h4⟩:=h;exact⟨h1.tr hx,f,h2.ext hx,h3.mono hx,h4⟩
theorem iQ.next {w0:World} {B:Nat} {r:aS} {pv fv:Value} {k:Nat} {x:Nat->Int} {W:World} (h:iQ w0 B r pv k x fv W):iQ w0 B r pv (k+1) x fv W:=by
 obtain⟨h1,f,h2,h3,h4,h5,h6⟩:=h;exact⟨h1,f,h2,h3,h4,h5,fun y hy=>by have:=h6 y hy;omega⟩
def rY (v:Value) (row:Option Nat):Prop:=∀ a n c,v=aE (aC a) n c->aC a.block≠row
theorem lA {w w':World} {v:Value} {f:List Run} {row:Option Nat} (h:bC w v f) (hg:w.grownBy w' row) (ha:rY v row):bC w' v f:=by
 rcases h with h | ⟨b,off,cap,rfl,h1,h2,hl,h3,h4⟩
 ·exact .inl h
 ·refine .inr ⟨b,off,cap,rfl,h1,h2,hl,h3.same hg.size (hg.block b h3.1 (ha _ _ _ rfl)),fun k x hk=>?_⟩;have hc:∀ o,w'.cell? ⟨b,o,aD⟩=w.cell? ⟨b,o,aD⟩:=fun o=>aCk (a:=⟨b,o,aD⟩) (hg.block b h3.1 (ha _ _ _ rfl));obtain⟨e1,e2,e3⟩:=h4 k x hk;exact⟨by rw[hc];exact e1,by rw[hc];exact e2,e3⟩
theorem Nq {w:World} {v:Value} {f:List Run} (h:bC w v f) (hs:dI f):∃ b off cap,v=aE (aC ⟨b,off,aD⟩) f.length cap/\b < w.heap.size:=by
 obtain⟨b,off,cap,h1,_,_,_,h2,_⟩:=h.some hs;exact⟨b,off,cap,h1,h2⟩
theorem iQ.grown {w0:World} {B:Nat} {r:aS} {pv fv:Value} {k:Nat} {x:Nat->Int} {W W':World} {row:Option Nat} (h:iQ w0 B r pv k x fv W) (hg:W.grownBy W' row) (ha:rY fv row) (hB:aC B≠row) (hw:∀ k,row=aC k->w0.heap.size<=k):iQ w0 B r pv k x fv W':=by
 obtain⟨h1,f,h2,h3,h4⟩:=h;exact⟨Below.grown h1 hg h1.size hw,f,(hg.block B h2.lt hB).trans h2,lA h3 hg ha,h4⟩
theorem cD {w w':World} {base e sz n:Nat} {v:Value} {xs:List Value} {B:Nat} (h:w.ownsRow base e sz v n xs) (hg:w.grownBy w' (aC B)) (hB:B < base):w'.ownsRow base e sz v n xs:=by
 obtain⟨h1,h2⟩:=h;refine⟨h1,?_⟩;rcases h2 with h2 | ⟨g,cap,cur,hv,hb,hg',r⟩
 ·exact .inl h2
 ·exact .inr ⟨g,cap,cur,hv,hb,by rw[hg.block g (aBy.1 hg').1 (fun e=>by simp at e;omega)];exact hg',r⟩
theorem bI {w w':World} {B:Nat} (h:Ext w w'):w.grownBy w' (aC B):=⟨h.os,h.tape,h.output,h.size,fun k hk _=>h.block k hk⟩
theorem bG {a b c:World} {B:Option Nat} (h:a.grownBy b B) (k:b.grownBy c B):a.grownBy c B:=
 ⟨k.os.trans h.os,k.tape.trans h.tape,k.output.trans h.output,aC4 h.size k.size,fun j hj hne=>(k.block j (aBA hj h.size) hne).trans (h.block j hj hne)⟩
theorem Wm {w W W':World} {B:Nat} {row:Option Nat} (h:w.grownBy W (aC B)) (hg:W.grownBy W' row) (hr:∀ k,row=aC k->w.heap.size<=k):w.grownBy W' (aC B):=
 ⟨hg.os.trans h.os,hg.tape.trans h.tape,hg.output.trans h.output,aC4 h.size hg.size,fun j hj hne=>(hg.block j (aBA hj h.size) (fun e=>by have:=hr j e.symm;omega)).trans (h.block j hj hne)⟩
theorem Lp {x y:Nat->Int} {r:aS} {a k:Nat} (h48:r.aH.toNat<=48) (h:∀ t,t < 48->x t=y t):cV x r a k=cV y r a k:=by
 unfold cV;exact Mb (fun i hi=>h i (by omega))
theorem Ru {w0 W:World} {B:Nat} {r:aS} {pv fv:Value} {k j:Nat} {x:Nat->Int} (h:iQ w0 B r pv k x fv W) (hp:aU w0 pv r.aF) (hr:bX r) (hj:j < r.aF.length) {a:Nat} (ha:a<=48) :
  Calls prog 152 #[.pointer (aC ⟨B,0,aD⟩),aA aB j,aA aB a] W (Bv W (match cV x r a j with | some t=>((t:Int),true) | none=>(0,false))):=by
 obtain⟨h1,f,h2,h3,h4,h5,h6⟩:=h;obtain⟨⟨q1,q2,q3⟩,_⟩:=cQ hr;have:=Ad W B r pv fv f j (a:Int) h2 (hp.mono h1) h3 h4 hr hj ⟨by omega,by omega⟩;rw[sM,Lp (by omega) h5] at this;exact this
def qA (l:List bO):List Value:=cF bO.Piece bO.At l
theorem lF (l:List bO) (x:bO):qA (l++[x])=qA l++[aA aB x.Piece,aA aB x.At]:=nL _ _ _ _
theorem info42:(prog.info? 42).map (fun i=>(i.zero,i.size,i.bytes))=aC (aC (.agg #[aA aB 0,aA aB 0]),2,16):=by kernel_rfl
theorem Pc (w0 w:World) (B:Nat) (r:aS) (pv:Value) (x0:Nat->Int) (G:Nat) (lb:Array Value) (nx:(Nat->Int)->Nat->Nat->Nat->Int) (na:Nat->Nat->Nat)
  (fv0:Value) (h0:iQ w0 B r pv 0 x0 fv0 w) (hp:aU w0 pv r.aF) (hr:bX r) (hB:w0.heap.size<=B)
  (heg:∀ (args:Array Value) (w:World),(callFunc G args).run prog w=.ok (.enter G args) w)
  (hn:∀ k y x t fv W,r.aF[k]?=aC y->iQ w0 B r pv k x fv W->w.grownBy W (aC B)->t+(pL r k).toNat<=48->na k t<=48/\Calls prog G (#[.agg #[aA aB y.Len,aA aB y.N],aA aB t]++lb) W fun e w'=>e=.returned (aA aB (na k t))/\∃ fv',(fv'=fv\/jT W fv')/\iQ w0 B r pv (k+1) (nx x k t) fv' w'/\W.grownBy w' (aC B)) :
  Calls prog 148 #[.pointer (aC ⟨B,0,aD⟩),.func (.func G) #[] lb] w fun e w'=>∃ v,e=.returned v/\bJ w' v (eX r nx na r.aF.length 0 x0 r.aI.toNat [])/\((eX r nx na r.aF.length 0 x0 r.aI.toNat []=[]->v=aE aD 0 0)/\jT w0 v)/\Ext w0 w':=by
 obtain⟨⟨q1,q2,q3⟩,q4⟩:=cQ hr;obtain⟨m1,m3⟩:=hr.many;obtain⟨hx0,f0,hS0,hR0,hs0,_⟩:=id h0;obtain⟨c0,c1,c2,c3,c4,c5⟩:=hS0.cells;have F:=hid (fun(k j:Nat) (x:Nat->Int) (fv:Value) (W:World) (h:iQ w0 B r pv k x fv W) (hj:j < r.aF.length) (a:Nat) (ha:a<=48)=>Ru h hp hr hj ha);obtain⟨ir,ir1,ir2,ir3,ir4⟩:=info_parts info42;obtain⟨pb,po,pc,rfl,hpc,hpc9,hpb,hpE⟩:=eZ hp (by omega);have HE:=hid hpE;have HN:=hid hn;have H0:=hid (show ∀ k x a out,eX r nx na 0 k x a out=out from fun _ _ _ _=>rfl);have H1:=hid (show ∀ m k x a out,eX r nx na (m+1) k x a out=match cV x r a k with | none=>[] | some t=>eX r nx na m (k+1) (nx x k t) (na k t) (out++[⟨(k:Int),(t:Int)⟩]) from fun _ _ _ _ _=>rfl);have HP:=hid (fun(x:Nat->Int) (a k t:Nat) (h:cV x r a k=aC t)=>iJ h);have HL:=hid h0;have HBw:=hS0.lt;have HA0:=hid (show rY fv0 aD from fun a n c _=>by simp);have HFB:=hid hx0.size;obtain⟨R,hR⟩:∃ R,eX r nx na r.aF.length 0 x0 r.aI.toNat []=R:=⟨_,rfl⟩;have HR:=hid hR;rw[hR];have hfr:(r.aI.toNat:Int)=r.aI:=by omega
 have hU:r.aH.toNat<=48:=by omega
 have hF48:r.aI.toNat<=48:=by omega
 clear h0 hp hr hpE hn hS0 hR hR0 hs0 q4 c0 c2 c3 c5;generalize hnn:r.aF.length=n at *;have Hnn:=hid hnn;clear hnn;generalize eX r nx na=g at *;generalize cV=pt at *;go_enter func148,ntmps148
 go_wp2_with fail
 go_loopw [5,6,22] (fun v fa c wr=>∃ (k a:Nat) (x:Nat->Int) (fv ov:Value) (out:List bO),ov=v/\fa=aA aB (a:Int)/\c=aA aB k/\k<=n/\a<=48/\out.length=k/\Hid (g (n - k) k x a out=R)/\Hid (iQ w0 B r (aE (aC ⟨pb,po,aD⟩) n pc) k x fv wr)/\Hid (wr.ownsRow w.heap.size 42 2 ov k (qA out))/\Hid (rY fv ov.ownBlock)/\Hid (∀ y∈out,I64 y.Piece/\I64 y.At)/\Hid (w.grownBy wr (aC B))) (fun _ _ c _=>n - (intOf c).toNat)
 case atStart=>exact⟨0,r.aI.toNat,x0,fv0,_,[],rfl,by rw[hfr],rfl,by omega,hF48,rfl,HR,HL,aBV _ _ _ _,HA0,hid (fun y hy=>by cases hy),hid (bI (Ext.rf w))⟩
 case round=>
  obtain⟨k,a,x,fv,ov,out,rfl,rfl,rfl,hk,ha,hol,Hg,Hl,Hown,Hap,Hout,Hgw⟩:=hrel;have hsz:=Hgw.out.size;have hx:=Hl.out.1;by_cases hlt:k < n
  ·have hlt':(k:Int) < (n:Int):=by omega
   have hg:=Hg.out;rw[show n - k=(n - (k+1))+1 by omega,H1.out] at hg;obtain⟨y,hy⟩:=bT (f:=r.aF) (k:=k) (by rw[Hnn.out];exact hlt);obtain⟨d1,d2,_,_⟩:=E2.mono w0 wr pb _ y hx (HE.out k y hy);have F1:=hid (fun(W:World) (h:Ext wr W)=>F.out k k x fv W (Hl.out.ext h) hlt a ha);have HN1:=hid (fun(t:Nat) (fv:Value) (W:World)=>HN.out k y x t fv W hy);cases hp:pt x r a k with
   | none=>
    rw[hp] at hg F1;have HG:=hid hg;clear hg hp Hg hy
    go_wp2_with fail
    refine(F1.out _ ((Ext.rf _).al _)).mono ?_;rintro e w2 ⟨rfl,hx2⟩
    go_wp2_with fail
    go_ret;exact⟨_,rfl,by rw[<- HG.out];exact SV.nil,⟨fun _=>rfl,lD _ _ _⟩,hx.tr (((Ext.rf _).al _).tr hx2)⟩
   | some t=>
    rw[hp] at hg F1;have HG:=hid hg;obtain⟨p1,p2,p3⟩:=HP.out x a k t hp;have ht48:t+(pL r k).toNat<=48:=by have:=p3.1;omega
    clear hg hp Hg hy p3
    go_wp2_with fail
    refine(F1.out _ ((Ext.rf _).al _)).mono ?_;rintro e w2 ⟨rfl,hx2⟩;have hBX:wr.heap.size < w2.heap.size:=by have:=hx2.size;simp at this;omega
    have k0:w2.cell? ⟨wr.heap.size,0,aD⟩=aC (aA aB y.Len):=hx2.ce' (cell_of_row _ _ 0 _ _ _ (heap_alloc_new wr _));have k1:w2.cell? ⟨wr.heap.size,1,aD⟩=aC (aA aB y.N):=hx2.ce' (cell_of_row _ _ 1 _ _ _ (heap_alloc_new wr _));have hx02:=((Ext.rf wr).al (.cells #[aA aB y.Len,aA aB y.N] 44)).tr hx2;have hownW:=bE Hown.out hx02;have hlt3:∀ g,ov.ownBlock=aC g->w.heap.size<=g/\g < wr.heap.size:=fun g hg=>Hown.out.lt g hg;have n1:aC wr.heap.size≠ov.ownBlock:=fun e=>by have:=(hlt3 _ e.symm).2;omega
    have HX2:=hid hx02;have Hlt3:=hid hlt3;clear hx2 hx02 hlt3;generalize wr.heap.size=BX at *
    go_wp2_with (at_builtin;refine wpList_append_lies _ rfl _ _ 38 rfl w.heap.size 42 ir _ 2 16 underlying38 ir1 ir2 ir3 ir4 rfl (by decide) _ _ _ rfl (hownW.alloc _) ⟨w2.heap.size,0,aD⟩ 1 1 [aA aB k,aA aB t] rfl rfl (Ch _ (by simp) _ _ _) (Cf _ _ _ _) (by decide) (by unfold maxLen;omega) (by omega) (by simp;omega) (w2.heap.size+1) (by simp) ?_)
    intro gg cap W2 hown2 hgrow hat hlt4;have HBne:=hid (show aC B≠ov.ownBlock from fun e=>by have:=(Hlt3.out _ e.symm).1;omega);have hsz2:w.heap.size<=W2.heap.size:=by have:=hgrow.size;simp at this;omega
    replace k0:W2.cell? ⟨BX,0,aD⟩=aC (aA aB y.Len):=by rw[hgrow.cell_far ⟨BX,0,aD⟩ (by simp;omega) n1];exact((Ext.rf w2).al _).ce' k0
    replace k1:W2.cell? ⟨BX,1,aD⟩=aC (aA aB y.N):=by rw[hgrow.cell_far ⟨BX,1,aD⟩ (by simp;omega) n1];exact((Ext.rf w2).al _).ce' k1
    have HL2:=hid ((Hl.out.ext (HX2.out.tr ((Ext.rf w2).al _))).grown hgrow Hap.out HBne.out (fun j hj=>by have:=(Hlt3.out _ hj).1;have:=hx0.size;omega));have Hfv:=hid (show ∀ b n c,fv=aE (aC b) n c->b.block < w2.heap.size from fun b n c e=>by
     obtain⟨_,f,_,hf,hs,_⟩:=Hl.out.ext HX2.out;obtain⟨b',_,_,e',h'⟩:=Nq hf hs;rw[e] at e';simp at e';rw[e'.1];exact h')
    have Hown2:=hid hown2;have Hat:=hid hat;have HGW2:=hid (Wm (bG Hgw.out (bI (HX2.out.tr ((Ext.rf w2).al _)))) hgrow (fun j hj=>(Hlt3.out j hj).1));obtain⟨ha2,hC⟩:=HN1.out t fv W2 HL2.out HGW2.out ht48;have HC:=hid hC;clear hown2 hgrow hat hC n1 hownW
    go_wp2_with fail
    refine HC.out.mono ?_;rintro e w3 ⟨rfl,fv',hfv,hL3,hg3⟩;have HL3:=hid hL3;have HG3:=hid hg3;have Hap3:=hid (show rY fv' (aC gg) from fun b n c e h=>by
     simp at h;rcases hfv with hfv | hfv
     ·subst hfv;rcases Hat.out with h1 | h1
      ·exact Hap.out b n c e (by rw[h1,h])
      ·have:=Hfv.out b n c e;omega
     ·have:=hfv b n c e;omega)
    clear hL3 hg3 hfv
    go_wp2_with fail
    go_roundw
    case rel=>exact⟨k+1,na k t,nx x k t,fv',_,out++[⟨(k:Int),(t:Int)⟩],rfl,rfl,by go_num,by omega,ha2,by simp[hol],HG,HL3,hid (cD (by rw[lF];exact Hown2.out) HG3.out HBw),Hap3,hid (fun z hz=>by
     rcases aBm.1 hz with h | h
     ·exact Hout.out z h
     ·simp at h;subst h;exact⟨I64.of (by show -9223372036854775808<=(k:Int);omega) (by show (k:Int)<=9223372036854775807;omega),I64.of (by show -9223372036854775808<=(t:Int);omega) (by show (t:Int)<=9223372036854775807;omega)⟩),hid (bG HGW2.out HG3.out)⟩
    case measure=>simp[intOf];omega
  ·obtain rfl:k=n:=by omega
   have hlt':¬ (k:Int) < (k:Int):=by omega
   have hg:=Hg.out;rw[aCp,H0.out] at hg;subst hg
   go_wp2_with fail
   go_ret;have hov:=Hown.out;rw[<- hol] at hov;exact⟨_,rfl,cG hov Hout.out (by omega),⟨fun h=>(by rw[h] at hol;simp at hol;omega),qQ hov HFB.out⟩,hx⟩
theorem aAT (y:Piece) (t:Nat) (W:World) (h1:1<=y.Len) (h2:y.Len<=24) (h3:t<=48) :
  Calls prog 153 #[.agg #[aA aB y.Len,aA aB y.N],aA aB t] W fun e w'=>e=.returned (aA aB ((t:Int)+y.Len))/\Ext W w':=by
 go_enter func153,ntmps153
 go_wp2_with fail
 go_ret;exact⟨rfl,(Ext.rf W).al _⟩
theorem Ej {w0 w:World} {B:Nat} {r:aS} {pv fv:Value} {f:List Run} (hx:Ext w0 w) (hS:dZ w B r pv fv) (hf:bC w fv f) (hfine:gM f):iQ w0 B r pv 0 (sp f) fv w:=
 ⟨hx,f,hS,hf,hfine.1,fun _ _=>rfl,fun y hy=>by have:=hfine.2 y hy;exact⟨by have:=this.1;omega,this.2⟩⟩
theorem Vp (w0 w:World) (B:Nat) (r:aS) (pv fv:Value) (f:List Run) (hx:Ext w0 w) (hB:w0.heap.size<=B) (hS:dZ w B r pv fv) (hp:aU w0 pv r.aF) (hf:bC w fv f) (hfine:gM f) (hr:bX r) :
  Calls prog 92 #[.pointer (aC ⟨B,0,aD⟩)] w (oY w0 (eX r oP (fN r) r.aF.length 0 (sp f) r.aI.toNat [])):=by
 have E:=hid (Pc w0 w B r pv (sp f) 153 #[] oP (fN r) fv (Ej hx hS hf hfine) hp hr hB (enters_of func153 (by kernel_rfl) rfl)
  (fun k y x t fv W hy hL _ ht=>⟨ht,(aAT y t W (by
    have:=hr.range.2 y (aBJ hy);exact this.1.1) (by
    have:=hr.range.2 y (aBJ hy);exact this.1.2) (by omega)).mono fun e w' ⟨he,hx'⟩=>⟨by
     rw[he];unfold fN;rw[(dW hy).1];have:=(hr.range.2 y (aBJ hy)).1.1;rw[show ((t+y.Len.toNat:Nat):Int)=(t:Int)+y.Len by omega],fv,.inl rfl,(hL.ext hx').next,bI hx'⟩⟩))
 clear hS hp hf hfine hr;generalize eX r oP (fN r) r.aF.length 0 (sp f) r.aI.toNat []=R at *;go_enter func92,ntmps92
 go_wp2_with fail
 refine E.out.mono ?_;rintro e w2 ⟨v,rfl,h⟩;have H:=hid h;clear h
 go_wp2_with fail
 go_ret;exact⟨_,rfl,H.out⟩
theorem Uc {w w':World} (hx:Ext w w') {b o:Nat} {v:Value} (hc:w.cell? ⟨b,o,aD⟩=aC v) (h:w.frozen? ⟨b,o,aD⟩=false):w'.frozen? ⟨b,o,aD⟩=false:=by
 rw[World.frozen?_of_block (a:=⟨b,o,aD⟩) (hx.block b (aBx w ⟨b,o,aD⟩ hc))];exact h
theorem aY (w:World) (B o:Nat) (v:Value):w.grownBy (w.setCell ⟨B,o,aD⟩ v) (aC B):=
 ⟨rfl,rfl,rfl,by simp,fun k hk hne=>heap_setCell_other w ⟨B,o,aD⟩ k v (fun e=>hne (by rw[e]))⟩
theorem dZ.put {w:World} {B:Nat} {r:aS} {pv fv:Value} (h:dZ w B r pv fv) (v:Value):dZ (w.setCell ⟨B,5,aD⟩ v) B r pv v:=by
 unfold dZ;rw[heap_setCell_same w B 5 _ _ _ h];rfl
theorem all11 (a b:Int) (w:World) (ha:-1000000000<=a/\a<=1000000000) (hb:-1000000000<=b/\b<=1000000000):Calls prog 151 #[aA aB a,aA aB b] w fun e w'=>e=.returned (aA aB (a+b))/\w'=w:=by
 obtain⟨a1,a2⟩:=ha;obtain⟨b1,b2⟩:=hb;go_enter func151,ntmps151
 go_wp2
 go_ret;exact⟨rfl,rfl⟩
theorem Vz {w0 W V:World} {B:Nat} {r:aS} {pv fv vz:Value} {f:List Run} {k t:Nat} {x:Nat->Int} {L N:Int} (hL:iQ w0 B r pv k x fv W) (hB:w0.heap.size<=B) (hxV:Ext W V) (hfr:jT W vz)
  (hsx:∀ i,i < 48->sp f i=x i) (hfb:∀ y∈f,-1048576 - 50*(k:Int)<=y.N/\y.N<=1048576) (hs:dI f) (hk:k < r.aF.length) (hr:bX r) (ht:t+(pL r k).toNat<=48)
  (hv:bC V vz (bN fun i=>sp f i+sp (qP (t:Int) ((t:Int)+pL r k) (-(pN r k))) i)) :
  iQ w0 B r pv (k+1) (jK r x k t) vz (V.setCell ⟨B,5,aD⟩ vz):=by
 obtain⟨_,q4⟩:=cQ hr;obtain⟨⟨q5,q6⟩,q7,q8⟩:=q4 k hk;obtain⟨hx0,f',hS,_⟩:=hL;have hBW:=hS.lt;have hz:∀ i,i < 48->sp f i+sp (qP (t:Int) ((t:Int)+pL r k) (-(pN r k))) i=jK r x k t i:=fun i hi=>by
  unfold jK;rw[hsx i hi,show (t:Int)+pL r k=((t+(pL r k).toNat:Nat):Int) by omega,tL (by omega) (by omega),fL hi]
 refine⟨(hx0.tr hxV).se hB _,_,(hS.ext hxV).put _,lA hv (aY V B 5 vz) (fun a n c e h=>by simp at h;have:=hfr a n c e;omega),eE _,fun i hi=>by rw[fL hi];exact hz i hi,?_⟩;refine oT (p:=fun m=>-1048576 - 50*((k+1:Nat):Int)<=m/\m<=1048576) (fun i hi=>?_);rw[hz i hi];unfold jK;obtain⟨y,hy,e⟩:=Di f i (Dk hs);have h1:=hfb y hy;rw[<- hsx i hi,e];unfold cO;split <;> omega
def aB7 (w0:World) (B:Nat) (r:aS) (pv:Value) (k:Nat) (x:Nat->Int) (fv:Value) (W w':World):Prop:=∃ fv',(fv'=fv\/jT W fv')/\iQ w0 B r pv (k+1) x fv' w'/\W.grownBy w' (aC B)
theorem all1 (w0 W:World) (B BX:Nat) (r:aS) (pv fv:Value) (k t:Nat) (y:Piece) (x:Nat->Int) (hy:r.aF[k]?=aC y) (hL:iQ w0 B r pv k x fv W) (hB:w0.heap.size<=B) (hbox:W.cell? ⟨BX,0,aD⟩=aC (.pointer (aC ⟨B,0,aD⟩))) (hne:BX≠B) (hr:bX r) (ht:t+(pL r k).toNat<=48) :
  Calls prog 149 #[.agg #[aA aB y.Len,aA aB y.N],aA aB t,.pointer (aC ⟨BX,0,aD⟩)] W fun e w'=>e=.returned (aA aB r.aI)/\aB7 w0 B r pv k (jK r x k t) fv W w':=by
 have hk:k < r.aF.length:=(aBD.1 hy).1;obtain⟨⟨q1,q2,q3⟩,q4⟩:=cQ hr;obtain⟨⟨q5,q6⟩,q7,q8⟩:=q4 k hk;obtain⟨_,f,hS,hf,hs,hsx,hfb⟩:=id hL;obtain⟨c0,c1,c2,c3,c4,c5⟩:=hS.cells;have fz:W.frozen? ⟨B,5,aD⟩=false:=frozen_of_row _ _ 5 _ _ hS;have hBW:=hS.lt;have LT:=hid (fun(V:World) (vz:Value) (hxV:Ext W V) (hfr:jT W vz) hv=>Vz (vz:=vz) (L:=0) (N:=0) hL hB hxV hfr hsx hfb hs hk hr ht hv);have HS:=hid hS;obtain⟨eL,eN⟩:=dW hy;rw[eL,eN] at LT;rw[eL] at ht q5 q6;rw[eN] at q7 q8;have HH:=hid (fun(V:World)=>Pv V (t:Int) ((t:Int)+y.Len) (-y.N) (by omega) (by omega) (by omega) (I64.of (by omega) (by omega)));have hhs:dI (qP (t:Int) ((t:Int)+y.Len) (-y.N)):=by
  rw[show (t:Int)+y.Len=((t+y.Len.toNat:Nat):Int) by omega,tL (by omega) (by omega)];exact eE _
 have hhn:∀ z∈qP (t:Int) ((t:Int)+y.Len) (-y.N),-50<=z.N/\z.N<=50:=by
  rw[show (t:Int)+y.Len=((t+y.Len.toNat:Nat):Int) by omega,tL (by omega) (by omega)];exact oT (p:=fun m=>-50<=m/\m<=50) (fun i _=>by unfold cO;split <;> omega)
 have hk3:k < 3:=by have:=hr.many.2;omega
 have HZ:=hid (fun(V:World) (vh:Value) (hxV:Ext W V) (hvh:bC V vh (qP (t:Int) ((t:Int)+y.Len) (-y.N)))=>yM V fv vh f _ (hf.mono hxV) hvh hs hhs 151 (fun a b=>a+b) (enters_of func151 (by kernel_rfl) rfl) (fun a ha b hb=>by
  have h1:=hfb a ha;have h2:=hhn b hb;exact⟨I64.of (by omega) (by omega),fun V'=>all11 _ _ V' ⟨by omega,by omega⟩ ⟨by omega,by omega⟩⟩))
 obtain⟨fa,fc,rfl,_,_,_⟩:=hf.form;have hw1:IntKind.i64.wrap ((t:Int)+y.Len)=(t:Int)+y.Len:=by rw[IntKind.wrap_i64];omega
 have hw2:IntKind.i64.wrap (-y.N)=-y.N:=by rw[IntKind.wrap_i64];omega
 clear hS hf hs hsx hfb hhs hhn hL hr hy hk q4 eL eN c0 c2 c3 c4;generalize qP (t:Int) ((t:Int)+y.Len) (-y.N)=hl at *;generalize f.length=fn at *;go_enter func149,ntmps149
 go_wp2_with fail
 have HX1:=hid ((Ext.rf W).al (.cells #[aA aB y.Len,aA aB y.N] 44));have g0:(W.alloc (.cells #[aA aB y.Len,aA aB y.N] 44)).cell? ⟨W.heap.size,0,aD⟩=aC (aA aB y.Len):=cell_of_row _ _ 0 _ _ _ (heap_alloc_new W _);have g1:(W.alloc (.cells #[aA aB y.Len,aA aB y.N] 44)).cell? ⟨W.heap.size,1,aD⟩=aC (aA aB y.N):=cell_of_row _ _ 1 _ _ _ (heap_alloc_new W _);have fz1:=Uc HX1.out c5 fz;replace c1:=HX1.out.ce' c1;replace c5:=HX1.out.ce' c5;replace hbox:=HX1.out.ce' hbox;have hWB:W.heap.size≠B:=by omega
 clear fz;generalize W.alloc (.cells #[aA aB y.Len,aA aB y.N] 44)=W1 at *;generalize hBY:W.heap.size=BY at *;have HBY:=hid hBY;clear hBY;have hne':B≠BX:=fun e=>hne e.symm;have hWB':B≠BY:=fun e=>hWB e.symm;refine wp_region_noPanic ?_;refine wp_region_held (S:=fun w':World=>w'.cell? ⟨BX,0,aD⟩=aC (.pointer (aC ⟨B,0,aD⟩))/\w'.cell? ⟨BY,0,aD⟩=aC (aA aB y.Len)/\w'.cell? ⟨BY,1,aD⟩=aC (aA aB y.N)) (by kernel_rfl) ?_;have HS0:=hid (show (fun w':World=>w'.cell? ⟨BX,0,aD⟩=aC (.pointer (aC ⟨B,0,aD⟩))/\w'.cell? ⟨BY,0,aD⟩=aC (aA aB y.Len)/\w'.cell? ⟨BY,1,aD⟩=aC (aA aB y.N)) W1.drew from ⟨hbox,g0,g1⟩);refine tkU 0 (v:=?_) HS0.out ?_ ?_;rotate_left
 ·intro w hSw;obtain⟨s1,s2,s3⟩:=hSw;go_simp;with_reducible rfl
 try simp only[Act.put,zD,zE,zF,zA,zB]
 refine tkU 1 (v:=?_) HS0.out ?_ ?_;rotate_left
 ·intro w hSw;obtain⟨s1,s2,s3⟩:=hSw;go_simp;with_reducible rfl
 try simp only[Act.put,zD,zE,zF,zA,zC,zB]
 refine tkU 2 (v:=?_) HS0.out ?_ ?_;rotate_left
 ·intro w hSw;obtain⟨s1,s2,s3⟩:=hSw;go_simp;with_reducible rfl
 try simp only[Act.put,zD,zE,zF,zA,zC,zB]
 refine tkU 3 (v:=?_) HS0.out ?_ ?_;rotate_left
 ·intro w hSw;obtain⟨s1,s2,s3⟩:=hSw;go_simp;with_reducible rfl
 try simp only[Act.put,zD,zE,zF,zA,zC,zB]
 refine tkU 5 (v:=?_) HS0.out ?_ ?_;rotate_left
 ·intro w hSw;obtain⟨s1,s2,s3⟩:=hSw;go_simp;with_reducible rfl
 try simp only[Act.put,zD,zE,zF,zA,zC,zB]
 refine tkU 6 (v:=?_) HS0.out ?_ ?_;rotate_left
 ·intro w hSw;obtain⟨s1,s2,s3⟩:=hSw;go_simp;with_reducible rfl
 try simp only[Act.put,zD,zE,zF,zA,zC,zB]
 refine tkU 7 (v:=?_) HS0.out ?_ ?_;rotate_left
 ·intro w hSw;obtain⟨s1,s2,s3⟩:=hSw;go_simp;with_reducible rfl
 try simp only[Act.put,zD,zE,zF,zA,zC,zB]
 refine tkU 8 (v:=?_) HS0.out ?_ ?_;rotate_left
 ·intro w hSw;obtain⟨s1,s2,s3⟩:=hSw;go_simp;with_reducible rfl
 try simp only[Act.put,zD,zE,zF,zA,zC,zB]
 refine tkU 9 (v:=?_) HS0.out ?_ ?_;rotate_left
 ·intro w hSw;obtain⟨s1,s2,s3⟩:=hSw;go_simp;with_reducible rfl
 try simp only[Act.put,zD,zE,zF,zA,zC,zB]
 refine tkU 10 (v:=?_) HS0.out ?_ ?_;rotate_left
 ·intro w hSw;obtain⟨s1,s2,s3⟩:=hSw;go_simp;with_reducible rfl
 try simp only[Act.put,zD,zE,zF,zA,zC,zB]
 refine tkU 11 (v:=?_) HS0.out ?_ ?_;rotate_left
 ·intro w hSw;obtain⟨s1,s2,s3⟩:=hSw;go_simp;with_reducible rfl
 try simp only[Act.put,zD,zE,zF,zA,zC,zB]
 refine tkU 12 (v:=?_) HS0.out ?_ ?_;rotate_left
 ·intro w hSw;obtain⟨s1,s2,s3⟩:=hSw;go_simp;with_reducible rfl
 try simp only[Act.put,zD,zE,zF,zA,zC,zB]
 refine Nb (i:=4) (j:=13) (fun v V=>v=aE fa fn fc/\Ext W1 V) (fun v V=>bC V v hl/\Ext W1 V) rfl rfl (by kernel_rfl) (by kernel_rfl) (by kernel_rfl) (by rfl) (fun _ _=>by kernel_rfl) (by kernel_rfl) (by kernel_rfl) (fun _=>by kernel_rfl) (fun _=>by kernel_rfl) ?_ ?_ ?_ ?_ ?_
 ·intro K hK;simp only[Act.put,zD,zE,zF,zA,zC,zB] at hK ⊢;go_simp;exact hK.out _ _ (by first | exact⟨rfl,Ext.dr (Ext.rf W1)⟩ | exact Ext.dr (Ext.rf W1) | exact⟨trivial,Ext.dr (Ext.rf W1)⟩) HS0.out
 ·intro K hK;simp only[Act.put,zD,zE,zF,zA,zC,zB] at hK ⊢;go_simp;refine(HH.out _).mono ?_;rintro e W2 ⟨vh,rfl,hvh,hxk⟩;have hxk1:Ext W1 W2:=Ext.tr (Ext.dr (Ext.rf W1)) hxk;exact hK.out _ _ ⟨hvh,hxk1⟩ ⟨hxk1.ce' hbox,hxk1.ce' g0,hxk1.ce' g1⟩
 ·rintro v V ⟨rfl,hxV⟩ hS K hK;simp only[Act.put,zD,zE,zF,zA,zC,zB] at hK ⊢;go_simp;refine(HH.out _).mono ?_;rintro e W2 ⟨vh,rfl,hvh,hxk⟩;have hxk1:Ext W1 W2:=hxV.tr hxk;exact hK.out _ _ ⟨hvh,hxk1⟩ (by first | exact⟨rfl,hxk1⟩ | exact hxk1 | exact⟨trivial,hxk1⟩) ⟨hxk1.ce' hbox,hxk1.ce' g0,hxk1.ce' g1⟩
 ·rintro v V ⟨hvh,hxV⟩ hS K hK;have c5b:=hxV.ce' c5;simp only[Act.put,zD,zE,zF,zA,zC,zB] at hK ⊢;go_simp;exact hK.out _ _ (by first | exact⟨rfl,hxV⟩ | exact hxV | exact⟨trivial,hxV⟩) ⟨hvh,hxV⟩ hS
 rintro v vh W2 ⟨rfl,_⟩ ⟨hvh,hx12⟩ hS;have HX12:=hid hx12;have HVH:=hid hvh;have HS1:=hid hS;clear hx12 hvh hS HS0
 try simp only[Act.put,zD,zE,zF,zA,zC,zB]
 refine wpAnyH_ready (rs:=[14]) (by kernel_rfl) (by simp) ?_;refine AllReadyH.cons rfl (fun K hK=>?_) AllReadyH.nil;go_simp;refine(HZ.out _ _ (HX1.out.tr HX12.out) HVH.out).mono ?_;rintro e W3 ⟨vz,rfl,hvz,hfr,hxk⟩;obtain⟨za,zc,rfl,_,_,_⟩:=hvz.form;generalize (bN fun t=>sp f t+sp hl t).length=zn at *;have HX13:=hid (HX12.out.tr hxk);have HVZ:=hid hvz;have HFR:=hid (show jT W (aE za zn zc) from fun a n c e=>aC4 (HX1.out.tr HX12.out).size (hfr a n c e));have HS3:=hid (show (fun w':World=>w'.cell? ⟨BX,0,aD⟩=aC (.pointer (aC ⟨B,0,aD⟩))/\w'.cell? ⟨BY,0,aD⟩=aC (aA aB y.Len)/\w'.cell? ⟨BY,1,aD⟩=aC (aA aB y.N)) W3 from ⟨HX13.out.ce' hbox,HX13.out.ce' g0,HX13.out.ce' g1⟩);refine hK.out _ _ HS3.out (fun _=>?_);clear hK K hvz hfr hxk
 try simp only[Act.put,zD,zE,zF,zA,zC,zB]
 refine tkU 15 (v:=?_) HS3.out ?_ ?_;rotate_left
 ·intro w hSw;obtain⟨s1,s2,s3⟩:=hSw;go_simp;with_reducible rfl
 try simp only[Act.put,zD,zE,zF,zA,zC,zB]
 refine tkU 16 (v:=?_) HS3.out ?_ ?_;rotate_left
 ·intro w hSw;obtain⟨s1,s2,s3⟩:=hSw;go_simp;with_reducible rfl
 try simp only[Act.put,zD,zE,zF,zA,zC,zB]
 have c5c:=HX13.out.ce' c5;have fzc:=Uc HX13.out c5 fz1;have c1c:=HX13.out.ce' c1;have b1:(W3.setCell ⟨B,5,aD⟩ (aE za zn zc)).cell? ⟨BX,0,aD⟩=aC (.pointer (aC ⟨B,0,aD⟩)):=by rw[aCq _ _ _ _ hne'];exact HS3.out.1
 have b2:(W3.setCell ⟨B,5,aD⟩ (aE za zn zc)).cell? ⟨BY,0,aD⟩=aC (aA aB y.Len):=by rw[aCq _ _ _ _ hWB'];exact HS3.out.2.1
 have b3:(W3.setCell ⟨B,5,aD⟩ (aE za zn zc)).cell? ⟨BY,1,aD⟩=aC (aA aB y.N):=by rw[aCq _ _ _ _ hWB'];exact HS3.out.2.2
 have b4:(W3.setCell ⟨B,5,aD⟩ (aE za zn zc)).cell? ⟨B,1,aD⟩=aC (aA aB r.aI):=by rw[World.cell?_setCell_other _ _ _ _ (by simp)];exact c1c
 have HL4:=hid (LT.out W3 (aE za zn zc) (HX1.out.tr HX13.out) HFR.out HVZ.out);have HG4:=hid (bG (bI (B:=B) (HX1.out.tr HX13.out)) (aY W3 B 5 (aE za zn zc)));clear c1c;refine wpAnyH_ready (rs:=[17]) (by kernel_rfl) (by simp) ?_;refine AllReadyH.cons rfl (fun K hK=>?_) AllReadyH.nil;go_simp;refine hK.out _ _ ⟨b1,b2,b3⟩ (fun _=>?_);clear hK K c5c fzc
 try simp only[Act.put,zD,zE,zF,zA,zC,zB]
 refine wpAnyH_done (by kernel_rfl) ?_ _;refine NoPanic.normal ?_;clear c1 c5 hbox g0 g1 fz1;generalize W3.setCell ⟨B,5,aD⟩ (aE za zn zc)=W4 at *
 go_wp2_with fail
 go_ret;exact⟨rfl,_,.inr HFR.out,HL4.out,HG4.out⟩
theorem aAt (w0 w:World) (B:Nat) (r:aS) (pv fv:Value) (f:List Run) (hx:Ext w0 w) (hB:w0.heap.size<=B) (hS:dZ w B r pv fv) (hp:aU w0 pv r.aF) (hf:bC w fv f) (hfine:gM f) (hr:bX r) :
  Calls prog 90 #[.pointer (aC ⟨B,0,aD⟩)] w (oY w0 (eX r (jK r) (nH r) r.aF.length 0 (sp f) r.aI.toNat [])):=by
 have hBw:=hS.lt;have hx1:=(Ext.rf w).al (.cells #[.pointer (aC ⟨B,0,aD⟩)] 133);have hbox:(w.alloc (.cells #[.pointer (aC ⟨B,0,aD⟩)] 133)).cell? ⟨w.heap.size,0,aD⟩=aC (.pointer (aC ⟨B,0,aD⟩)):=cell_of_row _ _ 0 _ _ _ (heap_alloc_new w _);obtain⟨⟨q1,q2,q3⟩,_⟩:=cQ hr;have E:=hid (Pc w0 (w.alloc (.cells #[.pointer (aC ⟨B,0,aD⟩)] 133)) B r pv (sp f) 149 #[.pointer (aC ⟨w.heap.size,0,aD⟩)] (jK r) (nH r) fv (Ej (hx.tr hx1) (hS.ext hx1) (hf.mono hx1) hfine) hp hr hB (enters_of func149 (by kernel_rfl) rfl)
  (fun k y x t fv W hy hL hgw ht=>⟨by unfold nH;omega,(all1 w0 W B w.heap.size r pv fv k t y x hy hL hB (by
    rw[aCk (a:=⟨w.heap.size,0,aD⟩) (hgw.block w.heap.size (by simp) (fun e=>by simp at e;omega))];exact hbox) (by omega) hr ht).mono fun e w' ⟨he,hT⟩=>⟨by
     rw[he];unfold nH;rw[Int.toNat_of_nonneg q1],hT⟩⟩))
 clear hS hp hf hfine hr hbox hx1;generalize eX r (jK r) (nH r) r.aF.length 0 (sp f) r.aI.toNat []=R at *;go_enter func90,ntmps90
 go_wp2_with fail
 refine E.out.mono ?_;rintro e w2 ⟨v,rfl,h⟩;have H:=hid h;clear h
 go_wp2_with fail
 go_ret;exact⟨_,rfl,H.out⟩
theorem kP {n:Nat} (h:n<=1000):I64 (n:Int):=I64.of (by omega) (by omega)
theorem uK {w:World} {base e sz n:Nat} {v:Value} {xs:List Value} (h:w.ownsRow base e sz v n xs):∃ a cap,v=aE a n cap:=by
 rcases h.2 with ⟨h1,h2⟩ | ⟨g,cap,cur,hv,_⟩
 ·exact⟨aD,0,by rw[h1,h2]⟩
 ·exact⟨_,cap,hv⟩
theorem nA (r:aS) (t k:Nat):fO r t (k+1)=fO r t k+(pL r k).toNat:=rfl
theorem Uy (w:World) (B:Nat) (r:aS) (pv fv:Value) (f:List Run) (hS:dZ w B r pv fv) (hp:aU w pv r.aF) (hf:bC w fv f) (hs:dI f) (hr:bX r) :
  Calls prog 93 #[.pointer (aC ⟨B,0,aD⟩)] w (oY w (dQ (sp f) r (r.aH.toNat - r.aI.toNat) r.aI.toNat)):=by
 obtain⟨⟨q1,q2,q3⟩,q4⟩:=cQ hr;obtain⟨m1,m3⟩:=hr.many;obtain⟨ir,ir1,ir2,ir3,ir4⟩:=info_parts info42;obtain⟨c0,c1,c2,c3,c4,c5⟩:=hS.cells;obtain⟨pb,po,pc,rfl,hpc,hpc9,hpb,hpE⟩:=eZ hp (by omega);have HE:=hid hpE;obtain⟨U,hU⟩:=aBP (by omega:0<=r.aH);obtain⟨A0,hA0⟩:=aBP q1;have hU48:U<=48:=by omega
 have F:=hid (show ∀ a:Nat,a<=48->∀ W,Ext w W->Calls prog 152 #[.pointer (aC ⟨B,0,aD⟩),aA aB 0,aA aB (a:Int)] W (Bv W (match cV (sp f) r a 0 with | some t=>((t:Int),true) | none=>(0,false))) from fun a ha W h=>by
  have:=Ad W B r _ fv f 0 (a:Int) (hS.ext h) (hp.mono h) (hf.mono h) hs hr (by omega) ⟨by omega,by omega⟩;rw[sM] at this;exact this)
 have PN:=hid (show ∀ a,cV (sp f) r a 0=aD->∀ s,a<=s->s < U->¬ fW (sp f) r s from fun a h s h1 h2 ht=>by
  have:=oG (sp f) a r.aH.toNat (pL r 0).toNat (pN r 0);unfold cV at h;rw[h] at this;exact this s h1 (by omega) (ht 0 (by omega)))
 have PS:=hid (show ∀ a t,cV (sp f) r a 0=aC t->a<=t/\t < U/\∀ s,a<=s->s < t->¬ fW (sp f) r s from fun a t h=>by
  have:=oG (sp f) a r.aH.toNat (pL r 0).toNat (pN r 0);unfold cV at h;rw[h] at this;exact⟨this.1,by have:=this.2.1;omega,fun s h1 h2 ht=>this.2.2.2 s h1 h2 (ht 0 (by omega))⟩)
 have TK:=hid (show ∀ t k,k < r.aF.length->(lS (sp f) r t k↔fO r t k+(pL r k).toNat<=U/\pN r k<=xS (sp f) (fO r t k) (fO r t k+(pL r k).toNat)) from fun t k hk=>by
  have:=(q4 k hk).1.1;unfold lS kX;rw[Ct (by omega),show r.aH.toNat=U by omega])
 have L:=hid (fun(a z:Int) (h1:0<=a) (h2:a < z) (h3:z<=48) (W:World) (h:Ext w W)=>aAB W fv f (hf.mono h) hs a z h1 h2 h3);have HA:=hid (show ∀ a t,a<=t->t < U->(∀ s,a<=s->s < t->¬ fW (sp f) r s)->dQ (sp f) r (U - a) a=dQ (sp f) r (U - t) t from fun a t h1 h2 h=>by
  rw[rA (d:=t - a) (by omega) (fun s k1 k2=>h s k1 (by omega)),show U - a - (t - a)=U - t by omega,show a+(t - a)=t by omega])
 have HZ:=hid (show ∀ a,(∀ s,a<=s->s < U->¬ fW (sp f) r s)->a<=U->dQ (sp f) r (U - a) a=[] from fun a h h1=>Ku (fun s k1 k2=>h s k1 (by omega)));have HY:=hid (show ∀ t,t < U->(∀ k,k < r.aF.length->lS (sp f) r t k)->dQ (sp f) r (U - t) t=nX r t r.aF.length from fun t h1 h=>by
  rw[show U - t=(U - t - 1)+1 by omega,dQ,if_pos (show fW (sp f) r t from h)])
 have HX:=hid (show ∀ t k,t < U->k < r.aF.length->¬ lS (sp f) r t k->dQ (sp f) r (U - t) t=dQ (sp f) r (U - (t+1)) (t+1) from fun t k h1 hk h=>by
  rw[show U - t=(U - (t+1))+1 by omega,dQ,if_neg (fun h'=>h (h' k hk))])
 have HI:=hid (show ∀ t k x,t<=48->(∀ j,j < k->lS (sp f) r t j)->x∈nX r t k->k<=r.aF.length->I64 x.Piece/\I64 x.At from fun t k x h0 h hx hk=>by
  obtain⟨j,hj,rfl⟩:=aCn.1 hx;have hj':=aC3.1 hj;have:=(h j hj').1;exact⟨kP (by omega),kP (by omega)⟩)
 have HQ:=hid q4;obtain⟨fa,fc,rfl,_,_,_⟩:=hf.form;obtain⟨R,hR⟩:∃ R,dQ (sp f) r (r.aH.toNat - r.aI.toNat) r.aI.toNat=R:=⟨_,rfl⟩;have HR:=hid hR;rw[hR];clear hS hp hf hs hr hpE q4 hR;generalize hnn:r.aF.length=n at *;have Hnn:=hid hnn;clear hnn;generalize f.length=fn at *;generalize dQ (sp f) r=tg at *;go_enter func93,ntmps93
 go_wp2_with fail
 go_loopw [3] (fun c wr=>∃ a:Nat,c=aA aB (a:Int)/\A0<=a/\a<=U/\Hid (tg (U - a) a=R)/\Ext w wr) (fun c _=>U - (intOf c).toNat)
 case atStart=>exact⟨A0,rfl,aBq _,by omega,hid (by have:=HR.out;rw[hA0,hU] at this;simpa using this),Ext.rf _⟩
 case round=>
  obtain⟨a,rfl,ha1,ha,Hg,hx⟩:=hrel;have hal:=HA.out a;have c1':=hx.ce' c1;cases hp:cV (sp f) r a 0 with
  | none=>
   have F1:=hid (F.out a (by omega) wr hx);rw[hp] at F1;have Hr:=hid (show R=[] from by rw[<- Hg.out];exact HZ.out a (PN.out a hp) ha);clear hp hal
   go_wp2_with fail
   refine F1.out.mono ?_;rintro e w2 ⟨rfl,hx2⟩
   go_wp2_with fail
   go_ret;exact⟨_,rfl,by rw[Hr.out];exact SV.nil,⟨fun _=>rfl,lD _ _ _⟩,hx.tr hx2⟩
  | some t=>
   have F1:=hid (F.out a (by omega) wr hx);rw[hp] at F1;obtain⟨t1,t2,t3⟩:=PS.out a t hp;have Hg2:=hid (show tg (U - t) t=R from by rw[<- hal t t1 t2 t3];exact Hg.out);clear hp hal t3 Hg
   go_wp2_with fail
   refine F1.out.mono ?_;rintro e w2 ⟨rfl,hx2⟩;have hx02:=hx.tr hx2;have c4':=hx02.ce' c4
   go_wp2_with fail
   go_loopw [6,7,30] (fun v at_ c wi=>∃ (k:Nat) (ov:Value),ov=v/\at_=aA aB (fO r t k:Int)/\c=aA aB k/\k<=n/\fO r t k<=48/\Hid (wi.ownsRow w.heap.size 42 2 ov k (qA (nX r t k)))/\Hid (∀ j,j < k->lS (sp f) r t j)/\Ext w wi) (fun _ _ c _=>n - (intOf c).toNat)
   case atStart=>exact⟨0,_,rfl,rfl,rfl,by omega,(by show t<=48;omega),aBV _ _ _ _,hid (fun j hj=>absurd hj (aBn _)),hx02⟩
   case round=>
    obtain⟨k,ov,rfl,rfl,rfl,hk,hst,Hown,Hall,hxi⟩:=hrel;by_cases hlt:k < n
    ·have hlt':(k:Int) < (n:Int):=by omega
     obtain⟨y,hy⟩:=bT (f:=r.aF) (k:=k) (by rw[Hnn.out];exact hlt);obtain⟨d1,d2,_,_⟩:=E2.mono w wr pb _ y hxi (HE.out k y hy);obtain⟨⟨p1,p2⟩,p3,p4⟩:=HQ.out k hlt;obtain⟨eL,eN⟩:=dW hy;have hTK:=TK.out t k hlt;have hHX:=HX.out t k t2 hlt;have hsn:=nA r t k;rw[eL] at p1 p2 hTK hsn;rw[eN] at p3 p4 hTK;have Hsn:=hid hsn;generalize hstk:fO r t k=st at *;have Hstk:=hid hstk;clear eL eN hy hstk hsn;have hwr:IntKind.i64.wrap ((st:Int)+y.Len)=(st:Int)+y.Len:=by rw[IntKind.wrap_i64];omega
     by_cases g1:(U:Int) < (st:Int)+y.Len
     ·have Hnx:=hid (hHX (fun h=>by have:=(hTK.1 h).1;omega));clear hTK hHX;obtain⟨oa,oc,rfl⟩:=uK Hown.out;have hkn:=eqF (a:=(k:Int)) (b:=(n:Int)) (by omega);have c4'':=hxi.ce' c4;have HBX:=hid ((Ext.rf wr).al (.cells #[aA aB y.Len,aA aB y.N] 44));have k0:(wr.alloc (.cells #[aA aB y.Len,aA aB y.N] 44)).cell? ⟨wr.heap.size,0,aD⟩=aC (aA aB y.Len):=cell_of_row _ _ 0 _ _ _ (heap_alloc_new wr _);have k1:(wr.alloc (.cells #[aA aB y.Len,aA aB y.N] 44)).cell? ⟨wr.heap.size,1,aD⟩=aC (aA aB y.N):=cell_of_row _ _ 1 _ _ _ (heap_alloc_new wr _);have e2:=HBX.out.ce' (hxi.ce' c2)
      go_wp2_with fail
      generalize wr.alloc (.cells #[aA aB y.Len,aA aB y.N] 44)=W1 at *;replace k0:=fun p:bF W1=>p.cell k0;replace e2:=fun p:bF W1=>p.cell e2;refine cJ (by kernel_rfl) (by kernel_rfl) ?_
      repeat (go_big_quiet_step (fail))
      refine wpQuiet_nil ?_;rintro w' ⟨p,rfl⟩;have e4:=(HBX.out.tr p.h).ce' c4''
      go_wp2_with fail
      go_roundw
      case rel=>exact⟨t+1,by go_num,by omega,by omega,hid (by rw[<- Hnx.out];exact Hg2.out),hxi.tr (HBX.out.tr p.h)⟩
      case measure=>simp[intOf];omega
     ·have g1':¬ r.aH < (st:Int)+y.Len:=by omega
      have g1d:=deF g1';have g1e:=deF g1;by_cases g2:xS (sp f) st (st+y.Len.toNat) < y.N
      ·have Hnx:=hid (hHX (fun h=>by have:=(hTK.1 h).2;omega));clear hTK hHX;obtain⟨oa,oc,rfl⟩:=uK Hown.out;have hkn:=eqF (a:=(k:Int)) (b:=(n:Int)) (by omega);have c4'':=hxi.ce' c4;have HBX:=hid ((Ext.rf wr).al (.cells #[aA aB y.Len,aA aB y.N] 44));have k0:(wr.alloc (.cells #[aA aB y.Len,aA aB y.N] 44)).cell? ⟨wr.heap.size,0,aD⟩=aC (aA aB y.Len):=cell_of_row _ _ 0 _ _ _ (heap_alloc_new wr _);have k1:(wr.alloc (.cells #[aA aB y.Len,aA aB y.N] 44)).cell? ⟨wr.heap.size,1,aD⟩=aC (aA aB y.N):=cell_of_row _ _ 1 _ _ _ (heap_alloc_new wr _);have e2:=HBX.out.ce' (hxi.ce' c2);have e5:=HBX.out.ce' (hxi.ce' c5)
       go_wp2_with fail
       generalize wr.alloc (.cells #[aA aB y.Len,aA aB y.N] 44)=W1 at *;replace k0:=fun p:bF W1=>p.cell k0;replace e2:=fun p:bF W1=>p.cell e2;replace k1:=fun p:bF W1=>p.cell k1;replace e5:=fun p:bF W1=>p.cell e5;have QL:=hid (show ∀ p:bF W1,Calls prog 154 #[aE fa fn fc,aA aB (st:Int),aA aB ((st:Int)+y.Len)] p.v fun e w'=>e=.returned (aA aB (xS (sp f) st (st+y.Len.toNat)))/\∃ q:bF W1,w'=q.v from fun p=>by
        have:=L.out (st:Int) ((st:Int)+y.Len) (by omega) (by omega) (by omega) p.v (hxi.tr (HBX.out.tr p.h));rw[show ((st:Int)+y.Len).toNat=st+y.Len.toNat by omega,aBQ] at this;exact fH p this)
       refine cJ (by kernel_rfl) (by kernel_rfl) ?_
       repeat (go_big_quiet_step (with_reducible exact QL.out _))
       refine wpQuiet_nil ?_;rintro w' ⟨p,rfl⟩;have e4:=(HBX.out.tr p.h).ce' c4''
       go_wp2_with fail
       go_roundw
       case rel=>exact⟨t+1,by go_num,by omega,by omega,hid (by rw[<- Hnx.out];exact Hg2.out),hxi.tr (HBX.out.tr p.h)⟩
       case measure=>simp[intOf];omega
      ·have Hk:=hid (hTK.2 ⟨by omega,by omega⟩);clear hTK hHX;have c4'':=hxi.ce' c4;have HBX:=hid ((Ext.rf wr).al (.cells #[aA aB y.Len,aA aB y.N] 44));have k0:(wr.alloc (.cells #[aA aB y.Len,aA aB y.N] 44)).cell? ⟨wr.heap.size,0,aD⟩=aC (aA aB y.Len):=cell_of_row _ _ 0 _ _ _ (heap_alloc_new wr _);have k1:(wr.alloc (.cells #[aA aB y.Len,aA aB y.N] 44)).cell? ⟨wr.heap.size,1,aD⟩=aC (aA aB y.N):=cell_of_row _ _ 1 _ _ _ (heap_alloc_new wr _);have e2:=HBX.out.ce' (hxi.ce' c2);have e5:=HBX.out.ce' (hxi.ce' c5)
       go_wp2_with fail
       generalize wr.alloc (.cells #[aA aB y.Len,aA aB y.N] 44)=W1 at *;replace k0:=fun p:bF W1=>p.cell k0;replace e2:=fun p:bF W1=>p.cell e2;replace k1:=fun p:bF W1=>p.cell k1;replace e5:=fun p:bF W1=>p.cell e5;have QL:=hid (show ∀ p:bF W1,Calls prog 154 #[aE fa fn fc,aA aB (st:Int),aA aB ((st:Int)+y.Len)] p.v fun e w'=>e=.returned (aA aB (xS (sp f) st (st+y.Len.toNat)))/\∃ q:bF W1,w'=q.v from fun p=>by
        have:=L.out (st:Int) ((st:Int)+y.Len) (by omega) (by omega) (by omega) p.v (hxi.tr (HBX.out.tr p.h));rw[show ((st:Int)+y.Len).toNat=st+y.Len.toNat by omega,aBQ] at this;exact fH p this)
       refine cJ (by kernel_rfl) (by kernel_rfl) ?_
       repeat (go_big_quiet_step (with_reducible exact QL.out _))
       refine wpQuiet_nil ?_;rintro w' ⟨p,rfl⟩;have hxp:=HBX.out.tr p.h;have hownW:=bE Hown.out hxp;have k0p:=k0 p;have hgs:=p.h.size;have hwz:w.heap.size<=p.v.heap.size:=by have:=(hxi.tr hxp).size;exact this
       clear k0 k1 e2 e5 QL HBX c4'';generalize p.v=W2 at *;have hln3:∀ g,ov.ownBlock=aC g->w.heap.size<=g/\g < wr.heap.size:=fun g hg=>Hown.out.lt g hg;have n1:aC wr.heap.size≠ov.ownBlock:=fun e=>by have:=(hln3 _ e.symm).2;omega
       have HXP:=hid hxp;clear hxp;generalize wr.heap.size=BX at *
       go_wp2_with (at_builtin;refine wpList_append_lies _ rfl _ _ 38 rfl w.heap.size 42 ir _ 2 16 underlying38 ir1 ir2 ir3 ir4 rfl (by decide) _ _ _ rfl (hownW.alloc _) ⟨W2.heap.size,0,aD⟩ 1 1 [aA aB k,aA aB st] rfl rfl (Ch _ (by simp) _ _ _) (Cf _ _ _ _) (by decide) (by unfold maxLen;omega) (by omega) (by simp;omega) (W2.heap.size+1) (by simp) ?_)
       intro gg cap W3 hown2 hgrow hat hlt4;have k0q:W3.cell? ⟨BX,0,aD⟩=aC (aA aB y.Len):=by rw[hgrow.cell_far ⟨BX,0,aD⟩ (by have:=aBx W2 _ k0p;simp at this ⊢;omega) n1];exact((Ext.rf W2).al _).ce' k0p
       have Hown2:=hid (show W3.ownsRow w.heap.size 42 2 (aE (aC ⟨gg,0,aD⟩) (k+1) cap) (k+1) (qA (nX r t (k+1))) from by rw[Jc,lF,Hstk.out];exact hown2);have HX3:=hid (Ext.gr ((hxi.tr HXP.out).al _) hgrow (fun g hg=>(hln3 g hg).1));have Hs:=hid (show ∀ j,j < k+1->lS (sp f) r t j from fun j hj=>by
        by_cases e:j=k
        ·subst e;exact Hk.out
        ·exact Hall.out j (by omega))
       have hsle:st+y.Len.toNat<=48:=by omega
       clear hown2 hgrow hat hlt4 k0p hownW n1 hln3 Hall
       go_wp2_with fail
       go_roundw
       case rel=>exact⟨k+1,_,rfl,by rw[Hsn.out];congr 1;omega,by go_num,by omega,by rw[Hsn.out];omega,Hown2,Hs,HX3.out⟩
       case measure=>simp[intOf];omega
    ·obtain rfl:k=n:=by omega
     have hlt':¬ (k:Int) < (k:Int):=by omega
     obtain⟨oa,oc,rfl⟩:=uK Hown.out;have Hr:=hid (show R=nX r t k from by rw[<- Hg2.out];exact HY.out t t2 Hall.out);have c4'':=hxi.ce' c4
     go_wp2_with fail
     go_ret;exact⟨_,rfl,by rw[Hr.out];exact cG (by rw[nC];exact Hown.out) (fun x hx=>HI.out t k x (by omega) Hall.out hx (aBq _)) (by rw[nC];omega),⟨fun h=>(by rw[Hr.out] at h;have:=congrArg List.length h;rw[nC] at this;simp at this;omega),qQ Hown.out (aBq _)⟩,hxi⟩
section
variable {P:Program} {w:World} {mty kt et:TypeId} {r:Nat} {es:Array MapEntry} {clock:Nat} {k:Int}
theorem Cq (val:Value) (hm:P.underlying mty=aC (.map kt et)) (hk:P.underlying kt=aC (.int .i64)) (hb:w.heap[r]?=aC (.map es clock)) (hf:Instr.findNow (.int .i64) (aA aB k) es.toList 0=aC aD) :
  (Instr.mapUpdate mty (.map (aC r)) (aA aB k) val).run P w=.ok () { w with heap:=w.heap.setIfInBounds r (.map (es.push { key:=aA aB k,val:=val,born:=clock }) (clock+1))}:=by
 have hc:(Instr.checkKey false 10000 kt (aA aB k)).run P w=.ok () w:=MapKept.run_checkKey (k:=aA aB k) hk (by simp[MapKept.IsKey]) false 9999;simp[Instr.mapUpdate,run_underlying hm,MapKept.run_getObj_map hb,hc,MapKept.run_findKey hk hf,MapKept.run_setObj_map _ hb,Result.andThen]
theorem xG {i:Nat} {v:Value} (hm:P.underlying mty=aC (.map kt et)) (hk:P.underlying kt=aC (.int .i64)) (hb:w.heap[r]?=aC (.map es clock)) (hf:Instr.findNow (.int .i64) (aA aB k) es.toList 0=aC (aC (i,v))) :
  (Instr.lookup mty (.map (aC r)) (aA aB k) false).run P w=.ok v w:=by
 have hc:(Instr.checkKey (es.isEmpty) 10000 kt (aA aB k)).run P w=.ok () w:=MapKept.run_checkKey (k:=aA aB k) hk (by simp[MapKept.IsKey]) _ 9999;simp[Instr.lookup,run_underlying hm,MapKept.run_getObj_map hb,hc,MapKept.run_findKey hk hf,Result.andThen]
end
def Dl (w:World) (m:Nat) (o:Obj):World:={ w with heap:=w.heap.setIfInBounds m o }
theorem uI {w:World} {m:Nat} (o:Obj) (h:m < w.heap.size):(Dl w m o).heap[m]?=aC o:=by simp[Dl,h]
theorem iV {w:World} {m j:Nat} (o:Obj) (h:m≠j):(Dl w m o).heap[j]?=w.heap[j]?:=by simp[Dl,h]
theorem Vd (w:World) (m:Nat) (o:Obj):(Dl w m o).heap.size=w.heap.size:=by simp[Dl]
theorem Ext.sm {a w:World} (h:Ext a w) {m:Nat} (hm:a.heap.size<=m) (o:Obj):Ext a (Dl w m o):=
 h.trans ⟨rfl,rfl,rfl,by rw[Vd];exact aBq _,fun k hk=>iV o (by omega)⟩
theorem Tj (w:World) (v pv:Value) (f:List Run) (r:aS) (hv:bC w v f) (hp:aU w pv r.aF) (hfine:gM f) (hr:bX r) :
  Calls prog 44 #[v,.agg #[aA aB r.aG,aA aB r.aI,aA aB r.aH,aA aB r.aJ,pv]] w (oY w (cK (sp f) r)):=by
 have hmm:=@run_makeMap prog;obtain⟨fa,fc,rfl,_,_,_⟩:=hv.form;obtain⟨pa,pc,rfl,_,_,_⟩:=hp.form;have C1:=hid (fun(W:World) (B:Nat) (hx:Ext w W) (hB:w.heap.size<=B) (hS:dZ W B r (aE pa r.aF.length pc) (aE fa f.length fc))=>aAt w W B r _ _ f hx hB hS hp (hv.mono hx) hfine hr);have C3:=hid (fun(W:World) (B:Nat) (hx:Ext w W) (hB:w.heap.size<=B) (hS:dZ W B r (aE pa r.aF.length pc) (aE fa f.length fc))=>Vp w W B r _ _ f hx hB hS hp (hv.mono hx) hfine hr);have C2:=hid (fun(W:World) (B:Nat) (hx:Ext w W) (hS:dZ W B r (aE pa r.aF.length pc) (aE fa f.length fc))=>aAs W B r _ _ f hS (hp.mono hx) (hv.mono hx) hfine.1 hr);have C4:=hid (fun(W:World) (B:Nat) (hx:Ext w W) (hS:dZ W B r (aE pa r.aF.length pc) (aE fa f.length fc))=>Uy W B r _ _ f hS (hp.mono hx) (hv.mono hx) hfine.1 hr);have P1:=hid (fun h=>rJ (x:=sp f) (r:=r) h);have P2:=hid (fun h=>rI (x:=sp f) (r:=r) h);have P3:=hid (fun h=>nY (x:=sp f) (r:=r) h);have P4:=hid (fun h=>lN (x:=sp f) (r:=r) h);obtain⟨k1,k2⟩:=hr.kind;clear hv hp hfine hr;generalize cK (sp f) r=R at *;generalize r.aF.length=pn at *;generalize f.length=fn at *;go_enter func44,ntmps44
 go_wp2_with fail
 obtain⟨q0,q1,q2,hx0⟩:∃ _:(((w.alloc (.cells #[aA aB r.aG,aA aB r.aI,aA aB r.aH,aA aB r.aJ,aE pa pn pc] 28)).alloc (.cells #[aA aB r.aG,aA aB r.aI,aA aB r.aH,aA aB r.aJ,aE pa pn pc,aE fa fn fc] 135)).alloc (.map #[] 0)).heap[w.heap.size]?=aC (.cells #[aA aB r.aG,aA aB r.aI,aA aB r.aH,aA aB r.aJ,aE pa pn pc] 28),∃ _:(((w.alloc (.cells #[aA aB r.aG,aA aB r.aI,aA aB r.aH,aA aB r.aJ,aE pa pn pc] 28)).alloc (.cells #[aA aB r.aG,aA aB r.aI,aA aB r.aH,aA aB r.aJ,aE pa pn pc,aE fa fn fc] 135)).alloc (.map #[] 0)).heap[w.heap.size+1]?=aC (.cells #[aA aB r.aG,aA aB r.aI,aA aB r.aH,aA aB r.aJ,aE pa pn pc,aE fa fn fc] 135),∃ _:(((w.alloc (.cells #[aA aB r.aG,aA aB r.aI,aA aB r.aH,aA aB r.aJ,aE pa pn pc] 28)).alloc (.cells #[aA aB r.aG,aA aB r.aI,aA aB r.aH,aA aB r.aJ,aE pa pn pc,aE fa fn fc] 135)).alloc (.map #[] 0)).heap[w.heap.size+1+1]?=aC (.map #[] 0),Ext w (((w.alloc (.cells #[aA aB r.aG,aA aB r.aI,aA aB r.aH,aA aB r.aJ,aE pa pn pc] 28)).alloc (.cells #[aA aB r.aG,aA aB r.aI,aA aB r.aH,aA aB r.aJ,aE pa pn pc,aE fa fn fc] 135)).alloc (.map #[] 0)):=by
  have keep:∀ (W:World) (o b:Obj) (j:Nat),W.heap[j]?=aC b->(W.alloc o).heap[j]?=aC b:=fun W o b j h=>by
   rw[((Ext.rf W).al o).block j (aBy.1 h).1];exact h
  have h1:=heap_alloc_new w (.cells #[aA aB r.aG,aA aB r.aI,aA aB r.aH,aA aB r.aJ,aE pa pn pc] 28);have h2:=heap_alloc_new (w.alloc (.cells #[aA aB r.aG,aA aB r.aI,aA aB r.aH,aA aB r.aJ,aE pa pn pc] 28)) (.cells #[aA aB r.aG,aA aB r.aI,aA aB r.aH,aA aB r.aJ,aE pa pn pc,aE fa fn fc] 135);have h3:=heap_alloc_new ((w.alloc (.cells #[aA aB r.aG,aA aB r.aI,aA aB r.aH,aA aB r.aJ,aE pa pn pc] 28)).alloc (.cells #[aA aB r.aG,aA aB r.aI,aA aB r.aH,aA aB r.aJ,aE pa pn pc,aE fa fn fc] 135)) (.map #[] 0);simp only[aCl] at h2 h3;exact⟨keep _ _ _ _ (keep _ _ _ _ h1),keep _ _ _ _ h2,h3,((((Ext.rf w).al _).al _).al _)⟩
 generalize ((w.alloc (.cells #[aA aB r.aG,aA aB r.aI,aA aB r.aH,aA aB r.aJ,aE pa pn pc] 28)).alloc (.cells #[aA aB r.aG,aA aB r.aI,aA aB r.aH,aA aB r.aJ,aE pa pn pc,aE fa fn fc] 135)).alloc (.map #[] 0)=V0 at *;rw[Cq (es:=#[]) (clock:=0) (.func (.func 90) #[.pointer (aC ⟨w.heap.size+1,0,aD⟩)] #[]) underlying137 underlying3 q2 rfl];obtain⟨V1,hV⟩:∃ V,Dl V0 (w.heap.size+1+1) (.map #[⟨aA aB 1,(.func (.func 90) #[.pointer (aC ⟨w.heap.size+1,0,aD⟩)] #[]),0⟩] 1)=V:=⟨_,rfl⟩;have t2:V1.heap[w.heap.size+1+1]?=aC (.map #[⟨aA aB 1,(.func (.func 90) #[.pointer (aC ⟨w.heap.size+1,0,aD⟩)] #[]),0⟩] 1):=by rw[<- hV];exact uI _ (aBy.1 q2).1
 have t1:V1.heap[w.heap.size+1]?=aC (.cells #[aA aB r.aG,aA aB r.aI,aA aB r.aH,aA aB r.aJ,aE pa pn pc,aE fa fn fc] 135):=by rw[<- hV,iV _ (by omega)];exact q1
 have t0:V1.heap[w.heap.size]?=aC (.cells #[aA aB r.aG,aA aB r.aI,aA aB r.aH,aA aB r.aJ,aE pa pn pc] 28):=by rw[<- hV,iV _ (by omega)];exact q0
 have hx1:Ext w V1:=by rw[<- hV];exact hx0.sm (by omega) _
 have hV2:{ V0 with heap:=V0.heap.setIfInBounds (w.heap.size+1+1) (.map ((#[]:Array MapEntry).push { key:=aA aB 1,val:=(.func (.func 90) #[.pointer (aC ⟨w.heap.size+1,0,aD⟩)] #[]),born:=0 }) (0+1))}=V1:=hV;rw[hV2];clear hV hV2 q0 q1 q2 hx0;have q0:=t0;have q1:=t1;have q2:=t2;clear t0 t1 t2;have Q0:=hid q0;have Q1:=hid q1;have Q2:=hid q2;clear q0 q1 q2
 go_wp2_with fail
 have q0:=Q0.out;have q1:=Q1.out;have q2:=Q2.out;clear Q0 Q1 Q2;rw[Cq (es:=#[⟨aA aB 1,(.func (.func 90) #[.pointer (aC ⟨w.heap.size+1,0,aD⟩)] #[]),0⟩]) (clock:=1) (.func (.func 91) #[.pointer (aC ⟨w.heap.size+1,0,aD⟩)] #[]) underlying137 underlying3 q2 rfl];obtain⟨V2,hV⟩:∃ V,Dl V1 (w.heap.size+1+1) (.map #[⟨aA aB 1,(.func (.func 90) #[.pointer (aC ⟨w.heap.size+1,0,aD⟩)] #[]),0⟩,⟨aA aB 2,(.func (.func 91) #[.pointer (aC ⟨w.heap.size+1,0,aD⟩)] #[]),1⟩] 2)=V:=⟨_,rfl⟩;have t2:V2.heap[w.heap.size+1+1]?=aC (.map #[⟨aA aB 1,(.func (.func 90) #[.pointer (aC ⟨w.heap.size+1,0,aD⟩)] #[]),0⟩,⟨aA aB 2,(.func (.func 91) #[.pointer (aC ⟨w.heap.size+1,0,aD⟩)] #[]),1⟩] 2):=by rw[<- hV];exact uI _ (aBy.1 q2).1
 have t1:V2.heap[w.heap.size+1]?=aC (.cells #[aA aB r.aG,aA aB r.aI,aA aB r.aH,aA aB r.aJ,aE pa pn pc,aE fa fn fc] 135):=by rw[<- hV,iV _ (by omega)];exact q1
 have t0:V2.heap[w.heap.size]?=aC (.cells #[aA aB r.aG,aA aB r.aI,aA aB r.aH,aA aB r.aJ,aE pa pn pc] 28):=by rw[<- hV,iV _ (by omega)];exact q0
 have hx2:Ext w V2:=by rw[<- hV];exact hx1.sm (by omega) _
 have hV2:{ V1 with heap:=V1.heap.setIfInBounds (w.heap.size+1+1) (.map ((#[⟨aA aB 1,(.func (.func 90) #[.pointer (aC ⟨w.heap.size+1,0,aD⟩)] #[]),0⟩]:Array MapEntry).push { key:=aA aB 2,val:=(.func (.func 91) #[.pointer (aC ⟨w.heap.size+1,0,aD⟩)] #[]),born:=1 }) (1+1))}=V2:=hV;rw[hV2];clear hV hV2 q0 q1 q2 hx1;have q0:=t0;have q1:=t1;have q2:=t2;clear t0 t1 t2;have Q0:=hid q0;have Q1:=hid q1;have Q2:=hid q2;clear q0 q1 q2
 go_wp2_with fail
 have q0:=Q0.out;have q1:=Q1.out;have q2:=Q2.out;clear Q0 Q1 Q2;rw[Cq (es:=#[⟨aA aB 1,(.func (.func 90) #[.pointer (aC ⟨w.heap.size+1,0,aD⟩)] #[]),0⟩,⟨aA aB 2,(.func (.func 91) #[.pointer (aC ⟨w.heap.size+1,0,aD⟩)] #[]),1⟩]) (clock:=2) (.func (.func 92) #[.pointer (aC ⟨w.heap.size+1,0,aD⟩)] #[]) underlying137 underlying3 q2 rfl];obtain⟨V3,hV⟩:∃ V,Dl V2 (w.heap.size+1+1) (.map #[⟨aA aB 1,(.func (.func 90) #[.pointer (aC ⟨w.heap.size+1,0,aD⟩)] #[]),0⟩,⟨aA aB 2,(.func (.func 91) #[.pointer (aC ⟨w.heap.size+1,0,aD⟩)] #[]),1⟩,⟨aA aB 3,(.func (.func 92) #[.pointer (aC ⟨w.heap.size+1,0,aD⟩)] #[]),2⟩] 3)=V:=⟨_,rfl⟩;have t2:V3.heap[w.heap.size+1+1]?=aC (.map #[⟨aA aB 1,(.func (.func 90) #[.pointer (aC ⟨w.heap.size+1,0,aD⟩)] #[]),0⟩,⟨aA aB 2,(.func (.func 91) #[.pointer (aC ⟨w.heap.size+1,0,aD⟩)] #[]),1⟩,⟨aA aB 3,(.func (.func 92) #[.pointer (aC ⟨w.heap.size+1,0,aD⟩)] #[]),2⟩] 3):=by rw[<- hV];exact uI _ (aBy.1 q2).1
 have t1:V3.heap[w.heap.size+1]?=aC (.cells #[aA aB r.aG,aA aB r.aI,aA aB r.aH,aA aB r.aJ,aE pa pn pc,aE fa fn fc] 135):=by rw[<- hV,iV _ (by omega)];exact q1
 have t0:V3.heap[w.heap.size]?=aC (.cells #[aA aB r.aG,aA aB r.aI,aA aB r.aH,aA aB r.aJ,aE pa pn pc] 28):=by rw[<- hV,iV _ (by omega)];exact q0
 have hx3:Ext w V3:=by rw[<- hV];exact hx2.sm (by omega) _
 have hV2:{ V2 with heap:=V2.heap.setIfInBounds (w.heap.size+1+1) (.map ((#[⟨aA aB 1,(.func (.func 90) #[.pointer (aC ⟨w.heap.size+1,0,aD⟩)] #[]),0⟩,⟨aA aB 2,(.func (.func 91) #[.pointer (aC ⟨w.heap.size+1,0,aD⟩)] #[]),1⟩]:Array MapEntry).push { key:=aA aB 3,val:=(.func (.func 92) #[.pointer (aC ⟨w.heap.size+1,0,aD⟩)] #[]),born:=2 }) (2+1))}=V3:=hV;rw[hV2];clear hV hV2 q0 q1 q2 hx2;have q0:=t0;have q1:=t1;have q2:=t2;clear t0 t1 t2;have Q0:=hid q0;have Q1:=hid q1;have Q2:=hid q2;clear q0 q1 q2
 go_wp2_with fail
 have q0:=Q0.out;have q1:=Q1.out;have q2:=Q2.out;clear Q0 Q1 Q2;rw[Cq (es:=#[⟨aA aB 1,(.func (.func 90) #[.pointer (aC ⟨w.heap.size+1,0,aD⟩)] #[]),0⟩,⟨aA aB 2,(.func (.func 91) #[.pointer (aC ⟨w.heap.size+1,0,aD⟩)] #[]),1⟩,⟨aA aB 3,(.func (.func 92) #[.pointer (aC ⟨w.heap.size+1,0,aD⟩)] #[]),2⟩]) (clock:=3) (.func (.func 93) #[.pointer (aC ⟨w.heap.size+1,0,aD⟩)] #[]) underlying137 underlying3 q2 rfl];obtain⟨V4,hV⟩:∃ V,Dl V3 (w.heap.size+1+1) (.map #[⟨aA aB 1,(.func (.func 90) #[.pointer (aC ⟨w.heap.size+1,0,aD⟩)] #[]),0⟩,⟨aA aB 2,(.func (.func 91) #[.pointer (aC ⟨w.heap.size+1,0,aD⟩)] #[]),1⟩,⟨aA aB 3,(.func (.func 92) #[.pointer (aC ⟨w.heap.size+1,0,aD⟩)] #[]),2⟩,⟨aA aB 4,(.func (.func 93) #[.pointer (aC ⟨w.heap.size+1,0,aD⟩)] #[]),3⟩] 4)=V:=⟨_,rfl⟩;have t2:V4.heap[w.heap.size+1+1]?=aC (.map #[⟨aA aB 1,(.func (.func 90) #[.pointer (aC ⟨w.heap.size+1,0,aD⟩)] #[]),0⟩,⟨aA aB 2,(.func (.func 91) #[.pointer (aC ⟨w.heap.size+1,0,aD⟩)] #[]),1⟩,⟨aA aB 3,(.func (.func 92) #[.pointer (aC ⟨w.heap.size+1,0,aD⟩)] #[]),2⟩,⟨aA aB 4,(.func (.func 93) #[.pointer (aC ⟨w.heap.size+1,0,aD⟩)] #[]),3⟩] 4):=by rw[<- hV];exact uI _ (aBy.1 q2).1
 have t1:V4.heap[w.heap.size+1]?=aC (.cells #[aA aB r.aG,aA aB r.aI,aA aB r.aH,aA aB r.aJ,aE pa pn pc,aE fa fn fc] 135):=by rw[<- hV,iV _ (by omega)];exact q1
 have t0:V4.heap[w.heap.size]?=aC (.cells #[aA aB r.aG,aA aB r.aI,aA aB r.aH,aA aB r.aJ,aE pa pn pc] 28):=by rw[<- hV,iV _ (by omega)];exact q0
 have hx4:Ext w V4:=by rw[<- hV];exact hx3.sm (by omega) _
 have hV2:{ V3 with heap:=V3.heap.setIfInBounds (w.heap.size+1+1) (.map ((#[⟨aA aB 1,(.func (.func 90) #[.pointer (aC ⟨w.heap.size+1,0,aD⟩)] #[]),0⟩,⟨aA aB 2,(.func (.func 91) #[.pointer (aC ⟨w.heap.size+1,0,aD⟩)] #[]),1⟩,⟨aA aB 3,(.func (.func 92) #[.pointer (aC ⟨w.heap.size+1,0,aD⟩)] #[]),2⟩]:Array MapEntry).push { key:=aA aB 4,val:=(.func (.func 93) #[.pointer (aC ⟨w.heap.size+1,0,aD⟩)] #[]),born:=3 }) (3+1))}=V4:=hV;rw[hV2];clear hV hV2 q0 q1 q2 hx3;have q0:=t0;have q1:=t1;have q2:=t2;clear t0 t1 t2;have b3:V4.cell? ⟨w.heap.size,3,aD⟩=aC (aA aB r.aJ):=cell_of_row _ _ 3 _ _ _ q0;have HS:=hid (show dZ V4 (w.heap.size+1) r (aE pa pn pc) (aE fa fn fc) from q1);have HQ:=hid q2;have HX:=hid hx4;clear q0 q1 q2 hx4
 go_wp2_with fail
 rcases(by omega:r.aJ=1\/r.aJ=2\/r.aJ=3\/r.aJ=4) with hk | hk | hk | hk
 ·have hRr:=P1.out hk;subst hRr;rw[xG (i:=0) (v:=.func (.func 90) #[.pointer (aC ⟨w.heap.size+1,0,aD⟩)] #[]) underlying137 underlying3 HQ.out (by rw[hk];rfl)];have C:=hid (C1.out V4 _ HX.out (by omega) HS.out);clear C1 C2 C3 C4 P1 P2 P3 P4 hk
  go_wp2_with fail
  refine C.out.mono ?_;rintro e w2 ⟨v,rfl,hb,hz,hx2⟩;have HB:=hid hb;have HZ:=hid hz;have HX2:=hid hx2;clear hb hz hx2
  go_wp2_with fail
  go_ret;exact⟨_,rfl,HB.out,HZ.out,HX2.out⟩
 ·have hRr:=P2.out hk;subst hRr;rw[xG (i:=1) (v:=.func (.func 91) #[.pointer (aC ⟨w.heap.size+1,0,aD⟩)] #[]) underlying137 underlying3 HQ.out (by rw[hk];rfl)];have C:=hid (C2.out V4 _ HX.out HS.out);clear C1 C2 C3 C4 P1 P2 P3 P4 hk
  go_wp2_with fail
  refine C.out.mono ?_;rintro e w2 ⟨v,rfl,hb,hz,hx2⟩;have HB:=hid hb;have HZ:=hid hz;have HX2:=hid hx2;clear hb hz hx2
  go_wp2_with fail
  go_ret;exact⟨_,rfl,HB.out,⟨HZ.out.1,fun a n' c e=>aC4 HX.out.size (HZ.out.2 a n' c e)⟩,HX.out.tr HX2.out⟩
 ·have hRr:=P3.out hk;subst hRr;rw[xG (i:=2) (v:=.func (.func 92) #[.pointer (aC ⟨w.heap.size+1,0,aD⟩)] #[]) underlying137 underlying3 HQ.out (by rw[hk];rfl)];have C:=hid (C3.out V4 _ HX.out (by omega) HS.out);clear C1 C2 C3 C4 P1 P2 P3 P4 hk
  go_wp2_with fail
  refine C.out.mono ?_;rintro e w2 ⟨v,rfl,hb,hz,hx2⟩;have HB:=hid hb;have HZ:=hid hz;have HX2:=hid hx2;clear hb hz hx2
  go_wp2_with fail
  go_ret;exact⟨_,rfl,HB.out,HZ.out,HX2.out⟩
 ·have hRr:=P4.out hk;subst hRr;rw[xG (i:=3) (v:=.func (.func 93) #[.pointer (aC ⟨w.heap.size+1,0,aD⟩)] #[]) underlying137 underlying3 HQ.out (by rw[hk];rfl)];have C:=hid (C4.out V4 _ HX.out HS.out);clear C1 C2 C3 C4 P1 P2 P3 P4 hk
  go_wp2_with fail
  refine C.out.mono ?_;rintro e w2 ⟨v,rfl,hb,hz,hx2⟩;have HB:=hid hb;have HZ:=hid hz;have HX2:=hid hx2;clear hb hz hx2
  go_wp2_with fail
  go_ret;exact⟨_,rfl,HB.out,⟨HZ.out.1,fun a n' c e=>aC4 HX.out.size (HZ.out.2 a n' c e)⟩,HX.out.tr HX2.out⟩
def Un (w:World) (r:List bO × Bool × Int) (e:Ending) (w':World):Prop:=∃ u,e=.returned (.tuple #[u,.bool r.2.1,aA aB r.2.2])/\bJ w' u r.1/\Ext w w'
theorem mJ {w w':World} {r:List bO × Bool × Int} {l:List bO} {n:Int} {b:Bool} {u:Value} (h:r=(l,b,n)) (hv:bJ w' u l) (hx:Ext w w'):Un w r (.returned (.tuple #[u,.bool b,aA aB n])) w':=by
 subst h;exact⟨u,rfl,hv,hx⟩
end Go.Proofs.YtdcndkojmflhnaaGreat
