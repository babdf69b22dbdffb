/- log.read; each theorem names its own conditions. -/
import Derived.Test.YtdcndkojmflhnaaGreatPLogC
import Derived.Defers
import Derived.Recover
import Derived.Lib.Strings
set_option linter.unusedVariables false
set_option linter.unusedSimpArgs false
set_option maxRecDepth 100000
set_option maxHeartbeats 8000000
set_option linter.unusedSimpArgs false
set_option linter.unusedVariables false
namespace Go.Proofs.YtdcndkojmflhnaaGreat
open Go.RowKit
open List renaming getElem_toArray→zA,getElem_cons_zero→zB,getElem_cons_succ→zC,setIfInBounds_toArray→zD,set_cons_zero→zE,set_cons_succ→zF
def str (l:List UInt8):ByteArray:=⟨l.toArray⟩
theorem str_of (s:ByteArray):str s.data.toList=s:=by unfold str;cases s;simp
theorem str_size (l:List UInt8):(str l).size=l.length:=by unfold str;simp [ByteArray.size]
theorem str_toList (l:List UInt8):(str l).toList=l:=by
 rw [Lib.toList_data];unfold str;simp
theorem str_nil:str []=ByteArray.empty:=rfl
theorem str_tail (b:UInt8) (l:List UInt8):(str (b::l)).extract 1 (str (b::l)).size=str l:=by
 apply ByteArray.ext
 rw [ByteArray.data_extract,str_size]
 unfold str
 simp
theorem str_head (b:UInt8) (l:List UInt8) (h:0 < (str (b::l)).size):(str (b::l))[0]'h=b:=by
 unfold str;rfl
def shortP:List PanicEntry:=[{ v:=.iface 196 (.agg #[]),recovered:=false }]
def byI (b:UInt8):Int:=(b.toNat:Int)
theorem num_none (w:World) (G:Nat) (h:w.cell? ⟨G,0,none⟩=some (.string (str []))) :
  Calls Tryz.prog 158 #[.pointer (some ⟨G,0,none⟩)] w fun e w'=>e=.panicked shortP∧w'=w:=by
 rw [str_nil] at h
 go_enter Tryz.func158,Tryz.ntmps158
 go_wp2_with fail
 exact ⟨rfl,rfl,rfl⟩
theorem num_some (w:World) (G:Nat) (b:UInt8) (l:List UInt8) (h:w.cell? ⟨G,0,none⟩=some (.string (str (b::l)))) (hf:w.frozen? ⟨G,0,none⟩=false) :
  Calls Tryz.prog 158 #[.pointer (some ⟨G,0,none⟩)] w fun e w'=>e=.returned (.int .i64 (byI b))∧w'=w.setCell ⟨G,0,none⟩ (.string (str l)):=by
 have hs:0 < (str (b::l)).size:=by rw [str_size];simp
 have h0:=str_head b l hs
 have h1:=str_tail b l
 have h2:(str (b::l)).toList.isEmpty=false:=by rw [str_toList];rfl
 have HB:=hid (show (b.toNat:Int)=byI b from rfl)
 have hw:wrap64 (b.toNat:Int)=(b.toNat:Int):=by
  have:=b.toNat_lt
  unfold wrap64
  omega
 generalize hsv:str (b::l)=s at *
 generalize str l=t at *
 clear hsv
 go_enter Tryz.func158,Tryz.ntmps158
 go_wp2_with fail
 go_ret
 refine ⟨?_,rfl⟩
 show Ending.returned (.int .i64 (wrap64 (b.toNat:Int)))=_
 rw [hw]
 rfl
def intoW (G:Nat):List Addr→List UInt8→World→World
 | [],_,w=>w
 | _::_,[],w=>w
 | a::ps,b::t,w=>intoW G ps t ((w.setCell ⟨G,0,none⟩ (.string (str t))).setCell a (.int .i64 (byI b)))
theorem intoW_end (G:Nat) (ps:List Addr) (w:World):intoW G ps [] w=w:=by cases ps <;> rfl
theorem intoW_snoc (G:Nat):∀ (ps:List Addr) (t:List UInt8) (w:World) (i:Nat) (a:Addr) (b:UInt8),ps[i]?=some a→t[i]?=some b →
  intoW G (ps.take (i+1)) t w=((intoW G (ps.take i) t w).setCell ⟨G,0,none⟩ (.string (str (t.drop (i+1))))).setCell a (.int .i64 (byI b))
 | [],_,_,_,_,_,h,_=>by simp at h
 | _::_,[],_,_,_,_,_,h=>by simp at h
 | a0::ps,b0::t,w,0,a,b,h1,h2=>by
  simp only [List.getElem?_cons_zero,Option.some.injEq] at h1 h2
  subst h1 h2
  simp [intoW]
 | a0::ps,b0::t,w,i+1,a,b,h1,h2=>by
  simp only [List.getElem?_cons_succ] at h1 h2
  simp only [List.take_succ_cons,intoW,List.drop_succ_cons]
  exact intoW_snoc G ps t _ i a b h1 h2
theorem intoW_stop (G:Nat):∀ (ps:List Addr) (t:List UInt8) (w:World) (i:Nat),t.length≤i→intoW G (ps.take i) t w=intoW G ps t w
 | ps,[],w,i,_=>by rw [intoW_end,intoW_end]
 | [],b::t,w,i,_=>by simp [intoW]
 | a::ps,b::t,w,0,h=>by simp at h
 | a::ps,b::t,w,i+1,h=>by
  simp only [List.take_succ_cons,intoW]
  exact intoW_stop G ps t _ i (by simpa using h)
theorem into_any (w:World) (G lb:Nat) (ps:List Addr) (t:List UInt8) (h100:ps.length≤100) (hG:w.cell? ⟨G,0,none⟩=some (.string (str t))) (hGf:w.frozen? ⟨G,0,none⟩=false) (hL:w.heap[lb]?=some (.cells (ps.map fun a=>Value.pointer (some a)).toArray 150 (0,0))) (hne:lb≠G) (has:∀ a∈ps,a.block≠G∧a.block≠lb∧(∃ old,w.cell? a=some old)∧w.frozen? a=false) :
  Calls Tryz.prog 105 #[.pointer (some ⟨G,0,none⟩),.slice (some ⟨lb,0,none⟩) ps.length ps.length] w fun e w'=>e=(if ps.length≤t.length then .returned (.tuple #[]) else .panicked shortP)∧w'=intoW G ps t w:=by
 have HAS:=hid (fun a (h:a∈ps)=>(has a h).1)
 have HAL:=hid (fun a (h:a∈ps)=>(has a h).2.1)
 have HAE:=hid (fun a (h:a∈ps)=>(has a h).2.2)
 have HG:=hid hG
 have HGF:=hid hGf
 have HL:=hid hL
 clear has hG hGf hL
 generalize hn:ps.length=n at *
 have HN:=hid hn
 clear hn
 go_enter Tryz.func105,Tryz.ntmps105
 go_wp2_with fail
 go_loopw [8] (fun c wr=>∃ i:Nat,c=.int .i64 i∧i≤n∧i≤t.length∧Hid (wr=intoW G (ps.take i) t w)∧Hid (wr.cell? ⟨G,0,none⟩=some (.string (str (t.drop i))))∧Hid (wr.frozen? ⟨G,0,none⟩=false)∧Hid (wr.heap[lb]?=some (.cells (ps.map fun a=>Value.pointer (some a)).toArray 150 (0,0)))∧Hid (∀ a∈ps,(∃ old,wr.cell? a=some old)∧wr.frozen? a=false)) (fun c _=>n - (intOf c).toNat)
 case atStart=>exact ⟨0,rfl,Nat.zero_le _,Nat.zero_le _,hid rfl,HG,HGF,HL,HAE⟩
 case round =>
  obtain ⟨i,rfl,hi,hit,HW,HC,HF,HLL,HE⟩:=hrel
  by_cases hlt:i < n
  ·have hlt':(i:Int) < (n:Int):=by omega
   obtain ⟨a,ha⟩:=getA (f:=ps) (k:=i) (by rw [HN.out];exact hlt)
   have c0:wr.cell? ⟨lb,i,none⟩=some (.pointer (some a)):=by
    rw [cell_of_row wr lb i _ _ _ HLL.out]
    simp [List.getElem?_map,ha]
   have hmem:=List.mem_of_getElem? ha
   by_cases htl:i < t.length
   ·obtain ⟨b,hb⟩:=getA (f:=t) (k:=i) htl
    have hdr:t.drop i=b::t.drop (i+1):=by
     obtain ⟨h1,h2⟩:=List.getElem?_eq_some_iff.1 hb
     rw [← h2];exact List.drop_eq_getElem_cons h1
    have hc:=HC.out
    rw [hdr] at hc
    have NUM:=hid (num_some wr G b (t.drop (i+1)) hc HF.out)
    have HSN:=hid (intoW_snoc G ps t w i a b ha hb)
    obtain ⟨old,hold⟩:=(HE.out a hmem).1
    have hag:=HAS.out a hmem
    have k0:(wr.setCell ⟨G,0,none⟩ (.string (str (t.drop (i+1))))).cell? a=some old:=by
     rw [World.cell?_setCell_other _ _ _ _ (fun e=>hag (by rw [← e]))];exact hold
    have f0:(wr.setCell ⟨G,0,none⟩ (.string (str (t.drop (i+1))))).frozen? a=false:=by
     rw [World.frozen?_setCell];exact (HE.out a hmem).2
    have HCN:=hid (show (((wr.setCell ⟨G,0,none⟩ (.string (str (t.drop (i+1))))).setCell a (.int .i64 (byI b))).cell? ⟨G,0,none⟩=some (.string (str (t.drop (i+1))))) from by
     rw [World.cell?_setCell_other _ _ _ _ (fun e=>hag (by rw [e]))]
     exact World.cell?_setCell_same _ _ _ hc)
    have HFN:=hid (show ((wr.setCell ⟨G,0,none⟩ (.string (str (t.drop (i+1))))).setCell a (.int .i64 (byI b))).frozen? ⟨G,0,none⟩=false from by
     rw [World.frozen?_setCell,World.frozen?_setCell];exact HF.out)
    have HLN:=hid (show ((wr.setCell ⟨G,0,none⟩ (.string (str (t.drop (i+1))))).setCell a (.int .i64 (byI b))).heap[lb]?=some (.cells (ps.map fun a=>Value.pointer (some a)).toArray 150 (0,0)) from by
     rw [heap_setCell_other _ a _ _ (fun e=>HAL.out a hmem e.symm),heap_setCell_other _ ⟨G,0,none⟩ _ _ hne]
     exact HLL.out)
    have HEN:=hid (show ∀ c∈ps,(∃ old,((wr.setCell ⟨G,0,none⟩ (.string (str (t.drop (i+1))))).setCell a (.int .i64 (byI b))).cell? c=some old)∧((wr.setCell ⟨G,0,none⟩ (.string (str (t.drop (i+1))))).setCell a (.int .i64 (byI b))).frozen? c=false from fun c hc'=>by
     refine ⟨?_,by rw [World.frozen?_setCell,World.frozen?_setCell];exact (HE.out c hc').2⟩
     by_cases hca:a=c
     ·rw [← hca];exact ⟨_,World.cell?_setCell_same _ _ _ k0⟩
     ·rw [World.cell?_setCell_other _ _ _ _ hca,World.cell?_setCell_other _ _ _ _ (fun e=>HAS.out c hc' (by rw [← e]))]
      exact (HE.out c hc').1)
    have HW2:=hid (show (wr.setCell ⟨G,0,none⟩ (.string (str (t.drop (i+1))))).setCell a (.int .i64 (byI b))=intoW G (ps.take (i+1)) t w from by rw [HSN.out,← HW.out])
    have g1:=deF (show ¬ (i:Int) < 0 by omega)
    clear hb ha hmem hdr hc hold hag HC HE HLL HSN
    go_wp2_with fail
    refine NUM.out.mono ?_
    rintro e w2 ⟨rfl,rfl⟩
    go_wp2_with fail
    go_roundw
    case rel=>exact ⟨i+1,by go_num,by omega,by omega,HW2,HCN,HFN,HLN,HEN⟩
    case measure=>simp [intOf];omega
   ·have hdr:t.drop i=[]:=List.drop_eq_nil_of_le (by omega)
    have hc:=HC.out
    rw [hdr] at hc
    have NUM:=hid (num_none wr G hc)
    have hlen:¬ n≤t.length:=by omega
    have HEND:=hid (show wr=intoW G ps t w from by rw [HW.out];exact intoW_stop G ps t w i (by omega))
    clear ha hmem hdr hc
    go_wp2_with fail
    refine NUM.out.mono ?_
    rintro e w2 ⟨rfl,hw2⟩
    obtain rfl:=hw2.symm
    go_wp2_with fail
    first
     | exact ⟨rfl,rfl,HEND.out⟩
     | (rw [if_neg hlen];exact ⟨rfl,rfl,HEND.out⟩)
  ·obtain rfl:i=n:=by omega
   have hno:¬ (i:Int) < (i:Int):=by omega
   have HEND:=hid (show wr=intoW G ps t w from by rw [HW.out,List.take_of_length_le (by rw [HN.out];exact Nat.le_refl _)])
   have hle:i≤t.length:=hit
   clear hlt
   go_wp2_with fail
   go_end0
   exact ⟨rfl,HEND.out⟩
theorem read2_any (w:World) (X G B:Nat) (t:List UInt8) (hX:w.cell? ⟨X,0,none⟩=some (.pointer (some ⟨G,0,none⟩))) (hG:w.cell? ⟨G,0,none⟩=some (.string (str t))) (hGf:w.frozen? ⟨G,0,none⟩=false)
  (hB0:∃ old,w.cell? ⟨B,0,none⟩=some old) (hB1:∃ old,w.cell? ⟨B,1,none⟩=some old) (hf0:w.frozen? ⟨B,0,none⟩=false) (hf1:w.frozen? ⟨B,1,none⟩=false) (hBG:B≠G) :
  Calls Tryz.prog 107 #[.pointer (some ⟨B,0,none⟩),.pointer (some ⟨X,0,none⟩)] w fun e w'=>∃ w1,Ext w w1∧e=(if 2≤t.length then .returned (.tuple #[]) else .panicked shortP)∧w'=intoW G [⟨B,0,none⟩,⟨B,1,none⟩] t w1:=by
 go_enter Tryz.func107,Tryz.ntmps107
 have HG:=hid hG
 have HF:=hid (And.intro hGf (And.intro hf0 hf1))
 have HB:=hid (And.intro hB0 hB1)
 clear hG hGf hf0 hf1 hB0 hB1
 refine wp_region_tail 8 (fun W=>W.cell? ⟨X,0,none⟩=some (.pointer (some ⟨G,0,none⟩))) (by kernel_rfl) hX (fun hHeld=>?_)
 refine wpAnyT_take (i:=0) (v:=?_) rfl (by kernel_rfl) (fun _ _ _ h=>h) (Or.inl ⟨by rfl,?_⟩) (by assumption) ?_
 rotate_left
 ·intro W hSW
  simp only [zA,zB]
  (try dsimp only at hSW)
  go_simp
  (try with_reducible rfl)
 simp only [zA,zB,Act.put,zD,zE,zF]
 refine wpAnyT_take (i:=1) (v:=?_) rfl (by kernel_rfl) (fun _ _ _ h=>h) (Or.inl ⟨by rfl,?_⟩) (by assumption) ?_
 rotate_left
 ·intro W hSW
  simp only [zA,zB,zC]
  (try dsimp only at hSW)
  go_simp
  (try with_reducible rfl)
 simp only [zA,zB,zC,Act.put,zD,zE,zF]
 refine wpAnyT_take (i:=2) (v:=?_) rfl (by kernel_rfl) (fun _ _ _ h=>h) (Or.inl ⟨by rfl,?_⟩) (by assumption) ?_
 rotate_left
 ·intro W hSW
  simp only [zA,zB,zC]
  (try dsimp only at hSW)
  go_simp
  (try with_reducible rfl)
 simp only [zA,zB,zC,Act.put,zD,zE,zF]
 refine wpAnyT_take (i:=3) (v:=?_) rfl (by kernel_rfl) (fun _ _ _ h=>h) (Or.inl ⟨by rfl,?_⟩) (by assumption) ?_
 rotate_left
 ·intro W hSW
  simp only [zA,zB,zC]
  (try dsimp only at hSW)
  go_simp
  (try with_reducible rfl)
 simp only [zA,zB,zC,Act.put,zD,zE,zF]
 refine wpAnyT_take (i:=4) (v:=?_) rfl (by kernel_rfl) (fun _ _ _ h=>h) (Or.inl ⟨by rfl,?_⟩) (by assumption) ?_
 rotate_left
 ·intro W hSW
  simp only [zA,zB,zC]
  (try dsimp only at hSW)
  go_simp
  (try with_reducible rfl)
 simp only [zA,zB,zC,Act.put,zD,zE,zF]
 refine wpAnyT_take (i:=5) (v:=?_) rfl (by kernel_rfl) (fun _ _ _ h=>h) (Or.inl ⟨by rfl,?_⟩) (by assumption) ?_
 rotate_left
 ·intro W hSW
  simp only [zA,zB,zC]
  (try dsimp only at hSW)
  go_simp
  (try with_reducible rfl)
 simp only [zA,zB,zC,Act.put,zD,zE,zF]
 refine wpAnyT_take (i:=6) (v:=?_) rfl (by kernel_rfl) (fun _ _ _ h=>h) (Or.inl ⟨by rfl,?_⟩) (by assumption) ?_
 rotate_left
 ·intro W hSW
  simp only [zA,zB,zC]
  (try dsimp only at hSW)
  go_simp
  (try with_reducible rfl)
 simp only [zA,zB,zC,Act.put,zD,zE,zF]
 refine wpAnyT_go (i:=7) (by kernel_rfl) rfl (fun K hK=>?_)
 simp only [zA,zB,zC]
 go_simp
 obtain ⟨W9,hW9⟩:∃ W9,(w.alloc (.cells #[.pointer (some ⟨B,0,none⟩),.pointer (some ⟨B,1,none⟩)] 150)).drew=W9:=⟨_,rfl⟩
 rw [hW9]
 have hx9:Ext w W9:=hW9▸((Ext.rf w).al _).dr
 have hl9:W9.heap[w.heap.size]?=some (.cells #[.pointer (some ⟨B,0,none⟩),.pointer (some ⟨B,1,none⟩)] 150 (0,0)):=hW9▸blk_ext (heap_alloc_new w (.cells #[.pointer (some ⟨B,0,none⟩),.pointer (some ⟨B,1,none⟩)] 150)) (Ext.rf _).dr
 have hfr:∀ a:Addr,(∃ old,w.cell? a=some old)→w.frozen? a=false→(∃ old,W9.cell? a=some old)∧W9.frozen? a=false∧a.block≠w.heap.size:=fun a ⟨old,h1⟩ h2=>by
  have hlt:=World.block_lt_of_cell? w a h1
  refine ⟨⟨old,ext_ceA hx9 h1⟩,?_,by omega⟩
  rw [World.frozen?_of_block (hx9.block a.block hlt)]
  exact h2
 have hG9:=hfr _ ⟨_,HG.out⟩ HF.out.1
 have hB9:=hfr _ HB.out.1 HF.out.2.1
 have hC9:=hfr _ HB.out.2 HF.out.2.2
 have INTO:=hid (show Calls Tryz.prog 105 #[.pointer (some ⟨G,0,none⟩),.slice (some ⟨w.heap.size,0,none⟩) 2 2] W9 (fun e w'=>e=(if 2≤t.length then .returned (.tuple #[]) else .panicked shortP)∧w'=intoW G [⟨B,0,none⟩,⟨B,1,none⟩] t W9) from into_any W9 G w.heap.size [⟨B,0,none⟩,⟨B,1,none⟩] t (by simp) (ext_ceA hx9 HG.out) hG9.2.1 hl9 (fun e=>hG9.2.2 e.symm) (fun a ha=>by
  simp only [List.mem_cons,List.not_mem_nil,or_false] at ha
  rcases ha with rfl | rfl
  ·exact ⟨hBG,hB9.2.2,hB9.1,hB9.2.1⟩
  ·exact ⟨hBG,hC9.2.2,hC9.1,hC9.2.1⟩))
 have HX9:=hid hx9
 clear hG9 hB9 hC9 hfr hl9 hW9 HG HF HB
 refine hK.out _ _ ?_ (fun hHeld=>?_)
 ·(exact hx9.ce' hHeld)
 clear hK K
 refine wpAnyT_last (t:=8) (by kernel_rfl) rfl (by kernel_rfl) (fun K hK=>?_)
 simp only [zA,zB,zC]
 go_simp
 by_cases h2:2≤t.length
 ·rw [if_pos h2] at INTO
  refine INTO.out.mono ?_
  rintro e w2 ⟨rfl,hw2⟩
  refine hK.out _ _ ?_
  clear hK K
  go_end0
  exact ⟨W9,HX9.out,by rw [if_pos h2],hw2⟩
 ·rw [if_neg h2] at INTO
  refine INTO.out.mono ?_
  rintro e w2 ⟨rfl,hw2⟩
  exact ⟨rfl,W9,HX9.out,by rw [if_neg h2],hw2⟩
theorem read3_any (w:World) (X G B:Nat) (t:List UInt8) (hX:w.cell? ⟨X,0,none⟩=some (.pointer (some ⟨G,0,none⟩))) (hG:w.cell? ⟨G,0,none⟩=some (.string (str t))) (hGf:w.frozen? ⟨G,0,none⟩=false)
  (hB0:∃ old,w.cell? ⟨B,0,none⟩=some old) (hB1:∃ old,w.cell? ⟨B,1,none⟩=some old) (hf0:w.frozen? ⟨B,0,none⟩=false) (hf1:w.frozen? ⟨B,1,none⟩=false) (hBG:B≠G) :
  Calls Tryz.prog 109 #[.pointer (some ⟨B,0,none⟩),.pointer (some ⟨X,0,none⟩)] w fun e w'=>∃ w1,Ext w w1∧e=(if 2≤t.length then .returned (.tuple #[]) else .panicked shortP)∧w'=intoW G [⟨B,0,none⟩,⟨B,1,none⟩] t w1:=by
 go_enter Tryz.func109,Tryz.ntmps109
 have HG:=hid hG
 have HF:=hid (And.intro hGf (And.intro hf0 hf1))
 have HB:=hid (And.intro hB0 hB1)
 clear hG hGf hf0 hf1 hB0 hB1
 refine wp_region_tail 8 (fun W=>W.cell? ⟨X,0,none⟩=some (.pointer (some ⟨G,0,none⟩))) (by kernel_rfl) hX (fun hHeld=>?_)
 refine wpAnyT_take (i:=0) (v:=?_) rfl (by kernel_rfl) (fun _ _ _ h=>h) (Or.inl ⟨by rfl,?_⟩) (by assumption) ?_
 rotate_left
 ·intro W hSW
  simp only [zA,zB]
  (try dsimp only at hSW)
  go_simp
  (try with_reducible rfl)
 simp only [zA,zB,Act.put,zD,zE,zF]
 refine wpAnyT_take (i:=1) (v:=?_) rfl (by kernel_rfl) (fun _ _ _ h=>h) (Or.inl ⟨by rfl,?_⟩) (by assumption) ?_
 rotate_left
 ·intro W hSW
  simp only [zA,zB,zC]
  (try dsimp only at hSW)
  go_simp
  (try with_reducible rfl)
 simp only [zA,zB,zC,Act.put,zD,zE,zF]
 refine wpAnyT_take (i:=2) (v:=?_) rfl (by kernel_rfl) (fun _ _ _ h=>h) (Or.inl ⟨by rfl,?_⟩) (by assumption) ?_
 rotate_left
 ·intro W hSW
  simp only [zA,zB,zC]
  (try dsimp only at hSW)
  go_simp
  (try with_reducible rfl)
 simp only [zA,zB,zC,Act.put,zD,zE,zF]
 refine wpAnyT_take (i:=3) (v:=?_) rfl (by kernel_rfl) (fun _ _ _ h=>h) (Or.inl ⟨by rfl,?_⟩) (by assumption) ?_
 rotate_left
 ·intro W hSW
  simp only [zA,zB,zC]
  (try dsimp only at hSW)
  go_simp
  (try with_reducible rfl)
 simp only [zA,zB,zC,Act.put,zD,zE,zF]
 refine wpAnyT_take (i:=4) (v:=?_) rfl (by kernel_rfl) (fun _ _ _ h=>h) (Or.inl ⟨by rfl,?_⟩) (by assumption) ?_
 rotate_left
 ·intro W hSW
  simp only [zA,zB,zC]
  (try dsimp only at hSW)
  go_simp
  (try with_reducible rfl)
 simp only [zA,zB,zC,Act.put,zD,zE,zF]
 refine wpAnyT_take (i:=5) (v:=?_) rfl (by kernel_rfl) (fun _ _ _ h=>h) (Or.inl ⟨by rfl,?_⟩) (by assumption) ?_
 rotate_left
 ·intro W hSW
  simp only [zA,zB,zC]
  (try dsimp only at hSW)
  go_simp
  (try with_reducible rfl)
 simp only [zA,zB,zC,Act.put,zD,zE,zF]
 refine wpAnyT_take (i:=6) (v:=?_) rfl (by kernel_rfl) (fun _ _ _ h=>h) (Or.inl ⟨by rfl,?_⟩) (by assumption) ?_
 rotate_left
 ·intro W hSW
  simp only [zA,zB,zC]
  (try dsimp only at hSW)
  go_simp
  (try with_reducible rfl)
 simp only [zA,zB,zC,Act.put,zD,zE,zF]
 refine wpAnyT_go (i:=7) (by kernel_rfl) rfl (fun K hK=>?_)
 simp only [zA,zB,zC]
 go_simp
 obtain ⟨W9,hW9⟩:∃ W9,(w.alloc (.cells #[.pointer (some ⟨B,0,none⟩),.pointer (some ⟨B,1,none⟩)] 150)).drew=W9:=⟨_,rfl⟩
 rw [hW9]
 have hx9:Ext w W9:=hW9▸((Ext.rf w).al _).dr
 have hl9:W9.heap[w.heap.size]?=some (.cells #[.pointer (some ⟨B,0,none⟩),.pointer (some ⟨B,1,none⟩)] 150 (0,0)):=hW9▸blk_ext (heap_alloc_new w (.cells #[.pointer (some ⟨B,0,none⟩),.pointer (some ⟨B,1,none⟩)] 150)) (Ext.rf _).dr
 have hfr:∀ a:Addr,(∃ old,w.cell? a=some old)→w.frozen? a=false→(∃ old,W9.cell? a=some old)∧W9.frozen? a=false∧a.block≠w.heap.size:=fun a ⟨old,h1⟩ h2=>by
  have hlt:=World.block_lt_of_cell? w a h1
  refine ⟨⟨old,ext_ceA hx9 h1⟩,?_,by omega⟩
  rw [World.frozen?_of_block (hx9.block a.block hlt)]
  exact h2
 have hG9:=hfr _ ⟨_,HG.out⟩ HF.out.1
 have hB9:=hfr _ HB.out.1 HF.out.2.1
 have hC9:=hfr _ HB.out.2 HF.out.2.2
 have INTO:=hid (show Calls Tryz.prog 105 #[.pointer (some ⟨G,0,none⟩),.slice (some ⟨w.heap.size,0,none⟩) 2 2] W9 (fun e w'=>e=(if 2≤t.length then .returned (.tuple #[]) else .panicked shortP)∧w'=intoW G [⟨B,0,none⟩,⟨B,1,none⟩] t W9) from into_any W9 G w.heap.size [⟨B,0,none⟩,⟨B,1,none⟩] t (by simp) (ext_ceA hx9 HG.out) hG9.2.1 hl9 (fun e=>hG9.2.2 e.symm) (fun a ha=>by
  simp only [List.mem_cons,List.not_mem_nil,or_false] at ha
  rcases ha with rfl | rfl
  ·exact ⟨hBG,hB9.2.2,hB9.1,hB9.2.1⟩
  ·exact ⟨hBG,hC9.2.2,hC9.1,hC9.2.1⟩))
 have HX9:=hid hx9
 clear hG9 hB9 hC9 hfr hl9 hW9 HG HF HB
 refine hK.out _ _ ?_ (fun hHeld=>?_)
 ·(exact hx9.ce' hHeld)
 clear hK K
 refine wpAnyT_last (t:=8) (by kernel_rfl) rfl (by kernel_rfl) (fun K hK=>?_)
 simp only [zA,zB,zC]
 go_simp
 by_cases h2:2≤t.length
 ·rw [if_pos h2] at INTO
  refine INTO.out.mono ?_
  rintro e w2 ⟨rfl,hw2⟩
  refine hK.out _ _ ?_
  clear hK K
  go_end0
  exact ⟨W9,HX9.out,by rw [if_pos h2],hw2⟩
 ·rw [if_neg h2] at INTO
  refine INTO.out.mono ?_
  rintro e w2 ⟨rfl,hw2⟩
  exact ⟨rfl,W9,HX9.out,by rw [if_neg h2],hw2⟩
theorem grown_fresh {w W:World} {G B o:Nat} {v:Value} (h:w.grownBy W (some G)) (hB:w.heap.size≤B):w.grownBy (W.setCell ⟨B,o,none⟩ v) (some G) :=
 ⟨h.os,h.tape,h.output,by have:=h.size;simpa [World.setCell] using this,fun k hk hne=>by
  rw [heap_setCell_other W ⟨B,o,none⟩ _ _ (by show k≠B;omega)]
  exact h.block k hk hne⟩
theorem grown_into {G:Nat}:∀ (ps:List Addr) (t:List UInt8) {w W:World},w.grownBy W (some G)→(∀ a∈ps,w.heap.size≤a.block∧a.spot=none)→w.grownBy (intoW G ps t W) (some G)
 | [],_,_,_,h,_=>h
 | _::_,[],_,_,h,_=>h
 | a::ps,b::t,w,W,h,ha=>by
  refine grown_into ps t ?_ (fun c hc=>ha c (List.mem_cons_of_mem _ hc))
  obtain ⟨h1,h2⟩:=ha a (List.mem_cons_self ..)
  have e:a=⟨a.block,a.off,none⟩:=by cases a;simp_all
  rw [e]
  exact grown_fresh (grown_trans h (grown_set W G 0 _)) h1
theorem grown_own {w W W5:World} {G:Nat} {row:Option Nat} (h:w.grownBy W (some G)) (hg:W.grownBy W5 row) (hr:∀ r,row=some r→w.heap.size≤r):w.grownBy W5 (some G) :=
 ⟨hg.os.trans h.os,hg.tape.trans h.tape,hg.output.trans h.output,Nat.le_trans h.size hg.size,fun k hk hne=>(hg.block k (Nat.lt_of_lt_of_le hk h.size) (fun e=>by have:=hr k e.symm;omega)).trans (h.block k hk hne)⟩
def pieceOf:Nat→List UInt8→List Piece
 | 0,_=>[]
 | n+1,a::b::t=>⟨byI a,byI b⟩::pieceOf n t
 | _+1,_=>[]
theorem pieceOf_len:∀ (n:Nat) (t:List UInt8),2*n≤t.length→(pieceOf n t).length=n
 | 0,_,_=>rfl
 | n+1,[],h=>by simp at h
 | n+1,[a],h=>by simp at h;omega
 | n+1,a::b::t,h=>by
  simp only [pieceOf,List.length_cons]
  rw [pieceOf_len n t (by simp at h;omega)]
theorem pieceOf_snoc:∀ (n:Nat) (t:List UInt8) (a b:UInt8) (r:List UInt8),t.drop (2*n)=a::b::r→pieceOf (n+1) t=pieceOf n t++[⟨byI a,byI b⟩]
 | 0,t,a,b,r,h=>by
  rw [show t=a::b::r from h]
  rfl
 | n+1,[],a,b,r,h=>by simp at h
 | n+1,[c],a,b,r,h=>by
  rw [List.drop_eq_nil_of_le (by simp;omega)] at h
  exact absurd h (by simp)
 | n+1,c::d::t,a,b,r,h=>by
  have h':t.drop (2*n)=a::b::r:=by
   rw [show 2*(n+1)=2*n+1+1 by omega,List.drop_succ_cons,List.drop_succ_cons] at h
   exact h
  show ⟨byI c,byI d⟩::pieceOf (n+1) t=⟨byI c,byI d⟩::pieceOf n t++[⟨byI a,byI b⟩]
  rw [pieceOf_snoc n t a b r h']
  rfl
def pieceGot (w:World) (G most:Nat) (t:List UInt8) (e:Ending) (w':World):Prop :=
   (
    ∃ (n:UInt8) (r:List UInt8) (v:Value),t=n::r∧n.toNat≤most∧2*n.toNat≤r.length∧e=.returned v∧w'.ownsRow w.heap.size 44 2 v n.toNat (cells2 Piece.Len Piece.N (pieceOf n.toNat r))∧w'.cell? ⟨G,0,none⟩=some (.string (str (r.drop (2*n.toNat))))∧w'.frozen? ⟨G,0,none⟩=false) ∨
    ((∀ (n:UInt8) (r:List UInt8),t=n::r→¬ (n.toNat≤most∧2*n.toNat≤r.length))∧e=.panicked shortP)
theorem pieceList_any (w:World) (X G most:Nat) (t:List UInt8) (hX:w.cell? ⟨X,0,none⟩=some (.pointer (some ⟨G,0,none⟩))) (hG:w.cell? ⟨G,0,none⟩=some (.string (str t))) (hGf:w.frozen? ⟨G,0,none⟩=false) (hXG:X≠G) (hmost:most≤48) :
  Calls Tryz.prog 106 #[.pointer (some ⟨G,0,none⟩),.int .i64 (most:Int),.func (.func 107) #[] #[.pointer (some ⟨X,0,none⟩)]] w fun e w'=>w.grownBy w' (some G) ∧
   pieceGot w G most t e w':=by
 have HX:=hid hX
 have HF:=hid hGf
 have hGlt:G < w.heap.size:=World.block_lt_of_cell? w _ hG
 have hXlt:X < w.heap.size:=World.block_lt_of_cell? w _ hX
 cases t with
 | nil =>
  have NUM:=hid (num_none w G hG)
  clear hX hG hGf
  go_enter Tryz.func106,Tryz.ntmps106
  go_wp2_with fail
  refine NUM.out.mono ?_
  rintro e w2 ⟨rfl,hw2⟩
  obtain rfl:=hw2.symm
  go_wp2_with fail
  exact ⟨rfl,grown_of_ext (Ext.rf _),Or.inr ⟨fun n r h=>(by cases h),rfl⟩⟩
 | cons n r =>
  have NUM:=hid (num_some w G n r hG hGf)
  have hG1:(w.setCell ⟨G,0,none⟩ (.string (str r))).cell? ⟨G,0,none⟩=some (.string (str r)):=World.cell?_setCell_same _ _ _ hG
  have hF1:(w.setCell ⟨G,0,none⟩ (.string (str r))).frozen? ⟨G,0,none⟩=false:=by rw [World.frozen?_setCell];exact hGf
  have HG1:=hid hG1
  have HF1:=hid hF1
  have hby:byI n=((n.toNat:Nat):Int):=rfl
  rw [hby] at NUM
  generalize hk:n.toNat=k at *
  have HKN:=hid hk
  clear hX hG hGf hG1 hF1 hby hk
  go_enter Tryz.func106,Tryz.ntmps106
  go_wp2_with fail
  refine NUM.out.mono ?_
  rintro e w2 ⟨rfl,hw2⟩
  have HR2:=hid (show w.grownBy w2 (some G) from hw2▸grown_set w G 0 _)
  rw [← hw2] at HG1 HF1
  clear hw2 NUM
  by_cases hm:most < k
  ·have hm':(most:Int) < (k:Int):=by omega
   have hmd:=deT hm'
   go_wp2_with fail
   exact ⟨rfl,HR2.out,Or.inr ⟨fun n' r' h=>by obtain ⟨h1,h2⟩:=List.cons.inj h;rw [← h1,← h2,HKN.out];omega,rfl⟩⟩
  ·have hm':¬ (most:Int) < (k:Int):=by omega
   have hmd:=deF hm'
   go_wp2_with fail
   obtain ⟨ir,ir1,ir2,ir3,ir4⟩:=info_parts Tryz.info44
   have hk255:k≤48:=by omega
   go_loopw [8,18] (fun v c wr=>∃ i:Nat,c=.int .i64 i∧i≤k∧2*i≤r.length∧Hid (w.grownBy wr (some G))∧Hid (wr.cell? ⟨G,0,none⟩=some (.string (str (r.drop (2*i)))))∧Hid (wr.frozen? ⟨G,0,none⟩=false)∧Hid (wr.ownsRow w.heap.size 44 2 v i (cells2 Piece.Len Piece.N (pieceOf i r)))) (fun _ c _=>k - (intOf c).toNat)
   case atStart=>exact ⟨0,rfl,Nat.zero_le _,Nat.zero_le _,HR2,HG1,HF1,hid (World.ownsRow_nil _ _ _ _)⟩
   case round =>
    obtain ⟨i,rfl,hi,hir,HRW,HGW,HFW,HOW⟩:=hrel
    by_cases hlt:i < k
    ·have hlt':(i:Int) < (k:Int):=by omega
     have hGl:G < wr.heap.size:=World.block_lt_of_cell? wr _ HGW.out
     have hx1:=(Ext.rf wr).al (.cells #[.int .i64 0,.int .i64 0] 44)
     have hbx:=heap_alloc_new wr (.cells #[.int .i64 0,.int .i64 0] 44)
     have RD:=hid (read2_any (wr.alloc (.cells #[.int .i64 0,.int .i64 0] 44)) X G wr.heap.size (r.drop (2*i)) (by
      have h1:wr.cell? ⟨X,0,none⟩=w.cell? ⟨X,0,none⟩:=World.cell?_of_block (a:=⟨X,0,none⟩) (HRW.out.block X hXlt (fun e=>hXG (Option.some.inj e)))
      exact ext_ceA hx1 (h1.trans HX.out)) (ext_ceA hx1 HGW.out) (by rw [World.frozen?_of_block (hx1.block G hGl)];exact HFW.out) ⟨_,cell_of_row _ _ 0 _ _ _ hbx⟩ ⟨_,cell_of_row _ _ 1 _ _ _ hbx⟩ (frozen_of_row _ _ 0 _ _ hbx) (frozen_of_row _ _ 1 _ _ hbx) (by omega))
     have HBX:=hid hbx
     clear hx1 hbx
     go_wp2_with fail
     refine RD.out.mono ?_
     rintro e w3 ⟨w1,hx3,he,hw3⟩
     by_cases h2:2≤(r.drop (2*i)).length
     ·rw [if_pos h2] at he
      subst he
      obtain ⟨a,b,q,hq⟩:∃ a b q,r.drop (2*i)=a::b::q:=by
       cases hd:r.drop (2*i) with
       | nil=>rw [hd] at h2;simp at h2
       | cons a l =>
        cases l with
        | nil=>rw [hd] at h2;simp at h2
        | cons b q=>exact ⟨a,b,q,rfl⟩
      have hq2:r.drop (2*(i+1))=q:=by
       have e:r.drop (2*(i+1))=(r.drop (2*i)).drop 2:=by rw [List.drop_drop];rfl
       rw [e,hq];rfl
      have hlen2:2*(i+1)≤r.length:=by
       rw [List.length_drop] at h2;omega
      have hx13:=((Ext.rf wr).al (.cells #[.int .i64 0,.int .i64 0] 44)).tr hx3
      have hw3':w3=(((w1.setCell ⟨G,0,none⟩ (.string (str (b::q)))).setCell ⟨wr.heap.size,0,none⟩ (.int .i64 (byI a))).setCell ⟨G,0,none⟩ (.string (str q))).setCell ⟨wr.heap.size,1,none⟩ (.int .i64 (byI b)):=by rw [hw3,hq];rfl
      have hBG:wr.heap.size≠G:=by omega
      have hb1:w1.heap[wr.heap.size]?=some (.cells #[.int .i64 0,.int .i64 0] 44 (0,0)):=blk_ext HBX.out hx3
      have hb3:w3.heap[wr.heap.size]?=some (.cells #[.int .i64 (byI a),.int .i64 (byI b)] 44 (0,0)):=by
       rw [hw3']
       have e1:=heap_setCell_same (w1.setCell ⟨G,0,none⟩ (.string (str (b::q)))) wr.heap.size 0 _ _ (.int .i64 (byI a)) ((heap_setCell_other w1 ⟨G,0,none⟩ wr.heap.size (.string (str (b::q))) hBG).trans hb1)
       have e2:=(heap_setCell_other ((w1.setCell ⟨G,0,none⟩ (.string (str (b::q)))).setCell ⟨wr.heap.size,0,none⟩ (.int .i64 (byI a))) ⟨G,0,none⟩ wr.heap.size (.string (str q)) hBG).trans e1
       exact heap_setCell_same _ wr.heap.size 1 _ _ (.int .i64 (byI b)) e2
      have hR3:w.grownBy w3 (some G):=by
       rw [hw3']
       have hs:=HRW.out.size
       exact grown_fresh (grown_trans (grown_fresh (grown_trans (grown_trans HRW.out (grown_of_ext hx13)) (grown_set w1 G 0 _)) hs) (grown_set _ G 0 _)) hs
      have hg1:w1.cell? ⟨G,0,none⟩=some (.string (str (r.drop (2*i)))):=ext_ceA hx13 HGW.out
      have hg3:w3.cell? ⟨G,0,none⟩=some (.string (str q)):=by
       rw [hw3',World.cell?_setCell_other _ _ _ _ (fun e=>hBG (congrArg Addr.block e))]
       refine World.cell?_setCell_same _ _ _ (u:=.string (str (b::q))) ?_
       rw [World.cell?_setCell_other _ _ _ _ (fun e=>hBG (congrArg Addr.block e))]
       exact World.cell?_setCell_same _ _ _ hg1
      have hf3:w3.frozen? ⟨G,0,none⟩=false:=by
       rw [hw3',World.frozen?_setCell,World.frozen?_setCell,World.frozen?_setCell,World.frozen?_setCell,World.frozen?_of_block (hx13.block G hGl)]
       exact HFW.out
      have hfar:∀ rr,u8.ownBlock=some rr→rr < wr.heap.size:=fun rr hr=>(HOW.out.lt rr hr).2
      have ho3:w3.ownsRow w.heap.size 44 2 u8 i (cells2 Piece.Len Piece.N (pieceOf i r)):=by
       rw [hw3']
       have o1:=ownsRow_grown (ownsRow_ext HOW.out hx13) (grown_set w1 G 0 (.string (str (b::q)))) hGlt
       have o2:=ownsRow_keptR o1 (grown_set _ wr.heap.size 0 (.int .i64 (byI a))) (fun rr hr e=>by have h1:=hfar rr hr;have h2:=Option.some.inj e;omega)
       have o3:=ownsRow_grown o2 (grown_set _ G 0 (.string (str q))) hGlt
       exact ownsRow_keptR o3 (grown_set _ wr.heap.size 1 (.int .i64 (byI b))) (fun rr hr e=>by have h1:=hfar rr hr;have h2:=Option.some.inj e;omega)
      have k0:=cell_of_row w3 wr.heap.size 0 _ _ _ hb3
      have k1:=cell_of_row w3 wr.heap.size 1 _ _ _ hb3
      have HB0:=hid (fun rr hr=>(HOW.out.lt rr hr).1)
      have HO3:=hid (ho3.alloc (.cells #[.int .i64 (byI a),.int .i64 (byI b)] 44))
      have HN:=hid (new2 w3 rfl (.int .i64 (byI a)) (.int .i64 (byI b)) 44)
      have hsw:=hR3.size
      have HSZ:=hid (show w.heap.size≤(w3.alloc (.cells #[.int .i64 (byI a),.int .i64 (byI b)] 44)).heap.size from by rw [World.size_alloc];omega)
      have HR3:=hid hR3
      have HG3:=hid hg3
      have HF3:=hid hf3
      have HPS:=hid (pieceOf_snoc i r a b q hq)
      have HQ2:=hid hq2
      clear hw3 hw3' hb1 hb3 hR3 hg1 hg3 hf3 hfar ho3 hq hq2 hx3 hx13 h2 RD HBX HGW HFW HOW hBG
      go_wp2_with (at_builtin;refine wpList_append_own _ rfl _ _ 26 rfl w.heap.size 44 ir _ 2 16 Tryz.underlying26 ir1 ir2 ir3 ir4 rfl (by decide) u8 i (cells2 Piece.Len Piece.N (pieceOf i r)) rfl HO3.out ⟨w3.heap.size,0,none⟩ 1 1 [.int .i64 (byI a),.int .i64 (byI b)] rfl rfl HN.out (one2 _ _ _ _) (by unfold maxLen;omega) (by omega) HSZ.out ?_;intro v5 W5 hown hgrow hnil)
      have hx4:=(Ext.rf w3).al (.cells #[.int .i64 (byI a),.int .i64 (byI b)] 44)
      have hgl3:G < w3.heap.size:=by omega
      have hkeep:W5.heap[G]?=w3.heap[G]?:=(hgrow.block G (by rw [World.size_alloc];omega) (fun e=>by have:=HB0.out G e.symm;omega)).trans (hx4.block G hgl3)
      go_roundw
      case rel=>exact ⟨i+1,by go_num,by omega,hlen2,hid (grown_own (grown_trans HR3.out (grown_of_ext hx4)) hgrow HB0.out),hid (by rw [HQ2.out,World.cell?_of_block (a:=⟨G,0,none⟩) hkeep];exact HG3.out),hid (by rw [World.frozen?_of_block (a:=⟨G,0,none⟩) hkeep];exact HF3.out),hid (by
       rw [HPS.out,cells2_snoc]
       exact hown)⟩
      case measure=>simp [intOf];omega
     ·rw [if_neg h2] at he
      subst he
      have hR3:w.grownBy w3 (some G):=by
       rw [hw3]
       have hs:=HRW.out.size
       refine grown_into _ _ (grown_trans (grown_trans HRW.out (grown_of_ext ((Ext.rf wr).al (.cells #[.int .i64 0,.int .i64 0] 44)))) (grown_of_ext hx3)) (fun c hc=>?_)
       simp only [List.mem_cons,List.not_mem_nil,or_false] at hc
       rcases hc with rfl | rfl
       ·exact ⟨hs,rfl⟩
       ·exact ⟨hs,rfl⟩
      rw [List.length_drop] at h2
      have HR3:=hid hR3
      clear hR3 hw3 RD HBX HGW HFW HOW
      go_wp2_with fail
      exact ⟨rfl,HR3.out,Or.inr ⟨fun n' r' h=>by obtain ⟨h1,h2⟩:=List.cons.inj h;rw [← h1,← h2,HKN.out];omega,rfl⟩⟩
    ·obtain rfl:i=k:=by omega
     have hno:¬ (i:Int) < (i:Int):=by omega
     clear hlt
     go_wp2_with fail
     go_ret
     refine ⟨HRW.out,Or.inl ⟨n,r,u8,rfl,by rw [HKN.out];omega,by rw [HKN.out];exact hir,rfl,?_,?_,HFW.out⟩⟩
     ·rw [HKN.out];exact HOW.out
     ·rw [HKN.out];exact HGW.out
def runOf:Nat→List UInt8→List Run
 | 0,_=>[]
 | n+1,a::b::t=>⟨byI a,byI b⟩::runOf n t
 | _+1,_=>[]
theorem runOf_len:∀ (n:Nat) (t:List UInt8),2*n≤t.length→(runOf n t).length=n
 | 0,_,_=>rfl
 | n+1,[],h=>by simp at h
 | n+1,[a],h=>by simp at h;omega
 | n+1,a::b::t,h=>by
  simp only [runOf,List.length_cons]
  rw [runOf_len n t (by simp at h;omega)]
theorem runOf_snoc:∀ (n:Nat) (t:List UInt8) (a b:UInt8) (r:List UInt8),t.drop (2*n)=a::b::r→runOf (n+1) t=runOf n t++[⟨byI a,byI b⟩]
 | 0,t,a,b,r,h=>by
  rw [show t=a::b::r from h]
  rfl
 | n+1,[],a,b,r,h=>by simp at h
 | n+1,[c],a,b,r,h=>by
  rw [List.drop_eq_nil_of_le (by simp;omega)] at h
  exact absurd h (by simp)
 | n+1,c::d::t,a,b,r,h=>by
  have h':t.drop (2*n)=a::b::r:=by
   rw [show 2*(n+1)=2*n+1+1 by omega,List.drop_succ_cons,List.drop_succ_cons] at h
   exact h
  show ⟨byI c,byI d⟩::runOf (n+1) t=⟨byI c,byI d⟩::runOf n t++[⟨byI a,byI b⟩]
  rw [runOf_snoc n t a b r h']
  rfl
def runGot (w:World) (G most:Nat) (t:List UInt8) (e:Ending) (w':World):Prop :=
   (
    ∃ (n:UInt8) (r:List UInt8) (v:Value),t=n::r∧n.toNat≤most∧2*n.toNat≤r.length∧e=.returned v∧w'.ownsRow w.heap.size 48 2 v n.toNat (cells2 Run.At Run.N (runOf n.toNat r))∧w'.cell? ⟨G,0,none⟩=some (.string (str (r.drop (2*n.toNat))))∧w'.frozen? ⟨G,0,none⟩=false) ∨
    ((∀ (n:UInt8) (r:List UInt8),t=n::r→¬ (n.toNat≤most∧2*n.toNat≤r.length))∧e=.panicked shortP)
theorem runList_any (w:World) (X G most:Nat) (t:List UInt8) (hX:w.cell? ⟨X,0,none⟩=some (.pointer (some ⟨G,0,none⟩))) (hG:w.cell? ⟨G,0,none⟩=some (.string (str t))) (hGf:w.frozen? ⟨G,0,none⟩=false) (hXG:X≠G) (hmost:most≤48) :
  Calls Tryz.prog 108 #[.pointer (some ⟨G,0,none⟩),.int .i64 (most:Int),.func (.func 109) #[] #[.pointer (some ⟨X,0,none⟩)]] w fun e w'=>w.grownBy w' (some G) ∧
   runGot w G most t e w':=by
 have HX:=hid hX
 have HF:=hid hGf
 have hGlt:G < w.heap.size:=World.block_lt_of_cell? w _ hG
 have hXlt:X < w.heap.size:=World.block_lt_of_cell? w _ hX
 cases t with
 | nil =>
  have NUM:=hid (num_none w G hG)
  clear hX hG hGf
  go_enter Tryz.func108,Tryz.ntmps108
  go_wp2_with fail
  refine NUM.out.mono ?_
  rintro e w2 ⟨rfl,hw2⟩
  obtain rfl:=hw2.symm
  go_wp2_with fail
  exact ⟨rfl,grown_of_ext (Ext.rf _),Or.inr ⟨fun n r h=>(by cases h),rfl⟩⟩
 | cons n r =>
  have NUM:=hid (num_some w G n r hG hGf)
  have hG1:(w.setCell ⟨G,0,none⟩ (.string (str r))).cell? ⟨G,0,none⟩=some (.string (str r)):=World.cell?_setCell_same _ _ _ hG
  have hF1:(w.setCell ⟨G,0,none⟩ (.string (str r))).frozen? ⟨G,0,none⟩=false:=by rw [World.frozen?_setCell];exact hGf
  have HG1:=hid hG1
  have HF1:=hid hF1
  have hby:byI n=((n.toNat:Nat):Int):=rfl
  rw [hby] at NUM
  generalize hk:n.toNat=k at *
  have HKN:=hid hk
  clear hX hG hGf hG1 hF1 hby hk
  go_enter Tryz.func108,Tryz.ntmps108
  go_wp2_with fail
  refine NUM.out.mono ?_
  rintro e w2 ⟨rfl,hw2⟩
  have HR2:=hid (show w.grownBy w2 (some G) from hw2▸grown_set w G 0 _)
  rw [← hw2] at HG1 HF1
  clear hw2 NUM
  by_cases hm:most < k
  ·have hm':(most:Int) < (k:Int):=by omega
   have hmd:=deT hm'
   go_wp2_with fail
   exact ⟨rfl,HR2.out,Or.inr ⟨fun n' r' h=>by obtain ⟨h1,h2⟩:=List.cons.inj h;rw [← h1,← h2,HKN.out];omega,rfl⟩⟩
  ·have hm':¬ (most:Int) < (k:Int):=by omega
   have hmd:=deF hm'
   go_wp2_with fail
   obtain ⟨ir,ir1,ir2,ir3,ir4⟩:=info_parts Tryz.info48
   have hk255:k≤48:=by omega
   go_loopw [8,18] (fun v c wr=>∃ i:Nat,c=.int .i64 i∧i≤k∧2*i≤r.length∧Hid (w.grownBy wr (some G))∧Hid (wr.cell? ⟨G,0,none⟩=some (.string (str (r.drop (2*i)))))∧Hid (wr.frozen? ⟨G,0,none⟩=false)∧Hid (wr.ownsRow w.heap.size 48 2 v i (cells2 Run.At Run.N (runOf i r)))) (fun _ c _=>k - (intOf c).toNat)
   case atStart=>exact ⟨0,rfl,Nat.zero_le _,Nat.zero_le _,HR2,HG1,HF1,hid (World.ownsRow_nil _ _ _ _)⟩
   case round =>
    obtain ⟨i,rfl,hi,hir,HRW,HGW,HFW,HOW⟩:=hrel
    by_cases hlt:i < k
    ·have hlt':(i:Int) < (k:Int):=by omega
     have hGl:G < wr.heap.size:=World.block_lt_of_cell? wr _ HGW.out
     have hx1:=(Ext.rf wr).al (.cells #[.int .i64 0,.int .i64 0] 48)
     have hbx:=heap_alloc_new wr (.cells #[.int .i64 0,.int .i64 0] 48)
     have RD:=hid (read3_any (wr.alloc (.cells #[.int .i64 0,.int .i64 0] 48)) X G wr.heap.size (r.drop (2*i)) (by
      have h1:wr.cell? ⟨X,0,none⟩=w.cell? ⟨X,0,none⟩:=World.cell?_of_block (a:=⟨X,0,none⟩) (HRW.out.block X hXlt (fun e=>hXG (Option.some.inj e)))
      exact ext_ceA hx1 (h1.trans HX.out)) (ext_ceA hx1 HGW.out) (by rw [World.frozen?_of_block (hx1.block G hGl)];exact HFW.out) ⟨_,cell_of_row _ _ 0 _ _ _ hbx⟩ ⟨_,cell_of_row _ _ 1 _ _ _ hbx⟩ (frozen_of_row _ _ 0 _ _ hbx) (frozen_of_row _ _ 1 _ _ hbx) (by omega))
     have HBX:=hid hbx
     clear hx1 hbx
     go_wp2_with fail
     refine RD.out.mono ?_
     rintro e w3 ⟨w1,hx3,he,hw3⟩
     by_cases h2:2≤(r.drop (2*i)).length
     ·rw [if_pos h2] at he
      subst he
      obtain ⟨a,b,q,hq⟩:∃ a b q,r.drop (2*i)=a::b::q:=by
       cases hd:r.drop (2*i) with
       | nil=>rw [hd] at h2;simp at h2
       | cons a l =>
        cases l with
        | nil=>rw [hd] at h2;simp at h2
        | cons b q=>exact ⟨a,b,q,rfl⟩
      have hq2:r.drop (2*(i+1))=q:=by
       have e:r.drop (2*(i+1))=(r.drop (2*i)).drop 2:=by rw [List.drop_drop];rfl
       rw [e,hq];rfl
      have hlen2:2*(i+1)≤r.length:=by
       rw [List.length_drop] at h2;omega
      have hx13:=((Ext.rf wr).al (.cells #[.int .i64 0,.int .i64 0] 48)).tr hx3
      have hw3':w3=(((w1.setCell ⟨G,0,none⟩ (.string (str (b::q)))).setCell ⟨wr.heap.size,0,none⟩ (.int .i64 (byI a))).setCell ⟨G,0,none⟩ (.string (str q))).setCell ⟨wr.heap.size,1,none⟩ (.int .i64 (byI b)):=by rw [hw3,hq];rfl
      have hBG:wr.heap.size≠G:=by omega
      have hb1:w1.heap[wr.heap.size]?=some (.cells #[.int .i64 0,.int .i64 0] 48 (0,0)):=blk_ext HBX.out hx3
      have hb3:w3.heap[wr.heap.size]?=some (.cells #[.int .i64 (byI a),.int .i64 (byI b)] 48 (0,0)):=by
       rw [hw3']
       have e1:=heap_setCell_same (w1.setCell ⟨G,0,none⟩ (.string (str (b::q)))) wr.heap.size 0 _ _ (.int .i64 (byI a)) ((heap_setCell_other w1 ⟨G,0,none⟩ wr.heap.size (.string (str (b::q))) hBG).trans hb1)
       have e2:=(heap_setCell_other ((w1.setCell ⟨G,0,none⟩ (.string (str (b::q)))).setCell ⟨wr.heap.size,0,none⟩ (.int .i64 (byI a))) ⟨G,0,none⟩ wr.heap.size (.string (str q)) hBG).trans e1
       exact heap_setCell_same _ wr.heap.size 1 _ _ (.int .i64 (byI b)) e2
      have hR3:w.grownBy w3 (some G):=by
       rw [hw3']
       have hs:=HRW.out.size
       exact grown_fresh (grown_trans (grown_fresh (grown_trans (grown_trans HRW.out (grown_of_ext hx13)) (grown_set w1 G 0 _)) hs) (grown_set _ G 0 _)) hs
      have hg1:w1.cell? ⟨G,0,none⟩=some (.string (str (r.drop (2*i)))):=ext_ceA hx13 HGW.out
      have hg3:w3.cell? ⟨G,0,none⟩=some (.string (str q)):=by
       rw [hw3',World.cell?_setCell_other _ _ _ _ (fun e=>hBG (congrArg Addr.block e))]
       refine World.cell?_setCell_same _ _ _ (u:=.string (str (b::q))) ?_
       rw [World.cell?_setCell_other _ _ _ _ (fun e=>hBG (congrArg Addr.block e))]
       exact World.cell?_setCell_same _ _ _ hg1
      have hf3:w3.frozen? ⟨G,0,none⟩=false:=by
       rw [hw3',World.frozen?_setCell,World.frozen?_setCell,World.frozen?_setCell,World.frozen?_setCell,World.frozen?_of_block (hx13.block G hGl)]
       exact HFW.out
      have hfar:∀ rr,u8.ownBlock=some rr→rr < wr.heap.size:=fun rr hr=>(HOW.out.lt rr hr).2
      have ho3:w3.ownsRow w.heap.size 48 2 u8 i (cells2 Run.At Run.N (runOf i r)):=by
       rw [hw3']
       have o1:=ownsRow_grown (ownsRow_ext HOW.out hx13) (grown_set w1 G 0 (.string (str (b::q)))) hGlt
       have o2:=ownsRow_keptR o1 (grown_set _ wr.heap.size 0 (.int .i64 (byI a))) (fun rr hr e=>by have h1:=hfar rr hr;have h2:=Option.some.inj e;omega)
       have o3:=ownsRow_grown o2 (grown_set _ G 0 (.string (str q))) hGlt
       exact ownsRow_keptR o3 (grown_set _ wr.heap.size 1 (.int .i64 (byI b))) (fun rr hr e=>by have h1:=hfar rr hr;have h2:=Option.some.inj e;omega)
      have k0:=cell_of_row w3 wr.heap.size 0 _ _ _ hb3
      have k1:=cell_of_row w3 wr.heap.size 1 _ _ _ hb3
      have HB0:=hid (fun rr hr=>(HOW.out.lt rr hr).1)
      have HO3:=hid (ho3.alloc (.cells #[.int .i64 (byI a),.int .i64 (byI b)] 48))
      have HN:=hid (new2 w3 rfl (.int .i64 (byI a)) (.int .i64 (byI b)) 48)
      have hsw:=hR3.size
      have HSZ:=hid (show w.heap.size≤(w3.alloc (.cells #[.int .i64 (byI a),.int .i64 (byI b)] 48)).heap.size from by rw [World.size_alloc];omega)
      have HR3:=hid hR3
      have HG3:=hid hg3
      have HF3:=hid hf3
      have HPS:=hid (runOf_snoc i r a b q hq)
      have HQ2:=hid hq2
      clear hw3 hw3' hb1 hb3 hR3 hg1 hg3 hf3 hfar ho3 hq hq2 hx3 hx13 h2 RD HBX HGW HFW HOW hBG
      go_wp2_with (at_builtin;refine wpList_append_own _ rfl _ _ 29 rfl w.heap.size 48 ir _ 2 16 Tryz.underlying29 ir1 ir2 ir3 ir4 rfl (by decide) u8 i (cells2 Run.At Run.N (runOf i r)) rfl HO3.out ⟨w3.heap.size,0,none⟩ 1 1 [.int .i64 (byI a),.int .i64 (byI b)] rfl rfl HN.out (one2 _ _ _ _) (by unfold maxLen;omega) (by omega) HSZ.out ?_;intro v5 W5 hown hgrow hnil)
      have hx4:=(Ext.rf w3).al (.cells #[.int .i64 (byI a),.int .i64 (byI b)] 48)
      have hgl3:G < w3.heap.size:=by omega
      have hkeep:W5.heap[G]?=w3.heap[G]?:=(hgrow.block G (by rw [World.size_alloc];omega) (fun e=>by have:=HB0.out G e.symm;omega)).trans (hx4.block G hgl3)
      go_roundw
      case rel=>exact ⟨i+1,by go_num,by omega,hlen2,hid (grown_own (grown_trans HR3.out (grown_of_ext hx4)) hgrow HB0.out),hid (by rw [HQ2.out,World.cell?_of_block (a:=⟨G,0,none⟩) hkeep];exact HG3.out),hid (by rw [World.frozen?_of_block (a:=⟨G,0,none⟩) hkeep];exact HF3.out),hid (by
       rw [HPS.out,cells2_snoc]
       exact hown)⟩
      case measure=>simp [intOf];omega
     ·rw [if_neg h2] at he
      subst he
      have hR3:w.grownBy w3 (some G):=by
       rw [hw3]
       have hs:=HRW.out.size
       refine grown_into _ _ (grown_trans (grown_trans HRW.out (grown_of_ext ((Ext.rf wr).al (.cells #[.int .i64 0,.int .i64 0] 48)))) (grown_of_ext hx3)) (fun c hc=>?_)
       simp only [List.mem_cons,List.not_mem_nil,or_false] at hc
       rcases hc with rfl | rfl
       ·exact ⟨hs,rfl⟩
       ·exact ⟨hs,rfl⟩
      rw [List.length_drop] at h2
      have HR3:=hid hR3
      clear hR3 hw3 RD HBX HGW HFW HOW
      go_wp2_with fail
      exact ⟨rfl,HR3.out,Or.inr ⟨fun n' r' h=>by obtain ⟨h1,h2⟩:=List.cons.inj h;rw [← h1,← h2,HKN.out];omega,rfl⟩⟩
    ·obtain rfl:i=k:=by omega
     have hno:¬ (i:Int) < (i:Int):=by omega
     clear hlt
     go_wp2_with fail
     go_ret
     refine ⟨HRW.out,Or.inl ⟨n,r,u8,rfl,by rw [HKN.out];omega,by rw [HKN.out];exact hir,rfl,?_,?_,HFW.out⟩⟩
     ·rw [HKN.out];exact HOW.out
     ·rw [HKN.out];exact HGW.out
end Go.Proofs.YtdcndkojmflhnaaGreat
