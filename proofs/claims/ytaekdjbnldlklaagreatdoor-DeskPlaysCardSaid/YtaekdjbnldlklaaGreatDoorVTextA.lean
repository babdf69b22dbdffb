/- Texts, builders, lines and words: contracts of their functions; each theorem names its own conditions. -/
import Derived.Test.YtaekdjbnldlklaaGreatDoorVCore
import Derived.Lib.AtoiAll
import Derived.Lib.ItoaNum
import Derived.Lib.SpaceU
import Derived.Lib.Fields
import Derived.Lib.Space
import Derived.Lib.IndexMore
import Derived.Lib.Strings
import Derived.Laws.BytesArg
import Derived.Lib.CutLaws
import Derived.Lib.Split
import Derived.Lib.Join
import Derived.Lib.AtoiTie
import Derived.Lib.CountLaws
import Derived.Lib.IndexBytes
import Derived.Lib.ItoaLen
import Derived.Deep.AppendLies
import Derived.Maps.Own
import Derived.Test.YtaekdjbnldlklaaGreatDoorVTextS
import Derived.Lib.FrozenHead2
import Derived.Lib.OthersKept
import Derived.Lib.Builder
import Derived.Lib.AtoiAllCases
import Derived.RecoverIn
import Derived.Lib.AppendIntMem
import Derived.Test.YtaekdjbnldlklaaGreatDoorRows
import Derived.ProofKit
import Derived.OpenShut
import Derived.ShutString
import Derived.ChangeOld
import Derived.Below
import Derived.SizedLaws
import Derived.Deep.Slices
import Derived.ChangeSame
import Derived.Deep.Strs
import Derived.ChangeArms
import Derived.LaidMore
import Derived.LaidHandle
import Derived.Stop.LaidErr
import Derived.Stop.Joined
import Derived.Lib.LaidU8
import Derived.Lib.LaidTab
import Derived.Shelf.Vars
import Derived.HandedShaped
set_option maxRecDepth 100000
set_option maxHeartbeats 4000000
set_option linter.unusedVariables false
set_option linter.unusedSimpArgs false
namespace Go.Proofs.YtaekdjbnldlklaaGreatDoor
open _root_.Go.Proofs.Tryz
open Go.RowKit
open List renaming getElem_toArray->zA,getElem_cons_zero->zB,getElem_cons_succ->zC
open _root_.Option renaming some->M,none->J,map_some->aIE,toList_some->aIK,map_eq_some_iff->aIL,bind_some->aIN
open _root_.List renaming isPrefixOf->aIB,mem_cons_self->aHv,mem_cons_of_mem->aGc,mem_iff_getElem->aGo,getD_eq_getElem?_getD->aGW,getElem?_eq_getElem->aGm,mem_append->aGe,mem_cons->aH1,mem_map->aHd,not_mem_nil->aHa,take_of_length_le->aHF,drop_eq_nil_of_le->aIz,getElem?_take->aGA,findIdx?_eq_some_iff_getElem->aGS,toArray->aIC,drop_eq_getElem_cons->aIF,map_cons->aHs,flatten_cons->aHH,append_assoc->aIf,append_nil->aG9,length_cons->aGt,length_nil->aGu,nil_append->aH9,getElem?_eq_some_iff->aGw,mem_singleton->aHf,cons_append->aGd,map_map->aIH,take_length->aII,take_add_one->aHZ,flatten_append->aHS,take_append_drop->aIJ,mem_of_mem_take->aHA,length_append->aGb,mem_of_getElem?->aGC,getElem?_append_left->aHI,getElem?_append_right->aHJ,mem_iff_getElem?->aHK,eq_nil_of_length_eq_zero->aGv,length_pos_iff->aHX,getElem?_map->aHt,length_take->aHB,take_succ_cons->aHi,take_zero->aHj,drop_succ_cons->aHk,drop_zero->aHl,length_drop->aI4,size_toArray->aH2,push_toArray->aH7,append_toArray->aH8,length_map->aHC
open _root_.Nat renaming le_of_lt->aID,zero_le->aGI,le_refl->aGi,strongRecOn->aIG,lt_of_lt_of_le->aGs,zero_add->aGx,lt_or_ge->aGD,le_trans->aGR,mul_one->aGP,reduceAdd->aH3,reduceSub->aH4
open Go.Value renaming slice->O,int->Y,oneCell'->aGr,ownBlock->aHR,string->aIA
open Go.IntKind renaming i64->Z
open _root_.Int renaming toNat_natCast->aGK
open Go.World renaming cell?_of_block->aHm,ownsRow_nil->aGQ,size_alloc->aHb,alloc_heap_new->aGY,putObj_heap_same->aGZ,putObj_heap_other->aH0,var?->aIM,setCell->aHP,cell?_setCell_other->aIO,frozen?_setCell->aIP,var?_cell->aIQ
open _root_.Array renaming getElem?_eq_some_iff->aGq,replicate_succ->aH5,replicate_zero->aH6
open Go.Obj renaming cells→zt
open Go.Value renaming string→b9,tuple→zw,bool→zx,func→zy,pointer→zz
open Go.Ending renaming returned→zv,panicked→zu
open Go renaming Boxed→s9,Calls→y8,Ending→r8,KeepsFrom→o6,PanicEntry→m8,Program→o9,TypeId→o8,Value→y5,World→y4,bodyPost_ret→v6,cell_of_row→y6,frozen_of_row→x4,heap_alloc_new→y7,heap_setCell_other→x7,heap_setCell_same→x6,info_parts→s8,maxLen→o0,results_cell_row→j6,run_takeDeferred→m7,setRow_heap→x5,undef→u5,wpList_append_own→r6,wpList_store_row→y9,wpQuiet_nil→i8,wp_append_own→e7
abbrev By:=List UInt8
def bs (s:ByteArray):By:=s.data.toList
theorem iL (s:ByteArray):(bs s).length=s.size:=by unfold bs;rw[Array.length_toList];rfl
def dig (n:Nat):By:=if n<10 then[UInt8.ofNat (48+n)] else[UInt8.ofNat (48+n / 10),UInt8.ofNat (48+n % 10)]
theorem aFa {n:Nat} (b:n<100):Lib.decDigits n=dig n:=by
 unfold dig;by_cases a:n<10
 ·rw[c7 a,Lib.decDigits,dif_pos a]
 rw[d8 a,Lib.decDigits,dif_neg a,Lib.decDigits,dif_pos (by omega)];rfl
theorem Zi:∀ n:Nat,n<100->Lib.atoiAll (dig n)=.ok (n:Int):=by decide
def iH (s:By):Int:=if 1<=s.length/\s.length<=6 then s.foldl (λn a=>10*n+(a.toNat:Int)-48) 0 else 0
theorem Zh:∀ n:Nat,n<100->iH (dig n)=(n:Int):=by decide
theorem uN:∀ n:Nat,n<100->∀ a∈dig n,48<=a.toNat/\a.toNat<=57:=by decide
theorem nX:∀ n:Nat,n<100->1<=(dig n).length/\(dig n).length<=2:=by decide
def mB (x:Run):By:=dig x.At.toNat++61::dig x.N.toNat
def jG (f:List Run):By:=(f.map λa=>32::mB a).flatten
def fG (l:List Queue) (q:Queue):By:=bs q.Q++(if 0<=q.R then[32,60,32]++bs (nm l q.R.toNat) else[])
def nI (l:List Queue) (q:Queue):By:=fG l q++58::jG q.Cap
def gZ (l:List Queue):By:=(l.map λa=>nI l a++[10]).flatten
def cT (l:List Queue) (s:By):Int:=match l.findIdx? (λa=>bs a.Q == s) with|some i=>i|none=>-1
def kG:List By->Option (List Run)
 | []=>M []
 | w::ws=>if(Lib.cut w [61]).2.2 then
   match Lib.atoiAll (Lib.cut w [61]).1,Lib.atoiAll (Lib.cut w [61]).2.1 with
   | .ok a,.ok n=>(kG ws).map (λb=>⟨a,n⟩::b)
   | _,_=>J
  else J
def kX (l:List Queue) (s:By):Option Queue:=
 let b:=Lib.cut s [58]
 if b.2.2 then
  let a:=Lib.cut b.1 [32,60,32]
  let c:=if a.2.2 then cT l a.2.1 else -1
  if a.2.2/\c<0 then J
  else(kG (Lib.fieldsD b.2.1)).map λd=>⟨⟨a.1.toArray⟩,c,d⟩
 else J
def sL (s:By):By:=if 0<=Lib.indexByte s 10 then s.take ((Lib.indexByte s 10).toNat+1) else s
def qI (s:By):By:=if 0<=Lib.indexByte s 10 then s.drop ((Lib.indexByte s 10).toNat+1) else[]
def wX:Nat->List Queue->By->Option (List Queue)
 | 0,l,_=>M l
 | f+1,l,s=>if s=[] then M l else
   match kX l (Lib.trimSuffix (sL s) [10]) with
   | none=>J
   | some a=>wX f (l++[a]) (qI s)
def Iq (s:By):Option (List Queue):=wX s.length [] s
theorem Nj {c:UInt8} {t:By} (s:By):∀ (p:By),c∉p->Lib.index (p++((c::t)++s)) (c::t)=p.length
 | [],_=>by
  show Lib.index (c::(t++s)) (c::t)=0;unfold Lib.index;rw[c7 (by simp[aIB])]
 | b::p,h=>by
  have d:c≠b:=λa=>h (by rw[a];exact aHv ..);have e:=Nj (c:=c) (t:=t) s p (λa=>h (aGc _ a));show Lib.index (b::(p++((c::t)++s))) (c::t)=_;unfold Lib.index;rw[d8 (by simp[aIB,d]),e,d8 (by simp <;> omega)];simp
theorem Nk {c:UInt8} {t:By}:∀ (p:By),c∉p->Lib.index p (c::t)=-1
 | [],_=>by simp[Lib.index]
 | b::p,h=>by
  have d:c≠b:=λa=>h (by rw[a];exact aHv ..);have e:=Nk (c:=c) (t:=t) p (λa=>h (aGc _ a));unfold Lib.index;rw[d8 (by simp[aIB,d]),e];simp
theorem vT {c:UInt8} {t:By} (p s:By) (a:c∉p):Lib.cut (p++((c::t)++s)) (c::t)=(p,s,true):=by
 unfold Lib.cut;rw[Nj s p a,c7 (by omega)];simp
theorem Od {c:UInt8} {t:By} (p:By) (a:c∉p):Lib.cut p (c::t)=(p,[],false):=by
 unfold Lib.cut;rw[Nk p a,d8 (by omega)]
theorem xQ {c:UInt8} (s:By):∀ (p:By),c∉p->Lib.indexByte (p++c::s) c=p.length
 | [],_=>by show Lib.indexByte (c::s) c=0;unfold Lib.indexByte;rw[c7 (by simp)]
 | b::p,h=>by
  have d:b≠c:=λa=>h (by rw[a];exact aHv ..);have e:=xQ (c:=c) s p (λa=>h (aGc _ a));show Lib.indexByte (b::(p++c::s)) c=_;unfold Lib.indexByte;rw[d8 (by simpa using d),e,d8 (by simp <;> omega)];simp
theorem vO {s:ByteArray} (d:kC s):∀ a∈bs s,97<=a.toNat/\a.toNat<=122:=by
 intro a e;obtain⟨b,f,rfl⟩:=aGo.1 e;have c:b<s.size:=by rw[<- iL];exact f
 have:=d.2 b c;rw[fM s b c] at this;exact this
theorem Yc {s:ByteArray} (a:kC s):1<=(bs s).length/\(bs s).length<=8:=by
 have:=a.1;have b:=iL s;omega
theorem pF {f:List Run} (i:eB f):∀ b∈f,(0<=b.At/\b.At<48)/\0<=b.N/\b.N<=50:=by
 intro b k;refine⟨?_,i.2 b k⟩;obtain⟨n,o,j⟩:=lQ.1 i.1;obtain⟨e,d,rfl⟩:=aGo.1 k;have l:∀ a,(c:a<f.length)->bG f a=f[a].At:=λa c=>by unfold bG;rw[aGW,aGm c];rfl
 have m:∀ a,a<f.length->0<=bG f a:=by
  intro a
  induction a with
  | zero=>intro _;omega
  | succ a g=>intro c;have:=((j (a+1) c).2.2 (by omega)).1;have:=g (by omega);simp at *;omega
 have g:=m e d;have h:=(j e d).1;rw[l e d] at g h;exact⟨g,h⟩
theorem Rd {x:Run} (c:(0<=x.At/\x.At<48)/\0<=x.N/\x.N<=50):∀ b∈mB x,48<=b.toNat/\b.toNat<=61:=by
 intro b a;unfold mB at a;rcases aGe.1 a with a|a
 ·have:=uN x.At.toNat (by omega) b a;omega
 rcases aH1.1 a with rfl|a
 ·decide
 have:=uN x.N.toNat (by omega) b a;omega
theorem Ta {f:List Run} (d:eB f):∀ b∈jG f,b.toNat=32\/(48<=b.toNat/\b.toNat<=61/\b.toNat≠58):=by
 intro b a;unfold jG at a;obtain⟨l,e,a⟩:=List.mem_flatten.1 a;obtain⟨c,g,rfl⟩:=aHd.1 e;have h:=pF d c g;rcases aH1.1 a with rfl|a
 ·left;rfl
 right;unfold mB at a;rcases aGe.1 a with a|a
 ·have:=uN c.At.toNat (by omega) b a;omega
 rcases aH1.1 a with rfl|a
 ·decide
 have:=uN c.N.toNat (by omega) b a;omega
theorem Bh {l:List Queue} (d:cQ l) {k:Nat} (c:k<l.length):∀ b∈fG l l[k],b.toNat=32\/b.toNat=60\/(97<=b.toNat/\b.toNat<=122):=by
 have h:nm l k=l[k].Q:=by unfold nm;rw[aGW,aGm c];rfl
 have i:par l k=l[k].R:=by unfold par;rw[aGW,aGm c];rfl
 have f:=vO (d.names k c);have g:=d.pars k c;rw[h] at f;rw[i] at g;intro b a;unfold fG at a;rcases aGe.1 a with a|a
 ·exact .inr (.inr (f b a))
 by_cases e:0<=l[k].R
 ·rw[c7 e] at a;rcases aGe.1 a with a|a
  ·simp only[aH1,aHa,or_false] at a;rcases a with rfl|rfl|rfl <;> simp
  have:=g.2;exact .inr (.inr (vO (d.names l[k].R.toNat (by omega)) b a))
 rw[d8 e] at a;cases a
theorem Rx {l:List Queue} (c:cQ l) {k:Nat} (b:k<l.length):(10:UInt8)∉nI l l[k]:=by
 intro a;have d:cp l k=l[k].Cap:=by unfold cp;rw[aGW,aGm b];rfl
 unfold nI at a;rcases aGe.1 a with a|a
 ·have:=Bh c b _ a;simp at this
 rcases aH1.1 a with a|a
 ·cases a
 have:=Ta (by have:=c.caps k b;rwa [d] at this) _ a;simp at this
theorem aCf (x:By):Lib.trimSuffix (x++[10]) [10]=x:=by
 unfold Lib.trimSuffix Lib.hasSuffix;rw[c7 (by simp)];simp
theorem aD3 (x s:By) (a:(10:UInt8)∉x):sL (x++10::s)=x++[10]/\qI (x++10::s)=s:=by
 unfold sL qI;rw[xQ s x a,c7 (by omega),c7 (by omega)];refine⟨?_,?_⟩
 ·rw[List.take_append,aHF (by omega)];simp
 rw[List.drop_append,aIz (by omega)];simp
theorem aFF {b:UInt8} (c:48<=b.toNat/\b.toNat<=61):Lib.isSp b=false:=by
 unfold Lib.isSp;have a:∀ n:UInt8,n.toNat<48->b≠n:=λn d a=>by rw[a] at c;omega
 simp[a 9 (by decide),a 10 (by decide),a 11 (by decide),a 12 (by decide),a 13 (by decide),a 32 (by decide)]
theorem Jk:∀ (w cur s:By),(∀ b∈w,Lib.isSp b=false)->Lib.fieldsGo cur (w++s)=Lib.fieldsGo (cur++w) s
 | [],cur,s,_=>by simp
 | b::w,cur,s,h=>by
  show Lib.fieldsGo cur (b::(w++s))=_;rw[Lib.fieldsGo,d8 (by simp[h b (aHv ..)]),Jk w (cur++[b]) s (λa c=>h a (aGc _ c))];simp
theorem aEY (x:Run):mB x≠[]:=by unfold mB;simp
theorem Oa:∀ (f:List Run),(∀ a∈f,(0<=a.At/\a.At<48)/\0<=a.N/\a.N<=50)->∀ b:By,
  Lib.fieldsGo b (jG f)=(if b=[] then[] else[b])++f.map mB
 | [],_,b=>by
  show Lib.fieldsGo b []=_;cases b <;> simp[Lib.fieldsGo]
 | a::f,h,b=>by
  have j:=h a (aHv ..);have c:=Oa f (λl k=>h l (aGc _ k)) (mB a);rw[d8 (aEY a)] at c;have e:jG (a::f)=32::(mB a++jG f):=by simp[jG]
  rw[e,Lib.fieldsGo,c7 (by decide)];have g:Lib.fieldsGo [] (mB a++jG f)=mB a::f.map mB:=by
   rw[Jk _ _ _ (λd i=>aFF (Rd j d i))];simpa using c
  cases b <;> simp[g]
theorem Lz {x:Run} (b:(0<=x.At/\x.At<48)/\0<=x.N/\x.N<=50):Lib.cut (mB x) [61]=(dig x.At.toNat,dig x.N.toNat,true):=by
 have:=vT (c:=61) (t:=[]) (dig x.At.toNat) (dig x.N.toNat) (λa=>by have:=uN x.At.toNat (by omega) _ a;simp at this);exact this
theorem Rb:∀ (f:List Run),(∀ a∈f,(0<=a.At/\a.At<48)/\0<=a.N/\a.N<=50)->kG (f.map mB)=M f
 | [],_=>rfl
 | a::f,h=>by
  have g:=h a (aHv ..);have j:=Rb f (λk i=>h k (aGc _ i));show kG (mB a::f.map mB)=_;have d:=Zi a.At.toNat (by omega);have e:=Zi a.N.toNat (by omega);rw[kG,Lz g,c7 rfl];simp only[d,e,j];have b:((a.At.toNat:Nat):Int)=a.At:=by omega
  have c:((a.N.toNat:Nat):Int)=a.N:=by omega
  rw[b,c];rfl
theorem aEj {l:List Queue} (f:cQ l) {k p:Nat} (i:k<=l.length) (j:p<k):cT (l.take k) (bs (nm l p))=p:=by
 have g:∀ a,a<k->(l.take k)[a]?=M (l.getD a default):=λa b=>by
  rw[aGA,c7 b,aGW,aGm (by omega)];rfl
 have c:(l.take k).findIdx? (λh=>bs h.Q == bs (nm l p))=M p:=by
  rw[aGS];have hlen:(l.take k).length=k:=by simp;omega
  have d:∀ a,(b:a<(l.take k).length)->(l.take k)[a].Q=nm l a:=λa b=>by
   have:=g a (by omega);rw[aGm b] at this;injection this with this
   rw[this];rfl
  refine⟨by omega,by rw[d p (by omega)];simp,λa b=>?_⟩;rw[d a (by omega)];simp only[beq_iff_eq,bs];intro c;refine f.diff a p b (by omega) ?_;have e:(nm l a).data=(nm l p).data:=by
   have:=congrArg aIC c;simpa using this
  exact ByteArray.ext e
 unfold cT;rw[c]
theorem Om (s:ByteArray):(⟨(bs s).toArray⟩:ByteArray)=s:=by cases s;simp[bs]
theorem aCT (v:∀ l:By,(∀ f∈l,f.toNat<128)->Lib.fieldsD l=Lib.fields l) {l:List Queue} (b:cQ l) {k:Nat} (a:k<l.length):kX (l.take k) (nI l l[k])=M l[k]:=by
 have x:nm l k=l[k].Q:=by unfold nm;rw[aGW,aGm a];rfl
 have y:par l k=l[k].R:=by unfold par;rw[aGW,aGm a];rfl
 have w:cp l k=l[k].Cap:=by unfold cp;rw[aGW,aGm a];rfl
 have h:eB l[k].Cap:=by have:=b.caps k a;rwa [w] at this
 have o:=vO (b.names k a);rw[x] at o;have j:=b.pars k a;rw[y] at j;have n:(32:UInt8)∉bs l[k].Q:=λd=>by have:=o _ d;simp at this
 have q:Lib.cut (nI l l[k]) [58]=(fG l l[k],jG l[k].Cap,true):=by
  have:=vT (c:=58) (t:=[]) (fG l l[k]) (jG l[k].Cap) (λd=>by have:=Bh b a _ d;simp at this);exact this
 have r:Lib.fieldsD (jG l[k].Cap)=l[k].Cap.map mB:=by
  rw[v _ (λf d=>by have:=Ta h f d;omega)];have:=Oa l[k].Cap (pF h) [];simpa[Lib.fields] using this
 have s:=Rb l[k].Cap (pF h);unfold kX;simp only[q,r,s,if_true];by_cases m:0<=l[k].R
 ·have i:fG l l[k]=bs l[k].Q++([32,60,32]++bs (nm l l[k].R.toNat)):=by unfold fG;rw[c7 m]
  have g:Lib.cut (fG l l[k]) [32,60,32]=(bs l[k].Q,bs (nm l l[k].R.toNat),true):=by
   rw[i];exact vT (c:=32) (t:=[60,32]) _ _ n
  have u:=aEj b (aID a) (p:=l[k].R.toNat) (by have:=j.2;omega);simp only[g,u,if_true];rw[d8 (by omega)];simp only[aIE,Om,Option.some.injEq];have e:((l[k].R.toNat:Nat):Int)=l[k].R:=by omega
  rw[e]
 have i:fG l l[k]=bs l[k].Q:=by unfold fG;rw[d8 m];simp
 have g:Lib.cut (fG l l[k]) [32,60,32]=(bs l[k].Q,[],false):=by rw[i];exact Od (c:=32) (t:=[60,32]) _ n
 simp only[g];rw[d8 (by simp)];simp only[aIE,Om,Option.some.injEq];have e:l[k].R=-1:=by have:=j.1;omega
 have:l[k]=⟨l[k].Q,l[k].R,l[k].Cap⟩:=rfl;rw[this,e];simp
def nQ (l:List Queue) (k:Nat):By:=((l.drop k).map λa=>nI l a++[10]).flatten
theorem rG {l:List Queue} {k:Nat} (a:k<l.length):nQ l k=nI l l[k]++10::nQ l (k+1):=by
 unfold nQ;rw[aIF a,aHs,aHH,aIf];rfl
theorem Fz {l:List Queue} {k:Nat} (a:l.length<=k):nQ l k=[]:=by
 unfold nQ;rw[aIz a];rfl
theorem Au (l:List Queue):nQ l 0=gZ l:=rfl
theorem Rk (d:∀ l:By,(∀ a∈l,a.toNat<128)->Lib.fieldsD l=Lib.fields l) {l:List Queue} (c:cQ l):∀ (f k:Nat),k<=l.length->(nQ l k).length<=f->wX f (l.take k) (nQ l k)=M l
 | 0,k,i,b=>by
  by_cases a:k<l.length
  ·rw[rG a] at b;simp at b
  show M (l.take k)=_;rw[aHF (by omega)]
 | f+1,k,i,b=>by
  by_cases a:k<l.length
  ·have j:=rG a;rw[j] at b ⊢;obtain⟨e,g⟩:=aD3 (nI l l[k]) (nQ l (k+1)) (Rx c a);rw[wX,d8 (by simp),e,g,aCf,aCT d c a];have m:=Rk d c f (k+1) a (by simp at b;omega);have h:l.take k++[l[k]]=l.take (k+1):=by simp
   show wX f (l.take k++[l[k]]) _=_;rw[h];exact m
  rw[Fz (by omega),wX,c7 rfl,aHF (by omega)]
theorem Me (b:∀ l:By,(∀ a∈l,a.toNat<128)->Lib.fieldsD l=Lib.fields l) {l:List Queue} (a:cQ l):Iq (gZ l)=M l:=by
 have:=Rk b a (nQ l 0).length 0 (aGI _) (aGi _);rw[Au] at this;exact this
def iK:Nat->Bool->By->List Run
 | 0,_,_=>[]
 | f+1,more,s=>if more then
   ⟨iH (Lib.cut (Lib.cut s [32]).1 [61]).1,iH (Lib.cut (Lib.cut s [32]).1 [61]).2.1⟩::iK f (Lib.cut s [32]).2.2 (Lib.cut s [32]).2.1
  else[]
def uA (l:List Queue) (s:By):Nat->Int
 | 0=>-1
 | k+1=>if bs (nm l k)=s then(k:Int) else uA l s k
def uK (l:List Queue) (s:By):Queue:=
 ⟨⟨(Lib.cut (Lib.cut s [58,32]).1 [32,60,32]).1.toArray⟩,
  if(Lib.cut (Lib.cut s [58,32]).1 [32,60,32]).2.2 then uA l (Lib.cut (Lib.cut s [58,32]).1 [32,60,32]).2.1 l.length else -1,
  iK ((Lib.cut s [58,32]).2.1.length+1) (Lib.cut s [58,32]).2.2 (Lib.cut s [58,32]).2.1⟩
def nB:Nat->List Queue->By->List Queue
 | 0,l,_=>l
 | f+1,l,s=>if s=[] then l else nB f (l++[uK l (Lib.cut s [10]).1]) (Lib.cut s [10]).2.1
def Ea (s:By):List Queue:=nB s.length [] s
theorem Xo {x:Run} (a:(0<=x.At/\x.At<48)/\0<=x.N/\x.N<=50):(32:UInt8)∉mB x:=λb=>by
 have:=Rd a _ b;simp at this
theorem In:∀ (f:List Run) (n:Nat) (x:Run),(∀ a∈x::f,(0<=a.At/\a.At<48)/\0<=a.N/\a.N<=50)->f.length<n->iK n true (mB x++jG f)=x::f
 | f,0,x,_,i=>by omega
 | f,n+1,x,h,i=>by
  have b:=h x (aHv ..);have e:=Zh x.At.toNat (by omega);have g:=Zh x.N.toNat (by omega);have j:((x.At.toNat:Nat):Int)=x.At:=by omega
  have k:((x.N.toNat:Nat):Int)=x.N:=by omega
  rw[j] at e;rw[k] at g;cases f with
  | nil=>
   have d:jG []=[]:=rfl;rw[d,aG9,iK,c7 rfl,Od (c:=32) (t:=[]) _ (Xo b)];simp only[Lz b,e,g];cases n <;> simp[iK]
  | cons a f=>
   have o:=In f n a (λp m=>h p (aGc _ m)) (by simp at i;omega);have d:jG (a::f)=[32]++(mB a++jG f):=by simp[jG]
   have l:=vT (c:=32) (t:=[]) (mB x) (mB a++jG f) (Xo b);rw[d,iK,c7 rfl,l];simp only[Lz b,e,g,o]
theorem Se {l:List Queue} (b:cQ l) {k p:Nat} (h:k<=l.length) (i:p<k):∀ a,p<a->a<=k->uA (l.take k) (bs (nm l p)) a=p
 | 0,g,_=>by omega
 | a+1,g,hjk=>by
  have f:nm (l.take k) a=nm l a:=by
   unfold nm;rw[aGW,aGW,aGA,c7 (by omega)]
  rw[uA,f];by_cases c:p=a
  ·subst c;rw[c7 rfl]
  rw[d8]
  ·exact Se b h i a (by omega) (by omega)
  intro d;refine b.diff p a (by omega) (by omega) ?_;have e:(nm l p).data=(nm l a).data:=by have:=congrArg aIC d;simpa[bs] using this.symm
  exact ByteArray.ext e
theorem aFV {f:List Run} (b:eB f):f≠[]:=by
 have:=(lQ.1 b.1).1;intro a;subst a;simp at this
theorem aEq (f:List Run):f.length<=(jG f).length:=by
 induction f with
 | nil=>simp
 | cons a f c=>
  have b:jG (a::f)=32::(mB a++jG f):=by simp[jG]
  rw[b];simp;omega
theorem Pw {l:List Queue} (e:cQ l) {k:Nat} (d:k<l.length):uK (l.take k) (nI l l[k])=l[k]:=by
 have y:nm l k=l[k].Q:=by unfold nm;rw[aGW,aGm d];rfl
 have z:par l k=l[k].R:=by unfold par;rw[aGW,aGm d];rfl
 have x:cp l k=l[k].Cap:=by unfold cp;rw[aGW,aGm d];rfl
 have q:eB l[k].Cap:=by have:=e.caps k d;rwa [x] at this
 have r:=vO (e.names k d);rw[y] at r;have f:=e.pars k d;rw[z] at f;have o:(32:UInt8)∉bs l[k].Q:=λi=>by have:=r _ i;simp at this
 obtain⟨b,a,m⟩:∃ b a,l[k].Cap=b::a:=by
  cases g:l[k].Cap with
  | nil=>exact absurd g (aFV q)
  | cons b a=>exact⟨b,a,rfl⟩
 have s:Lib.cut (nI l l[k]) [58,32]=(fG l l[k],mB b++jG a,true):=by
  have:=vT (c:=58) (t:=[32]) (fG l l[k]) (mB b++jG a) (λi=>by have:=Bh e d _ i;simp at this);have g:nI l l[k]=fG l l[k]++([58,32]++(mB b++jG a)):=by unfold nI;rw[m];simp[jG]
  rw[g];exact this
 have u:iK ((mB b++jG a).length+1) true (mB b++jG a)=l[k].Cap:=by
  rw[m];refine In a _ b (λh g=>pF q h (by rw[m];exact g)) ?_;have:=aEq a;simp;omega
 unfold uK;simp only[s,u];by_cases n:0<=l[k].R
 ·have j:fG l l[k]=bs l[k].Q++([32,60,32]++bs (nm l l[k].R.toNat)):=by unfold fG;rw[c7 n]
  have h:Lib.cut (fG l l[k]) [32,60,32]=(bs l[k].Q,bs (nm l l[k].R.toNat),true):=by
   rw[j];exact vT (c:=32) (t:=[60,32]) _ _ o
  have v:=Se e (aID d) (p:=l[k].R.toNat) (by have:=f.2;omega) k (by have:=f.2;omega) (aGi _);have w:(l.take k).length=k:=by simp;omega
  simp only[h,w,v,if_true,Om];have g:((l[k].R.toNat:Nat):Int)=l[k].R:=by omega
  rw[g]
 have j:fG l l[k]=bs l[k].Q:=by unfold fG;rw[d8 n];simp
 have h:Lib.cut (fG l l[k]) [32,60,32]=(bs l[k].Q,[],false):=by rw[j];exact Od (c:=32) (t:=[60,32]) _ o
 simp only[h,Om];have g:l[k].R=-1:=by have:=f.1;omega
 have:l[k]=⟨l[k].Q,l[k].R,l[k].Cap⟩:=rfl;rw[this,g];simp
theorem Sm {l:List Queue} (d:cQ l):∀ (f k:Nat),k<=l.length->(nQ l k).length<=f->nB f (l.take k) (nQ l k)=l
 | 0,k,i,b=>by
  by_cases a:k<l.length
  ·rw[rG a] at b;simp at b
  show l.take k=_;rw[aHF (by omega)]
 | f+1,k,i,b=>by
  by_cases a:k<l.length
  ·have j:=rG a;rw[j] at b ⊢;have e:=vT (c:=10) (t:=[]) (nI l l[k]) (nQ l (k+1)) (Rx d a);have g:Lib.cut (nI l l[k]++10::nQ l (k+1)) [10]=(nI l l[k],nQ l (k+1),true):=e;rw[nB,d8 (by simp),g];have m:=Sm d f (k+1) a (by simp at b;omega);have h:l.take k++[l[k]]=l.take (k+1):=by simp
   show nB f (l.take k++[uK (l.take k) (nI l l[k])]) _=_;rw[Pw d a,h];exact m
  rw[Fz (by omega),nB,c7 rfl,aHF (by omega)]
theorem aAS {l:List Queue} (a:cQ l):Ea (gZ l)=l:=by
 have:=Sm a (nQ l 0).length 0 (aGI _) (aGi _);rw[Au] at this;exact this
@[irreducible] def rE (l:List Queue):By × Int:=if aT l=0 then(gZ l,0) else([],aT l)
@[irreducible] def eK (s:By):List Queue × Int:=if 4096<s.length then([],2) else
 match Iq s with
 | some l=>if aT l=0/\gZ l=s then(l,0) else([],1)
 | none=>([],1)
@[irreducible] def nL (s:By):List Queue × Bool:=if aT (Ea s)=0/\gZ (Ea s)=s then(Ea s,true) else([],false)
theorem aCB (d:∀ l:By,(∀ a∈l,a.toNat<128)->Lib.fieldsD l=Lib.fields l) {s:By} (f:s.length<=4096):(eK s).1=(nL s).1/\(eK s).2=if(nL s).2 then 0 else 1:=by
 unfold eK nL;rw[d8 (by omega)];by_cases a:aT (Ea s)=0/\gZ (Ea s)=s
 ·have c:Iq s=M (Ea s):=by
   have:=Me d (gG a.1);rw[a.2] at this;exact this
  rw[c7 a,c];simp[a]
 rw[d8 a];cases c:Iq s with
 | none=>simp
 | some l=>
  have e:¬ (aT l=0/\gZ l=s):=λb=>by
   have:=aAS (gG b.1);rw[b.2] at this;rw[this] at a;exact a b
  simp[e]
theorem aCo {s:By} (a:(eK s).2=0):aT (eK s).1=0/\gZ (eK s).1=s:=by
 unfold eK at a ⊢;by_cases c:4096<s.length
 ·rw[c7 c] at a;simp at a
 rw[d8 c] at a ⊢;cases d:Iq s with
 | none=>rw[d] at a;simp at a
 | some l=>
  rw[d] at a;by_cases b:aT l=0/\gZ l=s
  ·simp only[c7 b];exact b
  simp[b] at a
theorem Ek {f:List Run} (c:eB f):f.length<=48:=by
 obtain⟨h,i,b⟩:=lQ.1 c.1;have e:∀ a,a<f.length->(a:Int)<=bG f a:=by
  intro a
  induction a with
  | zero=>intro _;omega
  | succ a g=>intro d;have:=((b (a+1) d).2.2 (by omega)).1;have:=g (by omega);simp at *;omega
 have d:=e (f.length-1) (by omega);have g:=(b (f.length-1) (by omega)).1;omega
theorem Ku:∀ (f:List Run),(∀ a∈f,(0<=a.At/\a.At<48)/\0<=a.N/\a.N<=50)->(jG f).length<=f.length*6
 | [],_=>by simp[jG]
 | a::f,h=>by
  have e:=h a (aHv ..);have g:=Ku f (λd c=>h d (aGc _ c));have b:jG (a::f)=32::(mB a++jG f):=by simp[jG]
  have i:=nX a.At.toNat (by omega);have j:=nX a.N.toNat (by omega);rw[b];unfold mB;simp;omega
theorem aE3 {l:List Queue} (b:cQ l) {k:Nat} (a:k<l.length):(nI l l[k]).length<=320:=by
 have g:nm l k=l[k].Q:=by unfold nm;rw[aGW,aGm a];rfl
 have i:par l k=l[k].R:=by unfold par;rw[aGW,aGm a];rfl
 have f:cp l k=l[k].Cap:=by unfold cp;rw[aGW,aGm a];rfl
 have d:eB l[k].Cap:=by have:=b.caps k a;rwa [f] at this
 have h:=Yc (b.names k a);rw[g] at h;have e:=b.pars k a;rw[i] at e;have j:=Ku l[k].Cap (pF d);have m:=Ek d;unfold nI fG;by_cases c:0<=l[k].R
 ·have n:=Yc (b.names l[k].R.toNat (by have:=e.2;omega));rw[c7 c];simp;omega
 rw[d8 c];simp;omega
theorem Rg {l:List Queue} (a:cQ l):∀ (n k:Nat),l.length-k=n->(nQ l k).length<=n*321
 | 0,k,b=>by rw[Fz (by omega)];simp
 | n+1,k,b=>by
  have c:=Rg a n (k+1) (by omega);have:=aE3 a (k:=k) (by omega);rw[rG (by omega)];simp;omega
theorem Lh {l:List Queue} (a:cQ l):(gZ l).length<=1605:=by
 have:=Rg a l.length 0 (by omega);have b:=a.n5;rw[Au] at this;omega
theorem aCz (b:∀ l:By,(∀ a∈l,a.toNat<128)->Lib.fieldsD l=Lib.fields l) {l:List Queue} (a:aT l=0):eK (gZ l)=(l,0):=by
 have c:=Lh (gG a);unfold eK;rw[d8 (by omega),Me b (gG a)];simp[a]
def tx (l:By):ByteArray:=⟨l.toArray⟩
theorem gJ (a b:By):tx a++tx b=tx (a++b):=by
 unfold tx;apply ByteArray.ext;simp
theorem mM (l:By):bs (tx l)=l:=rfl
theorem oM (s:ByteArray):tx (bs s)=s:=Om s
theorem aP (l:By):(tx l).size=l.length:=by rw[<- iL];rfl
theorem Br (m:Int) (b:0<=m/\m<10) (w:y4) :
  (convert 40 9 (O (M ⟨w,0,J⟩) 1 1)).run prog (w.alloc (zt #[.int .u8 (48+m)] 5))=.ok (b9 (tx [UInt8.ofNat (48+m.toNat)])) (w.alloc (zt #[.int .u8 (48+m)] 5)):=by
 have:=run_convert_bytes_arg (P:=prog) (w.alloc (zt #[.int .u8 (48+m)] 5)) 40 5 (by kernel_rfl) (by kernel_rfl) w 0 1 1 [48+m] rfl (λa c=>by
  obtain rfl:a=0:=by omega
  exact y6 (w.alloc (zt #[.int .u8 (48+m)] 5)) w 0 _ _ _ (y7 w _)) 9 (by kernel_rfl)
 rw[this];have a:(48+m).toNat=48+m.toNat:=by omega
 simp only[strOfNums,tx,aHs,List.map_nil,a]
theorem Pg (n:Nat) (b:n<10) (w:y4) :
  y8 prog 19 #[n] w λa c=>a=zv (b9 (tx (dig n)))/\d7 w c:=by
 have d:¬ (n:Int)<0:=by omega
 have e:(n:Int)<10:=by omega
 have c:=Br ((n:Int) % 10) (by omega) w;have a:tx [UInt8.ofNat (48+((n:Int) % 10).toNat)]=tx (dig n):=by unfold dig;rw[c7 b];congr;omega
 rw[a] at c;clear a;go_enter func19,ntmps19;go_wp2;go_ret;exact⟨rfl,(b8 w).a _⟩
theorem wE (n:Nat) (m:n<100) (w:y4) :
  y8 prog 19 #[n] w λd h=>d=zv (b9 (tx (dig n)))/\d7 w h:=by
 by_cases e:n<10
 ·exact Pg n e w
 have p:¬ (n:Int)<0:=by omega
 have q:¬ (n:Int)<10:=by omega
 have k:=Br ((n:Int) % 10) (by omega) w;obtain⟨a,f⟩:∃ a:Nat,n / 10=a:=⟨_,rfl⟩;have l:=Pg a (by omega);obtain⟨b,c⟩:∃ b,tx [UInt8.ofNat (48+((n:Int) % 10).toNat)]=b:=⟨_,rfl⟩;rw[c] at k;have i:=I (show tx (dig a)++b=tx (dig n) from by
  have g:n / 10<10:=by omega
  rw[<- c,<- f];have j:((n:Int) % 10).toNat=n % 10:=by omega
  rw[gJ,j];unfold dig;rw[c7 g,d8 e];rfl)
 have r:IntKind.i64.wrap ((n:Int) / 10)=(a:Int):=by rw[IntKind.wrap_i64];omega
 have o:¬ 9223372036854775807<(tx (dig a)).size+b.size:=by
  have:=nX a (by omega);rw[<- c,aP,aP];simp only[aGt,aGu];omega
 clear f c;go_enter func19,ntmps19;go_wp2_with (go_at_call 19;refine(l _).m ?_;rintro d h ⟨rfl,g⟩;have j:=I g;clear g);go_ret;exact⟨by rw[i.o];rfl,((b8 w).a _).r j⟩
theorem Va (s p:ByteArray) (i:Nat) (a:i+p.size<=s.size):(s.extract i (i+p.size)=p)↔Lib.occAt (bs s) (bs p) i=true:=by
 have c:=Lib.occAt_iff_take (bs s) (bs p) i (by rw[iL,iL];exact a);rw[c,iL];have b:bs (s.extract i (i+p.size))=((bs s).drop i).take p.size:=by
  rw[Lib.extract_eq,show i+p.size-i=p.size from by omega];rfl
 constructor
 ·intro a;rw[<- b,a];simp
 intro a;have d:bs (s.extract i (i+p.size))=bs p:=by rw[b];simpa using a
 rw[<- oM (s.extract i (i+p.size)),d,oM]
def Kc (s p:ByteArray) (e:r8):Prop:=e=zv (zw #[b9 (tx (Lib.cut (bs s) (bs p)).1),b9 (tx (Lib.cut (bs s) (bs p)).2.1),zx (Lib.cut (bs s) (bs p)).2.2])
theorem Ej (s p:ByteArray) (H:p.size<=3) (K:s.size<=1000000) (w:y4) :
  y8 prog 52 #[b9 s,b9 p] w λg a=>Kc s p g/\d7 w a:=by
 rcases Lib.index_spec (bs s) (bs p) with ⟨e,i⟩|⟨d,e,i,q,r⟩
 ·obtain⟨l,k⟩:=zr (Lib.cutB_miss s p e) i;clear e i;go_enter func52,ntmps52;go_wp2;go_loopw [7] (λb wr=>∃ a:Nat,b=Y Z a/\a<=s.size+1/\d7 w wr) (λb _=>s.size+1-(intOf b).toNat);exact⟨0,rfl,by omega,b8 _⟩;obtain⟨a,rfl,u,h⟩:=hrel;have t:IntKind.i64.wrap ((a:Int)+(p.size:Int))=((a+p.size:Nat):Int):=by rw[IntKind.wrap_i64];omega
  by_cases j:a+p.size<=s.size
  ·have o:((a+p.size:Nat):Int)<=(s.size:Int):=by omega
   have z:=xG (x:=s.extract a (a+p.size)) (y:=p) λg=>by
    have:=(Va s p a j).1 g;rw[k a (by rw[iL];omega)] at this;cases this
   generalize f:a+p.size=c at *;go_wp2;go_roundw;exact⟨a+1,by go_num,by omega,h⟩;simp[intOf];omega
  have o:¬ ((a+p.size:Nat):Int)<=(s.size:Int):=by omega
  generalize f:a+p.size=c at *;go_wp2_with fail
  go_ret3
  refine⟨?_,h⟩;obtain⟨m,n,b⟩:=l.o;unfold Kc tx bs;rw[m,n,b];rfl
 have A:d+p.size<=s.size:=by
  have:=Lib.index_room (bs s) (bs p) (by omega);rw[e,iL,iL] at this;omega
 obtain⟨l,k,B⟩:=zq (Lib.cutB_hit s p d e) r (Dh ((Va s p d A).2 q));clear e i q r;go_enter func52,ntmps52;go_wp2;go_loopw [7] (λb wr=>∃ a:Nat,b=Y Z a/\a<=d/\d7 w wr) (λb _=>s.size+1-(intOf b).toNat);exact⟨0,rfl,by omega,b8 _⟩;obtain⟨a,rfl,u,h⟩:=hrel;have t:IntKind.i64.wrap ((a:Int)+(p.size:Int))=((a+p.size:Nat):Int):=by rw[IntKind.wrap_i64];omega
 have j:a+p.size<=s.size:=by omega
 have o:((a+p.size:Nat):Int)<=(s.size:Int):=by omega
 by_cases v:a<d
 ·have z:=xG (x:=s.extract a (a+p.size)) (y:=p) λg=>by
   have:=(Va s p a j).1 g;rw[k a v] at this;cases this
  generalize f:a+p.size=c at *;go_wp2;go_roundw;exact⟨a+1,by go_num,by omega,h⟩;simp[intOf];omega
 obtain rfl:a=d:=by omega
 have z:=B.o;obtain⟨c,f⟩:∃ c,a+p.size=c:=⟨_,rfl⟩;rw[f] at t j o z;have C:(0:Int)<=a:=by omega
 have D:(a:Int)<=s.size:=by omega
 have E:(0:Int)<=c:=by omega
 have F:(a:Int)<=c:=by omega
 have G:(c:Int)<=s.size:=by omega
 have g:=I f;clear f;go_wp2;go_quiet (fail);go_wp2_with fail
 go_ret3
 refine⟨?_,h.dn _⟩;obtain⟨m,n,b⟩:=l.o;unfold Kc tx bs;rw[m,n,b,g.o];rfl
def iA (l:By):Int:=l.foldl (λn a=>10*n+(a.toNat:Int)-48) 0
theorem vI (l:By) (b:UInt8):iA (l++[b])=10*iA l+(b.toNat:Int)-48:=by unfold iA;simp
def bnd:Nat->Int
 | 0=>0
 | k+1=>10*bnd k+270
theorem aB8:∀ a,a<=6->bnd a<=30000000:=by decide
theorem yT (l:By):∀ a,a<=l.length->-bnd a<=iA (l.take a)/\iA (l.take a)<=bnd a
 | 0,_=>by simp[iA,bnd]
 | a+1,h=>by
  have c:=yT l a (by omega);have b:l[a].toNat<256:=l[a].toNat_lt;rw[show l.take (a+1)=l.take a++[l[a]] from by simp,vI,bnd];omega
theorem Lw (s:ByteArray) (A:s.size<=1000000) (w:y4) :
  y8 prog 53 #[b9 s] w λh a=>h=zv (Y Z (iH (bs s)))/\d7 w a:=by
 by_cases b:1<=s.size/\s.size<=6
 ·obtain⟨i,e⟩:=zr (by unfold iH;rw[c7 (by rw[iL];exact b)];rfl:iH (bs s)=iA (bs s)) (λ(g:y4)=>bI (s.size:Int) 1 6 g (by omega) (by omega));have t:=b.1;have u:=b.2;clear b;go_enter func53,ntmps53;go_wp2_with fail;refine(e _).m ?_;rintro h j ⟨rfl,rfl⟩;clear e;go_wp2;go_loopw [3,4] (λd c wr=>∃ (a:Nat) (n:Int),c=Y Z a/\d=Y Z n/\a<=s.size/\Hid (n=iA ((bs s).take a))/\d7 j wr) (λd c _=>s.size-(intOf c).toNat);exact⟨0,0,rfl,rfl,by omega,I rfl,b8 _⟩;obtain⟨a,n,rfl,rfl,q,f,m⟩:=hrel;have l:=yT (bs s) a (by rw[iL];exact q);rw[<- f.o] at l;have p:=aB8 a (by omega);have y:-30000000<=n:=by omega
  have z:n<=30000000:=by omega
  clear l p;by_cases c:a<s.size
  ·have r:=z7 a s.size;have x:=λw=>nK s a c w;have k:=I (by rw[fM s a c];rfl:(bV s a:Int)=((bs s)[a]'(by rw[iL];exact c)).toNat);have v:bV s a<256:=by rw[fM s a c];exact(s[a]'c).toNat_lt
   have o:=I (show 10*n+(bV s a:Int)-48=iA ((bs s).take (a+1)) from by
    rw[show (bs s).take (a+1)=(bs s).take a++[(bs s)[a]'(by rw[iL];exact c)] from by simp,vI,<- f.o,<- k.o])
   clear f k;generalize bV s a=d at *;have j:IntKind.i64.wrap (10*n)=10*n:=by rw[IntKind.wrap_i64];omega
   have B:IntKind.i64.wrap (10*n+d)=10*n+d:=by rw[IntKind.wrap_i64];omega
   have C:IntKind.i64.wrap (10*n+d-48)=10*n+d-48:=by rw[IntKind.wrap_i64];omega
   have D:IntKind.i64.wrap (d:Int)=(d:Int):=by rw[IntKind.wrap_i64];omega
   go_wp2;go_roundw;exact⟨a+1,_,by go_num,rfl,by omega,o,m⟩;simp[intOf];omega
  have r:=z8 a s.size;go_wp2;go_ret;refine⟨?_,m⟩;have:=f.o;rw[aHF (by rw[iL];omega)] at this;rw[i.o,<- this];rfl
 obtain⟨i,e⟩:=zr (by unfold iH;rw[d8 (by rw[iL];exact b)]:iH (bs s)=0) (λ(g:y4)=>dH (s.size:Int) 1 6 g (by omega));clear b;go_enter func53,ntmps53;go_wp2_with fail;refine(e _).m ?_;rintro h j ⟨rfl,rfl⟩;go_wp2;go_ret;exact⟨by rw[i.o];rfl,b8 _⟩
def eA:By->By->List By
 | cur,[]=>[cur]
 | cur,c::r=>if c=32 then cur::eA [] r else eA (cur++[c]) r
def fA (s:By):List By:=eA [] s
theorem vE:∀ (s a:By),eA a s≠[]
 | [],a=>by simp[eA]
 | c::r,a=>by
  unfold eA;split
  ·simp
  exact vE r _
theorem Il:∀ (s:By),Lib.indexByte s 32=-1->fA s=[s]:=by
 have a:∀ (s b:By),Lib.indexByte s 32=-1->eA b s=[b++s]:=by
  intro s
  induction s with
  | nil=>intro b _;simp[eA]
  | cons f d h=>
   intro b a;unfold Lib.indexByte at a;by_cases c:f=32
   ·rw[c7 (by rw[c];rfl)] at a;cases a
   rw[d8 (by simpa using c)] at a;have g:Lib.indexByte d 32=-1:=by
    by_cases e:(Lib.indexByte d 32 == -1)=true
    ·exact beq_iff_eq.1 e
    rw[d8 e] at a;have:=Lib.indexByte_ge d 32;omega
   unfold eA;rw[d8 c,h _ g,aIf];rfl
 intro s c;exact a s [] c
theorem Lp:∀ (s:By) (i:Nat),Lib.indexByte s 32=i->fA s=s.take i::fA (s.drop (i+1)):=by
 have a:∀ (s b:By) (i:Nat),Lib.indexByte s 32=i->eA b s=(b++s.take i)::eA [] (s.drop (i+1)):=by
  intro s
  induction s with
  | nil=>intro b i a;unfold Lib.indexByte at a;omega
  | cons g f j=>
   intro b i a;unfold Lib.indexByte at a;by_cases c:g=32
   ·rw[c7 (by rw[c];rfl)] at a;obtain rfl:i=0:=by omega
    rw[eA,c7 c];simp
   rw[d8 (by simpa using c)] at a;by_cases d:(Lib.indexByte f 32 == -1)=true
   ·rw[c7 d] at a;omega
   rw[d8 d] at a;obtain⟨e,rfl⟩:∃ e,i=e+1:=⟨i-1,by have:=Lib.indexByte_ge f 32;have:Lib.indexByte f 32≠-1:=λh=>d (beq_iff_eq.2 h);omega⟩;rw[eA,d8 c,j _ e (by omega)];simp
 intro s i c;have:=a s [] i c;rw[aH9] at this;exact this
theorem aFz (s:By):Lib.indexByte s 32=-1\/∃ a:Nat,Lib.indexByte s 32=a/\a<s.length:=by
 have d:=Lib.indexByte_ge s 32;by_cases c:Lib.indexByte s 32=-1
 ·exact .inl c
 obtain⟨a,b⟩:∃ a:Nat,Lib.indexByte s 32=a:=⟨(Lib.indexByte s 32).toNat,by omega⟩;exact .inr ⟨a,b,(aGw.1 (Lib.indexByte_some b).1).1⟩
theorem Xe:∀ (k:Nat) (s:By),Lib.count s [32]<=k->Lib.splitK [32] 0 k s=fA s
 | k,s,d=>by
  rcases aFz s with b|⟨i,a,e⟩
  ·rw[Il s b];cases k with
   | zero=>rfl
   | succ k=>unfold Lib.splitK;rw[Lib.index_one,b];rfl
  have c:=Lib.count_hit (s:=s) (sub:=[32]) (i:=i) (by simp) (by rw[Lib.index_one];exact a);cases k with
  | zero=>omega
  | succ k=>
   rw[Lp s i a];unfold Lib.splitK;rw[Lib.index_one,a,d8 (by simp)];have:(s.drop (i+1)).length<s.length:=by simp;omega
   rw[<- Xe k (s.drop (i+1)) (by simp at c;omega)];simp
 termination_by _ s=>s.length
theorem uO {u:Nat} (a:¬ u<10):Lib.decDigits u=Lib.decDigits (u / 10)++[UInt8.ofNat (48+u % 10)]:=by rw[Lib.decDigits,dif_neg a]
theorem yB {d:Nat} (a:d<10):(UInt8.ofNat (48+d)).toNat=48+d:=by simp[UInt8.toNat_ofNat'];omega
theorem aCr (u:Nat):iA (Lib.decDigits u)=u:=by
 induction u using aIG with
 | _ u b=>
  by_cases a:u<10
  ·rw[Lib.decDigits_one a];unfold iA;simp only[List.foldl_cons,List.foldl_nil];rw[yB a];omega
  rw[uO a,vI,b (u / 10) (by omega),yB (by omega)];omega
theorem aBU (u:Nat):1<=(Lib.decDigits u).length:=by
 by_cases a:u<10
 ·rw[Lib.decDigits_one a];simp
 rw[uO a];simp
theorem Sv (u:Nat):∀ a∈Lib.decDigits u,48<=a.toNat/\a.toNat<=57:=by
 induction u using aIG with
 | _ u e=>
  intro a b;by_cases c:u<10
  ·rw[Lib.decDigits_one c] at b;rw[aHf.1 b,yB c];omega
  rw[uO c] at b;rcases aGe.1 b with d|d
  ·exact e _ (by omega) a d
  rw[aHf.1 d,yB (by omega)];omega
theorem Ei:∀ (a:By) (e:Nat) (b:UInt8) (n d:Nat),Lib.decFrom e a=M n->Lib.digitVal b=M d->Lib.decFrom e (a++[b])=M (n*10+d)
 | [],e,b,n,d,h,hd=>by
  simp only[Lib.decFrom,Option.some.injEq] at h;subst h;simp[Lib.decFrom,hd]
 | c::r,e,b,n,d,h,hd=>by
  simp only[aGd,Lib.decFrom] at h ⊢;cases f:Lib.digitVal c with
  | none=>rw[f] at h;cases h
  | some g=>rw[f] at h;exact Ei r _ b n d h hd
theorem Eh {d:Nat} (a:d<10):Lib.digitVal (UInt8.ofNat (48+d))=M d:=by
 unfold Lib.digitVal;rw[yB a,c7 (by omega)];simp
theorem Zj (u:Nat):Lib.decFrom 0 (Lib.decDigits u)=M u:=by
 induction u using aIG with
 | _ u b=>
  by_cases a:u<10
  ·rw[Lib.decDigits_one a];unfold Lib.decFrom;rw[Eh a];simp[Lib.decFrom]
  rw[uO a,Ei _ 0 _ _ _ (b (u / 10) (by omega)) (Eh (by omega))];congr 1;omega
theorem aEu {u:Nat} (h:(Lib.decDigits u).length<=6):Lib.atoiAll (Lib.decDigits u)=.ok (u:Int):=by
 rw[Lib.atoiAll_short _ (by omega)];obtain⟨a,d,c⟩:∃ a d,Lib.decDigits u=a::d:=by
  cases c:Lib.decDigits u with
  | nil=>have:=aBU u;rw[c] at this;simp at this
  | cons a d=>exact⟨a,d,rfl⟩
 have b:=Sv u a (by rw[c];simp);have g:=Zj u;rw[c] at g ⊢;unfold Lib.atoi;show Lib.NumEnd.ofOption (if(a == 45)=true then _ else if(a == 43)=true then _ else _)=_;rw[d8 (λe=>by have f:=beq_iff_eq.1 e;rw[f] at b;simp at b),d8 (λe=>by have f:=beq_iff_eq.1 e;rw[f] at b;simp at b)];unfold Lib.decNat;simp only[List.isEmpty_cons,Bool.false_eq_true,if_false];rw[g];rfl
def fU (s:By):Int:=if s.length<=6/\Lib.decDigits (iA s).toNat=s then((iA s).toNat:Int) else -1
theorem Mp {u:Nat} (a:(Lib.decDigits u).length<=6):fU (Lib.decDigits u)=u:=by
 unfold fU;rw[aCr,aGK,c7 ⟨a,rfl⟩]
theorem Gf {s:By} (b:0<=fU s):s.length<=6/\s=Lib.decDigits (fU s).toNat:=by
 unfold fU at b ⊢;by_cases a:s.length<=6/\Lib.decDigits (iA s).toNat=s
 ·rw[c7 a,aGK];exact⟨a.1,a.2.symm⟩
 rw[d8 a] at b;omega
theorem Gg {s:By} (a:¬ 0<=fU s):fU s=-1/\∀ b,s.length<=6->s≠Lib.decDigits b:=by
 refine⟨?_,λb c b=>a (by rw[b,Mp (by rw[<- b];exact c)];omega)⟩;unfold fU at a ⊢;split at a
 ·omega
 rename_i d;rw[d8 d]
theorem xO {n:Int} (a:0<=n):Lib.itoa n=Lib.decDigits n.toNat:=by unfold Lib.itoa;rw[d8 (by omega)]
def cS:List By->Option (List Int)
 | []=>M []
 | s::r=>if 0<=fU s then(cS r).map (fU s::·) else J
def cY (l:List Int):By:=(l.map λn=>32::Lib.itoa n).flatten
def kK (l:List Int):By:=Lib.join (l.map Lib.itoa) [32]
theorem Bg (l:List Int):Lib.joinTail [32] (l.map Lib.itoa)=cY l:=by
 unfold Lib.joinTail cY;rw[aIH];rfl
theorem Bc (n:Int) (l:List Int):cY (n::l)=32::kK (n::l):=by
 unfold kK;rw[aHs,Lib.join_cons,Bg];simp[cY]
theorem Su {n:Nat} (a:n<9223372036854775808):(Lib.decDigits n).length<=21:=by
 have:=Lib.itoa_length_le (n:Int) (by omega) (by omega);rwa [xO (by omega),aGK] at this
theorem Ph (n:Nat):n<9223372036854775808->∀ (w:y4),
  y8 prog 19 #[n] w λe j=>e=zv (b9 (tx (Lib.decDigits n)))/\d7 w j:=by
 induction n using aIG with
 | _ n d=>
  intro p w;have g:=Br ((n:Int) % 10) (by omega) w;have r:¬ (n:Int)<0:=by omega
  by_cases f:n<10
  ·have o:(n:Int)<10:=by omega
   have a:tx [UInt8.ofNat (48+((n:Int) % 10).toNat)]=tx (Lib.decDigits n):=by rw[Lib.decDigits_one f];congr;omega
   rw[a] at g;clear a d;go_enter func19,ntmps19;go_wp2;go_ret;exact⟨rfl,(b8 w).a _⟩
  have o:¬ (n:Int)<10:=by omega
  obtain⟨a,h⟩:∃ a:Nat,n / 10=a:=⟨_,rfl⟩;have l:=I (d a (by omega) (by omega));obtain⟨b,c⟩:∃ b,tx [UInt8.ofNat (48+((n:Int) % 10).toNat)]=b:=⟨_,rfl⟩;rw[c] at g;have k:=I (show tx (Lib.decDigits a)++b=tx (Lib.decDigits n) from by
   have i:((n:Int) % 10).toNat=n % 10:=by omega
   rw[<- c,<- h,gJ,i,<- uO f])
  have s:IntKind.i64.wrap ((n:Int) / 10)=(a:Int):=by rw[IntKind.wrap_i64];omega
  have q:¬ 9223372036854775807<(tx (Lib.decDigits a)).size+b.size:=by
   have:=Su (n:=a) (by omega);rw[<- c,aP,aP];simp only[aGt,aGu];omega
  clear h c d;go_enter func19,ntmps19;go_wp2_with (go_at_call 19;refine(l _).m ?_;rintro e j ⟨rfl,i⟩;have m:=I i;clear i);go_ret;exact⟨by rw[k.o];rfl,((b8 w).a _).r m⟩
theorem lW (n:Int) (i:-9223372036854775808<n) (j:n<=9223372036854775807) (w:y4) :
  y8 prog 19 #[n] w λb a=>b=zv (b9 (tx (Lib.itoa n)))/\d7 w a:=by
 by_cases f:0<=n
 ·obtain⟨a,rfl⟩:∃ a:Nat,n=a:=⟨n.toNat,by omega⟩;have:=Ph a (by omega) w;rwa [xO f,aGK]
 obtain⟨a,rfl⟩:∃ a:Nat,n=-(a:Int):=⟨n.natAbs,by omega⟩;have d:=I (λe=>Ph a (by omega) e);have l:-(a:Int)<0:=by omega
 have g:IntKind.i64.wrap (-(-(a:Int)))=(a:Int):=by rw[IntKind.wrap_i64];omega
 have m:IntKind.i64.wrap (- -(a:Int))=(a:Int):=g;have o:IntKind.i64.wrap (a:Int)=(a:Int):=by rw[IntKind.wrap_i64];omega
 have c:=I (show (⟨#[45]⟩:ByteArray)++tx (Lib.decDigits a)=tx (Lib.itoa (-(a:Int))) from by
  have:Lib.itoa (-(a:Int))=[45]++Lib.decDigits a:=by unfold Lib.itoa;rw[c7 (by omega)];simp
  rw[this,<- gJ];rfl)
 have k:¬ 9223372036854775807<(⟨#[45]⟩:ByteArray).size+(tx (Lib.decDigits a)).size:=by
  have:=Su (n:=a) (by omega);have b:(⟨#[45]⟩:ByteArray).size=1:=rfl;rw[b,aP];omega
 go_enter func19,ntmps19;go_wp2_with fail;refine(d _).m ?_;rintro b p ⟨rfl,h⟩;go_wp2;go_ret;exact⟨by rw[c.o];rfl,h⟩
theorem Qq (s:By):(tx s).toList=s:=by rw[ByteArray.toList_eq];rfl
theorem Ig {s l:By} (a:s=l):((tx s).toList == l)=true:=by rw[Qq,a];simp
theorem Ih {s l:By} (a:¬ s=l):((tx s).toList == l)=false:=by rw[Qq];exact beq_eq_false_iff_ne.2 a
def jE (s:By):Int:=if s=[97,108,108] then 1 else if s=[97,110,121] then 2 else if s=[111,114,100,101,114] then 3 else if s=[116,105,103,104,116] then 4 else 0
theorem dP (s:By) (w:y4):y8 prog 59 #[b9 (tx s)] w λe j=>e=zv (Y Z (jE s))/\j=w:=by
 unfold jE;by_cases a:s=[97,108,108]
 ·rw[c7 a];have f:=Ig a;clear a;go_enter func59,ntmps59;go_wp2;go_ret;exact⟨rfl,rfl⟩
 rw[d8 a];have f:=Ih a;clear a;by_cases b:s=[97,110,121]
 ·rw[c7 b];have g:=Ig b;clear b;go_enter func59,ntmps59;go_wp2;go_ret;exact⟨rfl,rfl⟩
 rw[d8 b];have g:=Ih b;clear b;by_cases c:s=[111,114,100,101,114]
 ·rw[c7 c];have h:=Ig c;clear c;go_enter func59,ntmps59;go_wp2;go_ret;exact⟨rfl,rfl⟩
 rw[d8 c];have h:=Ih c;clear c;by_cases d:s=[116,105,103,104,116]
 ·rw[c7 d];have i:=Ig d;clear d;go_enter func59,ntmps59;go_wp2;go_ret;exact⟨rfl,rfl⟩
 rw[d8 d];have i:=Ih d;clear d;go_enter func59,ntmps59;go_wp2;go_ret;exact⟨rfl,rfl⟩
theorem bnd6 {s:By} (a:s.length<=6):-30000000<=iA s/\iA s<=30000000:=by
 have b:=yT s s.length (aGi _);have c:=aB8 s.length a;rw[aII] at b;omega
theorem aCq:∀ (s:By),(∀ b∈s,48<=b.toNat)->0<=iA s:=λs=>by
 have:∀ n,(∀ b∈s.take n,48<=b.toNat)->0<=iA (s.take n):=λn=>by
  induction n with
  | zero=>intro _;simp[iA]
  | succ n c=>
   intro a;by_cases g:n<s.length
   ·rw[show s.take (n+1)=s.take n++[s[n]] from by simp] at a ⊢;rw[vI];have e:=c (λb d=>a b (List.mem_append_left _ d));have f:=a s[n] (List.mem_append_right _ (by simp));omega
   rw[aHF (by omega)] at a ⊢;rw[aHF (by omega)] at c;exact c a
 intro a;have:=this s.length;rw[aII] at this;exact this a
theorem aAy (s:By) (Q:s.length<=4096) (w:y4) :
  y8 prog 60 #[b9 (tx s)] w λc a=>c=zv (Y Z (fU s))/\d7 w a:=by
 have R:=aP s;by_cases d:1<=s.length/\s.length<=6
 ·have l:=I (λ(f:y4)=>bI ((tx s).size:Int) 1 6 f (by omega) (by omega));have N:=d.1;have p:=d.2;have o:=I (λ(f:y4)=>Lw (tx s) (by omega) f);have C:iH (bs (tx s))=iA s:=by unfold iH;rw[mM,c7 d];rfl
  rw[C] at o;clear d C;go_enter func60,ntmps60;go_wp2_with fail;refine(l _).m ?_;rintro c E ⟨rfl,rfl⟩;clear l;go_wp2;go_loopw [3] (λe wr=>∃ a:Nat,e=Y Z a/\a<=(tx s).size/\Hid (∀ b∈s.take a,48<=b.toNat/\b.toNat<=57)/\d7 E wr) (λe _=>(tx s).size-(intOf e).toNat);exact⟨0,rfl,by omega,I (by simp),b8 _⟩;obtain⟨a,rfl,P,i,g⟩:=hrel;by_cases r:a<(tx s).size
  ·have F:(a:Int)<((tx s).size:Int):=by omega
   have A:=λw=>nK (tx s) a r w;have k:a<s.length:=by omega
   have h:=I (by rw[fM (tx s) a r];rfl:bV (tx s) a=(s[a]'k).toNat);have q:bV (tx s) a<256:=by rw[fM (tx s) a r];exact((tx s)[a]'r).toNat_lt
   have t:=I (by simp:s.take (a+1)=s.take a++[s[a]'k]);by_cases j:48<=bV (tx s) a/\bV (tx s) a<=57
   ·have m:=I (show ∀ b∈s.take (a+1),48<=b.toNat/\b.toNat<=57 from λb e=>by
     rw[t.o] at e;rcases aGe.1 e with d|d
     ·exact i b d
     rw[aHf.1 d,<- h.o];exact j)
    have u:¬ (bV (tx s) a:Int)<48:=by omega
    have z:¬ (57:Int)<(bV (tx s) a:Int):=by omega
    clear j i h;generalize bV (tx s) a=y at *;go_wp2;go_roundw;exact⟨a+1,by go_num,by omega,m,g⟩;simp[intOf];omega
   have e:=I (show fU s=-1 from (Gg (s:=s) (λv=>by
    obtain⟨_,c⟩:=Gf v;have:=Sv (fU s).toNat (s[a]'k) (by rw[<- c];exact List.getElem_mem _);rw[<- h.o] at this;exact j this)).1)
   by_cases u:(bV (tx s) a:Int)<48
   ·clear j h;generalize bV (tx s) a=y at *;go_wp2;go_ret;exact⟨by rw[e.o];rfl,g⟩
   have z:(57:Int)<(bV (tx s) a:Int):=by omega
   clear j h;generalize bV (tx s) a=y at *;go_wp2;go_ret;exact⟨by rw[e.o];rfl,g⟩
  have F:¬ (a:Int)<((tx s).size:Int):=by omega
  have z:∀ b∈s,48<=b.toNat/\b.toNat<=57:=λb q=>i b (by rw[aHF (by omega)];exact q);have B:=aCq s (λb q=>(z b q).1);have D:=bnd6 p;have m:=I (λ(f:y4)=>lW (iA s) (by omega) (by omega) f);rw[xO B] at m;have A:((iA s).toNat:Int)=iA s:=by omega
  by_cases h:Lib.decDigits (iA s).toNat=s
  ·have e:=I (by unfold fU;rw[c7 ⟨p,h⟩,A]:fU s=iA s);rw[h] at m;have G:((tx s).toList == (tx s).toList)=true:=by simp
   clear z B D h A i;generalize iA s=n at *;go_wp2_with fail;refine(o _).m ?_;rintro c K ⟨rfl,j⟩;have t:=I (g.r j);clear j g;go_wp2_with fail;refine(m _).m ?_;rintro c L ⟨rfl,k⟩;have u:=I (t.r k);clear k;go_wp2_with fail;refine(o _).m ?_;rintro c S ⟨rfl,H⟩;go_wp2;go_ret;exact⟨by rw[e.o];rfl,u.r H⟩
  have e:=I (by unfold fU;rw[d8 (λd=>h d.2)]:fU s=-1);have G:=xG (x:=tx (Lib.decDigits (iA s).toNat)) (y:=tx s) (λc=>h (by rw[<- mM (Lib.decDigits _),c,mM]));clear z B D h A i;generalize tx (Lib.decDigits (iA s).toNat)=H at *;generalize iA s=n at *;go_wp2_with fail;refine(o _).m ?_;rintro c K ⟨rfl,j⟩;have t:=I (g.r j);clear j g;go_wp2_with fail;refine(m _).m ?_;rintro c L ⟨rfl,k⟩;have u:=I (t.r k);clear k;go_wp2;go_ret;exact⟨by rw[e.o];rfl,u⟩
 have e:=I (show fU s=-1 from (Gg (s:=s) (λv=>by
  obtain⟨p,c⟩:=Gf v;have:=aBU (fU s).toNat;rw[<- c] at this;exact d ⟨this,p⟩)).1)
 have l:=I (λ(f:y4)=>dH ((tx s).size:Int) 1 6 f (by omega));clear d;go_enter func60,ntmps60;go_wp2_with fail;refine(l _).m ?_;rintro c E ⟨rfl,rfl⟩;go_wp2;go_ret;exact⟨by rw[e.o];rfl,b8 _⟩
theorem aAi {α:Type} {g:Nat} {f:y4->Nat->Nat->α->Prop} {w:y4} {v:y5} {l:List α} (n:SV g f w v l):∃ c a,v=O c l.length a/\l.length<=a/\a<=9223372036854775807/\l.length<=17592186044416/\
  (1<=l.length->∃ b d,c=M ⟨b,d,J⟩/\b<w.heap.size/\∀ e h,l[e]?=M h->f w b (d+e*g) h):=by
 rcases n with ⟨rfl,c,a,rfl,e⟩|⟨b,d,a,rfl,h,i,j,k,m⟩
 ·exact⟨c,a,rfl,by simp,e,by simp,λe=>by simp at e⟩
 exact⟨_,a,rfl,h,i,j,λ_=>⟨b,d,rfl,k,m⟩⟩
def nH (l:List Queue) (k:Nat):By:=((l.take k).map λa=>nI l a++[10]).flatten
theorem Mk (l:List Queue):nH l 0=[]:=by simp[nH]
theorem Az {l:List Queue} {k:Nat} {x:Queue} (a:l[k]?=M x):nH l (k+1)=nH l k++(fG l x++58::jG x.Cap++[10]):=by
 unfold nH;rw[aHZ,a];simp[nI]
theorem Ro {l:List Queue} {k:Nat} (a:l.length<=k):nH l k=gZ l:=by
 unfold nH gZ;rw[aHF a]
theorem aAv (l:List Queue) (k:Nat):gZ l=nH l k++nQ l k:=by
 unfold gZ nH nQ;rw[<- aHS,<- List.map_append,aIJ]
theorem yX {l:List Queue} (b:cQ l) (k:Nat):(nH l k).length<=1605:=by
 have a:=Lh b;rw[aAv l k] at a;simp at a;omega
def qE (f:List Run) (i:Nat):By:=jG (f.take i)
theorem Hh {f:List Run} {i:Nat} {y:Run} (a:f[i]?=M y):qE f (i+1)=qE f i++(32::mB y):=by
 unfold qE jG;rw[aHZ,a];simp
theorem Oj {f:List Run} (a:eB f) (i:Nat):(qE f i).length<=288:=by
 have d:=Ku (f.take i) (λc b=>pF a c (aHA b));have e:=Ek a;have g:(f.take i).length<=f.length:=by simp;omega
 unfold qE;omega
theorem cTx (a:Array UInt8):(⟨a⟩:ByteArray)=tx a.toList:=by unfold tx;simp
theorem Vl (w:y4) (v:y5) (l:List Queue) (hv:aK w v l) (ok:cQ l) :
  y8 prog 55 #[v] w λa w'=>a=zv (b9 (tx (gZ l)))/\d7 w w':=by
 obtain⟨fa,fc,rfl,_,_,_,ao⟩:=aAi hv;obtain⟨HF,x⟩:=zr ao ok;clear hv ao ok;generalize hn:l.length=n at *;have X:=I hn;clear hn;go_enter func55,ntmps55;go_wp2;go_loopw [3,4] (λs j wr=>∃ (k:Nat) (a6:ByteArray),j=Y Z k/\s=b9 a6/\k<=n/\Hid (a6=tx (nH l k))/\d7 w wr) (λs j _=>n-(intOf j).toNat);exact⟨0,_,rfl,rfl,by omega,I (by rw[Mk];rfl),b8 w⟩;obtain⟨k,a6,rfl,rfl,hk,HS,hx⟩:=hrel;by_cases a7:k<n
 ·have b1:=z7 k n;obtain⟨a,m⟩:=aV (f:=l) (k:=k) (by rw[X.o];exact a7);have R:k<l.length:=by rw[X.o];exact a7
  have aq:l[k]=a:=by have:=aGm R;rw[this] at m;injection m
  have ai:nm l k=a.Q:=by unfold nm;rw[aGW,m];rfl
  have aj:par l k=a.R:=by unfold par;rw[aGW,m];rfl
  have af:cp l k=a.Cap:=by unfold cp;rw[aGW,m];rfl
  have P:eB a.Cap:=by have:=x.caps k R;rwa [af] at this
  have ah:=(x.names k R).1.2;rw[ai] at ah;have a8:=x.pars k R;rw[aj] at a8;have hS:a6.size<=1605:=by rw[HS.o,aP];exact yX x k
  obtain⟨N,fo,rfl,b4,Q⟩:=HF (by omega);obtain⟨t,_,u,_,cv,c2,hu⟩:=dG.m w wr N _ a hx (Q k a m);have t1:=deF (show ¬ (k:Int)<0 by omega);have t2:=deF (show ¬ (n:Int)<=(k:Int) by omega);have t3:=deF (show ¬ n<=k by omega);by_cases h0:0<=a.R
  ·obtain⟨c,hp⟩:∃ c:Nat,a.R=c:=⟨a.R.toNat,by omega⟩;have b5:c<k:=by have:=a8.2;omega
   obtain⟨h,am⟩:=aV (f:=l) (k:=c) (by rw[X.o];omega);have ap:c<l.length:=by rw[X.o];omega
   have al:nm l c=h.Q:=by unfold nm;rw[aGW,am];rfl
   have ar:=(x.names c ap).1.2;rw[al] at ar;obtain⟨d0,_⟩:=dG.m w wr N _ h hx (Q c h am);have T:=I (by unfold fG;rw[c7 h0,hp,aGK,al]:fG l a=bs a.Q++([32,60,32]++bs h.Q));rw[hp] at u h0;have u1:=deF (show ¬ (c:Int)<0 by omega);have u2:=deF (show ¬ (n:Int)<=(c:Int) by omega);have u3:=deF (show ¬ n<=c by omega);obtain⟨V,ab,W,S⟩:=zp a7 (show ∀ k a,l[k]?=M a->dG w N (fo+k*3) a from Q) m P;obtain⟨d,q⟩:∃ d,a.Cap.length=d:=⟨_,rfl⟩;have i:=I q;have b2:d<=48:=by rw[<- q];exact Ek P
   obtain⟨ua,uc,rfl,_,_,_⟩:=hu.i;rw[q] at c2;have ac:=I (by rw[T.o];have C:=iL a.Q;have e2:=iL h.Q;simp only[aGb,aGt,aGu];omega:(fG l a).length<=30);clear Q aq ai aj af a8 al R ap am P m q hu;obtain⟨B,D⟩:∃ B,a.Q=B:=⟨_,rfl⟩;obtain⟨ad,hM⟩:∃ ad,h.Q=ad:=⟨_,rfl⟩;rw[D] at t ah;rw[hM] at d0 ar;obtain⟨HN,au⟩:=zr D hM;clear D hM;go_wp2;go_loopw [3,5] (λs j wr=>∃ (b:Nat) (o:ByteArray),j=Y Z b/\s=b9 o/\b<=d/\Hid (o=tx (nH l k++(fG l a++58::qE a.Cap b)))/\d7 w wr) (λs j _=>d-(intOf j).toNat);exact⟨0,_,rfl,rfl,by omega,I (by rw[HS.o,T.o,HN.o,au.o,show qE a.Cap 0=[] from by simp[qE,jG],<- oM B,<- oM ad];simp only[cTx,gJ,mM,aIf,aGd,aH9]),hx⟩;obtain⟨b,o,rfl,rfl,hi,y,a4⟩:=hrel;have a5:d7 w wr:=a4;have b0:o.size<=2000:=by
    rw[y.o,aP];have aw:=yX x k;have ax:=Oj S b;have ay:=ac.o;simp only[aGb,aGt];omega
   obtain⟨t,_,u,_,az,ae,H⟩:=dG.m w wr N _ a a4 (ab k a W);obtain⟨ra,rc,p,_,_,_,G⟩:=aAi H;by_cases a2:b<d
   ·have ag:=z7 b d;obtain⟨h,r⟩:=aV (f:=a.Cap) (k:=b) (by rw[i.o];exact a2);obtain⟨rb,ro,rfl,b3,a3⟩:=G (by rw[i.o];omega);obtain⟨e0,C,_⟩:=a3 b h r;have ak:=pF S h (aGC r);obtain⟨e,K⟩:∃ e:Nat,h.At=e:=⟨h.At.toNat,by omega⟩;obtain⟨g,L⟩:∃ g:Nat,h.N=g:=⟨h.N.toNat,by omega⟩;rw[i.o] at p;subst p;have HY:=I (by rw[Hh r];unfold mB;rw[K,L];rfl:qE a.Cap (b+1)=qE a.Cap b++(32::(dig e++61::dig g)));have a0:wr ⟨rb,ro+b*2,J⟩=M (Y Z e):=by rw[<- K];exact e0
    have a1:wr ⟨rb,ro+b*2+1,J⟩=M (Y Z g):=by rw[<- L];exact C
    have la:e<100:=by omega
    have ln:g<100:=by omega
    have an:=λc:bB wr=>c.cell ae;have z0:=λc:bB wr=>c.cell a0;have z1:=λc:bB wr=>c.cell a1;obtain⟨z,A⟩:=zr (λc:bB wr=>fV c (v:=b9 (tx (dig e))) (wE e la c.v)) (λc:bB wr=>fV c (v:=b9 (tx (dig g))) (wE g ln c.v));have s1:(tx (dig e)).size<=2:=by rw[aP];exact(nX e la).2
    have s2:(tx (dig g)).size<=2:=by rw[aP];exact(nX g ln).2
    have v1:=deF (show ¬ (b:Int)<0 by omega);have v2:=deF (show ¬ (d:Int)<=(b:Int) by omega);have v3:=deF (show ¬ d<=b by omega);clear a3 G r e0 C a0 a1 ak K L t u H;obtain⟨da,E⟩:∃ da,tx (dig e)=da:=⟨_,rfl⟩;obtain⟨dn,F⟩:∃ dn,tx (dig g)=dn:=⟨_,rfl⟩;rw[E] at z s1;rw[F] at A s2;obtain⟨a9,aa⟩:=zr E F;clear E F;have U:=I a2;go_wp2_with fail;refine bY (by kernel_rfl) (by kernel_rfl) ?_
    repeat (go_big_quiet_step (first|with_reducible exact z.o _|with_reducible exact A.o _))
    refine i8 ?_;rintro w' ⟨c,rfl⟩;have HX:=I (a5.r c.h);clear z A an z0 z1;generalize c.v=av at *;go_wp2;go_roundw
    case rel=>
     refine⟨b+1,_,by go_num,rfl,U,I ?_,HX⟩;rw[y.o,HY.o,<- a9.o,<- aa.o];simp only[cTx,gJ,aIf,aGd,aH9]
    case measure=>have:=U.o;simp[intOf];omega
   obtain rfl:b=d:=by omega
   have ag:=z8 b b;rw[i.o] at p;subst p;clear G H t u;go_wp2;go_roundw
   case rel=>
    refine⟨k+1,_,by go_num,rfl,V,I ?_,a5⟩;rw[Az W.o,y.o,show qE a.Cap b=jG a.Cap from by unfold qE;rw[aHF (by rw[i.o];exact aGi _)]];simp only[cTx,gJ,aIf,aGd,aH9]
   case measure=>have:=V.o;simp[intOf];omega
  obtain⟨V,ab,W,S⟩:=zp a7 (show ∀ k a,l[k]?=M a->dG w N (fo+k*3) a from Q) m P;obtain⟨d,q⟩:∃ d,a.Cap.length=d:=⟨_,rfl⟩;have i:=I q;have b2:d<=48:=by rw[<- q];exact Ek P
  obtain⟨ua,uc,rfl,_,_,_⟩:=hu.i;rw[q] at c2;have T:=I (by unfold fG;rw[d8 h0];simp:fG l a=bs a.Q);have ac:=I (by rw[T.o];have C:=iL a.Q;omega:(fG l a).length<=30);clear Q aq ai aj af a8 R P m q hu;obtain⟨B,D⟩:∃ B,a.Q=B:=⟨_,rfl⟩;rw[D] at t ah;have HN:=I D;clear D;obtain⟨pp,hp⟩:∃ pp,a.R=pp:=⟨_,rfl⟩;rw[hp] at u h0;clear hp;go_wp2;go_loopw [3,5] (λs j wr=>∃ (b:Nat) (o:ByteArray),j=Y Z b/\s=b9 o/\b<=d/\Hid (o=tx (nH l k++(fG l a++58::qE a.Cap b)))/\d7 w wr) (λs j _=>d-(intOf j).toNat);exact⟨0,_,rfl,rfl,by omega,I (by rw[HS.o,T.o,HN.o,show qE a.Cap 0=[] from by simp[qE,jG],<- oM B];simp only[cTx,gJ,mM,aIf,aGd,aH9]),hx⟩;obtain⟨b,o,rfl,rfl,hi,y,a4⟩:=hrel;have a5:d7 w wr:=a4;have b0:o.size<=2000:=by
   rw[y.o,aP];have aw:=yX x k;have ax:=Oj S b;have ay:=ac.o;simp only[aGb,aGt];omega
  obtain⟨t,_,u,_,az,ae,H⟩:=dG.m w wr N _ a a4 (ab k a W);obtain⟨ra,rc,p,_,_,_,G⟩:=aAi H;by_cases a2:b<d
  ·have ag:=z7 b d;obtain⟨h,r⟩:=aV (f:=a.Cap) (k:=b) (by rw[i.o];exact a2);obtain⟨rb,ro,rfl,b3,a3⟩:=G (by rw[i.o];omega);obtain⟨e0,C,_⟩:=a3 b h r;have ak:=pF S h (aGC r);obtain⟨e,K⟩:∃ e:Nat,h.At=e:=⟨h.At.toNat,by omega⟩;obtain⟨g,L⟩:∃ g:Nat,h.N=g:=⟨h.N.toNat,by omega⟩;rw[i.o] at p;subst p;have HY:=I (by rw[Hh r];unfold mB;rw[K,L];rfl:qE a.Cap (b+1)=qE a.Cap b++(32::(dig e++61::dig g)));have a0:wr ⟨rb,ro+b*2,J⟩=M (Y Z e):=by rw[<- K];exact e0
   have a1:wr ⟨rb,ro+b*2+1,J⟩=M (Y Z g):=by rw[<- L];exact C
   have la:e<100:=by omega
   have ln:g<100:=by omega
   have an:=λc:bB wr=>c.cell ae;have z0:=λc:bB wr=>c.cell a0;have z1:=λc:bB wr=>c.cell a1;obtain⟨z,A⟩:=zr (λc:bB wr=>fV c (v:=b9 (tx (dig e))) (wE e la c.v)) (λc:bB wr=>fV c (v:=b9 (tx (dig g))) (wE g ln c.v));have s1:(tx (dig e)).size<=2:=by rw[aP];exact(nX e la).2
   have s2:(tx (dig g)).size<=2:=by rw[aP];exact(nX g ln).2
   have v1:=deF (show ¬ (b:Int)<0 by omega);have v2:=deF (show ¬ (d:Int)<=(b:Int) by omega);have v3:=deF (show ¬ d<=b by omega);clear a3 G r e0 C a0 a1 ak K L t u H;obtain⟨da,E⟩:∃ da,tx (dig e)=da:=⟨_,rfl⟩;obtain⟨dn,F⟩:∃ dn,tx (dig g)=dn:=⟨_,rfl⟩;rw[E] at z s1;rw[F] at A s2;obtain⟨a9,aa⟩:=zr E F;clear E F;have U:=I a2;go_wp2_with fail;refine bY (by kernel_rfl) (by kernel_rfl) ?_
   repeat (go_big_quiet_step (first|with_reducible exact z.o _|with_reducible exact A.o _))
   refine i8 ?_;rintro w' ⟨c,rfl⟩;have HX:=I (a5.r c.h);clear z A an z0 z1;generalize c.v=av at *;go_wp2;go_roundw
   case rel=>
    refine⟨b+1,_,by go_num,rfl,U,I ?_,HX⟩;rw[y.o,HY.o,<- a9.o,<- aa.o];simp only[cTx,gJ,aIf,aGd,aH9]
   case measure=>have:=U.o;simp[intOf];omega
  obtain rfl:b=d:=by omega
  have ag:=z8 b b;rw[i.o] at p;subst p;clear G H t u;go_wp2;go_roundw
  case rel=>
   refine⟨k+1,_,by go_num,rfl,V,I ?_,a5⟩;rw[Az W.o,y.o,show qE a.Cap b=jG a.Cap from by unfold qE;rw[aHF (by rw[i.o];exact aGi _)]];simp only[cTx,gJ,aIf,aGd,aH9]
  case measure=>have:=V.o;simp[intOf];omega
 obtain rfl:k=n:=by omega
 have b1:=z8 k k;go_wp2;go_ret;refine⟨?_,hx⟩;rw[HS.o,Ro (by rw[X.o];exact aGi _)];rfl
def aEP (v:y5) (row:Option Nat):Prop:=∀ a n b,v=O (M a) n b->row≠M a.block
theorem Fq {α:Type} {f g:α->Int} {W W':y4} {v:y5} {xs:List α} {row:Option Nat} (c:SV 2 (E2 f g) W v xs) (j:W.grownBy W' row) (t:aEP v row):SV 2 (E2 f g) W' v xs:=by
 rcases c with c|⟨b,e,n,rfl,p,q,r,h,s⟩
 ·exact .inl c
 refine .inr ⟨b,e,n,rfl,p,q,r,aGs h j.size,λd w u=>?_⟩;have i:=j.block b h (λo=>t _ _ _ rfl o.symm);obtain⟨k,l,m⟩:=s d w u;exact⟨(aHm (a:=⟨b,e+d*2,J⟩) i).trans k,(aHm (a:=⟨b,e+d*2+1,J⟩) i).trans l,m⟩
def Qh (base:Nat) (w:y4) (v:y5):Prop:=∀ a n b,v=O (M a) n b->base<=a.block/\a.block<w.heap.size
theorem Qh.e {base:Nat} {w w':y4} {v:y5} (d:Qh base w v) (e:d7 w w'):Qh base w' v:=λa n b c=>⟨(d a n b c).1,aGs (d a n b c).2 e.size⟩
def mF (w:y4) (cs:List y5) (x:Queue):Prop:=
 ∃ a,cs=[b9 x.Q,Y Z x.R,a]/\aR w a x.Cap/\x.Q.size<=9223372036854775807/\I64 x.R
theorem mF.m {w w':y4} {cs:List y5} {x:Queue} (b:mF w cs x) (e:d7 w w'):mF w' cs x:=by
 obtain⟨a,rfl,c,d⟩:=b;exact⟨a,rfl,c.m e,d⟩
theorem mF.three {w:y4} {cs:List y5} {x:Queue} (a:mF w cs x):cs.length=3:=by obtain⟨b,rfl,_⟩:=a;rfl
theorem mF.one {w:y4} {cs:List y5} {x:Queue} (a:mF w cs x):∀ b∈cs,b.oneCell'=true:=by
 obtain⟨e,rfl,b,_⟩:=a;obtain⟨c,d,rfl,_⟩:=b.i;simp[aGr]
theorem mF.grown {W W':y4} {cs:List y5} {x:Queue} {row:Option Nat} (b:mF W cs x) (d:W.grownBy W' row) (c:∀ a∈cs,aEP a row):mF W' cs x:=by
 obtain⟨a,rfl,f,e⟩:=b;exact⟨a,rfl,Fq f d (c _ (by simp)),e⟩
theorem aFx {α:Type}:∀ (css:List (List α)),(∀ c∈css,c.length=3)->∀ a b,b<3->css.flatten[a*3+b]?=(css[a]?).bind (λc=>c[b]?)
 | [],_,a,b,_=>by simp
 | c::css,h,a,b,hj=>by
  have d:=h c (aHv ..);rw[aHH];cases a with
  | zero=>
   rw[Nat.zero_mul,aGx,aHI (by omega)];rfl
  | succ a=>
   rw[aHJ (by omega),d,show (a+1)*3+b-3=a*3+b by omega,aFx css (λc e=>h c (aGc _ e)) a b hj];rfl
structure Qs3 (base:Nat) (W:y4) (v:y5) (l:List Queue) (css:List (List y5)):Prop where
 row:W.ownsRow base 63 3 v l.length css.flatten
 len:css.length=l.length
 each:∀ (k:Nat) (cs:List y5) (x:Queue),css[k]?=M cs->l[k]?=M x->mF W cs x
 low:∀ cs∈css,∀ u∈cs,∀ a n c,u=O (M a) n c->a.block<W.heap.size/\∀ g,v.ownBlock=M g->a.block≠g
def Ez (base:Nat) (W:y4) (v:y5) (l:List Queue):Prop:=∃ a,Qs3 base W v l a
theorem Ez.none (base:Nat) (W:y4):Ez base W (O J 0 0) []:=
 ⟨[],aGQ _ _ _ _,rfl,λa b c a=>by simp at a,λb a=>by simp at a⟩
theorem Qs3.snocC {base g cap:Nat} {W i W5:y4} {v:y5} {l:List Queue} {x:Queue} {css:List (List y5)} {cs:List y5} (j:Qs3 base W v l css) (w:d7 W i) (z:mF i cs x) (G:∀ b∈cs,Qh W i b)
  (H:W5.ownsRow base 63 3 (O (M ⟨g,0,J⟩) (l.length+1) cap) (l.length+1) (css.flatten++cs)) (t:i.grownBy W5 v.ownBlock) (C:v.ownBlock=M g\/g=i.heap.size) :
  Qs3 base W5 (O (M ⟨g,0,J⟩) (l++[x]).length cap) (l++[x]) (css++[cs]):=by
 have hlen:(l++[x]).length=l.length+1:=by simp
 have F:∀ f,v.ownBlock=M f->f<W.heap.size:=λf r=>(j.row.lt f r).2;have q:∀ d∈css++[cs],∀ b∈d,∀ a n c,b=O (M a) n c->a.block<i.heap.size/\∀ f,v.ownBlock=M f->a.block≠f:=λd p b e a n c h=>by
  rcases aGe.1 p with k|k
  ·have:=j.low d k b e a n c h;exact⟨aGs this.1 w.size,this.2⟩
  rw[aHf.1 k] at e;have:=G b e a n c h;exact⟨this.2,λf r m=>by have:=F f r;omega⟩
 refine⟨by rw[hlen,aHS];simpa using H,by simp[j.len],λs d K m o=>?_,λd p b e a n c h=>⟨aGs (q d p b e a n c h).1 t.size,λy B=>?_⟩⟩
 ·refine mF.grown (W:=i) ?_ t (λb e a n c h A=>(q d (aGC m) b e a n c h).2 a.block A rfl);by_cases u:s<l.length
  ·rw[aHI (by rw[j.len];exact u)] at m;rw[aHI u] at o;exact(j.each s d K m o).m w
  have E:=(aGw.1 o).1;have D:s=l.length:=by simp at E;omega
  subst D;rw[aHJ (by rw[j.len];omega),j.len] at m;rw[aHJ (by omega)] at o;simp at m o;subst m;subst o;exact z
 obtain rfl:g=y:=by simpa[aHR] using B
 rcases C with k|k
 ·exact(q d p b e a n c h).2 g k
 have:=(q d p b e a n c h).1;omega
theorem Qs3.snoc {base g cap:Nat} {W a W5:y4} {v:y5} {l:List Queue} {x:Queue} {css:List (List y5)} {cs:List y5} (b:Qs3 base W v l css) (i:d7 W a) (c:mF a cs x) (f:∀ d∈cs,Qh W a d)
  (h:W5.ownsRow base 63 3 (O (M ⟨g,0,J⟩) (l.length+1) cap) (l.length+1) (css.flatten++cs)) (d:a.grownBy W5 v.ownBlock) (e:v.ownBlock=M g\/g=a.heap.size) :
  Ez base W5 (O (M ⟨g,0,J⟩) (l++[x]).length cap) (l++[x]):=
 ⟨_,b.snocC i c f h d e⟩
theorem Qs3.three {base:Nat} {W:y4} {v:y5} {l:List Queue} {css:List (List y5)} (b:Qs3 base W v l css):∀ a∈css,a.length=3:=λa d=>by
 obtain⟨k,c⟩:=aHK.1 d;have e:=(aGw.1 c).1;obtain⟨h,g⟩:=aV (f:=l) (k:=k) (by rw[<- b.len];exact e);exact(b.each k a h c g).three
theorem aG0 (b o j:Nat):(⟨b,o,J⟩:Addr).add j=⟨b,o+j,J⟩:=by unfold Addr.add;split <;> simp_all
theorem Ez.v {base:Nat} {W:y4} {v:y5} {l:List Queue} (b:Ez base W v l) (C:l.length<=17592186044416):aK W v l:=by
 obtain⟨d,b⟩:=b;rcases b.row.2 with ⟨rfl,r⟩|⟨g,o,B,rfl,D,t,s,y,E,F⟩
 ·exact .inl ⟨aGv r,Option.none,0,rfl,by omega⟩
 refine .inr ⟨g,0,o,rfl,s,by unfold o0 at y;omega,by omega,(aGq.1 t).1,λk h n=>?_⟩;have x:=(aGw.1 n).1;obtain⟨p,j⟩:=aV (f:=d) (k:=k) (by rw[b.len];exact x);obtain⟨i,rfl,A,z,u⟩:=b.each k p h j n;have e:∀ a c,([b9 h.Q,Y Z h.R,i]:List y5)[a]?=M c->W ⟨g,0+k*3+a,Option.none⟩=M c:=λa c m=>by
  have w:a<3:=by have:=(aGw.1 m).1;simpa using this
  have q:d.flatten[k*3+a]?=M c:=by rw[aFx d b.three k a w,j];exact m
  have:=b.row.cells (g:=g) rfl (k*3+a) c q;rw[aG0] at this;rwa [show 0+(k*3+a)=0+k*3+a by omega] at this
 exact⟨e 0 _ rfl,z,e 1 _ rfl,u,i,e 2 _ rfl,A⟩
theorem Ez.e {base:Nat} {W W':y4} {v:y5} {l:List Queue} (a:Ez base W v l) (c:d7 W W'):Ez base W' v l:=by
 obtain⟨j,a⟩:=a;exact⟨j,aJ a.row c,a.len,λf b g d e=>(a.each f b g d e).m c,λb g i h d n e f=>⟨aGs (a.low b g i h d n e f).1 c.size,(a.low b g i h d n e f).2⟩⟩
theorem Ez.i {base:Nat} {W:y4} {v:y5} {l:List Queue} (a:Ez base W v l):∃ b c,v=O b l.length c:=by
 obtain⟨d,a⟩:=a;rcases a.row.2 with ⟨rfl,b⟩|⟨f,c,e,rfl,_⟩
 ·exact⟨Option.none,0,by rw[b]⟩
 exact⟨_,_,rfl⟩
theorem Gc {w:y4} {base e d n:Nat} {v:y5} {xs:List y5} (c:w.ownsRow base e d v n xs) (g:1<=n):∃ b a,v=O (M ⟨b,0,J⟩) n a:=by
 rcases c.2 with ⟨_,f⟩|⟨b,a,_,rfl,_⟩
 ·omega
 exact⟨b,a,rfl⟩
theorem aO {W W':y4} {B:Nat} {o:Obj} (a:W.heap[B]?=M o) (b:d7 W W'):W'.heap[B]?=M o:=(b.block B (aGq.1 a).1).trans a
def aFh (w:y4) (q:List Queue × Bool) (e:r8) (w':y4):Prop:=∃ a,e=zv (zw #[a,zx q.2])/\aK w' a q.1/\d7 w w'
theorem yA (W:y4) (a b c:y5) (t:o8):∀ (j:Nat) d,[a,b,c][j]?=M d->(W.alloc (zt #[a,b,c] t)) ((⟨W,0,J⟩:Addr).add j)=M d:=by
 intro j d e;rw[aG0,aGx,y6 _ _ _ _ _ _ (y7 W _)];simpa using e
theorem Mf:(prog.info? 63).map (λa=>(a.zero,a.size,a.bytes))=M (M (.agg #[b9 ByteArray.empty,Y Z 0,O J 0 0]),3,48):=by kernel_rfl
theorem vM:(prog.info? 63).map (·.size)=M 3:=by kernel_rfl
theorem Tq (r:By):(tx r).toList=r:=by unfold tx;simp
theorem empT {r:By} (a:r=[]):(tx r).toList.isEmpty=true:=by rw[Tq,a];rfl
theorem empF {r:By} (a:¬ r=[]):(tx r).toList.isEmpty=false:=by
 rw[Tq];cases r with
 | nil=>exact absurd rfl a
 | cons b c=>rfl
theorem nY (s p:By):(Lib.cut s p).1.length<=s.length:=by
 unfold Lib.cut;split <;> simp;omega
theorem Zl (s p:By) (a:p≠[]) (b:s≠[]):(Lib.cut s p).2.1.length<s.length:=by
 have c:=aHX.2 a;have d:=aHX.2 b;unfold Lib.cut;split <;> simp <;> omega
theorem Oc (s p:By) (d:p≠[]) (a:(Lib.cut s p).2.2=true):(Lib.cut s p).2.1.length<s.length:=by
 have e:=aHX.2 d;have c:=Lib.index_room s p;unfold Lib.cut at a ⊢;split
 ·rename_i b;have:=c b;simp;omega
 rename_i b;rw[d8 b] at a;simp at a
theorem Im:∀ (f g:Nat) (m:Bool) (s:By),s.length<f->s.length<g->iK f m s=iK g m s
 | 0,_,_,_,b,_=>by omega
 | _,0,_,_,_,b=>by omega
 | f+1,g+1,m,s,h1,h2=>by
  cases m with
  | false=>simp[iK]
  | true=>
   cases a:(Lib.cut s [32]).2.2 with
   | false=>
    simp only[iK,a];cases f <;> cases g <;> simp[iK]
   | true=>
    have:=Oc s [32] (by simp) a;simp only[iK,a];rw[Im f g true _ (by omega) (by omega)]
theorem Je:∀ (f g:Nat) (l:List Queue) (s:By),s.length<=f->s.length<=g->nB f l s=nB g l s
 | 0,0,_,_,_,_=>rfl
 | 0,g+1,l,s,h,_=>by
  have:s=[]:=aGv (by omega);subst this;simp[nB]
 | f+1,0,l,s,_,h=>by
  have:s=[]:=aGv (by omega);subst this;simp[nB]
 | f+1,g+1,l,s,h1,h2=>by
  by_cases a:s=[]
  ·simp[nB,a]
  have:=Zl s [10] (by simp) a;rw[nB,nB,d8 a,d8 a,Je f g _ _ (by omega) (by omega)]
theorem Bd (l:List Queue) (s:By) (k:Nat):uA l s (k+1)=if bs (nm l k)=s then(k:Int) else uA l s k:=rfl
theorem Sf (l:List Queue) (s:By):∀ a,-1<=uA l s a/\uA l s a<a
 | 0=>by simp[uA]
 | a+1=>by
  have:=Sf l s a;rw[Bd];split <;> omega
theorem rT (s p:By):(Lib.cut s p).2.1.length<=s.length:=by
 unfold Lib.cut;split <;> simp
theorem Zk (s p:By) (b:p≠[]):(Lib.cut s p).2.1.length+(if(Lib.cut s p).2.2=true then 1 else 0)<=s.length:=by
 cases a:(Lib.cut s p).2.2 with
 | true=>have:=Oc s p b a;simp;omega
 | false=>have:=rT s p;simp;exact this
theorem Fx (f:Nat) (s:By):iK f false s=[]:=by cases f <;> simp[iK]
theorem aCs (a:By):iK (a.length+1) true a=⟨iH (Lib.cut (Lib.cut a [32]).1 [61]).1,iH (Lib.cut (Lib.cut a [32]).1 [61]).2.1⟩::iK ((Lib.cut a [32]).2.1.length+1) (Lib.cut a [32]).2.2 (Lib.cut a [32]).2.1:=by
 rw[iK,c7 rfl];cases b:(Lib.cut a [32]).2.2 with
 | true=>rw[Im a.length ((Lib.cut a [32]).2.1.length+1) true _ (Oc a [32] (by simp) b) (by omega)]
 | false=>rw[Fx,Fx]
theorem Xl (s:By):I64 (iH s):=by
 unfold iH;split
 ·rename_i a
  have:=yT s s.length (aGi _);rw[aII] at this;have b:=aB8 s.length a.2;unfold I64 iA at *;omega
 unfold I64;omega
theorem Ew (w:y4) (s:By) (hs:s.length<=4096) :
  y8 prog 16 #[b9 (tx s)] w (aFh w (nL s)):=by
 go_enter func16,ntmps16;go_wp2;go_loopw [4,5] (λv c wr=>∃ (l:List Queue) (A:By) (F:ByteArray) (H:Option Addr) (cp:Nat),v=O H l.length cp/\c=b9 F/\l.length+A.length<=4096/\F.size=A.length/\Hid (F=tx A)/\Hid (Ea s=nB A.length l A)/\Hid (Ez w wr v l)/\Hid (d7 w wr)) (λ_ c _=>match c with|.string F=>F.size|_=>0);exact⟨[],s,tx s,J,0,rfl,rfl,by simpa using hs,aP s,I rfl,I rfl,I (Ez.none _ _),I (b8 w)⟩;obtain⟨l,A,F,H,cp,rfl,rfl,bz,hR,HR,HF,am,HX⟩:=hrel;by_cases hr:A=[]
 ·have t:=empT hr;rw[<- HR.o] at t;have i:Ea s=l:=by rw[HF.o,hr];rfl
  have j:=am.v (by omega);have m:=I (tN wr _ l j);by_cases h:aT l=0
  ·have q:=I (λ(d:y4) (e:d7 wr d)=>Vl d _ l (j.m e) (gG h));by_cases p:gZ l=s
   ·obtain⟨a2,r⟩:=zr (by unfold nL;rw[i,c7 ⟨h,p⟩]:nL s=(l,true)) j;have B:=Dh (x:=tx (gZ l)) (y:=tx s) (by rw[p]);rw[h] at m;clear j i h;go_wp2_with fail;refine(m.o).m ?_;rintro a w1 ⟨rfl,z⟩;go_wp2_with fail;refine(q _ z).m ?_;rintro a w2 ⟨rfl,R⟩;go_wp2;go_ret2;rw[a2.o];exact⟨_,rfl,r.m (z.r R),HX.r (z.r R)⟩
   have a2:=I (by unfold nL;rw[i,d8 (λe=>p e.2)]:nL s=([],false));have B:=xG (x:=tx (gZ l)) (y:=tx s) (λa=>p (congrArg bs a));rw[h] at m;clear j i h;go_wp2_with fail;refine(m.o).m ?_;rintro a w1 ⟨rfl,z⟩;go_wp2_with fail;refine(q _ z).m ?_;rintro a w2 ⟨rfl,R⟩;go_wp2;go_ret2;rw[a2.o];exact⟨_,rfl,SV.nil,HX.r (z.r R)⟩
  have a2:=I (by unfold nL;rw[i,d8 (λe=>h e.1)]:nL s=([],false));clear j i;generalize aT l=c at *;go_wp2_with fail;refine(m.o).m ?_;rintro a w1 ⟨rfl,z⟩;go_wp2;go_ret2;rw[a2.o];exact⟨_,rfl,SV.nil,HX.r z⟩
 have bn:=empF hr;rw[<- HR.o] at bn;have C1:=I (λd=>Ej F ⟨#[10]⟩ (by decide) (by omega) d);obtain⟨D,a3⟩:∃ D,(Lib.cut A [10]).1=D:=⟨_,rfl⟩;obtain⟨W,a4⟩:∃ W,(Lib.cut A [10]).2.1=W:=⟨_,rfl⟩;have q1:D.length<=A.length:=by rw[<- a3];exact nY _ _
 have q2:W.length<A.length:=by rw[<- a4];exact Zl _ _ (by simp) hr
 have C2:=I (λd=>Ej (tx D) ⟨#[58,32]⟩ (by decide) (by rw[aP];omega) d);obtain⟨P,a5⟩:∃ P,(Lib.cut D [58,32]).1=P:=⟨_,rfl⟩;obtain⟨B,a7⟩:∃ B,(Lib.cut D [58,32]).2.1=B:=⟨_,rfl⟩;obtain⟨m1,ad⟩:∃ m1,(Lib.cut D [58,32]).2.2=m1:=⟨_,rfl⟩;have q3:P.length<=D.length:=by rw[<- a5];exact nY _ _
 have q4:B.length<=D.length:=by rw[<- a7];exact rT _ _
 have C3:=I (λd=>Ej (tx P) ⟨#[32,60,32]⟩ (by decide) (by rw[aP];omega) d);obtain⟨i,a6⟩:∃ i,(Lib.cut P [32,60,32]).1=i:=⟨_,rfl⟩;have q5:i.length<=P.length:=by rw[<- a6];exact nY _ _
 obtain⟨E,aa⟩:∃ E,(Lib.cut P [32,60,32]).2.1=E:=⟨_,rfl⟩;obtain⟨Q,ac⟩:∃ Q,(Lib.cut P [32,60,32]).2.2=Q:=⟨_,rfl⟩;obtain⟨E1,E2,E3,HS⟩:=zp (show ∀ a,Kc F ⟨#[10]⟩ a->∃ al,a=zv (zw #[b9 (tx D),b9 (tx W),zx al]) from λa e=>⟨(Lib.cut A [10]).2.2,by rw[e,HR.o,mM,<- a3,<- a4];rfl⟩) (show ∀ a,Kc (tx D) ⟨#[58,32]⟩ a->a=zv (zw #[b9 (tx P),b9 (tx B),zx m1]) from λa e=>by rw[e,mM,<- a5,<- a7,<- ad];rfl) (show ∀ a,Kc (tx P) ⟨#[32,60,32]⟩ a->a=zv (zw #[b9 (tx i),b9 (tx E),zx Q]) from λa e=>by rw[e,mM,<- a6,<- aa,<- ac];rfl) (And.intro a3 (And.intro a4 (And.intro a5 (And.intro a7 (And.intro ad (And.intro a6 (And.intro aa ac)))))));clear a3 a4 a5 a7 ad a6 aa ac;go_wp2_with fail;refine(C1 _).m ?_;rintro a w1 ⟨t,z⟩;obtain⟨al,rfl⟩:=E1 a t;clear t;go_wp2_with fail;refine(C2 _).m ?_;rintro a w2 ⟨t,R⟩;obtain rfl:=E2 a t;clear t;go_wp2_with fail;refine(C3 _).m ?_;rintro a N ⟨t,b6⟩;obtain rfl:=E3 a t;clear t;go_wp2_with fail;obtain⟨h,aq⟩:∃ h,N.heap.size=h:=⟨_,rfl⟩;obtain⟨w4,ak⟩:∃ w4,N.alloc (zt #[b9 (tx i),Y Z (-1),O J 0 0] 63)=w4:=⟨_,rfl⟩;have bk:w4.heap[h]?=M (zt #[b9 (tx i),Y Z (-1),O J 0 0] 63 (0,0)):=by rw[<- ak,<- aq];exact y7 N _
 have bp:d7 N w4:=by rw[<- ak];exact(b8 N).a _
 have b4:N<=h:=by omega
 rw[ak,aq];have an:=I (z.r (R.r b6));have b2:=I (λd (e:d7 N d)=>(am.v (by omega)).m (an.r e));clear ak z R b6 C1 C2 C3 E1 E2 E3 aq;go_loopw [14] (λc d=>∃ (k:Nat) (j:Int),c=Y Z k/\k<=l.length/\Hid (j=if Q=true then uA l E k else -1)/\Hid (d.heap[h]?=M (zt #[b9 (tx i),j,O J 0 0] 63 (0,0)))/\Hid (d7 N d)) (λc _=>l.length-(intOf c).toNat)
 case atStart=>exact⟨0,-1,rfl,aGI _,I (by cases Q <;> rfl),I bk,I bp⟩
 case round=>
  obtain⟨k,j,rfl,hk,HP,T,S⟩:=hrel;by_cases ar:k<l.length/\Q=true
  ·obtain⟨av,X⟩:=ar;subst X;have b5:=z7 k l.length;obtain⟨x,C⟩:=aV (f:=l) (k:=k) av;have r:nm l k=x.Q:=by unfold nm;rw[aGW,C];rfl
   obtain⟨ga,gc,a0,_,_,_,K⟩:=aAi (b2 wr S);injection a0 with hg1 hg2 hg3
   obtain⟨gb,go,a1,a8,L⟩:=K (by omega);rw[a1] at hg1;subst hg1;obtain⟨c0,_⟩:=L k x C;have t1:=deF (show ¬ (k:Int)<0 by omega);have t2:=deF (show ¬ (l.length:Int)<=(k:Int) by omega);have t3:=deF (show ¬ l.length<=k by omega);have p:=I av;by_cases m:bs x.Q=E
   ·have hy:=Dh (x:=x.Q) (y:=tx E) (by rw[<- m,oM]);have G:=I (by rw[c7 rfl,Bd,r,c7 m]:(k:Int)=if true=true then uA l E (k+1) else -1);have q:=T.o;have x1:=y6 _ h 1 _ _ _ q;have f1:=x4 wr h 1 _ _ q;obtain⟨V,U⟩:=zr (x6 wr h 1 _ _ (Y Z k) q) (S.se (o:=1) b4 (Y Z k));clear L K C r m q;go_wp2;go_roundw;exact⟨k+1,_,by go_num,p,G,V,U⟩;have:=p.o;simp[intOf];omega
   have hy:=xG (x:=x.Q) (y:=tx E) (λa=>m (by rw[a,mM]));have G:=I (by rw[HP.o,c7 rfl,c7 rfl,Bd,r,d8 m]:j=if true=true then uA l E (k+1) else -1);clear L K C r m;go_wp2;go_roundw;exact⟨k+1,_,by go_num,p,G,T,S⟩;have:=p.o;simp[intOf];omega
  have b1:=I (show j=if Q=true then uA l E l.length else -1 from by
   rw[HP.o];by_cases hb:Q=true
   ·have:k=l.length:=by
     rcases aGD k l.length with e|e
     ·exact absurd ⟨e,hb⟩ ar
     omega
    rw[this]
   rw[d8 hb,d8 hb])
  by_cases av:k<l.length;have bl:Q=false:=by cases Q <;> simp_all
  subst bl;have b5:=z7 k l.length;rotate_left;have b5:=z8 k l.length
  all_goals
   clear ar;go_wp2;go_loopw [8,9] (λc m d=>∃ (q:By) (X:ByteArray) (a1:Bool) (f:List Run) (cv:y5),c=b9 X/\m=zx a1/\X.size=q.length/\f.length+q.length+(if a1=true then 1 else 0)<=B.length+1/\Hid (X=tx q)/\Hid (iK (B.length+1) m1 B=f++iK (q.length+1) a1 q)/\
     Hid (d.heap[h]?=M (zt #[b9 (tx i),j,cv] 63 (0,0)))/\Hid (d.ownsRow (h+1) 101 2 cv f.length (bH Run.At Run.N f))/\Hid (∀ y∈f,I64 y.At/\I64 y.N)/\Hid (d7 N d))
    (λc m _=>(match c with|.string F=>F.size|_=>0)+(match m with|.bool true=>1|_=>0))
   case atStart=>exact⟨B,tx B,m1,[],O J 0 0,rfl,rfl,aP B,by cases m1 <;> simp,I rfl,I rfl,T,I (aGQ _ _ _ _),I (by simp),S⟩
   case round=>
    clear T S b2;obtain⟨q,X,a1,f,cv,rfl,rfl,bv,bm,a2,b3,T,V,HI,S⟩:=hrel;cases a1 with
    | true=>
     simp only[if_true] at bm;have CA:=I (λd=>Ej X ⟨#[32]⟩ (by decide) (by omega) d);obtain⟨G,ai⟩:∃ G,(Lib.cut q [32]).1=G:=⟨_,rfl⟩;obtain⟨C,ab⟩:∃ C,(Lib.cut q [32]).2.1=C:=⟨_,rfl⟩;obtain⟨m2,ae⟩:∃ m2,(Lib.cut q [32]).2.2=m2:=⟨_,rfl⟩;have q1:G.length<=q.length:=by rw[<- ai];exact nY _ _
     have CB:=I (λd=>Ej (tx G) ⟨#[61]⟩ (by decide) (by rw[aP];omega) d);obtain⟨m,ag⟩:∃ m,(Lib.cut G [61]).1=m:=⟨_,rfl⟩;obtain⟨p,ah⟩:∃ p,(Lib.cut G [61]).2.1=p:=⟨_,rfl⟩;have q2:m.length<=G.length:=by rw[<- ag];exact nY _ _
     have q3:p.length<=G.length:=by rw[<- ah];exact rT _ _
     obtain⟨EA,EB,SA,SB⟩:=zp (show ∀ a,Kc X ⟨#[32]⟩ a->a=zv (zw #[b9 (tx G),b9 (tx C),zx m2]) from λa e=>by rw[e,a2.o,mM,<- ai,<- ab,<- ae];rfl) (show ∀ a,Kc (tx G) ⟨#[61]⟩ a->∃ al,a=zv (zw #[b9 (tx m),b9 (tx p),zx al]) from λa e=>⟨(Lib.cut G [61]).2.2,by rw[e,mM,<- ag,<- ah];rfl⟩) (λ(d:y4)=>show y8 _ _ _ d (λa w'=>a=zv (Y Z (iH m))/\d7 d w') from Lw (tx m) (by rw[aP];omega) d) (λ(d:y4)=>show y8 _ _ _ d (λa w'=>a=zv (Y Z (iH p))/\d7 d w') from Lw (tx p) (by rw[aP];omega) d);have bh:=I (show iK (B.length+1) m1 B=(f++[⟨iH m,iH p⟩])++iK (C.length+1) m2 C from by
      rw[b3.o,aCs q,ai,ag,ah,ae,ab,aIf];rfl)
     have bd:=I (show (f++[(⟨iH m,iH p⟩:Run)]).length+C.length+(if m2=true then 1 else 0)<=B.length+1 from by
      have:=Zk q [32] (by simp);rw[ae,ab] at this;simp only[aGb,aGt,aGu];omega)
     have bf:=I (show C.length+(if m2=true then 1 else 0)<=q.length from by
      have:=Zk q [32] (by simp);rw[ae,ab] at this;omega)
     have be:=I (show ∀ y∈f++[(⟨iH m,iH p⟩:Run)],I64 y.At/\I64 y.N from λy hy=>by
      rcases aGe.1 hy with e|e
      ·exact HI y e
      rw[aHf.1 e];exact⟨Xl m,Xl p⟩)
     clear ai ab ae ag ah;go_wp2_with fail;refine(CA _).m ?_;rintro a w5 ⟨t,af⟩;obtain rfl:=EA a t;clear t;go_wp2_with fail;refine(CB _).m ?_;rintro a w6 ⟨t,ba⟩;obtain⟨z2,rfl⟩:=EB a t;clear t;have bb:d7 wr w6:=af.r ba;have a0:=T.o;have k2:=y6 _ h 2 _ _ _ a0;have bw:=(aGq.1 a0).1;obtain⟨ir,bq,br,bt,bu⟩:=s8 info101;obtain⟨K,L,rfl⟩:=eV V;clear CA CB EA EB a0 af ba;go_wp2_with fail;refine cN 10 (λd=>d ⟨h,2,J⟩=M (O K f.length L)) (by kernel_rfl) (bb.dr.c k2) (λa9=>?_);refine tkT 0 ?_;refine tkT 1 ?_;refine tkT 2 ?_;refine tkT 4 ?_;refine goT 3 λU r=>?_;simp only[zA,zB,zC];go_simp;refine(SA _).m ?_;rintro a W1 ⟨rfl,z⟩;have az:d7 wr W1:=bb.dr.r z
     go_wp2_with fail;refine r.out _ _ (az.c k2) λa9=>?_
     clear r U;refine goT 5 λU r=>?_;simp only[zA,zB,zC];go_simp;refine(SB _).m ?_;rintro a W2 ⟨rfl,R⟩;have b0:d7 wr W2:=az.r R
     go_wp2_with fail;refine r.out _ _ (b0.c k2) λa9=>?_
     clear r U;refine tkT 6 ?_;refine goT 7 λU r=>?_;simp only[zA,zB,zC];go_simp;obtain⟨W3,ap⟩:∃ W3,W2.alloc (zt #[Y Z (iH m),Y Z (iH p)] 101)=W3:=⟨_,rfl⟩;have a8:d7 wr W3:=ap▸b0.a _;have aw:=xF W2 rfl (Y Z (iH m)) (Y Z (iH p)) 101;rw[ap] at aw ⊢;have bx:f.length<=5000:=by omega
     have ay:=a8.size;refine r.out _ _ (a8.c k2) λa9=>?_
     clear r U;refine goT 8 λU r=>?_;simp only[zA,zB,zC];refine e7 _ _ _ _ (by rfl) (h+1) 101 ir _ 2 16 underlying61 bq br bt bu rfl (by decide) (O K f.length L) f.length (bH Run.At Run.N f) (by rfl) (aJ V a8) ⟨W2,0,J⟩ 1 1 [Y Z (iH m),Y Z (iH p)] (by rfl) (by rfl) aw (xE _ _ _ _) (by unfold o0;omega) (by omega) (by omega) (λv5 W5 ax au bo=>?_);obtain⟨g5,c5,rfl⟩:=Gc ax (by omega);have aj:W5.heap[h]?=M (zt #[b9 (tx i),j,O K f.length L] 63 (0,0)):=(au.block _ (by omega) (λa=>by have:=bN V _ a.symm;omega)).trans (aO T a8);have af:d7 N W5:=(S.r a8).gr au (λg hg=>by have:=bN V g hg;omega);have bc:=y6 _ _ 2 _ _ _ aj;have bj:=x4 _ _ 2 _ _ aj;refine r.out _ _ bc λa9=>?_
     clear r U;refine tkT 9 ?_;refine laT λU r=>?_;simp only[zA,zB,zC];go_simp;refine r.out _ _ ?_;clear r U;obtain⟨bi,bg,ao⟩:=zq (x6 W5 h 2 _ _ (O (M ⟨g5,0,J⟩) (f.length+1) c5) aj) (mS (c:=h) (o:=2) (u:=O (M ⟨g5,0,J⟩) (f.length+1) c5) ax (by omega)) (af.se (b:=h) (o:=2) b4 (O (M ⟨g5,0,J⟩) (f.length+1) c5));generalize W5.setCell ⟨h,2,J⟩ (O (M ⟨g5,0,J⟩) (f.length+1) c5)=W6 at *;clear a9 k2 bc bj aj af ax au bo ap az b0 a8 z R aw V T S
     go_wp2;go_roundw
     case rel=>
      refine⟨C,tx C,m2,f++[⟨iH m,iH p⟩],_,rfl,rfl,aP C,bd.o,I rfl,bh,bi,I ?_,be,ao⟩;have:=bg.o;simpa[bH] using this
     case measure=>
      have h1:=bf.o;have e1:=aP C;cases m2
      ·show (tx C).size+0<X.size+1;simp at h1;omega
      show (tx C).size+1<X.size+1;simp at h1;omega
    | false=>
     have ap:=I (show uK l D=⟨tx i,j,f⟩ from by
      obtain⟨a3,a4,a5,a7,ad,a6,aa,ac⟩:=HS.o;have a:=b3.o;rw[Fx,aG9] at a;unfold uK;rw[a5,a6,aa,ac,ad,a7,<- b1.o,a];rfl)
     obtain⟨K,L,rfl⟩:=eV V;obtain⟨iq,bf,bg,bh,bi⟩:=s8 Mf;have a0:=T.o;have k0:=y6 _ h 0 _ _ _ a0;have k1:=y6 _ h 1 _ _ _ a0;have k2:=y6 _ h 2 _ _ _ a0;have hI:=HI.o;have bj:-1<=j/\j<5000:=by
      rw[b1.o];have:=Sf l E l.length;split <;> omega
     have ai:aR wr (O K f.length L) f:=bL V hI (by omega);obtain⟨x,m⟩:∃ x:Queue,x=⟨tx i,j,f⟩:=⟨_,rfl⟩;have a8:mF wr [b9 (tx i),Y Z j,O K f.length L] x:=⟨_,by rw[m],by rw[m];exact ai,by rw[m];show (tx i).size<=_;rw[aP];omega,by rw[m];show I64 j;unfold I64;omega⟩;have a9:=(b8 wr).a (zt #[b9 (tx i),j,O K f.length L] 63);obtain⟨bd,C⟩:=am.o;have r:=an.r (S.r a9);have U:∀ u∈([b9 (tx i),Y Z j,O K f.length L]:List y5),Qh N (wr.alloc (zt #[b9 (tx i),j,O K f.length L] 63)) u:=λu p=>by
      simp only[aH1,aHa,or_false] at p;rcases p with rfl|rfl|rfl
      ·intro H n c a;cases a
      ·intro H n c a;cases a
      intro H n c a;have hb:=V.lt H.block (by rw[a];rfl);exact⟨by omega,by rw[aHb];omega⟩
     have ag:=a8.one;have af:=yA wr (b9 (tx i)) (Y Z j) (O K f.length L) 63;have aw:=I (aJ C.row r);have aj:=(HX.r r).size;have ba:=I aj;have ay:=an.size;obtain⟨b0,bb,az,au,ax,ao⟩:=zl (λ(g cap:Nat) (W5:y4)=>C.snoc (g:=g) (cap:=cap) (W5:=W5) r (a8.m a9) (λu p H n c a=>⟨aGR ay (U u p H n c a).1,(U u p H n c a).2⟩)) (HX.r r) (λG hr=>(C.row.lt G hr).1) af ag m;clear a0 hI ai a8 a9 r U ag af aj ay C m;go_wp2_with (at_builtin;refine wpList_append_lies _ rfl _ _ 27 rfl w 63 iq _ 3 48 underlying27 bf bg bh bi rfl (by decide) (O H l.length cp) l.length bd.flatten rfl aw ⟨wr,0,J⟩ 1 1 [b9 (tx i),Y Z j,O K f.length L] rfl rfl au ax (by omega) (by unfold o0;omega) (by omega) ba (wr+1) (by simp) ?_;intro g2 cap2 W2 ah G ae be;have ab:=I (b0 g2 cap2 W2 ah G (ae.imp_right λa=>a.trans (by simp only[aHb])));have bc:=I (bb.gr (v:=O H l.length cp) G az);clear ah G ae be);go_roundw
     case rel=>
      have a:(l++[x]).length=l.length+1:=by simp
      refine⟨l++[x],W,tx W,_,_,by rw[a],rfl,by rw[a];omega,aP W,I rfl,I ?_,by rw[a] at ab;exact ab,bc⟩;obtain⟨a3,a4,_⟩:=HS.o;rw[HF.o];obtain⟨a1,hm⟩:∃ a1,A.length=a1+1:=⟨A.length-1,by omega⟩;rw[hm,nB,d8 hr,a3,a4,ap.o,<- ao.o];exact Je _ _ _ _ (by omega) (aGi _)
     case measure=>
      show (tx W).size<F.size;rw[aP];omega
def pY (w:y4) (v:y5) (l:List By):Prop:=∃ a c b,v=O (M ⟨a,c,J⟩) l.length b/\a<w.heap.size/\l.length<=b/\l.length<=9223372036854775807/\∀ b d,l[b]?=M d->w ⟨a,c+b,J⟩=M (b9 (tx d))
theorem pY.m {w w':y4} {v:y5} {l:List By} (d:pY w v l) (a:d7 w w'):pY w' v l:=by
 obtain⟨b,m,c,e,f,g,h,i⟩:=d;exact⟨b,m,c,e,aGs f a.size,g,h,λk n j=>a.c (i k n j)⟩
def Ac (l:List By):List y5:=l.map λa=>aIA (tx a)
theorem pY.of {w:y4} {base:Nat} {v:y5} {l:List By} (a:w.ownsRow base 9 1 v l.length (Ac l)) (k:l≠[]):pY w v l:=by
 rcases a.2 with ⟨_,d⟩|⟨g,c,n,rfl,o,f,e,j,p,q⟩
 ·exact absurd (aGv d) k
 refine⟨g,0,c,rfl,(aGq.1 f).1,e,by unfold o0 at j;omega,λb m h=>?_⟩;have i:(Ac l)[b]?=M (b9 (tx m)):=by unfold Ac;rw[aHt,h];rfl
 have:=a.cells (g:=g) rfl b _ i;unfold Addr.add at this;split at this <;> simp_all
theorem sH:∀ (s a:By) (x:By),x∈eA a s->x.length<=a.length+s.length
 | [],a,x,b=>by
  unfold eA at b;rw[aHf.1 b];simp
 | c::r,a,x,b=>by
  unfold eA at b;by_cases d:c=32
  ·rw[c7 d] at b;rcases aH1.1 b with rfl|b
   ·simp
   have:=sH r [] x b;simp at this ⊢;omega
  rw[d8 d] at b;have:=sH r _ x b;simp at this ⊢;omega
theorem pM:∀ (s a:By),(eA a s).length<=s.length+1
 | [],a=>by simp[eA]
 | c::r,a=>by
  unfold eA;split
  ·have:=pM r [];simp;omega
  have:=pM r (a++[c]);simp;omega
theorem Xc:(prog.info? 9).map (λa=>(a.zero,a.size,a.bytes))=M (M (b9 ByteArray.empty),1,16):=by kernel_rfl
theorem Uz (s:By) (a b:Nat):(tx s).extract a b=tx ((s.drop a).take (b-a)):=by
 rw[<- oM ((tx s).extract a b)];congr 1;have:=Lib.extract_toList (tx s) a b;rw[ByteArray.toList_eq] at this;exact this
theorem Qv (l:List By) (x:By):Ac (l++[x])=Ac l++[b9 (tx x)]:=by simp[Ac]
theorem aCm (s:By) (hs:s.length<=4096) (w:y4) :
  y8 prog 58 #[b9 (tx s)] w λn b=>∃ a,n=zv a/\pY b a (fA s)/\d7 w b:=by
 have hz:=aP s;obtain⟨N,P,Q,R,S⟩:=s8 Xc;go_enter func58,ntmps58;go_wp2;go_loopw [3,4,5] (λd c u wr=>∃ (a b:Nat) (l:List By),u=Y Z a/\c=Y Z b/\a<=s.length+1/\b<=a/\Hid (wr.ownsRow w 9 1 d l.length (Ac l))/\d7 w wr/\Hid (l.length<=a/\(a<=s.length->fA s=l++eA ((s.drop b).take (a-b)) (s.drop a))/\(s.length<a->fA s=l))) (λd c u _=>s.length+1-(intOf u).toNat);exact⟨0,0,[],rfl,rfl,by omega,by omega,I (aGQ _ _ _ _),b8 _,I ⟨by simp,λ_=>by simp[fA],λE=>by omega⟩⟩;obtain⟨a,b,l,rfl,rfl,v,hq,f,d,c⟩:=hrel;by_cases a3:a<s.length+1
 ·have a0:(a:Int)<=((tx s).size:Int):=by omega
  have a2:l.length<=4097:=by have:=c.1;omega
  by_cases X:a=s.length
  ·subst X;have W:((s.length:Int) == ((tx s).size:Int))=true:=by simp;omega
   have i:=I (show fA s=l++[(s.drop b).take (s.length-b)] from by
    rw[c.2.1 (by omega),show s.drop s.length=[] from List.drop_of_length_le (by omega)];rfl)
   have T:(0:Int)<=b:=by omega
   have U:(b:Int)<=(s.length:Int):=by omega
   have V:(s.length:Int)<=((tx s).size:Int):=by omega
   have A:=I (Uz s b s.length);have e:=f.o;have j:l.length+1<=o0:=by unfold o0;omega
   have k:(l.length+1)*16<=140737488355328:=by omega
   have m:w.heap.size<=(wr.alloc (zt #[b9 ((tx s).extract b s.length)] 9)).heap.size:=by have:=d.size;simp;omega
   obtain⟨x,y,z,h⟩:=zp j k m c.1;clear c f j k m;go_wp2_with (at_builtin;refine r6 _ rfl _ _ 82 rfl w 9 N _ 1 16 underlying82 P Q R S rfl (by decide) _ _ _ rfl (e.alloc _) ⟨wr,0,J⟩ 1 1 [b9 ((tx s).extract b s.length)] rfl rfl (wN _ rfl _ _) (by simp[aGr]) x y z ?_);intro K D q p G;have H:=(d.a (zt #[b9 ((tx s).extract b s.length)] 9)).gr p (λa v=>bN e a v);have C:=I (show D.ownsRow w 9 1 K (l++[(s.drop b).take (s.length-b)]).length (Ac (l++[(s.drop b).take (s.length-b)])) from by
    rw[Qv,aGb,<- A.o];exact q)
   have B:=I (by rw[aGb];have:=h.o;simp;omega:(l++[(s.drop b).take (s.length-b)]).length<=s.length+1);clear e q p G d;go_wp2;go_roundw;exact⟨s.length+1,s.length+1,l++[(s.drop b).take (s.length-b)],by go_num,by go_num,by omega,by omega,C,H,I ⟨B.o,λE=>by omega,λ_=>i.o⟩⟩;simp[intOf]
  have W:((a:Int) == ((tx s).size:Int))=false:=by simp;omega
  have L:a<(tx s).size:=by omega
  have a1:=λw=>nK (tx s) a L w;have g:a<s.length:=by omega
  have r:=I (by rw[fM (tx s) a L];rfl:bV (tx s) a=(s[a]'g).toNat);have t:=I (show eA ((s.drop b).take (a-b)) (s.drop a)=if s[a]'g=32 then(s.drop b).take (a-b)::eA ((s.drop (a+1)).take (a+1-(a+1))) (s.drop (a+1)) else eA ((s.drop b).take (a+1-b)) (s.drop (a+1)) from by
   rw[aIF g,eA];split
   ·simp
   rw[show a+1-b=(a-b)+1 by omega,aHZ,List.getElem?_drop,show b+(a-b)=a by omega,aGm g];rfl)
  by_cases F:bV (tx s) a=32
  ·have o:s[a]'g=32:=by
    apply UInt8.toNat_inj.1;rw[<- r.o,F];rfl
   have i:=I (show fA s=(l++[(s.drop b).take (a-b)])++eA ((s.drop (a+1)).take (a+1-(a+1))) (s.drop (a+1)) from by
    rw[c.2.1 (by omega),t.o,c7 o];simp)
   have T:(0:Int)<=b:=by omega
   have U:(b:Int)<=a:=by omega
   have V:(a:Int)<=((tx s).size:Int):=by omega
   have A:=I (Uz s b a);have e:=f.o;have j:l.length+1<=o0:=by unfold o0;omega
   have k:(l.length+1)*16<=140737488355328:=by omega
   have m:w.heap.size<=(wr.alloc (zt #[b9 ((tx s).extract b a)] 9)).heap.size:=by have:=d.size;simp;omega
   obtain⟨x,y,z,h⟩:=zp j k m c.1;clear c f j k m t r o;go_wp2_with (at_builtin;refine r6 _ rfl _ _ 82 rfl w 9 N _ 1 16 underlying82 P Q R S rfl (by decide) _ _ _ rfl (e.alloc _) ⟨wr,0,J⟩ 1 1 [b9 ((tx s).extract b a)] rfl rfl (wN _ rfl _ _) (by simp[aGr]) x y z ?_);intro K D q p G;have H:=(d.a (zt #[b9 ((tx s).extract b a)] 9)).gr p (λa v=>bN e a v);have C:=I (show D.ownsRow w 9 1 K (l++[(s.drop b).take (a-b)]).length (Ac (l++[(s.drop b).take (a-b)])) from by
    rw[Qv,aGb,<- A.o];exact q)
   have B:=I (by rw[aGb];have:=h.o;simp;omega:(l++[(s.drop b).take (a-b)]).length<=a+1);clear e q p G d;go_wp2;go_roundw;exact⟨a+1,a+1,l++[(s.drop b).take (a-b)],by go_num,by go_num,by omega,by omega,C,H,I ⟨B.o,λ_=>i.o,λE=>by omega⟩⟩;simp[intOf];omega
  have e:((bV (tx s) a:Int) == 32)=false:=by simp;omega
  have o:¬ s[a]'g=32:=λn=>F (by rw[r.o,n];rfl);obtain⟨i,h⟩:=zr (by rw[c.2.1 (by omega),t.o,d8 o]:fA s=l++eA ((s.drop b).take (a+1-b)) (s.drop (a+1))) c.1;clear c t r o F;generalize bV (tx s) a=j at *
  go_wp2;go_roundw;exact⟨a+1,b,l,by go_num,rfl,by omega,by omega,f,d,I ⟨by have:=h.o;omega,λ_=>i.o,λE=>by omega⟩⟩;simp[intOf];omega
 have a0:¬ (a:Int)<=((tx s).size:Int):=by omega
 have e:=I (c.2.2 (by omega));have g:=I (pY.of f (λn=>vE s [] (by rw[show eA [] s=fA s from rfl,e.o];exact n)));obtain⟨h,i,u,rfl,_⟩:=g.o;go_wp2;go_ret;exact⟨_,rfl,by rw[e.o];exact g,d⟩
theorem Mt (l:List Int) (n:Int):cY (l++[n])=cY l++32::Lib.itoa n:=by simp[cY]
def iF (n:Int):Prop:=-9223372036854775808<n/\n<=9223372036854775807
theorem pR {n:Int} (a:iF n):(Lib.itoa n).length<=21:=Lib.itoa_length_le n (by have:=a.1;omega) a.2
theorem jD:∀ (l:List Int),(∀ n∈l,iF n)->(cY l).length<=22*l.length
 | [],_=>by simp[cY]
 | n::l,h=>by
  have d:=jD l (λc b=>h c (aGc _ b));have e:=pR (h n (aHv ..));have a:cY (n::l)=32::Lib.itoa n++cY l:=by simp[cY]
  rw[a];simp;omega
theorem tF (w:y4) (v:y5) (l:List Int) (j:fY w v l) (H:l.length<=4097) (q:∀ n∈l,iF n) :
  y8 prog 57 #[v] w λd a=>d=zv (b9 (tx (cY l)))/\d7 w a:=by
 obtain⟨N,c,rfl,C,_,_⟩:=j.i;obtain⟨x,o⟩:=zr j q;obtain⟨n,i⟩:∃ n,l.length=n:=⟨_,rfl⟩;have m:=I i;rw[i] at H C ⊢;clear j q i;go_enter func57,ntmps57;go_wp2;go_loopw [3,4] (λa c wr=>∃ k:Nat,c=Y Z k/\k<=n/\a=b9 (tx (cY (l.take k)))/\d7 w wr) (λa c _=>n-(intOf c).toNat);exact⟨0,rfl,by omega,by simp[cY,tx],b8 _⟩;obtain⟨k,rfl,R,rfl,g⟩:=hrel;by_cases F:k<n
 ·have G:=z7 k n;obtain⟨b,a⟩:=aV (f:=l) (k:=k) (by rw[m.o];exact F);rcases x.o with ⟨B,_⟩|⟨P,S,Q,d,_,_,_,_,p⟩
  ·rw[B] at a;simp at a
  cases d;have D:=(aBr.m _ _ _ _ _ g (p k b a)).1;rw[aGP] at D;have e:=o b (aGC a);have t:=I (λ(A:y4)=>lW b e.1 e.2 A);have hlen:=jD (l.take k) (λL K=>o L (aHA K));rw[aHB] at hlen;have E:=pR e;have r:(⟨#[32]⟩:ByteArray).size=1:=rfl;have T:¬ 9223372036854775807<(tx (cY (l.take k))).size+(⟨#[32]⟩:ByteArray).size:=by rw[aP,r];omega
  have h:=I (show tx (cY (l.take k))++(⟨#[32]⟩:ByteArray)=tx (cY (l.take k)++[32]) from gJ _ [32]);have U:¬ 9223372036854775807<(tx (cY (l.take k))++(⟨#[32]⟩:ByteArray)).size+(tx (Lib.itoa b)).size:=by
   rw[h.o,aP,aP,aGb];simp;omega
  have u:=I (show (tx (cY (l.take k))++(⟨#[32]⟩:ByteArray))++tx (Lib.itoa b)=tx (cY (l.take (k+1))) from by
   rw[h.o,gJ,aHZ,a];simp only[aIK];rw[Mt,aIf];rfl)
  have y:=I g;clear p a hlen E r h e g;go_wp2_with (go_at_call 19;refine(t _).m ?_;rintro d V ⟨rfl,s⟩;have z:=I (y.r s);clear s);go_roundw;exact⟨k+1,by go_num,by omega,by rw[u.o],z⟩;simp[intOf];omega
 obtain rfl:k=n:=by omega
 have G:=z8 k k;have a:=I (show l.take k=l from aHF (by rw[m.o];exact aGi _));go_wp2;go_ret;exact⟨by rw[a.o];rfl,g⟩
section
variable {P:o9}
def endP (P:o9) (l:Nat) (b:r8->y4->Prop):Exit->Act->y4->Prop
 | .normal,_,a=>∃ c d,(Instr.endRound l J).run P a=.ok c d/\b (.returned c) d
 | .panic d,c,a=>c.defers=[]/\b (.panicked d) a
 | _,_,_=>False
theorem Uc {F:Fence} {n l:Nat} {f:FuncId} {fn:Func} {tmps:Array y5} {assign body:Code} {w:y4} {p:r8->y4->Prop} (L:P.funcs[f]?=M fn) (q:F.fn f)
  (D:assign.wpIn (F.inRound l) n P (Exit.then (λb c=>∃ a,(Instr.beginRound l).run P c=.ok () a/\body.wpIn (F.inRound l) n P (endP P l p) b a) (λ_ _ _=>False)) { tmps:=tmps,defers:=[]} w) :
  RoundIn F n P l f tmps assign body w p:=by
 refine⟨q,λd g Q=>?_⟩;obtain⟨a,h⟩:∃ a:Frame,{ (default:Frame) with fn:=f,kind:=.normal,roundOf:=M l }=a:=⟨_,rfl⟩;have B:Frame.round l f tmps assign body .normal=a.atR { tmps:=tmps,defers:=[]} [.code assign,.beginRound,.code body]:=by subst h;simp[Frame.round,Frame.atR]
 have i:a.roundOf=(F.inRound l).round:=by subst h;rfl
 have r:a.fn=f:=by subst h;rfl
 have N:a.kind=.normal:=by subst h;rfl
 have b:(F.inRound l).fn a.fn:=by rw[r];exact q
 have c:(F.inRound l).room ((d::g).length+1+n):=Q;obtain⟨A,z,S,t,u⟩:=D a [.beginRound,.code body] (d::g) i b c;rw[B];cases A with
 | normal=>
  obtain⟨T,G,E⟩:=t;have x:=(StepsIn.one (fenced_calm (fr:=a.atR z [.beginRound,.code body]) b c rfl) (stepR_beginRound (P:=P) i G):StepsIn (Machine.fenced P (F.inRound l)) P _ _);obtain⟨C,j,o,m,v⟩:=E a [] (d::g) i b c;cases C with
  | normal=>
   obtain⟨s,y,e,k⟩:=m;exact⟨zv s,y,k,(StepsIn.trans u x).trans (StepsIn.trans v (.one (fenced_calm (fr:=a.atR j []) b c rfl) (stepR_round_end i N e)))⟩
  | panic e=>
   obtain⟨K,k⟩:=m;obtain⟨y,R⟩:=v;have s:Frame.leaving P { a.atR j y with mode:=.panicking e } o (zu e):=⟨rfl,K,fn,by rw[<- L,<- r];rfl⟩;have H:(lone { a.atR j y with mode:=.panicking e } (d::g) o).fenced P (F.inRound l):=fenced_leaving b c s;exact⟨zu e,o,k,(StepsIn.trans u x).trans (StepsIn.trans R (.one H (step_leave_panicked s)))⟩
  | _=>exact m.elim
 | _=>exact t.elim
def Ld (f:FuncId) (n:Nat) (P:o9) (c:Code) (Q:Exit->Act->y4->Prop) (a:Act) (w:y4):Prop:=
 ∀ (b:Frame) (h:List Item) (e:List Frame),b.roundOf=J->b.fn=f->
  ∃ g d i,Q g d i/\ArrivesIn (Machine.fenced P Fence.wide) P (lone (b.atR a (.code c::h)) e w) b h e g d i
theorem fI {f:FuncId} {n:Nat} {c:Code} {Q:Exit->Act->y4->Prop} {a:Act} {w:y4} (e:c.wpIn Fence.wide n P Q a w):Ld f n P c Q a w:=
 λb h d g _=>e b h d g trivial (room_wide _)
theorem eD {f:FuncId} {n:Nat} {x y:Code} {Q:Exit->Act->y4->Prop} {a:Act} {w:y4} (v:Ld f n P x (Exit.then (Ld f n P y Q) Q) a w):Ld f n P (.seq x y) Q a w:=by
 intro d g e o m;have p:(lone (d.atR a (.code (.seq x y)::g)) e w).fenced P Fence.wide:=fenced_wide _ _;obtain⟨b,j,s,c,q⟩:=v d (.code y::g) e o m;have pass:=λ(h:Exit) (A:Q h j s) (k:h=b) (z:b≠.normal)=>(⟨h,j,s,A,.of_steps (.one p stepR_seq) (.pass (x:=.code y) rfl (λ_ _=>.inl (by rw[k];exact z)) (k▸q))⟩:∃ b i r,Q b i r/\ArrivesIn (Machine.fenced P Fence.wide) P (lone (d.atR a (.code (.seq x y)::g)) e w) d g e b i r);cases b with
 | normal=>
  obtain⟨u,t,D,B,C⟩:=c d g e o m;exact⟨u,t,D,B,.of_steps (.head p stepR_seq q) C⟩
 | exit id=>exact pass _ c rfl (by simp)
 | goto l=>exact pass _ c rfl (by simp)
 | ret=>exact pass _ c rfl (by simp)
 | panic t=>exact pass _ c rfl (by simp)
 | outgrown=>exact pass _ c rfl (by simp)
theorem pG {f:FuncId} {fn:Func} {n:Nat} {c:Code} {args:Array y5} {w:y4} {A:r8->y4->Prop} (C:P.funcs[f]?=M fn) (hb:fn.body=M c)
  (F:Ld f n P c (bodyPostM Fence.wide n P fn A) { tmps:=args++Array.replicate (fn.ntmps-args.size) u5,defers:=[]} w):y8 P f args w A:=by
 refine(callsIn_wide (n:=n)).1 ⟨trivial,λp v=>?_⟩;obtain⟨a,q⟩:∃ a:Frame,{ (default:Frame) with fn:=f,kind:=.normal,roundOf:=J }=a:=⟨_,rfl⟩;have E:Frame.enter P f args .normal=a.atR { tmps:=args++Array.replicate (fn.ntmps-args.size) u5,defers:=[]} [.code c]:=by subst q;simp[Frame.enter,Frame.atR,C,hb]
 have x:a.roundOf=none:=by subst q;rfl
 have d:a.fn=f:=by subst q;rfl
 have r:a.kind=.normal:=by subst q;rfl
 have u:P.funcs[a.fn]?=M fn:=by rw[d];exact C
 obtain⟨D,b,t,e,s⟩:=F a [] p x d;rw[E];cases D with
 | normal=>
  obtain⟨g,o,h,i,m,k,j⟩:=leaves_stepsInM b.defers .returning t { a.atR b [] with mode:=.returning } p rfl rfl rfl u r trivial v e;exact⟨g,o,h,i,ComesIn.of_steps (StepsIn.trans s (.one (fenced_wide _ _) (stepR_end x))) m,k.trans d,j⟩
 | ret=>
  obtain⟨z,y⟩:=s.1 x;obtain⟨g,o,h,i,m,k,j⟩:=leaves_stepsInM b.defers .returning t { a.atR b z with mode:=.returning } p rfl rfl rfl u r trivial v e;exact⟨g,o,h,i,ComesIn.of_steps y m,k.trans d,j⟩
 | panic B=>
  obtain⟨z,y⟩:=s;obtain⟨g,o,h,i,m,k,j⟩:=leaves_stepsInM b.defers (.panicking B) t { a.atR b z with mode:=.panicking B } p rfl rfl rfl u r trivial v e;exact⟨g,o,h,i,ComesIn.of_steps y m,k.trans d,j⟩
 | exit id=>exact e.elim
 | goto l=>exact e.elim
 | outgrown=>exact⟨.outgrown,t,a,e,s.resolve_left (by rw[r];simp),d,trivial⟩
def aFg {α:Type} (n:Nat) (P:o9) (g:Nat) (lb:Array y5) (encs:α->Array y5) (j:y4->y4->Prop) (xs:List α) (q:Nat) (w:y4):Prop:=
 ∀ (l:Nat) (b:List α->y4->Prop) (i:List m8->y4->Prop) (e:y4),Below w w e->pX q b->
  (∀ f h post c,xs=f++h::post->b f c->YieldAt Fence.wide (n-1) P l (encs h) c λd a=>
   (d=zv (zx true)/\b (f++[h]) a/\j c a)\/(∃ c,d=zu c/\i c a))->
  b [] e->
  CallsIn Fence.wide n P g (#[zy (.yield l) #[] #[]]++lb) e λd a=>(∃ f,d=zv f/\b xs a)\/(∃ c,d=zu c/\i c a)
def Xv {α:Type} (B:Nat) (d:y4->y4->Prop) (b:List α->y4->Prop) (c:List m8->y4->Prop) (xs:List α) (W:y4):Exit->Act->y4->Prop
 | .normal,_,a=>o6 B W a/\d W a/\b xs a
 | .panic f,e,a=>e.defers=[]/\o6 B W a/\c f a
 | _,_,_=>False
theorem uW {α:Type} {f:FuncId} {a6:Func} (ag:P.funcs[f]?=M a6) {n:Nat} {g:Operand} {t:Array Tmp} {assign body:Code} {Q:Exit->Act->y4->Prop} {a:Act} {w:y4} {gf:Nat} {lb:Array y5} (hg:a.eval g=zy (.func gf) #[] lb)
  (eg:∀ args w,(callFunc gf args).run P w=.ok (.enter gf args) w) {encs:α->Array y5} {p:y4->y4->Prop} {xs:List α} {q:Nat} {w0:y4} (aq:aFg (n-1) P gf lb encs p xs q w0)
  (a3:∀ {A B C:y4},p A B->p B C->p A C) (a2:∀ (W:y4) (l:Nat) (o o':Obj),w<=l->W.heap[l]?=M o->o.isCells=false->o.isWalk=false->p W (W.putObj l o'))
  (a4:Below w0 w0 w) (hq:q<w.heap.size) (an:∀ x,(encs x).size=t.size)
  (e:List α->y4->Prop) (T:List m8->y4->Prop) (v:OwnFrom w e) (a9:pX q e) (h0:e [] w) (a₁:α->Act)
  (aa:∀ (l:Nat) (x:α) (W:y4) (K:Act->y4->Prop),K (a₁ x) W->
   assign.wpIn (Fence.wide.inRound l) (n-1-1) P (Exit.then K (λ_ _ _=>False)) { tmps:=(t.zip (encs x)).foldl (λd (c,R)=>d.setIfInBounds c R) a.tmps,defers:=[]} W)
  (ad:∀ (l:Nat) (m:List α) (x:α) (post:List α) (W:y4),xs=m++x::post->e m W->body.wpIn (Fence.wide.inRound l) (n-1-1) P (Xv w p e T (m++[x]) W) (a₁ x) W)
  (af:∀ (D:Nat) (W:y4),w<=D->e xs W->W.heap[D]?=M (.deferred (M []))->Q .normal { a with defers:={ target:=.collected D,args:=#[]}::a.defers } W)
  (am:∀ (D:Nat) (h:List m8) (W:y4),w<=D->T h W->W.heap[D]?=M (.deferred (M []))->Q (.panic h) { a with defers:={ target:=.collected D,args:=#[]}::a.defers } W) :
  Ld f n P (Code.rangeFunc g t assign body) Q a w:=by
 intro b k cs ao ab;obtain⟨D,U⟩:∃ D,w.heap.size=D:=⟨_,rfl⟩
 let i:=Xq f a.tmps t assign body D
 let S:=w.alloc (.deferred (M []))
 let d:=S.alloc (.loop (i .ready J))
 have ap:S.heap.size=D+1:=by simp[S,U]
 have hL:d.heap[D+1]?=M (.loop (i .ready J)):=by rw[<- ap];exact aGY S _
 have a7:d.heap[D]?=M (.deferred (M [])):=(Below.heap_alloc _ _ _ (by omega)).trans (by rw[<- U];exact aGY w _);have a8:e [] d:=v.alloc _ (v.alloc _ h0);have ac:Below w0 w0 d:=a4.trans ((((Below.refl _ w).alloc (aGi _) _).alloc (by simp) _).m a4.size);have av:q<D:=by omega
 let a1:List α->y4->Prop:=λm W=>e m W/\W.heap[D+1]?=M (.loop (i .ready J))/\W.heap[D]?=M (.deferred (M []))
 let Jp:List m8->y4->Prop:=λh W=>T h W/\W.heap[D]?=M (.deferred (M []))
 have keep:∀ {A B:y4} {N:Option Nat} {a0:Nat} {o:Obj},A.grownBy B N->(∀ c,N=M c->c=q)->D<=a0->A.heap[a0]?=M o->B.heap[a0]?=M o:=λz G c ho=>
  (z.block _ (aGq.1 ho).1 (λu=>by have:=G _ u.symm;omega)).trans ho
 have tJ:pX q a1:=λs A B N c z G=>⟨a9 s A B N c.1 z G,keep z G (by omega) c.2.1,keep z G (aGi _) c.2.2⟩;have ae:=aq (D+1) a1 Jp d ac tJ (λm x post W ar hJ=>by
  obtain⟨E,j,F⟩:=hJ;have ak:D+1<W.heap.size:=(aGq.1 j).1;refine⟨f,_,assign,body,run_yield (P:=P) (args:=encs x) j (an x),Uc ag trivial (aa _ x W _ ⟨_,run_beginRound j rfl,?_⟩)⟩;obtain⟨r,y⟩:∃ r,W.putObj (D+1) (.loop { i .ready J with state:=.busy })=r:=⟨_,rfl⟩;have aj:r.heap[D+1]?=M (.loop { i .ready J with state:=.busy }):=by rw[<- y];exact aGZ ak
  have a5:r.heap[D]?=M (.deferred (M [])):=by rw[<- y];exact(aH0 (by omega)).trans F
  have al:p W r:=by rw[<- y];exact a2 _ _ _ _ (by omega) j rfl rfl
  have ah:e m r:=by rw[<- y];exact v.putObj _ E (by omega) j rfl
  show body.wpIn _ _ _ _ _ (W.putObj (D+1) (.loop { i .ready J with state:=.busy }));rw[y];refine wpIn_mono (ad _ m x post _ ar ah) ?_;rintro u au W3 X;cases u with
  | normal=>
   obtain⟨H,ai,V⟩:=X;have L:=H.same _ _ (by omega) aj rfl;exact⟨_,_,run_endRound (P:=P) J L,.inl ⟨rfl,⟨v.putObj _ V (by omega) L rfl,aGZ (aGq.1 L).1,(aH0 (by omega)).trans (H.same _ _ (by omega) a5 rfl)⟩,a3 (a3 al ai) (a2 _ _ _ _ (by omega) L rfl rfl)⟩⟩
  | panic h=>
   obtain⟨L,H,V⟩:=X;exact⟨L,.inr ⟨h,rfl,V,H.same _ _ (by omega) a5 rfl⟩⟩
  | _=>exact X.elim) ⟨a8,hL,a7⟩
 have he:(Instr.enterLoop b.fn a.tmps t assign body b.roundOf).run P w=.ok (D+1,[{ target:=.collected D,args:=#[]}]) d:=by
  have:=run_enterLoop_outer (P:=P) (w:=w) f a.tmps t assign body;rw[U] at this;rw[ao,ab];exact this
 have ai:(resolve a.eval (rangeCall g (D+1)) 0).run P d=.ok { target:=.fn (.func gf) lb,args:=#[zy (.yield (D+1)) #[] #[]]} d:=by
  simp only[resolve,hg];simp[go_sem]
 have ah:(invoke (.fn (.func gf) lb) #[zy (.yield (D+1)) #[] #[]]).run P d=.ok (.enter gf (#[zy (.yield (D+1)) #[] #[]]++lb)) d:=by simp[invoke,go_sem,eg]
 have L:=stepR_rangeFunc (P:=P) (b:=b) (a:=a) (k:=k) (cs:=cs) (w:=w) he ai ah;have r:∀ y:Machine,y.fenced P Fence.wide:=λy=>fenced_wide _ y;obtain⟨u,H,fr,y,X,aj,V⟩:=ae.2 (b.atR { a with defers:=[{ target:=.collected D,args:=#[]}]++a.defers } (.inRangeFunc (D+1)::k)::cs) (room_wide _);cases u with
 | outgrown=>rcases y with ⟨R,c,_⟩|⟨h,c,_⟩ <;> cases c
 | returned R=>
  rcases y with ⟨v',h',E,j,F⟩|⟨h,c,_⟩
  ·have a5:=run_endLoop (P:=P) j (by simp[i,Xq]);have hq:=af D (H.putObj (D+1) (.loop { i .ready J with state:=.exhausted })) (by omega) (v.putObj _ E (by omega) j rfl) ((aH0 (by omega)).trans F);refine⟨.normal,_,_,hq,.head (r _) L (StepsIn.trans X (.head (r _) ?_ (.one (r _) (stepR_endRangeFunc a5))))⟩;rw[<- finish_atR_inRangeFunc (D+1) R];exact step_leave_returned V
  cases c
 | panicked chain=>
  rcases y with ⟨v',c,_⟩|⟨h,c,E,F⟩
  ·cases c
  cases c;refine⟨.panic chain,_,H,am D chain H (by omega) E F,.inRangeFunc (D+1)::k,.head (r _) L (StepsIn.trans X (.one (r _) ?_))⟩;rw[<- Frame.raise_atR];exact step_leave_panicked V
end
theorem zR (s:By) (c:UInt8):Lib.indexByte s c=-1\/∃ a:Nat,Lib.indexByte s c=a/\a<s.length:=by
 have f:=Lib.indexByte_ge s c;by_cases d:Lib.indexByte s c=-1
 ·exact .inl d
 obtain⟨a,b⟩:∃ a:Nat,Lib.indexByte s c=a:=⟨(Lib.indexByte s c).toNat,by omega⟩;have e:=(Lib.indexByte_some b).1;exact .inr ⟨a,b,(aGw.1 e).1⟩
theorem Gk {s:By} (a:Lib.indexByte s 10=-1):sL s=s/\qI s=[]:=by
 unfold sL qI;rw[a];simp
theorem Dn {s:By} {k:Nat} (a:Lib.indexByte s 10=k):sL s=s.take (k+1)/\qI s=s.drop (k+1):=by
 unfold sL qI;rw[a,c7 (by omega),c7 (by omega),aGK];exact⟨rfl,rfl⟩
theorem Cu {s:By} (a:s≠[]):(qI s).length<s.length:=by
 have b:=aHX.2 a;rcases zR s 10 with d|⟨f,c,e⟩
 ·rw[(Gk d).2];simpa using b
 rw[(Dn c).2];simp;omega
theorem aEe (s:By):(sL s).length<=s.length:=by
 rcases zR s 10 with b|⟨d,a,c⟩
 ·rw[(Gk b).1];exact aGi _
 rw[(Dn a).1];simp;omega
def jX:Nat->By->List By
 | 0,_=>[]
 | f+1,s=>if s=[] then[] else sL s::jX f (qI s)
theorem Iy:∀ (f g:Nat) (s:By),s.length<=f->s.length<=g->jX f s=jX g s
 | 0,0,_,_,_=>rfl
 | 0,g+1,s,h,_=>by
  have:s=[]:=aGv (by omega);subst this;simp[jX]
 | f+1,0,s,_,h=>by
  have:s=[]:=aGv (by omega);subst this;simp[jX]
 | f+1,g+1,s,h1,h2=>by
  by_cases a:s=[]
  ·simp[jX,a]
  have:=Cu a;rw[jX,jX,d8 a,d8 a,Iy f g _ (by omega) (by omega)]
def fQ (s:By):List By:=jX s.length s
theorem Yl:fQ []=[]:=rfl
theorem Dm {s:By} (a:s≠[]):fQ s=sL s::fQ (qI s):=by
 have c:=aHX.2 a;have d:=Cu a;unfold fQ;obtain⟨n,b⟩:∃ n,s.length=n+1:=⟨s.length-1,by omega⟩;rw[b,jX,d8 a,Iy n (qI s).length _ (by omega) (aGi _)]
theorem Mv:∀ (f:Nat) (s:By),(jX f s).length<=f
 | 0,_=>by simp[jX]
 | f+1,s=>by
  rw[jX];split
  ·simp
  have:=Mv f (qI s);simp;omega
theorem xI (s:By):(fQ s).length<=s.length:=Mv _ _
theorem Mu:∀ (f:Nat) (s:By),∀ b∈jX f s,b.length<=s.length
 | 0,_,b,a=>by simp[jX] at a
 | f+1,s,b,a=>by
  rw[jX] at a;by_cases c:s=[]
  ·rw[c7 c] at a;cases a
  rw[d8 c] at a;rcases aH1.1 a with rfl|a
  ·exact aEe s
  have:=Mu f (qI s) b a;have:=Cu c;omega
theorem Iw {s:By}:∀ a∈fQ s,a.length<=s.length:=Mu _ _
def jA:List Queue->List By->Option (List Queue)
 | l,[]=>M l
 | l,x::xs=>match kX l (Lib.trimSuffix x [10]) with
  | none=>J
  | some a=>jA (l++[a]) xs
theorem Db:∀ (f:Nat) (l:List Queue) (s:By),wX f l s=jA l (jX f s)
 | 0,l,s=>rfl
 | f+1,l,s=>by
  rw[wX,jX];by_cases a:s=[]
  ·rw[c7 a,c7 a];rfl
  rw[d8 a,d8 a];show _=(match kX l (Lib.trimSuffix (sL s) [10]) with|none=>J|some b=>jA (l++[b]) (jX f (qI s)));cases kX l (Lib.trimSuffix (sL s) [10]) with
  | none=>rfl
  | some b=>exact Db f _ _
theorem Io (s:By):Iq s=jA [] (fQ s):=Db _ _ _
theorem Aw:∀ (a xs:List By) (l:List Queue),jA l (a++xs)=(jA l a).bind (λb=>jA b xs)
 | [],xs,l=>rfl
 | x::a,xs,l=>by
  show (match kX l (Lib.trimSuffix x [10]) with|none=>J|some b=>jA (l++[b]) (a++xs))=(match kX l (Lib.trimSuffix x [10]) with|none=>J|some b=>jA (l++[b]) a).bind _;cases kX l (Lib.trimSuffix x [10]) with
  | none=>rfl
  | some b=>exact Aw a xs _
theorem aAr {a:List By} {l:List Queue} {x:By} {q:Queue} (b:jA [] a=M l) (c:kX l (Lib.trimSuffix x [10])=M q):jA [] (a++[x])=M (l++[q]):=by
 rw[Aw,b];show jA l [x]=_;simp[jA,c]
theorem aAs {a post:List By} {l:List Queue} {x:By} (b:jA [] a=M l) (c:kX l (Lib.trimSuffix x [10])=J):jA [] (a++x::post)=none:=by
 rw[Aw,b];show jA l (x::post)=J;simp[jA,c]
theorem Av:∀ (xs:List By) (l a:List Queue),jA l xs=M a->a.length=l.length+xs.length
 | [],l,a,h=>by cases h;simp
 | x::xs,l,a,h=>by
  simp only[jA] at h;cases b:kX l (Lib.trimSuffix x [10]) with
  | none=>rw[b] at h;cases h
  | some c=>
   rw[b] at h;have:=Av xs _ _ h;simp at this ⊢;omega
theorem Hj:(prog.info? 5).map (λa=>(a.zero,a.size,a.bytes))=M (M (.int .u8 0),1,1):=by kernel_rfl
theorem En:(prog.info? 42).map (·.size)=M 2:=by kernel_rfl
theorem Sw (b:Nat) (w:y4) (d:w ⟨b,0,J⟩=M (zz (M ⟨b,0,J⟩))) :
  y8 prog 33 #[zz (M ⟨b,0,J⟩)] w λa c=>a=zv (zw #[])/\c=w:=by
 obtain⟨e,a,_⟩:=aIL.1 En;have c:=Lib.run_neq_ptr_same w ⟨b,0,J⟩ underlying39 a;go_enter func33,ntmps33;go_wp2_with fail
 try rw[c]
 go_wp2;go_end0;exact⟨rfl,rfl⟩
theorem Of (b:Nat) (w:y4) (f:w ⟨b,0,J⟩=M (zz J)) (c:w.shape? b=M (42,2)) (h:w.frozen? ⟨b,0,J⟩=false) :
  y8 prog 33 #[zz (M ⟨b,0,J⟩)] w λe a=>e=zv (zw #[])/\a=w.setCell ⟨b,0,J⟩ (zz (M ⟨b,0,J⟩)):=by
 obtain⟨j,a,d⟩:=aIL.1 En;have i:=Lib.run_to_unsafe w ⟨b,0,J⟩ underlying39 underlying124 a (by rw[d];decide) c (Nat.zero_lt_succ 1);have g:=Lib.run_from_unsafe w ⟨b,0,J⟩ underlying124 underlying39 a c (by kernel_rfl);go_enter func33,ntmps33;go_wp2_with fail;rw[run_callFunc_extern func86 (by kernel_rfl) (by kernel_rfl) (by kernel_rfl) (e:=Extern.AbiNoEscape.same) (by kernel_rfl),Lib.run_noEscape];simp only[Result.andThen];rw[Oper.upon_value];go_wp2;go_end0;exact⟨rfl,rfl⟩
def BIs (B b:Nat) (l:By) (w:y4):Prop:=Lib.IsBuilderF 42 5 B b (Lib.byteCells l) w
def BTo (B b:Nat) (l:By) (w w':y4):Prop:=BIs B b l w'/\Below B w w'/\Lib.OthersKept 5 (M b) w w'
theorem Zm (B b:Nat) (bs:List y5) (w:y4) (a:Lib.IsBuilderF 42 5 B b bs w) :
  y8 prog 33 #[zz (M ⟨b,0,J⟩)] w λd c=>d=zv (zw #[])/\(Lib.BuilderAtF 42 5 B b (zz (M ⟨b,0,J⟩)) bs c/\Below B w c/\Lib.OthersKept 5 (M b) w c):=by
 rcases a with a|a
 ·refine(Of b w a.cell0 a.shape a.frozen0).m ?_;rintro d c ⟨rfl,rfl⟩;exact⟨rfl,a.used _,(Below.refl B w).setCell (p:=⟨b,0,J⟩) a.1 _,(Lib.OthersKept.refl _ _ w).setCell ⟨b,0,J⟩ rfl _⟩
 refine(Sw b w a.cell0).m ?_;rintro d c ⟨rfl,rfl⟩;exact⟨rfl,a,Below.refl B _,Lib.OthersKept.refl _ _ _⟩
theorem aB4 (l:By) (c:UInt8):Lib.byteCells (l++[c])=Lib.byteCells l++[.int .u8 c.toNat]:=by simp[Lib.byteCells]
theorem Tc (l m:By):Lib.byteCells (l++m)=Lib.byteCells l++Lib.strCells (tx m):=by
 simp[Lib.byteCells,Lib.strCells,tx]
theorem Jo (B:Nat) (w:y4) (a:B<=w):BIs B w [] (w.alloc (zt #[zz J,O J 0 0] 42)):=
 .inl ⟨a,O J 0 0,y7 w _,World.ownsRowF_nil _ _ _ _,by simp[aHR]⟩
theorem BIs.alloc {B b:Nat} {l:By} {w:y4} (a:BIs B b l w) (o:Obj):BIs B b l (w.alloc o):=Lib.IsBuilderF.alloc a o
theorem Aj (B b:Nat) (l:By) (c:UInt8) (w:y4) (v:BIs B b l w) (hlen:l.length<=1000000) (a2:B<=w) :
  y8 prog 68 #[zz (M ⟨b,0,J⟩),.int .u8 c.toNat] w λe a=>e=zv .nilIface/\BTo B b (l++[c]) w a:=by
 obtain⟨i0,Q,V,W,X⟩:=s8 Hj;have z:=Lib.byteCells_length l;have r:=I (Zm B b (Lib.byteCells l) w v);clear v;go_enter func68,ntmps68;go_wp2_with fail;refine r.m ?_;rintro e g ⟨rfl,P,y,C⟩;obtain⟨x,q,h,m,D⟩:=P;have c0:g ⟨b,0,J⟩=M (zz (M ⟨b,0,J⟩)):=by rw[Lib.cell_of_heap h];rfl
 have c1:g ⟨b,1,J⟩=M q:=by rw[Lib.cell_of_heap h];rfl
 rw[z] at m;obtain⟨s,G,k,t,H⟩:=zm y C m h D;clear y C m h D r;have a3:=s.size;have S:b<g.heap.size:=(aGq.1 t).1;generalize A:(c.toNat:Int)=u at *;have F:=I A;clear A;generalize U:l.length=n at *;clear U;go_wp2_with (at_builtin;refine wpList_append_ownF _ rfl _ _ 40 rfl B 5 i0 (.int .u8 0) 1 1 underlying40 Q V W X rfl (by decide) _ _ _ rfl (k.alloc _) ⟨g,0,J⟩ 1 1 [.int .u8 u] rfl rfl ?c1 ?c2 ?c3 ?c4 ?c5 ?_)
 case c1=>
  intro d a1 a
  match d,a with
  | 0,a=>simp at a;subst a;simp[Addr.add]
 case c2=>intro a1 E;simp at E;subst E;rfl
 case c3=>unfold o0;omega
 case c4=>omega
 case c5=>simp;omega
 intro v' j o i _;have f:j.heap[b]?=M (zt #[zz (M ⟨b,0,J⟩),q] 42 (0,0)):=by
  rw[i.block b (by simp;omega) (λe=>H e.symm),Lib.alloc_old g _ b S];exact t
 have d0:j ⟨b,0,J⟩=M (zz (M ⟨b,0,J⟩)):=by rw[Lib.cell_of_heap f];rfl
 have d1:j ⟨b,1,J⟩=M q:=by rw[Lib.cell_of_heap f];rfl
 have f1:j.frozen? ⟨b,1,J⟩=false:=Lib.frozen_of_heap f 1;obtain⟨d,a,rfl⟩:∃ d a,v'=O (M ⟨d,0,J⟩) (n+1) a:=by
  rcases o.2 with ⟨_,R⟩|⟨d,a,L,N,K,_⟩
  ·omega
  exact⟨d,a,K⟩
 obtain⟨K,L,N⟩:=zq (((G.alloc _).grown i (Lib.ownsRowF_kind (k.alloc _))).setCell ⟨b,1,J⟩ rfl (O (M ⟨d,0,J⟩) (n+1) a)) (((s.alloc (by omega) _).grown i (by simp;omega) (λa0 R=>(k.lt a0 R).1)).setCell (p:=⟨b,1,J⟩) x (O (M ⟨d,0,J⟩) (n+1) a)) (Lib.BuilderAtF.put (T:=42) (e:=5) x f (bs':=Lib.byteCells l++[.int .u8 u]) (by simpa[z] using o) (by decide));clear o i f;go_wp2;go_ret;refine⟨rfl,.inr ?_,L,K⟩;rw[aB4,F.o];exact N
theorem qF (B b:Nat) (l m:By) (S:ByteArray) (k:S=tx m) (w:y4) (z:BIs B b l w) (hlen:l.length<=1000000) (V:m.length<=1000000) (a2:B<=w) :
  y8 prog 12 #[zz (M ⟨b,0,J⟩),b9 S] w λe a=>(∃ s,e=zv (zw #[s,.nilIface]))/\BTo B b (l++m) w a:=by
 obtain⟨i0,Q,X,a0,a1⟩:=s8 Hj;have D:=Lib.byteCells_length l;have v:=I (Zm B b (Lib.byteCells l) w z);have a3:S.size<=1000000:=by rw[k,aP];exact V
 have K:=I k;clear z k;go_enter func12,ntmps12;go_wp2_with fail;refine v.m ?_;rintro e u ⟨rfl,P,C,E⟩;obtain⟨A,t,f,o,F⟩:=P;have c0:u ⟨b,0,J⟩=M (zz (M ⟨b,0,J⟩)):=by rw[Lib.cell_of_heap f];rfl
 have c1:u ⟨b,1,J⟩=M t:=by rw[Lib.cell_of_heap f];rfl
 rw[D] at o;obtain⟨x,G,j,y,H⟩:=zm C E o f F;clear C E o f F v;have a4:=x.size;have U:b<u.heap.size:=(aGq.1 y).1;generalize W:l.length=n at *;clear W;go_wp2_with (at_builtin;refine Lib.wpList_append_own_stringF _ rfl _ _ 40 9 rfl B 5 i0 underlying40 underlying9 Q X a0 a1 _ _ _ rfl j S rfl ?c3 ?c4 ?c5 ?_)
 case c3=>unfold o0;omega
 case c4=>omega
 case c5=>omega
 intro v' i q g _;have c:i.heap[b]?=M (zt #[zz (M ⟨b,0,J⟩),t] 42 (0,0)):=by
  rw[g.block b U (λe=>H e.symm)];exact y
 have d0:i ⟨b,0,J⟩=M (zz (M ⟨b,0,J⟩)):=by rw[Lib.cell_of_heap c];rfl
 have d1:i ⟨b,1,J⟩=M t:=by rw[Lib.cell_of_heap c];rfl
 have f1:i.frozen? ⟨b,1,J⟩=false:=Lib.frozen_of_heap c 1;obtain⟨d,h,a,rfl⟩:∃ d h a,v'=O d h a:=by
  rcases q.2 with ⟨r,_⟩|⟨R,a,L,N,r,_⟩
  ·exact⟨_,_,_,r⟩
  exact⟨_,_,_,r⟩
 obtain⟨r,L,N⟩:=zq ((G.grown g (Lib.ownsRowF_kind j)).setCell ⟨b,1,J⟩ rfl (O d h a)) ((x.grown g (by omega) (λs R=>(j.lt s R).1)).setCell (p:=⟨b,1,J⟩) A (O d h a)) (Lib.BuilderAtF.put (T:=42) (e:=5) A c (bs':=Lib.byteCells l++Lib.strCells S) (by simpa[D,Lib.strCells_length] using q) (by decide));clear q g c;go_wp2;go_ret2;refine⟨⟨_,rfl⟩,.inr ?_,L,r⟩;rw[Tc,<- K.o];exact N
def Vt (w:y4) (q:By × Int) (e:r8) (w':y4):Prop:=e=zv (zw #[b9 (tx q.1),q.2])/\d7 w w'
theorem Be {b q:Nat} {w w':y4} {cs:Array y5} {t:o8} {c:Nat × Nat} (d:Lib.OthersKept 5 (M b) w w') (e:w.heap[q]?=M (zt cs t c)) (f:q≠b) (g:t≠5):w'.heap[q]?=M (zt cs t c):=
 d q _ e (λa=>f (b7 a)) (λh h a=>g (Obj.cells.inj a).2.1)
theorem BIs.dn {B b:Nat} {l:By} {w:y4} (a:BIs B b l w) (n:Nat):BIs B b l (w.drewN n):=a
theorem BIs.lt {B b:Nat} {l:By} {w:y4} (c:BIs B b l w):b<w.heap.size:=c.elim (λa=>a.lt) (λa=>a.lt)
theorem BIs.base {B b:Nat} {l:By} {w:y4} (c:BIs B b l w):B<=b:=c.elim (λa=>a.1) (λa=>a.1)
theorem cap_mem' {f:List Run} (c:eB f) {y:Run} {i:Nat} (d:f[i]?=M y):∃ a b:Nat,y.At=a/\y.N=b/\a<100/\b<100:=by
 have:=pF c y (aGC d);exact⟨y.At.toNat,y.N.toNat,by omega,by omega,by omega,by omega⟩
theorem Oy (n:Nat) (a:n<100) (w:y4):y8 prog 35 #[n] w λb c=>b=zv (b9 (tx (dig n)))/\c=w:=by
 rw[<- aFa a];exact Tryz.strconv_Itoa_small n a w
theorem aEy (w:y4) (v:y5) (l:List Queue) (a:aK w v l) (d:¬ aT l=0):y8 prog 20 #[v] w (Vt w (rE l)):=by
 obtain⟨b,c⟩:=zr (mH w v l a) (by unfold rE;rw[d8 d]:rE l=([],aT l));obtain⟨f,g,rfl,_⟩:=a.i;clear a;generalize aT l=i at *;generalize l.length=n at *;go_enter func20,ntmps20;go_wp2_with fail;refine b.m ?_;rintro h j ⟨rfl,e⟩;go_wp2;go_ret2;rw[c.o];exact⟨rfl,e⟩
theorem aFf (w:y4) (v:y5) (l:List Queue) (hv:aK w v l) (H:aT l=0):y8 prog 20 #[v] w (Vt w (rE l)):=by
 obtain⟨C,p,HR⟩:=zq (mH w v l hv) (gG H) (by unfold rE;rw[c7 H]:rE l=(gZ l,0));obtain⟨fa,fc,rfl,_,_,_,am⟩:=aAi hv;have HF:=I am;rw[H] at C;clear hv am H;generalize hn:l.length=n at *;have r:=I hn;clear hn;go_enter func20,ntmps20;go_wp2_with fail;refine C.m ?_;rintro j w1 ⟨rfl,a9⟩;obtain⟨be,b0⟩:=zr a9 (Jo w w1 a9.size);clear C a9;generalize hb:w1.heap.size=g at *;go_wp2;go_loopw [17] (λc wr=>∃ k:Nat,c=Y Z k/\k<=n/\Hid (BIs w g (nH l k) wr)/\Hid (d7 w wr)) (λc _=>n-(intOf c).toNat);exact⟨0,rfl,by omega,I (by rw[Mk];exact b0),I (be.a _)⟩;obtain⟨k,rfl,hk,y,q⟩:=hrel;have bx:=q.size;have bo:=y.lt;by_cases a5:k<n
 ·have bl:=z7 k n;obtain⟨a,m⟩:=aV (f:=l) (k:=k) (by rw[r.o];exact a5);have a4:k<l.length:=by rw[r.o];exact a5
  have au:nm l k=a.Q:=by unfold nm;rw[aGW,m];rfl
  have av:par l k=a.R:=by unfold par;rw[aGW,m];rfl
  have ak:cp l k=a.Cap:=by unfold cp;rw[aGW,m];rfl
  have a0:eB a.Cap:=by have:=p.caps k a4;rwa [ak] at this
  have ar:=(p.names k a4).1.2;rw[au] at ar;have aw:=p.pars k a4;rw[av] at aw;have bt:=yX p k;obtain⟨V,fo,rfl,bp,K⟩:=HF (by omega);obtain⟨c0,_,c1,_,cv,G,hu⟩:=dG.m w wr V _ a q (K k a m);obtain⟨_,_,_,_,bi,ah,a8⟩:=K k a m;obtain rfl:bi=cv:=by have:=q.c ah;rw[this] at G;exact b7 G
  obtain⟨e,t⟩:∃ e,a.Cap.length=e:=⟨_,rfl⟩;have A:=I t;have bq:e<=48:=by rw[<- t];exact Ek a0
  obtain⟨ua,uc,rfl,_,_,_⟩:=a8.i;rw[t] at G;obtain⟨HU,af,ba,bh,P⟩:=zm (by rw[<- t];exact a8:aR w (O ua e uc) a.Cap) a5 (show ∀ k a,l[k]?=M a->dG w V (fo+k*3) a from K) m a0;have t1:=deF (show ¬ (k:Int)<0 by omega);have t2:=deF (show ¬ (n:Int)<=(k:Int) by omega);have t3:=deF (show ¬ n<=k by omega);have br:(bs a.Q).length<=8:=by rw[iL];exact ar
  generalize hN:a.Q=i at *;obtain⟨HN,bd⟩:=zr hN (oM i);generalize hq:wr.heap.size=x at *;have a6:x≠g:=by omega
  clear K a0 au av ak hN hu a8 ah t;go_wp2_with fail;refine(qF w g (nH l k) (bs i) i bd.symm _ (y.alloc _) (by omega) (by omega) (by simp only[aHb];omega)).m ?_;rintro j F ⟨⟨bz,rfl⟩,ai,ay,ao⟩;obtain⟨ad,D,B⟩:=zq ai (Below.trans (q.a _) ay) (Be ao (by rw[<- hq];exact y7 wr _) a6 (by decide));have bv:=D.size;clear ai ay ao c0 c1 G;have q1:F ⟨x,1,J⟩=M (Y Z a.R):=y6 F x 1 _ _ _ B;by_cases W:0<=a.R
  focus
   obtain⟨b,N⟩:∃ b:Nat,a.R=b:=⟨a.R.toNat,by omega⟩;have a2:b<k:=by have:=aw.2;omega
   obtain⟨h,z⟩:=aV (f:=l) (k:=b) (by rw[r.o];omega);have Q:b<l.length:=by rw[r.o];omega
   have u:nm l b=h.Q:=by unfold nm;rw[aGW,z];rfl
   have s:=(p.names b Q).1.2;rw[u] at s;obtain⟨d0,_⟩:=dG.m w F V _ h D (ba b h z);have o:=I (by unfold fG;rw[c7 W,N,aGK,u,HN.o]:fG l a=bs i++([32,60,32]++bs h.Q));rw[N] at q1 W B;have u1:=deF (show ¬ (b:Int)<0 by omega);have u2:=deF (show ¬ (n:Int)<=(b:Int) by omega);have u3:=deF (show ¬ n<=b by omega);have a7:(bs h.Q).length<=8:=by rw[iL];exact s
   have bj:(fG l a).length<=30:=by rw[o.o];simp only[aGb,aGt,aGu];omega
   generalize hM:h.Q=d at *;have T:=I (by rw[<- gJ,oM];rfl:((⟨#[32,60,32]⟩:ByteArray)++d)=tx ([32,60,32]++bs d));have a1:d.size<=8:=s;clear u Q z hM;go_wp2_with fail;refine(qF w g (nH l k++bs i) ([32,60,32]++bs d) _ T _ ad (by simp only[aGb];omega) (by simp only[aGb,aGt,aGu];omega) (by omega)).m ?_;rintro j U ⟨⟨j3,rfl⟩,E,S,L⟩;have X:BIs w g (nH l k++fG l a) U:=by rw[o.o,<- aIf];exact E
   obtain⟨R,HQ⟩:=zr (Below.trans D S) (Be L B a6 (by decide));have a3:=R.size;clear E S L q1
  rotate_left;have o:=I (by unfold fG;rw[d8 W,HN.o];simp:fG l a=bs i);have bj:(fG l a).length<=30:=by rw[o.o];omega
  have X:BIs w g (nH l k++fG l a) F:=by rw[o.o];exact ad
  have R:=D;have HQ:=B;have bm:a.R<0:=by omega
  all_goals
   have b2:=I X;clear X;go_wp2_with fail;refine(Aj w g (nH l k++fG l a) 58 _ b2 (by simp only[aGb];omega) (by omega)).m ?_;rintro j W4 ⟨rfl,aj,az,ap⟩;obtain⟨b1,bf,bb⟩:=zq aj (Below.trans R az) (Be ap HQ a6 (by decide));clear aj az ap;have q2:W4 ⟨x,2,J⟩=M (O ua e uc):=y6 W4 x 2 _ _ _ bb;go_wp2;go_loopw [39] (λc wr=>∃ b:Nat,c=Y Z b/\b<=e/\Hid (BIs w g (nH l k++(fG l a++58::qE a.Cap b)) wr)/\Hid (d7 w wr)) (λc _=>e-(intOf c).toNat);exact⟨0,rfl,by omega,I (by have:=b1.o;simpa[qE,jG] using this),bf⟩;obtain⟨b,rfl,hi,z,E⟩:=hrel;have bw:=E.size;have bn:=z.lt;by_cases an:b<e
   ·have bk:=z7 b e;obtain⟨h,L⟩:=aV (f:=a.Cap) (k:=b) (by rw[A.o];exact an);obtain⟨_,_,al,_,_,_,a7⟩:=aAi (HU.m E);rw[A.o] at al a7;cases al;obtain⟨rb,ro,rfl,bu,ax⟩:=a7 (by omega);obtain⟨e0,e1,_⟩:=ax b h L;obtain⟨c,d,aa,ab,la,ln⟩:=cap_mem' P L;have HY:=I (by rw[Hh L];unfold mB;rw[aa,ab];rfl:qE a.Cap (b+1)=qE a.Cap b++(32::(dig c++61::dig d)));rw[aa] at e0;rw[ab] at e1;have s1:(tx (dig c)).size<=2:=by rw[aP];exact(nX c la).2
    have s2:(tx (dig d)).size<=2:=by rw[aP];exact(nX d ln).2
    have v1:=deF (show ¬ (b:Int)<0 by omega);have v2:=deF (show ¬ (e:Int)<=(b:Int) by omega);have v3:=deF (show ¬ e<=b by omega);obtain⟨M1,M2⟩:=zr (λS:y4=>Oy c la S) (λS:y4=>Oy d ln S);have aq:=Oj P b;have l1:=(nX c la).2;have l2:=(nX d ln).2;obtain⟨b3,bg⟩:=zr (λac=>z.alloc ac) (λac=>E.a ac);clear ax a7 L aa ab;obtain⟨T,a1⟩:∃ T,tx (dig c)=T:=⟨_,rfl⟩;obtain⟨U,a2⟩:∃ U,tx (dig d)=U:=⟨_,rfl⟩;rw[a1] at M1 s1;rw[a2] at M2 s2;obtain⟨b5,b6⟩:=zr a1 a2;clear a1 a2;obtain⟨ae,bc⟩:=zr an (by rw[<- b5.o,<- b6.o];simp only[cTx,gJ,aIf,aGd,aH9]:(⟨#[32]⟩:ByteArray)++T++⟨#[61]⟩++U=tx (32::(dig c++61::dig d)));go_wp2_with fail;have k0:(wr.alloc (zt #[c,d] 101)) ⟨wr,0,J⟩=M (Y Z c):=y6 _ _ 0 _ _ _ (y7 wr _);have k1:(wr.alloc (zt #[c,d] 101)) ⟨wr,1,J⟩=M (Y Z d):=y6 _ _ 1 _ _ _ (y7 wr _);obtain⟨b4,ag⟩:=zr (b3 (zt #[c,d] 101)) (bg (zt #[c,d] 101));generalize wr.alloc (zt #[c,d] 101)=Wb at *;refine kW (C:=λw'=>∃ n,w'=Wb.drewN n) 9 (by kernel_rfl) (by kernel_rfl) ⟨1,rfl⟩ ?_;simp only[aHi,aHj,aHk,aHl]
    repeat (go_big_quiet_step (first|exact Calls.quiet_of_same (M1 _)|exact Calls.quiet_of_same (M2 _)))
    refine i8 ?_;rintro w' ⟨nq,rfl⟩;go_wp2_with fail;refine(qF w g _ (32::(dig c++61::dig d)) _ bc _ (b4.dn nq) (by simp only[aGb,aGt];omega) (by simp only[aGb,aGt];omega) (ag.dn nq).size).m ?_;rintro j W5 ⟨⟨j5,rfl⟩,s,u,a3⟩;obtain⟨N,Q⟩:=zr s (Below.trans (ag.dn nq) u);clear s u a3;go_wp2;go_roundw
    case rel=>
     refine⟨b+1,by go_num,ae,I ?_,Q⟩;have:=N.o;rw[HY.o];simpa only[aIf,aGd,aH9] using this
    case measure=>have:=ae.o;simp[intOf];omega
   obtain rfl:b=e:=by omega
   have bk:=z8 b b;have c:qE a.Cap b=jG a.Cap:=by unfold qE;rw[aHF (by rw[A.o];exact aGi _)]
   rw[c] at z;have aq:=Ku a.Cap (pF P);rw[A.o] at aq;go_wp2_with fail;refine(Aj w g _ 10 _ z (by simp only[aGb,aGt];omega) (by omega)).m ?_;rintro j W5 ⟨rfl,s,u,a3⟩;obtain⟨N,Q⟩:=zr s (Below.trans E u);clear s u a3;go_wp2;go_roundw
   case rel=>
    refine⟨k+1,by go_num,af,I ?_,Q⟩;rw[Az bh.o];have:=N.o;simpa only[aIf,aGd,aH9] using this
   case measure=>have:=af.o;simp[intOf];omega
 obtain rfl:k=n:=by omega
 have bl:=z8 k k;have b:=I (Ro (l:=l) (k:=k) (by rw[r.o];exact aGi _));rw[b.o] at y;go_wp2_with fail;refine(Tryz.Builder_String_any_k w g (gZ l) _ y (by omega)).m ?_;rintro j d ⟨rfl,_,a,_⟩;have c:=I (Below.trans q a);clear a;go_wp2;go_ret2;rw[HR.o];exact⟨rfl,c⟩
theorem Zz (w:y4) (v:y5) (l:List Queue) (b:aK w v l):y8 prog 20 #[v] w (Vt w (rE l)):=by
 by_cases a:aT l=0
 ·exact aFf w v l b a
 exact aEy w v l b a
theorem aCb {w:y4} {n:String} {g:Nat} {cs:Array y5} (c:prog.globalNamed n=M g) (a:w.var? prog n=M cs):g<w.heap.size:=by
 unfold aIM at a;rw[c] at a;simp only[aIN] at a;cases b:w.heap[g]? with
 | none=>rw[b] at a;cases a
 | some d=>exact(aGq.1 b).1
theorem aBA {w w':y4} {n:String} {g:Nat} {cs:Array y5} (b:prog.globalNamed n=M g) (a:w.var? prog n=M cs) (d:d7 w w'):w'.var? prog n=M cs:=by
 have c:=d.block g (aCb b a);unfold aIM at a ⊢;rw[b] at a ⊢;simp only[aIN,c] at a ⊢;exact a
theorem aDO : prog.globalNamed "internal/strconv.uint64pow10" = M 3:=by kernel_rfl
theorem Xf : prog.globalNamed "strings.asciiSpace" = M 1:=by kernel_rfl
structure gC (w:y4):Prop where
 max:∃ m,w ⟨0,0,J⟩=M (Y Z m)
 sp : Lib.TabIs prog w "strings.asciiSpace" .u8 Lib.asciiSpaceTab
 wh:Lib.WhiteTab 2 w
 syn:∃ te pe,w ⟨4,0,J⟩=M (.iface te pe)
 rng:∃ te pe,w ⟨5,0,J⟩=M (.iface te pe)
 pow : Lib.TabIs prog w "internal/strconv.uint64pow10" .u64 Lib.pow10Tab
 big:6<=w.heap.size
theorem gC.e {w w':y4} (a:gC w) (b:d7 w w'):gC w' where
 max:=a.max.elim λd c=>⟨d,b.c c⟩
 sp:=aBA Xf a.sp b
 wh:=WhiteTab_below a.wh b
 syn:=a.syn.elim λc a=>a.elim λd a=>⟨c,d,b.c a⟩
 rng:=a.rng.elim λc a=>a.elim λd a=>⟨c,d,b.c a⟩
 pow:=aBA aDO a.pow b
 big:=aGR a.big b.size
def qV:List m8:=[{ v:=.iface 118 (.agg #[]),recovered:=false }]
theorem tX (w:y4):y8 prog 24 #[zx true] w λa b=>a=zv (zw #[])/\b=w:=by
 go_enter func24,ntmps24;go_wp2;go_end0;exact⟨rfl,rfl⟩
theorem zH (w:y4):y8 prog 24 #[zx false] w λa b=>a=zu qV/\b=w:=by
 go_enter func24,ntmps24;go_wp2_with fail;exact⟨rfl,rfl,rfl⟩
theorem Ok (w:y4) (e:o8) (t:ByteArray):d7 w (Lib.bytesWorld w e t):=by
 unfold Lib.bytesWorld;exact Lib.below_freeze ((b8 w).dr.a _) (aGi _) _
theorem aFJ (w:y4) (s:ByteArray) (g:s.size<=4096) (n:Int) (c:Lib.atoiAll (bs s)=.ok n) :
  y8 prog 73 #[b9 s] w λa b=>a=zv (Y Z n)/\d7 w b:=by
 have b:=I (Tryz.strconv_Atoi_ok s (by omega) n c w);clear c;go_enter func73,ntmps73;go_wp2_with fail;refine b.m ?_;rintro a f ⟨rfl,d⟩;have e:=I (by rcases d with rfl|⟨h,rfl⟩;exact b8 _;exact Ok _ _ _:d7 w f);clear d b;go_wp2_with fail;refine(tX _).m ?_;rintro a i ⟨rfl,rfl⟩;go_wp2;go_ret;exact⟨rfl,e⟩
theorem aF4 (w:y4) (h:gC w) (s:ByteArray) (o:s.size<=4096) (l:∀ n,Lib.atoiAll (bs s)≠.ok n) :
  y8 prog 73 #[b9 s] w λa c=>a=zu qV/\d7 w c:=by
 have k:=I (show y8 prog 90 #[b9 s] w λa c=>∃ m b,a=zv (zw #[m,.iface 220 (zz (M ⟨b,0,J⟩))])/\d7 w c from by
  cases g:Lib.atoiAll (bs s) with
  | ok n=>exact absurd g (l n)
  | _=>
   first
   | (
     obtain⟨j,i,f⟩:=h.syn;exact(Any.strconv_Atoi_syntax Tryz.laysC172 s (by omega) g _ w f (.inr ⟨j,i,rfl⟩)).m λa c ⟨b,d,_,_,e⟩=>⟨_,b,d,e⟩)
   | (
     obtain⟨j,i,f⟩:=h.rng;exact(Any.strconv_Atoi_range Tryz.laysC172 s (by omega) g _ w f (.inr ⟨j,i,rfl⟩)).m λa c ⟨b,d,_,_,e⟩=>⟨_,b,d,e⟩))
 clear l h;go_enter func73,ntmps73;go_wp2_with fail;refine k.m ?_;rintro a f ⟨m,b,rfl,d⟩;have e:=I d;clear d k;go_wp2_with fail;refine(zH _).m ?_;rintro a g ⟨rfl,rfl⟩;exact⟨rfl,rfl,e⟩
def NumIs (w:y4) (s:By) (e:r8) (w':y4):Prop:=(match Lib.atoiAll s with|.ok n=>e=zv (Y Z n)|_=>e=zu qV)/\d7 w w'
theorem aF5 (w:y4) (g:gC w) (s:By) (f:s.length<=4096) :
  y8 prog 73 #[b9 (tx s)] w (NumIs w s):=by
 have d:(tx s).size<=4096:=by rw[aP];exact f
 cases b:Lib.atoiAll s with
 | ok n=>
  refine(aFJ w (tx s) d n b).m λe h a=>⟨?_,a.2⟩;rw[b];exact a.1
 | _=>
  refine(aF4 w g (tx s) d (λn c=>by rw[mM,b] at c;cases c)).m λe h a=>⟨?_,a.2⟩;rw[b];exact a.1
theorem St {l:List Queue} {s:By} {k:Nat} {x:Queue} (a:l[k]?=M x) (c:bs x.Q=s) (f:∀ (j:Nat) (y:Queue),j<k->l[j]?=M y->bs y.Q≠s):cT l s=k:=by
 have e:=(aGw.1 a).1;have b:l.findIdx? (λg=>bs g.Q == s)=M k:=by
  rw[aGS];refine⟨e,?_,λj d=>?_⟩
  ·have:=(aGw.1 a).2;rw[this];simp[c]
  have:=f j _ d (aGm (by omega));simpa using this
 unfold cT;rw[b]
theorem Nz {l:List Queue} {s:By} (c:∀ (j:Nat) (y:Queue),l[j]?=M y->bs y.Q≠s):cT l s=-1:=by
 have a:l.findIdx? (λe=>bs e.Q == s)=none:=by
  rw[List.findIdx?_eq_none_iff];intro f d;obtain⟨j,b⟩:=aHK.1 d;simpa using c j f b
 unfold cT;rw[a]
theorem pV (l:List Queue) (s:By):cT l s=-1\/∃ a:Nat,cT l s=a/\a<l.length:=by
 unfold cT;cases a:l.findIdx? (λb=>bs b.Q == s) with
 | none=>exact .inl rfl
 | some b=>
  rw[aGS] at a;exact .inr ⟨b,rfl,a.1⟩
theorem aFW {a b:ByteArray} (c:bs a=bs b):a=b:=by rw[<- oM a,c,oM]
theorem vV {w:y4} {b o:Nat} {v:y5} (c:w ⟨b,o,J⟩=M v):b<w.heap.size:=by
 rcases aGD b w with a|a
 ·exact a
 simp[World.cell?,Array.getElem?_eq_none a] at c
theorem aCN (w:y4) (c:Nat) (a s:ByteArray) (p:Int) (v:y5) (e:∃ b n c,v=O b n c) (f:w ⟨c,0,J⟩=M (b9 s)) (g:a=s) :
  y8 prog 71 #[.agg #[b9 a,p,v],zz (M ⟨c,0,J⟩)] w λd h=>d=zv (zx true)/\d7 w h:=by
 have j:=Dh g;obtain⟨b,n,cp,rfl⟩:=e;have i:c<w.heap.size:=vV f;have d:=I (λh=>(b8 w).a h);go_enter func71,ntmps71;go_wp2;go_ret;exact⟨rfl,d _⟩
theorem aDW (w:y4) (c:Nat) (a s:ByteArray) (p:Int) (v:y5) (e:∃ b n c,v=O b n c) (f:w ⟨c,0,J⟩=M (b9 s)) (g:¬ a=s) :
  y8 prog 71 #[.agg #[b9 a,p,v],zz (M ⟨c,0,J⟩)] w λd h=>d=zv (zx false)/\d7 w h:=by
 have j:=xG g;obtain⟨b,n,cp,rfl⟩:=e;have i:c<w.heap.size:=vV f;have d:=I (λh=>(b8 w).a h);go_enter func71,ntmps71;go_wp2;go_ret;exact⟨rfl,d _⟩
theorem Pa (r:Nat) (a0:∀ (args:Array y5) (w:y4),(callFunc r args).run prog w=.ok (.enter r args) w)
  (t:∀ (b:Bool) (w:y4) (c:Nat) (a s:ByteArray) (p:Int) (v:y5),(∃ e n c,v=O e n c)->w ⟨c,0,J⟩=M (b9 s)->(a=s↔b=true)->y8 prog r #[.agg #[b9 a,p,v],zz (M ⟨c,0,J⟩)] w λg d=>g=zv (zx b)/\d7 w d)
  (w:y4) (v:y5) (l:List Queue) (o:aK w v l) (c:Nat) (s:ByteArray) (E:w ⟨c,0,J⟩=M (b9 s)) :
  y8 prog 70 #[v,zy (.func r) #[] #[zz (M ⟨c,0,J⟩)]] w λg d=>g=zv (Y Z (cT l (bs s)))/\d7 w d:=by
 have t:=I t;obtain⟨fa,fc,rfl,_,_,a1,F⟩:=aAi o;obtain⟨Q,P⟩:=zr F E;clear o F E;generalize H:l.length=n at *;have C:=I H;clear H;go_enter func70,ntmps70;go_wp2;go_loopw [8] (λh wr=>∃ k:Nat,k<=n/\h=Y Z k/\Hid (∀ d f,d<k->l[d]?=M f->bs f.Q≠bs s)/\Hid (d7 w wr)) (λh _=>n-(intOf h).toNat);exact⟨0,aGI _,rfl,I (λd f G=>absurd G (Nat.not_lt_zero _)),I (b8 w)⟩;obtain⟨k,hk,rfl,y,j⟩:=hrel;by_cases S:k<n
 ·obtain⟨e,A⟩:=Pv (l:=l) (k:=k) (by rw[C.o];exact S);obtain⟨b,a2,rfl,hb,D⟩:=Q (by omega);obtain⟨U,V,W,X,v,c5,o⟩:=dG.m w wr b _ e j (D k e A);obtain⟨K,L,rfl,_⟩:=o.i;have u:=j.c P;have B:=I A;clear o A D;generalize e.Cap.length=N at *;by_cases h:e.Q=s
  ·obtain⟨z,m⟩:=zr (t true wr c e.Q s e.R _ ⟨K,N,L,rfl⟩ u (by simp[h])) (St B (congrArg bs h) y);clear h u;go_wp2_with fail;refine z.m ?_;rintro g T ⟨rfl,q⟩;have x:=I (j.r q);clear q;go_wp2;go_ret;rw[m.o];exact⟨rfl,x⟩
  obtain⟨z,m⟩:=zr (t false wr c e.Q s e.R _ ⟨K,N,L,rfl⟩ u (by simp[h])) (show ∀ d f,d<k+1->l[d]?=M f->bs f.Q≠bs s from λd f G i=>if g:d=k then(λR=>h (by subst g;rw[B.o] at i;cases i;exact aFW R)) else y.o d f (by omega) i);clear h u;go_wp2_with fail;refine z.m ?_;rintro g T ⟨rfl,q⟩;have x:=I (j.r q);clear q;go_wp2;go_roundw;exact⟨k+1,by omega,by go_num,m,x⟩;simp[intOf];omega
 obtain rfl:k=n:=by omega
 have m:=I (Nz (l:=l) (s:=bs s) (λd f i=>y d f (by have:=(aGw.1 i).1;rw[C.o] at this;exact this) i));go_wp2;go_ret;rw[m.o];exact⟨rfl,j⟩
theorem Qi (w:y4) (v:y5) (l:List Queue) (i:aK w v l) (c:Nat) (s:ByteArray) (a:w ⟨c,0,J⟩=M (b9 s)) :
  y8 prog 70 #[v,zy (.func 71) #[] #[zz (M ⟨c,0,J⟩)]] w λb d=>b=zv (Y Z (cT l (bs s)))/\d7 w d:=
 Pa 71 (enters_of func71 (by kernel_rfl) rfl)
  (λh w c d s g v f a e=>by
   cases h with
   | true=>exact aCN w c d s g v f a (e.2 rfl)
   | false=>exact aDW w c d s g v f a (λb=>by have:=e.1 b;cases this))
  w v l i c s a
def aG5 (w:y4) (l:List Queue) (s:By) (e:r8) (w':y4):Prop:=d7 w w'/\(match kX l s with
 | some a=>∃ b,e=.returned (.agg #[.string a.Q,a.R,b])/\aR w' b a.Cap/\Qh w w' b/\a.Q.size<=4096/\I64 a.R
 | none=>e=.panicked qV)
theorem aAK {l:List Queue} {s A B:By} (a:Lib.cut s [58]=(A,B,false)):kX l s=none:=by unfold kX;simp[a]
theorem aAL {l:List Queue} {s A B N P:By} (a:Lib.cut s [58]=(A,B,true)) (b:Lib.cut A [32,60,32]=(N,P,true)) (c:cT l P<0):kX l s=none:=by
 unfold kX;simp[a,b,c]
theorem Yo {l:List Queue} {s A B N P:By} {c:Bool} {p:Int} (d:Lib.cut s [58]=(A,B,true)) (e:Lib.cut A [32,60,32]=(N,P,c)) (f:p=if c=true then cT l P else -1) (g:c=true->0<=p) :
  kX l s=(kG (Lib.fieldsD B)).map λh=>⟨tx N,p,h⟩:=by
 unfold kX;simp only[d,e,<- f,if_true];rw[d8 (by rintro⟨a,b⟩;have:=g a;omega)];rfl
theorem Fw:∀ (a b:List By),kG (a++b)=(kG a).bind (λc=>(kG b).map (λd=>c++d))
 | [],b=>by simp[kG]
 | w::a,b=>by
  have d:=Fw a b;simp only[aGd,kG,d];split
  ·split
   ·cases kG a with
    | none=>rfl
    | some c=>cases kG b <;> simp
   rfl
  rfl
theorem Rc {a:List By} {r:List Run} {x A N:By} {m n:Int} (b:kG a=M r) (e:Lib.cut x [61]=(A,N,true)) (c:Lib.atoiAll A=.ok m) (d:Lib.atoiAll N=.ok n):kG (a++[x])=M (r++[⟨m,n⟩]):=by
 rw[Fw,b];simp[kG,e,c,d]
theorem aCt {a b:List By} {x A N:By} {e:Bool} (j:Lib.cut x [61]=(A,N,e)) (g:e=true->(∀ c,Lib.atoiAll A≠.ok c)\/(∀ c,Lib.atoiAll N≠.ok c)):kG (a++x::b)=none:=by
 rw[Fw];have f:kG (x::b)=none:=by
  simp only[kG,j];cases e with
  | false=>simp
  | true=>
   rw[c7 rfl];cases h:Lib.atoiAll A with
   | ok c=>
    cases i:Lib.atoiAll N with
    | ok n=>rcases g rfl with d|d;exact absurd h (d c);exact absurd i (d n)
    | _=>rfl
   | _=>rfl
 rw[f];cases kG a <;> rfl
theorem Er {s:By} {n:Int} (a:Lib.atoiAll s=.ok n):I64 n:=by
 have:=Lib.atoiAll_bounds a;unfold I64;omega
theorem Kz (w:y4) (l:gC w) (s p:By) (S P:ByteArray) (j:S=tx s) (i:P=tx p) (o:s.length<=4096) {a b:By} {c:Bool} (h:Lib.cut s p=(a,b,c)) :
  y8 prog 69 #[b9 S,b9 P] w λd e=>d=zv (zw #[b9 (tx a),b9 (tx b),zx c])/\d7 w e:=by
 subst j;subst i;obtain⟨m,k⟩:=l.max;refine(Tryz.strings_Cut (tx s) (tx p) m w (by rw[aP];omega) k).m ?_;rintro d e ⟨rfl,n,rfl⟩;refine⟨?_,(b8 w).dn n⟩;have f:(tx s).data.toList=s:=by simp[tx]
 have g:(tx p).data.toList=p:=by simp[tx]
 rw[f,g,h];rfl
theorem tI:∀ (f:Nat) (cur l:By),(Lib.fieldsGoD f cur l).length<=(if cur=[] then 0 else 1)+l.length
 | 0,cur,l=>by unfold Lib.fieldsGoD;split <;> simp <;> omega
 | f+1,cur,l=>by
  unfold Lib.fieldsGoD;split
  ·split <;> simp <;> omega
  rename_i c
  have d:=aHX.2 c;split
  ·have a:=tI f [] (l.drop (Lib.decodeL l).2);simp only[c7,aI4] at a;rw[aGb];split <;> simp <;> omega
  have a:=tI f (cur++l.take (Lib.decodeL l).2) (l.drop (Lib.decodeL l).2);rw[aI4] at a;by_cases b:(Lib.decodeL l).2=0
  ·rw[b] at a ⊢;simp only[aHj,aG9,aHl] at a ⊢;omega
  split at a <;> omega
theorem tH:∀ (f:Nat) (cur l:By),∀ b∈Lib.fieldsGoD f cur l,b.length<=cur.length+l.length
 | 0,cur,l,b,a=>by
  unfold Lib.fieldsGoD at a;split at a
  ·cases a
  rw[aHf.1 a];omega
 | f+1,cur,l,b,a=>by
  unfold Lib.fieldsGoD at a;split at a
  ·split at a
   ·cases a
   rw[aHf.1 a];omega
  split at a
  ·rcases aGe.1 a with a|a
   ·split at a
    ·cases a
    rw[aHf.1 a];omega
   have c:=tH f _ _ b a;simp at c;omega
  have c:=tH f _ _ b a;simp at c;omega
theorem Jm (l:By):(Lib.fieldsD l).length<=l.length:=by
 have:=tI (l.length+1) [] l;unfold Lib.fieldsD;simpa using this
theorem Jl {l:By}:∀ a∈Lib.fieldsD l,a.length<=l.length:=λa b=>by
 unfold Lib.fieldsD at b;have:=tH (l.length+1) [] l a b;simpa using this
theorem Nt (W:y4) (b:Nat) (cs:Array y5):W.grownBy (W.setRow b cs) (M b):=
 ⟨rfl,rfl,rfl,by rw[size_setRow];exact aGi _,λd _ c=>setRow_other W b d cs (λa=>c (by rw[a]))⟩
theorem Xu {w:y4} {base e z n:Nat} {v:y5} {xs:List y5} (f:w.ownsRow base e z v n xs) (a:Addr) (m c:Nat) (d:v=O (M a) m c):base<=a.block:=by
 rcases f.2 with ⟨b,_⟩|⟨j,h,i,b,g,_⟩
 ·rw[d] at b;cases b
 rw[d] at b;cases b;exact g
theorem aBp (w:y4) (d:gC w) (B:By) (S:ByteArray) (h:S=tx B) (m:B.length<=4096) :
  y8 prog 72 #[b9 S] w λc b=>∃ a,c=zv (O (M ⟨a,0,J⟩) (Lib.fieldsD B).length (Lib.fieldsD B).length)/\w.heap.size<=a/\(∀ (i:Nat) (x:By),(Lib.fieldsD B)[i]?=M x->b ⟨a,i,J⟩=M (b9 (tx x)))/\d7 w b:=by
 subst h;refine(Tryz.strings_Fields_any (tx B) w (by rw[aP];omega) d.sp d.wh).m ?_;have e:(tx B).data.toList=B:=by simp[tx]
 rw[e];rintro c b ⟨a,rfl,f,k,l⟩;refine⟨a,rfl,f,λi x j=>?_,l⟩;have:=k.cells (g:=a) rfl i (b9 (tx x)) (by rw[aHt,j];rfl);rwa [aG0,aGx] at this
def aG4 (w:y4) (s:By) (e:r8) (w':y4):Prop:=((∃ n,Lib.atoiAll s=.ok n/\e=zv (Y Z n))\/((∀ n,Lib.atoiAll s≠.ok n)/\e=zu qV))/\d7 w w'
theorem Kr (w:y4) (f:gC w) (s:By) (e:s.length<=4096):y8 prog 73 #[b9 (tx s)] w (aG4 w s):=by
 refine(aF5 w f s e).m λa g c=>⟨?_,c.2⟩;have a:=c.1;cases b:Lib.atoiAll s with
 | ok n=>rw[b] at a;exact .inl ⟨n,rfl,a⟩
 | _=>rw[b] at a;exact .inr ⟨λn d=>(by cases d),a⟩
theorem qY {l:List Queue} {s B:By} {g:List Run->Queue} (f:kX l s=(kG (Lib.fieldsD B)).map g) {i:Nat} {x:By} (d:(Lib.fieldsD B)[i]?=M x) {b c:By} {e:Bool} (k:Lib.cut x [61]=(b,c,e)) (h:e=true->(∀ a,Lib.atoiAll b≠.ok a)\/(∀ a,Lib.atoiAll c≠.ok a)):kX l s=none:=by
 have m:=(aGw.1 d).1;have a:Lib.fieldsD B=(Lib.fieldsD B).take i++x::(Lib.fieldsD B).drop (i+1):=by
  have j:=(aGw.1 d).2;rw[<- j,<- aIF m,aIJ]
 rw[f,a,aCt k h];rfl
theorem Qu {α:Type} {l:List α} {i:Nat} {x:α} (a:l[i]?=M x):l.take (i+1)=l.take i++[x]:=by rw[aHZ,a];rfl
theorem aE4 (w:y4) (hw:gC w) (v:y5) (l:List Queue) (hv:aK w v l) (s:By) (hs:s.length<=4096) (hl:l.length<=4096) :
  y8 prog 23 #[v,b9 (tx s)] w (aG5 w l s):=by
 obtain⟨U,hA⟩:∃ U,(Lib.cut s [58]).1=U:=⟨_,rfl⟩;obtain⟨P,hB⟩:∃ P,(Lib.cut s [58]).2.1=P:=⟨_,rfl⟩;obtain⟨is,hI⟩:∃ is,(Lib.cut s [58]).2.2=is:=⟨_,rfl⟩;have aq:=I (by rw[<- hA,<- hB,<- hI]:Lib.cut s [58]=(U,P,is));have lA:U.length<=s.length:=by rw[<- hA];exact nY _ _
 have lB:P.length<=s.length:=by rw[<- hB];exact rT _ _
 clear hA hB hI;obtain⟨q,hA⟩:∃ q,(Lib.cut U [32,60,32]).1=q:=⟨_,rfl⟩;obtain⟨T,hB⟩:∃ T,(Lib.cut U [32,60,32]).2.1=T:=⟨_,rfl⟩;obtain⟨bc,hI⟩:∃ bc,(Lib.cut U [32,60,32]).2.2=bc:=⟨_,rfl⟩;have b5:=I (by rw[<- hA,<- hB,<- hI]:Lib.cut U [32,60,32]=(q,T,bc));have lN:q.length<=U.length:=by rw[<- hA];exact nY _ _
 have lP:T.length<=U.length:=by rw[<- hB];exact rT _ _
 clear hA hB hI;obtain⟨CA,CB,FI,HW,HV⟩:=zm (λ(i:y4) (m:d7 w i)=>Kz i (hw.e m) s [58] _ _ rfl rfl hs aq) (λ(i:y4) (m:d7 w i)=>Kz i (hw.e m) U [32,60,32] _ _ rfl rfl (by omega) b5) (λ(i:y4) (m:d7 w i)=>aBp i (hw.e m) P _ rfl (by omega)) hw hv;obtain⟨va,vc,rfl,_⟩:=hv.i;clear hv hw;cases is with
 | false=>
  have B:=I (aAK (l:=l) aq);generalize l.length=n at *;go_enter func23,ntmps23;go_wp2_with fail;refine(CA _ ((b8 w).a _)).m ?_;rintro d w1 ⟨rfl,K⟩;have aw:=I (((b8 w).a _).r K);clear K;go_wp2_with fail;refine(zH _).m ?_;rintro d w2 ⟨rfl,rfl⟩;refine⟨rfl,aw,?_⟩;rw[B.o]
 | true=>
  generalize hn:l.length=n at *;have Hn:=I hn;clear hn;go_enter func23,ntmps23;go_wp2_with fail;refine(CA _ ((b8 w).a _)).m ?_;rintro d w1 ⟨rfl,K⟩;obtain⟨cc,aw⟩:=zr (aO (y7 w _) K) (((b8 w).a _).r K);clear K;go_wp2_with fail;refine(tX _).m ?_;rintro d w2 ⟨rfl,rfl⟩;go_wp2_with fail;refine(CB _ aw).m ?_;rintro d w3 ⟨rfl,c2⟩;obtain⟨bj,cf⟩:=zr (aO cc c2) (aw.r c2);have cR:=cf.size;have d0:w.heap.size<w3.heap.size:=(aGq.1 bj).1;clear c2 cc aw CA CB;obtain⟨e,hX⟩:∃ e,w3.heap.size+1=e:=⟨_,rfl⟩;obtain⟨W4,ay⟩:∃ W4,(w3.alloc (zt #[b9 (tx T)] 9)).alloc (zt #[b9 (tx q),Y Z (-1),O J 0 0] 63)=W4:=⟨_,rfl⟩;have c3:d7 w3 W4:=by rw[<- ay];exact((b8 w3).a _).a _
  have ba:=I (show W4.heap[e]?=M (zt #[b9 (tx q),Y Z (-1),O J 0 0] 63 (0,0)) from by
   rw[<- ay,<- hX];have:=y7 (w3.alloc (zt #[b9 (tx T)] 9)) (zt #[b9 (tx q),Y Z (-1),O J 0 0] 63);rwa [aHb] at this)
  have cb:=I (show W4 ⟨w3,0,J⟩=M (b9 (tx T)) from by
   rw[<- ay];exact((b8 _).a _).c (y6 _ _ 0 _ _ _ (y7 w3 _)))
  obtain⟨b6,ap⟩:=zr (aO bj c3) (cf.r c3);have cE:w.heap.size<e:=by omega
  obtain⟨cg,ce⟩:=zr hX ay;clear c3 bj hX ay;cases bc with
  | true=>
   have c1:=pV l T;have IX:=I (Qi W4 _ l (HV.m ap) w3 (tx T) cb);rw[mM] at IX;have ci:=I (rfl:cT l T=cT l T);obtain⟨p,hp⟩:∃ p,cT l T=p:=⟨_,rfl⟩;have HP:=I hp;rw[hp] at c1 IX;clear hp ci;go_wp2_with fail;rw[ce.o,cg.o];refine IX.m ?_;rintro d y ⟨rfl,r⟩;obtain⟨cd,bb,a3⟩:=zq (aO b6 r) (aO ba r) (ap.r r);have cr:=r.size;clear r b6 ap ba;have x1:=y6 y e 1 _ _ _ bb;have f1:=x4 y e 1 _ _ bb;obtain⟨E,a4,av⟩:=zq (x6 y e 1 _ _ (Y Z p) bb) (a3.se (b:=e) (o:=1) (by omega) (Y Z p)) ((x7 y ⟨e,1,J⟩ w (Y Z p) (by show w≠e;omega)).trans cd);by_cases ch:0<=p
   ·have a5:=I (Yo (l:=l) aq b5 (p:=p) (by rw[HP.o];rfl) (λ_=>ch));have cF:-1<=p:=by omega
    have cL:p<5000:=by rw[Hn.o] at c1;omega
    go_wp2_with fail;refine(tX _).m ?_;rintro d W6 ⟨rfl,rfl⟩;generalize y.setCell ⟨e,1,J⟩ (Y Z p)=W8 at *;clear x1 f1 bb a3 cd c1;have ct:=a4.size;have cm:=(aGq.1 E).1;have bw:(tx q).size<=4096:=by rw[aP];omega
    go_wp2_with fail;refine(FI _ a4).m ?_;rintro d D ⟨Af,rfl,cl,az,a2⟩;obtain⟨be,bp,bq,bk⟩:=zp az (a4.r a2) (aO E a2) (aO av a2);have cu:=a2.size;have cq:=Jm P;clear az a2 a4 E av FI;generalize hm:(Lib.fieldsD P).length=H at *;have HM:=I hm;clear hm;have co:H<=4096:=by omega
    go_wp2;go_loopw [45] (λc i=>∃ (g:Nat) (f:List Run) (cv:y5),c=Y Z g/\g<=H/\D.heap.size<=i.heap.size/\Hid (f.length=g)/\Hid (kG ((Lib.fieldsD P).take g)=M f)/\Hid (i.heap[e]?=M (zt #[b9 (tx q),p,cv] 63 (0,0)))/\Hid (i.ownsRow D 101 2 cv f.length (bH Run.At Run.N f))/\Hid (∀ N∈f,I64 N.At/\I64 N.N)/\Hid (∀ h,h<D.heap.size->h≠e->i.heap[h]?=D.heap[h]?)/\Hid (d7 w i)) (λc _=>H-(intOf c).toNat);exact⟨0,[],O J 0 0,rfl,by omega,aGi _,I rfl,I (by simp[kG]),bq,I (aGQ _ _ _ _),I (by simp),I (λ_ _ _=>rfl),bp⟩;obtain⟨g,f,cv,rfl,hi,cw,aa,au,E,x,HI,HK,X⟩:=hrel;by_cases b2:g<H
    ·have bQ:=z7 g H;obtain⟨t,hx⟩:=aV (f:=Lib.fieldsD P) (k:=g) (by rw[HM.o];exact b2);have c4:t.length<=4096:=by have:=Jl t (aGC hx);omega
     obtain⟨V,ac⟩:∃ V,(Lib.cut t [61]).1=V:=⟨_,rfl⟩;obtain⟨N2,ad⟩:∃ N2,(Lib.cut t [61]).2.1=N2:=⟨_,rfl⟩;obtain⟨a9,ax⟩:∃ a9,(Lib.cut t [61]).2.2=a9:=⟨_,rfl⟩;have W:=I (by rw[<- ac,<- ad,<- ax]:Lib.cut t [61]=(V,N2,a9));have cy:V.length<=t.length:=by rw[<- ac];exact nY _ _
     have cz:N2.length<=t.length:=by rw[<- ad];exact rT _ _
     have c9:=be g t hx;have bv:=vV c9;have c0:wr ⟨Af,g,J⟩=M (b9 (tx t)):=(aHm (a:=⟨Af,g,J⟩) (HK Af bv (by omega))).trans c9;have CX:=I (Kz wr (HW.e X) t [61] _ _ rfl rfl c4 W);have t1:=deF (show ¬ (g:Int)<0 by omega);have t2:=deF (show ¬ (H:Int)<=(g:Int) by omega);have t3:=deF (show ¬ H<=g by omega);obtain⟨ar,a6⟩:=zr b2 hx;clear ac ad ax c9 hx;cases a9 with
     | false=>
      have B:=I (qY a5 a6 W (λm=>(by cases m)));go_wp2_with fail;refine CX.m ?_;rintro d w5 ⟨rfl,r⟩;have a3:=I (X.r r);clear r;go_wp2_with fail;refine(zH _).m ?_;rintro d w6 ⟨rfl,rfl⟩;go_wp2_with fail;refine⟨rfl,a3,?_⟩;rw[B.o]
     | true=>
      obtain⟨SA,SB⟩:=zr (λ(i:y4) (m:d7 w i)=>Kr i (HW.e m) V (by omega)) (λ(i:y4) (m:d7 w i)=>Kr i (HW.e m) N2 (by omega));go_wp2_with fail;refine CX.m ?_;rintro d w5 ⟨rfl,r⟩;have a3:=I r;clear r CX c0;go_wp2_with fail;refine(tX _).m ?_;rintro d w6 ⟨rfl,rfl⟩;have an:d7 wr w6:=a3.o;have ao:=X.r an;have G:=E.o;have S:=y6 _ e 2 _ _ _ G;have cn:=(aGq.1 G).1;obtain⟨ir,c5,c6,c8,ca⟩:=s8 info101;obtain⟨z,A,rfl⟩:=eV x;clear G;go_wp2_with fail;refine cN 10 (λi=>i ⟨e,2,J⟩=M (O z f.length A)) (by kernel_rfl) (an.dr.c S) (λa0=>?_);refine tkT 0 ?_;refine tkT 1 ?_;refine tkT 2 ?_;refine tkT 4 ?_;refine goT 3 λC j=>?_;simp only[zA,zB,zC];go_simp;refine(SA _ ao.dr).m ?_;rintro d W1 ⟨he,K⟩;rcases he with ⟨n1,ag,rfl⟩|⟨af,rfl⟩
      rotate_left
      ·obtain⟨B,HE⟩:=zr (qY a5 a6 W (λ_=>.inl af)) (ao.dr.r K);go_wp2_with fail;refine⟨rfl,HE,?_⟩;rw[B.o]
      have al:d7 wr W1:=an.dr.r K;have b3:d7 w W1:=ao.dr.r K;go_wp2_with fail;refine j.out _ _ (al.c S) λa0=>?_
      clear j C;refine goT 5 λC j=>?_;simp only[zA,zB,zC];go_simp;refine(SB _ b3).m ?_;rintro d W2 ⟨he,ak⟩;rcases he with ⟨n2,ah,rfl⟩|⟨af,rfl⟩
      rotate_left
      ·obtain⟨B,HE⟩:=zr (qY a5 a6 W (λ_=>.inr af)) (b3.r ak);go_wp2_with fail;refine⟨rfl,HE,?_⟩;rw[B.o]
      have am:d7 wr W2:=al.r ak;go_wp2_with fail;refine j.out _ _ (am.c S) λa0=>?_
      clear j C;refine tkT 6 ?_;refine goT 7 λC j=>?_;simp only[zA,zB,zC];go_simp;have bl:=I (Rc au W ag ah);have b0:=Er ag;have b1:=Er ah;have bf:=I (show ∀ N∈f++[(⟨n1,n2⟩:Run)],I64 N.At/\I64 N.N from λN hy=>by
       rcases aGe.1 hy with m|m
       ·exact HI N m
       rw[aHf.1 m];exact⟨b0,b1⟩)
      obtain⟨W3,ae⟩:∃ W3,W2.alloc (zt #[n1,n2] 101)=W3:=⟨_,rfl⟩;have L:d7 wr W3:=ae▸am.a _;have ai:=xF W2 rfl (Y Z n1) (Y Z n2) 101;rw[ae] at ai ⊢;have bx:f.length<=5000:=by rw[aa.o];omega
      have cx:=L.size;clear ag ah b0 b1;refine j.out _ _ (L.c S) λa0=>?_
      clear j C;refine goT 8 λC j=>?_;simp only[zA,zB,zC];refine e7 _ _ _ _ (by rfl) D 101 ir _ 2 16 underlying61 c5 c6 c8 ca rfl (by decide) (O z f.length A) f.length (bH Run.At Run.N f) (by rfl) (aJ x L) ⟨W2,0,J⟩ 1 1 [Y Z n1,Y Z n2] (by rfl) (by rfl) ai (xE _ _ _ _) (by unfold o0;omega) (by omega) (by omega) (λv5 y aj a1 bR=>?_);obtain⟨R,Q,rfl⟩:=Gc aj (by omega);have a7:y.heap[e]?=M (zt #[b9 (tx q),p,O z f.length A] 63 (0,0)):=(a1.block _ (by omega) (λd=>by have:=bN x _ d.symm;omega)).trans (aO E L);have r:d7 w y:=(X.r L).gr a1 (λab hg=>by have:=bN x ab hg;omega);have bz:∀ h,h<D.heap.size->h≠e->y.heap[h]?=D.heap[h]?:=λh hj a8=>(a1.block h (by omega) (λd=>by have:=bN x _ d.symm;omega)).trans ((L.block h (by omega)).trans (HK h hj a8));have cs:=a1.size;have b4:=y6 _ _ 2 _ _ _ a7;have bu:=x4 _ _ 2 _ _ a7;refine j.out _ _ b4 λa0=>?_
      clear j C;refine tkT 9 ?_;refine laT λC j=>?_;simp only[zA,zB,zC];go_simp;refine j.out _ _ ?_;clear j C;obtain⟨bo,bi,bt,bg,bn⟩:=zm (x6 y e 2 _ _ (O (M ⟨R,0,J⟩) (f.length+1) Q) a7) (mS (c:=e) (o:=2) (u:=O (M ⟨R,0,J⟩) (f.length+1) Q) aj (by omega)) (r.se (b:=e) (o:=2) (by omega) (O (M ⟨R,0,J⟩) (f.length+1) Q)) (λh (hj:h<D.heap.size) (a8:h≠e)=>(x7 y ⟨e,2,J⟩ h (O (M ⟨R,0,J⟩) (f.length+1) Q) a8).trans (bz h hj a8)) (by simp[aHP];omega:D.heap.size<=(y.setCell ⟨e,2,J⟩ (O (M ⟨R,0,J⟩) (f.length+1) Q)).heap.size);generalize y.setCell ⟨e,2,J⟩ (O (M ⟨R,0,J⟩) (f.length+1) Q)=W6 at *;clear a0 S b4 bu a7 r aj a1 bR ae al am L K ak ai x E
      go_wp2;go_roundw
      case rel=>
       refine⟨g+1,f++[⟨n1,n2⟩],_,by go_num,ar.o,bn.o,I (by simp[aa.o]),I (by rw[Qu a6.o];exact bl),bo,I ?_,bf,bg,bt⟩;have:=bi.o;simpa[bH] using this
      case measure=>have:=ar.o;simp[intOf];omega
    obtain rfl:g=H:=by omega
    have bQ:=z8 g g;have B:=I (show kX l s=M ⟨tx q,p,f⟩ from by
     have d:=au.o;rw[aHF (by rw[HM.o];exact aGi _)] at d;rw[a5.o,d];rfl)
    obtain⟨z,A,rfl⟩:=eV x;have G:=E.o;have k0:=y6 _ e 0 _ _ _ G;have k1:=y6 _ e 1 _ _ _ G;have S:=y6 _ e 2 _ _ _ G;have bx:f.length<=5000:=by rw[aa.o];omega
    obtain⟨HR,bm⟩:=zr ((HK w (by omega) (by omega)).trans bk) (show aR wr (O z f.length A) f from bL x HI (by omega));have bh:=I (show Qh w wr (O z f.length A) from λa n c d=>by
     have F:=x.2;rcases F with ⟨F,_⟩|⟨ab,cj,ck,F,hg,hh,_⟩
     ·rw[d] at F;cases F
     rw[d] at F;cases F;exact⟨by show w<=ab;omega,(aGq.1 hh).1⟩)
    obtain⟨bd,br⟩:=zr (x5 wr w _ #[b9 (tx q),p,O z f.length A] _ _ HR) (X.sr (b:=w) (aGi _) #[b9 (tx q),p,O z f.length A]);clear G;go_wp2_with (refine y9 rfl 63 _ _ rfl w #[b9 (tx q),p,O z f.length A] rfl rfl 63 _ HR vM rfl (by simp[aGr]) ?_);refine v6 (j6 rfl _ _ w 63 #[b9 (tx q),p,O z f.length A] (0,0) _ rfl bd underlying63 rfl vM) rfl ?_;refine⟨br.o,?_⟩;rw[B.o];refine⟨_,rfl,Fq bm (Nt wr w _) (λa n c d he=>?_),λa n c d=>?_,bw,by show I64 p;unfold I64;omega⟩
    ·have:=Xu x a n c d;have F:=b7 he;omega
    have:=bh a n c d;rw[size_setRow];exact this
   have cF:=deF ch;have B:=I (aAL (l:=l) aq b5 (by rw[HP.o];omega));go_wp2_with fail;refine(zH _).m ?_;rintro d W6 ⟨rfl,rfl⟩;refine⟨rfl,a4,?_⟩;rw[B.o]
  | false=>
   have a5:=I (Yo (l:=l) aq b5 (p:=-1) rfl (λm=>(by cases m)));have E:=ba;have av:=b6;have a4:=ap;have cr:=ap.size;clear ba b6 ap cb;have ct:=a4.size;have cm:=(aGq.1 E).1;have bw:(tx q).size<=4096:=by rw[aP];omega
   go_wp2_with fail;rw[ce.o,cg.o];refine(FI _ a4).m ?_;rintro d D ⟨Af,rfl,cl,az,a2⟩;obtain⟨be,bp,bq,bk⟩:=zp az (a4.r a2) (aO E a2) (aO av a2);have cu:=a2.size;have cq:=Jm P;clear az a2 a4 E av FI;generalize hm:(Lib.fieldsD P).length=H at *;have HM:=I hm;clear hm;have co:H<=4096:=by omega
   go_wp2;go_loopw [45] (λc i=>∃ (g:Nat) (f:List Run) (cv:y5),c=Y Z g/\g<=H/\D.heap.size<=i.heap.size/\Hid (f.length=g)/\Hid (kG ((Lib.fieldsD P).take g)=M f)/\Hid (i.heap[e]?=M (zt #[b9 (tx q),Y Z (-1),cv] 63 (0,0)))/\Hid (i.ownsRow D 101 2 cv f.length (bH Run.At Run.N f))/\Hid (∀ N∈f,I64 N.At/\I64 N.N)/\Hid (∀ h,h<D.heap.size->h≠e->i.heap[h]?=D.heap[h]?)/\Hid (d7 w i)) (λc _=>H-(intOf c).toNat);exact⟨0,[],O J 0 0,rfl,by omega,aGi _,I rfl,I (by simp[kG]),bq,I (aGQ _ _ _ _),I (by simp),I (λ_ _ _=>rfl),bp⟩;obtain⟨g,f,cv,rfl,hi,cw,aa,au,E,x,HI,HK,X⟩:=hrel;by_cases b2:g<H
   ·have bQ:=z7 g H;obtain⟨t,hx⟩:=aV (f:=Lib.fieldsD P) (k:=g) (by rw[HM.o];exact b2);have c4:t.length<=4096:=by have:=Jl t (aGC hx);omega
    obtain⟨V,ac⟩:∃ V,(Lib.cut t [61]).1=V:=⟨_,rfl⟩;obtain⟨N2,ad⟩:∃ N2,(Lib.cut t [61]).2.1=N2:=⟨_,rfl⟩;obtain⟨a9,ax⟩:∃ a9,(Lib.cut t [61]).2.2=a9:=⟨_,rfl⟩;have W:=I (by rw[<- ac,<- ad,<- ax]:Lib.cut t [61]=(V,N2,a9));have cy:V.length<=t.length:=by rw[<- ac];exact nY _ _
    have cz:N2.length<=t.length:=by rw[<- ad];exact rT _ _
    have c9:=be g t hx;have bv:=vV c9;have c0:wr ⟨Af,g,J⟩=M (b9 (tx t)):=(aHm (a:=⟨Af,g,J⟩) (HK Af bv (by omega))).trans c9;have CX:=I (Kz wr (HW.e X) t [61] _ _ rfl rfl c4 W);have t1:=deF (show ¬ (g:Int)<0 by omega);have t2:=deF (show ¬ (H:Int)<=(g:Int) by omega);have t3:=deF (show ¬ H<=g by omega);obtain⟨ar,a6⟩:=zr b2 hx;clear ac ad ax c9 hx;cases a9 with
    | false=>
     have B:=I (qY a5 a6 W (λm=>(by cases m)));go_wp2_with fail;refine CX.m ?_;rintro d w5 ⟨rfl,r⟩;have a3:=I (X.r r);clear r;go_wp2_with fail;refine(zH _).m ?_;rintro d w6 ⟨rfl,rfl⟩;go_wp2_with fail;refine⟨rfl,a3,?_⟩;rw[B.o]
    | true=>
     obtain⟨SA,SB⟩:=zr (λ(i:y4) (m:d7 w i)=>Kr i (HW.e m) V (by omega)) (λ(i:y4) (m:d7 w i)=>Kr i (HW.e m) N2 (by omega));go_wp2_with fail;refine CX.m ?_;rintro d w5 ⟨rfl,r⟩;have a3:=I r;clear r CX c0;go_wp2_with fail;refine(tX _).m ?_;rintro d w6 ⟨rfl,rfl⟩;have an:d7 wr w6:=a3.o;have ao:=X.r an;have G:=E.o;have S:=y6 _ e 2 _ _ _ G;have cn:=(aGq.1 G).1;obtain⟨ir,c5,c6,c8,ca⟩:=s8 info101;obtain⟨z,A,rfl⟩:=eV x;clear G;go_wp2_with fail;refine cN 10 (λi=>i ⟨e,2,J⟩=M (O z f.length A)) (by kernel_rfl) (an.dr.c S) (λa0=>?_);refine tkT 0 ?_;refine tkT 1 ?_;refine tkT 2 ?_;refine tkT 4 ?_;refine goT 3 λC j=>?_;simp only[zA,zB,zC];go_simp;refine(SA _ ao.dr).m ?_;rintro d W1 ⟨he,K⟩;rcases he with ⟨n1,ag,rfl⟩|⟨af,rfl⟩
     rotate_left
     ·obtain⟨B,HE⟩:=zr (qY a5 a6 W (λ_=>.inl af)) (ao.dr.r K);go_wp2_with fail;refine⟨rfl,HE,?_⟩;rw[B.o]
     have al:d7 wr W1:=an.dr.r K;have b3:d7 w W1:=ao.dr.r K;go_wp2_with fail;refine j.out _ _ (al.c S) λa0=>?_
     clear j C;refine goT 5 λC j=>?_;simp only[zA,zB,zC];go_simp;refine(SB _ b3).m ?_;rintro d W2 ⟨he,ak⟩;rcases he with ⟨n2,ah,rfl⟩|⟨af,rfl⟩
     rotate_left
     ·obtain⟨B,HE⟩:=zr (qY a5 a6 W (λ_=>.inr af)) (b3.r ak);go_wp2_with fail;refine⟨rfl,HE,?_⟩;rw[B.o]
     have am:d7 wr W2:=al.r ak;go_wp2_with fail;refine j.out _ _ (am.c S) λa0=>?_
     clear j C;refine tkT 6 ?_;refine goT 7 λC j=>?_;simp only[zA,zB,zC];go_simp;have bl:=I (Rc au W ag ah);have b0:=Er ag;have b1:=Er ah;have bf:=I (show ∀ N∈f++[(⟨n1,n2⟩:Run)],I64 N.At/\I64 N.N from λN hy=>by
      rcases aGe.1 hy with m|m
      ·exact HI N m
      rw[aHf.1 m];exact⟨b0,b1⟩)
     obtain⟨W3,ae⟩:∃ W3,W2.alloc (zt #[n1,n2] 101)=W3:=⟨_,rfl⟩;have L:d7 wr W3:=ae▸am.a _;have ai:=xF W2 rfl (Y Z n1) (Y Z n2) 101;rw[ae] at ai ⊢;have bx:f.length<=5000:=by rw[aa.o];omega
     have cx:=L.size;clear ag ah b0 b1;refine j.out _ _ (L.c S) λa0=>?_
     clear j C;refine goT 8 λC j=>?_;simp only[zA,zB,zC];refine e7 _ _ _ _ (by rfl) D 101 ir _ 2 16 underlying61 c5 c6 c8 ca rfl (by decide) (O z f.length A) f.length (bH Run.At Run.N f) (by rfl) (aJ x L) ⟨W2,0,J⟩ 1 1 [Y Z n1,Y Z n2] (by rfl) (by rfl) ai (xE _ _ _ _) (by unfold o0;omega) (by omega) (by omega) (λv5 y aj a1 bR=>?_);obtain⟨R,Q,rfl⟩:=Gc aj (by omega);have a7:y.heap[e]?=M (zt #[b9 (tx q),Y Z (-1),O z f.length A] 63 (0,0)):=(a1.block _ (by omega) (λd=>by have:=bN x _ d.symm;omega)).trans (aO E L);have r:d7 w y:=(X.r L).gr a1 (λab hg=>by have:=bN x ab hg;omega);have bz:∀ h,h<D.heap.size->h≠e->y.heap[h]?=D.heap[h]?:=λh hj a8=>(a1.block h (by omega) (λd=>by have:=bN x _ d.symm;omega)).trans ((L.block h (by omega)).trans (HK h hj a8));have cs:=a1.size;have b4:=y6 _ _ 2 _ _ _ a7;have bu:=x4 _ _ 2 _ _ a7;refine j.out _ _ b4 λa0=>?_
     clear j C;refine tkT 9 ?_;refine laT λC j=>?_;simp only[zA,zB,zC];go_simp;refine j.out _ _ ?_;clear j C;obtain⟨bo,bi,bt,bg,bn⟩:=zm (x6 y e 2 _ _ (O (M ⟨R,0,J⟩) (f.length+1) Q) a7) (mS (c:=e) (o:=2) (u:=O (M ⟨R,0,J⟩) (f.length+1) Q) aj (by omega)) (r.se (b:=e) (o:=2) (by omega) (O (M ⟨R,0,J⟩) (f.length+1) Q)) (λh (hj:h<D.heap.size) (a8:h≠e)=>(x7 y ⟨e,2,J⟩ h (O (M ⟨R,0,J⟩) (f.length+1) Q) a8).trans (bz h hj a8)) (by simp[aHP];omega:D.heap.size<=(y.setCell ⟨e,2,J⟩ (O (M ⟨R,0,J⟩) (f.length+1) Q)).heap.size);generalize y.setCell ⟨e,2,J⟩ (O (M ⟨R,0,J⟩) (f.length+1) Q)=W6 at *;clear a0 S b4 bu a7 r aj a1 bR ae al am L K ak ai x E
     go_wp2;go_roundw
     case rel=>
      refine⟨g+1,f++[⟨n1,n2⟩],_,by go_num,ar.o,bn.o,I (by simp[aa.o]),I (by rw[Qu a6.o];exact bl),bo,I ?_,bf,bg,bt⟩;have:=bi.o;simpa[bH] using this
     case measure=>have:=ar.o;simp[intOf];omega
   obtain rfl:g=H:=by omega
   have bQ:=z8 g g;have B:=I (show kX l s=M ⟨tx q,(-1),f⟩ from by
    have d:=au.o;rw[aHF (by rw[HM.o];exact aGi _)] at d;rw[a5.o,d];rfl)
   obtain⟨z,A,rfl⟩:=eV x;have G:=E.o;have k0:=y6 _ e 0 _ _ _ G;have k1:=y6 _ e 1 _ _ _ G;have S:=y6 _ e 2 _ _ _ G;have bx:f.length<=5000:=by rw[aa.o];omega
   obtain⟨HR,bm⟩:=zr ((HK w (by omega) (by omega)).trans bk) (show aR wr (O z f.length A) f from bL x HI (by omega));have bh:=I (show Qh w wr (O z f.length A) from λa n c d=>by
    have F:=x.2;rcases F with ⟨F,_⟩|⟨ab,cj,ck,F,hg,hh,_⟩
    ·rw[d] at F;cases F
    rw[d] at F;cases F;exact⟨by show w<=ab;omega,(aGq.1 hh).1⟩)
   obtain⟨bd,br⟩:=zr (x5 wr w _ #[b9 (tx q),Y Z (-1),O z f.length A] _ _ HR) (X.sr (b:=w) (aGi _) #[b9 (tx q),Y Z (-1),O z f.length A]);clear G;go_wp2_with (refine y9 rfl 63 _ _ rfl w #[b9 (tx q),Y Z (-1),O z f.length A] rfl rfl 63 _ HR vM rfl (by simp[aGr]) ?_);refine v6 (j6 rfl _ _ w 63 #[b9 (tx q),Y Z (-1),O z f.length A] (0,0) _ rfl bd underlying63 rfl vM) rfl ?_;refine⟨br.o,?_⟩;rw[B.o];refine⟨_,rfl,Fq bm (Nt wr w _) (λa n c d he=>?_),λa n c d=>?_,bw,by show I64 (-1);unfold I64;omega⟩
   ·have:=Xu x a n c d;have F:=b7 he;omega
   have:=bh a n c d;rw[size_setRow];exact this
attribute [local go_sem] Oper.semAt_some
def Vg (B:Nat) (W:y4):Nat:=match W ⟨B,0,J⟩ with|some (b9 x)=>x.size|_=>0
theorem vX {W:y4} {B:Nat} {t:o8} {x:ByteArray} (a:s9 W B t (b9 x)):Vg B W=x.size:=by unfold Vg;rw[a.cell]
theorem Tl (w:y4) (s:ByteArray) :
  y8 prog 11 #[b9 s] w λa b=>a=zv (zy (.func 31) #[] #[zz (M ⟨w,0,J⟩)])/\b=w.alloc (zt #[b9 s] 9):=by
 go_enter func11,ntmps11;go_wp2;go_ret;exact⟨rfl,rfl⟩
theorem Lg (r:By) (a b:Nat):(tx r).extract a b=tx ((r.drop a).take (b-a)):=by
 rw[<- oM ((tx r).extract a b)];congr 1;unfold bs;rw[Lib.extract_eq];simp[tx]
theorem aEd (r:By) (k:Nat):(tx r).extract 0 (k+1)=tx (r.take (k+1)):=by rw[Lg];simp
theorem aDM (r:By) (k:Nat):(tx r).extract (k+1) r.length=tx (r.drop (k+1)):=by
 rw[Lg,aHF (by simp)]
theorem aF8 (w:y4) (n:Nat):w.grownBy (w.drewN n) none:=⟨rfl,rfl,rfl,aGi _,λ_ _ _=>rfl⟩
theorem aCR (n:Nat) (hn:1<=n) (y q:Nat) (s:By) (hs:s.length<=4096) (j:List By->y4->Prop) (Jp:List m8->y4->Prop) (z:pX q j)
  (hY:∀ c d post W,fQ s=c++d::post->j c W->YieldAt Fence.wide (n-1) prog y #[b9 (tx d)] W λb a=>
   (b=zv (zx true)/\j (c++[d]) a/\bJ [q] W a)\/(∃ f,b=zu f/\Jp f a))
  (W:y4) (hB:s9 W q 9 (b9 (tx s))) (h0:j [] W) :
  CallsIn Fence.wide n prog 31 #[zy (.yield y) #[] #[],zz (M ⟨q,0,J⟩)] W λb a=>(∃ d,b=zv d/\j (fQ s) a)\/(∃ f,b=zu f/\Jp f a):=by
 refine callsIn_of_wp func31 rfl trivial ?_ rfl;simp only[ntmps31,aH2,aGt,aGu,aH3,aH4,aH5,aH6,aH7,aH8,aH9,aGd];gi_wp2;gi_loopw [] (λwr=>∃ (c:List By) (a:By),s9 wr q 9 (b9 (tx a))/\a.length<=4096/\Hid (fQ s=c++fQ a)/\j c wr) (λwr=>Vg q wr);exact⟨[],s,hB,hs,I rfl,h0⟩;obtain⟨c,a,h,ac,HL,l⟩:=hrel;have a6:=h.cell;have a2:=aP a;by_cases m:a=[]
 ·have d:=I (by rw[HL.o,m,Yl,aG9]:fQ s=c);have e:¬ (0:Int)<((tx a).size:Int):=by rw[a2,m];simp
  clear a2;gi_wp2;go_end0;exact .inl ⟨⟨_,rfl⟩,by rw[d.o];exact l⟩
 have ab:(0:Int)<(a.length:Int):=by have:=aHX.2 m;omega
 obtain⟨e,p⟩:=zr (by rw[HL.o,Dm m]:fQ s=c++sL a::fQ (qI a)) (Cu m);have a8:=h.frozen;have g:=hY c (sL a) (fQ (qI a));have x:=I (λ(W:y4)=>show y8 prog 32 #[b9 (tx a),.int .u8 10] W λb A=>b=zv (Y Z (Lib.indexByte a 10))/\A=W from Tryz.strings_IndexByte (tx a) 10 W);rcases zR a 10 with S|⟨w,R,aa⟩
 ·obtain⟨r,k⟩:=Gk S;rw[S] at x;rw[r,k] at g e;obtain⟨D,X,H,G⟩:=zp (h.set (b9 ⟨#[]⟩)) (z _ _ _ _ l (grownBy_setCell' wr q (b9 ⟨#[]⟩)) (λa b=>(b7 b).symm)) g (vX h);obtain⟨fn,a4,assign,body,U,P⟩:=H (wr.setCell ⟨q,0,J⟩ (b9 ⟨#[]⟩)) e X;clear S r k g l;gi_wp2;refine⟨trivial,(callsIn_wide.2 (x _)).mono ?_⟩;rintro b W1 ⟨rfl,Q⟩;obtain rfl:=Q.symm;gi_wp2;refine P.mono ?_;rintro b L (⟨rfl,t,v⟩|⟨f,rfl,T⟩)
  ·have u:s9 L q 9 (b9 (tx [])):=(v.same q (by simp) D.lt).trans D;obtain⟨o,F⟩:=zr u t;clear u v t U;gi_wp2;go_roundw;exact⟨c++[a],[],o,by simp,I (by rw[e.o];simp),F⟩;rw[vX o.o,G.o,aP,aP];exact aHX.2 m
  exact⟨rfl,.inr ⟨f,rfl,T⟩⟩
 obtain⟨r,k⟩:=Dn R;rw[R] at x;rw[r,k] at g e;rw[k] at p;obtain⟨i,a1⟩:∃ i,w+1=i:=⟨_,rfl⟩;have ad:IntKind.i64.wrap ((w:Int)+1)=(i:Int):=by rw[IntKind.wrap_i64];omega
 obtain⟨E,K⟩:=zr (aEd a w) (aDM a w);have c1:(0:Int)<=i:=by omega
 have c2:(i:Int)<=a.length:=by omega
 rw[a1] at g e p E K;obtain⟨B,hA⟩:∃ B,a.take i=B:=⟨_,rfl⟩;obtain⟨d,a0⟩:∃ d,a.drop i=d:=⟨_,rfl⟩;rw[hA] at g e E;rw[a0] at g e p K;obtain⟨D,X,H,G⟩:=zp (h.set (b9 (tx d))) (z _ _ _ _ l (grownBy_setCell' wr q (b9 (tx d))) (λa b=>(b7 b).symm)) g (vX h);have a9:(0:Int)<=w:=by omega
 have a3:d.length<=4096:=by have:=p.o;omega
 clear R r k g a1 hA a0;gi_wp2;refine⟨trivial,(callsIn_wide.2 (x _)).mono ?_⟩;rintro b W1 ⟨rfl,Q⟩;obtain rfl:=Q.symm;gi_wp2;refine wpIn_wide.2 ?_;refine kW (C:=λA=>∃ n,A=wr.drewN n) 9 (by kernel_rfl) (by kernel_rfl) ⟨1,rfl⟩ ?_;simp only[aHi,aHj,aHk,aHl]
 repeat (go_big_quiet_step (fail))
 refine i8 ?_;rintro A ⟨nq,rfl⟩;have N:s9 (wr.drewN nq) q 9 (b9 (tx a)):=h;have a5:=N.cell;have a7:=N.frozen;obtain⟨fn,a4,assign,body,U,P⟩:=H ((wr.drewN nq).setCell ⟨q,0,J⟩ (b9 (tx d))) e (z _ _ _ _ (z _ _ _ _ l (aF8 wr nq) (λa b=>(by cases b))) (grownBy_setCell' (wr.drewN nq) q (b9 (tx d))) (λa b=>(b7 b).symm));have V:=I (N.set (b9 (tx d)));clear l;rw[K.o,E.o];go_wp2_with fail;gi_wp2;refine P.mono ?_;rintro b L (⟨rfl,t,v⟩|⟨f,rfl,T⟩)
 ·have u:s9 L q 9 (b9 (tx d)):=(v.same q (by simp) V.lt).trans V;obtain⟨o,F⟩:=zr u t;clear u v t U;gi_wp2;go_roundw;exact⟨c++[B],d,o,a3,I (by rw[e.o];simp),F⟩;rw[vX o.o,G.o,aP,aP];exact p
 exact⟨rfl,.inr ⟨f,rfl,T⟩⟩
theorem Rw (n:Nat) (h:1<=n) (q:Nat) (s:By) (i:s.length<=4096) (w:y4) (a:s9 w q 9 (b9 (tx s))) :
  aFg n prog 31 #[zz (M ⟨q,0,J⟩)] (λb:By=>#[aIA (tx b)]) (bJ [q]) (fQ s) q w:=
 λk b c d f j g e=>aCR n h k q s i b c j g d ((f.block q a.lt).trans a) e
attribute [local go_sem] Oper.semAt_some
theorem sC {P:o9} {f:FuncId} {n id:Nat} {c:Code} {Q:Exit->Act->y4->Prop} {a:Act} {w:y4} (o:Ld f n P c (λd a w=>match d with|.normal=>Q .normal a w|.panic b=>Q (.panic b) a w|_=>False) a w):Ld f n P (.block id c) Q a w:=by
 intro h k i q p;have j:(lone (h.atR a (.code (.block id c)::k)) i w).fenced P Fence.wide:=fenced_wide _ _;obtain⟨d,g,m,e,l⟩:=o h (.inBlock id::k) i q p;cases d with
 | normal=>exact⟨.normal,g,m,e,.head j stepR_block (StepsIn.trans l (.one (fenced_wide _ _) stepR_inBlock))⟩
 | panic b=>exact⟨.panic b,g,m,e,l.elim λs r=>⟨s,.head j stepR_block r⟩⟩
 | _=>exact e.elim
def zY (w:y4) (q:List Queue × Int) (e:r8) (w':y4):Prop:=∃ a,e=zv (zw #[a,q.2])/\aK w' a q.1/\d7 w w'
theorem Xr (n L a:Nat) (u:o8) (d:y5) (f:List m8) (w:y4) (e:∃ b,w ⟨L,0,J⟩=M b) (c:∃ b,w ⟨a,0,J⟩=M b) (k:w.frozen? ⟨L,0,J⟩=false) (g:w.frozen? ⟨a,0,J⟩=false) (h:L≠a) :
  CallsDIn Fence.wide n prog 22 #[zz (M ⟨L,0,J⟩),zz (M ⟨a,0,J⟩)] (.panicking ({ v:=.iface u d,recovered:=false }::f)) w λb i j=>
   b=zv (zw #[])/\i=.panicking ({ v:=.iface u d,recovered:=true }::f)/\j=(w.setCell ⟨L,0,J⟩ (O J 0 0)).setCell ⟨a,0,J⟩ (Y Z 1):=by
 refine callsDIn_of_wpSIn func22 rfl trivial λi l i=>?_;apply wpSIn_seq;apply wpSIn_region;simp[wpOpsSIn,go_sem,recoverD,i,ntmps22,Exit.thenS];refine wpSIn_cond (t:=true) (by simp[Act.eval,Array.replicate]) ?_;simp only[if_true];refine wpSIn_of_wpIn rfl (wpIn_wide.2 ?_);show Code.wp _ _ _ { tmps:=#[zz (M ⟨L,0,J⟩),zz (M ⟨a,0,J⟩),.iface u d,zx true],defers:=[]} w;obtain⟨p,e⟩:=e;obtain⟨j,c⟩:=c;have m:(w.setCell ⟨L,0,J⟩ (O J 0 0)) ⟨a,0,J⟩=M j:=by rw[aIO _ _ _ _ (λb=>h (congrArg Addr.block b))];exact c
 have o:(w.setCell ⟨L,0,J⟩ (O J 0 0)).frozen? ⟨a,0,J⟩=false:=by rw[aIP];exact g
 go_wp2_with fail;simp[bodyPostS,results,results22]
theorem aCA (n L a:Nat) (w:y4) :
  CallsDIn Fence.wide n prog 22 #[zz (M ⟨L,0,J⟩),zz (M ⟨a,0,J⟩)] .returning w λb c d=>b=zv (zw #[])/\c=.returning/\d=w:=by
 refine callsDIn_of_wpSIn func22 rfl trivial λb d c=>?_;apply wpSIn_seq;apply wpSIn_region;simp[wpOpsSIn,go_sem,recoverD,c,ntmps22,Exit.thenS];refine wpSIn_cond (t:=false) (by simp[Act.eval,Array.replicate]) ?_;simp only[Bool.false_eq_true,if_false];refine wpSIn_of_wpIn rfl (wpIn_wide.2 (wp_skip ?_));cases b;simp_all [bodyPostS,results,results22]
theorem Du (W:y4) (L a:Nat):(invoke (.fn (.func 22) #[zz (M ⟨L,0,J⟩),zz (M ⟨a,0,J⟩)]) #[]).run prog W=.ok (.enter 22 #[zz (M ⟨L,0,J⟩),zz (M ⟨a,0,J⟩)]) W:=by simp[invoke,go_sem]
theorem yW {W:y4} {D k:Nat} {o c:Obj} (b:W.heap[k]?=M o) (a:k≠D):(W.putObj D c).heap[k]?=M o:=(aH0 a).trans b
theorem d7.put {a w:y4} (b:d7 a w) {D:Nat} (c:a<=D) (o:Obj):d7 a (w.putObj D o):=
 b.gr (v:=O (M ⟨D,0,J⟩) 0 0) (grownBy_putObj' w D o) (λd d=>by cases d;exact c)
theorem Dr (w W:y4) (D:Nat) (v:y5) (k:Int) (tmps:Array y5) (m:tmps[2]?.getD u5=zz (M ⟨w,0,J⟩)) (n:tmps[3]?.getD u5=zz (M ⟨w+1,0,J⟩))
  (t:d7 w W) (r:s9 W w 27 v) (p:s9 W (w+1) 22 (Y Z k)) (z:w.heap.size+1<D) (o:W.heap[D]?=M (.deferred (M []))) (q:List Queue × Int) (s:q=([],1)) :
  bodyPostM Fence.wide 5 prog Tryz.f7 (zY w q) (.panic qV) { tmps:=tmps,defers:=[{ target:=.collected D,args:=#[]},{ target:=.fn (.func 22) #[zz (M ⟨w,0,J⟩),zz (M ⟨w+1,0,J⟩)],args:=#[]}]} W:=by
 refine⟨by simp,.inl ⟨D,_,rfl,m7 o,?_⟩⟩;have d:s9 (W.putObj D (.deferred J)) w 27 v:=yW r (by omega);have c:s9 (W.putObj D (.deferred J)) (w+1) 22 (Y Z k):=yW p (by omega);have u:d7 w (W.putObj D (.deferred J)):=t.put (by omega) _;generalize W.putObj D (.deferred J)=f at *;refine⟨by simp,.inr ⟨λl=>(by cases l),_,_,_,_,rfl,Du f _ _,λ_ _=>trivial,?_⟩⟩;refine(Xr _ _ _ _ _ [] f ⟨_,d.cell⟩ ⟨_,c.cell⟩ d.frozen c.frozen (by omega)).mono ?_;rintro y A a ⟨rfl,rfl,e⟩;have i:s9 a w 27 (O J 0 0):=by
  rw[e];exact(x7 _ ⟨w+1,0,J⟩ w (Y Z 1) (by show w.heap.size≠w.heap.size+1;omega)).trans (d.set (O J 0 0))
 have j:s9 a (w+1) 22 (Y Z 1):=by
  rw[e];exact Boxed.set (v:=Y Z k) (Y Z 1) ((x7 _ ⟨w,0,J⟩ (w+1) (O J 0 0) (by show w.heap.size+1≠w.heap.size;omega)).trans c)
 have x:d7 w a:=by rw[e];exact(u.se (b:=w) (aGi _) _).se (b:=w+1) (by omega) _
 have g:=i.cell;have h:=j.cell;show LeavesIn _ _ _ _ _ _ [] (settle _) a;refine⟨zw #[O J 0 0,Y Z 1],?_,?_⟩
 ·simp[results,results7,m,n,asAddr,g,h,go_sem]
 rw[s];exact⟨_,rfl,SV.nil,x⟩
theorem aAN (w W:y4) (D:Nat) (v:y5) (k:Int) (l:List Queue) (tmps:Array y5) (f:tmps[2]?.getD u5=zz (M ⟨w,0,J⟩)) (g:tmps[3]?.getD u5=zz (M ⟨w+1,0,J⟩))
  (p:d7 w W) (m:s9 W w 27 v) (i:s9 W (w+1) 22 (Y Z k)) (x:w.heap.size+1<D) (h:W.heap[D]?=M (.deferred (M []))) (b:aK (W.putObj D (.deferred J)) v l) (q:List Queue × Int) (o:q=(l,k)) :
  bodyPostM Fence.wide 5 prog Tryz.f7 (zY w q) .ret { tmps:=tmps,defers:=[{ target:=.collected D,args:=#[]},{ target:=.fn (.func 22) #[zz (M ⟨w,0,J⟩),zz (M ⟨w+1,0,J⟩)],args:=#[]}]} W:=by
 refine⟨by simp,.inl ⟨D,_,rfl,m7 h,?_⟩⟩;have n:s9 (W.putObj D (.deferred J)) w 27 v:=yW m (by omega);have j:s9 (W.putObj D (.deferred J)) (w+1) 22 (Y Z k):=yW i (by omega);have r:d7 w (W.putObj D (.deferred J)):=p.put (by omega) _;generalize W.putObj D (.deferred J)=a at *;refine⟨by simp,.inr ⟨λe=>(by cases e),_,_,_,_,rfl,Du a _ _,λ_ _=>trivial,?_⟩⟩;refine(aCA _ _ _ a).mono ?_;rintro u y z ⟨rfl,rfl,rfl⟩;obtain⟨s,t,rfl,_⟩:=b.i;have c:=n.cell;have d:=j.cell;show LeavesIn _ _ _ _ _ _ [] (settle _) _;refine⟨zw #[O s l.length t,k],?_,?_⟩
 ·simp[results,results7,f,g,asAddr,c,d,go_sem]
 rw[o];exact⟨_,rfl,b,r⟩
structure jM (q:Nat) (W W':y4):Prop where
 size:W.heap.size<=W'.heap.size
 same:∀ (k:Nat) (o:Obj),W.heap[k]?=M o->o.isCells=true->k≠q->W'.heap[k]?=M o
theorem jM.cells {q:Nat} {W W':y4} {row:Option Nat} (d:W.grownBy W' row) (i:∀ a,row=M a->∃ b:Obj,W.heap[a]?=M b/\b.isCells=false):jM q W W':=
 ⟨d.size,λf b a h _=>(d.block f (aGq.1 a).1 (λg=>by
  obtain⟨j,e,c⟩:=i f g.symm;rw[a] at e;cases e;rw[h] at c;cases c)).trans a⟩
theorem jM.turn {q:Nat} {W W':y4} {row:Option Nat} (a:W.grownBy W' row) (f:∀ b,row=M b->b=q):jM q W W':=
 ⟨a.size,λc b b _ e=>(a.block c (aGq.1 b).1 (λd=>e (f c d.symm))).trans b⟩
theorem jM.e {q:Nat} {W W':y4} (a:d7 W W'):jM q W W':=⟨a.size,λc b b _ _=>(a.block c (aGq.1 b).1).trans b⟩
theorem Boxed.keep {q B:Nat} {W W':y4} {t:o8} {v:y5} (a:s9 W B t v) (b:jM q W W') (c:B≠q):s9 W' B t v:=b.same B _ a rfl c
theorem aEU {α:Type} {f g:α->Int} {q base:Nat} {W W':y4} {v:y5} {xs:List α} (d:SV 2 (E2 f g) W v xs) (m:jM q W W') (F:q<base) (hb:∀ a n b,v=O (M a) n b->base<=a.block):SV 2 (E2 f g) W' v xs:=by
 rcases d with d|⟨b,c,i,rfl,u,j,w,x,k⟩
 ·exact .inl d
 cases e:xs with
 | nil=>subst e;exact .inl ⟨rfl,_,i,rfl,by simpa using j⟩
 | cons D G=>
  have E:base<=b:=hb ⟨b,c,Option.none⟩ _ _ rfl;obtain⟨p,_⟩:=k 0 D (by rw[e];rfl);obtain⟨B,o,y⟩:=cells_of_cell p;have z:=m.same b B o y (by omega);have l:W'.heap[b]?=W.heap[b]?:=z.trans o.symm;rw[<- e];refine .inr ⟨b,c,i,rfl,u,j,w,aGs x m.size,λh C A=>?_⟩;obtain⟨r,s,t⟩:=k h C A;exact⟨(aHm (a:=⟨b,c+h*2,J⟩) l).trans r,(aHm (a:=⟨b,c+h*2+1,J⟩) l).trans s,t⟩
def Qg (base:Nat) (W:y4) (v:y5) (l:List Queue):Prop:=∃ a,Qs3 base W v l a/\∀ b∈a,∀ c∈b,∀ a n b,c=O (M a) n b->base<=a.block
theorem Qg.none (base:Nat) (W:y4):Qg base W (O J 0 0) []:=
 ⟨[],⟨aGQ _ _ _ _,rfl,λa b c a=>by simp at a,λb a=>by simp at a⟩,λb a=>by simp at a⟩
theorem Qg.t {base:Nat} {W:y4} {v:y5} {l:List Queue} (a:Qg base W v l):Ez base W v l:=a.elim λb a=>⟨b,a.1⟩
theorem Qg.keep {q base:Nat} {W W':y4} {v:y5} {l:List Queue} (a:Qg base W v l) (f:jM q W W') (x:q<base):Qg base W' v l:=by
 obtain⟨p,a,j⟩:=a;refine⟨p,⟨?_,a.len,λy d z h t=>?_,λd i m k b n c e=>⟨aGs (a.low d i m k b n c e).1 f.size,(a.low d i m k b n c e).2⟩⟩,j⟩
 ·refine⟨a.row.1,?_⟩;rcases a.row.2 with s|⟨g,o,r,rfl,u,w,rest⟩
  ·exact .inl s
  exact .inr ⟨g,o,r,rfl,u,f.same g _ w rfl (by omega),rest⟩
 obtain⟨g,rfl,r,o⟩:=a.each y d z h t;exact⟨g,rfl,aEU r f x (λb n c e=>j _ (aGC h) g (by simp) b n c e),o⟩
theorem d7.gro {a w w':y4} {row:Option Nat} (d:d7 a w) (e:w.grownBy w' row) (f:∀ b,row=M b->a.heap.size<=b):d7 a w':=by
 cases row with
 | none=>exact d.gr (v:=O J 0 0) e (λg c=>by cases c)
 | some b=>exact d.gr (v:=O (M ⟨b,0,J⟩) 0 0) e (λg c=>by cases c;exact f b rfl)
def sS (w:y4) (b:List By) (W:y4):Prop:=∃ l a,jA [] b=M l/\s9 W w 27 a/\s9 W (w+1) 22 (Y Z 0)/\Qg (w+3) W a l/\w.heap.size+3<=W.heap.size/\d7 w W
def aFA (w:y4) (s:By) (a:List m8) (W:y4):Prop:=a=qV/\(∃ b,s9 W w 27 b)/\s9 W (w+1) 22 (Y Z 0)/\d7 w W/\Iq s=J
theorem sS.keep {w:y4} {b:List By} {W W':y4} (c:sS w b W) (a:jM (w+2) W W') (i:d7 w W'):sS w b W':=by
 obtain⟨l,j,d,e,f,g,h,k⟩:=c;exact⟨l,j,d,Boxed.keep e a (by omega),Boxed.keep f a (by omega),g.keep a (by omega),aGR h a.size,i⟩
theorem sS.e {w:y4} {b:List By} {W:y4} (a:sS w b W):d7 w W:=by obtain⟨_,_,_,_,_,_,_,a⟩:=a;exact a
theorem sS.own (w:y4) (B:Nat) (f:w<=B):OwnFrom B (sS w):=λs a a a c d e=>
 c.keep (jM.cells d (λb a=>(e b a).2)) (c.e.gro d (λb a=>aGR f (e b a).1))
theorem sS.turns (w:y4):pX (w+2) (sS w):=λs a a a a b c=>
 a.keep (jM.turn b c) (a.e.gro b (λb a=>by have:=c b a;omega))
theorem mP {P:o9} {g:Array Oper} {Q:Exit->Act->y4->Prop} {S:y4->Prop} {n l id t:Nat} {a:Act} {w:y4} (h:Act->y4->Prop) (i:List m8->y4->Prop) (p:P.follows .mixedOrders=true) (o:tW g=true)
  (j:∀ b c,h b c->Q .normal b c) (k:∀ e b c,b.defers=[]->i e c->Q (.panic e) b c) (m:S w.drew)
  (d:S w.drew->lE P .any g (λf b c=>match f with|.normal=>h b c|.panic e=>b.defers=[]/\i e c|_=>False) S t g.size (Array.replicate g.size false) a w.drew):(Code.region id g true).wpIn (Fence.wide.inRound l) n P Q a w:=by
 refine wpIn_mono (Q:=λf b c=>match f with|.normal=>h b c|.panic e=>b.defers=[]/\i e c|_=>False) (wpIn_region_any p (lY o (λd=>by obtain⟨_,_,d⟩:=d;exact d) _ _ _ _ (sX _ _ _ _ (d m)))) ?_;rintro f b c d;cases f with
 | normal=>exact j b c d
 | panic e=>exact k e b c d.1 d.2
 | _=>exact d.elim
theorem aDp (w:y4) (s:By) (g:4096<s.length) (i:s.length<=9223372036854775807):y8 prog 7 #[b9 (tx s)] w (zY w (eK s)):=by
 have e:=I (by unfold eK;rw[c7 g]:eK s=([],2));have j:=aP s;have h:(4096:Int)<(s.length:Int):=by omega
 have f:=I (show d7 w ((w.alloc (zt #[O J 0 0] 27)).alloc (zt #[Y Z 2] 22)) from ((b8 w).a _).a _);have a:((w.alloc (zt #[O J 0 0] 27)).alloc (zt #[Y Z 2] 22)) ⟨w,0,J⟩=M (O J 0 0):=by
  have:=(b8 (w.alloc (zt #[O J 0 0] 27))).a (zt #[Y Z 2] 22);exact this.c (y6 _ _ 0 _ _ _ (y7 w _))
 have b:((w.alloc (zt #[O J 0 0] 27)).alloc (zt #[Y Z 2] 22)) ⟨w+1,0,J⟩=M (Y Z 2):=by
  have:=y6 _ _ 0 _ _ _ (y7 (w.alloc (zt #[O J 0 0] 27)) (zt #[Y Z 2] 22));rwa [aHb] at this
 obtain⟨c,d⟩:=zr a b;clear a b;go_enter func7,ntmps7;go_wp2_with fail;have a:=c.o;have b:=d.o;refine⟨rfl,zw #[O J 0 0,Y Z 2],?_,?_⟩
 ·simp[results,results7,asAddr,a,b,go_sem]
 rw[e.o];exact⟨_,rfl,SV.nil,f⟩
theorem aDo (w:y4) (hw:gC w) (s:By) (hs:s.length<=4096):y8 prog 7 #[b9 (tx s)] w (zY w (eK s)):=by
 have hz:=aP s;have hb:¬ (4096:Int)<(s.length:Int):=by omega
 obtain⟨HW,b1⟩:=zr hw (λ(d:y4)=>Tl d (tx s));obtain⟨C,r⟩:∃ C,((w.alloc (zt #[O J 0 0] 27)).alloc (zt #[Y Z 0] 22)).alloc (zt #[b9 (tx s)] 9)=C:=⟨_,rfl⟩;have ay:=I (by rw[<- r];exact((Boxed.new w _ _).alloc _).alloc _:s9 C w 27 (O J 0 0));have az:=I (show s9 C (w+1) 22 (Y Z 0) from by
  rw[<- r];have:=(Boxed.new (w.alloc (zt #[O J 0 0] 27)) 22 (Y Z 0)).alloc (zt #[b9 (tx s)] 9);rwa [aHb] at this)
 have b0:=I (show s9 C (w+1+1) 9 (b9 (tx s)) from by
  rw[<- r];have:=Boxed.new ((w.alloc (zt #[O J 0 0] 27)).alloc (zt #[Y Z 0] 22)) 9 (b9 (tx s));rwa [aHb,aHb] at this)
 have b6:=I (by rw[<- r];exact(((b8 w).a _).a _).a _:d7 w C);have W:C.heap.size=w.heap.size+3:=by rw[<- r];simp
 obtain⟨G,b5,b4⟩:=zq W r (Rw 4 (by omega) (w+1+1) s hs C b0);clear hw r W;refine pG (n:=5) func7 rfl ?_;simp only[ntmps7,aH2,aGt,aGu,aH3,aH4,aH5,aH6,aH7,aH8,aH9,aGd];refine eD (fI ?_);gi_wp2;refine eD (fI ?_);gi_wp2;refine eD (fI ?_);gi_wp2;refine eD (eD (fI ?_));gi_wp2;refine⟨trivial,(callsIn_wide.2 (b1 _)).mono ?_⟩;rintro a w1 ⟨rfl,rfl⟩;gi_wp2;refine sC ?_;rw[b5.o];obtain⟨d9,bc⟩:∃ c,decide ((4096:Int)<(s.length:Int))=c:=⟨_,rfl⟩;rw[bc];refine uW func7 (gf:=31) (lb:=#[zz (M ⟨w+1+1,0,J⟩)]) rfl (enters_of func31 (by kernel_rfl) rfl)
  b4.o (λk c=>k.r c) (bJ.put (by have:=G.o;intro av hj;simp only[aH1,aHa,or_false] at hj;omega)) (Below.refl _ _) (by have:=G.o;omega) (λ_=>rfl)
  (sS w) (aFA w s) (sS.own w _ (by have:=G.o;omega)) (sS.turns w) ⟨[],_,rfl,ay,az,Qg.none _ _,by rw[G.o];exact aGi _,b6⟩ (λx=>{ tmps:=#[b9 (tx s),u5,zz (M ⟨w,0,J⟩),zz (M ⟨w+1,0,J⟩),b9 (tx x),u5,u5,b9 (tx s),Y Z s.length,zx d9,zy (.func 22) #[] #[zz (M ⟨w,0,J⟩),zz (M ⟨w+1,0,J⟩)],b9 (tx s),zy (.func 31) #[] #[zz (M ⟨w+1+1,0,J⟩)],b9 (tx x),u5,u5,u5,u5,u5,u5,u5,u5,u5,u5,u5,u5,u5,u5,u5,u5,u5,u5,u5,u5,u5],defers:=[]}) ?assign ?body ?done ?pan
 case assign=>
  intro y x d u h;have c:=I h;clear h;gi_wp2;exact c
 case body=>
  intro y ax x post d a6 hI;refine wpIn_block ?_;dsimp only;obtain⟨l,v,i,z,P,Q,bm,K⟩:=hI;have hlen:=Av _ _ _ i;have a4:=xI s;rw[a6] at a4;simp only[aGb,aGt,aGu] at a4 hlen;have aa:l.length<=4096:=by omega
  have bo:x.length<=4096:=by have:=Iw (s:=s) x (by rw[a6];simp);omega
  obtain⟨t,p⟩:∃ t,Lib.trimSuffix x [10]=t:=⟨_,rfl⟩;have bn:t.length<=4096:=by
   rw[<- p];unfold Lib.trimSuffix;split
   ·rw[aHB];omega
   exact bo
  obtain⟨TR,LN⟩:=zr (λ(j:y4)=>show y8 prog 14 #[b9 (tx x),b9 ⟨#[10]⟩] j λa w'=>a=zv (b9 (tx t))/\w'=j from by rw[<- p];exact Tryz.strings_TrimSuffix (tx x) ⟨#[10]⟩ j (by rw[aP];omega)) (λ(j:y4) (k:d7 d j)=>aE4 j (HW.e (K.r k)) v l ((Q.t.v (by omega)).m k) t bn aa);obtain⟨a7,hQ,ai⟩:=Q;obtain⟨e,f,rfl⟩:=(show Ez _ d v l from ⟨a7,hQ⟩).i;have H:=z.cell;have W:=G.o;obtain⟨iq,bp,bq,br,bt⟩:=s8 Mf;obtain⟨n,hn⟩:∃ n,l.length=n:=⟨_,rfl⟩;have HN:=I hn;rw[hn] at LN z H hQ aa;clear hn;obtain⟨HQ,b2,ae,ad,af,ag,ah,ba⟩:=zi hQ ai z P K i p a6;clear hQ ai z P K i p a6;refine mP (S:=λj=>j ⟨w,0,J⟩=M (O e n f)) (t:=7) (λa' j=>o6 C d j/\bJ [w.heap.size+1+1] d j/\sS w (ax++[x]) j) (λch j=>o6 C d j/\aFA w s ch j) (by kernel_rfl) (by kernel_rfl) (λa' w' k=>k) (λch a' w' hd k=>⟨hd,k.1,k.2⟩) H (λa3=>?_);have ac:d7 d d.drew:=(b8 d).dr;refine tkT 0 ?_;refine tkT 1 ?_;refine tkT 2 ?_;refine goT 3 λu h=>?_;simp only[zA,zB,zC];go_simp;refine(TR _).m ?_;rintro a c ⟨rfl,rfl⟩
  go_wp2_with fail;refine h.out _ _ H λa3=>?_
  clear h u;refine goT 4 λu h=>?_;simp only[zA,zB,zC];go_simp;refine(LN _ ac).m ?_;rintro a c ⟨m,he⟩;cases V:kX l t with
  | none=>
   rw[V] at he;have o:a=zu qV:=he;subst o;have T:=ac.r m;exact⟨KeepsFrom.ext T,rfl,⟨_,aO ae T⟩,aO ad T,af.r T,by rw[Io,ba.o];exact aAs ag (by rw[ah.o];exact V)⟩
  | some y=>
   rw[V] at he;obtain⟨U,rfl,ap,al,bx,bk⟩:=he;have b3:=I V;have T:=ac.r m;go_wp2_with fail;refine h.out _ _ (T.c H) λa3=>?_
   clear h u;refine goT 5 λu h=>?_;simp only[zA,zB,zC];go_simp;obtain⟨ca,cc,bv,_⟩:=ap.i;obtain⟨D,a9⟩:∃ D,c.alloc (zt #[b9 y.Q,y.R,U] 63)=D:=⟨_,rfl⟩;have ab:d7 c D:=a9▸(b8 c).a _;have F:=T.r ab;have aj:=yA c (b9 y.Q) (Y Z y.R) U 63;have aq:D.heap.size=c.heap.size+1:=by rw[<- a9];simp
   have am:mF D [b9 y.Q,Y Z y.R,U] y:=⟨U,rfl,ap.m ab,by omega,bk⟩;have ak:∀ a2∈([b9 y.Q,Y Z y.R,U]:List y5),Qh d D a2:=λa2 X=>by
    simp only[aH1,aHa,or_false] at X;rcases X with rfl|rfl|rfl
    ·intro L n N a;cases a
    ·intro L n N a;cases a
    exact λL n N a=>⟨(al L n N a).1,aGs (al L n N a).2 ab.size⟩
   have an:d.ownsRow (w+3) 63 3 (O e n f) n a7.flatten:=by have:=HQ.row;rwa [HN.o] at this
   have ao:=aJ an F;have a5:∀ o,(O e n f).ownBlock=M o->w.heap.size+3<=o:=λo i=>bN an o i;have bh:∀ (o:Nat) (a1:Obj),(O e n f).ownBlock=M o->D.heap[o]?=M a1->a1.isCells=true:=λo a1 i ho=>by
    rcases ao.2 with ⟨B,_⟩|⟨g,cap,E,B,_,hg,_⟩
    ·rw[B] at i;cases i
    rw[B] at i;obtain rfl:g=o:=by simpa[aHR] using i
    rw[hg] at ho;cases ho;rfl
   have bu:=F.size;rw[a9] at aj ⊢;refine h.out _ _ (F.c H) λa3=>?_
   clear h u;refine goT 6 λu h=>?_;simp only[zA,zB,zC];refine wp_append_lies _ _ _ _ (by rfl) (w+3) 63 iq _ 3 48 underlying27 bp bq br bt rfl (by decide) (O e n f) n a7.flatten (by rfl) ao ⟨c,0,J⟩ 1 1 [b9 y.Q,Y Z y.R,U] (by rfl) (by rfl) aj am.one (by omega) (by unfold o0;omega) (by omega) (by omega) (c+1) aq ?_;intro g2 a0 E bj R bf bw;have a8:s9 E w 27 (O e n f):=(R.block _ (by omega) (λa=>by have:=a5 _ a.symm;omega)).trans (aO ae F);have bb:s9 E (w+1) 22 (Y Z 0):=(R.block _ (by omega) (λa=>by have:=a5 _ a.symm;omega)).trans (aO ad F);have c5:=a8.cell;have f5:=a8.frozen;have au:d7 w E:=(af.r F).gr R (λg hg=>by have:=a5 g hg;omega);have ar:=HQ.snocC (g:=g2) (cap:=a0) F am ak (by rw[HN.o];exact bj) R (bf.imp_right λa=>a.trans aq.symm);have bd:=((KeepsFrom.ext F:o6 (w+3) d D).trans ((KeepsOthers.of_grownBy R (λav a1 hj ho=>bh av a1 hj ho)).from _)).trans (KeepsFrom.se E w (O (M ⟨g2,0,J⟩) (n+1) a0));have be:=((bJ.e F:bJ [w.heap.size+1+1] d D).r (bJ.grown R (λo i hm=>by have:=a5 o i;simp only[aH1,aHa,or_false] at hm;omega))).r (bJ.se (A:=E) (b:=w) (O (M ⟨g2,0,J⟩) (n+1) a0) (by simp only[aH1,aHa,or_false];omega));have bg:(l++[y]).length=n+1:=by rw[aGb,HN.o];rfl
   have bi:Qg (w+3) E (O (M ⟨g2,0,J⟩) (n+1) a0) (l++[y]):=⟨_,by rw[bg] at ar;exact ar,λcs B a2 X L aw N a=>by
    rcases aGe.1 B with k|k
    ·exact b2 cs k a2 X L aw N a
    rw[aHf.1 k] at X;have:=(ak a2 X L aw N a).1;omega⟩
   have bl:sS w (ax++[x]) (E.setCell ⟨w,0,J⟩ (O (M ⟨g2,0,J⟩) (n+1) a0)):=
    ⟨l++[y],_,aAr ag (by rw[ah.o];exact b3),a8.set _,(x7 E ⟨w,0,J⟩ (w+1) _ (by show w.heap.size+1≠w.heap.size;omega)).trans bb,
     bi.keep (jM.turn (q:=w.heap.size) (grownBy_setCell' E w _) (λo a=>(b7 a).symm)) (by omega),by have:=au.size;have:=R.size;simp[aHP];omega,au.se (b:=w) (aGi _) _⟩
   refine h.out _ _ c5 λa3=>?_
   clear h u;refine laT λu h=>?_;simp only[zA,zB,zC];go_simp;refine h.out _ _ ?_;clear h u;exact⟨by rw[G.o];exact bd,be,bl⟩
 case done=>
  rintro h d a9 ⟨l,v,i,z,P,Q,bm,K⟩ L;have W:=G.o;have F:Iq s=M l:=by rw[Io];exact i
  have hlen:=Av _ _ _ i;have a4:=xI s;simp only[aGu,aGx] at hlen;have D:=I (Zz d v l (Q.t.v (by omega)));have ak:h<d.heap.size:=(aGq.1 L).1;obtain⟨HO,a0,X,a2,U⟩:=zm Q z P K L;have aj:w+3<=h:=by omega
  have H:=z.cell;obtain⟨e,f,rfl⟩:=Q.t.i;have aa:l.length<=4096:=by omega
  clear i Q z P K L W a9 hlen a4;refine fI (n:=5) ?_;generalize a5:bodyPostM Fence.wide 5 prog Tryz.f7 (zY w (eK s))=QQ;have a1:=I a5;clear a5;by_cases E:aT l=0/\gZ l=s
  ·obtain⟨B,p⟩:=E;have T:=I (by unfold eK;rw[d8 (by omega),F];simp[B,p]:eK s=(l,0));have j:rE l=(s,0):=by unfold rE;rw[c7 B,p]
   rw[j] at D;have V:=Dh (x:=tx s) (y:=tx s) rfl;clear j B p F;gi_wp2;refine⟨trivial,(callsIn_wide.2 D).mono ?_⟩;rintro a c ⟨rfl,m⟩;have u:=I m;have R:s9 c w 27 (O e l.length f):=aO a0 m;have N:s9 c (w+1) 22 (Y Z 0):=aO X m;obtain⟨a7,a6⟩:=zr R N;have cL:=R.cell;have fL:=R.frozen;have cE:=N.cell;have fE:=N.frozen;clear m R N H;gi_wp2;refine⟨trivial,(callsIn_wide.2 (tX _)).mono ?_⟩;rintro a W2 ⟨rfl,r⟩;obtain rfl:=r.symm;have e1:(c.setCell ⟨w,0,J⟩ (O e l.length f)) ⟨w+1,0,J⟩=M (Y Z 0):=by rw[aIO _ _ _ _ (λa=>by have:=congrArg Addr.block a;simp at this)];exact cE
   have e2:(c.setCell ⟨w,0,J⟩ (O e l.length f)).frozen? ⟨w+1,0,J⟩=false:=by rw[aIP];exact fE
   gi_wp2;rw[<- a1.o];have ad:=HO.keep (jM.e (q:=w.heap.size) u) (by omega);have ah:=grownBy_setCell' c w (O e l.length f);have ae:=ad.keep (jM.turn (q:=w.heap.size) ah (λo a=>(b7 a).symm)) (by omega);have ai:=grownBy_setCell' (c.setCell ⟨w,0,J⟩ (O e l.length f)) (w+1) (Y Z 0);have af:=ae.keep (jM.turn (q:=w.heap.size+1) ai (λo a=>(b7 a).symm)) (by omega);have a8:=aO U u;have a3:((c.setCell ⟨w,0,J⟩ (O e l.length f)).setCell ⟨w+1,0,J⟩ (Y Z 0)).heap[h]?=M (.deferred (M [])):=
    (x7 _ ⟨w+1,0,J⟩ h _ (by show h≠w+1;omega)).trans ((x7 _ ⟨w,0,J⟩ h _ (by show h≠w;omega)).trans a8)
   have ac:s9 ((c.setCell ⟨w,0,J⟩ (O e l.length f)).setCell ⟨w+1,0,J⟩ (Y Z 0)) w 27 (O e l.length f):=
    (x7 _ ⟨w+1,0,J⟩ w _ (by show w.heap.size≠w.heap.size+1;omega)).trans (a7.set _)
   have ab:s9 ((c.setCell ⟨w,0,J⟩ (O e l.length f)).setCell ⟨w+1,0,J⟩ (Y Z 0)) (w+1) 22 (Y Z 0):=
    Boxed.set (v:=Y Z 0) (Y Z 0) ((x7 _ ⟨w,0,J⟩ (w+1) _ (by show w.heap.size+1≠w.heap.size;omega)).trans a6)
   have ag:d7 w ((c.setCell ⟨w,0,J⟩ (O e l.length f)).setCell ⟨w+1,0,J⟩ (Y Z 0)):=((a2.r u).se (b:=w) (aGi _) _).se (b:=w+1) (by omega) _;generalize (c.setCell ⟨w,0,J⟩ (O e l.length f)).setCell ⟨w+1,0,J⟩ (Y Z 0)=W9 at *;exact aAN w W9 h _ 0 l _ rfl rfl ag ac ab (by omega) a3 ((af.keep (jM.cells (q:=w.heap.size) (grownBy_putObj' W9 h _) (λo a=>⟨_,by cases a;exact a3,rfl⟩)) (by omega)).t.v (by omega)) _ T
  have T:=I (by unfold eK;rw[d8 (by omega),F];simp only[d8 E]:eK s=([],1));have o:∀ (c:y4) (tmps:Array y5),d7 d c->tmps[2]?.getD u5=zz (M ⟨w,0,J⟩)->tmps[3]?.getD u5=zz (M ⟨w+1,0,J⟩)->
    QQ (.panic qV) { tmps:=tmps,defers:=[{ target:=.collected h,args:=#[]},{ target:=.fn (.func 22) #[zz (M ⟨w,0,J⟩),zz (M ⟨w+1,0,J⟩)],args:=#[]}]} c:=λc tmps m N R=>by
   rw[<- a1.o];exact Dr w c h _ 0 tmps N R (a2.r m) (aO a0 m) (aO X m) (by omega) (aO U m) _ T
  have N:=I o;clear o;by_cases B:aT l=0;have p:¬ gZ l=s:=λk=>E ⟨B,k⟩;have j:rE l=(gZ l,0):=by unfold rE;rw[c7 B]
  rw[j] at D;have V:=xG (x:=tx (gZ l)) (y:=tx s) (λa=>p (by have:=congrArg bs a;simpa[mM] using this));clear j B p E F;rotate_left;have j:rE l=([],aT l):=by unfold rE;rw[d8 B]
  rw[j] at D;clear j E F;generalize aT l=R at *
  all_goals
   gi_wp2;refine⟨trivial,(callsIn_wide.2 D).mono ?_⟩;rintro a c ⟨rfl,m⟩;have u:=I m;clear m H;gi_wp2;refine⟨trivial,(callsIn_wide.2 (zH _)).mono ?_⟩;rintro a W2 ⟨rfl,r⟩;obtain rfl:=r.symm;exact N _ _ u rfl rfl
 case pan=>
  rintro h ch d L ⟨rfl,⟨v,z⟩,P,K,hn⟩ hd;have W:=G.o;refine Dr w d h v 0 _ rfl rfl K z P (by omega) hd _ ?_;unfold eK;rw[d8 (by omega),hn]
theorem Ey (w:y4) (c:gC w) (s:By) (b:s.length<=9223372036854775807):y8 prog 7 #[b9 (tx s)] w (zY w (eK s)):=by
 by_cases a:4096<s.length
 ·exact aDp w s a b
 exact aDo w c s (by omega)
def iB (n:Int):List m8:=[{ v:=.iface 72 (.agg #[n]),recovered:=false }]
theorem dE (n:Int) (w:y4):y8 prog 40 #[zx true,n] w λa b=>a=zv (zw #[])/\b=w:=by
 go_enter func40,ntmps40;go_wp2;go_end0;exact⟨rfl,rfl⟩
theorem nV (n:Int) (w:y4):y8 prog 40 #[zx false,n] w λa b=>a=zu (iB n)/\b=w:=by
 go_enter func40,ntmps40;go_wp2_with fail;exact⟨rfl,rfl,rfl⟩
theorem Fc (n:Int) (b:iF n) (w:y4) (d:gC w) :
  y8 prog 35 #[n] w λa c=>a=zv (b9 (tx (Lib.itoa n)))/\d7 w c:=
 (Tryz.strconv_Itoa n (by have:=b.1;omega) b.2 w d.pow).m λa c a=>⟨a.1,by
  obtain⟨e,f,rfl⟩:=a.2;exact Lib.below_grow _ w (aGi _) e f⟩
theorem aEO (s:By) (d:s.length<=4096) (n:Int) (c:Lib.atoiAll s=.ok n) (w:y4) :
  y8 prog 90 #[b9 (tx s)] w λa b=>a=zv (zw #[n,.nilIface])/\d7 w b:=
 (Tryz.strconv_Atoi_ok (tx s) (by rw[aP];omega) n (by rw[show (tx s).data.toList=s from mM s];exact c) w).m λa b a=>⟨a.1,by
  rcases a.2 with rfl|⟨e,rfl⟩
  ·exact b8 _
  exact Ok _ _ _⟩
theorem aFq (w:y4) (j:gC w) (s:By) (l:s.length<=4096) (k:∀ n,Lib.atoiAll s≠.ok n) :
  y8 prog 90 #[b9 (tx s)] w λb i=>∃ c a,b=zv (zw #[c,.iface 220 (zz (M ⟨a,0,J⟩))])/\d7 w i:=by
 cases f:Lib.atoiAll s with
 | ok n=>exact absurd f (k n)
 | _=>
 first
 | (
   obtain⟨h,g,e⟩:=j.syn;exact(Any.strconv_Atoi_syntax Tryz.laysC172 (tx s) (by rw[aP];omega) f _ w e (.inr ⟨h,g,rfl⟩)).m λb i ⟨a,c,_,_,d⟩=>⟨_,a,c,d⟩)
 | (
   obtain⟨h,g,e⟩:=j.rng;exact(Any.strconv_Atoi_range Tryz.laysC172 (tx s) (by rw[aP];omega) f _ w e (.inr ⟨h,g,rfl⟩)).m λb i ⟨a,c,_,_,d⟩=>⟨_,a,c,d⟩)
theorem Gq:(prog.info? 3).map (λa=>(a.zero,a.size,a.bytes))=M (M (Y Z 0),1,8):=by kernel_rfl
def Ad (l:List Int):List y5:=l.map λn=>Y Z n
theorem uC (l:List Int) (n:Int):Ad (l++[n])=Ad l++[Y Z n]:=by simp[Ad]
theorem rP {w:y4} {base e:Nat} {v:y5} {xs:List Int} (b:w.ownsRow base e 1 v xs.length (Ad xs)) (k:∀ a∈xs,I64 a) (l:xs.length<=17592186044416):fY w v xs:=by
 rcases b.2 with ⟨rfl,h⟩|⟨g,f,n,rfl,o,j,i,m,p,q⟩
 ·exact .inl ⟨aGv h,J,0,rfl,by omega⟩
 refine .inr ⟨g,0,f,rfl,i,by unfold o0 at m;omega,l,(aGq.1 j).1,λd a c=>⟨?_,k a (aGC c)⟩⟩;have e:(Ad xs)[d]?=M (Y Z a):=by unfold Ad;rw[aHt,c];rfl
 have:=b.cells (g:=g) rfl d _ e;unfold Addr.add at this;rw[aGP];split at this <;> simp_all
def aG3 (w:y4) (l:List By) (e:r8) (w':y4):Prop:=d7 w w'/\match cS l with
 | some b=>∃ a,e=.returned a/\fY w' a b
 | none=>e=.panicked (iB 1)
theorem rI:∀ (l:List By) (s:By) (ns:List Int),cS l=M ns->cS (l++[s])=if 0<=fU s then M (ns++[fU s]) else J
 | [],s,ns,h=>by
  simp only[cS,Option.some.injEq] at h;subst h;simp[cS]
 | x::l,s,ns,h=>by
  simp only[aGd,cS] at h ⊢;by_cases c:0<=fU x
  ·rw[c7 c] at h ⊢;cases b:cS l with
   | none=>rw[b] at h;cases h
   | some d=>
    rw[b] at h;simp only[aIE,Option.some.injEq] at h;subst h;rw[rI l s d b];by_cases a:0<=fU s
    ·rw[c7 a,c7 a];rfl
    rw[d8 a,d8 a];rfl
  rw[d8 c] at h;cases h
theorem Ge:∀ (a b:List By),cS a=J->cS (a++b)=J
 | [],b,h=>by simp[cS] at h
 | x::a,b,h=>by
  simp only[aGd,cS] at h ⊢;by_cases d:0<=fU x
  ·rw[c7 d] at h ⊢;cases c:cS a with
   | none=>rw[Ge a b c];rfl
   | some e=>rw[c] at h;cases h
  rw[d8 d]
theorem Ya (s:By):I64 (fU s):=by
 unfold fU;by_cases a:s.length<=6/\Lib.decDigits (iA s).toNat=s
 ·rw[c7 a];have:=bnd6 a.1;exact I64.of (by omega) (by omega)
 rw[d8 a];exact I64.of (by omega) (by omega)
theorem tQ {s:By} (b:0<=fU s):Lib.atoiAll s=.ok (fU s)/\s.length<=6/\Lib.itoa (fU s)=s:=by
 obtain⟨c,a⟩:=Gf b;refine⟨?_,c,by rw[xO b];exact a.symm⟩;have:=aEu (u:=(fU s).toNat) (by rw[<- a];exact c);rw[<- a] at this;rw[this];congr 1;omega
theorem aDF {s:By} {n:Int} (b:¬ 0<=fU s) (e:Lib.atoiAll s=.ok n) (d:0<=n) (c:s.length<=6):Lib.itoa n≠s:=λa=>by
 rw[xO d] at a;exact(Gg b).2 _ c a.symm
theorem tV (w:y4) (hw:gC w) (v:y5) (l:List By) (hv:pY w v l) (hl:∀ x∈l,x.length<=4096) (h1:l.length<=4097) :
  y8 prog 41 #[v] w (aG3 w l):=by
 obtain⟨a6,aj,F,rfl,hb,hc,_,W⟩:=hv;obtain⟨HE,HL,T⟩:=zq W hl hw;obtain⟨ii,ad,ae,af,ag⟩:=s8 Gq;obtain⟨n,B⟩:∃ n,l.length=n:=⟨_,rfl⟩;have Q:=I B;rw[B] at h1 hc ⊢;clear B W hl hw;go_enter func41,ntmps41;go_wp2;go_loopw [3,10] (λa F wr=>∃ (k:Nat) (g:List Int),F=Y Z k/\k<=n/\Hid (cS (l.take k)=M g/\g.length=k/\∀ x∈g,I64 x)/\Hid (wr.ownsRow w 3 1 a g.length (Ad g))/\Hid (d7 w wr)) (λa F _=>n-(intOf F).toNat);exact⟨0,[],rfl,by omega,I ⟨rfl,rfl,λx i=>by cases i⟩,I (aGQ _ _ _ _),I (b8 _)⟩;obtain⟨k,g,rfl,hk,p,R,m⟩:=hrel;by_cases a9:k<n
 ·have aa:=z7 k n;obtain⟨x,q⟩:=aV (f:=l) (k:=k) (by rw[Q.o];exact a9);have ai:=m.c (HE k x q);have ah:a6<wr.heap.size:=by have:=m.size;omega
  have t:=HL x (aGC q);obtain⟨S,a3⟩:=zr (by rw[aHZ,q];rfl:l.take (k+1)=l.take k++[x]) (show l=l.take (k+1)++l.drop (k+1) from (aIJ _ _).symm);have hz:=aP x;have D:=I (λ(i:¬ 0<=fU x)=>show cS l=J from by rw[a3.o];exact Ge _ _ (by rw[S.o,rI _ _ _ p.1,d8 i]));by_cases c:∃ a,Lib.atoiAll x=.ok a
  ·obtain⟨a,c⟩:=c;have C:=I (λ(s:y4)=>aEO x t a c s);have G:=Lib.atoiAll_bounds c;by_cases o:0<=a
   ·have a7:a>=0:=o;by_cases A:x.length<=6
    ·have a8:((tx x).size:Int)<=6:=by omega
     have L:=I (λ(s:y4) (i:d7 w s)=>Fc a ⟨by omega,by omega⟩ s (T.e i));by_cases u:Lib.itoa a=x
     ·have r:fU x=a:=by
       by_cases j:0<=fU x
       ·have:=(tQ j).1;rw[c] at this;injection this with b;exact b.symm
       exact absurd u (aDF j c o A)
      have HQ:=I (show cS (l.take (k+1))=M (g++[a])/\(g++[a]).length=k+1/\∀ y∈g++[a],I64 y from by
       refine⟨by rw[S.o,rI _ _ _ p.1,r,c7 o],by rw[aGb,p.2.1];rfl,λy d=>?_⟩;rcases aGe.1 d with i|i
       ·exact p.2.2 y i
       rw[aHf.1 i,<- r];exact Ya x)
      rw[u] at L;have hq:((tx x).toList == (tx x).toList)=true:=by simp
      have a0:=R.o;have ac:=p.2.1;have U:g.length+1<=o0:=by unfold o0;omega
      have V:(g.length+1)*8<=140737488355328:=by omega
      obtain⟨B1,B2⟩:=zr U V;clear q t c u r G o A ac U V;go_wp2_with fail;refine(C _).m ?_;rintro b H ⟨rfl,d⟩;obtain⟨h,a5⟩:=zr (m.r d) d;clear d;go_wp2_with fail;refine(L _ h).m ?_;rintro b P ⟨rfl,z⟩;have E:=I (h.r z);have N:=aJ a0 (a5.r z);have B3:=I (by have:=E.size;simp;omega:w.heap.size<=(P.alloc (zt #[a] 3)).heap.size);clear z;go_wp2_with fail;refine(dE _ _).m ?_;rintro b K ⟨rfl,e⟩;obtain rfl:=e.symm;clear e;go_wp2_with (at_builtin;refine r6 _ rfl _ _ 74 rfl w 3 ii _ 1 8 underlying74 ad ae af ag rfl (by decide) _ _ _ rfl (N.alloc _) ⟨P,0,J⟩ 1 1 [Y Z a] rfl rfl (wN _ rfl _ _) (aAw _ _) B1 B2 B3 ?_);intro v2 W2 a1 X ab;obtain⟨a4,a2⟩:=zr ((E.a (zt #[a] 3)).gr X (λk hk=>bN N k hk)) (by rw[uC,aGb];exact a1:W2.ownsRow w 3 1 v2 (g++[a]).length (Ad (g++[a])));clear a0 N a1 X ab;go_wp2;go_roundw;exact⟨k+1,g++[a],by go_num,by omega,HQ,a2,a4⟩;simp[intOf];omega
     have r:=I (D (λj=>u (by have:=tQ j;rw[c] at this;injection this.1 with b;rw[b];exact this.2.2)));have hq:=xG (x:=tx (Lib.itoa a)) (y:=tx x) (λb=>u (by rw[<- mM (Lib.itoa a),b,mM]));generalize tx (Lib.itoa a)=N at *;clear q t c u G o A;go_wp2_with fail;refine(C _).m ?_;rintro b H ⟨rfl,d⟩;have h:=I (m.r d);clear d;go_wp2_with fail;refine(L _ h).m ?_;rintro b P ⟨rfl,z⟩;have E:=I (h.r z);clear z;go_wp2_with fail;refine(nV _ _).m ?_;rintro b K ⟨rfl,e⟩;obtain rfl:=e.symm;clear e;refine⟨rfl,E,?_⟩;rw[r.o]
    have a8:¬ ((tx x).size:Int)<=6:=by omega
    have r:=I (D (λj=>A (tQ j).2.1));clear q t c G o A;go_wp2_with fail;refine(C _).m ?_;rintro b H ⟨rfl,d⟩;have h:=I (m.r d);clear d;go_wp2_with fail;refine(nV _ _).m ?_;rintro b K ⟨rfl,e⟩;obtain rfl:=e.symm;clear e;refine⟨rfl,h,?_⟩;rw[r.o]
   have a7:¬ a>=0:=o;have r:=I (D (λj=>o (by have:=(tQ j).1;rw[c] at this;injection this with b;rw[b];exact j)));clear q t c G o;go_wp2_with fail;refine(C _).m ?_;rintro b H ⟨rfl,d⟩;have h:=I (m.r d);clear d;go_wp2_with fail;refine(nV _ _).m ?_;rintro b K ⟨rfl,e⟩;obtain rfl:=e.symm;clear e;refine⟨rfl,h,?_⟩;rw[r.o]
  obtain⟨r,o⟩:=zr (D (λj=>c ⟨_,(tQ j).1⟩)) (λ(s:y4) (i:d7 w s)=>aFq s (T.e i) x t (λn B=>c ⟨n,B⟩));clear q t c;go_wp2_with fail;refine(o _ m).m ?_;rintro b H ⟨a,u,rfl,d⟩;have h:=I (m.r d);clear d;go_wp2_with fail;refine(nV _ _).m ?_;rintro b K ⟨rfl,e⟩;obtain rfl:=e.symm;clear e;refine⟨rfl,h,?_⟩;rw[r.o]
 obtain rfl:k=n:=by omega
 have aa:=z8 k k;have b:=I (show l.take k=l from aHF (by rw[Q.o];exact aGi _));have a:=rP R p.2.2 (by have:=p.2.1;omega);have c:=I a;obtain⟨d,e,rfl,_,_,_⟩:=a.i;clear a;go_wp2;go_ret;refine⟨m.o,?_⟩;have:=p.1;rw[b.o] at this;rw[this];exact⟨_,rfl,c⟩
inductive Item where
 | s (x:By)
 | n (m:Int)
 | l (ns:List Int)
def oR:Item->List By
 | .s c=>[c]
 | .n a=>[Lib.itoa a]
 | .l b=>b.map Lib.itoa
def jO (l:List Item):List By:=(l.map oR).flatten
def Oz (w:y4) (v:y5):Item->Prop
 | .s d=>v=.iface 9 (.string (tx d))/\d.length<=4096
 | .n a=>v=.iface 3 (Y Z a)/\iF a
 | .l b=>∃ c,v=.iface 74 c/\fY w c b/\(∀ a∈b,iF a)/\b.length<=4097
theorem Oz.m {w w':y4} {v:y5} {i:Item} (a:Oz w v i) (e:d7 w w'):Oz w' v i:=by
 cases i with
 | s j=>exact a
 | n g=>exact a
 | l h=>obtain⟨f,b,c,d⟩:=a;exact⟨f,b,fY.m c e,d⟩
theorem Ln (a b:List By):Ac (a++b)=Ac a++Ac b:=by simp[Ac]
theorem Le (l:List Item) (i:Item):jO (l++[i])=jO l++oR i:=by simp[jO]
def yJ (w0:y4) (W:y4) (v:y5) (l:List By):Prop:=W.ownsRow w0 9 1 v l.length (Ac l)
theorem yJ.none (w0 W:y4):yJ w0 W (O J 0 0) []:=aGQ _ _ _ _
theorem yJ.e {w0 W W':y4} {v:y5} {l:List By} (a:yJ w0 W v l) (b:d7 W W'):yJ w0 W' v l:=aJ a b
theorem aEa (w0 w:y4) (v:y5) (l:List By) (h:yJ w0 w v l) (u:l.length<=20000) (i:∀ d∈l,d.length<=4096) :
  y8 prog 88 #[v,b9 ⟨#[32]⟩] w λc j=>c=zv (b9 (tx (Lib.join l [32])))/\d7 w j:=by
 have hlen:(Lib.join l [32]).length<=4097*l.length:=by
  cases l with
  | nil=>simp[Lib.join_nil]
  | cons d a=>
   rw[Lib.join_cons];have k:∀ (a:List By),(∀ b∈a,b.length<=4096)->(Lib.joinTail [32] a).length<=4097*a.length:=by
    intro a
    induction a with
    | nil=>intro _;simp[Lib.joinTail]
    | cons b a n=>
     intro f;have e:=n (λo m=>f o (aGc _ m));have m:=f b (aHv ..);unfold Lib.joinTail at e ⊢;simp only[aHs,aHH,aGb,aGt,aGu] at e ⊢;omega
   have e:=k a (λb f=>i b (aGc _ f));have m:=i d (aHv ..);simp only[aGb,aGt];omega
 rcases h.2 with ⟨rfl,n⟩|⟨g,m,q,rfl,r,p,o,t,s,x⟩
 ·obtain rfl:=aGv n;exact(Tryz.strings_Join_none J 0 ⟨#[32]⟩ w).m λc j a=>⟨a.1,by rw[a.2];exact b8 _⟩
 have j:(l.map tx).map (·.data.toList)=l:=by rw[aIH];exact List.map_id' l
 have a:=Tryz.strings_Join g 0 m (l.map tx) ⟨#[32]⟩ w (λk d e=>?_) (aGq.1 p).1 (by simp;omega) (by simpa using o) (by rw[j];show (Lib.join l [32]).length<=_;omega)
 ·rw[j,aHC] at a;exact a
 rw[aHt] at e;obtain⟨b,f,rfl⟩:=aIL.1 e;have c:(Ac l)[k]?=M (b9 (tx b)):=by unfold Ac;rw[aHt,f];rfl
 have:=h.cells (g:=g) rfl k _ c;unfold Addr.add at this;rw[aGx];split at this <;> simp_all
theorem aAf {w:y4} {v:y5} {i:Item} (b:Oz w v i):(oR i).length<=4097/\∀ d∈oR i,d.length<=4096:=by
 cases i with
 | s d=>exact⟨by simp[oR],λe a=>by rw[aHf.1 a];exact b.2⟩
 | n c=>exact⟨by simp[oR],λe a=>by rw[aHf.1 a];have:=pR b.2;omega⟩
 | l h=>
  obtain⟨j,_,_,f,g⟩:=b;refine⟨by simp only[oR,aHC];exact g,λe a=>?_⟩;obtain⟨c,e,rfl⟩:=aHd.1 a;have:=pR (f c e);omega
@[go_sem] theorem as_ss (v:y5) (w:y4):(Instr.typeAssert (.iface 9 v) 20 9 true).run prog w=.ok (zw #[v,zx true]) w:=by kernel_rfl
@[go_sem] theorem as_ns (v:y5) (w:y4):(Instr.typeAssert (.iface 3 v) 20 9 true).run prog w=.ok (zw #[b9 ⟨#[]⟩,zx false]) w:=by kernel_rfl
@[go_sem] theorem as_nn (v:y5) (w:y4):(Instr.typeAssert (.iface 3 v) 20 3 true).run prog w=.ok (zw #[v,zx true]) w:=by kernel_rfl
@[go_sem] theorem as_ls (v:y5) (w:y4):(Instr.typeAssert (.iface 74 v) 20 9 true).run prog w=.ok (zw #[b9 ⟨#[]⟩,zx false]) w:=by kernel_rfl
@[go_sem] theorem as_ln (v:y5) (w:y4):(Instr.typeAssert (.iface 74 v) 20 3 true).run prog w=.ok (zw #[Y Z 0,zx false]) w:=by kernel_rfl
@[go_sem] theorem as_ll (v:y5) (w:y4):(Instr.typeAssert (.iface 74 v) 20 74 true).run prog w=.ok (zw #[v,zx true]) w:=by kernel_rfl
theorem rJ (w:y4) (hw:gC w) (b c:Nat) (items:List Item) (h4:items.length<=4) (hb:b<w.heap.size) (hc:items.length<=c) (hE:∀ a q,items[a]?=M q->∃ U,w ⟨b,a,J⟩=M U/\Oz w U q) :
  y8 prog 36 #[O (M ⟨b,0,J⟩) items.length c] w λy d=>y=zv (b9 (tx (Lib.join (jO items) [32])))/\d7 w d:=by
 obtain⟨HE,HW⟩:=zr hE hw;have V:Hid (∀ k,(jO (items.take k)).length<=4097*k/\∀ t∈jO (items.take k),t.length<=4096):=I λk=>by
  induction k with
  | zero=>simp[jO]
  | succ k d=>
   rw[aHZ];cases o:items[k]? with
   | none=>simp only[Option.toList_none,aG9];exact⟨by omega,d.2⟩
   | some q=>
    simp only[aIK];rw[Le,aGb];obtain⟨U,_,A⟩:=hE k q o;have:=aAf A;refine⟨by omega,λt e=>?_⟩;rcases aGe.1 e with g|g
    ·exact d.2 t g
    exact this.2 t g
 obtain⟨is,a2,a3,a4,a5⟩:=s8 Xc;obtain⟨n,hn⟩:∃ n,items.length=n:=⟨_,rfl⟩;have HN:=I hn;rw[hn] at h4 hc ⊢;clear hn hE hw;go_enter func36,ntmps36;go_wp2;go_loopw [3,13] (λz c wr=>∃ k:Nat,c=Y Z k/\k<=n/\Hid (yJ w wr z (jO (items.take k)))/\Hid (d7 w wr)) (λz c _=>n-(intOf c).toNat);exact⟨0,rfl,by omega,I (yJ.none _ _),I (b8 _)⟩;obtain⟨k,rfl,o,R,i⟩:=hrel;by_cases af:k<n
 ·have ag:=z7 k n;obtain⟨q,hi⟩:=aV (f:=items) (k:=k) (by rw[HN.o];exact af);obtain⟨U,a8,A⟩:=HE k q hi;have S:=i.c a8;have a0:=A.m i;have X:=I (by rw[aHZ,hi];exact Le _ _:jO (items.take (k+1))=jO (items.take k)++oR q);have d:=R.o;unfold yJ at d;have hL:=(V k).1;have K:(jO (items.take k)).length+1<=o0:=by unfold o0;omega
  have L:((jO (items.take k)).length+1)*16<=140737488355328:=by omega
  obtain⟨D,E⟩:=zr K L;have a1:=i.size;have aa:=I hL;clear K L hL hi a8;generalize jO (items.take k)=C at *;cases q with
  | s t=>
   obtain⟨rfl,_⟩:=A;clear a0;have F:=I (by simp;omega:w.heap.size<=(wr.alloc (zt #[b9 (tx t)] 9)).heap.size);clear a1;go_wp2_with (at_builtin;refine r6 _ rfl _ _ 82 rfl w 9 is _ 1 16 underlying82 a2 a3 a4 a5 rfl (by decide) _ _ _ rfl (d.alloc _) ⟨wr,0,J⟩ 1 1 [b9 (tx t)] rfl rfl (wN _ rfl _ _) (by simp[aGr]) D E F ?_);intro Q H p m N;obtain⟨G,x⟩:=zr ((i.a (zt #[b9 (tx t)] 9)).gr m (λk o=>bN d k o)) (by rw[X.o];unfold yJ;rw[Ln,aGb];exact p:yJ w H Q (jO (items.take (k+1))));clear d p m N S;go_wp2;go_roundw;exact⟨k+1,by go_num,by omega,x,G⟩;simp[intOf];omega
  | n e=>
   obtain⟨rfl,P⟩:=A;clear a0;have IT:=I (λ(j:y4) (g:d7 w j)=>Fc e P j (HW.e g));clear P d;go_wp2_with fail;refine(IT _ i).m ?_;rintro y B ⟨rfl,h⟩;have d:=aJ R h;have v:=I (i.r h);have F:=I (by have:=v.size;simp;omega:w.heap.size<=(B.alloc (zt #[b9 (tx (Lib.itoa e))] 9)).heap.size);clear h a1;go_wp2_with (at_builtin;refine r6 _ rfl _ _ 82 rfl w 9 is _ 1 16 underlying82 a2 a3 a4 a5 rfl (by decide) _ _ _ rfl (d.alloc _) ⟨B,0,J⟩ 1 1 [b9 (tx (Lib.itoa e))] rfl rfl (wN _ rfl _ _) (by simp[aGr]) D E F ?_);intro Q H p m N;obtain⟨G,x⟩:=zr ((v.a (zt #[b9 (tx (Lib.itoa e))] 9)).gr m (λk o=>bN d k o)) (by rw[X.o];unfold yJ;rw[Ln,aGb];exact p:yJ w H Q (jO (items.take (k+1))));clear d p m N S;go_wp2;go_roundw;exact⟨k+1,by go_num,by omega,x,G⟩;simp[intOf];omega
  | l r=>
   obtain⟨ak,rfl,hu,P,ah⟩:=A;obtain⟨HU,HP⟩:=zr hu P;obtain⟨ua,uc,rfl,_,_,_⟩:=hu.i;obtain⟨u,T⟩:∃ u,r.length=u:=⟨_,rfl⟩;have HZ:=I T;rw[T] at ah;clear hu P d D E a0;rw[T] at S;clear T;go_wp2_with fail;generalize wr=w4 at *;clear S a1;go_loopw [3,38] (λz c wr=>∃ a:Nat,c=Y Z a/\a<=u/\Hid (yJ w wr z (C++(r.take a).map Lib.itoa))/\Hid (d7 w wr)) (λz c _=>u-(intOf c).toNat);exact⟨0,rfl,by omega,I (by simpa using R.o),i⟩;obtain⟨a,rfl,hj,x,v⟩:=hrel;by_cases ad:a<u
   ·have ae:=z7 a u;obtain⟨e,z⟩:=aV (f:=r) (k:=a) (by rw[HZ.o];exact ad);rcases HU.o with ⟨h0,_⟩|⟨b5,aj,ai,y,_,_,_,_,a7⟩
    ·rw[h0] at z;simp at z
    cases y;have c2:=(aBr.m _ _ _ _ _ v (a7 a e z)).1;rw[aGP] at c2;have a9:=HP e (aGC z);obtain⟨IT,ab⟩:=zr (λ(j:y4) (g:d7 w j)=>Fc e a9 j (HW.e g)) (by rw[aHZ,z];simp:C++(r.take (a+1)).map Lib.itoa=(C++(r.take a).map Lib.itoa)++[Lib.itoa e]);have ac:(C++(r.take a).map Lib.itoa).length<=4097*k+u:=by
     have:=aa.o;rw[aGb,aHC,aHB];omega
    clear a7 z a9;generalize C++(r.take a).map Lib.itoa=vs at *;have K:vs.length+1<=o0:=by unfold o0;omega
    have L:(vs.length+1)*16<=140737488355328:=by omega
    obtain⟨D,E⟩:=zr K L;clear K L ac;go_wp2_with fail;refine(IT _ v).m ?_;rintro y B ⟨rfl,h⟩;have d:=aJ x h;have a6:=I (v.r h);have F:=I (by have:=a6.size;simp;omega:w.heap.size<=(B.alloc (zt #[b9 (tx (Lib.itoa e))] 9)).heap.size);clear h c2;go_wp2_with (at_builtin;refine r6 _ rfl _ _ 82 rfl w 9 is _ 1 16 underlying82 a2 a3 a4 a5 rfl (by decide) _ _ _ rfl (d.alloc _) ⟨B,0,J⟩ 1 1 [b9 (tx (Lib.itoa e))] rfl rfl (wN _ rfl _ _) (by simp[aGr]) D E F ?_);intro Q H p m N;obtain⟨G,W⟩:=zr ((a6.a (zt #[b9 (tx (Lib.itoa e))] 9)).gr m (λk o=>bN d k o)) (by rw[ab.o];unfold yJ;rw[Ln,aGb];exact p:yJ w H Q (C++(r.take (a+1)).map Lib.itoa));clear d p m N;go_wp2;go_roundw;exact⟨a+1,by go_num,by omega,W,G⟩;simp[intOf];omega
   obtain rfl:a=u:=by omega
   have ae:=z8 a a;have W:=I (show yJ w wr u3 (jO (items.take (k+1))) from by
    have:=x.o;rw[aHF (by rw[HZ.o];exact aGi _)] at this;rw[X.o];exact this)
   go_wp2;go_roundw;exact⟨k+1,by go_num,by omega,W,v⟩;simp[intOf];omega
 obtain rfl:k=n:=by omega
 have ag:=z8 k k;obtain⟨e,d⟩:=zr (show items.take k=items from aHF (by rw[HN.o];exact aGi _)) (λ(j:y4) (g:d7 wr j)=>aEa w j _ _ (R.e g) (by have:=(V k).1;omega) (V k).2);rw[e.o] at d;go_wp2_with fail;refine(d _ (b8 _)).m ?_;rintro y B ⟨rfl,h⟩;go_wp2;go_ret;exact⟨rfl,i.r h⟩
attribute [local go_sem] Oper.semAt_some
theorem aF7 (w:y4) (n:Nat):w.grownBy (w.drewN n) none:=⟨rfl,rfl,rfl,aGi _,λ_ _ _=>rfl⟩
theorem Tn (w:y4) (a:Option Addr) (b cap:Nat) :
  y8 prog 91 #[O a b cap,Y Z 2] w λc d=>c=zv (zy (.func 140) #[] #[zz (M ⟨w,0,J⟩),zz (M ⟨w+1,0,J⟩)])/\d=(w.alloc (zt #[O a b cap] 74)).alloc (zt #[Y Z 2] 3):=by
 go_enter func91,ntmps91;go_wp2;go_ret;exact⟨rfl,rfl⟩
theorem aDc (n:Nat) (hn:1<=n) (y B C b o z cap:Nat) (hz:z<=1000) (hc:z*2<=cap) (c:List Nat->y4->Prop) (l:List m8->y4->Prop) (S:pX B c)
  (L:∀ e f post W,List.range z=e++f::post->c e W->YieldAt Fence.wide (n-1) prog y #[O (M ⟨b,o+f*2,J⟩) 2 2] W λd a=>
   (d=zv (zx true)/\c (e++[f]) a/\bJ [B,C] W a)\/(∃ e,d=zu e/\l e a))
  (W:y4) (m:s9 W B 74 (O (M ⟨b,o,J⟩) (z*2) cap)) (q:s9 W C 3 (Y Z 2)) (E:c [] W) :
  CallsIn Fence.wide n prog 140 #[zy (.yield y) #[] #[],zz (M ⟨B,0,J⟩),zz (M ⟨C,0,J⟩)] W λd a=>(∃ f,d=zv f/\c (List.range z) a)\/(∃ e,d=zu e/\l e a):=by
 refine callsIn_of_wp func140 rfl trivial ?_ rfl;simp only[ntmps140,aH2,aGt,aGu,aH3,aH4,aH5,aH6,aH7,aH8,aH9,aGd];gi_wp2;gi_loopw [4] (λf wr=>∃ a:Nat,f=Y Z ((a*2:Nat):Int)/\a<=z/\c (List.range a) wr/\bJ [B,C] W wr) (λf wr=>z*2-(intOf f).toNat);exact⟨0,rfl,by omega,E,bJ.rf _ _⟩;obtain⟨a,rfl,hk,k,f⟩:=hrel;have p:s9 wr B 74 (O (M ⟨b,o,J⟩) (z*2) cap):=(f.same B (by simp) m.lt).trans m;have r:s9 wr C 3 (Y Z 2):=(f.same C (by simp) q.lt).trans q;have A:=p.cell;have D:=r.cell;by_cases a0:a<z
 ·have N:((a*2:Nat):Int)<((z*2:Nat):Int):=by omega
  have t:List.range z=List.range a++a::(List.range z).drop (a+1):=by
   conv=>lhs;rw[<- aIJ a (List.range z)]
   rw[List.take_range,Nat.min_eq_left (by omega),aIF (by simp;omega)];simp
  have x:=I t;have V:(0:Int)<=((a*2:Nat):Int):=by omega
  have X:((a*2:Nat):Int)<=((z*2:Nat):Int):=by omega
  have d3:¬ ((z*2-a*2:Nat):Int)<2:=by omega
  have d4:(2:Int)<=((z*2-a*2:Nat):Int):=by omega
  have P:min (2:Int) ((z*2-a*2:Nat):Int)=2:=by omega
  have hw:IntKind.i64.wrap ((a:Int)*2+2)=(a:Int)*2+2:=by rw[IntKind.wrap_i64];omega
  clear t;gi_wp2;refine wpIn_wide.2 ?_;go_quiet (fail);have H:c (List.range a) (wr.drewN nq):=S _ _ _ _ k (aF7 wr nq) (λg d=>by cases d);obtain⟨fn,a1,assign,body,R,K⟩:=L _ a _ _ x H;have i:s9 (wr.drewN nq) B 74 (O (M ⟨b,o,J⟩) (z*2) cap):=p;have j:s9 (wr.drewN nq) C 3 (Y Z 2):=r;have A:=i.cell;have D:=j.cell;have v:=I (f.r (show bJ [B,C] wr (wr.drewN nq) from ⟨aGi _,λ_ _ _=>rfl⟩));have e1:(a:Int)*2<=(a:Int)*2+2:=by omega
  have e2:(a:Int)*2+2<=((cap:Nat):Int):=by omega
  have e3:(0:Int)<=(a:Int)*2:=by omega
  clear k f P;gi_wp2;refine K.mono ?_;rintro d h (⟨rfl,s,g⟩|⟨e,rfl,Q⟩)
  ·have w:=I (v.r g);have F:s9 h B 74 (O (M ⟨b,o,J⟩) (z*2) cap):=(g.same B (by simp) i.lt).trans i;have G:s9 h C 3 (Y Z 2):=(g.same C (by simp) j.lt).trans j;have T:=F.cell;have U:=G.cell;have u:=I (by rw[List.range_succ];exact s:c (List.range (a+1)) h);clear s g R;gi_wp2;go_roundw;exact⟨a+1,by go_num,by omega,u,w⟩;simp[intOf];omega
  exact⟨rfl,.inr ⟨e,rfl,Q⟩⟩
 obtain rfl:a=z:=by omega
 have N:¬ ((a*2:Nat):Int)<((a*2:Nat):Int):=by omega
 gi_wp2;go_end0;exact .inl ⟨⟨_,rfl⟩,k⟩
theorem Sx (n:Nat) (k:1<=n) (B C b o z cap:Nat) (l:z<=1000) (j:z*2<=cap) (w:y4) (a:s9 w B 74 (O (M ⟨b,o,J⟩) (z*2) cap)) (c:s9 w C 3 (Y Z 2)) :
  aFg n prog 140 #[zz (M ⟨B,0,J⟩),zz (M ⟨C,0,J⟩)] (λd:Nat=>#[O (M ⟨b,o+d*2,J⟩) 2 2]) (bJ [B,C]) (List.range z) B w:=
 λp e f g d m i h=>aDc n k p B C b o z cap l j e f m i g ((d.block B a.lt).trans a) ((d.block C c.lt).trans c) h
open Go.RowKit Go.ChangeShapes Go.WideShapes Go.Deep
theorem aEg : prog.globalNamed "strconv.ErrRange" = M 5:=by kernel_rfl
theorem aBQ : prog.globalNamed "strconv.ErrSyntax" = M 4:=by kernel_rfl
theorem aF9:(prog.globals[5]?).map (·.type)=M 47:=by kernel_rfl
theorem aEf:(prog.globals[4]?).map (·.type)=M 47:=by kernel_rfl
theorem aFs : "*" ++ "errors.errorString" = "*errors.errorString":=by decide
theorem aBG (u : o8) (a : prog.typeName? 3 u = M "*errors.errorString") : u = 287:=
 typeName_ptr_named (nm:= "errors.errorString") (by rw[aFs];kernel_rfl) (by kernel_rfl) (by decide) u (by rw[aFs];exact a)
theorem Sy:prog.cellsOf 9=1:=by kernel_rfl
theorem Sz:prog.cellsOf 289=1:=by kernel_rfl
theorem Ts {W : y4} {j k i : String × DataW Unit} {l : List (String × DataW Unit)} (d : laidMet prog (j :: k :: ("internal/strconv.uint64pow10", Rows.laid_internal_strconv_uint64pow10) :: i :: ("strconv.ErrRange", Rows.laid_strconv_ErrRange) :: ("strconv.ErrSyntax", Rows.laid_strconv_ErrSyntax) :: ("unicode.White_Space", Rows.laid_unicode_White_Space) :: ("strings.asciiSpace", Rows.laid_strings_asciiSpace) :: l) W)
  (m:W.ShapedOpen prog):gC W:=by
 have b:=d.tail.tail.tail.tail;obtain⟨h,s,o,-,-,-⟩:=laid_sentinel b aEg aF9 underlying47 aBG underlying287 underlying289 rfl rfl underlying9 Sz Sy;obtain⟨r,u,p,-,-,-⟩:=laid_sentinel b.tail aBQ aEf underlying47 aBG underlying287 underlying289 rfl rfl underlying9 Sz Sy;have f:=b.tail.tail;have q:=Lib.laidMet.reads f (aHv ..);have c:W ⟨5,0,none⟩=some (.iface 287 (.pointer (some h))):=by have a:=aIQ aEg o 0;simpa using a
 refine⟨?_,?_,?_,?_,⟨_,_,c⟩,?_,by have:=vV c;omega⟩
 ·exact cell_of_shapedOpen_int (t:=3) (zero:=#[.int .i64 0]) m (by decide) (by kernel_rfl) rfl (by kernel_rfl) (by kernel_rfl) underlying3
 ·exact Lib.tabIs_of_head (g:=1) (t:=157) (e:=5) (n:=256) Xf (by kernel_rfl) underlying157 underlying5 (by kernel_rfl) (by kernel_rfl) (show laidMet prog (("strings.asciiSpace", Lib.tabData .u8 Lib.asciiSpaceTab) :: l) W from f.tail)
 ·exact whiteTab_of_reads (ρ:=Tryz.lays157_ren) { Tryz.lays157 with } ⟨by kernel_rfl,by kernel_rfl,by kernel_rfl,by kernel_rfl,by kernel_rfl,by kernel_rfl,by kernel_rfl,by kernel_rfl⟩ q
 ·exact⟨_,_,by have a:=aIQ aBQ p 0;simpa using a⟩
 exact Lib.tabIs_of_head (g:=3) (t:=256) (e:=210) (n:=20) aDO (by kernel_rfl) underlying256 underlying210 (by kernel_rfl) (by kernel_rfl) (show laidMet prog (("internal/strconv.uint64pow10", Lib.tabData .u64 Lib.pow10Tab) :: _) W from d.tail.tail)
theorem Ud {H:Type} {enc:o8 × y5->H} {a:Assume} {C:Checked} {os:Os} {f:FuncId} {fn:Func} {s:ChangeSpec} {g:List PathCond} {apart fresh k again:Bool} {X:y4->Array y5->Prop}
  (n:∀ (w w':y4) (args:Array y5),w.heap=w'.heap->X w args->X w' args)
  (own:ownKnob C.prog.godebug=none) (started:os.Started) (y:C.prog.inits.idxOf? f=none) (o:C.prog.funcs[f]?=some fn)
  (witness:∃ (w:y4) (tape:Tape) (i:Input),w.os=os/\(w.forCall tape i).Shaped C.prog/\i.vars=[]/\Input.okWide C.prog (w.forCall tape i) .any w f i/\
   ((s.pre enc C.prog fn g apart (w.forCall tape i).memory i.args/\X (w.forCall tape i).memory i.args)/\sizedMet enc C.prog fn (OpenSpec.ofChange s) apart (w.forCall tape i).memory i.args)/\a.holds C.prog (lone (Frame.enter C.prog f i.args .normal) [] (w.forCall tape i)))
  (m:∀ (W:y4) (base:Nat) (args:Array y5) (c d:List (DataW H)) (before:List MemPlace),
   (∀ (j:Nat) e b,fn.params[j]?=some e->args[j]?=some b->Value.okWide C.prog W .any base e b)->
   DataW.Whole enc C.prog fn.params.toList s.vars apart W args.toList c d before->
   (DataW.weightsEach C.prog (fn.params.toList++s.plain.varTypes C.prog) (c++d)).all (·<=reachBytes)=true->X W args->W.ShapedOpen C.prog->
   y8 C.prog f args W λh e=>∃ b,h=.returned b/\s.post enc C.prog fn apart fresh k again W args b e) :
  ReturnsInHanded a C os f .any (λw args=>(s.pre enc C.prog fn g apart w args/\X w args)/\sizedMet enc C.prog fn (OpenSpec.ofChange s) apart w args) (s.post enc C.prog fn apart fresh k again):=by
 refine returnsInHanded_of_calls own started y witness ?_;intro w tape i _ t _ q hpre _;obtain⟨_,_,_,z,p,_,_,_,_,u⟩:=q;obtain rfl:=b7 (p.symm.trans o);obtain⟨⟨⟨c,d,before,l,_⟩,v⟩,x⟩:=hpre;exact(m (w.forCall tape i) w i.args c d before u (DataW.Whole.of_heap (w':=w.forCall tape i) (by rfl) l) (x.weights l) (n _ _ _ (by rfl) v) t).m λh e ⟨b,h,r⟩=>(by subst h;exact ChangeSpec.post_blind r)
end Go.Proofs.YtaekdjbnldlklaaGreatDoor
