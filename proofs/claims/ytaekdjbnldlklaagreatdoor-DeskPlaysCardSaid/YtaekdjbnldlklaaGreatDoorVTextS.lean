/- The library's functions on texts and numbers, as this program holds them: their contracts; each theorem names its own conditions. -/
import Derived.Ground.Names2Prog
import Derived.Shelf.GgClosure.StringsIndexFunc
import Derived.Shelf.LaysC
import Derived.Shelf.LaysM
import Derived.Shelf.Slices.SearchI
import Derived.Shelf.Slices.Turned
import Derived.Shelf.Small.Bits
import Derived.Shelf.Small.Strs
import Derived.Shelf.Small.Wraps
import Derived.Shelf.Strconv.Atoi
import Derived.Shelf.Strconv.AtoiAll
import Derived.Shelf.Strconv.AtoiErrFast
import Derived.Shelf.Strconv.AtoiFail
import Derived.Shelf.Strconv.AtoiInnerAll
import Derived.Shelf.Strconv.AtoiLong
import Derived.Shelf.Strconv.Clone
import Derived.Shelf.Strconv.ErrVarAll
import Derived.Shelf.Strconv.Itoa0
import Derived.Shelf.Strconv.Itoa1
import Derived.Shelf.Strconv.Itoa2
import Derived.Shelf.Strconv.Itoa3
import Derived.Shelf.Strconv.Lower
import Derived.Shelf.Strconv.ParseInt10
import Derived.Shelf.Strconv.ParseIntEmpty
import Derived.Shelf.Strconv.ParseUint10
import Derived.Shelf.Strconv.ParseUint10Any
import Derived.Shelf.Strconv.ParseUint10Empty
import Derived.Shelf.Strconv.ParseUint10b16
import Derived.Shelf.Strconv.ParseUint10b32
import Derived.Shelf.Strconv.ParseUint10b64
import Derived.Shelf.Strconv.ParseUint10b8
import Derived.Shelf.Strconv.ParseUintEmpty
import Derived.Shelf.Strconv.RangeError
import Derived.Shelf.Strconv.SyntaxError
import Derived.Shelf.Strconv.ToError
import Derived.Shelf.Strconv.ToErrorRange
import Derived.Shelf.Strings.Builder1
import Derived.Shelf.Strings.Builder2
import Derived.Shelf.Strings.Builder2Cap
import Derived.Shelf.Strings.BuilderF
import Derived.Shelf.Strings.BuilderK
import Derived.Shelf.Strings.Count
import Derived.Shelf.Strings.Cut
import Derived.Shelf.Strings.Explode
import Derived.Shelf.Strings.Fields
import Derived.Shelf.Strings.FieldsAny
import Derived.Shelf.Strings.FieldsFuncAny
import Derived.Shelf.Strings.OnBuilder
import Derived.Shelf.Strings.Prefix
import Derived.Shelf.Strings.RuneCount
import Derived.Shelf.Strings.Search1
import Derived.Shelf.Strings.Search2
import Derived.Shelf.Strings.Search3
import Derived.Shelf.Strings.Shaped
import Derived.Shelf.Strings.Split
import Derived.Shelf.Strings.SplitShaped
import Derived.Shelf.Unicode.Decode
import Derived.Shelf.Unicode.DecodeAny
import Derived.Shelf.Unicode.DecodeSlow
import Derived.Shelf.Unicode.ExclAny
import Derived.Shelf.Unicode.Is16Any
import Derived.Shelf.Unicode.Is16White
import Derived.Shelf.Unicode.Is16WhiteD
import Derived.Shelf.Unicode.Is32Any
import Derived.Shelf.Unicode.IsSpaceAny
import Derived.Shelf.Unicode.IsSpaceAnyD
import Derived.Shelf.Unicode.Latin
import Derived.Shelf.Utf8.RuneCount
import Derived.Test.YtaekdjbnldlklaaGreatDoorProg
set_option maxRecDepth 100000
set_option maxHeartbeats 8000000
set_option linter.unusedSimpArgs false
set_option linter.unusedVariables false
theorem Eq.u {α:Type _} {a:Option α} {b c:α} (d:a=Option.some b) (e:b=c:=by kernel_rfl):a=Option.some c:=e▸d
namespace Go.Proofs
open _root_.Go.Proofs.Tryz
open _root_.Option renaming some->M,none->J
open Go.Value renaming slice->O,int->Y,string->aIA
open Go.IntKind renaming i64->Z
open Go.Shelf
def Tryz.lays169_ren:Go.Shelf.Ren:=⟨λ| 169=>15|n=>n,λ| 70=>39|9=>9|0=>0|72=>42|37=>40|127=>97|3=>3|5=>5|n=>n,λ| n=>n⟩
theorem Tryz.lays169:Go.Proofs.Lays.n169 prog Tryz.lays169_ren:={
 mixed:=by kernel_rfl
 f169:=func15.u
 t0:=underlying0
 a0:=Tryz.isAgg0
 z0:=Tryz.sizeOf0
 v0:=Tryz.zeroValue0
 t3:=underlying3
 a3:=Tryz.isAgg3
 z3:=Tryz.sizeOf3
 v3:=Tryz.zeroValue3
 t9:=underlying9
 a9:=Tryz.isAgg9
 z9:=Tryz.sizeOf9
 v9:=Tryz.zeroValue9
 t37:=underlying40
 a37:=Tryz.isAgg40
 z37:=Tryz.sizeOf40
 v37:=Tryz.zeroValue40
 t70:=underlying39
 a70:=Tryz.isAgg39
 z70:=Tryz.sizeOf39
 v70:=Tryz.zeroValue39
 t72:=underlying42
 a72:=Tryz.isAgg42
 z72:=Tryz.sizeOf42
 v72:=Tryz.zeroValue42
 t127:=underlying97
 a127:=Tryz.isAgg97
 z127:=Tryz.sizeOf97
 v127:=Tryz.zeroValue97 }
theorem Tryz.Builder_Extra_169:Builder.Extra prog Tryz.lays169_ren:={
 sizeBuilder:=by kernel_rfl
 liesBuilder:=by kernel_rfl
 t5:=underlying5
 a5:=Tryz.isAgg5
 z5:=Tryz.sizeOf5
 v5:=Tryz.zeroValue5
 infoByte:=by kernel_rfl
 cellsByte:=by kernel_rfl
 sizeByte:=by kernel_rfl
 neB5:=by decide }
def Tryz.lays156_ren:Go.Shelf.Ren:=⟨λ| 156=>88|165=>136|166=>12|169=>15|240=>33|241=>184|276=>86|277=>226|n=>n,λ| 31=>82|9=>9|3=>3|4=>4|0=>0|20=>20|72=>42|76=>48|70=>39|37=>40|75=>47|127=>97|164=>124|5=>5|80=>52|n=>n,λ| n=>n⟩
theorem Tryz.lays156:Go.Proofs.Lays.n156 prog Tryz.lays156_ren:={
 mixed:=by kernel_rfl
 f156:=func88.u
 f165:=func136.u
 f166:=func12.u
 f169:=func15.u
 f240:=func33.u
 f241:=func184.u
 f276:=func86.u
 f277:=func226.u
 t0:=underlying0
 a0:=Tryz.isAgg0
 z0:=Tryz.sizeOf0
 v0:=Tryz.zeroValue0
 t3:=underlying3
 a3:=Tryz.isAgg3
 z3:=Tryz.sizeOf3
 v3:=Tryz.zeroValue3
 t4:=underlying4
 a4:=Tryz.isAgg4
 z4:=Tryz.sizeOf4
 v4:=Tryz.zeroValue4
 t9:=underlying9
 a9:=Tryz.isAgg9
 z9:=Tryz.sizeOf9
 v9:=Tryz.zeroValue9
 t20:=underlying20
 a20:=Tryz.isAgg20
 z20:=Tryz.sizeOf20
 v20:=Tryz.zeroValue20
 t31:=underlying82
 a31:=Tryz.isAgg82
 z31:=Tryz.sizeOf82
 v31:=Tryz.zeroValue82
 t37:=underlying40
 a37:=Tryz.isAgg40
 z37:=Tryz.sizeOf40
 v37:=Tryz.zeroValue40
 t70:=underlying39
 a70:=Tryz.isAgg39
 z70:=Tryz.sizeOf39
 v70:=Tryz.zeroValue39
 t72:=underlying42
 a72:=Tryz.isAgg42
 z72:=Tryz.sizeOf42
 v72:=Tryz.zeroValue42
 t75:=underlying47
 a75:=Tryz.isAgg47
 z75:=Tryz.sizeOf47
 v75:=Tryz.zeroValue47
 t76:=underlying48
 a76:=Tryz.isAgg48
 z76:=Tryz.sizeOf48
 v76:=Tryz.zeroValue48
 t127:=underlying97
 a127:=Tryz.isAgg97
 z127:=Tryz.sizeOf97
 v127:=Tryz.zeroValue97
 t164:=underlying124
 a164:=Tryz.isAgg124
 z164:=Tryz.sizeOf124
 v164:=Tryz.zeroValue124 }
theorem Tryz.Builder_Extra_156:Builder.Extra prog Tryz.lays156_ren:={
 sizeBuilder:=by kernel_rfl
 liesBuilder:=by kernel_rfl
 t5:=underlying5
 a5:=Tryz.isAgg5
 z5:=Tryz.sizeOf5
 v5:=Tryz.zeroValue5
 infoByte:=by kernel_rfl
 cellsByte:=by kernel_rfl
 sizeByte:=by kernel_rfl
 neB5:=by decide }
open Go.RowKit in
theorem Tryz.strings_Join_none (a:Option Addr) (c:Nat) (b:ByteArray) (w:World) :
  Calls prog 88 #[O a 0 c,.string b] w λd e=>d=.returned (.string ⟨#[]⟩)/\e=w:=Any.strings_Join_none Tryz.lays156 Tryz.Builder_Extra_156 a c b w
open Go.RowKit in
theorem Tryz.strings_Join (a o c:Nat) (xs:List ByteArray) (b:ByteArray) (w:World) (h:∀ (j:Nat) d,xs[j]?=M d->w.cell? ⟨a,o+j,J⟩=M (.string d)) (f:a<w.heap.size) (e:xs.length<=140737488355328) (g:xs.length<=c) (hlen:(Lib.join (xs.map (·.data.toList)) b.data.toList).length<=140737488355328) :
  Calls prog 88 #[O (M ⟨a,o,J⟩) xs.length c,.string b] w λd i=>d=.returned (.string ⟨(Lib.join (xs.map (·.data.toList)) b.data.toList).toArray⟩)/\Below w.heap.size w i:=Any.strings_Join Tryz.lays156 Tryz.Builder_Extra_156 a o c xs b w h f e g hlen
def Tryz.lays137_ren:Go.Shelf.Ren:=⟨λ| 137=>32|217=>85|266=>134|n=>n,λ| 9=>9|5=>5|3=>3|n=>n,λ| n=>n⟩
theorem Tryz.lays137:Go.Proofs.Lays.n137 prog Tryz.lays137_ren:={
 mixed:=by kernel_rfl
 f137:=func32.u
 f217:=func85.u
 f266:=func134.u
 t3:=underlying3
 a3:=Tryz.isAgg3
 z3:=Tryz.sizeOf3
 v3:=Tryz.zeroValue3
 t5:=underlying5
 a5:=Tryz.isAgg5
 z5:=Tryz.sizeOf5
 v5:=Tryz.zeroValue5
 t9:=underlying9
 a9:=Tryz.isAgg9
 z9:=Tryz.sizeOf9
 v9:=Tryz.zeroValue9 }
open Go.RowKit in
theorem Tryz.strings_IndexByte (s:ByteArray) (c:Int) (w:World) :
  Calls prog 32 #[.string s,.int .u8 c] w λa b=>a=.returned (Y Z (Lib.indexByte s.data.toList c.toNat.toUInt8))/\b=w:=Any.strings_IndexByte Tryz.lays137 s c w
open Go.RowKit in
theorem Tryz.Builder_String_any_k (B b:Nat) (l:List UInt8) (w:World) (d:Lib.IsBuilderF 42 5 B b (Lib.byteCells l) w) (e:B<=w.heap.size) :
  Calls prog 15 #[.pointer (M ⟨b,0,J⟩)] w λc a=>c=.returned (.string ⟨l.toArray⟩)/\(Lib.IsBuilderF 42 5 B b (Lib.byteCells l) a/\Below B w a/\Lib.OthersKept 5 (M b) w a):=Any.Builder_String_any_k Tryz.lays169 Tryz.Builder_Extra_169 B b l w d e
def Tryz.laysM171_ren:Go.Shelf.Ren:=⟨λ| 171=>35|243=>87|246=>135|283=>180|284=>181|285=>182|286=>183|129=>222|317=>221|318=>223|319=>224|320=>225|337=>250|338=>251|n=>n,λ| 3=>3|9=>9|2=>2|4=>4|171=>209|0=>0|53=>210|37=>40|5=>5|173=>213|212=>256|51=>202|20=>20|213=>257|46=>161|232=>300|233=>301|n=>n,λ| 17=>3|18=>8|19=>9|n=>n⟩
theorem Tryz.laysM171:Go.Proofs.LaysM.n171 prog Tryz.laysM171_ren:={
 mixed:=by kernel_rfl
 f129:=func222.u
 f171:=func35.u
 f243:=func87.u
 f246:=func135.u
 f283:=func180.u
 f284:=func181.u
 f285:=func182.u
 f286:=func183.u
 f317:=func221.u
 f318:=func223.u
 f319:=func224.u
 f320:=func225.u
 f337:=func250.u
 f338:=func251.u
 t0:=underlying0
 a0:=Tryz.isAgg0
 z0:=Tryz.sizeOf0
 v0:=Tryz.zeroValue0
 t2:=underlying2
 a2:=Tryz.isAgg2
 z2:=Tryz.sizeOf2
 v2:=Tryz.zeroValue2
 t3:=underlying3
 a3:=Tryz.isAgg3
 z3:=Tryz.sizeOf3
 v3:=Tryz.zeroValue3
 t4:=underlying4
 a4:=Tryz.isAgg4
 z4:=Tryz.sizeOf4
 v4:=Tryz.zeroValue4
 t5:=underlying5
 a5:=Tryz.isAgg5
 z5:=Tryz.sizeOf5
 v5:=Tryz.zeroValue5
 t9:=underlying9
 a9:=Tryz.isAgg9
 z9:=Tryz.sizeOf9
 v9:=Tryz.zeroValue9
 t20:=underlying20
 a20:=Tryz.isAgg20
 z20:=Tryz.sizeOf20
 v20:=Tryz.zeroValue20
 t37:=underlying40
 a37:=Tryz.isAgg40
 z37:=Tryz.sizeOf40
 v37:=Tryz.zeroValue40
 t46:=underlying161
 a46:=Tryz.isAgg161
 z46:=Tryz.sizeOf161
 v46:=Tryz.zeroValue161
 t51:=underlying202
 a51:=Tryz.isAgg202
 z51:=Tryz.sizeOf202
 v51:=Tryz.zeroValue202
 t53:=underlying210
 a53:=Tryz.isAgg210
 z53:=Tryz.sizeOf210
 v53:=Tryz.zeroValue210
 t171:=underlying209
 a171:=Tryz.isAgg209
 z171:=Tryz.sizeOf209
 v171:=Tryz.zeroValue209
 t173:=underlying213
 a173:=Tryz.isAgg213
 z173:=Tryz.sizeOf213
 v173:=Tryz.zeroValue213
 t212:=underlying256
 a212:=Tryz.isAgg256
 z212:=Tryz.sizeOf256
 v212:=Tryz.zeroValue256
 t213:=underlying257
 a213:=Tryz.isAgg257
 z213:=Tryz.sizeOf257
 t232:=underlying300
 a232:=Tryz.isAgg300
 z232:=Tryz.sizeOf300
 v232:=Tryz.zeroValue300
 t233:=underlying301
 a233:=Tryz.isAgg301
 z233:=Tryz.sizeOf301
 v233:=Tryz.zeroValue301
 g17:=by kernel_rfl
 g18:=by kernel_rfl
 g19:=by kernel_rfl
 i0:=by kernel_rfl
 i2:=by kernel_rfl
 i3:=by kernel_rfl
 i4:=by kernel_rfl
 i5:=by kernel_rfl
 i9:=by kernel_rfl
 i20:=by kernel_rfl
 i37:=by kernel_rfl
 i46:=by kernel_rfl
 i51:=by kernel_rfl
 i53:=by kernel_rfl
 i171:=by kernel_rfl
 i173:=by kernel_rfl
 i212:=by kernel_rfl
 i232:=by kernel_rfl
 i233:=by kernel_rfl
 m17:=by kernel_rfl
 m18:=by kernel_rfl
 m19:=by kernel_rfl }
open Go.RowKit Go.Sort Go.Lib in
theorem Tryz.strconv_Itoa (n : Int) (b : -9223372036854775808<=n) (c : n<=9223372036854775807) (w : World) (d : Lib.TabIs prog w "internal/strconv.uint64pow10" .u64 Lib.pow10Tab) :
  Calls prog 35 #[Y Z n] w λa f=>a=.returned (.string ⟨(Lib.itoa n).toArray⟩)/\∃ a e,f=grow (w.drewN a) e:=Any.strconv_Itoa Tryz.laysM171 n b c w d
def Tryz.lays171_ren:Go.Shelf.Ren:=⟨λ| 171=>35|243=>87|246=>135|283=>180|284=>181|285=>182|286=>183|129=>222|317=>221|318=>223|319=>224|320=>225|337=>250|338=>251|n=>n,λ| 3=>3|9=>9|2=>2|4=>4|171=>209|0=>0|53=>210|37=>40|5=>5|173=>213|212=>256|51=>202|20=>20|213=>257|46=>161|232=>300|233=>301|n=>n,λ| 17=>3|18=>8|19=>9|n=>n⟩
theorem Tryz.lays171:Go.Proofs.Lays.n171 prog Tryz.lays171_ren:={
 mixed:=by kernel_rfl
 f129:=func222.u
 f171:=func35.u
 f243:=func87.u
 f246:=func135.u
 f283:=func180.u
 f284:=func181.u
 f285:=func182.u
 f286:=func183.u
 f317:=func221.u
 f318:=func223.u
 f319:=func224.u
 f320:=func225.u
 f337:=func250.u
 f338:=func251.u
 t0:=underlying0
 a0:=Tryz.isAgg0
 z0:=Tryz.sizeOf0
 v0:=Tryz.zeroValue0
 t2:=underlying2
 a2:=Tryz.isAgg2
 z2:=Tryz.sizeOf2
 v2:=Tryz.zeroValue2
 t3:=underlying3
 a3:=Tryz.isAgg3
 z3:=Tryz.sizeOf3
 v3:=Tryz.zeroValue3
 t4:=underlying4
 a4:=Tryz.isAgg4
 z4:=Tryz.sizeOf4
 v4:=Tryz.zeroValue4
 t5:=underlying5
 a5:=Tryz.isAgg5
 z5:=Tryz.sizeOf5
 v5:=Tryz.zeroValue5
 t9:=underlying9
 a9:=Tryz.isAgg9
 z9:=Tryz.sizeOf9
 v9:=Tryz.zeroValue9
 t20:=underlying20
 a20:=Tryz.isAgg20
 z20:=Tryz.sizeOf20
 v20:=Tryz.zeroValue20
 t37:=underlying40
 a37:=Tryz.isAgg40
 z37:=Tryz.sizeOf40
 v37:=Tryz.zeroValue40
 t46:=underlying161
 a46:=Tryz.isAgg161
 z46:=Tryz.sizeOf161
 v46:=Tryz.zeroValue161
 t51:=underlying202
 a51:=Tryz.isAgg202
 z51:=Tryz.sizeOf202
 v51:=Tryz.zeroValue202
 t53:=underlying210
 a53:=Tryz.isAgg210
 z53:=Tryz.sizeOf210
 v53:=Tryz.zeroValue210
 t171:=underlying209
 a171:=Tryz.isAgg209
 z171:=Tryz.sizeOf209
 v171:=Tryz.zeroValue209
 t173:=underlying213
 a173:=Tryz.isAgg213
 z173:=Tryz.sizeOf213
 v173:=Tryz.zeroValue213
 t212:=underlying256
 a212:=Tryz.isAgg256
 z212:=Tryz.sizeOf256
 v212:=Tryz.zeroValue256
 t213:=underlying257
 a213:=Tryz.isAgg257
 z213:=Tryz.sizeOf257
 t232:=underlying300
 a232:=Tryz.isAgg300
 z232:=Tryz.sizeOf300
 v232:=Tryz.zeroValue300
 t233:=underlying301
 a233:=Tryz.isAgg301
 z233:=Tryz.sizeOf301
 v233:=Tryz.zeroValue301
 g17:=by kernel_rfl
 g18:=by kernel_rfl
 g19:=by kernel_rfl }
open Go.RowKit Go.Sort Go.Lib in
theorem Tryz.strconv_Itoa_small (i:Nat) (b:i<100) (w:World) :
  Calls prog 35 #[Y Z i] w λa c=>a=.returned (.string ⟨(Lib.decDigits i).toArray⟩)/\c=w:=Any.strconv_Itoa_small Tryz.lays171 i b w
def Tryz.laysC172_ren:Go.Shelf.Ren:=⟨λ| 172=>90|244=>138|245=>139|247=>186|279=>187|280=>188|281=>189|282=>190|287=>228|316=>229|171=>35|205=>230|321=>252|322=>253|243=>87|246=>135|283=>180|284=>181|285=>182|286=>183|129=>222|317=>221|318=>223|319=>224|320=>225|337=>250|338=>251|n=>n,λ| 9=>9|3=>3|75=>47|76=>48|4=>4|5=>5|167=>217|37=>40|0=>0|85=>218|2=>2|168=>220|53=>210|175=>260|46=>161|210=>263|127=>97|145=>289|143=>287|21=>21|171=>209|173=>213|212=>256|51=>202|20=>20|213=>257|232=>300|233=>301|80=>52|n=>n,λ| 15=>4|16=>5|17=>3|18=>8|19=>9|n=>n⟩
theorem Tryz.laysC172:Go.Proofs.LaysC.n172 prog Tryz.laysC172_ren:={
 mixed:=by kernel_rfl
 f129:=func222.u
 f171:=func35.u
 f172:=func90.u
 f205:=func230.u
 f243:=func87.u
 f244:=func138.u
 f245:=func139.u
 f246:=func135.u
 f247:=func186.u
 f279:=func187.u
 f280:=func188.u
 f281:=func189.u
 f282:=func190.u
 f283:=func180.u
 f284:=func181.u
 f285:=func182.u
 f286:=func183.u
 f287:=func228.u
 f316:=func229.u
 f317:=func221.u
 f318:=func223.u
 f319:=func224.u
 f320:=func225.u
 f321:=func252.u
 f322:=func253.u
 f337:=func250.u
 f338:=func251.u
 t0:=underlying0
 a0:=Tryz.isAgg0
 z0:=Tryz.sizeOf0
 v0:=Tryz.zeroValue0
 t2:=underlying2
 a2:=Tryz.isAgg2
 z2:=Tryz.sizeOf2
 v2:=Tryz.zeroValue2
 t3:=underlying3
 a3:=Tryz.isAgg3
 z3:=Tryz.sizeOf3
 v3:=Tryz.zeroValue3
 t4:=underlying4
 a4:=Tryz.isAgg4
 z4:=Tryz.sizeOf4
 v4:=Tryz.zeroValue4
 t5:=underlying5
 a5:=Tryz.isAgg5
 z5:=Tryz.sizeOf5
 v5:=Tryz.zeroValue5
 t9:=underlying9
 a9:=Tryz.isAgg9
 z9:=Tryz.sizeOf9
 v9:=Tryz.zeroValue9
 t20:=underlying20
 a20:=Tryz.isAgg20
 z20:=Tryz.sizeOf20
 v20:=Tryz.zeroValue20
 t21:=underlying21
 a21:=Tryz.isAgg21
 z21:=Tryz.sizeOf21
 v21:=Tryz.zeroValue21
 t37:=underlying40
 a37:=Tryz.isAgg40
 z37:=Tryz.sizeOf40
 v37:=Tryz.zeroValue40
 t46:=underlying161
 a46:=Tryz.isAgg161
 z46:=Tryz.sizeOf161
 v46:=Tryz.zeroValue161
 t51:=underlying202
 a51:=Tryz.isAgg202
 z51:=Tryz.sizeOf202
 v51:=Tryz.zeroValue202
 t53:=underlying210
 a53:=Tryz.isAgg210
 z53:=Tryz.sizeOf210
 v53:=Tryz.zeroValue210
 t75:=underlying47
 a75:=Tryz.isAgg47
 z75:=Tryz.sizeOf47
 v75:=Tryz.zeroValue47
 t76:=underlying48
 a76:=Tryz.isAgg48
 z76:=Tryz.sizeOf48
 v76:=Tryz.zeroValue48
 t85:=underlying218
 a85:=Tryz.isAgg218
 z85:=Tryz.sizeOf218
 v85:=Tryz.zeroValue218
 t127:=underlying97
 a127:=Tryz.isAgg97
 z127:=Tryz.sizeOf97
 v127:=Tryz.zeroValue97
 t143:=underlying287
 a143:=Tryz.isAgg287
 z143:=Tryz.sizeOf287
 v143:=Tryz.zeroValue287
 t145:=underlying289
 a145:=Tryz.isAgg289
 z145:=Tryz.sizeOf289
 v145:=Tryz.zeroValue289
 t167:=underlying217
 a167:=Tryz.isAgg217
 z167:=Tryz.sizeOf217
 v167:=Tryz.zeroValue217
 t168:=underlying220
 a168:=Tryz.isAgg220
 z168:=Tryz.sizeOf220
 v168:=Tryz.zeroValue220
 t171:=underlying209
 a171:=Tryz.isAgg209
 z171:=Tryz.sizeOf209
 v171:=Tryz.zeroValue209
 t173:=underlying213
 a173:=Tryz.isAgg213
 z173:=Tryz.sizeOf213
 v173:=Tryz.zeroValue213
 t175:=underlying260
 a175:=Tryz.isAgg260
 z175:=Tryz.sizeOf260
 v175:=Tryz.zeroValue260
 t210:=underlying263
 a210:=Tryz.isAgg263
 z210:=Tryz.sizeOf263
 v210:=Tryz.zeroValue263
 t212:=underlying256
 a212:=Tryz.isAgg256
 z212:=Tryz.sizeOf256
 v212:=Tryz.zeroValue256
 t213:=underlying257
 a213:=Tryz.isAgg257
 z213:=Tryz.sizeOf257
 t232:=underlying300
 a232:=Tryz.isAgg300
 z232:=Tryz.sizeOf300
 v232:=Tryz.zeroValue300
 t233:=underlying301
 a233:=Tryz.isAgg301
 z233:=Tryz.sizeOf301
 v233:=Tryz.zeroValue301
 g15:=by kernel_rfl
 g16:=by kernel_rfl
 g17:=by kernel_rfl
 g18:=by kernel_rfl
 g19:=by kernel_rfl
 t80:=underlying52
 a80:=Tryz.isAgg52
 z80:=Tryz.sizeOf52
 v80:=Tryz.zeroValue52
 i0:=by kernel_rfl
 i2:=by kernel_rfl
 i3:=by kernel_rfl
 i4:=by kernel_rfl
 i5:=by kernel_rfl
 i9:=by kernel_rfl
 i20:=by kernel_rfl
 i21:=by kernel_rfl
 i37:=by kernel_rfl
 i46:=by kernel_rfl
 i51:=by kernel_rfl
 i53:=by kernel_rfl
 i75:=by kernel_rfl
 i76:=by kernel_rfl
 i80:=by kernel_rfl
 i85:=by kernel_rfl
 i127:=by kernel_rfl
 i143:=by kernel_rfl
 i145:=by kernel_rfl
 i167:=by kernel_rfl
 i168:=by kernel_rfl
 i171:=by kernel_rfl
 i173:=by kernel_rfl
 i175:=by kernel_rfl
 i210:=by kernel_rfl
 i212:=by kernel_rfl
 i232:=by kernel_rfl
 i233:=by kernel_rfl
 m15:=by kernel_rfl
 m16:=by kernel_rfl
 m17:=by kernel_rfl
 m18:=by kernel_rfl
 m19:=by kernel_rfl
 c0:=by kernel_rfl
 c2:=by kernel_rfl
 c3:=by kernel_rfl
 c4:=by kernel_rfl
 c5:=by kernel_rfl
 c9:=by kernel_rfl
 c20:=by kernel_rfl
 c21:=by kernel_rfl
 c37:=by kernel_rfl
 c46:=by kernel_rfl
 c51:=by kernel_rfl
 c53:=by kernel_rfl
 c75:=by kernel_rfl
 c76:=by kernel_rfl
 c80:=by kernel_rfl
 c85:=by kernel_rfl
 c127:=by kernel_rfl
 c143:=by kernel_rfl
 c145:=by kernel_rfl
 c167:=by kernel_rfl
 c168:=by kernel_rfl
 c171:=by kernel_rfl
 c173:=by kernel_rfl
 c175:=by kernel_rfl
 c210:=by kernel_rfl
 c212:=by kernel_rfl
 c213:=by kernel_rfl
 c232:=by kernel_rfl
 c233:=by kernel_rfl }
open Go.RowKit in
theorem Tryz.strconv_Atoi_ok (s:ByteArray) (d:s.size<=9223372036854775806) (v:Int) (c:Lib.atoiAll s.data.toList=.ok v) (w:World) :
  Calls prog 90 #[.string s] w λb a=>b=.returned (.tuple #[Y Z v,.nilIface])/\(a=w\/∃ b,a=Lib.bytesWorld w 5 b):=Any.strconv_Atoi_ok Tryz.laysC172 s d v c w
def Tryz.lays145_ren:Go.Shelf.Ren:=⟨λ| 145=>69|220=>123|219=>74|217=>85|225=>126|224=>127|267=>128|266=>134|314=>176|n=>n,λ| 9=>9|4=>4|59=>98|3=>3|5=>5|46=>161|146=>205|51=>202|n=>n,λ| 1=>0|n=>n⟩
theorem Tryz.lays145:Go.Proofs.Lays.n145 prog Tryz.lays145_ren:={
 mixed:=by kernel_rfl
 f145:=func69.u
 f217:=func85.u
 f219:=func74.u
 f220:=func123.u
 f224:=func127.u
 f225:=func126.u
 f266:=func134.u
 f267:=func128.u
 f314:=func176.u
 t3:=underlying3
 a3:=Tryz.isAgg3
 z3:=Tryz.sizeOf3
 v3:=Tryz.zeroValue3
 t4:=underlying4
 a4:=Tryz.isAgg4
 z4:=Tryz.sizeOf4
 v4:=Tryz.zeroValue4
 t5:=underlying5
 a5:=Tryz.isAgg5
 z5:=Tryz.sizeOf5
 v5:=Tryz.zeroValue5
 t9:=underlying9
 a9:=Tryz.isAgg9
 z9:=Tryz.sizeOf9
 v9:=Tryz.zeroValue9
 t46:=underlying161
 a46:=Tryz.isAgg161
 z46:=Tryz.sizeOf161
 v46:=Tryz.zeroValue161
 t51:=underlying202
 a51:=Tryz.isAgg202
 z51:=Tryz.sizeOf202
 v51:=Tryz.zeroValue202
 t59:=underlying98
 a59:=Tryz.isAgg98
 z59:=Tryz.sizeOf98
 v59:=Tryz.zeroValue98
 t146:=underlying205
 a146:=Tryz.isAgg205
 z146:=Tryz.sizeOf205
 v146:=Tryz.zeroValue205
 g1:=by kernel_rfl }
open Go.RowKit Go.Lib in
theorem Tryz.strings_Cut (s a:ByteArray) (m:Int) (w:World) (d:s.size<4294967281) (c:w.cell? ⟨0,0,J⟩=M (Y Z m)) :
  Calls prog 69 #[.string s,.string a] w λb e=>b=.returned (.tuple #[.string ⟨(Lib.cut s.data.toList a.data.toList).1.toArray⟩,.string ⟨(Lib.cut s.data.toList a.data.toList).2.1.toArray⟩,.bool (Lib.cut s.data.toList a.data.toList).2.2])/\∃ n,e=w.drewN n:=Any.strings_Cut Tryz.lays145 s a m w d c
def Tryz.lays138_ren:Go.Shelf.Ren:=⟨λ| 138=>8|195=>25|218=>26|143=>27|219=>74|217=>85|225=>126|224=>127|267=>128|266=>134|314=>176|n=>n,λ| 9=>9|3=>3|4=>4|5=>5|0=>0|46=>161|146=>205|51=>202|n=>n,λ| 1=>0|n=>n⟩
theorem Tryz.lays138:Go.Proofs.Lays.n138 prog Tryz.lays138_ren:={
 mixed:=by kernel_rfl
 f138:=func8.u
 f143:=func27.u
 f195:=func25.u
 f217:=func85.u
 f218:=func26.u
 f219:=func74.u
 f224:=func127.u
 f225:=func126.u
 f266:=func134.u
 f267:=func128.u
 f314:=func176.u
 t0:=underlying0
 a0:=Tryz.isAgg0
 z0:=Tryz.sizeOf0
 v0:=Tryz.zeroValue0
 t3:=underlying3
 a3:=Tryz.isAgg3
 z3:=Tryz.sizeOf3
 v3:=Tryz.zeroValue3
 t4:=underlying4
 a4:=Tryz.isAgg4
 z4:=Tryz.sizeOf4
 v4:=Tryz.zeroValue4
 t5:=underlying5
 a5:=Tryz.isAgg5
 z5:=Tryz.sizeOf5
 v5:=Tryz.zeroValue5
 t9:=underlying9
 a9:=Tryz.isAgg9
 z9:=Tryz.sizeOf9
 v9:=Tryz.zeroValue9
 t46:=underlying161
 a46:=Tryz.isAgg161
 z46:=Tryz.sizeOf161
 v46:=Tryz.zeroValue161
 t51:=underlying202
 a51:=Tryz.isAgg202
 z51:=Tryz.sizeOf202
 v51:=Tryz.zeroValue202
 t146:=underlying205
 a146:=Tryz.isAgg205
 z146:=Tryz.sizeOf205
 v146:=Tryz.zeroValue205
 g1:=by kernel_rfl }
open Go.RowKit Go.Lib in
theorem Tryz.strings_Count_one (s:ByteArray) (c:UInt8) (w:World) :
  Calls prog 8 #[.string s,.string ⟨#[c]⟩] w λa b=>a=.returned (Y Z (Lib.countByte s.data.toList c))/\b=w:=Any.strings_Count_one Tryz.lays138 s c w
def Tryz.lays100_ren:Go.Shelf.Ren:=⟨λ| 100=>9|207=>28|n=>n,λ| 9=>9|4=>4|3=>3|n=>n,λ| n=>n⟩
theorem Tryz.lays100:Go.Proofs.Lays.n100 prog Tryz.lays100_ren:={
 mixed:=by kernel_rfl
 f100:=func9.u
 f207:=func28.u
 t3:=underlying3
 a3:=Tryz.isAgg3
 z3:=Tryz.sizeOf3
 v3:=Tryz.zeroValue3
 t4:=underlying4
 a4:=Tryz.isAgg4
 z4:=Tryz.sizeOf4
 v4:=Tryz.zeroValue4
 t9:=underlying9
 a9:=Tryz.isAgg9
 z9:=Tryz.sizeOf9
 v9:=Tryz.zeroValue9 }
open Go.RowKit Go.Lib in
theorem Tryz.strings_HasSuffix (s p:ByteArray) (w:World) (b:s.size<=9223372036854775807) :
  Calls prog 9 #[.string s,.string p] w λa c=>a=.returned (.bool (Lib.hasSuffix s.data.toList p.data.toList))/\c=w:=Any.strings_HasSuffix Tryz.lays100 s p w b
def Tryz.lays102_ren:Go.Shelf.Ren:=⟨λ| 102=>14|209=>51|207=>28|n=>n,λ| 9=>9|4=>4|3=>3|n=>n,λ| n=>n⟩
theorem Tryz.lays102:Go.Proofs.Lays.n102 prog Tryz.lays102_ren:={
 mixed:=by kernel_rfl
 f102:=func14.u
 f207:=func28.u
 f209:=func51.u
 t3:=underlying3
 a3:=Tryz.isAgg3
 z3:=Tryz.sizeOf3
 v3:=Tryz.zeroValue3
 t4:=underlying4
 a4:=Tryz.isAgg4
 z4:=Tryz.sizeOf4
 v4:=Tryz.zeroValue4
 t9:=underlying9
 a9:=Tryz.isAgg9
 z9:=Tryz.sizeOf9
 v9:=Tryz.zeroValue9 }
open Go.RowKit Go.Lib in
theorem Tryz.strings_TrimSuffix (s p:ByteArray) (w:World) (b:s.size<=9223372036854775807) :
  Calls prog 14 #[.string s,.string p] w λa c=>a=.returned (.string ⟨(Lib.trimSuffix s.data.toList p.data.toList).toArray⟩)/\c=w:=Any.strings_TrimSuffix Tryz.lays102 s p w b
def Tryz.lays146_ren:Go.Shelf.Ren:=⟨λ| 146=>37|221=>89|268=>137|138=>8|143=>27|195=>25|197=>185|218=>26|219=>74|260=>227|217=>85|225=>126|224=>127|267=>128|266=>134|314=>176|n=>n,λ| 9=>9|31=>82|3=>3|4=>4|0=>0|105=>215|21=>21|5=>5|46=>161|119=>157|139=>285|138=>284|146=>205|51=>202|n=>n,λ| 1=>0|3=>6|4=>7|n=>n⟩
theorem Tryz.lays146:Go.Proofs.Lays.n146 prog Tryz.lays146_ren:={
 mixed:=by kernel_rfl
 f138:=func8.u
 f143:=func27.u
 f146:=func37.u
 f195:=func25.u
 f197:=func185.u
 f217:=func85.u
 f218:=func26.u
 f219:=func74.u
 f221:=func89.u
 f224:=func127.u
 f225:=func126.u
 f260:=func227.u
 f266:=func134.u
 f267:=func128.u
 f268:=func137.u
 f314:=func176.u
 t0:=underlying0
 a0:=Tryz.isAgg0
 z0:=Tryz.sizeOf0
 v0:=Tryz.zeroValue0
 t3:=underlying3
 a3:=Tryz.isAgg3
 z3:=Tryz.sizeOf3
 v3:=Tryz.zeroValue3
 t4:=underlying4
 a4:=Tryz.isAgg4
 z4:=Tryz.sizeOf4
 v4:=Tryz.zeroValue4
 t5:=underlying5
 a5:=Tryz.isAgg5
 z5:=Tryz.sizeOf5
 v5:=Tryz.zeroValue5
 t9:=underlying9
 a9:=Tryz.isAgg9
 z9:=Tryz.sizeOf9
 v9:=Tryz.zeroValue9
 t21:=underlying21
 a21:=Tryz.isAgg21
 z21:=Tryz.sizeOf21
 v21:=Tryz.zeroValue21
 t31:=underlying82
 a31:=Tryz.isAgg82
 z31:=Tryz.sizeOf82
 v31:=Tryz.zeroValue82
 t46:=underlying161
 a46:=Tryz.isAgg161
 z46:=Tryz.sizeOf161
 v46:=Tryz.zeroValue161
 t51:=underlying202
 a51:=Tryz.isAgg202
 z51:=Tryz.sizeOf202
 v51:=Tryz.zeroValue202
 t105:=underlying215
 a105:=Tryz.isAgg215
 z105:=Tryz.sizeOf215
 v105:=Tryz.zeroValue215
 t119:=underlying157
 a119:=Tryz.isAgg157
 z119:=Tryz.sizeOf157
 t138:=underlying284
 a138:=Tryz.isAgg284
 z138:=Tryz.sizeOf284
 v138:=Tryz.zeroValue284
 t139:=underlying285
 a139:=Tryz.isAgg285
 z139:=Tryz.sizeOf285
 v139:=Tryz.zeroValue285
 t146:=underlying205
 a146:=Tryz.isAgg205
 z146:=Tryz.sizeOf205
 v146:=Tryz.zeroValue205
 g1:=by kernel_rfl
 g3:=by kernel_rfl
 g4:=by kernel_rfl }
open Go.RowKit Go.Lib in
theorem Tryz.strings_Split (s a:ByteArray) (m:Int) (w:World) (e:s.size<4294967281) (d:w.cell? ⟨0,0,J⟩=M (Y Z m)) (c:1<=a.size) :
  Calls prog 37 #[.string s,.string a] w λb f=>
   b=.returned (O (M ⟨w.heap.size,0,J⟩) (Lib.countB s a+1) (Lib.countB s a+1))/\f=w.alloc (.cells ((Lib.splitB a 0 (Lib.countB s a) s).map aIA).toArray 9):=Any.strings_Split Tryz.lays146 (by kernel_rfl) s a m w e d c
def Tryz.lays157_ren:Go.Shelf.Ren:=⟨λ| 157=>72|229=>124|199=>125|261=>175|311=>218|312=>219|n=>n,λ| 9=>9|31=>82|3=>3|5=>5|4=>4|119=>157|0=>0|40=>159|152=>199|21=>21|154=>201|51=>202|141=>204|196=>246|193=>243|198=>249|49=>247|194=>244|201=>252|226=>280|46=>161|227=>281|n=>n,λ| 0=>1|6=>2|n=>n⟩
theorem Tryz.lays157:Go.Proofs.Lays.n157 prog Tryz.lays157_ren:={
 mixed:=by kernel_rfl
 f157:=func72.u
 f199:=func125.u
 f229:=func124.u
 f261:=func175.u
 f311:=func218.u
 f312:=func219.u
 t0:=underlying0
 a0:=Tryz.isAgg0
 z0:=Tryz.sizeOf0
 v0:=Tryz.zeroValue0
 t3:=underlying3
 a3:=Tryz.isAgg3
 z3:=Tryz.sizeOf3
 v3:=Tryz.zeroValue3
 t4:=underlying4
 a4:=Tryz.isAgg4
 z4:=Tryz.sizeOf4
 v4:=Tryz.zeroValue4
 t5:=underlying5
 a5:=Tryz.isAgg5
 z5:=Tryz.sizeOf5
 v5:=Tryz.zeroValue5
 t9:=underlying9
 a9:=Tryz.isAgg9
 z9:=Tryz.sizeOf9
 v9:=Tryz.zeroValue9
 t21:=underlying21
 a21:=Tryz.isAgg21
 z21:=Tryz.sizeOf21
 v21:=Tryz.zeroValue21
 t31:=underlying82
 a31:=Tryz.isAgg82
 z31:=Tryz.sizeOf82
 v31:=Tryz.zeroValue82
 t40:=underlying159
 a40:=Tryz.isAgg159
 z40:=Tryz.sizeOf159
 v40:=Tryz.zeroValue159
 t46:=underlying161
 a46:=Tryz.isAgg161
 z46:=Tryz.sizeOf161
 v46:=Tryz.zeroValue161
 t49:=underlying247
 a49:=Tryz.isAgg247
 z49:=Tryz.sizeOf247
 v49:=Tryz.zeroValue247
 t51:=underlying202
 a51:=Tryz.isAgg202
 z51:=Tryz.sizeOf202
 v51:=Tryz.zeroValue202
 t119:=underlying157
 a119:=Tryz.isAgg157
 z119:=Tryz.sizeOf157
 t141:=underlying204
 a141:=Tryz.isAgg204
 z141:=Tryz.sizeOf204
 v141:=Tryz.zeroValue204
 t152:=underlying199
 a152:=Tryz.isAgg199
 z152:=Tryz.sizeOf199
 v152:=Tryz.zeroValue199
 t154:=underlying201
 a154:=Tryz.isAgg201
 z154:=Tryz.sizeOf201
 v154:=Tryz.zeroValue201
 t193:=underlying243
 a193:=Tryz.isAgg243
 z193:=Tryz.sizeOf243
 v193:=Tryz.zeroValue243
 t194:=underlying244
 a194:=Tryz.isAgg244
 z194:=Tryz.sizeOf244
 v194:=Tryz.zeroValue244
 t196:=underlying246
 a196:=Tryz.isAgg246
 z196:=Tryz.sizeOf246
 v196:=Tryz.zeroValue246
 t198:=underlying249
 a198:=Tryz.isAgg249
 z198:=Tryz.sizeOf249
 v198:=Tryz.zeroValue249
 t201:=underlying252
 a201:=Tryz.isAgg252
 z201:=Tryz.sizeOf252
 v201:=Tryz.zeroValue252
 t226:=underlying280
 a226:=Tryz.isAgg280
 z226:=Tryz.sizeOf280
 v226:=Tryz.zeroValue280
 t227:=underlying281
 a227:=Tryz.isAgg281
 z227:=Tryz.sizeOf281
 v227:=Tryz.zeroValue281
 g0:=by kernel_rfl
 g6:=by kernel_rfl }
open Go.RowKit Go.Lib in
theorem Tryz.strings_Fields_any (s : ByteArray) (w : World) (e : s.size<4294967281) (f : Lib.TabIs prog w "strings.asciiSpace" .u8 Lib.asciiSpaceTab) (d : Lib.WhiteTab 2 w) :
  Calls prog 72 #[.string s] w λc b=>∃ a,c=.returned (O (M ⟨a,0,J⟩) (Lib.fieldsD s.data.toList).length (Lib.fieldsD s.data.toList).length)/\w.heap.size<=a/\
   b.ownsRow w.heap.size 9 1 (O (M ⟨a,0,J⟩) (Lib.fieldsD s.data.toList).length (Lib.fieldsD s.data.toList).length) (Lib.fieldsD s.data.toList).length ((Lib.fieldsD s.data.toList).map λa=>aIA ⟨a.toArray⟩)/\Below w.heap.size w b:=Any.strings_Fields_any Tryz.lays157 (by kernel_rfl) (by kernel_rfl) (by kernel_rfl) s w e f d
def Tryz.lays109_ren:Go.Shelf.Ren:=⟨λ| 109=>38|n=>n,λ| 31=>82|9=>9|3=>3|0=>0|4=>4|n=>n,λ| n=>n⟩
theorem Tryz.lays109:Go.Proofs.Lays.n109 prog Tryz.lays109_ren:={
 mixed:=by kernel_rfl
 f109:=func38.u
 t0:=underlying0
 a0:=Tryz.isAgg0
 z0:=Tryz.sizeOf0
 v0:=Tryz.zeroValue0
 t3:=underlying3
 a3:=Tryz.isAgg3
 z3:=Tryz.sizeOf3
 v3:=Tryz.zeroValue3
 t4:=underlying4
 a4:=Tryz.isAgg4
 z4:=Tryz.sizeOf4
 v4:=Tryz.zeroValue4
 t9:=underlying9
 a9:=Tryz.isAgg9
 z9:=Tryz.sizeOf9
 v9:=Tryz.zeroValue9
 t31:=underlying82
 a31:=Tryz.isAgg82
 z31:=Tryz.sizeOf82
 v31:=Tryz.zeroValue82 }
open Go.Lib in
theorem Tryz.slices_Index_string (b e n c:Nat) (a:List ByteArray) (x:ByteArray) (w:World) (h:n<=a.length) (f:n<=9223372036854775807) (g:∀ d,d<a.length->w.cell? ⟨b,e+d,J⟩=M (.string (a.getD d ByteArray.empty))) :
  Calls prog 38 #[O (M ⟨b,e,J⟩) n c,.string x] w λd i=>d=.returned (Y Z (Lib.idxOfS (a.take n) x))/\i=w:=Any.slices_Index_string Tryz.lays109 b e n c a x w h f g
def Tryz.lays110_ren:Go.Shelf.Ren:=⟨λ| 110=>39|109=>38|n=>n,λ| 31=>82|9=>9|4=>4|3=>3|0=>0|n=>n,λ| n=>n⟩
theorem Tryz.lays110:Go.Proofs.Lays.n110 prog Tryz.lays110_ren:={
 mixed:=by kernel_rfl
 f109:=func38.u
 f110:=func39.u
 t0:=underlying0
 a0:=Tryz.isAgg0
 z0:=Tryz.sizeOf0
 v0:=Tryz.zeroValue0
 t3:=underlying3
 a3:=Tryz.isAgg3
 z3:=Tryz.sizeOf3
 v3:=Tryz.zeroValue3
 t4:=underlying4
 a4:=Tryz.isAgg4
 z4:=Tryz.sizeOf4
 v4:=Tryz.zeroValue4
 t9:=underlying9
 a9:=Tryz.isAgg9
 z9:=Tryz.sizeOf9
 v9:=Tryz.zeroValue9
 t31:=underlying82
 a31:=Tryz.isAgg82
 z31:=Tryz.sizeOf82
 v31:=Tryz.zeroValue82 }
open Go.Lib in
theorem Tryz.slices_Contains_string (b e n c:Nat) (a:List ByteArray) (x:ByteArray) (w:World) (h:n<=a.length) (f:n<=9223372036854775807) (g:∀ d,d<a.length->w.cell? ⟨b,e+d,J⟩=M (.string (a.getD d ByteArray.empty))) :
  Calls prog 39 #[O (M ⟨b,e,J⟩) n c,.string x] w λd i=>d=.returned (.bool (Lib.containsS (a.take n) x))/\i=w:=Any.slices_Contains_string Tryz.lays110 b e n c a x w h f g
end Go.Proofs
