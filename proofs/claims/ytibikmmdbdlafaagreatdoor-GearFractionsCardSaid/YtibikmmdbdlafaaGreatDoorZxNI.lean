/-
  DERIVED: THE SHELF's CONTRACTS AT THIS DUMP, IN PLAIN WORDS (tools/lay-plain.mjs out of 'TryzShelf.lean', which tools/lay-shelf.mjs wrote): THE SAME DECLARATIONS UNDER THE SAME NAMES: 'import', 'namespace', 'open', 'def', 'theorem' AND NOTHING ELSE: no command of the shelf's: FOR A HAND-IN. Each laying: the table of numbers ('.._ren') and one theorem, a field a fact of the dump's own or the kernel's comparison; each contract: ONE APPLICATION.
-/
import Derived.Shelf.Strings.Builder1
import Derived.Shelf.Strings.Builder2
import Derived.Shelf.Small.Bits
import Derived.Shelf.Small.Wraps
import Derived.Shelf.Strings.BuilderF
import Derived.Shelf.Strconv.Atoi
import Derived.Shelf.Strconv.Itoa0
import Derived.Shelf.Strconv.Itoa1
import Derived.Shelf.LaysM
import Derived.Shelf.Strconv.Itoa2
import Derived.Shelf.Strconv.Itoa3
import Derived.Shelf.Strings.Search1
import Derived.Shelf.Strings.Search2
import Derived.Shelf.Strings.Cut
import Derived.Shelf.Strings.Shaped
import Derived.Shelf.Sort.Plain
import Derived.Shelf.Strings.Prefix
import Derived.Shelf.Bits.Mul64
import Derived.Shelf.Strings.Repeat
import Derived.Shelf.Slices.Turned
import Derived.Ground.Names2Prog
import Derived.Shelf.Slices.Clone
import Derived.Shelf.Slices.SearchI
import Derived.Shelf.Slices.Delete
import Derived.Shelf.Slices.Cells
import Derived.Shelf.Slices.In.SortNone
import Derived.Test.YtibikmmdbdlafaaGreatDoorProg
import Derived.Test.YtibikmmdbdlafaaGreatDoorZxVNc
namespace Go.Proofs
open Go.Shelf
def Tryz.acG:Go.Shelf.Ren:=⟨fun |134=>224|129=>201|n=>n,fun |53=>167|3=>3|4=>4|46=>181|5=>5|9=>9|n=>n,fun |n=>n⟩
theorem Tryz.acH:Go.Proofs.Lays.n134 Tryz.prog Tryz.acG:={
 mixed:=by kernel_rfl
 f129:=Tryz.func201.trans (congrArg some (by kernel_rfl))
 f134:=Tryz.func224.trans (congrArg some (by kernel_rfl))
 t3:=Tryz.underlying3
 a3:=Tryz.isAgg3
 z3:=Tryz.sizeOf3
 v3:=Tryz.zeroValue3
 t4:=Tryz.underlying4
 a4:=Tryz.isAgg4
 z4:=Tryz.sizeOf4
 v4:=Tryz.zeroValue4
 t5:=Tryz.underlying5
 a5:=Tryz.isAgg5
 z5:=Tryz.sizeOf5
 v5:=Tryz.zeroValue5
 t9:=Tryz.underlying9
 a9:=Tryz.isAgg9
 z9:=Tryz.sizeOf9
 v9:=Tryz.zeroValue9
 t46:=Tryz.underlying181
 a46:=Tryz.isAgg181
 z46:=Tryz.sizeOf181
 v46:=Tryz.zeroValue181
 t53:=Tryz.underlying167
 a53:=Tryz.isAgg167
 z53:=Tryz.sizeOf167
 v53:=Tryz.zeroValue167}
theorem Tryz.bits_LeadingZeros64 (x:Int) (w:World) (h0:0<=x) (h1:x<=18446744073709551615):
  Calls Tryz.prog 224 #[.int .u64 x] w fun e w'=>e= .returned (.int .i64 (64-(Lib.bitLen x.toNat:Int)))/\w'=w:=Any.bits_LeadingZeros64 Tryz.acH x w h0 h1
def Tryz.aqH:Go.Shelf.Ren:=⟨fun |210=>168|206=>218|n=>n,fun |9=>9|4=>4|3=>3|n=>n,fun |n=>n⟩
def Tryz.acI:Go.Shelf.Ren:=⟨fun |172=>174|244=>220|245=>221|247=>244|279=>245|280=>246|281=>247|282=>248|287=>261|316=>262|171=>177|205=>263|321=>269|322=>270|243=>222|246=>249|283=>250|284=>251|285=>252|286=>253|129=>201|317=>264|318=>265|319=>266|320=>267|337=>271|338=>272|n=>n,fun |9=>9|3=>3|75=>195|76=>196|4=>4|5=>5|167=>253|37=>205|0=>0|85=>254|2=>2|168=>256|53=>167|175=>273|46=>181|210=>277|127=>242|145=>286|143=>284|21=>21|171=>260|173=>262|212=>280|51=>223|20=>20|213=>281|232=>287|233=>288|80=>160|n=>n,fun |15=>3|16=>4|17=>5|18=>6|19=>7|n=>n⟩
theorem Tryz.acJ:Go.Proofs.Lays.n172 Tryz.prog Tryz.acI:={
 mixed:=by kernel_rfl
 f129:=Tryz.func201.trans (congrArg some (by kernel_rfl))
 f171:=Tryz.func177.trans (congrArg some (by kernel_rfl))
 f172:=Tryz.func174.trans (congrArg some (by kernel_rfl))
 f205:=Tryz.func263.trans (congrArg some (by kernel_rfl))
 f243:=Tryz.func222.trans (congrArg some (by kernel_rfl))
 f244:=Tryz.func220.trans (congrArg some (by kernel_rfl))
 f245:=Tryz.func221.trans (congrArg some (by kernel_rfl))
 f246:=Tryz.func249.trans (congrArg some (by kernel_rfl))
 f247:=Tryz.func244.trans (congrArg some (by kernel_rfl))
 f279:=Tryz.func245.trans (congrArg some (by kernel_rfl))
 f280:=Tryz.func246.trans (congrArg some (by kernel_rfl))
 f281:=Tryz.func247.trans (congrArg some (by kernel_rfl))
 f282:=Tryz.func248.trans (congrArg some (by kernel_rfl))
 f283:=Tryz.func250.trans (congrArg some (by kernel_rfl))
 f284:=Tryz.func251.trans (congrArg some (by kernel_rfl))
 f285:=Tryz.func252.trans (congrArg some (by kernel_rfl))
 f286:=Tryz.func253.trans (congrArg some (by kernel_rfl))
 f287:=Tryz.func261.trans (congrArg some (by kernel_rfl))
 f316:=Tryz.func262.trans (congrArg some (by kernel_rfl))
 f317:=Tryz.func264.trans (congrArg some (by kernel_rfl))
 f318:=Tryz.func265.trans (congrArg some (by kernel_rfl))
 f319:=Tryz.func266.trans (congrArg some (by kernel_rfl))
 f320:=Tryz.func267.trans (congrArg some (by kernel_rfl))
 f321:=Tryz.func269.trans (congrArg some (by kernel_rfl))
 f322:=Tryz.func270.trans (congrArg some (by kernel_rfl))
 f337:=Tryz.func271.trans (congrArg some (by kernel_rfl))
 f338:=Tryz.func272.trans (congrArg some (by kernel_rfl))
 t0:=Tryz.underlying0
 a0:=Tryz.isAgg0
 z0:=Tryz.sizeOf0
 v0:=Tryz.zeroValue0
 t2:=Tryz.underlying2
 a2:=Tryz.isAgg2
 z2:=Tryz.sizeOf2
 v2:=Tryz.zeroValue2
 t3:=Tryz.underlying3
 a3:=Tryz.isAgg3
 z3:=Tryz.sizeOf3
 v3:=Tryz.zeroValue3
 t4:=Tryz.underlying4
 a4:=Tryz.isAgg4
 z4:=Tryz.sizeOf4
 v4:=Tryz.zeroValue4
 t5:=Tryz.underlying5
 a5:=Tryz.isAgg5
 z5:=Tryz.sizeOf5
 v5:=Tryz.zeroValue5
 t9:=Tryz.underlying9
 a9:=Tryz.isAgg9
 z9:=Tryz.sizeOf9
 v9:=Tryz.zeroValue9
 t20:=Tryz.underlying20
 a20:=Tryz.isAgg20
 z20:=Tryz.sizeOf20
 v20:=Tryz.zeroValue20
 t21:=Tryz.underlying21
 a21:=Tryz.isAgg21
 z21:=Tryz.sizeOf21
 v21:=Tryz.zeroValue21
 t37:=Tryz.underlying205
 a37:=Tryz.isAgg205
 z37:=Tryz.sizeOf205
 v37:=Tryz.zeroValue205
 t46:=Tryz.underlying181
 a46:=Tryz.isAgg181
 z46:=Tryz.sizeOf181
 v46:=Tryz.zeroValue181
 t51:=Tryz.underlying223
 a51:=Tryz.isAgg223
 z51:=Tryz.sizeOf223
 v51:=Tryz.zeroValue223
 t53:=Tryz.underlying167
 a53:=Tryz.isAgg167
 z53:=Tryz.sizeOf167
 v53:=Tryz.zeroValue167
 t75:=Tryz.underlying195
 a75:=Tryz.isAgg195
 z75:=Tryz.sizeOf195
 v75:=Tryz.zeroValue195
 t76:=Tryz.underlying196
 a76:=Tryz.isAgg196
 z76:=Tryz.sizeOf196
 v76:=Tryz.zeroValue196
 t85:=Tryz.underlying254
 a85:=Tryz.isAgg254
 z85:=Tryz.sizeOf254
 v85:=Tryz.zeroValue254
 t127:=Tryz.underlying242
 a127:=Tryz.isAgg242
 z127:=Tryz.sizeOf242
 v127:=Tryz.zeroValue242
 t143:=Tryz.underlying284
 a143:=Tryz.isAgg284
 z143:=Tryz.sizeOf284
 v143:=Tryz.zeroValue284
 t145:=Tryz.underlying286
 a145:=Tryz.isAgg286
 z145:=Tryz.sizeOf286
 v145:=Tryz.zeroValue286
 t167:=Tryz.underlying253
 a167:=Tryz.isAgg253
 z167:=Tryz.sizeOf253
 v167:=Tryz.zeroValue253
 t168:=Tryz.underlying256
 a168:=Tryz.isAgg256
 z168:=Tryz.sizeOf256
 v168:=Tryz.zeroValue256
 t171:=Tryz.underlying260
 a171:=Tryz.isAgg260
 z171:=Tryz.sizeOf260
 v171:=Tryz.zeroValue260
 t173:=Tryz.underlying262
 a173:=Tryz.isAgg262
 z173:=Tryz.sizeOf262
 v173:=Tryz.zeroValue262
 t175:=Tryz.underlying273
 a175:=Tryz.isAgg273
 z175:=Tryz.sizeOf273
 v175:=Tryz.zeroValue273
 t210:=Tryz.underlying277
 a210:=Tryz.isAgg277
 z210:=Tryz.sizeOf277
 v210:=Tryz.zeroValue277
 t212:=Tryz.underlying280
 a212:=Tryz.isAgg280
 z212:=Tryz.sizeOf280
 v212:=Tryz.zeroValue280
 t213:=Tryz.underlying281
 a213:=Tryz.isAgg281
 z213:=Tryz.sizeOf281
 t232:=Tryz.underlying287
 a232:=Tryz.isAgg287
 z232:=Tryz.sizeOf287
 v232:=Tryz.zeroValue287
 t233:=Tryz.underlying288
 a233:=Tryz.isAgg288
 z233:=Tryz.sizeOf288
 v233:=Tryz.zeroValue288
 g15:=by kernel_rfl
 g16:=by kernel_rfl
 g17:=by kernel_rfl
 g18:=by kernel_rfl
 g19:=by kernel_rfl}
open Go.RowKit in
theorem Tryz.strconv_Atoi (s:ByteArray) (n:Int) (hl:s.size<=18) (h:Lib.atoi s.data.toList=some n) (w:World):
  Calls Tryz.prog 174 #[.string s] w fun e w'=>e= .returned (.tuple #[.int .i64 n, .nilIface])/\∃t,w'=Lib.bytesWorld w 5 t:=Any.strconv_Atoi Tryz.acJ s n hl h w
def Tryz.acK:Go.Shelf.Ren:=⟨fun |283=>250|n=>n,fun |3=>3|9=>9|4=>4|n=>n,fun |n=>n⟩
theorem Tryz.acL:Go.Proofs.Lays.n283 Tryz.prog Tryz.acK:={
 mixed:=by kernel_rfl
 f283:=Tryz.func250.trans (congrArg some (by kernel_rfl))
 t3:=Tryz.underlying3
 a3:=Tryz.isAgg3
 z3:=Tryz.sizeOf3
 v3:=Tryz.zeroValue3
 t4:=Tryz.underlying4
 a4:=Tryz.isAgg4
 z4:=Tryz.sizeOf4
 v4:=Tryz.zeroValue4
 t9:=Tryz.underlying9
 a9:=Tryz.isAgg9
 z9:=Tryz.sizeOf9
 v9:=Tryz.zeroValue9}
open Go.Lib in
theorem Tryz.internal_strconv_small (i:Nat) (h:i<100) (w:World):
  Calls Tryz.prog 250 #[.int .i64 i] w fun e w'=>e= .returned (.string ⟨(Lib.decDigits i).toArray⟩)/\w'=w:=Any.internal_strconv_small Tryz.acL i h w
def Tryz.acM:Go.Shelf.Ren:=⟨fun |284=>251|129=>201|317=>264|318=>265|n=>n,fun |53=>167|3=>3|212=>280|0=>0|4=>4|46=>181|5=>5|9=>9|n=>n,fun |17=>5|n=>n⟩
theorem Tryz.acN:Go.Proofs.LaysM.n284 Tryz.prog Tryz.acM:={
 mixed:=by kernel_rfl
 f129:=Tryz.func201.trans (congrArg some (by kernel_rfl))
 f284:=Tryz.func251.trans (congrArg some (by kernel_rfl))
 f317:=Tryz.func264.trans (congrArg some (by kernel_rfl))
 f318:=Tryz.func265.trans (congrArg some (by kernel_rfl))
 t0:=Tryz.underlying0
 a0:=Tryz.isAgg0
 z0:=Tryz.sizeOf0
 v0:=Tryz.zeroValue0
 t3:=Tryz.underlying3
 a3:=Tryz.isAgg3
 z3:=Tryz.sizeOf3
 v3:=Tryz.zeroValue3
 t4:=Tryz.underlying4
 a4:=Tryz.isAgg4
 z4:=Tryz.sizeOf4
 v4:=Tryz.zeroValue4
 t5:=Tryz.underlying5
 a5:=Tryz.isAgg5
 z5:=Tryz.sizeOf5
 v5:=Tryz.zeroValue5
 t9:=Tryz.underlying9
 a9:=Tryz.isAgg9
 z9:=Tryz.sizeOf9
 v9:=Tryz.zeroValue9
 t46:=Tryz.underlying181
 a46:=Tryz.isAgg181
 z46:=Tryz.sizeOf181
 v46:=Tryz.zeroValue181
 t53:=Tryz.underlying167
 a53:=Tryz.isAgg167
 z53:=Tryz.sizeOf167
 v53:=Tryz.zeroValue167
 t212:=Tryz.underlying280
 a212:=Tryz.isAgg280
 z212:=Tryz.sizeOf280
 v212:=Tryz.zeroValue280
 g17:=by kernel_rfl
 i0:=by kernel_rfl
 i3:=by kernel_rfl
 i4:=by kernel_rfl
 i5:=by kernel_rfl
 i9:=by kernel_rfl
 i46:=by kernel_rfl
 i53:=by kernel_rfl
 i212:=by kernel_rfl
 m17:=by kernel_rfl}
open Go.Lib in
theorem Tryz.internal_strconv_numDigits (u:Nat) (h1:1<=u) (h2:u<18446744073709551616) (w:World) (htab:Lib.TabIs Tryz.prog w "internal/strconv.uint64pow10" .u64 Lib.pow10Tab):
  Calls Tryz.prog 251 #[.int .u64 u] w fun e w'=>e= .returned (.int .i64 (Lib.nDigits u))/\w'=w:=Any.internal_strconv_numDigits Tryz.acN u h1 h2 w htab
def Tryz.acO:Go.Shelf.Ren:=⟨fun |285=>252|n=>n,fun |37=>205|53=>167|3=>3|4=>4|51=>223|9=>9|5=>5|0=>0|n=>n,fun |n=>n⟩
theorem Tryz.acP:Go.Proofs.Lays.n285 Tryz.prog Tryz.acO:={
 mixed:=by kernel_rfl
 f285:=Tryz.func252.trans (congrArg some (by kernel_rfl))
 t0:=Tryz.underlying0
 a0:=Tryz.isAgg0
 z0:=Tryz.sizeOf0
 v0:=Tryz.zeroValue0
 t3:=Tryz.underlying3
 a3:=Tryz.isAgg3
 z3:=Tryz.sizeOf3
 v3:=Tryz.zeroValue3
 t4:=Tryz.underlying4
 a4:=Tryz.isAgg4
 z4:=Tryz.sizeOf4
 v4:=Tryz.zeroValue4
 t5:=Tryz.underlying5
 a5:=Tryz.isAgg5
 z5:=Tryz.sizeOf5
 v5:=Tryz.zeroValue5
 t9:=Tryz.underlying9
 a9:=Tryz.isAgg9
 z9:=Tryz.sizeOf9
 v9:=Tryz.zeroValue9
 t37:=Tryz.underlying205
 a37:=Tryz.isAgg205
 z37:=Tryz.sizeOf205
 v37:=Tryz.zeroValue205
 t51:=Tryz.underlying223
 a51:=Tryz.isAgg223
 z51:=Tryz.sizeOf223
 v51:=Tryz.zeroValue223
 t53:=Tryz.underlying167
 a53:=Tryz.isAgg167
 z53:=Tryz.sizeOf167
 v53:=Tryz.zeroValue167}
open Go.RowKit Go.Sort Go.Lib in
theorem Tryz.internal_strconv_formatBase10 (blk off cap:Nat) (u:Nat) (d:Array UInt8) (w:World) (hH:Holds (fun(b:UInt8)=>Value.int .u8 (b.toNat:Int)) w blk off d) (hu:u<10^d.size) (hu64:u<18446744073709551616) (hsz:d.size<4611686018427387904):
  Calls Tryz.prog 252 #[.slice (some ⟨blk,off,none⟩) d.size cap, .int .u64 u] w fun e w'=>
   e= .returned (.tuple #[])/\∃(n v':Nat) (dk:Array UInt8),w'=(putRow (fun(b:UInt8)=>Value.int .u8 (b.toNat:Int)) w blk off dk).drewN n/\FmtInv d.size u 0 v' dk:=Any.internal_strconv_formatBase10 Tryz.acP blk off cap u d w hH hu hu64 hsz
def Tryz.aqI:Go.Shelf.Ren:=⟨fun |246=>249|283=>250|284=>251|285=>252|286=>253|129=>201|317=>264|318=>265|319=>266|320=>267|337=>271|338=>272|n=>n,fun |2=>2|3=>3|9=>9|4=>4|171=>260|0=>0|53=>167|37=>205|5=>5|173=>262|212=>280|51=>223|20=>20|213=>281|46=>181|232=>287|233=>288|n=>n,fun |17=>5|18=>6|19=>7|n=>n⟩
def Tryz.aqJ:Go.Shelf.Ren:=⟨fun |243=>222|246=>249|283=>250|284=>251|285=>252|286=>253|129=>201|317=>264|318=>265|319=>266|320=>267|337=>271|338=>272|n=>n,fun |3=>3|9=>9|2=>2|4=>4|171=>260|0=>0|53=>167|37=>205|5=>5|173=>262|212=>280|51=>223|20=>20|213=>281|46=>181|232=>287|233=>288|n=>n,fun |17=>5|18=>6|19=>7|n=>n⟩
def Tryz.acQ:Go.Shelf.Ren:=⟨fun |171=>177|243=>222|246=>249|283=>250|284=>251|285=>252|286=>253|129=>201|317=>264|318=>265|319=>266|320=>267|337=>271|338=>272|n=>n,fun |3=>3|9=>9|2=>2|4=>4|171=>260|0=>0|53=>167|37=>205|5=>5|173=>262|212=>280|51=>223|20=>20|213=>281|46=>181|232=>287|233=>288|n=>n,fun |17=>5|18=>6|19=>7|n=>n⟩
theorem Tryz.acR:Go.Proofs.LaysM.n171 Tryz.prog Tryz.acQ:={
 mixed:=by kernel_rfl
 f129:=Tryz.func201.trans (congrArg some (by kernel_rfl))
 f171:=Tryz.func177.trans (congrArg some (by kernel_rfl))
 f243:=Tryz.func222.trans (congrArg some (by kernel_rfl))
 f246:=Tryz.func249.trans (congrArg some (by kernel_rfl))
 f283:=Tryz.func250.trans (congrArg some (by kernel_rfl))
 f284:=Tryz.func251.trans (congrArg some (by kernel_rfl))
 f285:=Tryz.func252.trans (congrArg some (by kernel_rfl))
 f286:=Tryz.func253.trans (congrArg some (by kernel_rfl))
 f317:=Tryz.func264.trans (congrArg some (by kernel_rfl))
 f318:=Tryz.func265.trans (congrArg some (by kernel_rfl))
 f319:=Tryz.func266.trans (congrArg some (by kernel_rfl))
 f320:=Tryz.func267.trans (congrArg some (by kernel_rfl))
 f337:=Tryz.func271.trans (congrArg some (by kernel_rfl))
 f338:=Tryz.func272.trans (congrArg some (by kernel_rfl))
 t0:=Tryz.underlying0
 a0:=Tryz.isAgg0
 z0:=Tryz.sizeOf0
 v0:=Tryz.zeroValue0
 t2:=Tryz.underlying2
 a2:=Tryz.isAgg2
 z2:=Tryz.sizeOf2
 v2:=Tryz.zeroValue2
 t3:=Tryz.underlying3
 a3:=Tryz.isAgg3
 z3:=Tryz.sizeOf3
 v3:=Tryz.zeroValue3
 t4:=Tryz.underlying4
 a4:=Tryz.isAgg4
 z4:=Tryz.sizeOf4
 v4:=Tryz.zeroValue4
 t5:=Tryz.underlying5
 a5:=Tryz.isAgg5
 z5:=Tryz.sizeOf5
 v5:=Tryz.zeroValue5
 t9:=Tryz.underlying9
 a9:=Tryz.isAgg9
 z9:=Tryz.sizeOf9
 v9:=Tryz.zeroValue9
 t20:=Tryz.underlying20
 a20:=Tryz.isAgg20
 z20:=Tryz.sizeOf20
 v20:=Tryz.zeroValue20
 t37:=Tryz.underlying205
 a37:=Tryz.isAgg205
 z37:=Tryz.sizeOf205
 v37:=Tryz.zeroValue205
 t46:=Tryz.underlying181
 a46:=Tryz.isAgg181
 z46:=Tryz.sizeOf181
 v46:=Tryz.zeroValue181
 t51:=Tryz.underlying223
 a51:=Tryz.isAgg223
 z51:=Tryz.sizeOf223
 v51:=Tryz.zeroValue223
 t53:=Tryz.underlying167
 a53:=Tryz.isAgg167
 z53:=Tryz.sizeOf167
 v53:=Tryz.zeroValue167
 t171:=Tryz.underlying260
 a171:=Tryz.isAgg260
 z171:=Tryz.sizeOf260
 v171:=Tryz.zeroValue260
 t173:=Tryz.underlying262
 a173:=Tryz.isAgg262
 z173:=Tryz.sizeOf262
 v173:=Tryz.zeroValue262
 t212:=Tryz.underlying280
 a212:=Tryz.isAgg280
 z212:=Tryz.sizeOf280
 v212:=Tryz.zeroValue280
 t213:=Tryz.underlying281
 a213:=Tryz.isAgg281
 z213:=Tryz.sizeOf281
 t232:=Tryz.underlying287
 a232:=Tryz.isAgg287
 z232:=Tryz.sizeOf287
 v232:=Tryz.zeroValue287
 t233:=Tryz.underlying288
 a233:=Tryz.isAgg288
 z233:=Tryz.sizeOf288
 v233:=Tryz.zeroValue288
 g17:=by kernel_rfl
 g18:=by kernel_rfl
 g19:=by kernel_rfl
 i0:=by kernel_rfl
 i2:=by kernel_rfl
 i3:=by kernel_rfl
 i4:=by kernel_rfl
 i5:=by kernel_rfl
 i9:=by kernel_rfl
 i20:=by kernel_rfl
 i37:=by kernel_rfl
 i46:=by kernel_rfl
 i51:=by kernel_rfl
 i53:=by kernel_rfl
 i171:=by kernel_rfl
 i173:=by kernel_rfl
 i212:=by kernel_rfl
 i232:=by kernel_rfl
 i233:=by kernel_rfl
 m17:=by kernel_rfl
 m18:=by kernel_rfl
 m19:=by kernel_rfl}
open Go.RowKit Go.Sort Go.Lib in
theorem Tryz.strconv_Itoa (n:Int) (h0: -9223372036854775808<=n) (h1:n<=9223372036854775807) (w:World) (htab:Lib.TabIs Tryz.prog w "internal/strconv.uint64pow10" .u64 Lib.pow10Tab):
  Calls Tryz.prog 177 #[.int .i64 n] w fun e w'=>e= .returned (.string ⟨(Lib.itoa n).toArray⟩)/\∃k os,w'=grow (w.drewN k) os:=Any.strconv_Itoa Tryz.acR n h0 h1 w htab
def Tryz.aqK:Go.Shelf.Ren:=⟨fun |219=>217|217=>240|225=>241|224=>242|267=>243|266=>259|314=>260|n=>n,fun |9=>9|3=>3|4=>4|5=>5|46=>181|146=>264|51=>223|n=>n,fun |1=>0|n=>n⟩
def Tryz.acS:Go.Shelf.Ren:=⟨fun |145=>118|220=>167|219=>217|217=>240|225=>241|224=>242|267=>243|266=>259|314=>260|n=>n,fun |9=>9|4=>4|59=>151|3=>3|5=>5|46=>181|146=>264|51=>223|n=>n,fun |1=>0|n=>n⟩
theorem Tryz.acT:Go.Proofs.Lays.n145 Tryz.prog Tryz.acS:={
 mixed:=by kernel_rfl
 f145:=Tryz.func118.trans (congrArg some (by kernel_rfl))
 f217:=Tryz.func240.trans (congrArg some (by kernel_rfl))
 f219:=Tryz.func217.trans (congrArg some (by kernel_rfl))
 f220:=Tryz.func167.trans (congrArg some (by kernel_rfl))
 f224:=Tryz.func242.trans (congrArg some (by kernel_rfl))
 f225:=Tryz.func241.trans (congrArg some (by kernel_rfl))
 f266:=Tryz.func259.trans (congrArg some (by kernel_rfl))
 f267:=Tryz.func243.trans (congrArg some (by kernel_rfl))
 f314:=Tryz.func260.trans (congrArg some (by kernel_rfl))
 t3:=Tryz.underlying3
 a3:=Tryz.isAgg3
 z3:=Tryz.sizeOf3
 v3:=Tryz.zeroValue3
 t4:=Tryz.underlying4
 a4:=Tryz.isAgg4
 z4:=Tryz.sizeOf4
 v4:=Tryz.zeroValue4
 t5:=Tryz.underlying5
 a5:=Tryz.isAgg5
 z5:=Tryz.sizeOf5
 v5:=Tryz.zeroValue5
 t9:=Tryz.underlying9
 a9:=Tryz.isAgg9
 z9:=Tryz.sizeOf9
 v9:=Tryz.zeroValue9
 t46:=Tryz.underlying181
 a46:=Tryz.isAgg181
 z46:=Tryz.sizeOf181
 v46:=Tryz.zeroValue181
 t51:=Tryz.underlying223
 a51:=Tryz.isAgg223
 z51:=Tryz.sizeOf223
 v51:=Tryz.zeroValue223
 t59:=Tryz.underlying151
 a59:=Tryz.isAgg151
 z59:=Tryz.sizeOf151
 v59:=Tryz.zeroValue151
 t146:=Tryz.underlying264
 a146:=Tryz.isAgg264
 z146:=Tryz.sizeOf264
 v146:=Tryz.zeroValue264
 g1:=by kernel_rfl}
open Go.RowKit Go.Lib in
theorem Tryz.strings_Cut (s sep:ByteArray) (m:Int) (w:World) (hs:s.size<4294967281) (hm:w.cell? ⟨0,0,none⟩=some (.int .i64 m)):
  Calls Tryz.prog 118 #[.string s, .string sep] w fun e w'=>e= .returned (.tuple #[.string ⟨(Lib.cut s.data.toList sep.data.toList).1.toArray⟩, .string ⟨(Lib.cut s.data.toList sep.data.toList).2.1.toArray⟩, .bool (Lib.cut s.data.toList sep.data.toList).2.2])/\∃n,w'=w.drewN n:=Any.strings_Cut Tryz.acT s sep m w hs hm
def Tryz.acU:Go.Shelf.Ren:=⟨fun |189=>102|125=>156|257=>155|128=>200|129=>201|294=>191|295=>192|296=>193|297=>194|298=>195|299=>196|216=>197|300=>198|301=>199|328=>232|329=>233|330=>234|331=>235|332=>236|215=>166|343=>257|n=>n,fun |28=>93|3=>3|46=>181|0=>0|51=>223|53=>167|4=>4|183=>216|182=>215|131=>50|5=>5|9=>9|218=>243|222=>247|228=>268|229=>269|n=>n,fun |n=>n⟩
theorem Tryz.Rs:Go.Proofs.Lays.n189 Tryz.prog Tryz.acU:={
 mixed:=by kernel_rfl
 f125:=Tryz.func156.trans (congrArg some (by kernel_rfl))
 f128:=Tryz.func200.trans (congrArg some (by kernel_rfl))
 f129:=Tryz.func201.trans (congrArg some (by kernel_rfl))
 f189:=Tryz.func102.trans (congrArg some (by kernel_rfl))
 f215:=Tryz.func166.trans (congrArg some (by kernel_rfl))
 f216:=Tryz.func197.trans (congrArg some (by kernel_rfl))
 f257:=Tryz.func155.trans (congrArg some (by kernel_rfl))
 f294:=Tryz.func191.trans (congrArg some (by kernel_rfl))
 f295:=Tryz.func192.trans (congrArg some (by kernel_rfl))
 f296:=Tryz.func193.trans (congrArg some (by kernel_rfl))
 f297:=Tryz.func194.trans (congrArg some (by kernel_rfl))
 f298:=Tryz.func195.trans (congrArg some (by kernel_rfl))
 f299:=Tryz.func196.trans (congrArg some (by kernel_rfl))
 f300:=Tryz.func198.trans (congrArg some (by kernel_rfl))
 f301:=Tryz.func199.trans (congrArg some (by kernel_rfl))
 f328:=Tryz.func232.trans (congrArg some (by kernel_rfl))
 f329:=Tryz.func233.trans (congrArg some (by kernel_rfl))
 f330:=Tryz.func234.trans (congrArg some (by kernel_rfl))
 f331:=Tryz.func235.trans (congrArg some (by kernel_rfl))
 f332:=Tryz.func236.trans (congrArg some (by kernel_rfl))
 f343:=Tryz.func257.trans (congrArg some (by kernel_rfl))
 t0:=Tryz.underlying0
 a0:=Tryz.isAgg0
 z0:=Tryz.sizeOf0
 v0:=Tryz.zeroValue0
 t3:=Tryz.underlying3
 a3:=Tryz.isAgg3
 z3:=Tryz.sizeOf3
 v3:=Tryz.zeroValue3
 t4:=Tryz.underlying4
 a4:=Tryz.isAgg4
 z4:=Tryz.sizeOf4
 v4:=Tryz.zeroValue4
 t5:=Tryz.underlying5
 a5:=Tryz.isAgg5
 z5:=Tryz.sizeOf5
 v5:=Tryz.zeroValue5
 t9:=Tryz.underlying9
 a9:=Tryz.isAgg9
 z9:=Tryz.sizeOf9
 v9:=Tryz.zeroValue9
 t28:=Tryz.underlying93
 a28:=Tryz.isAgg93
 z28:=Tryz.sizeOf93
 v28:=Tryz.zeroValue93
 t46:=Tryz.underlying181
 a46:=Tryz.isAgg181
 z46:=Tryz.sizeOf181
 v46:=Tryz.zeroValue181
 t51:=Tryz.underlying223
 a51:=Tryz.isAgg223
 z51:=Tryz.sizeOf223
 v51:=Tryz.zeroValue223
 t53:=Tryz.underlying167
 a53:=Tryz.isAgg167
 z53:=Tryz.sizeOf167
 v53:=Tryz.zeroValue167
 t131:=Tryz.underlying50
 a131:=Tryz.isAgg50
 z131:=Tryz.sizeOf50
 v131:=Tryz.zeroValue50
 t182:=Tryz.underlying215
 a182:=Tryz.isAgg215
 z182:=Tryz.sizeOf215
 v182:=Tryz.zeroValue215
 t183:=Tryz.underlying216
 a183:=Tryz.isAgg216
 z183:=Tryz.sizeOf216
 v183:=Tryz.zeroValue216
 t218:=Tryz.underlying243
 a218:=Tryz.isAgg243
 z218:=Tryz.sizeOf243
 v218:=Tryz.zeroValue243
 t222:=Tryz.underlying247
 a222:=Tryz.isAgg247
 z222:=Tryz.sizeOf247
 v222:=Tryz.zeroValue247
 t228:=Tryz.underlying268
 a228:=Tryz.isAgg268
 z228:=Tryz.sizeOf268
 v228:=Tryz.zeroValue268
 t229:=Tryz.underlying269
 a229:=Tryz.isAgg269
 z229:=Tryz.sizeOf269
 v229:=Tryz.zeroValue269}
open Go.Sort Go.RowKit in
theorem Tryz.slices_Sort_int (blk off cap:Nat) (zs:List Int) (w:World) (hH:Holds (Value.int .i64) w blk off zs.toArray) (hblk:blk<w.heap.size) (hsz:zs.length<4611686018427387904):
  Calls Tryz.prog 102 #[.slice (some ⟨blk,off,none⟩) zs.length cap] w fun e w'=>
   e= .returned (.tuple #[])/\∃n os,w'=grow (putRow (Value.int .i64) (Sort.ahead w n) blk off (zs.mergeSort fun x y=>decide (x<=y)).toArray) os:=Any.slices_Sort_int Tryz.Rs blk off cap zs w hH hblk hsz
def Tryz.acV:Go.Shelf.Ren:=⟨fun |99=>172|206=>218|n=>n,fun |9=>9|4=>4|3=>3|n=>n,fun |n=>n⟩
theorem Tryz.acW:Go.Proofs.Lays.n99 Tryz.prog Tryz.acV:={
 mixed:=by kernel_rfl
 f99:=Tryz.func172.trans (congrArg some (by kernel_rfl))
 f206:=Tryz.func218.trans (congrArg some (by kernel_rfl))
 t3:=Tryz.underlying3
 a3:=Tryz.isAgg3
 z3:=Tryz.sizeOf3
 v3:=Tryz.zeroValue3
 t4:=Tryz.underlying4
 a4:=Tryz.isAgg4
 z4:=Tryz.sizeOf4
 v4:=Tryz.zeroValue4
 t9:=Tryz.underlying9
 a9:=Tryz.isAgg9
 z9:=Tryz.sizeOf9
 v9:=Tryz.zeroValue9}
open Go.RowKit Go.Lib in
theorem Tryz.strings_HasPrefix (s p:ByteArray) (w:World):
  Calls Tryz.prog 172 #[.string s, .string p] w fun e w'=>e= .returned (.bool (Lib.hasPrefix s.data.toList p.data.toList))/\w'=w:=Any.strings_HasPrefix Tryz.acW s p w
def Tryz.acX:Go.Shelf.Ren:=⟨fun |101=>173|208=>219|206=>218|n=>n,fun |9=>9|4=>4|3=>3|n=>n,fun |n=>n⟩
theorem Tryz.acY:Go.Proofs.Lays.n101 Tryz.prog Tryz.acX:={
 mixed:=by kernel_rfl
 f101:=Tryz.func173.trans (congrArg some (by kernel_rfl))
 f206:=Tryz.func218.trans (congrArg some (by kernel_rfl))
 f208:=Tryz.func219.trans (congrArg some (by kernel_rfl))
 t3:=Tryz.underlying3
 a3:=Tryz.isAgg3
 z3:=Tryz.sizeOf3
 v3:=Tryz.zeroValue3
 t4:=Tryz.underlying4
 a4:=Tryz.isAgg4
 z4:=Tryz.sizeOf4
 v4:=Tryz.zeroValue4
 t9:=Tryz.underlying9
 a9:=Tryz.isAgg9
 z9:=Tryz.sizeOf9
 v9:=Tryz.zeroValue9}
open Go.RowKit Go.Lib in
theorem Tryz.strings_TrimPrefix (s p:ByteArray) (w:World):
  Calls Tryz.prog 173 #[.string s, .string p] w fun e w'=>e= .returned (.string ⟨(Lib.trimPrefix s.data.toList p.data.toList).toArray⟩)/\w'=w:=Any.strings_TrimPrefix Tryz.acY s p w
def Tryz.acZ:Go.Shelf.Ren:=⟨fun |264=>139|n=>n,fun |53=>167|46=>181|n=>n,fun |n=>n⟩
theorem Tryz.ac0:Go.Proofs.Lays.n264 Tryz.prog Tryz.acZ:={
 mixed:=by kernel_rfl
 f264:=Tryz.func139.trans (congrArg some (by kernel_rfl))
 t46:=Tryz.underlying181
 a46:=Tryz.isAgg181
 z46:=Tryz.sizeOf181
 v46:=Tryz.zeroValue181
 t53:=Tryz.underlying167
 a53:=Tryz.isAgg167
 z53:=Tryz.sizeOf167
 v53:=Tryz.zeroValue167}
open Go.RowKit Go.Lib in
theorem Tryz.bits_Mul64 (x y:Nat) (hx:x<18446744073709551616) (hy:y<18446744073709551616) (w:World):
  Calls Tryz.prog 139 #[.int .u64 x, .int .u64 y] w fun e w'=>e= .returned (.tuple #[.int .u64 ((x*y/18446744073709551616:Nat):Int), .int .u64 ((x*y%18446744073709551616:Nat):Int)])/\w'=w:=Any.bits_Mul64 Tryz.ac0 x y hx hy w
def Tryz.Rt:Go.Shelf.Ren:=⟨fun |105=>180|212=>228|99=>172|165=>229|166=>181|170=>230|169=>182|263=>254|264=>139|206=>218|240=>231|241=>255|276=>256|277=>268|n=>n,fun |9=>9|3=>3|4=>4|20=>20|0=>0|46=>181|109=>239|5=>5|72=>207|76=>196|51=>223|146=>264|53=>167|148=>168|70=>204|37=>205|75=>195|127=>242|164=>266|80=>160|n=>n,fun |n=>n⟩
theorem Tryz.ac1:Go.Proofs.Lays.n105 Tryz.prog Tryz.Rt:={
 mixed:=by kernel_rfl
 f99:=Tryz.func172.trans (congrArg some (by kernel_rfl))
 f105:=Tryz.func180.trans (congrArg some (by kernel_rfl))
 f165:=Tryz.func229.trans (congrArg some (by kernel_rfl))
 f166:=Tryz.func181.trans (congrArg some (by kernel_rfl))
 f169:=Tryz.func182.trans (congrArg some (by kernel_rfl))
 f170:=Tryz.func230.trans (congrArg some (by kernel_rfl))
 f206:=Tryz.func218.trans (congrArg some (by kernel_rfl))
 f212:=Tryz.func228.trans (congrArg some (by kernel_rfl))
 f240:=Tryz.func231.trans (congrArg some (by kernel_rfl))
 f241:=Tryz.func255.trans (congrArg some (by kernel_rfl))
 f263:=Tryz.func254.trans (congrArg some (by kernel_rfl))
 f264:=Tryz.func139.trans (congrArg some (by kernel_rfl))
 f276:=Tryz.func256.trans (congrArg some (by kernel_rfl))
 f277:=Tryz.func268.trans (congrArg some (by kernel_rfl))
 t0:=Tryz.underlying0
 a0:=Tryz.isAgg0
 z0:=Tryz.sizeOf0
 v0:=Tryz.zeroValue0
 t3:=Tryz.underlying3
 a3:=Tryz.isAgg3
 z3:=Tryz.sizeOf3
 v3:=Tryz.zeroValue3
 t4:=Tryz.underlying4
 a4:=Tryz.isAgg4
 z4:=Tryz.sizeOf4
 v4:=Tryz.zeroValue4
 t5:=Tryz.underlying5
 a5:=Tryz.isAgg5
 z5:=Tryz.sizeOf5
 v5:=Tryz.zeroValue5
 t9:=Tryz.underlying9
 a9:=Tryz.isAgg9
 z9:=Tryz.sizeOf9
 v9:=Tryz.zeroValue9
 t20:=Tryz.underlying20
 a20:=Tryz.isAgg20
 z20:=Tryz.sizeOf20
 v20:=Tryz.zeroValue20
 t37:=Tryz.underlying205
 a37:=Tryz.isAgg205
 z37:=Tryz.sizeOf205
 v37:=Tryz.zeroValue205
 t46:=Tryz.underlying181
 a46:=Tryz.isAgg181
 z46:=Tryz.sizeOf181
 v46:=Tryz.zeroValue181
 t51:=Tryz.underlying223
 a51:=Tryz.isAgg223
 z51:=Tryz.sizeOf223
 v51:=Tryz.zeroValue223
 t53:=Tryz.underlying167
 a53:=Tryz.isAgg167
 z53:=Tryz.sizeOf167
 v53:=Tryz.zeroValue167
 t70:=Tryz.underlying204
 a70:=Tryz.isAgg204
 z70:=Tryz.sizeOf204
 v70:=Tryz.zeroValue204
 t72:=Tryz.underlying207
 a72:=Tryz.isAgg207
 z72:=Tryz.sizeOf207
 v72:=Tryz.zeroValue207
 t75:=Tryz.underlying195
 a75:=Tryz.isAgg195
 z75:=Tryz.sizeOf195
 v75:=Tryz.zeroValue195
 t76:=Tryz.underlying196
 a76:=Tryz.isAgg196
 z76:=Tryz.sizeOf196
 v76:=Tryz.zeroValue196
 t109:=Tryz.underlying239
 a109:=Tryz.isAgg239
 z109:=Tryz.sizeOf239
 v109:=Tryz.zeroValue239
 t127:=Tryz.underlying242
 a127:=Tryz.isAgg242
 z127:=Tryz.sizeOf242
 v127:=Tryz.zeroValue242
 t146:=Tryz.underlying264
 a146:=Tryz.isAgg264
 z146:=Tryz.sizeOf264
 v146:=Tryz.zeroValue264
 t148:=Tryz.underlying168
 a148:=Tryz.isAgg168
 z148:=Tryz.sizeOf168
 v148:=Tryz.zeroValue168
 t164:=Tryz.underlying266
 a164:=Tryz.isAgg266
 z164:=Tryz.sizeOf266
 v164:=Tryz.zeroValue266}
theorem Tryz.ac2:Builder.Extra Tryz.prog Tryz.Rt:={
 sizeBuilder:=by kernel_rfl
 liesBuilder:=by kernel_rfl
 t5:=Tryz.underlying5
 a5:=Tryz.isAgg5
 z5:=Tryz.sizeOf5
 v5:=Tryz.zeroValue5
 infoByte:=by kernel_rfl
 cellsByte:=by kernel_rfl
 sizeByte:=by kernel_rfl
 neB5:=by decide}
open Go.RowKit Go.Lib in
theorem Tryz.strings_Repeat (s:ByteArray) (c:Nat) (w:World) (hc:c<=9223372036854775807) (hlen:s.size*c<=140737488355328):
  Calls Tryz.prog 180 #[.string s, .int .i64 c] w fun e w'=>e= .returned (.string ⟨(Lib.repeatL s.data.toList c).toArray⟩)/\Below w.heap.size w w':=Any.strings_Repeat Tryz.ac1 Tryz.ac2 s c w hc hlen
open Go.RowKit Go.Sort in
theorem Tryz.slices_Sort_int_none (p:Option Addr) (cap:Nat) (w:World):
  Calls Tryz.prog 102 #[.slice p 0 cap] w fun e w'=>e= .returned (.tuple #[])/\w'=w:=Any.slices_Sort_int_none Tryz.Rs p cap w
end Go.Proofs
/- Package num: the product of lists of words. -/
set_option linter.unusedVariables false
set_option linter.unusedSimpArgs false
set_option maxRecDepth 100000
namespace Go.Proofs.YtibikmmdbdlafaaGreatDoor
open Go.RowKit Sv Go.Proofs.Tryz
noncomputable section
def fj (x y:Int):Int:=x*y/18446744073709551616
def cH (x y:Int):Int:=x*y%18446744073709551616
def kQ (x y:Int):Bool:=(decide (0<=x)&&decide (x<18446744073709551616))&&(decide (0<=y)&&decide (y<18446744073709551616))
noncomputable def E4:bn:={f:=139,ps:=[aB,aB],rs:=[aB,aB],fresh:=true,pre:=fun d=>kQ d.1 d.2.1,fn:=fun d=>(fj d.1 d.2.1,(cH d.1 d.2.1,()))}
noncomputable def ul:bF:=a7 [EX,E4]
noncomputable def j6:Code:=(f143.body).getD .skip
abbrev Cx:List Nat:=[1,1,0,1,0,0]
abbrev E5:List Nat:=[1,1,0,1,0,0,1,1,0,0]
abbrev Kg:List Nat:=[1,1,0,1,0,0,1,1,0,0,1,1,0,1,0,0]
def kR (a b out:List Int) (i:Nat):bC:={n:=80,sl:=[(1,bE b),(5,qo 64 out),(20,bE a),(21,iv a.length),(22,iv i)],bG:=[(64,qp out)],next:=65}
def qs (a b out:List Int) (i:Nat) (x c:Int) (j:Nat):bC:={n:=80,sl:=[(1,bE b),(5,qo 64 out),(6,iv i),(7,cl x),(8,cl c),(20,bE a),(21,iv a.length),(22,iv i),(27,bE b),(28,iv b.length),(29,iv j)],bG:=[(64,qp out)],next:=65}
def oY (x y o c:Int):Int:=(((((cH x y).toNat+o.toNat+Int.toNat 0)%2^64)+c.toNat+Int.toNat 0)%2^64:Nat)
def rz (x y o c:Int):Int:=IntKind.u64.wrap (IntKind.u64.wrap (fj x y+(((((cH x y).toNat+o.toNat+Int.toNat 0)/2^64):Nat):Int))+(((((((cH x y).toNat+o.toNat+Int.toNat 0)%2^64)+c.toNat+Int.toNat 0)/2^64):Nat):Int))
def E6 (out:List Int):bC:={n:=80,sl:=[(5,bE out)],bG:=[],next:=64}
theorem ac3 (a b:List Int) (h1: -9223372036854775808<=(a.length:Int)+(b.length:Int)/\(a.length:Int)+(b.length:Int)<=9223372036854775807) (h2:((a.length:Int)+(b.length:Int)).toNat<=1000000) (h3:(((a.length:Int)+(b.length:Int)).toNat)=(co (a.length+b.length)).length) (h4:(aS.known ((a.length:Int)+(b.length:Int)).toNat)=(aS.known (a.length+b.length))) (h5:(bA (co (a.length+b.length)).length)=(bA (a.length+b.length))) (h6:(List.flatten (List.replicate ((a.length:Int)+(b.length:Int)).toNat (List.map aa.raw (Array.toList #[Value.int .u64 (0:Int)]))))=(List.flatMap (fun x=>[aa.raw (Value.int .u64 x)]) (co (a.length+b.length)))) (h7:(a.length+b.length)=(co (a.length+b.length)).length):
  aA.path (oS prog ul (fl j6 []) 3 80 [bE a,bE b]) (dl 1) (dX prog 80 .normal [(64,64,some (a.length+b.length))] (kR a b (co (a.length+b.length)) 0)):=
 mp (EJ (bm h1) rt rt (nY (show(decide (((a.length:Int)+(b.length:Int)).toNat<=((a.length:Int)+(b.length:Int)).toNat))=true from az (by omega)) (show(bounded ((a.length:Int)+(b.length:Int)).toNat (8:Nat))=true from oV h2 (by omega)) (rr b) (an h3 (an h4 h5)) (rr a) (rr (a.length:Int)) (rr (0:Int)) (an h6 h7) trivial))
theorem ac4 (a b out:List Int) (i:Nat) (h1:(i:Int)<(a.length:Int)):
  en ul (fl j6 Cx) 2 (kR a b out i) 3 .normal [(64,64,none)] (kR a b out i):=
 wy [ah h1] 1
theorem ac5 (a b out:List Int) (i:Nat) (h1:¬(i:Int)<(a.length:Int)):
  en ul (fl j6 Cx) 2 (kR a b out i) 2 (.exit 0) [(64,64,none)] (kR a b out i):=
 wy [aJ h1] 1
theorem ac6 (a b out:List Int) (i:Nat) (h1:i<a.length):
  en ul (fl j6 E5) 3 (kR a b out i) 1 .normal [(64,64,none)] (qs a b out i (a.getD i 0) 0 0):=
 wy [ah h1] 64
theorem ac7 (a b out:List Int) (i:Nat) (x c:Int) (j:Nat) (h1:(j:Int)<(b.length:Int)) (h2:j<b.length) (h3:(kQ x (b.getD j 0))=true) (h4:i6 ((i:Int)+(j:Int))) (h5:((i:Int)+(j:Int)).toNat<out.length) (h6:i6 ((j:Int)+1)) (h7:out.length=(out.set ((i:Int)+(j:Int)).toNat (oY x (b.getD j 0) (out.getD ((i:Int)+(j:Int)).toNat 0) c)).length) (h8:(bA out.length)=(bA (out.set ((i:Int)+(j:Int)).toNat (oY x (b.getD j 0) (out.getD ((i:Int)+(j:Int)).toNat 0) c)).length)) (h9:(IntKind.wrap IntKind.u64 (IntKind.wrap IntKind.u64 (fj x (b.getD j 0)+(↑(((cH x (b.getD j 0)).toNat+(out.getD ((i:Int)+(j:Int)).toNat 0).toNat+Int.toNat 0)/(2:Nat)^(64:Nat)):Int))+(↑((((cH x (b.getD j 0)).toNat+(out.getD ((i:Int)+(j:Int)).toNat 0).toNat+Int.toNat 0)%(2:Nat)^(64:Nat)+c.toNat+Int.toNat 0)/(2:Nat)^(64:Nat)):Int)))=(rz x (b.getD j 0) (out.getD ((i:Int)+(j:Int)).toNat 0) c)) (h10:(out.set ((i:Int)+(j:Int)).toNat (↑((((cH x (b.getD j 0)).toNat+(out.getD ((i:Int)+(j:Int)).toNat 0).toNat+Int.toNat 0)%(2:Nat)^(64:Nat)+c.toNat+Int.toNat 0)%(2:Nat)^(64:Nat)):Int))=(out.set ((i:Int)+(j:Int)).toNat (oY x (b.getD j 0) (out.getD ((i:Int)+(j:Int)).toNat 0) c))):
  bh ul (fl j6 Kg) (qs a b out i x c j) 3 .normal [(64,64,none)] (qs a b (out.set ((i:Int)+(j:Int)).toNat (oY x (b.getD j 0) (out.getD ((i:Int)+(j:Int)).toNat 0) c)) i x (rz x (b.getD j 0) (out.getD ((i:Int)+(j:Int)).toNat 0) c) (j+1)):=
 wy [ah h1,ah h2,af h3,yi h4,ah h5,iW 167 aB h5,yi h6,ax h7,ax h8,ax (show(IntKind.wrap IntKind.u64 (IntKind.wrap IntKind.u64 (fj x (b.getD j (0:Int))+(↑(((cH x (b.getD j (0:Int))).toNat+((bI aB (bM 167 aB out)).getD ((0:Nat)+((i:Int)+(j:Int)).toNat) (0:Int)).toNat+(0:Int).toNat)/(2:Nat)^(64:Nat)):Int))+(↑((((cH x (b.getD j (0:Int))).toNat+((bI aB (bM 167 aB out)).getD ((0:Nat)+((i:Int)+(j:Int)).toNat) (0:Int)).toNat+(0:Int).toNat)%(2:Nat)^(64:Nat)+c.toNat+(0:Int).toNat)/(2:Nat)^(64:Nat)):Int)))=(rz x (b.getD j (0:Int)) (out.getD ((i:Int)+(j:Int)).toNat (0:Int)) c)from(by simp only [dI,aw]<;>exact h9)),oU prog 167 aB (show((bI aB (bM 167 aB out)).set ((0:Nat)+((i:Int)+(j:Int)).toNat) (↑((((cH x (b.getD j (0:Int))).toNat+((bI aB (bM 167 aB out)).getD ((0:Nat)+((i:Int)+(j:Int)).toNat) (0:Int)).toNat+(0:Int).toNat)%(2:Nat)^(64:Nat)+c.toNat+(0:Int).toNat)%(2:Nat)^(64:Nat)):Int))=(out.set ((i:Int)+(j:Int)).toNat (oY x (b.getD j (0:Int)) (out.getD ((i:Int)+(j:Int)).toNat (0:Int)) c))from(by simp only [dI,aw]<;>exact h10))] 1004782375665203448862331732045300874419142139905
theorem ac8 (a b out:List Int) (i:Nat) (x c:Int) (j:Nat) (h1:¬(j:Int)<(b.length:Int)):
  bh ul (fl j6 Kg) (qs a b out i x c j) 2 (.exit 2) [(64,64,none)] (qs a b out i x c j):=
 wy [aJ h1] 1
theorem ac9 (a b out:List Int) (i:Nat) (x c:Int) (j:Nat) (h1:i6 ((i:Int)+(b.length:Int))) (h2:((i:Int)+(b.length:Int)).toNat<out.length) (h3:out.length=(out.set ((i:Int)+(b.length:Int)).toNat c).length) (h4:(bA out.length)=(bA (out.set ((i:Int)+(b.length:Int)).toNat c).length)):
  bh ul ((fl j6 E5).drop 4) (qs a b out i x c j) 1 .normal [(64,64,none)] (kR a b (out.set ((i:Int)+(b.length:Int)).toNat c) i):=
 wy [yi h1,ah h2,iW 167 aB h2,ax h3,ax h4,mB 167 aB (Eq.refl (out.set ((i:Int)+(b.length:Int)).toNat c))] 442721880034140495873
theorem ada (a b out:List Int) (i:Nat) (h1:i6 ((i:Int)+1)):
  bh ul ((fl j6 Cx).drop 3) (kR a b out i) 1 .normal [(64,64,none)] (kR a b out (i+1)):=
 wy [yi h1] 1
theorem adb (a b out:List Int) (i:Nat):
  aA.path (aA.ret (R.normal ((kR a b out i).T.set 5 (some (bE out))) ((kR a b out i).H.drop 64) []):aA R) (dl 1) (dX prog 80 .normal [] (E6 out)):=
 wy [] 0
theorem ade (out:List Int) (h1:out.length<=1000000):
  bQ ul ((fl j6 []).drop 4) (E6 out) 1 f143 false (bE (dJ out)):=
 wy [ah h1] 1
def oZ (x y:List Int):List Int:=cM 18446744073709551616 (aj x*aj y)
noncomputable def Ru:bn:={f:=143,ps:=[.list false aB, .list false aB],rs:=[.list false aB],fresh:=false,pre:=fun d=>kO d.1 d.2.1,fn:=fun d=>(oZ d.1 d.2.1,())}
theorem adf {f:FuncId} {args:List aa} {a b:Int} {fresh:Bool} (h:∀(w:World) (F:Env) (xs:List Value),tj w F->Sv.u5 F->aF F args xs->Calls prog f xs.toArray w fun e w'=>e= .returned (.tuple #[.int .u64 a, .int .u64 b])/\Below w.heap.size w w'):
  Holds prog fresh f args (.tuple [cl a,cl b]):=fun w F xs hF cn hd=>
 (h w F xs hF cn hd).mono fun e w' ⟨g1,g2⟩=>⟨_,⟨F.at',fun _=>none⟩,g1, .tuple (.cons (.raw _) (.cons (.raw _) .nil)),⟨hF.oR,hF.all,fun b A h=>by cases h⟩,(fun b A h=>by cases h),g2⟩
theorem nF {x y:Int}:kQ x y=true↔(0<=x/\x<18446744073709551616)/\(0<=y/\y<18446744073709551616):=by
 unfold kQ;simp only [ae,bz]
theorem adg (X Y:Nat) (hx:X<18446744073709551616) (hy:Y<18446744073709551616):Holds prog true 139 [cl X,cl Y] (.tuple [cl (fj X Y),cl (cH X Y)]):=
 adf fun w F xs hF cn hd=>by
  cases hd with
  |cons d1 d2=>
   cases d2 with
   |cons d2 d3=>
    cases d3;rw [d1.b7,d2.b7];exact(Tryz.bits_Mul64 X Y hx hy w).mono fun e w' ⟨h1,h2⟩=>⟨h1,by subst h2;exact Below.refl _ _⟩
theorem adh (x y:Int) (h:kQ x y=true):Holds prog true 139 [cl x,cl y] (.tuple [cl (fj x y),cl (cH x y)]):=by
 obtain⟨⟨x0,x1⟩,y0,y1⟩:=nF.1 h;have:=adg x.toNat y.toNat (by omega) (by omega);rw [Int.toNat_of_nonneg x0,Int.toNat_of_nonneg y0]at this;exact this
theorem ph:E4.Ok prog:=fun⟨x,y,_⟩ h=>adh x y h
theorem adi:bB prog (bD ul):=cR (aT Kb (aT ph dY))
theorem fA {x:Int} (h:0<=x/\x<18446744073709551616):IntKind.wrap .u64 x=x:=by
 unfold IntKind.wrap;have e:IntKind.signed .u64=false:=rfl;have e2:IntKind.bits .u64=64:=rfl;simp only [e,e2,Bool.false_and,Bool.false_eq_true,if_false];rw [show(2:Int)^64=18446744073709551616 from rfl];omega
theorem adj {x y o c:Int} (hx:0<=x/\x<18446744073709551616) (hy:0<=y/\y<18446744073709551616) (ho:0<=o/\o<18446744073709551616) (hc:0<=c/\c<18446744073709551616):
  oY x y o c+18446744073709551616*rz x y o c=x*y+o+c/\(0<=oY x y o c/\oY x y o c<18446744073709551616)/\(0<=rz x y o c/\rz x y o c<18446744073709551616):=by
 have Kh:0<=x*y:=Int.mul_nonneg hx.1 hy.1;have hp1:x*y<=18446744073709551615*18446744073709551615:=Int.mul_le_mul (by omega) (by omega) hy.1 (by decide);unfold oY rz fj cH;generalize x*y=p at*;rw [show(2:Nat)^64=18446744073709551616 from rfl];have e0:Int.toNat 0=0:=rfl;rw [e0];have hr:=c6 p (show(18446744073709551616:Int)≠0 by decide);have hr2:=cS p (show(0:Int)<18446744073709551616 by decide);have hq:=Int.emod_add_mul_ediv p 18446744073709551616;generalize p%18446744073709551616=r at*;generalize p/18446744073709551616=q at*;have jO:0<=q/\q<=18446744073709551614:=by omega
 obtain⟨R,rfl⟩:∃R:Nat,r=(R:Int):=⟨r.toNat,by omega⟩;obtain⟨O,rfl⟩:∃O:Nat,o=(O:Int):=⟨o.toNat,by omega⟩;obtain⟨C,rfl⟩:∃C:Nat,c=(C:Int):=⟨c.toNat,by omega⟩;simp only [Int.toNat_natCast,Nat.add_zero];have k1:(R+O)/18446744073709551616<=1:=by omega
 have dB:=Nat.mod_add_div (R+O) 18446744073709551616;have l8:=Nat.mod_lt (R+O) (show 18446744073709551616>0 by decide);generalize (R+O)/18446744073709551616=c1 at*;generalize (R+O)%18446744073709551616=l1 at*;have oJ:=Nat.mod_add_div (l1+C) 18446744073709551616;have w5:=Nat.mod_lt (l1+C) (show 18446744073709551616>0 by decide);have Ew:(l1+C)/18446744073709551616<=1:=by omega
 generalize (l1+C)/18446744073709551616=c2 at*;generalize (l1+C)%18446744073709551616=l2 at*;rw [fA (x:=q+(c1:Int)) (by omega),fA (x:=q+(c1:Int)+(c2:Int)) (by omega)];omega
theorem Rv:(fl j6 []).drop 4≠[]:=fun h=>by
 have:((fl j6 []).drop 4).isEmpty=false:=by kernel_rfl
 rw [h]at this;cases this
theorem Rw {P b lo hi x y o c V W M:Int} (h:lo+b*hi=x*y+o+c) (hv:V+P*c=M):V+P*(lo-o)+P*b*hi=M+P*(x*y):=by
 have h1:P*(lo+b*hi)=P*(x*y+o+c):=by rw [h]
 rw [Int.mul_add,Int.mul_add,Int.mul_add,<-Int.mul_assoc]at h1;rw [Int.mul_sub];omega
theorem adk (x y:List Int) (h:kO x y=true):Holds prog false 143 [bE x,bE y] (bE (oZ x y)):=by
 unfold kO at h;simp only [ae,bz]at h;obtain⟨hx,hy,lx,ly⟩:=h;have hx:=cf.1 hx;have hy:=cf.1 hy;have hS:=adi;have e1:((x.length:Int)+(y.length:Int)).toNat=x.length+y.length:=by omega
 refine bJ (c:=j6) func143 rfl rfl fun w0 F=> ?_
 refine cE hS 3 (ac3 x y (by omega) (by omega) (by rw [gm,e1]) (by rw [e1]) (by rw [gm]) (by rw [e1];exact xS _) (by rw [gm])) ?_;refine aR.loop (ι:={s:List Int×Nat//s.2<=x.length/\s.1.length=x.length+y.length/\aP 18446744073709551616 s.1/\aj s.1=aj (x.take s.2)*aj y/\∀k,s.2+y.length<=k->s.1.getD k 0=0}) (id:=0) (b:=cat j6 Cx) (rest:=(fl j6 []).drop 4) (by kernel_rfl) (fun s=>kR x y s.1.1 s.1.2) (fun s=>x.length-s.1.2)
  ⟨(co (x.length+y.length),0),Nat.zero_le _,gm _,pf _,by
    show vl _ (List.replicate _ 0)=vl _ (x.take 0)*_;rw [Cn];simp [vl],fun k _=>by
    show(List.replicate _ (0:Int)).getD k 0=0;rw [ao,List.getElem?_replicate];split<;>rfl⟩ (fun _=>rfl) ?_
 rintro⟨⟨out,i⟩,hi,ho,iH,hval,hz⟩;have hi:i<=x.length:=hi;have ho:out.length=x.length+y.length:=ho;have iH:aP 18446744073709551616 out:=iH;have hval:aj out=aj (x.take i)*aj y:=hval;have hz:∀k,i+y.length<=k->out.getD k 0=0:=hz;by_cases hlt:i<x.length
 .have vu:=hx.get (by decide) i;refine dZ (s:=kR x y out i) hS 2 (ac4 x y out i (by omega)) ?_;refine EK (id:=1) (c:=cat j6 E5) (rest:=(fl j6 Cx).drop 3) (by kernel_rfl) ?_;refine dZ (s:=kR x y out i) hS 3 (ac6 x y out i hlt) ?_;refine aR.loop (ι:={s:List Int×Int×Nat//s.2.2<=y.length/\s.1.length=x.length+y.length/\aP 18446744073709551616 s.1/\(0<=s.2.1/\s.2.1<18446744073709551616)/\aj s.1+18446744073709551616^(i+s.2.2)*s.2.1=aj out+18446744073709551616^i*(x.getD i 0*aj (y.take s.2.2))/\∀k,i+y.length<=k->s.1.getD k 0=0}) (id:=2) (b:=cat j6 Kg) (rest:=(fl j6 E5).drop 4) (by kernel_rfl) (fun s=>qs x y s.1.1 i (x.getD i 0) s.1.2.1 s.1.2.2) (fun s=>y.length-s.1.2.2)
   ⟨(out,0,0),Nat.zero_le _,ho,iH,⟨Int.le_refl 0,show(0:Int)<18446744073709551616 by decide⟩,by simp [aj,vl],hz⟩ (fun _=>rfl) ?_
  rintro⟨⟨cQ,c,j⟩,hj,nj,qt,hc,hinv,kS⟩;have hj:j<=y.length:=hj;have nj:cQ.length=x.length+y.length:=nj;have qt:aP 18446744073709551616 cQ:=qt;have hc:0<=c/\c<18446744073709551616:=hc;have hinv:aj cQ+18446744073709551616^(i+j)*c=aj out+18446744073709551616^i*(x.getD i 0*aj (y.take j)):=hinv;have kS:∀k,i+y.length<=k->cQ.getD k 0=0:=kS;have e2:((i:Int)+(j:Int)).toNat=i+j:=by omega
  have e3:((i:Int)+(y.length:Int)).toNat=i+y.length:=by omega
  by_cases hlj:j<y.length
  .have E7:=hy.get (by decide) j;have zw:=qt.get (by decide) (i+j);obtain⟨g1,g2,g3⟩:=adj vu E7 zw hc;refine bp (s:=qs x y cQ i (x.getD i 0) c j) (s':=qs x y (cQ.set ((i:Int)+(j:Int)).toNat (oY (x.getD i 0) (y.getD j 0) (cQ.getD ((i:Int)+(j:Int)).toNat 0) c)) i (x.getD i 0) (rz (x.getD i 0) (y.getD j 0) (cQ.getD ((i:Int)+(j:Int)).toNat 0) c) (j+1)) hS (ac7 x y cQ i (x.getD i 0) c j (by omega) hlj (nF.2 ⟨vu,E7⟩) (by omega) (by omega) (by omega) (by rw [bY]) (by rw [bY]) rfl rfl) ?_;rw [e2];refine⟨⟨(cQ.set (i+j) (oY (x.getD i 0) (y.getD j 0) (cQ.getD (i+j) 0) c),rz (x.getD i 0) (y.getD j 0) (cQ.getD (i+j) 0) c,j+1),hlj,by rw [bY];exact nj,qt.set g2,g3, ?_,fun k hk=> ?_⟩,by simp;omega,rfl,rfl⟩
   .show vl 18446744073709551616 (cQ.set (i+j) (oY (x.getD i 0) (y.getD j 0) (cQ.getD (i+j) 0) c))+18446744073709551616^(i+(j+1))*rz (x.getD i 0) (y.getD j 0) (cQ.getD (i+j) 0) c=vl 18446744073709551616 out+18446744073709551616^i*(x.getD i 0*vl 18446744073709551616 (y.take (j+1)));rw [qj _ _ _ _ (by omega),<-Nat.add_assoc,Int.pow_succ,kJ,Int.mul_add,Int.mul_add];have:=Rw (W:=0) g1 hinv;unfold aj at this;rw [this,Int.add_assoc,Int.pow_add];congr 2;rw [Int.mul_assoc,Int.mul_left_comm (x.getD i 0)]
   .rw [ao,List.getElem?_set_ne (by omega),<-ao];exact kS k hk
  .refine bp (s:=qs x y cQ i (x.getD i 0) c j) hS (ac8 x y cQ i (x.getD i 0) c j (by omega)) ?_;refine cv (cD ?_);obtain rfl:j=y.length:=by omega
   refine bp (s:=qs x y cQ i (x.getD i 0) c y.length) (s':=kR x y (cQ.set ((i:Int)+(y.length:Int)).toNat c) i) hS (ac9 x y cQ i (x.getD i 0) c y.length (by omega) (by omega) (by rw [bY]) (by rw [bY])) ?_;rw [e3];refine bp (s:=kR x y (cQ.set (i+y.length) c) i) hS (ada x y (cQ.set (i+y.length) c) i (by omega)) ?_;refine⟨⟨(cQ.set (i+y.length) c,i+1),hlt,by rw [bY];exact nj,qt.set hc, ?_,fun k hk=> ?_⟩,by simp;omega,rfl,rfl⟩
   .have hk0:=kS (i+y.length) (aE _);show vl _ (cQ.set (i+y.length) c)=vl _ (x.take (i+1))*_;rw [qj _ _ _ _ (by omega),hk0,Int.sub_zero,kJ,Int.add_mul,Int.mul_assoc];rw [dA,hval]at hinv;exact hinv
   .rw [ao,List.getElem?_set_ne (by omega),<-ao];exact kS k (by omega)
 .refine dZ (s:=kR x y out i) hS 2 (ac5 x y out i (by omega)) ?_;refine cv (cv (cD ?_));obtain rfl:i=x.length:=by omega
  rw [dA]at hval;unfold oZ;rw [<-hval,<-vt iH];refine aR.tB Rv (i:=64) (s:=5) (e2:=167) (t:=aB) (xs:=out) (cap:=bA out.length) (by kernel_rfl) (by kernel_rfl) ?_;refine aR.ng Rv (σ:=[]) (s:=E6 out) (adb x y out x.length) ?_;exact bT (s:=E6 out) hS (ade out (by omega))
theorem adl:Ru.Ok prog:=fun⟨x,y,_⟩ h=>adk x y h
end
noncomputable section
noncomputable def xc:Code:=(f133.body).getD .skip
noncomputable def vv:Code:=(f135.body).getD .skip
noncomputable def lF:Code:=(f136.body).getD .skip
noncomputable def gB:bF:=nZ [ER] (a7 [Ra])
abbrev o4:List Nat:=[1,1,1,0,1,0,0]
def jj (a b out:List Int) (c:Int) (k:Nat):bC:={n:=42,sl:=[(0,lv a),(1,lv b),(5,mC 64 out),(6,iv c),(7,iv k)],bG:=[(64,mD out)],next:=65}
theorem FSz (a b:List Int):
  cT gB (fl xc []) 4 42 [lv a,lv b] 1 .normal [] (jj a b [] 0 0):=
 wy [] 0
theorem adm (a b out:List Int) (c:Int) (k:Nat) (h1:(k:Int)<(a.length:Int)) (h2:(0:au.den (.int .i64))<=(k:Int)) (h3:i6 (br a (k:Int)+br b (k:Int))) (h4:i6 (br a (k:Int)+br b (k:Int)+c)) (h5:out.length+1<=1000000) (h6:i6 (Int.tdiv (br a (k:Int)+br b (k:Int)+c) 1000000000)) (h7:i6 ((k:Int)+1)) (h8:(out.length+1)=(out++[Int.tmod (br a (k:Int)+br b (k:Int)+c) 1000000000]).length) (h9:(aS.full)=(bA (out++[Int.tmod (br a (k:Int)+br b (k:Int)+c) 1000000000]).length)):
  bh gB (fl xc o4) (jj a b out c k) 1424 .normal [(64,66,none)] (jj a b (out++[Int.tmod (br a k+br b k+c) 1000000000]) (Int.tdiv (br a k+br b k+c) 1000000000) (k+1)):=
 wy [af (bx (az h1)),ah h1,ah h2,yi h3,yi h4,yk 3 (.int .i64) out,ia 8 h5,yi h6,yi h7,ax h8,ax h9,jN 3 (.int .i64) (Eq.refl (out++[Int.tmod (br a (k:Int)+br b (k:Int)+c) (1000000000:Int)]))] 4489748952612617644828073985769994856947271015338049
theorem adn (a b out:List Int) (c:Int) (k:Nat) (h1:¬(k:Int)<(a.length:Int)) (h2:(k:Int)<(b.length:Int)) (h3:(0:au.den (.int .i64))<=(k:Int)) (h4:i6 (br a (k:Int)+br b (k:Int))) (h5:i6 (br a (k:Int)+br b (k:Int)+c)) (h6:out.length+1<=1000000) (h7:i6 (Int.tdiv (br a (k:Int)+br b (k:Int)+c) 1000000000)) (h8:i6 ((k:Int)+1)) (h9:(out.length+1)=(out++[Int.tmod (br a (k:Int)+br b (k:Int)+c) 1000000000]).length) (h10:(aS.full)=(bA (out++[Int.tmod (br a (k:Int)+br b (k:Int)+c) 1000000000]).length)):
  bh gB (fl xc o4) (jj a b out c k) 1423 .normal [(64,66,none)] (jj a b (out++[Int.tmod (br a k+br b k+c) 1000000000]) (Int.tdiv (br a k+br b k+c) 1000000000) (k+1)):=
 wy [af (bx (ab h1)),aJ h1,af (bx (az h2)),ah h2,ah h3,yi h4,yi h5,yk 3 (.int .i64) out,ia 8 h6,yi h7,yi h8,ax h9,ax h10,jN 3 (.int .i64) (Eq.refl (out++[Int.tmod (br a (k:Int)+br b (k:Int)+c) (1000000000:Int)]))] 5238040690022918447934035119010923055851292927987777
theorem ado (a b out:List Int) (c:Int) (k:Nat) (h1:¬(k:Int)<(a.length:Int)) (h2:¬(k:Int)<(b.length:Int)) (h3:c>0) (h4:(0:au.den (.int .i64))<=(k:Int)) (h5:i6 (br a (k:Int)+br b (k:Int))) (h6:i6 (br a (k:Int)+br b (k:Int)+c)) (h7:out.length+1<=1000000) (h8:i6 (Int.tdiv (br a (k:Int)+br b (k:Int)+c) 1000000000)) (h9:i6 ((k:Int)+1)) (h10:(out.length+1)=(out++[Int.tmod (br a (k:Int)+br b (k:Int)+c) 1000000000]).length) (h11:(aS.full)=(bA (out++[Int.tmod (br a (k:Int)+br b (k:Int)+c) 1000000000]).length)):
  bh gB (fl xc o4) (jj a b out c k) 1391 .normal [(64,66,none)] (jj a b (out++[Int.tmod (br a k+br b k+c) 1000000000]) (Int.tdiv (br a k+br b k+c) 1000000000) (k+1)):=
 wy [af (bx (ab h1)),aJ h1,af (bx (ab h2)),aJ h2,ah h3,ah h4,yi h5,yi h6,yk 3 (.int .i64) out,ia 8 h7,yi h8,yi h9,ax h10,ax h11,jN 3 (.int .i64) (Eq.refl (out++[Int.tmod (br a (k:Int)+br b (k:Int)+c) (1000000000:Int)]))] 5612186558728068849487015685631387156701777985015873
theorem adp (a b out:List Int) (c:Int) (k:Nat) (h1:¬(k:Int)<(a.length:Int)) (h2:¬(k:Int)<(b.length:Int)) (h3:¬c>0):
  bh gB (fl xc o4) (jj a b out c k) 623 (.exit 0) [(64,64,none)] (jj a b out c k):=
 wy [af (bx (ab h1)),aJ h1,af (bx (ab h2)),aJ h2,aJ h3] 1425176483074113
theorem adq (a b out:List Int) (c:Int) (k:Nat) (h1:(out)=((out.drop 0).take out.length)) (h2:out.length=0\/bt 3 (.int .i64) (bM 3 (.int .i64) out) (0+out.length-1)=true) (h3:false=true->out.length≠0):
  bQ gB ((fl xc []).drop 5) (jj a b out c k) 1 f133 false (lv out):=
 wy [oT (an (rr out.length) (an (show(out)=(((bI (.int .i64) (bM 3 (.int .i64) out)).drop (0:Nat)).take out.length)from(by simp only [dI]<;>exact h1)) (an h2 h3)))] 1
def pi (a b out:List Int) (c:Int) (k:Nat):bC:={n:=35,sl:=[(0,lv a),(1,lv b),(5,mC 64 out),(6,iv c),(7,iv k)],bG:=[(64,mD out)],next:=65}
theorem adr (a b:List Int):
  cT gB (fl vv []) 4 35 [lv a,lv b] 1 .normal [] (pi a b [] 0 0):=
 wy [] 0
theorem ads (a b out:List Int) (c:Int) (k:Nat) (h1:(k:Int)<(a.length:Int)) (h2:k<a.length) (h3:(0:au.den (.int .i64))<=(k:Int)) (h4:i6 (a.getD k 0-br b (k:Int))) (h5:i6 (a.getD k 0-br b (k:Int)-c)) (h6:¬a.getD k 0-br b (k:Int)-c<0) (h7:out.length+1<=1000000) (h8:i6 ((k:Int)+1)) (h9:(out.length+1)=(out++[a.getD k 0-br b (k:Int)-c]).length) (h10:(aS.full)=(bA (out++[a.getD k 0-br b (k:Int)-c]).length)):
  bh gB (fl vv o4) (pi a b out c k) 9 .normal [(64,66,none)] (pi a b (out++[a.getD k 0-br b k-c]) 0 (k+1)):=
 wy [ah h1,ah h2,af (aW (v:=iv (a.getD k (0:Int))) (by kernel_rfl)),ah h3,yi h4,yi h5,aJ h6,yk 3 (.int .i64) out,ia 8 h7,yi h8,ax h9,ax h10,jN 3 (.int .i64) (Eq.refl (out++[a.getD k (0:Int)-br b (k:Int)-c]))] 1105921642492323382824927727698886533121
theorem adt (a b out:List Int) (c:Int) (k:Nat) (h1:(k:Int)<(a.length:Int)) (h2:k<a.length) (h3:(0:au.den (.int .i64))<=(k:Int)) (h4:i6 (a.getD k 0-br b (k:Int))) (h5:i6 (a.getD k 0-br b (k:Int)-c)) (h6:a.getD k 0-br b (k:Int)-c<0) (h7:i6 (a.getD k 0-br b (k:Int)-c+1000000000)) (h8:out.length+1<=1000000) (h9:i6 ((k:Int)+1)) (h10:(out.length+1)=(out++[a.getD k 0-br b (k:Int)-c+1000000000]).length) (h11:(aS.full)=(bA (out++[a.getD k 0-br b (k:Int)-c+1000000000]).length)):
  bh gB (fl vv o4) (pi a b out c k) 11 .normal [(64,66,none)] (pi a b (out++[a.getD k 0-br b k-c+1000000000]) 1 (k+1)):=
 wy [ah h1,ah h2,af (aW (v:=iv (a.getD k (0:Int))) (by kernel_rfl)),ah h3,yi h4,yi h5,ah h6,yi h7,yk 3 (.int .i64) out,ia 8 h8,yi h9,ax h10,ax h11,jN 3 (.int .i64) (Eq.refl (out++[a.getD k (0:Int)-br b (k:Int)-c+(1000000000:Int)]))] 76223524083949719363713562717780016111617
theorem adu (a b out:List Int) (c:Int) (k:Nat) (h1:¬(k:Int)<(a.length:Int)):
  bh gB (fl vv o4) (pi a b out c k) 2 (.exit 0) [(64,64,none)] (pi a b out c k):=
 wy [aJ h1] 1
theorem adv (a b out:List Int) (c:Int) (k:Nat) (h1:(Nat.beq out.length 0||bt 3 (.int .i64) (bM 3 (.int .i64) out) (out.length-1))=true) (h2:((out.drop 0).take out.length).length<=1000000):
  bQ gB ((fl vv []).drop 5) (pi a b out c k) 1 f135 false (lv (ec ((out.drop 0).take out.length))):=
 wy [af (show(Nat.beq out.length (0:Nat)||bt 3 (.int .i64) (bM 3 (.int .i64) out) ((0:Nat)+out.length-(1:Nat)))=true from(by simp only [aw]<;>exact h1)),af (show(decide ((((bI (.int .i64) (bM 3 (.int .i64) out)).drop (0:Nat)).take out.length).length<=(1000000:Nat)))=true from(by simp only [dI]<;>exact az h2)),ax (show(ec (((bI (.int .i64) (bM 3 (.int .i64) out)).drop (0:Nat)).take out.length))=(ec ((out.drop (0:Nat)).take out.length))from(by simp only [dI]<;>rfl))] 12417
abbrev Cy:List Nat:=[1,1,0,1,0,0]
abbrev E8:List Nat:=[1,1,0,1,0,0,1,0,0]
abbrev Ki:List Nat:=[1,1,0,1,0,0,1,0,0,1,0,1,0,0]
def kT (a b out:List Int) (i:Nat):bC:={n:=72,sl:=[(0,lv a),(1,lv b),(5,mC 64 out),(6,iv i)],bG:=[(64,mD out)],next:=65}
def qu (a b out:List Int) (i:Nat) (c:Int) (j:Nat):bC:={n:=72,sl:=[(0,lv a),(1,lv b),(5,mC 64 out),(6,iv i),(7,iv c),(8,iv j)],bG:=[(64,mD out)],next:=65}
def fS (n:Nat):List Int:=List.replicate n 0
theorem adw (a b:List Int) (h1: -9223372036854775808<=(a.length:Int)+(b.length:Int)/\(a.length:Int)+(b.length:Int)<=9223372036854775807) (h2:((a.length:Int)+(b.length:Int)).toNat<=1000000) (h3:(((a.length:Int)+(b.length:Int)).toNat)=(fS (a.length+b.length)).length) (h4:(aS.known ((a.length:Int)+(b.length:Int)).toNat)=(aS.known (a.length+b.length))) (h5:(bA (fS (a.length+b.length)).length)=(bA (a.length+b.length))) (h6:(List.flatten (List.replicate ((a.length:Int)+(b.length:Int)).toNat (List.map aa.raw (Array.toList #[Value.int .i64 (0:Int)]))))=(List.flatMap (fun x=>[iv x]) (fS (a.length+b.length)))) (h7:(a.length+b.length)=(fS (a.length+b.length)).length):
  aA.path (oS prog gB (fl lF []) 3 72 [lv a,lv b]) (dl 1) (dX prog 72 .normal [(64,64,some (a.length+b.length))] (kT a b (fS (a.length+b.length)) 0)):=
 mp (abf (bm h1) rt (nY rt (show(decide (((a.length:Int)+(b.length:Int)).toNat<=((a.length:Int)+(b.length:Int)).toNat))=true from az (by omega)) (show(bounded ((a.length:Int)+(b.length:Int)).toNat (8:Nat))=true from oV h2 (by omega)) (rr a) (rr b) (an h3 (an h4 h5)) (rr (0:Int)) (an h6 h7) trivial))
theorem adx (a b out:List Int) (i:Nat) (h1:(i:Int)<(a.length:Int)):
  en gB (fl lF Cy) 2 (kT a b out i) 3 .normal [(64,64,none)] (kT a b out i):=
 wy [ah h1] 1
theorem ady (a b out:List Int) (i:Nat) (h1:¬(i:Int)<(a.length:Int)):
  en gB (fl lF Cy) 2 (kT a b out i) 2 (.exit 0) [(64,64,none)] (kT a b out i):=
 wy [aJ h1] 1
theorem adz (a b out:List Int) (i:Nat):
  en gB (fl lF E8) 2 (kT a b out i) 1 .normal [(64,64,none)] (qu a b out i 0 0):=
 wy [] 0
theorem adA (a b out:List Int) (i:Nat) (c:Int) (j:Nat) (h1:(j:Int)<(b.length:Int)) (h2:i6 ((i:Int)+(j:Int))) (h3:((i:Int)+(j:Int)).toNat<out.length) (h4:i<a.length) (h5:j<b.length) (h6:i6 (a.getD i 0*b.getD j 0)) (h7:i6 (out.getD ((i:Int)+(j:Int)).toNat 0+a.getD i 0*b.getD j 0)) (h8:i6 (out.getD ((i:Int)+(j:Int)).toNat 0+a.getD i 0*b.getD j 0+c)) (h9:i6 (Int.tdiv (out.getD ((i:Int)+(j:Int)).toNat 0+a.getD i 0*b.getD j 0+c) 1000000000)) (h10:i6 ((j:Int)+1)) (h11:out.length=(out.set ((i:Int)+(j:Int)).toNat (Int.tmod (out.getD ((i:Int)+(j:Int)).toNat 0+a.getD i 0*b.getD j 0+c) 1000000000)).length) (h12:(bA out.length)=(bA (out.set ((i:Int)+(j:Int)).toNat (Int.tmod (out.getD ((i:Int)+(j:Int)).toNat 0+a.getD i 0*b.getD j 0+c) 1000000000)).length)):
  bh gB (fl lF Ki) (qu a b out i c j) 3 .normal [(64,64,none)] (qu a b (out.set ((i:Int)+(j:Int)).toNat (Int.tmod (out.getD ((i:Int)+(j:Int)).toNat 0+a.getD i 0*b.getD j 0+c) 1000000000)) i (Int.tdiv (out.getD ((i:Int)+(j:Int)).toNat 0+a.getD i 0*b.getD j 0+c) 1000000000) (j+1)):=
 wy [ah h1,yi h2,ah h3,iW 3 (.int .i64) h3,af (aW (v:=iv ((bI (.int .i64) (bM 3 (.int .i64) out)).getD ((0:Nat)+((i:Int)+(j:Int)).toNat) (0:Int))) (by kernel_rfl)),ah h4,af (aW (v:=iv (a.getD i (0:Int))) (by kernel_rfl)),ah h5,af (aW (v:=iv (b.getD j (0:Int))) (by kernel_rfl)),yi h6,af (show(fits IntKind.i64 ((bI (.int .i64) (bM 3 (.int .i64) out)).getD ((0:Nat)+((i:Int)+(j:Int)).toNat) (0:Int)+a.getD i (0:Int)*b.getD j (0:Int)))=true from(by simp only [dI,aw]<;>exact bm h7)),af (show(fits IntKind.i64 ((bI (.int .i64) (bM 3 (.int .i64) out)).getD ((0:Nat)+((i:Int)+(j:Int)).toNat) (0:Int)+a.getD i (0:Int)*b.getD j (0:Int)+c))=true from(by simp only [dI,aw]<;>exact bm h8)),af (show(fits IntKind.i64 (Int.tdiv ((bI (.int .i64) (bM 3 (.int .i64) out)).getD ((0:Nat)+((i:Int)+(j:Int)).toNat) (0:Int)+a.getD i (0:Int)*b.getD j (0:Int)+c) (1000000000:Int)))=true from(by simp only [dI,aw]<;>exact bm h9)),yi h10,ax h11,ax h12,ax (show(Int.tdiv ((bI (.int .i64) (bM 3 (.int .i64) out)).getD ((0:Nat)+((i:Int)+(j:Int)).toNat) (0:Int)+a.getD i (0:Int)*b.getD j (0:Int)+c) (1000000000:Int))=(Int.tdiv (out.getD ((i:Int)+(j:Int)).toNat (0:Int)+a.getD i (0:Int)*b.getD j (0:Int)+c) (1000000000:Int))from(by simp only [dI,aw]<;>rfl)),oU prog 3 (.int .i64) (show((bI (.int .i64) (bM 3 (.int .i64) out)).set ((0:Nat)+((i:Int)+(j:Int)).toNat) (Int.tmod ((bI (.int .i64) (bM 3 (.int .i64) out)).getD ((0:Nat)+((i:Int)+(j:Int)).toNat) (0:Int)+a.getD i (0:Int)*b.getD j (0:Int)+c) (1000000000:Int)))=(out.set ((i:Int)+(j:Int)).toNat (Int.tmod (out.getD ((i:Int)+(j:Int)).toNat (0:Int)+a.getD i (0:Int)*b.getD j (0:Int)+c) (1000000000:Int)))from(by simp only [dI,aw]<;>rfl))] 113013889735155783555940953289561697649430070733285792415873
theorem adB (a b out:List Int) (i:Nat) (c:Int) (j:Nat) (h1:¬(j:Int)<(b.length:Int)):
  bh gB (fl lF Ki) (qu a b out i c j) 2 (.exit 2) [(64,64,none)] (qu a b out i c j):=
 wy [aJ h1] 1
theorem adC (a b out:List Int) (i:Nat) (c:Int) (j:Nat) (h1:i6 ((i:Int)+(b.length:Int))) (h2:((i:Int)+(b.length:Int)).toNat<out.length) (h3:i6 (out.getD ((i:Int)+(b.length:Int)).toNat 0+c)) (h4:out.length=(out.set ((i:Int)+(b.length:Int)).toNat (out.getD ((i:Int)+(b.length:Int)).toNat 0+c)).length) (h5:(bA out.length)=(bA (out.set ((i:Int)+(b.length:Int)).toNat (out.getD ((i:Int)+(b.length:Int)).toNat 0+c)).length)):
  bh gB ((fl lF E8).drop 3) (qu a b out i c j) 1 .normal [(64,64,none)] (kT a b (out.set ((i:Int)+(b.length:Int)).toNat (out.getD ((i:Int)+(b.length:Int)).toNat 0+c)) i):=
 wy [yi h1,ah h2,iW 3 (.int .i64) h2,af (show(fits IntKind.i64 ((bI (.int .i64) (bM 3 (.int .i64) out)).getD ((0:Nat)+((i:Int)+(b.length:Int)).toNat) (0:Int)+c))=true from(by simp only [dI,aw]<;>exact bm h3)),ax h4,ax h5,oU prog 3 (.int .i64) (show((bI (.int .i64) (bM 3 (.int .i64) out)).set ((0:Nat)+((i:Int)+(b.length:Int)).toNat) ((bI (.int .i64) (bM 3 (.int .i64) out)).getD ((0:Nat)+((i:Int)+(b.length:Int)).toNat) (0:Int)+c))=(out.set ((i:Int)+(b.length:Int)).toNat (out.getD ((i:Int)+(b.length:Int)).toNat (0:Int)+c))from(by simp only [dI,aw]<;>rfl))] 8667417275560351441650974785
theorem adD (a b out:List Int) (i:Nat) (h1:i6 ((i:Int)+1)):
  bh gB ((fl lF Cy).drop 3) (kT a b out i) 1 .normal [(64,64,none)] (kT a b out (i+1)):=
 wy [yi h1] 1
theorem adE (a b out:List Int) (i:Nat) (h1:(Nat.beq out.length 0||bt 3 (.int .i64) (bM 3 (.int .i64) out) (out.length-1))=true) (h2:((out.drop 0).take out.length).length<=1000000):
  bQ gB ((fl lF []).drop 4) (kT a b out i) 1 f136 false (lv (ec ((out.drop 0).take out.length))):=
 wy [af (show(Nat.beq out.length (0:Nat)||bt 3 (.int .i64) (bM 3 (.int .i64) out) ((0:Nat)+out.length-(1:Nat)))=true from(by simp only [aw]<;>exact h1)),af (show(decide ((((bI (.int .i64) (bM 3 (.int .i64) out)).drop (0:Nat)).take out.length).length<=(1000000:Nat)))=true from(by simp only [dI]<;>exact az h2)),ax (show(ec (((bI (.int .i64) (bM 3 (.int .i64) out)).drop (0:Nat)).take out.length))=(ec ((out.drop (0:Nat)).take out.length))from(by simp only [dI]<;>rfl))] 12417
def rA (a b:List Int):Bool:=okA a&&okA b
noncomputable def Rx:bn:={f:=133,ps:=[.list false (.int .i64), .list false (.int .i64)],rs:=[.list false (.int .i64)],fresh:=false,pre:=fun d=>rA d.1 d.2.1,fn:=fun d=>(aC (ag d.1+ag d.2.1),())}
noncomputable def Ry:bn:={f:=135,ps:=[.list false (.int .i64), .list false (.int .i64)],rs:=[.list false (.int .i64)],fresh:=false,pre:=fun d=>rA d.1 d.2.1&&decide (ag d.2.1<=ag d.1),fn:=fun d=>(aC (ag d.1-ag d.2.1),())}
noncomputable def Kj:bn:={f:=136,ps:=[.list false (.int .i64), .list false (.int .i64)],rs:=[.list false (.int .i64)],fresh:=false,pre:=fun d=>okB d.1&&okB d.2.1,fn:=fun d=>(aC (ag d.1*ag d.2.1),())}
theorem E9:bB prog (bD gB):=tD (fun c hc=>by
 simp only [dV,jY,or_false]at hc;obtain rfl:=hc;exact J') (ri abP)
theorem Cz {a b:List Int}:rA a b=true↔okA a=true/\okA b=true:=by unfold rA;rw [ae]
theorem Kk (a:List Int) (k:Nat):br a (k:Int)=a.getD k 0:=by unfold br;rw [Int.toNat_natCast]
theorem adF {b:Int} (hb:1<b) {l:List Int} (h:aP b l) (hg:∀k,l.length=k+1->b^k<=vl b l):eX l:=fun k hk h0=>by
 have h1:=hg k hk;have h2:vl b l=vl b (l.take k):=by
  have:=lC (b:=b) (show k<l.length by omega);rw [ef (by omega),h0]at this;simpa using this
 have h3:=fC (show 0<b by omega) (h.take k);rw [dK,show min k l.length=k by omega]at h3;omega
structure vw (a b out:List Int) (c:Int) (k:Nat):Prop where
 dg:aP 1000000000 out
 len:out.length=k
 pV:c=0\/c=1
 val:ag out+1000000000^k*c=ag (a.take k)+ag (b.take k)
 top:k<=max a.length b.length\/(k=max a.length b.length+1/\1000000000^max a.length b.length<=ag a+ag b)
theorem rx (l:List Int) (k:Nat):ag (l.take (k+1))=ag (l.take k)+1000000000^k*l.getD k 0:=kJ l k
theorem pj {l:List Int} {k:Nat} (h:l.length<=k):ag (l.take k)=ag l:=by rw [ef h]
theorem adG {a b:List Int} (ha:aP 1000000000 a) (hb:aP 1000000000 b):ag a+ag b<1000000000^(max a.length b.length+1):=by
 have h1:=fC (show(0:Int)<1000000000 by decide) ha;have h2:=fC (show(0:Int)<1000000000 by decide) hb;have h3:=iG (b:=1000000000) (by decide) (show a.length<=max a.length b.length by omega);have h4:=iG (b:=1000000000) (by decide) (show b.length<=max a.length b.length by omega);have h5:=bc (show(0:Int)<1000000000 by decide) (max a.length b.length);rw [Int.pow_succ];unfold ag;omega
theorem vw.next {a b out:List Int} {c:Int} {k:Nat} (h:vw a b out c k) (ha:aP 1000000000 a) (hb:aP 1000000000 b) (hc:k<a.length\/k<b.length\/c>0):vw a b (out++[(a.getD k 0+b.getD k 0+c)%1000000000]) ((a.getD k 0+b.getD k 0+c)/1000000000) (k+1)/\k<=max a.length b.length:=by
 have g1:=ha.get (by decide) k;have g2:=hb.get (by decide) k;have Kl:=h.pV;obtain⟨s,hs⟩:∃s,a.getD k 0+b.getD k 0+c=s:=⟨_,rfl⟩;rw [hs];have hk:k<=max a.length b.length:=by
  rcases h.top with h1|⟨h1,h2⟩
  .exact h1
  .have h3:c>0:=by omega
   have h4:c=1:=by omega
   have h5:=h.val;rw [h4,pj (show a.length<=k by omega),pj (show b.length<=k by omega),h1]at h5;have h6:=adG ha hb;have h7:=dC h.dg;omega
 refine⟨⟨h.dg.app (.cons (by omega) .nil),by simp [h.len],by omega, ?_, ?_⟩,hk⟩
 .have e:ag (out++[s%1000000000])=ag out+1000000000^k*(s%1000000000):=by rw [<-h.len];exact xK _ _ _
  rw [e,rx,rx,Int.pow_succ];exact J0 (by omega) h.val
 .by_cases hm:k<max a.length b.length
  .exact .inl (by omega)
  .refine .inr ⟨by omega, ?_⟩;have h4:c=1:=by omega
   have h5:=h.val;rw [h4,pj (show a.length<=k by omega),pj (show b.length<=k by omega)]at h5;have h7:=dC h.dg;have h8:k=max a.length b.length:=by omega
   rw [<-h8];omega
theorem vw.fin {a b out:List Int} {c:Int} {k:Nat} (h:vw a b out c k) (ha:aP 1000000000 a) (hb:aP 1000000000 b) (ta:eX a) (tb:eX b) (h1:a.length<=k) (h2:b.length<=k) (h3:¬c>0):out=aC (ag a+ag b):=by
 have hc:c=0:=by have:=h.pV;omega
 have hv:ag out=ag a+ag b:=by
  have:=h.val;rw [hc,pj h1,pj h2]at this;simpa using this
 have na:=dC ha;have nb:=dC hb;refine d9 kM h.dg (adF kM h.dg fun j hj=> ?_) hv;show _<=ag out;rw [hv];have hl:=h.len;rcases h.top with h4|⟨h4,h5⟩
 .by_cases hla:a.length=j+1
  .have h6:(1000000000:Int)^j<=ag a:=xL (by decide) ha ta hla;omega
  .have h6:(1000000000:Int)^j<=ag b:=xL (by decide) hb tb (by omega);omega
 .have e:j=max a.length b.length:=by omega
  rw [e];exact h5
theorem adH (a b:List Int) (h:okA a=true) (g:okA b=true):Holds prog false 133 [lv a,lv b] (lv (aC (ag a+ag b))):=by
 obtain⟨ha,ta,la⟩:=fc.1 h;obtain⟨hb,tb,lb⟩:=fc.1 g;have hS:=E9;refine bJ (c:=xc) func133 rfl rfl fun w0 F=> ?_
 refine cE hS 4 (FSz a b) ?_;refine aR.loop (ι:={s:List Int×Int×Nat//vw a b s.1 s.2.1 s.2.2}) (id:=0) (b:=cat xc o4) (rest:=(fl xc []).drop 5) (by kernel_rfl) (fun s=>jj a b s.1.1 s.1.2.1 s.1.2.2) (fun s=>max a.length b.length+2-s.1.2.2) ⟨([],0,0), .nil,rfl, .inl rfl,by simp [ag,vl], .inl (Nat.zero_le _)⟩ (fun _=>rfl) ?_;rintro⟨⟨out,c,k⟩,hI⟩;have hI:vw a b out c k:=hI;have g1:=ha.get (by decide) k;have g2:=hb.get (by decide) k;have Kl:=hI.pV;have hlo:=hI.len;have hk0:(0:Int)<=(k:Int):=by omega
 have ea:=Kk a k;have eb:=Kk b k;by_cases hgo:k<a.length\/k<b.length\/c>0
 .obtain⟨hn,hk⟩:=hI.next ha hb hgo;have em:Int.tmod (a.getD k 0+b.getD k 0+c) 1000000000=(a.getD k 0+b.getD k 0+c)%1000000000:=Int.tmod_eq_emod_of_nonneg (by omega);have ed:Int.tdiv (a.getD k 0+b.getD k 0+c) 1000000000=(a.getD k 0+b.getD k 0+c)/1000000000:=Int.tdiv_eq_ediv_of_nonneg (by omega);have tF:∃j:{s:List Int×Int×Nat//vw a b s.1 s.2.1 s.2.2},max a.length b.length+2-j.1.2.2<max a.length b.length+2-k/\(jj a b (out++[Int.tmod (br a k+br b k+c) 1000000000]) (Int.tdiv (br a k+br b k+c) 1000000000) (k+1)).T=(jj a b j.1.1 j.1.2.1 j.1.2.2).T/\(jj a b (out++[Int.tmod (br a k+br b k+c) 1000000000]) (Int.tdiv (br a k+br b k+c) 1000000000) (k+1)).H=(jj a b j.1.1 j.1.2.1 j.1.2.2).H:=by
   rw [ea,eb,em,ed];exact⟨⟨(_,_,k+1),hn⟩,by show max a.length b.length+2-(k+1)<_;omega,rfl,rfl⟩
  have q1: -9223372036854775808<=br a k+br b k/\br a k+br b k<=9223372036854775807:=by rw [ea,eb];omega
  have aO: -9223372036854775808<=br a k+br b k+c/\br a k+br b k+c<=9223372036854775807:=by rw [ea,eb];omega
  have bZ: -9223372036854775808<=Int.tdiv (br a k+br b k+c) 1000000000/\Int.tdiv (br a k+br b k+c) 1000000000<=9223372036854775807:=by rw [ea,eb,ed];omega
  by_cases h1:k<a.length
  .exact bp (s:=jj a b out c k) hS (adm a b out c k (by omega) hk0 q1 aO (by omega) bZ (by omega) (qm _ _) (tE _ _)) tF
  .by_cases h2:k<b.length
   .exact bp (s:=jj a b out c k) hS (adn a b out c k (by omega) (by omega) hk0 q1 aO (by omega) bZ (by omega) (qm _ _) (tE _ _)) tF
   .exact bp (s:=jj a b out c k) hS (ado a b out c k (by omega) (by omega) (by omega) hk0 q1 aO (by omega) bZ (by omega) (qm _ _) (tE _ _)) tF
 .refine bp (s:=jj a b out c k) hS (adp a b out c k (by omega) (by omega) (by omega)) ?_;refine cv (cD ?_);rw [<-hI.fin ha hb ta tb (by omega) (by omega) (by omega)];have ho:=vy 3 out;refine aR.tv (s:=jj a b out c k) known mixed hS _ (adq a b out c k (by simp) ?_ (fun h=>by cases h)) fun T H h=> ?_
  .by_cases hz:out.length=0
   .exact .inl hz
   .rw [Bool.or_eq_true]at ho;rw [aw];exact .inr (ho.resolve_left fun e=>hz (ac e))
  .exact h
theorem adI:Rx.Ok prog:=fun⟨a,b,_⟩ h=>by
 obtain⟨h1,h2⟩:=Cz.1 h;exact adH a b h1 h2
structure Km (a b out:List Int) (c:Int) (k:Nat):Prop where
 dg:aP 1000000000 out
 len:out.length=k
 pV:c=0\/c=1
 val:ag out-1000000000^k*c=ag (a.take k)-ag (b.take k)
theorem adJ (a b:List Int) (h:okA a=true) (g:okA b=true) (hle:ag b<=ag a):Holds prog false 135 [lv a,lv b] (lv (aC (ag a-ag b))):=by
 obtain⟨ha,ta,la⟩:=fc.1 h;obtain⟨hb,tb,lb⟩:=fc.1 g;have hS:=E9;refine bJ (c:=vv) func135 rfl rfl fun w0 F=> ?_
 refine cE hS 4 (adr a b) ?_;refine aR.loop (ι:={s:List Int×Int×Nat//s.2.2<=a.length/\Km a b s.1 s.2.1 s.2.2}) (id:=0) (b:=cat vv o4) (rest:=(fl vv []).drop 5) (by kernel_rfl) (fun s=>pi a b s.1.1 s.1.2.1 s.1.2.2) (fun s=>a.length-s.1.2.2) ⟨([],0,0),Nat.zero_le _, .nil,rfl, .inl rfl,by simp [ag,vl]⟩ (fun _=>rfl) ?_;rintro⟨⟨out,c,k⟩,hk,hI⟩;have hk:k<=a.length:=hk;have hI:Km a b out c k:=hI;have g1:=ha.get (by decide) k;have g2:=hb.get (by decide) k;have Kl:=hI.pV;have hlo:=hI.len;have hk0:(0:Int)<=(k:Int):=by omega
 have eb:=Kk b k;have hstep:∀d c':Int,0<=d/\d<1000000000->(c'=0\/c'=1)->d-1000000000*c'=a.getD k 0-b.getD k 0-c->Km a b (out++[d]) c' (k+1):=fun d c' hd sV he=>by
  refine⟨hI.dg.app (.cons hd .nil),by simp [hlo],sV, ?_⟩;have e:ag (out++[d])=ag out+1000000000^k*d:=by rw [<-hlo];exact xK _ _ _
  rw [e,rx,rx,Int.pow_succ];exact Q7 he hI.val
 by_cases hlt:k<a.length
 .by_cases hs:a.getD k 0-br b k-c<0
  .refine bp (s:=pi a b out c k) hS (adt a b out c k (by omega) hlt hk0 (by rw [eb];omega) (by rw [eb];omega) hs (by rw [eb];omega) (by omega) (by omega) (qm _ _) (tE _ _)) ?_;rw [eb]at hs ⊢;exact⟨⟨(_,1,k+1),hlt,hstep _ 1 (by omega) (.inr rfl) (by omega)⟩,by show a.length-(k+1)<a.length-k;omega,rfl,rfl⟩
  .refine bp (s:=pi a b out c k) hS (ads a b out c k (by omega) hlt hk0 (by rw [eb];omega) (by rw [eb];omega) hs (by omega) (by omega) (qm _ _) (tE _ _)) ?_;rw [eb]at hs ⊢;exact⟨⟨(_,0,k+1),hlt,hstep _ 0 (by omega) (.inl rfl) (by omega)⟩,by show a.length-(k+1)<a.length-k;omega,rfl,rfl⟩
 .refine bp (s:=pi a b out c k) hS (adu a b out c k (by omega)) ?_;refine cv (cD ?_);obtain rfl:k=a.length:=by omega
  have hxl:ag a<1000000000^a.length:=fC (by decide) ha;have l7:ag (b.take a.length)=ag b:=Cp (by decide) hb (show ag b<_ by omega);have hv:ag out=ag a-ag b:=by
   have h1:=hI.val;have h2:ag out<1000000000^a.length:=by rw [<-hlo];exact fC (by decide) hI.dg
   rw [dA,l7]at h1;rcases Kl with rfl |rfl
   .omega
   .omega
  have key:=adv a b out c a.length (vy _ out) (by rw [List.drop_zero,dA];omega);rw [List.drop_zero,dA,xQ hI.dg,hv]at key;exact bT (s:=pi a b out c a.length) hS key
theorem adK:Ry.Ok prog:=fun⟨a,b,_⟩ h=>by
 have h:(rA a b&&decide (ag b<=ag a))=true:=h;rw [ae]at h;obtain⟨h1,h2⟩:=Cz.1 h.1;exact adJ a b h1 h2 (ap h.2)
theorem Kn (n:Nat):aP 1000000000 (fS n):=aP.rep (by decide) n
theorem o5 (n:Nat):(fS n).length=n:=List.length_replicate
theorem Ko (n:Nat):(List.replicate n (List.map aa.raw (Array.toList #[Value.int IntKind.i64 (0:Int)]))).flatten=(fS n).flatMap (fun x=>[aa.raw (Value.int IntKind.i64 x)]):=by
 unfold fS;induction n with
 |zero=>rfl
 |succ n ih=>rw [List.replicate_succ,List.replicate_succ,List.flatten_cons,List.flatMap_cons,ih];rfl
theorem adL {o x y c:Int} (ho:0<=o/\o<1000000000) (hx:0<=x/\x<1000000000) (hy:0<=y/\y<1000000000) (hc:0<=c/\c<1000000000):
  (0<=x*y/\x*y<=999999998000000001)/\Int.tmod (o+x*y+c) 1000000000+1000000000*Int.tdiv (o+x*y+c) 1000000000=x*y+o+c/\(0<=Int.tmod (o+x*y+c) 1000000000/\Int.tmod (o+x*y+c) 1000000000<1000000000)/\(0<=Int.tdiv (o+x*y+c) 1000000000/\Int.tdiv (o+x*y+c) 1000000000<1000000000):=by
 have h0:0<=x*y:=Int.mul_nonneg hx.1 hy.1;have h1:x*y<=999999999*999999999:=Int.mul_le_mul (by omega) (by omega) hy.1 (by decide);rw [Int.tmod_eq_emod_of_nonneg (by omega),Int.tdiv_eq_ediv_of_nonneg (by omega)];generalize x*y=p at*;omega
theorem adM (x y:List Int) (h:okB x=true) (g:okB y=true):Holds prog false 136 [lv x,lv y] (lv (aC (ag x*ag y))):=by
 obtain⟨hx,lx⟩:=n4.1 h;obtain⟨hy,ly⟩:=n4.1 g;have hS:=E9;have e1:((x.length:Int)+(y.length:Int)).toNat=x.length+y.length:=by omega
 refine bJ (c:=lF) func136 rfl rfl fun w0 F=> ?_
 refine cE hS 3 (adw x y (by omega) (by omega) (by rw [o5,e1]) (by rw [e1]) (by rw [o5]) (by rw [e1];exact Ko _) (by rw [o5])) ?_;refine aR.loop (ι:={s:List Int×Nat//s.2<=x.length/\s.1.length=x.length+y.length/\aP 1000000000 s.1/\ag s.1=ag (x.take s.2)*ag y/\∀k,s.2+y.length<=k->s.1.getD k 0=0}) (id:=0) (b:=cat lF Cy) (rest:=(fl lF []).drop 4) (by kernel_rfl) (fun s=>kT x y s.1.1 s.1.2) (fun s=>x.length-s.1.2)
  ⟨(fS (x.length+y.length),0),Nat.zero_le _,o5 _,Kn _,by
    show vl _ (List.replicate _ 0)=vl _ (x.take 0)*_;rw [Cn];simp [vl],fun k _=>by
    show(List.replicate _ (0:Int)).getD k 0=0;rw [ao,List.getElem?_replicate];split<;>rfl⟩ (fun _=>rfl) ?_
 rintro⟨⟨out,i⟩,hi,ho,iH,hval,hz⟩;have hi:i<=x.length:=hi;have ho:out.length=x.length+y.length:=ho;have iH:aP 1000000000 out:=iH;have hval:ag out=ag (x.take i)*ag y:=hval;have hz:∀k,i+y.length<=k->out.getD k 0=0:=hz;by_cases hlt:i<x.length
 .have vu:=hx.get (by decide) i;refine dZ (s:=kT x y out i) hS 2 (adx x y out i (by omega)) ?_;refine EK (id:=1) (c:=cat lF E8) (rest:=(fl lF Cy).drop 3) (by kernel_rfl) ?_;refine dZ (s:=kT x y out i) hS 2 (adz x y out i) ?_;refine aR.loop (ι:={s:List Int×Int×Nat//s.2.2<=y.length/\s.1.length=x.length+y.length/\aP 1000000000 s.1/\(0<=s.2.1/\s.2.1<1000000000)/\ag s.1+1000000000^(i+s.2.2)*s.2.1=ag out+1000000000^i*(x.getD i 0*ag (y.take s.2.2))/\∀k,i+y.length<=k->s.1.getD k 0=0}) (id:=2) (b:=cat lF Ki) (rest:=(fl lF E8).drop 3) (by kernel_rfl) (fun s=>qu x y s.1.1 i s.1.2.1 s.1.2.2) (fun s=>y.length-s.1.2.2)
   ⟨(out,0,0),Nat.zero_le _,ho,iH,⟨Int.le_refl 0,show(0:Int)<1000000000 by decide⟩,by simp [ag,vl],hz⟩ (fun _=>rfl) ?_
  rintro⟨⟨cQ,c,j⟩,hj,nj,qt,hc,hinv,kS⟩;have hj:j<=y.length:=hj;have nj:cQ.length=x.length+y.length:=nj;have qt:aP 1000000000 cQ:=qt;have hc:0<=c/\c<1000000000:=hc;have hinv:ag cQ+1000000000^(i+j)*c=ag out+1000000000^i*(x.getD i 0*ag (y.take j)):=hinv;have kS:∀k,i+y.length<=k->cQ.getD k 0=0:=kS;have e2:((i:Int)+(j:Int)).toNat=i+j:=by omega
  have e3:((i:Int)+(y.length:Int)).toNat=i+y.length:=by omega
  by_cases hlj:j<y.length
  .have E7:=hy.get (by decide) j;have zw:=qt.get (by decide) (i+j);obtain⟨g0,g1,g2,g3⟩:=adL zw vu E7 hc;have key:=adA x y cQ i c j (by omega) (by omega) (by omega) hlt hlj (by omega);rw [e2]at key;refine bp (s:=qu x y cQ i c j) (s':=qu x y (cQ.set (i+j) (Int.tmod (cQ.getD (i+j) 0+x.getD i 0*y.getD j 0+c) 1000000000)) i (Int.tdiv (cQ.getD (i+j) 0+x.getD i 0*y.getD j 0+c) 1000000000) (j+1)) hS (key (by omega) (by omega) (by omega) (by omega) (by rw [bY]) (by rw [bY])) ?_;refine⟨⟨(cQ.set (i+j) (Int.tmod (cQ.getD (i+j) 0+x.getD i 0*y.getD j 0+c) 1000000000),Int.tdiv (cQ.getD (i+j) 0+x.getD i 0*y.getD j 0+c) 1000000000,j+1),hlj,by rw [bY];exact nj,qt.set g2,g3, ?_,fun k hk=> ?_⟩,by show y.length-(j+1)<y.length-j;omega,rfl,rfl⟩
   .show vl 1000000000 (cQ.set (i+j) (Int.tmod (cQ.getD (i+j) 0+x.getD i 0*y.getD j 0+c) 1000000000))+1000000000^(i+(j+1))*Int.tdiv (cQ.getD (i+j) 0+x.getD i 0*y.getD j 0+c) 1000000000=vl 1000000000 out+1000000000^i*(x.getD i 0*vl 1000000000 (y.take (j+1)));rw [qj _ _ _ _ (by omega),<-Nat.add_assoc,Int.pow_succ,kJ,Int.mul_add,Int.mul_add];have:=Rw (W:=0) g1 hinv;unfold ag at this;rw [this,Int.add_assoc,Int.pow_add];congr 2;rw [Int.mul_assoc,Int.mul_left_comm (x.getD i 0)]
   .show(cQ.set (i+j) _).getD k 0=0;rw [ao,List.getElem?_set_ne (by omega),<-ao];exact kS k hk
  .refine bp (s:=qu x y cQ i c j) hS (adB x y cQ i c j (by omega)) ?_;refine cv (cD ?_);obtain rfl:j=y.length:=by omega
   have hk0:=kS (i+y.length) (aE _);have key:=adC x y cQ i c y.length (by omega) (by omega);rw [e3,hk0,Int.zero_add]at key;refine bp (s:=qu x y cQ i c y.length) (s':=kT x y (cQ.set (i+y.length) c) i) hS (key (by omega) (by rw [bY]) (by rw [bY])) ?_;refine bp (s:=kT x y (cQ.set (i+y.length) c) i) hS (adD x y (cQ.set (i+y.length) c) i (by omega)) ?_;refine⟨⟨(cQ.set (i+y.length) c,i+1),hlt,by rw [bY];exact nj,qt.set hc, ?_,fun k hk=> ?_⟩,by show x.length-(i+1)<x.length-i;omega,rfl,rfl⟩
   .show vl _ (cQ.set (i+y.length) c)=vl _ (x.take (i+1))*_;rw [qj _ _ _ _ (by omega),hk0,Int.sub_zero,kJ,Int.add_mul,Int.mul_assoc];rw [dA,hval]at hinv;exact hinv
   .show(cQ.set (i+y.length) c).getD k 0=0;rw [ao,List.getElem?_set_ne (by omega),<-ao];exact kS k (by omega)
 .refine dZ (s:=kT x y out i) hS 2 (ady x y out i (by omega)) ?_;refine cv (cv (cD ?_));obtain rfl:i=x.length:=by omega
  rw [dA]at hval;have key:=adE x y out x.length (vy _ out) (by rw [List.drop_zero,dA];omega);rw [List.drop_zero,dA,xQ iH,hval]at key;exact bT (s:=kT x y out x.length) hS key
theorem Rz:Kj.Ok prog:=fun⟨a,b,_⟩ h=>by
 have h:(okB a&&okB b)=true:=h;rw [ae]at h;exact adM a b h.1 h.2
end
abbrev aM:=Int×List Int
def aq (a:aM):Int:=if a.2=[]then a.1 else a.1*aj a.2
noncomputable def aV (z:Int):Int×List Int:=if-9223372036854775807<=z/\z<=9223372036854775807 then(z,[])else(if z<0 then-1 else 1,cM 18446744073709551616 z.natAbs)
def gd (z:Int):Bool:=decide (-9223372036854775808<=z)&&decide (z<=9223372036854775807)
def ic (a:aM):Bool:=List.isEmpty (α:=Int) a.2
def bH (n:Nat) (a:aM):Bool:=match a.2 with
 |[]=>gd a.1
 |x::l=>(a.1==1||a.1== -1)&&(gA (x::l)&&(ju (x::l)&&(decide (9223372036854775807<aj (x::l))&&decide ((x::l).length<=n))))
def aD (a:aM):Bool:=bH 100000 a
def cg (n:Int):Int:=n.natAbs
def ay (a:aM):List Int:=if a.2=[]then(if a.1=0 then []else [cg a.1])else a.2
def bV (a:aM):Bool:=decide (a.1<0)
noncomputable def cF (a b:aM):Int×List Int:=if ic a&&(ic b&&gd (a.1+b.1))then(a.1+b.1,[])else aV (aq a+aq b)
noncomputable def bU (a b:aM):Int×List Int:=aV (aq a*aq b)
noncomputable def eS (a:aM):Int×List Int:=aV (-aq a)
noncomputable def o6 (a:aM):Int×List Int:=aV (aq a).natAbs
noncomputable def j7 (a b:aM):Int×List Int:=cF a (eS b)
def kU (z:Int):Int:=if z<0 then-1 else if z=0 then 0 else 1
def eY (a:aM):Int:=kU (aq a)
def vz (a b:aM):Int:=kU (aq a-aq b)
theorem Kq {x:Int} (h:0<=x/\x<18446744073709551616):aP 18446744073709551616 [x]:= .cons h .nil
theorem RA {x:Int} (h:x≠0):eX [x]:=eX.cons .nil fun _=>h
theorem pk (x:Int):aj [x]=x:=rj _ _
theorem qv {z:Int}:gd z=true↔ -9223372036854775808<=z/\z<=9223372036854775807:=by
 unfold gd;rw [ae,bz,bz]
theorem dc {a:aM}:ic a=true↔a.2=[]:=by unfold ic;exact List.isEmpty_iff
theorem f5 {a:aM}:ic a=false↔a.2≠[]:=by
 constructor
 .intro h e;rw [dc.2 e]at h;cases h
 .intro h;cases hs:ic a with
  |false=>rfl
  |true=>exact absurd (dc.1 hs) h
theorem lG {a:aM} (h:a.2=[]):aq a=a.1:=by unfold aq;rw [if_pos h]
theorem nk {n:Nat} {a:aM} (h:a.2=[]):bH n a=gd a.1:=by unfold bH;rw [h]
theorem o7 {n:Nat} {a:aM} (h:a.2≠[]):bH n a=true↔(a.1=1\/a.1= -1)/\aP 18446744073709551616 a.2/\eX a.2/\9223372036854775807<aj a.2/\a.2.length<=n:=by
 obtain⟨s,w⟩:=a;cases w with
 |nil=>exact absurd rfl h
 |cons x l=>
  unfold bH;simp only [ae,Bool.or_eq_true,bz,fU,cf,qq]
theorem jQ {n:Nat} {a:aM} (h:bH n a=true):aP 18446744073709551616 (ay a)/\eX (ay a)/\aj (ay a)=(aq a).natAbs/\(bV a=true↔aq a<0)/\(ay a).length<=max n 1:=by
 by_cases hs:a.2=[]
 .rw [nk hs]at h;have h:=qv.1 h;have hv:=lG hs;have hn:bV a=true↔aq a<0:=by unfold bV;rw [hv,bz]
  unfold ay;rw [if_pos hs,hv];by_cases h0:a.1=0
  .rw [if_pos h0,h0];exact⟨.nil, .nil,rfl,by rw [<-hv]at h0;rw [hn,h0],by simp⟩
  .rw [if_neg h0];refine⟨Kq (by unfold cg;omega),RA (by unfold cg;omega),by rw [pk];rfl,by rw [hn,hv],by simp;omega⟩
 .obtain⟨h1,h2,h3,h4,h5⟩:=(o7 hs).1 h;unfold ay bV;rw [if_neg hs];have hv:aq a=a.1*aj a.2:=by unfold aq;rw [if_neg hs]
  refine⟨h2,h3, ?_, ?_,by omega⟩
  .rw [hv];rcases h1 with h1|h1<;>rw [h1]<;>omega
  .rw [hv,bz];rcases h1 with h1|h1<;>rw [h1]<;>omega
theorem dp {n:Nat} {a:aM} (h:bH n a=true) (hn:1<=n):((aq a).natAbs:Int)<18446744073709551616^n:=by
 obtain⟨h1,_,h3,_,h5⟩:=jQ h;have h6:=fC (b:=18446744073709551616) (by decide) h1;have h7:=iG (b:=18446744073709551616) (by decide) (show(ay a).length<=n by omega);unfold aj at h3;omega
theorem vA {b z:Int} {n:Nat} (hb:1<b) (h0:0<=z) (h:z<b^n):(cM b z).length<=n:=by
 obtain⟨h1,h2,h3⟩:=d8 hb h0;cases hl:(cM b z).length with
 |zero=>omega
 |succ k=>
  have h4:=xL (by omega) h1 h2 hl;rw [h3]at h4;by_cases hk:k+1<=n
  .exact hk
  .have:=iG (show 1<=b by omega) (show n<=k by omega);omega
theorem Kr {b:Int} (hb:1<b):cM b 0=[]:=(d9 hb .nil .nil rfl).symm
theorem pl {b z:Int} (hb:1<b) (h:0<z):cM b z≠[]:=fun e=>by
 obtain⟨_,_,h3⟩:=d8 hb (ck h);rw [e]at h3;simp [vl]at h3;omega
theorem kV {n:Nat} {z:Int} (h:(z.natAbs:Int)<18446744073709551616^n):bH n (aV z)=true/\aq (aV z)=z:=by
 unfold aV;split
 .rename_i hz;exact⟨by rw [nk rfl];exact qv.2 ⟨by omega,hz.2⟩,lG rfl⟩
 .rename_i hz;have h0:0<(z.natAbs:Int):=by omega
  obtain⟨h1,h2,h3⟩:=d8 (b:=18446744073709551616) (by decide) (ck h0);have hne:=pl (b:=18446744073709551616) (by decide) h0;refine⟨(o7 hne).2 ⟨?_,h1,h2, ?_,vA (by decide) (ck h0) h⟩, ?_⟩
  .show(if z<0 then(-1:Int)else 1)=1\/_;split
   .exact .inr rfl
   .exact .inl rfl
  .show 9223372036854775807<vl _ _;rw [h3];omega
  .unfold aq;rw [if_neg hne];show(if z<0 then(-1:Int)else 1)*vl _ _=z;rw [h3];split<;>omega
theorem val_mk (z:Int):aq (aV z)=z:=by
 have:(z.natAbs:Int)<18446744073709551616^(z.natAbs+1):=by
  have:∀n:Nat,(n:Int)<18446744073709551616^(n+1):=fun n=>by
   induction n with
   |zero=>decide
   |succ n ih=>rw [Int.pow_succ];omega
  exact this _
 exact(kV this).2
theorem Fa {n:Nat} {a:aM} (h:bH n a=true) (hv:aq a≠ -9223372036854775808):a=aV (aq a):=by
 obtain⟨s,w⟩:=a;by_cases hs:w=[]
 .subst hs;have h:gd s=true:=h;have h:=qv.1 h;have hv:s≠ -9223372036854775808:=hv;show(s,[])=aV s;unfold aV;rw [if_pos ⟨by omega,h.2⟩]
 .obtain⟨h1,h2,h3,h4,h5⟩:=(o7 (a:=(s,w)) hs).1 h;have e:aq (s,w)=s*aj w:=by unfold aq;rw [if_neg hs]
  rw [e]at hv ⊢;have h1:s=1\/s= -1:=h1;have h4:9223372036854775807<aj w:=h4;have hd:w=cM 18446744073709551616 (aj w):=d9 (by decide) h2 h3 rfl;unfold aV;rcases h1 with rfl |rfl
  .rw [if_neg (by omega),if_neg (by omega),show((1*aj w).natAbs:Int)=aj w by omega,<-hd]
  .rw [if_neg (by omega),if_pos (by omega),show((-1*aj w).natAbs:Int)=aj w by omega,<-hd]
theorem rB (a b:aM):aq (cF a b)=aq a+aq b:=by
 unfold cF;split
 .rename_i h;simp only [ae]at h;rw [lG rfl,lG (dc.1 h.1),lG (dc.1 h.2.1)]
 .exact val_mk _
theorem xT {n:Nat} {a b:aM} (h:((aq a+aq b).natAbs:Int)<18446744073709551616^n):bH n (cF a b)=true:=by
 unfold cF;split
 .rename_i h;simp only [ae]at h;rw [nk rfl];exact h.2.2
 .exact(kV h).1
theorem Ks {z:Int} (h:0<z):kU z=1:=by unfold kU;rw [if_neg (by omega),if_neg (by omega)]
theorem Fb {z:Int} (h:z<0):kU z= -1:=by unfold kU;rw [if_pos h]
theorem adN:kU 0=0:=by decide
end Go.Proofs.YtibikmmdbdlafaaGreatDoor
