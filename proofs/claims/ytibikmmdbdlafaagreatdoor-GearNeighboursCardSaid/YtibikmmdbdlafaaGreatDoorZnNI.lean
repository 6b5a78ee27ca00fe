import Derived.Shelf.Small.Bits
import Derived.Shelf.Small.Wraps
import Derived.Shelf.Strconv.Atoi
import Derived.Shelf.Strconv.Itoa3
import Derived.Shelf.Strings.Shaped
import Derived.Shelf.Sort.Plain
import Derived.Shelf.Strings.Repeat
import Derived.Shelf.Slices.Turned
import Derived.Shelf.Slices.Clone
import Derived.Shelf.Slices.SearchI
import Derived.Shelf.Slices.Cells
import Derived.Shelf.Slices.In.SortNone
import Derived.Test.YtibikmmdbdlafaaGreatDoorZnVNc
set_option linter.defProp false
set_option linter.unusedSimpArgs false
set_option linter.unusedVariables false
namespace Go.Proofs
open Go.Shelf
set_option maxRecDepth 100000
def Tryz.kR{α:Type}{a:Option α}{x y:α}(h:a=some x)(g:x=y:=by kernel_rfl):a=some y:=h.trans (congrArg some g)
def Tryz.aeX:Go.Shelf.Ren:=⟨fun |134=>224|129=>201|n=>n,fun |53=>167|3=>3|4=>4|46=>181|5=>5|9=>9|n=>n,fun |n=>n⟩
def Tryz.aeY:Go.Proofs.Lays.n134 Tryz.prog Tryz.aeX:=⟨by kernel_rfl,kR func201,kR func224,underlying3,isAgg3,sizeOf3,zeroValue3,underlying4,isAgg4,sizeOf4,zeroValue4,underlying5,isAgg5,sizeOf5,zeroValue5,underlying9,isAgg9,sizeOf9,zeroValue9,underlying181,isAgg181,sizeOf181,zeroValue181,underlying167,isAgg167,sizeOf167,zeroValue167⟩
def Tryz.bits_LeadingZeros64 (x:Int) (w:World) (h0:0<=x) (h1:x<=18446744073709551615):
  Calls Tryz.prog 224 #[.int .u64 x] w fun e w'=>e= .returned (.int .i64 (64-(Lib.bitLen x.toNat:Int)))/\w'=w:=Any.bits_LeadingZeros64 Tryz.aeY x w h0 h1
def Tryz.aun:Go.Shelf.Ren:=⟨fun |210=>168|206=>218|n=>n,fun |9=>9|4=>4|3=>3|n=>n,fun |n=>n⟩
def Tryz.aeZ:Go.Shelf.Ren:=⟨fun |172=>174|244=>220|245=>221|247=>244|279=>245|280=>246|281=>247|282=>248|287=>261|316=>262|171=>177|205=>263|321=>269|322=>270|243=>222|246=>249|283=>250|284=>251|285=>252|286=>253|129=>201|317=>264|318=>265|319=>266|320=>267|337=>271|338=>272|n=>n,fun |9=>9|3=>3|75=>195|76=>196|4=>4|5=>5|167=>253|37=>205|0=>0|85=>254|2=>2|168=>256|53=>167|175=>273|46=>181|210=>277|127=>242|145=>286|143=>284|21=>21|171=>260|173=>262|212=>280|51=>223|20=>20|213=>281|232=>287|233=>288|80=>160|n=>n,fun |15=>3|16=>4|17=>5|18=>6|19=>7|n=>n⟩
def Tryz.ae0:Go.Proofs.Lays.n172 Tryz.prog Tryz.aeZ:=⟨by kernel_rfl,kR func201,kR func177,kR func174,kR func263,kR func222,kR func220,kR func221,kR func249,kR func244,kR func245,kR func246,kR func247,kR func248,kR func250,kR func251,kR func252,kR func253,kR func261,kR func262,kR func264,kR func265,kR func266,kR func267,kR func269,kR func270,kR func271,kR func272,underlying0,isAgg0,sizeOf0,zeroValue0,underlying2,isAgg2,sizeOf2,zeroValue2,underlying3,isAgg3,sizeOf3,zeroValue3,underlying4,isAgg4,sizeOf4,zeroValue4,underlying5,isAgg5,sizeOf5,zeroValue5,underlying9,isAgg9,sizeOf9,zeroValue9,underlying20,isAgg20,sizeOf20,zeroValue20,underlying21,isAgg21,sizeOf21,zeroValue21,underlying205,isAgg205,sizeOf205,zeroValue205,underlying181,isAgg181,sizeOf181,zeroValue181,underlying223,isAgg223,sizeOf223,zeroValue223,underlying167,isAgg167,sizeOf167,zeroValue167,underlying195,isAgg195,sizeOf195,zeroValue195,underlying196,isAgg196,sizeOf196,zeroValue196,underlying254,isAgg254,sizeOf254,zeroValue254,underlying242,isAgg242,sizeOf242,zeroValue242,underlying284,isAgg284,sizeOf284,zeroValue284,underlying286,isAgg286,sizeOf286,zeroValue286,underlying253,isAgg253,sizeOf253,zeroValue253,underlying256,isAgg256,sizeOf256,zeroValue256,underlying260,isAgg260,sizeOf260,zeroValue260,underlying262,isAgg262,sizeOf262,zeroValue262,underlying273,isAgg273,sizeOf273,zeroValue273,underlying277,isAgg277,sizeOf277,zeroValue277,underlying280,isAgg280,sizeOf280,zeroValue280,underlying281,isAgg281,sizeOf281,underlying287,isAgg287,sizeOf287,zeroValue287,underlying288,isAgg288,sizeOf288,zeroValue288,by kernel_rfl,by kernel_rfl,by kernel_rfl,by kernel_rfl,by kernel_rfl⟩
open Go.RowKit in
def Tryz.strconv_Atoi (s:ByteArray) (n:Int) (hl:s.size<=18) (h:Lib.atoi s.data.toList=some n) (w:World):
  Calls Tryz.prog 174 #[.string s] w fun e w'=>e= .returned (.tuple #[.int .i64 n, .nilIface])/\∃t,w'=Lib.bytesWorld w 5 t:=Any.strconv_Atoi Tryz.ae0 s n hl h w
def Tryz.ae1:Go.Shelf.Ren:=⟨fun |283=>250|n=>n,fun |3=>3|9=>9|4=>4|n=>n,fun |n=>n⟩
def Tryz.ae2:Go.Proofs.Lays.n283 Tryz.prog Tryz.ae1:=⟨by kernel_rfl,kR func250,underlying3,isAgg3,sizeOf3,zeroValue3,underlying4,isAgg4,sizeOf4,zeroValue4,underlying9,isAgg9,sizeOf9,zeroValue9⟩
open Go.Lib in
def Tryz.internal_strconv_small (i:Nat) (h:i<100) (w:World):
  Calls Tryz.prog 250 #[.int .i64 i] w fun e w'=>e= .returned (.string ⟨(Lib.decDigits i).toArray⟩)/\w'=w:=Any.internal_strconv_small Tryz.ae2 i h w
def Tryz.ae3:Go.Shelf.Ren:=⟨fun |284=>251|129=>201|317=>264|318=>265|n=>n,fun |53=>167|3=>3|212=>280|0=>0|4=>4|46=>181|5=>5|9=>9|n=>n,fun |17=>5|n=>n⟩
def Tryz.ae4:Go.Proofs.LaysM.n284 Tryz.prog Tryz.ae3:={
 mixed:=by kernel_rfl
 f129:=Tryz.func201.trans (congrArg some (by kernel_rfl))
 f284:=Tryz.func251.trans (congrArg some (by kernel_rfl))
 f317:=Tryz.func264.trans (congrArg some (by kernel_rfl))
 f318:=Tryz.func265.trans (congrArg some (by kernel_rfl))
 t0:=Tryz.underlying0
 a0:=Tryz.isAgg0
 z0:=Tryz.sizeOf0
 v0:=Tryz.zeroValue0
 t3:=Tryz.underlying3
 a3:=Tryz.isAgg3
 z3:=Tryz.sizeOf3
 v3:=Tryz.zeroValue3
 t4:=Tryz.underlying4
 a4:=Tryz.isAgg4
 z4:=Tryz.sizeOf4
 v4:=Tryz.zeroValue4
 t5:=Tryz.underlying5
 a5:=Tryz.isAgg5
 z5:=Tryz.sizeOf5
 v5:=Tryz.zeroValue5
 t9:=Tryz.underlying9
 a9:=Tryz.isAgg9
 z9:=Tryz.sizeOf9
 v9:=Tryz.zeroValue9
 t46:=Tryz.underlying181
 a46:=Tryz.isAgg181
 z46:=Tryz.sizeOf181
 v46:=Tryz.zeroValue181
 t53:=Tryz.underlying167
 a53:=Tryz.isAgg167
 z53:=Tryz.sizeOf167
 v53:=Tryz.zeroValue167
 t212:=Tryz.underlying280
 a212:=Tryz.isAgg280
 z212:=Tryz.sizeOf280
 v212:=Tryz.zeroValue280
 g17:=by kernel_rfl
 i0:=by kernel_rfl
 i3:=by kernel_rfl
 i4:=by kernel_rfl
 i5:=by kernel_rfl
 i9:=by kernel_rfl
 i46:=by kernel_rfl
 i53:=by kernel_rfl
 i212:=by kernel_rfl
 m17:=by kernel_rfl}
open Go.Lib in
def Tryz.internal_strconv_numDigits (u:Nat) (h1:1<=u) (h2:u<18446744073709551616) (w:World) (htab:Lib.TabIs Tryz.prog w "internal/strconv.uint64pow10" .u64 Lib.pow10Tab):
  Calls Tryz.prog 251 #[.int .u64 u] w fun e w'=>e= .returned (.int .i64 (Lib.nDigits u))/\w'=w:=Any.internal_strconv_numDigits Tryz.ae4 u h1 h2 w htab
def Tryz.ae5:Go.Shelf.Ren:=⟨fun |285=>252|n=>n,fun |37=>205|53=>167|3=>3|4=>4|51=>223|9=>9|5=>5|0=>0|n=>n,fun |n=>n⟩
def Tryz.ae6:Go.Proofs.Lays.n285 Tryz.prog Tryz.ae5:=⟨by kernel_rfl,kR func252,underlying0,isAgg0,sizeOf0,zeroValue0,underlying3,isAgg3,sizeOf3,zeroValue3,underlying4,isAgg4,sizeOf4,zeroValue4,underlying5,isAgg5,sizeOf5,zeroValue5,underlying9,isAgg9,sizeOf9,zeroValue9,underlying205,isAgg205,sizeOf205,zeroValue205,underlying223,isAgg223,sizeOf223,zeroValue223,underlying167,isAgg167,sizeOf167,zeroValue167⟩
open Go.RowKit Go.Sort Go.Lib in
def Tryz.internal_strconv_formatBase10 (blk off cap:Nat) (u:Nat) (d:Array UInt8) (w:World) (hH:Holds (fun(b:UInt8)=>Value.int .u8 (b.toNat:Int)) w blk off d) (hu:u<10^d.size) (hu64:u<18446744073709551616) (hsz:d.size<4611686018427387904):
  Calls Tryz.prog 252 #[.slice (some ⟨blk,off,none⟩) d.size cap, .int .u64 u] w fun e w'=>
   e= .returned (.tuple #[])/\∃(n v':Nat) (dk:Array UInt8),w'=(putRow (fun(b:UInt8)=>Value.int .u8 (b.toNat:Int)) w blk off dk).drewN n/\FmtInv d.size u 0 v' dk:=Any.internal_strconv_formatBase10 Tryz.ae6 blk off cap u d w hH hu hu64 hsz
def Tryz.auo:Go.Shelf.Ren:=⟨fun |246=>249|283=>250|284=>251|285=>252|286=>253|129=>201|317=>264|318=>265|319=>266|320=>267|337=>271|338=>272|n=>n,fun |2=>2|3=>3|9=>9|4=>4|171=>260|0=>0|53=>167|37=>205|5=>5|173=>262|212=>280|51=>223|20=>20|213=>281|46=>181|232=>287|233=>288|n=>n,fun |17=>5|18=>6|19=>7|n=>n⟩
def Tryz.aup:Go.Shelf.Ren:=⟨fun |243=>222|246=>249|283=>250|284=>251|285=>252|286=>253|129=>201|317=>264|318=>265|319=>266|320=>267|337=>271|338=>272|n=>n,fun |3=>3|9=>9|2=>2|4=>4|171=>260|0=>0|53=>167|37=>205|5=>5|173=>262|212=>280|51=>223|20=>20|213=>281|46=>181|232=>287|233=>288|n=>n,fun |17=>5|18=>6|19=>7|n=>n⟩
def Tryz.ae7:Go.Shelf.Ren:=⟨fun |171=>177|243=>222|246=>249|283=>250|284=>251|285=>252|286=>253|129=>201|317=>264|318=>265|319=>266|320=>267|337=>271|338=>272|n=>n,fun |3=>3|9=>9|2=>2|4=>4|171=>260|0=>0|53=>167|37=>205|5=>5|173=>262|212=>280|51=>223|20=>20|213=>281|46=>181|232=>287|233=>288|n=>n,fun |17=>5|18=>6|19=>7|n=>n⟩
def Tryz.ae8:Go.Proofs.LaysM.n171 Tryz.prog Tryz.ae7:={
 mixed:=by kernel_rfl
 f129:=Tryz.func201.trans (congrArg some (by kernel_rfl))
 f171:=Tryz.func177.trans (congrArg some (by kernel_rfl))
 f243:=Tryz.func222.trans (congrArg some (by kernel_rfl))
 f246:=Tryz.func249.trans (congrArg some (by kernel_rfl))
 f283:=Tryz.func250.trans (congrArg some (by kernel_rfl))
 f284:=Tryz.func251.trans (congrArg some (by kernel_rfl))
 f285:=Tryz.func252.trans (congrArg some (by kernel_rfl))
 f286:=Tryz.func253.trans (congrArg some (by kernel_rfl))
 f317:=Tryz.func264.trans (congrArg some (by kernel_rfl))
 f318:=Tryz.func265.trans (congrArg some (by kernel_rfl))
 f319:=Tryz.func266.trans (congrArg some (by kernel_rfl))
 f320:=Tryz.func267.trans (congrArg some (by kernel_rfl))
 f337:=Tryz.func271.trans (congrArg some (by kernel_rfl))
 f338:=Tryz.func272.trans (congrArg some (by kernel_rfl))
 t0:=Tryz.underlying0
 a0:=Tryz.isAgg0
 z0:=Tryz.sizeOf0
 v0:=Tryz.zeroValue0
 t2:=Tryz.underlying2
 a2:=Tryz.isAgg2
 z2:=Tryz.sizeOf2
 v2:=Tryz.zeroValue2
 t3:=Tryz.underlying3
 a3:=Tryz.isAgg3
 z3:=Tryz.sizeOf3
 v3:=Tryz.zeroValue3
 t4:=Tryz.underlying4
 a4:=Tryz.isAgg4
 z4:=Tryz.sizeOf4
 v4:=Tryz.zeroValue4
 t5:=Tryz.underlying5
 a5:=Tryz.isAgg5
 z5:=Tryz.sizeOf5
 v5:=Tryz.zeroValue5
 t9:=Tryz.underlying9
 a9:=Tryz.isAgg9
 z9:=Tryz.sizeOf9
 v9:=Tryz.zeroValue9
 t20:=Tryz.underlying20
 a20:=Tryz.isAgg20
 z20:=Tryz.sizeOf20
 v20:=Tryz.zeroValue20
 t37:=Tryz.underlying205
 a37:=Tryz.isAgg205
 z37:=Tryz.sizeOf205
 v37:=Tryz.zeroValue205
 t46:=Tryz.underlying181
 a46:=Tryz.isAgg181
 z46:=Tryz.sizeOf181
 v46:=Tryz.zeroValue181
 t51:=Tryz.underlying223
 a51:=Tryz.isAgg223
 z51:=Tryz.sizeOf223
 v51:=Tryz.zeroValue223
 t53:=Tryz.underlying167
 a53:=Tryz.isAgg167
 z53:=Tryz.sizeOf167
 v53:=Tryz.zeroValue167
 t171:=Tryz.underlying260
 a171:=Tryz.isAgg260
 z171:=Tryz.sizeOf260
 v171:=Tryz.zeroValue260
 t173:=Tryz.underlying262
 a173:=Tryz.isAgg262
 z173:=Tryz.sizeOf262
 v173:=Tryz.zeroValue262
 t212:=Tryz.underlying280
 a212:=Tryz.isAgg280
 z212:=Tryz.sizeOf280
 v212:=Tryz.zeroValue280
 t213:=Tryz.underlying281
 a213:=Tryz.isAgg281
 z213:=Tryz.sizeOf281
 t232:=Tryz.underlying287
 a232:=Tryz.isAgg287
 z232:=Tryz.sizeOf287
 v232:=Tryz.zeroValue287
 t233:=Tryz.underlying288
 a233:=Tryz.isAgg288
 z233:=Tryz.sizeOf288
 v233:=Tryz.zeroValue288
 g17:=by kernel_rfl
 g18:=by kernel_rfl
 g19:=by kernel_rfl
 i0:=by kernel_rfl
 i2:=by kernel_rfl
 i3:=by kernel_rfl
 i4:=by kernel_rfl
 i5:=by kernel_rfl
 i9:=by kernel_rfl
 i20:=by kernel_rfl
 i37:=by kernel_rfl
 i46:=by kernel_rfl
 i51:=by kernel_rfl
 i53:=by kernel_rfl
 i171:=by kernel_rfl
 i173:=by kernel_rfl
 i212:=by kernel_rfl
 i232:=by kernel_rfl
 i233:=by kernel_rfl
 m17:=by kernel_rfl
 m18:=by kernel_rfl
 m19:=by kernel_rfl}
open Go.RowKit Go.Sort Go.Lib in
def Tryz.strconv_Itoa (n:Int) (h0: -9223372036854775808<=n) (h1:n<=9223372036854775807) (w:World) (htab:Lib.TabIs Tryz.prog w "internal/strconv.uint64pow10" .u64 Lib.pow10Tab):
  Calls Tryz.prog 177 #[.int .i64 n] w fun e w'=>e= .returned (.string ⟨(Lib.itoa n).toArray⟩)/\∃k os,w'=grow (w.drewN k) os:=Any.strconv_Itoa Tryz.ae8 n h0 h1 w htab
def Tryz.auq:Go.Shelf.Ren:=⟨fun |219=>217|217=>240|225=>241|224=>242|267=>243|266=>259|314=>260|n=>n,fun |9=>9|3=>3|4=>4|5=>5|46=>181|146=>264|51=>223|n=>n,fun |1=>0|n=>n⟩
def Tryz.ae9:Go.Shelf.Ren:=⟨fun |145=>118|220=>167|219=>217|217=>240|225=>241|224=>242|267=>243|266=>259|314=>260|n=>n,fun |9=>9|4=>4|59=>151|3=>3|5=>5|46=>181|146=>264|51=>223|n=>n,fun |1=>0|n=>n⟩
def Tryz.afa:Go.Proofs.Lays.n145 Tryz.prog Tryz.ae9:=⟨by kernel_rfl,kR func118,kR func240,kR func217,kR func167,kR func242,kR func241,kR func259,kR func243,kR func260,underlying3,isAgg3,sizeOf3,zeroValue3,underlying4,isAgg4,sizeOf4,zeroValue4,underlying5,isAgg5,sizeOf5,zeroValue5,underlying9,isAgg9,sizeOf9,zeroValue9,underlying181,isAgg181,sizeOf181,zeroValue181,underlying223,isAgg223,sizeOf223,zeroValue223,underlying151,isAgg151,sizeOf151,zeroValue151,underlying264,isAgg264,sizeOf264,zeroValue264,by kernel_rfl⟩
open Go.RowKit Go.Lib in
def Tryz.strings_Cut (s sep:ByteArray) (m:Int) (w:World) (hs:s.size<4294967281) (hm:w.cell? ⟨0,0,none⟩=some (.int .i64 m)):
  Calls Tryz.prog 118 #[.string s, .string sep] w fun e w'=>e= .returned (.tuple #[.string ⟨(Lib.cut s.data.toList sep.data.toList).1.toArray⟩, .string ⟨(Lib.cut s.data.toList sep.data.toList).2.1.toArray⟩, .bool (Lib.cut s.data.toList sep.data.toList).2.2])/\∃n,w'=w.drewN n:=Any.strings_Cut Tryz.afa s sep m w hs hm
def Tryz.afb:Go.Shelf.Ren:=⟨fun |189=>102|125=>156|257=>155|128=>200|129=>201|294=>191|295=>192|296=>193|297=>194|298=>195|299=>196|216=>197|300=>198|301=>199|328=>232|329=>233|330=>234|331=>235|332=>236|215=>166|343=>257|n=>n,fun |28=>93|3=>3|46=>181|0=>0|51=>223|53=>167|4=>4|183=>216|182=>215|131=>50|5=>5|9=>9|218=>243|222=>247|228=>268|229=>269|n=>n,fun |n=>n⟩
def Tryz.Tl:Go.Proofs.Lays.n189 Tryz.prog Tryz.afb:=⟨by kernel_rfl,kR func156,kR func200,kR func201,kR func102,kR func166,kR func197,kR func155,kR func191,kR func192,kR func193,kR func194,kR func195,kR func196,kR func198,kR func199,kR func232,kR func233,kR func234,kR func235,kR func236,kR func257,underlying0,isAgg0,sizeOf0,zeroValue0,underlying3,isAgg3,sizeOf3,zeroValue3,underlying4,isAgg4,sizeOf4,zeroValue4,underlying5,isAgg5,sizeOf5,zeroValue5,underlying9,isAgg9,sizeOf9,zeroValue9,underlying93,isAgg93,sizeOf93,zeroValue93,underlying181,isAgg181,sizeOf181,zeroValue181,underlying223,isAgg223,sizeOf223,zeroValue223,underlying167,isAgg167,sizeOf167,zeroValue167,underlying50,isAgg50,sizeOf50,zeroValue50,underlying215,isAgg215,sizeOf215,zeroValue215,underlying216,isAgg216,sizeOf216,zeroValue216,underlying243,isAgg243,sizeOf243,zeroValue243,underlying247,isAgg247,sizeOf247,zeroValue247,underlying268,isAgg268,sizeOf268,zeroValue268,underlying269,isAgg269,sizeOf269,zeroValue269⟩
open Go.Sort Go.RowKit in
def Tryz.slices_Sort_int (blk off cap:Nat) (zs:List Int) (w:World) (hH:Holds (Value.int .i64) w blk off zs.toArray) (hblk:blk<w.heap.size) (hsz:zs.length<4611686018427387904):
  Calls Tryz.prog 102 #[.slice (some ⟨blk,off,none⟩) zs.length cap] w fun e w'=>
   e= .returned (.tuple #[])/\∃n os,w'=grow (putRow (Value.int .i64) (Sort.ahead w n) blk off (zs.mergeSort fun x y=>decide (x<=y)).toArray) os:=Any.slices_Sort_int Tryz.Tl blk off cap zs w hH hblk hsz
def Tryz.afc:Go.Shelf.Ren:=⟨fun |99=>172|206=>218|n=>n,fun |9=>9|4=>4|3=>3|n=>n,fun |n=>n⟩
def Tryz.afd:Go.Proofs.Lays.n99 Tryz.prog Tryz.afc:=⟨by kernel_rfl,kR func172,kR func218,underlying3,isAgg3,sizeOf3,zeroValue3,underlying4,isAgg4,sizeOf4,zeroValue4,underlying9,isAgg9,sizeOf9,zeroValue9⟩
open Go.RowKit Go.Lib in
def Tryz.strings_HasPrefix (s p:ByteArray) (w:World):
  Calls Tryz.prog 172 #[.string s, .string p] w fun e w'=>e= .returned (.bool (Lib.hasPrefix s.data.toList p.data.toList))/\w'=w:=Any.strings_HasPrefix Tryz.afd s p w
def Tryz.afe:Go.Shelf.Ren:=⟨fun |101=>173|208=>219|206=>218|n=>n,fun |9=>9|4=>4|3=>3|n=>n,fun |n=>n⟩
def Tryz.aff:Go.Proofs.Lays.n101 Tryz.prog Tryz.afe:=⟨by kernel_rfl,kR func173,kR func218,kR func219,underlying3,isAgg3,sizeOf3,zeroValue3,underlying4,isAgg4,sizeOf4,zeroValue4,underlying9,isAgg9,sizeOf9,zeroValue9⟩
open Go.RowKit Go.Lib in
def Tryz.strings_TrimPrefix (s p:ByteArray) (w:World):
  Calls Tryz.prog 173 #[.string s, .string p] w fun e w'=>e= .returned (.string ⟨(Lib.trimPrefix s.data.toList p.data.toList).toArray⟩)/\w'=w:=Any.strings_TrimPrefix Tryz.aff s p w
def Tryz.afg:Go.Shelf.Ren:=⟨fun |264=>139|n=>n,fun |53=>167|46=>181|n=>n,fun |n=>n⟩
def Tryz.afh:Go.Proofs.Lays.n264 Tryz.prog Tryz.afg:=⟨by kernel_rfl,kR func139,underlying181,isAgg181,sizeOf181,zeroValue181,underlying167,isAgg167,sizeOf167,zeroValue167⟩
open Go.RowKit Go.Lib in
def Tryz.bits_Mul64 (x y:Nat) (hx:x<18446744073709551616) (hy:y<18446744073709551616) (w:World):
  Calls Tryz.prog 139 #[.int .u64 x, .int .u64 y] w fun e w'=>e= .returned (.tuple #[.int .u64 ((x*y/18446744073709551616:Nat):Int), .int .u64 ((x*y%18446744073709551616:Nat):Int)])/\w'=w:=Any.bits_Mul64 Tryz.afh x y hx hy w
def Tryz.Tm:Go.Shelf.Ren:=⟨fun |105=>180|212=>228|99=>172|165=>229|166=>181|170=>230|169=>182|263=>254|264=>139|206=>218|240=>231|241=>255|276=>256|277=>268|n=>n,fun |9=>9|3=>3|4=>4|20=>20|0=>0|46=>181|109=>239|5=>5|72=>207|76=>196|51=>223|146=>264|53=>167|148=>168|70=>204|37=>205|75=>195|127=>242|164=>266|80=>160|n=>n,fun |n=>n⟩
def Tryz.afi:Go.Proofs.Lays.n105 Tryz.prog Tryz.Tm:=⟨by kernel_rfl,kR func172,kR func180,kR func229,kR func181,kR func182,kR func230,kR func218,kR func228,kR func231,kR func255,kR func254,kR func139,kR func256,kR func268,underlying0,isAgg0,sizeOf0,zeroValue0,underlying3,isAgg3,sizeOf3,zeroValue3,underlying4,isAgg4,sizeOf4,zeroValue4,underlying5,isAgg5,sizeOf5,zeroValue5,underlying9,isAgg9,sizeOf9,zeroValue9,underlying20,isAgg20,sizeOf20,zeroValue20,underlying205,isAgg205,sizeOf205,zeroValue205,underlying181,isAgg181,sizeOf181,zeroValue181,underlying223,isAgg223,sizeOf223,zeroValue223,underlying167,isAgg167,sizeOf167,zeroValue167,underlying204,isAgg204,sizeOf204,zeroValue204,underlying207,isAgg207,sizeOf207,zeroValue207,underlying195,isAgg195,sizeOf195,zeroValue195,underlying196,isAgg196,sizeOf196,zeroValue196,underlying239,isAgg239,sizeOf239,zeroValue239,underlying242,isAgg242,sizeOf242,zeroValue242,underlying264,isAgg264,sizeOf264,zeroValue264,underlying168,isAgg168,sizeOf168,zeroValue168,underlying266,isAgg266,sizeOf266,zeroValue266⟩
def Tryz.afj:Builder.Extra Tryz.prog Tryz.Tm:={
 sizeBuilder:=by kernel_rfl
 liesBuilder:=by kernel_rfl
 t5:=Tryz.underlying5
 a5:=Tryz.isAgg5
 z5:=Tryz.sizeOf5
 v5:=Tryz.zeroValue5
 infoByte:=by kernel_rfl
 cellsByte:=by kernel_rfl
 sizeByte:=by kernel_rfl
 neB5:=by decide}
open Go.RowKit Go.Lib in
def Tryz.strings_Repeat (s:ByteArray) (c:Nat) (w:World) (hc:c<=9223372036854775807) (hlen:s.size*c<=140737488355328):
  Calls Tryz.prog 180 #[.string s, .int .i64 c] w fun e w'=>e= .returned (.string ⟨(Lib.repeatL s.data.toList c).toArray⟩)/\Below w.heap.size w w':=Any.strings_Repeat Tryz.afi Tryz.afj s c w hc hlen
open Go.RowKit Go.Sort in
def Tryz.slices_Sort_int_none (p:Option Addr) (cap:Nat) (w:World):
  Calls Tryz.prog 102 #[.slice p 0 cap] w fun e w'=>e= .returned (.tuple #[])/\w'=w:=Any.slices_Sort_int_none Tryz.Tl p cap w
end Go.Proofs
set_option maxRecDepth 100000
namespace Go.Proofs.YtibikmmdbdlafaaGreatDoor
open Go.RowKit Sv Go.Proofs.Tryz
noncomputable section
def fO (x y:Int):Int:=x*y/18446744073709551616
def cO (x y:Int):Int:=x*y%18446744073709551616
def k8 (x y:Int):Bool:=(decide (0<=x)&&decide (x<18446744073709551616))&&(decide (0<=y)&&decide (y<18446744073709551616))
def Gc:=IN 139 [aG,aG] [aG,aG] true (fun d=>k8 d.1 d.2.1) fun d=>(fO d.1 d.2.1,(cO d.1 d.2.1,()))
def wc:=a7 [F5,Gc]
def lw:=k_a f143
abbrev C8:List Nat:=[1,1,0,1,0,0]
abbrev Gd:List Nat:=[1,1,0,1,0,0,1,1,0,0]
abbrev LK:List Nat:=[1,1,0,1,0,0,1,1,0,0,1,1,0,1,0,0]
def k9 (a b out:List Int) (i:Nat):bI:={n:=80,sl:=[(1,bJ b),(5,qO 64 out),(20,bJ a),(21,iv a.length),(22,iv i)],bH:=[(64,qP out)],next:=65}
def qR (a b out:List Int) (i:Nat) (x c:Int) (j:Nat):bI:={n:=80,sl:=[(1,bJ b),(5,qO 64 out),(6,iv i),(7,cu x),(8,cu c),(20,bJ a),(21,iv a.length),(22,iv i),(27,bJ b),(28,iv b.length),(29,iv j)],bH:=[(64,qP out)],next:=65}
def pN (x y o c:Int):Int:=(((((cO x y).toNat+o.toNat+Int.toNat 0)%2^64)+c.toNat+Int.toNat 0)%2^64:Nat)
def wd (x y o c:Int):Int:=IntKind.u64.wrap (IntKind.u64.wrap (fO x y+(((((cO x y).toNat+o.toNat+Int.toNat 0)/2^64):Nat):Int))+(((((((cO x y).toNat+o.toNat+Int.toNat 0)%2^64)+c.toNat+Int.toNat 0)/2^64):Nat):Int))
def Ge (out:List Int):bI:={n:=80,sl:=[(5,bJ out)],bH:=[],next:=64}
def afk (a b:List Int) (h1: -9223372036854775808<=(a.length:Int)+(b.length:Int)/\(a.length:Int)+(b.length:Int)<=9223372036854775807) (h2:((a.length:Int)+(b.length:Int)).toNat<=1000000) (h3:(((a.length:Int)+(b.length:Int)).toNat)=(cJ (a.length+b.length)).length) (h4:(bh.known ((a.length:Int)+(b.length:Int)).toNat)=(bh.known (a.length+b.length))) (h5:(bM (cJ (a.length+b.length)).length)=(bM (a.length+b.length))) (h6:(List.flatten (List.replicate ((a.length:Int)+(b.length:Int)).toNat (List.map af.raw (Array.toList #[Value.int .u64 (0:Int)]))))=(List.flatMap (fun x=>[af.raw (Value.int .u64 x)]) (cJ (a.length+b.length)))) (h7:(a.length+b.length)=(cJ (a.length+b.length)).length):
  aE.path (om prog wc (fl lw []) 3 80 [bJ a,bJ b]) (dl 1) (ep prog 80 .normal [(64,64,some (a.length+b.length))] (k9 a b (cJ (a.length+b.length)) 0)):=
 mp (FO (eP h1) rt rt (oq (show(decide (((a.length:Int)+(b.length:Int)).toNat<=((a.length:Int)+(b.length:Int)).toNat))=true from az (by omega)) (show(bounded ((a.length:Int)+(b.length:Int)).toNat (8:Nat))=true from pL h2 (by omega)) (rr b) (an h3 (an h4 h5)) (rr a) (rr (a.length:Int)) (rr (0:Int)) (an h6 h7) trivial))
section
variable (a b out:List Int) (i:Nat)
def afl (h1:(i:Int)<(a.length:Int)):
  dV wc (fl lw C8) 2 (k9 a b out i) 3 .normal [(64,64,none)] (k9 a b out i):=
 wy [ah h1] 1
def afm (h1:¬(i:Int)<(a.length:Int)):
  dV wc (fl lw C8) 2 (k9 a b out i) 2 (.exit 0) [(64,64,none)] (k9 a b out i):=
 wy [aF h1] 1
def afn (h1:i<a.length):
  dV wc (fl lw Gd) 3 (k9 a b out i) 1 .normal [(64,64,none)] (qR a b out i (a.getD i 0) 0 0):=
 wy [ah h1] 64
def afo (x c:Int) (j:Nat) (h1:(j:Int)<(b.length:Int)) (h2:j<b.length) (h3:(k8 x (b.getD j 0))=true) (h4:i6 ((i:Int)+(j:Int))) (h5:((i:Int)+(j:Int)).toNat<out.length) (h6:i6 ((j:Int)+1)) (h7:out.length=(out.set ((i:Int)+(j:Int)).toNat (pN x (b.getD j 0) (out.getD ((i:Int)+(j:Int)).toNat 0) c)).length) (h8:(bM out.length)=(bM (out.set ((i:Int)+(j:Int)).toNat (pN x (b.getD j 0) (out.getD ((i:Int)+(j:Int)).toNat 0) c)).length)) (h9:(IntKind.wrap IntKind.u64 (IntKind.wrap IntKind.u64 (fO x (b.getD j 0)+(↑(((cO x (b.getD j 0)).toNat+(out.getD ((i:Int)+(j:Int)).toNat 0).toNat+Int.toNat 0)/(2:Nat)^(64:Nat)):Int))+(↑((((cO x (b.getD j 0)).toNat+(out.getD ((i:Int)+(j:Int)).toNat 0).toNat+Int.toNat 0)%(2:Nat)^(64:Nat)+c.toNat+Int.toNat 0)/(2:Nat)^(64:Nat)):Int)))=(wd x (b.getD j 0) (out.getD ((i:Int)+(j:Int)).toNat 0) c)) (h10:(out.set ((i:Int)+(j:Int)).toNat (↑((((cO x (b.getD j 0)).toNat+(out.getD ((i:Int)+(j:Int)).toNat 0).toNat+Int.toNat 0)%(2:Nat)^(64:Nat)+c.toNat+Int.toNat 0)%(2:Nat)^(64:Nat)):Int))=(out.set ((i:Int)+(j:Int)).toNat (pN x (b.getD j 0) (out.getD ((i:Int)+(j:Int)).toNat 0) c))):
  bz wc (fl lw LK) (qR a b out i x c j) 3 .normal [(64,64,none)] (qR a b (out.set ((i:Int)+(j:Int)).toNat (pN x (b.getD j 0) (out.getD ((i:Int)+(j:Int)).toNat 0) c)) i x (wd x (b.getD j 0) (out.getD ((i:Int)+(j:Int)).toNat 0) c) (j+1)):=
 wy [ah h1,ah h2,aa h3,yi h4,ah h5,jl 167 aG h5,yi h6,ax h7,ax h8,ax (show(IntKind.wrap IntKind.u64 (IntKind.wrap IntKind.u64 (fO x (b.getD j (0:Int))+(↑(((cO x (b.getD j (0:Int))).toNat+((bP aG (a8 167 aG out)).getD ((0:Nat)+((i:Int)+(j:Int)).toNat) (0:Int)).toNat+(0:Int).toNat)/(2:Nat)^(64:Nat)):Int))+(↑((((cO x (b.getD j (0:Int))).toNat+((bP aG (a8 167 aG out)).getD ((0:Nat)+((i:Int)+(j:Int)).toNat) (0:Int)).toNat+(0:Int).toNat)%(2:Nat)^(64:Nat)+c.toNat+(0:Int).toNat)/(2:Nat)^(64:Nat)):Int)))=(wd x (b.getD j (0:Int)) (out.getD ((i:Int)+(j:Int)).toNat (0:Int)) c)from(by simp only [eD,aw]<;>exact h9)),pK prog 167 aG (show((bP aG (a8 167 aG out)).set ((0:Nat)+((i:Int)+(j:Int)).toNat) (↑((((cO x (b.getD j (0:Int))).toNat+((bP aG (a8 167 aG out)).getD ((0:Nat)+((i:Int)+(j:Int)).toNat) (0:Int)).toNat+(0:Int).toNat)%(2:Nat)^(64:Nat)+c.toNat+(0:Int).toNat)%(2:Nat)^(64:Nat)):Int))=(out.set ((i:Int)+(j:Int)).toNat (pN x (b.getD j (0:Int)) (out.getD ((i:Int)+(j:Int)).toNat (0:Int)) c))from(by simp only [eD,aw]<;>exact h10))] 1004782375665203448862331732045300874419142139905
def afp (x c:Int) (j:Nat) (h1:¬(j:Int)<(b.length:Int)):
  bz wc (fl lw LK) (qR a b out i x c j) 2 (.exit 2) [(64,64,none)] (qR a b out i x c j):=
 wy [aF h1] 1
def afq (x c:Int) (j:Nat) (h1:i6 ((i:Int)+(b.length:Int))) (h2:((i:Int)+(b.length:Int)).toNat<out.length) (h3:out.length=(out.set ((i:Int)+(b.length:Int)).toNat c).length) (h4:(bM out.length)=(bM (out.set ((i:Int)+(b.length:Int)).toNat c).length)):
  bz wc ((fl lw Gd).drop 4) (qR a b out i x c j) 1 .normal [(64,64,none)] (k9 a b (out.set ((i:Int)+(b.length:Int)).toNat c) i):=
 wy [yi h1,ah h2,jl 167 aG h2,ax h3,ax h4,mN 167 aG (Eq.refl (out.set ((i:Int)+(b.length:Int)).toNat c))] 442721880034140495873
def afr (h1:i6 ((i:Int)+1)):
  bz wc ((fl lw C8).drop 3) (k9 a b out i) 1 .normal [(64,64,none)] (k9 a b out (i+1)):=
 wy [yi h1] 1
def afs:
  aE.path (aE.ret (R.normal ((k9 a b out i).T.set 5 (some (bJ out))) ((k9 a b out i).H.drop 64) []):aE R) (dl 1) (ep prog 80 .normal [] (Ge out)):=
 wy [] 0
end
def aft (out:List Int) (h1:out.length<=1000000):
  bS wc ((fl lw []).drop 4) (Ge out) 1 f143 false (bJ (dQ out)):=
 wy [ah h1] 1
def pO (x y:List Int):List Int:=cV 18446744073709551616 (ak x*ak y)
def Tn:=IN 143 [.list false aG, .list false aG] [.list false aG] false (fun d=>k6 d.1 d.2.1) fun d=>(pO d.1 d.2.1,())
def afu {f:FuncId} {args:List af} {a b:Int} {fresh:Bool} (h:∀(w:World) (F:Env) (xs:List Value),ua w F->Sv.vL F->aI F args xs->Calls prog f xs.toArray w fun e w'=>e= .returned (.tuple #[.int .u64 a, .int .u64 b])/\Below w.heap.size w w'):
  Holds prog fresh f args (.tuple [cu a,cu b]):=fun w F xs hF cv hd=>
 (h w F xs hF cv hd).mono fun e w' ⟨g1,g2⟩=>⟨_,⟨F.at',fun _=>none⟩,g1, .tuple (.cons (.raw _) (.cons (.raw _) .nil)),⟨hF.pJ,hF.all,fun b A h=>by cases h⟩,(fun b A h=>by cases h),g2⟩
def C9 {x y:Int}:k8 x y=true↔(0<=x/\x<18446744073709551616)/\(0<=y/\y<18446744073709551616):=by
 unfold k8;simp only [ae,bE]
def afv (X Y:Nat) (hx:X<18446744073709551616) (hy:Y<18446744073709551616):Holds prog true 139 [cu X,cu Y] (.tuple [cu (fO X Y),cu (cO X Y)]):=
 afu fun w F xs hF cv hd=>by
  cases hd with
  |cons d1 d2=>
   cases d2 with
   |cons d2 d3=>
    cases d3;rw [d1.cc,d2.cc];exact(Tryz.bits_Mul64 X Y hx hy w).mono fun e w' ⟨h1,h2⟩=>⟨h1,by subst h2;exact Below.refl _ _⟩
def afw (x y:Int) (h:k8 x y=true):Holds prog true 139 [cu x,cu y] (.tuple [cu (fO x y),cu (cO x y)]):=by
 obtain⟨⟨x0,x1⟩,y0,y1⟩:=C9.1 h;have:=afv x.toNat y.toNat (by omega) (by omega);rw [Int.toNat_of_nonneg x0,Int.toNat_of_nonneg y0]at this;exact this
def LL:Gc.Ok prog:=fun⟨x,y,_⟩ h=>afw x y h
def afx:bD prog (bF wc):=cN (aQ LG (aQ LL dW))
def fP {x:Int} (h:0<=x/\x<18446744073709551616):IntKind.wrap .u64 x=x:=by
 unfold IntKind.wrap;have e:IntKind.signed .u64=false:=rfl;have e2:IntKind.bits .u64=64:=rfl;simp only [e,e2,Bool.false_and,Bool.false_eq_true,if_false];rw [show(2:Int)^64=18446744073709551616 from rfl];omega
def afy {x y o c:Int} (hx:0<=x/\x<18446744073709551616) (hy:0<=y/\y<18446744073709551616) (ho:0<=o/\o<18446744073709551616) (hc:0<=c/\c<18446744073709551616):
  pN x y o c+18446744073709551616*wd x y o c=x*y+o+c/\(0<=pN x y o c/\pN x y o c<18446744073709551616)/\(0<=wd x y o c/\wd x y o c<18446744073709551616):=by
 have LM:0<=x*y:=Int.mul_nonneg hx.1 hy.1;have hp1:x*y<=18446744073709551615*18446744073709551615:=Int.mul_le_mul (by omega) (by omega) hy.1 (by decide);unfold pN wd fO cO;generalize x*y=p at*;rw [show(2:Nat)^64=18446744073709551616 from rfl];have e0:Int.toNat 0=0:=rfl;rw [e0];have hr:=ec p (show(18446744073709551616:Int)≠0 by decide);have hr2:=eL p (show(0:Int)<18446744073709551616 by decide);have hq:=Int.emod_add_mul_ediv p 18446744073709551616;generalize p%18446744073709551616=r at*;generalize p/18446744073709551616=q at*;have j7:0<=q/\q<=18446744073709551614:=by omega
 obtain⟨R,rfl⟩:∃R:Nat,r=(R:Int):=⟨r.toNat,by omega⟩;obtain⟨O,rfl⟩:∃O:Nat,o=(O:Int):=⟨o.toNat,by omega⟩;obtain⟨C,rfl⟩:∃C:Nat,c=(C:Int):=⟨c.toNat,by omega⟩;simp only [Int.toNat_natCast,Nat.add_zero];have k1:(R+O)/18446744073709551616<=1:=by omega
 have c8:=Nat.mod_add_div (R+O) 18446744073709551616;have jh:=Nat.mod_lt (R+O) (show 18446744073709551616>0 by decide);generalize (R+O)/18446744073709551616=c1 at*;generalize (R+O)%18446744073709551616=l1 at*;have pn:=Nat.mod_add_div (l1+C) 18446744073709551616;have xB:=Nat.mod_lt (l1+C) (show 18446744073709551616>0 by decide);have Fz:(l1+C)/18446744073709551616<=1:=by omega
 generalize (l1+C)/18446744073709551616=c2 at*;generalize (l1+C)%18446744073709551616=l2 at*;rw [fP (x:=q+(c1:Int)) (by omega),fP (x:=q+(c1:Int)+(c2:Int)) (by omega)];omega
def To:(fl lw []).drop 4≠[]:=fun h=>by
 have:((fl lw []).drop 4).isEmpty=false:=by kernel_rfl
 rw [h]at this;cases this
def Tp {P b lo hi x y o c V W M:Int} (h:lo+b*hi=x*y+o+c) (hv:V+P*c=M):V+P*(lo-o)+P*b*hi=M+P*(x*y):=by
 have h1:P*(lo+b*hi)=P*(x*y+o+c):=by rw [h]
 rw [Int.mul_add,Int.mul_add,Int.mul_add,<-Int.mul_assoc]at h1;rw [Int.mul_sub];omega
def afz (x y:List Int) (h:k6 x y=true):Holds prog false 143 [bJ x,bJ y] (bJ (pO x y)):=by
 unfold k6 at h;simp only [ae,bE]at h;obtain⟨hx,hy,lx,ly⟩:=h;have hx:=ij.1 hx;have hy:=ij.1 hy;have hS:=afx;have e1:((x.length:Int)+(y.length:Int)).toNat=x.length+y.length:=by omega
 refine bL (c:=lw) func143 rfl rfl fun w0 F=> ?_
 refine cR hS 3 (afk x y (by omega) (by omega) (by rw [gO,e1]) (by rw [e1]) (by rw [gO]) (by rw [e1];exact yh _) (by rw [gO])) ?_;refine aW.loop (ι:={s:List Int×Nat//s.2<=x.length/\s.1.length=x.length+y.length/\aS 18446744073709551616 s.1/\ak s.1=ak (x.take s.2)*ak y/\∀k,s.2+y.length<=k->s.1.getD k 0=0}) (id:=0) (b:=cat lw C8) (rest:=(fl lw []).drop 4) (by kernel_rfl) (fun s=>k9 x y s.1.1 s.1.2) (fun s=>x.length-s.1.2)
  ⟨(cJ (x.length+y.length),0),Nat.zero_le _,gO _,qS _,by
    show vl _ (List.replicate _ 0)=vl _ (x.take 0)*_;rw [CX];simp [vl],fun k _=>by
    show(List.replicate _ (0:Int)).getD k 0=0;rw [ao,List.getElem?_replicate];split<;>rfl⟩ (fun _=>rfl) ?_
 rintro⟨⟨out,i⟩,hi,ho,iX,hval,hz⟩;have hi:i<=x.length:=hi;have ho:out.length=x.length+y.length:=ho;have iX:aS 18446744073709551616 out:=iX;have hval:ak out=ak (x.take i)*ak y:=hval;have hz:∀k,i+y.length<=k->out.getD k 0=0:=hz;by_cases hlt:i<x.length
 .have vY:=hx.get (by decide) i;refine dP (s:=k9 x y out i) hS 2 (afl x y out i (by omega)) ?_;refine FP (id:=1) (c:=cat lw Gd) (rest:=(fl lw C8).drop 3) (by kernel_rfl) ?_;refine dP (s:=k9 x y out i) hS 3 (afn x y out i hlt) ?_;refine aW.loop (ι:={s:List Int×Int×Nat//s.2.2<=y.length/\s.1.length=x.length+y.length/\aS 18446744073709551616 s.1/\(0<=s.2.1/\s.2.1<18446744073709551616)/\ak s.1+18446744073709551616^(i+s.2.2)*s.2.1=ak out+18446744073709551616^i*(x.getD i 0*ak (y.take s.2.2))/\∀k,i+y.length<=k->s.1.getD k 0=0}) (id:=2) (b:=cat lw LK) (rest:=(fl lw Gd).drop 4) (by kernel_rfl) (fun s=>qR x y s.1.1 i (x.getD i 0) s.1.2.1 s.1.2.2) (fun s=>y.length-s.1.2.2)
   ⟨(out,0,0),Nat.zero_le _,ho,iX,⟨Int.le_refl 0,show(0:Int)<18446744073709551616 by decide⟩,by simp [ak,vl],hz⟩ (fun _=>rfl) ?_
  rintro⟨⟨cZ,c,j⟩,hj,nD,qT,hc,hinv,nE⟩;have hj:j<=y.length:=hj;have nD:cZ.length=x.length+y.length:=nD;have qT:aS 18446744073709551616 cZ:=qT;have hc:0<=c/\c<18446744073709551616:=hc;have hinv:ak cZ+18446744073709551616^(i+j)*c=ak out+18446744073709551616^i*(x.getD i 0*ak (y.take j)):=hinv;have nE:∀k,i+y.length<=k->cZ.getD k 0=0:=nE;have e2:((i:Int)+(j:Int)).toNat=i+j:=by omega
  have e3:((i:Int)+(y.length:Int)).toNat=i+y.length:=by omega
  by_cases hlj:j<y.length
  .have Gf:=hy.get (by decide) j;have zY:=qT.get (by decide) (i+j);obtain⟨g1,g2,g3⟩:=afy vY Gf zY hc;refine bC (s:=qR x y cZ i (x.getD i 0) c j) (s':=qR x y (cZ.set ((i:Int)+(j:Int)).toNat (pN (x.getD i 0) (y.getD j 0) (cZ.getD ((i:Int)+(j:Int)).toNat 0) c)) i (x.getD i 0) (wd (x.getD i 0) (y.getD j 0) (cZ.getD ((i:Int)+(j:Int)).toNat 0) c) (j+1)) hS (afo x y cZ i (x.getD i 0) c j (by omega) hlj (C9.2 ⟨vY,Gf⟩) (by omega) (by omega) (by omega) (by rw [b9]) (by rw [b9]) rfl rfl) ?_;rw [e2];refine⟨⟨(cZ.set (i+j) (pN (x.getD i 0) (y.getD j 0) (cZ.getD (i+j) 0) c),wd (x.getD i 0) (y.getD j 0) (cZ.getD (i+j) 0) c,j+1),hlj,by rw [b9];exact nD,qT.set g2,g3, ?_,fun k hk=> ?_⟩,by simp;omega,rfl,rfl⟩
   .show vl 18446744073709551616 (cZ.set (i+j) (pN (x.getD i 0) (y.getD j 0) (cZ.getD (i+j) 0) c))+18446744073709551616^(i+(j+1))*wd (x.getD i 0) (y.getD j 0) (cZ.getD (i+j) 0) c=vl 18446744073709551616 out+18446744073709551616^i*(x.getD i 0*vl 18446744073709551616 (y.take (j+1)));rw [qL _ _ _ _ (by omega),<-Nat.add_assoc,Int.pow_succ,k3,Int.mul_add,Int.mul_add];have:=Tp (W:=0) g1 hinv;unfold ak at this;rw [this,Int.add_assoc,Int.pow_add];congr 2;rw [Int.mul_assoc,Int.mul_left_comm (x.getD i 0)]
   .rw [ao,List.getElem?_set_ne (by omega),<-ao];exact nE k hk
  .refine bC (s:=qR x y cZ i (x.getD i 0) c j) hS (afp x y cZ i (x.getD i 0) c j (by omega)) ?_;refine cI (cQ ?_);obtain rfl:j=y.length:=by omega
   refine bC (s:=qR x y cZ i (x.getD i 0) c y.length) (s':=k9 x y (cZ.set ((i:Int)+(y.length:Int)).toNat c) i) hS (afq x y cZ i (x.getD i 0) c y.length (by omega) (by omega) (by rw [b9]) (by rw [b9])) ?_;rw [e3];refine bC (s:=k9 x y (cZ.set (i+y.length) c) i) hS (afr x y (cZ.set (i+y.length) c) i (by omega)) ?_;refine⟨⟨(cZ.set (i+y.length) c,i+1),hlt,by rw [b9];exact nD,qT.set hc, ?_,fun k hk=> ?_⟩,by simp;omega,rfl,rfl⟩
   .have hk0:=nE (i+y.length) (aK _);show vl _ (cZ.set (i+y.length) c)=vl _ (x.take (i+1))*_;rw [qL _ _ _ _ (by omega),hk0,Int.sub_zero,k3,Int.add_mul,Int.mul_assoc];rw [dR,hval]at hinv;exact hinv
   .rw [ao,List.getElem?_set_ne (by omega),<-ao];exact nE k (by omega)
 .refine dP (s:=k9 x y out i) hS 2 (afm x y out i (by omega)) ?_;refine cI (cI (cQ ?_));obtain rfl:i=x.length:=by omega
  rw [dR]at hval;unfold pO;rw [<-hval,<-mi iX];refine aW.vU To (i:=64) (s:=5) (e2:=167) (t:=aG) (xs:=out) (cap:=bM out.length) (by kernel_rfl) (by kernel_rfl) ?_;refine aW.od To (σ:=[]) (s:=Ge out) (afs x y out x.length) ?_;exact bY (s:=Ge out) hS (aft out (by omega))
def afA:Tn.Ok prog:=fun⟨x,y,_⟩ h=>afz x y h
def uo:=k_a f133
def v7:=k_a f135
def lW:=k_a f136
def gZ:=ov [FY] (a7 [S4])
abbrev pP:List Nat:=[1,1,1,0,1,0,0]
def jH (a b out:List Int) (c:Int) (k:Nat):bI:={n:=42,sl:=[(0,lv a),(1,lv b),(5,mO 64 out),(6,iv c),(7,iv k)],bH:=[(64,mP out)],next:=65}
def afB (a b:List Int):
  c7 gZ (fl uo []) 4 42 [lv a,lv b] 1 .normal [] (jH a b [] 0 0):=
 wy [] 0
section
variable (a b out:List Int) (c:Int) (k:Nat)
def afC (h1:(k:Int)<(a.length:Int)) (h2:(0:av.den (.int .i64))<=(k:Int)) (h3:i6 (bX a (k:Int)+bX b (k:Int))) (h4:i6 (bX a (k:Int)+bX b (k:Int)+c)) (h5:out.length+1<=1000000) (h6:i6 (Int.tdiv (bX a (k:Int)+bX b (k:Int)+c) 1000000000)) (h7:i6 ((k:Int)+1)) (h8:(out.length+1)=(out++[Int.tmod (bX a (k:Int)+bX b (k:Int)+c) 1000000000]).length) (h9:(bh.full)=(bM (out++[Int.tmod (bX a (k:Int)+bX b (k:Int)+c) 1000000000]).length)):
  bz gZ (fl uo pP) (jH a b out c k) 1424 .normal [(64,66,none)] (jH a b (out++[Int.tmod (bX a k+bX b k+c) 1000000000]) (Int.tdiv (bX a k+bX b k+c) 1000000000) (k+1)):=
 wy [aa (bg (az h1)),ah h1,ah h2,yi h3,yi h4,yk 3 (.int .i64) out,lT 8 h5,yi h6,yi h7,ax h8,ax h9,ot 3 (.int .i64) (Eq.refl (out++[Int.tmod (bX a (k:Int)+bX b (k:Int)+c) (1000000000:Int)]))] 4489748952612617644828073985769994856947271015338049
def afD (h1:¬(k:Int)<(a.length:Int)) (h2:(k:Int)<(b.length:Int)) (h3:(0:av.den (.int .i64))<=(k:Int)) (h4:i6 (bX a (k:Int)+bX b (k:Int))) (h5:i6 (bX a (k:Int)+bX b (k:Int)+c)) (h6:out.length+1<=1000000) (h7:i6 (Int.tdiv (bX a (k:Int)+bX b (k:Int)+c) 1000000000)) (h8:i6 ((k:Int)+1)) (h9:(out.length+1)=(out++[Int.tmod (bX a (k:Int)+bX b (k:Int)+c) 1000000000]).length) (h10:(bh.full)=(bM (out++[Int.tmod (bX a (k:Int)+bX b (k:Int)+c) 1000000000]).length)):
  bz gZ (fl uo pP) (jH a b out c k) 1423 .normal [(64,66,none)] (jH a b (out++[Int.tmod (bX a k+bX b k+c) 1000000000]) (Int.tdiv (bX a k+bX b k+c) 1000000000) (k+1)):=
 wy [aa (bg (ab h1)),aF h1,aa (bg (az h2)),ah h2,ah h3,yi h4,yi h5,yk 3 (.int .i64) out,lT 8 h6,yi h7,yi h8,ax h9,ax h10,ot 3 (.int .i64) (Eq.refl (out++[Int.tmod (bX a (k:Int)+bX b (k:Int)+c) (1000000000:Int)]))] 5238040690022918447934035119010923055851292927987777
def afE (h1:¬(k:Int)<(a.length:Int)) (h2:¬(k:Int)<(b.length:Int)) (h3:c>0) (h4:(0:av.den (.int .i64))<=(k:Int)) (h5:i6 (bX a (k:Int)+bX b (k:Int))) (h6:i6 (bX a (k:Int)+bX b (k:Int)+c)) (h7:out.length+1<=1000000) (h8:i6 (Int.tdiv (bX a (k:Int)+bX b (k:Int)+c) 1000000000)) (h9:i6 ((k:Int)+1)) (h10:(out.length+1)=(out++[Int.tmod (bX a (k:Int)+bX b (k:Int)+c) 1000000000]).length) (h11:(bh.full)=(bM (out++[Int.tmod (bX a (k:Int)+bX b (k:Int)+c) 1000000000]).length)):
  bz gZ (fl uo pP) (jH a b out c k) 1391 .normal [(64,66,none)] (jH a b (out++[Int.tmod (bX a k+bX b k+c) 1000000000]) (Int.tdiv (bX a k+bX b k+c) 1000000000) (k+1)):=
 wy [aa (bg (ab h1)),aF h1,aa (bg (ab h2)),aF h2,ah h3,ah h4,yi h5,yi h6,yk 3 (.int .i64) out,lT 8 h7,yi h8,yi h9,ax h10,ax h11,ot 3 (.int .i64) (Eq.refl (out++[Int.tmod (bX a (k:Int)+bX b (k:Int)+c) (1000000000:Int)]))] 5612186558728068849487015685631387156701777985015873
def afF (h1:¬(k:Int)<(a.length:Int)) (h2:¬(k:Int)<(b.length:Int)) (h3:¬c>0):
  bz gZ (fl uo pP) (jH a b out c k) 623 (.exit 0) [(64,64,none)] (jH a b out c k):=
 wy [aa (bg (ab h1)),aF h1,aa (bg (ab h2)),aF h2,aF h3] 1425176483074113
def afG (h1:(out)=((out.drop 0).take out.length)) (h2:out.length=0\/bA 3 (.int .i64) (a8 3 (.int .i64) out) (0+out.length-1)=true) (h3:false=true->out.length≠0):
  bS gZ ((fl uo []).drop 5) (jH a b out c k) 1 f133 false (lv out):=
 wy [vO (an (rr out.length) (an (show(out)=(((bP (.int .i64) (a8 3 (.int .i64) out)).drop (0:Nat)).take out.length)from(by simp only [eD]<;>exact h1)) (an h2 h3)))] 1
def oz:bI:={n:=35,sl:=[(0,lv a),(1,lv b),(5,mO 64 out),(6,iv c),(7,iv k)],bH:=[(64,mP out)],next:=65}
end
def afH (a b:List Int):
  c7 gZ (fl v7 []) 4 35 [lv a,lv b] 1 .normal [] (oz a b [] 0 0):=
 wy [] 0
section
variable (a b out:List Int) (c:Int) (k:Nat) (h1:(k:Int)<(a.length:Int)) (h2:k<a.length) (h3:(0:av.den (.int .i64))<=(k:Int)) (h4:i6 (a.getD k 0-bX b (k:Int))) (h5:i6 (a.getD k 0-bX b (k:Int)-c))
def afI (h6:¬a.getD k 0-bX b (k:Int)-c<0) (h7:out.length+1<=1000000) (h8:i6 ((k:Int)+1)) (h9:(out.length+1)=(out++[a.getD k 0-bX b (k:Int)-c]).length) (h10:(bh.full)=(bM (out++[a.getD k 0-bX b (k:Int)-c]).length)):
  bz gZ (fl v7 pP) (oz a b out c k) 9 .normal [(64,66,none)] (oz a b (out++[a.getD k 0-bX b k-c]) 0 (k+1)):=
 wy [ah h1,ah h2,aa (aD (v:=iv (a.getD k (0:Int)))),ah h3,yi h4,yi h5,aF h6,yk 3 (.int .i64) out,lT 8 h7,yi h8,ax h9,ax h10,ot 3 (.int .i64) (Eq.refl (out++[a.getD k (0:Int)-bX b (k:Int)-c]))] 1105921642492323382824927727698886533121
def afJ (h6:a.getD k 0-bX b (k:Int)-c<0) (h7:i6 (a.getD k 0-bX b (k:Int)-c+1000000000)) (h8:out.length+1<=1000000) (h9:i6 ((k:Int)+1)) (h10:(out.length+1)=(out++[a.getD k 0-bX b (k:Int)-c+1000000000]).length) (h11:(bh.full)=(bM (out++[a.getD k 0-bX b (k:Int)-c+1000000000]).length)):
  bz gZ (fl v7 pP) (oz a b out c k) 11 .normal [(64,66,none)] (oz a b (out++[a.getD k 0-bX b k-c+1000000000]) 1 (k+1)):=
 wy [ah h1,ah h2,aa (aD (v:=iv (a.getD k (0:Int)))),ah h3,yi h4,yi h5,ah h6,yi h7,yk 3 (.int .i64) out,lT 8 h8,yi h9,ax h10,ax h11,ot 3 (.int .i64) (Eq.refl (out++[a.getD k (0:Int)-bX b (k:Int)-c+(1000000000:Int)]))] 76223524083949719363713562717780016111617
end
def afK (a b out:List Int) (c:Int) (k:Nat) (h1:¬(k:Int)<(a.length:Int)):
  bz gZ (fl v7 pP) (oz a b out c k) 2 (.exit 0) [(64,64,none)] (oz a b out c k):=
 wy [aF h1] 1
def afL (a b out:List Int) (c:Int) (k:Nat) (h1:(Nat.beq out.length 0||bA 3 (.int .i64) (a8 3 (.int .i64) out) (out.length-1))=true) (h2:((out.drop 0).take out.length).length<=1000000):
  bS gZ ((fl v7 []).drop 5) (oz a b out c k) 1 f135 false (lv (er ((out.drop 0).take out.length))):=
 wy [aa (show(Nat.beq out.length (0:Nat)||bA 3 (.int .i64) (a8 3 (.int .i64) out) ((0:Nat)+out.length-(1:Nat)))=true from(by simp only [aw]<;>exact h1)),aa (show(decide ((((bP (.int .i64) (a8 3 (.int .i64) out)).drop (0:Nat)).take out.length).length<=(1000000:Nat)))=true from(by simp only [eD]<;>exact az h2)),ax (show(er (((bP (.int .i64) (a8 3 (.int .i64) out)).drop (0:Nat)).take out.length))=(er ((out.drop (0:Nat)).take out.length))from(by simp only [eD]<;>rfl))] 12417
abbrev Da:List Nat:=[1,1,0,1,0,0]
abbrev Gg:List Nat:=[1,1,0,1,0,0,1,0,0]
abbrev LN:List Nat:=[1,1,0,1,0,0,1,0,0,1,0,1,0,0]
def ml (a b out:List Int) (i:Nat):bI:={n:=72,sl:=[(0,lv a),(1,lv b),(5,mO 64 out),(6,iv i)],bH:=[(64,mP out)],next:=65}
def qU (a b out:List Int) (i:Nat) (c:Int) (j:Nat):bI:={n:=72,sl:=[(0,lv a),(1,lv b),(5,mO 64 out),(6,iv i),(7,iv c),(8,iv j)],bH:=[(64,mP out)],next:=65}
def gw (n:Nat):List Int:=List.replicate n 0
def afM (a b:List Int) (h1: -9223372036854775808<=(a.length:Int)+(b.length:Int)/\(a.length:Int)+(b.length:Int)<=9223372036854775807) (h2:((a.length:Int)+(b.length:Int)).toNat<=1000000) (h3:(((a.length:Int)+(b.length:Int)).toNat)=(gw (a.length+b.length)).length) (h4:(bh.known ((a.length:Int)+(b.length:Int)).toNat)=(bh.known (a.length+b.length))) (h5:(bM (gw (a.length+b.length)).length)=(bM (a.length+b.length))) (h6:(List.flatten (List.replicate ((a.length:Int)+(b.length:Int)).toNat (List.map af.raw (Array.toList #[Value.int .i64 (0:Int)]))))=(List.flatMap (fun x=>[iv x]) (gw (a.length+b.length)))) (h7:(a.length+b.length)=(gw (a.length+b.length)).length):
  aE.path (om prog gZ (fl lW []) 3 72 [lv a,lv b]) (dl 1) (ep prog 72 .normal [(64,64,some (a.length+b.length))] (ml a b (gw (a.length+b.length)) 0)):=
 mp (adz (eP h1) rt (oq rt (show(decide (((a.length:Int)+(b.length:Int)).toNat<=((a.length:Int)+(b.length:Int)).toNat))=true from az (by omega)) (show(bounded ((a.length:Int)+(b.length:Int)).toNat (8:Nat))=true from pL h2 (by omega)) (rr a) (rr b) (an h3 (an h4 h5)) (rr (0:Int)) (an h6 h7) trivial))
section
variable (a b out:List Int) (i:Nat)
def afN (h1:(i:Int)<(a.length:Int)):
  dV gZ (fl lW Da) 2 (ml a b out i) 3 .normal [(64,64,none)] (ml a b out i):=
 wy [ah h1] 1
def afO (h1:¬(i:Int)<(a.length:Int)):
  dV gZ (fl lW Da) 2 (ml a b out i) 2 (.exit 0) [(64,64,none)] (ml a b out i):=
 wy [aF h1] 1
def afP:
  dV gZ (fl lW Gg) 2 (ml a b out i) 1 .normal [(64,64,none)] (qU a b out i 0 0):=
 wy [] 0
def afQ (c:Int) (j:Nat) (h1:(j:Int)<(b.length:Int)) (h2:i6 ((i:Int)+(j:Int))) (h3:((i:Int)+(j:Int)).toNat<out.length) (h4:i<a.length) (h5:j<b.length) (h6:i6 (a.getD i 0*b.getD j 0)) (h7:i6 (out.getD ((i:Int)+(j:Int)).toNat 0+a.getD i 0*b.getD j 0)) (h8:i6 (out.getD ((i:Int)+(j:Int)).toNat 0+a.getD i 0*b.getD j 0+c)) (h9:i6 (Int.tdiv (out.getD ((i:Int)+(j:Int)).toNat 0+a.getD i 0*b.getD j 0+c) 1000000000)) (h10:i6 ((j:Int)+1)) (h11:out.length=(out.set ((i:Int)+(j:Int)).toNat (Int.tmod (out.getD ((i:Int)+(j:Int)).toNat 0+a.getD i 0*b.getD j 0+c) 1000000000)).length) (h12:(bM out.length)=(bM (out.set ((i:Int)+(j:Int)).toNat (Int.tmod (out.getD ((i:Int)+(j:Int)).toNat 0+a.getD i 0*b.getD j 0+c) 1000000000)).length)):
  bz gZ (fl lW LN) (qU a b out i c j) 3 .normal [(64,64,none)] (qU a b (out.set ((i:Int)+(j:Int)).toNat (Int.tmod (out.getD ((i:Int)+(j:Int)).toNat 0+a.getD i 0*b.getD j 0+c) 1000000000)) i (Int.tdiv (out.getD ((i:Int)+(j:Int)).toNat 0+a.getD i 0*b.getD j 0+c) 1000000000) (j+1)):=
 wy [ah h1,yi h2,ah h3,jl 3 (.int .i64) h3,aa (aD (v:=iv ((bP (.int .i64) (a8 3 (.int .i64) out)).getD ((0:Nat)+((i:Int)+(j:Int)).toNat) (0:Int)))),ah h4,aa (aD (v:=iv (a.getD i (0:Int)))),ah h5,aa (aD (v:=iv (b.getD j (0:Int)))),yi h6,aa (show(fits IntKind.i64 ((bP (.int .i64) (a8 3 (.int .i64) out)).getD ((0:Nat)+((i:Int)+(j:Int)).toNat) (0:Int)+a.getD i (0:Int)*b.getD j (0:Int)))=true from(by simp only [eD,aw]<;>exact eP h7)),aa (show(fits IntKind.i64 ((bP (.int .i64) (a8 3 (.int .i64) out)).getD ((0:Nat)+((i:Int)+(j:Int)).toNat) (0:Int)+a.getD i (0:Int)*b.getD j (0:Int)+c))=true from(by simp only [eD,aw]<;>exact eP h8)),aa (show(fits IntKind.i64 (Int.tdiv ((bP (.int .i64) (a8 3 (.int .i64) out)).getD ((0:Nat)+((i:Int)+(j:Int)).toNat) (0:Int)+a.getD i (0:Int)*b.getD j (0:Int)+c) (1000000000:Int)))=true from(by simp only [eD,aw]<;>exact eP h9)),yi h10,ax h11,ax h12,ax (show(Int.tdiv ((bP (.int .i64) (a8 3 (.int .i64) out)).getD ((0:Nat)+((i:Int)+(j:Int)).toNat) (0:Int)+a.getD i (0:Int)*b.getD j (0:Int)+c) (1000000000:Int))=(Int.tdiv (out.getD ((i:Int)+(j:Int)).toNat (0:Int)+a.getD i (0:Int)*b.getD j (0:Int)+c) (1000000000:Int))from(by simp only [eD,aw]<;>rfl)),pK prog 3 (.int .i64) (show((bP (.int .i64) (a8 3 (.int .i64) out)).set ((0:Nat)+((i:Int)+(j:Int)).toNat) (Int.tmod ((bP (.int .i64) (a8 3 (.int .i64) out)).getD ((0:Nat)+((i:Int)+(j:Int)).toNat) (0:Int)+a.getD i (0:Int)*b.getD j (0:Int)+c) (1000000000:Int)))=(out.set ((i:Int)+(j:Int)).toNat (Int.tmod (out.getD ((i:Int)+(j:Int)).toNat (0:Int)+a.getD i (0:Int)*b.getD j (0:Int)+c) (1000000000:Int)))from(by simp only [eD,aw]<;>rfl))] 113013889735155783555940953289561697649430070733285792415873
def afR (c:Int) (j:Nat) (h1:¬(j:Int)<(b.length:Int)):
  bz gZ (fl lW LN) (qU a b out i c j) 2 (.exit 2) [(64,64,none)] (qU a b out i c j):=
 wy [aF h1] 1
def afS (c:Int) (j:Nat) (h1:i6 ((i:Int)+(b.length:Int))) (h2:((i:Int)+(b.length:Int)).toNat<out.length) (h3:i6 (out.getD ((i:Int)+(b.length:Int)).toNat 0+c)) (h4:out.length=(out.set ((i:Int)+(b.length:Int)).toNat (out.getD ((i:Int)+(b.length:Int)).toNat 0+c)).length) (h5:(bM out.length)=(bM (out.set ((i:Int)+(b.length:Int)).toNat (out.getD ((i:Int)+(b.length:Int)).toNat 0+c)).length)):
  bz gZ ((fl lW Gg).drop 3) (qU a b out i c j) 1 .normal [(64,64,none)] (ml a b (out.set ((i:Int)+(b.length:Int)).toNat (out.getD ((i:Int)+(b.length:Int)).toNat 0+c)) i):=
 wy [yi h1,ah h2,jl 3 (.int .i64) h2,aa (show(fits IntKind.i64 ((bP (.int .i64) (a8 3 (.int .i64) out)).getD ((0:Nat)+((i:Int)+(b.length:Int)).toNat) (0:Int)+c))=true from(by simp only [eD,aw]<;>exact eP h3)),ax h4,ax h5,pK prog 3 (.int .i64) (show((bP (.int .i64) (a8 3 (.int .i64) out)).set ((0:Nat)+((i:Int)+(b.length:Int)).toNat) ((bP (.int .i64) (a8 3 (.int .i64) out)).getD ((0:Nat)+((i:Int)+(b.length:Int)).toNat) (0:Int)+c))=(out.set ((i:Int)+(b.length:Int)).toNat (out.getD ((i:Int)+(b.length:Int)).toNat (0:Int)+c))from(by simp only [eD,aw]<;>rfl))] 8667417275560351441650974785
def afT (h1:i6 ((i:Int)+1)):
  bz gZ ((fl lW Da).drop 3) (ml a b out i) 1 .normal [(64,64,none)] (ml a b out (i+1)):=
 wy [yi h1] 1
def afU (h1:(Nat.beq out.length 0||bA 3 (.int .i64) (a8 3 (.int .i64) out) (out.length-1))=true) (h2:((out.drop 0).take out.length).length<=1000000):
  bS gZ ((fl lW []).drop 4) (ml a b out i) 1 f136 false (lv (er ((out.drop 0).take out.length))):=
 wy [aa (show(Nat.beq out.length (0:Nat)||bA 3 (.int .i64) (a8 3 (.int .i64) out) ((0:Nat)+out.length-(1:Nat)))=true from(by simp only [aw]<;>exact h1)),aa (show(decide ((((bP (.int .i64) (a8 3 (.int .i64) out)).drop (0:Nat)).take out.length).length<=(1000000:Nat)))=true from(by simp only [eD]<;>exact az h2)),ax (show(er (((bP (.int .i64) (a8 3 (.int .i64) out)).drop (0:Nat)).take out.length))=(er ((out.drop (0:Nat)).take out.length))from(by simp only [eD]<;>rfl))] 12417
end
def r7 (a b:List Int):Bool:=okA a&&okA b
def Tq:=IN 133 [.list false (.int .i64), .list false (.int .i64)] [.list false (.int .i64)] false (fun d=>r7 d.1 d.2.1) fun d=>(aH (ag d.1+ag d.2.1),())
def Tr:=IN 135 [.list false (.int .i64), .list false (.int .i64)] [.list false (.int .i64)] false (fun d=>r7 d.1 d.2.1&&decide (ag d.2.1<=ag d.1)) fun d=>(aH (ag d.1-ag d.2.1),())
def LP:=IN 136 [.list false (.int .i64), .list false (.int .i64)] [.list false (.int .i64)] false (fun d=>okB d.1&&okB d.2.1) fun d=>(aH (ag d.1*ag d.2.1),())
def Gh:bD prog (bF gZ):=uj (fun c hc=>by
 simp only [ew,jU,or_false]at hc;obtain rfl:=hc;exact LD) (qJ aef)
def Db {a b:List Int}:r7 a b=true↔okA a=true/\okA b=true:=by unfold r7;rw [ae]
def LQ (a:List Int) (k:Nat):bX a (k:Int)=a.getD k 0:=by unfold bX;rw [Int.toNat_natCast]
def afV {b:Int} (hb:1<b) {l:List Int} (h:aS b l) (hg:∀k,l.length=k+1->b^k<=vl b l):fk l:=fun k hk h0=>by
 have h1:=hg k hk;have h2:vl b l=vl b (l.take k):=by
  have:=lU (b:=b) (show k<l.length by omega);rw [eZ (by omega),h0]at this;simpa using this
 have h3:=dC (show 0<b by omega) (h.take k);rw [eM,show min k l.length=k by omega]at h3;omega
structure v8 (a b out:List Int) (c:Int) (k:Nat):Prop where
 dg:aS 1000000000 out
 len:out.length=k
 nt:c=0\/c=1
 val:ag out+1000000000^k*c=ag (a.take k)+ag (b.take k)
 top:k<=max a.length b.length\/(k=max a.length b.length+1/\1000000000^max a.length b.length<=ag a+ag b)
def Gi (l:List Int) (k:Nat):ag (l.take (k+1))=ag (l.take k)+1000000000^k*l.getD k 0:=k3 l k
def AE {l:List Int} {k:Nat} (h:l.length<=k):ag (l.take k)=ag l:=by rw [eZ h]
def afW {a b:List Int} (ha:aS 1000000000 a) (hb:aS 1000000000 b):ag a+ag b<1000000000^(max a.length b.length+1):=by
 have h1:=dC (show(0:Int)<1000000000 by decide) ha;have h2:=dC (show(0:Int)<1000000000 by decide) hb;have h3:=iW (b:=1000000000) (by decide) (show a.length<=max a.length b.length by omega);have h4:=iW (b:=1000000000) (by decide) (show b.length<=max a.length b.length by omega);have h5:=dK (show(0:Int)<1000000000 by decide) (max a.length b.length);rw [Int.pow_succ];unfold ag;omega
def v8.next {a b out:List Int} {c:Int} {k:Nat} (h:v8 a b out c k) (ha:aS 1000000000 a) (hb:aS 1000000000 b) (hc:k<a.length\/k<b.length\/c>0):v8 a b (out++[(a.getD k 0+b.getD k 0+c)%1000000000]) ((a.getD k 0+b.getD k 0+c)/1000000000) (k+1)/\k<=max a.length b.length:=by
 have g1:=ha.get (by decide) k;have g2:=hb.get (by decide) k;have LR:=h.nt;obtain⟨s,hs⟩:∃s,a.getD k 0+b.getD k 0+c=s:=⟨_,rfl⟩;rw [hs];have hk:k<=max a.length b.length:=by
  rcases h.top with h1|⟨h1,h2⟩
  .exact h1
  .have h3:c>0:=by omega
   have h4:c=1:=by omega
   have h5:=h.val;rw [h4,AE (show a.length<=k by omega),AE (show b.length<=k by omega),h1]at h5;have h6:=afW ha hb;have h7:=gN h.dg;omega
 refine⟨⟨h.dg.app (.cons (by omega) .nil),by simp [h.len],by omega, ?_, ?_⟩,hk⟩
 .have e:ag (out++[s%1000000000])=ag out+1000000000^k*(s%1000000000):=by rw [<-h.len];exact x9 _ _ _
  rw [e,Gi,Gi,Int.pow_succ];exact Lr (by omega) h.val
 .by_cases hm:k<max a.length b.length
  .exact .inl (by omega)
  .refine .inr ⟨by omega, ?_⟩;have h4:c=1:=by omega
   have h5:=h.val;rw [h4,AE (show a.length<=k by omega),AE (show b.length<=k by omega)]at h5;have h7:=gN h.dg;have h8:k=max a.length b.length:=by omega
   rw [<-h8];omega
def v8.fin {a b out:List Int} {c:Int} {k:Nat} (h:v8 a b out c k) (ha:aS 1000000000 a) (hb:aS 1000000000 b) (ta:fk a) (tb:fk b) (h1:a.length<=k) (h2:b.length<=k) (h3:¬c>0):out=aH (ag a+ag b):=by
 have hc:c=0:=by have:=h.nt;omega
 have hv:ag out=ag a+ag b:=by
  have:=h.val;rw [hc,AE h1,AE h2]at this;simpa using this
 have na:=gN ha;have nb:=gN hb;refine r4 k4 h.dg (afV k4 h.dg fun j hj=> ?_) hv;show _<=ag out;rw [hv];have hl:=h.len;rcases h.top with h4|⟨h4,h5⟩
 .by_cases hla:a.length=j+1
  .have h6:(1000000000:Int)^j<=ag a:=ya (by decide) ha ta hla;omega
  .have h6:(1000000000:Int)^j<=ag b:=ya (by decide) hb tb (by omega);omega
 .have e:j=max a.length b.length:=by omega
  rw [e];exact h5
def afX (a b:List Int) (h:okA a=true) (g:okA b=true):Holds prog false 133 [lv a,lv b] (lv (aH (ag a+ag b))):=by
 obtain⟨ha,ta,la⟩:=fD.1 h;obtain⟨hb,tb,lb⟩:=fD.1 g;have hS:=Gh;refine bL (c:=uo) func133 rfl rfl fun w0 F=> ?_
 refine cR hS 4 (afB a b) ?_;refine aW.loop (ι:={s:List Int×Int×Nat//v8 a b s.1 s.2.1 s.2.2}) (id:=0) (b:=cat uo pP) (rest:=(fl uo []).drop 5) (by kernel_rfl) (fun s=>jH a b s.1.1 s.1.2.1 s.1.2.2) (fun s=>max a.length b.length+2-s.1.2.2) ⟨([],0,0), .nil,rfl, .inl rfl,by simp [ag,vl], .inl (Nat.zero_le _)⟩ (fun _=>rfl) ?_;rintro⟨⟨out,c,k⟩,hI⟩;have hI:v8 a b out c k:=hI;have g1:=ha.get (by decide) k;have g2:=hb.get (by decide) k;have LR:=hI.nt;have hlo:=hI.len;have hk0:(0:Int)<=(k:Int):=by omega
 have ea:=LQ a k;have eb:=LQ b k;by_cases hgo:k<a.length\/k<b.length\/c>0
 .obtain⟨hn,hk⟩:=hI.next ha hb hgo;have em:Int.tmod (a.getD k 0+b.getD k 0+c) 1000000000=(a.getD k 0+b.getD k 0+c)%1000000000:=Int.tmod_eq_emod_of_nonneg (by omega);have ed:Int.tdiv (a.getD k 0+b.getD k 0+c) 1000000000=(a.getD k 0+b.getD k 0+c)/1000000000:=Int.tdiv_eq_ediv_of_nonneg (by omega);have um:∃j:{s:List Int×Int×Nat//v8 a b s.1 s.2.1 s.2.2},max a.length b.length+2-j.1.2.2<max a.length b.length+2-k/\(jH a b (out++[Int.tmod (bX a k+bX b k+c) 1000000000]) (Int.tdiv (bX a k+bX b k+c) 1000000000) (k+1)).T=(jH a b j.1.1 j.1.2.1 j.1.2.2).T/\(jH a b (out++[Int.tmod (bX a k+bX b k+c) 1000000000]) (Int.tdiv (bX a k+bX b k+c) 1000000000) (k+1)).H=(jH a b j.1.1 j.1.2.1 j.1.2.2).H:=by
   rw [ea,eb,em,ed];exact⟨⟨(_,_,k+1),hn⟩,by show max a.length b.length+2-(k+1)<_;omega,rfl,rfl⟩
  have q1: -9223372036854775808<=bX a k+bX b k/\bX a k+bX b k<=9223372036854775807:=by rw [ea,eb];omega
  have aP: -9223372036854775808<=bX a k+bX b k+c/\bX a k+bX b k+c<=9223372036854775807:=by rw [ea,eb];omega
  have b8: -9223372036854775808<=Int.tdiv (bX a k+bX b k+c) 1000000000/\Int.tdiv (bX a k+bX b k+c) 1000000000<=9223372036854775807:=by rw [ea,eb,ed];omega
  by_cases h1:k<a.length
  .exact bC (s:=jH a b out c k) hS (afC a b out c k (by omega) hk0 q1 aP (by omega) b8 (by omega) (mf _ _) (uk _ _)) um
  .by_cases h2:k<b.length
   .exact bC (s:=jH a b out c k) hS (afD a b out c k (by omega) (by omega) hk0 q1 aP (by omega) b8 (by omega) (mf _ _) (uk _ _)) um
   .exact bC (s:=jH a b out c k) hS (afE a b out c k (by omega) (by omega) (by omega) hk0 q1 aP (by omega) b8 (by omega) (mf _ _) (uk _ _)) um
 .refine bC (s:=jH a b out c k) hS (afF a b out c k (by omega) (by omega) (by omega)) ?_;refine cI (cQ ?_);rw [<-hI.fin ha hb ta tb (by omega) (by omega) (by omega)];have ho:=AA 3 out;refine aW.rX (s:=jH a b out c k) known mixed hS _ (afG a b out c k (by simp) ?_ (fun h=>by cases h)) fun T H h=> ?_
  .by_cases hz:out.length=0
   .exact .inl hz
   .rw [Bool.or_eq_true]at ho;rw [aw];exact .inr (ho.resolve_left fun e=>hz (ac e))
  .exact h
def afY:Tq.Ok prog:=fun⟨a,b,_⟩ h=>by
 obtain⟨h1,h2⟩:=Db.1 h;exact afX a b h1 h2
structure LS (a b out:List Int) (c:Int) (k:Nat):Prop where
 dg:aS 1000000000 out
 len:out.length=k
 nt:c=0\/c=1
 val:ag out-1000000000^k*c=ag (a.take k)-ag (b.take k)
def afZ (a b:List Int) (h:okA a=true) (g:okA b=true) (hle:ag b<=ag a):Holds prog false 135 [lv a,lv b] (lv (aH (ag a-ag b))):=by
 obtain⟨ha,ta,la⟩:=fD.1 h;obtain⟨hb,tb,lb⟩:=fD.1 g;have hS:=Gh;refine bL (c:=v7) func135 rfl rfl fun w0 F=> ?_
 refine cR hS 4 (afH a b) ?_;refine aW.loop (ι:={s:List Int×Int×Nat//s.2.2<=a.length/\LS a b s.1 s.2.1 s.2.2}) (id:=0) (b:=cat v7 pP) (rest:=(fl v7 []).drop 5) (by kernel_rfl) (fun s=>oz a b s.1.1 s.1.2.1 s.1.2.2) (fun s=>a.length-s.1.2.2) ⟨([],0,0),Nat.zero_le _, .nil,rfl, .inl rfl,by simp [ag,vl]⟩ (fun _=>rfl) ?_;rintro⟨⟨out,c,k⟩,hk,hI⟩;have hk:k<=a.length:=hk;have hI:LS a b out c k:=hI;have g1:=ha.get (by decide) k;have g2:=hb.get (by decide) k;have LR:=hI.nt;have hlo:=hI.len;have hk0:(0:Int)<=(k:Int):=by omega
 have eb:=LQ b k;have hstep:∀d c':Int,0<=d/\d<1000000000->(c'=0\/c'=1)->d-1000000000*c'=a.getD k 0-b.getD k 0-c->LS a b (out++[d]) c' (k+1):=fun d c' hd tM he=>by
  refine⟨hI.dg.app (.cons hd .nil),by simp [hlo],tM, ?_⟩;have e:ag (out++[d])=ag out+1000000000^k*d:=by rw [<-hlo];exact x9 _ _ _
  rw [e,Gi,Gi,Int.pow_succ];exact SZ he hI.val
 by_cases hlt:k<a.length
 .by_cases hs:a.getD k 0-bX b k-c<0
  .refine bC (s:=oz a b out c k) hS (afJ a b out c k (by omega) hlt hk0 (by rw [eb];omega) (by rw [eb];omega) hs (by rw [eb];omega) (by omega) (by omega) (mf _ _) (uk _ _)) ?_;rw [eb]at hs ⊢;exact⟨⟨(_,1,k+1),hlt,hstep _ 1 (by omega) (.inr rfl) (by omega)⟩,by show a.length-(k+1)<a.length-k;omega,rfl,rfl⟩
  .refine bC (s:=oz a b out c k) hS (afI a b out c k (by omega) hlt hk0 (by rw [eb];omega) (by rw [eb];omega) hs (by omega) (by omega) (mf _ _) (uk _ _)) ?_;rw [eb]at hs ⊢;exact⟨⟨(_,0,k+1),hlt,hstep _ 0 (by omega) (.inl rfl) (by omega)⟩,by show a.length-(k+1)<a.length-k;omega,rfl,rfl⟩
 .refine bC (s:=oz a b out c k) hS (afK a b out c k (by omega)) ?_;refine cI (cQ ?_);obtain rfl:k=a.length:=by omega
  have hxl:ag a<1000000000^a.length:=dC (by decide) ha;have mD:ag (b.take a.length)=ag b:=CZ (by decide) hb (show ag b<_ by omega);have hv:ag out=ag a-ag b:=by
   have h1:=hI.val;have h2:ag out<1000000000^a.length:=by rw [<-hlo];exact dC (by decide) hI.dg
   rw [dR,mD]at h1;rcases LR with rfl |rfl
   .omega
   .omega
  have key:=afL a b out c a.length (AA _ out) (by rw [List.drop_zero,dR];omega);rw [List.drop_zero,dR,yf hI.dg,hv]at key;exact bY (s:=oz a b out c a.length) hS key
def af0:Tr.Ok prog:=fun⟨a,b,_⟩ h=>by
 have h:(r7 a b&&decide (ag b<=ag a))=true:=h;rw [ae]at h;obtain⟨h1,h2⟩:=Db.1 h.1;exact afZ a b h1 h2 (ap h.2)
def LU (n:Nat):aS 1000000000 (gw n):=aS.rep (by decide) n
def eI (n:Nat):(gw n).length=n:=List.length_replicate
def LV (n:Nat):(List.replicate n (List.map af.raw (Array.toList #[Value.int IntKind.i64 (0:Int)]))).flatten=(gw n).flatMap (fun x=>[af.raw (Value.int IntKind.i64 x)]):=by
 unfold gw;induction n with
 |zero=>rfl
 |succ n ih=>rw [List.replicate_succ,List.replicate_succ,List.flatten_cons,List.flatMap_cons,ih];rfl
def af1 {o x y c:Int} (ho:0<=o/\o<1000000000) (hx:0<=x/\x<1000000000) (hy:0<=y/\y<1000000000) (hc:0<=c/\c<1000000000):
  (0<=x*y/\x*y<=999999998000000001)/\Int.tmod (o+x*y+c) 1000000000+1000000000*Int.tdiv (o+x*y+c) 1000000000=x*y+o+c/\(0<=Int.tmod (o+x*y+c) 1000000000/\Int.tmod (o+x*y+c) 1000000000<1000000000)/\(0<=Int.tdiv (o+x*y+c) 1000000000/\Int.tdiv (o+x*y+c) 1000000000<1000000000):=by
 have h0:0<=x*y:=Int.mul_nonneg hx.1 hy.1;have h1:x*y<=999999999*999999999:=Int.mul_le_mul (by omega) (by omega) hy.1 (by decide);rw [Int.tmod_eq_emod_of_nonneg (by omega),Int.tdiv_eq_ediv_of_nonneg (by omega)];generalize x*y=p at*;omega
def af2 (x y:List Int) (h:okB x=true) (g:okB y=true):Holds prog false 136 [lv x,lv y] (lv (aH (ag x*ag y))):=by
 obtain⟨hx,lx⟩:=ow.1 h;obtain⟨hy,ly⟩:=ow.1 g;have hS:=Gh;have e1:((x.length:Int)+(y.length:Int)).toNat=x.length+y.length:=by omega
 refine bL (c:=lW) func136 rfl rfl fun w0 F=> ?_
 refine cR hS 3 (afM x y (by omega) (by omega) (by rw [eI,e1]) (by rw [e1]) (by rw [eI]) (by rw [e1];exact LV _) (by rw [eI])) ?_;refine aW.loop (ι:={s:List Int×Nat//s.2<=x.length/\s.1.length=x.length+y.length/\aS 1000000000 s.1/\ag s.1=ag (x.take s.2)*ag y/\∀k,s.2+y.length<=k->s.1.getD k 0=0}) (id:=0) (b:=cat lW Da) (rest:=(fl lW []).drop 4) (by kernel_rfl) (fun s=>ml x y s.1.1 s.1.2) (fun s=>x.length-s.1.2)
  ⟨(gw (x.length+y.length),0),Nat.zero_le _,eI _,LU _,by
    show vl _ (List.replicate _ 0)=vl _ (x.take 0)*_;rw [CX];simp [vl],fun k _=>by
    show(List.replicate _ (0:Int)).getD k 0=0;rw [ao,List.getElem?_replicate];split<;>rfl⟩ (fun _=>rfl) ?_
 rintro⟨⟨out,i⟩,hi,ho,iX,hval,hz⟩;have hi:i<=x.length:=hi;have ho:out.length=x.length+y.length:=ho;have iX:aS 1000000000 out:=iX;have hval:ag out=ag (x.take i)*ag y:=hval;have hz:∀k,i+y.length<=k->out.getD k 0=0:=hz;by_cases hlt:i<x.length
 .have vY:=hx.get (by decide) i;refine dP (s:=ml x y out i) hS 2 (afN x y out i (by omega)) ?_;refine FP (id:=1) (c:=cat lW Gg) (rest:=(fl lW Da).drop 3) (by kernel_rfl) ?_;refine dP (s:=ml x y out i) hS 2 (afP x y out i) ?_;refine aW.loop (ι:={s:List Int×Int×Nat//s.2.2<=y.length/\s.1.length=x.length+y.length/\aS 1000000000 s.1/\(0<=s.2.1/\s.2.1<1000000000)/\ag s.1+1000000000^(i+s.2.2)*s.2.1=ag out+1000000000^i*(x.getD i 0*ag (y.take s.2.2))/\∀k,i+y.length<=k->s.1.getD k 0=0}) (id:=2) (b:=cat lW LN) (rest:=(fl lW Gg).drop 3) (by kernel_rfl) (fun s=>qU x y s.1.1 i s.1.2.1 s.1.2.2) (fun s=>y.length-s.1.2.2)
   ⟨(out,0,0),Nat.zero_le _,ho,iX,⟨Int.le_refl 0,show(0:Int)<1000000000 by decide⟩,by simp [ag,vl],hz⟩ (fun _=>rfl) ?_
  rintro⟨⟨cZ,c,j⟩,hj,nD,qT,hc,hinv,nE⟩;have hj:j<=y.length:=hj;have nD:cZ.length=x.length+y.length:=nD;have qT:aS 1000000000 cZ:=qT;have hc:0<=c/\c<1000000000:=hc;have hinv:ag cZ+1000000000^(i+j)*c=ag out+1000000000^i*(x.getD i 0*ag (y.take j)):=hinv;have nE:∀k,i+y.length<=k->cZ.getD k 0=0:=nE;have e2:((i:Int)+(j:Int)).toNat=i+j:=by omega
  have e3:((i:Int)+(y.length:Int)).toNat=i+y.length:=by omega
  by_cases hlj:j<y.length
  .have Gf:=hy.get (by decide) j;have zY:=qT.get (by decide) (i+j);obtain⟨g0,g1,g2,g3⟩:=af1 zY vY Gf hc;have key:=afQ x y cZ i c j (by omega) (by omega) (by omega) hlt hlj (by omega);rw [e2]at key;refine bC (s:=qU x y cZ i c j) (s':=qU x y (cZ.set (i+j) (Int.tmod (cZ.getD (i+j) 0+x.getD i 0*y.getD j 0+c) 1000000000)) i (Int.tdiv (cZ.getD (i+j) 0+x.getD i 0*y.getD j 0+c) 1000000000) (j+1)) hS (key (by omega) (by omega) (by omega) (by omega) (by rw [b9]) (by rw [b9])) ?_;refine⟨⟨(cZ.set (i+j) (Int.tmod (cZ.getD (i+j) 0+x.getD i 0*y.getD j 0+c) 1000000000),Int.tdiv (cZ.getD (i+j) 0+x.getD i 0*y.getD j 0+c) 1000000000,j+1),hlj,by rw [b9];exact nD,qT.set g2,g3, ?_,fun k hk=> ?_⟩,by show y.length-(j+1)<y.length-j;omega,rfl,rfl⟩
   .show vl 1000000000 (cZ.set (i+j) (Int.tmod (cZ.getD (i+j) 0+x.getD i 0*y.getD j 0+c) 1000000000))+1000000000^(i+(j+1))*Int.tdiv (cZ.getD (i+j) 0+x.getD i 0*y.getD j 0+c) 1000000000=vl 1000000000 out+1000000000^i*(x.getD i 0*vl 1000000000 (y.take (j+1)));rw [qL _ _ _ _ (by omega),<-Nat.add_assoc,Int.pow_succ,k3,Int.mul_add,Int.mul_add];have:=Tp (W:=0) g1 hinv;unfold ag at this;rw [this,Int.add_assoc,Int.pow_add];congr 2;rw [Int.mul_assoc,Int.mul_left_comm (x.getD i 0)]
   .show(cZ.set (i+j) _).getD k 0=0;rw [ao,List.getElem?_set_ne (by omega),<-ao];exact nE k hk
  .refine bC (s:=qU x y cZ i c j) hS (afR x y cZ i c j (by omega)) ?_;refine cI (cQ ?_);obtain rfl:j=y.length:=by omega
   have hk0:=nE (i+y.length) (aK _);have key:=afS x y cZ i c y.length (by omega) (by omega);rw [e3,hk0,Int.zero_add]at key;refine bC (s:=qU x y cZ i c y.length) (s':=ml x y (cZ.set (i+y.length) c) i) hS (key (by omega) (by rw [b9]) (by rw [b9])) ?_;refine bC (s:=ml x y (cZ.set (i+y.length) c) i) hS (afT x y (cZ.set (i+y.length) c) i (by omega)) ?_;refine⟨⟨(cZ.set (i+y.length) c,i+1),hlt,by rw [b9];exact nD,qT.set hc, ?_,fun k hk=> ?_⟩,by show x.length-(i+1)<x.length-i;omega,rfl,rfl⟩
   .show vl _ (cZ.set (i+y.length) c)=vl _ (x.take (i+1))*_;rw [qL _ _ _ _ (by omega),hk0,Int.sub_zero,k3,Int.add_mul,Int.mul_assoc];rw [dR,hval]at hinv;exact hinv
   .show(cZ.set (i+y.length) c).getD k 0=0;rw [ao,List.getElem?_set_ne (by omega),<-ao];exact nE k (by omega)
 .refine dP (s:=ml x y out i) hS 2 (afO x y out i (by omega)) ?_;refine cI (cI (cQ ?_));obtain rfl:i=x.length:=by omega
  rw [dR]at hval;have key:=afU x y out x.length (AA _ out) (by rw [List.drop_zero,dR];omega);rw [List.drop_zero,dR,yf iX,hval]at key;exact bY (s:=ml x y out x.length) hS key
def Ts:LP.Ok prog:=fun⟨a,b,_⟩ h=>by
 have h:(okB a&&okB b)=true:=h;rw [ae]at h;exact af2 a b h.1 h.2
end
abbrev aC:=Int×List Int
def aj (a:aC):Int:=if a.2=[]then a.1 else a.1*ak a.2
noncomputable def bf (z:Int):Int×List Int:=if-9223372036854775807<=z/\z<=9223372036854775807 then(z,[])else(if z<0 then-1 else 1,cV 18446744073709551616 z.natAbs)
def ii (z:Int):Bool:=decide (-9223372036854775808<=z)&&decide (z<=9223372036854775807)
def iF (a:aC):Bool:=List.isEmpty (α:=Int) a.2
def aZ (n:Nat) (a:aC):Bool:=match a.2 with
 |[]=>ii a.1
 |x::l=>(a.1==1||a.1== -1)&&(gY (x::l)&&(jG (x::l)&&(decide (9223372036854775807<ak (x::l))&&decide ((x::l).length<=n))))
def ay (a:aC):Bool:=aZ 100000 a
def cr (n:Int):Int:=n.natAbs
def aA (a:aC):List Int:=if a.2=[]then(if a.1=0 then []else [cr a.1])else a.2
def b5 (a:aC):Bool:=decide (a.1<0)
noncomputable def cw (a b:aC):Int×List Int:=if iF a&&(iF b&&ii (a.1+b.1))then(a.1+b.1,[])else bf (aj a+aj b)
noncomputable def ba (a b:aC):Int×List Int:=bf (aj a*aj b)
noncomputable def e8 (a:aC):Int×List Int:=bf (-aj a)
noncomputable def pQ (a:aC):Int×List Int:=bf (aj a).natAbs
noncomputable def cA (a b:aC):Int×List Int:=cw a (e8 b)
def jI (z:Int):Int:=if z<0 then-1 else if z=0 then 0 else 1
def gP (a:aC):Int:=jI (aj a)
def fp (a b:aC):Int:=jI (aj a-aj b)
def LW {x:Int} (h:0<=x/\x<18446744073709551616):aS 18446744073709551616 [x]:= .cons h .nil
def Tt {x:Int} (h:x≠0):fk [x]:=fk.cons .nil fun _=>h
def AF (x:Int):ak [x]=x:=rZ _ _
def qV {z:Int}:ii z=true↔ -9223372036854775808<=z/\z<=9223372036854775807:=by
 unfold ii;rw [ae,bE,bE]
def dr {a:aC}:iF a=true↔a.2=[]:=by unfold iF;exact List.isEmpty_iff
def r8 {a:aC}:iF a=false↔a.2≠[]:=by
 constructor
 .intro h e;rw [dr.2 e]at h;cases h
 .intro h;cases hs:iF a with
  |false=>rfl
  |true=>exact absurd (dr.1 hs) h
def lX {a:aC} (h:a.2=[]):aj a=a.1:=by unfold aj;rw [if_pos h]
section
variable {n:Nat} {a:aC}
def oA (h:a.2=[]):aZ n a=ii a.1:=by unfold aZ;rw [h]
def r9 (h:a.2≠[]):aZ n a=true↔(a.1=1\/a.1= -1)/\aS 18446744073709551616 a.2/\fk a.2/\9223372036854775807<ak a.2/\a.2.length<=n:=by
 obtain⟨s,w⟩:=a;cases w with
 |nil=>exact absurd rfl h
 |cons x l=>
  unfold aZ;simp only [ae,Bool.or_eq_true,bE,fW,ij,gd]
def kC (h:aZ n a=true):aS 18446744073709551616 (aA a)/\fk (aA a)/\ak (aA a)=(aj a).natAbs/\(b5 a=true↔aj a<0)/\(aA a).length<=max n 1:=by
 by_cases hs:a.2=[]
 .rw [oA hs]at h;have h:=qV.1 h;have hv:=lX hs;have hn:b5 a=true↔aj a<0:=by unfold b5;rw [hv,bE]
  unfold aA;rw [if_pos hs,hv];by_cases h0:a.1=0
  .rw [if_pos h0,h0];exact⟨.nil, .nil,rfl,by rw [<-hv]at h0;rw [hn,h0],by simp⟩
  .rw [if_neg h0];refine⟨LW (by unfold cr;omega),Tt (by unfold cr;omega),by rw [AF];rfl,by rw [hn,hv],by simp;omega⟩
 .obtain⟨h1,h2,h3,h4,h5⟩:=(r9 hs).1 h;unfold aA b5;rw [if_neg hs];have hv:aj a=a.1*ak a.2:=by unfold aj;rw [if_neg hs]
  refine⟨h2,h3, ?_, ?_,by omega⟩
  .rw [hv];rcases h1 with h1|h1<;>rw [h1]<;>omega
  .rw [hv,bE];rcases h1 with h1|h1<;>rw [h1]<;>omega
def iY (h:aZ n a=true) (hn:1<=n):((aj a).natAbs:Int)<18446744073709551616^n:=by
 obtain⟨h1,_,h3,_,h5⟩:=kC h;have h6:=dC (b:=18446744073709551616) (by decide) h1;have h7:=iW (b:=18446744073709551616) (by decide) (show(aA a).length<=n by omega);unfold ak at h3;omega
end
def yj {b z:Int} {n:Nat} (hb:1<b) (h0:0<=z) (h:z<b^n):(cV b z).length<=n:=by
 obtain⟨h1,h2,h3⟩:=qM hb h0;cases hl:(cV b z).length with
 |zero=>omega
 |succ k=>
  have h4:=ya (by omega) h1 h2 hl;rw [h3]at h4;by_cases hk:k+1<=n
  .exact hk
  .have:=iW (show 1<=b by omega) (show n<=k by omega);omega
def LX {b:Int} (hb:1<b):cV b 0=[]:=(r4 hb .nil .nil rfl).symm
def AG {b z:Int} (hb:1<b) (h:0<z):cV b z≠[]:=fun e=>by
 obtain⟨_,_,h3⟩:=qM hb (ct h);rw [e]at h3;simp [vl]at h3;omega
def jJ {n:Nat} {z:Int} (h:(z.natAbs:Int)<18446744073709551616^n):aZ n (bf z)=true/\aj (bf z)=z:=by
 unfold bf;split
 .rename_i hz;exact⟨by rw [oA rfl];exact qV.2 ⟨by omega,hz.2⟩,lX rfl⟩
 .rename_i hz;have h0:0<(z.natAbs:Int):=by omega
  obtain⟨h1,h2,h3⟩:=qM (b:=18446744073709551616) (by decide) (ct h0);have hne:=AG (b:=18446744073709551616) (by decide) h0;refine⟨(r9 hne).2 ⟨?_,h1,h2, ?_,yj (by decide) (ct h0) h⟩, ?_⟩
  .show(if z<0 then(-1:Int)else 1)=1\/_;split
   .exact .inr rfl
   .exact .inl rfl
  .show 9223372036854775807<vl _ _;rw [h3];omega
  .unfold aj;rw [if_neg hne];show(if z<0 then(-1:Int)else 1)*vl _ _=z;rw [h3];split<;>omega
def val_mk (z:Int):aj (bf z)=z:=by
 have:(z.natAbs:Int)<18446744073709551616^(z.natAbs+1):=by
  have:∀n:Nat,(n:Int)<18446744073709551616^(n+1):=fun n=>by
   induction n with
   |zero=>decide
   |succ n ih=>rw [Int.pow_succ];omega
  exact this _
 exact(jJ this).2
def Gj {n:Nat} {a:aC} (h:aZ n a=true) (hv:aj a≠ -9223372036854775808):a=bf (aj a):=by
 obtain⟨s,w⟩:=a;by_cases hs:w=[]
 .subst hs;have h:ii s=true:=h;have h:=qV.1 h;have hv:s≠ -9223372036854775808:=hv;show(s,[])=bf s;unfold bf;rw [if_pos ⟨by omega,h.2⟩]
 .obtain⟨h1,h2,h3,h4,h5⟩:=(r9 (a:=(s,w)) hs).1 h;have e:aj (s,w)=s*ak w:=by unfold aj;rw [if_neg hs]
  rw [e]at hv ⊢;have h1:s=1\/s= -1:=h1;have h4:9223372036854775807<ak w:=h4;have hd:w=cV 18446744073709551616 (ak w):=r4 (by decide) h2 h3 rfl;unfold bf;rcases h1 with rfl |rfl
  .rw [if_neg (by omega),if_neg (by omega),show((1*ak w).natAbs:Int)=ak w by omega,<-hd]
  .rw [if_neg (by omega),if_pos (by omega),show((-1*ak w).natAbs:Int)=ak w by omega,<-hd]
def sg (a b:aC):aj (cw a b)=aj a+aj b:=by
 unfold cw;split
 .rename_i h;simp only [ae]at h;rw [lX rfl,lX (dr.1 h.1),lX (dr.1 h.2.1)]
 .exact val_mk _
def uq {n:Nat} {a b:aC} (h:((aj a+aj b).natAbs:Int)<18446744073709551616^n):aZ n (cw a b)=true:=by
 unfold cw;split
 .rename_i h;simp only [ae]at h;rw [oA rfl];exact h.2.2
 .exact(jJ h).1
def LY {z:Int} (h:0<z):jI z=1:=by unfold jI;rw [if_neg (by omega),if_neg (by omega)]
def Gk {z:Int} (h:z<0):jI z= -1:=by unfold jI;rw [if_pos h]
def af3:jI 0=0:=by decide
end Go.Proofs.YtibikmmdbdlafaaGreatDoor
