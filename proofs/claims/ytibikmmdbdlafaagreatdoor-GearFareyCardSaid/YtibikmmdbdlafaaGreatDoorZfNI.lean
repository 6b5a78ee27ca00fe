import Derived.Shelf.Small.Bits
import Derived.Shelf.Small.Wraps
import Derived.Shelf.Strconv.Atoi
import Derived.Shelf.Strconv.Itoa3
import Derived.Shelf.Strings.Shaped
import Derived.Shelf.Sort.Plain
import Derived.Shelf.Strings.Repeat
import Derived.Shelf.Slices.Turned
import Derived.Shelf.Slices.Clone
import Derived.Shelf.Slices.SearchI
import Derived.Shelf.Slices.Cells
import Derived.Shelf.Slices.In.SortNone
import Derived.Test.YtibikmmdbdlafaaGreatDoorZfVNc
set_option linter.defProp false
set_option linter.unusedSimpArgs false
set_option linter.unusedVariables false
namespace Go.Proofs
open Go.Shelf
set_option maxRecDepth 100000
def Tryz.kR{α:Type}{a:Option α}{x y:α}(h:a=some x)(g:x=y:=by kernel_rfl):a=some y:=h.trans (congrArg some g)
def Tryz.ae3:Go.Shelf.Ren:=⟨fun |134=>224|129=>201|n=>n,fun |53=>167|3=>3|4=>4|46=>181|5=>5|9=>9|n=>n,fun |n=>n⟩
def Tryz.ae4:Go.Proofs.Lays.n134 Tryz.prog Tryz.ae3:=⟨by kernel_rfl,kR func201,kR func224,underlying3,isAgg3,sizeOf3,zeroValue3,underlying4,isAgg4,sizeOf4,zeroValue4,underlying5,isAgg5,sizeOf5,zeroValue5,underlying9,isAgg9,sizeOf9,zeroValue9,underlying181,isAgg181,sizeOf181,zeroValue181,underlying167,isAgg167,sizeOf167,zeroValue167⟩
def Tryz.bits_LeadingZeros64 (x:Int) (w:World) (h0:0<=x) (h1:x<=18446744073709551615):
  Calls Tryz.prog 224 #[.int .u64 x] w fun e w'=>e= .returned (.int .i64 (64-(Lib.bitLen x.toNat:Int)))/\w'=w:=Any.bits_LeadingZeros64 Tryz.ae4 x w h0 h1
def Tryz.auc:Go.Shelf.Ren:=⟨fun |210=>168|206=>218|n=>n,fun |9=>9|4=>4|3=>3|n=>n,fun |n=>n⟩
def Tryz.ae5:Go.Shelf.Ren:=⟨fun |172=>174|244=>220|245=>221|247=>244|279=>245|280=>246|281=>247|282=>248|287=>261|316=>262|171=>177|205=>263|321=>269|322=>270|243=>222|246=>249|283=>250|284=>251|285=>252|286=>253|129=>201|317=>264|318=>265|319=>266|320=>267|337=>271|338=>272|n=>n,fun |9=>9|3=>3|75=>195|76=>196|4=>4|5=>5|167=>253|37=>205|0=>0|85=>254|2=>2|168=>256|53=>167|175=>273|46=>181|210=>277|127=>242|145=>286|143=>284|21=>21|171=>260|173=>262|212=>280|51=>223|20=>20|213=>281|232=>287|233=>288|80=>160|n=>n,fun |15=>3|16=>4|17=>5|18=>6|19=>7|n=>n⟩
def Tryz.ae6:Go.Proofs.Lays.n172 Tryz.prog Tryz.ae5:=⟨by kernel_rfl,kR func201,kR func177,kR func174,kR func263,kR func222,kR func220,kR func221,kR func249,kR func244,kR func245,kR func246,kR func247,kR func248,kR func250,kR func251,kR func252,kR func253,kR func261,kR func262,kR func264,kR func265,kR func266,kR func267,kR func269,kR func270,kR func271,kR func272,underlying0,isAgg0,sizeOf0,zeroValue0,underlying2,isAgg2,sizeOf2,zeroValue2,underlying3,isAgg3,sizeOf3,zeroValue3,underlying4,isAgg4,sizeOf4,zeroValue4,underlying5,isAgg5,sizeOf5,zeroValue5,underlying9,isAgg9,sizeOf9,zeroValue9,underlying20,isAgg20,sizeOf20,zeroValue20,underlying21,isAgg21,sizeOf21,zeroValue21,underlying205,isAgg205,sizeOf205,zeroValue205,underlying181,isAgg181,sizeOf181,zeroValue181,underlying223,isAgg223,sizeOf223,zeroValue223,underlying167,isAgg167,sizeOf167,zeroValue167,underlying195,isAgg195,sizeOf195,zeroValue195,underlying196,isAgg196,sizeOf196,zeroValue196,underlying254,isAgg254,sizeOf254,zeroValue254,underlying242,isAgg242,sizeOf242,zeroValue242,underlying284,isAgg284,sizeOf284,zeroValue284,underlying286,isAgg286,sizeOf286,zeroValue286,underlying253,isAgg253,sizeOf253,zeroValue253,underlying256,isAgg256,sizeOf256,zeroValue256,underlying260,isAgg260,sizeOf260,zeroValue260,underlying262,isAgg262,sizeOf262,zeroValue262,underlying273,isAgg273,sizeOf273,zeroValue273,underlying277,isAgg277,sizeOf277,zeroValue277,underlying280,isAgg280,sizeOf280,zeroValue280,underlying281,isAgg281,sizeOf281,underlying287,isAgg287,sizeOf287,zeroValue287,underlying288,isAgg288,sizeOf288,zeroValue288,by kernel_rfl,by kernel_rfl,by kernel_rfl,by kernel_rfl,by kernel_rfl⟩
open Go.RowKit in
def Tryz.strconv_Atoi (s:ByteArray) (n:Int) (hl:s.size<=18) (h:Lib.atoi s.data.toList=some n) (w:World):
  Calls Tryz.prog 174 #[.string s] w fun e w'=>e= .returned (.tuple #[.int .i64 n, .nilIface])/\∃t,w'=Lib.bytesWorld w 5 t:=Any.strconv_Atoi Tryz.ae6 s n hl h w
def Tryz.ae7:Go.Shelf.Ren:=⟨fun |283=>250|n=>n,fun |3=>3|9=>9|4=>4|n=>n,fun |n=>n⟩
def Tryz.ae8:Go.Proofs.Lays.n283 Tryz.prog Tryz.ae7:=⟨by kernel_rfl,kR func250,underlying3,isAgg3,sizeOf3,zeroValue3,underlying4,isAgg4,sizeOf4,zeroValue4,underlying9,isAgg9,sizeOf9,zeroValue9⟩
open Go.Lib in
def Tryz.internal_strconv_small (i:Nat) (h:i<100) (w:World):
  Calls Tryz.prog 250 #[.int .i64 i] w fun e w'=>e= .returned (.string ⟨(Lib.decDigits i).toArray⟩)/\w'=w:=Any.internal_strconv_small Tryz.ae8 i h w
def Tryz.ae9:Go.Shelf.Ren:=⟨fun |284=>251|129=>201|317=>264|318=>265|n=>n,fun |53=>167|3=>3|212=>280|0=>0|4=>4|46=>181|5=>5|9=>9|n=>n,fun |17=>5|n=>n⟩
def Tryz.afa:Go.Proofs.LaysM.n284 Tryz.prog Tryz.ae9:={
 mixed:=by kernel_rfl
 f129:=Tryz.func201.trans (congrArg some (by kernel_rfl))
 f284:=Tryz.func251.trans (congrArg some (by kernel_rfl))
 f317:=Tryz.func264.trans (congrArg some (by kernel_rfl))
 f318:=Tryz.func265.trans (congrArg some (by kernel_rfl))
 t0:=Tryz.underlying0
 a0:=Tryz.isAgg0
 z0:=Tryz.sizeOf0
 v0:=Tryz.zeroValue0
 t3:=Tryz.underlying3
 a3:=Tryz.isAgg3
 z3:=Tryz.sizeOf3
 v3:=Tryz.zeroValue3
 t4:=Tryz.underlying4
 a4:=Tryz.isAgg4
 z4:=Tryz.sizeOf4
 v4:=Tryz.zeroValue4
 t5:=Tryz.underlying5
 a5:=Tryz.isAgg5
 z5:=Tryz.sizeOf5
 v5:=Tryz.zeroValue5
 t9:=Tryz.underlying9
 a9:=Tryz.isAgg9
 z9:=Tryz.sizeOf9
 v9:=Tryz.zeroValue9
 t46:=Tryz.underlying181
 a46:=Tryz.isAgg181
 z46:=Tryz.sizeOf181
 v46:=Tryz.zeroValue181
 t53:=Tryz.underlying167
 a53:=Tryz.isAgg167
 z53:=Tryz.sizeOf167
 v53:=Tryz.zeroValue167
 t212:=Tryz.underlying280
 a212:=Tryz.isAgg280
 z212:=Tryz.sizeOf280
 v212:=Tryz.zeroValue280
 g17:=by kernel_rfl
 i0:=by kernel_rfl
 i3:=by kernel_rfl
 i4:=by kernel_rfl
 i5:=by kernel_rfl
 i9:=by kernel_rfl
 i46:=by kernel_rfl
 i53:=by kernel_rfl
 i212:=by kernel_rfl
 m17:=by kernel_rfl}
open Go.Lib in
def Tryz.internal_strconv_numDigits (u:Nat) (h1:1<=u) (h2:u<18446744073709551616) (w:World) (htab:Lib.TabIs Tryz.prog w "internal/strconv.uint64pow10" .u64 Lib.pow10Tab):
  Calls Tryz.prog 251 #[.int .u64 u] w fun e w'=>e= .returned (.int .i64 (Lib.nDigits u))/\w'=w:=Any.internal_strconv_numDigits Tryz.afa u h1 h2 w htab
def Tryz.afb:Go.Shelf.Ren:=⟨fun |285=>252|n=>n,fun |37=>205|53=>167|3=>3|4=>4|51=>223|9=>9|5=>5|0=>0|n=>n,fun |n=>n⟩
def Tryz.afc:Go.Proofs.Lays.n285 Tryz.prog Tryz.afb:=⟨by kernel_rfl,kR func252,underlying0,isAgg0,sizeOf0,zeroValue0,underlying3,isAgg3,sizeOf3,zeroValue3,underlying4,isAgg4,sizeOf4,zeroValue4,underlying5,isAgg5,sizeOf5,zeroValue5,underlying9,isAgg9,sizeOf9,zeroValue9,underlying205,isAgg205,sizeOf205,zeroValue205,underlying223,isAgg223,sizeOf223,zeroValue223,underlying167,isAgg167,sizeOf167,zeroValue167⟩
open Go.RowKit Go.Sort Go.Lib in
def Tryz.internal_strconv_formatBase10 (blk off cap:Nat) (u:Nat) (d:Array UInt8) (w:World) (hH:Holds (fun(b:UInt8)=>Value.int .u8 (b.toNat:Int)) w blk off d) (hu:u<10^d.size) (hu64:u<18446744073709551616) (hsz:d.size<4611686018427387904):
  Calls Tryz.prog 252 #[.slice (some ⟨blk,off,none⟩) d.size cap, .int .u64 u] w fun e w'=>
   e= .returned (.tuple #[])/\∃(n v':Nat) (dk:Array UInt8),w'=(putRow (fun(b:UInt8)=>Value.int .u8 (b.toNat:Int)) w blk off dk).drewN n/\FmtInv d.size u 0 v' dk:=Any.internal_strconv_formatBase10 Tryz.afc blk off cap u d w hH hu hu64 hsz
def Tryz.aud:Go.Shelf.Ren:=⟨fun |246=>249|283=>250|284=>251|285=>252|286=>253|129=>201|317=>264|318=>265|319=>266|320=>267|337=>271|338=>272|n=>n,fun |2=>2|3=>3|9=>9|4=>4|171=>260|0=>0|53=>167|37=>205|5=>5|173=>262|212=>280|51=>223|20=>20|213=>281|46=>181|232=>287|233=>288|n=>n,fun |17=>5|18=>6|19=>7|n=>n⟩
def Tryz.aue:Go.Shelf.Ren:=⟨fun |243=>222|246=>249|283=>250|284=>251|285=>252|286=>253|129=>201|317=>264|318=>265|319=>266|320=>267|337=>271|338=>272|n=>n,fun |3=>3|9=>9|2=>2|4=>4|171=>260|0=>0|53=>167|37=>205|5=>5|173=>262|212=>280|51=>223|20=>20|213=>281|46=>181|232=>287|233=>288|n=>n,fun |17=>5|18=>6|19=>7|n=>n⟩
def Tryz.afd:Go.Shelf.Ren:=⟨fun |171=>177|243=>222|246=>249|283=>250|284=>251|285=>252|286=>253|129=>201|317=>264|318=>265|319=>266|320=>267|337=>271|338=>272|n=>n,fun |3=>3|9=>9|2=>2|4=>4|171=>260|0=>0|53=>167|37=>205|5=>5|173=>262|212=>280|51=>223|20=>20|213=>281|46=>181|232=>287|233=>288|n=>n,fun |17=>5|18=>6|19=>7|n=>n⟩
def Tryz.afe:Go.Proofs.LaysM.n171 Tryz.prog Tryz.afd:={
 mixed:=by kernel_rfl
 f129:=Tryz.func201.trans (congrArg some (by kernel_rfl))
 f171:=Tryz.func177.trans (congrArg some (by kernel_rfl))
 f243:=Tryz.func222.trans (congrArg some (by kernel_rfl))
 f246:=Tryz.func249.trans (congrArg some (by kernel_rfl))
 f283:=Tryz.func250.trans (congrArg some (by kernel_rfl))
 f284:=Tryz.func251.trans (congrArg some (by kernel_rfl))
 f285:=Tryz.func252.trans (congrArg some (by kernel_rfl))
 f286:=Tryz.func253.trans (congrArg some (by kernel_rfl))
 f317:=Tryz.func264.trans (congrArg some (by kernel_rfl))
 f318:=Tryz.func265.trans (congrArg some (by kernel_rfl))
 f319:=Tryz.func266.trans (congrArg some (by kernel_rfl))
 f320:=Tryz.func267.trans (congrArg some (by kernel_rfl))
 f337:=Tryz.func271.trans (congrArg some (by kernel_rfl))
 f338:=Tryz.func272.trans (congrArg some (by kernel_rfl))
 t0:=Tryz.underlying0
 a0:=Tryz.isAgg0
 z0:=Tryz.sizeOf0
 v0:=Tryz.zeroValue0
 t2:=Tryz.underlying2
 a2:=Tryz.isAgg2
 z2:=Tryz.sizeOf2
 v2:=Tryz.zeroValue2
 t3:=Tryz.underlying3
 a3:=Tryz.isAgg3
 z3:=Tryz.sizeOf3
 v3:=Tryz.zeroValue3
 t4:=Tryz.underlying4
 a4:=Tryz.isAgg4
 z4:=Tryz.sizeOf4
 v4:=Tryz.zeroValue4
 t5:=Tryz.underlying5
 a5:=Tryz.isAgg5
 z5:=Tryz.sizeOf5
 v5:=Tryz.zeroValue5
 t9:=Tryz.underlying9
 a9:=Tryz.isAgg9
 z9:=Tryz.sizeOf9
 v9:=Tryz.zeroValue9
 t20:=Tryz.underlying20
 a20:=Tryz.isAgg20
 z20:=Tryz.sizeOf20
 v20:=Tryz.zeroValue20
 t37:=Tryz.underlying205
 a37:=Tryz.isAgg205
 z37:=Tryz.sizeOf205
 v37:=Tryz.zeroValue205
 t46:=Tryz.underlying181
 a46:=Tryz.isAgg181
 z46:=Tryz.sizeOf181
 v46:=Tryz.zeroValue181
 t51:=Tryz.underlying223
 a51:=Tryz.isAgg223
 z51:=Tryz.sizeOf223
 v51:=Tryz.zeroValue223
 t53:=Tryz.underlying167
 a53:=Tryz.isAgg167
 z53:=Tryz.sizeOf167
 v53:=Tryz.zeroValue167
 t171:=Tryz.underlying260
 a171:=Tryz.isAgg260
 z171:=Tryz.sizeOf260
 v171:=Tryz.zeroValue260
 t173:=Tryz.underlying262
 a173:=Tryz.isAgg262
 z173:=Tryz.sizeOf262
 v173:=Tryz.zeroValue262
 t212:=Tryz.underlying280
 a212:=Tryz.isAgg280
 z212:=Tryz.sizeOf280
 v212:=Tryz.zeroValue280
 t213:=Tryz.underlying281
 a213:=Tryz.isAgg281
 z213:=Tryz.sizeOf281
 t232:=Tryz.underlying287
 a232:=Tryz.isAgg287
 z232:=Tryz.sizeOf287
 v232:=Tryz.zeroValue287
 t233:=Tryz.underlying288
 a233:=Tryz.isAgg288
 z233:=Tryz.sizeOf288
 v233:=Tryz.zeroValue288
 g17:=by kernel_rfl
 g18:=by kernel_rfl
 g19:=by kernel_rfl
 i0:=by kernel_rfl
 i2:=by kernel_rfl
 i3:=by kernel_rfl
 i4:=by kernel_rfl
 i5:=by kernel_rfl
 i9:=by kernel_rfl
 i20:=by kernel_rfl
 i37:=by kernel_rfl
 i46:=by kernel_rfl
 i51:=by kernel_rfl
 i53:=by kernel_rfl
 i171:=by kernel_rfl
 i173:=by kernel_rfl
 i212:=by kernel_rfl
 i232:=by kernel_rfl
 i233:=by kernel_rfl
 m17:=by kernel_rfl
 m18:=by kernel_rfl
 m19:=by kernel_rfl}
open Go.RowKit Go.Sort Go.Lib in
def Tryz.strconv_Itoa (n:Int) (h0: -9223372036854775808<=n) (h1:n<=9223372036854775807) (w:World) (htab:Lib.TabIs Tryz.prog w "internal/strconv.uint64pow10" .u64 Lib.pow10Tab):
  Calls Tryz.prog 177 #[.int .i64 n] w fun e w'=>e= .returned (.string ⟨(Lib.itoa n).toArray⟩)/\∃k os,w'=grow (w.drewN k) os:=Any.strconv_Itoa Tryz.afe n h0 h1 w htab
def Tryz.auf:Go.Shelf.Ren:=⟨fun |219=>217|217=>240|225=>241|224=>242|267=>243|266=>259|314=>260|n=>n,fun |9=>9|3=>3|4=>4|5=>5|46=>181|146=>264|51=>223|n=>n,fun |1=>0|n=>n⟩
def Tryz.aff:Go.Shelf.Ren:=⟨fun |145=>118|220=>167|219=>217|217=>240|225=>241|224=>242|267=>243|266=>259|314=>260|n=>n,fun |9=>9|4=>4|59=>151|3=>3|5=>5|46=>181|146=>264|51=>223|n=>n,fun |1=>0|n=>n⟩
def Tryz.afg:Go.Proofs.Lays.n145 Tryz.prog Tryz.aff:=⟨by kernel_rfl,kR func118,kR func240,kR func217,kR func167,kR func242,kR func241,kR func259,kR func243,kR func260,underlying3,isAgg3,sizeOf3,zeroValue3,underlying4,isAgg4,sizeOf4,zeroValue4,underlying5,isAgg5,sizeOf5,zeroValue5,underlying9,isAgg9,sizeOf9,zeroValue9,underlying181,isAgg181,sizeOf181,zeroValue181,underlying223,isAgg223,sizeOf223,zeroValue223,underlying151,isAgg151,sizeOf151,zeroValue151,underlying264,isAgg264,sizeOf264,zeroValue264,by kernel_rfl⟩
open Go.RowKit Go.Lib in
def Tryz.strings_Cut (s sep:ByteArray) (m:Int) (w:World) (hs:s.size<4294967281) (hm:w.cell? ⟨0,0,none⟩=some (.int .i64 m)):
  Calls Tryz.prog 118 #[.string s, .string sep] w fun e w'=>e= .returned (.tuple #[.string ⟨(Lib.cut s.data.toList sep.data.toList).1.toArray⟩, .string ⟨(Lib.cut s.data.toList sep.data.toList).2.1.toArray⟩, .bool (Lib.cut s.data.toList sep.data.toList).2.2])/\∃n,w'=w.drewN n:=Any.strings_Cut Tryz.afg s sep m w hs hm
def Tryz.afh:Go.Shelf.Ren:=⟨fun |189=>102|125=>156|257=>155|128=>200|129=>201|294=>191|295=>192|296=>193|297=>194|298=>195|299=>196|216=>197|300=>198|301=>199|328=>232|329=>233|330=>234|331=>235|332=>236|215=>166|343=>257|n=>n,fun |28=>93|3=>3|46=>181|0=>0|51=>223|53=>167|4=>4|183=>216|182=>215|131=>50|5=>5|9=>9|218=>243|222=>247|228=>268|229=>269|n=>n,fun |n=>n⟩
def Tryz.Ty:Go.Proofs.Lays.n189 Tryz.prog Tryz.afh:=⟨by kernel_rfl,kR func156,kR func200,kR func201,kR func102,kR func166,kR func197,kR func155,kR func191,kR func192,kR func193,kR func194,kR func195,kR func196,kR func198,kR func199,kR func232,kR func233,kR func234,kR func235,kR func236,kR func257,underlying0,isAgg0,sizeOf0,zeroValue0,underlying3,isAgg3,sizeOf3,zeroValue3,underlying4,isAgg4,sizeOf4,zeroValue4,underlying5,isAgg5,sizeOf5,zeroValue5,underlying9,isAgg9,sizeOf9,zeroValue9,underlying93,isAgg93,sizeOf93,zeroValue93,underlying181,isAgg181,sizeOf181,zeroValue181,underlying223,isAgg223,sizeOf223,zeroValue223,underlying167,isAgg167,sizeOf167,zeroValue167,underlying50,isAgg50,sizeOf50,zeroValue50,underlying215,isAgg215,sizeOf215,zeroValue215,underlying216,isAgg216,sizeOf216,zeroValue216,underlying243,isAgg243,sizeOf243,zeroValue243,underlying247,isAgg247,sizeOf247,zeroValue247,underlying268,isAgg268,sizeOf268,zeroValue268,underlying269,isAgg269,sizeOf269,zeroValue269⟩
open Go.Sort Go.RowKit in
def Tryz.slices_Sort_int (blk off cap:Nat) (zs:List Int) (w:World) (hH:Holds (Value.int .i64) w blk off zs.toArray) (hblk:blk<w.heap.size) (hsz:zs.length<4611686018427387904):
  Calls Tryz.prog 102 #[.slice (some ⟨blk,off,none⟩) zs.length cap] w fun e w'=>
   e= .returned (.tuple #[])/\∃n os,w'=grow (putRow (Value.int .i64) (Sort.ahead w n) blk off (zs.mergeSort fun x y=>decide (x<=y)).toArray) os:=Any.slices_Sort_int Tryz.Ty blk off cap zs w hH hblk hsz
def Tryz.afi:Go.Shelf.Ren:=⟨fun |99=>172|206=>218|n=>n,fun |9=>9|4=>4|3=>3|n=>n,fun |n=>n⟩
def Tryz.afj:Go.Proofs.Lays.n99 Tryz.prog Tryz.afi:=⟨by kernel_rfl,kR func172,kR func218,underlying3,isAgg3,sizeOf3,zeroValue3,underlying4,isAgg4,sizeOf4,zeroValue4,underlying9,isAgg9,sizeOf9,zeroValue9⟩
open Go.RowKit Go.Lib in
def Tryz.strings_HasPrefix (s p:ByteArray) (w:World):
  Calls Tryz.prog 172 #[.string s, .string p] w fun e w'=>e= .returned (.bool (Lib.hasPrefix s.data.toList p.data.toList))/\w'=w:=Any.strings_HasPrefix Tryz.afj s p w
def Tryz.afk:Go.Shelf.Ren:=⟨fun |101=>173|208=>219|206=>218|n=>n,fun |9=>9|4=>4|3=>3|n=>n,fun |n=>n⟩
def Tryz.afl:Go.Proofs.Lays.n101 Tryz.prog Tryz.afk:=⟨by kernel_rfl,kR func173,kR func218,kR func219,underlying3,isAgg3,sizeOf3,zeroValue3,underlying4,isAgg4,sizeOf4,zeroValue4,underlying9,isAgg9,sizeOf9,zeroValue9⟩
open Go.RowKit Go.Lib in
def Tryz.strings_TrimPrefix (s p:ByteArray) (w:World):
  Calls Tryz.prog 173 #[.string s, .string p] w fun e w'=>e= .returned (.string ⟨(Lib.trimPrefix s.data.toList p.data.toList).toArray⟩)/\w'=w:=Any.strings_TrimPrefix Tryz.afl s p w
def Tryz.afm:Go.Shelf.Ren:=⟨fun |264=>139|n=>n,fun |53=>167|46=>181|n=>n,fun |n=>n⟩
def Tryz.afn:Go.Proofs.Lays.n264 Tryz.prog Tryz.afm:=⟨by kernel_rfl,kR func139,underlying181,isAgg181,sizeOf181,zeroValue181,underlying167,isAgg167,sizeOf167,zeroValue167⟩
open Go.RowKit Go.Lib in
def Tryz.bits_Mul64 (x y:Nat) (hx:x<18446744073709551616) (hy:y<18446744073709551616) (w:World):
  Calls Tryz.prog 139 #[.int .u64 x, .int .u64 y] w fun e w'=>e= .returned (.tuple #[.int .u64 ((x*y/18446744073709551616:Nat):Int), .int .u64 ((x*y%18446744073709551616:Nat):Int)])/\w'=w:=Any.bits_Mul64 Tryz.afn x y hx hy w
def Tryz.Tz:Go.Shelf.Ren:=⟨fun |105=>180|212=>228|99=>172|165=>229|166=>181|170=>230|169=>182|263=>254|264=>139|206=>218|240=>231|241=>255|276=>256|277=>268|n=>n,fun |9=>9|3=>3|4=>4|20=>20|0=>0|46=>181|109=>239|5=>5|72=>207|76=>196|51=>223|146=>264|53=>167|148=>168|70=>204|37=>205|75=>195|127=>242|164=>266|80=>160|n=>n,fun |n=>n⟩
def Tryz.afo:Go.Proofs.Lays.n105 Tryz.prog Tryz.Tz:=⟨by kernel_rfl,kR func172,kR func180,kR func229,kR func181,kR func182,kR func230,kR func218,kR func228,kR func231,kR func255,kR func254,kR func139,kR func256,kR func268,underlying0,isAgg0,sizeOf0,zeroValue0,underlying3,isAgg3,sizeOf3,zeroValue3,underlying4,isAgg4,sizeOf4,zeroValue4,underlying5,isAgg5,sizeOf5,zeroValue5,underlying9,isAgg9,sizeOf9,zeroValue9,underlying20,isAgg20,sizeOf20,zeroValue20,underlying205,isAgg205,sizeOf205,zeroValue205,underlying181,isAgg181,sizeOf181,zeroValue181,underlying223,isAgg223,sizeOf223,zeroValue223,underlying167,isAgg167,sizeOf167,zeroValue167,underlying204,isAgg204,sizeOf204,zeroValue204,underlying207,isAgg207,sizeOf207,zeroValue207,underlying195,isAgg195,sizeOf195,zeroValue195,underlying196,isAgg196,sizeOf196,zeroValue196,underlying239,isAgg239,sizeOf239,zeroValue239,underlying242,isAgg242,sizeOf242,zeroValue242,underlying264,isAgg264,sizeOf264,zeroValue264,underlying168,isAgg168,sizeOf168,zeroValue168,underlying266,isAgg266,sizeOf266,zeroValue266⟩
def Tryz.afp:Builder.Extra Tryz.prog Tryz.Tz:={
 sizeBuilder:=by kernel_rfl
 liesBuilder:=by kernel_rfl
 t5:=Tryz.underlying5
 a5:=Tryz.isAgg5
 z5:=Tryz.sizeOf5
 v5:=Tryz.zeroValue5
 infoByte:=by kernel_rfl
 cellsByte:=by kernel_rfl
 sizeByte:=by kernel_rfl
 neB5:=by decide}
open Go.RowKit Go.Lib in
def Tryz.strings_Repeat (s:ByteArray) (c:Nat) (w:World) (hc:c<=9223372036854775807) (hlen:s.size*c<=140737488355328):
  Calls Tryz.prog 180 #[.string s, .int .i64 c] w fun e w'=>e= .returned (.string ⟨(Lib.repeatL s.data.toList c).toArray⟩)/\Below w.heap.size w w':=Any.strings_Repeat Tryz.afo Tryz.afp s c w hc hlen
open Go.RowKit Go.Sort in
def Tryz.slices_Sort_int_none (p:Option Addr) (cap:Nat) (w:World):
  Calls Tryz.prog 102 #[.slice p 0 cap] w fun e w'=>e= .returned (.tuple #[])/\w'=w:=Any.slices_Sort_int_none Tryz.Ty p cap w
end Go.Proofs
set_option maxRecDepth 100000
namespace Go.Proofs.YtibikmmdbdlafaaGreatDoor
open Go.RowKit Sv Go.Proofs.Tryz
noncomputable section
def fF (x y:Int):Int:=x*y/18446744073709551616
def cH (x y:Int):Int:=x*y%18446744073709551616
def kX (x y:Int):Bool:=(decide (0<=x)&&decide (x<18446744073709551616))&&(decide (0<=y)&&decide (y<18446744073709551616))
def Gc:=IN 139 [aE,aE] [aE,aE] true (fun d=>kX d.1 d.2.1) fun d=>(fF d.1 d.2.1,(cH d.1 d.2.1,()))
def r7:=a8 [F5,Gc]
def lh:=k_a f143
abbrev Da:List Nat:=[1,1,0,1,0,0]
abbrev Gd:List Nat:=[1,1,0,1,0,0,1,1,0,0]
abbrev LR:List Nat:=[1,1,0,1,0,0,1,1,0,0,1,1,0,1,0,0]
def kY (a b out:List Int) (i:Nat):bH:={n:=80,sl:=[(1,bI b),(5,qQ 64 out),(20,bI a),(21,iv a.length),(22,iv i)],bJ:=[(64,qR out)],next:=65}
def qV (a b out:List Int) (i:Nat) (x c:Int) (j:Nat):bH:={n:=80,sl:=[(1,bI b),(5,qQ 64 out),(6,iv i),(7,cr x),(8,cr c),(20,bI a),(21,iv a.length),(22,iv i),(27,bI b),(28,iv b.length),(29,iv j)],bJ:=[(64,qR out)],next:=65}
def pK (x y o c:Int):Int:=(((((cH x y).toNat+o.toNat+Int.toNat 0)%2^64)+c.toNat+Int.toNat 0)%2^64:Nat)
def r8 (x y o c:Int):Int:=IntKind.u64.wrap (IntKind.u64.wrap (fF x y+(((((cH x y).toNat+o.toNat+Int.toNat 0)/2^64):Nat):Int))+(((((((cH x y).toNat+o.toNat+Int.toNat 0)%2^64)+c.toNat+Int.toNat 0)/2^64):Nat):Int))
def Ge (out:List Int):bH:={n:=80,sl:=[(5,bI out)],bJ:=[],next:=64}
def afq (a b:List Int) (h1: -9223372036854775808<=(a.length:Int)+(b.length:Int)/\(a.length:Int)+(b.length:Int)<=9223372036854775807) (h2:((a.length:Int)+(b.length:Int)).toNat<=1000000) (h3:(((a.length:Int)+(b.length:Int)).toNat)=(cD (a.length+b.length)).length) (h4:(aZ.known ((a.length:Int)+(b.length:Int)).toNat)=(aZ.known (a.length+b.length))) (h5:(bK (cD (a.length+b.length)).length)=(bK (a.length+b.length))) (h6:(List.flatten (List.replicate ((a.length:Int)+(b.length:Int)).toNat (List.map af.raw (Array.toList #[Value.int .u64 (0:Int)]))))=(List.flatMap (fun x=>[af.raw (Value.int .u64 x)]) (cD (a.length+b.length)))) (h7:(a.length+b.length)=(cD (a.length+b.length)).length):
  aD.path (pG prog r7 (fl lh []) 3 80 [bI a,bI b]) (dl 1) (dU prog 80 .normal [(64,64,some (a.length+b.length))] (kY a b (cD (a.length+b.length)) 0)):=
 mp (FO (eL h1) rt rt (oc (show(decide (((a.length:Int)+(b.length:Int)).toNat<=((a.length:Int)+(b.length:Int)).toNat))=true from ay ω) (show(bounded ((a.length:Int)+(b.length:Int)).toNat (8:Nat))=true from pI h2 ω) (rr b) (an h3 (an h4 h5)) (rr a) (rr (a.length:Int)) (rr (0:Int)) (an h6 h7) trivial))
section
variable (a b out:List Int) (i:Nat)
def afr (h1:(i:Int)<(a.length:Int)):
  cV r7 (fl lh Da) 2 (kY a b out i) 3 .normal [(64,64,none)] (kY a b out i):=
 wy [ah h1] 1
def afs (h1:¬(i:Int)<(a.length:Int)):
  cV r7 (fl lh Da) 2 (kY a b out i) 2 (.exit 0) [(64,64,none)] (kY a b out i):=
 wy [aK h1] 1
def aft (h1:i<a.length):
  cV r7 (fl lh Gd) 3 (kY a b out i) 1 .normal [(64,64,none)] (qV a b out i (a.getD i 0) 0 0):=
 wy [ah h1] 64
def afu (x c:Int) (j:Nat) (h1:(j:Int)<(b.length:Int)) (h2:j<b.length) (h3:(kX x (b.getD j 0))=true) (h4:i6 ((i:Int)+(j:Int))) (h5:((i:Int)+(j:Int)).toNat<out.length) (h6:i6 ((j:Int)+1)) (h7:out.length=(out.set ((i:Int)+(j:Int)).toNat (pK x (b.getD j 0) (out.getD ((i:Int)+(j:Int)).toNat 0) c)).length) (h8:(bK out.length)=(bK (out.set ((i:Int)+(j:Int)).toNat (pK x (b.getD j 0) (out.getD ((i:Int)+(j:Int)).toNat 0) c)).length)) (h9:(IntKind.wrap IntKind.u64 (IntKind.wrap IntKind.u64 (fF x (b.getD j 0)+(↑(((cH x (b.getD j 0)).toNat+(out.getD ((i:Int)+(j:Int)).toNat 0).toNat+Int.toNat 0)/(2:Nat)^(64:Nat)):Int))+(↑((((cH x (b.getD j 0)).toNat+(out.getD ((i:Int)+(j:Int)).toNat 0).toNat+Int.toNat 0)%(2:Nat)^(64:Nat)+c.toNat+Int.toNat 0)/(2:Nat)^(64:Nat)):Int)))=(r8 x (b.getD j 0) (out.getD ((i:Int)+(j:Int)).toNat 0) c)) (h10:(out.set ((i:Int)+(j:Int)).toNat (↑((((cH x (b.getD j 0)).toNat+(out.getD ((i:Int)+(j:Int)).toNat 0).toNat+Int.toNat 0)%(2:Nat)^(64:Nat)+c.toNat+Int.toNat 0)%(2:Nat)^(64:Nat)):Int))=(out.set ((i:Int)+(j:Int)).toNat (pK x (b.getD j 0) (out.getD ((i:Int)+(j:Int)).toNat 0) c))):
  bB r7 (fl lh LR) (qV a b out i x c j) 3 .normal [(64,64,none)] (qV a b (out.set ((i:Int)+(j:Int)).toNat (pK x (b.getD j 0) (out.getD ((i:Int)+(j:Int)).toNat 0) c)) i x (r8 x (b.getD j 0) (out.getD ((i:Int)+(j:Int)).toNat 0) c) (j+1)):=
 wy [ah h1,ah h2,aa h3,yi h4,ah h5,ja 167 aE h5,yi h6,ax h7,ax h8,ax (show(IntKind.wrap IntKind.u64 (IntKind.wrap IntKind.u64 (fF x (b.getD j (0:Int))+(↑(((cH x (b.getD j (0:Int))).toNat+((bQ aE (a7 167 aE out)).getD ((0:Nat)+((i:Int)+(j:Int)).toNat) (0:Int)).toNat+(0:Int).toNat)/(2:Nat)^(64:Nat)):Int))+(↑((((cH x (b.getD j (0:Int))).toNat+((bQ aE (a7 167 aE out)).getD ((0:Nat)+((i:Int)+(j:Int)).toNat) (0:Int)).toNat+(0:Int).toNat)%(2:Nat)^(64:Nat)+c.toNat+(0:Int).toNat)/(2:Nat)^(64:Nat)):Int)))=(r8 x (b.getD j (0:Int)) (out.getD ((i:Int)+(j:Int)).toNat (0:Int)) c)from(by simp only [ey,aw]<;>exact h9)),pH prog 167 aE (show((bQ aE (a7 167 aE out)).set ((0:Nat)+((i:Int)+(j:Int)).toNat) (↑((((cH x (b.getD j (0:Int))).toNat+((bQ aE (a7 167 aE out)).getD ((0:Nat)+((i:Int)+(j:Int)).toNat) (0:Int)).toNat+(0:Int).toNat)%(2:Nat)^(64:Nat)+c.toNat+(0:Int).toNat)%(2:Nat)^(64:Nat)):Int))=(out.set ((i:Int)+(j:Int)).toNat (pK x (b.getD j (0:Int)) (out.getD ((i:Int)+(j:Int)).toNat (0:Int)) c))from(by simp only [ey,aw]<;>exact h10))] 1004782375665203448862331732045300874419142139905
def afv (x c:Int) (j:Nat) (h1:¬(j:Int)<(b.length:Int)):
  bB r7 (fl lh LR) (qV a b out i x c j) 2 (.exit 2) [(64,64,none)] (qV a b out i x c j):=
 wy [aK h1] 1
def afw (x c:Int) (j:Nat) (h1:i6 ((i:Int)+(b.length:Int))) (h2:((i:Int)+(b.length:Int)).toNat<out.length) (h3:out.length=(out.set ((i:Int)+(b.length:Int)).toNat c).length) (h4:(bK out.length)=(bK (out.set ((i:Int)+(b.length:Int)).toNat c).length)):
  bB r7 ((fl lh Gd).drop 4) (qV a b out i x c j) 1 .normal [(64,64,none)] (kY a b (out.set ((i:Int)+(b.length:Int)).toNat c) i):=
 wy [yi h1,ah h2,ja 167 aE h2,ax h3,ax h4,mE 167 aE (Eq.refl (out.set ((i:Int)+(b.length:Int)).toNat c))] 442721880034140495873
def afx (h1:i6 ((i:Int)+1)):
  bB r7 ((fl lh Da).drop 3) (kY a b out i) 1 .normal [(64,64,none)] (kY a b out (i+1)):=
 wy [yi h1] 1
def afy:
  aD.path (aD.ret (R.normal ((kY a b out i).T.set 5 (some (bI out))) ((kY a b out i).H.drop 64) []):aD R) (dl 1) (dU prog 80 .normal [] (Ge out)):=
 wy [] 0
end
def afz (out:List Int) (h1:out.length<=1000000):
  bW r7 ((fl lh []).drop 4) (Ge out) 1 f143 false (bI (dK out)):=
 wy [ah h1] 1
def pL (x y:List Int):List Int:=cQ 18446744073709551616 (ak x*ak y)
def TA:=IN 143 [.list false aE, .list false aE] [.list false aE] false (fun d=>kV d.1 d.2.1) fun d=>(pL d.1 d.2.1,())
def afA {f:FuncId} {args:List af} {a b:Int} {fresh:Bool} (h:∀(w:World) (F:Env) (xs:List Value),tX w F->Sv.vK F->aH F args xs->Calls prog f xs.toArray w fun e w'=>e= .returned (.tuple #[.int .u64 a, .int .u64 b])/\Below w.heap.size w w'):
  Holds prog fresh f args (.tuple [cr a,cr b]):=fun w F xs hF ct hd=>
 (h w F xs hF ct hd).mono fun e w' ⟨g1,g2⟩=>⟨_,⟨F.at',fun _=>none⟩,g1, .tuple (.cons (.raw _) (.cons (.raw _) .nil)),⟨hF.pF,hF.all,fun b A h=>by cases h⟩,(fun b A h=>by cases h),g2⟩
def Db {x y:Int}:kX x y=true↔(0<=x/\x<18446744073709551616)/\(0<=y/\y<18446744073709551616):=by
 unfold kX;simp only [ae,bA]
def afB (X Y:Nat) (hx:X<18446744073709551616) (hy:Y<18446744073709551616):Holds prog true 139 [cr X,cr Y] (.tuple [cr (fF X Y),cr (cH X Y)]):=
 afA fun w F xs hF ct hd=>by
  cases hd with
  |cons d1 d2=>
   cases d2 with
   |cons d2 d3=>
    cases d3;rw [d1.cc,d2.cc];exact(Tryz.bits_Mul64 X Y hx hy w).mono fun e w' ⟨h1,h2⟩=>⟨h1,by subst h2;exact Below.refl _ _⟩
def afC (x y:Int) (h:kX x y=true):Holds prog true 139 [cr x,cr y] (.tuple [cr (fF x y),cr (cH x y)]):=by
 obtain⟨⟨x0,x1⟩,y0,y1⟩:=Db.1 h;have:=afB x.toNat y.toNat ω ω;rw [Int.toNat_of_nonneg x0,Int.toNat_of_nonneg y0]at this;exact this
def LS:Gc.Ok prog:=fun⟨x,y,_⟩ h=>afC x y h
def afD:bD prog (bF r7):=cM (aP LM (aP LS dV))
def fG {x:Int} (h:0<=x/\x<18446744073709551616):IntKind.wrap .u64 x=x:=by
 unfold IntKind.wrap;have e:IntKind.signed .u64=false:=rfl;have e2:IntKind.bits .u64=64:=rfl;simp only [e,e2,Bool.false_and,Bool.false_eq_true,if_false];rw [show(2:Int)^64=18446744073709551616 from rfl];omega
def afE {x y o c:Int} (hx:0<=x/\x<18446744073709551616) (hy:0<=y/\y<18446744073709551616) (ho:0<=o/\o<18446744073709551616) (hc:0<=c/\c<18446744073709551616):
  pK x y o c+18446744073709551616*r8 x y o c=x*y+o+c/\(0<=pK x y o c/\pK x y o c<18446744073709551616)/\(0<=r8 x y o c/\r8 x y o c<18446744073709551616):=by
 have LU:0<=x*y:=Int.mul_nonneg hx.1 hy.1;have hp1:x*y<=18446744073709551615*18446744073709551615:=Int.mul_le_mul ω ω hy.1 δ;unfold pK r8 fF cH;generalize x*y=p at*;rw [show(2:Nat)^64=18446744073709551616 from rfl];have e0:Int.toNat 0=0:=rfl;rw [e0];have hr:=dM p (show(18446744073709551616:Int)≠0 by decide);have hr2:=er p (show(0:Int)<18446744073709551616 by decide);have hq:=Int.emod_add_mul_ediv p 18446744073709551616;generalize p%18446744073709551616=r at*;generalize p/18446744073709551616=q at*;have j4:0<=q/\q<=18446744073709551614:=by omega
 obtain⟨R,rfl⟩:∃R:Nat,r=(R:Int):=⟨r.toNat,by omega⟩;obtain⟨O,rfl⟩:∃O:Nat,o=(O:Int):=⟨o.toNat,by omega⟩;obtain⟨C,rfl⟩:∃C:Nat,c=(C:Int):=⟨c.toNat,by omega⟩;simp only [Int.toNat_natCast,Nat.add_zero];have k1:(R+O)/18446744073709551616<=1:=by omega
 have dG:=Nat.mod_add_div (R+O) 18446744073709551616;have mg:=Nat.mod_lt (R+O) (show 18446744073709551616>0 by decide);generalize (R+O)/18446744073709551616=c1 at*;generalize (R+O)%18446744073709551616=l1 at*;have o7:=Nat.mod_add_div (l1+C) 18446744073709551616;have xD:=Nat.mod_lt (l1+C) (show 18446744073709551616>0 by decide);have Fy:(l1+C)/18446744073709551616<=1:=by omega
 generalize (l1+C)/18446744073709551616=c2 at*;generalize (l1+C)%18446744073709551616=l2 at*;rw [fG (x:=q+(c1:Int)) ω,fG (x:=q+(c1:Int)+(c2:Int)) ω];omega
def Rd:(fl lh []).drop 4≠[]:=fun h=>by
 have:((fl lh []).drop 4).isEmpty=false:=by kernel_rfl
 rw [h]at this;cases this
def TB {P b lo hi x y o c V W M:Int} (h:lo+b*hi=x*y+o+c) (hv:V+P*c=M):V+P*(lo-o)+P*b*hi=M+P*(x*y):=by
 have h1:P*(lo+b*hi)=P*(x*y+o+c):=by rw [h]
 rw [Int.mul_add,Int.mul_add,Int.mul_add,<-Int.mul_assoc]at h1;rw [Int.mul_sub];omega
def afF (x y:List Int) (h:kV x y=true):Holds prog false 143 [bI x,bI y] (bI (pL x y)):=by
 unfold kV at h;simp only [ae,bA]at h;obtain⟨hx,hy,lx,ly⟩:=h;have hx:=hG.1 hx;have hy:=hG.1 hy;have hS:=afD;have e1:((x.length:Int)+(y.length:Int)).toNat=x.length+y.length:=by omega
 refine bL (c:=lh) func143 rfl rfl fun w0 F=> ?_
 refine cP hS 3 (afq x y ω ω (by rw [cf,e1]) (by rw [e1]) (by rw [cf]) (by rw [e1];exact ym _) (by rw [cf])) ?_;refine aW.loop (ι:={s:List Int×Nat//s.2<=x.length/\s.1.length=x.length+y.length/\aS 18446744073709551616 s.1/\ak s.1=ak (x.take s.2)*ak y/\∀k,s.2+y.length<=k->s.1.getD k 0=0}) (id:=0) (b:=cat lh Da) (rest:=(fl lh []).drop 4) (by kernel_rfl) (fun s=>kY x y s.1.1 s.1.2) (fun s=>x.length-s.1.2)
  ⟨(cD (x.length+y.length),0),Nat.zero_le _,cf _,AF _,by
    show vl _ (List.replicate _ 0)=vl _ (x.take 0)*_;rw [CZ];simp [vl],fun k _=>by
    show(List.replicate _ (0:Int)).getD k 0=0;rw [ao,List.getElem?_replicate];split<;>rfl⟩ (fun _=>rfl) ?_
 rintro⟨⟨out,i⟩,hi,ho,iO,hval,hz⟩;have hi:i<=x.length:=hi;have ho:out.length=x.length+y.length:=ho;have iO:aS 18446744073709551616 out:=iO;have hval:ak out=ak (x.take i)*ak y:=hval;have hz:∀k,i+y.length<=k->out.getD k 0=0:=hz;by_cases hlt:i<x.length
 .have wh:=hx.get δ i;refine cX (s:=kY x y out i) hS 2 (afr x y out i ω) ?_;refine FP (id:=1) (c:=cat lh Gd) (rest:=(fl lh Da).drop 3) (by kernel_rfl) ?_;refine cX (s:=kY x y out i) hS 3 (aft x y out i hlt) ?_;refine aW.loop (ι:={s:List Int×Int×Nat//s.2.2<=y.length/\s.1.length=x.length+y.length/\aS 18446744073709551616 s.1/\(0<=s.2.1/\s.2.1<18446744073709551616)/\ak s.1+18446744073709551616^(i+s.2.2)*s.2.1=ak out+18446744073709551616^i*(x.getD i 0*ak (y.take s.2.2))/\∀k,i+y.length<=k->s.1.getD k 0=0}) (id:=2) (b:=cat lh LR) (rest:=(fl lh Gd).drop 4) (by kernel_rfl) (fun s=>qV x y s.1.1 i (x.getD i 0) s.1.2.1 s.1.2.2) (fun s=>y.length-s.1.2.2)
   ⟨(out,0,0),Nat.zero_le _,ho,iO,⟨Int.le_refl 0,show(0:Int)<18446744073709551616 by decide⟩,by simp [ak,vl],hz⟩ (fun _=>rfl) ?_
  rintro⟨⟨cU,c,j⟩,hj,nr,qW,hc,hinv,nt⟩;have hj:j<=y.length:=hj;have nr:cU.length=x.length+y.length:=nr;have qW:aS 18446744073709551616 cU:=qW;have hc:0<=c/\c<18446744073709551616:=hc;have hinv:ak cU+18446744073709551616^(i+j)*c=ak out+18446744073709551616^i*(x.getD i 0*ak (y.take j)):=hinv;have nt:∀k,i+y.length<=k->cU.getD k 0=0:=nt;have e2:((i:Int)+(j:Int)).toNat=i+j:=by omega
  have e3:((i:Int)+(y.length:Int)).toNat=i+y.length:=by omega
  by_cases hlj:j<y.length
  .have Gf:=hy.get δ j;have zZ:=qW.get δ (i+j);obtain⟨g1,g2,g3⟩:=afE wh Gf zZ hc;refine bE (s:=qV x y cU i (x.getD i 0) c j) (s':=qV x y (cU.set ((i:Int)+(j:Int)).toNat (pK (x.getD i 0) (y.getD j 0) (cU.getD ((i:Int)+(j:Int)).toNat 0) c)) i (x.getD i 0) (r8 (x.getD i 0) (y.getD j 0) (cU.getD ((i:Int)+(j:Int)).toNat 0) c) (j+1)) hS (afu x y cU i (x.getD i 0) c j ω hlj (Db.2 ⟨wh,Gf⟩) ω ω ω (by rw [b9]) (by rw [b9]) rfl rfl) ?_;rw [e2];refine⟨⟨(cU.set (i+j) (pK (x.getD i 0) (y.getD j 0) (cU.getD (i+j) 0) c),r8 (x.getD i 0) (y.getD j 0) (cU.getD (i+j) 0) c,j+1),hlj,by rw [b9];exact nr,qW.set g2,g3, ?_,fun k hk=> ?_⟩,by simp;omega,rfl,rfl⟩
   .show vl 18446744073709551616 (cU.set (i+j) (pK (x.getD i 0) (y.getD j 0) (cU.getD (i+j) 0) c))+18446744073709551616^(i+(j+1))*r8 (x.getD i 0) (y.getD j 0) (cU.getD (i+j) 0) c=vl 18446744073709551616 out+18446744073709551616^i*(x.getD i 0*vl 18446744073709551616 (y.take (j+1)));rw [qM _ _ _ _ ω,<-Nat.add_assoc,Int.pow_succ,kQ,Int.mul_add,Int.mul_add];have:=TB (W:=0) g1 hinv;unfold ak at this;rw [this,Int.add_assoc,Int.pow_add];congr 2;rw [Int.mul_assoc,Int.mul_left_comm (x.getD i 0)]
   .rw [ao,List.getElem?_set_ne ω,<-ao];exact nt k hk
  .refine bE (s:=qV x y cU i (x.getD i 0) c j) hS (afv x y cU i (x.getD i 0) c j ω) ?_;refine cG (cO ?_);obtain rfl:j=y.length:=by omega
   refine bE (s:=qV x y cU i (x.getD i 0) c y.length) (s':=kY x y (cU.set ((i:Int)+(y.length:Int)).toNat c) i) hS (afw x y cU i (x.getD i 0) c y.length ω ω (by rw [b9]) (by rw [b9])) ?_;rw [e3];refine bE (s:=kY x y (cU.set (i+y.length) c) i) hS (afx x y (cU.set (i+y.length) c) i ω) ?_;refine⟨⟨(cU.set (i+y.length) c,i+1),hlt,by rw [b9];exact nr,qW.set hc, ?_,fun k hk=> ?_⟩,by simp;omega,rfl,rfl⟩
   .have hk0:=nt (i+y.length) (aJ _);show vl _ (cU.set (i+y.length) c)=vl _ (x.take (i+1))*_;rw [qM _ _ _ _ ω,hk0,Int.sub_zero,kQ,Int.add_mul,Int.mul_assoc];rw [dI,hval]at hinv;exact hinv
   .rw [ao,List.getElem?_set_ne ω,<-ao];exact nt k ω
 .refine cX (s:=kY x y out i) hS 2 (afs x y out i ω) ?_;refine cG (cG (cO ?_));obtain rfl:i=x.length:=by omega
  rw [dI]at hval;unfold pL;rw [<-hval,<-wg iO];refine aW.vV Rd (i:=64) (s:=5) (e2:=167) (t:=aE) (xs:=out) (cap:=bK out.length) (by kernel_rfl) (by kernel_rfl) ?_;refine aW.n7 Rd (σ:=[]) (s:=Ge out) (afy x y out x.length) ?_;exact b5 (s:=Ge out) hS (afz out ω)
def afG:TA.Ok prog:=fun⟨x,y,_⟩ h=>afF x y h
def uj:=k_a f133
def wj:=k_a f135
def lM:=k_a f136
def gP:=og [FY] (a8 [Th])
abbrev pM:List Nat:=[1,1,1,0,1,0,0]
def jA (a b out:List Int) (c:Int) (k:Nat):bH:={n:=42,sl:=[(0,lv a),(1,lv b),(5,mF 64 out),(6,iv c),(7,iv k)],bJ:=[(64,mG out)],next:=65}
def afH (a b:List Int):
  dy gP (fl uj []) 4 42 [lv a,lv b] 1 .normal [] (jA a b [] 0 0):=
 wy [] 0
section
variable (a b out:List Int) (c:Int) (k:Nat)
def afI (h1:(k:Int)<(a.length:Int)) (h2:(0:av.den (.int .i64))<=(k:Int)) (h3:i6 (bX a (k:Int)+bX b (k:Int))) (h4:i6 (bX a (k:Int)+bX b (k:Int)+c)) (h5:out.length+1<=1000000) (h6:i6 (Int.tdiv (bX a (k:Int)+bX b (k:Int)+c) 1000000000)) (h7:i6 ((k:Int)+1)) (h8:(out.length+1)=(out++[Int.tmod (bX a (k:Int)+bX b (k:Int)+c) 1000000000]).length) (h9:(aZ.full)=(bK (out++[Int.tmod (bX a (k:Int)+bX b (k:Int)+c) 1000000000]).length)):
  bB gP (fl uj pM) (jA a b out c k) 1424 .normal [(64,66,none)] (jA a b (out++[Int.tmod (bX a k+bX b k+c) 1000000000]) (Int.tdiv (bX a k+bX b k+c) 1000000000) (k+1)):=
 wy [aa (bw (ay h1)),ah h1,ah h2,yi h3,yi h4,yk 3 (.int .i64) out,lJ 8 h5,yi h6,yi h7,ax h8,ax h9,od 3 (.int .i64) (Eq.refl (out++[Int.tmod (bX a (k:Int)+bX b (k:Int)+c) (1000000000:Int)]))] 4489748952612617644828073985769994856947271015338049
def afJ (h1:¬(k:Int)<(a.length:Int)) (h2:(k:Int)<(b.length:Int)) (h3:(0:av.den (.int .i64))<=(k:Int)) (h4:i6 (bX a (k:Int)+bX b (k:Int))) (h5:i6 (bX a (k:Int)+bX b (k:Int)+c)) (h6:out.length+1<=1000000) (h7:i6 (Int.tdiv (bX a (k:Int)+bX b (k:Int)+c) 1000000000)) (h8:i6 ((k:Int)+1)) (h9:(out.length+1)=(out++[Int.tmod (bX a (k:Int)+bX b (k:Int)+c) 1000000000]).length) (h10:(aZ.full)=(bK (out++[Int.tmod (bX a (k:Int)+bX b (k:Int)+c) 1000000000]).length)):
  bB gP (fl uj pM) (jA a b out c k) 1423 .normal [(64,66,none)] (jA a b (out++[Int.tmod (bX a k+bX b k+c) 1000000000]) (Int.tdiv (bX a k+bX b k+c) 1000000000) (k+1)):=
 wy [aa (bw (ab h1)),aK h1,aa (bw (ay h2)),ah h2,ah h3,yi h4,yi h5,yk 3 (.int .i64) out,lJ 8 h6,yi h7,yi h8,ax h9,ax h10,od 3 (.int .i64) (Eq.refl (out++[Int.tmod (bX a (k:Int)+bX b (k:Int)+c) (1000000000:Int)]))] 5238040690022918447934035119010923055851292927987777
def afK (h1:¬(k:Int)<(a.length:Int)) (h2:¬(k:Int)<(b.length:Int)) (h3:c>0) (h4:(0:av.den (.int .i64))<=(k:Int)) (h5:i6 (bX a (k:Int)+bX b (k:Int))) (h6:i6 (bX a (k:Int)+bX b (k:Int)+c)) (h7:out.length+1<=1000000) (h8:i6 (Int.tdiv (bX a (k:Int)+bX b (k:Int)+c) 1000000000)) (h9:i6 ((k:Int)+1)) (h10:(out.length+1)=(out++[Int.tmod (bX a (k:Int)+bX b (k:Int)+c) 1000000000]).length) (h11:(aZ.full)=(bK (out++[Int.tmod (bX a (k:Int)+bX b (k:Int)+c) 1000000000]).length)):
  bB gP (fl uj pM) (jA a b out c k) 1391 .normal [(64,66,none)] (jA a b (out++[Int.tmod (bX a k+bX b k+c) 1000000000]) (Int.tdiv (bX a k+bX b k+c) 1000000000) (k+1)):=
 wy [aa (bw (ab h1)),aK h1,aa (bw (ab h2)),aK h2,ah h3,ah h4,yi h5,yi h6,yk 3 (.int .i64) out,lJ 8 h7,yi h8,yi h9,ax h10,ax h11,od 3 (.int .i64) (Eq.refl (out++[Int.tmod (bX a (k:Int)+bX b (k:Int)+c) (1000000000:Int)]))] 5612186558728068849487015685631387156701777985015873
def afL (h1:¬(k:Int)<(a.length:Int)) (h2:¬(k:Int)<(b.length:Int)) (h3:¬c>0):
  bB gP (fl uj pM) (jA a b out c k) 623 (.exit 0) [(64,64,none)] (jA a b out c k):=
 wy [aa (bw (ab h1)),aK h1,aa (bw (ab h2)),aK h2,aK h3] 1425176483074113
def afM (h1:(out)=((out.drop 0).take out.length)) (h2:out.length=0\/bz 3 (.int .i64) (a7 3 (.int .i64) out) (0+out.length-1)=true) (h3:false=true->out.length≠0):
  bW gP ((fl uj []).drop 5) (jA a b out c k) 1 f133 false (lv out):=
 wy [vP (an (rr out.length) (an (show(out)=(((bQ (.int .i64) (a7 3 (.int .i64) out)).drop (0:Nat)).take out.length)from(by simp only [ey]<;>exact h1)) (an h2 h3)))] 1
def oq:bH:={n:=35,sl:=[(0,lv a),(1,lv b),(5,mF 64 out),(6,iv c),(7,iv k)],bJ:=[(64,mG out)],next:=65}
end
def afN (a b:List Int):
  dy gP (fl wj []) 4 35 [lv a,lv b] 1 .normal [] (oq a b [] 0 0):=
 wy [] 0
section
variable (a b out:List Int) (c:Int) (k:Nat) (h1:(k:Int)<(a.length:Int)) (h2:k<a.length) (h3:(0:av.den (.int .i64))<=(k:Int)) (h4:i6 (a.getD k 0-bX b (k:Int))) (h5:i6 (a.getD k 0-bX b (k:Int)-c))
def afO (h6:¬a.getD k 0-bX b (k:Int)-c<0) (h7:out.length+1<=1000000) (h8:i6 ((k:Int)+1)) (h9:(out.length+1)=(out++[a.getD k 0-bX b (k:Int)-c]).length) (h10:(aZ.full)=(bK (out++[a.getD k 0-bX b (k:Int)-c]).length)):
  bB gP (fl wj pM) (oq a b out c k) 9 .normal [(64,66,none)] (oq a b (out++[a.getD k 0-bX b k-c]) 0 (k+1)):=
 wy [ah h1,ah h2,aa (aF (v:=iv (a.getD k (0:Int)))),ah h3,yi h4,yi h5,aK h6,yk 3 (.int .i64) out,lJ 8 h7,yi h8,ax h9,ax h10,od 3 (.int .i64) (Eq.refl (out++[a.getD k (0:Int)-bX b (k:Int)-c]))] 1105921642492323382824927727698886533121
def afP (h6:a.getD k 0-bX b (k:Int)-c<0) (h7:i6 (a.getD k 0-bX b (k:Int)-c+1000000000)) (h8:out.length+1<=1000000) (h9:i6 ((k:Int)+1)) (h10:(out.length+1)=(out++[a.getD k 0-bX b (k:Int)-c+1000000000]).length) (h11:(aZ.full)=(bK (out++[a.getD k 0-bX b (k:Int)-c+1000000000]).length)):
  bB gP (fl wj pM) (oq a b out c k) 11 .normal [(64,66,none)] (oq a b (out++[a.getD k 0-bX b k-c+1000000000]) 1 (k+1)):=
 wy [ah h1,ah h2,aa (aF (v:=iv (a.getD k (0:Int)))),ah h3,yi h4,yi h5,ah h6,yi h7,yk 3 (.int .i64) out,lJ 8 h8,yi h9,ax h10,ax h11,od 3 (.int .i64) (Eq.refl (out++[a.getD k (0:Int)-bX b (k:Int)-c+(1000000000:Int)]))] 76223524083949719363713562717780016111617
end
def afQ (a b out:List Int) (c:Int) (k:Nat) (h1:¬(k:Int)<(a.length:Int)):
  bB gP (fl wj pM) (oq a b out c k) 2 (.exit 0) [(64,64,none)] (oq a b out c k):=
 wy [aK h1] 1
def afR (a b out:List Int) (c:Int) (k:Nat) (h1:(Nat.beq out.length 0||bz 3 (.int .i64) (a7 3 (.int .i64) out) (out.length-1))=true) (h2:((out.drop 0).take out.length).length<=1000000):
  bW gP ((fl wj []).drop 5) (oq a b out c k) 1 f135 false (lv (ei ((out.drop 0).take out.length))):=
 wy [aa (show(Nat.beq out.length (0:Nat)||bz 3 (.int .i64) (a7 3 (.int .i64) out) ((0:Nat)+out.length-(1:Nat)))=true from(by simp only [aw]<;>exact h1)),aa (show(decide ((((bQ (.int .i64) (a7 3 (.int .i64) out)).drop (0:Nat)).take out.length).length<=(1000000:Nat)))=true from(by simp only [ey]<;>exact ay h2)),ax (show(ei (((bQ (.int .i64) (a7 3 (.int .i64) out)).drop (0:Nat)).take out.length))=(ei ((out.drop (0:Nat)).take out.length))from(by simp only [ey]<;>rfl))] 12417
abbrev Dc:List Nat:=[1,1,0,1,0,0]
abbrev Gg:List Nat:=[1,1,0,1,0,0,1,0,0]
abbrev LV:List Nat:=[1,1,0,1,0,0,1,0,0,1,0,1,0,0]
def kZ (a b out:List Int) (i:Nat):bH:={n:=72,sl:=[(0,lv a),(1,lv b),(5,mF 64 out),(6,iv i)],bJ:=[(64,mG out)],next:=65}
def qX (a b out:List Int) (i:Nat) (c:Int) (j:Nat):bH:={n:=72,sl:=[(0,lv a),(1,lv b),(5,mF 64 out),(6,iv i),(7,iv c),(8,iv j)],bJ:=[(64,mG out)],next:=65}
def gi (n:Nat):List Int:=List.replicate n 0
def afS (a b:List Int) (h1: -9223372036854775808<=(a.length:Int)+(b.length:Int)/\(a.length:Int)+(b.length:Int)<=9223372036854775807) (h2:((a.length:Int)+(b.length:Int)).toNat<=1000000) (h3:(((a.length:Int)+(b.length:Int)).toNat)=(gi (a.length+b.length)).length) (h4:(aZ.known ((a.length:Int)+(b.length:Int)).toNat)=(aZ.known (a.length+b.length))) (h5:(bK (gi (a.length+b.length)).length)=(bK (a.length+b.length))) (h6:(List.flatten (List.replicate ((a.length:Int)+(b.length:Int)).toNat (List.map af.raw (Array.toList #[Value.int .i64 (0:Int)]))))=(List.flatMap (fun x=>[iv x]) (gi (a.length+b.length)))) (h7:(a.length+b.length)=(gi (a.length+b.length)).length):
  aD.path (pG prog gP (fl lM []) 3 72 [lv a,lv b]) (dl 1) (dU prog 72 .normal [(64,64,some (a.length+b.length))] (kZ a b (gi (a.length+b.length)) 0)):=
 mp (adE (eL h1) rt (oc rt (show(decide (((a.length:Int)+(b.length:Int)).toNat<=((a.length:Int)+(b.length:Int)).toNat))=true from ay ω) (show(bounded ((a.length:Int)+(b.length:Int)).toNat (8:Nat))=true from pI h2 ω) (rr a) (rr b) (an h3 (an h4 h5)) (rr (0:Int)) (an h6 h7) trivial))
section
variable (a b out:List Int) (i:Nat)
def afT (h1:(i:Int)<(a.length:Int)):
  cV gP (fl lM Dc) 2 (kZ a b out i) 3 .normal [(64,64,none)] (kZ a b out i):=
 wy [ah h1] 1
def afU (h1:¬(i:Int)<(a.length:Int)):
  cV gP (fl lM Dc) 2 (kZ a b out i) 2 (.exit 0) [(64,64,none)] (kZ a b out i):=
 wy [aK h1] 1
def afV:
  cV gP (fl lM Gg) 2 (kZ a b out i) 1 .normal [(64,64,none)] (qX a b out i 0 0):=
 wy [] 0
def afW (c:Int) (j:Nat) (h1:(j:Int)<(b.length:Int)) (h2:i6 ((i:Int)+(j:Int))) (h3:((i:Int)+(j:Int)).toNat<out.length) (h4:i<a.length) (h5:j<b.length) (h6:i6 (a.getD i 0*b.getD j 0)) (h7:i6 (out.getD ((i:Int)+(j:Int)).toNat 0+a.getD i 0*b.getD j 0)) (h8:i6 (out.getD ((i:Int)+(j:Int)).toNat 0+a.getD i 0*b.getD j 0+c)) (h9:i6 (Int.tdiv (out.getD ((i:Int)+(j:Int)).toNat 0+a.getD i 0*b.getD j 0+c) 1000000000)) (h10:i6 ((j:Int)+1)) (h11:out.length=(out.set ((i:Int)+(j:Int)).toNat (Int.tmod (out.getD ((i:Int)+(j:Int)).toNat 0+a.getD i 0*b.getD j 0+c) 1000000000)).length) (h12:(bK out.length)=(bK (out.set ((i:Int)+(j:Int)).toNat (Int.tmod (out.getD ((i:Int)+(j:Int)).toNat 0+a.getD i 0*b.getD j 0+c) 1000000000)).length)):
  bB gP (fl lM LV) (qX a b out i c j) 3 .normal [(64,64,none)] (qX a b (out.set ((i:Int)+(j:Int)).toNat (Int.tmod (out.getD ((i:Int)+(j:Int)).toNat 0+a.getD i 0*b.getD j 0+c) 1000000000)) i (Int.tdiv (out.getD ((i:Int)+(j:Int)).toNat 0+a.getD i 0*b.getD j 0+c) 1000000000) (j+1)):=
 wy [ah h1,yi h2,ah h3,ja 3 (.int .i64) h3,aa (aF (v:=iv ((bQ (.int .i64) (a7 3 (.int .i64) out)).getD ((0:Nat)+((i:Int)+(j:Int)).toNat) (0:Int)))),ah h4,aa (aF (v:=iv (a.getD i (0:Int)))),ah h5,aa (aF (v:=iv (b.getD j (0:Int)))),yi h6,aa (show(fits IntKind.i64 ((bQ (.int .i64) (a7 3 (.int .i64) out)).getD ((0:Nat)+((i:Int)+(j:Int)).toNat) (0:Int)+a.getD i (0:Int)*b.getD j (0:Int)))=true from(by simp only [ey,aw]<;>exact eL h7)),aa (show(fits IntKind.i64 ((bQ (.int .i64) (a7 3 (.int .i64) out)).getD ((0:Nat)+((i:Int)+(j:Int)).toNat) (0:Int)+a.getD i (0:Int)*b.getD j (0:Int)+c))=true from(by simp only [ey,aw]<;>exact eL h8)),aa (show(fits IntKind.i64 (Int.tdiv ((bQ (.int .i64) (a7 3 (.int .i64) out)).getD ((0:Nat)+((i:Int)+(j:Int)).toNat) (0:Int)+a.getD i (0:Int)*b.getD j (0:Int)+c) (1000000000:Int)))=true from(by simp only [ey,aw]<;>exact eL h9)),yi h10,ax h11,ax h12,ax (show(Int.tdiv ((bQ (.int .i64) (a7 3 (.int .i64) out)).getD ((0:Nat)+((i:Int)+(j:Int)).toNat) (0:Int)+a.getD i (0:Int)*b.getD j (0:Int)+c) (1000000000:Int))=(Int.tdiv (out.getD ((i:Int)+(j:Int)).toNat (0:Int)+a.getD i (0:Int)*b.getD j (0:Int)+c) (1000000000:Int))from(by simp only [ey,aw]<;>rfl)),pH prog 3 (.int .i64) (show((bQ (.int .i64) (a7 3 (.int .i64) out)).set ((0:Nat)+((i:Int)+(j:Int)).toNat) (Int.tmod ((bQ (.int .i64) (a7 3 (.int .i64) out)).getD ((0:Nat)+((i:Int)+(j:Int)).toNat) (0:Int)+a.getD i (0:Int)*b.getD j (0:Int)+c) (1000000000:Int)))=(out.set ((i:Int)+(j:Int)).toNat (Int.tmod (out.getD ((i:Int)+(j:Int)).toNat (0:Int)+a.getD i (0:Int)*b.getD j (0:Int)+c) (1000000000:Int)))from(by simp only [ey,aw]<;>rfl))] 113013889735155783555940953289561697649430070733285792415873
def afX (c:Int) (j:Nat) (h1:¬(j:Int)<(b.length:Int)):
  bB gP (fl lM LV) (qX a b out i c j) 2 (.exit 2) [(64,64,none)] (qX a b out i c j):=
 wy [aK h1] 1
def afY (c:Int) (j:Nat) (h1:i6 ((i:Int)+(b.length:Int))) (h2:((i:Int)+(b.length:Int)).toNat<out.length) (h3:i6 (out.getD ((i:Int)+(b.length:Int)).toNat 0+c)) (h4:out.length=(out.set ((i:Int)+(b.length:Int)).toNat (out.getD ((i:Int)+(b.length:Int)).toNat 0+c)).length) (h5:(bK out.length)=(bK (out.set ((i:Int)+(b.length:Int)).toNat (out.getD ((i:Int)+(b.length:Int)).toNat 0+c)).length)):
  bB gP ((fl lM Gg).drop 3) (qX a b out i c j) 1 .normal [(64,64,none)] (kZ a b (out.set ((i:Int)+(b.length:Int)).toNat (out.getD ((i:Int)+(b.length:Int)).toNat 0+c)) i):=
 wy [yi h1,ah h2,ja 3 (.int .i64) h2,aa (show(fits IntKind.i64 ((bQ (.int .i64) (a7 3 (.int .i64) out)).getD ((0:Nat)+((i:Int)+(b.length:Int)).toNat) (0:Int)+c))=true from(by simp only [ey,aw]<;>exact eL h3)),ax h4,ax h5,pH prog 3 (.int .i64) (show((bQ (.int .i64) (a7 3 (.int .i64) out)).set ((0:Nat)+((i:Int)+(b.length:Int)).toNat) ((bQ (.int .i64) (a7 3 (.int .i64) out)).getD ((0:Nat)+((i:Int)+(b.length:Int)).toNat) (0:Int)+c))=(out.set ((i:Int)+(b.length:Int)).toNat (out.getD ((i:Int)+(b.length:Int)).toNat (0:Int)+c))from(by simp only [ey,aw]<;>rfl))] 8667417275560351441650974785
def afZ (h1:i6 ((i:Int)+1)):
  bB gP ((fl lM Dc).drop 3) (kZ a b out i) 1 .normal [(64,64,none)] (kZ a b out (i+1)):=
 wy [yi h1] 1
def af0 (h1:(Nat.beq out.length 0||bz 3 (.int .i64) (a7 3 (.int .i64) out) (out.length-1))=true) (h2:((out.drop 0).take out.length).length<=1000000):
  bW gP ((fl lM []).drop 4) (kZ a b out i) 1 f136 false (lv (ei ((out.drop 0).take out.length))):=
 wy [aa (show(Nat.beq out.length (0:Nat)||bz 3 (.int .i64) (a7 3 (.int .i64) out) ((0:Nat)+out.length-(1:Nat)))=true from(by simp only [aw]<;>exact h1)),aa (show(decide ((((bQ (.int .i64) (a7 3 (.int .i64) out)).drop (0:Nat)).take out.length).length<=(1000000:Nat)))=true from(by simp only [ey]<;>exact ay h2)),ax (show(ei (((bQ (.int .i64) (a7 3 (.int .i64) out)).drop (0:Nat)).take out.length))=(ei ((out.drop (0:Nat)).take out.length))from(by simp only [ey]<;>rfl))] 12417
end
def v6 (a b:List Int):Bool:=okA a&&okA b
def TC:=IN 133 [.list false (.int .i64), .list false (.int .i64)] [.list false (.int .i64)] false (fun d=>v6 d.1 d.2.1) fun d=>(aG (ag d.1+ag d.2.1),())
def TD:=IN 135 [.list false (.int .i64), .list false (.int .i64)] [.list false (.int .i64)] false (fun d=>v6 d.1 d.2.1&&decide (ag d.2.1<=ag d.1)) fun d=>(aG (ag d.1-ag d.2.1),())
def LW:=IN 136 [.list false (.int .i64), .list false (.int .i64)] [.list false (.int .i64)] false (fun d=>okB d.1&&okB d.2.1) fun d=>(aG (ag d.1*ag d.2.1),())
def Gh:bD prog (bF gP):=uf (fun c hc=>by
 simp only [ek,jO,or_false]at hc;obtain rfl:=hc;exact LK) (qK ael)
def ma {a b:List Int}:v6 a b=true↔okA a=true/\okA b=true:=by unfold v6;rw [ae]
def LX (a:List Int) (k:Nat):bX a (k:Int)=a.getD k 0:=by unfold bX;rw [Int.toNat_natCast]
def af1 {b:Int} (hb:1<b) {l:List Int} (h:aS b l) (hg:∀k,l.length=k+1->b^k<=vl b l):e9 l:=fun k hk h0=>by
 have h1:=hg k hk;have h2:vl b l=vl b (l.take k):=by
  have:=dC (b:=b) (show k<l.length by omega);rw [eT ω,h0]at this;simpa using this
 have h3:=fK (show 0<b by omega) (h.take k);rw [eE,show min k l.length=k by omega]at h3;omega
structure wk (a b out:List Int) (c:Int) (k:Nat):Prop where
 dg:aS 1000000000 out
 len:out.length=k
 qo:c=0\/c=1
 val:ag out+1000000000^k*c=ag (a.take k)+ag (b.take k)
 top:k<=max a.length b.length\/(k=max a.length b.length+1/\1000000000^max a.length b.length<=ag a+ag b)
def Gi (l:List Int) (k:Nat):ag (l.take (k+1))=ag (l.take k)+1000000000^k*l.getD k 0:=kQ l k
def AG {l:List Int} {k:Nat} (h:l.length<=k):ag (l.take k)=ag l:=by rw [eT h]
def af2 {a b:List Int} (ha:aS 1000000000 a) (hb:aS 1000000000 b):ag a+ag b<1000000000^(max a.length b.length+1):=by
 have h1:=fK (show(0:Int)<1000000000 by decide) ha;have h2:=fK (show(0:Int)<1000000000 by decide) hb;have h3:=iN (b:=1000000000) δ (show a.length<=max a.length b.length by omega);have h4:=iN (b:=1000000000) δ (show b.length<=max a.length b.length by omega);have h5:=dD (show(0:Int)<1000000000 by decide) (max a.length b.length);rw [Int.pow_succ];unfold ag;omega
def wk.next {a b out:List Int} {c:Int} {k:Nat} (h:wk a b out c k) (ha:aS 1000000000 a) (hb:aS 1000000000 b) (hc:k<a.length\/k<b.length\/c>0):wk a b (out++[(a.getD k 0+b.getD k 0+c)%1000000000]) ((a.getD k 0+b.getD k 0+c)/1000000000) (k+1)/\k<=max a.length b.length:=by
 have g1:=ha.get δ k;have g2:=hb.get δ k;have LY:=h.qo;obtain⟨s,hs⟩:∃s,a.getD k 0+b.getD k 0+c=s:=⟨_,rfl⟩;rw [hs];have hk:k<=max a.length b.length:=by
  rcases h.top with h1|⟨h1,h2⟩
  .exact h1
  .have h3:c>0:=by omega
   have h4:c=1:=by omega
   have h5:=h.val;rw [h4,AG (show a.length<=k by omega),AG (show b.length<=k by omega),h1]at h5;have h6:=af2 ha hb;have h7:=gD h.dg;omega
 refine⟨⟨h.dg.app (.cons ω .nil),by simp [h.len],by omega, ?_, ?_⟩,hk⟩
 .have e:ag (out++[s%1000000000])=ag out+1000000000^k*(s%1000000000):=by rw [<-h.len];exact yc _ _ _
  rw [e,Gi,Gi,Int.pow_succ];exact Lx ω h.val
 .by_cases hm:k<max a.length b.length
  .exact .inl ω
  .refine .inr ⟨by omega, ?_⟩;have h4:c=1:=by omega
   have h5:=h.val;rw [h4,AG (show a.length<=k by omega),AG (show b.length<=k by omega)]at h5;have h7:=gD h.dg;have h8:k=max a.length b.length:=by omega
   rw [<-h8];omega
def wk.fin {a b out:List Int} {c:Int} {k:Nat} (h:wk a b out c k) (ha:aS 1000000000 a) (hb:aS 1000000000 b) (ta:e9 a) (tb:e9 b) (h1:a.length<=k) (h2:b.length<=k) (h3:¬c>0):out=aG (ag a+ag b):=by
 have hc:c=0:=by have:=h.qo;omega
 have hv:ag out=ag a+ag b:=by
  have:=h.val;rw [hc,AG h1,AG h2]at this;simpa using this
 have na:=gD ha;have nb:=gD hb;refine fp kT h.dg (af1 kT h.dg fun j hj=> ?_) hv;show _<=ag out;rw [hv];have hl:=h.len;rcases h.top with h4|⟨h4,h5⟩
 .by_cases hla:a.length=j+1
  .have h6:(1000000000:Int)^j<=ag a:=yd δ ha ta hla;omega
  .have h6:(1000000000:Int)^j<=ag b:=yd δ hb tb ω;omega
 .have e:j=max a.length b.length:=by omega
  rw [e];exact h5
def af3 (a b:List Int) (h:okA a=true) (g:okA b=true):Holds prog false 133 [lv a,lv b] (lv (aG (ag a+ag b))):=by
 obtain⟨ha,ta,la⟩:=fk.1 h;obtain⟨hb,tb,lb⟩:=fk.1 g;have hS:=Gh;refine bL (c:=uj) func133 rfl rfl fun w0 F=> ?_
 refine cP hS 4 (afH a b) ?_;refine aW.loop (ι:={s:List Int×Int×Nat//wk a b s.1 s.2.1 s.2.2}) (id:=0) (b:=cat uj pM) (rest:=(fl uj []).drop 5) (by kernel_rfl) (fun s=>jA a b s.1.1 s.1.2.1 s.1.2.2) (fun s=>max a.length b.length+2-s.1.2.2) ⟨([],0,0), .nil,rfl, .inl rfl,by simp [ag,vl], .inl (Nat.zero_le _)⟩ (fun _=>rfl) ?_;rintro⟨⟨out,c,k⟩,hI⟩;have hI:wk a b out c k:=hI;have g1:=ha.get δ k;have g2:=hb.get δ k;have LY:=hI.qo;have hlo:=hI.len;have hk0:(0:Int)<=(k:Int):=by omega
 have ea:=LX a k;have eb:=LX b k;by_cases hgo:k<a.length\/k<b.length\/c>0
 .obtain⟨hn,hk⟩:=hI.next ha hb hgo;have em:Int.tmod (a.getD k 0+b.getD k 0+c) 1000000000=(a.getD k 0+b.getD k 0+c)%1000000000:=Int.tmod_eq_emod_of_nonneg ω;have ed:Int.tdiv (a.getD k 0+b.getD k 0+c) 1000000000=(a.getD k 0+b.getD k 0+c)/1000000000:=Int.tdiv_eq_ediv_of_nonneg ω;have uh:∃j:{s:List Int×Int×Nat//wk a b s.1 s.2.1 s.2.2},max a.length b.length+2-j.1.2.2<max a.length b.length+2-k/\(jA a b (out++[Int.tmod (bX a k+bX b k+c) 1000000000]) (Int.tdiv (bX a k+bX b k+c) 1000000000) (k+1)).T=(jA a b j.1.1 j.1.2.1 j.1.2.2).T/\(jA a b (out++[Int.tmod (bX a k+bX b k+c) 1000000000]) (Int.tdiv (bX a k+bX b k+c) 1000000000) (k+1)).H=(jA a b j.1.1 j.1.2.1 j.1.2.2).H:=by
   rw [ea,eb,em,ed];exact⟨⟨(_,_,k+1),hn⟩,by show max a.length b.length+2-(k+1)<_;omega,rfl,rfl⟩
  have q1: -9223372036854775808<=bX a k+bX b k/\bX a k+bX b k<=9223372036854775807:=by rw [ea,eb];omega
  have aQ: -9223372036854775808<=bX a k+bX b k+c/\bX a k+bX b k+c<=9223372036854775807:=by rw [ea,eb];omega
  have b8: -9223372036854775808<=Int.tdiv (bX a k+bX b k+c) 1000000000/\Int.tdiv (bX a k+bX b k+c) 1000000000<=9223372036854775807:=by rw [ea,eb,ed];omega
  by_cases h1:k<a.length
  .exact bE (s:=jA a b out c k) hS (afI a b out c k ω hk0 q1 aQ ω b8 ω (qP _ _) (ug _ _)) uh
  .by_cases h2:k<b.length
   .exact bE (s:=jA a b out c k) hS (afJ a b out c k ω ω hk0 q1 aQ ω b8 ω (qP _ _) (ug _ _)) uh
   .exact bE (s:=jA a b out c k) hS (afK a b out c k ω ω ω hk0 q1 aQ ω b8 ω (qP _ _) (ug _ _)) uh
 .refine bE (s:=jA a b out c k) hS (afL a b out c k ω ω ω) ?_;refine cG (cO ?_);rw [<-hI.fin ha hb ta tb ω ω ω];have ho:=AB 3 out;refine aW.vO (s:=jA a b out c k) known mixed hS _ (afM a b out c k τ ?_ (fun h=>by cases h)) fun T H h=> ?_
  .by_cases hz:out.length=0
   .exact .inl hz
   .rw [Bool.or_eq_true]at ho;rw [aw];exact .inr (ho.resolve_left fun e=>hz (ac e))
  .exact h
def af4:TC.Ok prog:=fun⟨a,b,_⟩ h=>by
 obtain⟨h1,h2⟩:=ma.1 h;exact af3 a b h1 h2
structure LZ (a b out:List Int) (c:Int) (k:Nat):Prop where
 dg:aS 1000000000 out
 len:out.length=k
 qo:c=0\/c=1
 val:ag out-1000000000^k*c=ag (a.take k)-ag (b.take k)
def af5 (a b:List Int) (h:okA a=true) (g:okA b=true) (hle:ag b<=ag a):Holds prog false 135 [lv a,lv b] (lv (aG (ag a-ag b))):=by
 obtain⟨ha,ta,la⟩:=fk.1 h;obtain⟨hb,tb,lb⟩:=fk.1 g;have hS:=Gh;refine bL (c:=wj) func135 rfl rfl fun w0 F=> ?_
 refine cP hS 4 (afN a b) ?_;refine aW.loop (ι:={s:List Int×Int×Nat//s.2.2<=a.length/\LZ a b s.1 s.2.1 s.2.2}) (id:=0) (b:=cat wj pM) (rest:=(fl wj []).drop 5) (by kernel_rfl) (fun s=>oq a b s.1.1 s.1.2.1 s.1.2.2) (fun s=>a.length-s.1.2.2) ⟨([],0,0),Nat.zero_le _, .nil,rfl, .inl rfl,by simp [ag,vl]⟩ (fun _=>rfl) ?_;rintro⟨⟨out,c,k⟩,hk,hI⟩;have hk:k<=a.length:=hk;have hI:LZ a b out c k:=hI;have g1:=ha.get δ k;have g2:=hb.get δ k;have LY:=hI.qo;have hlo:=hI.len;have hk0:(0:Int)<=(k:Int):=by omega
 have eb:=LX b k;have hstep:∀d c':Int,0<=d/\d<1000000000->(c'=0\/c'=1)->d-1000000000*c'=a.getD k 0-b.getD k 0-c->LZ a b (out++[d]) c' (k+1):=fun d c' hd tK he=>by
  refine⟨hI.dg.app (.cons hd .nil),by simp [hlo],tK, ?_⟩;have e:ag (out++[d])=ag out+1000000000^k*d:=by rw [<-hlo];exact yc _ _ _
  rw [e,Gi,Gi,Int.pow_succ];exact Tb he hI.val
 by_cases hlt:k<a.length
 .by_cases hs:a.getD k 0-bX b k-c<0
  .refine bE (s:=oq a b out c k) hS (afP a b out c k ω hlt hk0 (by rw [eb];omega) (by rw [eb];omega) hs (by rw [eb];omega) ω ω (qP _ _) (ug _ _)) ?_;rw [eb]at hs ⊢;exact⟨⟨(_,1,k+1),hlt,hstep _ 1 ω (.inr rfl) ω⟩,by show a.length-(k+1)<a.length-k;omega,rfl,rfl⟩
  .refine bE (s:=oq a b out c k) hS (afO a b out c k ω hlt hk0 (by rw [eb];omega) (by rw [eb];omega) hs ω ω (qP _ _) (ug _ _)) ?_;rw [eb]at hs ⊢;exact⟨⟨(_,0,k+1),hlt,hstep _ 0 ω (.inl rfl) ω⟩,by show a.length-(k+1)<a.length-k;omega,rfl,rfl⟩
 .refine bE (s:=oq a b out c k) hS (afQ a b out c k ω) ?_;refine cG (cO ?_);obtain rfl:k=a.length:=by omega
  have hxl:ag a<1000000000^a.length:=fK δ ha;have mb:ag (b.take a.length)=ag b:=C1 δ hb (show ag b<_ by omega);have hv:ag out=ag a-ag b:=by
   have h1:=hI.val;have h2:ag out<1000000000^a.length:=by rw [<-hlo];exact fK δ hI.dg
   rw [dI,mb]at h1;rcases LY with rfl |rfl
   .omega
   .omega
  have key:=afR a b out c a.length (AB _ out) (by rw [List.drop_zero,dI];omega);rw [List.drop_zero,dI,yj hI.dg,hv]at key;exact b5 (s:=oq a b out c a.length) hS key
def af6:TD.Ok prog:=fun⟨a,b,_⟩ h=>by
 have h:(v6 a b&&decide (ag b<=ag a))=true:=h;rw [ae]at h;obtain⟨h1,h2⟩:=ma.1 h.1;exact af5 a b h1 h2 (ap h.2)
def L0 (n:Nat):aS 1000000000 (gi n):=aS.rep δ n
def d8 (n:Nat):(gi n).length=n:=List.length_replicate
def L1 (n:Nat):(List.replicate n (List.map af.raw (Array.toList #[Value.int IntKind.i64 (0:Int)]))).flatten=(gi n).flatMap (fun x=>[af.raw (Value.int IntKind.i64 x)]):=by
 unfold gi;induction n with
 |zero=>rfl
 |succ n ih=>rw [List.replicate_succ,List.replicate_succ,List.flatten_cons,List.flatMap_cons,ih];rfl
def af7 {o x y c:Int} (ho:0<=o/\o<1000000000) (hx:0<=x/\x<1000000000) (hy:0<=y/\y<1000000000) (hc:0<=c/\c<1000000000):
  (0<=x*y/\x*y<=999999998000000001)/\Int.tmod (o+x*y+c) 1000000000+1000000000*Int.tdiv (o+x*y+c) 1000000000=x*y+o+c/\(0<=Int.tmod (o+x*y+c) 1000000000/\Int.tmod (o+x*y+c) 1000000000<1000000000)/\(0<=Int.tdiv (o+x*y+c) 1000000000/\Int.tdiv (o+x*y+c) 1000000000<1000000000):=by
 have h0:0<=x*y:=Int.mul_nonneg hx.1 hy.1;have h1:x*y<=999999999*999999999:=Int.mul_le_mul ω ω hy.1 δ;rw [Int.tmod_eq_emod_of_nonneg ω,Int.tdiv_eq_ediv_of_nonneg ω];generalize x*y=p at*;omega
def af8 (x y:List Int) (h:okB x=true) (g:okB y=true):Holds prog false 136 [lv x,lv y] (lv (aG (ag x*ag y))):=by
 obtain⟨hx,lx⟩:=oh.1 h;obtain⟨hy,ly⟩:=oh.1 g;have hS:=Gh;have e1:((x.length:Int)+(y.length:Int)).toNat=x.length+y.length:=by omega
 refine bL (c:=lM) func136 rfl rfl fun w0 F=> ?_
 refine cP hS 3 (afS x y ω ω (by rw [d8,e1]) (by rw [e1]) (by rw [d8]) (by rw [e1];exact L1 _) (by rw [d8])) ?_;refine aW.loop (ι:={s:List Int×Nat//s.2<=x.length/\s.1.length=x.length+y.length/\aS 1000000000 s.1/\ag s.1=ag (x.take s.2)*ag y/\∀k,s.2+y.length<=k->s.1.getD k 0=0}) (id:=0) (b:=cat lM Dc) (rest:=(fl lM []).drop 4) (by kernel_rfl) (fun s=>kZ x y s.1.1 s.1.2) (fun s=>x.length-s.1.2)
  ⟨(gi (x.length+y.length),0),Nat.zero_le _,d8 _,L0 _,by
    show vl _ (List.replicate _ 0)=vl _ (x.take 0)*_;rw [CZ];simp [vl],fun k _=>by
    show(List.replicate _ (0:Int)).getD k 0=0;rw [ao,List.getElem?_replicate];split<;>rfl⟩ (fun _=>rfl) ?_
 rintro⟨⟨out,i⟩,hi,ho,iO,hval,hz⟩;have hi:i<=x.length:=hi;have ho:out.length=x.length+y.length:=ho;have iO:aS 1000000000 out:=iO;have hval:ag out=ag (x.take i)*ag y:=hval;have hz:∀k,i+y.length<=k->out.getD k 0=0:=hz;by_cases hlt:i<x.length
 .have wh:=hx.get δ i;refine cX (s:=kZ x y out i) hS 2 (afT x y out i ω) ?_;refine FP (id:=1) (c:=cat lM Gg) (rest:=(fl lM Dc).drop 3) (by kernel_rfl) ?_;refine cX (s:=kZ x y out i) hS 2 (afV x y out i) ?_;refine aW.loop (ι:={s:List Int×Int×Nat//s.2.2<=y.length/\s.1.length=x.length+y.length/\aS 1000000000 s.1/\(0<=s.2.1/\s.2.1<1000000000)/\ag s.1+1000000000^(i+s.2.2)*s.2.1=ag out+1000000000^i*(x.getD i 0*ag (y.take s.2.2))/\∀k,i+y.length<=k->s.1.getD k 0=0}) (id:=2) (b:=cat lM LV) (rest:=(fl lM Gg).drop 3) (by kernel_rfl) (fun s=>qX x y s.1.1 i s.1.2.1 s.1.2.2) (fun s=>y.length-s.1.2.2)
   ⟨(out,0,0),Nat.zero_le _,ho,iO,⟨Int.le_refl 0,show(0:Int)<1000000000 by decide⟩,by simp [ag,vl],hz⟩ (fun _=>rfl) ?_
  rintro⟨⟨cU,c,j⟩,hj,nr,qW,hc,hinv,nt⟩;have hj:j<=y.length:=hj;have nr:cU.length=x.length+y.length:=nr;have qW:aS 1000000000 cU:=qW;have hc:0<=c/\c<1000000000:=hc;have hinv:ag cU+1000000000^(i+j)*c=ag out+1000000000^i*(x.getD i 0*ag (y.take j)):=hinv;have nt:∀k,i+y.length<=k->cU.getD k 0=0:=nt;have e2:((i:Int)+(j:Int)).toNat=i+j:=by omega
  have e3:((i:Int)+(y.length:Int)).toNat=i+y.length:=by omega
  by_cases hlj:j<y.length
  .have Gf:=hy.get δ j;have zZ:=qW.get δ (i+j);obtain⟨g0,g1,g2,g3⟩:=af7 zZ wh Gf hc;have key:=afW x y cU i c j ω ω ω hlt hlj ω;rw [e2]at key;refine bE (s:=qX x y cU i c j) (s':=qX x y (cU.set (i+j) (Int.tmod (cU.getD (i+j) 0+x.getD i 0*y.getD j 0+c) 1000000000)) i (Int.tdiv (cU.getD (i+j) 0+x.getD i 0*y.getD j 0+c) 1000000000) (j+1)) hS (key ω ω ω ω (by rw [b9]) (by rw [b9])) ?_;refine⟨⟨(cU.set (i+j) (Int.tmod (cU.getD (i+j) 0+x.getD i 0*y.getD j 0+c) 1000000000),Int.tdiv (cU.getD (i+j) 0+x.getD i 0*y.getD j 0+c) 1000000000,j+1),hlj,by rw [b9];exact nr,qW.set g2,g3, ?_,fun k hk=> ?_⟩,by show y.length-(j+1)<y.length-j;omega,rfl,rfl⟩
   .show vl 1000000000 (cU.set (i+j) (Int.tmod (cU.getD (i+j) 0+x.getD i 0*y.getD j 0+c) 1000000000))+1000000000^(i+(j+1))*Int.tdiv (cU.getD (i+j) 0+x.getD i 0*y.getD j 0+c) 1000000000=vl 1000000000 out+1000000000^i*(x.getD i 0*vl 1000000000 (y.take (j+1)));rw [qM _ _ _ _ ω,<-Nat.add_assoc,Int.pow_succ,kQ,Int.mul_add,Int.mul_add];have:=TB (W:=0) g1 hinv;unfold ag at this;rw [this,Int.add_assoc,Int.pow_add];congr 2;rw [Int.mul_assoc,Int.mul_left_comm (x.getD i 0)]
   .show(cU.set (i+j) _).getD k 0=0;rw [ao,List.getElem?_set_ne ω,<-ao];exact nt k hk
  .refine bE (s:=qX x y cU i c j) hS (afX x y cU i c j ω) ?_;refine cG (cO ?_);obtain rfl:j=y.length:=by omega
   have hk0:=nt (i+y.length) (aJ _);have key:=afY x y cU i c y.length ω ω;rw [e3,hk0,Int.zero_add]at key;refine bE (s:=qX x y cU i c y.length) (s':=kZ x y (cU.set (i+y.length) c) i) hS (key ω (by rw [b9]) (by rw [b9])) ?_;refine bE (s:=kZ x y (cU.set (i+y.length) c) i) hS (afZ x y (cU.set (i+y.length) c) i ω) ?_;refine⟨⟨(cU.set (i+y.length) c,i+1),hlt,by rw [b9];exact nr,qW.set hc, ?_,fun k hk=> ?_⟩,by show x.length-(i+1)<x.length-i;omega,rfl,rfl⟩
   .show vl _ (cU.set (i+y.length) c)=vl _ (x.take (i+1))*_;rw [qM _ _ _ _ ω,hk0,Int.sub_zero,kQ,Int.add_mul,Int.mul_assoc];rw [dI,hval]at hinv;exact hinv
   .show(cU.set (i+y.length) c).getD k 0=0;rw [ao,List.getElem?_set_ne ω,<-ao];exact nt k ω
 .refine cX (s:=kZ x y out i) hS 2 (afU x y out i ω) ?_;refine cG (cG (cO ?_));obtain rfl:i=x.length:=by omega
  rw [dI]at hval;have key:=af0 x y out x.length (AB _ out) (by rw [List.drop_zero,dI];omega);rw [List.drop_zero,dI,yj iO,hval]at key;exact b5 (s:=kZ x y out x.length) hS key
def TE:LW.Ok prog:=fun⟨a,b,_⟩ h=>by
 have h:(okB a&&okB b)=true:=h;rw [ae]at h;exact af8 a b h.1 h.2
end
abbrev aC:=Int×List Int
def aj (a:aC):Int:=if a.2=[]then a.1 else a.1*ak a.2
noncomputable def aY (z:Int):Int×List Int:=if-9223372036854775807<=z/\z<=9223372036854775807 then(z,[])else(if z<0 then-1 else 1,cQ 18446744073709551616 z.natAbs)
def gF (z:Int):Bool:=decide (-9223372036854775808<=z)&&decide (z<=9223372036854775807)
def iz (a:aC):Bool:=List.isEmpty (α:=Int) a.2
def aV (n:Nat) (a:aC):Bool:=match a.2 with
 |[]=>gF a.1
 |x::l=>(a.1==1||a.1== -1)&&(gO (x::l)&&(jz (x::l)&&(decide (9223372036854775807<ak (x::l))&&decide ((x::l).length<=n))))
def az (a:aC):Bool:=aV 100000 a
def cn (n:Int):Int:=n.natAbs
def aA (a:aC):List Int:=if a.2=[]then(if a.1=0 then []else [cn a.1])else a.2
def bZ (a:aC):Bool:=decide (a.1<0)
noncomputable def cu (a b:aC):Int×List Int:=if iz a&&(iz b&&gF (a.1+b.1))then(a.1+b.1,[])else aY (aj a+aj b)
noncomputable def ba (a b:aC):Int×List Int:=aY (aj a*aj b)
noncomputable def eZ (a:aC):Int×List Int:=aY (-aj a)
noncomputable def sE (a:aC):Int×List Int:=aY (aj a).natAbs
noncomputable def cx (a b:aC):Int×List Int:=cu a (eZ b)
def j6 (z:Int):Int:=if z<0 then-1 else if z=0 then 0 else 1
def gG (a:aC):Int:=j6 (aj a)
def fH (a b:aC):Int:=j6 (aj a-aj b)
def L2 {x:Int} (h:0<=x/\x<18446744073709551616):aS 18446744073709551616 [x]:= .cons h .nil
def TF {x:Int} (h:x≠0):e9 [x]:=e9.cons .nil fun _=>h
def qS (x:Int):ak [x]=x:=r0 _ _
def qY {z:Int}:gF z=true↔ -9223372036854775808<=z/\z<=9223372036854775807:=by
 unfold gF;rw [ae,bA,bA]
def dh {a:aC}:iz a=true↔a.2=[]:=by unfold iz;exact List.isEmpty_iff
def r9 {a:aC}:iz a=false↔a.2≠[]:=by
 constructor
 .intro h e;rw [dh.2 e]at h;cases h
 .intro h;cases hs:iz a with
  |false=>rfl
  |true=>exact absurd (dh.1 hs) h
def lN {a:aC} (h:a.2=[]):aj a=a.1:=by unfold aj;rw [if_pos h]
section
variable {n:Nat} {a:aC}
def ot (h:a.2=[]):aV n a=gF a.1:=by unfold aV;rw [h]
def sg (h:a.2≠[]):aV n a=true↔(a.1=1\/a.1= -1)/\aS 18446744073709551616 a.2/\e9 a.2/\9223372036854775807<ak a.2/\a.2.length<=n:=by
 obtain⟨s,w⟩:=a;cases w with
 |nil=>exact absurd rfl h
 |cons x l=>
  unfold aV;simp only [ae,Bool.or_eq_true,bA,fP,hG,qU]
def kr (h:aV n a=true):aS 18446744073709551616 (aA a)/\e9 (aA a)/\ak (aA a)=(aj a).natAbs/\(bZ a=true↔aj a<0)/\(aA a).length<=max n 1:=by
 by_cases hs:a.2=[]
 .rw [ot hs]at h;have h:=qY.1 h;have hv:=lN hs;have hn:bZ a=true↔aj a<0:=by unfold bZ;rw [hv,bA]
  unfold aA;rw [if_pos hs,hv];by_cases h0:a.1=0
  .rw [if_pos h0,h0];exact⟨.nil, .nil,rfl,by rw [<-hv]at h0;rw [hn,h0],by simp⟩
  .rw [if_neg h0];refine⟨L2 (by unfold cn;omega),TF (by unfold cn;omega),by rw [qS];rfl,by rw [hn,hv],by simp;omega⟩
 .obtain⟨h1,h2,h3,h4,h5⟩:=(sg hs).1 h;unfold aA bZ;rw [if_neg hs];have hv:aj a=a.1*ak a.2:=by unfold aj;rw [if_neg hs]
  refine⟨h2,h3, ?_, ?_,by omega⟩
  .rw [hv];rcases h1 with h1|h1<;>rw [h1]<;>omega
  .rw [hv,bA];rcases h1 with h1|h1<;>rw [h1]<;>omega
def jB (h:aV n a=true) (hn:1<=n):((aj a).natAbs:Int)<18446744073709551616^n:=by
 obtain⟨h1,_,h3,_,h5⟩:=kr h;have h6:=fK (b:=18446744073709551616) δ h1;have h7:=iN (b:=18446744073709551616) δ (show(aA a).length<=n by omega);unfold ak at h3;omega
end
def yo {b z:Int} {n:Nat} (hb:1<b) (h0:0<=z) (h:z<b^n):(cQ b z).length<=n:=by
 obtain⟨h1,h2,h3⟩:=qN hb h0;cases hl:(cQ b z).length with
 |zero=>omega
 |succ k=>
  have h4:=yd ω h1 h2 hl;rw [h3]at h4;by_cases hk:k+1<=n
  .exact hk
  .have:=iN (show 1<=b by omega) (show n<=k by omega);omega
def L3 {b:Int} (hb:1<b):cQ b 0=[]:=(fp hb .nil .nil rfl).symm
def AH {b z:Int} (hb:1<b) (h:0<z):cQ b z≠[]:=fun e=>by
 obtain⟨_,_,h3⟩:=qN hb (cq h);rw [e]at h3;simp [vl]at h3;omega
def jC {n:Nat} {z:Int} (h:(z.natAbs:Int)<18446744073709551616^n):aV n (aY z)=true/\aj (aY z)=z:=by
 unfold aY;split
 .rename_i hz;exact⟨by rw [ot rfl];exact qY.2 ⟨by omega,hz.2⟩,lN rfl⟩
 .rename_i hz;have h0:0<(z.natAbs:Int):=by omega
  obtain⟨h1,h2,h3⟩:=qN (b:=18446744073709551616) δ (cq h0);have hne:=AH (b:=18446744073709551616) δ h0;refine⟨(sg hne).2 ⟨?_,h1,h2, ?_,yo δ (cq h0) h⟩, ?_⟩
  .show(if z<0 then(-1:Int)else 1)=1\/_;split
   .exact .inr rfl
   .exact .inl rfl
  .show 9223372036854775807<vl _ _;rw [h3];omega
  .unfold aj;rw [if_neg hne];show(if z<0 then(-1:Int)else 1)*vl _ _=z;rw [h3];split<;>omega
def val_mk (z:Int):aj (aY z)=z:=by
 have:(z.natAbs:Int)<18446744073709551616^(z.natAbs+1):=by
  have:∀n:Nat,(n:Int)<18446744073709551616^(n+1):=fun n=>by
   induction n with
   |zero=>decide
   |succ n ih=>rw [Int.pow_succ];omega
  exact this _
 exact(jC this).2
def Gj {n:Nat} {a:aC} (h:aV n a=true) (hv:aj a≠ -9223372036854775808):a=aY (aj a):=by
 obtain⟨s,w⟩:=a;by_cases hs:w=[]
 .subst hs;have h:gF s=true:=h;have h:=qY.1 h;have hv:s≠ -9223372036854775808:=hv;show(s,[])=aY s;unfold aY;rw [if_pos ⟨by omega,h.2⟩]
 .obtain⟨h1,h2,h3,h4,h5⟩:=(sg (a:=(s,w)) hs).1 h;have e:aj (s,w)=s*ak w:=by unfold aj;rw [if_neg hs]
  rw [e]at hv ⊢;have h1:s=1\/s= -1:=h1;have h4:9223372036854775807<ak w:=h4;have hd:w=cQ 18446744073709551616 (ak w):=fp δ h2 h3 rfl;unfold aY;rcases h1 with rfl |rfl
  .rw [if_neg ω,if_neg ω,show((1*ak w).natAbs:Int)=ak w by omega,<-hd]
  .rw [if_neg ω,if_pos ω,show((-1*ak w).natAbs:Int)=ak w by omega,<-hd]
def si (a b:aC):aj (cu a b)=aj a+aj b:=by
 unfold cu;split
 .rename_i h;simp only [ae]at h;rw [lN rfl,lN (dh.1 h.1),lN (dh.1 h.2.1)]
 .exact val_mk _
def uk {n:Nat} {a b:aC} (h:((aj a+aj b).natAbs:Int)<18446744073709551616^n):aV n (cu a b)=true:=by
 unfold cu;split
 .rename_i h;simp only [ae]at h;rw [ot rfl];exact h.2.2
 .exact(jC h).1
def L4 {z:Int} (h:0<z):j6 z=1:=by unfold j6;rw [if_neg ω,if_neg ω]
def Gk {z:Int} (h:z<0):j6 z= -1:=by unfold j6;rw [if_pos h]
def af9:j6 0=0:=by decide
end Go.Proofs.YtibikmmdbdlafaaGreatDoor
