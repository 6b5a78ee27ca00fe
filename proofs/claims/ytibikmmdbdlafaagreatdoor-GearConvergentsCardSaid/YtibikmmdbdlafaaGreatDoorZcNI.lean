import Derived.Test.YtibikmmdbdlafaaGreatDoorZcDig2
import Derived.Shelf.Small.Bits
import Derived.Shelf.Small.Wraps
import Derived.Shelf.Strconv.Atoi
import Derived.Shelf.Strconv.Itoa3
import Derived.Shelf.Strings.Shaped
import Derived.Shelf.Sort.Plain
import Derived.Shelf.Strings.Repeat
import Derived.Shelf.Slices.Turned
import Derived.Shelf.Slices.Clone
import Derived.Shelf.Slices.SearchI
import Derived.Shelf.Slices.Cells
import Derived.Shelf.Slices.In.SortNone
set_option linter.defProp false
set_option linter.unusedSimpArgs false
set_option linter.unusedVariables false
set_option maxRecDepth 100000
namespace Go.Proofs.YtibikmmdbdlafaaGreatDoor
open Go.RowKit Sv Go.Proofs.Tryz
noncomputable section
def kY:=bc [Gf]
def c8 (a b c:Int):Int:=(((a.toNat+b.toNat+c.toNat)%2^64:Nat):Int)
def dX (a b c:Int):Int:=(((a.toNat+b.toNat+c.toNat)/2^64:Nat):Int)
def dx (a b c:Int):Int:=(((a.toNat+2^64-b.toNat-c.toNat)%2^64:Nat):Int)
def eA (a b c:Int):Int:=((if a.toNat<b.toNat+c.toNat then 1 else 0:Nat):Int)
def cG (n:Nat):List Int:=List.replicate n 0
def mP:=k_a f144
def oh:=k_a f146
abbrev AY:List Nat:=[1,1,1,1,0,1,0,0]
def fR (x y out:List Int) (c:Int) (i:Nat):bD:={n:=54,sl:=[(0,bI x),(1,bI y),(5,qV 64 out),(6,cu c),(21,iv x.length),(22,iv i)],bJ:=[(64,qW out)],next:=65}
def Gg (out:List Int):bD:={n:=54,sl:=[(5,qV 64 out)],bJ:=[(64,qW out)],next:=65}
def Gh (out:List Int):bD:={n:=54,sl:=[(5,bI out)],bJ:=[],next:=64}
def aeb (x y:List Int) (h1:¬(x.length:Int)<(y.length:Int)) (h2: -9223372036854775808<=(x.length:Int)+1/\(x.length:Int)+1<=9223372036854775807) (h3:((x.length:Int)+1).toNat<=1000000) (h4:(((x.length:Int)+1).toNat)=(cG (x.length+(1:Nat))).length) (h5:(aX.known ((x.length:Int)+1).toNat)=(aX.known (x.length+(1:Nat)))) (h6:(bH (cG (x.length+(1:Nat))).length)=(bH (x.length+(1:Nat)))) (h7:(List.flatten (List.replicate ((x.length:Int)+1).toNat (List.map aa.raw (Array.toList #[Value.int .u64 (0:Int)]))))=(List.flatMap (fun x=>[aa.raw (Value.int .u64 x)]) (cG (x.length+(1:Nat))))) (h8:(x.length+(1:Nat))=(cG (x.length+(1:Nat))).length):
  aD.path (pF prog kY (fl mP []) 6 54 [bI x,bI y]) (dl 2) (ef prog 54 .normal [(64,64,some (x.length+1))] (fR x y (cG (x.length+1)) 0 0)):=
 mp (Lv (ab h1) (eN h2) rt rt (show(decide (((x.length:Int)+1).toNat<=((x.length:Int)+1).toNat))=true from az ω) (og (show(bounded ((x.length:Int)+1).toNat (8:Nat))=true from pH h3 ω) (rr x) (rr y) (an h4 (an h5 h6)) (rr (0:Int)) (rr (x.length:Int)) (rr (0:Int)) (an h7 h8) trivial))
def aec (x y:List Int) (h1:(x.length:Int)<(y.length:Int)) (h2: -9223372036854775808<=(y.length:Int)+1/\(y.length:Int)+1<=9223372036854775807) (h3:((y.length:Int)+1).toNat<=1000000) (h4:(((y.length:Int)+1).toNat)=(cG (y.length+(1:Nat))).length) (h5:(aX.known ((y.length:Int)+1).toNat)=(aX.known (y.length+(1:Nat)))) (h6:(bH (cG (y.length+(1:Nat))).length)=(bH (y.length+(1:Nat)))) (h7:(List.flatten (List.replicate ((y.length:Int)+1).toNat (List.map aa.raw (Array.toList #[Value.int .u64 (0:Int)]))))=(List.flatMap (fun x=>[aa.raw (Value.int .u64 x)]) (cG (y.length+(1:Nat))))) (h8:(y.length+(1:Nat))=(cG (y.length+(1:Nat))).length):
  aD.path (pF prog kY (fl mP []) 6 54 [bI x,bI y]) (dl 3) (ef prog 54 .normal [(64,64,some (y.length+1))] (fR y x (cG (y.length+1)) 0 0)):=
 mp (Lv (az h1) (eN h2) rt rt (show(decide (((y.length:Int)+1).toNat<=((y.length:Int)+1).toNat))=true from az ω) (og (show(bounded ((y.length:Int)+1).toNat (8:Nat))=true from pH h3 ω) (rr y) (rr x) (an h4 (an h5 h6)) (rr (0:Int)) (rr (y.length:Int)) (rr (0:Int)) (an h7 h8) trivial))
section
variable (x y out:List Int) (i:Nat) (h1:(i:Int)<(x.length:Int))
def aed (h2:(i:Int)<(y.length:Int)) (h3:i<y.length) (h4:i<x.length) (h5:i<out.length) (h6:i6 ((i:Int)+1)) (h7:out.length=(out.set i (c8 (x.getD i 0) (y.getD i 0) 0)).length) (h8:(bH out.length)=(bH (out.set i (c8 (x.getD i 0) (y.getD i 0) 0)).length)) (h9:(↑(((x.getD i 0).toNat+(y.getD i 0).toNat+Int.toNat 0)/(2:Nat)^(64:Nat)):Int)=(dX (x.getD i 0) (y.getD i 0) 0)) (h10:(out.set i (↑(((x.getD i 0).toNat+(y.getD i 0).toNat+Int.toNat 0)%(2:Nat)^(64:Nat)):Int))=(out.set i (c8 (x.getD i 0) (y.getD i 0) 0))):
  bt kY (fl mP AY) (fR x y out 0 i) 7 .normal [(64,64,none)] (fR x y (out.set i (c8 (x.getD i 0) (y.getD i 0) 0)) (dX (x.getD i 0) (y.getD i 0) 0) (i+1)):=
 wy [ah h1,ah h2,ah h3,ah h4,ah h5,jf 167 aE h5,yi h6,ax h7,ax h8,ax h9,mM 167 aE h10] 3569716646146256639964958679629953
def aee (h2:¬(i:Int)<(y.length:Int)) (h3:i<x.length) (h4:i<out.length) (h5:i6 ((i:Int)+1)) (h6:out.length=(out.set i (c8 (x.getD i 0) 0 0)).length) (h7:(bH out.length)=(bH (out.set i (c8 (x.getD i 0) 0 0)).length)) (h8:(↑(((x.getD i 0).toNat+Int.toNat 0+Int.toNat 0)/(2:Nat)^(64:Nat)):Int)=(dX (x.getD i 0) 0 0)) (h9:(out.set i (↑(((x.getD i 0).toNat+Int.toNat 0+Int.toNat 0)%(2:Nat)^(64:Nat)):Int))=(out.set i (c8 (x.getD i 0) 0 0))):
  bt kY (fl mP AY) (fR x y out 0 i) 5 .normal [(64,64,none)] (fR x y (out.set i (c8 (x.getD i 0) 0 0)) (dX (x.getD i 0) 0 0) (i+1)):=
 wy [ah h1,aJ h2,ah h3,ah h4,jf 167 aE h4,yi h5,ax h6,ax h7,ax h8,mM 167 aE h9] 792284383521178232608283951233
def aef (h2:(i:Int)<(y.length:Int)) (h3:i<y.length) (h4:i<x.length) (h5:i<out.length) (h6:i6 ((i:Int)+1)) (h7:out.length=(out.set i (c8 (x.getD i 0) (y.getD i 0) 1)).length) (h8:(bH out.length)=(bH (out.set i (c8 (x.getD i 0) (y.getD i 0) 1)).length)) (h9:(↑(((x.getD i 0).toNat+(y.getD i 0).toNat+Int.toNat 1)/(2:Nat)^(64:Nat)):Int)=(dX (x.getD i 0) (y.getD i 0) 1)) (h10:(out.set i (↑(((x.getD i 0).toNat+(y.getD i 0).toNat+Int.toNat 1)%(2:Nat)^(64:Nat)):Int))=(out.set i (c8 (x.getD i 0) (y.getD i 0) 1))):
  bt kY (fl mP AY) (fR x y out 1 i) 7 .normal [(64,64,none)] (fR x y (out.set i (c8 (x.getD i 0) (y.getD i 0) 1)) (dX (x.getD i 0) (y.getD i 0) 1) (i+1)):=
 wy [ah h1,ah h2,ah h3,ah h4,ah h5,jf 167 aE h5,yi h6,ax h7,ax h8,ax h9,mM 167 aE h10] 3569716646146256639964958679629953
def aeg (h2:¬(i:Int)<(y.length:Int)) (h3:i<x.length) (h4:i<out.length) (h5:i6 ((i:Int)+1)) (h6:out.length=(out.set i (c8 (x.getD i 0) 0 1)).length) (h7:(bH out.length)=(bH (out.set i (c8 (x.getD i 0) 0 1)).length)) (h8:(↑(((x.getD i 0).toNat+Int.toNat 0+Int.toNat 1)/(2:Nat)^(64:Nat)):Int)=(dX (x.getD i 0) 0 1)) (h9:(out.set i (↑(((x.getD i 0).toNat+Int.toNat 0+Int.toNat 1)%(2:Nat)^(64:Nat)):Int))=(out.set i (c8 (x.getD i 0) 0 1))):
  bt kY (fl mP AY) (fR x y out 1 i) 5 .normal [(64,64,none)] (fR x y (out.set i (c8 (x.getD i 0) 0 1)) (dX (x.getD i 0) 0 1) (i+1)):=
 wy [ah h1,aJ h2,ah h3,ah h4,jf 167 aE h4,yi h5,ax h6,ax h7,ax h8,mM 167 aE h9] 792284383521178232608283951233
end
def aeh (x y out:List Int) (c:Int) (i:Nat) (h1:¬(i:Int)<(x.length:Int)):
  bt kY (fl mP AY) (fR x y out c i) 2 (.exit 0) [(64,64,none)] (fR x y out c i):=
 wy [aJ h1] 1
def aei (x y out:List Int) (c:Int) (i:Nat) (h1:x.length<out.length) (h2:out.length=(out.set x.length c).length) (h3:(bH out.length)=(bH (out.set x.length c).length)):
  cY kY ((fl mP []).drop 7) 1 (fR x y out c i) 1 .normal [(64,64,none)] (Gg (out.set x.length c)):=
 wy [ah h1,jf 167 aE h1,ax h2,ax h3,mM 167 aE (Eq.refl (out.set x.length c))] 347942690880
def aej (out:List Int):
  aD.path (aD.ret (R.normal ((Gg out).T.set 5 (some (bI out))) ((Gg out).H.drop 64) []):aD R) (dl 1) (ef prog 54 .normal [] (Gh out)):=
 wy [] 0
def aek (out:List Int) (h1:out.length<=1000000):
  bS kY ((fl mP []).drop 8) (Gh out) 1 f144 false (bI (dS out)):=
 wy [ah h1] 1
abbrev AZ:List Nat:=[1,1,1,0,1,0,0]
def fZ (x y out:List Int) (c:Int) (i:Nat):bD:={n:=41,sl:=[(0,bI x),(1,bI y),(5,qV 64 out),(6,cu c),(13,iv x.length),(14,iv i)],bJ:=[(64,qW out)],next:=65}
def Gi (out:List Int):bD:={n:=41,sl:=[(5,bI out)],bJ:=[],next:=64}
def ael (x y:List Int) (h1:x.length<=1000000) (h2:x.length=(cG x.length).length) (h3:(bH (cG x.length).length)=(bH x.length)) (h4:(List.flatten (List.replicate x.length (List.map aa.raw (Array.toList #[Value.int .u64 (0:Int)]))))=(List.flatMap (fun x=>[aa.raw (Value.int .u64 x)]) (cG x.length))):
  aD.path (pF prog kY (fl oh []) 4 41 [bI x,bI y]) (dl 1) (ef prog 41 .normal [(64,64,some x.length)] (fZ x y (cG x.length) 0 0)):=
 mp (F9 rt rt (show(decide (x.length<=x.length))=true from az ω) (og (show(bounded x.length (8:Nat))=true from pH h1 ω) (rr x) (rr y) (an h2 (an (rr (aX.known x.length)) h3)) (rr (0:Int)) (rr (x.length:Int)) (rr (0:Int)) (an h4 h2) trivial))
section
variable (x y out:List Int) (i:Nat) (h1:(i:Int)<(x.length:Int))
def aem (h2:(i:Int)<(y.length:Int)) (h3:i<y.length) (h4:i<x.length) (h5:i<out.length) (h6:i6 ((i:Int)+1)) (h7:out.length=(out.set i (dx (x.getD i (0:Int)) (y.getD i (0:Int)) (0:Int))).length) (h8:(bH out.length)=(bH (out.set i (dx (x.getD i (0:Int)) (y.getD i (0:Int)) (0:Int))).length)) (h9:(↑(if Int.toNat (x.getD i (0:Int))<(y.getD i (0:Int)).toNat+Int.toNat (0:Int)then(1:Nat)else(0:Nat)):Int)=(eA (x.getD i (0:Int)) (y.getD i (0:Int)) (0:Int))) (h10:(out.set i (↑(((x.getD i (0:Int)).toNat+(2:Nat)^(64:Nat)-Int.toNat (y.getD i (0:Int))-Int.toNat (0:Int))%(2:Nat)^(64:Nat)):Int))=(out.set i (dx (x.getD i (0:Int)) (y.getD i (0:Int)) (0:Int)))):
  bt kY (fl oh AZ) (fZ x y out 0 i) 7 .normal [(64,64,none)] (fZ x y (out.set i (dx (x.getD i 0) (y.getD i 0) 0)) (eA (x.getD i 0) (y.getD i 0) 0) (i+1)):=
 wy [ah h1,ah h2,ah h3,ah h4,ah h5,jf 167 aE h5,yi h6,ax h7,ax h8,ax h9,mM 167 aE h10] 3569716646146256639964958679629953
def aen (h2:¬(i:Int)<(y.length:Int)) (h3:i<x.length) (h4:i<out.length) (h5:i6 ((i:Int)+1)) (h6:out.length=(out.set i (dx (x.getD i 0) 0 0)).length) (h7:(bH out.length)=(bH (out.set i (dx (x.getD i 0) 0 0)).length)) (h8:(↑(if Int.toNat (x.getD i 0)<Int.toNat 0+Int.toNat 0 then 1 else 0):Int)=(eA (x.getD i 0) 0 0)) (h9:(out.set i (↑(((x.getD i 0).toNat+(2:Nat)^(64:Nat)-Int.toNat 0-Int.toNat 0)%(2:Nat)^(64:Nat)):Int))=(out.set i (dx (x.getD i 0) 0 0))):
  bt kY (fl oh AZ) (fZ x y out 0 i) 5 .normal [(64,64,none)] (fZ x y (out.set i (dx (x.getD i 0) 0 0)) (eA (x.getD i 0) 0 0) (i+1)):=
 wy [ah h1,aJ h2,ah h3,ah h4,jf 167 aE h4,yi h5,ax h6,ax h7,ax h8,mM 167 aE h9] 792284383521178232608283951233
def aeo (h2:(i:Int)<(y.length:Int)) (h3:i<y.length) (h4:i<x.length) (h5:i<out.length) (h6:i6 ((i:Int)+1)) (h7:out.length=(out.set i (dx (x.getD i (0:Int)) (y.getD i (0:Int)) (1:Int))).length) (h8:(bH out.length)=(bH (out.set i (dx (x.getD i (0:Int)) (y.getD i (0:Int)) (1:Int))).length)) (h9:(↑(if Int.toNat (x.getD i (0:Int))<(y.getD i (0:Int)).toNat+Int.toNat (1:Int)then(1:Nat)else(0:Nat)):Int)=(eA (x.getD i (0:Int)) (y.getD i (0:Int)) (1:Int))) (h10:(out.set i (↑(((x.getD i (0:Int)).toNat+(2:Nat)^(64:Nat)-Int.toNat (y.getD i (0:Int))-Int.toNat (1:Int))%(2:Nat)^(64:Nat)):Int))=(out.set i (dx (x.getD i (0:Int)) (y.getD i (0:Int)) (1:Int)))):
  bt kY (fl oh AZ) (fZ x y out 1 i) 7 .normal [(64,64,none)] (fZ x y (out.set i (dx (x.getD i 0) (y.getD i 0) 1)) (eA (x.getD i 0) (y.getD i 0) 1) (i+1)):=
 wy [ah h1,ah h2,ah h3,ah h4,ah h5,jf 167 aE h5,yi h6,ax h7,ax h8,ax h9,mM 167 aE h10] 3569716646146256639964958679629953
def aep (h2:¬(i:Int)<(y.length:Int)) (h3:i<x.length) (h4:i<out.length) (h5:i6 ((i:Int)+1)) (h6:out.length=(out.set i (dx (x.getD i (0:Int)) (0:Int) (1:Int))).length) (h7:(bH out.length)=(bH (out.set i (dx (x.getD i (0:Int)) (0:Int) (1:Int))).length)) (h8:(↑(if Int.toNat (x.getD i (0:Int))<(0:Int).toNat+Int.toNat (1:Int)then(1:Nat)else(0:Nat)):Int)=(eA (x.getD i (0:Int)) (0:Int) (1:Int))) (h9:(out.set i (↑(((x.getD i (0:Int)).toNat+(2:Nat)^(64:Nat)-Int.toNat (0:Int)-Int.toNat (1:Int))%(2:Nat)^(64:Nat)):Int))=(out.set i (dx (x.getD i (0:Int)) (0:Int) (1:Int)))):
  bt kY (fl oh AZ) (fZ x y out 1 i) 5 .normal [(64,64,none)] (fZ x y (out.set i (dx (x.getD i 0) 0 1)) (eA (x.getD i 0) 0 1) (i+1)):=
 wy [ah h1,aJ h2,ah h3,ah h4,jf 167 aE h4,yi h5,ax h6,ax h7,ax h8,mM 167 aE h9] 792284383521178232608283951233
end
def aeq (x y out:List Int) (c:Int) (i:Nat) (h1:¬(i:Int)<(x.length:Int)):
  bt kY (fl oh AZ) (fZ x y out c i) 2 (.exit 0) [(64,64,none)] (fZ x y out c i):=
 wy [aJ h1] 1
def So (x y out:List Int) (c:Int) (i:Nat):
  aD.path (aD.ret (R.normal ((fZ x y out c i).T.set 5 (some (bI out))) ((fZ x y out c i).H.drop 64) []):aD R) (dl 1) (ef prog 41 .normal [] (Gi out)):=
 wy [] 0
def Sp (out:List Int) (h1:out.length<=1000000):
  bS kY ((fl oh []).drop 5) (Gi out) 1 f146 false (bI (dS out)):=
 wy [ah h1] 1
def kZ (x y:List Int):Bool:=gR x&&(gR y&&(decide (x.length<=400000)&&decide (y.length<=400000)))
def wG (x y:List Int):List Int:=cO 18446744073709551616 (ak x+ak y)
def pI (x y:List Int):List Int:=cO 18446744073709551616 (ak x-ak y)
def Tn:=IN 144 [.list false aE, .list false aE] [.list false aE] false (fun d=>kZ d.1 d.2.1) fun d=>(wG d.1 d.2.1,())
def To:=IN 146 [.list false aE, .list false aE] [.list false aE] false (fun d=>kZ d.1 d.2.1&&decide (ak d.2.1<=ak d.1)) fun d=>(pI d.1 d.2.1,())
def Gj:bC prog (bF kY):=uz LA
def hM {l:List Int}:gR l=true↔aS 18446744073709551616 l:=by
 unfold gR aS;simp only [List.all_eq_true,ae,bE]
def Dn:(1:Int)<18446744073709551616:=by decide
def Dp {a b c:Int} (ha:0<=a/\a<18446744073709551616) (hb:0<=b/\b<18446744073709551616) (hc:c=0\/c=1):
  c8 a b c+18446744073709551616*dX a b c=a+b+c/\(0<=c8 a b c/\c8 a b c<18446744073709551616)/\(dX a b c=0\/dX a b c=1):=by
 unfold c8 dX;rw [show(2:Nat)^64=18446744073709551616 from rfl];rcases hc with rfl |rfl<;>omega
def LC {a b c:Int} (ha:0<=a/\a<18446744073709551616) (hb:0<=b/\b<18446744073709551616) (hc:c=0\/c=1):
  dx a b c-18446744073709551616*eA a b c=a-b-c/\(0<=dx a b c/\dx a b c<18446744073709551616)/\(eA a b c=0\/eA a b c=1):=by
 unfold dx eA;rw [show(2:Nat)^64=18446744073709551616 from rfl];rcases hc with rfl |rfl<;>split<;>omega
def gH (n:Nat):(cG n).length=n:=List.length_replicate
def A0 (n:Nat):aS 18446744073709551616 (cG n):=aS.rep δ n
def yJ (n:Nat):(List.replicate n (List.map aa.raw (Array.toList #[Value.int IntKind.u64 (0:Int)]))).flatten=(cG n).flatMap (fun x=>[aa.raw (Value.int IntKind.u64 x)]):=by
 unfold cG;induction n with
 |zero=>rfl
 |succ n ih=>rw [List.replicate_succ,List.replicate_succ,List.flatten_cons,List.flatMap_cons,ih];rfl
def wH {l:List Int} (h:aS 18446744073709551616 l):dS l=cO 18446744073709551616 (ak l):=by
 refine qY Dn (Te h _ (aI _)) (Gb l _ (aI _)) ?_;unfold dS ak;rw [Lw l _ (aI _),dK]
def Tp {l:List Int} {i:Nat} (h:¬i<l.length):l.getD i 0=0:=by
 rw [ao,List.getElem?_eq_none ω];rfl
def Tq:(fl mP []).drop 8≠[]:=fun h=>by
 have:((fl mP []).drop 8).isEmpty=false:=by kernel_rfl
 rw [h]at this;cases this
def Tr:(fl oh []).drop 5≠[]:=fun h=>by
 have:((fl oh []).drop 5).isEmpty=false:=by kernel_rfl
 rw [h]at this;cases this
def Ts {x y:List Int} (hx:aS 18446744073709551616 x) (hy:aS 18446744073709551616 y) (hxy:y.length<=x.length) (hl:x.length<=400000) (w0:World) (F:Env):
  aU prog w0 F 54 ((fl mP []).drop 6) (fR x y (cG (x.length+1)) 0 0).T (fR x y (cG (x.length+1)) 0 0).H (hG prog false f144 (bI (cO 18446744073709551616 (ak x+ak y)))):=by
 have hS:=Gj;refine aU.loop (ι:={s:List Int×Int×Nat//s.2.2<=x.length/\s.1.length=x.length+1/\aS 18446744073709551616 s.1/\(s.2.1=0\/s.2.1=1)/\ak (s.1.take s.2.2)+18446744073709551616^s.2.2*s.2.1=ak (x.take s.2.2)+ak (y.take s.2.2)}) (id:=0) (b:=cat mP AY) (rest:=(fl mP []).drop 7) (by kernel_rfl) (fun s=>fR x y s.1.1 s.1.2.1 s.1.2.2) (fun s=>x.length-s.1.2.2)
  ⟨(cG (x.length+1),0,0),Nat.zero_le _,gH _,A0 _, .inl rfl,by simp [ak,vl]⟩ (fun _=>rfl) ?_
 rintro⟨⟨out,c,i⟩,hi,ho,iT,hc,hinv⟩;have hi:i<=x.length:=hi;have ho:out.length=x.length+1:=ho;have iT:aS 18446744073709551616 out:=iT;have hc:c=0\/c=1:=hc;have hinv:ak (out.take i)+18446744073709551616^i*c=ak (x.take i)+ak (y.take i):=hinv;by_cases hlt:i<x.length
 .have wI:=hx.get δ i;have LD:=hy.get δ i;obtain⟨g1,g2,g3⟩:=Dp wI LD hc;have hnext:ak ((out.set i (c8 (x.getD i 0) (y.getD i 0) c)).take (i+1))+18446744073709551616^(i+1)*dX (x.getD i 0) (y.getD i 0) c=ak (x.take (i+1))+ak (y.take (i+1)):=by
   unfold ak at hinv ⊢;rw [yI ω,kX x i,kX y i,Int.pow_succ];exact LB g1 hinv
  have om:∃j:{s:List Int×Int×Nat//s.2.2<=x.length/\s.1.length=x.length+1/\aS 18446744073709551616 s.1/\(s.2.1=0\/s.2.1=1)/\ak (s.1.take s.2.2)+18446744073709551616^s.2.2*s.2.1=ak (x.take s.2.2)+ak (y.take s.2.2)},x.length-j.1.2.2<x.length-i/\(fR x y (out.set i (c8 (x.getD i 0) (y.getD i 0) c)) (dX (x.getD i 0) (y.getD i 0) c) (i+1)).T=(fR x y j.1.1 j.1.2.1 j.1.2.2).T/\(fR x y (out.set i (c8 (x.getD i 0) (y.getD i 0) c)) (dX (x.getD i 0) (y.getD i 0) c) (i+1)).H=(fR x y j.1.1 j.1.2.1 j.1.2.2).H:=
   ⟨⟨(out.set i (c8 (x.getD i 0) (y.getD i 0) c),dX (x.getD i 0) (y.getD i 0) c,i+1),hlt,by rw [b6];exact ho,iT.set g2,g3,hnext⟩,by simp;omega,rfl,rfl⟩
  by_cases mB:i<y.length
  .rcases hc with rfl |rfl
   .exact bx (s:=fR x y out 0 i) (s':=fR x y (out.set i (c8 (x.getD i 0) (y.getD i 0) 0)) (dX (x.getD i 0) (y.getD i 0) 0) (i+1)) hS (aed x y out i ω ω mB hlt ω ω (by rw [b6]) (by rw [b6]) rfl rfl) om
   .exact bx (s:=fR x y out 1 i) (s':=fR x y (out.set i (c8 (x.getD i 0) (y.getD i 0) 1)) (dX (x.getD i 0) (y.getD i 0) 1) (i+1)) hS (aef x y out i ω ω mB hlt ω ω (by rw [b6]) (by rw [b6]) rfl rfl) om
  .rw [Tp mB]at om;rcases hc with rfl |rfl
   .exact bx (s:=fR x y out 0 i) (s':=fR x y (out.set i (c8 (x.getD i 0) 0 0)) (dX (x.getD i 0) 0 0) (i+1)) hS (aee x y out i ω ω hlt ω ω (by rw [b6]) (by rw [b6]) rfl rfl) om
   .exact bx (s:=fR x y out 1 i) (s':=fR x y (out.set i (c8 (x.getD i 0) 0 1)) (dX (x.getD i 0) 0 1) (i+1)) hS (aeg x y out i ω ω hlt ω ω (by rw [b6]) (by rw [b6]) rfl rfl) om
 .refine bx (s:=fR x y out c i) hS (aeh x y out c i ω) ?_;refine cy (cF ?_);obtain rfl:i=x.length:=by omega
  have hcd:0<=c/\c<18446744073709551616:=by rcases hc with rfl |rfl<;>decide
  refine c6 (s:=fR x y out c x.length) (s':=Gg (out.set x.length c)) hS 1 (aei x y out c x.length ω (by rw [b6]) (by rw [b6])) ?_;have hval:ak (out.set x.length c)=ak x+ak y:=by
   rw [dK,eH hxy]at hinv;rw [<-hinv];have:=yI (b:=18446744073709551616) (l:=out) (i:=x.length) (d:=c) ω;rw [eH (by rw [b6];omega)]at this;exact this
  have gP:=iT.set (k:=x.length) hcd;rw [<-hval,<-wH gP];have hlen:(out.set x.length c).length<=1000000:=by rw [b6];omega
  generalize out.set x.length c=o2 at*;refine aU.uA Tq (i:=64) (s:=5) (e2:=167) (t:=aE) (xs:=o2) (cap:=bH o2.length) (by kernel_rfl) (by kernel_rfl) ?_;refine aU.nD Tq (σ:=[]) (s:=Gh o2) (aej o2) ?_;exact bX (s:=Gh o2) hS (aek o2 hlen)
def aer (x y:List Int) (h:kZ x y=true):Holds prog false 144 [bI x,bI y] (bI (wG x y)):=by
 unfold kZ at h;simp only [ae,bE]at h;obtain⟨hx,hy,lx,ly⟩:=h;have hx:=hM.1 hx;have hy:=hM.1 hy;have hS:=Gj;refine bL (c:=mP) func144 rfl rfl fun w0 F=> ?_
 by_cases hxy:x.length<y.length
 .have e1:((y.length:Int)+1).toNat=y.length+1:=by omega
  refine cJ hS 6 (aec x y ω ω ω (by rw [gH,e1]) (by rw [e1]) (by rw [gH]) (by rw [e1];exact yJ _) (by rw [gH])) ?_;have:=Ts hy hx ω ly w0 F;unfold wG;rw [Int.add_comm];exact this
 .have e1:((x.length:Int)+1).toNat=x.length+1:=by omega
  refine cJ hS 6 (aeb x y ω ω ω (by rw [gH,e1]) (by rw [e1]) (by rw [gH]) (by rw [e1];exact yJ _) (by rw [gH])) ?_;exact Ts hx hy ω lx w0 F
def aes:Tn.Ok prog:=fun⟨x,y,_⟩ h=>aer x y h
def aet {x y:List Int} (hx:aS 18446744073709551616 x) (hy:aS 18446744073709551616 y) (hle:ak y<=ak x) (hl:x.length<=400000) (w0:World) (F:Env):
  aU prog w0 F 41 ((fl oh []).drop 4) (fZ x y (cG x.length) 0 0).T (fZ x y (cG x.length) 0 0).H (hG prog false f146 (bI (cO 18446744073709551616 (ak x-ak y)))):=by
 have hS:=Gj;refine aU.loop (ι:={s:List Int×Int×Nat//s.2.2<=x.length/\s.1.length=x.length/\aS 18446744073709551616 s.1/\(s.2.1=0\/s.2.1=1)/\ak (s.1.take s.2.2)-18446744073709551616^s.2.2*s.2.1=ak (x.take s.2.2)-ak (y.take s.2.2)}) (id:=0) (b:=cat oh AZ) (rest:=(fl oh []).drop 5) (by kernel_rfl) (fun s=>fZ x y s.1.1 s.1.2.1 s.1.2.2) (fun s=>x.length-s.1.2.2)
  ⟨(cG x.length,0,0),Nat.zero_le _,gH _,A0 _, .inl rfl,by simp [ak,vl]⟩ (fun _=>rfl) ?_
 rintro⟨⟨out,c,i⟩,hi,ho,iT,hc,hinv⟩;have hi:i<=x.length:=hi;have ho:out.length=x.length:=ho;have iT:aS 18446744073709551616 out:=iT;have hc:c=0\/c=1:=hc;have hinv:ak (out.take i)-18446744073709551616^i*c=ak (x.take i)-ak (y.take i):=hinv;by_cases hlt:i<x.length
 .have wI:=hx.get δ i;have LD:=hy.get δ i;obtain⟨g1,g2,g3⟩:=LC wI LD hc;have hnext:ak ((out.set i (dx (x.getD i 0) (y.getD i 0) c)).take (i+1))-18446744073709551616^(i+1)*eA (x.getD i 0) (y.getD i 0) c=ak (x.take (i+1))-ak (y.take (i+1)):=by
   unfold ak at hinv ⊢;rw [yI ω,kX x i,kX y i,Int.pow_succ];exact Tm g1 hinv
  have om:∃j:{s:List Int×Int×Nat//s.2.2<=x.length/\s.1.length=x.length/\aS 18446744073709551616 s.1/\(s.2.1=0\/s.2.1=1)/\ak (s.1.take s.2.2)-18446744073709551616^s.2.2*s.2.1=ak (x.take s.2.2)-ak (y.take s.2.2)},x.length-j.1.2.2<x.length-i/\(fZ x y (out.set i (dx (x.getD i 0) (y.getD i 0) c)) (eA (x.getD i 0) (y.getD i 0) c) (i+1)).T=(fZ x y j.1.1 j.1.2.1 j.1.2.2).T/\(fZ x y (out.set i (dx (x.getD i 0) (y.getD i 0) c)) (eA (x.getD i 0) (y.getD i 0) c) (i+1)).H=(fZ x y j.1.1 j.1.2.1 j.1.2.2).H:=
   ⟨⟨(out.set i (dx (x.getD i 0) (y.getD i 0) c),eA (x.getD i 0) (y.getD i 0) c,i+1),hlt,by rw [b6];exact ho,iT.set g2,g3,hnext⟩,by simp;omega,rfl,rfl⟩
  by_cases mB:i<y.length
  .rcases hc with rfl |rfl
   .exact bx (s:=fZ x y out 0 i) (s':=fZ x y (out.set i (dx (x.getD i 0) (y.getD i 0) 0)) (eA (x.getD i 0) (y.getD i 0) 0) (i+1)) hS (aem x y out i ω ω mB hlt ω ω (by rw [b6]) (by rw [b6]) rfl rfl) om
   .exact bx (s:=fZ x y out 1 i) (s':=fZ x y (out.set i (dx (x.getD i 0) (y.getD i 0) 1)) (eA (x.getD i 0) (y.getD i 0) 1) (i+1)) hS (aeo x y out i ω ω mB hlt ω ω (by rw [b6]) (by rw [b6]) rfl rfl) om
  .rw [Tp mB]at om;rcases hc with rfl |rfl
   .exact bx (s:=fZ x y out 0 i) (s':=fZ x y (out.set i (dx (x.getD i 0) 0 0)) (eA (x.getD i 0) 0 0) (i+1)) hS (aen x y out i ω ω hlt ω ω (by rw [b6]) (by rw [b6]) rfl rfl) om
   .exact bx (s:=fZ x y out 1 i) (s':=fZ x y (out.set i (dx (x.getD i 0) 0 1)) (eA (x.getD i 0) 0 1) (i+1)) hS (aep x y out i ω ω hlt ω ω (by rw [b6]) (by rw [b6]) rfl rfl) om
 .refine bx (s:=fZ x y out c i) hS (aeq x y out c i ω) ?_;refine cy (cF ?_);obtain rfl:i=x.length:=by omega
  have hxl:ak x<18446744073709551616^x.length:=dt δ hx;have mB:ak (y.take x.length)=ak y:=Dm δ hy (show ak y<_ by omega);have hval:ak out=ak x-ak y:=by
   have Gk:=dt δ iT;rw [ho]at Gk;have Gk:ak out<18446744073709551616^x.length:=Gk;rw [dK,mB,eH ω]at hinv;rcases hc with rfl |rfl
   .omega
   .omega
  rw [<-hval,<-wH iT];refine aU.uA Tr (i:=64) (s:=5) (e2:=167) (t:=aE) (xs:=out) (cap:=bH out.length) (by kernel_rfl) (by kernel_rfl) ?_;refine aU.nD Tr (σ:=[]) (s:=Gi out) (So x y out c x.length) ?_;exact bX (s:=Gi out) hS (Sp out ω)
def aeu (x y:List Int) (h:(kZ x y&&decide (ak y<=ak x))=true):Holds prog false 146 [bI x,bI y] (bI (pI x y)):=by
 unfold kZ at h;simp only [ae,bE]at h;obtain⟨⟨hx,hy,lx,ly⟩,hle⟩:=h;have hx:=hM.1 hx;have hy:=hM.1 hy;have hS:=Gj;refine bL (c:=oh) func146 rfl rfl fun w0 F=> ?_
 have e1:(x.length:Int).toNat=x.length:=by omega
 refine cJ hS 4 (ael x y ω (by rw [gH]) (by rw [gH]) (yJ _)) ?_;exact aet hx hy hle lx w0 F
def aev:To.Ok prog:=fun⟨x,y,_⟩ h=>aeu x y h
def qZ:=k_a Tryz.f145
abbrev Dq:List Nat:=[1,1,0,1,0,0]
section
variable (a b:List Int)
def mQ (k:Nat):bD:={n:=41,sl:=[(0,bI a),(1,bI b),(5,iv ((k:Int)-1))],bJ:=[],next:=64}
def Gl (k:Nat):bD:={n:=41,sl:=[(0,bI a),(1,bI b),(5,iv ((k:Int)-1-1))],bJ:=[],next:=64}
def aew (h1:¬(a.length:Int)=(b.length:Int)) (h2:(a.length:Int)<(b.length:Int)):
  bh (bc []) (fl qZ []) 3 41 [bI a,bI b] 7 Tryz.f145 true (iv (-1)):=
 wy [af (gC.mpr h1),ah h2] 129
def aex (h1:¬(a.length:Int)=(b.length:Int)) (h2:¬(a.length:Int)<(b.length:Int)):
  bh (bc []) (fl qZ []) 3 41 [bI a,bI b] 5 Tryz.f145 true (iv 1):=
 wy [af (gC.mpr h1),aJ h2] 129
def aey (h1:(a.length:Int)=(b.length:Int)) (h2:i6 ((a.length:Int)-1)):
  cZ (bc []) (fl qZ []) 4 41 [bI a,bI b] 2 .normal [] (mQ a b a.length):=
 wy [af (eR.mpr h1),yi h2] 129
def aez (k:Nat) (h1:(k:Int)-1>=0) (h2:0<=(k:Int)-1) (h3:((k:Int)-1).toNat<a.length) (h4:((k:Int)-1).toNat<b.length) (h5:¬a.getD ((k:Int)-1).toNat 0=b.getD ((k:Int)-1).toNat 0) (h6:a.getD ((k:Int)-1).toNat 0<b.getD ((k:Int)-1).toNat 0):
  bS (bc []) (fl qZ Dq) (mQ a b k) 15 Tryz.f145 true (iv (-1)):=
 wy [ah h1,ah h2,ah h3,af (aF (v:=aa.raw (Value.int IntKind.u64 (a.getD ((k:Int)-(1:Int)).toNat (0:Int))))),ah h4,af (aF (v:=aa.raw (Value.int IntKind.u64 (b.getD ((k:Int)-(1:Int)).toNat (0:Int))))),af (gC.mpr h5),ah h6] 156579657712784783981949057
def aeA (k:Nat) (h1:(k:Int)-1>=0) (h2:0<=(k:Int)-1) (h3:((k:Int)-1).toNat<a.length) (h4:((k:Int)-1).toNat<b.length) (h5:¬a.getD ((k:Int)-1).toNat 0=b.getD ((k:Int)-1).toNat 0) (h6:¬a.getD ((k:Int)-1).toNat 0<b.getD ((k:Int)-1).toNat 0):
  bS (bc []) (fl qZ Dq) (mQ a b k) 11 Tryz.f145 true (iv 1):=
 wy [ah h1,ah h2,ah h3,af (aF (v:=aa.raw (Value.int IntKind.u64 (a.getD ((k:Int)-(1:Int)).toNat (0:Int))))),ah h4,af (aF (v:=aa.raw (Value.int IntKind.u64 (b.getD ((k:Int)-(1:Int)).toNat (0:Int))))),af (gC.mpr h5),aJ h6] 156579657712784783981949057
def aeB (k:Nat) (h1:(k:Int)-1>=0) (h2:0<=(k:Int)-1) (h3:((k:Int)-1).toNat<a.length) (h4:((k:Int)-1).toNat<b.length) (h5:a.getD ((k:Int)-1).toNat 0=b.getD ((k:Int)-1).toNat 0) (h6:i6 ((k:Int)-1-1)):
  bt (bc []) (fl qZ Dq) (mQ a b k) 5 .normal [] (Gl a b k):=
 wy [ah h1,ah h2,ah h3,af (aF (v:=aa.raw (Value.int IntKind.u64 (a.getD ((k:Int)-(1:Int)).toNat (0:Int))))),ah h4,af (aF (v:=aa.raw (Value.int IntKind.u64 (b.getD ((k:Int)-(1:Int)).toNat (0:Int))))),af (eR.mpr h5),yi h6] 2283003859447937
def aeC (k:Nat) (h1:¬(k:Int)-1>=0):
  bt (bc []) (fl qZ Dq) (mQ a b k) 2 (.exit 0) [] (mQ a b k):=
 wy [aJ h1] 1
def aeD (k:Nat):
  bS (bc []) ((fl qZ []).drop 5) (mQ a b k) 1 Tryz.f145 true (iv 0):=
 wy [] 0
end
def k3 (x y:Int):Int:=if x<y then-1 else if y<x then 1 else 0
def mR (a b:List Int):Bool:=(gR a&&jG a)&&((gR b&&jG b)&&decide (a.length<=1000000))
def LF:=IN 145 [.list false aE, .list false aE] [.int .i64] true (fun d=>mR d.1 d.2.1) fun d=>(k3 (ak d.1) (ak d.2.1),())
def q2 {l:List Int}:jG l=true↔e5 l:=by
 unfold jG;constructor
 .intro h;have h:=ac h;have:=Gb l l.length (aI _);obtain⟨m,h1,h2,_⟩:=Dl l l.length (aI _);rw [h2,ek]at h;have hm:m=l.length:=by omega
  rw [h2,hm,dK]at this;exact this
 .intro h;rw [Tf h];exact Nat.beq_refl _
def Tt {x y:Int} (h:x<y):k3 x y= -1:=by unfold k3;rw [if_pos h]
def Tu {x y:Int} (h:y<x):k3 x y=1:=by unfold k3;rw [if_neg ω,if_pos h]
def aeE {x y:Int} (h:x=y):k3 x y=0:=by unfold k3;rw [if_neg ω,if_neg ω]
def aeF (a b:List Int) (h:mR a b=true):Holds prog true 145 [bI a,bI b] (iv (k3 (ak a) (ak b))):=by
 unfold mR at h;simp only [ae,bE]at h;obtain⟨⟨ha,ta⟩,⟨hb,tb⟩,hl⟩:=h;have ha:=hM.1 ha;have hb:=hM.1 hb;have ta:=q2.1 ta;have tb:=q2.1 tb;refine bL (c:=qZ) func145 rfl rfl fun w0 F=> ?_
 by_cases hab:a.length=b.length
 .refine cJ cC 4 (aey a b ω ω) ?_;refine aU.loop (ι:={k:Nat//k<=a.length/\∀j,k<=j->j<a.length->a.getD j 0=b.getD j 0}) (id:=0) (b:=cat qZ Dq) (rest:=(fl qZ []).drop 5) (by kernel_rfl) (fun k=>mQ a b k.1) (fun k=>k.1) ⟨a.length,aI _,fun j h1 h2=>by omega⟩ (fun _=>rfl) ?_;rintro⟨k,hk,heq⟩;cases k with
  |zero=>
   refine bx (s:=mQ a b 0) cC (aeC a b 0 ω) ?_;refine cy (cF ?_);have e:a=b:=by
    refine List.ext_getElem hab fun j h1 h2=> ?_
    have:=heq j (Nat.zero_le _) h1;rwa [uB h1,uB h2]at this
   rw [aeE (show ak a=ak b by rw [e])];exact bX (s:=mQ a b 0) cC (aeD a b 0)
  |succ k=>
   have e0:(((k+1:Nat):Int)-1).toNat=k:=by omega
   have e1:Gl a b (k+1)=mQ a b k:=by
    unfold Gl mQ;rw [show(((k+1:Nat):Int)-1-1)=(k:Int)-1 by omega]
   have hka:k<a.length:=by omega
   by_cases h1:a.getD k 0=b.getD k 0
   .refine bx (s:=mQ a b (k+1)) (s':=Gl a b (k+1)) cC (aeB a b (k+1) ω ω ω ω (by rw [e0];exact h1) ω) ?_;rw [e1];exact⟨⟨k,by omega,fun j g1 g2=>by
     by_cases hj:j=k
     .rw [hj];exact h1
     .exact heq j ω g2⟩,by simp,rfl,rfl⟩
   .by_cases h2:a.getD k 0<b.getD k 0
    .rw [Tt (show ak a<ak b from Gc Dn ha hb hab hka h2 fun j g1 g2=>heq j ω g2)];exact bX (s:=mQ a b (k+1)) cC (aez a b (k+1) ω ω ω ω (by rw [e0];exact h1) (by rw [e0];exact h2))
    .rw [Tu (show ak b<ak a from Gc Dn hb ha hab.symm ω (show b.getD k 0<a.getD k 0 by omega) fun j g1 g2=>(heq j ω ω).symm)];exact bX (s:=mQ a b (k+1)) cC (aeA a b (k+1) ω ω ω ω (by rw [e0];exact h1) (by rw [e0];exact h2))
 .by_cases hlt:a.length<b.length
  .rw [Tt (show ak a<ak b from wD Dn ha hb tb hlt)];exact bw cC 3 (aew a b ω ω)
  .rw [Tu (show ak b<ak a from wD Dn hb ha ta ω)];exact bw cC 3 (aex a b ω ω)
def Tv:LF.Ok prog:=fun⟨a,b,_⟩ h=>aeF a b h
end
end Go.Proofs.YtibikmmdbdlafaaGreatDoor
namespace Go.Proofs
open Go.Shelf
set_option maxRecDepth 100000
def Tryz.kR{α:Type}{a:Option α}{x y:α}(h:a=some x)(g:x=y:=by kernel_rfl):a=some y:=h.trans (congrArg some g)
def Tryz.aeG:Go.Shelf.Ren:=⟨fun |134=>224|129=>201|n=>n,fun |53=>167|3=>3|4=>4|46=>181|5=>5|9=>9|n=>n,fun |n=>n⟩
def Tryz.aeH:Go.Proofs.Lays.n134 prog Tryz.aeG:=⟨by kernel_rfl,kR func201,kR func224,underlying3,isAgg3,sizeOf3,zeroValue3,underlying4,isAgg4,sizeOf4,zeroValue4,underlying5,isAgg5,sizeOf5,zeroValue5,underlying9,isAgg9,sizeOf9,zeroValue9,underlying181,isAgg181,sizeOf181,zeroValue181,underlying167,isAgg167,sizeOf167,zeroValue167⟩
def Tryz.bits_LeadingZeros64 (x:Int) (w:World) (h0:0<=x) (h1:x<=18446744073709551615):
  Calls prog 224 #[.int .u64 x] w fun e w'=>e= .returned (.int .i64 (64-(Lib.bitLen x.toNat:Int)))/\w'=w:=Any.bits_LeadingZeros64 Tryz.aeH x w h0 h1
def Tryz.aub:Go.Shelf.Ren:=⟨fun |210=>168|206=>218|n=>n,fun |9=>9|4=>4|3=>3|n=>n,fun |n=>n⟩
def Tryz.aeI:Go.Shelf.Ren:=⟨fun |172=>174|244=>220|245=>221|247=>244|279=>245|280=>246|281=>247|282=>248|287=>261|316=>262|171=>177|205=>263|321=>269|322=>270|243=>222|246=>249|283=>250|284=>251|285=>252|286=>253|129=>201|317=>264|318=>265|319=>266|320=>267|337=>271|338=>272|n=>n,fun |9=>9|3=>3|75=>195|76=>196|4=>4|5=>5|167=>253|37=>205|0=>0|85=>254|2=>2|168=>256|53=>167|175=>273|46=>181|210=>277|127=>242|145=>286|143=>284|21=>21|171=>260|173=>262|212=>280|51=>223|20=>20|213=>281|232=>287|233=>288|80=>160|n=>n,fun |15=>3|16=>4|17=>5|18=>6|19=>7|n=>n⟩
def Tryz.aeJ:Go.Proofs.Lays.n172 prog Tryz.aeI:=⟨by kernel_rfl,kR func201,kR func177,kR func174,kR func263,kR func222,kR func220,kR func221,kR func249,kR func244,kR func245,kR func246,kR func247,kR func248,kR func250,kR func251,kR func252,kR func253,kR func261,kR func262,kR func264,kR func265,kR func266,kR func267,kR func269,kR func270,kR func271,kR func272,underlying0,isAgg0,sizeOf0,zeroValue0,underlying2,isAgg2,sizeOf2,zeroValue2,underlying3,isAgg3,sizeOf3,zeroValue3,underlying4,isAgg4,sizeOf4,zeroValue4,underlying5,isAgg5,sizeOf5,zeroValue5,underlying9,isAgg9,sizeOf9,zeroValue9,underlying20,isAgg20,sizeOf20,zeroValue20,underlying21,isAgg21,sizeOf21,zeroValue21,underlying205,isAgg205,sizeOf205,zeroValue205,underlying181,isAgg181,sizeOf181,zeroValue181,underlying223,isAgg223,sizeOf223,zeroValue223,underlying167,isAgg167,sizeOf167,zeroValue167,underlying195,isAgg195,sizeOf195,zeroValue195,underlying196,isAgg196,sizeOf196,zeroValue196,underlying254,isAgg254,sizeOf254,zeroValue254,underlying242,isAgg242,sizeOf242,zeroValue242,underlying284,isAgg284,sizeOf284,zeroValue284,underlying286,isAgg286,sizeOf286,zeroValue286,underlying253,isAgg253,sizeOf253,zeroValue253,underlying256,isAgg256,sizeOf256,zeroValue256,underlying260,isAgg260,sizeOf260,zeroValue260,underlying262,isAgg262,sizeOf262,zeroValue262,underlying273,isAgg273,sizeOf273,zeroValue273,underlying277,isAgg277,sizeOf277,zeroValue277,underlying280,isAgg280,sizeOf280,zeroValue280,underlying281,isAgg281,sizeOf281,underlying287,isAgg287,sizeOf287,zeroValue287,underlying288,isAgg288,sizeOf288,zeroValue288,by kernel_rfl,by kernel_rfl,by kernel_rfl,by kernel_rfl,by kernel_rfl⟩
open Go.RowKit in
def Tryz.strconv_Atoi (s:ByteArray) (n:Int) (hl:s.size<=18) (h:Lib.atoi s.data.toList=some n) (w:World):
  Calls prog 174 #[.string s] w fun e w'=>e= .returned (.tuple #[.int .i64 n, .nilIface])/\∃t,w'=Lib.bytesWorld w 5 t:=Any.strconv_Atoi Tryz.aeJ s n hl h w
def Tryz.aeK:Go.Shelf.Ren:=⟨fun |283=>250|n=>n,fun |3=>3|9=>9|4=>4|n=>n,fun |n=>n⟩
def Tryz.aeL:Go.Proofs.Lays.n283 prog Tryz.aeK:=⟨by kernel_rfl,kR func250,underlying3,isAgg3,sizeOf3,zeroValue3,underlying4,isAgg4,sizeOf4,zeroValue4,underlying9,isAgg9,sizeOf9,zeroValue9⟩
open Go.Lib in
def Tryz.internal_strconv_small (i:Nat) (h:i<100) (w:World):
  Calls prog 250 #[.int .i64 i] w fun e w'=>e= .returned (.string ⟨(Lib.decDigits i).toArray⟩)/\w'=w:=Any.internal_strconv_small Tryz.aeL i h w
def Tryz.aeM:Go.Shelf.Ren:=⟨fun |284=>251|129=>201|317=>264|318=>265|n=>n,fun |53=>167|3=>3|212=>280|0=>0|4=>4|46=>181|5=>5|9=>9|n=>n,fun |17=>5|n=>n⟩
def Tryz.aeN:Go.Proofs.LaysM.n284 prog Tryz.aeM:={
 mixed:=by kernel_rfl
 f129:=func201.trans (congrArg some (by kernel_rfl))
 f284:=func251.trans (congrArg some (by kernel_rfl))
 f317:=func264.trans (congrArg some (by kernel_rfl))
 f318:=func265.trans (congrArg some (by kernel_rfl))
 t0:=Tryz.underlying0
 a0:=Tryz.isAgg0
 z0:=Tryz.sizeOf0
 v0:=Tryz.zeroValue0
 t3:=Tryz.underlying3
 a3:=Tryz.isAgg3
 z3:=Tryz.sizeOf3
 v3:=Tryz.zeroValue3
 t4:=Tryz.underlying4
 a4:=Tryz.isAgg4
 z4:=Tryz.sizeOf4
 v4:=Tryz.zeroValue4
 t5:=Tryz.underlying5
 a5:=Tryz.isAgg5
 z5:=Tryz.sizeOf5
 v5:=Tryz.zeroValue5
 t9:=Tryz.underlying9
 a9:=Tryz.isAgg9
 z9:=Tryz.sizeOf9
 v9:=Tryz.zeroValue9
 t46:=Tryz.underlying181
 a46:=Tryz.isAgg181
 z46:=Tryz.sizeOf181
 v46:=Tryz.zeroValue181
 t53:=Tryz.underlying167
 a53:=Tryz.isAgg167
 z53:=Tryz.sizeOf167
 v53:=Tryz.zeroValue167
 t212:=Tryz.underlying280
 a212:=Tryz.isAgg280
 z212:=Tryz.sizeOf280
 v212:=Tryz.zeroValue280
 g17:=by kernel_rfl
 i0:=by kernel_rfl
 i3:=by kernel_rfl
 i4:=by kernel_rfl
 i5:=by kernel_rfl
 i9:=by kernel_rfl
 i46:=by kernel_rfl
 i53:=by kernel_rfl
 i212:=by kernel_rfl
 m17:=by kernel_rfl}
open Go.Lib in
def Tryz.internal_strconv_numDigits (u:Nat) (h1:1<=u) (h2:u<18446744073709551616) (w:World) (htab:Lib.TabIs prog w "internal/strconv.uint64pow10" .u64 Lib.pow10Tab):
  Calls prog 251 #[.int .u64 u] w fun e w'=>e= .returned (.int .i64 (Lib.nDigits u))/\w'=w:=Any.internal_strconv_numDigits Tryz.aeN u h1 h2 w htab
def Tryz.aeO:Go.Shelf.Ren:=⟨fun |285=>252|n=>n,fun |37=>205|53=>167|3=>3|4=>4|51=>223|9=>9|5=>5|0=>0|n=>n,fun |n=>n⟩
def Tryz.aeP:Go.Proofs.Lays.n285 prog Tryz.aeO:=⟨by kernel_rfl,kR func252,underlying0,isAgg0,sizeOf0,zeroValue0,underlying3,isAgg3,sizeOf3,zeroValue3,underlying4,isAgg4,sizeOf4,zeroValue4,underlying5,isAgg5,sizeOf5,zeroValue5,underlying9,isAgg9,sizeOf9,zeroValue9,underlying205,isAgg205,sizeOf205,zeroValue205,underlying223,isAgg223,sizeOf223,zeroValue223,underlying167,isAgg167,sizeOf167,zeroValue167⟩
open Go.RowKit Go.Sort Go.Lib in
def Tryz.internal_strconv_formatBase10 (blk off cap:Nat) (u:Nat) (d:Array UInt8) (w:World) (hH:Holds (fun(b:UInt8)=>Value.int .u8 (b.toNat:Int)) w blk off d) (hu:u<10^d.size) (hu64:u<18446744073709551616) (hsz:d.size<4611686018427387904):
  Calls prog 252 #[.slice (some ⟨blk,off,none⟩) d.size cap, .int .u64 u] w fun e w'=>
   e= .returned (.tuple #[])/\∃(n v':Nat) (dk:Array UInt8),w'=(putRow (fun(b:UInt8)=>Value.int .u8 (b.toNat:Int)) w blk off dk).drewN n/\FmtInv d.size u 0 v' dk:=Any.internal_strconv_formatBase10 Tryz.aeP blk off cap u d w hH hu hu64 hsz
def Tryz.auc:Go.Shelf.Ren:=⟨fun |246=>249|283=>250|284=>251|285=>252|286=>253|129=>201|317=>264|318=>265|319=>266|320=>267|337=>271|338=>272|n=>n,fun |2=>2|3=>3|9=>9|4=>4|171=>260|0=>0|53=>167|37=>205|5=>5|173=>262|212=>280|51=>223|20=>20|213=>281|46=>181|232=>287|233=>288|n=>n,fun |17=>5|18=>6|19=>7|n=>n⟩
def Tryz.aud:Go.Shelf.Ren:=⟨fun |243=>222|246=>249|283=>250|284=>251|285=>252|286=>253|129=>201|317=>264|318=>265|319=>266|320=>267|337=>271|338=>272|n=>n,fun |3=>3|9=>9|2=>2|4=>4|171=>260|0=>0|53=>167|37=>205|5=>5|173=>262|212=>280|51=>223|20=>20|213=>281|46=>181|232=>287|233=>288|n=>n,fun |17=>5|18=>6|19=>7|n=>n⟩
def Tryz.aeQ:Go.Shelf.Ren:=⟨fun |171=>177|243=>222|246=>249|283=>250|284=>251|285=>252|286=>253|129=>201|317=>264|318=>265|319=>266|320=>267|337=>271|338=>272|n=>n,fun |3=>3|9=>9|2=>2|4=>4|171=>260|0=>0|53=>167|37=>205|5=>5|173=>262|212=>280|51=>223|20=>20|213=>281|46=>181|232=>287|233=>288|n=>n,fun |17=>5|18=>6|19=>7|n=>n⟩
def Tryz.aeR:Go.Proofs.LaysM.n171 prog Tryz.aeQ:={
 mixed:=by kernel_rfl
 f129:=func201.trans (congrArg some (by kernel_rfl))
 f171:=func177.trans (congrArg some (by kernel_rfl))
 f243:=func222.trans (congrArg some (by kernel_rfl))
 f246:=func249.trans (congrArg some (by kernel_rfl))
 f283:=func250.trans (congrArg some (by kernel_rfl))
 f284:=func251.trans (congrArg some (by kernel_rfl))
 f285:=func252.trans (congrArg some (by kernel_rfl))
 f286:=func253.trans (congrArg some (by kernel_rfl))
 f317:=func264.trans (congrArg some (by kernel_rfl))
 f318:=func265.trans (congrArg some (by kernel_rfl))
 f319:=func266.trans (congrArg some (by kernel_rfl))
 f320:=func267.trans (congrArg some (by kernel_rfl))
 f337:=func271.trans (congrArg some (by kernel_rfl))
 f338:=func272.trans (congrArg some (by kernel_rfl))
 t0:=Tryz.underlying0
 a0:=Tryz.isAgg0
 z0:=Tryz.sizeOf0
 v0:=Tryz.zeroValue0
 t2:=Tryz.underlying2
 a2:=Tryz.isAgg2
 z2:=Tryz.sizeOf2
 v2:=Tryz.zeroValue2
 t3:=Tryz.underlying3
 a3:=Tryz.isAgg3
 z3:=Tryz.sizeOf3
 v3:=Tryz.zeroValue3
 t4:=Tryz.underlying4
 a4:=Tryz.isAgg4
 z4:=Tryz.sizeOf4
 v4:=Tryz.zeroValue4
 t5:=Tryz.underlying5
 a5:=Tryz.isAgg5
 z5:=Tryz.sizeOf5
 v5:=Tryz.zeroValue5
 t9:=Tryz.underlying9
 a9:=Tryz.isAgg9
 z9:=Tryz.sizeOf9
 v9:=Tryz.zeroValue9
 t20:=Tryz.underlying20
 a20:=Tryz.isAgg20
 z20:=Tryz.sizeOf20
 v20:=Tryz.zeroValue20
 t37:=Tryz.underlying205
 a37:=Tryz.isAgg205
 z37:=Tryz.sizeOf205
 v37:=Tryz.zeroValue205
 t46:=Tryz.underlying181
 a46:=Tryz.isAgg181
 z46:=Tryz.sizeOf181
 v46:=Tryz.zeroValue181
 t51:=Tryz.underlying223
 a51:=Tryz.isAgg223
 z51:=Tryz.sizeOf223
 v51:=Tryz.zeroValue223
 t53:=Tryz.underlying167
 a53:=Tryz.isAgg167
 z53:=Tryz.sizeOf167
 v53:=Tryz.zeroValue167
 t171:=Tryz.underlying260
 a171:=Tryz.isAgg260
 z171:=Tryz.sizeOf260
 v171:=Tryz.zeroValue260
 t173:=Tryz.underlying262
 a173:=Tryz.isAgg262
 z173:=Tryz.sizeOf262
 v173:=Tryz.zeroValue262
 t212:=Tryz.underlying280
 a212:=Tryz.isAgg280
 z212:=Tryz.sizeOf280
 v212:=Tryz.zeroValue280
 t213:=Tryz.underlying281
 a213:=Tryz.isAgg281
 z213:=Tryz.sizeOf281
 t232:=Tryz.underlying287
 a232:=Tryz.isAgg287
 z232:=Tryz.sizeOf287
 v232:=Tryz.zeroValue287
 t233:=Tryz.underlying288
 a233:=Tryz.isAgg288
 z233:=Tryz.sizeOf288
 v233:=Tryz.zeroValue288
 g17:=by kernel_rfl
 g18:=by kernel_rfl
 g19:=by kernel_rfl
 i0:=by kernel_rfl
 i2:=by kernel_rfl
 i3:=by kernel_rfl
 i4:=by kernel_rfl
 i5:=by kernel_rfl
 i9:=by kernel_rfl
 i20:=by kernel_rfl
 i37:=by kernel_rfl
 i46:=by kernel_rfl
 i51:=by kernel_rfl
 i53:=by kernel_rfl
 i171:=by kernel_rfl
 i173:=by kernel_rfl
 i212:=by kernel_rfl
 i232:=by kernel_rfl
 i233:=by kernel_rfl
 m17:=by kernel_rfl
 m18:=by kernel_rfl
 m19:=by kernel_rfl}
open Go.RowKit Go.Sort Go.Lib in
def Tryz.strconv_Itoa (n:Int) (h0: -9223372036854775808<=n) (h1:n<=9223372036854775807) (w:World) (htab:Lib.TabIs prog w "internal/strconv.uint64pow10" .u64 Lib.pow10Tab):
  Calls prog 177 #[.int .i64 n] w fun e w'=>e= .returned (.string ⟨(Lib.itoa n).toArray⟩)/\∃k os,w'=grow (w.drewN k) os:=Any.strconv_Itoa Tryz.aeR n h0 h1 w htab
def Tryz.aue:Go.Shelf.Ren:=⟨fun |219=>217|217=>240|225=>241|224=>242|267=>243|266=>259|314=>260|n=>n,fun |9=>9|3=>3|4=>4|5=>5|46=>181|146=>264|51=>223|n=>n,fun |1=>0|n=>n⟩
def Tryz.aeS:Go.Shelf.Ren:=⟨fun |145=>118|220=>167|219=>217|217=>240|225=>241|224=>242|267=>243|266=>259|314=>260|n=>n,fun |9=>9|4=>4|59=>151|3=>3|5=>5|46=>181|146=>264|51=>223|n=>n,fun |1=>0|n=>n⟩
def Tryz.aeT:Go.Proofs.Lays.n145 prog Tryz.aeS:=⟨by kernel_rfl,kR func118,kR func240,kR func217,kR func167,kR func242,kR func241,kR func259,kR func243,kR func260,underlying3,isAgg3,sizeOf3,zeroValue3,underlying4,isAgg4,sizeOf4,zeroValue4,underlying5,isAgg5,sizeOf5,zeroValue5,underlying9,isAgg9,sizeOf9,zeroValue9,underlying181,isAgg181,sizeOf181,zeroValue181,underlying223,isAgg223,sizeOf223,zeroValue223,underlying151,isAgg151,sizeOf151,zeroValue151,underlying264,isAgg264,sizeOf264,zeroValue264,by kernel_rfl⟩
open Go.RowKit Go.Lib in
def Tryz.strings_Cut (s sep:ByteArray) (m:Int) (w:World) (hs:s.size<4294967281) (hm:w.cell? ⟨0,0,none⟩=some (.int .i64 m)):
  Calls prog 118 #[.string s, .string sep] w fun e w'=>e= .returned (.tuple #[.string ⟨(Lib.cut s.data.toList sep.data.toList).1.toArray⟩, .string ⟨(Lib.cut s.data.toList sep.data.toList).2.1.toArray⟩, .bool (Lib.cut s.data.toList sep.data.toList).2.2])/\∃n,w'=w.drewN n:=Any.strings_Cut Tryz.aeT s sep m w hs hm
def Tryz.aeU:Go.Shelf.Ren:=⟨fun |189=>102|125=>156|257=>155|128=>200|129=>201|294=>191|295=>192|296=>193|297=>194|298=>195|299=>196|216=>197|300=>198|301=>199|328=>232|329=>233|330=>234|331=>235|332=>236|215=>166|343=>257|n=>n,fun |28=>93|3=>3|46=>181|0=>0|51=>223|53=>167|4=>4|183=>216|182=>215|131=>50|5=>5|9=>9|218=>243|222=>247|228=>268|229=>269|n=>n,fun |n=>n⟩
def Tryz.Tw:Go.Proofs.Lays.n189 prog Tryz.aeU:=⟨by kernel_rfl,kR func156,kR func200,kR func201,kR func102,kR func166,kR func197,kR func155,kR func191,kR func192,kR func193,kR func194,kR func195,kR func196,kR func198,kR func199,kR func232,kR func233,kR func234,kR func235,kR func236,kR func257,underlying0,isAgg0,sizeOf0,zeroValue0,underlying3,isAgg3,sizeOf3,zeroValue3,underlying4,isAgg4,sizeOf4,zeroValue4,underlying5,isAgg5,sizeOf5,zeroValue5,underlying9,isAgg9,sizeOf9,zeroValue9,underlying93,isAgg93,sizeOf93,zeroValue93,underlying181,isAgg181,sizeOf181,zeroValue181,underlying223,isAgg223,sizeOf223,zeroValue223,underlying167,isAgg167,sizeOf167,zeroValue167,underlying50,isAgg50,sizeOf50,zeroValue50,underlying215,isAgg215,sizeOf215,zeroValue215,underlying216,isAgg216,sizeOf216,zeroValue216,underlying243,isAgg243,sizeOf243,zeroValue243,underlying247,isAgg247,sizeOf247,zeroValue247,underlying268,isAgg268,sizeOf268,zeroValue268,underlying269,isAgg269,sizeOf269,zeroValue269⟩
open Go.Sort Go.RowKit in
def Tryz.slices_Sort_int (blk off cap:Nat) (zs:List Int) (w:World) (hH:Holds (Value.int .i64) w blk off zs.toArray) (hblk:blk<w.heap.size) (hsz:zs.length<4611686018427387904):
  Calls prog 102 #[.slice (some ⟨blk,off,none⟩) zs.length cap] w fun e w'=>
   e= .returned (.tuple #[])/\∃n os,w'=grow (putRow (Value.int .i64) (Sort.ahead w n) blk off (zs.mergeSort fun x y=>decide (x<=y)).toArray) os:=Any.slices_Sort_int Tryz.Tw blk off cap zs w hH hblk hsz
def Tryz.aeV:Go.Shelf.Ren:=⟨fun |99=>172|206=>218|n=>n,fun |9=>9|4=>4|3=>3|n=>n,fun |n=>n⟩
def Tryz.aeW:Go.Proofs.Lays.n99 prog Tryz.aeV:=⟨by kernel_rfl,kR func172,kR func218,underlying3,isAgg3,sizeOf3,zeroValue3,underlying4,isAgg4,sizeOf4,zeroValue4,underlying9,isAgg9,sizeOf9,zeroValue9⟩
open Go.RowKit Go.Lib in
def Tryz.strings_HasPrefix (s p:ByteArray) (w:World):
  Calls prog 172 #[.string s, .string p] w fun e w'=>e= .returned (.bool (Lib.hasPrefix s.data.toList p.data.toList))/\w'=w:=Any.strings_HasPrefix Tryz.aeW s p w
def Tryz.aeX:Go.Shelf.Ren:=⟨fun |101=>173|208=>219|206=>218|n=>n,fun |9=>9|4=>4|3=>3|n=>n,fun |n=>n⟩
def Tryz.aeY:Go.Proofs.Lays.n101 prog Tryz.aeX:=⟨by kernel_rfl,kR func173,kR func218,kR func219,underlying3,isAgg3,sizeOf3,zeroValue3,underlying4,isAgg4,sizeOf4,zeroValue4,underlying9,isAgg9,sizeOf9,zeroValue9⟩
open Go.RowKit Go.Lib in
def Tryz.strings_TrimPrefix (s p:ByteArray) (w:World):
  Calls prog 173 #[.string s, .string p] w fun e w'=>e= .returned (.string ⟨(Lib.trimPrefix s.data.toList p.data.toList).toArray⟩)/\w'=w:=Any.strings_TrimPrefix Tryz.aeY s p w
def Tryz.aeZ:Go.Shelf.Ren:=⟨fun |264=>139|n=>n,fun |53=>167|46=>181|n=>n,fun |n=>n⟩
def Tryz.ae0:Go.Proofs.Lays.n264 prog Tryz.aeZ:=⟨by kernel_rfl,kR func139,underlying181,isAgg181,sizeOf181,zeroValue181,underlying167,isAgg167,sizeOf167,zeroValue167⟩
open Go.RowKit Go.Lib in
def Tryz.bits_Mul64 (x y:Nat) (hx:x<18446744073709551616) (hy:y<18446744073709551616) (w:World):
  Calls prog 139 #[.int .u64 x, .int .u64 y] w fun e w'=>e= .returned (.tuple #[.int .u64 ((x*y/18446744073709551616:Nat):Int), .int .u64 ((x*y%18446744073709551616:Nat):Int)])/\w'=w:=Any.bits_Mul64 Tryz.ae0 x y hx hy w
def Tryz.Tx:Go.Shelf.Ren:=⟨fun |105=>180|212=>228|99=>172|165=>229|166=>181|170=>230|169=>182|263=>254|264=>139|206=>218|240=>231|241=>255|276=>256|277=>268|n=>n,fun |9=>9|3=>3|4=>4|20=>20|0=>0|46=>181|109=>239|5=>5|72=>207|76=>196|51=>223|146=>264|53=>167|148=>168|70=>204|37=>205|75=>195|127=>242|164=>266|80=>160|n=>n,fun |n=>n⟩
def Tryz.ae1:Go.Proofs.Lays.n105 prog Tryz.Tx:=⟨by kernel_rfl,kR func172,kR func180,kR func229,kR func181,kR func182,kR func230,kR func218,kR func228,kR func231,kR func255,kR func254,kR func139,kR func256,kR func268,underlying0,isAgg0,sizeOf0,zeroValue0,underlying3,isAgg3,sizeOf3,zeroValue3,underlying4,isAgg4,sizeOf4,zeroValue4,underlying5,isAgg5,sizeOf5,zeroValue5,underlying9,isAgg9,sizeOf9,zeroValue9,underlying20,isAgg20,sizeOf20,zeroValue20,underlying205,isAgg205,sizeOf205,zeroValue205,underlying181,isAgg181,sizeOf181,zeroValue181,underlying223,isAgg223,sizeOf223,zeroValue223,underlying167,isAgg167,sizeOf167,zeroValue167,underlying204,isAgg204,sizeOf204,zeroValue204,underlying207,isAgg207,sizeOf207,zeroValue207,underlying195,isAgg195,sizeOf195,zeroValue195,underlying196,isAgg196,sizeOf196,zeroValue196,underlying239,isAgg239,sizeOf239,zeroValue239,underlying242,isAgg242,sizeOf242,zeroValue242,underlying264,isAgg264,sizeOf264,zeroValue264,underlying168,isAgg168,sizeOf168,zeroValue168,underlying266,isAgg266,sizeOf266,zeroValue266⟩
def Tryz.ae2:Builder.Extra prog Tryz.Tx:={
 sizeBuilder:=by kernel_rfl
 liesBuilder:=by kernel_rfl
 t5:=Tryz.underlying5
 a5:=Tryz.isAgg5
 z5:=Tryz.sizeOf5
 v5:=Tryz.zeroValue5
 infoByte:=by kernel_rfl
 cellsByte:=by kernel_rfl
 sizeByte:=by kernel_rfl
 neB5:=by decide}
open Go.RowKit Go.Lib in
def Tryz.strings_Repeat (s:ByteArray) (c:Nat) (w:World) (hc:c<=9223372036854775807) (hlen:s.size*c<=140737488355328):
  Calls prog 180 #[.string s, .int .i64 c] w fun e w'=>e= .returned (.string ⟨(Lib.repeatL s.data.toList c).toArray⟩)/\Below w.heap.size w w':=Any.strings_Repeat Tryz.ae1 Tryz.ae2 s c w hc hlen
open Go.RowKit Go.Sort in
def Tryz.slices_Sort_int_none (p:Option Addr) (cap:Nat) (w:World):
  Calls prog 102 #[.slice p 0 cap] w fun e w'=>e= .returned (.tuple #[])/\w'=w:=Any.slices_Sort_int_none Tryz.Tw p cap w
end Go.Proofs
namespace Go.Proofs.YtibikmmdbdlafaaGreatDoor
open Go.RowKit Sv Go.Proofs.Tryz
noncomputable section
def fK (x y:Int):Int:=x*y/18446744073709551616
def cL (x y:Int):Int:=x*y%18446744073709551616
def k4 (x y:Int):Bool:=(decide (0<=x)&&decide (x<18446744073709551616))&&(decide (0<=y)&&decide (y<18446744073709551616))
def Gm:=IN 139 [aE,aE] [aE,aE] true (fun d=>k4 d.1 d.2.1) fun d=>(fK d.1 d.2.1,(cL d.1 d.2.1,()))
def sj:=bc [Gf,Gm]
def ku:=k_a f143
abbrev Dr:List Nat:=[1,1,0,1,0,0]
abbrev Gn:List Nat:=[1,1,0,1,0,0,1,1,0,0]
abbrev LG:List Nat:=[1,1,0,1,0,0,1,1,0,0,1,1,0,1,0,0]
def k5 (a b out:List Int) (i:Nat):bD:={n:=80,sl:=[(1,bI b),(5,qV 64 out),(20,bI a),(21,iv a.length),(22,iv i)],bJ:=[(64,qW out)],next:=65}
def q3 (a b out:List Int) (i:Nat) (x c:Int) (j:Nat):bD:={n:=80,sl:=[(1,bI b),(5,qV 64 out),(6,iv i),(7,cu x),(8,cu c),(20,bI a),(21,iv a.length),(22,iv i),(27,bI b),(28,iv b.length),(29,iv j)],bJ:=[(64,qW out)],next:=65}
def pJ (x y o c:Int):Int:=(((((cL x y).toNat+o.toNat+Int.toNat 0)%2^64)+c.toNat+Int.toNat 0)%2^64:Nat)
def sr (x y o c:Int):Int:=IntKind.u64.wrap (IntKind.u64.wrap (fK x y+(((((cL x y).toNat+o.toNat+Int.toNat 0)/2^64):Nat):Int))+(((((((cL x y).toNat+o.toNat+Int.toNat 0)%2^64)+c.toNat+Int.toNat 0)/2^64):Nat):Int))
def Gp (out:List Int):bD:={n:=80,sl:=[(5,bI out)],bJ:=[],next:=64}
def ae3 (a b:List Int) (h1: -9223372036854775808<=(a.length:Int)+(b.length:Int)/\(a.length:Int)+(b.length:Int)<=9223372036854775807) (h2:((a.length:Int)+(b.length:Int)).toNat<=1000000) (h3:(((a.length:Int)+(b.length:Int)).toNat)=(cG (a.length+b.length)).length) (h4:(aX.known ((a.length:Int)+(b.length:Int)).toNat)=(aX.known (a.length+b.length))) (h5:(bH (cG (a.length+b.length)).length)=(bH (a.length+b.length))) (h6:(List.flatten (List.replicate ((a.length:Int)+(b.length:Int)).toNat (List.map aa.raw (Array.toList #[Value.int .u64 (0:Int)]))))=(List.flatMap (fun x=>[aa.raw (Value.int .u64 x)]) (cG (a.length+b.length)))) (h7:(a.length+b.length)=(cG (a.length+b.length)).length):
  aD.path (pF prog sj (fl ku []) 3 80 [bI a,bI b]) (dl 1) (ef prog 80 .normal [(64,64,some (a.length+b.length))] (k5 a b (cG (a.length+b.length)) 0)):=
 mp (F9 (eN h1) rt rt (og (show(decide (((a.length:Int)+(b.length:Int)).toNat<=((a.length:Int)+(b.length:Int)).toNat))=true from az ω) (show(bounded ((a.length:Int)+(b.length:Int)).toNat (8:Nat))=true from pH h2 ω) (rr b) (an h3 (an h4 h5)) (rr a) (rr (a.length:Int)) (rr (0:Int)) (an h6 h7) trivial))
section
variable (a b out:List Int) (i:Nat)
def ae4 (h1:(i:Int)<(a.length:Int)):
  cY sj (fl ku Dr) 2 (k5 a b out i) 3 .normal [(64,64,none)] (k5 a b out i):=
 wy [ah h1] 1
def ae5 (h1:¬(i:Int)<(a.length:Int)):
  cY sj (fl ku Dr) 2 (k5 a b out i) 2 (.exit 0) [(64,64,none)] (k5 a b out i):=
 wy [aJ h1] 1
def ae6 (h1:i<a.length):
  cY sj (fl ku Gn) 3 (k5 a b out i) 1 .normal [(64,64,none)] (q3 a b out i (a.getD i 0) 0 0):=
 wy [ah h1] 64
def ae7 (x c:Int) (j:Nat) (h1:(j:Int)<(b.length:Int)) (h2:j<b.length) (h3:(k4 x (b.getD j 0))=true) (h4:i6 ((i:Int)+(j:Int))) (h5:((i:Int)+(j:Int)).toNat<out.length) (h6:i6 ((j:Int)+1)) (h7:out.length=(out.set ((i:Int)+(j:Int)).toNat (pJ x (b.getD j 0) (out.getD ((i:Int)+(j:Int)).toNat 0) c)).length) (h8:(bH out.length)=(bH (out.set ((i:Int)+(j:Int)).toNat (pJ x (b.getD j 0) (out.getD ((i:Int)+(j:Int)).toNat 0) c)).length)) (h9:(IntKind.wrap IntKind.u64 (IntKind.wrap IntKind.u64 (fK x (b.getD j 0)+(↑(((cL x (b.getD j 0)).toNat+(out.getD ((i:Int)+(j:Int)).toNat 0).toNat+Int.toNat 0)/(2:Nat)^(64:Nat)):Int))+(↑((((cL x (b.getD j 0)).toNat+(out.getD ((i:Int)+(j:Int)).toNat 0).toNat+Int.toNat 0)%(2:Nat)^(64:Nat)+c.toNat+Int.toNat 0)/(2:Nat)^(64:Nat)):Int)))=(sr x (b.getD j 0) (out.getD ((i:Int)+(j:Int)).toNat 0) c)) (h10:(out.set ((i:Int)+(j:Int)).toNat (↑((((cL x (b.getD j 0)).toNat+(out.getD ((i:Int)+(j:Int)).toNat 0).toNat+Int.toNat 0)%(2:Nat)^(64:Nat)+c.toNat+Int.toNat 0)%(2:Nat)^(64:Nat)):Int))=(out.set ((i:Int)+(j:Int)).toNat (pJ x (b.getD j 0) (out.getD ((i:Int)+(j:Int)).toNat 0) c))):
  bt sj (fl ku LG) (q3 a b out i x c j) 3 .normal [(64,64,none)] (q3 a b (out.set ((i:Int)+(j:Int)).toNat (pJ x (b.getD j 0) (out.getD ((i:Int)+(j:Int)).toNat 0) c)) i x (sr x (b.getD j 0) (out.getD ((i:Int)+(j:Int)).toNat 0) c) (j+1)):=
 wy [ah h1,ah h2,af h3,yi h4,ah h5,jf 167 aE h5,yi h6,ax h7,ax h8,ax (show(IntKind.wrap IntKind.u64 (IntKind.wrap IntKind.u64 (fK x (b.getD j (0:Int))+(↑(((cL x (b.getD j (0:Int))).toNat+((bN aE (bU 167 aE out)).getD ((0:Nat)+((i:Int)+(j:Int)).toNat) (0:Int)).toNat+(0:Int).toNat)/(2:Nat)^(64:Nat)):Int))+(↑((((cL x (b.getD j (0:Int))).toNat+((bN aE (bU 167 aE out)).getD ((0:Nat)+((i:Int)+(j:Int)).toNat) (0:Int)).toNat+(0:Int).toNat)%(2:Nat)^(64:Nat)+c.toNat+(0:Int).toNat)/(2:Nat)^(64:Nat)):Int)))=(sr x (b.getD j (0:Int)) (out.getD ((i:Int)+(j:Int)).toNat (0:Int)) c)from(by simp only [ep,aw]<;>exact h9)),pG prog 167 aE (show((bN aE (bU 167 aE out)).set ((0:Nat)+((i:Int)+(j:Int)).toNat) (↑((((cL x (b.getD j (0:Int))).toNat+((bN aE (bU 167 aE out)).getD ((0:Nat)+((i:Int)+(j:Int)).toNat) (0:Int)).toNat+(0:Int).toNat)%(2:Nat)^(64:Nat)+c.toNat+(0:Int).toNat)%(2:Nat)^(64:Nat)):Int))=(out.set ((i:Int)+(j:Int)).toNat (pJ x (b.getD j (0:Int)) (out.getD ((i:Int)+(j:Int)).toNat (0:Int)) c))from(by simp only [ep,aw]<;>exact h10))] 1004782375665203448862331732045300874419142139905
def ae8 (x c:Int) (j:Nat) (h1:¬(j:Int)<(b.length:Int)):
  bt sj (fl ku LG) (q3 a b out i x c j) 2 (.exit 2) [(64,64,none)] (q3 a b out i x c j):=
 wy [aJ h1] 1
def ae9 (x c:Int) (j:Nat) (h1:i6 ((i:Int)+(b.length:Int))) (h2:((i:Int)+(b.length:Int)).toNat<out.length) (h3:out.length=(out.set ((i:Int)+(b.length:Int)).toNat c).length) (h4:(bH out.length)=(bH (out.set ((i:Int)+(b.length:Int)).toNat c).length)):
  bt sj ((fl ku Gn).drop 4) (q3 a b out i x c j) 1 .normal [(64,64,none)] (k5 a b (out.set ((i:Int)+(b.length:Int)).toNat c) i):=
 wy [yi h1,ah h2,jf 167 aE h2,ax h3,ax h4,mM 167 aE (Eq.refl (out.set ((i:Int)+(b.length:Int)).toNat c))] 442721880034140495873
def afa (h1:i6 ((i:Int)+1)):
  bt sj ((fl ku Dr).drop 3) (k5 a b out i) 1 .normal [(64,64,none)] (k5 a b out (i+1)):=
 wy [yi h1] 1
def Sx:
  aD.path (aD.ret (R.normal ((k5 a b out i).T.set 5 (some (bI out))) ((k5 a b out i).H.drop 64) []):aD R) (dl 1) (ef prog 80 .normal [] (Gp out)):=
 wy [] 0
end
def afb (out:List Int) (h1:out.length<=1000000):
  bS sj ((fl ku []).drop 4) (Gp out) 1 f143 false (bI (dS out)):=
 wy [ah h1] 1
def pK (x y:List Int):List Int:=cO 18446744073709551616 (ak x*ak y)
def Ty:=IN 143 [.list false aE, .list false aE] [.list false aE] false (fun d=>kZ d.1 d.2.1) fun d=>(pK d.1 d.2.1,())
def afc {f:FuncId} {args:List aa} {a b:Int} {fresh:Bool} (h:∀(w:World) (F:Env) (xs:List Value),uo w F->Sv.wo F->aG F args xs->Calls prog f xs.toArray w fun e w'=>e= .returned (.tuple #[.int .u64 a, .int .u64 b])/\Below w.heap.size w w'):
  Holds prog fresh f args (.tuple [cu a,cu b]):=fun w F xs hF cv hd=>
 (h w F xs hF cv hd).mono fun e w' ⟨g1,g2⟩=>⟨_,⟨F.at',fun _=>none⟩,g1, .tuple (.cons (.raw _) (.cons (.raw _) .nil)),⟨hF.pE,hF.all,fun b A h=>by cases h⟩,(fun b A h=>by cases h),g2⟩
def Ds {x y:Int}:k4 x y=true↔(0<=x/\x<18446744073709551616)/\(0<=y/\y<18446744073709551616):=by
 unfold k4;simp only [ae,bE]
def afd (X Y:Nat) (hx:X<18446744073709551616) (hy:Y<18446744073709551616):Holds prog true 139 [cu X,cu Y] (.tuple [cu (fK X Y),cu (cL X Y)]):=
 afc fun w F xs hF cv hd=>by
  cases hd with
  |cons d1 d2=>
   cases d2 with
   |cons d2 d3=>
    cases d3;rw [d1.cg,d2.cg];exact(Tryz.bits_Mul64 X Y hx hy w).mono fun e w' ⟨h1,h2⟩=>⟨h1,by subst h2;exact Below.refl _ _⟩
def afe (x y:Int) (h:k4 x y=true):Holds prog true 139 [cu x,cu y] (.tuple [cu (fK x y),cu (cL x y)]):=by
 obtain⟨⟨x0,x1⟩,y0,y1⟩:=Ds.1 h;have:=afd x.toNat y.toNat ω ω;rw [Int.toNat_of_nonneg x0,Int.toNat_of_nonneg y0]at this;exact this
def LH:Gm.Ok prog:=fun⟨x,y,_⟩ h=>afe x y h
def aff:bC prog (bF sj):=cK (aP LA (aP LH dQ))
def fL {x:Int} (h:0<=x/\x<18446744073709551616):IntKind.wrap .u64 x=x:=by
 unfold IntKind.wrap;have e:IntKind.signed .u64=false:=rfl;have e2:IntKind.bits .u64=64:=rfl;simp only [e,e2,Bool.false_and,Bool.false_eq_true,if_false];rw [show(2:Int)^64=18446744073709551616 from rfl];omega
def afg {x y o c:Int} (hx:0<=x/\x<18446744073709551616) (hy:0<=y/\y<18446744073709551616) (ho:0<=o/\o<18446744073709551616) (hc:0<=c/\c<18446744073709551616):
  pJ x y o c+18446744073709551616*sr x y o c=x*y+o+c/\(0<=pJ x y o c/\pJ x y o c<18446744073709551616)/\(0<=sr x y o c/\sr x y o c<18446744073709551616):=by
 have LI:0<=x*y:=Int.mul_nonneg hx.1 hy.1;have hp1:x*y<=18446744073709551615*18446744073709551615:=Int.mul_le_mul ω ω hy.1 δ;unfold pJ sr fK cL;generalize x*y=p at*;rw [show(2:Nat)^64=18446744073709551616 from rfl];have e0:Int.toNat 0=0:=rfl;rw [e0];have hr:=dr p (show(18446744073709551616:Int)≠0 by decide);have hr2:=c7 p (show(0:Int)<18446744073709551616 by decide);have hq:=Int.emod_add_mul_ediv p 18446744073709551616;generalize p%18446744073709551616=r at*;generalize p/18446744073709551616=q at*;have mN:0<=q/\q<=18446744073709551614:=by omega
 obtain⟨R,rfl⟩:∃R:Nat,r=(R:Int):=⟨r.toNat,by omega⟩;obtain⟨O,rfl⟩:∃O:Nat,o=(O:Int):=⟨o.toNat,by omega⟩;obtain⟨C,rfl⟩:∃C:Nat,c=(C:Int):=⟨c.toNat,by omega⟩;simp only [Int.toNat_natCast,Nat.add_zero];have k1:(R+O)/18446744073709551616<=1:=by omega
 have dN:=Nat.mod_add_div (R+O) 18446744073709551616;have mC:=Nat.mod_lt (R+O) (show 18446744073709551616>0 by decide);generalize (R+O)/18446744073709551616=c1 at*;generalize (R+O)%18446744073709551616=l1 at*;have o7:=Nat.mod_add_div (l1+C) 18446744073709551616;have x7:=Nat.mod_lt (l1+C) (show 18446744073709551616>0 by decide);have FU:(l1+C)/18446744073709551616<=1:=by omega
 generalize (l1+C)/18446744073709551616=c2 at*;generalize (l1+C)%18446744073709551616=l2 at*;rw [fL (x:=q+(c1:Int)) ω,fL (x:=q+(c1:Int)+(c2:Int)) ω];omega
def Tz:(fl ku []).drop 4≠[]:=fun h=>by
 have:((fl ku []).drop 4).isEmpty=false:=by kernel_rfl
 rw [h]at this;cases this
def TA {P b lo hi x y o c V W M:Int} (h:lo+b*hi=x*y+o+c) (hv:V+P*c=M):V+P*(lo-o)+P*b*hi=M+P*(x*y):=by
 have h1:P*(lo+b*hi)=P*(x*y+o+c):=by rw [h]
 rw [Int.mul_add,Int.mul_add,Int.mul_add,<-Int.mul_assoc]at h1;rw [Int.mul_sub];omega
def afh (x y:List Int) (h:kZ x y=true):Holds prog false 143 [bI x,bI y] (bI (pK x y)):=by
 unfold kZ at h;simp only [ae,bE]at h;obtain⟨hx,hy,lx,ly⟩:=h;have hx:=hM.1 hx;have hy:=hM.1 hy;have hS:=aff;have e1:((x.length:Int)+(y.length:Int)).toNat=x.length+y.length:=by omega
 refine bL (c:=ku) func143 rfl rfl fun w0 F=> ?_
 refine cJ hS 3 (ae3 x y ω ω (by rw [gH,e1]) (by rw [e1]) (by rw [gH]) (by rw [e1];exact yJ _) (by rw [gH])) ?_;refine aU.loop (ι:={s:List Int×Nat//s.2<=x.length/\s.1.length=x.length+y.length/\aS 18446744073709551616 s.1/\ak s.1=ak (x.take s.2)*ak y/\∀k,s.2+y.length<=k->s.1.getD k 0=0}) (id:=0) (b:=cat ku Dr) (rest:=(fl ku []).drop 4) (by kernel_rfl) (fun s=>k5 x y s.1.1 s.1.2) (fun s=>x.length-s.1.2)
  ⟨(cG (x.length+y.length),0),Nat.zero_le _,gH _,A0 _,by
    show vl _ (List.replicate _ 0)=vl _ (x.take 0)*_;rw [Dk];simp [vl],fun k _=>by
    show(List.replicate _ (0:Int)).getD k 0=0;rw [ao,List.getElem?_replicate];split<;>rfl⟩ (fun _=>rfl) ?_
 rintro⟨⟨out,i⟩,hi,ho,iT,hval,hz⟩;have hi:i<=x.length:=hi;have ho:out.length=x.length+y.length:=ho;have iT:aS 18446744073709551616 out:=iT;have hval:ak out=ak (x.take i)*ak y:=hval;have hz:∀k,i+y.length<=k->out.getD k 0=0:=hz;by_cases hlt:i<x.length
 .have wI:=hx.get δ i;refine c6 (s:=k5 x y out i) hS 2 (ae4 x y out i ω) ?_;refine Dj (id:=1) (c:=cat ku Gn) (rest:=(fl ku Dr).drop 3) (by kernel_rfl) ?_;refine c6 (s:=k5 x y out i) hS 3 (ae6 x y out i hlt) ?_;refine aU.loop (ι:={s:List Int×Int×Nat//s.2.2<=y.length/\s.1.length=x.length+y.length/\aS 18446744073709551616 s.1/\(0<=s.2.1/\s.2.1<18446744073709551616)/\ak s.1+18446744073709551616^(i+s.2.2)*s.2.1=ak out+18446744073709551616^i*(x.getD i 0*ak (y.take s.2.2))/\∀k,i+y.length<=k->s.1.getD k 0=0}) (id:=2) (b:=cat ku LG) (rest:=(fl ku Gn).drop 4) (by kernel_rfl) (fun s=>q3 x y s.1.1 i (x.getD i 0) s.1.2.1 s.1.2.2) (fun s=>y.length-s.1.2.2)
   ⟨(out,0,0),Nat.zero_le _,ho,iT,⟨Int.le_refl 0,show(0:Int)<18446744073709551616 by decide⟩,by simp [ak,vl],hz⟩ (fun _=>rfl) ?_
  rintro⟨⟨cW,c,j⟩,hj,nG,q4,hc,hinv,k6⟩;have hj:j<=y.length:=hj;have nG:cW.length=x.length+y.length:=nG;have q4:aS 18446744073709551616 cW:=q4;have hc:0<=c/\c<18446744073709551616:=hc;have hinv:ak cW+18446744073709551616^(i+j)*c=ak out+18446744073709551616^i*(x.getD i 0*ak (y.take j)):=hinv;have k6:∀k,i+y.length<=k->cW.getD k 0=0:=k6;have e2:((i:Int)+(j:Int)).toNat=i+j:=by omega
  have e3:((i:Int)+(y.length:Int)).toNat=i+y.length:=by omega
  by_cases hlj:j<y.length
  .have Gq:=hy.get δ j;have Av:=q4.get δ (i+j);obtain⟨g1,g2,g3⟩:=afg wI Gq Av hc;refine bx (s:=q3 x y cW i (x.getD i 0) c j) (s':=q3 x y (cW.set ((i:Int)+(j:Int)).toNat (pJ (x.getD i 0) (y.getD j 0) (cW.getD ((i:Int)+(j:Int)).toNat 0) c)) i (x.getD i 0) (sr (x.getD i 0) (y.getD j 0) (cW.getD ((i:Int)+(j:Int)).toNat 0) c) (j+1)) hS (ae7 x y cW i (x.getD i 0) c j ω hlj (Ds.2 ⟨wI,Gq⟩) ω ω ω (by rw [b6]) (by rw [b6]) rfl rfl) ?_;rw [e2];refine⟨⟨(cW.set (i+j) (pJ (x.getD i 0) (y.getD j 0) (cW.getD (i+j) 0) c),sr (x.getD i 0) (y.getD j 0) (cW.getD (i+j) 0) c,j+1),hlj,by rw [b6];exact nG,q4.set g2,g3, ?_,fun k hk=> ?_⟩,by simp;omega,rfl,rfl⟩
   .show vl 18446744073709551616 (cW.set (i+j) (pJ (x.getD i 0) (y.getD j 0) (cW.getD (i+j) 0) c))+18446744073709551616^(i+(j+1))*sr (x.getD i 0) (y.getD j 0) (cW.getD (i+j) 0) c=vl 18446744073709551616 out+18446744073709551616^i*(x.getD i 0*vl 18446744073709551616 (y.take (j+1)));rw [qU _ _ _ _ ω,<-Nat.add_assoc,Int.pow_succ,kX,Int.mul_add,Int.mul_add];have:=TA (W:=0) g1 hinv;unfold ak at this;rw [this,Int.add_assoc,Int.pow_add];congr 2;rw [Int.mul_assoc,Int.mul_left_comm (x.getD i 0)]
   .rw [ao,List.getElem?_set_ne ω,<-ao];exact k6 k hk
  .refine bx (s:=q3 x y cW i (x.getD i 0) c j) hS (ae8 x y cW i (x.getD i 0) c j ω) ?_;refine cy (cF ?_);obtain rfl:j=y.length:=by omega
   refine bx (s:=q3 x y cW i (x.getD i 0) c y.length) (s':=k5 x y (cW.set ((i:Int)+(y.length:Int)).toNat c) i) hS (ae9 x y cW i (x.getD i 0) c y.length ω ω (by rw [b6]) (by rw [b6])) ?_;rw [e3];refine bx (s:=k5 x y (cW.set (i+y.length) c) i) hS (afa x y (cW.set (i+y.length) c) i ω) ?_;refine⟨⟨(cW.set (i+y.length) c,i+1),hlt,by rw [b6];exact nG,q4.set hc, ?_,fun k hk=> ?_⟩,by simp;omega,rfl,rfl⟩
   .have hk0:=k6 (i+y.length) (aI _);show vl _ (cW.set (i+y.length) c)=vl _ (x.take (i+1))*_;rw [qU _ _ _ _ ω,hk0,Int.sub_zero,kX,Int.add_mul,Int.mul_assoc];rw [dK,hval]at hinv;exact hinv
   .rw [ao,List.getElem?_set_ne ω,<-ao];exact k6 k ω
 .refine c6 (s:=k5 x y out i) hS 2 (ae5 x y out i ω) ?_;refine cy (cy (cF ?_));obtain rfl:i=x.length:=by omega
  rw [dK]at hval;unfold pK;rw [<-hval,<-wH iT];refine aU.uA Tz (i:=64) (s:=5) (e2:=167) (t:=aE) (xs:=out) (cap:=bH out.length) (by kernel_rfl) (by kernel_rfl) ?_;refine aU.nD Tz (σ:=[]) (s:=Gp out) (Sx x y out x.length) ?_;exact bX (s:=Gp out) hS (afb out ω)
def afi:Ty.Ok prog:=fun⟨x,y,_⟩ h=>afh x y h
end
abbrev aC:=Int×List Int
def aj (a:aC):Int:=if a.2=[]then a.1 else a.1*ak a.2
noncomputable def aY (z:Int):Int×List Int:=if-9223372036854775807<=z/\z<=9223372036854775807 then(z,[])else(if z<0 then-1 else 1,cO 18446744073709551616 z.natAbs)
def gI (z:Int):Bool:=decide (-9223372036854775808<=z)&&decide (z<=9223372036854775807)
def iy (a:aC):Bool:=List.isEmpty (α:=Int) a.2
def aT (n:Nat) (a:aC):Bool:=match a.2 with
 |[]=>gI a.1
 |x::l=>(a.1==1||a.1== -1)&&(gR (x::l)&&(jG (x::l)&&(decide (9223372036854775807<ak (x::l))&&decide ((x::l).length<=n))))
def ay (a:aC):Bool:=aT 100000 a
def cm (n:Int):Int:=n.natAbs
def aB (a:aC):List Int:=if a.2=[]then(if a.1=0 then []else [cm a.1])else a.2
def bY (a:aC):Bool:=decide (a.1<0)
noncomputable def b8 (a b:aC):Int×List Int:=if iy a&&(iy b&&gI (a.1+b.1))then(a.1+b.1,[])else aY (aj a+aj b)
noncomputable def a7 (a b:aC):Int×List Int:=aY (aj a*aj b)
noncomputable def e6 (a:aC):Int×List Int:=aY (-aj a)
noncomputable def pL (a:aC):Int×List Int:=aY (aj a).natAbs
noncomputable def cz (a b:aC):Int×List Int:=b8 a (e6 b)
def jH (z:Int):Int:=if z<0 then-1 else if z=0 then 0 else 1
def fk (a:aC):Int:=jH (aj a)
def fM (a b:aC):Int:=jH (aj a-aj b)
def LJ {x:Int} (h:0<=x/\x<18446744073709551616):aS 18446744073709551616 [x]:= .cons h .nil
def TB {x:Int} (h:x≠0):e5 [x]:=e5.cons .nil fun _=>h
def A1 (x:Int):ak [x]=x:=sg _ _
def q5 {z:Int}:gI z=true↔ -9223372036854775808<=z/\z<=9223372036854775807:=by
 unfold gI;rw [ae,bE,bE]
def dy {a:aC}:iy a=true↔a.2=[]:=by unfold iy;exact List.isEmpty_iff
def su {a:aC}:iy a=false↔a.2≠[]:=by
 constructor
 .intro h e;rw [dy.2 e]at h;cases h
 .intro h;cases hs:iy a with
  |false=>rfl
  |true=>exact absurd (dy.1 hs) h
def lT {a:aC} (h:a.2=[]):aj a=a.1:=by unfold aj;rw [if_pos h]
section
variable {n:Nat} {a:aC}
def nH (h:a.2=[]):aT n a=gI a.1:=by unfold aT;rw [h]
def pM (h:a.2≠[]):aT n a=true↔(a.1=1\/a.1= -1)/\aS 18446744073709551616 a.2/\e5 a.2/\9223372036854775807<ak a.2/\a.2.length<=n:=by
 obtain⟨s,w⟩:=a;cases w with
 |nil=>exact absurd rfl h
 |cons x l=>
  unfold aT;simp only [ae,Bool.or_eq_true,bE,fU,hM,q2]
def cf (h:aT n a=true):aS 18446744073709551616 (aB a)/\e5 (aB a)/\ak (aB a)=(aj a).natAbs/\(bY a=true↔aj a<0)/\(aB a).length<=max n 1:=by
 by_cases hs:a.2=[]
 .rw [nH hs]at h;have h:=q5.1 h;have hv:=lT hs;have hn:bY a=true↔aj a<0:=by unfold bY;rw [hv,bE]
  unfold aB;rw [if_pos hs,hv];by_cases h0:a.1=0
  .rw [if_pos h0,h0];exact⟨.nil, .nil,rfl,by rw [<-hv]at h0;rw [hn,h0],by simp⟩
  .rw [if_neg h0];refine⟨LJ (by unfold cm;omega),TB (by unfold cm;omega),by rw [A1];rfl,by rw [hn,hv],by simp;omega⟩
 .obtain⟨h1,h2,h3,h4,h5⟩:=(pM hs).1 h;unfold aB bY;rw [if_neg hs];have hv:aj a=a.1*ak a.2:=by unfold aj;rw [if_neg hs]
  refine⟨h2,h3, ?_, ?_,by omega⟩
  .rw [hv];rcases h1 with h1|h1<;>rw [h1]<;>omega
  .rw [hv,bE];rcases h1 with h1|h1<;>rw [h1]<;>omega
def jI (h:aT n a=true) (hn:1<=n):((aj a).natAbs:Int)<18446744073709551616^n:=by
 obtain⟨h1,_,h3,_,h5⟩:=cf h;have h6:=dt (b:=18446744073709551616) δ h1;have h7:=iQ (b:=18446744073709551616) δ (show(aB a).length<=n by omega);unfold ak at h3;omega
end
def jn {b z:Int} {n:Nat} (hb:1<b) (h0:0<=z) (h:z<b^n):(cO b z).length<=n:=by
 obtain⟨h1,h2,h3⟩:=qX hb h0;cases hl:(cO b z).length with
 |zero=>omega
 |succ k=>
  have h4:=yH ω h1 h2 hl;rw [h3]at h4;by_cases hk:k+1<=n
  .exact hk
  .have:=iQ (show 1<=b by omega) (show n<=k by omega);omega
def LK {b:Int} (hb:1<b):cO b 0=[]:=(qY hb .nil .nil rfl).symm
def A2 {b z:Int} (hb:1<b) (h:0<z):cO b z≠[]:=fun e=>by
 obtain⟨_,_,h3⟩:=qX hb (cr h);rw [e]at h3;simp [vl]at h3;omega
def jJ {n:Nat} {z:Int} (h:(z.natAbs:Int)<18446744073709551616^n):aT n (aY z)=true/\aj (aY z)=z:=by
 unfold aY;split
 .rename_i hz;exact⟨by rw [nH rfl];exact q5.2 ⟨by omega,hz.2⟩,lT rfl⟩
 .rename_i hz;have h0:0<(z.natAbs:Int):=by omega
  obtain⟨h1,h2,h3⟩:=qX (b:=18446744073709551616) δ (cr h0);have hne:=A2 (b:=18446744073709551616) δ h0;refine⟨(pM hne).2 ⟨?_,h1,h2, ?_,jn δ (cr h0) h⟩, ?_⟩
  .show(if z<0 then(-1:Int)else 1)=1\/_;split
   .exact .inr rfl
   .exact .inl rfl
  .show 9223372036854775807<vl _ _;rw [h3];omega
  .unfold aj;rw [if_neg hne];show(if z<0 then(-1:Int)else 1)*vl _ _=z;rw [h3];split<;>omega
def val_mk (z:Int):aj (aY z)=z:=by
 have:(z.natAbs:Int)<18446744073709551616^(z.natAbs+1):=by
  have:∀n:Nat,(n:Int)<18446744073709551616^(n+1):=fun n=>by
   induction n with
   |zero=>decide
   |succ n ih=>rw [Int.pow_succ];omega
  exact this _
 exact(jJ this).2
def Gr {n:Nat} {a:aC} (h:aT n a=true) (hv:aj a≠ -9223372036854775808):a=aY (aj a):=by
 obtain⟨s,w⟩:=a;by_cases hs:w=[]
 .subst hs;have h:gI s=true:=h;have h:=q5.1 h;have hv:s≠ -9223372036854775808:=hv;show(s,[])=aY s;unfold aY;rw [if_pos ⟨by omega,h.2⟩]
 .obtain⟨h1,h2,h3,h4,h5⟩:=(pM (a:=(s,w)) hs).1 h;have e:aj (s,w)=s*ak w:=by unfold aj;rw [if_neg hs]
  rw [e]at hv ⊢;have h1:s=1\/s= -1:=h1;have h4:9223372036854775807<ak w:=h4;have hd:w=cO 18446744073709551616 (ak w):=qY δ h2 h3 rfl;unfold aY;rcases h1 with rfl |rfl
  .rw [if_neg ω,if_neg ω,show((1*ak w).natAbs:Int)=ak w by omega,<-hd]
  .rw [if_neg ω,if_pos ω,show((-1*ak w).natAbs:Int)=ak w by omega,<-hd]
def nI (a b:aC):aj (b8 a b)=aj a+aj b:=by
 unfold b8;split
 .rename_i h;simp only [ae]at h;rw [lT rfl,lT (dy.1 h.1),lT (dy.1 h.2.1)]
 .exact val_mk _
def q6 {n:Nat} {a b:aC} (h:((aj a+aj b).natAbs:Int)<18446744073709551616^n):aT n (b8 a b)=true:=by
 unfold b8;split
 .rename_i h;simp only [ae]at h;rw [nH rfl];exact h.2.2
 .exact(jJ h).1
def LL {z:Int} (h:0<z):jH z=1:=by unfold jH;rw [if_neg ω,if_neg ω]
def Gs {z:Int} (h:z<0):jH z= -1:=by unfold jH;rw [if_pos h]
def afj:jH 0=0:=by decide
end Go.Proofs.YtibikmmdbdlafaaGreatDoor
