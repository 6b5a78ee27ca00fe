import Derived.Test.YtibikmmdbdlafaaGreatDoorZmDig2
import Derived.Shelf.Small.Bits
import Derived.Shelf.Small.Wraps
import Derived.Shelf.Strconv.Atoi
import Derived.Shelf.Strconv.Itoa3
import Derived.Shelf.Strings.Shaped
import Derived.Shelf.Sort.Plain
import Derived.Shelf.Strings.Repeat
import Derived.Shelf.Slices.Turned
import Derived.Shelf.Slices.Clone
import Derived.Shelf.Slices.SearchI
import Derived.Shelf.Slices.Cells
import Derived.Shelf.Slices.In.SortNone
set_option linter.defProp false
set_option linter.unusedVariables false
set_option maxRecDepth 100000
set_option linter.unusedSimpArgs false
namespace Go.Proofs.YtibikmmdbdlafaaGreatDoor
open Go.RowKit Sv Go.Proofs.Tryz
noncomputable section
noncomputable def lr:bI:=aR [Fk]
def cZ (a b c:Int):Int:=(((a.toNat+b.toNat+c.toNat)%2^64:Nat):Int)
def dQ (a b c:Int):Int:=(((a.toNat+b.toNat+c.toNat)/2^64:Nat):Int)
def di (a b c:Int):Int:=(((a.toNat+2^64-b.toNat-c.toNat)%2^64:Nat):Int)
def eo (a b c:Int):Int:=((if a.toNat<b.toNat+c.toNat then 1 else 0:Nat):Int)
def cG (n:Nat):List Int:=List.replicate n 0
noncomputable def mM:Code:=(f144.body).getD .skip
noncomputable def om:Code:=(f146.body).getD .skip
abbrev Ab:List Nat:=[1,1,1,1,0,1,0,0]
def fH (x y out:List Int) (c:Int) (i:Nat):bC:={n:=54,sl:=[(0,bE x),(1,bE y),(5,qA 64 out),(6,cr c),(21,iv x.length),(22,iv i)],bF:=[(64,qC out)],next:=65}
def Fl (out:List Int):bC:={n:=54,sl:=[(5,qA 64 out)],bF:=[(64,qC out)],next:=65}
def Fm (out:List Int):bC:={n:=54,sl:=[(5,bE out)],bF:=[],next:=64}
def aco (x y:List Int) (h1:¬(x.length:Int)<(y.length:Int)) (h2: -9223372036854775808<=(x.length:Int)+1/\(x.length:Int)+1<=9223372036854775807) (h3:((x.length:Int)+1).toNat<=1000000) (h4:(((x.length:Int)+1).toNat)=(cG (x.length+(1:Nat))).length) (h5:(aZ.known ((x.length:Int)+1).toNat)=(aZ.known (x.length+(1:Nat)))) (h6:(bJ (cG (x.length+(1:Nat))).length)=(bJ (x.length+(1:Nat)))) (h7:(List.flatten (List.replicate ((x.length:Int)+1).toNat (List.map aa.raw (Array.toList #[Value.int .u64 (0:Int)]))))=(List.flatMap (fun x=>[aa.raw (Value.int .u64 x)]) (cG (x.length+(1:Nat))))) (h8:(x.length+(1:Nat))=(cG (x.length+(1:Nat))).length):
  aC.path (o4 prog lr (fl mM []) 6 54 [bE x,bE y]) (dl 2) (dP prog 54 .normal [(64,64,some (x.length+1))] (fH x y (cG (x.length+1)) 0 0)):=
 mp (Kt (ab h1) (br h2) rt rt (show(decide (((x.length:Int)+1).toNat<=((x.length:Int)+1).toNat))=true from ax (by omega)) (og (show(bounded ((x.length:Int)+1).toNat (8:Nat))=true from o6 h3 (by omega)) (rr x) (rr y) (an h4 (an h5 h6)) (rr (0:Int)) (rr (x.length:Int)) (rr (0:Int)) (an h7 h8) trivial))
def acp (x y:List Int) (h1:(x.length:Int)<(y.length:Int)) (h2: -9223372036854775808<=(y.length:Int)+1/\(y.length:Int)+1<=9223372036854775807) (h3:((y.length:Int)+1).toNat<=1000000) (h4:(((y.length:Int)+1).toNat)=(cG (y.length+(1:Nat))).length) (h5:(aZ.known ((y.length:Int)+1).toNat)=(aZ.known (y.length+(1:Nat)))) (h6:(bJ (cG (y.length+(1:Nat))).length)=(bJ (y.length+(1:Nat)))) (h7:(List.flatten (List.replicate ((y.length:Int)+1).toNat (List.map aa.raw (Array.toList #[Value.int .u64 (0:Int)]))))=(List.flatMap (fun x=>[aa.raw (Value.int .u64 x)]) (cG (y.length+(1:Nat))))) (h8:(y.length+(1:Nat))=(cG (y.length+(1:Nat))).length):
  aC.path (o4 prog lr (fl mM []) 6 54 [bE x,bE y]) (dl 3) (dP prog 54 .normal [(64,64,some (y.length+1))] (fH y x (cG (y.length+1)) 0 0)):=
 mp (Kt (ax h1) (br h2) rt rt (show(decide (((y.length:Int)+1).toNat<=((y.length:Int)+1).toNat))=true from ax (by omega)) (og (show(bounded ((y.length:Int)+1).toNat (8:Nat))=true from o6 h3 (by omega)) (rr y) (rr x) (an h4 (an h5 h6)) (rr (0:Int)) (rr (y.length:Int)) (rr (0:Int)) (an h7 h8) trivial))
def acq (x y out:List Int) (i:Nat) (h1:(i:Int)<(x.length:Int)) (h2:(i:Int)<(y.length:Int)) (h3:i<y.length) (h4:i<x.length) (h5:i<out.length) (h6:i6 ((i:Int)+1)) (h7:out.length=(out.set i (cZ (x.getD i 0) (y.getD i 0) 0)).length) (h8:(bJ out.length)=(bJ (out.set i (cZ (x.getD i 0) (y.getD i 0) 0)).length)) (h9:(↑(((x.getD i 0).toNat+(y.getD i 0).toNat+Int.toNat 0)/(2:Nat)^(64:Nat)):Int)=(dQ (x.getD i 0) (y.getD i 0) 0)) (h10:(out.set i (↑(((x.getD i 0).toNat+(y.getD i 0).toNat+Int.toNat 0)%(2:Nat)^(64:Nat)):Int))=(out.set i (cZ (x.getD i 0) (y.getD i 0) 0))):
  bg lr (fl mM Ab) (fH x y out 0 i) 7 .normal [(64,64,none)] (fH x y (out.set i (cZ (x.getD i 0) (y.getD i 0) 0)) (dQ (x.getD i 0) (y.getD i 0) 0) (i+1)):=
 wy [ah h1,ah h2,ah h3,ah h4,ah h5,jd 167 aD h5,yi h6,az h7,az h8,az h9,mJ 167 aD h10] 3569716646146256639964958679629953
def acr (x y out:List Int) (i:Nat) (h1:(i:Int)<(x.length:Int)) (h2:¬(i:Int)<(y.length:Int)) (h3:i<x.length) (h4:i<out.length) (h5:i6 ((i:Int)+1)) (h6:out.length=(out.set i (cZ (x.getD i 0) 0 0)).length) (h7:(bJ out.length)=(bJ (out.set i (cZ (x.getD i 0) 0 0)).length)) (h8:(↑(((x.getD i 0).toNat+Int.toNat 0+Int.toNat 0)/(2:Nat)^(64:Nat)):Int)=(dQ (x.getD i 0) 0 0)) (h9:(out.set i (↑(((x.getD i 0).toNat+Int.toNat 0+Int.toNat 0)%(2:Nat)^(64:Nat)):Int))=(out.set i (cZ (x.getD i 0) 0 0))):
  bg lr (fl mM Ab) (fH x y out 0 i) 5 .normal [(64,64,none)] (fH x y (out.set i (cZ (x.getD i 0) 0 0)) (dQ (x.getD i 0) 0 0) (i+1)):=
 wy [ah h1,aA h2,ah h3,ah h4,jd 167 aD h4,yi h5,az h6,az h7,az h8,mJ 167 aD h9] 792284383521178232608283951233
def acs (x y out:List Int) (i:Nat) (h1:(i:Int)<(x.length:Int)) (h2:(i:Int)<(y.length:Int)) (h3:i<y.length) (h4:i<x.length) (h5:i<out.length) (h6:i6 ((i:Int)+1)) (h7:out.length=(out.set i (cZ (x.getD i 0) (y.getD i 0) 1)).length) (h8:(bJ out.length)=(bJ (out.set i (cZ (x.getD i 0) (y.getD i 0) 1)).length)) (h9:(↑(((x.getD i 0).toNat+(y.getD i 0).toNat+Int.toNat 1)/(2:Nat)^(64:Nat)):Int)=(dQ (x.getD i 0) (y.getD i 0) 1)) (h10:(out.set i (↑(((x.getD i 0).toNat+(y.getD i 0).toNat+Int.toNat 1)%(2:Nat)^(64:Nat)):Int))=(out.set i (cZ (x.getD i 0) (y.getD i 0) 1))):
  bg lr (fl mM Ab) (fH x y out 1 i) 7 .normal [(64,64,none)] (fH x y (out.set i (cZ (x.getD i 0) (y.getD i 0) 1)) (dQ (x.getD i 0) (y.getD i 0) 1) (i+1)):=
 wy [ah h1,ah h2,ah h3,ah h4,ah h5,jd 167 aD h5,yi h6,az h7,az h8,az h9,mJ 167 aD h10] 3569716646146256639964958679629953
def acu (x y out:List Int) (i:Nat) (h1:(i:Int)<(x.length:Int)) (h2:¬(i:Int)<(y.length:Int)) (h3:i<x.length) (h4:i<out.length) (h5:i6 ((i:Int)+1)) (h6:out.length=(out.set i (cZ (x.getD i 0) 0 1)).length) (h7:(bJ out.length)=(bJ (out.set i (cZ (x.getD i 0) 0 1)).length)) (h8:(↑(((x.getD i 0).toNat+Int.toNat 0+Int.toNat 1)/(2:Nat)^(64:Nat)):Int)=(dQ (x.getD i 0) 0 1)) (h9:(out.set i (↑(((x.getD i 0).toNat+Int.toNat 0+Int.toNat 1)%(2:Nat)^(64:Nat)):Int))=(out.set i (cZ (x.getD i 0) 0 1))):
  bg lr (fl mM Ab) (fH x y out 1 i) 5 .normal [(64,64,none)] (fH x y (out.set i (cZ (x.getD i 0) 0 1)) (dQ (x.getD i 0) 0 1) (i+1)):=
 wy [ah h1,aA h2,ah h3,ah h4,jd 167 aD h4,yi h5,az h6,az h7,az h8,mJ 167 aD h9] 792284383521178232608283951233
def acv (x y out:List Int) (c:Int) (i:Nat) (h1:¬(i:Int)<(x.length:Int)):
  bg lr (fl mM Ab) (fH x y out c i) 2 (.exit 0) [(64,64,none)] (fH x y out c i):=
 wy [aA h1] 1
def acw (x y out:List Int) (c:Int) (i:Nat) (h1:x.length<out.length) (h2:out.length=(out.set x.length c).length) (h3:(bJ out.length)=(bJ (out.set x.length c).length)):
  dD lr ((fl mM []).drop 7) 1 (fH x y out c i) 1 .normal [(64,64,none)] (Fl (out.set x.length c)):=
 wy [ah h1,jd 167 aD h1,az h2,az h3,mJ 167 aD (Eq.refl (out.set x.length c))] 347942690880
def acy (out:List Int):
  aC.path (aC.ret (R.normal ((Fl out).T.set 5 (some (bE out))) ((Fl out).H.drop 64) []):aC R) (dl 1) (dP prog 54 .normal [] (Fm out)):=
 wy [] 0
def acz (out:List Int) (h1:out.length<=1000000):
  bH lr ((fl mM []).drop 8) (Fm out) 1 f144 false (bE (dL out)):=
 wy [ah h1] 1
abbrev Ac:List Nat:=[1,1,1,0,1,0,0]
def fQ (x y out:List Int) (c:Int) (i:Nat):bC:={n:=41,sl:=[(0,bE x),(1,bE y),(5,qA 64 out),(6,cr c),(13,iv x.length),(14,iv i)],bF:=[(64,qC out)],next:=65}
def Fo (out:List Int):bC:={n:=41,sl:=[(5,bE out)],bF:=[],next:=64}
def acA (x y:List Int) (h1:x.length<=1000000) (h2:x.length=(cG x.length).length) (h3:(bJ (cG x.length).length)=(bJ x.length)) (h4:(List.flatten (List.replicate x.length (List.map aa.raw (Array.toList #[Value.int .u64 (0:Int)]))))=(List.flatMap (fun x=>[aa.raw (Value.int .u64 x)]) (cG x.length))):
  aC.path (o4 prog lr (fl om []) 4 41 [bE x,bE y]) (dl 1) (dP prog 41 .normal [(64,64,some x.length)] (fQ x y (cG x.length) 0 0)):=
 mp (Fc rt rt (show(decide (x.length<=x.length))=true from ax (by omega)) (og (show(bounded x.length (8:Nat))=true from o6 h1 (by omega)) (rr x) (rr y) (an h2 (an (rr (aZ.known x.length)) h3)) (rr (0:Int)) (rr (x.length:Int)) (rr (0:Int)) (an h4 h2) trivial))
def acB (x y out:List Int) (i:Nat) (h1:(i:Int)<(x.length:Int)) (h2:(i:Int)<(y.length:Int)) (h3:i<y.length) (h4:i<x.length) (h5:i<out.length) (h6:i6 ((i:Int)+1)) (h7:out.length=(out.set i (di (x.getD i (0:Int)) (y.getD i (0:Int)) (0:Int))).length) (h8:(bJ out.length)=(bJ (out.set i (di (x.getD i (0:Int)) (y.getD i (0:Int)) (0:Int))).length)) (h9:(↑(if Int.toNat (x.getD i (0:Int))<(y.getD i (0:Int)).toNat+Int.toNat (0:Int)then(1:Nat)else(0:Nat)):Int)=(eo (x.getD i (0:Int)) (y.getD i (0:Int)) (0:Int))) (h10:(out.set i (↑(((x.getD i (0:Int)).toNat+(2:Nat)^(64:Nat)-Int.toNat (y.getD i (0:Int))-Int.toNat (0:Int))%(2:Nat)^(64:Nat)):Int))=(out.set i (di (x.getD i (0:Int)) (y.getD i (0:Int)) (0:Int)))):
  bg lr (fl om Ac) (fQ x y out 0 i) 7 .normal [(64,64,none)] (fQ x y (out.set i (di (x.getD i 0) (y.getD i 0) 0)) (eo (x.getD i 0) (y.getD i 0) 0) (i+1)):=
 wy [ah h1,ah h2,ah h3,ah h4,ah h5,jd 167 aD h5,yi h6,az h7,az h8,az h9,mJ 167 aD h10] 3569716646146256639964958679629953
def acC (x y out:List Int) (i:Nat) (h1:(i:Int)<(x.length:Int)) (h2:¬(i:Int)<(y.length:Int)) (h3:i<x.length) (h4:i<out.length) (h5:i6 ((i:Int)+1)) (h6:out.length=(out.set i (di (x.getD i 0) 0 0)).length) (h7:(bJ out.length)=(bJ (out.set i (di (x.getD i 0) 0 0)).length)) (h8:(↑(if Int.toNat (x.getD i 0)<Int.toNat 0+Int.toNat 0 then 1 else 0):Int)=(eo (x.getD i 0) 0 0)) (h9:(out.set i (↑(((x.getD i 0).toNat+(2:Nat)^(64:Nat)-Int.toNat 0-Int.toNat 0)%(2:Nat)^(64:Nat)):Int))=(out.set i (di (x.getD i 0) 0 0))):
  bg lr (fl om Ac) (fQ x y out 0 i) 5 .normal [(64,64,none)] (fQ x y (out.set i (di (x.getD i 0) 0 0)) (eo (x.getD i 0) 0 0) (i+1)):=
 wy [ah h1,aA h2,ah h3,ah h4,jd 167 aD h4,yi h5,az h6,az h7,az h8,mJ 167 aD h9] 792284383521178232608283951233
def acD (x y out:List Int) (i:Nat) (h1:(i:Int)<(x.length:Int)) (h2:(i:Int)<(y.length:Int)) (h3:i<y.length) (h4:i<x.length) (h5:i<out.length) (h6:i6 ((i:Int)+1)) (h7:out.length=(out.set i (di (x.getD i (0:Int)) (y.getD i (0:Int)) (1:Int))).length) (h8:(bJ out.length)=(bJ (out.set i (di (x.getD i (0:Int)) (y.getD i (0:Int)) (1:Int))).length)) (h9:(↑(if Int.toNat (x.getD i (0:Int))<(y.getD i (0:Int)).toNat+Int.toNat (1:Int)then(1:Nat)else(0:Nat)):Int)=(eo (x.getD i (0:Int)) (y.getD i (0:Int)) (1:Int))) (h10:(out.set i (↑(((x.getD i (0:Int)).toNat+(2:Nat)^(64:Nat)-Int.toNat (y.getD i (0:Int))-Int.toNat (1:Int))%(2:Nat)^(64:Nat)):Int))=(out.set i (di (x.getD i (0:Int)) (y.getD i (0:Int)) (1:Int)))):
  bg lr (fl om Ac) (fQ x y out 1 i) 7 .normal [(64,64,none)] (fQ x y (out.set i (di (x.getD i 0) (y.getD i 0) 1)) (eo (x.getD i 0) (y.getD i 0) 1) (i+1)):=
 wy [ah h1,ah h2,ah h3,ah h4,ah h5,jd 167 aD h5,yi h6,az h7,az h8,az h9,mJ 167 aD h10] 3569716646146256639964958679629953
def acE (x y out:List Int) (i:Nat) (h1:(i:Int)<(x.length:Int)) (h2:¬(i:Int)<(y.length:Int)) (h3:i<x.length) (h4:i<out.length) (h5:i6 ((i:Int)+1)) (h6:out.length=(out.set i (di (x.getD i (0:Int)) (0:Int) (1:Int))).length) (h7:(bJ out.length)=(bJ (out.set i (di (x.getD i (0:Int)) (0:Int) (1:Int))).length)) (h8:(↑(if Int.toNat (x.getD i (0:Int))<(0:Int).toNat+Int.toNat (1:Int)then(1:Nat)else(0:Nat)):Int)=(eo (x.getD i (0:Int)) (0:Int) (1:Int))) (h9:(out.set i (↑(((x.getD i (0:Int)).toNat+(2:Nat)^(64:Nat)-Int.toNat (0:Int)-Int.toNat (1:Int))%(2:Nat)^(64:Nat)):Int))=(out.set i (di (x.getD i (0:Int)) (0:Int) (1:Int)))):
  bg lr (fl om Ac) (fQ x y out 1 i) 5 .normal [(64,64,none)] (fQ x y (out.set i (di (x.getD i 0) 0 1)) (eo (x.getD i 0) 0 1) (i+1)):=
 wy [ah h1,aA h2,ah h3,ah h4,jd 167 aD h4,yi h5,az h6,az h7,az h8,mJ 167 aD h9] 792284383521178232608283951233
def acF (x y out:List Int) (c:Int) (i:Nat) (h1:¬(i:Int)<(x.length:Int)):
  bg lr (fl om Ac) (fQ x y out c i) 2 (.exit 0) [(64,64,none)] (fQ x y out c i):=
 wy [aA h1] 1
def QP (x y out:List Int) (c:Int) (i:Nat):
  aC.path (aC.ret (R.normal ((fQ x y out c i).T.set 5 (some (bE out))) ((fQ x y out c i).H.drop 64) []):aC R) (dl 1) (dP prog 41 .normal [] (Fo out)):=
 wy [] 0
def QQ (out:List Int) (h1:out.length<=1000000):
  bH lr ((fl om []).drop 5) (Fo out) 1 f146 false (bE (dL out)):=
 wy [ah h1] 1
def ls (x y:List Int):Bool:=gL x&&(gL y&&(decide (x.length<=400000)&&decide (y.length<=400000)))
def vW (x y:List Int):List Int:=cM 18446744073709551616 (aj x+aj y)
def o8 (x y:List Int):List Int:=cM 18446744073709551616 (aj x-aj y)
noncomputable def RJ:bp:={f:=144,ps:=[.list false aD, .list false aD],rs:=[.list false aD],fresh:=false,pre:=fun d=>ls d.1 d.2.1,fn:=fun d=>(vW d.1 d.2.1,())}
noncomputable def RL:bp:={f:=146,ps:=[.list false aD, .list false aD],rs:=[.list false aD],fresh:=false,pre:=fun d=>ls d.1 d.2.1&&decide (aj d.2.1<=aj d.1),fn:=fun d=>(o8 d.1 d.2.1,())}
def Fp:bD prog (bG lr):=tV tn
def cp {l:List Int}:gL l=true↔aT 18446744073709551616 l:=by
 unfold gL aT;simp only [List.all_eq_true,ae,bB]
def Cy:(1:Int)<18446744073709551616:=by decide
def Cz {a b c:Int} (ha:0<=a/\a<18446744073709551616) (hb:0<=b/\b<18446744073709551616) (hc:c=0\/c=1):
  cZ a b c+18446744073709551616*dQ a b c=a+b+c/\(0<=cZ a b c/\cZ a b c<18446744073709551616)/\(dQ a b c=0\/dQ a b c=1):=by
 unfold cZ dQ;rw [show(2:Nat)^64=18446744073709551616 from rfl];rcases hc with rfl |rfl<;>omega
def KC {a b c:Int} (ha:0<=a/\a<18446744073709551616) (hb:0<=b/\b<18446744073709551616) (hc:c=0\/c=1):
  di a b c-18446744073709551616*eo a b c=a-b-c/\(0<=di a b c/\di a b c<18446744073709551616)/\(eo a b c=0\/eo a b c=1):=by
 unfold di eo;rw [show(2:Nat)^64=18446744073709551616 from rfl];rcases hc with rfl |rfl<;>split<;>omega
def gz (n:Nat):(cG n).length=n:=List.length_replicate
def Ad (n:Nat):aT 18446744073709551616 (cG n):=aT.rep (by decide) n
def x8 (n:Nat):(List.replicate n (List.map aa.raw (Array.toList #[Value.int IntKind.u64 (0:Int)]))).flatten=(cG n).flatMap (fun x=>[aa.raw (Value.int IntKind.u64 x)]):=by
 unfold cG;induction n with
 |zero=>rfl
 |succ n ih=>rw [List.replicate_succ,List.replicate_succ,List.flatten_cons,List.flatMap_cons,ih];rfl
def lw {l:List Int} (h:aT 18446744073709551616 l):dL l=cM 18446744073709551616 (aj l):=by
 refine qE Cy (RC h _ (aG _)) (Fg l _ (aG _)) ?_;unfold dL aj;rw [Kz l _ (aG _),dI]
def RM {l:List Int} {i:Nat} (h:¬i<l.length):l.getD i 0=0:=by
 rw [ao,List.getElem?_eq_none (by omega)];rfl
def PP:(fl mM []).drop 8≠[]:=fun h=>by
 have:((fl mM []).drop 8).isEmpty=false:=by kernel_rfl
 rw [h]at this;cases this
def PQ:(fl om []).drop 5≠[]:=fun h=>by
 have:((fl om []).drop 5).isEmpty=false:=by kernel_rfl
 rw [h]at this;cases this
def RN {x y:List Int} (hx:aT 18446744073709551616 x) (hy:aT 18446744073709551616 y) (hxy:y.length<=x.length) (hl:x.length<=400000) (w0:World) (F:Env):
  aP prog w0 F 54 ((fl mM []).drop 6) (fH x y (cG (x.length+1)) 0 0).T (fH x y (cG (x.length+1)) 0 0).H (fy prog false f144 (bE (cM 18446744073709551616 (aj x+aj y)))):=by
 have hS:=Fp;refine aP.loop (ι:={s:List Int×Int×Nat//s.2.2<=x.length/\s.1.length=x.length+1/\aT 18446744073709551616 s.1/\(s.2.1=0\/s.2.1=1)/\aj (s.1.take s.2.2)+18446744073709551616^s.2.2*s.2.1=aj (x.take s.2.2)+aj (y.take s.2.2)}) (id:=0) (b:=cat mM Ab) (rest:=(fl mM []).drop 7) (by kernel_rfl) (fun s=>fH x y s.1.1 s.1.2.1 s.1.2.2) (fun s=>x.length-s.1.2.2)
  ⟨(cG (x.length+1),0,0),Nat.zero_le _,gz _,Ad _, .inl rfl,by simp [aj,vl]⟩ (fun _=>rfl) ?_
 rintro⟨⟨out,c,i⟩,hi,ho,iR,hc,hinv⟩;have hi:i<=x.length:=hi;have ho:out.length=x.length+1:=ho;have iR:aT 18446744073709551616 out:=iR;have hc:c=0\/c=1:=hc;have hinv:aj (out.take i)+18446744073709551616^i*c=aj (x.take i)+aj (y.take i):=hinv;by_cases hlt:i<x.length
 .have vX:=hx.get (by decide) i;have KD:=hy.get (by decide) i;obtain⟨g1,g2,g3⟩:=Cz vX KD hc;have hnext:aj ((out.set i (cZ (x.getD i 0) (y.getD i 0) c)).take (i+1))+18446744073709551616^(i+1)*dQ (x.getD i 0) (y.getD i 0) c=aj (x.take (i+1))+aj (y.take (i+1)):=by
   unfold aj at hinv ⊢;rw [x7 (by omega),kU x i,kU y i,Int.pow_succ];exact KB g1 hinv
  have oo:∃j:{s:List Int×Int×Nat//s.2.2<=x.length/\s.1.length=x.length+1/\aT 18446744073709551616 s.1/\(s.2.1=0\/s.2.1=1)/\aj (s.1.take s.2.2)+18446744073709551616^s.2.2*s.2.1=aj (x.take s.2.2)+aj (y.take s.2.2)},x.length-j.1.2.2<x.length-i/\(fH x y (out.set i (cZ (x.getD i 0) (y.getD i 0) c)) (dQ (x.getD i 0) (y.getD i 0) c) (i+1)).T=(fH x y j.1.1 j.1.2.1 j.1.2.2).T/\(fH x y (out.set i (cZ (x.getD i 0) (y.getD i 0) c)) (dQ (x.getD i 0) (y.getD i 0) c) (i+1)).H=(fH x y j.1.1 j.1.2.1 j.1.2.2).H:=
   ⟨⟨(out.set i (cZ (x.getD i 0) (y.getD i 0) c),dQ (x.getD i 0) (y.getD i 0) c,i+1),hlt,by rw [b6];exact ho,iR.set g2,g3,hnext⟩,by simp;omega,rfl,rfl⟩
  by_cases mz:i<y.length
  .rcases hc with rfl |rfl
   .exact bl (s:=fH x y out 0 i) (s':=fH x y (out.set i (cZ (x.getD i 0) (y.getD i 0) 0)) (dQ (x.getD i 0) (y.getD i 0) 0) (i+1)) hS (acq x y out i (by omega) (by omega) mz hlt (by omega) (by omega) (by rw [b6]) (by rw [b6]) rfl rfl) oo
   .exact bl (s:=fH x y out 1 i) (s':=fH x y (out.set i (cZ (x.getD i 0) (y.getD i 0) 1)) (dQ (x.getD i 0) (y.getD i 0) 1) (i+1)) hS (acs x y out i (by omega) (by omega) mz hlt (by omega) (by omega) (by rw [b6]) (by rw [b6]) rfl rfl) oo
  .rw [RM mz]at oo;rcases hc with rfl |rfl
   .exact bl (s:=fH x y out 0 i) (s':=fH x y (out.set i (cZ (x.getD i 0) 0 0)) (dQ (x.getD i 0) 0 0) (i+1)) hS (acr x y out i (by omega) (by omega) hlt (by omega) (by omega) (by rw [b6]) (by rw [b6]) rfl rfl) oo
   .exact bl (s:=fH x y out 1 i) (s':=fH x y (out.set i (cZ (x.getD i 0) 0 1)) (dQ (x.getD i 0) 0 1) (i+1)) hS (acu x y out i (by omega) (by omega) hlt (by omega) (by omega) (by rw [b6]) (by rw [b6]) rfl rfl) oo
 .refine bl (s:=fH x y out c i) hS (acv x y out c i (by omega)) ?_;refine cw (cz ?_);obtain rfl:i=x.length:=by omega
  have hcd:0<=c/\c<18446744073709551616:=by rcases hc with rfl |rfl<;>decide
  refine dZ (s:=fH x y out c x.length) (s':=Fl (out.set x.length c)) hS 1 (acw x y out c x.length (by omega) (by rw [b6]) (by rw [b6])) ?_;have hval:aj (out.set x.length c)=aj x+aj y:=by
   rw [dI,eF hxy]at hinv;rw [<-hinv];have:=x7 (b:=18446744073709551616) (l:=out) (i:=x.length) (d:=c) (by omega);rw [eF (by rw [b6];omega)]at this;exact this
  have gJ:=iR.set (k:=x.length) hcd;rw [<-hval,<-lw gJ];have hlen:(out.set x.length c).length<=1000000:=by rw [b6];omega
  generalize out.set x.length c=o2 at*;refine aP.vT PP (i:=64) (s:=5) (e2:=167) (t:=aD) (xs:=o2) (cap:=bJ o2.length) (by kernel_rfl) (by kernel_rfl) ?_;refine aP.oa PP (σ:=[]) (s:=Fm o2) (acy o2) ?_;exact bP (s:=Fm o2) hS (acz o2 hlen)
def acG (x y:List Int) (h:ls x y=true):Holds prog false 144 [bE x,bE y] (bE (vW x y)):=by
 unfold ls at h;simp only [ae,bB]at h;obtain⟨hx,hy,lx,ly⟩:=h;have hx:=cp.1 hx;have hy:=cp.1 hy;have hS:=Fp;refine bL (c:=mM) func144 rfl rfl fun w0 F=> ?_
 by_cases hxy:x.length<y.length
 .have e1:((y.length:Int)+1).toNat=y.length+1:=by omega
  refine cC hS 6 (acp x y (by omega) (by omega) (by omega) (by rw [gz,e1]) (by rw [e1]) (by rw [gz]) (by rw [e1];exact x8 _) (by rw [gz])) ?_;have:=RN hy hx (by omega) ly w0 F;unfold vW;rw [Int.add_comm];exact this
 .have e1:((x.length:Int)+1).toNat=x.length+1:=by omega
  refine cC hS 6 (aco x y (by omega) (by omega) (by omega) (by rw [gz,e1]) (by rw [e1]) (by rw [gz]) (by rw [e1];exact x8 _) (by rw [gz])) ?_;exact RN hx hy (by omega) lx w0 F
def acH:RJ.Ok prog:=fun⟨x,y,_⟩ h=>acG x y h
def acI {x y:List Int} (hx:aT 18446744073709551616 x) (hy:aT 18446744073709551616 y) (hle:aj y<=aj x) (hl:x.length<=400000) (w0:World) (F:Env):
  aP prog w0 F 41 ((fl om []).drop 4) (fQ x y (cG x.length) 0 0).T (fQ x y (cG x.length) 0 0).H (fy prog false f146 (bE (cM 18446744073709551616 (aj x-aj y)))):=by
 have hS:=Fp;refine aP.loop (ι:={s:List Int×Int×Nat//s.2.2<=x.length/\s.1.length=x.length/\aT 18446744073709551616 s.1/\(s.2.1=0\/s.2.1=1)/\aj (s.1.take s.2.2)-18446744073709551616^s.2.2*s.2.1=aj (x.take s.2.2)-aj (y.take s.2.2)}) (id:=0) (b:=cat om Ac) (rest:=(fl om []).drop 5) (by kernel_rfl) (fun s=>fQ x y s.1.1 s.1.2.1 s.1.2.2) (fun s=>x.length-s.1.2.2)
  ⟨(cG x.length,0,0),Nat.zero_le _,gz _,Ad _, .inl rfl,by simp [aj,vl]⟩ (fun _=>rfl) ?_
 rintro⟨⟨out,c,i⟩,hi,ho,iR,hc,hinv⟩;have hi:i<=x.length:=hi;have ho:out.length=x.length:=ho;have iR:aT 18446744073709551616 out:=iR;have hc:c=0\/c=1:=hc;have hinv:aj (out.take i)-18446744073709551616^i*c=aj (x.take i)-aj (y.take i):=hinv;by_cases hlt:i<x.length
 .have vX:=hx.get (by decide) i;have KD:=hy.get (by decide) i;obtain⟨g1,g2,g3⟩:=KC vX KD hc;have hnext:aj ((out.set i (di (x.getD i 0) (y.getD i 0) c)).take (i+1))-18446744073709551616^(i+1)*eo (x.getD i 0) (y.getD i 0) c=aj (x.take (i+1))-aj (y.take (i+1)):=by
   unfold aj at hinv ⊢;rw [x7 (by omega),kU x i,kU y i,Int.pow_succ];exact RI g1 hinv
  have oo:∃j:{s:List Int×Int×Nat//s.2.2<=x.length/\s.1.length=x.length/\aT 18446744073709551616 s.1/\(s.2.1=0\/s.2.1=1)/\aj (s.1.take s.2.2)-18446744073709551616^s.2.2*s.2.1=aj (x.take s.2.2)-aj (y.take s.2.2)},x.length-j.1.2.2<x.length-i/\(fQ x y (out.set i (di (x.getD i 0) (y.getD i 0) c)) (eo (x.getD i 0) (y.getD i 0) c) (i+1)).T=(fQ x y j.1.1 j.1.2.1 j.1.2.2).T/\(fQ x y (out.set i (di (x.getD i 0) (y.getD i 0) c)) (eo (x.getD i 0) (y.getD i 0) c) (i+1)).H=(fQ x y j.1.1 j.1.2.1 j.1.2.2).H:=
   ⟨⟨(out.set i (di (x.getD i 0) (y.getD i 0) c),eo (x.getD i 0) (y.getD i 0) c,i+1),hlt,by rw [b6];exact ho,iR.set g2,g3,hnext⟩,by simp;omega,rfl,rfl⟩
  by_cases mz:i<y.length
  .rcases hc with rfl |rfl
   .exact bl (s:=fQ x y out 0 i) (s':=fQ x y (out.set i (di (x.getD i 0) (y.getD i 0) 0)) (eo (x.getD i 0) (y.getD i 0) 0) (i+1)) hS (acB x y out i (by omega) (by omega) mz hlt (by omega) (by omega) (by rw [b6]) (by rw [b6]) rfl rfl) oo
   .exact bl (s:=fQ x y out 1 i) (s':=fQ x y (out.set i (di (x.getD i 0) (y.getD i 0) 1)) (eo (x.getD i 0) (y.getD i 0) 1) (i+1)) hS (acD x y out i (by omega) (by omega) mz hlt (by omega) (by omega) (by rw [b6]) (by rw [b6]) rfl rfl) oo
  .rw [RM mz]at oo;rcases hc with rfl |rfl
   .exact bl (s:=fQ x y out 0 i) (s':=fQ x y (out.set i (di (x.getD i 0) 0 0)) (eo (x.getD i 0) 0 0) (i+1)) hS (acC x y out i (by omega) (by omega) hlt (by omega) (by omega) (by rw [b6]) (by rw [b6]) rfl rfl) oo
   .exact bl (s:=fQ x y out 1 i) (s':=fQ x y (out.set i (di (x.getD i 0) 0 1)) (eo (x.getD i 0) 0 1) (i+1)) hS (acE x y out i (by omega) (by omega) hlt (by omega) (by omega) (by rw [b6]) (by rw [b6]) rfl rfl) oo
 .refine bl (s:=fQ x y out c i) hS (acF x y out c i (by omega)) ?_;refine cw (cz ?_);obtain rfl:i=x.length:=by omega
  have hxl:aj x<18446744073709551616^x.length:=fP (by decide) hx;have mz:aj (y.take x.length)=aj y:=tp (by decide) hy (show aj y<_ by omega);have hval:aj out=aj x-aj y:=by
   have Fq:=fP (by decide) iR;rw [ho]at Fq;have Fq:aj out<18446744073709551616^x.length:=Fq;rw [dI,mz,eF (by omega)]at hinv;rcases hc with rfl |rfl
   .omega
   .omega
  rw [<-hval,<-lw iR];refine aP.vT PQ (i:=64) (s:=5) (e2:=167) (t:=aD) (xs:=out) (cap:=bJ out.length) (by kernel_rfl) (by kernel_rfl) ?_;refine aP.oa PQ (σ:=[]) (s:=Fo out) (QP x y out c x.length) ?_;exact bP (s:=Fo out) hS (QQ out (by omega))
def acJ (x y:List Int) (h:(ls x y&&decide (aj y<=aj x))=true):Holds prog false 146 [bE x,bE y] (bE (o8 x y)):=by
 unfold ls at h;simp only [ae,bB]at h;obtain⟨⟨hx,hy,lx,ly⟩,hle⟩:=h;have hx:=cp.1 hx;have hy:=cp.1 hy;have hS:=Fp;refine bL (c:=om) func146 rfl rfl fun w0 F=> ?_
 have e1:(x.length:Int).toNat=x.length:=by omega
 refine cC hS 4 (acA x y (by omega) (by rw [gz]) (by rw [gz]) (x8 _)) ?_;exact acI hx hy hle lx w0 F
def acK:RL.Ok prog:=fun⟨x,y,_⟩ h=>acJ x y h
noncomputable def qF:Code:=(Tryz.f145.body).getD .skip
abbrev CA:List Nat:=[1,1,0,1,0,0]
def mN (a b:List Int) (k:Nat):bC:={n:=41,sl:=[(0,bE a),(1,bE b),(5,iv ((k:Int)-1))],bF:=[],next:=64}
def Fs (a b:List Int) (k:Nat):bC:={n:=41,sl:=[(0,bE a),(1,bE b),(5,iv ((k:Int)-1-1))],bF:=[],next:=64}
def acL (a b:List Int) (h1:¬(a.length:Int)=(b.length:Int)) (h2:(a.length:Int)<(b.length:Int)):
  bu (aR []) (fl qF []) 3 41 [bE a,bE b] 7 Tryz.f145 true (iv (-1)):=
 wy [af (e7.mpr h1),ah h2] 129
def acM (a b:List Int) (h1:¬(a.length:Int)=(b.length:Int)) (h2:¬(a.length:Int)<(b.length:Int)):
  bu (aR []) (fl qF []) 3 41 [bE a,bE b] 5 Tryz.f145 true (iv 1):=
 wy [af (e7.mpr h1),aA h2] 129
def acN (a b:List Int) (h1:(a.length:Int)=(b.length:Int)) (h2:i6 ((a.length:Int)-1)):
  cO (aR []) (fl qF []) 4 41 [bE a,bE b] 2 .normal [] (mN a b a.length):=
 wy [af (gu.mpr h1),yi h2] 129
def acO (a b:List Int) (k:Nat) (h1:(k:Int)-1>=0) (h2:0<=(k:Int)-1) (h3:((k:Int)-1).toNat<a.length) (h4:((k:Int)-1).toNat<b.length) (h5:¬a.getD ((k:Int)-1).toNat 0=b.getD ((k:Int)-1).toNat 0) (h6:a.getD ((k:Int)-1).toNat 0<b.getD ((k:Int)-1).toNat 0):
  bH (aR []) (fl qF CA) (mN a b k) 15 Tryz.f145 true (iv (-1)):=
 wy [ah h1,ah h2,ah h3,af (aV (v:=aa.raw (Value.int IntKind.u64 (a.getD ((k:Int)-(1:Int)).toNat (0:Int))))),ah h4,af (aV (v:=aa.raw (Value.int IntKind.u64 (b.getD ((k:Int)-(1:Int)).toNat (0:Int))))),af (e7.mpr h5),ah h6] 156579657712784783981949057
def acP (a b:List Int) (k:Nat) (h1:(k:Int)-1>=0) (h2:0<=(k:Int)-1) (h3:((k:Int)-1).toNat<a.length) (h4:((k:Int)-1).toNat<b.length) (h5:¬a.getD ((k:Int)-1).toNat 0=b.getD ((k:Int)-1).toNat 0) (h6:¬a.getD ((k:Int)-1).toNat 0<b.getD ((k:Int)-1).toNat 0):
  bH (aR []) (fl qF CA) (mN a b k) 11 Tryz.f145 true (iv 1):=
 wy [ah h1,ah h2,ah h3,af (aV (v:=aa.raw (Value.int IntKind.u64 (a.getD ((k:Int)-(1:Int)).toNat (0:Int))))),ah h4,af (aV (v:=aa.raw (Value.int IntKind.u64 (b.getD ((k:Int)-(1:Int)).toNat (0:Int))))),af (e7.mpr h5),aA h6] 156579657712784783981949057
def acQ (a b:List Int) (k:Nat) (h1:(k:Int)-1>=0) (h2:0<=(k:Int)-1) (h3:((k:Int)-1).toNat<a.length) (h4:((k:Int)-1).toNat<b.length) (h5:a.getD ((k:Int)-1).toNat 0=b.getD ((k:Int)-1).toNat 0) (h6:i6 ((k:Int)-1-1)):
  bg (aR []) (fl qF CA) (mN a b k) 5 .normal [] (Fs a b k):=
 wy [ah h1,ah h2,ah h3,af (aV (v:=aa.raw (Value.int IntKind.u64 (a.getD ((k:Int)-(1:Int)).toNat (0:Int))))),ah h4,af (aV (v:=aa.raw (Value.int IntKind.u64 (b.getD ((k:Int)-(1:Int)).toNat (0:Int))))),af (gu.mpr h5),yi h6] 2283003859447937
def acR (a b:List Int) (k:Nat) (h1:¬(k:Int)-1>=0):
  bg (aR []) (fl qF CA) (mN a b k) 2 (.exit 0) [] (mN a b k):=
 wy [aA h1] 1
def acS (a b:List Int) (k:Nat):
  bH (aR []) ((fl qF []).drop 5) (mN a b k) 1 Tryz.f145 true (iv 0):=
 wy [] 0
def kV (x y:Int):Int:=if x<y then-1 else if y<x then 1 else 0
def mO (a b:List Int):Bool:=(gL a&&jC a)&&((gL b&&jC b)&&decide (a.length<=1000000))
noncomputable def KE:bp:={f:=145,ps:=[.list false aD, .list false aD],rs:=[.int .i64],fresh:=true,pre:=fun d=>mO d.1 d.2.1,fn:=fun d=>(kV (aj d.1) (aj d.2.1),())}
def qG {l:List Int}:jC l=true↔eX l:=by
 unfold jC;constructor
 .intro h;have h:=ac h;have:=Fg l l.length (aG _);obtain⟨m,h1,h2,_⟩:=ll l l.length (aG _);rw [h2,ei]at h;have hm:m=l.length:=by omega
  rw [h2,hm,dI]at this;exact this
 .intro h;rw [RD h];exact Nat.beq_refl _
def RO {x y:Int} (h:x<y):kV x y= -1:=by unfold kV;rw [if_pos h]
def RP {x y:Int} (h:y<x):kV x y=1:=by unfold kV;rw [if_neg (by omega),if_pos h]
def acT {x y:Int} (h:x=y):kV x y=0:=by unfold kV;rw [if_neg (by omega),if_neg (by omega)]
def acU (a b:List Int) (h:mO a b=true):Holds prog true 145 [bE a,bE b] (iv (kV (aj a) (aj b))):=by
 unfold mO at h;simp only [ae,bB]at h;obtain⟨⟨ha,ta⟩,⟨hb,tb⟩,hl⟩:=h;have ha:=cp.1 ha;have hb:=cp.1 hb;have ta:=qG.1 ta;have tb:=qG.1 tb;refine bL (c:=qF) func145 rfl rfl fun w0 F=> ?_
 by_cases hab:a.length=b.length
 .refine cC bc 4 (acN a b (by omega) (by omega)) ?_;refine aP.loop (ι:={k:Nat//k<=a.length/\∀j,k<=j->j<a.length->a.getD j 0=b.getD j 0}) (id:=0) (b:=cat qF CA) (rest:=(fl qF []).drop 5) (by kernel_rfl) (fun k=>mN a b k.1) (fun k=>k.1) ⟨a.length,aG _,fun j h1 h2=>by omega⟩ (fun _=>rfl) ?_;rintro⟨k,hk,heq⟩;cases k with
  |zero=>
   refine bl (s:=mN a b 0) bc (acR a b 0 (by omega)) ?_;refine cw (cz ?_);have e:a=b:=by
    refine List.ext_getElem hab fun j h1 h2=> ?_
    have:=heq j (Nat.zero_le _) h1;rwa [hJ h1,hJ h2]at this
   rw [acT (show aj a=aj b by rw [e])];exact bP (s:=mN a b 0) bc (acS a b 0)
  |succ k=>
   have e0:(((k+1:Nat):Int)-1).toNat=k:=by omega
   have e1:Fs a b (k+1)=mN a b k:=by
    unfold Fs mN;rw [show(((k+1:Nat):Int)-1-1)=(k:Int)-1 by omega]
   have hka:k<a.length:=by omega
   by_cases h1:a.getD k 0=b.getD k 0
   .refine bl (s:=mN a b (k+1)) (s':=Fs a b (k+1)) bc (acQ a b (k+1) (by omega) (by omega) (by omega) (by omega) (by rw [e0];exact h1) (by omega)) ?_;rw [e1];exact⟨⟨k,by omega,fun j g1 g2=>by
     by_cases hj:j=k
     .rw [hj];exact h1
     .exact heq j (by omega) g2⟩,by simp,rfl,rfl⟩
   .by_cases h2:a.getD k 0<b.getD k 0
    .rw [RO (show aj a<aj b from Fh Cy ha hb hab hka h2 fun j g1 g2=>heq j (by omega) g2)];exact bP (s:=mN a b (k+1)) bc (acO a b (k+1) (by omega) (by omega) (by omega) (by omega) (by rw [e0];exact h1) (by rw [e0];exact h2))
    .rw [RP (show aj b<aj a from Fh Cy hb ha hab.symm (by omega) (show b.getD k 0<a.getD k 0 by omega) fun j g1 g2=>(heq j (by omega) (by omega)).symm)];exact bP (s:=mN a b (k+1)) bc (acP a b (k+1) (by omega) (by omega) (by omega) (by omega) (by rw [e0];exact h1) (by rw [e0];exact h2))
 .by_cases hlt:a.length<b.length
  .rw [RO (show aj a<aj b from vU Cy ha hb tb hlt)];exact bx bc 3 (acL a b (by omega) (by omega))
  .rw [RP (show aj b<aj a from vU Cy hb ha ta (by omega))];exact bx bc 3 (acM a b (by omega) (by omega))
def Ax:KE.Ok prog:=fun⟨a,b,_⟩ h=>acU a b h
end
end Go.Proofs.YtibikmmdbdlafaaGreatDoor
namespace Go.Proofs
open Go.Shelf
def Tryz.kR{α:Type}{a:Option α}{x y:α}(h:a=some x)(g:x=y:=by kernel_rfl):a=some y:=h.trans (congrArg some g)
def Tryz.acV:Go.Shelf.Ren:=⟨fun |134=>224|129=>201|n=>n,fun |53=>167|3=>3|4=>4|46=>181|5=>5|9=>9|n=>n,fun |n=>n⟩
def Tryz.acW:Go.Proofs.Lays.n134 prog Tryz.acV:=⟨by kernel_rfl,kR func201,kR func224,underlying3,isAgg3,sizeOf3,zeroValue3,underlying4,isAgg4,sizeOf4,zeroValue4,underlying5,isAgg5,sizeOf5,zeroValue5,underlying9,isAgg9,sizeOf9,zeroValue9,underlying181,isAgg181,sizeOf181,zeroValue181,underlying167,isAgg167,sizeOf167,zeroValue167⟩
def Tryz.bits_LeadingZeros64 (x:Int) (w:World) (h0:0<=x) (h1:x<=18446744073709551615):
  Calls prog 224 #[.int .u64 x] w fun e w'=>e= .returned (.int .i64 (64-(Lib.bitLen x.toNat:Int)))/\w'=w:=Any.bits_LeadingZeros64 Tryz.acW x w h0 h1
def Tryz.aso:Go.Shelf.Ren:=⟨fun |210=>168|206=>218|n=>n,fun |9=>9|4=>4|3=>3|n=>n,fun |n=>n⟩
def Tryz.acX:Go.Shelf.Ren:=⟨fun |172=>174|244=>220|245=>221|247=>244|279=>245|280=>246|281=>247|282=>248|287=>261|316=>262|171=>177|205=>263|321=>269|322=>270|243=>222|246=>249|283=>250|284=>251|285=>252|286=>253|129=>201|317=>264|318=>265|319=>266|320=>267|337=>271|338=>272|n=>n,fun |9=>9|3=>3|75=>195|76=>196|4=>4|5=>5|167=>253|37=>205|0=>0|85=>254|2=>2|168=>256|53=>167|175=>273|46=>181|210=>277|127=>242|145=>286|143=>284|21=>21|171=>260|173=>262|212=>280|51=>223|20=>20|213=>281|232=>287|233=>288|80=>160|n=>n,fun |15=>3|16=>4|17=>5|18=>6|19=>7|n=>n⟩
def Tryz.acY:Go.Proofs.Lays.n172 prog Tryz.acX:=⟨by kernel_rfl,kR func201,kR func177,kR func174,kR func263,kR func222,kR func220,kR func221,kR func249,kR func244,kR func245,kR func246,kR func247,kR func248,kR func250,kR func251,kR func252,kR func253,kR func261,kR func262,kR func264,kR func265,kR func266,kR func267,kR func269,kR func270,kR func271,kR func272,underlying0,isAgg0,sizeOf0,zeroValue0,underlying2,isAgg2,sizeOf2,zeroValue2,underlying3,isAgg3,sizeOf3,zeroValue3,underlying4,isAgg4,sizeOf4,zeroValue4,underlying5,isAgg5,sizeOf5,zeroValue5,underlying9,isAgg9,sizeOf9,zeroValue9,underlying20,isAgg20,sizeOf20,zeroValue20,underlying21,isAgg21,sizeOf21,zeroValue21,underlying205,isAgg205,sizeOf205,zeroValue205,underlying181,isAgg181,sizeOf181,zeroValue181,underlying223,isAgg223,sizeOf223,zeroValue223,underlying167,isAgg167,sizeOf167,zeroValue167,underlying195,isAgg195,sizeOf195,zeroValue195,underlying196,isAgg196,sizeOf196,zeroValue196,underlying254,isAgg254,sizeOf254,zeroValue254,underlying242,isAgg242,sizeOf242,zeroValue242,underlying284,isAgg284,sizeOf284,zeroValue284,underlying286,isAgg286,sizeOf286,zeroValue286,underlying253,isAgg253,sizeOf253,zeroValue253,underlying256,isAgg256,sizeOf256,zeroValue256,underlying260,isAgg260,sizeOf260,zeroValue260,underlying262,isAgg262,sizeOf262,zeroValue262,underlying273,isAgg273,sizeOf273,zeroValue273,underlying277,isAgg277,sizeOf277,zeroValue277,underlying280,isAgg280,sizeOf280,zeroValue280,underlying281,isAgg281,sizeOf281,underlying287,isAgg287,sizeOf287,zeroValue287,underlying288,isAgg288,sizeOf288,zeroValue288,by kernel_rfl,by kernel_rfl,by kernel_rfl,by kernel_rfl,by kernel_rfl⟩
open Go.RowKit in
theorem Tryz.strconv_Atoi (s:ByteArray) (n:Int) (hl:s.size<=18) (h:Lib.atoi s.data.toList=some n) (w:World):
  Calls prog 174 #[.string s] w fun e w'=>e= .returned (.tuple #[.int .i64 n, .nilIface])/\∃t,w'=Lib.bytesWorld w 5 t:=Any.strconv_Atoi Tryz.acY s n hl h w
def Tryz.acZ:Go.Shelf.Ren:=⟨fun |129=>201|n=>n,fun |53=>167|3=>3|4=>4|46=>181|5=>5|9=>9|n=>n,fun |n=>n⟩
def Tryz.ac0:Go.Proofs.Lays.n129 prog Tryz.acZ:=⟨by kernel_rfl,kR func201,underlying3,isAgg3,sizeOf3,zeroValue3,underlying4,isAgg4,sizeOf4,zeroValue4,underlying5,isAgg5,sizeOf5,zeroValue5,underlying9,isAgg9,sizeOf9,zeroValue9,underlying181,isAgg181,sizeOf181,zeroValue181,underlying167,isAgg167,sizeOf167,zeroValue167⟩
def Tryz.bits_Len64 (x:Int) (w:World) (h0:0<=x) (h1:x<=18446744073709551615):
  Calls prog 201 #[.int .u64 x] w fun e w'=>e= .returned (.int .i64 (Lib.bitLen x.toNat))/\w'=w:=Any.bits_Len64 Tryz.ac0 x w h0 h1
def Tryz.ac1:Go.Shelf.Ren:=⟨fun |283=>250|n=>n,fun |3=>3|9=>9|4=>4|n=>n,fun |n=>n⟩
def Tryz.ac2:Go.Proofs.Lays.n283 prog Tryz.ac1:=⟨by kernel_rfl,kR func250,underlying3,isAgg3,sizeOf3,zeroValue3,underlying4,isAgg4,sizeOf4,zeroValue4,underlying9,isAgg9,sizeOf9,zeroValue9⟩
open Go.Lib in
theorem Tryz.internal_strconv_small (i:Nat) (h:i<100) (w:World):
  Calls prog 250 #[.int .i64 i] w fun e w'=>e= .returned (.string ⟨(Lib.decDigits i).toArray⟩)/\w'=w:=Any.internal_strconv_small Tryz.ac2 i h w
def Tryz.ac3:Go.Shelf.Ren:=⟨fun |284=>251|129=>201|317=>264|318=>265|n=>n,fun |53=>167|3=>3|212=>280|0=>0|4=>4|46=>181|5=>5|9=>9|n=>n,fun |17=>5|n=>n⟩
def Tryz.ac4:Go.Proofs.LaysM.n284 prog Tryz.ac3:={
 mixed:=by kernel_rfl
 f129:=func201.trans (congrArg some (by kernel_rfl))
 f284:=func251.trans (congrArg some (by kernel_rfl))
 f317:=func264.trans (congrArg some (by kernel_rfl))
 f318:=func265.trans (congrArg some (by kernel_rfl))
 t0:=Tryz.underlying0
 a0:=Tryz.isAgg0
 z0:=Tryz.sizeOf0
 v0:=Tryz.zeroValue0
 t3:=Tryz.underlying3
 a3:=Tryz.isAgg3
 z3:=Tryz.sizeOf3
 v3:=Tryz.zeroValue3
 t4:=Tryz.underlying4
 a4:=Tryz.isAgg4
 z4:=Tryz.sizeOf4
 v4:=Tryz.zeroValue4
 t5:=Tryz.underlying5
 a5:=Tryz.isAgg5
 z5:=Tryz.sizeOf5
 v5:=Tryz.zeroValue5
 t9:=Tryz.underlying9
 a9:=Tryz.isAgg9
 z9:=Tryz.sizeOf9
 v9:=Tryz.zeroValue9
 t46:=Tryz.underlying181
 a46:=Tryz.isAgg181
 z46:=Tryz.sizeOf181
 v46:=Tryz.zeroValue181
 t53:=Tryz.underlying167
 a53:=Tryz.isAgg167
 z53:=Tryz.sizeOf167
 v53:=Tryz.zeroValue167
 t212:=Tryz.underlying280
 a212:=Tryz.isAgg280
 z212:=Tryz.sizeOf280
 v212:=Tryz.zeroValue280
 g17:=by kernel_rfl
 i0:=by kernel_rfl
 i3:=by kernel_rfl
 i4:=by kernel_rfl
 i5:=by kernel_rfl
 i9:=by kernel_rfl
 i46:=by kernel_rfl
 i53:=by kernel_rfl
 i212:=by kernel_rfl
 m17:=by kernel_rfl}
open Go.Lib in
theorem Tryz.internal_strconv_numDigits (u:Nat) (h1:1<=u) (h2:u<18446744073709551616) (w:World) (htab:Lib.TabIs prog w "internal/strconv.uint64pow10" .u64 Lib.pow10Tab):
  Calls prog 251 #[.int .u64 u] w fun e w'=>e= .returned (.int .i64 (Lib.nDigits u))/\w'=w:=Any.internal_strconv_numDigits Tryz.ac4 u h1 h2 w htab
def Tryz.ac5:Go.Shelf.Ren:=⟨fun |285=>252|n=>n,fun |37=>205|53=>167|3=>3|4=>4|51=>223|9=>9|5=>5|0=>0|n=>n,fun |n=>n⟩
def Tryz.ac6:Go.Proofs.Lays.n285 prog Tryz.ac5:=⟨by kernel_rfl,kR func252,underlying0,isAgg0,sizeOf0,zeroValue0,underlying3,isAgg3,sizeOf3,zeroValue3,underlying4,isAgg4,sizeOf4,zeroValue4,underlying5,isAgg5,sizeOf5,zeroValue5,underlying9,isAgg9,sizeOf9,zeroValue9,underlying205,isAgg205,sizeOf205,zeroValue205,underlying223,isAgg223,sizeOf223,zeroValue223,underlying167,isAgg167,sizeOf167,zeroValue167⟩
open Go.RowKit Go.Sort Go.Lib in
theorem Tryz.internal_strconv_formatBase10 (blk off cap:Nat) (u:Nat) (d:Array UInt8) (w:World) (hH:Holds (fun(b:UInt8)=>Value.int .u8 (b.toNat:Int)) w blk off d) (hu:u<10^d.size) (hu64:u<18446744073709551616) (hsz:d.size<4611686018427387904):
  Calls prog 252 #[.slice (some ⟨blk,off,none⟩) d.size cap, .int .u64 u] w fun e w'=>
   e= .returned (.tuple #[])/\∃(n v':Nat) (dk:Array UInt8),w'=(putRow (fun(b:UInt8)=>Value.int .u8 (b.toNat:Int)) w blk off dk).drewN n/\FmtInv d.size u 0 v' dk:=Any.internal_strconv_formatBase10 Tryz.ac6 blk off cap u d w hH hu hu64 hsz
def Tryz.asp:Go.Shelf.Ren:=⟨fun |246=>249|283=>250|284=>251|285=>252|286=>253|129=>201|317=>264|318=>265|319=>266|320=>267|337=>271|338=>272|n=>n,fun |2=>2|3=>3|9=>9|4=>4|171=>260|0=>0|53=>167|37=>205|5=>5|173=>262|212=>280|51=>223|20=>20|213=>281|46=>181|232=>287|233=>288|n=>n,fun |17=>5|18=>6|19=>7|n=>n⟩
def Tryz.asq:Go.Shelf.Ren:=⟨fun |243=>222|246=>249|283=>250|284=>251|285=>252|286=>253|129=>201|317=>264|318=>265|319=>266|320=>267|337=>271|338=>272|n=>n,fun |3=>3|9=>9|2=>2|4=>4|171=>260|0=>0|53=>167|37=>205|5=>5|173=>262|212=>280|51=>223|20=>20|213=>281|46=>181|232=>287|233=>288|n=>n,fun |17=>5|18=>6|19=>7|n=>n⟩
def Tryz.ac7:Go.Shelf.Ren:=⟨fun |171=>177|243=>222|246=>249|283=>250|284=>251|285=>252|286=>253|129=>201|317=>264|318=>265|319=>266|320=>267|337=>271|338=>272|n=>n,fun |3=>3|9=>9|2=>2|4=>4|171=>260|0=>0|53=>167|37=>205|5=>5|173=>262|212=>280|51=>223|20=>20|213=>281|46=>181|232=>287|233=>288|n=>n,fun |17=>5|18=>6|19=>7|n=>n⟩
def Tryz.ac8:Go.Proofs.LaysM.n171 prog Tryz.ac7:={
 mixed:=by kernel_rfl
 f129:=func201.trans (congrArg some (by kernel_rfl))
 f171:=func177.trans (congrArg some (by kernel_rfl))
 f243:=func222.trans (congrArg some (by kernel_rfl))
 f246:=func249.trans (congrArg some (by kernel_rfl))
 f283:=func250.trans (congrArg some (by kernel_rfl))
 f284:=func251.trans (congrArg some (by kernel_rfl))
 f285:=func252.trans (congrArg some (by kernel_rfl))
 f286:=func253.trans (congrArg some (by kernel_rfl))
 f317:=func264.trans (congrArg some (by kernel_rfl))
 f318:=func265.trans (congrArg some (by kernel_rfl))
 f319:=func266.trans (congrArg some (by kernel_rfl))
 f320:=func267.trans (congrArg some (by kernel_rfl))
 f337:=func271.trans (congrArg some (by kernel_rfl))
 f338:=func272.trans (congrArg some (by kernel_rfl))
 t0:=Tryz.underlying0
 a0:=Tryz.isAgg0
 z0:=Tryz.sizeOf0
 v0:=Tryz.zeroValue0
 t2:=Tryz.underlying2
 a2:=Tryz.isAgg2
 z2:=Tryz.sizeOf2
 v2:=Tryz.zeroValue2
 t3:=Tryz.underlying3
 a3:=Tryz.isAgg3
 z3:=Tryz.sizeOf3
 v3:=Tryz.zeroValue3
 t4:=Tryz.underlying4
 a4:=Tryz.isAgg4
 z4:=Tryz.sizeOf4
 v4:=Tryz.zeroValue4
 t5:=Tryz.underlying5
 a5:=Tryz.isAgg5
 z5:=Tryz.sizeOf5
 v5:=Tryz.zeroValue5
 t9:=Tryz.underlying9
 a9:=Tryz.isAgg9
 z9:=Tryz.sizeOf9
 v9:=Tryz.zeroValue9
 t20:=Tryz.underlying20
 a20:=Tryz.isAgg20
 z20:=Tryz.sizeOf20
 v20:=Tryz.zeroValue20
 t37:=Tryz.underlying205
 a37:=Tryz.isAgg205
 z37:=Tryz.sizeOf205
 v37:=Tryz.zeroValue205
 t46:=Tryz.underlying181
 a46:=Tryz.isAgg181
 z46:=Tryz.sizeOf181
 v46:=Tryz.zeroValue181
 t51:=Tryz.underlying223
 a51:=Tryz.isAgg223
 z51:=Tryz.sizeOf223
 v51:=Tryz.zeroValue223
 t53:=Tryz.underlying167
 a53:=Tryz.isAgg167
 z53:=Tryz.sizeOf167
 v53:=Tryz.zeroValue167
 t171:=Tryz.underlying260
 a171:=Tryz.isAgg260
 z171:=Tryz.sizeOf260
 v171:=Tryz.zeroValue260
 t173:=Tryz.underlying262
 a173:=Tryz.isAgg262
 z173:=Tryz.sizeOf262
 v173:=Tryz.zeroValue262
 t212:=Tryz.underlying280
 a212:=Tryz.isAgg280
 z212:=Tryz.sizeOf280
 v212:=Tryz.zeroValue280
 t213:=Tryz.underlying281
 a213:=Tryz.isAgg281
 z213:=Tryz.sizeOf281
 t232:=Tryz.underlying287
 a232:=Tryz.isAgg287
 z232:=Tryz.sizeOf287
 v232:=Tryz.zeroValue287
 t233:=Tryz.underlying288
 a233:=Tryz.isAgg288
 z233:=Tryz.sizeOf288
 v233:=Tryz.zeroValue288
 g17:=by kernel_rfl
 g18:=by kernel_rfl
 g19:=by kernel_rfl
 i0:=by kernel_rfl
 i2:=by kernel_rfl
 i3:=by kernel_rfl
 i4:=by kernel_rfl
 i5:=by kernel_rfl
 i9:=by kernel_rfl
 i20:=by kernel_rfl
 i37:=by kernel_rfl
 i46:=by kernel_rfl
 i51:=by kernel_rfl
 i53:=by kernel_rfl
 i171:=by kernel_rfl
 i173:=by kernel_rfl
 i212:=by kernel_rfl
 i232:=by kernel_rfl
 i233:=by kernel_rfl
 m17:=by kernel_rfl
 m18:=by kernel_rfl
 m19:=by kernel_rfl}
open Go.RowKit Go.Sort Go.Lib in
theorem Tryz.strconv_Itoa (n:Int) (h0: -9223372036854775808<=n) (h1:n<=9223372036854775807) (w:World) (htab:Lib.TabIs prog w "internal/strconv.uint64pow10" .u64 Lib.pow10Tab):
  Calls prog 177 #[.int .i64 n] w fun e w'=>e= .returned (.string ⟨(Lib.itoa n).toArray⟩)/\∃k os,w'=grow (w.drewN k) os:=Any.strconv_Itoa Tryz.ac8 n h0 h1 w htab
def Tryz.asr:Go.Shelf.Ren:=⟨fun |219=>217|217=>240|225=>241|224=>242|267=>243|266=>259|314=>260|n=>n,fun |9=>9|3=>3|4=>4|5=>5|46=>181|146=>264|51=>223|n=>n,fun |1=>0|n=>n⟩
def Tryz.ac9:Go.Shelf.Ren:=⟨fun |145=>118|220=>167|219=>217|217=>240|225=>241|224=>242|267=>243|266=>259|314=>260|n=>n,fun |9=>9|4=>4|59=>151|3=>3|5=>5|46=>181|146=>264|51=>223|n=>n,fun |1=>0|n=>n⟩
def Tryz.ada:Go.Proofs.Lays.n145 prog Tryz.ac9:=⟨by kernel_rfl,kR func118,kR func240,kR func217,kR func167,kR func242,kR func241,kR func259,kR func243,kR func260,underlying3,isAgg3,sizeOf3,zeroValue3,underlying4,isAgg4,sizeOf4,zeroValue4,underlying5,isAgg5,sizeOf5,zeroValue5,underlying9,isAgg9,sizeOf9,zeroValue9,underlying181,isAgg181,sizeOf181,zeroValue181,underlying223,isAgg223,sizeOf223,zeroValue223,underlying151,isAgg151,sizeOf151,zeroValue151,underlying264,isAgg264,sizeOf264,zeroValue264,by kernel_rfl⟩
open Go.RowKit Go.Lib in
theorem Tryz.strings_Cut (s sep:ByteArray) (m:Int) (w:World) (hs:s.size<4294967281) (hm:w.cell? ⟨0,0,none⟩=some (.int .i64 m)):
  Calls prog 118 #[.string s, .string sep] w fun e w'=>e= .returned (.tuple #[.string ⟨(Lib.cut s.data.toList sep.data.toList).1.toArray⟩, .string ⟨(Lib.cut s.data.toList sep.data.toList).2.1.toArray⟩, .bool (Lib.cut s.data.toList sep.data.toList).2.2])/\∃n,w'=w.drewN n:=Any.strings_Cut Tryz.ada s sep m w hs hm
def Tryz.adb:Go.Shelf.Ren:=⟨fun |189=>102|125=>156|257=>155|128=>200|129=>201|294=>191|295=>192|296=>193|297=>194|298=>195|299=>196|216=>197|300=>198|301=>199|328=>232|329=>233|330=>234|331=>235|332=>236|215=>166|343=>257|n=>n,fun |28=>93|3=>3|46=>181|0=>0|51=>223|53=>167|4=>4|183=>216|182=>215|131=>50|5=>5|9=>9|218=>243|222=>247|228=>268|229=>269|n=>n,fun |n=>n⟩
def Tryz.RQ:Go.Proofs.Lays.n189 prog Tryz.adb:=⟨by kernel_rfl,kR func156,kR func200,kR func201,kR func102,kR func166,kR func197,kR func155,kR func191,kR func192,kR func193,kR func194,kR func195,kR func196,kR func198,kR func199,kR func232,kR func233,kR func234,kR func235,kR func236,kR func257,underlying0,isAgg0,sizeOf0,zeroValue0,underlying3,isAgg3,sizeOf3,zeroValue3,underlying4,isAgg4,sizeOf4,zeroValue4,underlying5,isAgg5,sizeOf5,zeroValue5,underlying9,isAgg9,sizeOf9,zeroValue9,underlying93,isAgg93,sizeOf93,zeroValue93,underlying181,isAgg181,sizeOf181,zeroValue181,underlying223,isAgg223,sizeOf223,zeroValue223,underlying167,isAgg167,sizeOf167,zeroValue167,underlying50,isAgg50,sizeOf50,zeroValue50,underlying215,isAgg215,sizeOf215,zeroValue215,underlying216,isAgg216,sizeOf216,zeroValue216,underlying243,isAgg243,sizeOf243,zeroValue243,underlying247,isAgg247,sizeOf247,zeroValue247,underlying268,isAgg268,sizeOf268,zeroValue268,underlying269,isAgg269,sizeOf269,zeroValue269⟩
open Go.Sort Go.RowKit in
theorem Tryz.slices_Sort_int (blk off cap:Nat) (zs:List Int) (w:World) (hH:Holds (Value.int .i64) w blk off zs.toArray) (hblk:blk<w.heap.size) (hsz:zs.length<4611686018427387904):
  Calls prog 102 #[.slice (some ⟨blk,off,none⟩) zs.length cap] w fun e w'=>
   e= .returned (.tuple #[])/\∃n os,w'=grow (putRow (Value.int .i64) (Sort.ahead w n) blk off (zs.mergeSort fun x y=>decide (x<=y)).toArray) os:=Any.slices_Sort_int Tryz.RQ blk off cap zs w hH hblk hsz
def Tryz.ade:Go.Shelf.Ren:=⟨fun |99=>172|206=>218|n=>n,fun |9=>9|4=>4|3=>3|n=>n,fun |n=>n⟩
def Tryz.adf:Go.Proofs.Lays.n99 prog Tryz.ade:=⟨by kernel_rfl,kR func172,kR func218,underlying3,isAgg3,sizeOf3,zeroValue3,underlying4,isAgg4,sizeOf4,zeroValue4,underlying9,isAgg9,sizeOf9,zeroValue9⟩
open Go.RowKit Go.Lib in
theorem Tryz.strings_HasPrefix (s p:ByteArray) (w:World):
  Calls prog 172 #[.string s, .string p] w fun e w'=>e= .returned (.bool (Lib.hasPrefix s.data.toList p.data.toList))/\w'=w:=Any.strings_HasPrefix Tryz.adf s p w
def Tryz.adg:Go.Shelf.Ren:=⟨fun |101=>173|208=>219|206=>218|n=>n,fun |9=>9|4=>4|3=>3|n=>n,fun |n=>n⟩
def Tryz.adh:Go.Proofs.Lays.n101 prog Tryz.adg:=⟨by kernel_rfl,kR func173,kR func218,kR func219,underlying3,isAgg3,sizeOf3,zeroValue3,underlying4,isAgg4,sizeOf4,zeroValue4,underlying9,isAgg9,sizeOf9,zeroValue9⟩
open Go.RowKit Go.Lib in
theorem Tryz.strings_TrimPrefix (s p:ByteArray) (w:World):
  Calls prog 173 #[.string s, .string p] w fun e w'=>e= .returned (.string ⟨(Lib.trimPrefix s.data.toList p.data.toList).toArray⟩)/\w'=w:=Any.strings_TrimPrefix Tryz.adh s p w
def Tryz.adi:Go.Shelf.Ren:=⟨fun |264=>139|n=>n,fun |53=>167|46=>181|n=>n,fun |n=>n⟩
def Tryz.adj:Go.Proofs.Lays.n264 prog Tryz.adi:=⟨by kernel_rfl,kR func139,underlying181,isAgg181,sizeOf181,zeroValue181,underlying167,isAgg167,sizeOf167,zeroValue167⟩
open Go.RowKit Go.Lib in
theorem Tryz.bits_Mul64 (x y:Nat) (hx:x<18446744073709551616) (hy:y<18446744073709551616) (w:World):
  Calls prog 139 #[.int .u64 x, .int .u64 y] w fun e w'=>e= .returned (.tuple #[.int .u64 ((x*y/18446744073709551616:Nat):Int), .int .u64 ((x*y%18446744073709551616:Nat):Int)])/\w'=w:=Any.bits_Mul64 Tryz.adj x y hx hy w
def Tryz.RR:Go.Shelf.Ren:=⟨fun |105=>180|212=>228|99=>172|165=>229|166=>181|170=>230|169=>182|263=>254|264=>139|206=>218|240=>231|241=>255|276=>256|277=>268|n=>n,fun |9=>9|3=>3|4=>4|20=>20|0=>0|46=>181|109=>239|5=>5|72=>207|76=>196|51=>223|146=>264|53=>167|148=>168|70=>204|37=>205|75=>195|127=>242|164=>266|80=>160|n=>n,fun |n=>n⟩
def Tryz.adk:Go.Proofs.Lays.n105 prog Tryz.RR:=⟨by kernel_rfl,kR func172,kR func180,kR func229,kR func181,kR func182,kR func230,kR func218,kR func228,kR func231,kR func255,kR func254,kR func139,kR func256,kR func268,underlying0,isAgg0,sizeOf0,zeroValue0,underlying3,isAgg3,sizeOf3,zeroValue3,underlying4,isAgg4,sizeOf4,zeroValue4,underlying5,isAgg5,sizeOf5,zeroValue5,underlying9,isAgg9,sizeOf9,zeroValue9,underlying20,isAgg20,sizeOf20,zeroValue20,underlying205,isAgg205,sizeOf205,zeroValue205,underlying181,isAgg181,sizeOf181,zeroValue181,underlying223,isAgg223,sizeOf223,zeroValue223,underlying167,isAgg167,sizeOf167,zeroValue167,underlying204,isAgg204,sizeOf204,zeroValue204,underlying207,isAgg207,sizeOf207,zeroValue207,underlying195,isAgg195,sizeOf195,zeroValue195,underlying196,isAgg196,sizeOf196,zeroValue196,underlying239,isAgg239,sizeOf239,zeroValue239,underlying242,isAgg242,sizeOf242,zeroValue242,underlying264,isAgg264,sizeOf264,zeroValue264,underlying168,isAgg168,sizeOf168,zeroValue168,underlying266,isAgg266,sizeOf266,zeroValue266⟩
def Tryz.adl:Builder.Extra prog Tryz.RR:={
 sizeBuilder:=by kernel_rfl
 liesBuilder:=by kernel_rfl
 t5:=Tryz.underlying5
 a5:=Tryz.isAgg5
 z5:=Tryz.sizeOf5
 v5:=Tryz.zeroValue5
 infoByte:=by kernel_rfl
 cellsByte:=by kernel_rfl
 sizeByte:=by kernel_rfl
 neB5:=by decide}
open Go.RowKit Go.Lib in
theorem Tryz.strings_Repeat (s:ByteArray) (c:Nat) (w:World) (hc:c<=9223372036854775807) (hlen:s.size*c<=140737488355328):
  Calls prog 180 #[.string s, .int .i64 c] w fun e w'=>e= .returned (.string ⟨(Lib.repeatL s.data.toList c).toArray⟩)/\Below w.heap.size w w':=Any.strings_Repeat Tryz.adk Tryz.adl s c w hc hlen
open Go.RowKit Go.Sort in
theorem Tryz.slices_Sort_int_none (p:Option Addr) (cap:Nat) (w:World):
  Calls prog 102 #[.slice p 0 cap] w fun e w'=>e= .returned (.tuple #[])/\w'=w:=Any.slices_Sort_int_none Tryz.RQ p cap w
end Go.Proofs
namespace Go.Proofs.YtibikmmdbdlafaaGreatDoor
open Go.RowKit Sv Go.Proofs.Tryz
noncomputable section
def fA (x y:Int):Int:=x*y/18446744073709551616
def cJ (x y:Int):Int:=x*y%18446744073709551616
def kW (x y:Int):Bool:=(decide (0<=x)&&decide (x<18446744073709551616))&&(decide (0<=y)&&decide (y<18446744073709551616))
noncomputable def Ft:bp:={f:=139,ps:=[aD,aD],rs:=[aD,aD],fresh:=true,pre:=fun d=>kW d.1 d.2.1,fn:=fun d=>(fA d.1 d.2.1,(cJ d.1 d.2.1,()))}
noncomputable def rQ:bI:=aR [Fk,Ft]
noncomputable def ko:Code:=(f143.body).getD .skip
abbrev CB:List Nat:=[1,1,0,1,0,0]
abbrev Fu:List Nat:=[1,1,0,1,0,0,1,1,0,0]
abbrev KF:List Nat:=[1,1,0,1,0,0,1,1,0,0,1,1,0,1,0,0]
def kX (a b out:List Int) (i:Nat):bC:={n:=80,sl:=[(1,bE b),(5,qA 64 out),(20,bE a),(21,iv a.length),(22,iv i)],bF:=[(64,qC out)],next:=65}
def qH (a b out:List Int) (i:Nat) (x c:Int) (j:Nat):bC:={n:=80,sl:=[(1,bE b),(5,qA 64 out),(6,iv i),(7,cr x),(8,cr c),(20,bE a),(21,iv a.length),(22,iv i),(27,bE b),(28,iv b.length),(29,iv j)],bF:=[(64,qC out)],next:=65}
def o9 (x y o c:Int):Int:=(((((cJ x y).toNat+o.toNat+Int.toNat 0)%2^64)+c.toNat+Int.toNat 0)%2^64:Nat)
def rR (x y o c:Int):Int:=IntKind.u64.wrap (IntKind.u64.wrap (fA x y+(((((cJ x y).toNat+o.toNat+Int.toNat 0)/2^64):Nat):Int))+(((((((cJ x y).toNat+o.toNat+Int.toNat 0)%2^64)+c.toNat+Int.toNat 0)/2^64):Nat):Int))
def Fv (out:List Int):bC:={n:=80,sl:=[(5,bE out)],bF:=[],next:=64}
def adm (a b:List Int) (h1: -9223372036854775808<=(a.length:Int)+(b.length:Int)/\(a.length:Int)+(b.length:Int)<=9223372036854775807) (h2:((a.length:Int)+(b.length:Int)).toNat<=1000000) (h3:(((a.length:Int)+(b.length:Int)).toNat)=(cG (a.length+b.length)).length) (h4:(aZ.known ((a.length:Int)+(b.length:Int)).toNat)=(aZ.known (a.length+b.length))) (h5:(bJ (cG (a.length+b.length)).length)=(bJ (a.length+b.length))) (h6:(List.flatten (List.replicate ((a.length:Int)+(b.length:Int)).toNat (List.map aa.raw (Array.toList #[Value.int .u64 (0:Int)]))))=(List.flatMap (fun x=>[aa.raw (Value.int .u64 x)]) (cG (a.length+b.length)))) (h7:(a.length+b.length)=(cG (a.length+b.length)).length):
  aC.path (o4 prog rQ (fl ko []) 3 80 [bE a,bE b]) (dl 1) (dP prog 80 .normal [(64,64,some (a.length+b.length))] (kX a b (cG (a.length+b.length)) 0)):=
 mp (Fc (br h1) rt rt (og (show(decide (((a.length:Int)+(b.length:Int)).toNat<=((a.length:Int)+(b.length:Int)).toNat))=true from ax (by omega)) (show(bounded ((a.length:Int)+(b.length:Int)).toNat (8:Nat))=true from o6 h2 (by omega)) (rr b) (an h3 (an h4 h5)) (rr a) (rr (a.length:Int)) (rr (0:Int)) (an h6 h7) trivial))
def adn (a b out:List Int) (i:Nat) (h1:(i:Int)<(a.length:Int)):
  dD rQ (fl ko CB) 2 (kX a b out i) 3 .normal [(64,64,none)] (kX a b out i):=
 wy [ah h1] 1
def ado (a b out:List Int) (i:Nat) (h1:¬(i:Int)<(a.length:Int)):
  dD rQ (fl ko CB) 2 (kX a b out i) 2 (.exit 0) [(64,64,none)] (kX a b out i):=
 wy [aA h1] 1
def adp (a b out:List Int) (i:Nat) (h1:i<a.length):
  dD rQ (fl ko Fu) 3 (kX a b out i) 1 .normal [(64,64,none)] (qH a b out i (a.getD i 0) 0 0):=
 wy [ah h1] 64
def adq (a b out:List Int) (i:Nat) (x c:Int) (j:Nat) (h1:(j:Int)<(b.length:Int)) (h2:j<b.length) (h3:(kW x (b.getD j 0))=true) (h4:i6 ((i:Int)+(j:Int))) (h5:((i:Int)+(j:Int)).toNat<out.length) (h6:i6 ((j:Int)+1)) (h7:out.length=(out.set ((i:Int)+(j:Int)).toNat (o9 x (b.getD j 0) (out.getD ((i:Int)+(j:Int)).toNat 0) c)).length) (h8:(bJ out.length)=(bJ (out.set ((i:Int)+(j:Int)).toNat (o9 x (b.getD j 0) (out.getD ((i:Int)+(j:Int)).toNat 0) c)).length)) (h9:(IntKind.wrap IntKind.u64 (IntKind.wrap IntKind.u64 (fA x (b.getD j 0)+(↑(((cJ x (b.getD j 0)).toNat+(out.getD ((i:Int)+(j:Int)).toNat 0).toNat+Int.toNat 0)/(2:Nat)^(64:Nat)):Int))+(↑((((cJ x (b.getD j 0)).toNat+(out.getD ((i:Int)+(j:Int)).toNat 0).toNat+Int.toNat 0)%(2:Nat)^(64:Nat)+c.toNat+Int.toNat 0)/(2:Nat)^(64:Nat)):Int)))=(rR x (b.getD j 0) (out.getD ((i:Int)+(j:Int)).toNat 0) c)) (h10:(out.set ((i:Int)+(j:Int)).toNat (↑((((cJ x (b.getD j 0)).toNat+(out.getD ((i:Int)+(j:Int)).toNat 0).toNat+Int.toNat 0)%(2:Nat)^(64:Nat)+c.toNat+Int.toNat 0)%(2:Nat)^(64:Nat)):Int))=(out.set ((i:Int)+(j:Int)).toNat (o9 x (b.getD j 0) (out.getD ((i:Int)+(j:Int)).toNat 0) c))):
  bg rQ (fl ko KF) (qH a b out i x c j) 3 .normal [(64,64,none)] (qH a b (out.set ((i:Int)+(j:Int)).toNat (o9 x (b.getD j 0) (out.getD ((i:Int)+(j:Int)).toNat 0) c)) i x (rR x (b.getD j 0) (out.getD ((i:Int)+(j:Int)).toNat 0) c) (j+1)):=
 wy [ah h1,ah h2,af h3,yi h4,ah h5,jd 167 aD h5,yi h6,az h7,az h8,az (show(IntKind.wrap IntKind.u64 (IntKind.wrap IntKind.u64 (fA x (b.getD j (0:Int))+(↑(((cJ x (b.getD j (0:Int))).toNat+((bM aD (ba 167 aD out)).getD ((0:Nat)+((i:Int)+(j:Int)).toNat) (0:Int)).toNat+(0:Int).toNat)/(2:Nat)^(64:Nat)):Int))+(↑((((cJ x (b.getD j (0:Int))).toNat+((bM aD (ba 167 aD out)).getD ((0:Nat)+((i:Int)+(j:Int)).toNat) (0:Int)).toNat+(0:Int).toNat)%(2:Nat)^(64:Nat)+c.toNat+(0:Int).toNat)/(2:Nat)^(64:Nat)):Int)))=(rR x (b.getD j (0:Int)) (out.getD ((i:Int)+(j:Int)).toNat (0:Int)) c)from(by simp only [ew,aw]<;>exact h9)),o5 prog 167 aD (show((bM aD (ba 167 aD out)).set ((0:Nat)+((i:Int)+(j:Int)).toNat) (↑((((cJ x (b.getD j (0:Int))).toNat+((bM aD (ba 167 aD out)).getD ((0:Nat)+((i:Int)+(j:Int)).toNat) (0:Int)).toNat+(0:Int).toNat)%(2:Nat)^(64:Nat)+c.toNat+(0:Int).toNat)%(2:Nat)^(64:Nat)):Int))=(out.set ((i:Int)+(j:Int)).toNat (o9 x (b.getD j (0:Int)) (out.getD ((i:Int)+(j:Int)).toNat (0:Int)) c))from(by simp only [ew,aw]<;>exact h10))] 1004782375665203448862331732045300874419142139905
def adr (a b out:List Int) (i:Nat) (x c:Int) (j:Nat) (h1:¬(j:Int)<(b.length:Int)):
  bg rQ (fl ko KF) (qH a b out i x c j) 2 (.exit 2) [(64,64,none)] (qH a b out i x c j):=
 wy [aA h1] 1
def ads (a b out:List Int) (i:Nat) (x c:Int) (j:Nat) (h1:i6 ((i:Int)+(b.length:Int))) (h2:((i:Int)+(b.length:Int)).toNat<out.length) (h3:out.length=(out.set ((i:Int)+(b.length:Int)).toNat c).length) (h4:(bJ out.length)=(bJ (out.set ((i:Int)+(b.length:Int)).toNat c).length)):
  bg rQ ((fl ko Fu).drop 4) (qH a b out i x c j) 1 .normal [(64,64,none)] (kX a b (out.set ((i:Int)+(b.length:Int)).toNat c) i):=
 wy [yi h1,ah h2,jd 167 aD h2,az h3,az h4,mJ 167 aD (Eq.refl (out.set ((i:Int)+(b.length:Int)).toNat c))] 442721880034140495873
def adt (a b out:List Int) (i:Nat) (h1:i6 ((i:Int)+1)):
  bg rQ ((fl ko CB).drop 3) (kX a b out i) 1 .normal [(64,64,none)] (kX a b out (i+1)):=
 wy [yi h1] 1
def adu (a b out:List Int) (i:Nat):
  aC.path (aC.ret (R.normal ((kX a b out i).T.set 5 (some (bE out))) ((kX a b out i).H.drop 64) []):aC R) (dl 1) (dP prog 80 .normal [] (Fv out)):=
 wy [] 0
def adv (out:List Int) (h1:out.length<=1000000):
  bH rQ ((fl ko []).drop 4) (Fv out) 1 f143 false (bE (dL out)):=
 wy [ah h1] 1
def pg (x y:List Int):List Int:=cM 18446744073709551616 (aj x*aj y)
noncomputable def RS:bp:={f:=143,ps:=[.list false aD, .list false aD],rs:=[.list false aD],fresh:=false,pre:=fun d=>ls d.1 d.2.1,fn:=fun d=>(pg d.1 d.2.1,())}
def adw {f:FuncId} {args:List aa} {a b:Int} {fresh:Bool} (h:∀(w:World) (F:Env) (xs:List Value),tM w F->Sv.vK F->aF F args xs->Calls prog f xs.toArray w fun e w'=>e= .returned (.tuple #[.int .u64 a, .int .u64 b])/\Below w.heap.size w w'):
  Holds prog fresh f args (.tuple [cr a,cr b]):=fun w F xs hF cu hd=>
 (h w F xs hF cu hd).mono fun e w' ⟨g1,g2⟩=>⟨_,⟨F.at',fun _=>none⟩,g1, .tuple (.cons (.raw _) (.cons (.raw _) .nil)),⟨hF.ob,hF.all,fun b A h=>by cases h⟩,(fun b A h=>by cases h),g2⟩
def CC {x y:Int}:kW x y=true↔(0<=x/\x<18446744073709551616)/\(0<=y/\y<18446744073709551616):=by
 unfold kW;simp only [ae,bB]
def adx (X Y:Nat) (hx:X<18446744073709551616) (hy:Y<18446744073709551616):Holds prog true 139 [cr X,cr Y] (.tuple [cr (fA X Y),cr (cJ X Y)]):=
 adw fun w F xs hF cu hd=>by
  cases hd with
  |cons d1 d2=>
   cases d2 with
   |cons d2 d3=>
    cases d3;rw [d1.b8,d2.b8];exact(Tryz.bits_Mul64 X Y hx hy w).mono fun e w' ⟨h1,h2⟩=>⟨h1,by subst h2;exact Below.refl _ _⟩
def ady (x y:Int) (h:kW x y=true):Holds prog true 139 [cr x,cr y] (.tuple [cr (fA x y),cr (cJ x y)]):=by
 obtain⟨⟨x0,x1⟩,y0,y1⟩:=CC.1 h;have:=adx x.toNat y.toNat (by omega) (by omega);rw [Int.toNat_of_nonneg x0,Int.toNat_of_nonneg y0]at this;exact this
def KG:Ft.Ok prog:=fun⟨x,y,_⟩ h=>ady x y h
def adz:bD prog (bG rQ):=cY (aX tn (aX KG eA))
def fC {x:Int} (h:0<=x/\x<18446744073709551616):IntKind.wrap .u64 x=x:=by
 unfold IntKind.wrap;have e:IntKind.signed .u64=false:=rfl;have e2:IntKind.bits .u64=64:=rfl;simp only [e,e2,Bool.false_and,Bool.false_eq_true,if_false];rw [show(2:Int)^64=18446744073709551616 from rfl];omega
def adA {x y o c:Int} (hx:0<=x/\x<18446744073709551616) (hy:0<=y/\y<18446744073709551616) (ho:0<=o/\o<18446744073709551616) (hc:0<=c/\c<18446744073709551616):
  o9 x y o c+18446744073709551616*rR x y o c=x*y+o+c/\(0<=o9 x y o c/\o9 x y o c<18446744073709551616)/\(0<=rR x y o c/\rR x y o c<18446744073709551616):=by
 have KH:0<=x*y:=Int.mul_nonneg hx.1 hy.1;have hp1:x*y<=18446744073709551615*18446744073709551615:=Int.mul_le_mul (by omega) (by omega) hy.1 (by decide);unfold o9 rR fA cJ;generalize x*y=p at*;rw [show(2:Nat)^64=18446744073709551616 from rfl];have e0:Int.toNat 0=0:=rfl;rw [e0];have hr:=eG p (show(18446744073709551616:Int)≠0 by decide);have hr2:=e6 p (show(0:Int)<18446744073709551616 by decide);have hq:=Int.emod_add_mul_ediv p 18446744073709551616;generalize p%18446744073709551616=r at*;generalize p/18446744073709551616=q at*;have mK:0<=q/\q<=18446744073709551614:=by omega
 obtain⟨R,rfl⟩:∃R:Nat,r=(R:Int):=⟨r.toNat,by omega⟩;obtain⟨O,rfl⟩:∃O:Nat,o=(O:Int):=⟨o.toNat,by omega⟩;obtain⟨C,rfl⟩:∃C:Nat,c=(C:Int):=⟨c.toNat,by omega⟩;simp only [Int.toNat_natCast,Nat.add_zero];have k1:(R+O)/18446744073709551616<=1:=by omega
 have dF:=Nat.mod_add_div (R+O) 18446744073709551616;have mA:=Nat.mod_lt (R+O) (show 18446744073709551616>0 by decide);generalize (R+O)/18446744073709551616=c1 at*;generalize (R+O)%18446744073709551616=l1 at*;have oS:=Nat.mod_add_div (l1+C) 18446744073709551616;have xD:=Nat.mod_lt (l1+C) (show 18446744073709551616>0 by decide);have E0:(l1+C)/18446744073709551616<=1:=by omega
 generalize (l1+C)/18446744073709551616=c2 at*;generalize (l1+C)%18446744073709551616=l2 at*;rw [fC (x:=q+(c1:Int)) (by omega),fC (x:=q+(c1:Int)+(c2:Int)) (by omega)];omega
def RT:(fl ko []).drop 4≠[]:=fun h=>by
 have:((fl ko []).drop 4).isEmpty=false:=by kernel_rfl
 rw [h]at this;cases this
def RU {P b lo hi x y o c V W M:Int} (h:lo+b*hi=x*y+o+c) (hv:V+P*c=M):V+P*(lo-o)+P*b*hi=M+P*(x*y):=by
 have h1:P*(lo+b*hi)=P*(x*y+o+c):=by rw [h]
 rw [Int.mul_add,Int.mul_add,Int.mul_add,<-Int.mul_assoc]at h1;rw [Int.mul_sub];omega
def adB (x y:List Int) (h:ls x y=true):Holds prog false 143 [bE x,bE y] (bE (pg x y)):=by
 unfold ls at h;simp only [ae,bB]at h;obtain⟨hx,hy,lx,ly⟩:=h;have hx:=cp.1 hx;have hy:=cp.1 hy;have hS:=adz;have e1:((x.length:Int)+(y.length:Int)).toNat=x.length+y.length:=by omega
 refine bL (c:=ko) func143 rfl rfl fun w0 F=> ?_
 refine cC hS 3 (adm x y (by omega) (by omega) (by rw [gz,e1]) (by rw [e1]) (by rw [gz]) (by rw [e1];exact x8 _) (by rw [gz])) ?_;refine aP.loop (ι:={s:List Int×Nat//s.2<=x.length/\s.1.length=x.length+y.length/\aT 18446744073709551616 s.1/\aj s.1=aj (x.take s.2)*aj y/\∀k,s.2+y.length<=k->s.1.getD k 0=0}) (id:=0) (b:=cat ko CB) (rest:=(fl ko []).drop 4) (by kernel_rfl) (fun s=>kX x y s.1.1 s.1.2) (fun s=>x.length-s.1.2)
  ⟨(cG (x.length+y.length),0),Nat.zero_le _,gz _,Ad _,by
    show vl _ (List.replicate _ 0)=vl _ (x.take 0)*_;rw [tk];simp [vl],fun k _=>by
    show(List.replicate _ (0:Int)).getD k 0=0;rw [ao,List.getElem?_replicate];split<;>rfl⟩ (fun _=>rfl) ?_
 rintro⟨⟨out,i⟩,hi,ho,iR,hval,hz⟩;have hi:i<=x.length:=hi;have ho:out.length=x.length+y.length:=ho;have iR:aT 18446744073709551616 out:=iR;have hval:aj out=aj (x.take i)*aj y:=hval;have hz:∀k,i+y.length<=k->out.getD k 0=0:=hz;by_cases hlt:i<x.length
 .have vX:=hx.get (by decide) i;refine dZ (s:=kX x y out i) hS 2 (adn x y out i (by omega)) ?_;refine Ku (id:=1) (c:=cat ko Fu) (rest:=(fl ko CB).drop 3) (by kernel_rfl) ?_;refine dZ (s:=kX x y out i) hS 3 (adp x y out i hlt) ?_;refine aP.loop (ι:={s:List Int×Int×Nat//s.2.2<=y.length/\s.1.length=x.length+y.length/\aT 18446744073709551616 s.1/\(0<=s.2.1/\s.2.1<18446744073709551616)/\aj s.1+18446744073709551616^(i+s.2.2)*s.2.1=aj out+18446744073709551616^i*(x.getD i 0*aj (y.take s.2.2))/\∀k,i+y.length<=k->s.1.getD k 0=0}) (id:=2) (b:=cat ko KF) (rest:=(fl ko Fu).drop 4) (by kernel_rfl) (fun s=>qH x y s.1.1 i (x.getD i 0) s.1.2.1 s.1.2.2) (fun s=>y.length-s.1.2.2)
   ⟨(out,0,0),Nat.zero_le _,ho,iR,⟨Int.le_refl 0,show(0:Int)<18446744073709551616 by decide⟩,by simp [aj,vl],hz⟩ (fun _=>rfl) ?_
  rintro⟨⟨cS,c,j⟩,hj,nA,qI,hc,hinv,nB⟩;have hj:j<=y.length:=hj;have nA:cS.length=x.length+y.length:=nA;have qI:aT 18446744073709551616 cS:=qI;have hc:0<=c/\c<18446744073709551616:=hc;have hinv:aj cS+18446744073709551616^(i+j)*c=aj out+18446744073709551616^i*(x.getD i 0*aj (y.take j)):=hinv;have nB:∀k,i+y.length<=k->cS.getD k 0=0:=nB;have e2:((i:Int)+(j:Int)).toNat=i+j:=by omega
  have e3:((i:Int)+(y.length:Int)).toNat=i+y.length:=by omega
  by_cases hlj:j<y.length
  .have Fw:=hy.get (by decide) j;have zK:=qI.get (by decide) (i+j);obtain⟨g1,g2,g3⟩:=adA vX Fw zK hc;refine bl (s:=qH x y cS i (x.getD i 0) c j) (s':=qH x y (cS.set ((i:Int)+(j:Int)).toNat (o9 (x.getD i 0) (y.getD j 0) (cS.getD ((i:Int)+(j:Int)).toNat 0) c)) i (x.getD i 0) (rR (x.getD i 0) (y.getD j 0) (cS.getD ((i:Int)+(j:Int)).toNat 0) c) (j+1)) hS (adq x y cS i (x.getD i 0) c j (by omega) hlj (CC.2 ⟨vX,Fw⟩) (by omega) (by omega) (by omega) (by rw [b6]) (by rw [b6]) rfl rfl) ?_;rw [e2];refine⟨⟨(cS.set (i+j) (o9 (x.getD i 0) (y.getD j 0) (cS.getD (i+j) 0) c),rR (x.getD i 0) (y.getD j 0) (cS.getD (i+j) 0) c,j+1),hlj,by rw [b6];exact nA,qI.set g2,g3, ?_,fun k hk=> ?_⟩,by simp;omega,rfl,rfl⟩
   .show vl 18446744073709551616 (cS.set (i+j) (o9 (x.getD i 0) (y.getD j 0) (cS.getD (i+j) 0) c))+18446744073709551616^(i+(j+1))*rR (x.getD i 0) (y.getD j 0) (cS.getD (i+j) 0) c=vl 18446744073709551616 out+18446744073709551616^i*(x.getD i 0*vl 18446744073709551616 (y.take (j+1)));rw [qz _ _ _ _ (by omega),<-Nat.add_assoc,Int.pow_succ,kU,Int.mul_add,Int.mul_add];have:=RU (W:=0) g1 hinv;unfold aj at this;rw [this,Int.add_assoc,Int.pow_add];congr 2;rw [Int.mul_assoc,Int.mul_left_comm (x.getD i 0)]
   .rw [ao,List.getElem?_set_ne (by omega),<-ao];exact nB k hk
  .refine bl (s:=qH x y cS i (x.getD i 0) c j) hS (adr x y cS i (x.getD i 0) c j (by omega)) ?_;refine cw (cz ?_);obtain rfl:j=y.length:=by omega
   refine bl (s:=qH x y cS i (x.getD i 0) c y.length) (s':=kX x y (cS.set ((i:Int)+(y.length:Int)).toNat c) i) hS (ads x y cS i (x.getD i 0) c y.length (by omega) (by omega) (by rw [b6]) (by rw [b6])) ?_;rw [e3];refine bl (s:=kX x y (cS.set (i+y.length) c) i) hS (adt x y (cS.set (i+y.length) c) i (by omega)) ?_;refine⟨⟨(cS.set (i+y.length) c,i+1),hlt,by rw [b6];exact nA,qI.set hc, ?_,fun k hk=> ?_⟩,by simp;omega,rfl,rfl⟩
   .have hk0:=nB (i+y.length) (aG _);show vl _ (cS.set (i+y.length) c)=vl _ (x.take (i+1))*_;rw [qz _ _ _ _ (by omega),hk0,Int.sub_zero,kU,Int.add_mul,Int.mul_assoc];rw [dI,hval]at hinv;exact hinv
   .rw [ao,List.getElem?_set_ne (by omega),<-ao];exact nB k (by omega)
 .refine dZ (s:=kX x y out i) hS 2 (ado x y out i (by omega)) ?_;refine cw (cw (cz ?_));obtain rfl:i=x.length:=by omega
  rw [dI]at hval;unfold pg;rw [<-hval,<-lw iR];refine aP.vT RT (i:=64) (s:=5) (e2:=167) (t:=aD) (xs:=out) (cap:=bJ out.length) (by kernel_rfl) (by kernel_rfl) ?_;refine aP.oa RT (σ:=[]) (s:=Fv out) (adu x y out x.length) ?_;exact bP (s:=Fv out) hS (adv out (by omega))
def adC:RS.Ok prog:=fun⟨x,y,_⟩ h=>adB x y h
end
abbrev aW:=Int×List Int
def au (a:aW):Int:=if a.2=[]then a.1 else a.1*aj a.2
noncomputable def aY (z:Int):Int×List Int:=if-9223372036854775807<=z/\z<=9223372036854775807 then(z,[])else(if z<0 then-1 else 1,cM 18446744073709551616 z.natAbs)
def gA (z:Int):Bool:=decide (-9223372036854775808<=z)&&decide (z<=9223372036854775807)
def iy (a:aW):Bool:=List.isEmpty (α:=Int) a.2
def bK (n:Nat) (a:aW):Bool:=match a.2 with
 |[]=>gA a.1
 |x::l=>(a.1==1||a.1== -1)&&(gL (x::l)&&(jC (x::l)&&(decide (9223372036854775807<aj (x::l))&&decide ((x::l).length<=n))))
def aH (a:aW):Bool:=bK 100000 a
def cl (n:Int):Int:=n.natAbs
def ay (a:aW):List Int:=if a.2=[]then(if a.1=0 then []else [cl a.1])else a.2
def bW (a:aW):Bool:=decide (a.1<0)
noncomputable def dx (a b:aW):Int×List Int:=if iy a&&(iy b&&gA (a.1+b.1))then(a.1+b.1,[])else aY (au a+au b)
noncomputable def ct (a b:aW):Int×List Int:=aY (au a*au b)
noncomputable def eY (a:aW):Int×List Int:=aY (-au a)
noncomputable def pn (a:aW):Int×List Int:=aY (au a).natAbs
noncomputable def kq (a b:aW):Int×List Int:=dx a (eY b)
def kY (z:Int):Int:=if z<0 then-1 else if z=0 then 0 else 1
def fe (a:aW):Int:=kY (au a)
def AC (a b:aW):Int:=kY (au a-au b)
def KI {x:Int} (h:0<=x/\x<18446744073709551616):aT 18446744073709551616 [x]:= .cons h .nil
def RV {x:Int} (h:x≠0):eX [x]:=eX.cons .nil fun _=>h
def Ae (x:Int):aj [x]=x:=tX _ _
def qJ {z:Int}:gA z=true↔ -9223372036854775808<=z/\z<=9223372036854775807:=by
 unfold gA;rw [ae,bB,bB]
def dm {a:aW}:iy a=true↔a.2=[]:=by unfold iy;exact List.isEmpty_iff
def rS {a:aW}:iy a=false↔a.2≠[]:=by
 constructor
 .intro h e;rw [dm.2 e]at h;cases h
 .intro h;cases hs:iy a with
  |false=>rfl
  |true=>exact absurd (dm.1 hs) h
def lN {a:aW} (h:a.2=[]):au a=a.1:=by unfold au;rw [if_pos h]
def nC {n:Nat} {a:aW} (h:a.2=[]):bK n a=gA a.1:=by unfold bK;rw [h]
def pq {n:Nat} {a:aW} (h:a.2≠[]):bK n a=true↔(a.1=1\/a.1= -1)/\aT 18446744073709551616 a.2/\eX a.2/\9223372036854775807<aj a.2/\a.2.length<=n:=by
 obtain⟨s,w⟩:=a;cases w with
 |nil=>exact absurd rfl h
 |cons x l=>
  unfold bK;simp only [ae,Bool.or_eq_true,bB,gT,cp,qG]
def jD {n:Nat} {a:aW} (h:bK n a=true):aT 18446744073709551616 (ay a)/\eX (ay a)/\aj (ay a)=(au a).natAbs/\(bW a=true↔au a<0)/\(ay a).length<=max n 1:=by
 by_cases hs:a.2=[]
 .rw [nC hs]at h;have h:=qJ.1 h;have hv:=lN hs;have hn:bW a=true↔au a<0:=by unfold bW;rw [hv,bB]
  unfold ay;rw [if_pos hs,hv];by_cases h0:a.1=0
  .rw [if_pos h0,h0];exact⟨.nil, .nil,rfl,by rw [<-hv]at h0;rw [hn,h0],by simp⟩
  .rw [if_neg h0];refine⟨KI (by unfold cl;omega),RV (by unfold cl;omega),by rw [Ae];rfl,by rw [hn,hv],by simp;omega⟩
 .obtain⟨h1,h2,h3,h4,h5⟩:=(pq hs).1 h;unfold ay bW;rw [if_neg hs];have hv:au a=a.1*aj a.2:=by unfold au;rw [if_neg hs]
  refine⟨h2,h3, ?_, ?_,by omega⟩
  .rw [hv];rcases h1 with h1|h1<;>rw [h1]<;>omega
  .rw [hv,bB];rcases h1 with h1|h1<;>rw [h1]<;>omega
def d8 {n:Nat} {a:aW} (h:bK n a=true) (hn:1<=n):((au a).natAbs:Int)<18446744073709551616^n:=by
 obtain⟨h1,_,h3,_,h5⟩:=jD h;have h6:=fP (b:=18446744073709551616) (by decide) h1;have h7:=iQ (b:=18446744073709551616) (by decide) (show(ay a).length<=n by omega);unfold aj at h3;omega
def iS {b z:Int} {n:Nat} (hb:1<b) (h0:0<=z) (h:z<b^n):(cM b z).length<=n:=by
 obtain⟨h1,h2,h3⟩:=qD hb h0;cases hl:(cM b z).length with
 |zero=>omega
 |succ k=>
  have h4:=tl (by omega) h1 h2 hl;rw [h3]at h4;by_cases hk:k+1<=n
  .exact hk
  .have:=iQ (show 1<=b by omega) (show n<=k by omega);omega
def tw {b:Int} (hb:1<b):cM b 0=[]:=(qE hb .nil .nil rfl).symm
def Af {b z:Int} (hb:1<b) (h:0<z):cM b z≠[]:=fun e=>by
 obtain⟨_,_,h3⟩:=qD hb (cm h);rw [e]at h3;simp [vl]at h3;omega
def kZ {n:Nat} {z:Int} (h:(z.natAbs:Int)<18446744073709551616^n):bK n (aY z)=true/\au (aY z)=z:=by
 unfold aY;split
 .rename_i hz;exact⟨by rw [nC rfl];exact qJ.2 ⟨by omega,hz.2⟩,lN rfl⟩
 .rename_i hz;have h0:0<(z.natAbs:Int):=by omega
  obtain⟨h1,h2,h3⟩:=qD (b:=18446744073709551616) (by decide) (cm h0);have hne:=Af (b:=18446744073709551616) (by decide) h0;refine⟨(pq hne).2 ⟨?_,h1,h2, ?_,iS (by decide) (cm h0) h⟩, ?_⟩
  .show(if z<0 then(-1:Int)else 1)=1\/_;split
   .exact .inr rfl
   .exact .inl rfl
  .show 9223372036854775807<vl _ _;rw [h3];omega
  .unfold au;rw [if_neg hne];show(if z<0 then(-1:Int)else 1)*vl _ _=z;rw [h3];split<;>omega
def val_mk (z:Int):au (aY z)=z:=by
 have:(z.natAbs:Int)<18446744073709551616^(z.natAbs+1):=by
  have:∀n:Nat,(n:Int)<18446744073709551616^(n+1):=fun n=>by
   induction n with
   |zero=>decide
   |succ n ih=>rw [Int.pow_succ];omega
  exact this _
 exact(kZ this).2
def Fx {n:Nat} {a:aW} (h:bK n a=true) (hv:au a≠ -9223372036854775808):a=aY (au a):=by
 obtain⟨s,w⟩:=a;by_cases hs:w=[]
 .subst hs;have h:gA s=true:=h;have h:=qJ.1 h;have hv:s≠ -9223372036854775808:=hv;show(s,[])=aY s;unfold aY;rw [if_pos ⟨by omega,h.2⟩]
 .obtain⟨h1,h2,h3,h4,h5⟩:=(pq (a:=(s,w)) hs).1 h;have e:au (s,w)=s*aj w:=by unfold au;rw [if_neg hs]
  rw [e]at hv ⊢;have h1:s=1\/s= -1:=h1;have h4:9223372036854775807<aj w:=h4;have hd:w=cM 18446744073709551616 (aj w):=qE (by decide) h2 h3 rfl;unfold aY;rcases h1 with rfl |rfl
  .rw [if_neg (by omega),if_neg (by omega),show((1*aj w).natAbs:Int)=aj w by omega,<-hd]
  .rw [if_neg (by omega),if_pos (by omega),show((-1*aj w).natAbs:Int)=aj w by omega,<-hd]
def Ag (a b:aW):au (dx a b)=au a+au b:=by
 unfold dx;split
 .rename_i h;simp only [ae]at h;rw [lN rfl,lN (dm.1 h.1),lN (dm.1 h.2.1)]
 .exact val_mk _
def CD {n:Nat} {a b:aW} (h:((au a+au b).natAbs:Int)<18446744073709551616^n):bK n (dx a b)=true:=by
 unfold dx;split
 .rename_i h;simp only [ae]at h;rw [nC rfl];exact h.2.2
 .exact(kZ h).1
def KJ {z:Int} (h:0<z):kY z=1:=by unfold kY;rw [if_neg (by omega),if_neg (by omega)]
def Fy {z:Int} (h:z<0):kY z= -1:=by unfold kY;rw [if_pos h]
def adD:kY 0=0:=by decide
end Go.Proofs.YtibikmmdbdlafaaGreatDoor
