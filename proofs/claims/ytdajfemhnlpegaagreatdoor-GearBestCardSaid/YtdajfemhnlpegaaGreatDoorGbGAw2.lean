import Derived.Test.YtdajfemhnlpegaaGreatDoorGbGDel
open Bool renaming false->ao,true->D
open Go renaming FuncId->ya
open Go.Proofs.Tryz renaming prog->em
open _root_ renaming List->I,Bool->dF,Int->N,decide->bP
set_option linter.defProp false
set_option linter.unusedSectionVars false
set_option linter.unusedSimpArgs false
set_option linter.unusedVariables false
namespace Go.Proofs.YtdajfemhnlpegaaGreatDoor
open Go.RowKit Sv Go.Proofs.Tryz
noncomputable section
def ace(f:ya)(args:I af):aM:=AV (F3 AV em (qq em LK) 400) f args H0
def aw6{f:ya}{args:I af}{fresh:dF}{res:af}(h:(match ace f args with |.ok v b=>GM fresh b v res|_=>ao)=D):Holds em fresh f args res:=by
 cases a:ace f args with
 |ok v b=>
  rw[a]at h;exact RJ (J3 (JW (λd c=>J3 c) known (FB known mixed aw5) 400)) a (RI h)
 |_=>rw[a]at h;cases h
def aw7:Holds em D 30 [ps [(20,30),(30,50)]] (.tuple [ps [(20,50)],iv 0]):=aw6 (by kernel_rfl)
def acf:=IN 29 [.list ao vo] [.str,.int .i64] D (λd=>decide ((d.1:I (N×N))=[(20,30),(30,50)])) λ_=>(⟨#[50,47,53]⟩,(0),())
def aw8:acf.Ok em:=λ⟨a,_⟩ h=>by
 have h:(bP ((a:I (N×N))=[(20,30),(30,50)]))=D:=h;simp only[aN]at h;subst h;exact xm arH
def acg:=IN 30 [.list ao vo] [.list ao vo,.int .i64] D (λd=>decide ((d.1:I (N×N))=[(20,30),(30,50)])) λ_=>([(20,50)],(0),())
def aw9:acg.Ok em:=λ⟨a,_⟩ h=>by
 have h:(bP ((a:I (N×N))=[(20,30),(30,50)]))=D:=h;simp only[aN]at h;subst h;exact aw7
def ach:=IN 9 [.list ao vo,.str,.int .i64] [.list ao vo,.int .i64] D (λd=>decide ((d.1:I (N×N))=[(20,2),(30,1),(50,1)])&&(bP ((d.2.1:AT)=⟨#[49,47,50]⟩)&&(bP ((d.2.2.1:N)=(2))))) λ_=>([(20,50)],(0),())
def axa:ach.Ok em:=λ⟨a,b,c,_⟩ h=>by
 have h:(bP ((a:I (N×N))=[(20,2),(30,1),(50,1)])&&(bP ((b:AT)=⟨#[49,47,50]⟩)&&(bP ((c:N)=(2)))))=D:=h;simp only[ae,aN]at h;obtain⟨rfl,rfl,rfl⟩:=h;exact xm arI
def aci:=IN 22 [.list ao vo,.int .i64] [.list ao .str,.int .i64] D (λd=>decide ((d.1:I (N×N))=[(20,2),(30,1),(50,1)])&&(bP ((d.2.1:N)=(1)))) λ_=>([⟨#[50,47,53]⟩,⟨#[51,47,53]⟩,⟨#[50,47,51]⟩,⟨#[49]⟩,⟨#[51,47,50]⟩,⟨#[53,47,51]⟩,⟨#[53,47,50]⟩],(0),())
def axb:aci.Ok em:=λ⟨a,b,_⟩ h=>by
 have h:(bP ((a:I (N×N))=[(20,2),(30,1),(50,1)])&&(bP ((b:N)=(1))))=D:=h;simp only[ae,aN]at h;obtain⟨rfl,rfl⟩:=h;exact xm arJ
def acj:=IN 36 [.str] [.list ao .str,.int .i64] D (λd=>decide ((d.1:AT)=⟨#[52,51,47,51,48]⟩)) λ_=>([⟨#[49]⟩,⟨#[51,47,50]⟩,⟨#[49,48,47,55]⟩,⟨#[52,51,47,51,48]⟩],(0),())
def axc:acj.Ok em:=λ⟨a,_⟩ h=>by
 have h:(bP ((a:AT)=⟨#[52,51,47,51,48]⟩))=D:=h;simp only[aN]at h;subst h;exact xm arK
def ack:=IN 37 [.str,.int .i64] [.pair .str .str,.int .i64] D (λd=>decide ((d.1:AT)=⟨#[52,51,47,51,48]⟩)&&(bP ((d.2.1:N)=(20)))) λ_=>((⟨#[49,48,47,55]⟩,⟨#[50,51,47,49,54]⟩),(0),())
def axd:ack.Ok em:=λ⟨a,b,_⟩ h=>by
 have h:(bP ((a:AT)=⟨#[52,51,47,51,48]⟩)&&(bP ((b:N)=(20))))=D:=h;simp only[ae,aN]at h;obtain⟨rfl,rfl⟩:=h;exact xm arL
def acm:=IN 38 [.str,.int .i64] [.str,.int .i64] D (λd=>decide ((d.1:AT)=⟨#[52,51,47,51,48]⟩)&&(bP ((d.2.1:N)=(20)))) λ_=>(⟨#[50,51,47,49,54]⟩,(0),())
def Lk:acm.Ok em:=λ⟨a,b,_⟩ h=>by
 have h:(bP ((a:AT)=⟨#[52,51,47,51,48]⟩)&&(bP ((b:N)=(20))))=D:=h;simp only[ae,aN]at h;obtain⟨rfl,rfl⟩:=h;exact xm arM
def acn:=IN 39 [.int .i64,.int .i64,.str,.str] [.str,.int .i64] D (λd=>decide ((d.1:N)=(20))&&(bP ((d.2.1:N)=(60))&&(bP ((d.2.2.1:AT)=⟨#[51]⟩)&&(bP ((d.2.2.2.1:AT)=⟨#[45,49]⟩))))) λ_=>(⟨#[48]⟩,(0),())
def axe:acn.Ok em:=λ⟨a,b,c,d,_⟩ h=>by
 have h:(bP ((a:N)=(20))&&(bP ((b:N)=(60))&&(bP ((c:AT)=⟨#[51]⟩)&&(bP ((d:AT)=⟨#[45,49]⟩)))))=D:=h;simp only[ae,aN]at h;obtain⟨rfl,rfl,rfl,rfl⟩:=h;exact xm arN
def aco:=IN 40 [.list ao vo,.list ao .str] [.str,.int .i64] D (λd=>decide ((d.1:I (N×N))=[(20,50),(20,30)])&&(bP ((d.2.1:I AT)=[⟨#[49,47,49,48,48]⟩,⟨#[49,47,53,48]⟩]))) λ_=>(⟨#[50,47,55,53]⟩,(0),())
def axf:aco.Ok em:=λ⟨a,b,_⟩ h=>by
 have h:(bP ((a:I (N×N))=[(20,50),(20,30)])&&(bP ((b:I AT)=[⟨#[49,47,49,48,48]⟩,⟨#[49,47,53,48]⟩])))=D:=h;simp only[ae,aN]at h;obtain⟨rfl,rfl⟩:=h;exact xm arO
def acp:=IN 16 [.list ao vo,.str,.str,.int .i64] [.list ao vo,.int .i64] D (λd=>decide ((d.1:I (N×N))=[(20,2),(30,1),(50,1)])&&(bP ((d.2.1:AT)=⟨#[49,47,50]⟩)&&(bP ((d.2.2.1:AT)=⟨#[49,47,50,48]⟩)&&(bP ((d.2.2.2.1:N)=(2)))))) λ_=>([],(7),())
def GE:acp.Ok em:=λ⟨a,b,c,d,_⟩ h=>by
 have h:(bP ((a:I (N×N))=[(20,2),(30,1),(50,1)])&&(bP ((b:AT)=⟨#[49,47,50]⟩)&&(bP ((c:AT)=⟨#[49,47,50,48]⟩)&&(bP ((d:N)=(2))))))=D:=h;simp only[ae,aN]at h;obtain⟨rfl,rfl,rfl,rfl⟩:=h;exact xm arP
def S8:=aA [acf,acg,ach,aci,acj,ack,acm,acn,aco,acp]
def axg:bI em (bJ S8):=dw (aV aw8 (aV aw9 (aV axa (aV axb (aV axc (aV axd (aV Lk (aV axe (aV axf (aV GE eH))))))))))
def axh:(match me em (F3 (me em) em (qq em (bJ S8)) 400) 7 [] H0 with |.ok v a=>GM D a v (.raw (.bool D))|_=>ao)=D:=by kernel_rfl
def axi:Holds em D 7 [] (.raw (.bool D)):=by
 have h:=axh;cases a:me em (F3 (me em) em (qq em (bJ S8)) 400) 7 [] H0 with
 |ok v c=>
  rw[a]at h;exact RJ (nf (JW (λd b=>nf b) known (FB known mixed axg) 400)) a (RI h)
 |_=>rw[a]at h;cases h
