/- Contracts of the program's functions over abstract values and states, plain facts on which these lean, and the framework of these values over the model. The conditions stand in each theorem. -/
import Derived.Test.YtogndnaffdkanaaGreatBb
import Derived.Eval
import Derived.Test.YtogndnaffdkanaaGreatChecked
set_option linter.all false
set_option maxRecDepth 10000
set_option maxHeartbeats 16000000
namespace Yt
open Go Go.Vc
structure Wr (B:Prop):Prop where
 k:B
def Hs (n:Nat):Nat×Option Bool×Bool×Bool:=(n,some false,false,false)
@[go_sem] theorem Hs_e (n:Nat):Hs n=(n,some false,false,false):=rfl
def Ht (n:Nat):Nat×Option Bool×Bool×Bool:=(n,none,false,false)
@[go_sem] theorem Ht_e (n:Nat):Ht n=(n,none,false,false):=rfl
def Hu (n:Nat):Nat×Option Bool×Bool×Bool:=(n,none,true,false)
@[go_sem] theorem Hu_e (n:Nat):Hu n=(n,none,true,false):=rfl
def Hv (n:Nat):Nat×Option Bool×Bool×Bool:=(n,some false,false,true)
@[go_sem] theorem Hv_e (n:Nat):Hv n=(n,some false,false,true):=rfl
def Hw (n:Nat):Nat×Option Bool×Bool×Bool:=(n,none,false,true)
@[go_sem] theorem Hw_e (n:Nat):Hw n=(n,none,false,true):=rfl
def Hx (n:Nat):Nat×Option Bool×Bool×Bool:=(n,some true,false,false)
@[go_sem] theorem Hx_e (n:Nat):Hx n=(n,some true,false,false):=rfl
def Hy (n:Nat):Nat×Option Bool×Bool×Bool:=(n,some false,true,false)
@[go_sem] theorem Hy_e (n:Nat):Hy n=(n,some false,true,false):=rfl
theorem Aa {A B:Prop} (k:B) (h:Wr B->A:=by intro k;(simp -implicitDefEqProofs only[go_sem];repeat (refine GO ?_;simp -implicitDefEqProofs only[go_sem]));exact k.1):A:=h ⟨k⟩
theorem Ab {A B:Prop} (k:B) (h:Wr B->A:=by intro k;(simp -implicitDefEqProofs only[go_sem,iA];repeat (refine GO ?_;simp -implicitDefEqProofs only[go_sem,iA]));exact k.1):A:=h ⟨k⟩
theorem Ad {A B:Prop} (k:B) (h:Wr B->A:=by intro k;(simp -implicitDefEqProofs only[go_sem,bA];repeat (refine GO ?_;simp -implicitDefEqProofs only[go_sem,bA]));exact k.1):A:=h ⟨k⟩
theorem Ae {A:Prop} (h:A:=by simp -implicitDefEqProofs only[go_sem]):A:=h
theorem Af {A B:Prop} (k:B) (h:Wr B->A:=by intro k;(simp -implicitDefEqProofs only[go_sem,setA];repeat (refine GO ?_;simp -implicitDefEqProofs only[go_sem,setA]));exact k.1):A:=h ⟨k⟩
theorem Ag {A:Prop} (h:A:=by simp -implicitDefEqProofs only[go_sem];repeat (refine GO ?_;simp -implicitDefEqProofs only[go_sem])):A:=h
theorem Ah {A B:Prop} (k:B) (h:Wr B->A:=by intro k;(repeat ((first|refine VIF.t ?_|refine VIF.f ?_);simp -implicitDefEqProofs only[go_sem,iA];repeat (refine GO ?_;simp -implicitDefEqProofs only[go_sem,iA])));exact k.1):A:=h ⟨k⟩
theorem Ai {A:Prop} (h:A:=by simp -implicitDefEqProofs only[go_sem,bA];repeat (refine GO ?_;simp -implicitDefEqProofs only[go_sem,bA])):A:=h
theorem Aj {A:Prop} (h:A:=by simp -implicitDefEqProofs only[go_sem,iA]):A:=h
theorem Ak {A B:Prop} (k:B) (h:Wr B->A:=by intro k;(simp -implicitDefEqProofs only[go_sem,w1];repeat (refine GO ?_;simp -implicitDefEqProofs only[go_sem,w1]));exact k.1):A:=h ⟨k⟩
theorem Al {A B:Prop} (k:B) (h:Wr B->A:=by intro k;(simp -implicitDefEqProofs only[go_sem,iA,setA];repeat (refine GO ?_;simp -implicitDefEqProofs only[go_sem,iA,setA]));exact k.1):A:=h ⟨k⟩
theorem Am {A B:Prop} (k:B) (h:Wr B->A:=by intro k;(simp -implicitDefEqProofs only[go_sem,iA,so];repeat (refine GO ?_;simp -implicitDefEqProofs only[go_sem,iA,so]));exact k.1):A:=h ⟨k⟩
theorem Ao {A B:Prop} (k:B) (h:Wr B->A:=by intro k;(simp -implicitDefEqProofs only[go_sem,V.c];repeat (refine GO ?_;simp -implicitDefEqProofs only[go_sem,V.c]));exact k.1):A:=h ⟨k⟩
theorem Ap {A B:Prop} (k:B) (h:Wr B->A:=by intro k;(repeat ((first|refine VIF.t ?_|refine VIF.f ?_);simp -implicitDefEqProofs only[go_sem,Pr.c,intsL];repeat (refine GO ?_;simp -implicitDefEqProofs only[go_sem,Pr.c,intsL])));exact k.1):A:=h ⟨k⟩
theorem Aq {A B:Prop} (k:B) (h:Wr B->A:=by intro k;(simp -implicitDefEqProofs only[go_sem,PN.c,doO,iA];repeat (refine GO ?_;simp -implicitDefEqProofs only[go_sem,PN.c,doO,iA]));exact k.1):A:=h ⟨k⟩
theorem Ar {A B:Prop} (k:B) (h:Wr B->A:=by intro k;(simp -implicitDefEqProofs only[go_sem,It.c];repeat (refine GO ?_;simp -implicitDefEqProofs only[go_sem,It.c]));exact k.1):A:=h ⟨k⟩
theorem Au {A B:Prop} (k:B) (h:Wr B->A:=by intro k;(simp -implicitDefEqProofs only[go_sem,iA,intsL];repeat (refine GO ?_;simp -implicitDefEqProofs only[go_sem,iA,intsL]));exact k.1):A:=h ⟨k⟩
theorem Av {A B:Prop} (k:B) (h:Wr B->A:=by intro k;(simp -implicitDefEqProofs only[go_sem,PN.c,iA];repeat (refine GO ?_;simp -implicitDefEqProofs only[go_sem,PN.c,iA]));exact k.1):A:=h ⟨k⟩
theorem Aw {A B:Prop} (k:B) (h:Wr B->A:=by intro k;(simp -implicitDefEqProofs only[go_sem]);exact k.1):A:=h ⟨k⟩
theorem Ax {A B:Prop} (k:B) (h:Wr B->A:=by intro k;(simp -implicitDefEqProofs only[go_sem,AV.rn,Nat.add_zero,iA,rns];repeat (refine GO ?_;simp -implicitDefEqProofs only[go_sem,AV.rn,Nat.add_zero,iA,rns]));exact k.1):A:=h ⟨k⟩
theorem Ay {A B:Prop} (k:B) (h:Wr B->A:=by intro k;(repeat ((first|refine VIF.t ?_|refine VIF.f ?_);simp -implicitDefEqProofs only[go_sem,PN.c,iA];repeat (refine GO ?_;simp -implicitDefEqProofs only[go_sem,PN.c,iA])));exact k.1):A:=h ⟨k⟩
theorem Az {A B:Prop} (k:B) (h:Wr B->A:=by intro k;(simp -implicitDefEqProofs only[go_sem,PN.c,iA,setsA];repeat (refine GO ?_;simp -implicitDefEqProofs only[go_sem,PN.c,iA,setsA]));exact k.1):A:=h ⟨k⟩
theorem A0 {A B:Prop} (k:B) (h:Wr B->A:=by intro k;(simp -implicitDefEqProofs only[go_sem,formsA,iA,plA,setsA];repeat (refine GO ?_;simp -implicitDefEqProofs only[go_sem,formsA,iA,plA,setsA]));exact k.1):A:=h ⟨k⟩
theorem A3 {A B:Prop} (k:B) (h:Wr B->A:=by intro k;(simp -implicitDefEqProofs only[go_sem,rowA];repeat (refine GO ?_;simp -implicitDefEqProofs only[go_sem,rowA]));exact k.1):A:=h ⟨k⟩
theorem A4 {A B:Prop} (k:B) (h:Wr B->A:=by intro k;(simp -implicitDefEqProofs only[go_sem,It.c,iA,rowA];repeat (refine GO ?_;simp -implicitDefEqProofs only[go_sem,It.c,iA,rowA]));exact k.1):A:=h ⟨k⟩
theorem A5 {A B:Prop} (k:B) (h:Wr B->A:=by intro k;(simp -implicitDefEqProofs only[go_sem,intsL];repeat (refine GO ?_;simp -implicitDefEqProofs only[go_sem,intsL]));exact k.1):A:=h ⟨k⟩
theorem A6 {A B:Prop} (k:B) (h:Wr B->A:=by intro k;(simp -implicitDefEqProofs only[go_sem,bA,iA];repeat (refine GO ?_;simp -implicitDefEqProofs only[go_sem,bA,iA]));exact k.1):A:=h ⟨k⟩
theorem A7 {A B:Prop} (k:B) (h:Wr B->A:=by intro k;(repeat ((first|refine VIF.t ?_|refine VIF.f ?_);simp -implicitDefEqProofs only[go_sem];repeat (refine GO ?_;simp -implicitDefEqProofs only[go_sem])));exact k.1):A:=h ⟨k⟩
theorem A8 {A:Prop} (h:A:=by simp -implicitDefEqProofs only[go_sem,iA];repeat (refine GO ?_;simp -implicitDefEqProofs only[go_sem,iA])):A:=h
theorem A9 {A B:Prop} (k:B) (h:Wr B->A:=by intro k;(simp -implicitDefEqProofs only[go_sem,V.c,V.zero,iA,setA,w1];repeat (refine GO ?_;simp -implicitDefEqProofs only[go_sem,V.c,V.zero,iA,setA,w1]));exact k.1):A:=h ⟨k⟩
theorem Ba {A B:Prop} (k:B) (h:Wr B->A:=by intro k;(simp -implicitDefEqProofs only[go_sem,iA,w1];repeat (refine GO ?_;simp -implicitDefEqProofs only[go_sem,iA,w1]));exact k.1):A:=h ⟨k⟩
theorem Bb {A B:Prop} (k:B) (h:Wr B->A:=by intro k;(simp -implicitDefEqProofs only[go_sem,formsA,iA,plA,setsA,w1];repeat (refine GO ?_;simp -implicitDefEqProofs only[go_sem,formsA,iA,plA,setsA,w1]));exact k.1):A:=h ⟨k⟩
theorem Bc {A B:Prop} (k:B) (h:Wr B->A:=by intro k;(simp -implicitDefEqProofs only[go_sem,formsA,iA];repeat (refine GO ?_;simp -implicitDefEqProofs only[go_sem,formsA,iA]));exact k.1):A:=h ⟨k⟩
theorem Bd {A B:Prop} (k:B) (h:Wr B->A:=by intro k;(simp -implicitDefEqProofs only[go_sem,iA,intsL,setA];repeat (refine GO ?_;simp -implicitDefEqProofs only[go_sem,iA,intsL,setA]));exact k.1):A:=h ⟨k⟩
theorem Be {A B:Prop} (k:B) (h:Wr B->A:=by intro k;(simp -implicitDefEqProofs only[go_sem,It.c,iA];repeat (refine GO ?_;simp -implicitDefEqProofs only[go_sem,It.c,iA]));exact k.1):A:=h ⟨k⟩
theorem Bf {A B:Prop} (k:B) (h:Wr B->A:=by intro k;(simp -implicitDefEqProofs only[go_sem,formsA,plA,setsA];repeat (refine GO ?_;simp -implicitDefEqProofs only[go_sem,formsA,plA,setsA]));exact k.1):A:=h ⟨k⟩
theorem Bg {A B:Prop} (k:B) (h:Wr B->A:=by intro k;(simp -implicitDefEqProofs only[go_sem,PN.c];repeat (refine GO ?_;simp -implicitDefEqProofs only[go_sem,PN.c]));exact k.1):A:=h ⟨k⟩
theorem Bh {A B:Prop} (k:B) (h:Wr B->A:=by intro k;(repeat ((first|refine VIF.t ?_|refine VIF.f ?_);simp -implicitDefEqProofs only[go_sem,iA,setA];repeat (refine GO ?_;simp -implicitDefEqProofs only[go_sem,iA,setA])));exact k.1):A:=h ⟨k⟩
theorem Bi {A B:Prop} (k:B) (h:Wr B->A:=by intro k;(simp -implicitDefEqProofs only[go_sem,V.c,iA];repeat (refine GO ?_;simp -implicitDefEqProofs only[go_sem,V.c,iA]));exact k.1):A:=h ⟨k⟩
theorem Bj {A B:Prop} (k:B) (h:Wr B->A:=by intro k;(simp -implicitDefEqProofs only[go_sem,iA,rowA];repeat (refine GO ?_;simp -implicitDefEqProofs only[go_sem,iA,rowA]));exact k.1):A:=h ⟨k⟩
theorem Bk {A B:Prop} (k:B) (h:Wr B->A:=by intro k;(simp -implicitDefEqProofs only[go_sem,iA,setsA];repeat (refine GO ?_;simp -implicitDefEqProofs only[go_sem,iA,setsA]));exact k.1):A:=h ⟨k⟩
theorem Bl {A B:Prop} (k:B) (h:Wr B->A:=by intro k;(simp -implicitDefEqProofs only[go_sem,Pr.c];repeat (refine GO ?_;simp -implicitDefEqProofs only[go_sem,Pr.c]));exact k.1):A:=h ⟨k⟩
theorem Bm {A B:Prop} (k:B) (h:Wr B->A:=by intro k;(simp -implicitDefEqProofs only[go_sem,List.take_length];repeat (refine GO ?_;simp -implicitDefEqProofs only[go_sem,List.take_length]));exact k.1):A:=h ⟨k⟩
theorem Bn {A B:Prop} (k:B) (h:Wr B->A:=by intro k;(simp -implicitDefEqProofs only[go_sem,iA,intsL,rowA];repeat (refine GO ?_;simp -implicitDefEqProofs only[go_sem,iA,intsL,rowA]));exact k.1):A:=h ⟨k⟩
theorem Bo {A B:Prop} (k:B) (h:Wr B->A:=by intro k;(simp -implicitDefEqProofs only[go_sem,w3];repeat (refine GO ?_;simp -implicitDefEqProofs only[go_sem,w3]));exact k.1):A:=h ⟨k⟩
theorem Bp {A B:Prop} (k:B) (h:Wr B->A:=by intro k;(simp -implicitDefEqProofs only[go_sem,intsL,setA];repeat (refine GO ?_;simp -implicitDefEqProofs only[go_sem,intsL,setA]));exact k.1):A:=h ⟨k⟩
theorem Bs {A B:Prop} (k:B) (h:Wr B->A:=by intro k;(simp -implicitDefEqProofs only[go_sem,Nd.c,iA];repeat (refine GO ?_;simp -implicitDefEqProofs only[go_sem,Nd.c,iA]));exact k.1):A:=h ⟨k⟩
theorem Bu {A B:Prop} (k:B) (h:Wr B->A:=by intro k;(simp -implicitDefEqProofs only[go_sem,so];repeat (refine GO ?_;simp -implicitDefEqProofs only[go_sem,so]));exact k.1):A:=h ⟨k⟩
theorem Bv {A B:Prop} (k:B) (h:Wr B->A:=by intro k;(simp -implicitDefEqProofs only[go_sem,w2];repeat (refine GO ?_;simp -implicitDefEqProofs only[go_sem,w2]));exact k.1):A:=h ⟨k⟩
theorem Bw {A:Prop} (h:A:=by simp -implicitDefEqProofs only[go_sem,intsL];repeat (refine GO ?_;simp -implicitDefEqProofs only[go_sem,intsL])):A:=h
theorem Bx {A B:Prop} (k:B) (h:Wr B->A:=by intro k;(simp -implicitDefEqProofs only[go_sem,iA,so,to2];repeat (refine GO ?_;simp -implicitDefEqProofs only[go_sem,iA,so,to2]));exact k.1):A:=h ⟨k⟩
theorem By {A B:Prop} (k:B) (h:Wr B->A:=by intro k;(simp -implicitDefEqProofs only[go_sem,iA,ndA];repeat (refine GO ?_;simp -implicitDefEqProofs only[go_sem,iA,ndA]));exact k.1):A:=h ⟨k⟩
theorem Bz {A B:Prop} (k:B) (h:Wr B->A:=by intro k;(simp -implicitDefEqProofs only[go_sem,formsA];repeat (refine GO ?_;simp -implicitDefEqProofs only[go_sem,formsA]));exact k.1):A:=h ⟨k⟩
theorem B0 {A B:Prop} (k:B) (h:Wr B->A:=by intro k;(simp -implicitDefEqProofs only[go_sem,iA,io];repeat (refine GO ?_;simp -implicitDefEqProofs only[go_sem,iA,io]));exact k.1):A:=h ⟨k⟩
theorem B3 {A B:Prop} (k:B) (h:Wr B->A:=by intro k;(simp -implicitDefEqProofs only[go_sem,iA,setA,w1];repeat (refine GO ?_;simp -implicitDefEqProofs only[go_sem,iA,setA,w1]));exact k.1):A:=h ⟨k⟩
theorem B5 {A B:Prop} (k:B) (h:Wr B->A:=by intro k;(simp -implicitDefEqProofs only[go_sem,iA,intsL,setA,so];repeat (refine GO ?_;simp -implicitDefEqProofs only[go_sem,iA,intsL,setA,so]));exact k.1):A:=h ⟨k⟩
theorem B6 {A B:Prop} (k:B) (h:Wr B->A:=by intro k;(simp -implicitDefEqProofs only[go_sem,PN.c,boxO,iA,ndO,wO,wU];repeat (refine GO ?_;simp -implicitDefEqProofs only[go_sem,PN.c,boxO,iA,ndO,wO,wU]));exact k.1):A:=h ⟨k⟩
theorem B7 {A B:Prop} (k:B) (h:Wr B->A:=by intro k;(simp -implicitDefEqProofs only[go_sem,iA,idxA];repeat (refine GO ?_;simp -implicitDefEqProofs only[go_sem,iA,idxA]));exact k.1):A:=h ⟨k⟩
theorem B8 {A B:Prop} (k:B) (h:Wr B->A:=by intro k;(simp -implicitDefEqProofs only[go_sem,iA]);exact k.1):A:=h ⟨k⟩
theorem B9 {A B:Prop} (k:B) (h:Wr B->A:=by intro k;(simp -implicitDefEqProofs only[go_sem,It.c,gItem,hgv,iA,rowA];repeat (refine GO ?_;simp -implicitDefEqProofs only[go_sem,It.c,gItem,hgv,iA,rowA]));exact k.1):A:=h ⟨k⟩
theorem Cb {A B:Prop} (k:B) (h:Wr B->A:=by intro k;(simp -implicitDefEqProofs only[go_sem,formsA,plA];repeat (refine GO ?_;simp -implicitDefEqProofs only[go_sem,formsA,plA]));exact k.1):A:=h ⟨k⟩
theorem Cc {A B:Prop} (k:B) (h:Wr B->A:=by intro k;(simp -implicitDefEqProofs only[go_sem,h4,h5,iA];repeat (refine GO ?_;simp -implicitDefEqProofs only[go_sem,h4,h5,iA]));exact k.1):A:=h ⟨k⟩
theorem Cd {A B:Prop} (k:B) (h:Wr B->A:=by intro k;(simp -implicitDefEqProofs only[go_sem,It.c,w6];repeat (refine GO ?_;simp -implicitDefEqProofs only[go_sem,It.c,w6]));exact k.1):A:=h ⟨k⟩
theorem Cf {A B:Prop} (k:B) (h:Wr B->A:=by intro k;(simp -implicitDefEqProofs only[go_sem,PN.c,iA,intsL];repeat (refine GO ?_;simp -implicitDefEqProofs only[go_sem,PN.c,iA,intsL]));exact k.1):A:=h ⟨k⟩
theorem Cg {A B:Prop} (k:B) (h:Wr B->A:=by intro k;(simp -implicitDefEqProofs only[go_sem,plA];repeat (refine GO ?_;simp -implicitDefEqProofs only[go_sem,plA]));exact k.1):A:=h ⟨k⟩
theorem Ci {A B:Prop} (k:B) (h:Wr B->A:=by intro k;(simp -implicitDefEqProofs only[go_sem,Gp.c,V.c,bA,iA,rowA];repeat (refine GO ?_;simp -implicitDefEqProofs only[go_sem,Gp.c,V.c,bA,iA,rowA]));exact k.1):A:=h ⟨k⟩
theorem Ck {A B:Prop} (k:B) (h:Wr B->A:=by intro k;(simp -implicitDefEqProofs only[go_sem,intsL,rowA];repeat (refine GO ?_;simp -implicitDefEqProofs only[go_sem,intsL,rowA]));exact k.1):A:=h ⟨k⟩
theorem Cl {A B:Prop} (k:B) (h:Wr B->A:=by intro k;(simp -implicitDefEqProofs only[go_sem,Gp.c,V.c,bA,gsA,iA];repeat (refine GO ?_;simp -implicitDefEqProofs only[go_sem,Gp.c,V.c,bA,gsA,iA]));exact k.1):A:=h ⟨k⟩
theorem Cm {A:Prop} (h:A:=by simp -implicitDefEqProofs only[go_sem,intsL]):A:=h
theorem Cn {A B:Prop} (k:B) (h:Wr B->A:=by intro k;(simp -implicitDefEqProofs only[go_sem,iA,plA];repeat (refine GO ?_;simp -implicitDefEqProofs only[go_sem,iA,plA]));exact k.1):A:=h ⟨k⟩
theorem Co {A B:Prop} (k:B) (h:Wr B->A:=by intro k;(simp -implicitDefEqProofs only[go_sem,w1,w2];repeat (refine GO ?_;simp -implicitDefEqProofs only[go_sem,w1,w2]));exact k.1):A:=h ⟨k⟩
theorem Cp {A B:Prop} (k:B) (h:Wr B->A:=by intro k;(simp -implicitDefEqProofs only[go_sem,bA,w1];repeat (refine GO ?_;simp -implicitDefEqProofs only[go_sem,bA,w1]));exact k.1):A:=h ⟨k⟩
theorem Cr {A B:Prop} (k:B) (h:Wr B->A:=by intro k;(simp -implicitDefEqProofs only[go_sem,Pr.c,intsL,w2];repeat (refine GO ?_;simp -implicitDefEqProofs only[go_sem,Pr.c,intsL,w2]));exact k.1):A:=h ⟨k⟩
theorem Cs {A B:Prop} (k:B) (h:Wr B->A:=by intro k;(simp -implicitDefEqProofs only[go_sem,formsA,iA,w1];repeat (refine GO ?_;simp -implicitDefEqProofs only[go_sem,formsA,iA,w1]));exact k.1):A:=h ⟨k⟩
theorem Ct {A B:Prop} (k:B) (h:Wr B->A:=by intro k;(simp -implicitDefEqProofs only[go_sem,iA,intsL,io];repeat (refine GO ?_;simp -implicitDefEqProofs only[go_sem,iA,intsL,io]));exact k.1):A:=h ⟨k⟩
theorem Cu {A B:Prop} (k:B) (h:Wr B->A:=by intro k;(simp -implicitDefEqProofs only[go_sem,List.take_length]);exact k.1):A:=h ⟨k⟩
theorem Cv {A B:Prop} (k:B) (h:Wr B->A:=by intro k;(simp -implicitDefEqProofs only[go_sem,It.c,w2];repeat (refine GO ?_;simp -implicitDefEqProofs only[go_sem,It.c,w2]));exact k.1):A:=h ⟨k⟩
theorem Cw {A B:Prop} (k:B) (h:Wr B->A:=by intro k;(simp -implicitDefEqProofs only[go_sem,iA,intsL,setA,w1];repeat (refine GO ?_;simp -implicitDefEqProofs only[go_sem,iA,intsL,setA,w1]));exact k.1):A:=h ⟨k⟩
theorem Cx {A B:Prop} (k:B) (h:Wr B->A:=by intro k;(simp -implicitDefEqProofs only[go_sem,AV.rn,Nat.add_zero];repeat (refine GO ?_;simp -implicitDefEqProofs only[go_sem,AV.rn,Nat.add_zero]));exact k.1):A:=h ⟨k⟩
theorem Cy {A B:Prop} (k:B) (h:Wr B->A:=by intro k;(simp -implicitDefEqProofs only[go_sem,boO,cO,formsA,iA,plA,setsA,toO,w1];repeat (refine GO ?_;simp -implicitDefEqProofs only[go_sem,boO,cO,formsA,iA,plA,setsA,toO,w1]));exact k.1):A:=h ⟨k⟩
theorem Cz {A B:Prop} (k:B) (h:Wr B->A:=by intro k;(simp -implicitDefEqProofs only[go_sem,gsA,iA,rowA];repeat (refine GO ?_;simp -implicitDefEqProofs only[go_sem,gsA,iA,rowA]));exact k.1):A:=h ⟨k⟩
theorem C0 {A B:Prop} (k:B) (h:Wr B->A:=by intro k;(simp -implicitDefEqProofs only[go_sem,It.c,w1,w2];repeat (refine GO ?_;simp -implicitDefEqProofs only[go_sem,It.c,w1,w2]));exact k.1):A:=h ⟨k⟩
theorem C2 {A B:Prop} (k:B) (h:Wr B->A:=by intro k;(simp -implicitDefEqProofs only[go_sem,cO,formsA,iA,plA,setsA,toO];repeat (refine GO ?_;simp -implicitDefEqProofs only[go_sem,cO,formsA,iA,plA,setsA,toO]));exact k.1):A:=h ⟨k⟩
theorem C3 {A B:Prop} (k:B) (h:Wr B->A:=by intro k;(simp -implicitDefEqProofs only[go_sem,iA,so,w1];repeat (refine GO ?_;simp -implicitDefEqProofs only[go_sem,iA,so,w1]));exact k.1):A:=h ⟨k⟩
theorem C6 {A B:Prop} (k:B) (h:Wr B->A:=by intro k;(simp -implicitDefEqProofs only[go_sem,iA,uA];repeat (refine GO ?_;simp -implicitDefEqProofs only[go_sem,iA,uA]));exact k.1):A:=h ⟨k⟩
theorem C7 {A B:Prop} (k:B) (h:Wr B->A:=by intro k;(simp -implicitDefEqProofs only[go_sem,iA,w2];repeat (refine GO ?_;simp -implicitDefEqProofs only[go_sem,iA,w2]));exact k.1):A:=h ⟨k⟩
theorem C8 {A B:Prop} (k:B) (h:Wr B->A:=by intro k;(simp -implicitDefEqProofs only[go_sem,setsA];repeat (refine GO ?_;simp -implicitDefEqProofs only[go_sem,setsA]));exact k.1):A:=h ⟨k⟩
theorem C9 {A B:Prop} (k:B) (h:Wr B->A:=by intro k;(simp -implicitDefEqProofs only[go_sem,V.c,V.zero,iA,setA];repeat (refine GO ?_;simp -implicitDefEqProofs only[go_sem,V.c,V.zero,iA,setA]));exact k.1):A:=h ⟨k⟩
theorem Dc {A B:Prop} (k:B) (h:Wr B->A:=by intro k;(simp -implicitDefEqProofs only[go_sem,iA,intsL,ro3,rowA];repeat (refine GO ?_;simp -implicitDefEqProofs only[go_sem,iA,intsL,ro3,rowA]));exact k.1):A:=h ⟨k⟩
theorem Dd {A B:Prop} (k:B) (h:Wr B->A:=by intro k;(simp -implicitDefEqProofs only[go_sem,PN.c,doO,iA,setsA];repeat (refine GO ?_;simp -implicitDefEqProofs only[go_sem,PN.c,doO,iA,setsA]));exact k.1):A:=h ⟨k⟩
theorem De {A B:Prop} (k:B) (h:Wr B->A:=by intro k;(simp -implicitDefEqProofs only[go_sem,iA,setA]);exact k.1):A:=h ⟨k⟩
theorem Df {A B:Prop} (k:B) (h:Wr B->A:=by intro k;(simp -implicitDefEqProofs only[go_sem,V.c,iA,rowA,setA];repeat (refine GO ?_;simp -implicitDefEqProofs only[go_sem,V.c,iA,rowA,setA]));exact k.1):A:=h ⟨k⟩
theorem Di {A:Prop} (h:A:=by simp -implicitDefEqProofs only[go_sem,setA]):A:=h
theorem Dj {A B:Prop} (k:B) (h:Wr B->A:=by intro k;(simp -implicitDefEqProofs only[go_sem,formsA,iA,setsA];repeat (refine GO ?_;simp -implicitDefEqProofs only[go_sem,formsA,iA,setsA]));exact k.1):A:=h ⟨k⟩
theorem Dk {A B:Prop} (k:B) (h:Wr B->A:=by intro k;(simp -implicitDefEqProofs only[go_sem,h8,h9,iA,setA];repeat (refine GO ?_;simp -implicitDefEqProofs only[go_sem,h8,h9,iA,setA]));exact k.1):A:=h ⟨k⟩
theorem Dp {A B:Prop} (k:B) (h:Wr B->A:=by intro k;(simp -implicitDefEqProofs only[go_sem,iA,pairsA,so];repeat (refine GO ?_;simp -implicitDefEqProofs only[go_sem,iA,pairsA,so]));exact k.1):A:=h ⟨k⟩
theorem Dq {A B:Prop} (k:B) (h:Wr B->A:=by intro k;(simp -implicitDefEqProofs only[go_sem,iA,intsL,w1];repeat (refine GO ?_;simp -implicitDefEqProofs only[go_sem,iA,intsL,w1]));exact k.1):A:=h ⟨k⟩
theorem Dr {A B:Prop} (k:B) (h:Wr B->A:=by intro k;(simp -implicitDefEqProofs only[go_sem,iA,setsA,w1];repeat (refine GO ?_;simp -implicitDefEqProofs only[go_sem,iA,setsA,w1]));exact k.1):A:=h ⟨k⟩
theorem Ds {A B:Prop} (k:B) (h:Wr B->A:=by intro k;(simp -implicitDefEqProofs only[go_sem,It.c,w2,w3];repeat (refine GO ?_;simp -implicitDefEqProofs only[go_sem,It.c,w2,w3]));exact k.1):A:=h ⟨k⟩
theorem Dt {A B:Prop} (k:B) (h:Wr B->A:=by intro k;(simp -implicitDefEqProofs only[go_sem,V.c,bA,iA];repeat (refine GO ?_;simp -implicitDefEqProofs only[go_sem,V.c,bA,iA]));exact k.1):A:=h ⟨k⟩
theorem Dv {A B:Prop} (k:B) (h:Wr B->A:=by intro k;(simp -implicitDefEqProofs only[go_sem,bA,iA,io];repeat (refine GO ?_;simp -implicitDefEqProofs only[go_sem,bA,iA,io]));exact k.1):A:=h ⟨k⟩
theorem Dw {A B:Prop} (k:B) (h:Wr B->A:=by intro k;(simp -implicitDefEqProofs only[go_sem,iA,rowsA];repeat (refine GO ?_;simp -implicitDefEqProofs only[go_sem,iA,rowsA]));exact k.1):A:=h ⟨k⟩
theorem Dx {A B:Prop} (k:B) (h:Wr B->A:=by intro k;(simp -implicitDefEqProofs only[go_sem,gsA,iA];repeat (refine GO ?_;simp -implicitDefEqProofs only[go_sem,gsA,iA]));exact k.1):A:=h ⟨k⟩
theorem Dy {A B:Prop} (k:B) (h:Wr B->A:=by intro k;(simp -implicitDefEqProofs only[go_sem,iA,w3];repeat (refine GO ?_;simp -implicitDefEqProofs only[go_sem,iA,w3]));exact k.1):A:=h ⟨k⟩
theorem D2 {A B:Prop} (k:B) (h:Wr B->A:=by intro k;(simp -implicitDefEqProofs only[go_sem,ro3];repeat (refine GO ?_;simp -implicitDefEqProofs only[go_sem,ro3]));exact k.1):A:=h ⟨k⟩
theorem D3 {A B:Prop} (k:B) (h:Wr B->A:=by intro k;(repeat ((first|refine VIF.t ?_|refine VIF.f ?_);simp -implicitDefEqProofs only[go_sem,bA];repeat (refine GO ?_;simp -implicitDefEqProofs only[go_sem,bA])));exact k.1):A:=h ⟨k⟩
theorem D4 {A:Prop} (h:A:=by simp -implicitDefEqProofs only[go_sem,bA,boolsA,intsL,touchA];repeat (refine GO ?_;simp -implicitDefEqProofs only[go_sem,bA,boolsA,intsL,touchA])):A:=h
theorem D6 {A B:Prop} (k:B) (h:Wr B->A:=by intro k;(simp -implicitDefEqProofs only[go_sem,bA,iA,intsL,op4,setA];repeat (refine GO ?_;simp -implicitDefEqProofs only[go_sem,bA,iA,intsL,op4,setA]));exact k.1):A:=h ⟨k⟩
theorem D7 {A B:Prop} (k:B) (h:Wr B->A:=by intro k;(simp -implicitDefEqProofs only[go_sem,iA,intsL,setA,so,w1];repeat (refine GO ?_;simp -implicitDefEqProofs only[go_sem,iA,intsL,setA,so,w1]));exact k.1):A:=h ⟨k⟩
theorem D8 {A:Prop} (h:A:=by simp -implicitDefEqProofs only[go_sem,cO,formsA,plA,setsA]):A:=h
theorem D9 {A B:Prop} (k:B) (h:Wr B->A:=by intro k;(simp -implicitDefEqProofs only[go_sem,It.c,iA,w1,w2,w3];repeat (refine GO ?_;simp -implicitDefEqProofs only[go_sem,It.c,iA,w1,w2,w3]));exact k.1):A:=h ⟨k⟩
theorem Ea {A B:Prop} (k:B) (h:Wr B->A:=by intro k;(simp -implicitDefEqProofs only[go_sem,iA,intsL,rowA,w1];repeat (refine GO ?_;simp -implicitDefEqProofs only[go_sem,iA,intsL,rowA,w1]));exact k.1):A:=h ⟨k⟩
theorem Eb {A B:Prop} (k:B) (h:Wr B->A:=by intro k;(simp -implicitDefEqProofs only[go_sem,doO,iA,plA,setsA];repeat (refine GO ?_;simp -implicitDefEqProofs only[go_sem,doO,iA,plA,setsA]));exact k.1):A:=h ⟨k⟩
theorem Ec {A B:Prop} (k:B) (h:Wr B->A:=by intro k;(simp -implicitDefEqProofs only[go_sem,iA,intsL,io,w1];repeat (refine GO ?_;simp -implicitDefEqProofs only[go_sem,iA,intsL,io,w1]));exact k.1):A:=h ⟨k⟩
theorem Ed {A B:Prop} (k:B) (h:Wr B->A:=by intro k;(simp -implicitDefEqProofs only[go_sem,iA,nio,plA,w1];repeat (refine GO ?_;simp -implicitDefEqProofs only[go_sem,iA,nio,plA,w1]));exact k.1):A:=h ⟨k⟩
theorem Ee {A B:Prop} (k:B) (h:Wr B->A:=by intro k;(simp -implicitDefEqProofs only[go_sem,iA,so,w1,w2];repeat (refine GO ?_;simp -implicitDefEqProofs only[go_sem,iA,so,w1,w2]));exact k.1):A:=h ⟨k⟩
theorem Ef {A B:Prop} (k:B) (h:Wr B->A:=by intro k;(simp -implicitDefEqProofs only[go_sem,PN.c,iA,setA];repeat (refine GO ?_;simp -implicitDefEqProofs only[go_sem,PN.c,iA,setA]));exact k.1):A:=h ⟨k⟩
theorem Eh {A B:Prop} (k:B) (h:Wr B->A:=by intro k;(simp -implicitDefEqProofs only[go_sem,iA,rowA,w1];repeat (refine GO ?_;simp -implicitDefEqProofs only[go_sem,iA,rowA,w1]));exact k.1):A:=h ⟨k⟩
theorem Ei {A B:Prop} (k:B) (h:Wr B->A:=by intro k;(simp -implicitDefEqProofs only[go_sem,Pr.c,setA];repeat (refine GO ?_;simp -implicitDefEqProofs only[go_sem,Pr.c,setA]));exact k.1):A:=h ⟨k⟩
theorem Ej {A B:Prop} (k:B) (h:Wr B->A:=by intro k;(simp -implicitDefEqProofs only[go_sem,iA,so,w6];repeat (refine GO ?_;simp -implicitDefEqProofs only[go_sem,iA,so,w6]));exact k.1):A:=h ⟨k⟩
theorem El {A B:Prop} (k:B) (h:Wr B->A:=by intro k;(simp -implicitDefEqProofs only[go_sem,It.c,w1];repeat (refine GO ?_;simp -implicitDefEqProofs only[go_sem,It.c,w1]));exact k.1):A:=h ⟨k⟩
theorem Em {A B:Prop} (k:B) (h:Wr B->A:=by intro k;(simp -implicitDefEqProofs only[go_sem,iA,ro3];repeat (refine GO ?_;simp -implicitDefEqProofs only[go_sem,iA,ro3]));exact k.1):A:=h ⟨k⟩
theorem En {A B:Prop} (k:B) (h:Wr B->A:=by intro k;(simp -implicitDefEqProofs only[go_sem,doO,iA];repeat (refine GO ?_;simp -implicitDefEqProofs only[go_sem,doO,iA]));exact k.1):A:=h ⟨k⟩
theorem Ep {A B:Prop} (k:B) (h:Wr B->A:=by intro k;(simp -implicitDefEqProofs only[go_sem,so,tk];repeat (refine GO ?_;simp -implicitDefEqProofs only[go_sem,so,tk]));exact k.1):A:=h ⟨k⟩
theorem Er {A B:Prop} (k:B) (h:Wr B->A:=by intro k;(simp -implicitDefEqProofs only[go_sem,w0,w1];repeat (refine GO ?_;simp -implicitDefEqProofs only[go_sem,w0,w1]));exact k.1):A:=h ⟨k⟩
theorem Ev {A B:Prop} (k:B) (h:Wr B->A:=by intro k;(simp -implicitDefEqProofs only[go_sem,uA];repeat (refine GO ?_;simp -implicitDefEqProofs only[go_sem,uA]));exact k.1):A:=h ⟨k⟩
theorem Ew {A B:Prop} (k:B) (h:Wr B->A:=by intro k;(simp -implicitDefEqProofs only[go_sem,w4];repeat (refine GO ?_;simp -implicitDefEqProofs only[go_sem,w4]));exact k.1):A:=h ⟨k⟩
theorem Ex {A B:Prop} (k:B) (h:Wr B->A:=by intro k;(simp -implicitDefEqProofs only[go_sem,w6];repeat (refine GO ?_;simp -implicitDefEqProofs only[go_sem,w6]));exact k.1):A:=h ⟨k⟩
theorem Ey {A B:Prop} (k:B) (h:Wr B->A:=by intro k;(simp -implicitDefEqProofs only[go_sem,w5];repeat (refine GO ?_;simp -implicitDefEqProofs only[go_sem,w5]));exact k.1):A:=h ⟨k⟩
theorem Ez {A B:Prop} (k:B) (h:Wr B->A:=by intro k;(simp -implicitDefEqProofs only[go_sem,io];repeat (refine GO ?_;simp -implicitDefEqProofs only[go_sem,io]));exact k.1):A:=h ⟨k⟩
theorem E0 {A B:Prop} (k:B) (h:Wr B->A:=by intro k;(simp -implicitDefEqProofs only[go_sem,List.append_nil,List.replicate_zero,famI,famW];repeat (refine GO ?_;simp -implicitDefEqProofs only[go_sem,List.append_nil,List.replicate_zero,famI,famW]));exact k.1):A:=h ⟨k⟩
theorem E1 {A B:Prop} (k:B) (h:Wr B->A:=by intro k;(simp -implicitDefEqProofs only[go_sem,cO,doO,formsA,iA,plA,setsA,w1,wk_setA];repeat (refine GO ?_;simp -implicitDefEqProofs only[go_sem,cO,doO,formsA,iA,plA,setsA,w1,wk_setA]));exact k.1):A:=h ⟨k⟩
theorem E5 {A B:Prop} (k:B) (h:Wr B->A:=by intro k;(simp -implicitDefEqProofs only[go_sem,It.c,bA,iA,intsL,op4,rowA,setA];repeat (refine GO ?_;simp -implicitDefEqProofs only[go_sem,It.c,bA,iA,intsL,op4,rowA,setA]));exact k.1):A:=h ⟨k⟩
theorem E9 {A B:Prop} (k:B) (h:Wr B->A:=by intro k;(simp -implicitDefEqProofs only[go_sem,e5,f50,f51,f7,gOb,iA,rowA];repeat (refine GO ?_;simp -implicitDefEqProofs only[go_sem,e5,f50,f51,f7,gOb,iA,rowA]));exact k.1):A:=h ⟨k⟩
theorem Fa {A B:Prop} (k:B) (h:Wr B->A:=by intro k;(simp -implicitDefEqProofs only[go_sem,cO,ciO,formsA,iA,plA,setsA];repeat (refine GO ?_;simp -implicitDefEqProofs only[go_sem,cO,ciO,formsA,iA,plA,setsA]));exact k.1):A:=h ⟨k⟩
theorem Fb {A B:Prop} (k:B) (h:Wr B->A:=by intro k;(simp -implicitDefEqProofs only[go_sem,cO,doO,formsA,iA,plA,setsA];repeat (refine GO ?_;simp -implicitDefEqProofs only[go_sem,cO,doO,formsA,iA,plA,setsA]));exact k.1):A:=h ⟨k⟩
theorem Fd {A B:Prop} (k:B) (h:Wr B->A:=by intro k;(repeat ((first|refine VIF.t ?_|refine VIF.f ?_);simp -implicitDefEqProofs only[go_sem,iA,io];repeat (refine GO ?_;simp -implicitDefEqProofs only[go_sem,iA,io])));exact k.1):A:=h ⟨k⟩
theorem Ff {A:Prop} (h:A:=by simp -implicitDefEqProofs only[go_sem,doO]):A:=h
theorem Fg {A B:Prop} (k:B) (h:Wr B->A:=by intro k;(simp -implicitDefEqProofs only[go_sem,V.c,V.nul,V.zero,iA,setA];repeat (refine GO ?_;simp -implicitDefEqProofs only[go_sem,V.c,V.nul,V.zero,iA,setA]));exact k.1):A:=h ⟨k⟩
theorem Fi {A:Prop} (h:A:=by simp -implicitDefEqProofs only[go_sem,hlL,iA,intsL,setA,w1];repeat (refine GO ?_;simp -implicitDefEqProofs only[go_sem,hlL,iA,intsL,setA,w1])):A:=h
theorem Fj {A B:Prop} (k:B) (h:Wr B->A:=by intro k;(simp -implicitDefEqProofs only[go_sem,gFam,gOb,iA,intsL,setA];repeat (refine GO ?_;simp -implicitDefEqProofs only[go_sem,gFam,gOb,iA,intsL,setA]));exact k.1):A:=h ⟨k⟩
theorem Fl {A B:Prop} (k:B) (h:Wr B->A:=by intro k;(simp -implicitDefEqProofs only[go_sem,doO,iA,plA,setsA,w1];repeat (refine GO ?_;simp -implicitDefEqProofs only[go_sem,doO,iA,plA,setsA,w1]));exact k.1):A:=h ⟨k⟩
theorem Fm {A B:Prop} (k:B) (h:Wr B->A:=by intro k;(simp -implicitDefEqProofs only[go_sem,V.c,iA,rowA,setA]);exact k.1):A:=h ⟨k⟩
theorem Fo {A:Prop} (h:A:=by simp -implicitDefEqProofs only[go_sem,iA,intsL,setA,w1];repeat (refine GO ?_;simp -implicitDefEqProofs only[go_sem,iA,intsL,setA,w1])):A:=h
theorem Fp {A B:Prop} (k:B) (h:Wr B->A:=by intro k;(simp -implicitDefEqProofs only[go_sem,f40,f41,f7,iA,rowA];repeat (refine GO ?_;simp -implicitDefEqProofs only[go_sem,f40,f41,f7,iA,rowA]));exact k.1):A:=h ⟨k⟩
theorem Ft {A B:Prop} (k:B) (h:Wr B->A:=by intro k;(simp -implicitDefEqProofs only[go_sem,Gp.c,iA,rowA,setA];repeat (refine GO ?_;simp -implicitDefEqProofs only[go_sem,Gp.c,iA,rowA,setA]));exact k.1):A:=h ⟨k⟩
theorem Fu {A B:Prop} (k:B) (h:Wr B->A:=by intro k;(simp -implicitDefEqProofs only[go_sem,Pr.c,V.c,iA,intsL];repeat (refine GO ?_;simp -implicitDefEqProofs only[go_sem,Pr.c,V.c,iA,intsL]));exact k.1):A:=h ⟨k⟩
theorem Fv {A B:Prop} (k:B) (h:Wr B->A:=by intro k;(simp -implicitDefEqProofs only[go_sem,formsA,iA,ndO,plA];repeat (refine GO ?_;simp -implicitDefEqProofs only[go_sem,formsA,iA,ndO,plA]));exact k.1):A:=h ⟨k⟩
theorem Fy {A B:Prop} (k:B) (h:Wr B->A:=by intro k;(simp -implicitDefEqProofs only[go_sem,hw,iA,pairsA,so];repeat (refine GO ?_;simp -implicitDefEqProofs only[go_sem,hw,iA,pairsA,so]));exact k.1):A:=h ⟨k⟩
theorem F1 {A B:Prop} (k:B) (h:Wr B->A:=by intro k;(simp -implicitDefEqProofs only[go_sem,It.c,w2,w3,w4];repeat (refine GO ?_;simp -implicitDefEqProofs only[go_sem,It.c,w2,w3,w4]));exact k.1):A:=h ⟨k⟩
theorem F2 {A B:Prop} (k:B) (h:Wr B->A:=by intro k;(simp -implicitDefEqProofs only[go_sem,PN.c,iA,ps,w1];repeat (refine GO ?_;simp -implicitDefEqProofs only[go_sem,PN.c,iA,ps,w1]));exact k.1):A:=h ⟨k⟩
theorem F4 {A B:Prop} (k:B) (h:Wr B->A:=by intro k;(simp -implicitDefEqProofs only[go_sem,PN.c,formsA,iA];repeat (refine GO ?_;simp -implicitDefEqProofs only[go_sem,PN.c,formsA,iA]));exact k.1):A:=h ⟨k⟩
theorem F5 {A B:Prop} (k:B) (h:Wr B->A:=by intro k;(simp -implicitDefEqProofs only[go_sem,iA,so,to2,w3];repeat (refine GO ?_;simp -implicitDefEqProofs only[go_sem,iA,so,to2,w3]));exact k.1):A:=h ⟨k⟩
theorem F7 {A B:Prop} (k:B) (h:Wr B->A:=by intro k;(simp -implicitDefEqProofs only[go_sem,Pr.c,iA,intsL];repeat (refine GO ?_;simp -implicitDefEqProofs only[go_sem,Pr.c,iA,intsL]));exact k.1):A:=h ⟨k⟩
theorem Gc {A B:Prop} (k:B) (h:Wr B->A:=by intro k;(simp -implicitDefEqProofs only[go_sem,boolsA,intsL];repeat (refine GO ?_;simp -implicitDefEqProofs only[go_sem,boolsA,intsL]));exact k.1):A:=h ⟨k⟩
theorem Gd {A B:Prop} (k:B) (h:Wr B->A:=by intro k;(simp -implicitDefEqProofs only[go_sem,It.c,f7,iA];repeat (refine GO ?_;simp -implicitDefEqProofs only[go_sem,It.c,f7,iA]));exact k.1):A:=h ⟨k⟩
theorem Ge {A B:Prop} (k:B) (h:Wr B->A:=by intro k;(simp -implicitDefEqProofs only[go_sem,iA,pc,rowA];repeat (refine GO ?_;simp -implicitDefEqProofs only[go_sem,iA,pc,rowA]));exact k.1):A:=h ⟨k⟩
theorem Gf {A B:Prop} (k:B) (h:Wr B->A:=by intro k;(simp -implicitDefEqProofs only[go_sem,It.c,iA,w1];repeat (refine GO ?_;simp -implicitDefEqProofs only[go_sem,It.c,iA,w1]));exact k.1):A:=h ⟨k⟩
theorem Gh {A B:Prop} (k:B) (h:Wr B->A:=by intro k;(simp -implicitDefEqProofs only[go_sem,iA,nio,plA];repeat (refine GO ?_;simp -implicitDefEqProofs only[go_sem,iA,nio,plA]));exact k.1):A:=h ⟨k⟩
theorem Gi {A B:Prop} (k:B) (h:Wr B->A:=by intro k;(simp -implicitDefEqProofs only[go_sem,gsA,iA,so];repeat (refine GO ?_;simp -implicitDefEqProofs only[go_sem,gsA,iA,so]));exact k.1):A:=h ⟨k⟩
theorem Gj {A B:Prop} (k:B) (h:Wr B->A:=by intro k;(simp -implicitDefEqProofs only[go_sem,setA,setsA];repeat (refine GO ?_;simp -implicitDefEqProofs only[go_sem,setA,setsA]));exact k.1):A:=h ⟨k⟩
theorem Gk {A B:Prop} (k:B) (h:Wr B->A:=by intro k;(simp -implicitDefEqProofs only[go_sem,iA,plA,w1];repeat (refine GO ?_;simp -implicitDefEqProofs only[go_sem,iA,plA,w1]));exact k.1):A:=h ⟨k⟩
theorem Gl {A B:Prop} (k:B) (h:Wr B->A:=by intro k;(simp -implicitDefEqProofs only[go_sem,Pr.c,intsL];repeat (refine GO ?_;simp -implicitDefEqProofs only[go_sem,Pr.c,intsL]));exact k.1):A:=h ⟨k⟩
theorem Gm {A B:Prop} (k:B) (h:Wr B->A:=by intro k;(simp -implicitDefEqProofs only[go_sem,bA,pairsA];repeat (refine GO ?_;simp -implicitDefEqProofs only[go_sem,bA,pairsA]));exact k.1):A:=h ⟨k⟩
theorem Gn {A B:Prop} (k:B) (h:Wr B->A:=by intro k;(simp -implicitDefEqProofs only[go_sem,ed,iA,wq];repeat (refine GO ?_;simp -implicitDefEqProofs only[go_sem,ed,iA,wq]));exact k.1):A:=h ⟨k⟩
theorem Gq {A B:Prop} (k:B) (h:Wr B->A:=by intro k;(simp -implicitDefEqProofs only[go_sem,u1,u2,u3];repeat (refine GO ?_;simp -implicitDefEqProofs only[go_sem,u1,u2,u3]));exact k.1):A:=h ⟨k⟩
theorem Gs {A B:Prop} (k:B) (h:Wr B->A:=by intro k;(simp -implicitDefEqProofs only[go_sem,iA,so,v2];repeat (refine GO ?_;simp -implicitDefEqProofs only[go_sem,iA,so,v2]));exact k.1):A:=h ⟨k⟩
theorem Gt {A B:Prop} (k:B) (h:Wr B->A:=by intro k;(simp -implicitDefEqProofs only[go_sem,iA,w1,w2];repeat (refine GO ?_;simp -implicitDefEqProofs only[go_sem,iA,w1,w2]));exact k.1):A:=h ⟨k⟩
theorem Gu {A B:Prop} (k:B) (h:Wr B->A:=by intro k;(simp -implicitDefEqProofs only[go_sem,It.c,so];repeat (refine GO ?_;simp -implicitDefEqProofs only[go_sem,It.c,so]));exact k.1):A:=h ⟨k⟩
theorem Gv {A B:Prop} (k:B) (h:Wr B->A:=by intro k;(simp -implicitDefEqProofs only[go_sem,Gp.c,iA];repeat (refine GO ?_;simp -implicitDefEqProofs only[go_sem,Gp.c,iA]));exact k.1):A:=h ⟨k⟩
theorem Gw {A B:Prop} (k:B) (h:Wr B->A:=by intro k;(simp -implicitDefEqProofs only[go_sem,idxI,w0];repeat (refine GO ?_;simp -implicitDefEqProofs only[go_sem,idxI,w0]));exact k.1):A:=h ⟨k⟩
theorem Gx {A B:Prop} (k:B) (h:Wr B->A:=by intro k;(simp -implicitDefEqProofs only[go_sem,iA,plO];repeat (refine GO ?_;simp -implicitDefEqProofs only[go_sem,iA,plO]));exact k.1):A:=h ⟨k⟩
theorem Gy {A B:Prop} (k:B) (h:Wr B->A:=by intro k;(simp -implicitDefEqProofs only[go_sem,plA,w2];repeat (refine GO ?_;simp -implicitDefEqProofs only[go_sem,plA,w2]));exact k.1):A:=h ⟨k⟩
theorem G6 {A B:Prop} (k:B) (h:Wr B->A:=by intro k;(simp -implicitDefEqProofs only[go_sem,PN.c,iA]);exact k.1):A:=h ⟨k⟩
theorem G7 {A:Prop} (h:A:=by simp -implicitDefEqProofs only[go_sem,gOb];repeat (refine GO ?_;simp -implicitDefEqProofs only[go_sem,gOb])):A:=h
theorem G8 {A B:Prop} (k:B) (h:Wr B->A:=by intro k;(simp -implicitDefEqProofs only[go_sem,e1,e2];repeat (refine GO ?_;simp -implicitDefEqProofs only[go_sem,e1,e2]));exact k.1):A:=h ⟨k⟩
theorem G9 {A B:Prop} (k:B) (h:Wr B->A:=by intro k;(simp -implicitDefEqProofs only[go_sem,hw,w1];repeat (refine GO ?_;simp -implicitDefEqProofs only[go_sem,hw,w1]));exact k.1):A:=h ⟨k⟩
theorem Hb {A B:Prop} (k:B) (h:Wr B->A:=by intro k;(simp -implicitDefEqProofs only[go_sem,w2,w3];repeat (refine GO ?_;simp -implicitDefEqProofs only[go_sem,w2,w3]));exact k.1):A:=h ⟨k⟩
theorem Hc {A B:Prop} (k:B) (h:Wr B->A:=by intro k;(simp -implicitDefEqProofs only[go_sem,w3,w5];repeat (refine GO ?_;simp -implicitDefEqProofs only[go_sem,w3,w5]));exact k.1):A:=h ⟨k⟩
theorem Hd {A B:Prop} (k:B) (h:Wr B->A:=by intro k;(simp -implicitDefEqProofs only[go_sem,e0,iA];repeat (refine GO ?_;simp -implicitDefEqProofs only[go_sem,e0,iA]));exact k.1):A:=h ⟨k⟩
theorem He {A B:Prop} (k:B) (h:Wr B->A:=by intro k;(simp -implicitDefEqProofs only[go_sem,iA,w5];repeat (refine GO ?_;simp -implicitDefEqProofs only[go_sem,iA,w5]));exact k.1):A:=h ⟨k⟩
theorem Hf {A B:Prop} (k:B) (h:Wr B->A:=by intro k;(simp -implicitDefEqProofs only[go_sem,insOf];repeat (refine GO ?_;simp -implicitDefEqProofs only[go_sem,insOf]));exact k.1):A:=h ⟨k⟩
theorem Hg {A B:Prop} (k:B) (h:Wr B->A:=by intro k;(simp -implicitDefEqProofs only[go_sem,V.c,iA]);exact k.1):A:=h ⟨k⟩
theorem Hi {A B:Prop} (k:B) (h:Wr B->A:=by intro k;(simp -implicitDefEqProofs only[go_sem,Gp.c];repeat (refine GO ?_;simp -implicitDefEqProofs only[go_sem,Gp.c]));exact k.1):A:=h ⟨k⟩
theorem Hk {A B:Prop} (k:B) (h:Wr B->A:=by intro k;(simp -implicitDefEqProofs only[go_sem,gOb];repeat (refine GO ?_;simp -implicitDefEqProofs only[go_sem,gOb]));exact k.1):A:=h ⟨k⟩
theorem Hl {A B:Prop} (k:B) (h:Wr B->A:=by intro k;(simp -implicitDefEqProofs only[go_sem,plO];repeat (refine GO ?_;simp -implicitDefEqProofs only[go_sem,plO]));exact k.1):A:=h ⟨k⟩
theorem Hm {A B:Prop} (k:B) (h:Wr B->A:=by intro k;(simp -implicitDefEqProofs only[go_sem,e2];repeat (refine GO ?_;simp -implicitDefEqProofs only[go_sem,e2]));exact k.1):A:=h ⟨k⟩
theorem Hn {A B:Prop} (k:B) (h:Wr B->A:=by intro k;(simp -implicitDefEqProofs only[go_sem,v1];repeat (refine GO ?_;simp -implicitDefEqProofs only[go_sem,v1]));exact k.1):A:=h ⟨k⟩
theorem Hp {A B:Prop} (k:B) (h:Wr B->A:=by intro k;(simp -implicitDefEqProofs only[go_sem,setsA]);exact k.1):A:=h ⟨k⟩
theorem Hr {A B:Prop} (k:B) (h:Wr B->A:=by intro k;(simp -implicitDefEqProofs only[go_sem,so]);exact k.1):A:=h ⟨k⟩
theorem H6 {A B:Prop} (k:B) (h:Wr B->A:=by intro k;(simp -implicitDefEqProofs only[go_sem,formsA,iA,intsL,plA,setA,setsA,w1];repeat (refine GO ?_;simp -implicitDefEqProofs only[go_sem,formsA,iA,intsL,plA,setA,setsA,w1]));exact k.1):A:=h ⟨k⟩
theorem H7 {A B:Prop} (k:B) (h:Wr B->A:=by intro k;(simp -implicitDefEqProofs only[go_sem,formsA,iA,intsL,plA,setsA];repeat (refine GO ?_;simp -implicitDefEqProofs only[go_sem,formsA,iA,intsL,plA,setsA]));exact k.1):A:=h ⟨k⟩
end Yt
namespace Yt
open Go Go.Vc Go.Proofs
def T:Nat->TI
 | 1=>⟨.func,1,8,[.pr .nilFunc]⟩
 | 3=>⟨.int .i64,1,8,[.pr (.int .i64 0)]⟩
 | 4=>⟨.bool,1,1,[.pr (.bool false)]⟩
 | 9=>⟨.str,1,16,[.pr (.string ⟨#[]⟩)]⟩
 | 22=>⟨.slice 51,1,24,[.nl]⟩
 | 23=>⟨.slice 39,1,24,[.nl]⟩
 | 24=>⟨.slice 32,1,24,[.nl]⟩
 | 32=>⟨.slice 59,1,24,[.nl]⟩
 | 33=>⟨.int .i64,1,8,[.pr (.int .i64 0)]⟩
 | 37=>⟨.slice 3,1,24,[.nl]⟩
 | 39=>⟨.struct [(0,1)],1,24,[.nl]⟩
 | 47=>⟨.struct [(0,1),(1,1),(2,1)],3,32,[.pr (.int .i64 0),.pr (.int .i64 0),.pr (.string ⟨#[]⟩)]⟩
 | 49=>⟨.struct [(0,1),(1,1),(2,1),(3,3)],6,56,[.pr (.int .i64 0),.pr (.int .i64 0),.pr (.int .i64 0),.pr (.int .i64 0),.pr (.int .i64 0),.pr (.string ⟨#[]⟩)]⟩
 | 51=>⟨.struct [(0,1),(1,1),(2,1),(3,1),(4,6),(10,1),(11,1),(12,1),(13,1)],14,152,[.pr (.int .i64 0),.pr (.int .i64 0),.pr (.int .i64 0),.pr (.int .i64 0),.pr (.int .i64 0),.pr (.int .i64 0),.pr (.int .i64 0),.pr (.int .i64 0),.pr (.int .i64 0),.pr (.string ⟨#[]⟩),.nl,.nl,.pr (.int .i64 0),.pr (.int .i64 0)]⟩
 | 56=>⟨.int .u64,1,8,[.pr (.int .u64 0)]⟩
 | 57=>⟨.slice 47,1,24,[.nl]⟩
 | 59=>⟨.struct [(0,1),(1,1)],2,32,[.nl,.pr (.int .i64 0)]⟩
 | 69=>⟨.slice 73,1,24,[.nl]⟩
 | 73=>⟨.struct [(0,1),(1,1),(2,1)],3,40,[.nl,.pr (.int .i64 0),.pr (.int .i64 0)]⟩
 | 86=>⟨.slice 93,1,24,[.nl]⟩
 | 88=>⟨.ptr,1,8,[.pr (.pointer none)]⟩
 | 91=>⟨.slice 57,1,24,[.nl]⟩
 | 93=>⟨.struct [(0,1),(1,1),(2,1)],3,56,[.pr (.int .i64 0),.nl,.nl]⟩
 | 112=>⟨.func,1,8,[.pr .nilFunc]⟩
 | 113=>⟨.func,1,8,[.pr .nilFunc]⟩
 | 123=>⟨.slice 127,1,24,[.nl]⟩
 | 127=>⟨.struct [(0,2),(2,2)],4,64,[.nl,.pr (.int .i64 0),.nl,.pr (.int .i64 0)]⟩
 | 132=>⟨.slice 135,1,24,[.nl]⟩
 | 135=>⟨.struct [(0,1),(1,1)],2,48,[.nl,.nl]⟩
 | 142=>⟨.func,1,8,[.pr .nilFunc]⟩
 | 146=>⟨.struct [(0,1),(1,1),(2,1)],3,40,[.nl,.pr (.int .i64 0),.pr (.int .i64 0)]⟩
 | 149=>⟨.func,1,8,[.pr .nilFunc]⟩
 | 163=>⟨.slice 167,1,24,[.nl]⟩
 | 165=>⟨.struct [(0,1),(1,1),(2,1),(3,1),(4,1),(5,3),(8,1)],9,160,[.nl,.nl,.nl,.nl,.nl,.pr (.int .u32 0),.pr (.int .i32 0),.pr (.int .u32 0),.nl]⟩
 | 167=>⟨.slice 4,1,24,[.nl]⟩
 | 171=>⟨.func,1,8,[.pr .nilFunc]⟩
 | 175=>⟨.func,1,8,[.pr .nilFunc]⟩
 | 177=>⟨.struct [(0,1),(1,1)],2,16,[.pr (.int .i64 0),.pr (.int .i64 0)]⟩
 | 183=>⟨.func,1,8,[.pr .nilFunc]⟩
 | 185=>⟨.int .u64,1,8,[.pr (.int .u64 0)]⟩
 | 191=>⟨.func,1,8,[.pr .nilFunc]⟩
 | 197=>⟨.ptr,1,8,[.pr (.pointer none)]⟩
 | 198=>⟨.slice 146,1,24,[.nl]⟩
 | 200=>⟨.struct [(0,1),(1,1)],2,48,[.nl,.nl]⟩
 | 224=>⟨.arr [(0,1),(1,1)] 32,2,48,[.nl,.nl]⟩
 | 225=>⟨.slice 224,1,24,[.nl]⟩
 | 236=>⟨.slice 37,1,24,[.nl]⟩
 | _=>⟨.other,0,0,[]⟩
@[go_sem] theorem T_3:T 3=⟨.int .i64,1,8,[.pr (.int .i64 0)]⟩:=rfl
@[go_sem] theorem T_4:T 4=⟨.bool,1,1,[.pr (.bool false)]⟩:=rfl
@[go_sem] theorem T_9:T 9=⟨.str,1,16,[.pr (.string ⟨#[]⟩)]⟩:=rfl
@[go_sem] theorem T_22:T 22=⟨.slice 51,1,24,[.nl]⟩:=rfl
@[go_sem] theorem T_23:T 23=⟨.slice 39,1,24,[.nl]⟩:=rfl
@[go_sem] theorem T_24:T 24=⟨.slice 32,1,24,[.nl]⟩:=rfl
@[go_sem] theorem T_32:T 32=⟨.slice 59,1,24,[.nl]⟩:=rfl
@[go_sem] theorem T_37:T 37=⟨.slice 3,1,24,[.nl]⟩:=rfl
@[go_sem] theorem T_39:T 39=⟨.struct [(0,1)],1,24,[.nl]⟩:=rfl
@[go_sem] theorem T_47:T 47=⟨.struct [(0,1),(1,1),(2,1)],3,32,[.pr (.int .i64 0),.pr (.int .i64 0),.pr (.string ⟨#[]⟩)]⟩:=rfl
@[go_sem] theorem T_49:T 49=⟨.struct [(0,1),(1,1),(2,1),(3,3)],6,56,[.pr (.int .i64 0),.pr (.int .i64 0),.pr (.int .i64 0),.pr (.int .i64 0),.pr (.int .i64 0),.pr (.string ⟨#[]⟩)]⟩:=rfl
@[go_sem] theorem T_51:T 51=⟨.struct [(0,1),(1,1),(2,1),(3,1),(4,6),(10,1),(11,1),(12,1),(13,1)],14,152,[.pr (.int .i64 0),.pr (.int .i64 0),.pr (.int .i64 0),.pr (.int .i64 0),.pr (.int .i64 0),.pr (.int .i64 0),.pr (.int .i64 0),.pr (.int .i64 0),.pr (.int .i64 0),.pr (.string ⟨#[]⟩),.nl,.nl,.pr (.int .i64 0),.pr (.int .i64 0)]⟩:=rfl
@[go_sem] theorem T_56:T 56=⟨.int .u64,1,8,[.pr (.int .u64 0)]⟩:=rfl
@[go_sem] theorem T_57:T 57=⟨.slice 47,1,24,[.nl]⟩:=rfl
@[go_sem] theorem T_59:T 59=⟨.struct [(0,1),(1,1)],2,32,[.nl,.pr (.int .i64 0)]⟩:=rfl
@[go_sem] theorem T_69:T 69=⟨.slice 73,1,24,[.nl]⟩:=rfl
@[go_sem] theorem T_73:T 73=⟨.struct [(0,1),(1,1),(2,1)],3,40,[.nl,.pr (.int .i64 0),.pr (.int .i64 0)]⟩:=rfl
@[go_sem] theorem T_88:T 88=⟨.ptr,1,8,[.pr (.pointer none)]⟩:=rfl
@[go_sem] theorem T_91:T 91=⟨.slice 57,1,24,[.nl]⟩:=rfl
@[go_sem] theorem T_123:T 123=⟨.slice 127,1,24,[.nl]⟩:=rfl
@[go_sem] theorem T_127:T 127=⟨.struct [(0,2),(2,2)],4,64,[.nl,.pr (.int .i64 0),.nl,.pr (.int .i64 0)]⟩:=rfl
@[go_sem] theorem T_132:T 132=⟨.slice 135,1,24,[.nl]⟩:=rfl
@[go_sem] theorem T_135:T 135=⟨.struct [(0,1),(1,1)],2,48,[.nl,.nl]⟩:=rfl
@[go_sem] theorem T_146:T 146=⟨.struct [(0,1),(1,1),(2,1)],3,40,[.nl,.pr (.int .i64 0),.pr (.int .i64 0)]⟩:=rfl
@[go_sem] theorem T_163:T 163=⟨.slice 167,1,24,[.nl]⟩:=rfl
@[go_sem] theorem T_165:T 165=⟨.struct [(0,1),(1,1),(2,1),(3,1),(4,1),(5,3),(8,1)],9,160,[.nl,.nl,.nl,.nl,.nl,.pr (.int .u32 0),.pr (.int .i32 0),.pr (.int .u32 0),.nl]⟩:=rfl
@[go_sem] theorem T_167:T 167=⟨.slice 4,1,24,[.nl]⟩:=rfl
@[go_sem] theorem T_177:T 177=⟨.struct [(0,1),(1,1)],2,16,[.pr (.int .i64 0),.pr (.int .i64 0)]⟩:=rfl
@[go_sem] theorem T_185:T 185=⟨.int .u64,1,8,[.pr (.int .u64 0)]⟩:=rfl
@[go_sem] theorem T_198:T 198=⟨.slice 146,1,24,[.nl]⟩:=rfl
@[go_sem] theorem T_200:T 200=⟨.struct [(0,1),(1,1)],2,48,[.nl,.nl]⟩:=rfl
@[go_sem] theorem T_224:T 224=⟨.arr [(0,1),(1,1)] 32,2,48,[.nl,.nl]⟩:=rfl
@[go_sem] theorem T_225:T 225=⟨.slice 224,1,24,[.nl]⟩:=rfl
@[go_sem] theorem T_236:T 236=⟨.slice 37,1,24,[.nl]⟩:=rfl
theorem tabOk:TabOk Tryz.prog T where
 mixed:=Tryz.checked.mixed
 few:=of_decide_eq_true (by kernel_rfl)
 kinds:=by
  intro t;unfold T;split
  ·exact ⟨_,_,_,Tryz.underlying1⟩
  ·exact Tryz.underlying3
  ·exact Tryz.underlying4
  ·exact Tryz.underlying9
  ·exact Tryz.underlying22
  ·exact Tryz.underlying23
  ·exact Tryz.underlying24
  ·exact Tryz.underlying32
  ·exact Tryz.underlying33
  ·exact Tryz.underlying37
  ·exact ⟨_,Tryz.underlying39,by kernel_rfl,all_info (by kernel_rfl)⟩
  ·exact ⟨_,Tryz.underlying47,by kernel_rfl,all_info (by kernel_rfl)⟩
  ·exact ⟨_,Tryz.underlying49,by kernel_rfl,all_info (by kernel_rfl)⟩
  ·exact ⟨_,Tryz.underlying51,by kernel_rfl,all_info (by kernel_rfl)⟩
  ·exact Tryz.underlying56
  ·exact Tryz.underlying57
  ·exact ⟨_,Tryz.underlying59,by kernel_rfl,all_info (by kernel_rfl)⟩
  ·exact Tryz.underlying69
  ·exact ⟨_,Tryz.underlying73,by kernel_rfl,all_info (by kernel_rfl)⟩
  ·exact Tryz.underlying86
  ·exact ⟨_,Tryz.underlying88⟩
  ·exact Tryz.underlying91
  ·exact ⟨_,Tryz.underlying93,by kernel_rfl,all_info (by kernel_rfl)⟩
  ·exact ⟨_,_,_,Tryz.underlying112⟩
  ·exact ⟨_,_,_,Tryz.underlying113⟩
  ·exact Tryz.underlying123
  ·exact ⟨_,Tryz.underlying127,by kernel_rfl,all_info (by kernel_rfl)⟩
  ·exact Tryz.underlying132
  ·exact ⟨_,Tryz.underlying135,by kernel_rfl,all_info (by kernel_rfl)⟩
  ·exact ⟨_,_,_,Tryz.underlying142⟩
  ·exact ⟨_,Tryz.underlying146,by kernel_rfl,all_info (by kernel_rfl)⟩
  ·exact ⟨_,_,_,Tryz.underlying149⟩
  ·exact Tryz.underlying163
  ·exact ⟨_,Tryz.underlying165,by kernel_rfl,all_info (by kernel_rfl)⟩
  ·exact Tryz.underlying167
  ·exact ⟨_,_,_,Tryz.underlying171⟩
  ·exact ⟨_,_,_,Tryz.underlying175⟩
  ·exact ⟨_,Tryz.underlying177,by kernel_rfl,all_info (by kernel_rfl)⟩
  ·exact ⟨_,_,_,Tryz.underlying183⟩
  ·exact Tryz.underlying185
  ·exact ⟨_,_,_,Tryz.underlying191⟩
  ·exact ⟨_,Tryz.underlying197⟩
  ·exact Tryz.underlying198
  ·exact ⟨_,Tryz.underlying200,by kernel_rfl,all_info (by kernel_rfl)⟩
  ·exact ⟨_,_,Tryz.underlying224,show Tryz.prog.info? 32=some Tryz.t32 by kernel_rfl,by decide,rfl⟩
  ·exact Tryz.underlying225
  ·exact Tryz.underlying236
  ·trivial
 infos:=by
  intro t ht;unfold T at ht ⊢;split at ht
  ·exact ⟨Tryz.t1,_,mkInfo (show Tryz.prog.info? 1=some Tryz.t1 by kernel_rfl) rfl rfl rfl (by kernel_rfl) rfl (by kernel_rfl) (by decide) (by decide) (by decide)⟩
  ·exact ⟨Tryz.t3,_,mkInfo (show Tryz.prog.info? 3=some Tryz.t3 by kernel_rfl) rfl rfl rfl (by kernel_rfl) rfl (by kernel_rfl) (by decide) (by decide) (by decide)⟩
  ·exact ⟨Tryz.t4,_,mkInfo (show Tryz.prog.info? 4=some Tryz.t4 by kernel_rfl) rfl rfl rfl (by kernel_rfl) rfl (by kernel_rfl) (by decide) (by decide) (by decide)⟩
  ·exact ⟨Tryz.t9,_,mkInfo (show Tryz.prog.info? 9=some Tryz.t9 by kernel_rfl) rfl rfl rfl (by kernel_rfl) rfl (by kernel_rfl) (by decide) (by decide) (by decide)⟩
  ·exact ⟨Tryz.t22,_,mkInfo (show Tryz.prog.info? 22=some Tryz.t22 by kernel_rfl) rfl rfl rfl (by kernel_rfl) rfl (by kernel_rfl) (by decide) (by decide) (by decide)⟩
  ·exact ⟨Tryz.t23,_,mkInfo (show Tryz.prog.info? 23=some Tryz.t23 by kernel_rfl) rfl rfl rfl (by kernel_rfl) rfl (by kernel_rfl) (by decide) (by decide) (by decide)⟩
  ·exact ⟨Tryz.t24,_,mkInfo (show Tryz.prog.info? 24=some Tryz.t24 by kernel_rfl) rfl rfl rfl (by kernel_rfl) rfl (by kernel_rfl) (by decide) (by decide) (by decide)⟩
  ·exact ⟨Tryz.t32,_,mkInfo (show Tryz.prog.info? 32=some Tryz.t32 by kernel_rfl) rfl rfl rfl (by kernel_rfl) rfl (by kernel_rfl) (by decide) (by decide) (by decide)⟩
  ·exact ⟨Tryz.t33,_,mkInfo (show Tryz.prog.info? 33=some Tryz.t33 by kernel_rfl) rfl rfl rfl (by kernel_rfl) rfl (by kernel_rfl) (by decide) (by decide) (by decide)⟩
  ·exact ⟨Tryz.t37,_,mkInfo (show Tryz.prog.info? 37=some Tryz.t37 by kernel_rfl) rfl rfl rfl (by kernel_rfl) rfl (by kernel_rfl) (by decide) (by decide) (by decide)⟩
  ·exact ⟨Tryz.t39,_,mkInfo (show Tryz.prog.info? 39=some Tryz.t39 by kernel_rfl) rfl rfl rfl (by kernel_rfl) rfl (by kernel_rfl) (by decide) (by decide) (by decide)⟩
  ·exact ⟨Tryz.t47,_,mkInfo (show Tryz.prog.info? 47=some Tryz.t47 by kernel_rfl) rfl rfl rfl (by kernel_rfl) rfl (by kernel_rfl) (by decide) (by decide) (by decide)⟩
  ·exact ⟨Tryz.t49,_,mkInfo (show Tryz.prog.info? 49=some Tryz.t49 by kernel_rfl) rfl rfl rfl (by kernel_rfl) rfl (by kernel_rfl) (by decide) (by decide) (by decide)⟩
  ·exact ⟨Tryz.t51,_,mkInfo (show Tryz.prog.info? 51=some Tryz.t51 by kernel_rfl) rfl rfl rfl (by kernel_rfl) rfl (by kernel_rfl) (by decide) (by decide) (by decide)⟩
  ·exact ⟨Tryz.t56,_,mkInfo (show Tryz.prog.info? 56=some Tryz.t56 by kernel_rfl) rfl rfl rfl (by kernel_rfl) rfl (by kernel_rfl) (by decide) (by decide) (by decide)⟩
  ·exact ⟨Tryz.t57,_,mkInfo (show Tryz.prog.info? 57=some Tryz.t57 by kernel_rfl) rfl rfl rfl (by kernel_rfl) rfl (by kernel_rfl) (by decide) (by decide) (by decide)⟩
  ·exact ⟨Tryz.t59,_,mkInfo (show Tryz.prog.info? 59=some Tryz.t59 by kernel_rfl) rfl rfl rfl (by kernel_rfl) rfl (by kernel_rfl) (by decide) (by decide) (by decide)⟩
  ·exact ⟨Tryz.t69,_,mkInfo (show Tryz.prog.info? 69=some Tryz.t69 by kernel_rfl) rfl rfl rfl (by kernel_rfl) rfl (by kernel_rfl) (by decide) (by decide) (by decide)⟩
  ·exact ⟨Tryz.t73,_,mkInfo (show Tryz.prog.info? 73=some Tryz.t73 by kernel_rfl) rfl rfl rfl (by kernel_rfl) rfl (by kernel_rfl) (by decide) (by decide) (by decide)⟩
  ·exact ⟨Tryz.t86,_,mkInfo (show Tryz.prog.info? 86=some Tryz.t86 by kernel_rfl) rfl rfl rfl (by kernel_rfl) rfl (by kernel_rfl) (by decide) (by decide) (by decide)⟩
  ·exact ⟨Tryz.t88,_,mkInfo (show Tryz.prog.info? 88=some Tryz.t88 by kernel_rfl) rfl rfl rfl (by kernel_rfl) rfl (by kernel_rfl) (by decide) (by decide) (by decide)⟩
  ·exact ⟨Tryz.t91,_,mkInfo (show Tryz.prog.info? 91=some Tryz.t91 by kernel_rfl) rfl rfl rfl (by kernel_rfl) rfl (by kernel_rfl) (by decide) (by decide) (by decide)⟩
  ·exact ⟨Tryz.t93,_,mkInfo (show Tryz.prog.info? 93=some Tryz.t93 by kernel_rfl) rfl rfl rfl (by kernel_rfl) rfl (by kernel_rfl) (by decide) (by decide) (by decide)⟩
  ·exact ⟨Tryz.t112,_,mkInfo (show Tryz.prog.info? 112=some Tryz.t112 by kernel_rfl) rfl rfl rfl (by kernel_rfl) rfl (by kernel_rfl) (by decide) (by decide) (by decide)⟩
  ·exact ⟨Tryz.t113,_,mkInfo (show Tryz.prog.info? 113=some Tryz.t113 by kernel_rfl) rfl rfl rfl (by kernel_rfl) rfl (by kernel_rfl) (by decide) (by decide) (by decide)⟩
  ·exact ⟨Tryz.t123,_,mkInfo (show Tryz.prog.info? 123=some Tryz.t123 by kernel_rfl) rfl rfl rfl (by kernel_rfl) rfl (by kernel_rfl) (by decide) (by decide) (by decide)⟩
  ·exact ⟨Tryz.t127,_,mkInfo (show Tryz.prog.info? 127=some Tryz.t127 by kernel_rfl) rfl rfl rfl (by kernel_rfl) rfl (by kernel_rfl) (by decide) (by decide) (by decide)⟩
  ·exact ⟨Tryz.t132,_,mkInfo (show Tryz.prog.info? 132=some Tryz.t132 by kernel_rfl) rfl rfl rfl (by kernel_rfl) rfl (by kernel_rfl) (by decide) (by decide) (by decide)⟩
  ·exact ⟨Tryz.t135,_,mkInfo (show Tryz.prog.info? 135=some Tryz.t135 by kernel_rfl) rfl rfl rfl (by kernel_rfl) rfl (by kernel_rfl) (by decide) (by decide) (by decide)⟩
  ·exact ⟨Tryz.t142,_,mkInfo (show Tryz.prog.info? 142=some Tryz.t142 by kernel_rfl) rfl rfl rfl (by kernel_rfl) rfl (by kernel_rfl) (by decide) (by decide) (by decide)⟩
  ·exact ⟨Tryz.t146,_,mkInfo (show Tryz.prog.info? 146=some Tryz.t146 by kernel_rfl) rfl rfl rfl (by kernel_rfl) rfl (by kernel_rfl) (by decide) (by decide) (by decide)⟩
  ·exact ⟨Tryz.t149,_,mkInfo (show Tryz.prog.info? 149=some Tryz.t149 by kernel_rfl) rfl rfl rfl (by kernel_rfl) rfl (by kernel_rfl) (by decide) (by decide) (by decide)⟩
  ·exact ⟨Tryz.t163,_,mkInfo (show Tryz.prog.info? 163=some Tryz.t163 by kernel_rfl) rfl rfl rfl (by kernel_rfl) rfl (by kernel_rfl) (by decide) (by decide) (by decide)⟩
  ·exact ⟨Tryz.t165,_,mkInfo (show Tryz.prog.info? 165=some Tryz.t165 by kernel_rfl) rfl rfl rfl (by kernel_rfl) rfl (by kernel_rfl) (by decide) (by decide) (by decide)⟩
  ·exact ⟨Tryz.t167,_,mkInfo (show Tryz.prog.info? 167=some Tryz.t167 by kernel_rfl) rfl rfl rfl (by kernel_rfl) rfl (by kernel_rfl) (by decide) (by decide) (by decide)⟩
  ·exact ⟨Tryz.t171,_,mkInfo (show Tryz.prog.info? 171=some Tryz.t171 by kernel_rfl) rfl rfl rfl (by kernel_rfl) rfl (by kernel_rfl) (by decide) (by decide) (by decide)⟩
  ·exact ⟨Tryz.t175,_,mkInfo (show Tryz.prog.info? 175=some Tryz.t175 by kernel_rfl) rfl rfl rfl (by kernel_rfl) rfl (by kernel_rfl) (by decide) (by decide) (by decide)⟩
  ·exact ⟨Tryz.t177,_,mkInfo (show Tryz.prog.info? 177=some Tryz.t177 by kernel_rfl) rfl rfl rfl (by kernel_rfl) rfl (by kernel_rfl) (by decide) (by decide) (by decide)⟩
  ·exact ⟨Tryz.t183,_,mkInfo (show Tryz.prog.info? 183=some Tryz.t183 by kernel_rfl) rfl rfl rfl (by kernel_rfl) rfl (by kernel_rfl) (by decide) (by decide) (by decide)⟩
  ·exact ⟨Tryz.t185,_,mkInfo (show Tryz.prog.info? 185=some Tryz.t185 by kernel_rfl) rfl rfl rfl (by kernel_rfl) rfl (by kernel_rfl) (by decide) (by decide) (by decide)⟩
  ·exact ⟨Tryz.t191,_,mkInfo (show Tryz.prog.info? 191=some Tryz.t191 by kernel_rfl) rfl rfl rfl (by kernel_rfl) rfl (by kernel_rfl) (by decide) (by decide) (by decide)⟩
  ·exact ⟨Tryz.t197,_,mkInfo (show Tryz.prog.info? 197=some Tryz.t197 by kernel_rfl) rfl rfl rfl (by kernel_rfl) rfl (by kernel_rfl) (by decide) (by decide) (by decide)⟩
  ·exact ⟨Tryz.t198,_,mkInfo (show Tryz.prog.info? 198=some Tryz.t198 by kernel_rfl) rfl rfl rfl (by kernel_rfl) rfl (by kernel_rfl) (by decide) (by decide) (by decide)⟩
  ·exact ⟨Tryz.t200,_,mkInfo (show Tryz.prog.info? 200=some Tryz.t200 by kernel_rfl) rfl rfl rfl (by kernel_rfl) rfl (by kernel_rfl) (by decide) (by decide) (by decide)⟩
  ·exact ⟨Tryz.t224,_,mkInfo (show Tryz.prog.info? 224=some Tryz.t224 by kernel_rfl) rfl rfl rfl (by kernel_rfl) rfl (by kernel_rfl) (by decide) (by decide) (by decide)⟩
  ·exact ⟨Tryz.t225,_,mkInfo (show Tryz.prog.info? 225=some Tryz.t225 by kernel_rfl) rfl rfl rfl (by kernel_rfl) rfl (by kernel_rfl) (by decide) (by decide) (by decide)⟩
  ·exact ⟨Tryz.t236,_,mkInfo (show Tryz.prog.info? 236=some Tryz.t236 by kernel_rfl) rfl rfl rfl (by kernel_rfl) rfl (by kernel_rfl) (by decide) (by decide) (by decide)⟩
  ·cases ht
theorem elems:∀t e,(T t).k=.slice e->(T e).k.known=true:=by intro t e h;unfold T at h;split at h<;>cases h<;>rfl
end Yt
namespace Yt
open Go Go.Vc
def ord2:Ords
 | _=>none
def ord19:Ords
 | 6=>some (.lin [Ht 0,Ht 1,Ht 2,Ht 3,Ht 4,Ht 5,Ht 6,Hu 7,Ht 8,Ht 9,Ht 10,Ht 11,Ht 12,Ht 13,Ht 14,Ht 15,Hu 16,Ht 17,Ht 18,Ht 19,Ht 20,Ht 21,Ht 22,Ht 23,Ht 24,Ht 25])
 | _=>none
@[go_sem] theorem ord19_0:ord19 0=none:=rfl
@[go_sem] theorem ord19_1:ord19 1=none:=rfl
@[go_sem] theorem ord19_2:ord19 2=none:=rfl
@[go_sem] theorem ord19_3:ord19 3=none:=rfl
@[go_sem] theorem ord19_4:ord19 4=none:=rfl
attribute [go_sem] ord19.eq_1
@[go_sem] theorem ord19_7:ord19 7=none:=rfl
@[go_sem] theorem ord19_5:ord19 5=none:=rfl
@[go_sem] theorem ord19_8:ord19 8=none:=rfl
def ord20:Ords
 | _=>none
@[go_sem] theorem ord20_0:ord20 0=none:=rfl
@[go_sem] theorem ord20_1:ord20 1=none:=rfl
@[go_sem] theorem ord20_2:ord20 2=none:=rfl
@[go_sem] theorem ord20_3:ord20 3=none:=rfl
@[go_sem] theorem ord20_4:ord20 4=none:=rfl
@[go_sem] theorem ord20_6:ord20 6=none:=rfl
@[go_sem] theorem ord20_7:ord20 7=none:=rfl
@[go_sem] theorem ord20_5:ord20 5=none:=rfl
@[go_sem] theorem ord20_8:ord20 8=none:=rfl
def ord21:Ords
 | 1=>some (.lin [Ht 0,Ht 1,Ht 2,Hu 3,Ht 4,Ht 5,Ht 6])
 | _=>none
@[go_sem] theorem ord21_0:ord21 0=none:=rfl
attribute [go_sem] ord21.eq_1
@[go_sem] theorem ord21_2:ord21 2=none:=rfl
@[go_sem] theorem ord21_3:ord21 3=none:=rfl
@[go_sem] theorem ord21_4:ord21 4=none:=rfl
@[go_sem] theorem ord21_6:ord21 6=none:=rfl
@[go_sem] theorem ord21_7:ord21 7=none:=rfl
@[go_sem] theorem ord21_5:ord21 5=none:=rfl
@[go_sem] theorem ord21_8:ord21 8=none:=rfl
def ord22:Ords
 | 6=>some (.lin [Ht 0,Ht 1,Ht 2,Ht 3,Ht 4,Ht 5,Hu 6,Ht 7,Ht 8,Ht 9,Ht 10,Ht 11,Ht 12,Ht 13,Ht 14,Ht 15])
 | 8=>some (.lin [Ht 0,Ht 1,Ht 2,Ht 3,Ht 4,Ht 5,Hu 6,Ht 7,Ht 8,Ht 9,Ht 10,Ht 11,Ht 12,Ht 13,Ht 14,Ht 15])
 | _=>none
@[go_sem] theorem ord22_0:ord22 0=none:=rfl
@[go_sem] theorem ord22_1:ord22 1=none:=rfl
@[go_sem] theorem ord22_2:ord22 2=none:=rfl
@[go_sem] theorem ord22_3:ord22 3=none:=rfl
@[go_sem] theorem ord22_5:ord22 5=none:=rfl
attribute [go_sem] ord22.eq_1
@[go_sem] theorem ord22_7:ord22 7=none:=rfl
attribute [go_sem] ord22.eq_2
@[go_sem] theorem ord22_9:ord22 9=none:=rfl
@[go_sem] theorem ord22_10:ord22 10=none:=rfl
@[go_sem] theorem ord22_11:ord22 11=none:=rfl
@[go_sem] theorem ord22_12:ord22 12=none:=rfl
@[go_sem] theorem ord22_13:ord22 13=none:=rfl
@[go_sem] theorem ord22_14:ord22 14=none:=rfl
@[go_sem] theorem ord22_15:ord22 15=none:=rfl
@[go_sem] theorem ord22_16:ord22 16=none:=rfl
@[go_sem] theorem ord22_17:ord22 17=none:=rfl
@[go_sem] theorem ord22_18:ord22 18=none:=rfl
@[go_sem] theorem ord22_19:ord22 19=none:=rfl
@[go_sem] theorem ord22_20:ord22 20=none:=rfl
@[go_sem] theorem ord22_4:ord22 4=none:=rfl
@[go_sem] theorem ord22_21:ord22 21=none:=rfl
def ord26:Ords
 | _=>none
@[go_sem] theorem ord26_0:ord26 0=none:=rfl
@[go_sem] theorem ord26_1:ord26 1=none:=rfl
@[go_sem] theorem ord26_2:ord26 2=none:=rfl
@[go_sem] theorem ord26_3:ord26 3=none:=rfl
@[go_sem] theorem ord26_4:ord26 4=none:=rfl
@[go_sem] theorem ord26_5:ord26 5=none:=rfl
@[go_sem] theorem ord26_6:ord26 6=none:=rfl
@[go_sem] theorem ord26_7:ord26 7=none:=rfl
@[go_sem] theorem ord26_8:ord26 8=none:=rfl
@[go_sem] theorem ord26_9:ord26 9=none:=rfl
@[go_sem] theorem ord26_10:ord26 10=none:=rfl
@[go_sem] theorem ord26_11:ord26 11=none:=rfl
@[go_sem] theorem ord26_12:ord26 12=none:=rfl
@[go_sem] theorem ord26_13:ord26 13=none:=rfl
@[go_sem] theorem ord26_14:ord26 14=none:=rfl
@[go_sem] theorem ord26_15:ord26 15=none:=rfl
@[go_sem] theorem ord26_16:ord26 16=none:=rfl
@[go_sem] theorem ord26_17:ord26 17=none:=rfl
@[go_sem] theorem ord26_18:ord26 18=none:=rfl
@[go_sem] theorem ord26_20:ord26 20=none:=rfl
@[go_sem] theorem ord26_21:ord26 21=none:=rfl
@[go_sem] theorem ord26_22:ord26 22=none:=rfl
def ord27:Ords
 | 5=>some (.lin [Ht 0,Ht 1,Ht 2,Hu 3,Ht 4,Ht 5,Ht 6,Ht 7,Hu 8,Ht 9,Ht 10,Ht 11,Ht 12])
 | _=>none
@[go_sem] theorem ord27_0:ord27 0=none:=rfl
@[go_sem] theorem ord27_1:ord27 1=none:=rfl
@[go_sem] theorem ord27_2:ord27 2=none:=rfl
@[go_sem] theorem ord27_3:ord27 3=none:=rfl
@[go_sem] theorem ord27_4:ord27 4=none:=rfl
attribute [go_sem] ord27.eq_1
@[go_sem] theorem ord27_6:ord27 6=none:=rfl
@[go_sem] theorem ord27_7:ord27 7=none:=rfl
def ord28:Ords
 | 4=>some (.lin [Ht 0,Ht 1,Ht 2,Hu 3,Ht 4,Ht 5,Ht 6,Ht 7])
 | 10=>some (.lin [Ht 0,Ht 1,Ht 2,Ht 3,Ht 4,Ht 5,Hu 6,Ht 7,Ht 8,Ht 9,Ht 10,Ht 11,Ht 12,Ht 13,Ht 14,Ht 15,Hu 16,Ht 17,Ht 18,Ht 19,Ht 20,Ht 21,Ht 22,Ht 23,Ht 24,Ht 25,Ht 26])
 | _=>none
@[go_sem] theorem ord28_0:ord28 0=none:=rfl
@[go_sem] theorem ord28_1:ord28 1=none:=rfl
@[go_sem] theorem ord28_2:ord28 2=none:=rfl
@[go_sem] theorem ord28_3:ord28 3=none:=rfl
attribute [go_sem] ord28.eq_1
@[go_sem] theorem ord28_5:ord28 5=none:=rfl
@[go_sem] theorem ord28_6:ord28 6=none:=rfl
@[go_sem] theorem ord28_7:ord28 7=none:=rfl
@[go_sem] theorem ord28_8:ord28 8=none:=rfl
attribute [go_sem] ord28.eq_2
@[go_sem] theorem ord28_11:ord28 11=none:=rfl
@[go_sem] theorem ord28_12:ord28 12=none:=rfl
@[go_sem] theorem ord28_13:ord28 13=none:=rfl
@[go_sem] theorem ord28_15:ord28 15=none:=rfl
@[go_sem] theorem ord28_16:ord28 16=none:=rfl
@[go_sem] theorem ord28_14:ord28 14=none:=rfl
@[go_sem] theorem ord28_9:ord28 9=none:=rfl
@[go_sem] theorem ord28_17:ord28 17=none:=rfl
def ord29:Ords
 | 9=>some (.lin [Hs 0,Hs 1,Hs 2,Hs 3,Hs 4,Hs 5,Hs 6,Hs 7,Ht 8,Hs 9])
 | _=>none
attribute [go_sem] ord29.eq_1
def ord30:Ords
 | 6=>some (.lin [Hs 0,Hs 1,Hs 2,Hs 3,Hs 4,Hs 5,Hs 6,Hs 7,Hs 8,Hs 9,Hs 10,Hy 11,Hs 12,Hs 13,Hs 14,Hs 15,Hs 16,Hs 17,Hs 18,Hs 19,Hs 20,Hs 21,Ht 22,Hs 23,Hs 24])
 | _=>none
@[go_sem] theorem ord30_0:ord30 0=none:=rfl
@[go_sem] theorem ord30_1:ord30 1=none:=rfl
@[go_sem] theorem ord30_2:ord30 2=none:=rfl
@[go_sem] theorem ord30_3:ord30 3=none:=rfl
@[go_sem] theorem ord30_4:ord30 4=none:=rfl
attribute [go_sem] ord30.eq_1
@[go_sem] theorem ord30_7:ord30 7=none:=rfl
@[go_sem] theorem ord30_5:ord30 5=none:=rfl
@[go_sem] theorem ord30_8:ord30 8=none:=rfl
def ord34:Ords
 | 4=>some (.lin [Ht 0,Ht 1,Hu 2,Ht 3,Ht 4,Ht 5,Ht 6,Hu 7,Ht 8,Ht 9,Ht 10,Ht 11,Ht 12,Ht 13,Ht 14,Ht 15])
 | _=>none
attribute [go_sem] ord34.eq_1
def ord35:Ords
 | 2=>some (.lin [Ht 0,Ht 1,Hu 2,Ht 3,Ht 4,Ht 5,Ht 6,Ht 7,Ht 8])
 | 7=>some (.lin [Hs 0,Hs 1,Hs 2,Hs 3,Hs 4,Hs 5,Hs 6,Hs 7,Ht 8,Hs 9])
 | _=>none
@[go_sem] theorem ord35_0:ord35 0=none:=rfl
@[go_sem] theorem ord35_1:ord35 1=none:=rfl
attribute [go_sem] ord35.eq_1
@[go_sem] theorem ord35_3:ord35 3=none:=rfl
@[go_sem] theorem ord35_4:ord35 4=none:=rfl
@[go_sem] theorem ord35_5:ord35 5=none:=rfl
attribute [go_sem] ord35.eq_2
@[go_sem] theorem ord35_8:ord35 8=none:=rfl
@[go_sem] theorem ord35_6:ord35 6=none:=rfl
@[go_sem] theorem ord35_9:ord35 9=none:=rfl
def ord36:Ords
 | 1=>some (.lin [Ht 0,Ht 1,Ht 2,Hu 3,Ht 4,Ht 5,Ht 6,Ht 7])
 | _=>none
@[go_sem] theorem ord36_0:ord36 0=none:=rfl
attribute [go_sem] ord36.eq_1
@[go_sem] theorem ord36_2:ord36 2=none:=rfl
@[go_sem] theorem ord36_3:ord36 3=none:=rfl
def ord37:Ords
 | _=>none
@[go_sem] theorem ord37_0:ord37 0=none:=rfl
@[go_sem] theorem ord37_1:ord37 1=none:=rfl
@[go_sem] theorem ord37_2:ord37 2=none:=rfl
@[go_sem] theorem ord37_4:ord37 4=none:=rfl
@[go_sem] theorem ord37_5:ord37 5=none:=rfl
@[go_sem] theorem ord37_6:ord37 6=none:=rfl
@[go_sem] theorem ord37_7:ord37 7=none:=rfl
@[go_sem] theorem ord37_9:ord37 9=none:=rfl
@[go_sem] theorem ord37_10:ord37 10=none:=rfl
@[go_sem] theorem ord37_8:ord37 8=none:=rfl
@[go_sem] theorem ord37_3:ord37 3=none:=rfl
@[go_sem] theorem ord37_11:ord37 11=none:=rfl
def ord39:Ords
 | _=>none
@[go_sem] theorem ord39_0:ord39 0=none:=rfl
@[go_sem] theorem ord39_1:ord39 1=none:=rfl
@[go_sem] theorem ord39_2:ord39 2=none:=rfl
@[go_sem] theorem ord39_3:ord39 3=none:=rfl
@[go_sem] theorem ord39_4:ord39 4=none:=rfl
@[go_sem] theorem ord39_6:ord39 6=none:=rfl
@[go_sem] theorem ord39_7:ord39 7=none:=rfl
@[go_sem] theorem ord39_5:ord39 5=none:=rfl
@[go_sem] theorem ord39_8:ord39 8=none:=rfl
def ord40:Ords
 | _=>none
@[go_sem] theorem ord40_0:ord40 0=none:=rfl
@[go_sem] theorem ord40_1:ord40 1=none:=rfl
@[go_sem] theorem ord40_2:ord40 2=none:=rfl
@[go_sem] theorem ord40_3:ord40 3=none:=rfl
@[go_sem] theorem ord40_4:ord40 4=none:=rfl
@[go_sem] theorem ord40_5:ord40 5=none:=rfl
def ord41:Ords
 | _=>none
@[go_sem] theorem ord41_0:ord41 0=none:=rfl
@[go_sem] theorem ord41_1:ord41 1=none:=rfl
@[go_sem] theorem ord41_2:ord41 2=none:=rfl
@[go_sem] theorem ord41_3:ord41 3=none:=rfl
@[go_sem] theorem ord41_4:ord41 4=none:=rfl
@[go_sem] theorem ord41_5:ord41 5=none:=rfl
@[go_sem] theorem ord41_6:ord41 6=none:=rfl
@[go_sem] theorem ord41_7:ord41 7=none:=rfl
@[go_sem] theorem ord41_8:ord41 8=none:=rfl
@[go_sem] theorem ord41_9:ord41 9=none:=rfl
@[go_sem] theorem ord41_10:ord41 10=none:=rfl
@[go_sem] theorem ord41_11:ord41 11=none:=rfl
@[go_sem] theorem ord41_12:ord41 12=none:=rfl
@[go_sem] theorem ord41_13:ord41 13=none:=rfl
def ord42:Ords
 | 1=>some (.lin [Ht 0,Ht 1,Ht 2,Hu 3,Ht 4,Ht 5,Ht 6,Ht 7])
 | _=>none
@[go_sem] theorem ord42_0:ord42 0=none:=rfl
attribute [go_sem] ord42.eq_1
@[go_sem] theorem ord42_2:ord42 2=none:=rfl
@[go_sem] theorem ord42_3:ord42 3=none:=rfl
@[go_sem] theorem ord42_4:ord42 4=none:=rfl
@[go_sem] theorem ord42_5:ord42 5=none:=rfl
@[go_sem] theorem ord42_6:ord42 6=none:=rfl
@[go_sem] theorem ord42_7:ord42 7=none:=rfl
@[go_sem] theorem ord42_8:ord42 8=none:=rfl
@[go_sem] theorem ord42_9:ord42 9=none:=rfl
@[go_sem] theorem ord42_10:ord42 10=none:=rfl
@[go_sem] theorem ord42_11:ord42 11=none:=rfl
@[go_sem] theorem ord42_12:ord42 12=none:=rfl
@[go_sem] theorem ord42_13:ord42 13=none:=rfl
@[go_sem] theorem ord42_14:ord42 14=none:=rfl
@[go_sem] theorem ord42_15:ord42 15=none:=rfl
@[go_sem] theorem ord42_16:ord42 16=none:=rfl
@[go_sem] theorem ord42_17:ord42 17=none:=rfl
def ord43:Ords
 | _=>none
@[go_sem] theorem ord43_0:ord43 0=none:=rfl
@[go_sem] theorem ord43_1:ord43 1=none:=rfl
def ord44:Ords
 | _=>none
@[go_sem] theorem ord44_0:ord44 0=none:=rfl
@[go_sem] theorem ord44_1:ord44 1=none:=rfl
@[go_sem] theorem ord44_2:ord44 2=none:=rfl
@[go_sem] theorem ord44_3:ord44 3=none:=rfl
@[go_sem] theorem ord44_4:ord44 4=none:=rfl
@[go_sem] theorem ord44_5:ord44 5=none:=rfl
@[go_sem] theorem ord44_6:ord44 6=none:=rfl
@[go_sem] theorem ord44_7:ord44 7=none:=rfl
def ord45:Ords
 | _=>none
@[go_sem] theorem ord45_0:ord45 0=none:=rfl
@[go_sem] theorem ord45_1:ord45 1=none:=rfl
@[go_sem] theorem ord45_2:ord45 2=none:=rfl
@[go_sem] theorem ord45_3:ord45 3=none:=rfl
@[go_sem] theorem ord45_4:ord45 4=none:=rfl
@[go_sem] theorem ord45_5:ord45 5=none:=rfl
@[go_sem] theorem ord45_6:ord45 6=none:=rfl
@[go_sem] theorem ord45_7:ord45 7=none:=rfl
@[go_sem] theorem ord45_8:ord45 8=none:=rfl
@[go_sem] theorem ord45_9:ord45 9=none:=rfl
@[go_sem] theorem ord45_10:ord45 10=none:=rfl
def ord46:Ords
 | 9=>some (.lin [Ht 0,Ht 1,Hu 2,Ht 3,Ht 4,Ht 5])
 | 13=>some (.fork [Hs 0,Hs 1,Hx 2,Hx 4] 3 (.lin [Ht 5,Ht 6,Hs 7,Ht 8,Ht 9,Hs 10]) 5 (.lin [Ht 3,Ht 6,Hs 7,Ht 8,Ht 9,Hs 10]))
 | _=>none
@[go_sem] theorem ord46_0:ord46 0=none:=rfl
@[go_sem] theorem ord46_1:ord46 1=none:=rfl
@[go_sem] theorem ord46_2:ord46 2=none:=rfl
@[go_sem] theorem ord46_3:ord46 3=none:=rfl
@[go_sem] theorem ord46_4:ord46 4=none:=rfl
@[go_sem] theorem ord46_5:ord46 5=none:=rfl
@[go_sem] theorem ord46_6:ord46 6=none:=rfl
@[go_sem] theorem ord46_7:ord46 7=none:=rfl
@[go_sem] theorem ord46_8:ord46 8=none:=rfl
attribute [go_sem] ord46.eq_1
@[go_sem] theorem ord46_10:ord46 10=none:=rfl
@[go_sem] theorem ord46_11:ord46 11=none:=rfl
@[go_sem] theorem ord46_12:ord46 12=none:=rfl
attribute [go_sem] ord46.eq_2
@[go_sem] theorem ord46_14:ord46 14=none:=rfl
@[go_sem] theorem ord46_15:ord46 15=none:=rfl
def ord48:Ords
 | 1=>some (.lin [Ht 0,Ht 1,Ht 2,Hu 3,Ht 4,Ht 5,Ht 6,Ht 7,Ht 8])
 | 2=>some (.lin [Ht 0,Ht 1,Ht 2,Hu 3,Ht 4,Ht 5,Ht 6,Ht 7,Ht 8])
 | 3=>some (.lin [Ht 0,Ht 1,Ht 2,Ht 3,Hu 4,Ht 5,Ht 6,Ht 7,Ht 8,Ht 9,Ht 10,Ht 11,Ht 12,Hu 13,Ht 14,Hu 15,Ht 16,Ht 17,Ht 18,Ht 19,Ht 20,Ht 21,Ht 22,Ht 23,Ht 24,Hu 25,Ht 26,Hu 27,Ht 28,Ht 29,Ht 30,Ht 31,Ht 32,Ht 33])
 | 5=>some (.lin [Hs 0,Hy 1,Hs 2,Hs 3,Hs 4,Hs 5,Hs 6,Hs 7,Hs 8,Ht 9,Hs 10,Hs 11,Hy 12,Hs 13,Hy 14,Hs 15,Hs 16,Hs 17,Hs 18,Hs 19,Hs 20,Hs 21,Hs 22,Hs 23,Hs 24,Hs 25,Hs 26,Hs 27])
 | _=>none
@[go_sem] theorem ord48_0:ord48 0=none:=rfl
attribute [go_sem] ord48.eq_1
attribute [go_sem] ord48.eq_2
attribute [go_sem] ord48.eq_3
@[go_sem] theorem ord48_4:ord48 4=none:=rfl
attribute [go_sem] ord48.eq_4
@[go_sem] theorem ord48_6:ord48 6=none:=rfl
@[go_sem] theorem ord48_7:ord48 7=none:=rfl
def ord51:Ords
 | 1=>some (.lin [Ht 0,Ht 1,Ht 2,Ht 3,Ht 4,Hu 5,Ht 6,Ht 7,Ht 8,Ht 9,Ht 10,Ht 11,Hu 12,Ht 13,Ht 14,Ht 15,Ht 16,Ht 17,Ht 18,Ht 19])
 | _=>none
@[go_sem] theorem ord51_0:ord51 0=none:=rfl
attribute [go_sem] ord51.eq_1
def ord52:Ords
 | _=>none
@[go_sem] theorem ord52_0:ord52 0=none:=rfl
@[go_sem] theorem ord52_1:ord52 1=none:=rfl
@[go_sem] theorem ord52_2:ord52 2=none:=rfl
def ord53:Ords
 | 2=>some (.lin [Hs 0,Hs 1,Hs 2,Hs 3,Hs 4,Hs 5,Hs 6,Hs 7])
 | _=>none
attribute [go_sem] ord53.eq_1
def ord54:Ords
 | 4=>some (.lin [Hs 0,Hs 1,Ht 2,Hs 3,Hy 4,Hs 5,Hs 6,Hs 7,Hs 8,Hy 9,Hs 10,Hs 11,Ht 12,Hs 13,Hs 14,Hy 15,Hs 16,Hs 17,Hy 18,Hs 19,Hs 20,Hs 21,Hs 22,Hs 23,Hs 24,Hs 25,Hs 26,Ht 27,Hs 28,Hs 29,Hs 30])
 | _=>none
@[go_sem] theorem ord54_0:ord54 0=none:=rfl
@[go_sem] theorem ord54_1:ord54 1=none:=rfl
@[go_sem] theorem ord54_2:ord54 2=none:=rfl
@[go_sem] theorem ord54_3:ord54 3=none:=rfl
attribute [go_sem] ord54.eq_1
@[go_sem] theorem ord54_5:ord54 5=none:=rfl
@[go_sem] theorem ord54_6:ord54 6=none:=rfl
@[go_sem] theorem ord54_7:ord54 7=none:=rfl
def ord55:Ords
 | _=>none
@[go_sem] theorem ord55_0:ord55 0=none:=rfl
@[go_sem] theorem ord55_1:ord55 1=none:=rfl
def ord62:Ords
 | _=>none
@[go_sem] theorem ord62_0:ord62 0=none:=rfl
@[go_sem] theorem ord62_1:ord62 1=none:=rfl
@[go_sem] theorem ord62_2:ord62 2=none:=rfl
@[go_sem] theorem ord62_3:ord62 3=none:=rfl
@[go_sem] theorem ord62_4:ord62 4=none:=rfl
@[go_sem] theorem ord62_5:ord62 5=none:=rfl
@[go_sem] theorem ord62_6:ord62 6=none:=rfl
@[go_sem] theorem ord62_7:ord62 7=none:=rfl
@[go_sem] theorem ord62_8:ord62 8=none:=rfl
@[go_sem] theorem ord62_9:ord62 9=none:=rfl
@[go_sem] theorem ord62_10:ord62 10=none:=rfl
def ord64:Ords
 | 6=>some (.lin [Hs 0,Hs 1,Hs 2,Hs 3,Hs 4,Hs 5,Hs 6,Hs 7,Hs 8])
 | _=>none
@[go_sem] theorem ord64_0:ord64 0=none:=rfl
@[go_sem] theorem ord64_1:ord64 1=none:=rfl
@[go_sem] theorem ord64_2:ord64 2=none:=rfl
@[go_sem] theorem ord64_3:ord64 3=none:=rfl
@[go_sem] theorem ord64_4:ord64 4=none:=rfl
attribute [go_sem] ord64.eq_1
@[go_sem] theorem ord64_7:ord64 7=none:=rfl
@[go_sem] theorem ord64_5:ord64 5=none:=rfl
@[go_sem] theorem ord64_8:ord64 8=none:=rfl
def ord66:Ords
 | 4=>some (.lin [Hs 0,Hs 1,Hs 2,Hs 3,Hs 4,Ht 5,Hs 6,Hy 7,Hs 8,Hs 9,Hs 10,Hs 11,Hs 12,Hs 13,Hs 14,Hy 15,Hs 16,Hs 17,Hs 18,Hs 19,Hs 20,Ht 21,Hs 22,Hs 23,Hy 24,Hs 25,Hs 26,Hy 27,Hs 28,Hs 29,Hs 30,Hs 31,Hs 32,Hs 33,Hs 34,Hs 35,Hs 36,Hs 37,Hs 38,Ht 39,Hs 40,Hs 41,Hs 42])
 | _=>none
@[go_sem] theorem ord66_0:ord66 0=none:=rfl
@[go_sem] theorem ord66_1:ord66 1=none:=rfl
@[go_sem] theorem ord66_2:ord66 2=none:=rfl
attribute [go_sem] ord66.eq_1
@[go_sem] theorem ord66_5:ord66 5=none:=rfl
@[go_sem] theorem ord66_3:ord66 3=none:=rfl
@[go_sem] theorem ord66_6:ord66 6=none:=rfl
def ord70:Ords
 | _=>none
@[go_sem] theorem ord70_0:ord70 0=none:=rfl
@[go_sem] theorem ord70_1:ord70 1=none:=rfl
@[go_sem] theorem ord70_2:ord70 2=none:=rfl
@[go_sem] theorem ord70_4:ord70 4=none:=rfl
@[go_sem] theorem ord70_5:ord70 5=none:=rfl
@[go_sem] theorem ord70_3:ord70 3=none:=rfl
@[go_sem] theorem ord70_6:ord70 6=none:=rfl
def ord71:Ords
 | _=>none
@[go_sem] theorem ord71_0:ord71 0=none:=rfl
@[go_sem] theorem ord71_1:ord71 1=none:=rfl
@[go_sem] theorem ord71_2:ord71 2=none:=rfl
def ord72:Ords
 | 5=>some (.lin [Hs 0,Hs 1,Hs 2,Hs 3,Hs 4,Hs 5,Hs 6,Ht 7,Hs 8,Hs 9,Hs 10,Hs 11])
 | 7=>some (.lin [Hs 0,Hs 1,Hs 2,Hs 3,Hs 4,Hs 5,Hs 6,Ht 7,Hs 8,Hs 9,Hs 10,Hs 11])
 | 9=>some (.lin [Hs 0,Hs 1,Hs 2,Hs 3,Hs 4,Hs 5,Hs 6,Hs 7,Hs 8,Hs 9,Hs 10,Hs 11,Hs 12,Hs 13,Ht 14,Hs 15,Hs 16,Hs 17,Hs 18])
 | 11=>some (.lin [Hs 0,Hs 1,Hs 2,Hs 3,Hs 4,Hs 5,Hs 6,Hs 7,Hs 8,Hs 9,Ht 10,Hs 11,Hs 12,Hs 13,Hs 14])
 | 13=>some (.lin [Hs 0,Hs 1,Hs 2,Hs 3,Hs 4,Hs 5,Hs 6,Hs 7,Hs 8,Hs 9,Ht 10,Hs 11,Hs 12,Hs 13,Hs 14])
 | 16=>some (.lin [Hs 0,Hs 1,Hs 2,Hs 3,Hs 4,Hs 5,Hs 6,Hs 7,Hs 8,Hs 9,Hs 10,Ht 11,Hs 12,Hs 13,Hs 14,Hs 15])
 | _=>none
@[go_sem] theorem ord72_0:ord72 0=none:=rfl
@[go_sem] theorem ord72_1:ord72 1=none:=rfl
@[go_sem] theorem ord72_2:ord72 2=none:=rfl
@[go_sem] theorem ord72_3:ord72 3=none:=rfl
@[go_sem] theorem ord72_4:ord72 4=none:=rfl
attribute [go_sem] ord72.eq_1
@[go_sem] theorem ord72_6:ord72 6=none:=rfl
attribute [go_sem] ord72.eq_2
@[go_sem] theorem ord72_8:ord72 8=none:=rfl
attribute [go_sem] ord72.eq_3
@[go_sem] theorem ord72_10:ord72 10=none:=rfl
attribute [go_sem] ord72.eq_4
@[go_sem] theorem ord72_12:ord72 12=none:=rfl
attribute [go_sem] ord72.eq_5
@[go_sem] theorem ord72_14:ord72 14=none:=rfl
@[go_sem] theorem ord72_15:ord72 15=none:=rfl
attribute [go_sem] ord72.eq_6
def ord73:Ords
 | 1=>some (.lin [Ht 0,Ht 1,Ht 2,Hu 3,Ht 4,Ht 5,Ht 6,Ht 7])
 | _=>none
@[go_sem] theorem ord73_0:ord73 0=none:=rfl
attribute [go_sem] ord73.eq_1
@[go_sem] theorem ord73_2:ord73 2=none:=rfl
@[go_sem] theorem ord73_3:ord73 3=none:=rfl
@[go_sem] theorem ord73_4:ord73 4=none:=rfl
@[go_sem] theorem ord73_5:ord73 5=none:=rfl
@[go_sem] theorem ord73_6:ord73 6=none:=rfl
@[go_sem] theorem ord73_7:ord73 7=none:=rfl
@[go_sem] theorem ord73_8:ord73 8=none:=rfl
@[go_sem] theorem ord73_9:ord73 9=none:=rfl
@[go_sem] theorem ord73_10:ord73 10=none:=rfl
@[go_sem] theorem ord73_11:ord73 11=none:=rfl
def ord74:Ords
 | _=>none
@[go_sem] theorem ord74_0:ord74 0=none:=rfl
@[go_sem] theorem ord74_1:ord74 1=none:=rfl
def ord75:Ords
 | _=>none
@[go_sem] theorem ord75_0:ord75 0=none:=rfl
@[go_sem] theorem ord75_1:ord75 1=none:=rfl
def ord76:Ords
 | 1=>some (.lin [Ht 0,Ht 1,Ht 2,Hu 3,Ht 4,Ht 5,Ht 6,Ht 7,Ht 8,Ht 9,Hu 10,Ht 11,Ht 12,Ht 13,Ht 14,Ht 15,Ht 16,Ht 17,Hu 18,Ht 19,Ht 20,Ht 21,Ht 22,Ht 23])
 | _=>none
@[go_sem] theorem ord76_0:ord76 0=none:=rfl
attribute [go_sem] ord76.eq_1
def ord77:Ords
 | _=>none
@[go_sem] theorem ord77_0:ord77 0=none:=rfl
@[go_sem] theorem ord77_1:ord77 1=none:=rfl
@[go_sem] theorem ord77_2:ord77 2=none:=rfl
@[go_sem] theorem ord77_3:ord77 3=none:=rfl
@[go_sem] theorem ord77_4:ord77 4=none:=rfl
@[go_sem] theorem ord77_6:ord77 6=none:=rfl
@[go_sem] theorem ord77_7:ord77 7=none:=rfl
@[go_sem] theorem ord77_5:ord77 5=none:=rfl
@[go_sem] theorem ord77_8:ord77 8=none:=rfl
@[go_sem] theorem ord77_9:ord77 9=none:=rfl
@[go_sem] theorem ord77_11:ord77 11=none:=rfl
@[go_sem] theorem ord77_12:ord77 12=none:=rfl
@[go_sem] theorem ord77_14:ord77 14=none:=rfl
@[go_sem] theorem ord77_15:ord77 15=none:=rfl
@[go_sem] theorem ord77_13:ord77 13=none:=rfl
@[go_sem] theorem ord77_10:ord77 10=none:=rfl
@[go_sem] theorem ord77_16:ord77 16=none:=rfl
def ord78:Ords
 | 6=>some (.lin [Hs 0,Hs 1,Hs 2,Hs 3,Hs 4,Hs 5,Hs 6,Hs 7,Ht 8,Hs 9])
 | _=>none
@[go_sem] theorem ord78_0:ord78 0=none:=rfl
@[go_sem] theorem ord78_1:ord78 1=none:=rfl
@[go_sem] theorem ord78_2:ord78 2=none:=rfl
@[go_sem] theorem ord78_3:ord78 3=none:=rfl
@[go_sem] theorem ord78_4:ord78 4=none:=rfl
attribute [go_sem] ord78.eq_1
@[go_sem] theorem ord78_7:ord78 7=none:=rfl
@[go_sem] theorem ord78_5:ord78 5=none:=rfl
@[go_sem] theorem ord78_8:ord78 8=none:=rfl
def ord79:Ords
 | 1=>some (.lin [Ht 0,Ht 1,Hu 2,Ht 3,Ht 4,Ht 5,Hu 6,Ht 7,Ht 8,Ht 9,Ht 10,Ht 11,Ht 12])
 | _=>none
@[go_sem] theorem ord79_0:ord79 0=none:=rfl
attribute [go_sem] ord79.eq_1
def ord80:Ords
 | 6=>some (.lin [Hs 0,Hs 1,Hs 2,Hs 3,Hs 4,Hs 5,Hs 6,Hs 7,Ht 8,Hs 9])
 | _=>none
@[go_sem] theorem ord80_0:ord80 0=none:=rfl
@[go_sem] theorem ord80_1:ord80 1=none:=rfl
@[go_sem] theorem ord80_2:ord80 2=none:=rfl
@[go_sem] theorem ord80_3:ord80 3=none:=rfl
@[go_sem] theorem ord80_4:ord80 4=none:=rfl
attribute [go_sem] ord80.eq_1
@[go_sem] theorem ord80_7:ord80 7=none:=rfl
@[go_sem] theorem ord80_5:ord80 5=none:=rfl
@[go_sem] theorem ord80_8:ord80 8=none:=rfl
def ord82:Ords
 | 8=>some (.lin [Hs 0,Hs 1,Hs 2,Hs 3,Hy 4,Hs 5,Hs 6,Hs 7,Hs 8,Hs 9,Hs 10,Hs 11,Hs 12,Hs 13,Ht 14,Hs 15,Hs 16])
 | _=>none
@[go_sem] theorem ord82_0:ord82 0=none:=rfl
@[go_sem] theorem ord82_1:ord82 1=none:=rfl
@[go_sem] theorem ord82_2:ord82 2=none:=rfl
@[go_sem] theorem ord82_3:ord82 3=none:=rfl
@[go_sem] theorem ord82_4:ord82 4=none:=rfl
@[go_sem] theorem ord82_5:ord82 5=none:=rfl
@[go_sem] theorem ord82_6:ord82 6=none:=rfl
@[go_sem] theorem ord82_7:ord82 7=none:=rfl
attribute [go_sem] ord82.eq_1
@[go_sem] theorem ord82_9:ord82 9=none:=rfl
@[go_sem] theorem ord82_10:ord82 10=none:=rfl
@[go_sem] theorem ord82_11:ord82 11=none:=rfl
@[go_sem] theorem ord82_12:ord82 12=none:=rfl
@[go_sem] theorem ord82_13:ord82 13=none:=rfl
@[go_sem] theorem ord82_14:ord82 14=none:=rfl
@[go_sem] theorem ord82_15:ord82 15=none:=rfl
@[go_sem] theorem ord82_16:ord82 16=none:=rfl
@[go_sem] theorem ord82_17:ord82 17=none:=rfl
def ord83:Ords
 | _=>none
@[go_sem] theorem ord83_0:ord83 0=none:=rfl
@[go_sem] theorem ord83_1:ord83 1=none:=rfl
@[go_sem] theorem ord83_2:ord83 2=none:=rfl
@[go_sem] theorem ord83_3:ord83 3=none:=rfl
@[go_sem] theorem ord83_4:ord83 4=none:=rfl
@[go_sem] theorem ord83_5:ord83 5=none:=rfl
@[go_sem] theorem ord83_6:ord83 6=none:=rfl
@[go_sem] theorem ord83_8:ord83 8=none:=rfl
@[go_sem] theorem ord83_9:ord83 9=none:=rfl
@[go_sem] theorem ord83_10:ord83 10=none:=rfl
@[go_sem] theorem ord83_11:ord83 11=none:=rfl
@[go_sem] theorem ord83_12:ord83 12=none:=rfl
@[go_sem] theorem ord83_13:ord83 13=none:=rfl
@[go_sem] theorem ord83_14:ord83 14=none:=rfl
@[go_sem] theorem ord83_15:ord83 15=none:=rfl
def ord84:Ords
 | 1=>some (.lin [Ht 0,Ht 1,Ht 2,Hu 3,Ht 4,Ht 5,Ht 6,Ht 7])
 | _=>none
@[go_sem] theorem ord84_0:ord84 0=none:=rfl
attribute [go_sem] ord84.eq_1
def ord86:Ords
 | 3=>some (.lin [Ht 0,Ht 1,Ht 2,Hu 3,Ht 4,Ht 5,Ht 6,Ht 7,Ht 8])
 | 5=>some (.lin [Ht 0,Ht 1,Ht 2,Hu 3,Ht 4,Ht 5,Ht 6,Ht 7,Ht 8])
 | 7=>some (.lin [Ht 0,Ht 1,Ht 2,Hu 3,Ht 4,Ht 5,Ht 6,Ht 7,Ht 8])
 | 9=>some (.lin [Ht 0,Ht 1,Ht 2,Hu 3,Ht 4,Ht 5,Ht 6,Ht 7,Ht 8,Ht 9])
 | _=>none
@[go_sem] theorem ord86_0:ord86 0=none:=rfl
@[go_sem] theorem ord86_1:ord86 1=none:=rfl
@[go_sem] theorem ord86_2:ord86 2=none:=rfl
attribute [go_sem] ord86.eq_1
@[go_sem] theorem ord86_4:ord86 4=none:=rfl
attribute [go_sem] ord86.eq_2
@[go_sem] theorem ord86_6:ord86 6=none:=rfl
attribute [go_sem] ord86.eq_3
@[go_sem] theorem ord86_8:ord86 8=none:=rfl
attribute [go_sem] ord86.eq_4
@[go_sem] theorem ord86_10:ord86 10=none:=rfl
def ord87:Ords
 | _=>none
@[go_sem] theorem ord87_0:ord87 0=none:=rfl
@[go_sem] theorem ord87_1:ord87 1=none:=rfl
@[go_sem] theorem ord87_2:ord87 2=none:=rfl
@[go_sem] theorem ord87_3:ord87 3=none:=rfl
@[go_sem] theorem ord87_4:ord87 4=none:=rfl
@[go_sem] theorem ord87_5:ord87 5=none:=rfl
@[go_sem] theorem ord87_7:ord87 7=none:=rfl
@[go_sem] theorem ord87_8:ord87 8=none:=rfl
@[go_sem] theorem ord87_9:ord87 9=none:=rfl
@[go_sem] theorem ord87_10:ord87 10=none:=rfl
@[go_sem] theorem ord87_6:ord87 6=none:=rfl
@[go_sem] theorem ord87_11:ord87 11=none:=rfl
@[go_sem] theorem ord87_12:ord87 12=none:=rfl
def ord88:Ords
 | _=>none
@[go_sem] theorem ord88_0:ord88 0=none:=rfl
@[go_sem] theorem ord88_1:ord88 1=none:=rfl
@[go_sem] theorem ord88_2:ord88 2=none:=rfl
@[go_sem] theorem ord88_3:ord88 3=none:=rfl
@[go_sem] theorem ord88_4:ord88 4=none:=rfl
@[go_sem] theorem ord88_5:ord88 5=none:=rfl
@[go_sem] theorem ord88_6:ord88 6=none:=rfl
@[go_sem] theorem ord88_7:ord88 7=none:=rfl
def ord89:Ords
 | _=>none
@[go_sem] theorem ord89_0:ord89 0=none:=rfl
@[go_sem] theorem ord89_1:ord89 1=none:=rfl
def ord90:Ords
 | 1=>some (.lin [Ht 0,Ht 1,Ht 2,Ht 3,Ht 4,Ht 5,Hu 6,Ht 7,Ht 8,Hu 9,Ht 10,Ht 11,Ht 12,Ht 13,Ht 14,Ht 15,Ht 16,Ht 17])
 | 10=>some (.lin [Hs 0,Hs 1,Hs 2,Hs 3,Hs 4,Hs 5,Ht 6,Hs 7,Hs 8])
 | 12=>some (.lin [Hs 0,Hs 1,Hs 2,Hs 3,Hs 4,Hs 5,Ht 6,Hs 7,Hs 8])
 | _=>none
@[go_sem] theorem ord90_0:ord90 0=none:=rfl
attribute [go_sem] ord90.eq_1
@[go_sem] theorem ord90_2:ord90 2=none:=rfl
@[go_sem] theorem ord90_3:ord90 3=none:=rfl
@[go_sem] theorem ord90_4:ord90 4=none:=rfl
@[go_sem] theorem ord90_5:ord90 5=none:=rfl
@[go_sem] theorem ord90_6:ord90 6=none:=rfl
@[go_sem] theorem ord90_7:ord90 7=none:=rfl
@[go_sem] theorem ord90_8:ord90 8=none:=rfl
@[go_sem] theorem ord90_9:ord90 9=none:=rfl
attribute [go_sem] ord90.eq_2
@[go_sem] theorem ord90_11:ord90 11=none:=rfl
attribute [go_sem] ord90.eq_3
@[go_sem] theorem ord90_13:ord90 13=none:=rfl
@[go_sem] theorem ord90_14:ord90 14=none:=rfl
@[go_sem] theorem ord90_15:ord90 15=none:=rfl
@[go_sem] theorem ord90_16:ord90 16=none:=rfl
@[go_sem] theorem ord90_17:ord90 17=none:=rfl
def ord91:Ords
 | _=>none
@[go_sem] theorem ord91_0:ord91 0=none:=rfl
@[go_sem] theorem ord91_1:ord91 1=none:=rfl
@[go_sem] theorem ord91_2:ord91 2=none:=rfl
@[go_sem] theorem ord91_3:ord91 3=none:=rfl
def ord92:Ords
 | _=>none
@[go_sem] theorem ord92_0:ord92 0=none:=rfl
@[go_sem] theorem ord92_1:ord92 1=none:=rfl
@[go_sem] theorem ord92_2:ord92 2=none:=rfl
@[go_sem] theorem ord92_3:ord92 3=none:=rfl
@[go_sem] theorem ord92_4:ord92 4=none:=rfl
@[go_sem] theorem ord92_5:ord92 5=none:=rfl
@[go_sem] theorem ord92_6:ord92 6=none:=rfl
@[go_sem] theorem ord92_7:ord92 7=none:=rfl
@[go_sem] theorem ord92_8:ord92 8=none:=rfl
@[go_sem] theorem ord92_9:ord92 9=none:=rfl
@[go_sem] theorem ord92_10:ord92 10=none:=rfl
@[go_sem] theorem ord92_11:ord92 11=none:=rfl
def ord93:Ords
 | 9=>some (.lin [Ht 0,Hu 1,Ht 2,Ht 3,Ht 4,Ht 5,Ht 6,Ht 7,Ht 8,Ht 9,Ht 10,Ht 11])
 | _=>none
@[go_sem] theorem ord93_0:ord93 0=none:=rfl
@[go_sem] theorem ord93_1:ord93 1=none:=rfl
@[go_sem] theorem ord93_2:ord93 2=none:=rfl
@[go_sem] theorem ord93_3:ord93 3=none:=rfl
@[go_sem] theorem ord93_4:ord93 4=none:=rfl
@[go_sem] theorem ord93_5:ord93 5=none:=rfl
@[go_sem] theorem ord93_6:ord93 6=none:=rfl
@[go_sem] theorem ord93_7:ord93 7=none:=rfl
@[go_sem] theorem ord93_8:ord93 8=none:=rfl
attribute [go_sem] ord93.eq_1
@[go_sem] theorem ord93_10:ord93 10=none:=rfl
@[go_sem] theorem ord93_11:ord93 11=none:=rfl
@[go_sem] theorem ord93_12:ord93 12=none:=rfl
def ord94:Ords
 | 2=>some (.lin [Ht 0,Ht 1,Ht 2,Ht 3,Ht 4,Hu 5,Ht 6,Ht 7,Ht 8,Ht 9,Ht 10])
 | _=>none
@[go_sem] theorem ord94_0:ord94 0=none:=rfl
@[go_sem] theorem ord94_1:ord94 1=none:=rfl
attribute [go_sem] ord94.eq_1
def ord95:Ords
 | _=>none
@[go_sem] theorem ord95_0:ord95 0=none:=rfl
@[go_sem] theorem ord95_1:ord95 1=none:=rfl
@[go_sem] theorem ord95_2:ord95 2=none:=rfl
@[go_sem] theorem ord95_3:ord95 3=none:=rfl
@[go_sem] theorem ord95_4:ord95 4=none:=rfl
@[go_sem] theorem ord95_5:ord95 5=none:=rfl
@[go_sem] theorem ord95_6:ord95 6=none:=rfl
@[go_sem] theorem ord95_8:ord95 8=none:=rfl
@[go_sem] theorem ord95_9:ord95 9=none:=rfl
@[go_sem] theorem ord95_10:ord95 10=none:=rfl
@[go_sem] theorem ord95_11:ord95 11=none:=rfl
@[go_sem] theorem ord95_12:ord95 12=none:=rfl
@[go_sem] theorem ord95_13:ord95 13=none:=rfl
@[go_sem] theorem ord95_14:ord95 14=none:=rfl
@[go_sem] theorem ord95_15:ord95 15=none:=rfl
def ord96:Ords
 | _=>none
@[go_sem] theorem ord96_0:ord96 0=none:=rfl
@[go_sem] theorem ord96_1:ord96 1=none:=rfl
def ord97:Ords
 | 4=>some (.lin [Ht 0,Ht 1,Hu 2,Ht 3,Ht 4,Ht 5,Ht 6])
 | 12=>some (.lin [Ht 0,Ht 1,Hu 2,Ht 3,Ht 4,Hu 5,Ht 6,Ht 7,Hu 8,Ht 9,Ht 10,Ht 11,Ht 12,Ht 13,Ht 14,Ht 15,Ht 16])
 | _=>none
@[go_sem] theorem ord97_0:ord97 0=none:=rfl
@[go_sem] theorem ord97_1:ord97 1=none:=rfl
@[go_sem] theorem ord97_2:ord97 2=none:=rfl
@[go_sem] theorem ord97_3:ord97 3=none:=rfl
attribute [go_sem] ord97.eq_1
@[go_sem] theorem ord97_5:ord97 5=none:=rfl
@[go_sem] theorem ord97_6:ord97 6=none:=rfl
@[go_sem] theorem ord97_7:ord97 7=none:=rfl
@[go_sem] theorem ord97_8:ord97 8=none:=rfl
@[go_sem] theorem ord97_9:ord97 9=none:=rfl
@[go_sem] theorem ord97_10:ord97 10=none:=rfl
@[go_sem] theorem ord97_11:ord97 11=none:=rfl
attribute [go_sem] ord97.eq_2
@[go_sem] theorem ord97_13:ord97 13=none:=rfl
@[go_sem] theorem ord97_14:ord97 14=none:=rfl
@[go_sem] theorem ord97_15:ord97 15=none:=rfl
def ord98:Ords
 | 10=>some (.lin [Hs 0,Hs 1,Hs 2,Hs 3,Hs 7,Hx 4,Hs 5,Hx 6,Ht 8,Ht 9,Hs 10,Hs 11,Ht 12])
 | _=>none
attribute [go_sem] ord98.eq_1
def ord99:Ords
 | 10=>some (.lin [Ht 0,Ht 1,Ht 2,Hu 3,Ht 4,Ht 5,Hu 6,Ht 7,Ht 8,Ht 9,Ht 10,Hu 11,Ht 12,Ht 13,Hu 14,Ht 15,Ht 16,Ht 17,Ht 18])
 | _=>none
@[go_sem] theorem ord99_0:ord99 0=none:=rfl
@[go_sem] theorem ord99_1:ord99 1=none:=rfl
@[go_sem] theorem ord99_2:ord99 2=none:=rfl
@[go_sem] theorem ord99_3:ord99 3=none:=rfl
@[go_sem] theorem ord99_4:ord99 4=none:=rfl
@[go_sem] theorem ord99_5:ord99 5=none:=rfl
@[go_sem] theorem ord99_6:ord99 6=none:=rfl
@[go_sem] theorem ord99_7:ord99 7=none:=rfl
@[go_sem] theorem ord99_8:ord99 8=none:=rfl
@[go_sem] theorem ord99_9:ord99 9=none:=rfl
attribute [go_sem] ord99.eq_1
@[go_sem] theorem ord99_11:ord99 11=none:=rfl
@[go_sem] theorem ord99_12:ord99 12=none:=rfl
@[go_sem] theorem ord99_13:ord99 13=none:=rfl
def ord100:Ords
 | _=>none
@[go_sem] theorem ord100_0:ord100 0=none:=rfl
@[go_sem] theorem ord100_1:ord100 1=none:=rfl
@[go_sem] theorem ord100_2:ord100 2=none:=rfl
@[go_sem] theorem ord100_3:ord100 3=none:=rfl
@[go_sem] theorem ord100_4:ord100 4=none:=rfl
@[go_sem] theorem ord100_5:ord100 5=none:=rfl
@[go_sem] theorem ord100_6:ord100 6=none:=rfl
@[go_sem] theorem ord100_7:ord100 7=none:=rfl
@[go_sem] theorem ord100_8:ord100 8=none:=rfl
@[go_sem] theorem ord100_9:ord100 9=none:=rfl
@[go_sem] theorem ord100_10:ord100 10=none:=rfl
@[go_sem] theorem ord100_11:ord100 11=none:=rfl
@[go_sem] theorem ord100_12:ord100 12=none:=rfl
@[go_sem] theorem ord100_13:ord100 13=none:=rfl
@[go_sem] theorem ord100_14:ord100 14=none:=rfl
def ord101:Ords
 | _=>none
@[go_sem] theorem ord101_0:ord101 0=none:=rfl
@[go_sem] theorem ord101_1:ord101 1=none:=rfl
@[go_sem] theorem ord101_2:ord101 2=none:=rfl
@[go_sem] theorem ord101_3:ord101 3=none:=rfl
def ord102:Ords
 | 1=>some (.lin [Ht 0,Ht 1,Ht 2,Hu 3,Ht 4,Ht 5,Ht 6,Ht 7,Ht 8])
 | _=>none
@[go_sem] theorem ord102_0:ord102 0=none:=rfl
attribute [go_sem] ord102.eq_1
def ord104:Ords
 | 1=>some (.lin [Ht 0,Ht 1,Hu 2,Ht 3,Ht 4,Ht 5,Hu 6,Ht 7,Ht 8,Ht 9,Ht 10,Hu 11,Ht 12,Ht 13,Ht 14,Ht 15,Ht 16,Ht 17])
 | _=>none
@[go_sem] theorem ord104_0:ord104 0=none:=rfl
attribute [go_sem] ord104.eq_1
def ord105:Ords
 | _=>none
@[go_sem] theorem ord105_0:ord105 0=none:=rfl
@[go_sem] theorem ord105_1:ord105 1=none:=rfl
@[go_sem] theorem ord105_2:ord105 2=none:=rfl
@[go_sem] theorem ord105_3:ord105 3=none:=rfl
@[go_sem] theorem ord105_4:ord105 4=none:=rfl
@[go_sem] theorem ord105_5:ord105 5=none:=rfl
@[go_sem] theorem ord105_6:ord105 6=none:=rfl
@[go_sem] theorem ord105_7:ord105 7=none:=rfl
def ord107:Ords
 | _=>none
@[go_sem] theorem ord107_0:ord107 0=none:=rfl
@[go_sem] theorem ord107_1:ord107 1=none:=rfl
def ord109:Ords
 | _=>none
@[go_sem] theorem ord109_0:ord109 0=none:=rfl
@[go_sem] theorem ord109_1:ord109 1=none:=rfl
@[go_sem] theorem ord109_2:ord109 2=none:=rfl
@[go_sem] theorem ord109_3:ord109 3=none:=rfl
def ord110:Ords
 | _=>none
@[go_sem] theorem ord110_0:ord110 0=none:=rfl
@[go_sem] theorem ord110_1:ord110 1=none:=rfl
@[go_sem] theorem ord110_2:ord110 2=none:=rfl
@[go_sem] theorem ord110_3:ord110 3=none:=rfl
@[go_sem] theorem ord110_4:ord110 4=none:=rfl
@[go_sem] theorem ord110_5:ord110 5=none:=rfl
def ord111:Ords
 | 1=>some (.lin [Ht 0,Ht 1,Hu 2,Ht 3,Ht 4,Ht 5,Ht 6])
 | _=>none
@[go_sem] theorem ord111_0:ord111 0=none:=rfl
attribute [go_sem] ord111.eq_1
def ord112:Ords
 | _=>none
@[go_sem] theorem ord112_0:ord112 0=none:=rfl
@[go_sem] theorem ord112_1:ord112 1=none:=rfl
@[go_sem] theorem ord112_2:ord112 2=none:=rfl
@[go_sem] theorem ord112_3:ord112 3=none:=rfl
@[go_sem] theorem ord112_4:ord112 4=none:=rfl
@[go_sem] theorem ord112_5:ord112 5=none:=rfl
@[go_sem] theorem ord112_6:ord112 6=none:=rfl
@[go_sem] theorem ord112_7:ord112 7=none:=rfl
@[go_sem] theorem ord112_8:ord112 8=none:=rfl
@[go_sem] theorem ord112_9:ord112 9=none:=rfl
@[go_sem] theorem ord112_10:ord112 10=none:=rfl
def ord113:Ords
 | 1=>some (.lin [Ht 0,Ht 1,Hu 2,Ht 3,Ht 4,Ht 5,Hu 6,Ht 7,Ht 8,Ht 9,Hu 10,Ht 11,Ht 12,Ht 13,Ht 14,Hu 15,Ht 16,Ht 17,Ht 18,Ht 19,Hu 20,Ht 21,Ht 22,Ht 23,Ht 24,Ht 25,Ht 26])
 | _=>none
@[go_sem] theorem ord113_0:ord113 0=none:=rfl
attribute [go_sem] ord113.eq_1
def ord119:Ords
 | 2=>some (.lin [Ht 0,Ht 1,Ht 2,Ht 3,Hu 4,Ht 5,Ht 6,Ht 7,Ht 8,Ht 9])
 | 4=>some (.lin [Hs 0,Hs 1,Hs 2,Hs 3,Hs 4,Hs 5,Hs 6,Hs 7,Ht 8,Hs 9])
 | _=>none
@[go_sem] theorem ord119_0:ord119 0=none:=rfl
@[go_sem] theorem ord119_1:ord119 1=none:=rfl
attribute [go_sem] ord119.eq_1
attribute [go_sem] ord119.eq_2
@[go_sem] theorem ord119_5:ord119 5=none:=rfl
@[go_sem] theorem ord119_6:ord119 6=none:=rfl
@[go_sem] theorem ord119_3:ord119 3=none:=rfl
@[go_sem] theorem ord119_7:ord119 7=none:=rfl
@[go_sem] theorem ord119_8:ord119 8=none:=rfl
@[go_sem] theorem ord119_9:ord119 9=none:=rfl
def ord127:Ords
 | _=>none
@[go_sem] theorem ord127_0:ord127 0=none:=rfl
@[go_sem] theorem ord127_1:ord127 1=none:=rfl
def ord128:Ords
 | 1=>some (.lin [Ht 0,Ht 1,Ht 2,Ht 3,Hu 4,Ht 5,Ht 6,Ht 7,Ht 8,Ht 9,Ht 10])
 | _=>none
@[go_sem] theorem ord128_0:ord128 0=none:=rfl
attribute [go_sem] ord128.eq_1
def ord129:Ords
 | _=>none
@[go_sem] theorem ord129_0:ord129 0=none:=rfl
@[go_sem] theorem ord129_1:ord129 1=none:=rfl
def ord130:Ords
 | 1=>some (.lin [Ht 0,Ht 1,Hu 2,Ht 3,Ht 4,Ht 5,Ht 6])
 | _=>none
@[go_sem] theorem ord130_0:ord130 0=none:=rfl
attribute [go_sem] ord130.eq_1
def ord131:Ords
 | _=>none
@[go_sem] theorem ord131_0:ord131 0=none:=rfl
@[go_sem] theorem ord131_1:ord131 1=none:=rfl
def ord132:Ords
 | _=>none
@[go_sem] theorem ord132_0:ord132 0=none:=rfl
@[go_sem] theorem ord132_1:ord132 1=none:=rfl
def ord133:Ords
 | 1=>some (.lin [Ht 0,Ht 1,Ht 2,Hu 3,Ht 4,Ht 5,Ht 6,Hu 7,Ht 8,Ht 9,Ht 10,Ht 11,Ht 12,Ht 13])
 | _=>none
@[go_sem] theorem ord133_0:ord133 0=none:=rfl
attribute [go_sem] ord133.eq_1
def ord134:Ords
 | 1=>some (.lin [Ht 0,Ht 1,Ht 2,Hu 3,Ht 4,Ht 5,Ht 6,Ht 7,Ht 8])
 | _=>none
@[go_sem] theorem ord134_0:ord134 0=none:=rfl
attribute [go_sem] ord134.eq_1
def ord135:Ords
 | _=>none
@[go_sem] theorem ord135_0:ord135 0=none:=rfl
@[go_sem] theorem ord135_1:ord135 1=none:=rfl
def ord136:Ords
 | 1=>some (.lin [Ht 0,Ht 1,Ht 2,Ht 3,Hu 4,Ht 5,Ht 6,Ht 7,Ht 8,Ht 9,Ht 10])
 | _=>none
@[go_sem] theorem ord136_0:ord136 0=none:=rfl
attribute [go_sem] ord136.eq_1
def ord137:Ords
 | _=>none
@[go_sem] theorem ord137_0:ord137 0=none:=rfl
def ord138:Ords
 | _=>none
@[go_sem] theorem ord138_0:ord138 0=none:=rfl
@[go_sem] theorem ord138_1:ord138 1=none:=rfl
def ord139:Ords
 | 0=>some (.lin [Hs 0,Hs 1,Hs 2,Hs 3,Hs 4,Hs 5,Hs 6,Hs 7,Hs 8,Hs 9,Hs 10,Hs 11,Hs 12,Hs 13,Hs 14,Hs 15,Hs 16,Hs 17,Ht 18,Hs 19,Hs 20,Ht 21])
 | _=>none
attribute [go_sem] ord139.eq_1
def ord140:Ords
 | 2=>some (.lin [Ht 0,Ht 1,Hu 2,Ht 3,Ht 4,Ht 5])
 | _=>none
@[go_sem] theorem ord140_0:ord140 0=none:=rfl
@[go_sem] theorem ord140_1:ord140 1=none:=rfl
attribute [go_sem] ord140.eq_1
@[go_sem] theorem ord140_3:ord140 3=none:=rfl
@[go_sem] theorem ord140_4:ord140 4=none:=rfl
@[go_sem] theorem ord140_5:ord140 5=none:=rfl
def ord141:Ords
 | _=>none
@[go_sem] theorem ord141_0:ord141 0=none:=rfl
@[go_sem] theorem ord141_1:ord141 1=none:=rfl
@[go_sem] theorem ord141_3:ord141 3=none:=rfl
@[go_sem] theorem ord141_4:ord141 4=none:=rfl
@[go_sem] theorem ord141_5:ord141 5=none:=rfl
@[go_sem] theorem ord141_6:ord141 6=none:=rfl
def ord142:Ords
 | 1=>some (.lin [Ht 0,Ht 1,Hu 2,Ht 3,Ht 4,Ht 5,Ht 6,Ht 7])
 | _=>none
@[go_sem] theorem ord142_0:ord142 0=none:=rfl
attribute [go_sem] ord142.eq_1
def ord143:Ords
 | 1=>some (.lin [Ht 0,Ht 1,Ht 2,Hu 3,Ht 4,Ht 5,Ht 6,Ht 7,Ht 8])
 | _=>none
@[go_sem] theorem ord143_0:ord143 0=none:=rfl
attribute [go_sem] ord143.eq_1
def ord144:Ords
 | 1=>some (.lin [Hs 0,Hs 1,Hs 2,Hs 3,Hs 5,Hv 6,Hs 7,Hv 8,Hs 10,Hv 11,Hs 12,Hv 13,Hw 4,Hw 9,Hw 14,Ht 15,Hw 16,Hs 17])
 | _=>none
@[go_sem] theorem ord144_0:ord144 0=none:=rfl
attribute [go_sem] ord144.eq_1
def ord145:Ords
 | 1=>some (.lin [Ht 0,Ht 1,Hu 2,Ht 3,Ht 4,Ht 5,Ht 6,Ht 7,Ht 8])
 | _=>none
@[go_sem] theorem ord145_0:ord145 0=none:=rfl
attribute [go_sem] ord145.eq_1
def ord146:Ords
 | 5=>some (.lin [Ht 0,Ht 1,Hu 2,Ht 3,Ht 4,Ht 5,Ht 6,Ht 7,Hu 8,Ht 9,Ht 10,Ht 11,Hu 12,Ht 13,Ht 14,Ht 15,Ht 16,Ht 17])
 | 7=>some (.lin [Hs 0,Hs 1,Hs 2,Hs 3,Hs 4,Hs 5,Hy 6,Hs 7,Hs 8,Hs 9,Hs 10,Hs 11,Hs 12,Hs 13,Hy 14,Hs 15,Hs 16,Hs 17,Hs 18,Hs 19,Hs 20,Hs 21,Hs 22,Ht 23,Hs 24,Hs 25])
 | _=>none
@[go_sem] theorem ord146_0:ord146 0=none:=rfl
@[go_sem] theorem ord146_1:ord146 1=none:=rfl
@[go_sem] theorem ord146_2:ord146 2=none:=rfl
@[go_sem] theorem ord146_3:ord146 3=none:=rfl
@[go_sem] theorem ord146_4:ord146 4=none:=rfl
attribute [go_sem] ord146.eq_1
@[go_sem] theorem ord146_6:ord146 6=none:=rfl
attribute [go_sem] ord146.eq_2
@[go_sem] theorem ord146_8:ord146 8=none:=rfl
@[go_sem] theorem ord146_9:ord146 9=none:=rfl
@[go_sem] theorem ord146_10:ord146 10=none:=rfl
def ord147:Ords
 | _=>none
@[go_sem] theorem ord147_0:ord147 0=none:=rfl
@[go_sem] theorem ord147_1:ord147 1=none:=rfl
@[go_sem] theorem ord147_2:ord147 2=none:=rfl
@[go_sem] theorem ord147_3:ord147 3=none:=rfl
@[go_sem] theorem ord147_4:ord147 4=none:=rfl
@[go_sem] theorem ord147_5:ord147 5=none:=rfl
@[go_sem] theorem ord147_6:ord147 6=none:=rfl
@[go_sem] theorem ord147_7:ord147 7=none:=rfl
@[go_sem] theorem ord147_8:ord147 8=none:=rfl
@[go_sem] theorem ord147_9:ord147 9=none:=rfl
@[go_sem] theorem ord147_10:ord147 10=none:=rfl
@[go_sem] theorem ord147_11:ord147 11=none:=rfl
def ord148:Ords
 | _=>none
@[go_sem] theorem ord148_0:ord148 0=none:=rfl
@[go_sem] theorem ord148_1:ord148 1=none:=rfl
def ord149:Ords
 | _=>none
@[go_sem] theorem ord149_0:ord149 0=none:=rfl
@[go_sem] theorem ord149_1:ord149 1=none:=rfl
@[go_sem] theorem ord149_3:ord149 3=none:=rfl
@[go_sem] theorem ord149_4:ord149 4=none:=rfl
@[go_sem] theorem ord149_5:ord149 5=none:=rfl
@[go_sem] theorem ord149_6:ord149 6=none:=rfl
def ord150:Ords
 | 8=>some (.lin [Ht 0,Ht 1,Ht 2,Ht 3,Hu 4,Ht 5,Ht 6,Ht 7,Ht 8,Ht 9,Ht 10,Ht 11,Ht 12,Ht 13,Ht 14,Ht 15])
 | _=>none
@[go_sem] theorem ord150_0:ord150 0=none:=rfl
@[go_sem] theorem ord150_1:ord150 1=none:=rfl
@[go_sem] theorem ord150_2:ord150 2=none:=rfl
@[go_sem] theorem ord150_3:ord150 3=none:=rfl
@[go_sem] theorem ord150_4:ord150 4=none:=rfl
@[go_sem] theorem ord150_5:ord150 5=none:=rfl
@[go_sem] theorem ord150_6:ord150 6=none:=rfl
@[go_sem] theorem ord150_7:ord150 7=none:=rfl
attribute [go_sem] ord150.eq_1
def ord151:Ords
 | _=>none
@[go_sem] theorem ord151_0:ord151 0=none:=rfl
@[go_sem] theorem ord151_1:ord151 1=none:=rfl
def ord153:Ords
 | 2=>some (.lin [Ht 0,Ht 1,Ht 2,Ht 3,Hu 4,Ht 5,Ht 6,Ht 7,Ht 8,Ht 9,Ht 10,Ht 11])
 | _=>none
@[go_sem] theorem ord153_0:ord153 0=none:=rfl
@[go_sem] theorem ord153_1:ord153 1=none:=rfl
attribute [go_sem] ord153.eq_1
def ord154:Ords
 | _=>none
@[go_sem] theorem ord154_0:ord154 0=none:=rfl
@[go_sem] theorem ord154_1:ord154 1=none:=rfl
@[go_sem] theorem ord154_2:ord154 2=none:=rfl
@[go_sem] theorem ord154_3:ord154 3=none:=rfl
@[go_sem] theorem ord154_5:ord154 5=none:=rfl
@[go_sem] theorem ord154_6:ord154 6=none:=rfl
@[go_sem] theorem ord154_7:ord154 7=none:=rfl
@[go_sem] theorem ord154_4:ord154 4=none:=rfl
@[go_sem] theorem ord154_8:ord154 8=none:=rfl
def ord155:Ords
 | 1=>some (.lin [Ht 0,Ht 1,Hu 2,Ht 3,Ht 4,Ht 5])
 | _=>none
@[go_sem] theorem ord155_0:ord155 0=none:=rfl
attribute [go_sem] ord155.eq_1
@[go_sem] theorem ord155_2:ord155 2=none:=rfl
@[go_sem] theorem ord155_3:ord155 3=none:=rfl
@[go_sem] theorem ord155_4:ord155 4=none:=rfl
@[go_sem] theorem ord155_5:ord155 5=none:=rfl
def ord156:Ords
 | _=>none
@[go_sem] theorem ord156_0:ord156 0=none:=rfl
@[go_sem] theorem ord156_1:ord156 1=none:=rfl
@[go_sem] theorem ord156_2:ord156 2=none:=rfl
@[go_sem] theorem ord156_3:ord156 3=none:=rfl
@[go_sem] theorem ord156_4:ord156 4=none:=rfl
@[go_sem] theorem ord156_5:ord156 5=none:=rfl
@[go_sem] theorem ord156_6:ord156 6=none:=rfl
@[go_sem] theorem ord156_7:ord156 7=none:=rfl
@[go_sem] theorem ord156_8:ord156 8=none:=rfl
@[go_sem] theorem ord156_9:ord156 9=none:=rfl
@[go_sem] theorem ord156_10:ord156 10=none:=rfl
@[go_sem] theorem ord156_11:ord156 11=none:=rfl
@[go_sem] theorem ord156_12:ord156 12=none:=rfl
@[go_sem] theorem ord156_13:ord156 13=none:=rfl
def ord158:Ords
 | _=>none
@[go_sem] theorem ord158_0:ord158 0=none:=rfl
@[go_sem] theorem ord158_1:ord158 1=none:=rfl
def ord159:Ords
 | 4=>some (.lin [Ht 0,Ht 1,Ht 2,Hu 3,Ht 4,Ht 5,Ht 6,Ht 7,Ht 8])
 | 6=>some (.lin [Ht 0,Ht 1,Ht 2,Hu 3,Ht 4,Ht 5,Ht 6,Ht 7,Hu 8,Ht 9,Ht 10,Ht 11,Ht 12,Ht 13])
 | 8=>some (.lin [Ht 0,Ht 1,Ht 2,Hu 3,Ht 4,Ht 5,Ht 6,Ht 7,Ht 8])
 | 10=>some (.lin [Ht 0,Ht 1,Ht 2,Hu 3,Ht 4,Ht 5,Ht 6,Ht 7,Ht 8,Ht 9])
 | _=>none
@[go_sem] theorem ord159_0:ord159 0=none:=rfl
@[go_sem] theorem ord159_1:ord159 1=none:=rfl
@[go_sem] theorem ord159_2:ord159 2=none:=rfl
@[go_sem] theorem ord159_3:ord159 3=none:=rfl
attribute [go_sem] ord159.eq_1
@[go_sem] theorem ord159_5:ord159 5=none:=rfl
attribute [go_sem] ord159.eq_2
@[go_sem] theorem ord159_7:ord159 7=none:=rfl
attribute [go_sem] ord159.eq_3
@[go_sem] theorem ord159_9:ord159 9=none:=rfl
attribute [go_sem] ord159.eq_4
@[go_sem] theorem ord159_11:ord159 11=none:=rfl
@[go_sem] theorem ord159_12:ord159 12=none:=rfl
@[go_sem] theorem ord159_13:ord159 13=none:=rfl
def ord163:Ords
 | _=>none
@[go_sem] theorem ord163_0:ord163 0=none:=rfl
@[go_sem] theorem ord163_1:ord163 1=none:=rfl
@[go_sem] theorem ord163_2:ord163 2=none:=rfl
@[go_sem] theorem ord163_3:ord163 3=none:=rfl
@[go_sem] theorem ord163_4:ord163 4=none:=rfl
@[go_sem] theorem ord163_5:ord163 5=none:=rfl
@[go_sem] theorem ord163_6:ord163 6=none:=rfl
@[go_sem] theorem ord163_7:ord163 7=none:=rfl
@[go_sem] theorem ord163_8:ord163 8=none:=rfl
def ord164:Ords
 | _=>none
@[go_sem] theorem ord164_0:ord164 0=none:=rfl
@[go_sem] theorem ord164_1:ord164 1=none:=rfl
def ord166:Ords
 | _=>none
@[go_sem] theorem ord166_0:ord166 0=none:=rfl
@[go_sem] theorem ord166_1:ord166 1=none:=rfl
@[go_sem] theorem ord166_2:ord166 2=none:=rfl
@[go_sem] theorem ord166_3:ord166 3=none:=rfl
@[go_sem] theorem ord166_4:ord166 4=none:=rfl
@[go_sem] theorem ord166_5:ord166 5=none:=rfl
@[go_sem] theorem ord166_6:ord166 6=none:=rfl
def ord167:Ords
 | _=>none
@[go_sem] theorem ord167_0:ord167 0=none:=rfl
@[go_sem] theorem ord167_1:ord167 1=none:=rfl
@[go_sem] theorem ord167_2:ord167 2=none:=rfl
@[go_sem] theorem ord167_3:ord167 3=none:=rfl
@[go_sem] theorem ord167_4:ord167 4=none:=rfl
@[go_sem] theorem ord167_5:ord167 5=none:=rfl
@[go_sem] theorem ord167_6:ord167 6=none:=rfl
@[go_sem] theorem ord167_7:ord167 7=none:=rfl
@[go_sem] theorem ord167_8:ord167 8=none:=rfl
@[go_sem] theorem ord167_9:ord167 9=none:=rfl
@[go_sem] theorem ord167_10:ord167 10=none:=rfl
def ord168:Ords
 | _=>none
@[go_sem] theorem ord168_0:ord168 0=none:=rfl
@[go_sem] theorem ord168_1:ord168 1=none:=rfl
@[go_sem] theorem ord168_2:ord168 2=none:=rfl
@[go_sem] theorem ord168_3:ord168 3=none:=rfl
@[go_sem] theorem ord168_4:ord168 4=none:=rfl
@[go_sem] theorem ord168_5:ord168 5=none:=rfl
@[go_sem] theorem ord168_6:ord168 6=none:=rfl
@[go_sem] theorem ord168_7:ord168 7=none:=rfl
def ord169:Ords
 | _=>none
@[go_sem] theorem ord169_0:ord169 0=none:=rfl
@[go_sem] theorem ord169_1:ord169 1=none:=rfl
@[go_sem] theorem ord169_2:ord169 2=none:=rfl
@[go_sem] theorem ord169_3:ord169 3=none:=rfl
def ord175:Ords
 | _=>none
@[go_sem] theorem ord175_0:ord175 0=none:=rfl
@[go_sem] theorem ord175_1:ord175 1=none:=rfl
@[go_sem] theorem ord175_2:ord175 2=none:=rfl
@[go_sem] theorem ord175_3:ord175 3=none:=rfl
@[go_sem] theorem ord175_4:ord175 4=none:=rfl
@[go_sem] theorem ord175_5:ord175 5=none:=rfl
@[go_sem] theorem ord175_6:ord175 6=none:=rfl
@[go_sem] theorem ord175_7:ord175 7=none:=rfl
def ord176:Ords
 | _=>none
@[go_sem] theorem ord176_0:ord176 0=none:=rfl
@[go_sem] theorem ord176_1:ord176 1=none:=rfl
@[go_sem] theorem ord176_2:ord176 2=none:=rfl
@[go_sem] theorem ord176_3:ord176 3=none:=rfl
@[go_sem] theorem ord176_4:ord176 4=none:=rfl
@[go_sem] theorem ord176_5:ord176 5=none:=rfl
@[go_sem] theorem ord176_6:ord176 6=none:=rfl
@[go_sem] theorem ord176_7:ord176 7=none:=rfl
def ord177:Ords
 | _=>none
@[go_sem] theorem ord177_0:ord177 0=none:=rfl
@[go_sem] theorem ord177_1:ord177 1=none:=rfl
@[go_sem] theorem ord177_2:ord177 2=none:=rfl
@[go_sem] theorem ord177_3:ord177 3=none:=rfl
@[go_sem] theorem ord177_4:ord177 4=none:=rfl
@[go_sem] theorem ord177_5:ord177 5=none:=rfl
@[go_sem] theorem ord177_6:ord177 6=none:=rfl
@[go_sem] theorem ord177_7:ord177 7=none:=rfl
def ord178:Ords
 | 1=>some (.lin [Ht 0,Ht 1,Ht 2,Ht 3,Hu 4,Ht 5,Ht 6,Ht 7,Ht 8,Ht 9])
 | _=>none
@[go_sem] theorem ord178_0:ord178 0=none:=rfl
attribute [go_sem] ord178.eq_1
def ord179:Ords
 | _=>none
@[go_sem] theorem ord179_0:ord179 0=none:=rfl
@[go_sem] theorem ord179_1:ord179 1=none:=rfl
@[go_sem] theorem ord179_2:ord179 2=none:=rfl
@[go_sem] theorem ord179_3:ord179 3=none:=rfl
@[go_sem] theorem ord179_4:ord179 4=none:=rfl
@[go_sem] theorem ord179_5:ord179 5=none:=rfl
@[go_sem] theorem ord179_6:ord179 6=none:=rfl
@[go_sem] theorem ord179_7:ord179 7=none:=rfl
@[go_sem] theorem ord179_8:ord179 8=none:=rfl
@[go_sem] theorem ord179_9:ord179 9=none:=rfl
@[go_sem] theorem ord179_10:ord179 10=none:=rfl
@[go_sem] theorem ord179_11:ord179 11=none:=rfl
@[go_sem] theorem ord179_12:ord179 12=none:=rfl
@[go_sem] theorem ord179_13:ord179 13=none:=rfl
@[go_sem] theorem ord179_14:ord179 14=none:=rfl
@[go_sem] theorem ord179_15:ord179 15=none:=rfl
@[go_sem] theorem ord179_16:ord179 16=none:=rfl
def ord180:Ords
 | _=>none
@[go_sem] theorem ord180_0:ord180 0=none:=rfl
@[go_sem] theorem ord180_1:ord180 1=none:=rfl
@[go_sem] theorem ord180_2:ord180 2=none:=rfl
@[go_sem] theorem ord180_3:ord180 3=none:=rfl
@[go_sem] theorem ord180_4:ord180 4=none:=rfl
@[go_sem] theorem ord180_5:ord180 5=none:=rfl
@[go_sem] theorem ord180_6:ord180 6=none:=rfl
@[go_sem] theorem ord180_7:ord180 7=none:=rfl
@[go_sem] theorem ord180_8:ord180 8=none:=rfl
def ord181:Ords
 | _=>none
@[go_sem] theorem ord181_0:ord181 0=none:=rfl
@[go_sem] theorem ord181_1:ord181 1=none:=rfl
@[go_sem] theorem ord181_2:ord181 2=none:=rfl
@[go_sem] theorem ord181_3:ord181 3=none:=rfl
@[go_sem] theorem ord181_7:ord181 7=none:=rfl
@[go_sem] theorem ord181_9:ord181 9=none:=rfl
@[go_sem] theorem ord181_10:ord181 10=none:=rfl
@[go_sem] theorem ord181_11:ord181 11=none:=rfl
@[go_sem] theorem ord181_12:ord181 12=none:=rfl
@[go_sem] theorem ord181_13:ord181 13=none:=rfl
def ord182:Ords
 | _=>none
@[go_sem] theorem ord182_0:ord182 0=none:=rfl
@[go_sem] theorem ord182_1:ord182 1=none:=rfl
@[go_sem] theorem ord182_2:ord182 2=none:=rfl
@[go_sem] theorem ord182_3:ord182 3=none:=rfl
@[go_sem] theorem ord182_7:ord182 7=none:=rfl
@[go_sem] theorem ord182_9:ord182 9=none:=rfl
@[go_sem] theorem ord182_10:ord182 10=none:=rfl
@[go_sem] theorem ord182_11:ord182 11=none:=rfl
@[go_sem] theorem ord182_12:ord182 12=none:=rfl
@[go_sem] theorem ord182_13:ord182 13=none:=rfl
def ord185:Ords
 | 2=>some (.lin [Ht 0,Ht 1,Ht 2,Ht 3,Ht 4,Hu 5,Ht 6,Ht 7,Ht 8,Ht 9,Ht 10])
 | _=>none
@[go_sem] theorem ord185_0:ord185 0=none:=rfl
@[go_sem] theorem ord185_1:ord185 1=none:=rfl
attribute [go_sem] ord185.eq_1
def ord186:Ords
 | 1=>some (.lin [Ht 0,Ht 1,Hu 2,Ht 3,Ht 4,Ht 5,Ht 6])
 | _=>none
@[go_sem] theorem ord186_0:ord186 0=none:=rfl
attribute [go_sem] ord186.eq_1
def ord187:Ords
 | _=>none
@[go_sem] theorem ord187_0:ord187 0=none:=rfl
@[go_sem] theorem ord187_1:ord187 1=none:=rfl
def ord193:Ords
 | 3=>some (.lin [Hs 0,Hs 1,Hs 2,Hs 3,Hs 4,Hs 5,Hs 6,Hs 7,Ht 8,Hs 9])
 | _=>none
@[go_sem] theorem ord193_0:ord193 0=none:=rfl
@[go_sem] theorem ord193_1:ord193 1=none:=rfl
@[go_sem] theorem ord193_2:ord193 2=none:=rfl
attribute [go_sem] ord193.eq_1
def ord199:Ords
 | 4=>some (.lin [Hs 0,Hs 1,Hs 2,Hy 3,Hs 4,Hs 5,Hs 6,Hs 7,Hs 8,Hs 9,Hs 10,Hs 11,Hs 12,Hs 13,Ht 14,Hs 15,Hs 16])
 | 6=>some (.lin [Hs 0,Hs 1,Hs 2,Hs 3,Hs 4,Hs 5,Hs 6,Hs 7,Hs 8,Hs 9,Hs 10,Hs 11,Hs 12,Hs 13,Hs 14,Ht 15,Hs 16,Ht 17])
 | _=>none
@[go_sem] theorem ord199_0:ord199 0=none:=rfl
@[go_sem] theorem ord199_1:ord199 1=none:=rfl
@[go_sem] theorem ord199_3:ord199 3=none:=rfl
attribute [go_sem] ord199.eq_1
attribute [go_sem] ord199.eq_2
@[go_sem] theorem ord199_5:ord199 5=none:=rfl
@[go_sem] theorem ord199_2:ord199 2=none:=rfl
def ord200:Ords
 | 5=>some (.lin [Hs 0,Hs 1,Hs 2,Hs 3,Hs 4,Hs 5,Hs 6,Hs 7,Hs 8,Ht 9,Hs 10])
 | 11=>some (.lin [Hs 0,Hs 1,Hs 2,Hs 3,Hs 4,Hs 5,Hs 6,Hs 7,Hs 8,Hs 9,Hs 10,Hs 11,Hs 12,Hs 13,Hs 14,Ht 15,Hs 16,Ht 17])
 | 17=>some (.lin [Hs 0,Hs 1,Hs 2,Hs 3,Hs 4,Hs 5,Hs 6,Hs 7,Hs 8,Ht 9,Hs 10,Hs 11])
 | 23=>some (.lin [Hs 0,Hs 1,Hs 2,Hs 3,Hs 4,Hs 5,Hs 6,Hs 7,Hs 8,Hs 9,Hs 10,Hs 11,Hs 12,Hs 13,Hs 14,Ht 15,Hs 16,Ht 17])
 | 35=>some (.lin [Hs 0,Hs 1,Hs 2,Hs 3,Hs 4,Hs 5,Hs 6,Hs 7,Hs 8,Hs 9,Hs 10,Ht 11,Hs 12,Hs 13])
 | 39=>some (.lin [Ht 0,Ht 1,Ht 2,Hu 3,Ht 4,Ht 5,Ht 6,Ht 7])
 | 41=>some (.lin [Ht 0,Ht 1,Ht 2,Hu 3,Ht 4,Ht 5,Ht 6,Ht 7])
 | 43=>some (.lin [Ht 0,Ht 1,Ht 2,Hu 3,Ht 4,Ht 5,Ht 6,Ht 7])
 | _=>none
@[go_sem] theorem ord200_0:ord200 0=none:=rfl
@[go_sem] theorem ord200_1:ord200 1=none:=rfl
@[go_sem] theorem ord200_2:ord200 2=none:=rfl
@[go_sem] theorem ord200_3:ord200 3=none:=rfl
@[go_sem] theorem ord200_4:ord200 4=none:=rfl
attribute [go_sem] ord200.eq_1
@[go_sem] theorem ord200_6:ord200 6=none:=rfl
@[go_sem] theorem ord200_7:ord200 7=none:=rfl
@[go_sem] theorem ord200_8:ord200 8=none:=rfl
@[go_sem] theorem ord200_9:ord200 9=none:=rfl
attribute [go_sem] ord200.eq_2
@[go_sem] theorem ord200_10:ord200 10=none:=rfl
@[go_sem] theorem ord200_12:ord200 12=none:=rfl
@[go_sem] theorem ord200_13:ord200 13=none:=rfl
@[go_sem] theorem ord200_14:ord200 14=none:=rfl
@[go_sem] theorem ord200_15:ord200 15=none:=rfl
@[go_sem] theorem ord200_16:ord200 16=none:=rfl
attribute [go_sem] ord200.eq_3
@[go_sem] theorem ord200_18:ord200 18=none:=rfl
@[go_sem] theorem ord200_19:ord200 19=none:=rfl
@[go_sem] theorem ord200_20:ord200 20=none:=rfl
@[go_sem] theorem ord200_21:ord200 21=none:=rfl
attribute [go_sem] ord200.eq_4
@[go_sem] theorem ord200_22:ord200 22=none:=rfl
@[go_sem] theorem ord200_24:ord200 24=none:=rfl
@[go_sem] theorem ord200_25:ord200 25=none:=rfl
@[go_sem] theorem ord200_26:ord200 26=none:=rfl
@[go_sem] theorem ord200_27:ord200 27=none:=rfl
@[go_sem] theorem ord200_28:ord200 28=none:=rfl
@[go_sem] theorem ord200_29:ord200 29=none:=rfl
@[go_sem] theorem ord200_30:ord200 30=none:=rfl
@[go_sem] theorem ord200_31:ord200 31=none:=rfl
@[go_sem] theorem ord200_32:ord200 32=none:=rfl
@[go_sem] theorem ord200_33:ord200 33=none:=rfl
@[go_sem] theorem ord200_34:ord200 34=none:=rfl
attribute [go_sem] ord200.eq_5
@[go_sem] theorem ord200_36:ord200 36=none:=rfl
@[go_sem] theorem ord200_37:ord200 37=none:=rfl
@[go_sem] theorem ord200_38:ord200 38=none:=rfl
theorem ord200_39:ord200 39=some (.lin [Ht 0,Ht 1,Ht 2,Hu 3,Ht 4,Ht 5,Ht 6,Ht 7]):=rfl
@[go_sem] theorem ord200_40:ord200 40=none:=rfl
theorem ord200_41:ord200 41=some (.lin [Ht 0,Ht 1,Ht 2,Hu 3,Ht 4,Ht 5,Ht 6,Ht 7]):=rfl
@[go_sem] theorem ord200_42:ord200 42=none:=rfl
theorem ord200_43:ord200 43=some (.lin [Ht 0,Ht 1,Ht 2,Hu 3,Ht 4,Ht 5,Ht 6,Ht 7]):=rfl
@[go_sem] theorem ord200_44:ord200 44=none:=rfl
def ord201:Ords
 | _=>none
@[go_sem] theorem ord201_0:ord201 0=none:=rfl
@[go_sem] theorem ord201_1:ord201 1=none:=rfl
def ord202:Ords
 | _=>none
@[go_sem] theorem ord202_0:ord202 0=none:=rfl
@[go_sem] theorem ord202_1:ord202 1=none:=rfl
def ord204:Ords
 | 1=>some (.lin [Ht 0,Ht 1,Hu 2,Ht 3,Ht 4,Ht 5,Ht 6,Ht 7,Ht 8,Ht 9,Ht 10,Ht 11])
 | _=>none
@[go_sem] theorem ord204_0:ord204 0=none:=rfl
attribute [go_sem] ord204.eq_1
def ord205:Ords
 | 2=>some (.lin [Ht 0,Ht 1,Ht 2,Hu 3,Ht 4,Ht 5,Ht 6,Ht 7,Hu 8,Ht 9,Ht 10,Ht 11,Ht 12,Ht 13,Ht 14,Hu 15,Ht 16,Ht 17,Hu 18,Ht 19,Ht 20,Ht 21,Ht 22,Ht 23,Ht 24,Ht 25,Hu 26,Ht 27,Ht 28,Hu 29,Ht 30,Ht 31,Ht 32,Ht 33,Ht 34,Ht 35,Ht 36])
 | 4=>some (.lin [Hs 0,Ht 1,Hy 2,Hs 3,Hs 4,Hs 5,Hs 6,Hs 7,Hs 8,Hs 9,Ht 10,Hs 11,Hs 12,Hy 13,Hs 14,Ht 15,Hy 16,Hs 17,Hs 18,Hs 19,Hs 20,Hs 21,Hs 22,Hs 23,Hs 24,Hs 25,Hs 26,Hs 27,Hs 28,Hs 29,Hs 30])
 | _=>none
@[go_sem] theorem ord205_0:ord205 0=none:=rfl
@[go_sem] theorem ord205_1:ord205 1=none:=rfl
attribute [go_sem] ord205.eq_1
@[go_sem] theorem ord205_3:ord205 3=none:=rfl
attribute [go_sem] ord205.eq_2
@[go_sem] theorem ord205_5:ord205 5=none:=rfl
@[go_sem] theorem ord205_6:ord205 6=none:=rfl
def ord206:Ords
 | _=>none
@[go_sem] theorem ord206_0:ord206 0=none:=rfl
@[go_sem] theorem ord206_1:ord206 1=none:=rfl
def ord207:Ords
 | _=>none
@[go_sem] theorem ord207_0:ord207 0=none:=rfl
@[go_sem] theorem ord207_1:ord207 1=none:=rfl
@[go_sem] theorem ord207_2:ord207 2=none:=rfl
@[go_sem] theorem ord207_3:ord207 3=none:=rfl
@[go_sem] theorem ord207_4:ord207 4=none:=rfl
@[go_sem] theorem ord207_5:ord207 5=none:=rfl
@[go_sem] theorem ord207_6:ord207 6=none:=rfl
@[go_sem] theorem ord207_7:ord207 7=none:=rfl
def ord208:Ords
 | 6=>some (.lin [Hs 0,Hs 1,Hs 2,Hs 3,Hs 4,Hs 5,Hs 6,Hs 7,Hs 8])
 | _=>none
@[go_sem] theorem ord208_0:ord208 0=none:=rfl
@[go_sem] theorem ord208_1:ord208 1=none:=rfl
@[go_sem] theorem ord208_2:ord208 2=none:=rfl
@[go_sem] theorem ord208_3:ord208 3=none:=rfl
@[go_sem] theorem ord208_4:ord208 4=none:=rfl
@[go_sem] theorem ord208_5:ord208 5=none:=rfl
attribute [go_sem] ord208.eq_1
@[go_sem] theorem ord208_7:ord208 7=none:=rfl
@[go_sem] theorem ord208_8:ord208 8=none:=rfl
@[go_sem] theorem ord208_9:ord208 9=none:=rfl
def ord209:Ords
 | 2=>some (.lin [Ht 0,Ht 1,Hu 2,Ht 3,Ht 4,Ht 5,Ht 6,Ht 7])
 | _=>none
@[go_sem] theorem ord209_0:ord209 0=none:=rfl
@[go_sem] theorem ord209_1:ord209 1=none:=rfl
attribute [go_sem] ord209.eq_1
@[go_sem] theorem ord209_3:ord209 3=none:=rfl
@[go_sem] theorem ord209_4:ord209 4=none:=rfl
def ord210:Ords
 | _=>none
@[go_sem] theorem ord210_0:ord210 0=none:=rfl
@[go_sem] theorem ord210_1:ord210 1=none:=rfl
@[go_sem] theorem ord210_2:ord210 2=none:=rfl
@[go_sem] theorem ord210_3:ord210 3=none:=rfl
@[go_sem] theorem ord210_4:ord210 4=none:=rfl
@[go_sem] theorem ord210_5:ord210 5=none:=rfl
@[go_sem] theorem ord210_6:ord210 6=none:=rfl
@[go_sem] theorem ord210_8:ord210 8=none:=rfl
@[go_sem] theorem ord210_9:ord210 9=none:=rfl
@[go_sem] theorem ord210_10:ord210 10=none:=rfl
@[go_sem] theorem ord210_11:ord210 11=none:=rfl
@[go_sem] theorem ord210_12:ord210 12=none:=rfl
@[go_sem] theorem ord210_13:ord210 13=none:=rfl
@[go_sem] theorem ord210_14:ord210 14=none:=rfl
@[go_sem] theorem ord210_15:ord210 15=none:=rfl
def ord215:Ords
 | _=>none
@[go_sem] theorem ord215_0:ord215 0=none:=rfl
@[go_sem] theorem ord215_1:ord215 1=none:=rfl
@[go_sem] theorem ord215_2:ord215 2=none:=rfl
@[go_sem] theorem ord215_3:ord215 3=none:=rfl
@[go_sem] theorem ord215_4:ord215 4=none:=rfl
@[go_sem] theorem ord215_5:ord215 5=none:=rfl
@[go_sem] theorem ord215_6:ord215 6=none:=rfl
@[go_sem] theorem ord215_7:ord215 7=none:=rfl
@[go_sem] theorem ord215_8:ord215 8=none:=rfl
def ord217:Ords
 | 1=>some (.lin [Ht 0,Ht 1,Ht 2,Hu 3,Ht 4,Ht 5,Ht 6,Ht 7,Ht 8])
 | _=>none
@[go_sem] theorem ord217_0:ord217 0=none:=rfl
attribute [go_sem] ord217.eq_1
def ord218:Ords
 | 1=>some (.lin [Ht 0,Ht 1,Hu 2,Ht 3,Ht 4,Ht 5,Ht 6,Ht 7])
 | _=>none
@[go_sem] theorem ord218_0:ord218 0=none:=rfl
attribute [go_sem] ord218.eq_1
def ord219:Ords
 | _=>none
@[go_sem] theorem ord219_0:ord219 0=none:=rfl
@[go_sem] theorem ord219_1:ord219 1=none:=rfl
@[go_sem] theorem ord219_3:ord219 3=none:=rfl
@[go_sem] theorem ord219_4:ord219 4=none:=rfl
@[go_sem] theorem ord219_5:ord219 5=none:=rfl
@[go_sem] theorem ord219_6:ord219 6=none:=rfl
def ord228:Ords
 | 3=>some (.lin [Hs 0,Hs 1,Hs 2,Hs 3,Hs 4,Hs 5,Hs 6,Hs 7,Hs 8,Hs 9,Hs 10,Hs 11,Hs 12,Hs 13,Hs 14,Hs 15,Hs 16,Hs 17,Hs 18,Hs 19,Hs 20,Ht 21,Hs 22,Ht 23])
 | _=>none
@[go_sem] theorem ord228_0:ord228 0=none:=rfl
@[go_sem] theorem ord228_1:ord228 1=none:=rfl
attribute [go_sem] ord228.eq_1
@[go_sem] theorem ord228_2:ord228 2=none:=rfl
end Yt
namespace Yt
open Go Go.Vc Go.Proofs
structure V where
 k:Int
 i:Int
 s:ByteArray
def V.c (v:V):List AV:=[.pr (.int .i64 v.k),.pr (.int .i64 v.i),.pr (.string v.s)]
def rowA (r:List V):AV:=.im 3 (r.map V.c)
def cmpI (x y:Int):Int:=if x<y then -1 else if y<x then 1 else 0
def cmpS (x y:ByteArray):Int:=if Op.bytesLess x.toList y.toList then -1 else if !(Op.bytesLess x.toList y.toList||decide (x=y)) then 1 else 0
def nz:List Int->Int
 | []=>0
 | x::r=>if x=0 then nz r else x
def cmpV (a b:V):Int:=nz [cmpI a.k b.k,cmpI a.i b.i,cmpS a.s b.s]
def cmpR:List V->List V->Int
 | [],[]=>0
 | [],_::_=>-1
 | _::_,[]=>1
 | a::r,b::r'=>if cmpV a b=0 then cmpR r r' else cmpV a b
theorem s72 (x:Int):Spec0 Tryz.prog 201 [.pr (.int .i64 x)] (·=.pr (.bool false)):=by refine spec0_of_vc tabOk elems ord201 Tryz.func201 rfl (rl:=[.tmp 2]) rfl (by kernel_rfl) rfl ?_;refine Aa ?_;simp
theorem s73 (x:ByteArray):Spec0 Tryz.prog 202 [.pr (.string x)] (·=.pr (.bool false)):=by refine spec0_of_vc tabOk elems ord202 Tryz.func202 rfl (rl:=[.tmp 2]) rfl (by kernel_rfl) rfl ?_;refine Aa ?_;simp
theorem s62 (x y:Int):Spec0 Tryz.prog 181 [.pr (.int .i64 x),.pr (.int .i64 y)] (·=.pr (.int .i64 (cmpI x y))):=by
 refine spec0_of_vc tabOk elems ord181 Tryz.func181 rfl (rl:=[.tmp 4]) rfl (by kernel_rfl) rfl ?_;refine Aa ?_;refine .pure _ (s72 x) rfl λr hr _=>?_;subst hr;refine Aa ?_;refine .pure _ (s72 y) rfl λr hr _=>?_;subst hr;refine Aa ?_;refine ⟨λh=>?_,λh=>?_⟩
 ·refine Aa ?_;simp at h;simp[h,cmpI]
 ·refine Aa ?_;simp at h;have h':¬x<y:=(by omega);refine ⟨λg=>?_,λg=>?_⟩
  ·refine Aa ?_;simp at g;simp[g,h',cmpI]
  ·refine Aa ?_;simp at g;have g':¬y<x:=(by omega);simp[g',h',cmpI]
theorem s63 (x y:ByteArray):Spec0 Tryz.prog 182 [.pr (.string x),.pr (.string y)] (·=.pr (.int .i64 (cmpS x y))):=by
 refine spec0_of_vc tabOk elems ord182 Tryz.func182 rfl (rl:=[.tmp 4]) rfl (by kernel_rfl) rfl ?_;refine Aa ?_;refine .pure _ (s73 x) rfl λr hr _=>?_;subst hr;refine Aa ?_;refine .pure _ (s73 y) rfl λr hr _=>?_;subst hr;refine Aa ?_;refine ⟨λh=>?_,λh=>?_⟩
 ·refine Aa ?_;simp[h,cmpS]
 ·refine Aa ?_;refine ⟨λg=>?_,λg=>?_⟩
  ·refine Aa ?_;simp only[h] at g;simp[cmpS,h];simp at g;exact g
  ·refine Aa ?_;simp only[h] at g;simp[cmpS,h];simp at g;exact g
theorem nz_take {l:List Int} {i:Nat} (hz:∀x∈l.take i,x=0):nz l=nz (l.drop i):=by
 induction l generalizing i with
 | nil=>simp
 | cons x r ih=>
   cases i with
   | zero=>rfl
   | succ i=>
     simp only[List.take_succ_cons,List.mem_cons,forall_eq_or_imp] at hz;simp only[nz,hz.1,if_true,List.drop_succ_cons];exact ih hz.2
def intsA (l:List Int):AV:=.im 1 (l.map λx=>[.pr (.int .i64 x)])
theorem wrap_succ {i:Nat} {n:Nat} (h:i<n) (hn:n<4611686018427387904):IntKind.i64.wrap ((i:Int)+1)=((i+1:Nat):Int):=by rw[wrap_i64]<;>omega
theorem s61 (l:List Int) (hl:l.length<4611686018427387904):Spec0 Tryz.prog 180 [intsA l] (·=.pr (.int .i64 (nz l))):=by
 refine spec0_of_vc tabOk elems ord180 Tryz.func180 rfl (rl:=[.tmp 2]) rfl (by kernel_rfl) rfl ?_;(simp -implicitDefEqProofs only[go_sem,intsA];repeat (refine GO ?_;simp -implicitDefEqProofs only[go_sem,intsA]))
 refine LOOP.mk (ι:={i:Nat//i<=l.length/\∀x∈l.take i,x=0}) (λi=>mkS [(3,.pr (.int .i64 0)),(6,.im 1 (l.map λx=>[.pr (.int .i64 x)])),(7,.pr (.int .i64 l.length)),(8,.pr (.int .i64 i.1))] [] []) (λi=>l.length-i.1)
  ⟨0,by simp⟩ [] rfl rfl ?_ (λi=>?_)
 ·refine Aa ?_;simp
 ·obtain ⟨i,hi,hz⟩:=i;refine Aa ?_;refine ⟨λh=>?_,λh=>?_⟩
  ·simp only[decide_eq_true_eq] at h;have hi':i<l.length:=(by omega);have hd:nz l=nz (l[i]::l.drop (i+1)):=(by rw[nz_take hz,List.drop_eq_getElem_cons hi']);refine Aa ?_;refine EL.map hi' ?_;refine Aa ?_;refine ⟨λg=>?_,λg=>?_⟩
   ·refine Aa ?_;simp at g;simp[hd,nz,g]
   ·refine Aa ?_;simp at g;refine BACK.mk ⟨i+1,hi',?_⟩ [] rfl rfl (by show l.length-(i+1)<l.length-i;omega) ?_
    ·intro x hx;rw[List.take_add_one,List.getElem?_eq_getElem hi'] at hx;rcases List.mem_append.1 hx with hx|hx
     ·exact hz x hx
     ·simp at hx;rw[hx];exact g
    ·refine Aa ?_;simp[wrap_succ hi' hl]
  ·refine Aa ?_;simp at h;have:i=l.length:=(by omega);subst this;have:nz l=0:=by rw[nz_take hz];simp[nz]
   simp[this]
theorem s45 (a b:V):Spec0 Tryz.prog 144 [.ag a.c,.ag b.c] (·=.pr (.int .i64 (cmpV a b))):=by
 refine spec0_of_vc tabOk elems ord144 Tryz.func144 rfl (rl:=[.tmp 4]) rfl (by kernel_rfl) rfl ?_;refine Ao ?_;refine .pure _ (s62 a.k b.k) rfl λr hr _=>?_;subst hr;refine Aa ?_;refine .pure _ (s62 a.i b.i) rfl λr hr _=>?_;subst hr;refine Aa ?_;refine .pure _ (s63 a.s b.s) rfl λr hr _=>?_;subst hr;refine Aa ?_;refine .lendTo (s61 [cmpI a.k b.k,cmpI a.i b.i,cmpS a.s b.s] (by simp)) ?_ (by rintro _ rfl;rfl) λr hr=>?_
 ·refine Aa ?_;simp[intsA]
 subst hr;refine Aa ?_;rfl
theorem cmpR_cons {a b:List V} {i:Nat} (ha:i<a.length) (hb:i<b.length):cmpR (a.drop i) (b.drop i)=if cmpV a[i] b[i]=0 then cmpR (a.drop (i+1)) (b.drop (i+1)) else cmpV a[i] b[i]:=by rw[List.drop_eq_getElem_cons ha,List.drop_eq_getElem_cons hb];rfl
theorem cmpR_long {a b:List V} {i:Nat} (ha:i<a.length) (hb:b.length<=i):cmpR (a.drop i) (b.drop i)=1:=by rw[List.drop_eq_getElem_cons ha,List.drop_of_length_le hb];rfl
theorem cmpR_end {a b:List V} {i:Nat} (ha:a.length<=i) (hb:i<=b.length) (hi:i=a.length):cmpR (a.drop i) (b.drop i)=if a.length<b.length then -1 else 0:=by
 rw[List.drop_of_length_le ha];by_cases h:i<b.length
 ·rw[List.drop_eq_getElem_cons h,if_pos (by omega)];rfl
 ·rw[List.drop_of_length_le (by omega),if_neg (by omega)];rfl
theorem s44 (a b:List V) (ha:a.length<4611686018427387904):Spec0 Tryz.prog 156 [rowA a,rowA b,.fn 144 []] (·=.pr (.int .i64 (cmpR a b))):=by
 refine spec0_of_vc tabOk elems ord156 Tryz.func156 rfl (rl:=[.tmp 6]) rfl (by kernel_rfl) rfl ?_;refine A3 ?_
 refine LOOP.mk (ι:={i:Nat//i<=a.length/\i<=b.length/\cmpR a b=cmpR (a.drop i) (b.drop i)}) (λi=>mkS [(0,rowA a),(1,rowA b),(2,.fn 144 []),(11,rowA a),(12,.pr (.int .i64 a.length)),(13,.pr (.int .i64 i.1))] [] []) (λi=>a.length-i.1)
  ⟨0,by simp⟩ [] rfl rfl ?_ (λi=>?_)
 ·refine A3 ?_;simp
 ·obtain ⟨i,hi,hj,hz⟩:=i;refine A3 ?_;refine ⟨λh=>?_,λh=>?_⟩
  ·simp only[decide_eq_true_eq] at h;have hi':i<a.length:=(by omega);refine Aa ?_;refine EL.map hi' ?_;refine Ao ?_;refine ⟨λg=>?_,λg=>?_⟩
   ·refine Aa ?_;simp at g;simp[hz,cmpR_long hi' (by omega)]
   ·simp at g;have hj':i<b.length:=(by omega);refine Aa ?_;refine EL.map hj' ?_;refine Ao ?_;refine .pure _ (s45 a[i] b[i]) rfl λr hr _=>?_;subst hr;refine Aa ?_;refine ⟨λe=>?_,λe=>?_⟩
    ·refine Aa ?_;simp at e;simp[hz,cmpR_cons hi' hj',e]
    ·refine Aa ?_;simp at e;refine BACK.mk ⟨i+1,hi',hj',by rw[hz,cmpR_cons hi' hj',if_pos e]⟩ [] rfl rfl (by show a.length-(i+1)<a.length-i;omega) ?_;refine A3 ?_;simp[wrap_succ hi' ha]
  ·simp at h;have hil:i=a.length:=(by omega);refine Aa ?_;refine ⟨λg=>?_,λg=>?_⟩
   ·refine Aa ?_;simp at g;simp[hz,cmpR_end h hj hil,g]
   ·refine Aa ?_;simp at g;have:¬a.length<b.length:=(by omega);simp[hz,cmpR_end h hj hil,this]
theorem s13 (a b:List V) (ha:a.length<4611686018427387904):Spec0 Tryz.prog 107 [rowA a,rowA b] (·=.pr (.int .i64 (cmpR a b))):=by refine spec0_of_vc tabOk elems ord107 Tryz.func107 rfl (rl:=[.tmp 4]) rfl (by kernel_rfl) rfl ?_;refine A3 ?_;refine .pure _ (s44 a b ha) rfl λr hr _=>?_;subst hr;exact Ag
def noS:ByteArray:=⟨#[]⟩
def inB (x lo hi:Int):Bool:=decide (lo<=x)&&decide (x<=hi)
def okV (v:V):Bool:=
 if v.k=1 then decide (v.i=0)&&decide (v.s=noS)
 else if v.k=2 then inB v.i 0 1&&decide (v.s=noS)
 else if v.k=3 then inB v.i (-1152921504606846976) 1152921504606846976&&decide (v.s=noS)
 else if v.k=4 then decide (v.i=0)&&decide ((v.s.size:Int)<=24)
 else false
def eqV (a b:V):Bool:=decide (a.k=b.k)&&decide (a.i=b.i)&&decide (a.s=b.s)
def bA (b:Bool):AV:=.pr (.bool b)
def iA (n:Int):AV:=.pr (.int .i64 n)
theorem s46 (a b:V):Spec0 Tryz.prog 51 [.ag a.c,.ag b.c] (·=bA (eqV a b)):=by
 refine spec0_of_vc tabOk elems ord51 Tryz.func51 rfl (rl:=[.tmp 4]) rfl (by kernel_rfl) rfl ?_;refine Ao ?_;refine VIF.split (λh=>?_) (λh=>?_)
 ·refine Aa ?_;refine VIF.split (λg=>?_) (λg=>?_)
  ·refine Aa ?_;simp at h g;simp[h,g,eqV,bA]
  ·refine Aa ?_;simp at h g;simp[h,g,eqV,bA]
 ·refine Aa ?_;simp at h;simp[h,eqV,bA]
theorem s74 (x y:Int) (hy:0<=y) (hy':y<4611686018427387904):Spec0 Tryz.prog 178 [iA x,iA y] (·=bA (inB x (-y) y)):=by
 refine spec0_of_vc tabOk elems ord178 Tryz.func178 rfl (rl:=[.tmp 4]) rfl (by kernel_rfl) rfl ?_;have hw:IntKind.i64.wrap (0-y)=-y:=by rw[wrap_i64]<;>omega
 refine Ab ?_;refine VIF.split (λh=>?_) (λh=>?_)
 ·refine Aa ?_;rw[hw] at h;simp at h;simp[h,inB,bA]
 ·refine Aa ?_;rw[hw] at h;simp at h;simp[h,inB,bA];omega
theorem s64 (x y z:Int):Spec0 Tryz.prog 134 [iA x,iA y,iA z] (·=bA (inB x y z)):=by
 refine spec0_of_vc tabOk elems ord134 Tryz.func134 rfl (rl:=[.tmp 6]) rfl (by kernel_rfl) rfl ?_;refine Ab ?_;refine VIF.split (λh=>?_) (λh=>?_)
 ·refine Aa ?_;simp at h;simp[h,inB,bA]
 ·refine Aa ?_;simp at h;simp[h,inB,bA];omega
theorem s53 (x y z:Int):Spec0 Tryz.prog 102 [iA x,iA y,iA z] (·=bA (inB x y z)):=by
 refine spec0_of_vc tabOk elems ord102 Tryz.func102 rfl (rl:=[.tmp 6]) rfl (by kernel_rfl) rfl ?_;refine Ab ?_;refine VIF.split (λh=>?_) (λh=>?_)
 ·refine Aa ?_;simp at h;simp[h,inB,bA]
 ·refine Aa ?_;simp at h;simp[h,inB,bA];omega
theorem s69 (v:V):Spec0 Tryz.prog 159 [.ag v.c] (·=iA (if okV v then 0 else 1)):=by
 refine spec0_of_vc tabOk elems ord159 Tryz.func159 rfl (rl:=[.tmp 2]) rfl (by kernel_rfl) rfl ?_;refine Ao ?_
 iterate 9 all_goals (first
                       | (refine VIF.split (λh=>?_) (λh=>?_)<;>(simp -implicitDefEqProofs only[go_sem];repeat (refine GO ?_;simp -implicitDefEqProofs only[go_sem])))
                       | (refine .pure _ (s74 v.i 1152921504606846976 (by decide) (by decide)) rfl λr hr _=>?_
                          subst hr;(simp -implicitDefEqProofs only[go_sem,bA];repeat (refine GO ?_;simp -implicitDefEqProofs only[go_sem,bA])))
                       | skip)
 all_goals simp_all [okV,inB,iA,bA,noS]
 all_goals (intros;omega)
theorem s59 (v:V):Spec0 Tryz.prog 158 [.ag v.c] (·=bA (!okV v)):=by refine spec0_of_vc tabOk elems ord158 Tryz.func158 rfl (rl:=[.tmp 2]) rfl (by kernel_rfl) rfl ?_;refine Ao ?_;refine .pure _ (s69 v) rfl λr hr _=>?_;subst hr;refine Ab ?_;cases okV v<;>simp[bA]
def idxI:Option Nat->Int
 | some i=>i
 | none=>-1
def idxA {α:Type} (p:α->Bool) (l:List α):AV:=iA (idxI (l.findIdx? p))
theorem idx_any {α:Type} {p:α->Bool} {l:List α}:decide (0<=idxI (l.findIdx? p))=l.any p:=by
 cases h:l.findIdx? p with
 | none=>rw[List.findIdx?_eq_none_iff] at h;simp[idxI] at h ⊢;exact h
 | some i=>rw[List.findIdx?_eq_some_iff_getElem] at h;obtain ⟨h1,h2,_⟩:=h;simp[idxI] at h2 ⊢;exact ⟨_,List.getElem_mem h1,h2⟩
theorem idx_none {α:Type} {p:α->Bool} {l:List α} (h:∀j (hj:j<l.length),p l[j]=false):l.findIdx? p=none:=by rw[List.findIdx?_eq_none_iff];intro x hx;obtain ⟨j,hj,rfl⟩:=List.mem_iff_getElem.1 hx;exact h j hj
theorem idx_some {α:Type} {p:α->Bool} {l:List α} {i:Nat} (hi:i<l.length) (h:∀j (hj:j<l.length),j<i->p l[j]=false) (hp:p l[i]=true):l.findIdx? p=some i:=by rw[List.findIdx?_eq_some_iff_getElem];exact ⟨hi,hp,λj hj=>by simp[h j (by omega) hj]⟩
theorem s68 (g:Nat) (caps:List AV) (hc:noIds caps=true) (p:V->Bool) (hg:∀v:V,Spec0 Tryz.prog g (.ag v.c::caps) (·=bA (p v))) (a:List V) (ha:a.length<4611686018427387904) :
 Spec0 Tryz.prog 177 [rowA a,.fn g caps] (·=idxA p a):=by
 refine spec0_of_vc tabOk elems ord177 Tryz.func177 rfl (rl:=[.tmp 4]) rfl (by kernel_rfl) rfl ?_;refine A3 ?_
 refine LOOP.mk (ι:={i:Nat//i<=a.length/\∀j (hj:j<a.length),j<i->p a[j]=false}) (λi=>mkS [(0,rowA a),(1,.fn g caps),(7,.pr (.int .i64 a.length)),(8,.pr (.int .i64 i.1))] [] []) (λi=>a.length-i.1)
  ⟨0,by simp⟩ [] rfl rfl ?_ (λi=>?_)
 ·refine A3 ?_;simp[wks_noId caps hc]
 ·obtain ⟨i,hi,hz⟩:=i;refine A3 ?_;refine ⟨λh=>?_,λh=>?_⟩
  ·simp only[decide_eq_true_eq] at h;have hi':i<a.length:=(by omega);refine Aa ?_;refine EL.map hi' ?_;refine Ao ?_;refine .pure _ (hg a[i]) ?_ λr hr _=>?_
   ·simp[noIds,AV.noId,V.c,hc]
   subst hr;refine Ad ?_;refine VIF.split (λe=>?_) (λe=>?_)
   ·refine Aa ?_;simp[idxA,idxI,iA,idx_some hi' hz e]
   ·refine Aa ?_;refine BACK.mk ⟨i+1,hi',λj hj hji=>?_⟩ [] rfl rfl (by show a.length-(i+1)<a.length-i;omega) ?_
    ·by_cases hji':j=i
     ·subst hji';exact e
     ·exact hz j hj (by omega)
    ·refine A3 ?_;simp[wrap_succ hi' ha,wks_noId caps hc]
  ·simp at h;refine Aa ?_;simp[idxA,idxI,iA,idx_none λj hj=>hz j hj (by omega)]
def okR (r:List V):Int:=if 12<r.length then 2 else if r.all okV then 0 else 1
theorem s58 (a:List V) (ha:a.length<4611686018427387904):Spec0 Tryz.prog 131 [rowA a,.fn 158 []] (·=bA (!a.all okV)):=by refine spec0_of_vc tabOk elems ord131 Tryz.func131 rfl (rl:=[.tmp 4]) rfl (by kernel_rfl) rfl ?_;refine A3 ?_;refine .pure _ (s68 158 [] rfl (λv=>!okV v) (λv=>s59 v) a ha) rfl λr hr _=>?_;subst hr;refine B7 ?_;rw[idx_any];simp[bA,List.not_all_eq_any_not]
theorem s36 (a:List V) (ha:a.length<4611686018427387904):Spec0 Tryz.prog 110 [rowA a] (·=iA (okR a)):=by
 refine spec0_of_vc tabOk elems ord110 Tryz.func110 rfl (rl:=[.tmp 2]) rfl (by kernel_rfl) rfl ?_;refine A3 ?_;refine VIF.split (λh=>?_) (λh=>?_)
 ·refine Aa ?_;simp at h;simp[okR,iA];omega
 ·refine Aa ?_;refine .pure _ (s58 a ha) rfl λr hr _=>?_;subst hr;refine Ad ?_;simp at h;have h':¬12<a.length:=(by omega);refine VIF.split (λg=>?_) (λg=>?_)
  ·refine Aa ?_;simp only[Bool.not_eq_true'] at g;simp[okR,iA,g,h']
  ·refine Aa ?_;simp only[Bool.not_eq_false'] at g;simp[okR,iA,g,h']
def okW (w:Int):Bool:=inB w (-72057594037927936) 72057594037927936
theorem s37 (w:Int):Spec0 Tryz.prog 111 [iA w] (·=bA (okW w)):=by
 refine spec0_of_vc tabOk elems ord111 Tryz.func111 rfl (rl:=[.tmp 2]) rfl (by kernel_rfl) rfl ?_;refine Ab ?_;refine VIF.split (λh=>?_) (λh=>?_)
 ·refine Aa ?_;simp at h;simp[h,okW,inB,bA]
 ·refine Aa ?_;simp at h;simp[okW,inB,bA];omega
structure It where
 row:List V
 w:Int
def It.c (t:It):List AV:=[rowA t.row,iA t.w]
def setA (z:List It):AV:=.im 2 (z.map It.c)
def okI (t:It):Bool:=decide (okR t.row=0)&&okW t.w
theorem s35 (t:It) (ht:t.row.length<4611686018427387904):Spec0 Tryz.prog 136 [.ag t.c] (·=bA (!okI t)):=by
 refine spec0_of_vc tabOk elems ord136 Tryz.func136 rfl (rl:=[.tmp 2]) rfl (by kernel_rfl) rfl ?_;refine A4 ?_;refine .pure _ (s36 t.row ht) rfl λr hr _=>?_;subst hr;refine Ab ?_;refine VIF.split (λh=>?_) (λh=>?_)
 ·refine Aa ?_;simp at h;simp[okI,h,bA]
 ·refine Aa ?_;refine .pure _ (s37 t.w) rfl λr hr _=>?_;subst hr;refine Ad ?_;simp at h;simp[okI,h]
theorem s40 (a b:It) (ha:a.row.length<4611686018427387904):Spec0 Tryz.prog 138 [.ag a.c,.ag b.c] (·=iA (cmpR a.row b.row)):=by refine spec0_of_vc tabOk elems ord138 Tryz.func138 rfl (rl:=[.tmp 4]) rfl (by kernel_rfl) rfl ?_;refine A4 ?_;refine .pure _ (s13 a.row b.row ha) rfl λr hr _=>?_;subst hr;refine Aa ?_;rfl
def so (z:List It):Ob:=⟨2,z.map It.c⟩
theorem so_leafy (z:List It):(so z).leafy:=by rw[so,leafy_do];exact leafs2_map λx _=>by simp[It.c,leafs,rowA,iA,AV.leaf]
structure Win (z z':List It) (a b:Nat):Prop where
 perm:z'.Perm z
 out:∀k,k<a\/b<=k->z'[k]?=z[k]?
 ins:∀k,a<=k->k<b->∃j,a<=j/\j<b/\z'[k]?=z[j]?
theorem Win.refl (z:List It) (a b:Nat):Win z z a b:=⟨.refl _,λ_ _=>rfl,λk h1 h2=>⟨k,h1,h2,rfl⟩⟩
theorem Win.trans {x y z:List It} {a b:Nat} (h:Win x y a b) (g:Win y z a b):Win x z a b:=by refine ⟨g.perm.trans h.perm,λk hk=>(g.out k hk).trans (h.out k hk),λk h1 h2=>?_⟩;obtain ⟨j,j1,j2,j3⟩:=g.ins k h1 h2;obtain ⟨i,i1,i2,i3⟩:=h.ins j j1 j2;exact ⟨i,i1,i2,j3.trans i3⟩
theorem Win.wide {x y:List It} {a b a' b':Nat} (h:Win x y a b) (ha:a'<=a) (hb:b<=b'):Win x y a' b':=by
 refine ⟨h.perm,λk hk=>h.out k (by omega),λk h1 h2=>?_⟩;by_cases hk:a<=k/\k<b
 ·obtain ⟨j,j1,j2,j3⟩:=h.ins k hk.1 hk.2;exact ⟨j,by omega,by omega,j3⟩
 ·exact ⟨k,h1,h2,h.out k (by omega)⟩
theorem Win.len {x y:List It} {a b:Nat} (h:Win x y a b):y.length=x.length:=h.perm.length_eq
def swp (z:List It) (i j:Nat) (hi:i<z.length) (hj:j<z.length):List It:=(z.set i z[j]).set j z[i]
theorem swp_get {z:List It} {i j:Nat} (hi:i<z.length) (hj:j<z.length) (k:Nat):(swp z i j hi hj)[k]?=if k=j then z[i]? else if k=i then z[j]? else z[k]?:=by
 simp only[swp,List.getElem?_set,List.length_set];by_cases h1:k=j
 ·subst h1;simp[hj,hi]
 ·have h1':¬j=k:=λe=>h1 e.symm;rw[if_neg h1',if_neg h1];by_cases h2:k=i
  ·subst h2;simp[hi,hj]
  ·have h2':¬i=k:=λe=>h2 e.symm;rw[if_neg h2',if_neg h2]
theorem swp_win {z:List It} {i j a b:Nat} (hi:i<z.length) (hj:j<z.length) (h1:a<=i) (h2:i<b) (h3:a<=j) (h4:j<b):Win z (swp z i j hi hj) a b:=by
 refine ⟨?_,λk hk=>?_,λk k1 k2=>?_⟩
 ·exact List.set_set_perm hi hj
 ·rw[swp_get,if_neg (by omega),if_neg (by omega)]
 ·rw[swp_get];by_cases e1:k=j
  ·exact ⟨i,h1,h2,by rw[if_pos e1]⟩
  ·by_cases e2:k=i
   ·exact ⟨j,h3,h4,by rw[if_neg e1,if_pos e2]⟩
   ·exact ⟨k,k1,k2,by rw[if_neg e1,if_neg e2]⟩
theorem swp_map {z:List It} {i j:Nat} (hi:i<z.length) (hj:j<z.length):((z.map It.c).set i (It.c z[j])).set j (It.c z[i])=(swp z i j hi hj).map It.c:=by simp[swp,List.map_set]
theorem wrap_add {a b:Nat} (h:a+b<4611686018427387904):IntKind.i64.wrap ((a:Int)+(b:Int))=((a+b:Nat):Int):=by rw[wrap_i64]<;>omega
theorem wrap_sub {a b:Nat} (h:b<=a) (h':a<4611686018427387904):IntKind.i64.wrap ((a:Int)-(b:Int))=((a-b:Nat):Int):=by rw[wrap_i64]<;>omega
theorem wrap_add1 {a:Nat} (h:a<4611686018427387904):IntKind.i64.wrap ((a:Int)+1)=((a+1:Nat):Int):=by rw[wrap_i64]<;>omega
theorem wrap_sub1 {a:Nat} (h:1<=a) (h':a<4611686018427387904):IntKind.i64.wrap ((a:Int)-1)=((a-1:Nat):Int):=by rw[wrap_i64]<;>omega
structure Sw (z z':List It) (a b n:Nat):Prop where
 win:Win z z' a (b+n)
 get:∀k,z'[k]?=if a<=k/\k<a+n then z[k-a+b]? else if b<=k/\k<b+n then z[k-b+a]? else z[k]?
theorem Sw.zero (z:List It) (a b:Nat):Sw z z a b 0:=⟨.refl _ _ _,λk=>by rw[if_neg (by omega),if_neg (by omega)]⟩
theorem Sw.succ {z z':List It} {a b n:Nat} (h:Sw z z' a b n) (hab:a+(n+1)<=b) (ha:a+n<z'.length) (hb:b+n<z'.length):Sw z (swp z' (a+n) (b+n) ha hb) a b (n+1):=by
 refine ⟨(h.win.wide (Nat.le_refl _) (by omega)).trans (swp_win ha hb (by omega) (by omega) (by omega) (by omega)),λk=>?_⟩;rw[swp_get];by_cases e1:k=b+n
 ·rw[if_pos e1,h.get,if_neg (by omega),if_neg (by omega),if_neg (by omega),if_pos (by omega)];congr 1;omega
 ·rw[if_neg e1];by_cases e2:k=a+n
  ·rw[if_pos e2,h.get,if_neg (by omega),if_neg (by omega),if_pos (by omega)];congr 1;omega
  ·rw[if_neg e2,h.get];by_cases e3:a<=k/\k<a+n
   ·rw[if_pos e3,if_pos (by omega)]
   ·by_cases e4:b<=k/\k<b+n
    ·rw[if_neg e3,if_pos e4,if_neg (by omega),if_pos (by omega)]
    ·rw[if_neg e3,if_neg e4,if_neg (by omega),if_neg (by omega)]
theorem s76 (g:Nat) (z:List It) (a b n:Nat) (h1:a+n<=b) (h2:b+n<=z.length) (hl:z.length<2305843009213693952) :
 SpecO Tryz.prog 228 [.rf 0 0 z.length,iA a,iA b,iA n,.fn g []] (so z) (λr o'=>r=.tu []/\∃z',o'=so z'/\Sw z z' a b n):=by
 refine specO_of_vc tabOk elems ord228 Tryz.func228 rfl (rl:=[]) rfl (by kernel_rfl) rfl ?_;refine Am ?_
 refine LOOP.mk (ι:={p:Nat×List It//p.1<=n/\Sw z p.2 a b p.1}) (λp=>mkS [(0,.rf 0 0 z.length),(1,iA a),(2,iA b),(3,iA n),(10,iA p.1.1)] [(0,so p.1.2)] [0]) (λp=>n-p.1.1)
  ⟨(0,z),by simp,.zero _ _ _⟩ [(0,some 0)] rfl rfl ?_ (λp=>?_)
 ·refine Am ?_;exact ⟨rfl,.same (so z) _ _ (so_leafy z) rfl⟩
 ·obtain ⟨⟨i,y⟩,hi,hs⟩:=p;have hlen:=hs.win.len;simp only at hi hs hlen;refine Am ?_;refine VIF.split (λh=>?_) (λh=>?_)
  ·simp only[decide_eq_true_eq] at h;have hb:b+i<y.length:=(by omega);have ha:a+i<y.length:=(by omega);have w1:=wrap_add (show b+i<4611686018427387904 by omega);have w2:=wrap_add (show a+i<4611686018427387904 by omega);refine Co ?_;refine ⟨by omega,EL.map hb ?_⟩;refine C0 ?_;refine ⟨by omega,EL.map ha ?_⟩;refine C0 ?_;refine ⟨by omega,EL.map ha ?_⟩;refine C0 ?_;refine ⟨by omega,EL.setmap (by omega) hb ?_⟩;refine C0 ?_;have w3:=wrap_add1 (show i<4611686018427387904 by omega);refine BACK.mk ⟨(i+1,swp y (a+i) (b+i) ha hb),by show i+1<=n;omega,hs.succ (by omega) ha hb⟩ [(0,some 0)] rfl rfl (by show n-(i+1)<n-i;omega) ?_;(simp -implicitDefEqProofs only[go_sem,iA,so,w3];repeat (refine GO ?_;simp -implicitDefEqProofs only[go_sem,iA,so,w3]));exact .same (so (swp y (a+i) (b+i) ha hb)) _ _ (λx hx=>so_leafy (swp y (a+i) (b+i) ha hb) x (by rw[so,<- swp_map];exact hx)) (swp_map ha hb)
  ·simp at h;have hin:i=n:=(by omega);subst hin;refine Aa ?_;refine FIN_O (o':=so y) rfl ?_ (so_leafy y) ?_
   ·rfl
   ·exact ⟨so y,⟨⟨rfl,y,rfl,hs⟩,rfl⟩,so_leafy y,rfl⟩
def rotG (y:List It) (i j m k:Nat):Option It:=if m-i<=k/\k<m-i+j then y[k+i]? else if m-i+j<=k/\k<m+j then y[k-j]? else y[k]?
structure Rot (z z':List It) (a m b:Nat):Prop where
 win:Win z z' a b
 get:∀k,z'[k]?=rotG z (m-a) (b-m) m k
theorem rot_left {y y':List It} {i j m:Nat} (hj:j<i) (hi:i<=m) (h:Sw y y' (m-i) m j) (k:Nat):rotG y' (i-j) j m k=rotG y i j m k:=by
 simp only[rotG];by_cases h1:k<m-i
 ·repeat (first|rw[if_pos (by omega)]|rw[if_neg (by omega)])
  rw[h.get];repeat (first|rw[if_pos (by omega)]|rw[if_neg (by omega)])
 ·by_cases h2:k<m-i+j
  ·rw[if_neg (by omega),if_neg (by omega),if_pos (by omega),h.get,if_pos (by omega)];congr 1;omega
  ·by_cases h3:k<m
   ·by_cases h4:k<m-(i-j)+j
    ·rw[if_pos (by omega),if_neg (by omega),if_pos (by omega),h.get];by_cases h5:k+(i-j)<m
     ·rw[if_neg (by omega),if_neg (by omega)];omega
     ·rw[if_neg (by omega),if_pos (by omega)];congr 1;omega
    ·rw[if_neg (by omega),if_pos (by omega),if_neg (by omega),if_pos (by omega),h.get,if_neg (by omega),if_neg (by omega)]
   ·by_cases h4:k<m+j
    ·by_cases h6:k<m-(i-j)+j
     ·rw[if_pos (by omega),if_neg (by omega),if_pos (by omega),h.get,if_neg (by omega),if_pos (by omega)];congr 1;omega
     ·rw[if_neg (by omega),if_pos (by omega),if_neg (by omega),if_pos (by omega),h.get,if_neg (by omega),if_neg (by omega)]
    ·rw[if_neg (by omega),if_neg (by omega),if_neg (by omega),if_neg (by omega),h.get,if_neg (by omega),if_neg (by omega)]
theorem rot_right {y y':List It} {i j m:Nat} (hj:i<j) (hi:i<=m) (h:Sw y y' (m-i) (m+j-i) i) (k:Nat):rotG y' i (j-i) m k=rotG y i j m k:=by
 simp only[rotG];by_cases h1:k<m-i
 ·rw[if_neg (by omega),if_neg (by omega),if_neg (by omega),if_neg (by omega),h.get,if_neg (by omega),if_neg (by omega)]
 ·by_cases h2:k<m-i+(j-i)
  ·rw[if_pos (by omega),if_pos (by omega),h.get,if_neg (by omega),if_neg (by omega)]
  ·by_cases h3:k<m+(j-i)
   ·rw[if_neg (by omega),if_pos (by omega),h.get];by_cases h4:k<m-i+j
    ·rw[if_pos (by omega),if_pos (by omega)];congr 1;omega
    ·omega
   ·by_cases h4:k<m+j
    ·rw[if_neg (by omega),if_neg (by omega),h.get,if_neg (by omega),if_pos (by omega)];by_cases h5:k<m-i+j
     ·omega
     ·rw[if_neg (by omega),if_pos (by omega)];congr 1;omega
    ·rw[if_neg (by omega),if_neg (by omega),if_neg (by omega),if_neg (by omega),h.get,if_neg (by omega),if_neg (by omega)]
theorem rot_end {y y':List It} {i m:Nat} (hi:i<=m) (h:Sw y y' (m-i) m i) (k:Nat):y'[k]?=rotG y i i m k:=by
 rw[h.get];simp only[rotG];by_cases h1:k<m-i
 ·rw[if_neg (by omega),if_neg (by omega),if_neg (by omega),if_neg (by omega)]
 ·by_cases h2:k<m
  ·rw[if_pos (by omega),if_pos (by omega)];congr 1;omega
  ·by_cases h3:k<m+i
   ·rw[if_neg (by omega),if_pos (by omega),if_neg (by omega),if_pos (by omega)];congr 1;omega
   ·rw[if_neg (by omega),if_neg (by omega),if_neg (by omega),if_neg (by omega)]
theorem s75 (g:Nat) (z:List It) (a m b:Nat) (h1:a<m) (h2:m<b) (h3:b<=z.length) (hl:z.length<2305843009213693952) :
 SpecO Tryz.prog 215 [.rf 0 0 z.length,iA a,iA m,iA b,.fn g []] (so z) (λr o'=>r=.tu []/\∃z',o'=so z'/\Rot z z' a m b):=by
 refine specO_of_vc tabOk elems ord215 Tryz.func215 rfl (rl:=[]) rfl (by kernel_rfl) rfl ?_;refine Am ?_
 refine LOOP.mk (ι:={p:Nat×Nat×List It//0<p.1/\0<p.2.1/\p.1<=m-a/\p.2.1<=b-m/\Win z p.2.2 a b/\∀k,rotG p.2.2 p.1 p.2.1 m k=rotG z (m-a) (b-m) m k})
  (λp=>mkS [(0,.rf 0 0 z.length),(1,iA a),(2,iA m),(3,iA b),(4,.fn g []),(10,iA p.1.1),(11,iA p.1.2.1)] [(0,so p.1.2.2)] [0]) (λp=>p.1.1+p.1.2.1)
  ⟨(m-a,b-m,z),by show 0<m-a;omega,by show 0<b-m;omega,Nat.le_refl _,Nat.le_refl _,.refl _ _ _,λ_=>rfl⟩ [(0,some 0)] rfl rfl ?_ (λp=>?_)
 ·have w1:=wrap_sub (show a<=m by omega) (by omega);have w2:=wrap_sub (show m<=b by omega) (by omega);refine Ee ?_;exact .same (so z) _ _ (so_leafy z) rfl
 ·obtain ⟨⟨i,j,y⟩,hi0,hj0,hi,hj,hw,hg⟩:=p;have hlen:=hw.len;simp only at hi0 hj0 hi hj hw hg hlen;refine Am ?_;refine VIF.split (λh=>?_) (λh=>?_)
  ·refine Aa ?_;simp at h;refine VIF.split (λe=>?_) (λe=>?_)
   ·simp at e;have w1:=wrap_sub (show i<=m by omega) (by omega);refine Ak ?_;rw[<- hlen];refine .obj 0 (so y) _ _ (s76 g y (m-i) m j (by omega) (by omega) (by omega)) rfl (so_leafy y) rfl rfl λr o' hr _ _=>?_;obtain ⟨rfl,y',rfl,hs⟩:=hr;have w2:=wrap_sub (show j<=i by omega) (by omega);refine Bv ?_;refine BACK.mk ⟨(i-j,j,y'),by show 0<i-j;omega,hj0,by show i-j<=m-a;omega,hj,hw.trans (hs.win.wide (by omega) (by omega)),λk=>(rot_left e (by omega) hs k).trans (hg k)⟩ [(0,some 0)] rfl rfl (by show i-j+j<i+j;omega) ?_;refine Am ?_;exact .same (so y') _ _ (so_leafy y') rfl
   ·simp at e;have hlt:i<j:=(by omega);have w1:=wrap_sub (show i<=m by omega) (by omega);have w2:=wrap_add (show m+j<4611686018427387904 by omega);have w3:=wrap_sub (show i<=m+j by omega) (by omega);(simp -implicitDefEqProofs only[go_sem,w1,w2,w3];repeat (refine GO ?_;simp -implicitDefEqProofs only[go_sem,w1,w2,w3]));rw[<- hlen];refine .obj 0 (so y) _ _ (s76 g y (m-i) (m+j-i) i (by omega) (by omega) (by omega)) rfl (so_leafy y) rfl rfl λr o' hr _ _=>?_;obtain ⟨rfl,y',rfl,hs⟩:=hr;have w4:=wrap_sub (show i<=j by omega) (by omega);refine Ew ?_;refine BACK.mk ⟨(i,j-i,y'),hi0,by show 0<j-i;omega,hi,by show j-i<=b-m;omega,hw.trans (hs.win.wide (by omega) (by omega)),λk=>(rot_right hlt (by omega) hs k).trans (hg k)⟩ [(0,some 0)] rfl rfl (by show i+(j-i)<i+j;omega) ?_;refine Am ?_;exact .same (so y') _ _ (so_leafy y') rfl
  ·simp at h;have hij:i=j:=(by omega);subst hij;have w1:=wrap_sub (show i<=m by omega) (by omega);refine Ak ?_;rw[<- hlen];refine .obj 0 (so y) _ _ (s76 g y (m-i) m i (by omega) (by omega) (by omega)) rfl (so_leafy y) rfl rfl λr o' hr _ _=>?_;obtain ⟨rfl,y',rfl,hs⟩:=hr;refine Aa ?_;refine FIN_O (o':=so y') rfl ?_ (so_leafy y') ?_
   ·rfl
   ·exact ⟨so y',⟨⟨rfl,y',rfl,hw.trans (hs.win.wide (by omega) (by omega)),λk=>(rot_end (by omega) hs k).trans (hg k)⟩,rfl⟩,so_leafy y',rfl⟩
structure Cmp (c:It->It->Int):Prop where
 tot:∀x y,¬c y x<0->c x y<=0
 trans:∀x y z,c x y<=0->c y z<=0->c x z<=0
def leO (c:It->It->Int) (a b:Option It):Prop:=∀x y,a=some x->b=some y->c x y<=0
def SR (c:It->It->Int) (z:List It) (a b:Nat):Prop:=∀i j,a<=i->i<j->j<b->leO c z[i]? z[j]?
structure Ins (c:It->It->Int) (z:List It) (a j i:Nat):Prop where
 but:∀p q,a<=p->p<q->q<=i->p≠j->q≠j->leO c z[p]? z[q]?
 at':∀q,j<q->q<=i->leO c z[j]? z[q]?
theorem Ins.start {c:It->It->Int} {z:List It} {a i:Nat} (h:SR c z a i):Ins c z a i i:=
 ⟨λp q h1 h2 h3 h4 h5=>h p q h1 h2 (by omega),λq h1 h2=>by omega⟩
theorem Ins.done {c:It->It->Int} (hc:Cmp c) {z:List It} {a j i:Nat} (h:Ins c z a j i) (hj:j=a\/(a<j/\leO c z[j-1]? z[j]?)) (hi:i<z.length) (hji:j<=i):SR c z a (i+1):=by
 intro p q h1 h2 h3;by_cases e1:p=j
 ·subst e1;exact h.at' q h2 (by omega)
 ·by_cases e2:q=j
  ·subst e2;rcases hj with hj|⟨hj,hle⟩
   ·omega
   ·by_cases e3:p=q-1
    ·subst e3;exact hle
    ·intro x y hx hy;have hlt:q-1<z.length:=(by omega);have k1:=h.but p (q-1) h1 (by omega) (by omega) e1 (by omega) x z[q-1] hx (List.getElem?_eq_getElem hlt);exact hc.trans _ _ _ k1 (hle _ _ (List.getElem?_eq_getElem hlt) hy)
  ·exact h.but p q h1 h2 (by omega) e1 e2
theorem Ins.step {c:It->It->Int} {z:List It} {a j i:Nat} (h:Ins c z a j i) (hj:a<j) (hji:j<=i) (h1:j<z.length) (h2:j-1<z.length) (hlt:c z[j] z[j-1]<0):Ins c (swp z j (j-1) h1 h2) a (j-1) i:=by
 refine ⟨λp q k1 k2 k3 k4 k5=>?_,λq k1 k2=>?_⟩
 ·rw[swp_get,swp_get,if_neg k4,if_neg k5];by_cases e1:p=j
  ·rw[if_pos e1,if_neg (by omega)];exact h.but (j-1) q (by omega) (by omega) k3 (by omega) (by omega)
  ·rw[if_neg e1];by_cases e2:q=j
   ·rw[if_pos e2];exact h.but p (j-1) k1 (by omega) (by omega) e1 (by omega)
   ·rw[if_neg e2];exact h.but p q k1 k2 k3 e1 e2
 ·rw[swp_get,swp_get,if_pos rfl,if_neg (by omega)];by_cases e:q=j
  ·rw[if_pos e];intro x y hx hy;rw[List.getElem?_eq_getElem h1] at hx;rw[List.getElem?_eq_getElem h2] at hy;cases hx;cases hy;omega
  ·rw[if_neg e];exact h.at' q (by omega) k2
theorem s70 (g:Nat) (c:It->It->Int) (hc:Cmp c) (B:It->Prop) (hg:∀x y,B x->B y->Spec0 Tryz.prog g [.ag x.c,.ag y.c] (·=iA (c x y))) (z:List It) (hB:∀x∈z,B x) (a b:Nat) (h1:a<=b) (h2:b<=z.length) (hl:z.length<2305843009213693952) :
 SpecO Tryz.prog 199 [.rf 0 0 z.length,iA a,iA b,.fn g []] (so z) (λr o'=>r=.tu []/\∃z',o'=so z'/\Win z z' a b/\SR c z' a b):=by
 refine specO_of_vc tabOk elems ord199 Tryz.func199 rfl (rl:=[]) rfl (by kernel_rfl) rfl ?_;have w1:=wrap_add1 (show a<4611686018427387904 by omega);refine C3 ?_
 refine LOOP.mk (ι:={p:Nat×List It//a<p.1/\(p.1<=b\/p.1=a+1)/\Win z p.2 a b/\SR c p.2 a p.1})
  (λp=>mkS [(0,.rf 0 0 z.length),(1,iA a),(2,iA b),(3,.fn g []),(8,iA p.1.1)] [(0,so p.1.2)] [0]) (λp=>b+1-p.1.1)
  ⟨(a+1,z),by show a<a+1;omega,.inr rfl,.refl _ _ _,λi j k1 k2 k3=>by omega⟩ [(0,some 0)] rfl rfl ?_ (λp=>?_)
 ·refine Am ?_;exact .same (so z) _ _ (so_leafy z) rfl
 ·obtain ⟨⟨i,y⟩,hai,hib,hw,hs⟩:=p;have hlen:=hw.len;simp only at hai hib hw hs hlen;refine Am ?_;refine VIF.split (λh=>?_) (λh=>?_)
  ·refine Aa ?_;simp at h
   refine LOOP.mk (ι:={p:Nat×List It//a<=p.1/\p.1<=i/\Win z p.2 a b/\Ins c p.2 a p.1 i})
    (λp=>mkS [(0,.rf 0 0 z.length),(1,iA a),(2,iA b),(3,.fn g []),(8,iA i),(9,iA p.1.1)] [(0,so p.1.2)] [0]) (λp=>p.1.1)
    ⟨(i,y),by show a<=i;omega,Nat.le_refl _,hw,.start hs⟩ [(0,some 0)] rfl rfl ?_ (λp=>?_)
   ·refine Am ?_;exact .same (so y) _ _ (so_leafy y) rfl
   ·obtain ⟨⟨j,x⟩,haj,hji,hwx,hins⟩:=p;have hlx:=hwx.len;simp only at haj hji hwx hins hlx;refine Am ?_;refine VIF.split (λe=>?_) (λe=>?_)
    ·simp at e;have w2:=wrap_sub1 (show 1<=j by omega) (by omega);have hj1:j<x.length:=(by omega);have hj2:j-1<x.length:=(by omega);have hx1:B x[j]:=hB _ (hwx.perm.subset (List.getElem_mem hj1));have hx2:B x[j-1]:=hB _ (hwx.perm.subset (List.getElem_mem hj2));refine Bv ?_;refine ⟨by omega,EL.map hj1 ?_⟩;refine Cv ?_;refine ⟨by omega,EL.map hj2 ?_⟩;refine Cv ?_;refine .pure _ (hg x[j] x[j-1] hx1 hx2) rfl λr hr _=>?_;subst hr;refine Ab ?_;refine VIF.split (λq=>?_) (λq=>?_)
     ·simp at q;refine Bv ?_;refine ⟨by omega,EL.map hj2 ?_⟩;refine Cv ?_;refine ⟨by omega,EL.map hj1 ?_⟩;refine Cv ?_;refine ⟨by omega,EL.map hj1 ?_⟩;refine Cv ?_;refine ⟨by omega,EL.setmap (by omega) hj2 ?_⟩;refine Cv ?_;refine BACK.mk ⟨(j-1,swp x j (j-1) hj1 hj2),by show a<=j-1;omega,by show j-1<=i;omega,hwx.trans (swp_win _ _ (by omega) (by omega) (by omega) (by omega)),hins.step e hji hj1 hj2 q⟩ [(0,some 0)] rfl rfl (by show j-1<j;omega) ?_;refine Am ?_;exact .same (so (swp x j (j-1) hj1 hj2)) _ _ (λu hu=>so_leafy (swp x j (j-1) hj1 hj2) u (by rw[so,<- swp_map];exact hu)) (swp_map hj1 hj2)
     ·simp at q;have w3:=wrap_add1 (show i<4611686018427387904 by omega);refine Bo ?_;have hd:=hins.done hc (.inr ⟨e,λu v hu hv=>by
       rw[List.getElem?_eq_getElem hj2] at hu;rw[List.getElem?_eq_getElem hj1] at hv;cases hu;cases hv;exact hc.tot _ _ (by omega)⟩) (by omega) hji
      refine BACK.mk ⟨(i+1,x),by show a<i+1;omega,.inl (by show i+1<=b;omega),hwx,hd⟩ [(0,some 0)] rfl rfl (by show b+1-(i+1)<b+1-i;omega) ?_;refine Am ?_;exact .same (so x) _ _ (so_leafy x) rfl
    ·simp at e;have w3:=wrap_add1 (show i<4611686018427387904 by omega);refine Bo ?_;have hd:=hins.done hc (.inl (by omega)) (by omega) hji;refine BACK.mk ⟨(i+1,x),by show a<i+1;omega,.inl (by show i+1<=b;omega),hwx,hd⟩ [(0,some 0)] rfl rfl (by show b+1-(i+1)<b+1-i;omega) ?_;refine Am ?_;exact .same (so x) _ _ (so_leafy x) rfl
  ·simp at h;refine Aa ?_;refine FIN_O (o':=so y) rfl ?_ (so_leafy y) ?_
   ·rfl
   ·exact ⟨so y,⟨⟨rfl,y,rfl,hw,λp q k1 k2 k3=>hs p q k1 k2 (by omega)⟩,rfl⟩,so_leafy y,rfl⟩
section
variable {c:It->It->Int} (hc:Cmp c) {z y z1 z2 z3:List It} {a m b s e mid i:Nat}
include hc
theorem leO.trans {x y z:Option It} (h:leO c x y) (g:leO c y z) (hy:y≠none):leO c x z:=by
 intro u v hu hv;cases y with
 | none=>exact absurd rfl hy
 | some w=>exact hc.trans _ _ _ (h u w hu rfl) (g w v rfl hv)
theorem some_ne {k:Nat} (h:k<z.length):z[k]?≠none:=by simp[h]
theorem merge_one (h2:SR c z m b) (hm:m=a+1) (hi:m<=i) (hib:i<=b) (hb:b<=z.length) (lo:i=m\/leO c z[i-1]? z[a]?) (hi2:i=b\/leO c z[a]? z[i]?)
 (hy:∀k,y[k]?=if a<=k/\k<i-1 then z[k+1]? else if k=i-1 then z[a]? else z[k]?):SR c y a b:=by
 intro p q k1 k2 k3;rw[hy,hy];by_cases e1:p<i-1
 ·rw[if_pos ⟨k1,e1⟩];by_cases e2:q<i-1
  ·rw[if_pos ⟨by omega,e2⟩];exact h2 _ _ (by omega) (by omega) (by omega)
  ·rw[if_neg (by omega)];by_cases e3:q=i-1
   ·rw[if_pos e3];have hlo:=lo.resolve_left (by omega);by_cases e4:p+1=i-1
    ·rw[e4];exact hlo
    ·exact leO.trans hc (h2 (p+1) (i-1) (by omega) (by omega) (by omega)) hlo (some_ne hc (by omega))
   ·rw[if_neg e3];exact h2 _ _ (by omega) (by omega) (by omega)
 ·by_cases e3:p=i-1
  ·rw[if_neg (by omega),if_pos e3,if_neg (by omega),if_neg (by omega)];have hhi:=hi2.resolve_left (by omega);by_cases e4:q=i
   ·rw[e4];exact hhi
   ·exact leO.trans hc hhi (h2 i q (by omega) (by omega) (by omega)) (some_ne hc (by omega))
  ·rw[if_neg (by omega),if_neg e3,if_neg (by omega),if_neg (by omega)];exact h2 _ _ (by omega) (by omega) (by omega)
theorem merge_last (h1:SR c z a m) (hm:b=m+1) (hi:a<=i) (him:i<=m) (hb:b<=z.length) (lo:i=a\/leO c z[i-1]? z[m]?) (hi2:i=m\/leO c z[m]? z[i]?)
 (hy:∀k,y[k]?=if i<k/\k<=m then z[k-1]? else if k=i then z[m]? else z[k]?):SR c y a b:=by
 intro p q k1 k2 k3;rw[hy,hy];by_cases e1:p<i
 ·rw[if_neg (by omega),if_neg (by omega)];by_cases e2:q<i
  ·rw[if_neg (by omega),if_neg (by omega)];exact h1 _ _ k1 k2 (by omega)
  ·by_cases e3:q=i
   ·rw[if_neg (by omega),if_pos e3];have hlo:=lo.resolve_left (by omega);by_cases e4:p=i-1
    ·rw[e4];exact hlo
    ·exact leO.trans hc (h1 p (i-1) k1 (by omega) (by omega)) hlo (some_ne hc (by omega))
   ·rw[if_pos (by omega)];exact h1 _ _ k1 (by omega) (by omega)
 ·by_cases e2:p=i
  ·rw[if_neg (by omega),if_pos e2,if_pos (by omega)];have hhi:=hi2.resolve_left (by omega);by_cases e4:q-1=i
   ·rw[e4];exact hhi
   ·exact leO.trans hc hhi (h1 i (q-1) (by omega) (by omega) (by omega)) (some_ne hc (by omega))
  ·rw[if_pos (by omega),if_pos (by omega)];exact h1 _ _ (by omega) (by omega) (by omega)
theorem rot_runs (h1:SR c z a m) (h2:SR c z m b) (hs:a<=s) (hsm:s<=m) (hme:m<=e) (heb:e<=b) (hb:b<=z.length) (hmid:mid=s+(e-m))
 (lo:s=a\/e=b\/leO c z[s-1]? z[e]?) (hi:s=m\/e=m\/leO c z[e-1]? z[s]?) (hy:∀k,y[k]?=rotG z (m-s) (e-m) m k) :
 SR c y a s/\SR c y s mid/\SR c y mid e/\SR c y e b/\∀p q,a<=p->p<mid->mid<=q->q<b->leO c y[p]? y[q]?:=by
 have f1:∀k,k<s->y[k]?=z[k]?:=λk hk=>by rw[hy,rotG,if_neg (by omega),if_neg (by omega)]
 have f2:∀k,s<=k->k<mid->y[k]?=z[k+(m-s)]?:=λk h1 h2=>by rw[hy,rotG,if_pos (by omega)]
 have f3:∀k,mid<=k->k<e->y[k]?=z[k-(e-m)]?:=λk h1 h2=>by rw[hy,rotG,if_neg (by omega),if_pos (by omega)]
 have f4:∀k,e<=k->y[k]?=z[k]?:=λk hk=>by rw[hy,rotG,if_neg (by omega),if_neg (by omega)]
 refine ⟨λp q k1 k2 k3=>?_,λp q k1 k2 k3=>?_,λp q k1 k2 k3=>?_,λp q k1 k2 k3=>?_,λp q k1 k2 k3 k4=>?_⟩
 ·rw[f1 p (by omega),f1 q (by omega)];exact h1 _ _ k1 k2 (by omega)
 ·rw[f2 p (by omega) (by omega),f2 q (by omega) (by omega)];exact h2 _ _ (by omega) (by omega) (by omega)
 ·rw[f3 p (by omega) (by omega),f3 q (by omega) (by omega)];exact h1 _ _ (by omega) (by omega) (by omega)
 ·rw[f4 p (by omega),f4 q (by omega)];exact h2 _ _ (by omega) (by omega) (by omega)
 ·-- A1 or B1 against A2 or B2
  by_cases e1:p<s
  ·rw[f1 p e1];by_cases e2:q<e
   ·rw[f3 q k3 e2];exact h1 _ _ k1 (by omega) (by omega)
   ·rw[f4 q (by omega)];have hlo:leO c z[s-1]? z[e]?:=by
     rcases lo with h|h|h
     ·omega
     ·omega
     ·exact h
    have g1:leO c z[p]? z[e]?:=by
     by_cases e3:p=s-1
     ·rw[e3];exact hlo
     ·exact leO.trans hc (h1 p (s-1) k1 (by omega) (by omega)) hlo (some_ne hc (by omega))
    by_cases e4:q=e
    ·rw[e4];exact g1
    ·exact leO.trans hc g1 (h2 e q (by omega) (by omega) k4) (some_ne hc (by omega))
  ·rw[f2 p (by omega) k2];by_cases e2:q<e
   ·rw[f3 q k3 e2];have hhi:leO c z[e-1]? z[s]?:=by
     rcases hi with h|h|h
     ·omega
     ·omega
     ·exact h
    have g1:leO c z[p+(m-s)]? z[s]?:=by
     by_cases e3:p+(m-s)=e-1
     ·rw[e3];exact hhi
     ·exact leO.trans hc (h2 (p+(m-s)) (e-1) (by omega) (by omega) (by omega)) hhi (some_ne hc (by omega))
    by_cases e4:q-(e-m)=s
    ·rw[e4];exact g1
    ·exact leO.trans hc g1 (h1 s (q-(e-m)) (by omega) (by omega) (by omega)) (some_ne hc (by omega))
   ·rw[f4 q (by omega)];exact h2 _ _ (by omega) (by omega) k4
theorem merge_fin (hsep:∀p q,a<=p->p<mid->mid<=q->q<b->leO c z1[p]? z1[q]?) (w1:Win z1 z2 a mid) (s1:SR c z2 a mid) (w2:Win z2 z3 mid b) (s2:SR c z3 mid b):SR c z3 a b:=by
 intro p q k1 k2 k3;by_cases e1:q<mid
 ·rw[w2.out p (.inl (by omega)),w2.out q (.inl e1)];exact s1 p q k1 k2 e1
 ·by_cases e2:p<mid
  ·rw[w2.out p (.inl e2)];obtain ⟨q',j1,j2,j3⟩:=w2.ins q (by omega) k3;obtain ⟨p',i1,i2,i3⟩:=w1.ins p k1 e2;rw[j3,i3,w1.out q' (.inr j1)];exact hsep p' q' i1 i2 j1 j2
  ·exact s2 p q (by omega) k2 k3
end
theorem half {n:Nat} (h:n<4611686018427387904):IntKind.i64.wrap (IntKind.u64.wrap (n:Int) / 2 ^ min (Int.toNat 1) 64)=((n / 2:Nat):Int):=by
 have h1:IntKind.u64.wrap (n:Int)=n:=by simp only[IntKind.wrap,IntKind.bits,IntKind.signed];simp;omega
 have h2:(2:Int) ^ min (Int.toNat 1) 64=2:=by decide
 rw[h1,h2,wrap_i64]<;>omega
theorem s71 (g:Nat) (c:It->It->Int) (hc:Cmp c) (B:It->Prop) (hg:∀x y,B x->B y->Spec0 Tryz.prog g [.ag x.c,.ag y.c] (·=iA (c x y))):∀(d:Nat) (z:List It) (hB:∀x∈z,B x) (a m b:Nat) (hd:b-a<=d) (h1:a<m) (h2:m<b) (h3:b<=z.length) (hl:z.length<2305843009213693952)
 (r1:SR c z a m) (r2:SR c z m b),
 SpecO Tryz.prog 200 [.rf 0 0 z.length,iA a,iA m,iA b,.fn g []] (so z) (λr o'=>r=.tu []/\∃z',o'=so z'/\Win z z' a b/\SR c z' a b):=by
 intro d
 induction d with
 | zero=>intro z hB a m b hd h1 h2;omega
 | succ d ih=>
   have ihL:∀(d':Nat) (_:∀(z:List It) (_:∀x∈z,B x) (a m b:Nat),b-a<=d'->a<m->m<b->b<=z.length->z.length<2305843009213693952->SR c z a m->SR c z m b ->
    SpecO Tryz.prog 200 [.rf 0 0 z.length,iA a,iA m,iA b,.fn g []] (so z) (λr o'=>r=.tu []/\∃z',o'=so z'/\Win z z' a b/\SR c z' a b)) {N:Nat} (z:List It) (_:z.length=N) (_:∀x∈z,B x) (a m b:Nat),b-a<=d'->a<m->m<b->b<=N->N<2305843009213693952->SR c z a m->SR c z m b ->
    SpecO Tryz.prog 200 [.rf 0 0 N,iA a,iA m,iA b,.fn g []] (so z) (λr o'=>r=.tu []/\∃z',o'=so z'/\Win z z' a b/\SR c z' a b):=by
    intro d' ih' N z hN hB a m b k1 k2 k3 k4 k5 k6 k7;subst hN;exact ih' z hB a m b k1 k2 k3 k4 k5 k6 k7
   intro z hB a m b hd h1 h2 h3 hl r1 r2;refine specO_of_vc tabOk elems ord200 Tryz.func200 rfl (rl:=[]) rfl (by kernel_rfl) rfl ?_;have w1:=wrap_sub (show a<=m by omega) (by omega);refine C3 ?_;refine VIF.split (λh=>?_) (λh=>?_)
   ·simp at h;have hm:m=a+1:=(by omega);refine Aa ?_
    refine LOOP.mk (ι:={p:Nat×Nat//m<=p.1/\p.1<=p.2/\p.2<=b/\(p.1=m\/leO c z[p.1-1]? z[a]?)/\(p.2=b\/leO c z[a]? z[p.2]?)})
     (λp=>mkS [(0,.rf 0 0 z.length),(1,iA a),(2,iA m),(3,iA b),(4,.fn g []),(10,iA p.1.1),(11,iA p.1.2)] [(0,so z)] [0]) (λp=>p.1.2-p.1.1)
     ⟨(m,b),Nat.le_refl _,by show m<=b;omega,Nat.le_refl _,.inl rfl,.inl rfl⟩ [(0,some 0)] rfl rfl ?_ (λp=>?_)
    ·refine Am ?_;exact .same (so z) _ _ (so_leafy z) rfl
    ·obtain ⟨⟨i,j⟩,hi,hij,hj,lo,hi2⟩:=p;simp only at hi hij hj lo hi2;refine Am ?_;refine VIF.split (λe=>?_) (λe=>?_)
     ·simp at e;have w2:=wrap_add (show i+j<4611686018427387904 by omega);have w3:=half (show i+j<4611686018427387904 by omega);have hh1:(i+j) / 2<j:=(by omega);have hh2:i<=(i+j) / 2:=(by omega);generalize hhd:(i+j) / 2=hh at *;have hz1:hh<z.length:=(by omega);have hz2:a<z.length:=(by omega);refine Hb ?_;refine ⟨by decide,by omega,EL.map hz1 ?_⟩;refine Ds ?_;refine ⟨by omega,EL.map hz2 ?_⟩;refine Ds ?_;refine .pure _ (hg z[hh] z[a] (hB _ (List.getElem_mem _)) (hB _ (List.getElem_mem _))) rfl λr hr _=>?_;subst hr;refine Ab ?_;refine VIF.split (λq=>?_) (λq=>?_)
      ·simp at q;have w4:=wrap_add1 (show hh<4611686018427387904 by omega);refine Ew ?_;refine BACK.mk ⟨(hh+1,j),by show m<=hh+1;omega,by show hh+1<=j;omega,hj,.inr λu v hu hv=>?_,hi2⟩ [(0,some 0)] rfl rfl (by show j-(hh+1)<j-i;omega) ?_
       ·simp only[Nat.add_sub_cancel,List.getElem?_eq_getElem hz1,List.getElem?_eq_getElem hz2] at hu hv;cases hu;cases hv;omega
       ·refine Am ?_;exact .same (so z) _ _ (so_leafy z) rfl
      ·simp at q;refine Aa ?_;refine BACK.mk ⟨(i,hh),hi,hh2,by show hh<=b;omega,lo,.inr λu v hu hv=>?_⟩ [(0,some 0)] rfl rfl (by show hh-i<j-i;omega) ?_
       ·simp only[List.getElem?_eq_getElem hz1,List.getElem?_eq_getElem hz2] at hu hv;cases hu;cases hv;exact hc.tot _ _ (by omega)
       ·refine Am ?_;exact .same (so z) _ _ (so_leafy z) rfl
     ·simp at e;have hij':i=j:=(by omega);subst hij';refine Aa ?_
      refine LOOP.mk (ι:={p:Nat×List It//a<=p.1/\p.1<=i-1/\Win z p.2 a b/\∀k,p.2[k]?=if a<=k/\k<p.1 then z[k+1]? else if k=p.1 then z[a]? else z[k]?})
       (λp=>mkS [(0,.rf 0 0 z.length),(10,iA i),(13,iA p.1.1)] [(0,so p.1.2)] [0]) (λp=>i-p.1.1)
       ⟨(a,z),Nat.le_refl _,by show a<=i-1;omega,.refl _ _ _,λk=>by
         show z[k]?=if a<=k/\k<a then z[k+1]? else if k=a then z[a]? else z[k]?
         rw[if_neg (by omega)];split<;>simp_all⟩ [(0,some 0)] rfl rfl ?_ (λp=>?_)
      ·refine Am ?_;exact .same (so z) _ _ (so_leafy z) rfl
      ·obtain ⟨⟨k,y⟩,hk1,hk2,hw,hy⟩:=p;have hlen:=hw.len;simp only at hk1 hk2 hw hy hlen;have w5:=wrap_sub1 (show 1<=i by omega) (by omega);(simp -implicitDefEqProofs only[go_sem,iA,so,w5];repeat (refine GO ?_;simp -implicitDefEqProofs only[go_sem,iA,so,w5]));refine VIF.split (λe=>?_) (λe=>?_)
       ·simp only[decide_eq_true_eq] at e;have w6:=wrap_add1 (show k<4611686018427387904 by omega);have g1:k<y.length:=(by omega);have g2:k+1<y.length:=(by omega);refine Ex ?_;refine ⟨by omega,EL.map g2 ?_⟩;refine Cd ?_;refine ⟨by omega,EL.map g1 ?_⟩;refine Cd ?_;refine ⟨by omega,EL.map g1 ?_⟩;refine Cd ?_;refine ⟨by omega,EL.setmap (by omega) g2 ?_⟩;refine Cd ?_;refine BACK.mk ⟨(k+1,swp y k (k+1) g1 g2),by show a<=k+1;omega,by show k+1<=i-1;omega,hw.trans (swp_win _ _ (by omega) (by omega) (by omega) (by omega)),λq=>?_⟩ [(0,some 0)] rfl rfl (by show i-(k+1)<i-k;omega) ?_
        ·show (swp y k (k+1) g1 g2)[q]?=if a<=q/\q<k+1 then z[q+1]? else if q=k+1 then z[a]? else z[q]?
         rw[swp_get];by_cases e1:q=k+1
         ·rw[if_pos e1,if_neg (by omega),if_pos e1,hy,if_neg (by omega),if_pos rfl]
         ·by_cases e2:q=k
          ·rw[if_neg e1,if_pos e2,if_pos (by omega),hy,if_neg (by omega),if_neg (by omega),e2]
          ·rw[if_neg e1,if_neg e2,hy];by_cases e3:a<=q/\q<k
           ·rw[if_pos e3,if_pos (by omega)]
           ·rw[if_neg e3,if_neg e2,if_neg (by omega),if_neg e1]
        ·refine Am ?_;exact .same (so (swp y k (k+1) g1 g2)) _ _ (λu hu=>so_leafy (swp y k (k+1) g1 g2) u (by rw[so,<- swp_map];exact hu)) (swp_map g1 g2)
       ·simp only[decide_eq_false_iff_not] at e;have hki:k=i-1:=(by omega);subst hki;refine Aa ?_;refine FIN_O (o':=so y) rfl ?_ (so_leafy y) ?_
        ·rfl
        ·exact ⟨so y,⟨⟨rfl,y,rfl,hw,merge_one hc r2 hm hi (by omega) h3 lo hi2 hy⟩,rfl⟩,so_leafy y,rfl⟩
   ·simp at h;have v1:=wrap_sub (show m<=b by omega) (by omega);refine Hn ?_;refine VIF.split (λh'=>?_) (λh'=>?_)
    ·simp at h';have hm:b=m+1:=(by omega);refine Aa ?_
     refine LOOP.mk (ι:={p:Nat×Nat//a<=p.1/\p.1<=p.2/\p.2<=m/\(p.1=a\/leO c z[p.1-1]? z[m]?)/\(p.2=m\/leO c z[m]? z[p.2]?)})
      (λp=>mkS [(0,.rf 0 0 z.length),(1,iA a),(2,iA m),(3,iA b),(4,.fn g []),(14,iA p.1.1),(15,iA p.1.2)] [(0,so z)] [0]) (λp=>p.1.2-p.1.1)
      ⟨(a,m),Nat.le_refl _,by show a<=m;omega,Nat.le_refl _,.inl rfl,.inl rfl⟩ [(0,some 0)] rfl rfl ?_ (λp=>?_)
     ·refine Am ?_;exact .same (so z) _ _ (so_leafy z) rfl
     ·obtain ⟨⟨i,j⟩,hi,hij,hj,lo,hi2⟩:=p;simp only at hi hij hj lo hi2;refine Am ?_;refine VIF.split (λe=>?_) (λe=>?_)
      ·simp at e;have w2:=wrap_add (show i+j<4611686018427387904 by omega);have w3:=half (show i+j<4611686018427387904 by omega);have hh1:(i+j) / 2<j:=(by omega);have hh2:i<=(i+j) / 2:=(by omega);generalize hhd:(i+j) / 2=hh at *;have hz1:hh<z.length:=(by omega);have hz2:m<z.length:=(by omega);refine Hb ?_;refine ⟨by decide,by omega,EL.map hz2 ?_⟩;refine Ds ?_;refine ⟨by omega,EL.map hz1 ?_⟩;refine Ds ?_;refine .pure _ (hg z[m] z[hh] (hB _ (List.getElem_mem _)) (hB _ (List.getElem_mem _))) rfl λr hr _=>?_;subst hr;refine Ab ?_;refine VIF.split (λq=>?_) (λq=>?_)
       ·simp at q;have w4:=wrap_add1 (show hh<4611686018427387904 by omega);refine Ew ?_;refine BACK.mk ⟨(hh+1,j),by show a<=hh+1;omega,by show hh+1<=j;omega,hj,.inr λu v hu hv=>?_,hi2⟩ [(0,some 0)] rfl rfl (by show j-(hh+1)<j-i;omega) ?_
        ·simp only[Nat.add_sub_cancel,List.getElem?_eq_getElem hz1,List.getElem?_eq_getElem hz2] at hu hv;cases hu;cases hv;exact hc.tot _ _ (by omega)
        ·refine Am ?_;exact .same (so z) _ _ (so_leafy z) rfl
       ·simp at q;refine Aa ?_;refine BACK.mk ⟨(i,hh),hi,hh2,by show hh<=m;omega,lo,.inr λu v hu hv=>?_⟩ [(0,some 0)] rfl rfl (by show hh-i<j-i;omega) ?_
        ·simp only[List.getElem?_eq_getElem hz1,List.getElem?_eq_getElem hz2] at hu hv;cases hu;cases hv;omega
        ·refine Am ?_;exact .same (so z) _ _ (so_leafy z) rfl
      ·simp at e;have hij':i=j:=(by omega);subst hij';refine Aa ?_
       refine LOOP.mk (ι:={p:Nat×List It//i<=p.1/\p.1<=m/\Win z p.2 a b/\∀k,p.2[k]?=if p.1<k/\k<=m then z[k-1]? else if k=p.1 then z[m]? else z[k]?})
        (λp=>mkS [(0,.rf 0 0 z.length),(14,iA i),(17,iA p.1.1)] [(0,so p.1.2)] [0]) (λp=>p.1.1)
        ⟨(m,z),by show i<=m;omega,Nat.le_refl _,.refl _ _ _,λk=>by
          show z[k]?=if m<k/\k<=m then z[k-1]? else if k=m then z[m]? else z[k]?
          rw[if_neg (by omega)];split<;>simp_all⟩ [(0,some 0)] rfl rfl ?_ (λp=>?_)
       ·refine Am ?_;exact .same (so z) _ _ (so_leafy z) rfl
       ·obtain ⟨⟨k,y⟩,hk1,hk2,hw,hy⟩:=p;have hlen:=hw.len;simp only at hk1 hk2 hw hy hlen;refine Am ?_;refine VIF.split (λe=>?_) (λe=>?_)
        ·simp at e;have w6:=wrap_sub1 (show 1<=k by omega) (by omega);have g1:k<y.length:=(by omega);have g2:k-1<y.length:=(by omega);refine Ex ?_;refine ⟨by omega,EL.map g2 ?_⟩;refine Cd ?_;refine ⟨by omega,EL.map g1 ?_⟩;refine Cd ?_;refine ⟨by omega,EL.map g1 ?_⟩;refine Cd ?_;refine ⟨by omega,EL.setmap (by omega) g2 ?_⟩;refine Cd ?_;refine BACK.mk ⟨(k-1,swp y k (k-1) g1 g2),by show i<=k-1;omega,by show k-1<=m;omega,hw.trans (swp_win _ _ (by omega) (by omega) (by omega) (by omega)),λq=>?_⟩ [(0,some 0)] rfl rfl (by show k-1<k;omega) ?_
         ·show (swp y k (k-1) g1 g2)[q]?=if k-1<q/\q<=m then z[q-1]? else if q=k-1 then z[m]? else z[q]?
          rw[swp_get];by_cases e1:q=k-1
          ·rw[if_pos e1,if_neg (by omega),if_pos e1,hy,if_neg (by omega),if_pos rfl]
          ·by_cases e2:q=k
           ·rw[if_neg e1,if_pos e2,if_pos (by omega),hy,if_neg (by omega),if_neg (by omega),e2]
           ·rw[if_neg e1,if_neg e2,hy];by_cases e3:k<q/\q<=m
            ·rw[if_pos e3,if_pos (by omega)]
            ·rw[if_neg e3,if_neg e2,if_neg (by omega),if_neg e1]
         ·refine Am ?_;exact .same (so (swp y k (k-1) g1 g2)) _ _ (λu hu=>so_leafy (swp y k (k-1) g1 g2) u (by rw[so,<- swp_map];exact hu)) (swp_map g1 g2)
        ·simp at e;have hki:k=i:=(by omega);subst hki;refine Aa ?_;refine FIN_O (o':=so y) rfl ?_ (so_leafy y) ?_
         ·rfl
         ·exact ⟨so y,⟨⟨rfl,y,rfl,hw,merge_last hc r1 hm hi (by omega) h3 lo hi2 hy⟩,rfl⟩,so_leafy y,rfl⟩
    ·simp at h';refine Aa ?_;have u1:=wrap_add (show a+b<4611686018427387904 by omega);have u2:=half (show a+b<4611686018427387904 by omega);have hm1:a<(a+b) / 2:=(by omega);have hm2:(a+b) / 2<b:=(by omega);generalize hmd:(a+b) / 2=mid at *;have u3:=wrap_add (show mid+m<4611686018427387904 by omega);refine Gq ?_;refine ⟨by decide,?_⟩
     refine VIF.join (ι:={p:Nat×Nat//a<=p.1/\p.1<=p.2/\p.2<=mid/\p.2<=m/\mid+m-p.1<=b/\(p.1=a\/mid+m-p.1=b)/\(p.2=m\/mid+m-p.2=m)})
      (λp=>mkS [(0,.rf 0 0 z.length),(1,iA a),(2,iA m),(3,iA b),(4,.fn g []),(18,iA mid),(19,iA (mid+m:Nat)),(20,iA p.1.1),(21,iA p.1.2)] [(0,so z)] [0]) (λhmm=>?_) (λhmm=>?_) (λp=>?_)
     ·simp at hmm;have w:=wrap_sub (show b<=mid+m by omega) (by omega);(simp -implicitDefEqProofs only[go_sem,u1,u2,u3,w];repeat (refine GO ?_;simp -implicitDefEqProofs only[go_sem,u1,u2,u3,w]));refine JB.mk ⟨(mid+m-b,mid),by show a<=mid+m-b;omega,by show mid+m-b<=mid;omega,by show mid<=mid;omega,by show mid<=m;omega,by show mid+m-(mid+m-b)<=b;omega,.inr (by show mid+m-(mid+m-b)=b;omega),.inr (by show mid+m-mid=m;omega)⟩ [(0,some 0)] rfl rfl ?_;(simp -implicitDefEqProofs only[go_sem,iA,so,u1,u2,u3,w];repeat (refine GO ?_;simp -implicitDefEqProofs only[go_sem,iA,so,u1,u2,u3,w]));exact .same (so z) _ _ (so_leafy z) rfl
     ·simp at hmm;refine Gq ?_;refine JB.mk ⟨(a,m),Nat.le_refl _,by show a<=m;omega,by show m<=mid;omega,Nat.le_refl _,by show mid+m-a<=b;omega,.inl rfl,.inl rfl⟩ [(0,some 0)] rfl rfl ?_;(simp -implicitDefEqProofs only[go_sem,iA,so,u1,u2,u3];repeat (refine GO ?_;simp -implicitDefEqProofs only[go_sem,iA,so,u1,u2,u3]));exact .same (so z) _ _ (so_leafy z) rfl
     ·obtain ⟨⟨S,E⟩,f1⟩:=p;simp only at f1;have v2:=wrap_sub1 (show 1<=mid+m by omega) (by omega);refine GO ?_;refine Gs ?_
      refine LOOP.mk (ι:={p:Nat×Nat//S<=p.1/\p.1<=p.2/\p.2<=E/\(p.1=S\/leO c z[p.1-1]? z[mid+m-p.1]?)/\(p.2=E\/leO c z[mid+m-1-p.2]? z[p.2]?)})
       (λp=>mkS [(0,.rf 0 0 z.length),(1,iA a),(2,iA m),(3,iA b),(4,.fn g []),(18,iA mid),(19,iA (mid+m:Nat)),(20,iA p.1.1),(21,iA p.1.2),(22,iA (mid+m-1:Nat))] [(0,so z)] [0]) (λp=>p.1.2-p.1.1)
       ⟨(S,E),Nat.le_refl _,by show S<=E;omega,Nat.le_refl _,.inl rfl,.inl rfl⟩ [(0,some 0)] rfl rfl ?_ (λp=>?_)
      ·refine Gs ?_;exact .same (so z) _ _ (so_leafy z) rfl
      ·obtain ⟨⟨s,r⟩,hs1,hs2,hs3,lo,hi⟩:=p;simp only at hs1 hs2 hs3 lo hi;refine Am ?_;refine VIF.split (λe=>?_) (λe=>?_)
       ·simp at e;have w2:=wrap_add (show s+r<4611686018427387904 by omega);have w3:=half (show s+r<4611686018427387904 by omega);have hh1:(s+r) / 2<r:=(by omega);have hh2:s<=(s+r) / 2:=(by omega);generalize hhd:(s+r) / 2=hh at *;have w4:=wrap_sub (show hh<=mid+m-1 by omega) (by omega);have hz1:hh<z.length:=(by omega);have hz2:mid+m-1-hh<z.length:=(by omega);(simp -implicitDefEqProofs only[go_sem,w2,w3,w4];repeat (refine GO ?_;simp -implicitDefEqProofs only[go_sem,w2,w3,w4]));refine ⟨by decide,by omega,EL.map hz2 ?_⟩;refine F1 ?_;refine ⟨by omega,EL.map hz1 ?_⟩;refine F1 ?_;refine .pure _ (hg z[mid+m-1-hh] z[hh] (hB _ (List.getElem_mem _)) (hB _ (List.getElem_mem _))) rfl λr hr _=>?_;subst hr;refine Ab ?_;refine VIF.split (λq=>?_) (λq=>?_)
        ·simp at q;have w5:=wrap_add1 (show hh<4611686018427387904 by omega);refine Ey ?_;refine BACK.mk ⟨(hh+1,r),by show S<=hh+1;omega,by show hh+1<=r;omega,hs3,.inr λu v hu hv=>?_,hi⟩ [(0,some 0)] rfl rfl (by show r-(hh+1)<r-s;omega) ?_
         ·have hv':z[mid+m-1-hh]?=some v:=by rw[<- hv];congr 1;show mid+m-1-hh=mid+m-(hh+1);omega
          simp only[Nat.add_sub_cancel,List.getElem?_eq_getElem hz1] at hu;rw[List.getElem?_eq_getElem hz2] at hv';cases hu;cases hv';exact hc.tot _ _ (by omega)
         ·refine Am ?_;exact .same (so z) _ _ (so_leafy z) rfl
        ·simp at q;refine Aa ?_;refine BACK.mk ⟨(s,hh),hs1,hh2,by show hh<=E;omega,lo,.inr λu v hu hv=>?_⟩ [(0,some 0)] rfl rfl (by show hh-s<r-s;omega) ?_
         ·simp only[List.getElem?_eq_getElem hz1,List.getElem?_eq_getElem hz2] at hu hv;cases hu;cases hv;omega
         ·refine Am ?_;exact .same (so z) _ _ (so_leafy z) rfl
       ·simp at e;have hsr:s=r:=(by omega);subst hsr;have w6:=wrap_sub (show s<=mid+m by omega) (by omega);obtain ⟨t,ht⟩:∃t,t=mid+m-s:=⟨_,rfl⟩;rw[<- ht] at w6;have hmid:mid=s+(t-m):=(by omega);have lo':s=a\/t=b\/leO c z[s-1]? z[t]?:=by
         rcases lo with h|h
         ·omega
         ·rw[<- ht] at h;exact .inr (.inr h)
        have hi':s=m\/t=m\/leO c z[t-1]? z[s]?:=by
         rcases hi with h|h
         ·omega
         ·have:mid+m-1-s=t-1:=(by omega);rw[this] at h;exact .inr (.inr h)
        have g1:a<=s/\s<=m/\m<=t/\t<=b/\s<=mid/\mid<=t:=(by omega);obtain ⟨g1,g2,g3,g4,g5,g6⟩:=g1;have same:m<=s\/t<=m->∀k,z[k]?=rotG z (m-s) (t-m) m k:=by
         intro hst k;simp only[rotG];by_cases k1:m-(m-s)<=k/\k<m-(m-s)+(t-m)
         ·rw[if_pos k1];congr 1;omega
         ·rw[if_neg k1];by_cases k2:m-(m-s)+(t-m)<=k/\k<m+(t-m)
          ·rw[if_pos k2];congr 1;omega
          ·rw[if_neg k2]
        refine Ex ?_
        refine evRegion.join (ι:={y:List It//Win z y a b/\∀k,y[k]?=rotG z (m-s) (t-m) m k})
         (λy=>mkS [(0,.rf 0 0 z.length),(1,iA a),(3,iA b),(4,.fn g []),(18,iA mid),(20,iA s),(24,iA t)] [(0,so y.1)] [0]) ?_ (λy=>?_)
        ·(simp -implicitDefEqProofs only[go_sem,ord200_39];repeat (refine GO ?_;simp -implicitDefEqProofs only[go_sem,ord200_39]));refine VIF.split (λq1=>?_) (λq1=>?_)
         ·simp at q1;refine Aa ?_;refine VIF.split (λq2=>?_) (λq2=>?_)
          ·simp at q2;refine Aa ?_;refine .obj 0 (so z) _ _ (s75 g z s m t (by omega) (by omega) (by omega) (by omega)) rfl (so_leafy z) rfl rfl λr o' hr _ _=>?_;obtain ⟨rfl,z1,rfl,hrot⟩:=hr;refine Aa ?_;refine JB.mk ⟨z1,hrot.win.wide (by omega) (by omega),hrot.get⟩ [(0,some 0)] rfl rfl ?_;refine Ej ?_;exact .same (so z1) _ _ (so_leafy z1) rfl
          ·simp at q2;refine Aa ?_;refine JB.mk ⟨z,.refl _ _ _,same (by omega)⟩ [(0,some 0)] rfl rfl ?_;refine Ej ?_;exact .same (so z) _ _ (so_leafy z) rfl
         ·simp at q1;refine Aa ?_;refine JB.mk ⟨z,.refl _ _ _,same (by omega)⟩ [(0,some 0)] rfl rfl ?_;refine Ej ?_;exact .same (so z) _ _ (so_leafy z) rfl
        ·obtain ⟨z1,hw1,hy1⟩:=y;have hl1:=hw1.len;have hB1:∀x∈z1,B x:=λx hx=>hB x (hw1.perm.subset hx);obtain ⟨p1,p2,p3,p4,psep⟩:=rot_runs hc r1 r2 g1 g2 g3 g4 h3 hmid lo' hi' hy1;refine GO ?_;refine Am ?_
         refine evRegion.join (ι:={y:List It//Win z1 y a mid/\SR c y a mid})
          (λy=>mkS [(0,.rf 0 0 z.length),(3,iA b),(4,.fn g []),(18,iA mid),(24,iA t)] [(0,so y.1)] [0]) ?_ (λy=>?_)
         ·(simp -implicitDefEqProofs only[go_sem,iA,ord200_41,so];repeat (refine GO ?_;simp -implicitDefEqProofs only[go_sem,iA,ord200_41,so]));refine VIF.split (λq3=>?_) (λq3=>?_)
          ·simp at q3;refine Aa ?_;refine VIF.split (λq4=>?_) (λq4=>?_)
           ·simp at q4;refine Aa ?_;refine .obj 0 (so z1) _ _ (ihL d ih z1 hl1 hB1 a s mid (by omega) (by omega) (by omega) (by omega) (by omega) p1 p2) rfl (so_leafy z1) rfl rfl λr o' hr _ _=>?_;obtain ⟨rfl,z2,rfl,hw2,hs2⟩:=hr;refine Aa ?_;refine JB.mk ⟨z2,hw2,hs2⟩ [(0,some 0)] rfl rfl ?_;refine Am ?_;exact .same (so z2) _ _ (so_leafy z2) rfl
           ·simp at q4;refine Aa ?_;refine JB.mk ⟨z1,.refl _ _ _,λu v k1 k2 k3=>p1 u v k1 k2 (by omega)⟩ [(0,some 0)] rfl rfl ?_;refine Am ?_;exact .same (so z1) _ _ (so_leafy z1) rfl
          ·simp at q3;refine Aa ?_;refine JB.mk ⟨z1,.refl _ _ _,λu v k1 k2 k3=>p2 u v (by omega) k2 k3⟩ [(0,some 0)] rfl rfl ?_;refine Am ?_;exact .same (so z1) _ _ (so_leafy z1) rfl
         ·obtain ⟨z2,hw2,hs2⟩:=y;have hl2:=hw2.len.trans hl1;have hB2:∀x∈z2,B x:=λx hx=>hB1 x (hw2.perm.subset hx);have p3':SR c z2 mid t:=λu v k1 k2 k3=>by rw[hw2.out u (.inr k1),hw2.out v (.inr (by omega))];exact p3 u v k1 k2 k3
          have p4':SR c z2 t b:=λu v k1 k2 k3=>by rw[hw2.out u (.inr (by omega)),hw2.out v (.inr (by omega))];exact p4 u v k1 k2 k3
          have fin2:SR c z2 mid b->Win z z2 a b/\SR c z2 a b:=λh=>⟨hw1.trans (hw2.wide (Nat.le_refl _) (by omega)),merge_fin hc psep hw2 hs2 (.refl _ _ _) h⟩;refine GO ?_;refine Am ?_;(simp -implicitDefEqProofs only[go_sem,iA,ord200_43,so];repeat (refine GO ?_;simp -implicitDefEqProofs only[go_sem,iA,ord200_43,so]));refine VIF.split (λq5=>?_) (λq5=>?_)
          ·simp at q5;refine Aa ?_;refine VIF.split (λq6=>?_) (λq6=>?_)
           ·simp at q6;refine Aa ?_;refine .obj 0 (so z2) _ _ (ihL d ih z2 hl2 hB2 mid t b (by omega) (by omega) (by omega) (by omega) (by omega) p3' p4') rfl (so_leafy z2) rfl rfl λr o' hr _ _=>?_;obtain ⟨rfl,z3,rfl,hw3,hs3⟩:=hr;refine Aa ?_;refine FIN_O (o':=so z3) rfl ?_ (so_leafy z3) ?_
            ·rfl
            ·exact ⟨so z3,⟨⟨rfl,z3,rfl,hw1.trans ((hw2.wide (Nat.le_refl _) (by omega)).trans (hw3.wide (by omega) (Nat.le_refl _))),merge_fin hc psep hw2 hs2 hw3 hs3⟩,rfl⟩,so_leafy z3,rfl⟩
           ·simp at q6;refine Aa ?_;refine FIN_O (o':=so z2) rfl ?_ (so_leafy z2) ?_
            ·rfl
            ·exact ⟨so z2,⟨⟨rfl,z2,rfl,fin2 λu v k1 k2 k3=>p3' u v k1 k2 (by omega)⟩,rfl⟩,so_leafy z2,rfl⟩
          ·simp at q5;refine Aa ?_;refine FIN_O (o':=so z2) rfl ?_ (so_leafy z2) ?_
           ·rfl
           ·exact ⟨so z2,⟨⟨rfl,z2,rfl,fin2 λu v k1 k2 k3=>p4' u v (by omega) k2 k3⟩,rfl⟩,so_leafy z2,rfl⟩
theorem s70L (g:Nat) (c:It->It->Int) (hc:Cmp c) (B:It->Prop) (hg:∀x y,B x->B y->Spec0 Tryz.prog g [.ag x.c,.ag y.c] (·=iA (c x y))) {N:Nat} (z:List It) (hN:z.length=N) (hB:∀x∈z,B x) (a b:Nat) (h1:a<=b) (h2:b<=N) (hl:N<2305843009213693952) :
 SpecO Tryz.prog 199 [.rf 0 0 N,iA a,iA b,.fn g []] (so z) (λr o'=>r=.tu []/\∃z',o'=so z'/\Win z z' a b/\SR c z' a b):=by
 subst hN;exact s70 g c hc B hg z hB a b h1 h2 hl
theorem s71L (g:Nat) (c:It->It->Int) (hc:Cmp c) (B:It->Prop) (hg:∀x y,B x->B y->Spec0 Tryz.prog g [.ag x.c,.ag y.c] (·=iA (c x y))) {N:Nat} (z:List It) (hN:z.length=N) (hB:∀x∈z,B x) (a m b:Nat) (h1:a<m) (h2:m<b) (h3:b<=N) (hl:N<2305843009213693952)
 (r1:SR c z a m) (r2:SR c z m b) :
 SpecO Tryz.prog 200 [.rf 0 0 N,iA a,iA m,iA b,.fn g []] (so z) (λr o'=>r=.tu []/\∃z',o'=so z'/\Win z z' a b/\SR c z' a b):=by
 subst hN;exact s71 g c hc B hg _ z hB a m b (Nat.le_refl _) h1 h2 h3 hl r1 r2
def BK (c:It->It->Int) (z:List It) (k:Nat):Prop:=∀q,SR c z (q*k) (min ((q+1)*k) z.length)
theorem wrap_dbl {a:Nat} (h:a<2305843009213693952):IntKind.i64.wrap (2*(a:Int))=((2*a:Nat):Int):=by rw[wrap_i64]<;>omega
theorem wrap_dbl' {a:Nat} (h:a<2305843009213693952):IntKind.i64.wrap ((a:Int)*2)=((2*a:Nat):Int):=by rw[wrap_i64]<;>omega
theorem s60 (g:Nat) (c:It->It->Int) (hc:Cmp c) (B:It->Prop) (hg:∀x y,B x->B y->Spec0 Tryz.prog g [.ag x.c,.ag y.c] (·=iA (c x y))) (z:List It) (hB:∀x∈z,B x) (hl:z.length<576460752303423488) :
 SpecO Tryz.prog 179 [.rf 0 0 z.length,iA z.length,.fn g []] (so z) (λr o'=>r=.tu []/\∃z',o'=so z'/\Win z z' 0 z.length/\SR c z' 0 z.length):=by
 refine specO_of_vc tabOk elems ord179 Tryz.func179 rfl (rl:=[]) rfl (by kernel_rfl) rfl ?_;refine Am ?_
 refine LOOP.mk (ι:={p:Nat×List It//p.1*20<=z.length/\Win z p.2 0 z.length/\∀q,q<p.1->SR c p.2 (q*20) ((q+1)*20)})
  (λp=>mkS [(0,.rf 0 0 z.length),(1,iA z.length),(2,.fn g []),(6,iA 20),(7,iA (p.1.1*20:Nat)),(8,iA ((p.1.1+1)*20:Nat))] [(0,so p.1.2)] [0]) (λp=>z.length-p.1.1*20)
  ⟨(0,z),by simp,.refl _ _ _,λq hq=>by simp at hq⟩ [(0,some 0)] rfl rfl ?_ (λp=>?_)
 ·refine Am ?_;exact ⟨⟨rfl,rfl⟩,.same (so z) _ _ (so_leafy z) rfl⟩
 ·obtain ⟨⟨n,y⟩,hn,hw,hs⟩:=p;have hlen:=hw.len;simp only at hn hw hs hlen;refine Am ?_;refine VIF.split (λh=>?_) (λh=>?_)
  ·simp at h;refine Aa ?_;refine .obj 0 (so y) _ _ (s70L g c hc B hg y hlen (λx hx=>hB x (hw.perm.subset hx)) (n*20) ((n+1)*20) (by omega) (by omega) (by omega)) rfl (so_leafy y) rfl rfl λr o' hr _ _=>?_;obtain ⟨rfl,y',rfl,hw',hs'⟩:=hr;have w1:IntKind.i64.wrap (((n+1)*20:Nat)+(20:Int))=(((n+1+1)*20:Nat):Int):=by rw[wrap_i64]<;>omega
   refine Ak ?_;refine BACK.mk ⟨(n+1,y'),by show (n+1)*20<=z.length;omega,hw.trans (hw'.wide (by omega) (by omega)),λq hq=>?_⟩ [(0,some 0)] rfl rfl (by show z.length-(n+1)*20<z.length-n*20;omega) ?_
   ·show SR c y' (q*20) ((q+1)*20);by_cases e:q=n
    ·subst e;exact hs'
    ·have hqn:q<n:=by have:q<n+1:=hq;omega
     intro u v k1 k2 k3;rw[hw'.out u (.inl (by omega)),hw'.out v (.inl (by omega))];exact hs q hqn u v k1 k2 k3
   ·refine Am ?_;exact .same (so y') _ _ (so_leafy y') rfl
  ·simp at h;refine Aa ?_;refine .obj 0 (so y) _ _ (s70L g c hc B hg y hlen (λx hx=>hB x (hw.perm.subset hx)) (n*20) z.length (by omega) (by omega) (by omega)) rfl (so_leafy y) rfl rfl λr o' hr _ _=>?_;obtain ⟨rfl,y',rfl,hw',hs'⟩:=hr;refine Aa ?_;have hw2:Win z y' 0 z.length:=hw.trans (hw'.wide (by omega) (by omega));have hb:BK c y' 20:=by
    intro q u v k1 k2 k3;have hl2:=hw2.len;by_cases e:q<n
    ·rw[hw'.out u (.inl (by omega)),hw'.out v (.inl (by omega))];exact hs q e u v k1 k2 (by omega)
    ·exact hs' u v (by omega) k2 (by omega)
   clear hs hs' hw' hw h
   refine LOOP.mk (ι:={p:Nat×List It//20<=p.1/\(p.1<2*z.length\/p.1=20)/\Win z p.2 0 z.length/\BK c p.2 p.1})
    (λp=>mkS [(0,.rf 0 0 z.length),(1,iA z.length),(2,.fn g []),(6,iA p.1.1)] [(0,so p.1.2)] [0]) (λp=>2*z.length-p.1.1)
    ⟨(20,y'),Nat.le_refl _,.inr rfl,hw2,hb⟩ [(0,some 0)] rfl rfl ?_ (λp=>?_)
   ·refine Am ?_;exact ⟨rfl,.same (so y') _ _ (so_leafy y') rfl⟩
   ·obtain ⟨⟨k,x⟩,hk,hk2,hwx,hbx⟩:=p;have hlx:=hwx.len;simp only at hk hk2 hwx hbx hlx;refine Am ?_;refine VIF.split (λh=>?_) (λh=>?_)
    ·simp at h;have w2:=wrap_dbl (show k<2305843009213693952 by omega);refine Bv ?_
     refine LOOP.mk (ι:={p:Nat×List It//p.1*(2*k)<=z.length/\Win z p.2 0 z.length/\(∀q,q<p.1->SR c p.2 (q*(2*k)) ((q+1)*(2*k)))/\∀q,2*p.1<=q->SR c p.2 (q*k) (min ((q+1)*k) z.length)})
      (λp=>mkS [(0,.rf 0 0 z.length),(1,iA z.length),(2,.fn g []),(6,iA k),(7,iA (p.1.1*(2*k):Nat)),(8,iA ((p.1.1+1)*(2*k):Nat))] [(0,so p.1.2)] [0]) (λp=>z.length-p.1.1)
      ⟨(0,x),by simp,hwx,λq hq=>by simp at hq,λq _=>by rw[<- hlx];exact hbx q⟩ [(0,some 0)] rfl rfl ?_ (λp=>?_)
     ·refine Am ?_;exact ⟨⟨by simp,by simp⟩,.same (so x) _ _ (so_leafy x) rfl⟩
     ·obtain ⟨⟨n,u⟩,hn,hwu,hs1,hs2⟩:=p;have hlu:=hwu.len;simp only at hn hwu hs1 hs2 hlu;have e1:(n+1)*(2*k)=n*(2*k)+2*k:=Nat.succ_mul _ _;have e2:(2*n)*k=n*(2*k):=(by rw[Nat.mul_comm 2 n,Nat.mul_assoc]);have e3:(2*n+1)*k=n*(2*k)+k:=(by rw[Nat.succ_mul,e2]);have e4:(2*n+1+1)*k=n*(2*k)+2*k:=by rw[Nat.succ_mul,e3];omega
      have e5:(n+1+1)*(2*k)=n*(2*k)+2*k+2*k:=(by rw[Nat.succ_mul,e1]);have hA:SR c u (n*(2*k)) (min (n*(2*k)+k) z.length):=by have:=hs2 (2*n) (Nat.le_refl _);rwa [e2,e3] at this
      have hB':SR c u (n*(2*k)+k) (min (n*(2*k)+2*k) z.length):=by have:=hs2 (2*n+1) (by omega);rwa [e3,e4] at this
      have lowq:∀q,q<n->(q+1)*(2*k)<=n*(2*k):=λq hq=>Nat.mul_le_mul_right _ hq;have higq:∀q,2*n+1+1<=q->n*(2*k)+2*k<=q*k:=λq hq=>by rw[<- e4];exact Nat.mul_le_mul_right _ hq
      have farq:∀q,n+1<=q->n*(2*k)+2*k<=q*(2*k):=λq hq=>by rw[<- e1];exact Nat.mul_le_mul_right _ hq
      refine Am ?_;refine VIF.split (λh'=>?_) (λh'=>?_)
      ·simp only[decide_eq_true_eq,e1] at h';have w3:=wrap_add (show n*(2*k)+k<4611686018427387904 by omega);(simp -implicitDefEqProofs only[go_sem,e1,w2,w3];repeat (refine GO ?_;simp -implicitDefEqProofs only[go_sem,e1,w2,w3]))
       refine .obj 0 (so u) _ _ (s71L g c hc B hg u hlu (λx hx=>hB x (hwu.perm.subset hx)) (n*(2*k)) (n*(2*k)+k) (n*(2*k)+2*k) (by omega) (by omega) (by omega) (by omega)
        (λi j k1 k2 k3=>hA i j k1 k2 (by omega)) (λi j k1 k2 k3=>hB' i j k1 k2 (by omega))) rfl (so_leafy u) rfl rfl λr o' hr _ _=>?_
       obtain ⟨rfl,u',rfl,hw',hs'⟩:=hr;have w4:IntKind.i64.wrap (((n*(2*k)+2*k:Nat):Int)+((2*k:Nat):Int))=((n*(2*k)+2*k+2*k:Nat):Int):=by generalize n*(2*k)=A at *;rw[wrap_i64]<;>omega
       (simp -implicitDefEqProofs only[go_sem,w2,w4];repeat (refine GO ?_;simp -implicitDefEqProofs only[go_sem,w2,w4]));refine BACK.mk ⟨(n+1,u'),by show (n+1)*(2*k)<=z.length;omega,hwu.trans (hw'.wide (by omega) (by omega)),λq hq=>?_,λq hq=>?_⟩ [(0,some 0)] rfl rfl ?_ ?_
       ·show SR c u' (q*(2*k)) ((q+1)*(2*k));by_cases e:q=n
        ·subst e;rw[e1];exact hs'
        ·have hqn:q<n:=by have:q<n+1:=hq;omega
         have:=lowq q hqn;intro i j k1 k2 k3;rw[hw'.out i (.inl (by omega)),hw'.out j (.inl (by omega))];exact hs1 q hqn i j k1 k2 k3
       ·show SR c u' (q*k) (min ((q+1)*k) z.length);have hq':2*(n+1)<=q:=hq;have:=higq q (by omega);intro i j k1 k2 k3;rw[hw'.out i (.inr (by omega)),hw'.out j (.inr (by omega))];exact hs2 q (by omega) i j k1 k2 k3
       ·show z.length-(n+1)<z.length-n;have:n*1<=n*(2*k):=Nat.mul_le_mul_left _ (by omega);omega
       ·refine Am ?_;refine ⟨⟨by rw[e1],by rw[e5]⟩,.same (so u') _ _ (so_leafy u') rfl⟩
      ·simp only[decide_eq_false_iff_not,e1] at h';have w3:=wrap_add (show n*(2*k)+k<4611686018427387904 by omega);have w5:=wrap_dbl' (show k<2305843009213693952 by omega);refine Hc ?_;have fin:∀u',Win u u' (n*(2*k)) z.length->SR c u' (n*(2*k)) z.length->BK c u' (2*k):=by
        intro u' hw' hs' q i j k1 k2 k3;have hl':u'.length=z.length:=hw'.len.trans hlu;by_cases e:q<n
        ·have:=lowq q e;rw[hw'.out i (.inl (by omega)),hw'.out j (.inl (by omega))];exact hs1 q e i j k1 k2 (by omega)
        ·by_cases e':q=n
         ·subst e';exact hs' i j k1 k2 (by omega)
         ·have:=farq q (by omega);omega
       refine VIF.split (λh2=>?_) (λh2=>?_)
       ·simp only[decide_eq_true_eq] at h2;refine Hc ?_
        refine .obj 0 (so u) _ _ (s71L g c hc B hg u hlu (λx hx=>hB x (hwu.perm.subset hx)) (n*(2*k)) (n*(2*k)+k) z.length (by omega) (by omega) (by omega) (by omega)
         (λi j k1 k2 k3=>hA i j k1 k2 (by omega)) (λi j k1 k2 k3=>hB' i j k1 k2 (by omega))) rfl (so_leafy u) rfl rfl λr o' hr _ _=>?_
        obtain ⟨rfl,u',rfl,hw',hs'⟩:=hr;refine Ey ?_;refine BACK.mk ⟨(2*k,u'),by show 20<=2*k;omega,.inl (by show 2*k<2*z.length;omega),hwu.trans (hw'.wide (by omega) (by omega)),fin u' hw' hs'⟩ [(0,some 0)] rfl rfl (by show 2*z.length-2*k<2*z.length-k;omega) ?_;refine Am ?_;exact .same (so u') _ _ (so_leafy u') rfl
       ·simp only[decide_eq_false_iff_not] at h2;refine Ey ?_;refine BACK.mk ⟨(2*k,u),by show 20<=2*k;omega,.inl (by show 2*k<2*z.length;omega),hwu,fin u (.refl _ _ _) λi j k1 k2 k3=>hA i j k1 k2 (by omega)⟩ [(0,some 0)] rfl rfl (by show 2*z.length-2*k<2*z.length-k;omega) ?_;refine Am ?_;exact .same (so u) _ _ (so_leafy u) rfl
    ·simp at h;refine Aa ?_;refine FIN_O (o':=so x) rfl ?_ (so_leafy x) ?_
     ·rfl
     ·refine ⟨so x,⟨⟨rfl,x,rfl,hwx,?_⟩,rfl⟩,so_leafy x,rfl⟩;have:=hbx 0;rw[hlx] at this;simp at this
      rwa [Nat.min_eq_right h] at this
theorem s39 (g:Nat) (c:It->It->Int) (hc:Cmp c) (B:It->Prop) (hg:∀x y,B x->B y->Spec0 Tryz.prog g [.ag x.c,.ag y.c] (·=iA (c x y))) (z:List It) (hB:∀x∈z,B x) (hl:z.length<576460752303423488) :
 SpecO Tryz.prog 137 [.rf 0 0 z.length,.fn g []] (so z) (λr o'=>r=.tu []/\∃z',o'=so z'/\Win z z' 0 z.length/\SR c z' 0 z.length):=by
 refine specO_of_vc tabOk elems ord137 Tryz.func137 rfl (rl:=[]) rfl (by kernel_rfl) rfl ?_;refine Bu ?_;refine .obj 0 (so z) _ _ (s60 g c hc B hg z hB hl) rfl (so_leafy z) rfl rfl λr o' hr _ _=>?_;obtain ⟨rfl,y,rfl,hw,hs⟩:=hr;refine Aa ?_;refine FIN_O (o':=so y) rfl ?_ (so_leafy y) ?_
 ·rfl
 ·exact ⟨so y,⟨⟨rfl,y,rfl,hw,hs⟩,rfl⟩,so_leafy y,rfl⟩
-- bytes, in the order of a dictionary
theorem bl_irr (x:List UInt8):Op.bytesLess x x=false:=by
 induction x with
 | nil=>rfl
 | cons a r ih=>simp[Op.bytesLess,ih]
theorem bl_asymm:∀(x y:List UInt8),Op.bytesLess x y=true->Op.bytesLess y x=false
 | _,[],h=>by simp[Op.bytesLess] at h
 | [],_::_,h=>rfl
 | a::x,b::y,h=>by
   simp only[Op.bytesLess,Bool.or_eq_true,decide_eq_true_eq,Bool.and_eq_true,beq_iff_eq] at h;simp only[Op.bytesLess,Bool.or_eq_false_iff,decide_eq_false_iff_not,Bool.and_eq_false_imp,beq_iff_eq];rcases h with h|⟨h1,h2⟩
   ·exact ⟨λg=>by rw[UInt8.lt_iff_toNat_lt] at *;omega,λe=>by subst e;rw[UInt8.lt_iff_toNat_lt] at h;omega⟩
   ·subst h1;exact ⟨λg=>by rw[UInt8.lt_iff_toNat_lt] at g;omega,λ_=>bl_asymm x y h2⟩
theorem bl_tri:∀(x y:List UInt8),Op.bytesLess x y=false->Op.bytesLess y x=false->x=y
 | [],[],_,_=>rfl
 | [],_::_,h,_=>by simp[Op.bytesLess] at h
 | _::_,[],_,h=>by simp[Op.bytesLess] at h
 | a::x,b::y,h,g=>by
   simp only[Op.bytesLess,Bool.or_eq_false_iff,decide_eq_false_iff_not,Bool.and_eq_false_imp,beq_iff_eq] at h g;have hab:a=b:=by apply UInt8.toNat_inj.1;have h1:=h.1;have g1:=g.1;rw[UInt8.lt_iff_toNat_lt] at h1 g1;omega
   subst hab;rw[bl_tri x y (h.2 rfl) (g.2 rfl)]
theorem bl_trans:∀(x y z:List UInt8),Op.bytesLess x y=true->Op.bytesLess y z=true->Op.bytesLess x z=true
 | _,[],_,h,_=>by simp[Op.bytesLess] at h
 | _,_::_,[],_,g=>by simp[Op.bytesLess] at g
 | [],_::_,_::_,_,_=>rfl
 | a::x,b::y,c::z,h,g=>by
   simp only[Op.bytesLess,Bool.or_eq_true,decide_eq_true_eq,Bool.and_eq_true,beq_iff_eq] at h g ⊢;rcases h with h|⟨h1,h2⟩
   ·rcases g with g|⟨g1,g2⟩
    ·left;rw[UInt8.lt_iff_toNat_lt] at *;omega
    ·subst g1;left;exact h
   ·subst h1;rcases g with g|⟨g1,g2⟩
    ·left;exact g
    ·right;exact ⟨g1,bl_trans x y z h2 g2⟩
structure Lin {α:Type} (f:α->α->Int):Prop where
 neg:∀x y,f y x=- f x y
 eq:∀x y,f x y=0->x=y
 trans:∀x y z,f x y<0->f y z<0->f x z<0
theorem Lin.self {α:Type} {f:α->α->Int} (h:Lin f) (x:α):f x x=0:=by have:=h.neg x x;omega
theorem lin_cmpI:Lin cmpI:=by
 refine ⟨λx y=>?_,λx y h=>?_,λx y z h g=>?_⟩
 ·simp only[cmpI];split<;>split<;>(try split)<;>omega
 ·simp only[cmpI] at h;split at h
  ·omega
  ·split at h<;>omega
 ·simp only[cmpI] at h g ⊢;split at h
  ·split at g
   ·rw[if_pos (by omega)];omega
   ·split at g<;>omega
  ·split at h<;>omega
theorem cmpS_lt {x y:ByteArray}:cmpS x y<0 ↔ Op.bytesLess x.toList y.toList=true:=by
 simp only[cmpS];split
 ·simp[*]
 ·rename_i h;split<;>simp[h]
theorem cmpS_zero {x y:ByteArray}:cmpS x y=0 ↔ x=y:=by
 simp only[cmpS];split
 ·rename_i h;constructor
  ·intro e;omega
  ·intro e;subst e;rw[bl_irr] at h;cases h
 ·rename_i h;split
  ·rename_i g;constructor
   ·intro e;omega
   ·intro e;subst e;simp at g
  ·rename_i g;simp only[Bool.not_eq_true,Bool.not_eq_false',Bool.or_eq_true,decide_eq_true_eq] at g h;simp only[h,Bool.false_eq_true,false_or] at g;simp[g]
theorem lin_cmpS:Lin cmpS:=by
 refine ⟨λx y=>?_,λx y h=>cmpS_zero.1 h,λx y z h g=>?_⟩
 ·have v:∀a b:ByteArray,cmpS a b=-1\/cmpS a b=0\/cmpS a b=1:=by
   intro a b;simp only[cmpS];split
   ·simp
   ·split<;>simp
  have k1:cmpS x y<0->¬cmpS y x<0:=λh=>by rw[cmpS_lt] at h ⊢;rw[bl_asymm _ _ h];simp
  have k2:¬cmpS x y<0->¬cmpS y x<0->cmpS x y=0/\cmpS y x=0:=λh g=>by rw[cmpS_lt] at h g;have:x=y:=toList_inj (bl_tri _ _ (by simpa using h) (by simpa using g));exact ⟨cmpS_zero.2 this,cmpS_zero.2 this.symm⟩
  have k3:cmpS x y=0->cmpS y x=0:=λh=>cmpS_zero.2 (cmpS_zero.1 h).symm;have k4:cmpS y x=0->cmpS x y=0:=λh=>cmpS_zero.2 (cmpS_zero.1 h).symm;rcases v x y with a|a|a<;>rcases v y x with b|b|b<;>first|omega|(have:=k1 (by omega);omega)|(have:=k2 (by omega) (by omega);omega)|(have:=k3 (by omega);omega)|(have:=k4 (by omega);omega)
 ·rw[cmpS_lt] at *;exact bl_trans _ _ _ h g
theorem lin_cmpV:Lin cmpV:=by
 refine ⟨λx y=>?_,λx y h=>?_,λx y z h g=>?_⟩
 ·simp only[cmpV,nz,lin_cmpI.neg x.k y.k,lin_cmpI.neg x.i y.i,lin_cmpS.neg x.s y.s];repeat' split
  all_goals omega
 ·simp only[cmpV,nz] at h;split at h
  ·rename_i h1;split at h
   ·rename_i h2;split at h
    ·rename_i h3;obtain ⟨a,b,c⟩:=x;obtain ⟨a',b',c'⟩:=y;simp only[V.mk.injEq];exact ⟨lin_cmpI.eq _ _ h1,lin_cmpI.eq _ _ h2,lin_cmpS.eq _ _ h3⟩
    ·exact absurd h (by assumption)
   ·exact absurd h (by assumption)
  ·exact absurd h (by assumption)
 ·have t1:=lin_cmpI.trans x.k y.k z.k;have t2:=lin_cmpI.trans x.i y.i z.i;have t3:=lin_cmpS.trans x.s y.s z.s;have e1:cmpI x.k y.k=0->cmpI x.k z.k=cmpI y.k z.k:=λh=>by rw[lin_cmpI.eq _ _ h]
  have e2:cmpI y.k z.k=0->cmpI x.k z.k=cmpI x.k y.k:=λh=>by rw[lin_cmpI.eq _ _ h]
  have e3:cmpI x.i y.i=0->cmpI x.i z.i=cmpI y.i z.i:=λh=>by rw[lin_cmpI.eq _ _ h]
  have e4:cmpI y.i z.i=0->cmpI x.i z.i=cmpI x.i y.i:=λh=>by rw[lin_cmpI.eq _ _ h]
  have e5:cmpS x.s y.s=0->cmpS x.s z.s=cmpS y.s z.s:=λh=>by rw[lin_cmpS.eq _ _ h]
  have e6:cmpS y.s z.s=0->cmpS x.s z.s=cmpS x.s y.s:=λh=>by rw[lin_cmpS.eq _ _ h]
  simp only[cmpV,nz] at h g ⊢;repeat' split at h
  all_goals repeat' split at g
  all_goals repeat' split
  all_goals omega
theorem lin_cmpR:Lin cmpR:=by
 have hneg:∀x y,cmpR y x=- cmpR x y:=by
  intro x
  induction x with
  | nil=>intro y;cases y<;>simp[cmpR]
  | cons a r ih=>
    intro y;cases y with
    | nil=>simp[cmpR]
    | cons b r'=>
      simp only[cmpR,lin_cmpV.neg a b,ih r'];repeat' split
      all_goals omega
 refine ⟨hneg,λx=>?_,λx=>?_⟩
 ·induction x with
  | nil=>intro y h;cases y with
    | nil=>rfl
    | cons b r=>simp[cmpR] at h
  | cons a r ih=>
    intro y h;cases y with
    | nil=>simp[cmpR] at h
    | cons b r'=>
      simp only[cmpR] at h;split at h
      ·rename_i h1;rw[lin_cmpV.eq _ _ h1,ih _ h]
      ·exact absurd h (by assumption)
 ·induction x with
  | nil=>intro y z h g;cases y with
    | nil=>exact g
    | cons b r=>cases z with
      | nil=>simp[cmpR] at g
      | cons c r'=>simp[cmpR]
  | cons a r ih=>
    intro y z h g;cases y with
    | nil=>simp[cmpR] at h
    | cons b r'=>cases z with
      | nil=>simp[cmpR] at g
      | cons c r''=>
        have e1:cmpV a b=0->cmpV a c=cmpV b c:=λh=>by rw[lin_cmpV.eq _ _ h]
        have e2:cmpV b c=0->cmpV a c=cmpV a b:=λh=>by rw[lin_cmpV.eq _ _ h]
        have t:=lin_cmpV.trans a b c;simp only[cmpR] at h g ⊢;split at h
        ·rename_i h1;split at g
         ·rename_i g1;rw[if_pos (by rw[e1 h1];exact g1)];exact ih _ _ h g
         ·rename_i g1;rw[if_neg (by rw[e1 h1];exact g1),e1 h1];exact g
        ·rename_i h1;split at g
         ·rename_i g1;rw[if_neg (by rw[e2 g1];exact h1),e2 g1];exact h
         ·have:=t h g;rw[if_neg (by omega)];exact this
def cI (a b:It):Int:=cmpR a.row b.row
theorem cmp_cI:Cmp cI:=by
 refine ⟨λx y h=>?_,λx y z h g=>?_⟩
 ·have:=lin_cmpR.neg y.row x.row;simp only[cI] at *;omega
 ·simp only[cI] at *;have t:=lin_cmpR.trans x.row y.row z.row;by_cases e1:cmpR x.row y.row=0
  ·rw[lin_cmpR.eq _ _ e1];exact g
  ·by_cases e2:cmpR y.row z.row=0
   ·rw[<- lin_cmpR.eq _ _ e2];exact h
   ·have:=t (by omega) (by omega);omega
theorem s47 (g:Nat) (caps:List AV) (hc:noIds caps=true) (p:It->Bool) (B:It->Prop) (hg:∀t:It,B t->Spec0 Tryz.prog g (.ag t.c::caps) (·=bA (p t))) (a:List It) (hB:∀t∈a,B t) (ha:a.length<4611686018427387904) :
 Spec0 Tryz.prog 105 [setA a,.fn g caps] (·=idxA p a):=by
 refine spec0_of_vc tabOk elems ord105 Tryz.func105 rfl (rl:=[.tmp 4]) rfl (by kernel_rfl) rfl ?_;refine Af ?_
 refine LOOP.mk (ι:={i:Nat//i<=a.length/\∀j (hj:j<a.length),j<i->p a[j]=false}) (λi=>mkS [(0,setA a),(1,.fn g caps),(7,.pr (.int .i64 a.length)),(8,.pr (.int .i64 i.1))] [] []) (λi=>a.length-i.1)
  ⟨0,by simp⟩ [] rfl rfl ?_ (λi=>?_)
 ·refine Af ?_;simp[wks_noId caps hc]
 ·obtain ⟨i,hi,hz⟩:=i;refine Af ?_;refine ⟨λh=>?_,λh=>?_⟩
  ·simp only[decide_eq_true_eq] at h;have hi':i<a.length:=(by omega);refine Aa ?_;refine EL.map hi' ?_;refine Ar ?_;refine .pure _ (hg a[i] (hB _ (List.getElem_mem _))) ?_ λr hr _=>?_
   ·simp[noIds,AV.noId,It.c,hc,rowA,iA]
   subst hr;refine Ad ?_;refine VIF.split (λe=>?_) (λe=>?_)
   ·refine Aa ?_;simp[idxA,idxI,iA,idx_some hi' hz e]
   ·refine Aa ?_;refine BACK.mk ⟨i+1,hi',λj hj hji=>?_⟩ [] rfl rfl (by show a.length-(i+1)<a.length-i;omega) ?_
    ·by_cases hji':j=i
     ·subst hji';exact e
     ·exact hz j hj (by omega)
    ·refine Af ?_;simp[wrap_succ hi' ha,wks_noId caps hc]
  ·simp at h;refine Aa ?_;simp[idxA,idxI,iA,idx_none λj hj=>hz j hj (by omega)]
theorem s34 (a:List It) (hB:∀t∈a,t.row.length<4611686018427387904) (ha:a.length<4611686018427387904):Spec0 Tryz.prog 74 [setA a,.fn 136 []] (·=bA (a.any λt=>!okI t)):=by refine spec0_of_vc tabOk elems ord74 Tryz.func74 rfl (rl:=[.tmp 4]) rfl (by kernel_rfl) rfl ?_;refine Af ?_;refine .pure _ (s47 136 [] rfl (λt=>!okI t) _ (λt ht=>s35 t ht) a hB ha) rfl λr hr _=>?_;subst hr;refine B7 ?_;rw[idx_any];rfl
theorem s38 (z:List It) (hl:z.length<=1073741824):Spec1 Tryz.prog 91 [setA z] (λr o=>r=.rf 0 0 z.length/\o=so z):=by
 refine spec1_of_vc tabOk elems ord91 Tryz.func91 rfl (rl:=[.tmp 2]) rfl (by kernel_rfl) rfl ?_;refine Af ?_;refine ⟨⟨_,rfl⟩,λb hb=>?_⟩;refine VIF.split (λh=>?_) (λh=>?_)
 ·have hz:z=[]:=(by simpa using hb (by simpa using h));subst hz;refine Aa ?_;refine FINmk [(0,none)] [(2,.rf 0 0 0)] [(0,so [])] [0] rfl ?_ ?_
  ·refine Aa ?_;simp[so]
  ·exact ⟨so [],⟨⟨rfl,rfl⟩,rfl⟩,so_leafy [],rfl⟩
 ·refine Aa ?_;refine ⟨by omega,?_⟩;refine FINmk [(0,some 7)] [(2,.rf 0 0 z.length)] [(0,so z)] [0] rfl ?_ ?_
  ·refine Bu ?_;exact .same (so z) _ _ (so_leafy z) rfl
  ·exact ⟨so z,⟨⟨rfl,rfl⟩,rfl⟩,so_leafy z,rfl⟩
def ro3 (a:List V):Ob:=⟨3,a.map V.c⟩
theorem ro3_leafy (a:List V):(ro3 a).leafy:=by rw[ro3,leafy_do];exact leafs2_map λx _=>by simp[V.c,leafs,AV.leaf]
theorem s43 (a:List V) (hl:a.length<=1073741824):Spec1 Tryz.prog 101 [rowA a] (λr o=>r=.rf 0 0 a.length/\o=ro3 a):=by
 refine spec1_of_vc tabOk elems ord101 Tryz.func101 rfl (rl:=[.tmp 2]) rfl (by kernel_rfl) rfl ?_;refine A3 ?_;refine ⟨⟨_,rfl⟩,λb hb=>?_⟩;refine VIF.split (λh=>?_) (λh=>?_)
 ·have hz:a=[]:=(by simpa using hb (by simpa using h));subst hz;refine Aa ?_;refine FINmk [(0,none)] [(2,.rf 0 0 0)] [(0,ro3 [])] [0] rfl ?_ ?_
  ·refine Aa ?_;simp[ro3]
  ·exact ⟨ro3 [],⟨⟨rfl,rfl⟩,rfl⟩,ro3_leafy [],rfl⟩
 ·refine Aa ?_;refine ⟨by omega,?_⟩;refine FINmk [(0,some 7)] [(2,.rf 0 0 a.length)] [(0,ro3 a)] [0] rfl ?_ ?_
  ·refine D2 ?_;exact .same (ro3 a) _ _ (ro3_leafy a) rfl
  ·exact ⟨ro3 a,⟨⟨rfl,rfl⟩,rfl⟩,ro3_leafy a,rfl⟩
theorem and_mask (x:Int):bitsOp .and .i64 x 268435455=x%268435456:=by
 simp only[bitsOp];have h1:(BitVec.ofInt IntKind.i64.bits x &&& BitVec.ofInt IntKind.i64.bits 268435455).toNat=(x%268435456).toNat:=by rw[BitVec.toNat_and];have e1:(BitVec.ofInt IntKind.i64.bits 268435455).toNat=2 ^ 28-1:=(by decide);rw[e1,Nat.and_two_pow_sub_one_eq_mod];simp only[BitVec.toNat_ofInt,IntKind.bits];omega
 rw[h1,wrap_i64]<;>omega
theorem shr28 (x:Int):x / 2 ^ min (Int.toNat 28) 64=x / 268435456:=by
 have h2:(2:Int) ^ min (Int.toNat 28) 64=268435456:=by decide
 rw[h2]
theorem s41 (h l w:Int) (hh:-288230376151711744<=h/\h<=288230376151711744) (hl:0<=l/\l<=288230376151711744) (hw:-144115188075855872<=w/\w<=144115188075855872) :
 SpecO Tryz.prog 139 [.pt 0 0 0,iA w] ⟨2,[[iA h,iA l]]⟩ (λr o=>r=.tu []/\o=⟨2,[[iA (h+w / 268435456),iA (l+w%268435456)]]⟩):=by
 refine specO_of_vc tabOk elems ord139 Tryz.func139 rfl (rl:=[]) rfl (by kernel_rfl) rfl ?_;have w1:IntKind.i64.wrap (h+w / 268435456)=h+w / 268435456:=by rw[wrap_i64]<;>omega
 have w2:IntKind.i64.wrap (l+w%268435456)=l+w%268435456:=by rw[wrap_i64]<;>omega
 (simp -implicitDefEqProofs only[go_sem,and_mask,iA,shr28,w1,w2];repeat (refine GO ?_;simp -implicitDefEqProofs only[go_sem,and_mask,iA,shr28,w1,w2]));refine ⟨by decide,?_⟩;refine FIN_O (o':=⟨2,[[iA (h+w / 268435456),iA (l+w%268435456)]]⟩) rfl ?_ ?_ ?_
 ·rfl
 ·rw[leafy_do];simp[leafs2,leafs,iA,AV.leaf]
 ·exact ⟨_,⟨⟨rfl,rfl⟩,rfl⟩,by rw[leafy_do];simp[leafs2,leafs,iA,AV.leaf],rfl⟩
theorem shl28 (x:Int):x*2 ^ min (Int.toNat 28) 64=x*268435456:=by
 have h2:(2:Int) ^ min (Int.toNat 28) 64=268435456:=by decide
 rw[h2]
theorem s42 (h l:Int) (hh:-288230376151711744<=h/\h<=288230376151711744) (hl:0<=l/\l<=288230376151711744) :
 Spec0 Tryz.prog 140 [.ag [iA h,iA l]] (λr=>∃v,r=.tu [iA v,bA (okW (h*268435456+l))]/\(okW (h*268435456+l)=true->v=h*268435456+l)):=by
 refine spec0_of_vc tabOk elems ord140 Tryz.func140 rfl (rl:=[.tmp 2,.tmp 3]) rfl (by kernel_rfl) rfl ?_;have w1:IntKind.i64.wrap (h+l / 268435456)=h+l / 268435456:=by rw[wrap_i64]<;>omega
 (simp -implicitDefEqProofs only[go_sem,iA,shr28,w1];repeat (refine GO ?_;simp -implicitDefEqProofs only[go_sem,iA,shr28,w1]));refine ⟨by decide,?_⟩;have bad:∀b,b=okW (h*268435456+l)->b=false->∃v,(AV.tu [.pr (.int .i64 0),.pr (.bool false)])=.tu [iA v,bA (okW (h*268435456+l))]/\(okW (h*268435456+l)=true->v=h*268435456+l):=by intro b h1 h2;subst h1;exact ⟨0,by rw[h2];rfl,λh=>by rw[h2] at h;cases h⟩
 refine VIF.split (λe=>?_) (λe=>?_)
 ·simp at e;refine Aa ?_;exact ⟨rfl,bad _ rfl (by simp[okW,inB];omega)⟩
 ·simp at e;refine Aa ?_;refine VIF.split (λe2=>?_) (λe2=>?_)
  ·simp at e2;refine Aa ?_;exact ⟨rfl,bad _ rfl (by simp[okW,inB];omega)⟩
  ·simp at e2;have w2:IntKind.i64.wrap ((h+l / 268435456)*268435456)=(h+l / 268435456)*268435456:=by rw[wrap_i64]<;>omega
   have w3:IntKind.i64.wrap ((h+l / 268435456)*268435456+l%268435456)=h*268435456+l:=by rw[wrap_i64]<;>omega
   (simp -implicitDefEqProofs only[go_sem,and_mask,shl28,w1,w2,w3];repeat (refine GO ?_;simp -implicitDefEqProofs only[go_sem,and_mask,shl28,w1,w2,w3]));refine ⟨by decide,GO ?_⟩;refine Aa ?_;refine .pure _ (s37 (h*268435456+l)) rfl λr hr _=>?_;subst hr;refine Ad ?_;exact ⟨rfl,h*268435456+l,rfl,λ_=>rfl⟩
theorem any_take {α:Type} {p:α->Bool} {l:List α} {i:Nat} (h:∀j (hj:j<l.length),j<i->p l[j]=false) (hi:l.length<=i):l.any p=false:=by rw[List.any_eq_false];intro x hx;obtain ⟨j,hj,rfl⟩:=List.mem_iff_getElem.1 hx;simp[h j hj (by omega)]
theorem any_at {α:Type} {p:α->Bool} {l:List α} {i:Nat} (hi:i<l.length) (h:p l[i]=true):l.any p=true:=List.any_eq_true.2 ⟨_,List.getElem_mem hi,h⟩
theorem snoc_no {α:Type} {p:α->Bool} {l:List α} {i:Nat} (h:∀j (hj:j<l.length),j<i->p l[j]=false) (hi:i<l.length) (hp:p l[i]=false):∀j (hj:j<l.length),j<i+1->p l[j]=false:=by
 intro j hj hji;by_cases e:j=i
 ·subst e;exact hp
 ·exact h j hj (by omega)
def longV (v:V):Bool:=decide (300<(v.s.size:Int))
theorem s50 (a:List V) (ha:a.length<4611686018427387904):Spec0 Tryz.prog 70 [rowA a] (·=bA (a.any longV)):=by
 refine spec0_of_vc tabOk elems ord70 Tryz.func70 rfl (rl:=[.tmp 2]) rfl (by kernel_rfl) rfl ?_;refine A3 ?_
 refine LOOP.mk (ι:={i:Nat//i<=a.length/\∀j (hj:j<a.length),j<i->longV a[j]=false}) (λi=>mkS [(0,rowA a),(3,iA i.1)] [] []) (λi=>a.length-i.1)
  ⟨0,by simp⟩ [] rfl rfl ?_ (λi=>?_)
 ·refine Bj ?_;simp
 ·obtain ⟨i,hi,hz⟩:=i;refine Bj ?_;refine VIF.split (λh=>?_) (λh=>?_)
  ·simp only[decide_eq_true_eq] at h;have hi':i<a.length:=(by omega);refine Aa ?_;refine EL.map hi' ?_;refine Ao ?_;refine VIF.split (λe=>?_) (λe=>?_)
   ·refine Aa ?_;rw[any_at hi' e];rfl
   ·refine Aa ?_;refine BACK.mk ⟨i+1,hi',snoc_no hz hi' e⟩ [] rfl rfl (by show a.length-(i+1)<a.length-i;omega) ?_;refine Bj ?_;simp[wrap_succ hi' ha]
  ·simp at h;refine Aa ?_;rw[any_take hz h];rfl
def heavyR (r:List V):Bool:=decide (40<(r.length:Int))||r.any longV
theorem s19 (a:List V) (ha:a.length<4611686018427387904):Spec0 Tryz.prog 84 [rowA a] (·=bA (heavyR a)):=by
 refine spec0_of_vc tabOk elems ord84 Tryz.func84 rfl (rl:=[.tmp 2]) rfl (by kernel_rfl) rfl ?_;refine A3 ?_;refine VIF.split (λh=>?_) (λh=>?_)
 ·refine Aa ?_;simp only[heavyR,h];rfl
 ·refine Aa ?_;refine .pure _ (s50 a ha) rfl λr hr _=>?_;subst hr;refine Ad ?_;simp only[heavyR,h];rfl
def heavyI (t:It):Bool:=heavyR t.row
def heavyS (z:List It):Bool:=decide (300<(z.length:Int))||z.any heavyI
def setsA (zs:List (List It)):AV:=.im 1 (zs.map λz=>[setA z])
theorem s10 (zs:List (List It)) (hl:zs.length<4611686018427387904) (hz:∀z∈zs,z.length<4611686018427387904) (hr:∀z∈zs,∀t∈z,t.row.length<4611686018427387904) :
 Spec0 Tryz.prog 37 [setsA zs] (·=bA (zs.any heavyS)):=by
 refine spec0_of_vc tabOk elems ord37 Tryz.func37 rfl (rl:=[.tmp 2]) rfl (by kernel_rfl) rfl ?_;refine C8 ?_
 refine LOOP.mk (ι:={i:Nat//i<=zs.length/\∀j (hj:j<zs.length),j<i->heavyS zs[j]=false}) (λi=>mkS [(0,setsA zs),(3,iA i.1)] [] []) (λi=>zs.length-i.1)
  ⟨0,by simp⟩ [] rfl rfl ?_ (λi=>?_)
 ·refine Bk ?_;simp
 ·obtain ⟨i,hi,hd⟩:=i;refine Bk ?_;refine VIF.split (λh=>?_) (λh=>?_)
  ·simp only[decide_eq_true_eq] at h;have hi':i<zs.length:=(by omega);have hzi:=hz _ (List.getElem_mem hi');have hri:=hr _ (List.getElem_mem hi');refine Aa ?_;refine EL.map hi' ?_;refine Af ?_;refine VIF.split (λe=>?_) (λe=>?_)
   ·refine Aa ?_;rw[any_at hi' (by simp only[heavyS,e];rfl)];rfl
   ·refine Aa ?_
    refine LOOP.mk (ι:={j:Nat//j<=zs[i].length/\∀k (hk:k<zs[i].length),k<j->heavyI zs[i][k]=false}) (λj=>mkS [(0,setsA zs),(3,iA i),(4,iA j.1)] [] []) (λj=>zs[i].length-j.1)
     ⟨0,by simp⟩ [] rfl rfl ?_ (λj=>?_)
    ·refine Bk ?_;simp[setA]
    ·obtain ⟨j,hj,hk⟩:=j;refine Bk ?_;refine EL.map hi' ?_;refine Af ?_;refine VIF.split (λh'=>?_) (λh'=>?_)
     ·simp only[decide_eq_true_eq] at h';have hj':j<zs[i].length:=(by omega);refine Aa ?_;refine EL.map hi' ?_;refine Af ?_;refine EL.map hj' ?_;refine Ar ?_;refine .pure _ (s19 zs[i][j].row (hri _ (List.getElem_mem hj'))) rfl λr hr _=>?_;subst hr;refine Ad ?_;refine VIF.split (λq=>?_) (λq=>?_)
      ·refine Aa ?_;rw[any_at hi' (by simp only[heavyS,any_at hj' (p:=heavyI) q];simp)];rfl
      ·refine Aa ?_;refine BACK.mk ⟨j+1,hj',snoc_no hk hj' q⟩ [] rfl rfl (by show zs[i].length-(j+1)<zs[i].length-j;omega) ?_;refine Bk ?_;simp[wrap_succ hj' hzi,setA]
     ·simp at h';refine Aa ?_;refine BACK.mk ⟨i+1,hi',snoc_no hd hi' (by simp only[heavyS,e,any_take hk h'];rfl)⟩ [] rfl rfl (by show zs.length-(i+1)<zs.length-i;omega) ?_;refine Bk ?_;simp[wrap_succ hi' hl,setA]
  ·simp at h;refine Aa ?_;rw[any_take hd h];rfl
theorem eqV_iff {a b:V}:eqV a b=true ↔ a=b:=by obtain ⟨k,i,s⟩:=a;obtain ⟨k',i',s'⟩:=b;simp[eqV,V.mk.injEq,and_assoc]
theorem s14 (a b:List V) (ha:a.length<4611686018427387904):Spec0 Tryz.prog 80 [rowA a,rowA b] (λr=>∃e:Bool,r=bA e/\(e=true ↔ a=b)):=by
 refine spec0_of_vc tabOk elems ord80 Tryz.func80 rfl (rl:=[.tmp 4]) rfl (by kernel_rfl) rfl ?_;refine A3 ?_;refine VIF.split (λh=>?_) (λh=>?_)
 ·refine Aa ?_;simp at h;exact ⟨false,rfl,by simp;intro e;subst e;exact h rfl⟩
 ·simp at h;refine Aa ?_
  refine LOOP.mk (ι:={i:Nat//i<=a.length/\∀j (h1:j<a.length) (h2:j<b.length),j<i->a[j]=b[j]}) (λi=>mkS [(0,rowA a),(1,rowA b),(5,iA i.1)] [] []) (λi=>a.length-i.1)
   ⟨0,by simp⟩ [] rfl rfl ?_ (λi=>?_)
  ·refine Bj ?_;simp
  ·obtain ⟨i,hi,hz⟩:=i;refine Bj ?_;refine VIF.split (λg=>?_) (λg=>?_)
   ·simp only[decide_eq_true_eq] at g;have hi':i<a.length:=(by omega);have hb':i<b.length:=(by omega);refine Aa ?_;refine EL.map hi' ?_;refine Ao ?_;refine EL.map hb' ?_;refine Ao ?_;refine .pure _ (s46 a[i] b[i]) rfl λr hr _=>?_;subst hr;refine Ad ?_;refine VIF.split (λe=>?_) (λe=>?_)
    ·refine Aa ?_;refine ⟨false,rfl,by simp;intro h';subst h';simp[eqV_iff.2 rfl] at e⟩
    ·refine Aa ?_;have e':a[i]=b[i]:=eqV_iff.1 (by simpa using e);refine BACK.mk ⟨i+1,hi',λj h1 h2 hj=>?_⟩ [] rfl rfl (by show a.length-(i+1)<a.length-i;omega) ?_
     ·by_cases hji:j=i
      ·subst hji;exact e'
      ·exact hz j h1 h2 (by omega)
     ·refine Bj ?_;simp[wrap_succ hi' ha]
   ·simp at g;refine Aa ?_;refine ⟨true,rfl,by simp;exact List.ext_getElem (by omega) λj h1 h2=>hz j h1 h2 (by omega)⟩
def tot (r:List V):List It->Int
 | []=>0
 | t::z=>(if cmpR t.row r=0 then t.w else 0)+tot r z
theorem tot_append (r:List V) (x y:List It):tot r (x++y)=tot r x+tot r y:=by
 induction x with
 | nil=>simp[tot]
 | cons t x ih=>simp only[List.cons_append,tot,ih];omega
theorem tot_perm {r:List V} {x y:List It} (h:x.Perm y):tot r x=tot r y:=by
 induction h with
 | nil=>rfl
 | cons t _ ih=>simp only[tot,ih]
 | swap a b l=>simp only[tot];omega
 | trans _ _ h1 h2=>exact h1.trans h2
def sumW:List It->Int
 | []=>0
 | t::z=>t.w+sumW z
theorem sumW_append (x y:List It):sumW (x++y)=sumW x+sumW y:=by
 induction x with
 | nil=>simp[sumW]
 | cons t x ih=>simp only[List.cons_append,sumW,ih];omega
theorem tot_same {r:List V} {x:List It} (h:∀t∈x,cmpR t.row r=0):tot r x=sumW x:=by
 induction x with
 | nil=>rfl
 | cons t x ih=>simp only[tot,sumW,h t (by simp),if_true,ih λu hu=>h u (by simp[hu])]
theorem tot_none {r:List V} {x:List It} (h:∀t∈x,cmpR t.row r≠0):tot r x=0:=by
 induction x with
 | nil=>rfl
 | cons t x ih=>simp only[tot,h t (by simp),if_false,ih λu hu=>h u (by simp[hu])];rfl
structure Made (o:List It):Prop where
 pw:o.Pairwise λa b=>cI a b<0
 nz:∀t∈o,t.w≠0/\okW t.w=true
theorem cI_eq {a b:It}:cI a b=0 ↔ a.row=b.row:=⟨lin_cmpR.eq _ _,λh=>by simp only[cI,h];exact lin_cmpR.self _⟩
theorem tot_made {o:List It} (h:Made o) {t:It} (ht:t∈o):tot t.row o=t.w:=by
 obtain ⟨hp,hz⟩:=h;clear hz
 induction o with
 | nil=>cases ht
 | cons u o ih=>
   rw[List.pairwise_cons] at hp;simp only[tot];cases ht with
   | head=>
     rw[if_pos (lin_cmpR.self _),tot_none (λv hv=>?_)]
     ·omega
     ·have:=hp.1 v hv;have hn:=lin_cmpR.neg t.row v.row;simp only[cI] at this;omega
   | tail _ ht=>
     have:=hp.1 t ht;simp only[cI] at this;rw[if_neg (by omega),ih ht hp.2];omega
theorem made_eq {x y:List It} (hx:Made x) (hy:Made y) (h:∀r,tot r x=tot r y):x=y:=by
 have key:∀{x y:List It},Made x->Made y->(∀r,tot r x=tot r y)->∀t∈x,t∈y:=by
  intro x y hx hy h t ht;have h1:=tot_made hx ht;have h2:=h t.row;rw[h1] at h2;have hnz:=(hx.nz t ht).1;have:∃u∈y,cmpR u.row t.row=0:=by apply Classical.byContradiction;intro hno;have:=tot_none (r:=t.row) (x:=y) λu hu e=>hno ⟨u,hu,e⟩;omega
  obtain ⟨u,hu,e⟩:=this;have hrow:=lin_cmpR.eq _ _ e;have h3:=tot_made hy hu;rw[hrow,<- h2] at h3;have:t=u:=by obtain ⟨a,b⟩:=t;obtain ⟨a',b'⟩:=u;simp only at hrow h3;subst hrow;subst h3;rfl
  rw[this];exact hu
 have nd:∀{x:List It},Made x->x.Nodup:=λhx=>hx.pw.imp λ{a b} hab e=>by subst e;have:=(cI_eq (a:=a) (b:=a)).2 rfl;omega
 have hperm:x.Perm y:=(List.perm_ext_iff_of_nodup (nd hx) (nd hy)).2 λt=>⟨key hx hy h t,key hy hx (λr=>(h r).symm) t⟩;exact hperm.eq_of_pairwise (λa b _ _ h1 h2=>by
  have:=lin_cmpR.neg a.row b.row;simp only[cI] at h1 h2;omega) hx.pw hy.pw
structure GI (y:List It) (off:Nat) (o:List It):Prop where
 le:off<=y.length
 made:Made o
 low:∀t∈o,∀j (h:j<y.length),off<=j->cI t y[j]<0
 cut:∀i j (h1:i<y.length) (h2:j<y.length),i<off->off<=j->cI y[i] y[j]<0
 tot:∀r,tot r o=tot r (y.take off)
 src:∀t∈o,∃u∈y,u.row=t.row
theorem GI.start (y:List It):GI y 0 []:=⟨Nat.zero_le _,⟨.nil,by simp⟩,by simp,by simp,λr=>by simp[Yt.tot],by simp⟩
structure Run (y:List It) (off e:Nat):Prop where
 lt:off<e
 le:e<=y.length
 same:∀j (h:j<y.length) (h0:off<y.length),off<=j->j<e->cI y[j] y[off]=0
 next:∀(h:e<y.length) (h0:off<y.length),cI y[e] y[off]≠0
theorem SR.get {y:List It} (h:SR cI y 0 y.length) {i j:Nat} (hi:i<y.length) (hj:j<y.length) (hij:i<j):cI y[i] y[j]<=0:=
 h i j (Nat.zero_le _) hij hj _ _ (List.getElem?_eq_getElem hi) (List.getElem?_eq_getElem hj)
theorem cI_neg (a b:It):cI b a=- cI a b:=lin_cmpR.neg _ _
theorem cI_row {a b c:It} (h:a.row=b.row):cI a c=cI b c:=by simp only[cI,h]
theorem cI_row' {a b c:It} (h:a.row=b.row):cI c a=cI c b:=by simp only[cI,h]
theorem take_split (y:List It) {off e:Nat} (h:off<=e):y.take e=y.take off++(y.drop off).take (e-off):=by rw[<- List.take_add,Nat.add_sub_cancel' h]
theorem GI.step {y o:List It} {off e:Nat} (hs:SR cI y 0 y.length) (g:GI y off o) (r:Run y off e) (h0:off<y.length) (hok:okW (sumW ((y.drop off).take (e-off)))=true) :
 GI y e (if sumW ((y.drop off).take (e-off))=0 then o else o++[⟨y[off].row,sumW ((y.drop off).take (e-off))⟩]):=by
 have hrow:∀j (h:j<y.length),off<=j->j<e->y[j].row=y[off].row:=λj h a b=>cI_eq.1 (r.same j h h0 a b);have hgt:∀j (h:j<y.length),e<=j->cI y[off] y[j]<0:=by
  intro j h hj;have he:e<y.length:=(by omega);have h1:=SR.get hs h0 he r.lt;have h2:=r.next he h0;have h3:=cI_neg y[e] y[off];have h4:cI y[off] y[e]<0:=(by omega);by_cases e1:j=e
  ·subst e1;exact h4
  ·have h5:=SR.get hs he h (by omega);by_cases e2:cI y[e] y[j]=0
   ·rw[<- cI_row' (cI_eq.1 e2)];exact h4
   ·exact lin_cmpR.trans _ _ _ h4 (by simp only[cI] at *;omega)
 have hcut:∀i j (h1:i<y.length) (h2:j<y.length),i<e->e<=j->cI y[i] y[j]<0:=by
  intro i j h1 h2 hi hj;by_cases e1:i<off
  ·exact g.cut i j h1 h2 e1 (by have:=r.lt;omega)
  ·rw[cI_row (hrow i h1 (by omega) hi)];exact hgt j h2 hj
 have hlow:∀t∈o,∀j (h:j<y.length),e<=j->cI t y[j]<0:=λt ht j h hj=>g.low t ht j h (by have:=r.lt;omega);have hrun:∀t∈(y.drop off).take (e-off),t.row=y[off].row:=by intro t ht;obtain ⟨k,hk,rfl⟩:=List.mem_iff_getElem.1 ht;simp only[List.length_take,List.length_drop] at hk;simp only[List.getElem_take,List.getElem_drop];exact hrow _ _ (by omega) (by omega)
 have htot:∀q,Yt.tot q ((y.drop off).take (e-off))=if cmpR y[off].row q=0 then sumW ((y.drop off).take (e-off)) else 0:=by
  intro q;split
  ·rename_i hq;exact tot_same λt ht=>by rw[hrun t ht];exact hq
  ·rename_i hq;exact tot_none λt ht=>by rw[hrun t ht];exact hq
 have hsplit:=take_split y (Nat.le_of_lt r.lt);split
 ·rename_i hz;refine ⟨r.le,g.made,hlow,hcut,λq=>?_,g.src⟩;rw[hsplit,tot_append,g.tot q,htot q,hz];split<;>omega
 ·rename_i hz;refine ⟨r.le,⟨?_,?_⟩,?_,hcut,λq=>?_,?_⟩
  ·rw[List.pairwise_append];refine ⟨g.made.pw,List.pairwise_singleton _ _,λt ht u hu=>?_⟩;simp only[List.mem_singleton] at hu;subst hu;exact g.low t ht off h0 (Nat.le_refl _)
  ·intro t ht;rw[List.mem_append,List.mem_singleton] at ht;rcases ht with ht|rfl
   ·exact g.made.nz t ht
   ·exact ⟨hz,hok⟩
  ·intro t ht;rw[List.mem_append,List.mem_singleton] at ht;rcases ht with ht|rfl
   ·exact hlow t ht
   ·exact hgt
  ·rw[tot_append,hsplit,tot_append,g.tot q,htot q];simp only[Yt.tot];omega
  ·intro t ht;rw[List.mem_append,List.mem_singleton] at ht;rcases ht with ht|rfl
   ·exact g.src t ht
   ·exact ⟨y[off],List.getElem_mem h0,rfl⟩
theorem GI.total {y o:List It} {off e:Nat} (hs:SR cI y 0 y.length) (g:GI y off o) (r:Run y off e) (h0:off<y.length):Yt.tot y[off].row y=sumW ((y.drop off).take (e-off)):=by
 have hsplit:=take_split y (Nat.le_of_lt r.lt);have hy:y=y.take off++(y.drop off).take (e-off)++y.drop e:=by rw[<- hsplit,List.take_append_drop]
 have h1:Yt.tot y[off].row (y.take off)=0:=tot_none λt ht=>by obtain ⟨k,hk,rfl⟩:=List.mem_iff_getElem.1 ht;simp only[List.length_take] at hk;rw[List.getElem_take];have:=g.cut k off (by omega) h0 (by omega) (Nat.le_refl _);simp only[cI] at this;omega
 have h2:Yt.tot y[off].row ((y.drop off).take (e-off))=sumW ((y.drop off).take (e-off)):=tot_same λt ht=>by obtain ⟨k,hk,rfl⟩:=List.mem_iff_getElem.1 ht;simp only[List.length_take,List.length_drop] at hk;rw[List.getElem_take,List.getElem_drop];exact r.same _ (by omega) h0 (by omega) (by omega)
 have h3:Yt.tot y[off].row (y.drop e)=0:=tot_none λt ht=>by
  obtain ⟨k,hk,rfl⟩:=List.mem_iff_getElem.1 ht;simp only[List.length_drop] at hk;rw[List.getElem_drop];have he:e<y.length:=(by omega);have a1:=SR.get hs h0 he r.lt;have a2:=r.next he h0;have a3:=cI_neg y[e] y[off];intro e1;by_cases e2:k=0
  ·subst e2;exact a2 e1
  ·have a4:=SR.get hs he (show e+k<y.length by omega) (by omega);have a5:cI y[e] y[off]<=0:=by rw[<- cI_row' (cI_eq.1 e1)];exact a4
   omega
 have:Yt.tot y[off].row y=Yt.tot y[off].row (y.take off++(y.drop off).take (e-off)++y.drop e):=by rw[<- hy]
 rw[this,tot_append,tot_append,h1,h2,h3];omega
def MakeR (z out:List It) (err:Int):Prop:=
 ((z.any λt=>!okI t)=true/\out=[]/\err=1) \/
 ((z.any λt=>!okI t)=false/\out=[]/\err=11/\∃r,okW (tot r z)=false) \/
 ((z.any λt=>!okI t)=false/\err=0/\Made out/\(∀r,tot r out=tot r z)/\(∀t∈out,okR t.row=0/\∃u∈z,u.row=t.row)/\out.length<=z.length)
theorem Es_snoc {st:St} {m:List (Nat×Option Nat)} {l:List (List AV)} {cs cs':List AV} (hl:∀x∈l,∀a∈x,a.leaf=true) (h:wk.wks st m cs cs'):Es st m (l++[cs]) (l++[cs']):=by
 induction l with
 | nil=>exact .cons h .nil
 | cons x r ih=>exact .cons (wks_leaf (hl x (by simp))) (ih λy hy=>hl y (by simp[hy]))
structure TI (y:List It) (off i:Nat) (h l:Int):Prop where
 le:off+i<=y.length
 same:∀j (hj:j<y.length) (h0:off<y.length),off<=j->j<off+i->cI y[j] y[off]=0
 sum:h*268435456+l=sumW ((y.drop off).take i)
 hb:-((i:Int)*536870912)<=h/\h<=(i:Int)*536870912
 lb:0<=l/\l<=(i:Int)*268435456
theorem TI.start {y:List It} {off:Nat} (h:off<=y.length):TI y off 0 0 0:=
 ⟨h,λj _ _ h1 h2=>by omega,by simp[sumW],by omega,by omega⟩
theorem okW_le {w:Int} (h:okW w=true):-72057594037927936<=w/\w<=72057594037927936:=by simp[okW,inB] at h;omega
theorem TI.step {y:List It} {off i:Nat} {h l:Int} (t:TI y off i h l) (hi:off+i<y.length) (e:∀h0:off<y.length,cI y[off+i] y[off]=0) (hw:okW y[off+i].w=true) :
 TI y off (i+1) (h+y[off+i].w / 268435456) (l+y[off+i].w%268435456):=by
 have hw:=okW_le hw;obtain ⟨t1,t2,t3,t4,t5⟩:=t;refine ⟨by omega,λj hj h0 h1 h2=>?_,?_,by omega,by omega⟩
 ·by_cases hji:j=off+i
  ·subst hji;exact e h0
  ·exact t2 j hj h0 h1 (by omega)
 ·have hd:i<(y.drop off).length:=by rw[List.length_drop];omega
  rw[List.take_succ_eq_append_getElem hd,sumW_append,<- t3];simp only[sumW,List.getElem_drop];omega
theorem TI.run {y:List It} {off i:Nat} {h l:Int} (t:TI y off i h l) (h0:off<y.length) (hn:∀hi:off+i<y.length,cI y[off+i] y[off]≠0):Run y off (off+i):=by
 refine ⟨?_,t.le,t.same,λhi h0=>hn hi⟩;apply Classical.byContradiction;intro hlt;have:i=0:=by omega
 subst this;exact hn h0 (cI_eq.2 rfl)
def to2 (h l:Int):Ob:=⟨2,[[iA h,iA l]]⟩
theorem to2_leafy (h l:Int):(to2 h l).leafy:=by rw[to2,leafy_do];simp[leafs2,leafs,iA,AV.leaf]
theorem s11 (z:List It) (hl:z.length<=268435456) (hr:∀t∈z,t.row.length<1073741824) :
 Spec1 Tryz.prog 82 [setA z] (λr o=>∃(out:List It) (err:Int),r=.tu [.rf 0 0 out.length,iA err]/\o=so out/\MakeR z out err):=by
 refine spec1_of_vc tabOk elems ord82 Tryz.func82 rfl (rl:=[.tmp 2,.tmp 3]) rfl (by kernel_rfl) rfl ?_;refine Af ?_;refine .pure _ (s34 z (λt ht=>by have:=hr t ht;omega) (by omega)) rfl λr hr' _=>?_;subst hr';refine Ad ?_;refine VIF.split (λh=>?_) (λhbad=>?_)
 ·refine Aa ?_;refine FINmk [(0,none)] [(2,.rf 0 0 0),(3,iA 1)] [(0,so [])] [0] rfl ?_ ?_
  ·refine Ab ?_;simp[so]
  ·exact ⟨so [],⟨⟨[],1,rfl,rfl,.inl ⟨h,rfl,rfl⟩⟩,rfl⟩,so_leafy [],rfl⟩
 ·refine Aa ?_;refine .make 13 _ (s38 z (by omega)) rfl (by simp) rfl λr o hro _=>?_;obtain ⟨rfl,rfl⟩:=hro;refine Aa ?_;refine .obj 13 (so z) _ [.rf 0 0 z.length,.fn 138 []] (s39 138 cI cmp_cI (λt=>t.row.length<4611686018427387904) (λx y hx _=>s40 x y hx) z (λt ht=>by have:=hr t ht;omega) (by omega)) rfl (so_leafy z) rfl rfl λr o' hro _ _=>?_;obtain ⟨rfl,y,rfl,hw,hs⟩:=hro;have hlen:=hw.len;have hry:∀t∈y,t.row.length<1073741824:=λt ht=>hr t (hw.perm.mem_iff.1 ht);have hok:∀t∈y,okI t=true:=λt ht=>by
   have h1:∀u∈z,okI u=true:=(by simpa using hbad);exact h1 t (hw.perm.mem_iff.1 ht)
  have hs:SR cI y 0 y.length:=by rw[hlen];exact hs
  rw[<- hlen];refine Aa ?_
  refine LOOP.mk (ι:={p:Nat×List It//GI y p.1 p.2/\p.2.length<=p.1}) (λp=>mkS [(4,.rf 1000 p.1.1 (y.length-p.1.1)),(5,.rf 1001 0 p.1.2.length)] [(1000,so y),(1001,so p.1.2)] [1000,1001])
   (λp=>y.length-p.1.1) ⟨(0,[]),.start y,Nat.le_refl _⟩ [(1000,some 13),(1001,none)] rfl rfl ?_ (λp=>?_)
  ·refine Bu ?_;exact ⟨id,.same (so y) _ _ (so_leafy y) rfl,rfl⟩
  ·obtain ⟨⟨off,out⟩,g,hol⟩:=p;have hle:=g.le;simp only at hle hol;refine Bu ?_;refine VIF.split (λh1=>?_) (λh1=>?_)
   ·have h0:off<y.length:=by simp at h1;omega
    refine Aa ?_
    refine LOOP.join (ι:={q:Nat×Int×Int//TI y off q.1 q.2.1 q.2.2/\Run y off (off+q.1)})
     (λq=>mkS [(4,.rf 1000 off (y.length-off)),(5,.rf 1001 0 out.length),(6,iA q.1.1),(7,.pt 1002 0 0)] [(1000,so y),(1001,so out),(1002,to2 q.1.2.1 q.1.2.2)] [1000,1001,1002]) ?_ (λq=>?_)
    ·refine LOOP.mk (ι:={q:Nat×Int×Int//TI y off q.1 q.2.1 q.2.2})
      (λq=>mkS [(4,.rf 1000 off (y.length-off)),(5,.rf 1001 0 out.length),(6,iA q.1.1),(7,.pt 1002 0 0)] [(1000,so y),(1001,so out),(1002,to2 q.1.2.1 q.1.2.2)] [1000,1001,1002])
      (λq=>y.length-off-q.1.1) ⟨(0,0,0),.start hle⟩ [(1000,some 1000),(1001,some 1001),(1002,some 7)] rfl rfl ?_ (λq=>?_)
     ·refine Bx ?_;exact ⟨id,rfl,.same (so y) _ _ (so_leafy y) rfl,.same (so out) _ _ (so_leafy out) rfl,.same (to2 0 0) _ _ (to2_leafy 0 0) rfl⟩
     ·obtain ⟨⟨i,h,l⟩,ti⟩:=q;simp only at ti;have til:=ti.le;refine Bx ?_;refine VIF.split (λh2=>?_) (λh2=>?_)
      ·have hi:off+i<y.length:=by simp at h2;omega
       refine Aa ?_;refine ⟨by omega,EL.map hi ?_⟩;refine Ar ?_;refine ⟨by omega,EL.map (show off+0<y.length by omega) ?_⟩;refine Ar ?_;refine .pure _ (s13 y[off+i].row y[off+Int.toNat 0].row (by have:=hry y[off+i] (List.getElem_mem hi);omega)) rfl λr hr _=>?_;subst hr;refine Aa ?_;refine VIF.split (λh3=>?_) (λh3=>?_)
       ·have h3:cI y[off+i] y[off]=0:=(by simpa [cI] using h3);refine Aa ?_;refine ⟨by omega,EL.map hi ?_⟩;refine Ar ?_;have hbb:i<=268435456:=(by omega);have hb1:=ti.hb;have hb2:=ti.lb;have hoi:=hok y[off+i] (List.getElem_mem hi);have hwi:okW y[off+i].w=true:=by
         simp only[okI,Bool.and_eq_true] at hoi;exact hoi.2
        have hwl:=okW_le hwi;refine .obj 1002 (to2 h l) _ [.pt 0 0 0,iA y[off+i].w] (s41 h l y[off+i].w (by omega) (by omega) (by omega)) rfl (to2_leafy h l) rfl rfl λr o' hr _ _=>?_;obtain ⟨rfl,rfl⟩:=hr;have w3:=wrap_add1 (show i<4611686018427387904 by omega);refine Bo ?_;refine BACK.mk ⟨(i+1,h+y[off+i].w / 268435456,l+y[off+i].w%268435456),ti.step hi (λ_=>h3) hwi⟩ [(1000,some 1000),(1001,some 1001),(1002,some 1002)] rfl rfl (by show y.length-off-(i+1)<y.length-off-i;omega) ?_;refine F5 ?_;exact ⟨id,.same (so y) _ _ (so_leafy y) rfl,.same (so out) _ _ (so_leafy out) rfl,.same (to2 (h+y[off+i].w / 268435456) (l+y[off+i].w%268435456)) _ _ (to2_leafy (h+y[off+i].w / 268435456) (l+y[off+i].w%268435456)) rfl⟩
       ·have h3:cI y[off+i] y[off]≠0:=(by simpa [cI] using h3);refine Aa ?_;refine JB.mk ⟨(i,h,l),ti,ti.run h0 (λhi=>h3)⟩ [(1000,some 1000),(1001,some 1001),(1002,some 1002)] rfl rfl ?_;refine Bx ?_;exact ⟨id,.same (so y) _ _ (so_leafy y) rfl,.same (so out) _ _ (so_leafy out) rfl,.same (to2 h l) _ _ (to2_leafy h l) rfl⟩
      ·have hi:off+i=y.length:=by simp at h2;omega
       refine Aa ?_;refine JB.mk ⟨(i,h,l),ti,ti.run h0 (λhi=>by omega)⟩ [(1000,some 1000),(1001,some 1001),(1002,some 1002)] rfl rfl ?_;refine Bx ?_;exact ⟨id,.same (so y) _ _ (so_leafy y) rfl,.same (so out) _ _ (so_leafy out) rfl,.same (to2 h l) _ _ (to2_leafy h l) rfl⟩
    ·obtain ⟨⟨i,h,l⟩,ti,ru⟩:=q;simp only at ti ru;refine Bx ?_;have hbb:i<=268435456:=by have:=ti.le;omega
     have hb1:=ti.hb;have hb2:=ti.lb;refine .pure _ (s42 h l (by omega) (by omega)) rfl λr hr _=>?_;obtain ⟨v,rfl,hv⟩:=hr;refine A6 ?_;have hoff:off+i-off=i:=(by omega);have htot:=g.total hs ru h0;have hsum:=ti.sum;rw[hoff] at htot;refine VIF.split (λh3=>?_) (λh3=>?_)
     ·have h3:okW (h*268435456+l)=false:=(by simpa using h3);refine Aa ?_;refine FINmk [(0,none)] [(2,.rf 0 0 0),(3,iA 11)] [(0,so [])] [0] rfl ?_ ?_
      ·refine Ab ?_;simp[so]
      ·refine ⟨so [],⟨⟨[],11,rfl,rfl,.inr (.inl ⟨hbad,rfl,rfl,y[off].row,?_⟩)⟩,rfl⟩,so_leafy [],rfl⟩;rw[<- tot_perm hw.perm,htot,<- hsum];exact h3
     ·have h3:okW (h*268435456+l)=true:=(by simpa using h3);have hv:=hv h3;have gs:=g.step hs ru h0 (by rw[hoff,<- hsum];exact h3);rw[hoff,<- hsum,<- hv] at gs;have hle2:=ru.le;have hlt2:=ru.lt;refine Aa ?_;refine VIF.split (λh4=>?_) (λh4=>?_)
      ·have h4:v≠0:=(by simpa using h4);rw[if_neg h4] at gs;refine Aa ?_;refine ⟨by omega,EL.map (show off+0<y.length by omega) ?_⟩;refine Ar ?_;refine .make 61 _ (s43 y[off+Int.toNat 0].row (by have:=hry y[off] (List.getElem_mem h0);simp;omega)) rfl (by simp) rfl λr o hro _=>?_;obtain ⟨rfl,rfl⟩:=hro;refine Aa ?_;refine ⟨by omega,?_⟩;refine Aa ?_;refine ⟨by omega,?_⟩;refine BACK.mk ⟨(off+i,out++[⟨y[off].row,v⟩]),gs,by simp;omega⟩ [(1000,some 1000),(1001,some 65)] rfl rfl (by show y.length-(off+i)<y.length-off;omega) ?_;refine Am ?_;refine ⟨id,⟨by omega,by simp⟩,.same (so y) _ _ (so_leafy y) rfl,?_⟩;rw[List.map_append,show List.take out.length (List.map It.c out)=List.map It.c out from List.take_of_length_le (by simp)];refine Es_snoc (λx hx a ha=>?_) ?_
       ·exact so_leafy out x hx a ha
       ·refine A4 ?_;exact ⟨by decide,_,rfl,ro3_leafy _,rfl,List.take_of_length_le (by simp[ro3])⟩
      ·have h4:v=0:=(by simpa using h4);rw[if_pos h4] at gs;refine Aa ?_;refine ⟨by omega,?_⟩;refine BACK.mk ⟨(off+i,out),gs,by show out.length<=off+i;omega⟩ [(1000,some 1000),(1001,some 1001)] rfl rfl (by show y.length-(off+i)<y.length-off;omega) ?_;refine Am ?_;exact ⟨id,by omega,.same (so y) _ _ (so_leafy y) rfl,.same (so out) _ _ (so_leafy out) rfl⟩
   ·have h0:off=y.length:=by simp at h1;omega
    refine Aa ?_;subst h0;have hgt:=g.tot;rw[List.take_length] at hgt;refine FINmk [(0,some 1001)] [(2,.rf 0 0 out.length),(3,iA 0)] [(0,so out)] [0] rfl ?_ ?_
    ·refine Am ?_;exact .same (so out) _ _ (so_leafy out) rfl
    ·refine ⟨so out,⟨⟨out,0,rfl,rfl,.inr (.inr ⟨hbad,rfl,g.made,λr=>(hgt r).trans (tot_perm hw.perm),λt ht=>?_,by omega⟩)⟩,rfl⟩,so_leafy out,rfl⟩;obtain ⟨u,hu,e⟩:=g.src t ht;have:=hok u hu;refine ⟨?_,u,hw.perm.mem_iff.1 hu,e⟩;rw[<- e];simp[okI] at this;exact this.1
structure Goo (z:List It) (i:Nat) (h:i<z.length):Prop where
 ok:okI z[i]=true
 nz:z[i].w≠0
 up:∀h0:0<i,cI z[i-1] z[i]<0
def Good (z:List It):Prop:=∀i (h:i<z.length),Goo z i h
theorem s16 (z:List It) (hl:z.length<4611686018427387904) (hr:∀t∈z,t.row.length<4611686018427387904) :
 Spec0 Tryz.prog 54 [setA z] (λr=>∃e:Int,r=iA e/\(e=0\/e=1)/\(e=0 ↔ Good z)):=by
 refine spec0_of_vc tabOk elems ord54 Tryz.func54 rfl (rl:=[.tmp 2]) rfl (by kernel_rfl) rfl ?_;refine Af ?_
 refine LOOP.mk (ι:={i:Nat//i<=z.length/\∀j (h:j<z.length),j<i->Goo z j h}) (λp=>mkS [(0,.im 2 (z.map It.c)),(5,.im 2 (z.map It.c)),(6,iA z.length),(7,iA p.1)] [] [])
  (λp=>z.length-p.1) ⟨0,Nat.zero_le _,λj _ h=>absurd h (Nat.not_lt_zero _)⟩ [] rfl rfl ?_ (λp=>?_)
 ·refine Ab ?_;exact ⟨id,rfl⟩
 ·obtain ⟨i,hi,hg⟩:=p;refine Ab ?_;refine VIF.split (λh=>?_) (λh=>?_)
  ·have h:i<z.length:=(by simpa using h);refine Aa ?_;refine EL.map h ?_;refine Ar ?_
   have bad:¬Goo z i h->∃e:Int,AV.pr (Value.int IntKind.i64 1)=iA e/\(e=0\/e=1)/\(e=0 ↔ Good z):=λhn=>
    ⟨1,rfl,.inr rfl,λh=>absurd h (by decide),λg=>absurd (g i h) hn⟩
   refine .pure _ (s36 z[i].row (hr _ (List.getElem_mem h))) rfl λr hr' _=>?_;subst hr';refine Ab ?_;refine VIF.split (λh1=>?_) (λh1=>?_)
   ·have h1:okR z[i].row≠0:=(by simpa using h1);refine Aa ?_;exact bad λg=>h1 (by have:=g.ok;simp[okI] at this;exact this.1)
   ·have h1:okR z[i].row=0:=(by simpa using h1);refine Aa ?_;refine VIF.split (λh2=>?_) (λh2=>?_)
    ·have h2:z[i].w=0:=(by simpa using h2);refine Aa ?_;exact bad λg=>g.nz h2
    ·have h2:z[i].w≠0:=(by simpa using h2);refine Aa ?_;refine .pure _ (s37 z[i].w) rfl λr hr' _=>?_;subst hr';refine Ad ?_;refine VIF.split (λh3=>?_) (λh3=>?_)
     ·have h3:okW z[i].w=false:=(by simpa using h3);refine Aa ?_;exact bad λg=>by have:=g.ok;simp[okI,h3] at this
     ·have h3:okW z[i].w=true:=(by simpa using h3);have hok:okI z[i]=true:=(by simp[okI,h1,h3]);refine Aa ?_;refine VIF.split (λh4=>?_) (λh4=>?_)
      ·have h4:0<i:=by simp at h4;omega
       have w1:=wrap_sub1 (show 1<=i from h4) (by omega);refine Ak ?_;refine EL.map (show i-1<z.length by omega) ?_;refine Ar ?_;refine .pure _ (s13 z[i-1].row z[i].row (hr _ (List.getElem_mem _))) rfl λr hr' _=>?_;subst hr';refine Aa ?_;refine VIF.split (λh5=>?_) (λh5=>?_)
       ·have h5:0<=cI z[i-1] z[i]:=(by simpa [cI] using h5);refine Aa ?_;exact bad λg=>by have:=g.up h4;omega
       ·have h5:cI z[i-1] z[i]<0:=(by simpa [cI] using h5);have w3:=wrap_add1 (show i<4611686018427387904 by omega);refine Bo ?_;refine BACK.mk ⟨i+1,by omega,λj hj hji=>?_⟩ [] rfl rfl (by show z.length-(i+1)<z.length-i;omega) ?_
        ·by_cases e:j=i
         ·subst e;exact ⟨hok,h2,λ_=>h5⟩
         ·exact hg j hj (by omega)
        ·refine Dy ?_;exact id
      ·have h4:i=0:=by simp at h4;omega
       have w3:=wrap_add1 (show i<4611686018427387904 by omega);refine Bo ?_;refine BACK.mk ⟨i+1,by omega,λj hj hji=>?_⟩ [] rfl rfl (by show z.length-(i+1)<z.length-i;omega) ?_
       ·have e:j=i:=(by omega);subst e;exact ⟨hok,h2,λh0=>absurd h0 (by omega)⟩
       ·refine Dy ?_;exact id
  ·have h:i=z.length:=by simp at h;omega
   refine Aa ?_;exact ⟨0,rfl,.inl rfl,λ_ j hj=>hg j hj (by omega),λ_=>rfl⟩
def absS:List It->Int
 | []=>0
 | t::z=>max t.w (-t.w)+absS z
theorem absS_append (x y:List It):absS (x++y)=absS x+absS y:=by
 induction x with
 | nil=>simp[absS]
 | cons t x ih=>simp only[List.cons_append,absS,ih];omega
theorem absS_pos (x:List It):0<=absS x:=by
 induction x with
 | nil=>simp[absS]
 | cons t x ih=>simp only[absS];omega
theorem TOG {K:St->Prop} {s:St} (m:List (Nat×Option Nat)) (rl:List (Nat×AV)) (ol:List (Nat×Ob)) (ul:List Nat) (hm:nmOk m ul=true) (h:(0∈s.used->0∈ul)/\ents s m rl/\eobs s m ol) (k:GOES K (mkS rl ol ul)):GOES K s:=
 k.ent (ent_to m rfl hm h)
theorem tot_there {o:List It} (h:Made o) (r:List V):tot r o≠0 ↔ ∃t∈o,t.row=r:=by
 constructor
 ·intro hn;apply Classical.byContradiction;intro hno;exact hn (tot_none λt ht e=>hno ⟨t,ht,lin_cmpR.eq _ _ e⟩)
 ·rintro ⟨t,ht,rfl⟩;rw[tot_made h ht];exact (h.nz t ht).1
theorem good_made {z:List It}:Good z ↔ Made z/\∀t∈z,okR t.row=0:=by
 constructor
 ·intro h;refine ⟨⟨?_,?_⟩,?_⟩
  ·rw[List.pairwise_iff_getElem];intro i j hi hj hij
   induction j with
   | zero=>omega
   | succ j ih=>
     have h1:=(h (j+1) hj).up (by omega);simp only[Nat.add_sub_cancel] at h1;by_cases e:i=j
     ·subst e;exact h1
     ·exact lin_cmpR.trans _ _ _ (ih (by omega) (by omega)) h1
  ·intro t ht;obtain ⟨i,hi,rfl⟩:=List.mem_iff_getElem.1 ht;have:=(h i hi).ok;simp only[okI,Bool.and_eq_true] at this;exact ⟨(h i hi).nz,this.2⟩
  ·intro t ht;obtain ⟨i,hi,rfl⟩:=List.mem_iff_getElem.1 ht;have:=(h i hi).ok;simp[okI] at this;exact this.1
 ·rintro ⟨hm,ho⟩ i hi;have h1:=hm.nz _ (List.getElem_mem hi);refine ⟨by simp[okI,ho _ (List.getElem_mem hi),h1.2],h1.1,λh0=>?_⟩;exact List.pairwise_iff_getElem.1 hm.pw (i-1) i (by omega) hi (by omega)
theorem zeros_leafy (n:Nat):(Ob.mk 2 (List.replicate n [.nl,iA 0])).leafy:=by intro x hx a ha;rw[(List.mem_replicate.1 hx).2] at ha;simp only[List.mem_cons,List.not_mem_nil,or_false] at ha;rcases ha with rfl|rfl<;>rfl
theorem s65 (n:Nat) (hn:n<=1073741824):Spec1 Tryz.prog 141 [.nl,iA n] (λr o=>r=.rf 0 0 0/\o.sz=2):=by
 refine spec1_of_vc tabOk elems ord141 Tryz.func141 rfl (rl:=[.tmp 4]) rfl (by kernel_rfl) rfl ?_;refine Ab ?_;refine VIF.split (λh=>by simp at h;omega) (λ_=>?_);have w0:IntKind.i64.wrap (0-0)=0:=by rw[wrap_i64]<;>omega
 have w1:IntKind.i64.wrap ((n:Int)-0)=n:=by rw[wrap_i64]<;>omega
 refine Er ?_;refine VIF.split (λh=>?_) (λh=>?_)
 ·have h:0<n:=(by simpa using h);refine Aa ?_;refine ⟨by decide,⟨_,rfl⟩,⟨by omega,by omega⟩,by decide,?_⟩;refine Aa ?_;refine FINmk [(0,some 22)] [(4,.rf 0 0 0)] [(0,⟨2,List.replicate n [.nl,iA 0]⟩)] [0] rfl ?_ ?_
  ·refine Ab ?_;exact ⟨⟨rfl,rfl⟩,.same ⟨2,List.replicate n [.nl,iA 0]⟩ _ _ (zeros_leafy n) (by simp[iA])⟩
  ·exact ⟨_,⟨⟨rfl,rfl⟩,rfl⟩,zeros_leafy n,rfl⟩
 ·refine Aa ?_;refine FINmk [(0,none)] [(4,.rf 0 0 0)] [(0,so [])] [0] rfl ?_ ?_
  ·refine Aa ?_;simp[so]
  ·exact ⟨so [],⟨⟨rfl,rfl⟩,rfl⟩,so_leafy [],rfl⟩
def cat:List (List It)->List It
 | []=>[]
 | z::r=>z++cat r
theorem s18 (a b:List It) (ha:a.length<4611686018427387904) (hb:b.length<4611686018427387904) (hr:∀t∈a,t.row.length<4611686018427387904) :
 Spec0 Tryz.prog 30 [setA a,setA b] (λr=>∃e:Bool,r=bA e/\(e=true ↔ a=b)):=by
 refine spec0_of_vc tabOk elems ord30 Tryz.func30 rfl (rl:=[.tmp 4]) rfl (by kernel_rfl) rfl ?_;refine Af ?_;refine VIF.split (λh=>?_) (λh=>?_)
 ·have h:a.length≠b.length:=by simp at h;omega
  refine Aa ?_;exact ⟨false,rfl,by simp;intro e;exact h (by rw[e])⟩
 ·have h:a.length=b.length:=by simp at h;omega
  refine Aa ?_
  refine LOOP.mk (ι:={i:Nat//i<=a.length/\∀j (h1:j<a.length) (h2:j<b.length),j<i->a[j]=b[j]}) (λp=>mkS [(0,setA a),(1,setA b),(5,iA p.1)] [] [])
   (λp=>a.length-p.1) ⟨0,Nat.zero_le _,λj _ _ h=>absurd h (Nat.not_lt_zero _)⟩ [] rfl rfl ?_ (λp=>?_)
  ·refine Al ?_;exact ⟨id,rfl⟩
  ·obtain ⟨i,hi,hg⟩:=p;refine Al ?_;refine VIF.split (λh3=>?_) (λh3=>?_)
   ·have h3:i<a.length:=(by simpa using h3);have h4:i<b.length:=(by omega);have w1:=wrap_add1 (show i<4611686018427387904 by omega);have bad:a[i]≠b[i]->∃e:Bool,AV.pr (Value.bool false)=bA e/\(e=true ↔ a=b):=λhne=>by
     refine ⟨false,rfl,?_⟩;simp only[Bool.false_eq_true,false_iff];intro e;subst e;exact hne rfl
    refine Aa ?_;refine EL.map h3 ?_;refine Ar ?_;refine EL.map h4 ?_;refine Be ?_;refine VIF.split (λh5=>?_) (λh5=>?_)
    ·have h5:a[i].w≠b[i].w:=(by simpa using h5);refine Aa ?_;exact bad λe=>h5 (by rw[e])
    ·have h5:a[i].w=b[i].w:=(by simpa using h5);refine Aa ?_;refine EL.map h3 ?_;refine Ar ?_;refine EL.map h4 ?_;refine Ar ?_;refine .pure _ (s14 a[i].row b[i].row (hr _ (List.getElem_mem h3))) rfl λq hq _=>?_;obtain ⟨e,rfl,he⟩:=hq;refine Ad ?_;refine VIF.split (λh6=>?_) (λh6=>?_)
     ·have h6:e=false:=(by simpa using h6);refine Aa ?_;refine bad λe2=>?_;rw[e2] at he;rw[h6] at he;simp at he
     ·have h6:e=true:=(by simpa using h6);refine Ak ?_;refine BACK.mk ⟨i+1,by omega,λj g1 g2 hj=>?_⟩ [] rfl rfl (by show a.length-(i+1)<a.length-i;omega) ?_
      ·by_cases e2:j=i
       ·subst e2;have h7:=he.1 h6;show a[j]=b[j];generalize a[j]=x at h5 h7;generalize b[j]=y at h5 h7;obtain ⟨r1,w1⟩:=x;obtain ⟨r2,w2⟩:=y;simp only at h5 h7;subst h5;subst h7;rfl
       ·exact hg j g1 g2 (by omega)
      ·refine B3 ?_;exact id
   ·have h3:i=a.length:=by simp at h3;omega
    refine Aa ?_;refine ⟨true,rfl,λ_=>?_,λ_=>rfl⟩;exact List.ext_getElem h λj h1 h2=>hg j h1 h2 (by omega)
theorem cat_append (x y:List (List It)):cat (x++y)=cat x++cat y:=by
 induction x with
 | nil=>rfl
 | cons z x ih=>simp only[List.cons_append,cat,ih,List.append_assoc]
theorem cat_take {zs:List (List It)} {i:Nat} (h:i<zs.length):(cat (zs.take (i+1))).length=(cat (zs.take i)).length+zs[i].length:=by rw[List.take_succ_eq_append_getElem h,cat_append];simp[cat]
theorem cat_le (zs:List (List It)) (i:Nat):(cat (zs.take i)).length<=(cat zs).length:=by
 have:cat zs=cat (zs.take i)++cat (zs.drop i):=by rw[<- cat_append,List.take_append_drop]
 rw[this];simp
theorem s51 (zs:List (List It)) (hl:zs.length<=1073741824) (hc:(cat zs).length<=268435456) :
 Spec1 Tryz.prog 83 [setsA zs] (λr o=>r=.rf 0 0 (cat zs).length/\o.sz=2/\o.es.take (cat zs).length=(cat zs).map It.c):=by
 refine spec1_of_vc tabOk elems ord83 Tryz.func83 rfl (rl:=[.tmp 2]) rfl (by kernel_rfl) rfl ?_;refine C8 ?_
 refine LOOP.mk (ι:={i:Nat//i<=zs.length}) (λp=>mkS [(0,setsA zs),(3,iA (cat (zs.take p.1)).length),(9,setsA zs),(10,iA zs.length),(11,iA p.1)] [] [])
  (λp=>zs.length-p.1) ⟨0,Nat.zero_le _⟩ [] rfl rfl ?_ (λp=>?_)
 ·refine Bk ?_;exact ⟨id,rfl,rfl⟩
 ·obtain ⟨i,hi⟩:=p;refine Bk ?_;refine VIF.split (λh=>?_) (λh=>?_)
  ·have h:i<zs.length:=(by simpa using h);refine Aa ?_;refine EL.map h ?_;have hct:=cat_take h;have hcl:=cat_le zs (i+1);rw[hct] at hcl;have w1:IntKind.i64.wrap (((cat (zs.take i)).length:Int)+(zs[i].length:Int))=((cat (zs.take (i+1))).length:Int):=by
    rw[hct,wrap_i64]<;>omega
   have w2:=wrap_add1 (show i<4611686018427387904 by omega);(simp -implicitDefEqProofs only[go_sem,setA,w1,w2];repeat (refine GO ?_;simp -implicitDefEqProofs only[go_sem,setA,w1,w2]));refine VIF.split (λh=>by simp at h;omega) (λ_=>?_);refine Co ?_;refine BACK.mk ⟨i+1,by omega⟩ [] rfl rfl (by show zs.length-(i+1)<zs.length-i;omega) ?_;(simp -implicitDefEqProofs only[go_sem,iA,setsA,w1,w2];repeat (refine GO ?_;simp -implicitDefEqProofs only[go_sem,iA,setsA,w1,w2]));exact ⟨id,rfl,rfl⟩
  ·have h:i=zs.length:=by simp at h;omega
   subst h;refine Bm ?_;refine .make 24 _ (s65 (cat zs).length (by omega)) rfl (by simp) rfl λq o hq hlf=>?_;obtain ⟨rfl,ho⟩:=hq;refine Aa ?_
   refine LOOP.mk (ι:={p:Nat×Ob//p.1<=zs.length/\p.2.sz=2/\p.2.leafy/\p.2.es.take (cat (zs.take p.1)).length=(cat (zs.take p.1)).map It.c})
    (λp=>mkS [(6,.rf 1000 0 (cat (zs.take p.1.1)).length),(25,setsA zs),(26,iA zs.length),(27,iA p.1.1)] [(1000,p.1.2)] [1000])
    (λp=>zs.length-p.1.1) ⟨(0,o),Nat.zero_le _,ho,hlf,rfl⟩ [(1000,some 24)] rfl rfl ?_ (λp=>?_)
   ·refine Bk ?_;exact ⟨id,⟨rfl,rfl⟩,.same o _ _ hlf rfl⟩
   ·obtain ⟨⟨i,o2⟩,hi,hsz,hlf2,hes⟩:=p;simp only at hi hsz hlf2 hes;refine Bk ?_;refine VIF.split (λh=>?_) (λh=>?_)
    ·have h:i<zs.length:=(by simpa using h);have hct:=cat_take h;have hcl:=cat_le zs (i+1);rw[hct] at hcl;have w2:=wrap_add1 (show i<4611686018427387904 by omega);refine Aa ?_;refine EL.map h ?_;(simp -implicitDefEqProofs only[go_sem,setA,w2];repeat (refine GO ?_;simp -implicitDefEqProofs only[go_sem,setA,w2]));refine ⟨⟨hsz,by omega⟩,?_⟩;have hlf3:(Ob.mk 2 (o2.es.take (cat (zs.take i)).length++zs[i].map It.c)).leafy:=by
      rw[hes,<- List.map_append];exact so_leafy _
     refine BACK.mk ⟨(i+1,⟨2,o2.es.take (cat (zs.take i)).length++zs[i].map It.c⟩),by omega,rfl,hlf3,by
      show (o2.es.take (cat (zs.take i)).length++zs[i].map It.c).take (cat (zs.take (i+1))).length=(cat (zs.take (i+1))).map It.c;rw[hes,<- List.map_append,List.take_succ_eq_append_getElem h,cat_append];simp only[cat,List.append_nil];exact List.take_of_length_le (by simp)⟩ [(1000,some 33)] rfl rfl (by show zs.length-(i+1)<zs.length-i;omega) ?_
     (simp -implicitDefEqProofs only[go_sem,iA,setsA,w2];repeat (refine GO ?_;simp -implicitDefEqProofs only[go_sem,iA,setsA,w2]));refine ⟨id,⟨by rw[hct],rfl⟩,.same (Ob.mk 2 (o2.es.take (cat (zs.take i)).length++zs[i].map It.c)) _ _ hlf3 rfl⟩
    ·have h:i=zs.length:=by simp at h;omega
     subst h;rw[List.take_length] at hes;refine Bm ?_;refine FINmk [(0,some 1000)] [(2,.rf 0 0 (cat zs).length)] [(0,o2)] [0] rfl ?_ ?_
     ·refine Aa ?_;exact .same o2 _ _ hlf2 rfl
     ·exact ⟨o2,⟨⟨rfl,hsz,hes⟩,rfl⟩,hlf2,rfl⟩
theorem s49 (v:V):Spec0 Tryz.prog 86 [.ag v.c] (·=bA (okV v)):=by
 refine spec0_of_vc tabOk elems ord86 Tryz.func86 rfl (rl:=[.tmp 2]) rfl (by kernel_rfl) rfl ?_;refine Ao ?_
 iterate 9 all_goals (first
                       | (refine VIF.split (λh=>?_) (λh=>?_)<;>(simp -implicitDefEqProofs only[go_sem];repeat (refine GO ?_;simp -implicitDefEqProofs only[go_sem])))
                       | (refine .pure _ (s64 v.i 0 1) rfl λr hr _=>?_
                          subst hr;(simp -implicitDefEqProofs only[go_sem,bA];repeat (refine GO ?_;simp -implicitDefEqProofs only[go_sem,bA])))
                       | (refine .pure _ (s64 v.i (-1152921504606846976) 1152921504606846976) rfl λr hr _=>?_
                          subst hr;(simp -implicitDefEqProofs only[go_sem,bA];repeat (refine GO ?_;simp -implicitDefEqProofs only[go_sem,bA])))
                       | skip)
 all_goals simp_all [okV,inB,iA,bA,noS]
 all_goals (first|rfl|(intros;omega))
theorem s17 (a:List V) (ha:a.length<4611686018427387904):Spec0 Tryz.prog 39 [rowA a] (·=iA (okR a)):=by
 refine spec0_of_vc tabOk elems ord39 Tryz.func39 rfl (rl:=[.tmp 2]) rfl (by kernel_rfl) rfl ?_;refine A3 ?_;refine VIF.split (λh=>?_) (λh=>?_)
 ·refine Aa ?_;have h:12<a.length:=by simp at h;omega
  simp[okR,h,iA]
 ·have h12:¬12<a.length:=by simp at h;omega
  refine Aa ?_
  refine LOOP.mk (ι:={i:Nat//i<=a.length/\∀j (hj:j<a.length),j<i->okV a[j]=true}) (λi=>mkS [(0,rowA a),(3,iA i.1)] [] []) (λi=>a.length-i.1)
   ⟨0,by simp⟩ [] rfl rfl ?_ (λi=>?_)
  ·refine Bj ?_;exact ⟨id,rfl⟩
  ·obtain ⟨i,hi,hz⟩:=i;refine Bj ?_;refine VIF.split (λh=>?_) (λh=>?_)
   ·have hi':i<a.length:=(by simpa using h);have w1:=wrap_add1 (show i<4611686018427387904 by omega);refine Aa ?_;refine EL.map hi' ?_;refine Ao ?_;refine .pure _ (s49 a[i]) rfl λr hr _=>?_;subst hr;refine Ad ?_;refine VIF.split (λe=>?_) (λe=>?_)
    ·have e:okV a[i]=false:=(by simpa using e);refine Aa ?_;have:a.all okV=false:=by
      rw[List.all_eq_false];exact ⟨_,List.getElem_mem hi',by simp[e]⟩
     simp[okR,h12,this,iA]
    ·have e:okV a[i]=true:=(by simpa using e);refine Ak ?_;refine BACK.mk ⟨i+1,by omega,λj hj hji=>?_⟩ [] rfl rfl (by show a.length-(i+1)<a.length-i;omega) ?_
     ·by_cases e2:j=i
      ·subst e2;exact e
      ·exact hz j hj (by omega)
     ·refine Eh ?_;exact id
   ·have h:i=a.length:=by simp at h;omega
    refine Aa ?_;have:a.all okV=true:=by rw[List.all_eq_true];intro x hx;obtain ⟨j,hj,rfl⟩:=List.mem_iff_getElem.1 hx;exact hz j hj (by omega)
    simp[okR,h12,this,iA]
def rowsA (l:List (List V)):AV:=.im 1 (l.map λr=>[rowA r])
def oneI (r:List V):It:=⟨r,1⟩
theorem s67 (b:Bool):Spec0 Tryz.prog 169 [bA b] (·=iA (if b then -1 else 1)):=by
 refine spec0_of_vc tabOk elems ord169 Tryz.func169 rfl (rl:=[.tmp 2]) rfl (by kernel_rfl) rfl ?_;refine Ad ?_;refine VIF.split (λh=>?_) (λh=>?_)
 ·subst h;(simp -implicitDefEqProofs only[go_sem];repeat (refine GO ?_;simp -implicitDefEqProofs only[go_sem]));rfl
 ·subst h;(simp -implicitDefEqProofs only[go_sem];repeat (refine GO ?_;simp -implicitDefEqProofs only[go_sem]));rfl
theorem s66 (a b:V):Spec0 Tryz.prog 168 [.ag a.c,.ag b.c] (·=iA (cmpV a b)):=by
 refine spec0_of_vc tabOk elems ord168 Tryz.func168 rfl (rl:=[.tmp 4]) rfl (by kernel_rfl) rfl ?_;refine Ao ?_;refine VIF.split (λh=>?_) (λh=>?_)
 ·refine Aa ?_;refine .pure _ (s67 _) rfl λq hq _=>?_;subst hq;refine Ab ?_;have h:a.k≠b.k:=(by simpa using h);by_cases h2:a.k<b.k
  ·simp[cmpV,nz,cmpI,h2]
  ·have h3:b.k<a.k:=(by omega);simp[cmpV,nz,cmpI,h2,h3]
 ·have h:a.k=b.k:=(by simpa using h);refine Aa ?_;refine VIF.split (λh2=>?_) (λh2=>?_)
  ·refine Aa ?_;refine .pure _ (s67 _) rfl λq hq _=>?_;subst hq;refine Ab ?_;have h2:a.i≠b.i:=(by simpa using h2);by_cases h3:a.i<b.i
   ·simp[cmpV,nz,cmpI,h,h3]
   ·have h4:b.i<a.i:=(by omega);simp[cmpV,nz,cmpI,h,h3,h4]
  ·have h2:a.i=b.i:=(by simpa using h2);refine Aa ?_;refine VIF.split (λh3=>?_) (λh3=>?_)
   ·refine Aa ?_;refine .pure _ (s67 _) rfl λq hq _=>?_;subst hq;refine Ab ?_;have h3:a.s≠b.s:=(by simpa using h3);by_cases h4:Op.bytesLess a.s.toList b.s.toList=true
    ·simp[cmpV,nz,cmpI,cmpS,h,h2,h4]
    ·simp[cmpV,nz,cmpI,cmpS,h,h2,h4,h3]
   ·have h3:a.s=b.s:=(by simpa using h3);refine Aa ?_;have h5:=lin_cmpS.self b.s;simp[iA,cmpV,nz,cmpI,h,h2,h3,h5]
theorem cmpR_step (a b:List V) (i:Nat) (ha:i<a.length) (hb:i<b.length):cmpR (a.drop i) (b.drop i)=if cmpV a[i] b[i]=0 then cmpR (a.drop (i+1)) (b.drop (i+1)) else cmpV a[i] b[i]:=by rw[List.drop_eq_getElem_cons ha,List.drop_eq_getElem_cons hb];rfl
theorem s55 (a b:List V) (ha:a.length<4611686018427387904) (hb:b.length<4611686018427387904):Spec0 Tryz.prog 119 [rowA a,rowA b] (·=iA (cmpR a b)):=by
 refine spec0_of_vc tabOk elems ord119 Tryz.func119 rfl (rl:=[.tmp 4]) rfl (by kernel_rfl) rfl ?_;refine A3 ?_;refine LOOP.join (ι:={u:Unit//cmpR a b=if a.length=b.length then 0 else if a.length<b.length then -1 else 1}) (λ_=>mkS [(0,rowA a),(1,rowA b)] [] []) ?_ (λu=>?_)
 ·refine LOOP.mk (ι:={i:Nat//i<=a.length/\i<=b.length/\cmpR a b=cmpR (a.drop i) (b.drop i)}) (λp=>mkS [(0,rowA a),(1,rowA b),(5,iA p.1)] [] [])
   (λp=>a.length-p.1) ⟨0,Nat.zero_le _,Nat.zero_le _,rfl⟩ [] rfl rfl ?_ (λp=>?_)
  ·refine Bj ?_;exact ⟨id,rfl⟩
  ·obtain ⟨i,hi,hi2,he⟩:=p;have w3:=wrap_add1 (show i<4611686018427387904 by omega);refine Bj ?_;refine VIF.split (λh=>?_) (λh=>?_)
   ·have h:i<a.length:=(by simpa using h);refine Aa ?_;refine VIF.split (λh2=>?_) (λh2=>?_)
    ·have h2:i<b.length:=(by simpa using h2);have hst:=cmpR_step a b i h h2;refine Aa ?_;refine EL.map h ?_;refine Ao ?_;refine EL.map h2 ?_;refine Ao ?_;refine .pure _ (s66 a[i] b[i]) rfl λq hq _=>?_;subst hq;refine Ab ?_;refine VIF.split (λh3=>?_) (λh3=>?_)
     ·have h3:cmpV a[i] b[i]≠0:=(by simpa using h3);refine Aa ?_;rw[he,hst,if_neg h3];rfl
     ·have h3:cmpV a[i] b[i]=0:=(by simpa using h3);rw[if_pos h3] at hst;refine Bo ?_;refine BACK.mk ⟨i+1,by omega,by omega,he.trans hst⟩ [] rfl rfl (by show a.length-(i+1)<a.length-i;omega) ?_;(simp -implicitDefEqProofs only[go_sem,iA,rowA,w3];repeat (refine GO ?_;simp -implicitDefEqProofs only[go_sem,iA,rowA,w3]));exact id
    ·have h2:i=b.length:=by simp at h2;omega
     refine Aa ?_;refine JB.mk ⟨(),?_⟩ [] rfl rfl ?_
     ·rw[he,h2,List.drop_length,List.drop_eq_getElem_cons (by omega),if_neg (by omega),if_neg (by omega)];rfl
     ·refine A3 ?_;exact id
   ·have h:i=a.length:=by simp at h;omega
    refine Aa ?_;refine JB.mk ⟨(),?_⟩ [] rfl rfl ?_
    ·rw[he,h,List.drop_length];by_cases h2:a.length=b.length
     ·rw[if_pos h2,h2,List.drop_length];rfl
     ·rw[if_neg h2,List.drop_eq_getElem_cons (by omega),if_pos (by omega)];rfl
    ·refine A3 ?_;exact id
 ·obtain ⟨u,he⟩:=u;refine A3 ?_;refine VIF.split (λh=>?_) (λh=>?_)
  ·have h:a.length≠b.length:=by simp at h;omega
   refine Aa ?_;refine .pure _ (s67 _) rfl λq hq _=>?_;subst hq;refine Ab ?_;rw[he,if_neg h];simp
  ·have h:a.length=b.length:=by simp at h;omega
   refine Aa ?_;rw[he,if_pos h];rfl
theorem s30 (z:List It) (hl:z.length<4611686018427387904) (hr:∀t∈z,t.row.length<4611686018427387904) :
 Spec0 Tryz.prog 66 [setA z] (λr=>∃e:Bool,r=bA e/\(e=true ↔ Good z)):=by
 refine spec0_of_vc tabOk elems ord66 Tryz.func66 rfl (rl:=[.tmp 2]) rfl (by kernel_rfl) rfl ?_;refine Af ?_
 refine LOOP.mk (ι:={i:Nat//i<=z.length/\∀j (h:j<z.length),j<i->Goo z j h}) (λp=>mkS [(0,.im 2 (z.map It.c)),(3,iA p.1)] [] [])
  (λp=>z.length-p.1) ⟨0,Nat.zero_le _,λj _ h=>absurd h (Nat.not_lt_zero _)⟩ [] rfl rfl ?_ (λp=>?_)
 ·refine Ab ?_;exact ⟨id,rfl⟩
 ·obtain ⟨i,hi,hg⟩:=p;refine Ab ?_;refine VIF.split (λh=>?_) (λh=>?_)
  ·have h:i<z.length:=by simpa using h
   have bad:¬Goo z i h->∃e:Bool,AV.pr (Value.bool false)=bA e/\(e=true ↔ Good z):=λhn=>
    ⟨false,rfl,λh=>absurd h (by decide),λg=>absurd (g i h) hn⟩
   have w3:=wrap_add1 (show i<4611686018427387904 by omega);refine Aa ?_;refine EL.map h ?_;refine Ar ?_;refine .pure _ (s17 z[i].row (hr _ (List.getElem_mem h))) rfl λr hr' _=>?_;subst hr';refine Ab ?_;refine VIF.split (λh1=>?_) (λh1=>?_)
   ·have h1:okR z[i].row≠0:=(by simpa using h1);refine Aa ?_;exact bad λg=>h1 (by have:=g.ok;simp[okI] at this;exact this.1)
   ·have h1:okR z[i].row=0:=(by simpa using h1);refine Aa ?_;refine EL.map h ?_;refine Be ?_;refine VIF.split (λh2=>?_) (λh2=>?_)
    ·have h2:z[i].w=0:=(by simpa using h2);refine Aa ?_;exact bad λg=>g.nz h2
    ·have h2:z[i].w≠0:=(by simpa using h2);refine Aa ?_;refine EL.map h ?_;refine Be ?_;refine .pure _ (s53 z[i].w (-72057594037927936) 72057594037927936) rfl λr hr' _=>?_;subst hr';refine Ad ?_;refine VIF.split (λh3=>?_) (λh3=>?_)
     ·have h3:okW z[i].w=false:=(by simpa [okW] using h3);refine Aa ?_;exact bad λg=>by have:=g.ok;simp[okI,h3] at this
     ·have h3:okW z[i].w=true:=(by simpa [okW] using h3);have hok:okI z[i]=true:=(by simp[okI,h1,h3]);refine Aa ?_;refine VIF.split (λh4=>?_) (λh4=>?_)
      ·have h4:0<i:=by simp at h4;omega
       have w1:=wrap_sub1 (show 1<=i from h4) (by omega);refine Ak ?_;refine EL.map (show i-1<z.length by omega) ?_;refine Ar ?_;refine EL.map h ?_;refine Ar ?_;refine .pure _ (s55 z[i-1].row z[i].row (hr _ (List.getElem_mem _)) (hr _ (List.getElem_mem _))) rfl λr hr' _=>?_;subst hr';refine Ab ?_;refine VIF.split (λh5=>?_) (λh5=>?_)
       ·have h5:0<=cI z[i-1] z[i]:=(by simpa [cI] using h5);refine Aa ?_;exact bad λg=>by have:=g.up h4;omega
       ·have h5:cI z[i-1] z[i]<0:=(by simpa [cI] using h5);refine Bo ?_;refine BACK.mk ⟨i+1,by omega,λj hj hji=>?_⟩ [] rfl rfl (by show z.length-(i+1)<z.length-i;omega) ?_
        ·by_cases e:j=i
         ·subst e;exact ⟨hok,h2,λ_=>h5⟩
         ·exact hg j hj (by omega)
        ·refine Dy ?_;exact id
      ·have h4:i=0:=by simp at h4;omega
       refine Bo ?_;refine BACK.mk ⟨i+1,by omega,λj hj hji=>?_⟩ [] rfl rfl (by show z.length-(i+1)<z.length-i;omega) ?_
       ·have e:j=i:=(by omega);subst e;exact ⟨hok,h2,λh0=>absurd h0 (by omega)⟩
       ·refine Dy ?_;exact id
  ·have h:i=z.length:=by simp at h;omega
   refine Aa ?_;exact ⟨true,rfl,λ_ j hj=>hg j hj (by omega),λ_=>rfl⟩
theorem shr32 (x:Int):x / 2 ^ min (Int.toNat 32) 64=x / 4294967296:=by
 have h2:(2:Int) ^ min (Int.toNat 32) 64=4294967296:=by decide
 rw[h2]
def AddR (a b out:List It) (err:Int):Prop:=(¬(Good a/\Good b)/\out=[]/\err=1)\/(Good a/\Good b/\MakeR (a++b) out err)
theorem s23 (a b:List It) (hl:a.length+b.length<=268435456) (ha:∀t∈a,t.row.length<1073741824) (hb:∀t∈b,t.row.length<1073741824) :
 Spec1 Tryz.prog 36 [setA a,setA b] (λr o=>∃(out:List It) (err:Int),r=.tu [.rf 0 0 out.length,iA err]/\o=so out/\AddR a b out err):=by
 refine spec1_of_vc tabOk elems ord36 Tryz.func36 rfl (rl:=[.tmp 4,.tmp 5]) rfl (by kernel_rfl) rfl ?_;refine Af ?_;refine .pure _ (s16 a (by omega) (λt ht=>by have:=ha t ht;omega)) rfl λq hq _=>?_;obtain ⟨e1,rfl,_,h1⟩:=hq;have bad:∀s:St,s.regs 4=.nl->s.regs 5=.pr (.int .i64 1)->¬(Good a/\Good b)->FIN T noOb [.tmp 4,.tmp 5] (λr O'=>∃o,((∃(out:List It) (err:Int),r=.tu [.rf 0 0 out.length,iA err]/\o=so out/\AddR a b out err)/\r.only0=true)/\o.leafy/\O'=upd noOb 0 (some o)) s:=by
  intro s h4 h5 hn;refine FINmk [(0,none)] [(4,.rf 0 0 0),(5,iA 1)] [(0,so [])] [0] rfl ?_ ?_
  ·refine Cc ?_;simp[so]
  ·exact ⟨so [],⟨⟨[],1,rfl,rfl,.inl ⟨hn,rfl,rfl⟩⟩,rfl⟩,so_leafy [],rfl⟩
 refine Ab ?_;refine VIF.split (λh=>?_) (λh=>?_)
 ·have h:e1≠0:=(by simpa using h);refine Aa ?_;exact bad _ rfl rfl λg=>h (h1.2 g.1)
 ·have h:e1=0:=(by simpa using h);have h1:=h1.1 h;refine Aa ?_;refine .pure _ (s16 b (by omega) (λt ht=>by have:=hb t ht;omega)) rfl λq hq _=>?_;obtain ⟨e2,rfl,_,h2⟩:=hq;refine Ab ?_;refine VIF.split (λh=>?_) (λh=>?_)
  ·have h:e2≠0:=(by simpa using h);refine Aa ?_;exact bad _ rfl rfl λg=>h (h2.2 g.2)
  ·have h:e2=0:=(by simpa using h);have h2:=h2.1 h;refine Aw ?_;refine GO ?_;refine Aw ?_;refine TO [] [(16,setsA [a,b])] [] [] rfl ?_ ?_
   ·refine Gj ?_;exact ⟨id,by decide,_,rfl,by simp[Ob.leafy,AV.leaf],rfl,rfl⟩
   refine Hp ?_;have hcat:cat [a,b]=a++b:=(by simp[cat]);refine .make 17 _ (s51 [a,b] (by simp) (by rw[hcat];simpa using hl)) rfl (by simp) rfl λq o hq hlf=>?_;rw[hcat] at hq;obtain ⟨rfl,hsz,hes⟩:=hq;refine Aw ?_;refine TO [] [(17,setA (a++b))] [] [] rfl ?_ ?_
   ·refine Af ?_;exact ⟨id,by decide,_,rfl,hlf,hsz,hes⟩
   refine Af ?_;refine .make 18 _ (s11 (a++b) (by simpa using hl) (λt ht=>by rcases List.mem_append.1 ht with h|h;exact ha t h;exact hb t h)) rfl (by simp) rfl λq o hq _=>?_;obtain ⟨out,err,rfl,rfl,hm⟩:=hq;refine Ab ?_;refine FINmk [(0,some 18)] [(4,.rf 0 0 out.length),(5,iA err)] [(0,so out)] [0] rfl ?_ ?_
   ·refine Am ?_;exact .same (so out) _ _ (so_leafy out) rfl
   ·exact ⟨so out,⟨⟨out,err,rfl,rfl,.inr ⟨h1,h2,hm⟩⟩,rfl⟩,so_leafy out,rfl⟩
theorem made_okW {o:List It} (h:Made o) (r:List V):okW (tot r o)=true:=by
 by_cases hn:tot r o=0
 ·rw[hn];simp[okW,inB]
 ·obtain ⟨t,ht,rfl⟩:=(tot_there h r).1 hn;rw[tot_made h ht];exact (h.nz t ht).2
theorem makeR_bad {z out:List It} {err:Int} (h:MakeR z out err) (hb:(z.any λt=>!okI t)=true):out=[]/\err=1:=by
 rcases h with ⟨_,h⟩|⟨h,_⟩|⟨h,_⟩
 ·exact h
 ·rw[hb] at h;cases h
 ·rw[hb] at h;cases h
theorem makeR_over {z out:List It} {err:Int} (h:MakeR z out err) (hb:(z.any λt=>!okI t)=false) {r:List V} (hr:okW (tot r z)=false):out=[]/\err=11:=by
 rcases h with ⟨h,_⟩|⟨_,h1,h2,_⟩|⟨_,_,hm,ht,_⟩
 ·rw[hb] at h;cases h
 ·exact ⟨h1,h2⟩
 ·rw[<- ht r,made_okW hm r] at hr;cases hr
theorem makeR_ok {z out o:List It} {err:Int} (h:MakeR z out err) (hb:(z.any λt=>!okI t)=false) (ho:Made o) (hr:∀r,tot r o=tot r z):out=o/\err=0:=by
 rcases h with ⟨h,_⟩|⟨_,h1,h2,r,h3⟩|⟨_,h1,hm,ht,_⟩
 ·rw[hb] at h;cases h
 ·rw[<- hr r,made_okW ho r] at h3;cases h3
 ·exact ⟨made_eq hm ho λr=>(ht r).trans (hr r).symm,h1⟩
def r1:List V:=[⟨3,1,ByteArray.empty⟩]
theorem makeR_fine {z out:List It} {err:Int} (h:MakeR z out err) (hb:(z.any λt=>!okI t)=false) (hr:∀r,okW (tot r z)=true) :
 err=0/\Made out/\(∀r,tot r out=tot r z)/\(∀t∈out,okR t.row=0/\∃u∈z,u.row=t.row)/\out.length<=z.length:=by
 rcases h with ⟨h,_⟩|⟨_,_,_,r,h⟩|⟨_,h1,hm,ht,h2⟩
 ·rw[hb] at h;cases h
 ·rw[hr r] at h;cases h
 ·exact ⟨h1,hm,ht,h2⟩
@[go_sem] theorem cells_rowA {r:List V} {K:List AV->Prop}:cellsOf (rowA r) K=K [rowA r]:=rfl
end Yt
