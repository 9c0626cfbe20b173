/- Contracts of the program's functions over abstract values and states, plain facts on which these lean, and the framework of these values over the model. The conditions stand in each theorem. -/
import Derived.Test.YtogndnaffdkanaaGreatBc
import Derived.Test.YtogndnaffdkanaaGreatBe
import Derived.Test.YtogndnaffdkanaaGreatBd
import Derived.Test.YtogndnaffdkanaaGreatBb
import Derived.Test.YtogndnaffdkanaaGreatChecked
import Derived.Tactics
import Derived.Tactics2
import Derived.Defers
import Derived.Laws.Pointers
import Derived.Laws.LoneSync
import Derived.RegionTactic
import Derived.RegionCalls
import Derived.ChangeAlike
set_option linter.all false
set_option maxRecDepth 10000
set_option maxHeartbeats 16000000
namespace Yt
open Go Go.Vc Go.Proofs
def ndA (D:List Nd):AV:=.im 3 (D.map Nd.c)
theorem p47 (F:List (List Int)) (l:List PN) (h:PlSz F l):Spec0 Tryz.prog 47 [plA l,formsA F] (·=.tu [ndA (if planE F l=0 then planN F l else []),iA (planE F l)]):=by
 refine spec0_of_vc tabOk elems og47 Tryz.func47 rfl (rl:=[.tmp 4,.tmp 5]) rfl (by kernel_rfl) rfl ?_;refine Cb ?_;refine .pure _ (show Spec0 Tryz.prog 77 [formsA F] _ from p77 F h.fl h.ff) rfl λq hq _=>?_;subst hq;refine Ab ?_;refine VIF.split (λh1=>?_) (λh1=>?_)
 ·have h1:formsE F≠0:=(by simpa using h1);have he:planE F l=formsE F:=(by rw[planE,if_pos h1]);refine Aw ?_;refine TO [] [(4,ndA []),(5,iA (formsE F))] [] [] rfl ?_ ?_
  ·refine By ?_;exact ⟨id,rfl⟩
  refine By ?_;rw[he,if_neg h1];exact ⟨rfl,rfl⟩
 have h1:formsE F=0:=by simpa using h1
 have h1':¬formsE F≠0:=by simp[h1]
 refine Ab ?_;refine .pure _ (show Spec0 Tryz.prog 102 [iA l.length,iA 1,iA 12] _ from s53 l.length 1 12) rfl λq hq _=>?_;subst hq;refine Ad ?_;refine VIF.split (λh2=>?_) (λh2=>?_)
 ·have h2:l.length<1\/12<l.length:=by simp[inB] at h2;omega
  have he:planE F l=2:=(by rw[planE,if_neg h1',if_pos h2]);refine Aw ?_;refine TO [] [(4,ndA []),(5,iA 2)] [] [] rfl ?_ ?_
  ·refine By ?_;exact ⟨id,rfl⟩
  refine By ?_;rw[he];exact ⟨rfl,rfl⟩
 have h2:¬(l.length<1\/12<l.length):=by simp[inB] at h2;omega
 have hpe:planE F l=(planD F l []).1:=by rw[planE,if_neg h1',if_neg h2]
 refine Ab ?_;refine LOOP.mk (ι:={i:Nat//i<=l.length/\(planD F (l.take i) []).1=0}) (λp=>mkS [(0,plA l),(1,formsA F),(7,.rf 1000 0 (ndsTo F l p.1).length),(8,iA p.1)] [(1000,ndO (ndsTo F l p.1))] [1000]) (λp=>l.length-p.1) ⟨0,Nat.zero_le _,rfl⟩ [(1000,none)] rfl rfl ?_ (λp=>?_)
 ·refine Fv ?_;exact ⟨id,⟨rfl,rfl⟩,rfl⟩
 obtain ⟨i,hi,hp⟩:=p;refine Fv ?_;refine VIF.split (λh4=>?_) (λh4=>?_)
 ·have h4:i<l.length:=(by simpa using h4);have hm:=List.getElem_mem h4;have w1:=wrap_add1 (show i<4611686018427387904 by omega);have hD:=ndsTo_len2 i hi hp;have nb:=ndsTo_bd2 h1 i hi hp;have spec:=p103 F (ndsTo F l i) l[i] (by omega) h.fl h.ff nb (h.cl _ hm).1 (h.cl _ hm).2;refine Aa ?_;refine EL.map h4 ?_;refine Bg ?_;obtain ⟨D,hDD⟩:∃D,D=ndsTo F l i:=⟨_,rfl⟩;rw[<- hDD] at spec hD ⊢;refine .obj 1000 (ndO D) _ [.ag l[i].c,formsA F,.rf 0 0 D.length] spec (by simp -implicitDefEqProofs only[go_sem,ndO]) (ndO_leafy D) rfl (by simp[rens,AV.ren,formsA,PN.c,iA,intsL]) λr o' hq _ _=>?_;obtain ⟨⟨c1,c2,c3,e,rfl,hl,he,hv⟩,rfl⟩:=hq;(simp -implicitDefEqProofs only[go_sem,iA,ndO];repeat (refine GO ?_;simp -implicitDefEqProofs only[go_sem,iA,ndO]));refine VIF.split (λh5=>?_) (λh5=>?_)
  ·have h5:e≠0:=(by simpa using h5);have hpp:planE F l=e:=by rw[hpe,planD_bad h4 hp (by rw[<- hDD,<- he];exact h5),he,hDD]
   refine Aw ?_;refine TO [] [(4,ndA []),(5,iA e)] [] [] rfl ?_ ?_
   ·refine By ?_;exact ⟨id,rfl⟩
   refine By ?_;rw[hpp,if_neg h5];exact ⟨rfl,rfl⟩
  have h5:e=0:=(by simpa using h5);have hc:=hv h5;injection hc with hc
  simp only[Nd.c,List.cons.injEq,and_true] at hc;obtain ⟨rfl,rfl,rfl⟩:=hc;obtain ⟨g1,g2⟩:=planD_good h4 hp (by rw[<- hDD,<- he];exact h5);refine Ab ?_;refine ⟨by omega,?_⟩;refine Ba ?_;refine BACK.mk ⟨i+1,by omega,g1⟩ [(1000,some 42)] rfl rfl (by show l.length-(i+1)<l.length-i;omega) ?_;(simp -implicitDefEqProofs only[go_sem,formsA,iA,ndO,plA,w1];repeat (refine GO ?_;simp -implicitDefEqProofs only[go_sem,formsA,iA,ndO,plA,w1]));refine ⟨id,by rw[g2,<- hDD];simp,?_⟩;try rw[List.take_of_length_le (l:=List.map Nd.c D) (by simp)]
  exact ndO_snoc (n:=lookN F D l[i]) (by rw[g2,<- hDD])
 ·have h4:i=l.length:=by simp at h4;omega
  subst h4;have hz:(planD F l []).1=0:=by rw[List.take_length] at hp;exact hp
  have e:planN F l=ndsTo F l l.length:=(by rw[ndsTo,List.take_length]);refine Aw ?_;refine GO ?_;refine Aw ?_;refine TO [] [(4,ndA (ndsTo F l l.length)),(5,iA 0)] [] [] rfl ?_ ?_
  ·refine By ?_;exact ⟨id,by simp[olds],_,rfl,ndO_leafy _,rfl,List.take_of_length_le (by simp)⟩
  refine By ?_;rw[hpe,hz,if_pos rfl,e];exact ⟨rfl,rfl⟩
def RightP (F:List (List Int)) (l:List PN) (tabs:List (List It)):Prop:=planE F l=0/\TabsE F tabs
theorem r35 (F:List (List Int)) (l:List PN) (tabs:List (List It)) (h:PlSz F l) (hm:tabs.length<4611686018427387904) (hz:∀z∈tabs,z.length<4611686018427387904/\∀t∈z,t.row.length<4611686018427387904) :
 Spec0 Tryz.prog 35 [plA l,formsA F,setsA tabs] (λr=>∃e:Bool,r=bA e/\(e=true ↔ RightP F l tabs)):=by
 refine spec0_of_vc tabOk elems ord35 Tryz.func35 rfl (rl:=[.tmp 6]) rfl (by kernel_rfl) rfl ?_;refine Bf ?_;refine .pure _ (show Spec0 Tryz.prog 47 [plA l,formsA F] _ from p47 F l h) rfl λq hq _=>?_;subst hq;have bad:¬RightP F l tabs->∃e:Bool,AV.pr (.bool false)=bA e/\(e=true ↔ RightP F l tabs):=λhn=>⟨false,rfl,λg=>(by cases g),λg=>absurd g hn⟩;refine Ab ?_;refine VIF.split (λh1=>?_) (λh1=>?_)
 ·have h1:planE F l≠0:=(by simpa using h1);refine Aa ?_;exact bad λg=>h1 g.1
 have h1:planE F l=0:=by simpa using h1
 have hF:=(planE_ok h1).1;(simp -implicitDefEqProofs only[go_sem,formsA,setsA];repeat (refine GO ?_;simp -implicitDefEqProofs only[go_sem,formsA,setsA]));refine VIF.split (λh2=>?_) (λh2=>?_)
 ·have h2:tabs.length≠F.length:=by simp at h2;omega
  refine Aa ?_;exact bad λg=>h2 g.2.1
 have h2:tabs.length=F.length:=by simp at h2;omega
 refine Aa ?_;refine LOOP.mk (ι:={i:Nat//i<=F.length/\∀j (h:j<F.length) (h2:j<tabs.length),j<i->tabE F[j] tabs[j]}) (λp=>mkS [(1,formsA F),(2,setsA tabs),(9,iA p.1)] [] []) (λp=>F.length-p.1) ⟨0,Nat.zero_le _,λj _ _ h=>absurd h (Nat.not_lt_zero _)⟩ [] rfl rfl ?_ (λp=>?_)
 ·refine Dj ?_;exact ⟨id,rfl⟩
 obtain ⟨i,hi,hg⟩:=p;refine Dj ?_;refine VIF.split (λh3=>?_) (λh3=>?_)
 ·have h3:i<F.length:=(by simpa using h3);have h3':i<tabs.length:=(by omega);have w1:=wrap_add1 (show i<4611686018427387904 by omega);have hte:=tabErr_eq hF (List.getElem_mem h3) tabs[i];have hr:=hz _ (List.getElem_mem h3');refine Aa ?_;refine EL.map h3 ?_;refine Ab ?_;refine EL.map h3' ?_;refine Bp ?_;refine .pure _ (show Spec0 Tryz.prog 28 [.ag [intsL F[i]],setA tabs[i]] _ from p28 F[i] tabs[i] (h.ff _ (List.getElem_mem h3)) hr.1 hr.2) rfl λq hq _=>?_;subst hq;refine Ab ?_;refine VIF.split (λh4=>?_) (λh4=>?_)
  ·have h4:tabErr F[i] tabs[i]≠0:=(by simpa using h4);refine Aa ?_;exact bad λg=>h4 (hte.1 (g.2.2 i h3 h3'))
  ·have h4:tabErr F[i] tabs[i]=0:=(by simpa using h4);have hy:tabE F[i] tabs[i]:=Classical.byContradiction λg=>by have:=hte.2 g;omega
   refine Ak ?_;refine BACK.mk ⟨i+1,by omega,λj q1 q2 hji=>if e:j=i then (by subst e;exact hy) else hg j q1 q2 (by omega)⟩ [] rfl rfl (by show F.length-(i+1)<F.length-i;omega) ?_;(simp -implicitDefEqProofs only[go_sem,formsA,iA,setsA,w1];repeat (refine GO ?_;simp -implicitDefEqProofs only[go_sem,formsA,iA,setsA,w1]));first|exact ⟨id,rfl⟩|exact ⟨id,by simp[intsL,setA,iA]⟩
 ·have h3:i=F.length:=by simp at h3;omega
  refine Aa ?_;exact ⟨true,rfl,λ_=>⟨h1,h2,λj q1 q2=>hg j q1 q2 (by omega)⟩,λ_=>rfl⟩
def wkV:V:=⟨4,0,⟨#[107]⟩⟩
def wkT:List It:=[⟨[wkV,⟨3,3,ByteArray.empty⟩],1⟩]
def wkN:PN:=⟨1,0,0,0,⟨0,0,0,⟨0,0,ByteArray.empty⟩⟩,[],[],0,0⟩
theorem wkT_made:Made wkT:=⟨List.pairwise_singleton _ _,by simp[wkT,okW,inB]⟩
theorem wkT_tab:tabE [3] wkT:=by
 refine ⟨good_made.2 ⟨wkT_made,λt ht=>?_⟩,by simp[wkT],?_⟩
 ·simp only[wkT,List.mem_singleton] at ht;subst ht;decide
 ·decide
theorem wk_sz:EvSz [[3]] [wkN] [wkT] 40 where
 pl:=⟨by simp,by simp,by simp,by simp[wkN]⟩
 rows:=by simp[wkT,wkV]
 big:=by decide
 many:=by simp
 few:=by simp[rowsL,rowsN,wkN]
def heavyN (x:PN):Bool:=decide (40<x.cols.length)||decide (40<x.others.length)||longV x.pred.val
def heavyP (l:List PN):Bool:=decide (40<l.length)||l.any heavyN
def heavyF (F:List (List Int)):Bool:=decide (30<F.length)||F.any λf=>decide (30<f.length)
def heavyT (tabs:List (List It)):Bool:=decide (10<tabs.length)||tabs.any heavyS||tabs.any λz=>decide (40<z.length)
theorem h19 (l:List PN) (hl:l.length<4611686018427387904):Spec0 Tryz.prog 19 [plA l] (·=bA (heavyP l)):=by
 refine spec0_of_vc tabOk elems ord19 Tryz.func19 rfl (rl:=[.tmp 2]) rfl (by kernel_rfl) rfl ?_;refine Cg ?_;refine VIF.split (λh=>?_) (λh=>?_)
 ·refine Aa ?_;have h:40<l.length:=by simp at h;omega
  simp[heavyP,h,bA]
 have h:¬40<l.length:=by simp at h;omega
 refine Aa ?_;refine LOOP.mk (ι:={i:Nat//i<=l.length/\∀j (hj:j<l.length),j<i->heavyN l[j]=false}) (λp=>mkS [(0,plA l),(3,iA p.1)] [] []) (λp=>l.length-p.1) ⟨0,Nat.zero_le _,λj _ h=>absurd h (Nat.not_lt_zero _)⟩ [] rfl rfl ?_ (λp=>?_)
 ·refine Cn ?_;exact ⟨id,rfl⟩
 obtain ⟨i,hi,hg⟩:=p;refine Cn ?_;refine VIF.split (λh1=>?_) (λh1=>?_)
 ·have h1:i<l.length:=(by simpa using h1);have w1:=wrap_add1 (show i<4611686018427387904 by omega);have bad:heavyN l[i]=true->bA true=bA (heavyP l):=λhn=>by
   have:l.any heavyN=true:=List.any_eq_true.2 ⟨_,List.getElem_mem h1,hn⟩;simp[heavyP,this]
  refine Aa ?_;refine EL.map h1 ?_;refine Cf ?_;refine VIF.split (λh2=>?_) (λh2=>?_)
  ·have h2:40<l[i].cols.length:=by simp at h2;omega
   refine Aa ?_;exact bad (by simp[heavyN,h2])
  have h2:¬40<l[i].cols.length:=by simp at h2;omega
  refine Aa ?_;refine EL.map h1 ?_;refine Cf ?_;refine VIF.split (λh3=>?_) (λh3=>?_)
  ·have h3:40<l[i].others.length:=by simp at h3;omega
   refine Aa ?_;exact bad (by simp[heavyN,h3])
  have h3:¬40<l[i].others.length:=by simp at h3;omega
  refine Aa ?_;refine EL.map h1 ?_;(simp -implicitDefEqProofs only[go_sem,PN.c,V.c,iA];repeat (refine GO ?_;simp -implicitDefEqProofs only[go_sem,PN.c,V.c,iA]));refine .lendR (args':=[rowA [l[i].pred.val]]) (s50 [l[i].pred.val] (by simp)) ⟨lent_leafy (o:=ro3 [l[i].pred.val]) (by refine Aa ?_;rfl) rfl (by simp[ro3]) (ro3_leafy _) (λz hz=>by obtain ⟨v,_,rfl⟩:=List.mem_map.1 hz;rfl),trivial⟩ (by rintro _ rfl;rfl) λq hq=>?_;subst hq;refine Ad ?_;refine VIF.split (λh4=>?_) (λh4=>?_)
  ·have h4:longV l[i].pred.val=true:=(by simpa using h4);refine Aa ?_;exact bad (by simp[heavyN,h4])
  ·have h4:longV l[i].pred.val=false:=(by simpa using h4);have hn:heavyN l[i]=false:=by simp only[heavyN,decide_eq_false h2,decide_eq_false h3,h4];rfl
   refine Ak ?_;refine BACK.mk ⟨i+1,by omega,λj hj hji=>if e:j=i then (by subst e;exact hn) else hg j hj (by omega)⟩ [] rfl rfl (by show l.length-(i+1)<l.length-i;omega) ?_;refine Gk ?_;exact id
 ·have h1:i=l.length:=by simp at h1;omega
  subst h1;have:l.any heavyN=false:=by rw[List.any_eq_false];intro x hx;obtain ⟨j,hj,rfl⟩:=List.mem_iff_getElem.1 hx;rw[hg j hj hj];simp
  refine Aa ?_;simp only[heavyP,this,decide_eq_false h,bA];rfl
theorem h20 (F:List (List Int)) (hF:F.length<4611686018427387904):Spec0 Tryz.prog 20 [formsA F] (·=bA (heavyF F)):=by
 refine spec0_of_vc tabOk elems ord20 Tryz.func20 rfl (rl:=[.tmp 2]) rfl (by kernel_rfl) rfl ?_;refine Bz ?_;refine VIF.split (λh=>?_) (λh=>?_)
 ·refine Aa ?_;have h:30<F.length:=by simp at h;omega
  simp[heavyF,h,bA]
 have h:¬30<F.length:=by simp at h;omega
 refine Aa ?_;refine LOOP.mk (ι:={i:Nat//i<=F.length/\∀j (hj:j<F.length),j<i->¬30<F[j].length}) (λp=>mkS [(0,formsA F),(3,iA p.1)] [] []) (λp=>F.length-p.1) ⟨0,Nat.zero_le _,λj _ h=>absurd h (Nat.not_lt_zero _)⟩ [] rfl rfl ?_ (λp=>?_)
 ·refine Bc ?_;exact ⟨id,rfl⟩
 obtain ⟨i,hi,hg⟩:=p;refine Bc ?_;refine VIF.split (λh1=>?_) (λh1=>?_)
 ·have h1:i<F.length:=(by simpa using h1);have w1:=wrap_add1 (show i<4611686018427387904 by omega);refine Aa ?_;refine EL.map h1 ?_;refine Au ?_;refine VIF.split (λh2=>?_) (λh2=>?_)
  ·have h2:30<F[i].length:=by simp at h2;omega
   refine Aa ?_;have:F.any (λf=>decide (30<f.length))=true:=List.any_eq_true.2 ⟨_,List.getElem_mem h1,by simpa using h2⟩;simp[heavyF,this,bA]
  ·have h2:¬30<F[i].length:=by simp at h2;omega
   refine Ak ?_;refine BACK.mk ⟨i+1,by omega,λj hj hji=>if e:j=i then (by subst e;exact h2) else hg j hj (by omega)⟩ [] rfl rfl (by show F.length-(i+1)<F.length-i;omega) ?_;refine Cs ?_;first|exact id|exact ⟨id,by simp[intsL,iA]⟩
 ·have h1:i=F.length:=by simp at h1;omega
  subst h1;have:F.any (λf=>decide (30<f.length))=false:=by rw[List.any_eq_false];intro x hx;obtain ⟨j,hj,rfl⟩:=List.mem_iff_getElem.1 hx;simpa using hg j hj hj
  refine Aa ?_;simp only[heavyF,this,Bool.or_false,decide_eq_false h,bA]
theorem h21 (tabs:List (List It)) (hl:tabs.length<4611686018427387904) (hz:∀z∈tabs,z.length<4611686018427387904) (hr:∀z∈tabs,∀t∈z,t.row.length<4611686018427387904):Spec0 Tryz.prog 21 [setsA tabs] (·=bA (heavyT tabs)):=by
 refine spec0_of_vc tabOk elems ord21 Tryz.func21 rfl (rl:=[.tmp 2]) rfl (by kernel_rfl) rfl ?_;refine C8 ?_;refine VIF.split (λh=>?_) (λh=>?_)
 ·refine Aa ?_;have h:10<tabs.length:=by simp at h;omega
  simp[heavyT,h,bA]
 have h:¬10<tabs.length:=by simp at h;omega
 refine Aa ?_;refine .pure _ (show Spec0 Tryz.prog 37 [setsA tabs] _ from s10 tabs hl hz hr) rfl λq hq _=>?_;subst hq;refine Ad ?_;refine VIF.split (λh0=>?_) (λh0=>?_)
 ·refine Aa ?_;simp[heavyT,h0,bA]
 refine Aa ?_;refine LOOP.mk (ι:={i:Nat//i<=tabs.length/\∀j (hj:j<tabs.length),j<i->¬40<tabs[j].length}) (λp=>mkS [(0,setsA tabs),(3,iA p.1)] [] []) (λp=>tabs.length-p.1) ⟨0,Nat.zero_le _,λj _ h=>absurd h (Nat.not_lt_zero _)⟩ [] rfl rfl ?_ (λp=>?_)
 ·refine Bk ?_;exact ⟨id,rfl⟩
 obtain ⟨i,hi,hg⟩:=p;refine Bk ?_;refine VIF.split (λh1=>?_) (λh1=>?_)
 ·have h1:i<tabs.length:=(by simpa using h1);have w1:=wrap_add1 (show i<4611686018427387904 by omega);refine Aa ?_;refine EL.map h1 ?_;refine Al ?_;refine VIF.split (λh2=>?_) (λh2=>?_)
  ·have h2:40<tabs[i].length:=by simp at h2;omega
   refine Aa ?_;have:tabs.any (λf=>decide (40<f.length))=true:=List.any_eq_true.2 ⟨_,List.getElem_mem h1,by simpa using h2⟩;simp[heavyT,this,bA]
  ·have h2:¬40<tabs[i].length:=by simp at h2;omega
   refine Ak ?_;refine BACK.mk ⟨i+1,by omega,λj hj hji=>if e:j=i then (by subst e;exact h2) else hg j hj (by omega)⟩ [] rfl rfl (by show tabs.length-(i+1)<tabs.length-i;omega) ?_;(simp -implicitDefEqProofs only[go_sem,iA,setA,setsA,w1];repeat (refine GO ?_;simp -implicitDefEqProofs only[go_sem,iA,setA,setsA,w1]));first|exact id|exact ⟨id,by simp[setA]⟩|exact ⟨id,rfl⟩
 ·have h1:i=tabs.length:=by simp at h1;omega
  subst h1;have:tabs.any (λf=>decide (40<f.length))=false:=by rw[List.any_eq_false];intro x hx;obtain ⟨j,hj,rfl⟩:=List.mem_iff_getElem.1 hx;simpa using hg j hj hj
  refine Aa ?_;simp only[heavyT,this,Bool.or_false,decide_eq_false h,h0,Bool.false_or,bA]
def nio (R:List Nat):Ob:=⟨1,R.map λn:Nat=>[iA (n:Int)]⟩
theorem nio_leafy (R:List Nat):(nio R).leafy:=by rw[nio,leafy_do];exact leafs2_map λx _=>by simp[leafs,iA,AV.leaf]
theorem nio_snoc {st:St} {m:List (Nat×Option Nat)} {R R':List Nat} {n:Nat} (h:R'=R++[n]):Es st m (List.map (λn:Nat=>[iA (n:Int)]) R++[[iA (n:Int)]]) (List.map (λn:Nat=>[iA (n:Int)]) R'):=by subst h;rw[List.map_append];exact .same (nio (R++[n])) _ _ (λx hx=>nio_leafy (R++[n]) x (by rw[nio,List.map_append];exact hx)) rfl
def wideL (K:Nat) (l:List PN):Bool:=(rowsL K l []).any λn=>decide (5000<n)
theorem rowA_le {R:List Nat} {K M:Nat} (hR:∀n∈R,n<=M) (hK:K<=M) (k:Int):rowA_ R K k<=M:=by
 rw[rowA_];split
 ·rename_i h;simp only[inC,Bool.and_eq_true,decide_eq_true_eq] at h;rw[List.getElem?_eq_getElem (by omega)];exact hR _ (List.getElem_mem _)
 ·exact hK
def okTo (K:Nat) (l:List PN) (i:Nat):Prop:=∀n∈rowsTo K l i,n<=5000
theorem h22 (l:List PN) (K:Nat) (hl:l.length<1073741824) (hK:K<=5000):Spec0 Tryz.prog 22 [plA l,iA K] (·=bA (wideL K l)):=by
 refine spec0_of_vc tabOk elems ord22 Tryz.func22 rfl (rl:=[.tmp 4]) rfl (by kernel_rfl) rfl ?_;refine Cn ?_;refine LOOP.mk (ι:={i:Nat//i<=l.length/\okTo K l i}) (λp=>mkS [(0,plA l),(1,iA K),(5,.rf 1000 0 (rowsTo K l p.1).length),(6,iA p.1)] [(1000,nio (rowsTo K l p.1))] [1000]) (λp=>l.length-p.1) ⟨0,Nat.zero_le _,by simp[okTo,rowsTo,rowsL]⟩ [(1000,none)] rfl rfl ?_ (λp=>?_)
 ·refine Gh ?_;exact ⟨id,by simp[rowsTo,rowsL],by simp[rowsTo,rowsL]⟩
 obtain ⟨i,hi,hR⟩:=p;refine Gh ?_;refine VIF.split (λh1=>?_) (λh1=>?_)
 ·have h1:i<l.length:=(by simpa using h1);have w1:=wrap_add1 (show i<4611686018427387904 by omega);have hst:=rowsTo_step (K:=K) h1;have hlen:=rowsTo_len (K:=K) (l:=l) (i:=i) (by omega);have hR2:∀n∈rowsTo K l i,n<=5000:=hR;obtain ⟨R,hRR⟩:∃R,R=rowsTo K l i:=⟨_,rfl⟩;rw[<- hRR] at hst hlen hR2 ⊢;obtain ⟨x,hx⟩:∃x,x=l[i]:=⟨_,rfl⟩;rw[<- hx] at hst;have la:=rowA_le hR2 hK x.a;have lb:=rowA_le hR2 hK x.b;have hab:=Nat.mul_le_mul la lb;have wm:IntKind.i64.wrap ((rowA_ R K x.a:Int)*(rowA_ R K x.b:Int))=((rowA_ R K x.a*rowA_ R K x.b:Nat):Int):=by rw[<- Int.natCast_mul,wrap_i64]<;>omega
  have wa:IntKind.i64.wrap ((rowA_ R K x.a:Int)+(rowA_ R K x.b:Int))=((rowA_ R K x.a+rowA_ R K x.b:Nat):Int):=by rw[wrap_i64]<;>omega
  have over:5000<rowsN R K x->wideL K l=true:=λh=>List.any_eq_true.2 ⟨rowsN R K x,rowsTo_mem (i:=i+1) (by rw[hst];simp),by simpa using h⟩;have back:∀n∈rowsTo K l (i+1),rowsN R K x<=5000->n<=5000:=λn hn h=>by
   rw[hst,List.mem_append,List.mem_singleton] at hn;rcases hn with hn|rfl
   ·exact hR2 n hn
   ·exact h
  refine Aa ?_;refine EL.map h1 ?_;rw[<- hx];refine Av ?_;have hkk:x.kind=1\/x.kind=4\/x.kind=5\/x.kind=6\/(x.kind≠1/\x.kind≠4/\x.kind≠5/\x.kind≠6):=(by omega);obtain ⟨a,qa⟩:∃a,a=rowA_ R K x.a:=⟨_,rfl⟩;obtain ⟨b,qb⟩:∃b,b=rowA_ R K x.b:=⟨_,rfl⟩;rw[<- qa] at la hab wm wa;rw[<- qb] at lb hab wm wa;have ha3:x.a<0\/(0<=x.a/\x.a<R.length)\/(0<=x.a/\R.length<=x.a):=(by omega);have hb3:x.b<0\/(0<=x.b/\x.b<R.length)\/(0<=x.b/\R.length<=x.b):=(by omega);rcases ha3 with ha|ha|ha
  all_goals
   first
    | (have ea:K=a:=by rw[qa,rowA_,if_neg (by simp[inC];omega)]
       subst ea)
    | (have ga:x.a.toNat<R.length:=by omega
       have ea:(R[x.a.toNat]'ga)=a:=by rw[qa,rowA_,if_pos (by simp[inC];omega),List.getElem?_eq_getElem ga];rfl
       repeat (first|((first|refine VIF.t ?_|refine VIF.f ?_);(simp -implicitDefEqProofs only[go_sem,PN.c,iA];repeat (refine GO ?_;simp -implicitDefEqProofs only[go_sem,PN.c,iA])))|(refine EL.map h1 ?_;rw[<- hx];(simp -implicitDefEqProofs only[go_sem,PN.c,iA];repeat (refine GO ?_;simp -implicitDefEqProofs only[go_sem,PN.c,iA]))))
       refine ⟨by omega,EL.map ga ?_⟩;rw[ea];(simp -implicitDefEqProofs only[go_sem,PN.c,iA];repeat (refine GO ?_;simp -implicitDefEqProofs only[go_sem,PN.c,iA])))
  all_goals (rcases hb3 with hb|hb|hb)
  all_goals
   first
    | (have eb:K=b:=by rw[qb,rowA_,if_neg (by simp[inC];omega)]
       subst eb)
    | (have gb:x.b.toNat<R.length:=by omega
       have eb:(R[x.b.toNat]'gb)=b:=by rw[qb,rowA_,if_pos (by simp[inC];omega),List.getElem?_eq_getElem gb];rfl
       repeat (first|((first|refine VIF.t ?_|refine VIF.f ?_);(simp -implicitDefEqProofs only[go_sem,PN.c,iA];repeat (refine GO ?_;simp -implicitDefEqProofs only[go_sem,PN.c,iA])))|(refine EL.map h1 ?_;rw[<- hx];(simp -implicitDefEqProofs only[go_sem,PN.c,iA];repeat (refine GO ?_;simp -implicitDefEqProofs only[go_sem,PN.c,iA]))))
       refine ⟨by omega,EL.map gb ?_⟩;rw[eb];(simp -implicitDefEqProofs only[go_sem,PN.c,iA];repeat (refine GO ?_;simp -implicitDefEqProofs only[go_sem,PN.c,iA])))
  all_goals (rcases hkk with hk|hk|hk|hk|hk)
  all_goals
   first
    | (have hk:x.kind=1:=hk
       rw[rowsN,if_pos hk] at hst over back;repeat (first|((first|refine VIF.t ?_|refine VIF.f ?_);(simp -implicitDefEqProofs only[go_sem,PN.c,iA];repeat (refine GO ?_;simp -implicitDefEqProofs only[go_sem,PN.c,iA])))|(refine EL.map h1 ?_;rw[<- hx];(simp -implicitDefEqProofs only[go_sem,PN.c,iA];repeat (refine GO ?_;simp -implicitDefEqProofs only[go_sem,PN.c,iA]))))
       try (simp -implicitDefEqProofs only[go_sem,w1,iA];repeat (refine GO ?_;simp -implicitDefEqProofs only[go_sem,w1,iA]))
       refine ⟨by omega,?_⟩;refine Ba ?_;refine BACK.mk ⟨i+1,by omega,λn hn=>back n hn hK⟩ [(1000,some 89)] rfl rfl (by show l.length-(i+1)<l.length-i;omega) ?_;refine Ed ?_;refine ⟨id,by rw[hst];simp,?_⟩;try rw[List.take_of_length_le (l:=List.map (λn:Nat=>[AV.pr (.int .i64 (n:Int))]) R) (by simp)]
       exact nio_snoc hst)
    | (first
        | (have hk:x.kind=4:=hk
           rw[rowsN,if_neg (by omega),if_pos hk] at hst over back)
        | (have hk:x.kind=5\/x.kind=6:=by omega
           rw[rowsN,if_neg (by omega),if_neg (by omega),if_pos hk] at hst over back)
       rw[<- qa] at hst over back;rw[<- qb] at hst over back;repeat (first|((first|refine VIF.t ?_|refine VIF.f ?_);(simp -implicitDefEqProofs only[go_sem,PN.c,iA];repeat (refine GO ?_;simp -implicitDefEqProofs only[go_sem,PN.c,iA])))|(refine EL.map h1 ?_;rw[<- hx];(simp -implicitDefEqProofs only[go_sem,PN.c,iA];repeat (refine GO ?_;simp -implicitDefEqProofs only[go_sem,PN.c,iA]))))
       try simp only[wm]
       try simp only[wa]
       repeat (first|((first|refine VIF.t ?_|refine VIF.f ?_);(simp -implicitDefEqProofs only[go_sem,PN.c,iA];repeat (refine GO ?_;simp -implicitDefEqProofs only[go_sem,PN.c,iA])))|(refine EL.map h1 ?_;rw[<- hx];(simp -implicitDefEqProofs only[go_sem,PN.c,iA];repeat (refine GO ?_;simp -implicitDefEqProofs only[go_sem,PN.c,iA]))))
       refine VIF.split (λh9=>?_) (λh9=>?_)
       ·refine Aa ?_;rw[over (by simp at h9;omega)];rfl
       try (simp -implicitDefEqProofs only[go_sem,w1,iA];repeat (refine GO ?_;simp -implicitDefEqProofs only[go_sem,w1,iA]))
       refine ⟨by omega,?_⟩;refine Ba ?_;refine BACK.mk ⟨i+1,by omega,λn hn=>back n hn (by simp at h9;omega)⟩ [(1000,some 89)] rfl rfl (by show l.length-(i+1)<l.length-i;omega) ?_;refine Ed ?_;refine ⟨id,by rw[hst];simp,?_⟩;try rw[List.take_of_length_le (l:=List.map (λn:Nat=>[AV.pr (.int .i64 (n:Int))]) R) (by simp)]
       exact nio_snoc hst)
    | (rw[rowsN,if_neg (by omega),if_neg (by omega),if_neg (by omega)] at hst over back
       rw[<- qa] at hst over back;repeat (first|((first|refine VIF.t ?_|refine VIF.f ?_);(simp -implicitDefEqProofs only[go_sem,PN.c,iA];repeat (refine GO ?_;simp -implicitDefEqProofs only[go_sem,PN.c,iA])))|(refine EL.map h1 ?_;rw[<- hx];(simp -implicitDefEqProofs only[go_sem,PN.c,iA];repeat (refine GO ?_;simp -implicitDefEqProofs only[go_sem,PN.c,iA]))))
       try (simp -implicitDefEqProofs only[go_sem,w1,iA];repeat (refine GO ?_;simp -implicitDefEqProofs only[go_sem,w1,iA]))
       refine ⟨by omega,?_⟩;refine Ba ?_;refine BACK.mk ⟨i+1,by omega,λn hn=>back n hn (by omega)⟩ [(1000,some 89)] rfl rfl (by show l.length-(i+1)<l.length-i;omega) ?_;refine Ed ?_;refine ⟨id,by rw[hst];simp,?_⟩;try rw[List.take_of_length_le (l:=List.map (λn:Nat=>[AV.pr (.int .i64 (n:Int))]) R) (by simp)]
       exact nio_snoc hst)
 ·have h1:i=l.length:=by simp at h1;omega
  subst h1;have e:rowsTo K l l.length=rowsL K l []:=(by rw[rowsTo,List.take_length]);have hR:∀n∈rowsTo K l l.length,n<=5000:=hR;rw[e] at hR;have:wideL K l=false:=by rw[wideL,List.any_eq_false];intro n hn;have:=hR n hn;simp;omega
  refine Aa ?_;rw[this];rfl
theorem groupR_same {z o o':List It} {cols:List Int} {kind col e e':Int} (h:GroupR z cols kind col o e) (h':GroupR z cols kind col o' e'):o=o'/\e=e':=by
 rcases h with ⟨h1,rfl,h2,h3⟩|⟨h1,gs,h2,h3,h4⟩<;>rcases h' with ⟨g1,rfl,g2,g3⟩|⟨g1,gs',g2,g3,g4⟩
 ·refine ⟨rfl,?_⟩;rcases h2 with h2|h2<;>rcases g2 with g2|g2
  ·omega
  ·have:=h3.2 (g3.1 g2);omega
  ·have:=g3.2 (h3.1 h2);omega
  ·omega
 ·exact absurd g1 h1
 ·exact absurd h1 g1
 ·have:=h2.uniq g2;subst this;rcases h4 with ⟨⟨g,hgm,hn⟩,rfl,rfl⟩|⟨h4,h5⟩<;>rcases g4 with ⟨⟨g',hgm',hn'⟩,rfl,rfl⟩|⟨g4,g5⟩
  ·exact ⟨rfl,rfl⟩
  ·exact absurd hn (g4 g hgm)
  ·exact absurd hn' (h4 g' hgm')
  ·exact makeR_same h5 g5
theorem minR_samE {a b o o':List It} {e e':Int} (h:MinR a b o e) (h':MinR a b o' e'):o=o'/\e=e':=by
 rcases h with ⟨h1,rfl,rfl⟩|⟨ga,gb,h1⟩<;>rcases h' with ⟨g1,rfl,rfl⟩|⟨ka,kb,g1⟩
 ·exact ⟨rfl,rfl⟩
 ·exact absurd ⟨ka,kb⟩ h1
 ·exact absurd ⟨ga,gb⟩ g1
 ·exact makeR_same h1 g1
theorem nodeR_same {x:PN} {S tabs tabs':List (List It)} {o o':List It} (h:NodeR x S tabs o) (h':NodeR x S tabs' o') (ht:x.kind=1->setAt tabs x.table=setAt tabs' x.table):o=o':=by
 simp only[NodeR] at h h';by_cases k1:x.kind=1
 ·simp only[k1,if_true] at h h';rw[h,h',ht k1]
 simp only[k1,if_false] at h h';by_cases k2:x.kind=2
 ·simp only[k2,if_true] at h h';rw[h,h']
 simp only[k2,if_false] at h h';by_cases k3:x.kind=3
 ·simp only[k3,if_true] at h h';exact (projX_same h h').1
 simp only[k3,if_false] at h h';by_cases k4:x.kind=4
 ·simp only[k4,if_true] at h h';exact (joinR_same h h').1
 simp only[k4,if_false] at h h';by_cases k5:x.kind=5
 ·simp only[k5,if_true] at h h';exact (addR_same2 h h').1
 simp only[k5,if_false] at h h';by_cases k6:x.kind=6
 ·simp only[k6,if_true] at h h';exact (minR_samE h h').1
 simp only[k6,if_false] at h h';by_cases k7:x.kind=7
 ·simp only[k7,if_true] at h h';rw[h,h']
 simp only[k7,if_false] at h h';exact (groupR_same h h').1
theorem ran_same {F F':List (List Int)} {l l':List PN} {tabs tabs' S S':List (List It)} {i i':Nat} (h:Ran F l tabs i S) (h':Ran F' l' tabs' i' S') (m:Nat) (hi:m<=i) (hi':m<=i') (hl:m<=l.length) (hl':m<=l'.length)
 (he:∀j (h1:j<l.length) (h2:j<l'.length),j<m->l[j]=l'[j]) (ht:∀j (h1:j<l.length),j<m->l[j].kind=1->setAt tabs l[j].table=setAt tabs' l[j].table):S.take m=S'.take m:=by
 induction m with
 | zero=>simp
 | succ m ih=>
   have ih:=ih (by omega) (by omega) (by omega) (by omega) (λj h1 h2 h3=>he j h1 h2 (by omega)) (λj h1 h3=>ht j h1 (by omega));have m1:m<S.length:=by rw[h.len];omega
   have m2:m<S'.length:=by rw[h'.len];omega
   rw[List.take_succ_eq_append_getElem m1,List.take_succ_eq_append_getElem m2,ih];have n1:=h.nodes m (by omega) m1;have n2:=h'.nodes m (by omega) m2;rw[<- he m (by omega) (by omega) (by omega),<- ih] at n2;rw[nodeR_same n1 n2 (ht m (by omega) (by omega))]
theorem EvalRes.ok {F:List (List Int)} {l:List PN} {tabs:List (List It)} {out:List It} {e:Int} (h:EvalRes F l tabs out e) (hr:RightP F l tabs):e=0/\∃S,Ran F l tabs l.length S/\∃h:l.length-1<S.length,out=S[l.length-1]:=by
 obtain ⟨h0,h1⟩:=hr;have hl:=(planE_ok h0).2.1;rcases h with ⟨h2,_⟩|⟨_,h2,_⟩|⟨_,_,h2,_⟩|⟨_,_,h2,S,h3,h4⟩
 ·exact absurd h0 h2
 ·exact absurd h1.1 h2
 ·exact absurd h1 h2
 ·have hs:l.length-1<S.length:=by rw[h3.len];omega
  refine ⟨h2,S,h3,hs,?_⟩;rw[h4,setAt_eq (by omega)];congr 1;omega
theorem heavyT_ok {tabs:List (List It)} (ht:heavyT tabs=false):tabs.length<=10/\∀z∈tabs,z.length<=40:=by simp only[heavyT,Bool.or_eq_false_iff,decide_eq_false_iff_not,List.any_eq_false,decide_eq_true_eq] at ht;exact ⟨by omega,λz hz=>by have:=ht.2 z hz;omega⟩
theorem Ran.at {F:List (List Int)} {l:List PN} {tabs S:List (List It)} {i:Nat} (h:Ran F l tabs i S) (j:Nat) (hj:j<i):∃(h1:j<S.length) (h2:j<(ndsTo F l i).length),Nds S[j] (ndsTo F l i)[j]/\Ndb (ndsTo F l i)[j]:=by
 have h1:j<S.length:=by rw[h.len];exact hj
 have h2:j<(ndsTo F l i).length:=by rw[<- h.sets.len];exact h1
 exact ⟨h1,h2,h.sets.nds j h1 h2,h.sets.ndb _ (List.getElem_mem h2)⟩
theorem ndsTo_all (F:List (List Int)) (l:List PN):ndsTo F l l.length=planN F l:=by rw[ndsTo,List.take_length]
theorem Ran.last {F:List (List Int)} {l:List PN} {tabs S:List (List It)} (h:Ran F l tabs l.length S) (hl:1<=l.length) (hs:l.length-1<S.length):Nds S[l.length-1] (lastN F l)/\Ndb (lastN F l):=by
 obtain ⟨h1,h2,h3,h4⟩:=h.at (l.length-1) (by omega);have e:lastN F l=(ndsTo F l l.length)[l.length-1]:=by have hlen:(planN F l).length=l.length:=(by rw[<- ndsTo_all,<- h.sets.len,h.len]);rw[lastN,List.getLast?_eq_getElem?,hlen];simp only[ndsTo_all] at h2 ⊢;rw[List.getElem?_eq_getElem h2];rfl
 rw[e];exact ⟨h3,h4⟩
structure LawP (l:List PN) (F:List (List Int)):Prop where
 ll:l.length<=1048576
 cl:∀x∈l,x.cols.length<=1048576/\x.others.length<=1048576
 fl:F.length<=1048576
 ff:∀f∈F,f.length<=1048576
structure LawT (tabs:List (List It)):Prop where
 len:tabs.length<=1048576
 zl:∀z∈tabs,z.length<=1048576
 rl:∀z∈tabs,∀t∈z,t.row.length<=1048576
theorem LawP.sz {l:List PN} {F:List (List Int)} (h:LawP l F):PlSz F l:=⟨by have:=h.fl;omega,λf hf=>by have:=h.ff f hf;omega,by have:=h.ll;omega,λx hx=>by have:=h.cl x hx;omega⟩
theorem LawT.rr {tabs:List (List It)} (h:LawT tabs):∀z∈tabs,∀t∈z,t.row.length<4611686018427387904:=λz hz t ht=>by have:=h.rl z hz t ht;omega
theorem LawT.zz {tabs:List (List It)} (h:LawT tabs):∀z∈tabs,z.length<4611686018427387904:=λz hz=>by have:=h.zl z hz;omega
theorem LawT.both {tabs:List (List It)} (h:LawT tabs):∀z∈tabs,z.length<4611686018427387904/\∀t∈z,t.row.length<4611686018427387904:=λz hz=>⟨h.zz z hz,h.rr z hz⟩
theorem LawT.lt {tabs:List (List It)} (h:LawT tabs):tabs.length<4611686018427387904:=by have:=h.len;omega
theorem Ran.few {F:List (List Int)} {l:List PN} {tabs S:List (List It)} {i K:Nat} (h:Ran F l tabs i S) (hi:i<=l.length) (hp:(planD F l []).1=0) (ht:TabsE F tabs) (hK:∀z∈tabs,z.length<=K):∀m,m<=i->Few (S.take m) (rowsTo K l m):=by
 intro m
 induction m with
 | zero=>exact λ_=>⟨by simp[rowsTo,rowsL],by simp⟩
 | succ m ih=>
   intro hm;have ih:=ih (by omega);have hml:m<l.length:=(by omega);have hms:m<S.length:=by rw[h.len];omega
   obtain ⟨g1,g2⟩:=planD_step hp hml;have hb:=ndsTo_len hp (i:=m) (by omega);have hr:=node_rows g1 ht hK (by rw[hb,List.length_take];omega) ih (h.nodes m hml hms);rw[rowsTo_step hml,List.take_succ_eq_append_getElem hms];refine ⟨by rw[List.length_append,List.length_append,ih.1];rfl,λj hj hj2=>?_⟩;by_cases e:j<(S.take m).length
   ·rw[List.getElem_append_left e,List.getElem_append_left (by rw[<- ih.1];exact e)];exact ih.2 j e _
   ·have e2:j=(S.take m).length:=by rw[List.length_append] at hj;simp only[List.length_singleton] at hj;omega
    subst e2;rw[List.getElem_append_right (by omega),List.getElem_append_right (by rw[ih.1];omega)];simpa only[ih.1,Nat.sub_self,List.getElem_singleton] using hr
theorem EvSz.out {F:List (List Int)} {l:List PN} {tabs S:List (List It)} {K:Nat} (h:EvSz F l tabs K) (hr:RightP F l tabs) (hS:Ran F l tabs l.length S) (j:Nat) (hj:j<S.length):S[j].length<=25000000:=by
 have hp:=(planE_ok hr.1).2.2.2;have hf:=hS.few (Nat.le_refl _) hp hr.2 (λz hz=>(h.rows z hz).1) l.length (Nat.le_refl _);rw[List.take_of_length_le (by rw[hS.len];omega)] at hf;have h2:j<(rowsTo K l l.length).length:=by rw[<- hf.1];exact hj
 have h3:=hf.2 j hj h2;have h4:=h.few _ (rowsTo_mem (List.getElem_mem h2));omega
structure Out (F:List (List Int)) (l:List PN) (tabs:List (List It)) (out:List It):Prop where
 ran:∃S,Ran F l tabs l.length S/\∃h:l.length-1<S.length,out=S[l.length-1]
 len:out.length<=25000000
 nds:Nds out (lastN F l)
 ndb:Ndb (lastN F l)
 rows:∀t∈out,t.row.length<=12
theorem EvalRes.out {F:List (List Int)} {l:List PN} {tabs:List (List It)} {out:List It} {e:Int} {K:Nat} (h:EvalRes F l tabs out e) (hz:EvSz F l tabs K) (hr:RightP F l tabs):e=0/\Out F l tabs out:=by
 obtain ⟨he,S,hS,hs,rfl⟩:=h.ok hr;have hl:=hS.last (planE_ok hr.1).2.1 hs;exact ⟨he,⟨S,hS,hs,rfl⟩,hz.out hr hS _ hs,hl.1,hl.2,λt ht=>by
  have h1:=hl.1.row t ht;have h2:=hl.2.tl;omega⟩
theorem Out.same {F:List (List Int)} {l:List PN} {tabs:List (List It)} {o o':List It} (h:Out F l tabs o) (h':Out F l tabs o'):o=o':=by obtain ⟨S,hS,hs,rfl⟩:=h.ran;obtain ⟨S',hS',hs',rfl⟩:=h'.ran;have h1:=ran_same hS hS' l.length (Nat.le_refl _) (Nat.le_refl _) (Nat.le_refl _) (Nat.le_refl _) (λj _ _ _=>rfl) (λj _ _ _=>rfl);rw[List.take_of_length_le (by rw[hS.len];omega),List.take_of_length_le (by rw[hS'.len];omega)] at h1;subst h1;rfl
/-! A plan's beginning. -/
def nilS (n:Nat):List (List It):=List.replicate n []
theorem nilS_rows (n:Nat):∀z∈nilS n,z=[]:=λz hz=>(List.mem_replicate.1 hz).2
theorem es_nils {st:St} {m:List (Nat×Option Nat)} (n:Nat):Es st m (List.replicate n [AV.nl]) (doO (nilS n)).es:=by
 simp only[doO,nilS]
 induction n with
 | zero=>exact .nil
 | succ n ih=>
   simp only[List.replicate_succ,List.map_cons];exact .cons ⟨rfl,trivial⟩ ih
end Yt
namespace Yt
open Go Go.Vc
end Yt
namespace Yt
open Go Go.Vc Go.Proofs
def plO (l:List PN):Ob:=⟨14,l.map PN.c⟩
theorem pn_leaf (x:PN):∀a∈x.c,a.leaf=true:=by simp[PN.c,intsL,iA,AV.leaf]
theorem plO_leafy (l:List PN):(plO l).leafy:=λx hx=>by obtain ⟨y,_,rfl⟩:=List.mem_map.1 hx;exact pn_leaf y
theorem fam_fz {st:St} {m:List (Nat×Option Nat)} {z:List It} {es:List (List AV)} (hl:es.length=z.length) (h:∀i (hi:i<z.length),∃x,es[i]?=some [.rf x 0 z[i].row.length,iA z[i].w]/\x∉olds m/\st.objs x=some (ro3 z[i].row)):Es st m es (z.map It.c):=by
 refine Es_all (by simp[hl]) λi q1 q2=>?_;have hi:i<z.length:=by simpa using q2
 obtain ⟨x,e,hx,ho⟩:=h i hi;rw[List.getElem?_eq_getElem q1] at e;rw[Option.some.inj e];simp only[List.getElem_map,It.c,wk.wks,wk,iA,rowA];exact ⟨⟨hx,_,ho,ro3_leafy _,rfl,List.take_of_length_le (by simp[ro3])⟩,trivial,trivial⟩
theorem famF_new {z:List It} {i:Nat} {o:Ob} (h:famF z i=some o):∀x∈o.es,newMs x=true:=by
 rcases famS_cases h with ⟨rfl,rfl⟩|⟨j,hj,rfl,rfl⟩
 ·intro x hx;simp only[famC] at hx;obtain ⟨q,_,rfl⟩:=List.mem_map.1 hx;rfl
 ·intro x hx;simp only[ro3] at hx;obtain ⟨q,_,rfl⟩:=List.mem_map.1 hx;rfl
theorem CALL.lendF {P:Program} {f:Nat} {args args':List AV} {st:St} {x:Nat} {K:St->Prop} {R:AV->List It->Prop} (h:SpecF P f args' R) (hl:lents st.objs args args') (hn:∀r z,R r z->r.newM=true) (b:Nat) (hb:∀n∈st.used,n<b)
 (k:∀r z,R r z->K {regs:=upd st.regs x (r.rn λi=>b+i),objs:=famO b z st.objs,used:=famU b z.length++st.used}):CALL P f args st (some x) K:=by
 classical
 have key:=lendD_sem (used:=st.used) h hl b hb (λr O'=>if h:∃z,(R r z/\r.only0=true)/\O'=famF z then famU 0 h.choose.length else []) (λr O' hR=>by
  rw[dif_pos hR];obtain ⟨⟨q0,q1⟩,q2⟩:=hR.choose_spec;refine ⟨λi o ho=>?_,inN_mono (λi hi=>famU_mem.2 (by omega)) _ (only0_in _ q1),hn _ _ q0⟩;have ho2:famF hR.choose i=some o:=by rw[<- q2];exact ho
  exact ⟨(famF_closed ho2).1,λx hx=>⟨(famF_closed ho2).2 x hx,famF_new ho2 x hx⟩⟩)
 refine .sem _ key λu O U hX=>?_;obtain ⟨r,O',hR,rfl,rfl,rfl⟩:=hX;rw[dif_pos hR];obtain ⟨⟨q0,q1⟩,q2⟩:=hR.choose_spec;generalize hR.choose=z at q0 q2;have e2:addO b O' st.objs=famO b z st.objs:=by
  funext n
  simp only[addO,famO];split
  ·rename_i hn;rw[q2,famF_rn,show b+(n-b)=n by omega]
  ·rfl
 have e3:List.map (λi=>b+i) (famU 0 z.length)=famU b z.length:=by simp[famU]
 have:=k r z q0;simp only[St.to,St.put,e2,e3];exact this
theorem leafy_rn {ρ:Nat->Nat} {p:Nat->Prop} {o:Ob} (h:o.leafy):o.rn ρ=o/\∀x∈o.es,inNs p x:=by
 have key:∀x:List AV,(∀a∈x,a.leaf=true)->rns ρ x=x/\inNs p x:=λx hx=>by
  refine noIds_rn x ?_
  induction x with
  | nil=>rfl
  | cons a r ih=>simp only[noIds,Bool.and_eq_true];exact ⟨leaf_noId (hx a (by simp)),ih λb hb=>hx b (by simp[hb])⟩
 refine ⟨?_,λx hx=>(key x (h x hx)).2⟩;cases o with
 | mk sz es=>
   simp only[Ob.rn,Ob.mk.injEq,true_and];have:es.map (rns ρ)=es.map _root_.id:=List.map_congr_left λx hx=>(key x (h x hx)).1;rw[this,List.map_id]
theorem f54 (a b:List It) (hl:a.length+b.length<=268435456) (ha:∀t∈a,t.row.length<1073741824) (hb:∀t∈b,t.row.length<1073741824) :
 SpecF Tryz.prog 43 [setA a,setA b] (λr out=>∃err:Int,r=.tu [.rf 0 0 out.length,iA err]/\AddR a b out err):=by
 refine funspecD_of_vc tabOk elems ord43 Tryz.func43 rfl (rl:=[.tmp 4,.tmp 5]) rfl (by kernel_rfl) rfl (λ_ h=>absurd rfl h) ?_;refine Af ?_;refine CALL.fam (show SpecF Tryz.prog 36 [setA a,setA b] _ from f47 a b hl ha hb) rfl 100000 (by simp) λr out hq=>?_;obtain ⟨err,rfl,hm⟩:=hq;refine Ax ?_;refine FINfam 100000 (λi=>100000+(i+1)) out [(4,.rf 0 0 out.length),(5,iA err)] (es:=famC 100000 out) (fam_nd (l:=[100000]) (by decide) (by decide)) Ag rfl (λi hi=>by (simp -implicitDefEqProofs only[go_sem];repeat (refine GO ?_;simp -implicitDefEqProofs only[go_sem]));exact famO_row hi) ?_ ?_
 ·exact A8
 ·exact ⟨out,⟨⟨err,rfl,hm⟩,rfl⟩,rfl⟩
theorem f55 (a b:List It) (hl:a.length+b.length<=268435456) (ha:∀t∈a,t.row.length<1073741824) (hb:∀t∈b,t.row.length<1073741824) :
 SpecF Tryz.prog 44 [setA a,setA b] (λr out=>∃err:Int,r=.tu [.rf 0 0 out.length,iA err]/\MinR a b out err):=by
 refine funspecD_of_vc tabOk elems ord44 Tryz.func44 rfl (rl:=[.tmp 4,.tmp 5]) rfl (by kernel_rfl) rfl (λ_ h=>absurd rfl h) ?_;refine Af ?_;have bad:∀s:St,s.regs 4=.nl->s.regs 5=.pr (.int .i64 1)->¬(Good a/\Good b)->FIN T noOb [.tmp 4,.tmp 5] (λr O'=>∃z,((∃err:Int,r=.tu [.rf 0 0 z.length,iA err]/\MinR a b z err)/\r.only0=true)/\O'=famF z) s:=by
  intro s h4 h5 hn;refine FINmk [(0,none)] [(4,.rf 0 0 0),(5,iA 1)] [(0,so [])] [0] rfl ?_ ?_
  ·refine Cc ?_;simp[so]
  ·exact ⟨[],⟨⟨1,rfl,.inl ⟨hn,rfl,rfl⟩⟩,rfl⟩,rfl⟩
 refine .pure _ (s16 a (by omega) (λt ht=>by have:=ha t ht;omega)) rfl λq hq _=>?_;obtain ⟨e,rfl,he,hg⟩:=hq;refine Ab ?_;refine VIF.split (λh=>?_) (λh=>?_)
 ·have h:e≠0:=(by simpa using h);have h1:e=1:=(by omega);subst h1;refine Aa ?_;exact bad _ rfl rfl λg=>h (hg.2 g.1)
 ·have h:e=0:=(by simpa using h);have hg:=hg.1 h;refine Aa ?_;refine .make 15 _ (s31 b (by omega) hb) rfl (by simp) rfl λq o hq _=>?_;obtain ⟨n,err,rfl,rfl,hn⟩:=hq;refine Am ?_;refine VIF.split (λh2=>?_) (λh2=>?_)
  ·have h2:err≠0:=(by simpa using h2);obtain ⟨hb2,rfl,rfl⟩:¬Good b/\n=[]/\err=1:=by
    rcases hn with h|⟨_,_,h⟩
    ·exact h
    ·exact absurd h h2
   refine Aa ?_;exact bad _ rfl rfl λg=>hb2 g.2
  ·have h2:err=0:=(by simpa using h2);obtain ⟨hb2,rfl⟩:Good b/\n=b.map negI:=by
    rcases hn with ⟨_,_,h⟩|⟨h,h3,_⟩
    ·omega
    ·exact ⟨h,h3⟩
   refine Aw ?_;refine GO ?_;refine Aw ?_;refine TO [] [(21,setA a),(22,setA (b.map negI))] [] [] rfl ?_ ?_
   ·refine Af ?_;exact ⟨id,by decide,_,rfl,so_leafy (b.map negI),rfl,List.take_of_length_le (by simp)⟩
   refine Af ?_;refine CALL.fam (f47 a (b.map negI) (by rw[List.length_map];exact hl) ha (λt ht=>by obtain ⟨u,hu,rfl⟩:=List.mem_map.1 ht;exact hb u hu)) rfl 100000 (by simp) λr out hq=>?_;obtain ⟨err,rfl,hm⟩:=hq;have hm:MakeR (a++b.map negI) out err:=by
    rcases hm with ⟨h,_⟩|⟨_,_,h⟩
    ·exact absurd ⟨hg,good_neg hb2⟩ h
    ·exact h
   refine Ax ?_;refine FINfam 100000 (λi=>100000+(i+1)) out [(4,.rf 0 0 out.length),(5,iA err)] (es:=famC 100000 out) (fam_nd (l:=[100000]) (by decide) (by decide)) Ag rfl (λi hi=>by (simp -implicitDefEqProofs only[go_sem];repeat (refine GO ?_;simp -implicitDefEqProofs only[go_sem]));exact famO_row hi) ?_ ?_
   ·exact A8
   ·exact ⟨out,⟨⟨err,rfl,.inr ⟨hg,hb2,hm⟩⟩,rfl⟩,rfl⟩
theorem f166 (z dz:List It) (hl:z.length+z.length+dz.length<=268435456) (hz:∀t∈z,t.row.length<1073741824) (hd:∀t∈dz,t.row.length<1073741824) :
 SpecF Tryz.prog 166 [setA z,setA dz] (λr out=>∃err:Int,r=.tu [.rf 0 0 out.length,iA err]/\DDel z dz out err):=by
 refine funspecD_of_vc tabOk elems ord166 Tryz.func166 rfl (rl:=[.tmp 4,.tmp 5]) rfl (by kernel_rfl) rfl (λ_ h=>absurd rfl h) ?_;refine Af ?_;refine .pure _ (Spec1.setE (s23 z dz (by omega) hz hd)) rfl λq hq _=>?_;obtain ⟨now,e,rfl,hm⟩:=hq;obtain ⟨nl,nr⟩:=addR_rows hm;have nr:∀t∈now,t.row.length<1073741824:=λt ht=>by
  obtain ⟨u,hu,e⟩:=nr t ht;rw[<- e];rcases List.mem_append.1 hu with hu|hu
  ·exact hz u hu
  ·exact hd u hu
 refine Al ?_;refine VIF.split (λh=>?_) (λh=>?_)
 ·have h:e≠0:=(by simpa using h);refine Aw ?_;refine FINmk [(0,none)] [(4,.rf 0 0 0),(5,iA e)] [(0,so [])] [0] rfl ?_ ?_
  ·refine Ab ?_;simp[so]
  ·exact ⟨[],⟨⟨e,rfl,now,e,hm,.inl ⟨h,rfl,rfl⟩⟩,rfl⟩,rfl⟩
 ·have h:e=0:=(by simpa using h);subst h;obtain ⟨gz,gd,mn,gn,tn⟩:=addR_good hm rfl;refine Aa ?_;refine .pure _ (c32 now (by omega) nr) rfl λq hq _=>?_;obtain ⟨a,e1,rfl,ha⟩:=hq;obtain ⟨rfl,rfl⟩:=dist_ok gn ha;have la:=distL_len now;refine Al ?_;refine .pure _ (c32 z (by omega) hz) rfl λq hq _=>?_;obtain ⟨b,e2,rfl,hb⟩:=hq;obtain ⟨rfl,rfl⟩:=dist_ok gz hb;have lb:=distL_len z;refine Al ?_;refine CALL.fam (show SpecF Tryz.prog 44 [setA (distL now),setA (distL z)] _ from f55 (distL now) (distL z) (by omega) (distL_rows (P:=λr=>r.length<1073741824) nr) (distL_rows (P:=λr=>r.length<1073741824) hz)) rfl 100000 (by simp) λq out hq=>?_;obtain ⟨err,rfl,ho⟩:=hq;refine Ax ?_;refine FINfam 100000 (λi=>100000+(i+1)) out [(4,.rf 0 0 out.length),(5,iA err)] (es:=famC 100000 out) (fam_nd (l:=[100000]) (by decide) (by decide)) Ag rfl (λi hi=>by (simp -implicitDefEqProofs only[go_sem];repeat (refine GO ?_;simp -implicitDefEqProofs only[go_sem]));exact famO_row hi) ?_ ?_
  ·exact A8
  ·exact ⟨out,⟨⟨err,rfl,now,0,hm,.inr ⟨rfl,ho⟩⟩,rfl⟩,rfl⟩
theorem f167 (z dz:List It) (cols:List Int) (kind col:Int) (hl:z.length+z.length+dz.length<=268435456) (hz:∀t∈z,t.row.length<1073741824) (hd:∀t∈dz,t.row.length<1073741824) (hc:cols.length<1073741824) :
 SpecF Tryz.prog 167 [setA z,setA dz,intsL cols,iA kind,iA col] (λr out=>∃err:Int,r=.tu [.rf 0 0 out.length,iA err]/\GDel z dz cols kind col out err):=by
 refine funspecD_of_vc tabOk elems ord167 Tryz.func167 rfl (rl:=[.tmp 10,.tmp 11]) rfl (by kernel_rfl) rfl (λ_ h=>absurd rfl h) ?_;have bad:∀(e:Int) (s:St),s.regs 10=.nl->s.regs 11=.pr (.int .i64 e)->GDel z dz cols kind col [] e->FIN T noOb [.tmp 10,.tmp 11] (λr O'=>∃z_1,((∃err:Int,r=.tu [.rf 0 0 z_1.length,iA err]/\GDel z dz cols kind col z_1 err)/\r.only0=true)/\O'=famF z_1) s:=by
  intro e s h8 h9 hj;refine FINmk [(0,none)] [(10,.rf 0 0 0),(11,iA e)] [(0,so [])] [0] rfl ?_ ?_
  ·(simp -implicitDefEqProofs only[go_sem,h8,h9,iA];repeat (refine GO ?_;simp -implicitDefEqProofs only[go_sem,h8,h9,iA]));simp[so]
  ·exact ⟨[],⟨⟨e,rfl,hj⟩,rfl⟩,rfl⟩
 refine Bd ?_;refine .pure _ (Spec1.setE (s23 z dz (by omega) hz hd)) rfl λq hq _=>?_;obtain ⟨now,e1,rfl,h1⟩:=hq;obtain ⟨nl,nr⟩:=addR_rows h1;have nr:=addR_small h1 hz hd;refine Al ?_;refine VIF.split (λh=>?_) (λh=>?_)
 ·have h:e1≠0:=(by simpa using h);refine Aw ?_;exact bad e1 _ rfl rfl ⟨now,e1,h1,.inl ⟨h,rfl,rfl⟩⟩
 have h:e1=0:=by simpa using h
 subst h;refine Aa ?_;refine .pure _ (show Spec0 Tryz.prog 46 [setA now,intsL cols,iA kind,iA col] _ from g67 now cols kind col (by omega) nr hc) rfl λq hq _=>?_;obtain ⟨a,e2,rfl,h2⟩:=hq;obtain ⟨al,ar⟩:=groupR_rows h2;refine Al ?_;refine VIF.split (λh=>?_) (λh=>?_)
 ·have h:e2≠0:=(by simpa using h);refine Aw ?_;exact bad e2 _ rfl rfl ⟨now,0,h1,.inr ⟨rfl,a,e2,h2,.inl ⟨h,rfl,rfl⟩⟩⟩
 have h:e2=0:=by simpa using h
 subst h;refine Aa ?_;refine .pure _ (show Spec0 Tryz.prog 46 [setA z,intsL cols,iA kind,iA col] _ from g67 z cols kind col (by omega) hz hc) rfl λq hq _=>?_;obtain ⟨b,e3,rfl,h3⟩:=hq;obtain ⟨bl,br⟩:=groupR_rows h3;refine Al ?_;refine VIF.split (λh=>?_) (λh=>?_)
 ·have h:e3≠0:=(by simpa using h);refine Aw ?_;exact bad e3 _ rfl rfl ⟨now,0,h1,.inr ⟨rfl,a,0,h2,.inr ⟨rfl,b,e3,h3,.inl ⟨h,rfl,rfl⟩⟩⟩⟩
 have h:e3=0:=by simpa using h
 subst h;refine Aa ?_;refine CALL.fam (show SpecF Tryz.prog 44 [setA a,setA b] _ from f55 a b (by omega) (λt ht=>by have:=ar t ht;omega) (λt ht=>by have:=br t ht;omega)) rfl 100000 (by simp) λq out hq=>?_;obtain ⟨err,rfl,h5⟩:=hq;refine Ax ?_;refine FINfam 100000 (λi=>100000+(i+1)) out [(10,.rf 0 0 out.length),(11,iA err)] (es:=famC 100000 out) (fam_nd (l:=[100000]) (by decide) (by decide)) Ag rfl (λi hi=>by (simp -implicitDefEqProofs only[go_sem];repeat (refine GO ?_;simp -implicitDefEqProofs only[go_sem]));exact famO_row hi) ?_ ?_
 ·exact A8
 ·exact ⟨out,⟨⟨err,rfl,now,0,h1,.inr ⟨rfl,a,0,h2,.inr ⟨rfl,b,0,h3,.inr ⟨rfl,h5⟩⟩⟩⟩,rfl⟩,rfl⟩
theorem grp_same {z o o':List It} {cols:List Int} {kind col e e':Int} (h:GroupR z cols kind col o e) (h':GroupR z cols kind col o' e'):o=o'/\e=e':=by
 rcases h with ⟨h1,rfl,h2,h3⟩|⟨h1,gs,h2,h3,h4⟩<;>rcases h' with ⟨g1,rfl,g2,g3⟩|⟨g1,gs',g2,g3,g4⟩
 ·refine ⟨rfl,?_⟩;rcases h2 with h2|h2<;>rcases g2 with g2|g2
  ·omega
  ·have:=h3.2 (g3.1 g2);omega
  ·have:=g3.2 (h3.1 h2);omega
  ·omega
 ·exact absurd g1 h1
 ·exact absurd h1 g1
 ·have:=h2.uniq g2;subst this;rcases h4 with ⟨⟨g,hgm,hn⟩,rfl,rfl⟩|⟨h4,h5⟩<;>rcases g4 with ⟨⟨g',hgm',hn'⟩,rfl,rfl⟩|⟨g4,g5⟩
  ·exact ⟨rfl,rfl⟩
  ·exact absurd hn (g4 g hgm)
  ·exact absurd hn' (h4 g' hgm')
  ·exact makeR_same h5 g5
theorem makeR_z {z o:List It} (h:MakeR z o 0):Made o/\∀r,tot r o=tot r z:=by
 rcases h with ⟨_,_,h⟩|⟨_,_,h,_⟩|⟨_,_,h1,h2,_⟩
 ·cases h
 ·cases h
 ·exact ⟨h1,h2⟩
structure Dlt (S S' D:List It):Prop where
 good:Good D
 tot:∀r,Yt.tot r D=Yt.tot r S'-Yt.tot r S
theorem tot_row {r:List V} {z:List It} (h:tot r z≠0):∃t∈z,t.row=r:=by
 false_or_by_contra
 rename_i hn;exact h (tot_none λt ht e=>hn ⟨t,ht,lin_cmpR.eq _ _ e⟩)
theorem made_in_rows {o z:List It} (ho:Made o) (h:∀r,tot r o=tot r z):∀t∈o,∃u∈z,u.row=t.row:=λt ht=>by have h1:=tot_made ho ht;have h2:=(ho.nz t ht).1;exact tot_row (by rw[<- h];omega)
theorem made_short:∀{o z:List It},o.Pairwise (λa b=>cI a b<0)->(∀t∈o,∃u∈z,u.row=t.row)->o.length<=z.length
 | [],z,_,_=>Nat.zero_le _
 | t::o,z,hp,h=>by
   rw[List.pairwise_cons] at hp;obtain ⟨u,hu,e⟩:=h t (by simp);have h1:o.length<=(z.filter λv=>!decide (cmpR v.row t.row=0)).length:=made_short hp.2 λv hv=>by
    obtain ⟨w,hw,ew⟩:=h v (by simp[hv]);refine ⟨w,List.mem_filter.2 ⟨hw,?_⟩,ew⟩;have hlt:=hp.1 v hv;have:¬cmpR w.row t.row=0:=λe2=>by have:cI t v=0:=cI_eq.2 (by rw[<- lin_cmpR.eq _ _ e2,ew]);omega
    simpa using this
   have h2:(z.filter λv=>!decide (cmpR v.row t.row=0)).length<z.length:=by refine List.length_filter_lt_length_iff_exists.2 ⟨u,hu,by simp[e,lin_cmpR.self]⟩
   simp only[List.length_cons];omega
theorem makeR_of {l out:List It} (hf:(l.any λt=>!okI t)=false) (hg:Good out) (ht:∀r,tot r out=tot r l):MakeR l out 0:=by obtain ⟨h1,h2⟩:=good_made.1 hg;have h3:=made_in_rows h1 ht;exact .inr (.inr ⟨hf,rfl,h1,ht,λt ht=>⟨h2 t ht,h3 t ht⟩,made_short h1.pw h3⟩)
theorem fine_of {l:List It} {W:Int} (hl:∀t∈l,okR t.row=0) (ha:absS l<=W) (hW:W<=72057594037927936):(l.any λt=>!okI t)=false:=by rw[List.any_eq_false];intro t ht;have:=abs_mem ht;simp[okI,hl t ht,ok_w (K:=W) (w:=t.w) (by omega) (by omega) hW]
theorem good_eq {x y:List It} (hx:Good x) (hy:Good y) (h:∀r,tot r x=tot r y):x=y:=made_eq (good_made.1 hx).1 (good_made.1 hy).1 h
theorem Dlt.nds {S S' D:List It} {n:Nd} (d:Dlt S S' D) (h:Nds S n) (h':Nds S' n):Nds D ⟨n.types,n.w+n.w,n.v⟩/\D.length<=S'.length+S.length:=by
 have hm:=(good_made.1 d.good).1;have ht:∀r,Yt.tot r D=Yt.tot r (S'++S.map negI):=λr=>by rw[d.tot,tot_append,tot_neg];omega
 have hr:=made_in_rows hm ht;refine ⟨nds_of d.good ?_ hr (λt ht=>?_) λt ht=>?_,?_⟩
 ·refine Int.le_trans (abs_made _ _ hm ht) ?_;rw[absS_append,abs_neg];have:=h.abs;have:=h'.abs;simp only;omega
 ·rcases List.mem_append.1 ht with ht|ht
  ·exact h'.fit t ht
  ·exact h.neg.fit t ht
 ·rcases List.mem_append.1 ht with ht|ht
  ·exact h'.val t ht
  ·exact h.neg.val t ht
 ·have:=made_short hm.pw hr;simpa using this
def JdR (a da b db:List It) (cols others:List Int) (out:List It) (err:Int):Prop:=
 ∃z1 e1,JoinR da b cols others z1 e1/\Thn out err e1 (∃o1 g1,AddR [] z1 o1 g1/\Thn out err g1
  (∃z2 e2,JoinR a db cols others z2 e2/\Thn out err e2 (∃o2 g2,AddR o1 z2 o2 g2/\Thn out err g2
   (∃z3 e3,JoinR da db cols others z3 e3/\Thn out err e3 (AddR o2 z3 out err)))))
def DelR (x:PN) (S D:List (List It)) (dz out:List It) (err:Int):Prop:=
 if x.kind=1 then out=dz/\err=0
 else if x.kind=2 then out=((setAt D x.a).filter λt=>holdsP x.pred t.row)/\err=0
 else if x.kind=3 then ProjX (setAt D x.a) x.cols out err
 else if x.kind=4 then JdR (setAt S x.a) (setAt D x.a) (setAt S x.b) (setAt D x.b) x.cols x.others out err
 else if x.kind=5 then AddR (setAt D x.a) (setAt D x.b) out err
 else if x.kind=6 then MinR (setAt D x.a) (setAt D x.b) out err
 else if x.kind=7 then DDel (setAt S x.a) (setAt D x.a) out err
 else GDel (setAt S x.a) (setAt D x.a) x.cols x.agg x.col out err
theorem linF_dlt (f:List V->Int) {S S' D:List It} (d:Dlt S S' D):linF f S'=linF f S+linF f D:=linF_add f λr=>by rw[d.tot];omega
theorem nd_add0 {z out:List It} {n:Nd} {err:Int} (h:Nds z n) (hw:n.w<=72057594037927936) (ha:AddR [] z out err):err=0/\out=z:=by have h0:Nds [] ⟨n.types,0,n.v⟩:=Nds.nil (Int.le_refl 0);obtain ⟨h1,h2,h3,_⟩:=nd_add h0 h rfl (by simpa using hw) ha;exact ⟨h1,good_eq h2.good h.good λr=>by rw[h3];simp[tot]⟩
theorem dlt_end {old d new:List It} {n:Nd} {e v W:Int} (ho:Nds old n) (hd:Nds d ⟨n.types,W,v⟩) (hW:n.w+W<=72057594037927936) (h:AddR old d new e) :
 e=0/\Good new/\(∀r,tot r new=tot r old+tot r d)/\Dlt old new d:=by
 obtain ⟨h1,h2,h3,_⟩:=nd_add ho hd rfl hW h;exact ⟨h1,h2.good,h3,hd.good,λr=>by rw[h3];omega⟩
theorem jd_in {a a' da b b' db out:List It} {n m:Nd} {cols others:List Int} {err:Int} (ha:Nds a n) (ha':Nds a' n) (hb:Nds b m) (hb':Nds b' m) (hda:Dlt a a' da) (hdb:Dlt b b' db) (hn:Ndb n) (hm:Ndb m) (hl:cols.length=others.length)
 (ht:n.types.length+m.types.length<=12) (hw:n.w*m.w<=1125899906842624) (h:JdR a da b db cols others out err) :
 err=0/\Nds out ⟨n.types++m.types,8*(n.w*m.w),max n.v m.v⟩/\∀r,tot r out=jt cols others r a' b'-jt cols others r a b:=by
 have w0:=hn.w0;have v0:=hm.w0;have hp:0<=n.w*m.w:=Int.mul_nonneg w0 v0;have e1:(n.w+n.w)*m.w=2*(n.w*m.w):=by rw[Int.add_mul];omega
 have e2:n.w*(m.w+m.w)=2*(n.w*m.w):=by rw[Int.mul_add];omega
 have e3:(n.w+n.w)*(m.w+m.w)=4*(n.w*m.w):=by rw[Int.add_mul,e2];omega
 obtain ⟨Da,_⟩:=hda.nds ha ha';obtain ⟨Db,_⟩:=hdb.nds hb hb';obtain ⟨z1,f1,j1,q1⟩:=h;obtain ⟨rfl,n1,t1,_⟩:=nd_join Da hb hl ht (by simp only;omega) (by simp only;omega) j1;obtain ⟨o1,g1,a1,q2⟩:=q1.resolve_left (λq=>q.1 rfl) |>.2;obtain ⟨rfl,rfl⟩:=nd_add0 n1 (by simp only;omega) a1;obtain ⟨z2,f2,j2,q3⟩:=q2.resolve_left (λq=>q.1 rfl) |>.2;obtain ⟨rfl,n2,t2,_⟩:=nd_join ha Db hl ht w0 (by simp only;omega) j2;obtain ⟨o2,g2,a2,q4⟩:=q3.resolve_left (λq=>q.1 rfl) |>.2;obtain ⟨rfl,n3,t3,_⟩:=nd_add n1 n2 rfl (by simp only;omega) a2;obtain ⟨z3,f3,j3,q5⟩:=q4.resolve_left (λq=>q.1 rfl) |>.2;obtain ⟨rfl,n4,t4,_⟩:=nd_join Da Db hl ht (by simp only;omega) (by simp only;omega) j3;have q6:=q5.resolve_left (λq=>q.1 rfl) |>.2
 obtain ⟨h1,n5,t5,_⟩:=nd_add n3 n4 rfl (by simp only;omega) q6;refine ⟨h1,⟨n5.good,n5.fit,?_,?_⟩,λr=>?_⟩
 ·have:=n5.abs;simp only at this ⊢;omega
 ·intro t ht' v hv hk;have:=n5.val t ht' v hv hk;simp only at this ⊢;omega
 ·have ea:∀r,tot r a'=tot r a+tot r da:=λr=>by rw[hda.tot];omega
  have eb:∀r,tot r b'=tot r b+tot r db:=λr=>by rw[hdb.tot];omega
  rw[t5,t3,t1,t2,t4,jt_left ea,jt_right eb,jt_right eb];omega
theorem jn_of {a b new:List It} {n m:Nd} {cols others:List Int} (ha:Nds a n) (hb:Nds b m) (hl:cols.length=others.length) (ht:n.types.length+m.types.length<=12) (hw:n.w*m.w<=1125899906842624) (hg:Good new)
 (h:∀r,tot r new=jt cols others r a b):JoinR a b cols others new 0:=by
 have hab:absS a*absS b<=n.w*m.w:=mul_le_of ha.abs hb.abs (absS_pos a) (Int.le_trans (absS_pos b) hb.abs);refine .inr (.inr (.inr ⟨ha.good,hb.good,hl,?_,λp hp=>?_,makeR_of (fine_of (W:=n.w*m.w) (λt ht'=>?_) (Int.le_trans (abs_join cols others b a) hab) (by omega)) hg λr=>by rw[h,tot_join]⟩))
 ·rw[List.any_eq_false];intro p hp;obtain ⟨h1,h2,_⟩:=pairL_mem hp;have:=ha.row _ h1;have:=hb.row _ h2;simp[longP];omega
 ·obtain ⟨h1,h2,_⟩:=pairL_mem hp;have g1:=abs_mem h1;have g2:=abs_mem h2;have g3:=mul_small (x:=p.1.w) (y:=p.2.w) (i:=absS a) (j:=absS b) ⟨g1.1,g1.2⟩ ⟨g2.1,g2.2⟩;exact ok_w (K:=absS a*absS b) g3.1 g3.2 (by omega)
 ·obtain ⟨p,hp,rfl⟩:=List.mem_map.1 ht';obtain ⟨h1,h2,_⟩:=pairL_mem hp;exact fitR_ok (fitR_app (ha.fit _ h1) (hb.fit _ h2)) (by rw[List.length_append];exact ht)
theorem node_delta {F:List (List Int)} {D:List Nd} {x:PN} {S S' Dm tabs tabs':List (List It)} {dz old d:List It} {err:Int} (hF:formsE F=0) (hl:lookE F D x=0) (ht:TabsE F tabs) (ht':TabsE F tabs') (hS:Sets S D) (hS':Sets S' D)
 (hD:∀k,inC k D.length=true->Dlt (setAt S k) (setAt S' k) (setAt Dm k)) (hdz:x.kind=1->Dlt (setAt tabs x.table) (setAt tabs' x.table) dz) (h:NodeR x S tabs old) (hd:DelR x S Dm dz d err) :
 err=0/\Good d/\∀new e,AddR old d new e->e=0/\NodeR x S' tabs' new/\Dlt old new d:=by
 have ho:=node_in hF hl ht hS h;have hb:=node_bd hF hl hS.ndb;simp only[lookE] at hl;simp only[lookN] at ho hb;simp only[NodeR] at h ⊢;simp only[DelR] at hd;by_cases k1:x.kind=1
 ·simp only[k1,if_true] at hl h hd ho hb ⊢;have hi:=scanE_ok hl;simp only[inC,Bool.and_eq_true,decide_eq_true_eq] at hi;have h1:x.table.toNat<F.length:=(by omega);have h2:x.table.toNat<tabs.length:=by rw[ht.1];exact h1
  have h3:x.table.toNat<tabs'.length:=by rw[ht'.1];exact h1
  obtain ⟨rfl,rfl⟩:=hd;subst h;have hz:=hdz k1;have n1:=nd_scan (ht.2 _ h1 h2);have n2:=nd_scan (ht'.2 _ h1 h3);rw[setAt_eq h2,setAt_eq h3] at hz;rw[setAt_eq h2,setAt_eq h3];refine ⟨rfl,hz.good,λnew e ha=>?_⟩;obtain ⟨e1,e2,e3,e4⟩:=dlt_end n1 (hz.nds n1 n2).1 (by simp only;omega) ha;exact ⟨e1,good_eq e2 n2.good λr=>by rw[e3,hz.tot];omega,e4⟩
 simp only[k1,if_false] at hl h hd ho hb ⊢;by_cases k2:x.kind=2
 ·simp only[k2,if_true] at hl h hd ho hb ⊢;have hi:=filtE_ok hl;obtain ⟨n1,b1⟩:=hS.at hi;obtain ⟨n2,_⟩:=hS'.at hi;have hz:=hD _ hi;obtain ⟨rfl,rfl⟩:=hd;have n3:=(hz.nds n1 n2).1.sub λt=>holdsP x.pred t.row;refine ⟨rfl,n3.good,λnew e ha=>?_⟩;have:=b1.w1;obtain ⟨e1,e2,e3,e4⟩:=dlt_end ho n3 (by omega) ha;refine ⟨e1,good_eq e2 (n2.sub λt=>holdsP x.pred t.row).good λr=>?_,e4⟩;rw[e3,h,tot_filter (holdsP x.pred),tot_filter (holdsP x.pred),tot_filter (holdsP x.pred),hz.tot];split<;>omega
 simp only[k2,if_false] at hl h hd ho hb ⊢;by_cases k3:x.kind=3
 ·simp only[k3,if_true] at hl h hd ho hb ⊢;obtain ⟨hi,hc1,hc2⟩:=projE_ok hl;obtain ⟨n1,b1⟩:=hS.at hi;obtain ⟨n2,_⟩:=hS'.at hi;have hz:=hD _ hi;have:=b1.w1;obtain ⟨rfl,n3,m3⟩:=nd_projW (hz.nds n1 n2).1 (by simp only;omega) hc1 hc2 hd;obtain ⟨_,_,m1⟩:=nd_proj n1 b1 hc1 hc2 h;refine ⟨rfl,n3.good,λnew e ha=>?_⟩;obtain ⟨e1,e2,e3,e4⟩:=dlt_end ho n3 (by simp only[projN];omega) ha;refine ⟨e1,.inr (.inr ⟨n2.good,nd_pickE n2 hc1 hc2,makeR_of (fine_of (W:=(ndAt D x.a).w) (λt ht=>?_) (by rw[abs_proj];exact n2.abs) (by omega)) e2 λr=>?_⟩),e4⟩
  ·obtain ⟨u,hu,rfl⟩:=List.mem_map.1 ht;exact fitR_ok (fitR_pick (n2.fit u hu) hc1) (by simpa [pickI] using hc2)
  ·rw[e3,(makeR_z m1).2,(makeR_z m3).2,tot_proj_linF,tot_proj_linF,tot_proj_linF,linF_dlt _ hz]
 simp only[k3,if_false] at hl h hd ho hb ⊢;by_cases k4:x.kind=4
 ·simp only[k4,if_true] at hl h hd ho hb ⊢;obtain ⟨hi,hi2,hc1,hc2,hc3⟩:=joinE_ok hl;obtain ⟨n1,b1⟩:=hS.at hi;obtain ⟨n2,_⟩:=hS'.at hi;obtain ⟨q1,c1⟩:=hS.at hi2;obtain ⟨q2,_⟩:=hS'.at hi2;obtain ⟨rfl,n3,t3⟩:=jd_in n1 n2 q1 q2 (hD _ hi) (hD _ hi2) b1 c1 hc1 hc2 hc3 hd;obtain ⟨_,_,t1,_⟩:=nd_join n1 q1 hc1 hc2 b1.w0 (by omega) h;refine ⟨rfl,n3.good,λnew e ha=>?_⟩;obtain ⟨e1,e2,e3,e4⟩:=dlt_end ho n3 (by simp only[joinN];omega) ha;exact ⟨e1,jn_of n2 q2 hc1 hc2 hc3 e2 λr=>by rw[e3,t1,t3];omega,e4⟩
 simp only[k4,if_false] at hl h hd ho hb ⊢;by_cases k56:x.kind=5\/x.kind=6
 ·simp only[k56,if_true] at hl ho hb;obtain ⟨hi,hi2,hc1,hc2⟩:=bothE_ok hl;obtain ⟨n1,b1⟩:=hS.at hi;obtain ⟨n2,_⟩:=hS'.at hi;obtain ⟨q1,c1⟩:=hS.at hi2;obtain ⟨q2,_⟩:=hS'.at hi2;have da:=hD _ hi;have db:=hD _ hi2;have hab:∀t∈setAt S' x.a++setAt S' x.b,okR t.row=0:=λt ht=>by
   rcases List.mem_append.1 ht with ht|ht
   ·exact n2.ok t ht
   ·exact q2.ok t ht
  rcases k56 with k5|k6
  ·simp only[k5,if_true] at h hd ⊢;obtain ⟨rfl,n3,t3,_⟩:=nd_add (da.nds n1 n2).1 (db.nds q1 q2).1 hc1 (by simp only;omega) hd;obtain ⟨_,_,t1,_⟩:=nd_add n1 q1 hc1 (by omega) h;refine ⟨rfl,n3.good,λnew e ha=>?_⟩;obtain ⟨e1,e2,e3,e4⟩:=dlt_end ho n3 (by simp only[bothN];omega) ha;refine ⟨e1,.inr ⟨n2.good,q2.good,makeR_of (fine_of (W:=(ndAt D x.a).w+(ndAt D x.b).w) hab ?_ (by omega)) e2 λr=>?_⟩,e4⟩
   ·rw[absS_append];have:=n2.abs;have:=q2.abs;omega
   ·rw[e3,t1,t3,da.tot,db.tot,tot_append];omega
  ·have k5:¬x.kind=5:=(by omega);simp only[k5,k6,if_true,if_false] at h hd ⊢;obtain ⟨rfl,n3,t3,_⟩:=nd_min (da.nds n1 n2).1 (db.nds q1 q2).1 hc1 (by simp only;omega) hd;obtain ⟨_,_,t1,_⟩:=nd_min n1 q1 hc1 (by omega) h;refine ⟨rfl,n3.good,λnew e ha=>?_⟩;obtain ⟨e1,e2,e3,e4⟩:=dlt_end ho n3 (by simp only[bothN];omega) ha;refine ⟨e1,.inr ⟨n2.good,q2.good,makeR_of (fine_of (W:=(ndAt D x.a).w+(ndAt D x.b).w) (λt ht=>?_) ?_ (by omega)) e2 λr=>?_⟩,e4⟩
   ·rcases List.mem_append.1 ht with ht|ht
    ·exact n2.ok t ht
    ·exact q2.neg.ok t ht
   ·rw[absS_append,abs_neg];have:=n2.abs;have:=q2.abs;omega
   ·rw[e3,t1,t3,da.tot,db.tot,tot_append,tot_neg];omega
 simp only[k56,if_false] at hl ho hb;have k5:¬x.kind=5:=λe=>k56 (.inl e);have k6:¬x.kind=6:=λe=>k56 (.inr e);simp only[k5,k6,if_false] at h hd ⊢;have nowA:∀{n:Nd} {now:List It} {e1:Int},inC x.a D.length=true->AddR (setAt S x.a) (setAt Dm x.a) now e1->e1=0/\now=setAt S' x.a:=λhi ha=>by obtain ⟨n1,b1⟩:=hS.at hi;obtain ⟨n2,_⟩:=hS'.at hi;have hz:=hD _ hi;have:=b1.w1;obtain ⟨e1,e2,e3,_⟩:=dlt_end n1 (hz.nds n1 n2).1 (by omega) ha;exact ⟨e1,good_eq e2 n2.good λr=>by rw[e3,hz.tot];omega⟩
 by_cases k7:x.kind=7
 ·simp only[k7,if_true] at hl h hd ho hb ⊢;have hi:=distE_ok hl;obtain ⟨n1,b1⟩:=hS.at hi;obtain ⟨n2,_⟩:=hS'.at hi;have:=b1.w1;obtain ⟨now,e1,ha,hm⟩:=hd;obtain ⟨rfl,rfl⟩:=nowA (n:=ndAt D x.a) hi ha;have hm:=hm.resolve_left (λq=>q.1 rfl) |>.2
  obtain ⟨rfl,n3,t3,_⟩:=nd_min (nd_dist n2) (nd_dist n1) rfl (by omega) hm;refine ⟨rfl,n3.good,λnew e ha=>?_⟩;obtain ⟨e1,e2,e3,e4⟩:=dlt_end ho n3 (by omega) ha;exact ⟨e1,good_eq e2 (nd_dist n2).good λr=>by rw[e3,t3,h];omega,e4⟩
 simp only[k7,if_false] at hl h hd ho hb ⊢;split at hl
 rotate_left
 ·cases hl
 obtain ⟨hi,hk,hc1,hc2,hc3,hc4,hc5⟩:=grpE_ok hl;obtain ⟨n1,b1⟩:=hS.at hi;obtain ⟨n2,_⟩:=hS'.at hi;have:=b1.w1;obtain ⟨now,e1,ha,hd⟩:=hd;obtain ⟨rfl,rfl⟩:=nowA (n:=ndAt D x.a) hi ha;obtain ⟨a,e2,g2,hd⟩:=hd.resolve_left (λq=>q.1 rfl) |>.2;obtain ⟨rfl,na,_⟩:=nd_group n2 b1 hk hc1 hc2 hc3 hc4 hc5 g2;obtain ⟨b,e3,g3,hd⟩:=hd.resolve_left (λq=>q.1 rfl) |>.2;obtain ⟨rfl,nb,_⟩:=nd_group n1 b1 hk hc1 hc2 hc3 hc4 hc5 g3;have hm:=hd.resolve_left (λq=>q.1 rfl) |>.2
 obtain ⟨rfl,_⟩:=grp_same g3 h;obtain ⟨rfl,n3,t3,_⟩:=nd_min na nb rfl (by simp only;omega) hm;refine ⟨rfl,n3.good,λnew e ha=>?_⟩;obtain ⟨e1,e2,e3,e4⟩:=dlt_end nb n3 (by simp only;omega) ha;obtain rfl:new=a:=good_eq e2 na.good λr=>by rw[e3,t3];omega
 exact ⟨e1,g2,e4⟩
end Yt
namespace Yt
open Go Go.Vc
def og163:Ords
 | _=>none
def og117:Ords
 | 7=>some (.lin [Ht 0,Ht 1,Ht 2,Hu 3,Ht 4,Ht 5,Ht 6,Ht 7,Ht 8,Ht 9])
 | 8=>some (.lin [Hv 0,Hs 1,Hy 2,Hs 3,Hs 5,Hw 4,Hw 6,Hs 7,Hw 8,Ht 9,Ht 10])
 | 10=>some (.lin [Hs 0,Hs 1,Hs 2,Hs 3,Hv 4,Hs 5,Hw 6,Ht 7,Hs 8,Hs 9,Ht 10])
 | _=>none
@[go_sem] theorem og117_0:og117 0=none:=rfl
@[go_sem] theorem og117_1:og117 1=none:=rfl
@[go_sem] theorem og117_2:og117 2=none:=rfl
@[go_sem] theorem og117_3:og117 3=none:=rfl
@[go_sem] theorem og117_4:og117 4=none:=rfl
@[go_sem] theorem og117_5:og117 5=none:=rfl
@[go_sem] theorem og117_6:og117 6=none:=rfl
attribute [go_sem] og117.eq_1
attribute [go_sem] og117.eq_2
@[go_sem] theorem og117_9:og117 9=none:=rfl
attribute [go_sem] og117.eq_3
@[go_sem] theorem og117_11:og117 11=none:=rfl
def og114:Ords
 | 5=>some (.lin [Hs 0,Hs 1,Hs 2,Hs 3,Hs 4,Hs 5,Hs 6,Hs 7,Hs 8,Hs 10,Hs 11,Hv 12,Hs 13,Hv 14,Hw 9,Hw 15,Hs 16,Hs 17,Ht 18,Hs 19,Hs 20,Ht 21])
 | _=>none
@[go_sem] theorem og114_0:og114 0=none:=rfl
@[go_sem] theorem og114_1:og114 1=none:=rfl
@[go_sem] theorem og114_2:og114 2=none:=rfl
@[go_sem] theorem og114_3:og114 3=none:=rfl
@[go_sem] theorem og114_4:og114 4=none:=rfl
attribute [go_sem] og114.eq_1
@[go_sem] theorem og114_6:og114 6=none:=rfl
@[go_sem] theorem og114_7:og114 7=none:=rfl
def og160:Ords
 | _=>none
@[go_sem] theorem og160_0:og160 0=none:=rfl
@[go_sem] theorem og160_1:og160 1=none:=rfl
@[go_sem] theorem og160_2:og160 2=none:=rfl
@[go_sem] theorem og160_3:og160 3=none:=rfl
def og57:Ords
 | 4=>some (.forkq3 [Hs 0,Hs 2,Hs 3,Hs 4,Hs 6,Hs 7] 1 true (.forkq [] 5 true (.lin [Hw 8,Hs 9,Hw 10,Hs 11]) 8 true (.lin [Hw 5,Hs 9,Hw 10,Hs 11])) 5 true (.forkq [] 1 true (.lin [Hw 8,Hs 9,Hw 10,Hs 11]) 8 true (.lin [Hw 1,Hs 9,Hw 10,Hs 11])) 8 true (.forkq [] 1 true (.lin [Hw 5,Hs 9,Hw 10,Hs 11]) 5 true (.lin [Hw 1,Hs 9,Hw 10,Hs 11])))
 | 8=>some (.lin [Hs 0,Hs 1,Hs 2,Hs 3,Hv 4,Hs 5,Hs 6,Hw 7,Hs 8,Hw 9,Ht 10,Hs 11,Hs 12,Ht 13])
 | _=>none
@[go_sem] theorem og57_0:og57 0=none:=rfl
@[go_sem] theorem og57_1:og57 1=none:=rfl
@[go_sem] theorem og57_2:og57 2=none:=rfl
attribute [go_sem] og57.eq_1
@[go_sem] theorem og57_5:og57 5=none:=rfl
@[go_sem] theorem og57_6:og57 6=none:=rfl
@[go_sem] theorem og57_7:og57 7=none:=rfl
attribute [go_sem] og57.eq_2
@[go_sem] theorem og57_9:og57 9=none:=rfl
@[go_sem] theorem og57_10:og57 10=none:=rfl
def og60:Ords
 | 1=>some (.lin [Hs 0,Hs 1,Hs 2,Hs 3,Hs 4,Hs 5,Hs 6,Hs 7,Hs 8,Hs 9,Hs 10,Hs 11,Ht 12,Hs 13])
 | _=>none
@[go_sem] theorem og60_0:og60 0=none:=rfl
attribute [go_sem] og60.eq_1
def og118:Ords
 | 5=>some (.lin [Hs 0,Hs 1,Hs 2,Hs 3,Hs 4,Hs 5,Hs 6,Ht 7,Hs 8,Hs 9,Hs 10,Hs 11])
 | 7=>some (.lin [Hs 0,Hs 1,Hs 2,Hs 3,Hs 4,Hs 5,Hs 6,Ht 7,Hs 8,Hs 9,Hs 10,Hs 11])
 | 9=>some (.lin [Hs 0,Hs 1,Hs 2,Hs 3,Hs 4,Hs 5,Hs 6,Hs 7,Hs 8,Hs 9,Hs 10,Hs 11,Hs 12,Hs 13,Hs 14,Hs 15,Hs 16,Hs 17,Hs 18,Hs 19,Hs 20,Hs 21,Hs 22,Hs 23,Hs 24,Hs 25,Hs 26,Ht 27,Hs 28,Hs 29,Hs 30,Hs 31])
 | 11=>some (.lin [Hs 0,Hs 1,Hs 2,Hs 3,Hs 4,Hs 5,Hs 6,Hs 7,Hs 8,Hs 9,Ht 10,Hs 11,Hs 12,Hs 13,Hs 14])
 | 13=>some (.lin [Hs 0,Hs 1,Hs 2,Hs 3,Hs 4,Hs 5,Hs 6,Hs 7,Hs 8,Hs 9,Ht 10,Hs 11,Hs 12,Hs 13,Hs 14])
 | 15=>some (.lin [Hs 0,Hs 1,Hs 2,Hs 3,Hs 4,Hs 5,Hs 6,Hs 7,Hs 8,Hs 9,Hs 10,Hs 11,Hs 12,Ht 13,Hs 14,Hs 15,Hs 16,Hs 17])
 | 16=>some (.lin [Hs 0,Hs 1,Hs 2,Hs 3,Hs 4,Hs 5,Hs 6,Hs 7,Hs 8,Hs 9,Hs 10,Hs 11,Hs 12,Hs 13,Hs 14,Hs 15,Hs 16,Hs 17,Hs 18,Ht 19,Hs 20,Hs 21,Hs 22,Hs 23])
 | _=>none
@[go_sem] theorem og118_0:og118 0=none:=rfl
@[go_sem] theorem og118_1:og118 1=none:=rfl
@[go_sem] theorem og118_2:og118 2=none:=rfl
@[go_sem] theorem og118_3:og118 3=none:=rfl
@[go_sem] theorem og118_4:og118 4=none:=rfl
attribute [go_sem] og118.eq_1
@[go_sem] theorem og118_6:og118 6=none:=rfl
attribute [go_sem] og118.eq_2
@[go_sem] theorem og118_8:og118 8=none:=rfl
attribute [go_sem] og118.eq_3
@[go_sem] theorem og118_10:og118 10=none:=rfl
attribute [go_sem] og118.eq_4
@[go_sem] theorem og118_12:og118 12=none:=rfl
attribute [go_sem] og118.eq_5
@[go_sem] theorem og118_14:og118 14=none:=rfl
attribute [go_sem] og118.eq_6
attribute [go_sem] og118.eq_7
def og165:Ords
 | _=>none
@[go_sem] theorem og165_0:og165 0=none:=rfl
@[go_sem] theorem og165_1:og165 1=none:=rfl
@[go_sem] theorem og165_2:og165 2=none:=rfl
@[go_sem] theorem og165_3:og165 3=none:=rfl
@[go_sem] theorem og165_4:og165 4=none:=rfl
@[go_sem] theorem og165_5:og165 5=none:=rfl
@[go_sem] theorem og165_6:og165 6=none:=rfl
@[go_sem] theorem og165_7:og165 7=none:=rfl
@[go_sem] theorem og165_8:og165 8=none:=rfl
@[go_sem] theorem og165_9:og165 9=none:=rfl
@[go_sem] theorem og165_10:og165 10=none:=rfl
@[go_sem] theorem og165_11:og165 11=none:=rfl
@[go_sem] theorem og165_12:og165 12=none:=rfl
def og59:Ords
 | 1=>some (.lin [Ht 0,Ht 1,Hu 2,Ht 3,Ht 4,Ht 5,Ht 6,Ht 7,Ht 8,Ht 9,Ht 10])
 | 4=>some (.lin [Ht 0,Ht 1,Hu 2,Ht 3,Ht 4,Ht 5,Ht 6,Ht 7,Ht 8,Ht 9,Ht 10,Ht 11,Ht 12,Ht 13])
 | 7=>some (.forkq [Hs 0,Hs 1,Hs 2,Hv 3,Hs 4,Hs 6,Hs 7,Hs 8,Hv 9,Hs 10] 5 true (.lin [Hs 12,Hw 11,Hs 13]) 11 true (.lin [Hw 5,Hs 12,Hs 13]))
 | 16=>some (.lin [Hs 0,Hs 1,Hs 2,Hs 3,Hs 4,Hs 5,Hs 6,Hs 7,Hs 8,Hs 9,Hs 10,Hs 11,Hs 12,Ht 13,Hs 14,Hs 15,Hs 16,Hs 17,Ht 18,Hs 19])
 | _=>none
@[go_sem] theorem og59_0:og59 0=none:=rfl
attribute [go_sem] og59.eq_1
@[go_sem] theorem og59_2:og59 2=none:=rfl
@[go_sem] theorem og59_3:og59 3=none:=rfl
attribute [go_sem] og59.eq_2
@[go_sem] theorem og59_5:og59 5=none:=rfl
@[go_sem] theorem og59_6:og59 6=none:=rfl
attribute [go_sem] og59.eq_3
@[go_sem] theorem og59_8:og59 8=none:=rfl
@[go_sem] theorem og59_9:og59 9=none:=rfl
@[go_sem] theorem og59_10:og59 10=none:=rfl
@[go_sem] theorem og59_11:og59 11=none:=rfl
@[go_sem] theorem og59_12:og59 12=none:=rfl
@[go_sem] theorem og59_13:og59 13=none:=rfl
@[go_sem] theorem og59_14:og59 14=none:=rfl
attribute [go_sem] og59.eq_4
@[go_sem] theorem og59_17:og59 17=none:=rfl
@[go_sem] theorem og59_19:og59 19=none:=rfl
@[go_sem] theorem og59_20:og59 20=none:=rfl
@[go_sem] theorem og59_21:og59 21=none:=rfl
def og61:Ords
 | 2=>some (.lin [Ht 0,Ht 1,Hu 2,Ht 3,Ht 4,Ht 5])
 | 8=>some (.lin [Ht 0,Ht 1,Hu 2,Ht 3,Ht 4,Ht 5,Hu 6,Ht 7,Ht 8,Ht 9,Ht 10,Hu 11,Ht 12,Ht 13,Ht 14,Hu 15,Ht 16,Ht 17,Ht 18,Ht 19,Ht 20,Ht 21])
 | _=>none
@[go_sem] theorem og61_0:og61 0=none:=rfl
@[go_sem] theorem og61_1:og61 1=none:=rfl
attribute [go_sem] og61.eq_1
@[go_sem] theorem og61_4:og61 4=none:=rfl
@[go_sem] theorem og61_5:og61 5=none:=rfl
@[go_sem] theorem og61_6:og61 6=none:=rfl
@[go_sem] theorem og61_7:og61 7=none:=rfl
attribute [go_sem] og61.eq_2
end Yt
namespace Yt
open Go Go.Vc Go.Proofs
def RestJ (cols others:List Int):List (List It×List It)->List It->List It->Int->Prop
 | [],o,out,err=>out=o/\err=0
 | p::r,o,out,err=>∃z e,JoinR p.1 p.2 cols others z e/\Thn out err e (∃o' g,AddR o z o' g/\Thn out err g (RestJ cols others r o' out err))
def prJ (a da b db:List It):List (List It×List It):=[(da,b),(a,db),(da,db)]
theorem addR_err {a b o:List It} {g:Int} (h:AddR a b o g) (hg:g≠0):o=[]:=by
 rcases h with ⟨_,h,_⟩|⟨_,_,⟨_,h,_⟩|⟨_,h,_⟩|⟨_,h,_⟩⟩
 ·exact h
 ·exact h
 ·exact h
 ·exact absurd h hg
theorem thn_mono {out:List It} {err e:Int} {P Q:Prop} (h:P->Q) (k:Thn out err e P):Thn out err e Q:=k.imp id λq=>⟨q.1,h q.2⟩
theorem restJ_jd {a da b db out:List It} {cols others:List Int} {err:Int} (h:RestJ cols others (prJ a da b db) [] out err):JdR a da b db cols others out err:=by
 obtain ⟨z1,e1,j1,h⟩:=h;refine ⟨z1,e1,j1,thn_mono (λ⟨o1,g1,a1,h⟩=>⟨o1,g1,a1,thn_mono (λ⟨z2,e2,j2,h⟩=>⟨z2,e2,j2,thn_mono (λ⟨o2,g2,a2,h⟩=>⟨o2,g2,a2,thn_mono (λ⟨z3,e3,j3,h⟩=>⟨z3,e3,j3,thn_mono (λ⟨o3,g3,a3,h⟩=>?_) h⟩) h⟩) h⟩) h⟩) h⟩;rcases h with ⟨hg,rfl,rfl⟩|⟨rfl,rfl,rfl⟩
 ·rw[addR_err a3 hg] at a3;exact a3
 ·exact a3
def prA (a da b db:List It):List (List AV):=(prJ a da b db).map λp=>[setA p.1,setA p.2]
theorem known_arr {fs:List (Nat×Nat)} {e:Nat}:(TK.arr fs e).known=true:=rfl
theorem prA_leafy (a da b db:List It):(Ob.mk 2 (prA a da b db)).leafy:=by rw[prA,leafy_do];exact leafs2_map λp _=>by simp[leafs,setA,AV.leaf]
structure JSz (a da b db:List It):Prop where
 p2:∀i (h:i<(prJ a da b db).length),i<2->(prJ a da b db)[i].1.length*(prJ a da b db)[i].2.length<=50000000
 p1:∀p∈prJ a da b db,p.1.length*p.2.length<=100000000/\p.1.length<=80000000/\p.2.length<=80000000/\(∀t∈p.1,t.row.length<1073741824)/\∀t∈p.2,t.row.length<1073741824
theorem f165 (x:PN) (a da b db:List It) (hc:x.cols.length<1073741824) (ho:x.others.length<1073741824) (hz:JSz a da b db) :
 SpecF Tryz.prog 165 [.ag x.c,setA a,setA da,setA b,setA db] (λr out=>∃err:Int,r=.tu [.rf 0 0 out.length,iA err]/\JdR a da b db x.cols x.others out err):=by
 refine funspecD_of_vc tabOk elems og165 Tryz.func165 rfl (rl:=[.tmp 10,.tmp 11]) rfl (by kernel_rfl) rfl (λ_ h=>absurd rfl h) ?_;refine Ef ?_
 refine LOOP.mk (ι:={p:Nat×List It//p.1<=3/\(∀f e,RestJ x.cols x.others ((prJ a da b db).drop p.1) p.2 f e->JdR a da b db x.cols x.others f e)/\(p.2.length<=250000000/\(p.1<3->p.2.length<=p.1*50000000))/\∀t∈p.2,t.row.length<1073741824}) (λp=>mkS [(5,.pt 5 0 0),(12,.rf 1000 0 p.1.2.length),(26,.im 2 (prA a da b db)),(27,iA 3),(28,iA p.1.1)] ([(5,⟨14,[x.c]⟩),(1000,⟨2,famC 2000 p.1.2⟩)]++famL 2000 p.1.2) ([5,1000]++famN 2000 p.1.2.length))
  (λp=>3-p.1.1) ⟨(0,[]),by decide,λf e h=>restJ_jd h,by simp,by simp⟩ [(5,some 5),(1000,none)] rfl rfl ?_ (λp=>?_)
 ·refine Ef ?_;refine ⟨id,⟨⟨by decide,_,rfl,prA_leafy a da b db,rfl,rfl⟩,rfl,rfl⟩,.cons ?_ .nil,rfl,?_⟩
  ·exact Bw
  ·exact trivial
 obtain ⟨⟨i,o⟩,hi,hR,hol,hor⟩:=p;simp only at hi hR hol hor;refine Ef ?_;refine VIF.split (λh1=>?_) (λh1=>?_)
 ·have h1:i<3:=by simp at h1;omega
  have hp:i<(prJ a da b db).length:=h1;obtain ⟨z1,z2,z3,z4,z5⟩:=hz.p1 _ (List.getElem_mem hp);have z6:=hz.p2 i hp;have hol:=hol.2 h1;have hdr:(prJ a da b db).drop i=(prJ a da b db)[i]::(prJ a da b db).drop (i+1):=List.drop_eq_getElem_cons hp;rw[hdr] at hR;obtain ⟨pp,hpp⟩:∃pp,pp=(prJ a da b db)[i]:=⟨_,rfl⟩;(simp -implicitDefEqProofs only[go_sem,iA,prA];repeat (refine GO ?_;simp -implicitDefEqProofs only[go_sem,iA,prA]));refine EL.map hp ?_;rw[<- hpp] at hR z1 z2 z3 z4 z5 z6 ⊢;(simp -implicitDefEqProofs only[go_sem,Int.le_refl,Int.reduceLE,Int.reduceToNat,iA,known_arr,setA];repeat (refine GO ?_;simp -implicitDefEqProofs only[go_sem,Int.le_refl,Int.reduceLE,Int.reduceToNat,iA,known_arr,setA]));refine .pure _ (show Spec0 Tryz.prog 42 [setA pp.1,setA pp.2,intsL x.cols,intsL x.others] _ from c26 pp.1 pp.2 x.cols x.others hc ho (by omega) (by omega) (by omega) z4 z5) rfl λq hq _=>?_;obtain ⟨z,e,rfl,hj⟩:=hq;obtain ⟨zl,zr⟩:=joinR_rows hj;refine Al ?_;refine VIF.split (λh2=>?_) (λh2=>?_)
  ·have h2:e≠0:=(by simpa using h2);refine Aw ?_;refine FINmk [(0,none)] [(10,.rf 0 0 0),(11,iA e)] [(0,so [])] [0] rfl ?_ ?_
   ·refine Ab ?_;simp[so]
   ·exact ⟨[],⟨⟨e,rfl,hR _ _ ⟨z,e,hj,.inl ⟨h2,rfl,rfl⟩⟩⟩,rfl⟩,rfl⟩
  ·have h2:e=0:=(by simpa using h2);subst h2;refine Aa ?_;refine CALL.lendF (args':=[setA o,setA z]) (f47 o z (by omega) hor (λt ht=>by have:=zr t ht;omega)) ⟨lent_fam (es:=famC 2000 o) (ν:=λi=>2000+(i+1)) (tail:=[]) Ag (by simp[famC_cells]) (λi hi=>by (simp -implicitDefEqProofs only[go_sem];repeat (refine GO ?_;simp -implicitDefEqProofs only[go_sem]));exact famL_get hi),.same rfl,trivial⟩ (λr z ⟨err,e,_⟩=>by subst e;rfl) 3000000000 ?_ λq o2 hq=>?_
   ·simp[famN_mem];omega
   obtain ⟨g,rfl,ha⟩:=hq;obtain ⟨ol,orr⟩:=addR_rows ha;refine Ax ?_;refine VIF.split (λh3=>?_) (λh3=>?_)
   ·have h3:g≠0:=(by simpa using h3);refine Aw ?_;refine FINmk [(0,none)] [(10,.rf 0 0 0),(11,iA g)] [(0,so [])] [0] rfl ?_ ?_
    ·refine Ab ?_;simp[so]
    ·exact ⟨[],⟨⟨g,rfl,hR _ _ ⟨z,0,hj,.inr ⟨rfl,o2,g,ha,.inl ⟨h3,rfl,rfl⟩⟩⟩⟩,rfl⟩,rfl⟩
   ·have h3:g=0:=(by simpa using h3);subst h3;have w1:=wrap_add1 (show i<4611686018427387904 by omega);refine Ak ?_;have hol2:o2.length<=250000000/\(i+1<3->o2.length<=(i+1)*50000000):=⟨by omega,λh=>by have:=z6 (by omega);omega⟩;refine BACK.mk ⟨(i+1,o2),by show i+1<=3;omega,λf e h=>hR f e ⟨z,0,hj,.inr ⟨rfl,o2,0,ha,.inr ⟨rfl,h⟩⟩⟩,hol2,λt ht=>?_⟩ ([(5,some 5),(1000,some 3000000000)]++famM 2000 o2.length λi=>3000000000+(i+1)) rfl (fam_nmOk rfl (fam_nd (by decide) (by decide))) (by show 3-(i+1)<3-i;omega) ?_
    ·obtain ⟨u,hu,e⟩:=orr t ht;rw[<- e];rcases List.mem_append.1 hu with hu|hu
     ·exact hor u hu
     ·have:=zr u hu;omega
    (simp -implicitDefEqProofs only[go_sem,PN.c,iA,prA,setA,w1];repeat (refine GO ?_;simp -implicitDefEqProofs only[go_sem,PN.c,iA,prA,setA,w1]));refine ⟨by simp[famU_mem,famN_mem],.cons ?_ .nil,fam_es rfl λi hi=>fam_nms (m1:=[(5,some 5),(1000,some 3000000000)]) (by simp) hi,fam_eobs (ν:=λi=>3000000000+(i+1)) λi hi=>⟨fam_nms (m1:=[(5,some 5),(1000,some 3000000000)]) (by simp) hi,famO_row hi⟩⟩;exact Bw
 ·have h1:i=3:=by simp at h1;omega
  subst h1;refine Aa ?_;refine FINfam 1000 (λi=>2000+(i+1)) o [(10,.rf 0 0 o.length),(11,iA 0)] (es:=famC 2000 o) (fam_nd (l:=[1000]) (by decide) (by decide)) Ag rfl (λi hi=>by (simp -implicitDefEqProofs only[go_sem];repeat (refine GO ?_;simp -implicitDefEqProofs only[go_sem]));exact famL_get hi) ?_ ?_
  ·exact A8
  ·exact ⟨o,⟨⟨0,rfl,hR _ _ ⟨rfl,rfl⟩⟩,rfl⟩,rfl⟩
def insOf (x:PN):List Int:=if x.kind=1 then [] else if x.kind=4\/x.kind=5\/x.kind=6 then [x.a,x.b] else [x.a]
def boolsA (l:List Bool):AV:=.im 1 (l.map λb=>[bA b])
def hangE (t:Int) (h:List Bool) (x:PN):Bool:=decide (x.kind=1/\x.table=t)||(insOf x).any λk=>(h[k.toNat]?).getD false
def hangs (t:Int) (l:List PN):List Bool:=l.foldl (λh x=>h++[hangE t h x]) []
theorem hangs_step {t:Int} {l:List PN} {i:Nat} (hi:i<l.length):hangs t (l.take (i+1))=hangs t (l.take i)++[hangE t (hangs t (l.take i)) l[i]]:=by rw[List.take_succ_eq_append_getElem hi];simp only[hangs,List.foldl_append];rfl
theorem hangs_len (t:Int):∀(l:List PN),(hangs t l).length=l.length:=by
 have key:∀(l:List PN) (h:List Bool),(l.foldl (λh x=>h++[hangE t h x]) h).length=h.length+l.length:=by
  intro l
  induction l with
  | nil=>intro h;rfl
  | cons x r ih=>intro h;rw[List.foldl_cons,ih];simp;omega
 intro l;have:=key l [];simpa [hangs] using this
theorem ints_two (a b:Int):(Ob.mk 1 [[iA a],[iA b]]).leafy:=by rw[leafy_do];simp[leafs2,leafs,iA,AV.leaf]
theorem ints_one (a:Int):(Ob.mk 1 [[iA a]]).leafy:=by rw[leafy_do];simp[leafs2,leafs,iA,AV.leaf]
theorem u163 (x:PN):Spec0 Tryz.prog 163 [.ag x.c] (·=intsL (insOf x)):=by
 refine spec0_of_vc tabOk elems ord163 Tryz.func163 rfl (rl:=[.tmp 2]) rfl (by kernel_rfl) rfl ?_;refine Av ?_;have two:x.kind=4\/x.kind=5\/x.kind=6->insOf x=[x.a,x.b]:=λh=>by simp only[insOf];rw[if_neg (by omega),if_pos h]
 refine VIF.split (λh1=>?_) (λh1=>?_)
 ·have h1:x.kind=1:=(by simpa using h1);refine Aw ?_;refine TO [] [(2,intsL [])] [] [] rfl ?_ ?_
  ·refine A5 ?_;exact ⟨id,rfl⟩
  ·refine Hf ?_;rw[if_pos h1];exact ⟨rfl,rfl⟩
 ·have h1:x.kind≠1:=(by simpa using h1);refine Ab ?_;by_cases h:x.kind=4\/x.kind=5\/x.kind=6
  ·have fin:∀s:St,0∉s.used->s.regs 2=.rf 15 0 2->s.objs 15=some ⟨1,[[iA x.a],[iA x.b]]⟩ -> GOES (λst=>hRes T st [.tmp 2] λv=>v.noId=true/\v=intsL (insOf x)) s:=by
    intro s e0 e1 e2;refine TO [] [(2,intsL [x.a,x.b])] [] [] rfl ?_ ?_
    ·(simp -implicitDefEqProofs only[go_sem,e1,intsL];repeat (refine GO ?_;simp -implicitDefEqProofs only[go_sem,e1,intsL]));exact ⟨λh=>absurd h e0,by decide,_,e2,ints_two _ _,rfl,rfl⟩
    ·refine Aa ?_;rw[two h];exact ⟨rfl,rfl⟩
   rcases h with h|h|h
   ·refine VIF.t ?_;refine Ab ?_;refine VIF.t ?_;refine B8 ?_;exact fin _ (by simp) Ae Aj
   ·refine VIF.f ?_;refine Ab ?_;refine VIF.t ?_;refine Ab ?_;refine VIF.t ?_;refine B8 ?_;exact fin _ (by simp) Ae Aj
   ·refine VIF.f ?_;refine Ab ?_;refine VIF.f ?_;refine Ab ?_;refine VIF.t ?_;refine B8 ?_;exact fin _ (by simp) Ae Aj
  ·refine VIF.f ?_;refine Ab ?_;refine VIF.f ?_;refine Ab ?_;refine VIF.f ?_;refine B8 ?_;refine GO ?_;refine B8 ?_;refine TO [] [(2,intsL [x.a])] [] [] rfl ?_ ?_
   ·refine A5 ?_;exact ⟨id,by decide,_,rfl,ints_one _,rfl,rfl⟩
   ·refine Hf ?_;rw[if_neg h1,if_neg h];exact ⟨rfl,rfl⟩
theorem u164 (h:List Bool) (k:Int) (h0:0<=k) (h1:k<h.length):Spec0 Tryz.prog 164 [iA k,.ro [boolsA h] 0] (·=bA ((h[k.toNat]?).getD false)):=by refine spec0_of_vc tabOk elems ord164 Tryz.func164 rfl (rl:=[.tmp 3]) rfl (by kernel_rfl) rfl ?_;(simp -implicitDefEqProofs only[go_sem,boolsA,iA];repeat (refine GO ?_;simp -implicitDefEqProofs only[go_sem,boolsA,iA]));refine ⟨h0,EL.map (show k.toNat<h.length by omega) ?_⟩;refine Aa ?_;rw[List.getElem?_eq_getElem (by omega)];exact ⟨rfl,rfl⟩
def cO (l:List PN) (F:List (List Int)) (ty:List Int) (tb:AV) (now:List (List It)) (d s:Int) (touch:AV):Ob:=
 ⟨9,[[plA l,formsA F,intsL ty,tb,setsA now,.pr (.int .u32 d),.pr (.int .i32 s),.pr (.int .u32 0),touch]]⟩
def touchA (F:List (List Int)) (l:List PN) (n:Nat):AV:=.im 1 ((List.range n).map λ(t:Nat)=>[boolsA (hangs t l)])
def boO (h:List Bool):Ob:=⟨1,h.map λb=>[bA b]⟩
def toO (l:List PN) (n:Nat):Ob:=⟨1,(List.range n).map λ(t:Nat)=>[boolsA (hangs t l)]⟩
def ciO (c t:Ob):Nat->Option Ob:=mkO [(0,c),(1,t)]
theorem kept_b (o:Ob):∀i,upd noOb 0 (some o) i≠none->i=0:=λi h=>by
 simp only[upd] at h;split at h
 ·rename_i e;exact e.symm
 ·exact absurd rfl h
theorem toO_leafy (l:List PN) (n:Nat):(toO l n).leafy:=by rw[toO,leafy_do];exact leafs2_map λt _=>by simp[leafs,boolsA,AV.leaf]
theorem boO_leafy (h:List Bool):(boO h).leafy:=by rw[boO,leafy_do];exact leafs2_map λt _=>by simp[leafs,bA,AV.leaf]
theorem FINb {T:Nat->Go.Vc.TI} {l:List ResultVar} {K:AV->(Nat->Option Ob)->Prop} {st:St} {o:Ob} (m:List (Nat×Option Nat)) (rl:List (Nat×AV)) (ol:List (Nat×Ob)) (ul:List Nat) (hm:nmOk m ul=true)
 (h:(0∈st.used->0∈ul)/\ents st m rl/\eobs st m ol) (k:hRes T (mkS rl ol ul) l λv=>K v (mkO ol)):FIN T (upd noOb 0 (some o)) l K st:=by
 have he:Ent st (mkS rl ol ul):=ent_to m rfl hm h;refine ⟨_,λF n a w hF R=>he F n a w (λi hi=>?_) R,k⟩;rw[hF] at hi;exact kept_b o i hi
theorem Es_cast {st:St} {m:List (Nat×Option Nat)} {a b c:List (List AV)} (h:a=b) (k:Es st m b c):Es st m a c:=h▸k
theorem to_snoc (l:List PN) (t:Nat):List.take t ((List.range t).map λ(t:Nat)=>[boolsA (hangs t l)])++[[boolsA (hangs t l)]]=(List.range (t+1)).map λ(t:Nat)=>[boolsA (hangs t l)]:=by rw[List.range_succ,List.take_of_length_le (by simp)];simp
theorem bo_snoc {l:List PN} {t:Int} {i:Nat} (h:i<l.length) (hl:(hangs t (l.take i)).length=i):List.take i ((hangs t (l.take i)).map λb=>[bA b])++[[bA (hangE t (hangs t (l.take i)) l[i])]]=(hangs t (l.take (i+1))).map λb=>[bA b]:=by rw[hangs_step h,List.take_of_length_le (by simp[hl])];simp
theorem u117 (l:List PN) (F:List (List Int)) (ty:List Int) (now:List (List It)) (tn:Nat) (to:Ob) (hto:to.leafy) (hl:l.length<=268435456) (hF:F.length<=268435456) (hi:∀i (h:i<l.length),∀k∈insOf l[i],0<=k/\k<i) :
 FunSpecD Tryz.prog 117 [.pt 0 0 0] (upd noOb 0 (some (cO l F ty (.rf 1 0 tn) now 0 1 .nl))) (ciO (cO l F ty (.rf 1 0 tn) now 0 1 .nl) to) [0,1] λr O'=>r=.tu []/\O'=ciO (cO l F ty (.rf 1 0 tn) now 0 1 (touchA F l F.length)) to:=by
 refine funspecD_of_vc tabOk elems og117 Tryz.func117 rfl (rl:=[]) rfl (by kernel_rfl) rfl (kept_b _) ?_;refine Fa ?_;refine LOOP.mk (ι:={t:Nat//t<=F.length}) (λp=>mkS [(0,.pt 0 0 0),(11,iA F.length),(12,iA p.1)] [(0,cO l F ty (.rf 1 0 tn) now 0 1 (.rf 1001 0 p.1)),(1,to),(1001,toO l p.1)] [0,1,1001]) (λp=>F.length-p.1) ⟨0,Nat.zero_le _⟩ [(0,some 0),(1,some 1),(1001,none)] rfl rfl ?_ (λp=>?_)
 ·refine C2 ?_;refine ⟨rfl,.cons ?_ .nil,.same to _ _ hto rfl,rfl⟩;exact Bw
 obtain ⟨t,ht⟩:=p;refine C2 ?_;refine VIF.split (λh1=>?_) (λh1=>?_)
 ·have h1:t<F.length:=(by simpa using h1);refine Ab ?_;refine LOOP.mk (ι:={i:Nat//i<=l.length}) (λp=>mkS [(0,.pt 0 0 0),(2,iA t),(3,.pt 3 0 0),(11,iA F.length),(12,iA t),(18,plA l),(19,iA l.length),(20,iA p.1)] [(0,cO l F ty (.rf 1 0 tn) now 0 1 (.rf 1001 0 t)),(1,to),(3,⟨1,[[.rf 1002 0 p.1]]⟩),(1001,toO l t),(1002,boO (hangs t (l.take p.1)))] [0,1,3,1001,1002]) (λp=>l.length-p.1) ⟨0,Nat.zero_le _⟩ [(0,some 0),(1,some 1),(3,some 3),(1001,some 1001),(1002,none)] rfl rfl ?_ (λp=>?_)
  ·refine C2 ?_;refine ⟨λ_=>trivial,rfl,.cons ?_ .nil,.same to _ _ hto rfl,.cons ?_ .nil,.same (toO l t) _ _ (toO_leafy l t) rfl,rfl⟩
   ·exact Bw
   ·exact Ag
  obtain ⟨i,hi'⟩:=p;(simp -implicitDefEqProofs only[go_sem,boO,cO,formsA,iA,plA,setsA,toO];repeat (refine GO ?_;simp -implicitDefEqProofs only[go_sem,boO,cO,formsA,iA,plA,setsA,toO]));refine VIF.split (λh2=>?_) (λh2=>?_)
  ·have h2:i<l.length:=(by simpa using h2);refine Ab ?_;refine EL.map h2 ?_;refine Av ?_;have w1:=wrap_add1 (show i<4611686018427387904 by omega);have hlen:(hangs t (l.take i)).length=i:=by rw[hangs_len];simp;omega
   have hst:=hangs_step (t:=(t:Int)) h2;have hil:(insOf l[i]).length<4611686018427387904:=by
    simp only[insOf];split
    ·simp
    ·split<;>simp
   refine VIF.split (λh3=>?_) (λh3=>?_)
   ·have h3:l[i].kind=1:=(by simpa using h3);refine Ab ?_;refine VIF.split (λh4=>?_) (λh4=>?_)
    ·have h4:l[i].table=t:=(by simpa using h4);refine Ab ?_;refine ⟨by omega,BACK.mk ⟨i+1,by omega⟩ [(0,some 0),(1,some 1),(3,some 3),(1001,some 1001),(1002,some 42)] rfl rfl (by show l.length-(i+1)<l.length-i;omega) ?_⟩;have hE:hangE (t:Int) (hangs t (l.take i)) l[i]=true:=(by simp[hangE,h3,h4]);have hb:=bo_snoc h2 hlen;rw[hE] at hb;refine Cy ?_;refine ⟨λ_=>trivial,.cons ?_ .nil,.same to _ _ hto rfl,.cons ?_ .nil,.same (toO l t) _ _ (toO_leafy l t) rfl,?_⟩
     ·exact Bw
     ·exact Ag
     ·exact Es_cast hb (.same (boO (hangs t (l.take (i+1)))) _ _ (boO_leafy _) rfl)
    ·have h4:¬l[i].table=t:=(by simpa using h4);refine Ab ?_;refine .pure _ (show Spec0 Tryz.prog 163 [.ag l[i].c] _ from u163 l[i]) rfl λq hq _=>?_;subst hq;refine Aa ?_;refine .lendTo (c102 164 [.ro [boolsA (hangs t (l.take i))] 0] rfl (λk=>((hangs t (l.take i))[k.toNat]?).getD false) (insOf l[i]) (λk hk=>u164 _ k (hi i h2 k hk).1 (by rw[hlen];exact (hi i h2 k hk).2)) hil) ?_ (by rintro _ rfl;rfl) λq hq=>?_
     ·refine Gc ?_;exact ⟨by rw[List.take_of_length_le (by simp[hlen])],leafs2_map λb _=>by simp[leafs,bA,AV.leaf]⟩
     subst hq;refine Cp ?_;refine ⟨by omega,BACK.mk ⟨i+1,by omega⟩ [(0,some 0),(1,some 1),(3,some 3),(1001,some 1001),(1002,some 42)] rfl rfl (by show l.length-(i+1)<l.length-i;omega) ?_⟩;have hE:hangE (t:Int) (hangs t (l.take i)) l[i]=(insOf l[i]).any λk=>((hangs t (l.take i))[k.toNat]?).getD false:=(by simp[hangE,h3,h4]);have hb:=bo_snoc h2 hlen;rw[hE] at hb;refine Cy ?_;refine ⟨λ_=>trivial,.cons ?_ .nil,.same to _ _ hto rfl,.cons ?_ .nil,.same (toO l t) _ _ (toO_leafy l t) rfl,?_⟩
     ·exact Bw
     ·exact Ag
     ·exact Es_cast hb (.same (boO (hangs t (l.take (i+1)))) _ _ (boO_leafy _) rfl)
   ·have h3:¬l[i].kind=1:=(by simpa using h3);refine Ab ?_;refine .pure _ (show Spec0 Tryz.prog 163 [.ag l[i].c] _ from u163 l[i]) rfl λq hq _=>?_;subst hq;refine Aa ?_;refine .lendTo (c102 164 [.ro [boolsA (hangs t (l.take i))] 0] rfl (λk=>((hangs t (l.take i))[k.toNat]?).getD false) (insOf l[i]) (λk hk=>u164 _ k (hi i h2 k hk).1 (by rw[hlen];exact (hi i h2 k hk).2)) hil) ?_ (by rintro _ rfl;rfl) λq hq=>?_
    ·refine Gc ?_;exact ⟨by rw[List.take_of_length_le (by simp[hlen])],leafs2_map λb _=>by simp[leafs,bA,AV.leaf]⟩
    subst hq;refine Cp ?_;refine ⟨by omega,BACK.mk ⟨i+1,by omega⟩ [(0,some 0),(1,some 1),(3,some 3),(1001,some 1001),(1002,some 42)] rfl rfl (by show l.length-(i+1)<l.length-i;omega) ?_⟩;have hE:hangE (t:Int) (hangs t (l.take i)) l[i]=(insOf l[i]).any λk=>((hangs t (l.take i))[k.toNat]?).getD false:=(by simp[hangE,h3]);have hb:=bo_snoc h2 hlen;rw[hE] at hb;refine Cy ?_;refine ⟨λ_=>trivial,.cons ?_ .nil,.same to _ _ hto rfl,.cons ?_ .nil,.same (toO l t) _ _ (toO_leafy l t) rfl,?_⟩
    ·exact Bw
    ·exact Ag
    ·exact Es_cast hb (.same (boO (hangs t (l.take (i+1)))) _ _ (boO_leafy _) rfl)
  ·have h2:i=l.length:=by simp at h2;omega
   subst h2;rw[List.take_length];refine TO [(0,some 0),(1,some 1),(3,some 3),(1001,some 1001)] [(0,.pt 0 0 0),(3,.pt 3 0 0),(11,iA F.length),(12,iA t)] [(0,cO l F ty (.rf 1 0 tn) now 0 1 (.rf 1001 0 t)),(1,to),(3,⟨1,[[boolsA (hangs t l)]]⟩),(1001,toO l t)] [0,1,3,1001] rfl ?_ ?_
   ·simp -implicitDefEqProofs only[go_sem,boO,cO,formsA,iA,plA,setsA,toO];refine ⟨.cons ?_ .nil,.same to _ _ hto rfl,.cons ?_ .nil,.same (toO l t) _ _ (toO_leafy l t) rfl⟩
    ·exact Bw
    ·simp -implicitDefEqProofs only[go_sem,boolsA];exact ⟨by decide,_,rfl,boO_leafy (hangs t l),rfl,List.take_of_length_le (by simp[boO,hangs_len])⟩
   have w1:=wrap_add1 (show t<4611686018427387904 by omega);(simp -implicitDefEqProofs only[go_sem,boolsA,cO,iA,toO,w1];repeat (refine GO ?_;simp -implicitDefEqProofs only[go_sem,boolsA,cO,iA,toO,w1]));refine ⟨by omega,BACK.mk ⟨t+1,by omega⟩ [(0,some 0),(1,some 1),(1001,some 51)] rfl rfl (by show F.length-(t+1)<F.length-t;omega) ?_⟩;refine Cy ?_;refine ⟨λ_=>trivial,.cons ?_ .nil,.same to _ _ hto rfl,Es_cast (to_snoc l t) (.same (toO l (t+1)) _ _ (toO_leafy l (t+1)) (by simp only[List.range_succ]))⟩;exact Bw
 ·have h1:t=F.length:=by simp at h1;omega
  subst h1;refine Aw ?_;refine FINb [(0,some 0),(1,some 1)] [] [(0,cO l F ty (.rf 1 0 tn) now 0 1 (touchA F l F.length)),(1,to)] [0,1] rfl ?_ ?_
  ·refine C2 ?_;refine ⟨.cons ?_ .nil,.same to _ _ hto rfl⟩;simp -implicitDefEqProofs only[go_sem,intsL,touchA];exact ⟨by decide,_,rfl,toO_leafy l F.length,rfl,List.take_of_length_le (by simp)⟩
  ·refine Aw ?_;rfl
structure DelOk (F:List (List Int)) (D:List Nd) (S M:List (List It)) (dz:List It) (x:PN):Prop where
 look:lookE F D x=0
 len:D.length<=S.length/\D.length<=M.length
 dz:dz.length<=268435456/\∀t∈dz,t.row.length<1073741824
 s:∀z∈S,z.length<=25000000/\∀t∈z,t.row.length<1073741824
 m:∀z∈M,z.length<=50000000/\∀t∈z,t.row.length<1073741824
 join:x.kind=4->JSz (setAt S x.a) (setAt M x.a) (setAt S x.b) (setAt M x.b)
 cl:x.cols.length<1073741824/\x.others.length<1073741824
theorem mz {D:List Nd} {Z:List (List It)} {k:Int} {N:Nat} (h1:D.length<=Z.length) (h2:∀z∈Z,z.length<=N/\∀t∈z,t.row.length<1073741824) (hk:inC k D.length=true) :
 ∃hk:k.toNat<Z.length,0<=k/\k<Z.length/\setAt Z k=Z[k.toNat]'hk/\(Z[k.toNat]'hk).length<=N/\∀t∈Z[k.toNat]'hk,t.row.length<1073741824:=by
 simp only[inC,Bool.and_eq_true,decide_eq_true_eq] at hk;have hk2:k.toNat<Z.length:=by omega
 exact ⟨hk2,hk.1,by omega,setAt_eq hk2,h2 _ (List.getElem_mem hk2)⟩
theorem f118 (F:List (List Int)) (D:List Nd) (S M:List (List It)) (dz:List It) (x:PN) (c0 c1 c2 c3 c5 c6 c7 c8:AV) (h:DelOk F D S M dz x) (hM:∀k,inC k D.length=true->Good (setAt M k)) :
 SpecF Tryz.prog 118 [.ro [c0,c1,c2,c3,setsA S,c5,c6,c7,c8] 0,.ag x.c,setsA M,setA dz] (λr out=>∃err:Int,r=.tu [.rf 0 0 out.length,iA err]/\DelR x S M dz out err):=by
 have hlook:=h.look
 have fin:∀(out:List It) (e:Int) (s:St),s.objs 100000=some ⟨2,famC 100000 out⟩ -> (∀i (hi:i<out.length),s.objs (100000+(i+1))=some (ro3 out[i].row))->s.regs 8=.rf 100000 0 out.length->s.regs 9=iA e->DelR x S M dz out e ->
  FIN T noOb [.tmp 8,.tmp 9] (λr O'=>∃z,((∃err:Int,r=.tu [.rf 0 0 z.length,iA err]/\DelR x S M dz z err)/\r.only0=true)/\O'=famF z) s:=by
  intro out e s h1 h2 h6 h7 hn;refine FINfam 100000 (λi=>100000+(i+1)) out [(8,.rf 0 0 out.length),(9,iA e)] (es:=famC 100000 out) (fam_nd (l:=[100000]) (by decide) (by decide)) h1 rfl h2 ?_ ?_
  ·simp -implicitDefEqProofs only[go_sem,h6,h7,iA]
  ·exact ⟨out,⟨⟨e,rfl,hn⟩,rfl⟩,rfl⟩
 refine funspecD_of_vc tabOk elems og118 Tryz.func118 rfl (rl:=[.tmp 8,.tmp 9]) rfl (by kernel_rfl) rfl (λ_ h=>absurd rfl h) ?_;refine Az ?_;refine VIF.split (λk1=>?_) (λk1=>?_)
 ·have k1:x.kind=1:=(by simpa using k1);have n2:¬x.kind=2:=(by omega);have n3:¬x.kind=3:=(by omega);have n4:¬x.kind=4:=(by omega);have n5:¬x.kind=5:=(by omega);have n6:¬x.kind=6:=(by omega);have n7:¬x.kind=7:=(by omega);have n8:¬x.kind=8:=(by omega);refine Aa ?_;refine CALL.fam (show SpecF Tryz.prog 88 [setA dz] _ from f83 dz h.dz.1 h.dz.2) rfl 100000 (by simp) λq out hq=>?_;obtain ⟨rfl,rfl⟩:=hq;refine Ax ?_;exact fin out 0 _ Ae (λi hi=>by simp -implicitDefEqProofs only[go_sem];exact famO_row hi) Ae Aj (by simp only[DelR,n2,n3,n4,n5,n6,n7,n8,k1,if_true,if_false,Int.reduceEq];trivial)
 have k1:x.kind≠1:=by simpa using k1
 refine Az ?_;refine VIF.split (λk2=>?_) (λk2=>?_)
 ·have k2:x.kind=2:=(by simpa using k2);have n1:¬x.kind=1:=(by omega);have n3:¬x.kind=3:=(by omega);have n4:¬x.kind=4:=(by omega);have n5:¬x.kind=5:=(by omega);have n6:¬x.kind=6:=(by omega);have n7:¬x.kind=7:=(by omega);have n8:¬x.kind=8:=(by omega);have hl:filtE D x=0:=(by simpa only[lookE,n1,n3,n4,n5,n6,n7,n8,k2,if_true,if_false,or_false,false_or,or_self,true_or,or_true,reduceCtorEq,Int.reduceEq,Int.reduceNe] using hlook);have hia:=filtE_ok hl;obtain ⟨hma,ma0,ma1,ema,lma,rma⟩:=mz h.len.2 h.m hia;refine Az ?_;refine ⟨ma0,EL.map hma ?_⟩;refine Az ?_;refine CALL.fam (show SpecF Tryz.prog 40 [setA (M[x.a.toNat]'hma),.ag x.pred.c] _ from f51 (M[x.a.toNat]'hma) x.pred (by omega) rma) rfl 100000 (by simp) λq out hq=>?_;obtain ⟨e,rfl,hq⟩:=hq;have hg:=hM _ hia;rw[ema] at hg;obtain ⟨rfl,rfl⟩:=filt_ok hg hq;refine Ax ?_;exact fin ((M[x.a.toNat]'hma).filter λt=>holdsP x.pred t.row) 0 _ Ae (λi hi=>by simp -implicitDefEqProofs only[go_sem];exact famO_row hi) Ae Aj (by simp only[DelR,n1,n3,n4,n5,n6,n7,n8,k2,if_true,if_false,Int.reduceEq];rw[ema];exact ⟨rfl,trivial⟩)
 have k2:x.kind≠2:=by simpa using k2
 refine Az ?_;refine VIF.split (λk3=>?_) (λk3=>?_)
 ·have k3:x.kind=3:=(by simpa using k3);have n1:¬x.kind=1:=(by omega);have n2:¬x.kind=2:=(by omega);have n4:¬x.kind=4:=(by omega);have n5:¬x.kind=5:=(by omega);have n6:¬x.kind=6:=(by omega);have n7:¬x.kind=7:=(by omega);have n8:¬x.kind=8:=(by omega);have hl:projE x D=0:=(by simpa only[lookE,n1,n2,n4,n5,n6,n7,n8,k3,if_true,if_false,or_false,false_or,or_self,true_or,or_true,reduceCtorEq,Int.reduceEq,Int.reduceNe] using hlook);obtain ⟨hia,_,_⟩:=projE_ok hl;obtain ⟨hma,ma0,ma1,ema,lma,rma⟩:=mz h.len.2 h.m hia;refine Az ?_;refine ⟨ma0,EL.map hma ?_⟩;refine Az ?_;refine CALL.fam (show SpecF Tryz.prog 41 [setA (M[x.a.toNat]'hma),intsL x.cols] _ from f49 (M[x.a.toNat]'hma) x.cols (by omega) rma h.cl.1) rfl 100000 (by simp) λq out hq=>?_;obtain ⟨e,rfl,hq⟩:=hq;refine Ax ?_;exact fin out e _ Ae (λi hi=>by simp -implicitDefEqProofs only[go_sem];exact famO_row hi) Ae Aj (by simp only[DelR,n1,n2,n4,n5,n6,n7,n8,k3,if_true,if_false,Int.reduceEq];rw[ema];exact hq)
 have k3:x.kind≠3:=by simpa using k3
 refine Az ?_;refine VIF.split (λk4=>?_) (λk4=>?_)
 ·have k4:x.kind=4:=(by simpa using k4);have n1:¬x.kind=1:=(by omega);have n2:¬x.kind=2:=(by omega);have n3:¬x.kind=3:=(by omega);have n5:¬x.kind=5:=(by omega);have n6:¬x.kind=6:=(by omega);have n7:¬x.kind=7:=(by omega);have n8:¬x.kind=8:=(by omega);have hl:joinE x D=0:=(by simpa only[lookE,n1,n2,n3,n5,n6,n7,n8,k4,if_true,if_false,or_false,false_or,or_self,true_or,or_true,reduceCtorEq,Int.reduceEq,Int.reduceNe] using hlook);obtain ⟨hia,hib,_,_,_⟩:=joinE_ok hl;obtain ⟨hsa,sa0,sa1,esa,lsa,rsa⟩:=mz h.len.1 h.s hia;obtain ⟨hma,ma0,ma1,ema,lma,rma⟩:=mz h.len.2 h.m hia;obtain ⟨hsb,sb0,sb1,esb,lsb,rsb⟩:=mz h.len.1 h.s hib;obtain ⟨hmb,mb0,mb1,emb,lmb,rmb⟩:=mz h.len.2 h.m hib;refine Az ?_;refine ⟨sa0,EL.map hsa ?_⟩;refine Az ?_;refine ⟨ma0,EL.map hma ?_⟩;refine Az ?_;refine ⟨sb0,EL.map hsb ?_⟩;refine Az ?_;refine ⟨mb0,EL.map hmb ?_⟩;refine Az ?_;refine CALL.fam (show SpecF Tryz.prog 165 [.ag x.c,setA (S[x.a.toNat]'hsa),setA (M[x.a.toNat]'hma),setA (S[x.b.toNat]'hsb),setA (M[x.b.toNat]'hmb)] _ from f165 x (S[x.a.toNat]'hsa) (M[x.a.toNat]'hma) (S[x.b.toNat]'hsb) (M[x.b.toNat]'hmb) h.cl.1 h.cl.2 (by have:=h.join k4;rw[esa,ema,esb,emb] at this;exact this)) rfl 100000 (by simp) λq out hq=>?_;obtain ⟨e,rfl,hq⟩:=hq;refine Ax ?_;exact fin out e _ Ae (λi hi=>by simp -implicitDefEqProofs only[go_sem];exact famO_row hi) Ae Aj (by simp only[DelR,n1,n2,n3,n5,n6,n7,n8,k4,if_true,if_false,Int.reduceEq];rw[esa,ema,esb,emb];exact hq)
 have k4:x.kind≠4:=by simpa using k4
 refine Az ?_;refine VIF.split (λk5=>?_) (λk5=>?_)
 ·have k5:x.kind=5:=(by simpa using k5);have n1:¬x.kind=1:=(by omega);have n2:¬x.kind=2:=(by omega);have n3:¬x.kind=3:=(by omega);have n4:¬x.kind=4:=(by omega);have n6:¬x.kind=6:=(by omega);have n7:¬x.kind=7:=(by omega);have n8:¬x.kind=8:=(by omega);have hl:bothE x D=0:=(by simpa only[lookE,n1,n2,n3,n4,n6,n7,n8,k5,if_true,if_false,or_false,false_or,or_self,true_or,or_true,reduceCtorEq,Int.reduceEq,Int.reduceNe] using hlook);obtain ⟨hia,hib,_,_⟩:=bothE_ok hl;obtain ⟨hma,ma0,ma1,ema,lma,rma⟩:=mz h.len.2 h.m hia;obtain ⟨hmb,mb0,mb1,emb,lmb,rmb⟩:=mz h.len.2 h.m hib;refine Az ?_;refine ⟨ma0,EL.map hma ?_⟩;refine Az ?_;refine ⟨mb0,EL.map hmb ?_⟩;refine Az ?_;refine CALL.fam (show SpecF Tryz.prog 43 [setA (M[x.a.toNat]'hma),setA (M[x.b.toNat]'hmb)] _ from f54 (M[x.a.toNat]'hma) (M[x.b.toNat]'hmb) (by omega) rma rmb) rfl 100000 (by simp) λq out hq=>?_;obtain ⟨e,rfl,hq⟩:=hq;refine Ax ?_;exact fin out e _ Ae (λi hi=>by simp -implicitDefEqProofs only[go_sem];exact famO_row hi) Ae Aj (by simp only[DelR,n1,n2,n3,n4,n6,n7,n8,k5,if_true,if_false,Int.reduceEq];rw[ema,emb];exact hq)
 have k5:x.kind≠5:=by simpa using k5
 refine Az ?_;refine VIF.split (λk6=>?_) (λk6=>?_)
 ·have k6:x.kind=6:=(by simpa using k6);have n1:¬x.kind=1:=(by omega);have n2:¬x.kind=2:=(by omega);have n3:¬x.kind=3:=(by omega);have n4:¬x.kind=4:=(by omega);have n5:¬x.kind=5:=(by omega);have n7:¬x.kind=7:=(by omega);have n8:¬x.kind=8:=(by omega);have hl:bothE x D=0:=(by simpa only[lookE,n1,n2,n3,n4,n5,n7,n8,k6,if_true,if_false,or_false,false_or,or_self,true_or,or_true,reduceCtorEq,Int.reduceEq,Int.reduceNe] using hlook);obtain ⟨hia,hib,_,_⟩:=bothE_ok hl;obtain ⟨hma,ma0,ma1,ema,lma,rma⟩:=mz h.len.2 h.m hia;obtain ⟨hmb,mb0,mb1,emb,lmb,rmb⟩:=mz h.len.2 h.m hib;refine Az ?_;refine ⟨ma0,EL.map hma ?_⟩;refine Az ?_;refine ⟨mb0,EL.map hmb ?_⟩;refine Az ?_;refine CALL.fam (show SpecF Tryz.prog 44 [setA (M[x.a.toNat]'hma),setA (M[x.b.toNat]'hmb)] _ from f55 (M[x.a.toNat]'hma) (M[x.b.toNat]'hmb) (by omega) rma rmb) rfl 100000 (by simp) λq out hq=>?_;obtain ⟨e,rfl,hq⟩:=hq;refine Ax ?_;exact fin out e _ Ae (λi hi=>by simp -implicitDefEqProofs only[go_sem];exact famO_row hi) Ae Aj (by simp only[DelR,n1,n2,n3,n4,n5,n7,n8,k6,if_true,if_false,Int.reduceEq];rw[ema,emb];exact hq)
 have k6:x.kind≠6:=by simpa using k6
 refine Az ?_;refine VIF.split (λk7=>?_) (λk7=>?_)
 ·have k7:x.kind=7:=(by simpa using k7);have n1:¬x.kind=1:=(by omega);have n2:¬x.kind=2:=(by omega);have n3:¬x.kind=3:=(by omega);have n4:¬x.kind=4:=(by omega);have n5:¬x.kind=5:=(by omega);have n6:¬x.kind=6:=(by omega);have n8:¬x.kind=8:=(by omega);have hl:distE D x=0:=(by simpa only[lookE,n1,n2,n3,n4,n5,n6,n8,k7,if_true,if_false,or_false,false_or,or_self,true_or,or_true,reduceCtorEq,Int.reduceEq,Int.reduceNe] using hlook);have hia:=distE_ok hl;obtain ⟨hsa,sa0,sa1,esa,lsa,rsa⟩:=mz h.len.1 h.s hia;obtain ⟨hma,ma0,ma1,ema,lma,rma⟩:=mz h.len.2 h.m hia;refine Az ?_;refine ⟨sa0,EL.map hsa ?_⟩;refine Az ?_;refine ⟨ma0,EL.map hma ?_⟩;refine Az ?_;refine CALL.fam (show SpecF Tryz.prog 166 [setA (S[x.a.toNat]'hsa),setA (M[x.a.toNat]'hma)] _ from f166 (S[x.a.toNat]'hsa) (M[x.a.toNat]'hma) (by omega) rsa rma) rfl 100000 (by simp) λq out hq=>?_;obtain ⟨e,rfl,hq⟩:=hq;refine Ax ?_;exact fin out e _ Ae (λi hi=>by simp -implicitDefEqProofs only[go_sem];exact famO_row hi) Ae Aj (by simp only[DelR,n1,n2,n3,n4,n5,n6,n8,k7,if_true,if_false,Int.reduceEq];rw[esa,ema];exact hq)
 have k7:x.kind≠7:=by simpa using k7
 refine Az ?_;have k8:x.kind=8:=by
  simp only[lookE,k1,k2,k3,k4,k5,k6,k7,if_false,or_self] at hlook;split at hlook
  ·assumption
  ·cases hlook
 have n1:¬x.kind=1:=by omega
 have n2:¬x.kind=2:=by omega
 have n3:¬x.kind=3:=by omega
 have n4:¬x.kind=4:=by omega
 have n5:¬x.kind=5:=by omega
 have n6:¬x.kind=6:=by omega
 have n7:¬x.kind=7:=by omega
 have hl:grpE x D=0:=by simpa only[lookE,n1,n2,n3,n4,n5,n6,n7,k8,if_true,if_false,or_false,false_or,or_self,true_or,or_true,reduceCtorEq,Int.reduceEq,Int.reduceNe] using hlook
 obtain ⟨hia,_,_,_,_,_,_⟩:=grpE_ok hl;obtain ⟨hsa,sa0,sa1,esa,lsa,rsa⟩:=mz h.len.1 h.s hia;obtain ⟨hma,ma0,ma1,ema,lma,rma⟩:=mz h.len.2 h.m hia;refine Az ?_;refine ⟨sa0,EL.map hsa ?_⟩;refine Az ?_;refine ⟨ma0,EL.map hma ?_⟩;refine Az ?_;refine CALL.fam (show SpecF Tryz.prog 167 [setA (S[x.a.toNat]'hsa),setA (M[x.a.toNat]'hma),intsL x.cols,iA x.agg,iA x.col] _ from f167 (S[x.a.toNat]'hsa) (M[x.a.toNat]'hma) x.cols x.agg x.col (by omega) rsa rma h.cl.1) rfl 100000 (by simp) λq out hq=>?_;obtain ⟨e,rfl,hq⟩:=hq;refine Ax ?_;exact fin out e _ Ae (λi hi=>by simp -implicitDefEqProofs only[go_sem];exact famO_row hi) Ae Aj (by simp only[DelR,n1,n2,n3,n4,n5,n6,n7,k8,if_true,if_false,Int.reduceEq];rw[esa,ema];exact hq)
theorem nodeR_congr {x:PN} {S S' tabs tabs':List (List It)} {o:List It} (h1:x.kind=1->setAt tabs x.table=setAt tabs' x.table) (ha:x.kind≠1->setAt S x.a=setAt S' x.a)
 (hb:x.kind=4\/x.kind=5\/x.kind=6->setAt S x.b=setAt S' x.b) (h:NodeR x S tabs o):NodeR x S' tabs' o:=by
 simp only[NodeR] at h ⊢;by_cases k1:x.kind=1
 ·rw[if_pos k1] at h ⊢;rw[<- h1 k1];exact h
 rw[if_neg k1] at h ⊢;rw[<- ha k1];by_cases kb:x.kind=4\/x.kind=5\/x.kind=6
 ·rw[<- hb kb];exact h
 ·have k4:¬x.kind=4:=λe=>kb (.inl e);have k5:¬x.kind=5:=λe=>kb (.inr (.inl e));have k6:¬x.kind=6:=λe=>kb (.inr (.inr e));simp only[k4,k5,k6,if_false] at h ⊢;exact h
theorem delR_congr {x:PN} {S S' D D':List (List It)} {dz o:List It} {e:Int} (ha:x.kind≠1->setAt S x.a=setAt S' x.a/\setAt D x.a=setAt D' x.a)
 (hb:x.kind=4\/x.kind=5\/x.kind=6->setAt S x.b=setAt S' x.b/\setAt D x.b=setAt D' x.b) (h:DelR x S D dz o e):DelR x S' D' dz o e:=by
 simp only[DelR] at h ⊢;by_cases k1:x.kind=1
 ·rw[if_pos k1] at h ⊢;exact h
 rw[if_neg k1] at h ⊢;rw[<- (ha k1).1,<- (ha k1).2];by_cases kb:x.kind=4\/x.kind=5\/x.kind=6
 ·rw[<- (hb kb).1,<- (hb kb).2];exact h
 ·have k4:¬x.kind=4:=λe=>kb (.inl e);have k5:¬x.kind=5:=λe=>kb (.inr (.inl e));have k6:¬x.kind=6:=λe=>kb (.inr (.inr e));simp only[k4,k5,k6,if_false] at h ⊢;exact h
theorem planD_pre (F:List (List Int)):∀(b:List PN) (D:List Nd),(planD F b D).1=0->∃T,(planD F b D).2=D++T
 | [],D,_=>⟨[],by simp[planD]⟩
 | x::b,D,h=>by
   simp only[planD] at h ⊢;split at h
   ·rename_i e;obtain ⟨T,hT⟩:=planD_pre F b _ h;rw[if_pos e];exact ⟨lookN F D x::T,by rw[hT];simp⟩
   ·rename_i e;exact absurd h e
theorem look_ins {F:List (List Int)} {D:List Nd} {x:PN} (h:lookE F D x=0):(x.kind=1->inC x.table F.length=true)/\(x.kind≠1->inC x.a D.length=true)/\(x.kind=4\/x.kind=5\/x.kind=6->inC x.b D.length=true):=by
 simp only[lookE] at h;by_cases k1:x.kind=1
 ·rw[if_pos k1] at h;exact ⟨λ_=>scanE_ok h,λe=>absurd k1 e,λe=>by omega⟩
 rw[if_neg k1] at h;by_cases k2:x.kind=2
 ·rw[if_pos k2] at h;exact ⟨λe=>absurd e k1,λ_=>filtE_ok h,λe=>by omega⟩
 rw[if_neg k2] at h;by_cases k3:x.kind=3
 ·rw[if_pos k3] at h;exact ⟨λe=>absurd e k1,λ_=>(projE_ok h).1,λe=>by omega⟩
 rw[if_neg k3] at h;by_cases k4:x.kind=4
 ·rw[if_pos k4] at h;exact ⟨λe=>absurd e k1,λ_=>(joinE_ok h).1,λ_=>(joinE_ok h).2.1⟩
 rw[if_neg k4] at h;by_cases k5:x.kind=5\/x.kind=6
 ·rw[if_pos k5] at h;exact ⟨λe=>absurd e k1,λ_=>(bothE_ok h).1,λ_=>(bothE_ok h).2.1⟩
 rw[if_neg k5] at h;have nb:¬(x.kind=4\/x.kind=5\/x.kind=6):=by omega
 by_cases k7:x.kind=7
 ·rw[if_pos k7] at h;exact ⟨λe=>absurd e k1,λ_=>distE_ok h,λe=>absurd e nb⟩
 rw[if_neg k7] at h;split at h
 ·exact ⟨λe=>absurd e k1,λ_=>(grpE_ok h).1,λe=>absurd e nb⟩
 ·cases h
theorem look_insOf {F:List (List Int)} {D:List Nd} {x:PN} (h:lookE F D x=0):∀k∈insOf x,inC k D.length=true:=by
 obtain ⟨_,h2,h3⟩:=look_ins h;intro k hk;simp only[insOf] at hk;split at hk
 ·cases hk
 rename_i k1;split at hk
 ·rename_i kb;rcases List.mem_cons.1 hk with rfl|hk
  ·exact h2 k1
  ·rw[List.mem_singleton.1 hk];exact h3 kb
 ·rw[List.mem_singleton.1 hk];exact h2 k1
theorem plan_ins {F:List (List Int)} {l:List PN} (hp:planE F l=0):∀i (h:i<l.length),∀k∈insOf l[i],0<=k/\k<i:=by intro i h k hk;obtain ⟨_,_,_,hp⟩:=planE_ok hp;have h1:=look_insOf (planD_step hp h).1 k hk;rw[ndsTo_len hp (by omega)] at h1;simpa [inC] using h1
theorem hangs_pre (t:Int):∀(b:List PN) (h:List Bool),∃T,b.foldl (λh x=>h++[hangE t h x]) h=h++T
 | [],h=>⟨[],by simp⟩
 | x::b,h=>by
   obtain ⟨T,hT⟩:=hangs_pre t b (h++[hangE t h x]);exact ⟨hangE t h x::T,by rw[List.foldl_cons,hT];simp⟩
theorem hangs_at {t:Int} {l:List PN} {i m:Nat} (hm:i<m) (hl:m<=l.length):(hangs t (l.take m))[i]?=(hangs t l)[i]?:=by
 obtain ⟨T,hT⟩:=hangs_pre t (l.drop m) (hangs t (l.take m));have:hangs t l=hangs t (l.take m)++T:=by rw[<- hT];simp only[hangs];rw[<- List.foldl_append,List.take_append_drop]
 rw[this,List.getElem?_append_left];rw[hangs_len,List.length_take];omega
theorem hangs_get {t:Int} {l:List PN} {i:Nat} (hi:i<l.length):(hangs t l)[i]?=some (hangE t (hangs t (l.take i)) l[i]):=by rw[<- hangs_at (m:=i+1) (by omega) (by omega),hangs_step hi,List.getElem?_append_right (by rw[hangs_len,List.length_take];omega)];rw[hangs_len,List.length_take];simp[Nat.min_eq_left (Nat.le_of_lt hi)]
theorem setAt_app {S:List (List It)} {z:List It} {k:Int} (h0:0<=k) (h:k<S.length):setAt (S++[z]) k=setAt S k:=by simp only[setAt];rw[List.getElem?_append_left (by omega)]
theorem setAt_last {S:List (List It)} {z:List It}:setAt (S++[z]) (S.length:Int)=z:=by simp[setAt]
theorem setAt_tk {S:List (List It)} {i:Nat} {k:Int} (h0:0<=k) (h:k<i):setAt (S.take i) k=setAt S k:=by simp only[setAt];rw[List.getElem?_take,if_pos (by omega)]
theorem good_nil:Good []:=λi h=>absurd h (by simp)
theorem dlt_nil {z:List It}:Dlt z z []:=⟨good_nil,λr=>by simp[tot]⟩
theorem dlt_nil_eq {S S':List It} (h:Dlt S S' []) (g:Good S) (g':Good S'):S=S':=good_eq g g' λr=>by have:=h.tot r;simp[tot] at this ⊢;omega
structure CirP (F:List (List Int)) (l:List PN) (tabs S:List (List It)):Prop where
 plan:planE F l=0
 tb:TabsE F tabs
 ran:Ran F l tabs l.length S
structure Mid (F:List (List Int)) (l:List PN) (tabs' S:List (List It)) (t:Int) (i:Nat) (N M:List (List It)):Prop where
 ran:Ran F l tabs' i N
 len:M.length=i
 dlt:∀k:Int,inC k i=true->Dlt (setAt S k) (setAt N k) (setAt M k)
 idle:∀k:Int,inC k i=true->((hangs t l)[k.toNat]?).getD false=false->setAt M k=[]
theorem inC_ok {k n:Int}:inC k n=true ↔ 0<=k/\k<n:=by simp[inC]
theorem Mid.start (F:List (List Int)) (l:List PN) (tabs' S:List (List It)) (t:Int):Mid F l tabs' S t 0 [] []:=
 ⟨Ran.start F l tabs',rfl,λk h=>by rw[inC_ok] at h;omega,λk h=>by rw[inC_ok] at h;omega⟩
section
variable {F:List (List Int)} {l:List PN} {tabs tabs' S N M Mx:List (List It)} {t:Int} {i:Nat} {dz:List It}
theorem CirP.sub (c:CirP F l tabs S) (hi:i<=l.length):Sets (S.take i) (ndsTo F l i):=by
 obtain ⟨hF,_,_,hp⟩:=planE_ok c.plan;refine ⟨by rw[List.length_take,c.ran.len,ndsTo_len hp hi];exact Nat.min_eq_left hi,λj h1 h2=>?_,ndsTo_bd hF hp i hi⟩;have h3:j<S.length:=by rw[List.length_take] at h1;omega
 have h4:j<(ndsTo F l l.length).length:=by rw[ndsTo_len hp (Nat.le_refl _),<- c.ran.len];exact h3
 have e:=c.ran.sets.nds j h3 h4;rw[List.getElem_take];obtain ⟨T,hT⟩:∃T,ndsTo F l l.length=ndsTo F l i++T:=by have:=planD_app F (l.take i) (l.drop i) [] (planD_take hp i);rw[List.take_append_drop] at this;obtain ⟨T,hT⟩:=planD_pre F (l.drop i) (planD F (l.take i) []).2 (by rw[<- this];exact hp);exact ⟨T,by simp only[ndsTo,planN,List.take_length];rw[this,hT]⟩
 have e2:(ndsTo F l l.length)[j]?=(ndsTo F l i)[j]?:=by rw[hT,List.getElem?_append_left h2]
 rw[List.getElem?_eq_getElem h4,List.getElem?_eq_getElem h2] at e2;rw[<- Option.some.inj e2];exact e
theorem Mid.hung (c:CirP F l tabs S) (ht':TabsE F tabs') (hdz:Dlt (setAt tabs t) (setAt tabs' t) dz) (m:Mid F l tabs' S t i N M) (hi:i<l.length) (hS:i<S.length) (hh:((hangs t l)[i]?).getD false=true)
 (hx:∀k:Int,inC k i=true->setAt Mx k=setAt M k) {d:List It} {err:Int} (hd:DelR l[i] S Mx dz d err) :
 err=0/\∀new e,AddR S[i] d new e->e=0/\Mid F l tabs' S t (i+1) (N++[new]) (M++[d]):=by
 obtain ⟨hF,_,_,hp⟩:=planE_ok c.plan;obtain ⟨g1,g2⟩:=planD_step hp hi;have hD:=ndsTo_len hp (i:=i) (by omega);obtain ⟨i1,i2,i3⟩:=look_ins g1;rw[hD] at i2 i3;have tk:∀{k:Int},inC k i=true->setAt S k=setAt (S.take i) k:=λ{k} hk=>by rw[inC_ok] at hk;exact (setAt_tk hk.1 hk.2).symm
 have hd':DelR l[i] (S.take i) M dz d err:=delR_congr (λk=>⟨tk (i2 k),hx _ (i2 k)⟩) (λk=>⟨tk (i3 k),hx _ (i3 k)⟩) hd;have hn:=c.ran.nodes i hi hS;rw[hangs_get hi] at hh;obtain ⟨e0,hg,key⟩:=node_delta (D:=ndsTo F l i) (S:=S.take i) (S':=N) (tabs:=tabs) (tabs':=tabs') hF g1 c.tb ht' (c.sub (by omega)) m.ran.sets (λk hk=>by rw[hD] at hk;rw[<- tk hk];exact m.dlt k hk) (λk1=>by
  have:l[i].table=t:=by simp only[hangE,insOf,k1,if_true,List.any_nil,Bool.or_false,Option.getD_some,decide_eq_true_eq,true_and] at hh;exact hh
  rw[this];exact hdz) hn hd'
 refine ⟨e0,λnew e ha=>?_⟩;obtain ⟨e1,h1,h2⟩:=key new e ha;have hl:(N.length:Int)=i:=by rw[m.ran.len]
 have hl':(M.length:Int)=i:=by rw[m.len]
 refine ⟨e1,m.ran.step hF hp ht' hi h1,by simp[m.len],λk hk=>?_,λk hk hh2=>?_⟩
 ·rw[inC_ok] at hk;by_cases e:k=i
  ·subst e;rw[<- hl,setAt_last,hl,<- hl',setAt_last,hl'];rw[setAt_eq (show (i:Int).toNat<S.length by simpa using hS)];simpa using h2
  ·have hk':inC k i=true:=inC_ok.2 ⟨hk.1,by omega⟩;rw[setAt_app hk.1 (by omega),setAt_app hk.1 (by omega)];exact m.dlt k hk'
 ·rw[inC_ok] at hk;by_cases e:k=i
  ·subst e;rw[Int.toNat_natCast,hangs_get hi] at hh2;rw[hh2] at hh;cases hh
  ·rw[setAt_app hk.1 (by omega)];exact m.idle k (inC_ok.2 ⟨hk.1,by omega⟩) hh2
theorem Mid.still (c:CirP F l tabs S) (ht':TabsE F tabs') (hoth:∀k:Int,inC k F.length=true->k≠t->setAt tabs k=setAt tabs' k) (m:Mid F l tabs' S t i N M) (hi:i<l.length) (hS:i<S.length) (hh:((hangs t l)[i]?).getD false=false) :
 Mid F l tabs' S t (i+1) (N++[S[i]]) (M++[[]]):=by
 obtain ⟨hF,_,_,hp⟩:=planE_ok c.plan;obtain ⟨g1,g2⟩:=planD_step hp hi;have hD:=ndsTo_len hp (i:=i) (by omega);obtain ⟨i1,i2,i3⟩:=look_ins g1;rw[hD] at i2 i3;have hn:=c.ran.nodes i hi hS;rw[hangs_get hi,Option.getD_some] at hh;simp only[hangE,Bool.or_eq_false_iff,decide_eq_false_iff_not,List.any_eq_false] at hh;obtain ⟨hh1,hh2⟩:=hh;have same:∀k,inC k i=true->k∈insOf l[i]->setAt (S.take i) k=setAt N k:=λk hk hin=>by
  have h3:=hh2 k hin;rw[inC_ok] at hk;rw[hangs_at (by omega) (by omega)] at h3;have h4:=m.dlt k (inC_ok.2 hk);rw[m.idle k (inC_ok.2 hk) (by simpa using h3)] at h4;rw[setAt_tk hk.1 hk.2];have hk2:inC k (ndsTo F l i).length=true:=by rw[hD];exact inC_ok.2 hk
  refine dlt_nil_eq h4 ?_ (m.ran.sets.at hk2).1.good;have:=((c.sub (show i<=l.length by omega)).at hk2).1.good
  rwa [setAt_tk hk.1 hk.2] at this
 have hn':NodeR l[i] N tabs' S[i]:=nodeR_congr (λk1=>hoth _ (i1 k1) λe=>hh1 ⟨k1,e⟩) (λk=>same _ (i2 k) (by simp only[insOf];rw[if_neg k];split<;>simp)) (λk=>same _ (i3 k) (by simp only[insOf];rw[if_neg (by omega),if_pos k];simp)) hn;have hl:(N.length:Int)=i:=by rw[m.ran.len]
 have hl':(M.length:Int)=i:=by rw[m.len]
 refine ⟨m.ran.step hF hp ht' hi hn',by simp[m.len],λk hk=>?_,λk hk hh2=>?_⟩
 ·rw[inC_ok] at hk;by_cases e:k=i
  ·subst e;rw[<- hl,setAt_last,hl,<- hl',setAt_last,hl'];rw[setAt_eq (show (i:Int).toNat<S.length by simpa using hS)];simpa using dlt_nil
  ·have hk':inC k i=true:=inC_ok.2 ⟨hk.1,by omega⟩;rw[setAt_app hk.1 (by omega),setAt_app hk.1 (by omega)];exact m.dlt k hk'
 ·rw[inC_ok] at hk;by_cases e:k=i
  ·subst e;rw[<- hl',setAt_last]
  ·rw[setAt_app hk.1 (by omega)];exact m.idle k (inC_ok.2 ⟨hk.1,by omega⟩) hh2
theorem rowA_in {R:List Nat} {K N:Nat} {k:Int} (h:∀n∈R,n<=N) (hk:inC k R.length=true):rowA_ R K k<=N:=by rw[rowA_,if_pos hk];rw[inC_ok] at hk;rw[List.getElem?_eq_getElem (show k.toNat<R.length by omega)];exact h _ (List.getElem_mem _)
theorem Mid.len_le {K:Nat} (c:CirP F l tabs S) (ht':TabsE F tabs') (hz:EvSz F l tabs K) (hz':EvSz F l tabs' K) (m:Mid F l tabs' S t i N M) (hi:i<=l.length) (k:Int) (hk:inC k i=true) :
 (setAt S k).length<=rowA_ (rowsTo K l i) K k/\(setAt M k).length<=rowA_ (rowsTo K l i) K k+rowA_ (rowsTo K l i) K k/\(∀t∈setAt S k,t.row.length<=12)/\(∀t∈setAt M k,t.row.length<=12)/\rowA_ (rowsTo K l i) K k<=25000000/\Good (setAt S k):=by
 obtain ⟨hF,_,_,hp⟩:=planE_ok c.plan;have hD:=ndsTo_len hp (i:=i) hi;have hk0:=inC_ok.1 hk;have f1:=c.ran.few (Nat.le_refl _) hp c.tb (λz hz2=>(hz.rows z hz2).1) i hi;have f2:=m.ran.few hi hp ht' (λz hz2=>(hz'.rows z hz2).1) i (Nat.le_refl _);rw[List.take_of_length_le (by rw[m.ran.len];omega)] at f2;have h1:(setAt S k).length<=rowA_ (rowsTo K l i) K k:=by rw[<- setAt_tk hk0.1 hk0.2];exact f1.at K (by rw[List.length_take,c.ran.len,Nat.min_eq_left hi];exact hk)
 have h2:(setAt N k).length<=rowA_ (rowsTo K l i) K k:=f2.at K (by rw[m.ran.len];exact hk);have n1:=(c.sub hi).at (k:=k) (by rw[hD];exact hk);rw[setAt_tk hk0.1 hk0.2] at n1;have n2:=m.ran.sets.at (k:=k) (by rw[hD];exact hk);obtain ⟨d1,d2⟩:=(m.dlt k hk).nds n1.1 n2.1;refine ⟨h1,by omega,λt ht=>?_,λt ht=>?_,?_,n1.1.good⟩
 ·have:=n1.1.row t ht;have:=n1.2.tl;omega
 ·have h5:=d1.row t ht;have:=n1.2.tl;simp only at h5;omega
 ·refine rowA_in (λn hn=>hz.few n (rowsTo_mem hn)) ?_;rw[rowsTo_len hi];exact hk
theorem setAt_pad {M:List (List It)} {n:Nat} {k:Int} (h0:0<=k) (h:k<M.length):setAt (M++nilS n) k=setAt M k:=by simp only[setAt];rw[List.getElem?_append_left (by omega)]
theorem mem_setAt {z:List It} {M:List (List It)} (h:z∈M):∃k:Nat,k<M.length/\setAt M (k:Int)=z:=by obtain ⟨k,hk,rfl⟩:=List.mem_iff_getElem.1 h;exact ⟨k,hk,by rw[setAt_eq (by simpa using hk)];simp⟩
theorem Mid.ok {K:Nat} (c:CirP F l tabs S) (ht':TabsE F tabs') (hz:EvSz F l tabs K) (hz':EvSz F l tabs' K) (m:Mid F l tabs' S t i N M) (hi:i<l.length) (hdz:dz.length<=268435456/\∀t∈dz,t.row.length<1073741824) :
 DelOk F (ndsTo F l i) S (M++nilS (l.length-i)) dz l[i]/\∀k,inC k (ndsTo F l i).length=true->Good (setAt (M++nilS (l.length-i)) k):=by
 obtain ⟨hF,_,_,hp⟩:=planE_ok c.plan;obtain ⟨g1,g2⟩:=planD_step hp hi;have hD:=ndsTo_len hp (i:=i) (by omega);obtain ⟨i1,i2,i3⟩:=look_ins g1;rw[hD] at i2 i3;have hml:∀{k:Int},inC k i=true->setAt (M++nilS (l.length-i)) k=setAt M k:=λ{k} hk=>by rw[inC_ok] at hk;exact setAt_pad hk.1 (by rw[m.len];exact hk.2)
 refine ⟨⟨g1,⟨by rw[hD];have:=c.ran.len;omega,by rw[hD,List.length_append,m.len];omega⟩,hdz,λz hz2=>?_,λz hz2=>?_,λk4=>?_,hz.pl.cl _ (List.getElem_mem hi)⟩,λk hk=>by rw[hD] at hk;rw[hml hk];exact (m.dlt k hk).good⟩
 ·obtain ⟨k,hk,rfl⟩:=mem_setAt hz2;have hl:=hz.out ⟨c.plan,c.tb⟩ c.ran k hk;have hk2:k<(ndsTo F l l.length).length:=by rw[ndsTo_len hp (Nat.le_refl _),<- c.ran.len];exact hk
  rw[setAt_eq (by simpa using hk)];simp only[Int.toNat_natCast];refine ⟨hl,λt ht=>?_⟩;have:=(c.ran.sets.nds k hk hk2).row t ht;have:=(c.ran.sets.ndb _ (List.getElem_mem hk2)).tl;omega
 ·rcases List.mem_append.1 hz2 with hz2|hz2
  ·obtain ⟨k,hk,rfl⟩:=mem_setAt hz2;obtain ⟨q1,q2,q3,q4,q5,_⟩:=m.len_le c ht' hz hz' (by omega) k (inC_ok.2 ⟨by omega,by rw[m.len] at hk;omega⟩);exact ⟨by omega,λt ht=>by have:=q4 t ht;omega⟩
  ·rw[nilS_rows _ z hz2];simp
 ·have ia:=i2 (by omega);have ib:=i3 (.inl k4);rw[hml ia,hml ib];obtain ⟨a1,a2,a3,a4,a5,_⟩:=m.len_le c ht' hz hz' (by omega) _ ia;obtain ⟨b1,b2,b3,b4,b5,_⟩:=m.len_le c ht' hz hz' (by omega) _ ib;have hab:rowA_ (rowsTo K l i) K l[i].a*rowA_ (rowsTo K l i) K l[i].b<=25000000:=by
   refine hz.few _ (rowsTo_mem (i:=i+1) ?_);rw[rowsTo_step hi];refine List.mem_append_right _ ?_;rw[rowsN,if_neg (by omega),if_pos k4];simp
  generalize rowA_ (rowsTo K l i) K l[i].a=A at a1 a2 a5 hab;generalize rowA_ (rowsTo K l i) K l[i].b=B at b1 b2 b5 hab;have p1:=Nat.mul_le_mul a2 b1;have p2:=Nat.mul_le_mul a1 b2;have p3:=Nat.mul_le_mul a2 b2;simp only[Nat.add_mul,Nat.mul_add] at p1 p2 p3;have ra:∀t∈setAt S l[i].a,t.row.length<1073741824:=λt ht=>by have:=a3 t ht;omega
  have rb:∀t∈setAt S l[i].b,t.row.length<1073741824:=λt ht=>by have:=b3 t ht;omega
  have ra':∀t∈setAt M l[i].a,t.row.length<1073741824:=λt ht=>by have:=a4 t ht;omega
  have rb':∀t∈setAt M l[i].b,t.row.length<1073741824:=λt ht=>by have:=b4 t ht;omega
  refine ⟨λj hj hj2=>?_,λp hp=>?_⟩
  ·have:j=0\/j=1:=(by omega);rcases this with rfl|rfl
   ·show (setAt M l[i].a).length*(setAt S l[i].b).length<=_;omega
   ·show (setAt S l[i].a).length*(setAt M l[i].b).length<=_;omega
  ·simp only[prJ,List.mem_cons,List.not_mem_nil,or_false] at hp;rcases hp with rfl|rfl|rfl
   ·exact ⟨by simp only;omega,by simp only;omega,by simp only;omega,ra',rb⟩
   ·exact ⟨by simp only;omega,by simp only;omega,by simp only;omega,ra,rb'⟩
   ·exact ⟨by simp only;omega,by simp only;omega,by simp only;omega,ra',rb'⟩
end
/-! A fresh circuit. -/
theorem made_nil:Made []:=⟨.nil,by simp⟩
theorem makeR_nil:MakeR [] [] 0:=.inr (.inr ⟨rfl,rfl,made_nil,λ_=>rfl,by simp,Nat.le_refl _⟩)
theorem setAt_nilS (n:Nat) (k:Int):setAt (nilS n) k=[]:=by
 simp only[setAt];cases h:(nilS n)[k.toNat]? with
 | none=>rfl
 | some z=>exact nilS_rows n z (List.mem_of_getElem? h)
theorem node_nil {F:List (List Int)} {D:List Nd} {x:PN} {n m:Nat} (h:lookE F D x=0):NodeR x (nilS n) (nilS m) []:=by
 simp only[lookE] at h;simp only[NodeR,setAt_nilS];by_cases k1:x.kind=1
 ·rw[if_pos k1];trivial
 rw[if_neg k1] at h ⊢;by_cases k2:x.kind=2
 ·rw[if_pos k2];rfl
 rw[if_neg k2] at h ⊢;by_cases k3:x.kind=3
 ·rw[if_pos k3];exact .inr (.inr ⟨good_nil,by simp,makeR_nil⟩)
 rw[if_neg k3] at h ⊢;by_cases k4:x.kind=4
 ·rw[if_pos k4] at h ⊢;obtain ⟨_,_,h3,_⟩:=joinE_ok h;exact .inr (.inr (.inr ⟨good_nil,good_nil,h3,rfl,by simp[pairL],makeR_nil⟩))
 rw[if_neg k4] at h ⊢;by_cases k5:x.kind=5
 ·rw[if_pos k5];exact .inr ⟨good_nil,good_nil,makeR_nil⟩
 rw[if_neg k5];by_cases k6:x.kind=6
 ·rw[if_pos k6];exact .inr ⟨good_nil,good_nil,makeR_nil⟩
 rw[if_neg k6];rw[if_neg (show ¬(x.kind=5\/x.kind=6) by omega)] at h;by_cases k7:x.kind=7
 ·rw[if_pos k7];rfl
 rw[if_neg k7] at h ⊢;split at h
 ·obtain ⟨_,hk,_,hc,_⟩:=grpE_ok h;exact .inr ⟨⟨good_nil,hk.1,hk.2,hc,by simp⟩,[],GpI.nil _,Nat.le_refl _,.inr ⟨by simp,makeR_nil⟩⟩
 ·cases h
theorem tabs_nil (F:List (List Int)):TabsE F (nilS F.length):=by refine ⟨by simp[nilS],λi h h2=>?_⟩;have:(nilS F.length)[i]=[]:=nilS_rows _ _ (List.getElem_mem h2);rw[this];exact ⟨good_nil,by simp,rfl⟩
theorem cir_new {F:List (List Int)} {l:List PN} (hp:planE F l=0):CirP F l (nilS F.length) (nilS l.length):=by
 obtain ⟨hF,_,_,hd⟩:=planE_ok hp;refine ⟨hp,tabs_nil F,?_⟩;have key:∀i,i<=l.length->Ran F l (nilS F.length) i (nilS i):=by
  intro i
  induction i with
  | zero=>exact λ_=>Ran.start F l _
  | succ i ih=>
    intro hi;have:=(ih (by omega)).step hF hd (tabs_nil F) (by omega) (node_nil (planD_step hd (by omega)).1);rw[show nilS (i+1)=nilS i++[[]] by simp[nilS,List.replicate_succ']];exact this
 exact key _ (Nat.le_refl _)
/-! Feed. -/
def FeedTo (F:List (List Int)) (tabs:List (List It)) (t:Int) (dz next:List It):Prop:=inC t F.length=true/\AddR (setAt tabs t) dz next 0/\tabE ((F[t.toNat]?).getD []) next
def FeedR (F:List (List Int)) (l:List PN) (tabs S:List (List It)) (t:Int) (dz:List It) (tabs' S':List (List It)) (out:List It) (e:Int):Prop:=
 ((¬∃next,FeedTo F tabs t dz next)/\tabs'=tabs/\S'=S/\out=[]/\e=1) \/
 (∃next,FeedTo F tabs t dz next/\tabs'=tabs.set t.toNat next/\CirP F l tabs' S'/\Dlt (setAt S (l.length-1:Nat)) (setAt S' (l.length-1:Nat)) out/\e=0)
section
variable {F:List (List Int)} {l:List PN} {tabs S N M:List (List It)} {t:Int} {dz next:List It}
theorem FeedTo.lt (h:FeedTo F tabs t dz next) (ht:TabsE F tabs):0<=t/\t.toNat<F.length/\t.toNat<tabs.length:=by have:=inC_ok.1 h.1;rw[ht.1];omega
theorem FeedTo.at_ (h:FeedTo F tabs t dz next) (ht:TabsE F tabs):setAt (tabs.set t.toNat next) t=next:=by rw[setAt_eq (by rw[List.length_set];exact (h.lt ht).2.2)];simp
theorem FeedTo.tbs (h:FeedTo F tabs t dz next) (ht:TabsE F tabs):TabsE F (tabs.set t.toNat next):=by
 refine ⟨by rw[List.length_set];exact ht.1,λi h1 h2=>?_⟩;by_cases e:t.toNat=i
 ·subst e;have:=h.2.2;rw[List.getElem?_eq_getElem h1] at this;simpa using this
 ·rw[List.getElem_set_ne e];exact ht.2 i h1 _
theorem FeedTo.dlt (h:FeedTo F tabs t dz next) (ht:TabsE F tabs):Dlt (setAt tabs t) (setAt (tabs.set t.toNat next) t) dz:=by
 rw[h.at_ ht];rcases h.2.1 with ⟨_,_,h1⟩|⟨_,h2,h3⟩
 ·cases h1
 ·exact ⟨h2,λr=>by rw[(makeR_z h3).2,tot_append];omega⟩
theorem FeedTo.oth (h:FeedTo F tabs t dz next):∀k:Int,inC k F.length=true->k≠t->setAt tabs k=setAt (tabs.set t.toNat next) k:=λk hk e=>by have h1:=inC_ok.1 hk;have h2:=inC_ok.1 h.1;simp only[setAt];rw[List.getElem?_set_ne (by omega)]
theorem FeedTo.sz {K:Nat} (h:FeedTo F tabs t dz next) (hz:EvSz F l tabs K) (hk:(setAt tabs t).length+dz.length<=K) (hr:∀x∈dz,x.row.length<1073741824):EvSz F l (tabs.set t.toNat next) K where
 pl:=hz.pl
 big:=hz.big
 many:=by rw[List.length_set];exact hz.many
 few:=hz.few
 rows:=λz hz2=>by
  rcases List.mem_or_eq_of_mem_set hz2 with h1|rfl
  ·exact hz.rows z h1
  ·obtain ⟨q1,q2⟩:=addR_rows h.2.1;refine ⟨by omega,λx hx=>?_⟩;obtain ⟨u,hu,e⟩:=q2 x hx;rw[<- e];rcases List.mem_append.1 hu with hu|hu
   ·by_cases hlt:t.toNat<tabs.length
    ·rw[setAt_eq hlt] at hu;exact (hz.rows _ (List.getElem_mem hlt)).2 u hu
    ·rw[setAt,List.getElem?_eq_none (by omega)] at hu;cases hu
   ·have:=hr u hu;omega
theorem Mid.fin {tabs':List (List It)} (c:CirP F l tabs S) (ht':TabsE F tabs') (m:Mid F l tabs' S t l.length N M):CirP F l tabs' N/\Dlt (setAt S (l.length-1:Nat)) (setAt N (l.length-1:Nat)) (setAt M (l.length-1:Nat)):=by have h1:=(planE_ok c.plan).2.1;exact ⟨⟨c.plan,ht',m.ran⟩,m.dlt _ (inC_ok.2 ⟨by omega,by omega⟩)⟩
theorem tab_rows {f:List Int} {z:List It} (hf:f.length<=4) (h:tabE f z):z.length<=1024/\∀t∈z,t.row.length<=5:=by refine ⟨h.2.1,λt ht=>?_⟩;have:=(nd_scan h).row t ht;simp only[List.length_cons] at this;omega
theorem TabsE.rows (hF:formsE F=0) (h:TabsE F tabs):∀z∈tabs,z.length<=1024/\∀t∈z,t.row.length<=5:=λz hz=>by
 obtain ⟨i,hi,rfl⟩:=List.mem_iff_getElem.1 hz;have hi2:i<F.length:=by rw[<- h.1];exact hi
 exact tab_rows (formsE_len hF _ (List.getElem_mem hi2)).2.1 (h.2 i hi2 hi)
end
/-! How many rows a node may be more. -/
theorem setAt_all {S:List (List It)} {P:List It->Prop} (h:∀z∈S,P z) (h0:P []) (k:Int):P (setAt S k):=by
 simp only[setAt];cases e:S[k.toNat]? with
 | none=>exact h0
 | some z=>exact h z (List.mem_of_getElem? e)
def Rws (N:Nat) (z:List It):Prop:=z.length<=N/\∀t∈z,t.row.length<1073741824
theorem Rws.nil {N:Nat}:Rws N []:=⟨Nat.zero_le _,by simp⟩
theorem Rws.of {N n:Nat} {z:List It} (h:z.length<=n/\∀t∈z,t.row.length<=12) (hn:n<=N):Rws N z:=⟨Nat.le_trans h.1 hn,λt ht=>by have:=h.2 t ht;omega⟩
theorem Rws.from {N A B:Nat} {a b out:List It} (ha:Rws A a) (hb:Rws B b) (h:out.length<=a.length+b.length/\∀t∈out,∃u∈a++b,u.row=t.row) (hN:A+B<=N):Rws N out:=by
 have:=ha.1;have:=hb.1;refine ⟨by omega,λt ht=>?_⟩;obtain ⟨u,hu,e⟩:=h.2 t ht;rw[<- e];rcases List.mem_append.1 hu with hu|hu
 ·exact ha.2 u hu
 ·exact hb.2 u hu
theorem minR_rows {a b out:List It} {err:Int} (h:MinR a b out err):out.length<=a.length+b.length/\∀t∈out,∃u∈a++b,u.row=t.row:=by
 rcases h with ⟨_,rfl,_⟩|⟨_,_,h⟩
 ·simp
 ·obtain ⟨h1,h2⟩:=makeR_rows h;refine ⟨by simpa using h1,λt ht=>?_⟩;obtain ⟨u,hu,e⟩:=h2 t ht;rcases List.mem_append.1 hu with hu|hu
  ·exact ⟨u,List.mem_append_left _ hu,e⟩
  ·obtain ⟨v,hv,rfl⟩:=List.mem_map.1 hu;exact ⟨v,List.mem_append_right _ hv,e⟩
theorem Rws.dist {N:Nat} {z:List It} (h:Rws N z):Rws N (distL z):=⟨Nat.le_trans (distL_len z) h.1,distL_rows (P:=λr=>r.length<1073741824) h.2⟩
theorem delR_rows {F:List (List Int)} {D:List Nd} {S M:List (List It)} {dz out:List It} {x:PN} {err:Int} (h:DelOk F D S M dz x) (hz:dz.length<=100000000) (hd:DelR x S M dz out err):Rws 220000000 out:=by
 have sR:∀k,Rws 25000000 (setAt S k):=λk=>setAt_all (P:=Rws 25000000) h.s .nil k;have mR:∀k,Rws 50000000 (setAt M k):=λk=>setAt_all (P:=Rws 50000000) h.m .nil k;simp only[DelR] at hd;by_cases k1:x.kind=1
 ·rw[if_pos k1] at hd;obtain ⟨rfl,_⟩:=hd;exact ⟨by omega,h.dz.2⟩
 rw[if_neg k1] at hd;by_cases k2:x.kind=2
 ·rw[if_pos k2] at hd;obtain ⟨rfl,_⟩:=hd;obtain ⟨h1,h2⟩:=mR x.a;exact ⟨by have:=List.length_filter_le (λt=>holdsP x.pred t.row) (setAt M x.a);omega,λt ht=>h2 t (List.mem_filter.1 ht).1⟩
 rw[if_neg k2] at hd;by_cases k3:x.kind=3
 ·rw[if_pos k3] at hd;obtain ⟨h1,h2⟩:=projX_rows hd;have:=(mR x.a).1;have:=h.cl.1;exact ⟨by omega,λt ht=>by have:=h2 t ht;omega⟩
 rw[if_neg k3] at hd;by_cases k4:x.kind=4
 ·rw[if_pos k4] at hd;have hj:=h.join k4;have j0:=hj.p2 0 (by simp[prJ]) (by decide);have j1:=hj.p2 1 (by simp[prJ]) (by decide);have j2:=(hj.p1 _ (List.getElem_mem (show 2<(prJ (setAt S x.a) (setAt M x.a) (setAt S x.b) (setAt M x.b)).length by simp[prJ]))).1;simp only[prJ,List.getElem_cons_zero,List.getElem_cons_succ] at j0 j1 j2;obtain ⟨z1,e1,q1,hd⟩:=hd;rcases hd with ⟨_,rfl,_⟩|⟨_,o1,g1,a1,hd⟩
  ·exact .nil
  have z1r:Rws 50000000 z1:=.of (joinR_rows q1) j0;have o1r:Rws 50000000 o1:=.from (A:=0) .nil z1r (addR_rows a1) (by decide);rcases hd with ⟨_,rfl,_⟩|⟨_,z2,e2,q2,hd⟩
  ·exact .nil
  have z2r:Rws 50000000 z2:=.of (joinR_rows q2) j1;rcases hd with ⟨_,rfl,_⟩|⟨_,o2,g2,a2,hd⟩
  ·exact .nil
  have o2r:Rws 100000000 o2:=.from o1r z2r (addR_rows a2) (by decide);rcases hd with ⟨_,rfl,_⟩|⟨_,z3,e3,q3,hd⟩
  ·exact .nil
  have z3r:Rws 100000000 z3:=.of (joinR_rows q3) j2;rcases hd with ⟨_,rfl,_⟩|⟨_,hd⟩
  ·exact .nil
  exact .from o2r z3r (addR_rows hd) (by decide)
 rw[if_neg k4] at hd;by_cases k5:x.kind=5
 ·rw[if_pos k5] at hd;exact .from (mR _) (mR _) (addR_rows hd) (by decide)
 rw[if_neg k5] at hd;by_cases k6:x.kind=6
 ·rw[if_pos k6] at hd;exact .from (mR _) (mR _) (minR_rows hd) (by decide)
 rw[if_neg k6] at hd;by_cases k7:x.kind=7
 ·rw[if_pos k7] at hd;obtain ⟨now,e,a1,⟨_,rfl,_⟩|⟨_,hd⟩⟩:=hd
  ·exact .nil
  have nr:Rws 75000000 now:=.from (sR _) (mR _) (addR_rows a1) (by decide);exact .from nr.dist (sR x.a).dist (minR_rows hd) (by decide)
 rw[if_neg k7] at hd;obtain ⟨now,e,a1,⟨_,rfl,_⟩|⟨_,a,e2,g2,hd⟩⟩:=hd
 ·exact .nil
 have nr:Rws 75000000 now:=.from (sR _) (mR _) (addR_rows a1) (by decide);rcases hd with ⟨_,rfl,_⟩|⟨_,b,e3,g3,hd⟩
 ·exact .nil
 rcases hd with ⟨_,rfl,_⟩|⟨_,hd⟩
 ·exact .nil
 exact .from (.of (groupR_rows g2) nr.1) (.of (groupR_rows g3) (sR x.a).1) (minR_rows hd) (by decide)
end Yt
namespace Yt
open Go Go.Vc
end Yt
namespace Yt
open Go Go.Vc Go.Proofs
def fmO (F:List (List Int)):Ob:=⟨1,F.map λl=>[intsL l]⟩
theorem fmO_leafy (F:List (List Int)):(fmO F).leafy:=by rw[fmO,leafy_do];exact leafs2_map λx _=>by simp[leafs,intsL,AV.leaf]
theorem ob_take {α:Type} {st:St} {m:List (Nat×Option Nat)} {S:List α} {i:Nat} (g:α->List AV) (hg:∀x,∀a∈g x,a.leaf=true) (hi:i<S.length):Es st m (List.take i (List.map g (List.take i S))++[g S[i]]) (List.map g (List.take (i+1) S)):=by
 rw[List.take_of_length_le (by simp;omega),List.take_succ_eq_append_getElem hi,List.map_append];exact .same ⟨1,List.map g (List.take i S)++[g S[i]]⟩ _ _ (λx hx a ha=>by
  rcases List.mem_append.1 hx with h|h
  ·obtain ⟨y,_,rfl⟩:=List.mem_map.1 h;exact hg y a ha
  ·rw[List.mem_singleton.1 h] at ha;exact hg _ a ha) rfl
theorem f160 (l:List PN) (hl:l.length<=1073741824):Spec1 Tryz.prog 160 [plA l] (λr o=>r=.rf 0 0 l.length/\o=plO l):=by
 refine spec1_of_vc tabOk elems og160 Tryz.func160 rfl (rl:=[.tmp 2]) rfl (by kernel_rfl) rfl ?_;refine Cg ?_;refine ⟨⟨_,rfl⟩,λb hb=>?_⟩;refine VIF.split (λh=>?_) (λh=>?_)
 ·have hz:l=[]:=(by simpa using hb (by simpa using h));subst hz;refine Aa ?_;refine FINmk [(0,none)] [(2,.rf 0 0 0)] [(0,plO [])] [0] rfl ?_ ?_
  ·refine Aa ?_;simp[plO]
  ·exact ⟨plO [],⟨⟨rfl,rfl⟩,rfl⟩,plO_leafy [],rfl⟩
 ·refine Aa ?_;refine ⟨by omega,?_⟩;refine FINmk [(0,some 7)] [(2,.rf 0 0 l.length)] [(0,plO l)] [0] rfl ?_ ?_
  ·refine Hl ?_;exact .same (plO l) _ _ (plO_leafy l) rfl
  ·exact ⟨plO l,⟨⟨rfl,rfl⟩,rfl⟩,plO_leafy l,rfl⟩
theorem plO_set {l:List PN} {i:Nat} (hi:i<l.length) {c:List AV} (h:c=l[i].c):(l.map PN.c).set i c=l.map PN.c:=by
 subst h;refine List.ext_getElem (by simp) λj h1 h2=>?_;by_cases e:i=j
 ·subst e;simp
 ·rw[List.getElem_set_ne e]
theorem f114 (l:List PN) (hl:l.length<=1073741824) (hz:∀x∈l,x.cols.length<=1073741824/\x.others.length<=1073741824):Spec0 Tryz.prog 114 [plA l] (·=plA l):=by
 refine spec0_of_vc tabOk elems og114 Tryz.func114 rfl (rl:=[.tmp 2]) rfl (by kernel_rfl) rfl ?_;refine Cg ?_;refine .make 6 _ (show Spec1 Tryz.prog 160 [plA l] _ from f160 l hl) rfl (by simp) rfl λr o hq _=>?_;obtain ⟨rfl,rfl⟩:=hq;refine Hl ?_;refine LOOP.mk (ι:={i:Nat//i<=l.length}) (λp=>mkS [(3,.rf 6 0 l.length),(8,iA l.length),(9,iA p.1)] [(6,plO l)] [6]) (λp=>l.length-p.1) ⟨0,Nat.zero_le _⟩ [(6,some 6)] rfl rfl ?_ (λp=>?_)
 ·refine Gx ?_;exact ⟨id,rfl,.same (plO l) _ _ (plO_leafy l) rfl⟩
 obtain ⟨i,hi⟩:=p;refine Gx ?_;refine VIF.split (λh1=>?_) (λh1=>?_)
 ·have h1:i<l.length:=(by simpa using h1);have w1:=wrap_add1 (show i<4611686018427387904 by omega);have hh:=hz _ (List.getElem_mem h1);refine Aa ?_;refine ⟨by omega,EL.map h1 ?_⟩;refine Av ?_;refine ⟨by omega,EL.map h1 ?_⟩;refine Av ?_;refine .pure _ (show Spec0 Tryz.prog 109 [intsL l[i].cols] _ from d109z l[i].cols (by omega)) rfl λq hq _=>?_;subst hq;refine Av ?_;refine .pure _ (show Spec0 Tryz.prog 109 [intsL l[i].others] _ from d109z l[i].others (by omega)) rfl λq hq _=>?_;subst hq;have ps:=plO_set h1 (c:=l[i].c) rfl;simp only[PN.c,iA] at ps;(simp -implicitDefEqProofs only[go_sem,PN.c,iA,w1];repeat (refine GO ?_;simp -implicitDefEqProofs only[go_sem,PN.c,iA,w1]));refine ⟨by omega,EL.map h1 ?_⟩;refine F2 ?_;refine ⟨by omega,EL.map h1 ?_⟩;refine F2 ?_;refine BACK.mk ⟨i+1,by omega⟩ [(6,some 6)] rfl rfl (by show l.length-(i+1)<l.length-i;omega) ?_;(simp -implicitDefEqProofs only[go_sem,iA,plO,w1];repeat (refine GO ?_;simp -implicitDefEqProofs only[go_sem,iA,plO,w1]));exact ⟨id,.same (plO l) _ _ (plO_leafy l) rfl⟩
 ·have h1:i=l.length:=by simp at h1;omega
  subst h1;refine Aw ?_;refine GO ?_;refine Aw ?_;refine TO [] [(2,plA l)] [] [] rfl ?_ ?_
  ·simp -implicitDefEqProofs only[go_sem,plA];exact ⟨id,by simp[olds],⟨14,List.map PN.c l⟩,rfl,plO_leafy l,rfl,List.take_of_length_le (by simp)⟩
  refine Aw ?_;rfl
theorem es_doN {st:St} {m:List (Nat×Option Nat)} (n:Nat):Es st m (List.replicate n [AV.nl]) (List.map (λz=>[setA z]) (nilS n)):=es_nils n
theorem f57 (l:List PN) (F:List (List Int)) (hz:PlSz F l) (hp:planE F l=0) :
 FunSpecD Tryz.prog 57 [plA l,formsA F] noOb noOb [] λr O'=>r=.tu [.pt 0 0 0,iA 0]/\O'=ciO (cO l F (lastN F l).types (.rf 1 0 F.length) (nilS l.length) 0 0 .nl) (doO (nilS F.length)):=by
 have hfl:=hz.fl;have hll:=hz.ll;refine funspecD_of_vc tabOk elems og57 Tryz.func57 rfl (rl:=[.tmp 4,.tmp 5]) rfl (by kernel_rfl) rfl (λ_ h=>absurd rfl h) ?_;refine Cb ?_;refine .pure _ (show Spec0 Tryz.prog 52 [plA l,formsA F] _ from d52 F l hz) rfl λq hq _=>?_;obtain ⟨ty,rfl,hty,_⟩:=hq;have hty:=hty hp;subst hty;(simp -implicitDefEqProofs only[go_sem,hp,iA];repeat (refine GO ?_;simp -implicitDefEqProofs only[go_sem,hp,iA]));refine VIF.f ?_;refine Ab ?_;repeat' (first|(with_reducible refine And.intro ?_ ?_)|(with_reducible show _<_;omega)|(with_reducible show _<=_;omega)|(refine CALL.pure _ (show Spec0 Tryz.prog 114 [plA l] _ from f114 l (by omega) (λx hx=>by have:=hz.cl x hx;omega)) rfl λq hq _=>?_;subst hq;(simp -implicitDefEqProofs only[go_sem,iA,plA,setsA];repeat (refine GO ?_;simp -implicitDefEqProofs only[go_sem,iA,plA,setsA]))))
 all_goals
  refine LOOP.mk (ι:={i:Nat//i<=F.length}) (λp=>mkS [(8,.pt 30 0 0),(31,formsA F),(32,iA F.length),(33,iA p.1)] [(30,⟨9,[[plA l,.rf 1001 0 p.1,intsL (lastN F l).types,.rf 25 0 F.length,.rf 28 0 l.length,.pr (.int .u32 0),.pr (.int .i32 0),.pr (.int .u32 0),.nl]]⟩),(25,doO (nilS F.length)),(1001,fmO (F.take p.1)),(28,doO (nilS l.length))] [30,25,1001,28]) (λp=>F.length-p.1) ⟨0,Nat.zero_le _⟩ [(30,some 30),(25,some 25),(1001,none),(28,some 28)] rfl rfl ?_ (λp=>?_)
  ·(simp -implicitDefEqProofs only[go_sem,doO,fmO,formsA,iA,intsL,plA];repeat (refine GO ?_;simp -implicitDefEqProofs only[go_sem,doO,fmO,formsA,iA,intsL,plA]));refine ⟨id,rfl,.cons ?_ .nil,es_doN _,rfl,es_doN _⟩;(simp -implicitDefEqProofs only[go_sem,List.length_replicate,intsL];repeat (refine GO ?_;simp -implicitDefEqProofs only[go_sem,List.length_replicate,intsL]))
  obtain ⟨i,hi⟩:=p;(simp -implicitDefEqProofs only[go_sem,doO,fmO,formsA,iA,plA];repeat (refine GO ?_;simp -implicitDefEqProofs only[go_sem,doO,fmO,formsA,iA,plA]));refine VIF.split (λh1=>?_) (λh1=>?_)
  ·have h1:i<F.length:=(by simpa using h1);have w1:=wrap_add1 (show i<4611686018427387904 by omega);refine Ab ?_;refine EL.map h1 ?_;refine Ab ?_;refine CALL.pure _ (show Spec0 Tryz.prog 109 [intsL F[i]] _ from d109z F[i] (by have:=hz.ff _ (List.getElem_mem h1);omega)) rfl λq hq _=>?_;subst hq;refine Ba ?_;refine ⟨by omega,BACK.mk ⟨i+1,by omega⟩ [(30,some 30),(25,some 25),(1001,some 47),(28,some 28)] rfl rfl (by show F.length-(i+1)<F.length-i;omega) ?_⟩;(simp -implicitDefEqProofs only[go_sem,doO,fmO,formsA,iA,plA,w1];repeat (refine GO ?_;simp -implicitDefEqProofs only[go_sem,doO,fmO,formsA,iA,plA,w1]));refine ⟨id,.cons ?_ .nil,.same (doO (nilS F.length)) _ _ (doO_leafy _) rfl,ob_take (λl=>[intsL l]) (λx a ha=>by simp at ha;subst ha;rfl) h1,.same (doO (nilS l.length)) _ _ (doO_leafy _) rfl⟩;exact Bw
  ·have h1:i=F.length:=by simp at h1;omega
   subst h1;refine Aa ?_;refine FINmk [(0,some 30),(1,some 25)] [(4,.pt 0 0 0),(5,iA 0)] [(0,cO l F (lastN F l).types (.rf 1 0 F.length) (nilS l.length) 0 0 .nl),(1,doO (nilS F.length))] [0,1] rfl ?_ ?_
   ·refine Fb ?_;refine ⟨.cons ?_ .nil,.same (doO (nilS F.length)) _ _ (doO_leafy _) rfl⟩;refine A5 ?_;exact ⟨⟨by simp[olds],fmO F,by rw[List.take_length];rfl,fmO_leafy F,rfl,List.take_of_length_le (by simp[fmO])⟩,by simp[olds],doO (nilS l.length),rfl,doO_leafy _,rfl,List.take_of_length_le (by simp[doO,nilS])⟩
   ·refine Aw ?_;rfl
end Yt
namespace Yt
open Go Go.Proofs
theorem onDis (w:World):(callFunc 220 #[]).run Tryz.prog w=.ok (.value (.tuple #[])) w:=run_call_mark0 Tryz.func220 (by kernel_rfl) (by kernel_rfl) (by kernel_rfl) .disable (by kernel_rfl) w
theorem onEna (w:World):(callFunc 222 #[]).run Tryz.prog w=.ok (.value (.tuple #[])) w:=run_call_mark0 Tryz.func222 (by kernel_rfl) (by kernel_rfl) (by kernel_rfl) .enable (by kernel_rfl) w
theorem onAcq (a:Addr) (w:World):(callFunc 223 #[.pointer (some a)]).run Tryz.prog w=.ok (.value (.tuple #[])) w:=run_call_marked Tryz.func223 (by kernel_rfl) (by kernel_rfl) (by kernel_rfl) .acquire (by kernel_rfl) a w
theorem onRel (a:Addr) (w:World):(callFunc 225 #[.pointer (some a)]).run Tryz.prog w=.ok (.value (.tuple #[])) w:=run_call_marked Tryz.func225 (by kernel_rfl) (by kernel_rfl) (by kernel_rfl) .releaseMerge (by kernel_rfl) a w
set_option maxRecDepth 100000 in
set_option maxHeartbeats 1600000 in
theorem onStore (a:Addr) (x:Value) (u:FrameMode) (w:World) (hc:w.cell? a=some x) (hz:w.frozen? a=false) :
 CallsD Tryz.prog 198 #[.pointer (some a),.bool true] u w λe u' w'=>u'=u/\(e=.returned (.tuple #[])/\w'=w.drew.setCell a (.int .u32 1)):=by
 have hc':w.drew.cell? a=some x:=by go_simp
 have hz':w.drew.frozen? a=false:=by go_simp
 have hst:=run_call_store (P:=Tryz.prog) Tryz.func213 (by kernel_rfl) (by kernel_rfl) (by kernel_rfl) (by kernel_rfl) (k:=.u32) (y:=1) hc' hz'
 go_enter_d Tryz.func198,Tryz.ntmps198
 go_wp2
 go_region_calls
 all_goals (go_end0;exact ⟨rfl,rfl⟩)
set_option maxRecDepth 100000 in
set_option maxHeartbeats 1600000 in
theorem onUnlock (a:Addr) (u:FrameMode) (w:World) (hc:w.cell? a=some (.int .i32 1)) (hz:w.frozen? a=false) :
 CallsD Tryz.prog 197 #[.pointer (some a)] u w λe u' w'=>u'=u/\(e=.returned (.tuple #[])/\w'=w.setCell a (.int .i32 0)):=by
 have hd:=onDis;have he:=onEna;have hr:=onRel;have hadd:=run_call_add (P:=Tryz.prog) Tryz.func226 (by kernel_rfl) (by kernel_rfl) (by kernel_rfl) .i32 (by kernel_rfl) (y:=-1) (s:=0) hc hz (by simp[go_sem];rfl);have hcv:=run_convert_to_unsafe (P:=Tryz.prog) (src:=238) (dst:=242) Tryz.underlying238 Tryz.underlying242 (by kernel_rfl) hc
 go_enter_d Tryz.func197,Tryz.ntmps197
 go_wp2
 go_end0
 go_wp2
 go_end0
 exact ⟨rfl,rfl⟩
set_option maxRecDepth 100000 in
set_option maxHeartbeats 1600000 in
theorem onLock (a:Addr) (w:World) (hc:w.cell? a=some (.int .i32 0)) (hz:w.frozen? a=false) :
 Calls Tryz.prog 196 #[.pointer (some a)] w λe w'=>e=.returned (.tuple #[])/\w'=w.setCell a (.int .i32 1):=by
 have hd:=onDis;have he:=onEna;have ha:=onAcq;have hcas:=run_call_cas_hit (P:=Tryz.prog) Tryz.func221 (by kernel_rfl) (by kernel_rfl) (by kernel_rfl) .i32 (by kernel_rfl) (y:=1) hc hz;have hc':(w.setCell a (.int .i32 1)).cell? a=some (.int .i32 1):=World.cell?_setCell_same w a _ hc;have hcv:=run_convert_to_unsafe (P:=Tryz.prog) (src:=238) (dst:=242) Tryz.underlying238 Tryz.underlying242 (by kernel_rfl) hc'
 go_enter Tryz.func196,Tryz.ntmps196
 go_wp2
 first|go_end0|(simp only[Exit.inBlock,Exit.then];refine bodyPost_ret (results_none rfl _ _ _) rfl ?_)|refine bodyPost_ret (results_none rfl _ _ _) rfl ?_
 go_wp2
 go_end0
 exact ⟨rfl,rfl⟩
set_option maxRecDepth 100000 in
set_option maxHeartbeats 1600000 in
theorem onDone (a:Addr) (d:Int) (hd:¬d=0) (fv:Value) (w:World) (h0:w.cell? a=some (.int .u32 d)) :
 Calls Tryz.prog 116 #[.pointer (some a),fv] w λe w'=>e=.returned (.tuple #[])/\w'=w:=by
 have hl:=run_call_load (P:=Tryz.prog) Tryz.func195 (by kernel_rfl) (by kernel_rfl) (by kernel_rfl) .u32 (by kernel_rfl) h0;have hnot:∀(x:Bool) (w:World),(Op.unary .not (.bool x)).run Tryz.prog w=.ok (.bool (!x)) w:=λ_ _=>rfl;have hd':(d != 0)=true:=by simp[hd]
 go_enter Tryz.func116,Tryz.ntmps116
 go_wp2
 go_end0
 exact ⟨rfl,rfl⟩
set_option maxRecDepth 100000 in
set_option maxHeartbeats 1600000 in
theorem onSlow (b off:Nat) (rc:Value) (w:World) (W:World->Prop)
 (h0:w.cell? ⟨b,off,none⟩=some (.int .u32 0)) (h1:w.cell? ⟨b,off+1,none⟩=some (.int .i32 0)) (f1:w.frozen? ⟨b,off+1,none⟩=false)
 (hw:Calls Tryz.prog 117 #[rc] (w.setCell ⟨b,off+1,none⟩ (.int .i32 1)) λe w'=>e=.returned (.tuple #[])/\(w'.cell? ⟨b,off,none⟩=some (.int .u32 0)/\w'.frozen? ⟨b,off,none⟩=false/\w'.cell? ⟨b,off+1,none⟩=some (.int .i32 1)/\w'.frozen? ⟨b,off+1,none⟩=false/\W w')) :
 Calls Tryz.prog 162 #[.pointer (some ⟨b,off,none⟩),.func (.func 117) #[rc] #[]] w λe w'=>e=.returned (.tuple #[]) /\
  ∃w1,W w1/\w'=(w1.drew.setCell ⟨b,off,none⟩ (.int .u32 1)).setCell ⟨b,off+1,none⟩ (.int .i32 0):=by
 have hl:=run_call_load (P:=Tryz.prog) Tryz.func195 (by kernel_rfl) (by kernel_rfl) (by kernel_rfl) .u32 (by kernel_rfl) (w:=w.setCell ⟨b,off+1,none⟩ (.int .i32 1)) (a:=⟨b,off,none⟩) (x:=0) ((World.cell?_setCell_other _ ⟨b,off+1,none⟩ ⟨b,off,none⟩ _ (by simp)).trans h0);have hnot:∀(x:Bool) (w:World),(Op.unary .not (.bool x)).run Tryz.prog w=.ok (.bool (!x)) w:=λ_ _=>rfl
 go_enter_defers Tryz.func162,Tryz.ntmps162
 go_wp2_with (first|(go_at_call 196;refine (onLock ⟨b,off+1,none⟩ _ (by go_simp) (by go_simp)).mono ?_;rintro e w' ⟨rfl,rfl⟩)|(go_at_call 117;refine hw.mono ?_;rintro e w' ⟨rfl,g0,g1,g2,g3,gW⟩)|(go_at_call 161;go_in))
 simp only[bodyPostD];refine leaves_cons (f:=198) (args:=#[.pointer (some ⟨b,off,none⟩),.bool true]) (by simp) (by simp[go_sem]) ?_;refine (onStore ⟨b,off,none⟩ (.int .u32 0) .returning _ g0 g1).mono ?_;rintro e u' w'' ⟨rfl,rfl,rfl⟩;refine leaves_cons (f:=197) (args:=#[.pointer (some ⟨b,off+1,none⟩)]) (by simp[settle]) (by simp[go_sem]) ?_;refine (onUnlock ⟨b,off+1,none⟩ _ _ ?_ (by simp[g3])).mono ?_
 ·refine (World.cell?_setCell_other _ ⟨b,off,none⟩ ⟨b,off+1,none⟩ _ (by simp)).trans ?_;rw[World.cell?_drew];exact g2
 rintro e u' w'' ⟨rfl,rfl,rfl⟩;simp only[Leaves,settle];simp[results,Tryz.results162];exact ⟨w',gW,rfl⟩
set_option maxRecDepth 100000 in
set_option maxHeartbeats 1600000 in
theorem onFirst (b off:Nat) (rc:Value) (w:World) (W:World->Prop)
 (h0:w.cell? ⟨b,off,none⟩=some (.int .u32 0)) (h1:w.cell? ⟨b,off+1,none⟩=some (.int .i32 0)) (f1:w.frozen? ⟨b,off+1,none⟩=false)
 (hw:Calls Tryz.prog 117 #[rc] (w.setCell ⟨b,off+1,none⟩ (.int .i32 1)) λe w'=>e=.returned (.tuple #[])/\(w'.cell? ⟨b,off,none⟩=some (.int .u32 0)/\w'.frozen? ⟨b,off,none⟩=false/\w'.cell? ⟨b,off+1,none⟩=some (.int .i32 1)/\w'.frozen? ⟨b,off+1,none⟩=false/\W w')) :
 Calls Tryz.prog 116 #[.pointer (some ⟨b,off,none⟩),.func (.func 117) #[rc] #[]] w λe w'=>e=.returned (.tuple #[]) /\
  ∃w1,W w1/\w'=(w1.drew.setCell ⟨b,off,none⟩ (.int .u32 1)).setCell ⟨b,off+1,none⟩ (.int .i32 0):=by
 have hl:=run_call_load (P:=Tryz.prog) Tryz.func195 (by kernel_rfl) (by kernel_rfl) (by kernel_rfl) .u32 (by kernel_rfl) h0;have hnot:∀(x:Bool) (w:World),(Op.unary .not (.bool x)).run Tryz.prog w=.ok (.bool (!x)) w:=λ_ _=>rfl
 go_enter Tryz.func116,Tryz.ntmps116
 go_wp2_with (first|(go_at_call 162;refine (onSlow b off rc _ W h0 h1 f1 hw).mono ?_;rintro e w' ⟨rfl,gw⟩)|(go_at_call 161;go_in))
 go_end0
 exact ⟨rfl,gw⟩
end Yt
namespace Go.Vc
open Go.Proofs Yt
section
variable {F:Fr} {φ:Nat->Option (Nat×Nat)} {st:St} {w:World}
theorem get_cell (H:RepH F φ st.objs (·∈st.used) w) {id β b n j:Nat} {cs:List AV} {x:Value} (ho:st.objs id=some ⟨n,[cs]⟩) (hφ:φ id=some (β,b)) (hj:cs[j]?=some (.pr x)) :
 w.cell? ⟨β,b+j,none⟩=some x/\w.frozen? ⟨β,b+j,none⟩=false:=by
 obtain ⟨hel,c,e,fz,hb,hsoft,hfit,hc⟩:=ob_at H ho hφ;obtain ⟨v,m1,m2,m3⟩:=hc 0 j _ (by simpa [cellAt] using hj);have hv:v=x:=by cases m3 with|rd r=>cases r;rfl
 subst hv;have m1:c[b+j]?=some v:=by simpa using m1
 have hlt:=(Array.getElem?_eq_some_iff.1 hb).1;refine ⟨by simp[World.cell?,hb,m1],?_⟩;have:=hsoft (b+j) (by have:=(Array.getElem?_eq_some_iff.1 m1).1;omega);simp[World.frozen?,hb];omega
theorem put_cell (H:RepH F φ st.objs (·∈st.used) w) {id β b n j:Nat} {cs:List AV} {x:Value} (ho:st.objs id=some ⟨n,[cs]⟩) (hφ:φ id=some (β,b)) (hx:x.oneCell'=true) :
 Goes φ φ st.objs (upd st.objs id (some ⟨n,[cs.set j (.pr x)]⟩)) (·∈st.used) (·∈st.used) w (w.setCell ⟨β,b+j,none⟩ x)/\RepH F φ (upd st.objs id (some ⟨n,[cs.set j (.pr x)]⟩)) (·∈st.used) (w.setCell ⟨β,b+j,none⟩ x):=by
 obtain ⟨hel,c,e,fz,hb,hsoft,hfit,hc⟩:=ob_at H ho hφ;have hl:cs.length=n:=hel cs (by simp);refine Rep.set H ho hφ hb hsoft rfl (by simp) (c':=c.setIfInBounds (b+j) x) (by simp) (λy hy=>?_) (by simpa using hfit) (λi k av hij=>?_) (setCell_blk hb x)
 ·simp only[List.mem_singleton] at hy;subst hy;simpa using hl
 ·obtain ⟨q1,q2⟩:=cellAt_lt (sz:=n) (λy hy=>by simp only[List.mem_singleton] at hy;subst hy;simpa using hl) hij;have hi:i=0:=(by simpa using q1);subst hi;have hk:(cs.set j (.pr x))[k]?=some av:=(by simpa [cellAt] using hij);rw[List.getElem?_set] at hk;split at hk
  ·rename_i e1;subst e1;split at hk
   ·cases hk;have:b+j<c.size:=by simp at hfit;omega
    exact ⟨x,by simp[this],hx,.rd (.pr _ hx)⟩
   ·cases hk
  ·rename_i e1;obtain ⟨v,m1,m2,m3⟩:=hc 0 k av (by simpa [cellAt] using hk);refine ⟨v,?_,m2,m3⟩;rw[Array.getElem?_setIfInBounds_ne (by omega)];exact m1
theorem once_sem {objs:Nat->Option Ob} {used:List Nat} {c n:Nat} {cs:List AV} {X:AV->(Nat->Option Ob)->List Nat->Prop} (ho:objs c=some ⟨n,[cs]⟩) (h5:cs[5]?=some (.pr (.int .u32 0))) (h6:cs[6]?=some (.pr (.int .i32 0))) (hcu:c∈used)
 (hs:CallSem Tryz.prog 117 [.pt c 0 0] (upd objs c (some ⟨n,[cs.set 6 (.pr (.int .i32 1))]⟩)) used X)
 (hX:∀u O U,X u O U->u=.tu []/\∃cs',O c=some ⟨n,[cs']⟩/\cs'[5]?=some (.pr (.int .u32 0))/\cs'[6]?=some (.pr (.int .i32 1))) :
 CallSem Tryz.prog 116 [.pt c 0 5,.fn 1000000117 [.pt c 0 0]] objs used λu O U=>u=.tu []/\∃O1 cs',X u O1 U/\O1 c=some ⟨n,[cs']⟩/\O=upd O1 c (some ⟨n,[(cs'.set 5 (.pr (.int .u32 1))).set 6 (.pr (.int .i32 0))]⟩):=by
 refine ⟨⟨_,Tryz.func116,by kernel_rfl,by kernel_rfl⟩,λF φ w vs H hvs ha=>?_⟩;have hcs5:5<cs.length:=(List.getElem?_eq_some_iff.1 h5).1;obtain ⟨β,b,hφ,e0⟩:=inv_pt (st:=⟨λ_=>.un,objs,used⟩) (ha 0 _ rfl) ho;have e1:vs.getD 1 undef=.func (.func 117) #[.pointer (some ⟨β,b,none⟩)] #[]:=by
  have h:=ha 1 _ rfl;generalize hv1:vs.getD 1 undef=v1 at h;cases h with
  | rd r=>cases r
  | @fn _ arr _ hs hr=>
    obtain ⟨β',b',hφ',e⟩:=inv_pt (st:=⟨λ_=>.un,objs,used⟩) (hr 0 _ rfl) ho;rw[hφ] at hφ';cases hφ';have:arr=#[.pointer (some ⟨β,b,none⟩)]:=by
     have hs1:arr.size=1:=hs;apply Array.ext
     ·simpa using hs1
     ·intro i q1 q2;have hi:i=0:=(by omega);subst hi;have:arr.getD 0 undef=arr[0]:=(by simp[q1]);rw[<- this,e];simp
    subst this;rfl
 have hvs2:vs=#[.pointer (some ⟨β,b+5,none⟩),.func (.func 117) #[.pointer (some ⟨β,b,none⟩)] #[]]:=by
  have hs2:vs.size=2:=hvs;apply Array.ext
  ·simpa using hs2
  ·intro i q1 q2;have:vs.getD i undef=vs[i]:=(by simp[q1]);rw[<- this];have hi:i=0\/i=1:=(by omega);rcases hi with rfl|rfl
   ·rw[e0];simp
   ·rw[e1];rfl
 subst hvs2;obtain ⟨k5,_⟩:=get_cell (st:=⟨λ_=>.un,objs,used⟩) H ho hφ h5;obtain ⟨k6,f6⟩:=get_cell (st:=⟨λ_=>.un,objs,used⟩) H ho hφ h6;obtain ⟨G1,H1⟩:=put_cell (st:=⟨λ_=>.un,objs,used⟩) H (j:=6) (x:=.int .i32 1) ho hφ rfl;refine (onFirst β (b+5) (.pointer (some ⟨β,b,none⟩)) w (λw2=>∃u O U φ',X u O U/\Goes φ φ' (upd objs c (some ⟨n,[cs.set 6 (.pr (.int .i32 1))]⟩)) O (·∈used) (·∈U) (w.setCell ⟨β,b+6,none⟩ (.int .i32 1)) w2/\RepH F φ' O (·∈U) w2) k5 k6 f6 ?_).mono ?_
 ·refine (hs.2 F φ _ #[.pointer (some ⟨β,b,none⟩)] H1 rfl λj av hj=>?_).mono ?_
  ·cases j with
   | zero=>
     cases hj;exact .pt hcu ⟨_,rfl⟩ λo _=>⟨β,b,hφ,by simp⟩
   | succ j=>simp at hj
  ·rintro e w2 ⟨v,u,O,U,φ',rfl,hXu,G2,H2,rv⟩;obtain ⟨rfl,cs',hO,g5,g6⟩:=hX u O U hXu;have hv:v=.tuple #[]:=by
    cases rv with
    | rd r=>cases r
    | @tu arr _ hs hr=>rw[Array.eq_empty_of_size_eq_zero hs]
   obtain ⟨o1,_,hφ',_⟩:=G2.keeps c hcu _ hO;have hφ2:φ' c=some (β,b):=hφ'.trans hφ;obtain ⟨q5,q5'⟩:=get_cell (st:=⟨λ_=>.un,O,U⟩) H2 hO hφ2 g5;obtain ⟨q6,q6'⟩:=get_cell (st:=⟨λ_=>.un,O,U⟩) H2 hO hφ2 g6;exact ⟨by rw[hv],q5,q5',q6,q6',_,O,U,φ',hXu,G2,H2⟩
 ·rintro e w5 ⟨rfl,w2,⟨u,O,U,φ',hXu,G2,H2⟩,rfl⟩;obtain ⟨rfl,cs',hO,g5,g6⟩:=hX u O U hXu;obtain ⟨o1,_,hφ',_⟩:=G2.keeps c hcu _ hO;have hφ2:φ' c=some (β,b):=hφ'.trans hφ;have G3:Goes φ φ' (upd objs c (some ⟨n,[cs.set 6 (.pr (.int .i32 1))]⟩)) O (·∈used) (·∈U) (w.setCell ⟨β,b+6,none⟩ (.int .i32 1)) w2.drew:=⟨G2.hU,G2.keeps,G2.blocks,G2.news,G2.size⟩;have H3:RepH F φ' O (·∈U) w2.drew:=H2.of_heap rfl rfl rfl rfl;obtain ⟨G4,H4⟩:=put_cell (st:=⟨λ_=>.un,O,U⟩) H3 (j:=5) (x:=.int .u32 1) hO hφ2 rfl;obtain ⟨G5,H5⟩:=put_cell (st:=⟨λ_=>.un,upd O c _,U⟩) H4 (j:=6) (x:=.int .i32 0) (upd_eq _ _ _) hφ2 rfl;have eu:∀(x y:Option Ob),upd (upd O c x) c y=upd O c y:=λx y=>by funext i;simp only[upd];split<;>rfl
  simp only[eu] at G5 H5;exact ⟨.tuple #[],.tu [],_,U,φ',rfl,⟨rfl,O,cs',hXu,hO,rfl⟩,((G1.trans G3).trans G4).trans G5,H5,.tu rfl (by simp)⟩
theorem once_done {objs:Nat->Option Ob} {used:List Nat} {c n:Nat} {cs:List AV} {a:AV} (ho:objs c=some ⟨n,[cs]⟩) (h5:cs[5]?=some (.pr (.int .u32 1))) :
 CallSem Tryz.prog 116 [.pt c 0 5,a] objs used λu O U=>u=.tu []/\O=objs/\U=used:=by
 refine ⟨⟨_,Tryz.func116,by kernel_rfl,by kernel_rfl⟩,λF φ w vs H hvs ha=>?_⟩;obtain ⟨β,b,hφ,e0⟩:=inv_pt (st:=⟨λ_=>.un,objs,used⟩) (ha 0 _ rfl) ho;have hvs2:vs=#[.pointer (some ⟨β,b+5,none⟩),vs.getD 1 undef]:=by
  have hs2:vs.size=2:=hvs;apply Array.ext
  ·simpa using hs2
  ·intro i q1 q2;have:vs.getD i undef=vs[i]:=(by simp[q1]);rw[<- this];have hi:i=0\/i=1:=(by omega);rcases hi with rfl|rfl
   ·rw[e0];simp
   ·rfl
 rw[hvs2];obtain ⟨k5,_⟩:=get_cell (st:=⟨λ_=>.un,objs,used⟩) H ho hφ h5;refine (onDone _ 1 (by decide) _ w k5).mono ?_;rintro e w' ⟨rfl,rfl⟩;exact ⟨.tuple #[],.tu [],objs,used,φ,rfl,⟨rfl,rfl,rfl⟩,⟨λi h=>h,λi _=>Keeps.refl _ _ _ i,λ_ _ _=>rfl,λi o' β b h1 h2=>.inl ⟨i,o',b,h1,h2⟩,Nat.le_refl _⟩,H,.tu rfl (by simp)⟩
end
end Go.Vc
namespace Yt
open Go Go.Vc Go.Proofs
theorem ciO_0 (c t:Ob):ciO c t 0=some c:=by simp[ciO,mkO,upd]
theorem ciO_1 (c t:Ob):ciO c t 1=some t:=by simp[ciO,mkO,upd]
theorem ciO_s (c t:Ob) (n:Nat) (h:2<=n):ciO c t n=none:=by simp only[ciO,mkO,upd];rw[if_neg (by omega),if_neg (by omega)];rfl
theorem ciO_kept (c t:Ob):kept true (ciO c t)=upd noOb 0 (some c):=by
 funext i
 by_cases h:i=0
 ·subst h;simp[kept,ciO_0,upd]
 ·simp[kept,h,upd,noOb];omega
def AV.still (a:AV):Prop:=∀ρ:Nat->Nat,∀p:Nat->Prop,a.rn ρ=a/\a.inN p
theorem cO_rn {l:List PN} {F:List (List Int)} {ty:List Int} {k tn:Nat} {now:List (List It)} {d s:Int} {touch:AV} (h:AV.still touch) (ρ:Nat->Nat):(cO l F ty (.rf k 0 tn) now d s touch).rn ρ=cO l F ty (.rf (ρ k) 0 tn) now d s touch:=by simp[cO,Ob.rn,rns,AV.rn,plA,formsA,intsL,setsA,(h ρ λ_=>True).1]
theorem cO_in {l:List PN} {F:List (List Int)} {ty:List Int} {k tn:Nat} {now:List (List It)} {d s:Int} {touch:AV} (h:AV.still touch) (p:Nat->Prop) (hp:p k):∀x∈(cO l F ty (.rf k 0 tn) now d s touch).es,inNs p x:=λx hx=>by simp only[cO,List.mem_singleton] at hx;subst hx;simp[inNs,AV.inN,plA,formsA,intsL,setsA,(h id p).2,hp]
theorem still_nl:AV.still .nl:=λ_ _=>⟨rfl,trivial⟩
theorem still_im (n:Nat) (l:List (List AV)):AV.still (.im n l):=λ_ _=>⟨rfl,trivial⟩
def onO (c t b:Nat) (o to:Ob) (objs:Nat->Option Ob) (n:Nat):Option Ob:=if n=c then some o else if n=b+1 then some to else if b<=n then none else if n=t then none else objs n
theorem dep_ci {c t b:Nat} (hcb:c<b) {o to:Ob} {objs:Nat->Option Ob} (hl:to.leafy):depO true c b ([0,1].map λi=>if i=0 then c else t) (ciO o to) objs=onO c t b (o.rn (nmD true c b)) to objs:=by
 funext n
 simp only[depO,onO,true_and];by_cases h1:n=c
 ·rw[if_pos h1,if_pos h1,ciO_0];rfl
 rw[if_neg h1,if_neg h1];by_cases h2:n=b+1
 ·subst h2;rw[if_pos (by omega),if_neg (by omega),if_pos rfl,show b+1-b=1 by omega,ciO_1,Option.map_some,(leafy_rn (p:=λ_=>True) hl).1]
 rw[if_neg h2];by_cases h3:b<=n
 ·rw[if_pos h3,if_pos h3];by_cases h4:n=b
  ·rw[if_pos h4]
  ·rw[if_neg h4,ciO_s _ _ _ (by omega)];rfl
 ·rw[if_neg h3,if_neg h3];simp[h1]
theorem ci_sem {f:Nat} {args args':List AV} {objs:Nat->Option Ob} {used:List Nat} {l:List PN} {F:List (List Int)} {ty:List Int} {tn:Nat} {now now':List (List It)} {d s d' s':Int} {touch touch':AV} {to:Ob}
 (h:FunSpecD Tryz.prog f args' (upd noOb 0 (some (cO l F ty (.rf 1 0 tn) now d s touch))) (ciO (cO l F ty (.rf 1 0 tn) now d s touch) to) [0,1] λr O'=>r=.tu []/\O'=ciO (cO l F ty (.rf 1 0 tn) now' d' s' touch') to) (st:AV.still touch) (st':AV.still touch')
 (c t:Nat) (hct:c≠t) (hc:c∈used) (ht:t∈used) (ho:objs c=some (cO l F ty (.rf t 0 tn) now d s touch)) (hto:objs t=some to) (hl:to.leafy) (b:Nat) (hb:∀n∈used,n<b)
 (ha:args=rns (λi=>if i=0 then c else t) args'/\inNs (·∈[0,1]) args') :
 CallSem Tryz.prog f args objs used λu O U=>u=.tu []/\O=onO c t b (cO l F ty (.rf (b+1) 0 tn) now' d' s' touch') to objs/\U=c::(b+1)::used:=by
 have key:=dep_sem (objs:=objs) (used:=used) (args:=args) (keep:=true) (by rw[ciO_kept];exact h) (λi=>if i=0 then c else t) (λi hi j hj=>by
  simp only[List.mem_cons,List.not_mem_nil,or_false] at hi hj;rcases hi with rfl|rfl<;>rcases hj with rfl|rfl<;>simp[hct,Ne.symm hct]) (λi o hoo=>by
  by_cases h0:i=0
  ·subst h0;rw[ciO_0] at hoo;cases hoo;exact ⟨by simp,cO_in st _ (by simp)⟩
  by_cases h1:i=1
  ·subst h1;rw[ciO_1] at hoo;cases hoo;exact ⟨by simp,(leafy_rn (ρ:=λx=>x) hl).2⟩
  ·rw[ciO_s _ _ _ (by omega)] at hoo;cases hoo) (λ_=>⟨_,ciO_0 _ _⟩) (λi o hoo=>by
  by_cases h0:i=0
  ·subst h0;rw[ciO_0] at hoo;cases hoo;rw[cO_rn st];exact ho
  by_cases h1:i=1
  ·subst h1;rw[ciO_1] at hoo;cases hoo;rw[(leafy_rn (p:=λ_=>True) hl).1];exact hto
  ·rw[ciO_s _ _ _ (by omega)] at hoo;cases hoo) (λi hi=>by
  simp only[List.mem_cons,List.not_mem_nil,or_false] at hi;rcases hi with rfl|rfl
  ·exact hc
  ·exact ht) ha b hb (λ_ _=>[0,1]) (λr O' hR=>by
  obtain ⟨rfl,rfl⟩:=hR;refine ⟨λi o hoo=>?_,trivial⟩;by_cases h0:i=0
  ·subst h0;rw[ciO_0] at hoo;cases hoo;exact ⟨by simp,cO_in st' _ (by simp)⟩
  by_cases h1:i=1
  ·subst h1;rw[ciO_1] at hoo;cases hoo;exact ⟨by simp,(leafy_rn (ρ:=λx=>x) hl).2⟩
  ·rw[ciO_s _ _ _ (by omega)] at hoo;cases hoo)
 refine ⟨key.1,λF' φ w vs H h1 h2=>(key.2 F' φ w vs H h1 h2).mono ?_⟩;rintro e w' ⟨v,u,O,U,φ',rfl,⟨r,O',⟨rfl,rfl⟩,rfl,rfl,rfl⟩,G,H',rv⟩;have e1:=dep_ci (t:=t) (hb c hc) (o:=cO l F ty (.rf 1 0 tn) now' d' s' touch') (objs:=objs) hl;rw[cO_rn st'] at e1;refine ⟨v,_,_,_,φ',rfl,⟨rfl,e1,?_⟩,G,H',rv⟩;simp[nmD]
theorem CALL.once {l:List PN} {F:List (List Int)} {ty:List Int} {tn:Nat} {now:List (List It)} {d:Int} {touch:AV} {to:Ob} {st:St} {x:Option Nat} {K:St->Prop} (c t:Nat) (hct:c≠t) (hc:c∈st.used) (ht:t∈st.used)
 (ho:st.objs c=some (cO l F ty (.rf t 0 tn) now d 0 touch)) (hto:st.objs t=some to) (hl:to.leafy) (hd:(d=0/\touch=.nl)\/(d=1/\touch=touchA F l F.length)) (hll:l.length<=268435456) (hF:F.length<=268435456)
 (hi:∀i (h:i<l.length),∀k∈insOf l[i],0<=k/\k<i) (b:Nat) (hb:∀n∈st.used,n<b)
 (k:K {regs:=(st.put x (.tu [])).regs,objs:=onO c t b (cO l F ty (.rf (b+1) 0 tn) now 1 0 (touchA F l F.length)) to st.objs,used:=c::(b+1)::st.used}):CALL Tryz.prog 116 [.pt c 0 5,.fn 1000000117 [.pt c 0 0]] st x K:=by
 have fin:CallSem Tryz.prog 116 [.pt c 0 5,.fn 1000000117 [.pt c 0 0]] st.objs st.used λu O U=>u=.tu []/\O=onO c t b (cO l F ty (.rf (b+1) 0 tn) now 1 0 (touchA F l F.length)) to st.objs/\U=c::(b+1)::st.used:=by
  rcases hd with ⟨rfl,rfl⟩|⟨rfl,rfl⟩
  ·have h1:=ci_sem (u117 l F ty now tn to hl hll hF hi) still_nl (still_im _ _) (objs:=upd st.objs c (some (cO l F ty (.rf t 0 tn) now 0 1 .nl))) c t hct hc ht (upd_eq _ _ _) (by rw[upd_ne' _ _ hct];exact hto) hl b hb (args:=[.pt c 0 0]) ⟨rfl,by simp[inNs,AV.inN]⟩;have h2:=once_sem (objs:=st.objs) (cs:=_) ho rfl rfl hc h1 (λu O U hX=>by
    obtain ⟨rfl,rfl,_⟩:=hX;exact ⟨rfl,_,if_pos rfl,rfl,rfl⟩)
   refine ⟨h2.1,λF' φ w vs H h3 h4=>(h2.2 F' φ w vs H h3 h4).mono ?_⟩;rintro e w' ⟨v,u,O,U,φ',rfl,⟨rfl,O1,cs',⟨_,rfl,rfl⟩,g2,rfl⟩,G,H',rv⟩;have e1:onO c t b (cO l F ty (.rf (b+1) 0 tn) now 0 1 (touchA F l F.length)) to (upd st.objs c (some (cO l F ty (.rf t 0 tn) now 0 1 .nl))) c=some (cO l F ty (.rf (b+1) 0 tn) now 0 1 (touchA F l F.length)):=if_pos rfl;rw[e1] at g2;cases g2;refine ⟨v,_,_,_,φ',rfl,⟨rfl,?_,rfl⟩,G,H',rv⟩
   funext n
   simp only[upd,onO];by_cases h:n=c
   ·subst h;simp[cO]
   ·rw[if_neg (λe=>h (Eq.symm e)),if_neg h,if_neg h,if_neg (λe=>h (Eq.symm e))]
  ·refine ci_sem (args':=[.pt 0 0 5,.fn 1000000117 [.pt 0 0 0]]) ?_ (still_im _ _) (still_im _ _) c t hct hc ht ho hto hl b hb ⟨rfl,by simp[inNs,AV.inN]⟩;have h2:=once_done (used:=[0,1]) (a:=.fn 1000000117 [.pt 0 0 0]) (ciO_0 (cO l F ty (.rf 1 0 tn) now 1 0 (touchA F l F.length)) to) rfl;refine ⟨h2.1,λF' φ w vs _ _ _ H h3 h4=>(h2.2 F' φ w vs H h3 h4).mono ?_⟩;rintro e w' ⟨v,u,O,U,φ',rfl,⟨rfl,rfl,rfl⟩,G,H',rv⟩;exact ⟨v,_,_,φ',_,rfl,⟨rfl,rfl⟩,H',rv⟩
 refine .sem _ fin λu O U hX=>?_;obtain ⟨rfl,rfl,rfl⟩:=hX;exact k
theorem f60 (S:List (List It)) (c0 c1 c2 c3 c5 c6 c7 c8:AV) (h0:0<S.length) (hl:S.length<=268435456) (hS:∀z∈S,z.length<=25000000/\∀t∈z,t.row.length<1073741824) :
 SpecF Tryz.prog 60 [.ro [c0,c1,c2,c3,setsA S,c5,c6,c7,c8] 0] (λr out=>r=.rf 0 0 out.length/\out=S[S.length-1]):=by
 refine funspecD_of_vc tabOk elems og60 Tryz.func60 rfl (rl:=[.tmp 2]) rfl (by kernel_rfl) rfl (λ_ h=>absurd rfl h) ?_;have w1:IntKind.i64.wrap ((S.length:Int)-1)=((S.length-1:Nat):Int):=by rw[wrap_i64]<;>omega
 have hk:S.length-1<S.length:=by omega
 refine Dr ?_;refine EL.map hk ?_;refine Aa ?_;have:=hS _ (List.getElem_mem hk);refine CALL.fam (show SpecF Tryz.prog 88 [setA (S[S.length-1]'hk)] _ from f83 (S[S.length-1]'hk) (by omega) this.2) rfl 100000 (by simp) λq out hq=>?_;obtain ⟨rfl,hz⟩:=hq;refine Cx ?_;refine FINfam 100000 (λi=>100000+(i+1)) out [(2,.rf 0 0 out.length)] (es:=famC 100000 out) (fam_nd (l:=[100000]) (by decide) (by decide)) Ag rfl (λi hi=>by (simp -implicitDefEqProofs only[go_sem];repeat (refine GO ?_;simp -implicitDefEqProofs only[go_sem]));exact famO_row hi) ?_ ?_
 ·exact Ag
 ·exact ⟨out,⟨⟨rfl,hz⟩,rfl⟩,rfl⟩
def Tch (F:List (List Int)) (l:List PN) (d:Int) (touch:AV):Prop:=(d=0/\touch=.nl)\/(d=1/\touch=touchA F l F.length)
theorem on_ci (o o' to to':Ob):onO 0 1 1000 o to (upd (upd noOb 1 (some to')) 0 (some o'))=upd (upd noOb 1001 (some to)) 0 (some o):=by
 funext n
 simp only[onO,upd];by_cases h0:n=0
 ·simp[h0]
 by_cases h1:n=1001
 ·simp[h1]
 have e0:¬0=n:=Ne.symm h0;have e1:¬1001=n:=Ne.symm h1;simp only[h0,h1,e0,e1,if_false];by_cases h2:1000<=n
 ·rw[if_pos h2];rfl
 ·rw[if_neg h2];by_cases h3:n=1
  ·rw[if_pos h3];rfl
  ·rw[if_neg h3,if_neg (Ne.symm h3)]
theorem pad_set {N:List (List It)} {i n:Nat} (hN:N.length=i) (hi:i<n) (z:List It):((N++nilS (n-i)).map λz=>[setA z]).set i [setA z]=(N++[z]++nilS (n-(i+1))).map λz=>[setA z]:=by
 subst hN;have e:nilS (n-N.length)=[]::nilS (n-(N.length+1)):=by rw[show n-N.length=(n-(N.length+1))+1 by omega];simp[nilS,List.replicate_succ]
 rw[e];simp[List.set_append]
theorem pad_len {N:List (List It)} {i n:Nat} (hN:N.length=i) (hi:i<=n):(N++nilS (n-i)).length=n:=by simp[nilS,hN];omega
theorem pad_nil {M:List (List It)} {i n:Nat} (hi:i<n):M++nilS (n-i)=M++[[]]++nilS (n-(i+1)):=by
 have e:nilS (n-i)=[]::nilS (n-(i+1)):=by rw[show n-i=(n-(i+1))+1 by omega];simp[nilS,List.replicate_succ]
 rw[e];simp
theorem sets_eq {st:St} {m:List (Nat×Option Nat)} {A B:List (List It)} (h:A=B):Es st m (A.map λz=>[setA z]) (B.map λz=>[setA z]):=by subst h;exact .same (doO A) _ _ (doO_leafy A) rfl
theorem lent_sets {objs:Nat->Option Ob} {id n:Nat} {L:List (List It)} (ho:objs id=some (doO L)) (hn:L.length=n):Lent objs (.rf id 0 n) (setsA L):=
 lent_leafy ho rfl (by simpa [doO] using hn) (doO_leafy L) λx hx=>by obtain ⟨z,_,rfl⟩:=List.mem_map.1 hx;rfl
theorem lent_ci {objs:Nat->Option Ob} {c t n:Nat} {l:List PN} {F:List (List Int)} {ty:List Int} {tabs S:List (List It)} {d:Int} {touch:AV} (ho:objs c=some (cO l F ty (.rf t 0 n) S d 0 touch)) (hto:objs t=some (doO tabs)) (hn:tabs.length=n) (hl:touch.leaf=true) :
 Lent objs (.pt c 0 0) (.ro [plA l,formsA F,intsL ty,setsA tabs,setsA S,.pr (.int .u32 d),.pr (.int .i32 0),.pr (.int .u32 0),touch] 0):=by
 refine .pt ho rfl rfl (λj a' h=>?_) λj a a' h h'=>?_
 ·match j with
  | 0|1|2|3|4|5|6|7=>simp at h;subst h;rfl
  | 8=>simp at h;subst h;exact hl
  | j+9=>simp at h
 ·match j with
  | 3=>
    simp at h h';subst h;subst h';exact lent_sets hto hn
  | 0|1|2|4|5|6|7=>simp at h h';subst h;subst h';exact .same rfl
  | 8=>simp at h h';subst h;subst h';exact .same (leaf_noId hl)
  | j+9=>simp at h
theorem es_set {st:St} {m:List (Nat×Option Nat)} {L:List (List AV)} {x y:List AV} (hL:∀z∈L,∀a∈z,a.leaf=true) (hx:wk.wks st m x y) (i:Nat):Es st m (L.set i x) (L.set i y):=Es_all (by simp) λj q1 q2=>by
 by_cases e:i=j
 ·subst e;simpa using hx
 ·simp only[List.getElem_set_ne e];exact wks_leaf (hL _ (List.getElem_mem _))
theorem ci_es {st:St} {m:List (Nat×Option Nat)} {l:List PN} {F:List (List Int)} {ty:List Int} {a b n:Nat} {S:List (List It)} {d s:Int} {touch:AV} (h:wk st m (.rf a 0 n) (.rf b 0 n)) (hl:touch.leaf=true):Es st m (cO l F ty (.rf a 0 n) S d s touch).es (cO l F ty (.rf b 0 n) S d s touch).es:=
 .cons ⟨wk_leaf rfl,wk_leaf rfl,wk_leaf rfl,h,wk_leaf rfl,wk_leaf rfl,wk_leaf rfl,wk_leaf rfl,wk_leaf hl,trivial⟩ .nil
theorem famC_fz {st:St} {m:List (Nat×Option Nat)} {z:List It} {b:Nat} (h:∀i,i<z.length->b+(i+1)∉olds m) (ho:∀i (hi:i<z.length),st.objs (b+(i+1))=some (ro3 z[i].row)):Es st m (famC b z) (z.map It.c):=
 fam_fz (famC_len _ _) λi hi=>⟨b+(i+1),by rw[List.getElem?_eq_getElem (by rw[famC_len];exact hi),famC_get hi],h i hi,ho i hi⟩
theorem pad_at {M:List (List It)} {i k:Nat} {z:List It} (hM:M.length=i) (h:i<(M++[z]++nilS k).length):(M++[z]++nilS k)[i]=z:=by subst hM;simp
theorem pad_set2 {N:List (List It)} {i k:Nat} (hN:N.length=i) (y z:List It):((N++[y]++nilS k).map λz=>[setA z]).set i [setA z]=(N++[z]++nilS k).map λz=>[setA z]:=by subst hN;simp[List.set_append]
theorem wk_setA {st:St} {m:List (Nat×Option Nat)} {z:List It}:wk st m (setA z) (setA z)=True:=eq_true (wk_leaf rfl)
theorem tch_leaf {F:List (List Int)} {l:List PN} {d:Int} {touch:AV} (h:Tch F l d touch):touch.leaf=true:=by rcases h with ⟨_,rfl⟩|⟨_,rfl⟩<;>rfl
theorem feed59 (F:List (List Int)) (l:List PN) (ty:List Int) (tabs S:List (List It)) (K:Nat) (t:Int) (dz:List It) (d:Int) (touch:AV) (c:CirP F l tabs S) (hz:EvSz F l tabs K) (hk:(setAt tabs t).length+dz.length<=K) (hK:K<=1000000) (hr:∀x∈dz,x.row.length<1073741824) (ht:Tch F l d touch) :
 FunSpecD Tryz.prog 59 [.pt 0 0 0,iA t,setA dz] (upd noOb 0 (some (cO l F ty (.rf 1 0 tabs.length) S d 0 touch))) (ciO (cO l F ty (.rf 1 0 tabs.length) S d 0 touch) (doO tabs)) [0,1]
  λr O'=>∃tabs' S' out e d' touch',r=.tu [setA out,iA e]/\O'=ciO (cO l F ty (.rf 1 0 tabs.length) S' d' 0 touch') (doO tabs')/\tabs'.length=tabs.length/\Tch F l d' touch'/\FeedR F l tabs S t dz tabs' S' out e:=by
 obtain ⟨hF,hl1,hl2,hp⟩:=planE_ok c.plan;have hcl:=tch_leaf ht;have hfl:F.length<=3:=by
  simp only[formsE] at hF;split at hF
  ·cases hF
  ·omega
 have htl:tabs.length=F.length:=c.tb.1;refine funspecD_of_vc tabOk elems og59 Tryz.func59 rfl (rl:=[.tmp 6,.tmp 7]) rfl (by kernel_rfl) rfl (kept_b _) ?_
 have bad:(¬∃next,FeedTo F tabs t dz next)->∀s:St,0∈s.used->s.objs 0=some (cO l F ty (.rf 1 0 tabs.length) S d 0 touch)->s.objs 1=some (doO tabs)->s.regs 6=.nl->s.regs 7=iA 1 ->
  FIN T (upd noOb 0 (some (cO l F ty (.rf 1 0 tabs.length) S d 0 touch))) [.tmp 6,.tmp 7] (λr O'=>∃tabs' S' out e d' touch',r=.tu [setA out,iA e]/\O'=ciO (cO l F ty (.rf 1 0 tabs.length) S' d' 0 touch') (doO tabs')/\tabs'.length=tabs.length/\Tch F l d' touch'/\FeedR F l tabs S t dz tabs' S' out e) s:=by
  intro hn s h0 o0 o1 h6 h7;refine FINb [(0,some 0),(1,some 1)] [(6,setA []),(7,iA 1)] [(0,cO l F ty (.rf 1 0 tabs.length) S d 0 touch),(1,doO tabs)] [0,1] rfl ?_ ?_
  ·simp -implicitDefEqProofs only[go_sem,cO,formsA,h6,h7,iA,o0,o1,plA,setA,setsA];refine ⟨λ_=>trivial,rfl,.cons ?_ .nil,.same (doO tabs) _ _ (doO_leafy tabs) rfl⟩;simp -implicitDefEqProofs only[go_sem,intsL];exact wk_leaf hcl
  ·refine Aw ?_;exact ⟨tabs,S,[],1,d,touch,rfl,rfl,rfl,ht,.inl ⟨hn,rfl,rfl,rfl,rfl⟩⟩
 refine Fa ?_;refine VIF.split (λh1=>?_) (λh1=>?_)
 ·have h1:t<0:=(by simpa using h1);refine Ab ?_;refine bad (λ⟨next,h⟩=>by have:=inC_ok.1 h.1;omega) _ Ae D8 Ae Ae Aj
 have h1:¬t<0:=by simpa using h1
 refine Ab ?_;refine VIF.split (λh2=>?_) (λh2=>?_)
 ·have h2:(F.length:Int)<=t:=(by simpa using h2);refine Ab ?_;refine bad (λ⟨next,h⟩=>by have:=inC_ok.1 h.1;omega) _ Ae D8 Ae Ae Aj
 have h2:t<F.length:=by simp at h2;omega
 have ht1:t.toNat<F.length:=by omega
 have ht2:t.toNat<tabs.length:=by omega
 refine En ?_;have es:setAt tabs t=tabs[t.toNat]:=setAt_eq ht2;have htr:=(c.tb.rows hF) _ (List.getElem_mem ht2);have hk2:=hk;rw[es] at hk2;refine ⟨⟨by omega,by omega⟩,EL.map ht2 ?_⟩;refine Aa ?_;refine .pure _ (show Spec0 Tryz.prog 36 [setA tabs[t.toNat],setA dz] _ from Spec1.setE (s23 tabs[t.toNat] dz (by omega) (λx hx=>by have:=htr.2 x hx;omega) hr)) rfl λq hq _=>?_;obtain ⟨next,e,rfl,ha⟩:=hq;obtain ⟨al,ar⟩:=addR_rows ha;refine Ab ?_;have hit:inC t F.length=true:=inC_ok.2 ⟨by omega,by omega⟩;have hFe:(F[t.toNat]?).getD []=F[t.toNat]:=by rw[List.getElem?_eq_getElem ht1];rfl
 refine VIF.split (λh3=>?_) (λh3=>?_)
 ·have h3:e≠0:=(by simpa using h3);refine Ab ?_;refine bad (λ⟨n2,h⟩=>by
   have:=h.2.1;rw[es] at this;exact h3 (addR_same2 ha this).2) _ Ae D8 Ff Ae Aj
 have h3:e=0:=by simpa using h3
 subst h3;refine Ab ?_;refine ⟨by omega,EL.map ht1 ?_⟩;refine Ab ?_;refine .pure _ (show Spec0 Tryz.prog 27 [.ag [intsL F[t.toNat]],setA next] _ from d27 F[t.toNat] next (by have:=hz.pl.ff _ (List.getElem_mem ht1);omega) (by omega) (λx hx=>by
  obtain ⟨u,hu,e⟩:=ar x hx;rw[<- e];rcases List.mem_append.1 hu with hu|hu
  ·have:=htr.2 u hu;omega
  ·have:=hr u hu;omega)) rfl λq hq _=>?_
 subst hq;obtain ⟨te1,te2⟩:=tabErr_eq hF (List.getElem_mem ht1) next;refine Ab ?_;refine VIF.split (λh4=>?_) (λh4=>?_)
 ·have h4:¬tabE F[t.toNat] next:=λh=>by simp[te1 h] at h4
  refine Ab ?_;refine bad (λ⟨n2,h⟩=>by
   have h5:=h.2.1;rw[es] at h5;obtain ⟨rfl,_⟩:=addR_same2 ha h5;have:=h.2.2;rw[hFe] at this;exact h4 this) _ Ae D8 Ff Ae Aj
 have h4:tabE F[t.toNat] next:=by
  false_or_by_contra
  rename_i h;simp[te2 h] at h4
 have hto:FeedTo F tabs t dz next:=⟨hit,by rw[es];exact ha,by rw[hFe];exact h4⟩;have hTE:=hto.tbs c.tb;refine Ab ?_;refine CALL.once (ty:=ty) (tn:=tabs.length) (now:=S) (to:=doO tabs) 0 1 (by decide) (by simp) (by simp) D8 Ff (doO_leafy tabs) ht (by omega) (by omega) (plan_ins c.plan) 1000 (by simp) ?_;(simp -implicitDefEqProofs only[go_sem,cO,doO,formsA,on_ci,plA,setsA];repeat (refine GO ?_;simp -implicitDefEqProofs only[go_sem,cO,doO,formsA,on_ci,plA,setsA]));repeat' (first|(with_reducible refine And.intro ?_ ?_)|(with_reducible show _<_;omega)|(with_reducible show _<=_;omega))
 all_goals
  refine LOOP.mk (ι:={p:Nat×List (List It)×List (List It)//p.1<=l.length/\Mid F l (tabs.set t.toNat next) S t p.1 p.2.1 p.2.2}) (λp=>mkS [(0,.pt 0 0 0),(1,iA t),(2,setA dz),(8,setA next),(10,.rf 62 0 l.length),(11,.rf 68 0 l.length),(72,plA l),(73,iA l.length),(74,iA p.1.1)]
   [(0,cO l F ty (.rf 1 0 tabs.length) S 1 0 (touchA F l F.length)),(1,doO tabs),(62,doO (p.1.2.2++nilS (l.length-p.1.1))),(68,doO (p.1.2.1++nilS (l.length-p.1.1)))] [0,1,62,68]) (λp=>l.length-p.1.1) ⟨(0,[],[]),Nat.zero_le _,Mid.start F l (tabs.set t.toNat next) S t⟩ [(0,some 0),(1,some 1001),(62,some 62),(68,some 68)] rfl rfl ?_ (λp=>?_)
  ·(simp -implicitDefEqProofs only[go_sem,cO,doO,formsA,iA,plA,setsA,wk_setA];repeat (refine GO ?_;simp -implicitDefEqProofs only[go_sem,cO,doO,formsA,iA,plA,setsA,wk_setA]));refine ⟨λ_=>trivial,⟨by simp,by simp,rfl⟩,.cons ?_ .nil,.same (doO tabs) _ _ (doO_leafy tabs) rfl,es_doN _,es_doN _⟩;(simp -implicitDefEqProofs only[go_sem,intsL,touchA];repeat (refine GO ?_;simp -implicitDefEqProofs only[go_sem,intsL,touchA]))
  obtain ⟨⟨i,N,M⟩,hi,hm⟩:=p;simp only at hi hm;refine Fb ?_;refine VIF.split (λg1=>?_) (λg1=>?_)
  ·have g1:i<l.length:=(by simpa using g1);have w1:=wrap_add1 (show i<4611686018427387904 by omega);refine Ab ?_;refine EL.map g1 ?_;refine Av ?_;have hS:i<S.length:=by rw[c.ran.len];exact g1
   refine EL.map hS ?_;(simp -implicitDefEqProofs only[go_sem,PN.c,iA,touchA];repeat (refine GO ?_;simp -implicitDefEqProofs only[go_sem,PN.c,iA,touchA]));have pN:=pad_set hm.ran.len g1 S[i];refine ⟨by omega,EL.map (show i<(N++nilS (l.length-i)).length by rw[pad_len hm.ran.len hi];exact g1) ?_⟩;(simp -implicitDefEqProofs only[go_sem,pN,wk_setA];repeat (refine GO ?_;simp -implicitDefEqProofs only[go_sem,pN,wk_setA]));refine ⟨by omega,EL.map (show t.toNat<(List.range F.length).length by simpa using ht1) ?_⟩;have ett:((List.range F.length)[t.toNat]'(by simpa using ht1):Int)=t:=by simp;omega
   (simp -implicitDefEqProofs only[go_sem,boolsA,ett];repeat (refine GO ?_;simp -implicitDefEqProofs only[go_sem,boolsA,ett]));refine EL.map (show i<(hangs t l).length by rw[hangs_len];exact g1) ?_;refine Ad ?_;have hgi:(hangs t l)[i]?=some ((hangs t l)[i]'(by rw[hangs_len];exact g1)):=List.getElem?_eq_getElem _;refine VIF.split (λg2=>?_) (λg2=>?_)
   ·have g2:((hangs t l)[i]?).getD false=false:=by rw[hgi];simpa using g2
    have hm2:=hm.still c hTE hto.oth g1 hS g2;refine Ba ?_;refine BACK.mk ⟨(i+1,N++[S[i]],M++[[]]),g1,hm2⟩ [(0,some 0),(1,some 1),(62,some 62),(68,some 68)] rfl rfl (by show l.length-(i+1)<l.length-i;omega) ?_;refine E1 ?_;refine ⟨λ_=>trivial,.cons ?_ .nil,sets_eq rfl,sets_eq (pad_nil g1),sets_eq rfl⟩;exact D4
   have g2:((hangs t l)[i]?).getD false=true:=by rw[hgi];simpa using g2
   obtain ⟨hok,hgd⟩:=hm.ok c hTE hz (hto.sz hz hk hr) g1 ⟨by omega,hr⟩;refine B8 ?_;refine GO ?_;refine B8 ?_
   refine TO [(0,some 0),(1,some 1),(62,some 62),(68,some 68)] [(0,.pt 0 0 0),(1,iA t),(2,setA dz),(8,setA next),(10,.rf 62 0 l.length),(11,.rf 68 0 l.length),(12,iA i),(72,plA l),(73,iA l.length),(74,iA i),(101,.rf 62 0 l.length),(102,iA i),(103,.pt 0 0 0),(104,.ag l[i].c),(105,.rf 62 0 l.length),(106,setA dz)]
    [(0,cO l F ty (.rf 1 0 tabs.length) S 1 0 (touchA F l F.length)),(1,doO tabs),(62,doO (M++nilS (l.length-i))),(68,doO (N++[S[i]]++nilS (l.length-(i+1))))] [0,1,62,68] rfl ?_ ?_
   ·simp -implicitDefEqProofs only[go_sem,PN.c,cO,doO,formsA,iA,plA,setsA,w1,wk_setA];refine ⟨λ_=>trivial,⟨wk_leaf rfl,wk_leaf rfl⟩,.cons ?_ .nil,sets_eq rfl,sets_eq rfl,sets_eq rfl⟩;exact D4
   refine Ab ?_
   refine CALL.lendF (args':=[.ro [plA l,formsA F,intsL ty,setsA tabs,setsA S,.pr (.int .u32 1),.pr (.int .i32 0),.pr (.int .u32 0),touchA F l F.length] 0,.ag l[i].c,setsA (M++nilS (l.length-i)),setA dz])
    (f118 F (ndsTo F l i) S (M++nilS (l.length-i)) dz l[i] _ _ _ _ _ _ _ _ hok hgd) ⟨lent_ci (t:=1) (tabs:=tabs) Ae Ae rfl rfl,.same rfl,lent_sets Ae (pad_len hm.len hi),.same rfl,trivial⟩ (λr z ⟨err,e,_⟩=>by subst e;rfl) 3000000000 (by simp) λq out hq=>?_
   obtain ⟨err,rfl,hd⟩:=hq;obtain ⟨rfl,key⟩:=hm.hung c hTE (hto.dlt c.tb) g1 hS g2 (λk hk=>by rw[inC_ok] at hk;exact setAt_pad hk.1 (by rw[hm.len];exact hk.2)) hd;simp -implicitDefEqProofs only[go_sem,AV.rn,Nat.add_zero,doO,iA,rns];refine ⟨by omega,EL.map (show i<(M++nilS (l.length-i)).length by rw[pad_len hm.len hi];exact g1) ?_⟩;refine B8 ?_;repeat (refine GO ?_;simp -implicitDefEqProofs only[go_sem,iA])
   refine VIF.f ?_;refine B8 ?_;have pM:=pad_set hm.len g1 out
   refine TOG [(0,some 0),(1,some 1),(62,some 62),(68,some 68),(107,some 3000000000)] [(0,.pt 0 0 0),(1,iA t),(2,setA dz),(8,setA next),(10,.rf 62 0 l.length),(11,.rf 68 0 l.length),(12,iA i),(72,plA l),(73,iA l.length),(74,iA i)]
    [(0,cO l F ty (.rf 1 0 tabs.length) S 1 0 (touchA F l F.length)),(1,doO tabs),(62,⟨1,((M++nilS (l.length-i)).map λz=>[setA z]).set i [.rf 107 0 out.length]⟩),(68,doO (N++[S[i]]++nilS (l.length-(i+1)))),(107,so out)] [0,1,62,68,107] rfl ?_ ?_
   ·simp -implicitDefEqProofs only[go_sem,doO,iA,so,wk_setA];refine ⟨λ_=>trivial,wk_leaf rfl,ci_es Ae rfl,sets_eq rfl,es_set (doO_leafy _) Ae i,sets_eq rfl,famC_fz (λi hi=>by simp[olds];omega) λi hi=>?_⟩;refine Aw ?_;exact famO_row hi
   refine TO [(0,some 0),(1,some 1),(62,some 62),(68,some 68)] [(0,.pt 0 0 0),(1,iA t),(2,setA dz),(8,setA next),(10,.rf 62 0 l.length),(11,.rf 68 0 l.length),(12,iA i),(72,plA l),(73,iA l.length),(74,iA i)]
    [(0,cO l F ty (.rf 1 0 tabs.length) S 1 0 (touchA F l F.length)),(1,doO tabs),(62,doO (M++[out]++nilS (l.length-(i+1)))),(68,doO (N++[S[i]]++nilS (l.length-(i+1))))] [0,1,62,68] rfl ?_ ?_
   ·simp -implicitDefEqProofs only[go_sem,doO,iA,so,wk_setA];refine ⟨wk_leaf rfl,ci_es Ae rfl,sets_eq rfl,?_,sets_eq rfl⟩;rw[<- pM];refine es_set (doO_leafy _) ?_ i;simp -implicitDefEqProofs only[go_sem,setA];exact ⟨by simp[olds],so out,rfl,so_leafy out,rfl,List.take_of_length_le (by simp[so])⟩
   have hil:i<(M++[out]++nilS (l.length-(i+1))).length:=(by simp[nilS,hm.len]);have sR:=hok.s _ (List.getElem_mem hS);have oR:=delR_rows hok (by omega) hd;(simp -implicitDefEqProofs only[go_sem,cO,doO,iA,setsA];repeat (refine GO ?_;simp -implicitDefEqProofs only[go_sem,cO,doO,iA,setsA]));refine EL.map hS ?_;refine Ab ?_;refine ⟨by omega,EL.map hil ?_⟩;rw[pad_at hm.len hil];refine Ab ?_;refine .pure _ (show Spec0 Tryz.prog 36 [setA S[i],setA out] _ from Spec1.setE (s23 S[i] out (by have:=oR.1;omega) sR.2 oR.2)) rfl λq hq _=>?_;obtain ⟨new,e,rfl,ha⟩:=hq;obtain ⟨rfl,hm2⟩:=key new e ha;have pN2:=pad_set2 (k:=l.length-(i+1)) hm.ran.len S[i] new;refine Ab ?_;refine ⟨by omega,EL.map (show i<(N++[S[i]]++nilS (l.length-(i+1))).length by simp[nilS,hm.ran.len]) ?_⟩;(simp -implicitDefEqProofs only[go_sem,iA,pN2,wk_setA];repeat (refine GO ?_;simp -implicitDefEqProofs only[go_sem,iA,pN2,wk_setA]));refine VIF.f ?_;refine Ba ?_;refine BACK.mk ⟨(i+1,N++[new],M++[out]),g1,hm2⟩ [(0,some 0),(1,some 1),(62,some 62),(68,some 68)] rfl rfl (by show l.length-(i+1)<l.length-i;omega) ?_;refine E1 ?_;refine ⟨.cons ?_ .nil,sets_eq rfl,sets_eq rfl,sets_eq rfl⟩;exact D4
  ·have g1:i=l.length:=by simp at g1;omega
   subst g1;obtain ⟨hc2,hd2⟩:=hm.fin c hTE;have w2:IntKind.i64.wrap ((l.length:Int)-1)=((l.length-1:Nat):Int):=by rw[wrap_i64]<;>omega
   have hM0:M++nilS (l.length-l.length)=M:=(by simp[nilS]);have hN0:N++nilS (l.length-l.length)=N:=(by simp[nilS]);have hMl:l.length-1<M.length:=by rw[hm.len];omega
   obtain ⟨_,q2,_,q4,_⟩:=hm.len_le c hTE hz (hto.sz hz hk hr) (Nat.le_refl _) ((l.length-1:Nat):Int) (inC_ok.2 ⟨by omega,by omega⟩);have eM:setAt M ((l.length-1:Nat):Int)=M[l.length-1]:=setAt_eq (k:=((l.length-1:Nat):Int)) (by simpa using hMl);rw[eM] at q2 q4 hd2;(simp -implicitDefEqProofs only[go_sem,hM0,hN0,iA];repeat (refine GO ?_;simp -implicitDefEqProofs only[go_sem,hM0,hN0,iA]));refine ⟨⟨by omega,by omega⟩,EL.map ht2 ?_⟩;refine C7 ?_;refine ⟨by omega,EL.map hMl ?_⟩;refine Ab ?_;refine .pure _ (show Spec0 Tryz.prog 88 [setA M[l.length-1]] _ from Spec1.setC (s57 M[l.length-1] (by omega) (λt ht=>by have:=q4 t ht;omega))) rfl λq hq _=>?_;subst hq;refine Ab ?_;refine FINb [(0,some 0),(1,some 1)] [(6,setA M[l.length-1]),(7,iA 0)] [(0,cO l F ty (.rf 1 0 tabs.length) N 1 0 (touchA F l F.length)),(1,doO (tabs.set t.toNat next))] [0,1] rfl ?_ ?_
   ·simp -implicitDefEqProofs only[go_sem,cO,doO,iA,wk_setA];refine ⟨.cons ⟨wk_leaf rfl,wk_leaf rfl,wk_leaf rfl,by simp -implicitDefEqProofs only[go_sem],?_,wk_leaf rfl,wk_leaf rfl,wk_leaf rfl,wk_leaf rfl,trivial⟩ .nil,by rw[List.map_set];exact es_set (doO_leafy tabs) (wks_leaf λa ha=>by rw[List.mem_singleton.1 ha];rfl) t.toNat⟩;refine Hp ?_;exact ⟨by simp[olds],doO N,rfl,doO_leafy N,rfl,List.take_of_length_le (by simp[doO,hm.ran.len])⟩
   ·refine Aw ?_;exact ⟨_,N,_,0,1,_,rfl,rfl,by simp,.inr ⟨rfl,rfl⟩,.inr ⟨next,hto,rfl,hc2,hd2,rfl⟩⟩
theorem noId_rn1 {a:AV} (h:a.noId=true) (ρ:Nat->Nat) (p:Nat->Prop):a.rn ρ=a/\a.inN p:=by obtain ⟨h1,h2⟩:=noIds_rn (ρ:=ρ) (p:=p) [a] (by simpa [noIds] using h);exact ⟨by simpa [rns] using h1,h2.1⟩
theorem leaf_still {a:AV} (h:a.leaf=true):AV.still a:=λρ p=>noId_rn1 (leaf_noId h) ρ p
theorem ci_sem2 {ι:Type} {f:Nat} {args args':List AV} {objs:Nat->Option Ob} {used:List Nat} {l:List PN} {F:List (List Int)} {ty:List Int} {tn:Nat} {now:List (List It)} {d s:Int} {touch:AV} {to:Ob}
 (now':ι->List (List It)) (d':ι->Int) (touch':ι->AV) (to':ι->Ob) (ρ:ι->AV) (Q:ι->Prop)
 (h:FunSpecD Tryz.prog f args' (upd noOb 0 (some (cO l F ty (.rf 1 0 tn) now d s touch))) (ciO (cO l F ty (.rf 1 0 tn) now d s touch) to) [0,1] λr O'=>∃y,r=ρ y/\O'=ciO (cO l F ty (.rf 1 0 tn) (now' y) (d' y) 0 (touch' y)) (to' y)/\Q y)
 (st:AV.still touch) (hq:∀y,Q y->AV.still (touch' y)/\(to' y).leafy/\(ρ y).noId=true)
 (c t:Nat) (hct:c≠t) (hc:c∈used) (ht:t∈used) (ho:objs c=some (cO l F ty (.rf t 0 tn) now d s touch)) (hto:objs t=some to) (hl:to.leafy) (b:Nat) (hb:∀n∈used,n<b)
 (ha:args=rns (λi=>if i=0 then c else t) args'/\inNs (·∈[0,1]) args') :
 CallSem Tryz.prog f args objs used λu O U=>∃y,Q y/\u=ρ y/\O=onO c t b (cO l F ty (.rf (b+1) 0 tn) (now' y) (d' y) 0 (touch' y)) (to' y) objs/\U=c::(b+1)::used:=by
 have key:=dep_sem (objs:=objs) (used:=used) (args:=args) (keep:=true) (by rw[ciO_kept];exact h) (λi=>if i=0 then c else t) (λi hi j hj=>by
  simp only[List.mem_cons,List.not_mem_nil,or_false] at hi hj;rcases hi with rfl|rfl<;>rcases hj with rfl|rfl<;>simp[hct,Ne.symm hct]) (λi o hoo=>by
  by_cases h0:i=0
  ·subst h0;rw[ciO_0] at hoo;cases hoo;exact ⟨by simp,cO_in st _ (by simp)⟩
  by_cases h1:i=1
  ·subst h1;rw[ciO_1] at hoo;cases hoo;exact ⟨by simp,(leafy_rn (ρ:=λx=>x) hl).2⟩
  ·rw[ciO_s _ _ _ (by omega)] at hoo;cases hoo) (λ_=>⟨_,ciO_0 _ _⟩) (λi o hoo=>by
  by_cases h0:i=0
  ·subst h0;rw[ciO_0] at hoo;cases hoo;rw[cO_rn st];exact ho
  by_cases h1:i=1
  ·subst h1;rw[ciO_1] at hoo;cases hoo;rw[(leafy_rn (p:=λ_=>True) hl).1];exact hto
  ·rw[ciO_s _ _ _ (by omega)] at hoo;cases hoo) (λi hi=>by
  simp only[List.mem_cons,List.not_mem_nil,or_false] at hi;rcases hi with rfl|rfl
  ·exact hc
  ·exact ht) ha b hb (λ_ _=>[0,1]) (λr O' hR=>by
  obtain ⟨y,rfl,rfl,hy⟩:=hR;obtain ⟨st',hl',hn'⟩:=hq y hy;refine ⟨λi o hoo=>?_,(noId_rn1 hn' _root_.id _).2⟩;by_cases h0:i=0
  ·subst h0;rw[ciO_0] at hoo;cases hoo;exact ⟨by simp,cO_in st' _ (by simp)⟩
  by_cases h1:i=1
  ·subst h1;rw[ciO_1] at hoo;cases hoo;exact ⟨by simp,(leafy_rn (ρ:=λx=>x) hl').2⟩
  ·rw[ciO_s _ _ _ (by omega)] at hoo;cases hoo)
 refine ⟨key.1,λF' φ w vs H h1 h2=>(key.2 F' φ w vs H h1 h2).mono ?_⟩;rintro e w' ⟨v,u,O,U,φ',rfl,⟨r,O',⟨y,rfl,rfl,hy⟩,rfl,rfl,rfl⟩,G,H',rv⟩;obtain ⟨st',hl',hn'⟩:=hq y hy;have e1:=dep_ci (t:=t) (hb c hc) (o:=cO l F ty (.rf 1 0 tn) (now' y) (d' y) 0 (touch' y)) (objs:=objs) hl';rw[cO_rn st'] at e1;refine ⟨v,_,_,_,φ',rfl,⟨y,hy,(noId_rn1 hn' _ (λ_=>True)).1,e1,?_⟩,G,H',rv⟩;simp[nmD]
theorem on_upd {c t b:Nat} (hct:c≠t) (hcb:c<b) (htb:t<b) {o to:Ob} {objs:Nat->Option Ob} (hnb:∀n,b<=n->objs n=none):onO c t b o to objs=upd (upd (upd objs t none) (b+1) (some to)) c (some o):=by
 funext n
 simp only[onO,upd];by_cases h1:n=c
 ·rw[if_pos h1,if_pos (Eq.symm h1)]
 rw[if_neg h1,if_neg (Ne.symm h1)];by_cases h2:n=b+1
 ·rw[if_pos h2,if_pos (Eq.symm h2)]
 rw[if_neg h2,if_neg (Ne.symm h2)];by_cases h3:b<=n
 ·rw[if_pos h3,if_neg (by omega),hnb n h3]
 rw[if_neg h3];by_cases h4:n=t
 ·rw[if_pos h4,if_pos (Eq.symm h4)]
 ·rw[if_neg h4,if_neg (Ne.symm h4)]
theorem CALL.feed {F:List (List Int)} {l:List PN} {ty:List Int} {tabs S:List (List It)} {K0:Nat} {tt:Int} {dz:List It} {d:Int} {touch:AV} {st:St} {x:Nat} {K:St->Prop} (c t:Nat) (hct:c≠t) (hc:c∈st.used) (ht:t∈st.used)
 (ho:st.objs c=some (cO l F ty (.rf t 0 tabs.length) S d 0 touch)) (hto:st.objs t=some (doO tabs)) (hcir:CirP F l tabs S) (hz:EvSz F l tabs K0) (hk:(setAt tabs tt).length+dz.length<=K0) (hK:K0<=1000000) (hr:∀x∈dz,x.row.length<1073741824) (htc:Tch F l d touch)
 (b:Nat) (hb:∀n∈st.used,n<b) (hnb:∀n,b<=n->st.objs n=none)
 (k:∀tabs' S' out e d' touch',tabs'.length=tabs.length->Tch F l d' touch'->FeedR F l tabs S tt dz tabs' S' out e ->
  K {regs:=upd st.regs x (.tu [setA out,iA e]),objs:=upd (upd (upd st.objs t none) (b+1) (some (doO tabs'))) c (some (cO l F ty (.rf (b+1) 0 tabs'.length) S' d' 0 touch')),used:=c::(b+1)::st.used}) :
 CALL Tryz.prog 59 [.pt c 0 0,iA tt,setA dz] st (some x) K:=by
 have h:=ci_sem2 (ι:=(List (List It)×List (List It))×(List It×Int)×(Int×AV)) (now:=S) (s:=0) (λy=>y.1.2) (λy=>y.2.2.1) (λy=>y.2.2.2) (λy=>doO y.1.1) (λy=>.tu [setA y.2.1.1,iA y.2.1.2]) (λy=>y.1.1.length=tabs.length/\Tch F l y.2.2.1 y.2.2.2/\FeedR F l tabs S tt dz y.1.1 y.1.2 y.2.1.1 y.2.1.2)
  (args:=[.pt c 0 0,iA tt,setA dz]) ((feed59 F l ty tabs S K0 tt dz d touch hcir hz hk hK hr htc).mono λr O' ⟨tabs',S',out,e,d',touch',h1,h2,h3,h4,h5⟩=>⟨((tabs',S'),(out,e),(d',touch')),h1,h2,h3,h4,h5⟩) (leaf_still (tch_leaf htc)) (λy hy=>⟨leaf_still (tch_leaf hy.2.1),doO_leafy _,rfl⟩) c t hct hc ht ho hto (doO_leafy _) b hb ⟨rfl,by simp[inNs,AV.inN,iA,setA]⟩
 refine .sem _ h λu O U hX=>?_;obtain ⟨⟨⟨tabs',S'⟩,⟨out,e⟩,⟨d',touch'⟩⟩,⟨h1,h2,h3⟩,rfl,rfl,rfl⟩:=hX;simp only at h1 h2 h3;have:=k tabs' S' out e d' touch' h1 h2 h3;rw[h1] at this;rw[on_upd hct (hb c hc) (hb t ht) hnb];exact this
theorem CALL.new {F:List (List Int)} {l:List PN} {st:St} {x:Nat} {K:St->Prop} (hz:PlSz F l) (hp:planE F l=0) (b:Nat) (hb:∀n∈st.used,n<b) (hnb:∀n,b<=n->st.objs n=none)
 (k:K {regs:=upd st.regs x (.tu [.pt b 0 0,iA 0]),objs:=upd (upd st.objs (b+1) (some (doO (nilS F.length)))) b (some (cO l F (lastN F l).types (.rf (b+1) 0 F.length) (nilS l.length) 0 0 .nl)),used:=b::(b+1)::st.used}) :
 CALL Tryz.prog 57 [plA l,formsA F] st (some x) K:=by
 have h':FunSpecD Tryz.prog 57 [plA l,formsA F] (kept false noOb) noOb [] λr O'=>r=.tu [.pt 0 0 0,iA 0]/\O'=ciO (cO l F (lastN F l).types (.rf 1 0 F.length) (nilS l.length) 0 0 .nl) (doO (nilS F.length)):=by rw[kept_false];exact f57 l F hz hp
 obtain ⟨g1,g2⟩:=noIds_rn (ρ:=id) (p:=(·∈([]:List Nat))) [plA l,formsA F] rfl;have key:=dep_sem (objs:=st.objs) (used:=st.used) (args:=[plA l,formsA F]) h' id (by simp) (λi o ho=>by cases ho) (λh=>by cases h) (λi o ho=>by cases ho) (by simp) ⟨g1.symm,g2⟩ b hb (λ_ _=>[0,1]) (λr O' hR=>by
  obtain ⟨rfl,rfl⟩:=hR;refine ⟨λi o hoo=>?_,by simp[AV.inN,inNs,iA]⟩;by_cases h0:i=0
  ·subst h0;rw[ciO_0] at hoo;cases hoo;exact ⟨by simp,cO_in still_nl _ (by simp)⟩
  by_cases h1:i=1
  ·subst h1;rw[ciO_1] at hoo;cases hoo;exact ⟨by simp,(leafy_rn (ρ:=λx=>x) (doO_leafy _)).2⟩
  ·rw[ciO_s _ _ _ (by omega)] at hoo;cases hoo)
 refine .sem _ key λu O U hX=>?_;obtain ⟨r,O',⟨rfl,rfl⟩,rfl,rfl,rfl⟩:=hX;have e1:nmD false (id 0) b=λi=>b+i:=by funext i;simp[nmD]
 have e2:depO false (id 0) b [] (ciO (cO l F (lastN F l).types (.rf 1 0 F.length) (nilS l.length) 0 0 .nl) (doO (nilS F.length))) st.objs=upd (upd st.objs (b+1) (some (doO (nilS F.length)))) b (some (cO l F (lastN F l).types (.rf (b+1) 0 F.length) (nilS l.length) 0 0 .nl)):=by
  funext n
  simp only[depO,Bool.false_eq_true,false_and,if_false,List.map_nil,List.not_mem_nil,e1,upd];by_cases h0:n=b
  ·subst h0;rw[if_pos (Nat.le_refl _),if_pos rfl,Nat.sub_self,ciO_0,Option.map_some,cO_rn still_nl]
  rw[if_neg (Ne.symm h0)];by_cases h1:n=b+1
  ·subst h1;rw[if_pos (by omega),if_pos rfl,show b+1-b=1 by omega,ciO_1,Option.map_some,(leafy_rn (p:=λ_=>True) (doO_leafy _)).1]
  rw[if_neg (Ne.symm h1)];by_cases h2:b<=n
  ·rw[if_pos h2,ciO_s _ _ _ (by omega),hnb n h2];rfl
  ·rw[if_neg h2]
 simp only[St.to,St.put,e1,e2,AV.rn,rns,List.map_cons,List.map_nil,List.cons_append,List.nil_append,Nat.add_zero];exact k
/-! A call that is lent everything, and makes a set, which is let go at once. -/
section
variable {F:Fr} {φ:Nat->Option (Nat×Nat)} {O O':Nat->Option Ob} {U:List Nat} {w:World}
theorem goes_sub (hO:∀i o,O' i=some o->O i=some o):Goes φ φ O O' (·∈U) (·∈U) w w:=
 {hU:=λ_ h=>h
  keeps:=λi _ o' ho'=>⟨o',hO i o' ho',rfl,rfl,Nat.le_refl _,λβ b c e fz h1 h2=>⟨c,e,fz,h2,rfl⟩⟩
  blocks:=λ_ _ _=>rfl
  news:=λi o' β b ho hφ=>.inl ⟨i,o',b,hO i o' ho,hφ⟩
  size:=Nat.le_refl _}
theorem repH_sub (H:RepH F φ O (·∈U) w) (hO:∀i o,O' i=some o->O i=some o):RepH F φ O' (·∈U) w:=by have G:=goes_sub (φ:=φ) (U:=U) (w:=w) hO;refine G.repH H (λi j oi oj β bi bj hi hj=>H.inj i j oi oj β bi bj (hO _ _ hi) (hO _ _ hj)) (λi o ho=>H.inU i o (hO _ _ ho)) (λi o ho=>?_) rfl rfl rfl;exact (H.ob i o (hO _ _ ho)).mono rfl (λβ b hφ=>rfl) λv av r=>G.repV r
theorem ob_ss (H:RepH F φ O (·∈U) w) (hO:∀i o,O' i=some o->O i=some o) {id:Nat} {o:Ob} {β b:Nat} (ho:O id=some o) (hφ:φ id=some (β,b)) (hn:O' id=none):SS F φ O' w β:=by
 refine ⟨H.lt ho hφ,λi oi bi hi hp=>?_,λhlt=>?_⟩
 ·have:=H.inj i id oi o β bi b (hO _ _ hi) ho hp hφ;subst this;rw[hn] at hi;cases hi
 ·rcases H.own id o β b ho hφ with h|h
  ·exact .inr h
  ·omega
theorem rf_im (H:RepH F φ O (·∈U) w) (hO:∀i o,O' i=some o->O i=some o) {id n:Nat} {o:Ob} {es:List (List AV)} {v:Value} (ho:O id=some o) (hn:O' id=none) (hl:o.es.length=n) (hes:es.length=n) (hsz:∀x∈es,x.length=o.sz)
 (hc:∀(i j:Nat) (a a':AV) (u:Value),cellAt o.es i j=some a->cellAt es i j=some a'->u.oneCell'=true->RepV φ O (·∈U) w.heap (SS F φ O w) u a->RdI w.heap (SS F φ O' w) u a')
 (r:RepV φ O (·∈U) w.heap (SS F φ O w) v (.rf id 0 n)):RdI w.heap (SS F φ O' w) v (.im o.sz es):=by
 cases r with
 | rd r=>cases r
 | rf hu hv hr=>
   obtain ⟨g1,g2⟩:=hr o ho;rcases g2 with ⟨h0,a,rfl⟩|⟨β,b,cap,c,e,fz,k1,k2,rfl,k4,k5⟩
   ·have:es=[]:=List.length_eq_zero_iff.1 (by omega);subst this;subst h0;exact .im0 _ _ _
   ·obtain ⟨hel,c',e',fz',hb,_,_,hcc⟩:=ob_at (st:=⟨λ_=>.un,O,U⟩) H ho k1;rw[k2] at hb;cases hb;have hex:∀i j a',cellAt es i j=some a'->∃u,c[b+0*o.sz+i*o.sz+j]?=some u/\RdI w.heap (SS F φ O' w) u a':=by
     intro i j a' hij;obtain ⟨q1,q2⟩:=cellAt_lt (sz:=o.sz) hsz hij;have hi:i<o.es.length:=(by omega);have hj:j<o.es[i].length:=by rw[hel _ (List.getElem_mem hi)];exact q2
     have hcell:cellAt o.es i j=some o.es[i][j]:=(by simp[cellAt,hi,hj]);obtain ⟨u,m1,m2,m3⟩:=hcc i j _ hcell;refine ⟨u,?_,hc i j _ _ u hcell hij m2 m3⟩;rw[Nat.zero_mul,Nat.add_zero];exact m1
    have hfin:=RdI.im (h:=w.heap) (S:=SS F φ O' w) (β:=β) (o:=b+0*o.sz) (cap:=cap) (sz:=o.sz) (c:=c) (e:=e) (fz:=fz) (es:=es) (λi j=>c.getD (b+0*o.sz+i*o.sz+j) undef)
     (ob_ss H hO ho k1 hn) k2 (by omega) hsz
     (λi j av hij=>by obtain ⟨u,m1,_⟩:=hex i j av hij;rw[Array.getD_eq_getD_getElem?,m1];rfl)
     (λi j av hij=>by obtain ⟨u,m1,m2⟩:=hex i j av hij;rw[Array.getD_eq_getD_getElem?,m1];exact m2)
    rw[hes] at hfin;exact hfin
theorem fam_im (H:RepH F φ O (·∈U) w) (hO:∀i o,O' i=some o->O i=some o) {b:Nat} {z:List It} {v:Value} (hb:O b=some ⟨2,famC b z⟩) (hr:∀i (h:i<z.length),O (b+(i+1))=some (ro3 z[i].row)) (hn:∀i,i<=z.length->O' (b+i)=none)
 (r:RepV φ O (·∈U) w.heap (SS F φ O w) v (.rf b 0 z.length)):RdI w.heap (SS F φ O' w) v (setA z):=by
 have G:=goes_sub (φ:=φ) (U:=U) (w:=w) hO;refine rf_im H hO hb (by simpa using hn 0 (Nat.zero_le _)) (famC_len _ _) (by simp) (λx hx=>by obtain ⟨t,_,rfl⟩:=List.mem_map.1 hx;rfl) (λi j a a' u h h' h1 ru=>?_) r;obtain ⟨q1,q2⟩:=cellAt_lt (sz:=2) (λx hx=>by obtain ⟨t,_,rfl⟩:=List.mem_map.1 hx;rfl) h';have hi:i<z.length:=by simpa using q1
 have e1:(famC b z)[i]?=some [.rf (b+(i+1)) 0 z[i].row.length,iA z[i].w]:=by rw[List.getElem?_eq_getElem (by rw[famC_len];exact hi),famC_get hi]
 have e2:(z.map It.c)[i]?=some z[i].c:=by simp[hi]
 simp only[cellAt,e1,e2,Option.bind_some] at h h'
 match j with
 | 0=>
   simp[It.c] at h h';subst h;subst h';exact rf_im H hO (hr i hi) (hn (i+1) (by omega)) (by simp[ro3]) (by simp) (λx hx=>by obtain ⟨t,_,rfl⟩:=List.mem_map.1 hx;rfl) (λi j a a' u h h' h1 ru=>by
    have e:a=a':=Option.some.inj (h.symm.trans h');subst e;exact (leaf_rd ru (leafy_get (ro3_leafy _) h)).mono G.ss) ru
 | 1=>
   simp[It.c] at h h';subst h;subst h';exact (leaf_rd ru rfl).mono G.ss
 | j+2=>simp at h
end
theorem CALL.lendZ {P:Program} {f:Nat} {args args':List AV} {st:St} {x:Nat} {K:St->Prop} {R:List It->Prop} (h:SpecF P f args' λr z=>r=.rf 0 0 z.length/\R z) (hl:lents st.objs args args') (b:Nat) (hb:∀n∈st.used,n<b) (hnb:∀n,b<=n->st.objs n=none)
 (k:∀z,R z->K {regs:=upd st.regs x (setA z),objs:=st.objs,used:=famU b z.length++st.used}):CALL P f args st (some x) K:=by
 classical
 have key:=lendD_sem (used:=st.used) h hl b hb (λr O'=>if h:∃z,((r=.rf 0 0 z.length/\R z)/\r.only0=true)/\O'=famF z then famU 0 h.choose.length else []) (λr O' hR=>by
  rw[dif_pos hR];obtain ⟨⟨q0,q1⟩,q2⟩:=hR.choose_spec;refine ⟨λi o ho=>?_,inN_mono (λi hi=>famU_mem.2 (by omega)) _ (only0_in _ q1),by rw[q0.1];rfl⟩;have ho2:famF hR.choose i=some o:=by rw[<- q2];exact ho
  exact ⟨(famF_closed ho2).1,λx hx=>⟨(famF_closed ho2).2 x hx,famF_new ho2 x hx⟩⟩)
 have key2:CallSem P f args st.objs st.used λu O U=>∃z,R z/\u=setA z/\O=st.objs/\U=famU b z.length++st.used:=by
  refine ⟨key.1,λF φ w vs H h1 h2=>(key.2 F φ w vs H h1 h2).mono ?_⟩;rintro e w' ⟨v,u,O,U,φ',rfl,⟨r,O',hR,rfl,rfl,rfl⟩,G,H',rv⟩;rw[dif_pos hR] at G H' rv;obtain ⟨⟨⟨q0,qR⟩,q1⟩,q2⟩:=hR.choose_spec;generalize hR.choose=z at q0 q1 q2 qR G H' rv;have e2:addO b O' st.objs=famO b z st.objs:=by
   funext n
   simp only[addO,famO];split
   ·rename_i hn;rw[q2,famF_rn,show b+(n-b)=n by omega]
   ·rfl
  have e3:List.map (λi=>b+i) (famU 0 z.length)=famU b z.length:=(by simp[famU]);rw[e2,e3] at G H' rv;have hO:∀i o,st.objs i=some o->famO b z st.objs i=some o:=λi o ho=>by
   have hi:i<b:=by
    false_or_by_contra
    rename_i hc;rw[hnb i (by omega)] at ho;cases ho
   rw[famO_lo (eq_false (by omega))];exact ho
  refine ⟨v,setA z,st.objs,famU b z.length++st.used,φ',rfl,⟨z,qR,rfl,rfl,rfl⟩,G.trans (goes_sub hO),repH_sub H' hO,.rd ?_⟩;refine fam_im H' hO famO_0 (λi hi=>famO_row hi) (λi _=>hnb _ (by omega)) ?_;rw[q0] at rv;simpa [AV.rn] using rv
 refine .sem _ key2 λu O U hX=>?_;obtain ⟨z,hz,rfl,rfl,rfl⟩:=hX;exact k z hz
theorem CALL.out {F:List (List Int)} {l:List PN} {ty:List Int} {tabs S:List (List It)} {K0:Nat} {d:Int} {touch:AV} {st:St} {x:Nat} {K:St->Prop} (c t:Nat) (ho:st.objs c=some (cO l F ty (.rf t 0 tabs.length) S d 0 touch)) (hto:st.objs t=some (doO tabs)) (hcir:CirP F l tabs S) (hz:EvSz F l tabs K0) (htc:Tch F l d touch)
 (b:Nat) (hb:∀n∈st.used,n<b) (hnb:∀n,b<=n->st.objs n=none) (k:K {regs:=upd st.regs x (setA (setAt S (l.length-1:Nat))),objs:=st.objs,used:=famU b (setAt S (l.length-1:Nat)).length++st.used}):CALL Tryz.prog 60 [.pt c 0 0] st (some x) K:=by
 have hlen:=hcir.ran.len;obtain ⟨_,h1,h2,hp⟩:=planE_ok hcir.plan;have hk:l.length-1<S.length:=by omega
 refine CALL.lendZ (args':=[.ro [plA l,formsA F,intsL ty,setsA tabs,setsA S,.pr (.int .u32 d),.pr (.int .i32 0),.pr (.int .u32 0),touch] 0]) (R:=λz=>z=setAt S (l.length-1:Nat)) ((f60 S _ _ _ _ _ _ _ _ (by omega) (by omega) (λz hz2=>?_)).mono λr O' ⟨z,⟨⟨e1,e2⟩,e3⟩,e4⟩=>⟨z,⟨⟨e1,?_⟩,e3⟩,e4⟩) ⟨lent_ci ho hto rfl (tch_leaf htc),trivial⟩ b hb hnb λz hz2=>by subst hz2;exact k
 ·obtain ⟨j,hj,rfl⟩:=mem_setAt hz2;have hl:=hz.out ⟨hcir.plan,hcir.tb⟩ hcir.ran j hj;have hk2:j<(ndsTo F l l.length).length:=by rw[ndsTo_len hp (Nat.le_refl _),<- hlen];exact hj
  rw[setAt_eq (by simpa using hj)];simp only[Int.toNat_natCast];refine ⟨hl,λt ht=>?_⟩;have:=(hcir.ran.sets.nds j hj hk2).row t ht;have:=(hcir.ran.sets.ndb _ (List.getElem_mem hk2)).tl;omega
 ·rw[e2,setAt_eq (by simpa using hk)];simp only[Int.toNat_natCast,hlen]
def lst (l:List PN) (S:List (List It)):List It:=setAt S (l.length-1:Nat)
section
variable {F:List (List Int)} {l:List PN} {tabs S S':List (List It)} {t:Int} {dz next out:List It}
theorem CirP.same (c:CirP F l tabs S) (c':CirP F l tabs S'):S=S':=by
 have h1:=ran_same c.ran c'.ran l.length (Nat.le_refl _) (Nat.le_refl _) (Nat.le_refl _) (Nat.le_refl _) (λj _ _ _=>rfl) (λj _ _ _=>rfl)
 rwa [List.take_of_length_le (by rw[c.ran.len];omega),List.take_of_length_le (by rw[c'.ran.len];omega)] at h1
theorem CirP.nds (c:CirP F l tabs S):Nds (lst l S) (lastN F l)/\Ndb (lastN F l):=by
 have h1:=(planE_ok c.plan).2.1;have hs:l.length-1<S.length:=by rw[c.ran.len];omega
 have:=c.ran.last h1 hs;rw[lst,setAt_eq (by simpa using hs)];simpa using this
theorem CirP.rows (c:CirP F l tabs S):∀t∈lst l S,t.row.length<=12:=λt ht=>by have:=c.nds.1.row t ht;have:=c.nds.2.tl;omega
theorem CirP.len {K:Nat} (c:CirP F l tabs S) (hz:EvSz F l tabs K):(lst l S).length<=25000000:=by
 have h1:=(planE_ok c.plan).2.1;have hs:l.length-1<S.length:=by rw[c.ran.len];omega
 rw[lst,setAt_eq (by simpa using hs)];simpa using hz.out ⟨c.plan,c.tb⟩ c.ran _ hs
theorem CirP.outs {K:Nat} (c:CirP F l tabs S) (hz:EvSz F l tabs K):Out F l tabs (lst l S):=by
 have h1:=(planE_ok c.plan).2.1;have hs:l.length-1<S.length:=by rw[c.ran.len];omega
 exact ⟨⟨S,c.ran,hs,by rw[lst,setAt_eq (by simpa using hs)];simp⟩,c.len hz,c.nds.1,c.nds.2,c.rows⟩
theorem FeedTo.same {n2:List It} (h:FeedTo F tabs t dz next) (h':FeedTo F tabs t dz n2):next=n2:=(addR_same2 h.2.1 h'.2.1).1
theorem feed_ok {tabs':List (List It)} {e:Int} (h:FeedR F l tabs S t dz tabs' S' out e) (hto:FeedTo F tabs t dz next):tabs'=tabs.set t.toNat next/\CirP F l tabs' S'/\Dlt (lst l S) (lst l S') out/\e=0:=by
 rcases h with ⟨h1,_⟩|⟨n2,h1,h2,h3,h4,h5⟩
 ·exact absurd ⟨next,hto⟩ h1
 ·obtain rfl:=hto.same h1;exact ⟨h2,h3,h4,h5⟩
theorem Dlt.len (c:CirP F l tabs S) {tabs':List (List It)} (c':CirP F l tabs' S') (d:Dlt (lst l S) (lst l S') out) {K:Nat} (hz:EvSz F l tabs K) (hz':EvSz F l tabs' K):out.length<=50000000/\∀t∈out,t.row.length<=12:=by obtain ⟨n1,b1⟩:=c.nds;obtain ⟨n2,_⟩:=c'.nds;obtain ⟨h1,h2⟩:=d.nds n1 n2;have:=c.len hz;have:=c'.len hz';refine ⟨by omega,λt ht=>?_⟩;have h3:=h1.row t ht;have:=b1.tl;simp only at h3;omega
theorem feedto_tab {f:List Int} {z:List It} (ht:inC t F.length=true) (hf:F[t.toNat]?=some f) (hz:tabE f z) (h0:setAt tabs t=[]):FeedTo F tabs t z z:=by
 refine ⟨ht,.inr ⟨by rw[h0];exact good_nil,hz.1,?_⟩,by rw[hf];exact hz⟩;rw[h0,List.nil_append];obtain ⟨h1,h2⟩:=good_made.1 hz.1;exact makeR_of (by
  rw[List.any_eq_false];intro u hu;simp[okI,h2 u hu,(h1.nz u hu).2]) hz.1 λ_=>rfl
theorem feedto_neg {f:List Int} {z:List It} (ht:inC t F.length=true) (hf:F[t.toNat]?=some f) (hz:tabE f z) (h0:setAt tabs t=z):FeedTo F tabs t (z.map negI) []:=by
 have hg:=good_neg hz.1;refine ⟨ht,.inr ⟨by rw[h0];exact hz.1,hg,?_⟩,by rw[hf];exact ⟨good_nil,by simp,rfl⟩⟩;rw[h0];obtain ⟨h1,h2⟩:=good_made.1 hz.1;obtain ⟨h3,h4⟩:=good_made.1 hg;exact makeR_of (by
  rw[List.any_eq_false];intro u hu;rcases List.mem_append.1 hu with hu|hu
  ·simp[okI,h2 u hu,(h1.nz u hu).2]
  ·simp[okI,h4 u hu,(h3.nz u hu).2]) good_nil λr=>by rw[tot_append,tot_neg,show tot r []=0 from rfl];omega
end
/-! Tables that are fed one by one. -/
def upT (tabs:List (List It)) (n k:Nat):List (List It):=tabs.take k++nilS (n-k)
theorem upT_0 (tabs:List (List It)) (n:Nat):upT tabs n 0=nilS n:=by simp[upT]
theorem upT_all {tabs:List (List It)} {n:Nat} (h:tabs.length=n):upT tabs n n=tabs:=by subst h;simp[upT,nilS]
theorem upT_len {tabs:List (List It)} {n k:Nat} (h:tabs.length=n) (hk:k<=n):(upT tabs n k).length=n:=by simp[upT,nilS];omega
theorem upT_at {tabs:List (List It)} {n k:Nat} (h:tabs.length=n) (hk:k<n):setAt (upT tabs n k) k=[]:=by
 simp only[upT,setAt,Int.toNat_natCast];rw[List.getElem?_append_right (by simp;omega)];have e:(tabs.take k).length=k:=by simp;omega
 rw[e,Nat.sub_self];have:=setAt_nilS (n-k) 0;simpa [setAt] using this
theorem upT_set {tabs:List (List It)} {n k:Nat} (h:tabs.length=n) (hk:k<n) (hk2:k<tabs.length):(upT tabs n k).set k tabs[k]=upT tabs n (k+1):=by
 have e:(tabs.take k).length=k:=by simp;omega
 simp only[upT];rw[show nilS (n-k)=[]::nilS (n-(k+1)) by rw[show n-k=(n-(k+1))+1 by omega];simp[nilS,List.replicate_succ]];rw[List.set_append_right _ _ (by omega),e,Nat.sub_self,List.set_cons_zero,List.take_succ_eq_append_getElem hk2];simp only[List.append_assoc,List.cons_append,List.nil_append]
theorem upT_mem {tabs:List (List It)} {n k:Nat} {z:List It} (h:z∈upT tabs n k):z∈tabs\/z=[]:=by
 rcases List.mem_append.1 h with h|h
 ·exact .inl (List.mem_of_mem_take h)
 ·exact .inr (nilS_rows _ _ h)
/-! Sizes: as many rows as may be, squared. -/
theorem rowA_sq {S T:List Nat} {r:Nat} (h:T.length=S.length) (hs:∀i (h1:i<S.length) (h2:i<T.length),T[i]<=S[i]*S[i]) (k:Int):rowA_ T (r*r) k<=rowA_ S r k*rowA_ S r k:=by
 simp only[rowA_,h];split
 ·rename_i hk;rw[inC_ok] at hk;have h1:k.toNat<S.length:=(by omega);have h2:k.toNat<T.length:=(by omega);rw[List.getElem?_eq_getElem h1,List.getElem?_eq_getElem h2];exact hs _ h1 h2
 ·exact Nat.le_refl _
theorem rows_sq (r:Nat):∀(l:List PN) (S T:List Nat),T.length=S.length->(∀i (h1:i<S.length) (h2:i<T.length),T[i]<=S[i]*S[i])->∀n∈rowsL (r*r) l T,∃m∈rowsL r l S,n<=m*m
 | [],S,T,h,hs=>λn hn=>by
   obtain ⟨i,hi,rfl⟩:=List.mem_iff_getElem.1 hn;have h1:i<S.length:=by simp only[rowsL] at hi;omega
   exact ⟨S[i],List.getElem_mem _,hs i h1 hi⟩
 | x::l,S,T,h,hs=>by
   refine rows_sq r l _ _ (by simp[h]) λi h1 h2=>?_;by_cases e:i<S.length
   ·rw[List.getElem_append_left e,List.getElem_append_left (by omega)];exact hs i e _
   ·have e2:i=S.length:=by simp at h1;omega
    subst e2;rw[List.getElem_append_right (by omega),List.getElem_append_right (by omega)];simp only[Nat.sub_self,h,List.getElem_singleton];have ra:=rowA_sq (r:=r) h hs x.a;have rb:=rowA_sq (r:=r) h hs x.b;simp only[rowsN];generalize rowA_ T (r*r) x.a=a at *;generalize rowA_ T (r*r) x.b=b at *;generalize rowA_ S r x.a=c at *;generalize rowA_ S r x.b=d at *;split
    ·exact Nat.le_refl _
    split
    ·refine Nat.le_trans (Nat.mul_le_mul ra rb) ?_;rw[Nat.mul_assoc,Nat.mul_assoc,Nat.mul_left_comm c d d];exact Nat.le_refl _
    split
    ·refine Nat.le_trans (Nat.add_le_add ra rb) ?_;rw[Nat.add_mul,Nat.mul_add,Nat.mul_add];omega
    ·exact ra
theorem sq_sz {F:List (List Int)} {l:List PN} {tabs:List (List It)} {r:Nat} (hp:PlSz F l) (hw:wideL r l=false) (hr:r<=1000) (ht:tabs.length<4611686018427387904) (h:∀z∈tabs,z.length<=r*r/\∀t∈z,t.row.length<4611686018427387904):EvSz F l tabs (r*r) where
 pl:=hp
 rows:=h
 big:=by have:=Nat.mul_le_mul hr hr;omega
 many:=ht
 few:=λn hn=>by obtain ⟨m,hm,hle⟩:=rows_sq r l [] [] rfl (by simp) n hn;rw[wideL,List.any_eq_false] at hw;have:=hw m hm;simp only[decide_eq_true_eq] at this;have:=Nat.mul_le_mul (show m<=5000 by omega) (show m<=5000 by omega);omega
end Yt
namespace Yt
open Go Go.Vc
def og17:Ords
 | 1=>some (.lin [Ht 0,Ht 1,Hu 2,Ht 3,Ht 4,Ht 5,Hu 6,Ht 7,Ht 8,Ht 9,Hu 10,Ht 11,Ht 12,Ht 13,Ht 14,Hu 15,Ht 16,Ht 17,Ht 18,Hu 19,Ht 20,Ht 21,Ht 22,Ht 23,Ht 24,Ht 25])
 | 5=>some (.lin [Ht 0,Ht 1,Hu 2,Ht 3,Ht 4,Ht 5,Hu 6,Ht 7,Ht 8,Ht 9,Hu 10,Ht 11,Ht 12,Ht 13])
 | 23=>some (.lin [Ht 0,Ht 1,Ht 2,Ht 3,Hu 4,Ht 5,Ht 6,Ht 7,Ht 8,Ht 9,Ht 10,Ht 11])
 | 28=>some (.lin [Ht 0,Ht 1,Hu 2,Ht 3,Ht 4,Ht 5,Hu 6,Ht 7,Ht 8,Ht 9,Hu 10,Ht 11,Ht 12,Ht 13,Hu 14,Ht 15,Ht 16,Ht 17,Ht 18])
 | 31=>some (.lin [Ht 0,Ht 1,Hu 2,Ht 3,Ht 4,Ht 5,Ht 6,Ht 7,Hu 8,Ht 9,Ht 10,Ht 11,Ht 12,Ht 13,Hu 14,Ht 15,Ht 16,Ht 17])
 | _=>none
@[go_sem] theorem og17_0:og17 0=none:=rfl
attribute [go_sem] og17.eq_1
@[go_sem] theorem og17_2:og17 2=none:=rfl
@[go_sem] theorem og17_3:og17 3=none:=rfl
@[go_sem] theorem og17_4:og17 4=none:=rfl
attribute [go_sem] og17.eq_2
@[go_sem] theorem og17_7:og17 7=none:=rfl
@[go_sem] theorem og17_8:og17 8=none:=rfl
@[go_sem] theorem og17_10:og17 10=none:=rfl
@[go_sem] theorem og17_11:og17 11=none:=rfl
@[go_sem] theorem og17_9:og17 9=none:=rfl
@[go_sem] theorem og17_13:og17 13=none:=rfl
@[go_sem] theorem og17_14:og17 14=none:=rfl
@[go_sem] theorem og17_16:og17 16=none:=rfl
@[go_sem] theorem og17_17:og17 17=none:=rfl
@[go_sem] theorem og17_19:og17 19=none:=rfl
@[go_sem] theorem og17_20:og17 20=none:=rfl
@[go_sem] theorem og17_21:og17 21=none:=rfl
attribute [go_sem] og17.eq_3
@[go_sem] theorem og17_24:og17 24=none:=rfl
@[go_sem] theorem og17_25:og17 25=none:=rfl
@[go_sem] theorem og17_26:og17 26=none:=rfl
@[go_sem] theorem og17_27:og17 27=none:=rfl
attribute [go_sem] og17.eq_4
@[go_sem] theorem og17_18:og17 18=none:=rfl
@[go_sem] theorem og17_15:og17 15=none:=rfl
@[go_sem] theorem og17_30:og17 30=none:=rfl
attribute [go_sem] og17.eq_5
end Yt
namespace Yt
open Go Go.Vc Go.Proofs
theorem wkP:planE [[3]] [wkN]=0:=by decide
theorem wk_sz2 (tabs:List (List It)) (h1:tabs.length<10) (h:∀z∈tabs,z.length<=1/\∀t∈z,t.row.length<4611686018427387904):EvSz [[3]] [wkN] tabs 40 where
 pl:=wk_sz.pl
 rows:=λz hz=>by have:=h z hz;exact ⟨by omega,this.2⟩
 big:=by decide
 many:=by omega
 few:=wk_sz.few
theorem cir_one {F:List (List Int)} {tabs S:List (List It)} (c:CirP F [wkN] tabs S):lst [wkN] S=setAt tabs 0:=by
 have hs:0<S.length:=by rw[c.ran.len];decide
 have:=c.ran.nodes 0 (by decide) hs;simp only[NodeR,List.getElem_cons_zero,wkN,if_true] at this;rw[lst,setAt_eq (by simpa using hs)];simpa using this
theorem lst_nil (l:List PN) (n:Nat):lst l (nilS n)=[]:=setAt_nilS _ _
theorem dlt_up {S S' out z:List It} (h:Dlt S S' out) (e1:S=[]) (e2:S'=z) (hz:Good z):out=z:=by subst e1;subst e2;exact good_eq h.good hz λr=>by rw[h.tot];simp[tot]
theorem r61:Spec0 Tryz.prog 61 [] (·=bA true):=by
 refine spec0_of_vc tabOk elems og61 Tryz.func61 rfl (rl:=[.tmp 0]) rfl (by kernel_rfl) rfl ?_;refine Aw ?_;refine TOG [(10,some 10),(13,some 13)] [(10,.rf 10 0 1),(13,.rf 13 0 1)] [(10,plO [wkN]),(13,fmO [[3]])] [10,13] rfl ?_ ?_
 ·simp -implicitDefEqProofs only[go_sem,PN.c,fmO,iA,intsL,plO,wkN];refine ⟨id,.cons ⟨rfl,rfl,rfl,rfl,rfl,rfl,rfl,rfl,rfl,rfl,rfl,rfl,rfl,rfl,trivial⟩ .nil,.cons ⟨⟨by decide,_,rfl,ints_one 3,rfl,rfl⟩,trivial⟩ .nil⟩
 refine TO [] [(10,plA [wkN]),(13,formsA [[3]])] [] [] rfl ?_ ?_
 ·simp -implicitDefEqProofs only[go_sem,fmO,formsA,plA,plO];exact ⟨id,⟨by simp[olds],plO [wkN],rfl,plO_leafy [wkN],rfl,rfl⟩,by simp[olds],fmO [[3]],rfl,fmO_leafy [[3]],rfl,rfl⟩
 refine Aw ?_;refine CALL.new wk_sz.pl wkP 1000 (by simp) (λn _=>rfl) ?_;have tz:∀z∈nilS ([[3]]:List (List Int)).length,z.length<=1/\∀t∈z,t.row.length<4611686018427387904:=λz hz=>by rw[nilS_rows _ z hz];simp
 have t1:∀z∈[wkT],z.length<=1/\∀t∈z,t.row.length<4611686018427387904:=λz hz=>by rw[List.mem_singleton.1 hz];simp[wkT]
 have c0:=cir_new wkP;have n1:(wkT.map negI)=[⟨[wkV,⟨3,3,ByteArray.empty⟩],-1⟩]:=rfl;refine Ab ?_;refine VIF.f ?_;refine B8 ?_;refine GO ?_;refine B8 ?_;refine TOG [(1000,some 1000),(1001,some 1001),(30,some 30)] [(1,.pt 1000 0 0),(3,rowA [wkV,⟨3,3,ByteArray.empty⟩]),(27,.pt 1000 0 0),(30,.rf 30 0 1)] [(1000,cO [wkN] [[3]] (lastN [[3]] [wkN]).types (.rf 1001 0 1) (nilS 1) 0 0 .nl),(1001,doO (nilS 1)),(30,so wkT)] [1000,1001,30] rfl ?_ ?_
 ·simp -implicitDefEqProofs only[go_sem,It.c,V.c,iA,rowA,so,wkT,wkV];refine ⟨id,⟨by simp[olds],_,rfl,ro3_leafy [wkV,⟨3,3,ByteArray.empty⟩],rfl,rfl⟩,ci_es Ae rfl,sets_eq rfl,.cons ⟨⟨by simp[olds],_,rfl,ro3_leafy [wkV,⟨3,3,ByteArray.empty⟩],rfl,rfl⟩,rfl,trivial⟩ .nil⟩
 refine TO [(1000,some 1000),(1001,some 1001)] [(1,.pt 1000 0 0),(3,rowA [wkV,⟨3,3,ByteArray.empty⟩]),(27,.pt 1000 0 0),(30,setA wkT)] [(1000,cO [wkN] [[3]] (lastN [[3]] [wkN]).types (.rf 1001 0 (nilS 1).length) (nilS 1) 0 0 .nl),(1001,doO (nilS 1))] [1000,1001] rfl ?_ ?_
 ·simp -implicitDefEqProofs only[go_sem,iA,rowA,setA];refine ⟨id,⟨by simp[olds],so wkT,rfl,so_leafy wkT,rfl,rfl⟩,⟨rfl,ci_es Ae rfl⟩,sets_eq rfl⟩
 refine B8 ?_;refine CALL.feed (ty:=(lastN [[3]] [wkN]).types) (K0:=40) 1000 1001 (by decide) (by simp) (by simp) Ae Ae c0 (wk_sz2 _ (by simp[nilS]) tz) (by rw[setAt_nilS];decide) (by decide) (by simp[wkT]) (.inl ⟨rfl,rfl⟩) 2000 (by simp) (λn hn=>by simp only[upd];(repeat rw[if_neg (by omega)]);rfl) ?_;intro tabs' S' out e d' touch' hl' htc hq;obtain ⟨e1,c1,dl,rfl⟩:=feed_ok hq (feedto_tab (f:=[3]) (z:=wkT) (by decide) rfl wkT_tab (setAt_nilS _ _));obtain rfl:tabs'=[wkT]:=e1;have s1:=cir_one c1;obtain rfl:out=wkT:=dlt_up dl (lst_nil _ _) (s1.trans rfl) wkT_tab.1;have z1:=wk_sz2 [wkT] (by simp) t1;have l1:lst [wkN] S'=wkT:=s1.trans rfl;refine Ab ?_;refine CALL.out (ty:=(lastN [[3]] [wkN]).types) (tabs:=[wkT]) (K0:=40) 1000 2001 Ae Ae c1 z1 htc 3000 (by simp) (λn hn=>by simp only[upd];(repeat rw[if_neg (by omega)]);rfl) ?_;rw[show setAt S' (([wkN]:List PN).length-1:Nat)=wkT from l1];refine De ?_;refine ⟨by simp[famU_mem],?_⟩;refine De ?_;refine TOG [(1000,some 1000),(1001,some 2001),(41,some 41)] [(1,.pt 1000 0 0),(2,iA 0),(4,setA wkT),(5,iA 1),(38,.pt 1000 0 0),(41,.rf 41 0 1)] [(1000,cO [wkN] [[3]] (lastN [[3]] [wkN]).types (.rf 1001 0 ([wkT]:List (List It)).length) S' d' 0 touch'),(1001,doO [wkT]),(41,so (wkT.map negI))] [1000,1001,41] rfl ?_ ?_
 ·simp -implicitDefEqProofs only[go_sem,It.c,V.c,iA,n1,rowA,setA,so,wkV];refine ⟨by simp[famU_mem],rfl,⟨rfl,ci_es Ae (tch_leaf htc)⟩,sets_eq rfl,.cons ⟨wk_leaf rfl,rfl,trivial⟩ .nil⟩
 refine TO [(1000,some 1000),(1001,some 1001)] [(1,.pt 1000 0 0),(2,iA 0),(4,setA wkT),(5,iA 1),(38,.pt 1000 0 0),(41,setA (wkT.map negI))] [(1000,cO [wkN] [[3]] (lastN [[3]] [wkN]).types (.rf 1001 0 ([wkT]:List (List It)).length) S' d' 0 touch'),(1001,doO [wkT])] [1000,1001] rfl ?_ ?_
 ·simp -implicitDefEqProofs only[go_sem,iA,rowA,setA];refine ⟨id,⟨by simp[olds],so (wkT.map negI),rfl,so_leafy _,rfl,rfl⟩,ci_es Ae (tch_leaf htc),sets_eq rfl⟩
 refine B8 ?_;refine CALL.feed (ty:=(lastN [[3]] [wkN]).types) (K0:=40) 1000 1001 (by decide) (by simp) (by simp) Ae Ae c1 z1 (by decide) (by decide) (by simp[wkT,negI]) htc 2000 (by simp) (λn hn=>by simp only[upd];(repeat rw[if_neg (by omega)]);rfl) ?_;intro tabs2 S2 out e d2 touch2 hl2 htc2 hq;obtain ⟨e2,c2,dl2,rfl⟩:=feed_ok hq (feedto_neg (f:=[3]) (z:=wkT) (by decide) rfl wkT_tab rfl);obtain rfl:tabs2=[[]]:=e2;have l2:lst [wkN] S2=[]:=(cir_one c2).trans rfl;refine Ab ?_;refine Bh ?_;refine CALL.out (ty:=(lastN [[3]] [wkN]).types) (tabs:=[[]]) (K0:=40) 1000 2001 Ae Ae c2 (wk_sz2 [[]] (by simp) (by simp)) htc2 3000 (by simp) (λn hn=>by simp only[upd];(repeat rw[if_neg (by omega)]);rfl) ?_;rw[show setAt S2 (([wkN]:List PN).length-1:Nat)=[] from l2];refine Al ?_;rfl
def dnT (tabs:List (List It)) (k:Nat):List (List It):=nilS k++tabs.drop k
theorem dnT_0 (tabs:List (List It)):dnT tabs 0=tabs:=by simp[dnT,nilS]
theorem dnT_all {tabs:List (List It)} {n:Nat} (h:tabs.length=n):dnT tabs n=nilS n:=by subst h;simp[dnT]
theorem dnT_len {tabs:List (List It)} {k:Nat} (hk:k<=tabs.length):(dnT tabs k).length=tabs.length:=by simp[dnT,nilS];omega
theorem dnT_at {tabs:List (List It)} {k:Nat} (hk:k<tabs.length):setAt (dnT tabs k) k=tabs[k]:=by simp only[dnT,setAt,Int.toNat_natCast];rw[List.getElem?_append_right (by simp[nilS])];simp[nilS,hk]
theorem dnT_set {tabs:List (List It)} {k:Nat} (hk:k<tabs.length):(dnT tabs k).set k []=dnT tabs (k+1):=by simp only[dnT];rw[List.set_append_right _ _ (by simp[nilS]),List.drop_eq_getElem_cons hk];simp only[nilS,List.length_replicate,Nat.sub_self,List.set_cons_zero,List.replicate_succ',List.append_assoc,List.cons_append,List.nil_append]
theorem dnT_mem {tabs:List (List It)} {k:Nat} {z:List It} (h:z∈dnT tabs k):z∈tabs\/z=[]:=by
 rcases List.mem_append.1 h with h|h
 ·exact .inr (nilS_rows _ _ h)
 ·exact .inl (List.mem_of_mem_drop h)
theorem some_sz {F:List (List Int)} {l:List PN} {tabs U:List (List It)} {r:Nat} (hP:LawP l F) (hT:LawT tabs) (g3:heavyT tabs=false) (g4:wideL r l=false) (hr:r<=1000) (hr2:40<=r*r) (hn:U.length<=tabs.length) (h:∀z∈U,z∈tabs\/z=[]):EvSz F l U (r*r):=by
 obtain ⟨h1,h2⟩:=heavyT_ok g3;refine sq_sz hP.sz g4 hr (by have:=hT.len;omega) λz hz=>?_;rcases h z hz with h|rfl
 ·exact ⟨by have:=h2 z h;omega,hT.rr z h⟩
 ·simp
theorem cir_sz {F:List (List Int)} {l:List PN} {tabs S:List (List It)} {r:Nat} (hp:PlSz F l) (hw:wideL r l=false) (hr:r<=1000) (hc:CirP F l tabs S) (h:∀z∈tabs,z.length<=r*r):EvSz F l tabs (r*r):=by obtain ⟨hF,_⟩:=planE_ok hc.plan;refine sq_sz hp hw hr (by rw[hc.tb.1];have:=hp.fl;omega) λz hz=>⟨h z hz,λt ht=>?_⟩;have:=(hc.tb.rows hF z hz).2 t ht;omega
theorem good_one {z:List It} (h:Good z) {t:It} (ht:t∈z):Good [t]:=by obtain ⟨h1,h2⟩:=good_made.1 h;exact good_made.2 ⟨⟨List.pairwise_singleton _ _,λu hu=>by rw[List.mem_singleton.1 hu];exact h1.nz t ht⟩,λu hu=>by rw[List.mem_singleton.1 hu];exact h2 t ht⟩
theorem good_any {z:List It} (h:Good z):(z.any λt=>!okI t)=false:=by obtain ⟨h1,h2⟩:=good_made.1 h;rw[List.any_eq_false];intro u hu;simp[okI,h2 u hu,(h1.nz u hu).2]
theorem okAny_app {a b:List It} (ha:(a.any λt=>!okI t)=false) (hb:(b.any λt=>!okI t)=false):((a++b).any λt=>!okI t)=false:=by rw[List.any_append,ha,hb];rfl
theorem feedto_back {F:List (List Int)} {tabs:List (List It)} {t:Int} {dz next:List It} (ht:TabsE F tabs) (h:FeedTo F tabs t dz next):Good dz/\FeedTo F (tabs.set t.toNat next) t (dz.map negI) (setAt tabs t):=by
 obtain ⟨h1,h2,h3⟩:=h.lt ht;have hg:Good dz/\Good (setAt tabs t)/\MakeR (setAt tabs t++dz) next 0:=by
  rcases h.2.1 with ⟨_,_,h4⟩|⟨h4,h5,h6⟩
  ·cases h4
  ·exact ⟨h5,h4,h6⟩
 refine ⟨hg.1,h.1,.inr ⟨by rw[h.at_ ht];exact h.2.2.1,good_neg hg.1,?_⟩,?_⟩
 ·rw[h.at_ ht];refine makeR_of (okAny_app (good_any h.2.2.1) (good_any (good_neg hg.1))) hg.2.1 λr=>?_;rw[tot_append,tot_neg,(makeR_z hg.2.2).2,tot_append];omega
 ·rw[List.getElem?_eq_getElem h2,setAt_eq h3];exact ht.2 _ h2 h3
theorem good_take {z:List It} (h:Good z) (i:Nat):Good (z.take i):=by obtain ⟨h1,h2⟩:=good_made.1 h;exact good_made.2 ⟨⟨List.Pairwise.sublist (List.take_sublist i z) h1.pw,λt ht=>h1.nz t (List.mem_of_mem_take ht)⟩,λt ht=>h2 t (List.mem_of_mem_take ht)⟩
theorem tab_take {f:List Int} {z:List It} (h:tabE f z) (i:Nat):tabE f (z.take i):=by refine ⟨good_take h.1 i,by have:=h.2.1;rw[List.length_take];omega,?_⟩;have:=h.2.2;rw[List.any_eq_false] at this ⊢;exact λt ht=>this t (List.mem_of_mem_take ht)
theorem feedto_snoc {F:List (List Int)} {tabs:List (List It)} {t:Int} {f:List Int} {z:List It} {i:Nat} (ht:inC t F.length=true) (hf:F[t.toNat]?=some f) (hz:tabE f z) (hi:i<z.length) (h0:setAt tabs t=z.take i):FeedTo F tabs t [z[i]] (z.take (i+1)):=by have hm:z[i]∈z:=List.getElem_mem hi;refine ⟨ht,.inr ⟨by rw[h0];exact good_take hz.1 _,good_one hz.1 hm,?_⟩,by rw[hf];exact tab_take hz _⟩;rw[h0];refine makeR_of (okAny_app (good_any (good_take hz.1 _)) (good_any (good_one hz.1 hm))) (good_take hz.1 _) λr=>?_;rw[List.take_succ_eq_append_getElem hi]
theorem to_and_fro {F:List (List Int)} {l:List PN} {tabs tabs' S S':List (List It)} {d x s:List It} {k:Int} (c:CirP F l tabs S) (c':CirP F l tabs' S') (h1:Dlt (lst l S') (lst l S) d) (h2:Dlt (lst l S) (lst l S') x) (ha:AddR d x s k):k=0/\s=[]:=by obtain ⟨n1,b1⟩:=c.nds;obtain ⟨n2,_⟩:=c'.nds;have:=b1.w1;obtain ⟨e1,e2,e3,_⟩:=nd_add (h1.nds n2 n1).1 (h2.nds n1 n2).1 rfl (by simp only;omega) ha;exact ⟨e1,good_eq e2.good good_nil λr=>by rw[e3,h1.tot,h2.tot];simp[tot];omega⟩
def inT (tabs:List (List It)) (k:Nat) (z:List It) (i:Nat):List (List It):=(dnT tabs (k+1)).set k (z.take i)
theorem inT_len {tabs:List (List It)} {k i:Nat} {z:List It} (hk:k<tabs.length):(inT tabs k z i).length=tabs.length:=by rw[inT,List.length_set,dnT_len (by omega)]
theorem inT_at {tabs:List (List It)} {k i:Nat} {z:List It} (hk:k<tabs.length):setAt (inT tabs k z i) (k:Nat)=z.take i:=by
 have:k<(inT tabs k z i).length:=by rw[inT_len hk];exact hk
 rw[setAt_eq (by simpa using this)];simp[inT]
theorem inT_set {tabs:List (List It)} {k i i':Nat} {z:List It}:(inT tabs k z i).set k (z.take i')=inT tabs k z i':=by rw[inT,List.set_set,inT]
theorem dnT_nil {tabs:List (List It)} {k:Nat} (hk:k<tabs.length):setAt (dnT tabs (k+1)) (k:Nat)=[]:=by simp only[dnT,setAt,Int.toNat_natCast];rw[List.getElem?_append_left (by simp[nilS])];have:=setAt_nilS (k+1) (k:Nat);simpa [setAt] using this
theorem inT_0 {tabs:List (List It)} {k:Nat} {z:List It} (hk:k<tabs.length):inT tabs k z 0=dnT tabs (k+1):=by
 have h1:k<(dnT tabs (k+1)).length:=by rw[dnT_len (by omega)];exact hk
 have h2:=dnT_nil hk;rw[setAt_eq (by simpa using h1)] at h2;have h3:(dnT tabs (k+1))[k]=[]:=by simpa using h2
 rw[inT,List.take_zero];refine List.ext_getElem (by simp) λj q1 q2=>?_;by_cases e:k=j
 ·subst e;simp[h3]
 ·rw[List.getElem_set_ne e]
theorem inT_all {tabs:List (List It)} {k:Nat} (hk:k<tabs.length):inT tabs k tabs[k] tabs[k].length=dnT tabs k:=by
 rw[inT,List.take_length,<- dnT_set hk,List.set_set];have h1:k<(dnT tabs k).length:=by rw[dnT_len (by omega)];exact hk
 have h2:=dnT_at hk;rw[setAt_eq (by simpa using h1)] at h2;have h3:(dnT tabs k)[k]=tabs[k]:=by simpa using h2
 rw[<- h3,List.set_getElem_self]
theorem inT_mem {tabs:List (List It)} {k i:Nat} {z y:List It} (h:y∈inT tabs k z i):y∈tabs\/y=[]\/y.length<=z.length:=by
 rcases List.mem_or_eq_of_mem_set h with h1|rfl
 ·rcases dnT_mem h1 with h1|h1
  ·exact .inl h1
  ·exact .inr (.inl h1)
 ·exact .inr (.inr (by simp;omega))
theorem l17 (l:List PN) (F:List (List Int)) (tabs:List (List It)) (ord:List Int) (hP:LawP l F) (hT:LawT tabs) (hor:ord.length<=1048576):Spec0 Tryz.prog 17 [plA l,formsA F,setsA tabs,intsL ord] (·=bA true):=by
 have hl:l.length<4611686018427387904:=by have:=hP.ll;omega
 have hl':l.length<1073741824:=by have:=hP.ll;omega
 have hf:F.length<4611686018427387904:=by have:=hP.fl;omega
 refine spec0_of_vc tabOk elems og17 Tryz.func17 rfl (rl:=[.tmp 8]) rfl (by kernel_rfl) rfl ?_;(simp -implicitDefEqProofs only[go_sem,formsA,intsL,plA,setsA];repeat (refine GO ?_;simp -implicitDefEqProofs only[go_sem,formsA,intsL,plA,setsA]));refine .pure _ (show Spec0 Tryz.prog 19 [plA l] _ from h19 l hl) rfl λq hq _=>?_;subst hq;refine Ad ?_;refine VIF.split (λ_=>?_) (λg1=>?_)
 ·exact Ai
 refine Aa ?_;refine .pure _ (show Spec0 Tryz.prog 20 [formsA F] _ from h20 F hf) rfl λq hq _=>?_;subst hq;refine Ad ?_;refine VIF.split (λ_=>?_) (λg2=>?_)
 ·exact Ai
 refine Aa ?_;refine .pure _ (show Spec0 Tryz.prog 21 [setsA tabs] _ from h21 tabs hT.lt hT.zz hT.rr) rfl λq hq _=>?_;subst hq;refine Ad ?_;refine VIF.split (λ_=>?_) (λg3=>?_)
 ·exact Ai
 refine Ab ?_;refine VIF.split (λ_=>?_) (λg6=>?_)
 ·exact Ai
 refine Ab ?_;refine .pure _ (show Spec0 Tryz.prog 22 [plA l,iA (30:Nat)] _ from h22 l 30 hl' (by decide)) rfl λq hq _=>?_;subst hq;refine Ad ?_;refine VIF.split (λ_=>?_) (λg4=>?_)
 ·exact Ai
 refine Aa ?_;refine .pure _ (show Spec0 Tryz.prog 35 [plA l,formsA F,setsA tabs] _ from r35 F l tabs hP.sz hT.lt hT.both) rfl λq hq _=>?_;obtain ⟨ok,rfl,hok⟩:=hq;refine Ad ?_;refine VIF.split (λ_=>?_) (λg5=>?_)
 ·exact Ai
 have g1:heavyP l=false:=by simpa using g1
 have g2:heavyF F=false:=by simpa using g2
 have g3:heavyT tabs=false:=by simpa using g3
 have g4:wideL 30 l=false:=by simpa using g4
 have g5:ok=true:=by simpa using g5
 have hR:RightP F l tabs:=hok.1 g5;obtain ⟨hF,hl1,hl2,hp⟩:=planE_ok hR.1;have htn:tabs.length=F.length:=hR.2.1;obtain ⟨ht10,ht40⟩:=heavyT_ok g3;have sz:=λ(U:List (List It)) hn h=>some_sz (F:=F) (l:=l) (tabs:=tabs) (U:=U) (r:=30) hP hT g3 g4 (by decide) (by decide) hn h;refine Aa ?_;refine CALL.new hP.sz hR.1 1000 (by simp) (λn hn=>by simp only[upd];(repeat rw[if_neg (by omega)]);rfl) ?_;refine Ab ?_;refine CALL.new hP.sz hR.1 1100 (by simp) (λn hn=>by simp only[upd];(repeat rw[if_neg (by omega)]);rfl) ?_;refine Ab ?_;refine Ah ?_;have c0:=cir_new hR.1;have n0:(nilS F.length).length=F.length:=by simp[nilS]
 refine LOOP.mk (ι:={p:Nat×List (List It)×Int×AV//p.1<=F.length/\CirP F l (upT tabs F.length p.1) p.2.1/\Tch F l p.2.2.1 p.2.2.2}) (λp=>mkS [(0,plA l),(1,formsA F),(2,setsA tabs),(3,intsL ord),(9,.pt 1000 0 0),(11,.pt 1100 0 0),(13,iA p.1.1)]
  [(1000,cO l F (lastN F l).types (.rf 1001 0 (upT tabs F.length p.1.1).length) p.1.2.1 p.1.2.2.1 0 p.1.2.2.2),(1001,doO (upT tabs F.length p.1.1)),(1100,cO l F (lastN F l).types (.rf 1101 0 (nilS F.length).length) (nilS l.length) 0 0 .nl),(1101,doO (nilS F.length))] [1000,1001,1100,1101]) (λp=>F.length-p.1.1)
  ⟨(0,nilS l.length,0,.nl),Nat.zero_le _,by rw[upT_0];exact c0,.inl ⟨rfl,rfl⟩⟩ [(1000,some 1000),(1001,some 1001),(1100,some 1100),(1101,some 1101)] rfl rfl ?_ (λp=>?_)
 ·(simp -implicitDefEqProofs only[go_sem,formsA,iA,intsL,n0,plA,setsA,upT_0];repeat (refine GO ?_;simp -implicitDefEqProofs only[go_sem,formsA,iA,intsL,n0,plA,setsA,upT_0]));exact ⟨id,rfl,ci_es Ae rfl,sets_eq rfl,ci_es Ae rfl,sets_eq rfl⟩
 obtain ⟨⟨k,S,d,touch⟩,hk,hc,htc⟩:=p;simp only at hk hc htc;refine H7 ?_;refine VIF.split (λk1=>?_) (λk1=>?_)
 ·have k1:k<tabs.length:=(by simpa using k1);have w1:=wrap_add1 (show k<4611686018427387904 by omega);have hzs:=(hT.zl _ (List.getElem_mem k1));have hz4:=(ht40 _ (List.getElem_mem k1));have hzk:=sz (upT tabs F.length k) (by rw[upT_len htn hk];omega) λz hz=>upT_mem hz;have hto:=feedto_tab (F:=F) (tabs:=upT tabs F.length k) (t:=k) (inC_ok.2 ⟨by omega,by omega⟩) (List.getElem?_eq_getElem (by simpa using (show k<F.length by omega))) (hR.2.2 k (by omega) k1) (upT_at htn (by omega));have hus:=upT_set htn (show k<F.length by omega) k1;refine Ab ?_;refine EL.map k1 ?_;refine Ab ?_;refine CALL.feed (ty:=(lastN F l).types) (K0:=30*30) 1000 1001 (by decide) (by simp) (by simp) Ae Ae hc hzk (by rw[upT_at htn (by omega)];simp;omega) (by decide) (λx hx=>by have:=hT.rl _ (List.getElem_mem k1) x hx;omega) htc 2000 (by simp) (λn hn=>by simp only[upd];(repeat rw[if_neg (by omega)]);rfl) ?_;intro tabs' S' out e d' touch' hl' htc' hq;obtain ⟨e1,hc',dl,rfl⟩:=feed_ok hq hto;rw[show ((k:Nat):Int).toNat=k from rfl,hus] at e1;subst e1;refine Ab ?_;refine VIF.f ?_;refine Ba ?_;refine BACK.mk ⟨(k+1,S',d',touch'),by show k+1<=F.length;omega,hc',htc'⟩ [(1000,some 1000),(1001,some 2001),(1100,some 1100),(1101,some 1101)] rfl rfl (by show F.length-(k+1)<F.length-k;omega) ?_;(simp -implicitDefEqProofs only[go_sem,formsA,iA,intsL,plA,setsA,w1];repeat (refine GO ?_;simp -implicitDefEqProofs only[go_sem,formsA,iA,intsL,plA,setsA,w1]));exact ⟨id,⟨rfl,ci_es Ae (tch_leaf htc')⟩,sets_eq rfl,ci_es Ae rfl,sets_eq rfl⟩
 have k1:k=F.length:=by simp at k1;omega
 subst k1;have uA:=upT_all htn;rw[uA] at hc;have hzt:=sz tabs (by omega) λz hz=>.inl hz;have hol:=hc.len hzt;have hrw:=hc.rows;have dA:=dnT_all htn;have wn:IntKind.i64.wrap ((tabs.length:Int)-1)=(tabs.length:Int)-1:=by rw[wrap_i64]<;>omega
 (simp -implicitDefEqProofs only[go_sem,iA,uA,wn];repeat (refine GO ?_;simp -implicitDefEqProofs only[go_sem,iA,uA,wn]))
 refine LOOP.mk (ι:={p:Nat×List (List It)×Int×AV//p.1<=tabs.length/\CirP F l (dnT tabs p.1) p.2.1/\Tch F l p.2.2.1 p.2.2.2}) (λp=>mkS [(0,plA l),(1,formsA F),(2,setsA tabs),(3,intsL ord),(9,.pt 1000 0 0),(11,.pt 1100 0 0),(16,iA ((p.1.1:Int)-1))]
  [(1000,cO l F (lastN F l).types (.rf 1001 0 tabs.length) S d 0 touch),(1001,doO tabs),(1100,cO l F (lastN F l).types (.rf 1101 0 (dnT tabs p.1.1).length) p.1.2.1 p.1.2.2.1 0 p.1.2.2.2),(1101,doO (dnT tabs p.1.1))] [1000,1001,1100,1101]) (λp=>p.1.1)
  ⟨(tabs.length,nilS l.length,0,.nl),Nat.le_refl _,by rw[dnT_all rfl,htn];exact c0,.inl ⟨rfl,rfl⟩⟩ [(1000,some 1000),(1001,some 1001),(1100,some 1100),(1101,some 1101)] rfl rfl ?_ (λp=>?_)
 ·have dB:dnT tabs tabs.length=nilS F.length:=(by rw[dnT_all rfl,htn]);(simp -implicitDefEqProofs only[go_sem,dB,formsA,iA,intsL,n0,plA,setsA];repeat (refine GO ?_;simp -implicitDefEqProofs only[go_sem,dB,formsA,iA,intsL,n0,plA,setsA]));exact ⟨id,ci_es Ae (tch_leaf htc),sets_eq rfl,ci_es Ae rfl,sets_eq rfl⟩
 obtain ⟨⟨m,S2,d2,touch2⟩,hm,hcm,htc2⟩:=p;simp only at hm hcm htc2;refine H7 ?_;cases m with
 | zero=>
   rw[dnT_0] at hcm;have dC:=dnT_0 tabs;refine VIF.split (λm1=>absurd (by simpa using m1) (show ¬(0:Int)<=((0:Nat):Int)-1 by omega)) (λm1=>?_);have eS:=hcm.same hc;subst eS;(simp -implicitDefEqProofs only[go_sem,dC,iA];repeat (refine GO ?_;simp -implicitDefEqProofs only[go_sem,dC,iA]));refine .pure _ (show Spec0 Tryz.prog 26 [plA l,formsA F,setsA tabs] _ from d26 F l tabs (30*30) hzt) rfl λq hq _=>?_;obtain ⟨z,e,rfl,hq⟩:=hq;obtain ⟨rfl,hO⟩:=hq.out hzt hR;obtain rfl:=hO.same (hc.outs hzt);refine Ab ?_;refine Ah ?_;refine CALL.out (ty:=(lastN F l).types) (K0:=30*30) 1000 1001 Ae Ae hc hzt htc 5000 (by simp) (λn hn=>by simp only[upd];(repeat rw[if_neg (by omega)]);rfl) ?_;rw[show setAt S2 (l.length-1:Nat)=lst l S2 from rfl];refine Ab ?_;refine .pure _ (show Spec0 Tryz.prog 30 [setA (lst l S2),setA (lst l S2)] _ from s18 (lst l S2) (lst l S2) (by omega) (by omega) (λt ht=>by have:=hrw t ht;omega)) rfl λq hq _=>?_;obtain ⟨b,rfl,hb⟩:=hq;have hb:b=true:=hb.2 rfl;subst hb;refine Ad ?_;refine D3 ?_;refine CALL.out (ty:=(lastN F l).types) (K0:=30*30) 1100 1101 Ae Ae hc hzt htc2 3000000000 (by
    intro n hn;rcases List.mem_append.1 hn with h|h
    ·have:=famU_mem.1 h;omega
    ·simp at h;omega) (λn hn=>by simp only[upd];(repeat rw[if_neg (by omega)]);rfl) ?_
   rw[show setAt S2 (l.length-1:Nat)=lst l S2 from rfl];refine Ab ?_;refine .pure _ (show Spec0 Tryz.prog 30 [setA (lst l S2),setA (lst l S2)] _ from s18 (lst l S2) (lst l S2) (by omega) (by omega) (λt ht=>by have:=hrw t ht;omega)) rfl λq hq _=>?_;obtain ⟨b,rfl,hb⟩:=hq;have hb:b=true:=hb.2 rfl;subst hb;refine Ad ?_;refine D3 ?_;refine .pure _ (show Spec0 Tryz.prog 61 [] _ from r61) rfl λq hq _=>?_;subst hq;exact Ai
 | succ k=>
   have k1:k<tabs.length:=hm;have e0:((k+1:Nat):Int)-1=k:=(by omega);have wd:IntKind.i64.wrap ((k:Int)-1)=(k:Int)-1:=by rw[wrap_i64]<;>omega
   refine VIF.split (λ_=>?_) (λm1=>absurd m1 (by simp));have hkF:k<F.length:=(by omega);have hzs:=(hT.zl _ (List.getElem_mem k1));have hz4:=(ht40 _ (List.getElem_mem k1));have hrr:∀x∈tabs[k],x.row.length<1073741824:=λx hx=>by have:=hT.rl _ (List.getElem_mem k1) x hx;omega
   have hte:=hR.2.2 k hkF k1;have hfk:F[((k:Nat):Int).toNat]?=some F[k]:=List.getElem?_eq_getElem hkF;have hik:inC ((k:Nat):Int) F.length=true:=inC_ok.2 ⟨by omega,by omega⟩;have hsz:∀i,∀y∈inT tabs k tabs[k] i,y.length<=30*30:=λi y hy=>by
    rcases inT_mem hy with h|rfl|h
    ·have:=ht40 y h;omega
    ·simp
    ·omega
   refine Hd ?_
   refine LOOP.mk (ι:={p:Nat×List (List It)×Int×AV//p.1<=tabs[k].length/\CirP F l (inT tabs k tabs[k] p.1) p.2.1/\Tch F l p.2.2.1 p.2.2.2}) (λp=>mkS [(0,plA l),(1,formsA F),(2,setsA tabs),(3,intsL ord),(9,.pt 1000 0 0),(11,.pt 1100 0 0),(16,iA k),(17,iA p.1.1)]
    [(1000,cO l F (lastN F l).types (.rf 1001 0 tabs.length) S d 0 touch),(1001,doO tabs),(1100,cO l F (lastN F l).types (.rf 1101 0 (inT tabs k tabs[k] p.1.1).length) p.1.2.1 p.1.2.2.1 0 p.1.2.2.2),(1101,doO (inT tabs k tabs[k] p.1.1))] [1000,1001,1100,1101]) (λp=>tabs[k].length-p.1.1)
    ⟨(0,S2,d2,touch2),Nat.zero_le _,by rw[inT_0 k1];exact hcm,htc2⟩ [(1000,some 1000),(1001,some 1001),(1100,some 1100),(1101,some 1101)] rfl rfl ?_ (λp=>?_)
   ·have i0:=inT_0 (z:=tabs[k]) k1;(simp -implicitDefEqProofs only[go_sem,formsA,i0,iA,intsL,plA,setsA];repeat (refine GO ?_;simp -implicitDefEqProofs only[go_sem,formsA,i0,iA,intsL,plA,setsA]));exact ⟨id,rfl,ci_es Ae (tch_leaf htc),sets_eq rfl,ci_es Ae (tch_leaf htc2),sets_eq rfl⟩
   obtain ⟨⟨i,S3,d3,touch3⟩,hi,hcm3,htc3⟩:=p;simp only at hi hcm3 htc3;refine H7 ?_;refine EL.map k1 ?_;refine Al ?_;refine VIF.split (λi1=>?_) (λi1=>?_)
   rotate_left
   ·have i1:i=tabs[k].length:=by simp at i1;omega
    subst i1;have iA1:=inT_all k1;rw[iA1] at hcm3;(simp -implicitDefEqProofs only[go_sem,iA,iA1,wd];repeat (refine GO ?_;simp -implicitDefEqProofs only[go_sem,iA,iA1,wd]));refine BACK.mk ⟨(k,S3,d3,touch3),by show k<=tabs.length;omega,hcm3,htc3⟩ [(1000,some 1000),(1001,some 1001),(1100,some 1100),(1101,some 1101)] rfl rfl (by show k<k+1;omega) ?_;(simp -implicitDefEqProofs only[go_sem,formsA,iA,intsL,plA,setA,setsA,wd];repeat (refine GO ?_;simp -implicitDefEqProofs only[go_sem,formsA,iA,intsL,plA,setA,setsA,wd]));exact ⟨id,ci_es Ae (tch_leaf htc),sets_eq rfl,ci_es Ae (tch_leaf htc3),sets_eq rfl⟩
   have i1:i<tabs[k].length:=(by simpa using i1);have w1:=wrap_add1 (show i<4611686018427387904 by omega);have hto:=feedto_snoc (F:=F) (tabs:=inT tabs k tabs[k] i) (t:=k) hik hfk hte i1 (inT_at k1);have hzi:=cir_sz hP.sz g4 (by decide) hcm3 (hsz i);have hri:=hrr _ (List.getElem_mem i1);(simp -implicitDefEqProofs only[go_sem,iA,setA,setsA];repeat (refine GO ?_;simp -implicitDefEqProofs only[go_sem,iA,setA,setsA]));refine EL.map k1 ?_;refine Al ?_;refine EL.map i1 ?_;simp -implicitDefEqProofs only[go_sem,It.c,iA]
   refine TO [(1000,some 1000),(1001,some 1001),(1100,some 1100),(1101,some 1101)] [(0,plA l),(1,formsA F),(2,setsA tabs),(3,intsL ord),(9,.pt 1000 0 0),(11,.pt 1100 0 0),(16,iA k),(17,iA i),(18,setA [tabs[k][i]]),(125,.pt 1100 0 0),(126,iA k),(127,setA [tabs[k][i]])]
    [(1000,cO l F (lastN F l).types (.rf 1001 0 tabs.length) S d 0 touch),(1001,doO tabs),(1100,cO l F (lastN F l).types (.rf 1101 0 (inT tabs k tabs[k] i).length) S3 d3 0 touch3),(1101,doO (inT tabs k tabs[k] i))] [1000,1001,1100,1101] rfl ?_ ?_
   ·simp -implicitDefEqProofs only[go_sem,formsA,iA,intsL,plA,setA,setsA];exact ⟨id,⟨⟨by simp[olds],so [tabs[k][i]],rfl,so_leafy _,rfl,rfl⟩,by simp[olds],so [tabs[k][i]],rfl,so_leafy _,rfl,rfl⟩,ci_es Ae (tch_leaf htc),sets_eq rfl,ci_es Ae (tch_leaf htc3),sets_eq rfl⟩
   refine B8 ?_;refine CALL.feed (ty:=(lastN F l).types) (K0:=30*30) (dz:=[tabs[k][i]]) 1100 1101 (by decide) (by simp) (by simp) Ae Ae hcm3 hzi (by rw[inT_at k1];simp;omega) (by decide) (λx hx=>by rw[List.mem_singleton.1 hx];exact hri) htc3 3000 (by simp) (λn hn=>by simp only[upd];(repeat rw[if_neg (by omega)]);rfl) ?_;intro tabs4 S4 o4 e d4 touch4 hl4 htc4 hq4;obtain ⟨e1,hc4,dl4,rfl⟩:=feed_ok hq4 hto;rw[show ((k:Nat):Int).toNat=k from rfl,inT_set] at e1;subst e1;have hz4i:=cir_sz hP.sz g4 (by decide) hc4 (hsz (i+1));refine Ab ?_;refine VIF.f ?_;refine Au ?_;refine VIF.split (λj1=>?_) (λj1=>?_)
   rotate_left
   ·refine Ba ?_;refine BACK.mk ⟨(i+1,S4,d4,touch4),by show i+1<=tabs[k].length;omega,hc4,htc4⟩ [(1000,some 1000),(1001,some 1001),(1100,some 1100),(1101,some 3001)] rfl rfl (by show tabs[k].length-(i+1)<tabs[k].length-i;omega) ?_;refine H6 ?_;exact ⟨id,ci_es Ae (tch_leaf htc),sets_eq rfl,⟨rfl,ci_es Ae (tch_leaf htc4)⟩,sets_eq rfl⟩
   have j1:i<ord.length:=(by simpa using j1);refine Ab ?_;refine EL.map j1 ?_;refine Ab ?_;refine ⟨by decide,VIF.split (λj2=>?_) (λj2=>?_)⟩
   rotate_left
   ·refine Ba ?_;refine BACK.mk ⟨(i+1,S4,d4,touch4),by show i+1<=tabs[k].length;omega,hc4,htc4⟩ [(1000,some 1000),(1001,some 1001),(1100,some 1100),(1101,some 3001)] rfl rfl (by show tabs[k].length-(i+1)<tabs[k].length-i;omega) ?_;refine H6 ?_;exact ⟨id,ci_es Ae (tch_leaf htc),sets_eq rfl,⟨rfl,ci_es Ae (tch_leaf htc4)⟩,sets_eq rfl⟩
   obtain ⟨hdg,hback⟩:=feedto_back hcm3.tb hto;rw[inT_at k1,Int.toNat_natCast,inT_set] at hback;refine Ab ?_;refine .pure _ (show Spec0 Tryz.prog 62 [setA [tabs[k][i]]] _ from Spec1.setE (s31 [tabs[k][i]] (by simp) (λx hx=>by rw[List.mem_singleton.1 hx];exact hri))) rfl λq hq _=>?_;obtain ⟨n,g,rfl,hq⟩:=hq;obtain ⟨_,rfl,rfl⟩:=hq.resolve_left (λh=>h.1 hdg);refine Ab ?_;refine CALL.feed (ty:=(lastN F l).types) (tabs:=inT tabs k tabs[k] (i+1)) (K0:=30*30) (dz:=[tabs[k][i]].map negI) 1100 3001 (by decide) (by simp) (by simp) Ae Ae hc4 hz4i (by rw[inT_at k1];simp;omega) (by decide) (λx hx=>by
    obtain ⟨y,hy,rfl⟩:=List.mem_map.1 hx;rw[List.mem_singleton.1 hy];exact hri) htc4 4000 (by simp) (λn hn=>by simp only[upd];(repeat rw[if_neg (by omega)]);rfl) ?_
   intro tabs5 S5 o5 e d5 touch5 hl5 htc5 hq5;obtain ⟨e1,hc5,dl5,rfl⟩:=feed_ok hq5 hback;rw[show ((k:Nat):Int).toNat=k from rfl,inT_set] at e1;subst e1;have eS5:=hc5.same hcm3;subst eS5;refine Ab ?_;refine CALL.feed (ty:=(lastN F l).types) (tabs:=inT tabs k tabs[k] i) (K0:=30*30) (dz:=[tabs[k][i]]) 1100 4001 (by decide) (by simp) (by simp) Ae Ae hcm3 hzi (by rw[inT_at k1];simp;omega) (by decide) (λx hx=>by rw[List.mem_singleton.1 hx];exact hri) htc5 5000 (by simp) (λn hn=>by simp only[upd];(repeat rw[if_neg (by omega)]);rfl) ?_;intro tabs6 S6 o6 e d6 touch6 hl6 htc6 hq6;obtain ⟨e1,hc6,dl6,rfl⟩:=feed_ok hq6 hto;rw[show ((k:Nat):Int).toNat=k from rfl,inT_set] at e1;subst e1;have eS6:=hc6.same hc4;subst eS6;obtain ⟨q2,q3⟩:=dl5.len hc4 hcm3 hz4i hzi;obtain ⟨q4,q5⟩:=dl6.len hcm3 hc4 hzi hz4i;refine Ab ?_;refine .pure _ (show Spec0 Tryz.prog 36 [setA o5,setA o6] _ from Spec1.setE (s23 o5 o6 (by omega) (λt ht=>by have:=q3 t ht;omega) (λt ht=>by have:=q5 t ht;omega))) rfl λq hq2 _=>?_;obtain ⟨s,g,rfl,ha⟩:=hq2;obtain ⟨rfl,rfl⟩:=to_and_fro (tabs:=inT tabs k tabs[k] i) (tabs':=inT tabs k tabs[k] (i+1)) hcm3 hc4 dl5 dl6 ha;refine Al ?_;refine Bh ?_;refine Ba ?_;refine BACK.mk ⟨(i+1,S6,d6,touch6),by show i+1<=tabs[k].length;omega,hc6,htc6⟩ [(1000,some 1000),(1001,some 1001),(1100,some 1100),(1101,some 5001)] rfl rfl (by show tabs[k].length-(i+1)<tabs[k].length-i;omega) ?_;refine H6 ?_;exact ⟨id,ci_es Ae (tch_leaf htc),sets_eq rfl,⟨rfl,ci_es Ae (tch_leaf htc6)⟩,sets_eq rfl⟩
end Yt
