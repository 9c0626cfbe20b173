/- Contracts of the program's functions over abstract values and states, plain facts on which these lean, and the framework of these values over the model. The conditions stand in each theorem. -/
import Derived.Test.YtogndnaffdkanaaGreatBc
import Derived.Test.YtogndnaffdkanaaGreatBf
import Derived.Test.YtogndnaffdkanaaGreatBe
import Derived.Test.YtogndnaffdkanaaGreatBb
import Derived.JoinedCond
import Derived.WalkKit
import Derived.ProofKit
import Derived.Test.YtogndnaffdkanaaGreatRows
set_option linter.all false
set_option maxRecDepth 10000
set_option maxHeartbeats 16000000
namespace Yt
open Go Go.Vc Go.Proofs
theorem p25 (tabs:List (List It)) (hl:tabs.length<=1048576) (hz:∀z∈tabs,z.length<=1048576/\∀t∈z,t.row.length<1073741824):Spec0 Tryz.prog 25 [setsA tabs] (·=setsA tabs):=by
 refine spec0_of_vc tabOk elems ord25 Tryz.func25 rfl (rl:=[.tmp 2]) rfl (by kernel_rfl) rfl ?_;refine Dy ?_;refine LOOP.mk (ι:={i:Nat//i<=tabs.length}) (λp=>mkS [(0,setsA tabs),(3,.rf 1000 0 p.1),(4,iA p.1)] [(1000,doO (tabs.take p.1))] [1000]) (λp=>tabs.length-p.1) ⟨0,Nat.zero_le _⟩ [(1000,none)] rfl rfl ?_ (λp=>?_)
 ·refine Gs ?_;exact ⟨id,rfl,rfl⟩
 obtain ⟨i,hi⟩:=p;refine Gs ?_;refine VIF.split (λh1=>?_) (λh1=>?_)
 ·have h1:i<tabs.length:=(by simpa using h1);have w1:=wrap_add1 (show i<4611686018427387904 by omega);have hh:=hz _ (List.getElem_mem h1);refine Aa ?_;refine EL.map h1 ?_;refine Ad ?_;refine .pure _ (show Spec0 Tryz.prog 38 [setA tabs[i]] _ from Spec1.setC (c31 tabs[i] hh.1 hh.2)) rfl λq hq _=>?_;subst hq;refine Ad ?_;refine ⟨by omega,?_⟩;refine Af ?_;refine BACK.mk ⟨i+1,by omega⟩ [(1000,some 18)] rfl rfl (by show tabs.length-(i+1)<tabs.length-i;omega) ?_;(simp -implicitDefEqProofs only[go_sem,doO,iA,setsA,w1];repeat (refine GO ?_;simp -implicitDefEqProofs only[go_sem,doO,iA,setsA,w1]));exact ⟨id,rfl,doO_take h1 rfl⟩
 ·have h1:i=tabs.length:=by simp at h1;omega
  subst h1;refine Cp ?_;refine GO ?_;refine Aw ?_;refine TO [] [(2,setsA tabs)] [] [] rfl ?_ ?_
  ·simp -implicitDefEqProofs only[go_sem,setsA];exact ⟨id,by decide,_,rfl,doO_leafy tabs,rfl,List.take_of_length_le (by simp)⟩
  refine Aw ?_;rfl
def fmO (F:List (List Int)):Ob:=⟨1,F.map λl=>[intsL l]⟩
theorem fmO_leafy (F:List (List Int)):(fmO F).leafy:=by rw[fmO,leafy_do];exact leafs2_map λx _=>by simp[leafs,intsL,AV.leaf]
theorem ob_take {α:Type} {st:St} {m:List (Nat×Option Nat)} {S:List α} {i:Nat} (g:α->List AV) (hg:∀x,∀a∈g x,a.leaf=true) (hi:i<S.length):Es st m (List.take i (List.map g (List.take i S))++[g S[i]]) (List.map g (List.take (i+1) S)):=by
 rw[List.take_of_length_le (by simp;omega),List.take_succ_eq_append_getElem hi,List.map_append];exact .same ⟨1,List.map g (List.take i S)++[g S[i]]⟩ _ _ (λx hx a ha=>by
  rcases List.mem_append.1 hx with h|h
  ·obtain ⟨y,_,rfl⟩:=List.mem_map.1 h;exact hg y a ha
  ·rw[List.mem_singleton.1 h] at ha;exact hg _ a ha) rfl
theorem p24 (F:List (List Int)) (hl:F.length<=1048576) (hz:∀f∈F,f.length<=1048576):Spec0 Tryz.prog 24 [formsA F] (·=formsA F):=by
 refine spec0_of_vc tabOk elems ord24 Tryz.func24 rfl (rl:=[.tmp 2]) rfl (by kernel_rfl) rfl ?_;refine Cc ?_;refine LOOP.mk (ι:={i:Nat//i<=F.length}) (λp=>mkS [(0,formsA F),(3,.rf 1000 0 p.1),(4,iA p.1)] [(1000,fmO (F.take p.1))] [1000]) (λp=>F.length-p.1) ⟨0,Nat.zero_le _⟩ [(1000,none)] rfl rfl ?_ (λp=>?_)
 ·refine Gq ?_;exact ⟨id,rfl,rfl⟩
 obtain ⟨i,hi⟩:=p;refine Gq ?_;refine VIF.split (λh1=>?_) (λh1=>?_)
 ·have h1:i<F.length:=(by simpa using h1);have w1:=wrap_add1 (show i<4611686018427387904 by omega);have hh:=hz _ (List.getElem_mem h1);refine Aa ?_;refine EL.map h1 ?_;refine Aa ?_;refine .pure _ (show Spec0 Tryz.prog 71 [intsL F[i]] _ from c53 F[i] (by omega)) rfl λq hq _=>?_;subst hq;refine Aa ?_;refine ⟨by omega,?_⟩;refine Af ?_;refine BACK.mk ⟨i+1,by omega⟩ [(1000,some 20)] rfl rfl (by show F.length-(i+1)<F.length-i;omega) ?_;(simp -implicitDefEqProofs only[go_sem,fmO,formsA,iA,w1];repeat (refine GO ?_;simp -implicitDefEqProofs only[go_sem,fmO,formsA,iA,w1]));exact ⟨id,ob_take (λl=>[intsL l]) (λx a ha=>by simp at ha;subst ha;rfl) h1⟩
 ·have h1:i=F.length:=by simp at h1;omega
  subst h1;refine Cp ?_;refine GO ?_;refine Aw ?_;refine TO [] [(2,formsA F)] [] [] rfl ?_ ?_
  ·simp -implicitDefEqProofs only[go_sem,formsA];exact ⟨id,by decide,_,rfl,fmO_leafy F,rfl,List.take_of_length_le (by simp)⟩
  refine Aw ?_;rfl
theorem p23 (l:List PN) (hl:l.length<=1048576) (hz:∀x∈l,x.cols.length<=1048576/\x.others.length<=1048576):Spec0 Tryz.prog 23 [plA l] (·=plA l):=by
 refine spec0_of_vc tabOk elems og23 Tryz.func23 rfl (rl:=[.tmp 2]) rfl (by kernel_rfl) rfl ?_;refine F1 ?_;refine LOOP.mk (ι:={i:Nat//i<=l.length}) (λp=>mkS [(0,plA l),(3,.rf 1000 0 p.1),(4,iA p.1)] [(1000,plO (l.take p.1))] [1000]) (λp=>l.length-p.1) ⟨0,Nat.zero_le _⟩ [(1000,none)] rfl rfl ?_ (λp=>?_)
 ·refine Gt ?_;exact ⟨id,rfl,rfl⟩
 obtain ⟨i,hi⟩:=p;refine Gt ?_;refine VIF.split (λh1=>?_) (λh1=>?_)
 ·have h1:i<l.length:=(by simpa using h1);have w1:=wrap_add1 (show i<4611686018427387904 by omega);have hh:=hz _ (List.getElem_mem h1);refine Aa ?_;refine EL.map h1 ?_;refine Ba ?_;refine .pure _ (show Spec0 Tryz.prog 71 [intsL l[i].cols] _ from c53 l[i].cols (by omega)) rfl λq hq _=>?_;subst hq;refine Aa ?_;refine .pure _ (show Spec0 Tryz.prog 71 [intsL l[i].others] _ from c53 l[i].others (by omega)) rfl λq hq _=>?_;subst hq;refine Bc ?_;refine ⟨by omega,?_⟩;refine BACK.mk ⟨i+1,by omega⟩ [(1000,some 27)] rfl rfl (by show l.length-(i+1)<l.length-i;omega) ?_;(simp -implicitDefEqProofs only[go_sem,iA,plA,plO,w1];repeat (refine GO ?_;simp -implicitDefEqProofs only[go_sem,iA,plA,plO,w1]));exact ⟨id,ob_take PN.c pn_leaf h1⟩
 ·have h1:i=l.length:=by simp at h1;omega
  subst h1;refine Cp ?_;refine GO ?_;refine Aw ?_;refine TO [] [(2,plA l)] [] [] rfl ?_ ?_
  ·simp -implicitDefEqProofs only[go_sem,plA];exact ⟨id,by decide,_,rfl,plO_leafy l,rfl,List.take_of_length_le (by simp)⟩
  refine Aw ?_;rfl
theorem p32 (F:List (List Int)) (hl:F.length<=1048576) (hz:∀f∈F,f.length<=1048576):Spec0 Tryz.prog 32 [formsA F,formsA F] (·=bA true):=by
 refine spec0_of_vc tabOk elems ord32 Tryz.func32 rfl (rl:=[.tmp 4]) rfl (by kernel_rfl) rfl ?_;refine Cc ?_;refine A0 ?_;refine LOOP.mk (ι:={i:Nat//i<=F.length}) (λp=>mkS [(0,formsA F),(1,formsA F),(5,iA p.1)] [] []) (λp=>F.length-p.1) ⟨0,Nat.zero_le _⟩ [] rfl rfl ?_ (λp=>?_)
 ·refine A6 ?_;exact ⟨id,rfl⟩
 obtain ⟨i,hi⟩:=p;refine A6 ?_;refine VIF.split (λh1=>?_) (λh1=>?_)
 ·have h1:i<F.length:=(by simpa using h1);have w1:=wrap_add1 (show i<4611686018427387904 by omega);have hh:=hz _ (List.getElem_mem h1);refine Aa ?_;refine EL.map h1 ?_;refine Aa ?_;refine EL.map h1 ?_;refine Aa ?_;refine .pure _ (show Spec0 Tryz.prog 64 [intsL F[i],intsL F[i]] _ from c56 F[i] (by omega)) rfl λq hq _=>?_;subst hq;refine Ac ?_;refine Ee ?_;refine BACK.mk ⟨i+1,by omega⟩ [] rfl rfl (by show F.length-(i+1)<F.length-i;omega) ?_;refine Cj ?_;first|exact id|exact ⟨id,rfl⟩
 ·exact Am
theorem eqV_self (v:V):eqV v v=true:=by simp[eqV]
theorem p31 (l:List PN) (hl:l.length<=1048576) (hz:∀x∈l,x.cols.length<=1048576/\x.others.length<=1048576):Spec0 Tryz.prog 31 [plA l,plA l] (·=bA true):=by
 refine spec0_of_vc tabOk elems og31 Tryz.func31 rfl (rl:=[.tmp 4]) rfl (by kernel_rfl) rfl ?_;refine F1 ?_;refine A0 ?_;refine LOOP.mk (ι:={i:Nat//i<=l.length}) (λp=>mkS [(0,plA l),(1,plA l),(5,iA p.1)] [] []) (λp=>l.length-p.1) ⟨0,Nat.zero_le _⟩ [] rfl rfl ?_ (λp=>?_)
 ·refine Cq ?_;exact ⟨id,rfl⟩
 obtain ⟨i,hi⟩:=p;refine Cq ?_;refine VIF.split (λh1=>?_) (λh1=>?_)
 ·have h1:i<l.length:=(by simpa using h1);have w1:=wrap_add1 (show i<4611686018427387904 by omega);have hh:=hz _ (List.getElem_mem h1);refine Aa ?_;refine EL.map h1 ?_;refine Ba ?_;refine EL.map h1 ?_;refine Ba ?_;try apply And.intro
  all_goals
   refine Al ?_;refine .pure _ (show Spec0 Tryz.prog 51 [.ag l[i].pred.val.c,.ag l[i].pred.val.c] _ from s46 _ _) rfl λq hq _=>?_;subst hq;rw[eqV_self];refine Ac ?_;refine Al ?_;refine .pure _ (show Spec0 Tryz.prog 64 [intsL l[i].cols,intsL l[i].cols] _ from c56 l[i].cols (by omega)) rfl λq hq _=>?_;subst hq;refine Ac ?_;refine Al ?_;refine .pure _ (show Spec0 Tryz.prog 64 [intsL l[i].others,intsL l[i].others] _ from c56 l[i].others (by omega)) rfl λq hq _=>?_;subst hq;refine Ac ?_;repeat ((first|refine VIF.t ?_|refine VIF.f ?_);simp -implicitDefEqProofs only[go_sem,iA,w1];repeat (refine GO ?_;simp -implicitDefEqProofs only[go_sem,iA,w1]))
   refine BACK.mk ⟨i+1,by omega⟩ [] rfl rfl (by show l.length-(i+1)<l.length-i;omega) ?_;(simp -implicitDefEqProofs only[go_sem,iA,plA,w1];repeat (refine GO ?_;simp -implicitDefEqProofs only[go_sem,iA,plA,w1]));first|exact id|exact ⟨id,rfl⟩
 ·exact Am
theorem p29 (F:List (List Int)) (l:List PN) (tabs:List (List It)) (K:Nat) (z:List It) (e:Int) (h:EvSz F l tabs K) (hw:∀n∈rowsL K l [],n<=5000) (hE:EvalRes F l tabs z e) :
 Spec0 Tryz.prog 29 [plA l,formsA F,setsA tabs] (·=.tu [setA z,iA e]):=by
 refine spec0_of_vc tabOk elems ord29 Tryz.func29 rfl (rl:=[.tmp 6,.tmp 7]) rfl (by kernel_rfl) rfl ?_;refine Be ?_;refine .pure _ (show Spec0 Tryz.prog 47 [plA l,formsA F] _ from p47 F l h.pl) rfl λq hq _=>?_;subst hq;by_cases h1:planE F l=0
 rotate_left
 ·rw[if_neg h1];have he:z=[]/\e=planE F l:=by
   rcases hE with ⟨_,g1,g2⟩|⟨g,_⟩|⟨g,_⟩|⟨g,_⟩
   ·exact ⟨g1,g2⟩
   ·exact absurd g h1
   ·exact absurd g h1
   ·exact absurd g h1
  obtain ⟨rfl,rfl⟩:=he;refine Ab ?_;refine VIF.split (λ_=>?_) (λg=>absurd h1 (by simpa using g));refine Aw ?_;refine TO [] [(6,setA []),(7,iA (planE F l))] [] [] rfl ?_ ?_
  ·refine Ao ?_;exact ⟨id,rfl⟩
  refine Ao ?_;first|rfl|exact ⟨rfl,rfl⟩
 rw[if_pos h1];obtain ⟨hF,hl1,hl2,hp⟩:=planE_ok h1;refine Bw ?_;refine Al ?_;refine VIF.split (λh2=>?_) (λh2=>?_)
 ·have h2:tabs.length≠F.length:=by simp at h2;omega
  have he:z=[]/\e=2:=by
   rcases hE with ⟨g,_⟩|⟨_,_,g1,g2⟩|⟨_,g,_⟩|⟨_,g,_⟩
   ·exact absurd h1 g
   ·exact ⟨g1,g2⟩
   ·exact absurd g h2
   ·exact absurd g.1 h2
  obtain ⟨rfl,rfl⟩:=he;refine Aw ?_;refine TO [] [(6,setA []),(7,iA 2)] [] [] rfl ?_ ?_
  ·refine Ao ?_;exact ⟨id,rfl⟩
  refine Ao ?_;first|rfl|exact ⟨rfl,rfl⟩
 have h2:tabs.length=F.length:=by simp at h2;omega
 refine Aa ?_;refine LOOP.mk (ι:={i:Nat//i<=F.length/\∀j (h:j<F.length) (h2:j<tabs.length),j<i->tabE F[j] tabs[j]}) (λp=>mkS [(0,plA l),(1,formsA F),(2,setsA tabs),(10,iA p.1)] [] []) (λp=>F.length-p.1) ⟨0,Nat.zero_le _,λj _ _ h=>absurd h (Nat.not_lt_zero _)⟩ [] rfl rfl ?_ (λp=>?_)
 ·refine Bx ?_;exact ⟨id,rfl⟩
 obtain ⟨i,hi,hg⟩:=p;refine Bx ?_;refine VIF.split (λh3=>?_) (λh3=>?_)
 ·have h3':i<F.length:=(by simpa using h3);have h3:i<tabs.length:=(by omega);have w1:=wrap_add1 (show i<4611686018427387904 by have:=h.many;omega);have hr:=h.rows _ (List.getElem_mem h3);have hte:=tabErr_eq hF (List.getElem_mem h3') tabs[i];refine Aa ?_;refine EL.map h3' ?_;refine A3 ?_;refine EL.map h3 ?_;refine Bo ?_;refine .pure _ (show Spec0 Tryz.prog 28 [.ag [intsL F[i]],setA tabs[i]] _ from p28 F[i] tabs[i] (h.pl.ff _ (List.getElem_mem h3')) (by have:=h.big;omega) hr.2) rfl λq hq _=>?_;subst hq;refine Ab ?_;refine VIF.split (λh4=>?_) (λh4=>?_)
  ·have h4:tabErr F[i] tabs[i]≠0:=(by simpa using h4);have hn:¬tabE F[i] tabs[i]:=λg=>h4 (hte.1 g);have he:z=[]/\e=1:=by
    rcases hE with ⟨g,_⟩|⟨_,g,_⟩|⟨_,_,_,g1,g2⟩|⟨_,g,_⟩
    ·exact absurd h1 g
    ·exact absurd h2 g
    ·exact ⟨g1,g2⟩
    ·exact absurd (g.2 i h3' h3) hn
   obtain ⟨rfl,rfl⟩:=he;rw[hte.2 hn];refine Aw ?_;refine TO [] [(6,setA []),(7,iA 1)] [] [] rfl ?_ ?_
   ·refine Ao ?_;exact ⟨id,rfl⟩
   refine Ao ?_;first|rfl|exact ⟨rfl,rfl⟩
  ·have h4:tabErr F[i] tabs[i]=0:=(by simpa using h4);have hy:tabE F[i] tabs[i]:=Classical.byContradiction λg=>by have:=hte.2 g;omega
   refine Af ?_;refine BACK.mk ⟨i+1,by omega,λj q1 q2 hji=>if e:j=i then (by subst e;exact hy) else hg j q1 q2 (by omega)⟩ [] rfl rfl (by show F.length-(i+1)<F.length-i;omega) ?_;refine B3 ?_;first|exact id|exact ⟨id,by simp[intsL,setA,iA]⟩
 ·have h3:i=F.length:=by simp at h3;omega
  have hT:TabsE F tabs:=⟨h2,λj q1 q2=>hg j q1 q2 (by omega)⟩;obtain ⟨S,he0,hS,hz⟩:∃S,e=0/\Ran F l tabs l.length S/\z=lastZ S:=by
   rcases hE with ⟨g,_⟩|⟨_,g,_⟩|⟨_,_,g,_⟩|⟨_,_,g1,S,g2,g3⟩
   ·exact absurd h1 g
   ·exact absurd h2 g
   ·exact absurd hT g
   ·have hsl:S.length-1<S.length:=by have:=g2.len;omega
    refine ⟨S,g1,g2,?_⟩;have:=g2.len;rw[g3,setAt_eq (by omega),lastZ_eq hsl];congr 1;omega
  subst he0 hz;refine Aa ?_;refine .pure _ (show Spec0 Tryz.prog 68 [plA l,setsA tabs] _ from p68 F l tabs S K h hw ⟨h1,hT⟩ hS) rfl λq hq _=>?_;subst hq;refine Ao ?_;rfl
theorem l3 (l:List PN) (F:List (List Int)) (tabs:List (List It)) (hP:LawP l F) (hT:LawT tabs):Spec0 Tryz.prog 3 [plA l,formsA F,setsA tabs] (·=bA true):=by
 have hl:l.length<4611686018427387904:=by have:=hP.ll;omega
 have hl':l.length<1073741824:=by have:=hP.ll;omega
 have hf:F.length<4611686018427387904:=by have:=hP.fl;omega
 refine spec0_of_vc tabOk elems ord3 Tryz.func3 rfl (rl:=[.tmp 6]) rfl (by kernel_rfl) rfl ?_;refine Be ?_;refine .pure _ (show Spec0 Tryz.prog 19 [plA l] _ from h19 l hl) rfl λq hq _=>?_;subst hq;refine Ac ?_;refine VIF.split (λ_=>?_) (λg1=>?_)
 ·exact Am
 refine Aa ?_;refine .pure _ (show Spec0 Tryz.prog 20 [formsA F] _ from h20 F hf) rfl λq hq _=>?_;subst hq;refine Ac ?_;refine VIF.split (λ_=>?_) (λg2=>?_)
 ·exact Am
 refine Aa ?_;refine .pure _ (show Spec0 Tryz.prog 21 [setsA tabs] _ from h21 tabs hT.lt hT.zz hT.rr) rfl λq hq _=>?_;subst hq;refine Ac ?_;refine VIF.split (λ_=>?_) (λg3=>?_)
 ·exact Am
 refine Ab ?_;refine .pure _ (show Spec0 Tryz.prog 22 [plA l,iA (40:Nat)] _ from h22 l 40 hl' (by decide)) rfl λq hq _=>?_;subst hq;refine Ac ?_;refine VIF.split (λ_=>?_) (λg4=>?_)
 ·exact Am
 have g1:heavyP l=false:=by simpa using g1
 have g3:heavyT tabs=false:=by simpa using g3
 have g4:wideL 40 l=false:=by simpa using g4
 have hz:=evsz_of hP.sz g3 g4 hT.rr;have hw:∀n∈rowsL 40 l [],n<=5000:=λn hn=>by rw[wideL,List.any_eq_false] at g4;have:=g4 n hn;simp only[decide_eq_true_eq] at this;omega
 have hT40:=heavyT_ok g3;refine Aa ?_;refine .pure _ (show Spec0 Tryz.prog 23 [plA l] _ from p23 l hP.ll hP.cl) rfl λq hq _=>?_;subst hq;refine F1 ?_;refine .pure _ (show Spec0 Tryz.prog 24 [formsA F] _ from p24 F hP.fl hP.ff) rfl λq hq _=>?_;subst hq;refine Cc ?_;refine .pure _ (show Spec0 Tryz.prog 25 [setsA tabs] _ from p25 tabs hT.len (λz hz=>⟨hT.zl z hz,λt ht=>by have:=hT.rl z hz t ht;omega⟩)) rfl λq hq _=>?_;subst hq;refine Dy ?_;refine CALL.fam (show SpecF Tryz.prog 26 [plA l,formsA F,setsA tabs] _ from f26E F l tabs 40 hz) rfl 10000 (by simp) λq z hq=>?_;obtain ⟨e,rfl,hE⟩:=hq;refine Cn ?_;have hzl:z.length<=500000/\∀t∈z,t.row.length<=12:=by
  rcases hE with ⟨_,rfl,_⟩|⟨_,_,rfl,_⟩|⟨_,_,_,rfl,_⟩|⟨h1,h2,h3,h4⟩
  ·simp
  ·simp
  ·simp
  ·have hO:=(EvalRes.out (.inr (.inr (.inr ⟨h1,h2,h3,h4⟩))) hz ⟨h1,h2⟩).2;exact ⟨hO.len,hO.rows⟩
 refine LOOP.join (ι:=Unit) (λ_=>mkS [(0,plA l),(1,formsA F),(2,setsA tabs),(7,plA l),(8,formsA F),(9,setsA tabs),(10,.rf 1000 0 z.length),(11,iA e)] ([(1000,⟨2,famC 2000 z⟩)]++famL 2000 z) ([1000]++famN 2000 z.length)) ?_ (λ_=>?_)
 ·refine LOOP.mk (ι:={i:Nat//i<=F.length}) (λp=>mkS [(0,plA l),(1,formsA F),(2,setsA tabs),(7,plA l),(8,formsA F),(9,setsA tabs),(10,.rf 1000 0 z.length),(11,iA e),(12,iA p.1)] ([(1000,⟨2,famC 2000 z⟩)]++famL 2000 z) ([1000]++famN 2000 z.length)) (λp=>F.length-p.1) ⟨0,Nat.zero_le _⟩
   ([(1000,some 10000)]++famM 2000 z.length λi=>10000+(i+1)) rfl (fam_nmOk rfl (fam_nd (by decide) (by decide))) ?_ (λp=>?_)
  ·refine Bx ?_;exact ⟨by simp[famU_mem],rfl,fam_es rfl λi hi=>fam_nms (m1:=[(1000,some 10000)]) (by simp) hi,fam_eobs (ν:=λi=>10000+(i+1)) λi hi=>⟨fam_nms (m1:=[(1000,some 10000)]) (by simp) hi,famO_row hi⟩⟩
  obtain ⟨i,hi⟩:=p;refine Bx ?_;refine VIF.split (λh1=>?_) (λh1=>?_)
  ·have h1:i<F.length:=(by simpa using h1);have w1:=wrap_add1 (show i<4611686018427387904 by omega);refine Aa ?_;refine VIF.split (λh2=>?_) (λh2=>?_)
   ·have h2:i<tabs.length:=(by simpa using h2);have hr:=hz.rows _ (List.getElem_mem h2);refine Aa ?_;refine EL.map h1 ?_;refine A3 ?_;refine EL.map h2 ?_;refine Ad ?_;refine EL.map h1 ?_;refine A3 ?_;refine EL.map h2 ?_;refine Ad ?_;refine .pure _ (show Spec0 Tryz.prog 27 [.ag [intsL F[i]],setA tabs[i]] _ from d27 F[i] tabs[i] (hz.pl.ff _ (List.getElem_mem h1)) (by omega) hr.2) rfl λq hq _=>?_;subst hq;refine Aq ?_;refine .pure _ (show Spec0 Tryz.prog 28 [.ag [intsL F[i]],setA tabs[i]] _ from p28 F[i] tabs[i] (hz.pl.ff _ (List.getElem_mem h1)) (by omega) hr.2) rfl λq hq _=>?_;subst hq;refine Ab ?_;refine Ee ?_;refine BACK.mk ⟨i+1,by omega⟩ ([(1000,some 1000)]++famM 2000 z.length λi=>2000+(i+1)) rfl (fam_nmOk rfl (fam_nd (by decide) (by decide))) (by show F.length-(i+1)<F.length-i;omega) ?_;refine B3 ?_;exact ⟨id,⟨rfl,rfl,rfl,rfl⟩,fam_es rfl λi hi=>fam_nms (m1:=[(1000,some 1000)]) (by simp) hi,fam_eobs (ν:=λi=>2000+(i+1)) λi hi=>⟨fam_nms (m1:=[(1000,some 1000)]) (by simp) hi,by (simp -implicitDefEqProofs only[go_sem];repeat (refine GO ?_;simp -implicitDefEqProofs only[go_sem]));exact famL_get hi⟩⟩
   ·refine Aa ?_;refine JB.mk () ([(1000,some 1000)]++famM 2000 z.length λi=>2000+(i+1)) rfl (fam_nmOk rfl (fam_nd (by decide) (by decide))) ?_;refine Bx ?_;exact ⟨id,fam_es rfl λi hi=>fam_nms (m1:=[(1000,some 1000)]) (by simp) hi,fam_eobs (ν:=λi=>2000+(i+1)) λi hi=>⟨fam_nms (m1:=[(1000,some 1000)]) (by simp) hi,by (simp -implicitDefEqProofs only[go_sem];repeat (refine GO ?_;simp -implicitDefEqProofs only[go_sem]));exact famL_get hi⟩⟩
  ·refine Aa ?_;refine JB.mk () ([(1000,some 1000)]++famM 2000 z.length λi=>2000+(i+1)) rfl (fam_nmOk rfl (fam_nd (by decide) (by decide))) ?_;refine Bx ?_;exact ⟨id,fam_es rfl λi hi=>fam_nms (m1:=[(1000,some 1000)]) (by simp) hi,fam_eobs (ν:=λi=>2000+(i+1)) λi hi=>⟨fam_nms (m1:=[(1000,some 1000)]) (by simp) hi,by (simp -implicitDefEqProofs only[go_sem];repeat (refine GO ?_;simp -implicitDefEqProofs only[go_sem]));exact famL_get hi⟩⟩
 refine Bx ?_;refine .pure _ (show Spec0 Tryz.prog 29 [plA l,formsA F,setsA tabs] _ from p29 F l tabs 40 z e hz hw hE) rfl λq hq _=>?_;subst hq;refine Ab ?_;refine C4 ?_;refine .lendR (args':=[setA z,setA z]) (s18 z z (by omega) (by omega) (λt ht=>by have:=hzl.2 t ht;omega)) ⟨lent_fam (es:=famC 2000 z) (ν:=λi=>2000+(i+1)) (tail:=[]) Aj (by simp[famC_cells]) (λi hi=>by (simp -implicitDefEqProofs only[go_sem];repeat (refine GO ?_;simp -implicitDefEqProofs only[go_sem]));exact famL_get hi),.same rfl,trivial⟩ (by rintro _ ⟨t,rfl,_⟩;rfl) λq hq=>?_;obtain ⟨t3,rfl,ht3⟩:=hq;rw[ht3.2 rfl];refine Ac ?_;refine Al ?_;refine .pure _ (show Spec0 Tryz.prog 31 [plA l,plA l] _ from p31 l hP.ll hP.cl) rfl λq hq _=>?_;subst hq;refine Ac ?_;refine Al ?_;refine .pure _ (show Spec0 Tryz.prog 32 [formsA F,formsA F] _ from p32 F hP.fl hP.ff) rfl λq hq _=>?_;subst hq;refine Ac ?_;refine Al ?_;refine CALL.takeI (f37 z (by omega) (λt ht=>by have:=hzl.2 t ht;omega)) 1000 (λi=>2000+(i+1)) (fam_nd (l:=[1000]) (by decide) (by decide)) (es:=famC 2000 z) Aj rfl (λi hi=>by (simp -implicitDefEqProofs only[go_sem];repeat (refine GO ?_;simp -implicitDefEqProofs only[go_sem]));exact famL_get hi) ⟨by simp,λi hi=>List.mem_cons_of_mem _ (famN_mem.2 ⟨i,hi,rfl⟩)⟩ ⟨rfl,famW_mem.2 (.inl rfl),trivial⟩ 20000000 ?_ λr O hq _=>?_
 ·simp[famN_mem];omega
 subst hq;refine Aw ?_;refine LOOP.mk (ι:={i:Nat//i<=tabs.length}) (λp=>mkS [(0,plA l),(1,formsA F),(2,setsA tabs),(9,setsA tabs),(15,iA p.1)] [] []) (λp=>tabs.length-p.1) ⟨0,Nat.zero_le _⟩ [] rfl rfl ?_ (λp=>?_)
 ·refine Bx ?_;exact ⟨id,rfl,rfl,rfl⟩
 obtain ⟨i,hi⟩:=p;refine Bx ?_;refine VIF.split (λh1=>?_) (λh1=>?_)
 ·have h1:i<tabs.length:=(by simpa using h1);have w1:=wrap_add1 (show i<4611686018427387904 by have:=hT.len;omega);have hzz:=hT.zl _ (List.getElem_mem h1);have hrr:=hT.rl _ (List.getElem_mem h1);refine Aa ?_;refine EL.map h1 ?_;refine Ad ?_;refine EL.map h1 ?_;refine Ad ?_;refine .pure _ (show Spec0 Tryz.prog 30 [setA tabs[i],setA tabs[i]] _ from s18 tabs[i] tabs[i] (by omega) (by omega) (λt ht=>by have:=hrr t ht;omega)) rfl λq hq _=>?_;obtain ⟨t,rfl,ht⟩:=hq;rw[ht.2 rfl];refine Ac ?_;refine Ee ?_;refine BACK.mk ⟨i+1,by omega⟩ [] rfl rfl (by show tabs.length-(i+1)<tabs.length-i;omega) ?_;refine B3 ?_;exact ⟨id,rfl,rfl⟩
 ·refine Aa ?_;refine .pure _ r34 rfl λq hq _=>?_;subst hq;exact Am
end Yt
namespace Yt
open Go Go.Vc Go.Proofs Go.Proofs.YtogndnaffdkanaaGreat
mutual
theorem bulk_le {H:Type} {B:Nat}:∀d:DataW H,Rows.uptoBulk d<=B->bulkLe B d
 | .lit l,h=>by
   cases l with
   | string bs=>simp only[Rows.uptoBulk] at h;simp only[bulkLe];omega
   | _=>simp only[bulkLe]
 | .nil,_=>by simp only[bulkLe]
 | .ptr d,_=>by simp only[bulkLe]
 | .slice elems spare,h=>by
   simp only[Rows.uptoBulk] at h;have h2:=bulks_len elems;simp only[bulkLe];exact ⟨by omega,bulks_le elems (by omega)⟩
 | .agg ds,h=>by
   simp only[Rows.uptoBulk] at h;simp only[bulkLe];exact bulks_le ds (by omega)
 | .iface _ _,_=>by simp only[bulkLe]
 | .map _,_=>by simp only[bulkLe]
 | .held _,_=>by simp only[bulkLe]
theorem bulks_le {H:Type} {B:Nat}:∀ds:List (DataW H),Rows.uptoBulkAll ds<=B->bulkLe.bulkLes B ds
 | [],_=>trivial
 | d::r,h=>by
   simp only[Rows.uptoBulkAll] at h;exact ⟨bulk_le d (by omega),bulks_le r (by omega)⟩
theorem bulk_pos {H:Type}:∀d:DataW H,1<=Rows.uptoBulk d
 | .lit l=>by cases l<;>simp[Rows.uptoBulk]
 | .nil=>by simp[Rows.uptoBulk]
 | .ptr d=>by simp[Rows.uptoBulk]
 | .slice elems spare=>by simp[Rows.uptoBulk]
 | .agg ds=>by simp[Rows.uptoBulk]
 | .iface _ _=>by simp[Rows.uptoBulk]
 | .map _=>by simp[Rows.uptoBulk]
 | .held _=>by simp[Rows.uptoBulk]
theorem bulks_len {H:Type}:∀ds:List (DataW H),ds.length<=Rows.uptoBulkAll ds
 | []=>by simp
 | d::r=>by
   have:=bulk_pos d;have:=bulks_len r;simp only[Rows.uptoBulkAll,List.length_cons];omega
end
theorem bound {H:Type} {l:List (DataW H)} (hk:Rows.uptoSmall H l=true):bulkLe.bulkLes 1048576 l:=bulks_le l (of_decide_eq_true hk)
theorem kids:Kids Tryz.prog (·<Tryz.prog.types.size):=kids_rows (by kernel_rfl) (by kernel_rfl)
def szOk (P:Program):Bool:=(List.range P.types.size).all λt=>match P.underlying t with|some (.slice e)=>decide (0<P.cellsOf e)|_=>true
theorem szOk_to {P:Program} (h:szOk P=true) {t e:TypeId} (ht:t<P.types.size) (hu:P.underlying t=some (.slice e)):0<P.cellsOf e:=by have:=List.all_eq_true.1 h t (by simpa using ht);rw[hu] at this;simpa using this
theorem sizes {t e:TypeId} (ht:t<Tryz.prog.types.size) (hu:Tryz.prog.underlying t=some (.slice e)):0<Tryz.prog.cellsOf e:=szOk_to (by kernel_rfl) ht hu
def i64 (n:Int):Prop:=-9223372036854775808<=n/\n<=9223372036854775807
theorem i64_of {n:Int} (h:(Lit.int .i64 n).wf=true):i64 n:=by simp[Lit.wf,IntKind.min,IntKind.max,IntKind.signed,IntKind.bits] at h;exact h
def V.fit (v:V):Prop:=i64 v.k/\i64 v.i/\v.s.size<=1048576
def It.fit (t:It):Prop:=t.row.length<=1048576/\i64 t.w
theorem cellsV:Tryz.prog.cellsOf 47=3:=by kernel_rfl
theorem cellsI:Tryz.prog.cellsOf 59=2:=by kernel_rfl
theorem cells1:Tryz.prog.cellsOf 3=1:=by kernel_rfl
theorem cellsZ:Tryz.prog.cellsOf 32=1:=by kernel_rfl
theorem shVal {avs:List AV} (h:Sh Tryz.prog 1048576 47 avs):∃v:V,avs=v.c/\v.fit:=by
 obtain ⟨xs,rfl,hl,hf⟩:=sh_struct Tryz.underlying47 h
 match xs,hl with
 | [a,b,c],_=>
   obtain ⟨k,rfl,hk⟩:=sh_int Tryz.underlying3 (hf 0 _ a rfl rfl);obtain ⟨i,rfl,hi⟩:=sh_int Tryz.underlying3 (hf 1 _ b rfl rfl);obtain ⟨s,rfl,hs⟩:=sh_str Tryz.underlying9 (hf 2 _ c rfl rfl);exact ⟨⟨k,i,s⟩,rfl,i64_of hk,i64_of hi,hs⟩
theorem shRow {avs:List AV} (h:Sh Tryz.prog 1048576 57 avs):∃r:List V,avs=[rowA r]/\r.length<=1048576:=by obtain ⟨es,rfl,hl,he⟩:=sh_slice Tryz.underlying57 h;obtain ⟨l,rfl,_⟩:=map_choose λx hx=>shVal (he x hx);rw[cellsV];exact ⟨l,rfl,by simpa using hl⟩
theorem shItem {avs:List AV} (h:Sh Tryz.prog 1048576 59 avs):∃t:It,avs=t.c/\t.fit:=by
 obtain ⟨xs,rfl,hl,hf⟩:=sh_struct Tryz.underlying59 h
 match xs,hl with
 | [a,b],_=>
   obtain ⟨r,rfl,hr⟩:=shRow (hf 0 _ a rfl rfl);obtain ⟨w,rfl,hw⟩:=sh_int Tryz.underlying3 (hf 1 _ b rfl rfl);exact ⟨⟨r,w⟩,rfl,hr,i64_of hw⟩
theorem shSet {avs:List AV} (h:Sh Tryz.prog 1048576 32 avs):∃l:List It,avs=[setA l]/\l.length<=1048576/\∀t∈l,t.fit:=by obtain ⟨es,rfl,hl,he⟩:=sh_slice Tryz.underlying32 h;obtain ⟨l,rfl,h2⟩:=map_choose λx hx=>shItem (he x hx);rw[cellsI];exact ⟨l,rfl,by simpa using hl,h2⟩
theorem shSets {avs:List AV} (h:Sh Tryz.prog 1048576 24 avs):∃l:List (List It),avs=[setsA l]/\l.length<=1048576/\∀z∈l,z.length<=1048576/\∀t∈z,t.fit:=by obtain ⟨es,rfl,hl,he⟩:=sh_slice Tryz.underlying24 h;obtain ⟨l,rfl,h2⟩:=map_choose (f:=λr=>[setA r]) λx hx=>shSet (he x hx);rw[cellsZ];exact ⟨l,rfl,by simpa using hl,h2⟩
theorem shInts {avs:List AV} (h:Sh Tryz.prog 1048576 37 avs):∃l:List Int,avs=[intsL l]/\l.length<=1048576/\∀x∈l,i64 x:=by
 obtain ⟨es,rfl,hl,he⟩:=sh_slice Tryz.underlying37 h;obtain ⟨l,rfl,h2⟩:=map_choose (f:=λn=>[iA n]) (p:=i64) λx hx=>by obtain ⟨n,rfl,hn⟩:=sh_int Tryz.underlying3 (he x hx);exact ⟨n,rfl,i64_of hn⟩
 rw[cells1];exact ⟨l,rfl,by simpa using hl,h2⟩
theorem shPred {avs:List AV} (h:Sh Tryz.prog 1048576 49 avs):∃p:Pr,avs=p.c/\p.val.fit/\i64 p.kind/\i64 p.col/\i64 p.other:=by
 obtain ⟨xs,rfl,hl,hf⟩:=sh_struct Tryz.underlying49 h
 match xs,hl with
 | [a,b,c,d],_=>
   obtain ⟨k,rfl,hk⟩:=sh_int Tryz.underlying3 (hf 0 _ a rfl rfl);obtain ⟨i,rfl,hi⟩:=sh_int Tryz.underlying3 (hf 1 _ b rfl rfl);obtain ⟨o,rfl,ho⟩:=sh_int Tryz.underlying3 (hf 2 _ c rfl rfl);obtain ⟨v,rfl,hv⟩:=shVal (hf 3 _ d rfl rfl);exact ⟨⟨k,i,o,v⟩,rfl,hv,i64_of hk,i64_of hi,i64_of ho⟩
theorem cellsNd:Tryz.prog.cellsOf 51=14:=by kernel_rfl
theorem cellsTb:Tryz.prog.cellsOf 39=1:=by kernel_rfl
def PN.fit (x:PN):Prop:=x.cols.length<=1048576/\x.others.length<=1048576
theorem shNode {avs:List AV} (h:Sh Tryz.prog 1048576 51 avs):∃x:PN,avs=x.c/\x.fit:=by
 obtain ⟨xs,rfl,hl,hf⟩:=sh_struct Tryz.underlying51 h
 match xs,hl with
 | [a,b,c,d,e,f,g,i,j],_=>
   obtain ⟨n0,rfl,_⟩:=sh_int Tryz.underlying3 (hf 0 _ a rfl rfl);obtain ⟨n1,rfl,_⟩:=sh_int Tryz.underlying3 (hf 1 _ b rfl rfl);obtain ⟨n2,rfl,_⟩:=sh_int Tryz.underlying3 (hf 2 _ c rfl rfl);obtain ⟨n3,rfl,_⟩:=sh_int Tryz.underlying3 (hf 3 _ d rfl rfl);obtain ⟨p,rfl,_⟩:=shPred (hf 4 _ e rfl rfl);obtain ⟨l1,rfl,k1,_⟩:=shInts (hf 5 _ f rfl rfl);obtain ⟨l2,rfl,k2,_⟩:=shInts (hf 6 _ g rfl rfl);obtain ⟨n7,rfl,_⟩:=sh_int Tryz.underlying3 (hf 7 _ i rfl rfl);obtain ⟨n8,rfl,_⟩:=sh_int Tryz.underlying3 (hf 8 _ j rfl rfl);exact ⟨⟨n0,n1,n2,n3,p,l1,l2,n7,n8⟩,rfl,k1,k2⟩
theorem shNodes {avs:List AV} (h:Sh Tryz.prog 1048576 22 avs):∃l:List PN,avs=[plA l]/\l.length<=1048576/\∀x∈l,x.fit:=by obtain ⟨es,rfl,hl,he⟩:=sh_slice Tryz.underlying22 h;obtain ⟨l,rfl,h2⟩:=map_choose λx hx=>shNode (he x hx);rw[cellsNd];exact ⟨l,rfl,by simpa using hl,h2⟩
theorem shTable {avs:List AV} (h:Sh Tryz.prog 1048576 39 avs):∃l:List Int,avs=[intsL l]/\l.length<=1048576:=by
 obtain ⟨xs,rfl,hl,hf⟩:=sh_struct Tryz.underlying39 h
 match xs,hl with
 | [a],_=>
   obtain ⟨l1,rfl,k1,_⟩:=shInts (hf 0 _ a rfl rfl);exact ⟨l1,rfl,k1⟩
theorem shForms {avs:List AV} (h:Sh Tryz.prog 1048576 23 avs):∃l:List (List Int),avs=[formsA l]/\l.length<=1048576/\∀x∈l,x.length<=1048576:=by obtain ⟨es,rfl,hl,he⟩:=sh_slice Tryz.underlying23 h;obtain ⟨l,rfl,h2⟩:=map_choose (f:=λl=>[intsL l]) λx hx=>shTable (he x hx);rw[cellsTb];exact ⟨l,rfl,by simpa using hl,h2⟩
theorem lawP {l:List PN} {F:List (List Int)} (l0:l.length<=1048576) (t0:∀x∈l,x.fit) (l1:F.length<=1048576) (t1:∀f∈F,f.length<=1048576):LawP l F:=⟨l0,t0,l1,t1⟩
theorem lawT {l:List (List It)} (l0:l.length<=1048576) (t0:∀z∈l,z.length<=1048576/\∀t∈z,t.fit):LawT l:=⟨l0,λz hz=>(t0 z hz).1,λz hz t ht=>((t0 z hz).2 t ht).1⟩
theorem own:ownKnob Tryz.prog.godebug=none:=by kernel_rfl
def signs:List Char:=[Char.ofNat 104,Char.ofNat 97,Char.ofNat 114,Char.ofNat 110,Char.ofNat 101,Char.ofNat 115,Char.ofNat 115,Char.ofNat 32,Char.ofNat 52,Char.ofNat 98,Char.ofNat 50,Char.ofNat 98,Char.ofNat 54,Char.ofNat 101,Char.ofNat 98,Char.ofNat 98,Char.ofNat 102,Char.ofNat 97,Char.ofNat 55,Char.ofNat 54,Char.ofNat 97,Char.ofNat 102,Char.ofNat 55,Char.ofNat 98,Char.ofNat 50,Char.ofNat 57,Char.ofNat 98,Char.ofNat 54,Char.ofNat 99,Char.ofNat 56,Char.ofNat 102,Char.ofNat 48,Char.ofNat 57,Char.ofNat 99,Char.ofNat 53,Char.ofNat 53,Char.ofNat 49,Char.ofNat 98,Char.ofNat 98,Char.ofNat 54,Char.ofNat 57,Char.ofNat 53,Char.ofNat 54,Char.ofNat 49,Char.ofNat 100,Char.ofNat 99,Char.ofNat 56,Char.ofNat 49,Char.ofNat 100,Char.ofNat 99,Char.ofNat 97,Char.ofNat 98,Char.ofNat 49,Char.ofNat 48,Char.ofNat 55,Char.ofNat 50,Char.ofNat 100,Char.ofNat 102,Char.ofNat 57,Char.ofNat 52,Char.ofNat 102,Char.ofNat 53,Char.ofNat 54,Char.ofNat 101,Char.ofNat 51,Char.ofNat 99,Char.ofNat 101,Char.ofNat 98,Char.ofNat 49,Char.ofNat 102,Char.ofNat 49,Char.ofNat 56,Char.ofNat 32,Char.ofNat 99,Char.ofNat 117,Char.ofNat 116,Char.ofNat 32,Char.ofNat 97,Char.ofNat 116,Char.ofNat 32,Char.ofNat 114,Char.ofNat 97,Char.ofNat 100,Char.ofNat 100,Char.ofNat 108,Char.ofNat 101,Char.ofNat 47,Char.ofNat 114,Char.ofNat 97,Char.ofNat 100,Char.ofNat 100,Char.ofNat 108,Char.ofNat 101,Char.ofNat 108,Char.ofNat 97,Char.ofNat 119,Char.ofNat 50,Char.ofNat 49,Char.ofNat 46,Char.ofNat 69,Char.ofNat 118,Char.ofNat 97,Char.ofNat 108,Char.ofNat 69,Char.ofNat 120,Char.ofNat 97,Char.ofNat 99,Char.ofNat 116,Char.ofNat 32,Char.ofNat 114,Char.ofNat 97,Char.ofNat 100,Char.ofNat 100,Char.ofNat 108,Char.ofNat 101,Char.ofNat 47,Char.ofNat 114,Char.ofNat 97,Char.ofNat 100,Char.ofNat 100,Char.ofNat 108,Char.ofNat 101,Char.ofNat 108,Char.ofNat 97,Char.ofNat 119,Char.ofNat 50,Char.ofNat 49,Char.ofNat 46,Char.ofNat 69,Char.ofNat 118,Char.ofNat 97,Char.ofNat 108,Char.ofNat 76,Char.ofNat 105,Char.ofNat 110,Char.ofNat 101,Char.ofNat 97,Char.ofNat 114,Char.ofNat 32,Char.ofNat 114,Char.ofNat 97,Char.ofNat 100,Char.ofNat 100,Char.ofNat 108,Char.ofNat 101,Char.ofNat 47,Char.ofNat 114,Char.ofNat 97,Char.ofNat 100,Char.ofNat 100,Char.ofNat 108,Char.ofNat 101,Char.ofNat 108,Char.ofNat 97,Char.ofNat 119,Char.ofNat 50,Char.ofNat 49,Char.ofNat 46,Char.ofNat 69,Char.ofNat 118,Char.ofNat 97,Char.ofNat 108,Char.ofNat 84,Char.ofNat 97,Char.ofNat 98,Char.ofNat 108,Char.ofNat 101,Char.ofNat 32,Char.ofNat 114,Char.ofNat 97,Char.ofNat 100,Char.ofNat 100,Char.ofNat 108,Char.ofNat 101,Char.ofNat 47,Char.ofNat 114,Char.ofNat 97,Char.ofNat 100,Char.ofNat 100,Char.ofNat 108,Char.ofNat 101,Char.ofNat 108,Char.ofNat 97,Char.ofNat 119,Char.ofNat 50,Char.ofNat 49,Char.ofNat 46,Char.ofNat 69,Char.ofNat 118,Char.ofNat 97,Char.ofNat 108,Char.ofNat 78,Char.ofNat 111,Char.ofNat 100,Char.ofNat 101,Char.ofNat 115,Char.ofNat 32,Char.ofNat 114,Char.ofNat 97,Char.ofNat 100,Char.ofNat 100,Char.ofNat 108,Char.ofNat 101,Char.ofNat 47,Char.ofNat 114,Char.ofNat 97,Char.ofNat 100,Char.ofNat 100,Char.ofNat 108,Char.ofNat 101,Char.ofNat 108,Char.ofNat 97,Char.ofNat 119,Char.ofNat 50,Char.ofNat 49,Char.ofNat 46,Char.ofNat 69,Char.ofNat 118,Char.ofNat 97,Char.ofNat 108,Char.ofNat 69,Char.ofNat 109,Char.ofNat 112,Char.ofNat 116,Char.ofNat 121,Char.ofNat 32,Char.ofNat 114,Char.ofNat 97,Char.ofNat 100,Char.ofNat 100,Char.ofNat 108,Char.ofNat 101,Char.ofNat 47,Char.ofNat 114,Char.ofNat 97,Char.ofNat 100,Char.ofNat 100,Char.ofNat 108,Char.ofNat 101,Char.ofNat 108,Char.ofNat 97,Char.ofNat 119,Char.ofNat 50,Char.ofNat 49,Char.ofNat 46,Char.ofNat 69,Char.ofNat 118,Char.ofNat 97,Char.ofNat 108,Char.ofNat 85,Char.ofNat 110,Char.ofNat 117,Char.ofNat 115,Char.ofNat 101,Char.ofNat 100,Char.ofNat 32,Char.ofNat 114,Char.ofNat 97,Char.ofNat 100,Char.ofNat 100,Char.ofNat 108,Char.ofNat 101,Char.ofNat 47,Char.ofNat 114,Char.ofNat 97,Char.ofNat 100,Char.ofNat 100,Char.ofNat 108,Char.ofNat 101,Char.ofNat 108,Char.ofNat 97,Char.ofNat 119,Char.ofNat 50,Char.ofNat 49,Char.ofNat 46,Char.ofNat 69,Char.ofNat 118,Char.ofNat 97,Char.ofNat 108,Char.ofNat 76,Char.ofNat 97,Char.ofNat 115,Char.ofNat 116,Char.ofNat 32,Char.ofNat 114,Char.ofNat 97,Char.ofNat 100,Char.ofNat 100,Char.ofNat 108,Char.ofNat 101,Char.ofNat 47,Char.ofNat 114,Char.ofNat 97,Char.ofNat 100,Char.ofNat 100,Char.ofNat 108,Char.ofNat 101,Char.ofNat 108,Char.ofNat 97,Char.ofNat 119,Char.ofNat 50,Char.ofNat 49,Char.ofNat 46,Char.ofNat 69,Char.ofNat 118,Char.ofNat 97,Char.ofNat 108,Char.ofNat 67,Char.ofNat 111,Char.ofNat 117,Char.ofNat 110,Char.ofNat 116,Char.ofNat 115,Char.ofNat 32,Char.ofNat 114,Char.ofNat 97,Char.ofNat 100,Char.ofNat 100,Char.ofNat 108,Char.ofNat 101,Char.ofNat 47,Char.ofNat 114,Char.ofNat 97,Char.ofNat 100,Char.ofNat 100,Char.ofNat 108,Char.ofNat 101,Char.ofNat 108,Char.ofNat 97,Char.ofNat 119,Char.ofNat 50,Char.ofNat 49,Char.ofNat 46,Char.ofNat 69,Char.ofNat 118,Char.ofNat 97,Char.ofNat 108,Char.ofNat 70,Char.ofNat 105,Char.ofNat 116,Char.ofNat 115,Char.ofNat 32,Char.ofNat 114,Char.ofNat 97,Char.ofNat 100,Char.ofNat 100,Char.ofNat 108,Char.ofNat 101,Char.ofNat 47,Char.ofNat 114,Char.ofNat 97,Char.ofNat 100,Char.ofNat 100,Char.ofNat 108,Char.ofNat 101,Char.ofNat 108,Char.ofNat 97,Char.ofNat 119,Char.ofNat 50,Char.ofNat 50,Char.ofNat 46,Char.ofNat 67,Char.ofNat 105,Char.ofNat 114,Char.ofNat 99,Char.ofNat 83,Char.ofNat 117,Char.ofNat 109,Char.ofNat 115,Char.ofNat 32,Char.ofNat 114,Char.ofNat 97,Char.ofNat 100,Char.ofNat 100,Char.ofNat 108,Char.ofNat 101,Char.ofNat 47,Char.ofNat 114,Char.ofNat 97,Char.ofNat 100,Char.ofNat 100,Char.ofNat 108,Char.ofNat 101,Char.ofNat 108,Char.ofNat 97,Char.ofNat 119,Char.ofNat 50,Char.ofNat 50,Char.ofNat 46,Char.ofNat 67,Char.ofNat 105,Char.ofNat 114,Char.ofNat 99,Char.ofNat 76,Char.ofNat 97,Char.ofNat 116,Char.ofNat 101,Char.ofNat 114,Char.ofNat 32,Char.ofNat 114,Char.ofNat 97,Char.ofNat 100,Char.ofNat 100,Char.ofNat 108,Char.ofNat 101,Char.ofNat 47,Char.ofNat 114,Char.ofNat 97,Char.ofNat 100,Char.ofNat 100,Char.ofNat 108,Char.ofNat 101,Char.ofNat 108,Char.ofNat 97,Char.ofNat 119,Char.ofNat 50,Char.ofNat 50,Char.ofNat 46,Char.ofNat 67,Char.ofNat 105,Char.ofNat 114,Char.ofNat 99,Char.ofNat 66,Char.ofNat 97,Char.ofNat 99,Char.ofNat 107,Char.ofNat 32,Char.ofNat 114,Char.ofNat 97,Char.ofNat 100,Char.ofNat 100,Char.ofNat 108,Char.ofNat 101,Char.ofNat 47,Char.ofNat 114,Char.ofNat 97,Char.ofNat 100,Char.ofNat 100,Char.ofNat 108,Char.ofNat 101,Char.ofNat 108,Char.ofNat 97,Char.ofNat 119,Char.ofNat 50,Char.ofNat 50,Char.ofNat 46,Char.ofNat 67,Char.ofNat 105,Char.ofNat 114,Char.ofNat 99,Char.ofNat 69,Char.ofNat 120,Char.ofNat 97,Char.ofNat 99,Char.ofNat 116,Char.ofNat 32,Char.ofNat 114,Char.ofNat 97,Char.ofNat 100,Char.ofNat 100,Char.ofNat 108,Char.ofNat 101,Char.ofNat 47,Char.ofNat 114,Char.ofNat 97,Char.ofNat 100,Char.ofNat 100,Char.ofNat 108,Char.ofNat 101,Char.ofNat 108,Char.ofNat 97,Char.ofNat 119,Char.ofNat 50,Char.ofNat 50,Char.ofNat 46,Char.ofNat 67,Char.ofNat 105,Char.ofNat 114,Char.ofNat 99,Char.ofNat 84,Char.ofNat 119,Char.ofNat 111,Char.ofNat 32,Char.ofNat 114,Char.ofNat 97,Char.ofNat 100,Char.ofNat 100,Char.ofNat 108,Char.ofNat 101,Char.ofNat 47,Char.ofNat 114,Char.ofNat 97,Char.ofNat 100,Char.ofNat 100,Char.ofNat 108,Char.ofNat 101,Char.ofNat 108,Char.ofNat 97,Char.ofNat 119,Char.ofNat 50,Char.ofNat 50,Char.ofNat 46,Char.ofNat 67,Char.ofNat 105,Char.ofNat 114,Char.ofNat 99,Char.ofNat 79,Char.ofNat 114,Char.ofNat 100,Char.ofNat 101,Char.ofNat 114,Char.ofNat 32,Char.ofNat 114,Char.ofNat 97,Char.ofNat 100,Char.ofNat 100,Char.ofNat 108,Char.ofNat 101,Char.ofNat 47,Char.ofNat 114,Char.ofNat 97,Char.ofNat 100,Char.ofNat 100,Char.ofNat 108,Char.ofNat 101,Char.ofNat 108,Char.ofNat 97,Char.ofNat 119,Char.ofNat 50,Char.ofNat 50,Char.ofNat 46,Char.ofNat 67,Char.ofNat 105,Char.ofNat 114,Char.ofNat 99,Char.ofNat 82,Char.ofNat 101,Char.ofNat 102,Char.ofNat 117,Char.ofNat 115,Char.ofNat 101,Char.ofNat 115]
theorem words_eq:headIs Tryz.prog ([Char.ofNat 99,Char.ofNat 117,Char.ofNat 116]::[[Char.ofNat 97,Char.ofNat 116],[Char.ofNat 114,Char.ofNat 97,Char.ofNat 100,Char.ofNat 100,Char.ofNat 108,Char.ofNat 101,Char.ofNat 47,Char.ofNat 114,Char.ofNat 97,Char.ofNat 100,Char.ofNat 100,Char.ofNat 108,Char.ofNat 101,Char.ofNat 108,Char.ofNat 97,Char.ofNat 119,Char.ofNat 50,Char.ofNat 49,Char.ofNat 46,Char.ofNat 69,Char.ofNat 118,Char.ofNat 97,Char.ofNat 108,Char.ofNat 69,Char.ofNat 120,Char.ofNat 97,Char.ofNat 99,Char.ofNat 116],[Char.ofNat 114,Char.ofNat 97,Char.ofNat 100,Char.ofNat 100,Char.ofNat 108,Char.ofNat 101,Char.ofNat 47,Char.ofNat 114,Char.ofNat 97,Char.ofNat 100,Char.ofNat 100,Char.ofNat 108,Char.ofNat 101,Char.ofNat 108,Char.ofNat 97,Char.ofNat 119,Char.ofNat 50,Char.ofNat 49,Char.ofNat 46,Char.ofNat 69,Char.ofNat 118,Char.ofNat 97,Char.ofNat 108,Char.ofNat 76,Char.ofNat 105,Char.ofNat 110,Char.ofNat 101,Char.ofNat 97,Char.ofNat 114],[Char.ofNat 114,Char.ofNat 97,Char.ofNat 100,Char.ofNat 100,Char.ofNat 108,Char.ofNat 101,Char.ofNat 47,Char.ofNat 114,Char.ofNat 97,Char.ofNat 100,Char.ofNat 100,Char.ofNat 108,Char.ofNat 101,Char.ofNat 108,Char.ofNat 97,Char.ofNat 119,Char.ofNat 50,Char.ofNat 49,Char.ofNat 46,Char.ofNat 69,Char.ofNat 118,Char.ofNat 97,Char.ofNat 108,Char.ofNat 84,Char.ofNat 97,Char.ofNat 98,Char.ofNat 108,Char.ofNat 101],[Char.ofNat 114,Char.ofNat 97,Char.ofNat 100,Char.ofNat 100,Char.ofNat 108,Char.ofNat 101,Char.ofNat 47,Char.ofNat 114,Char.ofNat 97,Char.ofNat 100,Char.ofNat 100,Char.ofNat 108,Char.ofNat 101,Char.ofNat 108,Char.ofNat 97,Char.ofNat 119,Char.ofNat 50,Char.ofNat 49,Char.ofNat 46,Char.ofNat 69,Char.ofNat 118,Char.ofNat 97,Char.ofNat 108,Char.ofNat 78,Char.ofNat 111,Char.ofNat 100,Char.ofNat 101,Char.ofNat 115],[Char.ofNat 114,Char.ofNat 97,Char.ofNat 100,Char.ofNat 100,Char.ofNat 108,Char.ofNat 101,Char.ofNat 47,Char.ofNat 114,Char.ofNat 97,Char.ofNat 100,Char.ofNat 100,Char.ofNat 108,Char.ofNat 101,Char.ofNat 108,Char.ofNat 97,Char.ofNat 119,Char.ofNat 50,Char.ofNat 49,Char.ofNat 46,Char.ofNat 69,Char.ofNat 118,Char.ofNat 97,Char.ofNat 108,Char.ofNat 69,Char.ofNat 109,Char.ofNat 112,Char.ofNat 116,Char.ofNat 121],[Char.ofNat 114,Char.ofNat 97,Char.ofNat 100,Char.ofNat 100,Char.ofNat 108,Char.ofNat 101,Char.ofNat 47,Char.ofNat 114,Char.ofNat 97,Char.ofNat 100,Char.ofNat 100,Char.ofNat 108,Char.ofNat 101,Char.ofNat 108,Char.ofNat 97,Char.ofNat 119,Char.ofNat 50,Char.ofNat 49,Char.ofNat 46,Char.ofNat 69,Char.ofNat 118,Char.ofNat 97,Char.ofNat 108,Char.ofNat 85,Char.ofNat 110,Char.ofNat 117,Char.ofNat 115,Char.ofNat 101,Char.ofNat 100],[Char.ofNat 114,Char.ofNat 97,Char.ofNat 100,Char.ofNat 100,Char.ofNat 108,Char.ofNat 101,Char.ofNat 47,Char.ofNat 114,Char.ofNat 97,Char.ofNat 100,Char.ofNat 100,Char.ofNat 108,Char.ofNat 101,Char.ofNat 108,Char.ofNat 97,Char.ofNat 119,Char.ofNat 50,Char.ofNat 49,Char.ofNat 46,Char.ofNat 69,Char.ofNat 118,Char.ofNat 97,Char.ofNat 108,Char.ofNat 76,Char.ofNat 97,Char.ofNat 115,Char.ofNat 116],[Char.ofNat 114,Char.ofNat 97,Char.ofNat 100,Char.ofNat 100,Char.ofNat 108,Char.ofNat 101,Char.ofNat 47,Char.ofNat 114,Char.ofNat 97,Char.ofNat 100,Char.ofNat 100,Char.ofNat 108,Char.ofNat 101,Char.ofNat 108,Char.ofNat 97,Char.ofNat 119,Char.ofNat 50,Char.ofNat 49,Char.ofNat 46,Char.ofNat 69,Char.ofNat 118,Char.ofNat 97,Char.ofNat 108,Char.ofNat 67,Char.ofNat 111,Char.ofNat 117,Char.ofNat 110,Char.ofNat 116,Char.ofNat 115],[Char.ofNat 114,Char.ofNat 97,Char.ofNat 100,Char.ofNat 100,Char.ofNat 108,Char.ofNat 101,Char.ofNat 47,Char.ofNat 114,Char.ofNat 97,Char.ofNat 100,Char.ofNat 100,Char.ofNat 108,Char.ofNat 101,Char.ofNat 108,Char.ofNat 97,Char.ofNat 119,Char.ofNat 50,Char.ofNat 49,Char.ofNat 46,Char.ofNat 69,Char.ofNat 118,Char.ofNat 97,Char.ofNat 108,Char.ofNat 70,Char.ofNat 105,Char.ofNat 116,Char.ofNat 115],[Char.ofNat 114,Char.ofNat 97,Char.ofNat 100,Char.ofNat 100,Char.ofNat 108,Char.ofNat 101,Char.ofNat 47,Char.ofNat 114,Char.ofNat 97,Char.ofNat 100,Char.ofNat 100,Char.ofNat 108,Char.ofNat 101,Char.ofNat 108,Char.ofNat 97,Char.ofNat 119,Char.ofNat 50,Char.ofNat 50,Char.ofNat 46,Char.ofNat 67,Char.ofNat 105,Char.ofNat 114,Char.ofNat 99,Char.ofNat 83,Char.ofNat 117,Char.ofNat 109,Char.ofNat 115],[Char.ofNat 114,Char.ofNat 97,Char.ofNat 100,Char.ofNat 100,Char.ofNat 108,Char.ofNat 101,Char.ofNat 47,Char.ofNat 114,Char.ofNat 97,Char.ofNat 100,Char.ofNat 100,Char.ofNat 108,Char.ofNat 101,Char.ofNat 108,Char.ofNat 97,Char.ofNat 119,Char.ofNat 50,Char.ofNat 50,Char.ofNat 46,Char.ofNat 67,Char.ofNat 105,Char.ofNat 114,Char.ofNat 99,Char.ofNat 76,Char.ofNat 97,Char.ofNat 116,Char.ofNat 101,Char.ofNat 114],[Char.ofNat 114,Char.ofNat 97,Char.ofNat 100,Char.ofNat 100,Char.ofNat 108,Char.ofNat 101,Char.ofNat 47,Char.ofNat 114,Char.ofNat 97,Char.ofNat 100,Char.ofNat 100,Char.ofNat 108,Char.ofNat 101,Char.ofNat 108,Char.ofNat 97,Char.ofNat 119,Char.ofNat 50,Char.ofNat 50,Char.ofNat 46,Char.ofNat 67,Char.ofNat 105,Char.ofNat 114,Char.ofNat 99,Char.ofNat 66,Char.ofNat 97,Char.ofNat 99,Char.ofNat 107],[Char.ofNat 114,Char.ofNat 97,Char.ofNat 100,Char.ofNat 100,Char.ofNat 108,Char.ofNat 101,Char.ofNat 47,Char.ofNat 114,Char.ofNat 97,Char.ofNat 100,Char.ofNat 100,Char.ofNat 108,Char.ofNat 101,Char.ofNat 108,Char.ofNat 97,Char.ofNat 119,Char.ofNat 50,Char.ofNat 50,Char.ofNat 46,Char.ofNat 67,Char.ofNat 105,Char.ofNat 114,Char.ofNat 99,Char.ofNat 69,Char.ofNat 120,Char.ofNat 97,Char.ofNat 99,Char.ofNat 116],[Char.ofNat 114,Char.ofNat 97,Char.ofNat 100,Char.ofNat 100,Char.ofNat 108,Char.ofNat 101,Char.ofNat 47,Char.ofNat 114,Char.ofNat 97,Char.ofNat 100,Char.ofNat 100,Char.ofNat 108,Char.ofNat 101,Char.ofNat 108,Char.ofNat 97,Char.ofNat 119,Char.ofNat 50,Char.ofNat 50,Char.ofNat 46,Char.ofNat 67,Char.ofNat 105,Char.ofNat 114,Char.ofNat 99,Char.ofNat 84,Char.ofNat 119,Char.ofNat 111],[Char.ofNat 114,Char.ofNat 97,Char.ofNat 100,Char.ofNat 100,Char.ofNat 108,Char.ofNat 101,Char.ofNat 47,Char.ofNat 114,Char.ofNat 97,Char.ofNat 100,Char.ofNat 100,Char.ofNat 108,Char.ofNat 101,Char.ofNat 108,Char.ofNat 97,Char.ofNat 119,Char.ofNat 50,Char.ofNat 50,Char.ofNat 46,Char.ofNat 67,Char.ofNat 105,Char.ofNat 114,Char.ofNat 99,Char.ofNat 79,Char.ofNat 114,Char.ofNat 100,Char.ofNat 101,Char.ofNat 114],[Char.ofNat 114,Char.ofNat 97,Char.ofNat 100,Char.ofNat 100,Char.ofNat 108,Char.ofNat 101,Char.ofNat 47,Char.ofNat 114,Char.ofNat 97,Char.ofNat 100,Char.ofNat 100,Char.ofNat 108,Char.ofNat 101,Char.ofNat 108,Char.ofNat 97,Char.ofNat 119,Char.ofNat 50,Char.ofNat 50,Char.ofNat 46,Char.ofNat 67,Char.ofNat 105,Char.ofNat 114,Char.ofNat 99,Char.ofNat 82,Char.ofNat 101,Char.ofNat 102,Char.ofNat 117,Char.ofNat 115,Char.ofNat 101,Char.ofNat 115]]):=head_of (l:=signs) (by kernel_rfl) (by kernel_rfl)
theorem laid:laidOutB Tryz.prog=true:=by kernel_rfl
theorem rowed:mapsRowed Tryz.prog=true:=by kernel_rfl
theorem heard:Tryz.prog.stopsHeard=true:=by kernel_rfl
theorem plain:Tryz.prog.plainKeys=true:=by kernel_rfl
theorem doorRows:Tryz.prog.doorRows=[]:=by kernel_rfl
theorem laysLater:Tryz.prog.laysLater=false:=by kernel_rfl
theorem bearsReflect:Tryz.prog.bearsReflect=false:=by kernel_rfl
theorem cutMade:Tryz.prog.make=some .cut:=make_of words_eq (by kernel_rfl) (by kernel_rfl)
theorem cutLifts:Tryz.prog.liftsFinal=false:=lifts_of words_eq (by kernel_rfl) (by kernel_rfl) (by kernel_rfl)
theorem cutEnter:Tryz.prog.mayEnter=true:=enter_of words_eq (by kernel_rfl) (by kernel_rfl) (by kernel_rfl) (by kernel_rfl) doorRows laysLater bearsReflect
end Yt
