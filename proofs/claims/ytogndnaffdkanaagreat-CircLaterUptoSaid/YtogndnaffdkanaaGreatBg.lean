/- Contracts of the program's functions over abstract values and states, plain facts on which these lean, and the framework of these values over the model. The conditions stand in each theorem. -/
import Derived.Test.YtogndnaffdkanaaGreatBc
import Derived.Test.YtogndnaffdkanaaGreatBf
import Derived.Test.YtogndnaffdkanaaGreatBd
import Derived.Test.YtogndnaffdkanaaGreatBb
import Derived.JoinedCond
import Derived.WalkKit
import Derived.ProofKit
import Derived.Test.YtogndnaffdkanaaGreatRows
set_option linter.all false
set_option maxRecDepth 10000
set_option maxHeartbeats 16000000
namespace Yt
open Go Go.Vc Go.Proofs
structure Ac where
 t:Int
 z:List It
 rows:List (List V)
def Ac.c (a:Ac):List AV:=[iA a.t,setA a.z,rowsA a.rows]
def actsA (l:List Ac):AV:=.im 3 (l.map Ac.c)
theorem f115 (z:List It) (r:List V) (hl:z.length<4611686018427387904) (hz:∀t∈z,t.row.length<4611686018427387904) (hr:r.length<4611686018427387904):Spec0 Tryz.prog 115 [setA z,rowA r] (λq=>∃w:Int,q=iA w):=by
 refine spec0_of_vc tabOk elems og115 Tryz.func115 rfl (rl:=[.tmp 4]) rfl (by kernel_rfl) rfl ?_;refine Af ?_;refine LOOP.mk (ι:={i:Nat//i<=z.length}) (λp=>mkS [(0,setA z),(1,rowA r),(5,iA p.1)] [] []) (λp=>z.length-p.1) ⟨0,Nat.zero_le _⟩ [] rfl rfl ?_ (λp=>?_)
 ·refine Al ?_;exact ⟨id,wk_leaf rfl,rfl⟩
 obtain ⟨i,hi⟩:=p;refine Al ?_;refine VIF.split (λh1=>?_) (λh1=>?_)
 ·have h1:i<z.length:=(by simpa using h1);have w1:=wrap_add1 (show i<4611686018427387904 by omega);refine Ab ?_;refine EL.map h1 ?_;refine Ar ?_;refine .pure _ (show Spec0 Tryz.prog 119 [rowA z[i].row,rowA r] _ from s55 z[i].row r (hz _ (List.getElem_mem h1)) hr) rfl λq hq _=>?_;subst hq;refine Ab ?_;refine VIF.split (λh2=>?_) (λh2=>?_)
  ·refine Ab ?_;refine EL.map h1 ?_;refine Be ?_;exact ⟨_,rfl⟩
  ·refine Ba ?_;refine BACK.mk ⟨i+1,by omega⟩ [] rfl rfl (by show z.length-(i+1)<z.length-i;omega) ?_;refine B3 ?_;exact ⟨id,wk_leaf rfl⟩
 ·refine Ab ?_;exact ⟨_,rfl⟩
structure AcSz (a:Ac):Prop where
 z:a.z.length<=1048576/\∀t∈a.z,t.row.length<=1048576
 rows:a.rows.length<=1048576/\∀r∈a.rows,r.length<=1048576
structure ChR (a:Ac) (dz:List It):Prop where
 len:dz.length<=max a.z.length a.rows.length
 rows:∀t∈dz,t.row.length<=1048576
theorem box_es {st:St} {m:List (Nat×Option Nat)} (a:Ac):Es st m [[iA a.t,.im 2 (a.z.map It.c),.im 1 (a.rows.map λr=>[rowA r])]] [[iA a.t,.im 2 (a.z.map It.c),.im 1 (a.rows.map λr=>[rowA r])]]:=.cons ⟨rfl,wk_leaf rfl,wk_leaf rfl,trivial⟩ .nil
theorem f58 (now:List It) (a:Ac) (hn:now.length<=25000000) (hnr:∀t∈now,t.row.length<=1048576) (ha:AcSz a):Spec0 Tryz.prog 58 [setA now,.ag a.c] (λq=>∃dz,q=setA dz/\ChR a dz):=by
 refine spec0_of_vc tabOk elems og58 Tryz.func58 rfl (rl:=[.tmp 4]) rfl (by kernel_rfl) rfl ?_;(simp -implicitDefEqProofs only[go_sem,Ac.c,iA,rowsA,setA];repeat (refine GO ?_;simp -implicitDefEqProofs only[go_sem,Ac.c,iA,rowsA,setA]));refine VIF.split (λh0=>?_) (λh0=>?_)
 ·refine Al ?_;exact ⟨a.z,rfl,Nat.le_max_left _ _,ha.z.2⟩
 refine Al ?_;refine LOOP.mk (ι:={p:Nat×List It//p.1<=a.rows.length/\p.2.length<=p.1/\∀t∈p.2,t.row.length<=1048576}) (λp=>mkS [(0,setA now),(3,.pt 3 0 0),(5,setA p.1.2),(6,iA p.1.1)] [(3,⟨3,[a.c]⟩)] [3]) (λp=>a.rows.length-p.1.1) ⟨(0,[]),Nat.zero_le _,Nat.le_refl _,by simp⟩ [(3,some 3)] rfl rfl ?_ (λp=>?_)
 ·(simp -implicitDefEqProofs only[go_sem,Ac.c,iA,rowsA,setA];repeat (refine GO ?_;simp -implicitDefEqProofs only[go_sem,Ac.c,iA,rowsA,setA]));exact ⟨id,⟨rfl,rfl⟩,box_es a⟩
 obtain ⟨⟨i,out⟩,hi,hol,hor⟩:=p;simp only at hi hol hor;have har:=ha.rows.1;(simp -implicitDefEqProofs only[go_sem,Ac.c,iA,rowsA];repeat (refine GO ?_;simp -implicitDefEqProofs only[go_sem,Ac.c,iA,rowsA]));refine VIF.split (λh1=>?_) (λh1=>?_)
 rotate_left
 ·refine Al ?_;have h1:i=a.rows.length:=by simp at h1;omega
  exact ⟨out,rfl,by have:=Nat.le_max_right a.z.length a.rows.length;omega,hor⟩
 have h1:i<a.rows.length:=by simpa using h1
 have hri:=ha.rows.2 _ (List.getElem_mem h1);have w1:=wrap_add1 (show i<4611686018427387904 by omega);refine Ab ?_;refine EL.map h1 ?_;refine Ab ?_;refine .pure _ (show Spec0 Tryz.prog 39 [rowA a.rows[i]] _ from s17 a.rows[i] (by omega)) rfl λq hq _=>?_;subst hq;refine Ab ?_;refine VIF.split (λh2=>?_) (λh2=>?_)
 ·refine Ba ?_;refine BACK.mk ⟨(i+1,out),by show i+1<=a.rows.length;omega,by show out.length<=i+1;omega,hor⟩ [(3,some 3)] rfl rfl (by show a.rows.length-(i+1)<a.rows.length-i;omega) ?_;(simp -implicitDefEqProofs only[go_sem,Ac.c,iA,rowsA,setA,w1];repeat (refine GO ?_;simp -implicitDefEqProofs only[go_sem,Ac.c,iA,rowsA,setA,w1]));exact ⟨id,box_es a⟩
 refine Ab ?_;refine EL.map h1 ?_;refine Ab ?_;refine .pure _ (show Spec0 Tryz.prog 115 [setA now,rowA a.rows[i]] _ from f115 now a.rows[i] (by omega) (λt ht=>by have:=hnr t ht;omega) (by omega)) rfl λq hq _=>?_;obtain ⟨w,rfl⟩:=hq;refine Ab ?_;refine VIF.split (λh3=>?_) (λh3=>?_)
 ·refine Ab ?_;refine EL.map h1 ?_;refine Ab ?_;refine .pure _ (show Spec0 Tryz.prog 115 [setA out,rowA a.rows[i]] _ from f115 out a.rows[i] (by omega) (λt ht=>by have:=hor t ht;omega) (by omega)) rfl λq hq _=>?_;obtain ⟨w2,rfl⟩:=hq;refine Ab ?_;refine VIF.split (λh4=>?_) (λh4=>?_)
  ·refine Ab ?_;refine EL.map h1 ?_;refine B8 ?_;refine TO [(3,some 3)] [(0,setA now),(3,.pt 3 0 0),(5,setA out),(6,iA i),(14,iA i),(45,setA out),(53,setA [⟨a.rows[i],-1⟩])] [(3,⟨3,[a.c]⟩)] [3] rfl ?_ ?_
   ·(simp -implicitDefEqProofs only[go_sem,Ac.c,It.c,iA,rowsA,setA];repeat (refine GO ?_;simp -implicitDefEqProofs only[go_sem,Ac.c,It.c,iA,rowsA,setA]));exact ⟨id,⟨by simp[olds],so [⟨a.rows[i],-1⟩],rfl,so_leafy _,rfl,rfl⟩,box_es a⟩
   refine Ab ?_;refine .pure _ (show Spec0 Tryz.prog 67 [setA out,setA [⟨a.rows[i],-1⟩]] _ from c38 out [⟨a.rows[i],-1⟩] (by simp;omega) (λt ht=>by have:=hor t ht;omega) (λt ht=>by rw[List.mem_singleton.1 ht];simp only;omega)) rfl λq hq _=>?_;obtain ⟨o2,e,rfl,hm⟩:=hq;obtain ⟨m1,m2⟩:=makeR_rows hm;refine Ba ?_;refine BACK.mk ⟨(i+1,o2),by show i+1<=a.rows.length;omega,by simp at m1;show o2.length<=i+1;omega,λt ht=>?_⟩ [(3,some 3)] rfl rfl (by show a.rows.length-(i+1)<a.rows.length-i;omega) ?_
   ·obtain ⟨u,hu,e⟩:=m2 t ht;rw[<- e];rcases List.mem_append.1 hu with hu|hu
    ·exact hor u hu
    ·rw[List.mem_singleton.1 hu];exact hri
   (simp -implicitDefEqProofs only[go_sem,Ac.c,iA,rowsA,setA,w1];repeat (refine GO ?_;simp -implicitDefEqProofs only[go_sem,Ac.c,iA,rowsA,setA,w1]));exact ⟨id,box_es a⟩
  ·refine Ba ?_;refine BACK.mk ⟨(i+1,out),by show i+1<=a.rows.length;omega,by show out.length<=i+1;omega,hor⟩ [(3,some 3)] rfl rfl (by show a.rows.length-(i+1)<a.rows.length-i;omega) ?_;(simp -implicitDefEqProofs only[go_sem,Ac.c,iA,rowsA,setA,w1];repeat (refine GO ?_;simp -implicitDefEqProofs only[go_sem,Ac.c,iA,rowsA,setA,w1]));exact ⟨id,box_es a⟩
 ·refine Ab ?_;refine EL.map h1 ?_;refine Ab ?_;refine .pure _ (show Spec0 Tryz.prog 115 [setA out,rowA a.rows[i]] _ from f115 out a.rows[i] (by omega) (λt ht=>by have:=hor t ht;omega) (by omega)) rfl λq hq _=>?_;obtain ⟨w2,rfl⟩:=hq;refine Ab ?_;refine VIF.split (λh4=>?_) (λh4=>?_)
  ·refine Ab ?_;refine EL.map h1 ?_;refine B8 ?_;refine TO [(3,some 3)] [(0,setA now),(3,.pt 3 0 0),(5,setA out),(6,iA i),(14,iA i),(45,setA out),(53,setA [⟨a.rows[i],1⟩])] [(3,⟨3,[a.c]⟩)] [3] rfl ?_ ?_
   ·(simp -implicitDefEqProofs only[go_sem,Ac.c,It.c,iA,rowsA,setA];repeat (refine GO ?_;simp -implicitDefEqProofs only[go_sem,Ac.c,It.c,iA,rowsA,setA]));exact ⟨id,⟨by simp[olds],so [⟨a.rows[i],1⟩],rfl,so_leafy _,rfl,rfl⟩,box_es a⟩
   refine Ab ?_;refine .pure _ (show Spec0 Tryz.prog 67 [setA out,setA [⟨a.rows[i],1⟩]] _ from c38 out [⟨a.rows[i],1⟩] (by simp;omega) (λt ht=>by have:=hor t ht;omega) (λt ht=>by rw[List.mem_singleton.1 ht];simp only;omega)) rfl λq hq _=>?_;obtain ⟨o2,e,rfl,hm⟩:=hq;obtain ⟨m1,m2⟩:=makeR_rows hm;refine Ba ?_;refine BACK.mk ⟨(i+1,o2),by show i+1<=a.rows.length;omega,by simp at m1;show o2.length<=i+1;omega,λt ht=>?_⟩ [(3,some 3)] rfl rfl (by show a.rows.length-(i+1)<a.rows.length-i;omega) ?_
   ·obtain ⟨u,hu,e⟩:=m2 t ht;rw[<- e];rcases List.mem_append.1 hu with hu|hu
    ·exact hor u hu
    ·rw[List.mem_singleton.1 hu];exact hri
   (simp -implicitDefEqProofs only[go_sem,Ac.c,iA,rowsA,setA,w1];repeat (refine GO ?_;simp -implicitDefEqProofs only[go_sem,Ac.c,iA,rowsA,setA,w1]));exact ⟨id,box_es a⟩
  ·refine Ba ?_;refine BACK.mk ⟨(i+1,out),by show i+1<=a.rows.length;omega,by show out.length<=i+1;omega,hor⟩ [(3,some 3)] rfl rfl (by show a.rows.length-(i+1)<a.rows.length-i;omega) ?_;(simp -implicitDefEqProofs only[go_sem,Ac.c,iA,rowsA,setA,w1];repeat (refine GO ?_;simp -implicitDefEqProofs only[go_sem,Ac.c,iA,rowsA,setA,w1]));exact ⟨id,box_es a⟩
def HvOk (l:List Ac):Prop:=l.length<=60/\∀a∈l.take 15,a.z.length<=40/\a.rows.length<=10
theorem f56 (l:List Ac) (hl:l.length<=1048576) (ha:∀a∈l,AcSz a):Spec0 Tryz.prog 56 [actsA l] (λq=>∃b:Bool,q=bA b/\(b=false->HvOk l)):=by
 refine spec0_of_vc tabOk elems og56 Tryz.func56 rfl (rl:=[.tmp 2]) rfl (by kernel_rfl) rfl ?_;(simp -implicitDefEqProofs only[go_sem,actsA,iA];repeat (refine GO ?_;simp -implicitDefEqProofs only[go_sem,actsA,iA]));refine VIF.split (λh0=>?_) (λh0=>?_)
 ·refine Ad ?_;exact ⟨true,rfl,λh=>by cases h⟩
 have h0:l.length<=60:=by simp at h0;omega
 (simp -implicitDefEqProofs only[go_sem,actsA,iA];repeat (refine GO ?_;simp -implicitDefEqProofs only[go_sem,actsA,iA]));refine LOOP.mk (ι:={p:Nat//p<=l.length/\∀j (h:j<l.length),j<p->l[j].z.length<=40/\l[j].rows.length<=10}) (λp=>mkS [(0,actsA l),(3,iA p.1)] [] []) (λp=>l.length-p.1) ⟨0,Nat.zero_le _,λj _ h=>absurd h (Nat.not_lt_zero j)⟩ [] rfl rfl ?_ (λp=>?_)
 ·(simp -implicitDefEqProofs only[go_sem,actsA,iA];repeat (refine GO ?_;simp -implicitDefEqProofs only[go_sem,actsA,iA]));exact ⟨id,rfl⟩
 obtain ⟨i,hi,hd⟩:=p;have fin:(l.length<=i\/15<=i)->HvOk l:=λh=>⟨h0,λa ha=>by
  obtain ⟨j,hj,rfl⟩:=List.mem_iff_getElem.1 ha;rw[List.getElem_take];rw[List.length_take] at hj;exact hd j (by omega) (by omega)⟩
 (simp -implicitDefEqProofs only[go_sem,actsA,iA];repeat (refine GO ?_;simp -implicitDefEqProofs only[go_sem,actsA,iA]));refine VIF.split (λh1=>?_) (λh1=>?_)
 rotate_left
 ·have h1:l.length<=i:=(by simpa using h1);refine A6 ?_;exact ⟨false,rfl,λ_=>fin (.inl h1)⟩
 have h1:i<l.length:=by simpa using h1
 have w1:=wrap_add1 (show i<4611686018427387904 by omega);have hai:=ha _ (List.getElem_mem h1);have hz1:=hai.z.1;have hr1:=hai.rows.1;refine Ab ?_;refine VIF.split (λh2=>?_) (λh2=>?_)
 rotate_left
 ·have h2:15<=i:=by simp at h2;omega
  refine A6 ?_;exact ⟨false,rfl,λ_=>fin (.inr h2)⟩
 refine Ab ?_;refine EL.map h1 ?_;simp -implicitDefEqProofs only[go_sem,Ac.c,iA];refine .lendTo (show Spec0 Tryz.prog 37 [setsA [l[i].z]] _ from s10 [l[i].z] (by simp) (by simp;omega) (λz hz t ht=>by rw[List.mem_singleton.1 hz] at ht;have:=hai.z.2 t ht;omega)) ?_ (by rintro _ rfl;rfl) λq hq=>?_
 ·refine Hp ?_;exact ⟨rfl,rfl⟩
 subst hq;refine Ad ?_;refine VIF.split (λh3=>?_) (λh3=>?_)
 ·refine Ad ?_;exact ⟨true,rfl,λh=>by cases h⟩
 refine Ab ?_;refine EL.map h1 ?_;(simp -implicitDefEqProofs only[go_sem,Ac.c,iA,setA];repeat (refine GO ?_;simp -implicitDefEqProofs only[go_sem,Ac.c,iA,setA]));refine VIF.split (λh4=>?_) (λh4=>?_)
 ·refine Ad ?_;exact ⟨true,rfl,λh=>by cases h⟩
 have h4:l[i].z.length<=40:=by simp at h4;omega
 refine Ab ?_;refine EL.map h1 ?_;(simp -implicitDefEqProofs only[go_sem,Ac.c,iA,rowsA];repeat (refine GO ?_;simp -implicitDefEqProofs only[go_sem,Ac.c,iA,rowsA]));refine VIF.split (λh5=>?_) (λh5=>?_)
 ·refine Ad ?_;exact ⟨true,rfl,λh=>by cases h⟩
 have h5:l[i].rows.length<=10:=by simp at h5;omega
 refine Ab ?_;refine LOOP.mk (ι:={k:Nat//k<=l[i].rows.length}) (λp=>mkS [(0,actsA l),(3,iA i),(4,iA p.1)] [] []) (λp=>l[i].rows.length-p.1) ⟨0,Nat.zero_le _⟩ [] rfl rfl ?_ (λp=>?_)
 ·(simp -implicitDefEqProofs only[go_sem,actsA,iA];repeat (refine GO ?_;simp -implicitDefEqProofs only[go_sem,actsA,iA]));exact ⟨id,rfl⟩
 obtain ⟨k,hk⟩:=p;(simp -implicitDefEqProofs only[go_sem,actsA,iA];repeat (refine GO ?_;simp -implicitDefEqProofs only[go_sem,actsA,iA]));refine EL.map h1 ?_;(simp -implicitDefEqProofs only[go_sem,Ac.c,iA,rowsA];repeat (refine GO ?_;simp -implicitDefEqProofs only[go_sem,Ac.c,iA,rowsA]));refine VIF.split (λh6=>?_) (λh6=>?_)
 rotate_left
 ·refine Ba ?_;refine BACK.mk ⟨i+1,by omega,λj hj hlt=>by
   by_cases e:j=i
   ·subst e;exact ⟨h4,h5⟩
   ·exact hd j hj (by omega)⟩ [] rfl rfl (by show l.length-(i+1)<l.length-i;omega) ?_
  (simp -implicitDefEqProofs only[go_sem,actsA,iA,w1];repeat (refine GO ?_;simp -implicitDefEqProofs only[go_sem,actsA,iA,w1]));exact id
 have h6:k<l[i].rows.length:=by simpa using h6
 have w2:=wrap_add1 (show k<4611686018427387904 by omega);have hrk:=hai.rows.2 _ (List.getElem_mem h6);refine Ab ?_;refine EL.map h1 ?_;(simp -implicitDefEqProofs only[go_sem,Ac.c,iA,rowsA];repeat (refine GO ?_;simp -implicitDefEqProofs only[go_sem,Ac.c,iA,rowsA]));refine EL.map h6 ?_;refine Bj ?_;refine VIF.split (λh7=>?_) (λh7=>?_)
 ·refine Ad ?_;exact ⟨true,rfl,λh=>by cases h⟩
 refine Ab ?_;refine EL.map h1 ?_;(simp -implicitDefEqProofs only[go_sem,Ac.c,iA,rowsA];repeat (refine GO ?_;simp -implicitDefEqProofs only[go_sem,Ac.c,iA,rowsA]));refine EL.map h6 ?_;refine B8 ?_;refine .lendR (args':=[setsA [[⟨l[i].rows[k],0⟩]]]) (s10 [[⟨l[i].rows[k],0⟩]] (by simp) (by simp) (λz hz t ht=>by rw[List.mem_singleton.1 hz,] at ht;rw[List.mem_singleton.1 ht];simp only;omega)) ⟨?_,trivial⟩ (by rintro _ rfl;rfl) λq hq=>?_
 ·refine .rf (o:=⟨1,[[.rf 73 0 1]]⟩) (es:=[[.rf 73 0 1]]) Ae rfl rfl (λx hx=>by rw[List.mem_singleton.1 hx];rfl) (λa b c h=>?_) λa b c c' h h'=>?_
  ·match a,b with
   | 0,0=>simp[cellAt] at h;subst h;rfl
   | 0,b+1=>simp[cellAt] at h
   | a+1,b=>simp[cellAt] at h
  ·match a,b with
   | 0,0=>
     simp[cellAt] at h h';subst h;subst h';exact lent_leafy (o:=so [⟨l[i].rows[k],0⟩]) (by simp -implicitDefEqProofs only[go_sem,It.c,iA,rowA,so];rfl) rfl (by simp[so]) (so_leafy _) (λx hx=>by obtain ⟨t,_,rfl⟩:=List.mem_map.1 hx;rfl)
   | 0,b+1=>simp[cellAt] at h
   | a+1,b=>simp[cellAt] at h
 subst hq;refine Ad ?_;refine VIF.split (λh8=>?_) (λh8=>?_)
 ·refine Ad ?_;exact ⟨true,rfl,λh=>by cases h⟩
 refine C7 ?_;refine BACK.mk ⟨k+1,by omega⟩ [] rfl rfl (by show l[i].rows.length-(k+1)<l[i].rows.length-k;omega) ?_;(simp -implicitDefEqProofs only[go_sem,actsA,iA,w2];repeat (refine GO ?_;simp -implicitDefEqProofs only[go_sem,actsA,iA,w2]));exact id
theorem some_sz {F:List (List Int)} {l:List PN} {tabs U:List (List It)} {r:Nat} (hP:LawP l F) (hT:LawT tabs) (g3:heavyT tabs=false) (g4:wideL r l=false) (hr:r<=1000) (hr2:40<=r*r) (hn:U.length<=tabs.length) (h:∀z∈U,z∈tabs\/z=[]):EvSz F l U (r*r):=by
 obtain ⟨h1,h2⟩:=heavyT_ok g3;refine sq_sz hP.sz g4 hr (by have:=hT.len;omega) λz hz=>?_;rcases h z hz with h|rfl
 ·exact ⟨by have:=h2 z h;omega,hT.rr z h⟩
 ·simp
theorem feed_get {F:List (List Int)} {l:List PN} {tabs S tabs' S':List (List It)} {t:Int} {dz out:List It} {e:Int} (h:FeedR F l tabs S t dz tabs' S' out e) :
 (e=1/\tabs'=tabs/\S'=S/\out=[])\/(e=0/\∃next,FeedTo F tabs t dz next/\tabs'=tabs.set t.toNat next/\CirP F l tabs' S'/\Dlt (lst l S) (lst l S') out):=by
 rcases h with ⟨h1,h2,h3,h4,h5⟩|⟨n,h1,h2,h3,h4,h5⟩
 ·exact .inl ⟨h5,h2,h3,h4⟩
 ·exact .inr ⟨h5,n,h1,h2,h3,h4⟩
structure Few2 (tabs:List (List It)) (i:Nat):Prop where
 z:∀z∈tabs,z.length<=40*i
theorem few_sz {F:List (List Int)} {l:List PN} {tabs S:List (List It)} {i r:Nat} (hp:PlSz F l) (hw:wideL r l=false) (hr:r<=1000) (hr2:600<=r*r) (hc:CirP F l tabs S) (h:Few2 tabs i) (hi:i<=15):EvSz F l tabs (r*r):=by obtain ⟨hF,_⟩:=planE_ok hc.plan;refine sq_sz hp hw hr (by rw[hc.tb.1];have:=hp.fl;omega) λz hz=>⟨by have:=h.z z hz;omega,λt ht=>?_⟩;have:=(hc.tb.rows hF z hz).2 t ht;omega
theorem setAt_le {tabs:List (List It)} {n:Nat} (h:∀z∈tabs,z.length<=n) (k:Int):(setAt tabs k).length<=n:=setAt_all (P:=λz=>z.length<=n) h (by simp) k
theorem Few2.step {F:List (List Int)} {tabs:List (List It)} {t:Int} {dz next:List It} {i:Nat} (h:Few2 tabs i) (hd:dz.length<=40) (hto:FeedTo F tabs t dz next):Few2 (tabs.set t.toNat next) (i+1):=⟨λz hz=>by
 rcases List.mem_or_eq_of_mem_set hz with h1|rfl
 ·have:=h.z z h1;omega
 ·have:=(addR_rows hto.2.1).1;have:=setAt_le h.z t;omega⟩
theorem Few2.up {tabs:List (List It)} {i:Nat} (h:Few2 tabs i):Few2 tabs (i+1):=⟨λz hz=>by have:=h.z z hz;omega⟩
theorem hv_at {l:List Ac} {i:Nat} (h:HvOk l) (hi:i<l.length) (h15:i<15):l[i].z.length<=40/\l[i].rows.length<=10:=by
 have hm:l[i]∈l.take 15:=by rw[List.mem_take_iff_getElem];exact ⟨i,by omega,rfl⟩
 exact h.2 _ hm
theorem l12 (l:List PN) (F:List (List Int)) (acts:List Ac) (hP:LawP l F) (hal:acts.length<=1048576) (haz:∀a∈acts,AcSz a):Spec0 Tryz.prog 12 [plA l,formsA F,actsA acts] (·=bA true):=by
 have hl:l.length<4611686018427387904:=by have:=hP.ll;omega
 have hl':l.length<1073741824:=by have:=hP.ll;omega
 have hf:F.length<4611686018427387904:=by have:=hP.fl;omega
 refine spec0_of_vc tabOk elems og12 Tryz.func12 rfl (rl:=[.tmp 6]) rfl (by kernel_rfl) rfl ?_;(simp -implicitDefEqProofs only[go_sem,actsA,formsA,plA];repeat (refine GO ?_;simp -implicitDefEqProofs only[go_sem,actsA,formsA,plA]));refine .pure _ (show Spec0 Tryz.prog 19 [plA l] _ from h19 l hl) rfl λq hq _=>?_;subst hq;refine Ad ?_;refine VIF.split (λ_=>?_) (λg1=>?_)
 ·exact Ai
 refine Aa ?_;refine .pure _ (show Spec0 Tryz.prog 20 [formsA F] _ from h20 F hf) rfl λq hq _=>?_;subst hq;refine Ad ?_;refine VIF.split (λ_=>?_) (λg2=>?_)
 ·exact Ai
 refine Aa ?_;refine .pure _ (show Spec0 Tryz.prog 56 [actsA acts] _ from f56 acts hal haz) rfl λq hq _=>?_;obtain ⟨hv,rfl,hhv⟩:=hq;refine Ad ?_;refine VIF.split (λ_=>?_) (λg3=>?_)
 ·exact Ai
 refine Ab ?_;refine .pure _ (show Spec0 Tryz.prog 22 [plA l,iA (30:Nat)] _ from h22 l 30 hl' (by decide)) rfl λq hq _=>?_;subst hq;refine Ad ?_;refine VIF.split (λ_=>?_) (λg4=>?_)
 ·exact Ai
 refine Aa ?_;refine .pure _ (show Spec0 Tryz.prog 47 [plA l,formsA F] _ from p47 F l hP.sz) rfl λq hq _=>?_;subst hq;refine Ab ?_;refine VIF.split (λ_=>?_) (λg5=>?_)
 ·exact Ai
 have g3:hv=false:=by simpa using g3
 have g4:wideL 30 l=false:=by simpa using g4
 have g5:planE F l=0:=by simpa using g5
 have hvo:=hhv g3;obtain ⟨hF,hl1,hl2,hp⟩:=planE_ok g5;have hFp:=formsE_pos hF;refine Aa ?_;refine CALL.new hP.sz g5 1000 (by simp) (λn hn=>by simp only[upd];(repeat rw[if_neg (by omega)]);rfl) ?_;refine Ab ?_;refine Ah ?_;have c0:=cir_new g5;have n0:(nilS F.length).length=F.length:=by simp[nilS]
 have hfl:=hP.fl;refine ⟨by omega,?_⟩;refine Ab ?_
 refine LOOP.mk (ι:={p:(Nat×List (List It))×List (List It)×Int×AV//p.1.1<=acts.length/\p.1.1<=15/\Few2 p.1.2 p.1.1/\CirP F l p.1.2 p.2.1/\Tch F l p.2.2.1 p.2.2.2}) (λp=>mkS [(1,formsA F),(2,actsA acts),(9,.pt 1000 0 0),(11,.rf 58 0 F.length),(12,setA (lst l p.1.2.1)),(13,iA p.1.1.1)]
  [(1000,cO l F (lastN F l).types (.rf 1001 0 p.1.1.2.length) p.1.2.1 p.1.2.2.1 0 p.1.2.2.2),(1001,doO p.1.1.2),(58,doO p.1.1.2)] [1000,1001,58]) (λp=>acts.length-p.1.1.1)
  ⟨((0,nilS F.length),nilS l.length,0,.nl),Nat.zero_le _,Nat.zero_le _,⟨λz hz=>by rw[nilS_rows _ z hz];simp⟩,c0,.inl ⟨rfl,rfl⟩⟩ [(1000,some 1000),(1001,some 1001),(58,some 58)] rfl rfl ?_ (λp=>?_)
 ·(simp -implicitDefEqProofs only[go_sem,actsA,doO,formsA,iA,lst_nil,n0,setA];repeat (refine GO ?_;simp -implicitDefEqProofs only[go_sem,actsA,doO,formsA,iA,lst_nil,n0,setA]));exact ⟨id,⟨by simp,rfl,rfl⟩,ci_es Ae rfl,sets_eq rfl,es_doN _⟩
 obtain ⟨⟨⟨i,tabs⟩,S,d,touch⟩,hi,hi15,hfw,hc,htc⟩:=p;simp only at hi hi15 hfw hc htc;(simp -implicitDefEqProofs only[go_sem,actsA,formsA,iA];repeat (refine GO ?_;simp -implicitDefEqProofs only[go_sem,actsA,formsA,iA]));refine VIF.split (λh1=>?_) (λh1=>?_)
 rotate_left
 ·refine Ab ?_;refine .pure _ (show Spec0 Tryz.prog 61 [] _ from r61) rfl λq hq _=>?_;subst hq;exact Ai
 have h1:i<acts.length:=by simpa using h1
 refine Ab ?_;refine VIF.split (λh2=>?_) (λh2=>?_)
 rotate_left
 ·refine Ab ?_;refine .pure _ (show Spec0 Tryz.prog 61 [] _ from r61) rfl λq hq _=>?_;subst hq;exact Ai
 have h2:i<15:=by simp at h2;omega
 have w1:=wrap_add1 (show i<4611686018427387904 by omega);have hai:=haz _ (List.getElem_mem h1);obtain ⟨hv1,hv2⟩:=hv_at hvo h1 h2;have htn:=hc.tb.1;have hzt:=few_sz hP.sz g4 (by decide) (by decide) hc hfw (show i<=15 by omega);obtain ⟨kk,hkk,ek,ek0⟩:=mod_ok acts[i].t hFp (by omega);have hkt:kk<tabs.length:=by omega
 have hat:setAt tabs (kk:Nat)=tabs[kk]:=setAt_eq (k:=((kk:Nat):Int)) (by simpa using hkt);have htr:=hc.tb.rows hF _ (List.getElem_mem hkt);have hts:=hfw.z _ (List.getElem_mem hkt);refine Ab ?_;refine EL.map h1 ?_;(simp -implicitDefEqProofs only[go_sem,Ac.c,doO,ek,iA];repeat (refine GO ?_;simp -implicitDefEqProofs only[go_sem,Ac.c,doO,ek,iA]));refine ⟨ek0,by omega,EL.map hkt ?_⟩;(simp -implicitDefEqProofs only[go_sem,Ac.c,doO,iA];repeat (refine GO ?_;simp -implicitDefEqProofs only[go_sem,Ac.c,doO,iA]));refine EL.map h1 ?_;(simp -implicitDefEqProofs only[go_sem,Ac.c,iA];repeat (refine GO ?_;simp -implicitDefEqProofs only[go_sem,Ac.c,iA]));refine .pure _ (show Spec0 Tryz.prog 58 [setA tabs[kk],.ag acts[i].c] _ from f58 tabs[kk] acts[i] (by omega) (λt ht=>by have:=htr.2 t ht;omega) hai) rfl λq hq _=>?_;obtain ⟨dz,rfl,hd⟩:=hq;have hdl:dz.length<=40:=by have:=hd.len;have:max acts[i].z.length acts[i].rows.length<=40:=Nat.max_le.2 ⟨hv1,by omega⟩;omega
 have hdr:∀x∈dz,x.row.length<1073741824:=λx hx=>by have:=hd.rows x hx;omega
 refine Ab ?_;refine CALL.feed (ty:=(lastN F l).types) (K0:=30*30) 1000 1001 (by decide) (by simp) (by simp) Ae Ff hc hzt (by rw[hat];omega) (by decide) hdr htc 2000 (by simp) (λn hn=>by simp only[upd];(repeat rw[if_neg (by omega)]);rfl) ?_;intro tabs' S' out e d' touch' hl' htc' hq;rcases feed_get hq with ⟨rfl,rfl,rfl,rfl⟩|⟨rfl,next,hto,e1,hc',dl⟩
 ·refine Al ?_;refine Bh ?_;refine Ak ?_;refine BACK.mk ⟨((i+1,tabs'),S',d',touch'),by show i+1<=acts.length;omega,by show i+1<=15;omega,hfw.up,hc,htc'⟩ [(1000,some 1000),(1001,some 2001),(58,some 58)] rfl rfl (by show acts.length-(i+1)<acts.length-i;omega) ?_;refine Hz ?_;exact ⟨id,wk_leaf rfl,⟨rfl,ci_es Ae (tch_leaf htc')⟩,sets_eq rfl,sets_eq rfl⟩
 have hfw':=hfw.step hdl hto;rw[<- e1] at hfw';have htn':=hc'.tb.1;have hzt':=few_sz hP.sz g4 (by decide) (by decide) hc' hfw' (show i+1<=15 by omega);have q1:=hc.len hzt;obtain ⟨q2,q3⟩:=dl.len hc hc' hzt hzt';have q4:=hc'.len hzt';have q5:=hc'.rows;refine Ab ?_;refine VIF.f ?_;refine Ab ?_;refine .pure _ (show Spec0 Tryz.prog 36 [setA (lst l S),setA out] _ from Spec1.setE (s23 (lst l S) out (by omega) (λt ht=>by have:=hc.rows t ht;omega) (λt ht=>by have:=q3 t ht;omega))) rfl λq hq2 _=>?_;obtain ⟨s,g,rfl,ha⟩:=hq2;obtain ⟨rfl,rfl⟩:=sum_step (tabs':=tabs') hc hc' dl ha;refine En ?_;refine ⟨by omega,EL.map hkt ?_⟩;refine Ab ?_;refine .pure _ (show Spec0 Tryz.prog 36 [setA tabs[kk],setA dz] _ from Spec1.setE (s23 tabs[kk] dz (by omega) (λt ht=>by have:=htr.2 t ht;omega) hdr)) rfl λq hq2 _=>?_;obtain ⟨n2,g2,rfl,ha2⟩:=hq2;have ha3:=hto.2.1;rw[hat] at ha3;obtain ⟨rfl,rfl⟩:=addR_same2 ha2 ha3;refine Ab ?_;refine Ah ?_;refine CALL.out (ty:=(lastN F l).types) (K0:=30*30) 1000 2001 Ae Ff hc' hzt' htc' 3000 (by simp) (λn hn=>by simp only[upd];(repeat rw[if_neg (by omega)]);rfl) ?_;rw[show setAt S' (l.length-1:Nat)=lst l S' from rfl];refine Ab ?_;refine .pure _ (show Spec0 Tryz.prog 30 [setA (lst l S'),setA (lst l S')] _ from s18 (lst l S') (lst l S') (by omega) (by omega) (λt ht=>by have:=q5 t ht;omega)) rfl λq hq _=>?_;obtain ⟨b,rfl,hb⟩:=hq;have hb:b=true:=hb.2 rfl;subst hb;refine Ad ?_;refine D3 ?_;refine ⟨by omega,EL.map hkt ?_⟩;(simp -implicitDefEqProofs only[go_sem,iA,w1,wk_setA];repeat (refine GO ?_;simp -implicitDefEqProofs only[go_sem,iA,w1,wk_setA]));refine BACK.mk ⟨((i+1,tabs'),S',d',touch'),by show i+1<=acts.length;omega,by show i+1<=15;omega,hfw',hc',htc'⟩ [(1000,some 1000),(1001,some 2001),(58,some 58)] rfl rfl (by show acts.length-(i+1)<acts.length-i;omega) ?_;refine Hz ?_;refine ⟨by simp[famU_mem],wk_leaf rfl,⟨rfl,ci_es Ae (tch_leaf htc')⟩,sets_eq rfl,?_⟩;rw[e1,Int.toNat_natCast,List.map_set];exact es_set (doO_leafy tabs) (wks_leaf λa ha=>by rw[List.mem_singleton.1 ha];rfl) kk
theorem cir_sz {F:List (List Int)} {l:List PN} {tabs S:List (List It)} {r:Nat} (hp:PlSz F l) (hw:wideL r l=false) (hr:r<=1000) (hc:CirP F l tabs S) (h:∀z∈tabs,z.length<=r*r):EvSz F l tabs (r*r):=by obtain ⟨hF,_⟩:=planE_ok hc.plan;refine sq_sz hp hw hr (by rw[hc.tb.1];have:=hp.fl;omega) λz hz=>⟨h z hz,λt ht=>?_⟩;have:=(hc.tb.rows hF z hz).2 t ht;omega
theorem good_drop {z:List It} (h:Good z) (i:Nat):Good (z.drop i):=by obtain ⟨h1,h2⟩:=good_made.1 h;exact good_made.2 ⟨⟨List.Pairwise.sublist (List.drop_sublist i z) h1.pw,λt ht=>h1.nz t (List.mem_of_mem_drop ht)⟩,λt ht=>h2 t (List.mem_of_mem_drop ht)⟩
theorem good_one {z:List It} (h:Good z) {t:It} (ht:t∈z):Good [t]:=by obtain ⟨h1,h2⟩:=good_made.1 h;exact good_made.2 ⟨⟨List.pairwise_singleton _ _,λu hu=>by rw[List.mem_singleton.1 hu];exact h1.nz t ht⟩,λu hu=>by rw[List.mem_singleton.1 hu];exact h2 t ht⟩
theorem tab_drop {f:List Int} {z:List It} (h:tabE f z) (i:Nat):tabE f (z.drop i):=by refine ⟨good_drop h.1 i,by have:=h.2.1;rw[List.length_drop];omega,?_⟩;have:=h.2.2;rw[List.any_eq_false] at this ⊢;exact λt ht=>this t (List.mem_of_mem_drop ht)
theorem good_any {z:List It} (h:Good z):(z.any λt=>!okI t)=false:=by obtain ⟨h1,h2⟩:=good_made.1 h;rw[List.any_eq_false];intro u hu;simp[okI,h2 u hu,(h1.nz u hu).2]
theorem okAny_app {a b:List It} (ha:(a.any λt=>!okI t)=false) (hb:(b.any λt=>!okI t)=false):((a++b).any λt=>!okI t)=false:=by rw[List.any_append,ha,hb];rfl
theorem feedto_cons {F:List (List Int)} {tabs:List (List It)} {t:Int} {f:List Int} {z:List It} {i:Nat} (ht:inC t F.length=true) (hf:F[t.toNat]?=some f) (hz:tabE f z) (hi:i<z.length) (h0:setAt tabs t=z.drop (i+1)):FeedTo F tabs t [z[i]] (z.drop i):=by have hm:z[i]∈z:=List.getElem_mem hi;refine ⟨ht,.inr ⟨by rw[h0];exact good_drop hz.1 _,good_one hz.1 hm,?_⟩,by rw[hf];exact tab_drop hz i⟩;rw[h0];refine makeR_of (okAny_app (good_any (good_drop hz.1 _)) (good_any (good_one hz.1 hm))) (good_drop hz.1 i) λr=>?_;rw[List.drop_eq_getElem_cons hi,tot_append];simp only[tot];omega
theorem feedto_back {F:List (List Int)} {tabs:List (List It)} {t:Int} {dz next:List It} (ht:TabsE F tabs) (h:FeedTo F tabs t dz next):Good dz/\FeedTo F (tabs.set t.toNat next) t (dz.map negI) (setAt tabs t):=by
 obtain ⟨h1,h2,h3⟩:=h.lt ht;have hg:Good dz/\Good (setAt tabs t)/\MakeR (setAt tabs t++dz) next 0:=by
  rcases h.2.1 with ⟨_,_,h4⟩|⟨h4,h5,h6⟩
  ·cases h4
  ·exact ⟨h5,h4,h6⟩
 refine ⟨hg.1,h.1,.inr ⟨by rw[h.at_ ht];exact h.2.2.1,good_neg hg.1,?_⟩,?_⟩
 ·rw[h.at_ ht];refine makeR_of (okAny_app (good_any h.2.2.1) (good_any (good_neg hg.1))) hg.2.1 λr=>?_;rw[tot_append,tot_neg,(makeR_z hg.2.2).2,tot_append];omega
 ·rw[List.getElem?_eq_getElem h2,setAt_eq h3];exact ht.2 _ h2 h3
theorem slice1 {z:List It} {i:Nat} (h:i<z.length):List.drop i (List.take (i+1) (z.map It.c))=[z[i].c]:=by rw[List.drop_take,List.drop_eq_getElem_cons (by simpa using h)];simp
def midT (tabs:List (List It)) (n k:Nat) (z:List It) (m:Nat):List (List It):=(upT tabs n k).set k (z.drop m)
theorem midT_at {tabs:List (List It)} {n k m:Nat} {z:List It} (h:tabs.length=n) (hk:k<n):setAt (midT tabs n k z m) (k:Nat)=z.drop m:=by
 have:k<(midT tabs n k z m).length:=by rw[midT,List.length_set,upT_len h (by omega)];exact hk
 rw[setAt_eq (by simpa using this)];simp[midT]
theorem midT_set {tabs:List (List It)} {n k m m':Nat} {z:List It}:(midT tabs n k z m).set k (z.drop m')=midT tabs n k z m':=by rw[midT,List.set_set,midT]
theorem midT_all {tabs:List (List It)} {n k:Nat} {z:List It} (h:tabs.length=n) (hk:k<n):midT tabs n k z z.length=upT tabs n k:=by
 have h1:k<(upT tabs n k).length:=by rw[upT_len h (by omega)];exact hk
 have h2:=upT_at h hk;rw[setAt_eq (by simpa using h1)] at h2;have h3:(upT tabs n k)[k]=[]:=by simpa using h2
 rw[midT,List.drop_length];refine List.ext_getElem (by simp) λj q1 q2=>?_;by_cases e:k=j
 ·subst e;simp[h3]
 ·rw[List.getElem_set_ne e]
theorem midT_0 {tabs:List (List It)} {n k:Nat} (h:tabs.length=n) (hk:k<n) (hk2:k<tabs.length):midT tabs n k tabs[k] 0=upT tabs n (k+1):=by rw[midT,List.drop_zero];exact upT_set h hk hk2
theorem midT_mem {tabs:List (List It)} {n k m:Nat} {z y:List It} (h:y∈midT tabs n k z m):y∈tabs\/y=[]\/y.length<=z.length:=by
 rcases List.mem_or_eq_of_mem_set h with h1|rfl
 ·rcases upT_mem h1 with h1|h1
  ·exact .inl h1
  ·exact .inr (.inl h1)
 ·exact .inr (.inr (by simp))
theorem l13 (l:List PN) (F:List (List Int)) (tabs:List (List It)) (a:Ac) (hP:LawP l F) (hT:LawT tabs) (haz:AcSz a):Spec0 Tryz.prog 13 [plA l,formsA F,setsA tabs,.ag a.c] (·=bA true):=by
 have hl:l.length<4611686018427387904:=by have:=hP.ll;omega
 have hl':l.length<1073741824:=by have:=hP.ll;omega
 have hf:F.length<4611686018427387904:=by have:=hP.fl;omega
 refine spec0_of_vc tabOk elems og13 Tryz.func13 rfl (rl:=[.tmp 8]) rfl (by kernel_rfl) rfl ?_;(simp -implicitDefEqProofs only[go_sem,Ac.c,formsA,iA,plA,setsA];repeat (refine GO ?_;simp -implicitDefEqProofs only[go_sem,Ac.c,formsA,iA,plA,setsA]));refine .pure _ (show Spec0 Tryz.prog 19 [plA l] _ from h19 l hl) rfl λq hq _=>?_;subst hq;refine Ad ?_;refine VIF.split (λ_=>?_) (λg1=>?_)
 ·exact Ai
 refine Aa ?_;refine .pure _ (show Spec0 Tryz.prog 20 [formsA F] _ from h20 F hf) rfl λq hq _=>?_;subst hq;refine Ad ?_;refine VIF.split (λ_=>?_) (λg2=>?_)
 ·exact Ai
 refine Aa ?_;refine .pure _ (show Spec0 Tryz.prog 21 [setsA tabs] _ from h21 tabs hT.lt hT.zz hT.rr) rfl λq hq _=>?_;subst hq;refine Ad ?_;refine VIF.split (λ_=>?_) (λg3=>?_)
 ·exact Ai
 refine Ab ?_;refine .lendR (args':=[actsA [a]]) (f56 [a] (by simp) (λx hx=>by rw[List.mem_singleton.1 hx];exact haz)) ⟨?_,trivial⟩ (by rintro _ ⟨b,rfl,_⟩;rfl) λq hq=>?_
 ·exact lent_leafy (o:=⟨3,[a.c]⟩) (by simp -implicitDefEqProofs only[go_sem,Ac.c,iA]) rfl rfl (by rw[leafy_do];simp[leafs2,leafs,Ac.c,iA,setA,rowsA,AV.leaf]) (λx hx=>by rw[List.mem_singleton.1 hx];rfl)
 obtain ⟨hv,rfl,hhv⟩:=hq;refine Ad ?_;refine VIF.split (λ_=>?_) (λg6=>?_)
 ·exact Ai
 refine Ab ?_;refine .pure _ (show Spec0 Tryz.prog 22 [plA l,iA (40:Nat)] _ from h22 l 40 hl' (by decide)) rfl λq hq _=>?_;subst hq;refine Ad ?_;refine VIF.split (λ_=>?_) (λg4=>?_)
 ·exact Ai
 refine Aa ?_;refine .pure _ (show Spec0 Tryz.prog 35 [plA l,formsA F,setsA tabs] _ from r35 F l tabs hP.sz hT.lt hT.both) rfl λq hq _=>?_;obtain ⟨ok,rfl,hok⟩:=hq;refine Ad ?_;refine VIF.split (λ_=>?_) (λg5=>?_)
 ·exact Ai
 have g1:heavyP l=false:=by simpa using g1
 have g2:heavyF F=false:=by simpa using g2
 have g3:heavyT tabs=false:=by simpa using g3
 have g4:wideL 40 l=false:=by simpa using g4
 have g5:ok=true:=by simpa using g5
 have hR:RightP F l tabs:=hok.1 g5;obtain ⟨hF,hl1,hl2,hp⟩:=planE_ok hR.1;have htn:tabs.length=F.length:=hR.2.1;obtain ⟨ht10,ht40⟩:=heavyT_ok g3;have sz:=λ(U:List (List It)) hn h=>some_sz (F:=F) (l:=l) (tabs:=tabs) (U:=U) (r:=40) hP hT g3 g4 (by decide) (by decide) hn h;refine Aa ?_;refine CALL.new hP.sz hR.1 1000 (by simp) (λn hn=>by simp only[upd];(repeat rw[if_neg (by omega)]);rfl) ?_;refine Ab ?_;refine CALL.new hP.sz hR.1 1100 (by simp) (λn hn=>by simp only[upd];(repeat rw[if_neg (by omega)]);rfl) ?_;refine Ab ?_;refine Ah ?_;have g6:hv=false:=by simpa using g6
 have hvo:=hhv g6;obtain ⟨hv1,hv2⟩:=hv_at hvo (i:=0) (by simp) (by decide);simp only[List.getElem_cons_zero] at hv1 hv2;have c0:=cir_new hR.1;have n0:(nilS F.length).length=F.length:=by simp[nilS]
 have hFp:=formsE_pos hF;have hfl:=hP.fl
 refine LOOP.mk (ι:={p:Nat×List (List It)×(Int×AV)×(Int×AV)//p.1<=F.length/\CirP F l (upT tabs F.length p.1) p.2.1/\Tch F l p.2.2.1.1 p.2.2.1.2/\Tch F l p.2.2.2.1 p.2.2.2.2}) (λp=>mkS [(1,formsA F),(2,setsA tabs),(7,.pt 7 0 0),(9,.pt 1000 0 0),(11,.pt 1100 0 0),(13,iA p.1.1)]
  [(7,⟨3,[a.c]⟩),(1000,cO l F (lastN F l).types (.rf 1001 0 (upT tabs F.length p.1.1).length) p.1.2.1 p.1.2.2.1.1 0 p.1.2.2.1.2),(1001,doO (upT tabs F.length p.1.1)),(1100,cO l F (lastN F l).types (.rf 1101 0 (upT tabs F.length p.1.1).length) p.1.2.1 p.1.2.2.2.1 0 p.1.2.2.2.2),(1101,doO (upT tabs F.length p.1.1))] [7,1000,1001,1100,1101]) (λp=>F.length-p.1.1)
  ⟨(0,nilS l.length,(0,.nl),(0,.nl)),Nat.zero_le _,by rw[upT_0];exact c0,.inl ⟨rfl,rfl⟩,.inl ⟨rfl,rfl⟩⟩ [(7,some 7),(1000,some 1000),(1001,some 1001),(1100,some 1100),(1101,some 1101)] rfl rfl ?_ (λp=>?_)
 ·(simp -implicitDefEqProofs only[go_sem,Ac.c,formsA,iA,n0,rowsA,setA,setsA,upT_0];repeat (refine GO ?_;simp -implicitDefEqProofs only[go_sem,Ac.c,formsA,iA,n0,rowsA,setA,setsA,upT_0]));exact ⟨id,rfl,box_es a,ci_es Ae rfl,sets_eq rfl,ci_es Ae rfl,sets_eq rfl⟩
 obtain ⟨⟨k,S,⟨d,touch⟩,d2,touch2⟩,hk,hc,htc,htc2⟩:=p;simp only at hk hc htc htc2;refine Dj ?_;refine VIF.split (λk1=>?_) (λk1=>?_)
 ·have k1:k<tabs.length:=(by simpa using k1);have hkF:k<F.length:=(by omega);have w1:=wrap_add1 (show k<4611686018427387904 by omega);have hzs:=(hT.zl _ (List.getElem_mem k1));have hz4:=(ht40 _ (List.getElem_mem k1));have hrr:∀x∈tabs[k],x.row.length<1073741824:=λx hx=>by have:=hT.rl _ (List.getElem_mem k1) x hx;omega
  have hte:=hR.2.2 k hkF k1;have hfk:F[((k:Nat):Int).toNat]?=some F[k]:=List.getElem?_eq_getElem hkF;have hik:inC ((k:Nat):Int) F.length=true:=inC_ok.2 ⟨by omega,by omega⟩;have hzk:=sz (upT tabs F.length k) (by rw[upT_len htn hk];omega) λz hz=>upT_mem hz;refine Ab ?_;refine EL.map k1 ?_;refine Ab ?_;refine CALL.feed (ty:=(lastN F l).types) (K0:=40*40) 1000 1001 (by decide) (by simp) (by simp) Ae Ae hc hzk (by rw[upT_at htn (by omega)];simp;omega) (by decide) hrr htc 2000 (by simp) (λn hn=>by simp only[upd];(repeat rw[if_neg (by omega)]);rfl) ?_;intro tabs' S' out e d' touch' hl' htc' hq;obtain ⟨e1,hc',dl,rfl⟩:=feed_ok hq (feedto_tab hik hfk hte (upT_at htn (by omega)));rw[show ((k:Nat):Int).toNat=k from rfl,upT_set htn hkF k1] at e1;subst e1;have wm:IntKind.i64.wrap ((tabs[k].length:Int)-1)=(tabs[k].length:Int)-1:=by rw[wrap_i64]<;>omega
  refine Ab ?_;refine VIF.f ?_;refine Ab ?_;refine EL.map k1 ?_;(simp -implicitDefEqProofs only[go_sem,iA,setA,wm];repeat (refine GO ?_;simp -implicitDefEqProofs only[go_sem,iA,setA,wm]))
  refine LOOP.mk (ι:={p:Nat×List (List It)×Int×AV//p.1<=tabs[k].length/\CirP F l (midT tabs F.length k tabs[k] p.1) p.2.1/\Tch F l p.2.2.1 p.2.2.2}) (λp=>mkS [(1,formsA F),(2,setsA tabs),(7,.pt 7 0 0),(9,.pt 1000 0 0),(11,.pt 1100 0 0),(13,iA k),(16,iA ((p.1.1:Int)-1))]
   [(7,⟨3,[a.c]⟩),(1000,cO l F (lastN F l).types (.rf 1001 0 (upT tabs F.length (k+1)).length) S' d' 0 touch'),(1001,doO (upT tabs F.length (k+1))),(1100,cO l F (lastN F l).types (.rf 1101 0 (midT tabs F.length k tabs[k] p.1.1).length) p.1.2.1 p.1.2.2.1 0 p.1.2.2.2),(1101,doO (midT tabs F.length k tabs[k] p.1.1))] [7,1000,1001,1100,1101]) (λp=>p.1.1)
   ⟨(tabs[k].length,S,d2,touch2),Nat.le_refl _,by rw[midT_all htn hkF];exact hc,htc2⟩ [(7,some 7),(1000,some 1000),(1001,some 2001),(1100,some 1100),(1101,some 1101)] rfl rfl ?_ (λp=>?_)
  ·have mA:=midT_all (z:=tabs[k]) htn hkF;(simp -implicitDefEqProofs only[go_sem,Ac.c,formsA,iA,mA,rowsA,setA,setsA];repeat (refine GO ?_;simp -implicitDefEqProofs only[go_sem,Ac.c,formsA,iA,mA,rowsA,setA,setsA]));exact ⟨id,box_es a,⟨rfl,ci_es Ae (tch_leaf htc')⟩,sets_eq rfl,ci_es Ae (tch_leaf htc2),sets_eq rfl⟩
  obtain ⟨⟨m,S2,d3,touch3⟩,hm,hcm,htc3⟩:=p;simp only at hm hcm htc3;refine Dj ?_;cases m with
  | zero=>
    have e0:=midT_0 htn hkF k1;rw[e0] at hcm;refine VIF.split (λm1=>absurd (by simpa using m1) (show ¬(0:Int)<=((0:Nat):Int)-1 by omega)) (λm1=>?_);(simp -implicitDefEqProofs only[go_sem,e0,iA,w1];repeat (refine GO ?_;simp -implicitDefEqProofs only[go_sem,e0,iA,w1]));refine BACK.mk ⟨(k+1,S',(d',touch'),d3,touch3),by show k+1<=F.length;omega,hc',htc',htc3⟩ [(7,some 7),(1000,some 1000),(1001,some 1001),(1100,some 1100),(1101,some 1101)] rfl rfl (by show F.length-(k+1)<F.length-k;omega) ?_;have eS:=hcm.same hc';subst eS;(simp -implicitDefEqProofs only[go_sem,Ac.c,formsA,iA,rowsA,setA,setsA,w1];repeat (refine GO ?_;simp -implicitDefEqProofs only[go_sem,Ac.c,formsA,iA,rowsA,setA,setsA,w1]));exact ⟨id,box_es a,ci_es Ae (tch_leaf htc'),sets_eq rfl,ci_es Ae (tch_leaf htc3),sets_eq rfl⟩
  | succ i=>
    have hi:i<tabs[k].length:=hm;have e0:((i+1:Nat):Int)-1=i:=(by omega);have w2:=wrap_add1 (show i<4611686018427387904 by omega);have wd:IntKind.i64.wrap ((i:Int)-1)=(i:Int)-1:=by rw[wrap_i64]<;>omega
    have es:=slice1 hi;refine VIF.split (λ_=>?_) (λm1=>absurd m1 (by simp));refine Hd ?_;refine EL.map k1 ?_;(simp -implicitDefEqProofs only[go_sem,iA,setA,w2];repeat (refine GO ?_;simp -implicitDefEqProofs only[go_sem,iA,setA,w2]));refine ⟨⟨by omega,by omega⟩,?_⟩;(simp -implicitDefEqProofs only[go_sem,es,iA,setA];repeat (refine GO ?_;simp -implicitDefEqProofs only[go_sem,es,iA,setA]));have hto:=feedto_cons (F:=F) (tabs:=midT tabs F.length k tabs[k] (i+1)) (t:=k) hik hfk hte hi (midT_at htn hkF);have hzm:=cir_sz hP.sz g4 (by decide) hcm (λz hz=>by
     rcases midT_mem hz with h|rfl|h
     ·have:=ht40 z h;omega
     ·simp
     ·omega)
    refine CALL.feed (ty:=(lastN F l).types) (K0:=40*40) (dz:=[tabs[k][i]]) 1100 1101 (by decide) (by simp) (by simp) Ae Ae hcm hzm (by rw[midT_at htn hkF];simp;omega) (by decide) (λx hx=>by rw[List.mem_singleton.1 hx];exact hrr _ (List.getElem_mem hi)) htc3 3000 (by simp) (λn hn=>by simp only[upd];(repeat rw[if_neg (by omega)]);rfl) ?_;intro tabs2 S3 out2 e d4 touch4 hl2 htc4 hq2;obtain ⟨e1,hc4,dl2,rfl⟩:=feed_ok hq2 hto;rw[show ((k:Nat):Int).toNat=k from rfl,midT_set] at e1;subst e1;refine Ab ?_;refine VIF.f ?_;(simp -implicitDefEqProofs only[go_sem,iA,wd];repeat (refine GO ?_;simp -implicitDefEqProofs only[go_sem,iA,wd]));refine BACK.mk ⟨(i,S3,d4,touch4),by show i<=tabs[k].length;omega,hc4,htc4⟩ [(7,some 7),(1000,some 1000),(1001,some 1001),(1100,some 1100),(1101,some 3001)] rfl rfl (by show i<i+1;omega) ?_;(simp -implicitDefEqProofs only[go_sem,Ac.c,formsA,iA,rowsA,setA,setsA,wd];repeat (refine GO ?_;simp -implicitDefEqProofs only[go_sem,Ac.c,formsA,iA,rowsA,setA,setsA,wd]));exact ⟨id,box_es a,ci_es Ae (tch_leaf htc'),sets_eq rfl,⟨rfl,ci_es Ae (tch_leaf htc4)⟩,sets_eq rfl⟩
 have k1:k=F.length:=by simp at k1;omega
 subst k1;have uA:=upT_all htn;rw[uA] at hc;have hzt:=sz tabs (by omega) λz hz=>.inl hz;obtain ⟨kk,hkk,ek,ek0⟩:=mod_ok a.t hFp (by omega);have hkt:kk<tabs.length:=by omega
 have hat:setAt tabs (kk:Nat)=tabs[kk]:=setAt_eq (k:=((kk:Nat):Int)) (by simpa using hkt);have htr:=hc.tb.rows hF _ (List.getElem_mem hkt);have hts:=ht40 _ (List.getElem_mem hkt);(simp -implicitDefEqProofs only[go_sem,Ac.c,ek,iA,uA];repeat (refine GO ?_;simp -implicitDefEqProofs only[go_sem,Ac.c,ek,iA,uA]));refine ⟨ek0,EL.map hkt ?_⟩;(simp -implicitDefEqProofs only[go_sem,Ac.c,iA];repeat (refine GO ?_;simp -implicitDefEqProofs only[go_sem,Ac.c,iA]));refine .pure _ (show Spec0 Tryz.prog 58 [setA tabs[kk],.ag a.c] _ from f58 tabs[kk] a (by omega) (λt ht=>by have:=htr.2 t ht;omega) haz) rfl λq hq _=>?_;obtain ⟨dz,rfl,hd⟩:=hq;have hdl:dz.length<=40:=by have:=hd.len;have:max a.z.length a.rows.length<=40:=Nat.max_le.2 ⟨hv1,by omega⟩;omega
 have hdr:∀x∈dz,x.row.length<1073741824:=λx hx=>by have:=hd.rows x hx;omega
 refine Ab ?_;refine CALL.feed (ty:=(lastN F l).types) (K0:=40*40) 1000 1001 (by decide) (by simp) (by simp) Ae Ae hc hzt (by rw[hat];omega) (by decide) hdr htc 2000 (by simp) (λn hn=>by simp only[upd];(repeat rw[if_neg (by omega)]);rfl) ?_;intro tabs1 S1 o1 e1 d1 touch1 hl1 htc1 hq1;refine Ab ?_;refine CALL.feed (ty:=(lastN F l).types) (K0:=40*40) 1100 1101 (by decide) (by simp) (by simp) Ae Ae hc hzt (by rw[hat];omega) (by decide) hdr htc2 3000 (by simp) (λn hn=>by simp only[upd];(repeat rw[if_neg (by omega)]);rfl) ?_;intro tabs2 S2 o2 e2 d2 touch2 hl2 htc2 hq2;rcases hq1 with ⟨hno,rfl,rfl,rfl,rfl⟩|⟨next,hto,f1,hc1,dl1,rfl⟩
 ·obtain ⟨rfl,rfl,rfl,rfl⟩:=feed_no hq2 hno;have hol:=hc.len hzt;have hor:=hc.rows;refine Ab ?_;refine Ah ?_;refine .pure _ (show Spec0 Tryz.prog 30 [setA ([]),setA ([])] _ from s18 ([]) ([]) (by simp) (by simp) (by simp)) rfl λq hq _=>?_;obtain ⟨b,rfl,hb⟩:=hq;have hb:b=true:=hb.2 rfl;subst hb;refine Ad ?_;refine D3 ?_;refine CALL.out (ty:=(lastN F l).types) (K0:=40*40) 1000 2001 Ae Ae hc hzt htc1 5000 (by simp) (λn hn=>by simp only[upd];(repeat rw[if_neg (by omega)]);rfl) ?_;rw[show setAt S2 (l.length-1:Nat)=lst l S2 from rfl];refine Ab ?_;refine CALL.out (ty:=(lastN F l).types) (tabs:=tabs2) (S:=S2) (d:=d2) (touch:=touch2) (K0:=40*40) 1100 3001 Ae Ae hc hzt htc2 3000000000 (by
   intro n hn;rcases List.mem_append.1 hn with h|h
   ·have:=famU_mem.1 h;omega
   ·simp at h;omega) (λn hn=>by simp only[upd];(repeat rw[if_neg (by omega)]);rfl) ?_
  rw[show setAt S2 (l.length-1:Nat)=lst l S2 from rfl];refine Ab ?_;refine .pure _ (show Spec0 Tryz.prog 30 [setA (lst l S2),setA (lst l S2)] _ from s18 (lst l S2) (lst l S2) (by omega) (by omega) (λt ht=>by have:=hor t ht;omega)) rfl λq hq _=>?_;obtain ⟨b,rfl,hb⟩:=hq;have hb:b=true:=hb.2 rfl;subst hb;refine Ad ?_;refine D3 ?_;refine .pure _ (show Spec0 Tryz.prog 61 [] _ from r61) rfl λq hq _=>?_;subst hq;exact Ai
 obtain ⟨f2,hc2,dl2,rfl⟩:=feed_ok hq2 hto;have ft:tabs2=tabs1:=f2.trans f1.symm;subst ft;have eS:=hc2.same hc1;subst eS;have hlen:∀z∈tabs2,z.length<=40*40:=λz hz=>by
  rw[f1] at hz;rcases List.mem_or_eq_of_mem_set hz with h|rfl
  ·have:=ht40 z h;omega
  ·have:=(addR_rows hto.2.1).1;have:=setAt_le ht40 ((kk:Nat):Int);omega
 have hz1:=cir_sz hP.sz g4 (by decide) hc1 hlen;have hol:=hc1.len hz1;have hor:=hc1.rows;obtain ⟨q2,q3⟩:=dl1.len hc hc1 hzt hz1;obtain rfl:o1=o2:=good_eq dl1.good dl2.good λr=>by rw[dl1.tot,dl2.tot];rfl
 refine Ab ?_;refine Ah ?_;refine .pure _ (show Spec0 Tryz.prog 30 [setA (o1),setA (o1)] _ from s18 (o1) (o1) (by omega) (by omega) (λt ht=>by have:=q3 t ht;omega)) rfl λq hq _=>?_;obtain ⟨b,rfl,hb⟩:=hq;have hb:b=true:=hb.2 rfl;subst hb;refine Ad ?_;refine D3 ?_;refine CALL.out (ty:=(lastN F l).types) (K0:=40*40) 1000 2001 Ae Ae hc1 hz1 htc1 5000 (by simp) (λn hn=>by simp only[upd];(repeat rw[if_neg (by omega)]);rfl) ?_;rw[show setAt S2 (l.length-1:Nat)=lst l S2 from rfl];refine Ab ?_;refine CALL.out (ty:=(lastN F l).types) (tabs:=tabs2) (S:=S2) (d:=d2) (touch:=touch2) (K0:=40*40) 1100 3001 Ae Ae hc1 hz1 htc2 3000000000 (by
  intro n hn;rcases List.mem_append.1 hn with h|h
  ·have:=famU_mem.1 h;omega
  ·simp at h;omega) (λn hn=>by simp only[upd];(repeat rw[if_neg (by omega)]);rfl) ?_
 rw[show setAt S2 (l.length-1:Nat)=lst l S2 from rfl];refine Ab ?_;refine .pure _ (show Spec0 Tryz.prog 30 [setA (lst l S2),setA (lst l S2)] _ from s18 (lst l S2) (lst l S2) (by omega) (by omega) (λt ht=>by have:=hor t ht;omega)) rfl λq hq _=>?_;obtain ⟨b,rfl,hb⟩:=hq;have hb:b=true:=hb.2 rfl;subst hb;refine Ad ?_;refine D3 ?_;obtain ⟨hdg,hback⟩:=feedto_back hc.tb hto;rw[hat,Int.toNat_natCast] at hback;rw[Int.toNat_natCast] at f1;rw[<- f1] at hback;refine .pure _ (show Spec0 Tryz.prog 62 [setA dz] _ from Spec1.setE (s31 dz (by omega) hdr)) rfl λq hq _=>?_;obtain ⟨n,g,rfl,hq⟩:=hq;obtain ⟨_,rfl,rfl⟩:=hq.resolve_left (λh=>h.1 hdg);have hK3:(setAt tabs2 ((kk:Nat):Int)).length+(dz.map negI).length<=40*40:=by
  have:=setAt_le (n:=80) (tabs:=tabs2) (λz hz=>by
   rw[f1] at hz;rcases List.mem_or_eq_of_mem_set hz with h|rfl
   ·have:=ht40 z h;omega
   ·have:=(addR_rows hto.2.1).1;have:=setAt_le ht40 ((kk:Nat):Int);omega) ((kk:Nat):Int)
  rw[List.length_map];omega
 refine B8 ?_
 refine TO [(1000,some 1000),(1001,some 2001)] [(9,.pt 1000 0 0),(10,iA 0),(12,iA 0),(19,iA kk),(20,setA dz),(21,setA o1),(23,setA (dz.map negI)),(24,iA 0),(183,.pt 1000 0 0),(184,iA kk),(185,setA (dz.map negI))]
  [(1000,cO l F (lastN F l).types (.rf 1001 0 tabs2.length) S2 d1 0 touch1),(1001,doO tabs2)] [1000,1001] rfl ?_ ?_
 ·simp -implicitDefEqProofs only[go_sem,iA,wk_setA];exact ⟨by simp[famU_mem],⟨rfl,ci_es Ae (tch_leaf htc1)⟩,sets_eq rfl⟩
 refine B8 ?_;refine CALL.feed (ty:=(lastN F l).types) (K0:=40*40) (tabs:=tabs2) 1000 1001 (by decide) (by simp) (by simp) Ae Ae hc1 hz1 hK3 (by decide) (λx hx=>by
  obtain ⟨y,hy,rfl⟩:=List.mem_map.1 hx;exact hdr y hy) htc1 2000 (by simp) (λn hn=>by simp only[upd];(repeat rw[if_neg (by omega)]);rfl) ?_
 intro tabs3 S3 u e3 d3 touch3 hl3 htc3 hq3;obtain ⟨f3,hc3,dl3,rfl⟩:=feed_ok hq3 hback;have f4:tabs3=tabs:=by rw[f3,f1,Int.toNat_natCast,List.set_set,List.set_getElem_self]
 subst f4;have eS3:=hc3.same hc;subst eS3;have hv':Good (o1.map negI):=good_neg dl1.good;obtain rfl:u=o1.map negI:=good_eq dl3.good hv' λr=>by rw[dl3.tot,tot_neg,dl1.tot];show tot r (lst l S3)-tot r (lst l S2)=-(tot r (setAt S2 _)-tot r (setAt S3 _));simp only[lst];omega
 have q6:∀t∈o1.map negI,t.row.length<=12:=λt ht=>by obtain ⟨y,hy,rfl⟩:=List.mem_map.1 ht;exact q3 y hy
 refine Ab ?_;refine .pure _ (show Spec0 Tryz.prog 62 [setA o1] _ from Spec1.setE (s31 o1 (by omega) (λt ht=>by have:=q3 t ht;omega))) rfl λq hq _=>?_;obtain ⟨n,g,rfl,hq⟩:=hq;obtain ⟨_,rfl,rfl⟩:=hq.resolve_left (λh=>h.1 dl1.good);refine Ab ?_;refine Ah ?_;refine .pure _ (show Spec0 Tryz.prog 30 [setA (o1.map negI),setA (o1.map negI)] _ from s18 (o1.map negI) (o1.map negI) (by simp;omega) (by simp;omega) (λt ht=>by have:=q6 t ht;omega)) rfl λq hq _=>?_;obtain ⟨b,rfl,hb⟩:=hq;have hb:b=true:=hb.2 rfl;subst hb;refine Ad ?_;refine D3 ?_;refine .pure _ (show Spec0 Tryz.prog 61 [] _ from r61) rfl λq hq _=>?_;subst hq;exact Ai
end Yt
namespace Yt
open Go Go.Vc Go.Proofs Go.Proofs.YtogndnaffdkanaaGreat
mutual
theorem bulk_le {H:Type} {B:Nat}:∀d:DataW H,Rows.uptoBulk d<=B->bulkLe B d
 | .lit l,h=>by
   cases l with
   | string bs=>simp only[Rows.uptoBulk] at h;simp only[bulkLe];omega
   | _=>simp only[bulkLe]
 | .nil,_=>by simp only[bulkLe]
 | .ptr d,_=>by simp only[bulkLe]
 | .slice elems spare,h=>by
   simp only[Rows.uptoBulk] at h;have h2:=bulks_len elems;simp only[bulkLe];exact ⟨by omega,bulks_le elems (by omega)⟩
 | .agg ds,h=>by
   simp only[Rows.uptoBulk] at h;simp only[bulkLe];exact bulks_le ds (by omega)
 | .iface _ _,_=>by simp only[bulkLe]
 | .map _,_=>by simp only[bulkLe]
 | .held _,_=>by simp only[bulkLe]
theorem bulks_le {H:Type} {B:Nat}:∀ds:List (DataW H),Rows.uptoBulkAll ds<=B->bulkLe.bulkLes B ds
 | [],_=>trivial
 | d::r,h=>by
   simp only[Rows.uptoBulkAll] at h;exact ⟨bulk_le d (by omega),bulks_le r (by omega)⟩
theorem bulk_pos {H:Type}:∀d:DataW H,1<=Rows.uptoBulk d
 | .lit l=>by cases l<;>simp[Rows.uptoBulk]
 | .nil=>by simp[Rows.uptoBulk]
 | .ptr d=>by simp[Rows.uptoBulk]
 | .slice elems spare=>by simp[Rows.uptoBulk]
 | .agg ds=>by simp[Rows.uptoBulk]
 | .iface _ _=>by simp[Rows.uptoBulk]
 | .map _=>by simp[Rows.uptoBulk]
 | .held _=>by simp[Rows.uptoBulk]
theorem bulks_len {H:Type}:∀ds:List (DataW H),ds.length<=Rows.uptoBulkAll ds
 | []=>by simp
 | d::r=>by
   have:=bulk_pos d;have:=bulks_len r;simp only[Rows.uptoBulkAll,List.length_cons];omega
end
theorem bound {H:Type} {l:List (DataW H)} (hk:Rows.uptoSmall H l=true):bulkLe.bulkLes 1048576 l:=bulks_le l (of_decide_eq_true hk)
theorem kids:Kids Tryz.prog (·<Tryz.prog.types.size):=kids_rows (by kernel_rfl) (by kernel_rfl)
def szOk (P:Program):Bool:=(List.range P.types.size).all λt=>match P.underlying t with|some (.slice e)=>decide (0<P.cellsOf e)|_=>true
theorem szOk_to {P:Program} (h:szOk P=true) {t e:TypeId} (ht:t<P.types.size) (hu:P.underlying t=some (.slice e)):0<P.cellsOf e:=by have:=List.all_eq_true.1 h t (by simpa using ht);rw[hu] at this;simpa using this
theorem sizes {t e:TypeId} (ht:t<Tryz.prog.types.size) (hu:Tryz.prog.underlying t=some (.slice e)):0<Tryz.prog.cellsOf e:=szOk_to (by kernel_rfl) ht hu
def i64 (n:Int):Prop:=-9223372036854775808<=n/\n<=9223372036854775807
theorem i64_of {n:Int} (h:(Lit.int .i64 n).wf=true):i64 n:=by simp[Lit.wf,IntKind.min,IntKind.max,IntKind.signed,IntKind.bits] at h;exact h
def V.fit (v:V):Prop:=i64 v.k/\i64 v.i/\v.s.size<=1048576
def It.fit (t:It):Prop:=t.row.length<=1048576/\i64 t.w
theorem cellsV:Tryz.prog.cellsOf 47=3:=by kernel_rfl
theorem cellsI:Tryz.prog.cellsOf 59=2:=by kernel_rfl
theorem cells1:Tryz.prog.cellsOf 3=1:=by kernel_rfl
theorem cellsR:Tryz.prog.cellsOf 57=1:=by kernel_rfl
theorem cellsZ:Tryz.prog.cellsOf 32=1:=by kernel_rfl
theorem shVal {avs:List AV} (h:Sh Tryz.prog 1048576 47 avs):∃v:V,avs=v.c/\v.fit:=by
 obtain ⟨xs,rfl,hl,hf⟩:=sh_struct Tryz.underlying47 h
 match xs,hl with
 | [a,b,c],_=>
   obtain ⟨k,rfl,hk⟩:=sh_int Tryz.underlying3 (hf 0 _ a rfl rfl);obtain ⟨i,rfl,hi⟩:=sh_int Tryz.underlying3 (hf 1 _ b rfl rfl);obtain ⟨s,rfl,hs⟩:=sh_str Tryz.underlying9 (hf 2 _ c rfl rfl);exact ⟨⟨k,i,s⟩,rfl,i64_of hk,i64_of hi,hs⟩
theorem shRow {avs:List AV} (h:Sh Tryz.prog 1048576 57 avs):∃r:List V,avs=[rowA r]/\r.length<=1048576:=by obtain ⟨es,rfl,hl,he⟩:=sh_slice Tryz.underlying57 h;obtain ⟨l,rfl,_⟩:=map_choose λx hx=>shVal (he x hx);rw[cellsV];exact ⟨l,rfl,by simpa using hl⟩
theorem shItem {avs:List AV} (h:Sh Tryz.prog 1048576 59 avs):∃t:It,avs=t.c/\t.fit:=by
 obtain ⟨xs,rfl,hl,hf⟩:=sh_struct Tryz.underlying59 h
 match xs,hl with
 | [a,b],_=>
   obtain ⟨r,rfl,hr⟩:=shRow (hf 0 _ a rfl rfl);obtain ⟨w,rfl,hw⟩:=sh_int Tryz.underlying3 (hf 1 _ b rfl rfl);exact ⟨⟨r,w⟩,rfl,hr,i64_of hw⟩
theorem shSet {avs:List AV} (h:Sh Tryz.prog 1048576 32 avs):∃l:List It,avs=[setA l]/\l.length<=1048576/\∀t∈l,t.fit:=by obtain ⟨es,rfl,hl,he⟩:=sh_slice Tryz.underlying32 h;obtain ⟨l,rfl,h2⟩:=map_choose λx hx=>shItem (he x hx);rw[cellsI];exact ⟨l,rfl,by simpa using hl,h2⟩
theorem shSets {avs:List AV} (h:Sh Tryz.prog 1048576 24 avs):∃l:List (List It),avs=[setsA l]/\l.length<=1048576/\∀z∈l,z.length<=1048576/\∀t∈z,t.fit:=by obtain ⟨es,rfl,hl,he⟩:=sh_slice Tryz.underlying24 h;obtain ⟨l,rfl,h2⟩:=map_choose (f:=λr=>[setA r]) λx hx=>shSet (he x hx);rw[cellsZ];exact ⟨l,rfl,by simpa using hl,h2⟩
theorem shInts {avs:List AV} (h:Sh Tryz.prog 1048576 37 avs):∃l:List Int,avs=[intsL l]/\l.length<=1048576/\∀x∈l,i64 x:=by
 obtain ⟨es,rfl,hl,he⟩:=sh_slice Tryz.underlying37 h;obtain ⟨l,rfl,h2⟩:=map_choose (f:=λn=>[iA n]) (p:=i64) λx hx=>by obtain ⟨n,rfl,hn⟩:=sh_int Tryz.underlying3 (he x hx);exact ⟨n,rfl,i64_of hn⟩
 rw[cells1];exact ⟨l,rfl,by simpa using hl,h2⟩
theorem shPred {avs:List AV} (h:Sh Tryz.prog 1048576 49 avs):∃p:Pr,avs=p.c/\p.val.fit/\i64 p.kind/\i64 p.col/\i64 p.other:=by
 obtain ⟨xs,rfl,hl,hf⟩:=sh_struct Tryz.underlying49 h
 match xs,hl with
 | [a,b,c,d],_=>
   obtain ⟨k,rfl,hk⟩:=sh_int Tryz.underlying3 (hf 0 _ a rfl rfl);obtain ⟨i,rfl,hi⟩:=sh_int Tryz.underlying3 (hf 1 _ b rfl rfl);obtain ⟨o,rfl,ho⟩:=sh_int Tryz.underlying3 (hf 2 _ c rfl rfl);obtain ⟨v,rfl,hv⟩:=shVal (hf 3 _ d rfl rfl);exact ⟨⟨k,i,o,v⟩,rfl,hv,i64_of hk,i64_of hi,i64_of ho⟩
theorem cellsNd:Tryz.prog.cellsOf 51=14:=by kernel_rfl
theorem cellsTb:Tryz.prog.cellsOf 39=1:=by kernel_rfl
def PN.fit (x:PN):Prop:=x.cols.length<=1048576/\x.others.length<=1048576
theorem shNode {avs:List AV} (h:Sh Tryz.prog 1048576 51 avs):∃x:PN,avs=x.c/\x.fit:=by
 obtain ⟨xs,rfl,hl,hf⟩:=sh_struct Tryz.underlying51 h
 match xs,hl with
 | [a,b,c,d,e,f,g,i,j],_=>
   obtain ⟨n0,rfl,_⟩:=sh_int Tryz.underlying3 (hf 0 _ a rfl rfl);obtain ⟨n1,rfl,_⟩:=sh_int Tryz.underlying3 (hf 1 _ b rfl rfl);obtain ⟨n2,rfl,_⟩:=sh_int Tryz.underlying3 (hf 2 _ c rfl rfl);obtain ⟨n3,rfl,_⟩:=sh_int Tryz.underlying3 (hf 3 _ d rfl rfl);obtain ⟨p,rfl,_⟩:=shPred (hf 4 _ e rfl rfl);obtain ⟨l1,rfl,k1,_⟩:=shInts (hf 5 _ f rfl rfl);obtain ⟨l2,rfl,k2,_⟩:=shInts (hf 6 _ g rfl rfl);obtain ⟨n7,rfl,_⟩:=sh_int Tryz.underlying3 (hf 7 _ i rfl rfl);obtain ⟨n8,rfl,_⟩:=sh_int Tryz.underlying3 (hf 8 _ j rfl rfl);exact ⟨⟨n0,n1,n2,n3,p,l1,l2,n7,n8⟩,rfl,k1,k2⟩
theorem shNodes {avs:List AV} (h:Sh Tryz.prog 1048576 22 avs):∃l:List PN,avs=[plA l]/\l.length<=1048576/\∀x∈l,x.fit:=by obtain ⟨es,rfl,hl,he⟩:=sh_slice Tryz.underlying22 h;obtain ⟨l,rfl,h2⟩:=map_choose λx hx=>shNode (he x hx);rw[cellsNd];exact ⟨l,rfl,by simpa using hl,h2⟩
theorem shTable {avs:List AV} (h:Sh Tryz.prog 1048576 39 avs):∃l:List Int,avs=[intsL l]/\l.length<=1048576:=by
 obtain ⟨xs,rfl,hl,hf⟩:=sh_struct Tryz.underlying39 h
 match xs,hl with
 | [a],_=>
   obtain ⟨l1,rfl,k1,_⟩:=shInts (hf 0 _ a rfl rfl);exact ⟨l1,rfl,k1⟩
theorem shForms {avs:List AV} (h:Sh Tryz.prog 1048576 23 avs):∃l:List (List Int),avs=[formsA l]/\l.length<=1048576/\∀x∈l,x.length<=1048576:=by obtain ⟨es,rfl,hl,he⟩:=sh_slice Tryz.underlying23 h;obtain ⟨l,rfl,h2⟩:=map_choose (f:=λl=>[intsL l]) λx hx=>shTable (he x hx);rw[cellsTb];exact ⟨l,rfl,by simpa using hl,h2⟩
theorem lawP {l:List PN} {F:List (List Int)} (l0:l.length<=1048576) (t0:∀x∈l,x.fit) (l1:F.length<=1048576) (t1:∀f∈F,f.length<=1048576):LawP l F:=⟨l0,t0,l1,t1⟩
theorem lawT {l:List (List It)} (l0:l.length<=1048576) (t0:∀z∈l,z.length<=1048576/\∀t∈z,t.fit):LawT l:=⟨l0,λz hz=>(t0 z hz).1,λz hz t ht=>((t0 z hz).2 t ht).1⟩
theorem own:ownKnob Tryz.prog.godebug=none:=by kernel_rfl
def signs:List Char:=[Char.ofNat 104,Char.ofNat 97,Char.ofNat 114,Char.ofNat 110,Char.ofNat 101,Char.ofNat 115,Char.ofNat 115,Char.ofNat 32,Char.ofNat 52,Char.ofNat 98,Char.ofNat 50,Char.ofNat 98,Char.ofNat 54,Char.ofNat 101,Char.ofNat 98,Char.ofNat 98,Char.ofNat 102,Char.ofNat 97,Char.ofNat 55,Char.ofNat 54,Char.ofNat 97,Char.ofNat 102,Char.ofNat 55,Char.ofNat 98,Char.ofNat 50,Char.ofNat 57,Char.ofNat 98,Char.ofNat 54,Char.ofNat 99,Char.ofNat 56,Char.ofNat 102,Char.ofNat 48,Char.ofNat 57,Char.ofNat 99,Char.ofNat 53,Char.ofNat 53,Char.ofNat 49,Char.ofNat 98,Char.ofNat 98,Char.ofNat 54,Char.ofNat 57,Char.ofNat 53,Char.ofNat 54,Char.ofNat 49,Char.ofNat 100,Char.ofNat 99,Char.ofNat 56,Char.ofNat 49,Char.ofNat 100,Char.ofNat 99,Char.ofNat 97,Char.ofNat 98,Char.ofNat 49,Char.ofNat 48,Char.ofNat 55,Char.ofNat 50,Char.ofNat 100,Char.ofNat 102,Char.ofNat 57,Char.ofNat 52,Char.ofNat 102,Char.ofNat 53,Char.ofNat 54,Char.ofNat 101,Char.ofNat 51,Char.ofNat 99,Char.ofNat 101,Char.ofNat 98,Char.ofNat 49,Char.ofNat 102,Char.ofNat 49,Char.ofNat 56,Char.ofNat 32,Char.ofNat 99,Char.ofNat 117,Char.ofNat 116,Char.ofNat 32,Char.ofNat 97,Char.ofNat 116,Char.ofNat 32,Char.ofNat 114,Char.ofNat 97,Char.ofNat 100,Char.ofNat 100,Char.ofNat 108,Char.ofNat 101,Char.ofNat 47,Char.ofNat 114,Char.ofNat 97,Char.ofNat 100,Char.ofNat 100,Char.ofNat 108,Char.ofNat 101,Char.ofNat 108,Char.ofNat 97,Char.ofNat 119,Char.ofNat 50,Char.ofNat 49,Char.ofNat 46,Char.ofNat 69,Char.ofNat 118,Char.ofNat 97,Char.ofNat 108,Char.ofNat 69,Char.ofNat 120,Char.ofNat 97,Char.ofNat 99,Char.ofNat 116,Char.ofNat 32,Char.ofNat 114,Char.ofNat 97,Char.ofNat 100,Char.ofNat 100,Char.ofNat 108,Char.ofNat 101,Char.ofNat 47,Char.ofNat 114,Char.ofNat 97,Char.ofNat 100,Char.ofNat 100,Char.ofNat 108,Char.ofNat 101,Char.ofNat 108,Char.ofNat 97,Char.ofNat 119,Char.ofNat 50,Char.ofNat 49,Char.ofNat 46,Char.ofNat 69,Char.ofNat 118,Char.ofNat 97,Char.ofNat 108,Char.ofNat 76,Char.ofNat 105,Char.ofNat 110,Char.ofNat 101,Char.ofNat 97,Char.ofNat 114,Char.ofNat 32,Char.ofNat 114,Char.ofNat 97,Char.ofNat 100,Char.ofNat 100,Char.ofNat 108,Char.ofNat 101,Char.ofNat 47,Char.ofNat 114,Char.ofNat 97,Char.ofNat 100,Char.ofNat 100,Char.ofNat 108,Char.ofNat 101,Char.ofNat 108,Char.ofNat 97,Char.ofNat 119,Char.ofNat 50,Char.ofNat 49,Char.ofNat 46,Char.ofNat 69,Char.ofNat 118,Char.ofNat 97,Char.ofNat 108,Char.ofNat 84,Char.ofNat 97,Char.ofNat 98,Char.ofNat 108,Char.ofNat 101,Char.ofNat 32,Char.ofNat 114,Char.ofNat 97,Char.ofNat 100,Char.ofNat 100,Char.ofNat 108,Char.ofNat 101,Char.ofNat 47,Char.ofNat 114,Char.ofNat 97,Char.ofNat 100,Char.ofNat 100,Char.ofNat 108,Char.ofNat 101,Char.ofNat 108,Char.ofNat 97,Char.ofNat 119,Char.ofNat 50,Char.ofNat 49,Char.ofNat 46,Char.ofNat 69,Char.ofNat 118,Char.ofNat 97,Char.ofNat 108,Char.ofNat 78,Char.ofNat 111,Char.ofNat 100,Char.ofNat 101,Char.ofNat 115,Char.ofNat 32,Char.ofNat 114,Char.ofNat 97,Char.ofNat 100,Char.ofNat 100,Char.ofNat 108,Char.ofNat 101,Char.ofNat 47,Char.ofNat 114,Char.ofNat 97,Char.ofNat 100,Char.ofNat 100,Char.ofNat 108,Char.ofNat 101,Char.ofNat 108,Char.ofNat 97,Char.ofNat 119,Char.ofNat 50,Char.ofNat 49,Char.ofNat 46,Char.ofNat 69,Char.ofNat 118,Char.ofNat 97,Char.ofNat 108,Char.ofNat 69,Char.ofNat 109,Char.ofNat 112,Char.ofNat 116,Char.ofNat 121,Char.ofNat 32,Char.ofNat 114,Char.ofNat 97,Char.ofNat 100,Char.ofNat 100,Char.ofNat 108,Char.ofNat 101,Char.ofNat 47,Char.ofNat 114,Char.ofNat 97,Char.ofNat 100,Char.ofNat 100,Char.ofNat 108,Char.ofNat 101,Char.ofNat 108,Char.ofNat 97,Char.ofNat 119,Char.ofNat 50,Char.ofNat 49,Char.ofNat 46,Char.ofNat 69,Char.ofNat 118,Char.ofNat 97,Char.ofNat 108,Char.ofNat 85,Char.ofNat 110,Char.ofNat 117,Char.ofNat 115,Char.ofNat 101,Char.ofNat 100,Char.ofNat 32,Char.ofNat 114,Char.ofNat 97,Char.ofNat 100,Char.ofNat 100,Char.ofNat 108,Char.ofNat 101,Char.ofNat 47,Char.ofNat 114,Char.ofNat 97,Char.ofNat 100,Char.ofNat 100,Char.ofNat 108,Char.ofNat 101,Char.ofNat 108,Char.ofNat 97,Char.ofNat 119,Char.ofNat 50,Char.ofNat 49,Char.ofNat 46,Char.ofNat 69,Char.ofNat 118,Char.ofNat 97,Char.ofNat 108,Char.ofNat 76,Char.ofNat 97,Char.ofNat 115,Char.ofNat 116,Char.ofNat 32,Char.ofNat 114,Char.ofNat 97,Char.ofNat 100,Char.ofNat 100,Char.ofNat 108,Char.ofNat 101,Char.ofNat 47,Char.ofNat 114,Char.ofNat 97,Char.ofNat 100,Char.ofNat 100,Char.ofNat 108,Char.ofNat 101,Char.ofNat 108,Char.ofNat 97,Char.ofNat 119,Char.ofNat 50,Char.ofNat 49,Char.ofNat 46,Char.ofNat 69,Char.ofNat 118,Char.ofNat 97,Char.ofNat 108,Char.ofNat 67,Char.ofNat 111,Char.ofNat 117,Char.ofNat 110,Char.ofNat 116,Char.ofNat 115,Char.ofNat 32,Char.ofNat 114,Char.ofNat 97,Char.ofNat 100,Char.ofNat 100,Char.ofNat 108,Char.ofNat 101,Char.ofNat 47,Char.ofNat 114,Char.ofNat 97,Char.ofNat 100,Char.ofNat 100,Char.ofNat 108,Char.ofNat 101,Char.ofNat 108,Char.ofNat 97,Char.ofNat 119,Char.ofNat 50,Char.ofNat 49,Char.ofNat 46,Char.ofNat 69,Char.ofNat 118,Char.ofNat 97,Char.ofNat 108,Char.ofNat 70,Char.ofNat 105,Char.ofNat 116,Char.ofNat 115,Char.ofNat 32,Char.ofNat 114,Char.ofNat 97,Char.ofNat 100,Char.ofNat 100,Char.ofNat 108,Char.ofNat 101,Char.ofNat 47,Char.ofNat 114,Char.ofNat 97,Char.ofNat 100,Char.ofNat 100,Char.ofNat 108,Char.ofNat 101,Char.ofNat 108,Char.ofNat 97,Char.ofNat 119,Char.ofNat 50,Char.ofNat 50,Char.ofNat 46,Char.ofNat 67,Char.ofNat 105,Char.ofNat 114,Char.ofNat 99,Char.ofNat 83,Char.ofNat 117,Char.ofNat 109,Char.ofNat 115,Char.ofNat 32,Char.ofNat 114,Char.ofNat 97,Char.ofNat 100,Char.ofNat 100,Char.ofNat 108,Char.ofNat 101,Char.ofNat 47,Char.ofNat 114,Char.ofNat 97,Char.ofNat 100,Char.ofNat 100,Char.ofNat 108,Char.ofNat 101,Char.ofNat 108,Char.ofNat 97,Char.ofNat 119,Char.ofNat 50,Char.ofNat 50,Char.ofNat 46,Char.ofNat 67,Char.ofNat 105,Char.ofNat 114,Char.ofNat 99,Char.ofNat 76,Char.ofNat 97,Char.ofNat 116,Char.ofNat 101,Char.ofNat 114,Char.ofNat 32,Char.ofNat 114,Char.ofNat 97,Char.ofNat 100,Char.ofNat 100,Char.ofNat 108,Char.ofNat 101,Char.ofNat 47,Char.ofNat 114,Char.ofNat 97,Char.ofNat 100,Char.ofNat 100,Char.ofNat 108,Char.ofNat 101,Char.ofNat 108,Char.ofNat 97,Char.ofNat 119,Char.ofNat 50,Char.ofNat 50,Char.ofNat 46,Char.ofNat 67,Char.ofNat 105,Char.ofNat 114,Char.ofNat 99,Char.ofNat 66,Char.ofNat 97,Char.ofNat 99,Char.ofNat 107,Char.ofNat 32,Char.ofNat 114,Char.ofNat 97,Char.ofNat 100,Char.ofNat 100,Char.ofNat 108,Char.ofNat 101,Char.ofNat 47,Char.ofNat 114,Char.ofNat 97,Char.ofNat 100,Char.ofNat 100,Char.ofNat 108,Char.ofNat 101,Char.ofNat 108,Char.ofNat 97,Char.ofNat 119,Char.ofNat 50,Char.ofNat 50,Char.ofNat 46,Char.ofNat 67,Char.ofNat 105,Char.ofNat 114,Char.ofNat 99,Char.ofNat 69,Char.ofNat 120,Char.ofNat 97,Char.ofNat 99,Char.ofNat 116,Char.ofNat 32,Char.ofNat 114,Char.ofNat 97,Char.ofNat 100,Char.ofNat 100,Char.ofNat 108,Char.ofNat 101,Char.ofNat 47,Char.ofNat 114,Char.ofNat 97,Char.ofNat 100,Char.ofNat 100,Char.ofNat 108,Char.ofNat 101,Char.ofNat 108,Char.ofNat 97,Char.ofNat 119,Char.ofNat 50,Char.ofNat 50,Char.ofNat 46,Char.ofNat 67,Char.ofNat 105,Char.ofNat 114,Char.ofNat 99,Char.ofNat 84,Char.ofNat 119,Char.ofNat 111,Char.ofNat 32,Char.ofNat 114,Char.ofNat 97,Char.ofNat 100,Char.ofNat 100,Char.ofNat 108,Char.ofNat 101,Char.ofNat 47,Char.ofNat 114,Char.ofNat 97,Char.ofNat 100,Char.ofNat 100,Char.ofNat 108,Char.ofNat 101,Char.ofNat 108,Char.ofNat 97,Char.ofNat 119,Char.ofNat 50,Char.ofNat 50,Char.ofNat 46,Char.ofNat 67,Char.ofNat 105,Char.ofNat 114,Char.ofNat 99,Char.ofNat 79,Char.ofNat 114,Char.ofNat 100,Char.ofNat 101,Char.ofNat 114,Char.ofNat 32,Char.ofNat 114,Char.ofNat 97,Char.ofNat 100,Char.ofNat 100,Char.ofNat 108,Char.ofNat 101,Char.ofNat 47,Char.ofNat 114,Char.ofNat 97,Char.ofNat 100,Char.ofNat 100,Char.ofNat 108,Char.ofNat 101,Char.ofNat 108,Char.ofNat 97,Char.ofNat 119,Char.ofNat 50,Char.ofNat 50,Char.ofNat 46,Char.ofNat 67,Char.ofNat 105,Char.ofNat 114,Char.ofNat 99,Char.ofNat 82,Char.ofNat 101,Char.ofNat 102,Char.ofNat 117,Char.ofNat 115,Char.ofNat 101,Char.ofNat 115]
theorem words_eq:headIs Tryz.prog ([Char.ofNat 99,Char.ofNat 117,Char.ofNat 116]::[[Char.ofNat 97,Char.ofNat 116],[Char.ofNat 114,Char.ofNat 97,Char.ofNat 100,Char.ofNat 100,Char.ofNat 108,Char.ofNat 101,Char.ofNat 47,Char.ofNat 114,Char.ofNat 97,Char.ofNat 100,Char.ofNat 100,Char.ofNat 108,Char.ofNat 101,Char.ofNat 108,Char.ofNat 97,Char.ofNat 119,Char.ofNat 50,Char.ofNat 49,Char.ofNat 46,Char.ofNat 69,Char.ofNat 118,Char.ofNat 97,Char.ofNat 108,Char.ofNat 69,Char.ofNat 120,Char.ofNat 97,Char.ofNat 99,Char.ofNat 116],[Char.ofNat 114,Char.ofNat 97,Char.ofNat 100,Char.ofNat 100,Char.ofNat 108,Char.ofNat 101,Char.ofNat 47,Char.ofNat 114,Char.ofNat 97,Char.ofNat 100,Char.ofNat 100,Char.ofNat 108,Char.ofNat 101,Char.ofNat 108,Char.ofNat 97,Char.ofNat 119,Char.ofNat 50,Char.ofNat 49,Char.ofNat 46,Char.ofNat 69,Char.ofNat 118,Char.ofNat 97,Char.ofNat 108,Char.ofNat 76,Char.ofNat 105,Char.ofNat 110,Char.ofNat 101,Char.ofNat 97,Char.ofNat 114],[Char.ofNat 114,Char.ofNat 97,Char.ofNat 100,Char.ofNat 100,Char.ofNat 108,Char.ofNat 101,Char.ofNat 47,Char.ofNat 114,Char.ofNat 97,Char.ofNat 100,Char.ofNat 100,Char.ofNat 108,Char.ofNat 101,Char.ofNat 108,Char.ofNat 97,Char.ofNat 119,Char.ofNat 50,Char.ofNat 49,Char.ofNat 46,Char.ofNat 69,Char.ofNat 118,Char.ofNat 97,Char.ofNat 108,Char.ofNat 84,Char.ofNat 97,Char.ofNat 98,Char.ofNat 108,Char.ofNat 101],[Char.ofNat 114,Char.ofNat 97,Char.ofNat 100,Char.ofNat 100,Char.ofNat 108,Char.ofNat 101,Char.ofNat 47,Char.ofNat 114,Char.ofNat 97,Char.ofNat 100,Char.ofNat 100,Char.ofNat 108,Char.ofNat 101,Char.ofNat 108,Char.ofNat 97,Char.ofNat 119,Char.ofNat 50,Char.ofNat 49,Char.ofNat 46,Char.ofNat 69,Char.ofNat 118,Char.ofNat 97,Char.ofNat 108,Char.ofNat 78,Char.ofNat 111,Char.ofNat 100,Char.ofNat 101,Char.ofNat 115],[Char.ofNat 114,Char.ofNat 97,Char.ofNat 100,Char.ofNat 100,Char.ofNat 108,Char.ofNat 101,Char.ofNat 47,Char.ofNat 114,Char.ofNat 97,Char.ofNat 100,Char.ofNat 100,Char.ofNat 108,Char.ofNat 101,Char.ofNat 108,Char.ofNat 97,Char.ofNat 119,Char.ofNat 50,Char.ofNat 49,Char.ofNat 46,Char.ofNat 69,Char.ofNat 118,Char.ofNat 97,Char.ofNat 108,Char.ofNat 69,Char.ofNat 109,Char.ofNat 112,Char.ofNat 116,Char.ofNat 121],[Char.ofNat 114,Char.ofNat 97,Char.ofNat 100,Char.ofNat 100,Char.ofNat 108,Char.ofNat 101,Char.ofNat 47,Char.ofNat 114,Char.ofNat 97,Char.ofNat 100,Char.ofNat 100,Char.ofNat 108,Char.ofNat 101,Char.ofNat 108,Char.ofNat 97,Char.ofNat 119,Char.ofNat 50,Char.ofNat 49,Char.ofNat 46,Char.ofNat 69,Char.ofNat 118,Char.ofNat 97,Char.ofNat 108,Char.ofNat 85,Char.ofNat 110,Char.ofNat 117,Char.ofNat 115,Char.ofNat 101,Char.ofNat 100],[Char.ofNat 114,Char.ofNat 97,Char.ofNat 100,Char.ofNat 100,Char.ofNat 108,Char.ofNat 101,Char.ofNat 47,Char.ofNat 114,Char.ofNat 97,Char.ofNat 100,Char.ofNat 100,Char.ofNat 108,Char.ofNat 101,Char.ofNat 108,Char.ofNat 97,Char.ofNat 119,Char.ofNat 50,Char.ofNat 49,Char.ofNat 46,Char.ofNat 69,Char.ofNat 118,Char.ofNat 97,Char.ofNat 108,Char.ofNat 76,Char.ofNat 97,Char.ofNat 115,Char.ofNat 116],[Char.ofNat 114,Char.ofNat 97,Char.ofNat 100,Char.ofNat 100,Char.ofNat 108,Char.ofNat 101,Char.ofNat 47,Char.ofNat 114,Char.ofNat 97,Char.ofNat 100,Char.ofNat 100,Char.ofNat 108,Char.ofNat 101,Char.ofNat 108,Char.ofNat 97,Char.ofNat 119,Char.ofNat 50,Char.ofNat 49,Char.ofNat 46,Char.ofNat 69,Char.ofNat 118,Char.ofNat 97,Char.ofNat 108,Char.ofNat 67,Char.ofNat 111,Char.ofNat 117,Char.ofNat 110,Char.ofNat 116,Char.ofNat 115],[Char.ofNat 114,Char.ofNat 97,Char.ofNat 100,Char.ofNat 100,Char.ofNat 108,Char.ofNat 101,Char.ofNat 47,Char.ofNat 114,Char.ofNat 97,Char.ofNat 100,Char.ofNat 100,Char.ofNat 108,Char.ofNat 101,Char.ofNat 108,Char.ofNat 97,Char.ofNat 119,Char.ofNat 50,Char.ofNat 49,Char.ofNat 46,Char.ofNat 69,Char.ofNat 118,Char.ofNat 97,Char.ofNat 108,Char.ofNat 70,Char.ofNat 105,Char.ofNat 116,Char.ofNat 115],[Char.ofNat 114,Char.ofNat 97,Char.ofNat 100,Char.ofNat 100,Char.ofNat 108,Char.ofNat 101,Char.ofNat 47,Char.ofNat 114,Char.ofNat 97,Char.ofNat 100,Char.ofNat 100,Char.ofNat 108,Char.ofNat 101,Char.ofNat 108,Char.ofNat 97,Char.ofNat 119,Char.ofNat 50,Char.ofNat 50,Char.ofNat 46,Char.ofNat 67,Char.ofNat 105,Char.ofNat 114,Char.ofNat 99,Char.ofNat 83,Char.ofNat 117,Char.ofNat 109,Char.ofNat 115],[Char.ofNat 114,Char.ofNat 97,Char.ofNat 100,Char.ofNat 100,Char.ofNat 108,Char.ofNat 101,Char.ofNat 47,Char.ofNat 114,Char.ofNat 97,Char.ofNat 100,Char.ofNat 100,Char.ofNat 108,Char.ofNat 101,Char.ofNat 108,Char.ofNat 97,Char.ofNat 119,Char.ofNat 50,Char.ofNat 50,Char.ofNat 46,Char.ofNat 67,Char.ofNat 105,Char.ofNat 114,Char.ofNat 99,Char.ofNat 76,Char.ofNat 97,Char.ofNat 116,Char.ofNat 101,Char.ofNat 114],[Char.ofNat 114,Char.ofNat 97,Char.ofNat 100,Char.ofNat 100,Char.ofNat 108,Char.ofNat 101,Char.ofNat 47,Char.ofNat 114,Char.ofNat 97,Char.ofNat 100,Char.ofNat 100,Char.ofNat 108,Char.ofNat 101,Char.ofNat 108,Char.ofNat 97,Char.ofNat 119,Char.ofNat 50,Char.ofNat 50,Char.ofNat 46,Char.ofNat 67,Char.ofNat 105,Char.ofNat 114,Char.ofNat 99,Char.ofNat 66,Char.ofNat 97,Char.ofNat 99,Char.ofNat 107],[Char.ofNat 114,Char.ofNat 97,Char.ofNat 100,Char.ofNat 100,Char.ofNat 108,Char.ofNat 101,Char.ofNat 47,Char.ofNat 114,Char.ofNat 97,Char.ofNat 100,Char.ofNat 100,Char.ofNat 108,Char.ofNat 101,Char.ofNat 108,Char.ofNat 97,Char.ofNat 119,Char.ofNat 50,Char.ofNat 50,Char.ofNat 46,Char.ofNat 67,Char.ofNat 105,Char.ofNat 114,Char.ofNat 99,Char.ofNat 69,Char.ofNat 120,Char.ofNat 97,Char.ofNat 99,Char.ofNat 116],[Char.ofNat 114,Char.ofNat 97,Char.ofNat 100,Char.ofNat 100,Char.ofNat 108,Char.ofNat 101,Char.ofNat 47,Char.ofNat 114,Char.ofNat 97,Char.ofNat 100,Char.ofNat 100,Char.ofNat 108,Char.ofNat 101,Char.ofNat 108,Char.ofNat 97,Char.ofNat 119,Char.ofNat 50,Char.ofNat 50,Char.ofNat 46,Char.ofNat 67,Char.ofNat 105,Char.ofNat 114,Char.ofNat 99,Char.ofNat 84,Char.ofNat 119,Char.ofNat 111],[Char.ofNat 114,Char.ofNat 97,Char.ofNat 100,Char.ofNat 100,Char.ofNat 108,Char.ofNat 101,Char.ofNat 47,Char.ofNat 114,Char.ofNat 97,Char.ofNat 100,Char.ofNat 100,Char.ofNat 108,Char.ofNat 101,Char.ofNat 108,Char.ofNat 97,Char.ofNat 119,Char.ofNat 50,Char.ofNat 50,Char.ofNat 46,Char.ofNat 67,Char.ofNat 105,Char.ofNat 114,Char.ofNat 99,Char.ofNat 79,Char.ofNat 114,Char.ofNat 100,Char.ofNat 101,Char.ofNat 114],[Char.ofNat 114,Char.ofNat 97,Char.ofNat 100,Char.ofNat 100,Char.ofNat 108,Char.ofNat 101,Char.ofNat 47,Char.ofNat 114,Char.ofNat 97,Char.ofNat 100,Char.ofNat 100,Char.ofNat 108,Char.ofNat 101,Char.ofNat 108,Char.ofNat 97,Char.ofNat 119,Char.ofNat 50,Char.ofNat 50,Char.ofNat 46,Char.ofNat 67,Char.ofNat 105,Char.ofNat 114,Char.ofNat 99,Char.ofNat 82,Char.ofNat 101,Char.ofNat 102,Char.ofNat 117,Char.ofNat 115,Char.ofNat 101,Char.ofNat 115]]):=head_of (l:=signs) (by kernel_rfl) (by kernel_rfl)
theorem laid:laidOutB Tryz.prog=true:=by kernel_rfl
theorem rowed:mapsRowed Tryz.prog=true:=by kernel_rfl
theorem heard:Tryz.prog.stopsHeard=true:=by kernel_rfl
theorem plain:Tryz.prog.plainKeys=true:=by kernel_rfl
theorem doorRows:Tryz.prog.doorRows=[]:=by kernel_rfl
theorem laysLater:Tryz.prog.laysLater=false:=by kernel_rfl
theorem bearsReflect:Tryz.prog.bearsReflect=false:=by kernel_rfl
theorem cutMade:Tryz.prog.make=some .cut:=make_of words_eq (by kernel_rfl) (by kernel_rfl)
theorem cutLifts:Tryz.prog.liftsFinal=false:=lifts_of words_eq (by kernel_rfl) (by kernel_rfl) (by kernel_rfl)
theorem cutEnter:Tryz.prog.mayEnter=true:=enter_of words_eq (by kernel_rfl) (by kernel_rfl) (by kernel_rfl) (by kernel_rfl) doorRows laysLater bearsReflect
theorem cellsAc:Tryz.prog.cellsOf 93=3:=by kernel_rfl
theorem shRows2 {avs:List AV} (h:Sh Tryz.prog 1048576 91 avs):∃l:List (List V),avs=[rowsA l]/\l.length<=1048576/\∀r∈l,r.length<=1048576:=by obtain ⟨es,rfl,hl,he⟩:=sh_slice Tryz.underlying91 h;obtain ⟨l,rfl,h2⟩:=map_choose (f:=λr=>[rowA r]) λx hx=>shRow (he x hx);rw[cellsR];exact ⟨l,rfl,by simpa using hl,h2⟩
theorem shAct {avs:List AV} (h:Sh Tryz.prog 1048576 93 avs):∃a:Ac,avs=a.c/\AcSz a:=by
 obtain ⟨xs,rfl,hl,hf⟩:=sh_struct Tryz.underlying93 h
 match xs,hl with
 | [a,b,c],_=>
   obtain ⟨n,rfl,_⟩:=sh_int Tryz.underlying3 (hf 0 _ a rfl rfl);obtain ⟨zz,rfl,k1,k2⟩:=shSet (hf 1 _ b rfl rfl);obtain ⟨r,rfl,k3,k4⟩:=shRows2 (hf 2 _ c rfl rfl);exact ⟨⟨n,zz,r⟩,rfl,⟨k1,λt ht=>(k2 t ht).1⟩,k3,k4⟩
theorem shActs {avs:List AV} (h:Sh Tryz.prog 1048576 86 avs):∃l:List Ac,avs=[actsA l]/\l.length<=1048576/\∀a∈l,AcSz a:=by obtain ⟨es,rfl,hl,he⟩:=sh_slice Tryz.underlying86 h;obtain ⟨l,rfl,h2⟩:=map_choose λx hx=>shAct (he x hx);rw[cellsAc];exact ⟨l,rfl,by simpa using hl,h2⟩
end Yt
