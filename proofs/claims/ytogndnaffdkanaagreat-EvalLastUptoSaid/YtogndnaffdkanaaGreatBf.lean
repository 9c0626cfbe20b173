/- Contracts of the program's functions over abstract values and states, plain facts on which these lean, and the framework of these values over the model. The conditions stand in each theorem. -/
import Derived.Test.YtogndnaffdkanaaGreatBc
import Derived.Test.YtogndnaffdkanaaGreatBe
import Derived.Test.YtogndnaffdkanaaGreatBb
import Derived.JoinedCond
import Derived.WalkKit
import Derived.ProofKit
import Derived.Test.YtogndnaffdkanaaGreatRows
set_option linter.all false
set_option maxRecDepth 10000
set_option maxHeartbeats 16000000
namespace Yt
open Go Go.Vc Go.Proofs
theorem l11 (l:List PN) (F:List (List Int)) (tabs:List (List It)) (hP:LawP l F) (hT:LawT tabs):Spec0 Tryz.prog 11 [plA l,formsA F,setsA tabs] (·=bA true):=by
 have hl:l.length<4611686018427387904:=by have:=hP.ll;omega
 have hl':l.length<1073741824:=by have:=hP.ll;omega
 have hf:F.length<4611686018427387904:=by have:=hP.fl;omega
 refine spec0_of_vc tabOk elems ord11 Tryz.func11 rfl (rl:=[.tmp 6]) rfl (by kernel_rfl) rfl ?_;refine Be ?_;refine .pure _ (show Spec0 Tryz.prog 19 [plA l] _ from h19 l hl) rfl λq hq _=>?_;subst hq;refine Ac ?_;refine VIF.split (λ_=>?_) (λg1=>?_)
 ·exact Am
 refine Aa ?_;refine .pure _ (show Spec0 Tryz.prog 20 [formsA F] _ from h20 F hf) rfl λq hq _=>?_;subst hq;refine Ac ?_;refine VIF.split (λ_=>?_) (λg2=>?_)
 ·exact Am
 refine Aa ?_;refine .pure _ (show Spec0 Tryz.prog 21 [setsA tabs] _ from h21 tabs hT.lt hT.zz hT.rr) rfl λq hq _=>?_;subst hq;refine Ac ?_;refine VIF.split (λ_=>?_) (λg3=>?_)
 ·exact Am
 refine Ab ?_;refine .pure _ (show Spec0 Tryz.prog 22 [plA l,iA (40:Nat)] _ from h22 l 40 hl' (by decide)) rfl λq hq _=>?_;subst hq;refine Ac ?_;refine VIF.split (λ_=>?_) (λg4=>?_)
 ·exact Am
 refine Aa ?_;refine .pure _ (show Spec0 Tryz.prog 35 [plA l,formsA F,setsA tabs] _ from r35 F l tabs hP.sz hT.lt hT.both) rfl λq hq _=>?_;obtain ⟨ok,rfl,hok⟩:=hq;refine Ac ?_;refine VIF.split (λ_=>?_) (λg5=>?_)
 ·exact Am
 have g1:heavyP l=false:=by simpa using g1
 have g2:heavyF F=false:=by simpa using g2
 have g3:heavyT tabs=false:=by simpa using g3
 have g4:wideL 40 l=false:=by simpa using g4
 have g5:ok=true:=by simpa using g5
 have hR:RightP F l tabs:=hok.1 g5;have hz:=evsz_of hP.sz g3 g4 hT.rr;refine Aa ?_;refine .pure _ (show Spec0 Tryz.prog 26 [plA l,formsA F,setsA tabs] _ from d26 F l tabs 40 hz) rfl λq hq _=>?_;obtain ⟨z,e,rfl,hq⟩:=hq;obtain ⟨rfl,hO⟩:=hq.out hz hR;have hzl:=hO.len;refine Ab ?_;refine .pure _ (show Spec0 Tryz.prog 52 [plA l,formsA F] _ from d52 F l hP.sz) rfl λq hq _=>?_;obtain ⟨t,rfl,ht,_⟩:=hq;have ht:=ht hR.1;subst ht;have e0:=hR.1;refine Fx ?_;refine .pure _ (show Spec0 Tryz.prog 53 [plA l,formsA F] _ from d53 F l hP.sz) rfl λq hq _=>?_;obtain ⟨w,v,rfl,hwv⟩:=hq;obtain ⟨rfl,rfl⟩:=hwv hR.1;refine Fx ?_;refine C9 ?_;refine .pure _ (show Spec0 Tryz.prog 54 [setA z] _ from s16 z (by omega) (λt ht=>by have:=hO.rows t ht;omega)) rfl λq hq _=>?_;obtain ⟨e,rfl,_,he⟩:=hq;have he:e=0:=he.2 hO.nds.good;subst he;refine Ab ?_;refine C9 ?_;refine .pure _ (show Spec0 Tryz.prog 50 [setA z] _ from s21 z (by omega) (λt ht=>by have:=hO.rows t ht;omega)) rfl λq hq _=>?_;obtain ⟨n,rfl,hn,_⟩:=hq;have hn:=hn hO.nds.good;have hw:=hO.nds.abs;have hn2:n<=(lastN F l).w:=by omega
 refine Ab ?_;have v0:=hO.ndb.v0;have v1:=hO.ndb.v1;have tl:=hO.ndb.tl;have wn:IntKind.i64.wrap (0-(lastN F l).v)=-(lastN F l).v:=by rw[wrap_i64]<;>omega
 have wn2:IntKind.i64.wrap (-(lastN F l).v)=-(lastN F l).v:=by rw[wrap_i64]<;>omega
 refine C9 ?_;refine LOOP.mk (ι:={i:Nat//i<=z.length}) (λp=>mkS [(7,setA z),(9,intsL (lastN F l).types),(12,iA (lastN F l).v),(14,iA p.1)] [] []) (λp=>z.length-p.1) ⟨0,Nat.zero_le _⟩ [] rfl rfl ?_ (λp=>?_)
 ·refine A8 ?_;exact ⟨id,rfl⟩
 obtain ⟨i,hi⟩:=p;refine Ao ?_;refine VIF.split (λh1=>?_) (λh1=>?_)
 ·have h1:i<z.length:=(by simpa using h1);have w1:=wrap_add1 (show i<4611686018427387904 by omega);have hm:=List.getElem_mem h1;have hr:=hO.rows _ hm;have hfit:=hO.nds.fit _ hm;have hval:=hO.nds.val _ hm;refine Aa ?_;refine EL.map h1 ?_;(simp -implicitDefEqProofs only[go_sem,It.c,intsL,rowA];repeat (refine GO ?_;simp -implicitDefEqProofs only[go_sem,It.c,intsL,rowA]));refine .pure _ (show Spec0 Tryz.prog 55 [rowA z[i].row,intsL (lastN F l).types] _ from d55 z[i].row (lastN F l).types (by omega)) rfl λq hq _=>?_;subst hq;(simp -implicitDefEqProofs only[go_sem,bA,hfit];repeat (refine GO ?_;simp -implicitDefEqProofs only[go_sem,bA,hfit]));refine Al ?_;refine LOOP.mk (ι:={k:Nat//k<=z[i].row.length}) (λp=>mkS [(7,setA z),(9,intsL (lastN F l).types),(12,iA (lastN F l).v),(14,iA i),(15,iA p.1)] [] []) (λp=>z[i].row.length-p.1) ⟨0,Nat.zero_le _⟩ [] rfl rfl ?_ (λp=>?_)
  ·refine A8 ?_;exact ⟨id,rfl⟩
  obtain ⟨k,hk⟩:=p;refine Ao ?_;refine EL.map h1 ?_;refine Ax ?_;refine VIF.split (λh2=>?_) (λh2=>?_)
  ·have h2:k<z[i].row.length:=(by simpa using h2);have w2:=wrap_add1 (show k<4611686018427387904 by omega);have hv:=hval _ (List.getElem_mem h2);refine Aa ?_;refine EL.map h1 ?_;refine Ff ?_;refine EL.map h2 ?_;(simp -implicitDefEqProofs only[go_sem,V.c,iA,wn,wn2];repeat (refine GO ?_;simp -implicitDefEqProofs only[go_sem,V.c,iA,wn,wn2]));refine VIF.split (λh3=>?_) (λh3=>?_)
   ·have h3:z[i].row[k].k=3:=(by simpa using h3);have hv:=hv h3;(simp -implicitDefEqProofs only[go_sem,iA,wn,wn2];repeat (refine GO ?_;simp -implicitDefEqProofs only[go_sem,iA,wn,wn2]));repeat ((first|refine VIF.t ?_|refine VIF.f ?_);simp -implicitDefEqProofs only[go_sem,iA,w2,wn,wn2];repeat (refine GO ?_;simp -implicitDefEqProofs only[go_sem,iA,w2,wn,wn2]))
    refine BACK.mk ⟨k+1,by omega⟩ [] rfl rfl (by show z[i].row.length-(k+1)<z[i].row.length-k;omega) ?_;refine Er ?_;exact id
   ·refine Bn ?_;refine BACK.mk ⟨k+1,by omega⟩ [] rfl rfl (by show z[i].row.length-(k+1)<z[i].row.length-k;omega) ?_;refine Er ?_;exact id
  ·refine Af ?_;refine BACK.mk ⟨i+1,by omega⟩ [] rfl rfl (by show z.length-(i+1)<z.length-i;omega) ?_;refine Ci ?_;exact id
 ·refine Aa ?_;refine .pure _ r34 rfl λq hq _=>?_;subst hq;exact Am
theorem l6 (l:List PN) (F:List (List Int)) (tabs:List (List It)) (hP:LawP l F) (hT:LawT tabs):Spec0 Tryz.prog 6 [plA l,formsA F,setsA tabs] (·=bA true):=by
 have hl:l.length<4611686018427387904:=by have:=hP.ll;omega
 have hl':l.length<1073741824:=by have:=hP.ll;omega
 have hf:F.length<4611686018427387904:=by have:=hP.fl;omega
 refine spec0_of_vc tabOk elems ord6 Tryz.func6 rfl (rl:=[.tmp 6]) rfl (by kernel_rfl) rfl ?_;refine Be ?_;refine .pure _ (show Spec0 Tryz.prog 19 [plA l] _ from h19 l hl) rfl λq hq _=>?_;subst hq;refine Ac ?_;refine VIF.split (λ_=>?_) (λg1=>?_)
 ·exact Am
 refine Aa ?_;refine .pure _ (show Spec0 Tryz.prog 20 [formsA F] _ from h20 F hf) rfl λq hq _=>?_;subst hq;refine Ac ?_;refine VIF.split (λ_=>?_) (λg2=>?_)
 ·exact Am
 refine Aa ?_;refine .pure _ (show Spec0 Tryz.prog 21 [setsA tabs] _ from h21 tabs hT.lt hT.zz hT.rr) rfl λq hq _=>?_;subst hq;refine Ac ?_;refine VIF.split (λ_=>?_) (λg3=>?_)
 ·exact Am
 refine Ab ?_;refine .pure _ (show Spec0 Tryz.prog 22 [plA l,iA (40:Nat)] _ from h22 l 40 hl' (by decide)) rfl λq hq _=>?_;subst hq;refine Ac ?_;refine VIF.split (λ_=>?_) (λg4=>?_)
 ·exact Am
 refine Aa ?_;refine .pure _ (show Spec0 Tryz.prog 35 [plA l,formsA F,setsA tabs] _ from r35 F l tabs hP.sz hT.lt hT.both) rfl λq hq _=>?_;obtain ⟨ok,rfl,hok⟩:=hq;refine Ac ?_;refine VIF.split (λ_=>?_) (λg5=>?_)
 ·exact Am
 have g1:heavyP l=false:=by simpa using g1
 have g2:heavyF F=false:=by simpa using g2
 have g3:heavyT tabs=false:=by simpa using g3
 have g4:wideL 40 l=false:=by simpa using g4
 have g5:ok=true:=by simpa using g5
 have hR:RightP F l tabs:=hok.1 g5;have hz:=evsz_of hP.sz g3 g4 hT.rr;obtain ⟨hF,hl1,hl2,hp⟩:=planE_ok hR.1;have hn:l.length-1<l.length:=by omega
 have w0:IntKind.i64.wrap ((l.length:Int)-1)=((l.length-1:Nat):Int):=by rw[wrap_i64]<;>omega
 obtain ⟨x,hx⟩:∃x,x=l[l.length-1]:=⟨_,rfl⟩;obtain ⟨hlk,_⟩:=planD_step hp hn;have hDl:=ndsTo_len hp (i:=l.length-1) (by omega);rw[<- hx] at hlk;(simp -implicitDefEqProofs only[go_sem,w0];repeat (refine GO ?_;simp -implicitDefEqProofs only[go_sem,w0]));refine EL.map hn ?_;rw[<- hx];refine A4 ?_;refine .pure _ (show Spec0 Tryz.prog 26 [plA l,formsA F,setsA tabs] _ from d26 F l tabs 40 hz) rfl λq hq _=>?_;obtain ⟨z,e,rfl,hq⟩:=hq;obtain ⟨rfl,hO⟩:=hq.out hz hR;have hzl:=hO.len;obtain ⟨S,hS,hSn,hzS⟩:=hO.ran;have hN:=hS.nodes (l.length-1) hn hSn;rw[<- hx,<- hzS] at hN;refine Ab ?_;refine Al ?_;have hkk:x.kind=1\/x.kind=2\/x.kind=3\/x.kind=4\/x.kind=5\/x.kind=6\/x.kind=7\/x.kind=8:=by
  simp only[lookE] at hlk;repeat' (split at hlk;· omega)
  omega
 rcases hkk with hk|hkk
 ·have hs:inC x.table F.length=true:=by
   simp only[lookE,hk,if_true] at hlk;exact scanE_ok hlk
  simp only[NodeR,hk,if_true] at hN;simp only[inC,Bool.and_eq_true,decide_eq_true_eq] at hs;have ht:x.table.toNat<tabs.length:=by rw[hR.2.1];omega
  have htl:(x.table.toNat:Int)=x.table:=(by omega);rw[setAt_eq ht] at hN;refine Al ?_;refine ⟨hs.1,EL.map ht ?_⟩;refine Ad ?_;refine .pure _ (show Spec0 Tryz.prog 30 [setA z,setA (tabs[x.table.toNat]'ht)] _ from s18 z (tabs[x.table.toNat]'ht) (by omega) (hT.zz _ (List.getElem_mem ht)) (λt ht=>by have:=hO.rows t ht;omega)) rfl λq hq _=>?_;obtain ⟨b,rfl,hb⟩:=hq;have hb:b=true:=hb.2 hN;subst hb;refine Ac ?_;refine Al ?_;refine .pure _ r34 rfl λq hq _=>?_;subst hq;exact Am
 have ha0:inC x.a (ndsTo F l (l.length-1)).length=true:=by
  simp only[lookE] at hlk;rcases hkk with hk|hk|hk|hk|hk|hk|hk<;>simp[hk] at hlk
  ·exact filtE_ok hlk
  ·exact (projE_ok hlk).1
  ·exact (joinE_ok hlk).1
  ·exact (bothE_ok hlk).1
  ·exact (bothE_ok hlk).1
  ·exact distE_ok hlk
  ·exact (grpE_ok hlk).1
 have en:((l.length:Int)-1)=((l.length-1:Nat):Int):=by omega
 have ha:inC x.a (l.length-1)=true:=by rw[en,<- hDl];exact ha0
 have ha':=ha;simp only[inC,Bool.and_eq_true,decide_eq_true_eq] at ha';have wa:IntKind.i64.wrap (x.a+1)=x.a+1:=by rw[wrap_i64]<;>omega
 have tka:=plA_take (l:=l) ha'.1;have ea:=sub_eval hz hR hS ha;have hcl:=hP.sz.cl x (by rw[hx];exact List.getElem_mem hn);refine VIF.split (λh1=>?_) (λh1=>?_)
 ·simp at h1;omega
 refine Ft ?_;refine ⟨⟨by omega,by omega,by omega⟩,?_⟩;(simp -implicitDefEqProofs only[go_sem,tka,wa];repeat (refine GO ?_;simp -implicitDefEqProofs only[go_sem,tka,wa]));refine .pure _ (show Spec0 Tryz.prog 26 [plA (l.take (x.a.toNat+1)),formsA F,setsA tabs] _ from ea) rfl λq hq _=>?_;obtain ⟨a,rfl,hA,hal,har,hag⟩:=hq;refine Ab ?_;refine Al ?_;have hzr:∀t∈z,t.row.length<4611686018427387904:=λt ht=>by have:=hO.rows t ht;omega
 have ra:∀t∈a,t.row.length<1073741824:=λt ht=>by have:=har t ht;omega
 have hi:=hS.init hp hl1;obtain ⟨na,nb⟩:=hi.at ha0;rw[<- hA] at na;simp only[NodeR,<- hA] at hN;by_cases k456:x.kind=4\/x.kind=5\/x.kind=6
 ·have hb0:inC x.b (ndsTo F l (l.length-1)).length=true:=by
   simp only[lookE] at hlk;rcases k456 with hk|hk|hk<;>simp[hk] at hlk
   ·exact (joinE_ok hlk).2.1
   ·exact (bothE_ok hlk).2.1
   ·exact (bothE_ok hlk).2.1
  have hb:inC x.b (l.length-1)=true:=by rw[en,<- hDl];exact hb0
  have hb':=hb;simp only[inC,Bool.and_eq_true,decide_eq_true_eq] at hb';have wb:IntKind.i64.wrap (x.b+1)=x.b+1:=by rw[wrap_i64]<;>omega
  have tkb:=plA_take (l:=l) hb'.1;have eb:=sub_eval hz hR hS hb;have hfew:=hS.few (Nat.le_refl _) hp hR.2 (λz hz'=>(hz.rows z hz').1) (l.length-1) (by omega);have hrow:rowsN (rowsTo 40 l (l.length-1)) 40 x<=500000:=hz.few _ (rowsTo_mem (i:=l.length-1+1) (by rw[rowsTo_step hn,<- hx];simp));have fa:=hfew.at 40 (k:=x.a) (by rw[hi.len];exact ha0);have fb:=hfew.at 40 (k:=x.b) (by rw[hi.len];exact hb0);rw[<- hA] at fa;rcases k456 with hk|hk|hk
  ·refine Dx ?_;refine C7 ?_;refine ⟨⟨by omega,by omega,by omega⟩,?_⟩;refine Dt ?_;refine .pure _ (show Spec0 Tryz.prog 26 [plA (l.take (x.b.toNat+1)),formsA F,setsA tabs] _ from eb) rfl λq hq _=>?_;obtain ⟨b,rfl,hB,hbl,hbr,hbg⟩:=hq;have rb:∀t∈b,t.row.length<1073741824:=λt ht=>by have:=hbr t ht;omega
   rw[<- hB] at fb;rw[hk] at hN;rw[<- hB] at hN;simp only[show ¬((4:Int)=1) by decide,show ¬((4:Int)=2) by decide,show ¬((4:Int)=3) by decide,if_false] at hN;refine Ab ?_;refine C8 ?_;simp only[rowsN,hk,show ¬((4:Int)=1) by decide,if_true,if_false] at hrow;have hm:=Nat.mul_le_mul fa fb;refine .pure _ (show Spec0 Tryz.prog 42 [setA a,setA b,intsL x.cols,intsL x.others] _ from c26 a b x.cols x.others hcl.1 hcl.2 (by omega) (by omega) (by omega) ra rb) rfl λq hq _=>?_;obtain ⟨z',e,rfl,hq⟩:=hq;have hq:z=z'/\e=0:=by simp only[if_true] at hN;have:=joinR_same hN hq;exact ⟨this.1,this.2.symm⟩
   obtain ⟨rfl,rfl⟩:=hq;refine Ab ?_;refine Al ?_;refine .pure _ (show Spec0 Tryz.prog 30 [setA z,setA z] _ from s18 z z (by omega) (by omega) hzr) rfl λq hq _=>?_;obtain ⟨q,rfl,hb⟩:=hq;have hb:q=true:=hb.2 rfl;subst hb;refine Ac ?_;refine Al ?_;refine .pure _ r34 rfl λq hq _=>?_;subst hq;exact Am
  ·refine Dx ?_;refine C7 ?_;refine ⟨⟨by omega,by omega,by omega⟩,?_⟩;refine Dt ?_;refine .pure _ (show Spec0 Tryz.prog 26 [plA (l.take (x.b.toNat+1)),formsA F,setsA tabs] _ from eb) rfl λq hq _=>?_;obtain ⟨b,rfl,hB,hbl,hbr,hbg⟩:=hq;have rb:∀t∈b,t.row.length<1073741824:=λt ht=>by have:=hbr t ht;omega
   rw[<- hB] at fb;rw[hk] at hN;rw[<- hB] at hN;simp only[show ¬((5:Int)=1) by decide,show ¬((5:Int)=2) by decide,show ¬((5:Int)=3) by decide,if_false] at hN;refine Ab ?_;refine C8 ?_;refine .pure _ (show Spec0 Tryz.prog 43 [setA a,setA b] _ from Spec1.setE (c54 a b (by omega) ra rb)) rfl λq hq _=>?_;obtain ⟨z',e,rfl,hq⟩:=hq;have hq:z=z'/\e=0:=by simp only[show ¬((5:Int)=4) by decide,if_true,if_false] at hN;have:=addR_same2 hN hq;exact ⟨this.1,this.2.symm⟩
   obtain ⟨rfl,rfl⟩:=hq;refine Ab ?_;refine Al ?_;refine .pure _ (show Spec0 Tryz.prog 30 [setA z,setA z] _ from s18 z z (by omega) (by omega) hzr) rfl λq hq _=>?_;obtain ⟨q,rfl,hb⟩:=hq;have hb:q=true:=hb.2 rfl;subst hb;refine Ac ?_;refine Al ?_;refine .pure _ r34 rfl λq hq _=>?_;subst hq;exact Am
  ·refine Dx ?_;refine C7 ?_;refine ⟨⟨by omega,by omega,by omega⟩,?_⟩;refine Dt ?_;refine .pure _ (show Spec0 Tryz.prog 26 [plA (l.take (x.b.toNat+1)),formsA F,setsA tabs] _ from eb) rfl λq hq _=>?_;obtain ⟨b,rfl,hB,hbl,hbr,hbg⟩:=hq;have rb:∀t∈b,t.row.length<1073741824:=λt ht=>by have:=hbr t ht;omega
   rw[<- hB] at fb;rw[hk] at hN;rw[<- hB] at hN;simp only[show ¬((6:Int)=1) by decide,show ¬((6:Int)=2) by decide,show ¬((6:Int)=3) by decide,if_false] at hN;refine Ab ?_;refine C8 ?_;refine .pure _ (show Spec0 Tryz.prog 44 [setA a,setA b] _ from Spec1.setE (c55 a b (by omega) ra rb)) rfl λq hq _=>?_;obtain ⟨z',e,rfl,hq⟩:=hq;have hq:z=z'/\e=0:=by simp only[show ¬((6:Int)=4) by decide,show ¬((6:Int)=5) by decide,if_true,if_false] at hN;have:=minR_samE hN hq;exact ⟨this.1,this.2.symm⟩
   obtain ⟨rfl,rfl⟩:=hq;refine Ab ?_;refine Al ?_;refine .pure _ (show Spec0 Tryz.prog 30 [setA z,setA z] _ from s18 z z (by omega) (by omega) hzr) rfl λq hq _=>?_;obtain ⟨q,rfl,hb⟩:=hq;have hb:q=true:=hb.2 rfl;subst hb;refine Ac ?_;refine Al ?_;refine .pure _ r34 rfl λq hq _=>?_;subst hq;exact Am
 ·have hk2:x.kind=2\/x.kind=3\/x.kind=7\/x.kind=8:=(by omega);rcases hk2 with hk|hk|hk|hk
  ·refine Db ?_;refine Co ?_;rw[hk] at hN;simp only[show ¬((2:Int)=1) by decide,show ¬((2:Int)=3) by decide,show ¬((2:Int)=4) by decide,show ¬((2:Int)=5) by decide,show ¬((2:Int)=6) by decide,show ¬((2:Int)=7) by decide,if_true,if_false] at hN;simp only[lookE,hk,show ¬((2:Int)=1) by decide,show ¬((2:Int)=3) by decide,show ¬((2:Int)=4) by decide,show ¬((2:Int)=5) by decide,show ¬((2:Int)=6) by decide,show ¬((2:Int)=7) by decide,show ¬((2:Int)=5\/(2:Int)=6) by decide,if_true,if_false] at hlk;refine .pure _ (show Spec0 Tryz.prog 40 [setA a,.ag x.pred.c] _ from Spec1.setE (c51 a x.pred (by omega) ra)) rfl λq hq _=>?_;obtain ⟨z',e,rfl,hq⟩:=hq;have hq:z=z'/\e=0:=by
    rcases hq with ⟨h,_⟩|⟨_,h,h2⟩
    ·exact absurd hag h
    ·exact ⟨hN.trans h.symm,h2⟩
   obtain ⟨rfl,rfl⟩:=hq;refine Ab ?_;refine Al ?_;refine .pure _ (show Spec0 Tryz.prog 30 [setA z,setA z] _ from s18 z z (by omega) (by omega) hzr) rfl λq hq _=>?_;obtain ⟨q,rfl,hb⟩:=hq;have hb:q=true:=hb.2 rfl;subst hb;refine Ac ?_;refine Al ?_;refine .pure _ r34 rfl λq hq _=>?_;subst hq;exact Am
  ·refine Db ?_;refine Co ?_;rw[hk] at hN;simp only[show ¬((3:Int)=1) by decide,show ¬((3:Int)=2) by decide,show ¬((3:Int)=4) by decide,show ¬((3:Int)=5) by decide,show ¬((3:Int)=6) by decide,show ¬((3:Int)=7) by decide,if_true,if_false] at hN;simp only[lookE,hk,show ¬((3:Int)=1) by decide,show ¬((3:Int)=2) by decide,show ¬((3:Int)=4) by decide,show ¬((3:Int)=5) by decide,show ¬((3:Int)=6) by decide,show ¬((3:Int)=7) by decide,show ¬((3:Int)=5\/(3:Int)=6) by decide,if_true,if_false] at hlk;obtain ⟨_,hc1,hc2⟩:=projE_ok hlk;refine .pure _ (show Spec0 Tryz.prog 41 [setA a,intsL x.cols] _ from Spec1.setE (c49 a x.cols (by omega) ra hcl.1)) rfl λq hq _=>?_;obtain ⟨z',e,rfl,hq⟩:=hq;have hq:z=z'/\e=0:=by
    have:=projX_same hN (projR_X (nd_pickE na hc1 hc2) hq);exact ⟨this.1,this.2.symm⟩
   obtain ⟨rfl,rfl⟩:=hq;refine Ab ?_;refine Al ?_;refine .pure _ (show Spec0 Tryz.prog 30 [setA z,setA z] _ from s18 z z (by omega) (by omega) hzr) rfl λq hq _=>?_;obtain ⟨q,rfl,hb⟩:=hq;have hb:q=true:=hb.2 rfl;subst hb;refine Ac ?_;refine Al ?_;refine .pure _ r34 rfl λq hq _=>?_;subst hq;exact Am
  ·refine Db ?_;refine Co ?_;rw[hk] at hN;simp only[show ¬((7:Int)=1) by decide,show ¬((7:Int)=2) by decide,show ¬((7:Int)=3) by decide,show ¬((7:Int)=4) by decide,show ¬((7:Int)=5) by decide,show ¬((7:Int)=6) by decide,if_true,if_false] at hN;simp only[lookE,hk,show ¬((7:Int)=1) by decide,show ¬((7:Int)=2) by decide,show ¬((7:Int)=3) by decide,show ¬((7:Int)=4) by decide,show ¬((7:Int)=5) by decide,show ¬((7:Int)=6) by decide,show ¬((7:Int)=5\/(7:Int)=6) by decide,if_true,if_false] at hlk;refine .pure _ (show Spec0 Tryz.prog 45 [setA a] _ from c32 a (by omega) ra) rfl λq hq _=>?_;obtain ⟨z',e,rfl,hq⟩:=hq;have hq:z=z'/\e=0:=by
    rcases hq with ⟨h,_⟩|⟨_,h,h2⟩
    ·exact absurd hag h
    ·exact ⟨hN.trans h.symm,h2⟩
   obtain ⟨rfl,rfl⟩:=hq;refine Ab ?_;refine Al ?_;refine .pure _ (show Spec0 Tryz.prog 30 [setA z,setA z] _ from s18 z z (by omega) (by omega) hzr) rfl λq hq _=>?_;obtain ⟨q,rfl,hb⟩:=hq;have hb:q=true:=hb.2 rfl;subst hb;refine Ac ?_;refine Al ?_;refine .pure _ r34 rfl λq hq _=>?_;subst hq;exact Am
  ·refine Db ?_;refine Co ?_;rw[hk] at hN;simp only[show ¬((8:Int)=1) by decide,show ¬((8:Int)=2) by decide,show ¬((8:Int)=3) by decide,show ¬((8:Int)=4) by decide,show ¬((8:Int)=5) by decide,show ¬((8:Int)=6) by decide,show ¬((8:Int)=7) by decide,if_true,if_false] at hN;simp only[lookE,hk,show ¬((8:Int)=1) by decide,show ¬((8:Int)=2) by decide,show ¬((8:Int)=3) by decide,show ¬((8:Int)=4) by decide,show ¬((8:Int)=5) by decide,show ¬((8:Int)=6) by decide,show ¬((8:Int)=7) by decide,show ¬((8:Int)=5\/(8:Int)=6) by decide,if_true,if_false] at hlk;refine .pure _ (show Spec0 Tryz.prog 46 [setA a,intsL x.cols,iA x.agg,iA x.col] _ from Spec1.setE (c67 a x.cols x.agg x.col (by omega) ra hcl.1)) rfl λq hq _=>?_;obtain ⟨z',e,rfl,hq⟩:=hq;have hq:z=z'/\e=0:=by
    have:=groupR_same hN hq;exact ⟨this.1,this.2.symm⟩
   obtain ⟨rfl,rfl⟩:=hq;refine Ab ?_;refine Al ?_;refine .pure _ (show Spec0 Tryz.prog 30 [setA z,setA z] _ from s18 z z (by omega) (by omega) hzr) rfl λq hq _=>?_;obtain ⟨q,rfl,hb⟩:=hq;have hb:q=true:=hb.2 rfl;subst hb;refine Ac ?_;refine Al ?_;refine .pure _ r34 rfl λq hq _=>?_;subst hq;exact Am
def nilS (n:Nat):List (List It):=List.replicate n []
theorem cell_rep {n i j:Nat} {x a:AV} (h:cellAt (List.replicate n [x]) i j=some a):a=x:=by
 simp only[cellAt] at h;cases h1:(List.replicate n [x])[i]? with
 | none=>rw[h1] at h;cases h
 | some y=>
   rw[h1] at h;have:=List.eq_of_mem_replicate (List.mem_of_getElem? h1);subst this;have:=List.mem_of_getElem? (show [x][j]?=some a from h);simpa using this
theorem setsN (n:Nat):setsA (nilS n)=.im 1 (List.replicate n [setA []]):=by simp[setsA,nilS]
theorem lent_nilS {objs:Nat->Option Ob} {id n:Nat} (ho:objs id=some ⟨1,List.replicate n [AV.nl]⟩):Lent objs (.rf id 0 (List.replicate n [AV.nl]).length) (setsA (nilS n)):=by rw[setsN];refine .rf ho (by rw[List.drop_zero,List.take_length]) (by simp) (λx hx=>by rw[List.eq_of_mem_replicate hx];rfl) (λi j a' h=>by rw[cell_rep h];rfl) λi j a a' g g'=>?_;rw[cell_rep g,cell_rep g'];exact .nl
theorem nilS_rows (n:Nat):∀z∈nilS n,z=[]:=λz hz=>(List.mem_replicate.1 hz).2
theorem es_nils {st:St} {m:List (Nat×Option Nat)} (n:Nat):Es st m (List.replicate n [AV.nl]) (doO (nilS n)).es:=by
 simp only[doO,nilS]
 induction n with
 | zero=>exact .nil
 | succ n ih=>
   simp only[List.replicate_succ,List.map_cons];exact .cons ⟨rfl,trivial⟩ ih
theorem nil_few (l:List PN):∀n∈rowsL 0 l [],n=0:=by
 have key:∀(l:List PN) (S:List Nat),(∀n∈S,n=0)->∀n∈rowsL 0 l S,n=0:=by
  intro l
  induction l with
  | nil=>exact λS h=>h
  | cons x l ih=>
    intro S h;refine ih _ λn hn=>?_;have ra:∀k,rowA_ S 0 k=0:=λk=>by
     rw[rowA_];split
     ·cases h2:S[k.toNat]? with
      | none=>rfl
      | some v=>exact h v (List.mem_of_getElem? h2)
     ·rfl
    rcases List.mem_append.1 hn with hn|hn
    ·exact h n hn
    ·rw[List.mem_singleton.1 hn,rowsN];simp[ra]
 exact key l [] (by simp)
theorem nil_sz {F:List (List Int)} {l:List PN} (hp:PlSz F l) (n:Nat) (hn:n<4611686018427387904):EvSz F l (nilS n) 0 where
 pl:=hp
 rows:=λz hz=>by rw[nilS_rows n z hz];simp
 big:=by decide
 many:=by simpa [nilS] using hn
 few:=λn hn=>by have:=nil_few l n hn;omega
theorem l7 (l:List PN) (F:List (List Int)) (hP:LawP l F):Spec0 Tryz.prog 7 [plA l,formsA F] (·=bA true):=by
 have hl:l.length<4611686018427387904:=by have:=hP.ll;omega
 have hl':l.length<1073741824:=by have:=hP.ll;omega
 have hf:F.length<4611686018427387904:=by have:=hP.fl;omega
 refine spec0_of_vc tabOk elems ord7 Tryz.func7 rfl (rl:=[.tmp 4]) rfl (by kernel_rfl) rfl ?_;refine Cf ?_;refine .pure _ (show Spec0 Tryz.prog 19 [plA l] _ from h19 l hl) rfl λq hq _=>?_;subst hq;refine Ac ?_;refine VIF.split (λ_=>?_) (λg1=>?_)
 ·exact Am
 refine Aa ?_;refine .pure _ (show Spec0 Tryz.prog 20 [formsA F] _ from h20 F hf) rfl λq hq _=>?_;subst hq;refine Ac ?_;refine VIF.split (λ_=>?_) (λg2=>?_)
 ·exact Am
 have g1:heavyP l=false:=by simpa using g1
 have g2:heavyF F=false:=by simpa using g2
 have hfl:F.length<=1048576:=hP.fl;refine Ab ?_;refine ⟨by omega,?_⟩;refine .lendR (args':=[plA l,formsA F,setsA (nilS F.length)]) (r35 F l (nilS F.length) hP.sz (by simp[nilS];omega) (λz hz=>by rw[nilS_rows _ z hz];simp)) ⟨.same rfl,.same rfl,lent_nilS rfl,trivial⟩ (by rintro _ ⟨e,rfl,_⟩;rfl) λq hq=>?_;obtain ⟨ok,rfl,hok⟩:=hq;refine Ac ?_;refine VIF.split (λ_=>?_) (λg5=>?_)
 ·exact Am
 have g5:ok=true:=by simpa using g5
 have hR:RightP F l (nilS F.length):=hok.1 g5;have hz:=nil_sz hP.sz F.length (by omega);have hz1:=nil_sz hP.sz (F.length+1) (by omega);have w1:=wrap_add1 (show F.length<4611686018427387904 by omega);refine Bc ?_;refine ⟨by omega,?_⟩;refine TOG [(29,some 29)] [(0,plA l),(1,formsA F),(25,plA l),(26,formsA F),(29,.rf 29 0 F.length)] [(29,doO (nilS F.length))] [29] rfl ?_ ?_
 ·refine Cf ?_;exact ⟨id,by simp,rfl,es_nils _⟩
 refine TO [] [(0,plA l),(1,formsA F),(25,plA l),(26,formsA F),(29,setsA (nilS F.length))] [] [] rfl ?_ ?_
 ·refine Be ?_;exact ⟨id,by decide,_,rfl,doO_leafy _,rfl,by simp[doO,nilS,setA]⟩
 refine Be ?_;refine .pure _ (show Spec0 Tryz.prog 26 [plA l,formsA F,setsA (nilS F.length)] _ from d26 F l (nilS F.length) 0 hz) rfl λq hq _=>?_;obtain ⟨z,e,rfl,hq⟩:=hq;obtain ⟨rfl,hO⟩:=hq.out hz hR;refine Bc ?_;refine ⟨by omega,?_⟩;refine TOG [(39,some 39)] [(5,setA z),(6,iA 0),(34,plA l),(35,formsA F),(39,.rf 39 0 (F.length+1))] [(39,doO (nilS (F.length+1)))] [39] rfl ?_ ?_
 ·(simp -implicitDefEqProofs only[go_sem,formsA,iA,plA,setA];repeat (refine GO ?_;simp -implicitDefEqProofs only[go_sem,formsA,iA,plA,setA]));exact ⟨id,by simp,rfl,es_nils _⟩
 refine TO [] [(5,setA z),(6,iA 0),(34,plA l),(35,formsA F),(39,setsA (nilS (F.length+1)))] [] [] rfl ?_ ?_
 ·(simp -implicitDefEqProofs only[go_sem,formsA,iA,plA,setA,setsA];repeat (refine GO ?_;simp -implicitDefEqProofs only[go_sem,formsA,iA,plA,setA,setsA]));exact ⟨id,by decide,_,rfl,doO_leafy _,rfl,by simp[doO,nilS,setA]⟩
 refine Be ?_;refine .pure _ (show Spec0 Tryz.prog 26 [plA l,formsA F,setsA (nilS (F.length+1))] _ from d26 F l (nilS (F.length+1)) 0 hz1) rfl λq hq _=>?_;obtain ⟨z2,e2,rfl,hq2⟩:=hq;have he2:e2=2:=by
  rcases hq2 with ⟨h,_⟩|⟨_,_,_,h⟩|⟨_,h,_⟩|⟨_,h,_⟩
  ·exact absurd hR.1 h
  ·exact h
  ·simp[nilS] at h
  ·have:=h.1;simp[nilS] at this
 subst he2;have hz0:z=[]:=by
  obtain ⟨S,hS,hSn,rfl⟩:=hO.ran;have hfew:=hS.few (Nat.le_refl _) (planE_ok hR.1).2.2.2 hR.2 (K:=0) (λz hz=>by rw[nilS_rows _ z hz];simp) l.length (Nat.le_refl _);rw[List.take_of_length_le (by rw[hS.len];omega)] at hfew;have h2:l.length-1<(rowsTo 0 l l.length).length:=by rw[<- hfew.1];exact hSn
  have h3:=hfew.2 _ hSn h2;have h4:=nil_few l _ (rowsTo_mem (List.getElem_mem h2));exact List.length_eq_zero_iff.1 (by omega)
 subst hz0;refine Ab ?_;refine C4 ?_;refine .pure _ r34 rfl λq hq _=>?_;subst hq;exact Am
theorem mod_ok (k:Int) {n:Nat} (h0:0<n) (hn:n<4611686018427387904):∃j:Nat,j<n/\IntKind.i64.wrap ((IntKind.u64.wrap k).tmod (IntKind.u64.wrap n))=j/\IntKind.u64.wrap n≠0:=by
 have e:IntKind.u64.wrap (n:Int)=n:=wrap_u64 (by omega) (by omega);have hk:0<=IntKind.u64.wrap k:=by simp only[IntKind.wrap,IntKind.signed,IntKind.bits];simp;omega
 rw[e];obtain ⟨m,hm⟩:=Int.eq_ofNat_of_zero_le hk;rw[hm];refine ⟨m%n,Nat.mod_lt _ h0,?_,by omega⟩;have h1:=Nat.mod_lt m h0;rw[<- Int.ofNat_tmod];rw[wrap_i64]<;>omega
theorem swap_right {F:List (List Int)} {l:List PN} {a b:List (List It)} (ha:RightP F l a) (hb:RightP F l b) {k:Nat} (hk:k<b.length):RightP F l (a.set k b[k]):=by
 refine ⟨ha.1,by rw[List.length_set];exact ha.2.1,λi h1 h2=>?_⟩;rw[List.getElem_set];split
 ·rename_i e;subst e;exact hb.2.2 _ h1 hk
 ·exact ha.2.2 i h1 (by rw[List.length_set] at h2;exact h2)
theorem swap_sz {F:List (List Int)} {l:List PN} {a b:List (List It)} {K:Nat} (ha:EvSz F l a K) (hb:EvSz F l b K) {k:Nat} (hk:k<b.length):EvSz F l (a.set k b[k]) K where
 pl:=ha.pl
 rows:=λz hz=>by
  rcases List.mem_or_eq_of_mem_set hz with h|rfl
  ·exact ha.rows z h
  ·exact hb.rows _ (List.getElem_mem hk)
 big:=ha.big
 many:=by rw[List.length_set];exact ha.many
 few:=ha.few
theorem swap_same {F:List (List Int)} {l:List PN} {a b:List (List It)} {o o':List It} {k:Nat} (hk:k<b.length) (hR:RightP F l a) (h:Out F l a o) (h':Out F l (a.set k b[k]) o') (hn:∀j (h:j<l.length),¬(l[j].kind=1/\l[j].table=k)):o=o':=by
 obtain ⟨hF,hl1,hl2,hp⟩:=planE_ok hR.1;obtain ⟨S,hS,hs,rfl⟩:=h.ran;obtain ⟨S',hS',hs',rfl⟩:=h'.ran;have h1:=ran_same hS hS' l.length (Nat.le_refl _) (Nat.le_refl _) (Nat.le_refl _) (Nat.le_refl _) (λj _ _ _=>rfl) λj hj _ h1=>by obtain ⟨g1,_⟩:=planD_step hp hj;simp only[lookE,h1,if_true] at g1;have hi:=scanE_ok g1;simp only[inC,Bool.and_eq_true,decide_eq_true_eq] at hi;have hne:l[j].table≠k:=λe=>hn j hj ⟨h1,e⟩;simp only[setAt];rw[List.getElem?_set_ne (by omega)]
 rw[List.take_of_length_le (by rw[hS.len];omega),List.take_of_length_le (by rw[hS'.len];omega)] at h1;subst h1;rfl
theorem formsE_pos {F:List (List Int)} (h:formsE F=0):0<F.length:=by
 simp only[formsE] at h;split at h
 ·cases h
 ·rename_i h1;omega
theorem l8 (l:List PN) (F:List (List Int)) (a b:List (List It)) (k:Int) (hP:LawP l F) (hA:LawT a) (hB:LawT b):Spec0 Tryz.prog 8 [plA l,formsA F,setsA a,setsA b,iA k] (·=bA true):=by
 have hl:l.length<4611686018427387904:=by have:=hP.ll;omega
 have hl':l.length<1073741824:=by have:=hP.ll;omega
 have hf:F.length<4611686018427387904:=by have:=hP.fl;omega
 refine spec0_of_vc tabOk elems ord8 Tryz.func8 rfl (rl:=[.tmp 10]) rfl (by kernel_rfl) rfl ?_;refine Bx ?_;refine .pure _ (show Spec0 Tryz.prog 19 [plA l] _ from h19 l hl) rfl λq hq _=>?_;subst hq;refine Ac ?_;refine VIF.split (λ_=>?_) (λg1=>?_)
 ·exact Am
 refine Aa ?_;refine .pure _ (show Spec0 Tryz.prog 20 [formsA F] _ from h20 F hf) rfl λq hq _=>?_;subst hq;refine Ac ?_;refine VIF.split (λ_=>?_) (λg2=>?_)
 ·exact Am
 refine Aa ?_;refine .pure _ (show Spec0 Tryz.prog 21 [setsA a] _ from h21 a hA.lt hA.zz hA.rr) rfl λq hq _=>?_;subst hq;refine Ac ?_;refine VIF.split (λ_=>?_) (λg3=>?_)
 ·exact Am
 refine Aa ?_;refine .pure _ (show Spec0 Tryz.prog 21 [setsA b] _ from h21 b hB.lt hB.zz hB.rr) rfl λq hq _=>?_;subst hq;refine Ac ?_;refine VIF.split (λ_=>?_) (λg3b=>?_)
 ·exact Am
 refine Ab ?_;refine .pure _ (show Spec0 Tryz.prog 22 [plA l,iA (40:Nat)] _ from h22 l 40 hl' (by decide)) rfl λq hq _=>?_;subst hq;refine Ac ?_;refine VIF.split (λ_=>?_) (λg4=>?_)
 ·exact Am
 refine Aa ?_;refine .pure _ (show Spec0 Tryz.prog 35 [plA l,formsA F,setsA a] _ from r35 F l a hP.sz hA.lt hA.both) rfl λq hq _=>?_;obtain ⟨ok,rfl,hok⟩:=hq;refine Ac ?_;refine VIF.split (λ_=>?_) (λg5=>?_)
 ·exact Am
 refine Aa ?_;refine .pure _ (show Spec0 Tryz.prog 35 [plA l,formsA F,setsA b] _ from r35 F l b hP.sz hB.lt hB.both) rfl λq hq _=>?_;obtain ⟨ok2,rfl,hok2⟩:=hq;refine Ac ?_;refine VIF.split (λ_=>?_) (λg5b=>?_)
 ·exact Am
 have g1:heavyP l=false:=by simpa using g1
 have g2:heavyF F=false:=by simpa using g2
 have g3:heavyT a=false:=by simpa using g3
 have g3b:heavyT b=false:=by simpa using g3b
 have g4:wideL 40 l=false:=by simpa using g4
 have hR:RightP F l a:=hok.1 (by simpa using g5);have hR2:RightP F l b:=hok2.1 (by simpa using g5b);have hz:=evsz_of hP.sz g3 g4 hA.rr;have hz2:=evsz_of hP.sz g3b g4 hB.rr;obtain ⟨hF,hl1,hl2,hp⟩:=planE_ok hR.1;obtain ⟨kk,hkk,ek,ek0⟩:=mod_ok k (formsE_pos hF) (by omega);(simp -implicitDefEqProofs only[go_sem,ek,iA];repeat (refine GO ?_;simp -implicitDefEqProofs only[go_sem,ek,iA]));refine ⟨ek0,?_⟩;refine LOOP.mk (ι:={i:Nat//i<=l.length/\∀j (h:j<l.length),j<i->¬(l[j].kind=1/\l[j].table=kk)}) (λp=>mkS [(0,plA l),(1,formsA F),(2,setsA a),(3,setsA b),(4,iA kk),(11,iA p.1)] [] []) (λp=>l.length-p.1) ⟨0,Nat.zero_le _,λj _ h=>absurd h (Nat.not_lt_zero _)⟩ [] rfl rfl ?_ (λp=>?_)
 ·refine Bx ?_;exact ⟨id,rfl⟩
 obtain ⟨i,hi,hg⟩:=p;refine Cq ?_;refine VIF.split (λh1=>?_) (λh1=>?_)
 ·have h1:i<l.length:=(by simpa using h1);have w1:=wrap_add1 (show i<4611686018427387904 by omega);refine Aa ?_;refine EL.map h1 ?_;refine Ba ?_;refine VIF.split (λh2=>?_) (λh2=>?_)
  ·have h2:l[i].kind=1:=(by simpa using h2);refine Aa ?_;refine EL.map h1 ?_;refine Ba ?_;refine VIF.split (λh3=>?_) (λh3=>?_)
   ·exact Am
   ·have h3:¬l[i].table=kk:=(by simpa using h3);refine Af ?_;refine BACK.mk ⟨i+1,by omega,λj hj hji=>if e:j=i then (by subst e;exact λh=>h3 h.2) else hg j hj (by omega)⟩ [] rfl rfl (by show l.length-(i+1)<l.length-i;omega) ?_;refine B3 ?_;first|exact id|exact ⟨id,rfl⟩
  ·have h2:¬l[i].kind=1:=(by simpa using h2);refine Af ?_;refine BACK.mk ⟨i+1,by omega,λj hj hji=>if e:j=i then (by subst e;exact λh=>h2 h.1) else hg j hj (by omega)⟩ [] rfl rfl (by show l.length-(i+1)<l.length-i;omega) ?_;refine B3 ?_;first|exact id|exact ⟨id,rfl⟩
 have h1:i=l.length:=by simp at h1;omega
 subst h1;have hka:kk<a.length:=by rw[hR.2.1];exact hkk
 have hkb:kk<b.length:=by rw[hR2.2.1];exact hkk
 refine Bx ?_;refine ⟨by have:=hA.len;omega,EL.map hkb ?_⟩;refine Aa ?_;refine ⟨by omega,EL.map hka ?_⟩;refine Aw ?_;have hz3:=swap_sz hz hz2 hkb;have hR3:=swap_right hR hR2 hkb;refine TO [] [(0,plA l),(1,formsA F),(2,setsA a),(12,setsA (a.set kk b[kk])),(88,plA l),(89,formsA F),(90,setsA a)] [] [] rfl ?_ ?_
 ·refine Be ?_;have e:(List.map (λz=>[setA z]) a).set kk [setA b[kk]]=List.map (λz=>[setA z]) (a.set kk b[kk]):=(by rw[List.map_set]);exact ⟨id,by decide,_,rfl,by rw[e];exact doO_leafy (a.set kk b[kk]),rfl,by rw[List.take_of_length_le (by simp)];exact e⟩
 refine Be ?_;refine .pure _ (show Spec0 Tryz.prog 26 [plA l,formsA F,setsA a] _ from d26 F l a 40 hz) rfl λq hq _=>?_;obtain ⟨z,e,rfl,hq⟩:=hq;obtain ⟨rfl,hO⟩:=hq.out hz hR;refine Ab ?_;refine .pure _ (show Spec0 Tryz.prog 26 [plA l,formsA F,setsA (a.set kk b[kk])] _ from d26 F l (a.set kk b[kk]) 40 hz3) rfl λq hq _=>?_;obtain ⟨z2,e,rfl,hq⟩:=hq;obtain ⟨rfl,hO2⟩:=hq.out hz3 hR3;have hs:=swap_same hkb hR hO hO2 λj h=>hg j h h;subst hs;have hzl:=hO.len;refine Ab ?_;refine Al ?_;refine .pure _ (show Spec0 Tryz.prog 30 [setA z,setA z] _ from s18 z z (by omega) (by omega) (λt ht=>by have:=hO.rows t ht;omega)) rfl λq hq _=>?_;obtain ⟨q,rfl,hb⟩:=hq;have hb:q=true:=hb.2 rfl;subst hb;refine Ac ?_;refine Al ?_;refine .pure _ r34 rfl λq hq _=>?_;subst hq;exact Am
def linN (x:PN):Prop:=x.kind<=3\/x.kind=5\/x.kind=6
theorem setAt_take {S:List (List It)} {m:Nat} {k:Int} (hk:inC k m=true) (h:m<=S.length):∃h:k.toNat<S.length,k.toNat<m/\setAt (S.take m) k=S[k.toNat]:=by
 simp only[inC,Bool.and_eq_true,decide_eq_true_eq] at hk;have h1:k.toNat<m:=by omega
 refine ⟨by omega,h1,?_⟩;rw[setAt_eq (by rw[List.length_take];omega),List.getElem_take]
theorem makeR_zero {z o:List It} (h:MakeR z o 0):Made o/\∀r,tot r o=tot r z:=by
 rcases h with ⟨_,_,h⟩|⟨_,_,h,_⟩|⟨_,_,h1,h2,_⟩
 ·cases h
 ·cases h
 ·exact ⟨h1,h2⟩
theorem projX_tot {z o:List It} {cols:List Int} (h:ProjX z cols o 0) (r:List V):tot r o=linF (λq=>ind r (pickR q cols)) z:=by
 rcases h with ⟨_,_,h⟩|⟨_,_,h,_⟩|⟨_,_,h⟩
 ·cases h
 ·exact absurd rfl h
 ·rw[(makeR_zero h).2,tot_proj_linF]
theorem addR_tot {a b o:List It} (h:AddR a b o 0) (r:List V):tot r o=tot r a+tot r b:=by
 rcases h with ⟨_,_,h⟩|⟨_,_,h⟩
 ·cases h
 ·rw[(makeR_zero h).2,tot_append]
theorem minR_tot {a b o:List It} (h:MinR a b o 0) (r:List V):tot r o=tot r a-tot r b:=by
 rcases h with ⟨_,_,h⟩|⟨_,_,h⟩
 ·cases h
 ·rw[(makeR_zero h).2,tot_append,tot_neg];omega
theorem node_lin {F:List (List Int)} {D:List Nd} {x:PN} {A B C ta tb tc:List (List It)} {oa ob oc:List It} (hl:lookE F D x=0) (hx:linN x)
 (ht:∀k,inC k F.length=true->∀r,tot r (setAt tc k)=tot r (setAt ta k)+tot r (setAt tb k)) (hS:∀k,inC k D.length=true->∀r,tot r (setAt C k)=tot r (setAt A k)+tot r (setAt B k))
 (ha:NodeR x A ta oa) (hb:NodeR x B tb ob) (hc:NodeR x C tc oc) (r:List V):tot r oc=tot r oa+tot r ob:=by
 simp only[lookE] at hl;simp only[NodeR] at ha hb hc;by_cases k1:x.kind=1
 ·simp only[k1,if_true] at hl ha hb hc;rw[ha,hb,hc];exact ht _ (scanE_ok hl) r
 simp only[k1,if_false] at hl ha hb hc;by_cases k2:x.kind=2
 ·simp only[k2,if_true] at hl ha hb hc;rw[ha,hb,hc,tot_filter (λr=>holdsP x.pred r),tot_filter (λr=>holdsP x.pred r),tot_filter (λr=>holdsP x.pred r),hS _ (filtE_ok hl) r];split<;>omega
 simp only[k2,if_false] at hl ha hb hc;by_cases k3:x.kind=3
 ·simp only[k3,if_true] at hl ha hb hc;rw[projX_tot ha,projX_tot hb,projX_tot hc];exact linF_add _ (hS _ (projE_ok hl).1)
 simp only[k3,if_false] at hl ha hb hc;have k4:¬x.kind=4:=λe=>by rcases hx with h|h|h<;>omega
 simp only[k4,if_false] at hl ha hb hc;by_cases k5:x.kind=5
 ·simp only[k5,if_true,true_or] at hl ha hb hc;obtain ⟨h1,h2,_⟩:=bothE_ok hl;rw[addR_tot ha,addR_tot hb,addR_tot hc,hS _ h1 r,hS _ h2 r];omega
 simp only[k5,if_false,false_or] at hl ha hb hc;by_cases k6:x.kind=6
 ·simp only[k6,if_true] at hl ha hb hc;obtain ⟨h1,h2,_⟩:=bothE_ok hl;rw[minR_tot ha,minR_tot hb,minR_tot hc,hS _ h1 r,hS _ h2 r];omega
 ·simp only[k6,if_false] at hl;have k7:¬x.kind=7:=λe=>by rcases hx with h|h|h<;>omega
  have k8:¬x.kind=8:=λe=>by rcases hx with h|h|h<;>omega
  simp[k7,k8] at hl
theorem ran_lin {F:List (List Int)} {l:List PN} {ta tb tc A B C:List (List It)} (hp:(planD F l []).1=0) (ha:Ran F l ta l.length A) (hb:Ran F l tb l.length B) (hc:Ran F l tc l.length C) (hx:∀x∈l,linN x)
 (ht:∀k,inC k F.length=true->∀r,tot r (setAt tc k)=tot r (setAt ta k)+tot r (setAt tb k)) :
 ∀m j,j<m->(h:j<l.length)->∀(h1:j<A.length) (h2:j<B.length) (h3:j<C.length) r,tot r C[j]=tot r A[j]+tot r B[j]:=by
 intro m
 induction m with
 | zero=>intro j h;omega
 | succ m ih=>
   intro j hjm hj h1 h2 h3 r;obtain ⟨g1,_⟩:=planD_step hp hj;have hD:=ndsTo_len hp (i:=j) (by omega);refine node_lin g1 (hx _ (List.getElem_mem hj)) ht (λk hk r=>?_) (ha.nodes j hj h1) (hb.nodes j hj h2) (hc.nodes j hj h3) r;rw[hD] at hk;obtain ⟨q1,q0,e1⟩:=setAt_take (S:=A) hk (by omega);obtain ⟨q2,_,e2⟩:=setAt_take (S:=B) hk (by omega);obtain ⟨q3,_,e3⟩:=setAt_take (S:=C) hk (by omega);rw[e1,e2,e3];exact ih k.toNat (by omega) (by omega) q1 q2 q3 r
theorem lin_few (K:Nat):∀(l:List PN) (S:List Nat) (M:Nat),K<=M->(∀n∈S,n<=M)->(∀x∈l,linN x)->∀n∈rowsL K l S,n<=M*2 ^ l.length
 | [],S,M,_,h,_,n,hn=>by simpa using h n hn
 | x::l,S,M,hK,h,hx,n,hn=>by
   have ra:=rowA_le h hK x.a;have rb:=rowA_le h hK x.b;have h4:¬x.kind=4:=λe=>by rcases hx x (by simp) with h|h|h<;>omega
   have hN:rowsN S K x<=2*M:=by
    rw[rowsN];split
    ·omega
    ·first|(split<;>omega)|(rw[if_neg h4];split<;>omega)
   have:=lin_few K l (S++[rowsN S K x]) (2*M) (by omega) (λn hn=>by
    rcases List.mem_append.1 hn with hn|hn
    ·have:=h n hn;omega
    ·rw[List.mem_singleton.1 hn];exact hN) (λy hy=>hx y (List.mem_cons_of_mem _ hy)) n hn
   rw[List.length_cons,Nat.pow_succ];have e:2*M*2 ^ l.length=M*(2 ^ l.length*2):=(by rw[Nat.mul_comm 2 M,Nat.mul_assoc,Nat.mul_comm 2]);omega
theorem lin_sz {F:List (List Int)} {l:List PN} {tabs:List (List It)} {K:Nat} (hp:PlSz F l) (h0:planE F l=0) (hx:∀x∈l,linN x) (hK:K<=100) (ht:tabs.length<=1048576) (hr:∀z∈tabs,z.length<=K/\∀t∈z,t.row.length<4611686018427387904):EvSz F l tabs K where
 pl:=hp
 rows:=hr
 big:=by omega
 many:=by omega
 few:=λn hn=>by have h1:=lin_few K l [] K (Nat.le_refl _) (by simp) hx n hn;have h2:=(planE_ok h0).2.2.1;have h3:2 ^ l.length<=2 ^ 12:=Nat.pow_le_pow_right (by omega) h2;have h4:=Nat.mul_le_mul hK h3;omega
theorem out_lin {F:List (List Int)} {l:List PN} {ta tb tc:List (List It)} {x y z s:List It} {e:Int} (h0:planE F l=0) (ha:Out F l ta x) (hb:Out F l tb y) (hc:Out F l tc z) (hx:∀x∈l,linN x)
 (ht:∀k,inC k F.length=true->∀r,tot r (setAt tc k)=tot r (setAt ta k)+tot r (setAt tb k)) (h:AddR x y s e):e=0/\s=z:=by
 obtain ⟨A,hA,ia,rfl⟩:=ha.ran;obtain ⟨B,hB,ib,rfl⟩:=hb.ran;obtain ⟨C,hC,ic,rfl⟩:=hc.ran;obtain ⟨_,hl1,_,hp⟩:=planE_ok h0;have hr:=ran_lin hp hA hB hC hx ht l.length (l.length-1) (by omega) (by omega) ia ib ic;rcases h with ⟨h,_⟩|⟨ga,gb,h⟩
 ·exact absurd ⟨ha.nds.good,hb.nds.good⟩ h
 ·have:=makeR_ok (o:=C[l.length-1]) h (by
   rw[List.any_eq_false];intro t ht;have key:∀{z:List It},Good z->t∈z->okI t=true:=λhg hz=>by obtain ⟨h1,h2⟩:=good_made.1 hg;simp[okI,h2 t hz,(h1.nz t hz).2]
   rcases List.mem_append.1 ht with ht|ht
   ·simp[key ga ht]
   ·simp[key gb ht]) hc.nds.made λr=>by rw[hr,tot_append]
  exact ⟨this.2,this.1⟩
theorem tab_fw {f:List Int} {z:List It} {n:Nat} (h:tabE f z) (hn:z.length<=n):Fw z n 1:=by
 obtain ⟨h1,h2,h3⟩:=h;rw[List.any_eq_false] at h3;have hw:∀t∈z,t.w=1:=λt ht=>by have:=h3 t ht;simp only[wrongI,Bool.or_eq_true,Bool.not_eq_true',decide_eq_false_iff_not,not_or,Decidable.not_not,Bool.not_eq_false] at this;exact this.1.1.1
 have hm:=(good_made.1 h1).1;refine ⟨h1,hn,λr=>?_⟩;by_cases h:∃t∈z,t.row=r
 ·obtain ⟨t,ht,rfl⟩:=h;rw[tot_made hm ht,hw t ht];omega
 ·rw[tot_none λt ht e=>h ⟨t,ht,lin_cmpR.eq _ _ e⟩];omega
theorem l4 (l:List PN) (F:List (List Int)) (a b:List (List It)) (hP:LawP l F) (hA:LawT a) (hTb:LawT b):Spec0 Tryz.prog 4 [plA l,formsA F,setsA a,setsA b] (·=bA true):=by
 have hl:l.length<4611686018427387904:=by have:=hP.ll;omega
 have hl':l.length<1073741824:=by have:=hP.ll;omega
 have hf:F.length<4611686018427387904:=by have:=hP.fl;omega
 refine spec0_of_vc tabOk elems ord4 Tryz.func4 rfl (rl:=[.tmp 8]) rfl (by kernel_rfl) rfl ?_;refine Be ?_;refine .pure _ (show Spec0 Tryz.prog 19 [plA l] _ from h19 l hl) rfl λq hq _=>?_;subst hq;refine Ac ?_;refine VIF.split (λ_=>?_) (λg1=>?_)
 ·exact Am
 refine Aa ?_;refine .pure _ (show Spec0 Tryz.prog 20 [formsA F] _ from h20 F hf) rfl λq hq _=>?_;subst hq;refine Ac ?_;refine VIF.split (λ_=>?_) (λg2=>?_)
 ·exact Am
 refine Aa ?_;refine .pure _ (show Spec0 Tryz.prog 21 [setsA a] _ from h21 a hA.lt hA.zz hA.rr) rfl λq hq _=>?_;subst hq;refine Ac ?_;refine VIF.split (λ_=>?_) (λg3=>?_)
 ·exact Am
 refine Aa ?_;refine .pure _ (show Spec0 Tryz.prog 21 [setsA b] _ from h21 b hTb.lt hTb.zz hTb.rr) rfl λq hq _=>?_;subst hq;refine Ac ?_;refine VIF.split (λ_=>?_) (λg3b=>?_)
 ·exact Am
 refine Aa ?_;refine .pure _ (show Spec0 Tryz.prog 35 [plA l,formsA F,setsA a] _ from r35 F l a hP.sz hA.lt hA.both) rfl λq hq _=>?_;obtain ⟨ok,rfl,hok⟩:=hq;refine Ac ?_;refine VIF.split (λ_=>?_) (λg5=>?_)
 ·exact Am
 refine Aa ?_;refine .pure _ (show Spec0 Tryz.prog 35 [plA l,formsA F,setsA b] _ from r35 F l b hP.sz hTb.lt hTb.both) rfl λq hq _=>?_;obtain ⟨ok2,rfl,hok2⟩:=hq;refine Ac ?_;refine VIF.split (λ_=>?_) (λg5b=>?_)
 ·exact Am
 have g3:heavyT a=false:=by simpa using g3
 have g3b:heavyT b=false:=by simpa using g3b
 have hR:RightP F l a:=hok.1 (by simpa using g5);have hR2:RightP F l b:=hok2.1 (by simpa using g5b);obtain ⟨hF,hl1,hl2,hp⟩:=planE_ok hR.1;have ta:=heavyT_ok g3;have tb:=heavyT_ok g3b;refine Aa ?_;refine LOOP.mk (ι:={i:Nat//i<=l.length/\∀j (h:j<l.length),j<i->linN l[j]}) (λp=>mkS [(0,plA l),(1,formsA F),(2,setsA a),(3,setsA b),(9,iA p.1)] [] []) (λp=>l.length-p.1) ⟨0,Nat.zero_le _,λj _ h=>absurd h (Nat.not_lt_zero _)⟩ [] rfl rfl ?_ (λp=>?_)
 ·refine Bx ?_;exact ⟨id,rfl⟩
 obtain ⟨i,hi,hg⟩:=p;refine Cq ?_;refine VIF.split (λh1=>?_) (λh1=>?_)
 ·have h1:i<l.length:=(by simpa using h1);have w1:=wrap_add1 (show i<4611686018427387904 by omega);refine Aa ?_;refine EL.map h1 ?_;refine Ba ?_;have hk:l[i].kind<=3\/l[i].kind=5\/l[i].kind=6\/(¬l[i].kind<=3/\l[i].kind≠5/\l[i].kind≠6):=(by omega);rcases hk with hk|hk|hk|hk
  ·repeat (first|((first|refine VIF.t ?_|refine VIF.f ?_);(simp -implicitDefEqProofs only[go_sem,PN.c,iA];repeat (refine GO ?_;simp -implicitDefEqProofs only[go_sem,PN.c,iA])))|(refine EL.map h1 ?_;(simp -implicitDefEqProofs only[go_sem,PN.c,iA];repeat (refine GO ?_;simp -implicitDefEqProofs only[go_sem,PN.c,iA]))))
   try (simp -implicitDefEqProofs only[go_sem,w1];repeat (refine GO ?_;simp -implicitDefEqProofs only[go_sem,w1]))
   refine BACK.mk ⟨i+1,by omega,λj hj hji=>if e:j=i then (by subst e;exact .inl hk) else hg j hj (by omega)⟩ [] rfl rfl (by show l.length-(i+1)<l.length-i;omega) ?_;refine B3 ?_;first|exact id|exact ⟨id,rfl⟩
  ·repeat (first|((first|refine VIF.t ?_|refine VIF.f ?_);(simp -implicitDefEqProofs only[go_sem,PN.c,iA];repeat (refine GO ?_;simp -implicitDefEqProofs only[go_sem,PN.c,iA])))|(refine EL.map h1 ?_;(simp -implicitDefEqProofs only[go_sem,PN.c,iA];repeat (refine GO ?_;simp -implicitDefEqProofs only[go_sem,PN.c,iA]))))
   try (simp -implicitDefEqProofs only[go_sem,w1];repeat (refine GO ?_;simp -implicitDefEqProofs only[go_sem,w1]))
   refine BACK.mk ⟨i+1,by omega,λj hj hji=>if e:j=i then (by subst e;exact .inr (.inl hk)) else hg j hj (by omega)⟩ [] rfl rfl (by show l.length-(i+1)<l.length-i;omega) ?_;refine B3 ?_;first|exact id|exact ⟨id,rfl⟩
  ·repeat (first|((first|refine VIF.t ?_|refine VIF.f ?_);(simp -implicitDefEqProofs only[go_sem,PN.c,iA];repeat (refine GO ?_;simp -implicitDefEqProofs only[go_sem,PN.c,iA])))|(refine EL.map h1 ?_;(simp -implicitDefEqProofs only[go_sem,PN.c,iA];repeat (refine GO ?_;simp -implicitDefEqProofs only[go_sem,PN.c,iA]))))
   try (simp -implicitDefEqProofs only[go_sem,w1];repeat (refine GO ?_;simp -implicitDefEqProofs only[go_sem,w1]))
   refine BACK.mk ⟨i+1,by omega,λj hj hji=>if e:j=i then (by subst e;exact .inr (.inr hk)) else hg j hj (by omega)⟩ [] rfl rfl (by show l.length-(i+1)<l.length-i;omega) ?_;refine B3 ?_;first|exact id|exact ⟨id,rfl⟩
  ·repeat (first|((first|refine VIF.t ?_|refine VIF.f ?_);(simp -implicitDefEqProofs only[go_sem,PN.c,iA];repeat (refine GO ?_;simp -implicitDefEqProofs only[go_sem,PN.c,iA])))|(refine EL.map h1 ?_;(simp -implicitDefEqProofs only[go_sem,PN.c,iA];repeat (refine GO ?_;simp -implicitDefEqProofs only[go_sem,PN.c,iA]))))
   try (simp -implicitDefEqProofs only[go_sem,bA];repeat (refine GO ?_;simp -implicitDefEqProofs only[go_sem,bA]))
 have h1:i=l.length:=by simp at h1;omega
 subst h1;have hlin:∀x∈l,linN x:=λx hx=>by obtain ⟨j,hj,rfl⟩:=List.mem_iff_getElem.1 hx;exact hg j hj hj
 have hal:F.length=a.length:=hR.2.1.symm;have hbl:F.length=b.length:=hR2.2.1.symm;refine Bx ?_;refine LOOP.mk (ι:={p:Nat×List (List It)//p.1<=F.length/\p.2.length=p.1/\∀j (h:j<a.length) (h2:j<b.length) (h3:j<p.2.length),Fw p.2[j] 80 2/\∀r,tot r p.2[j]=tot r a[j]+tot r b[j]}) (λp=>mkS [(0,plA l),(1,formsA F),(2,setsA a),(3,setsA b),(10,.rf 1000 0 p.1.2.length),(11,iA p.1.1)] [(1000,doO p.1.2)] [1000]) (λp=>F.length-p.1.1) ⟨(0,[]),Nat.zero_le _,rfl,by simp⟩ [(1000,none)] rfl rfl ?_ (λp=>?_)
 ·refine Dc ?_;exact ⟨id,rfl,rfl⟩
 obtain ⟨⟨i,B⟩,hi,hBl,hB⟩:=p;simp only at hi hBl hB;refine Dc ?_;refine VIF.split (λh2=>?_) (λh2=>?_)
 ·have h2:i<F.length:=(by simpa using h2);have w1:=wrap_add1 (show i<4611686018427387904 by omega);have hia:i<a.length:=(by omega);have hib:i<b.length:=(by omega);have fa:=tab_fw (hR.2.2 i h2 hia) (ta.2 _ (List.getElem_mem hia));have fb:=tab_fw (hR2.2.2 i h2 hib) (tb.2 _ (List.getElem_mem hib));have la:=fa.len;have lb:=fb.len;refine Aa ?_;refine EL.map hia ?_;refine Aa ?_;refine EL.map hib ?_;refine Aa ?_;refine .pure _ (show Spec0 Tryz.prog 36 [setA a[i],setA b[i]] _ from Spec1.setE (s23 a[i] b[i] (by omega) (λt ht=>by have:=fa.rows t ht;omega) (λt ht=>by have:=fb.rows t ht;omega))) rfl λq hq _=>?_;obtain ⟨z,e,rfl,hq⟩:=hq;obtain ⟨rfl,hz,hzt⟩:=fa.add fb (by decide) hq;refine Ab ?_;repeat ((first|refine VIF.t ?_|refine VIF.f ?_);simp -implicitDefEqProofs only[go_sem,iA,w1];repeat (refine GO ?_;simp -implicitDefEqProofs only[go_sem,iA,w1]))
  refine ⟨by omega,?_⟩;refine BACK.mk ⟨(i+1,B++[z]),by show i+1<=F.length;omega,by simp[hBl],λj q1 q2 q3=>?_⟩ [(1000,some 101)] rfl rfl (by show F.length-(i+1)<F.length-i;omega) ?_
  ·by_cases e:j<B.length
   ·have e2:(B++[z])[j]=B[j]:=List.getElem_append_left e;rw[e2];exact hB j q1 q2 e
   ·have e3:j=i:=by
     have h3:j<(B++[z]).length:=q3;rw[List.length_append] at h3;simp only[List.length_singleton] at h3;omega
    subst e3;have e2:(B++[z])[j]=z:=by rw[List.getElem_append_right (by omega)];simp[hBl]
    rw[e2];exact ⟨hz,hzt⟩
  ·(simp -implicitDefEqProofs only[go_sem,doO,formsA,iA,plA,setsA,w1];repeat (refine GO ?_;simp -implicitDefEqProofs only[go_sem,doO,formsA,iA,plA,setsA,w1]));exact ⟨id,by simp,by rw[List.take_of_length_le (by simp)];exact doO_snoc rfl⟩
 have h2:i=F.length:=by simp at h2;omega
 subst h2;refine Aw ?_;have hBr:∀z∈B,z.length<=80/\∀t∈z,t.row.length<4611686018427387904:=λz hz=>by obtain ⟨j,hj,rfl⟩:=List.mem_iff_getElem.1 hz;have:=(hB j (by omega) (by omega) hj).1;exact ⟨this.len,λt ht=>by have:=this.rows t ht;omega⟩
 refine TO [] [(0,plA l),(1,formsA F),(2,setsA a),(3,setsA b),(10,setsA B)] [] [] rfl ?_ ?_
 ·refine Dc ?_;exact ⟨id,by decide,_,rfl,doO_leafy B,rfl,by rw[List.take_of_length_le (by simp)]⟩
 refine Be ?_;refine .pure _ (show Spec0 Tryz.prog 35 [plA l,formsA F,setsA B] _ from r35 F l B hP.sz (by omega) (λz hz=>⟨by have:=(hBr z hz).1;omega,(hBr z hz).2⟩)) rfl λq hq _=>?_;obtain ⟨ok3,rfl,hok3⟩:=hq;refine Ac ?_;refine VIF.split (λ_=>?_) (λg6=>?_)
 ·refine Aa ?_;refine .pure _ r34 rfl λq hq _=>?_;subst hq;exact Am
 have hR3:RightP F l B:=hok3.1 (by simpa using g6);have hz1:=lin_sz hP.sz hR.1 hlin (K:=40) (by omega) hA.len (λz hz=>⟨ta.2 z hz,hA.rr z hz⟩);have hz2:=lin_sz hP.sz hR.1 hlin (K:=40) (by omega) hTb.len (λz hz=>⟨tb.2 z hz,hTb.rr z hz⟩);have hz3:=lin_sz hP.sz hR.1 hlin (K:=80) (by omega) (by omega) hBr;refine Aa ?_;refine .pure _ (show Spec0 Tryz.prog 26 [plA l,formsA F,setsA a] _ from d26 F l a 40 hz1) rfl λq hq _=>?_;obtain ⟨x,e,rfl,hq⟩:=hq;obtain ⟨rfl,hO⟩:=hq.out hz1 hR;refine Ab ?_;refine .pure _ (show Spec0 Tryz.prog 26 [plA l,formsA F,setsA b] _ from d26 F l b 40 hz2) rfl λq hq _=>?_;obtain ⟨y,e,rfl,hq⟩:=hq;obtain ⟨rfl,hO2⟩:=hq.out hz2 hR2;refine Ab ?_;refine .pure _ (show Spec0 Tryz.prog 26 [plA l,formsA F,setsA B] _ from d26 F l B 80 hz3) rfl λq hq _=>?_;obtain ⟨z,e,rfl,hq⟩:=hq;obtain ⟨rfl,hO3⟩:=hq.out hz3 hR3;have lx:=hO.len;have ly:=hO2.len;have lz:=hO3.len;refine Ab ?_;refine .pure _ (show Spec0 Tryz.prog 36 [setA x,setA y] _ from Spec1.setE (s23 x y (by omega) (λt ht=>by have:=hO.rows t ht;omega) (λt ht=>by have:=hO2.rows t ht;omega))) rfl λq hq _=>?_;obtain ⟨s,e,rfl,hq⟩:=hq;obtain ⟨rfl,rfl⟩:=out_lin hR.1 hO hO2 hO3 hlin (λk hk r=>by
  simp only[inC,Bool.and_eq_true,decide_eq_true_eq] at hk;rw[setAt_eq (show k.toNat<B.length by omega),setAt_eq (show k.toNat<a.length by omega),setAt_eq (show k.toNat<b.length by omega)];exact (hB k.toNat (by omega) (by omega) (by omega)).2 r) hq
 refine Ab ?_;refine Al ?_;refine .pure _ (show Spec0 Tryz.prog 30 [setA s,setA s] _ from s18 s s (by omega) (by omega) (λt ht=>by have:=hO3.rows t ht;omega)) rfl λq hq _=>?_;obtain ⟨q,rfl,hb⟩:=hq;have hb:q=true:=hb.2 rfl;subst hb;refine Ac ?_;refine Al ?_;refine .pure _ r34 rfl λq hq _=>?_;subst hq;exact Am
end Yt
namespace Yt
open Go Go.Vc
def og9:Ords
 | 1=>some (.lin [F7 0,F7 1,F8 2,F7 3,F7 4,F7 5,F8 6,F7 7,F7 8,F7 9,F8 10,F7 11,F7 12,F7 13,F8 14,F7 15,F7 16,F7 17,F7 18,F7 19,F7 20,F8 21,F7 22,F7 23,F7 24,F7 25])
 | 6=>some (.fork [F6 0,F6 1,F6 3] 2 (.lin [F6 4,F6 5,Ga 6,Ga 7,F6 8]) 4 (.forkq [F6 5] 2 false (.lin [Ga 6,Ga 7,F6 8]) 6 true (.lin [F7 2,Ga 7,F6 8])))
 | 18=>some (.lin [F7 0,F7 1,F8 2,F7 3,F7 4,F7 5,F8 6,F7 7,F7 8,F7 9,F7 10,F7 11])
 | 23=>some (.lin [F7 0,F7 1,F8 2,F7 3,F7 4,F7 5,F7 6,F8 7,F7 8,F7 9,F8 10,F7 11,F7 12,F7 13,F7 14])
 | 31=>some (.lin [F7 0,F7 1,F7 2,F7 3,F7 4,F7 5,F8 6,F7 7,F7 8,F7 9,F7 10,F7 11,F7 12,F7 13,F7 14,F7 15])
 | _=>none
@[go_sem] theorem og9_0:og9 0=none:=rfl
attribute [go_sem] og9.eq_1
@[go_sem] theorem og9_2:og9 2=none:=rfl
@[go_sem] theorem og9_3:og9 3=none:=rfl
@[go_sem] theorem og9_4:og9 4=none:=rfl
@[go_sem] theorem og9_5:og9 5=none:=rfl
attribute [go_sem] og9.eq_2
@[go_sem] theorem og9_7:og9 7=none:=rfl
@[go_sem] theorem og9_8:og9 8=none:=rfl
@[go_sem] theorem og9_9:og9 9=none:=rfl
@[go_sem] theorem og9_11:og9 11=none:=rfl
@[go_sem] theorem og9_12:og9 12=none:=rfl
@[go_sem] theorem og9_14:og9 14=none:=rfl
@[go_sem] theorem og9_15:og9 15=none:=rfl
@[go_sem] theorem og9_16:og9 16=none:=rfl
@[go_sem] theorem og9_17:og9 17=none:=rfl
attribute [go_sem] og9.eq_3
@[go_sem] theorem og9_20:og9 20=none:=rfl
@[go_sem] theorem og9_22:og9 22=none:=rfl
attribute [go_sem] og9.eq_4
@[go_sem] theorem og9_25:og9 25=none:=rfl
@[go_sem] theorem og9_26:og9 26=none:=rfl
@[go_sem] theorem og9_28:og9 28=none:=rfl
@[go_sem] theorem og9_29:og9 29=none:=rfl
attribute [go_sem] og9.eq_5
@[go_sem] theorem og9_30:og9 30=none:=rfl
@[go_sem] theorem og9_33:og9 33=none:=rfl
def og10:Ords
 | 1=>some (.lin [F7 0,F7 1,F8 2,F7 3,F7 4,F7 5,F8 6,F7 7,F7 8,F7 9,F7 10,F7 11,F7 12,F7 13])
 | 10=>some (.lin [F7 0,F7 1,F8 2,F7 3,F7 4,F7 5,F8 6,F7 7,F7 8,F7 9,F8 10,F7 11,F7 12,F7 13,F8 14,F7 15,F7 16,F7 17,F7 18,F8 19,F7 20,F7 21,F7 22,F7 23,F7 24,F8 25,F7 26,F7 27,F7 28,F7 29,F7 30,F7 31,F8 32,F7 33,F7 34,F7 35,F7 36,F7 37,F7 38,F7 39])
 | 13=>some (.lin [F7 0,F7 1,F7 2,F8 3,F7 4,F7 5,F7 6])
 | 14=>some (.lin [F7 0,F7 1,F7 2,F8 3,F7 4,F7 5,F7 6,F7 7,F7 8,F7 9,F7 10,F8 11,F7 12,F7 13,F7 14,F7 15,F7 16,F7 17,F7 18,F7 19,F7 20,F7 21,F7 22])
 | 20=>some (.lin [F6 0,Gc 1,F6 2,F6 3,F6 4,F6 5,F6 6,F6 7,F6 8,F6 9,F6 10,F6 11,F6 12,F6 13,F6 14,F6 15,F6 16,F7 17,F6 18,F6 19,F6 20])
 | 22=>some (.lin [F7 0,F7 1,F8 2,F7 3,F7 4,F7 5,F7 6,F7 7,F7 8,F7 9,F7 10,F8 11,F7 12,F7 13,F7 14,F7 15,F7 16,F7 17,F8 18,F7 19,F7 20,F7 21])
 | _=>none
@[go_sem] theorem og10_0:og10 0=none:=rfl
attribute [go_sem] og10.eq_1
@[go_sem] theorem og10_2:og10 2=none:=rfl
@[go_sem] theorem og10_3:og10 3=none:=rfl
@[go_sem] theorem og10_4:og10 4=none:=rfl
@[go_sem] theorem og10_5:og10 5=none:=rfl
@[go_sem] theorem og10_6:og10 6=none:=rfl
@[go_sem] theorem og10_7:og10 7=none:=rfl
@[go_sem] theorem og10_8:og10 8=none:=rfl
@[go_sem] theorem og10_9:og10 9=none:=rfl
attribute [go_sem] og10.eq_2
@[go_sem] theorem og10_12:og10 12=none:=rfl
attribute [go_sem] og10.eq_3
attribute [go_sem] og10.eq_4
@[go_sem] theorem og10_16:og10 16=none:=rfl
@[go_sem] theorem og10_17:og10 17=none:=rfl
@[go_sem] theorem og10_18:og10 18=none:=rfl
attribute [go_sem] og10.eq_5
@[go_sem] theorem og10_19:og10 19=none:=rfl
@[go_sem] theorem og10_21:og10 21=none:=rfl
attribute [go_sem] og10.eq_6
end Yt
namespace Yt
open Go Go.Vc Go.Proofs
def pr0:Pr:=⟨0,0,0,⟨0,0,⟨#[]⟩⟩⟩
def lastA (n:Nat) (p:Pr):PN:=⟨2,n,0,0,p,[],[],0,0⟩
def lastB (n:Nat):PN:=⟨6,n,n,0,pr0,[],[],0,0⟩
def lastC (n:Nat):PN:=⟨7,n,0,0,pr0,[],[],0,0⟩
def plO (l:List PN):Ob:=⟨14,l.map PN.c⟩
theorem pn_leaf (x:PN):∀a∈x.c,a.leaf=true:=by simp[PN.c,intsL,iA,AV.leaf]
theorem plO_leafy (l:List PN):(plO l).leafy:=λx hx=>by obtain ⟨y,_,rfl⟩:=List.mem_map.1 hx;exact pn_leaf y
theorem plO_snoc {st:St} {m:List (Nat×Option Nat)} {l:List PN} {x:PN} {cs:List AV} (h:wk.wks st m cs x.c):Es st m (List.take l.length (List.map PN.c l)++[cs]) (plO (l++[x])).es:=by rw[List.take_of_length_le (by simp),plO,List.map_append];exact Es_snoc (λy hy=>plO_leafy l y hy) h
theorem last_planE {F:List (List Int)} {l:List PN} (x:PN) (h0:planE F l=0) (hl:l.length<12):planE F (l++[x])=lookE F (planN F l) x:=by
 obtain ⟨g1,g2,g3,g4⟩:=planE_ok h0;rw[planE,if_neg (by simp[g1]),if_neg (by simp;omega),planD_app F l [x] [] g4];simp only[planD,planN];split
 ·rename_i h;exact h.symm
 ·rfl
theorem last_sz {F:List (List Int)} {l:List PN} {tabs:List (List It)} (x:PN) (hz:EvSz F l tabs 40) (hw:wideL 40 l=false) (hx:x.kind≠4) (hc:x.cols=[]) (ho:x.others=[]) (hl:l.length<12):EvSz F (l++[x]) tabs 40 where
 pl:=⟨hz.pl.fl,hz.pl.ff,by simp;omega,λy hy=>by
  rcases List.mem_append.1 hy with h|h
  ·exact hz.pl.cl y h
  ·rw[List.mem_singleton.1 h,hc,ho];simp⟩
 rows:=hz.rows
 big:=hz.big
 many:=hz.many
 few:=λn hn=>by
  rw[rowsL_app] at hn;simp only[rowsL] at hn;rw[wideL,List.any_eq_false] at hw;have hb:∀n∈rowsL 40 l [],n<=5000:=λn h=>by have:=hw n h;simp at this;omega
  have ra:=rowA_le hb (show 40<=5000 by omega) x.a;have rb:=rowA_le hb (show 40<=5000 by omega) x.b;rcases List.mem_append.1 hn with h|h
  ·have:=hb n h;omega
  ·rw[List.mem_singleton.1 h,rowsN,if_neg hx];repeat' split
   all_goals omega
theorem last_node {F:List (List Int)} {l:List PN} {tabs:List (List It)} {x:PN} {z o:List It} (h0:planE F l=0) (h:Out F l tabs z) (h':Out F (l++[x]) tabs o):∃S,NodeR x S tabs o/\setAt S ((l.length-1:Nat):Int)=z:=by
 obtain ⟨S,hS,hs,rfl⟩:=h.ran;obtain ⟨S',hS',hs',rfl⟩:=h'.ran;have hl1:=(planE_ok h0).2.1;have e:=ran_same hS' hS l.length (by simp) (Nat.le_refl _) (by simp) (Nat.le_refl _) (λj h1 h2 _=>List.getElem_append_left h2) (λ_ _ _ _=>rfl);rw[List.take_of_length_le (l:=S) (by rw[hS.len];omega)] at e;have hsl:l.length<S'.length:=by rw[hS'.len];simp
 have hn:=hS'.nodes l.length (by simp) hsl;rw[e,List.getElem_append_right (Nat.le_refl _)] at hn;simp only[Nat.sub_self,List.getElem_singleton] at hn;refine ⟨S,?_,by rw[setAt_eq (by simpa using hs)];rfl⟩;have e2:S'[(l++[x]).length-1]=S'[l.length]:=by congr 1;simp
 rw[e2];exact hn
theorem last_in {F:List (List Int)} {l:List PN} (h0:planE F l=0):∃h:l.length-1<(planN F l).length,(planN F l).length=l.length/\(planN F l)[l.length-1]=lastN F l/\inC ((l.length-1:Nat):Int) (planN F l).length=true/\ndAt (planN F l) ((l.length-1:Nat):Int)=lastN F l:=by
 obtain ⟨g1,g2,g3,g4⟩:=planE_ok h0;have hlen:(planN F l).length=l.length:=by rw[<- ndsTo_all];exact ndsTo_len g4 (Nat.le_refl _)
 have h:l.length-1<(planN F l).length:=by omega
 have e:(planN F l)[l.length-1]=lastN F l:=by rw[lastN,List.getLast?_eq_getElem?,hlen,List.getElem?_eq_getElem h];rfl
 refine ⟨h,hlen,e,by simp[inC];omega,?_⟩;rw[ndAt_eq (by simpa using h)];exact e
theorem last_dist {n:Nat} {S tabs:List (List It)} {d z:List It} (h:NodeR (lastC n) S tabs d) (hz:setAt S (n:Int)=z):d=distL z:=by simp only[NodeR,lastC,show ¬((7:Int)=1) by decide,show ¬((7:Int)=2) by decide,show ¬((7:Int)=3) by decide,show ¬((7:Int)=4) by decide,show ¬((7:Int)=5) by decide,show ¬((7:Int)=6) by decide,if_true,if_false] at h;rw[hz] at h;exact h
theorem dist_fact {z d:List It} (hz:Made z) (hd:d=distL z):∀t∈d,t.w=1/\1<=wt t.row z:=λt ht=>by
 subst hd;obtain ⟨u,hu,rfl⟩:=List.mem_map.1 ht;obtain ⟨h1,h2⟩:=List.mem_filter.1 hu;have h3:=(hz.nz u h1).1;refine ⟨rfl,?_⟩;have e:wt (oneI u.row).row z=u.w:=(wt_tot hz _).trans (tot_made hz h1);rw[e];have h4:¬u.w<0:=by simpa using h2
 omega
theorem last_min {F:List (List Int)} {l:List PN} {tabs:List (List It)} {z y:List It} {e:Int} (h0:planE F l=0) (hR:RightP F l tabs) (hO:Out F l tabs z) (hz:EvSz F (l++[lastB (l.length-1)]) tabs 40)
 (pb:planE F (l++[lastB (l.length-1)])=if 1125899906842624-(lastN F l).w<(lastN F l).w then 11 else 0) (h:EvalRes F (l++[lastB (l.length-1)]) tabs y e):(e=0/\y=[])\/e=11:=by
 by_cases hp:planE F (l++[lastB (l.length-1)])=0
 ·obtain ⟨he,hOb⟩:=h.out hz ⟨hp,hR.2⟩;obtain ⟨S,hN,hS⟩:=last_node h0 hO hOb;simp only[NodeR,lastB,show ¬((6:Int)=1) by decide,show ¬((6:Int)=2) by decide,show ¬((6:Int)=3) by decide,show ¬((6:Int)=4) by decide,show ¬((6:Int)=5) by decide,if_true,if_false] at hN;rw[hS] at hN;refine .inl ⟨he,made_eq hOb.nds.made ⟨.nil,by simp⟩ λr=>?_⟩;rw[minR_tot hN];simp[tot]
 ·refine .inr ?_;rcases h with ⟨_,_,h⟩|⟨h,_⟩|⟨h,_⟩|⟨h,_⟩
  ·rw[h,pb];rw[pb] at hp;split
   ·rfl
   ·rename_i h;rw[if_neg h] at hp;exact absurd rfl hp
  ·exact absurd h hp
  ·exact absurd h hp
  ·exact absurd h hp
theorem l9 (l:List PN) (F:List (List Int)) (tabs:List (List It)) (p:Pr) (hP:LawP l F) (hT:LawT tabs):Spec0 Tryz.prog 9 [plA l,formsA F,setsA tabs,.ag p.c] (·=bA true):=by
 have hl:l.length<4611686018427387904:=by have:=hP.ll;omega
 have hl':l.length<1073741824:=by have:=hP.ll;omega
 have hf:F.length<4611686018427387904:=by have:=hP.fl;omega
 refine spec0_of_vc tabOk elems og9 Tryz.func9 rfl (rl:=[.tmp 8]) rfl (by kernel_rfl) rfl ?_;(simp -implicitDefEqProofs only[go_sem,Pr.c,formsA,plA,setsA];repeat (refine GO ?_;simp -implicitDefEqProofs only[go_sem,Pr.c,formsA,plA,setsA]));refine .pure _ (show Spec0 Tryz.prog 19 [plA l] _ from h19 l hl) rfl λq hq _=>?_;subst hq;refine Ac ?_;refine VIF.split (λ_=>?_) (λg1=>?_)
 ·exact Am
 refine Aa ?_;refine .pure _ (show Spec0 Tryz.prog 20 [formsA F] _ from h20 F hf) rfl λq hq _=>?_;subst hq;refine Ac ?_;refine VIF.split (λ_=>?_) (λg2=>?_)
 ·exact Am
 refine Aa ?_;refine .pure _ (show Spec0 Tryz.prog 21 [setsA tabs] _ from h21 tabs hT.lt hT.zz hT.rr) rfl λq hq _=>?_;subst hq;refine Ac ?_;refine VIF.split (λ_=>?_) (λg3=>?_)
 ·exact Am
 refine Ab ?_;refine .pure _ (show Spec0 Tryz.prog 22 [plA l,iA (40:Nat)] _ from h22 l 40 hl' (by decide)) rfl λq hq _=>?_;subst hq;refine Ac ?_;refine VIF.split (λ_=>?_) (λg4=>?_)
 ·exact Am
 refine Aa ?_;refine .pure _ (show Spec0 Tryz.prog 35 [plA l,formsA F,setsA tabs] _ from r35 F l tabs hP.sz hT.lt hT.both) rfl λq hq _=>?_;obtain ⟨ok,rfl,hok⟩:=hq;refine Ac ?_;refine VIF.split (λ_=>?_) (λg5=>?_)
 ·exact Am
 refine Aa ?_;refine VIF.split (λ_=>?_) (λg6=>?_)
 ·exact Am
 have g6:l.length<12:=by simp at g6;omega
 have g1:heavyP l=false:=by simpa using g1
 have g2:heavyF F=false:=by simpa using g2
 have g3:heavyT tabs=false:=by simpa using g3
 have g4:wideL 40 l=false:=by simpa using g4
 have g5:ok=true:=by simpa using g5
 have hR:RightP F l tabs:=hok.1 g5;have hz:=evsz_of hP.sz g3 g4 hT.rr;obtain ⟨hF,hl1,hl2,hp⟩:=planE_ok hR.1;refine Aa ?_;refine .pure _ (show Spec0 Tryz.prog 26 [plA l,formsA F,setsA tabs] _ from d26 F l tabs 40 hz) rfl λq hq _=>?_;obtain ⟨z,e,rfl,hq⟩:=hq;obtain ⟨rfl,hO⟩:=hq.out hz hR;have hzl:=hO.len;have e0:=hR.1;have w0:IntKind.i64.wrap ((l.length:Int)-1)=((l.length-1:Nat):Int):=by rw[wrap_i64]<;>omega
 simp -implicitDefEqProofs only[go_sem,iA,w0];have lf:∀{A:Prop},A->(l.length<=1073741824/\l.length<=1073741823/\l.length<=1073741824/\l.length<=1073741823/\l.length<=1073741824/\l.length<=1073741823/\A):=λh=>⟨by omega,by omega,by omega,by omega,by omega,by omega,h⟩;repeat' (with_reducible first|refine lf ?_|apply And.intro)
 all_goals
  (first|refine VIF.t ?_|refine VIF.f ?_)
  refine Aw ?_;refine TOG [(7,some 7),(68,some 68),(76,some 76),(83,some 83)] [(0,plA l),(1,formsA F),(2,setsA tabs),(7,.pt 7 0 0),(9,setA z),(12,.rf 68 0 (l.length+1)),(13,.rf 76 0 (l.length+1)),(14,.rf 83 0 (l.length+1))] [(7,⟨6,[p.c]⟩),(68,plO (l++[lastA (l.length-1) p])),(76,plO (l++[lastB (l.length-1)])),(83,plO (l++[lastC (l.length-1)]))] [7,68,76,83] rfl ?_ ?_
  ·refine D6 ?_;refine ⟨id,.cons ⟨rfl,rfl,rfl,rfl,rfl,rfl,trivial⟩ .nil,⟨rfl,plO_snoc ?_⟩,⟨rfl,plO_snoc ?_⟩,rfl,plO_snoc ?_⟩
   all_goals
    first|((simp -implicitDefEqProofs only[go_sem,PN.c,lastA,lastB,lastC,pr0,intsL,iA];repeat (refine GO ?_;simp -implicitDefEqProofs only[go_sem,PN.c,lastA,lastB,lastC,pr0,intsL,iA]));done)|(simp[wk.wks,wk,PN.c,lastA,lastB,lastC,pr0,intsL,iA];done)|trace_state
  refine TO [] [(0,plA l),(1,formsA F),(2,setsA tabs),(7,.ro p.c 0),(9,setA z),(12,plA (l++[lastA (l.length-1) p])),(13,plA (l++[lastB (l.length-1)])),(14,plA (l++[lastC (l.length-1)]))] [] [] rfl ?_ ?_
  ·refine D6 ?_;exact ⟨id,⟨by decide,_,rfl,by simp[Ob.leafy,AV.leaf,iA],rfl⟩,⟨by decide,_,rfl,plO_leafy _,rfl,by rw[List.take_of_length_le (by simp[plO])];rfl⟩,⟨by decide,_,rfl,plO_leafy _,rfl,by rw[List.take_of_length_le (by simp[plO])];rfl⟩,⟨by decide,_,rfl,plO_leafy _,rfl,by rw[List.take_of_length_le (by simp[plO])];rfl⟩⟩
  refine Be ?_;refine .pure _ (show Spec0 Tryz.prog 47 [plA l,formsA F] _ from p47 F l hP.sz) rfl λq hq _=>?_;subst hq;rw[if_pos e0];obtain ⟨n1,n2,n3,n4,n5⟩:=last_in e0;refine Bw ?_;repeat ((first|refine VIF.t ?_|refine VIF.f ?_);simp -implicitDefEqProofs only[go_sem,iA,ndA];repeat (refine GO ?_;simp -implicitDefEqProofs only[go_sem,iA,ndA]))
  refine VIF.ff (decide_eq_false (by omega)) ?_;(simp -implicitDefEqProofs only[go_sem,iA,n2,w0];repeat (refine GO ?_;simp -implicitDefEqProofs only[go_sem,iA,n2,w0]));refine EL.map n1 ?_;rw[n3];refine Bl ?_;have hza:=last_sz (lastA (l.length-1) p) hz g4 (by simp[lastA]) rfl rfl g6;have hzb:=last_sz (lastB (l.length-1)) hz g4 (by simp[lastB]) rfl rfl g6;have hzc:=last_sz (lastC (l.length-1)) hz g4 (by simp[lastC]) rfl rfl g6;have pa:planE F (l++[lastA (l.length-1) p])=predE p (lastN F l).types:=by rw[last_planE _ e0 g6];simp only[lookE,lastA,filtE,n4,n5];rfl
  have pb:planE F (l++[lastB (l.length-1)])=if 1125899906842624-(lastN F l).w<(lastN F l).w then 11 else 0:=by rw[last_planE _ e0 g6];simp only[lookE,lastB,bothE,n4,n5];simp
  have pc:planE F (l++[lastC (l.length-1)])=0:=by rw[last_planE _ e0 g6];simp only[lookE,lastC,distE,n4];simp
  refine .pure _ (show Spec0 Tryz.prog 26 [plA (l++[lastA (l.length-1) p]),formsA F,setsA tabs] _ from d26 F _ tabs 40 hza) rfl λq hq _=>?_;obtain ⟨xa,ea,rfl,hqa⟩:=hq;(simp -implicitDefEqProofs only[go_sem,Pr.c,iA];repeat (refine GO ?_;simp -implicitDefEqProofs only[go_sem,Pr.c,iA]));refine .pure _ (show Spec0 Tryz.prog 40 [setA z,.ag p.c] _ from Spec1.setE (c51 z p (by omega) (λt ht=>by have:=hO.rows t ht;omega))) rfl λq hq _=>?_;obtain ⟨w,h,rfl,hq⟩:=hq;have hq:w=(z.filter λt=>holdsP p t.row)/\h=0:=by
   rcases hq with ⟨h,_⟩|⟨_,h,h2⟩
   ·exact absurd hO.nds.good h
   ·exact ⟨h,h2⟩
  obtain ⟨rfl,rfl⟩:=hq;refine Ab ?_;refine .pure _ (show Spec0 Tryz.prog 48 [.ag p.c,intsL (lastN F l).types] _ from p48 p (lastN F l).types (by have:=hO.ndb.tl;omega)) rfl λq hq _=>?_;subst hq;refine Ab ?_;refine VIF.split (λk1=>?_) (λk1=>?_)
  ·have k1:predE p (lastN F l).types=0:=(by simpa using k1);have hRa:RightP F (l++[lastA (l.length-1) p]) tabs:=⟨pa.trans k1,hR.2⟩;obtain ⟨rfl,hOa⟩:=hqa.out hza hRa;obtain ⟨S,hN,hS⟩:=last_node e0 hO hOa;have hN:xa=z.filter λt=>holdsP p t.row:=by
    simp only[NodeR,lastA,show ¬((2:Int)=1) by decide,if_true,if_false] at hN;rw[hS] at hN;exact hN
   subst hN;have hfl:(z.filter λt=>holdsP p t.row).length<=z.length:=List.length_filter_le _ _;generalize (z.filter λt=>holdsP p t.row)=y at *;refine Ab ?_;refine Al ?_;refine .pure _ (show Spec0 Tryz.prog 30 [setA y,setA y] _ from s18 y y (by omega) (by omega) (λt ht=>by have:=hOa.rows t ht;omega)) rfl λq hq _=>?_;obtain ⟨q,rfl,hb⟩:=hq;have hb:q=true:=hb.2 rfl;subst hb;refine Ac ?_;refine Al ?_;refine .pure _ (show Spec0 Tryz.prog 26 [plA (l++[lastB (l.length-1)]),formsA F,setsA tabs] _ from d26 F _ tabs 40 hzb) rfl λq hq _=>?_;obtain ⟨y2,e2,rfl,hqb⟩:=hq;rcases last_min e0 hR hO hzb pb hqb with ⟨rfl,rfl⟩|rfl
   all_goals
    refine Ab ?_;refine C4 ?_;refine .pure _ (show Spec0 Tryz.prog 26 [plA (l++[lastC (l.length-1)]),formsA F,setsA tabs] _ from d26 F _ tabs 40 hzc) rfl λq hq _=>?_;obtain ⟨d,e3,rfl,hqc⟩:=hq;obtain ⟨rfl,hOc⟩:=hqc.out hzc ⟨pc,hR.2⟩;obtain ⟨S,hN,hS⟩:=last_node e0 hO hOc;have hN:=last_dist hN hS;have hd:=dist_fact hO.nds.made hN;have hdl:=hOc.len;refine Ab ?_;refine Al ?_;refine LOOP.mk (ι:={i:Nat//i<=d.length}) (λp=>mkS [(9,setA z),(23,setA d),(24,iA p.1)] [] []) (λp=>d.length-p.1) ⟨0,Nat.zero_le _⟩ [] rfl rfl ?_ (λp=>?_)
    ·refine Ao ?_;exact ⟨id,rfl⟩
    obtain ⟨i,hi⟩:=p;refine Ao ?_;refine VIF.split (λh1=>?_) (λh1=>?_)
    ·have h1:i<d.length:=(by simpa using h1);have w1:=wrap_add1 (show i<4611686018427387904 by omega);have hdi:=hd _ (List.getElem_mem h1);refine Aa ?_;refine EL.map h1 ?_;refine A5 ?_;refine Al ?_;refine EL.map h1 ?_;refine Ax ?_;refine .pure _ (show Spec0 Tryz.prog 49 [setA z,rowA d[i].row] _ from s15 z d[i].row (λt ht=>by have:=hO.rows t ht;omega) (by omega)) rfl λq hq _=>?_;subst hq;refine Ab ?_;refine Ee ?_;refine BACK.mk ⟨i+1,by omega⟩ [] rfl rfl (by show d.length-(i+1)<d.length-i;omega) ?_;refine B4 ?_;first|exact id|exact ⟨id,rfl⟩
    ·refine Aa ?_;refine .pure _ r34 rfl λq hq _=>?_;subst hq;exact Am
  ·have k1:predE p (lastN F l).types≠0:=(by simpa using k1);have hea:ea≠0:=λh=>by
    have:=(hqa.zero h).1;rw[pa] at this;exact k1 this
   refine Aa ?_;refine Al ?_;refine .pure _ (show Spec0 Tryz.prog 26 [plA (l++[lastB (l.length-1)]),formsA F,setsA tabs] _ from d26 F _ tabs 40 hzb) rfl λq hq _=>?_;obtain ⟨y2,e2,rfl,hqb⟩:=hq;rcases last_min e0 hR hO hzb pb hqb with ⟨rfl,rfl⟩|rfl
   all_goals
    refine Ab ?_;refine C4 ?_;refine .pure _ (show Spec0 Tryz.prog 26 [plA (l++[lastC (l.length-1)]),formsA F,setsA tabs] _ from d26 F _ tabs 40 hzc) rfl λq hq _=>?_;obtain ⟨d,e3,rfl,hqc⟩:=hq;obtain ⟨rfl,hOc⟩:=hqc.out hzc ⟨pc,hR.2⟩;obtain ⟨S,hN,hS⟩:=last_node e0 hO hOc;have hN:=last_dist hN hS;have hd:=dist_fact hO.nds.made hN;have hdl:=hOc.len;refine Ab ?_;refine Al ?_;refine LOOP.mk (ι:={i:Nat//i<=d.length}) (λp=>mkS [(9,setA z),(23,setA d),(24,iA p.1)] [] []) (λp=>d.length-p.1) ⟨0,Nat.zero_le _⟩ [] rfl rfl ?_ (λp=>?_)
    ·refine Ao ?_;exact ⟨id,rfl⟩
    obtain ⟨i,hi⟩:=p;refine Ao ?_;refine VIF.split (λh1=>?_) (λh1=>?_)
    ·have h1:i<d.length:=(by simpa using h1);have w1:=wrap_add1 (show i<4611686018427387904 by omega);have hdi:=hd _ (List.getElem_mem h1);refine Aa ?_;refine EL.map h1 ?_;refine A5 ?_;refine Al ?_;refine EL.map h1 ?_;refine Ax ?_;refine .pure _ (show Spec0 Tryz.prog 49 [setA z,rowA d[i].row] _ from s15 z d[i].row (λt ht=>by have:=hO.rows t ht;omega) (by omega)) rfl λq hq _=>?_;subst hq;refine Ab ?_;refine Ee ?_;refine BACK.mk ⟨i+1,by omega⟩ [] rfl rfl (by show d.length-(i+1)<d.length-i;omega) ?_;refine B4 ?_;first|exact id|exact ⟨id,rfl⟩
    ·refine Aa ?_;refine .pure _ r34 rfl λq hq _=>?_;subst hq;exact Am
end Yt
namespace Yt
open Go Go.Vc
theorem Gd {A B:Prop} (k:B) (h:Wr B->A:=by intro k;(simp -implicitDefEqProofs only[go_sem,formsA,iA,plA,setA,setsA];repeat (refine GO ?_;simp -implicitDefEqProofs only[go_sem,formsA,iA,plA,setA,setsA]));exact k.1):A:=h ⟨k⟩
theorem Ge {A B:Prop} (k:B) (h:Wr B->A:=by intro k;(simp -implicitDefEqProofs only[go_sem,bA,formsA,iA,setA,setsA];repeat (refine GO ?_;simp -implicitDefEqProofs only[go_sem,bA,formsA,iA,setA,setsA]));exact k.1):A:=h ⟨k⟩
theorem Gf {A B:Prop} (k:B) (h:Wr B->A:=by intro k;(simp -implicitDefEqProofs only[go_sem,PN.c,iA,scanP]);exact k.1):A:=h ⟨k⟩
theorem Gg {A B:Prop} (k:B) (h:Wr B->A:=by intro k;(simp -implicitDefEqProofs only[go_sem,formsA,iA,plA,setA,setsA]);exact k.1):A:=h ⟨k⟩
theorem Gh {A B:Prop} (k:B) (h:Wr B->A:=by intro k;(simp -implicitDefEqProofs only[go_sem,bA,formsA,iA,plA,setA,setsA];repeat (refine GO ?_;simp -implicitDefEqProofs only[go_sem,bA,formsA,iA,plA,setA,setsA]));exact k.1):A:=h ⟨k⟩
end Yt
namespace Yt
open Go Go.Vc Go.Proofs
def scanP (t:Nat):PN:=⟨1,0,0,t,pr0,[],[],0,0⟩
def grpP:PN:=⟨8,0,0,0,pr0,[],[],1,0⟩
def uniP:PN:=⟨5,0,0,0,pr0,[],[],0,0⟩
def minP:PN:=⟨6,0,0,0,pr0,[],[],0,0⟩
def disP:PN:=⟨7,1,0,0,pr0,[],[],0,0⟩
def joiP:PN:=⟨4,0,0,0,pr0,[0],[0],0,0⟩
def tN (f:List Int):Nd:=⟨4::f,1024,2147483648⟩
theorem look_scan {F:List (List Int)} {D:List Nd} {k:Nat} (hk:k<F.length):lookE F D (scanP k)=0/\lookN F D (scanP k)=tN F[k]:=by simp[lookE,lookN,scanP,scanE,scanN,inC,hk,tN]
theorem plan_snoc {F:List (List Int)} {l:List PN} {x:PN} (h0:planE F l=0) (hl:l.length<12) (hx:lookE F (planN F l) x=0):planE F (l++[x])=0/\planN F (l++[x])=planN F l++[lookN F (planN F l) x]:=by obtain ⟨g1,g2,g3,g4⟩:=planE_ok h0;refine ⟨by rw[last_planE x h0 hl,hx],?_⟩;simp only[planN] at hx ⊢;rw[planD_app F l [x] [] g4];simp[planD,hx]
theorem plan_scan {F:List (List Int)} {k:Nat} (hF:formsE F=0) (hk:k<F.length):planE F [scanP k]=0/\planN F [scanP k]=[tN F[k]]:=by
 obtain ⟨e1,e2⟩:=look_scan (D:=[]) hk;refine ⟨?_,?_⟩
 ·rw[planE,if_neg (by simp[hF]),if_neg (by simp)];simp[planD,e1]
 ·simp[planN,planD,e1,e2]
theorem plan_two {F:List (List Int)} {k:Nat} {x:PN} (hF:formsE F=0) (hk:k<F.length) (hx:lookE F [tN F[k]] x=0):planE F [scanP k,x]=0/\planN F [scanP k,x]=[tN F[k],lookN F [tN F[k]] x]:=by obtain ⟨e1,e2⟩:=plan_scan hF hk;have:=plan_snoc (x:=x) e1 (by simp) (by rw[e2];exact hx);rw[e2] at this;exact this
theorem look_grp (F:List (List Int)) (f:List Int):lookE F [tN f] grpP=0:=by simp[lookE,grpP,grpE,inC,ndAt,tN,aggV];omega
theorem look_uni (F:List (List Int)) (f:List Int):lookE F [tN f] uniP=0/\lookE F [tN f,lookN F [tN f] uniP] disP=0:=by simp[lookE,uniP,disP,bothE,distE,inC,ndAt,tN]
theorem look_min (F:List (List Int)) (f:List Int):lookE F [tN f] minP=0:=by simp[lookE,minP,bothE,inC,ndAt,tN]
theorem look_joi (F:List (List Int)) {f:List Int} (hf:f.length<=4):lookE F [tN f] joiP=0:=by simp[lookE,joiP,joinE,inC,ndAt,tN,outC];omega
theorem sz_of {F:List (List Int)} {l:List PN} {tabs:List (List It)} (hF:F.length<1073741824/\∀f∈F,f.length<1073741824) (ht:heavyT tabs=false) (hr:∀z∈tabs,∀t∈z,t.row.length<4611686018427387904) (hl:l.length<1073741824) (hc:∀x∈l,x.cols.length<1073741824/\x.others.length<1073741824) (hw:wideL 40 l=false):EvSz F l tabs 40:=
 evsz_of ⟨hF.1,hF.2,hl,hc⟩ ht hw hr
theorem wide_two (k:Nat):wideL 40 [scanP k,grpP]=false/\wideL 40 [scanP k,uniP]=false/\wideL 40 [scanP k,minP]=false/\wideL 40 [scanP k,uniP,disP]=false/\wideL 40 [scanP k,joiP]=false:=by simp[wideL,rowsL,rowsN,rowA_,inC,scanP,grpP,uniP,minP,disP,joiP]
theorem setAt_tab {tabs:List (List It)} {k:Nat} (hk:k<tabs.length):setAt tabs (k:Int)=tabs[k]:=setAt_eq (k:=(k:Int)) hk
theorem out_two {F:List (List Int)} {k:Nat} {x:PN} {tabs:List (List It)} {a:List It} (hk:k<tabs.length) (h:Out F [scanP k,x] tabs a):NodeR x [tabs[k]] tabs a:=by
 obtain ⟨S,hS,hs,rfl⟩:=h.ran;have hl:=hS.len
 match S,hl with
 | [s0,s1],_=>
   have n0:=hS.nodes 0 (by simp) (by simp);have n1:=hS.nodes 1 (by simp) (by simp);simp only[NodeR,scanP,List.getElem_cons_zero,if_true,setAt_tab hk] at n0;subst n0;exact n1
theorem out_three {F:List (List Int)} {k:Nat} {x y:PN} {tabs:List (List It)} {a:List It} (hk:k<tabs.length) (h:Out F [scanP k,x,y] tabs a):∃b,NodeR x [tabs[k]] tabs b/\NodeR y [tabs[k],b] tabs a:=by
 obtain ⟨S,hS,hs,rfl⟩:=h.ran;have hl:=hS.len
 match S,hl with
 | [s0,s1,s2],_=>
   have n0:=hS.nodes 0 (by simp) (by simp);have n1:=hS.nodes 1 (by simp) (by simp);have n2:=hS.nodes 2 (by simp) (by simp);simp only[NodeR,scanP,List.getElem_cons_zero,if_true,setAt_tab hk] at n0;subst n0;exact ⟨s1,n1,n2⟩
theorem nr_grp {z a:List It} {tabs:List (List It)} (h:NodeR grpP [z] tabs a):GroupR z [] 1 0 a 0:=by simpa [NodeR,grpP,setAt] using h
theorem nr_uni {z a:List It} {tabs:List (List It)} (h:NodeR uniP [z] tabs a):AddR z z a 0:=by simpa [NodeR,uniP,setAt] using h
theorem nr_min {z a:List It} {tabs:List (List It)} (h:NodeR minP [z] tabs a):MinR z z a 0:=by simpa [NodeR,minP,setAt] using h
theorem nr_joi {z a:List It} {tabs:List (List It)} (h:NodeR joiP [z] tabs a):JoinR z z [0] [0] a 0:=by simpa [NodeR,joiP,setAt] using h
theorem nr_dis {z b a:List It} {tabs:List (List It)} (h:NodeR disP [z,b] tabs a):a=distL b:=by simpa [NodeR,disP,setAt] using h
/-! A table's rows. -/
theorem tab_row {f:List Int} {z:List It} (h:tabE f z) {t:It} (ht:t∈z):t.w=1/\t.row.length=f.length+1/\(getV t.row 0).k=4:=by have h3:=h.2.2;rw[List.any_eq_false] at h3;have:=h3 t ht;simp only[wrongI,Bool.or_eq_true,Bool.not_eq_true',decide_eq_false_iff_not,not_or,Decidable.not_not,Bool.not_eq_false] at this;exact ⟨this.1.1.1,by have:=fitR_len this.1.1.2;simpa using this,this.1.2⟩
theorem tab_made {f:List Int} {z:List It} (h:tabE f z):Made z:=(good_made.1 h.1).1
def twoI (t:It):It:=⟨t.row,2⟩
theorem tot_twoI {z:List It} (hz:∀t∈z,t.w=1) (r:List V):tot r (z.map twoI)=tot r z+tot r z:=by
 induction z with
 | nil=>simp[tot]
 | cons t z ih=>
   have h1:=ih λu hu=>hz u (by simp[hu]);have h2:=hz t (by simp);simp only[List.map_cons,tot,twoI] at h1 ⊢;split<;>omega
theorem made_twoI {z:List It} (hz:Made z):Made (z.map twoI):=by
 refine ⟨?_,?_⟩
 ·rw[List.pairwise_map];exact hz.pw
 ·intro t ht;obtain ⟨u,_,rfl⟩:=List.mem_map.1 ht;exact ⟨by simp[twoI],by simp[twoI,okW,inB]⟩
theorem cnt_uni {f:List Int} {z b:List It} (h:tabE f z) (hb:AddR z z b 0):b=z.map twoI:=by
 rcases hb with ⟨g,_⟩|⟨_,_,hm⟩
 ·exact absurd ⟨h.1,h.1⟩ g
 rcases hm with ⟨_,_,e⟩|⟨_,_,e,_⟩|⟨_,_,h3,h4,_⟩
 ·cases e
 ·cases e
 ·exact made_eq h3 (made_twoI (tab_made h)) λr=>by rw[h4,tot_append,tot_twoI λt ht=>(tab_row h ht).1]
theorem abs_two {z:List It}:absS (z.map twoI)=2*z.length:=by
 induction z with
 | nil=>rfl
 | cons t z ih=>simp only[List.map_cons,absS,ih,twoI,List.length_cons];omega
theorem cnt_min {f:List Int} {z c:List It} (h:tabE f z) (hb:MinR z z c 0):c=[]:=by
 rcases hb with ⟨g,_⟩|⟨_,_,hm⟩
 ·exact absurd ⟨h.1,h.1⟩ g
 rcases hm with ⟨_,_,e⟩|⟨_,_,e,_⟩|⟨_,_,h3,h4,_⟩
 ·cases e
 ·cases e
 ·exact made_eq h3 ⟨.nil,by simp⟩ λr=>by rw[h4,tot_append,tot_neg];simp[tot];omega
theorem cnt_dist {f:List Int} {z:List It} (h:tabE f z):distL (z.map twoI)=z:=by
 have h1:∀t∈z,t.w=1:=λt ht=>(tab_row h ht).1;clear h
 induction z with
 | nil=>rfl
 | cons t z ih=>
   have ih:=ih λu hu=>h1 u (by simp[hu]);have h2:=h1 t (by simp);simp only[distL] at ih;simp only[distL,List.map_cons,List.filter_cons,twoI,show ¬((2:Int)<0) by decide,decide_false,Bool.not_false,if_true];rw[ih];congr 1;cases t;simp only[oneI] at h2 ⊢;rw[h2]
theorem sum_ones:∀{z:List It},(∀t∈z,t.w=1)->(z.map (sumT 1 0)).sum=z.length
 | [],_=>rfl
 | t::z,h=>by
   have h1:=sum_ones (z:=z) λu hu=>h u (by simp[hu]);have h2:=h t (by simp);simp only[List.map_cons,List.sum_cons,h1,List.length_cons,sumT,show ¬((1:Int)=2) by decide,if_false,h2];omega
theorem cnt_grp {f:List Int} {z a:List It} (h:tabE f z) (ha:GroupR z [] 1 0 a 0):(z=[]->a=[])/\(z≠[]->a=[⟨[⟨3,(z.length:Int),ByteArray.empty⟩],1⟩]):=by
 have h1:∀t∈z,t.w=1:=λt ht=>(tab_row h ht).1;rcases ha with ⟨_,_,e,_⟩|⟨_,gs,hg,_,hq⟩
 ·omega
 have e:gs=allG z:=hg.uniq (gpi_nil λt ht=>by rw[h1 t ht];decide);have e2:z.filter posI=z:=List.filter_eq_self.2 λt ht=>by simp[posI,h1 t ht]
 rw[allG,e2] at e;subst e;rcases hq with ⟨_,_,e⟩|⟨_,hm⟩
 ·cases e
 refine ⟨λhz=>?_,λhz=>?_⟩
 ·subst hz;simp only[if_true,List.map_nil] at hm;have:=(makeR_rows hm).1;simpa using this
 ·rw[if_neg hz] at hm;have hs:sumF 1 0 z 0=some (z.length:Int):=by
   have hl:=h.2.1;have ha:=abs_ones z h1;rw[sumF_abs z 0 (by rw[absT_count,ha];omega),sum_ones h1];simp
  have e3:gItem 1 0 ⟨[],z⟩=⟨[⟨3,(z.length:Int),ByteArray.empty⟩],1⟩:=(by simp[gItem,gval,hs]);simp only[List.map_cons,List.map_nil,e3] at hm;rcases hm with ⟨_,_,e⟩|⟨_,_,e,_⟩|⟨_,_,h3,h4,_⟩
  ·cases e
  ·cases e
  ·exact made_eq h3 ⟨List.pairwise_singleton _ _,λt ht=>by rw[List.mem_singleton.1 ht];exact ⟨by simp,by simp[okW,inB]⟩⟩ h4
/-! Joined with itself by its keys. -/
theorem flat_len {α β:Type} (f:α->List β):∀(l:List α),(∀x∈l,1<=(f x).length)->l.length<=(l.flatMap f).length/\((l.flatMap f).length=l.length ↔ ∀x∈l,(f x).length=1)
 | [],_=>by simp
 | x::l,h=>by
   have h1:=flat_len f l λy hy=>h y (by simp[hy]);have h2:=h x (by simp);simp only[List.flatMap_cons,List.length_append,List.length_cons,List.mem_cons,forall_eq_or_imp];refine ⟨by omega,λe=>⟨by omega,h1.2.1 (by omega)⟩,λ⟨e1,e2⟩=>?_⟩;have:=h1.2.2 e2;omega
theorem row_cons {r:List V} {n:Nat} (h:r.length=n+1):∃s,r=getV r 0::s:=by
 cases r with
 | nil=>simp at h
 | cons v s=>exact ⟨s,rfl⟩
theorem key_meet {f:List Int} {z:List It} (h:tabE f z) {x y:It} (hx:x∈z) (hy:y∈z):meetP x.row y.row [0] [0]=decide (cmpV (getV x.row 0) (getV y.row 0)=0):=by obtain ⟨_,lx,kx⟩:=tab_row h hx;obtain ⟨_,ly,ky⟩:=tab_row h hy;simp[meetP,inC,lx,ly,kx,ky]
theorem key_le {f:List Int} {z:List It} (h:tabE f z) {x y:It} (hx:x∈z) (hy:y∈z) (hc:cI x y<0):cmpV (getV x.row 0) (getV y.row 0)<=0:=by obtain ⟨_,lx,_⟩:=tab_row h hx;obtain ⟨_,ly,_⟩:=tab_row h hy;obtain ⟨s,ex⟩:=row_cons lx;obtain ⟨s',ey⟩:=row_cons ly;rw[cI,ex,ey,cmpR] at hc;split at hc<;>omega
theorem filter_one {z:List It} {p:It->Bool} {x:It} (hw:z.Pairwise λa b=>a.row≠b.row) (hx:x∈z) (hp:p x=true):1<=(z.filter p).length/\((z.filter p).length=1 ↔ ∀y∈z,p y=true->y=x):=by
 have hm:x∈z.filter p:=List.mem_filter.2 ⟨hx,hp⟩;have hw2:=hw.filter p;have hall:∀y,y∈z.filter p ↔ y∈z/\p y=true:=λy=>List.mem_filter;generalize z.filter p=L at *
 match L with
 | []=>cases hm
 | [a]=>
   refine ⟨Nat.le_refl _,λ_ y hy hpy=>?_,λ_=>rfl⟩;have:=(hall y).2 ⟨hy,hpy⟩;simp at this hm;rw[this,hm]
 | a::b::L'=>
   refine ⟨by simp,λe=>by simp at e,λg=>?_⟩;have ea:=g a ((hall a).1 (by simp)).1 ((hall a).1 (by simp)).2;have eb:=g b ((hall b).1 (by simp)).1 ((hall b).1 (by simp)).2;have:=(List.pairwise_cons.1 hw2).1 b (by simp);rw[ea,eb] at this;exact absurd rfl this
theorem made_ne {z:List It} (h:Made z):z.Pairwise λa b=>a.row≠b.row:=h.pw.imp λ{a b} hab e=>by have:=cI_eq.2 e;omega
def keysOk (z:List It) (i:Nat):Prop:=∀k (h:k<z.length) (h':k-1<z.length),1<=k->k<i->eqV (getV z[k].row 0) (getV z[k-1].row 0)=false
theorem eqV_cmp (a b:V):eqV a b=decide (cmpV a b=0):=by
 by_cases h:cmpV a b=0
 ·rw[lin_cmpV.eq _ _ h];simp[eqV,lin_cmpV.self]
 ·have:¬(a.k=b.k/\a.i=b.i/\a.s=b.s):=λ⟨h1,h2,h3⟩=>h (by
   have:a=b:=by cases a;cases b;simp_all
   rw[this];exact lin_cmpV.self b)
  rw[decide_eq_false h];cases hE:eqV a b with
  | false=>rfl
  | true=>
    simp only[eqV,Bool.and_eq_true,decide_eq_true_eq] at hE;exact absurd ⟨hE.1.1,hE.1.2,hE.2⟩ this
theorem keys_all {f:List Int} {z:List It} (h:tabE f z):keysOk z z.length ↔ ∀x∈z,∀y∈z,meetP x.row y.row [0] [0]=true->y=x:=by
 have hm:=tab_made h;have hp:=List.pairwise_iff_getElem.1 hm.pw;constructor
 ·intro hk;have up:∀(d i:Nat) (h1:i<z.length) (h2:i+(d+1)<z.length),cmpV (getV z[i].row 0) (getV z[i+(d+1)].row 0)<0:=by
   have one:∀(i:Nat) (h1:i<z.length) (h2:i+1<z.length),cmpV (getV z[i].row 0) (getV z[i+1].row 0)<0:=λi h1 h2=>by have g1:=key_le h (List.getElem_mem h1) (List.getElem_mem h2) (hp i (i+1) h1 h2 (by omega));have g2:=hk (i+1) h2 (by omega) (by omega) h2;simp only[Nat.add_sub_cancel,eqV_cmp,decide_eq_false_iff_not] at g2;have:=lin_cmpV.neg (getV z[i].row 0) (getV z[i+1].row 0);omega
   intro d
   induction d with
   | zero=>exact one
   | succ d ih=>exact λi h1 h2=>lin_cmpV.trans _ _ _ (ih i h1 (by omega)) (one (i+(d+1)) (by omega) h2)
  intro x hx y hy hxy;rw[key_meet h hx hy,decide_eq_true_eq] at hxy;obtain ⟨i,hi,rfl⟩:=List.mem_iff_getElem.1 hx;obtain ⟨j,hj,rfl⟩:=List.mem_iff_getElem.1 hy;by_cases e1:i<j
  ·have:=up (j-i-1) i hi (by omega);simp only[show i+(j-i-1+1)=j by omega] at this;omega
  ·by_cases e2:j<i
   ·have:=up (i-j-1) j hj (by omega);simp only[show j+(i-j-1+1)=i by omega] at this;have:=lin_cmpV.neg (getV z[i].row 0) (getV z[j].row 0);omega
   ·have:i=j:=(by omega);subst this;rfl
 ·intro hall k hk hk' h1 _;cases he:eqV (getV z[k].row 0) (getV z[k-1].row 0) with
  | false=>rfl
  | true=>
    rw[eqV_cmp,decide_eq_true_eq] at he;have:=hall _ (List.getElem_mem hk) _ (List.getElem_mem hk') (by rw[key_meet h (List.getElem_mem hk) (List.getElem_mem hk')];exact decide_eq_true he);have g:=hp (k-1) k hk' hk (by omega);rw[this] at g;have:=cI_eq (a:=z[k]) (b:=z[k]);have:=this.2 rfl;omega
theorem cnt_join {f:List Int} {z j:List It} (h:tabE f z) (hj:JoinR z z [0] [0] j 0):z.length<=j.length/\(j.length=z.length ↔ keysOk z z.length):=by
 have hm:=tab_made h;have hne:=made_ne hm;have hmk:MakeR ((pairL z z [0] [0]).map joinI) j 0:=by
  rcases hj with ⟨_,_,e⟩|⟨_,_,_,_,e⟩|⟨_,_,_,_,_,_,e⟩|⟨_,_,_,_,_,hj⟩
  ·cases e
  ·cases e
  ·cases e
  ·exact hj
 have hlen:j.length=(pairL z z [0] [0]).length:=by
  rcases hmk with ⟨_,_,e⟩|⟨_,_,e,_⟩|⟨_,_,h3,h4,_⟩
  ·cases e
  ·cases e
  rw[made_count h3 ?_ ?_ h4,List.length_map]
  ·rw[List.pairwise_map,pairL,List.pairwise_flatMap];have ne2:∀{x y x' y':It},x∈z->x'∈z->(joinI (x,y)).row=(joinI (x',y')).row->x.row=x'.row/\y.row=y'.row:=λ{x y x' y'} hx hx' e=>by
    have l1:=(tab_row h hx).2.1;have l2:=(tab_row h hx').2.1;exact List.append_inj e (by omega)
   refine ⟨λx hx=>?_,hne.imp_of_mem λ{x x'} hx hx' hxx p hp q hq e=>?_⟩
   ·rw[List.pairwise_map];exact (hne.filter _).imp λ{y y'} hyy e=>hyy (ne2 hx hx e).2
   ·obtain ⟨y,_,rfl⟩:=List.mem_map.1 hp;obtain ⟨y',_,rfl⟩:=List.mem_map.1 hq;exact hxx (ne2 hx hx' e).1
  ·intro t ht;obtain ⟨p,hp,rfl⟩:=List.mem_map.1 ht;obtain ⟨h1,h2,_⟩:=pairL_mem hp;simp[joinI,(tab_row h h1).1,(tab_row h h2).1]
 have hself:∀x∈z,meetP x.row x.row [0] [0]=true:=λx hx=>by rw[key_meet h hx hx];simp[lin_cmpV.self]
 obtain ⟨g1,g2⟩:=flat_len (λx=>(z.filter λy=>meetP x.row y.row [0] [0]).map λy=>(x,y)) z λx hx=>by rw[List.length_map];exact (filter_one hne hx (hself x hx)).1
 rw[hlen,keys_all h];refine ⟨g1,g2.trans ⟨λg x hx=>?_,λg x hx=>?_⟩⟩
 ·have:=g x hx;rw[List.length_map] at this;exact (filter_one hne hx (hself x hx)).2.1 this
 ·rw[List.length_map];exact (filter_one hne hx (hself x hx)).2.2 (g x hx)
def nlc (x:PN):List AV:=[iA x.kind,iA x.a,iA x.b,iA x.table,iA x.pred.kind,iA x.pred.col,iA x.pred.other,iA x.pred.val.k,iA x.pred.val.i,.pr (.string x.pred.val.s),.nl,.nl,iA x.agg,iA x.col]
theorem lent_nlc {objs:Nat->Option Ob} {x:PN} (h1:x.cols=[]) (h2:x.others=[]):∀(j:Nat) a a',(nlc x)[j]?=some a->x.c[j]?=some a'->Lent objs a a':=by
 intro j a a' h h';simp only[nlc,PN.c,h1,h2] at h h'
 match j with
 | 0|1|2|3|4|5|6|7|8|9|12|13=>simp at h h';subst h;subst h';exact .same rfl
 | 10|11=>simp at h h';subst h;subst h';exact .nl
 | n+14=>simp at h
theorem lent_one {objs:Nat->Option Ob} {id:Nat} {x:PN} (h1:x.cols=[]) (h2:x.others=[]) (ho:objs id=some ⟨14,[nlc x]⟩):Lent objs (.rf id 0 1) (plA [x]):=by
 have e:plA [x]=.im 14 [x.c]:=rfl;rw[e];refine .rf (o:=⟨14,[nlc x]⟩) (es:=[nlc x]) ho rfl rfl (λy hy=>by simp at hy;subst hy;rfl) (λi j a' h=>?_) λi j a a' g g'=>?_
 ·simp only[cellAt] at h
  match i with
  | 0=>exact pn_leaf x a' (List.mem_of_getElem? (show x.c[j]?=some a' from h))
  | n+1=>simp at h
 ·simp only[cellAt] at g g'
  match i with
  | 0=>exact lent_nlc h1 h2 j a a' g g'
  | n+1=>simp at g
theorem ev_ok {F:List (List Int)} {l:List PN} {tabs:List (List It)} (hz:EvSz F l tabs 40) (hR:RightP F l tabs):Spec0 Tryz.prog 26 [plA l,formsA F,setsA tabs] (λr=>∃a,r=.tu [setA a,iA 0]/\Out F l tabs a):=
 (d26 F l tabs 40 hz).mono λr O' ⟨⟨hq,hnn⟩,hO'⟩=>⟨⟨by obtain ⟨a,e,rfl,hq⟩:=hq;obtain ⟨rfl,hO⟩:=hq.out hz hR;exact ⟨a,rfl,hO⟩,hnn⟩,hO'⟩
theorem l10 (F:List (List Int)) (tabs:List (List It)) (k:Int) (hFl:F.length<=1048576) (hFf:∀f∈F,f.length<=1048576) (hT:LawT tabs):Spec0 Tryz.prog 10 [formsA F,setsA tabs,iA k] (·=bA true):=by
 have hf:F.length<4611686018427387904:=by omega
 refine spec0_of_vc tabOk elems og10 Tryz.func10 rfl (rl:=[.tmp 6]) rfl (by kernel_rfl) rfl ?_;refine Ex ?_;refine .pure _ (show Spec0 Tryz.prog 20 [formsA F] _ from h20 F hf) rfl λq hq _=>?_;subst hq;refine Ac ?_;refine VIF.split (λ_=>?_) (λg2=>?_)
 ·exact Am
 refine Aa ?_;refine .pure _ (show Spec0 Tryz.prog 21 [setsA tabs] _ from h21 tabs hT.lt hT.zz hT.rr) rfl λq hq _=>?_;subst hq;refine Ac ?_;refine VIF.split (λ_=>?_) (λg3=>?_)
 ·exact Am
 have g1:heavyF F=false:=by simpa using ‹heavyF F=false›
 have hps:PlSz F [scanP 0]:=⟨by omega,λf h=>by have:=hFf f h;omega,by simp,by simp[scanP]⟩;simp -implicitDefEqProofs only[go_sem,iA];refine .lendR (args':=[plA [scanP 0],formsA F,setsA tabs]) (r35 F [scanP 0] tabs hps hT.lt hT.both) ⟨lent_one rfl rfl rfl,.same rfl,.same rfl,trivial⟩ (by rintro _ ⟨e,rfl,_⟩;rfl) λq hq=>?_;obtain ⟨ok,rfl,hok⟩:=hq;refine Ac ?_;refine VIF.split (λ_=>?_) (λg5=>?_)
 ·exact Am
 have hR:RightP F [scanP 0] tabs:=hok.1 (by simpa using g5);refine Aw ?_;refine TO [] [(0,formsA F),(1,setsA tabs),(2,iA k)] [] [] rfl ?_ ?_
 ·refine Ex ?_;exact id
 obtain ⟨hF,_⟩:=planE_ok hR.1;obtain ⟨kk,hkk,ek,ek0⟩:=mod_ok k (formsE_pos hF) (by omega);have hkt:kk<tabs.length:=by rw[hR.2.1];exact hkk
 simp -implicitDefEqProofs only[go_sem,ek,formsA,iA,setsA];refine ⟨ek0,?_⟩;simp -implicitDefEqProofs only[go_sem,ek];refine EL.map hkt ?_;simp -implicitDefEqProofs only[go_sem,ek];have hsz:=λ(l:List PN) (h1:l.length<1073741824) (h2:∀x∈l,x.cols.length<1073741824/\x.others.length<1073741824) (h3:wideL 40 l=false)=>sz_of (F:=F) ⟨by omega,λf h=>by have:=hFf f h;omega⟩ g3 hT.rr h1 h2 h3;have tk:tabE F[kk] tabs[kk]:=hR.2.2 kk hkk hkt;obtain ⟨w1,w2,w3,w4,w5⟩:=wide_two kk;have p1:=plan_two hF hkk (look_grp F F[kk]);have p2:=plan_two hF hkk (look_uni F F[kk]).1;have p3:=plan_two hF hkk (look_min F F[kk]);have p4:=plan_snoc (x:=disP) p2.1 (by simp) (by rw[p2.2];exact (look_uni F F[kk]).2);have p5:=plan_two hF hkk (look_joi F (formsE_len hF _ (List.getElem_mem hkk)).2.1);generalize hz:tabs[kk]=z at *;refine TOG [(7,some 7),(50,some 50)] [(0,formsA F),(1,setsA tabs),(7,.pt 7 0 0),(8,setA z),(50,.rf 50 0 2),(51,formsA F),(52,setsA tabs)] [(7,plO [scanP kk]),(50,plO [scanP kk,grpP])] [7,50] rfl ?_ ?_
 ·refine Gd ?_;exact ⟨id,⟨rfl,.cons (by simp[wk.wks,wk,PN.c,scanP,pr0,intsL,iA]) .nil⟩,rfl,.cons (by simp[wk.wks,wk,PN.c,scanP,pr0,intsL,iA]) (.cons (by simp[wk.wks,wk,PN.c,grpP,pr0,intsL,iA]) .nil)⟩
 refine TO [] [(0,formsA F),(1,setsA tabs),(7,.ro (scanP kk).c 0),(8,setA z),(50,plA [scanP kk,grpP]),(51,formsA F),(52,setsA tabs)] [] [] rfl ?_ ?_
 ·refine Gd ?_;exact ⟨id,⟨by decide,_,rfl,plO_leafy _,rfl⟩,by decide,_,rfl,plO_leafy _,rfl,rfl⟩
 refine Gg ?_;refine .pure _ (show Spec0 Tryz.prog 26 [plA [scanP kk,grpP],formsA F,setsA tabs] _ from ev_ok (hsz _ (by simp) (by simp[scanP,grpP]) w1) ⟨p1.1,hR.2⟩) rfl λq hq _=>?_;obtain ⟨a,rfl,hOa⟩:=hq;refine Gf ?_;refine TOG [(59,some 59)] [(0,formsA F),(1,setsA tabs),(7,.ro (scanP kk).c 0),(8,setA z),(9,setA a),(59,.rf 59 0 2),(60,formsA F),(61,setsA tabs),(10,iA 0)] [(59,plO [scanP kk,uniP])] [59] rfl ?_ ?_
 ·refine Gd ?_;exact ⟨id,rfl,rfl,.cons (by simp[wk.wks,wk,PN.c,scanP,pr0,intsL,iA]) (.cons (by simp[wk.wks,wk,PN.c,uniP,minP,disP,pr0,intsL,iA]) .nil)⟩
 refine TO [] [(0,formsA F),(1,setsA tabs),(7,.ro (scanP kk).c 0),(8,setA z),(9,setA a),(59,plA [scanP kk,uniP]),(60,formsA F),(61,setsA tabs),(10,iA 0)] [] [] rfl ?_ ?_
 ·refine Gd ?_;exact ⟨id,by decide,_,rfl,plO_leafy _,rfl,rfl⟩
 refine Gg ?_;refine .pure _ (show Spec0 Tryz.prog 26 [plA [scanP kk,uniP],formsA F,setsA tabs] _ from ev_ok (hsz _ (by simp) (by simp[scanP,uniP,minP,disP]) w2) ⟨p2.1,hR.2⟩) rfl λq hq _=>?_;obtain ⟨b,rfl,hOb⟩:=hq;refine Gf ?_;refine TOG [(68,some 68)] [(0,formsA F),(1,setsA tabs),(7,.ro (scanP kk).c 0),(8,setA z),(9,setA a),(11,setA b),(68,.rf 68 0 2),(69,formsA F),(70,setsA tabs),(10,iA 0),(12,iA 0)] [(68,plO [scanP kk,minP])] [68] rfl ?_ ?_
 ·refine Gd ?_;exact ⟨id,rfl,rfl,.cons (by simp[wk.wks,wk,PN.c,scanP,pr0,intsL,iA]) (.cons (by simp[wk.wks,wk,PN.c,uniP,minP,disP,pr0,intsL,iA]) .nil)⟩
 refine TO [] [(0,formsA F),(1,setsA tabs),(7,.ro (scanP kk).c 0),(8,setA z),(9,setA a),(11,setA b),(68,plA [scanP kk,minP]),(69,formsA F),(70,setsA tabs),(10,iA 0),(12,iA 0)] [] [] rfl ?_ ?_
 ·refine Gd ?_;exact ⟨id,by decide,_,rfl,plO_leafy _,rfl,rfl⟩
 refine Gg ?_;refine .pure _ (show Spec0 Tryz.prog 26 [plA [scanP kk,minP],formsA F,setsA tabs] _ from ev_ok (hsz _ (by simp) (by simp[scanP,uniP,minP,disP]) w3) ⟨p3.1,hR.2⟩) rfl λq hq _=>?_;obtain ⟨c,rfl,hOc⟩:=hq;refine Gf ?_;refine TOG [(78,some 78)] [(0,formsA F),(1,setsA tabs),(7,.ro (scanP kk).c 0),(8,setA z),(9,setA a),(11,setA b),(13,setA c),(78,.rf 78 0 3),(79,formsA F),(80,setsA tabs),(10,iA 0),(12,iA 0),(14,iA 0)] [(78,plO [scanP kk,uniP,disP])] [78] rfl ?_ ?_
 ·refine Gd ?_;exact ⟨id,rfl,rfl,.cons (by simp[wk.wks,wk,PN.c,scanP,pr0,intsL,iA]) (.cons (by simp[wk.wks,wk,PN.c,uniP,minP,disP,pr0,intsL,iA]) (.cons (by simp[wk.wks,wk,PN.c,uniP,minP,disP,pr0,intsL,iA]) .nil))⟩
 refine TO [] [(0,formsA F),(1,setsA tabs),(7,.ro (scanP kk).c 0),(8,setA z),(9,setA a),(11,setA b),(13,setA c),(78,plA [scanP kk,uniP,disP]),(79,formsA F),(80,setsA tabs),(10,iA 0),(12,iA 0),(14,iA 0)] [] [] rfl ?_ ?_
 ·refine Gd ?_;exact ⟨id,by decide,_,rfl,plO_leafy _,rfl,rfl⟩
 refine Gg ?_;refine .pure _ (show Spec0 Tryz.prog 26 [plA [scanP kk,uniP,disP],formsA F,setsA tabs] _ from ev_ok (hsz _ (by simp) (by simp[scanP,uniP,minP,disP]) w4) ⟨p4.1,hR.2⟩) rfl λq hq _=>?_;obtain ⟨d,rfl,hOd⟩:=hq;have ha:=cnt_grp tk (nr_grp (hz▸out_two hkt hOa));have hc:=cnt_min tk (nr_min (hz▸out_two hkt hOc));have hb:=cnt_uni tk (nr_uni (hz▸out_two hkt hOb));obtain ⟨b',hb',hd⟩:=out_three hkt hOd;have hb':=cnt_uni tk (nr_uni (hz▸hb'));have hd:=nr_dis hd;rw[hb',cnt_dist tk] at hd;subst hb hc hd;have hbg:=hOb.nds.good;have hbr:=hOb.rows;have hdr:=hOd.rows;have hab:=abs_two (z:=d);have hzl:=tk.2.1;simp -implicitDefEqProofs only[go_sem,iA,setA];repeat ((first|refine VIF.t ?_|refine VIF.f ?_);simp -implicitDefEqProofs only[go_sem,iA,setA])
 refine .pure _ (show Spec0 Tryz.prog 30 [setA d,setA d] _ from s18 d d (by omega) (by omega) (λt ht=>by have:=hdr t ht;omega)) rfl λq hq _=>?_;obtain ⟨q,rfl,hq⟩:=hq;have hq:q=true:=hq.2 rfl;subst hq;refine Ac ?_;refine Al ?_;have e1:(List.map twoI d).length=d.length:=List.length_map ..;have m2:IntKind.i64.wrap (2*(d.length:Int))=2*(d.length:Int):=by rw[wrap_i64]<;>omega
 simp -implicitDefEqProofs only[go_sem,e1,m2];repeat ((first|refine VIF.t ?_|refine VIF.f ?_);simp -implicitDefEqProofs only[go_sem,e1,iA,m2])
 refine .pure _ (show Spec0 Tryz.prog 50 [setA (d.map twoI)] _ from s21 (d.map twoI) (by rw[e1];omega) (λt ht=>by have:=hbr t ht;omega)) rfl λq hq _=>?_;obtain ⟨n,rfl,hn,_⟩:=hq;have hn:n=2*(d.length:Int):=by rw[hn hbg,hab,topM];omega
 subst hn;(simp -implicitDefEqProofs only[go_sem,iA,m2];repeat (refine GO ?_;simp -implicitDefEqProofs only[go_sem,iA,m2]));repeat ((first|refine VIF.t ?_|refine VIF.f ?_);simp -implicitDefEqProofs only[go_sem,iA,m2];repeat (refine GO ?_;simp -implicitDefEqProofs only[go_sem,iA,m2]))
 have fin:∀{j:List It},JoinR d d [0] [0] j 0->d.length<=j.length/\(j.length=d.length ↔ keysOk d d.length):=λh=>cnt_join tk h;refine VIF.split (λg6=>?_) (λg6=>?_)
 ·have g6:d=[]:=List.length_eq_zero_iff.1 (by simpa using g6);have ha1:=ha.1 g6;subst ha1;refine Ab ?_;refine Al ?_;refine .pure _ r34 rfl λq hq _=>?_;subst hq;exact Am
 have g6:d≠[]:=λe=>by rw[e] at g6;simp at g6
 have g7:1<=d.length:=List.length_pos_iff.2 g6;have ha1:=ha.2 g6;subst ha1;refine Ab ?_;repeat ((first|refine VIF.t ?_|refine VIF.f ?_);simp -implicitDefEqProofs only[go_sem,It.c,V.c,iA,rowA];repeat (refine GO ?_;simp -implicitDefEqProofs only[go_sem,It.c,V.c,iA,rowA]))
 refine ⟨Int.le_refl _,EL.map (show Int.toNat 0<_ from Nat.zero_lt_one) ?_⟩;refine Ax ?_;repeat ((first|refine VIF.t ?_|refine VIF.f ?_);simp -implicitDefEqProofs only[go_sem,It.c,iA,rowA];repeat (refine GO ?_;simp -implicitDefEqProofs only[go_sem,It.c,iA,rowA]))
 refine ⟨Int.le_refl _,EL.map (show Int.toNat 0<_ from Nat.zero_lt_one) ?_⟩;refine Ax ?_;refine ⟨Int.le_refl _,EL.map (show Int.toNat 0<_ from Nat.zero_lt_one) ?_⟩;refine Bb ?_;refine Al ?_;have rowp:∀(i:Nat) (h:i<d.length),Int.toNat 0<d[i].row.length:=λi h=>by have:=(tab_row tk (List.getElem_mem h)).2.1;simp;omega
 have gv:∀(i:Nat) (h:i<d.length),getV d[i].row 0=d[i].row[Int.toNat 0]'(rowp i h):=λi h=>by have:=rowp i h;simp at this;simp[getV,this]
 refine LOOP.mk (ι:={p:Nat×Bool//1<=p.1/\p.1<=d.length/\(p.2=true ↔ keysOk d p.1)}) (λp=>mkS [(0,formsA F),(1,setsA tabs),(7,.ro (scanP kk).c 0),(8,setA d),(17,bA p.1.2),(18,iA p.1.1)] [] []) (λp=>d.length-p.1.1)
  ⟨(1,true),Nat.le_refl _,g7,iff_of_true rfl λk _ _ h1 h2=>by simp only at h2;omega⟩ [] rfl rfl ?_ (λp=>?_)
 ·refine Ge ?_;exact ⟨id,rfl⟩
 obtain ⟨⟨i,b⟩,hi1,hi2,hb2⟩:=p;simp only at hi1 hi2 hb2;refine Ge ?_;refine VIF.split (λh1=>?_) (λh1=>?_)
 ·have h1:i<d.length:=(by simpa using h1);have h1':i-1<d.length:=(by omega);have v1:=wrap_add1 (show i<4611686018427387904 by omega);have v2:=wrap_sub1 hi1 (by omega);refine Aa ?_;refine VIF.split (λh2=>?_) (λh2=>?_)
  ·subst h2;refine Aa ?_;refine EL.map h1 ?_;refine Ff ?_;refine ⟨Int.le_refl _,EL.map (rowp i h1) ?_⟩;(simp -implicitDefEqProofs only[go_sem,V.c,v2];repeat (refine GO ?_;simp -implicitDefEqProofs only[go_sem,V.c,v2]));refine EL.map h1' ?_;refine Ff ?_;refine ⟨Int.le_refl _,EL.map (rowp (i-1) h1') ?_⟩;refine Ah ?_;refine .pure _ (s46 _ _) rfl λq hq _=>?_;subst hq;rw[<- gv i h1,<- gv (i-1) h1'];(simp -implicitDefEqProofs only[go_sem,bA,v1];repeat (refine GO ?_;simp -implicitDefEqProofs only[go_sem,bA,v1]));refine BACK.mk ⟨(i+1,!eqV (getV d[i].row 0) (getV d[i-1].row 0)),by show 1<=i+1;omega,by show i+1<=d.length;omega,?_⟩ [] rfl rfl (by show d.length-(i+1)<d.length-i;omega) ?_
   ·have h3:keysOk d i:=hb2.1 rfl;refine ⟨λh k k1 k2 k3 k4=>?_,λh=>by have:=h i h1 h1' hi1 (by omega);simp[this]⟩;simp only at k4;by_cases e:k=i
    ·subst e;simpa using h
    ·exact h3 k k1 k2 k3 (by omega)
   ·refine Ge ?_;first|exact id|exact ⟨id,rfl⟩
  ·subst h2;(simp -implicitDefEqProofs only[go_sem,v1];repeat (refine GO ?_;simp -implicitDefEqProofs only[go_sem,v1]));refine BACK.mk ⟨(i+1,false),by show 1<=i+1;omega,by show i+1<=d.length;omega,?_⟩ [] rfl rfl (by show d.length-(i+1)<d.length-i;omega) ?_
   ·refine iff_of_false (by simp) λh=>?_;have:=hb2.2 λk k1 k2 k3 k4=>h k k1 k2 k3 (by show k<i+1;omega);cases this
   ·refine Ge ?_;first|exact id|exact ⟨id,rfl⟩
 ·have h1:i=d.length:=by simp at h1;omega
  subst h1;refine Gf ?_;refine GO ?_;refine Gf ?_;refine TOG [(187,some 187)] [(0,formsA F),(1,setsA tabs),(8,setA d),(17,bA b),(187,.rf 187 0 2),(188,formsA F),(189,setsA tabs)] [(187,plO [scanP kk,joiP])] [187] rfl ?_ ?_
  ·refine Gh ?_;refine ⟨id,rfl,.cons (by simp[wk.wks,wk,PN.c,scanP,pr0,intsL,iA]) (.cons ?_ .nil)⟩;(simp -implicitDefEqProofs only[go_sem,PN.c,iA,intsL,joiP,pr0];repeat (refine GO ?_;simp -implicitDefEqProofs only[go_sem,PN.c,iA,intsL,joiP,pr0]));exact ⟨⟨by decide,_,rfl,by simp[Ob.leafy,AV.leaf],rfl,rfl⟩,by decide,_,rfl,by simp[Ob.leafy,AV.leaf],rfl,rfl⟩
  refine TO [] [(0,formsA F),(1,setsA tabs),(8,setA d),(17,bA b),(187,plA [scanP kk,joiP]),(188,formsA F),(189,setsA tabs)] [] [] rfl ?_ ?_
  ·refine Gh ?_;exact ⟨id,by decide,_,rfl,plO_leafy _,rfl,rfl⟩
  simp -implicitDefEqProofs only[go_sem,bA,formsA,iA,plA,setA,setsA];refine .pure _ (show Spec0 Tryz.prog 26 [plA [scanP kk,joiP],formsA F,setsA tabs] _ from ev_ok (hsz _ (by simp) (by simp[scanP,joiP]) w5) ⟨p5.1,hR.2⟩) rfl λq hq _=>?_;obtain ⟨j,rfl,hOj⟩:=hq;obtain ⟨j1,j2⟩:=fin (nr_joi (hz▸out_two hkt hOj));have hjl:=hOj.len;refine Ao ?_;refine Al ?_;have hk:(decide ((j.length:Int)=(d.length:Int))==b)=true:=by
   rw[beq_iff_eq];cases b with
   | true=>exact decide_eq_true (by have:=j2.2 (hb2.1 rfl);omega)
   | false=>exact decide_eq_false λe=>by have:=hb2.2 (j2.1 (by omega));cases this
  refine VIF.tt hk ?_;refine Db ?_;refine C8 ?_;refine .pure _ r34 rfl λq hq _=>?_;subst hq;exact Am
end Yt
namespace Yt
open Go Go.Vc
theorem Gi {A B:Prop} (k:B) (h:Wr B->A:=by intro k;(simp -implicitDefEqProofs only[go_sem,iA]);exact k.1):A:=h ⟨k⟩
theorem Gj {A B:Prop} (k:B) (h:Wr B->A:=by intro k;(simp -implicitDefEqProofs only[go_sem,iA,intsL,setA]);exact k.1):A:=h ⟨k⟩
theorem Gk {A B:Prop} (k:B) (h:Wr B->A:=by intro k;(simp -implicitDefEqProofs only[go_sem,iA,ro3]);exact k.1):A:=h ⟨k⟩
end Yt
namespace Yt
open Go Go.Vc Go.Proofs
theorem f31 (z:List It) (hl:z.length<=1048576) (hr:∀t∈z,t.row.length<1073741824) :
 SpecF Tryz.prog 38 [setA z] (λr out=>r=.rf 0 0 z.length/\out=z):=by
 refine funspecD_of_vc tabOk elems ord38 Tryz.func38 rfl (rl:=[.tmp 2]) rfl (by kernel_rfl) rfl (λ_ h=>absurd rfl h) ?_;refine Ad ?_;refine LOOP.mk (ι:={i:Nat//i<=z.length}) (λp=>mkS [(0,setA z),(3,.rf 1000 0 p.1),(4,iA p.1)] ([(1000,⟨2,famC 2000 (z.take p.1)⟩)]++famL 2000 (z.take p.1)) ([1000]++famN 2000 p.1)) (λp=>z.length-p.1) ⟨0,Nat.zero_le _⟩ [(1000,none)] rfl rfl ?_ (λp=>?_)
 ·refine Ao ?_;simp[famC,famL,eobs]
 obtain ⟨i,hi⟩:=p;refine Ao ?_;refine VIF.split (λh1=>?_) (λh1=>?_)
 ·have h1:i<z.length:=(by simpa using h1);have w1:=wrap_add1 (show i<4611686018427387904 by omega);have hti:(z.take i).length=i:=by simp;omega
  refine Aa ?_;refine EL.map h1 ?_;refine Ap ?_;refine EL.map h1 ?_;refine Ap ?_;refine .make 17 _ (s52 z[i].row (by have:=hr _ (List.getElem_mem h1);omega)) rfl (by simp[famN_lo (b:=2000) (x:=17) (eq_true (by decide))]) rfl λr o hro _=>?_;obtain ⟨rfl,rfl⟩:=hro;refine Bc ?_;refine ⟨by omega,?_⟩;refine BACK.mk ⟨i+1,by omega⟩ ([(1000,some 25)]++famM 2000 (i+1) (nuX 2000 i 17)) rfl (fam_nmOk rfl (fam_nd2 (by decide) (by decide))) (by show z.length-(i+1)<z.length-i;omega) ?_;refine B4 ?_;have e:z.take (i+1)=z.take i++[z[i]]:=List.take_succ_eq_append_getElem h1;rw[e,show List.take i (famC 2000 (z.take i))=famC 2000 (z.take i) from List.take_of_length_le (by rw[famC_len,hti];exact Nat.le_refl _)];have hx:=fam_ext (b:=2000) (x:=17) (z:=z.take i) (t:=z[i]);rw[hti] at hx;refine ⟨id,?_,?_⟩
  ·exact fam_es (ν:=nuX 2000 i 17) (by simpa only[iA] using hx) λj hj=>fam_nms (m1:=[(1000,some 25)]) (by simp) (by rw[List.length_append,hti] at hj;simpa using hj)
  ·refine fam_eobs (ν:=nuX 2000 i 17) λj hj=>⟨fam_nms (m1:=[(1000,some 25)]) (by simp) (by rw[List.length_append,hti] at hj;simpa using hj),?_⟩;have:=fam_rows (b:=2000) (x:=17) (z:=z.take i) (t:=z[i]) (st:=?_) ?_ ?_ j hj
   ·rw[hti] at this;exact this
   ·intro k hk;refine Aa ?_;exact famL_get hk
   ·rfl
 ·have h1:i=z.length:=by simp at h1;omega
  subst h1;refine Bi ?_;refine FINfam 1000 (λi=>2000+(i+1)) z [(2,.rf 0 0 z.length)] (es:=famC 2000 z) (fam_nd (l:=[1000]) (by decide) (by decide)) Aj rfl (λi hi=>by (simp -implicitDefEqProofs only[go_sem];repeat (refine GO ?_;simp -implicitDefEqProofs only[go_sem]));exact famL_get hi) ?_ ?_
  ·exact Aj
  ·exact ⟨z,⟨⟨rfl,rfl⟩,rfl⟩,rfl⟩
theorem tab_bad {f:List Int} {z:List It} {k:Nat} {t:It} (hf:formsE [f]=0) (hk:k<z.length) (h:wrongI f t=true):tabErr f (z.set k t)=1:=by rw[tabErr,if_neg (by simp[hf]),if_neg];intro h2;have h3:=h2.2.2;rw[List.any_eq_false] at h3;exact h3 t (List.mem_iff_getElem.2 ⟨k,by simpa using hk,by simp⟩) h
theorem tab_zero {f:List Int} {z:List It} (h:tabErr f z=0):formsE [f]=0/\tabE f z:=by
 rw[tabErr] at h;by_cases h1:formsE [f]=0
 ·rw[if_neg (by simp[h1])] at h;by_cases h2:tabE f z
  ·exact ⟨h1,h2⟩
  ·rw[if_neg h2] at h;cases h
 ·rw[if_pos h1] at h;exact absurd h h1
theorem fitR_len_ne {r:List V} {ts:List Int} (h:r.length≠ts.length):fitR r ts=false:=by
 cases e:fitR r ts with
 | false=>rfl
 | true=>exact absurd (fitR_len e) h
theorem wrong_w {f:List Int} {t:It} (h:t.w≠1):wrongI f t=true:=by simp[wrongI,h]
theorem wrong_len {f:List Int} {t:It} (h:t.row.length≠f.length+1):wrongI f t=true:=by simp[wrongI,fitR_len_ne (r:=t.row) (ts:=4::f) (by simpa using h)]
theorem wrong_key {f:List Int} {t:It} (h:(getV t.row 0).k≠4):wrongI f t=true:=by simp[wrongI,h]
theorem wrong_big {f:List Int} {t:It} {v:V} (hv:v∈t.row) (h:smallV v=false):wrongI f t=true:=by have:(t.row.any λv=>!smallV v)=true:=List.any_eq_true.2 ⟨v,hv,by rw[h];rfl⟩;simp[wrongI,this]
theorem fam_fz {st:St} {m:List (Nat×Option Nat)} {z:List It} {es:List (List AV)} (hl:es.length=z.length) (h:∀i (hi:i<z.length),∃x,es[i]?=some [.rf x 0 z[i].row.length,iA z[i].w]/\x∉olds m/\st.objs x=some (ro3 z[i].row)):Es st m es (z.map It.c):=by
 refine Es_all (by simp[hl]) λi q1 q2=>?_;have hi:i<z.length:=by simpa using q2
 obtain ⟨x,e,hx,ho⟩:=h i hi;rw[List.getElem?_eq_getElem q1] at e;rw[Option.some.inj e];simp only[List.getElem_map,It.c,wk.wks,wk,iA,rowA];exact ⟨⟨hx,_,ho,ro3_leafy _,rfl,List.take_of_length_le (by simp[ro3])⟩,trivial,trivial⟩
theorem fam_fx {st:St} {m:List (Nat×Option Nat)} {z:List It} {es:List (List AV)} {b kk x:Nat} {t:It} (hk:kk<z.length) (hes:es=(famC b z).set kk [.rf x 0 t.row.length,iA t.w]) (hx:x∉olds m) (hox:st.objs x=some (ro3 t.row)) (hb:∀y∈olds m,y<=b) (ho:∀i (h:i<z.length),i≠kk->st.objs (b+(i+1))=some (ro3 z[i].row)) :
 Es st m es ((z.set kk t).map It.c):=by
 subst hes;refine fam_fz (by simp[famC_len]) λi hi=>?_;have hi':i<z.length:=by simpa using hi
 by_cases e:i=kk
 ·subst e;exact ⟨x,by rw[List.getElem?_set_self (by simpa [famC_len] using hi')];simp,hx,by simpa using hox⟩
 ·refine ⟨b+(i+1),?_,λh=>by have:=hb _ h;omega,?_⟩
  ·rw[List.getElem?_set_ne (λh=>e h.symm),List.getElem?_eq_getElem (by simpa [famC_len] using hi'),famC_get hi',List.getElem_set_ne (λh=>e h.symm)]
  ·rw[List.getElem_set_ne (λh=>e h.symm)];exact ho i hi' e
theorem famC_self {b:Nat} {z:List It} {kk:Nat} (hk:kk<z.length):famC b z=(famC b z).set kk [.rf (b+(kk+1)) 0 z[kk].row.length,iA z[kk].w]:=by
 have h:kk<(famC b z).length:=by rw[famC_len];exact hk
 rw[<- famC_get hk h,List.set_getElem_self]
theorem getV_set0 {r:List V} {v:V} (h:0<r.length):getV (r.set 0 v) 0=v:=by simp[getV,h]
theorem OBx {x:Option Ob} {o:Ob} {K:Ob->Prop} (h:x=some o) (k:K o):OB x K:=⟨o,h,k⟩
theorem l5 (f:List Int) (z:List It) (what k:Int) (hf:f.length<=1048576) (hzl:z.length<=1048576) (hzr:∀t∈z,t.row.length<=1048576):Spec0 Tryz.prog 5 [.ag [intsL f],setA z,iA what,iA k] (·=bA true):=by
 refine spec0_of_vc tabOk elems ord5 Tryz.func5 rfl (rl:=[.tmp 8]) rfl (by kernel_rfl) rfl ?_;refine A8 ?_;refine VIF.split (λg1=>?_) (λg1=>?_)
 ·exact Am
 simp -implicitDefEqProofs only[go_sem,setA];have hz1:z.length<4611686018427387904:=by omega
 have hz2:∀t∈z,t.row.length<4611686018427387904:=λt ht=>by have:=hzr t ht;omega
 refine .lendR (args':=[setsA [z]]) (s10 [z] (by simp) (by simpa using hz1) (by simpa using hz2)) ⟨lent_leafy (o:=⟨1,[[setA z]]⟩) C1 rfl (by simp) (by simp[Ob.leafy,AV.leaf,setA]) (λx hx=>by simp at hx;subst hx;rfl),trivial⟩ (by rintro _ rfl;rfl) λq hq=>?_;subst hq;simp -implicitDefEqProofs only[go_sem,bA];refine VIF.split (λg2=>?_) (λg2=>?_)
 ·exact Am
 simp -implicitDefEqProofs only[go_sem,bA];refine .pure _ (show Spec0 Tryz.prog 28 [.ag [intsL f],setA z] _ from p28 f z (by omega) hz1 hz2) rfl λq hq _=>?_;subst hq;refine Ab ?_;refine VIF.split (λg3=>?_) (λg3=>?_)
 ·exact Am
 have g3:tabErr f z=0:=by simpa using g3
 obtain ⟨hF,ht⟩:=tab_zero g3;refine Aa ?_;refine .pure _ (show Spec0 Tryz.prog 27 [.ag [intsL f],setA z] _ from d27 f z (by omega) hz1 hz2) rfl λq hq _=>?_;subst hq;rw[g3];refine Ab ?_;refine Al ?_;refine VIF.split (λg4=>?_) (λg4=>?_)
 ·refine Aa ?_;refine .pure _ r34 rfl λq hq _=>?_;subst hq;exact Am
 have g4:0<z.length:=by simp at g4;exact List.length_pos_iff.2 g4
 refine Aa ?_;refine CALL.fam (f31 z hzl (λt ht=>by have:=hzr t ht;omega)) rfl 100000 (by simp) λq z2 hq=>?_;obtain ⟨rfl,rfl⟩:=hq;obtain ⟨kk,hkk,ek,ek0⟩:=mod_ok k g4 (by omega);simp -implicitDefEqProofs only[go_sem,AV.rn,Nat.add_zero,ek,iA];have hrl:=(tab_row ht (List.getElem_mem hkk)).2.1;have hfl:1<=f.length:=(formsE_len hF f (by simp)).1;refine ⟨ek0,by decide,VIF.split (λc0=>?_) (λc0=>?_)⟩;refine Gi ?_;refine ⟨by omega,EL_fam hkk ?_⟩;refine Gi ?_;obtain ⟨t',et,hw,hl'⟩:∃t',t'=(⟨z2[kk].row,2⟩:It)/\wrongI f t'=true/\t'.row.length<=1048578:=⟨_,rfl,wrong_w (by simp),by simp only;omega⟩;refine TOG [(4,some 4),(100000,some 100000)] [(1,setA z2),(4,.pt 4 0 0),(9,.rf 100000 0 z2.length)] [(4,⟨1,[[intsL f]]⟩),(100000,so (z2.set kk t'))] [4,100000] rfl ?_ ?_
 ·refine Gj ?_;rw[et];refine ⟨by simp[famU_mem],.cons (by simp[wk.wks,wk]) .nil,rfl,fam_fx (b:=100000) (x:=100000+(kk+1)) hkk ?_ (by simp[olds];try omega) ?_ (by simp[olds]) λi hi hik=>?_⟩
  ·rfl
  ·refine Aw ?_;exact famO_row hkk
  ·refine Aw ?_;exact famO_row hi
 rotate_left
 refine Aw ?_;refine VIF.split (λc1=>?_) (λc1=>?_);refine Gi ?_;refine ⟨by omega,EL_fam hkk ?_⟩;refine Gi ?_;obtain ⟨t',et,hw,hl'⟩:∃t',t'=(⟨z2[kk].row,-1⟩:It)/\wrongI f t'=true/\t'.row.length<=1048578:=⟨_,rfl,wrong_w (by simp),by simp only;omega⟩;refine TOG [(4,some 4),(100000,some 100000)] [(1,setA z2),(4,.pt 4 0 0),(9,.rf 100000 0 z2.length)] [(4,⟨1,[[intsL f]]⟩),(100000,so (z2.set kk t'))] [4,100000] rfl ?_ ?_
 ·refine Gj ?_;rw[et];refine ⟨by simp[famU_mem],.cons (by simp[wk.wks,wk]) .nil,rfl,fam_fx (b:=100000) (x:=100000+(kk+1)) hkk ?_ (by simp[olds];try omega) ?_ (by simp[olds]) λi hi hik=>?_⟩
  ·rfl
  ·refine Aw ?_;exact famO_row hkk
  ·refine Aw ?_;exact famO_row hi
 rotate_left
 refine Aw ?_;refine VIF.split (λc2=>?_) (λc2=>?_);refine Gi ?_;refine ⟨by omega,EL_fam hkk ?_⟩;refine Gi ?_;refine ⟨by simp[famU_mem],OBx (famO_row hkk) ?_⟩;refine Gk ?_;refine ⟨⟨by simp[famU_mem],by omega⟩,by omega,EL_fam hkk ?_⟩;refine Gi ?_;obtain ⟨t',et,hw,hl'⟩:∃t',t'=(⟨z2[kk].row++[V.nul],z2[kk].w⟩:It)/\wrongI f t'=true/\t'.row.length<=1048578:=⟨_,rfl,wrong_len (by simp;omega),by simp;omega⟩;refine TOG [(4,some 4),(100000,some 100000)] [(1,setA z2),(4,.pt 4 0 0),(9,.rf 100000 0 z2.length)] [(4,⟨1,[[intsL f]]⟩),(100000,so (z2.set kk t'))] [4,100000] rfl ?_ ?_
 ·refine Gj ?_;rw[et];refine ⟨by simp[famU_mem],.cons (by simp[wk.wks,wk]) .nil,rfl,fam_fx (b:=100000) (x:=75) hkk ?_ (by simp[olds];try omega) ?_ (by simp[olds]) λi hi hik=>?_⟩
  ·simp[iA]
  ·refine Gk ?_;simp[V.c,V.nul];rfl
  ·refine Aw ?_;rw[upd_ne' _ _ (by omega)];refine Aw ?_;exact famO_row hi
 rotate_left
 refine Aw ?_;refine VIF.split (λc3=>?_) (λc3=>?_);refine Gi ?_;refine ⟨by omega,EL_fam hkk ?_⟩;refine Gi ?_;refine ⟨by omega,OBx (famO_row hkk) ?_⟩;refine Gk ?_;refine OBx (famO_row hkk) ?_;simp -implicitDefEqProofs only[go_sem,ro3];refine EL.map (show Int.toNat 0<z2[kk].row.length by simp;omega) ?_;simp -implicitDefEqProofs only[go_sem,V.c,iA];obtain ⟨t',et,hw,hl'⟩:∃t',t'=(⟨z2[kk].row.set 0 V.nul,z2[kk].w⟩:It)/\wrongI f t'=true/\t'.row.length<=1048578:=⟨_,rfl,wrong_key (by simp only;rw[getV_set0 (by omega)];decide),by simp;omega⟩;refine TOG [(4,some 4),(100000,some 100000)] [(1,setA z2),(4,.pt 4 0 0),(9,.rf 100000 0 z2.length)] [(4,⟨1,[[intsL f]]⟩),(100000,so (z2.set kk t'))] [4,100000] rfl ?_ ?_
 ·refine Gj ?_;rw[et];refine ⟨by simp[famU_mem],.cons (by simp[wk.wks,wk]) .nil,rfl,fam_fx (b:=100000) (x:=100000+(kk+1)) hkk ?_ (by simp[olds];try omega) ?_ (by simp[olds]) λi hi hik=>?_⟩
  ·show _=(famC 100000 z2).set kk [.rf (100000+(kk+1)) 0 (z2[kk].row.set _ _).length,iA z2[kk].w];rw[List.length_set];exact famC_self hkk
  ·refine Aw ?_;rw[ro3,List.map_set];rfl
  ·refine Aw ?_;rw[upd_ne' _ _ (by omega)];exact famO_row hi
 rotate_left
 refine Gi ?_;refine ⟨by omega,EL_fam hkk ?_⟩;refine Gi ?_;refine ⟨by omega,OBx (famO_row hkk) ?_⟩;refine Gk ?_;refine OBx (famO_row hkk) ?_;simp -implicitDefEqProofs only[go_sem,ro3];refine EL.map (show Int.toNat 1<z2[kk].row.length by simp;omega) ?_;simp -implicitDefEqProofs only[go_sem,V.c,iA];obtain ⟨t',et,hw,hl'⟩:∃t',t'=(⟨z2[kk].row.set 1 ⟨3,2147483649,ByteArray.empty⟩,z2[kk].w⟩:It)/\wrongI f t'=true/\t'.row.length<=1048578:=⟨_,rfl,wrong_big (v:=⟨3,2147483649,ByteArray.empty⟩) (List.mem_iff_getElem.2 ⟨1,by simp;omega,by simp⟩) (by simp[smallV,inB]),by simp;omega⟩;refine TOG [(4,some 4),(100000,some 100000)] [(1,setA z2),(4,.pt 4 0 0),(9,.rf 100000 0 z2.length)] [(4,⟨1,[[intsL f]]⟩),(100000,so (z2.set kk t'))] [4,100000] rfl ?_ ?_
 ·refine Gj ?_;rw[et];refine ⟨by simp[famU_mem],.cons (by simp[wk.wks,wk]) .nil,rfl,fam_fx (b:=100000) (x:=100000+(kk+1)) hkk ?_ (by simp[olds];try omega) ?_ (by simp[olds]) λi hi hik=>?_⟩
  ·show _=(famC 100000 z2).set kk [.rf (100000+(kk+1)) 0 (z2[kk].row.set _ _).length,iA z2[kk].w];rw[List.length_set];exact famC_self hkk
  ·refine Aw ?_;rw[ro3,List.map_set];rfl
  ·refine Aw ?_;rw[upd_ne' _ _ (by omega)];exact famO_row hi
 all_goals
  refine TO [] [(1,setA z2),(4,.ro [intsL f] 0),(9,setA (z2.set kk t'))] [] [] rfl ?_ ?_
  ·simp -implicitDefEqProofs only[go_sem,intsL,setA,so];exact ⟨id,⟨by decide,_,rfl,by simp[Ob.leafy,AV.leaf],rfl⟩,by decide,_,rfl,so_leafy _,rfl,List.take_of_length_le (by simp[so])⟩
  have hn:=tab_bad hF hkk hw;have hlr:∀t∈z2.set kk t',t.row.length<4611686018427387904:=λt ht=>by
   rcases List.mem_or_eq_of_mem_set ht with h|rfl
   ·exact hz2 t h
   ·omega
  refine Ad ?_;refine ⟨by omega,EL.map (show Int.toNat 0<z2.length from g4) ?_⟩;refine Ap ?_;refine .pure _ (show Spec0 Tryz.prog 39 [rowA z2[Int.toNat 0].row] _ from s17 _ (hz2 _ (List.getElem_mem _))) rfl λq hq _=>?_;subst hq;rw[(good_made.1 ht.1).2 _ (List.getElem_mem _)];refine Ab ?_;refine Al ?_;refine .pure _ (show Spec0 Tryz.prog 27 [.ag [intsL f],setA (z2.set kk t')] _ from d27 f _ (by omega) (by rw[List.length_set];exact hz1) hlr) rfl λq hq _=>?_;subst hq;rw[hn];refine Ab ?_;refine Al ?_;refine .pure _ r34 rfl λq hq _=>?_;subst hq;exact Am
end Yt
namespace Yt
open Go Go.Vc Go.Proofs Go.Proofs.YtogndnaffdkanaaGreat
mutual
theorem bulk_le {H:Type} {B:Nat}:∀d:DataW H,Rows.uptoBulk d<=B->bulkLe B d
 | .lit l,h=>by
   cases l with
   | string bs=>simp only[Rows.uptoBulk] at h;simp only[bulkLe];omega
   | _=>simp only[bulkLe]
 | .nil,_=>by simp only[bulkLe]
 | .ptr d,_=>by simp only[bulkLe]
 | .slice elems spare,h=>by
   simp only[Rows.uptoBulk] at h;have h2:=bulks_len elems;simp only[bulkLe];exact ⟨by omega,bulks_le elems (by omega)⟩
 | .agg ds,h=>by
   simp only[Rows.uptoBulk] at h;simp only[bulkLe];exact bulks_le ds (by omega)
 | .iface _ _,_=>by simp only[bulkLe]
 | .map _,_=>by simp only[bulkLe]
 | .held _,_=>by simp only[bulkLe]
theorem bulks_le {H:Type} {B:Nat}:∀ds:List (DataW H),Rows.uptoBulkAll ds<=B->bulkLe.bulkLes B ds
 | [],_=>trivial
 | d::r,h=>by
   simp only[Rows.uptoBulkAll] at h;exact ⟨bulk_le d (by omega),bulks_le r (by omega)⟩
theorem bulk_pos {H:Type}:∀d:DataW H,1<=Rows.uptoBulk d
 | .lit l=>by cases l<;>simp[Rows.uptoBulk]
 | .nil=>by simp[Rows.uptoBulk]
 | .ptr d=>by simp[Rows.uptoBulk]
 | .slice elems spare=>by simp[Rows.uptoBulk]
 | .agg ds=>by simp[Rows.uptoBulk]
 | .iface _ _=>by simp[Rows.uptoBulk]
 | .map _=>by simp[Rows.uptoBulk]
 | .held _=>by simp[Rows.uptoBulk]
theorem bulks_len {H:Type}:∀ds:List (DataW H),ds.length<=Rows.uptoBulkAll ds
 | []=>by simp
 | d::r=>by
   have:=bulk_pos d;have:=bulks_len r;simp only[Rows.uptoBulkAll,List.length_cons];omega
end
theorem bound {H:Type} {l:List (DataW H)} (hk:Rows.uptoSmall H l=true):bulkLe.bulkLes 1048576 l:=bulks_le l (of_decide_eq_true hk)
theorem kids:Kids Tryz.prog (·<Tryz.prog.types.size):=kids_rows (by kernel_rfl) (by kernel_rfl)
def szOk (P:Program):Bool:=(List.range P.types.size).all λt=>match P.underlying t with|some (.slice e)=>decide (0<P.cellsOf e)|_=>true
theorem szOk_to {P:Program} (h:szOk P=true) {t e:TypeId} (ht:t<P.types.size) (hu:P.underlying t=some (.slice e)):0<P.cellsOf e:=by have:=List.all_eq_true.1 h t (by simpa using ht);rw[hu] at this;simpa using this
theorem sizes {t e:TypeId} (ht:t<Tryz.prog.types.size) (hu:Tryz.prog.underlying t=some (.slice e)):0<Tryz.prog.cellsOf e:=szOk_to (by kernel_rfl) ht hu
def i64 (n:Int):Prop:=-9223372036854775808<=n/\n<=9223372036854775807
theorem i64_of {n:Int} (h:(Lit.int .i64 n).wf=true):i64 n:=by simp[Lit.wf,IntKind.min,IntKind.max,IntKind.signed,IntKind.bits] at h;exact h
def V.fit (v:V):Prop:=i64 v.k/\i64 v.i/\v.s.size<=1048576
def It.fit (t:It):Prop:=t.row.length<=1048576/\i64 t.w
theorem cellsV:Tryz.prog.cellsOf 47=3:=by kernel_rfl
theorem cellsI:Tryz.prog.cellsOf 59=2:=by kernel_rfl
theorem cells1:Tryz.prog.cellsOf 3=1:=by kernel_rfl
theorem cellsZ:Tryz.prog.cellsOf 32=1:=by kernel_rfl
theorem shVal {avs:List AV} (h:Sh Tryz.prog 1048576 47 avs):∃v:V,avs=v.c/\v.fit:=by
 obtain ⟨xs,rfl,hl,hf⟩:=sh_struct Tryz.underlying47 h
 match xs,hl with
 | [a,b,c],_=>
   obtain ⟨k,rfl,hk⟩:=sh_int Tryz.underlying3 (hf 0 _ a rfl rfl);obtain ⟨i,rfl,hi⟩:=sh_int Tryz.underlying3 (hf 1 _ b rfl rfl);obtain ⟨s,rfl,hs⟩:=sh_str Tryz.underlying9 (hf 2 _ c rfl rfl);exact ⟨⟨k,i,s⟩,rfl,i64_of hk,i64_of hi,hs⟩
theorem shRow {avs:List AV} (h:Sh Tryz.prog 1048576 57 avs):∃r:List V,avs=[rowA r]/\r.length<=1048576:=by obtain ⟨es,rfl,hl,he⟩:=sh_slice Tryz.underlying57 h;obtain ⟨l,rfl,_⟩:=map_choose λx hx=>shVal (he x hx);rw[cellsV];exact ⟨l,rfl,by simpa using hl⟩
theorem shItem {avs:List AV} (h:Sh Tryz.prog 1048576 59 avs):∃t:It,avs=t.c/\t.fit:=by
 obtain ⟨xs,rfl,hl,hf⟩:=sh_struct Tryz.underlying59 h
 match xs,hl with
 | [a,b],_=>
   obtain ⟨r,rfl,hr⟩:=shRow (hf 0 _ a rfl rfl);obtain ⟨w,rfl,hw⟩:=sh_int Tryz.underlying3 (hf 1 _ b rfl rfl);exact ⟨⟨r,w⟩,rfl,hr,i64_of hw⟩
theorem shSet {avs:List AV} (h:Sh Tryz.prog 1048576 32 avs):∃l:List It,avs=[setA l]/\l.length<=1048576/\∀t∈l,t.fit:=by obtain ⟨es,rfl,hl,he⟩:=sh_slice Tryz.underlying32 h;obtain ⟨l,rfl,h2⟩:=map_choose λx hx=>shItem (he x hx);rw[cellsI];exact ⟨l,rfl,by simpa using hl,h2⟩
theorem shSets {avs:List AV} (h:Sh Tryz.prog 1048576 24 avs):∃l:List (List It),avs=[setsA l]/\l.length<=1048576/\∀z∈l,z.length<=1048576/\∀t∈z,t.fit:=by obtain ⟨es,rfl,hl,he⟩:=sh_slice Tryz.underlying24 h;obtain ⟨l,rfl,h2⟩:=map_choose (f:=λr=>[setA r]) λx hx=>shSet (he x hx);rw[cellsZ];exact ⟨l,rfl,by simpa using hl,h2⟩
theorem shInts {avs:List AV} (h:Sh Tryz.prog 1048576 37 avs):∃l:List Int,avs=[intsL l]/\l.length<=1048576/\∀x∈l,i64 x:=by
 obtain ⟨es,rfl,hl,he⟩:=sh_slice Tryz.underlying37 h;obtain ⟨l,rfl,h2⟩:=map_choose (f:=λn=>[iA n]) (p:=i64) λx hx=>by obtain ⟨n,rfl,hn⟩:=sh_int Tryz.underlying3 (he x hx);exact ⟨n,rfl,i64_of hn⟩
 rw[cells1];exact ⟨l,rfl,by simpa using hl,h2⟩
theorem shPred {avs:List AV} (h:Sh Tryz.prog 1048576 49 avs):∃p:Pr,avs=p.c/\p.val.fit/\i64 p.kind/\i64 p.col/\i64 p.other:=by
 obtain ⟨xs,rfl,hl,hf⟩:=sh_struct Tryz.underlying49 h
 match xs,hl with
 | [a,b,c,d],_=>
   obtain ⟨k,rfl,hk⟩:=sh_int Tryz.underlying3 (hf 0 _ a rfl rfl);obtain ⟨i,rfl,hi⟩:=sh_int Tryz.underlying3 (hf 1 _ b rfl rfl);obtain ⟨o,rfl,ho⟩:=sh_int Tryz.underlying3 (hf 2 _ c rfl rfl);obtain ⟨v,rfl,hv⟩:=shVal (hf 3 _ d rfl rfl);exact ⟨⟨k,i,o,v⟩,rfl,hv,i64_of hk,i64_of hi,i64_of ho⟩
theorem cellsNd:Tryz.prog.cellsOf 51=14:=by kernel_rfl
theorem cellsTb:Tryz.prog.cellsOf 39=1:=by kernel_rfl
def PN.fit (x:PN):Prop:=x.cols.length<=1048576/\x.others.length<=1048576
theorem shNode {avs:List AV} (h:Sh Tryz.prog 1048576 51 avs):∃x:PN,avs=x.c/\x.fit:=by
 obtain ⟨xs,rfl,hl,hf⟩:=sh_struct Tryz.underlying51 h
 match xs,hl with
 | [a,b,c,d,e,f,g,i,j],_=>
   obtain ⟨n0,rfl,_⟩:=sh_int Tryz.underlying3 (hf 0 _ a rfl rfl);obtain ⟨n1,rfl,_⟩:=sh_int Tryz.underlying3 (hf 1 _ b rfl rfl);obtain ⟨n2,rfl,_⟩:=sh_int Tryz.underlying3 (hf 2 _ c rfl rfl);obtain ⟨n3,rfl,_⟩:=sh_int Tryz.underlying3 (hf 3 _ d rfl rfl);obtain ⟨p,rfl,_⟩:=shPred (hf 4 _ e rfl rfl);obtain ⟨l1,rfl,k1,_⟩:=shInts (hf 5 _ f rfl rfl);obtain ⟨l2,rfl,k2,_⟩:=shInts (hf 6 _ g rfl rfl);obtain ⟨n7,rfl,_⟩:=sh_int Tryz.underlying3 (hf 7 _ i rfl rfl);obtain ⟨n8,rfl,_⟩:=sh_int Tryz.underlying3 (hf 8 _ j rfl rfl);exact ⟨⟨n0,n1,n2,n3,p,l1,l2,n7,n8⟩,rfl,k1,k2⟩
theorem shNodes {avs:List AV} (h:Sh Tryz.prog 1048576 22 avs):∃l:List PN,avs=[plA l]/\l.length<=1048576/\∀x∈l,x.fit:=by obtain ⟨es,rfl,hl,he⟩:=sh_slice Tryz.underlying22 h;obtain ⟨l,rfl,h2⟩:=map_choose λx hx=>shNode (he x hx);rw[cellsNd];exact ⟨l,rfl,by simpa using hl,h2⟩
theorem shTable {avs:List AV} (h:Sh Tryz.prog 1048576 39 avs):∃l:List Int,avs=[intsL l]/\l.length<=1048576:=by
 obtain ⟨xs,rfl,hl,hf⟩:=sh_struct Tryz.underlying39 h
 match xs,hl with
 | [a],_=>
   obtain ⟨l1,rfl,k1,_⟩:=shInts (hf 0 _ a rfl rfl);exact ⟨l1,rfl,k1⟩
theorem shForms {avs:List AV} (h:Sh Tryz.prog 1048576 23 avs):∃l:List (List Int),avs=[formsA l]/\l.length<=1048576/\∀x∈l,x.length<=1048576:=by obtain ⟨es,rfl,hl,he⟩:=sh_slice Tryz.underlying23 h;obtain ⟨l,rfl,h2⟩:=map_choose (f:=λl=>[intsL l]) λx hx=>shTable (he x hx);rw[cellsTb];exact ⟨l,rfl,by simpa using hl,h2⟩
theorem lawP {l:List PN} {F:List (List Int)} (l0:l.length<=1048576) (t0:∀x∈l,x.fit) (l1:F.length<=1048576) (t1:∀f∈F,f.length<=1048576):LawP l F:=⟨l0,t0,l1,t1⟩
theorem lawT {l:List (List It)} (l0:l.length<=1048576) (t0:∀z∈l,z.length<=1048576/\∀t∈z,t.fit):LawT l:=⟨l0,λz hz=>(t0 z hz).1,λz hz t ht=>((t0 z hz).2 t ht).1⟩
theorem own:ownKnob Tryz.prog.godebug=none:=by kernel_rfl
def signs:List Char:=[Char.ofNat 104,Char.ofNat 97,Char.ofNat 114,Char.ofNat 110,Char.ofNat 101,Char.ofNat 115,Char.ofNat 115,Char.ofNat 32,Char.ofNat 52,Char.ofNat 98,Char.ofNat 50,Char.ofNat 98,Char.ofNat 54,Char.ofNat 101,Char.ofNat 98,Char.ofNat 98,Char.ofNat 102,Char.ofNat 97,Char.ofNat 55,Char.ofNat 54,Char.ofNat 97,Char.ofNat 102,Char.ofNat 55,Char.ofNat 98,Char.ofNat 50,Char.ofNat 57,Char.ofNat 98,Char.ofNat 54,Char.ofNat 99,Char.ofNat 56,Char.ofNat 102,Char.ofNat 48,Char.ofNat 57,Char.ofNat 99,Char.ofNat 53,Char.ofNat 53,Char.ofNat 49,Char.ofNat 98,Char.ofNat 98,Char.ofNat 54,Char.ofNat 57,Char.ofNat 53,Char.ofNat 54,Char.ofNat 49,Char.ofNat 100,Char.ofNat 99,Char.ofNat 56,Char.ofNat 49,Char.ofNat 100,Char.ofNat 99,Char.ofNat 97,Char.ofNat 98,Char.ofNat 49,Char.ofNat 48,Char.ofNat 55,Char.ofNat 50,Char.ofNat 100,Char.ofNat 102,Char.ofNat 57,Char.ofNat 52,Char.ofNat 102,Char.ofNat 53,Char.ofNat 54,Char.ofNat 101,Char.ofNat 51,Char.ofNat 99,Char.ofNat 101,Char.ofNat 98,Char.ofNat 49,Char.ofNat 102,Char.ofNat 49,Char.ofNat 56,Char.ofNat 32,Char.ofNat 99,Char.ofNat 117,Char.ofNat 116,Char.ofNat 32,Char.ofNat 97,Char.ofNat 116,Char.ofNat 32,Char.ofNat 114,Char.ofNat 97,Char.ofNat 100,Char.ofNat 100,Char.ofNat 108,Char.ofNat 101,Char.ofNat 47,Char.ofNat 114,Char.ofNat 97,Char.ofNat 100,Char.ofNat 100,Char.ofNat 108,Char.ofNat 101,Char.ofNat 108,Char.ofNat 97,Char.ofNat 119,Char.ofNat 50,Char.ofNat 49,Char.ofNat 46,Char.ofNat 69,Char.ofNat 118,Char.ofNat 97,Char.ofNat 108,Char.ofNat 69,Char.ofNat 120,Char.ofNat 97,Char.ofNat 99,Char.ofNat 116,Char.ofNat 32,Char.ofNat 114,Char.ofNat 97,Char.ofNat 100,Char.ofNat 100,Char.ofNat 108,Char.ofNat 101,Char.ofNat 47,Char.ofNat 114,Char.ofNat 97,Char.ofNat 100,Char.ofNat 100,Char.ofNat 108,Char.ofNat 101,Char.ofNat 108,Char.ofNat 97,Char.ofNat 119,Char.ofNat 50,Char.ofNat 49,Char.ofNat 46,Char.ofNat 69,Char.ofNat 118,Char.ofNat 97,Char.ofNat 108,Char.ofNat 76,Char.ofNat 105,Char.ofNat 110,Char.ofNat 101,Char.ofNat 97,Char.ofNat 114,Char.ofNat 32,Char.ofNat 114,Char.ofNat 97,Char.ofNat 100,Char.ofNat 100,Char.ofNat 108,Char.ofNat 101,Char.ofNat 47,Char.ofNat 114,Char.ofNat 97,Char.ofNat 100,Char.ofNat 100,Char.ofNat 108,Char.ofNat 101,Char.ofNat 108,Char.ofNat 97,Char.ofNat 119,Char.ofNat 50,Char.ofNat 49,Char.ofNat 46,Char.ofNat 69,Char.ofNat 118,Char.ofNat 97,Char.ofNat 108,Char.ofNat 84,Char.ofNat 97,Char.ofNat 98,Char.ofNat 108,Char.ofNat 101,Char.ofNat 32,Char.ofNat 114,Char.ofNat 97,Char.ofNat 100,Char.ofNat 100,Char.ofNat 108,Char.ofNat 101,Char.ofNat 47,Char.ofNat 114,Char.ofNat 97,Char.ofNat 100,Char.ofNat 100,Char.ofNat 108,Char.ofNat 101,Char.ofNat 108,Char.ofNat 97,Char.ofNat 119,Char.ofNat 50,Char.ofNat 49,Char.ofNat 46,Char.ofNat 69,Char.ofNat 118,Char.ofNat 97,Char.ofNat 108,Char.ofNat 78,Char.ofNat 111,Char.ofNat 100,Char.ofNat 101,Char.ofNat 115,Char.ofNat 32,Char.ofNat 114,Char.ofNat 97,Char.ofNat 100,Char.ofNat 100,Char.ofNat 108,Char.ofNat 101,Char.ofNat 47,Char.ofNat 114,Char.ofNat 97,Char.ofNat 100,Char.ofNat 100,Char.ofNat 108,Char.ofNat 101,Char.ofNat 108,Char.ofNat 97,Char.ofNat 119,Char.ofNat 50,Char.ofNat 49,Char.ofNat 46,Char.ofNat 69,Char.ofNat 118,Char.ofNat 97,Char.ofNat 108,Char.ofNat 69,Char.ofNat 109,Char.ofNat 112,Char.ofNat 116,Char.ofNat 121,Char.ofNat 32,Char.ofNat 114,Char.ofNat 97,Char.ofNat 100,Char.ofNat 100,Char.ofNat 108,Char.ofNat 101,Char.ofNat 47,Char.ofNat 114,Char.ofNat 97,Char.ofNat 100,Char.ofNat 100,Char.ofNat 108,Char.ofNat 101,Char.ofNat 108,Char.ofNat 97,Char.ofNat 119,Char.ofNat 50,Char.ofNat 49,Char.ofNat 46,Char.ofNat 69,Char.ofNat 118,Char.ofNat 97,Char.ofNat 108,Char.ofNat 85,Char.ofNat 110,Char.ofNat 117,Char.ofNat 115,Char.ofNat 101,Char.ofNat 100,Char.ofNat 32,Char.ofNat 114,Char.ofNat 97,Char.ofNat 100,Char.ofNat 100,Char.ofNat 108,Char.ofNat 101,Char.ofNat 47,Char.ofNat 114,Char.ofNat 97,Char.ofNat 100,Char.ofNat 100,Char.ofNat 108,Char.ofNat 101,Char.ofNat 108,Char.ofNat 97,Char.ofNat 119,Char.ofNat 50,Char.ofNat 49,Char.ofNat 46,Char.ofNat 69,Char.ofNat 118,Char.ofNat 97,Char.ofNat 108,Char.ofNat 76,Char.ofNat 97,Char.ofNat 115,Char.ofNat 116,Char.ofNat 32,Char.ofNat 114,Char.ofNat 97,Char.ofNat 100,Char.ofNat 100,Char.ofNat 108,Char.ofNat 101,Char.ofNat 47,Char.ofNat 114,Char.ofNat 97,Char.ofNat 100,Char.ofNat 100,Char.ofNat 108,Char.ofNat 101,Char.ofNat 108,Char.ofNat 97,Char.ofNat 119,Char.ofNat 50,Char.ofNat 49,Char.ofNat 46,Char.ofNat 69,Char.ofNat 118,Char.ofNat 97,Char.ofNat 108,Char.ofNat 67,Char.ofNat 111,Char.ofNat 117,Char.ofNat 110,Char.ofNat 116,Char.ofNat 115,Char.ofNat 32,Char.ofNat 114,Char.ofNat 97,Char.ofNat 100,Char.ofNat 100,Char.ofNat 108,Char.ofNat 101,Char.ofNat 47,Char.ofNat 114,Char.ofNat 97,Char.ofNat 100,Char.ofNat 100,Char.ofNat 108,Char.ofNat 101,Char.ofNat 108,Char.ofNat 97,Char.ofNat 119,Char.ofNat 50,Char.ofNat 49,Char.ofNat 46,Char.ofNat 69,Char.ofNat 118,Char.ofNat 97,Char.ofNat 108,Char.ofNat 70,Char.ofNat 105,Char.ofNat 116,Char.ofNat 115,Char.ofNat 32,Char.ofNat 114,Char.ofNat 97,Char.ofNat 100,Char.ofNat 100,Char.ofNat 108,Char.ofNat 101,Char.ofNat 47,Char.ofNat 114,Char.ofNat 97,Char.ofNat 100,Char.ofNat 100,Char.ofNat 108,Char.ofNat 101,Char.ofNat 108,Char.ofNat 97,Char.ofNat 119,Char.ofNat 50,Char.ofNat 50,Char.ofNat 46,Char.ofNat 67,Char.ofNat 105,Char.ofNat 114,Char.ofNat 99,Char.ofNat 83,Char.ofNat 117,Char.ofNat 109,Char.ofNat 115,Char.ofNat 32,Char.ofNat 114,Char.ofNat 97,Char.ofNat 100,Char.ofNat 100,Char.ofNat 108,Char.ofNat 101,Char.ofNat 47,Char.ofNat 114,Char.ofNat 97,Char.ofNat 100,Char.ofNat 100,Char.ofNat 108,Char.ofNat 101,Char.ofNat 108,Char.ofNat 97,Char.ofNat 119,Char.ofNat 50,Char.ofNat 50,Char.ofNat 46,Char.ofNat 67,Char.ofNat 105,Char.ofNat 114,Char.ofNat 99,Char.ofNat 76,Char.ofNat 97,Char.ofNat 116,Char.ofNat 101,Char.ofNat 114,Char.ofNat 32,Char.ofNat 114,Char.ofNat 97,Char.ofNat 100,Char.ofNat 100,Char.ofNat 108,Char.ofNat 101,Char.ofNat 47,Char.ofNat 114,Char.ofNat 97,Char.ofNat 100,Char.ofNat 100,Char.ofNat 108,Char.ofNat 101,Char.ofNat 108,Char.ofNat 97,Char.ofNat 119,Char.ofNat 50,Char.ofNat 50,Char.ofNat 46,Char.ofNat 67,Char.ofNat 105,Char.ofNat 114,Char.ofNat 99,Char.ofNat 66,Char.ofNat 97,Char.ofNat 99,Char.ofNat 107,Char.ofNat 32,Char.ofNat 114,Char.ofNat 97,Char.ofNat 100,Char.ofNat 100,Char.ofNat 108,Char.ofNat 101,Char.ofNat 47,Char.ofNat 114,Char.ofNat 97,Char.ofNat 100,Char.ofNat 100,Char.ofNat 108,Char.ofNat 101,Char.ofNat 108,Char.ofNat 97,Char.ofNat 119,Char.ofNat 50,Char.ofNat 50,Char.ofNat 46,Char.ofNat 67,Char.ofNat 105,Char.ofNat 114,Char.ofNat 99,Char.ofNat 69,Char.ofNat 120,Char.ofNat 97,Char.ofNat 99,Char.ofNat 116,Char.ofNat 32,Char.ofNat 114,Char.ofNat 97,Char.ofNat 100,Char.ofNat 100,Char.ofNat 108,Char.ofNat 101,Char.ofNat 47,Char.ofNat 114,Char.ofNat 97,Char.ofNat 100,Char.ofNat 100,Char.ofNat 108,Char.ofNat 101,Char.ofNat 108,Char.ofNat 97,Char.ofNat 119,Char.ofNat 50,Char.ofNat 50,Char.ofNat 46,Char.ofNat 67,Char.ofNat 105,Char.ofNat 114,Char.ofNat 99,Char.ofNat 84,Char.ofNat 119,Char.ofNat 111,Char.ofNat 32,Char.ofNat 114,Char.ofNat 97,Char.ofNat 100,Char.ofNat 100,Char.ofNat 108,Char.ofNat 101,Char.ofNat 47,Char.ofNat 114,Char.ofNat 97,Char.ofNat 100,Char.ofNat 100,Char.ofNat 108,Char.ofNat 101,Char.ofNat 108,Char.ofNat 97,Char.ofNat 119,Char.ofNat 50,Char.ofNat 50,Char.ofNat 46,Char.ofNat 67,Char.ofNat 105,Char.ofNat 114,Char.ofNat 99,Char.ofNat 79,Char.ofNat 114,Char.ofNat 100,Char.ofNat 101,Char.ofNat 114,Char.ofNat 32,Char.ofNat 114,Char.ofNat 97,Char.ofNat 100,Char.ofNat 100,Char.ofNat 108,Char.ofNat 101,Char.ofNat 47,Char.ofNat 114,Char.ofNat 97,Char.ofNat 100,Char.ofNat 100,Char.ofNat 108,Char.ofNat 101,Char.ofNat 108,Char.ofNat 97,Char.ofNat 119,Char.ofNat 50,Char.ofNat 50,Char.ofNat 46,Char.ofNat 67,Char.ofNat 105,Char.ofNat 114,Char.ofNat 99,Char.ofNat 82,Char.ofNat 101,Char.ofNat 102,Char.ofNat 117,Char.ofNat 115,Char.ofNat 101,Char.ofNat 115]
theorem words_eq:headIs Tryz.prog ([Char.ofNat 99,Char.ofNat 117,Char.ofNat 116]::[[Char.ofNat 97,Char.ofNat 116],[Char.ofNat 114,Char.ofNat 97,Char.ofNat 100,Char.ofNat 100,Char.ofNat 108,Char.ofNat 101,Char.ofNat 47,Char.ofNat 114,Char.ofNat 97,Char.ofNat 100,Char.ofNat 100,Char.ofNat 108,Char.ofNat 101,Char.ofNat 108,Char.ofNat 97,Char.ofNat 119,Char.ofNat 50,Char.ofNat 49,Char.ofNat 46,Char.ofNat 69,Char.ofNat 118,Char.ofNat 97,Char.ofNat 108,Char.ofNat 69,Char.ofNat 120,Char.ofNat 97,Char.ofNat 99,Char.ofNat 116],[Char.ofNat 114,Char.ofNat 97,Char.ofNat 100,Char.ofNat 100,Char.ofNat 108,Char.ofNat 101,Char.ofNat 47,Char.ofNat 114,Char.ofNat 97,Char.ofNat 100,Char.ofNat 100,Char.ofNat 108,Char.ofNat 101,Char.ofNat 108,Char.ofNat 97,Char.ofNat 119,Char.ofNat 50,Char.ofNat 49,Char.ofNat 46,Char.ofNat 69,Char.ofNat 118,Char.ofNat 97,Char.ofNat 108,Char.ofNat 76,Char.ofNat 105,Char.ofNat 110,Char.ofNat 101,Char.ofNat 97,Char.ofNat 114],[Char.ofNat 114,Char.ofNat 97,Char.ofNat 100,Char.ofNat 100,Char.ofNat 108,Char.ofNat 101,Char.ofNat 47,Char.ofNat 114,Char.ofNat 97,Char.ofNat 100,Char.ofNat 100,Char.ofNat 108,Char.ofNat 101,Char.ofNat 108,Char.ofNat 97,Char.ofNat 119,Char.ofNat 50,Char.ofNat 49,Char.ofNat 46,Char.ofNat 69,Char.ofNat 118,Char.ofNat 97,Char.ofNat 108,Char.ofNat 84,Char.ofNat 97,Char.ofNat 98,Char.ofNat 108,Char.ofNat 101],[Char.ofNat 114,Char.ofNat 97,Char.ofNat 100,Char.ofNat 100,Char.ofNat 108,Char.ofNat 101,Char.ofNat 47,Char.ofNat 114,Char.ofNat 97,Char.ofNat 100,Char.ofNat 100,Char.ofNat 108,Char.ofNat 101,Char.ofNat 108,Char.ofNat 97,Char.ofNat 119,Char.ofNat 50,Char.ofNat 49,Char.ofNat 46,Char.ofNat 69,Char.ofNat 118,Char.ofNat 97,Char.ofNat 108,Char.ofNat 78,Char.ofNat 111,Char.ofNat 100,Char.ofNat 101,Char.ofNat 115],[Char.ofNat 114,Char.ofNat 97,Char.ofNat 100,Char.ofNat 100,Char.ofNat 108,Char.ofNat 101,Char.ofNat 47,Char.ofNat 114,Char.ofNat 97,Char.ofNat 100,Char.ofNat 100,Char.ofNat 108,Char.ofNat 101,Char.ofNat 108,Char.ofNat 97,Char.ofNat 119,Char.ofNat 50,Char.ofNat 49,Char.ofNat 46,Char.ofNat 69,Char.ofNat 118,Char.ofNat 97,Char.ofNat 108,Char.ofNat 69,Char.ofNat 109,Char.ofNat 112,Char.ofNat 116,Char.ofNat 121],[Char.ofNat 114,Char.ofNat 97,Char.ofNat 100,Char.ofNat 100,Char.ofNat 108,Char.ofNat 101,Char.ofNat 47,Char.ofNat 114,Char.ofNat 97,Char.ofNat 100,Char.ofNat 100,Char.ofNat 108,Char.ofNat 101,Char.ofNat 108,Char.ofNat 97,Char.ofNat 119,Char.ofNat 50,Char.ofNat 49,Char.ofNat 46,Char.ofNat 69,Char.ofNat 118,Char.ofNat 97,Char.ofNat 108,Char.ofNat 85,Char.ofNat 110,Char.ofNat 117,Char.ofNat 115,Char.ofNat 101,Char.ofNat 100],[Char.ofNat 114,Char.ofNat 97,Char.ofNat 100,Char.ofNat 100,Char.ofNat 108,Char.ofNat 101,Char.ofNat 47,Char.ofNat 114,Char.ofNat 97,Char.ofNat 100,Char.ofNat 100,Char.ofNat 108,Char.ofNat 101,Char.ofNat 108,Char.ofNat 97,Char.ofNat 119,Char.ofNat 50,Char.ofNat 49,Char.ofNat 46,Char.ofNat 69,Char.ofNat 118,Char.ofNat 97,Char.ofNat 108,Char.ofNat 76,Char.ofNat 97,Char.ofNat 115,Char.ofNat 116],[Char.ofNat 114,Char.ofNat 97,Char.ofNat 100,Char.ofNat 100,Char.ofNat 108,Char.ofNat 101,Char.ofNat 47,Char.ofNat 114,Char.ofNat 97,Char.ofNat 100,Char.ofNat 100,Char.ofNat 108,Char.ofNat 101,Char.ofNat 108,Char.ofNat 97,Char.ofNat 119,Char.ofNat 50,Char.ofNat 49,Char.ofNat 46,Char.ofNat 69,Char.ofNat 118,Char.ofNat 97,Char.ofNat 108,Char.ofNat 67,Char.ofNat 111,Char.ofNat 117,Char.ofNat 110,Char.ofNat 116,Char.ofNat 115],[Char.ofNat 114,Char.ofNat 97,Char.ofNat 100,Char.ofNat 100,Char.ofNat 108,Char.ofNat 101,Char.ofNat 47,Char.ofNat 114,Char.ofNat 97,Char.ofNat 100,Char.ofNat 100,Char.ofNat 108,Char.ofNat 101,Char.ofNat 108,Char.ofNat 97,Char.ofNat 119,Char.ofNat 50,Char.ofNat 49,Char.ofNat 46,Char.ofNat 69,Char.ofNat 118,Char.ofNat 97,Char.ofNat 108,Char.ofNat 70,Char.ofNat 105,Char.ofNat 116,Char.ofNat 115],[Char.ofNat 114,Char.ofNat 97,Char.ofNat 100,Char.ofNat 100,Char.ofNat 108,Char.ofNat 101,Char.ofNat 47,Char.ofNat 114,Char.ofNat 97,Char.ofNat 100,Char.ofNat 100,Char.ofNat 108,Char.ofNat 101,Char.ofNat 108,Char.ofNat 97,Char.ofNat 119,Char.ofNat 50,Char.ofNat 50,Char.ofNat 46,Char.ofNat 67,Char.ofNat 105,Char.ofNat 114,Char.ofNat 99,Char.ofNat 83,Char.ofNat 117,Char.ofNat 109,Char.ofNat 115],[Char.ofNat 114,Char.ofNat 97,Char.ofNat 100,Char.ofNat 100,Char.ofNat 108,Char.ofNat 101,Char.ofNat 47,Char.ofNat 114,Char.ofNat 97,Char.ofNat 100,Char.ofNat 100,Char.ofNat 108,Char.ofNat 101,Char.ofNat 108,Char.ofNat 97,Char.ofNat 119,Char.ofNat 50,Char.ofNat 50,Char.ofNat 46,Char.ofNat 67,Char.ofNat 105,Char.ofNat 114,Char.ofNat 99,Char.ofNat 76,Char.ofNat 97,Char.ofNat 116,Char.ofNat 101,Char.ofNat 114],[Char.ofNat 114,Char.ofNat 97,Char.ofNat 100,Char.ofNat 100,Char.ofNat 108,Char.ofNat 101,Char.ofNat 47,Char.ofNat 114,Char.ofNat 97,Char.ofNat 100,Char.ofNat 100,Char.ofNat 108,Char.ofNat 101,Char.ofNat 108,Char.ofNat 97,Char.ofNat 119,Char.ofNat 50,Char.ofNat 50,Char.ofNat 46,Char.ofNat 67,Char.ofNat 105,Char.ofNat 114,Char.ofNat 99,Char.ofNat 66,Char.ofNat 97,Char.ofNat 99,Char.ofNat 107],[Char.ofNat 114,Char.ofNat 97,Char.ofNat 100,Char.ofNat 100,Char.ofNat 108,Char.ofNat 101,Char.ofNat 47,Char.ofNat 114,Char.ofNat 97,Char.ofNat 100,Char.ofNat 100,Char.ofNat 108,Char.ofNat 101,Char.ofNat 108,Char.ofNat 97,Char.ofNat 119,Char.ofNat 50,Char.ofNat 50,Char.ofNat 46,Char.ofNat 67,Char.ofNat 105,Char.ofNat 114,Char.ofNat 99,Char.ofNat 69,Char.ofNat 120,Char.ofNat 97,Char.ofNat 99,Char.ofNat 116],[Char.ofNat 114,Char.ofNat 97,Char.ofNat 100,Char.ofNat 100,Char.ofNat 108,Char.ofNat 101,Char.ofNat 47,Char.ofNat 114,Char.ofNat 97,Char.ofNat 100,Char.ofNat 100,Char.ofNat 108,Char.ofNat 101,Char.ofNat 108,Char.ofNat 97,Char.ofNat 119,Char.ofNat 50,Char.ofNat 50,Char.ofNat 46,Char.ofNat 67,Char.ofNat 105,Char.ofNat 114,Char.ofNat 99,Char.ofNat 84,Char.ofNat 119,Char.ofNat 111],[Char.ofNat 114,Char.ofNat 97,Char.ofNat 100,Char.ofNat 100,Char.ofNat 108,Char.ofNat 101,Char.ofNat 47,Char.ofNat 114,Char.ofNat 97,Char.ofNat 100,Char.ofNat 100,Char.ofNat 108,Char.ofNat 101,Char.ofNat 108,Char.ofNat 97,Char.ofNat 119,Char.ofNat 50,Char.ofNat 50,Char.ofNat 46,Char.ofNat 67,Char.ofNat 105,Char.ofNat 114,Char.ofNat 99,Char.ofNat 79,Char.ofNat 114,Char.ofNat 100,Char.ofNat 101,Char.ofNat 114],[Char.ofNat 114,Char.ofNat 97,Char.ofNat 100,Char.ofNat 100,Char.ofNat 108,Char.ofNat 101,Char.ofNat 47,Char.ofNat 114,Char.ofNat 97,Char.ofNat 100,Char.ofNat 100,Char.ofNat 108,Char.ofNat 101,Char.ofNat 108,Char.ofNat 97,Char.ofNat 119,Char.ofNat 50,Char.ofNat 50,Char.ofNat 46,Char.ofNat 67,Char.ofNat 105,Char.ofNat 114,Char.ofNat 99,Char.ofNat 82,Char.ofNat 101,Char.ofNat 102,Char.ofNat 117,Char.ofNat 115,Char.ofNat 101,Char.ofNat 115]]):=head_of (l:=signs) (by kernel_rfl) (by kernel_rfl)
theorem laid:laidOutB Tryz.prog=true:=by kernel_rfl
theorem rowed:mapsRowed Tryz.prog=true:=by kernel_rfl
theorem heard:Tryz.prog.stopsHeard=true:=by kernel_rfl
theorem plain:Tryz.prog.plainKeys=true:=by kernel_rfl
theorem doorRows:Tryz.prog.doorRows=[]:=by kernel_rfl
theorem laysLater:Tryz.prog.laysLater=false:=by kernel_rfl
theorem bearsReflect:Tryz.prog.bearsReflect=false:=by kernel_rfl
theorem cutMade:Tryz.prog.make=some .cut:=make_of words_eq (by kernel_rfl) (by kernel_rfl)
theorem cutLifts:Tryz.prog.liftsFinal=false:=lifts_of words_eq (by kernel_rfl) (by kernel_rfl) (by kernel_rfl)
theorem cutEnter:Tryz.prog.mayEnter=true:=enter_of words_eq (by kernel_rfl) (by kernel_rfl) (by kernel_rfl) (by kernel_rfl) doorRows laysLater bearsReflect
end Yt
