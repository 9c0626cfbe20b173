/- Contracts of the program's functions over abstract values and states, plain facts on which these lean, and the framework of these values over the model. The conditions stand in each theorem. -/
import Derived.Test.YtogndnaffdkanaaGreatBc
import Derived.Test.YtogndnaffdkanaaGreatBd
import Derived.Test.YtogndnaffdkanaaGreatBb
set_option linter.all false
set_option maxRecDepth 10000
set_option maxHeartbeats 16000000
namespace Yt
open Go Go.Vc Go.Proofs
structure Nd where
 types:List Int
 w:Int
 v:Int
def Nd.c (n:Nd):List AV:=[intsL n.types,iA n.w,iA n.v]
def ndO (D:List Nd):Ob:=⟨3,D.map Nd.c⟩
theorem ndO_leafy (D:List Nd):(ndO D).leafy:=by rw[ndO,leafy_do];exact leafs2_map λx _=>by simp[Nd.c,leafs,iA,intsL,AV.leaf]
def formsA (F:List (List Int)):AV:=.im 1 (F.map λl=>[intsL l])
def boxO (F:List (List Int)) (d n:Nat):Ob:=⟨2,[[formsA F,.rf d 0 n]]⟩
def wO (F:List (List Int)) (D:List Nd):Nat->Option Ob:=mkO [(0,boxO F 3000 D.length),(3000,ndO D)]
def wU:List Nat:=[0,3000]
def SpecW (f:Nat) (F:List (List Int)) (D:List Nd) (args:List AV) (R:AV->Prop):Prop:=
 FunSpecD Tryz.prog f (.pt 0 0 0::args) (kept true (wO F D)) (wO F D) wU λr O'=>(R r/\r.noId=true)/\O'=wO F D
theorem wO_cases {F:List (List Int)} {D:List Nd} {i:Nat} {o:Ob} (h:wO F D i=some o):(i=0/\o=boxO F 3000 D.length)\/(i=3000/\o=ndO D):=by
 simp only[wO,mkO,upd] at h;split at h
 ·rename_i e;cases h;first|exact .inl ⟨e,rfl⟩|exact .inl ⟨e.symm,rfl⟩
 ·split at h
  ·rename_i e;cases h;first|exact .inr ⟨e,rfl⟩|exact .inr ⟨e.symm,rfl⟩
  ·simp[noOb] at h
theorem ndO_rn (ρ:Nat->Nat) (D:List Nd):(ndO D).rn ρ=ndO D:=by simp only[ndO,Ob.rn,List.map_map];congr 1
theorem wO_closed {F:List (List Int)} {D:List Nd} {i:Nat} {o:Ob} (h:wO F D i=some o):i∈wU/\∀x∈o.es,inNs (·∈wU) x:=by
 rcases wO_cases h with ⟨rfl,rfl⟩|⟨rfl,rfl⟩
 ·refine ⟨by simp[wU],λx hx=>?_⟩;simp only[boxO,List.mem_singleton] at hx;subst hx;exact ⟨trivial,by show 3000∈wU;simp[wU],trivial⟩
 ·refine ⟨by simp[wU],λx hx=>?_⟩;obtain ⟨v,_,rfl⟩:=List.mem_map.1 hx;exact ⟨trivial,trivial,trivial,trivial⟩
def rhoW (a d:Nat) (x:Nat):Nat:=if x=0 then a else d
theorem kept_0 {O:Nat->Option Ob}:∀i,kept true O i≠none->i=0:=λi h=>by
 simp only[kept,true_and] at h;split at h
 ·assumption
 ·exact absurd rfl h
theorem FINw {l:List ResultVar} {K:AV->(Nat->Option Ob)->Prop} {st:St} {F:List (List Int)} {D:List Nd} {O0:Nat->Option Ob} (h0:∀i,O0 i≠none->i=0) (rl:List (Nat×AV)) (hm:nmOk [(0,some 0),(3000,some 3000)] [0,3000]=true)
 (h:ents st [(0,some 0),(3000,some 3000)] rl/\eobs st [(0,some 0),(3000,some 3000)] [(0,boxO F 3000 D.length),(3000,ndO D)]) (k:hRes T (mkS rl [(0,boxO F 3000 D.length),(3000,ndO D)] [0,3000]) l λv=>K v (wO F D)):FIN T O0 l K st:=by
 have he:Ent st (mkS rl [(0,boxO F 3000 D.length),(3000,ndO D)] [0,3000]):=ent_to [(0,some 0),(3000,some 3000)] rfl hm ⟨λ_=>by simp,h.1,h.2⟩;exact ⟨mkS rl [(0,boxO F 3000 D.length),(3000,ndO D)] [0,3000],λF' n a w hF R=>he F' n a w (λi hi=>h0 i (by rw[<- hF];exact hi)) R,k⟩
structure PN where
 kind:Int
 a:Int
 b:Int
 table:Int
 pred:Pr
 cols:List Int
 others:List Int
 agg:Int
 col:Int
def PN.c (x:PN):List AV:=[iA x.kind,iA x.a,iA x.b,iA x.table,iA x.pred.kind,iA x.pred.col,iA x.pred.other,iA x.pred.val.k,iA x.pred.val.i,.pr (.string x.pred.val.s),intsL x.cols,intsL x.others,iA x.agg,iA x.col]
theorem d204 (F:List (List Int)) (D:List Nd) (k:Int):Spec0 Tryz.prog 204 [.ro [formsA F,.im 3 (D.map Nd.c)] 0,iA k] (·=bA (inC k D.length)):=by
 refine spec0_of_vc tabOk elems ord204 Tryz.func204 rfl (rl:=[.tmp 4]) rfl (by kernel_rfl) rfl ?_;refine Bc ?_;refine VIF.split (λh=>?_) (λh=>?_)
 ·refine Aa ?_;simp at h;simp[h,inC,bA]
 ·refine Aa ?_;simp at h;simp[inC,bA];intro;omega
theorem d218 (n:Nat) (c:Int):Spec0 Tryz.prog 218 [iA c,.ro [iA n] 0] (·=bA (outC n c)):=by
 refine spec0_of_vc tabOk elems ord218 Tryz.func218 rfl (rl:=[.tmp 3]) rfl (by kernel_rfl) rfl ?_;refine Ab ?_;refine VIF.split (λh=>?_) (λh=>?_)
 ·refine Aa ?_;simp at h;simp[outC,bA,h]
 ·refine Aa ?_;have h:¬c<0:=(by simpa using h);simp[outC,bA,h]
theorem d206 (l:List Int) (n:Nat) (hl:l.length<1073741824):Spec0 Tryz.prog 206 [intsL l,iA n] (·=bA (!l.any (outC n))):=by
 refine spec0_of_vc tabOk elems ord206 Tryz.func206 rfl (rl:=[.tmp 4]) rfl (by kernel_rfl) rfl ?_;refine Au ?_;refine .lendTo (c102 218 [.ro [iA n] 0] rfl (outC n) l (λc _=>d218 n c) (by omega)) ?_ (by rintro _ rfl;rfl) λq hq=>?_
 ·(simp -implicitDefEqProofs only[go_sem,iA,intsL];repeat (refine GO ?_;simp -implicitDefEqProofs only[go_sem,iA,intsL]))
 subst hq;exact Ai
def getI (t:List Int) (c:Int):Int:=(t[c.toNat]?).getD 0
def pickI (t l:List Int):List Int:=l.map (getI t)
def io (l:List Int):Ob:=⟨1,l.map λn=>[iA n]⟩
theorem io_leafy (l:List Int):(io l).leafy:=intsL_leafy l
theorem io_snoc {st:St} {m:List (Nat×Option Nat)} {l l':List Int} {n:Int} (h:l'=l++[n]):Es st m (List.map (λn=>[iA n]) l++[[iA n]]) (List.map (λn=>[iA n]) l'):=by subst h;rw[List.map_append];exact .same (io (l++[n])) _ _ (λx hx=>io_leafy (l++[n]) x (by rw[io,List.map_append];exact hx)) rfl
theorem d207 (t l:List Int) (hl:l.length<1073741824) (h:l.any (outC t.length)=false):Spec1 Tryz.prog 207 [intsL t,intsL l] (λr o=>r=.rf 0 0 l.length/\o=io (pickI t l)):=by
 refine spec1_of_vc tabOk elems ord207 Tryz.func207 rfl (rl:=[.tmp 4]) rfl (by kernel_rfl) rfl ?_;refine A5 ?_;refine LOOP.mk (ι:={i:Nat//i<=l.length}) (λp=>mkS [(0,intsL t),(5,.rf 1000 0 p.1),(8,intsL l),(9,iA l.length),(10,iA p.1)] [(1000,io (pickI t (l.take p.1)))] [1000]) (λp=>l.length-p.1) ⟨0,Nat.zero_le _⟩ [(1000,none)] rfl rfl ?_ (λp=>?_)
 ·refine Ct ?_;exact ⟨id,rfl,rfl⟩
 obtain ⟨i,hi⟩:=p;refine Ct ?_;refine VIF.split (λh1=>?_) (λh1=>?_)
 ·have h1:i<l.length:=(by simpa using h1);have w1:=wrap_add1 (show i<4611686018427387904 by omega);obtain ⟨g1,g2⟩:0<=l[i]/\l[i].toNat<t.length:=by
   rw[List.any_eq_false] at h;have:=h l[i] (List.getElem_mem h1);simp[outC] at this;omega
  refine Aa ?_;refine EL.map h1 ?_;refine Ab ?_;refine ⟨g1,EL.map g2 ?_⟩;refine Ab ?_;refine ⟨by omega,?_⟩;refine Ak ?_;refine BACK.mk ⟨i+1,by omega⟩ [(1000,some 20)] rfl rfl (by show l.length-(i+1)<l.length-i;omega) ?_;refine Ec ?_;have hgv:getI t l[i]=t[l[i].toNat]'g2:=(by simp[getI,g2]);rw[List.take_of_length_le (l:=List.map _ (pickI t (l.take i))) (by simp[pickI];omega)];refine ⟨id,io_snoc (l:=pickI t (l.take i)) (n:=t[l[i].toNat]'g2) ?_⟩;rw[pickI,pickI,List.take_succ_eq_append_getElem h1,List.map_append,<- hgv];rfl
 ·have h1:i=l.length:=by simp at h1;omega
  subst h1;refine Bm ?_;refine FINmk [(0,some 1000)] [(4,.rf 0 0 l.length)] [(0,io (pickI t l))] [0] rfl ?_ ?_
  ·refine Ez ?_;exact .same (io (pickI t l)) _ _ (io_leafy (pickI t l)) rfl
  ·exact ⟨io (pickI t l),⟨⟨rfl,rfl⟩,rfl⟩,io_leafy (pickI t l),rfl⟩
theorem d208 (a b:List Int) (ha:a.length<4611686018427387904) (hb:b.length<4611686018427387904):Spec0 Tryz.prog 208 [intsL a,intsL b] (·=bA (decide (a=b))):=by
 refine spec0_of_vc tabOk elems ord208 Tryz.func208 rfl (rl:=[.tmp 4]) rfl (by kernel_rfl) rfl ?_;refine A5 ?_;refine VIF.split (λh=>?_) (λh=>?_)
 ·have h:a.length≠b.length:=by simp at h;omega
  refine Aa ?_;have:a≠b:=λe=>h (by rw[e]);simp[this,bA]
 have h:a.length=b.length:=by simp at h;omega
 refine Aa ?_;refine LOOP.mk (ι:={i:Nat//i<=a.length/\∀j (h1:j<a.length) (h2:j<b.length),j<i->a[j]=b[j]}) (λp=>mkS [(0,intsL a),(1,intsL b),(12,iA a.length),(13,iA p.1)] [] []) (λp=>a.length-p.1) ⟨0,Nat.zero_le _,λj _ _ h=>absurd h (Nat.not_lt_zero _)⟩ [] rfl rfl ?_ (λp=>?_)
 ·refine Au ?_;exact ⟨id,rfl⟩
 obtain ⟨i,hi,hg⟩:=p;refine Au ?_;refine VIF.split (λh1=>?_) (λh1=>?_)
 ·have h1:i<a.length:=(by simpa using h1);have h2:i<b.length:=(by omega);have w1:=wrap_add1 (show i<4611686018427387904 by omega);refine Aa ?_;refine EL.map h1 ?_;refine Ab ?_;refine EL.map h2 ?_;refine Ab ?_;refine VIF.split (λh3=>?_) (λh3=>?_)
  ·have h3:a[i]≠b[i]:=(by simpa using h3);refine Aa ?_;have:a≠b:=λe=>h3 (by subst e;rfl);simp[this,bA]
  ·have h3:a[i]=b[i]:=(by simpa using h3);refine Ak ?_;refine BACK.mk ⟨i+1,by omega,λj q1 q2 hji=>if e:j=i then (by subst e;exact h3) else hg j q1 q2 (by omega)⟩ [] rfl rfl (by show a.length-(i+1)<a.length-i;omega) ?_;refine Dq ?_;exact id
 ·have h1:i=a.length:=by simp at h1;omega
  have e:a=b:=List.ext_getElem h λj q1 q2=>hg j q1 q2 (by omega);refine Aa ?_;simp[e,bA]
theorem d209 (a b m:Int) (ha:0<=a/\a<=4611686018427387904) (hb:0<=b/\b<=4611686018427387904) (hm:0<=m/\m<=4611686018427387904):Spec0 Tryz.prog 209 [iA a,iA b,iA m] (·=.tu [iA (if a*b<=m then a*b else 0),bA (decide (a*b<=m))]):=by
 have wa:=wrap_u64 (x:=a) (by omega) (by omega);have wb:=wrap_u64 (x:=b) (by omega) (by omega);have wm:=wrap_u64 (x:=m) (by omega) (by omega);refine spec0_of_vc tabOk elems ord209 Tryz.func209 rfl (rl:=[.tmp 6,.tmp 7]) rfl (by kernel_rfl) rfl ?_;(simp -implicitDefEqProofs only[go_sem,iA,wa,wb,wm];repeat (refine GO ?_;simp -implicitDefEqProofs only[go_sem,iA,wa,wb,wm]));refine .pure _ (show Spec0 Tryz.prog 147 [uA a,uA b] _ from c115 a b (by omega) (by omega)) rfl λr hq _=>?_;subst hq;refine Ev ?_;have hab:=Int.mul_nonneg ha.1 hb.1;refine VIF.split (λh=>?_) (λh=>?_)
 ·have h:0<a*b / 18446744073709551616:=(by simpa using h);have h2:¬a*b<=m:=(by omega);refine Aa ?_;simp[h2,bA,iA]
 have h:¬0<a*b / 18446744073709551616:=by simpa using h
 have hlo:a*b%18446744073709551616=a*b:=by omega
 rw[hlo];(simp -implicitDefEqProofs only[go_sem,wm];repeat (refine GO ?_;simp -implicitDefEqProofs only[go_sem,wm]));refine VIF.split (λh=>?_) (λh=>?_)
 ·have h2:¬a*b<=m:=by simp at h;omega
  refine Aa ?_;simp[h2,bA,iA]
 have h2:a*b<=m:=by simp at h;omega
 have w2:IntKind.i64.wrap (a*b)=a*b:=by rw[wrap_i64]<;>omega
 refine Bv ?_;simp[h2,bA,iA]
theorem d217 (p:Pr):Spec0 Tryz.prog 217 [.ag p.c] (·=bA (decide (p.kind=1)||decide (p.kind=2))):=by
 refine spec0_of_vc tabOk elems ord217 Tryz.func217 rfl (rl:=[.tmp 2]) rfl (by kernel_rfl) rfl ?_;refine Bl ?_;refine VIF.split (λh=>?_) (λh=>?_)
 ·refine Aa ?_;simp at h;simp[h,bA]
 ·refine Aa ?_;simp at h;simp[h,bA]
end Yt
namespace Yt
open Go Go.Vc
def og188:Ords
 | 1=>some (.lin [Hs 0,Hs 1,Hs 2,Hy 3,Hs 4,Hs 5,Hs 6,Hs 7,Hs 8,Hs 9,Hs 10,Hs 11,Hs 12])
 | 3=>some (.lin [Hs 1,Hs 2,Hs 3,Hv 4,Hs 5,Hv 6,Hv 7,Hs 8,Hv 9,Hw 0,Hw 10,Hs 11,Ht 12,Hs 13])
 | _=>none
@[go_sem] theorem og188_0:og188 0=none:=rfl
attribute [go_sem] og188.eq_1
@[go_sem] theorem og188_2:og188 2=none:=rfl
attribute [go_sem] og188.eq_2
def og189:Ords
 | 3=>some (.lin [Hs 0,Hs 1,Hs 2,Hv 3,Hs 4,Hv 5,Hv 6,Hv 7,Hw 8,Hw 9])
 | 4=>some (.lin [Hv 0,Hs 1,Hs 2,Hs 3,Hs 4,Hw 5,Ht 6,Hs 7])
 | _=>none
@[go_sem] theorem og189_0:og189 0=none:=rfl
@[go_sem] theorem og189_1:og189 1=none:=rfl
@[go_sem] theorem og189_2:og189 2=none:=rfl
@[go_sem] theorem og189_3:og189 3=some (.lin [Hs 0,Hs 1,Hs 2,Hv 3,Hs 4,Hv 5,Hv 6,Hv 7,Hw 8,Hw 9]):=rfl
attribute [go_sem] og189.eq_2
def og190:Ords
 | 1=>some (.lin [Hs 0,Hs 1,Hs 2,Ht 3,Hs 4,Hy 5,Hs 6,Hs 7,Hs 8,Hs 9,Hs 10,Hs 11,Hs 12,Hs 13,Hs 14,Hs 15,Hs 16,Hs 17,Ht 18,Hs 19,Hs 20,Hs 21])
 | 5=>some (.lin [Hs 0,Hs 1,Hs 2,Hv 3,Hs 4,Hv 5,Hv 6,Hv 7,Hw 8,Hw 9])
 | 6=>some (.lin [Hs 0,Hs 1,Hs 2,Hs 3,Hs 5,Hv 6,Hs 7,Hv 8,Hw 4,Hs 9,Ht 10,Hs 11])
 | _=>none
@[go_sem] theorem og190_0:og190 0=none:=rfl
attribute [go_sem] og190.eq_1
@[go_sem] theorem og190_2:og190 2=none:=rfl
@[go_sem] theorem og190_3:og190 3=none:=rfl
@[go_sem] theorem og190_4:og190 4=none:=rfl
attribute [go_sem] og190.eq_2
attribute [go_sem] og190.eq_3
def og191:Ords
 | 1=>some (.lin [Ht 0,Ht 1,Ht 2,Ht 3,Ht 4,Hu 5,Ht 6,Ht 7,Ht 8,Ht 9,Ht 10,Ht 11])
 | 3=>some (.forkq [Hs 0,Hs 1,Hs 2,Hv 3,Hs 4,Hv 5,Hv 6,Hv 7,Hs 8,Hs 9,Hs 10,Hv 11,Hs 12,Hv 13,Hv 14,Hv 15] 16 true (.lin [Hw 17,Hw 18,Hw 19]) 17 true (.lin [Hw 16,Hw 18,Hw 19]))
 | 4=>some (.lin [Ht 0,Ht 1,Ht 2,Ht 3,Ht 4,Ht 5,Ht 6,Hu 7,Ht 8,Ht 9,Ht 10,Ht 11,Ht 12,Ht 13,Ht 14,Ht 15,Ht 16])
 | 6=>some (.lin [Ht 0,Ht 1,Ht 2,Ht 3,Ht 4,Ht 5,Ht 6,Hu 7,Ht 8,Ht 9,Ht 10,Ht 11,Ht 12,Ht 13,Ht 14,Ht 15,Ht 16,Ht 17])
 | 8=>some (.lin [Hs 0,Hs 1,Hs 2,Hs 3,Hs 5,Hv 6,Hs 7,Hv 8,Hw 4,Hw 9,Hw 10,Hs 11,Hs 12])
 | 13=>some (.lin [Hs 0,Hs 1,Hs 2,Hs 3,Hs 6,Hs 7,Hv 8,Hs 9,Hv 10,Hs 11,Hw 4,Hw 5,Hs 12,Ht 13,Hs 14])
 | _=>none
@[go_sem] theorem og191_0:og191 0=none:=rfl
attribute [go_sem] og191.eq_1
@[go_sem] theorem og191_2:og191 2=none:=rfl
attribute [go_sem] og191.eq_2
attribute [go_sem] og191.eq_3
@[go_sem] theorem og191_5:og191 5=none:=rfl
attribute [go_sem] og191.eq_4
@[go_sem] theorem og191_7:og191 7=none:=rfl
attribute [go_sem] og191.eq_5
@[go_sem] theorem og191_9:og191 9=none:=rfl
@[go_sem] theorem og191_10:og191 10=none:=rfl
@[go_sem] theorem og191_11:og191 11=none:=rfl
@[go_sem] theorem og191_12:og191 12=none:=rfl
attribute [go_sem] og191.eq_6
def og192:Ords
 | 1=>some (.lin [Ht 0,Ht 1,Ht 2,Ht 3,Ht 4,Hu 5,Ht 6,Ht 7,Ht 8,Ht 9,Ht 10,Ht 11])
 | 3=>some (.forkq [Hs 0,Hs 1,Hs 2,Hv 3,Hs 4,Hv 5,Hv 6,Hv 7,Hs 8,Hs 9,Hs 10,Hv 11,Hs 12,Hv 13,Hv 14,Hv 15] 16 true (.lin [Hw 17,Hw 18,Hw 19]) 17 true (.lin [Hw 16,Hw 18,Hw 19]))
 | _=>none
@[go_sem] theorem og192_0:og192 0=none:=rfl
attribute [go_sem] og192.eq_1
@[go_sem] theorem og192_2:og192 2=none:=rfl
attribute [go_sem] og192.eq_2
@[go_sem] theorem og192_4:og192 4=none:=rfl
@[go_sem] theorem og192_5:og192 5=none:=rfl
@[go_sem] theorem og192_6:og192 6=none:=rfl
@[go_sem] theorem og192_7:og192 7=none:=rfl
@[go_sem] theorem og192_8:og192 8=none:=rfl
def og194:Ords
 | 1=>some (.lin [Ht 0,Ht 1,Ht 2,Ht 3,Ht 4,Hu 5,Ht 6,Ht 7,Ht 8,Ht 9,Hu 10,Ht 11,Ht 12,Ht 13,Ht 14])
 | 3=>some (.lin [Hs 0,Hs 1,Hs 2,Hv 3,Hs 4,Hv 5,Hv 6,Hv 7,Hw 8,Hw 9])
 | 4=>some (.lin [Ht 0,Ht 1,Ht 2,Ht 3,Ht 4,Ht 5,Ht 6,Hu 7,Ht 8,Ht 9,Ht 10,Hu 11,Ht 12,Ht 13,Ht 14,Ht 15,Ht 16,Ht 17,Ht 18,Ht 19,Ht 20,Ht 21,Ht 22])
 | 8=>some (.lin [Ht 0,Ht 1,Ht 2,Hu 3,Ht 4,Ht 5,Ht 6,Ht 7,Ht 8,Ht 9,Ht 10,Ht 11,Ht 12])
 | 10=>some (.lin [Hs 0,Hs 1,Hs 2,Hs 3,Hs 4])
 | 17=>some (.lin [Ht 0,Ht 1,Hu 2,Ht 3,Ht 4,Ht 5])
 | 19=>some (.forkq [Hs 0,Hv 1,Hs 2,Hv 3,Hs 5,Hs 8,Hv 9,Hs 10,Hv 11,Hs 12,Hs 13] 4 true (.lin [Hw 6,Hw 7,Hs 14,Ht 15,Hs 16]) 6 true (.lin [Hw 4,Hw 7,Hs 14,Ht 15,Hs 16]))
 | _=>none
@[go_sem] theorem og194_0:og194 0=none:=rfl
attribute [go_sem] og194.eq_1
@[go_sem] theorem og194_2:og194 2=none:=rfl
attribute [go_sem] og194.eq_2
attribute [go_sem] og194.eq_3
@[go_sem] theorem og194_5:og194 5=none:=rfl
@[go_sem] theorem og194_6:og194 6=none:=rfl
@[go_sem] theorem og194_7:og194 7=none:=rfl
attribute [go_sem] og194.eq_4
@[go_sem] theorem og194_9:og194 9=none:=rfl
attribute [go_sem] og194.eq_5
@[go_sem] theorem og194_11:og194 11=none:=rfl
@[go_sem] theorem og194_13:og194 13=none:=rfl
@[go_sem] theorem og194_14:og194 14=none:=rfl
@[go_sem] theorem og194_15:og194 15=none:=rfl
@[go_sem] theorem og194_16:og194 16=none:=rfl
@[go_sem] theorem og194_12:og194 12=none:=rfl
attribute [go_sem] og194.eq_6
@[go_sem] theorem og194_18:og194 18=none:=rfl
attribute [go_sem] og194.eq_7
def og157:Ords
 | _=>none
@[go_sem] theorem og157_0:og157 0=none:=rfl
@[go_sem] theorem og157_1:og157 1=none:=rfl
@[go_sem] theorem og157_2:og157 2=none:=rfl
@[go_sem] theorem og157_3:og157 3=none:=rfl
@[go_sem] theorem og157_4:og157 4=none:=rfl
@[go_sem] theorem og157_5:og157 5=none:=rfl
@[go_sem] theorem og157_6:og157 6=none:=rfl
@[go_sem] theorem og157_7:og157 7=none:=rfl
@[go_sem] theorem og157_8:og157 8=none:=rfl
@[go_sem] theorem og157_9:og157 9=none:=rfl
@[go_sem] theorem og157_10:og157 10=none:=rfl
@[go_sem] theorem og157_11:og157 11=none:=rfl
@[go_sem] theorem og157_12:og157 12=none:=rfl
@[go_sem] theorem og157_13:og157 13=none:=rfl
@[go_sem] theorem og157_14:og157 14=none:=rfl
@[go_sem] theorem og157_15:og157 15=none:=rfl
@[go_sem] theorem og157_16:og157 16=none:=rfl
@[go_sem] theorem og157_17:og157 17=none:=rfl
def og108:Ords
 | 4=>some (.lin [Ht 0,Ht 1,Ht 2,Hu 3,Ht 4,Ht 5,Ht 6,Ht 7,Ht 8])
 | 13=>some (.lin [Hs 0,Hs 1,Hs 2,Hs 3,Hv 4,Hs 5,Hw 6,Ht 7,Hs 8,Hs 9,Ht 10])
 | _=>none
@[go_sem] theorem og108_0:og108 0=none:=rfl
@[go_sem] theorem og108_1:og108 1=none:=rfl
@[go_sem] theorem og108_2:og108 2=none:=rfl
@[go_sem] theorem og108_3:og108 3=none:=rfl
attribute [go_sem] og108.eq_1
@[go_sem] theorem og108_5:og108 5=none:=rfl
@[go_sem] theorem og108_6:og108 6=none:=rfl
@[go_sem] theorem og108_7:og108 7=none:=rfl
@[go_sem] theorem og108_8:og108 8=none:=rfl
@[go_sem] theorem og108_9:og108 9=none:=rfl
@[go_sem] theorem og108_10:og108 10=none:=rfl
@[go_sem] theorem og108_11:og108 11=none:=rfl
@[go_sem] theorem og108_12:og108 12=none:=rfl
attribute [go_sem] og108.eq_2
@[go_sem] theorem og108_14:og108 14=none:=rfl
@[go_sem] theorem og108_15:og108 15=none:=rfl
end Yt
namespace Yt
open Go Go.Vc Go.Proofs
def typeOk (t:Int):Bool:=decide (t=2)||decide (t=3)||decide (t=4)
def fitsV (v:V) (t:Int):Bool:=typeOk t&&okV v&&(decide (v.k=t)||decide (v.k=1))
theorem d113 (v:V) (t:Int):Spec0 Tryz.prog 113 [.ag v.c,iA t] (·=bA (fitsV v t)):=by
 refine spec0_of_vc tabOk elems ord113 Tryz.func113 rfl (rl:=[.tmp 4]) rfl (by kernel_rfl) rfl ?_;refine Bi ?_;refine VIF.split (λh1=>?_) (λh1=>?_)
 ·have h1:t=2:=(by simpa using h1);refine Ao ?_;refine .pure _ (show Spec0 Tryz.prog 159 [.ag v.c] _ from s69 v) rfl λq hq _=>?_;subst hq;refine Ab ?_;refine VIF.split (λg1=>?_) (λg1=>?_)
  ·have g1:okV v=true:=by
    cases h:okV v with
    | true=>rfl
    | false=>rw[h] at g1;simp at g1
   refine Aa ?_;refine VIF.split (λg2=>?_) (λg2=>?_)
   ·have g2:v.k=t:=(by simpa using g2);refine Aa ?_;simp[fitsV,typeOk,h1,g1,g2,bA]
   ·have g2:v.k≠t:=(by simpa using g2);rw[h1] at g2;refine Aa ?_;simp[fitsV,typeOk,h1,g1,g2,bA]
  ·have g1:okV v=false:=by
    cases h:okV v with
    | false=>rfl
    | true=>rw[h] at g1;simp at g1
   refine Aa ?_;simp[fitsV,g1,bA]
 have h1:t≠2:=by simpa using h1
 refine Aa ?_;refine VIF.split (λh2=>?_) (λh2=>?_)
 ·have h2:t=3:=(by simpa using h2);refine Ao ?_;refine .pure _ (show Spec0 Tryz.prog 159 [.ag v.c] _ from s69 v) rfl λq hq _=>?_;subst hq;refine Ab ?_;refine VIF.split (λg1=>?_) (λg1=>?_)
  ·have g1:okV v=true:=by
    cases h:okV v with
    | true=>rfl
    | false=>rw[h] at g1;simp at g1
   refine Aa ?_;refine VIF.split (λg2=>?_) (λg2=>?_)
   ·have g2:v.k=t:=(by simpa using g2);refine Aa ?_;simp[fitsV,typeOk,h2,g1,g2,bA]
   ·have g2:v.k≠t:=(by simpa using g2);rw[h2] at g2;refine Aa ?_;simp[fitsV,typeOk,h2,g1,g2,bA]
  ·have g1:okV v=false:=by
    cases h:okV v with
    | false=>rfl
    | true=>rw[h] at g1;simp at g1
   refine Aa ?_;simp[fitsV,g1,bA]
 have h2:t≠3:=by simpa using h2
 refine Aa ?_;refine VIF.split (λh3=>?_) (λh3=>?_)
 ·have h3:t=4:=(by simpa using h3);refine Ao ?_;refine .pure _ (show Spec0 Tryz.prog 159 [.ag v.c] _ from s69 v) rfl λq hq _=>?_;subst hq;refine Ab ?_;refine VIF.split (λg1=>?_) (λg1=>?_)
  ·have g1:okV v=true:=by
    cases h:okV v with
    | true=>rfl
    | false=>rw[h] at g1;simp at g1
   refine Aa ?_;refine VIF.split (λg2=>?_) (λg2=>?_)
   ·have g2:v.k=t:=(by simpa using g2);refine Aa ?_;simp[fitsV,typeOk,h3,g1,g2,bA]
   ·have g2:v.k≠t:=(by simpa using g2);rw[h3] at g2;refine Aa ?_;simp[fitsV,typeOk,h3,g1,g2,bA]
  ·have g1:okV v=false:=by
    cases h:okV v with
    | false=>rfl
    | true=>rw[h] at g1;simp at g1
   refine Aa ?_;simp[fitsV,g1,bA]
 have h3:t≠4:=by simpa using h3
 refine Aa ?_;simp[fitsV,typeOk,h1,h2,h3,bA]
def givenP (p:Pr):Bool:=decide (p.kind=1)||decide (p.kind=2)
def predE (p:Pr) (types:List Int):Int:=
 if p.kind<1\/6<p.kind\/inC p.col types.length=false\/(otherP p=true/\inC p.other types.length=false)\/(givenP p=true/\okV p.val=false) then 1
 else if (givenP p=true/\fitsV p.val (getI types p.col)=false)\/(otherP p=true/\getI types p.other≠getI types p.col) then 10 else 0
theorem d205 (p:Pr) (t:List Int) (ht:t.length<1073741824):Spec0 Tryz.prog 205 [.ag p.c,intsL t] (·=iA (predE p t)):=by
 refine spec0_of_vc tabOk elems ord205 Tryz.func205 rfl (rl:=[.tmp 4]) rfl (by kernel_rfl) rfl ?_;refine Gl ?_;have bad:(p.kind<1\/6<p.kind\/inC p.col t.length=false\/(otherP p=true/\inC p.other t.length=false)\/(givenP p=true/\okV p.val=false))->AV.pr (.int .i64 1)=iA (predE p t):=λh=>by rw[predE,if_pos h];rfl
 refine VIF.split (λh1=>?_) (λh1=>?_)
 ·refine Aa ?_;exact bad (.inl (by simpa using h1))
 have h1:¬p.kind<1:=by simpa using h1
 refine Aa ?_;refine VIF.split (λh2=>?_) (λh2=>?_)
 ·refine Aa ?_;exact bad (.inr (.inl (by simpa using h2)))
 have h2:¬6<p.kind:=by simpa using h2
 refine Aa ?_;refine .pure _ (show Spec0 Tryz.prog 142 [iA p.col,iA t.length] _ from c99 p.col t.length) rfl λq hq _=>?_;subst hq;refine Ad ?_;refine VIF.split (λh3=>?_) (λh3=>?_)
 ·refine Aa ?_;exact bad (.inr (.inr (.inl (by simpa using h3))))
 have h3:inC p.col t.length=true:=by simpa using h3
 refine Bl ?_;refine .pure _ (show Spec0 Tryz.prog 143 [.ag p.c] _ from c100 p) rfl λq hq _=>?_;subst hq;refine Ad ?_;have hc:0<=p.col/\p.col.toNat<t.length:=by simp[inC] at h3;omega
 have hgc:getI t p.col=t[p.col.toNat]'hc.2:=by simp[getI,hc.2]
 refine VIF.split (λh4=>?_) (λh4=>?_)
 ·refine Aa ?_;refine .pure _ (show Spec0 Tryz.prog 142 [iA p.other,iA t.length] _ from c99 p.other t.length) rfl λq hq _=>?_;subst hq;refine Ad ?_;refine VIF.split (λh5=>?_) (λh5=>?_)
  ·refine Aa ?_;exact bad (.inr (.inr (.inr (.inl ⟨h4,by simpa using h5⟩))))
  have h5:inC p.other t.length=true:=(by simpa using h5);have hd:0<=p.other/\p.other.toNat<t.length:=by simp[inC] at h5;omega
  have hgd:getI t p.other=t[p.other.toNat]'hd.2:=(by simp[getI,hd.2]);refine Bl ?_;refine .pure _ (show Spec0 Tryz.prog 217 [.ag p.c] _ from d217 p) rfl λq hq _=>?_;subst hq;refine Ad ?_;refine VIF.split (λh6=>?_) (λh6=>?_)
  ·refine Ao ?_;refine .pure _ (show Spec0 Tryz.prog 159 [.ag p.val.c] _ from s69 p.val) rfl λq hq _=>?_;subst hq;refine Ab ?_;refine VIF.split (λh7=>?_) (λh7=>?_)
   ·refine Aa ?_;have h7:okV p.val=false:=by
     cases h:okV p.val with
     | false=>rfl
     | true=>rw[h] at h7;simp at h7
    exact bad (.inr (.inr (.inr (.inr ⟨h6,h7⟩))))
   have h7:okV p.val=true:=by
    cases h:okV p.val with
    | true=>rfl
    | false=>rw[h] at h7;simp at h7
   refine Bl ?_;refine .pure _ (show Spec0 Tryz.prog 217 [.ag p.c] _ from d217 p) rfl λq hq _=>?_;subst hq;refine Ad ?_;refine VIF.split (λ_=>?_) (λh=>absurd h6 (by rw[h];decide));refine Ab ?_;refine ⟨hc.1,EL.map hc.2 ?_⟩;refine Ao ?_;refine .pure _ (show Spec0 Tryz.prog 113 [.ag p.val.c,iA (t[p.col.toNat]'hc.2)] _ from d113 p.val (t[p.col.toNat]'hc.2)) rfl λq hq _=>?_;subst hq;refine Ad ?_;refine VIF.split (λh8=>?_) (λh8=>?_)
   ·refine Aa ?_;have h8:fitsV p.val (getI t p.col)=false:=by rw[hgc];simpa using h8
    have cond:¬(p.kind<1\/6<p.kind\/inC p.col t.length=false\/(otherP p=true/\inC p.other t.length=false)\/(givenP p=true/\okV p.val=false)):=by first|(simp[h1,h2,h3,h4,h5,h7];done)|(simp[h1,h2,h3,h4,h5,h7];omega)
    rw[predE,if_neg cond,if_pos (.inl ⟨h6,h8⟩)]<;>rfl
   have h8:fitsV p.val (getI t p.col)=true:=by rw[hgc];simpa using h8
   refine Bl ?_;refine .pure _ (show Spec0 Tryz.prog 143 [.ag p.c] _ from c100 p) rfl λq hq _=>?_;subst hq;rw[h4];refine A6 ?_;refine ⟨hd.1,EL.map hd.2 ?_⟩;refine Ab ?_;refine ⟨hc.1,EL.map hc.2 ?_⟩;refine Ab ?_;have cond:¬(p.kind<1\/6<p.kind\/inC p.col t.length=false\/(otherP p=true/\inC p.other t.length=false)\/(givenP p=true/\okV p.val=false)):=by first|(simp[h1,h2,h3,h4,h5,h7];done)|(simp[h1,h2,h3,h4,h5,h7];omega)
   refine VIF.split (λh9=>?_) (λh9=>?_)
   ·have h9:getI t p.other≠getI t p.col:=by rw[hgd,hgc];simpa using h9
    refine Aa ?_;rw[predE,if_neg cond,if_pos (.inr ⟨h4,h9⟩)];rfl
   ·have h9:getI t p.other=getI t p.col:=by rw[hgd,hgc];simpa using h9
    refine Aa ?_;rw[predE,if_neg cond,if_neg (by simp[h8,h9])];rfl
  ·have h6:givenP p=false:=(by simpa [givenP] using h6);refine Bl ?_;refine .pure _ (show Spec0 Tryz.prog 217 [.ag p.c] _ from d217 p) rfl λq hq _=>?_;subst hq;refine Ad ?_;refine VIF.split (λh=>absurd h (by rw[show (decide (p.kind=1)||decide (p.kind=2))=givenP p from rfl,h6];decide)) (λ_=>?_);refine Bl ?_;refine .pure _ (show Spec0 Tryz.prog 143 [.ag p.c] _ from c100 p) rfl λq hq _=>?_;subst hq;rw[h4];refine A6 ?_;refine ⟨hd.1,EL.map hd.2 ?_⟩;refine Ab ?_;refine ⟨hc.1,EL.map hc.2 ?_⟩;refine Ab ?_;have cond:¬(p.kind<1\/6<p.kind\/inC p.col t.length=false\/(otherP p=true/\inC p.other t.length=false)\/(givenP p=true/\okV p.val=false)):=by first|(simp[h1,h2,h3,h4,h5,h6];done)|(simp[h1,h2,h3,h4,h5,h6];omega)
   refine VIF.split (λh9=>?_) (λh9=>?_)
   ·have h9:getI t p.other≠getI t p.col:=by rw[hgd,hgc];simpa using h9
    refine Aa ?_;rw[predE,if_neg cond,if_pos (.inr ⟨h4,h9⟩)];rfl
   ·have h9:getI t p.other=getI t p.col:=by rw[hgd,hgc];simpa using h9
    refine Aa ?_;rw[predE,if_neg cond,if_neg (by simp[h6,h9])];rfl
 ·have h4:otherP p=false:=(by simpa using h4);refine Bl ?_;refine .pure _ (show Spec0 Tryz.prog 217 [.ag p.c] _ from d217 p) rfl λq hq _=>?_;subst hq;refine Ad ?_;refine VIF.split (λh6=>?_) (λh6=>?_)
  ·refine Ao ?_;refine .pure _ (show Spec0 Tryz.prog 159 [.ag p.val.c] _ from s69 p.val) rfl λq hq _=>?_;subst hq;refine Ab ?_;refine VIF.split (λh7=>?_) (λh7=>?_)
   ·refine Aa ?_;have h7:okV p.val=false:=by
     cases h:okV p.val with
     | false=>rfl
     | true=>rw[h] at h7;simp at h7
    exact bad (.inr (.inr (.inr (.inr ⟨h6,h7⟩))))
   have h7:okV p.val=true:=by
    cases h:okV p.val with
    | true=>rfl
    | false=>rw[h] at h7;simp at h7
   refine Bl ?_;refine .pure _ (show Spec0 Tryz.prog 217 [.ag p.c] _ from d217 p) rfl λq hq _=>?_;subst hq;refine Ad ?_;refine VIF.split (λ_=>?_) (λh=>absurd h6 (by rw[h];decide));refine Ab ?_;refine ⟨hc.1,EL.map hc.2 ?_⟩;refine Ao ?_;refine .pure _ (show Spec0 Tryz.prog 113 [.ag p.val.c,iA (t[p.col.toNat]'hc.2)] _ from d113 p.val (t[p.col.toNat]'hc.2)) rfl λq hq _=>?_;subst hq;refine Ad ?_;refine VIF.split (λh8=>?_) (λh8=>?_)
   ·refine Aa ?_;have h8:fitsV p.val (getI t p.col)=false:=by rw[hgc];simpa using h8
    have cond:¬(p.kind<1\/6<p.kind\/inC p.col t.length=false\/(otherP p=true/\inC p.other t.length=false)\/(givenP p=true/\okV p.val=false)):=by first|(simp[h1,h2,h3,h4,h7];done)|(simp[h1,h2,h3,h4,h7];omega)
    rw[predE,if_neg cond,if_pos (.inl ⟨h6,h8⟩)]<;>rfl
   have h8:fitsV p.val (getI t p.col)=true:=by rw[hgc];simpa using h8
   refine Bl ?_;refine .pure _ (show Spec0 Tryz.prog 143 [.ag p.c] _ from c100 p) rfl λq hq _=>?_;subst hq;rw[h4];refine A6 ?_;have cond:¬(p.kind<1\/6<p.kind\/inC p.col t.length=false\/(otherP p=true/\inC p.other t.length=false)\/(givenP p=true/\okV p.val=false)):=by first|(simp[h1,h2,h3,h4,h7];done)|(simp[h1,h2,h3,h4,h7];omega)
   rw[predE,if_neg cond,if_neg (by simp[h4,h8])]<;>rfl
  ·have h6:givenP p=false:=(by simpa [givenP] using h6);refine Bl ?_;refine .pure _ (show Spec0 Tryz.prog 217 [.ag p.c] _ from d217 p) rfl λq hq _=>?_;subst hq;refine Ad ?_;refine VIF.split (λh=>absurd h (by rw[show (decide (p.kind=1)||decide (p.kind=2))=givenP p from rfl,h6];decide)) (λ_=>?_);refine Bl ?_;refine .pure _ (show Spec0 Tryz.prog 143 [.ag p.c] _ from c100 p) rfl λq hq _=>?_;subst hq;rw[h4];refine A6 ?_;have cond:¬(p.kind<1\/6<p.kind\/inC p.col t.length=false\/(otherP p=true/\inC p.other t.length=false)\/(givenP p=true/\okV p.val=false)):=by first|(simp[h1,h2,h3,h4,h6];done)|(simp[h1,h2,h3,h4,h6];omega)
   rw[predE,if_neg cond,if_neg (by simp[h4,h6])]<;>rfl
theorem lent_box {objs:Nat->Option Ob} {a d:Nat} {F:List (List Int)} {D:List Nd} (ha:objs a=some ⟨2,[[formsA F,.rf d 0 D.length]]⟩) (hd:objs d=some ⟨3,D.map Nd.c⟩):Lent objs (.pt a 0 0) (.ro [formsA F,.im 3 (D.map Nd.c)] 0):=by
 refine .pt ha rfl rfl (λj a' h=>?_) λj b b' h1 h2=>?_
 ·match j with
  | 0=>simp at h;subst h;rfl
  | 1=>simp at h;subst h;rfl
  | j+2=>simp at h
 ·match j with
  | 0=>simp at h1 h2;subst h1;subst h2;exact .same rfl
  | 1=>
    simp at h1 h2;subst h1;subst h2;exact lent_leafy (o:=ndO D) hd rfl (by simp) (ndO_leafy D) λx hx=>by obtain ⟨v,_,rfl⟩:=List.mem_map.1 hx;rfl
  | j+2=>simp at h1
theorem nd_es {st:St} {m:List (Nat×Option Nat)} {D:List Nd}:Es st m (D.map Nd.c) (D.map Nd.c):=.same (ndO D) _ _ (ndO_leafy D) rfl
theorem FINwe {F:List (List Int)} {D:List Nd} {O0:Nat->Option Ob} {K:AV->(Nat->Option Ob)->Prop} {st:St} (c1 c2 c3:AV) (e:Int) (h0:∀i,O0 i≠none->i=0) (hb:st.objs 0=some ⟨2,[[formsA F,.rf 3000 0 D.length]]⟩) (hd:st.objs 3000=some ⟨3,D.map Nd.c⟩)
 (h4:st.regs 4=.pt 4 0 0) (hc:st.objs 4=some ⟨3,[[c1,c2,c3]]⟩) (hl:c1.leaf=true/\c2.leaf=true/\c3.leaf=true) (h5:st.regs 5=iA e) (k:K (.tu [.ag [c1,c2,c3],iA e]) (wO F D)):FIN T O0 [.cell 4 146,.tmp 5] K st:=by
 refine FINw (F:=F) (D:=D) h0 [(4,.ro [c1,c2,c3] 0),(5,iA e)] rfl ?_ ?_
 ·(simp -implicitDefEqProofs only[go_sem,boxO,h4,h5,hb,hc,hd,iA,ndO];repeat (refine GO ?_;simp -implicitDefEqProofs only[go_sem,boxO,h4,h5,hb,hc,hd,iA,ndO]));refine ⟨⟨by simp[olds],_,rfl,λx hx a ha=>?_,rfl⟩,.cons (by simp[wk.wks,wk,nms,formsA]) .nil,nd_es⟩;simp only[List.mem_singleton] at hx;subst hx;simp only[List.mem_cons,List.not_mem_nil,or_false] at ha;rcases ha with rfl|rfl|rfl
  ·exact hl.1
  ·exact hl.2.1
  ·exact hl.2.2
 ·refine Ab ?_;exact k
theorem FINfrz {O0:Nat->Option Ob} {l:List ResultVar} {K:AV->(Nat->Option Ob)->Prop} {st:St} (id:Nat) (o:Ob) (ho:st.objs id=some o) (hl:o.leafy) (h0:∀i,O0 i≠none->i=0) (k:FIN T O0 l K (st.frz id o)):FIN T O0 l K st:=by obtain ⟨st',h1,h2⟩:=k;exact ⟨st',λF n a w hF R=>h1 F n a w hF (frz_ent ho hl F n a w (λi hi=>h0 i (by rw[<- hF];exact hi)) R),h2⟩
@[go_sem] theorem fzE_nd {id:Nat} {o:Ob} {D:List Nd}:fzE id o (D.map Nd.c)=D.map Nd.c:=by
  induction D with
  | nil=>rfl
  | cons d r ih=>
    simp only[List.map_cons];show (_::fzE id o (r.map Nd.c))=_;rw[ih];rfl
theorem pn_leafy (x:PN):(Ob.mk 14 [PN.c x]).leafy:=by simp[Ob.leafy,PN.c,AV.leaf,iA,intsL]
def ndAt (D:List Nd) (k:Int):Nd:=(D[k.toNat]?).getD ⟨[],0,0⟩
theorem d193 (F:List (List Int)) (D:List Nd) (x:PN) (hD:D.length<1073741824):SpecW 193 F D [.ag x.c] (λr=>∃c1 c2 c3 e,r=.tu [.ag [c1,c2,c3],iA e]/\(c1.leaf&&c2.leaf&&c3.leaf)=true/\e=(if inC x.a D.length=true then 0 else 1)/\(e=0->AV.ag [c1,c2,c3]=.ag (ndAt D x.a).c)):=by
 refine funspecD_of_vc tabOk elems ord193 Tryz.func193 rfl (rl:=[.cell 4 146,.tmp 5]) rfl (by kernel_rfl) rfl kept_0 ?_;(simp -implicitDefEqProofs only[go_sem,PN.c,boxO,ndO,wO,wU];repeat (refine GO ?_;simp -implicitDefEqProofs only[go_sem,PN.c,boxO,ndO,wO,wU]));refine .lendR (args':=[.ro [formsA F,.im 3 (D.map Nd.c)] 0,iA x.a]) (d204 F D x.a) ⟨lent_box (d:=3000) Ag Ag,.same rfl,trivial⟩ (by rintro _ rfl;rfl) λq hq=>?_;subst hq;refine Ad ?_;refine VIF.split (λh=>?_) (λh=>?_)
 ·have h:inC x.a D.length=false:=(by simpa using h);refine Aa ?_;refine FINwe .nl (iA 0) (iA 0) 1 kept_0 Ag Ag Ag A8 ⟨rfl,rfl,rfl⟩ A8 ⟨⟨⟨_,_,_,1,rfl,rfl,by rw[h];rfl,λh=>by cases h⟩,rfl⟩,rfl⟩
 ·have h:inC x.a D.length=true:=(by simpa using h);have ha:0<=x.a/\x.a.toNat<D.length:=by simp[inC] at h;omega
  refine Ab ?_;refine ⟨by omega,EL.map ha.2 ?_⟩;simp -implicitDefEqProofs only[go_sem,Nd.c];have e1:ndAt D x.a=D[x.a.toNat]'ha.2:=(by simp[ndAt,ha.2]);refine FINwe (intsL (D[x.a.toNat]'ha.2).types) (iA (D[x.a.toNat]'ha.2).w) (iA (D[x.a.toNat]'ha.2).v) 0 kept_0 Ag Ag Ag A8 ⟨rfl,rfl,rfl⟩ Aj ⟨⟨⟨_,_,_,0,rfl,rfl,by rw[h];rfl,λ_=>by rw[e1]<;>rfl⟩,rfl⟩,rfl⟩
theorem d188 (F:List (List Int)) (D:List Nd) (x:PN) (hD:F.length<1073741824) (hF:∀l∈F,l.length<1073741824):SpecW 188 F D [.ag x.c] (λr=>∃c1 c2 c3 e,r=.tu [.ag [c1,c2,c3],iA e]/\(c1.leaf&&c2.leaf&&c3.leaf)=true/\e=(if inC x.table F.length=true then 0 else 1)/\(e=0->AV.ag [c1,c2,c3]=.ag (Nd.c ⟨4::((F[x.table.toNat]?).getD []),1024,2147483648⟩))):=by
 refine funspecD_of_vc tabOk elems og188 Tryz.func188 rfl (rl:=[.cell 4 146,.tmp 5]) rfl (by kernel_rfl) rfl kept_0 ?_;refine B6 ?_;refine VIF.split (λh=>?_) (λh=>?_)
 ·have h:inC x.table F.length=false:=by simp at h;simp[inC];omega
  refine Aa ?_;refine FINwe .nl (iA 0) (iA 0) 1 kept_0 Ag Ag Ag A8 ⟨rfl,rfl,rfl⟩ A8 ⟨⟨⟨_,_,_,1,rfl,rfl,by rw[h];rfl,λh=>by cases h⟩,rfl⟩,rfl⟩
 have h0:¬x.table<0:=by simpa using h
 refine Bz ?_;refine VIF.split (λh=>?_) (λh=>?_)
 ·have h:inC x.table F.length=false:=by simp at h;simp[inC];omega
  refine Aa ?_;refine FINwe .nl (iA 0) (iA 0) 1 kept_0 (by (simp -implicitDefEqProofs only[go_sem,formsA];repeat (refine GO ?_;simp -implicitDefEqProofs only[go_sem,formsA]))) Ag Ag A8 ⟨rfl,rfl,rfl⟩ A8 ⟨⟨⟨_,_,_,1,rfl,rfl,by rw[h];rfl,λh=>by cases h⟩,rfl⟩,rfl⟩
 have h1:x.table.toNat<F.length:=by simp at h;omega
 have h:inC x.table F.length=true:=by simp[inC];omega
 have hl:=hF _ (List.getElem_mem h1);refine Aw ?_;refine TO [(0,some 0),(4,some 4),(3000,some 3000)] [(0,.pt 0 0 0),(3,.ro x.c 0),(4,.pt 4 0 0)] [(0,⟨2,[[formsA F,.rf 3000 0 D.length]]⟩),(4,⟨3,[[.nl,iA 0,iA 0]]⟩),(3000,⟨3,D.map Nd.c⟩)] [0,4,3000] rfl ?_ ?_
 ·refine F4 ?_;refine ⟨by simp,⟨by simp[olds],_,rfl,by have:=pn_leafy x;simpa only[PN.c,iA] using this,rfl⟩,.cons (by simp[wk.wks,wk,nms]) .nil,.cons (by simp[wk.wks,wk]) .nil,nd_es⟩
 refine F4 ?_;have hfx:(F[x.table.toNat]?).getD []=F[x.table.toNat]'h1:=by simp[h1]
 have hc:AV.im (io (4::F[x.table.toNat]'h1)).sz (List.take (1+(F[x.table.toNat]'h1).length) (io (4::F[x.table.toNat]'h1)).es)=intsL (4::F[x.table.toNat]'h1):=by rw[List.take_of_length_le (by simp[io];omega)];rfl
 refine ⟨by omega,EL.map h1 ?_⟩;refine Au ?_;refine ⟨by omega,?_⟩;refine FINfrz 30 (io (4::F[x.table.toNat]'h1)) (by refine Aa ?_;rfl) (io_leafy _) kept_0 ?_;refine Aw ?_;rw[hc];exact FINwe (intsL (4::F[x.table.toNat]'h1)) (iA 1024) (iA 2147483648) 0 kept_0 (by simp -implicitDefEqProofs only[go_sem,formsA,intsL];rfl) Ae Ae Aj ⟨rfl,rfl,rfl⟩ Aj ⟨⟨⟨_,_,_,0,rfl,rfl,by rw[h];rfl,λ_=>by rw[hfx]<;>rfl⟩,rfl⟩,rfl⟩
theorem d189 (F:List (List Int)) (D:List Nd) (x:PN) (hD:D.length<1073741824) (hT:∀d∈D,d.types.length<1073741824):SpecW 189 F D [.ag x.c] (λr=>∃c1 c2 c3 e,r=.tu [.ag [c1,c2,c3],iA e]/\(c1.leaf&&c2.leaf&&c3.leaf)=true/\e=(if inC x.a D.length=true then predE x.pred (ndAt D x.a).types else 1)/\(e=0->AV.ag [c1,c2,c3]=.ag (ndAt D x.a).c)):=by
 refine funspecD_of_vc tabOk elems og189 Tryz.func189 rfl (rl:=[.cell 4 146,.tmp 5]) rfl (by kernel_rfl) rfl kept_0 ?_;refine B6 ?_;refine .lendR (args':=[.ro [formsA F,.im 3 (D.map Nd.c)] 0,iA x.a]) (d204 F D x.a) ⟨lent_box (d:=3000) Ag Ag,.same rfl,trivial⟩ (by rintro _ rfl;rfl) λq hq=>?_;subst hq;refine Ad ?_;refine VIF.split (λh=>?_) (λh=>?_)
 ·have h:inC x.a D.length=false:=(by simpa using h);refine Aa ?_;refine FINwe .nl (iA 0) (iA 0) 1 kept_0 Ag Ag Ag A8 ⟨rfl,rfl,rfl⟩ A8 ⟨⟨⟨_,_,_,1,rfl,rfl,by rw[h];rfl,λh=>by cases h⟩,rfl⟩,rfl⟩
 have h:inC x.a D.length=true:=by simpa using h
 have ha:0<=x.a/\x.a.toNat<D.length:=by simp[inC] at h;omega
 have e1:ndAt D x.a=D[x.a.toNat]'ha.2:=by simp[ndAt,ha.2]
 refine Aw ?_;refine TO [(0,some 0),(4,some 4),(3000,some 3000)] [(0,.pt 0 0 0),(3,.ro x.c 0),(4,.pt 4 0 0)] [(0,⟨2,[[formsA F,.rf 3000 0 D.length]]⟩),(4,⟨3,[[.nl,iA 0,iA 0]]⟩),(3000,⟨3,D.map Nd.c⟩)] [0,4,3000] rfl ?_ ?_
 ·refine Av ?_;refine ⟨by simp,⟨by simp[olds],_,rfl,by have:=pn_leafy x;simpa only[PN.c,iA] using this,rfl⟩,.cons (by simp[wk.wks,wk,nms,formsA]) .nil,.cons (by simp[wk.wks,wk]) .nil,nd_es⟩
 refine Av ?_;simp -implicitDefEqProofs only[go_sem,PN.c,iA,og189_3];repeat' (first|exact ha.1|(show _<((D.length:Nat):Int);omega)|(refine EL.map ha.2 ?_;simp -implicitDefEqProofs only[go_sem,Nd.c,iA,PN.c])|apply And.intro)
 all_goals refine .pure _ (show Spec0 Tryz.prog 205 [.ag x.pred.c,intsL (D[x.a.toNat]'ha.2).types] _ from d205 x.pred (D[x.a.toNat]'ha.2).types (hT _ (List.getElem_mem ha.2))) rfl λq hq _=>?_
 all_goals subst hq
 all_goals (simp -implicitDefEqProofs only[go_sem,iA];repeat (refine GO ?_;simp -implicitDefEqProofs only[go_sem,iA]))
 all_goals exact FINwe (intsL (D[x.a.toNat]'ha.2).types) (iA (D[x.a.toNat]'ha.2).w) (iA (D[x.a.toNat]'ha.2).v) (predE x.pred (D[x.a.toNat]'ha.2).types) kept_0 (by simp -implicitDefEqProofs only[go_sem,formsA]) Ae Ae Aj ⟨rfl,rfl,rfl⟩ Aj ⟨⟨⟨_,_,_,_,rfl,rfl,by rw[h,e1];rfl,λ_=>by rw[e1]<;>rfl⟩,rfl⟩,rfl⟩
def projE (x:PN) (D:List Nd):Int:=if inC x.a D.length=false\/x.cols.any (outC (ndAt D x.a).types.length)=true then 1 else if 12<x.cols.length then 2 else 0
def projN (x:PN) (D:List Nd):Nd:=⟨pickI (ndAt D x.a).types x.cols,(ndAt D x.a).w,(ndAt D x.a).v⟩
theorem Spec1.intsC {f:Nat} {args:List AV} {l:List Int} (h:Spec1 Tryz.prog f args (λr o=>r=.rf 0 0 l.length/\o=io l)):Spec0 Tryz.prog f args (·=intsL l):=
 (Spec1.fz h).mono λr O' ⟨⟨⟨r0,o,⟨e1,e2⟩,_,_,e3⟩,hn⟩,hO⟩=>by subst e1;subst e2;subst e3;refine ⟨⟨?_,hn⟩,hO⟩;rw[fz_rf,if_pos rfl,List.drop_zero,List.take_of_length_le (by simp[io])];rfl
theorem d190 (F:List (List Int)) (D:List Nd) (x:PN) (hD:D.length<1073741824) (hc:x.cols.length<1073741824):SpecW 190 F D [.ag x.c] (λr=>∃c1 c2 c3 e,r=.tu [.ag [c1,c2,c3],iA e]/\(c1.leaf&&c2.leaf&&c3.leaf)=true/\e=projE x D/\(e=0->AV.ag [c1,c2,c3]=.ag (projN x D).c)):=by
 refine funspecD_of_vc tabOk elems og190 Tryz.func190 rfl (rl:=[.cell 4 146,.tmp 5]) rfl (by kernel_rfl) rfl kept_0 ?_;refine B6 ?_;refine .lendR (args':=[.ro [formsA F,.im 3 (D.map Nd.c)] 0,iA x.a]) (d204 F D x.a) ⟨lent_box (d:=3000) Ag Ag,.same rfl,trivial⟩ (by rintro _ rfl;rfl) λq hq=>?_;subst hq;refine Ad ?_;refine VIF.split (λh=>?_) (λh=>?_)
 ·have h:inC x.a D.length=false:=(by simpa using h);refine Aa ?_;refine FINwe .nl (iA 0) (iA 0) 1 kept_0 Ag Ag Ag A8 ⟨rfl,rfl,rfl⟩ A8 ⟨⟨⟨_,_,_,1,rfl,rfl,by rw[projE,if_pos (.inl h)],λh=>by cases h⟩,rfl⟩,rfl⟩
 have h:inC x.a D.length=true:=by simpa using h
 have ha:0<=x.a/\x.a.toNat<D.length:=by simp[inC] at h;omega
 have e1:ndAt D x.a=D[x.a.toNat]'ha.2:=by simp[ndAt,ha.2]
 refine Ab ?_;repeat' (first|exact ha.1|(show _<((D.length:Nat):Int);omega)|(refine EL.map ha.2 ?_;(simp -implicitDefEqProofs only[go_sem,Nd.c,iA,intsL];repeat (refine GO ?_;simp -implicitDefEqProofs only[go_sem,Nd.c,iA,intsL])))|apply And.intro)
 obtain ⟨n,hn⟩:∃n,n=D[x.a.toNat]'ha.2:=⟨_,rfl⟩;rw[<- hn] at e1 ⊢;refine .pure _ (show Spec0 Tryz.prog 206 [intsL x.cols,iA n.types.length] _ from d206 x.cols n.types.length (by omega)) rfl λq hq _=>?_;subst hq;refine Ad ?_;refine VIF.split (λh2=>?_) (λh2=>?_)
 ·have h2:x.cols.any (outC n.types.length)=true:=(by simpa using h2);refine Aa ?_;refine FINwe .nl (iA 0) (iA 0) 1 kept_0 Ae Ae Ae Aj ⟨rfl,rfl,rfl⟩ Aj ⟨⟨⟨_,_,_,1,rfl,rfl,by rw[projE,if_pos (.inr (by rw[e1];exact h2))],λh=>by cases h⟩,rfl⟩,rfl⟩
 have h2:x.cols.any (outC n.types.length)=false:=by simpa using h2
 have cond:¬(inC x.a D.length=false\/x.cols.any (outC (ndAt D x.a).types.length)=true):=by rw[e1,h,h2];simp
 refine Ab ?_;refine VIF.split (λh3=>?_) (λh3=>?_)
 ·have h3:12<x.cols.length:=by simp at h3;omega
  refine Aa ?_;refine FINwe .nl (iA 0) (iA 0) 2 kept_0 Ae Ae Ae Aj ⟨rfl,rfl,rfl⟩ Aj ⟨⟨⟨_,_,_,2,rfl,rfl,by rw[projE,if_neg cond,if_pos h3],λh=>by cases h⟩,rfl⟩,rfl⟩
 have h3:¬12<x.cols.length:=by simp at h3;omega
 refine Aw ?_;refine TO [(0,some 0),(4,some 4),(3000,some 3000)] [(0,.pt 0 0 0),(3,.ro x.c 0),(4,.pt 4 0 0)] [(0,⟨2,[[formsA F,.rf 3000 0 D.length]]⟩),(4,⟨3,[[.nl,iA 0,iA 0]]⟩),(3000,⟨3,D.map Nd.c⟩)] [0,4,3000] rfl ?_ ?_
 ·refine Cf ?_;refine ⟨by simp,⟨by simp[olds],_,rfl,by have:=pn_leafy x;simpa only[PN.c,iA,intsL] using this,rfl⟩,.cons (by simp[wk.wks,wk,nms,formsA]) .nil,.cons (by simp[wk.wks,wk]) .nil,nd_es⟩
 refine G6 ?_;repeat' (first|exact ha.1|(show _<((D.length:Nat):Int);omega)|(refine EL.map ha.2 ?_;simp -implicitDefEqProofs only[go_sem,Nd.c,iA,PN.c])|apply And.intro)
 all_goals refine .pure _ (show Spec0 Tryz.prog 207 [intsL (D[x.a.toNat]'ha.2).types,intsL x.cols] _ from Spec1.intsC (by have:=d207 (D[x.a.toNat]'ha.2).types x.cols hc (by rw[<- hn];exact h2);exact this.mono λr O' ⟨o,⟨⟨q1,q2⟩,q3⟩,q4,q5⟩=>⟨o,⟨⟨by rw[q1];simp[pickI],q2⟩,q3⟩,q4,q5⟩)) rfl λq hq _=>?_
 all_goals subst hq
 all_goals simp -implicitDefEqProofs only[go_sem,iA,intsL]
 all_goals exact FINwe (intsL (pickI (D[x.a.toNat]'ha.2).types x.cols)) (iA (D[x.a.toNat]'ha.2).w) (iA (D[x.a.toNat]'ha.2).v) 0 kept_0 (by simp -implicitDefEqProofs only[go_sem,formsA]) Ae Ae (by simp -implicitDefEqProofs only[go_sem,iA,intsL]) ⟨rfl,rfl,rfl⟩ Aj ⟨⟨⟨_,_,_,0,rfl,rfl,by rw[projE,if_neg cond,if_neg h3],λ_=>by rw[projN,e1,hn];rfl⟩,rfl⟩,rfl⟩
theorem d175 (g:Nat) (p:List Int->Bool) (B:List Int->Prop) (hg:∀l:List Int,B l->Spec0 Tryz.prog g [.ag [intsL l]] (·=bA (p l))) (a:List (List Int)) (hB:∀l∈a,B l) (ha:a.length<4611686018427387904) :
 Spec0 Tryz.prog 175 [formsA a,.fn g []] (·=idxA p a):=by
 refine spec0_of_vc tabOk elems ord175 Tryz.func175 rfl (rl:=[.tmp 4]) rfl (by kernel_rfl) rfl ?_;refine Bz ?_
 refine LOOP.mk (ι:={i:Nat//i<=a.length/\∀j (hj:j<a.length),j<i->p a[j]=false}) (λi=>mkS [(0,formsA a),(1,.fn g []),(7,iA a.length),(8,iA i.1)] [] []) (λi=>a.length-i.1)
  ⟨0,by simp⟩ [] rfl rfl ?_ (λi=>?_)
 ·refine Bc ?_;exact ⟨id,rfl⟩
 ·obtain ⟨i,hi,hz⟩:=i;refine Bc ?_;refine VIF.split (λh=>?_) (λh=>?_)
  ·have hi':i<a.length:=(by simpa using h);have w1:=wrap_add1 (show i<4611686018427387904 by omega);refine Aa ?_;refine EL.map hi' ?_;refine Aa ?_;refine .pure _ (hg a[i] (hB _ (List.getElem_mem hi'))) rfl λr hr _=>?_;subst hr;refine Ad ?_;refine VIF.split (λe=>?_) (λe=>?_)
   ·refine Aa ?_;have:a.findIdx? p=some i:=by
     rw[List.findIdx?_eq_some_iff_getElem];exact ⟨hi',e,λj hj=>by simpa using hz j (by omega) hj⟩
    simp[idxA,this,idxI,iA]
   ·refine Ak ?_;refine BACK.mk ⟨i+1,by omega,λj hj hji=>?_⟩ [] rfl rfl (by show a.length-(i+1)<a.length-i;omega) ?_
    ·by_cases e2:j=i
     ·subst e2;exact e
     ·exact hz j hj (by omega)
    ·refine Cs ?_;exact id
  ·have h:i=a.length:=by simp at h;omega
   subst h;refine Aa ?_;have:a.findIdx? p=none:=by rw[List.findIdx?_eq_none_iff];intro x hx;obtain ⟨j,hj,rfl⟩:=List.mem_iff_getElem.1 hx;exact hz j hj hj
   simp[idxA,this,idxI,iA]
theorem d127 (g:Nat) (p:List Int->Bool) (B:List Int->Prop) (hg:∀l:List Int,B l->Spec0 Tryz.prog g [.ag [intsL l]] (·=bA (p l))) (a:List (List Int)) (hB:∀l∈a,B l) (ha:a.length<4611686018427387904) :
 Spec0 Tryz.prog 127 [formsA a,.fn g []] (·=bA (a.any p)):=by
 refine spec0_of_vc tabOk elems ord127 Tryz.func127 rfl (rl:=[.tmp 4]) rfl (by kernel_rfl) rfl ?_;refine Bz ?_;refine .pure _ (show Spec0 Tryz.prog 175 [formsA a,.fn g []] _ from d175 g p B hg a hB ha) rfl λr hr _=>?_;subst hr;refine B7 ?_;rw[idx_any];rfl
def badC (l:List Int):Bool:=decide (l.length<1)||decide (4<l.length)
def badT (c:Int):Bool:=decide (c<2)||decide (4<c)
theorem d128 (l:List Int) (h:l.length<4611686018427387904):Spec0 Tryz.prog 128 [.ag [intsL l]] (·=bA (badC l)):=by
 refine spec0_of_vc tabOk elems ord128 Tryz.func128 rfl (rl:=[.tmp 2]) rfl (by kernel_rfl) rfl ?_;refine A5 ?_;refine VIF.split (λh1=>?_) (λh1=>?_)
 ·refine Aa ?_;have h1:l.length<1:=by simp at h1;omega
  simp[h1,badC,bA]
 ·refine Aa ?_;have h1:¬l.length<1:=by simp at h1;omega
  simp[h1,badC,bA];omega
theorem d130 (c:Int):Spec0 Tryz.prog 130 [iA c] (·=bA (badT c)):=by
 refine spec0_of_vc tabOk elems ord130 Tryz.func130 rfl (rl:=[.tmp 2]) rfl (by kernel_rfl) rfl ?_;refine Ab ?_;refine VIF.split (λh=>?_) (λh=>?_)
 ·refine Aa ?_;simp at h;simp[h,badT,bA]
 ·refine Aa ?_;have h:¬c<2:=(by simpa using h);simp[h,badT,bA]
def formsE (F:List (List Int)):Int:=if F.length<1\/3<F.length\/F.any badC=true then 2 else if F.any (λl=>l.any badT)=true then 10 else 0
theorem d73 (F:List (List Int)) (hF:F.length<1073741824) (hl:∀l∈F,l.length<1073741824):Spec0 Tryz.prog 73 [formsA F] (·=iA (formsE F)):=by
 refine spec0_of_vc tabOk elems ord73 Tryz.func73 rfl (rl:=[.tmp 2]) rfl (by kernel_rfl) rfl ?_;refine Bz ?_;have bad:(F.length<1\/3<F.length\/F.any badC=true)->AV.pr (.int .i64 2)=iA (formsE F):=λh=>by rw[formsE,if_pos h];rfl
 refine VIF.split (λh1=>?_) (λh1=>?_)
 ·refine Aa ?_;exact bad (.inl (by simp at h1;omega))
 have h1:¬F.length<1:=by simp at h1;omega
 refine Aa ?_;refine VIF.split (λh2=>?_) (λh2=>?_)
 ·refine Aa ?_;exact bad (.inr (.inl (by simp at h2;omega)))
 have h2:¬3<F.length:=by simp at h2;omega
 refine Aa ?_;refine .pure _ (show Spec0 Tryz.prog 127 [formsA F,.fn 128 []] _ from d127 128 badC (λl=>l.length<4611686018427387904) (λl h=>d128 l h) F (λl h=>by have:=hl l h;omega) (by omega)) rfl λr hq _=>?_;subst hq;refine Ad ?_;refine VIF.split (λh3=>?_) (λh3=>?_)
 ·refine Aa ?_;exact bad (.inr (.inr h3))
 have cond:¬(F.length<1\/3<F.length\/F.any badC=true):=by rintro (h|h|h)<;>simp_all
 refine Aa ?_;refine LOOP.mk (ι:={i:Nat//i<=F.length/\∀j (h:j<F.length),j<i->F[j].any badT=false}) (λp=>mkS [(15,formsA F),(16,iA F.length),(17,iA p.1)] [] []) (λp=>F.length-p.1) ⟨0,Nat.zero_le _,λj _ h=>absurd h (Nat.not_lt_zero _)⟩ [] rfl rfl ?_ (λp=>?_)
 ·refine Bc ?_;exact ⟨id,rfl⟩
 obtain ⟨i,hi,hz⟩:=p;refine Bc ?_;refine VIF.split (λh=>?_) (λh=>?_)
 ·have h:i<F.length:=(by simpa using h);have w1:=wrap_add1 (show i<4611686018427387904 by omega);refine Aa ?_;refine EL.map h ?_;refine Aa ?_;refine .pure _ (show Spec0 Tryz.prog 129 [intsL F[i],.fn 130 []] _ from c102 130 [] rfl badT F[i] (λc _=>d130 c) (by have:=hl _ (List.getElem_mem h);omega)) rfl λr hq _=>?_;subst hq;refine Ad ?_;refine VIF.split (λh4=>?_) (λh4=>?_)
  ·refine Aa ?_;have:F.any (λl=>l.any badT)=true:=List.any_eq_true.2 ⟨F[i],List.getElem_mem h,h4⟩;rw[formsE,if_neg cond,if_pos this]<;>rfl
  ·refine Ak ?_;refine BACK.mk ⟨i+1,by omega,λj hj hji=>if e:j=i then (by subst e;exact h4) else hz j hj (by omega)⟩ [] rfl rfl (by show F.length-(i+1)<F.length-i;omega) ?_;refine Cs ?_;exact id
 ·have h:i=F.length:=by simp at h;omega
  subst h;refine Aa ?_;have:F.any (λl=>l.any badT)=false:=by rw[List.any_eq_false];intro l hl2;obtain ⟨j,hj,rfl⟩:=List.mem_iff_getElem.1 hl2;simp[hz j hj hj]
  rw[formsE,if_neg cond,if_neg (by rw[this];decide)]<;>rfl
def fitR:List V->List Int->Bool
 | [],[]=>true
 | v::r,t::ts=>fitsV v t&&fitR r ts
 | _,_=>false
theorem fitR_len:∀{r:List V} {ts:List Int},fitR r ts=true->r.length=ts.length
 | [],[],_=>rfl
 | v::r,t::ts,h=>by
   simp only[fitR,Bool.and_eq_true] at h;simp[fitR_len h.2]
theorem fitR_at:∀{r:List V} {ts:List Int} (h:fitR r ts=true) (j:Nat) (h1:j<r.length) (h2:j<ts.length),fitsV r[j] ts[j]=true
 | v::r,t::ts,h,0,_,_=>by simp only[fitR,Bool.and_eq_true] at h;exact h.1
 | v::r,t::ts,h,j+1,h1,h2=>by
   simp only[fitR,Bool.and_eq_true] at h;exact fitR_at h.2 j (by simpa using h1) (by simpa using h2)
theorem fitR_app:∀{a b:List V} {s t:List Int},fitR a s=true->fitR b t=true->fitR (a++b) (s++t)=true
 | [],_,[],_,_,h=>h
 | v::a,_,x::s,_,h,g=>by
   simp only[fitR,Bool.and_eq_true] at h;simp only[List.cons_append,fitR,Bool.and_eq_true];exact ⟨h.1,fitR_app h.2 g⟩
theorem fits_ok {v:V} {t:Int} (h:fitsV v t=true):okV v=true:=by simp only[fitsV,Bool.and_eq_true] at h;exact h.1.2
theorem fitR_mem:∀{r:List V} {ts:List Int},fitR r ts=true->∀v∈r,okV v=true
 | [],[],_,v,hv=>by cases hv
 | v::r,t::ts,h,u,hu=>by
   simp only[fitR,Bool.and_eq_true] at h;rcases List.mem_cons.1 hu with rfl|hu
   ·exact fits_ok h.1
   ·exact fitR_mem h.2 u hu
theorem fitR_get {r:List V} {ts:List Int} (h:fitR r ts=true) {c:Int} (h0:0<=c) (h1:c<ts.length):fitsV (getV r c) (getI ts c)=true:=by
 have hl:=fitR_len h;have h2:c.toNat<ts.length:=by omega
 have h3:c.toNat<r.length:=by omega
 have:=fitR_at h c.toNat h3 h2;simpa [getV,getI,h2,h3] using this
theorem outC_in {n:Nat} {l:List Int} (h:l.any (outC n)=false):∀c∈l,0<=c/\c<n:=λc hc=>by rw[List.any_eq_false] at h;have:=h c hc;simp[outC] at this;omega
theorem fitR_pick {r:List V} {ts:List Int} (h:fitR r ts=true):∀{l:List Int},l.any (outC ts.length)=false->fitR (pickR r l) (pickI ts l)=true
 | [],_=>rfl
 | c::l,hl=>by
   have hc:=outC_in hl c (by simp);simp only[pickR,pickI,List.map_cons,fitR,Bool.and_eq_true];refine ⟨fitR_get h hc.1 hc.2,fitR_pick h (l:=l) ?_⟩;simp only[List.any_cons,Bool.or_eq_false_iff] at hl;exact hl.2
theorem fitR_ok {r:List V} {ts:List Int} (h:fitR r ts=true) (hl:ts.length<=12):okR r=0:=okR_all.2 ⟨by rw[fitR_len h];exact hl,fitR_mem h⟩
structure Nds (z:List It) (n:Nd):Prop where
 good:Good z
 fit:∀t∈z,fitR t.row n.types=true
 abs:absS z<=n.w
 val:∀t∈z,∀v∈t.row,v.k=3->-n.v<=v.i/\v.i<=n.v
structure Ndb (n:Nd):Prop where
 w0:0<=n.w
 w1:n.w<=1125899906842624
 v0:0<=n.v
 v1:n.v<=1152921504606846976
 tl:n.types.length<=12
theorem Nds.made {z:List It} {n:Nd} (h:Nds z n):Made z:=(good_made.1 h.good).1
theorem Nds.ok {z:List It} {n:Nd} (h:Nds z n):∀t∈z,okR t.row=0:=(good_made.1 h.good).2
theorem Nds.row {z:List It} {n:Nd} (h:Nds z n):∀t∈z,t.row.length=n.types.length:=λt ht=>fitR_len (h.fit t ht)
theorem Nds.r12 {z:List It} {n:Nd} (h:Nds z n):∀t∈z,t.row.length<=12:=λt ht=>okR_len (h.ok t ht)
theorem abs_mem:∀{z:List It} {t:It},t∈z->-absS z<=t.w/\t.w<=absS z
 | u::z,t,ht=>by
   have h0:=absS_pos z;simp only[absS];rcases List.mem_cons.1 ht with rfl|ht
   ·omega
   ·have:=abs_mem ht;omega
theorem abs_tot (r:List V):∀z:List It,-absS z<=tot r z/\tot r z<=absS z
 | []=>by simp[absS,tot]
 | t::z=>by
   have h:=abs_tot r z;simp only[absS,tot];split<;>omega
theorem abs_filter (f:It->Bool):∀z:List It,absS (z.filter f)<=absS z
 | []=>by simp[absS]
 | t::z=>by
   have h:=abs_filter f z;have h0:=absS_pos z;simp only[List.filter_cons,absS];split
   ·simp only[absS];omega
   ·omega
theorem len_abs:∀{z:List It},(∀t∈z,t.w≠0)->(z.length:Int)<=absS z
 | [],_=>by simp[absS]
 | t::z,h=>by
   have h1:=len_abs (z:=z) λu hu=>h u (by simp[hu]);have h2:=h t (by simp);simp only[absS,List.length_cons];omega
theorem ok_w {w K:Int} (h1:-K<=w) (h2:w<=K) (hK:K<=72057594037927936):okW w=true:=by simp only[okW,inB,Bool.and_eq_true,decide_eq_true_eq];omega
theorem make_in {l out:List It} {err W:Int} (h:MakeR l out err) (hl:∀t∈l,okR t.row=0) (ha:absS l<=W) (hW:W<=72057594037927936) :
 err=0/\Good out/\absS out<=W/\(∀r,tot r out=tot r l)/\(∀t∈out,∃u∈l,u.row=t.row)/\out.length<=l.length:=by
 have hfine:(l.any λt=>!okI t)=false:=by rw[List.any_eq_false];intro t ht;have:=abs_mem ht;simp[okI,hl t ht,ok_w (K:=W) (w:=t.w) (by omega) (by omega) hW]
 obtain ⟨h1,h2,h3,h4,h5⟩:=makeR_fine h hfine λr=>by have:=abs_tot r l;exact ok_w (K:=W) (by omega) (by omega) hW
 exact ⟨h1,good_made.2 ⟨h2,λt ht=>(h4 t ht).1⟩,Int.le_trans (abs_made out l h2 h3) ha,h3,λt ht=>(h4 t ht).2,h5⟩
theorem nds_of {l out:List It} {n:Nd} (hg:Good out) (ha:absS out<=n.w) (hr:∀t∈out,∃u∈l,u.row=t.row) (hf:∀t∈l,fitR t.row n.types=true) (hv:∀t∈l,∀v∈t.row,v.k=3->-n.v<=v.i/\v.i<=n.v):Nds out n:=
 ⟨hg,λt ht=>by obtain ⟨u,hu,e⟩:=hr t ht;rw[<- e];exact hf u hu,ha,λt ht v hv'=>by obtain ⟨u,hu,e⟩:=hr t ht;exact hv u hu v (by rw[e];exact hv')⟩
theorem Nds.sub {z:List It} {n:Nd} (h:Nds z n) (f:It->Bool):Nds (z.filter f) n:=
 ⟨good_made.2 ⟨made_filter h.made f,λt ht=>h.ok t (List.mem_filter.1 ht).1⟩,λt ht=>h.fit t (List.mem_filter.1 ht).1,Int.le_trans (abs_filter f z) h.abs,λt ht=>h.val t (List.mem_filter.1 ht).1⟩
theorem Nds.nil {n:Nd} (h:0<=n.w):Nds [] n:=⟨good_made.2 ⟨⟨.nil,by simp⟩,by simp⟩,by simp,by simpa [absS] using h,by simp⟩
theorem nd_pickE {z:List It} {n:Nd} (h:Nds z n) {cols:List Int} (hc:cols.any (outC n.types.length)=false) (hl:cols.length<=12):∀t∈z,pickE t.row cols=0:=λt ht=>by rw[pickE,h.row t ht,if_neg (by rw[hc];decide),if_neg (by omega)]
theorem abs_proj (cols:List Int):∀z:List It,absS (z.map (projI cols))=absS z
 | []=>rfl
 | t::z=>by simp only[List.map_cons,absS,abs_proj cols z];rfl
theorem getV_len {r:List V} {c:Int} (h0:0<=c) (h:c<r.length):getV r c∈r:=getV_mem (by simp[inC];omega)
theorem nd_projW {z out:List It} {n:Nd} {cols:List Int} {err:Int} (h:Nds z n) (b:n.w<=72057594037927936) (hc:cols.any (outC n.types.length)=false) (hl:cols.length<=12) (hp:ProjX z cols out err) :
 err=0/\Nds out ⟨pickI n.types cols,n.w,n.v⟩/\MakeR (z.map (projI cols)) out 0:=by
 have hz:=nd_pickE h hc hl;rcases hp with ⟨g,_⟩|⟨_,⟨i,hi,g1,_⟩,g2,_⟩|⟨_,_,hm⟩
 ·exact absurd h.good g
 ·exact absurd (g1.symm.trans (hz _ (List.getElem_mem hi))) g2
 have hf:∀t∈z.map (projI cols),fitR t.row (pickI n.types cols)=true:=λt ht=>by obtain ⟨u,hu,rfl⟩:=List.mem_map.1 ht;exact fitR_pick (h.fit u hu) hc
 obtain ⟨h1,h2,h3,h4,h5,h6⟩:=make_in (W:=n.w) hm (λt ht=>fitR_ok (hf t ht) (by simpa [pickI] using hl)) (by rw[abs_proj];exact h.abs) b;refine ⟨h1,nds_of h2 h3 h5 hf λt ht v hv hk=>?_,h1▸hm⟩;obtain ⟨u,hu,rfl⟩:=List.mem_map.1 ht;simp only[projI,pickR,List.mem_map] at hv;obtain ⟨c,hc',rfl⟩:=hv;have:=outC_in hc c hc';exact h.val u hu _ (getV_len this.1 (by rw[h.row u hu];exact this.2)) hk
theorem nd_proj {z out:List It} {n:Nd} {cols:List Int} {err:Int} (h:Nds z n) (b:Ndb n) (hc:cols.any (outC n.types.length)=false) (hl:cols.length<=12) (hp:ProjX z cols out err) :
 err=0/\Nds out ⟨pickI n.types cols,n.w,n.v⟩/\MakeR (z.map (projI cols)) out 0:=nd_projW h (by have:=b.w1;omega) hc hl hp
theorem nd_add {x y out:List It} {n m:Nd} {err:Int} (hx:Nds x n) (hy:Nds y m) (ht:n.types=m.types) (hw:n.w+m.w<=72057594037927936) (h:AddR x y out err) :
 err=0/\Nds out ⟨n.types,n.w+m.w,max n.v m.v⟩/\(∀r,Yt.tot r out=Yt.tot r x+Yt.tot r y)/\out.length<=x.length+y.length:=by
 rcases h with ⟨g,_⟩|⟨_,_,hm⟩
 ·exact absurd ⟨hx.good,hy.good⟩ g
 have hf:∀t∈x++y,fitR t.row n.types=true:=λt h=>by
  rcases List.mem_append.1 h with h|h
  ·exact hx.fit t h
  ·rw[ht];exact hy.fit t h
 obtain ⟨h1,h2,h3,h4,h5,h6⟩:=make_in (W:=n.w+m.w) hm (λt h=>by
  rcases List.mem_append.1 h with h|h
  ·exact hx.ok t h
  ·exact hy.ok t h) (by rw[absS_append];have:=hx.abs;have:=hy.abs;omega) hw
 refine ⟨h1,nds_of h2 h3 h5 hf λt h v hv hk=>?_,λr=>by rw[h4,tot_append],by rw[<- List.length_append];exact h6⟩;rcases List.mem_append.1 h with h|h
 ·have:=hx.val t h v hv hk;simp only;omega
 ·have:=hy.val t h v hv hk;simp only;omega
theorem Nds.neg {z:List It} {n:Nd} (h:Nds z n):Nds (z.map negI) n:=
 ⟨good_made.2 ⟨made_neg h.made,λt ht=>by obtain ⟨u,hu,rfl⟩:=List.mem_map.1 ht;exact h.ok u hu⟩,λt ht=>by obtain ⟨u,hu,rfl⟩:=List.mem_map.1 ht;exact h.fit u hu,by rw[abs_neg];exact h.abs,
  λt ht=>by obtain ⟨u,hu,rfl⟩:=List.mem_map.1 ht;exact h.val u hu⟩
theorem nd_min {x y out:List It} {n m:Nd} {err:Int} (hx:Nds x n) (hy:Nds y m) (ht:n.types=m.types) (hw:n.w+m.w<=72057594037927936) (h:MinR x y out err) :
 err=0/\Nds out ⟨n.types,n.w+m.w,max n.v m.v⟩/\(∀r,Yt.tot r out=Yt.tot r x-Yt.tot r y)/\out.length<=x.length+y.length:=by
 rcases h with ⟨g,_⟩|⟨_,_,hm⟩
 ·exact absurd ⟨hx.good,hy.good⟩ g
 obtain ⟨h1,h2,h3,h4⟩:=nd_add hx hy.neg ht hw (.inr ⟨hx.good,hy.neg.good,hm⟩);exact ⟨h1,h2,λr=>by rw[h3,tot_neg];omega,by rw[List.length_map] at h4;exact h4⟩
theorem abs_dist:∀{z:List It},(∀t∈z,t.w≠0)->absS (distL z)<=absS z
 | [],_=>by simp[distL,absS]
 | t::z,h=>by
   have h1:=abs_dist (z:=z) λu hu=>h u (by simp[hu]);have h2:=h t (by simp);have h0:=absS_pos z;simp only[distL,List.filter_cons] at h1 ⊢;split
   ·have e:(oneI t.row).w=1:=rfl;simp only[List.map_cons,absS,e];omega
   ·simp only[absS];omega
theorem nd_dist {z:List It} {n:Nd} (h:Nds z n):Nds (distL z) n:=
 ⟨good_made.2 ⟨made_dist h.made,λt ht=>distL_rows (P:=λr=>okR r=0) h.ok t ht⟩,λt ht=>distL_rows (P:=λr=>fitR r n.types=true) h.fit t ht,Int.le_trans (abs_dist λt ht=>(h.made.nz t ht).1) h.abs,
  λt ht=>distL_rows (P:=λr=>∀v∈r,v.k=3->-n.v<=v.i/\v.i<=n.v) h.val t ht⟩
theorem mx_abs (x:Int):max x (-x)=(x.natAbs:Int):=by omega
theorem mx_mul (x y:Int):max (x*y) (-(x*y))=max x (-x)*max y (-y):=by rw[mx_abs,mx_abs,mx_abs,Int.natAbs_mul];simp
theorem mul_le_of {a b c d:Int} (h1:a<=c) (h2:b<=d) (ha:0<=a) (hd:0<=d):a*b<=c*d:=Int.le_trans (Int.mul_le_mul_of_nonneg_left h2 ha) (Int.mul_le_mul_of_nonneg_right h1 hd)
theorem abs_join1 (x:It) (p:It->Bool):∀b:List It,absS (((b.filter p).map λy=>(x,y)).map joinI)<=max x.w (-x.w)*absS b
 | []=>by simp[absS]
 | y::b=>by
   have h:=abs_join1 x p b;have e:max x.w (-x.w)*absS (y::b)=max x.w (-x.w)*max y.w (-y.w)+max x.w (-x.w)*absS b:=(by simp only[absS,Int.mul_add]);have h0:0<=max x.w (-x.w)*max y.w (-y.w):=Int.mul_nonneg (by omega) (by omega);rw[e];simp only[List.filter_cons];split
   ·simp only[List.map_cons,absS,joinI,mx_mul] at h ⊢;omega
   ·omega
theorem abs_join (cols others:List Int) (b:List It):∀a:List It,absS ((pairL a b cols others).map joinI)<=absS a*absS b
 | []=>by simp[pairL,absS]
 | x::a=>by
   have h:=abs_join cols others b a;have h1:=abs_join1 x (λy=>meetP x.row y.row cols others) b;have e:pairL (x::a) b cols others=((b.filter λy=>meetP x.row y.row cols others).map λy=>(x,y))++pairL a b cols others:=(by simp[pairL]);rw[e,List.map_append,absS_append];have e2:absS (x::a)*absS b=max x.w (-x.w)*absS b+absS a*absS b:=(by simp only[absS,Int.add_mul]);rw[e2];omega
theorem nd_join {a b out:List It} {n m:Nd} {cols others:List Int} {err:Int} (ha:Nds a n) (hb:Nds b m) (hl:cols.length=others.length) (ht:n.types.length+m.types.length<=12) (hw0:0<=n.w) (hw:n.w*m.w<=72057594037927936)
 (h:JoinR a b cols others out err):err=0/\Nds out ⟨n.types++m.types,n.w*m.w,max n.v m.v⟩/\(∀r,Yt.tot r out=jt cols others r a b)/\out.length<=a.length*b.length:=by
 have hab:absS a*absS b<=n.w*m.w:=mul_le_of ha.abs hb.abs (absS_pos a) (Int.le_trans (absS_pos b) hb.abs);have hlong:(pairL a b cols others).any longP=false:=by rw[List.any_eq_false];intro p hp;obtain ⟨h1,h2,_⟩:=pairL_mem hp;have:=ha.row _ h1;have:=hb.row _ h2;simp[longP];omega
 have hok:∀p∈pairL a b cols others,okW (p.1.w*p.2.w)=true:=λp hp=>by obtain ⟨h1,h2,_⟩:=pairL_mem hp;have g1:=abs_mem h1;have g2:=abs_mem h2;have g3:=mul_small (x:=p.1.w) (y:=p.2.w) (i:=absS a) (j:=absS b) ⟨g1.1,g1.2⟩ ⟨g2.1,g2.2⟩;exact ok_w (K:=absS a*absS b) g3.1 g3.2 (by omega)
 have hm:MakeR ((pairL a b cols others).map joinI) out err:=by
  rcases h with ⟨g,_⟩|⟨_,_,g,_⟩|⟨_,_,_,_,⟨p,hp,g⟩,_⟩|⟨_,_,_,_,_,g⟩
  ·exact absurd ⟨ha.good,hb.good⟩ g
  ·rcases g with g|⟨_,g⟩
   ·exact absurd hl g
   ·rw[hlong] at g;cases g
  ·rw[hok p hp] at g;cases g
  ·exact g
 have hf:∀t∈(pairL a b cols others).map joinI,fitR t.row (n.types++m.types)=true:=λt h=>by obtain ⟨p,hp,rfl⟩:=List.mem_map.1 h;obtain ⟨h1,h2,_⟩:=pairL_mem hp;exact fitR_app (ha.fit _ h1) (hb.fit _ h2)
 obtain ⟨h1,h2,h3,h4,h5,h6⟩:=make_in (W:=n.w*m.w) hm (λt h=>fitR_ok (hf t h) (by rw[List.length_append];exact ht)) (Int.le_trans (abs_join cols others b a) hab) hw;refine ⟨h1,nds_of h2 h3 h5 hf λt h v hv hk=>?_,λr=>by rw[h4,tot_join],Nat.le_trans h6 (by rw[List.length_map];exact pairL_len a b cols others)⟩;obtain ⟨p,hp,rfl⟩:=List.mem_map.1 h;obtain ⟨h1,h2,_⟩:=pairL_mem hp;simp only[joinI,List.mem_append] at hv;rcases hv with hv|hv
 ·have:=ha.val _ h1 v hv hk;simp only;omega
 ·have:=hb.val _ h2 v hv hk;simp only;omega
def absT (f:It->Int):List It->Int
 | []=>0
 | t::l=>max (f t) (-f t)+absT f l
theorem absT_pos (f:It->Int):∀l:List It,0<=absT f l
 | []=>Int.le_refl _
 | t::l=>by have:=absT_pos f l;simp only[absT];omega
theorem sumF_abs {kind col:Int}:∀(l:List It) (n:Int),max n (-n)+absT (sumT kind col) l<=1152921504606846976->sumF kind col l n=some (n+(l.map (sumT kind col)).sum)
 | [],n,_=>by simp[sumF]
 | t::l,n,h=>by
   have h0:=absT_pos (sumT kind col) l;simp only[absT] at h;simp only[sumF];by_cases hk:kind=2/\(getV t.row col).k≠3
   ·have e:sumT kind col t=0:=(by rw[sumT,if_pos hk.1,if_neg hk.2]);rw[if_pos hk,sumF_abs l n (by omega)];simp[e]
   ·rw[if_neg hk];have e2:sumT kind col t=t.w*(if kind=2 then (getV t.row col).i else 1):=by
     simp only[sumT];by_cases e3:kind=2
     ·simp[e3] at hk ⊢;exact λh=>absurd hk h
     ·simp[e3]
    rw[<- e2];have e4:(inVal (sumT kind col t)&&inVal (n+sumT kind col t))=true:=by simp only[inVal,inB,Bool.and_eq_true,decide_eq_true_eq];omega
    rw[if_pos e4,sumF_abs l _ (by omega)];simp only[List.map_cons,List.sum_cons];congr 1;omega
theorem sum_absT (f:It->Int):∀l:List It,-absT f l<=(l.map f).sum/\(l.map f).sum<=absT f l
 | []=>by simp[absT]
 | t::l=>by
   have h:=sum_absT f l;simp only[List.map_cons,List.sum_cons,absT];omega
theorem absT_count (col:Int):∀l:List It,absT (sumT 1 col) l=absS l
 | []=>rfl
 | t::l=>by simp only[absT,absS,absT_count col l];rfl
theorem absT_sum {col v:Int} (hv:0<=v):∀l:List It,(∀t∈l,(getV t.row col).k=3->-v<=(getV t.row col).i/\(getV t.row col).i<=v)->absT (sumT 2 col) l<=absS l*v
 | [],_=>by simp[absT,absS]
 | t::l,h=>by
   have h1:=absT_sum hv l λu hu=>h u (by simp[hu]);have h2:max (sumT 2 col t) (-sumT 2 col t)<=max t.w (-t.w)*v:=by
    have h0:0<=max t.w (-t.w)*v:=Int.mul_nonneg (by omega) hv;simp only[sumT,if_true];split
    ·rename_i hk;rw[mx_mul];have:=h t (by simp) hk;exact Int.mul_le_mul_of_nonneg_left (by omega) (by omega)
    ·omega
   simp only[absT,absS,Int.add_mul];omega
theorem bestF_in {kind col:Int} {l:List It}:bestF kind col l V.nul=V.nul\/∃t∈l,bestF kind col l V.nul=getV t.row col:=bestF_mem kind col l V.nul
def aggV (kind:Int) (n:Nd):Int:=if kind=1 then n.w else if kind=2 then n.v*n.w else n.v
def aggT (kind col:Int) (n:Nd):Int:=if kind=1\/kind=2 then 3 else getI n.types col
theorem nd_gval {z:List It} {n:Nd} {cols:List Int} {kind col:Int} {gs:List Gp} (h:Nds z n) (b:Ndb n) (hk:1<=kind/\kind<=4) (hc:kind≠1->inC col n.types.length=true) (hs:kind=2->getI n.types col=3) (hv:aggV kind n<=1152921504606846976)
 (hg:GpI cols z gs) {g:Gp} (hgm:g∈gs):∃v,gval kind col g=some v/\okV v=true/\(v.k=aggT kind col n\/v.k=1)/\(v.k=3->-aggV kind n<=v.i/\v.i<=aggV kind n)/\(kind≠1->typeOk (aggT kind col n)=true):=by
 have hi:∀t∈g.items,t∈z:=λt ht=>by rw[hg.items _ hgm,List.mem_filter] at ht;exact ht.1
 have hab:absS g.items<=n.w:=by rw[hg.items _ hgm];exact Int.le_trans (abs_filter _ z) h.abs
 have hcol:kind≠1->∀t∈z,fitsV (getV t.row col) (getI n.types col)=true:=λhk1 t ht=>by have:=hc hk1;simp only[inC,Bool.and_eq_true,decide_eq_true_eq] at this;exact fitR_get (h.fit t ht) this.1 this.2
 have hmem:kind≠1->∀t∈z,getV t.row col∈t.row:=λhk1 t ht=>getV_mem (by rw[h.row t ht];exact hc hk1);have hz:g.items≠[]:=hg.some _ hgm;obtain ⟨t0,ht0⟩:=List.exists_mem_of_ne_nil _ hz;have htype:kind≠1->typeOk (getI n.types col)=true:=λhk1=>by have:=hcol hk1 t0 (hi t0 ht0);simp only[fitsV,Bool.and_eq_true] at this;exact this.1.1
 have hnum:∀x:Int,-1152921504606846976<=x->x<=1152921504606846976->okV ⟨3,x,ByteArray.empty⟩=true:=λx h1 h2=>by simp[okV,inB,h1,h2,noS];rfl
 by_cases h1:kind=1
 ·subst h1;have hT:=absT_count col g.items;have hsum:=sum_absT (sumT 1 col) g.items;simp only[aggV,if_true] at hv ⊢;refine ⟨⟨3,0+(g.items.map (sumT 1 col)).sum,ByteArray.empty⟩,?_,hnum _ (by omega) (by omega),.inl (by simp[aggT]),λ_=>by simp only;omega,λe=>absurd rfl e⟩;rw[gval,if_pos (.inl rfl),sumF_abs _ _ (by omega)];rfl
 by_cases h2:kind=2
 ·subst h2;have hb:=absT_sum (col:=col) b.v0 g.items λt ht hk3=>h.val t (hi t ht) _ (hmem h1 t (hi t ht)) hk3;have hb2:absS g.items*n.v<=n.w*n.v:=Int.mul_le_mul_of_nonneg_right hab b.v0;have hsum:=sum_absT (sumT 2 col) g.items;simp only[aggV,if_true,h1,if_false] at hv ⊢;rw[Int.mul_comm] at hv ⊢;refine ⟨⟨3,0+(g.items.map (sumT 2 col)).sum,ByteArray.empty⟩,?_,hnum _ (by omega) (by omega),.inl (by simp[aggT]),λ_=>by simp only;omega,λ_=>by simp[aggT,typeOk]⟩;rw[gval,if_pos (.inr rfl),sumF_abs _ _ (by omega)];rfl
 ·have ht:=htype h1;have e1:aggT kind col n=getI n.types col:=(by simp[aggT,h1,h2]);have e2:aggV kind n=n.v:=(by simp[aggV,h1,h2]);rw[e1,e2];have key:∀v,(v=V.nul\/∃t∈g.items,v=getV t.row col)->okV v=true/\(v.k=getI n.types col\/v.k=1)/\(v.k=3->-n.v<=v.i/\v.i<=n.v):=λv hv'=>by
   rcases hv' with rfl|⟨t,ht',rfl⟩
   ·exact ⟨by decide,.inr rfl,λh=>by cases h⟩
   ·have:=hcol h1 t (hi t ht');simp only[fitsV,Bool.and_eq_true,Bool.or_eq_true,decide_eq_true_eq] at this;exact ⟨this.1.2,this.2,h.val t (hi t ht') _ (hmem h1 t (hi t ht'))⟩
  obtain ⟨k1,k2,k3⟩:=key _ (bestF_in (kind:=kind) (col:=col) (l:=g.items));exact ⟨_,by rw[gval,if_neg (by omega)],k1,k2,k3,λ_=>ht⟩
theorem abs_ones:∀l:List It,(∀t∈l,t.w=1)->absS l=l.length
 | [],_=>rfl
 | t::l,h=>by
   have h1:=abs_ones l λu hu=>h u (by simp[hu]);have h2:=h t (by simp);simp only[absS,List.length_cons];omega
theorem nd_group {z out:List It} {n:Nd} {cols:List Int} {kind col err:Int} (h:Nds z n) (b:Ndb n) (hk:1<=kind/\kind<=4) (hcs:cols.any (outC n.types.length)=false) (hl:cols.length<12) (hc:kind≠1->inC col n.types.length=true) (hs:kind=2->getI n.types col=3)
 (hv:aggV kind n<=1152921504606846976) (hp:GroupR z cols kind col out err) :
 err=0/\Nds out ⟨pickI n.types cols++[aggT kind col n],n.w,max n.v (aggV kind n)⟩/\out.length<=z.length:=by
 have hz:=nd_pickE h hcs (by omega);have hwr:Wr0 z cols kind col:=⟨h.good,hk.1,hk.2,hl,λt ht=>⟨hz t ht,λh1=>by rw[h.row t ht];exact hc h1⟩⟩;rcases hp with ⟨g,_⟩|⟨_,gs,hg,hgl,hq⟩
 ·exact absurd hwr g
 have hval:=λg (hgm:g∈gs)=>nd_gval h b hk hc hs hv hg hgm;have hat:∀g∈gs,∃t∈z,g.at_=pickR t.row cols:=λg hgm=>by
  obtain ⟨t,ht⟩:=List.exists_mem_of_ne_nil _ (hg.some _ hgm);rw[hg.items _ hgm,List.mem_filter] at ht;refine ⟨t,ht.1,?_⟩;have h4:cmpR (pickR t.row cols) g.at_=0:=by have:=ht.2;simp at this;exact this.2
  exact (lin_cmpR.eq _ _ h4).symm
 have hm:MakeR (gs.map (gItem kind col)) out err:=by
  rcases hq with ⟨⟨g,hgm,hn⟩,_⟩|⟨_,hm⟩
  ·obtain ⟨v,hv',_⟩:=hval g hgm;rw[hv'] at hn;cases hn
  ·exact hm
 have hone:∀t∈gs.map (gItem kind col),t.w=1:=λt ht=>by obtain ⟨g,_,rfl⟩:=List.mem_map.1 ht;rfl
 have hf:∀t∈gs.map (gItem kind col),fitR t.row (pickI n.types cols++[aggT kind col n])=true:=λt ht=>by
  obtain ⟨g,hgm,rfl⟩:=List.mem_map.1 ht;obtain ⟨v,e1,e2,e3,e4,e5⟩:=hval g hgm;obtain ⟨u,hu,e6⟩:=hat g hgm;rw[gItem,e1,e6];refine fitR_app (fitR_pick (h.fit u hu) hcs) ?_;have e7:typeOk (aggT kind col n)=true:=by
   by_cases h1:kind=1
   ·simp[aggT,h1,typeOk]
   ·exact e5 h1
  simp only[Option.getD_some,fitR,fitsV,Bool.and_true,Bool.and_eq_true,Bool.or_eq_true,decide_eq_true_eq];exact ⟨⟨e7,e2⟩,e3⟩
 have hlen:absS (gs.map (gItem kind col))<=n.w:=by rw[abs_ones _ hone,List.length_map];have:=len_abs (z:=z) λt ht=>(h.made.nz t ht).1;have:=h.abs;omega
 obtain ⟨h1,h2,h3,h4,h5,h6⟩:=make_in (W:=n.w) hm (λt ht=>fitR_ok (hf t ht) (by simp[pickI];omega)) hlen (by have:=b.w1;omega);refine ⟨h1,nds_of h2 h3 h5 hf λt ht v hv' hk3=>?_,by rw[List.length_map] at h6;omega⟩;obtain ⟨g,hgm,rfl⟩:=List.mem_map.1 ht;obtain ⟨v',e1,e2,e3,e4,e5⟩:=hval g hgm;obtain ⟨u,hu,e6⟩:=hat g hgm;simp only[gItem,e1,Option.getD_some,List.mem_append,List.mem_singleton] at hv';rcases hv' with hv'|rfl
 ·rw[e6] at hv';simp only[pickR,List.mem_map] at hv';obtain ⟨c,hc',rfl⟩:=hv';have h8:=outC_in hcs c hc';have:=h.val u hu _ (getV_len h8.1 (by rw[h.row u hu];exact h8.2)) hk3;simp only;omega
 ·have:=e4 hk3;simp only;omega
@[go_sem] theorem cells_intsL {r:List Int} {K:List AV->Prop}:cellsOf (intsL r) K=K [intsL r]:=rfl
@[go_sem] theorem lenOk_intsL {t:Nat} {l:List Int}:lenOk (.slice t) (intsL l)=True:=rfl
@[go_sem] theorem lenI_intsL {l:List Int} {K:Int->Prop}:lenI (intsL l) K=K l.length:=by simp[intsL,lenI]
def scanE (F:List (List Int)) (x:PN):Int:=if inC x.table F.length=true then 0 else 1
def scanN (F:List (List Int)) (x:PN):Nd:=⟨4::((F[x.table.toNat]?).getD []),1024,2147483648⟩
def filtE (D:List Nd) (x:PN):Int:=if inC x.a D.length=true then predE x.pred (ndAt D x.a).types else 1
def distE (D:List Nd) (x:PN):Int:=if inC x.a D.length=true then 0 else 1
def bothE (x:PN) (D:List Nd):Int:=if inC x.a D.length=false\/inC x.b D.length=false then 1 else if (ndAt D x.a).types≠(ndAt D x.b).types then 10 else if 1125899906842624-(ndAt D x.b).w<(ndAt D x.a).w then 11 else 0
def bothN (x:PN) (D:List Nd):Nd:=⟨(ndAt D x.a).types,(ndAt D x.a).w+(ndAt D x.b).w,max (ndAt D x.a).v (ndAt D x.b).v⟩
def joinE (x:PN) (D:List Nd):Int:=
 if inC x.a D.length=false\/inC x.b D.length=false then 1
 else if x.cols.any (outC (ndAt D x.a).types.length)=true\/x.others.any (outC (ndAt D x.b).types.length)=true then 1
 else if x.cols.length≠x.others.length\/12<(ndAt D x.a).types.length+(ndAt D x.b).types.length then 2
 else if pickI (ndAt D x.a).types x.cols≠pickI (ndAt D x.b).types x.others then 10
 else if ¬(ndAt D x.a).w*(ndAt D x.b).w<=1125899906842624 then 11 else 0
def joinN (x:PN) (D:List Nd):Nd:=⟨(ndAt D x.a).types++(ndAt D x.b).types,(ndAt D x.a).w*(ndAt D x.b).w,max (ndAt D x.a).v (ndAt D x.b).v⟩
def grpE (x:PN) (D:List Nd):Int:=
 if inC x.a D.length=false\/x.agg<1\/4<x.agg then 1
 else if x.cols.any (outC (ndAt D x.a).types.length)=true\/(x.agg≠1/\inC x.col (ndAt D x.a).types.length=false) then 1
 else if 12<=x.cols.length then 2
 else if x.agg=2/\getI (ndAt D x.a).types x.col≠3 then 10
 else if 1152921504606846976<max (ndAt D x.a).v (aggV x.agg (ndAt D x.a)) then 11 else 0
def grpN (x:PN) (D:List Nd):Nd:=⟨pickI (ndAt D x.a).types x.cols++[aggT x.agg x.col (ndAt D x.a)],(ndAt D x.a).w,max (ndAt D x.a).v (aggV x.agg (ndAt D x.a))⟩
def lookE (F:List (List Int)) (D:List Nd) (x:PN):Int:=
 if x.kind=1 then scanE F x else if x.kind=2 then filtE D x else if x.kind=3 then projE x D else if x.kind=4 then joinE x D
 else if x.kind=5\/x.kind=6 then bothE x D else if x.kind=7 then distE D x else if x.kind=8 then grpE x D else 1
def lookN (F:List (List Int)) (D:List Nd) (x:PN):Nd:=
 if x.kind=1 then scanN F x else if x.kind=2 then ndAt D x.a else if x.kind=3 then projN x D else if x.kind=4 then joinN x D
 else if x.kind=5\/x.kind=6 then bothN x D else if x.kind=7 then ndAt D x.a else grpN x D
def planD (F:List (List Int)):List PN->List Nd->Int×List Nd
 | [],D=>(0,D)
 | x::r,D=>if lookE F D x=0 then planD F r (D++[lookN F D x]) else (lookE F D x,[])
def planE (F:List (List Int)) (l:List PN):Int:=if formsE F≠0 then formsE F else if l.length<1\/12<l.length then 2 else (planD F l []).1
def planN (F:List (List Int)) (l:List PN):List Nd:=(planD F l []).2
theorem planD_app (F:List (List Int)):∀(a b:List PN) (D:List Nd),(planD F a D).1=0->planD F (a++b) D=planD F b (planD F a D).2
 | [],b,D,_=>rfl
 | x::a,b,D,h=>by
   simp only[List.cons_append,planD] at h ⊢;split
   ·rename_i e;rw[if_pos e] at h;exact planD_app F a b _ h
   ·rename_i e;rw[if_neg e] at h;exact absurd h e
theorem planD_len (F:List (List Int)):∀(a:List PN) (D:List Nd),(planD F a D).1=0->(planD F a D).2.length=D.length+a.length
 | [],D,_=>rfl
 | x::a,D,h=>by
   simp only[planD] at h ⊢;split
   ·rename_i e;rw[if_pos e] at h;rw[planD_len F a _ h];simp;omega
   ·rename_i e;rw[if_neg e] at h;exact absurd h e
def ndsTo (F:List (List Int)) (l:List PN) (i:Nat):List Nd:=planN F (l.take i)
theorem planD_take {F:List (List Int)} {l:List PN} (h:(planD F l []).1=0) (i:Nat):(planD F (l.take i) []).1=0:=by
 have key:∀(a b:List PN) (D:List Nd),(planD F (a++b) D).1=0->(planD F a D).1=0:=by
  intro a b
  induction a with
  | nil=>intro D _;rfl
  | cons x a ih=>
    intro D h;simp only[List.cons_append,planD] at h ⊢;split
    ·rename_i e;rw[if_pos e] at h;exact ih _ h
    ·rename_i e;rw[if_neg e] at h;exact h
 exact key (l.take i) (l.drop i) [] (by rw[List.take_append_drop];exact h)
theorem planD_step {F:List (List Int)} {l:List PN} (h:(planD F l []).1=0) {i:Nat} (hi:i<l.length):lookE F (ndsTo F l i) l[i]=0/\ndsTo F l (i+1)=ndsTo F l i++[lookN F (ndsTo F l i) l[i]]:=by
 have h1:=planD_take h i;have h2:=planD_take h (i+1);have e:=planD_app F (l.take i) [l[i]] [] h1;rw[<- List.take_succ_eq_append_getElem hi] at e;rw[e] at h2;simp only[planD] at h2;by_cases hz:lookE F (ndsTo F l i) l[i]=0
 ·refine ⟨hz,?_⟩;have hz':lookE F (planD F (l.take i) []).2 l[i]=0:=hz;simp only[ndsTo,planN];rw[e];simp only[planD,hz',if_true]
 ·have hz':¬lookE F (planD F (l.take i) []).2 l[i]=0:=hz;rw[if_neg hz'] at h2;exact absurd h2 hz'
theorem ndsTo_len {F:List (List Int)} {l:List PN} (h:(planD F l []).1=0) {i:Nat} (hi:i<=l.length):(ndsTo F l i).length=i:=by have:=planD_len F (l.take i) [] (planD_take h i);simp only[ndsTo,planN];rw[this];simp;omega
def setAt (S:List (List It)) (k:Int):List It:=(S[k.toNat]?).getD []
theorem setAt_eq {S:List (List It)} {k:Int} (h:k.toNat<S.length):setAt S k=S[k.toNat]:=by simp[setAt,h]
theorem ndAt_eq {S:List Nd} {k:Int} (h:k.toNat<S.length):ndAt S k=S[k.toNat]:=by simp[ndAt,h]
def NodeR (x:PN) (S tabs:List (List It)) (out:List It):Prop:=
 if x.kind=1 then out=setAt tabs x.table
 else if x.kind=2 then out=(setAt S x.a).filter λt=>holdsP x.pred t.row
 else if x.kind=3 then ProjX (setAt S x.a) x.cols out 0
 else if x.kind=4 then JoinR (setAt S x.a) (setAt S x.b) x.cols x.others out 0
 else if x.kind=5 then AddR (setAt S x.a) (setAt S x.b) out 0
 else if x.kind=6 then MinR (setAt S x.a) (setAt S x.b) out 0
 else if x.kind=7 then out=distL (setAt S x.a)
 else GroupR (setAt S x.a) x.cols x.agg x.col out 0
def smallV (v:V):Bool:=okV v&&(!decide (v.k=3)||inB v.i (-2147483648) 2147483648)
def wrongI (f:List Int) (t:It):Bool:=!decide (t.w=1)||!fitR t.row (4::f)||!decide ((getV t.row 0).k=4)||t.row.any λv=>!smallV v
def tabE (f:List Int) (z:List It):Prop:=Good z/\z.length<=1024/\z.any (wrongI f)=false
theorem nd_scan {f:List Int} {z:List It} (h:tabE f z):Nds z ⟨4::f,1024,2147483648⟩:=by
 obtain ⟨h1,h2,h3⟩:=h;rw[List.any_eq_false] at h3;have hw:∀t∈z,t.w=1/\fitR t.row (4::f)=true/\∀v∈t.row,smallV v=true:=λt ht=>by
  have:=h3 t ht;simp only[wrongI,Bool.or_eq_true,Bool.not_eq_true',decide_eq_false_iff_not,not_or,Decidable.not_not,Bool.not_eq_false] at this;refine ⟨this.1.1.1,this.1.1.2,λv hv=>?_⟩;have h4:=this.2;rw[List.any_eq_true] at h4;cases h5:smallV v with
  | true=>rfl
  | false=>exact absurd ⟨v,hv,by rw[h5];rfl⟩ h4
 refine ⟨h1,λt ht=>(hw t ht).2.1,by rw[abs_ones z λt ht=>(hw t ht).1];simp only;omega,λt ht v hv hk=>?_⟩;have:=(hw t ht).2.2 v hv;simp only[smallV,hk,decide_true,Bool.not_true,Bool.false_or,Bool.and_eq_true,inB,decide_eq_true_eq] at this;exact this.2
def TabsE (F:List (List Int)) (tabs:List (List It)):Prop:=tabs.length=F.length/\∀i (h:i<F.length) (h2:i<tabs.length),tabE F[i] tabs[i]
structure Sets (S:List (List It)) (D:List Nd):Prop where
 len:S.length=D.length
 nds:∀i (h:i<S.length) (h2:i<D.length),Nds S[i] D[i]
 ndb:∀n∈D,Ndb n
theorem Sets.at {S:List (List It)} {D:List Nd} (h:Sets S D) {k:Int} (hk:inC k D.length=true):Nds (setAt S k) (ndAt D k)/\Ndb (ndAt D k):=by
 simp only[inC,Bool.and_eq_true,decide_eq_true_eq] at hk;have h1:k.toNat<D.length:=by omega
 have h2:k.toNat<S.length:=by rw[h.len];exact h1
 rw[setAt_eq h2,ndAt_eq h1];exact ⟨h.nds _ h2 h1,h.ndb _ (List.getElem_mem h1)⟩
theorem formsE_len {F:List (List Int)} (h:formsE F=0):∀f∈F,1<=f.length/\f.length<=4/\∀c∈f,2<=c/\c<=4:=λf hf=>by
 simp only[formsE] at h;split at h
 ·cases h
 ·rename_i h1;split at h
  ·cases h
  ·rename_i h2;simp only[not_or,Bool.not_eq_true] at h1;have h3:=h1.2.2;rw[List.any_eq_false] at h3;have h4:=h3 f hf;simp only[badC,Bool.or_eq_true,decide_eq_true_eq,not_or] at h4;refine ⟨by omega,by omega,λc hc=>?_⟩;have h5:¬(f.any badT=true):=λe=>h2 (List.any_eq_true.2 ⟨f,hf,e⟩);rw[List.any_eq_true] at h5;have h6:¬badT c=true:=λe=>h5 ⟨c,hc,e⟩;simp only[badT,Bool.or_eq_true,decide_eq_true_eq,not_or] at h6;omega
theorem inC_of_not {c n:Int} (h:¬inC c n=false):inC c n=true:=by simpa using h
theorem node_in {F:List (List Int)} {D:List Nd} {x:PN} {S tabs:List (List It)} {out:List It} (hF:formsE F=0) (hl:lookE F D x=0) (ht:TabsE F tabs) (hS:Sets S D) (h:NodeR x S tabs out) :
 Nds out (lookN F D x):=by
 simp only[lookE] at hl;simp only[lookN];simp only[NodeR] at h;by_cases k1:x.kind=1
 ·simp only[k1,if_true] at hl h ⊢;have hi:inC x.table F.length=true:=by simp only[scanE] at hl;split at hl<;>simp_all
  simp only[inC,Bool.and_eq_true,decide_eq_true_eq] at hi;have h1:x.table.toNat<F.length:=(by omega);have h2:x.table.toNat<tabs.length:=by rw[ht.1];exact h1
  rw[h,setAt_eq h2];have:=nd_scan (ht.2 _ h1 h2);simpa [scanN,h1] using this
 simp only[k1,if_false] at hl h ⊢;by_cases k2:x.kind=2
 ·simp only[k2,if_true] at hl h ⊢;have hi:inC x.a D.length=true:=by simp only[filtE] at hl;split at hl<;>simp_all
  rw[h];exact (hS.at hi).1.sub _
 simp only[k2,if_false] at hl h ⊢;by_cases k3:x.kind=3
 ·simp only[k3,if_true] at hl h ⊢;simp only[projE] at hl;split at hl
  ·cases hl
  ·rename_i h1;split at hl
   ·cases hl
   ·simp only[not_or,Bool.not_eq_true] at h1;have hi:=inC_of_not (by simpa using h1.1);obtain ⟨g1,g2⟩:=hS.at hi;exact (nd_proj g1 g2 h1.2 (by omega) h).2.1
 simp only[k3,if_false] at hl h ⊢;by_cases k4:x.kind=4
 ·simp only[k4,if_true] at hl h ⊢;simp only[joinE] at hl;split at hl
  ·cases hl
  rename_i h1;split at hl
  ·cases hl
  rename_i h2;split at hl
  ·cases hl
  rename_i h3;split at hl
  ·cases hl
  split at hl
  ·cases hl
  rename_i h5;simp only[not_or,Decidable.not_not] at h1 h3 h5;obtain ⟨g1,g2⟩:=hS.at (inC_of_not h1.1);obtain ⟨g3,g4⟩:=hS.at (inC_of_not h1.2);exact (nd_join g1 g3 h3.1 (by omega) g2.w0 (by omega) h).2.1
 simp only[k4,if_false] at hl h ⊢;by_cases k56:x.kind=5\/x.kind=6
 ·simp only[k56,if_true] at hl h ⊢;simp only[bothE] at hl;split at hl
  ·cases hl
  rename_i h1;split at hl
  ·cases hl
  rename_i h2;split at hl
  ·cases hl
  rename_i h5;simp only[not_or,Decidable.not_not] at h1 h2;obtain ⟨g1,g2⟩:=hS.at (inC_of_not h1.1);obtain ⟨g3,g4⟩:=hS.at (inC_of_not h1.2);rcases k56 with k5|k6
  ·simp only[k5,if_true] at h;exact (nd_add g1 g3 h2 (by omega) h).2.1
  ·have k5:¬x.kind=5:=(by omega);simp only[k5,k6,if_true,if_false] at h;exact (nd_min g1 g3 h2 (by omega) h).2.1
 simp only[k56,if_false] at hl h ⊢;have k5:¬x.kind=5:=λe=>k56 (.inl e);have k6:¬x.kind=6:=λe=>k56 (.inr e);simp only[k5,k6,if_false] at h;by_cases k7:x.kind=7
 ·simp only[k7,if_true] at hl h ⊢;have hi:inC x.a D.length=true:=by simp only[distE] at hl;split at hl<;>simp_all
  rw[h];exact nd_dist (hS.at hi).1
 simp only[k7,if_false] at hl h ⊢;split at hl
 rotate_left
 ·cases hl
 simp only[grpE] at hl;split at hl
 ·cases hl
 rename_i h1;split at hl
 ·cases hl
 rename_i h2;split at hl
 ·cases hl
 rename_i h3;split at hl
 ·cases hl
 rename_i h4;split at hl
 ·cases hl
 rename_i h5;simp only[not_or,not_and,Decidable.not_not,Bool.not_eq_true] at h1 h2 h4;obtain ⟨g1,g2⟩:=hS.at (inC_of_not (by simpa using h1.1));exact (nd_group g1 g2 ⟨by omega,by omega⟩ h2.1 (by omega) (λe=>inC_of_not (by simpa using h2.2 e)) h4 (by omega) h).2.1
theorem node_bd {F:List (List Int)} {D:List Nd} {x:PN} (hF:formsE F=0) (hl:lookE F D x=0) (hD:∀n∈D,Ndb n):Ndb (lookN F D x):=by
 have at_:∀{k:Int},inC k D.length=true->Ndb (ndAt D k):=λhk=>by simp only[inC,Bool.and_eq_true,decide_eq_true_eq] at hk;rw[ndAt_eq (by omega)];exact hD _ (List.getElem_mem _)
 simp only[lookE] at hl;simp only[lookN];by_cases k1:x.kind=1
 ·simp only[k1,if_true] at hl ⊢;have hi:inC x.table F.length=true:=by simp only[scanE] at hl;split at hl<;>simp_all
  simp only[inC,Bool.and_eq_true,decide_eq_true_eq] at hi;have h1:x.table.toNat<F.length:=(by omega);have:=formsE_len hF _ (List.getElem_mem h1);refine ⟨by simp[scanN],by simp[scanN],by simp[scanN],by simp[scanN],?_⟩;simp[scanN,h1];omega
 simp only[k1,if_false] at hl ⊢;by_cases k2:x.kind=2
 ·simp only[k2,if_true] at hl ⊢;have hi:inC x.a D.length=true:=by simp only[filtE] at hl;split at hl<;>simp_all
  exact at_ hi
 simp only[k2,if_false] at hl ⊢;by_cases k3:x.kind=3
 ·simp only[k3,if_true] at hl ⊢;simp only[projE] at hl;split at hl
  ·cases hl
  ·rename_i h1;split at hl
   ·cases hl
   ·simp only[not_or,Bool.not_eq_true] at h1;have b:=at_ (inC_of_not (by simpa using h1.1));exact ⟨b.w0,b.w1,b.v0,b.v1,by simp[projN,pickI];omega⟩
 simp only[k3,if_false] at hl ⊢;by_cases k4:x.kind=4
 ·simp only[k4,if_true] at hl ⊢;simp only[joinE] at hl;split at hl
  ·cases hl
  rename_i h1;split at hl
  ·cases hl
  rename_i h2;split at hl
  ·cases hl
  rename_i h3;split at hl
  ·cases hl
  split at hl
  ·cases hl
  rename_i h5;simp only[not_or,Decidable.not_not] at h1 h3 h5;have b1:=at_ (inC_of_not h1.1);have b2:=at_ (inC_of_not h1.2);have:=Int.mul_nonneg b1.w0 b2.w0;have:=b1.v0;have:=b2.v0;have:=b1.v1;have:=b2.v1;exact ⟨by simp only[joinN];omega,by simp only[joinN];omega,by simp only[joinN];omega,by simp only[joinN];omega,by simp only[joinN,List.length_append];omega⟩
 simp only[k4,if_false] at hl ⊢;by_cases k56:x.kind=5\/x.kind=6
 ·simp only[k56,if_true] at hl ⊢;simp only[bothE] at hl;split at hl
  ·cases hl
  rename_i h1;split at hl
  ·cases hl
  rename_i h2;split at hl
  ·cases hl
  rename_i h5;simp only[not_or,Decidable.not_not] at h1 h2;have b1:=at_ (inC_of_not h1.1);have b2:=at_ (inC_of_not h1.2);have:=b1.v0;have:=b2.v0;have:=b1.v1;have:=b2.v1;have:=b1.w0;have:=b2.w0;exact ⟨by simp only[bothN];omega,by simp only[bothN];omega,by simp only[bothN];omega,by simp only[bothN];omega,b1.tl⟩
 simp only[k56,if_false] at hl ⊢;by_cases k7:x.kind=7
 ·simp only[k7,if_true] at hl ⊢;have hi:inC x.a D.length=true:=by simp only[distE] at hl;split at hl<;>simp_all
  exact at_ hi
 simp only[k7,if_false] at hl ⊢;split at hl
 rotate_left
 ·cases hl
 simp only[grpE] at hl;split at hl
 ·cases hl
 rename_i h1;split at hl
 ·cases hl
 rename_i h2;split at hl
 ·cases hl
 rename_i h3;split at hl
 ·cases hl
 split at hl
 ·cases hl
 rename_i h5;simp only[not_or,Bool.not_eq_true] at h1;have b:=at_ (inC_of_not (by simpa using h1.1));have:=b.v0;exact ⟨b.w0,b.w1,by simp only[grpN];omega,by simp only[grpN];omega,by simp[grpN,pickI];omega⟩
theorem ndsTo_bd {F:List (List Int)} {l:List PN} (hF:formsE F=0) (h:(planD F l []).1=0):∀(i:Nat),i<=l.length->∀n∈ndsTo F l i,Ndb n
 | 0,_,n,hn=>by simp[ndsTo,planN,planD] at hn
 | i+1,hi,n,hn=>by
   obtain ⟨h1,h2⟩:=planD_step h (i:=i) (by omega);rw[h2,List.mem_append,List.mem_singleton] at hn;have ih:=ndsTo_bd hF h i (by omega);rcases hn with hn|rfl
   ·exact ih n hn
   ·exact node_bd hF h1 ih
theorem zerosI_leafy (n:Nat):(Ob.mk 1 (List.replicate n [iA 0])).leafy:=by intro x hx a ha;rw[(List.mem_replicate.1 hx).2] at ha;simp only[List.mem_cons,List.not_mem_nil,or_false] at ha;subst ha;rfl
theorem d219 (n:Nat) (hn:n<=1073741824):Spec1 Tryz.prog 219 [.nl,iA n] (λr o=>r=.rf 0 0 0/\o.sz=1):=by
 refine spec1_of_vc tabOk elems ord219 Tryz.func219 rfl (rl:=[.tmp 4]) rfl (by kernel_rfl) rfl ?_;refine Ab ?_;refine VIF.split (λh=>by simp at h;omega) (λ_=>?_);have w0:IntKind.i64.wrap (0-0)=0:=by rw[wrap_i64]<;>omega
 have w1:IntKind.i64.wrap ((n:Int)-0)=n:=by rw[wrap_i64]<;>omega
 refine Er ?_;refine VIF.split (λh=>?_) (λh=>?_)
 ·have h:0<n:=(by simpa using h);refine Aa ?_;refine ⟨by decide,⟨_,rfl⟩,⟨by omega,by omega⟩,by decide,?_⟩;refine Aa ?_;refine FINmk [(0,some 22)] [(4,.rf 0 0 0)] [(0,⟨1,List.replicate n [iA 0]⟩)] [0] rfl ?_ ?_
  ·refine Ab ?_;exact ⟨⟨rfl,rfl⟩,.same ⟨1,List.replicate n [iA 0]⟩ _ _ (zerosI_leafy n) (by simp[iA])⟩
  ·exact ⟨_,⟨⟨rfl,rfl⟩,rfl⟩,zerosI_leafy n,rfl⟩
 ·refine Aa ?_;refine FINmk [(0,none)] [(4,.rf 0 0 0)] [(0,io [])] [0] rfl ?_ ?_
  ·refine Aa ?_;simp[io]
  ·exact ⟨io [],⟨⟨rfl,rfl⟩,rfl⟩,io_leafy [],rfl⟩
def catI:List (List Int)->List Int
 | []=>[]
 | z::r=>z++catI r
theorem catI_append (x y:List (List Int)):catI (x++y)=catI x++catI y:=by
 induction x with
 | nil=>rfl
 | cons z x ih=>simp only[List.cons_append,catI,ih,List.append_assoc]
theorem catI_take {zs:List (List Int)} {i:Nat} (h:i<zs.length):(catI (zs.take (i+1))).length=(catI (zs.take i)).length+zs[i].length:=by rw[List.take_succ_eq_append_getElem h,catI_append];simp[catI]
theorem catI_le (zs:List (List Int)) (i:Nat):(catI (zs.take i)).length<=(catI zs).length:=by
 have:catI zs=catI (zs.take i)++catI (zs.drop i):=by rw[<- catI_append,List.take_append_drop]
 rw[this];simp
theorem d210 (zs:List (List Int)) (hl:zs.length<=1073741824) (hc:(catI zs).length<=268435456) :
 Spec1 Tryz.prog 210 [formsA zs] (λr o=>r=.rf 0 0 (catI zs).length/\o.sz=1/\o.es.take (catI zs).length=(catI zs).map λn=>[iA n]):=by
 refine spec1_of_vc tabOk elems ord210 Tryz.func210 rfl (rl:=[.tmp 2]) rfl (by kernel_rfl) rfl ?_;refine Bz ?_
 refine LOOP.mk (ι:={i:Nat//i<=zs.length}) (λp=>mkS [(0,formsA zs),(3,iA (catI (zs.take p.1)).length),(9,formsA zs),(10,iA zs.length),(11,iA p.1)] [] [])
  (λp=>zs.length-p.1) ⟨0,Nat.zero_le _⟩ [] rfl rfl ?_ (λp=>?_)
 ·refine Bc ?_;exact ⟨id,rfl,rfl⟩
 ·obtain ⟨i,hi⟩:=p;refine Bc ?_;refine VIF.split (λh=>?_) (λh=>?_)
  ·have h:i<zs.length:=(by simpa using h);refine Aa ?_;refine EL.map h ?_;have hct:=catI_take h;have hcl:=catI_le zs (i+1);rw[hct] at hcl;have w1:IntKind.i64.wrap (((catI (zs.take i)).length:Int)+(zs[i].length:Int))=((catI (zs.take (i+1))).length:Int):=by
    rw[hct,wrap_i64]<;>omega
   have w2:=wrap_add1 (show i<4611686018427387904 by omega);(simp -implicitDefEqProofs only[go_sem,intsL,w1,w2];repeat (refine GO ?_;simp -implicitDefEqProofs only[go_sem,intsL,w1,w2]));refine VIF.split (λh=>by simp at h;omega) (λ_=>?_);refine Co ?_;refine BACK.mk ⟨i+1,by omega⟩ [] rfl rfl (by show zs.length-(i+1)<zs.length-i;omega) ?_;(simp -implicitDefEqProofs only[go_sem,formsA,iA,w1,w2];repeat (refine GO ?_;simp -implicitDefEqProofs only[go_sem,formsA,iA,w1,w2]));exact ⟨id,rfl,rfl⟩
  ·have h:i=zs.length:=by simp at h;omega
   subst h;refine Bm ?_;refine .make 24 _ (d219 (catI zs).length (by omega)) rfl (by simp) rfl λq o hq hlf=>?_;obtain ⟨rfl,ho⟩:=hq;refine Aa ?_
   refine LOOP.mk (ι:={p:Nat×Ob//p.1<=zs.length/\p.2.sz=1/\p.2.leafy/\p.2.es.take (catI (zs.take p.1)).length=((catI (zs.take p.1)).map λn=>[iA n])})
    (λp=>mkS [(6,.rf 1000 0 (catI (zs.take p.1.1)).length),(25,formsA zs),(26,iA zs.length),(27,iA p.1.1)] [(1000,p.1.2)] [1000])
    (λp=>zs.length-p.1.1) ⟨(0,o),Nat.zero_le _,ho,hlf,rfl⟩ [(1000,some 24)] rfl rfl ?_ (λp=>?_)
   ·refine Bc ?_;exact ⟨id,⟨rfl,rfl⟩,.same o _ _ hlf rfl⟩
   ·obtain ⟨⟨i,o2⟩,hi,hsz,hlf2,hes⟩:=p;simp only at hi hsz hlf2 hes;refine Bc ?_;refine VIF.split (λh=>?_) (λh=>?_)
    ·have h:i<zs.length:=(by simpa using h);have hct:=catI_take h;have hcl:=catI_le zs (i+1);rw[hct] at hcl;have w2:=wrap_add1 (show i<4611686018427387904 by omega);refine Aa ?_;refine EL.map h ?_;(simp -implicitDefEqProofs only[go_sem,intsL,w2];repeat (refine GO ?_;simp -implicitDefEqProofs only[go_sem,intsL,w2]));refine ⟨⟨hsz,by omega⟩,?_⟩;have hlf3:(Ob.mk 1 (o2.es.take (catI (zs.take i)).length++(zs[i].map λn=>[iA n]))).leafy:=by
      rw[hes,<- List.map_append];exact io_leafy _
     refine BACK.mk ⟨(i+1,⟨1,o2.es.take (catI (zs.take i)).length++(zs[i].map λn=>[iA n])⟩),by omega,rfl,hlf3,by
      show (o2.es.take (catI (zs.take i)).length++(zs[i].map λn=>[iA n])).take (catI (zs.take (i+1))).length=(catI (zs.take (i+1))).map λn=>[iA n];rw[hes,<- List.map_append,List.take_succ_eq_append_getElem h,catI_append];simp only[catI,List.append_nil];exact List.take_of_length_le (by simp)⟩ [(1000,some 33)] rfl rfl (by show zs.length-(i+1)<zs.length-i;omega) ?_
     (simp -implicitDefEqProofs only[go_sem,formsA,iA,w2];repeat (refine GO ?_;simp -implicitDefEqProofs only[go_sem,formsA,iA,w2]));refine ⟨id,⟨by rw[hct],rfl⟩,.same (Ob.mk 1 (o2.es.take (catI (zs.take i)).length++(zs[i].map λn=>[iA n]))) _ _ hlf3 rfl⟩
    ·have h:i=zs.length:=by simp at h;omega
     subst h;rw[List.take_length] at hes;refine Bm ?_;refine FINmk [(0,some 1000)] [(2,.rf 0 0 (catI zs).length)] [(0,o2)] [0] rfl ?_ ?_
     ·refine Aa ?_;exact .same o2 _ _ hlf2 rfl
     ·exact ⟨o2,⟨⟨rfl,hsz,hes⟩,rfl⟩,hlf2,rfl⟩
theorem d210z (zs:List (List Int)) (hl:zs.length<=1073741824) (hc:(catI zs).length<=268435456):Spec0 Tryz.prog 210 [formsA zs] (·=intsL (catI zs)):=
 (Spec1.fz (d210 zs hl hc)).mono λr O' ⟨⟨⟨r0,o,⟨e1,e2,e3⟩,_,_,e4⟩,hn⟩,hO⟩=>by subst e1;subst e4;refine ⟨⟨?_,hn⟩,hO⟩;rw[fz_rf,if_pos rfl,List.drop_zero,e2,e3];rfl
theorem d192 (F:List (List Int)) (D:List Nd) (x:PN) (hD:D.length<1073741824) (hT:∀d∈D,d.types.length<1073741824) (hW:∀d∈D,0<=d.w/\d.w<=1125899906842624):SpecW 192 F D [.ag x.c] (λr=>∃c1 c2 c3 e,r=.tu [.ag [c1,c2,c3],iA e]/\(c1.leaf&&c2.leaf&&c3.leaf)=true/\e=bothE x D/\(e=0->AV.ag [c1,c2,c3]=.ag (bothN x D).c)):=by
 refine funspecD_of_vc tabOk elems og192 Tryz.func192 rfl (rl:=[.cell 4 146,.tmp 5]) rfl (by kernel_rfl) rfl kept_0 ?_;refine B6 ?_;refine .lendR (args':=[.ro [formsA F,.im 3 (D.map Nd.c)] 0,iA x.a]) (d204 F D x.a) ⟨lent_box (d:=3000) Ag Ag,.same rfl,trivial⟩ (by rintro _ rfl;rfl) λq hq=>?_;subst hq;refine Ad ?_;refine VIF.split (λh=>?_) (λh=>?_)
 ·have h:inC x.a D.length=false:=(by simpa using h);refine Aa ?_;refine FINwe .nl (iA 0) (iA 0) 1 kept_0 Ae Ae Ae Aj ⟨rfl,rfl,rfl⟩ Aj ⟨⟨⟨_,_,_,1,rfl,rfl,by rw[bothE,if_pos (.inl h)],λh=>by cases h⟩,rfl⟩,rfl⟩
 have h:inC x.a D.length=true:=by simpa using h
 refine Aa ?_;refine .lendR (args':=[.ro [formsA F,.im 3 (D.map Nd.c)] 0,iA x.b]) (d204 F D x.b) ⟨lent_box (d:=3000) Ag Ag,.same rfl,trivial⟩ (by rintro _ rfl;rfl) λq hq=>?_;subst hq;refine Ad ?_;refine VIF.split (λh2=>?_) (λh2=>?_)
 ·have h2:inC x.b D.length=false:=(by simpa using h2);refine Aa ?_;refine FINwe .nl (iA 0) (iA 0) 1 kept_0 Ae Ae Ae Aj ⟨rfl,rfl,rfl⟩ Aj ⟨⟨⟨_,_,_,1,rfl,rfl,by rw[bothE,if_pos (.inr h2)],λh=>by cases h⟩,rfl⟩,rfl⟩
 have h2:inC x.b D.length=true:=by simpa using h2
 have ha:0<=x.a/\x.a.toNat<D.length:=by simp[inC] at h;omega
 have hb:0<=x.b/\x.b.toNat<D.length:=by simp[inC] at h2;omega
 have e1:ndAt D x.a=D[x.a.toNat]'ha.2:=by simp[ndAt,ha.2]
 have e2:ndAt D x.b=D[x.b.toNat]'hb.2:=by simp[ndAt,hb.2]
 have ta:=hT _ (List.getElem_mem ha.2);have tb:=hT _ (List.getElem_mem hb.2);have wa:=hW _ (List.getElem_mem ha.2);have wb:=hW _ (List.getElem_mem hb.2);have c1:¬(inC x.a D.length=false\/inC x.b D.length=false):=by rw[h,h2];simp
 have w1:IntKind.i64.wrap (1125899906842624-(D[x.b.toNat]'hb.2).w)=1125899906842624-(D[x.b.toNat]'hb.2).w:=by rw[wrap_i64]<;>omega
 refine Aw ?_;refine TO [(0,some 0),(4,some 4),(3000,some 3000)] [(0,.pt 0 0 0),(3,.ro x.c 0),(4,.pt 4 0 0)] [(0,⟨2,[[formsA F,.rf 3000 0 D.length]]⟩),(4,⟨3,[[.nl,iA 0,iA 0]]⟩),(3000,⟨3,D.map Nd.c⟩)] [0,4,3000] rfl ?_ ?_
 ·refine Cf ?_;refine ⟨by simp,⟨by simp[olds],_,rfl,by have:=pn_leafy x;simpa only[PN.c,iA,intsL] using this,rfl⟩,.cons (by simp[wk.wks,wk,nms,formsA]) .nil,.cons (by simp[wk.wks,wk]) .nil,nd_es⟩
 refine G6 ?_;repeat' (first|exact ha.1|exact hb.1|(show _<((D.length:Nat):Int);omega)|(refine EL.map ha.2 ?_;simp -implicitDefEqProofs only[go_sem,Nd.c,iA,PN.c])|(refine EL.map hb.2 ?_;simp -implicitDefEqProofs only[go_sem,Nd.c,iA,PN.c])|apply And.intro)
 all_goals
  refine Aa ?_;refine .pure _ (show Spec0 Tryz.prog 208 [intsL (D[x.a.toNat]'ha.2).types,intsL (D[x.b.toNat]'hb.2).types] _ from d208 (D[x.a.toNat]'ha.2).types (D[x.b.toNat]'hb.2).types (by omega) (by omega)) rfl λq hq _=>?_;subst hq;refine Ad ?_;refine VIF.split (λh3=>?_) (λh3=>?_)
  ·have h3:(ndAt D x.a).types≠(ndAt D x.b).types:=by rw[e1,e2];simpa using h3
   refine Aa ?_;exact FINwe .nl (iA 0) (iA 0) 10 kept_0 Ae Ae Ae Aj ⟨rfl,rfl,rfl⟩ Aj ⟨⟨⟨_,_,_,10,rfl,rfl,by rw[bothE,if_neg c1,if_pos h3],λh=>by cases h⟩,rfl⟩,rfl⟩
  have h3:¬(ndAt D x.a).types≠(ndAt D x.b).types:=by rw[e1,e2];simpa using h3
  refine Ba ?_;refine VIF.split (λh4=>?_) (λh4=>?_)
  ·have h4:1125899906842624-(ndAt D x.b).w<(ndAt D x.a).w:=by rw[e1,e2];simpa using h4
   refine Aa ?_;exact FINwe .nl (iA 0) (iA 0) 11 kept_0 Ae Ae Ae Aj ⟨rfl,rfl,rfl⟩ Aj ⟨⟨⟨_,_,_,11,rfl,rfl,by rw[bothE,if_neg c1,if_neg h3,if_pos h4],λh=>by cases h⟩,rfl⟩,rfl⟩
  have h4:¬1125899906842624-(ndAt D x.b).w<(ndAt D x.a).w:=by rw[e1,e2];simpa using h4
  have w2:IntKind.i64.wrap ((D[x.a.toNat]'ha.2).w+(D[x.b.toNat]'hb.2).w)=(D[x.a.toNat]'ha.2).w+(D[x.b.toNat]'hb.2).w:=by rw[e1,e2] at h4;rw[wrap_i64]<;>omega
  refine C7 ?_;exact FINwe (intsL (D[x.a.toNat]'ha.2).types) (iA ((D[x.a.toNat]'ha.2).w+(D[x.b.toNat]'hb.2).w)) (iA (max (D[x.a.toNat]'ha.2).v (D[x.b.toNat]'hb.2).v)) 0 kept_0 Ae Ae Ae Aj ⟨rfl,rfl,rfl⟩ Aj ⟨⟨⟨_,_,_,0,rfl,rfl,by rw[bothE,if_neg c1,if_neg h3,if_neg h4],λ_=>by rw[bothN,e1,e2];rfl⟩,rfl⟩,rfl⟩
def walkO (a d d' b:Nat) (F:List (List Int)) (D:List Nd) (O:Nat->Option Ob) (n:Nat):Option Ob:=if n=a then some (boxO F d' D.length) else if n=d' then some (ndO D) else if b<=n then none else if n=d then none else O n
@[go_sem] theorem walkO_a {a d d' b:Nat} {F:List (List Int)} {D:List Nd} {O:Nat->Option Ob}:walkO a d d' b F D O a=some ⟨2,[[formsA F,.rf d' 0 D.length]]⟩:=by simp[walkO,boxO]
@[go_sem] theorem walkO_d {a d d' b:Nat} {F:List (List Int)} {D:List Nd} {O:Nat->Option Ob} (h:(d'=a)=False):walkO a d d' b F D O d'=some ⟨3,D.map Nd.c⟩:=by simp[walkO,h,ndO]
@[go_sem] theorem walkO_ne {a d d' b n:Nat} {F:List (List Int)} {D:List Nd} {O:Nat->Option Ob} (h1:(n=a)=False) (h2:(n=d')=False) (h3:(b<=n)=False) (h4:(n=d)=False):walkO a d d' b F D O n=O n:=by simp[walkO,h1,h2,h3,h4]
theorem CALL.walk2 {f:Nat} {F:List (List Int)} {D:List Nd} {args:List AV} {R:AV->Prop} (h:SpecW f F D args R) (ha:noIds args=true) {st:St} {x:Nat} {K:St->Prop} {a d:Nat} (hne:a≠d)
 (hoa:st.objs a=some ⟨2,[[formsA F,.rf d 0 D.length]]⟩) (hod:st.objs d=some ⟨3,D.map Nd.c⟩) (hua:a∈st.used) (hud:d∈st.used) (b:Nat) (hb:∀n∈st.used,n<b) (d':Nat) (hd':d'=b+3000)
 (k:∀r,R r->K {regs:=upd st.regs x r,objs:=walkO a d d' b F D st.objs,used:=a::d'::st.used}):CALL Tryz.prog f (.pt a 0 0::args) st (some x) K:=by
 subst hd';obtain ⟨g1,g2⟩:=noIds_rn (ρ:=rhoW a d) (p:=(·∈wU)) args ha;have key:=dep_sem (objs:=st.objs) (used:=st.used) (args:=.pt a 0 0::args) h (rhoW a d) (λi hi j hj e=>by
  simp only[wU,List.mem_cons,List.not_mem_nil,or_false] at hi hj;rcases hi with rfl|rfl<;>rcases hj with rfl|rfl
  ·rfl
  ·exact absurd e (by simpa [rhoW] using hne)
  ·exact absurd e (by simpa [rhoW] using hne.symm)
  ·rfl) (λi o ho=>wO_closed ho) (λ_=>⟨_,rfl⟩)
  (λi o ho=>by
   rcases wO_cases ho with ⟨rfl,rfl⟩|⟨rfl,rfl⟩
   ·exact hoa
   ·rw[ndO_rn];exact hod)
  (λi hi=>by
   simp only[wU,List.mem_cons,List.not_mem_nil,or_false] at hi;rcases hi with rfl|rfl
   ·exact hua
   ·exact hud) ⟨by simp only[rns,AV.rn,g1];rfl,by show 0∈wU;simp[wU],g2⟩ b hb (λ_ _=>wU) (λr O' hR=>by
   obtain ⟨⟨_,hn⟩,rfl⟩:=hR;exact ⟨λi o ho=>wO_closed ho,(noId_rn (ρ:=id) _ hn).2⟩)
 refine .sem _ key λu O U hX=>?_;obtain ⟨r,O',⟨⟨hR,hn⟩,rfl⟩,rfl,rfl,rfl⟩:=hX;have e0:rhoW a d 0=a:=rfl;have e00:rhoW a d 3000=d:=rfl;have e1:r.rn (nmD true (rhoW a d 0) b)=r:=(noId_rn (p:=λ_=>True) _ hn).1;have hab:a<b:=hb a hua;have e2:depO true (rhoW a d 0) b (List.map (rhoW a d) wU) (wO F D) st.objs=walkO a d (b+3000) b F D st.objs:=by
  funext n
  simp only[walkO,e0];split
  ·rename_i e;subst e;simp only[depO,true_and,if_true];show Option.map _ (wO F D 0)=_;rfl
  ·rename_i h1;split
   ·rename_i e;subst e;simp only[depO,true_and];rw[if_neg (by omega),if_pos (by omega),if_neg (by omega),show b+3000-b=3000 by omega];show Option.map _ (some (ndO D))=_;rw[Option.map_some,ndO_rn]
   ·rename_i h2;simp only[depO,true_and];rw[if_neg h1];split
    ·rename_i h3;split
     ·rfl
     ·rename_i h4;have:wO F D (n-b)=none:=by
       cases hw:wO F D (n-b) with
       | none=>rfl
       | some o=>rcases wO_cases hw with ⟨g,_⟩|⟨g,_⟩<;>omega
      rw[this];rfl
    ·simp only[wU,List.map_cons,List.map_nil,e0,e00,List.mem_cons,List.not_mem_nil,or_false,h1,false_or]
 have e3:List.map (nmD true (rhoW a d 0) b) wU++st.used=a::(b+3000)::st.used:=by simp[wU,nmD,e0]
 have:=k r hR;simp only[e1,e3,e2];exact this
theorem FINwl {F:List (List Int)} {D:List Nd} {O0:Nat->Option Ob} {K:AV->(Nat->Option Ob)->Prop} {st:St} (c1 c2 c3:AV) (e:Int) (h0:∀i,O0 i≠none->i=0) (hb:st.objs 0=some ⟨2,[[formsA F,.rf 103000 0 D.length]]⟩) (hd:st.objs 103000=some ⟨3,D.map Nd.c⟩)
 (h4:st.regs 4=.pt 4 0 0) (hc:st.objs 4=some ⟨3,[[c1,c2,c3]]⟩) (hl:(c1.leaf&&c2.leaf&&c3.leaf)=true) (h5:st.regs 5=iA e) (k:K (.tu [.ag [c1,c2,c3],iA e]) (wO F D)):FIN T O0 [.cell 4 146,.tmp 5] K st:=by
 have he:Ent st (mkS [(4,.ro [c1,c2,c3] 0),(5,iA e)] [(0,boxO F 3000 D.length),(3000,ndO D)] [0,3000]):=by
  simp only[Bool.and_eq_true] at hl;refine ent_to [(0,some 0),(3000,some 103000)] rfl rfl ⟨λ_=>by simp,?_,?_⟩
  ·simp -implicitDefEqProofs only[go_sem,h4,h5,hc,iA];refine ⟨by simp[olds],_,rfl,λx hx a ha=>?_,rfl⟩;simp only[List.mem_singleton] at hx;subst hx;simp only[List.mem_cons,List.not_mem_nil,or_false] at ha;rcases ha with rfl|rfl|rfl
   ·exact hl.1.1
   ·exact hl.1.2
   ·exact hl.2
  ·simp -implicitDefEqProofs only[go_sem,boxO,hb,hd,ndO];exact ⟨.cons (by simp[wk.wks,wk,nms,formsA]) .nil,nd_es⟩
 refine ⟨mkS [(4,.ro [c1,c2,c3] 0),(5,iA e)] [(0,boxO F 3000 D.length),(3000,ndO D)] [0,3000],λF' n a w hF R=>he F' n a w (λi hi=>h0 i (by rw[<- hF];exact hi)) R,?_⟩;refine Ab ?_;exact k
theorem pickS (t l:List Int) (hl:l.length<1073741824) (h:l.any (outC t.length)=false):Spec0 Tryz.prog 207 [intsL t,intsL l] (·=intsL (pickI t l)):=
 Spec1.intsC (by have:=d207 t l hl h;exact this.mono λr O' ⟨o,⟨⟨q1,q2⟩,q3⟩,q4,q5⟩=>⟨o,⟨⟨by rw[q1];simp[pickI],q2⟩,q3⟩,q4,q5⟩)
theorem d191 (F:List (List Int)) (D:List Nd) (x:PN) (hD:D.length<1073741824) (hT:∀d∈D,d.types.length<1073741824) (hW:∀d∈D,0<=d.w/\d.w<=1125899906842624) (hc:x.cols.length<1073741824) (ho:x.others.length<1073741824):SpecW 191 F D [.ag x.c] (λr=>∃c1 c2 c3 e,r=.tu [.ag [c1,c2,c3],iA e]/\(c1.leaf&&c2.leaf&&c3.leaf)=true/\e=joinE x D/\(e=0->AV.ag [c1,c2,c3]=.ag (joinN x D).c)):=by
 refine funspecD_of_vc tabOk elems og191 Tryz.func191 rfl (rl:=[.cell 4 146,.tmp 5]) rfl (by kernel_rfl) rfl kept_0 ?_;refine B6 ?_;refine .lendR (args':=[.ro [formsA F,.im 3 (D.map Nd.c)] 0,iA x.a]) (d204 F D x.a) ⟨lent_box (d:=3000) Ag Ag,.same rfl,trivial⟩ (by rintro _ rfl;rfl) λq hq=>?_;subst hq;refine Ad ?_;refine VIF.split (λh=>?_) (λh=>?_)
 ·have h:inC x.a D.length=false:=(by simpa using h);refine Aa ?_;refine FINwe .nl (iA 0) (iA 0) 1 kept_0 Ae Ae Ae Aj ⟨rfl,rfl,rfl⟩ Aj ⟨⟨⟨_,_,_,1,rfl,rfl,by rw[joinE,if_pos (.inl h)],λh=>by cases h⟩,rfl⟩,rfl⟩
 have h:inC x.a D.length=true:=by simpa using h
 refine Aa ?_;refine .lendR (args':=[.ro [formsA F,.im 3 (D.map Nd.c)] 0,iA x.b]) (d204 F D x.b) ⟨lent_box (d:=3000) Ag Ag,.same rfl,trivial⟩ (by rintro _ rfl;rfl) λq hq=>?_;subst hq;refine Ad ?_;refine VIF.split (λh2=>?_) (λh2=>?_)
 ·have h2:inC x.b D.length=false:=(by simpa using h2);refine Aa ?_;refine FINwe .nl (iA 0) (iA 0) 1 kept_0 Ae Ae Ae Aj ⟨rfl,rfl,rfl⟩ Aj ⟨⟨⟨_,_,_,1,rfl,rfl,by rw[joinE,if_pos (.inr h2)],λh=>by cases h⟩,rfl⟩,rfl⟩
 have h2:inC x.b D.length=true:=by simpa using h2
 have ha:0<=x.a/\x.a.toNat<D.length:=by simp[inC] at h;omega
 have hb:0<=x.b/\x.b.toNat<D.length:=by simp[inC] at h2;omega
 have e1:ndAt D x.a=D[x.a.toNat]'ha.2:=by simp[ndAt,ha.2]
 have e2:ndAt D x.b=D[x.b.toNat]'hb.2:=by simp[ndAt,hb.2]
 have ta:=hT _ (List.getElem_mem ha.2);have tb:=hT _ (List.getElem_mem hb.2);have wa:=hW _ (List.getElem_mem ha.2);have wb:=hW _ (List.getElem_mem hb.2);have c1:¬(inC x.a D.length=false\/inC x.b D.length=false):=by rw[h,h2];simp
 refine Aw ?_;refine TO [(0,some 0),(4,some 4),(3000,some 3000)] [(0,.pt 0 0 0),(3,.ro x.c 0),(4,.pt 4 0 0)] [(0,⟨2,[[formsA F,.rf 3000 0 D.length]]⟩),(4,⟨3,[[.nl,iA 0,iA 0]]⟩),(3000,⟨3,D.map Nd.c⟩)] [0,4,3000] rfl ?_ ?_
 ·refine Cf ?_;refine ⟨by simp,⟨by simp[olds],_,rfl,by have:=pn_leafy x;simpa only[PN.c,iA,intsL] using this,rfl⟩,.cons (by simp[wk.wks,wk,nms,formsA]) .nil,.cons (by simp[wk.wks,wk]) .nil,nd_es⟩
 refine G6 ?_;repeat' (first|exact ha.1|exact hb.1|(show _<((D.length:Nat):Int);omega)|(refine EL.map ha.2 ?_;simp -implicitDefEqProofs only[go_sem,Nd.c,iA,PN.c])|(refine EL.map hb.2 ?_;simp -implicitDefEqProofs only[go_sem,Nd.c,iA,PN.c])|apply And.intro)
 all_goals
  obtain ⟨n,hn⟩:∃n,n=D[x.a.toNat]'ha.2:=⟨_,rfl⟩;obtain ⟨m,hm⟩:∃m,m=D[x.b.toNat]'hb.2:=⟨_,rfl⟩;simp only[<- hn,<- hm] at e1 e2 ta tb wa wb ⊢;try (simp -implicitDefEqProofs only[go_sem,intsL];repeat (refine GO ?_;simp -implicitDefEqProofs only[go_sem,intsL]))
  refine .pure _ (show Spec0 Tryz.prog 206 [intsL x.cols,iA n.types.length] _ from d206 x.cols n.types.length hc) rfl λq hq _=>?_;subst hq;refine Ad ?_;refine VIF.split (λh3=>?_) (λh3=>?_)
  ·have h3:x.cols.any (outC (ndAt D x.a).types.length)=true:=by rw[e1];simpa using h3
   refine Aa ?_;exact FINwe .nl (iA 0) (iA 0) 1 kept_0 Cm Ae Ae Aj ⟨rfl,rfl,rfl⟩ Aj ⟨⟨⟨_,_,_,1,rfl,rfl,by rw[joinE,if_neg c1,if_pos (.inl h3)],λh=>by cases h⟩,rfl⟩,rfl⟩
  have h3:x.cols.any (outC n.types.length)=false:=(by simpa using h3);refine A5 ?_;refine .pure _ (show Spec0 Tryz.prog 206 [intsL x.others,iA m.types.length] _ from d206 x.others m.types.length ho) rfl λq hq _=>?_;subst hq;refine Ad ?_;refine VIF.split (λh4=>?_) (λh4=>?_)
  ·have h4:x.others.any (outC (ndAt D x.b).types.length)=true:=by rw[e2];simpa using h4
   refine Aa ?_;exact FINwe .nl (iA 0) (iA 0) 1 kept_0 Cm Ae Ae Aj ⟨rfl,rfl,rfl⟩ Aj ⟨⟨⟨_,_,_,1,rfl,rfl,by rw[joinE,if_neg c1,if_pos (.inr h4)],λh=>by cases h⟩,rfl⟩,rfl⟩
  have h4:x.others.any (outC m.types.length)=false:=(by simpa using h4);have c2:¬(x.cols.any (outC (ndAt D x.a).types.length)=true\/x.others.any (outC (ndAt D x.b).types.length)=true):=by rw[e1,e2,h3,h4];simp
  refine A5 ?_;refine VIF.split (λh5=>?_) (λh5=>?_)
  ·have h5:x.cols.length≠x.others.length:=by simp at h5;omega
   refine Aa ?_;exact FINwe .nl (iA 0) (iA 0) 2 kept_0 Cm Ae Ae Aj ⟨rfl,rfl,rfl⟩ Aj ⟨⟨⟨_,_,_,2,rfl,rfl,by rw[joinE,if_neg c1,if_neg c2,if_pos (.inl h5)],λh=>by cases h⟩,rfl⟩,rfl⟩
  have h5:x.cols.length=x.others.length:=by simp at h5;omega
  have w3:IntKind.i64.wrap ((n.types.length:Int)+(m.types.length:Int))=((n.types.length+m.types.length:Nat):Int):=by rw[wrap_i64]<;>omega
  (simp -implicitDefEqProofs only[go_sem,intsL,w3];repeat (refine GO ?_;simp -implicitDefEqProofs only[go_sem,intsL,w3]));refine VIF.split (λh6=>?_) (λh6=>?_)
  ·have h6:12<(ndAt D x.a).types.length+(ndAt D x.b).types.length:=by rw[e1,e2];simp at h6;omega
   refine Aa ?_;exact FINwe .nl (iA 0) (iA 0) 2 kept_0 Cm Ae Ae Aj ⟨rfl,rfl,rfl⟩ Aj ⟨⟨⟨_,_,_,2,rfl,rfl,by rw[joinE,if_neg c1,if_neg c2,if_pos (.inr h6)],λh=>by cases h⟩,rfl⟩,rfl⟩
  have h6:¬12<n.types.length+m.types.length:=by simp at h6;omega
  have c3:¬(x.cols.length≠x.others.length\/12<(ndAt D x.a).types.length+(ndAt D x.b).types.length):=by rw[e1,e2];omega
  refine A5 ?_;refine .pure _ (show Spec0 Tryz.prog 207 [intsL n.types,intsL x.cols] _ from pickS n.types x.cols hc h3) rfl λq hq _=>?_;subst hq;refine A5 ?_;refine .pure _ (show Spec0 Tryz.prog 207 [intsL m.types,intsL x.others] _ from pickS m.types x.others ho h4) rfl λq hq _=>?_;subst hq;refine A5 ?_;refine .pure _ (show Spec0 Tryz.prog 208 [intsL (pickI n.types x.cols),intsL (pickI m.types x.others)] _ from d208 (pickI n.types x.cols) (pickI m.types x.others) (by simp[pickI];omega) (by simp[pickI];omega)) rfl λq hq _=>?_;subst hq;refine Ad ?_;refine VIF.split (λh7=>?_) (λh7=>?_)
  ·have h7:pickI (ndAt D x.a).types x.cols≠pickI (ndAt D x.b).types x.others:=by rw[e1,e2];simpa using h7
   refine Aa ?_;exact FINwe .nl (iA 0) (iA 0) 10 kept_0 Cm Ae Ae Aj ⟨rfl,rfl,rfl⟩ Aj ⟨⟨⟨_,_,_,10,rfl,rfl,by rw[joinE,if_neg c1,if_neg c2,if_neg c3,if_pos h7],λh=>by cases h⟩,rfl⟩,rfl⟩
  have h7:¬pickI (ndAt D x.a).types x.cols≠pickI (ndAt D x.b).types x.others:=by rw[e1,e2];simpa using h7
  refine Ab ?_;refine .pure _ (show Spec0 Tryz.prog 209 [iA n.w,iA m.w,iA 1125899906842624] _ from d209 n.w m.w 1125899906842624 (by omega) (by omega) (by omega)) rfl λq hq _=>?_;subst hq;refine A6 ?_;refine VIF.split (λh8=>?_) (λh8=>?_)
  ·have h8:¬(ndAt D x.a).w*(ndAt D x.b).w<=1125899906842624:=by rw[e1,e2];simpa using h8
   refine Aa ?_;exact FINwe .nl (iA 0) (iA 0) 11 kept_0 Cm Ae Ae Aj ⟨rfl,rfl,rfl⟩ Aj ⟨⟨⟨_,_,_,11,rfl,rfl,by rw[joinE,if_neg c1,if_neg c2,if_neg c3,if_neg h7,if_pos h8],λh=>by cases h⟩,rfl⟩,rfl⟩
  have h8:n.w*m.w<=1125899906842624:=(by simpa using h8);have h8':¬¬(ndAt D x.a).w*(ndAt D x.b).w<=1125899906842624:=by rw[e1,e2];simpa using h8
  rw[if_pos h8];refine Au ?_;refine .giveTo (args':=[formsA [n.types,m.types]]) 105 ⟨1,[[intsL n.types],[intsL m.types]]⟩ (d210z [n.types,m.types] (by simp) (by simp[catI];omega)) rfl (by rw[fzs_cons,fzs_nil,fz_rf,if_pos rfl];rfl) (by refine Aw ?_;rfl) (by simp[Ob.leafy,AV.leaf,intsL]) λq hq _=>?_;have hq:q=intsL (n.types++m.types):=by rw[hq];simp[catI]
  subst hq;refine Ab ?_;exact FINwe (intsL (n.types++m.types)) (iA (n.w*m.w)) (iA (max n.v m.v)) 0 kept_0 Ae Ae Ae Aj ⟨rfl,rfl,rfl⟩ Aj ⟨⟨⟨_,_,_,0,rfl,rfl,by rw[joinE,if_neg c1,if_neg c2,if_neg c3,if_neg h7,if_neg h8'],λ_=>by rw[joinN,e1,e2];rfl⟩,rfl⟩,rfl⟩
theorem im_io {l:List Int} {k:Nat} (h:l.length<=k):AV.im (io l).sz (List.take k (io l).es)=intsL l:=by rw[List.take_of_length_le (by simpa [io] using h)];rfl
theorem d194 (F:List (List Int)) (D:List Nd) (x:PN) (hD:D.length<1073741824) (hb:∀d∈D,Ndb d) (hc:x.cols.length<1073741824) :
 SpecW 194 F D [.ag x.c] (λr=>∃c1 c2 c3 e,r=.tu [.ag [c1,c2,c3],iA e]/\(c1.leaf&&c2.leaf&&c3.leaf)=true/\e=grpE x D/\(e=0->AV.ag [c1,c2,c3]=.ag (grpN x D).c)):=by
 refine funspecD_of_vc tabOk elems og194 Tryz.func194 rfl (rl:=[.cell 4 146,.tmp 5]) rfl (by kernel_rfl) rfl kept_0 ?_;refine B6 ?_;refine .lendR (args':=[.ro [formsA F,.im 3 (D.map Nd.c)] 0,iA x.a]) (d204 F D x.a) ⟨lent_box (d:=3000) Ag Ag,.same rfl,trivial⟩ (by rintro _ rfl;rfl) λq hq=>?_;subst hq;refine Ad ?_;refine VIF.split (λh=>?_) (λh=>?_)
 ·have h:inC x.a D.length=false:=(by simpa using h);refine Aa ?_;exact FINwe .nl (iA 0) (iA 0) 1 kept_0 Cm Ae Ae Aj ⟨rfl,rfl,rfl⟩ Aj ⟨⟨⟨_,_,_,1,rfl,rfl,by rw[grpE,if_pos (.inl h)],λh=>by cases h⟩,rfl⟩,rfl⟩
 have h:inC x.a D.length=true:=by simpa using h
 refine Aa ?_;refine VIF.split (λh1=>?_) (λh1=>?_)
 ·have h1:x.agg<1:=(by simpa using h1);refine Aa ?_;exact FINwe .nl (iA 0) (iA 0) 1 kept_0 Cm Ae Ae Aj ⟨rfl,rfl,rfl⟩ Aj ⟨⟨⟨_,_,_,1,rfl,rfl,by rw[grpE,if_pos (.inr (.inl h1))],λh=>by cases h⟩,rfl⟩,rfl⟩
 have h1:¬x.agg<1:=by simpa using h1
 refine Aa ?_;refine VIF.split (λh2=>?_) (λh2=>?_)
 ·have h2:4<x.agg:=(by simpa using h2);refine Aa ?_;exact FINwe .nl (iA 0) (iA 0) 1 kept_0 Cm Ae Ae Aj ⟨rfl,rfl,rfl⟩ Aj ⟨⟨⟨_,_,_,1,rfl,rfl,by rw[grpE,if_pos (.inr (.inr h2))],λh=>by cases h⟩,rfl⟩,rfl⟩
 have h2:¬4<x.agg:=by simpa using h2
 have c1:¬(inC x.a D.length=false\/x.agg<1\/4<x.agg):=by rw[h];simp;omega
 have ha:0<=x.a/\x.a.toNat<D.length:=by simp[inC] at h;omega
 have e1:ndAt D x.a=D[x.a.toNat]'ha.2:=by simp[ndAt,ha.2]
 have nb:=hb _ (List.getElem_mem ha.2);refine Aw ?_;refine TO [(0,some 0),(4,some 4),(3000,some 3000)] [(0,.pt 0 0 0),(3,.ro x.c 0),(4,.pt 4 0 0)] [(0,⟨2,[[formsA F,.rf 3000 0 D.length]]⟩),(4,⟨3,[[.nl,iA 0,iA 0]]⟩),(3000,⟨3,D.map Nd.c⟩)] [0,4,3000] rfl ?_ ?_
 ·refine Cf ?_;refine ⟨by simp,⟨by simp[olds],_,rfl,by have:=pn_leafy x;simpa only[PN.c,iA,intsL] using this,rfl⟩,.cons (by simp[wk.wks,wk,nms,formsA]) .nil,.cons (by simp[wk.wks,wk]) .nil,nd_es⟩
 refine G6 ?_;repeat' (first|exact ha.1|(show _<((D.length:Nat):Int);omega)|(refine EL.map ha.2 ?_;simp -implicitDefEqProofs only[go_sem,Nd.c,iA,PN.c])|apply And.intro)
 obtain ⟨n,hn⟩:∃n,n=D[x.a.toNat]'ha.2:=⟨_,rfl⟩;simp only[<- hn] at e1 nb ⊢;try (simp -implicitDefEqProofs only[go_sem,intsL];repeat (refine GO ?_;simp -implicitDefEqProofs only[go_sem,intsL]))
 refine .pure _ (show Spec0 Tryz.prog 206 [intsL x.cols,iA n.types.length] _ from d206 x.cols n.types.length hc) rfl λq hq _=>?_;subst hq;refine Ad ?_;refine VIF.split (λh3=>?_) (λh3=>?_)
 ·have h3:x.cols.any (outC (ndAt D x.a).types.length)=true:=by rw[e1];simpa using h3
  refine Aa ?_;exact FINwe .nl (iA 0) (iA 0) 1 kept_0 Cm Ae Ae Aj ⟨rfl,rfl,rfl⟩ Aj ⟨⟨⟨_,_,_,1,rfl,rfl,by rw[grpE,if_neg c1,if_pos (.inl h3)],λh=>by cases h⟩,rfl⟩,rfl⟩
 have h3:x.cols.any (outC n.types.length)=false:=by simpa using h3
 have c3:∀e,¬(x.agg=2/\e≠(3:Int))->x.agg≠2\/e=3:=λe h=>by
  by_cases k:x.agg=2
  ·exact .inr (Decidable.byContradiction λg=>h ⟨k,g⟩)
  ·exact .inl k
 refine Au ?_;refine VIF.split (λh4=>?_) (λh4=>?_)
 ·have h4:x.agg≠1:=(by simpa using h4);refine Au ?_;refine .lendR (args':=[intsL [x.col],iA n.types.length]) (d206 [x.col] n.types.length (by simp)) ⟨lent_leafy (o:=io [x.col]) (by refine Aa ?_;rfl) rfl (by simp[io]) (io_leafy _) (λz hz=>by obtain ⟨v,_,rfl⟩:=List.mem_map.1 hz;rfl),.same rfl,trivial⟩ (by rintro _ rfl;rfl) λq hq=>?_;subst hq;refine Ad ?_;refine VIF.split (λh5=>?_) (λh5=>?_)
  ·have h5:inC x.col (ndAt D x.a).types.length=false:=by
    rw[e1];simp[outC] at h5;simp[inC];omega
   refine Aa ?_;exact FINwe .nl (iA 0) (iA 0) 1 kept_0 Cm Ae Ae Aj ⟨rfl,rfl,rfl⟩ Aj ⟨⟨⟨_,_,_,1,rfl,rfl,by rw[grpE,if_neg c1,if_pos (.inr ⟨h4,h5⟩)],λh=>by cases h⟩,rfl⟩,rfl⟩
  have h5:inC x.col n.types.length=true:=by simp[outC] at h5;simp[inC];omega
  have c2:¬(x.cols.any (outC (ndAt D x.a).types.length)=true\/(x.agg≠1/\inC x.col (ndAt D x.a).types.length=false)):=by rw[e1,h3,h5];simp
  have hcl:0<=x.col/\x.col.toNat<n.types.length:=by simp[inC] at h5;omega
  have hg:getI n.types x.col=n.types[x.col.toNat]'hcl.2:=(by simp[getI,hcl.2]);refine Au ?_;refine VIF.split (λh6=>?_) (λh6=>?_)
  ·have h6:12<=x.cols.length:=by simp at h6;omega
   refine Aa ?_;exact FINwe .nl (iA 0) (iA 0) 2 kept_0 Cm Ae Ae Aj ⟨rfl,rfl,rfl⟩ Aj ⟨⟨⟨_,_,_,2,rfl,rfl,by rw[grpE,if_neg c1,if_neg c2,if_pos h6],λh=>by cases h⟩,rfl⟩,rfl⟩
  have h6:¬12<=x.cols.length:=by simp at h6;omega
  refine Au ?_;refine VIF.split (λh7=>?_) (λh7=>?_)
  ·have h7:x.agg=2:=(by simpa using h7);refine Au ?_;refine ⟨hcl.1,EL.map hcl.2 ?_⟩;refine Ab ?_;refine VIF.split (λh8=>?_) (λh8=>?_)
   ·have h8:getI (ndAt D x.a).types x.col≠3:=by rw[e1,hg];simpa using h8
    refine Aa ?_;exact FINwe .nl (iA 0) (iA 0) 10 kept_0 Cm Ae Ae Aj ⟨rfl,rfl,rfl⟩ Aj ⟨⟨⟨_,_,_,10,rfl,rfl,by rw[grpE,if_neg c1,if_neg c2,if_neg h6,if_pos ⟨h7,h8⟩],λh=>by cases h⟩,rfl⟩,rfl⟩
   have h8:getI n.types x.col=3:=by rw[hg];simpa using h8
   have c4:¬(x.agg=2/\getI (ndAt D x.a).types x.col≠3):=by rw[e1,h8];simp
   refine Au ?_;refine VIF.split (λh=>absurd (show x.agg=1 by simpa using h) h4) (λ_=>?_);refine Au ?_;refine VIF.split (λ_=>?_) (λh=>absurd h7 (by simpa using h));refine Au ?_;have nv:=nb.v1;refine .pure _ (show Spec0 Tryz.prog 209 [iA n.v,iA n.w,iA 1152921504606846976] _ from d209 n.v n.w 1152921504606846976 ⟨nb.v0,by omega⟩ ⟨nb.w0,by have:=nb.w1;omega⟩ (by omega)) rfl λq hq _=>?_;subst hq;refine A6 ?_;have hv:aggV x.agg n=n.v*n.w:=(by simp[aggV,h7]);have ht:aggT x.agg x.col n=3:=(by simp[aggT,h7]);refine VIF.split (λh9=>?_) (λh9=>?_)
   ·have h9:¬n.v*n.w<=1152921504606846976:=(by simpa using h9);refine Aa ?_;exact FINwe .nl (iA 0) (iA 0) 11 kept_0 Cm Ae Ae Aj ⟨rfl,rfl,rfl⟩ Aj ⟨⟨⟨_,_,_,11,rfl,rfl,by rw[grpE,if_neg c1,if_neg c2,if_neg h6,if_neg c4,if_pos (by rw[e1,hv];omega)],λh=>by cases h⟩,rfl⟩,rfl⟩
   have h9:n.v*n.w<=1152921504606846976:=(by simpa using h9);rw[if_pos h9];refine Aa ?_;refine VIF.split (λh=>absurd h (by simp;omega)) (λ_=>?_);refine Au ?_;apply And.intro
   all_goals
    refine .make 116 _ (show Spec1 Tryz.prog 207 [intsL n.types,intsL x.cols] _ from d207 n.types x.cols hc h3) rfl (by simp) rfl λq o hq _=>?_;obtain ⟨rfl,rfl⟩:=hq;refine B0 ?_;refine ⟨by omega,?_⟩;refine FINfrz 119 (io (pickI n.types x.cols++[3])) (by refine Aa ?_;rw[io,List.map_append,List.take_of_length_le (by simp[pickI])];rfl) (io_leafy _) kept_0 ?_;refine Aw ?_;rw[im_io (by simp[pickI])];exact FINwe (intsL (pickI n.types x.cols++[3])) (iA n.w) (iA (max n.v (n.v*n.w))) 0 kept_0 (by simp -implicitDefEqProofs only[go_sem,formsA]) Ae Ae Aj ⟨rfl,rfl,rfl⟩ Aj ⟨⟨⟨_,_,_,0,rfl,rfl,by rw[grpE,if_neg c1,if_neg c2,if_neg h6,if_neg c4,if_neg (by rw[e1,hv];omega)],λ_=>by rw[grpN,e1,ht,hv];simp only[Nd.c]⟩,rfl⟩,rfl⟩
  have h7:x.agg≠2:=(by simpa using h7);have c4:¬(x.agg=2/\getI (ndAt D x.a).types x.col≠3):=λh=>h7 h.1;have hv:aggV x.agg n=n.v:=(by simp[aggV,h7,h4]);have ht:aggT x.agg x.col n=getI n.types x.col:=(by simp[aggT,h7,h4]);refine Au ?_;refine VIF.split (λh=>absurd (show x.agg=1 by simpa using h) h4) (λ_=>?_);refine Au ?_;refine VIF.split (λh=>absurd (show x.agg=2 by simpa using h) h7) (λ_=>?_);refine Au ?_;refine ⟨hcl.1,EL.map hcl.2 ?_⟩;have nv:=nb.v1;refine Ab ?_;refine VIF.split (λh=>absurd h (by simp;omega)) (λ_=>?_);refine Au ?_;apply And.intro
  all_goals
   refine .make 116 _ (show Spec1 Tryz.prog 207 [intsL n.types,intsL x.cols] _ from d207 n.types x.cols hc h3) rfl (by simp) rfl λq o hq _=>?_;obtain ⟨rfl,rfl⟩:=hq;refine B0 ?_;refine ⟨by omega,?_⟩;refine FINfrz 119 (io (pickI n.types x.cols++[(n.types[x.col.toNat]'hcl.2)])) (by refine Aa ?_;rw[io,List.map_append,List.take_of_length_le (by simp[pickI])];rfl) (io_leafy _) kept_0 ?_;refine Aw ?_;rw[im_io (by simp[pickI])];exact FINwe (intsL (pickI n.types x.cols++[(n.types[x.col.toNat]'hcl.2)])) (iA n.w) (iA (max n.v n.v)) 0 kept_0 (by simp -implicitDefEqProofs only[go_sem,formsA]) Ae Ae Aj ⟨rfl,rfl,rfl⟩ Aj ⟨⟨⟨_,_,_,0,rfl,rfl,by rw[grpE,if_neg c1,if_neg c2,if_neg h6,if_neg c4,if_neg (by rw[e1,hv];omega)],λ_=>by rw[grpN,e1,ht,hv];simp only[Nd.c,hg]⟩,rfl⟩,rfl⟩
 have h4:x.agg=1:=by simpa using h4
 have c2:¬(x.cols.any (outC (ndAt D x.a).types.length)=true\/(x.agg≠1/\inC x.col (ndAt D x.a).types.length=false)):=by rw[e1,h3];simp[h4]
 refine Au ?_;refine VIF.split (λh6=>?_) (λh6=>?_)
 ·have h6:12<=x.cols.length:=by simp at h6;omega
  refine Aa ?_;exact FINwe .nl (iA 0) (iA 0) 2 kept_0 Cm Ae Ae Aj ⟨rfl,rfl,rfl⟩ Aj ⟨⟨⟨_,_,_,2,rfl,rfl,by rw[grpE,if_neg c1,if_neg c2,if_pos h6],λh=>by cases h⟩,rfl⟩,rfl⟩
 have h6:¬12<=x.cols.length:=by simp at h6;omega
 have c4:¬(x.agg=2/\getI (ndAt D x.a).types x.col≠3):=λh=>by have:=h.1;omega
 have hv:aggV x.agg n=n.w:=by simp[aggV,h4]
 have ht:aggT x.agg x.col n=3:=by simp[aggT,h4]
 refine Au ?_;refine VIF.split (λh=>absurd (show x.agg=2 by simpa using h) (by omega)) (λ_=>?_);refine Au ?_;refine VIF.split (λ_=>?_) (λh=>absurd h4 (by simpa using h));have nv:=nb.v1;have nw:=nb.w1;refine Au ?_;refine VIF.split (λh=>absurd h (by simp;omega)) (λ_=>?_);refine Au ?_;apply And.intro
 all_goals
  refine .make 116 _ (show Spec1 Tryz.prog 207 [intsL n.types,intsL x.cols] _ from d207 n.types x.cols hc h3) rfl (by simp) rfl λq o hq _=>?_;obtain ⟨rfl,rfl⟩:=hq;refine B0 ?_;refine ⟨by omega,?_⟩;refine FINfrz 119 (io (pickI n.types x.cols++[3])) (by refine Aa ?_;rw[io,List.map_append,List.take_of_length_le (by simp[pickI])];rfl) (io_leafy _) kept_0 ?_;refine Aw ?_;rw[im_io (by simp[pickI])];exact FINwe (intsL (pickI n.types x.cols++[3])) (iA n.w) (iA (max n.v (max n.v n.w))) 0 kept_0 (by simp -implicitDefEqProofs only[go_sem,formsA]) Ae Ae Aj ⟨rfl,rfl,rfl⟩ Aj ⟨⟨⟨_,_,_,0,rfl,rfl,by rw[grpE,if_neg c1,if_neg c2,if_neg h6,if_neg c4,if_neg (by rw[e1,hv];omega)],λ_=>by rw[grpN,e1,ht,hv];simp only[Nd.c,show max n.v (max n.v n.w)=max n.v n.w by omega]⟩,rfl⟩,rfl⟩
theorem noId_end {c1 c2 c3:AV} {e:Int} (h:(c1.leaf&&c2.leaf&&c3.leaf)=true):(AV.tu [.ag [c1,c2,c3],iA e]).noId=true:=by simp only[Bool.and_eq_true] at h;simp only[AV.noId,noIds,iA,leaf_noId h.1.1,leaf_noId h.1.2,leaf_noId h.2,Bool.and_true,Bool.and_self]
theorem d157 (F:List (List Int)) (D:List Nd) (x:PN) (hD:D.length<1073741824) (hF:F.length<1073741824) (hFl:∀l∈F,l.length<1073741824) (hb:∀d∈D,Ndb d) (hc:x.cols.length<1073741824) (ho:x.others.length<1073741824) :
 SpecW 157 F D [.ag x.c] (λr=>∃c1 c2 c3 e,r=.tu [.ag [c1,c2,c3],iA e]/\(c1.leaf&&c2.leaf&&c3.leaf)=true/\e=lookE F D x/\(e=0->AV.ag [c1,c2,c3]=.ag (lookN F D x).c)):=by
 have hT:∀d∈D,d.types.length<1073741824:=λd hd=>by have:=(hb d hd).tl;omega
 have hW:∀d∈D,0<=d.w/\d.w<=1125899906842624:=λd hd=>⟨(hb d hd).w0,(hb d hd).w1⟩;refine funspecD_of_vc tabOk elems og157 Tryz.func157 rfl (rl:=[.cell 4 146,.tmp 5]) rfl (by kernel_rfl) rfl kept_0 ?_;refine B6 ?_;refine VIF.split (λk1=>?_) (λk1=>?_)
 ·have k1:x.kind=1:=(by simpa using k1);refine Bg ?_;refine CALL.walk2 (d188 F D x hF hFl) rfl (d:=3000) (by decide) Ag Ag (by simp) (by simp) 100000 (by simp) _ rfl λr hr=>?_;obtain ⟨c1,c2,c3,e,rfl,hl,he,hv⟩:=hr;refine Ab ?_;exact FINwl c1 c2 c3 e kept_0 Ae Ae Ae Ae hl Aj ⟨⟨⟨c1,c2,c3,e,rfl,hl,by rw[he];simp only[lookE,k1,if_true,if_false,true_or,or_true,false_or,or_self];try rfl,λh=>by rw[hv h];simp only[lookN,k1,if_true,if_false,true_or,or_true,false_or,or_self];try rfl⟩,noId_end hl⟩,rfl⟩
 have k1:x.kind≠1:=by simpa using k1
 refine Bg ?_;refine VIF.split (λk2=>?_) (λk2=>?_)
 ·have k2:x.kind=2:=(by simpa using k2);refine Bg ?_;refine CALL.walk2 (d189 F D x hD hT) rfl (d:=3000) (by decide) Ag Ag (by simp) (by simp) 100000 (by simp) _ rfl λr hr=>?_;obtain ⟨c1,c2,c3,e,rfl,hl,he,hv⟩:=hr;refine Ab ?_;exact FINwl c1 c2 c3 e kept_0 Ae Ae Ae Ae hl Aj ⟨⟨⟨c1,c2,c3,e,rfl,hl,by rw[he];simp only[lookE,show ¬((2:Int)=1) by decide,k2,if_true,if_false,true_or,or_true,false_or,or_self,show ¬((2:Int)=1) by decide];try rfl,λh=>by rw[hv h];simp only[lookN,show ¬((2:Int)=1) by decide,k2,if_true,if_false,true_or,or_true,false_or,or_self,show ¬((2:Int)=1) by decide];try rfl⟩,noId_end hl⟩,rfl⟩
 have k2:x.kind≠2:=by simpa using k2
 refine Bg ?_;refine VIF.split (λk3=>?_) (λk3=>?_)
 ·have k3:x.kind=3:=(by simpa using k3);refine Bg ?_;refine CALL.walk2 (d190 F D x hD hc) rfl (d:=3000) (by decide) Ag Ag (by simp) (by simp) 100000 (by simp) _ rfl λr hr=>?_;obtain ⟨c1,c2,c3,e,rfl,hl,he,hv⟩:=hr;refine Ab ?_;exact FINwl c1 c2 c3 e kept_0 Ae Ae Ae Ae hl Aj ⟨⟨⟨c1,c2,c3,e,rfl,hl,by rw[he];simp only[lookE,show ¬((3:Int)=1) by decide,k3,if_true,if_false,true_or,or_true,false_or,or_self,show ¬((3:Int)=1) by decide,show ¬((3:Int)=2) by decide];try rfl,λh=>by rw[hv h];simp only[lookN,show ¬((3:Int)=1) by decide,k3,if_true,if_false,true_or,or_true,false_or,or_self,show ¬((3:Int)=1) by decide,show ¬((3:Int)=2) by decide];try rfl⟩,noId_end hl⟩,rfl⟩
 have k3:x.kind≠3:=by simpa using k3
 refine Bg ?_;refine VIF.split (λk4=>?_) (λk4=>?_)
 ·have k4:x.kind=4:=(by simpa using k4);refine Bg ?_;refine CALL.walk2 (d191 F D x hD hT hW hc ho) rfl (d:=3000) (by decide) Ag Ag (by simp) (by simp) 100000 (by simp) _ rfl λr hr=>?_;obtain ⟨c1,c2,c3,e,rfl,hl,he,hv⟩:=hr;refine Ab ?_;exact FINwl c1 c2 c3 e kept_0 Ae Ae Ae Ae hl Aj ⟨⟨⟨c1,c2,c3,e,rfl,hl,by rw[he];simp only[lookE,show ¬((4:Int)=1) by decide,k4,if_true,if_false,true_or,or_true,false_or,or_self,show ¬((4:Int)=1) by decide,show ¬((4:Int)=2) by decide,show ¬((4:Int)=3) by decide];try rfl,λh=>by rw[hv h];simp only[lookN,show ¬((4:Int)=1) by decide,k4,if_true,if_false,true_or,or_true,false_or,or_self,show ¬((4:Int)=1) by decide,show ¬((4:Int)=2) by decide,show ¬((4:Int)=3) by decide];try rfl⟩,noId_end hl⟩,rfl⟩
 have k4:x.kind≠4:=by simpa using k4
 refine Bg ?_;refine VIF.split (λk5=>?_) (λk5=>?_)
 ·have k5:x.kind=5:=(by simpa using k5);refine Bg ?_;refine VIF.split (λ_=>?_) (λh=>absurd k5 (by simpa using h));refine Bg ?_;refine CALL.walk2 (d192 F D x hD hT hW) rfl (d:=3000) (by decide) Ag Ag (by simp) (by simp) 100000 (by simp) _ rfl λr hr=>?_;obtain ⟨c1,c2,c3,e,rfl,hl,he,hv⟩:=hr;refine Ab ?_;exact FINwl c1 c2 c3 e kept_0 Ae Ae Ae Ae hl Aj ⟨⟨⟨c1,c2,c3,e,rfl,hl,by rw[he];simp only[lookE,show ¬((5:Int)=1) by decide,k5,if_true,if_false,true_or,or_true,false_or,or_self,show ¬((5:Int)=1) by decide,show ¬((5:Int)=2) by decide,show ¬((5:Int)=3) by decide,show ¬((5:Int)=4) by decide];try rfl,λh=>by rw[hv h];simp only[lookN,show ¬((5:Int)=1) by decide,k5,if_true,if_false,true_or,or_true,false_or,or_self,show ¬((5:Int)=1) by decide,show ¬((5:Int)=2) by decide,show ¬((5:Int)=3) by decide,show ¬((5:Int)=4) by decide];try rfl⟩,noId_end hl⟩,rfl⟩
 have k5:x.kind≠5:=by simpa using k5
 refine Bg ?_;refine VIF.split (λk6=>?_) (λk6=>?_)
 ·have k6:x.kind=6:=(by simpa using k6);refine Bg ?_;refine CALL.walk2 (d192 F D x hD hT hW) rfl (d:=3000) (by decide) Ag Ag (by simp) (by simp) 100000 (by simp) _ rfl λr hr=>?_;obtain ⟨c1,c2,c3,e,rfl,hl,he,hv⟩:=hr;refine Ab ?_;exact FINwl c1 c2 c3 e kept_0 Ae Ae Ae Ae hl Aj ⟨⟨⟨c1,c2,c3,e,rfl,hl,by rw[he];simp only[lookE,show ¬((6:Int)=1) by decide,k6,if_true,if_false,true_or,or_true,false_or,or_self,show ¬((6:Int)=1) by decide,show ¬((6:Int)=2) by decide,show ¬((6:Int)=3) by decide,show ¬((6:Int)=4) by decide,show ¬((6:Int)=5) by decide];try rfl,λh=>by rw[hv h];simp only[lookN,show ¬((6:Int)=1) by decide,k6,if_true,if_false,true_or,or_true,false_or,or_self,show ¬((6:Int)=1) by decide,show ¬((6:Int)=2) by decide,show ¬((6:Int)=3) by decide,show ¬((6:Int)=4) by decide,show ¬((6:Int)=5) by decide];try rfl⟩,noId_end hl⟩,rfl⟩
 have k6:x.kind≠6:=by simpa using k6
 refine Bg ?_;refine VIF.split (λk7=>?_) (λk7=>?_)
 ·have k7:x.kind=7:=(by simpa using k7);refine Bg ?_;refine CALL.walk2 (d193 F D x hD) rfl (d:=3000) (by decide) Ag Ag (by simp) (by simp) 100000 (by simp) _ rfl λr hr=>?_;obtain ⟨c1,c2,c3,e,rfl,hl,he,hv⟩:=hr;refine Ab ?_;exact FINwl c1 c2 c3 e kept_0 Ae Ae Ae Ae hl Aj ⟨⟨⟨c1,c2,c3,e,rfl,hl,by rw[he];simp only[lookE,show ¬((7:Int)=1) by decide,k7,if_true,if_false,true_or,or_true,false_or,or_self,show ¬((7:Int)=1) by decide,show ¬((7:Int)=2) by decide,show ¬((7:Int)=3) by decide,show ¬((7:Int)=4) by decide,show ¬((7:Int)=5) by decide,show ¬((7:Int)=6) by decide];try rfl,λh=>by rw[hv h];simp only[lookN,show ¬((7:Int)=1) by decide,k7,if_true,if_false,true_or,or_true,false_or,or_self,show ¬((7:Int)=1) by decide,show ¬((7:Int)=2) by decide,show ¬((7:Int)=3) by decide,show ¬((7:Int)=4) by decide,show ¬((7:Int)=5) by decide,show ¬((7:Int)=6) by decide];try rfl⟩,noId_end hl⟩,rfl⟩
 have k7:x.kind≠7:=by simpa using k7
 refine Bg ?_;refine VIF.split (λk8=>?_) (λk8=>?_)
 ·have k8:x.kind=8:=(by simpa using k8);refine Bg ?_;refine CALL.walk2 (d194 F D x hD hb hc) rfl (d:=3000) (by decide) Ag Ag (by simp) (by simp) 100000 (by simp) _ rfl λr hr=>?_;obtain ⟨c1,c2,c3,e,rfl,hl,he,hv⟩:=hr;refine Ab ?_;exact FINwl c1 c2 c3 e kept_0 Ae Ae Ae Ae hl Aj ⟨⟨⟨c1,c2,c3,e,rfl,hl,by rw[he];simp only[lookE,show ¬((8:Int)=1) by decide,k8,if_true,if_false,true_or,or_true,false_or,or_self,show ¬((8:Int)=1) by decide,show ¬((8:Int)=2) by decide,show ¬((8:Int)=3) by decide,show ¬((8:Int)=4) by decide,show ¬((8:Int)=5) by decide,show ¬((8:Int)=6) by decide,show ¬((8:Int)=7) by decide];try rfl,λh=>by rw[hv h];simp only[lookN,show ¬((8:Int)=1) by decide,k8,if_true,if_false,true_or,or_true,false_or,or_self,show ¬((8:Int)=1) by decide,show ¬((8:Int)=2) by decide,show ¬((8:Int)=3) by decide,show ¬((8:Int)=4) by decide,show ¬((8:Int)=5) by decide,show ¬((8:Int)=6) by decide,show ¬((8:Int)=7) by decide];try rfl⟩,noId_end hl⟩,rfl⟩
 have k8:x.kind≠8:=by simpa using k8
 refine Bg ?_;exact FINwe .nl (iA 0) (iA 0) 1 kept_0 Ae Ae Ae Aj ⟨rfl,rfl,rfl⟩ Aj ⟨⟨⟨_,_,_,1,rfl,rfl,by simp only[lookE,k1,k2,k3,k4,k5,k6,k7,k8,if_false,or_self],λh=>by cases h⟩,rfl⟩,rfl⟩
theorem fitR_of:∀{r:List V} {ts:List Int},r.length=ts.length->(∀j (h1:j<r.length) (h2:j<ts.length),fitsV r[j] ts[j]=true)->fitR r ts=true
 | [],[],_,_=>rfl
 | v::r,t::ts,hl,h=>by
   simp only[fitR,Bool.and_eq_true];exact ⟨h 0 (by simp) (by simp),fitR_of (by simpa using hl) λj h1 h2=>h (j+1) (by simpa using h1) (by simpa using h2)⟩
theorem d112 (r:List V) (ts:List Int) (hr:r.length<4611686018427387904):Spec0 Tryz.prog 112 [rowA r,intsL ts,.fn 113 []] (·=bA (fitR r ts)):=by
 refine spec0_of_vc tabOk elems ord112 Tryz.func112 rfl (rl:=[.tmp 6]) rfl (by kernel_rfl) rfl ?_;refine Ck ?_;refine VIF.split (λh=>?_) (λh=>?_)
 ·have h:r.length≠ts.length:=by simp at h;omega
  refine Aa ?_;have:fitR r ts=false:=by
   cases e:fitR r ts with
   | false=>rfl
   | true=>exact absurd (fitR_len e) h
  rw[this];rfl
 have h:r.length=ts.length:=by simp at h;omega
 refine Aa ?_;refine LOOP.mk (ι:={i:Nat//i<=r.length/\∀j (h1:j<r.length) (h2:j<ts.length),j<i->fitsV r[j] ts[j]=true}) (λp=>mkS [(1,intsL ts),(2,.fn 113 []),(15,rowA r),(16,iA r.length),(17,iA p.1)] [] []) (λp=>r.length-p.1) ⟨0,Nat.zero_le _,λj _ _ h=>absurd h (Nat.not_lt_zero _)⟩ [] rfl rfl ?_ (λp=>?_)
 ·refine Bn ?_;exact ⟨id,rfl⟩
 obtain ⟨i,hi,hg⟩:=p;refine Bn ?_;refine VIF.split (λh1=>?_) (λh1=>?_)
 ·have h1:i<r.length:=(by simpa using h1);have h2:i<ts.length:=(by omega);have w1:=wrap_add1 (show i<4611686018427387904 by omega);refine Aa ?_;refine EL.map h1 ?_;refine Bi ?_;refine EL.map h2 ?_;refine Bi ?_;refine .pure _ (show Spec0 Tryz.prog 113 [.ag r[i].c,iA ts[i]] _ from d113 r[i] ts[i]) rfl λq hq _=>?_;subst hq;refine Ad ?_;refine VIF.split (λh3=>?_) (λh3=>?_)
  ·have h3:fitsV r[i] ts[i]=false:=(by simpa using h3);refine Aa ?_;have:fitR r ts=false:=by
    cases e:fitR r ts with
    | false=>rfl
    | true=>rw[fitR_at e i h1 h2] at h3;cases h3
   rw[this];rfl
  ·have h3:fitsV r[i] ts[i]=true:=(by simpa using h3);refine Ak ?_;refine BACK.mk ⟨i+1,by omega,λj q1 q2 hji=>if e:j=i then (by subst e;exact h3) else hg j q1 q2 (by omega)⟩ [] rfl rfl (by show r.length-(i+1)<r.length-i;omega) ?_;refine Ea ?_;exact id
 ·have h1:i=r.length:=by simp at h1;omega
  refine Aa ?_;rw[fitR_of h λj q1 q2=>hg j q1 q2 (by omega)];rfl
theorem d55 (r:List V) (ts:List Int) (hr:r.length<4611686018427387904):Spec0 Tryz.prog 55 [rowA r,intsL ts] (·=bA (fitR r ts)):=by refine spec0_of_vc tabOk elems ord55 Tryz.func55 rfl (rl:=[.tmp 4]) rfl (by kernel_rfl) rfl ?_;refine Ck ?_;refine .pure _ (show Spec0 Tryz.prog 112 [rowA r,intsL ts,.fn 113 []] _ from d112 r ts hr) rfl λq hq _=>?_;subst hq;exact Ai
theorem d133 (v:V):Spec0 Tryz.prog 133 [.ag v.c] (·=bA (smallV v)):=by
 refine spec0_of_vc tabOk elems ord133 Tryz.func133 rfl (rl:=[.tmp 2]) rfl (by kernel_rfl) rfl ?_;refine Ao ?_;refine .pure _ (show Spec0 Tryz.prog 159 [.ag v.c] _ from s69 v) rfl λq hq _=>?_;subst hq;refine Ab ?_;refine VIF.split (λh=>?_) (λh=>?_)
 ·have h:okV v=true:=by
   cases e:okV v with
   | true=>rfl
   | false=>rw[e] at h;simp at h
  refine Aa ?_;refine VIF.split (λh2=>?_) (λh2=>?_)
  ·have h2:v.k≠3:=(by simpa using h2);refine Aa ?_;simp[smallV,h,h2,bA]
  ·have h2:v.k=3:=(by simpa using h2);refine Aa ?_;refine .pure _ (show Spec0 Tryz.prog 178 [iA v.i,iA 2147483648] _ from s74 v.i 2147483648 (by decide) (by decide)) rfl λq hq _=>?_;subst hq;refine Ad ?_;simp[smallV,h,h2]
 ·have h:okV v=false:=by
   cases e:okV v with
   | false=>rfl
   | true=>rw[e] at h;simp at h
  refine Aa ?_;simp[smallV,h,bA]
theorem d132 (v:V):Spec0 Tryz.prog 132 [.ag v.c] (·=bA (!smallV v)):=by refine spec0_of_vc tabOk elems ord132 Tryz.func132 rfl (rl:=[.tmp 2]) rfl (by kernel_rfl) rfl ?_;refine Ao ?_;refine .pure _ (show Spec0 Tryz.prog 133 [.ag v.c] _ from d133 v) rfl λq hq _=>?_;subst hq;exact Ai
theorem d131 (a:List V) (ha:a.length<4611686018427387904):Spec0 Tryz.prog 131 [rowA a,.fn 132 []] (·=bA (a.any λv=>!smallV v)):=by refine spec0_of_vc tabOk elems ord131 Tryz.func131 rfl (rl:=[.tmp 4]) rfl (by kernel_rfl) rfl ?_;refine A3 ?_;refine .pure _ (s68 132 [] rfl (λv=>!smallV v) (λv=>d132 v) a ha) rfl λr hr _=>?_;subst hr;refine B7 ?_;rw[idx_any];simp[bA]
theorem d76 (t:It) (f:List Int) (ht:t.row.length<4611686018427387904):Spec0 Tryz.prog 76 [.ag t.c,intsL (4::f)] (·=bA (wrongI f t)):=by
 refine spec0_of_vc tabOk elems ord76 Tryz.func76 rfl (rl:=[.tmp 4]) rfl (by kernel_rfl) rfl ?_;(simp -implicitDefEqProofs only[go_sem,It.c,iA,intsL];repeat (refine GO ?_;simp -implicitDefEqProofs only[go_sem,It.c,iA,intsL]));have bad1:t.w≠1->wrongI f t=true:=λh=>by simp[wrongI,h]
 refine VIF.split (λh1=>?_) (λh1=>?_)
 ·have h1:t.w≠1:=(by simpa using h1);refine Aa ?_;all_goals rw[bad1 h1]<;>rfl
 have h1:t.w=1:=by simpa using h1
 refine A3 ?_;refine .pure _ (show Spec0 Tryz.prog 55 [rowA t.row,intsL (4::f)] _ from d55 t.row (4::f) ht) rfl λq hq _=>?_;subst hq;refine Ad ?_;refine VIF.split (λh2=>?_) (λh2=>?_)
 ·have h2:fitR t.row (4::f)=false:=(by simpa using h2);refine Aa ?_;have:wrongI f t=true:=(by simp[wrongI,h2]);rw[this];rfl
 have h2:fitR t.row (4::f)=true:=by simpa using h2
 have hl:=fitR_len h2;have h0:0<t.row.length:=by rw[hl];simp
 have hg:getV t.row 0=t.row[0]:=by simp[getV,h0]
 refine A3 ?_;refine ⟨by omega,EL.map h0 ?_⟩;refine Ao ?_;refine VIF.split (λh3=>?_) (λh3=>?_)
 ·have h3:(getV t.row 0).k≠4:=by rw[hg];simpa using h3
  refine Aa ?_;have:wrongI f t=true:=(by simp[wrongI,h3]);rw[this];rfl
 have h3:(getV t.row 0).k=4:=by rw[hg];simpa using h3
 refine A3 ?_;refine .pure _ (show Spec0 Tryz.prog 131 [rowA t.row,.fn 132 []] _ from d131 t.row ht) rfl λq hq _=>?_;subst hq;refine Ad ?_;have:wrongI f t=t.row.any λv=>!smallV v:=by simp[wrongI,h1,h2,h3]
 rw[this]
theorem d74 (g:Nat) (caps:List AV) (hc:noIds caps=true) (p:It->Bool) (B:It->Prop) (hg:∀t:It,B t->Spec0 Tryz.prog g (.ag t.c::caps) (·=bA (p t))) (a:List It) (hB:∀t∈a,B t) (ha:a.length<4611686018427387904) :
 Spec0 Tryz.prog 74 [setA a,.fn g caps] (·=bA (a.any p)):=by
 refine spec0_of_vc tabOk elems ord74 Tryz.func74 rfl (rl:=[.tmp 4]) rfl (by kernel_rfl) rfl ?_;refine Af ?_;refine .pure _ (show Spec0 Tryz.prog 105 [setA a,.fn g caps] _ from s47 g caps hc p B hg a hB ha) (by simp only[noIds,AV.noId,hc,setA,Bool.and_true,Bool.and_self]) λr hr _=>?_;subst hr;refine B7 ?_;rw[idx_any];rfl
theorem d75 (t:It) (f:List Int) (ht:t.row.length<4611686018427387904):Spec0 Tryz.prog 75 [.ag t.c,.ro [intsL (4::f)] 0] (·=bA (wrongI f t)):=by refine spec0_of_vc tabOk elems ord75 Tryz.func75 rfl (rl:=[.tmp 3]) rfl (by kernel_rfl) rfl ?_;refine Ar ?_;refine .pure _ (show Spec0 Tryz.prog 76 [.ag t.c,intsL (4::f)] _ from d76 t f ht) rfl λq hq _=>?_;subst hq;exact Ai
theorem lent_fn1 {objs:Nat->Option Ob} {g:Nat} {a a':AV} (h:Lent objs a a'):Lent objs (.fn g [a]) (.fn g [a']):=
 .fn rfl λj x x' h1 h2=>by
  cases j with
  | zero=>simp at h1 h2;subst h1;subst h2;exact h
  | succ j=>simp at h1
theorem lent_pt1 {objs:Nat->Option Ob} {id:Nat} {a a':AV} (ho:objs id=some ⟨1,[[a]]⟩) (h:Lent objs a a') (hl:a'.leaf=true):Lent objs (.pt id 0 0) (.ro [a'] 0):=
 .pt ho rfl rfl (λj x h=>by
  cases j with
  | zero=>simp at h;subst h;exact hl
  | succ j=>simp at h) λj x x' h1 h2=>by
  cases j with
  | zero=>simp at h1 h2;subst h1;subst h2;exact h
  | succ j=>simp at h1
open Classical in
noncomputable def tabErr (f:List Int) (z:List It):Int:=if formsE [f]≠0 then formsE [f] else if tabE f z then 0 else 1
theorem d27 (f:List Int) (z:List It) (hf:f.length<1073741824) (hl:z.length<4611686018427387904) (hr:∀t∈z,t.row.length<4611686018427387904):Spec0 Tryz.prog 27 [.ag [intsL f],setA z] (·=iA (tabErr f z)):=by
 refine spec0_of_vc tabOk elems ord27 Tryz.func27 rfl (rl:=[.tmp 4]) rfl (by kernel_rfl) rfl ?_;refine A5 ?_;refine .lendR (args':=[formsA [f]]) (d73 [f] (by simp) (by simpa using hf)) ⟨lent_leafy (o:=⟨1,[[intsL f]]⟩) Bw rfl (by simp) (by simp[Ob.leafy,AV.leaf,intsL]) (λx hx=>by simp at hx;subst hx;rfl),trivial⟩ (by rintro _ rfl;rfl) λq hq=>?_;subst hq;refine Ab ?_;refine VIF.split (λh=>?_) (λh=>?_)
 ·have h:formsE [f]≠0:=(by simpa using h);refine Aa ?_;rw[tabErr,if_pos h];rfl
 have h:formsE [f]=0:=by simpa using h
 have h0:¬formsE [f]≠0:=by simp[h]
 refine Af ?_;refine ⟨by omega,?_⟩;refine .pure _ (show Spec0 Tryz.prog 54 [setA z] _ from s16 z hl hr) rfl λq hq _=>?_;obtain ⟨e,rfl,he,hg⟩:=hq;refine Ab ?_;have bad:¬tabE f z->AV.pr (.int .i64 1)=iA (tabErr f z):=λh=>by rw[tabErr,if_neg h0,if_neg h];rfl
 refine VIF.split (λh1=>?_) (λh1=>?_)
 ·have h1:e≠0:=(by simpa using h1);refine Aa ?_;exact bad λt=>h1 (hg.2 t.1)
 have h1:e=0:=by simpa using h1
 have g1:=hg.1 h1;refine Af ?_;refine VIF.split (λh2=>?_) (λh2=>?_)
 ·have h2:1024<z.length:=by simp at h2;omega
  refine Aa ?_;exact bad λt=>by have:=t.2.1;omega
 have h2:z.length<=1024:=by simp at h2;omega
 refine Aw ?_
 refine .lendR (args':=[setA z,.fn 75 [.ro [intsL (4::f)] 0]]) (d74 75 [.ro [intsL (4::f)] 0] rfl (wrongI f) (λt=>t.row.length<4611686018427387904) (λt ht=>d75 t f ht) z hr hl)
  ⟨.same rfl,lent_fn1 (lent_pt1 (a:=.rf 16 0 (1+f.length)) Ag (lent_leafy (o:=io (4::f)) (by refine Aa ?_;rfl) rfl (by simp[io];omega) (io_leafy _) (λx hx=>by obtain ⟨v,_,rfl⟩:=List.mem_map.1 hx;rfl)) rfl),trivial⟩ (by rintro _ rfl;rfl) λq hq=>?_
 subst hq;refine Ad ?_;refine VIF.split (λh3=>?_) (λh3=>?_)
 ·refine Aa ?_;exact bad λt=>by rw[t.2.2] at h3;cases h3
 ·refine Aa ?_;rw[tabErr,if_neg h0,if_pos ⟨g1,h2,h3⟩];rfl
def plA (l:List PN):AV:=.im 14 (l.map PN.c)
structure PlSz (F:List (List Int)) (l:List PN):Prop where
 fl:F.length<1073741824
 ff:∀f∈F,f.length<1073741824
 ll:l.length<1073741824
 cl:∀x∈l,x.cols.length<1073741824/\x.others.length<1073741824
def lastN (F:List (List Int)) (l:List PN):Nd:=(planN F l).getLast?.getD ⟨[],0,0⟩
def LastR (F:List (List Int)) (l:List PN) (r:AV):Prop:=∃c1 c2 c3 e,r=.tu [.ag [c1,c2,c3],iA e]/\(c1.leaf&&c2.leaf&&c3.leaf)=true/\e=planE F l/\(e=0->AV.ag [c1,c2,c3]=.ag (lastN F l).c)/\(e≠0->AV.ag [c1,c2,c3]=.ag [.nl,iA 0,iA 0])
theorem last_bad {F:List (List Int)} {l:List PN} {e:Int} (he:e=planE F l) (h0:e≠0):(LastR F l (.tu [.ag [.nl,iA 0,iA 0],iA e])/\(AV.tu [.ag [.nl,iA 0,iA 0],iA e]).noId=true)/\noOb=noOb:=
 ⟨⟨⟨_,_,_,e,rfl,rfl,he,λh=>absurd h h0,λ_=>rfl⟩,rfl⟩,rfl⟩
theorem ndO_snoc {st:St} {m:List (Nat×Option Nat)} {D D':List Nd} {n:Nd} (h:D'=D++[n]):Es st m (List.map Nd.c D++[n.c]) (List.map Nd.c D'):=by subst h;rw[List.map_append];exact .same (ndO (D++[n])) _ _ (λx hx=>ndO_leafy (D++[n]) x (by rw[ndO,List.map_append];exact hx)) rfl
theorem planD_bad {F:List (List Int)} {l:List PN} {i:Nat} (hi:i<l.length) (hp:(planD F (l.take i) []).1=0) (h:lookE F (ndsTo F l i) l[i]≠0):(planD F l []).1=lookE F (ndsTo F l i) l[i]:=by
 have e:l=l.take i++(l[i]::l.drop (i+1)):=by rw[<- List.drop_eq_getElem_cons hi,List.take_append_drop]
 have h1:=planD_app F (l.take i) (l[i]::l.drop (i+1)) [] hp;rw[<- e] at h1;rw[h1];have h':¬lookE F (planD F (l.take i) []).2 l[i]=0:=h;simp only[planD,if_neg h'];rfl
theorem planD_good {F:List (List Int)} {l:List PN} {i:Nat} (hi:i<l.length) (hp:(planD F (l.take i) []).1=0) (h:lookE F (ndsTo F l i) l[i]=0):(planD F (l.take (i+1)) []).1=0/\ndsTo F l (i+1)=ndsTo F l i++[lookN F (ndsTo F l i) l[i]]:=by
 have h1:=planD_app F (l.take i) [l[i]] [] hp;rw[<- List.take_succ_eq_append_getElem hi] at h1;have h':lookE F (planD F (l.take i) []).2 l[i]=0:=h;constructor
 ·rw[h1];simp only[planD,if_pos h']
 ·simp only[ndsTo,planN];rw[h1];simp only[planD,if_pos h']
theorem ndsTo_bd2 {F:List (List Int)} {l:List PN} (hF:formsE F=0):∀(i:Nat),i<=l.length->(planD F (l.take i) []).1=0->∀n∈ndsTo F l i,Ndb n:=λi hi hp=>by
 have e:ndsTo F l i=ndsTo F (l.take i) (l.take i).length:=by rw[ndsTo,ndsTo,List.take_length]
 rw[e];exact ndsTo_bd hF hp _ (Nat.le_refl _)
theorem ndsTo_len2 {F:List (List Int)} {l:List PN} (i:Nat) (hi:i<=l.length) (hp:(planD F (l.take i) []).1=0):(ndsTo F l i).length=i:=by have:=planD_len F (l.take i) [] hp;simp only[ndsTo,planN];rw[this];simp;omega
theorem d108 (F:List (List Int)) (l:List PN) (h:PlSz F l):Spec0 Tryz.prog 108 [plA l,formsA F] (LastR F l):=by
 refine spec0_of_vc tabOk elems og108 Tryz.func108 rfl (rl:=[.cell 4 146,.tmp 5]) rfl (by kernel_rfl) rfl ?_;refine Cb ?_;refine .pure _ (show Spec0 Tryz.prog 73 [formsA F] _ from d73 F h.fl h.ff) rfl λq hq _=>?_;subst hq;refine Ab ?_;refine VIF.split (λh1=>?_) (λh1=>?_)
 ·have h1:formsE F≠0:=(by simpa using h1);refine Aa ?_;exact ⟨rfl,(last_bad (by rw[planE,if_pos h1]) h1).1.1⟩
 have h1:formsE F=0:=by simpa using h1
 have h1':¬formsE F≠0:=by simp[h1]
 refine Aa ?_;refine VIF.split (λh2=>?_) (λh2=>?_)
 ·have h2:l.length<1:=by simp at h2;omega
  refine Aa ?_;exact ⟨rfl,(last_bad (by rw[planE,if_neg h1',if_pos (.inl h2)]) (by decide)).1.1⟩
 have h2:¬l.length<1:=by simp at h2;omega
 refine Aa ?_;refine VIF.split (λh3=>?_) (λh3=>?_)
 ·have h3:12<l.length:=by simp at h3;omega
  refine Aa ?_;exact ⟨rfl,(last_bad (by rw[planE,if_neg h1',if_pos (.inr h3)]) (by decide)).1.1⟩
 have h3:¬12<l.length:=by simp at h3;omega
 have h23:¬(l.length<1\/12<l.length):=by omega
 have hpe:planE F l=(planD F l []).1:=by rw[planE,if_neg h1',if_neg h23]
 refine Bz ?_
 refine LOOP.mk (ι:={i:Nat//i<=l.length/\(planD F (l.take i) []).1=0})
  (λp=>mkS [(0,plA l),(4,.pt 1004 0 0),(7,.pt 1001 0 0),(32,plA l),(33,iA l.length),(34,iA p.1)] [(1000,ndO (ndsTo F l p.1)),(1001,boxO F 1000 (ndsTo F l p.1).length),(1004,⟨3,[[.nl,iA 0,iA 0]]⟩)] [1000,1001,1004])
  (λp=>l.length-p.1) ⟨0,Nat.zero_le _,rfl⟩ [(1000,none),(1001,some 31),(1004,some 4)] rfl rfl ?_ (λp=>?_)
 ·(simp -implicitDefEqProofs only[go_sem,boxO,formsA,iA,ndO,plA];repeat (refine GO ?_;simp -implicitDefEqProofs only[go_sem,boxO,formsA,iA,ndO,plA]));refine ⟨id,rfl,rfl,.cons (by simp[wk.wks,wk,nms,ndsTo,planN,planD]) .nil,.same ⟨3,[[.nl,.pr (.int .i64 0),.pr (.int .i64 0)]]⟩ _ _ (by simp[Ob.leafy,AV.leaf]) rfl⟩
 obtain ⟨i,hi,hp⟩:=p;(simp -implicitDefEqProofs only[go_sem,boxO,iA,ndO,plA];repeat (refine GO ?_;simp -implicitDefEqProofs only[go_sem,boxO,iA,ndO,plA]));refine VIF.split (λh4=>?_) (λh4=>?_)
 ·have h4:i<l.length:=(by simpa using h4);have hm:=List.getElem_mem h4;have w1:=wrap_add1 (show i<4611686018427387904 by omega);refine Aa ?_;refine EL.map h4 ?_;refine Bg ?_;have hD:=ndsTo_len2 i hi hp;have nb:=ndsTo_bd2 h1 i hi hp;have spec:=d157 F (ndsTo F l i) l[i] (by omega) h.fl h.ff nb (h.cl _ hm).1 (h.cl _ hm).2;obtain ⟨D,hDD⟩:∃D,D=ndsTo F l i:=⟨_,rfl⟩;rw[<- hDD] at spec hD ⊢;refine CALL.walk2 spec rfl (d:=1000) (by decide) Ag Ag (by simp) (by simp) 100000 (by simp) _ rfl λr hr=>?_;obtain ⟨c1,c2,c3,e,rfl,hl,he,hv⟩:=hr;refine Ab ?_;refine VIF.split (λh5=>?_) (λh5=>?_)
  ·have h5:e≠0:=(by simpa using h5);refine Aa ?_;refine ⟨rfl,(last_bad ?_ h5).1.1⟩;rw[hpe,planD_bad h4 hp (by rw[<- hDD,<- he];exact h5),he,hDD]
  have h5:e=0:=(by simpa using h5);have hc:=hv h5;injection hc with hc
  simp only[Nd.c,List.cons.injEq,and_true] at hc;obtain ⟨rfl,rfl,rfl⟩:=hc;obtain ⟨g1,g2⟩:=planD_good h4 hp (by rw[<- hDD,<- he];exact h5);refine Ab ?_;refine ⟨by omega,?_⟩;refine Ba ?_;refine BACK.mk ⟨i+1,by omega,g1⟩ [(1000,some 55),(1001,some 1001),(1004,some 1004)] rfl rfl (by show l.length-(i+1)<l.length-i;omega) ?_;(simp -implicitDefEqProofs only[go_sem,boxO,formsA,iA,ndO,plA,w1];repeat (refine GO ?_;simp -implicitDefEqProofs only[go_sem,boxO,formsA,iA,ndO,plA,w1]));refine ⟨id,?_,.cons (by simp[wk.wks,wk,nms,g2,<- hDD]) .nil,.same ⟨3,[[.nl,.pr (.int .i64 0),.pr (.int .i64 0)]]⟩ _ _ (by simp[Ob.leafy,AV.leaf]) rfl⟩;try rw[List.take_of_length_le (l:=List.map Nd.c D) (by simp)]
  exact ndO_snoc (n:=lookN F D l[i]) (by rw[g2,<- hDD])
 ·have h4:i=l.length:=by simp at h4;omega
  subst h4;have hD:=ndsTo_len2 l.length hi hp;have w2:IntKind.i64.wrap ((l.length:Int)-1)=((l.length-1:Nat):Int):=by rw[wrap_i64]<;>omega
  (simp -implicitDefEqProofs only[go_sem,iA,plA,w2];repeat (refine GO ?_;simp -implicitDefEqProofs only[go_sem,iA,plA,w2]));obtain ⟨D,hDD⟩:∃D,D=ndsTo F l l.length:=⟨_,rfl⟩;rw[<- hDD] at hD ⊢;refine ⟨by omega,EL.map (show l.length-1<D.length by omega) ?_⟩;refine Bs ?_;have hz:(planD F l []).1=0:=by rw[List.take_length] at hp;exact hp
  refine ⟨rfl,_,_,_,0,rfl,rfl,by rw[hpe,hz],λ_=>?_,λh=>absurd rfl h⟩;have e:planN F l=D:=(by rw[hDD,ndsTo,List.take_length]);have:lastN F l=D[l.length-1]'(by omega):=by simp only[lastN,e,List.getLast?_eq_getElem?,hD];rw[List.getElem?_eq_getElem (by omega)];rfl
  rw[this];rfl
theorem d109 (a:List Int) (hl:a.length<=1073741824):Spec1 Tryz.prog 109 [intsL a] (λr o=>r=.rf 0 0 a.length/\o=io a):=by
 refine spec1_of_vc tabOk elems ord109 Tryz.func109 rfl (rl:=[.tmp 2]) rfl (by kernel_rfl) rfl ?_;refine A5 ?_;refine ⟨⟨_,rfl⟩,λb hb=>?_⟩;refine VIF.split (λh=>?_) (λh=>?_)
 ·have hz:a=[]:=(by simpa using hb (by simpa using h));subst hz;refine Aa ?_;refine FINmk [(0,none)] [(2,.rf 0 0 0)] [(0,io [])] [0] rfl ?_ ?_
  ·refine Aa ?_;simp[io]
  ·exact ⟨io [],⟨⟨rfl,rfl⟩,rfl⟩,io_leafy [],rfl⟩
 ·refine Aa ?_;refine ⟨by omega,?_⟩;refine FINmk [(0,some 7)] [(2,.rf 0 0 a.length)] [(0,io a)] [0] rfl ?_ ?_
  ·refine Ez ?_;exact .same (io a) _ _ (io_leafy a) rfl
  ·exact ⟨io a,⟨⟨rfl,rfl⟩,rfl⟩,io_leafy a,rfl⟩
theorem d109z (a:List Int) (hl:a.length<=1073741824):Spec0 Tryz.prog 109 [intsL a] (·=intsL a):=Spec1.intsC (d109 a hl)
theorem d109n:Spec0 Tryz.prog 109 [.nl] (·=intsL []):=spec_nl (d109z [] (by simp)) (by simp[nlOk,intsL])
theorem lastN_tl {F:List (List Int)} {l:List PN} (h:planE F l=0):(lastN F l).types.length<=12/\0<l.length/\Ndb (lastN F l):=by
 rw[planE] at h;split at h
 ·rename_i h1;exact absurd h h1
 split at h
 ·cases h
 rename_i h1 h2;have h3:=ndsTo_bd (by simpa using h1) h l.length (Nat.le_refl _);have h4:=ndsTo_len h (Nat.le_refl l.length);have e:planN F l=ndsTo F l l.length:=by rw[ndsTo,List.take_length]
 have:lastN F l∈ndsTo F l l.length:=by rw[lastN,e,List.getLast?_eq_getElem?,List.getElem?_eq_getElem (by omega)];exact List.getElem_mem _
 exact ⟨(h3 _ this).tl,by omega,h3 _ this⟩
theorem d52 (F:List (List Int)) (l:List PN) (h:PlSz F l):Spec0 Tryz.prog 52 [plA l,formsA F] (λr=>∃t,r=.tu [intsL t,iA (planE F l)]/\(planE F l=0->t=(lastN F l).types)/\(planE F l≠0->t=[])):=by
 refine spec0_of_vc tabOk elems ord52 Tryz.func52 rfl (rl:=[.tmp 4,.tmp 5]) rfl (by kernel_rfl) rfl ?_;refine Cb ?_;refine .pure _ (show Spec0 Tryz.prog 108 [plA l,formsA F] _ from d108 F l h) rfl λq hq _=>?_;obtain ⟨c1,c2,c3,e,rfl,hl,he,h0,h1⟩:=hq;by_cases hz:e=0
 ·have hc:=h0 hz;injection hc with hc
  simp only[Nd.c,List.cons.injEq,and_true] at hc;obtain ⟨rfl,rfl,rfl⟩:=hc;refine Ab ?_;refine .pure _ (d109z (lastN F l).types (by have:=(lastN_tl (he.symm.trans hz)).1;omega)) rfl λq hq _=>?_;subst hq;refine Aa ?_;refine ⟨rfl,_,by rw[he];rfl,λ_=>rfl,λg=>absurd (he.symm.trans hz) g⟩
 ·have hc:=h1 hz;injection hc with hc
  simp only[List.cons.injEq,and_true] at hc;obtain ⟨rfl,rfl,rfl⟩:=hc;refine Ab ?_;refine .pure _ d109n rfl λq hq _=>?_;subst hq;refine Aa ?_;refine ⟨rfl,_,by rw[he];rfl,λg=>absurd (he.trans g) hz,λ_=>rfl⟩
def doO (S:List (List It)):Ob:=⟨1,S.map λz=>[setA z]⟩
theorem doO_leafy (S:List (List It)):(doO S).leafy:=by rw[doO,leafy_do];exact leafs2_map λx _=>by simp[leafs,setA,AV.leaf]
structure NodeOk (F:List (List Int)) (D:List Nd) (S tabs:List (List It)) (x:PN):Prop where
 hF:formsE F=0
 look:lookE F D x=0
 tabs:TabsE F tabs
 sets:Sets S D
 rows:∀z∈S,z.length<=25000000
 join:x.kind=4->(setAt S x.a).length*(setAt S x.b).length<=268435456
 cl:x.cols.length<1073741824/\x.others.length<1073741824
theorem projR_X {z out:List It} {cols:List Int} {err:Int} (hz:∀t∈z,pickE t.row cols=0) (h:ProjR z cols out err):ProjX z cols out err:=by
 rcases h with ⟨h1,h2,h3⟩|⟨h1,⟨t,ht,h2⟩,h3,h4⟩|⟨h1,h2,h3⟩
 ·exact .inl ⟨h1,h2,h3⟩
 ·exact absurd (h2.symm.trans (hz t ht)) h3
 ·exact .inr (.inr ⟨h1,h2,h3⟩)
theorem filtE_ok {D:List Nd} {x:PN} (h:filtE D x=0):inC x.a D.length=true:=by simp only[filtE] at h;split at h<;>simp_all
theorem distE_ok {D:List Nd} {x:PN} (h:distE D x=0):inC x.a D.length=true:=by simp only[distE] at h;split at h<;>simp_all
theorem scanE_ok {F:List (List Int)} {x:PN} (h:scanE F x=0):inC x.table F.length=true:=by simp only[scanE] at h;split at h<;>simp_all
theorem projE_ok {D:List Nd} {x:PN} (h:projE x D=0):inC x.a D.length=true/\x.cols.any (outC (ndAt D x.a).types.length)=false/\x.cols.length<=12:=by
 simp only[projE] at h;split at h
 ·cases h
 rename_i h1;split at h
 ·cases h
 simp only[not_or,Bool.not_eq_true] at h1;exact ⟨inC_of_not (by simpa using h1.1),h1.2,by omega⟩
theorem joinE_ok {D:List Nd} {x:PN} (h:joinE x D=0):inC x.a D.length=true/\inC x.b D.length=true/\x.cols.length=x.others.length/\(ndAt D x.a).types.length+(ndAt D x.b).types.length<=12/\(ndAt D x.a).w*(ndAt D x.b).w<=1125899906842624:=by
 simp only[joinE] at h;split at h
 ·cases h
 rename_i h1;split at h
 ·cases h
 rename_i h2;split at h
 ·cases h
 rename_i h3;split at h
 ·cases h
 split at h
 ·cases h
 rename_i h5;simp only[not_or,Decidable.not_not] at h1 h3 h5;exact ⟨inC_of_not h1.1,inC_of_not h1.2,h3.1,by omega,h5⟩
theorem bothE_ok {D:List Nd} {x:PN} (h:bothE x D=0):inC x.a D.length=true/\inC x.b D.length=true/\(ndAt D x.a).types=(ndAt D x.b).types/\(ndAt D x.a).w+(ndAt D x.b).w<=1125899906842624:=by
 simp only[bothE] at h;split at h
 ·cases h
 rename_i h1;split at h
 ·cases h
 rename_i h2;split at h
 ·cases h
 rename_i h5;simp only[not_or,Decidable.not_not] at h1 h2;exact ⟨inC_of_not h1.1,inC_of_not h1.2,h2,by omega⟩
theorem grpE_ok {D:List Nd} {x:PN} (h:grpE x D=0):inC x.a D.length=true/\(1<=x.agg/\x.agg<=4)/\x.cols.any (outC (ndAt D x.a).types.length)=false/\x.cols.length<12/\(x.agg≠1->inC x.col (ndAt D x.a).types.length=true)/\(x.agg=2->getI (ndAt D x.a).types x.col=3)/\aggV x.agg (ndAt D x.a)<=1152921504606846976:=by
 simp only[grpE] at h;split at h
 ·cases h
 rename_i h1;split at h
 ·cases h
 rename_i h2;split at h
 ·cases h
 rename_i h3;split at h
 ·cases h
 rename_i h4;split at h
 ·cases h
 rename_i h5;simp only[not_or,not_and,Decidable.not_not,Bool.not_eq_true] at h1 h2 h4;exact ⟨inC_of_not (by simpa using h1.1),⟨by omega,by omega⟩,h2.1,by omega,λe=>inC_of_not (by simpa using h2.2 e),h4,by omega⟩
theorem d72 (F:List (List Int)) (D:List Nd) (S tabs:List (List It)) (x:PN) (h:NodeOk F D S tabs x) :
 SpecO Tryz.prog 72 [.ag x.c,.rf 0 0 S.length,setsA tabs] (doO S) (λr o'=>∃out,r=.tu [setA out,iA 0]/\o'=doO S/\NodeR x S tabs out):=by
 have fin:∀(out:List It) (s:St),s.objs 0=some (doO S)->s.regs 6=setA out->s.regs 7=iA 0->NodeR x S tabs out->FIN T (upd noOb 0 (some (doO S))) [.tmp 6,.tmp 7] (λr O'=>∃o',((∃out,r=.tu [setA out,iA 0]/\o'=doO S/\NodeR x S tabs out)/\r.noId=true)/\o'.leafy/\O'=upd noOb 0 (some o')) s:=by
  intro out s h0 h6 h7 hn;refine FIN_B (o':=doO S) (rl:=[(6,setA out),(7,iA 0)]) h0 (doO_leafy S) ?_ ?_
  ·simp -implicitDefEqProofs only[go_sem,h6,h7,iA,setA]
  ·refine De ?_;exact ⟨doO S,⟨⟨out,rfl,rfl,hn⟩,rfl⟩,doO_leafy S,rfl⟩
 have hlook:=h.look;have at_:∀{k:Int},inC k D.length=true->∃hk:k.toNat<S.length,0<=k/\k<S.length/\setAt S k=S[k.toNat]'hk/\Nds (S[k.toNat]'hk) (ndAt D k)/\Ndb (ndAt D k)/\(S[k.toNat]'hk).length<=25000000/\∀t∈S[k.toNat]'hk,t.row.length<1073741824:=λ{k} hk=>by obtain ⟨g1,g2⟩:=h.sets.at hk;simp only[inC,Bool.and_eq_true,decide_eq_true_eq] at hk;have hl:=h.sets.len;have h2:k.toNat<S.length:=(by omega);rw[setAt_eq h2] at g1;exact ⟨h2,hk.1,by omega,setAt_eq h2,g1,g2,h.rows _ (List.getElem_mem h2),λt ht=>by have:=g1.r12 t ht;omega⟩
 refine specO_of_vc tabOk elems ord72 Tryz.func72 rfl (rl:=[.tmp 6,.tmp 7]) rfl (by kernel_rfl) rfl ?_;refine Dd ?_;refine VIF.split (λk1=>?_) (λk1=>?_)
 ·have k1:x.kind=1:=(by simpa using k1);have n2:¬x.kind=2:=(by omega);have n3:¬x.kind=3:=(by omega);have n4:¬x.kind=4:=(by omega);have n5:¬x.kind=5:=(by omega);have n6:¬x.kind=6:=(by omega);have n7:¬x.kind=7:=(by omega);have n8:¬x.kind=8:=(by omega);have hl:scanE F x=0:=(by simpa only[lookE,n2,n3,n4,n5,n6,n7,n8,k1,if_true,if_false,or_false,false_or,or_self,true_or,or_true,reduceCtorEq,Int.reduceEq,Int.reduceNe] using hlook);have hi:=scanE_ok hl;simp only[inC,Bool.and_eq_true,decide_eq_true_eq] at hi;have h1:x.table.toNat<F.length:=(by omega);have h2:x.table.toNat<tabs.length:=by rw[h.tabs.1];exact h1
  have g:=nd_scan (h.tabs.2 _ h1 h2);refine Dd ?_;refine ⟨hi.1,EL.map h2 ?_⟩;refine Aa ?_;refine .pure _ (Spec1.setC (s57 (tabs[x.table.toNat]'h2) (by have:=(h.tabs.2 _ h1 h2).2.1;omega) (λt ht=>by have:=g.r12 t ht;omega))) rfl λq hq _=>?_;subst hq;refine Af ?_;exact fin (tabs[x.table.toNat]'h2) _ (by refine Aw ?_;rfl) Di Aj (by simp only[NodeR,n2,n3,n4,n5,n6,n7,n8,k1,if_true,if_false,Int.reduceEq];rw[setAt_eq h2])
 have k1:x.kind≠1:=by simpa using k1
 refine Aq ?_;refine VIF.split (λk2=>?_) (λk2=>?_)
 ·have k2:x.kind=2:=(by simpa using k2);have n1:¬x.kind=1:=(by omega);have n3:¬x.kind=3:=(by omega);have n4:¬x.kind=4:=(by omega);have n5:¬x.kind=5:=(by omega);have n6:¬x.kind=6:=(by omega);have n7:¬x.kind=7:=(by omega);have n8:¬x.kind=8:=(by omega);have hl:filtE D x=0:=(by simpa only[lookE,n1,n3,n4,n5,n6,n7,n8,k2,if_true,if_false,or_false,false_or,or_self,true_or,or_true,reduceCtorEq,Int.reduceEq,Int.reduceNe] using hlook);obtain ⟨ha,ha0,ha1,ea,na,ba,la,ra⟩:=at_ (filtE_ok hl);refine Aq ?_;refine ⟨⟨ha0,ha1⟩,EL.map ha ?_⟩;refine Aq ?_;refine .pure _ (show Spec0 Tryz.prog 40 [setA (S[x.a.toNat]'ha),.ag x.pred.c] _ from Spec1.setE (c51 (S[x.a.toNat]'ha) x.pred (by omega) ra)) rfl λq hq _=>?_;obtain ⟨out,e,rfl,hq⟩:=hq;obtain ⟨rfl,rfl⟩:=filt_ok na.good hq;refine Al ?_;exact fin ((S[x.a.toNat]'ha).filter λt=>holdsP x.pred t.row) _ (by refine Aw ?_;rfl) Di Aj (by simp only[NodeR,n1,n3,n4,n5,n6,n7,n8,k2,if_true,if_false,Int.reduceEq];rw[ea])
 have k2:x.kind≠2:=by simpa using k2
 refine Aq ?_;refine VIF.split (λk3=>?_) (λk3=>?_)
 ·have k3:x.kind=3:=(by simpa using k3);have n1:¬x.kind=1:=(by omega);have n2:¬x.kind=2:=(by omega);have n4:¬x.kind=4:=(by omega);have n5:¬x.kind=5:=(by omega);have n6:¬x.kind=6:=(by omega);have n7:¬x.kind=7:=(by omega);have n8:¬x.kind=8:=(by omega);have hl:projE x D=0:=(by simpa only[lookE,n1,n2,n4,n5,n6,n7,n8,k3,if_true,if_false,or_false,false_or,or_self,true_or,or_true,reduceCtorEq,Int.reduceEq,Int.reduceNe] using hlook);obtain ⟨hia,hc1,hc2⟩:=projE_ok hl;obtain ⟨ha,ha0,ha1,ea,na,ba,la,ra⟩:=at_ hia;refine Aq ?_;refine ⟨⟨ha0,ha1⟩,EL.map ha ?_⟩;refine Aq ?_;refine .pure _ (show Spec0 Tryz.prog 41 [setA (S[x.a.toNat]'ha),intsL x.cols] _ from Spec1.setE (c49 (S[x.a.toNat]'ha) x.cols (by omega) ra h.cl.1)) rfl λq hq _=>?_;obtain ⟨out,e,rfl,hq⟩:=hq;have hX:=projR_X (nd_pickE na hc1 hc2) hq;obtain ⟨rfl,_,_⟩:=nd_proj na ba hc1 hc2 hX;refine Al ?_;exact fin out _ (by refine Aw ?_;rfl) Di Aj (by simp only[NodeR,n1,n2,n4,n5,n6,n7,n8,k3,if_true,if_false,Int.reduceEq];rw[ea];exact hX)
 have k3:x.kind≠3:=by simpa using k3
 refine Aq ?_;refine VIF.split (λk4=>?_) (λk4=>?_)
 ·have k4:x.kind=4:=(by simpa using k4);have n1:¬x.kind=1:=(by omega);have n2:¬x.kind=2:=(by omega);have n3:¬x.kind=3:=(by omega);have n5:¬x.kind=5:=(by omega);have n6:¬x.kind=6:=(by omega);have n7:¬x.kind=7:=(by omega);have n8:¬x.kind=8:=(by omega);have hl:joinE x D=0:=(by simpa only[lookE,n1,n2,n3,n5,n6,n7,n8,k4,if_true,if_false,or_false,false_or,or_self,true_or,or_true,reduceCtorEq,Int.reduceEq,Int.reduceNe] using hlook);obtain ⟨hia,hib,hc1,hc2,hc3⟩:=joinE_ok hl;obtain ⟨ha,ha0,ha1,ea,na,ba,la,ra⟩:=at_ hia;obtain ⟨hb,hb0,hb1,eb,nb,bb,lb,rb⟩:=at_ hib;refine Aq ?_;refine ⟨⟨ha0,ha1⟩,EL.map ha ?_⟩;refine Aq ?_;refine ⟨⟨hb0,hb1⟩,EL.map hb ?_⟩;refine Aq ?_;refine .pure _ (show Spec0 Tryz.prog 42 [setA (S[x.a.toNat]'ha),setA (S[x.b.toNat]'hb),intsL x.cols,intsL x.others] _ from c26 (S[x.a.toNat]'ha) (S[x.b.toNat]'hb) x.cols x.others h.cl.1 h.cl.2 (by have:=h.join k4;rw[ea,eb] at this;exact this) (by omega) (by omega) ra rb) rfl λq hq _=>?_;obtain ⟨out,e,rfl,hq⟩:=hq;obtain ⟨rfl,_⟩:=nd_join na nb hc1 hc2 ba.w0 (by omega) hq;refine Al ?_;exact fin out _ (by refine Aw ?_;rfl) Di Aj (by simp only[NodeR,n1,n2,n3,n5,n6,n7,n8,k4,if_true,if_false,Int.reduceEq];rw[ea,eb];exact hq)
 have k4:x.kind≠4:=by simpa using k4
 refine Aq ?_;refine VIF.split (λk5=>?_) (λk5=>?_)
 ·have k5:x.kind=5:=(by simpa using k5);have n1:¬x.kind=1:=(by omega);have n2:¬x.kind=2:=(by omega);have n3:¬x.kind=3:=(by omega);have n4:¬x.kind=4:=(by omega);have n6:¬x.kind=6:=(by omega);have n7:¬x.kind=7:=(by omega);have n8:¬x.kind=8:=(by omega);have hl:bothE x D=0:=(by simpa only[lookE,n1,n2,n3,n4,n6,n7,n8,k5,if_true,if_false,or_false,false_or,or_self,true_or,or_true,reduceCtorEq,Int.reduceEq,Int.reduceNe] using hlook);obtain ⟨hia,hib,hc1,hc2⟩:=bothE_ok hl;obtain ⟨ha,ha0,ha1,ea,na,ba,la,ra⟩:=at_ hia;obtain ⟨hb,hb0,hb1,eb,nb,bb,lb,rb⟩:=at_ hib;refine Aq ?_;refine ⟨⟨ha0,ha1⟩,EL.map ha ?_⟩;refine Aq ?_;refine ⟨⟨hb0,hb1⟩,EL.map hb ?_⟩;refine Aq ?_;refine .pure _ (show Spec0 Tryz.prog 43 [setA (S[x.a.toNat]'ha),setA (S[x.b.toNat]'hb)] _ from Spec1.setE (c54 (S[x.a.toNat]'ha) (S[x.b.toNat]'hb) (by omega) ra rb)) rfl λq hq _=>?_;obtain ⟨out,e,rfl,hq⟩:=hq;obtain ⟨rfl,_⟩:=nd_add na nb hc1 (by omega) hq;refine Al ?_;exact fin out _ (by refine Aw ?_;rfl) Di Aj (by simp only[NodeR,n1,n2,n3,n4,n6,n7,n8,k5,if_true,if_false,Int.reduceEq];rw[ea,eb];exact hq)
 have k5:x.kind≠5:=by simpa using k5
 refine Aq ?_;refine VIF.split (λk6=>?_) (λk6=>?_)
 ·have k6:x.kind=6:=(by simpa using k6);have n1:¬x.kind=1:=(by omega);have n2:¬x.kind=2:=(by omega);have n3:¬x.kind=3:=(by omega);have n4:¬x.kind=4:=(by omega);have n5:¬x.kind=5:=(by omega);have n7:¬x.kind=7:=(by omega);have n8:¬x.kind=8:=(by omega);have hl:bothE x D=0:=(by simpa only[lookE,n1,n2,n3,n4,n5,n7,n8,k6,if_true,if_false,or_false,false_or,or_self,true_or,or_true,reduceCtorEq,Int.reduceEq,Int.reduceNe] using hlook);obtain ⟨hia,hib,hc1,hc2⟩:=bothE_ok hl;obtain ⟨ha,ha0,ha1,ea,na,ba,la,ra⟩:=at_ hia;obtain ⟨hb,hb0,hb1,eb,nb,bb,lb,rb⟩:=at_ hib;refine Aq ?_;refine ⟨⟨ha0,ha1⟩,EL.map ha ?_⟩;refine Aq ?_;refine ⟨⟨hb0,hb1⟩,EL.map hb ?_⟩;refine Aq ?_;refine .pure _ (show Spec0 Tryz.prog 44 [setA (S[x.a.toNat]'ha),setA (S[x.b.toNat]'hb)] _ from Spec1.setE (c55 (S[x.a.toNat]'ha) (S[x.b.toNat]'hb) (by omega) ra rb)) rfl λq hq _=>?_;obtain ⟨out,e,rfl,hq⟩:=hq;obtain ⟨rfl,_⟩:=nd_min na nb hc1 (by omega) hq;refine Al ?_;exact fin out _ (by refine Aw ?_;rfl) Di Aj (by simp only[NodeR,n1,n2,n3,n4,n5,n7,n8,k6,if_true,if_false,Int.reduceEq];rw[ea,eb];exact hq)
 have k6:x.kind≠6:=by simpa using k6
 refine Aq ?_;refine VIF.split (λk7=>?_) (λk7=>?_)
 ·have k7:x.kind=7:=(by simpa using k7);have n1:¬x.kind=1:=(by omega);have n2:¬x.kind=2:=(by omega);have n3:¬x.kind=3:=(by omega);have n4:¬x.kind=4:=(by omega);have n5:¬x.kind=5:=(by omega);have n6:¬x.kind=6:=(by omega);have n8:¬x.kind=8:=(by omega);have hl:distE D x=0:=(by simpa only[lookE,n1,n2,n3,n4,n5,n6,n8,k7,if_true,if_false,or_false,false_or,or_self,true_or,or_true,reduceCtorEq,Int.reduceEq,Int.reduceNe] using hlook);obtain ⟨ha,ha0,ha1,ea,na,ba,la,ra⟩:=at_ (distE_ok hl);refine Aq ?_;refine ⟨⟨ha0,ha1⟩,EL.map ha ?_⟩;refine Aq ?_;refine .pure _ (show Spec0 Tryz.prog 45 [setA (S[x.a.toNat]'ha)] _ from c32 (S[x.a.toNat]'ha) (by omega) ra) rfl λq hq _=>?_;obtain ⟨out,e,rfl,hq⟩:=hq;have hq:e=0/\out=distL (S[x.a.toNat]'ha):=by
   rcases hq with ⟨g,_⟩|⟨_,h1,h2⟩
   ·exact absurd na.good g
   ·exact ⟨h2,h1⟩
  obtain ⟨rfl,rfl⟩:=hq;refine Al ?_;exact fin (distL (S[x.a.toNat]'ha)) _ (by refine Aw ?_;rfl) Di Aj (by simp only[NodeR,n1,n2,n3,n4,n5,n6,n8,k7,if_true,if_false,Int.reduceEq];rw[ea])
 have k7:x.kind≠7:=by simpa using k7
 have k8:x.kind=8:=by
  simp only[lookE,k1,k2,k3,k4,k5,k6,k7,if_false,or_self] at hlook;split at hlook
  ·assumption
  ·cases hlook
 have n1:¬x.kind=1:=by omega
 have n2:¬x.kind=2:=by omega
 have n3:¬x.kind=3:=by omega
 have n4:¬x.kind=4:=by omega
 have n5:¬x.kind=5:=by omega
 have n6:¬x.kind=6:=by omega
 have n7:¬x.kind=7:=by omega
 have hl:grpE x D=0:=by simpa only[lookE,n1,n2,n3,n4,n5,n6,n7,k8,if_true,if_false,or_false,false_or,or_self,true_or,or_true,reduceCtorEq,Int.reduceEq,Int.reduceNe] using hlook
 obtain ⟨hia,hk,hc1,hc2,hc3,hc4,hc5⟩:=grpE_ok hl;obtain ⟨ha,ha0,ha1,ea,na,ba,la,ra⟩:=at_ hia;refine Aq ?_;refine ⟨⟨ha0,ha1⟩,EL.map ha ?_⟩;refine Aq ?_;refine .pure _ (show Spec0 Tryz.prog 46 [setA (S[x.a.toNat]'ha),intsL x.cols,iA x.agg,iA x.col] _ from g67 (S[x.a.toNat]'ha) x.cols x.agg x.col (by omega) ra h.cl.1) rfl λq hq _=>?_;obtain ⟨out,e,rfl,hq⟩:=hq;obtain ⟨rfl,_⟩:=nd_group na ba hk hc1 hc2 hc3 hc4 hc5 hq;refine Al ?_;exact fin out _ (by refine Aw ?_;rfl) Di Aj (by simp only[NodeR,n1,n2,n3,n4,n5,n6,n7,k8,if_true,if_false,Int.reduceEq];rw[ea];exact hq)
def rowA_ (S:List Nat) (K:Nat) (k:Int):Nat:=if inC k S.length=true then (S[k.toNat]?).getD 0 else K
def rowsN (S:List Nat) (K:Nat) (x:PN):Nat:=
 if x.kind=1 then K else if x.kind=4 then rowA_ S K x.a*rowA_ S K x.b else if x.kind=5\/x.kind=6 then rowA_ S K x.a+rowA_ S K x.b else rowA_ S K x.a
def rowsL (K:Nat):List PN->List Nat->List Nat
 | [],S=>S
 | x::r,S=>rowsL K r (S++[rowsN S K x])
theorem rowsL_app (K:Nat):∀(a b:List PN) (S:List Nat),rowsL K (a++b) S=rowsL K b (rowsL K a S)
 | [],b,S=>rfl
 | x::a,b,S=>by simp only[List.cons_append,rowsL];exact rowsL_app K a b _
theorem rowsL_len (K:Nat):∀(a:List PN) (S:List Nat),(rowsL K a S).length=S.length+a.length
 | [],S=>rfl
 | x::a,S=>by simp only[rowsL];rw[rowsL_len K a];simp;omega
theorem rowsL_pre (K:Nat):∀(a:List PN) (S:List Nat),∃T,rowsL K a S=S++T
 | [],S=>⟨[],by simp[rowsL]⟩
 | x::a,S=>by
   obtain ⟨T,hT⟩:=rowsL_pre K a (S++[rowsN S K x]);exact ⟨rowsN S K x::T,by simp only[rowsL];rw[hT];simp⟩
def rowsTo (K:Nat) (l:List PN) (i:Nat):List Nat:=rowsL K (l.take i) []
theorem rowsTo_step {K:Nat} {l:List PN} {i:Nat} (h:i<l.length):rowsTo K l (i+1)=rowsTo K l i++[rowsN (rowsTo K l i) K l[i]]:=by simp only[rowsTo];rw[List.take_succ_eq_append_getElem h,rowsL_app];rfl
theorem rowsTo_len {K:Nat} {l:List PN} {i:Nat} (h:i<=l.length):(rowsTo K l i).length=i:=by simp only[rowsTo];rw[rowsL_len];simp;omega
theorem rowsTo_mem {K:Nat} {l:List PN} {i:Nat} {n:Nat} (h:n∈rowsTo K l i):n∈rowsL K l []:=by
 have e:rowsL K l []=rowsL K (l.drop i) (rowsTo K l i):=by rw[rowsTo,<- rowsL_app,List.take_append_drop]
 obtain ⟨T,hT⟩:=rowsL_pre K (l.drop i) (rowsTo K l i);rw[e,hT];exact List.mem_append_left _ h
def Few (S:List (List It)) (R:List Nat):Prop:=S.length=R.length/\∀j (h:j<S.length) (h2:j<R.length),S[j].length<=R[j]
theorem Few.at {S:List (List It)} {R:List Nat} (h:Few S R) {k:Int} (K:Nat) (hk:inC k S.length=true):(setAt S k).length<=rowA_ R K k:=by
 have hk':inC k R.length=true:=by rw[<- h.1];exact hk
 simp only[inC,Bool.and_eq_true,decide_eq_true_eq] at hk;have h1:k.toNat<S.length:=by omega
 have h2:k.toNat<R.length:=by rw[<- h.1];exact h1
 rw[setAt_eq h1,rowA_,if_pos hk',List.getElem?_eq_getElem h2];exact h.2 _ h1 h2
theorem minR_len {a b out:List It} {err:Int} (h:MinR a b out err):out.length<=a.length+b.length:=by
 rcases h with ⟨_,rfl,_⟩|⟨_,_,h⟩
 ·simp
 ·have:=(makeR_rows h).1;simpa using this
theorem groupR_len {z out:List It} {cols:List Int} {kind col err:Int} (h:GroupR z cols kind col out err):out.length<=z.length:=by
 rcases h with ⟨_,rfl,_⟩|⟨_,gs,_,hl,(⟨_,rfl,_⟩|⟨_,h⟩)⟩
 ·simp
 ·simp
 ·have:=(makeR_rows h).1;rw[List.length_map] at this;omega
theorem node_rows {F:List (List Int)} {D:List Nd} {x:PN} {S tabs:List (List It)} {out:List It} {K:Nat} {R:List Nat} (hl:lookE F D x=0) (ht:TabsE F tabs) (hK:∀z∈tabs,z.length<=K) (hS:S.length=D.length) (hR:Few S R) (h:NodeR x S tabs out):out.length<=rowsN R K x:=by
 have at_:∀{k:Int},inC k D.length=true->(setAt S k).length<=rowA_ R K k:=λ{k} hk=>hR.at K (by rw[hS];exact hk);simp only[lookE] at hl;simp only[rowsN];simp only[NodeR] at h;by_cases k1:x.kind=1
 ·simp only[k1,if_true] at hl h ⊢;have hi:=scanE_ok hl;simp only[inC,Bool.and_eq_true,decide_eq_true_eq] at hi;have h2:x.table.toNat<tabs.length:=by rw[ht.1];omega
  rw[h,setAt_eq h2];exact hK _ (List.getElem_mem h2)
 simp only[k1,if_false] at hl h ⊢;by_cases k2:x.kind=2
 ·simp only[k2,if_true] at hl h ⊢;have:=at_ (filtE_ok hl);rw[h];have h1:=List.length_filter_le (λt=>holdsP x.pred t.row) (setAt S x.a);simp only[show ¬((2:Int)=4) by decide,show ¬((2:Int)=5\/(2:Int)=6) by decide,if_false];omega
 simp only[k2,if_false] at hl h ⊢;by_cases k3:x.kind=3
 ·simp only[k3,if_true] at hl h ⊢;have:=at_ (projE_ok hl).1;have h1:=(projX_rows h).1;simp only[show ¬((3:Int)=4) by decide,show ¬((3:Int)=5\/(3:Int)=6) by decide,if_false];omega
 simp only[k3,if_false] at hl h ⊢;by_cases k4:x.kind=4
 ·simp only[k4,if_true] at hl h ⊢;obtain ⟨ha,hb,_⟩:=joinE_ok hl;exact Nat.le_trans (joinR_rows h).1 (Nat.mul_le_mul (at_ ha) (at_ hb))
 simp only[k4,if_false] at hl h ⊢;by_cases k5:x.kind=5\/x.kind=6
 ·simp only[k5,if_true] at hl ⊢;obtain ⟨ha,hb,_⟩:=bothE_ok hl;have h1:=at_ ha;have h2:=at_ hb;rcases k5 with k5|k6
  ·simp only[k5,if_true] at h;have:=(addR_rows h).1;omega
  ·simp only[k6,if_true,show ¬((6:Int)=5) by decide,if_false] at h;have:=minR_len h;omega
 simp only[k5,if_false] at hl ⊢;have k5':¬x.kind=5:=λe=>k5 (.inl e);have k6':¬x.kind=6:=λe=>k5 (.inr e);simp only[k5',k6',if_false] at h;by_cases k7:x.kind=7
 ·simp only[k7,if_true] at hl h ⊢;have:=at_ (distE_ok hl);rw[h];have:=distL_len (setAt S x.a);omega
 simp only[k7,if_false] at hl h ⊢;split at hl
 ·have:=at_ (grpE_ok hl).1;have:=groupR_len h;omega
 ·cases hl
structure Ran (F:List (List Int)) (l:List PN) (tabs:List (List It)) (i:Nat) (S:List (List It)):Prop where
 len:S.length=i
 nodes:∀j (h:j<l.length) (h2:j<S.length),NodeR l[j] (S.take j) tabs S[j]
 sets:Sets S (ndsTo F l i)
theorem Ran.start (F:List (List Int)) (l:List PN) (tabs:List (List It)):Ran F l tabs 0 []:=⟨rfl,by simp,⟨by simp[ndsTo,planN,planD],by simp,by simp[ndsTo,planN,planD]⟩⟩
theorem Ran.step {F:List (List Int)} {l:List PN} {tabs S:List (List It)} {i:Nat} (hF:formsE F=0) (hp:(planD F l []).1=0) (ht:TabsE F tabs) (h:Ran F l tabs i S) (hi:i<l.length) {out:List It} (hn:NodeR l[i] S tabs out):Ran F l tabs (i+1) (S++[out]):=by
 obtain ⟨h1,h2⟩:=planD_step hp hi;have hb:=ndsTo_bd hF hp i (by omega);have hin:=node_in hF h1 ht h.sets hn;refine ⟨by simp[h.len],λj hj hj2=>?_,⟨by rw[h2];simp[h.sets.len],λj hj hj2=>?_,λn hn'=>?_⟩⟩
 ·by_cases e:j<S.length
  ·rw[List.getElem_append_left e,List.take_append_of_le_length (by omega)];exact h.nodes j hj e
  ·have e2:j=i:=by simp[h.len] at hj2 e;omega
   subst e2;rw[List.getElem_append_right (by omega)];rw[List.take_append_of_le_length (by rw[h.len];omega),List.take_of_length_le (by rw[h.len];omega)];simpa using hn
 ·simp only[h2];by_cases e:j<S.length
  ·rw[List.getElem_append_left e,List.getElem_append_left (by rw[<- h.sets.len];exact e)];exact h.sets.nds j e _
  ·have e2:j=S.length:=by simp at hj;omega
   subst e2;rw[List.getElem_append_right (by omega),List.getElem_append_right (by rw[h.sets.len];omega)];simpa [h.sets.len] using hin
 ·rw[h2,List.mem_append,List.mem_singleton] at hn';rcases hn' with hn'|rfl
  ·exact hb n hn'
  ·exact node_bd hF h1 hb
structure EvSz (F:List (List Int)) (l:List PN) (tabs:List (List It)) (K:Nat):Prop where
 pl:PlSz F l
 rows:∀z∈tabs,z.length<=K/\∀t∈z,t.row.length<4611686018427387904
 big:K<4611686018427387904
 many:tabs.length<4611686018427387904
 few:∀n∈rowsL K l [],n<=25000000
def EvalRes (F:List (List Int)) (l:List PN) (tabs:List (List It)) (out:List It) (e:Int):Prop:=
 (planE F l≠0/\out=[]/\e=planE F l)\/(planE F l=0/\tabs.length≠F.length/\out=[]/\e=2)\/(planE F l=0/\tabs.length=F.length/\¬TabsE F tabs/\out=[]/\e=1) \/
 (planE F l=0/\TabsE F tabs/\e=0/\∃S,Ran F l tabs l.length S/\out=setAt S (l.length-1))
theorem formsE_one {F:List (List Int)} (h:formsE F=0) {f:List Int} (hf:f∈F):formsE [f]=0:=by
 obtain ⟨h1,h2,h3⟩:=formsE_len h f hf;have e1:badC f=false:=by rw[badC,decide_eq_false (by omega),decide_eq_false (by omega)];rfl
 have e2:f.any badT=false:=by rw[List.any_eq_false];intro c hc;have:=h3 c hc;simp[badT];omega
 rw[formsE,if_neg (by simp[e1]),if_neg (by simp[e2])]
theorem tabErr_eq {F:List (List Int)} (h:formsE F=0) {f:List Int} (hf:f∈F) (z:List It):(tabE f z->tabErr f z=0)/\(¬tabE f z->tabErr f z=1):=by
 have h1:=formsE_one h hf;have h2:¬formsE [f]≠0:=by simp[h1]
 exact ⟨λg=>by rw[tabErr,if_neg h2,if_pos g],λg=>by rw[tabErr,if_neg h2,if_neg g]⟩
theorem doO_snoc {st:St} {m:List (Nat×Option Nat)} {S S':List (List It)} {z:List It} (h:S'=S++[z]):Es st m (List.map (λz=>[setA z]) S++[[setA z]]) (List.map (λz=>[setA z]) S'):=by subst h;rw[List.map_append];exact .same (doO (S++[z])) _ _ (λx hx=>doO_leafy (S++[z]) x (by rw[doO,List.map_append];exact hx)) rfl
theorem planE_ok {F:List (List Int)} {l:List PN} (h:planE F l=0):formsE F=0/\1<=l.length/\l.length<=12/\(planD F l []).1=0:=by
 rw[planE] at h;split at h
 ·rename_i h1;exact absurd h h1
 split at h
 ·cases h
 rename_i h1 h2;exact ⟨by simpa using h1,by omega,by omega,h⟩
@[go_sem] theorem cells_setA {z:List It} {K:List AV->Prop}:cellsOf (setA z) K=K [setA z]:=rfl
theorem d26 (F:List (List Int)) (l:List PN) (tabs:List (List It)) (K:Nat) (h:EvSz F l tabs K) :
 Spec0 Tryz.prog 26 [plA l,formsA F,setsA tabs] (λr=>∃out e,r=.tu [setA out,iA e]/\EvalRes F l tabs out e):=by
 refine spec0_of_vc tabOk elems ord26 Tryz.func26 rfl (rl:=[.tmp 6,.tmp 7]) rfl (by kernel_rfl) rfl ?_;refine Bf ?_;refine .pure _ (show Spec0 Tryz.prog 52 [plA l,formsA F] _ from d52 F l h.pl) rfl λq hq _=>?_;obtain ⟨t,rfl,ht,ht2⟩:=hq;refine Ab ?_;refine VIF.split (λh1=>?_) (λh1=>?_)
 ·have h1:planE F l≠0:=(by simpa using h1);refine Aw ?_;refine TO [] [(6,setA []),(7,iA (planE F l))] [] [] rfl ?_ ?_
  ·refine Al ?_;exact ⟨id,rfl⟩
  refine Al ?_;exact ⟨rfl,[],_,rfl,.inl ⟨h1,rfl,rfl⟩⟩
 have h1:planE F l=0:=by simpa using h1
 obtain ⟨hF,hl1,hl2,hp⟩:=planE_ok h1;refine Aa ?_;refine VIF.split (λh2=>?_) (λh2=>?_)
 ·have h2:tabs.length≠F.length:=by simp at h2;omega
  refine Aw ?_;refine TO [] [(6,setA []),(7,iA 2)] [] [] rfl ?_ ?_
  ·refine Al ?_;exact ⟨id,rfl⟩
  refine Al ?_;exact ⟨rfl,[],_,rfl,.inr (.inl ⟨h1,h2,rfl,rfl⟩)⟩
 have h2:tabs.length=F.length:=by simp at h2;omega
 refine Aa ?_;refine LOOP.mk (ι:={i:Nat//i<=tabs.length/\∀j (h:j<F.length) (h2:j<tabs.length),j<i->tabE F[j] tabs[j]}) (λp=>mkS [(0,plA l),(1,formsA F),(2,setsA tabs),(34,setsA tabs),(35,iA tabs.length),(36,iA p.1)] [] []) (λp=>tabs.length-p.1) ⟨0,Nat.zero_le _,λj _ _ h=>absurd h (Nat.not_lt_zero _)⟩ [] rfl rfl ?_ (λp=>?_)
 ·refine A0 ?_;exact ⟨id,rfl⟩
 obtain ⟨i,hi,hg⟩:=p;refine A0 ?_;refine VIF.split (λh3=>?_) (λh3=>?_)
 ·have h3:i<tabs.length:=(by simpa using h3);have h3':i<F.length:=(by omega);have w1:=wrap_add1 (show i<4611686018427387904 by have:=h.many;omega);have hr:=h.rows _ (List.getElem_mem h3);have hte:=tabErr_eq hF (List.getElem_mem h3') tabs[i];refine Aa ?_;refine EL.map h3 ?_;refine Ab ?_;refine EL.map h3' ?_;refine Bp ?_;refine .pure _ (show Spec0 Tryz.prog 27 [.ag [intsL F[i]],setA tabs[i]] _ from d27 F[i] tabs[i] (h.pl.ff _ (List.getElem_mem h3')) (by have:=h.big;omega) hr.2) rfl λq hq _=>?_;subst hq;refine Ab ?_;refine VIF.split (λh4=>?_) (λh4=>?_)
  ·have h4:tabErr F[i] tabs[i]≠0:=(by simpa using h4);have hn:¬tabE F[i] tabs[i]:=λg=>h4 (hte.1 g);refine Aw ?_;refine TO [] [(6,setA []),(7,iA (tabErr F[i] tabs[i]))] [] [] rfl ?_ ?_
   ·refine Al ?_;exact ⟨id,rfl⟩
   refine Al ?_;exact ⟨rfl,[],_,rfl,.inr (.inr (.inl ⟨h1,h2,λg=>hn (g.2 i h3' h3),rfl,hte.2 hn⟩))⟩
  ·have h4:tabErr F[i] tabs[i]=0:=(by simpa using h4);have hy:tabE F[i] tabs[i]:=Classical.byContradiction λg=>by have:=hte.2 g;omega
   refine Ak ?_;refine BACK.mk ⟨i+1,by omega,λj q1 q2 hji=>if e:j=i then (by subst e;exact hy) else hg j q1 q2 (by omega)⟩ [] rfl rfl (by show tabs.length-(i+1)<tabs.length-i;omega) ?_;refine Bb ?_;exact ⟨id,by simp[intsL,setA,iA]⟩
 have h3:i=tabs.length:=by simp at h3;omega
 have hT:TabsE F tabs:=⟨h2,λj q1 q2=>hg j q1 q2 (by omega)⟩;have hK:∀z∈tabs,z.length<=K:=λz hz=>(h.rows z hz).1;refine Cg ?_
 refine LOOP.mk (ι:={p:Nat×List (List It)//p.1<=l.length/\Ran F l tabs p.1 p.2/\Few p.2 (rowsTo K l p.1)}) (λp=>mkS [(0,plA l),(2,setsA tabs),(13,.rf 1000 0 p.1.2.length),(51,plA l),(52,iA l.length),(53,iA p.1.1)] [(1000,doO p.1.2)] [1000]) (λp=>l.length-p.1.1)
  ⟨(0,[]),Nat.zero_le _,Ran.start F l tabs,⟨by simp[rowsTo,rowsL],by simp⟩⟩ [(1000,none)] rfl rfl ?_ (λp=>?_)
 ·refine Eb ?_;exact ⟨id,rfl,rfl⟩
 obtain ⟨⟨i,S⟩,hi,hR,hFew⟩:=p;simp only at hi hR hFew;refine Eb ?_;refine VIF.split (λh4=>?_) (λh4=>?_)
 ·have h4:i<l.length:=(by simpa using h4);have hm:=List.getElem_mem h4;have w1:=wrap_add1 (show i<4611686018427387904 by omega);obtain ⟨g1,g2⟩:=planD_step hp h4;have hro:∀n∈rowsTo K l (i+1),n<=25000000:=λn hn=>h.few n (rowsTo_mem hn);have hlen:=rowsTo_len (K:=K) (l:=l) (i:=i) (by omega);have hstep:=rowsTo_step (K:=K) h4;have hrows:∀z∈S,z.length<=25000000:=λz hz=>by
   obtain ⟨j,hj,rfl⟩:=List.mem_iff_getElem.1 hz;have hj2:j<(rowsTo K l i).length:=by rw[<- hFew.1];exact hj
   have h5:=hFew.2 j hj hj2;have h6:=hro ((rowsTo K l i)[j]) (by rw[hstep];exact List.mem_append_left _ (List.getElem_mem hj2));omega
  have hnode:NodeOk F (ndsTo F l i) S tabs l[i]:=⟨hF,g1,hT,hR.sets,hrows,λk4=>by
   have hl:=g1;simp only[lookE,k4,show ¬((4:Int)=1) by decide,show ¬((4:Int)=2) by decide,show ¬((4:Int)=3) by decide,if_true,if_false] at hl;obtain ⟨ha,hb,_⟩:=joinE_ok hl;rw[<- hR.sets.len] at ha hb;have h5:=Nat.mul_le_mul (hFew.at K ha) (hFew.at K hb);have h6:=hro (rowsN (rowsTo K l i) K l[i]) (by rw[hstep];simp);simp only[rowsN,k4,show ¬((4:Int)=1) by decide,if_true,if_false] at h6;omega,h.pl.cl _ hm⟩
  refine Aa ?_;refine EL.map h4 ?_;refine Bg ?_;refine .obj 1000 (doO S) _ [.ag l[i].c,.rf 0 0 S.length,setsA tabs] (d72 F (ndsTo F l i) S tabs l[i] hnode) Ff (doO_leafy S) rfl (by simp[rens,AV.ren,setsA,PN.c,iA,intsL]) λr o' hq _ _=>?_;obtain ⟨out,rfl,rfl,hn⟩:=hq;refine En ?_;refine VIF.split (λh=>absurd h (by simp)) (λ_=>?_);have hlS:=hR.len;refine Ak ?_;refine ⟨by omega,?_⟩;refine Ak ?_;refine BACK.mk ⟨(i+1,S++[out]),by simp only;omega,hR.step hF hp hT h4 hn,⟨?_,?_⟩⟩ [(1000,some 70)] rfl rfl (by show l.length-(i+1)<l.length-i;omega) ?_
  ·simp[hstep,hFew.1]
  ·intro j q1 q2;simp only at q1 q2 ⊢;simp only[hstep];by_cases e:j<S.length
   ·rw[List.getElem_append_left e,List.getElem_append_left (by rw[<- hFew.1];exact e)];exact hFew.2 j e _
   ·have e2:j=S.length:=by simp at q1;omega
    subst e2;rw[List.getElem_append_right (by omega),List.getElem_append_right (by rw[hFew.1];omega)];simpa [hFew.1] using node_rows g1 hT hK hR.sets.len hFew hn
  refine Fl ?_;refine ⟨id,by simp,?_⟩;try rw[List.take_of_length_le (l:=List.map (λz=>[setA z]) S) (by simp)]
  exact doO_snoc rfl
 ·have h4:i=l.length:=by simp at h4;omega
  subst h4;have w2:IntKind.i64.wrap ((l.length:Int)-1)=((l.length-1:Nat):Int):=by rw[wrap_i64]<;>omega
  have hlS:=hR.len;refine Gy ?_;refine ⟨by omega,EL.map (show l.length-1<S.length by omega) ?_⟩;refine Al ?_;have e:setAt S ((l.length:Int)-1)=S[l.length-1]'(by omega):=by rw[setAt_eq (by omega)];congr 1;omega
  exact ⟨rfl,S[l.length-1]'(by omega),0,rfl,.inr (.inr (.inr ⟨h1,hT,rfl,S,hR,e.symm⟩))⟩
theorem typeOk_inB (t:Int):inB t 2 4=typeOk t:=by
 simp only[inB,typeOk];by_cases h:2<=t/\t<=4
 ·have:t=2\/t=3\/t=4:=(by omega);rcases this with rfl|rfl|rfl<;>decide
 ·have h1:t≠2:=(by omega);have h2:t≠3:=(by omega);have h3:t≠4:=(by omega);simp[h1,h2,h3];omega
theorem badT_type (t:Int):typeOk t=!badT t:=by rw[<- typeOk_inB];simp only[inB,badT];by_cases h1:t<2<;>by_cases h2:4<t<;>simp[h1,h2]<;>omega
theorem p135 (t:Int):Spec0 Tryz.prog 135 [iA t] (·=bA (typeOk t)):=by refine spec0_of_vc tabOk elems ord135 Tryz.func135 rfl (rl:=[.tmp 2]) rfl (by kernel_rfl) rfl ?_;refine Ab ?_;refine .pure _ (show Spec0 Tryz.prog 134 [iA t,iA 2,iA 4] _ from s64 t 2 4) rfl λq hq _=>?_;subst hq;refine Ad ?_;rw[typeOk_inB]
theorem p104 (v:V) (t:Int):Spec0 Tryz.prog 104 [.ag v.c,iA t] (·=bA (fitsV v t)):=by
 refine spec0_of_vc tabOk elems ord104 Tryz.func104 rfl (rl:=[.tmp 4]) rfl (by kernel_rfl) rfl ?_;refine Bi ?_;refine .pure _ (show Spec0 Tryz.prog 135 [iA t] _ from p135 t) rfl λq hq _=>?_;subst hq;refine Ad ?_;refine VIF.split (λh1=>?_) (λh1=>?_)
 ·refine Ao ?_;refine .pure _ (show Spec0 Tryz.prog 86 [.ag v.c] _ from s49 v) rfl λq hq _=>?_;subst hq;refine Ad ?_;refine VIF.split (λh2=>?_) (λh2=>?_)
  ·refine Bi ?_;refine VIF.split (λh3=>?_) (λh3=>?_)
   ·have h3:v.k=t:=(by simpa using h3);refine Aa ?_;simp[fitsV,h1,h2,h3,bA]
   ·have h3:v.k≠t:=(by simpa using h3);refine Aa ?_;simp[fitsV,h1,h2,h3,bA]
  ·have h2:okV v=false:=(by simpa using h2);refine Aa ?_;simp[fitsV,h2,bA]
 ·have h1:typeOk t=false:=(by simpa using h1);refine Aa ?_;simp[fitsV,h1,bA]
theorem p79 (v:V):Spec0 Tryz.prog 79 [.ag v.c] (·=bA (smallV v)):=by
 refine spec0_of_vc tabOk elems ord79 Tryz.func79 rfl (rl:=[.tmp 2]) rfl (by kernel_rfl) rfl ?_;refine Ao ?_;refine .pure _ (show Spec0 Tryz.prog 86 [.ag v.c] _ from s49 v) rfl λq hq _=>?_;subst hq;refine Ad ?_;refine VIF.split (λh2=>?_) (λh2=>?_)
 ·refine Bi ?_;refine VIF.split (λh3=>?_) (λh3=>?_)
  ·have h3:v.k≠3:=(by simpa using h3);refine Aa ?_;simp[smallV,h2,h3,bA]
  ·have h3:v.k=3:=(by simpa using h3);refine Aa ?_;refine .pure _ (show Spec0 Tryz.prog 134 [iA v.i,iA (-2147483648),iA 2147483648] _ from s64 v.i (-2147483648) 2147483648) rfl λq hq _=>?_;subst hq;refine Ad ?_;simp[smallV,h2,h3,bA]
 ·have h2:okV v=false:=(by simpa using h2);refine Aa ?_;simp[smallV,h2,bA]
theorem p78 (r:List V) (ts:List Int) (hr:r.length<4611686018427387904):Spec0 Tryz.prog 78 [rowA r,intsL ts] (·=bA (fitR r ts)):=by
 refine spec0_of_vc tabOk elems ord78 Tryz.func78 rfl (rl:=[.tmp 4]) rfl (by kernel_rfl) rfl ?_;refine Ck ?_;refine VIF.split (λh=>?_) (λh=>?_)
 ·have h:r.length≠ts.length:=by simp at h;omega
  refine Aa ?_;have:fitR r ts=false:=by
   cases e:fitR r ts with
   | false=>rfl
   | true=>exact absurd (fitR_len e) h
  rw[this];rfl
 have h:r.length=ts.length:=by simp at h;omega
 refine Aa ?_;refine LOOP.mk (ι:={i:Nat//i<=r.length/\∀j (h1:j<r.length) (h2:j<ts.length),j<i->fitsV r[j] ts[j]=true}) (λp=>mkS [(0,rowA r),(1,intsL ts),(5,iA p.1)] [] []) (λp=>r.length-p.1) ⟨0,Nat.zero_le _,λj _ _ h=>absurd h (Nat.not_lt_zero _)⟩ [] rfl rfl ?_ (λp=>?_)
 ·refine Bn ?_;exact ⟨id,rfl⟩
 obtain ⟨i,hi,hg⟩:=p;refine Bn ?_;refine VIF.split (λh1=>?_) (λh1=>?_)
 ·have h1:i<r.length:=(by simpa using h1);have h2:i<ts.length:=(by omega);have w1:=wrap_add1 (show i<4611686018427387904 by omega);refine Aa ?_;refine EL.map h1 ?_;refine Bi ?_;refine EL.map h2 ?_;refine Bi ?_;refine .pure _ (show Spec0 Tryz.prog 104 [.ag r[i].c,iA ts[i]] _ from p104 r[i] ts[i]) rfl λq hq _=>?_;subst hq;refine Ad ?_;refine VIF.split (λh3=>?_) (λh3=>?_)
  ·have h3:fitsV r[i] ts[i]=false:=(by simpa using h3);refine Aa ?_;have:fitR r ts=false:=by
    cases e:fitR r ts with
    | false=>rfl
    | true=>rw[fitR_at e i h1 h2] at h3;cases h3
   rw[this];rfl
  ·have h3:fitsV r[i] ts[i]=true:=(by simpa using h3);refine Ak ?_;refine BACK.mk ⟨i+1,by omega,λj q1 q2 hji=>if e:j=i then (by subst e;exact h3) else hg j q1 q2 (by omega)⟩ [] rfl rfl (by show r.length-(i+1)<r.length-i;omega) ?_;refine Ea ?_;exact id
 ·have h1:i=r.length:=by simp at h1;omega
  refine Aa ?_;rw[fitR_of h λj q1 q2=>hg j q1 q2 (by omega)];rfl
theorem p64 (a b:List Int) (ha:a.length<4611686018427387904):Spec0 Tryz.prog 64 [intsL a,intsL b] (·=bA (decide (a=b))):=by
 refine spec0_of_vc tabOk elems ord64 Tryz.func64 rfl (rl:=[.tmp 4]) rfl (by kernel_rfl) rfl ?_;refine A5 ?_;refine VIF.split (λh=>?_) (λh=>?_)
 ·have h:a.length≠b.length:=by simp at h;omega
  refine Aa ?_;have:a≠b:=λe=>h (by rw[e]);simp[this,bA]
 have h:a.length=b.length:=by simp at h;omega
 refine Aa ?_;refine LOOP.mk (ι:={i:Nat//i<=a.length/\∀j (h1:j<a.length) (h2:j<b.length),j<i->a[j]=b[j]}) (λp=>mkS [(0,intsL a),(1,intsL b),(5,iA p.1)] [] []) (λp=>a.length-p.1) ⟨0,Nat.zero_le _,λj _ _ h=>absurd h (Nat.not_lt_zero _)⟩ [] rfl rfl ?_ (λp=>?_)
 ·refine Au ?_;exact ⟨id,rfl⟩
 obtain ⟨i,hi,hg⟩:=p;refine Au ?_;refine VIF.split (λh1=>?_) (λh1=>?_)
 ·have h1:i<a.length:=(by simpa using h1);have h2:i<b.length:=(by omega);have w1:=wrap_add1 (show i<4611686018427387904 by omega);refine Aa ?_;refine EL.map h1 ?_;refine Ab ?_;refine EL.map h2 ?_;refine Ab ?_;refine VIF.split (λh3=>?_) (λh3=>?_)
  ·have h3:a[i]≠b[i]:=(by simpa using h3);refine Aa ?_;have:a≠b:=λe=>h3 (by subst e;rfl);simp[this,bA]
  ·have h3:a[i]=b[i]:=(by simpa using h3);refine Ak ?_;refine BACK.mk ⟨i+1,by omega,λj q1 q2 hji=>if e:j=i then (by subst e;exact h3) else hg j q1 q2 (by omega)⟩ [] rfl rfl (by show a.length-(i+1)<a.length-i;omega) ?_;refine Dq ?_;exact id
 ·have h1:i=a.length:=by simp at h1;omega
  have e:a=b:=List.ext_getElem h λj q1 q2=>hg j q1 q2 (by omega);refine Aa ?_;simp[e,bA]
theorem outC_inB (n:Nat) (c:Int):inB c 0 ((n:Int)-1)=!outC n c:=by simp only[inB,outC];by_cases h1:c<0<;>by_cases h2:(n:Int)<=c<;>simp[h1,h2]<;>omega
theorem p77 (F:List (List Int)) (hF:F.length<1073741824) (hl:∀l∈F,l.length<1073741824):Spec0 Tryz.prog 77 [formsA F] (·=iA (formsE F)):=by
 refine spec0_of_vc tabOk elems ord77 Tryz.func77 rfl (rl:=[.tmp 2]) rfl (by kernel_rfl) rfl ?_;refine Bc ?_;refine .pure _ (show Spec0 Tryz.prog 134 [iA F.length,iA 1,iA 3] _ from s64 F.length 1 3) rfl λq hq _=>?_;subst hq;refine Ad ?_;have bad:(F.length<1\/3<F.length\/F.any badC=true)->formsE F=2:=λh=>by rw[formsE,if_pos h]
 refine VIF.split (λh1=>?_) (λh1=>?_)
 ·have h1:F.length<1\/3<F.length:=by simp[inB] at h1;omega
  refine Aa ?_;rw[bad (by omega)];rfl
 have h1:¬F.length<1/\¬3<F.length:=by simp[inB] at h1;omega
 refine Aa ?_;refine LOOP.mk (ι:={i:Nat//i<=F.length/\∀j (h:j<F.length),j<i->badC F[j]=false}) (λp=>mkS [(0,formsA F),(3,iA p.1)] [] []) (λp=>F.length-p.1) ⟨0,Nat.zero_le _,λj _ h=>absurd h (Nat.not_lt_zero _)⟩ [] rfl rfl ?_ (λp=>?_)
 ·refine Bc ?_;exact ⟨id,rfl⟩
 obtain ⟨i,hi,hg⟩:=p;refine Bc ?_;refine VIF.split (λh2=>?_) (λh2=>?_)
 ·have h2:i<F.length:=(by simpa using h2);have w1:=wrap_add1 (show i<4611686018427387904 by omega);refine Aa ?_;refine EL.map h2 ?_;refine Ab ?_;refine .pure _ (show Spec0 Tryz.prog 134 [iA F[i].length,iA 1,iA 4] _ from s64 F[i].length 1 4) rfl λq hq _=>?_;subst hq;refine Ad ?_;refine VIF.split (λh3=>?_) (λh3=>?_)
  ·have h3:badC F[i]=true:=by simp[inB] at h3;simp only[badC,Bool.or_eq_true,decide_eq_true_eq];omega
   refine Aa ?_;rw[bad (.inr (.inr (List.any_eq_true.2 ⟨_,List.getElem_mem h2,h3⟩)))];rfl
  ·have h3:badC F[i]=false:=by simp[inB] at h3;simp only[badC,Bool.or_eq_false_iff,decide_eq_false_iff_not];omega
   refine Ak ?_;refine BACK.mk ⟨i+1,by omega,λj hj hji=>if e:j=i then (by subst e;exact h3) else hg j hj (by omega)⟩ [] rfl rfl (by show F.length-(i+1)<F.length-i;omega) ?_;refine Cs ?_;exact id
 have h2:i=F.length:=by simp at h2;omega
 subst h2;have hbc:F.any badC=false:=by rw[List.any_eq_false];intro c hc;obtain ⟨j,hj,rfl⟩:=List.mem_iff_getElem.1 hc;rw[hg j hj hj];simp
 have cond:¬(F.length<1\/3<F.length\/F.any badC=true):=by
  rintro (h|h|h)
  ·exact h1.1 h
  ·exact h1.2 h
  ·rw[hbc] at h;cases h
 refine Aa ?_;refine LOOP.mk (ι:={i:Nat//i<=F.length/\∀j (h:j<F.length),j<i->F[j].any badT=false}) (λp=>mkS [(0,formsA F),(4,iA p.1)] [] []) (λp=>F.length-p.1) ⟨0,Nat.zero_le _,λj _ h=>absurd h (Nat.not_lt_zero _)⟩ [] rfl rfl ?_ (λp=>?_)
 ·refine Bc ?_;exact ⟨id,rfl⟩
 obtain ⟨i,hi,hz⟩:=p;refine Bc ?_;refine VIF.split (λh2=>?_) (λh2=>?_)
 ·have h2:i<F.length:=(by simpa using h2);have w1:=wrap_add1 (show i<4611686018427387904 by omega);refine Aa ?_;refine LOOP.mk (ι:={k:Nat//k<=F[i].length/\∀j (h:j<F[i].length),j<k->badT F[i][j]=false}) (λp=>mkS [(0,formsA F),(4,iA i),(5,iA p.1)] [] []) (λp=>F[i].length-p.1) ⟨0,Nat.zero_le _,λj _ h=>absurd h (Nat.not_lt_zero _)⟩ [] rfl rfl ?_ (λp=>?_)
  ·refine Bc ?_;exact ⟨id,rfl⟩
  obtain ⟨k,hk,hy⟩:=p;refine Bc ?_;refine EL.map h2 ?_;refine Aa ?_;refine VIF.split (λh3=>?_) (λh3=>?_)
  ·have h3:k<F[i].length:=(by simpa using h3);have hfl:=hl _ (List.getElem_mem h2);have w2:=wrap_add1 (show k<4611686018427387904 by omega);refine Aa ?_;refine EL.map h2 ?_;refine A5 ?_;refine EL.map h3 ?_;refine Ab ?_;refine .pure _ (show Spec0 Tryz.prog 135 [iA F[i][k]] _ from p135 F[i][k]) rfl λq hq _=>?_;subst hq;refine Ad ?_;refine VIF.split (λh4=>?_) (λh4=>?_)
   ·have h4:badT F[i][k]=true:=by rw[badT_type] at h4;simpa using h4
    refine Aa ?_;have:F.any (λl=>l.any badT)=true:=List.any_eq_true.2 ⟨F[i],List.getElem_mem h2,List.any_eq_true.2 ⟨_,List.getElem_mem h3,h4⟩⟩;rw[formsE,if_neg cond,if_pos this];rfl
   ·have h4:badT F[i][k]=false:=by rw[badT_type] at h4;simpa using h4
    refine Bv ?_;refine BACK.mk ⟨k+1,by omega,λj hj hji=>if e:j=k then (by subst e;exact h4) else hy j hj (by omega)⟩ [] rfl rfl (by show F[i].length-(k+1)<F[i].length-k;omega) ?_;(simp -implicitDefEqProofs only[go_sem,formsA,iA,intsL,w2];repeat (refine GO ?_;simp -implicitDefEqProofs only[go_sem,formsA,iA,intsL,w2]));exact id
  ·have h3:k=F[i].length:=by simp at h3;omega
   have hbt:F[i].any badT=false:=by rw[List.any_eq_false];intro c hc;obtain ⟨j,hj,rfl⟩:=List.mem_iff_getElem.1 hc;rw[hy j hj (by omega)];simp
   refine Ak ?_;refine BACK.mk ⟨i+1,by omega,λj hj hji=>if e:j=i then (by subst e;exact hbt) else hz j hj (by omega)⟩ [] rfl rfl (by show F.length-(i+1)<F.length-i;omega) ?_;refine Cs ?_;exact id
 ·have h2:i=F.length:=by simp at h2;omega
  subst h2;refine Aa ?_;have:F.any (λl=>l.any badT)=false:=by rw[List.any_eq_false];intro l hl2;obtain ⟨j,hj,rfl⟩:=List.mem_iff_getElem.1 hl2;simp[hz j hj hj]
  rw[formsE,if_neg cond,if_neg (by rw[this];decide)];rfl
theorem p48 (p:Pr) (t:List Int) (ht:t.length<1073741824):Spec0 Tryz.prog 48 [.ag p.c,intsL t] (·=iA (predE p t)):=by
 have w2:IntKind.i64.wrap ((t.length:Int)-1)=(t.length:Int)-1:=by rw[wrap_i64]<;>omega
 have hco:inC p.col t.length=!outC t.length p.col:=by rw[<- outC_inB];simp only[inC,inB];by_cases h1:0<=p.col<;>by_cases h2:p.col<t.length<;>simp[h1,h2]<;>omega
 have hoo:inC p.other t.length=!outC t.length p.other:=by rw[<- outC_inB];simp only[inC,inB];by_cases h1:0<=p.other<;>by_cases h2:p.other<t.length<;>simp[h1,h2]<;>omega
 have bad:(p.kind<1\/6<p.kind\/inC p.col t.length=false\/(otherP p=true/\inC p.other t.length=false)\/(givenP p=true/\okV p.val=false))->predE p t=1:=λh=>by rw[predE,if_pos h]
 have hk:p.kind=1\/p.kind=2\/p.kind=3\/p.kind=4\/p.kind=5\/p.kind=6\/(p.kind<1\/6<p.kind):=by omega
 refine spec0_of_vc tabOk elems ord48 Tryz.func48 rfl (rl:=[.tmp 4]) rfl (by kernel_rfl) rfl ?_;refine Gl ?_;rcases hk with hk|hk|hk|hk|hk|hk|hk
 ·have hin:inB p.kind 1 6=true:=by rw[hk];decide
  have hg:givenP p=true:=(by simp[givenP,hk]);have ho:otherP p=false:=(by simp[otherP,hk]);refine Ap ?_;refine .pure _ (show Spec0 Tryz.prog 102 [iA p.kind,iA 1,iA 6] _ from s53 p.kind 1 6) rfl λq hq _=>?_;subst hq;rw[hin];refine Ad ?_;refine Ap ?_;try (simp -implicitDefEqProofs only[go_sem,w2];repeat (refine GO ?_;simp -implicitDefEqProofs only[go_sem,w2]))
  refine .pure _ (show Spec0 Tryz.prog 102 [iA p.col,iA 0,iA ((t.length:Int)-1)] _ from s53 p.col 0 ((t.length:Int)-1)) rfl λq hq _=>?_;subst hq;rw[outC_inB,<- hco];refine Ad ?_;refine VIF.split (λh1=>?_) (λh1=>?_)
  ·have h1:inC p.col t.length=false:=(by simpa using h1);refine Aa ?_;refine Ap ?_;rw[bad (.inr (.inr (.inl h1)))];rfl
  have h1:inC p.col t.length=true:=(by simpa using h1);have hc:0<=p.col/\p.col.toNat<t.length:=by simp[inC] at h1;omega
  have hgc:getI t p.col=t[p.col.toNat]'hc.2:=(by simp[getI,hc.2]);refine Cr ?_;refine Ap ?_;try (simp -implicitDefEqProofs only[go_sem,V.c];repeat (refine GO ?_;simp -implicitDefEqProofs only[go_sem,V.c]))
  refine .pure _ (show Spec0 Tryz.prog 86 [.ag p.val.c] _ from s49 p.val) rfl λq hq _=>?_;subst hq;refine Ad ?_;refine VIF.split (λh2=>?_) (λh2=>?_)
  ·have h2:okV p.val=false:=(by simpa using h2);refine Aa ?_;refine Ap ?_;rw[bad (.inr (.inr (.inr (.inr ⟨hg,h2⟩))))];rfl
  have h2:okV p.val=true:=(by simpa using h2);have cond:¬(p.kind<1\/6<p.kind\/inC p.col t.length=false\/(otherP p=true/\inC p.other t.length=false)\/(givenP p=true/\okV p.val=false)):=by rw[h1,h2,ho];simp;omega
  refine Fu ?_;refine Ap ?_;try (simp -implicitDefEqProofs only[go_sem,intsL,iA];repeat (refine GO ?_;simp -implicitDefEqProofs only[go_sem,intsL,iA]))
  refine ⟨hc.1,EL.map hc.2 ?_⟩;refine Bi ?_;refine .pure _ (show Spec0 Tryz.prog 104 [.ag p.val.c,iA (t[p.col.toNat]'hc.2)] _ from p104 p.val (t[p.col.toNat]'hc.2)) rfl λq hq _=>?_;subst hq;refine Ad ?_;refine VIF.split (λh8=>?_) (λh8=>?_)
  ·have h8:fitsV p.val (getI t p.col)=false:=by rw[hgc];simpa using h8
   refine Aa ?_;refine Ap ?_;rw[predE,if_neg cond,if_pos (.inl ⟨hg,h8⟩)];rfl
  ·have h8:fitsV p.val (getI t p.col)=true:=by rw[hgc];simpa using h8
   refine Aa ?_;refine Ap ?_;rw[predE,if_neg cond,if_neg (by simp[ho,h8])];rfl
 ·have hin:inB p.kind 1 6=true:=by rw[hk];decide
  have hg:givenP p=true:=(by simp[givenP,hk]);have ho:otherP p=false:=(by simp[otherP,hk]);refine Ap ?_;refine .pure _ (show Spec0 Tryz.prog 102 [iA p.kind,iA 1,iA 6] _ from s53 p.kind 1 6) rfl λq hq _=>?_;subst hq;rw[hin];refine Ad ?_;refine Ap ?_;try (simp -implicitDefEqProofs only[go_sem,w2];repeat (refine GO ?_;simp -implicitDefEqProofs only[go_sem,w2]))
  refine .pure _ (show Spec0 Tryz.prog 102 [iA p.col,iA 0,iA ((t.length:Int)-1)] _ from s53 p.col 0 ((t.length:Int)-1)) rfl λq hq _=>?_;subst hq;rw[outC_inB,<- hco];refine Ad ?_;refine VIF.split (λh1=>?_) (λh1=>?_)
  ·have h1:inC p.col t.length=false:=(by simpa using h1);refine Aa ?_;refine Ap ?_;rw[bad (.inr (.inr (.inl h1)))];rfl
  have h1:inC p.col t.length=true:=(by simpa using h1);have hc:0<=p.col/\p.col.toNat<t.length:=by simp[inC] at h1;omega
  have hgc:getI t p.col=t[p.col.toNat]'hc.2:=(by simp[getI,hc.2]);refine Cr ?_;refine Ap ?_;try (simp -implicitDefEqProofs only[go_sem,V.c];repeat (refine GO ?_;simp -implicitDefEqProofs only[go_sem,V.c]))
  refine .pure _ (show Spec0 Tryz.prog 86 [.ag p.val.c] _ from s49 p.val) rfl λq hq _=>?_;subst hq;refine Ad ?_;refine VIF.split (λh2=>?_) (λh2=>?_)
  ·have h2:okV p.val=false:=(by simpa using h2);refine Aa ?_;refine Ap ?_;rw[bad (.inr (.inr (.inr (.inr ⟨hg,h2⟩))))];rfl
  have h2:okV p.val=true:=(by simpa using h2);have cond:¬(p.kind<1\/6<p.kind\/inC p.col t.length=false\/(otherP p=true/\inC p.other t.length=false)\/(givenP p=true/\okV p.val=false)):=by rw[h1,h2,ho];simp;omega
  refine Fu ?_;refine Ap ?_;try (simp -implicitDefEqProofs only[go_sem,intsL,iA];repeat (refine GO ?_;simp -implicitDefEqProofs only[go_sem,intsL,iA]))
  refine ⟨hc.1,EL.map hc.2 ?_⟩;refine Bi ?_;refine .pure _ (show Spec0 Tryz.prog 104 [.ag p.val.c,iA (t[p.col.toNat]'hc.2)] _ from p104 p.val (t[p.col.toNat]'hc.2)) rfl λq hq _=>?_;subst hq;refine Ad ?_;refine VIF.split (λh8=>?_) (λh8=>?_)
  ·have h8:fitsV p.val (getI t p.col)=false:=by rw[hgc];simpa using h8
   refine Aa ?_;refine Ap ?_;rw[predE,if_neg cond,if_pos (.inl ⟨hg,h8⟩)];rfl
  ·have h8:fitsV p.val (getI t p.col)=true:=by rw[hgc];simpa using h8
   refine Aa ?_;refine Ap ?_;rw[predE,if_neg cond,if_neg (by simp[ho,h8])];rfl
 ·have hin:inB p.kind 1 6=true:=by rw[hk];decide
  have hg:givenP p=false:=(by simp[givenP,hk]);have ho:otherP p=true:=(by simp[otherP,hk]);refine Ap ?_;refine .pure _ (show Spec0 Tryz.prog 102 [iA p.kind,iA 1,iA 6] _ from s53 p.kind 1 6) rfl λq hq _=>?_;subst hq;rw[hin];refine Ad ?_;refine Ap ?_;try (simp -implicitDefEqProofs only[go_sem,w2];repeat (refine GO ?_;simp -implicitDefEqProofs only[go_sem,w2]))
  refine .pure _ (show Spec0 Tryz.prog 102 [iA p.col,iA 0,iA ((t.length:Int)-1)] _ from s53 p.col 0 ((t.length:Int)-1)) rfl λq hq _=>?_;subst hq;rw[outC_inB,<- hco];refine Ad ?_;refine VIF.split (λh1=>?_) (λh1=>?_)
  ·have h1:inC p.col t.length=false:=(by simpa using h1);refine Aa ?_;refine Ap ?_;rw[bad (.inr (.inr (.inl h1)))];rfl
  have h1:inC p.col t.length=true:=(by simpa using h1);have hc:0<=p.col/\p.col.toNat<t.length:=by simp[inC] at h1;omega
  have hgc:getI t p.col=t[p.col.toNat]'hc.2:=(by simp[getI,hc.2]);refine Cr ?_;refine Ap ?_;try (simp -implicitDefEqProofs only[go_sem,w2];repeat (refine GO ?_;simp -implicitDefEqProofs only[go_sem,w2]))
  refine .pure _ (show Spec0 Tryz.prog 102 [iA p.other,iA 0,iA ((t.length:Int)-1)] _ from s53 p.other 0 ((t.length:Int)-1)) rfl λq hq _=>?_;subst hq;rw[outC_inB,<- hoo];refine Ad ?_;refine VIF.split (λh2=>?_) (λh2=>?_)
  ·have h2:inC p.other t.length=false:=(by simpa using h2);refine Aa ?_;refine Ap ?_;rw[bad (.inr (.inr (.inr (.inl ⟨ho,h2⟩))))];rfl
  have h2:inC p.other t.length=true:=(by simpa using h2);have hd:0<=p.other/\p.other.toNat<t.length:=by simp[inC] at h2;omega
  have hgd:getI t p.other=t[p.other.toNat]'hd.2:=(by simp[getI,hd.2]);refine F7 ?_;refine Ap ?_;have cond:¬(p.kind<1\/6<p.kind\/inC p.col t.length=false\/(otherP p=true/\inC p.other t.length=false)\/(givenP p=true/\okV p.val=false)):=by rw[h1,h2,hg];simp;omega
  try (simp -implicitDefEqProofs only[go_sem,intsL,iA];repeat (refine GO ?_;simp -implicitDefEqProofs only[go_sem,intsL,iA]))
  refine ⟨hd.1,EL.map hd.2 ?_⟩;refine Au ?_;refine ⟨hc.1,EL.map hc.2 ?_⟩;refine Ab ?_;refine VIF.split (λh9=>?_) (λh9=>?_)
  ·have h9:getI t p.other≠getI t p.col:=by rw[hgd,hgc];simpa using h9
   refine Aa ?_;rw[predE,if_neg cond,if_pos (.inr ⟨ho,h9⟩)];rfl
  ·have h9:getI t p.other=getI t p.col:=by rw[hgd,hgc];simpa using h9
   refine Aa ?_;rw[predE,if_neg cond,if_neg (by simp[hg,h9])];rfl
 ·have hin:inB p.kind 1 6=true:=by rw[hk];decide
  have hg:givenP p=false:=(by simp[givenP,hk]);have ho:otherP p=true:=(by simp[otherP,hk]);refine Ap ?_;refine .pure _ (show Spec0 Tryz.prog 102 [iA p.kind,iA 1,iA 6] _ from s53 p.kind 1 6) rfl λq hq _=>?_;subst hq;rw[hin];refine Ad ?_;refine Ap ?_;try (simp -implicitDefEqProofs only[go_sem,w2];repeat (refine GO ?_;simp -implicitDefEqProofs only[go_sem,w2]))
  refine .pure _ (show Spec0 Tryz.prog 102 [iA p.col,iA 0,iA ((t.length:Int)-1)] _ from s53 p.col 0 ((t.length:Int)-1)) rfl λq hq _=>?_;subst hq;rw[outC_inB,<- hco];refine Ad ?_;refine VIF.split (λh1=>?_) (λh1=>?_)
  ·have h1:inC p.col t.length=false:=(by simpa using h1);refine Aa ?_;refine Ap ?_;rw[bad (.inr (.inr (.inl h1)))];rfl
  have h1:inC p.col t.length=true:=(by simpa using h1);have hc:0<=p.col/\p.col.toNat<t.length:=by simp[inC] at h1;omega
  have hgc:getI t p.col=t[p.col.toNat]'hc.2:=(by simp[getI,hc.2]);refine Cr ?_;refine Ap ?_;try (simp -implicitDefEqProofs only[go_sem,w2];repeat (refine GO ?_;simp -implicitDefEqProofs only[go_sem,w2]))
  refine .pure _ (show Spec0 Tryz.prog 102 [iA p.other,iA 0,iA ((t.length:Int)-1)] _ from s53 p.other 0 ((t.length:Int)-1)) rfl λq hq _=>?_;subst hq;rw[outC_inB,<- hoo];refine Ad ?_;refine VIF.split (λh2=>?_) (λh2=>?_)
  ·have h2:inC p.other t.length=false:=(by simpa using h2);refine Aa ?_;refine Ap ?_;rw[bad (.inr (.inr (.inr (.inl ⟨ho,h2⟩))))];rfl
  have h2:inC p.other t.length=true:=(by simpa using h2);have hd:0<=p.other/\p.other.toNat<t.length:=by simp[inC] at h2;omega
  have hgd:getI t p.other=t[p.other.toNat]'hd.2:=(by simp[getI,hd.2]);refine F7 ?_;refine Ap ?_;have cond:¬(p.kind<1\/6<p.kind\/inC p.col t.length=false\/(otherP p=true/\inC p.other t.length=false)\/(givenP p=true/\okV p.val=false)):=by rw[h1,h2,hg];simp;omega
  try (simp -implicitDefEqProofs only[go_sem,intsL,iA];repeat (refine GO ?_;simp -implicitDefEqProofs only[go_sem,intsL,iA]))
  refine ⟨hd.1,EL.map hd.2 ?_⟩;refine Au ?_;refine ⟨hc.1,EL.map hc.2 ?_⟩;refine Ab ?_;refine VIF.split (λh9=>?_) (λh9=>?_)
  ·have h9:getI t p.other≠getI t p.col:=by rw[hgd,hgc];simpa using h9
   refine Aa ?_;rw[predE,if_neg cond,if_pos (.inr ⟨ho,h9⟩)];rfl
  ·have h9:getI t p.other=getI t p.col:=by rw[hgd,hgc];simpa using h9
   refine Aa ?_;rw[predE,if_neg cond,if_neg (by simp[hg,h9])];rfl
 ·have hin:inB p.kind 1 6=true:=by rw[hk];decide
  have hg:givenP p=false:=(by simp[givenP,hk]);have ho:otherP p=false:=(by simp[otherP,hk]);refine Ap ?_;refine .pure _ (show Spec0 Tryz.prog 102 [iA p.kind,iA 1,iA 6] _ from s53 p.kind 1 6) rfl λq hq _=>?_;subst hq;rw[hin];refine Ad ?_;refine Ap ?_;try (simp -implicitDefEqProofs only[go_sem,w2];repeat (refine GO ?_;simp -implicitDefEqProofs only[go_sem,w2]))
  refine .pure _ (show Spec0 Tryz.prog 102 [iA p.col,iA 0,iA ((t.length:Int)-1)] _ from s53 p.col 0 ((t.length:Int)-1)) rfl λq hq _=>?_;subst hq;rw[outC_inB,<- hco];refine Ad ?_;refine VIF.split (λh1=>?_) (λh1=>?_)
  ·have h1:inC p.col t.length=false:=(by simpa using h1);refine Aa ?_;refine Ap ?_;rw[bad (.inr (.inr (.inl h1)))];rfl
  have h1:inC p.col t.length=true:=(by simpa using h1);have hc:0<=p.col/\p.col.toNat<t.length:=by simp[inC] at h1;omega
  have hgc:getI t p.col=t[p.col.toNat]'hc.2:=(by simp[getI,hc.2]);refine Cr ?_;refine Ap ?_;have cond:¬(p.kind<1\/6<p.kind\/inC p.col t.length=false\/(otherP p=true/\inC p.other t.length=false)\/(givenP p=true/\okV p.val=false)):=by rw[h1,ho,hg];simp;omega
  refine Ap ?_;rw[predE,if_neg cond,if_neg (by simp[ho,hg])];rfl
 ·have hin:inB p.kind 1 6=true:=by rw[hk];decide
  have hg:givenP p=false:=(by simp[givenP,hk]);have ho:otherP p=false:=(by simp[otherP,hk]);refine Ap ?_;refine .pure _ (show Spec0 Tryz.prog 102 [iA p.kind,iA 1,iA 6] _ from s53 p.kind 1 6) rfl λq hq _=>?_;subst hq;rw[hin];refine Ad ?_;refine Ap ?_;try (simp -implicitDefEqProofs only[go_sem,w2];repeat (refine GO ?_;simp -implicitDefEqProofs only[go_sem,w2]))
  refine .pure _ (show Spec0 Tryz.prog 102 [iA p.col,iA 0,iA ((t.length:Int)-1)] _ from s53 p.col 0 ((t.length:Int)-1)) rfl λq hq _=>?_;subst hq;rw[outC_inB,<- hco];refine Ad ?_;refine VIF.split (λh1=>?_) (λh1=>?_)
  ·have h1:inC p.col t.length=false:=(by simpa using h1);refine Aa ?_;refine Ap ?_;rw[bad (.inr (.inr (.inl h1)))];rfl
  have h1:inC p.col t.length=true:=(by simpa using h1);have hc:0<=p.col/\p.col.toNat<t.length:=by simp[inC] at h1;omega
  have hgc:getI t p.col=t[p.col.toNat]'hc.2:=(by simp[getI,hc.2]);refine Cr ?_;refine Ap ?_;have cond:¬(p.kind<1\/6<p.kind\/inC p.col t.length=false\/(otherP p=true/\inC p.other t.length=false)\/(givenP p=true/\okV p.val=false)):=by rw[h1,ho,hg];simp;omega
  refine Ap ?_;rw[predE,if_neg cond,if_neg (by simp[ho,hg])];rfl
 ·have hin:inB p.kind 1 6=false:=by simp only[inB,Bool.and_eq_false_iff,decide_eq_false_iff_not];omega
  have hg:givenP p=false:=by simp[givenP];omega
  have ho:otherP p=false:=by simp[otherP];omega
  refine Ap ?_;refine .pure _ (show Spec0 Tryz.prog 102 [iA p.kind,iA 1,iA 6] _ from s53 p.kind 1 6) rfl λq hq _=>?_;subst hq;rw[hin];refine Ad ?_;refine Ap ?_;rw[bad (hk.elim .inl λh=>.inr (.inl h))];rfl
theorem p28 (f:List Int) (z:List It) (hf:f.length<1073741824) (hl:z.length<4611686018427387904) (hr:∀t∈z,t.row.length<4611686018427387904):Spec0 Tryz.prog 28 [.ag [intsL f],setA z] (·=iA (tabErr f z)):=by
 refine spec0_of_vc tabOk elems ord28 Tryz.func28 rfl (rl:=[.tmp 4]) rfl (by kernel_rfl) rfl ?_;refine A5 ?_;refine .lendR (args':=[formsA [f]]) (p77 [f] (by simp) (by simpa using hf)) ⟨lent_leafy (o:=⟨1,[[intsL f]]⟩) Bw rfl (by simp) (by simp[Ob.leafy,AV.leaf,intsL]) (λx hx=>by simp at hx;subst hx;rfl),trivial⟩ (by rintro _ rfl;rfl) λq hq=>?_;subst hq;refine Ab ?_;refine VIF.split (λh=>?_) (λh=>?_)
 ·have h:formsE [f]≠0:=(by simpa using h);refine Aa ?_;rw[tabErr,if_pos h];rfl
 have h:formsE [f]=0:=by simpa using h
 have h0:¬formsE [f]≠0:=by simp[h]
 have bad:¬tabE f z->AV.pr (.int .i64 1)=iA (tabErr f z):=λh=>by rw[tabErr,if_neg h0,if_neg h];rfl
 refine Af ?_;refine .pure _ (show Spec0 Tryz.prog 66 [setA z] _ from s30 z hl hr) rfl λq hq _=>?_;obtain ⟨e,rfl,hg⟩:=hq;refine Ad ?_;refine VIF.split (λh1=>?_) (λh1=>?_)
 ·have h1:¬e=true:=(by simpa using h1);refine Aa ?_;exact bad λt=>h1 (hg.2 t.1)
 have g1:Good z:=hg.1 (by simpa using h1);refine Af ?_;refine VIF.split (λh2=>?_) (λh2=>?_)
 ·have h2:1024<z.length:=by simp at h2;omega
  refine Aa ?_;exact bad λt=>by have:=t.2.1;omega
 have h2:z.length<=1024:=by simp at h2;omega
 refine Au ?_;refine ⟨by omega,?_⟩;refine Ab ?_;refine LOOP.mk (ι:={i:Nat//i<=z.length/\∀j (hj:j<z.length),j<i->wrongI f z[j]=false}) (λp=>mkS [(1,setA z),(6,intsL (4::f)),(7,iA p.1)] [] []) (λp=>z.length-p.1) ⟨0,Nat.zero_le _,λj _ h=>absurd h (Nat.not_lt_zero _)⟩ [] rfl rfl ?_ (λp=>?_)
 ·refine Bd ?_;exact ⟨id,⟨by simp[olds],_,rfl,io_leafy (4::f),rfl,List.take_of_length_le (by simp;omega)⟩,rfl⟩
 obtain ⟨i,hi,hz⟩:=p;refine Al ?_;refine VIF.split (λh3=>?_) (λh3=>?_)
 ·have h3:i<z.length:=(by simpa using h3);have w1:=wrap_add1 (show i<4611686018427387904 by omega);have hm:=List.getElem_mem h3;have badI:wrongI f z[i]=true->¬tabE f z:=λhw t=>by
   have:=t.2.2;rw[List.any_eq_false] at this;exact this _ hm hw
  refine Aa ?_;refine EL.map h3 ?_;refine Be ?_;refine VIF.split (λh4=>?_) (λh4=>?_)
  ·have h4:z[i].w≠1:=(by simpa using h4);refine Aa ?_;exact bad (badI (by simp[wrongI,h4]))
  have h4:z[i].w=1:=(by simpa using h4);refine Aa ?_;refine EL.map h3 ?_;refine A4 ?_;refine .pure _ (show Spec0 Tryz.prog 78 [rowA z[i].row,intsL (4::f)] _ from p78 z[i].row (4::f) (hr _ hm)) rfl λq hq _=>?_;subst hq;refine Ad ?_;refine VIF.split (λh5=>?_) (λh5=>?_)
  ·have h5:fitR z[i].row (4::f)=false:=(by simpa using h5);refine Aa ?_;exact bad (badI (by simp[wrongI,h5]))
  have h5:fitR z[i].row (4::f)=true:=(by simpa using h5);have hl5:=fitR_len h5;have h6:0<z[i].row.length:=by rw[hl5];simp
  have hg0:getV z[i].row 0=z[i].row[0]:=(by simp[getV,h6]);refine Aa ?_;refine EL.map h3 ?_;refine A4 ?_;refine ⟨by omega,EL.map h6 ?_⟩;refine Bi ?_;refine VIF.split (λh7=>?_) (λh7=>?_)
  ·have h7:(getV z[i].row 0).k≠4:=by rw[hg0];simpa using h7
   refine Aa ?_;exact bad (badI (by simp[wrongI,h7]))
  have h7:(getV z[i].row 0).k=4:=by rw[hg0];simpa using h7
  refine Aa ?_;refine LOOP.mk (ι:={k:Nat//k<=z[i].row.length/\∀j (hj:j<z[i].row.length),j<k->smallV z[i].row[j]=true}) (λp=>mkS [(1,setA z),(6,intsL (4::f)),(7,iA i),(8,iA p.1)] [] []) (λp=>z[i].row.length-p.1) ⟨0,Nat.zero_le _,λj _ h=>absurd h (Nat.not_lt_zero _)⟩ [] rfl rfl ?_ (λp=>?_)
  ·refine Al ?_;exact ⟨id,by simp[wk,intsL]⟩
  obtain ⟨k,hk,hy⟩:=p;refine Al ?_;refine EL.map h3 ?_;refine A4 ?_;refine VIF.split (λh8=>?_) (λh8=>?_)
  ·have h8:k<z[i].row.length:=(by simpa using h8);have hrl:=hr _ hm;have w2:=wrap_add1 (show k<4611686018427387904 by omega);refine Aa ?_;refine EL.map h3 ?_;refine A4 ?_;refine EL.map h8 ?_;refine Ao ?_;refine .pure _ (show Spec0 Tryz.prog 79 [.ag z[i].row[k].c] _ from p79 z[i].row[k]) rfl λq hq _=>?_;subst hq;refine Ad ?_;refine VIF.split (λh9=>?_) (λh9=>?_)
   ·have h9:smallV z[i].row[k]=false:=(by simpa using h9);refine Aa ?_;exact bad (badI (by
     have:z[i].row.any (λv=>!smallV v)=true:=List.any_eq_true.2 ⟨_,List.getElem_mem h8,by rw[h9];rfl⟩;simp only[wrongI,this,Bool.or_true]))
   ·have h9:smallV z[i].row[k]=true:=(by simpa using h9);refine Bv ?_;refine BACK.mk ⟨k+1,by omega,λj hj hji=>if e:j=k then (by subst e;exact h9) else hy j hj (by omega)⟩ [] rfl rfl (by show z[i].row.length-(k+1)<z[i].row.length-k;omega) ?_;(simp -implicitDefEqProofs only[go_sem,iA,setA,w2];repeat (refine GO ?_;simp -implicitDefEqProofs only[go_sem,iA,setA,w2]));exact ⟨id,by simp[wk,intsL]⟩
  ·have h8:k=z[i].row.length:=by simp at h8;omega
   have hsm:z[i].row.any (λv=>!smallV v)=false:=by rw[List.any_eq_false];intro v hv;obtain ⟨j,hj,rfl⟩:=List.mem_iff_getElem.1 hv;rw[hy j hj (by omega)];simp
   have hok:wrongI f z[i]=false:=(by simp[wrongI,h4,h5,h7,hsm]);refine Ak ?_;refine BACK.mk ⟨i+1,by omega,λj hj hji=>if e:j=i then (by subst e;exact hok) else hz j hj (by omega)⟩ [] rfl rfl (by show z.length-(i+1)<z.length-i;omega) ?_;refine B3 ?_;exact ⟨id,by simp[wk,intsL]⟩
 ·have h3:i=z.length:=by simp at h3;omega
  subst h3;have:z.any (wrongI f)=false:=by rw[List.any_eq_false];intro t ht;obtain ⟨j,hj,rfl⟩:=List.mem_iff_getElem.1 ht;rw[hz j hj hj];simp
  refine Aa ?_;rw[tabErr,if_neg h0,if_pos ⟨g1,h2,this⟩];rfl
end Yt
namespace Yt
open Go Go.Vc
def og103s0:OT:=.fork3 [Hs 10] 6 (.fork [] 8 (.lin [Hs 9,Ht 11,Hs 12,Ht 13]) 11 (.lin [Hs 8,Hs 9,Hs 12,Ht 13])) 8 (.fork [] 6 (.lin [Hs 9,Ht 11,Hs 12,Ht 13]) 11 (.lin [Hs 6,Hs 9,Hs 12,Ht 13])) 11 (.lin [Hs 6,Hs 8,Hs 9,Hs 12,Ht 13])
@[go_sem ↓] theorem og103s0_ev {P:Program} {T:Nat->Go.Vc.TI} {ops:List Oper} {st:St} {K:St->Prop}:evOT P T ops og103s0 st K=evOT P T ops (.fork3 [Hs 10] 6 (.fork [] 8 (.lin [Hs 9,Ht 11,Hs 12,Ht 13]) 11 (.lin [Hs 8,Hs 9,Hs 12,Ht 13])) 8 (.fork [] 6 (.lin [Hs 9,Ht 11,Hs 12,Ht 13]) 11 (.lin [Hs 6,Hs 9,Hs 12,Ht 13])) 11 (.lin [Hs 6,Hs 8,Hs 9,Hs 12,Ht 13])) st K:=rfl
def og103s1:OT:=.fork [] 4 (.fork [Hs 10] 8 (.lin [Hs 9,Ht 11,Hs 12,Ht 13]) 11 (.lin [Hs 8,Hs 9,Hs 12,Ht 13])) 8 (.lin [Hs 9,Ht 4,Hs 10,Ht 11,Hs 12,Ht 13])
@[go_sem ↓] theorem og103s1_ev {P:Program} {T:Nat->Go.Vc.TI} {ops:List Oper} {st:St} {K:St->Prop}:evOT P T ops og103s1 st K=evOT P T ops (.fork [] 4 (.fork [Hs 10] 8 (.lin [Hs 9,Ht 11,Hs 12,Ht 13]) 11 (.lin [Hs 8,Hs 9,Hs 12,Ht 13])) 8 (.lin [Hs 9,Ht 4,Hs 10,Ht 11,Hs 12,Ht 13])) st K:=rfl
def og103s2:OT:=.fork [] 4 (.fork [Hs 10] 6 (.lin [Hs 9,Ht 11,Hs 12,Ht 13]) 11 (.lin [Hs 6,Hs 9,Hs 12,Ht 13])) 6 (.lin [Hs 9,Ht 4,Hs 10,Ht 11,Hs 12,Ht 13])
@[go_sem ↓] theorem og103s2_ev {P:Program} {T:Nat->Go.Vc.TI} {ops:List Oper} {st:St} {K:St->Prop}:evOT P T ops og103s2 st K=evOT P T ops (.fork [] 4 (.fork [Hs 10] 6 (.lin [Hs 9,Ht 11,Hs 12,Ht 13]) 11 (.lin [Hs 6,Hs 9,Hs 12,Ht 13])) 6 (.lin [Hs 9,Ht 4,Hs 10,Ht 11,Hs 12,Ht 13])) st K:=rfl
def og103s3:OT:=.fork3 [Hs 8] 4 (.fork [] 6 (.lin [Hs 7,Ht 9,Hs 10,Ht 11]) 9 (.lin [Hs 6,Hs 7,Hs 10,Ht 11])) 6 (.fork [] 4 (.lin [Hs 7,Ht 9,Hs 10,Ht 11]) 9 (.lin [Hs 4,Hs 7,Hs 10,Ht 11])) 9 (.lin [Hs 4,Hs 6,Hs 7,Hs 10,Ht 11])
@[go_sem ↓] theorem og103s3_ev {P:Program} {T:Nat->Go.Vc.TI} {ops:List Oper} {st:St} {K:St->Prop}:evOT P T ops og103s3 st K=evOT P T ops (.fork3 [Hs 8] 4 (.fork [] 6 (.lin [Hs 7,Ht 9,Hs 10,Ht 11]) 9 (.lin [Hs 6,Hs 7,Hs 10,Ht 11])) 6 (.fork [] 4 (.lin [Hs 7,Ht 9,Hs 10,Ht 11]) 9 (.lin [Hs 4,Hs 7,Hs 10,Ht 11])) 9 (.lin [Hs 4,Hs 6,Hs 7,Hs 10,Ht 11])) st K:=rfl
def og103s4:OT:=.fork [] 2 (.fork [Hs 8] 6 (.lin [Hs 7,Ht 9,Hs 10,Ht 11]) 9 (.lin [Hs 6,Hs 7,Hs 10,Ht 11])) 6 (.lin [Hs 7,Ht 2,Hs 8,Ht 9,Hs 10,Ht 11])
@[go_sem ↓] theorem og103s4_ev {P:Program} {T:Nat->Go.Vc.TI} {ops:List Oper} {st:St} {K:St->Prop}:evOT P T ops og103s4 st K=evOT P T ops (.fork [] 2 (.fork [Hs 8] 6 (.lin [Hs 7,Ht 9,Hs 10,Ht 11]) 9 (.lin [Hs 6,Hs 7,Hs 10,Ht 11])) 6 (.lin [Hs 7,Ht 2,Hs 8,Ht 9,Hs 10,Ht 11])) st K:=rfl
def og103s5:OT:=.fork [] 2 (.fork [Hs 8] 4 (.lin [Hs 7,Ht 9,Hs 10,Ht 11]) 9 (.lin [Hs 4,Hs 7,Hs 10,Ht 11])) 4 (.lin [Hs 7,Ht 2,Hs 8,Ht 9,Hs 10,Ht 11])
@[go_sem ↓] theorem og103s5_ev {P:Program} {T:Nat->Go.Vc.TI} {ops:List Oper} {st:St} {K:St->Prop}:evOT P T ops og103s5 st K=evOT P T ops (.fork [] 2 (.fork [Hs 8] 4 (.lin [Hs 7,Ht 9,Hs 10,Ht 11]) 9 (.lin [Hs 4,Hs 7,Hs 10,Ht 11])) 4 (.lin [Hs 7,Ht 2,Hs 8,Ht 9,Hs 10,Ht 11])) st K:=rfl
def og103:Ords
 | 8=>some (.lin [Ht 0,Ht 1,Ht 2,Hu 3,Ht 4,Ht 5,Ht 6,Ht 7,Hu 8,Ht 9,Ht 10,Ht 11,Ht 12,Ht 13])
 | 9=>some (.lin [Ht 0,Ht 1,Ht 2,Ht 3,Ht 4,Ht 5,Ht 6,Hu 7,Ht 8,Hu 9,Ht 10,Ht 11,Ht 12,Ht 13,Ht 14,Ht 15,Ht 16,Ht 17,Ht 18])
 | 12=>some (.forkq [Hs 0,Hv 1,Hs 3,Hv 4,Hs 5,Hv 6] 2 true (.lin [Hs 7,Hw 8,Hw 9]) 8 true (.lin [Hw 2,Hs 7,Hw 9]))
 | 16=>some (.lin [Hv 0,Hs 1,Hs 2,Hs 3,Hs 4,Hw 5,Ht 6,Hs 7])
 | 27=>some (.lin [Ht 0,Ht 1,Hu 2,Ht 3,Ht 4,Ht 5])
 | 29=>some (.lin [Ht 0,Ht 1,Ht 2,Ht 3,Ht 4,Hu 5,Ht 6,Ht 7,Ht 8,Ht 9,Ht 10,Ht 11,Ht 12,Ht 13,Ht 14])
 | 33=>some (.fork3 [Hs 0,Hs 1,Hs 2,Hs 3,Hs 5,Hs 7] 4 og103s0 6 og103s1 8 og103s2)
 | 40=>some (.fork3 [Hs 0,Hs 1,Hs 2,Hs 3,Hs 4,Hs 5,Hs 7,Hs 10] 6 (.fork [] 8 (.lin [Hs 9,Ht 11,Hs 12,Ht 13]) 11 (.lin [Hs 8,Hs 9,Hs 12,Ht 13])) 8 (.fork [] 6 (.lin [Hs 9,Ht 11,Hs 12,Ht 13]) 11 (.lin [Hs 6,Hs 9,Hs 12,Ht 13])) 11 (.lin [Hs 6,Hs 8,Hs 9,Hs 12,Ht 13]))
 | 43=>some (.lin [Ht 0,Ht 1,Hu 2,Ht 3,Ht 4,Ht 5,Ht 6,Ht 7,Hu 8,Ht 9,Ht 10,Ht 11,Hu 12,Ht 13,Ht 14,Ht 15,Ht 16,Ht 17,Ht 18,Ht 19,Ht 20,Ht 21,Ht 22])
 | 47=>some (.lin [Ht 0,Ht 1,Ht 2,Hu 3,Ht 4,Ht 5,Ht 6,Ht 7,Ht 8,Ht 9,Ht 10,Ht 11])
 | 52=>some (.forkq3 [Hs 0,Hs 3,Hs 5] 1 true (.fork3 [] 2 og103s3 4 og103s4 6 og103s5) 4 false (.forkq [] 1 true og103s4 6 false (.lin [Hs 7,Hw 1,Ht 2,Hs 8,Ht 9,Hs 10,Ht 11])) 6 false (.forkq [] 1 true og103s5 4 false (.lin [Hs 7,Hw 1,Ht 2,Hs 8,Ht 9,Hs 10,Ht 11])))
 | 58=>some (.lin [Ht 0,Ht 1,Hu 2,Ht 3,Ht 4,Ht 5,Ht 6,Hu 7,Ht 8,Ht 9,Ht 10,Ht 11])
 | _=>none
@[go_sem] theorem og103_0:og103 0=none:=rfl
@[go_sem] theorem og103_1:og103 1=none:=rfl
@[go_sem] theorem og103_2:og103 2=none:=rfl
@[go_sem] theorem og103_3:og103 3=none:=rfl
@[go_sem] theorem og103_4:og103 4=none:=rfl
@[go_sem] theorem og103_5:og103 5=none:=rfl
@[go_sem] theorem og103_6:og103 6=none:=rfl
@[go_sem] theorem og103_7:og103 7=none:=rfl
attribute [go_sem] og103.eq_1
attribute [go_sem] og103.eq_2
@[go_sem] theorem og103_10:og103 10=none:=rfl
@[go_sem] theorem og103_11:og103 11=none:=rfl
attribute [go_sem] og103.eq_3
@[go_sem] theorem og103_13:og103 13=none:=rfl
@[go_sem] theorem og103_14:og103 14=none:=rfl
@[go_sem] theorem og103_15:og103 15=none:=rfl
attribute [go_sem] og103.eq_4
@[go_sem] theorem og103_17:og103 17=none:=rfl
@[go_sem] theorem og103_18:og103 18=none:=rfl
@[go_sem] theorem og103_19:og103 19=none:=rfl
@[go_sem] theorem og103_20:og103 20=none:=rfl
@[go_sem] theorem og103_21:og103 21=none:=rfl
@[go_sem] theorem og103_22:og103 22=none:=rfl
@[go_sem] theorem og103_23:og103 23=none:=rfl
@[go_sem] theorem og103_24:og103 24=none:=rfl
@[go_sem] theorem og103_25:og103 25=none:=rfl
@[go_sem] theorem og103_26:og103 26=none:=rfl
attribute [go_sem] og103.eq_5
@[go_sem] theorem og103_28:og103 28=none:=rfl
attribute [go_sem] og103.eq_6
@[go_sem] theorem og103_30:og103 30=none:=rfl
@[go_sem] theorem og103_31:og103 31=none:=rfl
@[go_sem] theorem og103_32:og103 32=none:=rfl
attribute [go_sem] og103.eq_7
@[go_sem] theorem og103_34:og103 34=none:=rfl
@[go_sem] theorem og103_35:og103 35=none:=rfl
@[go_sem] theorem og103_36:og103 36=none:=rfl
@[go_sem] theorem og103_37:og103 37=none:=rfl
@[go_sem] theorem og103_38:og103 38=none:=rfl
@[go_sem] theorem og103_39:og103 39=none:=rfl
attribute [go_sem] og103.eq_8
@[go_sem] theorem og103_41:og103 41=none:=rfl
@[go_sem] theorem og103_42:og103 42=none:=rfl
attribute [go_sem] og103.eq_9
@[go_sem] theorem og103_44:og103 44=none:=rfl
@[go_sem] theorem og103_45:og103 45=none:=rfl
@[go_sem] theorem og103_46:og103 46=none:=rfl
attribute [go_sem] og103.eq_10
@[go_sem] theorem og103_48:og103 48=none:=rfl
@[go_sem] theorem og103_49:og103 49=none:=rfl
@[go_sem] theorem og103_51:og103 51=none:=rfl
attribute [go_sem] og103.eq_11
@[go_sem] theorem og103_53:og103 53=none:=rfl
@[go_sem] theorem og103_54:og103 54=none:=rfl
@[go_sem] theorem og103_55:og103 55=none:=rfl
@[go_sem] theorem og103_56:og103 56=none:=rfl
@[go_sem] theorem og103_57:og103 57=none:=rfl
@[go_sem] theorem og103_50:og103 50=none:=rfl
attribute [go_sem] og103.eq_12
@[go_sem] theorem og103_59:og103 59=none:=rfl
@[go_sem] theorem og103_60:og103 60=none:=rfl
def og47:Ords
 | _=>none
@[go_sem] theorem og47_0:og47 0=none:=rfl
@[go_sem] theorem og47_1:og47 1=none:=rfl
@[go_sem] theorem og47_2:og47 2=none:=rfl
@[go_sem] theorem og47_3:og47 3=none:=rfl
@[go_sem] theorem og47_4:og47 4=none:=rfl
@[go_sem] theorem og47_5:og47 5=none:=rfl
@[go_sem] theorem og47_6:og47 6=none:=rfl
@[go_sem] theorem og47_7:og47 7=none:=rfl
@[go_sem] theorem og47_8:og47 8=none:=rfl
@[go_sem] theorem og47_10:og47 10=none:=rfl
@[go_sem] theorem og47_11:og47 11=none:=rfl
@[go_sem] theorem og47_12:og47 12=none:=rfl
@[go_sem] theorem og47_13:og47 13=none:=rfl
@[go_sem] theorem og47_9:og47 9=none:=rfl
@[go_sem] theorem og47_14:og47 14=none:=rfl
end Yt
namespace Yt
open Go Go.Vc Go.Proofs
theorem p71 (l:List Int) (hl:l.length<1073741824):Spec1 Tryz.prog 71 [intsL l] (λr o=>r=.rf 0 0 l.length/\o=io l):=by
 refine spec1_of_vc tabOk elems ord71 Tryz.func71 rfl (rl:=[.tmp 2]) rfl (by kernel_rfl) rfl ?_;refine A5 ?_;refine ⟨by omega,?_⟩;refine FINmk [(0,some 6)] [(2,.rf 0 0 l.length)] [(0,io l)] [0] rfl ?_ ?_
 ·refine Ez ?_;exact .same (io l) _ _ (io_leafy l) rfl
 ·exact ⟨io l,⟨⟨rfl,rfl⟩,rfl⟩,io_leafy l,rfl⟩
theorem p154o (t l:List Int) (hl:l.length<1073741824) (ht:t.length<1073741824):Spec1 Tryz.prog 154 [intsL t,intsL l] (λr o=>∃out,r=.tu [.rf 0 0 out.length,bA (!l.any (outC t.length))]/\o=io out/\(l.any (outC t.length)=false->out=pickI t l)):=by
 refine spec1_of_vc tabOk elems ord154 Tryz.func154 rfl (rl:=[.tmp 4,.tmp 5]) rfl (by kernel_rfl) rfl ?_;refine A5 ?_;refine LOOP.mk (ι:={i:Nat//i<=l.length/\∀j (h:j<l.length),j<i->outC t.length l[j]=false}) (λp=>mkS [(0,intsL t),(1,intsL l),(6,.rf 1000 0 p.1),(7,iA p.1)] [(1000,io (pickI t (l.take p.1)))] [1000]) (λp=>l.length-p.1) ⟨0,Nat.zero_le _,λj _ h=>absurd h (Nat.not_lt_zero _)⟩ [(1000,none)] rfl rfl ?_ (λp=>?_)
 ·refine Ct ?_;exact ⟨id,rfl,rfl⟩
 obtain ⟨i,hi,hg⟩:=p;refine Ct ?_;refine VIF.split (λh1=>?_) (λh1=>?_)
 ·have h1:i<l.length:=(by simpa using h1);have w1:=wrap_add1 (show i<4611686018427387904 by omega);have w2:IntKind.i64.wrap ((t.length:Int)-1)=(t.length:Int)-1:=by rw[wrap_i64]<;>omega
  refine Bv ?_;refine EL.map h1 ?_;refine C7 ?_;refine .pure _ (show Spec0 Tryz.prog 102 [iA l[i],iA 0,iA ((t.length:Int)-1)] _ from s53 l[i] 0 ((t.length:Int)-1)) rfl λq hq _=>?_;subst hq;rw[outC_inB];refine Ad ?_;refine VIF.split (λh2=>?_) (λh2=>?_)
  ·have h2:outC t.length l[i]=true:=(by simpa using h2);have ha:l.any (outC t.length)=true:=List.any_eq_true.2 ⟨_,List.getElem_mem h1,h2⟩;refine Aa ?_;refine FINmk [(0,none)] [(4,.rf 0 0 0),(5,bA false)] [(0,io [])] [0] rfl ?_ ?_
   ·refine Ad ?_;simp[io]
   ·refine Ad ?_;exact ⟨io [],⟨⟨[],by rw[ha];rfl,rfl,λh=>by rw[ha] at h;cases h⟩,rfl⟩,io_leafy [],rfl⟩
  ·have h2:outC t.length l[i]=false:=(by simpa using h2);have hc:0<=l[i]/\l[i].toNat<t.length:=by simp[outC] at h2;omega
   refine Aa ?_;refine EL.map h1 ?_;refine Ab ?_;refine ⟨hc.1,EL.map hc.2 ?_⟩;refine Ab ?_;refine ⟨by omega,?_⟩;refine Ak ?_;refine BACK.mk ⟨i+1,by omega,λj hj hji=>if e:j=i then (by subst e;exact h2) else hg j hj (by omega)⟩ [(1000,some 32)] rfl rfl (by show l.length-(i+1)<l.length-i;omega) ?_;refine Ec ?_;have hgv:getI t l[i]=t[l[i].toNat]'hc.2:=(by simp[getI,hc.2]);rw[List.take_of_length_le (l:=List.map _ (pickI t (l.take i))) (by simp[pickI];omega)];refine ⟨id,io_snoc (l:=pickI t (l.take i)) (n:=t[l[i].toNat]'hc.2) ?_⟩;rw[pickI,pickI,List.take_succ_eq_append_getElem h1,List.map_append,<- hgv];rfl
 ·have h1:i=l.length:=by simp at h1;omega
  subst h1;have ha:l.any (outC t.length)=false:=by rw[List.any_eq_false];intro c hc;obtain ⟨j,hj,rfl⟩:=List.mem_iff_getElem.1 hc;rw[hg j hj hj];simp
  refine Bm ?_;refine FINmk [(0,some 1000)] [(4,.rf 0 0 l.length),(5,bA true)] [(0,io (pickI t l))] [0] rfl ?_ ?_
  ·(simp -implicitDefEqProofs only[go_sem,bA,io];repeat (refine GO ?_;simp -implicitDefEqProofs only[go_sem,bA,io]));exact .same (io (pickI t l)) _ _ (io_leafy (pickI t l)) rfl
  ·refine Ad ?_;exact ⟨io (pickI t l),⟨⟨pickI t l,by rw[ha];simp[pickI,bA],rfl,λ_=>rfl⟩,rfl⟩,io_leafy (pickI t l),rfl⟩
def LookR (F:List (List Int)) (D:List Nd) (x:PN) (r:AV):Prop:=∃c1 c2 c3 e,r=.tu [.ag [c1,c2,c3],iA e]/\(c1.leaf&&c2.leaf&&c3.leaf)=true/\e=lookE F D x/\(e=0->AV.ag [c1,c2,c3]=.ag (lookN F D x).c)
theorem FINp {F:List (List Int)} {D:List Nd} {x:PN} {st:St} (c1 c2 c3:AV) (e:Int) (h0:st.objs 0=some ⟨3,D.map Nd.c⟩) (h6:st.regs 6=.pt 6 0 0) (hc:st.objs 6=some ⟨3,[[c1,c2,c3]]⟩) (hl:(c1.leaf&&c2.leaf&&c3.leaf)=true) (h7:st.regs 7=iA e) (he:e=lookE F D x) (hv:e=0->AV.ag [c1,c2,c3]=.ag (lookN F D x).c) :
 FIN T (upd noOb 0 (some (ndO D))) [.cell 6 73,.tmp 7] (λr O'=>∃o',((LookR F D x r/\o'=ndO D)/\r.noId=true)/\o'.leafy/\O'=upd noOb 0 (some o')) st:=by
 have hl':=hl;simp only[Bool.and_eq_true] at hl;refine FIN_B (o':=ndO D) (rl:=[(6,.ro [c1,c2,c3] 0),(7,iA e)]) (by rw[h0];rfl) (ndO_leafy D) ?_ ?_
 ·simp -implicitDefEqProofs only[go_sem,h6,h7,hc,iA];refine ⟨by simp[olds],_,rfl,λx hx a ha=>?_,rfl⟩;simp only[List.mem_singleton] at hx;subst hx;simp only[List.mem_cons,List.not_mem_nil,or_false] at ha;rcases ha with rfl|rfl|rfl
  ·exact hl.1.1
  ·exact hl.1.2
  ·exact hl.2
 ·refine B8 ?_;exact ⟨ndO D,⟨⟨⟨c1,c2,c3,e,rfl,hl',he,hv⟩,rfl⟩,noId_end (e:=e) hl'⟩,ndO_leafy D,rfl⟩
theorem kept_1 {o:Ob}:∀i,upd noOb 0 (some o) i≠none->i=0:=λi h=>by
 simp only[upd] at h;split at h
 ·rename_i e;exact e.symm
 ·exact absurd rfl h
theorem p103 (F:List (List Int)) (D:List Nd) (x:PN) (hD:D.length<1073741824) (hF:F.length<1073741824) (hFl:∀l∈F,l.length<1073741824) (hb:∀d∈D,Ndb d) (hc:x.cols.length<1073741824) (ho:x.others.length<1073741824) :
 SpecO Tryz.prog 103 [.ag x.c,formsA F,.rf 0 0 D.length] (ndO D) (λr o'=>LookR F D x r/\o'=ndO D):=by
 refine specO_of_vc tabOk elems og103 Tryz.func103 rfl (rl:=[.cell 6 73,.tmp 7]) rfl (by kernel_rfl) rfl ?_;(simp -implicitDefEqProofs only[go_sem,PN.c,formsA,iA,ndO];repeat (refine GO ?_;simp -implicitDefEqProofs only[go_sem,PN.c,formsA,iA,ndO]));refine .pure _ (show Spec0 Tryz.prog 102 [iA x.kind,iA 1,iA 8] _ from s53 x.kind 1 8) rfl λq hq _=>?_;subst hq;refine Ad ?_;refine VIF.split (λh1=>?_) (λh1=>?_)
 ·have h1:¬(1<=x.kind/\x.kind<=8):=by simp[inB] at h1;omega
  refine Aa ?_;exact FINp .nl (iA 0) (iA 0) 1 Ae Ae Aj rfl Aj (by
   rw[lookE,if_neg (by omega),if_neg (by omega),if_neg (by omega),if_neg (by omega),if_neg (by omega),if_neg (by omega),if_neg (by omega)]) (λh=>by cases h)
 have h1:1<=x.kind/\x.kind<=8:=by simp[inB] at h1;omega
 refine Aa ?_;refine VIF.split (λk1=>?_) (λk1=>?_)
 ·have k1:x.kind=1:=(by simpa using k1);have hlk:lookE F D x=scanE F x:=(by rw[lookE,if_pos k1]);have w2:IntKind.i64.wrap ((F.length:Int)-1)=(F.length:Int)-1:=by rw[wrap_i64]<;>omega
  (simp -implicitDefEqProofs only[go_sem,formsA,w2];repeat (refine GO ?_;simp -implicitDefEqProofs only[go_sem,formsA,w2]));refine .pure _ (show Spec0 Tryz.prog 102 [iA x.table,iA 0,iA ((F.length:Int)-1)] _ from s53 x.table 0 ((F.length:Int)-1)) rfl λq hq _=>?_;subst hq;refine Ad ?_;refine VIF.split (λh2=>?_) (λh2=>?_)
  ·have h2:inC x.table F.length=false:=by simp[inB] at h2;simp[inC];omega
   refine Aa ?_;exact FINp .nl (iA 0) (iA 0) 1 Ae Ae Aj rfl Aj (by rw[hlk,scanE,h2];rfl) (λh=>by cases h)
  have h2:inC x.table F.length=true:=by simp[inB] at h2;simp[inC];omega
  have hti:0<=x.table/\x.table.toNat<F.length:=by simp[inC] at h2;omega
  have hfl:=hFl _ (List.getElem_mem hti.2);have hfx:(F[x.table.toNat]?).getD []=F[x.table.toNat]'hti.2:=(by simp[hti.2]);(simp -implicitDefEqProofs only[go_sem,PN.c,formsA,iA,intsL];repeat (refine GO ?_;simp -implicitDefEqProofs only[go_sem,PN.c,formsA,iA,intsL]));refine ⟨hti.1,EL.map hti.2 ?_⟩;refine Au ?_;refine ⟨by omega,?_⟩;refine FINfrz 46 (io (4::F[x.table.toNat]'hti.2)) (by refine Aa ?_;rfl) (io_leafy _) kept_1 ?_;refine Aw ?_;rw[im_io (by simp;omega)];exact FINp (intsL (4::F[x.table.toNat]'hti.2)) (iA 1024) (iA 2147483648) 0 Ae Ae Aj rfl Aj (by rw[hlk,scanE,h2];rfl) (λ_=>by rw[lookN,if_pos k1,scanN,hfx];rfl)
 have k1:x.kind≠1:=by simpa using k1
 have w3:IntKind.i64.wrap ((D.length:Int)-1)=(D.length:Int)-1:=by rw[wrap_i64]<;>omega
 have hin:∀c:Int,inB c 0 ((D.length:Int)-1)=inC c D.length:=λc=>by simp only[inB,inC];by_cases h1:0<=c<;>by_cases h2:c<D.length<;>simp[h1,h2]<;>omega
 have at_:∀{k:Int},inC k D.length=true->∃hk:k.toNat<D.length,0<=k/\k<D.length/\ndAt D k=D[k.toNat]'hk/\Ndb (D[k.toNat]'hk):=λ{k} hk=>by simp only[inC,Bool.and_eq_true,decide_eq_true_eq] at hk;have h2:k.toNat<D.length:=(by omega);exact ⟨h2,hk.1,hk.2,ndAt_eq h2,hb _ (List.getElem_mem h2)⟩
 have hk:x.kind=2\/x.kind=3\/x.kind=4\/x.kind=5\/x.kind=6\/x.kind=7\/x.kind=8:=by omega
 refine Av ?_;rcases hk with hk|hk|hk|hk|hk|hk|hk
 ·have hlk:lookE F D x=filtE D x:=(by rw[lookE,if_neg k1,if_pos hk]);refine Ay ?_;try (simp -implicitDefEqProofs only[go_sem,w3];repeat (refine GO ?_;simp -implicitDefEqProofs only[go_sem,w3]))
  refine .pure _ (show Spec0 Tryz.prog 102 [iA x.a,iA 0,iA ((D.length:Int)-1)] _ from s53 x.a 0 ((D.length:Int)-1)) rfl λq hq _=>?_;subst hq;rw[hin];refine Ad ?_;refine VIF.split (λh2=>?_) (λh2=>?_)
  ·have h2:inC x.a D.length=false:=(by simpa using h2);refine Aa ?_;refine A7 ?_;exact FINp .nl (iA 0) (iA 0) 1 Ae Ae Aj rfl Aj (by rw[hlk,filtE,h2];rfl) (λh=>by cases h)
  have h2:inC x.a D.length=true:=(by simpa using h2);obtain ⟨ha,ha0,ha1,ea,na⟩:=at_ h2;refine Av ?_;refine Ay ?_;refine ⟨⟨ha0,ha1⟩,EL.map ha ?_⟩;obtain ⟨n,hn⟩:∃n,n=D[x.a.toNat]'ha:=⟨_,rfl⟩;have nw0:=na.w0;have nw1:=na.w1;have nv0:=na.v0;have nv1:=na.v1;have hnl:=na.tl;simp only[<- hn] at ea nw0 nw1 nv0 nv1 hnl ⊢;refine Bs ?_;apply And.intro
  all_goals
   refine .make 88 _ (show Spec1 Tryz.prog 71 [intsL n.types] _ from p71 n.types (by omega)) rfl (by simp) rfl λq o hq _=>?_;obtain ⟨rfl,rfl⟩:=hq;refine B0 ?_;refine Ay ?_;refine .pure _ (show Spec0 Tryz.prog 48 [.ag x.pred.c,intsL n.types] _ from p48 x.pred n.types (by omega)) rfl λq hq _=>?_;subst hq;refine Ab ?_;refine FINfrz 88 (io n.types) (by refine Aa ?_;rfl) (io_leafy _) kept_1 ?_;refine Aw ?_;rw[im_io (by omega)];exact FINp (intsL n.types) (iA n.w) (iA n.v) (predE x.pred n.types) Ae Ae Aj rfl Aj (by rw[hlk,filtE,h2,ea];rfl) (λ_=>by rw[lookN,if_neg k1,if_pos hk,ea];rfl)
 ·have hlk:lookE F D x=projE x D:=(by rw[lookE,if_neg k1,if_neg (by omega),if_pos hk]);refine Ay ?_;try (simp -implicitDefEqProofs only[go_sem,w3];repeat (refine GO ?_;simp -implicitDefEqProofs only[go_sem,w3]))
  refine .pure _ (show Spec0 Tryz.prog 102 [iA x.a,iA 0,iA ((D.length:Int)-1)] _ from s53 x.a 0 ((D.length:Int)-1)) rfl λq hq _=>?_;subst hq;rw[hin];refine Ad ?_;refine VIF.split (λh2=>?_) (λh2=>?_)
  ·have h2:inC x.a D.length=false:=(by simpa using h2);refine Aa ?_;refine A7 ?_;exact FINp .nl (iA 0) (iA 0) 1 Ae Ae Aj rfl Aj (by rw[hlk,projE,if_pos (.inl h2)]) (λh=>by cases h)
  have h2:inC x.a D.length=true:=(by simpa using h2);obtain ⟨ha,ha0,ha1,ea,na⟩:=at_ h2;refine Av ?_;refine Ay ?_;refine ⟨⟨ha0,ha1⟩,EL.map ha ?_⟩;obtain ⟨n,hn⟩:∃n,n=D[x.a.toNat]'ha:=⟨_,rfl⟩;have nw0:=na.w0;have nw1:=na.w1;have nv0:=na.v0;have nv1:=na.v1;have hnl:=na.tl;simp only[<- hn] at ea nw0 nw1 nv0 nv1 hnl ⊢;refine Bs ?_;apply And.intro
  all_goals
   refine .make 88 _ (show Spec1 Tryz.prog 71 [intsL n.types] _ from p71 n.types (by omega)) rfl (by simp) rfl λq o hq _=>?_;obtain ⟨rfl,rfl⟩:=hq;refine B0 ?_;refine Ay ?_;refine .make 111 _ (show Spec1 Tryz.prog 154 [intsL n.types,intsL x.cols] _ from p154o n.types x.cols hc (by omega)) rfl (by simp) rfl λq o hq _=>?_;obtain ⟨out,rfl,rfl,hout⟩:=hq;refine Dv ?_;refine VIF.split (λh3=>?_) (λh3=>?_)
   ·have h3:x.cols.any (outC (ndAt D x.a).types.length)=true:=by rw[ea];simpa using h3
    refine Aa ?_;exact FINp .nl (iA 0) (iA 0) 1 Ae Ae Aj rfl Aj (by rw[hlk,projE,if_pos (.inr h3)]) (λh=>by cases h)
   have h3:x.cols.any (outC n.types.length)=false:=(by simpa using h3);have hout:=hout h3;subst hout;have c2:¬(inC x.a D.length=false\/x.cols.any (outC (ndAt D x.a).types.length)=true):=by rw[ea,h2,h3];simp
   refine Cf ?_;refine VIF.split (λh4=>?_) (λh4=>?_)
   ·have h4:12<x.cols.length:=by simp at h4;omega
    refine Aa ?_;exact FINp .nl (iA 0) (iA 0) 2 Ae Ae Aj rfl Aj (by rw[hlk,projE,if_neg c2,if_pos h4]) (λh=>by cases h)
   have h4:¬12<x.cols.length:=by simp at h4;omega
   try (simp -implicitDefEqProofs only[go_sem,iA];repeat (refine GO ?_;simp -implicitDefEqProofs only[go_sem,iA]))
   simp only[h3];refine Fd ?_;refine FINfrz 111 (io (pickI n.types x.cols)) (by refine Aa ?_;rfl) (io_leafy _) kept_1 ?_;refine Aw ?_;rw[im_io (by first|omega|(simp[pickI];done)|(simp[pickI];omega))];exact FINp (intsL (pickI n.types x.cols)) (iA (n.w)) (iA (n.v)) 0 Ae Ae Aj rfl Aj (by rw[hlk,projE,if_neg c2,if_neg h4]) (λ_=>by rw[lookN,if_neg k1,if_neg (by omega),if_pos hk,projN,ea];rfl)
 ·have hlk:lookE F D x=joinE x D:=(by rw[lookE,if_neg k1,if_neg (by omega),if_neg (by omega),if_pos hk]);refine Ay ?_;try (simp -implicitDefEqProofs only[go_sem,w3];repeat (refine GO ?_;simp -implicitDefEqProofs only[go_sem,w3]))
  refine .pure _ (show Spec0 Tryz.prog 102 [iA x.a,iA 0,iA ((D.length:Int)-1)] _ from s53 x.a 0 ((D.length:Int)-1)) rfl λq hq _=>?_;subst hq;rw[hin];refine Ad ?_;refine VIF.split (λh2=>?_) (λh2=>?_)
  ·have h2:inC x.a D.length=false:=(by simpa using h2);refine Aa ?_;refine A7 ?_;exact FINp .nl (iA 0) (iA 0) 1 Ae Ae Aj rfl Aj (by rw[hlk,joinE,if_pos (.inl h2)]) (λh=>by cases h)
  have h2:inC x.a D.length=true:=(by simpa using h2);obtain ⟨ha,ha0,ha1,ea,na⟩:=at_ h2;refine Av ?_;refine Ay ?_;try (simp -implicitDefEqProofs only[go_sem,w3];repeat (refine GO ?_;simp -implicitDefEqProofs only[go_sem,w3]))
  refine .pure _ (show Spec0 Tryz.prog 102 [iA x.b,iA 0,iA ((D.length:Int)-1)] _ from s53 x.b 0 ((D.length:Int)-1)) rfl λq hq _=>?_;subst hq;rw[hin];refine Ad ?_;refine VIF.split (λh2b=>?_) (λh2b=>?_)
  ·have h2b:inC x.b D.length=false:=(by simpa using h2b);refine Aa ?_;refine A7 ?_;exact FINp .nl (iA 0) (iA 0) 1 Ae Ae Aj rfl Aj (by rw[hlk,joinE,if_pos (.inr h2b)]) (λh=>by cases h)
  have h2b:inC x.b D.length=true:=(by simpa using h2b);obtain ⟨hb',hb0,hb1,eb,nb⟩:=at_ h2b;obtain ⟨m,hm⟩:∃m,m=D[x.b.toNat]'hb':=⟨_,rfl⟩;have c1:¬(inC x.a D.length=false\/inC x.b D.length=false):=by rw[h2,h2b];simp
  have mw0:=nb.w0;have mw1:=nb.w1;have mv0:=nb.v0;have mv1:=nb.v1;have ml:=nb.tl;refine Av ?_;refine Ay ?_;refine ⟨⟨ha0,ha1⟩,EL.map ha ?_⟩;obtain ⟨n,hn⟩:∃n,n=D[x.a.toNat]'ha:=⟨_,rfl⟩;have nw0:=na.w0;have nw1:=na.w1;have nv0:=na.v0;have nv1:=na.v1;have hnl:=na.tl;simp only[<- hn] at ea nw0 nw1 nv0 nv1 hnl ⊢;simp only[<- hm] at eb mw0 mw1 mv0 mv1 ml;refine Bs ?_;apply And.intro
  all_goals
   refine .make 88 _ (show Spec1 Tryz.prog 71 [intsL n.types] _ from p71 n.types (by omega)) rfl (by simp) rfl λq o hq _=>?_;obtain ⟨rfl,rfl⟩:=hq;refine B0 ?_;refine Ay ?_;refine ⟨⟨hb0,hb1⟩,EL.map hb' ?_⟩;simp only[<- hm];refine Bs ?_;refine .make 135 _ (show Spec1 Tryz.prog 154 [intsL n.types,intsL x.cols] _ from p154o n.types x.cols hc (by omega)) rfl (by simp) rfl λq o hq _=>?_;obtain ⟨p,rfl,rfl,hp⟩:=hq;refine Dv ?_;refine .make 143 _ (show Spec1 Tryz.prog 154 [intsL m.types,intsL x.others] _ from p154o m.types x.others ho (by omega)) rfl (by simp) rfl λq o hq _=>?_;obtain ⟨p2,rfl,rfl,hp2⟩:=hq;refine Dv ?_;refine VIF.split (λh3=>?_) (λh3=>?_)
   ·have h3:x.cols.any (outC (ndAt D x.a).types.length)=true:=by rw[ea];simpa using h3
    refine Aa ?_;exact FINp .nl (iA 0) (iA 0) 1 Ae Ae Aj rfl Aj (by rw[hlk,joinE,if_neg c1,if_pos (.inl h3)]) (λh=>by cases h)
   have h3:x.cols.any (outC n.types.length)=false:=(by simpa using h3);refine Ad ?_;refine VIF.split (λh4=>?_) (λh4=>?_)
   ·have h4:x.others.any (outC (ndAt D x.b).types.length)=true:=by rw[eb];simpa using h4
    refine Aa ?_;exact FINp .nl (iA 0) (iA 0) 1 Ae Ae Aj rfl Aj (by rw[hlk,joinE,if_neg c1,if_pos (.inr h4)]) (λh=>by cases h)
   have h4:x.others.any (outC m.types.length)=false:=(by simpa using h4);have c2:¬(x.cols.any (outC (ndAt D x.a).types.length)=true\/x.others.any (outC (ndAt D x.b).types.length)=true):=by rw[ea,eb,h3,h4];simp
   have hp:=hp h3;have hp2:=hp2 h4;have hpl:p.length=x.cols.length:=by rw[hp];simp[pickI]
   have hpl2:p2.length=x.others.length:=by rw[hp2];simp[pickI]
   refine Ab ?_;refine VIF.split (λh5=>?_) (λh5=>?_)
   ·have h5:x.cols.length≠x.others.length:=by simp at h5;omega
    refine Aa ?_;exact FINp .nl (iA 0) (iA 0) 2 Ae Ae Aj rfl Aj (by rw[hlk,joinE,if_neg c1,if_neg c2,if_pos (.inl h5)]) (λh=>by cases h)
   have h5:x.cols.length=x.others.length:=by simp at h5;omega
   have w5:IntKind.i64.wrap ((n.types.length:Int)+(m.types.length:Int))=((n.types.length+m.types.length:Nat):Int):=by rw[wrap_i64]<;>omega
   (simp -implicitDefEqProofs only[go_sem,iA,intsL,w5];repeat (refine GO ?_;simp -implicitDefEqProofs only[go_sem,iA,intsL,w5]));refine VIF.split (λh6=>?_) (λh6=>?_)
   ·have h6:12<(ndAt D x.a).types.length+(ndAt D x.b).types.length:=by rw[ea,eb];simp at h6;omega
    refine Aa ?_;exact FINp .nl (iA 0) (iA 0) 2 Ae Ae Aj rfl Aj (by rw[hlk,joinE,if_neg c1,if_neg c2,if_pos (.inr h6)]) (λh=>by cases h)
   have h6:¬12<n.types.length+m.types.length:=by simp at h6;omega
   have c3:¬(x.cols.length≠x.others.length\/12<(ndAt D x.a).types.length+(ndAt D x.b).types.length):=by rw[ea,eb];omega
   refine Aa ?_;refine .lendR (args':=[intsL p,intsL p2]) (p64 p p2 (by omega)) ⟨lent_leafy (o:=io p) (by refine Aa ?_;rfl) rfl (by simp[io]) (io_leafy _) (λz hz=>by obtain ⟨v,_,rfl⟩:=List.mem_map.1 hz;rfl),lent_leafy (o:=io p2) (by refine Aa ?_;rfl) rfl (by simp[io]) (io_leafy _) (λz hz=>by obtain ⟨v,_,rfl⟩:=List.mem_map.1 hz;rfl),trivial⟩ (by rintro _ rfl;rfl) λq hq=>?_;subst hq;refine Ad ?_;refine VIF.split (λh7=>?_) (λh7=>?_)
   ·have h7:pickI (ndAt D x.a).types x.cols≠pickI (ndAt D x.b).types x.others:=by rw[ea,eb,<- hp,<- hp2];simpa using h7
    refine Aa ?_;exact FINp .nl (iA 0) (iA 0) 10 Ae Ae Aj rfl Aj (by rw[hlk,joinE,if_neg c1,if_neg c2,if_neg c3,if_pos h7]) (λh=>by cases h)
   have h7:¬pickI (ndAt D x.a).types x.cols≠pickI (ndAt D x.b).types x.others:=by rw[ea,eb,<- hp,<- hp2];simpa using h7
   have hmn:=Int.mul_nonneg nw0 mw0;have hpk:prodOk n.w m.w 1125899906842624=decide (n.w*m.w<=1125899906842624):=by simp only[prodOk,inB];rw[show decide (-1125899906842624<=n.w*m.w)=true from decide_eq_true (by omega),Bool.true_and]
   refine Ab ?_;repeat' apply And.intro
   all_goals try omega
   all_goals
    refine Ab ?_;refine .pure _ (show Spec0 Tryz.prog 155 [iA n.w,iA m.w,iA 1125899906842624] _ from c78 n.w m.w 1125899906842624 (by omega) (by omega) (by omega)) rfl λq hq _=>?_;subst hq;rw[hpk];refine A6 ?_;refine VIF.split (λh8=>?_) (λh8=>?_)
    ·have h8:¬(ndAt D x.a).w*(ndAt D x.b).w<=1125899906842624:=by rw[ea,eb];simpa using h8
     refine Aa ?_;refine A7 ?_;exact FINp .nl (iA 0) (iA 0) 11 Ae Ae Aj rfl Aj (by rw[hlk,joinE,if_neg c1,if_neg c2,if_neg c3,if_neg h7,if_pos h8]) (λh=>by cases h)
    have h8:n.w*m.w<=1125899906842624:=(by simpa using h8);have h8':¬¬(ndAt D x.a).w*(ndAt D x.b).w<=1125899906842624:=by rw[ea,eb];simpa using h8
    simp only[h8,decide_true,if_true];try (simp -implicitDefEqProofs only[go_sem,iA];repeat (refine GO ?_;simp -implicitDefEqProofs only[go_sem,iA]))
    refine Ah ?_;refine FINfrz 178 (io (n.types++m.types)) (by refine Aa ?_;first|rfl|(rw[io,List.map_append,List.take_of_length_le (by simp)];rfl)) (io_leafy _) kept_1 ?_;refine Aw ?_;rw[im_io (by first|omega|(simp[pickI];done)|(simp[pickI];omega))];exact FINp (intsL (n.types++m.types)) (iA (n.w*m.w)) (iA (max n.v m.v)) 0 Ae Ae Aj rfl Aj (by rw[hlk,joinE,if_neg c1,if_neg c2,if_neg c3,if_neg h7,if_neg h8']) (λ_=>by rw[lookN,if_neg k1,if_neg (by omega),if_neg (by omega),if_pos hk,joinN,ea,eb];rfl)
 ·have hlk:lookE F D x=bothE x D:=(by rw[lookE,if_neg k1,if_neg (by omega),if_neg (by omega),if_neg (by omega),if_pos (.inl hk)]);refine Ay ?_;try (simp -implicitDefEqProofs only[go_sem,w3];repeat (refine GO ?_;simp -implicitDefEqProofs only[go_sem,w3]))
  refine .pure _ (show Spec0 Tryz.prog 102 [iA x.a,iA 0,iA ((D.length:Int)-1)] _ from s53 x.a 0 ((D.length:Int)-1)) rfl λq hq _=>?_;subst hq;rw[hin];refine Ad ?_;refine VIF.split (λh2=>?_) (λh2=>?_)
  ·have h2:inC x.a D.length=false:=(by simpa using h2);refine Aa ?_;refine A7 ?_;exact FINp .nl (iA 0) (iA 0) 1 Ae Ae Aj rfl Aj (by rw[hlk,bothE,if_pos (.inl h2)]) (λh=>by cases h)
  have h2:inC x.a D.length=true:=(by simpa using h2);obtain ⟨ha,ha0,ha1,ea,na⟩:=at_ h2;refine Av ?_;refine Ay ?_;try (simp -implicitDefEqProofs only[go_sem,w3];repeat (refine GO ?_;simp -implicitDefEqProofs only[go_sem,w3]))
  refine .pure _ (show Spec0 Tryz.prog 102 [iA x.b,iA 0,iA ((D.length:Int)-1)] _ from s53 x.b 0 ((D.length:Int)-1)) rfl λq hq _=>?_;subst hq;rw[hin];refine Ad ?_;refine VIF.split (λh2b=>?_) (λh2b=>?_)
  ·have h2b:inC x.b D.length=false:=(by simpa using h2b);refine Aa ?_;refine A7 ?_;exact FINp .nl (iA 0) (iA 0) 1 Ae Ae Aj rfl Aj (by rw[hlk,bothE,if_pos (.inr h2b)]) (λh=>by cases h)
  have h2b:inC x.b D.length=true:=(by simpa using h2b);obtain ⟨hb',hb0,hb1,eb,nb⟩:=at_ h2b;obtain ⟨m,hm⟩:∃m,m=D[x.b.toNat]'hb':=⟨_,rfl⟩;have c1:¬(inC x.a D.length=false\/inC x.b D.length=false):=by rw[h2,h2b];simp
  have mw0:=nb.w0;have mw1:=nb.w1;have mv0:=nb.v0;have mv1:=nb.v1;have ml:=nb.tl;refine Av ?_;refine Ay ?_;refine ⟨⟨ha0,ha1⟩,EL.map ha ?_⟩;obtain ⟨n,hn⟩:∃n,n=D[x.a.toNat]'ha:=⟨_,rfl⟩;have nw0:=na.w0;have nw1:=na.w1;have nv0:=na.v0;have nv1:=na.v1;have hnl:=na.tl;simp only[<- hn] at ea nw0 nw1 nv0 nv1 hnl ⊢;simp only[<- hm] at eb mw0 mw1 mv0 mv1 ml;refine Bs ?_;apply And.intro
  all_goals
   refine .make 88 _ (show Spec1 Tryz.prog 71 [intsL n.types] _ from p71 n.types (by omega)) rfl (by simp) rfl λq o hq _=>?_;obtain ⟨rfl,rfl⟩:=hq;refine B0 ?_;refine Ay ?_;refine ⟨⟨hb0,hb1⟩,EL.map hb' ?_⟩;simp only[<- hm];refine Bs ?_;refine .pure _ (show Spec0 Tryz.prog 64 [intsL n.types,intsL m.types] _ from p64 n.types m.types (by omega)) rfl λq hq _=>?_;subst hq;refine Ad ?_;refine VIF.split (λh3=>?_) (λh3=>?_)
   ·have h3:(ndAt D x.a).types≠(ndAt D x.b).types:=by rw[ea,eb];simpa using h3
    refine Aa ?_;exact FINp .nl (iA 0) (iA 0) 10 Ae Ae Aj rfl Aj (by rw[hlk,bothE,if_neg c1,if_pos h3]) (λh=>by cases h)
   have h3:¬(ndAt D x.a).types≠(ndAt D x.b).types:=by rw[ea,eb];simpa using h3
   have w5:IntKind.i64.wrap (n.w+m.w)=n.w+m.w:=by rw[wrap_i64]<;>omega
   refine He ?_;repeat' apply And.intro
   all_goals
    refine Ab ?_;refine Ah ?_;refine VIF.split (λh4=>?_) (λh4=>?_)
    ·have h4:1125899906842624-(ndAt D x.b).w<(ndAt D x.a).w:=by rw[ea,eb];simp at h4;omega
     refine Aa ?_;refine A7 ?_;exact FINp .nl (iA 0) (iA 0) 11 Ae Ae Aj rfl Aj (by rw[hlk,bothE,if_neg c1,if_neg h3,if_pos h4]) (λh=>by cases h)
    have h4:¬1125899906842624-(ndAt D x.b).w<(ndAt D x.a).w:=by rw[ea,eb];simp at h4;omega
    refine Ab ?_;refine Ah ?_;refine FINfrz 88 (io (n.types)) (by refine Aa ?_;rfl) (io_leafy _) kept_1 ?_;refine Aw ?_;rw[im_io (by first|omega|(simp[pickI];done)|(simp[pickI];omega))];exact FINp (intsL (n.types)) (iA (n.w+m.w)) (iA (max n.v m.v)) 0 Ae Ae Aj rfl Aj (by rw[hlk,bothE,if_neg c1,if_neg h3,if_neg h4]) (λ_=>by rw[lookN,if_neg k1,if_neg (by omega),if_neg (by omega),if_neg (by omega),if_pos (.inl hk),bothN,ea,eb];rfl)
 ·have hlk:lookE F D x=bothE x D:=(by rw[lookE,if_neg k1,if_neg (by omega),if_neg (by omega),if_neg (by omega),if_pos (.inr hk)]);refine Ay ?_;try (simp -implicitDefEqProofs only[go_sem,w3];repeat (refine GO ?_;simp -implicitDefEqProofs only[go_sem,w3]))
  refine .pure _ (show Spec0 Tryz.prog 102 [iA x.a,iA 0,iA ((D.length:Int)-1)] _ from s53 x.a 0 ((D.length:Int)-1)) rfl λq hq _=>?_;subst hq;rw[hin];refine Ad ?_;refine VIF.split (λh2=>?_) (λh2=>?_)
  ·have h2:inC x.a D.length=false:=(by simpa using h2);refine Aa ?_;refine A7 ?_;exact FINp .nl (iA 0) (iA 0) 1 Ae Ae Aj rfl Aj (by rw[hlk,bothE,if_pos (.inl h2)]) (λh=>by cases h)
  have h2:inC x.a D.length=true:=(by simpa using h2);obtain ⟨ha,ha0,ha1,ea,na⟩:=at_ h2;refine Av ?_;refine Ay ?_;try (simp -implicitDefEqProofs only[go_sem,w3];repeat (refine GO ?_;simp -implicitDefEqProofs only[go_sem,w3]))
  refine .pure _ (show Spec0 Tryz.prog 102 [iA x.b,iA 0,iA ((D.length:Int)-1)] _ from s53 x.b 0 ((D.length:Int)-1)) rfl λq hq _=>?_;subst hq;rw[hin];refine Ad ?_;refine VIF.split (λh2b=>?_) (λh2b=>?_)
  ·have h2b:inC x.b D.length=false:=(by simpa using h2b);refine Aa ?_;refine A7 ?_;exact FINp .nl (iA 0) (iA 0) 1 Ae Ae Aj rfl Aj (by rw[hlk,bothE,if_pos (.inr h2b)]) (λh=>by cases h)
  have h2b:inC x.b D.length=true:=(by simpa using h2b);obtain ⟨hb',hb0,hb1,eb,nb⟩:=at_ h2b;obtain ⟨m,hm⟩:∃m,m=D[x.b.toNat]'hb':=⟨_,rfl⟩;have c1:¬(inC x.a D.length=false\/inC x.b D.length=false):=by rw[h2,h2b];simp
  have mw0:=nb.w0;have mw1:=nb.w1;have mv0:=nb.v0;have mv1:=nb.v1;have ml:=nb.tl;refine Av ?_;refine Ay ?_;refine ⟨⟨ha0,ha1⟩,EL.map ha ?_⟩;obtain ⟨n,hn⟩:∃n,n=D[x.a.toNat]'ha:=⟨_,rfl⟩;have nw0:=na.w0;have nw1:=na.w1;have nv0:=na.v0;have nv1:=na.v1;have hnl:=na.tl;simp only[<- hn] at ea nw0 nw1 nv0 nv1 hnl ⊢;simp only[<- hm] at eb mw0 mw1 mv0 mv1 ml;refine Bs ?_;apply And.intro
  all_goals
   refine .make 88 _ (show Spec1 Tryz.prog 71 [intsL n.types] _ from p71 n.types (by omega)) rfl (by simp) rfl λq o hq _=>?_;obtain ⟨rfl,rfl⟩:=hq;refine B0 ?_;refine Ay ?_;refine ⟨⟨hb0,hb1⟩,EL.map hb' ?_⟩;simp only[<- hm];refine Bs ?_;refine .pure _ (show Spec0 Tryz.prog 64 [intsL n.types,intsL m.types] _ from p64 n.types m.types (by omega)) rfl λq hq _=>?_;subst hq;refine Ad ?_;refine VIF.split (λh3=>?_) (λh3=>?_)
   ·have h3:(ndAt D x.a).types≠(ndAt D x.b).types:=by rw[ea,eb];simpa using h3
    refine Aa ?_;exact FINp .nl (iA 0) (iA 0) 10 Ae Ae Aj rfl Aj (by rw[hlk,bothE,if_neg c1,if_pos h3]) (λh=>by cases h)
   have h3:¬(ndAt D x.a).types≠(ndAt D x.b).types:=by rw[ea,eb];simpa using h3
   have w5:IntKind.i64.wrap (n.w+m.w)=n.w+m.w:=by rw[wrap_i64]<;>omega
   refine He ?_;repeat' apply And.intro
   all_goals
    refine Ab ?_;refine Ah ?_;refine VIF.split (λh4=>?_) (λh4=>?_)
    ·have h4:1125899906842624-(ndAt D x.b).w<(ndAt D x.a).w:=by rw[ea,eb];simp at h4;omega
     refine Aa ?_;refine A7 ?_;exact FINp .nl (iA 0) (iA 0) 11 Ae Ae Aj rfl Aj (by rw[hlk,bothE,if_neg c1,if_neg h3,if_pos h4]) (λh=>by cases h)
    have h4:¬1125899906842624-(ndAt D x.b).w<(ndAt D x.a).w:=by rw[ea,eb];simp at h4;omega
    refine Ab ?_;refine Ah ?_;refine FINfrz 88 (io (n.types)) (by refine Aa ?_;rfl) (io_leafy _) kept_1 ?_;refine Aw ?_;rw[im_io (by first|omega|(simp[pickI];done)|(simp[pickI];omega))];exact FINp (intsL (n.types)) (iA (n.w+m.w)) (iA (max n.v m.v)) 0 Ae Ae Aj rfl Aj (by rw[hlk,bothE,if_neg c1,if_neg h3,if_neg h4]) (λ_=>by rw[lookN,if_neg k1,if_neg (by omega),if_neg (by omega),if_neg (by omega),if_pos (.inr hk),bothN,ea,eb];rfl)
 ·have hlk:lookE F D x=distE D x:=(by rw[lookE,if_neg k1,if_neg (by omega),if_neg (by omega),if_neg (by omega),if_neg (by omega),if_pos hk]);refine Ay ?_;try (simp -implicitDefEqProofs only[go_sem,w3];repeat (refine GO ?_;simp -implicitDefEqProofs only[go_sem,w3]))
  refine .pure _ (show Spec0 Tryz.prog 102 [iA x.a,iA 0,iA ((D.length:Int)-1)] _ from s53 x.a 0 ((D.length:Int)-1)) rfl λq hq _=>?_;subst hq;rw[hin];refine Ad ?_;refine VIF.split (λh2=>?_) (λh2=>?_)
  ·have h2:inC x.a D.length=false:=(by simpa using h2);refine Aa ?_;refine A7 ?_;exact FINp .nl (iA 0) (iA 0) 1 Ae Ae Aj rfl Aj (by rw[hlk,distE,h2];rfl) (λh=>by cases h)
  have h2:inC x.a D.length=true:=(by simpa using h2);obtain ⟨ha,ha0,ha1,ea,na⟩:=at_ h2;refine Av ?_;refine Ay ?_;refine ⟨⟨ha0,ha1⟩,EL.map ha ?_⟩;obtain ⟨n,hn⟩:∃n,n=D[x.a.toNat]'ha:=⟨_,rfl⟩;have nw0:=na.w0;have nw1:=na.w1;have nv0:=na.v0;have nv1:=na.v1;have hnl:=na.tl;simp only[<- hn] at ea nw0 nw1 nv0 nv1 hnl ⊢;refine Bs ?_;apply And.intro
  all_goals
   refine .make 88 _ (show Spec1 Tryz.prog 71 [intsL n.types] _ from p71 n.types (by omega)) rfl (by simp) rfl λq o hq _=>?_;obtain ⟨rfl,rfl⟩:=hq;refine B0 ?_;refine Ay ?_;try (simp -implicitDefEqProofs only[go_sem,iA];repeat (refine GO ?_;simp -implicitDefEqProofs only[go_sem,iA]))
   refine Fd ?_;refine FINfrz 88 (io (n.types)) (by refine Aa ?_;rfl) (io_leafy _) kept_1 ?_;refine Aw ?_;rw[im_io (by first|omega|(simp[pickI];done)|(simp[pickI];omega))];exact FINp (intsL (n.types)) (iA (n.w)) (iA (n.v)) 0 Ae Ae Aj rfl Aj (by rw[hlk,distE,h2];rfl) (λ_=>by rw[lookN,if_neg k1,if_neg (by omega),if_neg (by omega),if_neg (by omega),if_neg (by omega),if_pos hk,ea];rfl)
 ·have hlk:lookE F D x=grpE x D:=(by rw[lookE,if_neg k1,if_neg (by omega),if_neg (by omega),if_neg (by omega),if_neg (by omega),if_neg (by omega),if_pos hk]);refine Ay ?_;try (simp -implicitDefEqProofs only[go_sem,w3];repeat (refine GO ?_;simp -implicitDefEqProofs only[go_sem,w3]))
  refine .pure _ (show Spec0 Tryz.prog 102 [iA x.a,iA 0,iA ((D.length:Int)-1)] _ from s53 x.a 0 ((D.length:Int)-1)) rfl λq hq _=>?_;subst hq;rw[hin];refine Ad ?_;refine VIF.split (λh2=>?_) (λh2=>?_)
  ·have h2:inC x.a D.length=false:=(by simpa using h2);refine Aa ?_;refine A7 ?_;exact FINp .nl (iA 0) (iA 0) 1 Ae Ae Aj rfl Aj (by rw[hlk,grpE,if_pos (.inl h2)]) (λh=>by cases h)
  have h2:inC x.a D.length=true:=(by simpa using h2);obtain ⟨ha,ha0,ha1,ea,na⟩:=at_ h2;refine Av ?_;refine Ay ?_;refine ⟨⟨ha0,ha1⟩,EL.map ha ?_⟩;obtain ⟨n,hn⟩:∃n,n=D[x.a.toNat]'ha:=⟨_,rfl⟩;have nw0:=na.w0;have nw1:=na.w1;have nv0:=na.v0;have nv1:=na.v1;have hnl:=na.tl;simp only[<- hn] at ea nw0 nw1 nv0 nv1 hnl ⊢;refine Bs ?_;apply And.intro
  all_goals
   refine .make 88 _ (show Spec1 Tryz.prog 71 [intsL n.types] _ from p71 n.types (by omega)) rfl (by simp) rfl λq o hq _=>?_;obtain ⟨rfl,rfl⟩:=hq;refine B0 ?_;refine Ay ?_;refine .make 229 _ (show Spec1 Tryz.prog 154 [intsL n.types,intsL x.cols] _ from p154o n.types x.cols hc (by omega)) rfl (by simp) rfl λq o hq _=>?_;obtain ⟨p,rfl,rfl,hp⟩:=hq;refine Dv ?_;refine VIF.split (λh3=>?_) (λh3=>?_)
   ·have h3:x.cols.any (outC (ndAt D x.a).types.length)=true:=by rw[ea];simpa using h3
    refine Aa ?_;refine A7 ?_;by_cases hg:inC x.a D.length=false\/x.agg<1\/4<x.agg
    ·exact FINp .nl (iA 0) (iA 0) 1 Ae Ae Aj rfl Aj (by rw[hlk,grpE,if_pos hg]) (λh=>by cases h)
    ·exact FINp .nl (iA 0) (iA 0) 1 Ae Ae Aj rfl Aj (by rw[hlk,grpE,if_neg hg,if_pos (.inl h3)]) (λh=>by cases h)
   have h3:x.cols.any (outC n.types.length)=false:=(by simpa using h3);have hp:=hp h3;have hpl:p.length=x.cols.length:=by rw[hp];simp[pickI]
   refine Ab ?_;refine .pure _ (show Spec0 Tryz.prog 102 [iA x.agg,iA 1,iA 4] _ from s53 x.agg 1 4) rfl λq hq _=>?_;subst hq;refine Ad ?_;refine VIF.split (λh4=>?_) (λh4=>?_)
   ·have h4:x.agg<1\/4<x.agg:=by simp[inB] at h4;omega
    refine Aa ?_;refine A7 ?_;exact FINp .nl (iA 0) (iA 0) 1 Ae Ae Aj rfl Aj (by rw[hlk,grpE,if_pos (.inr h4)]) (λh=>by cases h)
   have h4:1<=x.agg/\x.agg<=4:=by simp[inB] at h4;omega
   have c1:¬(inC x.a D.length=false\/x.agg<1\/4<x.agg):=by rw[h2];simp;omega
   have w6:IntKind.i64.wrap ((n.types.length:Int)-1)=(n.types.length:Int)-1:=by rw[wrap_i64]<;>omega
   refine Ab ?_;refine VIF.split (λh5=>?_) (λh5=>?_)
   ·have h5:x.agg≠1:=(by simpa using h5);(simp -implicitDefEqProofs only[go_sem,iA,w6];repeat (refine GO ?_;simp -implicitDefEqProofs only[go_sem,iA,w6]));refine .pure _ (show Spec0 Tryz.prog 102 [iA x.col,iA 0,iA ((n.types.length:Int)-1)] _ from s53 x.col 0 ((n.types.length:Int)-1)) rfl λq hq _=>?_;subst hq;rw[outC_inB];refine Ad ?_;refine VIF.split (λh6=>?_) (λh6=>?_)
    ·have h6:inC x.col (ndAt D x.a).types.length=false:=by rw[ea];simp[outC] at h6;simp[inC];omega
     refine Aa ?_;refine A7 ?_;exact FINp .nl (iA 0) (iA 0) 1 Ae Ae Aj rfl Aj (by rw[hlk,grpE,if_neg c1,if_pos (.inr ⟨h5,h6⟩)]) (λh=>by cases h)
    have h6:inC x.col n.types.length=true:=by simp[outC] at h6;simp[inC];omega
    have c2:¬(x.cols.any (outC (ndAt D x.a).types.length)=true\/(x.agg≠1/\inC x.col (ndAt D x.a).types.length=false)):=by rw[ea,h3,h6];simp
    have hcl:0<=x.col/\x.col.toNat<n.types.length:=by simp[inC] at h6;omega
    have hg:getI n.types x.col=n.types[x.col.toNat]'hcl.2:=(by simp[getI,hcl.2]);refine Ab ?_;refine VIF.split (λh7=>?_) (λh7=>?_)
    ·have h7:12<=x.cols.length:=by simp at h7;omega
     refine Aa ?_;exact FINp .nl (iA 0) (iA 0) 2 Ae Ae Aj rfl Aj (by rw[hlk,grpE,if_neg c1,if_neg c2,if_pos h7]) (λh=>by cases h)
    have h7:¬12<=x.cols.length:=by simp at h7;omega
    refine Au ?_;refine VIF.split (λh8=>?_) (λh8=>?_)
    ·have h8:x.agg=2:=(by simpa using h8);have hv:aggV x.agg n=n.v*n.w:=(by simp[aggV,h8]);have ht:aggT x.agg x.col n=3:=(by simp[aggT,h8]);refine Au ?_;refine ⟨hcl.1,EL.map hcl.2 ?_⟩;refine Ab ?_;refine VIF.split (λh9=>?_) (λh9=>?_)
     ·have h9:getI (ndAt D x.a).types x.col≠3:=by rw[ea,hg];simpa using h9
      refine Aa ?_;exact FINp .nl (iA 0) (iA 0) 10 Ae Ae Aj rfl Aj (by rw[hlk,grpE,if_neg c1,if_neg c2,if_neg h7,if_pos ⟨h8,h9⟩]) (λh=>by cases h)
     have h9:getI n.types x.col=3:=by rw[hg];simpa using h9
     have c4:¬(x.agg=2/\getI (ndAt D x.a).types x.col≠3):=by rw[ea,h9];simp
     have hmn:=Int.mul_nonneg nv0 nw0;have hpk:prodOk n.v n.w 1152921504606846976=decide (n.v*n.w<=1152921504606846976):=by simp only[prodOk,inB];rw[show decide (-1152921504606846976<=n.v*n.w)=true from decide_eq_true (by omega),Bool.true_and]
     refine Ab ?_;refine Ah ?_;repeat' apply And.intro
     all_goals try omega
     all_goals
      refine Ab ?_;refine .pure _ (show Spec0 Tryz.prog 155 [iA n.v,iA n.w,iA 1152921504606846976] _ from c78 n.v n.w 1152921504606846976 (by omega) (by omega) (by omega)) rfl λq hq _=>?_;subst hq;rw[hpk];refine A6 ?_;refine VIF.split (λh10=>?_) (λh10=>?_)
      ·have h10:¬n.v*n.w<=1152921504606846976:=(by simpa using h10);refine Aa ?_;refine A7 ?_;exact FINp .nl (iA 0) (iA 0) 11 Ae Ae Aj rfl Aj (by rw[hlk,grpE,if_neg c1,if_neg c2,if_neg h7,if_neg c4,if_pos (by rw[ea,hv];omega)]) (λh=>by cases h)
      have h10:n.v*n.w<=1152921504606846976:=(by simpa using h10);simp only[h10,decide_true,if_true];try (simp -implicitDefEqProofs only[go_sem,iA];repeat (refine GO ?_;simp -implicitDefEqProofs only[go_sem,iA]))
      refine Ah ?_;refine FINfrz 301 (io (p++[3])) (by refine Aa ?_;first|rfl|(rw[io,List.map_append,List.take_of_length_le (by simp)];rfl)) (io_leafy _) kept_1 ?_;refine Aw ?_;rw[im_io (by first|omega|(simp[pickI];done)|(simp[pickI];omega))];exact FINp (intsL (p++[3])) (iA (n.w)) (iA (max n.v (n.v*n.w))) 0 Ae Ae Aj rfl Aj (by rw[hlk,grpE,if_neg c1,if_neg c2,if_neg h7,if_neg c4,if_neg (by rw[ea,hv];omega)]) (λ_=>by rw[lookN,if_neg k1,if_neg (by omega),if_neg (by omega),if_neg (by omega),if_neg (by omega),if_neg (by omega),grpN,ea,hv,ht,hp];rfl)
    have h8:x.agg≠2:=(by simpa using h8);have c4:¬(x.agg=2/\getI (ndAt D x.a).types x.col≠3):=λh=>h8 h.1;have hv:aggV x.agg n=n.v:=(by simp[aggV,h8,h5]);have ht:aggT x.agg x.col n=getI n.types x.col:=(by simp[aggT,h8,h5]);refine Ab ?_;refine Ah ?_;refine ⟨hcl.1,EL.map hcl.2 ?_⟩;refine Ab ?_;repeat' apply And.intro
    all_goals try omega
    all_goals
     refine Ab ?_;refine Ah ?_;refine FINfrz 283 (io (p++[n.types[x.col.toNat]'hcl.2])) (by refine Aa ?_;first|rfl|(rw[io,List.map_append,List.take_of_length_le (by simp)];rfl)) (io_leafy _) kept_1 ?_;refine Aw ?_;rw[im_io (by first|omega|(simp[pickI];done)|(simp[pickI];omega))];exact FINp (intsL (p++[n.types[x.col.toNat]'hcl.2])) (iA (n.w)) (iA (n.v)) 0 Ae Ae Aj rfl Aj (by rw[hlk,grpE,if_neg c1,if_neg c2,if_neg h7,if_neg c4,if_neg (by rw[ea,hv];omega)]) (λ_=>by rw[lookN,if_neg k1,if_neg (by omega),if_neg (by omega),if_neg (by omega),if_neg (by omega),if_neg (by omega),grpN,ea,hv,ht,hp,hg];simp only[Nd.c,show max n.v n.v=n.v by omega])
   have h5:x.agg=1:=(by simpa using h5);have c2:¬(x.cols.any (outC (ndAt D x.a).types.length)=true\/(x.agg≠1/\inC x.col (ndAt D x.a).types.length=false)):=by rw[ea,h3];simp[h5]
   refine Ab ?_;refine VIF.split (λh7=>?_) (λh7=>?_)
   ·have h7:12<=x.cols.length:=by simp at h7;omega
    refine Aa ?_;exact FINp .nl (iA 0) (iA 0) 2 Ae Ae Aj rfl Aj (by rw[hlk,grpE,if_neg c1,if_neg c2,if_pos h7]) (λh=>by cases h)
   have h7:¬12<=x.cols.length:=by simp at h7;omega
   have c4:¬(x.agg=2/\getI (ndAt D x.a).types x.col≠3):=λh=>by have:=h.1;omega
   have hv:aggV x.agg n=n.w:=(by simp[aggV,h5]);have ht:aggT x.agg x.col n=3:=(by simp[aggT,h5]);refine Au ?_;refine Ah ?_;repeat' apply And.intro
   all_goals try omega
   all_goals
    refine Ab ?_;refine Ah ?_;refine FINfrz 289 (io (p++[3])) (by refine Aa ?_;first|rfl|(rw[io,List.map_append,List.take_of_length_le (by simp)];rfl)) (io_leafy _) kept_1 ?_;refine Aw ?_;rw[im_io (by first|omega|(simp[pickI];done)|(simp[pickI];omega))];exact FINp (intsL (p++[3])) (iA (n.w)) (iA (max n.v n.w)) 0 Ae Ae Aj rfl Aj (by rw[hlk,grpE,if_neg c1,if_neg c2,if_neg h7,if_neg c4,if_neg (by rw[ea,hv];omega)]) (λ_=>by rw[lookN,if_neg k1,if_neg (by omega),if_neg (by omega),if_neg (by omega),if_neg (by omega),if_neg (by omega),grpN,ea,hv,ht,hp];rfl)
end Yt
