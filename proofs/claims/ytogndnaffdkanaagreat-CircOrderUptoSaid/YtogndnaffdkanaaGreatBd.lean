/- Contracts of the program's functions over abstract values and states, plain facts on which these lean, and the framework of these values over the model. The conditions stand in each theorem. -/
import Derived.Test.YtogndnaffdkanaaGreatBc
import Derived.Test.YtogndnaffdkanaaGreatBb
import Derived.Shelf.RegionOpenPlain
import Derived.Shelf.Spec.SlicesInsertGrow
set_option linter.all false
set_option maxRecDepth 10000
set_option maxHeartbeats 16000000
namespace Yt
open Go Go.Vc Go.Proofs
theorem Es_refl {st:St} {m:List (Nat×Option Nat)}:∀{l:List (List AV)},(∀x∈l,∀a∈x,a.leaf=true)->Es st m l l:=λ{l} h=>.same ⟨0,[]⟩ _ _ h rfl
theorem Es_set {st:St} {m:List (Nat×Option Nat)}:∀{l:List (List AV)} {i:Nat} {cs cs':List AV},(∀x∈l,∀a∈x,a.leaf=true)->l[i]?=some cs'->wk.wks st m cs cs'->Es st m (l.set i cs) l
 | [],_,_,_,_,h,_=>by simp at h
 | x::r,0,cs,cs',hl,h,hw=>by
   simp at h;subst h;exact .cons hw (Es_refl λy hy=>hl y (by simp[hy]))
 | x::r,i+1,cs,cs',hl,h,hw=>.cons (wks_leaf (hl x (by simp))) (Es_set (λy hy=>hl y (by simp[hy])) (by simpa using h) hw)
theorem s57 (z:List It) (hl:z.length<=268435456) (hr:∀t∈z,t.row.length<1073741824) :
 Spec1 Tryz.prog 88 [setA z] (λr o=>r=.rf 0 0 z.length/\o=so z):=by
 refine spec1_of_vc tabOk elems ord88 Tryz.func88 rfl (rl:=[.tmp 2]) rfl (by kernel_rfl) rfl ?_;refine Af ?_;refine .make 6 _ (s38 z (by omega)) rfl (by simp) rfl λq o hq _=>?_;obtain ⟨rfl,rfl⟩:=hq;refine Aa ?_
 refine LOOP.mk (ι:={i:Nat//i<=z.length}) (λp=>mkS [(3,.rf 1000 0 z.length),(8,iA z.length),(9,iA p.1)] [(1000,so z)] [1000])
  (λp=>z.length-p.1) ⟨0,Nat.zero_le _⟩ [(1000,some 6)] rfl rfl ?_ (λp=>?_)
 ·refine Am ?_;exact ⟨id,rfl,.same (so z) _ _ (so_leafy z) rfl⟩
 ·obtain ⟨i,hi⟩:=p;refine Am ?_;refine VIF.split (λh=>?_) (λh=>?_)
  ·have h:i<z.length:=(by simpa using h);have w1:=wrap_add1 (show i<4611686018427387904 by omega);refine Aa ?_;refine ⟨by omega,EL.map h ?_⟩;refine Ar ?_;refine .make 19 _ (s43 z[i].row (by have:=hr _ (List.getElem_mem h);omega)) rfl (by simp) rfl λq o hq _=>?_;obtain ⟨rfl,rfl⟩:=hq;refine Ak ?_;refine ⟨by omega,EL.map h ?_⟩;refine El ?_;refine BACK.mk ⟨i+1,by omega⟩ [(1000,some 1000)] rfl rfl (by show z.length-(i+1)<z.length-i;omega) ?_;refine C3 ?_;refine ⟨id,Es_set (so_leafy z) (show (z.map It.c)[i]?=some (It.c z[i]) by simp[h]) ?_⟩;refine A4 ?_;exact ⟨by decide,_,rfl,ro3_leafy _,rfl,List.take_of_length_le (by simp[ro3])⟩
  ·have h:i=z.length:=by simp at h;omega
   refine Aa ?_;refine FINmk [(0,some 1000)] [(2,.rf 0 0 z.length)] [(0,so z)] [0] rfl ?_ ?_
   ·refine Bu ?_;exact .same (so z) _ _ (so_leafy z) rfl
   ·exact ⟨so z,⟨⟨rfl,rfl⟩,rfl⟩,so_leafy z,rfl⟩
def negI (t:It):It:=⟨t.row,-t.w⟩
theorem s31 (z:List It) (hl:z.length<=268435456) (hr:∀t∈z,t.row.length<1073741824) :
 Spec1 Tryz.prog 62 [setA z] (λr o=>∃(out:List It) (err:Int),r=.tu [.rf 0 0 out.length,iA err]/\o=so out/\((¬Good z/\out=[]/\err=1)\/(Good z/\out=z.map negI/\err=0))):=by
 refine spec1_of_vc tabOk elems ord62 Tryz.func62 rfl (rl:=[.tmp 2,.tmp 3]) rfl (by kernel_rfl) rfl ?_;refine Af ?_;refine .pure _ (s16 z (by omega) (λt ht=>by have:=hr t ht;omega)) rfl λq hq _=>?_;obtain ⟨e,rfl,he,hg⟩:=hq;refine Ab ?_;refine VIF.split (λh=>?_) (λh=>?_)
 ·have h:e≠0:=(by simpa using h);have h1:e=1:=(by omega);subst h1;refine Aa ?_;refine FINmk [(0,none)] [(2,.rf 0 0 0),(3,iA 1)] [(0,so [])] [0] rfl ?_ ?_
  ·refine Ab ?_;simp[so]
  ·exact ⟨so [],⟨⟨[],1,rfl,rfl,.inl ⟨λg=>h (hg.2 g),rfl,rfl⟩⟩,rfl⟩,so_leafy [],rfl⟩
 ·have h:e=0:=(by simpa using h);have hg:=hg.1 h;refine Aa ?_;refine .make 13 _ (s57 z hl hr) rfl (by simp) rfl λq o hq _=>?_;obtain ⟨rfl,rfl⟩:=hq;refine Aa ?_
  refine LOOP.mk (ι:={p:Nat×List It//p.1<=z.length/\p.2.length=z.length/\∀j (h1:j<p.2.length) (h2:j<z.length),p.2[j]=if j<p.1 then negI z[j] else z[j]}) (λp=>mkS [(5,.rf 1000 0 z.length),(15,iA z.length),(16,iA p.1.1)] [(1000,so p.1.2)] [1000])
   (λp=>z.length-p.1.1) ⟨(0,z),Nat.zero_le _,rfl,λj h1 h2=>by rw[if_neg (Nat.not_lt_zero _)]⟩ [(1000,some 13)] rfl rfl ?_ (λp=>?_)
  ·refine Am ?_;exact ⟨id,rfl,.same (so z) _ _ (so_leafy z) rfl⟩
  ·obtain ⟨⟨i,o⟩,hi,hol,hos⟩:=p;simp only at hi hol hos;refine Am ?_;refine VIF.split (λh=>?_) (λh=>?_)
   ·have h:i<z.length:=(by simpa using h);have ho:i<o.length:=(by omega);have hoi:o[i]=z[i]:=(by rw[hos i ho h,if_neg (Nat.lt_irrefl _)]);have w1:=wrap_add1 (show i<4611686018427387904 by omega);have hw:=okW_le ((good_made.1 hg).1.nz _ (List.getElem_mem h)).2;have w2:IntKind.i64.wrap (0-z[i].w)=-z[i].w:=by rw[wrap_i64]<;>omega
    have w3:IntKind.i64.wrap (0-o[i].w)=-z[i].w:=by rw[hoi];exact w2
    refine Aa ?_;refine ⟨by omega,EL.map ho ?_⟩;refine D9 ?_;refine ⟨by omega,EL.map ho ?_⟩;refine Gf ?_;refine BACK.mk ⟨(i+1,o.set i (negI z[i])),by omega,by simp[hol],λj h1 h2=>?_⟩ [(1000,some 1000)] rfl rfl (by show z.length-(i+1)<z.length-i;omega) ?_
    ·show (o.set i (negI z[i]))[j]=_;rw[List.getElem_set];by_cases e1:i=j
     ·subst e1;rw[if_pos rfl,if_pos (by omega)]
     ·rw[if_neg e1,hos j (by omega) h2];by_cases e2:j<i
      ·rw[if_pos e2,if_pos (by omega)]
      ·rw[if_neg e2,if_neg (by omega)]
    refine C3 ?_;have e1:(List.map It.c o).set i [rowA o[i].row,iA (-z[i].w)]=List.map It.c (o.set i (negI z[i])):=by rw[List.map_set,hoi];rfl
    exact ⟨id,.same (so []) _ _ (λx hx=>so_leafy (o.set i (negI z[i])) x (by rw[so];exact e1▸hx)) e1⟩
   ·have h:i=z.length:=by simp at h;omega
    have ho:o=z.map negI:=List.ext_getElem (by simp[hol]) λj h1 h2=>by rw[hos j h1 (by omega),if_pos (by omega),List.getElem_map]
    refine Aa ?_;refine FINmk [(0,some 1000)] [(2,.rf 0 0 z.length),(3,iA 0)] [(0,so (z.map negI))] [0] rfl ?_ ?_
    ·refine Am ?_;rw[ho];exact .same (so (z.map negI)) _ _ (so_leafy (z.map negI)) rfl
    ·exact ⟨so (z.map negI),⟨⟨z.map negI,0,by rw[List.length_map];rfl,rfl,.inr ⟨hg,rfl,rfl⟩⟩,rfl⟩,so_leafy (z.map negI),rfl⟩
theorem tot_neg (z:List It) (r:List V):tot r (z.map negI)=-tot r z:=by
 induction z with
 | nil=>simp[tot]
 | cons t z ih=>simp only[List.map_cons,tot,ih,negI];split<;>omega
theorem abs_neg (z:List It):absS (z.map negI)=absS z:=by
 induction z with
 | nil=>rfl
 | cons t z ih=>simp only[List.map_cons,absS,ih,negI];omega
theorem okW_neg {w:Int} (h:okW w=true):okW (-w)=true:=by simp[okW,inB] at h ⊢;omega
theorem made_neg {z:List It} (h:Made z):Made (z.map negI):=by
 refine ⟨?_,λt ht=>?_⟩
 ·rw[List.pairwise_map];exact h.pw
 ·obtain ⟨u,hu,rfl⟩:=List.mem_map.1 ht;have:=h.nz u hu;exact ⟨by simp only[negI];omega,okW_neg this.2⟩
theorem abs_made:∀(x z:List It),Made x->(∀r,tot r x=tot r z)->absS x<=absS z:=by
 have split:∀(r:List V) (z:List It),-absS z<=tot r z-tot r z/\absS (z.filter λt=>!decide (cmpR t.row r=0))+tot r z<=absS z/\absS (z.filter λt=>!decide (cmpR t.row r=0))-tot r z<=absS z:=by
  intro r z
  induction z with
  | nil=>simp[absS,tot]
  | cons t z ih=>
    have:=absS_pos z;simp only[List.filter_cons,absS,tot];by_cases e:cmpR t.row r=0
    ·simp[e];omega
    ·simp[e,absS];omega
 have rest:∀(r q:List V) (x:List It),(q=r->tot q (x.filter λt=>!decide (cmpR t.row r=0))=0)/\(q≠r->tot q (x.filter λt=>!decide (cmpR t.row r=0))=tot q x):=by
  intro r q x;refine ⟨λe=>?_,λe=>?_⟩
  ·subst e;exact tot_none λt ht=>by simpa using (List.mem_filter.1 ht).2
  ·induction x with
   | nil=>rfl
   | cons t x ih=>
     simp only[List.filter_cons,tot];by_cases e2:cmpR t.row r=0
     ·have e3:¬cmpR t.row q=0:=λh=>e ((lin_cmpR.eq _ _ h).symm.trans (lin_cmpR.eq _ _ e2));simp[e2,e3,<- ih]
     ·simp[e2,tot,<- ih]
 intro x
 induction x with
 | nil=>intro z _ _;simp only[absS];exact absS_pos z
 | cons t x ih=>
   intro z hm h;have hm':Made x:=⟨(List.pairwise_cons.1 hm.pw).2,λu hu=>hm.nz u (by simp[hu])⟩;have hne:∀u∈x,u.row≠t.row:=λu hu e=>by have:=(List.pairwise_cons.1 hm.pw).1 u hu;have h0:=cI_eq.2 e.symm;omega
   have h1:=ih (z.filter λu=>!decide (cmpR u.row t.row=0)) hm' λq=>by
    by_cases e:q=t.row
    ·rw[(rest t.row q z).1 e,e];exact tot_none λu hu e2=>hne u hu (lin_cmpR.eq _ _ e2)
    ·rw[(rest t.row q z).2 e,<- h q];have:¬cmpR t.row q=0:=λe2=>e (lin_cmpR.eq _ _ e2).symm;simp[tot,this]
   have h2:=tot_made hm (t:=t) (by simp);rw[h t.row] at h2;have h3:=split t.row z;simp only[absS];omega
structure Pr where
 kind:Int
 col:Int
 other:Int
 val:V
def Pr.c (p:Pr):List AV:=[.pr (.int .i64 p.kind),.pr (.int .i64 p.col),.pr (.int .i64 p.other),.pr (.int .i64 p.val.k),.pr (.int .i64 p.val.i),.pr (.string p.val.s)]
def inC (c n:Int):Bool:=decide (0<=c)&&decide (c<n)
theorem c99 (c n:Int):Spec0 Tryz.prog 142 [iA c,iA n] (·=bA (inC c n)):=by
 refine spec0_of_vc tabOk elems ord142 Tryz.func142 rfl (rl:=[.tmp 4]) rfl (by kernel_rfl) rfl ?_;refine Ab ?_;refine VIF.split (λh=>?_) (λh=>?_)
 ·refine Aa ?_;simp at h;simp[h,inC,bA]
 ·refine Aa ?_;simp at h;simp[inC,bA];intro;omega
def otherP (p:Pr):Bool:=decide (p.kind=3)||decide (p.kind=4)
theorem c100 (p:Pr):Spec0 Tryz.prog 143 [.ag p.c] (·=bA (otherP p)):=by
 refine spec0_of_vc tabOk elems ord143 Tryz.func143 rfl (rl:=[.tmp 2]) rfl (by kernel_rfl) rfl ?_;refine Bl ?_;refine VIF.split (λh=>?_) (λh=>?_)
 ·refine Aa ?_;simp at h;simp[h,otherP,bA]
 ·refine Aa ?_;simp at h;simp[h,otherP,bA]
def getV (r:List V) (c:Int):V:=(r[c.toNat]?).getD ⟨0,0,ByteArray.empty⟩
def holdsP (p:Pr) (r:List V):Bool:=
 inC p.col r.length&&!(otherP p&&!inC p.other r.length) &&
  (if p.kind=1 then decide (cmpV (getV r p.col) p.val=0)
   else if p.kind=2 then decide (cmpV (getV r p.col) p.val<0)
   else if p.kind=3 then decide (cmpV (getV r p.col) (getV r p.other)=0)
   else if p.kind=4 then decide (cmpV (getV r p.col) (getV r p.other)<0)
   else if p.kind=5 then decide ((getV r p.col).k=1)
   else if p.kind=6 then !decide ((getV r p.col).k=1)
   else false)
theorem c60 (p:Pr) (r:List V) (hr:r.length<4611686018427387904):Spec0 Tryz.prog 90 [.ag p.c,rowA r] (·=bA (holdsP p r)):=by
 refine spec0_of_vc tabOk elems ord90 Tryz.func90 rfl (rl:=[.tmp 4]) rfl (by kernel_rfl) rfl ?_;(simp -implicitDefEqProofs only[go_sem,Pr.c,rowA];repeat (refine GO ?_;simp -implicitDefEqProofs only[go_sem,Pr.c,rowA]));refine .pure _ (c99 p.col r.length) rfl λq hq _=>?_;subst hq;refine Ad ?_;refine VIF.split (λh=>?_) (λh=>?_)
 ·have h:inC p.col r.length=false:=(by simpa using h);refine Aa ?_;simp[holdsP,h,bA]
 ·have h:inC p.col r.length=true:=(by simpa using h);have hc:0<=p.col/\p.col.toNat<r.length:=by simp[inC] at h;omega
  have hcv:getV r p.col=r[p.col.toNat]'hc.2:=(by simp[getV,hc.2]);refine Aa ?_;refine .pure _ (c100 p) rfl λq hq _=>?_;subst hq;refine Ad ?_;refine VIF.split (λg=>?_) (λg=>?_)
  ·refine Aa ?_;refine .pure _ (c99 p.other r.length) rfl λq hq _=>?_;subst hq;refine Ad ?_;refine VIF.split (λg2=>?_) (λg2=>?_)
   ·have g2:inC p.other r.length=false:=(by simpa using g2);refine Aa ?_;simp[holdsP,g,g2,bA]
   ·have g2:inC p.other r.length=true:=(by simpa using g2);have hgu:(otherP p&&!inC p.other r.length)=false:=(by simp[g2]);refine Aa ?_;refine ⟨by omega,EL.map hc.2 ?_⟩;refine Ao ?_;refine VIF.split (λk1=>?_) (λk1=>?_)
    ·have k1:p.kind=1:=(by simpa using k1);refine Aa ?_;refine .pure _ (s45 (r[p.col.toNat]'hc.2) p.val) rfl λq hq _=>?_;subst hq;refine Aa ?_;simp[holdsP,h,hgu,k1,hcv,bA]
    ·have k1:p.kind≠1:=(by simpa using k1);refine Aa ?_;refine VIF.split (λk2=>?_) (λk2=>?_)
     ·have k2:p.kind=2:=(by simpa using k2);refine Aa ?_;refine .pure _ (s45 (r[p.col.toNat]'hc.2) p.val) rfl λq hq _=>?_;subst hq;refine Aa ?_;simp[holdsP,h,hgu,k2,hcv,bA]
     ·have k2:p.kind≠2:=(by simpa using k2);refine Aa ?_;refine VIF.split (λk3=>?_) (λk3=>?_)
      ·have k3:p.kind=3:=(by simpa using k3);have ho:inC p.other r.length=true:=(by simpa [otherP,k3] using hgu);have hd:0<=p.other/\p.other.toNat<r.length:=by simp[inC] at ho;omega
       have hdv:getV r p.other=r[p.other.toNat]'hd.2:=(by simp[getV,hd.2]);refine Aa ?_;refine ⟨by omega,EL.map hd.2 ?_⟩;refine Ao ?_;refine .pure _ (s45 (r[p.col.toNat]'hc.2) (r[p.other.toNat]'hd.2)) rfl λq hq _=>?_;subst hq;refine Aa ?_;simp[holdsP,h,ho,k3,hcv,hdv,bA]
      ·have k3:p.kind≠3:=(by simpa using k3);refine Aa ?_;refine VIF.split (λk4=>?_) (λk4=>?_)
       ·have k4:p.kind=4:=(by simpa using k4);have ho:inC p.other r.length=true:=(by simpa [otherP,k4] using hgu);have hd:0<=p.other/\p.other.toNat<r.length:=by simp[inC] at ho;omega
        have hdv:getV r p.other=r[p.other.toNat]'hd.2:=(by simp[getV,hd.2]);refine Aa ?_;refine ⟨by omega,EL.map hd.2 ?_⟩;refine Ao ?_;refine .pure _ (s45 (r[p.col.toNat]'hc.2) (r[p.other.toNat]'hd.2)) rfl λq hq _=>?_;subst hq;refine Aa ?_;simp[holdsP,h,ho,k4,hcv,hdv,bA]
       ·have k4:p.kind≠4:=(by simpa using k4);refine Aa ?_;refine VIF.split (λk5=>?_) (λk5=>?_)
        ·have k5:p.kind=5:=(by simpa using k5);refine Aa ?_;simp[holdsP,h,hgu,k5,hcv,bA]
        ·have k5:p.kind≠5:=(by simpa using k5);refine Aa ?_;refine VIF.split (λk6=>?_) (λk6=>?_)
         ·have k6:p.kind=6:=(by simpa using k6);refine Aa ?_;simp[holdsP,h,hgu,k6,hcv,bA]
         ·have k6:p.kind≠6:=(by simpa using k6);refine Aa ?_;simp[holdsP,k1,k2,k3,k4,k5,k6,bA]
  ·have hgu:(otherP p&&!inC p.other r.length)=false:=(by simp[g]);refine Aa ?_;refine ⟨by omega,EL.map hc.2 ?_⟩;refine Ao ?_;refine VIF.split (λk1=>?_) (λk1=>?_)
   ·have k1:p.kind=1:=(by simpa using k1);refine Aa ?_;refine .pure _ (s45 (r[p.col.toNat]'hc.2) p.val) rfl λq hq _=>?_;subst hq;refine Aa ?_;simp[holdsP,h,hgu,k1,hcv,bA]
   ·have k1:p.kind≠1:=(by simpa using k1);refine Aa ?_;refine VIF.split (λk2=>?_) (λk2=>?_)
    ·have k2:p.kind=2:=(by simpa using k2);refine Aa ?_;refine .pure _ (s45 (r[p.col.toNat]'hc.2) p.val) rfl λq hq _=>?_;subst hq;refine Aa ?_;simp[holdsP,h,hgu,k2,hcv,bA]
    ·have k2:p.kind≠2:=(by simpa using k2);refine Aa ?_;refine VIF.split (λk3=>?_) (λk3=>?_)
     ·have k3:p.kind=3:=(by simpa using k3);have ho:inC p.other r.length=true:=(by simpa [otherP,k3] using hgu);have hd:0<=p.other/\p.other.toNat<r.length:=by simp[inC] at ho;omega
      have hdv:getV r p.other=r[p.other.toNat]'hd.2:=(by simp[getV,hd.2]);refine Aa ?_;refine ⟨by omega,EL.map hd.2 ?_⟩;refine Ao ?_;refine .pure _ (s45 (r[p.col.toNat]'hc.2) (r[p.other.toNat]'hd.2)) rfl λq hq _=>?_;subst hq;refine Aa ?_;simp[holdsP,h,ho,k3,hcv,hdv,bA]
     ·have k3:p.kind≠3:=(by simpa using k3);refine Aa ?_;refine VIF.split (λk4=>?_) (λk4=>?_)
      ·have k4:p.kind=4:=(by simpa using k4);have ho:inC p.other r.length=true:=(by simpa [otherP,k4] using hgu);have hd:0<=p.other/\p.other.toNat<r.length:=by simp[inC] at ho;omega
       have hdv:getV r p.other=r[p.other.toNat]'hd.2:=(by simp[getV,hd.2]);refine Aa ?_;refine ⟨by omega,EL.map hd.2 ?_⟩;refine Ao ?_;refine .pure _ (s45 (r[p.col.toNat]'hc.2) (r[p.other.toNat]'hd.2)) rfl λq hq _=>?_;subst hq;refine Aa ?_;simp[holdsP,h,ho,k4,hcv,hdv,bA]
      ·have k4:p.kind≠4:=(by simpa using k4);refine Aa ?_;refine VIF.split (λk5=>?_) (λk5=>?_)
       ·have k5:p.kind=5:=(by simpa using k5);refine Aa ?_;simp[holdsP,h,hgu,k5,hcv,bA]
       ·have k5:p.kind≠5:=(by simpa using k5);refine Aa ?_;refine VIF.split (λk6=>?_) (λk6=>?_)
        ·have k6:p.kind=6:=(by simpa using k6);refine Aa ?_;simp[holdsP,h,hgu,k6,hcv,bA]
        ·have k6:p.kind≠6:=(by simpa using k6);refine Aa ?_;simp[holdsP,k1,k2,k3,k4,k5,k6,bA]
mutual
theorem lend_noId {f:List AV->List AV} {p:List AV->Prop} {objs:Nat->Option Ob}:∀(v:AV),v.noId=true->v.lendW f objs=v/\v.lok p objs
 | .un,_=>by simp[AV.lendW,AV.lok]
 | .pr v,_=>by simp[AV.lendW,AV.lok]
 | .nl,_=>by simp[AV.lendW,AV.lok]
 | .im a b,_=>by simp[AV.lendW,AV.lok]
 | .rf a b c,h=>by simp[AV.noId] at h
 | .pt a b c,h=>by simp[AV.noId] at h
 | .ro a b,_=>by simp[AV.lendW,AV.lok]
 | .ag cs,h=>by
   have:=lends_noId (f:=f) (p:=p) (objs:=objs) cs (by simpa [AV.noId] using h);simp only[AV.lendW,AV.lok];exact ⟨by rw[this.1],this.2⟩
 | .tu cs,h=>by
   have:=lends_noId (f:=f) (p:=p) (objs:=objs) cs (by simpa [AV.noId] using h);simp only[AV.lendW,AV.lok];exact ⟨by rw[this.1],this.2⟩
 | .fn g cs,h=>by
   have:=lends_noId (f:=f) (p:=p) (objs:=objs) cs (by simpa [AV.noId] using h);simp only[AV.lendW,AV.lok];exact ⟨by rw[this.1],this.2⟩
theorem lends_noId {f:List AV->List AV} {p:List AV->Prop} {objs:Nat->Option Ob}:∀(l:List AV),noIds l=true->lendsW f objs l=l/\loks p objs l
 | [],_=>⟨rfl,trivial⟩
 | x::r,h=>by
   simp only[noIds,Bool.and_eq_true] at h;have h1:=lend_noId (f:=f) (p:=p) (objs:=objs) x h.1;have h2:=lends_noId (f:=f) (p:=p) (objs:=objs) r h.2;simp only[lendsW,loks];exact ⟨by rw[h1.1,h2.1],h1.2,h2.2⟩
end
theorem so_leafs (z:List It):leafs2 (z.map It.c):=by have:=so_leafy z;rw[so,leafy_do] at this;exact this
structure Dl (p:It->Bool) (z y:List It) (i j:Nat):Prop where
 ij:i<j
 jn:j<=z.length
 len:y.length=z.length
 kept:y.take i=(z.take j).filter λt=>!p t
 rest:y.drop j=z.drop j
theorem Dl.keep {p:It->Bool} {z y:List It} {i j:Nat} (d:Dl p z y i j) (hj:j<z.length) (hp:p z[j]=false):Dl p z (y.set i z[j]) (i+1) (j+1):=by
 obtain ⟨h1,h2,h3,h4,h5⟩:=d;refine ⟨by omega,by omega,by simp[h3],?_,?_⟩
 ·rw[List.take_succ_eq_append_getElem (by simp;omega),List.take_succ_eq_append_getElem hj,List.filter_append,<- h4,List.take_set_of_le (Nat.le_refl _)];simp[hp]
 ·rw[List.drop_set_of_lt (by omega)];have:=congrArg (List.drop 1) h5;simpa [List.drop_drop,Nat.add_comm] using this
theorem Dl.drop {p:It->Bool} {z y:List It} {i j:Nat} (d:Dl p z y i j) (hj:j<z.length) (hp:p z[j]=true):Dl p z y i (j+1):=by
 obtain ⟨h1,h2,h3,h4,h5⟩:=d;refine ⟨by omega,by omega,h3,?_,?_⟩
 ·rw[List.take_succ_eq_append_getElem hj,List.filter_append,<- h4];simp[hp]
 ·have:=congrArg (List.drop 1) h5;simpa [List.drop_drop,Nat.add_comm] using this
theorem Dl.at {p:It->Bool} {z y:List It} {i j:Nat} (d:Dl p z y i j) (hj:j<z.length) (hy:j<y.length):y[j]=z[j]:=by
 have h:(y.drop j)[0]?=(z.drop j)[0]?:=by rw[d.rest]
 simp only[List.getElem?_drop,Nat.add_zero,List.getElem?_eq_getElem hj,List.getElem?_eq_getElem hy,Option.some.injEq] at h;exact h
theorem Dl.done {p:It->Bool} {z y:List It} {i:Nat} (d:Dl p z y i z.length):y.take i=z.filter λt=>!p t:=by rw[d.kept,List.take_length]
theorem c82 (g:Nat) (caps:List AV) (hc:noIds caps=true) (p:It->Bool) (B:It->Prop) (hg:∀t:It,B t->Spec0 Tryz.prog g (.ag t.c::caps) (·=bA (p t))) (z:List It) (hB:∀t∈z,B t) (hl:z.length<=268435456) :
 SpecB Tryz.prog 87 [.rf 0 0 z.length,.fn g caps] (so z) (λr o'=>∃y,y=(z.filter λt=>!p t)/\r=.rf 0 0 y.length/\o'.sz=2/\o'.es.take y.length=y.map It.c):=by
 refine specB_of_vc tabOk elems ord87 Tryz.func87 rfl (rl:=[.tmp 4]) rfl (by kernel_rfl) rfl ?_;refine Bu ?_;refine .lendTo (s47 g caps hc p B hg z hB (by omega)) ?_ (by rintro _ rfl;rfl) λq hq=>?_
 ·refine Af ?_;exact ⟨by rw[List.take_of_length_le (by simp),(lends_noId (p:=leafs) caps hc).1],so_leafs z,(lends_noId (f:=λx=>x) caps hc).2⟩
 subst hq;refine B7 ?_;refine VIF.split (λh=>?_) (λh=>?_)
 ·have hn:z.findIdx? p=none:=by
   cases hf:z.findIdx? p with
   | none=>rfl
   | some i=>rw[hf] at h;simp[idxI] at h
  rw[List.findIdx?_eq_none_iff] at hn;have hz:(z.filter λt=>!p t)=z:=List.filter_eq_self.2 λt ht=>by simp[hn t ht]
  refine Aa ?_;refine FIN_B [(4,.rf 0 0 z.length)] rfl (so_leafy z) ?_ ?_
  ·exact Ag
  ·exact ⟨so z,⟨⟨z,hz.symm,rfl,rfl,List.take_of_length_le (by simp[so])⟩,rfl⟩,so_leafy z,rfl⟩
 ·obtain ⟨i,hf⟩:∃i,z.findIdx? p=some i:=by
   cases hf:z.findIdx? p with
   | none=>rw[hf] at h;simp[idxI] at h
   | some i=>exact ⟨i,rfl⟩
  rw[hf];rw[List.findIdx?_eq_some_iff_getElem] at hf;obtain ⟨hi,hp,hlt⟩:=hf;have start:Dl p z z i (i+1):=by
   refine ⟨by omega,by omega,rfl,?_,rfl⟩;rw[List.take_succ_eq_append_getElem hi,List.filter_append];have:(z.take i).filter (λt=>!p t)=z.take i:=List.filter_eq_self.2 λt ht=>by obtain ⟨j,hj,rfl⟩:=List.mem_iff_getElem.1 ht;rw[List.length_take] at hj;rw[List.getElem_take];have:=hlt j (by omega);simp[this]
   rw[this];simp[hp]
  have w0:=wrap_add1 (show i<4611686018427387904 by omega);refine Gw ?_
  refine LOOP.mk (ι:={q:Nat×Nat×List It//Dl p z q.2.2 q.1 q.2.1}) (λq=>mkS [(0,.rf 0 0 z.length),(1,.fn g caps),(5,iA q.1.1),(6,iA q.1.2.1)] [(0,so q.1.2.2)] [0])
   (λq=>z.length-q.1.2.1) ⟨(i,i+1,z),start⟩ [(0,some 0)] rfl rfl ?_ (λq=>?_)
  ·refine Am ?_;exact ⟨wks_noId caps hc,.same (so z) _ _ (so_leafy z) rfl⟩
  ·obtain ⟨⟨i,j,y⟩,d⟩:=q;simp only at d;have dl:=d.len;have dij:=d.ij;have djn:=d.jn;refine Am ?_;refine VIF.split (λh1=>?_) (λh1=>?_)
   ·have h1:j<z.length:=(by simpa using h1);have hjy:j<y.length:=(by omega);have hat:=d.at h1 hjy;have w1:=wrap_add1 (show j<4611686018427387904 by omega);have w2:=wrap_add1 (show i<4611686018427387904 by omega);refine Aa ?_;refine ⟨by omega,EL.map hjy ?_⟩;refine Ar ?_;refine .pure _ (hg y[j] (by rw[hat];exact hB _ (List.getElem_mem h1))) (by simpa [noIds,It.c,AV.noId,rowA,iA] using hc) λq hq _=>?_;subst hq;refine Ad ?_;refine VIF.split (λh2=>?_) (λh2=>?_)
    ·have h2:p z[j]=false:=by rw[<- hat];simpa using h2
     have d2:=d.keep h1 h2;have hiy:i<y.length:=(by omega);rw[<- hat] at d2;refine Aa ?_;refine ⟨by omega,EL.map hiy ?_⟩;refine C0 ?_;refine BACK.mk ⟨(i+1,j+1,y.set i y[j]),d2⟩ [(0,some 0)] rfl rfl (by show z.length-(j+1)<z.length-j;omega) ?_;refine Ee ?_;have e1:(List.map It.c y).set i [rowA y[j].row,iA y[j].w]=List.map It.c (y.set i y[j]):=by rw[List.map_set];rfl
     exact ⟨λ_=>trivial,wks_noId caps hc,.same (so []) _ _ (λx hx=>so_leafy (y.set i y[j]) x (by rw[so];exact e1▸hx)) e1⟩
    ·have h2:p z[j]=true:=by rw[<- hat];simpa using h2
     have d2:=d.drop h1 h2;refine Co ?_;refine BACK.mk ⟨(i,j+1,y),d2⟩ [(0,some 0)] rfl rfl (by show z.length-(j+1)<z.length-j;omega) ?_;refine Ee ?_;exact ⟨λ_=>trivial,wks_noId caps hc,.same (so y) _ _ (so_leafy y) rfl⟩
   ·have h1:j=z.length:=by simp at h1;omega
    subst h1;have hk:=d.done;refine Aa ?_;refine ⟨by omega,by omega,by omega,?_⟩;have hlf:(Ob.mk 2 (List.take i (List.map It.c y)++List.replicate (z.length-i) [.nl,iA 0]++List.drop (i+(z.length-i)) (List.map It.c y))).leafy:=by
     intro x hx a ha;simp only[List.mem_append] at hx;rcases hx with (hx|hx)|hx
     ·exact so_leafy y x (List.mem_of_mem_take hx) a ha
     ·rw[(List.mem_replicate.1 hx).2] at ha;simp only[List.mem_cons,List.not_mem_nil,or_false] at ha;rcases ha with rfl|rfl<;>rfl
     ·exact so_leafy y x (List.mem_of_mem_drop hx) a ha
    refine FIN_B [(4,.rf 0 0 i)] rfl hlf ?_ ?_
    ·refine Aa ?_;exact ⟨rfl,rfl⟩
    ·have hkl:i=(z.filter λt=>!p t).length:=by rw[<- hk,List.length_take];omega
     refine ⟨_,⟨⟨z.filter λt=>!p t,rfl,by rw[<- hkl];rfl,rfl,?_⟩,rfl⟩,hlf,rfl⟩;rw[<- hkl];show List.take i (List.take i (List.map It.c y)++List.replicate (z.length-i) [.nl,iA 0]++List.drop (i+(z.length-i)) (List.map It.c y))=_;rw[List.append_assoc,List.take_append_of_le_length (by rw[List.length_take,List.length_map];omega),List.take_take,Nat.min_self,<- List.map_take,hk]
theorem c95 (p:Pr) (t:It) (ht:t.row.length<4611686018427387904):Spec0 Tryz.prog 89 [.ag t.c,.ro p.c 0] (·=bA (!holdsP p t.row)):=by refine spec0_of_vc tabOk elems ord89 Tryz.func89 rfl (rl:=[.tmp 3]) rfl (by kernel_rfl) rfl ?_;(simp -implicitDefEqProofs only[go_sem,It.c,Pr.c,iA,rowA];repeat (refine GO ?_;simp -implicitDefEqProofs only[go_sem,It.c,Pr.c,iA,rowA]));refine .pure _ (c60 p t.row ht) rfl λq hq _=>?_;subst hq;exact Ai
theorem c51 (z:List It) (p:Pr) (hl:z.length<=268435456) (hr:∀t∈z,t.row.length<1073741824) :
 Spec1 Tryz.prog 40 [setA z,.ag p.c] (λr o=>∃(out:List It) (err:Int),r=.tu [.rf 0 0 out.length,iA err]/\o=so out /\
  ((¬Good z/\out=[]/\err=1)\/(Good z/\out=(z.filter λt=>holdsP p t.row)/\err=0))):=by
 refine spec1_of_vc tabOk elems ord40 Tryz.func40 rfl (rl:=[.tmp 4,.tmp 5]) rfl (by kernel_rfl) rfl ?_;refine Ei ?_;refine .pure _ (s16 z (by omega) (λt ht=>by have:=hr t ht;omega)) rfl λq hq _=>?_;obtain ⟨e,rfl,he,hg⟩:=hq;refine Ab ?_;refine VIF.split (λh=>?_) (λh=>?_)
 ·have h:e≠0:=(by simpa using h);have h1:e=1:=(by omega);subst h1;refine Aa ?_;refine FINmk [(0,none)] [(4,.rf 0 0 0),(5,iA 1)] [(0,so [])] [0] rfl ?_ ?_
  ·refine Ab ?_;simp[so]
  ·exact ⟨so [],⟨⟨[],1,rfl,rfl,.inl ⟨λg=>h (hg.2 g),rfl,rfl⟩⟩,rfl⟩,so_leafy [],rfl⟩
 ·have h:e=0:=(by simpa using h);have hg:=hg.1 h;refine Aa ?_;refine .make 14 _ (s57 z hl hr) rfl (by simp) rfl λq o hq _=>?_;obtain ⟨rfl,rfl⟩:=hq;refine Aw ?_;refine TO [(14,some 14)] [(14,.rf 14 0 z.length),(15,.fn 89 [.ro p.c 0])] [(14,so z)] [14] rfl ?_ ?_
  ·(simp -implicitDefEqProofs only[go_sem,Pr.c,so];repeat (refine GO ?_;simp -implicitDefEqProofs only[go_sem,Pr.c,so]));exact ⟨id,⟨by decide,_,rfl,by simp[Ob.leafy,AV.leaf],rfl⟩,.same (so z) _ _ (so_leafy z) rfl⟩
  refine Bu ?_;refine .both 14 (so z) _ [.rf 0 0 z.length,.fn 89 [.ro p.c 0]] (c82 89 [.ro p.c 0] rfl (λt=>!holdsP p t.row) (λt=>t.row.length<4611686018427387904) (λt ht=>c95 p t ht) z (λt ht=>by have:=hr t ht;omega) hl) rfl (so_leafy z) rfl rfl λq o' hq hlf=>?_;obtain ⟨y,hy,rfl,hsz,hes⟩:=hq;have hy:y=z.filter λt=>holdsP p t.row:=by rw[hy];congr 1;funext t;simp
  have hyl:y.length<=z.length:=by rw[hy];exact List.length_filter_le _ _
  refine Aw ?_;refine TO [] [(17,setA y)] [] [] rfl ?_ ?_
  ·refine Af ?_;exact ⟨id,by decide,_,rfl,hlf,hsz,hes⟩
  refine Af ?_;refine .make 18 _ (s38 y (by omega)) rfl (by simp) rfl λq o hq _=>?_;obtain ⟨rfl,rfl⟩:=hq;refine Aa ?_;refine FINmk [(0,some 18)] [(4,.rf 0 0 y.length),(5,iA 0)] [(0,so y)] [0] rfl ?_ ?_
  ·refine Am ?_;exact .same (so y) _ _ (so_leafy y) rfl
  ·exact ⟨so y,⟨⟨y,0,rfl,rfl,.inr ⟨hg,hy,rfl⟩⟩,rfl⟩,so_leafy y,rfl⟩
theorem c54 (a b:List It) (hl:a.length+b.length<=268435456) (ha:∀t∈a,t.row.length<1073741824) (hb:∀t∈b,t.row.length<1073741824) :
 Spec1 Tryz.prog 43 [setA a,setA b] (λr o=>∃(out:List It) (err:Int),r=.tu [.rf 0 0 out.length,iA err]/\o=so out/\AddR a b out err):=by
 refine spec1_of_vc tabOk elems ord43 Tryz.func43 rfl (rl:=[.tmp 4,.tmp 5]) rfl (by kernel_rfl) rfl ?_;refine Af ?_;refine .make 8 _ (s23 a b hl ha hb) rfl (by simp) rfl λq o hq _=>?_;obtain ⟨out,err,rfl,rfl,hm⟩:=hq;refine Ab ?_;refine FINmk [(0,some 8)] [(4,.rf 0 0 out.length),(5,iA err)] [(0,so out)] [0] rfl ?_ ?_
 ·refine Am ?_;exact .same (so out) _ _ (so_leafy out) rfl
 ·exact ⟨so out,⟨⟨out,err,rfl,rfl,hm⟩,rfl⟩,so_leafy out,rfl⟩
def MinR (a b out:List It) (err:Int):Prop:=(¬(Good a/\Good b)/\out=[]/\err=1)\/(Good a/\Good b/\MakeR (a++b.map negI) out err)
theorem good_neg {z:List It} (h:Good z):Good (z.map negI):=by obtain ⟨h1,h2⟩:=good_made.1 h;exact good_made.2 ⟨made_neg h1,λt ht=>by obtain ⟨u,hu,rfl⟩:=List.mem_map.1 ht;exact h2 u hu⟩
theorem c55 (a b:List It) (hl:a.length+b.length<=268435456) (ha:∀t∈a,t.row.length<1073741824) (hb:∀t∈b,t.row.length<1073741824) :
 Spec1 Tryz.prog 44 [setA a,setA b] (λr o=>∃(out:List It) (err:Int),r=.tu [.rf 0 0 out.length,iA err]/\o=so out/\MinR a b out err):=by
 refine spec1_of_vc tabOk elems ord44 Tryz.func44 rfl (rl:=[.tmp 4,.tmp 5]) rfl (by kernel_rfl) rfl ?_;refine Af ?_;have bad:∀s:St,s.regs 4=.nl->s.regs 5=.pr (.int .i64 1)->¬(Good a/\Good b)->FIN T noOb [.tmp 4,.tmp 5] (λr O'=>∃o,((∃(out:List It) (err:Int),r=.tu [.rf 0 0 out.length,iA err]/\o=so out/\MinR a b out err)/\r.only0=true)/\o.leafy/\O'=upd noOb 0 (some o)) s:=by
  intro s h4 h5 hn;refine FINmk [(0,none)] [(4,.rf 0 0 0),(5,iA 1)] [(0,so [])] [0] rfl ?_ ?_
  ·refine Cc ?_;simp[so]
  ·exact ⟨so [],⟨⟨[],1,rfl,rfl,.inl ⟨hn,rfl,rfl⟩⟩,rfl⟩,so_leafy [],rfl⟩
 refine .pure _ (s16 a (by omega) (λt ht=>by have:=ha t ht;omega)) rfl λq hq _=>?_;obtain ⟨e,rfl,he,hg⟩:=hq;refine Ab ?_;refine VIF.split (λh=>?_) (λh=>?_)
 ·have h:e≠0:=(by simpa using h);have h1:e=1:=(by omega);subst h1;refine Aa ?_;exact bad _ rfl rfl λg=>h (hg.2 g.1)
 ·have h:e=0:=(by simpa using h);have hg:=hg.1 h;refine Aa ?_;refine .make 15 _ (s31 b (by omega) hb) rfl (by simp) rfl λq o hq _=>?_;obtain ⟨n,err,rfl,rfl,hn⟩:=hq;refine Am ?_;refine VIF.split (λh2=>?_) (λh2=>?_)
  ·have h2:err≠0:=(by simpa using h2);obtain ⟨hb2,rfl,rfl⟩:¬Good b/\n=[]/\err=1:=by
    rcases hn with h|⟨_,_,h⟩
    ·exact h
    ·exact absurd h h2
   refine Aa ?_;exact bad _ rfl rfl λg=>hb2 g.2
  ·have h2:err=0:=(by simpa using h2);obtain ⟨hb2,rfl⟩:Good b/\n=b.map negI:=by
    rcases hn with ⟨_,_,h⟩|⟨h,h3,_⟩
    ·omega
    ·exact ⟨h,h3⟩
   refine Aw ?_;refine GO ?_;refine Aw ?_;refine TO [] [(21,setA a),(22,setA (b.map negI))] [] [] rfl ?_ ?_
   ·refine Af ?_;exact ⟨id,by decide,_,rfl,so_leafy (b.map negI),rfl,List.take_of_length_le (by simp)⟩
   refine Af ?_;refine .make 23 _ (s23 a (b.map negI) (by rw[List.length_map];exact hl) ha (λt ht=>by obtain ⟨u,hu,rfl⟩:=List.mem_map.1 ht;exact hb u hu)) rfl (by simp) rfl λq o hq _=>?_;obtain ⟨out,err,rfl,rfl,hm⟩:=hq;have hm:MakeR (a++b.map negI) out err:=by
    rcases hm with ⟨h,_⟩|⟨_,_,h⟩
    ·exact absurd ⟨hg,good_neg hb2⟩ h
    ·exact h
   refine Ab ?_;refine FINmk [(0,some 23)] [(4,.rf 0 0 out.length),(5,iA err)] [(0,so out)] [0] rfl ?_ ?_
   ·refine Am ?_;exact .same (so out) _ _ (so_leafy out) rfl
   ·exact ⟨so out,⟨⟨out,err,rfl,rfl,.inr ⟨hg,hb2,hm⟩⟩,rfl⟩,so_leafy out,rfl⟩
def intsL (l:List Int):AV:=.im 1 (l.map λn=>[iA n])
theorem c132 (g:Nat) (caps:List AV) (hc:noIds caps=true) (p:Int->Bool) (a:List Int) (hg:∀n∈a,Spec0 Tryz.prog g (iA n::caps) (·=bA (p n))) (ha:a.length<4611686018427387904) :
 Spec0 Tryz.prog 176 [intsL a,.fn g caps] (·=idxA p a):=by
 refine spec0_of_vc tabOk elems ord176 Tryz.func176 rfl (rl:=[.tmp 4]) rfl (by kernel_rfl) rfl ?_;refine A5 ?_
 refine LOOP.mk (ι:={i:Nat//i<=a.length/\∀j (hj:j<a.length),j<i->p a[j]=false}) (λi=>mkS [(0,intsL a),(1,.fn g caps),(7,iA a.length),(8,iA i.1)] [] []) (λi=>a.length-i.1)
  ⟨0,by simp⟩ [] rfl rfl ?_ (λi=>?_)
 ·refine Au ?_;exact ⟨id,wks_noId caps hc,rfl⟩
 ·obtain ⟨i,hi,hz⟩:=i;refine Au ?_;refine VIF.split (λh=>?_) (λh=>?_)
  ·have hi':i<a.length:=(by simpa using h);have w1:=wrap_add1 (show i<4611686018427387904 by omega);refine Aa ?_;refine EL.map hi' ?_;refine Aa ?_;refine .pure _ (hg a[i] (List.getElem_mem hi')) (by simpa [noIds,AV.noId,iA] using hc) λr hr _=>?_;subst hr;refine Ad ?_;refine VIF.split (λe=>?_) (λe=>?_)
   ·refine Aa ?_;have:a.findIdx? p=some i:=by
     rw[List.findIdx?_eq_some_iff_getElem];exact ⟨hi',e,λj hj=>by simpa using hz j (by omega) hj⟩
    simp[idxA,this,idxI,iA]
   ·refine Ak ?_;refine BACK.mk ⟨i+1,by omega,λj hj hji=>?_⟩ [] rfl rfl (by show a.length-(i+1)<a.length-i;omega) ?_
    ·by_cases e2:j=i
     ·subst e2;exact e
     ·exact hz j hj (by omega)
    ·refine Dq ?_;exact ⟨id,wks_noId caps hc⟩
  ·have h:i=a.length:=by simp at h;omega
   subst h;refine Aa ?_;have:a.findIdx? p=none:=by rw[List.findIdx?_eq_none_iff];intro x hx;obtain ⟨j,hj,rfl⟩:=List.mem_iff_getElem.1 hx;exact hz j hj hj
   simp[idxA,this,idxI,iA]
theorem c102 (g:Nat) (caps:List AV) (hc:noIds caps=true) (p:Int->Bool) (a:List Int) (hg:∀n∈a,Spec0 Tryz.prog g (iA n::caps) (·=bA (p n))) (ha:a.length<4611686018427387904) :
 Spec0 Tryz.prog 129 [intsL a,.fn g caps] (·=bA (a.any p)):=by
 refine spec0_of_vc tabOk elems ord129 Tryz.func129 rfl (rl:=[.tmp 4]) rfl (by kernel_rfl) rfl ?_;refine A5 ?_;refine .pure _ (c132 g caps hc p a hg ha) (by simpa [noIds,AV.noId,intsL] using hc) λr hr _=>?_;subst hr;refine B7 ?_;rw[idx_any];rfl
def outC (n:Nat) (c:Int):Bool:=decide (c<0)||decide ((n:Int)<=c)
theorem c103 (r:List V) (c:Int):Spec0 Tryz.prog 145 [iA c,.ro [rowA r] 0] (·=bA (outC r.length c)):=by
 refine spec0_of_vc tabOk elems ord145 Tryz.func145 rfl (rl:=[.tmp 3]) rfl (by kernel_rfl) rfl ?_;refine Bj ?_;refine VIF.split (λh=>?_) (λh=>?_)
 ·refine Aa ?_;simp at h;simp[outC,bA,h]
 ·refine Aa ?_;have h:¬c<0:=(by simpa using h);simp[outC,bA,h]
def pickE (r:List V) (cols:List Int):Int:=if cols.any (outC r.length) then 1 else if 12<cols.length then 2 else 0
def pickR (r:List V) (cols:List Int):List V:=cols.map (getV r)
theorem c61 (r:List V) (cols:List Int) (hr:r.length<1073741824) (hc:cols.length<1073741824) :
 Spec1 Tryz.prog 92 [rowA r,intsL cols] (λq o=>∃(out:List V) (err:Int),q=.tu [.rf 0 0 out.length,iA err]/\o=ro3 out/\err=pickE r cols/\(err=0->out=pickR r cols)/\(err≠0->out=[])):=by
 refine spec1_of_vc tabOk elems ord92 Tryz.func92 rfl (rl:=[.tmp 4,.tmp 5]) rfl (by kernel_rfl) rfl ?_;refine Ck ?_;refine .lendTo (c102 145 [.ro [rowA r] 0] rfl (outC r.length) cols (λn _=>c103 r n) (by omega)) ?_ (by rintro _ rfl;rfl) λq hq=>?_
 ·(simp -implicitDefEqProofs only[go_sem,intsL,rowA];repeat (refine GO ?_;simp -implicitDefEqProofs only[go_sem,intsL,rowA]))
 subst hq;have bad:∀(e:Int) (s:St),e≠0->e=pickE r cols->s.regs 4=.nl->s.regs 5=.pr (.int .i64 e)->FIN T noOb [.tmp 4,.tmp 5] (λq O'=>∃o,((∃(out:List V) (err:Int),q=.tu [.rf 0 0 out.length,iA err]/\o=ro3 out/\err=pickE r cols/\(err=0->out=pickR r cols)/\(err≠0->out=[]))/\q.only0=true)/\o.leafy/\O'=upd noOb 0 (some o)) s:=by
  intro e s he hp h4 h5;refine FINmk [(0,none)] [(4,.rf 0 0 0),(5,iA e)] [(0,ro3 [])] [0] rfl ?_ ?_
  ·refine Cc ?_;simp[ro3]
  ·exact ⟨ro3 [],⟨⟨[],e,rfl,rfl,hp,λh=>absurd h he,λ_=>rfl⟩,rfl⟩,ro3_leafy [],rfl⟩
 refine Ad ?_;refine VIF.split (λh=>?_) (λh=>?_)
 ·refine Aa ?_;exact bad 1 _ (by decide) (by rw[pickE,if_pos h]) rfl rfl
 ·refine Aa ?_;refine VIF.split (λh2=>?_) (λh2=>?_)
  ·have h2:12<cols.length:=by simp at h2;omega
   refine Aa ?_;exact bad 2 _ (by decide) (by rw[pickE,if_neg (by simp[h]),if_pos h2]) rfl rfl
  ·have h2:¬12<cols.length:=by simp at h2;omega
   have hp:pickE r cols=0:=(by rw[pickE,if_neg (by simp[h]),if_neg h2]);have hin:∀i (hi:i<cols.length),0<=cols[i]/\cols[i].toNat<r.length:=λi hi=>by rw[List.any_eq_false] at h;have:=h cols[i] (List.getElem_mem hi);simp[outC] at this;omega
   refine Aa ?_
   refine LOOP.mk (ι:={i:Nat//i<=cols.length}) (λp=>mkS [(2,.pt 1001 0 0),(6,.rf 1000 0 p.1),(17,intsL cols),(18,iA cols.length),(19,iA p.1)] [(1000,ro3 (pickR r (cols.take p.1))),(1001,⟨1,[[rowA r]]⟩)] [1000,1001])
    (λp=>cols.length-p.1) ⟨0,Nat.zero_le _⟩ [(1000,none),(1001,some 2)] rfl rfl ?_ (λp=>?_)
   ·refine Dc ?_;exact ⟨id,rfl,rfl,.same ⟨1,[[rowA r]]⟩ _ _ (by simp[AV.leaf]) rfl⟩
   ·obtain ⟨i,hi⟩:=p;refine Dc ?_;refine VIF.split (λh3=>?_) (λh3=>?_)
    ·have h3:i<cols.length:=(by simpa using h3);have w1:=wrap_add1 (show i<4611686018427387904 by omega);obtain ⟨g1,g2⟩:=hin i h3;refine Aa ?_;refine EL.map h3 ?_;refine Aa ?_;refine ⟨g1,EL.map g2 ?_⟩;refine Ao ?_;refine ⟨by omega,?_⟩;have hpl:(pickR r (cols.take i)).length=i:=by simp[pickR];omega
     have e1:(List.map V.c (pickR r (cols.take i))).take i++[V.c (r[cols[i].toNat]'g2)]=List.map V.c (pickR r (cols.take (i+1))):=by have hgv:getV r cols[i]=r[cols[i].toNat]'g2:=(by simp[getV,g2]);rw[List.take_of_length_le (by rw[List.length_map];omega),List.take_succ_eq_append_getElem h3,pickR,pickR,List.map_append,List.map_append];simp only[List.map_cons,List.map_nil,hgv]
     refine BACK.mk ⟨i+1,by omega⟩ [(1000,some 29),(1001,some 1001)] rfl rfl (by show cols.length-(i+1)<cols.length-i;omega) ?_;(simp -implicitDefEqProofs only[go_sem,iA,intsL,ro3,rowA,w1];repeat (refine GO ?_;simp -implicitDefEqProofs only[go_sem,iA,intsL,ro3,rowA,w1]));exact ⟨id,.same (ro3 []) _ _ (λx hx=>ro3_leafy (pickR r (cols.take (i+1))) x (by rw[ro3];exact e1▸hx)) e1,.same ⟨1,[[rowA r]]⟩ _ _ (by simp[AV.leaf]) rfl⟩
    ·have h3:i=cols.length:=by simp at h3;omega
     subst h3;refine Bm ?_;refine FINmk [(0,some 1000)] [(4,.rf 0 0 cols.length),(5,iA 0)] [(0,ro3 (pickR r cols))] [0] rfl ?_ ?_
     ·refine Em ?_;exact .same (ro3 (pickR r cols)) _ _ (ro3_leafy (pickR r cols)) rfl
     ·exact ⟨ro3 (pickR r cols),⟨⟨pickR r cols,0,by rw[pickR,List.length_map];rfl,rfl,hp.symm,λ_=>rfl,λh=>absurd rfl h⟩,rfl⟩,ro3_leafy (pickR r cols),rfl⟩
def projI (cols:List Int) (t:It):It:=⟨pickR t.row cols,t.w⟩
def ProjR (z:List It) (cols:List Int) (out:List It) (err:Int):Prop:=
 (¬Good z/\out=[]/\err=1)\/(Good z/\(∃t∈z,pickE t.row cols=err)/\err≠0/\out=[]) \/
 (Good z/\(∀t∈z,pickE t.row cols=0)/\MakeR (z.map (projI cols)) out err)
theorem c49 (z:List It) (cols:List Int) (hl:z.length<=268435456) (hr:∀t∈z,t.row.length<1073741824) (hc:cols.length<1073741824) :
 Spec1 Tryz.prog 41 [setA z,intsL cols] (λr o=>∃(out:List It) (err:Int),r=.tu [.rf 0 0 out.length,iA err]/\o=so out/\ProjR z cols out err):=by
 refine spec1_of_vc tabOk elems ord41 Tryz.func41 rfl (rl:=[.tmp 4,.tmp 5]) rfl (by kernel_rfl) rfl ?_;refine Bp ?_;have bad:∀(e:Int) (s:St),s.regs 4=.nl->s.regs 5=.pr (.int .i64 e)->ProjR z cols [] e->FIN T noOb [.tmp 4,.tmp 5] (λr O'=>∃o,((∃(out:List It) (err:Int),r=.tu [.rf 0 0 out.length,iA err]/\o=so out/\ProjR z cols out err)/\r.only0=true)/\o.leafy/\O'=upd noOb 0 (some o)) s:=by
  intro e s h4 h5 hn;refine FINmk [(0,none)] [(4,.rf 0 0 0),(5,iA e)] [(0,so [])] [0] rfl ?_ ?_
  ·refine Cc ?_;simp[so]
  ·exact ⟨so [],⟨⟨[],e,rfl,rfl,hn⟩,rfl⟩,so_leafy [],rfl⟩
 refine .pure _ (s16 z (by omega) (λt ht=>by have:=hr t ht;omega)) rfl λq hq _=>?_;obtain ⟨e,rfl,he,hg⟩:=hq;refine Ab ?_;refine VIF.split (λh=>?_) (λh=>?_)
 ·have h:e≠0:=(by simpa using h);have h1:e=1:=(by omega);subst h1;refine Aa ?_;exact bad 1 _ rfl rfl (.inl ⟨λg=>h (hg.2 g),rfl,rfl⟩)
 ·have h:e=0:=(by simpa using h);have hg:=hg.1 h;refine Aa ?_
  refine LOOP.mk (ι:={i:Nat//i<=z.length/\∀j (hj:j<z.length),j<i->pickE z[j].row cols=0}) (λp=>mkS [(1,intsL cols),(7,.rf 1000 0 p.1),(17,setA z),(18,iA z.length),(19,iA p.1)] [(1000,so ((z.take p.1).map (projI cols)))] [1000])
   (λp=>z.length-p.1) ⟨0,Nat.zero_le _,λj _ h=>absurd h (Nat.not_lt_zero _)⟩ [(1000,none)] rfl rfl ?_ (λp=>?_)
  ·refine B5 ?_;exact ⟨id,rfl,rfl⟩
  ·obtain ⟨i,hi,hz⟩:=p;refine B5 ?_;refine VIF.split (λh1=>?_) (λh1=>?_)
   ·have h1:i<z.length:=(by simpa using h1);have w1:=wrap_add1 (show i<4611686018427387904 by omega);refine Aa ?_;refine EL.map h1 ?_;refine Ar ?_;refine .make 27 _ (c61 z[i].row cols (hr _ (List.getElem_mem h1)) hc) rfl (by simp) rfl λq o hq hlf=>?_;obtain ⟨out,err,rfl,rfl,he2,ho1,ho2⟩:=hq;refine Ab ?_;refine VIF.split (λh2=>?_) (λh2=>?_)
    ·have h2:err≠0:=(by simpa using h2);refine Aa ?_;exact bad err _ rfl rfl (.inr (.inl ⟨hg,⟨_,List.getElem_mem h1,he2.symm⟩,h2,rfl⟩))
    ·have h2:err=0:=(by simpa using h2);subst h2;have ho1:=ho1 rfl;subst ho1;refine Ak ?_;refine ⟨by omega,?_⟩;refine BACK.mk ⟨i+1,by omega,λj hj hji=>?_⟩ [(1000,some 39)] rfl rfl (by show z.length-(i+1)<z.length-i;omega) ?_
     ·by_cases e2:j=i
      ·subst e2;exact he2.symm
      ·exact hz j hj (by omega)
     ·refine D7 ?_;refine ⟨id,?_⟩;rw[List.take_of_length_le (l:=List.map It.c (List.map (projI cols) (z.take i))) (by simp;omega),List.take_succ_eq_append_getElem h1,List.map_append,List.map_append];refine Es_snoc (λx hx a ha=>so_leafy ((z.take i).map (projI cols)) x hx a ha) ?_;refine A4 ?_;exact ⟨⟨by decide,_,rfl,hlf,rfl,List.take_of_length_le (by simp[ro3])⟩,rfl⟩
   ·have h1:i=z.length:=by simp at h1;omega
    subst h1;have hz:∀t∈z,pickE t.row cols=0:=λt ht=>by obtain ⟨j,hj,rfl⟩:=List.mem_iff_getElem.1 ht;exact hz j hj hj
    refine Cu ?_;refine GO ?_;refine Aw ?_;refine TO [] [(41,setA (z.map (projI cols)))] [] [] rfl ?_ ?_
    ·refine Af ?_;exact ⟨id,by decide,_,rfl,so_leafy (z.map (projI cols)),rfl,List.take_of_length_le (by simp)⟩
    refine Af ?_;refine .make 42 _ (s11 (z.map (projI cols)) (by simpa using hl) (λt ht=>by obtain ⟨u,hu,rfl⟩:=List.mem_map.1 ht;simpa [pickR,projI] using hc)) rfl (by simp) rfl λq o hq _=>?_;obtain ⟨out,err,rfl,rfl,hm⟩:=hq;refine Ab ?_;refine FINmk [(0,some 42)] [(4,.rf 0 0 out.length),(5,iA err)] [(0,so out)] [0] rfl ?_ ?_
    ·refine Am ?_;exact .same (so out) _ _ (so_leafy out) rfl
    ·exact ⟨so out,⟨⟨out,err,rfl,rfl,.inr (.inr ⟨hg,hz,hm⟩)⟩,rfl⟩,so_leafy out,rfl⟩
def nlOk:List AV->List AV->Prop
 | [],[]=>True
 | x::r,y::r'=>(y=x\/(y=.nl/\∃sz,x=.im sz []))/\nlOk r r'
 | _,_=>False
theorem nlOk_get:∀{l l':List AV},nlOk l l'->l.length=l'.length/\∀(j:Nat) (x y:AV),l[j]?=some x->l'[j]?=some y->y=x\/(y=.nl/\∃sz,x=.im sz [])
 | [],[],_=>⟨rfl,by simp⟩
 | x::r,y::r',h=>by
   obtain ⟨h1,h2⟩:=nlOk_get h.2;refine ⟨by simp[h1],λj u v hu hv=>?_⟩;cases j with
   | zero=>simp at hu hv;subst hu;subst hv;exact h.1
   | succ j=>exact h2 j u v (by simpa using hu) (by simpa using hv)
theorem spec_nl {P:Program} {f:Nat} {l l':List AV} {O:Nat->Option Ob} {U:List Nat} {R:AV->(Nat->Option Ob)->Prop} (h:FunSpec P f l O U R) (hn:nlOk l l'):FunSpec P f l' O U R:=by
 obtain ⟨hl,hg⟩:=nlOk_get hn;refine ⟨h.1,λF φ w vs h1 h2 h3 H hs ha=>h.2 F φ w vs h1 h2 h3 H (by rw[hs,hl]) λj av hj=>?_⟩;have hj':j<l'.length:=by rw[<- hl];exact (List.getElem?_eq_some_iff.1 hj).1
 have h4:=ha j _ (List.getElem?_eq_getElem hj');rcases hg j av _ hj (List.getElem?_eq_getElem hj') with e|⟨e,sz,rfl⟩
 ·rw[e] at h4;exact h4
 ·rw[e] at h4;generalize vs.getD j undef=v at h4 ⊢;cases h4 with
  | rd r=>cases r;exact .rd (.im0 none 0 sz)
def wl (n:Int):List V:=[⟨3,n,ByteArray.empty⟩]
@[go_sem] theorem fzE_so (id:Nat) (o:Ob) (z:List It):fzE id o (List.map It.c z)=List.map It.c z:=fzE_leafy (so_leafy z)
@[go_sem] theorem take_so (z:List It):List.take z.length (List.map It.c z)=List.map It.c z:=take_map_len _ _
@[go_sem] theorem take_ro3 (z:List V):List.take z.length (List.map V.c z)=List.map V.c z:=take_map_len _ _
theorem tot_filter (p:List V->Bool) (z:List It) (r:List V):tot r (z.filter λt=>p t.row)=if p r then tot r z else 0:=by
 induction z with
 | nil=>simp[tot]
 | cons t z ih=>
   by_cases h:p t.row=true
   ·rw[List.filter_cons_of_pos (by simpa using h)];simp only[tot,ih];by_cases e:cmpR t.row r=0
    ·have e:=lin_cmpR.eq _ _ e;subst e;simp[h]
    ·simp[e]
   ·rw[List.filter_cons_of_neg (by simpa using h),ih];simp only[tot];by_cases e:cmpR t.row r=0
    ·have e:=lin_cmpR.eq _ _ e;subst e;simp[h]
    ·simp[e]
theorem made_filter {z:List It} (h:Made z) (f:It->Bool):Made (z.filter f):=⟨h.pw.filter _,λt ht=>h.nz t (List.mem_filter.1 ht).1⟩
theorem filt_ok {z out:List It} {err:Int} {f:It->Bool} (hg:Good z) (h:(¬Good z/\out=[]/\err=1)\/(Good z/\out=z.filter f/\err=0)):err=0/\out=z.filter f:=by
 rcases h with ⟨h,_⟩|⟨_,h1,h2⟩
 ·exact absurd hg h
 ·exact ⟨h2,h1⟩
theorem u64_nat {n:Nat} (h:n<4611686018427387904):IntKind.u64.wrap (n:Int)=n:=by simp[IntKind.wrap,IntKind.signed,IntKind.bits];omega
theorem fz_so (z:List It):(AV.rf 0 0 z.length).fz 0 (so z)=setA z:=by rw[fz_rf,if_pos rfl,List.drop_zero,List.take_of_length_le (by simp[so])];rfl
theorem fz_ro3 (r:List V):(AV.rf 0 0 r.length).fz 0 (ro3 r)=rowA r:=by rw[fz_rf,if_pos rfl,List.drop_zero,List.take_of_length_le (by simp[ro3])];rfl
theorem Spec1.setE {f:Nat} {args:List AV} {Q:List It->Int->Prop} (h:Spec1 Tryz.prog f args (λr o=>∃(out:List It) (err:Int),r=.tu [.rf 0 0 out.length,iA err]/\o=so out/\Q out err)) :
 Spec0 Tryz.prog f args λr=>∃(out:List It) (err:Int),r=.tu [setA out,iA err]/\Q out err:=
 (Spec1.fz h).mono λr O' ⟨⟨⟨r0,o,⟨out,err,e1,e2,hq⟩,_,_,e3⟩,hn⟩,hO⟩=>by subst e1;subst e2;subst e3;refine ⟨⟨⟨out,err,?_,hq⟩,hn⟩,hO⟩;rw[fz_tu,fzs_cons,fzs_cons,fzs_nil,fz_so,iA,fz_pr]
theorem Spec1.setC {f:Nat} {args:List AV} {z:List It} (h:Spec1 Tryz.prog f args (λr o=>r=.rf 0 0 z.length/\o=so z)):Spec0 Tryz.prog f args (·=setA z):=
 (Spec1.fz h).mono λr O' ⟨⟨⟨r0,o,⟨e1,e2⟩,_,_,e3⟩,hn⟩,hO⟩=>by subst e1;subst e2;subst e3;exact ⟨⟨fz_so z,hn⟩,hO⟩
theorem EL.mapL {α:Type} {f:α->List AV} {l:List α} {tail:List (List AV)} {i:Nat} {K:List AV->Prop} (h:i<l.length) (k:K (f l[i])):EL (l.map f++tail) i K:=
 ⟨f l[i],by rw[List.getElem?_append_left (by simpa using h)];simp[h],k⟩
theorem setL {α:Type} {f:α->List AV} {l:List α} {tail:List (List AV)} {i:Nat} {x:α} (h:i<l.length):(l.map f++tail).set i (f x)=(l.set i x).map f++tail:=by rw[List.set_append_left _ _ (by simpa using h),List.map_set]
theorem Spec1.rowE {f:Nat} {args:List AV} {Q:List V->Int->Prop} (h:Spec1 Tryz.prog f args (λr o=>∃(out:List V) (err:Int),r=.tu [.rf 0 0 out.length,iA err]/\o=ro3 out/\Q out err)) :
 Spec0 Tryz.prog f args λr=>∃(out:List V) (err:Int),r=.tu [rowA out,iA err]/\Q out err:=
 (Spec1.fz h).mono λr O' ⟨⟨⟨r0,o,⟨out,err,e1,e2,hq⟩,_,_,e3⟩,hn⟩,hO⟩=>by subst e1;subst e2;subst e3;refine ⟨⟨⟨out,err,?_,hq⟩,hn⟩,hO⟩;rw[fz_tu,fzs_cons,fzs_cons,fzs_nil,fz_ro3,iA,fz_pr]
theorem c84 (t:It):Spec0 Tryz.prog 96 [.ag t.c] (·=bA (decide (t.w<0))):=by refine spec0_of_vc tabOk elems ord96 Tryz.func96 rfl (rl:=[.tmp 2]) rfl (by kernel_rfl) rfl ?_;refine A4 ?_;simp[bA]
def distL (z:List It):List It:=(z.filter λt=>!decide (t.w<0)).map λt=>oneI t.row
def upto1 (y:List It) (i:Nat):List It:=(y.take i).map (λt=>oneI t.row)++y.drop i
theorem upto1_len {y:List It} {i:Nat} (h:i<=y.length):(upto1 y i).length=y.length:=by simp[upto1];omega
theorem upto1_get {y:List It} {i:Nat} (h:i<y.length) (h2:i<(upto1 y i).length):(upto1 y i)[i]=y[i]:=by simp only[upto1];rw[List.getElem_append_right (by simp;omega)];simp[Nat.min_eq_left (Nat.le_of_lt h)]
theorem upto1_set {y:List It} {i:Nat} (h:i<y.length):(upto1 y i).set i (oneI y[i].row)=upto1 y (i+1):=by simp only[upto1];rw[List.set_append_right _ _ (by simp;omega),List.take_succ_eq_append_getElem h,List.map_append,List.length_map,List.length_take,Nat.min_eq_left (Nat.le_of_lt h),Nat.sub_self,List.drop_eq_getElem_cons h,List.set_cons_zero];simp only[List.map_cons,List.map_nil,List.append_assoc,List.cons_append,List.nil_append]
theorem c32 (z:List It) (hl:z.length<=268435456) (hr:∀t∈z,t.row.length<1073741824) :
 Spec0 Tryz.prog 45 [setA z] (λr=>∃(out:List It) (err:Int),r=.tu [setA out,iA err]/\((¬Good z/\out=[]/\err=1)\/(Good z/\out=distL z/\err=0))):=by
 refine spec0_of_vc tabOk elems ord45 Tryz.func45 rfl (rl:=[.tmp 2,.tmp 3]) rfl (by kernel_rfl) rfl ?_;refine Af ?_;refine .pure _ (s16 z (by omega) (λt ht=>by have:=hr t ht;omega)) rfl λq hq _=>?_;obtain ⟨e,rfl,he,hg⟩:=hq;refine Ab ?_;refine VIF.split (λh=>?_) (λh=>?_)
 ·have h:e≠0:=(by simpa using h);have h1:e=1:=(by omega);subst h1;refine Aw ?_;refine TO [] [(2,setA []),(3,iA 1)] [] [] rfl ?_ ?_
  ·refine Al ?_;exact ⟨id,rfl⟩
  refine Aa ?_;exact ⟨rfl,[],1,rfl,.inl ⟨λg=>h (hg.2 g),rfl,rfl⟩⟩
 ·have h:e=0:=(by simpa using h);have hg:=hg.1 h;refine Aa ?_;refine .make 13 _ (s57 z hl hr) rfl (by simp) rfl λq o hq _=>?_;obtain ⟨rfl,rfl⟩:=hq;refine Hr ?_;refine GO ?_;refine Hr ?_;refine .both 13 (so z) _ [.rf 0 0 z.length,.fn 96 []] (c82 96 [] rfl (λt=>decide (t.w<0)) (λt=>True) (λt ht=>c84 t) z (λt ht=>trivial) hl) rfl (so_leafy z) rfl rfl λq o' hq hlf=>?_;obtain ⟨y,hy,rfl,hsz,hes⟩:=hq;have hyl:y.length<=z.length:=by rw[hy];exact List.length_filter_le _ _
  obtain ⟨tail,rfl,htl⟩:∃tail,o'=⟨2,y.map It.c++tail⟩/\∀x∈tail,∀a∈x,a.leaf=true:=by refine ⟨o'.es.drop y.length,?_,λx hx=>hlf x (List.mem_of_mem_drop hx)⟩;rw[<- hes,List.take_append_drop,<- hsz]
  refine Aa ?_;have hlf2:∀i,(Ob.mk 2 ((upto1 y i).map It.c++tail)).leafy:=λi x hx=>by
   rcases List.mem_append.1 hx with hx|hx
   ·exact so_leafy (upto1 y i) x hx
   ·exact htl x hx
  refine LOOP.mk (ι:={i:Nat//i<=y.length}) (λp=>mkS [(5,.rf 1000 0 y.length),(16,iA y.length),(17,iA p.1)] [(1000,⟨2,(upto1 y p.1).map It.c++tail⟩)] [1000])
   (λp=>y.length-p.1) ⟨0,Nat.zero_le _⟩ [(1000,some 13)] rfl rfl ?_ (λp=>?_)
  ·refine Ab ?_;exact ⟨id,rfl,.same ⟨2,y.map It.c++tail⟩ _ _ (hlf2 0) rfl⟩
  ·obtain ⟨i,hi⟩:=p;refine Ab ?_;refine VIF.split (λh1=>?_) (λh1=>?_)
   ·have h1:i<y.length:=(by simpa using h1);have w1:=wrap_add1 (show i<4611686018427387904 by omega);have hi2:i<(upto1 y i).length:=by rw[upto1_len hi];exact h1
    have e1:(List.map It.c (upto1 y i)++tail).set i [rowA y[i].row,iA 1]=List.map It.c (upto1 y (i+1))++tail:=by rw[<- upto1_set h1];exact setL (f:=It.c) (x:=oneI y[i].row) hi2
    refine Aa ?_;refine ⟨by omega,EL.mapL hi2 ?_⟩;rw[upto1_get h1];refine El ?_;refine BACK.mk ⟨i+1,by omega⟩ [(1000,some 1000)] rfl rfl (by show y.length-(i+1)<y.length-i;omega) ?_;refine Ba ?_;exact ⟨id,.same (so []) _ _ (λx hx=>hlf2 (i+1) x (e1▸hx)) e1⟩
   ·have h1:i=y.length:=by simp at h1;omega
    subst h1;have hd:upto1 y y.length=distL z:=by simp only[upto1,List.take_length,List.drop_length,List.append_nil,distL,hy]
    rw[hd];have hdl:(distL z).length=y.length:=(by rw[<- hd,upto1_len (Nat.le_refl _)]);refine Aw ?_;refine GO ?_;refine Aw ?_;refine TO [] [(25,setA (distL z))] [] [] rfl ?_ ?_
    ·refine Af ?_;refine ⟨id,by decide,_,rfl,?_,rfl,?_⟩
     ·rw[<- hd];exact hlf2 _
     ·rw[<- hdl];show List.take _ (List.map It.c (distL z)++tail)=_;rw[List.take_append_of_le_length (by simp),take_so]
    refine Af ?_;refine .pure _ (Spec1.setC (s38 (distL z) (by omega))) rfl λq hq _=>?_;subst hq;refine Af ?_;exact ⟨rfl,distL z,0,rfl,.inr ⟨hg,rfl,rfl⟩⟩
def DDel (z dz out:List It) (err:Int):Prop:=∃now e,AddR z dz now e/\((e≠0/\out=[]/\err=e)\/(e=0/\MinR (distL now) (distL z) out err))
theorem makeR_rows {z out:List It} {err:Int} (h:MakeR z out err):out.length<=z.length/\∀t∈out,∃u∈z,u.row=t.row:=by
 rcases h with ⟨_,rfl,_⟩|⟨_,rfl,_⟩|⟨_,_,_,_,h,hl⟩
 ·simp
 ·simp
 ·exact ⟨hl,λt ht=>(h t ht).2⟩
theorem addR_rows {a b out:List It} {err:Int} (h:AddR a b out err):out.length<=a.length+b.length/\∀t∈out,∃u∈a++b,u.row=t.row:=by
 rcases h with ⟨_,rfl,_⟩|⟨_,_,h⟩
 ·simp
 ·have:=makeR_rows h;rw[List.length_append] at this;exact this
theorem distL_len (z:List It):(distL z).length<=z.length:=by rw[distL,List.length_map];exact List.length_filter_le _ _
theorem distL_rows {z:List It} {P:List V->Prop} (h:∀t∈z,P t.row):∀t∈distL z,P t.row:=λt ht=>by obtain ⟨u,hu,rfl⟩:=List.mem_map.1 ht;exact h u (List.mem_filter.1 hu).1
theorem addR_good {a b out:List It} {err:Int} (h:AddR a b out err) (he:err=0):Good a/\Good b/\Made out/\Good out/\∀r,tot r out=tot r a+tot r b:=by
 rcases h with ⟨_,_,h⟩|⟨ha,hb,h⟩
 ·omega
 ·rcases h with ⟨_,_,h⟩|⟨_,_,h,_⟩|⟨_,_,hm,ht,hr,_⟩
  ·omega
  ·omega
  ·exact ⟨ha,hb,hm,good_made.2 ⟨hm,λt h=>(hr t h).1⟩,λr=>by rw[ht,tot_append]⟩
theorem dist_ok {z out:List It} {err:Int} (hg:Good z) (h:(¬Good z/\out=[]/\err=1)\/(Good z/\out=distL z/\err=0)):err=0/\out=distL z:=by
 rcases h with ⟨h,_⟩|⟨_,h1,h2⟩
 ·exact absurd hg h
 ·exact ⟨h2,h1⟩
theorem made_dist {z:List It} (h:Made z):Made (distL z):=by
 refine ⟨?_,λt ht=>?_⟩
 ·rw[distL,List.pairwise_map];exact h.pw.filter _
 ·obtain ⟨u,hu,rfl⟩:=List.mem_map.1 ht;exact ⟨by simp[oneI],by simp[oneI,okW,inB]⟩
def wd:List It:=[⟨wl 1,-2⟩,⟨wl 3,4⟩]
def uA (n:Int):AV:=.pr (.int .u64 n)
theorem and_32 {x:Int} (h0:0<=x) (h1:x<18446744073709551616):bitsOp .and .u64 x 4294967295=x%4294967296:=by
 simp only[bitsOp];have h1:(BitVec.ofInt IntKind.u64.bits x &&& BitVec.ofInt IntKind.u64.bits 4294967295).toNat=(x%4294967296).toNat:=by rw[BitVec.toNat_and];have e1:(BitVec.ofInt IntKind.u64.bits 4294967295).toNat=2 ^ 32-1:=(by decide);rw[e1,Nat.and_two_pow_sub_one_eq_mod];simp only[BitVec.toNat_ofInt,IntKind.bits];omega
 rw[h1];simp[IntKind.wrap,IntKind.signed,IntKind.bits];omega
theorem wrap_u64 {x:Int} (h0:0<=x) (h1:x<18446744073709551616):IntKind.u64.wrap x=x:=by simp[IntKind.wrap,IntKind.signed,IntKind.bits];omega
theorem mul_bd {a b:Int} (ha:0<=a/\a<=4294967295) (hb:0<=b/\b<=4294967295):0<=a*b/\a*b<=18446744065119617025:=
 ⟨Int.mul_nonneg ha.1 hb.1,Int.le_trans (Int.mul_le_mul ha.2 hb.2 hb.1 (by decide)) (by decide)⟩
theorem mul64 {x y:Int} (hx:0<=x/\x<18446744073709551616) (hy:0<=y/\y<18446744073709551616) :
 IntKind.u64.wrap (IntKind.u64.wrap (IntKind.u64.wrap (x / 4294967296*(y / 4294967296)) +
  IntKind.u64.wrap (IntKind.u64.wrap (x / 4294967296*bitsOp .and .u64 y 4294967295)+IntKind.u64.wrap (bitsOp .and .u64 x 4294967295*bitsOp .and .u64 y 4294967295) / 4294967296) / 4294967296) +
  IntKind.u64.wrap (bitsOp .and .u64 (IntKind.u64.wrap (IntKind.u64.wrap (x / 4294967296*bitsOp .and .u64 y 4294967295)+IntKind.u64.wrap (bitsOp .and .u64 x 4294967295*bitsOp .and .u64 y 4294967295) / 4294967296)) 4294967295 +
   IntKind.u64.wrap (bitsOp .and .u64 x 4294967295*(y / 4294967296))) / 4294967296)=x*y / 18446744073709551616:=by
 rw[and_32 hx.1 hx.2,and_32 hy.1 hy.2];have ex:x=x / 4294967296*4294967296+x%4294967296:=by omega
 have ey:y=y / 4294967296*4294967296+y%4294967296:=by omega
 generalize hx1:x / 4294967296=x1 at *;generalize hx0:x%4294967296=x0 at *;generalize hy1:y / 4294967296=y1 at *;generalize hy0:y%4294967296=y0 at *;have e:x*y=x1*y1*18446744073709551616+(x1*y0+x0*y1)*4294967296+x0*y0:=by
  rw[ex,ey];simp only[Int.add_mul,Int.mul_add];have e1:x1*4294967296*(y1*4294967296)=x1*y1*18446744073709551616:=by rw[Int.mul_assoc,Int.mul_left_comm 4294967296,<- Int.mul_assoc];rfl
  have e2:x1*4294967296*y0=x1*y0*4294967296:=Int.mul_right_comm _ _ _;have e3:x0*(y1*4294967296)=x0*y1*4294967296:=(Int.mul_assoc _ _ _).symm;rw[e1,e2,e3];omega
 have b1:=mul_bd (a:=x1) (b:=y1) (by omega) (by omega);have b2:=mul_bd (a:=x1) (b:=y0) (by omega) (by omega);have b3:=mul_bd (a:=x0) (b:=y1) (by omega) (by omega);have b4:=mul_bd (a:=x0) (b:=y0) (by omega) (by omega);rw[e];generalize x1*y1=d at *;generalize x1*y0=a at *;generalize x0*y1=c at *;generalize x0*y0=b at *;rw[wrap_u64 (x:=d) (by omega) (by omega),wrap_u64 (x:=a) (by omega) (by omega),wrap_u64 (x:=b) (by omega) (by omega),wrap_u64 (x:=c) (by omega) (by omega)];rw[wrap_u64 (x:=a+b / 4294967296) (by omega) (by omega),and_32 (by omega) (by omega),wrap_u64 (x:=(a+b / 4294967296)%4294967296+c) (by omega) (by omega)];rw[wrap_u64 (x:=d+(a+b / 4294967296) / 4294967296) (by omega) (by omega),wrap_u64 (by omega) (by omega)];omega
theorem c115 (x y:Int) (hx:0<=x/\x<18446744073709551616) (hy:0<=y/\y<18446744073709551616) :
 Spec0 Tryz.prog 147 [uA x,uA y] (·=.tu [uA (x*y / 18446744073709551616),uA (x*y%18446744073709551616)]):=by
 refine spec0_of_vc tabOk elems ord147 Tryz.func147 rfl (rl:=[.tmp 4,.tmp 5]) rfl (by kernel_rfl) rfl ?_;refine Ev ?_;refine ⟨by decide,by decide,by decide,by decide,by decide,?_⟩;refine Ev ?_;refine ⟨rfl,?_⟩;simp only[shr32];rw[mul64 hx hy];have e:IntKind.u64.wrap (x*y)=x*y%18446744073709551616:=by simp[IntKind.wrap,IntKind.signed,IntKind.bits]
 rw[e]
theorem c116 (n:Int) (h:-9223372036854775807<=n/\n<=9223372036854775807):Spec0 Tryz.prog 148 [iA n] (·=uA (n.natAbs:Int)):=by
 refine spec0_of_vc tabOk elems ord148 Tryz.func148 rfl (rl:=[.tmp 2]) rfl (by kernel_rfl) rfl ?_;have w1:IntKind.i64.wrap (0-n)=-n:=by rw[wrap_i64]<;>omega
 (simp -implicitDefEqProofs only[go_sem,iA,uA,w1];repeat (refine GO ?_;simp -implicitDefEqProofs only[go_sem,iA,uA,w1]));have e:IntKind.u64.wrap (max n (-n))=n.natAbs:=by rw[wrap_u64]<;>omega
 rw[e]
theorem natAbs_mul_le (a b:Int) (k:Nat):(a.natAbs:Int)*b.natAbs<=k ↔ -(k:Int)<=a*b/\a*b<=k:=by have h:=Int.natAbs_mul a b;rw[<- Int.natCast_mul,<- h];omega
theorem c74 (a b:Int) (ha:-4611686018427387904<=a/\a<=4611686018427387904) (hb:-4611686018427387904<=b/\b<=4611686018427387904) :
 Spec0 Tryz.prog 94 [iA a,iA b] (·=.tu [iA (IntKind.i64.wrap (a*b)),bA (okW (a*b))]):=by
 refine spec0_of_vc tabOk elems ord94 Tryz.func94 rfl (rl:=[.tmp 4,.tmp 5]) rfl (by kernel_rfl) rfl ?_;refine Ab ?_;refine .pure _ (c116 a (by omega)) rfl λr hq _=>?_;subst hq;refine Ab ?_;refine .pure _ (c116 b (by omega)) rfl λr hq _=>?_;subst hq;refine C6 ?_;refine .pure _ (c115 (a.natAbs:Int) (b.natAbs:Int) (by omega) (by omega)) rfl λr hq _=>?_;subst hq;have hk:=natAbs_mul_le a b 72057594037927936;have h0:0<=(a.natAbs:Int)*b.natAbs:=Int.mul_nonneg (by omega) (by omega);refine C6 ?_;refine VIF.split (λh=>?_) (λh=>?_)
 ·have h:(a.natAbs:Int)*b.natAbs / 18446744073709551616=0:=(by simpa using h);refine Aa ?_;have e:(a.natAbs:Int)*b.natAbs%18446744073709551616=(a.natAbs:Int)*b.natAbs:=(by omega);rw[e];simp only[okW,inB,bA,h,decide_true];refine ⟨rfl,?_⟩;congr 5;rw[<- Bool.decide_and,decide_eq_decide];exact hk
 ·have h:(a.natAbs:Int)*b.natAbs / 18446744073709551616≠0:=(by simpa using h);refine Aa ?_;have hn:¬(-72057594037927936<=a*b/\a*b<=72057594037927936):=λh'=>by have:=hk.2 h';omega
  have e:okW (a*b)=false:=by simp only[okW,inB,<- Bool.decide_and];exact decide_eq_false hn
  simp[h,e,bA,iA]
def meetP (a b:List V) (cols others:List Int):Bool:=(cols.zip others).all λp=>
 inC p.1 a.length&&inC p.2 b.length&&!decide ((getV a p.1).k=1)&&!decide ((getV b p.2).k=1)&&decide (cmpV (getV a p.1) (getV b p.2)=0)
theorem c114 (a b:List V) (cols others:List Int) (hl:cols.length=others.length) (ha:a.length<4611686018427387904) (hb:b.length<4611686018427387904) (hc:cols.length<4611686018427387904) :
 Spec0 Tryz.prog 146 [rowA a,rowA b,intsL cols,intsL others] (·=bA (meetP a b cols others)):=by
 refine spec0_of_vc tabOk elems ord146 Tryz.func146 rfl (rl:=[.tmp 8]) rfl (by kernel_rfl) rfl ?_;refine Ck ?_
 have fin:∀(i:Nat) (h:i<cols.length) (h2:i<others.length),(inC cols[i] a.length&&inC others[i] b.length&&!decide ((getV a cols[i]).k=1)&&!decide ((getV b others[i]).k=1)&&decide (cmpV (getV a cols[i]) (getV b others[i])=0))=false ->
  meetP a b cols others=false:=λi h h2 e=>by
  simp only[meetP];rw[List.all_eq_false];exact ⟨(cols[i],others[i]),List.mem_iff_getElem.2 ⟨i,by simp;omega,by simp⟩,by rw[e];simp⟩
 refine LOOP.mk (ι:={i:Nat//i<=cols.length/\∀j (h:j<cols.length) (h2:j<others.length),j<i->(inC cols[j] a.length&&inC others[j] b.length&&!decide ((getV a cols[j]).k=1)&&!decide ((getV b others[j]).k=1)&&decide (cmpV (getV a cols[j]) (getV b others[j])=0))=true})
  (λq=>mkS [(0,rowA a),(1,rowA b),(3,intsL others),(12,intsL cols),(13,iA cols.length),(14,iA q.1)] [] []) (λq=>cols.length-q.1) ⟨0,Nat.zero_le _,λj _ _ h=>absurd h (Nat.not_lt_zero _)⟩ [] rfl rfl ?_ (λq=>?_)
 ·refine Bn ?_;exact ⟨id,rfl⟩
 ·obtain ⟨i,hi,hz⟩:=q;refine Bn ?_;refine VIF.split (λh=>?_) (λh=>?_)
  ·have h:i<cols.length:=(by simpa using h);have h2:i<others.length:=(by omega);have w1:=wrap_add1 (show i<4611686018427387904 by omega);refine Aa ?_;refine EL.map h ?_;refine Ab ?_;refine EL.map h2 ?_;refine Ab ?_
   have bad:(inC cols[i] a.length&&inC others[i] b.length&&!decide ((getV a cols[i]).k=1)&&!decide ((getV b others[i]).k=1)&&decide (cmpV (getV a cols[i]) (getV b others[i])=0))=false ->
    AV.pr (Value.bool false)=bA (meetP a b cols others):=λe=>by rw[fin i h h2 e];rfl
   refine VIF.split (λg1=>?_) (λg1=>?_)
   ·have g1:cols[i]<0:=(by simpa using g1);refine Aa ?_;exact bad (by simp[inC];intros;omega)
   have g1:¬cols[i]<0:=(by simpa using g1);refine Aa ?_;refine VIF.split (λg2=>?_) (λg2=>?_)
   ·have g2:(a.length:Int)<=cols[i]:=(by simpa using g2);refine Aa ?_;exact bad (by simp[inC];intros;omega)
   have g2:¬(a.length:Int)<=cols[i]:=(by simpa using g2);refine Aa ?_;refine VIF.split (λg3=>?_) (λg3=>?_)
   ·have g3:others[i]<0:=(by simpa using g3);refine Aa ?_;exact bad (by simp[inC];intros;omega)
   have g3:¬others[i]<0:=(by simpa using g3);refine Aa ?_;refine VIF.split (λg4=>?_) (λg4=>?_)
   ·have g4:(b.length:Int)<=others[i]:=(by simpa using g4);refine Aa ?_;exact bad (by simp[inC];intros;omega)
   have g4:¬(b.length:Int)<=others[i]:=(by simpa using g4);have k1:cols[i].toNat<a.length:=(by omega);have k2:others[i].toNat<b.length:=(by omega);have hg1:getV a cols[i]=a[cols[i].toNat]:=(by simp[getV,k1]);have hg2:getV b others[i]=b[others[i].toNat]:=(by simp[getV,k2]);rw[hg1,hg2] at bad;have i1:inC cols[i] a.length=true:=by simp[inC];omega
   have i2:inC others[i] b.length=true:=by simp[inC];omega
   refine Aa ?_;refine ⟨by omega,EL.map k1 ?_⟩;refine Ao ?_;refine VIF.split (λg5=>?_) (λg5=>?_)
   ·refine Aa ?_;exact bad (by simp[g5])
   have g5:decide (a[cols[i].toNat].k=1)=false:=(by simpa using g5);refine Aa ?_;refine ⟨by omega,EL.map k2 ?_⟩;refine Ao ?_;refine VIF.split (λg6=>?_) (λg6=>?_)
   ·refine Aa ?_;exact bad (by simp[g6])
   have g6:decide (b[others[i].toNat].k=1)=false:=(by simpa using g6);refine Aa ?_;refine ⟨by omega,EL.map k1 ?_⟩;refine Ao ?_;refine ⟨by omega,EL.map k2 ?_⟩;refine Ao ?_;refine .pure _ (s45 a[cols[i].toNat] b[others[i].toNat]) rfl λr hq _=>?_;subst hq;refine Ab ?_;refine VIF.split (λg7=>?_) (λg7=>?_)
   ·have g7:cmpV a[cols[i].toNat] b[others[i].toNat]≠0:=(by simpa using g7);refine Aa ?_;exact bad (by simp[g7])
   have g7:cmpV a[cols[i].toNat] b[others[i].toNat]=0:=(by simpa using g7);refine Ak ?_;refine BACK.mk ⟨i+1,by omega,λj hj hj2 hji=>?_⟩ [] rfl rfl (by show cols.length-(i+1)<cols.length-i;omega) ?_
   ·by_cases e2:j=i
    ·subst e2;rw[i1,i2,hg1,hg2,g5,g6,g7];rfl
    ·exact hz j hj hj2 (by omega)
   ·refine Bn ?_;exact id
  ·have h:i=cols.length:=by simp at h;omega
   subst h;refine Aa ?_;have e:meetP a b cols others=true:=by simp only[meetP];rw[List.all_eq_true];intro p hp;obtain ⟨j,hj,rfl⟩:=List.mem_iff_getElem.1 hp;simp only[List.length_zip] at hj;simpa using hz j (by omega) (by omega) (by omega)
   rw[e];rfl
theorem zerosV_leafy (n:Nat):(Ob.mk 3 (List.replicate n [iA 0,iA 0,.pr (.string ⟨#[]⟩)])).leafy:=by intro x hx a ha;rw[(List.mem_replicate.1 hx).2] at ha;simp only[List.mem_cons,List.not_mem_nil,or_false] at ha;rcases ha with rfl|rfl|rfl<;>rfl
theorem c117 (n:Nat) (hn:n<=1073741824):Spec1 Tryz.prog 149 [.nl,iA n] (λr o=>r=.rf 0 0 0/\o.sz=3):=by
 refine spec1_of_vc tabOk elems ord149 Tryz.func149 rfl (rl:=[.tmp 4]) rfl (by kernel_rfl) rfl ?_;refine Ab ?_;refine VIF.split (λh=>by simp at h;omega) (λ_=>?_);have w0:IntKind.i64.wrap (0-0)=0:=by rw[wrap_i64]<;>omega
 have w1:IntKind.i64.wrap ((n:Int)-0)=n:=by rw[wrap_i64]<;>omega
 refine Er ?_;refine VIF.split (λh=>?_) (λh=>?_)
 ·have h:0<n:=(by simpa using h);refine Aa ?_;refine ⟨by decide,⟨_,rfl⟩,⟨by omega,by omega⟩,by decide,?_⟩;refine Aa ?_;refine FINmk [(0,some 22)] [(4,.rf 0 0 0)] [(0,⟨3,List.replicate n [iA 0,iA 0,.pr (.string ⟨#[]⟩)]⟩)] [0] rfl ?_ ?_
  ·refine Ab ?_;exact ⟨⟨rfl,rfl⟩,.same ⟨3,List.replicate n [iA 0,iA 0,.pr (.string ⟨#[]⟩)]⟩ _ _ (zerosV_leafy n) (by simp[iA])⟩
  ·exact ⟨_,⟨⟨rfl,rfl⟩,rfl⟩,zerosV_leafy n,rfl⟩
 ·refine Aa ?_;refine FINmk [(0,none)] [(4,.rf 0 0 0)] [(0,ro3 [])] [0] rfl ?_ ?_
  ·refine Aa ?_;simp[ro3]
  ·exact ⟨ro3 [],⟨⟨rfl,rfl⟩,rfl⟩,ro3_leafy [],rfl⟩
def catV:List (List V)->List V
 | []=>[]
 | z::r=>z++catV r
theorem catV_append (x y:List (List V)):catV (x++y)=catV x++catV y:=by
 induction x with
 | nil=>rfl
 | cons z x ih=>simp only[List.cons_append,catV,ih,List.append_assoc]
theorem catV_take {zs:List (List V)} {i:Nat} (h:i<zs.length):(catV (zs.take (i+1))).length=(catV (zs.take i)).length+zs[i].length:=by rw[List.take_succ_eq_append_getElem h,catV_append];simp[catV]
theorem catV_le (zs:List (List V)) (i:Nat):(catV (zs.take i)).length<=(catV zs).length:=by
 have:catV zs=catV (zs.take i)++catV (zs.drop i):=by rw[<- catV_append,List.take_append_drop]
 rw[this];simp
theorem c75 (zs:List (List V)) (hl:zs.length<=1073741824) (hc:(catV zs).length<=268435456) :
 Spec1 Tryz.prog 95 [rowsA zs] (λr o=>r=.rf 0 0 (catV zs).length/\o.sz=3/\o.es.take (catV zs).length=(catV zs).map V.c):=by
 refine spec1_of_vc tabOk elems ord95 Tryz.func95 rfl (rl:=[.tmp 2]) rfl (by kernel_rfl) rfl ?_;(simp -implicitDefEqProofs only[go_sem,rowsA];repeat (refine GO ?_;simp -implicitDefEqProofs only[go_sem,rowsA]))
 refine LOOP.mk (ι:={i:Nat//i<=zs.length}) (λp=>mkS [(0,rowsA zs),(3,iA (catV (zs.take p.1)).length),(9,rowsA zs),(10,iA zs.length),(11,iA p.1)] [] [])
  (λp=>zs.length-p.1) ⟨0,Nat.zero_le _⟩ [] rfl rfl ?_ (λp=>?_)
 ·refine Dw ?_;exact ⟨id,rfl,rfl⟩
 ·obtain ⟨i,hi⟩:=p;refine Dw ?_;refine VIF.split (λh=>?_) (λh=>?_)
  ·have h:i<zs.length:=(by simpa using h);refine Aa ?_;refine EL.map h ?_;have hct:=catV_take h;have hcl:=catV_le zs (i+1);rw[hct] at hcl;have w1:IntKind.i64.wrap (((catV (zs.take i)).length:Int)+(zs[i].length:Int))=((catV (zs.take (i+1))).length:Int):=by
    rw[hct,wrap_i64]<;>omega
   have w2:=wrap_add1 (show i<4611686018427387904 by omega);(simp -implicitDefEqProofs only[go_sem,rowA,w1,w2];repeat (refine GO ?_;simp -implicitDefEqProofs only[go_sem,rowA,w1,w2]));refine VIF.split (λh=>by simp at h;omega) (λ_=>?_);refine Co ?_;refine BACK.mk ⟨i+1,by omega⟩ [] rfl rfl (by show zs.length-(i+1)<zs.length-i;omega) ?_;(simp -implicitDefEqProofs only[go_sem,iA,rowsA,w1,w2];repeat (refine GO ?_;simp -implicitDefEqProofs only[go_sem,iA,rowsA,w1,w2]));exact ⟨id,rfl,rfl⟩
  ·have h:i=zs.length:=by simp at h;omega
   subst h;refine Bm ?_;refine .make 24 _ (c117 (catV zs).length (by omega)) rfl (by simp) rfl λq o hq hlf=>?_;obtain ⟨rfl,ho⟩:=hq;refine Aa ?_
   refine LOOP.mk (ι:={p:Nat×Ob//p.1<=zs.length/\p.2.sz=3/\p.2.leafy/\p.2.es.take (catV (zs.take p.1)).length=(catV (zs.take p.1)).map V.c})
    (λp=>mkS [(6,.rf 1000 0 (catV (zs.take p.1.1)).length),(25,rowsA zs),(26,iA zs.length),(27,iA p.1.1)] [(1000,p.1.2)] [1000])
    (λp=>zs.length-p.1.1) ⟨(0,o),Nat.zero_le _,ho,hlf,rfl⟩ [(1000,some 24)] rfl rfl ?_ (λp=>?_)
   ·refine Dw ?_;exact ⟨id,⟨rfl,rfl⟩,.same o _ _ hlf rfl⟩
   ·obtain ⟨⟨i,o2⟩,hi,hsz,hlf2,hes⟩:=p;simp only at hi hsz hlf2 hes;refine Dw ?_;refine VIF.split (λh=>?_) (λh=>?_)
    ·have h:i<zs.length:=(by simpa using h);have hct:=catV_take h;have hcl:=catV_le zs (i+1);rw[hct] at hcl;have w2:=wrap_add1 (show i<4611686018427387904 by omega);refine Aa ?_;refine EL.map h ?_;(simp -implicitDefEqProofs only[go_sem,rowA,w2];repeat (refine GO ?_;simp -implicitDefEqProofs only[go_sem,rowA,w2]));refine ⟨⟨hsz,by omega⟩,?_⟩;have hlf3:(Ob.mk 3 (o2.es.take (catV (zs.take i)).length++zs[i].map V.c)).leafy:=by
      rw[hes,<- List.map_append];exact ro3_leafy _
     refine BACK.mk ⟨(i+1,⟨3,o2.es.take (catV (zs.take i)).length++zs[i].map V.c⟩),by omega,rfl,hlf3,by
      show (o2.es.take (catV (zs.take i)).length++zs[i].map V.c).take (catV (zs.take (i+1))).length=(catV (zs.take (i+1))).map V.c;rw[hes,<- List.map_append,List.take_succ_eq_append_getElem h,catV_append];simp only[catV,List.append_nil];exact List.take_of_length_le (by simp)⟩ [(1000,some 33)] rfl rfl (by show zs.length-(i+1)<zs.length-i;omega) ?_
     (simp -implicitDefEqProofs only[go_sem,iA,rowsA,w2];repeat (refine GO ?_;simp -implicitDefEqProofs only[go_sem,iA,rowsA,w2]));refine ⟨id,⟨by rw[hct],rfl⟩,.same (Ob.mk 3 (o2.es.take (catV (zs.take i)).length++zs[i].map V.c)) _ _ hlf3 rfl⟩
    ·have h:i=zs.length:=by simp at h;omega
     subst h;rw[List.take_length] at hes;refine Bm ?_;refine FINmk [(0,some 1000)] [(2,.rf 0 0 (catV zs).length)] [(0,o2)] [0] rfl ?_ ?_
     ·refine Aa ?_;exact .same o2 _ _ hlf2 rfl
     ·exact ⟨o2,⟨⟨rfl,hsz,hes⟩,rfl⟩,hlf2,rfl⟩
theorem c75z (zs:List (List V)) (hl:zs.length<=1073741824) (hc:(catV zs).length<=268435456):Spec0 Tryz.prog 95 [rowsA zs] (·=rowA (catV zs)):=
 (Spec1.fz (c75 zs hl hc)).mono λr O' ⟨⟨⟨r0,o,⟨e1,e2,e4⟩,_,_,e3⟩,hn⟩,hO⟩=>by subst e1;subst e3;refine ⟨⟨?_,hn⟩,hO⟩;rw[fz_rf,if_pos rfl,List.drop_zero,e2,e4];rfl
def pc (p:It×It):List AV:=[rowA p.1.row,iA p.1.w,rowA p.2.row,iA p.2.w]
def pairsA (l:List (It×It)):AV:=.im 4 (l.map pc)
def op4 (l:List (It×It)):Ob:=⟨4,l.map pc⟩
theorem op4_leafy (l:List (It×It)):(op4 l).leafy:=by intro x hx a ha;obtain ⟨p,hp,rfl⟩:=List.mem_map.1 hx;simp only[pc,List.mem_cons,List.not_mem_nil,or_false] at ha;rcases ha with rfl|rfl|rfl|rfl<;>rfl
def pairL (a b:List It) (cols others:List Int):List (It×It):=a.flatMap λx=>(b.filter λy=>meetP x.row y.row cols others).map λy=>(x,y)
def longP (p:It×It):Bool:=decide (12<p.1.row.length+p.2.row.length)
theorem pairL_append (a a' b:List It) (cols others:List Int):pairL (a++a') b cols others=pairL a b cols others++pairL a' b cols others:=by simp[pairL]
theorem pairL_one (x:It) (b b':List It) (cols others:List Int):pairL [x] (b++b') cols others=pairL [x] b cols others++pairL [x] b' cols others:=by simp[pairL]
theorem pairL_len (a b:List It) (cols others:List Int):(pairL a b cols others).length<=a.length*b.length:=by
 induction a with
 | nil=>simp[pairL]
 | cons x a ih=>
   have e:pairL (x::a) b cols others=(b.filter λy=>meetP x.row y.row cols others).map (λy=>(x,y))++pairL a b cols others:=(by simp[pairL]);rw[e,List.length_append,List.length_map,List.length_cons,Nat.succ_mul];have:=List.length_filter_le (λy=>meetP x.row y.row cols others) b;omega
theorem pairL_mem {a b:List It} {cols others:List Int} {p:It×It} (h:p∈pairL a b cols others):p.1∈a/\p.2∈b/\meetP p.1.row p.2.row cols others=true:=by simp only[pairL,List.mem_flatMap,List.mem_map,List.mem_filter] at h;obtain ⟨x,hx,y,⟨hy,hm⟩,rfl⟩:=h;exact ⟨hx,hy,hm⟩
theorem pair_bd {a b:List It} {cols others:List Int} {i j:Nat} (hi:i<a.length) (hj:j<=b.length):(pairL (a.take i) b cols others++pairL [a[i]] (b.take j) cols others).length<=a.length*b.length:=by
 have h1:=pairL_len (a.take (i+1)) b cols others;rw[List.take_succ_eq_append_getElem hi,pairL_append] at h1;have h2:b=b.take j++b.drop j:=(List.take_append_drop j b).symm;have h3:pairL [a[i]] b cols others=pairL [a[i]] (b.take j) cols others++pairL [a[i]] (b.drop j) cols others:=by rw[<- pairL_one,List.take_append_drop]
 rw[h3] at h1;have h4:(a.take i++[a[i]]).length<=a.length:=by simp;omega
 have h5:=Nat.mul_le_mul_right b.length h4;simp only[List.length_append] at h1 ⊢;simp only[List.length_append] at h5;omega
theorem c73 (a b:List It) (cols others:List Int) (hl:cols.length=others.length) (hc:cols.length<1073741824) (hab:a.length*b.length<=268435456) (hal:a.length<=268435456) (hbl:b.length<=268435456) (ha:∀t∈a,t.row.length<1073741824) (hb:∀t∈b,t.row.length<1073741824) :
 Spec0 Tryz.prog 93 [setA a,setA b,intsL cols,intsL others] (·=.tu [pairsA (pairL a b cols others),bA ((pairL a b cols others).any longP)]):=by
 refine spec0_of_vc tabOk elems ord93 Tryz.func93 rfl (rl:=[.tmp 8,.tmp 9]) rfl (by kernel_rfl) rfl ?_;refine Bp ?_
 refine LOOP.mk (ι:={i:Nat//i<=a.length}) (λp=>mkS [(1,setA b),(2,intsL cols),(3,intsL others),(8,.rf 1000 0 (pairL (a.take p.1) b cols others).length),(9,bA ((pairL (a.take p.1) b cols others).any longP)),(14,setA a),(15,iA a.length),(16,iA p.1)]
  [(1000,op4 (pairL (a.take p.1) b cols others))] [1000]) (λp=>a.length-p.1) ⟨0,Nat.zero_le _⟩ [(1000,none)] rfl rfl ?_ (λp=>?_)
 ·refine D6 ?_;simp[pairL]
 ·obtain ⟨i,hi⟩:=p;refine D6 ?_;refine VIF.split (λh1=>?_) (λh1=>?_)
  ·have h1:i<a.length:=(by simpa using h1);have hma:=List.getElem_mem h1;have w1:=wrap_add1 (show i<4611686018427387904 by omega);refine Aa ?_;refine EL.map h1 ?_;refine Ar ?_;have e0:pairL (a.take i) b cols others++pairL [a[i]] (b.take 0) cols others=pairL (a.take i) b cols others:=by simp[pairL]
   refine LOOP.mk (ι:={j:Nat//j<=b.length}) (λp=>mkS [(1,setA b),(2,intsL cols),(3,intsL others),(8,.rf 1000 0 (pairL (a.take i) b cols others++pairL [a[i]] (b.take p.1) cols others).length),(9,bA ((pairL (a.take i) b cols others++pairL [a[i]] (b.take p.1) cols others).any longP)),(11,.pt 1001 0 0),(14,setA a),(15,iA a.length),(16,iA i),(20,setA b),(21,iA b.length),(22,iA p.1)]
    [(1000,op4 (pairL (a.take i) b cols others++pairL [a[i]] (b.take p.1) cols others)),(1001,⟨2,[It.c a[i]]⟩)] [1000,1001]) (λp=>b.length-p.1) ⟨0,Nat.zero_le _⟩ [(1000,some 1000),(1001,some 11)] rfl rfl ?_ (λp=>?_)
   ·simp only[e0];refine E5 ?_;exact ⟨id,rfl,.same (op4 (pairL (a.take i) b cols others)) _ _ (op4_leafy _) rfl,.same ⟨2,[It.c a[i]]⟩ _ _ (by simp[Ob.leafy,It.c,AV.leaf,rowA,iA]) rfl⟩
   ·obtain ⟨j,hj⟩:=p;have hbd:=pair_bd (cols:=cols) (others:=others) h1 hj;simp only;generalize hL:pairL (a.take i) b cols others++pairL [a[i]] (b.take j) cols others=L at *;(simp -implicitDefEqProofs only[go_sem,It.c,bA,iA,intsL,op4,setA];repeat (refine GO ?_;simp -implicitDefEqProofs only[go_sem,It.c,bA,iA,intsL,op4,setA]));refine VIF.split (λh2=>?_) (λh2=>?_)
    ·have h2:j<b.length:=(by simpa using h2);have hmb:=List.getElem_mem h2;have w2:=wrap_add1 (show j<4611686018427387904 by omega);refine Aa ?_;refine EL.map h2 ?_;refine Ar ?_;refine .pure _ (c114 a[i].row b[j].row cols others hl (by have:=ha _ hma;omega) (by have:=hb _ hmb;omega) (by omega)) rfl λr hq _=>?_;subst hq;have eN:pairL (a.take i) b cols others++pairL [a[i]] (b.take (j+1)) cols others=L++pairL [a[i]] [b[j]] cols others:=by
      rw[List.take_succ_eq_append_getElem h2,pairL_one,<- List.append_assoc,hL]
     refine Ad ?_;refine VIF.split (λh3=>?_) (λh3=>?_)
     ·have eM:pairL [a[i]] [b[j]] cols others=[(a[i],b[j])]:=(by simp[pairL,h3]);rw[eM] at eN;refine Aa ?_;refine ⟨by omega,?_⟩;have e1:(List.map pc L).take L.length++[[rowA a[i].row,iA a[i].w,rowA b[j].row,iA b[j].w]]=List.map pc (L++[(a[i],b[j])]):=by
       rw[take_map_len,List.map_append];rfl
      have hany:(L++[(a[i],b[j])]).any longP=(L.any longP||decide (12<a[i].row.length+b[j].row.length)):=(by simp[longP]);refine VIF.split (λh4=>?_) (λh4=>?_)
      ·rw[h4,Bool.true_or] at hany;have hw:True:=trivial;(simp -implicitDefEqProofs only[go_sem,h4,w2];repeat (refine GO ?_;simp -implicitDefEqProofs only[go_sem,h4,w2]));refine BACK.mk ⟨j+1,by omega⟩ [(1000,some 38),(1001,some 1001)] rfl rfl (by show b.length-(j+1)<b.length-j;omega) ?_;simp only[eN,hany];(simp -implicitDefEqProofs only[go_sem,It.c,bA,hw,iA,intsL,op4,setA,w2];repeat (refine GO ?_;simp -implicitDefEqProofs only[go_sem,It.c,bA,hw,iA,intsL,op4,setA,w2]));exact ⟨id,by simp,.same (op4 []) _ _ (λx hx=>op4_leafy (L++[(a[i],b[j])]) x (by rw[op4];exact e1▸hx)) e1,.same ⟨2,[It.c a[i]]⟩ _ _ (by simp[Ob.leafy,It.c,AV.leaf,rowA,iA]) rfl⟩
      ·rw[h4,Bool.false_or] at hany;have hw:IntKind.i64.wrap ((a[i].row.length:Int)+b[j].row.length)=((a[i].row.length+b[j].row.length:Nat):Int):=by
        have:=ha _ hma;have:=hb _ hmb;rw[wrap_i64]<;>omega
       have hd:decide ((12:Int)<((a[i].row.length+b[j].row.length:Nat):Int))=decide (12<a[i].row.length+b[j].row.length):=by rw[decide_eq_decide];omega
       (simp -implicitDefEqProofs only[go_sem,h4,hd,hw,rowA,w2];repeat (refine GO ?_;simp -implicitDefEqProofs only[go_sem,h4,hd,hw,rowA,w2]));refine BACK.mk ⟨j+1,by omega⟩ [(1000,some 38),(1001,some 1001)] rfl rfl (by show b.length-(j+1)<b.length-j;omega) ?_;simp only[eN,hany];(simp -implicitDefEqProofs only[go_sem,It.c,bA,hw,iA,intsL,op4,rowA,setA,w2];repeat (refine GO ?_;simp -implicitDefEqProofs only[go_sem,It.c,bA,hw,iA,intsL,op4,rowA,setA,w2]));exact ⟨id,by simp,.same (op4 []) _ _ (λx hx=>op4_leafy (L++[(a[i],b[j])]) x (by rw[op4];exact e1▸hx)) e1,.same ⟨2,[It.c a[i]]⟩ _ _ (by simp[Ob.leafy,It.c,AV.leaf,rowA,iA]) rfl⟩
     ·have eM:pairL [a[i]] [b[j]] cols others=[]:=(by simp[pairL,h3]);rw[eM,List.append_nil] at eN;refine Bv ?_;refine BACK.mk ⟨j+1,by omega⟩ [(1000,some 1000),(1001,some 1001)] rfl rfl (by show b.length-(j+1)<b.length-j;omega) ?_;simp only[eN];refine E5 ?_;exact ⟨id,.same (op4 L) _ _ (op4_leafy _) rfl,.same ⟨2,[It.c a[i]]⟩ _ _ (by simp[Ob.leafy,It.c,AV.leaf,rowA,iA]) rfl⟩
    ·have h2:j=b.length:=by simp at h2;omega
     subst h2;have eL:L=pairL (a.take (i+1)) b cols others:=(by rw[<- hL,List.take_length,List.take_succ_eq_append_getElem h1,pairL_append]);subst eL;refine Ak ?_;refine BACK.mk ⟨i+1,by omega⟩ [(1000,some 1000)] rfl rfl (by show a.length-(i+1)<a.length-i;omega) ?_;refine D6 ?_;exact ⟨id,.same (op4 (pairL (a.take (i+1)) b cols others)) _ _ (op4_leafy _) rfl⟩
  ·have h1:i=a.length:=by simp at h1;omega
   subst h1;refine Cu ?_;generalize hL:pairL a b cols others=L at *;refine FRZ 1000 (op4 L) rfl (op4_leafy L) ?_;(simp -implicitDefEqProofs only[go_sem,op4];repeat (refine GO ?_;simp -implicitDefEqProofs only[go_sem,op4]));rw[take_map_len];exact ⟨rfl,rfl⟩
def joinI (p:It×It):It:=⟨p.1.row++p.2.row,p.1.w*p.2.w⟩
def JoinR (a b:List It) (cols others:List Int) (out:List It) (err:Int):Prop:=
 (¬(Good a/\Good b)/\out=[]/\err=1)\/(Good a/\Good b/\(cols.length≠others.length\/(cols.length=others.length/\(pairL a b cols others).any longP=true))/\out=[]/\err=2) \/
 (Good a/\Good b/\cols.length=others.length/\(pairL a b cols others).any longP=false/\(∃p∈pairL a b cols others,okW (p.1.w*p.2.w)=false)/\out=[]/\err=11) \/
 (Good a/\Good b/\cols.length=others.length/\(pairL a b cols others).any longP=false/\(∀p∈pairL a b cols others,okW (p.1.w*p.2.w)=true)/\MakeR ((pairL a b cols others).map joinI) out err)
theorem good_w {z:List It} (h:Good z) {t:It} (ht:t∈z):-72057594037927936<=t.w/\t.w<=72057594037927936:=by have:=((good_made.1 h).1.nz t ht).2;simp[okW,inB] at this;exact this
theorem c26 (a b:List It) (cols others:List Int) (hc:cols.length<1073741824) (hd:others.length<1073741824) (hab:a.length*b.length<=268435456) (hal:a.length<=268435456) (hbl:b.length<=268435456) (ha:∀t∈a,t.row.length<1073741824) (hb:∀t∈b,t.row.length<1073741824) :
 Spec0 Tryz.prog 42 [setA a,setA b,intsL cols,intsL others] (λr=>∃(out:List It) (err:Int),r=.tu [setA out,iA err]/\JoinR a b cols others out err):=by
 refine spec0_of_vc tabOk elems ord42 Tryz.func42 rfl (rl:=[.tmp 8,.tmp 9]) rfl (by kernel_rfl) rfl ?_;refine Bp ?_;have bad:∀(e:Int) (s:St),0∉s.used->s.regs 8=.nl->s.regs 9=.pr (.int .i64 e)->JoinR a b cols others [] e->GOES (λst=>hRes T st [.tmp 8,.tmp 9] λv=>v.noId=true/\∃(out:List It) (err:Int),v=.tu [setA out,iA err]/\JoinR a b cols others out err) s:=by
  intro e s hu h8 h9 hj;refine TO [] [(8,setA []),(9,iA e)] [] [] rfl ?_ ?_
  ·refine Dk ?_;exact ⟨λh=>absurd h hu,rfl⟩
  refine Aa ?_;exact ⟨rfl,[],e,rfl,hj⟩
 refine .pure _ (s16 a (by omega) (λt ht=>by have:=ha t ht;omega)) rfl λq hq _=>?_;obtain ⟨e1,rfl,he1,hg1⟩:=hq;refine Ab ?_;refine VIF.split (λh=>?_) (λh=>?_)
 ·have h:e1≠0:=(by simpa using h);refine Aw ?_;exact bad 1 _ (by simp) rfl rfl (.inl ⟨λg=>h (hg1.2 g.1),rfl,rfl⟩)
 have h:e1=0:=by simpa using h
 have hg1:=hg1.1 h;refine Aa ?_;refine .pure _ (s16 b (by omega) (λt ht=>by have:=hb t ht;omega)) rfl λq hq _=>?_;obtain ⟨e2,rfl,he2,hg2⟩:=hq;refine Ab ?_;refine VIF.split (λh=>?_) (λh=>?_)
 ·have h:e2≠0:=(by simpa using h);refine Aw ?_;exact bad 1 _ (by simp) rfl rfl (.inl ⟨λg=>h (hg2.2 g.2),rfl,rfl⟩)
 have h:e2=0:=by simpa using h
 have hg2:=hg2.1 h;refine Aa ?_;refine VIF.split (λh=>?_) (λh=>?_)
 ·have h:cols.length≠others.length:=by simp at h;omega
  refine Aw ?_;exact bad 2 _ (by simp) rfl rfl (.inr (.inl ⟨hg1,hg2,.inl h,rfl,rfl⟩))
 have hl:cols.length=others.length:=by simp at h;omega
 refine Aa ?_;refine .pure _ (c73 a b cols others hl hc hab hal hbl ha hb) rfl λr hq _=>?_;subst hq;have hLl:=pairL_len a b cols others;have hLm:∀p∈pairL a b cols others,p.1∈a/\p.2∈b:=λp hp=>⟨(pairL_mem hp).1,(pairL_mem hp).2.1⟩;generalize hL:pairL a b cols others=L at *;refine Gm ?_;refine VIF.split (λh=>?_) (λh=>?_)
 ·refine Aw ?_;exact bad 2 _ (by simp) rfl rfl (.inr (.inl ⟨hg1,hg2,.inr ⟨hl,by rw[hL];exact h⟩,rfl,rfl⟩))
 have hsh:∀p∈L,p.1.row.length+p.2.row.length<=12:=λp hp=>by rw[List.any_eq_false] at h;have:=h p hp;simp[longP] at this;omega
 refine Aa ?_;refine LOOP.mk (ι:={i:Nat//i<=L.length/\∀p∈L.take i,okW (p.1.w*p.2.w)=true}) (λq=>mkS [(12,.rf 1000 0 q.1),(39,pairsA L),(40,iA L.length),(41,iA q.1)] [(1000,so ((L.take q.1).map joinI))] [1000]) (λq=>L.length-q.1) ⟨0,Nat.zero_le _,by simp⟩ [(1000,none)] rfl rfl ?_ (λq=>?_)
 ·refine Dp ?_;simp
 ·obtain ⟨i,hi,hz⟩:=q;refine Dp ?_;refine VIF.split (λh1=>?_) (λh1=>?_)
  ·have h1:i<L.length:=(by simpa using h1);have hm:=List.getElem_mem h1;have w1:=wrap_add1 (show i<4611686018427387904 by omega);have b1:=good_w hg1 (hLm _ hm).1;have b2:=good_w hg2 (hLm _ hm).2;have hs:=hsh _ hm;refine Aa ?_;refine EL.map h1 ?_;refine Ge ?_;refine .pure _ (c74 L[i].1.w L[i].2.w (by omega) (by omega)) rfl λr hq _=>?_;subst hq;refine A6 ?_;refine VIF.split (λh2=>?_) (λh2=>?_)
   ·have h2:okW (L[i].1.w*L[i].2.w)=false:=(by simpa using h2);refine Aw ?_;exact bad 11 _ (by simp) rfl rfl (.inr (.inr (.inl ⟨hg1,hg2,hl,by rw[hL];exact h,by rw[hL];exact ⟨_,hm,h2⟩,rfl,rfl⟩)))
   have h2:okW (L[i].1.w*L[i].2.w)=true:=(by simpa using h2);have hw:IntKind.i64.wrap (L[i].1.w*L[i].2.w)=L[i].1.w*L[i].2.w:=by simp[okW,inB] at h2;rw[wrap_i64]<;>omega
   refine Aw ?_;refine GO ?_;refine Aw ?_;refine FRZ 64 ⟨1,[[rowA L[i].1.row],[rowA L[i].2.row]]⟩ rfl (by simp[Ob.leafy,AV.leaf,rowA]) ?_;refine Hr ?_;refine .pure _ (show Spec0 Tryz.prog 95 [rowsA [L[i].1.row,L[i].2.row]] _ from c75z [L[i].1.row,L[i].2.row] (by simp) (by simp[catV];omega)) rfl λr hq _=>?_;have hq:r=rowA (joinI L[i]).row:=by rw[hq];simp[catV,joinI]
   subst hq;have e1:(List.map It.c (List.map joinI (L.take i))).take i++[[rowA (joinI L[i]).row,iA (L[i].1.w*L[i].2.w)]]=List.map It.c (List.map joinI (L.take (i+1))):=by rw[List.take_of_length_le (by simp;omega),List.take_succ_eq_append_getElem h1,List.map_append,List.map_append];rfl
   refine G9 ?_;refine ⟨by omega,?_⟩;refine BACK.mk ⟨i+1,by omega,λp hp=>?_⟩ [(1000,some 69)] rfl rfl (by show L.length-(i+1)<L.length-i;omega) ?_
   ·rw[List.take_succ_eq_append_getElem h1,List.mem_append] at hp;rcases hp with hp|hp
    ·exact hz p hp
    ·simp at hp;rw[hp];exact h2
   ·refine Fy ?_;exact ⟨id,.same (so []) _ _ (λx hx=>so_leafy ((L.take (i+1)).map joinI) x (by rw[so];exact e1▸hx)) e1⟩
  ·have h1:i=L.length:=by simp at h1;omega
   subst h1;rw[List.take_length] at hz;refine Cu ?_;refine GO ?_;refine Aw ?_;refine TO [] [(71,setA (L.map joinI))] [] [] rfl ?_ ?_
   ·refine Af ?_;exact ⟨id,by decide,_,rfl,so_leafy (L.map joinI),rfl,List.take_of_length_le (by simp)⟩
   refine Af ?_;refine .pure _ (Spec1.setE (s11 (L.map joinI) (by simp;omega) (λt ht=>by
    obtain ⟨p,hp,rfl⟩:=List.mem_map.1 ht;have:=hsh p hp;simp[joinI];omega))) rfl λq hq _=>?_
   obtain ⟨out,err,rfl,hm⟩:=hq;refine Al ?_;exact ⟨rfl,out,err,rfl,.inr (.inr (.inr ⟨hg1,hg2,hl,by rw[hL];simpa using h,by rw[hL];exact hz,by rw[hL];exact hm⟩))⟩
def Thn (out:List It) (err e:Int) (Q:Prop):Prop:=(e≠0/\out=[]/\err=e)\/(e=0/\Q)
theorem joinR_rows {a b out:List It} {cols others:List Int} {err:Int} (h:JoinR a b cols others out err):out.length<=a.length*b.length/\∀t∈out,t.row.length<=12:=by
 rcases h with ⟨_,rfl,_⟩|⟨_,_,_,rfl,_⟩|⟨_,_,_,_,_,rfl,_⟩|⟨_,_,_,hs,_,hm⟩
 ·simp
 ·simp
 ·simp
 ·obtain ⟨h1,h2⟩:=makeR_rows hm;have:=pairL_len a b cols others;refine ⟨by simpa using Nat.le_trans h1 (by simpa using this),λt ht=>?_⟩;obtain ⟨u,hu,e⟩:=h2 t ht;obtain ⟨p,hp,rfl⟩:=List.mem_map.1 hu;rw[List.any_eq_false] at hs;have:=hs p hp;rw[<- e];simp[longP] at this;simp[joinI];omega
theorem addR_small {a b out:List It} {err:Int} {k:Nat} (h:AddR a b out err) (ha:∀t∈a,t.row.length<k) (hb:∀t∈b,t.row.length<k):∀t∈out,t.row.length<k:=λt ht=>by
 obtain ⟨u,hu,e⟩:=(addR_rows h).2 t ht;rw[<- e];rcases List.mem_append.1 hu with hu|hu
 ·exact ha u hu
 ·exact hb u hu
def linF (f:List V->Int):List It->Int
 | []=>0
 | t::z=>t.w*f t.row+linF f z
theorem linF_append (f:List V->Int) (x y:List It):linF f (x++y)=linF f x+linF f y:=by
 induction x with
 | nil=>simp[linF]
 | cons t x ih=>simp only[List.cons_append,linF,ih];omega
theorem linF_neg (f:List V->Int) (x:List It):linF f (x.map negI)=- linF f x:=by
 induction x with
 | nil=>rfl
 | cons t x ih=>simp only[List.map_cons,linF,ih,negI,Int.neg_mul];omega
theorem linF_split (f:List V->Int) (r:List V) (x:List It):linF f x=tot r x*f r+linF f (x.filter λt=>!decide (cmpR t.row r=0)):=by
 induction x with
 | nil=>simp[linF,tot]
 | cons t x ih=>
   simp only[linF,tot,List.filter_cons];by_cases e:cmpR t.row r=0
   ·have e2:=lin_cmpR.eq _ _ e;subst e2;have hs:=lin_cmpR.self t.row;simp only[hs,if_true,decide_true,Bool.not_true,Bool.false_eq_true,if_false,Int.add_mul,ih];omega
   ·simp only[e,if_false,decide_false,Bool.not_false,if_true,linF,ih,Int.zero_add];omega
theorem tot_filter_self (r:List V) (x:List It):tot r (x.filter λt=>!decide (cmpR t.row r=0))=0:=tot_none λt ht=>by simpa using (List.mem_filter.1 ht).2
theorem tot_filter_ne {r q:List V} (e:q≠r) (x:List It):tot q (x.filter λt=>!decide (cmpR t.row r=0))=tot q x:=by
 induction x with
 | nil=>rfl
 | cons t x ih=>
   simp only[List.filter_cons,tot];by_cases e2:cmpR t.row r=0
   ·have e3:¬cmpR t.row q=0:=λh=>e ((lin_cmpR.eq _ _ h).symm.trans (lin_cmpR.eq _ _ e2));simp[e2,e3,<- ih]
   ·simp[e2,tot,<- ih]
theorem linF_zero (f:List V->Int):∀(n:Nat) (x:List It),x.length<=n->(∀r,tot r x=0)->linF f x=0
 | 0,x,hl,_=>by
   have:x=[]:=List.eq_nil_of_length_eq_zero (by omega);subst this;rfl
 | n+1,x,hl,h=>by
   cases x with
   | nil=>rfl
   | cons t x=>
     rw[linF_split f t.row,h,Int.zero_mul,Int.zero_add];refine linF_zero f n _ ?_ λq=>?_
     ·have:=lin_cmpR.self t.row;rw[List.filter_cons_of_neg (by simp[this])];have:=List.length_filter_le (λu:It=>!decide (cmpR u.row t.row=0)) x;simp at hl;omega
     ·by_cases e:q=t.row
      ·subst e;exact tot_filter_self _ _
      ·rw[tot_filter_ne e,h]
theorem linF_tot (f:List V->Int) {x y:List It} (h:∀r,tot r x=tot r y):linF f x=linF f y:=by
 have h1:=linF_zero f _ (x++y.map negI) (Nat.le_refl _) λr=>by rw[tot_append,tot_neg,h];omega
 rw[linF_append,linF_neg] at h1;omega
theorem linF_add (f:List V->Int) {x y z:List It} (h:∀r,tot r z=tot r x+tot r y):linF f z=linF f x+linF f y:=by rw[<- linF_append];exact linF_tot f λr=>by rw[h,tot_append]
theorem linF_ext {f g:List V->Int} {x:List It} (h:∀t∈x,f t.row=g t.row):linF f x=linF g x:=by
 induction x with
 | nil=>rfl
 | cons t x ih=>simp only[linF,h t (by simp),ih λu hu=>h u (by simp[hu])]
theorem linF_sum (f g:List V->Int) (x:List It):linF (λr=>f r+g r) x=linF f x+linF g x:=by
 induction x with
 | nil=>rfl
 | cons t x ih=>simp only[linF,ih,Int.mul_add];omega
def jt (cols others:List Int) (r:List V) (a b:List It):Int:=linF (λra=>linF (λrb=>if meetP ra rb cols others=true/\cmpR (ra++rb) r=0 then 1 else 0) b) a
theorem tot_join1 (cols others:List Int) (r:List V) (x:It) (b:List It):tot r ((pairL [x] b cols others).map joinI)=x.w*linF (λrb=>if meetP x.row rb cols others=true/\cmpR (x.row++rb) r=0 then 1 else 0) b:=by
 induction b with
 | nil=>simp[pairL,tot,linF]
 | cons y b ihb=>
   have e2:pairL [x] (y::b) cols others=pairL [x] [y] cols others++pairL [x] b cols others:=by rw[<- pairL_one];rfl
   rw[e2,List.map_append,tot_append,ihb];simp only[linF,Int.mul_add];congr 1;by_cases hm:meetP x.row y.row cols others=true
   ·by_cases hc:cmpR (x.row++y.row) r=0
    ·simp[pairL,hm,tot,joinI,hc]
    ·simp[pairL,hm,tot,joinI,hc]
   ·simp[pairL,hm,tot]
theorem tot_join (cols others:List Int) (r:List V) (a b:List It):tot r ((pairL a b cols others).map joinI)=jt cols others r a b:=by
 induction a with
 | nil=>rfl
 | cons x a ih=>
   have e:pairL (x::a) b cols others=pairL [x] b cols others++pairL a b cols others:=by rw[<- pairL_append];rfl
   rw[e,List.map_append,tot_append,ih,tot_join1];rfl
theorem jt_left {a da na:List It} (h:∀r,tot r na=tot r a+tot r da) (cols others:List Int) (r:List V) (b:List It):jt cols others r na b=jt cols others r a b+jt cols others r da b:=linF_add _ h
theorem jt_right {b db nb:List It} (h:∀r,tot r nb=tot r b+tot r db) (cols others:List Int) (r:List V) (a:List It):jt cols others r a nb=jt cols others r a b+jt cols others r a db:=by simp only[jt];rw[<- linF_sum];exact linF_ext λt _=>linF_add _ h
theorem mul_small {x y i j:Int} (hx:-i<=x/\x<=i) (hy:-j<=y/\y<=j):-(i*j)<=x*y/\x*y<=i*j:=by
 have h1:=Int.natAbs_mul x y;have h2:x.natAbs<=i.natAbs:=by omega
 have h3:y.natAbs<=j.natAbs:=by omega
 have h4:=Nat.mul_le_mul h2 h3;have h5:(i.natAbs*j.natAbs:Nat)=(i*j).natAbs:=(Int.natAbs_mul i j).symm;have h6:0<=i*j:=Int.mul_nonneg (by omega) (by omega);omega
def two (t:It):Bool:=decide (t.row.length=2)
def ind (r q:List V):Int:=if cmpR q r=0 then 1 else 0
theorem tot_proj_linF (r:List V) (cols:List Int) (z:List It):tot r (z.map (projI cols))=linF (λq=>ind r (pickR q cols)) z:=by
 induction z with
 | nil=>rfl
 | cons t z ih=>
   simp only[List.map_cons,tot,linF,ih,ind];have e:(projI cols t).row=pickR t.row cols:=rfl;have e2:(projI cols t).w=t.w:=rfl;rw[e,e2];split<;>simp
def inVal (n:Int):Bool:=inB n (-1152921504606846976) 1152921504606846976
theorem c147 (n:Int):Spec0 Tryz.prog 186 [iA n] (·=bA (inVal n)):=by
 refine spec0_of_vc tabOk elems ord186 Tryz.func186 rfl (rl:=[.tmp 2]) rfl (by kernel_rfl) rfl ?_;refine Ab ?_;refine VIF.split (λh=>?_) (λh=>?_)
 ·refine Aa ?_;simp at h;simp[inVal,inB,bA,h]
 ·refine Aa ?_;simp at h;simp[inVal,inB,bA];omega
theorem u64_abs (a:Int) (h:-9223372036854775807<=a/\a<=9223372036854775807):IntKind.u64.wrap (max a (IntKind.i64.wrap (0-a)))=a.natAbs:=by
 have w1:IntKind.i64.wrap (0-a)=-a:=by rw[wrap_i64]<;>omega
 rw[w1,wrap_u64]<;>omega
theorem c146 (a b:Int) (ha:-4611686018427387904<=a/\a<=4611686018427387904) (hb:-4611686018427387904<=b/\b<=4611686018427387904) :
 Spec0 Tryz.prog 185 [iA a,iA b] (·=.tu [iA (IntKind.i64.wrap (a*b)),bA (inVal (a*b))]):=by
 refine spec0_of_vc tabOk elems ord185 Tryz.func185 rfl (rl:=[.tmp 4,.tmp 5]) rfl (by kernel_rfl) rfl ?_;have e1:=u64_abs a (by omega);have e2:=u64_abs b (by omega);(simp -implicitDefEqProofs only[go_sem,e1,e2,iA];repeat (refine GO ?_;simp -implicitDefEqProofs only[go_sem,e1,e2,iA]));refine .pure _ (c115 (a.natAbs:Int) (b.natAbs:Int) (by omega) (by omega)) rfl λr hq _=>?_;subst hq;have hk:=natAbs_mul_le a b 1152921504606846976;have h0:0<=(a.natAbs:Int)*b.natAbs:=Int.mul_nonneg (by omega) (by omega);refine C6 ?_;refine VIF.split (λh=>?_) (λh=>?_)
 ·have h:(a.natAbs:Int)*b.natAbs / 18446744073709551616=0:=(by simpa using h);refine Aa ?_;have e:(a.natAbs:Int)*b.natAbs%18446744073709551616=(a.natAbs:Int)*b.natAbs:=(by omega);rw[e];simp only[inVal,inB,bA,h,decide_true];refine ⟨rfl,?_⟩;congr 5;rw[<- Bool.decide_and,decide_eq_decide];exact hk
 ·have h:(a.natAbs:Int)*b.natAbs / 18446744073709551616≠0:=(by simpa using h);refine Aa ?_;have hn:¬(-1152921504606846976<=a*b/\a*b<=1152921504606846976):=λh'=>by have:=hk.2 h';omega
  have e:inVal (a*b)=false:=by simp only[inVal,inB,<- Bool.decide_and];exact decide_eq_false hn
  simp[h,e,bA,iA]
theorem c138 (n a b:Int) (ha:-4611686018427387904<=a/\a<=4611686018427387904) (hb:-4611686018427387904<=b/\b<=4611686018427387904) (hn:inVal n=true) :
 Spec0 Tryz.prog 153 [iA n,iA a,iA b] (λr=>∃v:Int,r=.tu [iA v,bA (inVal (a*b)&&inVal (n+a*b))]/\((inVal (a*b)&&inVal (n+a*b))=true->v=n+a*b)):=by
 refine spec0_of_vc tabOk elems ord153 Tryz.func153 rfl (rl:=[.tmp 6,.tmp 7]) rfl (by kernel_rfl) rfl ?_;refine Ab ?_;refine .pure _ (c146 a b ha hb) rfl λr hq _=>?_;subst hq;refine A6 ?_;refine VIF.split (λh=>?_) (λh=>?_)
 ·have hm:-1152921504606846976<=a*b/\a*b<=1152921504606846976:=(by simpa [inVal,inB] using h);have hn':-1152921504606846976<=n/\n<=1152921504606846976:=(by simpa [inVal,inB] using hn);have w1:IntKind.i64.wrap (a*b)=a*b:=by rw[wrap_i64]<;>omega
  have w2:IntKind.i64.wrap (n+a*b)=n+a*b:=by rw[wrap_i64]<;>omega
  refine Co ?_;refine .pure _ (c147 (n+a*b)) rfl λr hq _=>?_;subst hq;refine A6 ?_;exact ⟨rfl,n+a*b,by rw[h,Bool.true_and],λ_=>rfl⟩
 ·refine Aa ?_;refine ⟨rfl,_,by rw[h,Bool.false_and];rfl,λh'=>?_⟩;rw[h,Bool.false_and] at h';cases h'
structure Gp where
 at_:List V
 items:List It
def Gp.c (g:Gp):List AV:=[rowA g.at_,setA g.items]
def sumF (kind col:Int):List It->Int->Option Int
 | [],n=>some n
 | x::r,n=>if kind=2/\(getV x.row col).k≠3 then sumF kind col r n else
     if (inVal (x.w*(if kind=2 then (getV x.row col).i else 1))&&inVal (n+x.w*(if kind=2 then (getV x.row col).i else 1)))=true then sumF kind col r (n+x.w*(if kind=2 then (getV x.row col).i else 1)) else none
def V.zero:V:=⟨0,0,ByteArray.empty⟩
def sumV:Option Int->V
 | some n=>⟨3,n,ByteArray.empty⟩
 | none=>V.zero
theorem leaf1:∀x∈(Ob.mk 3 [V.zero.c]).es,∀a∈x,a.leaf=true:=by simp[V.c,AV.leaf]
theorem c109 (g:Gp) (kind col:Int) (hl:g.items.length<4611686018427387904) (hr:∀t∈g.items,t.row.length<4611686018427387904)
 (hw:∀t∈g.items,-72057594037927936<=t.w/\t.w<=72057594037927936) (hv:∀t∈g.items,∀v∈t.row,-4611686018427387904<=v.i/\v.i<=4611686018427387904) (hc:kind≠1->∀t∈g.items,inC col t.row.length=true) :
 Spec0 Tryz.prog 100 [.ag g.c,iA kind,iA col] (·=.tu [.ag (sumV (sumF kind col g.items 0)).c,bA (sumF kind col g.items 0).isSome]):=by
 refine spec0_of_vc tabOk elems ord100 Tryz.func100 rfl (rl:=[.cell 6 47,.tmp 7]) rfl (by kernel_rfl) rfl ?_;refine Ft ?_
 refine LOOP.mk (ι:={p:Nat×Int//p.1<=g.items.length/\sumF kind col g.items 0=sumF kind col (g.items.drop p.1) p.2/\inVal p.2=true}) (λp=>mkS [(1,iA kind),(2,iA col),(6,.pt 1000 0 0),(8,iA p.1.2),(15,setA g.items),(16,iA g.items.length),(17,iA p.1.1)] [(1000,⟨3,[V.zero.c]⟩)] [1000])
  (λp=>g.items.length-p.1.1) ⟨(0,0),Nat.zero_le _,rfl,by decide⟩ [(1000,some 6)] rfl rfl ?_ (λp=>?_)
 ·refine C9 ?_;exact ⟨id,rfl,.same ⟨3,[V.zero.c]⟩ _ _ leaf1 rfl⟩
 obtain ⟨⟨i,n⟩,hi,hs,hn⟩:=p;simp only at hi hs hn;refine C9 ?_;refine VIF.split (λh=>?_) (λh=>?_)
 ·have h:i<g.items.length:=(by simpa using h);have hm:=List.getElem_mem h;have w1:=wrap_add1 (show i<4611686018427387904 by omega)
  have hst:sumF kind col (g.items.drop i) n=if kind=2/\(getV g.items[i].row col).k≠3 then sumF kind col (g.items.drop (i+1)) n else
   if (inVal (g.items[i].w*(if kind=2 then (getV g.items[i].row col).i else 1))&&inVal (n+g.items[i].w*(if kind=2 then (getV g.items[i].row col).i else 1)))=true then sumF kind col (g.items.drop (i+1)) (n+g.items[i].w*(if kind=2 then (getV g.items[i].row col).i else 1)) else none:=by
   rw[List.drop_eq_getElem_cons h];rfl
  refine Aa ?_;refine EL.map h ?_;refine Be ?_;refine VIF.split (λh2=>?_) (λh2=>?_)
  ·have h2:kind=2:=(by simpa using h2);have hin:=hc (by omega) _ hm;have hin':0<=col/\col.toNat<g.items[i].row.length:=by simp[inC] at hin;omega
   have hgv:getV g.items[i].row col=g.items[i].row[col.toNat]:=(by simp[getV,hin'.2]);refine A3 ?_;refine ⟨hin'.1,EL.map hin'.2 ?_⟩;refine Ao ?_;refine VIF.split (λh3=>?_) (λh3=>?_)
   ·have h3:g.items[i].row[col.toNat].k≠3:=(by simpa using h3);refine Ak ?_;refine BACK.mk ⟨(i+1,n),by simp only;omega,?_,hn⟩ [(1000,some 1000)] rfl rfl (by show g.items.length-(i+1)<g.items.length-i;omega) ?_
    ·rw[hs,hst,if_pos ⟨h2,by rw[hgv];exact h3⟩]
    ·refine B3 ?_;exact ⟨id,.same ⟨3,[V.zero.c]⟩ _ _ leaf1 rfl⟩
   ·have h3:g.items[i].row[col.toNat].k=3:=(by simpa using h3);have hb:=hv _ hm _ (List.getElem_mem hin'.2);have hwm:=hw _ hm;rw[if_neg (λh=>h.2 (by rw[hgv];exact h3)),if_pos h2,hgv] at hst;refine Aa ?_;refine .pure _ (c138 n g.items[i].w g.items[i].row[col.toNat].i (by omega) hb hn) rfl λr hq _=>?_;obtain ⟨v,rfl,hv2⟩:=hq;refine A6 ?_;refine VIF.split (λh4=>?_) (λh4=>?_)
    ·have h4:(inVal (g.items[i].w*g.items[i].row[col.toNat].i)&&inVal (n+g.items[i].w*g.items[i].row[col.toNat].i))=false:=(by simpa only[Bool.not_eq_true'] using h4);rw[if_neg (by rw[h4];decide)] at hst;refine Aa ?_;rw[hs,hst];exact ⟨rfl,rfl⟩
    ·have h4:(inVal (g.items[i].w*g.items[i].row[col.toNat].i)&&inVal (n+g.items[i].w*g.items[i].row[col.toNat].i))=true:=(by simpa only[Bool.not_eq_false'] using h4);have hv3:=hv2 h4;rw[if_pos h4,<- hv3] at hst;refine Ak ?_;refine BACK.mk ⟨(i+1,v),by simp only;omega,hs.trans hst,?_⟩ [(1000,some 1000)] rfl rfl (by show g.items.length-(i+1)<g.items.length-i;omega) ?_
     ·rw[hv3];exact (Bool.and_eq_true _ _▸h4).2
     ·refine B3 ?_;exact ⟨id,.same ⟨3,[V.zero.c]⟩ _ _ leaf1 rfl⟩
  ·have h2:kind≠2:=(by simpa using h2);have hwm:=hw _ hm;simp only[h2,false_and,if_false,Int.mul_one] at hst;refine Bj ?_;refine .pure _ (show Spec0 Tryz.prog 153 [iA n,iA g.items[i].w,iA 1] _ from c138 n g.items[i].w 1 (by omega) (by omega) hn) rfl λr hq _=>?_;obtain ⟨v,rfl,hv2⟩:=hq;rw[Int.mul_one] at hv2 ⊢;refine A6 ?_;refine VIF.split (λh4=>?_) (λh4=>?_)
   ·have h4:(inVal (g.items[i].w)&&inVal (n+g.items[i].w))=false:=(by simpa only[Bool.not_eq_true'] using h4);rw[if_neg (by rw[h4];decide)] at hst;refine Aa ?_;rw[hs,hst];exact ⟨rfl,rfl⟩
   ·have h4:(inVal (g.items[i].w)&&inVal (n+g.items[i].w))=true:=(by simpa only[Bool.not_eq_false'] using h4);have hv3:=hv2 h4;rw[if_pos h4,<- hv3] at hst;refine Ak ?_;refine BACK.mk ⟨(i+1,v),by simp only;omega,hs.trans hst,?_⟩ [(1000,some 1000)] rfl rfl (by show g.items.length-(i+1)<g.items.length-i;omega) ?_
    ·rw[hv3];exact (Bool.and_eq_true _ _▸h4).2
    ·refine B3 ?_;exact ⟨id,.same ⟨3,[V.zero.c]⟩ _ _ leaf1 rfl⟩
 ·have h:i=g.items.length:=by simp at h;omega
  subst h;rw[List.drop_length] at hs;refine Aa ?_;rw[hs];exact ⟨rfl,rfl⟩
def bestF (kind col:Int):List It->V->V
 | [],o=>o
 | x::r,o=>if (getV x.row col).k=1 then bestF kind col r o else
     if o.k=1\/(kind=3/\cmpV (getV x.row col) o<0)\/(kind=4/\0<cmpV (getV x.row col) o) then bestF kind col r (getV x.row col) else bestF kind col r o
def V.nul:V:=⟨1,0,ByteArray.empty⟩
theorem leafV (v:V):∀x∈(Ob.mk 3 [v.c]).es,∀a∈x,a.leaf=true:=by simp[V.c,AV.leaf]
theorem c108 (g:Gp) (kind col:Int) (hl:g.items.length<4611686018427387904) (hc:kind≠1->∀t∈g.items,inC col t.row.length=true) :
 Spec0 Tryz.prog 99 [.ag g.c,iA kind,iA col] (·=.ag (if kind=1 then V.nul else bestF kind col g.items V.nul).c):=by
 refine spec0_of_vc tabOk elems ord99 Tryz.func99 rfl (rl:=[.cell 6 47]) rfl (by kernel_rfl) rfl ?_;refine Ft ?_;refine VIF.split (λh=>?_) (λh=>?_)
 ·have h:kind=1:=(by simpa using h);refine Aa ?_;rw[if_pos h];exact ⟨rfl,rfl⟩
 have h1:kind≠1:=by simpa using h
 rw[if_neg h1];refine Aa ?_
 refine LOOP.mk (ι:={p:Nat×V//p.1<=g.items.length/\bestF kind col g.items V.nul=bestF kind col (g.items.drop p.1) p.2}) (λp=>mkS [(1,iA kind),(2,iA col),(6,.pt 1001 0 0),(7,.pt 1000 0 0),(17,setA g.items),(18,iA g.items.length),(19,iA p.1.1)] [(1000,⟨3,[p.1.2.c]⟩),(1001,⟨3,[V.zero.c]⟩)] [1000,1001])
  (λp=>g.items.length-p.1.1) ⟨(0,V.nul),Nat.zero_le _,rfl⟩ [(1000,some 7),(1001,some 6)] rfl rfl ?_ (λp=>?_)
 ·refine Fg ?_;exact ⟨id,rfl,.same ⟨3,[V.nul.c]⟩ _ _ (leafV V.nul) rfl,.same ⟨3,[V.zero.c]⟩ _ _ leaf1 rfl⟩
 obtain ⟨⟨i,o⟩,hi,hs⟩:=p;simp only at hi hs;refine C9 ?_;refine VIF.split (λh=>?_) (λh=>?_)
 ·have h:i<g.items.length:=(by simpa using h);have hm:=List.getElem_mem h;have w1:=wrap_add1 (show i<4611686018427387904 by omega);have hin:=hc h1 _ hm;have hin':0<=col/\col.toNat<g.items[i].row.length:=by simp[inC] at hin;omega
  have hgv:getV g.items[i].row col=g.items[i].row[col.toNat]:=by simp[getV,hin'.2]
  have hst:bestF kind col (g.items.drop i) o=if g.items[i].row[col.toNat].k=1 then bestF kind col (g.items.drop (i+1)) o else
   if o.k=1\/(kind=3/\cmpV g.items[i].row[col.toNat] o<0)\/(kind=4/\0<cmpV g.items[i].row[col.toNat] o) then bestF kind col (g.items.drop (i+1)) g.items[i].row[col.toNat] else bestF kind col (g.items.drop (i+1)) o:=by
   rw[List.drop_eq_getElem_cons h,<- hgv];rfl
  refine Aa ?_;refine EL.map h ?_;refine A4 ?_;refine ⟨hin'.1,EL.map hin'.2 ?_⟩;refine Ao ?_;refine VIF.split (λh3=>?_) (λh3=>?_)
  ·have h3:g.items[i].row[col.toNat].k=1:=(by simpa using h3);rw[if_pos h3] at hst;refine Ak ?_;refine BACK.mk ⟨(i+1,o),by simp only;omega,hs.trans hst⟩ [(1000,some 1000),(1001,some 1001)] rfl rfl (by show g.items.length-(i+1)<g.items.length-i;omega) ?_;refine A9 ?_;exact ⟨id,.same ⟨3,[o.c]⟩ _ _ (leafV o) rfl,.same ⟨3,[V.zero.c]⟩ _ _ leaf1 rfl⟩
  have h3:g.items[i].row[col.toNat].k≠1:=(by simpa using h3);rw[if_neg h3] at hst;refine Aa ?_;refine .pure _ (s45 g.items[i].row[col.toNat] o) rfl λr hq _=>?_;subst hq;refine Ak ?_
  have hb:∀b:Bool,b=decide (o.k=1\/(kind=3/\cmpV g.items[i].row[col.toNat] o<0)\/(kind=4/\0<cmpV g.items[i].row[col.toNat] o)) ->
   bestF kind col (g.items.drop i) o=bestF kind col (g.items.drop (i+1)) (if b=true then g.items[i].row[col.toNat] else o):=by
   rintro _ rfl;rw[hst];by_cases h4:o.k=1\/(kind=3/\cmpV g.items[i].row[col.toNat] o<0)\/(kind=4/\0<cmpV g.items[i].row[col.toNat] o)
   ·rw[if_pos h4,decide_eq_true h4];rfl
   ·rw[if_neg h4,decide_eq_false h4];rfl
  have tk:∀b:Bool,b=decide (o.k=1\/(kind=3/\cmpV g.items[i].row[col.toNat] o<0)\/(kind=4/\0<cmpV g.items[i].row[col.toNat] o)) ->
   (i+1,if b=true then g.items[i].row[col.toNat] else o).1<=g.items.length/\bestF kind col g.items V.nul=bestF kind col (g.items.drop (i+1,if b=true then g.items[i].row[col.toNat] else o).1) (i+1,if b=true then g.items[i].row[col.toNat] else o).2:=λb hb'=>
   ⟨by simp only;omega,hs.trans (hb b hb')⟩
  repeat' (refine VIF.split (λa=>?_) (λa=>?_)<;>(simp -implicitDefEqProofs only[go_sem,w1];repeat (refine GO ?_;simp -implicitDefEqProofs only[go_sem,w1])))
  all_goals try simp only[decide_eq_true_eq,decide_eq_false_iff_not] at *
  all_goals first
             | (exfalso;omega)
             | (refine BACK.mk ⟨(i+1,g.items[i].row[col.toNat]),tk true (by simp[*])⟩ [(1000,some 1000),(1001,some 1001)] rfl rfl (by show g.items.length-(i+1)<g.items.length-i;omega) ?_
                refine A9 ?_;exact ⟨id,.same ⟨3,[g.items[i].row[col.toNat].c]⟩ _ _ (leafV g.items[i].row[col.toNat]) rfl,.same ⟨3,[V.zero.c]⟩ _ _ leaf1 rfl⟩)
             | (refine BACK.mk ⟨(i+1,o),tk false (by simp[*])⟩ [(1000,some 1000),(1001,some 1001)] rfl rfl (by show g.items.length-(i+1)<g.items.length-i;omega) ?_
                refine A9 ?_;exact ⟨id,.same ⟨3,[o.c]⟩ _ _ (leafV o) rfl,.same ⟨3,[V.zero.c]⟩ _ _ leaf1 rfl⟩)
 ·have h:i=g.items.length:=by simp at h;omega
  subst h;rw[List.drop_length] at hs;refine Aa ?_;rw[hs];exact ⟨rfl,rfl⟩
theorem c106 (z:List It) (cols:List Int) (kind col:Int) (hl:z.length<4611686018427387904) (hr:∀t∈z,t.row.length<1073741824) (hc:cols.length<1073741824) :
 Spec0 Tryz.prog 97 [setA z,intsL cols,iA kind,iA col] (λr=>∃e:Int,r=iA e/\(e=0\/e=1\/e=2)/\(e=0 ↔ Good z/\1<=kind/\kind<=4/\cols.length<12/\∀t∈z,pickE t.row cols=0/\(kind≠1->inC col t.row.length=true)) /\
  (e=2 ↔ Good z/\1<=kind/\kind<=4/\12<=cols.length)):=by
 refine spec0_of_vc tabOk elems ord97 Tryz.func97 rfl (rl:=[.tmp 8]) rfl (by kernel_rfl) rfl ?_;refine Bd ?_;refine .pure _ (show Spec0 Tryz.prog 54 [setA z] _ from s16 z hl (λt ht=>by have:=hr t ht;omega)) rfl λr hq _=>?_;obtain ⟨e,rfl,he,hg⟩:=hq;refine Ab ?_;refine VIF.split (λh=>?_) (λh=>?_)
 ·have h:e≠0:=(by simpa using h);have h1:e=1:=(by omega);subst h1;refine Aa ?_;have hng:¬Good z:=λg=>h (hg.2 g);exact ⟨1,rfl,by omega,⟨λh=>by omega,λg=>absurd g.1 hng⟩,⟨λh=>by omega,λg=>absurd g.1 hng⟩⟩
 have h:e=0:=by simpa using h
 have hgz:=hg.1 h;subst h;refine Aa ?_;refine VIF.split (λh=>?_) (λh=>?_)
 ·have h:kind<1:=(by simpa using h);refine Aa ?_;exact ⟨1,rfl,by omega,⟨λh=>by omega,λg=>by omega⟩,⟨λh=>by omega,λg=>by omega⟩⟩
 have k1:1<=kind:=by simpa using h
 refine Aa ?_;refine VIF.split (λh=>?_) (λh=>?_)
 ·have h:4<kind:=(by simpa using h);refine Aa ?_;exact ⟨1,rfl,by omega,⟨λh=>by omega,λg=>by omega⟩,⟨λh=>by omega,λg=>by omega⟩⟩
 have k2:kind<=4:=by simpa using h
 refine Aa ?_;refine VIF.split (λh=>?_) (λh=>?_)
 ·have h:12<=cols.length:=by simp at h;omega
  refine Aa ?_;exact ⟨2,rfl,by omega,⟨λh=>by omega,λg=>by omega⟩,⟨λ_=>⟨hgz,k1,k2,h⟩,λ_=>rfl⟩⟩
 have k3:cols.length<12:=by simp at h;omega
 refine Aa ?_
 refine LOOP.mk (ι:={i:Nat//i<=z.length/\∀j (h:j<z.length),j<i->pickE z[j].row cols=0/\(kind≠1->inC col z[j].row.length=true)}) (λp=>mkS [(1,intsL cols),(2,iA kind),(3,iA col),(31,setA z),(32,iA z.length),(33,iA p.1)] [] [])
  (λp=>z.length-p.1) ⟨0,Nat.zero_le _,λj _ h=>absurd h (Nat.not_lt_zero _)⟩ [] rfl rfl ?_ (λp=>?_)
 ·refine Bd ?_;exact ⟨id,rfl⟩
 obtain ⟨i,hi,hz⟩:=p;refine Bd ?_;refine VIF.split (λh=>?_) (λh=>?_)
 ·have h:i<z.length:=(by simpa using h);have hm:=List.getElem_mem h;have hrl:=hr _ hm;have w1:=wrap_add1 (show i<4611686018427387904 by omega)
  have bad:∀(hb:¬(pickE z[i].row cols=0/\(kind≠1->inC col z[i].row.length=true))),∃e:Int,AV.pr (Value.int .i64 1)=iA e/\(e=0\/e=1\/e=2)/\(e=0 ↔ Good z/\1<=kind/\kind<=4/\cols.length<12/\∀t∈z,pickE t.row cols=0/\(kind≠1->inC col t.row.length=true)) /\
   (e=2 ↔ Good z/\1<=kind/\kind<=4/\12<=cols.length):=λhb=>⟨1,rfl,by omega,⟨λh=>by omega,λg=>absurd (g.2.2.2.2 _ hm) hb⟩,⟨λh=>by omega,λg=>by omega⟩⟩
  refine Aa ?_;refine EL.map h ?_;refine A4 ?_;refine .make 41 _ (show Spec1 Tryz.prog 92 [rowA z[i].row,intsL cols] _ from c61 z[i].row cols hrl hc) rfl (by simp) rfl λq o hq hlf=>?_;obtain ⟨out,err,rfl,rfl,rfl,h6,h7⟩:=hq;refine Ab ?_;refine VIF.split (λh2=>?_) (λh2=>?_)
  ·have h2:pickE z[i].row cols≠0:=(by simpa using h2);refine Aa ?_;exact bad λg=>h2 g.1
  have h2:pickE z[i].row cols=0:=(by simpa using h2);refine Aa ?_;refine VIF.split (λh3=>?_) (λh3=>?_)
  ·have h3:kind≠1:=(by simpa using h3);refine Aa ?_;refine VIF.split (λh4=>?_) (λh4=>?_)
   ·have h4:col<0:=(by simpa using h4);refine Aa ?_;exact bad λg=>by have:=g.2 h3;simp[inC] at this;omega
   have h4:0<=col:=(by simpa using h4);refine A3 ?_;refine VIF.split (λh5=>?_) (λh5=>?_)
   ·have h5:(z[i].row.length:Int)<=col:=(by simpa using h5);refine Aa ?_;exact bad λg=>by have:=g.2 h3;simp[inC] at this;omega
   have h5:col<z[i].row.length:=(by simpa using h5);refine Ak ?_;refine BACK.mk ⟨i+1,by omega,λj hj hji=>?_⟩ [] rfl rfl (by show z.length-(i+1)<z.length-i;omega) ?_
   ·by_cases ej:j=i
    ·subst ej;exact ⟨h2,λ_=>by simp[inC];omega⟩
    ·exact hz j hj (by omega)
   ·refine Cw ?_;exact id
  ·have h3:kind=1:=(by simpa using h3);refine Ak ?_;refine BACK.mk ⟨i+1,by omega,λj hj hji=>?_⟩ [] rfl rfl (by show z.length-(i+1)<z.length-i;omega) ?_
   ·by_cases ej:j=i
    ·subst ej;exact ⟨h2,λg=>absurd h3 g⟩
    ·exact hz j hj (by omega)
   ·refine Cw ?_;exact id
 ·have h:i=z.length:=by simp at h;omega
  subst h;refine Aa ?_;refine ⟨0,rfl,by omega,⟨λ_=>⟨hgz,k1,k2,k3,λt ht=>?_⟩,λ_=>rfl⟩,⟨λh=>by omega,λg=>by omega⟩⟩;obtain ⟨j,hj,rfl⟩:=List.mem_iff_getElem.1 ht;exact hz j hj hj
theorem c136 (g:Gp) (a:List V) (hg:g.at_.length<4611686018427387904):Spec0 Tryz.prog 151 [.ag g.c,rowA a] (·=iA (cmpR g.at_ a)):=by refine spec0_of_vc tabOk elems ord151 Tryz.func151 rfl (rl:=[.tmp 4]) rfl (by kernel_rfl) rfl ?_;(simp -implicitDefEqProofs only[go_sem,Gp.c,rowA];repeat (refine GO ?_;simp -implicitDefEqProofs only[go_sem,Gp.c,rowA]));refine .pure _ (show Spec0 Tryz.prog 107 [rowA g.at_,rowA a] _ from s13 g.at_ a hg) rfl λr hq _=>?_;subst hq;exact A8
def gsA (gs:List Gp):AV:=.im 2 (gs.map Gp.c)
theorem shr1 (n:Nat):(n:Int) / 2 ^ min (Int.toNat 1) 64=((n / 2:Nat):Int):=by
 have h2:(2:Int) ^ min (Int.toNat 1) 64=2:=by decide
 rw[h2];omega
theorem c135 (gs:List Gp) (a:List V) (hl:gs.length<1073741824) (hg:∀g∈gs,g.at_.length<4611686018427387904) (hm:∀i j (hi:i<gs.length) (hj:j<gs.length),i<j->cmpR gs[j].at_ a<0->cmpR gs[i].at_ a<0) :
 Spec0 Tryz.prog 150 [gsA gs,rowA a,.fn 151 []] (λr=>∃(k:Nat) (b:Bool),r=.tu [iA k,bA b]/\k<=gs.length/\(∀j (h:j<gs.length),j<k->cmpR gs[j].at_ a<0)/\(∀j (h:j<gs.length),k<=j->0<=cmpR gs[j].at_ a) /\
  (b=true ↔ ∃h:k<gs.length,cmpR gs[k].at_ a=0)):=by
 refine spec0_of_vc tabOk elems ord150 Tryz.func150 rfl (rl:=[.tmp 6,.tmp 7]) rfl (by kernel_rfl) rfl ?_;refine Cz ?_
 refine LOOP.mk (ι:={p:Nat×Nat//p.1<=p.2/\p.2<=gs.length/\(∀j (h:j<gs.length),j<p.1->cmpR gs[j].at_ a<0)/\(∀j (h:j<gs.length),p.2<=j->0<=cmpR gs[j].at_ a)}) (λp=>mkS [(0,gsA gs),(1,rowA a),(2,.fn 151 []),(8,iA gs.length),(9,iA p.1.1),(10,iA p.1.2)] [] [])
  (λp=>p.1.2-p.1.1) ⟨(0,gs.length),Nat.zero_le _,Nat.le_refl _,λj _ h=>absurd h (Nat.not_lt_zero _),λj h h'=>by simp only at h';omega⟩ [] rfl rfl ?_ (λp=>?_)
 ·refine Cz ?_;exact ⟨id,rfl⟩
 obtain ⟨⟨i,j⟩,hij,hj,h1,h2⟩:=p;simp only at hij hj h1 h2;refine Cz ?_;refine VIF.split (λh=>?_) (λh=>?_)
 ·have h:i<j:=(by simpa using h);have e1:IntKind.i64.wrap ((i:Int)+j)=((i+j:Nat):Int):=by rw[wrap_i64]<;>omega
  have e2:=u64_nat (show i+j<4611686018427387904 by omega);have e3:=shr1 (i+j);obtain ⟨m,hme⟩:∃m,m=(i+j) / 2:=⟨_,rfl⟩;rw[<- hme] at e3;have e4:IntKind.i64.wrap (m:Int)=m:=by rw[wrap_i64]<;>omega
  have hmi:i<=m/\m<j:=(by omega);have hml:m<gs.length:=(by omega);have w1:=wrap_add1 (show m<4611686018427387904 by omega);(simp -implicitDefEqProofs only[go_sem,e1,e2,e3,e4];repeat (refine GO ?_;simp -implicitDefEqProofs only[go_sem,e1,e2,e3,e4]));refine ⟨by decide,EL.map hml ?_⟩;refine Hi ?_;refine .pure _ (show Spec0 Tryz.prog 151 [.ag gs[m].c,rowA a] _ from c136 gs[m] a (hg _ (List.getElem_mem hml))) rfl λr hq _=>?_;subst hq;refine Ab ?_;refine VIF.split (λh3=>?_) (λh3=>?_)
  ·have h3:cmpR gs[m].at_ a<0:=(by simpa using h3);refine Ak ?_;refine BACK.mk ⟨(m+1,j),by simp only;omega,hj,λt ht htm=>?_,h2⟩ [] rfl rfl (by show j-(m+1)<j-i;omega) ?_
   ·rcases Nat.lt_or_ge t m with h4|h4
    ·exact hm t m ht hml h4 h3
    ·have:t=m:=by simp only at htm;omega
     subst this;exact h3
   ·(simp -implicitDefEqProofs only[go_sem,gsA,iA,rowA,w1];repeat (refine GO ?_;simp -implicitDefEqProofs only[go_sem,gsA,iA,rowA,w1]));exact id
  ·have h3:0<=cmpR gs[m].at_ a:=(by simpa using h3);refine Aa ?_;refine BACK.mk ⟨(i,m),hmi.1,by simp only;omega,h1,λt ht htm=>?_⟩ [] rfl rfl (by show m-i<j-i;omega) ?_
   ·rcases Nat.lt_or_ge m t with h4|h4
    ·rcases Int.lt_or_le (cmpR gs[t].at_ a) 0 with h5|h5
     ·have:=hm m t hml ht h4 h5;omega
     ·exact h5
    ·have:t=m:=by simp only at htm;omega
     subst this;exact h3
   ·refine Cz ?_;exact id
 ·have h:i=j:=by simp at h;omega
  subst h;refine Cz ?_;refine VIF.split (λh3=>?_) (λh3=>?_)
  ·have h3:i<gs.length:=(by simpa using h3);refine Aa ?_;refine EL.map h3 ?_;refine Hi ?_;refine .pure _ (show Spec0 Tryz.prog 151 [.ag gs[i].c,rowA a] _ from c136 gs[i] a (hg _ (List.getElem_mem h3))) rfl λr hq _=>?_;subst hq;refine A6 ?_;exact ⟨rfl,i,_,rfl,hj,h1,h2,by simp[h3]⟩
  ·have h3:¬i<gs.length:=(by simpa using h3);refine A6 ?_;exact ⟨rfl,i,_,rfl,hj,h1,h2,by simp[h3]⟩
end Yt
namespace Yt
open Go Go.Vc Go.Proofs Go.Lib
theorem ins137_end (base:Option Addr) (n c:Nat) (vb:Option Addr) (vc:Nat) (w:World) {r:Value} {w':World} (hz:base=none->n=0)
 (hap:(Builtin.append_ #[132,132] 132 #[.slice base n c,.slice vb 1 vc]).run Tryz.prog w=.ok r w') (hnc:n<=c) (hn:n<=1073741824) :
 Calls Tryz.prog 152 #[.slice base n c,.int .i64 n,.slice vb 1 vc] w λe w''=>e=.returned r/\w''=w':=by
 have u0:=run_underlying Tryz.underlying132;have u3:=run_underlying Tryz.underlying3;have u4:=run_underlying Tryz.underlying4
 go_enter Tryz.func152,Tryz.f152
 cases base with
 | none=>
   have h0:=hz rfl;subst h0
   go_wp2_with (at_builtin;refine Lib.wpList_append_run _ rfl _ _ _ _ rfl _ _ rfl rfl _ _ hap ?_)
   go_ret
   exact ⟨rfl,rfl⟩
 | some a=>
   obtain ⟨ab,ao,asp⟩:=a
   go_wp2_with (at_builtin;refine Lib.wpList_append_run _ rfl _ _ _ _ rfl _ _ rfl rfl _ _ hap ?_)
   all_goals (go_ret;exact ⟨rfl,rfl⟩)
theorem ins137_shift (b off n c k vb vo vc:Nat) (w:World) (hk:k<n) (hroom:n+1<=c) (hn:n<=1073741824)
 (hov:∀lb cb,(callFunc 183 #[.slice (some ⟨vb,vo,none⟩) 1 vc,.slice (some ⟨b,off+(k+1)*2,none⟩) lb cb]).run Tryz.prog w=.ok (.value (.bool false)) w)
 {W1 W2:World} {m1 m2:Value}
 (hc1:∀ty dc sc,(Builtin.copy_ #[132,132] ty #[.slice (some ⟨b,off+(k+1)*2,none⟩) (n-k) dc,.slice (some ⟨b,off+k*2,none⟩) (n+1-k) sc]).run Tryz.prog w.drew=.ok m1 W1)
 (hc2:∀ty dc,(Builtin.copy_ #[132,132] ty #[.slice (some ⟨b,off+k*2,none⟩) (n+1-k) dc,.slice (some ⟨vb,vo,none⟩) 1 vc]).run Tryz.prog W1=.ok m2 W2) :
 Calls Tryz.prog 152 #[.slice (some ⟨b,off,none⟩) n c,.int .i64 k,.slice (some ⟨vb,vo,none⟩) 1 vc] w λe w'=>e=.returned (.slice (some ⟨b,off,none⟩) (n+1) c)/\w'=W2:=by
 have u0:=run_underlying Tryz.underlying132;have u3:=run_underlying Tryz.underlying3;have u4:=run_underlying Tryz.underlying4;have hz2:¬((k:Int)=(n:Int)):=by omega
 have hw1:IntKind.i64.wrap ((k:Int)+1)=(k:Int)+1:=by rw[IntKind.wrap_i64];omega
 have hw2:IntKind.i64.wrap ((n:Int)+1)=(n:Int)+1:=by rw[IntKind.wrap_i64];omega
 have hb1:(0:Int)<=(k:Int)+1:=by omega
 have hin:k<=n:=by omega
 have htn:((k:Int)+1).toNat=k+1:=by omega
 have htm:((n:Int)+1).toNat=n+1:=by omega
 have hb2:¬(c=k+1):=by omega
 have hb3:(k:Int)<=(n:Int)+1:=by omega
 have hb4:¬(c=k):=by omega
 have mixed:=tabOk.mixed
 go_enter Tryz.func152,Tryz.f152
 go_wp2_with (simp only[hov])
 go_region_law_o (refine step_copy_runI rfl _ _ 132 132 rfl _ _ (by simp[Act.eval,Act.put]) (by simp[Act.eval,Act.put]) (hc1 _ _ _) ?_)
 go_wp2_with (at_builtin;refine wpList_copy_runI _ rfl _ _ 132 132 rfl _ _ rfl rfl (hc2 _ _) ?_)
 go_ret
 exact ⟨rfl,rfl⟩
theorem ins137_grow (b off n c k vb vo vc N G:Nat) (w:World) (hk:k<n) (hnc:n<=c) (hroom:c<n+1) (hn:n<=1073741824) (hGn:n+1<=G)
 {W1 W2 W3:World} {m1 m2:Value}
 (hap:(Builtin.append_ #[132,3] 132 #[.slice (some ⟨b,off,none⟩) k c,.int .i64 ((n:Int)+1-(k:Int))]).run Tryz.prog w=.ok (.slice (some ⟨N,0,none⟩) (n+1) G) W1)
 (hc1:∀ty dc,(Builtin.copy_ #[132,132] ty #[.slice (some ⟨N,k*2,none⟩) (n+1-k) dc,.slice (some ⟨vb,vo,none⟩) 1 vc]).run Tryz.prog W1=.ok m1 W2)
 (hc2:∀ty dc sc,(Builtin.copy_ #[132,132] ty #[.slice (some ⟨N,(k+1)*2,none⟩) (n-k) dc,.slice (some ⟨b,off+k*2,none⟩) (n-k) sc]).run Tryz.prog W2.drew=.ok m2 W3) :
 Calls Tryz.prog 152 #[.slice (some ⟨b,off,none⟩) n c,.int .i64 k,.slice (some ⟨vb,vo,none⟩) 1 vc] w λe w'=>e=.returned (.slice (some ⟨N,0,none⟩) (n+1) G)/\w'=W3:=by
 have u0:=run_underlying Tryz.underlying132;have u3:=run_underlying Tryz.underlying3;have u4:=run_underlying Tryz.underlying4;have hz2:¬((k:Int)=(n:Int)):=by omega
 have hz3:(c:Int)<(n:Int)+1:=by omega
 have hw1:IntKind.i64.wrap ((k:Int)+1)=(k:Int)+1:=by rw[IntKind.wrap_i64];omega
 have hw2:IntKind.i64.wrap ((n:Int)+1)=(n:Int)+1:=by rw[IntKind.wrap_i64];omega
 have hw3:IntKind.i64.wrap ((n:Int)+1-(k:Int))=(n:Int)+1-(k:Int):=by rw[IntKind.wrap_i64];omega
 have hb1:(0:Int)<=(k:Int)+1:=by omega
 have hin:k<=n:=by omega
 have htn:((k:Int)+1).toNat=k+1:=by omega
 have htm:((n:Int)+1).toNat=n+1:=by omega
 have hb3:(k:Int)<=(n:Int)+1:=by omega
 have hb5:(k:Int)<=(n:Int):=by omega
 have hGi:¬(G=k):=by omega
 have hGim:¬(G=k+1):=by omega
 have hci:¬(c=k):=by omega
 have mixed:=tabOk.mixed
 go_enter Tryz.func152,Tryz.f152
 go_wp2_with (first
               | (at_builtin;refine Lib.wpList_append_run _ rfl _ _ _ _ rfl _ _ rfl rfl _ _ hap ?_)
               | (at_builtin;refine wpList_copy_runI _ rfl _ _ 132 132 rfl _ _ rfl rfl (hc1 _ _) ?_))
 go_region_law_o (refine step_copy_runI rfl _ _ 132 132 rfl (.slice (some ⟨N,(k+1)*2,none⟩) (n-k) (G-(k+1))) (.slice (some ⟨b,off+k*2,none⟩) (n-k) (c-k)) (by simp[Act.eval,Act.put]) (by simp[Act.eval,Act.put]) (hc2 3 (G-(k+1)) (c-k)) ?_)
 go_wp2
 go_ret
 exact ⟨rfl,rfl⟩
end Yt
namespace Yt
open Go Go.Vc Go.Proofs Go.Lib
theorem insG:InsRaw Tryz.prog 152 132 3 183 2:=
 {fn:=⟨_,Tryz.func152,rfl,rfl⟩
  ov:=λw vs h=>by rw[run_callFunc_extern Tryz.func183 (by kernel_rfl) (by kernel_rfl) (by kernel_rfl) (e:=Extern.SlicesOverlaps.overlaps #[132,132] #[4]) (by kernel_rfl),h 4];rfl
  atEnd:=λbase n c vb vc w r w' h h1 h2 h3=>ins137_end base n c vb vc w h h1 h2 h3
  shift:=λb off n c k vb vo vc w h1 h2 h3 h4 W1 W2 m1 m2 h5 h6=>ins137_shift b off n c k vb vo vc w h1 h2 h3 h4 h5 h6
  grow:=λb off n c k vb vo vc N G w h1 h2 h3 h4 h5 W1 W2 W3 m1 m2 h6 h7 h8=>ins137_grow b off n c k vb vo vc N G w h1 h2 h3 h4 h5 h6 h7 h8}
end Yt
namespace Go.Vc
section
variable {α:Type} {st:St} {m:List (Nat×Option Nat)}
theorem mkO_fam {L:List (Nat×α)} {f:Nat×α->Ob} (hn:(L.map Prod.fst).Nodup) {p:Nat×α} (hp:p∈L):mkO (L.map λp=>(p.1,f p)) p.1=some (f p):=by
 induction L with
 | nil=>cases hp
 | cons q r ih=>
   simp only[List.map_cons,List.nodup_cons] at hn;simp only[List.map_cons,mkO,upd];rcases List.mem_cons.1 hp with rfl|hp
   ·rw[if_pos rfl]
   ·rw[if_neg (λ(h:q.1=p.1)=>hn.1 (by rw[h];exact List.mem_map_of_mem hp))];exact ih hn.2 hp
theorem nms_fam {L:List (Nat×α)} {ν:Nat×α->Nat} (hn:(L.map Prod.fst).Nodup) {p:Nat×α} (hp:p∈L):nms (L.map λp=>(p.1,some (ν p))) p.1=some (some (ν p)):=by
 induction L with
 | nil=>cases hp
 | cons q r ih=>
   simp only[List.map_cons,List.nodup_cons] at hn;simp only[List.map_cons,nms];rcases List.mem_cons.1 hp with rfl|hp
   ·rw[if_pos rfl]
   ·rw[if_neg (λ(h:q.1=p.1)=>hn.1 (by rw[h];exact List.mem_map_of_mem hp))];exact ih hn.2 hp
theorem nms_not {L:List (Nat×α)} {ν:Nat×α->Nat} {k:Nat} (hk:k∉L.map Prod.fst):nms (L.map λp=>(p.1,some (ν p))) k=none:=by
 induction L with
 | nil=>rfl
 | cons q r ih=>
   simp only[List.map_cons,List.mem_cons,not_or] at hk;simp only[List.map_cons,nms];rw[if_neg (λh=>hk.1 h.symm)];exact ih hk.2
theorem olds_fam {L:List (Nat×α)} {ν:Nat×α->Nat}:olds (L.map λp=>(p.1,some (ν p)))=L.map ν:=by
 induction L with
 | nil=>rfl
 | cons q r ih=>simp only[List.map_cons,olds,ih]
theorem nmOk_fam {L:List (Nat×α)} {ν:Nat×α->Nat} {a:Nat} (h1:(a::L.map ν).Nodup) (h0:0∉L.map Prod.fst):nmOk ((1000,some a)::L.map λp=>(p.1,some (ν p))) (1000::L.map Prod.fst)=true:=by
 simp only[nmOk,Bool.and_eq_true,decide_eq_true_eq,List.all_eq_true,olds,olds_fam,nms];refine ⟨⟨h1,λx hx=>?_⟩,?_⟩
 ·rcases List.mem_cons.1 hx with rfl|hx
  ·simp
  ·obtain ⟨p,hp,rfl⟩:=List.mem_map.1 hx;simp only[List.contains_eq_mem,decide_eq_true_eq];exact List.mem_cons_of_mem _ (List.mem_map_of_mem hp)
 ·rw[if_neg (by decide),nms_not h0]
theorem Es_all {l l':List (List AV)} (hl:l.length=l'.length) (h:∀i (h1:i<l.length) (h2:i<l'.length),wk.wks st m l[i] l'[i]):Es st m l l':=by
 induction l generalizing l' with
 | nil=>
   cases l' with
   | nil=>exact .nil
   | cons y r=>cases hl
 | cons x r ih=>
   cases l' with
   | nil=>cases hl
   | cons y r'=>exact .cons (h 0 (by simp) (by simp)) (ih (by simpa using hl) λi h1 h2=>h (i+1) (Nat.succ_lt_succ h1) (Nat.succ_lt_succ h2))
theorem eobs_fam {L:List (Nat×α)} {f:Nat×α->Ob} (h:∀p∈L,eob st m (nms m p.1) (f p)):eobs st m (L.map λp=>(p.1,f p)):=by
 induction L with
 | nil=>trivial
 | cons q r ih=>exact ⟨h q (by simp),ih λp hp=>h p (by simp[hp])⟩
end
end Go.Vc
namespace Yt
open Go Go.Vc Go.Proofs
def og107:Ords
 | 10=>some (.fork [Hs 0,Hs 1,Hs 2,Hs 3,Hs 7] 4 (.fork [Hs 5] 6 (.lin [Ht 8,Ht 9,Hs 10,Hs 11,Ht 12]) 8 (.lin [Hs 6,Ht 9,Hs 10,Hs 11,Ht 12])) 8 (.lin [Hs 4,Hs 5,Hs 6,Ht 9,Hs 10,Hs 11,Ht 12]))
 | _=>none
@[go_sem] theorem og107_0:og107 0=none:=rfl
@[go_sem] theorem og107_1:og107 1=none:=rfl
@[go_sem] theorem og107_2:og107 2=none:=rfl
@[go_sem] theorem og107_3:og107 3=none:=rfl
@[go_sem] theorem og107_4:og107 4=none:=rfl
@[go_sem] theorem og107_5:og107 5=none:=rfl
@[go_sem] theorem og107_6:og107 6=none:=rfl
@[go_sem] theorem og107_7:og107 7=none:=rfl
@[go_sem] theorem og107_8:og107 8=none:=rfl
@[go_sem] theorem og107_9:og107 9=none:=rfl
attribute [go_sem] og107.eq_1
@[go_sem] theorem og107_11:og107 11=none:=rfl
@[go_sem] theorem og107_12:og107 12=none:=rfl
structure GpI (cols:List Int) (y:List It) (gs:List Gp):Prop where
 up:gs.Pairwise λa b=>cmpR a.at_ b.at_<0
 items:∀g∈gs,g.items=y.filter λt=>!decide (t.w<0)&&decide (cmpR (pickR t.row cols) g.at_=0)
 some:∀g∈gs,g.items≠[]
 all:∀t∈y,¬t.w<0->∃g∈gs,g.at_=pickR t.row cols
theorem GpI.nil (cols:List Int):GpI cols [] []:=⟨.nil,by simp,by simp,by simp⟩
theorem GpI.skip {cols:List Int} {y:List It} {gs:List Gp} (h:GpI cols y gs) {t:It} (ht:t.w<0):GpI cols (y++[t]) gs:=
 {up:=h.up
  items:=λg hg=>by rw[h.items g hg,List.filter_append];simp[ht]
  some:=h.some
  all:=λu hu hw=>by
   rcases List.mem_append.1 hu with hu|hu
   ·exact h.all u hu hw
   ·simp at hu;subst hu;exact absurd ht hw}
theorem cmpR_self (a:List V):cmpR a a=0:=lin_cmpR.self a
theorem GpI.get {cols:List Int} {y:List It} {gs:List Gp} (h:GpI cols y gs) {i j:Nat} (hi:i<gs.length) (hj:j<gs.length) (hij:i<j):cmpR gs[i].at_ gs[j].at_<0:=
 List.pairwise_iff_getElem.1 h.up i j hi hj hij
theorem GpI.add {cols:List Int} {y:List It} {gs:List Gp} (h:GpI cols y gs) {t:It} (ht:¬t.w<0) {k:Nat} (hk:k<gs.length) (he:cmpR gs[k].at_ (pickR t.row cols)=0) :
 GpI cols (y++[t]) (gs.set k ⟨gs[k].at_,gs[k].items++[t]⟩):=by
 have hkey:pickR t.row cols=gs[k].at_:=(lin_cmpR.eq _ _ he).symm;have hat:∀j (hj:j<gs.length),((gs.set k ⟨gs[k].at_,gs[k].items++[t]⟩)[j]'(by simpa using hj)).at_=gs[j].at_:=λj hj=>by
  rw[List.getElem_set];split
  ·subst_vars;rfl
  ·rfl
 refine {up:=?_,items:=λg hg=>?_,some:=λg hg=>?_,all:=λu hu hw=>?_}
 ·rw[List.pairwise_iff_getElem];intro i j hi hj hij;have hi':i<gs.length:=(by simpa using hi);have hj':j<gs.length:=(by simpa using hj);rw[hat i hi',hat j hj'];exact h.get hi' hj' hij
 ·obtain ⟨j,hj,rfl⟩:=List.mem_iff_getElem.1 hg;have hj':j<gs.length:=(by simpa using hj);have hm:=List.getElem_mem hj';rw[hat j hj',List.filter_append,<- h.items _ hm,List.getElem_set];by_cases e:k=j
  ·subst e;rw[if_pos rfl];simp[ht,hkey,cmpR_self]
  ·rw[if_neg e];have hne:cmpR (pickR t.row cols) gs[j].at_≠0:=λh0=>by
    have:=lin_cmpR.eq _ _ h0;rcases Nat.lt_or_gt_of_ne e with h1|h1
    ·have h2:=h.get hk hj' h1;rw[<- hkey,this,cmpR_self] at h2;omega
    ·have h2:=h.get hj' hk h1;rw[<- hkey,this,cmpR_self] at h2;omega
   simp[hne]
 ·obtain ⟨j,hj,rfl⟩:=List.mem_iff_getElem.1 hg;rw[List.getElem_set];split
  ·simp
  ·exact h.some _ (List.getElem_mem _)
 ·have tr:∀j (hj:j<gs.length),gs[j].at_=pickR u.row cols->∃g∈gs.set k ⟨gs[k].at_,gs[k].items++[t]⟩,g.at_=pickR u.row cols:=λj hj e=>
   ⟨_,List.getElem_mem (by simpa using hj),by rw[hat j hj];exact e⟩
  rcases List.mem_append.1 hu with hu|hu
  ·obtain ⟨g,hg,e⟩:=h.all u hu hw;obtain ⟨j,hj,rfl⟩:=List.mem_iff_getElem.1 hg;exact tr j hj e
  ·simp at hu;subst hu;exact tr k hk hkey.symm
theorem GpI.ins {cols:List Int} {y:List It} {gs:List Gp} (h:GpI cols y gs) {t:It} (ht:¬t.w<0) {k:Nat} (hk:k<=gs.length) (h1:∀j (h:j<gs.length),j<k->cmpR gs[j].at_ (pickR t.row cols)<0)
 (h2:∀j (h:j<gs.length),k<=j->0<cmpR gs[j].at_ (pickR t.row cols)):GpI cols (y++[t]) (gs.take k++⟨pickR t.row cols,[t]⟩::gs.drop k):=by
 have lo:∀g∈gs.take k,cmpR g.at_ (pickR t.row cols)<0:=λg hg=>by
  obtain ⟨j,hj,rfl⟩:=List.mem_iff_getElem.1 hg;have hj':j<k/\j<gs.length:=by rw[List.length_take] at hj;omega
  rw[List.getElem_take];exact h1 j hj'.2 hj'.1
 have hi:∀g∈gs.drop k,cmpR (pickR t.row cols) g.at_<0:=λg hg=>by obtain ⟨j,hj,rfl⟩:=List.mem_iff_getElem.1 hg;simp at hj;rw[List.getElem_drop];have:=h2 (k+j) (by omega) (by omega);rw[lin_cmpR.neg];omega
 have ne:∀g∈gs,cmpR (pickR t.row cols) g.at_≠0:=λg hg h0=>by
  have e:=lin_cmpR.eq _ _ h0;rw[<- List.take_append_drop k gs] at hg;rcases List.mem_append.1 hg with hg|hg
  ·have:=lo g hg;rw[e,cmpR_self] at this;omega
  ·have:=hi g hg;rw[<- e,cmpR_self] at this;omega
 have mem:∀g,g∈gs.take k++⟨pickR t.row cols,[t]⟩::gs.drop k ↔ g=⟨pickR t.row cols,[t]⟩\/g∈gs:=λg=>by
  constructor
  ·intro hg;rcases List.mem_append.1 hg with hg|hg
   ·exact .inr (List.mem_of_mem_take hg)
   ·rcases List.mem_cons.1 hg with hg|hg
    ·exact .inl hg
    ·exact .inr (List.mem_of_mem_drop hg)
  ·rintro (rfl|hg)
   ·simp
   ·rw[<- List.take_append_drop k gs] at hg;rcases List.mem_append.1 hg with hg|hg
    ·exact List.mem_append_left _ hg
    ·exact List.mem_append_right _ (List.mem_cons_of_mem _ hg)
 refine {up:=?_,items:=λg hg=>?_,some:=λg hg=>?_,all:=λu hu hw=>?_}
 ·have hu:=h.up;rw[<- List.take_append_drop k gs,List.pairwise_append] at hu;rw[List.pairwise_append,List.pairwise_cons];refine ⟨hu.1,⟨hi,hu.2.1⟩,λa ha b hb=>?_⟩;rcases List.mem_cons.1 hb with rfl|hb
  ·exact lo a ha
  ·exact hu.2.2 a ha b hb
 ·rcases (mem g).1 hg with rfl|hg
  ·have:(y.filter λu=>!decide (u.w<0)&&decide (cmpR (pickR u.row cols) (pickR t.row cols)=0))=[]:=by
    rw[List.filter_eq_nil_iff];intro u hu hc;simp at hc;obtain ⟨g,hg,e⟩:=h.all u hu (by omega);refine ne g hg ?_;rw[e,lin_cmpR.eq _ _ hc.2,cmpR_self]
   rw[List.filter_append,this];simp[ht,cmpR_self]
  ·rw[List.filter_append,<- h.items g hg];simp[ne g hg]
 ·rcases (mem g).1 hg with rfl|hg
  ·simp
  ·exact h.some g hg
 ·rcases List.mem_append.1 hu with hu|hu
  ·obtain ⟨g,hg,e⟩:=h.all u hu hw;exact ⟨g,(mem g).2 (.inr hg),e⟩
  ·simp at hu;subst hu;exact ⟨_,(mem _).2 (.inl rfl),rfl⟩
def gCell (p:Nat×Gp):List AV:=[rowA p.2.at_,.rf p.1 0 p.2.items.length]
def gOb (L:List (Nat×Gp)):Ob:=⟨2,L.map gCell⟩
def gFam (L:List (Nat×Gp)):List (Nat×Ob):=L.map λp=>(p.1,so p.2.items)
theorem set_keys {L:List (Nat×Gp)} {k:Nat} {hk:k<L.length} {g:Gp}:(L.set k (L[k].1,g)).map Prod.fst=L.map Prod.fst:=by
 refine List.ext_getElem (by simp) λj q1 q2=>?_;simp only[List.getElem_map,List.getElem_set];split
 ·subst_vars;rfl
 ·rfl
theorem key_inj {L:List (Nat×Gp)} (hn:(L.map Prod.fst).Nodup) {i j:Nat} (hi:i<L.length) (hj:j<L.length) (h:L[i].1=L[j].1):i=j:=by refine (List.getElem_inj (xs:=L.map Prod.fst) (h₀:=by simpa using hi) (h₁:=by simpa using hj) hn).1 ?_;simpa using h
theorem set_cells {L:List (Nat×Gp)} (hn:(L.map Prod.fst).Nodup) {k:Nat} (hk:k<L.length) {g:Gp} :
 (L.map gCell).set k [rowA g.at_,.rf 51 0 g.items.length]=(L.set k (L[k].1,g)).map λp=>[rowA p.2.at_,.rf (if p.1=L[k].1 then 51 else p.1) 0 p.2.items.length]:=by
 refine List.ext_getElem (by simp) λj q1 q2=>?_;simp only[List.getElem_map,List.getElem_set];by_cases e:k=j
 ·subst e;simp
 ·have hj:j<L.length:=(by simpa using q1);have hne:L[j].1≠L[k].1:=λh=>e (key_inj hn hk hj h.symm);rw[if_neg e,if_neg e,if_neg hne];rfl
theorem lent_leafy {objs:Nat->Option Ob} {id:Nat} {o:Ob} {len:Nat} {es:List (List AV)} (ho:objs id=some o) (hes:o.es=es) (hl:es.length=len) (hleaf:o.leafy) (hr:∀x∈es,x.length=o.sz):Lent objs (.rf id 0 len) (.im o.sz es):=by subst hes;subst hl;refine .rf ho (by rw[List.drop_zero,List.take_length]) rfl hr (λi j a' h=>leafy_get hleaf h) λi j a a' h h'=>?_;rw[h] at h';cases h';exact .same (leaf_noId (leafy_get hleaf h))
theorem lent_groups {objs:Nat->Option Ob} {L:List (Nat×Gp)} (h0:objs 1000=some (gOb L)) (h:∀p∈L,objs p.1=some (so p.2.items)):Lent objs (.rf 1000 0 L.length) (gsA (L.map Prod.snd)):=by
 have e:gsA (L.map Prod.snd)=.im (gOb L).sz ((L.map Prod.snd).map Gp.c):=rfl;rw[e];refine .rf (es:=L.map gCell) h0 (by simp only[gOb,List.drop_zero];exact take_map_len _ _) (by simp) (λx hx=>?_) (λi j a' h=>?_) λi j a a' g g'=>?_
 ·obtain ⟨g,_,rfl⟩:=List.mem_map.1 hx;rfl
 ·simp only[cellAt] at h;cases hi:((L.map Prod.snd).map Gp.c)[i]? with
  | none=>rw[hi] at h;cases h
  | some x=>
    rw[hi] at h;obtain ⟨g,_,rfl⟩:=List.mem_map.1 (List.mem_of_getElem? hi);have:=List.mem_of_getElem? h;simp[Gp.c,rowA,setA] at this;rcases this with rfl|rfl<;>rfl
 ·have hi:i<L.length:=by
   simp only[cellAt] at g;rcases Nat.lt_or_ge i L.length with h1|h1
   ·exact h1
   ·rw[List.getElem?_eq_none (by simpa using h1)] at g;cases g
  simp only[cellAt,List.getElem?_map,List.getElem?_eq_getElem hi,Option.map_some,Option.bind_some] at g g'
  match j with
  | 0=>simp[gCell,Gp.c] at g g';subst g;subst g';exact .same rfl
  | 1=>
    simp[gCell,Gp.c] at g g';subst g;subst g';exact lent_leafy (o:=so L[i].2.items) (h _ (List.getElem_mem hi)) rfl (by simp) (so_leafy _) (λx hx=>by obtain ⟨t,_,rfl⟩:=List.mem_map.1 hx;rfl)
  | j+2=>simp[gCell] at g
theorem nd_repl {α:Type} {L:List (Nat×α)} {a x:Nat} (hn:(L.map Prod.fst).Nodup) (hge:∀q∈L.map Prod.fst,2000<=q) (ha:a<2000) (ha2:a≠51):(a::L.map λp=>if p.1=x then 51 else p.1).Nodup:=by
 refine List.nodup_cons.2 ⟨λh=>?_,?_⟩
 ·obtain ⟨p,hp,e⟩:=List.mem_map.1 h;have:=hge _ (List.mem_map_of_mem hp);split at e<;>omega
 ·induction L with
  | nil=>exact .nil
  | cons p r ih=>
    simp only[List.map_cons,List.nodup_cons] at hn ⊢;have hge':∀q∈r.map Prod.fst,2000<=q:=λq hq=>hge q (by simp only[List.map_cons];exact List.mem_cons_of_mem _ hq);refine ⟨λh=>?_,ih hn.2 hge'⟩;obtain ⟨q,hq,e⟩:=List.mem_map.1 h;have h1:=hge' _ (List.mem_map_of_mem hq);have h2:=hge p.1 (by simp);have h3:q.1≠p.1:=λh=>hn.1 (h▸List.mem_map_of_mem hq);split at e<;>split at e<;>omega
theorem EL.mid {l:List (List AV)} {x:List AV} {k:Nat} {K:List AV->Prop} (h:k<=l.length) (hK:K x):EL (List.take k l++x::List.drop k l) k K:=
 ⟨x,by rw[List.getElem?_append_right (by simp;omega)];simp[Nat.min_eq_left h],hK⟩
theorem fresh_name (l:List Nat):∃n,2000<=n/\n∉l:=by
 have h:∃m,∀x∈l,x<=m:=by
  induction l with
  | nil=>exact ⟨0,by simp⟩
  | cons y r ih=>
    obtain ⟨m,hm⟩:=ih;refine ⟨y+m,λx hx=>?_⟩;rcases List.mem_cons.1 hx with rfl|hx
    ·omega
    ·have:=hm x hx;omega
 obtain ⟨m,hm⟩:=h;exact ⟨2000+m,by omega,λh=>by have:=hm _ h;omega⟩
theorem fam_ents {st:St} {L:List (Nat×Gp)} {a:Nat} {ν:Nat×Gp->Nat} {es:List (List AV)} (hn:(L.map Prod.fst).Nodup) (h1:∀q∈L.map Prod.fst,2000<=q) (ha:st.objs a=some ⟨2,es⟩)
 (hes:es=L.map λp=>[rowA p.2.at_,.rf (ν p) 0 p.2.items.length]) (hob:∀p∈L,st.objs (ν p)=some (so p.2.items)) :
 eobs st ((1000,some a)::L.map λp=>(p.1,some (ν p))) ((1000,gOb L)::gFam L):=by
 have hk:∀p∈L,nms ((1000,some a)::L.map λp=>(p.1,some (ν p))) p.1=some (some (ν p)):=λp hp=>by simp only[nms];rw[if_neg (λ(h:1000=p.1)=>by have:=h1 p.1 (List.mem_map_of_mem hp);omega)];exact nms_fam hn hp
 refine ⟨?_,eobs_fam λp hp=>?_⟩
 ·simp only[nms,if_pos,eob];refine ⟨_,ha,rfl,Es_all (by rw[hes];simp[gOb]) λi q1 q2=>?_⟩;subst hes;have hi:i<L.length:=(by simpa using q1);simp only[gOb,List.getElem_map,gCell,wk.wks,and_true];refine ⟨wk_leaf rfl,?_⟩;simp only[wk,hk _ (List.getElem_mem hi)];exact ⟨trivial,trivial,trivial⟩
 ·rw[hk p hp];exact ⟨_,hob p hp,rfl,.same (so p.2.items) _ _ (so_leafy _) rfl⟩
theorem c107 (z:List It) (cols:List Int) (hl:z.length<=268435456) (hr:∀t∈z,t.row.length<1073741824) (hc:cols.length<1073741824) (hp:∀t∈z,pickE t.row cols=0) :
 Spec0 Tryz.prog 98 [setA z,intsL cols] (λr=>∃gs:List Gp,r=gsA gs/\GpI cols z gs/\gs.length<=z.length):=by
 refine spec0_of_vc tabOk elems og107 Tryz.func98 rfl (rl:=[.tmp 4]) rfl (by kernel_rfl) rfl ?_;refine Bd ?_
 refine LOOP.mk (ι:={p:Nat×List (Nat×Gp)//p.1<=z.length/\GpI cols (z.take p.1) (p.2.map Prod.snd)/\(p.2.map Prod.fst).Nodup/\(∀q∈p.2.map Prod.fst,2000<=q)/\p.2.length<=p.1})
  (λp=>mkS [(1,intsL cols),(5,.rf 1000 0 p.1.2.length),(12,setA z),(13,iA z.length),(14,iA p.1.1)] ((1000,gOb p.1.2)::gFam p.1.2) (1000::p.1.2.map Prod.fst))
  (λp=>z.length-p.1.1) ⟨(0,[]),Nat.zero_le _,GpI.nil cols,.nil,by simp,Nat.le_refl _⟩ [(1000,none)] rfl rfl ?_ (λp=>?_)
 ·refine Fj ?_;simp;trivial
 obtain ⟨⟨i,L⟩,hi,hg,hn,h2000,hLi⟩:=p;simp only at hi hg hn h2000 hLi;refine Bd ?_;refine VIF.split (λh=>?_) (λh=>?_)
 ·have h:i<z.length:=(by simpa using h);have hm:=List.getElem_mem h;have w1:=wrap_add1 (show i<4611686018427387904 by omega);have hfr:∀k<2000,(k∈L.map Prod.fst)=False:=λk hk=>eq_false λh=>by have:=h2000 k h;omega
  have f7:=hfr 7 (by decide);have f40:=hfr 40 (by decide);have f41:=hfr 41 (by decide);have f50:=hfr 50 (by decide);have f51:=hfr 51 (by decide);refine Aa ?_;refine EL.map h ?_;refine Gd ?_;refine VIF.split (λh2=>?_) (λh2=>?_)
  ·have h2:z[i].w<0:=(by simpa using h2);refine Ak ?_;refine BACK.mk ⟨(i+1,L),by simp only;omega,?_,hn,h2000,by simp only;omega⟩ ((1000,some 1000)::L.map λp=>(p.1,some p.1)) rfl (nmOk_fam (ν:=Prod.fst) (by simp[hfr,hn]) (by simp[hfr])) (by show z.length-(i+1)<z.length-i;omega) ?_
   ·rw[List.take_succ_eq_append_getElem h];exact hg.skip h2
   ·refine ⟨by simp[hfr],?_,fam_ents (ν:=Prod.fst) hn h2000 (es:=L.map gCell) ?_ rfl λp hp=>?_⟩
    ·exact Fo
    ·exact G7
    ·have:=h2000 p.1 (List.mem_map_of_mem hp);have e1:(7=p.1)=False:=eq_false (by omega);have e2:(1000=p.1)=False:=eq_false (by omega);refine G8 ?_;exact mkO_fam hn hp
  ·have h2:0<=z[i].w:=(by simpa using h2);have hrl:=hr _ hm;have hkey:=hp _ hm;refine A3 ?_;refine .pure _ (show Spec0 Tryz.prog 92 [rowA z[i].row,intsL cols] _ from Spec1.rowE (c61 z[i].row cols hrl hc)) rfl λr hq _=>?_;obtain ⟨key,err,rfl,rfl,hk1,_⟩:=hq;have hk1:=hk1 hkey;refine Bj ?_;have hlen:(L.map Prod.snd).length=L.length:=(by simp);have hat:∀g∈L.map Prod.snd,g.at_.length<4611686018427387904:=λg hg'=>by
    obtain ⟨t,ht⟩:=List.exists_mem_of_ne_nil _ (hg.some g hg');rw[hg.items g hg',List.mem_filter] at ht;have h3:=hp t (List.mem_of_mem_take ht.1);have h4:cmpR (pickR t.row cols) g.at_=0:=by have:=ht.2;simp at this;exact this.2
    rw[<- lin_cmpR.eq _ _ h4];have:(pickR t.row cols).length=cols.length:=(by simp[pickR]);omega
   have hmono:∀a b (ha:a<(L.map Prod.snd).length) (hb:b<(L.map Prod.snd).length),a<b->cmpR (L.map Prod.snd)[b].at_ key<0->cmpR (L.map Prod.snd)[a].at_ key<0:=λa b ha hb hab h3=>
    lin_cmpR.trans _ _ _ (hg.get ha hb hab) h3
   refine .lendR (show Spec0 Tryz.prog 150 [gsA (L.map Prod.snd),rowA key,.fn 151 []] _ from c135 (L.map Prod.snd) key (by rw[hlen];omega) hat hmono) ?_ ?_ λr hq=>?_
   ·refine ⟨lent_groups ?_ λp hp=>?_,.same rfl,.same rfl,trivial⟩
    ·exact Ag
    ·have r0:=h2000 p.1 (List.mem_map_of_mem hp);have r1:(7=p.1)=False:=eq_false (by omega);have r2:(1000=p.1)=False:=eq_false (by omega);(simp -implicitDefEqProofs only[go_sem,r1,r2];repeat (refine GO ?_;simp -implicitDefEqProofs only[go_sem,r1,r2]));exact mkO_fam hn hp
   ·rintro _ ⟨k,b,rfl,_⟩;rfl
   obtain ⟨k,b,rfl,hkl,hk2,hk3,hb⟩:=hq;refine A6 ?_;refine VIF.split (λh4=>?_) (λh4=>?_)
   ·have h4:b=false:=(by simpa using h4);have hk:k<=L.length:=by rw[<- hlen];exact hkl
    refine Fp ?_;refine .ins (e:=135) (tS:=132) (tI:=3) (fo:=183) tabOk elems insG rfl rfl (id:=1000) (id2:=40) (o:=gOb L) (o2:=⟨2,[[rowA key,.nl]]⟩) (x:=[rowA key,.nl]) Ag (by (simp -implicitDefEqProofs only[go_sem,rowA];repeat (refine GO ?_;simp -implicitDefEqProofs only[go_sem,rowA]))) (by decide) (by simp[hfr]) rfl rfl rfl hk (by omega) ?_;have htl:((gOb L).es.drop 0).take L.length=L.map gCell:=by simp only[gOb,List.drop_zero];exact take_map_len _ _
    rw[htl];have e5:((k:Int)<((L.length+1:Nat):Int))=True:=eq_true (by omega);have hkm:k<=(L.map gCell).length:=(by simpa using hk);obtain ⟨fr,hf1,hf2⟩:=fresh_name (L.map Prod.fst);obtain ⟨L',hL'⟩:∃L',L'=L.take k++(fr,(⟨key,[z[i]]⟩:Gp))::L.drop k:=⟨_,rfl⟩;have hg1:GpI cols (z.take (i+1)) (L'.map Prod.snd):=by
     have hnb:¬∃h:k<(L.map Prod.snd).length,cmpR (L.map Prod.snd)[k].at_ key=0:=λg=>by have:=hb.2 g;rw[h4] at this;cases this
     have h3:=hg.ins (t:=z[i]) (by omega) (k:=k) hkl (by rw[<- hk1];exact hk2) (by
      rw[<- hk1];intro j hj hkj;have h5:=hk3 j hj hkj;rcases Nat.lt_or_ge k j with h6|h6
      ·rcases Int.lt_or_le 0 (cmpR (L.map Prod.snd)[j].at_ key) with h7|h7
       ·exact h7
       ·have h8:cmpR (L.map Prod.snd)[j].at_ key=0:=(by omega);have h9:=hk3 k (by omega) (Nat.le_refl _);have h10:=hg.get (by omega) hj h6;rw[lin_cmpR.eq _ _ h8] at h10;omega
      ·have:j=k:=(by omega);subst this;have:cmpR (L.map Prod.snd)[j].at_ key≠0:=λh=>hnb ⟨hj,h⟩;omega)
     rw[List.take_succ_eq_append_getElem h,hL',List.map_append,List.map_cons,List.map_take,List.map_drop,hk1];exact h3
    have hmem:∀p∈L',p=(fr,⟨key,[z[i]]⟩)\/p∈L:=λp hp=>by
     rw[hL'] at hp;rcases List.mem_append.1 hp with h|h
     ·exact .inr (List.mem_of_mem_take h)
     ·rcases List.mem_cons.1 h with h|h
      ·exact .inl h
      ·exact .inr (List.mem_of_mem_drop h)
    have hn':(L'.map Prod.fst).Nodup:=by rw[hL',List.map_append,List.map_cons,(List.perm_middle).nodup_iff,<- List.map_append,List.take_append_drop];exact List.nodup_cons.2 ⟨hf2,hn⟩
    have h2000':∀q∈L'.map Prod.fst,2000<=q:=λq hq=>by
     obtain ⟨p,hp,rfl⟩:=List.mem_map.1 hq;rcases hmem p hp with rfl|h
     ·exact hf1
     ·exact h2000 _ (List.mem_map_of_mem h)
    have hfl:∀p∈L,p.1≠fr:=λp hp h=>hf2 (h▸List.mem_map_of_mem hp);have hnd:(41::L'.map λp=>if p.1=fr then 51 else p.1).Nodup:=nd_repl hn' h2000' (by decide) (by decide);have h00:0∉L'.map Prod.fst:=λh=>absurd (h2000' 0 h) (by omega);have hlL:L'.length=L.length+1:=by rw[hL'];simp;omega
    have hsc:(List.take k (L.map gCell)++[rowA key,.nl]::List.drop k (L.map gCell)).set k [rowA key,.rf 51 0 1]=L'.map λp=>[rowA p.2.at_,.rf (if p.1=fr then 51 else p.1) 0 p.2.items.length]:=by
     have hcl:∀p∈L,gCell p=[rowA p.2.at_,.rf (if p.1=fr then 51 else p.1) 0 p.2.items.length]:=λp hp=>by rw[if_neg (hfl p hp)];rfl
     have htk:(List.take k (L.map gCell)).length=k:=by simp;omega
     rw[List.set_append_right _ _ (by omega),htk,Nat.sub_self,List.set_cons_zero,hL',List.map_append,List.map_cons,<- List.map_take,<- List.map_drop];congr 1
     ·exact List.map_congr_left λp hp=>hcl p (List.mem_of_mem_take hp)
     ·congr 1
      ·simp
      ·exact List.map_congr_left λp hp=>hcl p (List.mem_of_mem_drop hp)
    (simp -implicitDefEqProofs only[go_sem,e5,f40,f41,f50,f51,f7,iA,rowA];repeat (refine GO ?_;simp -implicitDefEqProofs only[go_sem,e5,f40,f41,f50,f51,f7,iA,rowA]));refine ⟨⟨EL.mid hkm ?_,EL.mid hkm ?_⟩,EL.mid hkm ?_⟩;all_goals (simp -implicitDefEqProofs only[go_sem,iA,rowA,f7,f40,f41,f50,f51,e5,w1];repeat (refine GO ?_;simp -implicitDefEqProofs only[go_sem,iA,rowA,f7,f40,f41,f50,f51,e5,w1]))
    all_goals refine EL.mid hkm ?_
    all_goals (simp -implicitDefEqProofs only[go_sem,iA,rowA,f7,f40,f41,f50,f51,e5,w1];repeat (refine GO ?_;simp -implicitDefEqProofs only[go_sem,iA,rowA,f7,f40,f41,f50,f51,e5,w1]))
    all_goals refine BACK.mk ⟨(i+1,L'),by simp only;omega,hg1,hn',h2000',by simp only;omega⟩ ((1000,some 41)::L'.map λp=>(p.1,some (if p.1=fr then 51 else p.1))) rfl (nmOk_fam (ν:=λp=>if p.1=fr then 51 else p.1) hnd h00) (by show z.length-(i+1)<z.length-i;omega) ?_
    all_goals
     refine ⟨by simp[hfr],?_,fam_ents (ν:=λp=>if p.1=fr then 51 else p.1) hn' h2000' (es:=(List.take k (L.map gCell)++[rowA key,.nl]::List.drop k (L.map gCell)).set k [rowA key,.rf 51 0 1]) ?_ hsc λp hp=>?_⟩
     ·exact Fi
     ·(simp -implicitDefEqProofs only[go_sem,rowA];repeat (refine GO ?_;simp -implicitDefEqProofs only[go_sem,rowA]))
     ·rcases hmem p hp with rfl|hp
      ·rw[if_pos rfl];refine Gu ?_;rfl
      ·rw[if_neg (hfl p hp)];have r0:=h2000 p.1 (List.mem_map_of_mem hp);have r1:(7=p.1)=False:=eq_false (by omega);have r2:(50=p.1)=False:=eq_false (by omega);have r3:(51=p.1)=False:=eq_false (by omega);have r4:(1000=p.1)=False:=eq_false (by omega);have r5:(40=p.1)=False:=eq_false (by omega);have r6:(41=p.1)=False:=eq_false (by omega);(simp -implicitDefEqProofs only[go_sem,r1,r2,r3,r4,r5,r6];repeat (refine GO ?_;simp -implicitDefEqProofs only[go_sem,r1,r2,r3,r4,r5,r6]));exact mkO_fam hn hp
   ·have h4:b=true:=(by simpa using h4);obtain ⟨h5,h6⟩:=hb.1 h4;have hk:k<L.length:=(by simpa using h5);have hkm:=List.getElem_mem hk;have hge:=h2000 _ (List.mem_map_of_mem hkm);have e1:(1000=L[k].1)=False:=eq_false (by omega);have e2:(7=L[k].1)=False:=eq_false (by omega);have e3:(50=L[k].1)=False:=eq_false (by omega);have e4:mkO (gFam L) L[k].1=some (so L[k].2.items):=mkO_fam hn hkm;have e5:((k:Int)<L.length)=True:=eq_true (by omega);have e6:(L[k].1=1000)=False:=eq_false (by omega);have e7:(L[k].1=7)=False:=eq_false (by omega);have e8:(L[k].1=50)=False:=eq_false (by omega);refine E9 ?_;have e9:(L[k].1=51)=False:=eq_false (by omega);have e10:(51=L[k].1)=False:=eq_false (by omega);have esz:∀l,(so l).sz=2:=λ_=>rfl;have hil:L[k].2.items.length<=1073741823:=by
     rw[hg.items _ (List.mem_map_of_mem hkm)];have:=List.length_filter_le (λt:It=>!decide (t.w<0)&&decide (cmpR (pickR t.row cols) L[k].2.at_=0)) (z.take i);rw[List.length_take] at this;omega
    have hil2:(L[k].2.items.length<=1073741823)=True:=eq_true hil;obtain ⟨L',hL'⟩:∃L',L'=L.set k (L[k].1,⟨L[k].2.at_,L[k].2.items++[z[i]]⟩):=⟨_,rfl⟩;have hks:L'.map Prod.fst=L.map Prod.fst:=by rw[hL'];exact set_keys (hk:=hk)
    have hg1:GpI cols (z.take (i+1)) (L'.map Prod.snd):=by have h3:=hg.add (t:=z[i]) (by omega) h5 (by rw[<- hk1];exact h6);rw[List.take_succ_eq_append_getElem h,hL',List.map_set];simpa only[List.getElem_map] using h3
    have hnd:(1000::L'.map λp=>if p.1=L[k].1 then 51 else p.1).Nodup:=nd_repl (by rw[hks];exact hn) (by rw[hks];exact h2000) (by decide) (by decide);have h00:0∉L'.map Prod.fst:=by rw[hks,hfr 0 (by decide)];exact id
    have hsc:=set_cells hn hk (g:=⟨L[k].2.at_,L[k].2.items++[z[i]]⟩);rw[<- hL'] at hsc;have hlL:L'.length=L.length:=(by rw[hL',List.length_set]);have hob:∀p∈L',p.1=L[k].1/\p.2.items=L[k].2.items++[z[i]]\/p.1≠L[k].1/\mkO (gFam L) p.1=some (so p.2.items):=by
     intro p hp';obtain ⟨t,ht,rfl⟩:=List.mem_iff_getElem.1 hp';simp only[hL',List.getElem_set];by_cases e:k=t
     ·subst e;simp
     ·have ht':t<L.length:=by rw[<- hlL];exact ht
      refine .inr ⟨?_,?_⟩
      ·rw[if_neg e];exact λh=>e (key_inj hn hk ht' h.symm)
      ·rw[if_neg e];exact mkO_fam hn (List.getElem_mem ht')
    refine ⟨⟨EL.map hk ?_,EL.map hk ?_⟩,EL.map hk ?_⟩;all_goals (simp -implicitDefEqProofs only[go_sem,gCell,f50,f51,e1,e2,e3,e4,e5,e6,e7,e8,e9,e10,esz,hil2,w1];repeat (refine GO ?_;simp -implicitDefEqProofs only[go_sem,gCell,f50,f51,e1,e2,e3,e4,e5,e6,e7,e8,e9,e10,esz,hil2,w1]))
    all_goals refine EL.map hk ?_
    all_goals (simp -implicitDefEqProofs only[go_sem,gCell,f50,f51,e1,e2,e3,e4,e5,e6,e7,e8,e9,e10,esz,hil2,w1];repeat (refine GO ?_;simp -implicitDefEqProofs only[go_sem,gCell,f50,f51,e1,e2,e3,e4,e5,e6,e7,e8,e9,e10,esz,hil2,w1]))
    all_goals refine BACK.mk ⟨(i+1,L'),by simp only;omega,hg1,by rw[hks];exact hn,by rw[hks];exact h2000,by simp only;omega⟩ ((1000,some 1000)::L'.map λp=>(p.1,some (if p.1=L[k].1 then 51 else p.1))) rfl (nmOk_fam (ν:=λp=>if p.1=L[k].1 then 51 else p.1) hnd h00) (by show z.length-(i+1)<z.length-i;omega) ?_
    all_goals
     refine ⟨by simp[hfr],?_,fam_ents (ν:=λp=>if p.1=L[k].1 then 51 else p.1) (by rw[hks];exact hn) (by rw[hks];exact h2000) (es:=(L.map gCell).set k [rowA L[k].2.at_,.rf 51 0 (L[k].2.items.length+1)]) ?_ ?_ λp hp=>?_⟩
     ·exact Fi
     ·(simp -implicitDefEqProofs only[go_sem,e1,e10,e2,e3,e4,e6,e7,e8,e9,rowA];repeat (refine GO ?_;simp -implicitDefEqProofs only[go_sem,e1,e10,e2,e3,e4,e6,e7,e8,e9,rowA]))
     ·simpa using hsc
     ·rcases hob p hp with ⟨q1,q2⟩|⟨q1,q2⟩
      ·rw[if_pos q1,q2];refine Gu ?_;rw[List.map_append];rfl
      ·rw[if_neg q1];have r0:=h2000 p.1 (by rw[<- hks];exact List.mem_map_of_mem hp);have r1:(7=p.1)=False:=eq_false (by omega);have r2:(50=p.1)=False:=eq_false (by omega);have r3:(51=p.1)=False:=eq_false (by omega);have r4:(1000=p.1)=False:=eq_false (by omega);have r5:(L[k].1=p.1)=False:=eq_false (λh=>q1 h.symm);(simp -implicitDefEqProofs only[go_sem,r1,r2,r3,r4,r5];repeat (refine GO ?_;simp -implicitDefEqProofs only[go_sem,r1,r2,r3,r4,r5]));exact q2
 ·have h:i=z.length:=by simp at h;omega
  subst h;rw[List.take_length] at hg;refine Aw ?_;refine TO [(1000,some 1000)] [(5,.rf 1000 0 L.length)] [(1000,⟨2,(L.map Prod.snd).map Gp.c⟩)] [1000] rfl ?_ ?_
  ·refine Hk ?_;have h0:0∉L.map Prod.fst:=λh=>absurd (h2000 0 h) (by omega);refine ⟨λh=>h.elim id (λh=>h0 h),Es_all (by simp) λj q1 q2=>?_⟩;have hj:j<L.length:=(by simpa using q1);have hmj:=List.getElem_mem hj;have hge:=h2000 _ (List.mem_map_of_mem hmj);simp only[List.getElem_map,gCell,Gp.c,wk.wks,and_true];refine ⟨wk_leaf rfl,?_⟩;simp only[wk,setA];refine ⟨by simp[olds];omega,so L[j].2.items,?_,so_leafy _,rfl,by simp only[so,List.drop_zero];exact take_map_len _ _⟩;have e2:(1000=L[j].1)=False:=eq_false (by omega);refine Hm ?_;exact mkO_fam hn hmj
  refine Aw ?_;refine FRZ 1000 ⟨2,(L.map Prod.snd).map Gp.c⟩ rfl (leafy_do▸leafs2_map λx _=>by simp[leafs,Gp.c,rowA,setA,AV.leaf]) ?_;refine Aa ?_;exact ⟨L.map Prod.snd,by rw[List.take_of_length_le (by simp)];rfl,hg,by simpa using hLi⟩
def gval (kind col:Int) (g:Gp):Option V:=if kind=1\/kind=2 then (sumF kind col g.items 0).map λn=>⟨3,n,ByteArray.empty⟩ else some (bestF kind col g.items V.nul)
def gItem (kind col:Int) (g:Gp):It:=⟨g.at_++[(gval kind col g).getD V.zero],1⟩
def Wr0 (z:List It) (cols:List Int) (kind col:Int):Prop:=Good z/\1<=kind/\kind<=4/\cols.length<12/\∀t∈z,pickE t.row cols=0/\(kind≠1->inC col t.row.length=true)
def GroupR (z:List It) (cols:List Int) (kind col:Int) (out:List It) (err:Int):Prop:=
 (¬Wr0 z cols kind col/\out=[]/\(err=1\/err=2)/\(err=2 ↔ Good z/\1<=kind/\kind<=4/\12<=cols.length)) \/
 (Wr0 z cols kind col/\∃gs,GpI cols z gs/\gs.length<=z.length/\(((∃g∈gs,gval kind col g=none)/\out=[]/\err=11)\/((∀g∈gs,gval kind col g≠none)/\MakeR (gs.map (gItem kind col)) out err)))
theorem okR_bound {r:List V} (h:okR r=0):∀v∈r,-4611686018427387904<=v.i/\v.i<=4611686018427387904:=by
 intro v hv;simp only[okR] at h;split at h
 ·cases h
 ·split at h
  ·rename_i h2;have:=List.all_eq_true.1 h2 v hv;simp only[okV,inB] at this;split at this
   ·simp at this;omega
   ·split at this
    ·simp at this;omega
    ·split at this
     ·simp at this;omega
     ·split at this
      ·simp at this;omega
      ·cases this
  ·cases h
theorem GpI.atlen {cols:List Int} {y:List It} {gs:List Gp} (h:GpI cols y gs):∀g∈gs,g.at_.length=cols.length:=λg hg=>by
 obtain ⟨t,ht⟩:=List.exists_mem_of_ne_nil _ (h.some g hg);rw[h.items g hg,List.mem_filter] at ht;have h4:cmpR (pickR t.row cols) g.at_=0:=by have:=ht.2;simp at this;exact this.2
 rw[<- lin_cmpR.eq _ _ h4];simp[pickR]
theorem c67 (z:List It) (cols:List Int) (kind col:Int) (hl:z.length<=268435456) (hr:∀t∈z,t.row.length<1073741824) (hc:cols.length<1073741824) :
 Spec1 Tryz.prog 46 [setA z,intsL cols,iA kind,iA col] (λr o=>∃(out:List It) (err:Int),r=.tu [.rf 0 0 out.length,iA err]/\o=so out/\GroupR z cols kind col out err):=by
 refine spec1_of_vc tabOk elems ord46 Tryz.func46 rfl (rl:=[.tmp 8,.tmp 9]) rfl (by kernel_rfl) rfl ?_;refine Bd ?_;refine .pure _ (show Spec0 Tryz.prog 97 [setA z,intsL cols,iA kind,iA col] _ from c106 z cols kind col (by omega) hr hc) rfl λr hq _=>?_;obtain ⟨e,rfl,he,he0,he2⟩:=hq;refine Ab ?_;refine VIF.split (λh=>?_) (λh=>?_)
 ·have h:e≠0:=(by simpa using h);refine Aa ?_;refine FINmk [(0,none)] [(8,.rf 0 0 0),(9,iA e)] [(0,so [])] [0] rfl ?_ ?_
  ·refine Ab ?_;simp[so]
  ·exact ⟨so [],⟨⟨[],e,rfl,rfl,.inl ⟨λg=>h (he0.2 g),rfl,by omega,he2⟩⟩,rfl⟩,so_leafy [],rfl⟩
 have h:e=0:=by simpa using h
 have hw:=he0.1 h;subst h;refine Aa ?_;refine .pure _ (show Spec0 Tryz.prog 98 [setA z,intsL cols] _ from c107 z cols hl hr hc (λt ht=>(hw.2.2.2.2 t ht).1)) rfl λr hq _=>?_;obtain ⟨gs,rfl,hg,hgl⟩:=hq;refine Dx ?_
 refine LOOP.mk (ι:={i:Nat//i<=gs.length/\∀j (h:j<gs.length),j<i->gval kind col gs[j]≠none}) (λp=>mkS [(2,iA kind),(3,iA col),(11,.rf 1000 0 p.1),(26,gsA gs),(27,iA gs.length),(28,iA p.1)] [(1000,so ((gs.take p.1).map (gItem kind col)))] [1000])
  (λp=>gs.length-p.1) ⟨0,Nat.zero_le _,λj _ h=>absurd h (Nat.not_lt_zero _)⟩ [(1000,none)] rfl rfl ?_ (λp=>?_)
 ·refine Gi ?_;simp
 obtain ⟨i,hi,hv⟩:=p;refine Dx ?_;refine VIF.split (λh=>?_) (λh=>?_)
 ·have h:i<gs.length:=(by simpa using h);have hm:=List.getElem_mem h;have w1:=wrap_add1 (show i<4611686018427387904 by omega);refine Aa ?_;refine EL.map h ?_;refine Gv ?_;have hgi:∀t∈gs[i].items,t∈z:=λt ht=>by rw[hg.items _ hm,List.mem_filter] at ht;exact ht.1
  have hgl2:gs[i].items.length<=z.length:=by rw[hg.items _ hm];exact List.length_filter_le _ _
  have hal:gs[i].at_.length=cols.length:=by
   obtain ⟨t,ht⟩:=List.exists_mem_of_ne_nil _ (hg.some _ hm);rw[hg.items _ hm,List.mem_filter] at ht;have h4:cmpR (pickR t.row cols) gs[i].at_=0:=by have:=ht.2;simp at this;exact this.2
   rw[<- lin_cmpR.eq _ _ h4];simp[pickR]
  have hcc:kind≠1->∀t∈gs[i].items,inC col t.row.length=true:=λhk t ht=>(hw.2.2.2.2 t (hgi t ht)).2 hk;refine .pure _ (show Spec0 Tryz.prog 99 [.ag gs[i].c,iA kind,iA col] _ from c108 gs[i] kind col (by omega) hcc) rfl λr hq _=>?_;subst hq;refine Bi ?_;have hwb:∀t∈gs[i].items,-72057594037927936<=t.w/\t.w<=72057594037927936:=λt ht=>good_w hw.1 (hgi t ht);have hvb:∀t∈gs[i].items,∀v∈t.row,-4611686018427387904<=v.i/\v.i<=4611686018427387904:=λt ht v hv=>by have h3:=(good_made.1 hw.1).2 t (hgi t ht);exact okR_bound h3 v hv
  have s109:Spec0 Tryz.prog 100 [.ag [.im 3 (gs[i].at_.map V.c),.im 2 (gs[i].items.map It.c)],.pr (.int .i64 kind),.pr (.int .i64 col)] _:=c109 gs[i] kind col (by omega) (λt ht=>by have:=hr t (hgi t ht);omega) hwb hvb hcc;have hor:∀h:kind=1\/kind=2,gval kind col gs[i]=(sumF kind col gs[i].items 0).map λn=>⟨3,n,ByteArray.empty⟩:=λh=>if_pos h
  have bad:gval kind col gs[i]=none->∃o,((∃(out:List It) (err:Int),AV.tu [.rf 0 0 0,.pr (.int .i64 11)]=.tu [.rf 0 0 out.length,iA err]/\o=so out/\GroupR z cols kind col out err)/\AV.only0 (.tu [.rf 0 0 0,.pr (.int .i64 11)])=true)/\o.leafy/\upd noOb 0 (some (so []))=upd noOb 0 (some o):=λhn=>
   ⟨so [],⟨⟨[],11,rfl,rfl,.inr ⟨hw,gs,hg,hgl,.inl ⟨⟨_,hm,hn⟩,rfl,rfl⟩⟩⟩,rfl⟩,so_leafy [],rfl⟩
  refine VIF.split (λh1=>?_) (λh1=>?_)
  ·have h1:kind=1:=(by simpa using h1);refine Df ?_;refine .pure _ s109 rfl λr hq _=>?_;subst hq;refine Dt ?_;refine VIF.split (λh3=>?_) (λh3=>?_)
   ·have h3:(sumF kind col gs[i].items 0).isSome=false:=(by simpa only[Bool.not_eq_true'] using h3);have hno:gval kind col gs[i]=none:=by
     rw[hor (.inl h1)];cases hs:sumF kind col gs[i].items 0 with
     | none=>rfl
     | some n=>rw[hs] at h3;cases h3
    refine Aa ?_;refine FINmk [(0,none)] [(8,.rf 0 0 0),(9,iA 11)] [(0,so [])] [0] rfl ?_ ?_
    ·refine Ab ?_;simp[so]
    ·exact bad hno
   have h3:(sumF kind col gs[i].items 0).isSome=true:=(by simpa only[Bool.not_eq_false'] using h3);obtain ⟨n,hs⟩:=Option.isSome_iff_exists.1 h3;have hgv:gval kind col gs[i]=some ⟨3,n,ByteArray.empty⟩:=by rw[hor (.inl h1),hs];rfl
   rw[hs];obtain ⟨v,hv'⟩:∃v:V,v=⟨3,n,ByteArray.empty⟩:=⟨_,rfl⟩;rw[<- hv'] at hgv;rw[show sumV (some n)=v from hv'.symm];refine Fm ?_;refine TO [(1000,some 1000)] [(2,iA kind),(3,iA col),(11,.rf 1000 0 i),(13,.ro gs[i].c 0),(14,.ro v.c 0),(26,gsA gs),(27,iA gs.length),(28,iA i)] [(1000,so ((gs.take i).map (gItem kind col)))] [1000] rfl ?_ ?_
   ·refine Cl ?_;exact ⟨id,⟨⟨by decide,_,rfl,by simp[Ob.leafy,AV.leaf,rowA,setA],rfl⟩,by decide,_,rfl,by simp[Ob.leafy,AV.leaf],rfl⟩,.same (so ((gs.take i).map (gItem kind col))) _ _ (so_leafy _) rfl⟩
   refine Ci ?_;have hla:gs[i].at_.length<=1073741823:=(by omega);have s43':Spec1 Tryz.prog 101 [.im 3 (gs[i].at_.map V.c)] _:=s43 gs[i].at_ (by omega);refine ⟨.make 54 _ s43' rfl (by simp) rfl λq o hq _=>?_,.make 54 _ s43' rfl (by simp) rfl λq o hq _=>?_⟩;all_goals obtain ⟨rfl,rfl⟩:=hq
   all_goals (simp -implicitDefEqProofs only[go_sem,V.c,iA,Gp.c,ro3,so,w1];repeat (refine GO ?_;simp -implicitDefEqProofs only[go_sem,V.c,iA,Gp.c,ro3,so,w1]))
   all_goals refine ⟨hla,by omega,?_⟩
   all_goals refine BACK.mk ⟨i+1,by omega,λj hj hji=>if e:j=i then (by subst e;rw[hgv];simp) else hv j hj (by omega)⟩ [(1000,some 60)] rfl rfl (by show gs.length-(i+1)<gs.length-i;omega) ?_
   all_goals (simp -implicitDefEqProofs only[go_sem,gsA,iA,so,w1];repeat (refine GO ?_;simp -implicitDefEqProofs only[go_sem,gsA,iA,so,w1]))
   all_goals
    refine ⟨id,?_⟩;rw[List.take_succ_eq_append_getElem h,List.map_append,List.map_append,List.map_cons,List.map_nil,List.map_cons,List.map_nil,List.take_of_length_le (l:=List.map It.c (List.map (gItem kind col) (List.take i gs))) (by simp;omega)];refine Es_snoc (l:=List.map It.c (List.map (gItem kind col) (List.take i gs))) (λx hx a ha=>so_leafy ((gs.take i).map (gItem kind col)) x hx a ha) ?_;refine B9 ?_;exact ⟨by decide,ro3 (gs[i].at_++[v]),by rw[ro3,List.map_append];rfl,ro3_leafy _,rfl,List.take_of_length_le (by simp[ro3])⟩
  have h1:kind≠1:=(by simpa using h1);refine Bi ?_;refine VIF.split (λh2=>?_) (λh2=>?_)
  ·have h2:kind=2:=(by simpa using h2);refine Df ?_;refine .pure _ s109 rfl λr hq _=>?_;subst hq;refine Dt ?_;refine VIF.split (λh3=>?_) (λh3=>?_)
   ·have h3:(sumF kind col gs[i].items 0).isSome=false:=(by simpa only[Bool.not_eq_true'] using h3);have hno:gval kind col gs[i]=none:=by
     rw[hor (.inr h2)];cases hs:sumF kind col gs[i].items 0 with
     | none=>rfl
     | some n=>rw[hs] at h3;cases h3
    refine Aa ?_;refine FINmk [(0,none)] [(8,.rf 0 0 0),(9,iA 11)] [(0,so [])] [0] rfl ?_ ?_
    ·refine Ab ?_;simp[so]
    ·exact bad hno
   have h3:(sumF kind col gs[i].items 0).isSome=true:=(by simpa only[Bool.not_eq_false'] using h3);obtain ⟨n,hs⟩:=Option.isSome_iff_exists.1 h3;have hgv:gval kind col gs[i]=some ⟨3,n,ByteArray.empty⟩:=by rw[hor (.inr h2),hs];rfl
   rw[hs];obtain ⟨v,hv'⟩:∃v:V,v=⟨3,n,ByteArray.empty⟩:=⟨_,rfl⟩;rw[<- hv'] at hgv;rw[show sumV (some n)=v from hv'.symm];refine Fm ?_;refine TO [(1000,some 1000)] [(2,iA kind),(3,iA col),(11,.rf 1000 0 i),(13,.ro gs[i].c 0),(14,.ro v.c 0),(26,gsA gs),(27,iA gs.length),(28,iA i)] [(1000,so ((gs.take i).map (gItem kind col)))] [1000] rfl ?_ ?_
   ·refine Cl ?_;exact ⟨id,⟨⟨by decide,_,rfl,by simp[Ob.leafy,AV.leaf,rowA,setA],rfl⟩,by decide,_,rfl,by simp[Ob.leafy,AV.leaf],rfl⟩,.same (so ((gs.take i).map (gItem kind col))) _ _ (so_leafy _) rfl⟩
   refine Ci ?_;have hla:gs[i].at_.length<=1073741823:=(by omega);have s43':Spec1 Tryz.prog 101 [.im 3 (gs[i].at_.map V.c)] _:=s43 gs[i].at_ (by omega);refine ⟨.make 54 _ s43' rfl (by simp) rfl λq o hq _=>?_,.make 54 _ s43' rfl (by simp) rfl λq o hq _=>?_⟩;all_goals obtain ⟨rfl,rfl⟩:=hq
   all_goals (simp -implicitDefEqProofs only[go_sem,V.c,iA,Gp.c,ro3,so,w1];repeat (refine GO ?_;simp -implicitDefEqProofs only[go_sem,V.c,iA,Gp.c,ro3,so,w1]))
   all_goals refine ⟨hla,by omega,?_⟩
   all_goals refine BACK.mk ⟨i+1,by omega,λj hj hji=>if e:j=i then (by subst e;rw[hgv];simp) else hv j hj (by omega)⟩ [(1000,some 60)] rfl rfl (by show gs.length-(i+1)<gs.length-i;omega) ?_
   all_goals (simp -implicitDefEqProofs only[go_sem,gsA,iA,so,w1];repeat (refine GO ?_;simp -implicitDefEqProofs only[go_sem,gsA,iA,so,w1]))
   all_goals
    refine ⟨id,?_⟩;rw[List.take_succ_eq_append_getElem h,List.map_append,List.map_append,List.map_cons,List.map_nil,List.map_cons,List.map_nil,List.take_of_length_le (l:=List.map It.c (List.map (gItem kind col) (List.take i gs))) (by simp;omega)];refine Es_snoc (l:=List.map It.c (List.map (gItem kind col) (List.take i gs))) (λx hx a ha=>so_leafy ((gs.take i).map (gItem kind col)) x hx a ha) ?_;refine B9 ?_;exact ⟨by decide,ro3 (gs[i].at_++[v]),by rw[ro3,List.map_append];rfl,ro3_leafy _,rfl,List.take_of_length_le (by simp[ro3])⟩
  have h2:kind≠2:=(by simpa using h2);rw[if_neg h1];have hgv:gval kind col gs[i]=some (bestF kind col gs[i].items V.nul):=(by simp[gval,h1,h2]);refine Hg ?_;generalize bestF kind col gs[i].items V.nul=v at hgv ⊢;refine TO [(1000,some 1000)] [(2,iA kind),(3,iA col),(11,.rf 1000 0 i),(13,.ro gs[i].c 0),(14,.ro v.c 0),(15,bA true),(26,gsA gs),(27,iA gs.length),(28,iA i)] [(1000,so ((gs.take i).map (gItem kind col)))] [1000] rfl ?_ ?_
  ·refine Cl ?_;exact ⟨id,⟨⟨by decide,_,rfl,by simp[Ob.leafy,AV.leaf,rowA,setA],rfl⟩,by decide,_,rfl,by simp[Ob.leafy,AV.leaf],rfl⟩,.same (so ((gs.take i).map (gItem kind col))) _ _ (so_leafy _) rfl⟩
  refine Ci ?_;have hla:gs[i].at_.length<=1073741823:=(by omega);have s43':Spec1 Tryz.prog 101 [.im 3 (gs[i].at_.map V.c)] _:=s43 gs[i].at_ (by omega);refine ⟨.make 54 _ s43' rfl (by simp) rfl λq o hq _=>?_,.make 54 _ s43' rfl (by simp) rfl λq o hq _=>?_⟩;all_goals obtain ⟨rfl,rfl⟩:=hq
  all_goals (simp -implicitDefEqProofs only[go_sem,V.c,iA,Gp.c,ro3,so,w1];repeat (refine GO ?_;simp -implicitDefEqProofs only[go_sem,V.c,iA,Gp.c,ro3,so,w1]))
  all_goals refine ⟨hla,by omega,?_⟩
  all_goals refine BACK.mk ⟨i+1,by omega,λj hj hji=>if e:j=i then (by subst e;rw[hgv];simp) else hv j hj (by omega)⟩ [(1000,some 60)] rfl rfl (by show gs.length-(i+1)<gs.length-i;omega) ?_
  all_goals (simp -implicitDefEqProofs only[go_sem,gsA,iA,so,w1];repeat (refine GO ?_;simp -implicitDefEqProofs only[go_sem,gsA,iA,so,w1]))
  all_goals
   refine ⟨id,?_⟩;rw[List.take_succ_eq_append_getElem h,List.map_append,List.map_append,List.map_cons,List.map_nil,List.map_cons,List.map_nil,List.take_of_length_le (l:=List.map It.c (List.map (gItem kind col) (List.take i gs))) (by simp;omega)];refine Es_snoc (l:=List.map It.c (List.map (gItem kind col) (List.take i gs))) (λx hx a ha=>so_leafy ((gs.take i).map (gItem kind col)) x hx a ha) ?_;refine B9 ?_;exact ⟨by decide,ro3 (gs[i].at_++[v]),by rw[ro3,List.map_append];rfl,ro3_leafy _,rfl,List.take_of_length_le (by simp[ro3])⟩
 ·have h:i=gs.length:=by simp at h;omega
  subst h;rw[List.take_length];refine Aw ?_;refine FRZ 1000 (so (gs.map (gItem kind col))) rfl (so_leafy _) ?_;have tk:List.take gs.length (List.map It.c (List.map (gItem kind col) gs))=List.map It.c (List.map (gItem kind col) gs):=List.take_of_length_le (by simp);refine Ep ?_;have hgr:∀t∈gs.map (gItem kind col),t.row.length<1073741824:=λt ht=>by obtain ⟨g,hgm,rfl⟩:=List.mem_map.1 ht;have:=hg.atlen g hgm;simp[gItem];omega
  refine .make 63 _ (show Spec1 Tryz.prog 82 [setA (gs.map (gItem kind col))] _ from s11 (gs.map (gItem kind col)) (by simp;omega) hgr) rfl (by simp) rfl λq o hq _=>?_;obtain ⟨out,err,rfl,rfl,hm⟩:=hq;refine Ab ?_;refine FINmk [(0,some 63)] [(8,.rf 0 0 out.length),(9,iA err)] [(0,so out)] [0] rfl ?_ ?_
  ·refine Am ?_;exact .same (so out) _ _ (so_leafy out) rfl
  ·have hall:∀g∈gs,gval kind col g≠none:=λg hg'=>by
    obtain ⟨j,hj,rfl⟩:=List.mem_iff_getElem.1 hg';exact hv j hj hj
   exact ⟨so out,⟨⟨out,err,rfl,rfl,.inr ⟨hw,gs,hg,hgl,.inr ⟨hall,hm⟩⟩⟩,rfl⟩,so_leafy out,rfl⟩
theorem okR_len {r:List V} (h:okR r=0):r.length<=12:=by
 simp only[okR] at h;split at h
 ·cases h
 ·omega
theorem okR_all {r:List V}:okR r=0 ↔ r.length<=12/\∀v∈r,okV v=true:=by
 simp only[okR];split
 ·simp;omega
 ·split
  ·rename_i h1 h2;simp at h2;simp;exact ⟨by omega,h2⟩
  ·rename_i h1 h2;simp at h2;simp;obtain ⟨v,hv,hv2⟩:=h2;exact λ_=>⟨v,hv,hv2⟩
def keyL (gs:List Gp):List It:=gs.map λg=>⟨g.at_,1⟩
theorem keyL_made {cols:List Int} {y:List It} {gs:List Gp} (h:GpI cols y gs):Made (keyL gs):=
 ⟨by rw[keyL,List.pairwise_map];exact h.up,λt ht=>by
  obtain ⟨g,_,rfl⟩:=List.mem_map.1 ht;exact ⟨by simp,by simp[okW,inB]⟩⟩
theorem tot_one {o:List It} (h:Made o) (h1:∀t∈o,t.w=1) (r:List V):(tot r o=1/\∃t∈o,t.row=r)\/(tot r o=0/\¬∃t∈o,t.row=r):=by
 by_cases e:∃t∈o,t.row=r
 ·obtain ⟨t,ht,rfl⟩:=e;exact .inl ⟨by rw[tot_made h ht,h1 t ht],t,ht,rfl⟩
 ·refine .inr ⟨?_,e⟩;have:=tot_there h r;by_cases e2:tot r o=0
  ·exact e2
  ·exact absurd (this.1 e2) e
theorem ones_eq {x y:List It} (hx:Made x) (hy:Made y) (h1:∀t∈x,t.w=1) (h2:∀t∈y,t.w=1) (h:∀r,(∃t∈x,t.row=r) ↔ ∃t∈y,t.row=r):x=y:=
 made_eq hx hy λr=>by
  rcases tot_one hx h1 r with ⟨a,b⟩|⟨a,b⟩<;>rcases tot_one hy h2 r with ⟨c,d⟩|⟨c,d⟩
  ·rw[a,c]
  ·exact absurd ((h r).1 b) d
  ·exact absurd ((h r).2 d) b
  ·rw[a,c]
theorem keyL_one {gs:List Gp}:∀t∈keyL gs,t.w=1:=λt ht=>by obtain ⟨g,_,rfl⟩:=List.mem_map.1 ht;rfl
theorem GpI.has {cols:List Int} {y:List It} {gs:List Gp} (h:GpI cols y gs) (r:List V):(∃g∈gs,g.at_=r) ↔ ∃t∈y,¬t.w<0/\pickR t.row cols=r:=by
 constructor
 ·rintro ⟨g,hg,rfl⟩;obtain ⟨t,ht⟩:=List.exists_mem_of_ne_nil _ (h.some g hg);rw[h.items g hg,List.mem_filter] at ht;obtain ⟨h1,h2⟩:=ht;simp at h2;exact ⟨t,h1,by omega,lin_cmpR.eq _ _ h2.2⟩
 ·rintro ⟨t,ht,hw,rfl⟩;exact h.all t ht hw
theorem keyL_has {gs:List Gp} (r:List V):(∃t∈keyL gs,t.row=r) ↔ ∃g∈gs,g.at_=r:=by
 constructor
 ·rintro ⟨t,ht,e⟩;obtain ⟨g,hg,rfl⟩:=List.mem_map.1 ht;exact ⟨g,hg,e⟩
 ·rintro ⟨g,hg,e⟩;exact ⟨_,List.mem_map_of_mem hg,e⟩
def gOf (cols:List Int) (y:List It) (k:List V):Gp:=⟨k,y.filter λt=>!decide (t.w<0)&&decide (cmpR (pickR t.row cols) k=0)⟩
theorem GpI.canon {cols:List Int} {y:List It} {gs:List Gp} (h:GpI cols y gs):gs=(keyL gs).map λt=>gOf cols y t.row:=by
 rw[keyL,List.map_map]
 conv=>lhs;rw[<- List.map_id gs]
 refine List.map_congr_left λg hg=>?_;simp only[id,Function.comp,gOf];rw[<- h.items g hg]
theorem GpI.same {cols:List Int} {y y':List It} {gs gs':List Gp} (h:GpI cols y gs) (h':GpI cols y' gs') (hk:∀r,(∃t∈y,¬t.w<0/\pickR t.row cols=r) ↔ ∃t∈y',¬t.w<0/\pickR t.row cols=r)
 (hi:∀r,gOf cols y r=gOf cols y' r):gs=gs':=by
 rw[h.canon,h'.canon];have:keyL gs=keyL gs':=ones_eq (keyL_made h) (keyL_made h') keyL_one keyL_one λr=>by rw[keyL_has,keyL_has,h.has,h'.has,hk]
 rw[this];exact List.map_congr_left λt _=>hi _
def sumT (kind col:Int) (t:It):Int:=if kind=2 then (if (getV t.row col).k=3 then t.w*(getV t.row col).i else 0) else t.w
theorem getV_mem {r:List V} {c:Int} (h:inC c r.length=true):getV r c∈r:=by
 simp only[inC,Bool.and_eq_true,decide_eq_true_eq] at h;have:c.toNat<r.length:=by omega
 simp only[getV,List.getElem?_eq_getElem this,Option.getD_some];exact List.getElem_mem this
theorem bestF_mem (kind col:Int):∀(l:List It) (o:V),bestF kind col l o=o\/∃t∈l,bestF kind col l o=getV t.row col
 | [],o=>.inl rfl
 | t::l,o=>by
   simp only[bestF];have lift:∀o',(bestF kind col l o'=o'\/∃u∈l,bestF kind col l o'=getV u.row col)->o'=o\/o'=getV t.row col->bestF kind col l o'=o\/∃u∈t::l,bestF kind col l o'=getV u.row col:=by
    rintro o' (h|⟨u,hu,h⟩) h2
    ·rcases h2 with h2|h2
     ·exact .inl (h.trans h2)
     ·exact .inr ⟨t,by simp,h.trans h2⟩
    ·exact .inr ⟨u,by simp[hu],h⟩
   split
   ·exact lift o (bestF_mem kind col l o) (.inl rfl)
   ·split
    ·exact lift _ (bestF_mem kind col l _) (.inr rfl)
    ·exact lift o (bestF_mem kind col l o) (.inl rfl)
def iV (n:Int):V:=⟨3,n,ByteArray.empty⟩
def w2 (n m:Int):List V:=[iV n,iV m]
theorem GpI.uniq {cols:List Int} {y:List It} {gs gs':List Gp} (h:GpI cols y gs) (h':GpI cols y gs'):gs=gs':=h.same h' (λ_=>Iff.rfl) λ_=>rfl
theorem g67 (z:List It) (cols:List Int) (kind col:Int) (hl:z.length<=268435456) (hr:∀t∈z,t.row.length<1073741824) (hc:cols.length<1073741824) :
 Spec0 Tryz.prog 46 [setA z,intsL cols,iA kind,iA col] (λr=>∃(out:List It) (err:Int),r=.tu [setA out,iA err]/\GroupR z cols kind col out err):=Spec1.setE (c67 z cols kind col hl hr hc)
theorem groupR_rows {z out:List It} {cols:List Int} {kind col err:Int} (h:GroupR z cols kind col out err):out.length<=z.length/\∀t∈out,t.row.length<=12:=by
 rcases h with ⟨_,rfl,_⟩|⟨hw,gs,hg,hl,⟨_,rfl,_⟩|⟨_,hm⟩⟩
 ·simp
 ·simp
 ·obtain ⟨h1,h2⟩:=makeR_rows hm;refine ⟨by rw[List.length_map] at h1;omega,λt ht=>?_⟩;obtain ⟨u,hu,e⟩:=h2 t ht;obtain ⟨g,hgm,rfl⟩:=List.mem_map.1 hu;have h3:=hg.atlen g hgm;have h4:=hw.2.2.2.1;rw[<- e];simp only[gItem,List.length_append,List.length_singleton];omega
def GDel (z dz:List It) (cols:List Int) (kind col:Int) (out:List It) (err:Int):Prop:=
 ∃now e1,AddR z dz now e1/\Thn out err e1 (∃a e2,GroupR now cols kind col a e2/\Thn out err e2 (∃b e3,GroupR z cols kind col b e3/\Thn out err e3 (MinR a b out err)))
def alike (n:Nat) (t u:It):Bool:=decide (cmpR (u.row.take n) (t.row.take n)=0)&&decide (u.w=t.w)
theorem c124 (n:Int) (h:-9223372036854775807<=n/\n<=9223372036854775807):Spec0 Tryz.prog 187 [iA n] (·=iA n.natAbs):=by
 refine spec0_of_vc tabOk elems ord187 Tryz.func187 rfl (rl:=[.tmp 2]) rfl (by kernel_rfl) rfl ?_;have w1:IntKind.i64.wrap (0-n)=-n:=by rw[wrap_i64]<;>omega
 refine Ba ?_;have e:max n (-n)=n.natAbs:=by omega
 rw[e]
def prodOk (a b k:Int):Bool:=inB (a*b) (-k) k
theorem c78 (a b k:Int) (ha:-4611686018427387904<=a/\a<=4611686018427387904) (hb:-4611686018427387904<=b/\b<=4611686018427387904) (hk:0<=k/\k<=4611686018427387904) :
 Spec0 Tryz.prog 155 [iA a,iA b,iA k] (·=.tu [iA (if prodOk a b k=true then a*b else 0),bA (prodOk a b k)]):=by
 have z:∀c d:Int,c=0\/d=0->AV.tu [.pr (.int .i64 0),.pr (.bool true)]=.tu [iA (if prodOk c d k=true then c*d else 0),bA (prodOk c d k)]:=λc d h=>by
  have h0:c*d=0:=by rcases h with rfl|rfl<;>simp
  have:prodOk c d k=true:=by simp[prodOk,inB,h0];omega
  rw[this,h0];rfl
 refine spec0_of_vc tabOk elems ord155 Tryz.func155 rfl (rl:=[.tmp 6,.tmp 7]) rfl (by kernel_rfl) rfl ?_;refine Ab ?_;refine VIF.split (λh=>?_) (λh=>?_)
 ·refine Aa ?_;exact ⟨rfl,z a b (.inl (by simpa using h))⟩
 have h1:a≠0:=by simpa using h
 refine Aa ?_;refine VIF.split (λh=>?_) (λh=>?_)
 ·refine Aa ?_;exact ⟨rfl,z a b (.inr (by simpa using h))⟩
 have h2:b≠0:=by simpa using h
 refine Aa ?_;refine .pure _ (c124 a (by omega)) rfl λr hq _=>?_;subst hq;refine Ab ?_;refine .pure _ (c124 b (by omega)) rfl λr hq _=>?_;subst hq;have hb0:0<(b.natAbs:Int):=by omega
 have ed:k.tdiv (b.natAbs:Int)=k / b.natAbs:=Int.tdiv_eq_ediv_of_nonneg hk.1;have wq:IntKind.i64.wrap (k / (b.natAbs:Int))=k / b.natAbs:=by have h3:=Int.ediv_nonneg hk.1 (Int.le_of_lt hb0);have h4:=Int.ediv_le_self (b.natAbs:Int) hk.1;rw[wrap_i64]<;>omega
 have key:(k / (b.natAbs:Int)<(a.natAbs:Int)) ↔ prodOk a b k=false:=by have h3:=Int.le_ediv_iff_mul_le (a:=(a.natAbs:Int)) (b:=k) hb0;have h4:=natAbs_mul_le a b k.toNat;have h5:((k.toNat:Nat):Int)=k:=(by omega);rw[h5] at h4;simp only[prodOk,inB,<- Bool.decide_and,decide_eq_false_iff_not];rw[<- h4,<- h3];omega
 refine Gn ?_;refine ⟨by omega,?_⟩;refine Gn ?_;refine VIF.split (λh=>?_) (λh=>?_)
 ·have h:prodOk a b k=false:=key.1 (by simpa using h);refine Aa ?_;rw[h];exact ⟨rfl,rfl⟩
 ·have h:prodOk a b k=true:=by
   cases hp:prodOk a b k with
   | true=>rfl
   | false=>exact absurd (key.2 hp) (by simpa using h)
  have hw:IntKind.i64.wrap (a*b)=a*b:=by simp[prodOk,inB] at h;rw[wrap_i64]<;>omega
  (simp -implicitDefEqProofs only[go_sem,hw];repeat (refine GO ?_;simp -implicitDefEqProofs only[go_sem,hw]));rw[h];exact ⟨rfl,rfl⟩
theorem zip_mem {z:List It} {p:It×Nat} (hp:p∈z.zipIdx):p.2<z.length/\z[p.2]?=some p.1:=by have h1:=List.mem_zipIdx_iff_getElem?.1 hp;exact ⟨(List.getElem?_eq_some_iff.1 h1).1,h1⟩
end Yt
namespace Go.Vc
theorem Es.app {st:St} {m:List (Nat×Option Nat)} {l1 l1' l2 l2':List (List AV)} (h:Es st m l1 l1') (h2:Es st m l2 l2'):Es st m (l1++l2) (l1'++l2'):=by
 obtain ⟨e1,e2⟩:=h.get;obtain ⟨e3,e4⟩:=h2.get;refine Es_all (by simp[e1,e3]) λi q1 q2=>?_;by_cases hi:i<l1'.length
 ·obtain ⟨cs,h3,h4⟩:=e2 i l1'[i] (List.getElem?_eq_getElem hi);obtain ⟨h5,h6⟩:=List.getElem?_eq_some_iff.1 h3;rw[List.getElem_append_left h5,List.getElem_append_left hi,h6];exact h4
 ·have hi1:¬i<l1.length:=(by omega);rw[List.getElem_append_right (by omega),List.getElem_append_right (by omega)];have hlt:i-l1'.length<l2'.length:=by rw[List.length_append] at q2;omega
  obtain ⟨cs,h3,h4⟩:=e4 (i-l1'.length) _ (List.getElem?_eq_getElem hlt);obtain ⟨h5,h6⟩:=List.getElem?_eq_some_iff.1 h3;have e:i-l1.length=i-l1'.length:=(by omega);simp only[e,h6];exact h4
theorem nms_append {m m':List (Nat×Option Nat)} {x:Nat}:nms (m++m') x=(match nms m x with|none=>nms m' x|some y=>some y):=by
 induction m with
 | nil=>rfl
 | cons p r ih=>
   obtain ⟨a,b⟩:=p;simp only[List.cons_append,nms];split
   ·rfl
   ·exact ih
theorem olds_append {m m':List (Nat×Option Nat)}:olds (m++m')=olds m++olds m':=by
 induction m with
 | nil=>rfl
 | cons p r ih=>
   obtain ⟨a,b⟩:=p;cases b with
   | none=>simpa [olds] using ih
   | some b=>simpa [olds] using ih
end Go.Vc
namespace Yt
open Go Go.Vc Go.Proofs
def famC (b:Nat) (z:List It):List (List AV):=z.zipIdx.map λp=>[.rf (b+(p.2+1)) 0 p.1.row.length,iA p.1.w]
def famL (b:Nat) (z:List It):List (Nat×Ob):=z.zipIdx.map λp=>(b+(p.2+1),ro3 p.1.row)
def famN (b n:Nat):List Nat:=(List.range n).map λi=>b+(i+1)
def famM (b n:Nat) (ν:Nat->Nat):List (Nat×Option Nat):=(List.range n).map λi=>(b+(i+1),some (ν i))
theorem famC_len (b:Nat) (z:List It):(famC b z).length=z.length:=by simp[famC]
theorem famC_get {b:Nat} {z:List It} {i:Nat} (h:i<z.length) (h2:i<(famC b z).length):(famC b z)[i]=[.rf (b+(i+1)) 0 z[i].row.length,iA z[i].w]:=by simp[famC]
theorem famN_mem {b n x:Nat}:x∈famN b n ↔ ∃i,i<n/\x=b+(i+1):=by simp[famN,eq_comm]
theorem famM_nms {b n:Nat} {ν:Nat->Nat} {i:Nat} (h:i<n):nms (famM b n ν) (b+(i+1))=some (some (ν i)):=by
 have key:∀(l:List Nat),i∈l->nms (l.map λi=>(b+(i+1),some (ν i))) (b+(i+1))=some (some (ν i)):=by
  intro l
  induction l with
  | nil=>intro h;cases h
  | cons x r ih=>
    intro hm;simp only[List.map_cons,nms];split
    ·rename_i e;have:x=i:=(by omega);rw[this]
    ·rename_i e;rcases List.mem_cons.1 hm with rfl|hm
     ·exact absurd rfl e
     ·exact ih hm
 exact key _ (List.mem_range.2 h)
theorem famM_none {b n:Nat} {ν:Nat->Nat} {x:Nat} (h:x<=b\/b+n<x):nms (famM b n ν) x=none:=by
 have key:∀(l:List Nat),(∀i∈l,i<n)->nms (l.map λi=>(b+(i+1),some (ν i))) x=none:=by
  intro l
  induction l with
  | nil=>intro _;rfl
  | cons y r ih=>
    intro hm;simp only[List.map_cons,nms];have:=hm y (by simp);rw[if_neg (by omega)];exact ih λi hi=>hm i (by simp[hi])
 exact key _ λi hi=>List.mem_range.1 hi
theorem famM_olds {b n:Nat} {ν:Nat->Nat}:olds (famM b n ν)=(List.range n).map ν:=by
 have key:∀(l:List Nat),olds (l.map λi=>(b+(i+1),some (ν i)))=l.map ν:=by
  intro l
  induction l with
  | nil=>rfl
  | cons y r ih=>simp only[List.map_cons,olds,ih]
 exact key _
theorem famL_get {b:Nat} {z:List It} {i:Nat} (h:i<z.length):mkO (famL b z) (b+(i+1))=some (ro3 z[i].row):=by
 have key:∀(l:List It) (k:Nat),k<=i->(h:i-k<l.length)->mkO ((l.zipIdx k).map λp=>(b+(p.2+1),ro3 p.1.row)) (b+(i+1))=some (ro3 (l[i-k]).row):=by
  intro l
  induction l with
  | nil=>intro k _ h;simp at h
  | cons t r ih=>
    intro k hk h;simp only[List.zipIdx_cons,List.map_cons,mkO,upd];by_cases e:k=i
    ·subst e;simp
    ·rw[if_neg (by omega),ih (k+1) (by omega) (by simp at h;omega)];have:i-k=(i-(k+1))+1:=(by omega);simp[this]
 have:=key z 0 (Nat.zero_le _) (by simpa using h);simpa [famL] using this
theorem famL_none {b:Nat} {z:List It} {x:Nat} (h:x<=b\/b+z.length<x):mkO (famL b z) x=none:=by
 have key:∀(l:List It) (k:Nat),k+l.length<=z.length->mkO ((l.zipIdx k).map λp=>(b+(p.2+1),ro3 p.1.row)) x=none:=by
  intro l
  induction l with
  | nil=>intro _ _;rfl
  | cons t r ih=>
    intro k hk;simp only[List.length_cons] at hk;simp only[List.zipIdx_cons,List.map_cons,mkO,upd];rw[if_neg (by omega)];exact ih (k+1) (by omega)
 exact key z 0 (by omega)
def famS (b:Nat) (z:List It):List (Nat×Ob):=(b,⟨2,famC b z⟩)::famL b z
def famF (z:List It):Nat->Option Ob:=mkO (famS 0 z)
theorem famS_0 (b:Nat) (z:List It):mkO (famS b z) b=some ⟨2,famC b z⟩:=by simp[famS,mkO,upd]
theorem famS_row {b:Nat} {z:List It} {i:Nat} (h:i<z.length):mkO (famS b z) (b+(i+1))=some (ro3 z[i].row):=by simp only[famS,mkO,upd];rw[if_neg (by omega)];exact famL_get h
theorem famS_none {b:Nat} {z:List It} {x:Nat} (h:x<b\/b+z.length<x):mkO (famS b z) x=none:=by simp only[famS,mkO,upd];rw[if_neg (by omega)];exact famL_none (by omega)
theorem famS_cases {b:Nat} {z:List It} {x:Nat} {o:Ob} (h:mkO (famS b z) x=some o):(x=b/\o=⟨2,famC b z⟩)\/∃i,∃hi:i<z.length,x=b+(i+1)/\o=ro3 z[i].row:=by
 by_cases e:x=b
 ·subst e;rw[famS_0] at h;cases h;exact .inl ⟨rfl,rfl⟩
 ·by_cases e2:x<b\/b+z.length<x
  ·rw[famS_none e2] at h;cases h
  ·obtain ⟨i,rfl⟩:∃i,x=b+(i+1):=⟨x-b-1,by omega⟩;have hi:i<z.length:=(by omega);rw[famS_row hi] at h;cases h;exact .inr ⟨i,hi,rfl,rfl⟩
theorem ro3_rn (ρ:Nat->Nat) (r:List V):(ro3 r).rn ρ=ro3 r:=by simp only[ro3,Ob.rn,List.map_map];congr 1
theorem famC_rn (ρ:Nat->Nat) (b:Nat) (z:List It) (h:∀i,i<z.length->ρ (i+1)=b+(i+1)):(famC 0 z).map (rns ρ)=famC b z:=by
 refine List.ext_getElem (by simp[famC_len]) λi q1 q2=>?_;have hi:i<z.length:=by simpa [famC_len] using q1
 rw[List.getElem_map,famC_get hi,famC_get hi];simp only[rns,AV.rn,Nat.zero_add,h i hi];rfl
theorem famF_rn (b:Nat) (z:List It) (n:Nat):(famF z n).map (Ob.rn λi=>b+i)=mkO (famS b z) (b+n):=by
 cases hn:famF z n with
 | none=>
   have:¬n<=z.length:=λh=>by
    cases n with
    | zero=>rw[famF,famS_0] at hn;cases hn
    | succ i=>
      have:=famS_row (b:=0) (z:=z) (i:=i) (by omega);rw[Nat.zero_add] at this;rw[famF,this] at hn;cases hn
   rw[famS_none (by omega)];rfl
 | some o=>
   rcases famS_cases hn with ⟨rfl,rfl⟩|⟨i,hi,rfl,rfl⟩
   ·rw[Nat.add_zero,famS_0];simp only[Option.map_some,Ob.rn];rw[famC_rn _ b z λi _=>rfl]
   ·rw[Nat.zero_add,famS_row hi,Option.map_some,ro3_rn]
def SpecF (P:Program) (f:Nat) (args:List AV) (R:AV->List It->Prop):Prop:=FunSpecD P f args noOb noOb [] λr O'=>∃z,(R r z/\r.only0=true)/\O'=famF z
def famO (b:Nat) (z:List It) (objs:Nat->Option Ob) (n:Nat):Option Ob:=if b<=n then mkO (famS b z) n else objs n
@[go_sem] theorem famO_lo {b:Nat} {z:List It} {objs:Nat->Option Ob} {n:Nat} (h:(b<=n)=False):famO b z objs n=objs n:=by simp[famO,h]
@[go_sem] theorem famO_0 {b:Nat} {z:List It} {objs:Nat->Option Ob}:famO b z objs b=some ⟨2,famC b z⟩:=by simp[famO,famS_0]
theorem famO_row {b:Nat} {z:List It} {objs:Nat->Option Ob} {i:Nat} (h:i<z.length):famO b z objs (b+(i+1))=some (ro3 z[i].row):=by rw[famO,if_pos (by omega),famS_row h]
def famU (b n:Nat):List Nat:=(List.range (n+1)).map λi=>b+i
mutual
theorem only0_in:∀(v:AV),v.only0=true->v.inN (λi=>i=0)
 | .un,_=>trivial
 | .pr v,_=>trivial
 | .nl,_=>trivial
 | .im a b,_=>trivial
 | .rf a b c,h=>by simp only[AV.inN];simpa [AV.only0] using h
 | .pt a b c,h=>by simp only[AV.inN];simpa [AV.only0] using h
 | .ro a b,_=>trivial
 | .ag cs,h=>by simp only[AV.inN];exact only0s_in cs (by simpa [AV.only0] using h)
 | .tu cs,h=>by simp only[AV.inN];exact only0s_in cs (by simpa [AV.only0] using h)
 | .fn f cs,h=>by simp only[AV.inN];exact only0s_in cs (by simpa [AV.only0] using h)
theorem only0s_in:∀(l:List AV),only0s l=true->inNs (λi=>i=0) l
 | [],_=>trivial
 | x::r,h=>by
   simp only[only0s,Bool.and_eq_true] at h;exact ⟨only0_in x h.1,only0s_in r h.2⟩
end
mutual
theorem inN_mono {p q:Nat->Prop} (hpq:∀i,p i->q i):∀(v:AV),v.inN p->v.inN q
 | .un,_=>trivial
 | .pr v,_=>trivial
 | .nl,_=>trivial
 | .im a b,_=>trivial
 | .rf a b c,h=>hpq _ h
 | .pt a b c,h=>hpq _ h
 | .ro a b,_=>trivial
 | .ag cs,h=>inNs_mono hpq cs h
 | .tu cs,h=>inNs_mono hpq cs h
 | .fn f cs,h=>inNs_mono hpq cs h
theorem inNs_mono {p q:Nat->Prop} (hpq:∀i,p i->q i):∀(l:List AV),inNs p l->inNs q l
 | [],_=>trivial
 | x::r,h=>⟨inN_mono hpq x h.1,inNs_mono hpq r h.2⟩
end
mutual
theorem noId_rn {ρ:Nat->Nat} {p:Nat->Prop}:∀(v:AV),v.noId=true->v.rn ρ=v/\v.inN p
 | .un,_=>⟨rfl,trivial⟩
 | .pr v,_=>⟨rfl,trivial⟩
 | .nl,_=>⟨rfl,trivial⟩
 | .im a b,_=>⟨rfl,trivial⟩
 | .rf a b c,h=>by simp[AV.noId] at h
 | .pt a b c,h=>by simp[AV.noId] at h
 | .ro a b,_=>⟨rfl,trivial⟩
 | .ag cs,h=>by
   obtain ⟨h1,h2⟩:=noIds_rn (ρ:=ρ) (p:=p) cs (by simpa [AV.noId] using h);exact ⟨by simp only[AV.rn,h1],h2⟩
 | .tu cs,h=>by
   obtain ⟨h1,h2⟩:=noIds_rn (ρ:=ρ) (p:=p) cs (by simpa [AV.noId] using h);exact ⟨by simp only[AV.rn,h1],h2⟩
 | .fn f cs,h=>by
   obtain ⟨h1,h2⟩:=noIds_rn (ρ:=ρ) (p:=p) cs (by simpa [AV.noId] using h);exact ⟨by simp only[AV.rn,h1],h2⟩
theorem noIds_rn {ρ:Nat->Nat} {p:Nat->Prop}:∀(l:List AV),noIds l=true->rns ρ l=l/\inNs p l
 | [],_=>⟨rfl,trivial⟩
 | x::r,h=>by
   simp only[noIds,Bool.and_eq_true] at h;obtain ⟨h1,h2⟩:=noId_rn (ρ:=ρ) (p:=p) x h.1;obtain ⟨h3,h4⟩:=noIds_rn (ρ:=ρ) (p:=p) r h.2;exact ⟨by simp only[rns,h1,h3],h2,h4⟩
end
theorem famU_mem {b n x:Nat}:x∈famU b n ↔ b<=x/\x<=b+n:=by
 simp only[famU,List.mem_map,List.mem_range];constructor
 ·rintro ⟨i,hi,rfl⟩;omega
 ·intro h;exact ⟨x-b,by omega,by omega⟩
theorem famF_closed {z:List It} {i:Nat} {o:Ob} (h:famF z i=some o):i∈famU 0 z.length/\∀x∈o.es,inNs (·∈famU 0 z.length) x:=by
 rcases famS_cases h with ⟨rfl,rfl⟩|⟨i,hi,rfl,rfl⟩
 ·refine ⟨famU_mem.2 (by omega),λx hx=>?_⟩;obtain ⟨j,hj,rfl⟩:=List.mem_iff_getElem.1 hx;have hj':j<z.length:=(by simpa [famC_len] using hj);rw[famC_get hj'];exact ⟨famU_mem.2 (by omega),trivial,trivial⟩
 ·refine ⟨famU_mem.2 (by omega),λx hx=>?_⟩;obtain ⟨v,_,rfl⟩:=List.mem_map.1 hx;exact ⟨trivial,trivial,trivial,trivial⟩
theorem kept_false (O:Nat->Option Ob):kept false O=noOb:=by funext i;simp[kept,noOb]
theorem CALL.fam {P:Program} {f:Nat} {args:List AV} {st:St} {x:Nat} {K:St->Prop} {R:AV->List It->Prop} (h:SpecF P f args R) (ha:noIds args=true) (b:Nat) (hb:∀n∈st.used,n<b)
 (k:∀r z,R r z->K {regs:=upd st.regs x (r.rn λi=>b+i),objs:=famO b z st.objs,used:=famU b z.length++st.used}):CALL P f args st (some x) K:=by
 obtain ⟨g1,g2⟩:=noIds_rn (ρ:=id) (p:=(·∈([]:List Nat))) args ha;have h':FunSpecD P f args (kept false noOb) noOb [] λr O'=>∃z,(R r z/\r.only0=true)/\O'=famF z:=by rw[kept_false];exact h
 classical
 have key:=dep_sem (objs:=st.objs) (used:=st.used) (args:=args) h' id (by simp) (λi o ho=>by cases ho) (λh=>by cases h) (λi o ho=>by cases ho) (by simp) ⟨g1.symm,g2⟩ b hb
  (λr O'=>if h:∃z,(R r z/\r.only0=true)/\O'=famF z then famU 0 h.choose.length else []) (λr O' hR=>by
   rw[dif_pos hR];obtain ⟨⟨_,q1⟩,q2⟩:=hR.choose_spec;refine ⟨λi o ho=>?_,inN_mono (λi hi=>famU_mem.2 (by omega)) _ (only0_in _ q1)⟩;have ho2:famF hR.choose i=some o:=by rw[<- q2];exact ho
   exact famF_closed ho2)
 refine .sem _ key λu O U hX=>?_;obtain ⟨r,O',hR,rfl,rfl,rfl⟩:=hX;rw[dif_pos hR];obtain ⟨⟨q0,q1⟩,q2⟩:=hR.choose_spec;generalize hR.choose=z at q0 q2;have e1:nmD false (id 0) b=λi=>b+i:=by funext i;simp[nmD]
 have e2:depO false (id 0) b (List.map id []) O' st.objs=famO b z st.objs:=by
  funext n
  simp only[depO,Bool.false_eq_true,false_and,if_false,List.map_nil,List.not_mem_nil,e1,famO];split
  ·rename_i hn;rw[q2,famF_rn,show b+(n-b)=n by omega]
  ·rfl
 have e3:List.map (λi=>b+i) (famU 0 z.length)=famU b z.length:=by simp[famU]
 have:=k r z q0;simp only[St.to,St.put,e1,e2,e3];exact this
theorem fam_eobs {st:St} {m:List (Nat×Option Nat)} {b:Nat} {ν:Nat->Nat} {z:List It} (h:∀i (h:i<z.length),nms m (b+(i+1))=some (some (ν i))/\st.objs (ν i)=some (ro3 z[i].row)):eobs st m (famL b z):=by
 have key:∀(l:List It) (k:Nat),(∀i (h:i<l.length),nms m (b+(k+i+1))=some (some (ν (k+i)))/\st.objs (ν (k+i))=some (ro3 l[i].row))->eobs st m ((l.zipIdx k).map λp=>(b+(p.2+1),ro3 p.1.row)):=by
  intro l
  induction l with
  | nil=>intro _ _;trivial
  | cons t r ih=>
    intro k hk;simp only[List.zipIdx_cons,List.map_cons];refine ⟨?_,ih (k+1) λi hi=>?_⟩
    ·obtain ⟨h1,h2⟩:=hk 0 (by simp);have h1:nms m (b+(k+1))=some (some (ν k)):=h1;have h2:st.objs (ν k)=some (ro3 t.row):=h2;rw[h1];exact ⟨_,h2,rfl,.same (ro3 t.row) _ _ (ro3_leafy _) rfl⟩
    ·have:=hk (i+1) (by simp;omega);have e:k+(i+1)=k+1+i:=(by omega);rw[e] at this;simpa using this
 refine key z 0 λi hi=>?_;simpa using h i hi
theorem fam_es {st:St} {m:List (Nat×Option Nat)} {b:Nat} {ν:Nat->Nat} {z:List It} {es:List (List AV)} (hes:es=z.zipIdx.map λp=>[.rf (ν p.2) 0 p.1.row.length,iA p.1.w]) (h:∀i,i<z.length->nms m (b+(i+1))=some (some (ν i))):Es st m es (famC b z):=by
 subst hes;refine Es_all (by simp[famC_len]) λi q1 q2=>?_;have hi:i<z.length:=by simpa using q1
 rw[famC_get hi];simp only[List.getElem_map,List.getElem_zipIdx,Nat.zero_add,wk.wks,wk,h i hi,iA];simp
theorem FINfam {T:Nat->Go.Vc.TI} {l:List ResultVar} {K:AV->(Nat->Option Ob)->Prop} {st:St} (a:Nat) (ν:Nat->Nat) (z:List It) (rl:List (Nat×AV)) {es:List (List AV)} (h1:(a::(List.range z.length).map ν).Nodup) (ha:st.objs a=some ⟨2,es⟩)
 (hes:es=z.zipIdx.map λp=>[.rf (ν p.2) 0 p.1.row.length,iA p.1.w]) (hrow:∀i (h:i<z.length),st.objs (ν i)=some (ro3 z[i].row)) (hr:ents st ((0,some a)::famM 0 z.length ν) rl)
 (k:hRes T (mkS rl (famS 0 z) (0::famN 0 z.length)) l λv=>K v (famF z)):FIN T noOb l K st:=by
 have hn:∀i,i<z.length->nms ((0,some a)::famM 0 z.length ν) (0+(i+1))=some (some (ν i)):=λi hi=>by simp only[nms];rw[if_neg (by omega)];exact famM_nms hi
 refine FINmk ((0,some a)::famM 0 z.length ν) rl (famS 0 z) (0::famN 0 z.length) ?_ ⟨hr,?_,fam_eobs λi hi=>⟨hn i hi,hrow i hi⟩⟩ k
 ·simp only[Bool.and_eq_true,decide_eq_true_eq,List.all_eq_true,olds,famM_olds];refine ⟨h1,λx hx=>?_⟩;rcases List.mem_cons.1 hx with rfl|hx
  ·simp
  ·obtain ⟨i,hi,rfl⟩:=List.mem_map.1 hx;simp only[List.contains_eq_mem,decide_eq_true_eq];exact List.mem_cons_of_mem _ (famN_mem.2 ⟨i,List.mem_range.1 hi,rfl⟩)
 ·simp only[nms,if_pos,eob];exact ⟨_,ha,rfl,fam_es hes hn⟩
theorem fam_nmOk {m1:List (Nat×Option Nat)} {u1:List Nat} {b n:Nat} {ν:Nat->Nat} (h:nmOk m1 u1=true) (hnd:(olds m1++(List.range n).map ν).Nodup):nmOk (m1++famM b n ν) (u1++famN b n)=true:=by
 simp only[nmOk,Bool.and_eq_true,decide_eq_true_eq,List.all_eq_true,List.contains_eq_mem] at h ⊢;refine ⟨⟨by rw[olds_append,famM_olds];exact hnd,λx hx=>?_⟩,?_⟩
 ·rcases List.mem_append.1 hx with hx|hx
  ·exact List.mem_append_left _ (h.1.2 x hx)
  ·obtain ⟨i,hi,rfl⟩:=List.mem_map.1 hx;exact List.mem_append_right _ (famN_mem.2 ⟨i,List.mem_range.1 hi,rfl⟩)
 ·have h2:=h.2;rw[nms_append];cases hm:nms m1 0 with
  | none=>simp only[famM_none (Or.inl (Nat.zero_le b))]
  | some y=>rw[hm] at h2;exact h2
theorem fam_nd {b n:Nat} {l:List Nat} (hl:l.Nodup) (h:∀x∈l,x<=b):(l++(List.range n).map λi=>b+(i+1)).Nodup:=by
 rw[List.nodup_append];refine ⟨hl,?_,λx hx y hy e=>?_⟩
 ·rw[List.Nodup,List.pairwise_map];exact List.nodup_range.imp λ{a c} hne e=>hne (by omega)
 ·obtain ⟨i,_,rfl⟩:=List.mem_map.1 hy;have:=h x hx;omega
def nuX (b n x i:Nat):Nat:=if i<n then b+(i+1) else x
theorem fam_nd2 {b n x:Nat} {l:List Nat} (hl:(x::l).Nodup) (h:∀y∈x::l,y<=b):(l++(List.range (n+1)).map (nuX b n x)).Nodup:=by
 have e:(List.range (n+1)).map (nuX b n x)=((List.range n).map λi=>b+(i+1))++[x]:=by
  rw[List.range_succ,List.map_append];congr 1
  ·refine List.map_congr_left λi hi=>?_;simp[nuX,List.mem_range.1 hi]
  ·simp[nuX]
 have h1:=fam_nd (n:=n) (List.nodup_cons.1 hl).2 λy hy=>h y (by simp[hy]);rw[e,<- List.append_assoc,List.nodup_append];refine ⟨h1,by simp,λy hy z hz e2=>?_⟩;simp only[List.mem_singleton] at hz;subst hz;subst e2;rcases List.mem_append.1 hy with hy|hy
 ·exact (List.nodup_cons.1 hl).1 hy
 ·obtain ⟨i,_,e⟩:=List.mem_map.1 hy;have:=h y (by simp);omega
@[go_sem] theorem famN_lo {b n x:Nat} (h:(x<=b)=True):(x∈famN b n)=False:=by
  simp only[famN_mem,eq_iff_iff,iff_false];rintro ⟨i,_,rfl⟩;have:b+(i+1)<=b:=by rw[h];trivial
  omega
@[go_sem] theorem upd_fam {α:Type} {b i k:Nat} {f:Nat->α} {v:α} (h:(k<=b)=True):upd f k v (b+(i+1))=f (b+(i+1)):=by
  have:k<=b:=by rw[h];trivial
  exact upd_ne' _ _ (by omega)
theorem fam_nms {m1:List (Nat×Option Nat)} {b n:Nat} {ν:Nat->Nat} {i:Nat} (h1:∀x∈m1,x.1<=b) (hi:i<n):nms (m1++famM b n ν) (b+(i+1))=some (some (ν i)):=by
 rw[nms_append];have:nms m1 (b+(i+1))=none:=by
  cases h:nms m1 (b+(i+1)) with
  | none=>rfl
  | some y=>have:=h1 _ (nms_mem h);simp only at this;omega
 rw[this];exact famM_nms hi
theorem nuX_lt {b n x i:Nat} (h:i<n):nuX b n x i=b+(i+1):=if_pos h
theorem nuX_n {b n x:Nat}:nuX b n x n=x:=if_neg (Nat.lt_irrefl n)
theorem fam_ext {b x:Nat} {z:List It} {t:It}:famC b z++[[.rf x 0 t.row.length,iA t.w]]=(z++[t]).zipIdx.map λp=>[.rf (nuX b z.length x p.2) 0 p.1.row.length,iA p.1.w]:=by
 rw[List.zipIdx_append,List.map_append,famC];congr 1
 ·refine List.map_congr_left λp hp=>?_;rw[nuX_lt (zip_mem hp).1]
 ·simp[nuX_n]
theorem fam_rows {st:St} {b x:Nat} {z:List It} {t:It} (h:∀i (h:i<z.length),st.objs (b+(i+1))=some (ro3 z[i].row)) (hx:st.objs x=some (ro3 t.row)):∀i (h:i<(z++[t]).length),st.objs (nuX b z.length x i)=some (ro3 (z++[t])[i].row):=λi hi=>by
 by_cases e:i<z.length
 ·rw[nuX_lt e,List.getElem_append_left e];exact h i e
 ·have:i=z.length:=by simp at hi;omega
  subst this;rw[nuX_n];simpa using hx
end Yt
namespace Yt
open Go Go.Vc Go.Proofs
theorem f76 (z:List It) (hl:z.length<=268435456) (hr:∀t∈z,t.row.length<1073741824) :
 SpecF Tryz.prog 82 [setA z] (λr out=>∃err:Int,r=.tu [.rf 0 0 out.length,iA err]/\MakeR z out err):=by
 refine funspecD_of_vc tabOk elems ord82 Tryz.func82 rfl (rl:=[.tmp 2,.tmp 3]) rfl (by kernel_rfl) rfl (λ_ h=>absurd rfl h) ?_;refine Af ?_;refine .pure _ (s34 z (λt ht=>by have:=hr t ht;omega) (by omega)) rfl λr hr' _=>?_;subst hr';refine Ad ?_;refine VIF.split (λh=>?_) (λhbad=>?_)
 ·refine Aa ?_;refine FINmk [(0,none)] [(2,.rf 0 0 0),(3,iA 1)] [(0,so [])] [0] rfl ?_ ?_
  ·refine Ab ?_;simp[so]
  ·exact ⟨[],⟨⟨1,rfl,.inl ⟨h,rfl,rfl⟩⟩,rfl⟩,rfl⟩
 ·refine Aa ?_;refine .make 13 _ (s38 z (by omega)) rfl (by simp) rfl λr o hro _=>?_;obtain ⟨rfl,rfl⟩:=hro;refine Aa ?_;refine .obj 13 (so z) _ [.rf 0 0 z.length,.fn 138 []] (s39 138 cI cmp_cI (λt=>t.row.length<4611686018427387904) (λx y hx _=>s40 x y hx) z (λt ht=>by have:=hr t ht;omega) (by omega)) rfl (so_leafy z) rfl rfl λr o' hro _ _=>?_;obtain ⟨rfl,y,rfl,hw,hs⟩:=hro;have hlen:=hw.len;have hry:∀t∈y,t.row.length<1073741824:=λt ht=>hr t (hw.perm.mem_iff.1 ht);have hok:∀t∈y,okI t=true:=λt ht=>by
   have h1:∀u∈z,okI u=true:=(by simpa using hbad);exact h1 t (hw.perm.mem_iff.1 ht)
  have hs:SR cI y 0 y.length:=by rw[hlen];exact hs
  rw[<- hlen];refine Aa ?_
  refine LOOP.mk (ι:={p:Nat×List It//GI y p.1 p.2/\p.2.length<=p.1}) (λp=>mkS [(4,.rf 1000 p.1.1 (y.length-p.1.1)),(5,.rf 1001 0 p.1.2.length)] ([(1000,so y),(1001,⟨2,famC 2000 p.1.2⟩)]++famL 2000 p.1.2) ([1000,1001]++famN 2000 p.1.2.length))
   (λp=>y.length-p.1.1) ⟨(0,[]),.start y,Nat.le_refl _⟩ [(1000,some 13),(1001,none)] rfl rfl ?_ (λp=>?_)
  ·refine Bu ?_;exact ⟨id,.same (so y) _ _ (so_leafy y) rfl,rfl,trivial⟩
  ·obtain ⟨⟨off,out⟩,g,hol⟩:=p;have hle:=g.le;simp only at hle hol;refine Bu ?_;refine VIF.split (λh1=>?_) (λh1=>?_)
   ·have h0:off<y.length:=by simp at h1;omega
    refine Aa ?_
    refine LOOP.join (ι:={q:Nat×Int×Int//TI y off q.1 q.2.1 q.2.2/\Run y off (off+q.1)})
     (λq=>mkS [(4,.rf 1000 off (y.length-off)),(5,.rf 1001 0 out.length),(6,iA q.1.1),(7,.pt 1002 0 0)] ([(1000,so y),(1001,⟨2,famC 2000 out⟩),(1002,to2 q.1.2.1 q.1.2.2)]++famL 2000 out) ([1000,1001,1002]++famN 2000 out.length)) ?_ (λq=>?_)
    ·refine LOOP.mk (ι:={q:Nat×Int×Int//TI y off q.1 q.2.1 q.2.2})
      (λq=>mkS [(4,.rf 1000 off (y.length-off)),(5,.rf 1001 0 out.length),(6,iA q.1.1),(7,.pt 1002 0 0)] ([(1000,so y),(1001,⟨2,famC 2000 out⟩),(1002,to2 q.1.2.1 q.1.2.2)]++famL 2000 out) ([1000,1001,1002]++famN 2000 out.length))
      (λq=>y.length-off-q.1.1) ⟨(0,0,0),.start hle⟩ ([(1000,some 1000),(1001,some 1001),(1002,some 7)]++famM 2000 out.length λi=>2000+(i+1)) rfl (fam_nmOk rfl (fam_nd (by decide) (by decide))) ?_ (λq=>?_)
     ·refine Bx ?_;exact ⟨id,rfl,.same (so y) _ _ (so_leafy y) rfl,fam_es (ν:=λi=>2000+(i+1)) rfl (λi hi=>fam_nms (m1:=[(1000,some 1000),(1001,some 1001),(1002,some 7)]) (by simp) hi),.same (to2 0 0) _ _ (to2_leafy 0 0) rfl,fam_eobs (ν:=λi=>2000+(i+1)) λi hi=>⟨fam_nms (m1:=[(1000,some 1000),(1001,some 1001),(1002,some 7)]) (by simp) hi,by (simp -implicitDefEqProofs only[go_sem];repeat (refine GO ?_;simp -implicitDefEqProofs only[go_sem]));exact famL_get hi⟩⟩
     ·obtain ⟨⟨i,h,l⟩,ti⟩:=q;simp only at ti;have til:=ti.le;refine Bx ?_;refine VIF.split (λh2=>?_) (λh2=>?_)
      ·have hi:off+i<y.length:=by simp at h2;omega
       refine Aa ?_;refine ⟨by omega,EL.map hi ?_⟩;refine Ar ?_;refine ⟨by omega,EL.map (show off+0<y.length by omega) ?_⟩;refine Ar ?_;refine .pure _ (s13 y[off+i].row y[off+Int.toNat 0].row (by have:=hry y[off+i] (List.getElem_mem hi);omega)) rfl λr hr _=>?_;subst hr;refine Aa ?_;refine VIF.split (λh3=>?_) (λh3=>?_)
       ·have h3:cI y[off+i] y[off]=0:=(by simpa [cI] using h3);refine Aa ?_;refine ⟨by omega,EL.map hi ?_⟩;refine Ar ?_;have hbb:i<=268435456:=(by omega);have hb1:=ti.hb;have hb2:=ti.lb;have hoi:=hok y[off+i] (List.getElem_mem hi);have hwi:okW y[off+i].w=true:=by
         simp only[okI,Bool.and_eq_true] at hoi;exact hoi.2
        have hwl:=okW_le hwi;refine .obj 1002 (to2 h l) _ [.pt 0 0 0,iA y[off+i].w] (s41 h l y[off+i].w (by omega) (by omega) (by omega)) rfl (to2_leafy h l) rfl rfl λr o' hr _ _=>?_;obtain ⟨rfl,rfl⟩:=hr;have w3:=wrap_add1 (show i<4611686018427387904 by omega);refine Bo ?_;refine BACK.mk ⟨(i+1,h+y[off+i].w / 268435456,l+y[off+i].w%268435456),ti.step hi (λ_=>h3) hwi⟩ ([(1000,some 1000),(1001,some 1001),(1002,some 1002)]++famM 2000 out.length λi=>2000+(i+1)) rfl (fam_nmOk rfl (fam_nd (by decide) (by decide))) (by show y.length-off-(i+1)<y.length-off-i;omega) ?_;refine F5 ?_;exact ⟨id,.same (so y) _ _ (so_leafy y) rfl,fam_es (ν:=λi=>2000+(i+1)) rfl (λi hi=>fam_nms (m1:=[(1000,some 1000),(1001,some 1001),(1002,some 1002)]) (by simp) hi),.same (to2 (h+y[off+i].w / 268435456) (l+y[off+i].w%268435456)) _ _ (to2_leafy (h+y[off+i].w / 268435456) (l+y[off+i].w%268435456)) rfl,fam_eobs (ν:=λi=>2000+(i+1)) λi hi=>⟨fam_nms (m1:=[(1000,some 1000),(1001,some 1001),(1002,some 1002)]) (by simp) hi,by (simp -implicitDefEqProofs only[go_sem];repeat (refine GO ?_;simp -implicitDefEqProofs only[go_sem]));exact famL_get hi⟩⟩
       ·have h3:cI y[off+i] y[off]≠0:=(by simpa [cI] using h3);refine Aa ?_;refine JB.mk ⟨(i,h,l),ti,ti.run h0 (λhi=>h3)⟩ ([(1000,some 1000),(1001,some 1001),(1002,some 1002)]++famM 2000 out.length λi=>2000+(i+1)) rfl (fam_nmOk rfl (fam_nd (by decide) (by decide))) ?_;refine Bx ?_;exact ⟨id,.same (so y) _ _ (so_leafy y) rfl,fam_es (ν:=λi=>2000+(i+1)) rfl (λi hi=>fam_nms (m1:=[(1000,some 1000),(1001,some 1001),(1002,some 1002)]) (by simp) hi),.same (to2 h l) _ _ (to2_leafy h l) rfl,fam_eobs (ν:=λi=>2000+(i+1)) λi hi=>⟨fam_nms (m1:=[(1000,some 1000),(1001,some 1001),(1002,some 1002)]) (by simp) hi,by (simp -implicitDefEqProofs only[go_sem];repeat (refine GO ?_;simp -implicitDefEqProofs only[go_sem]));exact famL_get hi⟩⟩
      ·have hi:off+i=y.length:=by simp at h2;omega
       refine Aa ?_;refine JB.mk ⟨(i,h,l),ti,ti.run h0 (λhi=>by omega)⟩ ([(1000,some 1000),(1001,some 1001),(1002,some 1002)]++famM 2000 out.length λi=>2000+(i+1)) rfl (fam_nmOk rfl (fam_nd (by decide) (by decide))) ?_;refine Bx ?_;exact ⟨id,.same (so y) _ _ (so_leafy y) rfl,fam_es (ν:=λi=>2000+(i+1)) rfl (λi hi=>fam_nms (m1:=[(1000,some 1000),(1001,some 1001),(1002,some 1002)]) (by simp) hi),.same (to2 h l) _ _ (to2_leafy h l) rfl,fam_eobs (ν:=λi=>2000+(i+1)) λi hi=>⟨fam_nms (m1:=[(1000,some 1000),(1001,some 1001),(1002,some 1002)]) (by simp) hi,by (simp -implicitDefEqProofs only[go_sem];repeat (refine GO ?_;simp -implicitDefEqProofs only[go_sem]));exact famL_get hi⟩⟩
    ·obtain ⟨⟨i,h,l⟩,ti,ru⟩:=q;simp only at ti ru;refine Bx ?_;have hbb:i<=268435456:=by have:=ti.le;omega
     have hb1:=ti.hb;have hb2:=ti.lb;refine .pure _ (s42 h l (by omega) (by omega)) rfl λr hr _=>?_;obtain ⟨v,rfl,hv⟩:=hr;refine A6 ?_;have hoff:off+i-off=i:=(by omega);have htot:=g.total hs ru h0;have hsum:=ti.sum;rw[hoff] at htot;refine VIF.split (λh3=>?_) (λh3=>?_)
     ·have h3:okW (h*268435456+l)=false:=(by simpa using h3);refine Aa ?_;refine FINmk [(0,none)] [(2,.rf 0 0 0),(3,iA 11)] [(0,so [])] [0] rfl ?_ ?_
      ·refine Ab ?_;simp[so]
      ·refine ⟨[],⟨⟨11,rfl,.inr (.inl ⟨hbad,rfl,rfl,y[off].row,?_⟩)⟩,rfl⟩,rfl⟩;rw[<- tot_perm hw.perm,htot,<- hsum];exact h3
     ·have h3:okW (h*268435456+l)=true:=(by simpa using h3);have hv:=hv h3;have gs:=g.step hs ru h0 (by rw[hoff,<- hsum];exact h3);rw[hoff,<- hsum,<- hv] at gs;have hle2:=ru.le;have hlt2:=ru.lt;refine Aa ?_;refine VIF.split (λh4=>?_) (λh4=>?_)
      ·have h4:v≠0:=(by simpa using h4);rw[if_neg h4] at gs;refine Aa ?_;refine ⟨by omega,EL.map (show off+0<y.length by omega) ?_⟩;refine Ar ?_;refine .make 61 _ (s43 y[off+Int.toNat 0].row (by have:=hry y[off] (List.getElem_mem h0);simp;omega)) rfl (by simp[famN_lo (b:=2000) (x:=61) (eq_true (by decide))]) rfl λr o hro _=>?_;obtain ⟨rfl,rfl⟩:=hro;refine Aa ?_;refine ⟨by omega,?_⟩;refine Aa ?_;refine ⟨by omega,?_⟩;refine BACK.mk ⟨(off+i,out++[⟨y[off].row,v⟩]),gs,by simp;omega⟩ ([(1000,some 1000),(1001,some 65)]++famM 2000 (out.length+1) (nuX 2000 out.length 61)) rfl (by rw[List.length_append];exact fam_nmOk rfl (fam_nd2 (by decide) (by decide))) (by show y.length-(off+i)<y.length-off;omega) ?_;refine Am ?_;have h0':y[off+Int.toNat 0]=y[off]:=rfl;refine ⟨id,⟨by omega,by simp⟩,.same (so y) _ _ (so_leafy y) rfl,?_,?_⟩
       ·rw[show List.take out.length (famC 2000 out)=famC 2000 out from List.take_of_length_le (by simp[famC_len])];exact fam_es (ν:=nuX 2000 out.length 61) (fam_ext (t:=⟨y[off].row,v⟩)) λi hi=>fam_nms (m1:=[(1000,some 1000),(1001,some 65)]) (by simp) (by simpa using hi)
       ·exact fam_eobs (ν:=nuX 2000 out.length 61) λi hi=>⟨fam_nms (m1:=[(1000,some 1000),(1001,some 65)]) (by simp) (by simpa using hi),fam_rows (t:=⟨y[off].row,v⟩) (λi hi=>by (simp -implicitDefEqProofs only[go_sem];repeat (refine GO ?_;simp -implicitDefEqProofs only[go_sem]));exact famL_get hi) rfl i hi⟩
      ·have h4:v=0:=(by simpa using h4);rw[if_pos h4] at gs;refine Aa ?_;refine ⟨by omega,?_⟩;refine BACK.mk ⟨(off+i,out),gs,by show out.length<=off+i;omega⟩ ([(1000,some 1000),(1001,some 1001)]++famM 2000 out.length λi=>2000+(i+1)) rfl (fam_nmOk rfl (fam_nd (by decide) (by decide))) (by show y.length-(off+i)<y.length-off;omega) ?_;refine Am ?_;exact ⟨id,by omega,.same (so y) _ _ (so_leafy y) rfl,fam_es (ν:=λi=>2000+(i+1)) rfl (λi hi=>fam_nms (m1:=[(1000,some 1000),(1001,some 1001)]) (by simp) hi),fam_eobs (ν:=λi=>2000+(i+1)) λi hi=>⟨fam_nms (m1:=[(1000,some 1000),(1001,some 1001)]) (by simp) hi,by (simp -implicitDefEqProofs only[go_sem];repeat (refine GO ?_;simp -implicitDefEqProofs only[go_sem]));exact famL_get hi⟩⟩
   ·have h0:off=y.length:=by simp at h1;omega
    refine Aa ?_;subst h0;have hgt:=g.tot;rw[List.take_length] at hgt;refine FINfam 1001 (λi=>2000+(i+1)) out [(2,.rf 0 0 out.length),(3,iA 0)] (es:=famC 2000 out) (fam_nd (l:=[1001]) (by decide) (by decide)) Ag rfl (λi hi=>by (simp -implicitDefEqProofs only[go_sem];repeat (refine GO ?_;simp -implicitDefEqProofs only[go_sem]));exact famL_get hi) ?_ ?_
    ·exact A8
    ·refine ⟨out,⟨⟨0,rfl,.inr (.inr ⟨hbad,rfl,g.made,λr=>(hgt r).trans (tot_perm hw.perm),λt ht=>?_,by omega⟩)⟩,rfl⟩,rfl⟩;obtain ⟨u,hu,e⟩:=g.src t ht;have:=hok u hu;refine ⟨?_,u,hw.perm.mem_iff.1 hu,e⟩;rw[<- e];simp[okI] at this;exact this.1
def zc:List AV:=[.nl,iA 0]
def famT (b:Nat) (z:List It) (tl:Nat):List (Nat×Ob):=(b,⟨2,famC b z++List.replicate tl zc⟩)::famL b z
def famG (z:List It) (tl:Nat):Nat->Option Ob:=mkO (famT 0 z tl)
theorem famT_0 (b:Nat) (z:List It) (tl:Nat):mkO (famT b z tl) b=some ⟨2,famC b z++List.replicate tl zc⟩:=by simp[famT,mkO,upd]
theorem famT_row {b:Nat} {z:List It} {tl i:Nat} (h:i<z.length):mkO (famT b z tl) (b+(i+1))=some (ro3 z[i].row):=by simp only[famT,mkO,upd];rw[if_neg (by omega)];exact famL_get h
theorem famT_none {b:Nat} {z:List It} {tl x:Nat} (h:x<b\/b+z.length<x):mkO (famT b z tl) x=none:=by simp only[famT,mkO,upd];rw[if_neg (by omega)];exact famL_none (by omega)
theorem famT_cases {b:Nat} {z:List It} {tl x:Nat} {o:Ob} (h:mkO (famT b z tl) x=some o):(x=b/\o=⟨2,famC b z++List.replicate tl zc⟩)\/∃i,∃hi:i<z.length,x=b+(i+1)/\o=ro3 z[i].row:=by
 by_cases e:x=b
 ·subst e;rw[famT_0] at h;cases h;exact .inl ⟨rfl,rfl⟩
 ·by_cases e2:x<b\/b+z.length<x
  ·rw[famT_none e2] at h;cases h
  ·obtain ⟨i,rfl⟩:∃i,x=b+(i+1):=⟨x-b-1,by omega⟩;have hi:i<z.length:=(by omega);rw[famT_row hi] at h;cases h;exact .inr ⟨i,hi,rfl,rfl⟩
theorem zc_rn (ρ:Nat->Nat):rns ρ zc=zc:=rfl
theorem famT_rn (b:Nat) (z:List It) (tl n:Nat):(famG z tl n).map (Ob.rn λi=>b+i)=mkO (famT b z tl) (b+n):=by
 cases hn:famG z tl n with
 | none=>
   have:¬n<=z.length:=λh=>by
    cases n with
    | zero=>rw[famG,famT_0] at hn;cases hn
    | succ i=>
      have:=famT_row (b:=0) (z:=z) (tl:=tl) (i:=i) (by omega);rw[Nat.zero_add] at this;rw[famG,this] at hn;cases hn
   rw[famT_none (by omega)];rfl
 | some o=>
   rcases famT_cases hn with ⟨rfl,rfl⟩|⟨i,hi,rfl,rfl⟩
   ·rw[Nat.add_zero,famT_0];simp only[Option.map_some,Ob.rn,List.map_append,List.map_replicate,zc_rn];rw[famC_rn _ b z λi _=>rfl]
   ·rw[Nat.zero_add,famT_row hi,Option.map_some,ro3_rn]
theorem famG_closed {z:List It} {tl i:Nat} {o:Ob} (h:famG z tl i=some o):i∈famU 0 z.length/\∀x∈o.es,inNs (·∈famU 0 z.length) x:=by
 rcases famT_cases h with ⟨rfl,rfl⟩|⟨i,hi,rfl,rfl⟩
 ·refine ⟨famU_mem.2 (by omega),λx hx=>?_⟩;rcases List.mem_append.1 hx with hx|hx
  ·obtain ⟨j,hj,rfl⟩:=List.mem_iff_getElem.1 hx;have hj':j<z.length:=(by simpa [famC_len] using hj);rw[famC_get hj'];exact ⟨famU_mem.2 (by omega),trivial,trivial⟩
  ·rw[(List.mem_replicate.1 hx).2];exact ⟨trivial,trivial,trivial⟩
 ·refine ⟨famU_mem.2 (by omega),λx hx=>?_⟩;obtain ⟨v,_,rfl⟩:=List.mem_map.1 hx;exact ⟨trivial,trivial,trivial,trivial⟩
def famI (z:List It) (tl:Nat):Nat->Option Ob:=mkO ([(1000,⟨2,famC 2000 z++List.replicate tl zc⟩)]++famL 2000 z)
def famW (n:Nat):List Nat:=[1000]++famN 2000 n
theorem famI_cases {z:List It} {tl x:Nat} {o:Ob} (h:famI z tl x=some o):(x=1000/\o=⟨2,famC 2000 z++List.replicate tl zc⟩)\/∃i,∃hi:i<z.length,x=2000+(i+1)/\o=ro3 z[i].row:=by
 simp only[famI,List.singleton_append,mkO,upd] at h;split at h
 ·rename_i e;cases h;first|exact .inl ⟨e,rfl⟩|exact .inl ⟨e.symm,rfl⟩
 ·by_cases e2:x<=2000\/2000+z.length<x
  ·rw[famL_none e2] at h;cases h
  ·obtain ⟨i,rfl⟩:∃i,x=2000+(i+1):=⟨x-2000-1,by omega⟩;have hi:i<z.length:=(by omega);rw[famL_get hi] at h;cases h;exact .inr ⟨i,hi,rfl,rfl⟩
theorem famW_mem {n x:Nat}:x∈famW n ↔ x=1000\/∃i,i<n/\x=2000+(i+1):=by simp only[famW,List.mem_append,List.mem_singleton,famN_mem]
theorem famI_closed {z:List It} {tl i:Nat} {o:Ob} (h:famI z tl i=some o):i∈famW z.length/\∀x∈o.es,inNs (·∈famW z.length) x:=by
 rcases famI_cases h with ⟨rfl,rfl⟩|⟨i,hi,rfl,rfl⟩
 ·refine ⟨famW_mem.2 (.inl rfl),λx hx=>?_⟩;rcases List.mem_append.1 hx with hx|hx
  ·obtain ⟨j,hj,rfl⟩:=List.mem_iff_getElem.1 hx;have hj':j<z.length:=(by simpa [famC_len] using hj);rw[famC_get hj'];exact ⟨famW_mem.2 (.inr ⟨j,hj',rfl⟩),trivial,trivial⟩
  ·rw[(List.mem_replicate.1 hx).2];exact ⟨trivial,trivial,trivial⟩
 ·refine ⟨famW_mem.2 (.inr ⟨i,hi,rfl⟩),λx hx=>?_⟩;obtain ⟨v,_,rfl⟩:=List.mem_map.1 hx;exact ⟨trivial,trivial,trivial,trivial⟩
def rhoF (a:Nat) (ν:Nat->Nat) (x:Nat):Nat:=if x=1000 then a else ν (x-2001)
theorem rhoF_0 {a:Nat} {ν:Nat->Nat}:rhoF a ν 1000=a:=rfl
theorem rhoF_row {a:Nat} {ν:Nat->Nat} {i:Nat}:rhoF a ν (2000+(i+1))=ν i:=by rw[rhoF,if_neg (by omega)];congr 1;omega
def cellsN (ν:Nat->Nat) (z:List It):List (List AV):=z.zipIdx.map λp=>[.rf (ν p.2) 0 p.1.row.length,iA p.1.w]
theorem famC_cells (b:Nat) (z:List It):famC b z=cellsN (λi=>b+(i+1)) z:=rfl
theorem cellsN_len (ν:Nat->Nat) (z:List It):(cellsN ν z).length=z.length:=by simp[cellsN]
theorem famC_rho (a:Nat) (ν:Nat->Nat) (z:List It):(famC 2000 z).map (rns (rhoF a ν))=cellsN ν z:=by
 refine List.ext_getElem (by simp[famC_len,cellsN_len]) λi q1 q2=>?_;have hi:i<z.length:=by simpa [famC_len] using q1
 rw[List.getElem_map,famC_get hi];simp only[rns,AV.rn,cellsN,List.getElem_map,List.getElem_zipIdx,rhoF_row,Nat.zero_add];rfl
def famP (b:Nat) (z:List It) (tl:Nat) (objs:Nat->Option Ob) (n:Nat):Option Ob:=if b<=n then mkO (famT b z tl) n else objs n
@[go_sem] theorem famP_0 {b:Nat} {z:List It} {tl:Nat} {objs:Nat->Option Ob}:famP b z tl objs b=some ⟨2,famC b z++List.replicate tl zc⟩:=by simp[famP,famT_0]
theorem famP_row {b:Nat} {z:List It} {tl:Nat} {objs:Nat->Option Ob} {i:Nat} (h:i<z.length):famP b z tl objs (b+(i+1))=some (ro3 z[i].row):=by rw[famP,if_pos (by omega),famT_row h]
theorem CALL.fam2 {P:Program} {f:Nat} {args args':List AV} {st:St} {x:Nat} {K:St->Prop} {R:AV->List It->Nat->Prop} {z:List It} {tl:Nat}
 (h:FunSpecD P f args' noOb (famI z tl) (famW z.length) λr O'=>∃z' tl',(R r z' tl'/\r.only0=true)/\O'=famG z' tl') (a:Nat) (ν:Nat->Nat)
 (hnd:(a::(List.range z.length).map ν).Nodup) {es:List (List AV)} (ha:st.objs a=some ⟨2,es⟩) (hes:es=cellsN ν z++List.replicate tl zc) (hrow:∀i (h:i<z.length),st.objs (ν i)=some (ro3 z[i].row))
 (hu:a∈st.used/\∀i<z.length,ν i∈st.used) (hargs:args=rns (rhoF a ν) args'/\inNs (·∈famW z.length) args') (b:Nat) (hb:∀n∈st.used,n<b)
 (k:∀r z' tl' O,R r z' tl'->K {regs:=upd st.regs x (r.rn λi=>b+i),objs:=famP b z' tl' O,used:=famU b z'.length++st.used}):CALL P f args st (some x) K:=by
 subst hes;have h':FunSpecD P f args' (kept false (famI z tl)) (famI z tl) (famW z.length) λr O'=>∃z' tl',(R r z' tl'/\r.only0=true)/\O'=famG z' tl':=by rw[kept_false];exact h
 have inj:∀i∈famW z.length,∀j∈famW z.length,rhoF a ν i=rhoF a ν j->i=j:=λi hi j hj e=>by
  rw[famW_mem] at hi hj;rw[List.nodup_cons] at hnd;have hν:∀i j,i<z.length->j<z.length->ν i=ν j->i=j:=λi j hi hj e=>by
   have:=hnd.2;rw[List.Nodup,List.pairwise_map] at this;rcases Nat.lt_trichotomy i j with h|h|h
   ·have:=List.pairwise_iff_getElem.1 this i j (by simpa using hi) (by simpa using hj) h;simp only[List.getElem_range] at this;exact absurd e this
   ·exact h
   ·have:=List.pairwise_iff_getElem.1 this j i (by simpa using hj) (by simpa using hi) h;simp only[List.getElem_range] at this;exact absurd e.symm this
  have hn:∀i,i<z.length->ν i≠a:=λi hi e=>hnd.1 (e▸List.mem_map_of_mem (List.mem_range.2 hi));rcases hi with rfl|⟨i,hi,rfl⟩<;>rcases hj with rfl|⟨j,hj,rfl⟩
  ·rfl
  ·rw[rhoF_0,rhoF_row] at e;exact absurd e.symm (hn j hj)
  ·rw[rhoF_0,rhoF_row] at e;exact absurd e (hn i hi)
  ·rw[rhoF_row,rhoF_row] at e;rw[hν i j hi hj e]
 classical
 have key:=dep_sem (objs:=st.objs) (used:=st.used) (args:=args) h' (rhoF a ν) inj (λi o ho=>famI_closed ho) (λh=>by cases h)
  (λi o ho=>by
   rcases famI_cases ho with ⟨rfl,rfl⟩|⟨i,hi,rfl,rfl⟩
   ·rw[rhoF_0,ha,Ob.rn];simp only[List.map_append,List.map_replicate,zc_rn,famC_rho]
   ·rw[rhoF_row,ro3_rn];exact hrow i hi)
  (λi hi=>by
   rcases famW_mem.1 hi with rfl|⟨k,hk,rfl⟩
   ·exact hu.1
   ·rw[rhoF_row];exact hu.2 k hk) hargs b hb
  (λr O'=>if h:∃z' tl',(R r z' tl'/\r.only0=true)/\O'=famG z' tl' then famU 0 h.choose.length else []) (λr O' hR=>by
   rw[dif_pos hR];obtain ⟨tl',⟨_,q1⟩,q2⟩:=hR.choose_spec;refine ⟨λi o ho=>?_,inN_mono (λi hi=>famU_mem.2 (by omega)) _ (only0_in _ q1)⟩;have ho2:famG hR.choose tl' i=some o:=by rw[<- q2];exact ho
   exact famG_closed ho2)
 refine .sem _ key λu O U hX=>?_;obtain ⟨r,O',hR,rfl,rfl,rfl⟩:=hX;rw[dif_pos hR];obtain ⟨tl',⟨q0,q1⟩,q2⟩:=hR.choose_spec;generalize hR.choose=z' at q0 q2;have e1:nmD false (rhoF a ν 0) b=λi=>b+i:=by funext i;simp[nmD]
 have e2:∃O2,depO false (rhoF a ν 0) b (List.map (rhoF a ν) (famW z.length)) O' st.objs=famP b z' tl' O2:=by
  refine ⟨depO false (rhoF a ν 0) b (List.map (rhoF a ν) (famW z.length)) O' st.objs,?_⟩
  funext n
  simp only[famP];split
  ·rename_i hn;simp only[depO,Bool.false_eq_true,false_and,if_false,e1,if_pos hn];rw[q2,famT_rn,show b+(n-b)=n by omega]
  ·rfl
 obtain ⟨O2,e2⟩:=e2;have e3:List.map (λi=>b+i) (famU 0 z'.length)=famU b z'.length:=by simp[famU]
 have:=k r z' tl' O2 q0;simp only[St.to,St.put,e1,e2,e3];exact this
theorem zc_wks {st:St} {m:List (Nat×Option Nat)}:wk.wks st m zc zc:=by simp[zc,iA,wk.wks,wk]
theorem Es_rep {st:St} {m:List (Nat×Option Nat)} (tl:Nat):Es st m (List.replicate tl zc) (List.replicate tl zc):=by
 induction tl with
 | zero=>exact .nil
 | succ n ih=>exact .cons zc_wks ih
theorem FINfamT {T:Nat->Go.Vc.TI} {l:List ResultVar} {K:AV->(Nat->Option Ob)->Prop} {st:St} (a:Nat) (ν:Nat->Nat) (z:List It) (tl:Nat) (rl:List (Nat×AV)) {es:List (List AV)} (h1:(a::(List.range z.length).map ν).Nodup) (ha:st.objs a=some ⟨2,es⟩)
 (hes:es=cellsN ν z++List.replicate tl zc) (hrow:∀i (h:i<z.length),st.objs (ν i)=some (ro3 z[i].row)) (hr:ents st ((0,some a)::famM 0 z.length ν) rl)
 (k:hRes T (mkS rl (famT 0 z tl) (0::famN 0 z.length)) l λv=>K v (famG z tl)):FIN T noOb l K st:=by
 have hn:∀i,i<z.length->nms ((0,some a)::famM 0 z.length ν) (0+(i+1))=some (some (ν i)):=λi hi=>by simp only[nms];rw[if_neg (by omega)];exact famM_nms hi
 refine FINmk ((0,some a)::famM 0 z.length ν) rl (famT 0 z tl) (0::famN 0 z.length) ?_ ⟨hr,?_,fam_eobs λi hi=>⟨hn i hi,hrow i hi⟩⟩ k
 ·simp only[Bool.and_eq_true,decide_eq_true_eq,List.all_eq_true,olds,famM_olds];refine ⟨h1,λx hx=>?_⟩;rcases List.mem_cons.1 hx with rfl|hx
  ·simp
  ·obtain ⟨i,hi,rfl⟩:=List.mem_map.1 hx;simp only[List.contains_eq_mem,decide_eq_true_eq];exact List.mem_cons_of_mem _ (famN_mem.2 ⟨i,List.mem_range.1 hi,rfl⟩)
 ·simp only[nms,if_pos,eob];refine ⟨_,ha,rfl,?_⟩;subst hes;exact Es.app (fam_es rfl hn) (Es_rep tl)
def twC (b:Nat) (z:List It) (i:Nat):List (List AV):=famC b (z.take i)++(z.drop i).map It.c
theorem twC_get {b:Nat} {z:List It} {i:Nat} (h:i<z.length):(twC b z i)[i]?=some (It.c z[i]):=by rw[twC,List.getElem?_append_right (by simp[famC_len];omega)];simp[famC_len,Nat.min_eq_left (Nat.le_of_lt h),h]
theorem EL.tw {b:Nat} {z:List It} {i:Nat} {K:List AV->Prop} (h:i<z.length) (k:K (It.c z[i])):EL (twC b z i) i K:=⟨_,twC_get h,k⟩
theorem twC_set {b x:Nat} {z:List It} {i:Nat} (h:i<z.length):(twC b z i).set i [.rf x 0 z[i].row.length,iA z[i].w]=cellsN (nuX b i x) (z.take (i+1))++(z.drop (i+1)).map It.c:=by
 have hlen:(famC b (z.take i)).length=i:=by rw[famC_len,List.length_take];omega
 have htl:(z.take i).length=i:=by rw[List.length_take];omega
 rw[twC,List.set_append_right _ _ (by omega),hlen,Nat.sub_self,List.drop_eq_getElem_cons h,List.map_cons,List.set_cons_zero,List.take_succ_eq_append_getElem h];have:=fam_ext (b:=b) (x:=x) (z:=z.take i) (t:=z[i]);rw[htl] at this;rw[cellsN,<- this];simp
theorem map_c_wks {st:St} {m:List (Nat×Option Nat)} (z:List It):Es st m (z.map It.c) (z.map It.c):=Es_refl (so_leafy z)
theorem f83 (z:List It) (hl:z.length<=268435456) (hr:∀t∈z,t.row.length<1073741824):SpecF Tryz.prog 88 [setA z] (λr out=>r=.rf 0 0 out.length/\out=z):=by
 refine funspecD_of_vc tabOk elems ord88 Tryz.func88 rfl (rl:=[.tmp 2]) rfl (by kernel_rfl) rfl (λ_ h=>absurd rfl h) ?_;refine Af ?_;refine .make 6 _ (s38 z (by omega)) rfl (by simp) rfl λq o hq _=>?_;obtain ⟨rfl,rfl⟩:=hq;refine Aa ?_
 refine LOOP.mk (ι:={i:Nat//i<=z.length}) (λp=>mkS [(3,.rf 1000 0 z.length),(8,iA z.length),(9,iA p.1)] ([(1000,⟨2,twC 2000 z p.1⟩)]++famL 2000 (z.take p.1)) ([1000]++famN 2000 p.1))
  (λp=>z.length-p.1) ⟨0,Nat.zero_le _⟩ [(1000,some 6)] rfl rfl ?_ (λp=>?_)
 ·refine Am ?_;refine ⟨id,rfl,?_⟩;have e:twC 2000 z 0=z.map It.c:=(by simp[twC,famC]);rw[e];exact ⟨map_c_wks z,trivial⟩
 ·obtain ⟨i,hi⟩:=p;have htl:(z.take i).length=i:=by rw[List.length_take];omega
  refine Ab ?_;refine VIF.split (λh=>?_) (λh=>?_)
  ·have h:i<z.length:=(by simpa using h);have w1:=wrap_add1 (show i<4611686018427387904 by omega);refine Aa ?_;refine ⟨by omega,EL.tw h ?_⟩;refine Ar ?_;refine .make 19 _ (s43 z[i].row (by have:=hr _ (List.getElem_mem h);omega)) rfl (by simp[famN_lo (b:=2000) (x:=19) (eq_true (by decide))]) rfl λq o hq _=>?_;obtain ⟨rfl,rfl⟩:=hq;refine Ak ?_;refine ⟨by omega,EL.tw h ?_⟩;refine El ?_;refine BACK.mk ⟨i+1,by omega⟩ ([(1000,some 1000)]++famM 2000 (i+1) (nuX 2000 i 19)) rfl (fam_nmOk rfl (fam_nd2 (by decide) (by decide))) (by show z.length-(i+1)<z.length-i;omega) ?_;refine Ba ?_;have e1:(z.take i)++[z[i]]=z.take (i+1):=(List.take_succ_eq_append_getElem h).symm;have hset:=twC_set (b:=2000) (x:=19) h;simp only[iA] at hset;refine ⟨id,?_,?_⟩
   ·rw[hset,twC];refine Es.app ?_ (map_c_wks _);exact fam_es rfl λj hj=>fam_nms (m1:=[(1000,some 1000)]) (by simp) (by simp at hj;omega)
   ·rw[<- e1];refine fam_eobs (ν:=nuX 2000 i 19) λj hj=>⟨fam_nms (m1:=[(1000,some 1000)]) (by simp) (by simp at hj;omega),?_⟩;have hν:nuX 2000 i 19=nuX 2000 (z.take i).length 19:=(by rw[htl]);rw[hν];exact fam_rows (b:=2000) (x:=19) (z:=z.take i) (t:=z[i]) (λj hj=>by (simp -implicitDefEqProofs only[go_sem];repeat (refine GO ?_;simp -implicitDefEqProofs only[go_sem]));exact famL_get hj) rfl j hj
  ·have h:i=z.length:=by simp at h;omega
   subst h;refine Aa ?_;rw[List.take_length];refine FINfam 1000 (λi=>2000+(i+1)) z [(2,.rf 0 0 z.length)] (es:=famC 2000 z) (fam_nd (l:=[1000]) (by decide) (by decide)) (by refine Aa ?_;simp[twC]) rfl (λi hi=>by (simp -implicitDefEqProofs only[go_sem];repeat (refine GO ?_;simp -implicitDefEqProofs only[go_sem]));exact famL_get hi) ?_ ?_
   ·exact Ag
   ·exact ⟨z,⟨⟨rfl,rfl⟩,rfl⟩,rfl⟩
theorem f85 (z:List It) (tl:Nat) (hl:z.length<=268435456):FunSpecD Tryz.prog 91 [.rf 1000 0 z.length] noOb (famI z tl) (famW z.length) λr O'=>∃z' tl',((r=.rf 0 0 z'.length/\z'=z/\tl'=0)/\r.only0=true)/\O'=famG z' tl':=by
 refine funspecD_of_vc tabOk elems ord91 Tryz.func91 rfl (rl:=[.tmp 2]) rfl (by kernel_rfl) rfl (λ_ h=>absurd rfl h) ?_;(simp -implicitDefEqProofs only[go_sem,famI,famW];repeat (refine GO ?_;simp -implicitDefEqProofs only[go_sem,famI,famW]));refine ⟨⟨_,rfl⟩,λb hb=>?_⟩;refine VIF.split (λh=>?_) (λh=>?_)
 ·have hz:z=[]:=(by simpa using hb (by simpa using h));subst hz;refine Aa ?_;refine FINmk [(0,none)] [(2,.rf 0 0 0)] [(0,so [])] [0] rfl ?_ ?_
  ·refine Aa ?_;simp[so]
  ·refine ⟨[],0,⟨⟨rfl,rfl,rfl⟩,rfl⟩,?_⟩;rfl
 ·have ht:List.take z.length (famC 2000 z++List.replicate tl zc)=famC 2000 z:=by
   rw[List.take_append_of_le_length (by simp[famC_len]),List.take_of_length_le (by simp[famC_len])]
  (simp -implicitDefEqProofs only[go_sem,famC_len,ht];repeat (refine GO ?_;simp -implicitDefEqProofs only[go_sem,famC_len,ht]));refine ⟨by omega,?_⟩;refine FINfamT 7 (λi=>2000+(i+1)) z 0 [(2,.rf 0 0 z.length)] (es:=famC 2000 z) (fam_nd (l:=[7]) (by decide) (by decide)) Ag (by simp;rfl) (λi hi=>by (simp -implicitDefEqProofs only[go_sem];repeat (refine GO ?_;simp -implicitDefEqProofs only[go_sem]));exact famL_get hi) ?_ ?_
  ·exact Ag
  ·exact ⟨z,0,⟨⟨rfl,rfl,rfl⟩,rfl⟩,rfl⟩
structure Dg {α:Type} (p:α->Bool) (z y:List α) (i j:Nat):Prop where
 ij:i<j
 jn:j<=z.length
 len:y.length=z.length
 kept:y.take i=(z.take j).filter λt=>!p t
 rest:y.drop j=z.drop j
theorem Dg.keep {α:Type} {p:α->Bool} {z y:List α} {i j:Nat} (d:Dg p z y i j) (hj:j<z.length) (hp:p z[j]=false):Dg p z (y.set i z[j]) (i+1) (j+1):=by
 obtain ⟨h1,h2,h3,h4,h5⟩:=d;refine ⟨by omega,by omega,by simp[h3],?_,?_⟩
 ·rw[List.take_succ_eq_append_getElem (by simp;omega),List.take_succ_eq_append_getElem hj,List.filter_append,<- h4,List.take_set_of_le (Nat.le_refl _)];simp[hp]
 ·rw[List.drop_set_of_lt (by omega)];have:=congrArg (List.drop 1) h5;simpa [List.drop_drop,Nat.add_comm] using this
theorem Dg.drop {α:Type} {p:α->Bool} {z y:List α} {i j:Nat} (d:Dg p z y i j) (hj:j<z.length) (hp:p z[j]=true):Dg p z y i (j+1):=by
 obtain ⟨h1,h2,h3,h4,h5⟩:=d;refine ⟨by omega,by omega,h3,?_,?_⟩
 ·rw[List.take_succ_eq_append_getElem hj,List.filter_append,<- h4];simp[hp]
 ·have:=congrArg (List.drop 1) h5;simpa [List.drop_drop,Nat.add_comm] using this
theorem Dg.at {α:Type} {p:α->Bool} {z y:List α} {i j:Nat} (d:Dg p z y i j) (hj:j<z.length) (hy:j<y.length):y[j]=z[j]:=by
 have h:(y.drop j)[0]?=(z.drop j)[0]?:=by rw[d.rest]
 simp only[List.getElem?_drop,Nat.add_zero,List.getElem?_eq_getElem hj,List.getElem?_eq_getElem hy,Option.some.injEq] at h;exact h
theorem lent_fam {objs:Nat->Option Ob} {a:Nat} {ν:Nat->Nat} {z:List It} {tail:List (List AV)} {es:List (List AV)} (ha:objs a=some ⟨2,es⟩) (hes:es=cellsN ν z++tail) (hrow:∀i (h:i<z.length),objs (ν i)=some (ro3 z[i].row)):Lent objs (.rf a 0 z.length) (setA z):=by
 subst hes;refine .rf (es:=cellsN ν z) (es':=z.map It.c) ha ?_ (by simp[cellsN_len]) (λx hx=>by obtain ⟨t,_,rfl⟩:=List.mem_map.1 hx;rfl) (λi j a' h=>?_) λi j b b' h h'=>?_
 ·rw[List.drop_zero,List.take_append_of_le_length (by simp[cellsN_len]),List.take_of_length_le (by simp[cellsN_len])]
 ·exact leafy_get (so_leafy z) h
 ·have hi:i<z.length:=by
   rw[cellAt,List.getElem?_map] at h';cases hz:z[i]? with
   | none=>rw[hz] at h';cases h'
   | some t=>exact (List.getElem?_eq_some_iff.1 hz).1
  have hc:i<(cellsN ν z).length:=by rw[cellsN_len];exact hi
  have e1:(cellsN ν z)[i]?=some [.rf (ν i) 0 z[i].row.length,iA z[i].w]:=by rw[List.getElem?_eq_getElem hc];simp[cellsN]
  have e2:(z.map It.c)[i]?=some (It.c z[i]):=(by simp[hi]);simp only[cellAt,e1,e2,Option.bind_some,It.c] at h h'
  match j with
  | 0=>
    simp at h h';subst h;subst h';exact lent_leafy (o:=ro3 z[i].row) (hrow i hi) rfl (by simp) (ro3_leafy _) λx hx=>by obtain ⟨v,_,rfl⟩:=List.mem_map.1 hx;rfl
  | 1=>simp at h h';subst h;subst h';exact .same rfl
  | j+2=>simp at h
theorem lents_same {objs:Nat->Option Ob}:∀{l:List AV},noIds l=true->lents objs l l
 | [],_=>trivial
 | x::r,h=>by
   simp only[noIds,Bool.and_eq_true] at h;exact ⟨.same h.1,lents_same h.2⟩
theorem lent_it {objs:Nat->Option Ob} {a:Nat} {t:It} (h:objs a=some (ro3 t.row)):Lent objs (.ag [.rf a 0 t.row.length,iA t.w]) (.ag t.c):=by
 refine .ag rfl λj b b' h1 h2=>?_
 match j with
 | 0=>
   simp[It.c] at h1 h2;subst h1;subst h2;exact lent_leafy (o:=ro3 t.row) h rfl (by simp) (ro3_leafy _) λx hx=>by obtain ⟨v,_,rfl⟩:=List.mem_map.1 hx;rfl
 | 1=>simp[It.c] at h1 h2;subst h1;subst h2;exact .same rfl
 | j+2=>simp at h1
def zAt (z:List It) (i:Nat):It:=z.getD i ⟨[],0⟩
theorem zAt_get {z:List It} {i:Nat} (h:i<z.length):zAt z i=z[i]:=by simp[zAt,h]
def cf (z:List It) (i:Nat):List AV:=[.rf (2000+(i+1)) 0 (zAt z i).row.length,iA (zAt z i).w]
theorem famC_cf (z:List It):famC 2000 z=(List.range z.length).map (cf z):=by
 refine List.ext_getElem (by simp[famC_len]) λi q1 q2=>?_;have hi:i<z.length:=by simpa [famC_len] using q1
 rw[famC_get hi];simp[cf,zAt_get hi]
theorem zAt_filter (z:List It) (p:It->Bool):((List.range z.length).filter λi=>!p (zAt z i)).map (zAt z)=z.filter λt=>!p t:=by
 have h:(List.range z.length).map (zAt z)=z:=List.ext_getElem (by simp) λi q1 q2=>by simp[zAt_get q2]
 conv=>rhs;rw[<- h]
 rw[List.filter_map];rfl
theorem cf_cells {z:List It} {l:List Nat} (ν:Nat->Nat) (hν:∀k (h:k<l.length),ν k=2000+(l[k]+1)):l.map (cf z)=cellsN ν (l.map (zAt z)):=by
 refine List.ext_getElem (by simp[cellsN_len]) λi q1 q2=>?_;have hi:i<l.length:=by simpa using q1
 simp only[List.getElem_map,cellsN,List.getElem_zipIdx,Nat.zero_add,cf,hν i hi]
theorem cf_es {st:St} {m:List (Nat×Option Nat)} {n:Nat} {z:List It} {y:List Nat} (hm:∀i,i<n->nms m (2000+(i+1))=some (some (2000+(i+1)))) (hy:∀x∈y,x<n):Es st m (y.map (cf z)) (y.map (cf z)):=by
 induction y with
 | nil=>exact .nil
 | cons x r ih=>
   refine .cons ?_ (ih λu hu=>hy u (by simp[hu]));simp only[cf,wk.wks,wk,hm x (hy x (by simp)),iA];simp
theorem f82 (g:Nat) (caps:List AV) (hc:noIds caps=true) (p:It->Bool) (B:It->Prop) (hg:∀t:It,B t->Spec0 Tryz.prog g (.ag t.c::caps) (·=bA (p t))) (z:List It) (hB:∀t∈z,B t) (hl:z.length<=268435456) :
 FunSpecD Tryz.prog 87 [.rf 1000 0 z.length,.fn g caps] noOb (famI z 0) (famW z.length) λr O'=>∃z' tl',((r=.rf 0 0 z'.length/\z'=z.filter λt=>!p t)/\r.only0=true)/\O'=famG z' tl':=by
 refine funspecD_of_vc tabOk elems ord87 Tryz.func87 rfl (rl:=[.tmp 4]) rfl (by kernel_rfl) rfl (λ_ h=>absurd rfl h) ?_;refine E0 ?_;refine .lendR (args':=[setA z,.fn g caps]) (s47 g caps hc p B hg z hB (by omega)) ⟨lent_fam (es:=famC 2000 z) (ν:=λi=>2000+(i+1)) (tail:=[]) Ag (by simp[famC_cells]) (λi hi=>by (simp -implicitDefEqProofs only[go_sem];repeat (refine GO ?_;simp -implicitDefEqProofs only[go_sem]));exact famL_get hi),.same (by simpa [AV.noId] using hc),trivial⟩ (by rintro _ rfl;rfl) λq hq=>?_;subst hq;refine B7 ?_;refine VIF.split (λh=>?_) (λh=>?_)
 ·have hn:z.findIdx? p=none:=by
   cases hf:z.findIdx? p with
   | none=>rfl
   | some i=>rw[hf] at h;simp[idxI] at h
  rw[List.findIdx?_eq_none_iff] at hn;have hz:(z.filter λt=>!p t)=z:=List.filter_eq_self.2 λt ht=>by simp[hn t ht]
  refine Aa ?_;refine FINfamT 1000 (λi=>2000+(i+1)) z 0 [(4,.rf 0 0 z.length)] (es:=famC 2000 z) (fam_nd (l:=[1000]) (by decide) (by decide)) Ag (by simp;rfl) (λi hi=>by (simp -implicitDefEqProofs only[go_sem];repeat (refine GO ?_;simp -implicitDefEqProofs only[go_sem]));exact famL_get hi) ?_ ?_
  ·exact Ag
  ·exact ⟨z,0,⟨⟨rfl,hz.symm⟩,rfl⟩,rfl⟩
 ·obtain ⟨i,hf⟩:∃i,z.findIdx? p=some i:=by
   cases hf:z.findIdx? p with
   | none=>rw[hf] at h;simp[idxI] at h
   | some i=>exact ⟨i,rfl⟩
  rw[hf];rw[List.findIdx?_eq_some_iff_getElem] at hf;obtain ⟨hi,hp,hlt⟩:=hf;obtain ⟨pN,hpN⟩:∃pN:Nat->Bool,pN=λi=>p (zAt z i):=⟨_,rfl⟩;have hpz:∀j (h:j<z.length),pN j=p z[j]:=λj h=>by rw[hpN];simp only[zAt_get h]
  have start:Dg pN (List.range z.length) (List.range z.length) i (i+1):=by
   refine ⟨by omega,by simp;omega,rfl,?_,rfl⟩;rw[List.take_succ_eq_append_getElem (by simp;omega),List.filter_append];have:((List.range z.length).take i).filter (λt=>!pN t)=(List.range z.length).take i:=List.filter_eq_self.2 λt ht=>by obtain ⟨j,hj,rfl⟩:=List.mem_iff_getElem.1 ht;rw[List.length_take,List.length_range] at hj;rw[List.getElem_take,List.getElem_range,hpz j (by omega)];have:=hlt j (by omega);simp[this]
   rw[this];simp[hpz i hi,hp]
  have w0:=wrap_add1 (show i<4611686018427387904 by omega);refine Gw ?_
  refine LOOP.mk (ι:={q:Nat×Nat×List Nat//Dg pN (List.range z.length) q.2.2 q.1 q.2.1/\∀x∈q.2.2,x<z.length}) (λq=>mkS [(0,.rf 1000 0 z.length),(1,.fn g caps),(5,iA q.1.1),(6,iA q.1.2.1)] ([(1000,⟨2,q.1.2.2.map (cf z)⟩)]++famL 2000 z) ([1000]++famN 2000 z.length))
   (λq=>z.length-q.1.2.1) ⟨(i,i+1,List.range z.length),start,λx hx=>List.mem_range.1 hx⟩ ([(1000,some 1000)]++famM 2000 z.length λi=>2000+(i+1)) rfl (fam_nmOk rfl (fam_nd (by decide) (by decide))) ?_ (λq=>?_)
  ·refine Ab ?_;refine ⟨id,wks_noId caps hc,?_,fam_eobs (ν:=λi=>2000+(i+1)) λi hi=>⟨fam_nms (m1:=[(1000,some 1000)]) (by simp) hi,by (simp -implicitDefEqProofs only[go_sem];repeat (refine GO ?_;simp -implicitDefEqProofs only[go_sem]));exact famL_get hi⟩⟩;rw[famC_cf];exact cf_es (n:=z.length) (λi hi=>fam_nms (m1:=[(1000,some 1000)]) (by simp) hi) λx hx=>List.mem_range.1 hx
  ·obtain ⟨⟨i,j,y⟩,d,hyn⟩:=q;simp only at d hyn;have dl:=d.len;have dij:=d.ij;have djn:=d.jn;simp only[List.length_range] at dl djn;refine Ab ?_;refine VIF.split (λh1=>?_) (λh1=>?_)
   ·have h1:j<z.length:=(by simpa using h1);have hjy:j<y.length:=(by omega);have hat:=d.at (by simpa using h1) hjy;rw[List.getElem_range] at hat;have w1:=wrap_add1 (show j<4611686018427387904 by omega);have w2:=wrap_add1 (show i<4611686018427387904 by omega);refine Aa ?_;refine ⟨by omega,EL.map hjy ?_⟩;rw[hat];(simp -implicitDefEqProofs only[go_sem,cf,zAt_get h1];repeat (refine GO ?_;simp -implicitDefEqProofs only[go_sem,cf,zAt_get h1]));refine .lendR (args':=.ag z[j].c::caps) (hg z[j] (hB _ (List.getElem_mem h1))) ?_ (by rintro _ rfl;rfl) λq hq=>?_
    ·exact ⟨lent_it (t:=z[j]) (by refine Aa ?_;exact famL_get h1),lents_same hc⟩
    subst hq;refine Ad ?_;refine VIF.split (λh2=>?_) (λh2=>?_)
    ·have h2:p z[j]=false:=(by simpa using h2);have d2:=d.keep (by simpa using h1) (by rw[List.getElem_range,hpz j h1];exact h2);rw[List.getElem_range] at d2;have hiy:i<y.length:=(by omega);refine Aa ?_;refine ⟨by omega,EL.map hiy ?_⟩;(simp -implicitDefEqProofs only[go_sem,cf,w1,w2];repeat (refine GO ?_;simp -implicitDefEqProofs only[go_sem,cf,w1,w2]));refine BACK.mk ⟨(i+1,j+1,y.set i j),d2,λx hx=>?_⟩ ([(1000,some 1000)]++famM 2000 z.length λi=>2000+(i+1)) rfl (fam_nmOk rfl (fam_nd (by decide) (by decide))) (by show z.length-(j+1)<z.length-j;omega) ?_
     ·rcases List.mem_or_eq_of_mem_set hx with h|rfl
      ·exact hyn x h
      ·exact h1
     refine Gt ?_;have e1:(List.map (cf z) y).set i [.rf (2000+(j+1)) 0 z[j].row.length,iA z[j].w]=List.map (cf z) (y.set i j):=(by rw[List.map_set,cf,zAt_get h1]);refine ⟨id,wks_noId caps hc,?_,fam_eobs (ν:=λi=>2000+(i+1)) λi hi=>⟨fam_nms (m1:=[(1000,some 1000)]) (by simp) hi,by (simp -implicitDefEqProofs only[go_sem];repeat (refine GO ?_;simp -implicitDefEqProofs only[go_sem]));exact famL_get hi⟩⟩;simp only[iA] at e1;rw[e1];exact cf_es (n:=z.length) (λi hi=>fam_nms (m1:=[(1000,some 1000)]) (by simp) hi) λx hx=>by
      rcases List.mem_or_eq_of_mem_set hx with h|rfl
      ·exact hyn x h
      ·exact h1
    ·have h2:p z[j]=true:=(by simpa using h2);have d2:=d.drop (by simpa using h1) (by rw[List.getElem_range,hpz j h1];exact h2);refine Co ?_;refine BACK.mk ⟨(i,j+1,y),d2,hyn⟩ ([(1000,some 1000)]++famM 2000 z.length λi=>2000+(i+1)) rfl (fam_nmOk rfl (fam_nd (by decide) (by decide))) (by show z.length-(j+1)<z.length-j;omega) ?_;refine Gt ?_;refine ⟨id,wks_noId caps hc,?_,fam_eobs (ν:=λi=>2000+(i+1)) λi hi=>⟨fam_nms (m1:=[(1000,some 1000)]) (by simp) hi,by (simp -implicitDefEqProofs only[go_sem];repeat (refine GO ?_;simp -implicitDefEqProofs only[go_sem]));exact famL_get hi⟩⟩;exact cf_es (n:=z.length) (λi hi=>fam_nms (m1:=[(1000,some 1000)]) (by simp) hi) hyn
   ·have h1:j=z.length:=by simp at h1;omega
    subst h1;have hk:=d.kept;rw[List.take_of_length_le (l:=List.range z.length) (by simp)] at hk;refine Aa ?_;refine ⟨by omega,by omega,by omega,?_⟩;obtain ⟨ν,hν⟩:∃ν:Nat->Nat,ν=λk=>2000+(y.getD k 0+1):=⟨_,rfl⟩;have hlen:(y.take i).length=i:=by rw[List.length_take];omega
    have hνl:∀k (h:k<(y.take i).length),ν k=2000+((y.take i)[k]+1):=λk h=>by have:k<y.length:=(by omega);rw[hν];simp[this]
    have hout:(y.take i).map (zAt z)=z.filter λt=>!p t:=by rw[hk,hpN,<- zAt_filter]
    have hol:(z.filter λt=>!p t).length=i:=(by rw[<- hout,List.length_map,hlen]);have hnd:(y.take i).Nodup:=by rw[hk];exact List.nodup_range.filter _
    have hfin:List.map (cf z) (y.take i)++List.replicate (z.length-i) zc=List.take i (List.map (cf z) y)++List.replicate (z.length-i) [.nl,iA 0]++List.drop (i+(z.length-i)) (List.map (cf z) y):=by rw[List.drop_eq_nil_of_le (by simp;omega),List.append_nil,List.map_take];rfl
    refine FINfamT 1000 ν (z.filter λt=>!p t) (z.length-i) [(4,.rf 0 0 i)] (es:=(y.take i).map (cf z)++List.replicate (z.length-i) zc) ?_ ?_ ?_ ?_ ?_ ?_
    ·rw[hol,List.nodup_cons];refine ⟨λh=>?_,?_⟩
     ·obtain ⟨k,_,e⟩:=List.mem_map.1 h;rw[hν] at e;simp only at e;omega
     ·have:(List.range i).map ν=(y.take i).map λq=>2000+(q+1):=List.ext_getElem (by simp;omega) λk q1 q2=>by
       have hk2:k<(y.take i).length:=(by simpa using q2);rw[List.getElem_map,List.getElem_range,hνl k hk2,List.getElem_map]
      rw[this,List.Nodup,List.pairwise_map];exact hnd.imp λhne e=>hne (by omega)
    ·rw[hfin];rfl
    ·rw[cf_cells ν hνl,hout]
    ·intro k hk2;have hk3:k<(y.take i).length:=(by omega);have hk4:(y.take i)[k]<z.length:=hyn _ (List.mem_of_mem_take (List.getElem_mem hk3));rw[hνl k hk3];refine Aa ?_;rw[famL_get hk4];congr 2;have e:(z.filter λt=>!p t)[k]=((y.take i).map (zAt z))[k]'(by simpa using hk3):=by congr 1<;>exact hout.symm
     rw[e,List.getElem_map,zAt_get hk4]
    ·refine Aa ?_;exact ⟨rfl,rfl⟩
    ·exact ⟨_,z.length-i,⟨⟨by rw[hol];rfl,rfl⟩,rfl⟩,rfl⟩
theorem f51 (z:List It) (p:Pr) (hl:z.length<=268435456) (hr:∀t∈z,t.row.length<1073741824) :
 SpecF Tryz.prog 40 [setA z,.ag p.c] (λr out=>∃err:Int,r=.tu [.rf 0 0 out.length,iA err]/\((¬Good z/\out=[]/\err=1)\/(Good z/\out=(z.filter λt=>holdsP p t.row)/\err=0))):=by
 refine funspecD_of_vc tabOk elems ord40 Tryz.func40 rfl (rl:=[.tmp 4,.tmp 5]) rfl (by kernel_rfl) rfl (λ_ h=>absurd rfl h) ?_;refine Ei ?_;refine .pure _ (s16 z (by omega) (λt ht=>by have:=hr t ht;omega)) rfl λq hq _=>?_;obtain ⟨e,rfl,he,hg⟩:=hq;refine Ab ?_;refine VIF.split (λh=>?_) (λh=>?_)
 ·have h:e≠0:=(by simpa using h);have h1:e=1:=(by omega);subst h1;refine Aa ?_;refine FINmk [(0,none)] [(4,.rf 0 0 0),(5,iA 1)] [(0,so [])] [0] rfl ?_ ?_
  ·refine Ab ?_;simp[so]
  ·exact ⟨[],⟨⟨1,rfl,.inl ⟨λg=>h (hg.2 g),rfl,rfl⟩⟩,rfl⟩,rfl⟩
 ·have h:e=0:=(by simpa using h);have hg:=hg.1 h;refine Aa ?_;refine CALL.fam (f83 z hl hr) rfl 10000 (by simp) λq z2 hq=>?_;obtain ⟨rfl,rfl⟩:=hq;simp -implicitDefEqProofs only[go_sem,AV.rn,Nat.add_zero];refine TO ([(14,some 10000)]++famM 20000 z2.length λi=>10000+(i+1)) [(14,.rf 14 0 z2.length),(15,.fn 89 [.ro p.c 0])] ([(14,⟨2,famC 20000 z2⟩)]++famL 20000 z2) ([14]++famN 20000 z2.length) (fam_nmOk rfl (fam_nd (by decide) (by decide))) ?_ ?_
  ·refine Bl ?_;refine ⟨by simp[famU_mem],⟨by simp[olds,famM_olds];omega,_,rfl,by simp[Ob.leafy,AV.leaf],rfl⟩,fam_es rfl λi hi=>fam_nms (m1:=[(14,some 10000)]) (by simp) hi,fam_eobs (ν:=λi=>10000+(i+1)) λi hi=>⟨fam_nms (m1:=[(14,some 10000)]) (by simp) hi,by (simp -implicitDefEqProofs only[go_sem];repeat (refine GO ?_;simp -implicitDefEqProofs only[go_sem]));exact famO_row hi⟩⟩
  refine Aa ?_;refine CALL.fam2 (z:=z2) (tl:=0) (f82 89 [.ro p.c 0] rfl (λt=>!holdsP p t.row) (λt=>t.row.length<4611686018427387904) (λt ht=>c95 p t ht) z2 (λt ht=>by have:=hr t ht;omega) hl) 14 (λi=>20000+(i+1)) (fam_nd (l:=[14]) (by decide) (by decide)) (es:=famC 20000 z2) Ag (by simp[famC_cells]) (λi hi=>by (simp -implicitDefEqProofs only[go_sem];repeat (refine GO ?_;simp -implicitDefEqProofs only[go_sem]));exact famL_get hi) ⟨by simp,λi hi=>by simp[famN_mem,hi]⟩ ⟨rfl,famW_mem.2 (.inl rfl),⟨trivial,trivial⟩,trivial⟩ 2000000000 ?_ λq y tl' O hq=>?_
  ·simp[famN_mem];omega
  obtain ⟨rfl,hy⟩:=hq;have hy:y=z2.filter λt=>holdsP p t.row:=by rw[hy];congr 1;funext t;simp
  have hyl:y.length<=z2.length:=by rw[hy];exact List.length_filter_le _ _
  refine Cx ?_;refine CALL.fam2 (z:=y) (tl:=tl') (f85 y tl' (by omega)) 2000000000 (λi=>2000000000+(i+1)) (fam_nd (l:=[2000000000]) (by decide) (by decide)) (es:=famC 2000000000 y++List.replicate tl' zc) Ag (by simp[famC_cells]) (λi hi=>famP_row hi) ⟨by simp[famU_mem],λi hi=>by simp[famU_mem];omega⟩ ⟨rfl,famW_mem.2 (.inl rfl),trivial⟩ 3000000000 ?_ λq y2 tl2 O hq=>?_
  ·simp[famU_mem,famN_mem];omega
  obtain ⟨rfl,rfl,rfl⟩:=hq;refine Cx ?_;refine FINfam 3000000000 (λi=>3000000000+(i+1)) y2 [(4,.rf 0 0 y2.length),(5,iA 0)] (es:=famC 3000000000 y2) (fam_nd (l:=[3000000000]) (by decide) (by decide)) (by show famP 3000000000 y2 0 O 3000000000=_;rw[famP_0,List.replicate_zero,List.append_nil]) rfl (λi hi=>famP_row hi) ?_ ?_
  ·exact A8
  ·exact ⟨_,⟨⟨0,rfl,.inr ⟨hg,hy,rfl⟩⟩,rfl⟩,rfl⟩
theorem makeR_same {z o o':List It} {e e':Int} (h:MakeR z o e) (h':MakeR z o' e'):o=o'/\e=e':=by
 rcases h with ⟨h1,rfl,rfl⟩|⟨h1,rfl,rfl,r,hr⟩|⟨h1,rfl,hm,ht,_⟩
 ·obtain ⟨h2,h3⟩:=makeR_bad h' h1;exact ⟨h2.symm,h3.symm⟩
 ·obtain ⟨h2,h3⟩:=makeR_over h' h1 hr;exact ⟨h2.symm,h3.symm⟩
 ·obtain ⟨h2,h3⟩:=makeR_ok h' h1 hm ht;exact ⟨h2.symm,h3.symm⟩
theorem f47 (a b:List It) (hl:a.length+b.length<=268435456) (ha:∀t∈a,t.row.length<1073741824) (hb:∀t∈b,t.row.length<1073741824) :
 SpecF Tryz.prog 36 [setA a,setA b] (λr out=>∃err:Int,r=.tu [.rf 0 0 out.length,iA err]/\AddR a b out err):=by
 refine funspecD_of_vc tabOk elems ord36 Tryz.func36 rfl (rl:=[.tmp 4,.tmp 5]) rfl (by kernel_rfl) rfl (λ_ h=>absurd rfl h) ?_;refine Af ?_;refine .pure _ (s16 a (by omega) (λt ht=>by have:=ha t ht;omega)) rfl λq hq _=>?_;obtain ⟨e1,rfl,_,h1⟩:=hq;have bad:∀s:St,s.regs 4=.nl->s.regs 5=.pr (.int .i64 1)->¬(Good a/\Good b)->FIN T noOb [.tmp 4,.tmp 5] (λr O'=>∃z,((∃err:Int,r=.tu [.rf 0 0 z.length,iA err]/\AddR a b z err)/\r.only0=true)/\O'=famF z) s:=by
  intro s h4 h5 hn;refine FINmk [(0,none)] [(4,.rf 0 0 0),(5,iA 1)] [(0,so [])] [0] rfl ?_ ?_
  ·refine Cc ?_;simp[so]
  ·exact ⟨[],⟨⟨1,rfl,.inl ⟨hn,rfl,rfl⟩⟩,rfl⟩,rfl⟩
 refine Ab ?_;refine VIF.split (λh=>?_) (λh=>?_)
 ·have h:e1≠0:=(by simpa using h);refine Aa ?_;exact bad _ rfl rfl λg=>h (h1.2 g.1)
 ·have h:e1=0:=(by simpa using h);have h1:=h1.1 h;refine Aa ?_;refine .pure _ (s16 b (by omega) (λt ht=>by have:=hb t ht;omega)) rfl λq hq _=>?_;obtain ⟨e2,rfl,_,h2⟩:=hq;refine Ab ?_;refine VIF.split (λh=>?_) (λh=>?_)
  ·have h:e2≠0:=(by simpa using h);refine Aa ?_;exact bad _ rfl rfl λg=>h (h2.2 g.2)
  ·have h:e2=0:=(by simpa using h);have h2:=h2.1 h;refine Aw ?_;refine GO ?_;refine Aw ?_;refine TO [] [(16,setsA [a,b])] [] [] rfl ?_ ?_
   ·refine Gj ?_;exact ⟨id,by decide,_,rfl,by simp[Ob.leafy,AV.leaf],rfl,rfl⟩
   refine Hp ?_;have hcat:cat [a,b]=a++b:=(by simp[cat]);refine .make 17 _ (s51 [a,b] (by simp) (by rw[hcat];simpa using hl)) rfl (by simp) rfl λq o hq hlf=>?_;rw[hcat] at hq;obtain ⟨rfl,hsz,hes⟩:=hq;refine Aw ?_;refine TO [] [(17,setA (a++b))] [] [] rfl ?_ ?_
   ·refine Af ?_;exact ⟨id,by decide,_,rfl,hlf,hsz,hes⟩
   refine Af ?_;refine CALL.fam (f76 (a++b) (by simpa using hl) (λt ht=>by rcases List.mem_append.1 ht with h|h;exact ha t h;exact hb t h)) rfl 100000 (by simp) λr out hq=>?_;obtain ⟨err,rfl,hm⟩:=hq;refine Ax ?_;refine FINfam 100000 (λi=>100000+(i+1)) out [(4,.rf 0 0 out.length),(5,iA err)] (es:=famC 100000 out) (fam_nd (l:=[100000]) (by decide) (by decide)) Ag rfl (λi hi=>by (simp -implicitDefEqProofs only[go_sem];repeat (refine GO ?_;simp -implicitDefEqProofs only[go_sem]));exact famO_row hi) ?_ ?_
   ·exact A8
   ·exact ⟨out,⟨⟨err,rfl,.inr ⟨h1,h2,hm⟩⟩,rfl⟩,rfl⟩
theorem intsL_leafy (l:List Int):(Ob.mk 1 (l.map λn=>[iA n])).leafy:=by rw[leafy_do];exact leafs2_map λx _=>by simp[leafs,iA,AV.leaf]
def ProjX (z:List It) (cols:List Int) (out:List It) (err:Int):Prop:=
 (¬Good z/\out=[]/\err=1)\/(Good z/\(∃(i:Nat) (h:i<z.length),pickE z[i].row cols=err/\∀j (hj:j<z.length),j<i->pickE z[j].row cols=0)/\err≠0/\out=[]) \/
 (Good z/\(∀t∈z,pickE t.row cols=0)/\MakeR (z.map (projI cols)) out err)
theorem projX_same {z out out':List It} {cols:List Int} {e e':Int} (h:ProjX z cols out e) (h':ProjX z cols out' e'):out=out'/\e=e':=by
 rcases h with ⟨h1,rfl,rfl⟩|⟨h1,⟨i,hi,h2,h3⟩,h4,rfl⟩|⟨h1,h2,h3⟩<;>rcases h' with ⟨g1,rfl,rfl⟩|⟨g1,⟨k,hk,g2,g3⟩,g4,rfl⟩|⟨g1,g2,g3⟩
 ·exact ⟨rfl,rfl⟩
 ·exact absurd g1 h1
 ·exact absurd g1 h1
 ·exact absurd h1 g1
 ·refine ⟨rfl,?_⟩;rcases Nat.lt_trichotomy i k with h|rfl|h
  ·exact absurd (h2.symm.trans (g3 i hi h)) h4
  ·exact h2.symm.trans g2
  ·exact absurd (g2.symm.trans (h3 k hk h)) g4
 ·exact absurd (h2.symm.trans (g2 _ (List.getElem_mem hi))) h4
 ·exact absurd h1 g1
 ·exact absurd (g2.symm.trans (h2 _ (List.getElem_mem hk))) g4
 ·exact makeR_same h3 g3
theorem projX_rows {z out:List It} {cols:List Int} {e:Int} (h:ProjX z cols out e):out.length<=z.length/\∀t∈out,t.row.length<=cols.length:=by
 rcases h with ⟨_,rfl,_⟩|⟨_,_,_,rfl⟩|⟨_,_,h⟩
 ·simp
 ·simp
 ·obtain ⟨h1,h2⟩:=makeR_rows h;rw[List.length_map] at h1;refine ⟨h1,λt ht=>?_⟩;obtain ⟨u,hu,e⟩:=h2 t ht;obtain ⟨v,_,rfl⟩:=List.mem_map.1 hu;rw[<- e];simp[projI,pickR]
theorem f49 (z:List It) (cols:List Int) (hl:z.length<=268435456) (hr:∀t∈z,t.row.length<1073741824) (hc:cols.length<1073741824) :
 SpecF Tryz.prog 41 [setA z,intsL cols] (λr out=>∃err:Int,r=.tu [.rf 0 0 out.length,iA err]/\ProjX z cols out err):=by
 refine funspecD_of_vc tabOk elems ord41 Tryz.func41 rfl (rl:=[.tmp 4,.tmp 5]) rfl (by kernel_rfl) rfl (λ_ h=>absurd rfl h) ?_;refine Bp ?_;have bad:∀(e:Int) (s:St),s.regs 4=.nl->s.regs 5=.pr (.int .i64 e)->ProjX z cols [] e->FIN T noOb [.tmp 4,.tmp 5] (λr O'=>∃z_1,((∃err:Int,r=.tu [.rf 0 0 z_1.length,iA err]/\ProjX z cols z_1 err)/\r.only0=true)/\O'=famF z_1) s:=by
  intro e s h4 h5 hn;refine FINmk [(0,none)] [(4,.rf 0 0 0),(5,iA e)] [(0,so [])] [0] rfl ?_ ?_
  ·refine Cc ?_;simp[so]
  ·exact ⟨[],⟨⟨e,rfl,hn⟩,rfl⟩,rfl⟩
 refine .pure _ (s16 z (by omega) (λt ht=>by have:=hr t ht;omega)) rfl λq hq _=>?_;obtain ⟨e,rfl,he,hg⟩:=hq;refine Ab ?_;refine VIF.split (λh=>?_) (λh=>?_)
 ·have h:e≠0:=(by simpa using h);have h1:e=1:=(by omega);subst h1;refine Aa ?_;exact bad 1 _ rfl rfl (.inl ⟨λg=>h (hg.2 g),rfl,rfl⟩)
 ·have h:e=0:=(by simpa using h);have hg:=hg.1 h;refine Aa ?_
  refine LOOP.mk (ι:={i:Nat//i<=z.length/\∀j (hj:j<z.length),j<i->pickE z[j].row cols=0}) (λp=>mkS [(1,intsL cols),(7,.rf 1000 0 p.1),(17,setA z),(18,iA z.length),(19,iA p.1)] [(1000,so ((z.take p.1).map (projI cols)))] [1000])
   (λp=>z.length-p.1) ⟨0,Nat.zero_le _,λj _ h=>absurd h (Nat.not_lt_zero _)⟩ [(1000,none)] rfl rfl ?_ (λp=>?_)
  ·refine B5 ?_;exact ⟨id,rfl,rfl⟩
  ·obtain ⟨i,hi,hz⟩:=p;refine B5 ?_;refine VIF.split (λh1=>?_) (λh1=>?_)
   ·have h1:i<z.length:=(by simpa using h1);have w1:=wrap_add1 (show i<4611686018427387904 by omega);refine Aa ?_;refine EL.map h1 ?_;refine Ar ?_;refine .make 27 _ (c61 z[i].row cols (hr _ (List.getElem_mem h1)) hc) rfl (by simp) rfl λq o hq hlf=>?_;obtain ⟨out,err,rfl,rfl,he2,ho1,ho2⟩:=hq;refine Ab ?_;refine VIF.split (λh2=>?_) (λh2=>?_)
    ·have h2:err≠0:=(by simpa using h2);refine Aa ?_;exact bad err _ rfl rfl (.inr (.inl ⟨hg,⟨i,h1,he2.symm,hz⟩,h2,rfl⟩))
    ·have h2:err=0:=(by simpa using h2);subst h2;have ho1:=ho1 rfl;subst ho1;refine Ak ?_;refine ⟨by omega,?_⟩;refine BACK.mk ⟨i+1,by omega,λj hj hji=>?_⟩ [(1000,some 39)] rfl rfl (by show z.length-(i+1)<z.length-i;omega) ?_
     ·by_cases e2:j=i
      ·subst e2;exact he2.symm
      ·exact hz j hj (by omega)
     ·refine D7 ?_;refine ⟨id,?_⟩;rw[List.take_of_length_le (l:=List.map It.c (List.map (projI cols) (z.take i))) (by simp;omega),List.take_succ_eq_append_getElem h1,List.map_append,List.map_append];refine Es_snoc (λx hx a ha=>so_leafy ((z.take i).map (projI cols)) x hx a ha) ?_;refine A4 ?_;exact ⟨⟨by decide,_,rfl,hlf,rfl,List.take_of_length_le (by simp[ro3])⟩,rfl⟩
   ·have h1:i=z.length:=by simp at h1;omega
    subst h1;have hz:∀t∈z,pickE t.row cols=0:=λt ht=>by obtain ⟨j,hj,rfl⟩:=List.mem_iff_getElem.1 ht;exact hz j hj hj
    refine Cu ?_;refine GO ?_;refine Aw ?_;refine TO [] [(41,setA (z.map (projI cols)))] [] [] rfl ?_ ?_
    ·refine Af ?_;exact ⟨id,by decide,_,rfl,so_leafy (z.map (projI cols)),rfl,List.take_of_length_le (by simp)⟩
    refine Af ?_;refine CALL.fam (f76 (z.map (projI cols)) (by simpa using hl) (λt ht=>by obtain ⟨u,hu,rfl⟩:=List.mem_map.1 ht;simpa [pickR,projI] using hc)) rfl 100000 (by simp) λr out hq=>?_;obtain ⟨err,rfl,hm⟩:=hq;refine Ax ?_;refine FINfam 100000 (λi=>100000+(i+1)) out [(4,.rf 0 0 out.length),(5,iA err)] (es:=famC 100000 out) (fam_nd (l:=[100000]) (by decide) (by decide)) Ag rfl (λi hi=>by (simp -implicitDefEqProofs only[go_sem];repeat (refine GO ?_;simp -implicitDefEqProofs only[go_sem]));exact famO_row hi) ?_ ?_
    ·exact A8
    ·exact ⟨out,⟨⟨err,rfl,.inr (.inr ⟨hg,hz,hm⟩)⟩,rfl⟩,rfl⟩
theorem addR_same {a b o o':List It} {e e':Int} (ga:Good a) (gb:Good b) (h:AddR a b o e) (h':MakeR (a++b) o' e'):o=o'/\e=e':=by
 rcases h with ⟨h1,_⟩|⟨_,_,h1⟩
 ·exact absurd ⟨ga,gb⟩ h1
 ·exact makeR_same h1 h'
theorem addR_bad {a b o:List It} {e:Int} (h:AddR a b o e) (hn:¬(Good a/\Good b)):o=[]/\e=1:=by
 rcases h with ⟨_,h⟩|⟨h1,h2,_⟩
 ·exact h
 ·exact absurd ⟨h1,h2⟩ hn
theorem joinR_same {a b o o':List It} {cols others:List Int} {e e':Int} (h:JoinR a b cols others o e) (h':JoinR a b cols others o' e'):o=o'/\e=e':=by
 rcases h with ⟨h1,rfl,rfl⟩|⟨h1,h2,h3,rfl,rfl⟩|⟨h1,h2,h3,h4,⟨p,h5,h6⟩,rfl,rfl⟩|⟨h1,h2,h3,h4,h5,h6⟩ <;>
  rcases h' with ⟨g1,rfl,rfl⟩|⟨g1,g2,g3,rfl,rfl⟩|⟨g1,g2,g3,g4,⟨q,g5,g6⟩,rfl,rfl⟩|⟨g1,g2,g3,g4,g5,g6⟩
 ·exact ⟨rfl,rfl⟩
 ·exact absurd ⟨g1,g2⟩ h1
 ·exact absurd ⟨g1,g2⟩ h1
 ·exact absurd ⟨g1,g2⟩ h1
 ·exact absurd ⟨h1,h2⟩ g1
 ·exact ⟨rfl,rfl⟩
 ·rcases h3 with h|⟨_,h⟩
  ·exact absurd g3 h
  ·rw[g4] at h;cases h
 ·rcases h3 with h|⟨_,h⟩
  ·exact absurd g3 h
  ·rw[g4] at h;cases h
 ·exact absurd ⟨h1,h2⟩ g1
 ·rcases g3 with h|⟨_,h⟩
  ·exact absurd h3 h
  ·rw[h4] at h;cases h
 ·exact ⟨rfl,rfl⟩
 ·rw[g5 p h5] at h6;cases h6
 ·exact absurd ⟨h1,h2⟩ g1
 ·rcases g3 with h|⟨_,h⟩
  ·exact absurd h3 h
  ·rw[h4] at h;cases h
 ·rw[h5 q g5] at g6;cases g6
 ·exact makeR_same h6 g6
theorem addR_same2 {a b o o':List It} {e e':Int} (h:AddR a b o e) (h':AddR a b o' e'):o=o'/\e=e':=by
 rcases h with ⟨h1,rfl,rfl⟩|⟨ga,gb,h1⟩
 ·obtain ⟨h2,h3⟩:=addR_bad h' h1;exact ⟨h2.symm,h3.symm⟩
 ·obtain ⟨h2,h3⟩:=addR_same ga gb h' h1;exact ⟨h2.symm,h3.symm⟩
end Yt
