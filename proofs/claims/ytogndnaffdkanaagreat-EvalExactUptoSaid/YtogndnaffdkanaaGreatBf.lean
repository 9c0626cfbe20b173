/- Contracts of the program's functions over abstract values and states, plain facts on which these lean, and the framework of these values over the model. The conditions stand in each theorem. -/
import Derived.Test.YtogndnaffdkanaaGreatBc
import Derived.Test.YtogndnaffdkanaaGreatBe
import Derived.Test.YtogndnaffdkanaaGreatBb
set_option linter.all false
set_option maxRecDepth 10000
set_option maxHeartbeats 16000000
namespace Yt
open Go Go.Vc Go.Proofs
theorem zerosI_leafy (n:Nat):(Ob.mk 1 (List.replicate n [iA 0])).leafy:=by intro x hx a ha;rw[(List.mem_replicate.1 hx).2] at ha;simp only[List.mem_cons,List.not_mem_nil,or_false] at ha;subst ha;rfl
theorem d219 (n:Nat) (hn:n<=1073741824):Spec1 Tryz.prog 219 [.nl,iA n] (λr o=>r=.rf 0 0 0/\o.sz=1):=by
 refine spec1_of_vc tabOk elems ord219 Tryz.func219 rfl (rl:=[.tmp 4]) rfl (by kernel_rfl) rfl ?_;refine Ab ?_;refine VIF.split (λh=>by simp at h;omega) (λ_=>?_);have w0:IntKind.i64.wrap (0-0)=0:=by rw[wrap_i64]<;>omega
 have w1:IntKind.i64.wrap ((n:Int)-0)=n:=by rw[wrap_i64]<;>omega
 refine Dw ?_;refine VIF.split (λh=>?_) (λh=>?_)
 ·have h:0<n:=(by simpa using h);refine Aa ?_;refine ⟨by decide,⟨_,rfl⟩,⟨by omega,by omega⟩,by decide,?_⟩;refine Aa ?_;refine FINmk [(0,some 22)] [(4,.rf 0 0 0)] [(0,⟨1,List.replicate n [iA 0]⟩)] [0] rfl ?_ ?_
  ·refine Ab ?_;exact ⟨⟨rfl,rfl⟩,.same ⟨1,List.replicate n [iA 0]⟩ _ _ (zerosI_leafy n) (by simp[iA])⟩
  ·exact ⟨_,⟨⟨rfl,rfl⟩,rfl⟩,zerosI_leafy n,rfl⟩
 ·refine Aa ?_;refine FINmk [(0,none)] [(4,.rf 0 0 0)] [(0,io [])] [0] rfl ?_ ?_
  ·refine Aa ?_;simp[io]
  ·exact ⟨io [],⟨⟨rfl,rfl⟩,rfl⟩,io_leafy [],rfl⟩
def catI:List (List Int)->List Int
 | []=>[]
 | z::r=>z++catI r
theorem catI_append (x y:List (List Int)):catI (x++y)=catI x++catI y:=by
 induction x with
 | nil=>rfl
 | cons z x ih=>simp only[List.cons_append,catI,ih,List.append_assoc]
theorem catI_take {zs:List (List Int)} {i:Nat} (h:i<zs.length):(catI (zs.take (i+1))).length=(catI (zs.take i)).length+zs[i].length:=by rw[List.take_succ_eq_append_getElem h,catI_append];simp[catI]
theorem catI_le (zs:List (List Int)) (i:Nat):(catI (zs.take i)).length<=(catI zs).length:=by
 have:catI zs=catI (zs.take i)++catI (zs.drop i):=by rw[<- catI_append,List.take_append_drop]
 rw[this];simp
theorem d210 (zs:List (List Int)) (hl:zs.length<=1073741824) (hc:(catI zs).length<=1048576) :
 Spec1 Tryz.prog 210 [formsA zs] (λr o=>r=.rf 0 0 (catI zs).length/\o.sz=1/\o.es.take (catI zs).length=(catI zs).map λn=>[iA n]):=by
 refine spec1_of_vc tabOk elems ord210 Tryz.func210 rfl (rl:=[.tmp 2]) rfl (by kernel_rfl) rfl ?_;refine Cc ?_
 refine LOOP.mk (ι:={i:Nat//i<=zs.length}) (λp=>mkS [(0,formsA zs),(3,iA (catI (zs.take p.1)).length),(9,formsA zs),(10,iA zs.length),(11,iA p.1)] [] [])
  (λp=>zs.length-p.1) ⟨0,Nat.zero_le _⟩ [] rfl rfl ?_ (λp=>?_)
 ·refine A6 ?_;exact ⟨id,rfl,rfl⟩
 ·obtain ⟨i,hi⟩:=p;refine A6 ?_;refine VIF.split (λh=>?_) (λh=>?_)
  ·have h:i<zs.length:=(by simpa using h);refine Aa ?_;refine EL.map h ?_;have hct:=catI_take h;have hcl:=catI_le zs (i+1);rw[hct] at hcl;have w1:IntKind.i64.wrap (((catI (zs.take i)).length:Int)+(zs[i].length:Int))=((catI (zs.take (i+1))).length:Int):=by
    rw[hct,wrap_i64]<;>omega
   have w2:=wrap_add1 (show i<4611686018427387904 by omega);(simp -implicitDefEqProofs only[go_sem,intsL,w1,w2];repeat (refine GO ?_;simp -implicitDefEqProofs only[go_sem,intsL,w1,w2]));refine VIF.split (λh=>by simp at h;omega) (λ_=>?_);refine Cb ?_;refine BACK.mk ⟨i+1,by omega⟩ [] rfl rfl (by show zs.length-(i+1)<zs.length-i;omega) ?_;(simp -implicitDefEqProofs only[go_sem,formsA,iA,w1,w2];repeat (refine GO ?_;simp -implicitDefEqProofs only[go_sem,formsA,iA,w1,w2]));exact ⟨id,rfl,rfl⟩
  ·have h:i=zs.length:=by simp at h;omega
   subst h;refine Bi ?_;refine .make 24 _ (d219 (catI zs).length (by omega)) rfl (by simp) rfl λq o hq hlf=>?_;obtain ⟨rfl,ho⟩:=hq;refine Aa ?_
   refine LOOP.mk (ι:={p:Nat×Ob//p.1<=zs.length/\p.2.sz=1/\p.2.leafy/\p.2.es.take (catI (zs.take p.1)).length=((catI (zs.take p.1)).map λn=>[iA n])})
    (λp=>mkS [(6,.rf 1000 0 (catI (zs.take p.1.1)).length),(25,formsA zs),(26,iA zs.length),(27,iA p.1.1)] [(1000,p.1.2)] [1000])
    (λp=>zs.length-p.1.1) ⟨(0,o),Nat.zero_le _,ho,hlf,rfl⟩ [(1000,some 24)] rfl rfl ?_ (λp=>?_)
   ·refine A6 ?_;exact ⟨id,⟨rfl,rfl⟩,.same o _ _ hlf rfl⟩
   ·obtain ⟨⟨i,o2⟩,hi,hsz,hlf2,hes⟩:=p;simp only at hi hsz hlf2 hes;refine A6 ?_;refine VIF.split (λh=>?_) (λh=>?_)
    ·have h:i<zs.length:=(by simpa using h);have hct:=catI_take h;have hcl:=catI_le zs (i+1);rw[hct] at hcl;have w2:=wrap_add1 (show i<4611686018427387904 by omega);refine Aa ?_;refine EL.map h ?_;(simp -implicitDefEqProofs only[go_sem,intsL,w2];repeat (refine GO ?_;simp -implicitDefEqProofs only[go_sem,intsL,w2]));refine ⟨⟨hsz,by omega⟩,?_⟩;have hlf3:(Ob.mk 1 (o2.es.take (catI (zs.take i)).length++(zs[i].map λn=>[iA n]))).leafy:=by
      rw[hes,<- List.map_append];exact io_leafy _
     refine BACK.mk ⟨(i+1,⟨1,o2.es.take (catI (zs.take i)).length++(zs[i].map λn=>[iA n])⟩),by omega,rfl,hlf3,by
      show (o2.es.take (catI (zs.take i)).length++(zs[i].map λn=>[iA n])).take (catI (zs.take (i+1))).length=(catI (zs.take (i+1))).map λn=>[iA n];rw[hes,<- List.map_append,List.take_succ_eq_append_getElem h,catI_append];simp only[catI,List.append_nil];exact List.take_of_length_le (by simp)⟩ [(1000,some 33)] rfl rfl (by show zs.length-(i+1)<zs.length-i;omega) ?_
     (simp -implicitDefEqProofs only[go_sem,formsA,iA,w2];repeat (refine GO ?_;simp -implicitDefEqProofs only[go_sem,formsA,iA,w2]));refine ⟨id,⟨by rw[hct],rfl⟩,.same (Ob.mk 1 (o2.es.take (catI (zs.take i)).length++(zs[i].map λn=>[iA n]))) _ _ hlf3 rfl⟩
    ·have h:i=zs.length:=by simp at h;omega
     subst h;rw[List.take_length] at hes;refine Bi ?_;refine FINmk [(0,some 1000)] [(2,.rf 0 0 (catI zs).length)] [(0,o2)] [0] rfl ?_ ?_
     ·refine Aa ?_;exact .same o2 _ _ hlf2 rfl
     ·exact ⟨o2,⟨⟨rfl,hsz,hes⟩,rfl⟩,hlf2,rfl⟩
theorem d210z (zs:List (List Int)) (hl:zs.length<=1073741824) (hc:(catI zs).length<=1048576):Spec0 Tryz.prog 210 [formsA zs] (·=intsL (catI zs)):=
 (Spec1.fz (d210 zs hl hc)).mono λr O' ⟨⟨⟨r0,o,⟨e1,e2,e3⟩,_,_,e4⟩,hn⟩,hO⟩=>by subst e1;subst e4;refine ⟨⟨?_,hn⟩,hO⟩;rw[fz_rf,if_pos rfl,List.drop_zero,e2,e3];rfl
theorem d192 (F:List (List Int)) (D:List Nd) (x:PN) (hD:D.length<1073741824) (hT:∀d∈D,d.types.length<1073741824) (hW:∀d∈D,0<=d.w/\d.w<=1125899906842624):SpecW 192 F D [.ag x.c] (λr=>∃c1 c2 c3 e,r=.tu [.ag [c1,c2,c3],iA e]/\(c1.leaf&&c2.leaf&&c3.leaf)=true/\e=bothE x D/\(e=0->AV.ag [c1,c2,c3]=.ag (bothN x D).c)):=by
 refine funspecD_of_vc tabOk elems og192 Tryz.func192 rfl (rl:=[.cell 4 146,.tmp 5]) rfl (by kernel_rfl) rfl kept_0 ?_;refine Bt ?_;refine .lendR (args':=[.ro [formsA F,.im 3 (D.map Nd.c)] 0,iA x.a]) (d204 F D x.a) ⟨lent_box (d:=3000) Aj Aj,.same rfl,trivial⟩ (by rintro _ rfl;rfl) λq hq=>?_;subst hq;refine Ac ?_;refine VIF.split (λh=>?_) (λh=>?_)
 ·have h:inC x.a D.length=false:=(by simpa using h);refine Aa ?_;refine FINwe .nl (iA 0) (iA 0) 1 kept_0 Ae Ae Ae Ai ⟨rfl,rfl,rfl⟩ Ai ⟨⟨⟨_,_,_,1,rfl,rfl,by rw[bothE,if_pos (.inl h)],λh=>by cases h⟩,rfl⟩,rfl⟩
 have h:inC x.a D.length=true:=by simpa using h
 refine Aa ?_;refine .lendR (args':=[.ro [formsA F,.im 3 (D.map Nd.c)] 0,iA x.b]) (d204 F D x.b) ⟨lent_box (d:=3000) Aj Aj,.same rfl,trivial⟩ (by rintro _ rfl;rfl) λq hq=>?_;subst hq;refine Ac ?_;refine VIF.split (λh2=>?_) (λh2=>?_)
 ·have h2:inC x.b D.length=false:=(by simpa using h2);refine Aa ?_;refine FINwe .nl (iA 0) (iA 0) 1 kept_0 Ae Ae Ae Ai ⟨rfl,rfl,rfl⟩ Ai ⟨⟨⟨_,_,_,1,rfl,rfl,by rw[bothE,if_pos (.inr h2)],λh=>by cases h⟩,rfl⟩,rfl⟩
 have h2:inC x.b D.length=true:=by simpa using h2
 have ha:0<=x.a/\x.a.toNat<D.length:=by simp[inC] at h;omega
 have hb:0<=x.b/\x.b.toNat<D.length:=by simp[inC] at h2;omega
 have e1:ndAt D x.a=D[x.a.toNat]'ha.2:=by simp[ndAt,ha.2]
 have e2:ndAt D x.b=D[x.b.toNat]'hb.2:=by simp[ndAt,hb.2]
 have ta:=hT _ (List.getElem_mem ha.2);have tb:=hT _ (List.getElem_mem hb.2);have wa:=hW _ (List.getElem_mem ha.2);have wb:=hW _ (List.getElem_mem hb.2);have c1:¬(inC x.a D.length=false\/inC x.b D.length=false):=by rw[h,h2];simp
 have w1:IntKind.i64.wrap (1125899906842624-(D[x.b.toNat]'hb.2).w)=1125899906842624-(D[x.b.toNat]'hb.2).w:=by rw[wrap_i64]<;>omega
 refine Aw ?_;refine TO [(0,some 0),(4,some 4),(3000,some 3000)] [(0,.pt 0 0 0),(3,.ro x.c 0),(4,.pt 4 0 0)] [(0,⟨2,[[formsA F,.rf 3000 0 D.length]]⟩),(4,⟨3,[[.nl,iA 0,iA 0]]⟩),(3000,⟨3,D.map Nd.c⟩)] [0,4,3000] rfl ?_ ?_
 ·refine B0 ?_;refine ⟨by simp,⟨by simp[olds],_,rfl,by have:=pn_leafy x;simpa only[PN.c,iA,intsL] using this,rfl⟩,.cons (by simp[wk.wks,wk,nms,formsA]) .nil,.cons (by simp[wk.wks,wk]) .nil,nd_es⟩
 refine Fo ?_;repeat' (first|exact ha.1|exact hb.1|(show _<((D.length:Nat):Int);omega)|(refine EL.map ha.2 ?_;simp -implicitDefEqProofs only[go_sem,Nd.c,iA,PN.c])|(refine EL.map hb.2 ?_;simp -implicitDefEqProofs only[go_sem,Nd.c,iA,PN.c])|apply And.intro)
 all_goals
  refine Aa ?_;refine .pure _ (show Spec0 Tryz.prog 208 [intsL (D[x.a.toNat]'ha.2).types,intsL (D[x.b.toNat]'hb.2).types] _ from d208 (D[x.a.toNat]'ha.2).types (D[x.b.toNat]'hb.2).types (by omega) (by omega)) rfl λq hq _=>?_;subst hq;refine Ac ?_;refine VIF.split (λh3=>?_) (λh3=>?_)
  ·have h3:(ndAt D x.a).types≠(ndAt D x.b).types:=by rw[e1,e2];simpa using h3
   refine Aa ?_;exact FINwe .nl (iA 0) (iA 0) 10 kept_0 Ae Ae Ae Ai ⟨rfl,rfl,rfl⟩ Ai ⟨⟨⟨_,_,_,10,rfl,rfl,by rw[bothE,if_neg c1,if_pos h3],λh=>by cases h⟩,rfl⟩,rfl⟩
  have h3:¬(ndAt D x.a).types≠(ndAt D x.b).types:=by rw[e1,e2];simpa using h3
  refine Bc ?_;refine VIF.split (λh4=>?_) (λh4=>?_)
  ·have h4:1125899906842624-(ndAt D x.b).w<(ndAt D x.a).w:=by rw[e1,e2];simpa using h4
   refine Aa ?_;exact FINwe .nl (iA 0) (iA 0) 11 kept_0 Ae Ae Ae Ai ⟨rfl,rfl,rfl⟩ Ai ⟨⟨⟨_,_,_,11,rfl,rfl,by rw[bothE,if_neg c1,if_neg h3,if_pos h4],λh=>by cases h⟩,rfl⟩,rfl⟩
  have h4:¬1125899906842624-(ndAt D x.b).w<(ndAt D x.a).w:=by rw[e1,e2];simpa using h4
  have w2:IntKind.i64.wrap ((D[x.a.toNat]'ha.2).w+(D[x.b.toNat]'hb.2).w)=(D[x.a.toNat]'ha.2).w+(D[x.b.toNat]'hb.2).w:=by rw[e1,e2] at h4;rw[wrap_i64]<;>omega
  refine C5 ?_;exact FINwe (intsL (D[x.a.toNat]'ha.2).types) (iA ((D[x.a.toNat]'ha.2).w+(D[x.b.toNat]'hb.2).w)) (iA (max (D[x.a.toNat]'ha.2).v (D[x.b.toNat]'hb.2).v)) 0 kept_0 Ae Ae Ae Ai ⟨rfl,rfl,rfl⟩ Ai ⟨⟨⟨_,_,_,0,rfl,rfl,by rw[bothE,if_neg c1,if_neg h3,if_neg h4],λ_=>by rw[bothN,e1,e2];rfl⟩,rfl⟩,rfl⟩
def walkO (a d d' b:Nat) (F:List (List Int)) (D:List Nd) (O:Nat->Option Ob) (n:Nat):Option Ob:=if n=a then some (boxO F d' D.length) else if n=d' then some (ndO D) else if b<=n then none else if n=d then none else O n
@[go_sem] theorem walkO_a {a d d' b:Nat} {F:List (List Int)} {D:List Nd} {O:Nat->Option Ob}:walkO a d d' b F D O a=some ⟨2,[[formsA F,.rf d' 0 D.length]]⟩:=by simp[walkO,boxO]
@[go_sem] theorem walkO_d {a d d' b:Nat} {F:List (List Int)} {D:List Nd} {O:Nat->Option Ob} (h:(d'=a)=False):walkO a d d' b F D O d'=some ⟨3,D.map Nd.c⟩:=by simp[walkO,h,ndO]
@[go_sem] theorem walkO_ne {a d d' b n:Nat} {F:List (List Int)} {D:List Nd} {O:Nat->Option Ob} (h1:(n=a)=False) (h2:(n=d')=False) (h3:(b<=n)=False) (h4:(n=d)=False):walkO a d d' b F D O n=O n:=by simp[walkO,h1,h2,h3,h4]
theorem CALL.walk2 {f:Nat} {F:List (List Int)} {D:List Nd} {args:List AV} {R:AV->Prop} (h:SpecW f F D args R) (ha:noIds args=true) {st:St} {x:Nat} {K:St->Prop} {a d:Nat} (hne:a≠d)
 (hoa:st.objs a=some ⟨2,[[formsA F,.rf d 0 D.length]]⟩) (hod:st.objs d=some ⟨3,D.map Nd.c⟩) (hua:a∈st.used) (hud:d∈st.used) (b:Nat) (hb:∀n∈st.used,n<b) (d':Nat) (hd':d'=b+3000)
 (k:∀r,R r->K {regs:=upd st.regs x r,objs:=walkO a d d' b F D st.objs,used:=a::d'::st.used}):CALL Tryz.prog f (.pt a 0 0::args) st (some x) K:=by
 subst hd';obtain ⟨g1,g2⟩:=noIds_rn (ρ:=rhoW a d) (p:=(·∈wU)) args ha;have key:=dep_sem (objs:=st.objs) (used:=st.used) (args:=.pt a 0 0::args) h (rhoW a d) (λi hi j hj e=>by
  simp only[wU,List.mem_cons,List.not_mem_nil,or_false] at hi hj;rcases hi with rfl|rfl<;>rcases hj with rfl|rfl
  ·rfl
  ·exact absurd e (by simpa [rhoW] using hne)
  ·exact absurd e (by simpa [rhoW] using hne.symm)
  ·rfl) (λi o ho=>wO_closed ho) (λ_=>⟨_,rfl⟩)
  (λi o ho=>by
   rcases wO_cases ho with ⟨rfl,rfl⟩|⟨rfl,rfl⟩
   ·exact hoa
   ·rw[ndO_rn];exact hod)
  (λi hi=>by
   simp only[wU,List.mem_cons,List.not_mem_nil,or_false] at hi;rcases hi with rfl|rfl
   ·exact hua
   ·exact hud) ⟨by simp only[rns,AV.rn,g1];rfl,by show 0∈wU;simp[wU],g2⟩ b hb (λ_ _=>wU) (λr O' hR=>by
   obtain ⟨⟨_,hn⟩,rfl⟩:=hR;exact ⟨λi o ho=>wO_closed ho,(noId_rn (ρ:=id) _ hn).2⟩)
 refine .sem _ key λu O U hX=>?_;obtain ⟨r,O',⟨⟨hR,hn⟩,rfl⟩,rfl,rfl,rfl⟩:=hX;have e0:rhoW a d 0=a:=rfl;have e00:rhoW a d 3000=d:=rfl;have e1:r.rn (nmD true (rhoW a d 0) b)=r:=(noId_rn (p:=λ_=>True) _ hn).1;have hab:a<b:=hb a hua;have e2:depO true (rhoW a d 0) b (List.map (rhoW a d) wU) (wO F D) st.objs=walkO a d (b+3000) b F D st.objs:=by
  funext n
  simp only[walkO,e0];split
  ·rename_i e;subst e;simp only[depO,true_and,if_true];show Option.map _ (wO F D 0)=_;rfl
  ·rename_i h1;split
   ·rename_i e;subst e;simp only[depO,true_and];rw[if_neg (by omega),if_pos (by omega),if_neg (by omega),show b+3000-b=3000 by omega];show Option.map _ (some (ndO D))=_;rw[Option.map_some,ndO_rn]
   ·rename_i h2;simp only[depO,true_and];rw[if_neg h1];split
    ·rename_i h3;split
     ·rfl
     ·rename_i h4;have:wO F D (n-b)=none:=by
       cases hw:wO F D (n-b) with
       | none=>rfl
       | some o=>rcases wO_cases hw with ⟨g,_⟩|⟨g,_⟩<;>omega
      rw[this];rfl
    ·simp only[wU,List.map_cons,List.map_nil,e0,e00,List.mem_cons,List.not_mem_nil,or_false,h1,false_or]
 have e3:List.map (nmD true (rhoW a d 0) b) wU++st.used=a::(b+3000)::st.used:=by simp[wU,nmD,e0]
 have:=k r hR;simp only[e1,e3,e2];exact this
theorem FINwl {F:List (List Int)} {D:List Nd} {O0:Nat->Option Ob} {K:AV->(Nat->Option Ob)->Prop} {st:St} (c1 c2 c3:AV) (e:Int) (h0:∀i,O0 i≠none->i=0) (hb:st.objs 0=some ⟨2,[[formsA F,.rf 103000 0 D.length]]⟩) (hd:st.objs 103000=some ⟨3,D.map Nd.c⟩)
 (h4:st.regs 4=.pt 4 0 0) (hc:st.objs 4=some ⟨3,[[c1,c2,c3]]⟩) (hl:(c1.leaf&&c2.leaf&&c3.leaf)=true) (h5:st.regs 5=iA e) (k:K (.tu [.ag [c1,c2,c3],iA e]) (wO F D)):FIN T O0 [.cell 4 146,.tmp 5] K st:=by
 have he:Ent st (mkS [(4,.ro [c1,c2,c3] 0),(5,iA e)] [(0,boxO F 3000 D.length),(3000,ndO D)] [0,3000]):=by
  simp only[Bool.and_eq_true] at hl;refine ent_to [(0,some 0),(3000,some 103000)] rfl rfl ⟨λ_=>by simp,?_,?_⟩
  ·simp -implicitDefEqProofs only[go_sem,h4,h5,hc,iA];refine ⟨by simp[olds],_,rfl,λx hx a ha=>?_,rfl⟩;simp only[List.mem_singleton] at hx;subst hx;simp only[List.mem_cons,List.not_mem_nil,or_false] at ha;rcases ha with rfl|rfl|rfl
   ·exact hl.1.1
   ·exact hl.1.2
   ·exact hl.2
  ·simp -implicitDefEqProofs only[go_sem,boxO,hb,hd,ndO];exact ⟨.cons (by simp[wk.wks,wk,nms,formsA]) .nil,nd_es⟩
 refine ⟨mkS [(4,.ro [c1,c2,c3] 0),(5,iA e)] [(0,boxO F 3000 D.length),(3000,ndO D)] [0,3000],λF' n a w hF R=>he F' n a w (λi hi=>h0 i (by rw[<- hF];exact hi)) R,?_⟩;refine Ab ?_;exact k
theorem pickS (t l:List Int) (hl:l.length<1073741824) (h:l.any (outC t.length)=false):Spec0 Tryz.prog 207 [intsL t,intsL l] (·=intsL (pickI t l)):=
 Spec1.intsC (by have:=d207 t l hl h;exact this.mono λr O' ⟨o,⟨⟨q1,q2⟩,q3⟩,q4,q5⟩=>⟨o,⟨⟨by rw[q1];simp[pickI],q2⟩,q3⟩,q4,q5⟩)
theorem d191 (F:List (List Int)) (D:List Nd) (x:PN) (hD:D.length<1073741824) (hT:∀d∈D,d.types.length<1073741824) (hW:∀d∈D,0<=d.w/\d.w<=1125899906842624) (hc:x.cols.length<1073741824) (ho:x.others.length<1073741824):SpecW 191 F D [.ag x.c] (λr=>∃c1 c2 c3 e,r=.tu [.ag [c1,c2,c3],iA e]/\(c1.leaf&&c2.leaf&&c3.leaf)=true/\e=joinE x D/\(e=0->AV.ag [c1,c2,c3]=.ag (joinN x D).c)):=by
 refine funspecD_of_vc tabOk elems og191 Tryz.func191 rfl (rl:=[.cell 4 146,.tmp 5]) rfl (by kernel_rfl) rfl kept_0 ?_;refine Bt ?_;refine .lendR (args':=[.ro [formsA F,.im 3 (D.map Nd.c)] 0,iA x.a]) (d204 F D x.a) ⟨lent_box (d:=3000) Aj Aj,.same rfl,trivial⟩ (by rintro _ rfl;rfl) λq hq=>?_;subst hq;refine Ac ?_;refine VIF.split (λh=>?_) (λh=>?_)
 ·have h:inC x.a D.length=false:=(by simpa using h);refine Aa ?_;refine FINwe .nl (iA 0) (iA 0) 1 kept_0 Ae Ae Ae Ai ⟨rfl,rfl,rfl⟩ Ai ⟨⟨⟨_,_,_,1,rfl,rfl,by rw[joinE,if_pos (.inl h)],λh=>by cases h⟩,rfl⟩,rfl⟩
 have h:inC x.a D.length=true:=by simpa using h
 refine Aa ?_;refine .lendR (args':=[.ro [formsA F,.im 3 (D.map Nd.c)] 0,iA x.b]) (d204 F D x.b) ⟨lent_box (d:=3000) Aj Aj,.same rfl,trivial⟩ (by rintro _ rfl;rfl) λq hq=>?_;subst hq;refine Ac ?_;refine VIF.split (λh2=>?_) (λh2=>?_)
 ·have h2:inC x.b D.length=false:=(by simpa using h2);refine Aa ?_;refine FINwe .nl (iA 0) (iA 0) 1 kept_0 Ae Ae Ae Ai ⟨rfl,rfl,rfl⟩ Ai ⟨⟨⟨_,_,_,1,rfl,rfl,by rw[joinE,if_pos (.inr h2)],λh=>by cases h⟩,rfl⟩,rfl⟩
 have h2:inC x.b D.length=true:=by simpa using h2
 have ha:0<=x.a/\x.a.toNat<D.length:=by simp[inC] at h;omega
 have hb:0<=x.b/\x.b.toNat<D.length:=by simp[inC] at h2;omega
 have e1:ndAt D x.a=D[x.a.toNat]'ha.2:=by simp[ndAt,ha.2]
 have e2:ndAt D x.b=D[x.b.toNat]'hb.2:=by simp[ndAt,hb.2]
 have ta:=hT _ (List.getElem_mem ha.2);have tb:=hT _ (List.getElem_mem hb.2);have wa:=hW _ (List.getElem_mem ha.2);have wb:=hW _ (List.getElem_mem hb.2);have c1:¬(inC x.a D.length=false\/inC x.b D.length=false):=by rw[h,h2];simp
 refine Aw ?_;refine TO [(0,some 0),(4,some 4),(3000,some 3000)] [(0,.pt 0 0 0),(3,.ro x.c 0),(4,.pt 4 0 0)] [(0,⟨2,[[formsA F,.rf 3000 0 D.length]]⟩),(4,⟨3,[[.nl,iA 0,iA 0]]⟩),(3000,⟨3,D.map Nd.c⟩)] [0,4,3000] rfl ?_ ?_
 ·refine B0 ?_;refine ⟨by simp,⟨by simp[olds],_,rfl,by have:=pn_leafy x;simpa only[PN.c,iA,intsL] using this,rfl⟩,.cons (by simp[wk.wks,wk,nms,formsA]) .nil,.cons (by simp[wk.wks,wk]) .nil,nd_es⟩
 refine Fo ?_;repeat' (first|exact ha.1|exact hb.1|(show _<((D.length:Nat):Int);omega)|(refine EL.map ha.2 ?_;simp -implicitDefEqProofs only[go_sem,Nd.c,iA,PN.c])|(refine EL.map hb.2 ?_;simp -implicitDefEqProofs only[go_sem,Nd.c,iA,PN.c])|apply And.intro)
 all_goals
  obtain ⟨n,hn⟩:∃n,n=D[x.a.toNat]'ha.2:=⟨_,rfl⟩;obtain ⟨m,hm⟩:∃m,m=D[x.b.toNat]'hb.2:=⟨_,rfl⟩;simp only[<- hn,<- hm] at e1 e2 ta tb wa wb ⊢;try (simp -implicitDefEqProofs only[go_sem,intsL];repeat (refine GO ?_;simp -implicitDefEqProofs only[go_sem,intsL]))
  refine .pure _ (show Spec0 Tryz.prog 206 [intsL x.cols,iA n.types.length] _ from d206 x.cols n.types.length hc) rfl λq hq _=>?_;subst hq;refine Ac ?_;refine VIF.split (λh3=>?_) (λh3=>?_)
  ·have h3:x.cols.any (outC (ndAt D x.a).types.length)=true:=by rw[e1];simpa using h3
   refine Aa ?_;exact FINwe .nl (iA 0) (iA 0) 1 kept_0 Ca Ae Ae Ai ⟨rfl,rfl,rfl⟩ Ai ⟨⟨⟨_,_,_,1,rfl,rfl,by rw[joinE,if_neg c1,if_pos (.inl h3)],λh=>by cases h⟩,rfl⟩,rfl⟩
  have h3:x.cols.any (outC n.types.length)=false:=(by simpa using h3);refine A3 ?_;refine .pure _ (show Spec0 Tryz.prog 206 [intsL x.others,iA m.types.length] _ from d206 x.others m.types.length ho) rfl λq hq _=>?_;subst hq;refine Ac ?_;refine VIF.split (λh4=>?_) (λh4=>?_)
  ·have h4:x.others.any (outC (ndAt D x.b).types.length)=true:=by rw[e2];simpa using h4
   refine Aa ?_;exact FINwe .nl (iA 0) (iA 0) 1 kept_0 Ca Ae Ae Ai ⟨rfl,rfl,rfl⟩ Ai ⟨⟨⟨_,_,_,1,rfl,rfl,by rw[joinE,if_neg c1,if_pos (.inr h4)],λh=>by cases h⟩,rfl⟩,rfl⟩
  have h4:x.others.any (outC m.types.length)=false:=(by simpa using h4);have c2:¬(x.cols.any (outC (ndAt D x.a).types.length)=true\/x.others.any (outC (ndAt D x.b).types.length)=true):=by rw[e1,e2,h3,h4];simp
  refine A3 ?_;refine VIF.split (λh5=>?_) (λh5=>?_)
  ·have h5:x.cols.length≠x.others.length:=by simp at h5;omega
   refine Aa ?_;exact FINwe .nl (iA 0) (iA 0) 2 kept_0 Ca Ae Ae Ai ⟨rfl,rfl,rfl⟩ Ai ⟨⟨⟨_,_,_,2,rfl,rfl,by rw[joinE,if_neg c1,if_neg c2,if_pos (.inl h5)],λh=>by cases h⟩,rfl⟩,rfl⟩
  have h5:x.cols.length=x.others.length:=by simp at h5;omega
  have w3:IntKind.i64.wrap ((n.types.length:Int)+(m.types.length:Int))=((n.types.length+m.types.length:Nat):Int):=by rw[wrap_i64]<;>omega
  (simp -implicitDefEqProofs only[go_sem,intsL,w3];repeat (refine GO ?_;simp -implicitDefEqProofs only[go_sem,intsL,w3]));refine VIF.split (λh6=>?_) (λh6=>?_)
  ·have h6:12<(ndAt D x.a).types.length+(ndAt D x.b).types.length:=by rw[e1,e2];simp at h6;omega
   refine Aa ?_;exact FINwe .nl (iA 0) (iA 0) 2 kept_0 Ca Ae Ae Ai ⟨rfl,rfl,rfl⟩ Ai ⟨⟨⟨_,_,_,2,rfl,rfl,by rw[joinE,if_neg c1,if_neg c2,if_pos (.inr h6)],λh=>by cases h⟩,rfl⟩,rfl⟩
  have h6:¬12<n.types.length+m.types.length:=by simp at h6;omega
  have c3:¬(x.cols.length≠x.others.length\/12<(ndAt D x.a).types.length+(ndAt D x.b).types.length):=by rw[e1,e2];omega
  refine A3 ?_;refine .pure _ (show Spec0 Tryz.prog 207 [intsL n.types,intsL x.cols] _ from pickS n.types x.cols hc h3) rfl λq hq _=>?_;subst hq;refine A3 ?_;refine .pure _ (show Spec0 Tryz.prog 207 [intsL m.types,intsL x.others] _ from pickS m.types x.others ho h4) rfl λq hq _=>?_;subst hq;refine A3 ?_;refine .pure _ (show Spec0 Tryz.prog 208 [intsL (pickI n.types x.cols),intsL (pickI m.types x.others)] _ from d208 (pickI n.types x.cols) (pickI m.types x.others) (by simp[pickI];omega) (by simp[pickI];omega)) rfl λq hq _=>?_;subst hq;refine Ac ?_;refine VIF.split (λh7=>?_) (λh7=>?_)
  ·have h7:pickI (ndAt D x.a).types x.cols≠pickI (ndAt D x.b).types x.others:=by rw[e1,e2];simpa using h7
   refine Aa ?_;exact FINwe .nl (iA 0) (iA 0) 10 kept_0 Ca Ae Ae Ai ⟨rfl,rfl,rfl⟩ Ai ⟨⟨⟨_,_,_,10,rfl,rfl,by rw[joinE,if_neg c1,if_neg c2,if_neg c3,if_pos h7],λh=>by cases h⟩,rfl⟩,rfl⟩
  have h7:¬pickI (ndAt D x.a).types x.cols≠pickI (ndAt D x.b).types x.others:=by rw[e1,e2];simpa using h7
  refine Ab ?_;refine .pure _ (show Spec0 Tryz.prog 209 [iA n.w,iA m.w,iA 1125899906842624] _ from d209 n.w m.w 1125899906842624 (by omega) (by omega) (by omega)) rfl λq hq _=>?_;subst hq;refine Ay ?_;refine VIF.split (λh8=>?_) (λh8=>?_)
  ·have h8:¬(ndAt D x.a).w*(ndAt D x.b).w<=1125899906842624:=by rw[e1,e2];simpa using h8
   refine Aa ?_;exact FINwe .nl (iA 0) (iA 0) 11 kept_0 Ca Ae Ae Ai ⟨rfl,rfl,rfl⟩ Ai ⟨⟨⟨_,_,_,11,rfl,rfl,by rw[joinE,if_neg c1,if_neg c2,if_neg c3,if_neg h7,if_pos h8],λh=>by cases h⟩,rfl⟩,rfl⟩
  have h8:n.w*m.w<=1125899906842624:=(by simpa using h8);have h8':¬¬(ndAt D x.a).w*(ndAt D x.b).w<=1125899906842624:=by rw[e1,e2];simpa using h8
  rw[if_pos h8];refine Aq ?_;refine .giveTo (args':=[formsA [n.types,m.types]]) 105 ⟨1,[[intsL n.types],[intsL m.types]]⟩ (d210z [n.types,m.types] (by simp) (by simp[catI];omega)) rfl (by rw[fzs_cons,fzs_nil,fz_rf,if_pos rfl];rfl) (by refine Aw ?_;rfl) (by simp[Ob.leafy,AV.leaf,intsL]) λq hq _=>?_;have hq:q=intsL (n.types++m.types):=by rw[hq];simp[catI]
  subst hq;refine Ab ?_;exact FINwe (intsL (n.types++m.types)) (iA (n.w*m.w)) (iA (max n.v m.v)) 0 kept_0 Ae Ae Ae Ai ⟨rfl,rfl,rfl⟩ Ai ⟨⟨⟨_,_,_,0,rfl,rfl,by rw[joinE,if_neg c1,if_neg c2,if_neg c3,if_neg h7,if_neg h8'],λ_=>by rw[joinN,e1,e2];rfl⟩,rfl⟩,rfl⟩
theorem im_io {l:List Int} {k:Nat} (h:l.length<=k):AV.im (io l).sz (List.take k (io l).es)=intsL l:=by rw[List.take_of_length_le (by simpa [io] using h)];rfl
theorem d194 (F:List (List Int)) (D:List Nd) (x:PN) (hD:D.length<1073741824) (hb:∀d∈D,Ndb d) (hc:x.cols.length<1073741824) :
 SpecW 194 F D [.ag x.c] (λr=>∃c1 c2 c3 e,r=.tu [.ag [c1,c2,c3],iA e]/\(c1.leaf&&c2.leaf&&c3.leaf)=true/\e=grpE x D/\(e=0->AV.ag [c1,c2,c3]=.ag (grpN x D).c)):=by
 refine funspecD_of_vc tabOk elems og194 Tryz.func194 rfl (rl:=[.cell 4 146,.tmp 5]) rfl (by kernel_rfl) rfl kept_0 ?_;refine Bt ?_;refine .lendR (args':=[.ro [formsA F,.im 3 (D.map Nd.c)] 0,iA x.a]) (d204 F D x.a) ⟨lent_box (d:=3000) Aj Aj,.same rfl,trivial⟩ (by rintro _ rfl;rfl) λq hq=>?_;subst hq;refine Ac ?_;refine VIF.split (λh=>?_) (λh=>?_)
 ·have h:inC x.a D.length=false:=(by simpa using h);refine Aa ?_;exact FINwe .nl (iA 0) (iA 0) 1 kept_0 Ca Ae Ae Ai ⟨rfl,rfl,rfl⟩ Ai ⟨⟨⟨_,_,_,1,rfl,rfl,by rw[grpE,if_pos (.inl h)],λh=>by cases h⟩,rfl⟩,rfl⟩
 have h:inC x.a D.length=true:=by simpa using h
 refine Aa ?_;refine VIF.split (λh1=>?_) (λh1=>?_)
 ·have h1:x.agg<1:=(by simpa using h1);refine Aa ?_;exact FINwe .nl (iA 0) (iA 0) 1 kept_0 Ca Ae Ae Ai ⟨rfl,rfl,rfl⟩ Ai ⟨⟨⟨_,_,_,1,rfl,rfl,by rw[grpE,if_pos (.inr (.inl h1))],λh=>by cases h⟩,rfl⟩,rfl⟩
 have h1:¬x.agg<1:=by simpa using h1
 refine Aa ?_;refine VIF.split (λh2=>?_) (λh2=>?_)
 ·have h2:4<x.agg:=(by simpa using h2);refine Aa ?_;exact FINwe .nl (iA 0) (iA 0) 1 kept_0 Ca Ae Ae Ai ⟨rfl,rfl,rfl⟩ Ai ⟨⟨⟨_,_,_,1,rfl,rfl,by rw[grpE,if_pos (.inr (.inr h2))],λh=>by cases h⟩,rfl⟩,rfl⟩
 have h2:¬4<x.agg:=by simpa using h2
 have c1:¬(inC x.a D.length=false\/x.agg<1\/4<x.agg):=by rw[h];simp;omega
 have ha:0<=x.a/\x.a.toNat<D.length:=by simp[inC] at h;omega
 have e1:ndAt D x.a=D[x.a.toNat]'ha.2:=by simp[ndAt,ha.2]
 have nb:=hb _ (List.getElem_mem ha.2);refine Aw ?_;refine TO [(0,some 0),(4,some 4),(3000,some 3000)] [(0,.pt 0 0 0),(3,.ro x.c 0),(4,.pt 4 0 0)] [(0,⟨2,[[formsA F,.rf 3000 0 D.length]]⟩),(4,⟨3,[[.nl,iA 0,iA 0]]⟩),(3000,⟨3,D.map Nd.c⟩)] [0,4,3000] rfl ?_ ?_
 ·refine B0 ?_;refine ⟨by simp,⟨by simp[olds],_,rfl,by have:=pn_leafy x;simpa only[PN.c,iA,intsL] using this,rfl⟩,.cons (by simp[wk.wks,wk,nms,formsA]) .nil,.cons (by simp[wk.wks,wk]) .nil,nd_es⟩
 refine Fo ?_;repeat' (first|exact ha.1|(show _<((D.length:Nat):Int);omega)|(refine EL.map ha.2 ?_;simp -implicitDefEqProofs only[go_sem,Nd.c,iA,PN.c])|apply And.intro)
 obtain ⟨n,hn⟩:∃n,n=D[x.a.toNat]'ha.2:=⟨_,rfl⟩;simp only[<- hn] at e1 nb ⊢;try (simp -implicitDefEqProofs only[go_sem,intsL];repeat (refine GO ?_;simp -implicitDefEqProofs only[go_sem,intsL]))
 refine .pure _ (show Spec0 Tryz.prog 206 [intsL x.cols,iA n.types.length] _ from d206 x.cols n.types.length hc) rfl λq hq _=>?_;subst hq;refine Ac ?_;refine VIF.split (λh3=>?_) (λh3=>?_)
 ·have h3:x.cols.any (outC (ndAt D x.a).types.length)=true:=by rw[e1];simpa using h3
  refine Aa ?_;exact FINwe .nl (iA 0) (iA 0) 1 kept_0 Ca Ae Ae Ai ⟨rfl,rfl,rfl⟩ Ai ⟨⟨⟨_,_,_,1,rfl,rfl,by rw[grpE,if_neg c1,if_pos (.inl h3)],λh=>by cases h⟩,rfl⟩,rfl⟩
 have h3:x.cols.any (outC n.types.length)=false:=by simpa using h3
 have c3:∀e,¬(x.agg=2/\e≠(3:Int))->x.agg≠2\/e=3:=λe h=>by
  by_cases k:x.agg=2
  ·exact .inr (Decidable.byContradiction λg=>h ⟨k,g⟩)
  ·exact .inl k
 refine Aq ?_;refine VIF.split (λh4=>?_) (λh4=>?_)
 ·have h4:x.agg≠1:=(by simpa using h4);refine Aq ?_;refine .lendR (args':=[intsL [x.col],iA n.types.length]) (d206 [x.col] n.types.length (by simp)) ⟨lent_leafy (o:=io [x.col]) (by refine Aa ?_;rfl) rfl (by simp[io]) (io_leafy _) (λz hz=>by obtain ⟨v,_,rfl⟩:=List.mem_map.1 hz;rfl),.same rfl,trivial⟩ (by rintro _ rfl;rfl) λq hq=>?_;subst hq;refine Ac ?_;refine VIF.split (λh5=>?_) (λh5=>?_)
  ·have h5:inC x.col (ndAt D x.a).types.length=false:=by
    rw[e1];simp[outC] at h5;simp[inC];omega
   refine Aa ?_;exact FINwe .nl (iA 0) (iA 0) 1 kept_0 Ca Ae Ae Ai ⟨rfl,rfl,rfl⟩ Ai ⟨⟨⟨_,_,_,1,rfl,rfl,by rw[grpE,if_neg c1,if_pos (.inr ⟨h4,h5⟩)],λh=>by cases h⟩,rfl⟩,rfl⟩
  have h5:inC x.col n.types.length=true:=by simp[outC] at h5;simp[inC];omega
  have c2:¬(x.cols.any (outC (ndAt D x.a).types.length)=true\/(x.agg≠1/\inC x.col (ndAt D x.a).types.length=false)):=by rw[e1,h3,h5];simp
  have hcl:0<=x.col/\x.col.toNat<n.types.length:=by simp[inC] at h5;omega
  have hg:getI n.types x.col=n.types[x.col.toNat]'hcl.2:=(by simp[getI,hcl.2]);refine Aq ?_;refine VIF.split (λh6=>?_) (λh6=>?_)
  ·have h6:12<=x.cols.length:=by simp at h6;omega
   refine Aa ?_;exact FINwe .nl (iA 0) (iA 0) 2 kept_0 Ca Ae Ae Ai ⟨rfl,rfl,rfl⟩ Ai ⟨⟨⟨_,_,_,2,rfl,rfl,by rw[grpE,if_neg c1,if_neg c2,if_pos h6],λh=>by cases h⟩,rfl⟩,rfl⟩
  have h6:¬12<=x.cols.length:=by simp at h6;omega
  refine Aq ?_;refine VIF.split (λh7=>?_) (λh7=>?_)
  ·have h7:x.agg=2:=(by simpa using h7);refine Aq ?_;refine ⟨hcl.1,EL.map hcl.2 ?_⟩;refine Ab ?_;refine VIF.split (λh8=>?_) (λh8=>?_)
   ·have h8:getI (ndAt D x.a).types x.col≠3:=by rw[e1,hg];simpa using h8
    refine Aa ?_;exact FINwe .nl (iA 0) (iA 0) 10 kept_0 Ca Ae Ae Ai ⟨rfl,rfl,rfl⟩ Ai ⟨⟨⟨_,_,_,10,rfl,rfl,by rw[grpE,if_neg c1,if_neg c2,if_neg h6,if_pos ⟨h7,h8⟩],λh=>by cases h⟩,rfl⟩,rfl⟩
   have h8:getI n.types x.col=3:=by rw[hg];simpa using h8
   have c4:¬(x.agg=2/\getI (ndAt D x.a).types x.col≠3):=by rw[e1,h8];simp
   refine Aq ?_;refine VIF.split (λh=>absurd (show x.agg=1 by simpa using h) h4) (λ_=>?_);refine Aq ?_;refine VIF.split (λ_=>?_) (λh=>absurd h7 (by simpa using h));refine Aq ?_;have nv:=nb.v1;refine .pure _ (show Spec0 Tryz.prog 209 [iA n.v,iA n.w,iA 1152921504606846976] _ from d209 n.v n.w 1152921504606846976 ⟨nb.v0,by omega⟩ ⟨nb.w0,by have:=nb.w1;omega⟩ (by omega)) rfl λq hq _=>?_;subst hq;refine Ay ?_;have hv:aggV x.agg n=n.v*n.w:=(by simp[aggV,h7]);have ht:aggT x.agg x.col n=3:=(by simp[aggT,h7]);refine VIF.split (λh9=>?_) (λh9=>?_)
   ·have h9:¬n.v*n.w<=1152921504606846976:=(by simpa using h9);refine Aa ?_;exact FINwe .nl (iA 0) (iA 0) 11 kept_0 Ca Ae Ae Ai ⟨rfl,rfl,rfl⟩ Ai ⟨⟨⟨_,_,_,11,rfl,rfl,by rw[grpE,if_neg c1,if_neg c2,if_neg h6,if_neg c4,if_pos (by rw[e1,hv];omega)],λh=>by cases h⟩,rfl⟩,rfl⟩
   have h9:n.v*n.w<=1152921504606846976:=(by simpa using h9);rw[if_pos h9];refine Aa ?_;refine VIF.split (λh=>absurd h (by simp;omega)) (λ_=>?_);refine Aq ?_;apply And.intro
   all_goals
    refine .make 116 _ (show Spec1 Tryz.prog 207 [intsL n.types,intsL x.cols] _ from d207 n.types x.cols hc h3) rfl (by simp) rfl λq o hq _=>?_;obtain ⟨rfl,rfl⟩:=hq;refine Bq ?_;refine ⟨by omega,?_⟩;refine FINfrz 119 (io (pickI n.types x.cols++[3])) (by refine Aa ?_;rw[io,List.map_append,List.take_of_length_le (by simp[pickI])];rfl) (io_leafy _) kept_0 ?_;refine Aw ?_;rw[im_io (by simp[pickI])];exact FINwe (intsL (pickI n.types x.cols++[3])) (iA n.w) (iA (max n.v (n.v*n.w))) 0 kept_0 (by simp -implicitDefEqProofs only[go_sem,formsA];try rfl) Ae Ae Ai ⟨rfl,rfl,rfl⟩ Ai ⟨⟨⟨_,_,_,0,rfl,rfl,by rw[grpE,if_neg c1,if_neg c2,if_neg h6,if_neg c4,if_neg (by rw[e1,hv];omega)],λ_=>by rw[grpN,e1,ht,hv];simp only[Nd.c]⟩,rfl⟩,rfl⟩
  have h7:x.agg≠2:=(by simpa using h7);have c4:¬(x.agg=2/\getI (ndAt D x.a).types x.col≠3):=λh=>h7 h.1;have hv:aggV x.agg n=n.v:=(by simp[aggV,h7,h4]);have ht:aggT x.agg x.col n=getI n.types x.col:=(by simp[aggT,h7,h4]);refine Aq ?_;refine VIF.split (λh=>absurd (show x.agg=1 by simpa using h) h4) (λ_=>?_);refine Aq ?_;refine VIF.split (λh=>absurd (show x.agg=2 by simpa using h) h7) (λ_=>?_);refine Aq ?_;refine ⟨hcl.1,EL.map hcl.2 ?_⟩;have nv:=nb.v1;refine Ab ?_;refine VIF.split (λh=>absurd h (by simp;omega)) (λ_=>?_);refine Aq ?_;apply And.intro
  all_goals
   refine .make 116 _ (show Spec1 Tryz.prog 207 [intsL n.types,intsL x.cols] _ from d207 n.types x.cols hc h3) rfl (by simp) rfl λq o hq _=>?_;obtain ⟨rfl,rfl⟩:=hq;refine Bq ?_;refine ⟨by omega,?_⟩;refine FINfrz 119 (io (pickI n.types x.cols++[(n.types[x.col.toNat]'hcl.2)])) (by refine Aa ?_;rw[io,List.map_append,List.take_of_length_le (by simp[pickI])];rfl) (io_leafy _) kept_0 ?_;refine Aw ?_;rw[im_io (by simp[pickI])];exact FINwe (intsL (pickI n.types x.cols++[(n.types[x.col.toNat]'hcl.2)])) (iA n.w) (iA (max n.v n.v)) 0 kept_0 (by simp -implicitDefEqProofs only[go_sem,formsA];try rfl) Ae Ae Ai ⟨rfl,rfl,rfl⟩ Ai ⟨⟨⟨_,_,_,0,rfl,rfl,by rw[grpE,if_neg c1,if_neg c2,if_neg h6,if_neg c4,if_neg (by rw[e1,hv];omega)],λ_=>by rw[grpN,e1,ht,hv];simp only[Nd.c,hg]⟩,rfl⟩,rfl⟩
 have h4:x.agg=1:=by simpa using h4
 have c2:¬(x.cols.any (outC (ndAt D x.a).types.length)=true\/(x.agg≠1/\inC x.col (ndAt D x.a).types.length=false)):=by rw[e1,h3];simp[h4]
 refine Aq ?_;refine VIF.split (λh6=>?_) (λh6=>?_)
 ·have h6:12<=x.cols.length:=by simp at h6;omega
  refine Aa ?_;exact FINwe .nl (iA 0) (iA 0) 2 kept_0 Ca Ae Ae Ai ⟨rfl,rfl,rfl⟩ Ai ⟨⟨⟨_,_,_,2,rfl,rfl,by rw[grpE,if_neg c1,if_neg c2,if_pos h6],λh=>by cases h⟩,rfl⟩,rfl⟩
 have h6:¬12<=x.cols.length:=by simp at h6;omega
 have c4:¬(x.agg=2/\getI (ndAt D x.a).types x.col≠3):=λh=>by have:=h.1;omega
 have hv:aggV x.agg n=n.w:=by simp[aggV,h4]
 have ht:aggT x.agg x.col n=3:=by simp[aggT,h4]
 refine Aq ?_;refine VIF.split (λh=>absurd (show x.agg=2 by simpa using h) (by omega)) (λ_=>?_);refine Aq ?_;refine VIF.split (λ_=>?_) (λh=>absurd h4 (by simpa using h));have nv:=nb.v1;have nw:=nb.w1;refine Aq ?_;refine VIF.split (λh=>absurd h (by simp;omega)) (λ_=>?_);refine Aq ?_;apply And.intro
 all_goals
  refine .make 116 _ (show Spec1 Tryz.prog 207 [intsL n.types,intsL x.cols] _ from d207 n.types x.cols hc h3) rfl (by simp) rfl λq o hq _=>?_;obtain ⟨rfl,rfl⟩:=hq;refine Bq ?_;refine ⟨by omega,?_⟩;refine FINfrz 119 (io (pickI n.types x.cols++[3])) (by refine Aa ?_;rw[io,List.map_append,List.take_of_length_le (by simp[pickI])];rfl) (io_leafy _) kept_0 ?_;refine Aw ?_;rw[im_io (by simp[pickI])];exact FINwe (intsL (pickI n.types x.cols++[3])) (iA n.w) (iA (max n.v (max n.v n.w))) 0 kept_0 (by simp -implicitDefEqProofs only[go_sem,formsA];try rfl) Ae Ae Ai ⟨rfl,rfl,rfl⟩ Ai ⟨⟨⟨_,_,_,0,rfl,rfl,by rw[grpE,if_neg c1,if_neg c2,if_neg h6,if_neg c4,if_neg (by rw[e1,hv];omega)],λ_=>by rw[grpN,e1,ht,hv];simp only[Nd.c,show max n.v (max n.v n.w)=max n.v n.w by omega]⟩,rfl⟩,rfl⟩
theorem noId_end {c1 c2 c3:AV} {e:Int} (h:(c1.leaf&&c2.leaf&&c3.leaf)=true):(AV.tu [.ag [c1,c2,c3],iA e]).noId=true:=by simp only[Bool.and_eq_true] at h;simp only[AV.noId,noIds,iA,leaf_noId h.1.1,leaf_noId h.1.2,leaf_noId h.2,Bool.and_true,Bool.and_self]
theorem d157 (F:List (List Int)) (D:List Nd) (x:PN) (hD:D.length<1073741824) (hF:F.length<1073741824) (hFl:∀l∈F,l.length<1073741824) (hb:∀d∈D,Ndb d) (hc:x.cols.length<1073741824) (ho:x.others.length<1073741824) :
 SpecW 157 F D [.ag x.c] (λr=>∃c1 c2 c3 e,r=.tu [.ag [c1,c2,c3],iA e]/\(c1.leaf&&c2.leaf&&c3.leaf)=true/\e=lookE F D x/\(e=0->AV.ag [c1,c2,c3]=.ag (lookN F D x).c)):=by
 have hT:∀d∈D,d.types.length<1073741824:=λd hd=>by have:=(hb d hd).tl;omega
 have hW:∀d∈D,0<=d.w/\d.w<=1125899906842624:=λd hd=>⟨(hb d hd).w0,(hb d hd).w1⟩;refine funspecD_of_vc tabOk elems og157 Tryz.func157 rfl (rl:=[.cell 4 146,.tmp 5]) rfl (by kernel_rfl) rfl kept_0 ?_;refine Bt ?_;refine VIF.split (λk1=>?_) (λk1=>?_)
 ·have k1:x.kind=1:=(by simpa using k1);refine A4 ?_;refine CALL.walk2 (d188 F D x hF hFl) rfl (d:=3000) (by decide) Aj Aj (by simp) (by simp) 100000 (by simp) _ rfl λr hr=>?_;obtain ⟨c1,c2,c3,e,rfl,hl,he,hv⟩:=hr;refine Ab ?_;exact FINwl c1 c2 c3 e kept_0 Ae Ae Ae Ae hl Ai ⟨⟨⟨c1,c2,c3,e,rfl,hl,by rw[he];simp only[lookE,k1,if_true,if_false,true_or,or_true,false_or,or_self];try rfl,λh=>by rw[hv h];simp only[lookN,k1,if_true,if_false,true_or,or_true,false_or,or_self];try rfl⟩,noId_end hl⟩,rfl⟩
 have k1:x.kind≠1:=by simpa using k1
 refine A4 ?_;refine VIF.split (λk2=>?_) (λk2=>?_)
 ·have k2:x.kind=2:=(by simpa using k2);refine A4 ?_;refine CALL.walk2 (d189 F D x hD hT) rfl (d:=3000) (by decide) Aj Aj (by simp) (by simp) 100000 (by simp) _ rfl λr hr=>?_;obtain ⟨c1,c2,c3,e,rfl,hl,he,hv⟩:=hr;refine Ab ?_;exact FINwl c1 c2 c3 e kept_0 Ae Ae Ae Ae hl Ai ⟨⟨⟨c1,c2,c3,e,rfl,hl,by rw[he];simp only[lookE,show ¬((2:Int)=1) by decide,k2,if_true,if_false,true_or,or_true,false_or,or_self,show ¬((2:Int)=1) by decide];try rfl,λh=>by rw[hv h];simp only[lookN,show ¬((2:Int)=1) by decide,k2,if_true,if_false,true_or,or_true,false_or,or_self,show ¬((2:Int)=1) by decide];try rfl⟩,noId_end hl⟩,rfl⟩
 have k2:x.kind≠2:=by simpa using k2
 refine A4 ?_;refine VIF.split (λk3=>?_) (λk3=>?_)
 ·have k3:x.kind=3:=(by simpa using k3);refine A4 ?_;refine CALL.walk2 (d190 F D x hD hc) rfl (d:=3000) (by decide) Aj Aj (by simp) (by simp) 100000 (by simp) _ rfl λr hr=>?_;obtain ⟨c1,c2,c3,e,rfl,hl,he,hv⟩:=hr;refine Ab ?_;exact FINwl c1 c2 c3 e kept_0 Ae Ae Ae Ae hl Ai ⟨⟨⟨c1,c2,c3,e,rfl,hl,by rw[he];simp only[lookE,show ¬((3:Int)=1) by decide,k3,if_true,if_false,true_or,or_true,false_or,or_self,show ¬((3:Int)=1) by decide,show ¬((3:Int)=2) by decide];try rfl,λh=>by rw[hv h];simp only[lookN,show ¬((3:Int)=1) by decide,k3,if_true,if_false,true_or,or_true,false_or,or_self,show ¬((3:Int)=1) by decide,show ¬((3:Int)=2) by decide];try rfl⟩,noId_end hl⟩,rfl⟩
 have k3:x.kind≠3:=by simpa using k3
 refine A4 ?_;refine VIF.split (λk4=>?_) (λk4=>?_)
 ·have k4:x.kind=4:=(by simpa using k4);refine A4 ?_;refine CALL.walk2 (d191 F D x hD hT hW hc ho) rfl (d:=3000) (by decide) Aj Aj (by simp) (by simp) 100000 (by simp) _ rfl λr hr=>?_;obtain ⟨c1,c2,c3,e,rfl,hl,he,hv⟩:=hr;refine Ab ?_;exact FINwl c1 c2 c3 e kept_0 Ae Ae Ae Ae hl Ai ⟨⟨⟨c1,c2,c3,e,rfl,hl,by rw[he];simp only[lookE,show ¬((4:Int)=1) by decide,k4,if_true,if_false,true_or,or_true,false_or,or_self,show ¬((4:Int)=1) by decide,show ¬((4:Int)=2) by decide,show ¬((4:Int)=3) by decide];try rfl,λh=>by rw[hv h];simp only[lookN,show ¬((4:Int)=1) by decide,k4,if_true,if_false,true_or,or_true,false_or,or_self,show ¬((4:Int)=1) by decide,show ¬((4:Int)=2) by decide,show ¬((4:Int)=3) by decide];try rfl⟩,noId_end hl⟩,rfl⟩
 have k4:x.kind≠4:=by simpa using k4
 refine A4 ?_;refine VIF.split (λk5=>?_) (λk5=>?_)
 ·have k5:x.kind=5:=(by simpa using k5);refine A4 ?_;refine VIF.split (λ_=>?_) (λh=>absurd k5 (by simpa using h));refine A4 ?_;refine CALL.walk2 (d192 F D x hD hT hW) rfl (d:=3000) (by decide) Aj Aj (by simp) (by simp) 100000 (by simp) _ rfl λr hr=>?_;obtain ⟨c1,c2,c3,e,rfl,hl,he,hv⟩:=hr;refine Ab ?_;exact FINwl c1 c2 c3 e kept_0 Ae Ae Ae Ae hl Ai ⟨⟨⟨c1,c2,c3,e,rfl,hl,by rw[he];simp only[lookE,show ¬((5:Int)=1) by decide,k5,if_true,if_false,true_or,or_true,false_or,or_self,show ¬((5:Int)=1) by decide,show ¬((5:Int)=2) by decide,show ¬((5:Int)=3) by decide,show ¬((5:Int)=4) by decide];try rfl,λh=>by rw[hv h];simp only[lookN,show ¬((5:Int)=1) by decide,k5,if_true,if_false,true_or,or_true,false_or,or_self,show ¬((5:Int)=1) by decide,show ¬((5:Int)=2) by decide,show ¬((5:Int)=3) by decide,show ¬((5:Int)=4) by decide];try rfl⟩,noId_end hl⟩,rfl⟩
 have k5:x.kind≠5:=by simpa using k5
 refine A4 ?_;refine VIF.split (λk6=>?_) (λk6=>?_)
 ·have k6:x.kind=6:=(by simpa using k6);refine A4 ?_;refine CALL.walk2 (d192 F D x hD hT hW) rfl (d:=3000) (by decide) Aj Aj (by simp) (by simp) 100000 (by simp) _ rfl λr hr=>?_;obtain ⟨c1,c2,c3,e,rfl,hl,he,hv⟩:=hr;refine Ab ?_;exact FINwl c1 c2 c3 e kept_0 Ae Ae Ae Ae hl Ai ⟨⟨⟨c1,c2,c3,e,rfl,hl,by rw[he];simp only[lookE,show ¬((6:Int)=1) by decide,k6,if_true,if_false,true_or,or_true,false_or,or_self,show ¬((6:Int)=1) by decide,show ¬((6:Int)=2) by decide,show ¬((6:Int)=3) by decide,show ¬((6:Int)=4) by decide,show ¬((6:Int)=5) by decide];try rfl,λh=>by rw[hv h];simp only[lookN,show ¬((6:Int)=1) by decide,k6,if_true,if_false,true_or,or_true,false_or,or_self,show ¬((6:Int)=1) by decide,show ¬((6:Int)=2) by decide,show ¬((6:Int)=3) by decide,show ¬((6:Int)=4) by decide,show ¬((6:Int)=5) by decide];try rfl⟩,noId_end hl⟩,rfl⟩
 have k6:x.kind≠6:=by simpa using k6
 refine A4 ?_;refine VIF.split (λk7=>?_) (λk7=>?_)
 ·have k7:x.kind=7:=(by simpa using k7);refine A4 ?_;refine CALL.walk2 (d193 F D x hD) rfl (d:=3000) (by decide) Aj Aj (by simp) (by simp) 100000 (by simp) _ rfl λr hr=>?_;obtain ⟨c1,c2,c3,e,rfl,hl,he,hv⟩:=hr;refine Ab ?_;exact FINwl c1 c2 c3 e kept_0 Ae Ae Ae Ae hl Ai ⟨⟨⟨c1,c2,c3,e,rfl,hl,by rw[he];simp only[lookE,show ¬((7:Int)=1) by decide,k7,if_true,if_false,true_or,or_true,false_or,or_self,show ¬((7:Int)=1) by decide,show ¬((7:Int)=2) by decide,show ¬((7:Int)=3) by decide,show ¬((7:Int)=4) by decide,show ¬((7:Int)=5) by decide,show ¬((7:Int)=6) by decide];try rfl,λh=>by rw[hv h];simp only[lookN,show ¬((7:Int)=1) by decide,k7,if_true,if_false,true_or,or_true,false_or,or_self,show ¬((7:Int)=1) by decide,show ¬((7:Int)=2) by decide,show ¬((7:Int)=3) by decide,show ¬((7:Int)=4) by decide,show ¬((7:Int)=5) by decide,show ¬((7:Int)=6) by decide];try rfl⟩,noId_end hl⟩,rfl⟩
 have k7:x.kind≠7:=by simpa using k7
 refine A4 ?_;refine VIF.split (λk8=>?_) (λk8=>?_)
 ·have k8:x.kind=8:=(by simpa using k8);refine A4 ?_;refine CALL.walk2 (d194 F D x hD hb hc) rfl (d:=3000) (by decide) Aj Aj (by simp) (by simp) 100000 (by simp) _ rfl λr hr=>?_;obtain ⟨c1,c2,c3,e,rfl,hl,he,hv⟩:=hr;refine Ab ?_;exact FINwl c1 c2 c3 e kept_0 Ae Ae Ae Ae hl Ai ⟨⟨⟨c1,c2,c3,e,rfl,hl,by rw[he];simp only[lookE,show ¬((8:Int)=1) by decide,k8,if_true,if_false,true_or,or_true,false_or,or_self,show ¬((8:Int)=1) by decide,show ¬((8:Int)=2) by decide,show ¬((8:Int)=3) by decide,show ¬((8:Int)=4) by decide,show ¬((8:Int)=5) by decide,show ¬((8:Int)=6) by decide,show ¬((8:Int)=7) by decide];try rfl,λh=>by rw[hv h];simp only[lookN,show ¬((8:Int)=1) by decide,k8,if_true,if_false,true_or,or_true,false_or,or_self,show ¬((8:Int)=1) by decide,show ¬((8:Int)=2) by decide,show ¬((8:Int)=3) by decide,show ¬((8:Int)=4) by decide,show ¬((8:Int)=5) by decide,show ¬((8:Int)=6) by decide,show ¬((8:Int)=7) by decide];try rfl⟩,noId_end hl⟩,rfl⟩
 have k8:x.kind≠8:=by simpa using k8
 refine A4 ?_;exact FINwe .nl (iA 0) (iA 0) 1 kept_0 Ae Ae Ae Ai ⟨rfl,rfl,rfl⟩ Ai ⟨⟨⟨_,_,_,1,rfl,rfl,by simp only[lookE,k1,k2,k3,k4,k5,k6,k7,k8,if_false,or_self],λh=>by cases h⟩,rfl⟩,rfl⟩
theorem fitR_of:∀{r:List V} {ts:List Int},r.length=ts.length->(∀j (h1:j<r.length) (h2:j<ts.length),fitsV r[j] ts[j]=true)->fitR r ts=true
 | [],[],_,_=>rfl
 | v::r,t::ts,hl,h=>by
   simp only[fitR,Bool.and_eq_true];exact ⟨h 0 (by simp) (by simp),fitR_of (by simpa using hl) λj h1 h2=>h (j+1) (by simpa using h1) (by simpa using h2)⟩
theorem d112 (r:List V) (ts:List Int) (hr:r.length<4611686018427387904):Spec0 Tryz.prog 112 [rowA r,intsL ts,.fn 113 []] (·=bA (fitR r ts)):=by
 refine spec0_of_vc tabOk elems ord112 Tryz.func112 rfl (rl:=[.tmp 6]) rfl (by kernel_rfl) rfl ?_;refine B7 ?_;refine VIF.split (λh=>?_) (λh=>?_)
 ·have h:r.length≠ts.length:=by simp at h;omega
  refine Aa ?_;have:fitR r ts=false:=by
   cases e:fitR r ts with
   | false=>rfl
   | true=>exact absurd (fitR_len e) h
  rw[this];rfl
 have h:r.length=ts.length:=by simp at h;omega
 refine Aa ?_;refine LOOP.mk (ι:={i:Nat//i<=r.length/\∀j (h1:j<r.length) (h2:j<ts.length),j<i->fitsV r[j] ts[j]=true}) (λp=>mkS [(1,intsL ts),(2,.fn 113 []),(15,rowA r),(16,iA r.length),(17,iA p.1)] [] []) (λp=>r.length-p.1) ⟨0,Nat.zero_le _,λj _ _ h=>absurd h (Nat.not_lt_zero _)⟩ [] rfl rfl ?_ (λp=>?_)
 ·refine Bf ?_;exact ⟨id,rfl⟩
 obtain ⟨i,hi,hg⟩:=p;refine Bf ?_;refine VIF.split (λh1=>?_) (λh1=>?_)
 ·have h1:i<r.length:=(by simpa using h1);have h2:i<ts.length:=(by omega);have w1:=wrap_add1 (show i<4611686018427387904 by omega);refine Aa ?_;refine EL.map h1 ?_;refine Bb ?_;refine EL.map h2 ?_;refine Bb ?_;refine .pure _ (show Spec0 Tryz.prog 113 [.ag r[i].c,iA ts[i]] _ from d113 r[i] ts[i]) rfl λq hq _=>?_;subst hq;refine Ac ?_;refine VIF.split (λh3=>?_) (λh3=>?_)
  ·have h3:fitsV r[i] ts[i]=false:=(by simpa using h3);refine Aa ?_;have:fitR r ts=false:=by
    cases e:fitR r ts with
    | false=>rfl
    | true=>rw[fitR_at e i h1 h2] at h3;cases h3
   rw[this];rfl
  ·have h3:fitsV r[i] ts[i]=true:=(by simpa using h3);refine Af ?_;refine BACK.mk ⟨i+1,by omega,λj q1 q2 hji=>if e:j=i then (by subst e;exact h3) else hg j q1 q2 (by omega)⟩ [] rfl rfl (by show r.length-(i+1)<r.length-i;omega) ?_;refine Dh ?_;exact id
 ·have h1:i=r.length:=by simp at h1;omega
  refine Aa ?_;rw[fitR_of h λj q1 q2=>hg j q1 q2 (by omega)];rfl
theorem d55 (r:List V) (ts:List Int) (hr:r.length<4611686018427387904):Spec0 Tryz.prog 55 [rowA r,intsL ts] (·=bA (fitR r ts)):=by refine spec0_of_vc tabOk elems ord55 Tryz.func55 rfl (rl:=[.tmp 4]) rfl (by kernel_rfl) rfl ?_;refine B7 ?_;refine .pure _ (show Spec0 Tryz.prog 112 [rowA r,intsL ts,.fn 113 []] _ from d112 r ts hr) rfl λq hq _=>?_;subst hq;exact Am
theorem d133 (v:V):Spec0 Tryz.prog 133 [.ag v.c] (·=bA (smallV v)):=by
 refine spec0_of_vc tabOk elems ord133 Tryz.func133 rfl (rl:=[.tmp 2]) rfl (by kernel_rfl) rfl ?_;refine Ah ?_;refine .pure _ (show Spec0 Tryz.prog 159 [.ag v.c] _ from s69 v) rfl λq hq _=>?_;subst hq;refine Ab ?_;refine VIF.split (λh=>?_) (λh=>?_)
 ·have h:okV v=true:=by
   cases e:okV v with
   | true=>rfl
   | false=>rw[e] at h;simp at h
  refine Aa ?_;refine VIF.split (λh2=>?_) (λh2=>?_)
  ·have h2:v.k≠3:=(by simpa using h2);refine Aa ?_;simp[smallV,h,h2,bA]
  ·have h2:v.k=3:=(by simpa using h2);refine Aa ?_;refine .pure _ (show Spec0 Tryz.prog 178 [iA v.i,iA 2147483648] _ from s74 v.i 2147483648 (by decide) (by decide)) rfl λq hq _=>?_;subst hq;refine Ac ?_;simp[smallV,h,h2]
 ·have h:okV v=false:=by
   cases e:okV v with
   | false=>rfl
   | true=>rw[e] at h;simp at h
  refine Aa ?_;simp[smallV,h,bA]
theorem d132 (v:V):Spec0 Tryz.prog 132 [.ag v.c] (·=bA (!smallV v)):=by refine spec0_of_vc tabOk elems ord132 Tryz.func132 rfl (rl:=[.tmp 2]) rfl (by kernel_rfl) rfl ?_;refine Ah ?_;refine .pure _ (show Spec0 Tryz.prog 133 [.ag v.c] _ from d133 v) rfl λq hq _=>?_;subst hq;exact Am
theorem d131 (a:List V) (ha:a.length<4611686018427387904):Spec0 Tryz.prog 131 [rowA a,.fn 132 []] (·=bA (a.any λv=>!smallV v)):=by refine spec0_of_vc tabOk elems ord131 Tryz.func131 rfl (rl:=[.tmp 4]) rfl (by kernel_rfl) rfl ?_;refine Au ?_;refine .pure _ (s68 132 [] rfl (λv=>!smallV v) (λv=>d132 v) a ha) rfl λr hr _=>?_;subst hr;refine Bu ?_;rw[idx_any];simp[bA]
theorem d76 (t:It) (f:List Int) (ht:t.row.length<4611686018427387904):Spec0 Tryz.prog 76 [.ag t.c,intsL (4::f)] (·=bA (wrongI f t)):=by
 refine spec0_of_vc tabOk elems ord76 Tryz.func76 rfl (rl:=[.tmp 4]) rfl (by kernel_rfl) rfl ?_;(simp -implicitDefEqProofs only[go_sem,It.c,iA,intsL];repeat (refine GO ?_;simp -implicitDefEqProofs only[go_sem,It.c,iA,intsL]));have bad1:t.w≠1->wrongI f t=true:=λh=>by simp[wrongI,h]
 refine VIF.split (λh1=>?_) (λh1=>?_)
 ·have h1:t.w≠1:=(by simpa using h1);refine Aa ?_;all_goals rw[bad1 h1]<;>rfl
 have h1:t.w=1:=by simpa using h1
 refine Au ?_;refine .pure _ (show Spec0 Tryz.prog 55 [rowA t.row,intsL (4::f)] _ from d55 t.row (4::f) ht) rfl λq hq _=>?_;subst hq;refine Ac ?_;refine VIF.split (λh2=>?_) (λh2=>?_)
 ·have h2:fitR t.row (4::f)=false:=(by simpa using h2);refine Aa ?_;have:wrongI f t=true:=(by simp[wrongI,h2]);rw[this];rfl
 have h2:fitR t.row (4::f)=true:=by simpa using h2
 have hl:=fitR_len h2;have h0:0<t.row.length:=by rw[hl];simp
 have hg:getV t.row 0=t.row[0]:=by simp[getV,h0]
 refine Au ?_;refine ⟨by omega,EL.map h0 ?_⟩;refine Ah ?_;refine VIF.split (λh3=>?_) (λh3=>?_)
 ·have h3:(getV t.row 0).k≠4:=by rw[hg];simpa using h3
  refine Aa ?_;have:wrongI f t=true:=(by simp[wrongI,h3]);rw[this];rfl
 have h3:(getV t.row 0).k=4:=by rw[hg];simpa using h3
 refine Au ?_;refine .pure _ (show Spec0 Tryz.prog 131 [rowA t.row,.fn 132 []] _ from d131 t.row ht) rfl λq hq _=>?_;subst hq;refine Ac ?_;have:wrongI f t=t.row.any λv=>!smallV v:=by simp[wrongI,h1,h2,h3]
 rw[this]
theorem d74 (g:Nat) (caps:List AV) (hc:noIds caps=true) (p:It->Bool) (B:It->Prop) (hg:∀t:It,B t->Spec0 Tryz.prog g (.ag t.c::caps) (·=bA (p t))) (a:List It) (hB:∀t∈a,B t) (ha:a.length<4611686018427387904) :
 Spec0 Tryz.prog 74 [setA a,.fn g caps] (·=bA (a.any p)):=by
 refine spec0_of_vc tabOk elems ord74 Tryz.func74 rfl (rl:=[.tmp 4]) rfl (by kernel_rfl) rfl ?_;refine Ad ?_;refine .pure _ (show Spec0 Tryz.prog 105 [setA a,.fn g caps] _ from s47 g caps hc p B hg a hB ha) (by simp only[noIds,AV.noId,hc,setA,Bool.and_true,Bool.and_self]) λr hr _=>?_;subst hr;refine Bu ?_;rw[idx_any];rfl
theorem d75 (t:It) (f:List Int) (ht:t.row.length<4611686018427387904):Spec0 Tryz.prog 75 [.ag t.c,.ro [intsL (4::f)] 0] (·=bA (wrongI f t)):=by refine spec0_of_vc tabOk elems ord75 Tryz.func75 rfl (rl:=[.tmp 3]) rfl (by kernel_rfl) rfl ?_;refine Ap ?_;refine .pure _ (show Spec0 Tryz.prog 76 [.ag t.c,intsL (4::f)] _ from d76 t f ht) rfl λq hq _=>?_;subst hq;exact Am
theorem lent_fn1 {objs:Nat->Option Ob} {g:Nat} {a a':AV} (h:Lent objs a a'):Lent objs (.fn g [a]) (.fn g [a']):=
 .fn rfl λj x x' h1 h2=>by
  cases j with
  | zero=>simp at h1 h2;subst h1;subst h2;exact h
  | succ j=>simp at h1
theorem lent_pt1 {objs:Nat->Option Ob} {id:Nat} {a a':AV} (ho:objs id=some ⟨1,[[a]]⟩) (h:Lent objs a a') (hl:a'.leaf=true):Lent objs (.pt id 0 0) (.ro [a'] 0):=
 .pt ho rfl rfl (λj x h=>by
  cases j with
  | zero=>simp at h;subst h;exact hl
  | succ j=>simp at h) λj x x' h1 h2=>by
  cases j with
  | zero=>simp at h1 h2;subst h1;subst h2;exact h
  | succ j=>simp at h1
open Classical in
noncomputable def tabErr (f:List Int) (z:List It):Int:=if formsE [f]≠0 then formsE [f] else if tabE f z then 0 else 1
theorem d27 (f:List Int) (z:List It) (hf:f.length<1073741824) (hl:z.length<4611686018427387904) (hr:∀t∈z,t.row.length<4611686018427387904):Spec0 Tryz.prog 27 [.ag [intsL f],setA z] (·=iA (tabErr f z)):=by
 refine spec0_of_vc tabOk elems ord27 Tryz.func27 rfl (rl:=[.tmp 4]) rfl (by kernel_rfl) rfl ?_;refine A3 ?_;refine .lendR (args':=[formsA [f]]) (d73 [f] (by simp) (by simpa using hf)) ⟨lent_leafy (o:=⟨1,[[intsL f]]⟩) (by (simp -implicitDefEqProofs only[go_sem,intsL];repeat (refine GO ?_;simp -implicitDefEqProofs only[go_sem,intsL]))) rfl (by simp) (by simp[Ob.leafy,AV.leaf,intsL]) (λx hx=>by simp at hx;subst hx;rfl),trivial⟩ (by rintro _ rfl;rfl) λq hq=>?_;subst hq;refine Ab ?_;refine VIF.split (λh=>?_) (λh=>?_)
 ·have h:formsE [f]≠0:=(by simpa using h);refine Aa ?_;rw[tabErr,if_pos h];rfl
 have h:formsE [f]=0:=by simpa using h
 have h0:¬formsE [f]≠0:=by simp[h]
 refine Ad ?_;refine ⟨by omega,?_⟩;refine .pure _ (show Spec0 Tryz.prog 54 [setA z] _ from s16 z hl hr) rfl λq hq _=>?_;obtain ⟨e,rfl,he,hg⟩:=hq;refine Ab ?_;have bad:¬tabE f z->AV.pr (.int .i64 1)=iA (tabErr f z):=λh=>by rw[tabErr,if_neg h0,if_neg h];rfl
 refine VIF.split (λh1=>?_) (λh1=>?_)
 ·have h1:e≠0:=(by simpa using h1);refine Aa ?_;exact bad λt=>h1 (hg.2 t.1)
 have h1:e=0:=by simpa using h1
 have g1:=hg.1 h1;refine Ad ?_;refine VIF.split (λh2=>?_) (λh2=>?_)
 ·have h2:1024<z.length:=by simp at h2;omega
  refine Aa ?_;exact bad λt=>by have:=t.2.1;omega
 have h2:z.length<=1024:=by simp at h2;omega
 refine Aw ?_
 refine .lendR (args':=[setA z,.fn 75 [.ro [intsL (4::f)] 0]]) (d74 75 [.ro [intsL (4::f)] 0] rfl (wrongI f) (λt=>t.row.length<4611686018427387904) (λt ht=>d75 t f ht) z hr hl)
  ⟨.same rfl,lent_fn1 (lent_pt1 (a:=.rf 16 0 (1+f.length)) Aj (lent_leafy (o:=io (4::f)) (by refine Aa ?_;rfl) rfl (by simp[io];omega) (io_leafy _) (λx hx=>by obtain ⟨v,_,rfl⟩:=List.mem_map.1 hx;rfl)) rfl),trivial⟩ (by rintro _ rfl;rfl) λq hq=>?_
 subst hq;refine Ac ?_;refine VIF.split (λh3=>?_) (λh3=>?_)
 ·refine Aa ?_;exact bad λt=>by rw[t.2.2] at h3;cases h3
 ·refine Aa ?_;rw[tabErr,if_neg h0,if_pos ⟨g1,h2,h3⟩];rfl
def plA (l:List PN):AV:=.im 14 (l.map PN.c)
structure PlSz (F:List (List Int)) (l:List PN):Prop where
 fl:F.length<1073741824
 ff:∀f∈F,f.length<1073741824
 ll:l.length<1073741824
 cl:∀x∈l,x.cols.length<1073741824/\x.others.length<1073741824
def lastN (F:List (List Int)) (l:List PN):Nd:=(planN F l).getLast?.getD ⟨[],0,0⟩
def LastR (F:List (List Int)) (l:List PN) (r:AV):Prop:=∃c1 c2 c3 e,r=.tu [.ag [c1,c2,c3],iA e]/\(c1.leaf&&c2.leaf&&c3.leaf)=true/\e=planE F l/\(e=0->AV.ag [c1,c2,c3]=.ag (lastN F l).c)/\(e≠0->AV.ag [c1,c2,c3]=.ag [.nl,iA 0,iA 0])
theorem last_bad {F:List (List Int)} {l:List PN} {e:Int} (he:e=planE F l) (h0:e≠0):(LastR F l (.tu [.ag [.nl,iA 0,iA 0],iA e])/\(AV.tu [.ag [.nl,iA 0,iA 0],iA e]).noId=true)/\noOb=noOb:=
 ⟨⟨⟨_,_,_,e,rfl,rfl,he,λh=>absurd h h0,λ_=>rfl⟩,rfl⟩,rfl⟩
theorem ndO_snoc {st:St} {m:List (Nat×Option Nat)} {D D':List Nd} {n:Nd} (h:D'=D++[n]):Es st m (List.map Nd.c D++[n.c]) (List.map Nd.c D'):=by subst h;rw[List.map_append];exact .same (ndO (D++[n])) _ _ (λx hx=>ndO_leafy (D++[n]) x (by rw[ndO,List.map_append];exact hx)) rfl
theorem planD_bad {F:List (List Int)} {l:List PN} {i:Nat} (hi:i<l.length) (hp:(planD F (l.take i) []).1=0) (h:lookE F (ndsTo F l i) l[i]≠0):(planD F l []).1=lookE F (ndsTo F l i) l[i]:=by
 have e:l=l.take i++(l[i]::l.drop (i+1)):=by rw[<- List.drop_eq_getElem_cons hi,List.take_append_drop]
 have h1:=planD_app F (l.take i) (l[i]::l.drop (i+1)) [] hp;rw[<- e] at h1;rw[h1];have h':¬lookE F (planD F (l.take i) []).2 l[i]=0:=h;simp only[planD,if_neg h'];rfl
theorem planD_good {F:List (List Int)} {l:List PN} {i:Nat} (hi:i<l.length) (hp:(planD F (l.take i) []).1=0) (h:lookE F (ndsTo F l i) l[i]=0):(planD F (l.take (i+1)) []).1=0/\ndsTo F l (i+1)=ndsTo F l i++[lookN F (ndsTo F l i) l[i]]:=by
 have h1:=planD_app F (l.take i) [l[i]] [] hp;rw[<- List.take_succ_eq_append_getElem hi] at h1;have h':lookE F (planD F (l.take i) []).2 l[i]=0:=h;constructor
 ·rw[h1];simp only[planD,if_pos h']
 ·simp only[ndsTo,planN];rw[h1];simp only[planD,if_pos h']
theorem ndsTo_bd2 {F:List (List Int)} {l:List PN} (hF:formsE F=0):∀(i:Nat),i<=l.length->(planD F (l.take i) []).1=0->∀n∈ndsTo F l i,Ndb n:=λi hi hp=>by
 have e:ndsTo F l i=ndsTo F (l.take i) (l.take i).length:=by rw[ndsTo,ndsTo,List.take_length]
 rw[e];exact ndsTo_bd hF hp _ (Nat.le_refl _)
theorem ndsTo_len2 {F:List (List Int)} {l:List PN} (i:Nat) (hi:i<=l.length) (hp:(planD F (l.take i) []).1=0):(ndsTo F l i).length=i:=by have:=planD_len F (l.take i) [] hp;simp only[ndsTo,planN];rw[this];simp;omega
theorem d108 (F:List (List Int)) (l:List PN) (h:PlSz F l):Spec0 Tryz.prog 108 [plA l,formsA F] (LastR F l):=by
 refine spec0_of_vc tabOk elems og108 Tryz.func108 rfl (rl:=[.cell 4 146,.tmp 5]) rfl (by kernel_rfl) rfl ?_;refine Cf ?_;refine .pure _ (show Spec0 Tryz.prog 73 [formsA F] _ from d73 F h.fl h.ff) rfl λq hq _=>?_;subst hq;refine Ab ?_;refine VIF.split (λh1=>?_) (λh1=>?_)
 ·have h1:formsE F≠0:=(by simpa using h1);refine Aa ?_;exact ⟨rfl,(last_bad (by rw[planE,if_pos h1]) h1).1.1⟩
 have h1:formsE F=0:=by simpa using h1
 have h1':¬formsE F≠0:=by simp[h1]
 refine Aa ?_;refine VIF.split (λh2=>?_) (λh2=>?_)
 ·have h2:l.length<1:=by simp at h2;omega
  refine Aa ?_;exact ⟨rfl,(last_bad (by rw[planE,if_neg h1',if_pos (.inl h2)]) (by decide)).1.1⟩
 have h2:¬l.length<1:=by simp at h2;omega
 refine Aa ?_;refine VIF.split (λh3=>?_) (λh3=>?_)
 ·have h3:12<l.length:=by simp at h3;omega
  refine Aa ?_;exact ⟨rfl,(last_bad (by rw[planE,if_neg h1',if_pos (.inr h3)]) (by decide)).1.1⟩
 have h3:¬12<l.length:=by simp at h3;omega
 have h23:¬(l.length<1\/12<l.length):=by omega
 have hpe:planE F l=(planD F l []).1:=by rw[planE,if_neg h1',if_neg h23]
 refine Cc ?_
 refine LOOP.mk (ι:={i:Nat//i<=l.length/\(planD F (l.take i) []).1=0})
  (λp=>mkS [(0,plA l),(4,.pt 1004 0 0),(7,.pt 1001 0 0),(32,plA l),(33,iA l.length),(34,iA p.1)] [(1000,ndO (ndsTo F l p.1)),(1001,boxO F 1000 (ndsTo F l p.1).length),(1004,⟨3,[[.nl,iA 0,iA 0]]⟩)] [1000,1001,1004])
  (λp=>l.length-p.1) ⟨0,Nat.zero_le _,rfl⟩ [(1000,none),(1001,some 31),(1004,some 4)] rfl rfl ?_ (λp=>?_)
 ·(simp -implicitDefEqProofs only[go_sem,boxO,formsA,iA,ndO,plA];repeat (refine GO ?_;simp -implicitDefEqProofs only[go_sem,boxO,formsA,iA,ndO,plA]));refine ⟨id,rfl,rfl,.cons (by simp[wk.wks,wk,nms,ndsTo,planN,planD]) .nil,.same ⟨3,[[.nl,.pr (.int .i64 0),.pr (.int .i64 0)]]⟩ _ _ (by simp[Ob.leafy,AV.leaf]) rfl⟩
 obtain ⟨i,hi,hp⟩:=p;(simp -implicitDefEqProofs only[go_sem,boxO,iA,ndO,plA];repeat (refine GO ?_;simp -implicitDefEqProofs only[go_sem,boxO,iA,ndO,plA]));refine VIF.split (λh4=>?_) (λh4=>?_)
 ·have h4:i<l.length:=(by simpa using h4);have hm:=List.getElem_mem h4;have w1:=wrap_add1 (show i<4611686018427387904 by omega);refine Aa ?_;refine EL.map h4 ?_;refine A4 ?_;have hD:=ndsTo_len2 i hi hp;have nb:=ndsTo_bd2 h1 i hi hp;have spec:=d157 F (ndsTo F l i) l[i] (by omega) h.fl h.ff nb (h.cl _ hm).1 (h.cl _ hm).2;obtain ⟨D,hDD⟩:∃D,D=ndsTo F l i:=⟨_,rfl⟩;rw[<- hDD] at spec hD ⊢;refine CALL.walk2 spec rfl (d:=1000) (by decide) Aj Aj (by simp) (by simp) 100000 (by simp) _ rfl λr hr=>?_;obtain ⟨c1,c2,c3,e,rfl,hl,he,hv⟩:=hr;refine Ab ?_;refine VIF.split (λh5=>?_) (λh5=>?_)
  ·have h5:e≠0:=(by simpa using h5);refine Aa ?_;refine ⟨rfl,(last_bad ?_ h5).1.1⟩;rw[hpe,planD_bad h4 hp (by rw[<- hDD,<- he];exact h5),he,hDD]
  have h5:e=0:=(by simpa using h5);have hc:=hv h5;injection hc with hc
  simp only[Nd.c,List.cons.injEq,and_true] at hc;obtain ⟨rfl,rfl,rfl⟩:=hc;obtain ⟨g1,g2⟩:=planD_good h4 hp (by rw[<- hDD,<- he];exact h5);refine Ab ?_;refine ⟨by omega,?_⟩;refine Bc ?_;refine BACK.mk ⟨i+1,by omega,g1⟩ [(1000,some 55),(1001,some 1001),(1004,some 1004)] rfl rfl (by show l.length-(i+1)<l.length-i;omega) ?_;(simp -implicitDefEqProofs only[go_sem,boxO,formsA,iA,ndO,plA,w1];repeat (refine GO ?_;simp -implicitDefEqProofs only[go_sem,boxO,formsA,iA,ndO,plA,w1]));refine ⟨id,?_,.cons (by simp[wk.wks,wk,nms,g2,<- hDD]) .nil,.same ⟨3,[[.nl,.pr (.int .i64 0),.pr (.int .i64 0)]]⟩ _ _ (by simp[Ob.leafy,AV.leaf]) rfl⟩;try rw[List.take_of_length_le (l:=List.map Nd.c D) (by simp)]
  exact ndO_snoc (n:=lookN F D l[i]) (by rw[g2,<- hDD])
 ·have h4:i=l.length:=by simp at h4;omega
  subst h4;have hD:=ndsTo_len2 l.length hi hp;have w2:IntKind.i64.wrap ((l.length:Int)-1)=((l.length-1:Nat):Int):=by rw[wrap_i64]<;>omega
  (simp -implicitDefEqProofs only[go_sem,iA,plA,w2];repeat (refine GO ?_;simp -implicitDefEqProofs only[go_sem,iA,plA,w2]));obtain ⟨D,hDD⟩:∃D,D=ndsTo F l l.length:=⟨_,rfl⟩;rw[<- hDD] at hD ⊢;refine ⟨by omega,EL.map (show l.length-1<D.length by omega) ?_⟩;refine Bl ?_;have hz:(planD F l []).1=0:=by rw[List.take_length] at hp;exact hp
  refine ⟨rfl,_,_,_,0,rfl,rfl,by rw[hpe,hz],λ_=>?_,λh=>absurd rfl h⟩;have e:planN F l=D:=(by rw[hDD,ndsTo,List.take_length]);have:lastN F l=D[l.length-1]'(by omega):=by simp only[lastN,e,List.getLast?_eq_getElem?,hD];rw[List.getElem?_eq_getElem (by omega)];rfl
  rw[this];rfl
theorem d109 (a:List Int) (hl:a.length<=1073741824):Spec1 Tryz.prog 109 [intsL a] (λr o=>r=.rf 0 0 a.length/\o=io a):=by
 refine spec1_of_vc tabOk elems ord109 Tryz.func109 rfl (rl:=[.tmp 2]) rfl (by kernel_rfl) rfl ?_;refine A3 ?_;refine ⟨⟨_,rfl⟩,λb hb=>?_⟩;refine VIF.split (λh=>?_) (λh=>?_)
 ·have hz:a=[]:=(by simpa using hb (by simpa using h));subst hz;refine Aa ?_;refine FINmk [(0,none)] [(2,.rf 0 0 0)] [(0,io [])] [0] rfl ?_ ?_
  ·refine Aa ?_;simp[io]
  ·exact ⟨io [],⟨⟨rfl,rfl⟩,rfl⟩,io_leafy [],rfl⟩
 ·refine Aa ?_;refine ⟨by omega,?_⟩;refine FINmk [(0,some 7)] [(2,.rf 0 0 a.length)] [(0,io a)] [0] rfl ?_ ?_
  ·refine D3 ?_;exact .same (io a) _ _ (io_leafy a) rfl
  ·exact ⟨io a,⟨⟨rfl,rfl⟩,rfl⟩,io_leafy a,rfl⟩
theorem d109z (a:List Int) (hl:a.length<=1073741824):Spec0 Tryz.prog 109 [intsL a] (·=intsL a):=Spec1.intsC (d109 a hl)
theorem d109n:Spec0 Tryz.prog 109 [.nl] (·=intsL []):=spec_nl (d109z [] (by simp)) (by simp[nlOk,intsL])
theorem lastN_tl {F:List (List Int)} {l:List PN} (h:planE F l=0):(lastN F l).types.length<=12/\0<l.length/\Ndb (lastN F l):=by
 rw[planE] at h;split at h
 ·rename_i h1;exact absurd h h1
 split at h
 ·cases h
 rename_i h1 h2;have h3:=ndsTo_bd (by simpa using h1) h l.length (Nat.le_refl _);have h4:=ndsTo_len h (Nat.le_refl l.length);have e:planN F l=ndsTo F l l.length:=by rw[ndsTo,List.take_length]
 have:lastN F l∈ndsTo F l l.length:=by rw[lastN,e,List.getLast?_eq_getElem?,List.getElem?_eq_getElem (by omega)];exact List.getElem_mem _
 exact ⟨(h3 _ this).tl,by omega,h3 _ this⟩
theorem d52 (F:List (List Int)) (l:List PN) (h:PlSz F l):Spec0 Tryz.prog 52 [plA l,formsA F] (λr=>∃t,r=.tu [intsL t,iA (planE F l)]/\(planE F l=0->t=(lastN F l).types)/\(planE F l≠0->t=[])):=by
 refine spec0_of_vc tabOk elems ord52 Tryz.func52 rfl (rl:=[.tmp 4,.tmp 5]) rfl (by kernel_rfl) rfl ?_;refine Cf ?_;refine .pure _ (show Spec0 Tryz.prog 108 [plA l,formsA F] _ from d108 F l h) rfl λq hq _=>?_;obtain ⟨c1,c2,c3,e,rfl,hl,he,h0,h1⟩:=hq;by_cases hz:e=0
 ·have hc:=h0 hz;injection hc with hc
  simp only[Nd.c,List.cons.injEq,and_true] at hc;obtain ⟨rfl,rfl,rfl⟩:=hc;refine Ab ?_;refine .pure _ (d109z (lastN F l).types (by have:=(lastN_tl (he.symm.trans hz)).1;omega)) rfl λq hq _=>?_;subst hq;refine Aa ?_;refine ⟨rfl,_,by rw[he];rfl,λ_=>rfl,λg=>absurd (he.symm.trans hz) g⟩
 ·have hc:=h1 hz;injection hc with hc
  simp only[List.cons.injEq,and_true] at hc;obtain ⟨rfl,rfl,rfl⟩:=hc;refine Ab ?_;refine .pure _ d109n rfl λq hq _=>?_;subst hq;refine Aa ?_;refine ⟨rfl,_,by rw[he];rfl,λg=>absurd (he.trans g) hz,λ_=>rfl⟩
def doO (S:List (List It)):Ob:=⟨1,S.map λz=>[setA z]⟩
theorem doO_leafy (S:List (List It)):(doO S).leafy:=by rw[doO,leafy_do];exact leafs2_map λx _=>by simp[leafs,setA,AV.leaf]
structure NodeOk (F:List (List Int)) (D:List Nd) (S tabs:List (List It)) (x:PN):Prop where
 hF:formsE F=0
 look:lookE F D x=0
 tabs:TabsE F tabs
 sets:Sets S D
 rows:∀z∈S,z.length<=500000
 join:x.kind=4->(setAt S x.a).length*(setAt S x.b).length<=1048576
 cl:x.cols.length<1073741824/\x.others.length<1073741824
theorem projR_X {z out:List It} {cols:List Int} {err:Int} (hz:∀t∈z,pickE t.row cols=0) (h:ProjR z cols out err):ProjX z cols out err:=by
 rcases h with ⟨h1,h2,h3⟩|⟨h1,⟨t,ht,h2⟩,h3,h4⟩|⟨h1,h2,h3⟩
 ·exact .inl ⟨h1,h2,h3⟩
 ·exact absurd (h2.symm.trans (hz t ht)) h3
 ·exact .inr (.inr ⟨h1,h2,h3⟩)
theorem filtE_ok {D:List Nd} {x:PN} (h:filtE D x=0):inC x.a D.length=true:=by simp only[filtE] at h;split at h<;>simp_all
theorem distE_ok {D:List Nd} {x:PN} (h:distE D x=0):inC x.a D.length=true:=by simp only[distE] at h;split at h<;>simp_all
theorem scanE_ok {F:List (List Int)} {x:PN} (h:scanE F x=0):inC x.table F.length=true:=by simp only[scanE] at h;split at h<;>simp_all
theorem projE_ok {D:List Nd} {x:PN} (h:projE x D=0):inC x.a D.length=true/\x.cols.any (outC (ndAt D x.a).types.length)=false/\x.cols.length<=12:=by
 simp only[projE] at h;split at h
 ·cases h
 rename_i h1;split at h
 ·cases h
 simp only[not_or,Bool.not_eq_true] at h1;exact ⟨inC_of_not (by simpa using h1.1),h1.2,by omega⟩
theorem joinE_ok {D:List Nd} {x:PN} (h:joinE x D=0):inC x.a D.length=true/\inC x.b D.length=true/\x.cols.length=x.others.length/\(ndAt D x.a).types.length+(ndAt D x.b).types.length<=12/\(ndAt D x.a).w*(ndAt D x.b).w<=1125899906842624:=by
 simp only[joinE] at h;split at h
 ·cases h
 rename_i h1;split at h
 ·cases h
 rename_i h2;split at h
 ·cases h
 rename_i h3;split at h
 ·cases h
 split at h
 ·cases h
 rename_i h5;simp only[not_or,Decidable.not_not] at h1 h3 h5;exact ⟨inC_of_not h1.1,inC_of_not h1.2,h3.1,by omega,h5⟩
theorem bothE_ok {D:List Nd} {x:PN} (h:bothE x D=0):inC x.a D.length=true/\inC x.b D.length=true/\(ndAt D x.a).types=(ndAt D x.b).types/\(ndAt D x.a).w+(ndAt D x.b).w<=1125899906842624:=by
 simp only[bothE] at h;split at h
 ·cases h
 rename_i h1;split at h
 ·cases h
 rename_i h2;split at h
 ·cases h
 rename_i h5;simp only[not_or,Decidable.not_not] at h1 h2;exact ⟨inC_of_not h1.1,inC_of_not h1.2,h2,by omega⟩
theorem grpE_ok {D:List Nd} {x:PN} (h:grpE x D=0):inC x.a D.length=true/\(1<=x.agg/\x.agg<=4)/\x.cols.any (outC (ndAt D x.a).types.length)=false/\x.cols.length<12/\(x.agg≠1->inC x.col (ndAt D x.a).types.length=true)/\(x.agg=2->getI (ndAt D x.a).types x.col=3)/\aggV x.agg (ndAt D x.a)<=1152921504606846976:=by
 simp only[grpE] at h;split at h
 ·cases h
 rename_i h1;split at h
 ·cases h
 rename_i h2;split at h
 ·cases h
 rename_i h3;split at h
 ·cases h
 rename_i h4;split at h
 ·cases h
 rename_i h5;simp only[not_or,not_and,Decidable.not_not,Bool.not_eq_true] at h1 h2 h4;exact ⟨inC_of_not (by simpa using h1.1),⟨by omega,by omega⟩,h2.1,by omega,λe=>inC_of_not (by simpa using h2.2 e),h4,by omega⟩
theorem d72 (F:List (List Int)) (D:List Nd) (S tabs:List (List It)) (x:PN) (h:NodeOk F D S tabs x) :
 SpecO Tryz.prog 72 [.ag x.c,.rf 0 0 S.length,setsA tabs] (doO S) (λr o'=>∃out,r=.tu [setA out,iA 0]/\o'=doO S/\NodeR x S tabs out):=by
 have fin:∀(out:List It) (s:St),s.objs 0=some (doO S)->s.regs 6=setA out->s.regs 7=iA 0->NodeR x S tabs out->FIN T (upd noOb 0 (some (doO S))) [.tmp 6,.tmp 7] (λr O'=>∃o',((∃out,r=.tu [setA out,iA 0]/\o'=doO S/\NodeR x S tabs out)/\r.noId=true)/\o'.leafy/\O'=upd noOb 0 (some o')) s:=by
  intro out s h0 h6 h7 hn;refine FIN_B (o':=doO S) (rl:=[(6,setA out),(7,iA 0)]) h0 (doO_leafy S) ?_ ?_
  ·simp -implicitDefEqProofs only[go_sem,h6,h7,iA,setA]
  ·simp -implicitDefEqProofs only[go_sem,iA,setA];exact ⟨doO S,⟨⟨out,rfl,rfl,hn⟩,rfl⟩,doO_leafy S,rfl⟩
 have hlook:=h.look;have at_:∀{k:Int},inC k D.length=true->∃hk:k.toNat<S.length,0<=k/\k<S.length/\setAt S k=S[k.toNat]'hk/\Nds (S[k.toNat]'hk) (ndAt D k)/\Ndb (ndAt D k)/\(S[k.toNat]'hk).length<=500000/\∀t∈S[k.toNat]'hk,t.row.length<1073741824:=λ{k} hk=>by obtain ⟨g1,g2⟩:=h.sets.at hk;simp only[inC,Bool.and_eq_true,decide_eq_true_eq] at hk;have hl:=h.sets.len;have h2:k.toNat<S.length:=(by omega);rw[setAt_eq h2] at g1;exact ⟨h2,hk.1,by omega,setAt_eq h2,g1,g2,h.rows _ (List.getElem_mem h2),λt ht=>by have:=g1.r12 t ht;omega⟩
 refine specO_of_vc tabOk elems ord72 Tryz.func72 rfl (rl:=[.tmp 6,.tmp 7]) rfl (by kernel_rfl) rfl ?_;refine En ?_;refine VIF.split (λk1=>?_) (λk1=>?_)
 ·have k1:x.kind=1:=(by simpa using k1);have n2:¬x.kind=2:=(by omega);have n3:¬x.kind=3:=(by omega);have n4:¬x.kind=4:=(by omega);have n5:¬x.kind=5:=(by omega);have n6:¬x.kind=6:=(by omega);have n7:¬x.kind=7:=(by omega);have n8:¬x.kind=8:=(by omega);have hl:scanE F x=0:=(by simpa only[lookE,n2,n3,n4,n5,n6,n7,n8,k1,if_true,if_false,or_false,false_or,or_self,true_or,or_true,reduceCtorEq,Int.reduceEq,Int.reduceNe] using hlook);have hi:=scanE_ok hl;simp only[inC,Bool.and_eq_true,decide_eq_true_eq] at hi;have h1:x.table.toNat<F.length:=(by omega);have h2:x.table.toNat<tabs.length:=by rw[h.tabs.1];exact h1
  have g:=nd_scan (h.tabs.2 _ h1 h2);refine En ?_;refine ⟨hi.1,EL.map h2 ?_⟩;refine Aa ?_;refine .pure _ (Spec1.setC (s57 (tabs[x.table.toNat]'h2) (by have:=(h.tabs.2 _ h1 h2).2.1;omega) (λt ht=>by have:=g.r12 t ht;omega))) rfl λq hq _=>?_;subst hq;refine Ad ?_;exact fin (tabs[x.table.toNat]'h2) _ (by refine Aw ?_;rfl) C1 Ai (by simp only[NodeR,n2,n3,n4,n5,n6,n7,n8,k1,if_true,if_false,Int.reduceEq];rw[setAt_eq h2])
 have k1:x.kind≠1:=by simpa using k1
 refine Av ?_;refine VIF.split (λk2=>?_) (λk2=>?_)
 ·have k2:x.kind=2:=(by simpa using k2);have n1:¬x.kind=1:=(by omega);have n3:¬x.kind=3:=(by omega);have n4:¬x.kind=4:=(by omega);have n5:¬x.kind=5:=(by omega);have n6:¬x.kind=6:=(by omega);have n7:¬x.kind=7:=(by omega);have n8:¬x.kind=8:=(by omega);have hl:filtE D x=0:=(by simpa only[lookE,n1,n3,n4,n5,n6,n7,n8,k2,if_true,if_false,or_false,false_or,or_self,true_or,or_true,reduceCtorEq,Int.reduceEq,Int.reduceNe] using hlook);obtain ⟨ha,ha0,ha1,ea,na,ba,la,ra⟩:=at_ (filtE_ok hl);refine Av ?_;refine ⟨⟨ha0,ha1⟩,EL.map ha ?_⟩;refine Av ?_;refine .pure _ (show Spec0 Tryz.prog 40 [setA (S[x.a.toNat]'ha),.ag x.pred.c] _ from Spec1.setE (c51 (S[x.a.toNat]'ha) x.pred (by omega) ra)) rfl λq hq _=>?_;obtain ⟨out,e,rfl,hq⟩:=hq;obtain ⟨rfl,rfl⟩:=filt_ok na.good hq;refine Ao ?_;exact fin ((S[x.a.toNat]'ha).filter λt=>holdsP x.pred t.row) _ (by refine Aw ?_;rfl) C1 Ai (by simp only[NodeR,n1,n3,n4,n5,n6,n7,n8,k2,if_true,if_false,Int.reduceEq];rw[ea])
 have k2:x.kind≠2:=by simpa using k2
 refine Av ?_;refine VIF.split (λk3=>?_) (λk3=>?_)
 ·have k3:x.kind=3:=(by simpa using k3);have n1:¬x.kind=1:=(by omega);have n2:¬x.kind=2:=(by omega);have n4:¬x.kind=4:=(by omega);have n5:¬x.kind=5:=(by omega);have n6:¬x.kind=6:=(by omega);have n7:¬x.kind=7:=(by omega);have n8:¬x.kind=8:=(by omega);have hl:projE x D=0:=(by simpa only[lookE,n1,n2,n4,n5,n6,n7,n8,k3,if_true,if_false,or_false,false_or,or_self,true_or,or_true,reduceCtorEq,Int.reduceEq,Int.reduceNe] using hlook);obtain ⟨hia,hc1,hc2⟩:=projE_ok hl;obtain ⟨ha,ha0,ha1,ea,na,ba,la,ra⟩:=at_ hia;refine Av ?_;refine ⟨⟨ha0,ha1⟩,EL.map ha ?_⟩;refine Av ?_;refine .pure _ (show Spec0 Tryz.prog 41 [setA (S[x.a.toNat]'ha),intsL x.cols] _ from Spec1.setE (c49 (S[x.a.toNat]'ha) x.cols (by omega) ra h.cl.1)) rfl λq hq _=>?_;obtain ⟨out,e,rfl,hq⟩:=hq;have hX:=projR_X (nd_pickE na hc1 hc2) hq;obtain ⟨rfl,_,_⟩:=nd_proj na ba hc1 hc2 hX;refine Ao ?_;exact fin out _ (by refine Aw ?_;rfl) C1 Ai (by simp only[NodeR,n1,n2,n4,n5,n6,n7,n8,k3,if_true,if_false,Int.reduceEq];rw[ea];exact hX)
 have k3:x.kind≠3:=by simpa using k3
 refine Av ?_;refine VIF.split (λk4=>?_) (λk4=>?_)
 ·have k4:x.kind=4:=(by simpa using k4);have n1:¬x.kind=1:=(by omega);have n2:¬x.kind=2:=(by omega);have n3:¬x.kind=3:=(by omega);have n5:¬x.kind=5:=(by omega);have n6:¬x.kind=6:=(by omega);have n7:¬x.kind=7:=(by omega);have n8:¬x.kind=8:=(by omega);have hl:joinE x D=0:=(by simpa only[lookE,n1,n2,n3,n5,n6,n7,n8,k4,if_true,if_false,or_false,false_or,or_self,true_or,or_true,reduceCtorEq,Int.reduceEq,Int.reduceNe] using hlook);obtain ⟨hia,hib,hc1,hc2,hc3⟩:=joinE_ok hl;obtain ⟨ha,ha0,ha1,ea,na,ba,la,ra⟩:=at_ hia;obtain ⟨hb,hb0,hb1,eb,nb,bb,lb,rb⟩:=at_ hib;refine Av ?_;refine ⟨⟨ha0,ha1⟩,EL.map ha ?_⟩;refine Av ?_;refine ⟨⟨hb0,hb1⟩,EL.map hb ?_⟩;refine Av ?_;refine .pure _ (show Spec0 Tryz.prog 42 [setA (S[x.a.toNat]'ha),setA (S[x.b.toNat]'hb),intsL x.cols,intsL x.others] _ from c26 (S[x.a.toNat]'ha) (S[x.b.toNat]'hb) x.cols x.others h.cl.1 h.cl.2 (by have:=h.join k4;rw[ea,eb] at this;exact this) (by omega) (by omega) ra rb) rfl λq hq _=>?_;obtain ⟨out,e,rfl,hq⟩:=hq;obtain ⟨rfl,_⟩:=nd_join na nb hc1 hc2 ba.w0 (by omega) hq;refine Ao ?_;exact fin out _ (by refine Aw ?_;rfl) C1 Ai (by simp only[NodeR,n1,n2,n3,n5,n6,n7,n8,k4,if_true,if_false,Int.reduceEq];rw[ea,eb];exact hq)
 have k4:x.kind≠4:=by simpa using k4
 refine Av ?_;refine VIF.split (λk5=>?_) (λk5=>?_)
 ·have k5:x.kind=5:=(by simpa using k5);have n1:¬x.kind=1:=(by omega);have n2:¬x.kind=2:=(by omega);have n3:¬x.kind=3:=(by omega);have n4:¬x.kind=4:=(by omega);have n6:¬x.kind=6:=(by omega);have n7:¬x.kind=7:=(by omega);have n8:¬x.kind=8:=(by omega);have hl:bothE x D=0:=(by simpa only[lookE,n1,n2,n3,n4,n6,n7,n8,k5,if_true,if_false,or_false,false_or,or_self,true_or,or_true,reduceCtorEq,Int.reduceEq,Int.reduceNe] using hlook);obtain ⟨hia,hib,hc1,hc2⟩:=bothE_ok hl;obtain ⟨ha,ha0,ha1,ea,na,ba,la,ra⟩:=at_ hia;obtain ⟨hb,hb0,hb1,eb,nb,bb,lb,rb⟩:=at_ hib;refine Av ?_;refine ⟨⟨ha0,ha1⟩,EL.map ha ?_⟩;refine Av ?_;refine ⟨⟨hb0,hb1⟩,EL.map hb ?_⟩;refine Av ?_;refine .pure _ (show Spec0 Tryz.prog 43 [setA (S[x.a.toNat]'ha),setA (S[x.b.toNat]'hb)] _ from Spec1.setE (c54 (S[x.a.toNat]'ha) (S[x.b.toNat]'hb) (by omega) ra rb)) rfl λq hq _=>?_;obtain ⟨out,e,rfl,hq⟩:=hq;obtain ⟨rfl,_⟩:=nd_add na nb hc1 (by omega) hq;refine Ao ?_;exact fin out _ (by refine Aw ?_;rfl) C1 Ai (by simp only[NodeR,n1,n2,n3,n4,n6,n7,n8,k5,if_true,if_false,Int.reduceEq];rw[ea,eb];exact hq)
 have k5:x.kind≠5:=by simpa using k5
 refine Av ?_;refine VIF.split (λk6=>?_) (λk6=>?_)
 ·have k6:x.kind=6:=(by simpa using k6);have n1:¬x.kind=1:=(by omega);have n2:¬x.kind=2:=(by omega);have n3:¬x.kind=3:=(by omega);have n4:¬x.kind=4:=(by omega);have n5:¬x.kind=5:=(by omega);have n7:¬x.kind=7:=(by omega);have n8:¬x.kind=8:=(by omega);have hl:bothE x D=0:=(by simpa only[lookE,n1,n2,n3,n4,n5,n7,n8,k6,if_true,if_false,or_false,false_or,or_self,true_or,or_true,reduceCtorEq,Int.reduceEq,Int.reduceNe] using hlook);obtain ⟨hia,hib,hc1,hc2⟩:=bothE_ok hl;obtain ⟨ha,ha0,ha1,ea,na,ba,la,ra⟩:=at_ hia;obtain ⟨hb,hb0,hb1,eb,nb,bb,lb,rb⟩:=at_ hib;refine Av ?_;refine ⟨⟨ha0,ha1⟩,EL.map ha ?_⟩;refine Av ?_;refine ⟨⟨hb0,hb1⟩,EL.map hb ?_⟩;refine Av ?_;refine .pure _ (show Spec0 Tryz.prog 44 [setA (S[x.a.toNat]'ha),setA (S[x.b.toNat]'hb)] _ from Spec1.setE (c55 (S[x.a.toNat]'ha) (S[x.b.toNat]'hb) (by omega) ra rb)) rfl λq hq _=>?_;obtain ⟨out,e,rfl,hq⟩:=hq;obtain ⟨rfl,_⟩:=nd_min na nb hc1 (by omega) hq;refine Ao ?_;exact fin out _ (by refine Aw ?_;rfl) C1 Ai (by simp only[NodeR,n1,n2,n3,n4,n5,n7,n8,k6,if_true,if_false,Int.reduceEq];rw[ea,eb];exact hq)
 have k6:x.kind≠6:=by simpa using k6
 refine Av ?_;refine VIF.split (λk7=>?_) (λk7=>?_)
 ·have k7:x.kind=7:=(by simpa using k7);have n1:¬x.kind=1:=(by omega);have n2:¬x.kind=2:=(by omega);have n3:¬x.kind=3:=(by omega);have n4:¬x.kind=4:=(by omega);have n5:¬x.kind=5:=(by omega);have n6:¬x.kind=6:=(by omega);have n8:¬x.kind=8:=(by omega);have hl:distE D x=0:=(by simpa only[lookE,n1,n2,n3,n4,n5,n6,n8,k7,if_true,if_false,or_false,false_or,or_self,true_or,or_true,reduceCtorEq,Int.reduceEq,Int.reduceNe] using hlook);obtain ⟨ha,ha0,ha1,ea,na,ba,la,ra⟩:=at_ (distE_ok hl);refine Av ?_;refine ⟨⟨ha0,ha1⟩,EL.map ha ?_⟩;refine Av ?_;refine .pure _ (show Spec0 Tryz.prog 45 [setA (S[x.a.toNat]'ha)] _ from c32 (S[x.a.toNat]'ha) (by omega) ra) rfl λq hq _=>?_;obtain ⟨out,e,rfl,hq⟩:=hq;have hq:e=0/\out=distL (S[x.a.toNat]'ha):=by
   rcases hq with ⟨g,_⟩|⟨_,h1,h2⟩
   ·exact absurd na.good g
   ·exact ⟨h2,h1⟩
  obtain ⟨rfl,rfl⟩:=hq;refine Ao ?_;exact fin (distL (S[x.a.toNat]'ha)) _ (by refine Aw ?_;rfl) C1 Ai (by simp only[NodeR,n1,n2,n3,n4,n5,n6,n8,k7,if_true,if_false,Int.reduceEq];rw[ea])
 have k7:x.kind≠7:=by simpa using k7
 have k8:x.kind=8:=by
  simp only[lookE,k1,k2,k3,k4,k5,k6,k7,if_false,or_self] at hlook;split at hlook
  ·assumption
  ·cases hlook
 have n1:¬x.kind=1:=by omega
 have n2:¬x.kind=2:=by omega
 have n3:¬x.kind=3:=by omega
 have n4:¬x.kind=4:=by omega
 have n5:¬x.kind=5:=by omega
 have n6:¬x.kind=6:=by omega
 have n7:¬x.kind=7:=by omega
 have hl:grpE x D=0:=by simpa only[lookE,n1,n2,n3,n4,n5,n6,n7,k8,if_true,if_false,or_false,false_or,or_self,true_or,or_true,reduceCtorEq,Int.reduceEq,Int.reduceNe] using hlook
 obtain ⟨hia,hk,hc1,hc2,hc3,hc4,hc5⟩:=grpE_ok hl;obtain ⟨ha,ha0,ha1,ea,na,ba,la,ra⟩:=at_ hia;refine Av ?_;refine ⟨⟨ha0,ha1⟩,EL.map ha ?_⟩;refine Av ?_;refine .pure _ (show Spec0 Tryz.prog 46 [setA (S[x.a.toNat]'ha),intsL x.cols,iA x.agg,iA x.col] _ from g67 (S[x.a.toNat]'ha) x.cols x.agg x.col (by omega) ra h.cl.1) rfl λq hq _=>?_;obtain ⟨out,e,rfl,hq⟩:=hq;obtain ⟨rfl,_⟩:=nd_group na ba hk hc1 hc2 hc3 hc4 hc5 hq;refine Ao ?_;exact fin out _ (by refine Aw ?_;rfl) C1 Ai (by simp only[NodeR,n1,n2,n3,n4,n5,n6,n7,k8,if_true,if_false,Int.reduceEq];rw[ea];exact hq)
def rowA_ (S:List Nat) (K:Nat) (k:Int):Nat:=if inC k S.length=true then (S[k.toNat]?).getD 0 else K
def rowsN (S:List Nat) (K:Nat) (x:PN):Nat:=
 if x.kind=1 then K else if x.kind=4 then rowA_ S K x.a*rowA_ S K x.b else if x.kind=5\/x.kind=6 then rowA_ S K x.a+rowA_ S K x.b else rowA_ S K x.a
def rowsL (K:Nat):List PN->List Nat->List Nat
 | [],S=>S
 | x::r,S=>rowsL K r (S++[rowsN S K x])
theorem rowsL_app (K:Nat):∀(a b:List PN) (S:List Nat),rowsL K (a++b) S=rowsL K b (rowsL K a S)
 | [],b,S=>rfl
 | x::a,b,S=>by simp only[List.cons_append,rowsL];exact rowsL_app K a b _
theorem rowsL_len (K:Nat):∀(a:List PN) (S:List Nat),(rowsL K a S).length=S.length+a.length
 | [],S=>rfl
 | x::a,S=>by simp only[rowsL];rw[rowsL_len K a];simp;omega
theorem rowsL_pre (K:Nat):∀(a:List PN) (S:List Nat),∃T,rowsL K a S=S++T
 | [],S=>⟨[],by simp[rowsL]⟩
 | x::a,S=>by
   obtain ⟨T,hT⟩:=rowsL_pre K a (S++[rowsN S K x]);exact ⟨rowsN S K x::T,by simp only[rowsL];rw[hT];simp⟩
def rowsTo (K:Nat) (l:List PN) (i:Nat):List Nat:=rowsL K (l.take i) []
theorem rowsTo_step {K:Nat} {l:List PN} {i:Nat} (h:i<l.length):rowsTo K l (i+1)=rowsTo K l i++[rowsN (rowsTo K l i) K l[i]]:=by simp only[rowsTo];rw[List.take_succ_eq_append_getElem h,rowsL_app];rfl
theorem rowsTo_len {K:Nat} {l:List PN} {i:Nat} (h:i<=l.length):(rowsTo K l i).length=i:=by simp only[rowsTo];rw[rowsL_len];simp;omega
theorem rowsTo_mem {K:Nat} {l:List PN} {i:Nat} {n:Nat} (h:n∈rowsTo K l i):n∈rowsL K l []:=by
 have e:rowsL K l []=rowsL K (l.drop i) (rowsTo K l i):=by rw[rowsTo,<- rowsL_app,List.take_append_drop]
 obtain ⟨T,hT⟩:=rowsL_pre K (l.drop i) (rowsTo K l i);rw[e,hT];exact List.mem_append_left _ h
def Few (S:List (List It)) (R:List Nat):Prop:=S.length=R.length/\∀j (h:j<S.length) (h2:j<R.length),S[j].length<=R[j]
theorem Few.at {S:List (List It)} {R:List Nat} (h:Few S R) {k:Int} (K:Nat) (hk:inC k S.length=true):(setAt S k).length<=rowA_ R K k:=by
 have hk':inC k R.length=true:=by rw[<- h.1];exact hk
 simp only[inC,Bool.and_eq_true,decide_eq_true_eq] at hk;have h1:k.toNat<S.length:=by omega
 have h2:k.toNat<R.length:=by rw[<- h.1];exact h1
 rw[setAt_eq h1,rowA_,if_pos hk',List.getElem?_eq_getElem h2];exact h.2 _ h1 h2
theorem minR_len {a b out:List It} {err:Int} (h:MinR a b out err):out.length<=a.length+b.length:=by
 rcases h with ⟨_,rfl,_⟩|⟨_,_,h⟩
 ·simp
 ·have:=(makeR_rows h).1;simpa using this
theorem groupR_len {z out:List It} {cols:List Int} {kind col err:Int} (h:GroupR z cols kind col out err):out.length<=z.length:=by
 rcases h with ⟨_,rfl,_⟩|⟨_,gs,_,hl,(⟨_,rfl,_⟩|⟨_,h⟩)⟩
 ·simp
 ·simp
 ·have:=(makeR_rows h).1;rw[List.length_map] at this;omega
theorem node_rows {F:List (List Int)} {D:List Nd} {x:PN} {S tabs:List (List It)} {out:List It} {K:Nat} {R:List Nat} (hl:lookE F D x=0) (ht:TabsE F tabs) (hK:∀z∈tabs,z.length<=K) (hS:S.length=D.length) (hR:Few S R) (h:NodeR x S tabs out):out.length<=rowsN R K x:=by
 have at_:∀{k:Int},inC k D.length=true->(setAt S k).length<=rowA_ R K k:=λ{k} hk=>hR.at K (by rw[hS];exact hk);simp only[lookE] at hl;simp only[rowsN];simp only[NodeR] at h;by_cases k1:x.kind=1
 ·simp only[k1,if_true] at hl h ⊢;have hi:=scanE_ok hl;simp only[inC,Bool.and_eq_true,decide_eq_true_eq] at hi;have h2:x.table.toNat<tabs.length:=by rw[ht.1];omega
  rw[h,setAt_eq h2];exact hK _ (List.getElem_mem h2)
 simp only[k1,if_false] at hl h ⊢;by_cases k2:x.kind=2
 ·simp only[k2,if_true] at hl h ⊢;have:=at_ (filtE_ok hl);rw[h];have h1:=List.length_filter_le (λt=>holdsP x.pred t.row) (setAt S x.a);simp only[show ¬((2:Int)=4) by decide,show ¬((2:Int)=5\/(2:Int)=6) by decide,if_false];omega
 simp only[k2,if_false] at hl h ⊢;by_cases k3:x.kind=3
 ·simp only[k3,if_true] at hl h ⊢;have:=at_ (projE_ok hl).1;have h1:=(projX_rows h).1;simp only[show ¬((3:Int)=4) by decide,show ¬((3:Int)=5\/(3:Int)=6) by decide,if_false];omega
 simp only[k3,if_false] at hl h ⊢;by_cases k4:x.kind=4
 ·simp only[k4,if_true] at hl h ⊢;obtain ⟨ha,hb,_⟩:=joinE_ok hl;exact Nat.le_trans (joinR_rows h).1 (Nat.mul_le_mul (at_ ha) (at_ hb))
 simp only[k4,if_false] at hl h ⊢;by_cases k5:x.kind=5\/x.kind=6
 ·simp only[k5,if_true] at hl ⊢;obtain ⟨ha,hb,_⟩:=bothE_ok hl;have h1:=at_ ha;have h2:=at_ hb;rcases k5 with k5|k6
  ·simp only[k5,if_true] at h;have:=(addR_rows h).1;omega
  ·simp only[k6,if_true,show ¬((6:Int)=5) by decide,if_false] at h;have:=minR_len h;omega
 simp only[k5,if_false] at hl ⊢;have k5':¬x.kind=5:=λe=>k5 (.inl e);have k6':¬x.kind=6:=λe=>k5 (.inr e);simp only[k5',k6',if_false] at h;by_cases k7:x.kind=7
 ·simp only[k7,if_true] at hl h ⊢;have:=at_ (distE_ok hl);rw[h];have:=distL_len (setAt S x.a);omega
 simp only[k7,if_false] at hl h ⊢;split at hl
 ·have:=at_ (grpE_ok hl).1;have:=groupR_len h;omega
 ·cases hl
structure Ran (F:List (List Int)) (l:List PN) (tabs:List (List It)) (i:Nat) (S:List (List It)):Prop where
 len:S.length=i
 nodes:∀j (h:j<l.length) (h2:j<S.length),NodeR l[j] (S.take j) tabs S[j]
 sets:Sets S (ndsTo F l i)
theorem Ran.start (F:List (List Int)) (l:List PN) (tabs:List (List It)):Ran F l tabs 0 []:=⟨rfl,by simp,⟨by simp[ndsTo,planN,planD],by simp,by simp[ndsTo,planN,planD]⟩⟩
theorem Ran.step {F:List (List Int)} {l:List PN} {tabs S:List (List It)} {i:Nat} (hF:formsE F=0) (hp:(planD F l []).1=0) (ht:TabsE F tabs) (h:Ran F l tabs i S) (hi:i<l.length) {out:List It} (hn:NodeR l[i] S tabs out):Ran F l tabs (i+1) (S++[out]):=by
 obtain ⟨h1,h2⟩:=planD_step hp hi;have hb:=ndsTo_bd hF hp i (by omega);have hin:=node_in hF h1 ht h.sets hn;refine ⟨by simp[h.len],λj hj hj2=>?_,⟨by rw[h2];simp[h.sets.len],λj hj hj2=>?_,λn hn'=>?_⟩⟩
 ·by_cases e:j<S.length
  ·rw[List.getElem_append_left e,List.take_append_of_le_length (by omega)];exact h.nodes j hj e
  ·have e2:j=i:=by simp[h.len] at hj2 e;omega
   subst e2;rw[List.getElem_append_right (by omega)];rw[List.take_append_of_le_length (by rw[h.len];omega),List.take_of_length_le (by rw[h.len];omega)];simpa using hn
 ·simp only[h2];by_cases e:j<S.length
  ·rw[List.getElem_append_left e,List.getElem_append_left (by rw[<- h.sets.len];exact e)];exact h.sets.nds j e _
  ·have e2:j=S.length:=by simp at hj;omega
   subst e2;rw[List.getElem_append_right (by omega),List.getElem_append_right (by rw[h.sets.len];omega)];simpa [h.sets.len] using hin
 ·rw[h2,List.mem_append,List.mem_singleton] at hn';rcases hn' with hn'|rfl
  ·exact hb n hn'
  ·exact node_bd hF h1 hb
structure EvSz (F:List (List Int)) (l:List PN) (tabs:List (List It)) (K:Nat):Prop where
 pl:PlSz F l
 rows:∀z∈tabs,z.length<=K/\∀t∈z,t.row.length<4611686018427387904
 big:K<4611686018427387904
 many:tabs.length<4611686018427387904
 few:∀n∈rowsL K l [],n<=500000
def EvalRes (F:List (List Int)) (l:List PN) (tabs:List (List It)) (out:List It) (e:Int):Prop:=
 (planE F l≠0/\out=[]/\e=planE F l)\/(planE F l=0/\tabs.length≠F.length/\out=[]/\e=2)\/(planE F l=0/\tabs.length=F.length/\¬TabsE F tabs/\out=[]/\e=1) \/
 (planE F l=0/\TabsE F tabs/\e=0/\∃S,Ran F l tabs l.length S/\out=setAt S (l.length-1))
theorem formsE_one {F:List (List Int)} (h:formsE F=0) {f:List Int} (hf:f∈F):formsE [f]=0:=by
 obtain ⟨h1,h2,h3⟩:=formsE_len h f hf;have e1:badC f=false:=by rw[badC,decide_eq_false (by omega),decide_eq_false (by omega)];rfl
 have e2:f.any badT=false:=by rw[List.any_eq_false];intro c hc;have:=h3 c hc;simp[badT];omega
 rw[formsE,if_neg (by simp[e1]),if_neg (by simp[e2])]
theorem tabErr_eq {F:List (List Int)} (h:formsE F=0) {f:List Int} (hf:f∈F) (z:List It):(tabE f z->tabErr f z=0)/\(¬tabE f z->tabErr f z=1):=by
 have h1:=formsE_one h hf;have h2:¬formsE [f]≠0:=by simp[h1]
 exact ⟨λg=>by rw[tabErr,if_neg h2,if_pos g],λg=>by rw[tabErr,if_neg h2,if_neg g]⟩
theorem doO_snoc {st:St} {m:List (Nat×Option Nat)} {S S':List (List It)} {z:List It} (h:S'=S++[z]):Es st m (List.map (λz=>[setA z]) S++[[setA z]]) (List.map (λz=>[setA z]) S'):=by subst h;rw[List.map_append];exact .same (doO (S++[z])) _ _ (λx hx=>doO_leafy (S++[z]) x (by rw[doO,List.map_append];exact hx)) rfl
theorem planE_ok {F:List (List Int)} {l:List PN} (h:planE F l=0):formsE F=0/\1<=l.length/\l.length<=12/\(planD F l []).1=0:=by
 rw[planE] at h;split at h
 ·rename_i h1;exact absurd h h1
 split at h
 ·cases h
 rename_i h1 h2;exact ⟨by simpa using h1,by omega,by omega,h⟩
@[go_sem] theorem cells_setA {z:List It} {K:List AV->Prop}:cellsOf (setA z) K=K [setA z]:=rfl
theorem d26 (F:List (List Int)) (l:List PN) (tabs:List (List It)) (K:Nat) (h:EvSz F l tabs K) :
 Spec0 Tryz.prog 26 [plA l,formsA F,setsA tabs] (λr=>∃out e,r=.tu [setA out,iA e]/\EvalRes F l tabs out e):=by
 refine spec0_of_vc tabOk elems ord26 Tryz.func26 rfl (rl:=[.tmp 6,.tmp 7]) rfl (by kernel_rfl) rfl ?_;refine Be ?_;refine .pure _ (show Spec0 Tryz.prog 52 [plA l,formsA F] _ from d52 F l h.pl) rfl λq hq _=>?_;obtain ⟨t,rfl,ht,ht2⟩:=hq;refine Ab ?_;refine VIF.split (λh1=>?_) (λh1=>?_)
 ·have h1:planE F l≠0:=(by simpa using h1);refine Aw ?_;refine TO [] [(6,setA []),(7,iA (planE F l))] [] [] rfl ?_ ?_
  ·refine Ao ?_;exact ⟨id,rfl⟩
  refine Ao ?_;exact ⟨rfl,[],_,rfl,.inl ⟨h1,rfl,rfl⟩⟩
 have h1:planE F l=0:=by simpa using h1
 obtain ⟨hF,hl1,hl2,hp⟩:=planE_ok h1;refine Aa ?_;refine VIF.split (λh2=>?_) (λh2=>?_)
 ·have h2:tabs.length≠F.length:=by simp at h2;omega
  refine Aw ?_;refine TO [] [(6,setA []),(7,iA 2)] [] [] rfl ?_ ?_
  ·refine Ao ?_;exact ⟨id,rfl⟩
  refine Ao ?_;exact ⟨rfl,[],_,rfl,.inr (.inl ⟨h1,h2,rfl,rfl⟩)⟩
 have h2:tabs.length=F.length:=by simp at h2;omega
 refine Aa ?_;refine LOOP.mk (ι:={i:Nat//i<=tabs.length/\∀j (h:j<F.length) (h2:j<tabs.length),j<i->tabE F[j] tabs[j]}) (λp=>mkS [(0,plA l),(1,formsA F),(2,setsA tabs),(34,setsA tabs),(35,iA tabs.length),(36,iA p.1)] [] []) (λp=>tabs.length-p.1) ⟨0,Nat.zero_le _,λj _ _ h=>absurd h (Nat.not_lt_zero _)⟩ [] rfl rfl ?_ (λp=>?_)
 ·refine Bx ?_;exact ⟨id,rfl⟩
 obtain ⟨i,hi,hg⟩:=p;refine Bx ?_;refine VIF.split (λh3=>?_) (λh3=>?_)
 ·have h3:i<tabs.length:=(by simpa using h3);have h3':i<F.length:=(by omega);have w1:=wrap_add1 (show i<4611686018427387904 by have:=h.many;omega);have hr:=h.rows _ (List.getElem_mem h3);have hte:=tabErr_eq hF (List.getElem_mem h3') tabs[i];refine Aa ?_;refine EL.map h3 ?_;refine Ab ?_;refine EL.map h3' ?_;refine Bo ?_;refine .pure _ (show Spec0 Tryz.prog 27 [.ag [intsL F[i]],setA tabs[i]] _ from d27 F[i] tabs[i] (h.pl.ff _ (List.getElem_mem h3')) (by have:=h.big;omega) hr.2) rfl λq hq _=>?_;subst hq;refine Ab ?_;refine VIF.split (λh4=>?_) (λh4=>?_)
  ·have h4:tabErr F[i] tabs[i]≠0:=(by simpa using h4);have hn:¬tabE F[i] tabs[i]:=λg=>h4 (hte.1 g);refine Aw ?_;refine TO [] [(6,setA []),(7,iA (tabErr F[i] tabs[i]))] [] [] rfl ?_ ?_
   ·refine Ao ?_;exact ⟨id,rfl⟩
   refine Ao ?_;exact ⟨rfl,[],_,rfl,.inr (.inr (.inl ⟨h1,h2,λg=>hn (g.2 i h3' h3),rfl,hte.2 hn⟩))⟩
  ·have h4:tabErr F[i] tabs[i]=0:=(by simpa using h4);have hy:tabE F[i] tabs[i]:=Classical.byContradiction λg=>by have:=hte.2 g;omega
   refine Af ?_;refine BACK.mk ⟨i+1,by omega,λj q1 q2 hji=>if e:j=i then (by subst e;exact hy) else hg j q1 q2 (by omega)⟩ [] rfl rfl (by show tabs.length-(i+1)<tabs.length-i;omega) ?_;refine B3 ?_;exact ⟨id,by simp[intsL,setA,iA]⟩
 have h3:i=tabs.length:=by simp at h3;omega
 have hT:TabsE F tabs:=⟨h2,λj q1 q2=>hg j q1 q2 (by omega)⟩;have hK:∀z∈tabs,z.length<=K:=λz hz=>(h.rows z hz).1;refine F1 ?_
 refine LOOP.mk (ι:={p:Nat×List (List It)//p.1<=l.length/\Ran F l tabs p.1 p.2/\Few p.2 (rowsTo K l p.1)}) (λp=>mkS [(0,plA l),(2,setsA tabs),(13,.rf 1000 0 p.1.2.length),(51,plA l),(52,iA l.length),(53,iA p.1.1)] [(1000,doO p.1.2)] [1000]) (λp=>l.length-p.1.1)
  ⟨(0,[]),Nat.zero_le _,Ran.start F l tabs,⟨by simp[rowsTo,rowsL],by simp⟩⟩ [(1000,none)] rfl rfl ?_ (λp=>?_)
 ·refine Et ?_;exact ⟨id,rfl,rfl⟩
 obtain ⟨⟨i,S⟩,hi,hR,hFew⟩:=p;simp only at hi hR hFew;refine Et ?_;refine VIF.split (λh4=>?_) (λh4=>?_)
 ·have h4:i<l.length:=(by simpa using h4);have hm:=List.getElem_mem h4;have w1:=wrap_add1 (show i<4611686018427387904 by omega);obtain ⟨g1,g2⟩:=planD_step hp h4;have hro:∀n∈rowsTo K l (i+1),n<=500000:=λn hn=>h.few n (rowsTo_mem hn);have hlen:=rowsTo_len (K:=K) (l:=l) (i:=i) (by omega);have hstep:=rowsTo_step (K:=K) h4;have hrows:∀z∈S,z.length<=500000:=λz hz=>by
   obtain ⟨j,hj,rfl⟩:=List.mem_iff_getElem.1 hz;have hj2:j<(rowsTo K l i).length:=by rw[<- hFew.1];exact hj
   have h5:=hFew.2 j hj hj2;have h6:=hro ((rowsTo K l i)[j]) (by rw[hstep];exact List.mem_append_left _ (List.getElem_mem hj2));omega
  have hnode:NodeOk F (ndsTo F l i) S tabs l[i]:=⟨hF,g1,hT,hR.sets,hrows,λk4=>by
   have hl:=g1;simp only[lookE,k4,show ¬((4:Int)=1) by decide,show ¬((4:Int)=2) by decide,show ¬((4:Int)=3) by decide,if_true,if_false] at hl;obtain ⟨ha,hb,_⟩:=joinE_ok hl;rw[<- hR.sets.len] at ha hb;have h5:=Nat.mul_le_mul (hFew.at K ha) (hFew.at K hb);have h6:=hro (rowsN (rowsTo K l i) K l[i]) (by rw[hstep];simp);simp only[rowsN,k4,show ¬((4:Int)=1) by decide,if_true,if_false] at h6;omega,h.pl.cl _ hm⟩
  refine Aa ?_;refine EL.map h4 ?_;refine A4 ?_;refine .obj 1000 (doO S) _ [.ag l[i].c,.rf 0 0 S.length,setsA tabs] (d72 F (ndsTo F l i) S tabs l[i] hnode) (by simp -implicitDefEqProofs only[go_sem,doO]) (doO_leafy S) rfl (by simp[rens,AV.ren,setsA,PN.c,iA,intsL]) λr o' hq _ _=>?_;obtain ⟨out,rfl,rfl,hn⟩:=hq;(simp -implicitDefEqProofs only[go_sem,doO,iA];repeat (refine GO ?_;simp -implicitDefEqProofs only[go_sem,doO,iA]));refine VIF.split (λh=>absurd h (by simp)) (λ_=>?_);have hlS:=hR.len;refine Af ?_;refine ⟨by omega,?_⟩;refine Af ?_;refine BACK.mk ⟨(i+1,S++[out]),by simp only;omega,hR.step hF hp hT h4 hn,⟨?_,?_⟩⟩ [(1000,some 70)] rfl rfl (by show l.length-(i+1)<l.length-i;omega) ?_
  ·simp[hstep,hFew.1]
  ·intro j q1 q2;simp only at q1 q2 ⊢;simp only[hstep];by_cases e:j<S.length
   ·rw[List.getElem_append_left e,List.getElem_append_left (by rw[<- hFew.1];exact e)];exact hFew.2 j e _
   ·have e2:j=S.length:=by simp at q1;omega
    subst e2;rw[List.getElem_append_right (by omega),List.getElem_append_right (by rw[hFew.1];omega)];simpa [hFew.1] using node_rows g1 hT hK hR.sets.len hFew hn
  (simp -implicitDefEqProofs only[go_sem,doO,iA,plA,setsA,w1];repeat (refine GO ?_;simp -implicitDefEqProofs only[go_sem,doO,iA,plA,setsA,w1]));refine ⟨id,by simp,?_⟩;try rw[List.take_of_length_le (l:=List.map (λz=>[setA z]) S) (by simp)]
  exact doO_snoc rfl
 ·have h4:i=l.length:=by simp at h4;omega
  subst h4;have w2:IntKind.i64.wrap ((l.length:Int)-1)=((l.length-1:Nat):Int):=by rw[wrap_i64]<;>omega
  have hlS:=hR.len;(simp -implicitDefEqProofs only[go_sem,plA,w2];repeat (refine GO ?_;simp -implicitDefEqProofs only[go_sem,plA,w2]));refine ⟨by omega,EL.map (show l.length-1<S.length by omega) ?_⟩;refine Ao ?_;have e:setAt S ((l.length:Int)-1)=S[l.length-1]'(by omega):=by rw[setAt_eq (by omega)];congr 1;omega
  exact ⟨rfl,S[l.length-1]'(by omega),0,rfl,.inr (.inr (.inr ⟨h1,hT,rfl,S,hR,e.symm⟩))⟩
theorem typeOk_inB (t:Int):inB t 2 4=typeOk t:=by
 simp only[inB,typeOk];by_cases h:2<=t/\t<=4
 ·have:t=2\/t=3\/t=4:=(by omega);rcases this with rfl|rfl|rfl<;>decide
 ·have h1:t≠2:=(by omega);have h2:t≠3:=(by omega);have h3:t≠4:=(by omega);simp[h1,h2,h3];omega
theorem badT_type (t:Int):typeOk t=!badT t:=by rw[<- typeOk_inB];simp only[inB,badT];by_cases h1:t<2<;>by_cases h2:4<t<;>simp[h1,h2]<;>omega
theorem p135 (t:Int):Spec0 Tryz.prog 135 [iA t] (·=bA (typeOk t)):=by refine spec0_of_vc tabOk elems ord135 Tryz.func135 rfl (rl:=[.tmp 2]) rfl (by kernel_rfl) rfl ?_;refine Ab ?_;refine .pure _ (show Spec0 Tryz.prog 134 [iA t,iA 2,iA 4] _ from s64 t 2 4) rfl λq hq _=>?_;subst hq;refine Ac ?_;rw[typeOk_inB]
theorem p104 (v:V) (t:Int):Spec0 Tryz.prog 104 [.ag v.c,iA t] (·=bA (fitsV v t)):=by
 refine spec0_of_vc tabOk elems ord104 Tryz.func104 rfl (rl:=[.tmp 4]) rfl (by kernel_rfl) rfl ?_;refine Bb ?_;refine .pure _ (show Spec0 Tryz.prog 135 [iA t] _ from p135 t) rfl λq hq _=>?_;subst hq;refine Ac ?_;refine VIF.split (λh1=>?_) (λh1=>?_)
 ·refine Ah ?_;refine .pure _ (show Spec0 Tryz.prog 86 [.ag v.c] _ from s49 v) rfl λq hq _=>?_;subst hq;refine Ac ?_;refine VIF.split (λh2=>?_) (λh2=>?_)
  ·refine Bb ?_;refine VIF.split (λh3=>?_) (λh3=>?_)
   ·have h3:v.k=t:=(by simpa using h3);refine Aa ?_;simp[fitsV,h1,h2,h3,bA]
   ·have h3:v.k≠t:=(by simpa using h3);refine Aa ?_;simp[fitsV,h1,h2,h3,bA]
  ·have h2:okV v=false:=(by simpa using h2);refine Aa ?_;simp[fitsV,h2,bA]
 ·have h1:typeOk t=false:=(by simpa using h1);refine Aa ?_;simp[fitsV,h1,bA]
theorem p79 (v:V):Spec0 Tryz.prog 79 [.ag v.c] (·=bA (smallV v)):=by
 refine spec0_of_vc tabOk elems ord79 Tryz.func79 rfl (rl:=[.tmp 2]) rfl (by kernel_rfl) rfl ?_;refine Ah ?_;refine .pure _ (show Spec0 Tryz.prog 86 [.ag v.c] _ from s49 v) rfl λq hq _=>?_;subst hq;refine Ac ?_;refine VIF.split (λh2=>?_) (λh2=>?_)
 ·refine Bb ?_;refine VIF.split (λh3=>?_) (λh3=>?_)
  ·have h3:v.k≠3:=(by simpa using h3);refine Aa ?_;simp[smallV,h2,h3,bA]
  ·have h3:v.k=3:=(by simpa using h3);refine Aa ?_;refine .pure _ (show Spec0 Tryz.prog 134 [iA v.i,iA (-2147483648),iA 2147483648] _ from s64 v.i (-2147483648) 2147483648) rfl λq hq _=>?_;subst hq;refine Ac ?_;simp[smallV,h2,h3,bA]
 ·have h2:okV v=false:=(by simpa using h2);refine Aa ?_;simp[smallV,h2,bA]
theorem p78 (r:List V) (ts:List Int) (hr:r.length<4611686018427387904):Spec0 Tryz.prog 78 [rowA r,intsL ts] (·=bA (fitR r ts)):=by
 refine spec0_of_vc tabOk elems ord78 Tryz.func78 rfl (rl:=[.tmp 4]) rfl (by kernel_rfl) rfl ?_;refine B7 ?_;refine VIF.split (λh=>?_) (λh=>?_)
 ·have h:r.length≠ts.length:=by simp at h;omega
  refine Aa ?_;have:fitR r ts=false:=by
   cases e:fitR r ts with
   | false=>rfl
   | true=>exact absurd (fitR_len e) h
  rw[this];rfl
 have h:r.length=ts.length:=by simp at h;omega
 refine Aa ?_;refine LOOP.mk (ι:={i:Nat//i<=r.length/\∀j (h1:j<r.length) (h2:j<ts.length),j<i->fitsV r[j] ts[j]=true}) (λp=>mkS [(0,rowA r),(1,intsL ts),(5,iA p.1)] [] []) (λp=>r.length-p.1) ⟨0,Nat.zero_le _,λj _ _ h=>absurd h (Nat.not_lt_zero _)⟩ [] rfl rfl ?_ (λp=>?_)
 ·refine Bf ?_;exact ⟨id,rfl⟩
 obtain ⟨i,hi,hg⟩:=p;refine Bf ?_;refine VIF.split (λh1=>?_) (λh1=>?_)
 ·have h1:i<r.length:=(by simpa using h1);have h2:i<ts.length:=(by omega);have w1:=wrap_add1 (show i<4611686018427387904 by omega);refine Aa ?_;refine EL.map h1 ?_;refine Bb ?_;refine EL.map h2 ?_;refine Bb ?_;refine .pure _ (show Spec0 Tryz.prog 104 [.ag r[i].c,iA ts[i]] _ from p104 r[i] ts[i]) rfl λq hq _=>?_;subst hq;refine Ac ?_;refine VIF.split (λh3=>?_) (λh3=>?_)
  ·have h3:fitsV r[i] ts[i]=false:=(by simpa using h3);refine Aa ?_;have:fitR r ts=false:=by
    cases e:fitR r ts with
    | false=>rfl
    | true=>rw[fitR_at e i h1 h2] at h3;cases h3
   rw[this];rfl
  ·have h3:fitsV r[i] ts[i]=true:=(by simpa using h3);refine Af ?_;refine BACK.mk ⟨i+1,by omega,λj q1 q2 hji=>if e:j=i then (by subst e;exact h3) else hg j q1 q2 (by omega)⟩ [] rfl rfl (by show r.length-(i+1)<r.length-i;omega) ?_;refine Dh ?_;exact id
 ·have h1:i=r.length:=by simp at h1;omega
  refine Aa ?_;rw[fitR_of h λj q1 q2=>hg j q1 q2 (by omega)];rfl
theorem p64 (a b:List Int) (ha:a.length<4611686018427387904):Spec0 Tryz.prog 64 [intsL a,intsL b] (·=bA (decide (a=b))):=by
 refine spec0_of_vc tabOk elems ord64 Tryz.func64 rfl (rl:=[.tmp 4]) rfl (by kernel_rfl) rfl ?_;refine A3 ?_;refine VIF.split (λh=>?_) (λh=>?_)
 ·have h:a.length≠b.length:=by simp at h;omega
  refine Aa ?_;have:a≠b:=λe=>h (by rw[e]);simp[this,bA]
 have h:a.length=b.length:=by simp at h;omega
 refine Aa ?_;refine LOOP.mk (ι:={i:Nat//i<=a.length/\∀j (h1:j<a.length) (h2:j<b.length),j<i->a[j]=b[j]}) (λp=>mkS [(0,intsL a),(1,intsL b),(5,iA p.1)] [] []) (λp=>a.length-p.1) ⟨0,Nat.zero_le _,λj _ _ h=>absurd h (Nat.not_lt_zero _)⟩ [] rfl rfl ?_ (λp=>?_)
 ·refine Aq ?_;exact ⟨id,rfl⟩
 obtain ⟨i,hi,hg⟩:=p;refine Aq ?_;refine VIF.split (λh1=>?_) (λh1=>?_)
 ·have h1:i<a.length:=(by simpa using h1);have h2:i<b.length:=(by omega);have w1:=wrap_add1 (show i<4611686018427387904 by omega);refine Aa ?_;refine EL.map h1 ?_;refine Ab ?_;refine EL.map h2 ?_;refine Ab ?_;refine VIF.split (λh3=>?_) (λh3=>?_)
  ·have h3:a[i]≠b[i]:=(by simpa using h3);refine Aa ?_;have:a≠b:=λe=>h3 (by subst e;rfl);simp[this,bA]
  ·have h3:a[i]=b[i]:=(by simpa using h3);refine Af ?_;refine BACK.mk ⟨i+1,by omega,λj q1 q2 hji=>if e:j=i then (by subst e;exact h3) else hg j q1 q2 (by omega)⟩ [] rfl rfl (by show a.length-(i+1)<a.length-i;omega) ?_;refine Cx ?_;exact id
 ·have h1:i=a.length:=by simp at h1;omega
  have e:a=b:=List.ext_getElem h λj q1 q2=>hg j q1 q2 (by omega);refine Aa ?_;simp[e,bA]
theorem outC_inB (n:Nat) (c:Int):inB c 0 ((n:Int)-1)=!outC n c:=by simp only[inB,outC];by_cases h1:c<0<;>by_cases h2:(n:Int)<=c<;>simp[h1,h2]<;>omega
theorem p77 (F:List (List Int)) (hF:F.length<1073741824) (hl:∀l∈F,l.length<1073741824):Spec0 Tryz.prog 77 [formsA F] (·=iA (formsE F)):=by
 refine spec0_of_vc tabOk elems ord77 Tryz.func77 rfl (rl:=[.tmp 2]) rfl (by kernel_rfl) rfl ?_;refine A6 ?_;refine .pure _ (show Spec0 Tryz.prog 134 [iA F.length,iA 1,iA 3] _ from s64 F.length 1 3) rfl λq hq _=>?_;subst hq;refine Ac ?_;have bad:(F.length<1\/3<F.length\/F.any badC=true)->formsE F=2:=λh=>by rw[formsE,if_pos h]
 refine VIF.split (λh1=>?_) (λh1=>?_)
 ·have h1:F.length<1\/3<F.length:=by simp[inB] at h1;omega
  refine Aa ?_;rw[bad (by omega)];rfl
 have h1:¬F.length<1/\¬3<F.length:=by simp[inB] at h1;omega
 refine Aa ?_;refine LOOP.mk (ι:={i:Nat//i<=F.length/\∀j (h:j<F.length),j<i->badC F[j]=false}) (λp=>mkS [(0,formsA F),(3,iA p.1)] [] []) (λp=>F.length-p.1) ⟨0,Nat.zero_le _,λj _ h=>absurd h (Nat.not_lt_zero _)⟩ [] rfl rfl ?_ (λp=>?_)
 ·refine A6 ?_;exact ⟨id,rfl⟩
 obtain ⟨i,hi,hg⟩:=p;refine A6 ?_;refine VIF.split (λh2=>?_) (λh2=>?_)
 ·have h2:i<F.length:=(by simpa using h2);have w1:=wrap_add1 (show i<4611686018427387904 by omega);refine Aa ?_;refine EL.map h2 ?_;refine Ab ?_;refine .pure _ (show Spec0 Tryz.prog 134 [iA F[i].length,iA 1,iA 4] _ from s64 F[i].length 1 4) rfl λq hq _=>?_;subst hq;refine Ac ?_;refine VIF.split (λh3=>?_) (λh3=>?_)
  ·have h3:badC F[i]=true:=by simp[inB] at h3;simp only[badC,Bool.or_eq_true,decide_eq_true_eq];omega
   refine Aa ?_;rw[bad (.inr (.inr (List.any_eq_true.2 ⟨_,List.getElem_mem h2,h3⟩)))];rfl
  ·have h3:badC F[i]=false:=by simp[inB] at h3;simp only[badC,Bool.or_eq_false_iff,decide_eq_false_iff_not];omega
   refine Af ?_;refine BACK.mk ⟨i+1,by omega,λj hj hji=>if e:j=i then (by subst e;exact h3) else hg j hj (by omega)⟩ [] rfl rfl (by show F.length-(i+1)<F.length-i;omega) ?_;refine Cj ?_;exact id
 have h2:i=F.length:=by simp at h2;omega
 subst h2;have hbc:F.any badC=false:=by rw[List.any_eq_false];intro c hc;obtain ⟨j,hj,rfl⟩:=List.mem_iff_getElem.1 hc;rw[hg j hj hj];simp
 have cond:¬(F.length<1\/3<F.length\/F.any badC=true):=by
  rintro (h|h|h)
  ·exact h1.1 h
  ·exact h1.2 h
  ·rw[hbc] at h;cases h
 refine Aa ?_;refine LOOP.mk (ι:={i:Nat//i<=F.length/\∀j (h:j<F.length),j<i->F[j].any badT=false}) (λp=>mkS [(0,formsA F),(4,iA p.1)] [] []) (λp=>F.length-p.1) ⟨0,Nat.zero_le _,λj _ h=>absurd h (Nat.not_lt_zero _)⟩ [] rfl rfl ?_ (λp=>?_)
 ·refine A6 ?_;exact ⟨id,rfl⟩
 obtain ⟨i,hi,hz⟩:=p;refine A6 ?_;refine VIF.split (λh2=>?_) (λh2=>?_)
 ·have h2:i<F.length:=(by simpa using h2);have w1:=wrap_add1 (show i<4611686018427387904 by omega);refine Aa ?_;refine LOOP.mk (ι:={k:Nat//k<=F[i].length/\∀j (h:j<F[i].length),j<k->badT F[i][j]=false}) (λp=>mkS [(0,formsA F),(4,iA i),(5,iA p.1)] [] []) (λp=>F[i].length-p.1) ⟨0,Nat.zero_le _,λj _ h=>absurd h (Nat.not_lt_zero _)⟩ [] rfl rfl ?_ (λp=>?_)
  ·refine A6 ?_;exact ⟨id,rfl⟩
  obtain ⟨k,hk,hy⟩:=p;refine A6 ?_;refine EL.map h2 ?_;refine Aa ?_;refine VIF.split (λh3=>?_) (λh3=>?_)
  ·have h3:k<F[i].length:=(by simpa using h3);have hfl:=hl _ (List.getElem_mem h2);have w2:=wrap_add1 (show k<4611686018427387904 by omega);refine Aa ?_;refine EL.map h2 ?_;refine A3 ?_;refine EL.map h3 ?_;refine Ab ?_;refine .pure _ (show Spec0 Tryz.prog 135 [iA F[i][k]] _ from p135 F[i][k]) rfl λq hq _=>?_;subst hq;refine Ac ?_;refine VIF.split (λh4=>?_) (λh4=>?_)
   ·have h4:badT F[i][k]=true:=by rw[badT_type] at h4;simpa using h4
    refine Aa ?_;have:F.any (λl=>l.any badT)=true:=List.any_eq_true.2 ⟨F[i],List.getElem_mem h2,List.any_eq_true.2 ⟨_,List.getElem_mem h3,h4⟩⟩;rw[formsE,if_neg cond,if_pos this];rfl
   ·have h4:badT F[i][k]=false:=by rw[badT_type] at h4;simpa using h4
    refine Bn ?_;refine BACK.mk ⟨k+1,by omega,λj hj hji=>if e:j=k then (by subst e;exact h4) else hy j hj (by omega)⟩ [] rfl rfl (by show F[i].length-(k+1)<F[i].length-k;omega) ?_;(simp -implicitDefEqProofs only[go_sem,formsA,iA,intsL,w2];repeat (refine GO ?_;simp -implicitDefEqProofs only[go_sem,formsA,iA,intsL,w2]));exact id
  ·have h3:k=F[i].length:=by simp at h3;omega
   have hbt:F[i].any badT=false:=by rw[List.any_eq_false];intro c hc;obtain ⟨j,hj,rfl⟩:=List.mem_iff_getElem.1 hc;rw[hy j hj (by omega)];simp
   refine Af ?_;refine BACK.mk ⟨i+1,by omega,λj hj hji=>if e:j=i then (by subst e;exact hbt) else hz j hj (by omega)⟩ [] rfl rfl (by show F.length-(i+1)<F.length-i;omega) ?_;refine Cj ?_;exact id
 ·have h2:i=F.length:=by simp at h2;omega
  subst h2;refine Aa ?_;have:F.any (λl=>l.any badT)=false:=by rw[List.any_eq_false];intro l hl2;obtain ⟨j,hj,rfl⟩:=List.mem_iff_getElem.1 hl2;simp[hz j hj hj]
  rw[formsE,if_neg cond,if_neg (by rw[this];decide)];rfl
theorem p48 (p:Pr) (t:List Int) (ht:t.length<1073741824):Spec0 Tryz.prog 48 [.ag p.c,intsL t] (·=iA (predE p t)):=by
 have w2:IntKind.i64.wrap ((t.length:Int)-1)=(t.length:Int)-1:=by rw[wrap_i64]<;>omega
 have hco:inC p.col t.length=!outC t.length p.col:=by rw[<- outC_inB];simp only[inC,inB];by_cases h1:0<=p.col<;>by_cases h2:p.col<t.length<;>simp[h1,h2]<;>omega
 have hoo:inC p.other t.length=!outC t.length p.other:=by rw[<- outC_inB];simp only[inC,inB];by_cases h1:0<=p.other<;>by_cases h2:p.other<t.length<;>simp[h1,h2]<;>omega
 have bad:(p.kind<1\/6<p.kind\/inC p.col t.length=false\/(otherP p=true/\inC p.other t.length=false)\/(givenP p=true/\okV p.val=false))->predE p t=1:=λh=>by rw[predE,if_pos h]
 have hk:p.kind=1\/p.kind=2\/p.kind=3\/p.kind=4\/p.kind=5\/p.kind=6\/(p.kind<1\/6<p.kind):=by omega
 refine spec0_of_vc tabOk elems ord48 Tryz.func48 rfl (rl:=[.tmp 4]) rfl (by kernel_rfl) rfl ?_;refine Fc ?_;rcases hk with hk|hk|hk|hk|hk|hk|hk
 ·have hin:inB p.kind 1 6=true:=by rw[hk];decide
  have hg:givenP p=true:=(by simp[givenP,hk]);have ho:otherP p=false:=(by simp[otherP,hk]);refine Ak ?_;refine .pure _ (show Spec0 Tryz.prog 102 [iA p.kind,iA 1,iA 6] _ from s53 p.kind 1 6) rfl λq hq _=>?_;subst hq;rw[hin];refine Ac ?_;refine Ak ?_;try (simp -implicitDefEqProofs only[go_sem,w2];repeat (refine GO ?_;simp -implicitDefEqProofs only[go_sem,w2]))
  refine .pure _ (show Spec0 Tryz.prog 102 [iA p.col,iA 0,iA ((t.length:Int)-1)] _ from s53 p.col 0 ((t.length:Int)-1)) rfl λq hq _=>?_;subst hq;rw[outC_inB,<- hco];refine Ac ?_;refine VIF.split (λh1=>?_) (λh1=>?_)
  ·have h1:inC p.col t.length=false:=(by simpa using h1);refine Aa ?_;refine Ak ?_;rw[bad (.inr (.inr (.inl h1)))];rfl
  have h1:inC p.col t.length=true:=(by simpa using h1);have hc:0<=p.col/\p.col.toNat<t.length:=by simp[inC] at h1;omega
  have hgc:getI t p.col=t[p.col.toNat]'hc.2:=(by simp[getI,hc.2]);refine Cd ?_;refine Ak ?_;try (simp -implicitDefEqProofs only[go_sem,V.c];repeat (refine GO ?_;simp -implicitDefEqProofs only[go_sem,V.c]))
  refine .pure _ (show Spec0 Tryz.prog 86 [.ag p.val.c] _ from s49 p.val) rfl λq hq _=>?_;subst hq;refine Ac ?_;refine VIF.split (λh2=>?_) (λh2=>?_)
  ·have h2:okV p.val=false:=(by simpa using h2);refine Aa ?_;refine Ak ?_;rw[bad (.inr (.inr (.inr (.inr ⟨hg,h2⟩))))];rfl
  have h2:okV p.val=true:=(by simpa using h2);have cond:¬(p.kind<1\/6<p.kind\/inC p.col t.length=false\/(otherP p=true/\inC p.other t.length=false)\/(givenP p=true/\okV p.val=false)):=by rw[h1,h2,ho];simp;omega
  refine Eo ?_;refine Ak ?_;try (simp -implicitDefEqProofs only[go_sem,intsL,iA];repeat (refine GO ?_;simp -implicitDefEqProofs only[go_sem,intsL,iA]))
  refine ⟨hc.1,EL.map hc.2 ?_⟩;refine Bb ?_;refine .pure _ (show Spec0 Tryz.prog 104 [.ag p.val.c,iA (t[p.col.toNat]'hc.2)] _ from p104 p.val (t[p.col.toNat]'hc.2)) rfl λq hq _=>?_;subst hq;refine Ac ?_;refine VIF.split (λh8=>?_) (λh8=>?_)
  ·have h8:fitsV p.val (getI t p.col)=false:=by rw[hgc];simpa using h8
   refine Aa ?_;refine Ak ?_;rw[predE,if_neg cond,if_pos (.inl ⟨hg,h8⟩)];rfl
  ·have h8:fitsV p.val (getI t p.col)=true:=by rw[hgc];simpa using h8
   refine Aa ?_;refine Ak ?_;rw[predE,if_neg cond,if_neg (by simp[ho,h8])];rfl
 ·have hin:inB p.kind 1 6=true:=by rw[hk];decide
  have hg:givenP p=true:=(by simp[givenP,hk]);have ho:otherP p=false:=(by simp[otherP,hk]);refine Ak ?_;refine .pure _ (show Spec0 Tryz.prog 102 [iA p.kind,iA 1,iA 6] _ from s53 p.kind 1 6) rfl λq hq _=>?_;subst hq;rw[hin];refine Ac ?_;refine Ak ?_;try (simp -implicitDefEqProofs only[go_sem,w2];repeat (refine GO ?_;simp -implicitDefEqProofs only[go_sem,w2]))
  refine .pure _ (show Spec0 Tryz.prog 102 [iA p.col,iA 0,iA ((t.length:Int)-1)] _ from s53 p.col 0 ((t.length:Int)-1)) rfl λq hq _=>?_;subst hq;rw[outC_inB,<- hco];refine Ac ?_;refine VIF.split (λh1=>?_) (λh1=>?_)
  ·have h1:inC p.col t.length=false:=(by simpa using h1);refine Aa ?_;refine Ak ?_;rw[bad (.inr (.inr (.inl h1)))];rfl
  have h1:inC p.col t.length=true:=(by simpa using h1);have hc:0<=p.col/\p.col.toNat<t.length:=by simp[inC] at h1;omega
  have hgc:getI t p.col=t[p.col.toNat]'hc.2:=(by simp[getI,hc.2]);refine Cd ?_;refine Ak ?_;try (simp -implicitDefEqProofs only[go_sem,V.c];repeat (refine GO ?_;simp -implicitDefEqProofs only[go_sem,V.c]))
  refine .pure _ (show Spec0 Tryz.prog 86 [.ag p.val.c] _ from s49 p.val) rfl λq hq _=>?_;subst hq;refine Ac ?_;refine VIF.split (λh2=>?_) (λh2=>?_)
  ·have h2:okV p.val=false:=(by simpa using h2);refine Aa ?_;refine Ak ?_;rw[bad (.inr (.inr (.inr (.inr ⟨hg,h2⟩))))];rfl
  have h2:okV p.val=true:=(by simpa using h2);have cond:¬(p.kind<1\/6<p.kind\/inC p.col t.length=false\/(otherP p=true/\inC p.other t.length=false)\/(givenP p=true/\okV p.val=false)):=by rw[h1,h2,ho];simp;omega
  refine Eo ?_;refine Ak ?_;try (simp -implicitDefEqProofs only[go_sem,intsL,iA];repeat (refine GO ?_;simp -implicitDefEqProofs only[go_sem,intsL,iA]))
  refine ⟨hc.1,EL.map hc.2 ?_⟩;refine Bb ?_;refine .pure _ (show Spec0 Tryz.prog 104 [.ag p.val.c,iA (t[p.col.toNat]'hc.2)] _ from p104 p.val (t[p.col.toNat]'hc.2)) rfl λq hq _=>?_;subst hq;refine Ac ?_;refine VIF.split (λh8=>?_) (λh8=>?_)
  ·have h8:fitsV p.val (getI t p.col)=false:=by rw[hgc];simpa using h8
   refine Aa ?_;refine Ak ?_;rw[predE,if_neg cond,if_pos (.inl ⟨hg,h8⟩)];rfl
  ·have h8:fitsV p.val (getI t p.col)=true:=by rw[hgc];simpa using h8
   refine Aa ?_;refine Ak ?_;rw[predE,if_neg cond,if_neg (by simp[ho,h8])];rfl
 ·have hin:inB p.kind 1 6=true:=by rw[hk];decide
  have hg:givenP p=false:=(by simp[givenP,hk]);have ho:otherP p=true:=(by simp[otherP,hk]);refine Ak ?_;refine .pure _ (show Spec0 Tryz.prog 102 [iA p.kind,iA 1,iA 6] _ from s53 p.kind 1 6) rfl λq hq _=>?_;subst hq;rw[hin];refine Ac ?_;refine Ak ?_;try (simp -implicitDefEqProofs only[go_sem,w2];repeat (refine GO ?_;simp -implicitDefEqProofs only[go_sem,w2]))
  refine .pure _ (show Spec0 Tryz.prog 102 [iA p.col,iA 0,iA ((t.length:Int)-1)] _ from s53 p.col 0 ((t.length:Int)-1)) rfl λq hq _=>?_;subst hq;rw[outC_inB,<- hco];refine Ac ?_;refine VIF.split (λh1=>?_) (λh1=>?_)
  ·have h1:inC p.col t.length=false:=(by simpa using h1);refine Aa ?_;refine Ak ?_;rw[bad (.inr (.inr (.inl h1)))];rfl
  have h1:inC p.col t.length=true:=(by simpa using h1);have hc:0<=p.col/\p.col.toNat<t.length:=by simp[inC] at h1;omega
  have hgc:getI t p.col=t[p.col.toNat]'hc.2:=(by simp[getI,hc.2]);refine Cd ?_;refine Ak ?_;try (simp -implicitDefEqProofs only[go_sem,w2];repeat (refine GO ?_;simp -implicitDefEqProofs only[go_sem,w2]))
  refine .pure _ (show Spec0 Tryz.prog 102 [iA p.other,iA 0,iA ((t.length:Int)-1)] _ from s53 p.other 0 ((t.length:Int)-1)) rfl λq hq _=>?_;subst hq;rw[outC_inB,<- hoo];refine Ac ?_;refine VIF.split (λh2=>?_) (λh2=>?_)
  ·have h2:inC p.other t.length=false:=(by simpa using h2);refine Aa ?_;refine Ak ?_;rw[bad (.inr (.inr (.inr (.inl ⟨ho,h2⟩))))];rfl
  have h2:inC p.other t.length=true:=(by simpa using h2);have hd:0<=p.other/\p.other.toNat<t.length:=by simp[inC] at h2;omega
  have hgd:getI t p.other=t[p.other.toNat]'hd.2:=(by simp[getI,hd.2]);refine E2 ?_;refine Ak ?_;have cond:¬(p.kind<1\/6<p.kind\/inC p.col t.length=false\/(otherP p=true/\inC p.other t.length=false)\/(givenP p=true/\okV p.val=false)):=by rw[h1,h2,hg];simp;omega
  try (simp -implicitDefEqProofs only[go_sem,intsL,iA];repeat (refine GO ?_;simp -implicitDefEqProofs only[go_sem,intsL,iA]))
  refine ⟨hd.1,EL.map hd.2 ?_⟩;refine Aq ?_;refine ⟨hc.1,EL.map hc.2 ?_⟩;refine Ab ?_;refine VIF.split (λh9=>?_) (λh9=>?_)
  ·have h9:getI t p.other≠getI t p.col:=by rw[hgd,hgc];simpa using h9
   refine Aa ?_;rw[predE,if_neg cond,if_pos (.inr ⟨ho,h9⟩)];rfl
  ·have h9:getI t p.other=getI t p.col:=by rw[hgd,hgc];simpa using h9
   refine Aa ?_;rw[predE,if_neg cond,if_neg (by simp[hg,h9])];rfl
 ·have hin:inB p.kind 1 6=true:=by rw[hk];decide
  have hg:givenP p=false:=(by simp[givenP,hk]);have ho:otherP p=true:=(by simp[otherP,hk]);refine Ak ?_;refine .pure _ (show Spec0 Tryz.prog 102 [iA p.kind,iA 1,iA 6] _ from s53 p.kind 1 6) rfl λq hq _=>?_;subst hq;rw[hin];refine Ac ?_;refine Ak ?_;try (simp -implicitDefEqProofs only[go_sem,w2];repeat (refine GO ?_;simp -implicitDefEqProofs only[go_sem,w2]))
  refine .pure _ (show Spec0 Tryz.prog 102 [iA p.col,iA 0,iA ((t.length:Int)-1)] _ from s53 p.col 0 ((t.length:Int)-1)) rfl λq hq _=>?_;subst hq;rw[outC_inB,<- hco];refine Ac ?_;refine VIF.split (λh1=>?_) (λh1=>?_)
  ·have h1:inC p.col t.length=false:=(by simpa using h1);refine Aa ?_;refine Ak ?_;rw[bad (.inr (.inr (.inl h1)))];rfl
  have h1:inC p.col t.length=true:=(by simpa using h1);have hc:0<=p.col/\p.col.toNat<t.length:=by simp[inC] at h1;omega
  have hgc:getI t p.col=t[p.col.toNat]'hc.2:=(by simp[getI,hc.2]);refine Cd ?_;refine Ak ?_;try (simp -implicitDefEqProofs only[go_sem,w2];repeat (refine GO ?_;simp -implicitDefEqProofs only[go_sem,w2]))
  refine .pure _ (show Spec0 Tryz.prog 102 [iA p.other,iA 0,iA ((t.length:Int)-1)] _ from s53 p.other 0 ((t.length:Int)-1)) rfl λq hq _=>?_;subst hq;rw[outC_inB,<- hoo];refine Ac ?_;refine VIF.split (λh2=>?_) (λh2=>?_)
  ·have h2:inC p.other t.length=false:=(by simpa using h2);refine Aa ?_;refine Ak ?_;rw[bad (.inr (.inr (.inr (.inl ⟨ho,h2⟩))))];rfl
  have h2:inC p.other t.length=true:=(by simpa using h2);have hd:0<=p.other/\p.other.toNat<t.length:=by simp[inC] at h2;omega
  have hgd:getI t p.other=t[p.other.toNat]'hd.2:=(by simp[getI,hd.2]);refine E2 ?_;refine Ak ?_;have cond:¬(p.kind<1\/6<p.kind\/inC p.col t.length=false\/(otherP p=true/\inC p.other t.length=false)\/(givenP p=true/\okV p.val=false)):=by rw[h1,h2,hg];simp;omega
  try (simp -implicitDefEqProofs only[go_sem,intsL,iA];repeat (refine GO ?_;simp -implicitDefEqProofs only[go_sem,intsL,iA]))
  refine ⟨hd.1,EL.map hd.2 ?_⟩;refine Aq ?_;refine ⟨hc.1,EL.map hc.2 ?_⟩;refine Ab ?_;refine VIF.split (λh9=>?_) (λh9=>?_)
  ·have h9:getI t p.other≠getI t p.col:=by rw[hgd,hgc];simpa using h9
   refine Aa ?_;rw[predE,if_neg cond,if_pos (.inr ⟨ho,h9⟩)];rfl
  ·have h9:getI t p.other=getI t p.col:=by rw[hgd,hgc];simpa using h9
   refine Aa ?_;rw[predE,if_neg cond,if_neg (by simp[hg,h9])];rfl
 ·have hin:inB p.kind 1 6=true:=by rw[hk];decide
  have hg:givenP p=false:=(by simp[givenP,hk]);have ho:otherP p=false:=(by simp[otherP,hk]);refine Ak ?_;refine .pure _ (show Spec0 Tryz.prog 102 [iA p.kind,iA 1,iA 6] _ from s53 p.kind 1 6) rfl λq hq _=>?_;subst hq;rw[hin];refine Ac ?_;refine Ak ?_;try (simp -implicitDefEqProofs only[go_sem,w2];repeat (refine GO ?_;simp -implicitDefEqProofs only[go_sem,w2]))
  refine .pure _ (show Spec0 Tryz.prog 102 [iA p.col,iA 0,iA ((t.length:Int)-1)] _ from s53 p.col 0 ((t.length:Int)-1)) rfl λq hq _=>?_;subst hq;rw[outC_inB,<- hco];refine Ac ?_;refine VIF.split (λh1=>?_) (λh1=>?_)
  ·have h1:inC p.col t.length=false:=(by simpa using h1);refine Aa ?_;refine Ak ?_;rw[bad (.inr (.inr (.inl h1)))];rfl
  have h1:inC p.col t.length=true:=(by simpa using h1);have hc:0<=p.col/\p.col.toNat<t.length:=by simp[inC] at h1;omega
  have hgc:getI t p.col=t[p.col.toNat]'hc.2:=(by simp[getI,hc.2]);refine Cd ?_;refine Ak ?_;have cond:¬(p.kind<1\/6<p.kind\/inC p.col t.length=false\/(otherP p=true/\inC p.other t.length=false)\/(givenP p=true/\okV p.val=false)):=by rw[h1,ho,hg];simp;omega
  refine Ak ?_;rw[predE,if_neg cond,if_neg (by simp[ho,hg])];rfl
 ·have hin:inB p.kind 1 6=true:=by rw[hk];decide
  have hg:givenP p=false:=(by simp[givenP,hk]);have ho:otherP p=false:=(by simp[otherP,hk]);refine Ak ?_;refine .pure _ (show Spec0 Tryz.prog 102 [iA p.kind,iA 1,iA 6] _ from s53 p.kind 1 6) rfl λq hq _=>?_;subst hq;rw[hin];refine Ac ?_;refine Ak ?_;try (simp -implicitDefEqProofs only[go_sem,w2];repeat (refine GO ?_;simp -implicitDefEqProofs only[go_sem,w2]))
  refine .pure _ (show Spec0 Tryz.prog 102 [iA p.col,iA 0,iA ((t.length:Int)-1)] _ from s53 p.col 0 ((t.length:Int)-1)) rfl λq hq _=>?_;subst hq;rw[outC_inB,<- hco];refine Ac ?_;refine VIF.split (λh1=>?_) (λh1=>?_)
  ·have h1:inC p.col t.length=false:=(by simpa using h1);refine Aa ?_;refine Ak ?_;rw[bad (.inr (.inr (.inl h1)))];rfl
  have h1:inC p.col t.length=true:=(by simpa using h1);have hc:0<=p.col/\p.col.toNat<t.length:=by simp[inC] at h1;omega
  have hgc:getI t p.col=t[p.col.toNat]'hc.2:=(by simp[getI,hc.2]);refine Cd ?_;refine Ak ?_;have cond:¬(p.kind<1\/6<p.kind\/inC p.col t.length=false\/(otherP p=true/\inC p.other t.length=false)\/(givenP p=true/\okV p.val=false)):=by rw[h1,ho,hg];simp;omega
  refine Ak ?_;rw[predE,if_neg cond,if_neg (by simp[ho,hg])];rfl
 ·have hin:inB p.kind 1 6=false:=by simp only[inB,Bool.and_eq_false_iff,decide_eq_false_iff_not];omega
  have hg:givenP p=false:=by simp[givenP];omega
  have ho:otherP p=false:=by simp[otherP];omega
  refine Ak ?_;refine .pure _ (show Spec0 Tryz.prog 102 [iA p.kind,iA 1,iA 6] _ from s53 p.kind 1 6) rfl λq hq _=>?_;subst hq;rw[hin];refine Ac ?_;refine Ak ?_;rw[bad (hk.elim .inl λh=>.inr (.inl h))];rfl
theorem p28 (f:List Int) (z:List It) (hf:f.length<1073741824) (hl:z.length<4611686018427387904) (hr:∀t∈z,t.row.length<4611686018427387904):Spec0 Tryz.prog 28 [.ag [intsL f],setA z] (·=iA (tabErr f z)):=by
 refine spec0_of_vc tabOk elems ord28 Tryz.func28 rfl (rl:=[.tmp 4]) rfl (by kernel_rfl) rfl ?_;refine A3 ?_;refine .lendR (args':=[formsA [f]]) (p77 [f] (by simp) (by simpa using hf)) ⟨lent_leafy (o:=⟨1,[[intsL f]]⟩) (by (simp -implicitDefEqProofs only[go_sem,intsL];repeat (refine GO ?_;simp -implicitDefEqProofs only[go_sem,intsL]))) rfl (by simp) (by simp[Ob.leafy,AV.leaf,intsL]) (λx hx=>by simp at hx;subst hx;rfl),trivial⟩ (by rintro _ rfl;rfl) λq hq=>?_;subst hq;refine Ab ?_;refine VIF.split (λh=>?_) (λh=>?_)
 ·have h:formsE [f]≠0:=(by simpa using h);refine Aa ?_;rw[tabErr,if_pos h];rfl
 have h:formsE [f]=0:=by simpa using h
 have h0:¬formsE [f]≠0:=by simp[h]
 have bad:¬tabE f z->AV.pr (.int .i64 1)=iA (tabErr f z):=λh=>by rw[tabErr,if_neg h0,if_neg h];rfl
 refine Ad ?_;refine .pure _ (show Spec0 Tryz.prog 66 [setA z] _ from s30 z hl hr) rfl λq hq _=>?_;obtain ⟨e,rfl,hg⟩:=hq;refine Ac ?_;refine VIF.split (λh1=>?_) (λh1=>?_)
 ·have h1:¬e=true:=(by simpa using h1);refine Aa ?_;exact bad λt=>h1 (hg.2 t.1)
 have g1:Good z:=hg.1 (by simpa using h1);refine Ad ?_;refine VIF.split (λh2=>?_) (λh2=>?_)
 ·have h2:1024<z.length:=by simp at h2;omega
  refine Aa ?_;exact bad λt=>by have:=t.2.1;omega
 have h2:z.length<=1024:=by simp at h2;omega
 refine Aq ?_;refine ⟨by omega,?_⟩;refine Ab ?_;refine LOOP.mk (ι:={i:Nat//i<=z.length/\∀j (hj:j<z.length),j<i->wrongI f z[j]=false}) (λp=>mkS [(1,setA z),(6,intsL (4::f)),(7,iA p.1)] [] []) (λp=>z.length-p.1) ⟨0,Nat.zero_le _,λj _ h=>absurd h (Nat.not_lt_zero _)⟩ [] rfl rfl ?_ (λp=>?_)
 ·refine A8 ?_;exact ⟨id,⟨by simp[olds],_,rfl,io_leafy (4::f),rfl,List.take_of_length_le (by simp;omega)⟩,rfl⟩
 obtain ⟨i,hi,hz⟩:=p;refine Ao ?_;refine VIF.split (λh3=>?_) (λh3=>?_)
 ·have h3:i<z.length:=(by simpa using h3);have w1:=wrap_add1 (show i<4611686018427387904 by omega);have hm:=List.getElem_mem h3;have badI:wrongI f z[i]=true->¬tabE f z:=λhw t=>by
   have:=t.2.2;rw[List.any_eq_false] at this;exact this _ hm hw
  refine Aa ?_;refine EL.map h3 ?_;refine A5 ?_;refine VIF.split (λh4=>?_) (λh4=>?_)
  ·have h4:z[i].w≠1:=(by simpa using h4);refine Aa ?_;exact bad (badI (by simp[wrongI,h4]))
  have h4:z[i].w=1:=(by simpa using h4);refine Aa ?_;refine EL.map h3 ?_;refine Ax ?_;refine .pure _ (show Spec0 Tryz.prog 78 [rowA z[i].row,intsL (4::f)] _ from p78 z[i].row (4::f) (hr _ hm)) rfl λq hq _=>?_;subst hq;refine Ac ?_;refine VIF.split (λh5=>?_) (λh5=>?_)
  ·have h5:fitR z[i].row (4::f)=false:=(by simpa using h5);refine Aa ?_;exact bad (badI (by simp[wrongI,h5]))
  have h5:fitR z[i].row (4::f)=true:=(by simpa using h5);have hl5:=fitR_len h5;have h6:0<z[i].row.length:=by rw[hl5];simp
  have hg0:getV z[i].row 0=z[i].row[0]:=(by simp[getV,h6]);refine Aa ?_;refine EL.map h3 ?_;refine Ax ?_;refine ⟨by omega,EL.map h6 ?_⟩;refine Bb ?_;refine VIF.split (λh7=>?_) (λh7=>?_)
  ·have h7:(getV z[i].row 0).k≠4:=by rw[hg0];simpa using h7
   refine Aa ?_;exact bad (badI (by simp[wrongI,h7]))
  have h7:(getV z[i].row 0).k=4:=by rw[hg0];simpa using h7
  refine Aa ?_;refine LOOP.mk (ι:={k:Nat//k<=z[i].row.length/\∀j (hj:j<z[i].row.length),j<k->smallV z[i].row[j]=true}) (λp=>mkS [(1,setA z),(6,intsL (4::f)),(7,iA i),(8,iA p.1)] [] []) (λp=>z[i].row.length-p.1) ⟨0,Nat.zero_le _,λj _ h=>absurd h (Nat.not_lt_zero _)⟩ [] rfl rfl ?_ (λp=>?_)
  ·refine Ao ?_;exact ⟨id,by simp[wk,intsL]⟩
  obtain ⟨k,hk,hy⟩:=p;refine Ao ?_;refine EL.map h3 ?_;refine Ax ?_;refine VIF.split (λh8=>?_) (λh8=>?_)
  ·have h8:k<z[i].row.length:=(by simpa using h8);have hrl:=hr _ hm;have w2:=wrap_add1 (show k<4611686018427387904 by omega);refine Aa ?_;refine EL.map h3 ?_;refine Ax ?_;refine EL.map h8 ?_;refine Ah ?_;refine .pure _ (show Spec0 Tryz.prog 79 [.ag z[i].row[k].c] _ from p79 z[i].row[k]) rfl λq hq _=>?_;subst hq;refine Ac ?_;refine VIF.split (λh9=>?_) (λh9=>?_)
   ·have h9:smallV z[i].row[k]=false:=(by simpa using h9);refine Aa ?_;exact bad (badI (by
     have:z[i].row.any (λv=>!smallV v)=true:=List.any_eq_true.2 ⟨_,List.getElem_mem h8,by rw[h9];rfl⟩;simp only[wrongI,this,Bool.or_true]))
   ·have h9:smallV z[i].row[k]=true:=(by simpa using h9);refine Bn ?_;refine BACK.mk ⟨k+1,by omega,λj hj hji=>if e:j=k then (by subst e;exact h9) else hy j hj (by omega)⟩ [] rfl rfl (by show z[i].row.length-(k+1)<z[i].row.length-k;omega) ?_;(simp -implicitDefEqProofs only[go_sem,iA,setA,w2];repeat (refine GO ?_;simp -implicitDefEqProofs only[go_sem,iA,setA,w2]));exact ⟨id,by simp[wk,intsL]⟩
  ·have h8:k=z[i].row.length:=by simp at h8;omega
   have hsm:z[i].row.any (λv=>!smallV v)=false:=by rw[List.any_eq_false];intro v hv;obtain ⟨j,hj,rfl⟩:=List.mem_iff_getElem.1 hv;rw[hy j hj (by omega)];simp
   have hok:wrongI f z[i]=false:=(by simp[wrongI,h4,h5,h7,hsm]);refine Af ?_;refine BACK.mk ⟨i+1,by omega,λj hj hji=>if e:j=i then (by subst e;exact hok) else hz j hj (by omega)⟩ [] rfl rfl (by show z.length-(i+1)<z.length-i;omega) ?_;refine B4 ?_;exact ⟨id,by simp[wk,intsL]⟩
 ·have h3:i=z.length:=by simp at h3;omega
  subst h3;have:z.any (wrongI f)=false:=by rw[List.any_eq_false];intro t ht;obtain ⟨j,hj,rfl⟩:=List.mem_iff_getElem.1 ht;rw[hz j hj hj];simp
  refine Aa ?_;rw[tabErr,if_neg h0,if_pos ⟨g1,h2,this⟩];rfl
end Yt
namespace Yt
open Go Go.Vc
def og103s0:OT:=.fork3 [F6 10] 6 (.fork [] 8 (.lin [F6 9,F7 11,F6 12,F7 13]) 11 (.lin [F6 8,F6 9,F6 12,F7 13])) 8 (.fork [] 6 (.lin [F6 9,F7 11,F6 12,F7 13]) 11 (.lin [F6 6,F6 9,F6 12,F7 13])) 11 (.lin [F6 6,F6 8,F6 9,F6 12,F7 13])
@[go_sem ↓] theorem og103s0_ev {P:Program} {T:Nat->Go.Vc.TI} {ops:List Oper} {st:St} {K:St->Prop}:evOT P T ops og103s0 st K=evOT P T ops (.fork3 [F6 10] 6 (.fork [] 8 (.lin [F6 9,F7 11,F6 12,F7 13]) 11 (.lin [F6 8,F6 9,F6 12,F7 13])) 8 (.fork [] 6 (.lin [F6 9,F7 11,F6 12,F7 13]) 11 (.lin [F6 6,F6 9,F6 12,F7 13])) 11 (.lin [F6 6,F6 8,F6 9,F6 12,F7 13])) st K:=rfl
def og103s1:OT:=.fork [] 4 (.fork [F6 10] 8 (.lin [F6 9,F7 11,F6 12,F7 13]) 11 (.lin [F6 8,F6 9,F6 12,F7 13])) 8 (.lin [F6 9,F7 4,F6 10,F7 11,F6 12,F7 13])
@[go_sem ↓] theorem og103s1_ev {P:Program} {T:Nat->Go.Vc.TI} {ops:List Oper} {st:St} {K:St->Prop}:evOT P T ops og103s1 st K=evOT P T ops (.fork [] 4 (.fork [F6 10] 8 (.lin [F6 9,F7 11,F6 12,F7 13]) 11 (.lin [F6 8,F6 9,F6 12,F7 13])) 8 (.lin [F6 9,F7 4,F6 10,F7 11,F6 12,F7 13])) st K:=rfl
def og103s2:OT:=.fork [] 4 (.fork [F6 10] 6 (.lin [F6 9,F7 11,F6 12,F7 13]) 11 (.lin [F6 6,F6 9,F6 12,F7 13])) 6 (.lin [F6 9,F7 4,F6 10,F7 11,F6 12,F7 13])
@[go_sem ↓] theorem og103s2_ev {P:Program} {T:Nat->Go.Vc.TI} {ops:List Oper} {st:St} {K:St->Prop}:evOT P T ops og103s2 st K=evOT P T ops (.fork [] 4 (.fork [F6 10] 6 (.lin [F6 9,F7 11,F6 12,F7 13]) 11 (.lin [F6 6,F6 9,F6 12,F7 13])) 6 (.lin [F6 9,F7 4,F6 10,F7 11,F6 12,F7 13])) st K:=rfl
def og103s3:OT:=.fork3 [F6 8] 4 (.fork [] 6 (.lin [F6 7,F7 9,F6 10,F7 11]) 9 (.lin [F6 6,F6 7,F6 10,F7 11])) 6 (.fork [] 4 (.lin [F6 7,F7 9,F6 10,F7 11]) 9 (.lin [F6 4,F6 7,F6 10,F7 11])) 9 (.lin [F6 4,F6 6,F6 7,F6 10,F7 11])
@[go_sem ↓] theorem og103s3_ev {P:Program} {T:Nat->Go.Vc.TI} {ops:List Oper} {st:St} {K:St->Prop}:evOT P T ops og103s3 st K=evOT P T ops (.fork3 [F6 8] 4 (.fork [] 6 (.lin [F6 7,F7 9,F6 10,F7 11]) 9 (.lin [F6 6,F6 7,F6 10,F7 11])) 6 (.fork [] 4 (.lin [F6 7,F7 9,F6 10,F7 11]) 9 (.lin [F6 4,F6 7,F6 10,F7 11])) 9 (.lin [F6 4,F6 6,F6 7,F6 10,F7 11])) st K:=rfl
def og103s4:OT:=.fork [] 2 (.fork [F6 8] 6 (.lin [F6 7,F7 9,F6 10,F7 11]) 9 (.lin [F6 6,F6 7,F6 10,F7 11])) 6 (.lin [F6 7,F7 2,F6 8,F7 9,F6 10,F7 11])
@[go_sem ↓] theorem og103s4_ev {P:Program} {T:Nat->Go.Vc.TI} {ops:List Oper} {st:St} {K:St->Prop}:evOT P T ops og103s4 st K=evOT P T ops (.fork [] 2 (.fork [F6 8] 6 (.lin [F6 7,F7 9,F6 10,F7 11]) 9 (.lin [F6 6,F6 7,F6 10,F7 11])) 6 (.lin [F6 7,F7 2,F6 8,F7 9,F6 10,F7 11])) st K:=rfl
def og103s5:OT:=.fork [] 2 (.fork [F6 8] 4 (.lin [F6 7,F7 9,F6 10,F7 11]) 9 (.lin [F6 4,F6 7,F6 10,F7 11])) 4 (.lin [F6 7,F7 2,F6 8,F7 9,F6 10,F7 11])
@[go_sem ↓] theorem og103s5_ev {P:Program} {T:Nat->Go.Vc.TI} {ops:List Oper} {st:St} {K:St->Prop}:evOT P T ops og103s5 st K=evOT P T ops (.fork [] 2 (.fork [F6 8] 4 (.lin [F6 7,F7 9,F6 10,F7 11]) 9 (.lin [F6 4,F6 7,F6 10,F7 11])) 4 (.lin [F6 7,F7 2,F6 8,F7 9,F6 10,F7 11])) st K:=rfl
def og103:Ords
 | 8=>some (.lin [F7 0,F7 1,F7 2,F8 3,F7 4,F7 5,F7 6,F7 7,F8 8,F7 9,F7 10,F7 11,F7 12,F7 13])
 | 9=>some (.lin [F7 0,F7 1,F7 2,F7 3,F7 4,F7 5,F7 6,F8 7,F7 8,F8 9,F7 10,F7 11,F7 12,F7 13,F7 14,F7 15,F7 16,F7 17,F7 18])
 | 12=>some (.forkq [F6 0,F9 1,F6 3,F9 4,F6 5,F9 6] 2 true (.lin [F6 7,Ga 8,Ga 9]) 8 true (.lin [Ga 2,F6 7,Ga 9]))
 | 16=>some (.lin [F9 0,F6 1,F6 2,F6 3,F6 4,Ga 5,F7 6,F6 7])
 | 27=>some (.lin [F7 0,F7 1,F8 2,F7 3,F7 4,F7 5])
 | 29=>some (.lin [F7 0,F7 1,F7 2,F7 3,F7 4,F8 5,F7 6,F7 7,F7 8,F7 9,F7 10,F7 11,F7 12,F7 13,F7 14])
 | 33=>some (.fork3 [F6 0,F6 1,F6 2,F6 3,F6 5,F6 7] 4 og103s0 6 og103s1 8 og103s2)
 | 40=>some (.fork3 [F6 0,F6 1,F6 2,F6 3,F6 4,F6 5,F6 7,F6 10] 6 (.fork [] 8 (.lin [F6 9,F7 11,F6 12,F7 13]) 11 (.lin [F6 8,F6 9,F6 12,F7 13])) 8 (.fork [] 6 (.lin [F6 9,F7 11,F6 12,F7 13]) 11 (.lin [F6 6,F6 9,F6 12,F7 13])) 11 (.lin [F6 6,F6 8,F6 9,F6 12,F7 13]))
 | 43=>some (.lin [F7 0,F7 1,F8 2,F7 3,F7 4,F7 5,F7 6,F7 7,F8 8,F7 9,F7 10,F7 11,F8 12,F7 13,F7 14,F7 15,F7 16,F7 17,F7 18,F7 19,F7 20,F7 21,F7 22])
 | 47=>some (.lin [F7 0,F7 1,F7 2,F8 3,F7 4,F7 5,F7 6,F7 7,F7 8,F7 9,F7 10,F7 11])
 | 52=>some (.forkq3 [F6 0,F6 3,F6 5] 1 true (.fork3 [] 2 og103s3 4 og103s4 6 og103s5) 4 false (.forkq [] 1 true og103s4 6 false (.lin [F6 7,Ga 1,F7 2,F6 8,F7 9,F6 10,F7 11])) 6 false (.forkq [] 1 true og103s5 4 false (.lin [F6 7,Ga 1,F7 2,F6 8,F7 9,F6 10,F7 11])))
 | 58=>some (.lin [F7 0,F7 1,F8 2,F7 3,F7 4,F7 5,F7 6,F8 7,F7 8,F7 9,F7 10,F7 11])
 | _=>none
@[go_sem] theorem og103_0:og103 0=none:=rfl
@[go_sem] theorem og103_1:og103 1=none:=rfl
@[go_sem] theorem og103_2:og103 2=none:=rfl
@[go_sem] theorem og103_3:og103 3=none:=rfl
@[go_sem] theorem og103_4:og103 4=none:=rfl
@[go_sem] theorem og103_5:og103 5=none:=rfl
@[go_sem] theorem og103_6:og103 6=none:=rfl
@[go_sem] theorem og103_7:og103 7=none:=rfl
attribute [go_sem] og103.eq_1
attribute [go_sem] og103.eq_2
@[go_sem] theorem og103_10:og103 10=none:=rfl
@[go_sem] theorem og103_11:og103 11=none:=rfl
attribute [go_sem] og103.eq_3
@[go_sem] theorem og103_13:og103 13=none:=rfl
@[go_sem] theorem og103_14:og103 14=none:=rfl
@[go_sem] theorem og103_15:og103 15=none:=rfl
attribute [go_sem] og103.eq_4
@[go_sem] theorem og103_17:og103 17=none:=rfl
@[go_sem] theorem og103_18:og103 18=none:=rfl
@[go_sem] theorem og103_19:og103 19=none:=rfl
@[go_sem] theorem og103_20:og103 20=none:=rfl
@[go_sem] theorem og103_21:og103 21=none:=rfl
@[go_sem] theorem og103_22:og103 22=none:=rfl
@[go_sem] theorem og103_23:og103 23=none:=rfl
@[go_sem] theorem og103_24:og103 24=none:=rfl
@[go_sem] theorem og103_25:og103 25=none:=rfl
@[go_sem] theorem og103_26:og103 26=none:=rfl
attribute [go_sem] og103.eq_5
@[go_sem] theorem og103_28:og103 28=none:=rfl
attribute [go_sem] og103.eq_6
@[go_sem] theorem og103_30:og103 30=none:=rfl
@[go_sem] theorem og103_31:og103 31=none:=rfl
@[go_sem] theorem og103_32:og103 32=none:=rfl
attribute [go_sem] og103.eq_7
@[go_sem] theorem og103_34:og103 34=none:=rfl
@[go_sem] theorem og103_35:og103 35=none:=rfl
@[go_sem] theorem og103_36:og103 36=none:=rfl
@[go_sem] theorem og103_37:og103 37=none:=rfl
@[go_sem] theorem og103_38:og103 38=none:=rfl
@[go_sem] theorem og103_39:og103 39=none:=rfl
attribute [go_sem] og103.eq_8
@[go_sem] theorem og103_41:og103 41=none:=rfl
@[go_sem] theorem og103_42:og103 42=none:=rfl
attribute [go_sem] og103.eq_9
@[go_sem] theorem og103_44:og103 44=none:=rfl
@[go_sem] theorem og103_45:og103 45=none:=rfl
@[go_sem] theorem og103_46:og103 46=none:=rfl
attribute [go_sem] og103.eq_10
@[go_sem] theorem og103_48:og103 48=none:=rfl
@[go_sem] theorem og103_49:og103 49=none:=rfl
@[go_sem] theorem og103_51:og103 51=none:=rfl
attribute [go_sem] og103.eq_11
@[go_sem] theorem og103_53:og103 53=none:=rfl
@[go_sem] theorem og103_54:og103 54=none:=rfl
@[go_sem] theorem og103_55:og103 55=none:=rfl
@[go_sem] theorem og103_56:og103 56=none:=rfl
@[go_sem] theorem og103_57:og103 57=none:=rfl
@[go_sem] theorem og103_50:og103 50=none:=rfl
attribute [go_sem] og103.eq_12
@[go_sem] theorem og103_59:og103 59=none:=rfl
@[go_sem] theorem og103_60:og103 60=none:=rfl
def og47:Ords
 | _=>none
@[go_sem] theorem og47_0:og47 0=none:=rfl
@[go_sem] theorem og47_1:og47 1=none:=rfl
@[go_sem] theorem og47_2:og47 2=none:=rfl
@[go_sem] theorem og47_3:og47 3=none:=rfl
@[go_sem] theorem og47_4:og47 4=none:=rfl
@[go_sem] theorem og47_5:og47 5=none:=rfl
@[go_sem] theorem og47_6:og47 6=none:=rfl
@[go_sem] theorem og47_7:og47 7=none:=rfl
@[go_sem] theorem og47_8:og47 8=none:=rfl
@[go_sem] theorem og47_10:og47 10=none:=rfl
@[go_sem] theorem og47_11:og47 11=none:=rfl
@[go_sem] theorem og47_12:og47 12=none:=rfl
@[go_sem] theorem og47_13:og47 13=none:=rfl
@[go_sem] theorem og47_9:og47 9=none:=rfl
@[go_sem] theorem og47_14:og47 14=none:=rfl
end Yt
namespace Yt
open Go Go.Vc Go.Proofs
theorem p71 (l:List Int) (hl:l.length<1073741824):Spec1 Tryz.prog 71 [intsL l] (λr o=>r=.rf 0 0 l.length/\o=io l):=by
 refine spec1_of_vc tabOk elems ord71 Tryz.func71 rfl (rl:=[.tmp 2]) rfl (by kernel_rfl) rfl ?_;refine A3 ?_;refine ⟨by omega,?_⟩;refine FINmk [(0,some 6)] [(2,.rf 0 0 l.length)] [(0,io l)] [0] rfl ?_ ?_
 ·refine D3 ?_;exact .same (io l) _ _ (io_leafy l) rfl
 ·exact ⟨io l,⟨⟨rfl,rfl⟩,rfl⟩,io_leafy l,rfl⟩
theorem p154o (t l:List Int) (hl:l.length<1073741824) (ht:t.length<1073741824):Spec1 Tryz.prog 154 [intsL t,intsL l] (λr o=>∃out,r=.tu [.rf 0 0 out.length,bA (!l.any (outC t.length))]/\o=io out/\(l.any (outC t.length)=false->out=pickI t l)):=by
 refine spec1_of_vc tabOk elems ord154 Tryz.func154 rfl (rl:=[.tmp 4,.tmp 5]) rfl (by kernel_rfl) rfl ?_;refine A3 ?_;refine LOOP.mk (ι:={i:Nat//i<=l.length/\∀j (h:j<l.length),j<i->outC t.length l[j]=false}) (λp=>mkS [(0,intsL t),(1,intsL l),(6,.rf 1000 0 p.1),(7,iA p.1)] [(1000,io (pickI t (l.take p.1)))] [1000]) (λp=>l.length-p.1) ⟨0,Nat.zero_le _,λj _ h=>absurd h (Nat.not_lt_zero _)⟩ [(1000,none)] rfl rfl ?_ (λp=>?_)
 ·refine Ce ?_;exact ⟨id,rfl,rfl⟩
 obtain ⟨i,hi,hg⟩:=p;refine Ce ?_;refine VIF.split (λh1=>?_) (λh1=>?_)
 ·have h1:i<l.length:=(by simpa using h1);have w1:=wrap_add1 (show i<4611686018427387904 by omega);have w2:IntKind.i64.wrap ((t.length:Int)-1)=(t.length:Int)-1:=by rw[wrap_i64]<;>omega
  refine Bn ?_;refine EL.map h1 ?_;refine C5 ?_;refine .pure _ (show Spec0 Tryz.prog 102 [iA l[i],iA 0,iA ((t.length:Int)-1)] _ from s53 l[i] 0 ((t.length:Int)-1)) rfl λq hq _=>?_;subst hq;rw[outC_inB];refine Ac ?_;refine VIF.split (λh2=>?_) (λh2=>?_)
  ·have h2:outC t.length l[i]=true:=(by simpa using h2);have ha:l.any (outC t.length)=true:=List.any_eq_true.2 ⟨_,List.getElem_mem h1,h2⟩;refine Aa ?_;refine FINmk [(0,none)] [(4,.rf 0 0 0),(5,bA false)] [(0,io [])] [0] rfl ?_ ?_
   ·refine Ac ?_;simp[io]
   ·refine Ac ?_;exact ⟨io [],⟨⟨[],by rw[ha];rfl,rfl,λh=>by rw[ha] at h;cases h⟩,rfl⟩,io_leafy [],rfl⟩
  ·have h2:outC t.length l[i]=false:=(by simpa using h2);have hc:0<=l[i]/\l[i].toNat<t.length:=by simp[outC] at h2;omega
   refine Aa ?_;refine EL.map h1 ?_;refine Ab ?_;refine ⟨hc.1,EL.map hc.2 ?_⟩;refine Ab ?_;refine ⟨by omega,?_⟩;refine Af ?_;refine BACK.mk ⟨i+1,by omega,λj hj hji=>if e:j=i then (by subst e;exact h2) else hg j hj (by omega)⟩ [(1000,some 32)] rfl rfl (by show l.length-(i+1)<l.length-i;omega) ?_;refine Di ?_;have hgv:getI t l[i]=t[l[i].toNat]'hc.2:=(by simp[getI,hc.2]);rw[List.take_of_length_le (l:=List.map _ (pickI t (l.take i))) (by simp[pickI];omega)];refine ⟨id,io_snoc (l:=pickI t (l.take i)) (n:=t[l[i].toNat]'hc.2) ?_⟩;rw[pickI,pickI,List.take_succ_eq_append_getElem h1,List.map_append,<- hgv];rfl
 ·have h1:i=l.length:=by simp at h1;omega
  subst h1;have ha:l.any (outC t.length)=false:=by rw[List.any_eq_false];intro c hc;obtain ⟨j,hj,rfl⟩:=List.mem_iff_getElem.1 hc;rw[hg j hj hj];simp
  refine Bi ?_;refine FINmk [(0,some 1000)] [(4,.rf 0 0 l.length),(5,bA true)] [(0,io (pickI t l))] [0] rfl ?_ ?_
  ·(simp -implicitDefEqProofs only[go_sem,bA,io];repeat (refine GO ?_;simp -implicitDefEqProofs only[go_sem,bA,io]));exact .same (io (pickI t l)) _ _ (io_leafy (pickI t l)) rfl
  ·refine Ac ?_;exact ⟨io (pickI t l),⟨⟨pickI t l,by rw[ha];simp[pickI,bA],rfl,λ_=>rfl⟩,rfl⟩,io_leafy (pickI t l),rfl⟩
def LookR (F:List (List Int)) (D:List Nd) (x:PN) (r:AV):Prop:=∃c1 c2 c3 e,r=.tu [.ag [c1,c2,c3],iA e]/\(c1.leaf&&c2.leaf&&c3.leaf)=true/\e=lookE F D x/\(e=0->AV.ag [c1,c2,c3]=.ag (lookN F D x).c)
theorem FINp {F:List (List Int)} {D:List Nd} {x:PN} {st:St} (c1 c2 c3:AV) (e:Int) (h0:st.objs 0=some ⟨3,D.map Nd.c⟩) (h6:st.regs 6=.pt 6 0 0) (hc:st.objs 6=some ⟨3,[[c1,c2,c3]]⟩) (hl:(c1.leaf&&c2.leaf&&c3.leaf)=true) (h7:st.regs 7=iA e) (he:e=lookE F D x) (hv:e=0->AV.ag [c1,c2,c3]=.ag (lookN F D x).c) :
 FIN T (upd noOb 0 (some (ndO D))) [.cell 6 73,.tmp 7] (λr O'=>∃o',((LookR F D x r/\o'=ndO D)/\r.noId=true)/\o'.leafy/\O'=upd noOb 0 (some o')) st:=by
 have hl':=hl;simp only[Bool.and_eq_true] at hl;refine FIN_B (o':=ndO D) (rl:=[(6,.ro [c1,c2,c3] 0),(7,iA e)]) (by rw[h0];rfl) (ndO_leafy D) ?_ ?_
 ·simp -implicitDefEqProofs only[go_sem,h6,h7,hc,iA];refine ⟨by simp[olds],_,rfl,λx hx a ha=>?_,rfl⟩;simp only[List.mem_singleton] at hx;subst hx;simp only[List.mem_cons,List.not_mem_nil,or_false] at ha;rcases ha with rfl|rfl|rfl
  ·exact hl.1.1
  ·exact hl.1.2
  ·exact hl.2
 ·simp -implicitDefEqProofs only[go_sem,iA];exact ⟨ndO D,⟨⟨⟨c1,c2,c3,e,rfl,hl',he,hv⟩,rfl⟩,noId_end (e:=e) hl'⟩,ndO_leafy D,rfl⟩
theorem kept_1 {o:Ob}:∀i,upd noOb 0 (some o) i≠none->i=0:=λi h=>by
 simp only[upd] at h;split at h
 ·rename_i e;exact e.symm
 ·exact absurd rfl h
theorem p103 (F:List (List Int)) (D:List Nd) (x:PN) (hD:D.length<1073741824) (hF:F.length<1073741824) (hFl:∀l∈F,l.length<1073741824) (hb:∀d∈D,Ndb d) (hc:x.cols.length<1073741824) (ho:x.others.length<1073741824) :
 SpecO Tryz.prog 103 [.ag x.c,formsA F,.rf 0 0 D.length] (ndO D) (λr o'=>LookR F D x r/\o'=ndO D):=by
 refine specO_of_vc tabOk elems og103 Tryz.func103 rfl (rl:=[.cell 6 73,.tmp 7]) rfl (by kernel_rfl) rfl ?_;(simp -implicitDefEqProofs only[go_sem,PN.c,formsA,iA,ndO];repeat (refine GO ?_;simp -implicitDefEqProofs only[go_sem,PN.c,formsA,iA,ndO]));refine .pure _ (show Spec0 Tryz.prog 102 [iA x.kind,iA 1,iA 8] _ from s53 x.kind 1 8) rfl λq hq _=>?_;subst hq;refine Ac ?_;refine VIF.split (λh1=>?_) (λh1=>?_)
 ·have h1:¬(1<=x.kind/\x.kind<=8):=by simp[inB] at h1;omega
  refine Aa ?_;exact FINp .nl (iA 0) (iA 0) 1 Ae Ae Ai rfl Ai (by
   rw[lookE,if_neg (by omega),if_neg (by omega),if_neg (by omega),if_neg (by omega),if_neg (by omega),if_neg (by omega),if_neg (by omega)]) (λh=>by cases h)
 have h1:1<=x.kind/\x.kind<=8:=by simp[inB] at h1;omega
 refine Aa ?_;refine VIF.split (λk1=>?_) (λk1=>?_)
 ·have k1:x.kind=1:=(by simpa using k1);have hlk:lookE F D x=scanE F x:=(by rw[lookE,if_pos k1]);have w2:IntKind.i64.wrap ((F.length:Int)-1)=(F.length:Int)-1:=by rw[wrap_i64]<;>omega
  (simp -implicitDefEqProofs only[go_sem,formsA,w2];repeat (refine GO ?_;simp -implicitDefEqProofs only[go_sem,formsA,w2]));refine .pure _ (show Spec0 Tryz.prog 102 [iA x.table,iA 0,iA ((F.length:Int)-1)] _ from s53 x.table 0 ((F.length:Int)-1)) rfl λq hq _=>?_;subst hq;refine Ac ?_;refine VIF.split (λh2=>?_) (λh2=>?_)
  ·have h2:inC x.table F.length=false:=by simp[inB] at h2;simp[inC];omega
   refine Aa ?_;exact FINp .nl (iA 0) (iA 0) 1 Ae Ae Ai rfl Ai (by rw[hlk,scanE,h2];rfl) (λh=>by cases h)
  have h2:inC x.table F.length=true:=by simp[inB] at h2;simp[inC];omega
  have hti:0<=x.table/\x.table.toNat<F.length:=by simp[inC] at h2;omega
  have hfl:=hFl _ (List.getElem_mem hti.2);have hfx:(F[x.table.toNat]?).getD []=F[x.table.toNat]'hti.2:=(by simp[hti.2]);(simp -implicitDefEqProofs only[go_sem,PN.c,formsA,iA,intsL];repeat (refine GO ?_;simp -implicitDefEqProofs only[go_sem,PN.c,formsA,iA,intsL]));refine ⟨hti.1,EL.map hti.2 ?_⟩;refine Aq ?_;refine ⟨by omega,?_⟩;refine FINfrz 46 (io (4::F[x.table.toNat]'hti.2)) (by refine Aa ?_;rfl) (io_leafy _) kept_1 ?_;refine Aw ?_;rw[im_io (by simp;omega)];exact FINp (intsL (4::F[x.table.toNat]'hti.2)) (iA 1024) (iA 2147483648) 0 Ae Ae Ai rfl Ai (by rw[hlk,scanE,h2];rfl) (λ_=>by rw[lookN,if_pos k1,scanN,hfx];rfl)
 have k1:x.kind≠1:=by simpa using k1
 have w3:IntKind.i64.wrap ((D.length:Int)-1)=(D.length:Int)-1:=by rw[wrap_i64]<;>omega
 have hin:∀c:Int,inB c 0 ((D.length:Int)-1)=inC c D.length:=λc=>by simp only[inB,inC];by_cases h1:0<=c<;>by_cases h2:c<D.length<;>simp[h1,h2]<;>omega
 have at_:∀{k:Int},inC k D.length=true->∃hk:k.toNat<D.length,0<=k/\k<D.length/\ndAt D k=D[k.toNat]'hk/\Ndb (D[k.toNat]'hk):=λ{k} hk=>by simp only[inC,Bool.and_eq_true,decide_eq_true_eq] at hk;have h2:k.toNat<D.length:=(by omega);exact ⟨h2,hk.1,hk.2,ndAt_eq h2,hb _ (List.getElem_mem h2)⟩
 have hk:x.kind=2\/x.kind=3\/x.kind=4\/x.kind=5\/x.kind=6\/x.kind=7\/x.kind=8:=by omega
 refine Ba ?_;rcases hk with hk|hk|hk|hk|hk|hk|hk
 ·have hlk:lookE F D x=filtE D x:=(by rw[lookE,if_neg k1,if_pos hk]);refine Ar ?_;try (simp -implicitDefEqProofs only[go_sem,w3];repeat (refine GO ?_;simp -implicitDefEqProofs only[go_sem,w3]))
  refine .pure _ (show Spec0 Tryz.prog 102 [iA x.a,iA 0,iA ((D.length:Int)-1)] _ from s53 x.a 0 ((D.length:Int)-1)) rfl λq hq _=>?_;subst hq;rw[hin];refine Ac ?_;refine VIF.split (λh2=>?_) (λh2=>?_)
  ·have h2:inC x.a D.length=false:=(by simpa using h2);refine Aa ?_;refine A0 ?_;exact FINp .nl (iA 0) (iA 0) 1 Ae Ae Ai rfl Ai (by rw[hlk,filtE,h2];rfl) (λh=>by cases h)
  have h2:inC x.a D.length=true:=(by simpa using h2);obtain ⟨ha,ha0,ha1,ea,na⟩:=at_ h2;refine Ba ?_;refine Ar ?_;refine ⟨⟨ha0,ha1⟩,EL.map ha ?_⟩;obtain ⟨n,hn⟩:∃n,n=D[x.a.toNat]'ha:=⟨_,rfl⟩;have nw0:=na.w0;have nw1:=na.w1;have nv0:=na.v0;have nv1:=na.v1;have hnl:=na.tl;simp only[<- hn] at ea nw0 nw1 nv0 nv1 hnl ⊢;refine Bl ?_;apply And.intro
  all_goals
   refine .make 88 _ (show Spec1 Tryz.prog 71 [intsL n.types] _ from p71 n.types (by omega)) rfl (by simp) rfl λq o hq _=>?_;obtain ⟨rfl,rfl⟩:=hq;refine Bq ?_;refine Ar ?_;refine .pure _ (show Spec0 Tryz.prog 48 [.ag x.pred.c,intsL n.types] _ from p48 x.pred n.types (by omega)) rfl λq hq _=>?_;subst hq;refine Ab ?_;refine FINfrz 88 (io n.types) (by refine Aa ?_;rfl) (io_leafy _) kept_1 ?_;refine Aw ?_;rw[im_io (by omega)];exact FINp (intsL n.types) (iA n.w) (iA n.v) (predE x.pred n.types) Ae Ae Ai rfl Ai (by rw[hlk,filtE,h2,ea];rfl) (λ_=>by rw[lookN,if_neg k1,if_pos hk,ea];rfl)
 ·have hlk:lookE F D x=projE x D:=(by rw[lookE,if_neg k1,if_neg (by omega),if_pos hk]);refine Ar ?_;try (simp -implicitDefEqProofs only[go_sem,w3];repeat (refine GO ?_;simp -implicitDefEqProofs only[go_sem,w3]))
  refine .pure _ (show Spec0 Tryz.prog 102 [iA x.a,iA 0,iA ((D.length:Int)-1)] _ from s53 x.a 0 ((D.length:Int)-1)) rfl λq hq _=>?_;subst hq;rw[hin];refine Ac ?_;refine VIF.split (λh2=>?_) (λh2=>?_)
  ·have h2:inC x.a D.length=false:=(by simpa using h2);refine Aa ?_;refine A0 ?_;exact FINp .nl (iA 0) (iA 0) 1 Ae Ae Ai rfl Ai (by rw[hlk,projE,if_pos (.inl h2)]) (λh=>by cases h)
  have h2:inC x.a D.length=true:=(by simpa using h2);obtain ⟨ha,ha0,ha1,ea,na⟩:=at_ h2;refine Ba ?_;refine Ar ?_;refine ⟨⟨ha0,ha1⟩,EL.map ha ?_⟩;obtain ⟨n,hn⟩:∃n,n=D[x.a.toNat]'ha:=⟨_,rfl⟩;have nw0:=na.w0;have nw1:=na.w1;have nv0:=na.v0;have nv1:=na.v1;have hnl:=na.tl;simp only[<- hn] at ea nw0 nw1 nv0 nv1 hnl ⊢;refine Bl ?_;apply And.intro
  all_goals
   refine .make 88 _ (show Spec1 Tryz.prog 71 [intsL n.types] _ from p71 n.types (by omega)) rfl (by simp) rfl λq o hq _=>?_;obtain ⟨rfl,rfl⟩:=hq;refine Bq ?_;refine Ar ?_;refine .make 111 _ (show Spec1 Tryz.prog 154 [intsL n.types,intsL x.cols] _ from p154o n.types x.cols hc (by omega)) rfl (by simp) rfl λq o hq _=>?_;obtain ⟨out,rfl,rfl,hout⟩:=hq;refine C0 ?_;refine VIF.split (λh3=>?_) (λh3=>?_)
   ·have h3:x.cols.any (outC (ndAt D x.a).types.length)=true:=by rw[ea];simpa using h3
    refine Aa ?_;exact FINp .nl (iA 0) (iA 0) 1 Ae Ae Ai rfl Ai (by rw[hlk,projE,if_pos (.inr h3)]) (λh=>by cases h)
   have h3:x.cols.any (outC n.types.length)=false:=(by simpa using h3);have hout:=hout h3;subst hout;have c2:¬(inC x.a D.length=false\/x.cols.any (outC (ndAt D x.a).types.length)=true):=by rw[ea,h2,h3];simp
   refine B0 ?_;refine VIF.split (λh4=>?_) (λh4=>?_)
   ·have h4:12<x.cols.length:=by simp at h4;omega
    refine Aa ?_;exact FINp .nl (iA 0) (iA 0) 2 Ae Ae Ai rfl Ai (by rw[hlk,projE,if_neg c2,if_pos h4]) (λh=>by cases h)
   have h4:¬12<x.cols.length:=by simp at h4;omega
   try (simp -implicitDefEqProofs only[go_sem,iA];repeat (refine GO ?_;simp -implicitDefEqProofs only[go_sem,iA]))
   simp only[h3];refine D9 ?_;refine FINfrz 111 (io (pickI n.types x.cols)) (by refine Aa ?_;rfl) (io_leafy _) kept_1 ?_;refine Aw ?_;rw[im_io (by first|omega|(simp[pickI];done)|(simp[pickI];omega))];exact FINp (intsL (pickI n.types x.cols)) (iA (n.w)) (iA (n.v)) 0 Ae Ae Ai rfl Ai (by rw[hlk,projE,if_neg c2,if_neg h4]) (λ_=>by rw[lookN,if_neg k1,if_neg (by omega),if_pos hk,projN,ea];rfl)
 ·have hlk:lookE F D x=joinE x D:=(by rw[lookE,if_neg k1,if_neg (by omega),if_neg (by omega),if_pos hk]);refine Ar ?_;try (simp -implicitDefEqProofs only[go_sem,w3];repeat (refine GO ?_;simp -implicitDefEqProofs only[go_sem,w3]))
  refine .pure _ (show Spec0 Tryz.prog 102 [iA x.a,iA 0,iA ((D.length:Int)-1)] _ from s53 x.a 0 ((D.length:Int)-1)) rfl λq hq _=>?_;subst hq;rw[hin];refine Ac ?_;refine VIF.split (λh2=>?_) (λh2=>?_)
  ·have h2:inC x.a D.length=false:=(by simpa using h2);refine Aa ?_;refine A0 ?_;exact FINp .nl (iA 0) (iA 0) 1 Ae Ae Ai rfl Ai (by rw[hlk,joinE,if_pos (.inl h2)]) (λh=>by cases h)
  have h2:inC x.a D.length=true:=(by simpa using h2);obtain ⟨ha,ha0,ha1,ea,na⟩:=at_ h2;refine Ba ?_;refine Ar ?_;try (simp -implicitDefEqProofs only[go_sem,w3];repeat (refine GO ?_;simp -implicitDefEqProofs only[go_sem,w3]))
  refine .pure _ (show Spec0 Tryz.prog 102 [iA x.b,iA 0,iA ((D.length:Int)-1)] _ from s53 x.b 0 ((D.length:Int)-1)) rfl λq hq _=>?_;subst hq;rw[hin];refine Ac ?_;refine VIF.split (λh2b=>?_) (λh2b=>?_)
  ·have h2b:inC x.b D.length=false:=(by simpa using h2b);refine Aa ?_;refine A0 ?_;exact FINp .nl (iA 0) (iA 0) 1 Ae Ae Ai rfl Ai (by rw[hlk,joinE,if_pos (.inr h2b)]) (λh=>by cases h)
  have h2b:inC x.b D.length=true:=(by simpa using h2b);obtain ⟨hb',hb0,hb1,eb,nb⟩:=at_ h2b;obtain ⟨m,hm⟩:∃m,m=D[x.b.toNat]'hb':=⟨_,rfl⟩;have c1:¬(inC x.a D.length=false\/inC x.b D.length=false):=by rw[h2,h2b];simp
  have mw0:=nb.w0;have mw1:=nb.w1;have mv0:=nb.v0;have mv1:=nb.v1;have ml:=nb.tl;refine Ba ?_;refine Ar ?_;refine ⟨⟨ha0,ha1⟩,EL.map ha ?_⟩;obtain ⟨n,hn⟩:∃n,n=D[x.a.toNat]'ha:=⟨_,rfl⟩;have nw0:=na.w0;have nw1:=na.w1;have nv0:=na.v0;have nv1:=na.v1;have hnl:=na.tl;simp only[<- hn] at ea nw0 nw1 nv0 nv1 hnl ⊢;simp only[<- hm] at eb mw0 mw1 mv0 mv1 ml;refine Bl ?_;apply And.intro
  all_goals
   refine .make 88 _ (show Spec1 Tryz.prog 71 [intsL n.types] _ from p71 n.types (by omega)) rfl (by simp) rfl λq o hq _=>?_;obtain ⟨rfl,rfl⟩:=hq;refine Bq ?_;refine Ar ?_;refine ⟨⟨hb0,hb1⟩,EL.map hb' ?_⟩;simp only[<- hm];refine Bl ?_;refine .make 135 _ (show Spec1 Tryz.prog 154 [intsL n.types,intsL x.cols] _ from p154o n.types x.cols hc (by omega)) rfl (by simp) rfl λq o hq _=>?_;obtain ⟨p,rfl,rfl,hp⟩:=hq;refine C0 ?_;refine .make 143 _ (show Spec1 Tryz.prog 154 [intsL m.types,intsL x.others] _ from p154o m.types x.others ho (by omega)) rfl (by simp) rfl λq o hq _=>?_;obtain ⟨p2,rfl,rfl,hp2⟩:=hq;refine C0 ?_;refine VIF.split (λh3=>?_) (λh3=>?_)
   ·have h3:x.cols.any (outC (ndAt D x.a).types.length)=true:=by rw[ea];simpa using h3
    refine Aa ?_;exact FINp .nl (iA 0) (iA 0) 1 Ae Ae Ai rfl Ai (by rw[hlk,joinE,if_neg c1,if_pos (.inl h3)]) (λh=>by cases h)
   have h3:x.cols.any (outC n.types.length)=false:=(by simpa using h3);refine Ac ?_;refine VIF.split (λh4=>?_) (λh4=>?_)
   ·have h4:x.others.any (outC (ndAt D x.b).types.length)=true:=by rw[eb];simpa using h4
    refine Aa ?_;exact FINp .nl (iA 0) (iA 0) 1 Ae Ae Ai rfl Ai (by rw[hlk,joinE,if_neg c1,if_pos (.inr h4)]) (λh=>by cases h)
   have h4:x.others.any (outC m.types.length)=false:=(by simpa using h4);have c2:¬(x.cols.any (outC (ndAt D x.a).types.length)=true\/x.others.any (outC (ndAt D x.b).types.length)=true):=by rw[ea,eb,h3,h4];simp
   have hp:=hp h3;have hp2:=hp2 h4;have hpl:p.length=x.cols.length:=by rw[hp];simp[pickI]
   have hpl2:p2.length=x.others.length:=by rw[hp2];simp[pickI]
   refine Ab ?_;refine VIF.split (λh5=>?_) (λh5=>?_)
   ·have h5:x.cols.length≠x.others.length:=by simp at h5;omega
    refine Aa ?_;exact FINp .nl (iA 0) (iA 0) 2 Ae Ae Ai rfl Ai (by rw[hlk,joinE,if_neg c1,if_neg c2,if_pos (.inl h5)]) (λh=>by cases h)
   have h5:x.cols.length=x.others.length:=by simp at h5;omega
   have w5:IntKind.i64.wrap ((n.types.length:Int)+(m.types.length:Int))=((n.types.length+m.types.length:Nat):Int):=by rw[wrap_i64]<;>omega
   (simp -implicitDefEqProofs only[go_sem,iA,intsL,w5];repeat (refine GO ?_;simp -implicitDefEqProofs only[go_sem,iA,intsL,w5]));refine VIF.split (λh6=>?_) (λh6=>?_)
   ·have h6:12<(ndAt D x.a).types.length+(ndAt D x.b).types.length:=by rw[ea,eb];simp at h6;omega
    refine Aa ?_;exact FINp .nl (iA 0) (iA 0) 2 Ae Ae Ai rfl Ai (by rw[hlk,joinE,if_neg c1,if_neg c2,if_pos (.inr h6)]) (λh=>by cases h)
   have h6:¬12<n.types.length+m.types.length:=by simp at h6;omega
   have c3:¬(x.cols.length≠x.others.length\/12<(ndAt D x.a).types.length+(ndAt D x.b).types.length):=by rw[ea,eb];omega
   refine Aa ?_;refine .lendR (args':=[intsL p,intsL p2]) (p64 p p2 (by omega)) ⟨lent_leafy (o:=io p) (by refine Aa ?_;rfl) rfl (by simp[io]) (io_leafy _) (λz hz=>by obtain ⟨v,_,rfl⟩:=List.mem_map.1 hz;rfl),lent_leafy (o:=io p2) (by refine Aa ?_;rfl) rfl (by simp[io]) (io_leafy _) (λz hz=>by obtain ⟨v,_,rfl⟩:=List.mem_map.1 hz;rfl),trivial⟩ (by rintro _ rfl;rfl) λq hq=>?_;subst hq;refine Ac ?_;refine VIF.split (λh7=>?_) (λh7=>?_)
   ·have h7:pickI (ndAt D x.a).types x.cols≠pickI (ndAt D x.b).types x.others:=by rw[ea,eb,<- hp,<- hp2];simpa using h7
    refine Aa ?_;exact FINp .nl (iA 0) (iA 0) 10 Ae Ae Ai rfl Ai (by rw[hlk,joinE,if_neg c1,if_neg c2,if_neg c3,if_pos h7]) (λh=>by cases h)
   have h7:¬pickI (ndAt D x.a).types x.cols≠pickI (ndAt D x.b).types x.others:=by rw[ea,eb,<- hp,<- hp2];simpa using h7
   have hmn:=Int.mul_nonneg nw0 mw0;have hpk:prodOk n.w m.w 1125899906842624=decide (n.w*m.w<=1125899906842624):=by simp only[prodOk,inB];rw[show decide (-1125899906842624<=n.w*m.w)=true from decide_eq_true (by omega),Bool.true_and]
   refine Ab ?_;repeat' apply And.intro
   all_goals try omega
   all_goals
    refine Ab ?_;refine .pure _ (show Spec0 Tryz.prog 155 [iA n.w,iA m.w,iA 1125899906842624] _ from c78 n.w m.w 1125899906842624 (by omega) (by omega) (by omega)) rfl λq hq _=>?_;subst hq;rw[hpk];refine Ay ?_;refine VIF.split (λh8=>?_) (λh8=>?_)
    ·have h8:¬(ndAt D x.a).w*(ndAt D x.b).w<=1125899906842624:=by rw[ea,eb];simpa using h8
     refine Aa ?_;refine A0 ?_;exact FINp .nl (iA 0) (iA 0) 11 Ae Ae Ai rfl Ai (by rw[hlk,joinE,if_neg c1,if_neg c2,if_neg c3,if_neg h7,if_pos h8]) (λh=>by cases h)
    have h8:n.w*m.w<=1125899906842624:=(by simpa using h8);have h8':¬¬(ndAt D x.a).w*(ndAt D x.b).w<=1125899906842624:=by rw[ea,eb];simpa using h8
    simp only[h8,decide_true,if_true];try (simp -implicitDefEqProofs only[go_sem,iA];repeat (refine GO ?_;simp -implicitDefEqProofs only[go_sem,iA]))
    refine Al ?_;refine FINfrz 178 (io (n.types++m.types)) (by refine Aa ?_;first|rfl|(rw[io,List.map_append,List.take_of_length_le (by simp)];rfl)) (io_leafy _) kept_1 ?_;refine Aw ?_;rw[im_io (by first|omega|(simp[pickI];done)|(simp[pickI];omega))];exact FINp (intsL (n.types++m.types)) (iA (n.w*m.w)) (iA (max n.v m.v)) 0 Ae Ae Ai rfl Ai (by rw[hlk,joinE,if_neg c1,if_neg c2,if_neg c3,if_neg h7,if_neg h8']) (λ_=>by rw[lookN,if_neg k1,if_neg (by omega),if_neg (by omega),if_pos hk,joinN,ea,eb];rfl)
 ·have hlk:lookE F D x=bothE x D:=(by rw[lookE,if_neg k1,if_neg (by omega),if_neg (by omega),if_neg (by omega),if_pos (.inl hk)]);refine Ar ?_;try (simp -implicitDefEqProofs only[go_sem,w3];repeat (refine GO ?_;simp -implicitDefEqProofs only[go_sem,w3]))
  refine .pure _ (show Spec0 Tryz.prog 102 [iA x.a,iA 0,iA ((D.length:Int)-1)] _ from s53 x.a 0 ((D.length:Int)-1)) rfl λq hq _=>?_;subst hq;rw[hin];refine Ac ?_;refine VIF.split (λh2=>?_) (λh2=>?_)
  ·have h2:inC x.a D.length=false:=(by simpa using h2);refine Aa ?_;refine A0 ?_;exact FINp .nl (iA 0) (iA 0) 1 Ae Ae Ai rfl Ai (by rw[hlk,bothE,if_pos (.inl h2)]) (λh=>by cases h)
  have h2:inC x.a D.length=true:=(by simpa using h2);obtain ⟨ha,ha0,ha1,ea,na⟩:=at_ h2;refine Ba ?_;refine Ar ?_;try (simp -implicitDefEqProofs only[go_sem,w3];repeat (refine GO ?_;simp -implicitDefEqProofs only[go_sem,w3]))
  refine .pure _ (show Spec0 Tryz.prog 102 [iA x.b,iA 0,iA ((D.length:Int)-1)] _ from s53 x.b 0 ((D.length:Int)-1)) rfl λq hq _=>?_;subst hq;rw[hin];refine Ac ?_;refine VIF.split (λh2b=>?_) (λh2b=>?_)
  ·have h2b:inC x.b D.length=false:=(by simpa using h2b);refine Aa ?_;refine A0 ?_;exact FINp .nl (iA 0) (iA 0) 1 Ae Ae Ai rfl Ai (by rw[hlk,bothE,if_pos (.inr h2b)]) (λh=>by cases h)
  have h2b:inC x.b D.length=true:=(by simpa using h2b);obtain ⟨hb',hb0,hb1,eb,nb⟩:=at_ h2b;obtain ⟨m,hm⟩:∃m,m=D[x.b.toNat]'hb':=⟨_,rfl⟩;have c1:¬(inC x.a D.length=false\/inC x.b D.length=false):=by rw[h2,h2b];simp
  have mw0:=nb.w0;have mw1:=nb.w1;have mv0:=nb.v0;have mv1:=nb.v1;have ml:=nb.tl;refine Ba ?_;refine Ar ?_;refine ⟨⟨ha0,ha1⟩,EL.map ha ?_⟩;obtain ⟨n,hn⟩:∃n,n=D[x.a.toNat]'ha:=⟨_,rfl⟩;have nw0:=na.w0;have nw1:=na.w1;have nv0:=na.v0;have nv1:=na.v1;have hnl:=na.tl;simp only[<- hn] at ea nw0 nw1 nv0 nv1 hnl ⊢;simp only[<- hm] at eb mw0 mw1 mv0 mv1 ml;refine Bl ?_;apply And.intro
  all_goals
   refine .make 88 _ (show Spec1 Tryz.prog 71 [intsL n.types] _ from p71 n.types (by omega)) rfl (by simp) rfl λq o hq _=>?_;obtain ⟨rfl,rfl⟩:=hq;refine Bq ?_;refine Ar ?_;refine ⟨⟨hb0,hb1⟩,EL.map hb' ?_⟩;simp only[<- hm];refine Bl ?_;refine .pure _ (show Spec0 Tryz.prog 64 [intsL n.types,intsL m.types] _ from p64 n.types m.types (by omega)) rfl λq hq _=>?_;subst hq;refine Ac ?_;refine VIF.split (λh3=>?_) (λh3=>?_)
   ·have h3:(ndAt D x.a).types≠(ndAt D x.b).types:=by rw[ea,eb];simpa using h3
    refine Aa ?_;exact FINp .nl (iA 0) (iA 0) 10 Ae Ae Ai rfl Ai (by rw[hlk,bothE,if_neg c1,if_pos h3]) (λh=>by cases h)
   have h3:¬(ndAt D x.a).types≠(ndAt D x.b).types:=by rw[ea,eb];simpa using h3
   have w5:IntKind.i64.wrap (n.w+m.w)=n.w+m.w:=by rw[wrap_i64]<;>omega
   refine Fy ?_;repeat' apply And.intro
   all_goals
    refine Ab ?_;refine Al ?_;refine VIF.split (λh4=>?_) (λh4=>?_)
    ·have h4:1125899906842624-(ndAt D x.b).w<(ndAt D x.a).w:=by rw[ea,eb];simp at h4;omega
     refine Aa ?_;refine A0 ?_;exact FINp .nl (iA 0) (iA 0) 11 Ae Ae Ai rfl Ai (by rw[hlk,bothE,if_neg c1,if_neg h3,if_pos h4]) (λh=>by cases h)
    have h4:¬1125899906842624-(ndAt D x.b).w<(ndAt D x.a).w:=by rw[ea,eb];simp at h4;omega
    refine Ab ?_;refine Al ?_;refine FINfrz 88 (io (n.types)) (by refine Aa ?_;rfl) (io_leafy _) kept_1 ?_;refine Aw ?_;rw[im_io (by first|omega|(simp[pickI];done)|(simp[pickI];omega))];exact FINp (intsL (n.types)) (iA (n.w+m.w)) (iA (max n.v m.v)) 0 Ae Ae Ai rfl Ai (by rw[hlk,bothE,if_neg c1,if_neg h3,if_neg h4]) (λ_=>by rw[lookN,if_neg k1,if_neg (by omega),if_neg (by omega),if_neg (by omega),if_pos (.inl hk),bothN,ea,eb];rfl)
 ·have hlk:lookE F D x=bothE x D:=(by rw[lookE,if_neg k1,if_neg (by omega),if_neg (by omega),if_neg (by omega),if_pos (.inr hk)]);refine Ar ?_;try (simp -implicitDefEqProofs only[go_sem,w3];repeat (refine GO ?_;simp -implicitDefEqProofs only[go_sem,w3]))
  refine .pure _ (show Spec0 Tryz.prog 102 [iA x.a,iA 0,iA ((D.length:Int)-1)] _ from s53 x.a 0 ((D.length:Int)-1)) rfl λq hq _=>?_;subst hq;rw[hin];refine Ac ?_;refine VIF.split (λh2=>?_) (λh2=>?_)
  ·have h2:inC x.a D.length=false:=(by simpa using h2);refine Aa ?_;refine A0 ?_;exact FINp .nl (iA 0) (iA 0) 1 Ae Ae Ai rfl Ai (by rw[hlk,bothE,if_pos (.inl h2)]) (λh=>by cases h)
  have h2:inC x.a D.length=true:=(by simpa using h2);obtain ⟨ha,ha0,ha1,ea,na⟩:=at_ h2;refine Ba ?_;refine Ar ?_;try (simp -implicitDefEqProofs only[go_sem,w3];repeat (refine GO ?_;simp -implicitDefEqProofs only[go_sem,w3]))
  refine .pure _ (show Spec0 Tryz.prog 102 [iA x.b,iA 0,iA ((D.length:Int)-1)] _ from s53 x.b 0 ((D.length:Int)-1)) rfl λq hq _=>?_;subst hq;rw[hin];refine Ac ?_;refine VIF.split (λh2b=>?_) (λh2b=>?_)
  ·have h2b:inC x.b D.length=false:=(by simpa using h2b);refine Aa ?_;refine A0 ?_;exact FINp .nl (iA 0) (iA 0) 1 Ae Ae Ai rfl Ai (by rw[hlk,bothE,if_pos (.inr h2b)]) (λh=>by cases h)
  have h2b:inC x.b D.length=true:=(by simpa using h2b);obtain ⟨hb',hb0,hb1,eb,nb⟩:=at_ h2b;obtain ⟨m,hm⟩:∃m,m=D[x.b.toNat]'hb':=⟨_,rfl⟩;have c1:¬(inC x.a D.length=false\/inC x.b D.length=false):=by rw[h2,h2b];simp
  have mw0:=nb.w0;have mw1:=nb.w1;have mv0:=nb.v0;have mv1:=nb.v1;have ml:=nb.tl;refine Ba ?_;refine Ar ?_;refine ⟨⟨ha0,ha1⟩,EL.map ha ?_⟩;obtain ⟨n,hn⟩:∃n,n=D[x.a.toNat]'ha:=⟨_,rfl⟩;have nw0:=na.w0;have nw1:=na.w1;have nv0:=na.v0;have nv1:=na.v1;have hnl:=na.tl;simp only[<- hn] at ea nw0 nw1 nv0 nv1 hnl ⊢;simp only[<- hm] at eb mw0 mw1 mv0 mv1 ml;refine Bl ?_;apply And.intro
  all_goals
   refine .make 88 _ (show Spec1 Tryz.prog 71 [intsL n.types] _ from p71 n.types (by omega)) rfl (by simp) rfl λq o hq _=>?_;obtain ⟨rfl,rfl⟩:=hq;refine Bq ?_;refine Ar ?_;refine ⟨⟨hb0,hb1⟩,EL.map hb' ?_⟩;simp only[<- hm];refine Bl ?_;refine .pure _ (show Spec0 Tryz.prog 64 [intsL n.types,intsL m.types] _ from p64 n.types m.types (by omega)) rfl λq hq _=>?_;subst hq;refine Ac ?_;refine VIF.split (λh3=>?_) (λh3=>?_)
   ·have h3:(ndAt D x.a).types≠(ndAt D x.b).types:=by rw[ea,eb];simpa using h3
    refine Aa ?_;exact FINp .nl (iA 0) (iA 0) 10 Ae Ae Ai rfl Ai (by rw[hlk,bothE,if_neg c1,if_pos h3]) (λh=>by cases h)
   have h3:¬(ndAt D x.a).types≠(ndAt D x.b).types:=by rw[ea,eb];simpa using h3
   have w5:IntKind.i64.wrap (n.w+m.w)=n.w+m.w:=by rw[wrap_i64]<;>omega
   refine Fy ?_;repeat' apply And.intro
   all_goals
    refine Ab ?_;refine Al ?_;refine VIF.split (λh4=>?_) (λh4=>?_)
    ·have h4:1125899906842624-(ndAt D x.b).w<(ndAt D x.a).w:=by rw[ea,eb];simp at h4;omega
     refine Aa ?_;refine A0 ?_;exact FINp .nl (iA 0) (iA 0) 11 Ae Ae Ai rfl Ai (by rw[hlk,bothE,if_neg c1,if_neg h3,if_pos h4]) (λh=>by cases h)
    have h4:¬1125899906842624-(ndAt D x.b).w<(ndAt D x.a).w:=by rw[ea,eb];simp at h4;omega
    refine Ab ?_;refine Al ?_;refine FINfrz 88 (io (n.types)) (by refine Aa ?_;rfl) (io_leafy _) kept_1 ?_;refine Aw ?_;rw[im_io (by first|omega|(simp[pickI];done)|(simp[pickI];omega))];exact FINp (intsL (n.types)) (iA (n.w+m.w)) (iA (max n.v m.v)) 0 Ae Ae Ai rfl Ai (by rw[hlk,bothE,if_neg c1,if_neg h3,if_neg h4]) (λ_=>by rw[lookN,if_neg k1,if_neg (by omega),if_neg (by omega),if_neg (by omega),if_pos (.inr hk),bothN,ea,eb];rfl)
 ·have hlk:lookE F D x=distE D x:=(by rw[lookE,if_neg k1,if_neg (by omega),if_neg (by omega),if_neg (by omega),if_neg (by omega),if_pos hk]);refine Ar ?_;try (simp -implicitDefEqProofs only[go_sem,w3];repeat (refine GO ?_;simp -implicitDefEqProofs only[go_sem,w3]))
  refine .pure _ (show Spec0 Tryz.prog 102 [iA x.a,iA 0,iA ((D.length:Int)-1)] _ from s53 x.a 0 ((D.length:Int)-1)) rfl λq hq _=>?_;subst hq;rw[hin];refine Ac ?_;refine VIF.split (λh2=>?_) (λh2=>?_)
  ·have h2:inC x.a D.length=false:=(by simpa using h2);refine Aa ?_;refine A0 ?_;exact FINp .nl (iA 0) (iA 0) 1 Ae Ae Ai rfl Ai (by rw[hlk,distE,h2];rfl) (λh=>by cases h)
  have h2:inC x.a D.length=true:=(by simpa using h2);obtain ⟨ha,ha0,ha1,ea,na⟩:=at_ h2;refine Ba ?_;refine Ar ?_;refine ⟨⟨ha0,ha1⟩,EL.map ha ?_⟩;obtain ⟨n,hn⟩:∃n,n=D[x.a.toNat]'ha:=⟨_,rfl⟩;have nw0:=na.w0;have nw1:=na.w1;have nv0:=na.v0;have nv1:=na.v1;have hnl:=na.tl;simp only[<- hn] at ea nw0 nw1 nv0 nv1 hnl ⊢;refine Bl ?_;apply And.intro
  all_goals
   refine .make 88 _ (show Spec1 Tryz.prog 71 [intsL n.types] _ from p71 n.types (by omega)) rfl (by simp) rfl λq o hq _=>?_;obtain ⟨rfl,rfl⟩:=hq;refine Bq ?_;refine Ar ?_;try (simp -implicitDefEqProofs only[go_sem,iA];repeat (refine GO ?_;simp -implicitDefEqProofs only[go_sem,iA]))
   refine D9 ?_;refine FINfrz 88 (io (n.types)) (by refine Aa ?_;rfl) (io_leafy _) kept_1 ?_;refine Aw ?_;rw[im_io (by first|omega|(simp[pickI];done)|(simp[pickI];omega))];exact FINp (intsL (n.types)) (iA (n.w)) (iA (n.v)) 0 Ae Ae Ai rfl Ai (by rw[hlk,distE,h2];rfl) (λ_=>by rw[lookN,if_neg k1,if_neg (by omega),if_neg (by omega),if_neg (by omega),if_neg (by omega),if_pos hk,ea];rfl)
 ·have hlk:lookE F D x=grpE x D:=(by rw[lookE,if_neg k1,if_neg (by omega),if_neg (by omega),if_neg (by omega),if_neg (by omega),if_neg (by omega),if_pos hk]);refine Ar ?_;try (simp -implicitDefEqProofs only[go_sem,w3];repeat (refine GO ?_;simp -implicitDefEqProofs only[go_sem,w3]))
  refine .pure _ (show Spec0 Tryz.prog 102 [iA x.a,iA 0,iA ((D.length:Int)-1)] _ from s53 x.a 0 ((D.length:Int)-1)) rfl λq hq _=>?_;subst hq;rw[hin];refine Ac ?_;refine VIF.split (λh2=>?_) (λh2=>?_)
  ·have h2:inC x.a D.length=false:=(by simpa using h2);refine Aa ?_;refine A0 ?_;exact FINp .nl (iA 0) (iA 0) 1 Ae Ae Ai rfl Ai (by rw[hlk,grpE,if_pos (.inl h2)]) (λh=>by cases h)
  have h2:inC x.a D.length=true:=(by simpa using h2);obtain ⟨ha,ha0,ha1,ea,na⟩:=at_ h2;refine Ba ?_;refine Ar ?_;refine ⟨⟨ha0,ha1⟩,EL.map ha ?_⟩;obtain ⟨n,hn⟩:∃n,n=D[x.a.toNat]'ha:=⟨_,rfl⟩;have nw0:=na.w0;have nw1:=na.w1;have nv0:=na.v0;have nv1:=na.v1;have hnl:=na.tl;simp only[<- hn] at ea nw0 nw1 nv0 nv1 hnl ⊢;refine Bl ?_;apply And.intro
  all_goals
   refine .make 88 _ (show Spec1 Tryz.prog 71 [intsL n.types] _ from p71 n.types (by omega)) rfl (by simp) rfl λq o hq _=>?_;obtain ⟨rfl,rfl⟩:=hq;refine Bq ?_;refine Ar ?_;refine .make 229 _ (show Spec1 Tryz.prog 154 [intsL n.types,intsL x.cols] _ from p154o n.types x.cols hc (by omega)) rfl (by simp) rfl λq o hq _=>?_;obtain ⟨p,rfl,rfl,hp⟩:=hq;refine C0 ?_;refine VIF.split (λh3=>?_) (λh3=>?_)
   ·have h3:x.cols.any (outC (ndAt D x.a).types.length)=true:=by rw[ea];simpa using h3
    refine Aa ?_;refine A0 ?_;by_cases hg:inC x.a D.length=false\/x.agg<1\/4<x.agg
    ·exact FINp .nl (iA 0) (iA 0) 1 Ae Ae Ai rfl Ai (by rw[hlk,grpE,if_pos hg]) (λh=>by cases h)
    ·exact FINp .nl (iA 0) (iA 0) 1 Ae Ae Ai rfl Ai (by rw[hlk,grpE,if_neg hg,if_pos (.inl h3)]) (λh=>by cases h)
   have h3:x.cols.any (outC n.types.length)=false:=(by simpa using h3);have hp:=hp h3;have hpl:p.length=x.cols.length:=by rw[hp];simp[pickI]
   refine Ab ?_;refine .pure _ (show Spec0 Tryz.prog 102 [iA x.agg,iA 1,iA 4] _ from s53 x.agg 1 4) rfl λq hq _=>?_;subst hq;refine Ac ?_;refine VIF.split (λh4=>?_) (λh4=>?_)
   ·have h4:x.agg<1\/4<x.agg:=by simp[inB] at h4;omega
    refine Aa ?_;refine A0 ?_;exact FINp .nl (iA 0) (iA 0) 1 Ae Ae Ai rfl Ai (by rw[hlk,grpE,if_pos (.inr h4)]) (λh=>by cases h)
   have h4:1<=x.agg/\x.agg<=4:=by simp[inB] at h4;omega
   have c1:¬(inC x.a D.length=false\/x.agg<1\/4<x.agg):=by rw[h2];simp;omega
   have w6:IntKind.i64.wrap ((n.types.length:Int)-1)=(n.types.length:Int)-1:=by rw[wrap_i64]<;>omega
   refine Ab ?_;refine VIF.split (λh5=>?_) (λh5=>?_)
   ·have h5:x.agg≠1:=(by simpa using h5);(simp -implicitDefEqProofs only[go_sem,iA,w6];repeat (refine GO ?_;simp -implicitDefEqProofs only[go_sem,iA,w6]));refine .pure _ (show Spec0 Tryz.prog 102 [iA x.col,iA 0,iA ((n.types.length:Int)-1)] _ from s53 x.col 0 ((n.types.length:Int)-1)) rfl λq hq _=>?_;subst hq;rw[outC_inB];refine Ac ?_;refine VIF.split (λh6=>?_) (λh6=>?_)
    ·have h6:inC x.col (ndAt D x.a).types.length=false:=by rw[ea];simp[outC] at h6;simp[inC];omega
     refine Aa ?_;refine A0 ?_;exact FINp .nl (iA 0) (iA 0) 1 Ae Ae Ai rfl Ai (by rw[hlk,grpE,if_neg c1,if_pos (.inr ⟨h5,h6⟩)]) (λh=>by cases h)
    have h6:inC x.col n.types.length=true:=by simp[outC] at h6;simp[inC];omega
    have c2:¬(x.cols.any (outC (ndAt D x.a).types.length)=true\/(x.agg≠1/\inC x.col (ndAt D x.a).types.length=false)):=by rw[ea,h3,h6];simp
    have hcl:0<=x.col/\x.col.toNat<n.types.length:=by simp[inC] at h6;omega
    have hg:getI n.types x.col=n.types[x.col.toNat]'hcl.2:=(by simp[getI,hcl.2]);refine Ab ?_;refine VIF.split (λh7=>?_) (λh7=>?_)
    ·have h7:12<=x.cols.length:=by simp at h7;omega
     refine Aa ?_;exact FINp .nl (iA 0) (iA 0) 2 Ae Ae Ai rfl Ai (by rw[hlk,grpE,if_neg c1,if_neg c2,if_pos h7]) (λh=>by cases h)
    have h7:¬12<=x.cols.length:=by simp at h7;omega
    refine Aq ?_;refine VIF.split (λh8=>?_) (λh8=>?_)
    ·have h8:x.agg=2:=(by simpa using h8);have hv:aggV x.agg n=n.v*n.w:=(by simp[aggV,h8]);have ht:aggT x.agg x.col n=3:=(by simp[aggT,h8]);refine Aq ?_;refine ⟨hcl.1,EL.map hcl.2 ?_⟩;refine Ab ?_;refine VIF.split (λh9=>?_) (λh9=>?_)
     ·have h9:getI (ndAt D x.a).types x.col≠3:=by rw[ea,hg];simpa using h9
      refine Aa ?_;exact FINp .nl (iA 0) (iA 0) 10 Ae Ae Ai rfl Ai (by rw[hlk,grpE,if_neg c1,if_neg c2,if_neg h7,if_pos ⟨h8,h9⟩]) (λh=>by cases h)
     have h9:getI n.types x.col=3:=by rw[hg];simpa using h9
     have c4:¬(x.agg=2/\getI (ndAt D x.a).types x.col≠3):=by rw[ea,h9];simp
     have hmn:=Int.mul_nonneg nv0 nw0;have hpk:prodOk n.v n.w 1152921504606846976=decide (n.v*n.w<=1152921504606846976):=by simp only[prodOk,inB];rw[show decide (-1152921504606846976<=n.v*n.w)=true from decide_eq_true (by omega),Bool.true_and]
     refine Ab ?_;refine Al ?_;repeat' apply And.intro
     all_goals try omega
     all_goals
      refine Ab ?_;refine .pure _ (show Spec0 Tryz.prog 155 [iA n.v,iA n.w,iA 1152921504606846976] _ from c78 n.v n.w 1152921504606846976 (by omega) (by omega) (by omega)) rfl λq hq _=>?_;subst hq;rw[hpk];refine Ay ?_;refine VIF.split (λh10=>?_) (λh10=>?_)
      ·have h10:¬n.v*n.w<=1152921504606846976:=(by simpa using h10);refine Aa ?_;refine A0 ?_;exact FINp .nl (iA 0) (iA 0) 11 Ae Ae Ai rfl Ai (by rw[hlk,grpE,if_neg c1,if_neg c2,if_neg h7,if_neg c4,if_pos (by rw[ea,hv];omega)]) (λh=>by cases h)
      have h10:n.v*n.w<=1152921504606846976:=(by simpa using h10);simp only[h10,decide_true,if_true];try (simp -implicitDefEqProofs only[go_sem,iA];repeat (refine GO ?_;simp -implicitDefEqProofs only[go_sem,iA]))
      refine Al ?_;refine FINfrz 301 (io (p++[3])) (by refine Aa ?_;first|rfl|(rw[io,List.map_append,List.take_of_length_le (by simp)];rfl)) (io_leafy _) kept_1 ?_;refine Aw ?_;rw[im_io (by first|omega|(simp[pickI];done)|(simp[pickI];omega))];exact FINp (intsL (p++[3])) (iA (n.w)) (iA (max n.v (n.v*n.w))) 0 Ae Ae Ai rfl Ai (by rw[hlk,grpE,if_neg c1,if_neg c2,if_neg h7,if_neg c4,if_neg (by rw[ea,hv];omega)]) (λ_=>by rw[lookN,if_neg k1,if_neg (by omega),if_neg (by omega),if_neg (by omega),if_neg (by omega),if_neg (by omega),grpN,ea,hv,ht,hp];rfl)
    have h8:x.agg≠2:=(by simpa using h8);have c4:¬(x.agg=2/\getI (ndAt D x.a).types x.col≠3):=λh=>h8 h.1;have hv:aggV x.agg n=n.v:=(by simp[aggV,h8,h5]);have ht:aggT x.agg x.col n=getI n.types x.col:=(by simp[aggT,h8,h5]);refine Ab ?_;refine Al ?_;refine ⟨hcl.1,EL.map hcl.2 ?_⟩;refine Ab ?_;repeat' apply And.intro
    all_goals try omega
    all_goals
     refine Ab ?_;refine Al ?_;refine FINfrz 283 (io (p++[n.types[x.col.toNat]'hcl.2])) (by refine Aa ?_;first|rfl|(rw[io,List.map_append,List.take_of_length_le (by simp)];rfl)) (io_leafy _) kept_1 ?_;refine Aw ?_;rw[im_io (by first|omega|(simp[pickI];done)|(simp[pickI];omega))];exact FINp (intsL (p++[n.types[x.col.toNat]'hcl.2])) (iA (n.w)) (iA (n.v)) 0 Ae Ae Ai rfl Ai (by rw[hlk,grpE,if_neg c1,if_neg c2,if_neg h7,if_neg c4,if_neg (by rw[ea,hv];omega)]) (λ_=>by rw[lookN,if_neg k1,if_neg (by omega),if_neg (by omega),if_neg (by omega),if_neg (by omega),if_neg (by omega),grpN,ea,hv,ht,hp,hg];simp only[Nd.c,show max n.v n.v=n.v by omega])
   have h5:x.agg=1:=(by simpa using h5);have c2:¬(x.cols.any (outC (ndAt D x.a).types.length)=true\/(x.agg≠1/\inC x.col (ndAt D x.a).types.length=false)):=by rw[ea,h3];simp[h5]
   refine Ab ?_;refine VIF.split (λh7=>?_) (λh7=>?_)
   ·have h7:12<=x.cols.length:=by simp at h7;omega
    refine Aa ?_;exact FINp .nl (iA 0) (iA 0) 2 Ae Ae Ai rfl Ai (by rw[hlk,grpE,if_neg c1,if_neg c2,if_pos h7]) (λh=>by cases h)
   have h7:¬12<=x.cols.length:=by simp at h7;omega
   have c4:¬(x.agg=2/\getI (ndAt D x.a).types x.col≠3):=λh=>by have:=h.1;omega
   have hv:aggV x.agg n=n.w:=(by simp[aggV,h5]);have ht:aggT x.agg x.col n=3:=(by simp[aggT,h5]);refine Aq ?_;refine Al ?_;repeat' apply And.intro
   all_goals try omega
   all_goals
    refine Ab ?_;refine Al ?_;refine FINfrz 289 (io (p++[3])) (by refine Aa ?_;first|rfl|(rw[io,List.map_append,List.take_of_length_le (by simp)];rfl)) (io_leafy _) kept_1 ?_;refine Aw ?_;rw[im_io (by first|omega|(simp[pickI];done)|(simp[pickI];omega))];exact FINp (intsL (p++[3])) (iA (n.w)) (iA (max n.v n.w)) 0 Ae Ae Ai rfl Ai (by rw[hlk,grpE,if_neg c1,if_neg c2,if_neg h7,if_neg c4,if_neg (by rw[ea,hv];omega)]) (λ_=>by rw[lookN,if_neg k1,if_neg (by omega),if_neg (by omega),if_neg (by omega),if_neg (by omega),if_neg (by omega),grpN,ea,hv,ht,hp];rfl)
def ndA (D:List Nd):AV:=.im 3 (D.map Nd.c)
theorem p47 (F:List (List Int)) (l:List PN) (h:PlSz F l):Spec0 Tryz.prog 47 [plA l,formsA F] (·=.tu [ndA (if planE F l=0 then planN F l else []),iA (planE F l)]):=by
 refine spec0_of_vc tabOk elems og47 Tryz.func47 rfl (rl:=[.tmp 4,.tmp 5]) rfl (by kernel_rfl) rfl ?_;refine Cf ?_;refine .pure _ (show Spec0 Tryz.prog 77 [formsA F] _ from p77 F h.fl h.ff) rfl λq hq _=>?_;subst hq;refine Ab ?_;refine VIF.split (λh1=>?_) (λh1=>?_)
 ·have h1:formsE F≠0:=(by simpa using h1);have he:planE F l=formsE F:=(by rw[planE,if_pos h1]);refine Aw ?_;refine TO [] [(4,ndA []),(5,iA (formsE F))] [] [] rfl ?_ ?_
  ·refine Bw ?_;exact ⟨id,rfl⟩
  refine Bw ?_;rw[he,if_neg h1];exact ⟨rfl,rfl⟩
 have h1:formsE F=0:=by simpa using h1
 have h1':¬formsE F≠0:=by simp[h1]
 refine Ab ?_;refine .pure _ (show Spec0 Tryz.prog 102 [iA l.length,iA 1,iA 12] _ from s53 l.length 1 12) rfl λq hq _=>?_;subst hq;refine Ac ?_;refine VIF.split (λh2=>?_) (λh2=>?_)
 ·have h2:l.length<1\/12<l.length:=by simp[inB] at h2;omega
  have he:planE F l=2:=(by rw[planE,if_neg h1',if_pos h2]);refine Aw ?_;refine TO [] [(4,ndA []),(5,iA 2)] [] [] rfl ?_ ?_
  ·refine Bw ?_;exact ⟨id,rfl⟩
  refine Bw ?_;rw[he];exact ⟨rfl,rfl⟩
 have h2:¬(l.length<1\/12<l.length):=by simp[inB] at h2;omega
 have hpe:planE F l=(planD F l []).1:=by rw[planE,if_neg h1',if_neg h2]
 refine Ab ?_;refine LOOP.mk (ι:={i:Nat//i<=l.length/\(planD F (l.take i) []).1=0}) (λp=>mkS [(0,plA l),(1,formsA F),(7,.rf 1000 0 (ndsTo F l p.1).length),(8,iA p.1)] [(1000,ndO (ndsTo F l p.1))] [1000]) (λp=>l.length-p.1) ⟨0,Nat.zero_le _,rfl⟩ [(1000,none)] rfl rfl ?_ (λp=>?_)
 ·refine Ep ?_;exact ⟨id,⟨rfl,rfl⟩,rfl⟩
 obtain ⟨i,hi,hp⟩:=p;refine Ep ?_;refine VIF.split (λh4=>?_) (λh4=>?_)
 ·have h4:i<l.length:=(by simpa using h4);have hm:=List.getElem_mem h4;have w1:=wrap_add1 (show i<4611686018427387904 by omega);have hD:=ndsTo_len2 i hi hp;have nb:=ndsTo_bd2 h1 i hi hp;have spec:=p103 F (ndsTo F l i) l[i] (by omega) h.fl h.ff nb (h.cl _ hm).1 (h.cl _ hm).2;refine Aa ?_;refine EL.map h4 ?_;refine A4 ?_;obtain ⟨D,hDD⟩:∃D,D=ndsTo F l i:=⟨_,rfl⟩;rw[<- hDD] at spec hD ⊢;refine .obj 1000 (ndO D) _ [.ag l[i].c,formsA F,.rf 0 0 D.length] spec (by simp -implicitDefEqProofs only[go_sem,ndO]) (ndO_leafy D) rfl (by simp[rens,AV.ren,formsA,PN.c,iA,intsL]) λr o' hq _ _=>?_;obtain ⟨⟨c1,c2,c3,e,rfl,hl,he,hv⟩,rfl⟩:=hq;(simp -implicitDefEqProofs only[go_sem,iA,ndO];repeat (refine GO ?_;simp -implicitDefEqProofs only[go_sem,iA,ndO]));refine VIF.split (λh5=>?_) (λh5=>?_)
  ·have h5:e≠0:=(by simpa using h5);have hpp:planE F l=e:=by rw[hpe,planD_bad h4 hp (by rw[<- hDD,<- he];exact h5),he,hDD]
   refine Aw ?_;refine TO [] [(4,ndA []),(5,iA e)] [] [] rfl ?_ ?_
   ·refine Bw ?_;exact ⟨id,rfl⟩
   refine Bw ?_;rw[hpp,if_neg h5];exact ⟨rfl,rfl⟩
  have h5:e=0:=(by simpa using h5);have hc:=hv h5;injection hc with hc
  simp only[Nd.c,List.cons.injEq,and_true] at hc;obtain ⟨rfl,rfl,rfl⟩:=hc;obtain ⟨g1,g2⟩:=planD_good h4 hp (by rw[<- hDD,<- he];exact h5);refine Ab ?_;refine ⟨by omega,?_⟩;refine Bc ?_;refine BACK.mk ⟨i+1,by omega,g1⟩ [(1000,some 42)] rfl rfl (by show l.length-(i+1)<l.length-i;omega) ?_;(simp -implicitDefEqProofs only[go_sem,formsA,iA,ndO,plA,w1];repeat (refine GO ?_;simp -implicitDefEqProofs only[go_sem,formsA,iA,ndO,plA,w1]));refine ⟨id,by rw[g2,<- hDD];simp,?_⟩;try rw[List.take_of_length_le (l:=List.map Nd.c D) (by simp)]
  exact ndO_snoc (n:=lookN F D l[i]) (by rw[g2,<- hDD])
 ·have h4:i=l.length:=by simp at h4;omega
  subst h4;have hz:(planD F l []).1=0:=by rw[List.take_length] at hp;exact hp
  have e:planN F l=ndsTo F l l.length:=(by rw[ndsTo,List.take_length]);refine Aw ?_;refine GO ?_;refine Aw ?_;refine TO [] [(4,ndA (ndsTo F l l.length)),(5,iA 0)] [] [] rfl ?_ ?_
  ·refine Bw ?_;exact ⟨id,by simp[olds],_,rfl,ndO_leafy _,rfl,List.take_of_length_le (by simp)⟩
  refine Bw ?_;rw[hpe,hz,if_pos rfl,e];exact ⟨rfl,rfl⟩
def RightP (F:List (List Int)) (l:List PN) (tabs:List (List It)):Prop:=planE F l=0/\TabsE F tabs
def wkV:V:=⟨4,0,⟨#[107]⟩⟩
def wkT:List It:=[⟨[wkV,⟨3,3,ByteArray.empty⟩],1⟩]
def wkN:PN:=⟨1,0,0,0,⟨0,0,0,⟨0,0,ByteArray.empty⟩⟩,[],[],0,0⟩
theorem wkT_made:Made wkT:=⟨List.pairwise_singleton _ _,by simp[wkT,okW,inB]⟩
theorem wkT_tab:tabE [3] wkT:=by
 refine ⟨good_made.2 ⟨wkT_made,λt ht=>?_⟩,by simp[wkT],?_⟩
 ·simp only[wkT,List.mem_singleton] at ht;subst ht;decide
 ·decide
theorem wk_plan:planE [[3]] [wkN]=0/\planN [[3]] [wkN]=[⟨[4,3],1024,2147483648⟩]:=⟨by decide,by rfl⟩
theorem wk_sz:EvSz [[3]] [wkN] [wkT] 40 where
 pl:=⟨by simp,by simp,by simp,by simp[wkN]⟩
 rows:=by simp[wkT,wkV]
 big:=by decide
 many:=by simp
 few:=by simp[rowsL,rowsN,wkN]
theorem wk_res {out:List It} {e:Int} (h:EvalRes [[3]] [wkN] [wkT] out e):e=0/\out=wkT:=by
 have ht:TabsE [[3]] [wkT]:=⟨rfl,λi h1 h2=>by
  have:i=0:=by simp at h1;omega
  subst this;exact wkT_tab⟩
 rcases h with ⟨h1,_⟩|⟨_,h1,_⟩|⟨_,_,h1,_⟩|⟨_,_,rfl,S,hS,rfl⟩
 ·exact absurd wk_plan.1 h1
 ·exact absurd rfl h1
 ·exact absurd ht h1
 ·refine ⟨rfl,?_⟩;have h2:=hS.nodes 0 (by simp) (by rw[hS.len];simp);have h3:setAt S (([wkN].length:Int)-1)=S[0]'(by rw[hS.len];simp):=by
   rw[setAt_eq (by rw[hS.len];simp)];rfl
  rw[h3];simp only[NodeR,List.getElem_cons_zero,wkN,if_true] at h2;rw[h2];rfl
theorem r34:Spec0 Tryz.prog 34 [] (·=bA true):=by
 refine spec0_of_vc tabOk elems ord34 Tryz.func34 rfl (rl:=[.tmp 0]) rfl (by kernel_rfl) rfl ?_;refine Aw ?_;refine TOG [(7,some 7),(12,some 12),(15,some 15),(18,some 18)] [(1,.rf 7 0 1),(2,.rf 12 0 1),(15,.rf 15 0 1),(16,.rf 7 0 1),(18,.rf 18 0 1)] [(7,⟨1,[[intsL [3]]]⟩),(12,so wkT),(15,⟨14,[wkN.c]⟩),(18,⟨1,[[.rf 12 0 1]]⟩)] [7,12,15,18] rfl ?_ ?_
 ·(simp -implicitDefEqProofs only[go_sem,It.c,PN.c,V.c,iA,intsL,rowA,so,wkN,wkT,wkV];repeat (refine GO ?_;simp -implicitDefEqProofs only[go_sem,It.c,PN.c,V.c,iA,intsL,rowA,so,wkN,wkT,wkV]));refine ⟨id,.cons ⟨⟨by decide,_,rfl,by simp[Ob.leafy,AV.leaf,iA],rfl,rfl⟩,trivial⟩ .nil,.cons ⟨⟨by decide,_,rfl,by simp[Ob.leafy,AV.leaf,iA],rfl,rfl⟩,rfl,trivial⟩ .nil,.cons ⟨rfl,rfl,rfl,rfl,rfl,rfl,rfl,rfl,rfl,rfl,rfl,rfl,rfl,rfl,trivial⟩ .nil,.cons ⟨⟨rfl,rfl,rfl⟩,trivial⟩ .nil⟩
 refine TOG [(18,some 18)] [(1,formsA [[3]]),(2,setA wkT),(15,plA [wkN]),(16,formsA [[3]]),(18,.rf 18 0 1)] [(18,⟨1,[[setA wkT]]⟩)] [18] rfl ?_ ?_
 ·(simp -implicitDefEqProofs only[go_sem,It.c,PN.c,V.c,formsA,iA,intsL,plA,rowA,setA,so,wkN,wkT,wkV];repeat (refine GO ?_;simp -implicitDefEqProofs only[go_sem,It.c,PN.c,V.c,formsA,iA,intsL,plA,rowA,setA,so,wkN,wkT,wkV]));refine ⟨id,⟨⟨by decide,_,rfl,by simp[Ob.leafy,AV.leaf],rfl,rfl⟩,⟨by decide,_,rfl,so_leafy wkT,rfl,rfl⟩,⟨by decide,_,rfl,by simp[Ob.leafy,AV.leaf,iA],rfl,rfl⟩,by decide,_,rfl,by simp[Ob.leafy,AV.leaf],rfl,rfl⟩,.cons ⟨⟨by decide,_,rfl,so_leafy wkT,rfl,rfl⟩,trivial⟩ .nil⟩
 refine TO [] [(1,formsA [[3]]),(2,setA wkT),(15,plA [wkN]),(16,formsA [[3]]),(18,setsA [wkT])] [] [] rfl ?_ ?_
 ·refine Eg ?_;exact ⟨id,by decide,_,rfl,by simp[Ob.leafy,AV.leaf],rfl,rfl⟩
 refine Eg ?_;refine .pure _ (show Spec0 Tryz.prog 26 [plA [wkN],formsA [[3]],setsA [wkT]] _ from d26 [[3]] [wkN] [wkT] 40 wk_sz) rfl λq hq _=>?_;obtain ⟨out,e,rfl,hq⟩:=hq;obtain ⟨rfl,rfl⟩:=wk_res hq;refine Ab ?_
 (first|refine VIF.t ?_|refine VIF.f ?_)
 refine Ad ?_;refine .pure _ (show Spec0 Tryz.prog 30 [setA wkT,setA wkT] _ from s18 wkT wkT (by simp[wkT]) (by simp[wkT]) (by simp[wkT])) rfl λq hq _=>?_;obtain ⟨b,rfl,hb⟩:=hq;have hb:b=true:=hb.2 rfl;subst hb;refine Ac ?_;have hte:=(tabErr_eq (F:=[[3]]) (by decide) (f:=[3]) (by simp) wkT).1 wkT_tab;refine ⟨by omega,EL.map (l:=[[3]]) (show 0<1 by decide) ?_⟩;refine Bo ?_;refine .pure _ (show Spec0 Tryz.prog 27 [.ag [intsL [3]],setA wkT] _ from d27 [3] wkT (by simp) (by simp[wkT]) (by simp[wkT])) rfl λq hq _=>?_;rw[hte] at hq;subst hq;refine Ab ?_;simp[bA]
def heavyN (x:PN):Bool:=decide (40<x.cols.length)||decide (40<x.others.length)||longV x.pred.val
def heavyP (l:List PN):Bool:=decide (40<l.length)||l.any heavyN
def heavyF (F:List (List Int)):Bool:=decide (30<F.length)||F.any λf=>decide (30<f.length)
def heavyT (tabs:List (List It)):Bool:=decide (10<tabs.length)||tabs.any heavyS||tabs.any λz=>decide (40<z.length)
theorem h19 (l:List PN) (hl:l.length<4611686018427387904):Spec0 Tryz.prog 19 [plA l] (·=bA (heavyP l)):=by
 refine spec0_of_vc tabOk elems ord19 Tryz.func19 rfl (rl:=[.tmp 2]) rfl (by kernel_rfl) rfl ?_;refine F1 ?_;refine VIF.split (λh=>?_) (λh=>?_)
 ·refine Aa ?_;have h:40<l.length:=by simp at h;omega
  simp[heavyP,h,bA]
 have h:¬40<l.length:=by simp at h;omega
 refine Aa ?_;refine LOOP.mk (ι:={i:Nat//i<=l.length/\∀j (hj:j<l.length),j<i->heavyN l[j]=false}) (λp=>mkS [(0,plA l),(3,iA p.1)] [] []) (λp=>l.length-p.1) ⟨0,Nat.zero_le _,λj _ h=>absurd h (Nat.not_lt_zero _)⟩ [] rfl rfl ?_ (λp=>?_)
 ·refine Cq ?_;exact ⟨id,rfl⟩
 obtain ⟨i,hi,hg⟩:=p;refine Cq ?_;refine VIF.split (λh1=>?_) (λh1=>?_)
 ·have h1:i<l.length:=(by simpa using h1);have w1:=wrap_add1 (show i<4611686018427387904 by omega);have bad:heavyN l[i]=true->bA true=bA (heavyP l):=λhn=>by
   have:l.any heavyN=true:=List.any_eq_true.2 ⟨_,List.getElem_mem h1,hn⟩;simp[heavyP,this]
  refine Aa ?_;refine EL.map h1 ?_;refine B0 ?_;refine VIF.split (λh2=>?_) (λh2=>?_)
  ·have h2:40<l[i].cols.length:=by simp at h2;omega
   refine Aa ?_;exact bad (by simp[heavyN,h2])
  have h2:¬40<l[i].cols.length:=by simp at h2;omega
  refine Aa ?_;refine EL.map h1 ?_;refine B0 ?_;refine VIF.split (λh3=>?_) (λh3=>?_)
  ·have h3:40<l[i].others.length:=by simp at h3;omega
   refine Aa ?_;exact bad (by simp[heavyN,h3])
  have h3:¬40<l[i].others.length:=by simp at h3;omega
  refine Aa ?_;refine EL.map h1 ?_;(simp -implicitDefEqProofs only[go_sem,PN.c,V.c,iA];repeat (refine GO ?_;simp -implicitDefEqProofs only[go_sem,PN.c,V.c,iA]));refine .lendR (args':=[rowA [l[i].pred.val]]) (s50 [l[i].pred.val] (by simp)) ⟨lent_leafy (o:=ro3 [l[i].pred.val]) (by refine Aa ?_;rfl) rfl (by simp[ro3]) (ro3_leafy _) (λz hz=>by obtain ⟨v,_,rfl⟩:=List.mem_map.1 hz;rfl),trivial⟩ (by rintro _ rfl;rfl) λq hq=>?_;subst hq;refine Ac ?_;refine VIF.split (λh4=>?_) (λh4=>?_)
  ·have h4:longV l[i].pred.val=true:=(by simpa using h4);refine Aa ?_;exact bad (by simp[heavyN,h4])
  ·have h4:longV l[i].pred.val=false:=(by simpa using h4);have hn:heavyN l[i]=false:=by simp only[heavyN,decide_eq_false h2,decide_eq_false h3,h4];rfl
   refine Af ?_;refine BACK.mk ⟨i+1,by omega,λj hj hji=>if e:j=i then (by subst e;exact hn) else hg j hj (by omega)⟩ [] rfl rfl (by show l.length-(i+1)<l.length-i;omega) ?_;(simp -implicitDefEqProofs only[go_sem,iA,plA,w1];repeat (refine GO ?_;simp -implicitDefEqProofs only[go_sem,iA,plA,w1]));exact id
 ·have h1:i=l.length:=by simp at h1;omega
  subst h1;have:l.any heavyN=false:=by rw[List.any_eq_false];intro x hx;obtain ⟨j,hj,rfl⟩:=List.mem_iff_getElem.1 hx;rw[hg j hj hj];simp
  refine Aa ?_;simp only[heavyP,this,decide_eq_false h,bA];rfl
theorem h20 (F:List (List Int)) (hF:F.length<4611686018427387904):Spec0 Tryz.prog 20 [formsA F] (·=bA (heavyF F)):=by
 refine spec0_of_vc tabOk elems ord20 Tryz.func20 rfl (rl:=[.tmp 2]) rfl (by kernel_rfl) rfl ?_;refine Cc ?_;refine VIF.split (λh=>?_) (λh=>?_)
 ·refine Aa ?_;have h:30<F.length:=by simp at h;omega
  simp[heavyF,h,bA]
 have h:¬30<F.length:=by simp at h;omega
 refine Aa ?_;refine LOOP.mk (ι:={i:Nat//i<=F.length/\∀j (hj:j<F.length),j<i->¬30<F[j].length}) (λp=>mkS [(0,formsA F),(3,iA p.1)] [] []) (λp=>F.length-p.1) ⟨0,Nat.zero_le _,λj _ h=>absurd h (Nat.not_lt_zero _)⟩ [] rfl rfl ?_ (λp=>?_)
 ·refine A6 ?_;exact ⟨id,rfl⟩
 obtain ⟨i,hi,hg⟩:=p;refine A6 ?_;refine VIF.split (λh1=>?_) (λh1=>?_)
 ·have h1:i<F.length:=(by simpa using h1);have w1:=wrap_add1 (show i<4611686018427387904 by omega);refine Aa ?_;refine EL.map h1 ?_;refine Aq ?_;refine VIF.split (λh2=>?_) (λh2=>?_)
  ·have h2:30<F[i].length:=by simp at h2;omega
   refine Aa ?_;have:F.any (λf=>decide (30<f.length))=true:=List.any_eq_true.2 ⟨_,List.getElem_mem h1,by simpa using h2⟩;simp[heavyF,this,bA]
  ·have h2:¬30<F[i].length:=by simp at h2;omega
   refine Af ?_;refine BACK.mk ⟨i+1,by omega,λj hj hji=>if e:j=i then (by subst e;exact h2) else hg j hj (by omega)⟩ [] rfl rfl (by show F.length-(i+1)<F.length-i;omega) ?_;refine Cj ?_;first|exact id|exact ⟨id,by simp[intsL,iA]⟩
 ·have h1:i=F.length:=by simp at h1;omega
  subst h1;have:F.any (λf=>decide (30<f.length))=false:=by rw[List.any_eq_false];intro x hx;obtain ⟨j,hj,rfl⟩:=List.mem_iff_getElem.1 hx;simpa using hg j hj hj
  refine Aa ?_;simp only[heavyF,this,Bool.or_false,decide_eq_false h,bA]
theorem h21 (tabs:List (List It)) (hl:tabs.length<4611686018427387904) (hz:∀z∈tabs,z.length<4611686018427387904) (hr:∀z∈tabs,∀t∈z,t.row.length<4611686018427387904):Spec0 Tryz.prog 21 [setsA tabs] (·=bA (heavyT tabs)):=by
 refine spec0_of_vc tabOk elems ord21 Tryz.func21 rfl (rl:=[.tmp 2]) rfl (by kernel_rfl) rfl ?_;refine Dy ?_;refine VIF.split (λh=>?_) (λh=>?_)
 ·refine Aa ?_;have h:10<tabs.length:=by simp at h;omega
  simp[heavyT,h,bA]
 have h:¬10<tabs.length:=by simp at h;omega
 refine Aa ?_;refine .pure _ (show Spec0 Tryz.prog 37 [setsA tabs] _ from s10 tabs hl hz hr) rfl λq hq _=>?_;subst hq;refine Ac ?_;refine VIF.split (λh0=>?_) (λh0=>?_)
 ·refine Aa ?_;simp[heavyT,h0,bA]
 refine Aa ?_;refine LOOP.mk (ι:={i:Nat//i<=tabs.length/\∀j (hj:j<tabs.length),j<i->¬40<tabs[j].length}) (λp=>mkS [(0,setsA tabs),(3,iA p.1)] [] []) (λp=>tabs.length-p.1) ⟨0,Nat.zero_le _,λj _ h=>absurd h (Nat.not_lt_zero _)⟩ [] rfl rfl ?_ (λp=>?_)
 ·refine Bj ?_;exact ⟨id,rfl⟩
 obtain ⟨i,hi,hg⟩:=p;refine Bj ?_;refine VIF.split (λh1=>?_) (λh1=>?_)
 ·have h1:i<tabs.length:=(by simpa using h1);have w1:=wrap_add1 (show i<4611686018427387904 by omega);refine Aa ?_;refine EL.map h1 ?_;refine Ao ?_;refine VIF.split (λh2=>?_) (λh2=>?_)
  ·have h2:40<tabs[i].length:=by simp at h2;omega
   refine Aa ?_;have:tabs.any (λf=>decide (40<f.length))=true:=List.any_eq_true.2 ⟨_,List.getElem_mem h1,by simpa using h2⟩;simp[heavyT,this,bA]
  ·have h2:¬40<tabs[i].length:=by simp at h2;omega
   refine Af ?_;refine BACK.mk ⟨i+1,by omega,λj hj hji=>if e:j=i then (by subst e;exact h2) else hg j hj (by omega)⟩ [] rfl rfl (by show tabs.length-(i+1)<tabs.length-i;omega) ?_;(simp -implicitDefEqProofs only[go_sem,iA,setA,setsA,w1];repeat (refine GO ?_;simp -implicitDefEqProofs only[go_sem,iA,setA,setsA,w1]));first|exact id|exact ⟨id,by simp[setA]⟩|exact ⟨id,rfl⟩
 ·have h1:i=tabs.length:=by simp at h1;omega
  subst h1;have:tabs.any (λf=>decide (40<f.length))=false:=by rw[List.any_eq_false];intro x hx;obtain ⟨j,hj,rfl⟩:=List.mem_iff_getElem.1 hx;simpa using hg j hj hj
  refine Aa ?_;simp only[heavyT,this,Bool.or_false,decide_eq_false h,h0,Bool.false_or,bA]
def nio (R:List Nat):Ob:=⟨1,R.map λn:Nat=>[iA (n:Int)]⟩
theorem nio_leafy (R:List Nat):(nio R).leafy:=by rw[nio,leafy_do];exact leafs2_map λx _=>by simp[leafs,iA,AV.leaf]
theorem nio_snoc {st:St} {m:List (Nat×Option Nat)} {R R':List Nat} {n:Nat} (h:R'=R++[n]):Es st m (List.map (λn:Nat=>[iA (n:Int)]) R++[[iA (n:Int)]]) (List.map (λn:Nat=>[iA (n:Int)]) R'):=by subst h;rw[List.map_append];exact .same (nio (R++[n])) _ _ (λx hx=>nio_leafy (R++[n]) x (by rw[nio,List.map_append];exact hx)) rfl
def wideL (K:Nat) (l:List PN):Bool:=(rowsL K l []).any λn=>decide (5000<n)
theorem rowA_le {R:List Nat} {K M:Nat} (hR:∀n∈R,n<=M) (hK:K<=M) (k:Int):rowA_ R K k<=M:=by
 rw[rowA_];split
 ·rename_i h;simp only[inC,Bool.and_eq_true,decide_eq_true_eq] at h;rw[List.getElem?_eq_getElem (by omega)];exact hR _ (List.getElem_mem _)
 ·exact hK
def okTo (K:Nat) (l:List PN) (i:Nat):Prop:=∀n∈rowsTo K l i,n<=5000
theorem h22 (l:List PN) (K:Nat) (hl:l.length<1073741824) (hK:K<=5000):Spec0 Tryz.prog 22 [plA l,iA K] (·=bA (wideL K l)):=by
 refine spec0_of_vc tabOk elems ord22 Tryz.func22 rfl (rl:=[.tmp 4]) rfl (by kernel_rfl) rfl ?_;refine Cq ?_;refine LOOP.mk (ι:={i:Nat//i<=l.length/\okTo K l i}) (λp=>mkS [(0,plA l),(1,iA K),(5,.rf 1000 0 (rowsTo K l p.1).length),(6,iA p.1)] [(1000,nio (rowsTo K l p.1))] [1000]) (λp=>l.length-p.1) ⟨0,Nat.zero_le _,by simp[okTo,rowsTo,rowsL]⟩ [(1000,none)] rfl rfl ?_ (λp=>?_)
 ·refine E9 ?_;exact ⟨id,by simp[rowsTo,rowsL],by simp[rowsTo,rowsL]⟩
 obtain ⟨i,hi,hR⟩:=p;refine E9 ?_;refine VIF.split (λh1=>?_) (λh1=>?_)
 ·have h1:i<l.length:=(by simpa using h1);have w1:=wrap_add1 (show i<4611686018427387904 by omega);have hst:=rowsTo_step (K:=K) h1;have hlen:=rowsTo_len (K:=K) (l:=l) (i:=i) (by omega);have hR2:∀n∈rowsTo K l i,n<=5000:=hR;obtain ⟨R,hRR⟩:∃R,R=rowsTo K l i:=⟨_,rfl⟩;rw[<- hRR] at hst hlen hR2 ⊢;obtain ⟨x,hx⟩:∃x,x=l[i]:=⟨_,rfl⟩;rw[<- hx] at hst;have la:=rowA_le hR2 hK x.a;have lb:=rowA_le hR2 hK x.b;have hab:=Nat.mul_le_mul la lb;have wm:IntKind.i64.wrap ((rowA_ R K x.a:Int)*(rowA_ R K x.b:Int))=((rowA_ R K x.a*rowA_ R K x.b:Nat):Int):=by rw[<- Int.natCast_mul,wrap_i64]<;>omega
  have wa:IntKind.i64.wrap ((rowA_ R K x.a:Int)+(rowA_ R K x.b:Int))=((rowA_ R K x.a+rowA_ R K x.b:Nat):Int):=by rw[wrap_i64]<;>omega
  have over:5000<rowsN R K x->wideL K l=true:=λh=>List.any_eq_true.2 ⟨rowsN R K x,rowsTo_mem (i:=i+1) (by rw[hst];simp),by simpa using h⟩;have back:∀n∈rowsTo K l (i+1),rowsN R K x<=5000->n<=5000:=λn hn h=>by
   rw[hst,List.mem_append,List.mem_singleton] at hn;rcases hn with hn|rfl
   ·exact hR2 n hn
   ·exact h
  refine Aa ?_;refine EL.map h1 ?_;rw[<- hx];refine Ba ?_;have hkk:x.kind=1\/x.kind=4\/x.kind=5\/x.kind=6\/(x.kind≠1/\x.kind≠4/\x.kind≠5/\x.kind≠6):=(by omega);obtain ⟨a,qa⟩:∃a,a=rowA_ R K x.a:=⟨_,rfl⟩;obtain ⟨b,qb⟩:∃b,b=rowA_ R K x.b:=⟨_,rfl⟩;rw[<- qa] at la hab wm wa;rw[<- qb] at lb hab wm wa;have ha3:x.a<0\/(0<=x.a/\x.a<R.length)\/(0<=x.a/\R.length<=x.a):=(by omega);have hb3:x.b<0\/(0<=x.b/\x.b<R.length)\/(0<=x.b/\R.length<=x.b):=(by omega);rcases ha3 with ha|ha|ha
  all_goals
   first
    | (have ea:K=a:=by rw[qa,rowA_,if_neg (by simp[inC];omega)]
       subst ea)
    | (have ga:x.a.toNat<R.length:=by omega
       have ea:(R[x.a.toNat]'ga)=a:=by rw[qa,rowA_,if_pos (by simp[inC];omega),List.getElem?_eq_getElem ga];rfl
       repeat (first|((first|refine VIF.t ?_|refine VIF.f ?_);(simp -implicitDefEqProofs only[go_sem,PN.c,iA];repeat (refine GO ?_;simp -implicitDefEqProofs only[go_sem,PN.c,iA])))|(refine EL.map h1 ?_;rw[<- hx];(simp -implicitDefEqProofs only[go_sem,PN.c,iA];repeat (refine GO ?_;simp -implicitDefEqProofs only[go_sem,PN.c,iA]))))
       refine ⟨by omega,EL.map ga ?_⟩;rw[ea];(simp -implicitDefEqProofs only[go_sem,PN.c,iA];repeat (refine GO ?_;simp -implicitDefEqProofs only[go_sem,PN.c,iA])))
  all_goals (rcases hb3 with hb|hb|hb)
  all_goals
   first
    | (have eb:K=b:=by rw[qb,rowA_,if_neg (by simp[inC];omega)]
       subst eb)
    | (have gb:x.b.toNat<R.length:=by omega
       have eb:(R[x.b.toNat]'gb)=b:=by rw[qb,rowA_,if_pos (by simp[inC];omega),List.getElem?_eq_getElem gb];rfl
       repeat (first|((first|refine VIF.t ?_|refine VIF.f ?_);(simp -implicitDefEqProofs only[go_sem,PN.c,iA];repeat (refine GO ?_;simp -implicitDefEqProofs only[go_sem,PN.c,iA])))|(refine EL.map h1 ?_;rw[<- hx];(simp -implicitDefEqProofs only[go_sem,PN.c,iA];repeat (refine GO ?_;simp -implicitDefEqProofs only[go_sem,PN.c,iA]))))
       refine ⟨by omega,EL.map gb ?_⟩;rw[eb];(simp -implicitDefEqProofs only[go_sem,PN.c,iA];repeat (refine GO ?_;simp -implicitDefEqProofs only[go_sem,PN.c,iA])))
  all_goals (rcases hkk with hk|hk|hk|hk|hk)
  all_goals
   first
    | (have hk:x.kind=1:=hk
       rw[rowsN,if_pos hk] at hst over back;repeat (first|((first|refine VIF.t ?_|refine VIF.f ?_);(simp -implicitDefEqProofs only[go_sem,PN.c,iA];repeat (refine GO ?_;simp -implicitDefEqProofs only[go_sem,PN.c,iA])))|(refine EL.map h1 ?_;rw[<- hx];(simp -implicitDefEqProofs only[go_sem,PN.c,iA];repeat (refine GO ?_;simp -implicitDefEqProofs only[go_sem,PN.c,iA]))))
       try (simp -implicitDefEqProofs only[go_sem,w1,iA];repeat (refine GO ?_;simp -implicitDefEqProofs only[go_sem,w1,iA]))
       refine ⟨by omega,?_⟩;refine Bc ?_;refine BACK.mk ⟨i+1,by omega,λn hn=>back n hn hK⟩ [(1000,some 89)] rfl rfl (by show l.length-(i+1)<l.length-i;omega) ?_;refine Dj ?_;refine ⟨id,by rw[hst];simp,?_⟩;try rw[List.take_of_length_le (l:=List.map (λn:Nat=>[AV.pr (.int .i64 (n:Int))]) R) (by simp)]
       exact nio_snoc hst)
    | (first
        | (have hk:x.kind=4:=hk
           rw[rowsN,if_neg (by omega),if_pos hk] at hst over back)
        | (have hk:x.kind=5\/x.kind=6:=by omega
           rw[rowsN,if_neg (by omega),if_neg (by omega),if_pos hk] at hst over back)
       rw[<- qa] at hst over back;rw[<- qb] at hst over back;repeat (first|((first|refine VIF.t ?_|refine VIF.f ?_);(simp -implicitDefEqProofs only[go_sem,PN.c,iA];repeat (refine GO ?_;simp -implicitDefEqProofs only[go_sem,PN.c,iA])))|(refine EL.map h1 ?_;rw[<- hx];(simp -implicitDefEqProofs only[go_sem,PN.c,iA];repeat (refine GO ?_;simp -implicitDefEqProofs only[go_sem,PN.c,iA]))))
       try simp only[wm]
       try simp only[wa]
       repeat (first|((first|refine VIF.t ?_|refine VIF.f ?_);(simp -implicitDefEqProofs only[go_sem,PN.c,iA];repeat (refine GO ?_;simp -implicitDefEqProofs only[go_sem,PN.c,iA])))|(refine EL.map h1 ?_;rw[<- hx];(simp -implicitDefEqProofs only[go_sem,PN.c,iA];repeat (refine GO ?_;simp -implicitDefEqProofs only[go_sem,PN.c,iA]))))
       refine VIF.split (λh9=>?_) (λh9=>?_)
       ·refine Aa ?_;rw[over (by simp at h9;omega)];rfl
       try (simp -implicitDefEqProofs only[go_sem,w1,iA];repeat (refine GO ?_;simp -implicitDefEqProofs only[go_sem,w1,iA]))
       refine ⟨by omega,?_⟩;refine Bc ?_;refine BACK.mk ⟨i+1,by omega,λn hn=>back n hn (by simp at h9;omega)⟩ [(1000,some 89)] rfl rfl (by show l.length-(i+1)<l.length-i;omega) ?_;refine Dj ?_;refine ⟨id,by rw[hst];simp,?_⟩;try rw[List.take_of_length_le (l:=List.map (λn:Nat=>[AV.pr (.int .i64 (n:Int))]) R) (by simp)]
       exact nio_snoc hst)
    | (rw[rowsN,if_neg (by omega),if_neg (by omega),if_neg (by omega)] at hst over back
       rw[<- qa] at hst over back;repeat (first|((first|refine VIF.t ?_|refine VIF.f ?_);(simp -implicitDefEqProofs only[go_sem,PN.c,iA];repeat (refine GO ?_;simp -implicitDefEqProofs only[go_sem,PN.c,iA])))|(refine EL.map h1 ?_;rw[<- hx];(simp -implicitDefEqProofs only[go_sem,PN.c,iA];repeat (refine GO ?_;simp -implicitDefEqProofs only[go_sem,PN.c,iA]))))
       try (simp -implicitDefEqProofs only[go_sem,w1,iA];repeat (refine GO ?_;simp -implicitDefEqProofs only[go_sem,w1,iA]))
       refine ⟨by omega,?_⟩;refine Bc ?_;refine BACK.mk ⟨i+1,by omega,λn hn=>back n hn (by omega)⟩ [(1000,some 89)] rfl rfl (by show l.length-(i+1)<l.length-i;omega) ?_;refine Dj ?_;refine ⟨id,by rw[hst];simp,?_⟩;try rw[List.take_of_length_le (l:=List.map (λn:Nat=>[AV.pr (.int .i64 (n:Int))]) R) (by simp)]
       exact nio_snoc hst)
 ·have h1:i=l.length:=by simp at h1;omega
  subst h1;have e:rowsTo K l l.length=rowsL K l []:=(by rw[rowsTo,List.take_length]);have hR:∀n∈rowsTo K l l.length,n<=5000:=hR;rw[e] at hR;have:wideL K l=false:=by rw[wideL,List.any_eq_false];intro n hn;have:=hR n hn;simp;omega
  refine Aa ?_;rw[this];rfl
theorem minR_samE {a b o o':List It} {e e':Int} (h:MinR a b o e) (h':MinR a b o' e'):o=o'/\e=e':=by
 rcases h with ⟨h1,rfl,rfl⟩|⟨ga,gb,h1⟩<;>rcases h' with ⟨g1,rfl,rfl⟩|⟨ka,kb,g1⟩
 ·exact ⟨rfl,rfl⟩
 ·exact absurd ⟨ka,kb⟩ h1
 ·exact absurd ⟨ga,gb⟩ g1
 ·exact makeR_same h1 g1
theorem EvalRes.ok {F:List (List Int)} {l:List PN} {tabs:List (List It)} {out:List It} {e:Int} (h:EvalRes F l tabs out e) (hr:RightP F l tabs):e=0/\∃S,Ran F l tabs l.length S/\∃h:l.length-1<S.length,out=S[l.length-1]:=by
 obtain ⟨h0,h1⟩:=hr;have hl:=(planE_ok h0).2.1;rcases h with ⟨h2,_⟩|⟨_,h2,_⟩|⟨_,_,h2,_⟩|⟨_,_,h2,S,h3,h4⟩
 ·exact absurd h0 h2
 ·exact absurd h1.1 h2
 ·exact absurd h1 h2
 ·have hs:l.length-1<S.length:=by rw[h3.len];omega
  refine ⟨h2,S,h3,hs,?_⟩;rw[h4,setAt_eq (by omega)];congr 1;omega
theorem evsz_of {F:List (List Int)} {l:List PN} {tabs:List (List It)} (hp:PlSz F l) (ht:heavyT tabs=false) (hw:wideL 40 l=false) (hr:∀z∈tabs,∀t∈z,t.row.length<4611686018427387904):EvSz F l tabs 40:=by simp only[heavyT,Bool.or_eq_false_iff,decide_eq_false_iff_not,List.any_eq_false,decide_eq_true_eq] at ht;refine ⟨hp,λz hz=>⟨by have:=ht.2 z hz;omega,hr z hz⟩,by omega,by omega,λn hn=>?_⟩;rw[wideL,List.any_eq_false] at hw;have:=hw n hn;simp only[decide_eq_true_eq] at this;omega
theorem heavyT_ok {tabs:List (List It)} (ht:heavyT tabs=false):tabs.length<=10/\∀z∈tabs,z.length<=40:=by simp only[heavyT,Bool.or_eq_false_iff,decide_eq_false_iff_not,List.any_eq_false,decide_eq_true_eq] at ht;exact ⟨by omega,λz hz=>by have:=ht.2 z hz;omega⟩
theorem Ran.at {F:List (List Int)} {l:List PN} {tabs S:List (List It)} {i:Nat} (h:Ran F l tabs i S) (j:Nat) (hj:j<i):∃(h1:j<S.length) (h2:j<(ndsTo F l i).length),Nds S[j] (ndsTo F l i)[j]/\Ndb (ndsTo F l i)[j]:=by
 have h1:j<S.length:=by rw[h.len];exact hj
 have h2:j<(ndsTo F l i).length:=by rw[<- h.sets.len];exact h1
 exact ⟨h1,h2,h.sets.nds j h1 h2,h.sets.ndb _ (List.getElem_mem h2)⟩
theorem ndsTo_all (F:List (List Int)) (l:List PN):ndsTo F l l.length=planN F l:=by rw[ndsTo,List.take_length]
theorem Ran.last {F:List (List Int)} {l:List PN} {tabs S:List (List It)} (h:Ran F l tabs l.length S) (hl:1<=l.length) (hs:l.length-1<S.length):Nds S[l.length-1] (lastN F l)/\Ndb (lastN F l):=by
 obtain ⟨h1,h2,h3,h4⟩:=h.at (l.length-1) (by omega);have e:lastN F l=(ndsTo F l l.length)[l.length-1]:=by have hlen:(planN F l).length=l.length:=(by rw[<- ndsTo_all,<- h.sets.len,h.len]);rw[lastN,List.getLast?_eq_getElem?,hlen];simp only[ndsTo_all] at h2 ⊢;rw[List.getElem?_eq_getElem h2];rfl
 rw[e];exact ⟨h3,h4⟩
structure LawP (l:List PN) (F:List (List Int)):Prop where
 ll:l.length<=1048576
 cl:∀x∈l,x.cols.length<=1048576/\x.others.length<=1048576
 fl:F.length<=1048576
 ff:∀f∈F,f.length<=1048576
structure LawT (tabs:List (List It)):Prop where
 len:tabs.length<=1048576
 zl:∀z∈tabs,z.length<=1048576
 rl:∀z∈tabs,∀t∈z,t.row.length<=1048576
theorem LawP.sz {l:List PN} {F:List (List Int)} (h:LawP l F):PlSz F l:=⟨by have:=h.fl;omega,λf hf=>by have:=h.ff f hf;omega,by have:=h.ll;omega,λx hx=>by have:=h.cl x hx;omega⟩
theorem LawT.rr {tabs:List (List It)} (h:LawT tabs):∀z∈tabs,∀t∈z,t.row.length<4611686018427387904:=λz hz t ht=>by have:=h.rl z hz t ht;omega
theorem LawT.zz {tabs:List (List It)} (h:LawT tabs):∀z∈tabs,z.length<4611686018427387904:=λz hz=>by have:=h.zl z hz;omega
theorem LawT.lt {tabs:List (List It)} (h:LawT tabs):tabs.length<4611686018427387904:=by have:=h.len;omega
theorem Ran.few {F:List (List Int)} {l:List PN} {tabs S:List (List It)} {i K:Nat} (h:Ran F l tabs i S) (hi:i<=l.length) (hp:(planD F l []).1=0) (ht:TabsE F tabs) (hK:∀z∈tabs,z.length<=K):∀m,m<=i->Few (S.take m) (rowsTo K l m):=by
 intro m
 induction m with
 | zero=>exact λ_=>⟨by simp[rowsTo,rowsL],by simp⟩
 | succ m ih=>
   intro hm;have ih:=ih (by omega);have hml:m<l.length:=(by omega);have hms:m<S.length:=by rw[h.len];omega
   obtain ⟨g1,g2⟩:=planD_step hp hml;have hb:=ndsTo_len hp (i:=m) (by omega);have hr:=node_rows g1 ht hK (by rw[hb,List.length_take];omega) ih (h.nodes m hml hms);rw[rowsTo_step hml,List.take_succ_eq_append_getElem hms];refine ⟨by rw[List.length_append,List.length_append,ih.1];rfl,λj hj hj2=>?_⟩;by_cases e:j<(S.take m).length
   ·rw[List.getElem_append_left e,List.getElem_append_left (by rw[<- ih.1];exact e)];exact ih.2 j e _
   ·have e2:j=(S.take m).length:=by rw[List.length_append] at hj;simp only[List.length_singleton] at hj;omega
    subst e2;rw[List.getElem_append_right (by omega),List.getElem_append_right (by rw[ih.1];omega)];simpa only[ih.1,Nat.sub_self,List.getElem_singleton] using hr
theorem EvSz.out {F:List (List Int)} {l:List PN} {tabs S:List (List It)} {K:Nat} (h:EvSz F l tabs K) (hr:RightP F l tabs) (hS:Ran F l tabs l.length S) (j:Nat) (hj:j<S.length):S[j].length<=500000:=by
 have hp:=(planE_ok hr.1).2.2.2;have hf:=hS.few (Nat.le_refl _) hp hr.2 (λz hz=>(h.rows z hz).1) l.length (Nat.le_refl _);rw[List.take_of_length_le (by rw[hS.len];omega)] at hf;have h2:j<(rowsTo K l l.length).length:=by rw[<- hf.1];exact hj
 have h3:=hf.2 j hj h2;have h4:=h.few _ (rowsTo_mem (List.getElem_mem h2));omega
structure Out (F:List (List Int)) (l:List PN) (tabs:List (List It)) (out:List It):Prop where
 ran:∃S,Ran F l tabs l.length S/\∃h:l.length-1<S.length,out=S[l.length-1]
 len:out.length<=500000
 nds:Nds out (lastN F l)
 ndb:Ndb (lastN F l)
 rows:∀t∈out,t.row.length<=12
theorem EvalRes.out {F:List (List Int)} {l:List PN} {tabs:List (List It)} {out:List It} {e:Int} {K:Nat} (h:EvalRes F l tabs out e) (hz:EvSz F l tabs K) (hr:RightP F l tabs):e=0/\Out F l tabs out:=by
 obtain ⟨he,S,hS,hs,rfl⟩:=h.ok hr;have hl:=hS.last (planE_ok hr.1).2.1 hs;exact ⟨he,⟨S,hS,hs,rfl⟩,hz.out hr hS _ hs,hl.1,hl.2,λt ht=>by
  have h1:=hl.1.row t ht;have h2:=hl.2.tl;omega⟩
/-! A plan's beginning. -/
end Yt
namespace Yt
open Go Go.Vc
end Yt
namespace Yt
open Go Go.Vc Go.Proofs
def plO (l:List PN):Ob:=⟨14,l.map PN.c⟩
theorem pn_leaf (x:PN):∀a∈x.c,a.leaf=true:=by simp[PN.c,intsL,iA,AV.leaf]
theorem plO_leafy (l:List PN):(plO l).leafy:=λx hx=>by obtain ⟨y,_,rfl⟩:=List.mem_map.1 hx;exact pn_leaf y
theorem fam_fz {st:St} {m:List (Nat×Option Nat)} {z:List It} {es:List (List AV)} (hl:es.length=z.length) (h:∀i (hi:i<z.length),∃x,es[i]?=some [.rf x 0 z[i].row.length,iA z[i].w]/\x∉olds m/\st.objs x=some (ro3 z[i].row)):Es st m es (z.map It.c):=by
 refine Es_all (by simp[hl]) λi q1 q2=>?_;have hi:i<z.length:=by simpa using q2
 obtain ⟨x,e,hx,ho⟩:=h i hi;rw[List.getElem?_eq_getElem q1] at e;rw[Option.some.inj e];simp only[List.getElem_map,It.c,wk.wks,wk,iA,rowA];exact ⟨⟨hx,_,ho,ro3_leafy _,rfl,List.take_of_length_le (by simp[ro3])⟩,trivial,trivial⟩
def nodF (o:Ob) (z:List It):Nat->Option Ob:=mkO ((0,o)::famS 1 z)
theorem nodF_0 (o:Ob) (z:List It):nodF o z 0=some o:=by simp[nodF,mkO,upd]
theorem nodF_s (o:Ob) (z:List It) (n:Nat) (h:n≠0):nodF o z n=mkO (famS 1 z) n:=by simp only[nodF,mkO,upd];rw[if_neg (by omega)]
theorem famC_rnn {ρ:Nat->Nat} {b c:Nat} {z:List It} (h:∀i,i<z.length->ρ (b+(i+1))=c+(i+1)):(famC b z).map (rns ρ)=famC c z:=by
 refine List.ext_getElem (by simp[famC_len]) λi h1 h2=>?_;have hi:i<z.length:=by simpa [famC_len] using h2
 rw[List.getElem_map,famC_get hi,famC_get hi];simp[rns,AV.rn,iA,h i hi]
theorem leafy_rn {ρ:Nat->Nat} {p:Nat->Prop} {o:Ob} (h:o.leafy):o.rn ρ=o/\∀x∈o.es,inNs p x:=by
 have key:∀x:List AV,(∀a∈x,a.leaf=true)->rns ρ x=x/\inNs p x:=λx hx=>by
  refine noIds_rn x ?_
  induction x with
  | nil=>rfl
  | cons a r ih=>simp only[noIds,Bool.and_eq_true];exact ⟨leaf_noId (hx a (by simp)),ih λb hb=>hx b (by simp[hb])⟩
 refine ⟨?_,λx hx=>(key x (h x hx)).2⟩;cases o with
 | mk sz es=>
   simp only[Ob.rn,Ob.mk.injEq,true_and];have:es.map (rns ρ)=es.map _root_.id:=List.map_congr_left λx hx=>(key x (h x hx)).1;rw[this,List.map_id]
theorem CALL.famK {P:Program} {f:Nat} {args args':List AV} {st:St} {x:Nat} {K:St->Prop} {R:List It->Int->Prop} {o:Ob} (hl:o.leafy)
 (h:FunSpecD P f args' (upd noOb 0 (some o)) (upd noOb 0 (some o)) [0] λr O'=>∃z e,r=.tu [.rf 1 0 z.length,iA e]/\R z e/\O'=nodF o z) (id:Nat) (ho:st.objs id=some o) (hid:id∈st.used)
 (hargs:args=rns (λ_=>id) args'/\inNs (·∈[0]) args') (b:Nat) (hb:∀n∈st.used,n<b) (hnb:st.objs b=none)
 (k:∀z e,R z e->K {regs:=upd st.regs x (.tu [.rf (b+1) 0 z.length,iA e]),objs:=famO (b+1) z st.objs,used:=id::(famU (b+1) z.length++st.used)}):CALL P f args st (some x) K:=by
 have e0:kept true (upd noOb 0 (some o))=upd noOb 0 (some o):=by
  funext i
  by_cases h:i=0
  ·subst h;simp[kept]
  ·simp[kept,h,upd,noOb];omega
 have hidb:=hb id hid
 classical
 have key:=dep_sem (objs:=st.objs) (used:=st.used) (args:=args) (keep:=true) (by rw[e0];exact h) (λ_=>id) (λi hi j hj _=>by simp at hi hj;omega) (λi oo hoo=>by
  simp only[upd] at hoo;split at hoo
  ·rename_i e;cases hoo;exact ⟨by simp[e.symm],(leafy_rn (ρ:=λx=>x) hl).2⟩
  ·cases hoo) (λ_=>⟨o,by simp[upd]⟩) (λi oo hoo=>by
  simp only[upd] at hoo;split at hoo
  ·cases hoo;rw[ho,(leafy_rn (p:=λ_=>True) hl).1]
  ·cases hoo) (λi _=>hid) hargs b hb
  (λr O'=>if h:∃z e,r=.tu [.rf 1 0 z.length,iA e]/\R z e/\O'=nodF o z then 0::famU 1 h.choose.length else []) (λr O' hR=>by
   rw[dif_pos hR];obtain ⟨e,q1,q2,q3⟩:=hR.choose_spec;generalize hR.choose=z at q1 q2 q3;subst q1 q3;refine ⟨λi oo hoo=>?_,⟨List.mem_cons_of_mem _ (famU_mem.2 (by omega)),trivial,trivial⟩⟩;by_cases hi:i=0
   ·subst hi;rw[nodF_0] at hoo;cases hoo;exact ⟨by simp,(leafy_rn (ρ:=λx=>x) hl).2⟩
   ·rw[nodF_s _ _ _ hi] at hoo;rcases famS_cases hoo with ⟨rfl,rfl⟩|⟨j,hj,rfl,rfl⟩
    ·refine ⟨List.mem_cons_of_mem _ (famU_mem.2 (by omega)),λy hy=>?_⟩;obtain ⟨j,hj,rfl⟩:=List.mem_iff_getElem.1 hy;have hj':j<z.length:=(by simpa [famC_len] using hj);rw[famC_get hj'];exact ⟨List.mem_cons_of_mem _ (famU_mem.2 (by omega)),trivial,trivial⟩
    ·exact ⟨List.mem_cons_of_mem _ (famU_mem.2 (by omega)),(leafy_rn (ρ:=λx=>x) (ro3_leafy _)).2⟩)
 refine .sem _ key λu O U hX=>?_;obtain ⟨r,O',hR,rfl,rfl,rfl⟩:=hX;rw[dif_pos hR];obtain ⟨e,q1,q2,q3⟩:=hR.choose_spec;generalize hR.choose=z at q1 q2 q3;subst q1 q3;have e1:∀i,nmD true id b (i+1)=b+(i+1):=λi=>by simp[nmD]
 have e2:depO true id b (List.map (λ_=>id) [0]) (nodF o z) st.objs=famO (b+1) z st.objs:=by
  funext n
  simp only[depO,true_and,famO];by_cases h1:n=id
  ·subst h1;rw[if_pos rfl,if_neg (by omega),nodF_0,Option.map_some,(leafy_rn (p:=λ_=>True) hl).1,ho]
  ·rw[if_neg h1];by_cases h2:b<=n
   ·rw[if_pos h2];by_cases h3:n=b
    ·subst h3;rw[if_pos rfl,if_neg (by omega),hnb]
    ·rw[if_neg h3,if_pos (by omega),nodF_s _ _ _ (by omega)];by_cases h4:n-b<=z.length+1
     ·by_cases h5:n-b=1
      ·rw[h5,show n=b+1 by omega,famS_0,famS_0];simp only[Option.map_some,Ob.rn];rw[famC_rnn (c:=b+1) λi _=>by rw[show 1+(i+1)=(i+1)+1 by omega,e1];omega]
      ·obtain ⟨i,hi⟩:∃i,n-b=1+(i+1):=⟨n-b-2,by omega⟩;have hiz:i<z.length:=(by omega);rw[hi,show n=b+1+(i+1) by omega,famS_row hiz,famS_row hiz,Option.map_some,(leafy_rn (p:=λ_=>True) (ro3_leafy _)).1]
     ·rw[famS_none (by omega),famS_none (by omega)];rfl
   ·rw[if_neg h2,if_neg (by simpa using h1),if_neg (by omega)]
 have e3:List.map (nmD true id b) (0::famU 1 z.length)=id::famU (b+1) z.length:=by simp only[List.map_cons,famU,List.map_map];refine congr (congrArg _ (by simp[nmD])) (List.map_congr_left λi _=>?_);simp only[Function.comp];rw[show 1+i=i+1 by omega,e1];omega
 have:=k z e q2;simp only[St.to,St.put,e2,e3,AV.rn,rns,iA,List.cons_append];have e4:nmD true id b 1=b+1:=e1 0;rw[e4];exact this
theorem FINfam0 {T:Nat->Go.Vc.TI} {l:List ResultVar} {K:AV->(Nat->Option Ob)->Prop} {st:St} {o:Ob} (hl:o.leafy) (h0:st.objs 0=some o) (a:Nat) (ν:Nat->Nat) (z:List It) (rl:List (Nat×AV)) {es:List (List AV)} (h1:(0::a::(List.range z.length).map ν).Nodup)
 (ha:st.objs a=some ⟨2,es⟩) (hes:es=z.zipIdx.map λp=>[.rf (ν p.2) 0 p.1.row.length,iA p.1.w]) (hrow:∀i (h:i<z.length),st.objs (ν i)=some (ro3 z[i].row)) (hr:ents st ((0,some 0)::(1,some a)::famM 1 z.length ν) rl)
 (k:hRes T (mkS rl ((0,o)::famS 1 z) (0::1::famN 1 z.length)) l λv=>K v (nodF o z)):FIN T (upd noOb 0 (some o)) l K st:=by
 have hn:∀i,i<z.length->nms ((0,some 0)::(1,some a)::famM 1 z.length ν) (1+(i+1))=some (some (ν i)):=λi hi=>by simp only[nms];rw[if_neg (by omega),if_neg (by omega)];exact famM_nms hi
 have he:Ent st (mkS rl ((0,o)::famS 1 z) (0::1::famN 1 z.length)):=ent_to ((0,some 0)::(1,some a)::famM 1 z.length ν) rfl (by
  simp only[nmOk,Bool.and_eq_true,decide_eq_true_eq,List.all_eq_true,olds,famM_olds];refine ⟨⟨h1,λx hx=>?_⟩,rfl⟩;rcases List.mem_cons.1 hx with rfl|hx
  ·simp
  rcases List.mem_cons.1 hx with rfl|hx
  ·simp
  ·obtain ⟨i,hi,rfl⟩:=List.mem_map.1 hx;simp only[List.contains_eq_mem,decide_eq_true_eq];exact List.mem_cons_of_mem _ (List.mem_cons_of_mem _ (famN_mem.2 ⟨i,List.mem_range.1 hi,rfl⟩)))
  ⟨λ_=>by simp,hr,⟨o,h0,rfl,.same o _ _ hl rfl⟩,⟨_,ha,rfl,fam_es hes hn⟩,fam_eobs λi hi=>⟨hn i hi,hrow i hi⟩⟩
 refine ⟨_,λF n a w hF R=>he F n a w (λi hi=>?_) R,k⟩;rw[hF] at hi;simp only[upd] at hi;split at hi
 ·rename_i e;exact e.symm
 ·exact absurd rfl hi
theorem f54 (a b:List It) (hl:a.length+b.length<=1048576) (ha:∀t∈a,t.row.length<1073741824) (hb:∀t∈b,t.row.length<1073741824) :
 SpecF Tryz.prog 43 [setA a,setA b] (λr out=>∃err:Int,r=.tu [.rf 0 0 out.length,iA err]/\AddR a b out err):=by
 refine funspecD_of_vc tabOk elems ord43 Tryz.func43 rfl (rl:=[.tmp 4,.tmp 5]) rfl (by kernel_rfl) rfl (λ_ h=>absurd rfl h) ?_;refine Ad ?_;refine CALL.fam (show SpecF Tryz.prog 36 [setA a,setA b] _ from f47 a b hl ha hb) rfl 100000 (by simp) λr out hq=>?_;obtain ⟨err,rfl,hm⟩:=hq;refine Cn ?_;refine FINfam 100000 (λi=>100000+(i+1)) out [(4,.rf 0 0 out.length),(5,iA err)] (es:=famC 100000 out) (fam_nd (l:=[100000]) (by decide) (by decide)) Aj rfl (λi hi=>by (simp -implicitDefEqProofs only[go_sem];repeat (refine GO ?_;simp -implicitDefEqProofs only[go_sem]));exact famO_row hi) ?_ ?_
 ·exact A7
 ·exact ⟨out,⟨⟨err,rfl,hm⟩,rfl⟩,rfl⟩
theorem f55 (a b:List It) (hl:a.length+b.length<=1048576) (ha:∀t∈a,t.row.length<1073741824) (hb:∀t∈b,t.row.length<1073741824) :
 SpecF Tryz.prog 44 [setA a,setA b] (λr out=>∃err:Int,r=.tu [.rf 0 0 out.length,iA err]/\MinR a b out err):=by
 refine funspecD_of_vc tabOk elems ord44 Tryz.func44 rfl (rl:=[.tmp 4,.tmp 5]) rfl (by kernel_rfl) rfl (λ_ h=>absurd rfl h) ?_;refine Ad ?_;have bad:∀s:St,s.regs 4=.nl->s.regs 5=.pr (.int .i64 1)->¬(Good a/\Good b)->FIN T noOb [.tmp 4,.tmp 5] (λr O'=>∃z,((∃err:Int,r=.tu [.rf 0 0 z.length,iA err]/\MinR a b z err)/\r.only0=true)/\O'=famF z) s:=by
  intro s h4 h5 hn;refine FINmk [(0,none)] [(4,.rf 0 0 0),(5,iA 1)] [(0,so [])] [0] rfl ?_ ?_
  ·refine B9 ?_;simp[so]
  ·exact ⟨[],⟨⟨1,rfl,.inl ⟨hn,rfl,rfl⟩⟩,rfl⟩,rfl⟩
 refine .pure _ (s16 a (by omega) (λt ht=>by have:=ha t ht;omega)) rfl λq hq _=>?_;obtain ⟨e,rfl,he,hg⟩:=hq;refine Ab ?_;refine VIF.split (λh=>?_) (λh=>?_)
 ·have h:e≠0:=(by simpa using h);have h1:e=1:=(by omega);subst h1;refine Aa ?_;exact bad _ rfl rfl λg=>h (hg.2 g.1)
 ·have h:e=0:=(by simpa using h);have hg:=hg.1 h;refine Aa ?_;refine .make 15 _ (s31 b (by omega) hb) rfl (by simp) rfl λq o hq _=>?_;obtain ⟨n,err,rfl,rfl,hn⟩:=hq;refine Ag ?_;refine VIF.split (λh2=>?_) (λh2=>?_)
  ·have h2:err≠0:=(by simpa using h2);obtain ⟨hb2,rfl,rfl⟩:¬Good b/\n=[]/\err=1:=by
    rcases hn with h|⟨_,_,h⟩
    ·exact h
    ·exact absurd h h2
   refine Aa ?_;exact bad _ rfl rfl λg=>hb2 g.2
  ·have h2:err=0:=(by simpa using h2);obtain ⟨hb2,rfl⟩:Good b/\n=b.map negI:=by
    rcases hn with ⟨_,_,h⟩|⟨h,h3,_⟩
    ·omega
    ·exact ⟨h,h3⟩
   refine Aw ?_;refine GO ?_;refine Aw ?_;refine TO [] [(21,setA a),(22,setA (b.map negI))] [] [] rfl ?_ ?_
   ·refine Ad ?_;exact ⟨id,by decide,_,rfl,so_leafy (b.map negI),rfl,List.take_of_length_le (by simp)⟩
   refine Ad ?_;refine CALL.fam (f47 a (b.map negI) (by rw[List.length_map];exact hl) ha (λt ht=>by obtain ⟨u,hu,rfl⟩:=List.mem_map.1 ht;exact hb u hu)) rfl 100000 (by simp) λr out hq=>?_;obtain ⟨err,rfl,hm⟩:=hq;have hm:MakeR (a++b.map negI) out err:=by
    rcases hm with ⟨h,_⟩|⟨_,_,h⟩
    ·exact absurd ⟨hg,good_neg hb2⟩ h
    ·exact h
   refine Cn ?_;refine FINfam 100000 (λi=>100000+(i+1)) out [(4,.rf 0 0 out.length),(5,iA err)] (es:=famC 100000 out) (fam_nd (l:=[100000]) (by decide) (by decide)) Aj rfl (λi hi=>by (simp -implicitDefEqProofs only[go_sem];repeat (refine GO ?_;simp -implicitDefEqProofs only[go_sem]));exact famO_row hi) ?_ ?_
   ·exact A7
   ·exact ⟨out,⟨⟨err,rfl,.inr ⟨hg,hb2,hm⟩⟩,rfl⟩,rfl⟩
theorem f72 (F:List (List Int)) (D:List Nd) (S tabs:List (List It)) (x:PN) (h:NodeOk F D S tabs x) :
 FunSpecD Tryz.prog 72 [.ag x.c,.rf 0 0 S.length,setsA tabs] (upd noOb 0 (some (doO S))) (upd noOb 0 (some (doO S))) [0] λr O'=>∃z e,r=.tu [.rf 1 0 z.length,iA e]/\(e=0/\NodeR x S tabs z)/\O'=nodF (doO S) z:=by
 have fin:∀(out:List It) (s:St),s.objs 0=some (doO S)->s.objs 100000=some ⟨2,famC 100000 out⟩ -> (∀i (hi:i<out.length),s.objs (100000+(i+1))=some (ro3 out[i].row))->s.regs 6=.rf 100000 0 out.length->s.regs 7=iA 0->NodeR x S tabs out ->
  FIN T (upd noOb 0 (some (doO S))) [.tmp 6,.tmp 7] (λr O'=>∃z e,r=.tu [.rf 1 0 z.length,iA e]/\(e=0/\NodeR x S tabs z)/\O'=nodF (doO S) z) s:=by
  intro out s h0 h1 h2 h6 h7 hn;refine FINfam0 (doO_leafy S) h0 100000 (λi=>100000+(i+1)) out [(6,.rf 1 0 out.length),(7,iA 0)] (es:=famC 100000 out) (fam_nd (l:=[0,100000]) (by decide) (by decide)) h1 rfl h2 ?_ ?_
  ·simp -implicitDefEqProofs only[go_sem,h6,h7,iA]
  ·refine Gi ?_;exact ⟨out,0,rfl,⟨rfl,hn⟩,rfl⟩
 have hlook:=h.look;have at_:∀{k:Int},inC k D.length=true->∃hk:k.toNat<S.length,0<=k/\k<S.length/\setAt S k=S[k.toNat]'hk/\Nds (S[k.toNat]'hk) (ndAt D k)/\Ndb (ndAt D k)/\(S[k.toNat]'hk).length<=500000/\∀t∈S[k.toNat]'hk,t.row.length<1073741824:=λ{k} hk=>by obtain ⟨g1,g2⟩:=h.sets.at hk;simp only[inC,Bool.and_eq_true,decide_eq_true_eq] at hk;have hl:=h.sets.len;have h2:k.toNat<S.length:=(by omega);rw[setAt_eq h2] at g1;exact ⟨h2,hk.1,by omega,setAt_eq h2,g1,g2,h.rows _ (List.getElem_mem h2),λt ht=>by have:=g1.r12 t ht;omega⟩
 refine funspecD_of_vc tabOk elems ord72 Tryz.func72 rfl (rl:=[.tmp 6,.tmp 7]) rfl (by kernel_rfl) rfl kept_1 ?_;refine En ?_;refine VIF.split (λk1=>?_) (λk1=>?_)
 ·have k1:x.kind=1:=(by simpa using k1);have n2:¬x.kind=2:=(by omega);have n3:¬x.kind=3:=(by omega);have n4:¬x.kind=4:=(by omega);have n5:¬x.kind=5:=(by omega);have n6:¬x.kind=6:=(by omega);have n7:¬x.kind=7:=(by omega);have n8:¬x.kind=8:=(by omega);have hl:scanE F x=0:=(by simpa only[lookE,n2,n3,n4,n5,n6,n7,n8,k1,if_true,if_false,or_false,false_or,or_self,true_or,or_true,reduceCtorEq,Int.reduceEq,Int.reduceNe] using hlook);have hi:=scanE_ok hl;simp only[inC,Bool.and_eq_true,decide_eq_true_eq] at hi;have h1:x.table.toNat<F.length:=(by omega);have h2:x.table.toNat<tabs.length:=by rw[h.tabs.1];exact h1
  have g:=nd_scan (h.tabs.2 _ h1 h2);refine En ?_;refine ⟨hi.1,EL.map h2 ?_⟩;refine Aa ?_;refine CALL.fam (f83 (tabs[x.table.toNat]'h2) (by have:=(h.tabs.2 _ h1 h2).2.1;omega) (λt ht=>by have:=g.r12 t ht;omega)) rfl 100000 (by simp) λq out hq=>?_;obtain ⟨rfl,rfl⟩:=hq;refine Cn ?_;exact fin (tabs[x.table.toNat]'h2) _ (by refine Aw ?_;rfl) Ae (λi hi=>by simp -implicitDefEqProofs only[go_sem];exact famO_row hi) Ae Ai (by simp only[NodeR,n2,n3,n4,n5,n6,n7,n8,k1,if_true,if_false,Int.reduceEq];rw[setAt_eq h2])
 have k1:x.kind≠1:=by simpa using k1
 refine Av ?_;refine VIF.split (λk2=>?_) (λk2=>?_)
 ·have k2:x.kind=2:=(by simpa using k2);have n1:¬x.kind=1:=(by omega);have n3:¬x.kind=3:=(by omega);have n4:¬x.kind=4:=(by omega);have n5:¬x.kind=5:=(by omega);have n6:¬x.kind=6:=(by omega);have n7:¬x.kind=7:=(by omega);have n8:¬x.kind=8:=(by omega);have hl:filtE D x=0:=(by simpa only[lookE,n1,n3,n4,n5,n6,n7,n8,k2,if_true,if_false,or_false,false_or,or_self,true_or,or_true,reduceCtorEq,Int.reduceEq,Int.reduceNe] using hlook);obtain ⟨ha,ha0,ha1,ea,na,ba,la,ra⟩:=at_ (filtE_ok hl);refine Av ?_;refine ⟨⟨ha0,ha1⟩,EL.map ha ?_⟩;refine Av ?_;refine CALL.fam (show SpecF Tryz.prog 40 [setA (S[x.a.toNat]'ha),.ag x.pred.c] _ from f51 (S[x.a.toNat]'ha) x.pred (by omega) ra) rfl 100000 (by simp) λq out hq=>?_;obtain ⟨e,rfl,hq⟩:=hq;obtain ⟨rfl,rfl⟩:=filt_ok na.good hq;refine Cn ?_;exact fin ((S[x.a.toNat]'ha).filter λt=>holdsP x.pred t.row) _ (by refine Aw ?_;rfl) Ae (λi hi=>by simp -implicitDefEqProofs only[go_sem];exact famO_row hi) Ae Ai (by simp only[NodeR,n1,n3,n4,n5,n6,n7,n8,k2,if_true,if_false,Int.reduceEq];rw[ea])
 have k2:x.kind≠2:=by simpa using k2
 refine Av ?_;refine VIF.split (λk3=>?_) (λk3=>?_)
 ·have k3:x.kind=3:=(by simpa using k3);have n1:¬x.kind=1:=(by omega);have n2:¬x.kind=2:=(by omega);have n4:¬x.kind=4:=(by omega);have n5:¬x.kind=5:=(by omega);have n6:¬x.kind=6:=(by omega);have n7:¬x.kind=7:=(by omega);have n8:¬x.kind=8:=(by omega);have hl:projE x D=0:=(by simpa only[lookE,n1,n2,n4,n5,n6,n7,n8,k3,if_true,if_false,or_false,false_or,or_self,true_or,or_true,reduceCtorEq,Int.reduceEq,Int.reduceNe] using hlook);obtain ⟨hia,hc1,hc2⟩:=projE_ok hl;obtain ⟨ha,ha0,ha1,ea,na,ba,la,ra⟩:=at_ hia;refine Av ?_;refine ⟨⟨ha0,ha1⟩,EL.map ha ?_⟩;refine Av ?_;refine CALL.fam (show SpecF Tryz.prog 41 [setA (S[x.a.toNat]'ha),intsL x.cols] _ from f49 (S[x.a.toNat]'ha) x.cols (by omega) ra h.cl.1) rfl 100000 (by simp) λq out hq=>?_;obtain ⟨e,rfl,hq⟩:=hq;have hX:=hq;obtain ⟨rfl,_,_⟩:=nd_proj na ba hc1 hc2 hX;refine Cn ?_;exact fin out _ (by refine Aw ?_;rfl) Ae (λi hi=>by simp -implicitDefEqProofs only[go_sem];exact famO_row hi) Ae Ai (by simp only[NodeR,n1,n2,n4,n5,n6,n7,n8,k3,if_true,if_false,Int.reduceEq];rw[ea];exact hX)
 have k3:x.kind≠3:=by simpa using k3
 refine Av ?_;refine VIF.split (λk4=>?_) (λk4=>?_)
 ·have k4:x.kind=4:=(by simpa using k4);have n1:¬x.kind=1:=(by omega);have n2:¬x.kind=2:=(by omega);have n3:¬x.kind=3:=(by omega);have n5:¬x.kind=5:=(by omega);have n6:¬x.kind=6:=(by omega);have n7:¬x.kind=7:=(by omega);have n8:¬x.kind=8:=(by omega);have hl:joinE x D=0:=(by simpa only[lookE,n1,n2,n3,n5,n6,n7,n8,k4,if_true,if_false,or_false,false_or,or_self,true_or,or_true,reduceCtorEq,Int.reduceEq,Int.reduceNe] using hlook);obtain ⟨hia,hib,hc1,hc2,hc3⟩:=joinE_ok hl;obtain ⟨ha,ha0,ha1,ea,na,ba,la,ra⟩:=at_ hia;obtain ⟨hb,hb0,hb1,eb,nb,bb,lb,rb⟩:=at_ hib;refine Av ?_;refine ⟨⟨ha0,ha1⟩,EL.map ha ?_⟩;refine Av ?_;refine ⟨⟨hb0,hb1⟩,EL.map hb ?_⟩;refine Av ?_;refine CALL.fam (show SpecF Tryz.prog 42 [setA (S[x.a.toNat]'ha),setA (S[x.b.toNat]'hb),intsL x.cols,intsL x.others] _ from f26 (S[x.a.toNat]'ha) (S[x.b.toNat]'hb) x.cols x.others h.cl.1 h.cl.2 (by have:=h.join k4;rw[ea,eb] at this;exact this) (by omega) (by omega) ra rb) rfl 100000 (by simp) λq out hq=>?_;obtain ⟨e,rfl,hq⟩:=hq;obtain ⟨rfl,_⟩:=nd_join na nb hc1 hc2 ba.w0 (by omega) hq;refine Cn ?_;exact fin out _ (by refine Aw ?_;rfl) Ae (λi hi=>by simp -implicitDefEqProofs only[go_sem];exact famO_row hi) Ae Ai (by simp only[NodeR,n1,n2,n3,n5,n6,n7,n8,k4,if_true,if_false,Int.reduceEq];rw[ea,eb];exact hq)
 have k4:x.kind≠4:=by simpa using k4
 refine Av ?_;refine VIF.split (λk5=>?_) (λk5=>?_)
 ·have k5:x.kind=5:=(by simpa using k5);have n1:¬x.kind=1:=(by omega);have n2:¬x.kind=2:=(by omega);have n3:¬x.kind=3:=(by omega);have n4:¬x.kind=4:=(by omega);have n6:¬x.kind=6:=(by omega);have n7:¬x.kind=7:=(by omega);have n8:¬x.kind=8:=(by omega);have hl:bothE x D=0:=(by simpa only[lookE,n1,n2,n3,n4,n6,n7,n8,k5,if_true,if_false,or_false,false_or,or_self,true_or,or_true,reduceCtorEq,Int.reduceEq,Int.reduceNe] using hlook);obtain ⟨hia,hib,hc1,hc2⟩:=bothE_ok hl;obtain ⟨ha,ha0,ha1,ea,na,ba,la,ra⟩:=at_ hia;obtain ⟨hb,hb0,hb1,eb,nb,bb,lb,rb⟩:=at_ hib;refine Av ?_;refine ⟨⟨ha0,ha1⟩,EL.map ha ?_⟩;refine Av ?_;refine ⟨⟨hb0,hb1⟩,EL.map hb ?_⟩;refine Av ?_;refine CALL.fam (show SpecF Tryz.prog 43 [setA (S[x.a.toNat]'ha),setA (S[x.b.toNat]'hb)] _ from f54 (S[x.a.toNat]'ha) (S[x.b.toNat]'hb) (by omega) ra rb) rfl 100000 (by simp) λq out hq=>?_;obtain ⟨e,rfl,hq⟩:=hq;obtain ⟨rfl,_⟩:=nd_add na nb hc1 (by omega) hq;refine Cn ?_;exact fin out _ (by refine Aw ?_;rfl) Ae (λi hi=>by simp -implicitDefEqProofs only[go_sem];exact famO_row hi) Ae Ai (by simp only[NodeR,n1,n2,n3,n4,n6,n7,n8,k5,if_true,if_false,Int.reduceEq];rw[ea,eb];exact hq)
 have k5:x.kind≠5:=by simpa using k5
 refine Av ?_;refine VIF.split (λk6=>?_) (λk6=>?_)
 ·have k6:x.kind=6:=(by simpa using k6);have n1:¬x.kind=1:=(by omega);have n2:¬x.kind=2:=(by omega);have n3:¬x.kind=3:=(by omega);have n4:¬x.kind=4:=(by omega);have n5:¬x.kind=5:=(by omega);have n7:¬x.kind=7:=(by omega);have n8:¬x.kind=8:=(by omega);have hl:bothE x D=0:=(by simpa only[lookE,n1,n2,n3,n4,n5,n7,n8,k6,if_true,if_false,or_false,false_or,or_self,true_or,or_true,reduceCtorEq,Int.reduceEq,Int.reduceNe] using hlook);obtain ⟨hia,hib,hc1,hc2⟩:=bothE_ok hl;obtain ⟨ha,ha0,ha1,ea,na,ba,la,ra⟩:=at_ hia;obtain ⟨hb,hb0,hb1,eb,nb,bb,lb,rb⟩:=at_ hib;refine Av ?_;refine ⟨⟨ha0,ha1⟩,EL.map ha ?_⟩;refine Av ?_;refine ⟨⟨hb0,hb1⟩,EL.map hb ?_⟩;refine Av ?_;refine CALL.fam (show SpecF Tryz.prog 44 [setA (S[x.a.toNat]'ha),setA (S[x.b.toNat]'hb)] _ from f55 (S[x.a.toNat]'ha) (S[x.b.toNat]'hb) (by omega) ra rb) rfl 100000 (by simp) λq out hq=>?_;obtain ⟨e,rfl,hq⟩:=hq;obtain ⟨rfl,_⟩:=nd_min na nb hc1 (by omega) hq;refine Cn ?_;exact fin out _ (by refine Aw ?_;rfl) Ae (λi hi=>by simp -implicitDefEqProofs only[go_sem];exact famO_row hi) Ae Ai (by simp only[NodeR,n1,n2,n3,n4,n5,n7,n8,k6,if_true,if_false,Int.reduceEq];rw[ea,eb];exact hq)
 have k6:x.kind≠6:=by simpa using k6
 refine Av ?_;refine VIF.split (λk7=>?_) (λk7=>?_)
 ·have k7:x.kind=7:=(by simpa using k7);have n1:¬x.kind=1:=(by omega);have n2:¬x.kind=2:=(by omega);have n3:¬x.kind=3:=(by omega);have n4:¬x.kind=4:=(by omega);have n5:¬x.kind=5:=(by omega);have n6:¬x.kind=6:=(by omega);have n8:¬x.kind=8:=(by omega);have hl:distE D x=0:=(by simpa only[lookE,n1,n2,n3,n4,n5,n6,n8,k7,if_true,if_false,or_false,false_or,or_self,true_or,or_true,reduceCtorEq,Int.reduceEq,Int.reduceNe] using hlook);obtain ⟨ha,ha0,ha1,ea,na,ba,la,ra⟩:=at_ (distE_ok hl);refine Av ?_;refine ⟨⟨ha0,ha1⟩,EL.map ha ?_⟩;refine Av ?_;refine CALL.fam (show SpecF Tryz.prog 45 [setA (S[x.a.toNat]'ha)] _ from f32 (S[x.a.toNat]'ha) (by omega) ra) rfl 100000 (by simp) λq out hq=>?_;obtain ⟨e,rfl,hq⟩:=hq;have hq:e=0/\out=distL (S[x.a.toNat]'ha):=by
   rcases hq with ⟨g,_⟩|⟨_,h1,h2⟩
   ·exact absurd na.good g
   ·exact ⟨h2,h1⟩
  obtain ⟨rfl,rfl⟩:=hq;refine Cn ?_;exact fin (distL (S[x.a.toNat]'ha)) _ (by refine Aw ?_;rfl) Ae (λi hi=>by simp -implicitDefEqProofs only[go_sem];exact famO_row hi) Ae Ai (by simp only[NodeR,n1,n2,n3,n4,n5,n6,n8,k7,if_true,if_false,Int.reduceEq];rw[ea])
 have k7:x.kind≠7:=by simpa using k7
 have k8:x.kind=8:=by
  simp only[lookE,k1,k2,k3,k4,k5,k6,k7,if_false,or_self] at hlook;split at hlook
  ·assumption
  ·cases hlook
 have n1:¬x.kind=1:=by omega
 have n2:¬x.kind=2:=by omega
 have n3:¬x.kind=3:=by omega
 have n4:¬x.kind=4:=by omega
 have n5:¬x.kind=5:=by omega
 have n6:¬x.kind=6:=by omega
 have n7:¬x.kind=7:=by omega
 have hl:grpE x D=0:=by simpa only[lookE,n1,n2,n3,n4,n5,n6,n7,k8,if_true,if_false,or_false,false_or,or_self,true_or,or_true,reduceCtorEq,Int.reduceEq,Int.reduceNe] using hlook
 obtain ⟨hia,hk,hc1,hc2,hc3,hc4,hc5⟩:=grpE_ok hl;obtain ⟨ha,ha0,ha1,ea,na,ba,la,ra⟩:=at_ hia;refine Av ?_;refine ⟨⟨ha0,ha1⟩,EL.map ha ?_⟩;refine Av ?_;refine CALL.fam (show SpecF Tryz.prog 46 [setA (S[x.a.toNat]'ha),intsL x.cols,iA x.agg,iA x.col] _ from f67 (S[x.a.toNat]'ha) x.cols x.agg x.col (by omega) ra h.cl.1) rfl 100000 (by simp) λq out hq=>?_;obtain ⟨e,rfl,hq⟩:=hq;obtain ⟨rfl,_⟩:=nd_group na ba hk hc1 hc2 hc3 hc4 hc5 hq;refine Cn ?_;exact fin out _ (by refine Aw ?_;rfl) Ae (λi hi=>by simp -implicitDefEqProofs only[go_sem];exact famO_row hi) Ae Ai (by simp only[NodeR,n1,n2,n3,n4,n5,n6,n7,k8,if_true,if_false,Int.reduceEq];rw[ea];exact hq)
def lastZ (S:List (List It)):List It:=S.getLast?.getD []
def doF (S:List (List It)):Ob:=⟨1,S.dropLast.map (λz=>[setA z])++(if S=[] then [] else [[.rf 3000 0 (lastZ S).length]])⟩
theorem doF_snoc (S:List (List It)) (z:List It):doF (S++[z])=⟨1,S.map (λz=>[setA z])++[[.rf 3000 0 z.length]]⟩/\lastZ (S++[z])=z:=by simp[doF,lastZ]
theorem lastZ_eq {S:List (List It)} (h:S.length-1<S.length):lastZ S=S[S.length-1]:=by rw[lastZ,List.getLast?_eq_getElem?,List.getElem?_eq_getElem h];rfl
theorem doF_cases (S:List (List It)):S=[]\/∃I z,S=I++[z]:=by
 rcases List.eq_nil_or_concat S with h|⟨I,z,h⟩
 ·exact .inl h
 ·exact .inr ⟨I,z,by simpa using h⟩
theorem doF_es1 {st:St} {m:List (Nat×Option Nat)} {S:List (List It)} (h:nms m 3000=some (some 3000)):Es st m (doF S).es (doF S).es:=by
 rcases doF_cases S with rfl|⟨I,z,rfl⟩
 ·exact .nil
 ·rw[(doF_snoc I z).1];exact Es.app (.same (doO I) _ _ (doO_leafy I) rfl) (.cons ⟨⟨h,rfl,rfl⟩,trivial⟩ .nil)
theorem doF_es2 {st:St} {m:List (Nat×Option Nat)} {S:List (List It)} (h:3000∉olds m) (ho:st.objs 3000=some (so (lastZ S))):Es st m (doF S).es (doO S).es:=by
 rcases doF_cases S with rfl|⟨I,z,rfl⟩
 ·exact .nil
 ·rw[(doF_snoc I z).2] at ho;rw[(doF_snoc I z).1,doO,List.map_append];exact Es.app (.same (doO I) _ _ (doO_leafy I) rfl) (.cons ⟨⟨h,so z,ho,so_leafy z,rfl,List.take_of_length_le (by simp[so])⟩,trivial⟩ .nil)
theorem f26E (F:List (List Int)) (l:List PN) (tabs:List (List It)) (K:Nat) (h:EvSz F l tabs K) :
 SpecF Tryz.prog 26 [plA l,formsA F,setsA tabs] (λr out=>∃e,r=.tu [.rf 0 0 out.length,iA e]/\EvalRes F l tabs out e):=by
 have bad:∀(e:Int) (s:St),s.regs 6=.nl->s.regs 7=iA e->EvalRes F l tabs [] e->FIN T noOb [.tmp 6,.tmp 7] (λr O'=>∃z,((∃e,r=.tu [.rf 0 0 z.length,iA e]/\EvalRes F l tabs z e)/\r.only0=true)/\O'=famF z) s:=by
  intro e s h6 h7 hn;refine FINmk [(0,none)] [(6,.rf 0 0 0),(7,iA e)] [(0,so [])] [0] rfl ?_ ?_
  ·(simp -implicitDefEqProofs only[go_sem,h6,h7,iA];repeat (refine GO ?_;simp -implicitDefEqProofs only[go_sem,h6,h7,iA]));simp[so]
  ·exact ⟨[],⟨⟨e,rfl,hn⟩,rfl⟩,rfl⟩
 refine funspecD_of_vc tabOk elems ord26 Tryz.func26 rfl (rl:=[.tmp 6,.tmp 7]) rfl (by kernel_rfl) rfl (λ_ h=>absurd rfl h) ?_;refine Be ?_;refine .pure _ (show Spec0 Tryz.prog 52 [plA l,formsA F] _ from d52 F l h.pl) rfl λq hq _=>?_;obtain ⟨t,rfl,ht,ht2⟩:=hq;refine Ab ?_;refine VIF.split (λh1=>?_) (λh1=>?_)
 ·have h1:planE F l≠0:=(by simpa using h1);refine Aa ?_;exact bad (planE F l) _ Ae Ai (.inl ⟨h1,rfl,rfl⟩)
 have h1:planE F l=0:=by simpa using h1
 obtain ⟨hF,hl1,hl2,hp⟩:=planE_ok h1;refine Aa ?_;refine VIF.split (λh2=>?_) (λh2=>?_)
 ·have h2:tabs.length≠F.length:=by simp at h2;omega
  refine Aa ?_;exact bad (2) _ Ae Ai (.inr (.inl ⟨h1,h2,rfl,rfl⟩))
 have h2:tabs.length=F.length:=by simp at h2;omega
 refine Aa ?_;refine LOOP.mk (ι:={i:Nat//i<=tabs.length/\∀j (h:j<F.length) (h2:j<tabs.length),j<i->tabE F[j] tabs[j]}) (λp=>mkS [(0,plA l),(1,formsA F),(2,setsA tabs),(34,setsA tabs),(35,iA tabs.length),(36,iA p.1)] [] []) (λp=>tabs.length-p.1) ⟨0,Nat.zero_le _,λj _ _ h=>absurd h (Nat.not_lt_zero _)⟩ [] rfl rfl ?_ (λp=>?_)
 ·refine Bx ?_;exact ⟨id,rfl⟩
 obtain ⟨i,hi,hg⟩:=p;refine Bx ?_;refine VIF.split (λh3=>?_) (λh3=>?_)
 ·have h3:i<tabs.length:=(by simpa using h3);have h3':i<F.length:=(by omega);have w1:=wrap_add1 (show i<4611686018427387904 by have:=h.many;omega);have hr:=h.rows _ (List.getElem_mem h3);have hte:=tabErr_eq hF (List.getElem_mem h3') tabs[i];refine Aa ?_;refine EL.map h3 ?_;refine Ab ?_;refine EL.map h3' ?_;refine Bo ?_;refine .pure _ (show Spec0 Tryz.prog 27 [.ag [intsL F[i]],setA tabs[i]] _ from d27 F[i] tabs[i] (h.pl.ff _ (List.getElem_mem h3')) (by have:=h.big;omega) hr.2) rfl λq hq _=>?_;subst hq;refine Ab ?_;refine VIF.split (λh4=>?_) (λh4=>?_)
  ·have h4:tabErr F[i] tabs[i]≠0:=(by simpa using h4);have hn:¬tabE F[i] tabs[i]:=λg=>h4 (hte.1 g);refine Aa ?_;exact bad (tabErr F[i] tabs[i]) _ Ae Ai (.inr (.inr (.inl ⟨h1,h2,λg=>hn (g.2 i h3' h3),rfl,hte.2 hn⟩)))
  ·have h4:tabErr F[i] tabs[i]=0:=(by simpa using h4);have hy:tabE F[i] tabs[i]:=Classical.byContradiction λg=>by have:=hte.2 g;omega
   refine Af ?_;refine BACK.mk ⟨i+1,by omega,λj q1 q2 hji=>if e:j=i then (by subst e;exact hy) else hg j q1 q2 (by omega)⟩ [] rfl rfl (by show tabs.length-(i+1)<tabs.length-i;omega) ?_;refine B3 ?_;exact ⟨id,by simp[intsL,setA,iA]⟩
 have h3:i=tabs.length:=by simp at h3;omega
 have hT:TabsE F tabs:=⟨h2,λj q1 q2=>hg j q1 q2 (by omega)⟩;have hK:∀z∈tabs,z.length<=K:=λz hz=>(h.rows z hz).1;refine F1 ?_
 refine LOOP.mk (ι:={p:Nat×List (List It)//p.1<=l.length/\Ran F l tabs p.1 p.2/\Few p.2 (rowsTo K l p.1)}) (λp=>mkS [(0,plA l),(2,setsA tabs),(13,.rf 1000 0 p.1.2.length),(51,plA l),(52,iA l.length),(53,iA p.1.1)] ([(1000,doF p.1.2),(3000,⟨2,famC 3000 (lastZ p.1.2)⟩)]++famL 3000 (lastZ p.1.2)) ([1000,3000]++famN 3000 (lastZ p.1.2).length)) (λp=>l.length-p.1.1)
  ⟨(0,[]),Nat.zero_le _,Ran.start F l tabs,⟨by simp[rowsTo,rowsL],by simp⟩⟩ [(1000,none),(3000,none)] rfl rfl ?_ (λp=>?_)
 ·refine Gn ?_;exact ⟨id,rfl,rfl,rfl,trivial⟩
 obtain ⟨⟨i,S⟩,hi,hR,hFew⟩:=p;simp only at hi hR hFew;refine Gn ?_;refine VIF.split (λh4=>?_) (λh4=>?_)
 ·have h4:i<l.length:=(by simpa using h4);have hm:=List.getElem_mem h4;have w1:=wrap_add1 (show i<4611686018427387904 by omega);obtain ⟨g1,g2⟩:=planD_step hp h4;have hro:∀n∈rowsTo K l (i+1),n<=500000:=λn hn=>h.few n (rowsTo_mem hn);have hlen:=rowsTo_len (K:=K) (l:=l) (i:=i) (by omega);have hstep:=rowsTo_step (K:=K) h4;have hrows:∀z∈S,z.length<=500000:=λz hz=>by
   obtain ⟨j,hj,rfl⟩:=List.mem_iff_getElem.1 hz;have hj2:j<(rowsTo K l i).length:=by rw[<- hFew.1];exact hj
   have h5:=hFew.2 j hj hj2;have h6:=hro ((rowsTo K l i)[j]) (by rw[hstep];exact List.mem_append_left _ (List.getElem_mem hj2));omega
  have hnode:NodeOk F (ndsTo F l i) S tabs l[i]:=⟨hF,g1,hT,hR.sets,hrows,λk4=>by
   have hl:=g1;simp only[lookE,k4,show ¬((4:Int)=1) by decide,show ¬((4:Int)=2) by decide,show ¬((4:Int)=3) by decide,if_true,if_false] at hl;obtain ⟨ha,hb,_⟩:=joinE_ok hl;rw[<- hR.sets.len] at ha hb;have h5:=Nat.mul_le_mul (hFew.at K ha) (hFew.at K hb);have h6:=hro (rowsN (rowsTo K l i) K l[i]) (by rw[hstep];simp);simp only[rowsN,k4,show ¬((4:Int)=1) by decide,if_true,if_false] at h6;omega,h.pl.cl _ hm⟩
  refine Aa ?_;refine EL.map h4 ?_;simp -implicitDefEqProofs only[go_sem,PN.c];have hS:S.length=i:=hR.len;refine TOG [(1000,some 1000),(3000,some 3000)] [(0,plA l),(2,setsA tabs),(13,.rf 1000 0 S.length),(51,plA l),(52,iA l.length),(53,iA i),(58,.ag l[i].c),(59,.rf 1000 0 S.length),(60,setsA tabs)] [(1000,doF S),(3000,so (lastZ S))] [1000,3000] rfl ?_ ?_
  ·simp -implicitDefEqProofs only[go_sem,PN.c,iA,intsL,plA,setsA];refine ⟨id,doF_es1 rfl,rfl,fam_fz (by rw[famC_len]) λj hj=>⟨3000+(j+1),?_,by simp[olds];omega,?_⟩⟩
   ·rw[List.getElem?_eq_getElem (by simpa [famC_len] using hj),famC_get hj]
   ·refine Aw ?_;exact famL_get hj
  refine TO [(1000,some 1000)] [(0,plA l),(2,setsA tabs),(13,.rf 1000 0 S.length),(51,plA l),(52,iA l.length),(53,iA i),(58,.ag l[i].c),(59,.rf 1000 0 S.length),(60,setsA tabs)] [(1000,doO S)] [1000] rfl ?_ ?_
  ·simp -implicitDefEqProofs only[go_sem,PN.c,iA,intsL,plA,setsA];exact ⟨id,rfl,doF_es2 (by simp[olds]) rfl⟩
  simp -implicitDefEqProofs only[go_sem,PN.c,iA,plA,setsA];refine CALL.famK (doO_leafy S) (f72 F (ndsTo F l i) S tabs l[i] hnode) 1000 Ae (by simp) ⟨by simp[rns,AV.rn,setsA,PN.c,iA,intsL],by simp[inNs,AV.inN,setsA,PN.c,iA,intsL]⟩ 100000 (by simp) Ae λout e hq=>?_;obtain ⟨rfl,hn⟩:=hq;(simp -implicitDefEqProofs only[go_sem,doO,iA];repeat (refine GO ?_;simp -implicitDefEqProofs only[go_sem,doO,iA]));refine VIF.split (λh=>absurd h (by simp)) (λ_=>?_);refine Af ?_;refine ⟨by simp[famU_mem],?_⟩;refine Af ?_;refine ⟨⟨by simp[famU_mem],by omega⟩,?_⟩;obtain ⟨es1,es2⟩:=doF_snoc S out;refine BACK.mk ⟨(i+1,S++[out]),by simp only;omega,hR.step hF hp hT h4 hn,⟨?_,?_⟩⟩ ([(1000,some 70),(3000,some 100001)]++famM 3000 out.length λi=>100001+(i+1)) rfl (by simp only[es2];exact fam_nmOk rfl (fam_nd (by decide) (by decide))) (by show l.length-(i+1)<l.length-i;omega) ?_
  ·simp[hstep,hFew.1]
  ·intro j q1 q2;simp only at q1 q2 ⊢;simp only[hstep];by_cases e:j<S.length
   ·rw[List.getElem_append_left e,List.getElem_append_left (by rw[<- hFew.1];exact e)];exact hFew.2 j e _
   ·have e2:j=S.length:=by simp at q1;omega
    subst e2;rw[List.getElem_append_right (by omega),List.getElem_append_right (by rw[hFew.1];omega)];simpa [hFew.1] using node_rows g1 hT hK hR.sets.len hFew hn
  simp only[es1,es2];(simp -implicitDefEqProofs only[go_sem,iA,plA,setsA,w1];repeat (refine GO ?_;simp -implicitDefEqProofs only[go_sem,iA,plA,setsA,w1]));refine ⟨by simp[famU_mem],by simp,?_,fam_es (ν:=λi=>100001+(i+1)) rfl (λi hi=>fam_nms (m1:=[(1000,some 70),(3000,some 100001)]) (by simp) hi),fam_eobs (ν:=λi=>100001+(i+1)) λi hi=>⟨fam_nms (m1:=[(1000,some 70),(3000,some 100001)]) (by simp) hi,by simp -implicitDefEqProofs only[go_sem];exact famO_row hi⟩⟩;rw[List.take_of_length_le (by simp)];exact Es.app (.same (doO S) _ _ (doO_leafy S) rfl) (.cons ⟨⟨rfl,rfl,rfl⟩,trivial⟩ .nil)
 ·have h4:i=l.length:=by simp at h4;omega
  subst h4;have w2:IntKind.i64.wrap ((l.length:Int)-1)=((l.length-1:Nat):Int):=by rw[wrap_i64]<;>omega
  have hlS:=hR.len;(simp -implicitDefEqProofs only[go_sem,plA,w2];repeat (refine GO ?_;simp -implicitDefEqProofs only[go_sem,plA,w2]));have hsl:S.length-1<S.length:=(by omega);refine ⟨by omega,rfl,[.rf 3000 0 (lastZ S).length],?_,?_⟩
  ·rcases doF_cases S with rfl|⟨I,z,rfl⟩
   ·simp at hsl
   ·rw[(doF_snoc I z).1,(doF_snoc I z).2,show l.length-1=(I.map λz=>[setA z]).length by simp at hlS;simp;omega];simp
  refine Aa ?_;refine FINfam 3000 (λi=>3000+(i+1)) (lastZ S) [(6,.rf 0 0 (lastZ S).length),(7,iA 0)] (es:=famC 3000 (lastZ S)) (fam_nd (l:=[3000]) (by decide) (by decide)) Aj rfl (λi hi=>by (simp -implicitDefEqProofs only[go_sem];repeat (refine GO ?_;simp -implicitDefEqProofs only[go_sem]));exact famL_get hi) ?_ ?_
  ·exact A7
  ·have e:setAt S ((l.length:Int)-1)=lastZ S:=by
    rw[setAt_eq (by omega),lastZ_eq hsl];congr 1;omega
   exact ⟨lastZ S,⟨⟨0,rfl,.inr (.inr (.inr ⟨h1,hT,rfl,S,hR,e.symm⟩))⟩,rfl⟩,rfl⟩
theorem Ran.takeR {F:List (List Int)} {l:List PN} {tabs S:List (List It)} {n:Nat} (hF:formsE F=0) (hp:(planD F l []).1=0) (ht:TabsE F tabs) (h:Ran F l tabs n S) (hn:n<=l.length):∀i,i<=n->Ran F l tabs i (S.take i):=by
 intro i
 induction i with
 | zero=>intro _;rw[List.take_zero];exact Ran.start F l tabs
 | succ i ih=>
   intro hi;have hl:i<l.length:=(by omega);have hs:i<S.length:=by rw[h.len];omega
   have:=(ih (by omega)).step hF hp ht hl (h.nodes i hl hs);rw[List.take_succ_eq_append_getElem hs];exact this
theorem NodeOk.at {F:List (List Int)} {D:List Nd} {S tabs:List (List It)} {x:PN} (h:NodeOk F D S tabs x) {k:Int} (hk:inC k D.length=true):∃hk:k.toNat<S.length,0<=k/\k<S.length/\setAt S k=S[k.toNat]'hk/\Nds (S[k.toNat]'hk) (ndAt D k)/\Ndb (ndAt D k)/\(S[k.toNat]'hk).length<=500000/\∀t∈S[k.toNat]'hk,t.row.length<1073741824:=by
 obtain ⟨g1,g2⟩:=h.sets.at hk;simp only[inC,Bool.and_eq_true,decide_eq_true_eq] at hk;have hl:=h.sets.len;have h2:k.toNat<S.length:=by omega
 rw[setAt_eq h2] at g1;exact ⟨h2,hk.1,by omega,setAt_eq h2,g1,g2,h.rows _ (List.getElem_mem h2),λt ht=>by have:=g1.r12 t ht;omega⟩
theorem lookE_k {F:List (List Int)} {D:List Nd} {x:PN} (h:lookE F D x=0):(x.kind=1/\scanE F x=0)\/(x.kind=2/\filtE D x=0)\/(x.kind=3/\projE x D=0)\/(x.kind=4/\joinE x D=0)\/(x.kind=5/\bothE x D=0)\/(x.kind=6/\bothE x D=0)\/(x.kind=7/\distE D x=0)\/(x.kind=8/\grpE x D=0):=by
 simp only[lookE] at h;by_cases k1:x.kind=1
 ·exact .inl ⟨k1,by simpa [k1] using h⟩
 by_cases k2:x.kind=2
 ·exact .inr (.inl ⟨k2,by simpa [k2] using h⟩)
 by_cases k3:x.kind=3
 ·exact .inr (.inr (.inl ⟨k3,by simpa [k3] using h⟩))
 by_cases k4:x.kind=4
 ·exact .inr (.inr (.inr (.inl ⟨k4,by simpa [k4] using h⟩)))
 by_cases k5:x.kind=5
 ·exact .inr (.inr (.inr (.inr (.inl ⟨k5,by simpa [k5] using h⟩))))
 by_cases k6:x.kind=6
 ·exact .inr (.inr (.inr (.inr (.inr (.inl ⟨k6,by simpa [k6] using h⟩)))))
 by_cases k7:x.kind=7
 ·exact .inr (.inr (.inr (.inr (.inr (.inr (.inl ⟨k7,by simpa [k7] using h⟩))))))
 simp only[k1,k2,k3,k4,k5,k6,k7,if_false,or_self] at h;split at h
 ·rename_i k8;exact .inr (.inr (.inr (.inr (.inr (.inr (.inr ⟨k8,h⟩))))))
 ·cases h
theorem doO_take {st:St} {m:List (Nat×Option Nat)} {S:List (List It)} {i:Nat} {o:List It} (hi:i<S.length) (ho:o=S[i]):Es st m (List.take i (List.map (λz=>[setA z]) (List.take i S))++[[setA o]]) (List.map (λz=>[setA z]) (List.take (i+1) S)):=by rw[List.take_of_length_le (by simp;omega),List.take_succ_eq_append_getElem hi,<- ho];exact doO_snoc rfl
theorem p68 (F:List (List Int)) (l:List PN) (tabs S:List (List It)) (K:Nat) (h:EvSz F l tabs K) (hw:∀n∈rowsL K l [],n<=5000) (hr:RightP F l tabs) (hS:Ran F l tabs l.length S) :
 Spec0 Tryz.prog 68 [plA l,setsA tabs] (·=.tu [setA (lastZ S),iA 0]):=by
 obtain ⟨hp0,hT⟩:=hr;obtain ⟨hF,hl1,hl2,hp⟩:=planE_ok hp0;have hK:∀z∈tabs,z.length<=K:=λz hz=>(h.rows z hz).1;have hSl:=hS.len;refine spec0_of_vc tabOk elems ord68 Tryz.func68 rfl (rl:=[.tmp 4,.tmp 5]) rfl (by kernel_rfl) rfl ?_;(simp -implicitDefEqProofs only[go_sem,plA,setsA];repeat (refine GO ?_;simp -implicitDefEqProofs only[go_sem,plA,setsA]));refine LOOP.mk (ι:={i:Nat//i<=l.length}) (λp=>mkS [(0,plA l),(1,setsA tabs),(6,.rf 1000 0 p.1),(7,iA p.1)] [(1000,doO (S.take p.1))] [1000]) (λp=>l.length-p.1) ⟨0,Nat.zero_le _⟩ [(1000,none)] rfl rfl ?_ (λp=>?_)
 ·refine Et ?_;exact ⟨id,rfl,rfl⟩
 obtain ⟨i,hi⟩:=p;refine Gn ?_;refine VIF.split (λh4=>?_) (λh4=>?_)
 ·have h4:i<l.length:=(by simpa using h4);have hsi:i<S.length:=(by omega);have hm:=List.getElem_mem h4;have w1:=wrap_add1 (show i<4611686018427387904 by omega);have hR:=hS.takeR hF hp hT (Nat.le_refl _) i hi;have hn:=hS.nodes i h4 hsi;have hFew:=hS.few (Nat.le_refl _) hp hT hK i hi;obtain ⟨g1,g2⟩:=planD_step hp h4;have hro:∀n∈rowsTo K l (i+1),n<=5000:=λn hn=>hw n (rowsTo_mem hn);have hlen:=rowsTo_len (K:=K) (l:=l) (i:=i) (by omega);have hstep:=rowsTo_step (K:=K) h4;have hrows:∀z∈S.take i,z.length<=5000:=λz hz=>by
   obtain ⟨j,hj,rfl⟩:=List.mem_iff_getElem.1 hz;have hj2:j<(rowsTo K l i).length:=by rw[<- hFew.1];exact hj
   have h5:=hFew.2 j hj hj2;have h6:=hro ((rowsTo K l i)[j]) (by rw[hstep];exact List.mem_append_left _ (List.getElem_mem hj2));omega
  have hnode:NodeOk F (ndsTo F l i) (S.take i) tabs l[i]:=⟨hF,g1,hT,hR.sets,λz hz=>by have:=hrows z hz;omega,λk4=>by
   have hl:=g1;simp only[lookE,k4,show ¬((4:Int)=1) by decide,show ¬((4:Int)=2) by decide,show ¬((4:Int)=3) by decide,if_true,if_false] at hl;obtain ⟨ha,hb,_⟩:=joinE_ok hl;rw[<- hR.sets.len] at ha hb;have h5:=Nat.mul_le_mul (hFew.at K ha) (hFew.at K hb);have h6:=hro (rowsN (rowsTo K l i) K l[i]) (by rw[hstep];simp);simp only[rowsN,k4,show ¬((4:Int)=1) by decide,if_true,if_false] at h6;omega,h.pl.cl _ hm⟩
  refine Aa ?_;refine EL.map h4 ?_;refine Ba ?_;have hil:(S.take i).length=i:=by simp;omega
  obtain ⟨o,ho⟩:∃o,o=S[i]:=⟨_,rfl⟩;rw[<- ho] at hn;simp only[doO];rcases lookE_k g1 with ⟨hk,hl⟩|⟨hk,hl⟩|⟨hk,hl⟩|⟨hk,hl⟩|⟨hk,hl⟩|⟨hk,hl⟩|⟨hk,hl⟩|⟨hk,hl⟩
  all_goals
   repeat ((first|refine VIF.t ?_|refine VIF.f ?_);simp -implicitDefEqProofs only[go_sem,PN.c,iA];repeat (refine GO ?_;simp -implicitDefEqProofs only[go_sem,PN.c,iA]))
  have hi1:=scanE_ok hl;simp only[inC,Bool.and_eq_true,decide_eq_true_eq] at hi1;have f1:l[i].table.toNat<F.length:=(by omega);have f2:l[i].table.toNat<tabs.length:=by rw[hT.1];exact f1
  have g:=nd_scan (hT.2 _ f1 f2);simp only[NodeR,hk,Int.reduceEq,if_true,if_false] at hn;rw[setAt_eq f2] at hn;subst hn;refine ⟨hi1.1,EL.map f2 ?_⟩;refine Ba ?_;refine .pure _ (show Spec0 Tryz.prog 38 [setA (tabs[l[i].table.toNat]'f2)] _ from Spec1.setC (c31 (tabs[l[i].table.toNat]'f2) (by have:=(hT.2 _ f1 f2).2.1;omega) (λt ht=>by have:=g.r12 t ht;omega))) rfl λq hq _=>?_;subst hq;refine Gm ?_;refine TO [(1000,some 1000)] [(0,plA l),(1,setsA tabs),(6,.rf 1000 0 i),(7,iA i),(9,setA (tabs[l[i].table.toNat]'f2)),(10,iA 0)] [(1000,doO (S.take i))] [1000] rfl ?_ ?_
  ·refine Gl ?_;exact ⟨id,.same (doO (S.take i)) _ _ (doO_leafy _) rfl⟩
  rotate_left
  obtain ⟨ha,ha0,ha1,ea,na,ba,la,ra⟩:=hnode.at (filtE_ok hl);have la5:=hrows _ (List.getElem_mem ha);refine ⟨⟨ha0,by rw[hil] at ha1;exact ha1⟩,EL.map ha ?_⟩;refine Ba ?_;simp only[NodeR,hk,Int.reduceEq,if_true,if_false] at hn;rw[ea] at hn;subst hn;refine .pure _ (show Spec0 Tryz.prog 121 [setA ((S.take i)[l[i].a.toNat]'ha),.ag l[i].pred.c] _ from Spec1.set1 (c58 ((S.take i)[l[i].a.toNat]'ha) l[i].pred (by omega) ra)) rfl λq hq _=>?_;obtain ⟨out,rfl,rfl⟩:=hq;refine Gm ?_;refine TO [(1000,some 1000)] [(0,plA l),(1,setsA tabs),(6,.rf 1000 0 i),(7,iA i),(9,setA (((S.take i)[l[i].a.toNat]'ha).filter λt=>holdsP l[i].pred t.row)),(10,iA 0)] [(1000,doO (S.take i))] [1000] rfl ?_ ?_
  ·refine Gl ?_;exact ⟨id,.same (doO (S.take i)) _ _ (doO_leafy _) rfl⟩
  rotate_left
  obtain ⟨hia,hc1,hc2⟩:=projE_ok hl;obtain ⟨ha,ha0,ha1,ea,na,ba,la,ra⟩:=hnode.at hia;have la5:=hrows _ (List.getElem_mem ha);refine ⟨⟨ha0,by rw[hil] at ha1;exact ha1⟩,EL.map ha ?_⟩;refine Ba ?_;simp only[NodeR,hk,Int.reduceEq,if_true,if_false] at hn;rw[ea] at hn;refine .pure _ (show Spec0 Tryz.prog 122 [setA ((S.take i)[l[i].a.toNat]'ha),intsL l[i].cols] _ from c57 ((S.take i)[l[i].a.toNat]'ha) l[i].cols (by omega) ra (h.pl.cl _ hm).1) rfl λq hq _=>?_;obtain ⟨out,e,rfl,hq⟩:=hq;obtain ⟨rfl,rfl⟩:=projX_same (hq na.good) hn;refine Gm ?_;refine TO [(1000,some 1000)] [(0,plA l),(1,setsA tabs),(6,.rf 1000 0 i),(7,iA i),(9,setA out),(10,iA 0)] [(1000,doO (S.take i))] [1000] rfl ?_ ?_
  ·refine Gl ?_;exact ⟨id,.same (doO (S.take i)) _ _ (doO_leafy _) rfl⟩
  rotate_left
  obtain ⟨hia,hib,hc1,hc2,hc3⟩:=joinE_ok hl;have hj:=hnode.join hk;obtain ⟨ha,ha0,ha1,ea,na,ba,la,ra⟩:=hnode.at hia;obtain ⟨hb,hb0,hb1,eb,nb,bb,lb,rb⟩:=hnode.at hib;refine ⟨⟨ha0,by rw[hil] at ha1;exact ha1⟩,EL.map ha ?_⟩;refine Ba ?_;refine ⟨⟨hb0,by rw[hil] at hb1;exact hb1⟩,EL.map hb ?_⟩;refine Ba ?_;simp only[NodeR,hk,Int.reduceEq,if_true,if_false] at hn;rw[ea,eb] at hn hj;refine .pure _ (show Spec0 Tryz.prog 123 [setA ((S.take i)[l[i].a.toNat]'ha),setA ((S.take i)[l[i].b.toNat]'hb),intsL l[i].cols,intsL l[i].others] _ from c27 ((S.take i)[l[i].a.toNat]'ha) ((S.take i)[l[i].b.toNat]'hb) l[i].cols l[i].others hc1 (h.pl.cl _ hm).1 hj (by omega) (by omega) ra rb (λt ht=>good_w na.good ht) (λt ht=>good_w nb.good ht)) rfl λq hq _=>?_;obtain ⟨out,e,rfl,hq⟩:=hq;obtain ⟨rfl,rfl⟩:=joinR_same (rjoin_joinR na.good nb.good hc1 hq) hn;refine Gm ?_;refine TO [(1000,some 1000)] [(0,plA l),(1,setsA tabs),(6,.rf 1000 0 i),(7,iA i),(9,setA out),(10,iA 0)] [(1000,doO (S.take i))] [1000] rfl ?_ ?_
  ·refine Gl ?_;exact ⟨id,.same (doO (S.take i)) _ _ (doO_leafy _) rfl⟩
  rotate_left
  obtain ⟨hia,hib,hc1,hc2⟩:=bothE_ok hl;obtain ⟨ha,ha0,ha1,ea,na,ba,la,ra⟩:=hnode.at hia;obtain ⟨hb,hb0,hb1,eb,nb,bb,lb,rb⟩:=hnode.at hib;refine ⟨⟨ha0,by rw[hil] at ha1;exact ha1⟩,EL.map ha ?_⟩;refine Ba ?_;refine ⟨⟨hb0,by rw[hil] at hb1;exact hb1⟩,EL.map hb ?_⟩;refine Ba ?_;simp only[NodeR,hk,Int.reduceEq,if_true,if_false] at hn;rw[ea,eb] at hn;refine .pure _ (show Spec0 Tryz.prog 67 [setA ((S.take i)[l[i].a.toNat]'ha),setA ((S.take i)[l[i].b.toNat]'hb)] _ from c38 ((S.take i)[l[i].a.toNat]'ha) ((S.take i)[l[i].b.toNat]'hb) (by omega) ra rb) rfl λq hq _=>?_;obtain ⟨out,e,rfl,hq⟩:=hq;obtain ⟨rfl,rfl⟩:=addR_same2 (.inr ⟨na.good,nb.good,hq⟩) hn;refine Gm ?_;refine TO [(1000,some 1000)] [(0,plA l),(1,setsA tabs),(6,.rf 1000 0 i),(7,iA i),(9,setA out),(10,iA 0)] [(1000,doO (S.take i))] [1000] rfl ?_ ?_
  ·refine Gl ?_;exact ⟨id,.same (doO (S.take i)) _ _ (doO_leafy _) rfl⟩
  rotate_left
  obtain ⟨hia,hib,hc1,hc2⟩:=bothE_ok hl;obtain ⟨ha,ha0,ha1,ea,na,ba,la,ra⟩:=hnode.at hia;obtain ⟨hb,hb0,hb1,eb,nb,bb,lb,rb⟩:=hnode.at hib;refine ⟨⟨ha0,by rw[hil] at ha1;exact ha1⟩,EL.map ha ?_⟩;refine Ba ?_;refine ⟨⟨hb0,by rw[hil] at hb1;exact hb1⟩,EL.map hb ?_⟩;refine Ba ?_;simp only[NodeR,hk,Int.reduceEq,if_true,if_false] at hn;rw[ea,eb] at hn;refine .pure _ (show Spec0 Tryz.prog 69 [setA ((S.take i)[l[i].a.toNat]'ha),setA ((S.take i)[l[i].b.toNat]'hb)] _ from c39 ((S.take i)[l[i].a.toNat]'ha) ((S.take i)[l[i].b.toNat]'hb) (by omega) ra rb (λt ht=>good_w nb.good ht)) rfl λq hq _=>?_;obtain ⟨out,e,rfl,hq⟩:=hq;obtain ⟨rfl,rfl⟩:=minR_samE (.inr ⟨na.good,nb.good,hq⟩) hn;refine Gm ?_;refine TO [(1000,some 1000)] [(0,plA l),(1,setsA tabs),(6,.rf 1000 0 i),(7,iA i),(9,setA out),(10,iA 0)] [(1000,doO (S.take i))] [1000] rfl ?_ ?_
  ·refine Gl ?_;exact ⟨id,.same (doO (S.take i)) _ _ (doO_leafy _) rfl⟩
  rotate_left
  obtain ⟨ha,ha0,ha1,ea,na,ba,la,ra⟩:=hnode.at (distE_ok hl);have la5:=hrows _ (List.getElem_mem ha);refine ⟨⟨ha0,by rw[hil] at ha1;exact ha1⟩,EL.map ha ?_⟩;refine Ba ?_;simp only[NodeR,hk,Int.reduceEq,if_true,if_false] at hn;rw[ea,<- posL_dist na.good] at hn;subst hn;refine .pure _ (show Spec0 Tryz.prog 124 [setA ((S.take i)[l[i].a.toNat]'ha)] _ from Spec1.set1 (c36 ((S.take i)[l[i].a.toNat]'ha) (by omega) ra)) rfl λq hq _=>?_;obtain ⟨out,rfl,rfl⟩:=hq;refine Gm ?_;refine TO [(1000,some 1000)] [(0,plA l),(1,setsA tabs),(6,.rf 1000 0 i),(7,iA i),(9,setA (posL ((S.take i)[l[i].a.toNat]'ha))),(10,iA 0)] [(1000,doO (S.take i))] [1000] rfl ?_ ?_
  ·refine Gl ?_;exact ⟨id,.same (doO (S.take i)) _ _ (doO_leafy _) rfl⟩
  rotate_left
  obtain ⟨hia,hk',hc1,hc2,hc3,hc4,hc5⟩:=grpE_ok hl;obtain ⟨ha,ha0,ha1,ea,na,ba,la,ra⟩:=hnode.at hia;have la5:=hrows _ (List.getElem_mem ha);refine ⟨⟨ha0,by rw[hil] at ha1;exact ha1⟩,EL.map ha ?_⟩;refine Ba ?_;simp only[NodeR,hk,Int.reduceEq,if_true,if_false] at hn;rw[ea] at hn;refine .pure _ (show Spec0 Tryz.prog 125 [setA ((S.take i)[l[i].a.toNat]'ha),intsL l[i].cols,iA l[i].agg,iA l[i].col] _ from c71 ((S.take i)[l[i].a.toNat]'ha) l[i].cols l[i].agg l[i].col na.good (by omega) (h.pl.cl _ hm).1) rfl λq hq _=>?_;obtain ⟨out,e,rfl,hq⟩:=hq;obtain ⟨e1,e2⟩:=groupR_ref na.good hn hq;subst e1 e2;refine Gm ?_;refine TO [(1000,some 1000)] [(0,plA l),(1,setsA tabs),(6,.rf 1000 0 i),(7,iA i),(9,setA o),(10,iA 0)] [(1000,doO (S.take i))] [1000] rfl ?_ ?_
  ·refine Gl ?_;exact ⟨id,.same (doO (S.take i)) _ _ (doO_leafy _) rfl⟩
  rotate_left
  all_goals
   (simp -implicitDefEqProofs only[go_sem,doO,iA,setA];repeat (refine GO ?_;simp -implicitDefEqProofs only[go_sem,doO,iA,setA]));refine Ee ?_;refine ⟨by omega,?_⟩;refine Af ?_;refine BACK.mk ⟨i+1,by omega⟩ [(1000,some 137)] rfl rfl (by show l.length-(i+1)<l.length-i;omega) ?_;(simp -implicitDefEqProofs only[go_sem,doO,iA,plA,setsA,w1];repeat (refine GO ?_;simp -implicitDefEqProofs only[go_sem,doO,iA,plA,setsA,w1]));exact ⟨id,doO_take hsi ho⟩
 ·have h4:i=l.length:=by simp at h4;omega
  subst h4;have w2:IntKind.i64.wrap ((l.length:Int)-1)=((l.length-1:Nat):Int):=by rw[wrap_i64]<;>omega
  refine Bn ?_;have hsl:S.length-1<S.length:=(by omega);refine ⟨by omega,rfl,?_⟩;rw[List.take_of_length_le (by omega),doO];refine EL.map (l:=S) (f:=λz=>[setA z]) (show l.length-1<S.length by omega) ?_;refine Aa ?_;refine ⟨rfl,?_⟩;rw[lastZ_eq hsl];simp only[hSl];rfl
end Yt
namespace Yt
open Go Go.Vc
def og23:Ords
 | 6=>some (.lin [F6 0,F6 1,F6 3,F9 4,Ga 2,F6 6,Ga 5,F7 7,F6 8,F7 9])
 | _=>none
@[go_sem] theorem og23_0:og23 0=none:=rfl
@[go_sem] theorem og23_1:og23 1=none:=rfl
@[go_sem] theorem og23_2:og23 2=none:=rfl
@[go_sem] theorem og23_3:og23 3=none:=rfl
@[go_sem] theorem og23_5:og23 5=none:=rfl
attribute [go_sem] og23.eq_1
@[go_sem] theorem og23_7:og23 7=none:=rfl
@[go_sem] theorem og23_4:og23 4=none:=rfl
@[go_sem] theorem og23_8:og23 8=none:=rfl
def og31:Ords
 | 6=>some (.forkq [F6 0,F6 1,F9 2,F9 3,F6 4,F6 5,F9 6,F9 7] 8 true (.lin [Ga 9,Ga 10,Ga 11]) 9 true (.lin [Ga 8,Ga 10,Ga 11]))
 | 7=>some (.lin [F7 0,F7 1,F7 2,F7 3,F7 4,F8 5,F7 6,F7 7,F7 8,F7 9,F7 10,F7 11,F8 12,F7 13,F7 14,F7 15,F7 16,F7 17,F7 18,F8 19,F7 20,F7 21,F7 22,F7 23,F7 24,F7 25,F8 26,F7 27,F7 28,F7 29,F7 30,F7 31,F7 32,F7 33,F7 34,F8 35,F7 36,F7 37,F7 38,F7 39,F7 40,F7 41,F7 42,F7 43,F8 44,F7 45,F7 46,F7 47,F7 48,F7 49,F7 50,F7 51,F7 52,F8 53,F7 54,F7 55,F7 56,F7 57,F7 58,F7 59,F7 60,F7 61,F7 62,F8 63,F7 64,F7 65,F7 66,F7 67,F7 68,F7 69,F7 70,F8 71,F7 72,F7 73,F7 74,F7 75,F7 76,F7 77,F7 78,F8 79,F7 80,F7 81,F7 82,F7 83,F7 84,F7 85,F8 86,F7 87,F7 88,F7 89,F7 90,F7 91,F7 92])
 | _=>none
@[go_sem] theorem og31_0:og31 0=none:=rfl
@[go_sem] theorem og31_1:og31 1=none:=rfl
@[go_sem] theorem og31_3:og31 3=none:=rfl
@[go_sem] theorem og31_4:og31 4=none:=rfl
attribute [go_sem] og31.eq_1
attribute [go_sem] og31.eq_2
@[go_sem] theorem og31_5:og31 5=none:=rfl
@[go_sem] theorem og31_9:og31 9=none:=rfl
end Yt
