/- Contracts of the program's functions over abstract values and states, plain facts on which these lean, and the framework of these values over the model. The conditions stand in each theorem. -/
import Derived.Test.YtogndnaffdkanaaGreatBc
import Derived.Test.YtogndnaffdkanaaGreatBd
import Derived.Test.YtogndnaffdkanaaGreatBb
set_option linter.all false
set_option maxRecDepth 10000
set_option maxHeartbeats 16000000
namespace Yt
open Go Go.Vc Go.Proofs
theorem split_at {α:Type} (p:α->Prop):∀(l:List α),∃k,k<=l.length/\(∀j (h:j<l.length),j<k->p l[j])/\∀h:k<l.length,¬p l[k]
 | []=>⟨0,Nat.le_refl _,λj h=>absurd h (Nat.not_lt_zero _),λh=>absurd h (Nat.not_lt_zero _)⟩
 | x::l=>by
   by_cases e:p x
   ·obtain ⟨k,h1,h2,h3⟩:=split_at p l;refine ⟨k+1,by simp;omega,λj h hj=>?_,λh=>?_⟩
    ·cases j with
     | zero=>exact e
     | succ j=>exact h2 j (by simpa using h) (by omega)
    ·exact h3 (by simpa using h)
   ·exact ⟨0,Nat.zero_le _,λj _ h=>absurd h (Nat.not_lt_zero _),λ_=>e⟩
theorem gpi_ex (cols:List Int) (z:List It):∃gs,GpI cols z gs:=by
 have h:∀n,n<=z.length->∃gs,GpI cols (z.take n) gs:=by
  intro n
  induction n with
  | zero=>intro _;exact ⟨[],by rw[List.take_zero];exact GpI.nil cols⟩
  | succ n ih=>
    intro hn;obtain ⟨gs,hg⟩:=ih (by omega);have hlt:n<z.length:=(by omega);rw[List.take_succ_eq_append_getElem hlt];by_cases hw:z[n].w<0
    ·exact ⟨gs,hg.skip hw⟩
    by_cases hk:∃k,∃h:k<gs.length,cmpR gs[k].at_ (pickR z[n].row cols)=0
    ·obtain ⟨k,h1,h2⟩:=hk;exact ⟨_,hg.add hw h1 h2⟩
    ·obtain ⟨k,h1,h2,h3⟩:=split_at (λg:Gp=>cmpR g.at_ (pickR z[n].row cols)<0) gs;have key:∀h:k<gs.length,0<cmpR gs[k].at_ (pickR z[n].row cols):=λh=>by
      have h4:=h3 h;have h5:cmpR gs[k].at_ (pickR z[n].row cols)≠0:=λh6=>hk ⟨k,h,h6⟩;omega
     refine ⟨_,hg.ins hw h1 h2 λj hj hkj=>?_⟩;by_cases e:j=k
     ·subst e;exact key hj
     ·have h4:=key (by omega);have h5:=hg.get (i:=k) (j:=j) (by omega) hj (by omega);have n1:=lin_cmpR.neg gs[k].at_ (pickR z[n].row cols);have n2:=lin_cmpR.neg gs[j].at_ (pickR z[n].row cols);have:=lin_cmpR.trans _ _ _ (show cmpR (pickR z[n].row cols) gs[k].at_<0 by omega) h5;omega
 obtain ⟨gs,hg⟩:=h z.length (Nat.le_refl _);rw[List.take_length] at hg;exact ⟨gs,hg⟩
theorem srt_split {K:List V}:∀{y:List It},Srt y->(∀t∈y,cmpR K t.row<=0)->y=y.filter (rowIs K)++y.filter λt=>!rowIs K t
 | [],_,_=>rfl
 | t::y,hs,hK=>by
   obtain ⟨h1,h2⟩:=List.pairwise_cons.1 hs;have ih:=srt_split h2 λu hu=>hK u (by simp[hu]);by_cases e:rowIs K t=true
   ·simp only[List.filter_cons,e,if_true,Bool.not_true,Bool.false_eq_true,if_false,List.cons_append];rw[<- ih]
   ·have e2:rowIs K t=false:=(by simpa using e);have no:∀u∈t::y,rowIs K u=false:=λu hu=>by
     rcases List.mem_cons.1 hu with rfl|hu
     ·exact e2
     ·have h3:=h1 u hu;have h4:=hK t (by simp);simp only[rowIs,decide_eq_false_iff_not] at e2 ⊢;intro h5;have h6:=lin_cmpR.eq _ _ h5;simp only[cI,h6] at h3;have h7:=lin_cmpR.neg t.row K;have:cmpR t.row K=0:=(by omega);exact e2 this
    have f1:(t::y).filter (rowIs K)=[]:=by rw[List.filter_eq_nil_iff];intro u hu;simp[no u hu]
    have f2:((t::y).filter λt=>!rowIs K t)=t::y:=by rw[List.filter_eq_self];intro u hu;simp[no u hu]
    rw[f1,f2,List.nil_append]
def runY (y:List It) (g:Gp):List It:=y.filter (rowIs g.at_)
theorem srt_groups:∀(gs:List Gp) (y:List It),Srt y->gs.Pairwise (λa b=>cmpR a.at_ b.at_<0)->(∀t∈y,∃g∈gs,g.at_=t.row)->y=gs.flatMap (runY y)
 | [],y,_,_,h=>by
   cases y with
   | nil=>rfl
   | cons t y=>obtain ⟨g,hg,_⟩:=h t (by simp);cases hg
 | g::gs,y,hs,hp,h=>by
   obtain ⟨h1,h2⟩:=List.pairwise_cons.1 hp;have hK:∀t∈y,cmpR g.at_ t.row<=0:=λt ht=>by
    obtain ⟨g',hg',e⟩:=h t ht;rw[<- e];rcases List.mem_cons.1 hg' with rfl|hg'
    ·rw[cmpR_self];exact Int.le_refl 0
    ·have:=h1 g' hg';omega
   have e1:=srt_split hs hK;have hs2:Srt (y.filter λt=>!rowIs g.at_ t):=hs.filter _;have e2:=srt_groups gs (y.filter λt=>!rowIs g.at_ t) hs2 h2 λt ht=>by
    obtain ⟨ht,hn⟩:=List.mem_filter.1 ht;obtain ⟨g',hg',e⟩:=h t ht;rcases List.mem_cons.1 hg' with rfl|hg'
    ·simp[rowIs,e,cmpR_self] at hn
    ·exact ⟨g',hg',e⟩
   have e3:gs.flatMap (runY (y.filter λt=>!rowIs g.at_ t))=gs.flatMap (runY y):=by
    simp only[List.flatMap];congr 1;refine List.map_congr_left λg' hg'=>?_;simp only[runY,List.filter_filter];refine List.filter_congr λt _=>?_;have h3:=h1 g' hg';by_cases e:rowIs g'.at_ t=true
    ·have:rowIs g.at_ t=false:=by
      simp only[rowIs,decide_eq_true_eq,decide_eq_false_iff_not] at e ⊢;intro h4;rw[lin_cmpR.eq _ _ e] at h4;have h5:=lin_cmpR.neg g'.at_ g.at_;omega
     simp[e,this]
    ·simp[e]
   rw[List.flatMap_cons,<- e3,<- e2];exact e1
def kI (cols:List Int) (p:It×Nat):It:=⟨pickR p.1.row cols,(p.2:Int)⟩
def posP (p:It×Nat):Bool:=posI p.1
def kL (cols:List Int) (z:List It) (i:Nat):List It:=((z.zipIdx.take i).filter posP).map (kI cols)
theorem kL_step {cols:List Int} {z:List It} {i:Nat} (h:i<z.length):kL cols z (i+1)=kL cols z i++(if posI z[i] then [⟨pickR z[i].row cols,(i:Int)⟩] else []):=by
 have h2:i<z.zipIdx.length:=by simpa using h
 rw[kL,List.take_succ_eq_append_getElem h2,List.filter_append,List.map_append,kL];congr 1;simp only[List.getElem_zipIdx,Nat.zero_add];by_cases e:posI z[i]=true
 ·rw[if_pos e];simp[posP,e,kI]
 ·rw[if_neg e];simp[posP,e]
theorem kL_len {cols:List Int} {z:List It} (i:Nat):(kL cols z i).length<=z.length:=by rw[kL,List.length_map];have:=List.length_filter_le posP (z.zipIdx.take i);rw[List.length_take,List.length_zipIdx] at this;omega
def itemsAt (z l:List It):List It:=l.map λt=>(z[t.w.toNat]?).getD ⟨[],0⟩
theorem zip_mem {z:List It} {p:It×Nat} (hp:p∈z.zipIdx):p.2<z.length/\z[p.2]?=some p.1:=by have h1:=List.mem_zipIdx_iff_getElem?.1 hp;exact ⟨(List.getElem?_eq_some_iff.1 h1).1,h1⟩
theorem kL_items {cols:List Int} {z:List It} (hz:∀t∈z,t.w≠0) (K:List V):itemsAt z ((kL cols z z.length).filter (rowIs K))=(gOf cols z K).items:=by
 rw[kL,List.take_of_length_le (by simp),List.filter_map,List.filter_filter,itemsAt,List.map_map];have e1:((z.zipIdx.filter λp=>(rowIs K ∘ kI cols) p&&posP p).map ((λt=>(z[t.w.toNat]?).getD ⟨[],0⟩) ∘ kI cols))=(z.zipIdx.filter λp=>(rowIs K ∘ kI cols) p&&posP p).map Prod.fst:=by refine List.map_congr_left λp hp=>?_;obtain ⟨hp,_⟩:=List.mem_filter.1 hp;simp only[Function.comp,kI,Int.toNat_natCast,(zip_mem hp).2,Option.getD_some]
 rw[e1];have e2:(λp:It×Nat=>(rowIs K ∘ kI cols) p&&posP p)=(λt:It=>decide (cmpR (pickR t.row cols) K=0)&&posI t) ∘ Prod.fst:=by funext p;rfl
 rw[e2,<- List.filter_map,List.zipIdx_map_fst,gOf];refine List.filter_congr λt ht=>?_;have:=hz t ht;rw[Bool.and_comm];congr 1;by_cases e:0<t.w
 ·have:¬t.w<0:=(by omega);simp[posI,e,this]
 ·have:t.w<0:=(by omega);simp[posI,e,this]
theorem kL_mem {cols:List Int} {z:List It} {t:It} (ht:t∈kL cols z z.length):∃i,∃h:i<z.length,t=⟨pickR z[i].row cols,(i:Int)⟩/\0<z[i].w:=by
 rw[kL,List.take_of_length_le (by simp)] at ht;obtain ⟨p,hp,rfl⟩:=List.mem_map.1 ht;obtain ⟨hp,hq⟩:=List.mem_filter.1 hp;obtain ⟨h1,h2⟩:=zip_mem hp;have h3:z[p.2]=p.1:=by rw[List.getElem?_eq_getElem h1] at h2;exact Option.some.inj h2
 refine ⟨p.2,h1,by rw[h3];rfl,?_⟩;rw[h3];simpa [posP,posI] using hq
theorem app_get {α:Type} {y A B C:List α} (h:y=A++(B++C)) {i:Nat} (hi:i<B.length):y[A.length+i]?=some B[i]:=by rw[h,List.getElem?_append_right (by omega),Nat.add_sub_cancel_left,List.getElem?_append_left hi,List.getElem?_eq_getElem hi]
theorem app_get0 {α:Type} {y A B:List α} (h:y=A++B):y[A.length]?=B[0]?:=by rw[h,List.getElem?_append_right (by omega),Nat.sub_self]
structure Runs (z y:List It) (gs:List Gp) (off:Nat->Nat):Prop where
 zero:off 0=0
 full:off gs.length=y.length
 le:∀m,m<=gs.length->off m<=y.length
 step:∀m (h:m<gs.length),off (m+1)=off m+gs[m].items.length
 at_:∀m (h:m<gs.length) i (hi:i<gs[m].items.length),∃h1:off m+i<y.length,y[off m+i].row=gs[m].at_/\0<=y[off m+i].w/\∃h2:y[off m+i].w.toNat<z.length,z[y[off m+i].w.toNat]=gs[m].items[i]
 stop:∀m (h:m<gs.length) (h1:off (m+1)<y.length),y[off (m+1)].row≠gs[m].at_
theorem runs {cols:List Int} {z y:List It} {gs:List Gp} (hz:∀t∈z,t.w≠0) (hg:GpI cols z gs) (hp:y.Perm (kL cols z z.length)) (hs:Srt y) (hst:Stb (kL cols z z.length) y):∃off,Runs z y gs off:=by
 have hmem:∀t∈y,∃i,∃h:i<z.length,t=⟨pickR z[i].row cols,(i:Int)⟩/\0<z[i].w:=λt ht=>kL_mem (hp.mem_iff.1 ht);have hy:=srt_groups gs y hs hg.up λt ht=>by obtain ⟨i,h,rfl,hw⟩:=hmem t ht;exact hg.all _ (List.getElem_mem h) (by omega)
 have hrun:∀g∈gs,itemsAt z (runY y g)=g.items:=λg hgm=>by rw[runY,hst,kL_items hz];exact (congrArg Gp.items (gOf_mem hg hgm)).symm
 have hlen:∀g∈gs,(runY y g).length=g.items.length:=λg hgm=>by rw[<- hrun g hgm,itemsAt,List.length_map]
 have cut:∀m (h:m<gs.length),y=(gs.take m).flatMap (runY y)++(runY y gs[m]++(gs.drop (m+1)).flatMap (runY y)):=λm h=>by
  have e:gs=gs.take m++gs[m]::gs.drop (m+1):=by rw[<- List.drop_eq_getElem_cons h,List.take_append_drop]
  conv=>lhs;rw[hy,e]
  rw[List.flatMap_append,List.flatMap_cons]
 refine ⟨λm=>((gs.take m).flatMap (runY y)).length,?_,?_,?_,?_,?_,?_⟩
 ·simp
 ·simp only[List.take_length];rw[<- hy]
 ·intro m hm
  conv=>rhs;rw[hy,<- List.take_append_drop m gs,List.flatMap_append,List.length_append]
  omega
 ·intro m h;show ((gs.take (m+1)).flatMap (runY y)).length=((gs.take m).flatMap (runY y)).length+gs[m].items.length;rw[List.take_succ_eq_append_getElem h,List.flatMap_append,List.length_append];congr 1;simp[hlen _ (List.getElem_mem h)]
 ·intro m h i hi;have hr:i<(runY y gs[m]).length:=by rw[hlen _ (List.getElem_mem h)];exact hi
  have hc:=cut m h;have hb:y[((gs.take m).flatMap (runY y)).length+i]?=some (runY y gs[m])[i]:=app_get hc hr;obtain ⟨h1,e1⟩:=List.getElem?_eq_some_iff.1 hb;have hmm:=List.getElem_mem hr;obtain ⟨hin,hrow⟩:=List.mem_filter.1 hmm;obtain ⟨k,hk,e2,hw⟩:=hmem _ hin;refine ⟨h1,?_,?_,?_⟩
  ·rw[e1];simp only[rowIs,decide_eq_true_eq] at hrow;exact lin_cmpR.eq _ _ hrow
  ·rw[e1,e2];simp
  ·have e3:(y[((gs.take m).flatMap (runY y)).length+i]).w.toNat=k:=by rw[e1,e2];simp
   have h4:=hrun _ (List.getElem_mem h);have h5:gs[m].items[i]=((z[(runY y gs[m])[i].w.toNat]?).getD ⟨[],0⟩):=by have:gs[m].items[i]?=(itemsAt z (runY y gs[m]))[i]?:=(by rw[h4]);rw[List.getElem?_eq_getElem hi,itemsAt,List.getElem?_map,List.getElem?_eq_getElem hr] at this;simpa using this
   refine ⟨by rw[e3];exact hk,?_⟩;rw[h5,<- e1];simp only[e3,List.getElem?_eq_getElem hk,Option.getD_some]
 ·intro m h h1 he;have h0:((gs.take (m+1)).flatMap (runY y)).length<y.length:=h1;have hc:y=(gs.take (m+1)).flatMap (runY y)++(gs.drop (m+1)).flatMap (runY y):=by
   conv=>lhs;rw[hy,<- List.take_append_drop (m+1) gs,List.flatMap_append]
  have hb:y[((gs.take (m+1)).flatMap (runY y)).length]?=((gs.drop (m+1)).flatMap (runY y))[0]?:=app_get0 hc;rw[List.getElem?_eq_getElem h0] at hb;have hin:=List.mem_of_getElem? hb.symm;obtain ⟨g,hgm,hin⟩:=List.mem_flatMap.1 hin;obtain ⟨_,hrow⟩:=List.mem_filter.1 hin;simp only[rowIs,decide_eq_true_eq] at hrow;have h6:=lin_cmpR.eq _ _ hrow;obtain ⟨j,hj,rfl⟩:=List.mem_iff_getElem.1 hgm;rw[List.getElem_drop] at h6;have hj':m+1+j<gs.length:=by rw[List.length_drop] at hj;omega
  have h7:=hg.get h hj' (by omega);have he':(y[((gs.take (m+1)).flatMap (runY y)).length]'h0).row=gs[m].at_:=he;rw[<- h6,he',cmpR_self] at h7;omega
def Asks (z:List It) (cols:List Int) (kind col:Int):Prop:=∀t∈z,pickE t.row cols=0/\(kind≠1->inC col t.row.length=true)
def RGroup (z:List It) (cols:List Int) (kind col:Int) (out:List It) (err:Int):Prop:=
 (¬(1<=kind/\kind<=4)/\out=[]/\err=1)\/((1<=kind/\kind<=4)/\12<=cols.length/\out=[]/\err=2)\/((1<=kind/\kind<=4)/\cols.length<12/\¬Asks z cols kind col/\out=[]/\err=1) \/
 ((1<=kind/\kind<=4)/\cols.length<12/\Asks z cols kind col/\∃gs,GpI cols z gs/\(((∃g∈gs,gval kind col g=none)/\out=[]/\err=11)\/((∀g∈gs,gval kind col g≠none)/\out=gs.map (gItem kind col)/\err=0)))
theorem gmap_made {cols:List Int} {kind col:Int} {z:List It} {gs:List Gp} (h:GpI cols z gs):Made (gs.map (gItem kind col)):=by
 refine ⟨?_,λt ht=>?_⟩
 ·rw[List.pairwise_map];refine List.Pairwise.imp_of_mem ?_ h.up;intro x y hx hy hxy;have e1:=h.atlen x hx;have e2:=h.atlen y hy;simp only[cI,gItem];rw[cmpR_app _ _ _ _ (by omega) (by omega)];exact hxy
 ·obtain ⟨g,_,rfl⟩:=List.mem_map.1 ht;exact ⟨by simp[gItem],by simp[gItem];decide⟩
theorem srt_made {x y:List It} (hx:Made x) (hp:y.Perm x) (hs:Srt y):y=x:=by
 refine made_eq ⟨?_,λt ht=>hx.nz t (hp.mem_iff.1 ht)⟩ hx λr=>tot_perm hp;have hd:y.Pairwise λa b=>a.row≠b.row:=by refine hp.pairwise_iff (λ{a b} h=>Ne.symm h) |>.2 (made_rows hx)
 refine (hs.and hd).imp λ{a b} h=>?_;have:cI a b≠0:=λe=>h.2 (cI_eq.1 e);have:=h.1;omega
theorem c71 (z:List It) (cols:List Int) (kind col:Int) (hg:Good z) (hl:z.length<=300000) (hc:cols.length<1073741824) :
 Spec0 Tryz.prog 125 [setA z,intsL cols,iA kind,iA col] (λr=>∃(out:List It) (err:Int),r=.tu [setA out,iA err]/\RGroup z cols kind col out err):=by
 have hgr:=good_r hg;have hr62:∀t∈z,t.row.length<1073741824:=λt ht=>by have:=hgr t ht;omega
 refine spec0_of_vc tabOk elems ord125 Tryz.func125 rfl (rl:=[.tmp 8,.tmp 9]) rfl (by kernel_rfl) rfl ?_;have bad:∀(e:Int) (s:St),0∉s.used->s.regs 8=.nl->s.regs 9=.pr (.int .i64 e)->RGroup z cols kind col [] e->GOES (λst=>hRes T st [.tmp 8,.tmp 9] λv=>v.noId=true/\∃(out:List It) (err:Int),v=.tu [setA out,iA err]/\RGroup z cols kind col out err) s:=by
  intro e s hu h8 h9 hj;refine TO [] [(8,setA []),(9,iA e)] [] [] rfl ?_ ?_
  ·refine Cv ?_;exact ⟨λh=>absurd h hu,rfl⟩
  refine Aa ?_;exact ⟨rfl,[],e,rfl,hj⟩
 refine A8 ?_;refine .pure _ (show Spec0 Tryz.prog 102 [iA kind,iA 1,iA 4] _ from s53 kind 1 4) rfl λq hq _=>?_;subst hq;refine Ay ?_;refine VIF.split (λh=>?_) (λh=>?_)
 ·have h:¬(1<=kind/\kind<=4):=by simp[inB] at h;omega
  refine Aw ?_;exact bad 1 _ (by simp) rfl rfl (.inl ⟨h,rfl,rfl⟩)
 have hk:1<=kind/\kind<=4:=by simpa [inB] using h
 refine Aa ?_;refine VIF.split (λh=>?_) (λh=>?_)
 ·have h:12<=cols.length:=by simp at h;omega
  refine Aw ?_;exact bad 2 _ (by simp) rfl rfl (.inr (.inl ⟨hk,h,rfl,rfl⟩))
 have hc12:cols.length<12:=by simp at h;omega
 refine Aa ?_
 refine LOOP.mk (ι:={i:Nat//i<=z.length/\∀j (h:j<z.length),j<i->pickE z[j].row cols=0/\(kind≠1->inC col z[j].row.length=true)}) (λp=>mkS [(0,setA z),(1,intsL cols),(2,iA kind),(3,iA col),(10,iA p.1)] [] [])
  (λp=>z.length-p.1) ⟨0,Nat.zero_le _,λj _ h=>absurd h (Nat.not_lt_zero _)⟩ [] rfl rfl ?_ (λp=>?_)
 ·refine A8 ?_;exact ⟨id,rfl⟩
 obtain ⟨i,hi,hz⟩:=p;refine A8 ?_;refine VIF.split (λh=>?_) (λh=>?_)
 ·have h:i<z.length:=(by simpa using h);have hm:=List.getElem_mem h;have w1:=wrap_add1 (show i<4611686018427387904 by omega);have hrl:=hgr _ hm;have w2:IntKind.i64.wrap ((z[i].row.length:Int)-1)=(z[i].row.length:Int)-1:=by rw[wrap_i64]<;>omega
  have isbad:¬(pickE z[i].row cols=0/\(kind≠1->inC col z[i].row.length=true))->RGroup z cols kind col [] 1:=λhb=>.inr (.inr (.inl ⟨hk,hc12,λg=>hb (g _ hm),rfl,rfl⟩));refine Aa ?_;refine EL.map h ?_;refine Ax ?_;refine .pure _ (show Spec0 Tryz.prog 172 [rowA z[i].row,intsL cols] _ from c97 z[i].row cols (by omega) hc) rfl λq hq _=>?_;obtain ⟨po,pe,rfl,hpe,_⟩:=hq;refine A9 ?_;refine VIF.split (λh2=>?_) (λh2=>?_)
  ·have h2:pe≠0:=(by simpa using h2);have h3:pe=1:=by
    rw[hpe] at h2 ⊢;simp only[pickE] at h2 ⊢;split
    ·rfl
    ·rename_i h4;rw[if_neg h4,if_neg (by omega)] at h2;exact absurd rfl h2
   subst h3;refine Aw ?_;exact bad 1 _ (by simp) rfl rfl (isbad λg=>by rw[<- hpe] at g;exact absurd g.1 (by decide))
  have h2:pe=0:=(by simpa using h2);rw[h2] at hpe;refine Aa ?_;refine VIF.split (λh3=>?_) (λh3=>?_)
  ·have h3:kind≠1:=(by simpa using h3);refine Aa ?_;refine EL.map h ?_;(simp -implicitDefEqProofs only[go_sem,It.c,iA,rowA,w2];repeat (refine GO ?_;simp -implicitDefEqProofs only[go_sem,It.c,iA,rowA,w2]));refine .pure _ (show Spec0 Tryz.prog 102 [iA col,iA 0,iA ((z[i].row.length:Int)-1)] _ from s53 col 0 ((z[i].row.length:Int)-1)) rfl λq hq _=>?_;subst hq;refine Ay ?_;refine VIF.split (λh4=>?_) (λh4=>?_)
   ·have h4:inC col z[i].row.length=false:=by simp[inB] at h4;simp[inC];omega
    refine Aw ?_;exact bad 1 _ (by simp) rfl rfl (isbad λg=>by rw[g.2 h3] at h4;cases h4)
   ·have h4:inC col z[i].row.length=true:=by simp[inB] at h4;simp[inC];omega
    refine Af ?_;refine BACK.mk ⟨i+1,by omega,λj hj hji=>if e:j=i then (by subst e;exact ⟨hpe.symm,λ_=>h4⟩) else hz j hj (by omega)⟩ [] rfl rfl (by show z.length-(i+1)<z.length-i;omega) ?_;refine Ci ?_;exact id
  ·have h3:kind=1:=(by simpa using h3);refine Af ?_;refine BACK.mk ⟨i+1,by omega,λj hj hji=>if e:j=i then (by subst e;exact ⟨hpe.symm,λh=>absurd h3 h⟩) else hz j hj (by omega)⟩ [] rfl rfl (by show z.length-(i+1)<z.length-i;omega) ?_;refine Ci ?_;exact id
 have h:i=z.length:=by simp at h;omega
 subst h;have hasks:Asks z cols kind col:=λt ht=>by obtain ⟨j,hj,rfl⟩:=List.mem_iff_getElem.1 ht;exact hz j hj hj
 have hnz:∀t∈z,t.w≠0:=λt ht=>((good_made.1 hg).1.nz t ht).1;refine Aa ?_
 refine LOOP.mk (ι:={i:Nat//i<=z.length}) (λi=>mkS [(0,setA z),(1,intsL cols),(2,iA kind),(3,iA col),(13,.rf 1000 0 (kL cols z i.1).length),(14,iA i.1)] [(1000,so (kL cols z i.1))] [1000])
  (λp=>z.length-p.1) ⟨0,Nat.zero_le _⟩ [(1000,none)] rfl rfl ?_ (λp=>?_)
 ·refine Bs ?_;exact ⟨id,⟨rfl,rfl⟩,rfl⟩
 obtain ⟨i,hi⟩:=p;have hkl:=kL_len (cols:=cols) (z:=z) i;refine Bs ?_;refine VIF.split (λh=>?_) (λh=>?_)
 ·have h:i<z.length:=(by simpa using h);have hm:=List.getElem_mem h;have w1:=wrap_add1 (show i<4611686018427387904 by omega);have hrl:=hgr _ hm;have hst:=kL_step (cols:=cols) h;refine Aa ?_;refine EL.map h ?_;refine A5 ?_;refine VIF.split (λh2=>?_) (λh2=>?_)
  ·have h2:0<z[i].w:=(by simpa using h2);rw[show posI z[i]=true by simp[posI,h2],if_pos rfl] at hst;refine Aa ?_;refine EL.map h ?_;refine Ax ?_;refine .pure _ (show Spec0 Tryz.prog 172 [rowA z[i].row,intsL cols] _ from c97 z[i].row cols (by omega) hc) rfl λq hq _=>?_;obtain ⟨po,pe,rfl,hpe,hpo,_⟩:=hq;rw[(hasks _ hm).1] at hpe;have hpo:=hpo hpe;subst hpo;refine Dm ?_;refine ⟨by omega,?_⟩;refine Dm ?_;refine BACK.mk ⟨i+1,by omega⟩ [(1000,some 89)] rfl rfl (by show z.length-(i+1)<z.length-i;omega) ?_;refine Ec ?_;exact ⟨id,by simp,so_snoc (t:=⟨pickR z[i].row cols,(i:Int)⟩) rfl⟩
  ·have h2:¬0<z[i].w:=(by simpa using h2);rw[show posI z[i]=false by simp[posI];omega,if_neg (by decide),List.append_nil] at hst;refine Af ?_;refine BACK.mk ⟨i+1,by omega⟩ [(1000,some 1000)] rfl rfl (by show z.length-(i+1)<z.length-i;omega) ?_;refine Ec ?_;exact ⟨id,.same (so (kL cols z i)) _ _ (so_leafy _) rfl⟩
 have h:i=z.length:=by simp at h;omega
 subst h;refine Aw ?_;refine FRZ 1000 (so (kL cols z z.length)) rfl (so_leafy _) ?_;have hkl:=kL_len (cols:=cols) (z:=z) z.length;have hkr:∀t∈kL cols z z.length,t.row.length<4611686018427387904:=λt ht=>by obtain ⟨i,_,rfl,_⟩:=kL_mem ht;simp[pickR];omega
 refine Bm ?_;refine .pure _ (show Spec0 Tryz.prog 170 [setA (kL cols z z.length)] _ from st54 _ _ (Nat.le_refl _) (by omega) hkr) rfl λq hq _=>?_;obtain ⟨y,rfl,hp,hsr,hst⟩:=hq;obtain ⟨gs,hgs⟩:=gpi_ex cols z;obtain ⟨off,ru⟩:=runs hnz hgs hp hsr hst;have hyl:y.length<=300000:=by rw[hp.length_eq];omega
 have hyr:∀t∈y,t.row.length<4611686018427387904:=λt ht=>hkr t (hp.mem_iff.1 ht);have hgl:gs.length<=y.length:=by
  have h:∀m,m<=gs.length->m<=off m:=by
   intro m
   induction m with
   | zero=>intro _;omega
   | succ m ih=>
     intro hm;have h1:=ih (by omega);have h2:=ru.step m (by omega);have h3:=List.length_pos_iff.2 (hgs.some _ (List.getElem_mem (show m<gs.length by omega)));omega
  have:=h gs.length (Nat.le_refl _);have:=ru.full;omega
 refine Ad ?_
 refine LOOP.mk (ι:={m:Nat//m<=gs.length/\∀j (h:j<gs.length),j<m->gval kind col gs[j]≠none}) (λm=>mkS [(0,setA z),(2,iA kind),(3,iA col),(13,setA y),(17,.rf 1000 0 m.1),(18,iA (off m.1))] [(1000,so ((gs.take m.1).map (gItem kind col)))] [1000])
  (λm=>gs.length-m.1) ⟨0,Nat.zero_le _,λj _ h=>absurd h (Nat.not_lt_zero _)⟩ [(1000,none)] rfl rfl ?_ (λm=>?_)
 ·(simp -implicitDefEqProofs only[go_sem,iA,ru.zero,setA,so];repeat (refine GO ?_;simp -implicitDefEqProofs only[go_sem,iA,ru.zero,setA,so]));exact ⟨id,rfl,rfl⟩
 obtain ⟨m,hm,hv⟩:=m;have hol:=ru.le m hm;refine Br ?_;refine VIF.split (λh=>?_) (λh=>?_)
 ·have h:off m<y.length:=(by simpa using h);have hmg:m<gs.length:=by
   rcases Nat.lt_or_ge m gs.length with h1|h1
   ·exact h1
   ·have:m=gs.length:=(by omega);rw[this,ru.full] at h;omega
  have hgm:=List.getElem_mem hmg;have hne:=List.length_pos_iff.2 (hgs.some _ hgm);have hstep:=ru.step m hmg;have hol2:=ru.le (m+1) (by omega);obtain ⟨q0,q1,_⟩:=ru.at_ m hmg 0 hne;have q1:y[off m].row=gs[m].at_:=q1;refine Aa ?_;refine LOOP.join (ι:=Unit) (λ_=>mkS [(0,setA z),(2,iA kind),(3,iA col),(13,setA y),(17,.rf 1000 0 m),(18,iA (off m)),(19,iA (off m+gs[m].items.length:Nat)),(20,.rf 1001 0 gs[m].items.length)] [(1000,so ((gs.take m).map (gItem kind col))),(1001,so gs[m].items)] [1000,1001]) ?_ (λ_=>?_)
  ·refine LOOP.mk (ι:={i:Nat//i<=gs[m].items.length}) (λi=>mkS [(0,setA z),(2,iA kind),(3,iA col),(13,setA y),(17,.rf 1000 0 m),(18,iA (off m)),(19,iA (off m+i.1:Nat)),(20,.rf 1001 0 i.1)] [(1000,so ((gs.take m).map (gItem kind col))),(1001,so (gs[m].items.take i.1))] [1000,1001])
    (λi=>gs[m].items.length-i.1) ⟨0,Nat.zero_le _⟩ [(1000,some 1000),(1001,none)] rfl rfl ?_ (λi=>?_)
   ·refine Br ?_;exact ⟨id,.same (so ((gs.take m).map (gItem kind col))) _ _ (so_leafy _) rfl,rfl⟩
   obtain ⟨i,hi⟩:=i;have hlt:i<gs[m].items.length\/i=gs[m].items.length:=(by omega);refine Br ?_;refine VIF.split (λh1=>?_) (λh1=>?_)
   ·have h1:off m+i<y.length:=by simp at h1;omega
    refine Aa ?_;refine EL.map h1 ?_;refine A5 ?_;refine EL.map h ?_;refine A5 ?_;refine .pure _ (s55 y[off m+i].row y[off m].row (hyr _ (List.getElem_mem h1)) (hyr _ (List.getElem_mem h))) rfl λq hq _=>?_;subst hq;refine Ab ?_;refine VIF.split (λh2=>?_) (λh2=>?_)
    ·have h2:cmpR y[off m+i].row y[off m].row=0:=(by simpa using h2);have hii:i<gs[m].items.length:=by
      rcases hlt with h3|h3
      ·exact h3
      ·exfalso;subst h3;have h4:=lin_cmpR.eq _ _ h2;rw[q1] at h4;have h5:off (m+1)<y.length:=(by omega);refine ru.stop m hmg h5 ?_;rw[<- h4];congr 2
     obtain ⟨p0,p1,p2,p3,p4⟩:=ru.at_ m hmg i hii;have w3:=wrap_add1 (show off m+i<4611686018427387904 by omega);refine Aa ?_;refine EL.map h1 ?_;refine A5 ?_;refine ⟨p2,EL.map p3 ?_⟩;rw[p4];refine A5 ?_
     refine ⟨by have:(List.take i gs[m].items).length<=i:=by rw[List.length_take];omega
                omega,?_⟩
     refine Bg ?_;refine BACK.mk ⟨i+1,by omega⟩ [(1000,some 1000),(1001,some 125)] rfl rfl (by show gs[m].items.length-(i+1)<gs[m].items.length-i;omega) ?_;have ht:List.take (i+1) gs[m].items=List.take i gs[m].items++[gs[m].items[i]]:=List.take_succ_eq_append_getElem hii;(simp -implicitDefEqProofs only[go_sem,ht,iA,setA,so,w3];repeat (refine GO ?_;simp -implicitDefEqProofs only[go_sem,ht,iA,setA,so,w3]));refine ⟨id,rfl,.same (so ((gs.take m).map (gItem kind col))) _ _ (so_leafy _) rfl,?_⟩;have tk:List.take i (List.map It.c (List.take i gs[m].items))=List.map It.c (List.take i gs[m].items):=List.take_of_length_le (by rw[List.length_map,List.length_take];omega);rw[tk];exact so_snoc (t:=gs[m].items[i]) rfl
    ·have h2:cmpR y[off m+i].row y[off m].row≠0:=(by simpa using h2);have hii:i=gs[m].items.length:=by
      rcases hlt with h3|h3
      ·exfalso;obtain ⟨p0,p1,_⟩:=ru.at_ m hmg i h3;rw[p1,q1,cmpR_self] at h2;exact h2 rfl
      ·exact h3
     subst hii;refine Aa ?_;refine JB.mk () [(1000,some 1000),(1001,some 1001)] rfl rfl ?_;refine Ea ?_;exact ⟨id,.same (so ((gs.take m).map (gItem kind col))) _ _ (so_leafy _) rfl,.same (so gs[m].items) _ _ (so_leafy _) rfl⟩
   ·have h1:off m+i=y.length:=by simp at h1;omega
    have hii:i=gs[m].items.length:=by
     rcases hlt with h3|h3
     ·exfalso;obtain ⟨p0,_⟩:=ru.at_ m hmg i h3;omega
     ·exact h3
    subst hii;refine Aa ?_;refine JB.mk () [(1000,some 1000),(1001,some 1001)] rfl rfl ?_;refine Ea ?_;exact ⟨id,.same (so ((gs.take m).map (gItem kind col))) _ _ (so_leafy _) rfl,.same (so gs[m].items) _ _ (so_leafy _) rfl⟩
  ·simp -implicitDefEqProofs only[go_sem,iA,setA,so];refine FRZ 1001 (so gs[m].items) rfl (so_leafy _) ?_;refine Br ?_;have hgi:∀t∈gs[m].items,t∈z:=λt ht=>by rw[hgs.items _ hgm,List.mem_filter] at ht;exact ht.1
   have hil:gs[m].items.length<=z.length:=by rw[hgs.items _ hgm];exact List.length_filter_le _ _
   refine .pure _ (show Spec0 Tryz.prog 174 [setA gs[m].items,iA kind,iA col] _ from c113 gs[m].items kind col hk (by omega) (λt ht=>good_w hg (hgi t ht)) (λt ht=>okR_bound ((good_made.1 hg).2 t (hgi t ht))) (λh t ht=>(hasks t (hgi t ht)).2 h) gs[m].at_) rfl λq hq _=>?_;subst hq;rw[show (⟨gs[m].at_,gs[m].items⟩:Gp)=gs[m] from rfl];have hal:=hgs.atlen _ hgm;refine Bh ?_;refine ⟨⟨rfl,Nat.le_refl 3⟩,?_⟩;refine VIF.split (λh2=>?_) (λh2=>?_)
   ·have h2:gval kind col gs[m]=none:=(by simpa using h2);refine Aw ?_;exact bad 11 _ (by simp) rfl rfl (.inr (.inr (.inr ⟨hk,hc12,hasks,gs,hgs,.inl ⟨⟨_,hgm,h2⟩,rfl,rfl⟩⟩)))
   have h2:(gval kind col gs[m]).isSome=true:=(by simpa using h2);obtain ⟨v,hgv⟩:=Option.isSome_iff_exists.1 h2;rw[hgv];simp -implicitDefEqProofs only[go_sem,Option.getD_some];refine TO [(1000,some 1000)] [(0,setA z),(2,iA kind),(3,iA col),(13,setA y),(17,.rf 1000 0 m),(18,iA (off m)),(19,iA (off m+gs[m].items.length:Nat)),(21,.ro v.c 0)] [(1000,so ((gs.take m).map (gItem kind col)))] [1000] rfl ?_ ?_
   ·refine Ew ?_;exact ⟨id,⟨by decide,_,rfl,leaf_box v,rfl⟩,.same (so ((gs.take m).map (gItem kind col))) _ _ (so_leafy _) rfl⟩
   refine Ew ?_;refine EL.map h ?_;have hyl2:=hyr _ (List.getElem_mem h);(simp -implicitDefEqProofs only[go_sem,It.c,V.c,q1,rowA];repeat (refine GO ?_;simp -implicitDefEqProofs only[go_sem,It.c,V.c,q1,rowA]));have s45':Spec1 Tryz.prog 85 [.im 3 (gs[m].at_.map V.c)] _:=s52 gs[m].at_ (by omega);refine ⟨.make 143 _ s45' rfl (by simp) rfl λq o hq _=>?_,.make 143 _ s45' rfl (by simp) rfl λq o hq _=>?_⟩;all_goals obtain ⟨rfl,rfl⟩:=hq
   all_goals (simp -implicitDefEqProofs only[go_sem,V.c,iA,ro3,so];repeat (refine GO ?_;simp -implicitDefEqProofs only[go_sem,V.c,iA,ro3,so]))
   all_goals refine ⟨by omega,by omega,?_⟩
   all_goals refine BACK.mk ⟨m+1,by omega,λj hj hji=>if e:j=m then (by subst e;rw[hgv];simp) else hv j hj (by omega)⟩ [(1000,some 149)] rfl rfl (by show gs.length-(m+1)<gs.length-m;omega) ?_
   all_goals (simp -implicitDefEqProofs only[go_sem,setA,iA,so,hstep];repeat (refine GO ?_;simp -implicitDefEqProofs only[go_sem,setA,iA,so,hstep]))
   all_goals
    refine ⟨id,?_⟩;rw[List.take_succ_eq_append_getElem hmg,List.map_append,List.map_append,List.map_cons,List.map_nil,List.map_cons,List.map_nil,List.take_of_length_le (l:=List.map It.c (List.map (gItem kind col) (List.take m gs))) (by simp;omega)];refine Es_snoc (l:=List.map It.c (List.map (gItem kind col) (List.take m gs))) (λx hx a ha=>so_leafy ((gs.take m).map (gItem kind col)) x hx a ha) ?_;refine Bv ?_;exact ⟨by decide,ro3 (gs[m].at_++[v]),by rw[ro3,List.map_append];rfl,ro3_leafy _,rfl,List.take_of_length_le (by simp[ro3])⟩
 ·have h:off m=y.length:=by simp at h;omega
  have hmg:m=gs.length:=by
   rcases Nat.lt_or_ge m gs.length with h1|h1
   ·obtain ⟨q0,_⟩:=ru.at_ m h1 0 (List.length_pos_iff.2 (hgs.some _ (List.getElem_mem h1)));omega
   ·omega
  subst hmg;rw[List.take_length];refine Aw ?_;refine FRZ 1000 (so (gs.map (gItem kind col))) rfl (so_leafy _) ?_;have tk:List.take gs.length (List.map It.c (List.map (gItem kind col) gs))=List.map It.c (List.map (gItem kind col) gs):=List.take_of_length_le (by simp);refine Dv ?_;have ho:∀t∈gs.map (gItem kind col),t.row.length<4611686018427387904:=λt ht=>by obtain ⟨g,hgm,rfl⟩:=List.mem_map.1 ht;have:=hgs.atlen g hgm;simp[gItem];omega
  refine .pure _ (show Spec0 Tryz.prog 170 [setA (gs.map (gItem kind col))] _ from st54 _ _ (Nat.le_refl _) (by simp;omega) ho) rfl λq hq _=>?_;obtain ⟨y2,rfl,hp2,hs2,_⟩:=hq;have e2:=srt_made (gmap_made hgs) hp2 hs2;subst e2;refine Ao ?_;exact ⟨rfl,_,0,rfl,.inr (.inr (.inr ⟨hk,hc12,hasks,gs,hgs,.inr ⟨λg hgm=>by
   obtain ⟨j,hj,rfl⟩:=List.mem_iff_getElem.1 hgm;exact hv j hj hj,rfl,rfl⟩⟩))⟩
end Yt
namespace Go.Vc
theorem Es.app {st:St} {m:List (Nat×Option Nat)} {l1 l1' l2 l2':List (List AV)} (h:Es st m l1 l1') (h2:Es st m l2 l2'):Es st m (l1++l2) (l1'++l2'):=by
 obtain ⟨e1,e2⟩:=h.get;obtain ⟨e3,e4⟩:=h2.get;refine Es_all (by simp[e1,e3]) λi q1 q2=>?_;by_cases hi:i<l1'.length
 ·obtain ⟨cs,h3,h4⟩:=e2 i l1'[i] (List.getElem?_eq_getElem hi);obtain ⟨h5,h6⟩:=List.getElem?_eq_some_iff.1 h3;rw[List.getElem_append_left h5,List.getElem_append_left hi,h6];exact h4
 ·have hi1:¬i<l1.length:=(by omega);rw[List.getElem_append_right (by omega),List.getElem_append_right (by omega)];have hlt:i-l1'.length<l2'.length:=by rw[List.length_append] at q2;omega
  obtain ⟨cs,h3,h4⟩:=e4 (i-l1'.length) _ (List.getElem?_eq_getElem hlt);obtain ⟨h5,h6⟩:=List.getElem?_eq_some_iff.1 h3;have e:i-l1.length=i-l1'.length:=(by omega);simp only[e,h6];exact h4
theorem nms_append {m m':List (Nat×Option Nat)} {x:Nat}:nms (m++m') x=(match nms m x with|none=>nms m' x|some y=>some y):=by
 induction m with
 | nil=>rfl
 | cons p r ih=>
   obtain ⟨a,b⟩:=p;simp only[List.cons_append,nms];split
   ·rfl
   ·exact ih
theorem olds_append {m m':List (Nat×Option Nat)}:olds (m++m')=olds m++olds m':=by
 induction m with
 | nil=>rfl
 | cons p r ih=>
   obtain ⟨a,b⟩:=p;cases b with
   | none=>simpa [olds] using ih
   | some b=>simpa [olds] using ih
end Go.Vc
namespace Yt
open Go Go.Vc Go.Proofs
def famC (b:Nat) (z:List It):List (List AV):=z.zipIdx.map λp=>[.rf (b+(p.2+1)) 0 p.1.row.length,iA p.1.w]
def famL (b:Nat) (z:List It):List (Nat×Ob):=z.zipIdx.map λp=>(b+(p.2+1),ro3 p.1.row)
def famN (b n:Nat):List Nat:=(List.range n).map λi=>b+(i+1)
def famM (b n:Nat) (ν:Nat->Nat):List (Nat×Option Nat):=(List.range n).map λi=>(b+(i+1),some (ν i))
theorem famC_len (b:Nat) (z:List It):(famC b z).length=z.length:=by simp[famC]
theorem famC_get {b:Nat} {z:List It} {i:Nat} (h:i<z.length) (h2:i<(famC b z).length):(famC b z)[i]=[.rf (b+(i+1)) 0 z[i].row.length,iA z[i].w]:=by simp[famC]
theorem famN_mem {b n x:Nat}:x∈famN b n ↔ ∃i,i<n/\x=b+(i+1):=by simp[famN,eq_comm]
theorem famM_nms {b n:Nat} {ν:Nat->Nat} {i:Nat} (h:i<n):nms (famM b n ν) (b+(i+1))=some (some (ν i)):=by
 have key:∀(l:List Nat),i∈l->nms (l.map λi=>(b+(i+1),some (ν i))) (b+(i+1))=some (some (ν i)):=by
  intro l
  induction l with
  | nil=>intro h;cases h
  | cons x r ih=>
    intro hm;simp only[List.map_cons,nms];split
    ·rename_i e;have:x=i:=(by omega);rw[this]
    ·rename_i e;rcases List.mem_cons.1 hm with rfl|hm
     ·exact absurd rfl e
     ·exact ih hm
 exact key _ (List.mem_range.2 h)
theorem famM_none {b n:Nat} {ν:Nat->Nat} {x:Nat} (h:x<=b\/b+n<x):nms (famM b n ν) x=none:=by
 have key:∀(l:List Nat),(∀i∈l,i<n)->nms (l.map λi=>(b+(i+1),some (ν i))) x=none:=by
  intro l
  induction l with
  | nil=>intro _;rfl
  | cons y r ih=>
    intro hm;simp only[List.map_cons,nms];have:=hm y (by simp);rw[if_neg (by omega)];exact ih λi hi=>hm i (by simp[hi])
 exact key _ λi hi=>List.mem_range.1 hi
theorem famM_olds {b n:Nat} {ν:Nat->Nat}:olds (famM b n ν)=(List.range n).map ν:=by
 have key:∀(l:List Nat),olds (l.map λi=>(b+(i+1),some (ν i)))=l.map ν:=by
  intro l
  induction l with
  | nil=>rfl
  | cons y r ih=>simp only[List.map_cons,olds,ih]
 exact key _
theorem famL_get {b:Nat} {z:List It} {i:Nat} (h:i<z.length):mkO (famL b z) (b+(i+1))=some (ro3 z[i].row):=by
 have key:∀(l:List It) (k:Nat),k<=i->(h:i-k<l.length)->mkO ((l.zipIdx k).map λp=>(b+(p.2+1),ro3 p.1.row)) (b+(i+1))=some (ro3 (l[i-k]).row):=by
  intro l
  induction l with
  | nil=>intro k _ h;simp at h
  | cons t r ih=>
    intro k hk h;simp only[List.zipIdx_cons,List.map_cons,mkO,upd];by_cases e:k=i
    ·subst e;simp
    ·rw[if_neg (by omega),ih (k+1) (by omega) (by simp at h;omega)];have:i-k=(i-(k+1))+1:=(by omega);simp[this]
 have:=key z 0 (Nat.zero_le _) (by simpa using h);simpa [famL] using this
theorem famL_none {b:Nat} {z:List It} {x:Nat} (h:x<=b\/b+z.length<x):mkO (famL b z) x=none:=by
 have key:∀(l:List It) (k:Nat),k+l.length<=z.length->mkO ((l.zipIdx k).map λp=>(b+(p.2+1),ro3 p.1.row)) x=none:=by
  intro l
  induction l with
  | nil=>intro _ _;rfl
  | cons t r ih=>
    intro k hk;simp only[List.length_cons] at hk;simp only[List.zipIdx_cons,List.map_cons,mkO,upd];rw[if_neg (by omega)];exact ih (k+1) (by omega)
 exact key z 0 (by omega)
def famS (b:Nat) (z:List It):List (Nat×Ob):=(b,⟨2,famC b z⟩)::famL b z
def famF (z:List It):Nat->Option Ob:=mkO (famS 0 z)
theorem famS_0 (b:Nat) (z:List It):mkO (famS b z) b=some ⟨2,famC b z⟩:=by simp[famS,mkO,upd]
theorem famS_row {b:Nat} {z:List It} {i:Nat} (h:i<z.length):mkO (famS b z) (b+(i+1))=some (ro3 z[i].row):=by simp only[famS,mkO,upd];rw[if_neg (by omega)];exact famL_get h
theorem famS_none {b:Nat} {z:List It} {x:Nat} (h:x<b\/b+z.length<x):mkO (famS b z) x=none:=by simp only[famS,mkO,upd];rw[if_neg (by omega)];exact famL_none (by omega)
theorem famS_cases {b:Nat} {z:List It} {x:Nat} {o:Ob} (h:mkO (famS b z) x=some o):(x=b/\o=⟨2,famC b z⟩)\/∃i,∃hi:i<z.length,x=b+(i+1)/\o=ro3 z[i].row:=by
 by_cases e:x=b
 ·subst e;rw[famS_0] at h;cases h;exact .inl ⟨rfl,rfl⟩
 ·by_cases e2:x<b\/b+z.length<x
  ·rw[famS_none e2] at h;cases h
  ·obtain ⟨i,rfl⟩:∃i,x=b+(i+1):=⟨x-b-1,by omega⟩;have hi:i<z.length:=(by omega);rw[famS_row hi] at h;cases h;exact .inr ⟨i,hi,rfl,rfl⟩
theorem ro3_rn (ρ:Nat->Nat) (r:List V):(ro3 r).rn ρ=ro3 r:=by simp only[ro3,Ob.rn,List.map_map];congr 1
theorem famC_rn (ρ:Nat->Nat) (b:Nat) (z:List It) (h:∀i,i<z.length->ρ (i+1)=b+(i+1)):(famC 0 z).map (rns ρ)=famC b z:=by
 refine List.ext_getElem (by simp[famC_len]) λi q1 q2=>?_;have hi:i<z.length:=by simpa [famC_len] using q1
 rw[List.getElem_map,famC_get hi,famC_get hi];simp only[rns,AV.rn,Nat.zero_add,h i hi];rfl
theorem famF_rn (b:Nat) (z:List It) (n:Nat):(famF z n).map (Ob.rn λi=>b+i)=mkO (famS b z) (b+n):=by
 cases hn:famF z n with
 | none=>
   have:¬n<=z.length:=λh=>by
    cases n with
    | zero=>rw[famF,famS_0] at hn;cases hn
    | succ i=>
      have:=famS_row (b:=0) (z:=z) (i:=i) (by omega);rw[Nat.zero_add] at this;rw[famF,this] at hn;cases hn
   rw[famS_none (by omega)];rfl
 | some o=>
   rcases famS_cases hn with ⟨rfl,rfl⟩|⟨i,hi,rfl,rfl⟩
   ·rw[Nat.add_zero,famS_0];simp only[Option.map_some,Ob.rn];rw[famC_rn _ b z λi _=>rfl]
   ·rw[Nat.zero_add,famS_row hi,Option.map_some,ro3_rn]
def SpecF (P:Program) (f:Nat) (args:List AV) (R:AV->List It->Prop):Prop:=FunSpecD P f args noOb noOb [] λr O'=>∃z,(R r z/\r.only0=true)/\O'=famF z
def famO (b:Nat) (z:List It) (objs:Nat->Option Ob) (n:Nat):Option Ob:=if b<=n then mkO (famS b z) n else objs n
@[go_sem] theorem famO_lo {b:Nat} {z:List It} {objs:Nat->Option Ob} {n:Nat} (h:(b<=n)=False):famO b z objs n=objs n:=by simp[famO,h]
@[go_sem] theorem famO_0 {b:Nat} {z:List It} {objs:Nat->Option Ob}:famO b z objs b=some ⟨2,famC b z⟩:=by simp[famO,famS_0]
theorem famO_row {b:Nat} {z:List It} {objs:Nat->Option Ob} {i:Nat} (h:i<z.length):famO b z objs (b+(i+1))=some (ro3 z[i].row):=by rw[famO,if_pos (by omega),famS_row h]
def famU (b n:Nat):List Nat:=(List.range (n+1)).map λi=>b+i
@[go_sem] theorem famU_lo {b n x:Nat} (h:(b<=x)=False):(x∈famU b n)=False:=by simp only[famU,List.mem_map,List.mem_range,eq_iff_iff,iff_false];rintro ⟨i,_,rfl⟩;have:b<=b+i:=Nat.le_add_right _ _;rw[h] at this;exact this
mutual
theorem only0_in:∀(v:AV),v.only0=true->v.inN (λi=>i=0)
 | .un,_=>trivial
 | .pr v,_=>trivial
 | .nl,_=>trivial
 | .im a b,_=>trivial
 | .rf a b c,h=>by simp only[AV.inN];simpa [AV.only0] using h
 | .pt a b c,h=>by simp only[AV.inN];simpa [AV.only0] using h
 | .ro a b,_=>trivial
 | .ag cs,h=>by simp only[AV.inN];exact only0s_in cs (by simpa [AV.only0] using h)
 | .tu cs,h=>by simp only[AV.inN];exact only0s_in cs (by simpa [AV.only0] using h)
 | .fn f cs,h=>by simp only[AV.inN];exact only0s_in cs (by simpa [AV.only0] using h)
theorem only0s_in:∀(l:List AV),only0s l=true->inNs (λi=>i=0) l
 | [],_=>trivial
 | x::r,h=>by
   simp only[only0s,Bool.and_eq_true] at h;exact ⟨only0_in x h.1,only0s_in r h.2⟩
end
mutual
theorem inN_mono {p q:Nat->Prop} (hpq:∀i,p i->q i):∀(v:AV),v.inN p->v.inN q
 | .un,_=>trivial
 | .pr v,_=>trivial
 | .nl,_=>trivial
 | .im a b,_=>trivial
 | .rf a b c,h=>hpq _ h
 | .pt a b c,h=>hpq _ h
 | .ro a b,_=>trivial
 | .ag cs,h=>inNs_mono hpq cs h
 | .tu cs,h=>inNs_mono hpq cs h
 | .fn f cs,h=>inNs_mono hpq cs h
theorem inNs_mono {p q:Nat->Prop} (hpq:∀i,p i->q i):∀(l:List AV),inNs p l->inNs q l
 | [],_=>trivial
 | x::r,h=>⟨inN_mono hpq x h.1,inNs_mono hpq r h.2⟩
end
mutual
theorem noId_rn {ρ:Nat->Nat} {p:Nat->Prop}:∀(v:AV),v.noId=true->v.rn ρ=v/\v.inN p
 | .un,_=>⟨rfl,trivial⟩
 | .pr v,_=>⟨rfl,trivial⟩
 | .nl,_=>⟨rfl,trivial⟩
 | .im a b,_=>⟨rfl,trivial⟩
 | .rf a b c,h=>by simp[AV.noId] at h
 | .pt a b c,h=>by simp[AV.noId] at h
 | .ro a b,_=>⟨rfl,trivial⟩
 | .ag cs,h=>by
   obtain ⟨h1,h2⟩:=noIds_rn (ρ:=ρ) (p:=p) cs (by simpa [AV.noId] using h);exact ⟨by simp only[AV.rn,h1],h2⟩
 | .tu cs,h=>by
   obtain ⟨h1,h2⟩:=noIds_rn (ρ:=ρ) (p:=p) cs (by simpa [AV.noId] using h);exact ⟨by simp only[AV.rn,h1],h2⟩
 | .fn f cs,h=>by
   obtain ⟨h1,h2⟩:=noIds_rn (ρ:=ρ) (p:=p) cs (by simpa [AV.noId] using h);exact ⟨by simp only[AV.rn,h1],h2⟩
theorem noIds_rn {ρ:Nat->Nat} {p:Nat->Prop}:∀(l:List AV),noIds l=true->rns ρ l=l/\inNs p l
 | [],_=>⟨rfl,trivial⟩
 | x::r,h=>by
   simp only[noIds,Bool.and_eq_true] at h;obtain ⟨h1,h2⟩:=noId_rn (ρ:=ρ) (p:=p) x h.1;obtain ⟨h3,h4⟩:=noIds_rn (ρ:=ρ) (p:=p) r h.2;exact ⟨by simp only[rns,h1,h3],h2,h4⟩
end
theorem famU_mem {b n x:Nat}:x∈famU b n ↔ b<=x/\x<=b+n:=by
 simp only[famU,List.mem_map,List.mem_range];constructor
 ·rintro ⟨i,hi,rfl⟩;omega
 ·intro h;exact ⟨x-b,by omega,by omega⟩
theorem famF_closed {z:List It} {i:Nat} {o:Ob} (h:famF z i=some o):i∈famU 0 z.length/\∀x∈o.es,inNs (·∈famU 0 z.length) x:=by
 rcases famS_cases h with ⟨rfl,rfl⟩|⟨i,hi,rfl,rfl⟩
 ·refine ⟨famU_mem.2 (by omega),λx hx=>?_⟩;obtain ⟨j,hj,rfl⟩:=List.mem_iff_getElem.1 hx;have hj':j<z.length:=(by simpa [famC_len] using hj);rw[famC_get hj'];exact ⟨famU_mem.2 (by omega),trivial,trivial⟩
 ·refine ⟨famU_mem.2 (by omega),λx hx=>?_⟩;obtain ⟨v,_,rfl⟩:=List.mem_map.1 hx;exact ⟨trivial,trivial,trivial,trivial⟩
theorem kept_false (O:Nat->Option Ob):kept false O=noOb:=by funext i;simp[kept,noOb]
mutual
theorem flat_noId:∀(v:AV),v.flat=true->v.noId=true
 | .un,h=>by simp[AV.flat] at h
 | .pr v,_=>rfl
 | .nl,_=>rfl
 | .im a b,_=>rfl
 | .rf a b c,h=>by simp[AV.flat] at h
 | .pt a b c,h=>by simp[AV.flat] at h
 | .ro a b,_=>rfl
 | .ag cs,h=>by simp[AV.flat] at h
 | .tu cs,h=>by simp only[AV.noId];exact flats_noIds cs (by simpa [AV.flat] using h)
 | .fn f cs,h=>by simp[AV.flat] at h
theorem flats_noIds:∀(l:List AV),flats l=true->noIds l=true
 | [],_=>rfl
 | x::r,h=>by
   simp only[flats,Bool.and_eq_true] at h;simp only[noIds,Bool.and_eq_true];exact ⟨flat_noId x h.1,flats_noIds r h.2⟩
end
theorem CALL.fam {P:Program} {f:Nat} {args:List AV} {st:St} {x:Nat} {K:St->Prop} {R:AV->List It->Prop} (h:SpecF P f args R) (ha:noIds args=true) (b:Nat) (hb:∀n∈st.used,n<b)
 (k:∀r z,R r z->K {regs:=upd st.regs x (r.rn λi=>b+i),objs:=famO b z st.objs,used:=famU b z.length++st.used}):CALL P f args st (some x) K:=by
 obtain ⟨g1,g2⟩:=noIds_rn (ρ:=id) (p:=(·∈([]:List Nat))) args ha;have h':FunSpecD P f args (kept false noOb) noOb [] λr O'=>∃z,(R r z/\r.only0=true)/\O'=famF z:=by rw[kept_false];exact h
 classical
 have key:=dep_sem (objs:=st.objs) (used:=st.used) (args:=args) h' id (by simp) (λi o ho=>by cases ho) (λh=>by cases h) (λi o ho=>by cases ho) (by simp) ⟨g1.symm,g2⟩ b hb
  (λr O'=>if h:∃z,(R r z/\r.only0=true)/\O'=famF z then famU 0 h.choose.length else []) (λr O' hR=>by
   rw[dif_pos hR];obtain ⟨⟨_,q1⟩,q2⟩:=hR.choose_spec;refine ⟨λi o ho=>?_,inN_mono (λi hi=>famU_mem.2 (by omega)) _ (only0_in _ q1)⟩;have ho2:famF hR.choose i=some o:=by rw[<- q2];exact ho
   exact famF_closed ho2)
 refine .sem _ key λu O U hX=>?_;obtain ⟨r,O',hR,rfl,rfl,rfl⟩:=hX;rw[dif_pos hR];obtain ⟨⟨q0,q1⟩,q2⟩:=hR.choose_spec;generalize hR.choose=z at q0 q2;have e1:nmD false (id 0) b=λi=>b+i:=by funext i;simp[nmD]
 have e2:depO false (id 0) b (List.map id []) O' st.objs=famO b z st.objs:=by
  funext n
  simp only[depO,Bool.false_eq_true,false_and,if_false,List.map_nil,List.not_mem_nil,e1,famO];split
  ·rename_i hn;rw[q2,famF_rn,show b+(n-b)=n by omega]
  ·rfl
 have e3:List.map (λi=>b+i) (famU 0 z.length)=famU b z.length:=by simp[famU]
 have:=k r z q0;simp only[St.to,St.put,e1,e2,e3];exact this
theorem fam_eobs {st:St} {m:List (Nat×Option Nat)} {b:Nat} {ν:Nat->Nat} {z:List It} (h:∀i (h:i<z.length),nms m (b+(i+1))=some (some (ν i))/\st.objs (ν i)=some (ro3 z[i].row)):eobs st m (famL b z):=by
 have key:∀(l:List It) (k:Nat),(∀i (h:i<l.length),nms m (b+(k+i+1))=some (some (ν (k+i)))/\st.objs (ν (k+i))=some (ro3 l[i].row))->eobs st m ((l.zipIdx k).map λp=>(b+(p.2+1),ro3 p.1.row)):=by
  intro l
  induction l with
  | nil=>intro _ _;trivial
  | cons t r ih=>
    intro k hk;simp only[List.zipIdx_cons,List.map_cons];refine ⟨?_,ih (k+1) λi hi=>?_⟩
    ·obtain ⟨h1,h2⟩:=hk 0 (by simp);have h1:nms m (b+(k+1))=some (some (ν k)):=h1;have h2:st.objs (ν k)=some (ro3 t.row):=h2;rw[h1];exact ⟨_,h2,rfl,.same (ro3 t.row) _ _ (ro3_leafy _) rfl⟩
    ·have:=hk (i+1) (by simp;omega);have e:k+(i+1)=k+1+i:=(by omega);rw[e] at this;simpa using this
 refine key z 0 λi hi=>?_;simpa using h i hi
theorem fam_es {st:St} {m:List (Nat×Option Nat)} {b:Nat} {ν:Nat->Nat} {z:List It} {es:List (List AV)} (hes:es=z.zipIdx.map λp=>[.rf (ν p.2) 0 p.1.row.length,iA p.1.w]) (h:∀i,i<z.length->nms m (b+(i+1))=some (some (ν i))):Es st m es (famC b z):=by
 subst hes;refine Es_all (by simp[famC_len]) λi q1 q2=>?_;have hi:i<z.length:=by simpa using q1
 rw[famC_get hi];simp only[List.getElem_map,List.getElem_zipIdx,Nat.zero_add,wk.wks,wk,h i hi,iA];simp
theorem FINfam {T:Nat->Go.Vc.TI} {l:List ResultVar} {K:AV->(Nat->Option Ob)->Prop} {st:St} (a:Nat) (ν:Nat->Nat) (z:List It) (rl:List (Nat×AV)) {es:List (List AV)} (h1:(a::(List.range z.length).map ν).Nodup) (ha:st.objs a=some ⟨2,es⟩)
 (hes:es=z.zipIdx.map λp=>[.rf (ν p.2) 0 p.1.row.length,iA p.1.w]) (hrow:∀i (h:i<z.length),st.objs (ν i)=some (ro3 z[i].row)) (hr:ents st ((0,some a)::famM 0 z.length ν) rl)
 (k:hRes T (mkS rl (famS 0 z) (0::famN 0 z.length)) l λv=>K v (famF z)):FIN T noOb l K st:=by
 have hn:∀i,i<z.length->nms ((0,some a)::famM 0 z.length ν) (0+(i+1))=some (some (ν i)):=λi hi=>by simp only[nms];rw[if_neg (by omega)];exact famM_nms hi
 refine FINmk ((0,some a)::famM 0 z.length ν) rl (famS 0 z) (0::famN 0 z.length) ?_ ⟨hr,?_,fam_eobs λi hi=>⟨hn i hi,hrow i hi⟩⟩ k
 ·simp only[Bool.and_eq_true,decide_eq_true_eq,List.all_eq_true,olds,famM_olds];refine ⟨h1,λx hx=>?_⟩;rcases List.mem_cons.1 hx with rfl|hx
  ·simp
  ·obtain ⟨i,hi,rfl⟩:=List.mem_map.1 hx;simp only[List.contains_eq_mem,decide_eq_true_eq];exact List.mem_cons_of_mem _ (famN_mem.2 ⟨i,List.mem_range.1 hi,rfl⟩)
 ·simp only[nms,if_pos,eob];exact ⟨_,ha,rfl,fam_es hes hn⟩
theorem fam_nmOk {m1:List (Nat×Option Nat)} {u1:List Nat} {b n:Nat} {ν:Nat->Nat} (h:nmOk m1 u1=true) (hnd:(olds m1++(List.range n).map ν).Nodup):nmOk (m1++famM b n ν) (u1++famN b n)=true:=by
 simp only[nmOk,Bool.and_eq_true,decide_eq_true_eq,List.all_eq_true,List.contains_eq_mem] at h ⊢;refine ⟨⟨by rw[olds_append,famM_olds];exact hnd,λx hx=>?_⟩,?_⟩
 ·rcases List.mem_append.1 hx with hx|hx
  ·exact List.mem_append_left _ (h.1.2 x hx)
  ·obtain ⟨i,hi,rfl⟩:=List.mem_map.1 hx;exact List.mem_append_right _ (famN_mem.2 ⟨i,List.mem_range.1 hi,rfl⟩)
 ·have h2:=h.2;rw[nms_append];cases hm:nms m1 0 with
  | none=>simp only[famM_none (Or.inl (Nat.zero_le b))]
  | some y=>rw[hm] at h2;exact h2
theorem fam_nd {b n:Nat} {l:List Nat} (hl:l.Nodup) (h:∀x∈l,x<=b):(l++(List.range n).map λi=>b+(i+1)).Nodup:=by
 rw[List.nodup_append];refine ⟨hl,?_,λx hx y hy e=>?_⟩
 ·rw[List.Nodup,List.pairwise_map];exact List.nodup_range.imp λ{a c} hne e=>hne (by omega)
 ·obtain ⟨i,_,rfl⟩:=List.mem_map.1 hy;have:=h x hx;omega
def nuX (b n x i:Nat):Nat:=if i<n then b+(i+1) else x
theorem fam_nd2 {b n x:Nat} {l:List Nat} (hl:(x::l).Nodup) (h:∀y∈x::l,y<=b):(l++(List.range (n+1)).map (nuX b n x)).Nodup:=by
 have e:(List.range (n+1)).map (nuX b n x)=((List.range n).map λi=>b+(i+1))++[x]:=by
  rw[List.range_succ,List.map_append];congr 1
  ·refine List.map_congr_left λi hi=>?_;simp[nuX,List.mem_range.1 hi]
  ·simp[nuX]
 have h1:=fam_nd (n:=n) (List.nodup_cons.1 hl).2 λy hy=>h y (by simp[hy]);rw[e,<- List.append_assoc,List.nodup_append];refine ⟨h1,by simp,λy hy z hz e2=>?_⟩;simp only[List.mem_singleton] at hz;subst hz;subst e2;rcases List.mem_append.1 hy with hy|hy
 ·exact (List.nodup_cons.1 hl).1 hy
 ·obtain ⟨i,_,e⟩:=List.mem_map.1 hy;have:=h y (by simp);omega
@[go_sem] theorem famN_lo {b n x:Nat} (h:(x<=b)=True):(x∈famN b n)=False:=by
  simp only[famN_mem,eq_iff_iff,iff_false];rintro ⟨i,_,rfl⟩;have:b+(i+1)<=b:=by rw[h];trivial
  omega
@[go_sem] theorem upd_fam {α:Type} {b i k:Nat} {f:Nat->α} {v:α} (h:(k<=b)=True):upd f k v (b+(i+1))=f (b+(i+1)):=by
  have:k<=b:=by rw[h];trivial
  exact upd_ne' _ _ (by omega)
theorem fam_nms {m1:List (Nat×Option Nat)} {b n:Nat} {ν:Nat->Nat} {i:Nat} (h1:∀x∈m1,x.1<=b) (hi:i<n):nms (m1++famM b n ν) (b+(i+1))=some (some (ν i)):=by
 rw[nms_append];have:nms m1 (b+(i+1))=none:=by
  cases h:nms m1 (b+(i+1)) with
  | none=>rfl
  | some y=>have:=h1 _ (nms_mem h);simp only at this;omega
 rw[this];exact famM_nms hi
theorem nuX_lt {b n x i:Nat} (h:i<n):nuX b n x i=b+(i+1):=if_pos h
theorem nuX_n {b n x:Nat}:nuX b n x n=x:=if_neg (Nat.lt_irrefl n)
theorem fam_ext {b x:Nat} {z:List It} {t:It}:famC b z++[[.rf x 0 t.row.length,iA t.w]]=(z++[t]).zipIdx.map λp=>[.rf (nuX b z.length x p.2) 0 p.1.row.length,iA p.1.w]:=by
 rw[List.zipIdx_append,List.map_append,famC];congr 1
 ·refine List.map_congr_left λp hp=>?_;rw[nuX_lt (zip_mem hp).1]
 ·simp[nuX_n]
theorem fam_rows {st:St} {b x:Nat} {z:List It} {t:It} (h:∀i (h:i<z.length),st.objs (b+(i+1))=some (ro3 z[i].row)) (hx:st.objs x=some (ro3 t.row)):∀i (h:i<(z++[t]).length),st.objs (nuX b z.length x i)=some (ro3 (z++[t])[i].row):=λi hi=>by
 by_cases e:i<z.length
 ·rw[nuX_lt e,List.getElem_append_left e];exact h i e
 ·have:i=z.length:=by simp at hi;omega
  subst this;rw[nuX_n];simpa using hx
end Yt
namespace Yt
open Go Go.Vc Go.Proofs
theorem f76 (z:List It) (hl:z.length<=1048576) (hr:∀t∈z,t.row.length<1073741824) :
 SpecF Tryz.prog 82 [setA z] (λr out=>∃err:Int,r=.tu [.rf 0 0 out.length,iA err]/\MakeR z out err):=by
 refine funspecD_of_vc tabOk elems ord82 Tryz.func82 rfl (rl:=[.tmp 2,.tmp 3]) rfl (by kernel_rfl) rfl (λ_ h=>absurd rfl h) ?_;refine Ad ?_;refine .pure _ (s34 z (λt ht=>by have:=hr t ht;omega) (by omega)) rfl λr hr' _=>?_;subst hr';refine Ac ?_;refine VIF.split (λh=>?_) (λhbad=>?_)
 ·refine Aa ?_;refine FINmk [(0,none)] [(2,.rf 0 0 0),(3,iA 1)] [(0,so [])] [0] rfl ?_ ?_
  ·refine Ab ?_;simp[so]
  ·exact ⟨[],⟨⟨1,rfl,.inl ⟨h,rfl,rfl⟩⟩,rfl⟩,rfl⟩
 ·refine Aa ?_;refine .make 13 _ (s38 z (by omega)) rfl (by simp) rfl λr o hro _=>?_;obtain ⟨rfl,rfl⟩:=hro;refine Aa ?_;refine .obj 13 (so z) _ [.rf 0 0 z.length,.fn 138 []] (s39 138 cI cmp_cI (λt=>t.row.length<4611686018427387904) (λx y hx _=>s40 x y hx) z (λt ht=>by have:=hr t ht;omega) (by omega)) rfl (so_leafy z) rfl rfl λr o' hro _ _=>?_;obtain ⟨rfl,y,rfl,hw,hs⟩:=hro;have hlen:=hw.len;have hry:∀t∈y,t.row.length<1073741824:=λt ht=>hr t (hw.perm.mem_iff.1 ht);have hok:∀t∈y,okI t=true:=λt ht=>by
   have h1:∀u∈z,okI u=true:=(by simpa using hbad);exact h1 t (hw.perm.mem_iff.1 ht)
  have hs:SR cI y 0 y.length:=by rw[hlen];exact hs
  rw[<- hlen];refine Aa ?_
  refine LOOP.mk (ι:={p:Nat×List It//GI y p.1 p.2/\p.2.length<=p.1}) (λp=>mkS [(4,.rf 1000 p.1.1 (y.length-p.1.1)),(5,.rf 1001 0 p.1.2.length)] ([(1000,so y),(1001,⟨2,famC 2000 p.1.2⟩)]++famL 2000 p.1.2) ([1000,1001]++famN 2000 p.1.2.length))
   (λp=>y.length-p.1.1) ⟨(0,[]),.start y,Nat.le_refl _⟩ [(1000,some 13),(1001,none)] rfl rfl ?_ (λp=>?_)
  ·refine Bm ?_;exact ⟨id,.same (so y) _ _ (so_leafy y) rfl,rfl,trivial⟩
  ·obtain ⟨⟨off,out⟩,g,hol⟩:=p;have hle:=g.le;simp only at hle hol;refine Bm ?_;refine VIF.split (λh1=>?_) (λh1=>?_)
   ·have h0:off<y.length:=by simp at h1;omega
    refine Aa ?_
    refine LOOP.join (ι:={q:Nat×Int×Int//TI y off q.1 q.2.1 q.2.2/\Run y off (off+q.1)})
     (λq=>mkS [(4,.rf 1000 off (y.length-off)),(5,.rf 1001 0 out.length),(6,iA q.1.1),(7,.pt 1002 0 0)] ([(1000,so y),(1001,⟨2,famC 2000 out⟩),(1002,to2 q.1.2.1 q.1.2.2)]++famL 2000 out) ([1000,1001,1002]++famN 2000 out.length)) ?_ (λq=>?_)
    ·refine LOOP.mk (ι:={q:Nat×Int×Int//TI y off q.1 q.2.1 q.2.2})
      (λq=>mkS [(4,.rf 1000 off (y.length-off)),(5,.rf 1001 0 out.length),(6,iA q.1.1),(7,.pt 1002 0 0)] ([(1000,so y),(1001,⟨2,famC 2000 out⟩),(1002,to2 q.1.2.1 q.1.2.2)]++famL 2000 out) ([1000,1001,1002]++famN 2000 out.length))
      (λq=>y.length-off-q.1.1) ⟨(0,0,0),.start hle⟩ ([(1000,some 1000),(1001,some 1001),(1002,some 7)]++famM 2000 out.length λi=>2000+(i+1)) rfl (fam_nmOk rfl (fam_nd (by decide) (by decide))) ?_ (λq=>?_)
     ·refine Bp ?_;exact ⟨id,rfl,.same (so y) _ _ (so_leafy y) rfl,fam_es (ν:=λi=>2000+(i+1)) rfl (λi hi=>fam_nms (m1:=[(1000,some 1000),(1001,some 1001),(1002,some 7)]) (by simp) hi),.same (to2 0 0) _ _ (to2_leafy 0 0) rfl,fam_eobs (ν:=λi=>2000+(i+1)) λi hi=>⟨fam_nms (m1:=[(1000,some 1000),(1001,some 1001),(1002,some 7)]) (by simp) hi,by (simp -implicitDefEqProofs only[go_sem];repeat (refine GO ?_;simp -implicitDefEqProofs only[go_sem]));exact famL_get hi⟩⟩
     ·obtain ⟨⟨i,h,l⟩,ti⟩:=q;simp only at ti;have til:=ti.le;refine Bp ?_;refine VIF.split (λh2=>?_) (λh2=>?_)
      ·have hi:off+i<y.length:=by simp at h2;omega
       refine Aa ?_;refine ⟨by omega,EL.map hi ?_⟩;refine Ap ?_;refine ⟨by omega,EL.map (show off+0<y.length by omega) ?_⟩;refine Ap ?_;refine .pure _ (s13 y[off+i].row y[off+Int.toNat 0].row (by have:=hry y[off+i] (List.getElem_mem hi);omega)) rfl λr hr _=>?_;subst hr;refine Aa ?_;refine VIF.split (λh3=>?_) (λh3=>?_)
       ·have h3:cI y[off+i] y[off]=0:=(by simpa [cI] using h3);refine Aa ?_;refine ⟨by omega,EL.map hi ?_⟩;refine Ap ?_;have hbb:i<=1048576:=(by omega);have hb1:=ti.hb;have hb2:=ti.lb;have hoi:=hok y[off+i] (List.getElem_mem hi);have hwi:okW y[off+i].w=true:=by
         simp only[okI,Bool.and_eq_true] at hoi;exact hoi.2
        have hwl:=okW_le hwi;refine .obj 1002 (to2 h l) _ [.pt 0 0 0,iA y[off+i].w] (s41 h l y[off+i].w (by omega) (by omega) (by omega)) rfl (to2_leafy h l) rfl rfl λr o' hr _ _=>?_;obtain ⟨rfl,rfl⟩:=hr;have w3:=wrap_add1 (show i<4611686018427387904 by omega);refine Bg ?_;refine BACK.mk ⟨(i+1,h+y[off+i].w / 268435456,l+y[off+i].w%268435456),ti.step hi (λ_=>h3) hwi⟩ ([(1000,some 1000),(1001,some 1001),(1002,some 1002)]++famM 2000 out.length λi=>2000+(i+1)) rfl (fam_nmOk rfl (fam_nd (by decide) (by decide))) (by show y.length-off-(i+1)<y.length-off-i;omega) ?_;refine E1 ?_;exact ⟨id,.same (so y) _ _ (so_leafy y) rfl,fam_es (ν:=λi=>2000+(i+1)) rfl (λi hi=>fam_nms (m1:=[(1000,some 1000),(1001,some 1001),(1002,some 1002)]) (by simp) hi),.same (to2 (h+y[off+i].w / 268435456) (l+y[off+i].w%268435456)) _ _ (to2_leafy (h+y[off+i].w / 268435456) (l+y[off+i].w%268435456)) rfl,fam_eobs (ν:=λi=>2000+(i+1)) λi hi=>⟨fam_nms (m1:=[(1000,some 1000),(1001,some 1001),(1002,some 1002)]) (by simp) hi,by (simp -implicitDefEqProofs only[go_sem];repeat (refine GO ?_;simp -implicitDefEqProofs only[go_sem]));exact famL_get hi⟩⟩
       ·have h3:cI y[off+i] y[off]≠0:=(by simpa [cI] using h3);refine Aa ?_;refine JB.mk ⟨(i,h,l),ti,ti.run h0 (λhi=>h3)⟩ ([(1000,some 1000),(1001,some 1001),(1002,some 1002)]++famM 2000 out.length λi=>2000+(i+1)) rfl (fam_nmOk rfl (fam_nd (by decide) (by decide))) ?_;refine Bp ?_;exact ⟨id,.same (so y) _ _ (so_leafy y) rfl,fam_es (ν:=λi=>2000+(i+1)) rfl (λi hi=>fam_nms (m1:=[(1000,some 1000),(1001,some 1001),(1002,some 1002)]) (by simp) hi),.same (to2 h l) _ _ (to2_leafy h l) rfl,fam_eobs (ν:=λi=>2000+(i+1)) λi hi=>⟨fam_nms (m1:=[(1000,some 1000),(1001,some 1001),(1002,some 1002)]) (by simp) hi,by (simp -implicitDefEqProofs only[go_sem];repeat (refine GO ?_;simp -implicitDefEqProofs only[go_sem]));exact famL_get hi⟩⟩
      ·have hi:off+i=y.length:=by simp at h2;omega
       refine Aa ?_;refine JB.mk ⟨(i,h,l),ti,ti.run h0 (λhi=>by omega)⟩ ([(1000,some 1000),(1001,some 1001),(1002,some 1002)]++famM 2000 out.length λi=>2000+(i+1)) rfl (fam_nmOk rfl (fam_nd (by decide) (by decide))) ?_;refine Bp ?_;exact ⟨id,.same (so y) _ _ (so_leafy y) rfl,fam_es (ν:=λi=>2000+(i+1)) rfl (λi hi=>fam_nms (m1:=[(1000,some 1000),(1001,some 1001),(1002,some 1002)]) (by simp) hi),.same (to2 h l) _ _ (to2_leafy h l) rfl,fam_eobs (ν:=λi=>2000+(i+1)) λi hi=>⟨fam_nms (m1:=[(1000,some 1000),(1001,some 1001),(1002,some 1002)]) (by simp) hi,by (simp -implicitDefEqProofs only[go_sem];repeat (refine GO ?_;simp -implicitDefEqProofs only[go_sem]));exact famL_get hi⟩⟩
    ·obtain ⟨⟨i,h,l⟩,ti,ru⟩:=q;simp only at ti ru;refine Bp ?_;have hbb:i<=1048576:=by have:=ti.le;omega
     have hb1:=ti.hb;have hb2:=ti.lb;refine .pure _ (s42 h l (by omega) (by omega)) rfl λr hr _=>?_;obtain ⟨v,rfl,hv⟩:=hr;refine Ay ?_;have hoff:off+i-off=i:=(by omega);have htot:=g.total hs ru h0;have hsum:=ti.sum;rw[hoff] at htot;refine VIF.split (λh3=>?_) (λh3=>?_)
     ·have h3:okW (h*268435456+l)=false:=(by simpa using h3);refine Aa ?_;refine FINmk [(0,none)] [(2,.rf 0 0 0),(3,iA 11)] [(0,so [])] [0] rfl ?_ ?_
      ·refine Ab ?_;simp[so]
      ·refine ⟨[],⟨⟨11,rfl,.inr (.inl ⟨hbad,rfl,rfl,y[off].row,?_⟩)⟩,rfl⟩,rfl⟩;rw[<- tot_perm hw.perm,htot,<- hsum];exact h3
     ·have h3:okW (h*268435456+l)=true:=(by simpa using h3);have hv:=hv h3;have gs:=g.step hs ru h0 (by rw[hoff,<- hsum];exact h3);rw[hoff,<- hsum,<- hv] at gs;have hle2:=ru.le;have hlt2:=ru.lt;refine Aa ?_;refine VIF.split (λh4=>?_) (λh4=>?_)
      ·have h4:v≠0:=(by simpa using h4);rw[if_neg h4] at gs;refine Aa ?_;refine ⟨by omega,EL.map (show off+0<y.length by omega) ?_⟩;refine Ap ?_;refine .make 61 _ (s43 y[off+Int.toNat 0].row (by have:=hry y[off] (List.getElem_mem h0);simp;omega)) rfl (by simp[famN_lo (b:=2000) (x:=61) (eq_true (by decide))]) rfl λr o hro _=>?_;obtain ⟨rfl,rfl⟩:=hro;refine Aa ?_;refine ⟨by omega,?_⟩;refine Aa ?_;refine ⟨by omega,?_⟩;refine BACK.mk ⟨(off+i,out++[⟨y[off].row,v⟩]),gs,by simp;omega⟩ ([(1000,some 1000),(1001,some 65)]++famM 2000 (out.length+1) (nuX 2000 out.length 61)) rfl (by rw[List.length_append];exact fam_nmOk rfl (fam_nd2 (by decide) (by decide))) (by show y.length-(off+i)<y.length-off;omega) ?_;refine Ag ?_;have h0':y[off+Int.toNat 0]=y[off]:=rfl;refine ⟨id,⟨by omega,by simp⟩,.same (so y) _ _ (so_leafy y) rfl,?_,?_⟩
       ·rw[show List.take out.length (famC 2000 out)=famC 2000 out from List.take_of_length_le (by simp[famC_len])];exact fam_es (ν:=nuX 2000 out.length 61) (fam_ext (t:=⟨y[off].row,v⟩)) λi hi=>fam_nms (m1:=[(1000,some 1000),(1001,some 65)]) (by simp) (by simpa using hi)
       ·exact fam_eobs (ν:=nuX 2000 out.length 61) λi hi=>⟨fam_nms (m1:=[(1000,some 1000),(1001,some 65)]) (by simp) (by simpa using hi),fam_rows (t:=⟨y[off].row,v⟩) (λi hi=>by (simp -implicitDefEqProofs only[go_sem];repeat (refine GO ?_;simp -implicitDefEqProofs only[go_sem]));exact famL_get hi) rfl i hi⟩
      ·have h4:v=0:=(by simpa using h4);rw[if_pos h4] at gs;refine Aa ?_;refine ⟨by omega,?_⟩;refine BACK.mk ⟨(off+i,out),gs,by show out.length<=off+i;omega⟩ ([(1000,some 1000),(1001,some 1001)]++famM 2000 out.length λi=>2000+(i+1)) rfl (fam_nmOk rfl (fam_nd (by decide) (by decide))) (by show y.length-(off+i)<y.length-off;omega) ?_;refine Ag ?_;exact ⟨id,by omega,.same (so y) _ _ (so_leafy y) rfl,fam_es (ν:=λi=>2000+(i+1)) rfl (λi hi=>fam_nms (m1:=[(1000,some 1000),(1001,some 1001)]) (by simp) hi),fam_eobs (ν:=λi=>2000+(i+1)) λi hi=>⟨fam_nms (m1:=[(1000,some 1000),(1001,some 1001)]) (by simp) hi,by (simp -implicitDefEqProofs only[go_sem];repeat (refine GO ?_;simp -implicitDefEqProofs only[go_sem]));exact famL_get hi⟩⟩
   ·have h0:off=y.length:=by simp at h1;omega
    refine Aa ?_;subst h0;have hgt:=g.tot;rw[List.take_length] at hgt;refine FINfam 1001 (λi=>2000+(i+1)) out [(2,.rf 0 0 out.length),(3,iA 0)] (es:=famC 2000 out) (fam_nd (l:=[1001]) (by decide) (by decide)) Aj rfl (λi hi=>by (simp -implicitDefEqProofs only[go_sem];repeat (refine GO ?_;simp -implicitDefEqProofs only[go_sem]));exact famL_get hi) ?_ ?_
    ·exact A7
    ·refine ⟨out,⟨⟨0,rfl,.inr (.inr ⟨hbad,rfl,g.made,λr=>(hgt r).trans (tot_perm hw.perm),λt ht=>?_,by omega⟩)⟩,rfl⟩,rfl⟩;obtain ⟨u,hu,e⟩:=g.src t ht;have:=hok u hu;refine ⟨?_,u,hw.perm.mem_iff.1 hu,e⟩;rw[<- e];simp[okI] at this;exact this.1
def zc:List AV:=[.nl,iA 0]
def famT (b:Nat) (z:List It) (tl:Nat):List (Nat×Ob):=(b,⟨2,famC b z++List.replicate tl zc⟩)::famL b z
def famG (z:List It) (tl:Nat):Nat->Option Ob:=mkO (famT 0 z tl)
theorem famT_0 (b:Nat) (z:List It) (tl:Nat):mkO (famT b z tl) b=some ⟨2,famC b z++List.replicate tl zc⟩:=by simp[famT,mkO,upd]
theorem famT_row {b:Nat} {z:List It} {tl i:Nat} (h:i<z.length):mkO (famT b z tl) (b+(i+1))=some (ro3 z[i].row):=by simp only[famT,mkO,upd];rw[if_neg (by omega)];exact famL_get h
theorem famT_none {b:Nat} {z:List It} {tl x:Nat} (h:x<b\/b+z.length<x):mkO (famT b z tl) x=none:=by simp only[famT,mkO,upd];rw[if_neg (by omega)];exact famL_none (by omega)
theorem famT_cases {b:Nat} {z:List It} {tl x:Nat} {o:Ob} (h:mkO (famT b z tl) x=some o):(x=b/\o=⟨2,famC b z++List.replicate tl zc⟩)\/∃i,∃hi:i<z.length,x=b+(i+1)/\o=ro3 z[i].row:=by
 by_cases e:x=b
 ·subst e;rw[famT_0] at h;cases h;exact .inl ⟨rfl,rfl⟩
 ·by_cases e2:x<b\/b+z.length<x
  ·rw[famT_none e2] at h;cases h
  ·obtain ⟨i,rfl⟩:∃i,x=b+(i+1):=⟨x-b-1,by omega⟩;have hi:i<z.length:=(by omega);rw[famT_row hi] at h;cases h;exact .inr ⟨i,hi,rfl,rfl⟩
theorem zc_rn (ρ:Nat->Nat):rns ρ zc=zc:=rfl
theorem famT_rn (b:Nat) (z:List It) (tl n:Nat):(famG z tl n).map (Ob.rn λi=>b+i)=mkO (famT b z tl) (b+n):=by
 cases hn:famG z tl n with
 | none=>
   have:¬n<=z.length:=λh=>by
    cases n with
    | zero=>rw[famG,famT_0] at hn;cases hn
    | succ i=>
      have:=famT_row (b:=0) (z:=z) (tl:=tl) (i:=i) (by omega);rw[Nat.zero_add] at this;rw[famG,this] at hn;cases hn
   rw[famT_none (by omega)];rfl
 | some o=>
   rcases famT_cases hn with ⟨rfl,rfl⟩|⟨i,hi,rfl,rfl⟩
   ·rw[Nat.add_zero,famT_0];simp only[Option.map_some,Ob.rn,List.map_append,List.map_replicate,zc_rn];rw[famC_rn _ b z λi _=>rfl]
   ·rw[Nat.zero_add,famT_row hi,Option.map_some,ro3_rn]
theorem famG_closed {z:List It} {tl i:Nat} {o:Ob} (h:famG z tl i=some o):i∈famU 0 z.length/\∀x∈o.es,inNs (·∈famU 0 z.length) x:=by
 rcases famT_cases h with ⟨rfl,rfl⟩|⟨i,hi,rfl,rfl⟩
 ·refine ⟨famU_mem.2 (by omega),λx hx=>?_⟩;rcases List.mem_append.1 hx with hx|hx
  ·obtain ⟨j,hj,rfl⟩:=List.mem_iff_getElem.1 hx;have hj':j<z.length:=(by simpa [famC_len] using hj);rw[famC_get hj'];exact ⟨famU_mem.2 (by omega),trivial,trivial⟩
  ·rw[(List.mem_replicate.1 hx).2];exact ⟨trivial,trivial,trivial⟩
 ·refine ⟨famU_mem.2 (by omega),λx hx=>?_⟩;obtain ⟨v,_,rfl⟩:=List.mem_map.1 hx;exact ⟨trivial,trivial,trivial,trivial⟩
def famI (z:List It) (tl:Nat):Nat->Option Ob:=mkO ([(1000,⟨2,famC 2000 z++List.replicate tl zc⟩)]++famL 2000 z)
def famW (n:Nat):List Nat:=[1000]++famN 2000 n
theorem famI_cases {z:List It} {tl x:Nat} {o:Ob} (h:famI z tl x=some o):(x=1000/\o=⟨2,famC 2000 z++List.replicate tl zc⟩)\/∃i,∃hi:i<z.length,x=2000+(i+1)/\o=ro3 z[i].row:=by
 simp only[famI,List.singleton_append,mkO,upd] at h;split at h
 ·rename_i e;cases h;first|exact .inl ⟨e,rfl⟩|exact .inl ⟨e.symm,rfl⟩
 ·by_cases e2:x<=2000\/2000+z.length<x
  ·rw[famL_none e2] at h;cases h
  ·obtain ⟨i,rfl⟩:∃i,x=2000+(i+1):=⟨x-2000-1,by omega⟩;have hi:i<z.length:=(by omega);rw[famL_get hi] at h;cases h;exact .inr ⟨i,hi,rfl,rfl⟩
theorem famW_mem {n x:Nat}:x∈famW n ↔ x=1000\/∃i,i<n/\x=2000+(i+1):=by simp only[famW,List.mem_append,List.mem_singleton,famN_mem]
theorem famI_closed {z:List It} {tl i:Nat} {o:Ob} (h:famI z tl i=some o):i∈famW z.length/\∀x∈o.es,inNs (·∈famW z.length) x:=by
 rcases famI_cases h with ⟨rfl,rfl⟩|⟨i,hi,rfl,rfl⟩
 ·refine ⟨famW_mem.2 (.inl rfl),λx hx=>?_⟩;rcases List.mem_append.1 hx with hx|hx
  ·obtain ⟨j,hj,rfl⟩:=List.mem_iff_getElem.1 hx;have hj':j<z.length:=(by simpa [famC_len] using hj);rw[famC_get hj'];exact ⟨famW_mem.2 (.inr ⟨j,hj',rfl⟩),trivial,trivial⟩
  ·rw[(List.mem_replicate.1 hx).2];exact ⟨trivial,trivial,trivial⟩
 ·refine ⟨famW_mem.2 (.inr ⟨i,hi,rfl⟩),λx hx=>?_⟩;obtain ⟨v,_,rfl⟩:=List.mem_map.1 hx;exact ⟨trivial,trivial,trivial,trivial⟩
def rhoF (a:Nat) (ν:Nat->Nat) (x:Nat):Nat:=if x=1000 then a else ν (x-2001)
theorem rhoF_0 {a:Nat} {ν:Nat->Nat}:rhoF a ν 1000=a:=rfl
theorem rhoF_row {a:Nat} {ν:Nat->Nat} {i:Nat}:rhoF a ν (2000+(i+1))=ν i:=by rw[rhoF,if_neg (by omega)];congr 1;omega
def cellsN (ν:Nat->Nat) (z:List It):List (List AV):=z.zipIdx.map λp=>[.rf (ν p.2) 0 p.1.row.length,iA p.1.w]
theorem famC_cells (b:Nat) (z:List It):famC b z=cellsN (λi=>b+(i+1)) z:=rfl
theorem cellsN_len (ν:Nat->Nat) (z:List It):(cellsN ν z).length=z.length:=by simp[cellsN]
theorem famC_rho (a:Nat) (ν:Nat->Nat) (z:List It):(famC 2000 z).map (rns (rhoF a ν))=cellsN ν z:=by
 refine List.ext_getElem (by simp[famC_len,cellsN_len]) λi q1 q2=>?_;have hi:i<z.length:=by simpa [famC_len] using q1
 rw[List.getElem_map,famC_get hi];simp only[rns,AV.rn,cellsN,List.getElem_map,List.getElem_zipIdx,rhoF_row,Nat.zero_add];rfl
def famP (b:Nat) (z:List It) (tl:Nat) (objs:Nat->Option Ob) (n:Nat):Option Ob:=if b<=n then mkO (famT b z tl) n else objs n
@[go_sem] theorem famP_0 {b:Nat} {z:List It} {tl:Nat} {objs:Nat->Option Ob}:famP b z tl objs b=some ⟨2,famC b z++List.replicate tl zc⟩:=by simp[famP,famT_0]
theorem famP_row {b:Nat} {z:List It} {tl:Nat} {objs:Nat->Option Ob} {i:Nat} (h:i<z.length):famP b z tl objs (b+(i+1))=some (ro3 z[i].row):=by rw[famP,if_pos (by omega),famT_row h]
theorem CALL.fam2 {P:Program} {f:Nat} {args args':List AV} {st:St} {x:Nat} {K:St->Prop} {R:AV->List It->Nat->Prop} {z:List It} {tl:Nat}
 (h:FunSpecD P f args' noOb (famI z tl) (famW z.length) λr O'=>∃z' tl',(R r z' tl'/\r.only0=true)/\O'=famG z' tl') (a:Nat) (ν:Nat->Nat)
 (hnd:(a::(List.range z.length).map ν).Nodup) {es:List (List AV)} (ha:st.objs a=some ⟨2,es⟩) (hes:es=cellsN ν z++List.replicate tl zc) (hrow:∀i (h:i<z.length),st.objs (ν i)=some (ro3 z[i].row))
 (hu:a∈st.used/\∀i<z.length,ν i∈st.used) (hargs:args=rns (rhoF a ν) args'/\inNs (·∈famW z.length) args') (b:Nat) (hb:∀n∈st.used,n<b)
 (k:∀r z' tl' O,R r z' tl'->K {regs:=upd st.regs x (r.rn λi=>b+i),objs:=famP b z' tl' O,used:=famU b z'.length++st.used}):CALL P f args st (some x) K:=by
 subst hes;have h':FunSpecD P f args' (kept false (famI z tl)) (famI z tl) (famW z.length) λr O'=>∃z' tl',(R r z' tl'/\r.only0=true)/\O'=famG z' tl':=by rw[kept_false];exact h
 have inj:∀i∈famW z.length,∀j∈famW z.length,rhoF a ν i=rhoF a ν j->i=j:=λi hi j hj e=>by
  rw[famW_mem] at hi hj;rw[List.nodup_cons] at hnd;have hν:∀i j,i<z.length->j<z.length->ν i=ν j->i=j:=λi j hi hj e=>by
   have:=hnd.2;rw[List.Nodup,List.pairwise_map] at this;rcases Nat.lt_trichotomy i j with h|h|h
   ·have:=List.pairwise_iff_getElem.1 this i j (by simpa using hi) (by simpa using hj) h;simp only[List.getElem_range] at this;exact absurd e this
   ·exact h
   ·have:=List.pairwise_iff_getElem.1 this j i (by simpa using hj) (by simpa using hi) h;simp only[List.getElem_range] at this;exact absurd e.symm this
  have hn:∀i,i<z.length->ν i≠a:=λi hi e=>hnd.1 (e▸List.mem_map_of_mem (List.mem_range.2 hi));rcases hi with rfl|⟨i,hi,rfl⟩<;>rcases hj with rfl|⟨j,hj,rfl⟩
  ·rfl
  ·rw[rhoF_0,rhoF_row] at e;exact absurd e.symm (hn j hj)
  ·rw[rhoF_0,rhoF_row] at e;exact absurd e (hn i hi)
  ·rw[rhoF_row,rhoF_row] at e;rw[hν i j hi hj e]
 classical
 have key:=dep_sem (objs:=st.objs) (used:=st.used) (args:=args) h' (rhoF a ν) inj (λi o ho=>famI_closed ho) (λh=>by cases h)
  (λi o ho=>by
   rcases famI_cases ho with ⟨rfl,rfl⟩|⟨i,hi,rfl,rfl⟩
   ·rw[rhoF_0,ha,Ob.rn];simp only[List.map_append,List.map_replicate,zc_rn,famC_rho]
   ·rw[rhoF_row,ro3_rn];exact hrow i hi)
  (λi hi=>by
   rcases famW_mem.1 hi with rfl|⟨k,hk,rfl⟩
   ·exact hu.1
   ·rw[rhoF_row];exact hu.2 k hk) hargs b hb
  (λr O'=>if h:∃z' tl',(R r z' tl'/\r.only0=true)/\O'=famG z' tl' then famU 0 h.choose.length else []) (λr O' hR=>by
   rw[dif_pos hR];obtain ⟨tl',⟨_,q1⟩,q2⟩:=hR.choose_spec;refine ⟨λi o ho=>?_,inN_mono (λi hi=>famU_mem.2 (by omega)) _ (only0_in _ q1)⟩;have ho2:famG hR.choose tl' i=some o:=by rw[<- q2];exact ho
   exact famG_closed ho2)
 refine .sem _ key λu O U hX=>?_;obtain ⟨r,O',hR,rfl,rfl,rfl⟩:=hX;rw[dif_pos hR];obtain ⟨tl',⟨q0,q1⟩,q2⟩:=hR.choose_spec;generalize hR.choose=z' at q0 q2;have e1:nmD false (rhoF a ν 0) b=λi=>b+i:=by funext i;simp[nmD]
 have e2:∃O2,depO false (rhoF a ν 0) b (List.map (rhoF a ν) (famW z.length)) O' st.objs=famP b z' tl' O2:=by
  refine ⟨depO false (rhoF a ν 0) b (List.map (rhoF a ν) (famW z.length)) O' st.objs,?_⟩
  funext n
  simp only[famP];split
  ·rename_i hn;simp only[depO,Bool.false_eq_true,false_and,if_false,e1,if_pos hn];rw[q2,famT_rn,show b+(n-b)=n by omega]
  ·rfl
 obtain ⟨O2,e2⟩:=e2;have e3:List.map (λi=>b+i) (famU 0 z'.length)=famU b z'.length:=by simp[famU]
 have:=k r z' tl' O2 q0;simp only[St.to,St.put,e1,e2,e3];exact this
theorem zc_wks {st:St} {m:List (Nat×Option Nat)}:wk.wks st m zc zc:=by simp[zc,iA,wk.wks,wk]
theorem Es_rep {st:St} {m:List (Nat×Option Nat)} (tl:Nat):Es st m (List.replicate tl zc) (List.replicate tl zc):=by
 induction tl with
 | zero=>exact .nil
 | succ n ih=>exact .cons zc_wks ih
theorem FINfamT {T:Nat->Go.Vc.TI} {l:List ResultVar} {K:AV->(Nat->Option Ob)->Prop} {st:St} (a:Nat) (ν:Nat->Nat) (z:List It) (tl:Nat) (rl:List (Nat×AV)) {es:List (List AV)} (h1:(a::(List.range z.length).map ν).Nodup) (ha:st.objs a=some ⟨2,es⟩)
 (hes:es=cellsN ν z++List.replicate tl zc) (hrow:∀i (h:i<z.length),st.objs (ν i)=some (ro3 z[i].row)) (hr:ents st ((0,some a)::famM 0 z.length ν) rl)
 (k:hRes T (mkS rl (famT 0 z tl) (0::famN 0 z.length)) l λv=>K v (famG z tl)):FIN T noOb l K st:=by
 have hn:∀i,i<z.length->nms ((0,some a)::famM 0 z.length ν) (0+(i+1))=some (some (ν i)):=λi hi=>by simp only[nms];rw[if_neg (by omega)];exact famM_nms hi
 refine FINmk ((0,some a)::famM 0 z.length ν) rl (famT 0 z tl) (0::famN 0 z.length) ?_ ⟨hr,?_,fam_eobs λi hi=>⟨hn i hi,hrow i hi⟩⟩ k
 ·simp only[Bool.and_eq_true,decide_eq_true_eq,List.all_eq_true,olds,famM_olds];refine ⟨h1,λx hx=>?_⟩;rcases List.mem_cons.1 hx with rfl|hx
  ·simp
  ·obtain ⟨i,hi,rfl⟩:=List.mem_map.1 hx;simp only[List.contains_eq_mem,decide_eq_true_eq];exact List.mem_cons_of_mem _ (famN_mem.2 ⟨i,List.mem_range.1 hi,rfl⟩)
 ·simp only[nms,if_pos,eob];refine ⟨_,ha,rfl,?_⟩;subst hes;exact Es.app (fam_es rfl hn) (Es_rep tl)
theorem famC_app {b:Nat} {z:List It} {tail:List (List AV)} {i:Nat} {K:List AV->Prop} (h:i<z.length) (k:K [.rf (b+(i+1)) 0 z[i].row.length,iA z[i].w]):EL (famC b z++tail) i K:=
 ⟨_,by rw[List.getElem?_append_left (by simpa [famC_len] using h),List.getElem?_eq_getElem (by simpa [famC_len] using h),famC_get h],k⟩
def twC (b:Nat) (z:List It) (i:Nat):List (List AV):=famC b (z.take i)++(z.drop i).map It.c
theorem twC_get {b:Nat} {z:List It} {i:Nat} (h:i<z.length):(twC b z i)[i]?=some (It.c z[i]):=by rw[twC,List.getElem?_append_right (by simp[famC_len];omega)];simp[famC_len,Nat.min_eq_left (Nat.le_of_lt h),h]
theorem EL.tw {b:Nat} {z:List It} {i:Nat} {K:List AV->Prop} (h:i<z.length) (k:K (It.c z[i])):EL (twC b z i) i K:=⟨_,twC_get h,k⟩
theorem twC_set {b x:Nat} {z:List It} {i:Nat} (h:i<z.length):(twC b z i).set i [.rf x 0 z[i].row.length,iA z[i].w]=cellsN (nuX b i x) (z.take (i+1))++(z.drop (i+1)).map It.c:=by
 have hlen:(famC b (z.take i)).length=i:=by rw[famC_len,List.length_take];omega
 have htl:(z.take i).length=i:=by rw[List.length_take];omega
 rw[twC,List.set_append_right _ _ (by omega),hlen,Nat.sub_self,List.drop_eq_getElem_cons h,List.map_cons,List.set_cons_zero,List.take_succ_eq_append_getElem h];have:=fam_ext (b:=b) (x:=x) (z:=z.take i) (t:=z[i]);rw[htl] at this;rw[cellsN,<- this];simp
theorem map_c_wks {st:St} {m:List (Nat×Option Nat)} (z:List It):Es st m (z.map It.c) (z.map It.c):=Es_refl (so_leafy z)
theorem f83 (z:List It) (hl:z.length<=1048576) (hr:∀t∈z,t.row.length<1073741824):SpecF Tryz.prog 88 [setA z] (λr out=>r=.rf 0 0 out.length/\out=z):=by
 refine funspecD_of_vc tabOk elems ord88 Tryz.func88 rfl (rl:=[.tmp 2]) rfl (by kernel_rfl) rfl (λ_ h=>absurd rfl h) ?_;refine Ad ?_;refine .make 6 _ (s38 z (by omega)) rfl (by simp) rfl λq o hq _=>?_;obtain ⟨rfl,rfl⟩:=hq;refine Aa ?_
 refine LOOP.mk (ι:={i:Nat//i<=z.length}) (λp=>mkS [(3,.rf 1000 0 z.length),(8,iA z.length),(9,iA p.1)] ([(1000,⟨2,twC 2000 z p.1⟩)]++famL 2000 (z.take p.1)) ([1000]++famN 2000 p.1))
  (λp=>z.length-p.1) ⟨0,Nat.zero_le _⟩ [(1000,some 6)] rfl rfl ?_ (λp=>?_)
 ·refine Ag ?_;refine ⟨id,rfl,?_⟩;have e:twC 2000 z 0=z.map It.c:=(by simp[twC,famC]);rw[e];exact ⟨map_c_wks z,trivial⟩
 ·obtain ⟨i,hi⟩:=p;have htl:(z.take i).length=i:=by rw[List.length_take];omega
  refine Ab ?_;refine VIF.split (λh=>?_) (λh=>?_)
  ·have h:i<z.length:=(by simpa using h);have w1:=wrap_add1 (show i<4611686018427387904 by omega);refine Aa ?_;refine ⟨by omega,EL.tw h ?_⟩;refine Ap ?_;refine .make 19 _ (s43 z[i].row (by have:=hr _ (List.getElem_mem h);omega)) rfl (by simp[famN_lo (b:=2000) (x:=19) (eq_true (by decide))]) rfl λq o hq _=>?_;obtain ⟨rfl,rfl⟩:=hq;refine Af ?_;refine ⟨by omega,EL.tw h ?_⟩;refine Dr ?_;refine BACK.mk ⟨i+1,by omega⟩ ([(1000,some 1000)]++famM 2000 (i+1) (nuX 2000 i 19)) rfl (fam_nmOk rfl (fam_nd2 (by decide) (by decide))) (by show z.length-(i+1)<z.length-i;omega) ?_;refine Bc ?_;have e1:(z.take i)++[z[i]]=z.take (i+1):=(List.take_succ_eq_append_getElem h).symm;have hset:=twC_set (b:=2000) (x:=19) h;simp only[iA] at hset;refine ⟨id,?_,?_⟩
   ·rw[hset,twC];refine Es.app ?_ (map_c_wks _);exact fam_es rfl λj hj=>fam_nms (m1:=[(1000,some 1000)]) (by simp) (by simp at hj;omega)
   ·rw[<- e1];refine fam_eobs (ν:=nuX 2000 i 19) λj hj=>⟨fam_nms (m1:=[(1000,some 1000)]) (by simp) (by simp at hj;omega),?_⟩;have hν:nuX 2000 i 19=nuX 2000 (z.take i).length 19:=(by rw[htl]);rw[hν];exact fam_rows (b:=2000) (x:=19) (z:=z.take i) (t:=z[i]) (λj hj=>by (simp -implicitDefEqProofs only[go_sem];repeat (refine GO ?_;simp -implicitDefEqProofs only[go_sem]));exact famL_get hj) rfl j hj
  ·have h:i=z.length:=by simp at h;omega
   subst h;refine Aa ?_;rw[List.take_length];refine FINfam 1000 (λi=>2000+(i+1)) z [(2,.rf 0 0 z.length)] (es:=famC 2000 z) (fam_nd (l:=[1000]) (by decide) (by decide)) (by refine Aa ?_;simp[twC]) rfl (λi hi=>by (simp -implicitDefEqProofs only[go_sem];repeat (refine GO ?_;simp -implicitDefEqProofs only[go_sem]));exact famL_get hi) ?_ ?_
   ·exact Aj
   ·exact ⟨z,⟨⟨rfl,rfl⟩,rfl⟩,rfl⟩
theorem f85 (z:List It) (tl:Nat) (hl:z.length<=1048576):FunSpecD Tryz.prog 91 [.rf 1000 0 z.length] noOb (famI z tl) (famW z.length) λr O'=>∃z' tl',((r=.rf 0 0 z'.length/\z'=z/\tl'=0)/\r.only0=true)/\O'=famG z' tl':=by
 refine funspecD_of_vc tabOk elems ord91 Tryz.func91 rfl (rl:=[.tmp 2]) rfl (by kernel_rfl) rfl (λ_ h=>absurd rfl h) ?_;(simp -implicitDefEqProofs only[go_sem,famI,famW];repeat (refine GO ?_;simp -implicitDefEqProofs only[go_sem,famI,famW]));refine ⟨⟨_,rfl⟩,λb hb=>?_⟩;refine VIF.split (λh=>?_) (λh=>?_)
 ·have hz:z=[]:=(by simpa using hb (by simpa using h));subst hz;refine Aa ?_;refine FINmk [(0,none)] [(2,.rf 0 0 0)] [(0,so [])] [0] rfl ?_ ?_
  ·refine Aa ?_;simp[so]
  ·refine ⟨[],0,⟨⟨rfl,rfl,rfl⟩,rfl⟩,?_⟩;rfl
 ·have ht:List.take z.length (famC 2000 z++List.replicate tl zc)=famC 2000 z:=by
   rw[List.take_append_of_le_length (by simp[famC_len]),List.take_of_length_le (by simp[famC_len])]
  (simp -implicitDefEqProofs only[go_sem,famC_len,ht];repeat (refine GO ?_;simp -implicitDefEqProofs only[go_sem,famC_len,ht]));refine ⟨by omega,?_⟩;refine FINfamT 7 (λi=>2000+(i+1)) z 0 [(2,.rf 0 0 z.length)] (es:=famC 2000 z) (fam_nd (l:=[7]) (by decide) (by decide)) Aj (by simp;rfl) (λi hi=>by (simp -implicitDefEqProofs only[go_sem];repeat (refine GO ?_;simp -implicitDefEqProofs only[go_sem]));exact famL_get hi) ?_ ?_
  ·exact Aj
  ·exact ⟨z,0,⟨⟨rfl,rfl,rfl⟩,rfl⟩,rfl⟩
structure Dg {α:Type} (p:α->Bool) (z y:List α) (i j:Nat):Prop where
 ij:i<j
 jn:j<=z.length
 len:y.length=z.length
 kept:y.take i=(z.take j).filter λt=>!p t
 rest:y.drop j=z.drop j
theorem Dg.keep {α:Type} {p:α->Bool} {z y:List α} {i j:Nat} (d:Dg p z y i j) (hj:j<z.length) (hp:p z[j]=false):Dg p z (y.set i z[j]) (i+1) (j+1):=by
 obtain ⟨h1,h2,h3,h4,h5⟩:=d;refine ⟨by omega,by omega,by simp[h3],?_,?_⟩
 ·rw[List.take_succ_eq_append_getElem (by simp;omega),List.take_succ_eq_append_getElem hj,List.filter_append,<- h4,List.take_set_of_le (Nat.le_refl _)];simp[hp]
 ·rw[List.drop_set_of_lt (by omega)];have:=congrArg (List.drop 1) h5;simpa [List.drop_drop,Nat.add_comm] using this
theorem Dg.drop {α:Type} {p:α->Bool} {z y:List α} {i j:Nat} (d:Dg p z y i j) (hj:j<z.length) (hp:p z[j]=true):Dg p z y i (j+1):=by
 obtain ⟨h1,h2,h3,h4,h5⟩:=d;refine ⟨by omega,by omega,h3,?_,?_⟩
 ·rw[List.take_succ_eq_append_getElem hj,List.filter_append,<- h4];simp[hp]
 ·have:=congrArg (List.drop 1) h5;simpa [List.drop_drop,Nat.add_comm] using this
theorem Dg.at {α:Type} {p:α->Bool} {z y:List α} {i j:Nat} (d:Dg p z y i j) (hj:j<z.length) (hy:j<y.length):y[j]=z[j]:=by
 have h:(y.drop j)[0]?=(z.drop j)[0]?:=by rw[d.rest]
 simp only[List.getElem?_drop,Nat.add_zero,List.getElem?_eq_getElem hj,List.getElem?_eq_getElem hy,Option.some.injEq] at h;exact h
theorem lent_fam {objs:Nat->Option Ob} {a:Nat} {ν:Nat->Nat} {z:List It} {tail:List (List AV)} {es:List (List AV)} (ha:objs a=some ⟨2,es⟩) (hes:es=cellsN ν z++tail) (hrow:∀i (h:i<z.length),objs (ν i)=some (ro3 z[i].row)):Lent objs (.rf a 0 z.length) (setA z):=by
 subst hes;refine .rf (es:=cellsN ν z) (es':=z.map It.c) ha ?_ (by simp[cellsN_len]) (λx hx=>by obtain ⟨t,_,rfl⟩:=List.mem_map.1 hx;rfl) (λi j a' h=>?_) λi j b b' h h'=>?_
 ·rw[List.drop_zero,List.take_append_of_le_length (by simp[cellsN_len]),List.take_of_length_le (by simp[cellsN_len])]
 ·exact leafy_get (so_leafy z) h
 ·have hi:i<z.length:=by
   rw[cellAt,List.getElem?_map] at h';cases hz:z[i]? with
   | none=>rw[hz] at h';cases h'
   | some t=>exact (List.getElem?_eq_some_iff.1 hz).1
  have hc:i<(cellsN ν z).length:=by rw[cellsN_len];exact hi
  have e1:(cellsN ν z)[i]?=some [.rf (ν i) 0 z[i].row.length,iA z[i].w]:=by rw[List.getElem?_eq_getElem hc];simp[cellsN]
  have e2:(z.map It.c)[i]?=some (It.c z[i]):=(by simp[hi]);simp only[cellAt,e1,e2,Option.bind_some,It.c] at h h'
  match j with
  | 0=>
    simp at h h';subst h;subst h';exact lent_leafy (o:=ro3 z[i].row) (hrow i hi) rfl (by simp) (ro3_leafy _) λx hx=>by obtain ⟨v,_,rfl⟩:=List.mem_map.1 hx;rfl
  | 1=>simp at h h';subst h;subst h';exact .same rfl
  | j+2=>simp at h
theorem lents_same {objs:Nat->Option Ob}:∀{l:List AV},noIds l=true->lents objs l l
 | [],_=>trivial
 | x::r,h=>by
   simp only[noIds,Bool.and_eq_true] at h;exact ⟨.same h.1,lents_same h.2⟩
theorem lent_it {objs:Nat->Option Ob} {a:Nat} {t:It} (h:objs a=some (ro3 t.row)):Lent objs (.ag [.rf a 0 t.row.length,iA t.w]) (.ag t.c):=by
 refine .ag rfl λj b b' h1 h2=>?_
 match j with
 | 0=>
   simp[It.c] at h1 h2;subst h1;subst h2;exact lent_leafy (o:=ro3 t.row) h rfl (by simp) (ro3_leafy _) λx hx=>by obtain ⟨v,_,rfl⟩:=List.mem_map.1 hx;rfl
 | 1=>simp[It.c] at h1 h2;subst h1;subst h2;exact .same rfl
 | j+2=>simp at h1
def zAt (z:List It) (i:Nat):It:=z.getD i ⟨[],0⟩
theorem zAt_get {z:List It} {i:Nat} (h:i<z.length):zAt z i=z[i]:=by simp[zAt,h]
def cf (z:List It) (i:Nat):List AV:=[.rf (2000+(i+1)) 0 (zAt z i).row.length,iA (zAt z i).w]
theorem famC_cf (z:List It):famC 2000 z=(List.range z.length).map (cf z):=by
 refine List.ext_getElem (by simp[famC_len]) λi q1 q2=>?_;have hi:i<z.length:=by simpa [famC_len] using q1
 rw[famC_get hi];simp[cf,zAt_get hi]
theorem zAt_filter (z:List It) (p:It->Bool):((List.range z.length).filter λi=>!p (zAt z i)).map (zAt z)=z.filter λt=>!p t:=by
 have h:(List.range z.length).map (zAt z)=z:=List.ext_getElem (by simp) λi q1 q2=>by simp[zAt_get q2]
 conv=>rhs;rw[<- h]
 rw[List.filter_map];rfl
theorem cf_cells {z:List It} {l:List Nat} (ν:Nat->Nat) (hν:∀k (h:k<l.length),ν k=2000+(l[k]+1)):l.map (cf z)=cellsN ν (l.map (zAt z)):=by
 refine List.ext_getElem (by simp[cellsN_len]) λi q1 q2=>?_;have hi:i<l.length:=by simpa using q1
 simp only[List.getElem_map,cellsN,List.getElem_zipIdx,Nat.zero_add,cf,hν i hi]
theorem cf_es {st:St} {m:List (Nat×Option Nat)} {n:Nat} {z:List It} {y:List Nat} (hm:∀i,i<n->nms m (2000+(i+1))=some (some (2000+(i+1)))) (hy:∀x∈y,x<n):Es st m (y.map (cf z)) (y.map (cf z)):=by
 induction y with
 | nil=>exact .nil
 | cons x r ih=>
   refine .cons ?_ (ih λu hu=>hy u (by simp[hu]));simp only[cf,wk.wks,wk,hm x (hy x (by simp)),iA];simp
theorem f82 (g:Nat) (caps:List AV) (hc:noIds caps=true) (p:It->Bool) (B:It->Prop) (hg:∀t:It,B t->Spec0 Tryz.prog g (.ag t.c::caps) (·=bA (p t))) (z:List It) (hB:∀t∈z,B t) (hl:z.length<=1048576) :
 FunSpecD Tryz.prog 87 [.rf 1000 0 z.length,.fn g caps] noOb (famI z 0) (famW z.length) λr O'=>∃z' tl',((r=.rf 0 0 z'.length/\z'=z.filter λt=>!p t)/\r.only0=true)/\O'=famG z' tl':=by
 refine funspecD_of_vc tabOk elems ord87 Tryz.func87 rfl (rl:=[.tmp 4]) rfl (by kernel_rfl) rfl (λ_ h=>absurd rfl h) ?_;refine D4 ?_;refine .lendR (args':=[setA z,.fn g caps]) (s47 g caps hc p B hg z hB (by omega)) ⟨lent_fam (es:=famC 2000 z) (ν:=λi=>2000+(i+1)) (tail:=[]) Aj (by simp[famC_cells]) (λi hi=>by (simp -implicitDefEqProofs only[go_sem];repeat (refine GO ?_;simp -implicitDefEqProofs only[go_sem]));exact famL_get hi),.same (by simpa [AV.noId] using hc),trivial⟩ (by rintro _ rfl;rfl) λq hq=>?_;subst hq;refine Bu ?_;refine VIF.split (λh=>?_) (λh=>?_)
 ·have hn:z.findIdx? p=none:=by
   cases hf:z.findIdx? p with
   | none=>rfl
   | some i=>rw[hf] at h;simp[idxI] at h
  rw[List.findIdx?_eq_none_iff] at hn;have hz:(z.filter λt=>!p t)=z:=List.filter_eq_self.2 λt ht=>by simp[hn t ht]
  refine Aa ?_;refine FINfamT 1000 (λi=>2000+(i+1)) z 0 [(4,.rf 0 0 z.length)] (es:=famC 2000 z) (fam_nd (l:=[1000]) (by decide) (by decide)) Aj (by simp;rfl) (λi hi=>by (simp -implicitDefEqProofs only[go_sem];repeat (refine GO ?_;simp -implicitDefEqProofs only[go_sem]));exact famL_get hi) ?_ ?_
  ·exact Aj
  ·exact ⟨z,0,⟨⟨rfl,hz.symm⟩,rfl⟩,rfl⟩
 ·obtain ⟨i,hf⟩:∃i,z.findIdx? p=some i:=by
   cases hf:z.findIdx? p with
   | none=>rw[hf] at h;simp[idxI] at h
   | some i=>exact ⟨i,rfl⟩
  rw[hf];rw[List.findIdx?_eq_some_iff_getElem] at hf;obtain ⟨hi,hp,hlt⟩:=hf;obtain ⟨pN,hpN⟩:∃pN:Nat->Bool,pN=λi=>p (zAt z i):=⟨_,rfl⟩;have hpz:∀j (h:j<z.length),pN j=p z[j]:=λj h=>by rw[hpN];simp only[zAt_get h]
  have start:Dg pN (List.range z.length) (List.range z.length) i (i+1):=by
   refine ⟨by omega,by simp;omega,rfl,?_,rfl⟩;rw[List.take_succ_eq_append_getElem (by simp;omega),List.filter_append];have:((List.range z.length).take i).filter (λt=>!pN t)=(List.range z.length).take i:=List.filter_eq_self.2 λt ht=>by obtain ⟨j,hj,rfl⟩:=List.mem_iff_getElem.1 ht;rw[List.length_take,List.length_range] at hj;rw[List.getElem_take,List.getElem_range,hpz j (by omega)];have:=hlt j (by omega);simp[this]
   rw[this];simp[hpz i hi,hp]
  have w0:=wrap_add1 (show i<4611686018427387904 by omega);refine Fl ?_
  refine LOOP.mk (ι:={q:Nat×Nat×List Nat//Dg pN (List.range z.length) q.2.2 q.1 q.2.1/\∀x∈q.2.2,x<z.length}) (λq=>mkS [(0,.rf 1000 0 z.length),(1,.fn g caps),(5,iA q.1.1),(6,iA q.1.2.1)] ([(1000,⟨2,q.1.2.2.map (cf z)⟩)]++famL 2000 z) ([1000]++famN 2000 z.length))
   (λq=>z.length-q.1.2.1) ⟨(i,i+1,List.range z.length),start,λx hx=>List.mem_range.1 hx⟩ ([(1000,some 1000)]++famM 2000 z.length λi=>2000+(i+1)) rfl (fam_nmOk rfl (fam_nd (by decide) (by decide))) ?_ (λq=>?_)
  ·refine Ab ?_;refine ⟨id,wks_noId caps hc,?_,fam_eobs (ν:=λi=>2000+(i+1)) λi hi=>⟨fam_nms (m1:=[(1000,some 1000)]) (by simp) hi,by (simp -implicitDefEqProofs only[go_sem];repeat (refine GO ?_;simp -implicitDefEqProofs only[go_sem]));exact famL_get hi⟩⟩;rw[famC_cf];exact cf_es (n:=z.length) (λi hi=>fam_nms (m1:=[(1000,some 1000)]) (by simp) hi) λx hx=>List.mem_range.1 hx
  ·obtain ⟨⟨i,j,y⟩,d,hyn⟩:=q;simp only at d hyn;have dl:=d.len;have dij:=d.ij;have djn:=d.jn;simp only[List.length_range] at dl djn;refine Ab ?_;refine VIF.split (λh1=>?_) (λh1=>?_)
   ·have h1:j<z.length:=(by simpa using h1);have hjy:j<y.length:=(by omega);have hat:=d.at (by simpa using h1) hjy;rw[List.getElem_range] at hat;have w1:=wrap_add1 (show j<4611686018427387904 by omega);have w2:=wrap_add1 (show i<4611686018427387904 by omega);refine Aa ?_;refine ⟨by omega,EL.map hjy ?_⟩;rw[hat];(simp -implicitDefEqProofs only[go_sem,cf,zAt_get h1];repeat (refine GO ?_;simp -implicitDefEqProofs only[go_sem,cf,zAt_get h1]));refine .lendR (args':=.ag z[j].c::caps) (hg z[j] (hB _ (List.getElem_mem h1))) ?_ (by rintro _ rfl;rfl) λq hq=>?_
    ·exact ⟨lent_it (t:=z[j]) (by refine Aa ?_;exact famL_get h1),lents_same hc⟩
    subst hq;refine Ac ?_;refine VIF.split (λh2=>?_) (λh2=>?_)
    ·have h2:p z[j]=false:=(by simpa using h2);have d2:=d.keep (by simpa using h1) (by rw[List.getElem_range,hpz j h1];exact h2);rw[List.getElem_range] at d2;have hiy:i<y.length:=(by omega);refine Aa ?_;refine ⟨by omega,EL.map hiy ?_⟩;(simp -implicitDefEqProofs only[go_sem,cf,w1,w2];repeat (refine GO ?_;simp -implicitDefEqProofs only[go_sem,cf,w1,w2]));refine BACK.mk ⟨(i+1,j+1,y.set i j),d2,λx hx=>?_⟩ ([(1000,some 1000)]++famM 2000 z.length λi=>2000+(i+1)) rfl (fam_nmOk rfl (fam_nd (by decide) (by decide))) (by show z.length-(j+1)<z.length-j;omega) ?_
     ·rcases List.mem_or_eq_of_mem_set hx with h|rfl
      ·exact hyn x h
      ·exact h1
     refine Fi ?_;have e1:(List.map (cf z) y).set i [.rf (2000+(j+1)) 0 z[j].row.length,iA z[j].w]=List.map (cf z) (y.set i j):=(by rw[List.map_set,cf,zAt_get h1]);refine ⟨id,wks_noId caps hc,?_,fam_eobs (ν:=λi=>2000+(i+1)) λi hi=>⟨fam_nms (m1:=[(1000,some 1000)]) (by simp) hi,by (simp -implicitDefEqProofs only[go_sem];repeat (refine GO ?_;simp -implicitDefEqProofs only[go_sem]));exact famL_get hi⟩⟩;simp only[iA] at e1;rw[e1];exact cf_es (n:=z.length) (λi hi=>fam_nms (m1:=[(1000,some 1000)]) (by simp) hi) λx hx=>by
      rcases List.mem_or_eq_of_mem_set hx with h|rfl
      ·exact hyn x h
      ·exact h1
    ·have h2:p z[j]=true:=(by simpa using h2);have d2:=d.drop (by simpa using h1) (by rw[List.getElem_range,hpz j h1];exact h2);refine Cb ?_;refine BACK.mk ⟨(i,j+1,y),d2,hyn⟩ ([(1000,some 1000)]++famM 2000 z.length λi=>2000+(i+1)) rfl (fam_nmOk rfl (fam_nd (by decide) (by decide))) (by show z.length-(j+1)<z.length-j;omega) ?_;refine Fi ?_;refine ⟨id,wks_noId caps hc,?_,fam_eobs (ν:=λi=>2000+(i+1)) λi hi=>⟨fam_nms (m1:=[(1000,some 1000)]) (by simp) hi,by (simp -implicitDefEqProofs only[go_sem];repeat (refine GO ?_;simp -implicitDefEqProofs only[go_sem]));exact famL_get hi⟩⟩;exact cf_es (n:=z.length) (λi hi=>fam_nms (m1:=[(1000,some 1000)]) (by simp) hi) hyn
   ·have h1:j=z.length:=by simp at h1;omega
    subst h1;have hk:=d.kept;rw[List.take_of_length_le (l:=List.range z.length) (by simp)] at hk;refine Aa ?_;refine ⟨by omega,by omega,by omega,?_⟩;obtain ⟨ν,hν⟩:∃ν:Nat->Nat,ν=λk=>2000+(y.getD k 0+1):=⟨_,rfl⟩;have hlen:(y.take i).length=i:=by rw[List.length_take];omega
    have hνl:∀k (h:k<(y.take i).length),ν k=2000+((y.take i)[k]+1):=λk h=>by have:k<y.length:=(by omega);rw[hν];simp[this]
    have hout:(y.take i).map (zAt z)=z.filter λt=>!p t:=by rw[hk,hpN,<- zAt_filter]
    have hol:(z.filter λt=>!p t).length=i:=(by rw[<- hout,List.length_map,hlen]);have hnd:(y.take i).Nodup:=by rw[hk];exact List.nodup_range.filter _
    have hfin:List.map (cf z) (y.take i)++List.replicate (z.length-i) zc=List.take i (List.map (cf z) y)++List.replicate (z.length-i) [.nl,iA 0]++List.drop (i+(z.length-i)) (List.map (cf z) y):=by rw[List.drop_eq_nil_of_le (by simp;omega),List.append_nil,List.map_take];rfl
    refine FINfamT 1000 ν (z.filter λt=>!p t) (z.length-i) [(4,.rf 0 0 i)] (es:=(y.take i).map (cf z)++List.replicate (z.length-i) zc) ?_ ?_ ?_ ?_ ?_ ?_
    ·rw[hol,List.nodup_cons];refine ⟨λh=>?_,?_⟩
     ·obtain ⟨k,_,e⟩:=List.mem_map.1 h;rw[hν] at e;simp only at e;omega
     ·have:(List.range i).map ν=(y.take i).map λq=>2000+(q+1):=List.ext_getElem (by simp;omega) λk q1 q2=>by
       have hk2:k<(y.take i).length:=(by simpa using q2);rw[List.getElem_map,List.getElem_range,hνl k hk2,List.getElem_map]
      rw[this,List.Nodup,List.pairwise_map];exact hnd.imp λhne e=>hne (by omega)
    ·rw[hfin];rfl
    ·rw[cf_cells ν hνl,hout]
    ·intro k hk2;have hk3:k<(y.take i).length:=(by omega);have hk4:(y.take i)[k]<z.length:=hyn _ (List.mem_of_mem_take (List.getElem_mem hk3));rw[hνl k hk3];refine Aa ?_;rw[famL_get hk4];congr 2;have e:(z.filter λt=>!p t)[k]=((y.take i).map (zAt z))[k]'(by simpa using hk3):=by congr 1<;>exact hout.symm
     rw[e,List.getElem_map,zAt_get hk4]
    ·refine Aa ?_;exact ⟨rfl,rfl⟩
    ·exact ⟨_,z.length-i,⟨⟨by rw[hol];rfl,rfl⟩,rfl⟩,rfl⟩
theorem upto1_zero (y:List It):upto1 y 0=y:=by simp[upto1]
theorem upto1_rows {y:List It} {i:Nat} (hi:i<=y.length):∀j (h:j<y.length) (h2:j<(upto1 y i).length),(upto1 y i)[j].row=y[j].row:=λj h h2=>by
 simp only[upto1];by_cases e:j<i
 ·rw[List.getElem_append_left (by simp;omega)];simp[oneI]
 ·rw[List.getElem_append_right (by simp;omega)];simp only[List.length_map,List.length_take,Nat.min_eq_left hi,List.getElem_drop];congr 2;omega
theorem famC_set1 {b:Nat} {y:List It} {i:Nat} {tail:List (List AV)} (h:i<y.length):(famC b (upto1 y i)++tail).set i [.rf (b+(i+1)) 0 y[i].row.length,iA 1]=famC b (upto1 y (i+1))++tail:=by
 have hl:(upto1 y i).length=y.length:=upto1_len (by omega);have hl2:(upto1 y (i+1)).length=y.length:=upto1_len (by omega);rw[List.set_append_left _ _ (by rw[famC_len,hl];exact h)];congr 1;rw[<- upto1_set h];refine List.ext_getElem (by simp[famC_len]) λj q1 q2=>?_;have hj:j<(upto1 y i).length:=by simpa [famC_len] using q1
 have hj2:j<((upto1 y i).set i (oneI y[i].row)).length:=by simpa using hj
 rw[List.getElem_set,famC_get hj2,famC_get hj];by_cases e:i=j
 ·subst e;simp[oneI]
 ·simp[e]
theorem f32 (z:List It) (hl:z.length<=1048576) (hr:∀t∈z,t.row.length<1073741824) :
 SpecF Tryz.prog 45 [setA z] (λr out=>∃err:Int,r=.tu [.rf 0 0 out.length,iA err]/\((¬Good z/\out=[]/\err=1)\/(Good z/\out=distL z/\err=0))):=by
 refine funspecD_of_vc tabOk elems ord45 Tryz.func45 rfl (rl:=[.tmp 2,.tmp 3]) rfl (by kernel_rfl) rfl (λ_ h=>absurd rfl h) ?_;refine Ad ?_;refine .pure _ (s16 z (by omega) (λt ht=>by have:=hr t ht;omega)) rfl λq hq _=>?_;obtain ⟨e,rfl,he,hg⟩:=hq;refine Ab ?_;refine VIF.split (λh=>?_) (λh=>?_)
 ·have h:e≠0:=(by simpa using h);have h1:e=1:=(by omega);subst h1;refine Aa ?_;refine FINmk [(0,none)] [(2,.rf 0 0 0),(3,iA 1)] [(0,so [])] [0] rfl ?_ ?_
  ·refine Ab ?_;simp[so]
  ·exact ⟨[],⟨⟨1,rfl,.inl ⟨λg=>h (hg.2 g),rfl,rfl⟩⟩,rfl⟩,rfl⟩
 ·have h:e=0:=(by simpa using h);have hg:=hg.1 h;refine Aa ?_;refine CALL.fam (f83 z hl hr) rfl 10000 (by simp) λq z2 hq=>?_;obtain ⟨rfl,rfl⟩:=hq;refine Aw ?_;refine GO ?_;simp -implicitDefEqProofs only[go_sem,AV.rn,Nat.add_zero];refine CALL.fam2 (z:=z2) (tl:=0) (f82 96 [] rfl (λt=>decide (t.w<0)) (λt=>True) (λt ht=>c84 t) z2 (λt ht=>trivial) hl) 10000 (λi=>10000+(i+1)) (fam_nd (l:=[10000]) (by decide) (by decide)) (es:=famC 10000 z2) Aj (by simp[famC_cells]) (λi hi=>famO_row hi) ⟨famU_mem.2 (by omega),λi hi=>famU_mem.2 (by omega)⟩ ⟨rfl,famW_mem.2 (.inl rfl),trivial,trivial⟩ 20000000 ?_ λq y tl' O hq=>?_
  ·simp[famU_mem];omega
  obtain ⟨rfl,hy⟩:=hq;have hyl:y.length<=z2.length:=by rw[hy];exact List.length_filter_le _ _
  refine Cu ?_
  refine LOOP.mk (ι:={i:Nat//i<=y.length}) (λp=>mkS [(5,.rf 1000 0 y.length),(16,iA y.length),(17,iA p.1)] ([(1000,⟨2,famC 2000 (upto1 y p.1)++List.replicate tl' zc⟩)]++famL 2000 (upto1 y p.1)) ([1000]++famN 2000 y.length))
   (λp=>y.length-p.1) ⟨0,Nat.zero_le _⟩ ([(1000,some 20000000)]++famM 2000 y.length λi=>20000000+(i+1)) rfl (fam_nmOk rfl (fam_nd (by decide) (by decide))) ?_ (λp=>?_)
  ·(simp -implicitDefEqProofs only[go_sem,iA,upto1_zero];repeat (refine GO ?_;simp -implicitDefEqProofs only[go_sem,iA,upto1_zero]));refine ⟨by simp[famU_mem],rfl,Es.app (fam_es rfl λi hi=>fam_nms (m1:=[(1000,some 20000000)]) (by simp) hi) (Es_rep tl'),fam_eobs (ν:=λi=>20000000+(i+1)) λi hi=>⟨fam_nms (m1:=[(1000,some 20000000)]) (by simp) hi,famP_row hi⟩⟩
  ·obtain ⟨i,hi⟩:=p;refine Ab ?_;refine VIF.split (λh1=>?_) (λh1=>?_)
   ·have h1:i<y.length:=(by simpa using h1);have w1:=wrap_add1 (show i<4611686018427387904 by omega);have hi2:i<(upto1 y i).length:=by rw[upto1_len hi];exact h1
    refine Aa ?_;refine ⟨by omega,famC_app hi2 ?_⟩;rw[upto1_get h1];refine Af ?_;refine BACK.mk ⟨i+1,by omega⟩ ([(1000,some 1000)]++famM 2000 y.length λi=>2000+(i+1)) rfl (fam_nmOk rfl (fam_nd (by decide) (by decide))) (by show y.length-(i+1)<y.length-i;omega) ?_;refine Bc ?_;have e1:=famC_set1 (b:=2000) (tail:=List.replicate tl' zc) h1;simp only[iA] at e1;rw[e1];have hl1:(upto1 y (i+1)).length=y.length:=upto1_len (by omega);have hl0:(upto1 y i).length=y.length:=upto1_len (by omega);refine ⟨id,Es.app (fam_es rfl λi hi=>fam_nms (m1:=[(1000,some 1000)]) (by simp) (by rw[hl1] at hi;exact hi)) (Es_rep tl'),fam_eobs (ν:=λi=>2000+(i+1)) λj hj=>⟨fam_nms (m1:=[(1000,some 1000)]) (by simp) (by rw[hl1] at hj;exact hj),?_⟩⟩;refine Aa ?_;rw[famL_get (by omega)];rw[upto1_rows (by omega) j (by omega),upto1_rows (by omega) j (by omega)]
   ·have h1:i=y.length:=by simp at h1;omega
    subst h1;have hd:upto1 y y.length=distL z2:=by simp only[upto1,List.take_length,List.drop_length,List.append_nil,distL,hy]
    rw[hd];have hdl:(distL z2).length=y.length:=(by rw[<- hd,upto1_len (Nat.le_refl _)]);refine Aa ?_;rw[<- hdl];refine CALL.fam2 (z:=distL z2) (tl:=tl') (f85 (distL z2) tl' (by omega)) 1000 (λi=>2000+(i+1)) (fam_nd (l:=[1000]) (by decide) (by decide)) (es:=famC 2000 (distL z2)++List.replicate tl' zc) Aj (by simp[famC_cells]) (λi hi=>by (simp -implicitDefEqProofs only[go_sem];repeat (refine GO ?_;simp -implicitDefEqProofs only[go_sem]));exact famL_get hi) ⟨by simp,λi hi=>by simp[famN_mem,hi]⟩ ⟨rfl,famW_mem.2 (.inl rfl),trivial⟩ 30000000 ?_ λq y2 tl2 O hq=>?_
    ·simp[famN_mem];omega
    obtain ⟨rfl,rfl,rfl⟩:=hq;(simp -implicitDefEqProofs only[go_sem,AV.rn,List.append_nil,List.replicate_zero,Nat.add_zero];repeat (refine GO ?_;simp -implicitDefEqProofs only[go_sem,AV.rn,List.append_nil,List.replicate_zero,Nat.add_zero]));refine FINfam 30000000 (λi=>30000000+(i+1)) (distL z2) [(2,.rf 0 0 (distL z2).length),(3,iA 0)] (es:=famC 30000000 (distL z2)) (fam_nd (l:=[30000000]) (by decide) (by decide)) (by show famP 30000000 (distL z2) 0 O 30000000=_;rw[famP_0,List.replicate_zero,List.append_nil]) rfl (λi hi=>famP_row hi) ?_ ?_
    ·exact A7
    ·exact ⟨_,⟨⟨0,rfl,.inr ⟨hg,rfl,rfl⟩⟩,rfl⟩,rfl⟩
theorem f51 (z:List It) (p:Pr) (hl:z.length<=1048576) (hr:∀t∈z,t.row.length<1073741824) :
 SpecF Tryz.prog 40 [setA z,.ag p.c] (λr out=>∃err:Int,r=.tu [.rf 0 0 out.length,iA err]/\((¬Good z/\out=[]/\err=1)\/(Good z/\out=(z.filter λt=>holdsP p t.row)/\err=0))):=by
 refine funspecD_of_vc tabOk elems ord40 Tryz.func40 rfl (rl:=[.tmp 4,.tmp 5]) rfl (by kernel_rfl) rfl (λ_ h=>absurd rfl h) ?_;refine Dn ?_;refine .pure _ (s16 z (by omega) (λt ht=>by have:=hr t ht;omega)) rfl λq hq _=>?_;obtain ⟨e,rfl,he,hg⟩:=hq;refine Ab ?_;refine VIF.split (λh=>?_) (λh=>?_)
 ·have h:e≠0:=(by simpa using h);have h1:e=1:=(by omega);subst h1;refine Aa ?_;refine FINmk [(0,none)] [(4,.rf 0 0 0),(5,iA 1)] [(0,so [])] [0] rfl ?_ ?_
  ·refine Ab ?_;simp[so]
  ·exact ⟨[],⟨⟨1,rfl,.inl ⟨λg=>h (hg.2 g),rfl,rfl⟩⟩,rfl⟩,rfl⟩
 ·have h:e=0:=(by simpa using h);have hg:=hg.1 h;refine Aa ?_;refine CALL.fam (f83 z hl hr) rfl 10000 (by simp) λq z2 hq=>?_;obtain ⟨rfl,rfl⟩:=hq;simp -implicitDefEqProofs only[go_sem,AV.rn,Nat.add_zero];refine TO ([(14,some 10000)]++famM 20000 z2.length λi=>10000+(i+1)) [(14,.rf 14 0 z2.length),(15,.fn 89 [.ro p.c 0])] ([(14,⟨2,famC 20000 z2⟩)]++famL 20000 z2) ([14]++famN 20000 z2.length) (fam_nmOk rfl (fam_nd (by decide) (by decide))) ?_ ?_
  ·refine Bd ?_;refine ⟨by simp[famU_mem],⟨by simp[olds,famM_olds];omega,_,rfl,by simp[Ob.leafy,AV.leaf],rfl⟩,fam_es rfl λi hi=>fam_nms (m1:=[(14,some 10000)]) (by simp) hi,fam_eobs (ν:=λi=>10000+(i+1)) λi hi=>⟨fam_nms (m1:=[(14,some 10000)]) (by simp) hi,by (simp -implicitDefEqProofs only[go_sem];repeat (refine GO ?_;simp -implicitDefEqProofs only[go_sem]));exact famO_row hi⟩⟩
  refine Aa ?_;refine CALL.fam2 (z:=z2) (tl:=0) (f82 89 [.ro p.c 0] rfl (λt=>!holdsP p t.row) (λt=>t.row.length<4611686018427387904) (λt ht=>c95 p t ht) z2 (λt ht=>by have:=hr t ht;omega) hl) 14 (λi=>20000+(i+1)) (fam_nd (l:=[14]) (by decide) (by decide)) (es:=famC 20000 z2) Aj (by simp[famC_cells]) (λi hi=>by (simp -implicitDefEqProofs only[go_sem];repeat (refine GO ?_;simp -implicitDefEqProofs only[go_sem]));exact famL_get hi) ⟨by simp,λi hi=>by simp[famN_mem,hi]⟩ ⟨rfl,famW_mem.2 (.inl rfl),⟨trivial,trivial⟩,trivial⟩ 20000000 ?_ λq y tl' O hq=>?_
  ·simp[famN_mem];omega
  obtain ⟨rfl,hy⟩:=hq;have hy:y=z2.filter λt=>holdsP p t.row:=by rw[hy];congr 1;funext t;simp
  have hyl:y.length<=z2.length:=by rw[hy];exact List.length_filter_le _ _
  refine Cu ?_;refine CALL.fam2 (z:=y) (tl:=tl') (f85 y tl' (by omega)) 20000000 (λi=>20000000+(i+1)) (fam_nd (l:=[20000000]) (by decide) (by decide)) (es:=famC 20000000 y++List.replicate tl' zc) Aj (by simp[famC_cells]) (λi hi=>famP_row hi) ⟨by simp[famU_mem],λi hi=>by simp[famU_mem];omega⟩ ⟨rfl,famW_mem.2 (.inl rfl),trivial⟩ 30000000 ?_ λq y2 tl2 O hq=>?_
  ·simp[famU_mem,famN_mem];omega
  obtain ⟨rfl,rfl,rfl⟩:=hq;refine Cu ?_;refine FINfam 30000000 (λi=>30000000+(i+1)) y2 [(4,.rf 0 0 y2.length),(5,iA 0)] (es:=famC 30000000 y2) (fam_nd (l:=[30000000]) (by decide) (by decide)) (by show famP 30000000 y2 0 O 30000000=_;rw[famP_0,List.replicate_zero,List.append_nil]) rfl (λi hi=>famP_row hi) ?_ ?_
  ·exact A7
  ·exact ⟨_,⟨⟨0,rfl,.inr ⟨hg,hy,rfl⟩⟩,rfl⟩,rfl⟩
def spV:V:=⟨9,-7,ByteArray.empty⟩
theorem s89 (r:List V) (hl:r.length<=1073741824):SpecO Tryz.prog 81 [.rf 0 0 r.length] (ro3 r) (λv o'=>v=.tu []/\∃r':List V,r'.length=r.length/\o'=ro3 r'):=by
 refine specO_of_vc tabOk elems ord81 Tryz.func81 rfl (rl:=[]) rfl (by kernel_rfl) rfl ?_;refine Da ?_;refine LOOP.mk (ι:={p:Nat×List V//p.1<=r.length/\p.2.length=r.length}) (λp=>mkS [(0,.rf 0 0 r.length),(2,iA p.1.1)] [(0,ro3 p.1.2)] [0]) (λp=>r.length-p.1.1) ⟨(0,r),Nat.zero_le _,rfl⟩ [(0,some 0)] rfl rfl ?_ (λp=>?_)
 ·refine Ds ?_;exact ⟨rfl,.same (ro3 r) _ _ (ro3_leafy r) rfl⟩
 ·obtain ⟨⟨i,l⟩,hi,hll⟩:=p;simp only at hi hll;refine Ds ?_;refine VIF.split (λh1=>?_) (λh1=>?_)
  ·have h1:i<r.length:=(by simpa using h1);have h2:i<l.length:=(by omega);have w1:=wrap_add1 (show i<4611686018427387904 by omega);refine Aa ?_;refine ⟨by omega,EL.map h2 ?_⟩;refine Af ?_;refine ⟨Nat.le_refl 3,?_⟩;refine BACK.mk ⟨(i+1,l.set i spV),by omega,by simp[hll]⟩ [(0,some 0)] rfl rfl (by show r.length-(i+1)<r.length-i;omega) ?_;(simp -implicitDefEqProofs only[go_sem,iA,ro3,w1];repeat (refine GO ?_;simp -implicitDefEqProofs only[go_sem,iA,ro3,w1]));have e1:(List.map V.c l).set i (V.c spV)=List.map V.c (l.set i spV):=(by rw[List.map_set]);have e2:List.drop 3 l[i].c=[]:=rfl;rw[e2];exact .same (ro3 []) _ _ (λx hx=>ro3_leafy (l.set i spV) x (by rw[ro3];exact e1▸hx)) e1
  ·refine Aa ?_;refine FIN_O rfl rfl (ro3_leafy l) ?_;exact ⟨ro3 l,⟨⟨rfl,l,hll,rfl⟩,rfl⟩,ro3_leafy l,rfl⟩
theorem CALL.takeI {P:Program} {f:Nat} {args args':List AV} {st:St} {d:Option Nat} {K:St->Prop} {R:AV->Prop} {z:List It} (h:FunSpecD P f args' noOb (famI z 0) (famW z.length) λr O'=>(R r/\r.flat=true)/\O'=noOb) (a:Nat) (ν:Nat->Nat)
 (hnd:(a::(List.range z.length).map ν).Nodup) {es:List (List AV)} (ha:st.objs a=some ⟨2,es⟩) (hes:es=cellsN ν z) (hrow:∀i (h:i<z.length),st.objs (ν i)=some (ro3 z[i].row))
 (hu:a∈st.used/\∀i<z.length,ν i∈st.used) (hargs:args=rns (rhoF a ν) args'/\inNs (·∈famW z.length) args') (b:Nat) (hb:∀n∈st.used,n<b)
 (k:∀r O,R r->(∀n,n<b->n≠a->(∀i<z.length,n≠ν i)->O n=st.objs n)->K {regs:=(st.put d r).regs,objs:=O,used:=st.used}):CALL P f args st d K:=by
 subst hes;have h':FunSpecD P f args' (kept false (famI z 0)) (famI z 0) (famW z.length) λr O'=>(R r/\r.flat=true)/\O'=noOb:=by rw[kept_false];exact h
 have inj:∀i∈famW z.length,∀j∈famW z.length,rhoF a ν i=rhoF a ν j->i=j:=λi hi j hj e=>by
  rw[famW_mem] at hi hj;rw[List.nodup_cons] at hnd;have hν:∀i j,i<z.length->j<z.length->ν i=ν j->i=j:=λi j hi hj e=>by
   have:=hnd.2;rw[List.Nodup,List.pairwise_map] at this;rcases Nat.lt_trichotomy i j with h|h|h
   ·have:=List.pairwise_iff_getElem.1 this i j (by simpa using hi) (by simpa using hj) h;simp only[List.getElem_range] at this;exact absurd e this
   ·exact h
   ·have:=List.pairwise_iff_getElem.1 this j i (by simpa using hj) (by simpa using hi) h;simp only[List.getElem_range] at this;exact absurd e.symm this
  have hn:∀i,i<z.length->ν i≠a:=λi hi e=>hnd.1 (e▸List.mem_map_of_mem (List.mem_range.2 hi));rcases hi with rfl|⟨i,hi,rfl⟩<;>rcases hj with rfl|⟨j,hj,rfl⟩
  ·rfl
  ·rw[rhoF_0,rhoF_row] at e;exact absurd e.symm (hn j hj)
  ·rw[rhoF_0,rhoF_row] at e;exact absurd e (hn i hi)
  ·rw[rhoF_row,rhoF_row] at e;rw[hν i j hi hj e]
 have key:=dep_sem (objs:=st.objs) (used:=st.used) (args:=args) h' (rhoF a ν) inj (λi o ho=>famI_closed ho) (λh=>by cases h)
  (λi o ho=>by
   rcases famI_cases ho with ⟨rfl,rfl⟩|⟨i,hi,rfl,rfl⟩
   ·rw[rhoF_0,ha,Ob.rn];simp only[List.map_append,List.map_replicate,zc_rn,famC_rho,List.replicate_zero,List.append_nil]
   ·rw[rhoF_row,ro3_rn];exact hrow i hi)
  (λi hi=>by
   rcases famW_mem.1 hi with rfl|⟨k,hk,rfl⟩
   ·exact hu.1
   ·rw[rhoF_row];exact hu.2 k hk) hargs b hb
  (λ_ _=>[]) (λr O' hR=>by
   obtain ⟨⟨_,hf⟩,rfl⟩:=hR;exact ⟨(λi o ho=>by cases ho),(noId_rn (ρ:=id) _ (flat_noId _ hf)).2⟩)
 refine .sem _ key λu O U hX=>?_;obtain ⟨r,O',⟨⟨hR,hf⟩,rfl⟩,rfl,rfl,rfl⟩:=hX;have e1:r.rn (nmD false (rhoF a ν 0) b)=r:=(noId_rn (p:=λ_=>True) _ (flat_noId _ hf)).1;have:=k r (depO false (rhoF a ν 0) b (List.map (rhoF a ν) (famW z.length)) noOb st.objs) hR λn hn h1 h2=>by
  simp only[depO,Bool.false_eq_true,false_and,if_false];rw[if_neg (by omega),if_neg];intro hm;obtain ⟨i,hi,rfl⟩:=List.mem_map.1 hm;rcases famW_mem.1 hi with rfl|⟨k,hk,rfl⟩
  ·exact h1 rhoF_0
  ·exact h2 k hk rhoF_row
 simp only[e1,List.map_nil,List.nil_append];exact this
theorem EL_fam {b:Nat} {z:List It} {i:Nat} {K:List AV->Prop} (h:i<z.length) (k:K [.rf (b+(i+1)) 0 z[i].row.length,iA z[i].w]):EL (famC b z) i K:=
 ⟨_,by rw[List.getElem?_eq_getElem (by simpa [famC_len] using h),famC_get h],k⟩
@[go_sem] theorem upd_fam' {α:Type} {b i k:Nat} {f:Nat->α} {v:α} (h:(k<=b)=True):upd f (b+(i+1)) v k=f k:=by
  have:k<=b:=by rw[h];trivial
  exact upd_ne' _ _ (by omega)
theorem famC_put {b:Nat} {y:List It} {i:Nat} {r:List V} {w:Int} (h:i<y.length) (hr:r.length=y[i].row.length):(famC b y).set i [.rf (b+(i+1)) 0 y[i].row.length,iA w]=famC b (y.set i ⟨r,w⟩):=by
 refine List.ext_getElem (by simp[famC_len]) λj q1 q2=>?_;have hj:j<y.length:=by simpa [famC_len] using q1
 rw[List.getElem_set,famC_get (z:=y) hj,famC_get (z:=y.set i ⟨r,w⟩) (by simpa using hj)];by_cases e:i=j
 ·subst e;simp[hr]
 ·simp[e]
theorem f37 (z:List It) (hl:z.length<=1048576) (hr:∀t∈z,t.row.length<=1073741824):FunSpecD Tryz.prog 33 [.rf 1000 0 z.length] noOb (famI z 0) (famW z.length) λr O'=>(r=.tu []/\r.flat=true)/\O'=noOb:=by
 refine funspecD_of_vc tabOk elems ord33 Tryz.func33 rfl (rl:=[]) rfl (by kernel_rfl) rfl (λ_ h=>absurd rfl h) ?_;refine D4 ?_;refine LOOP.mk (ι:={p:Nat×List It//p.1<=z.length/\p.2.length=z.length/\∀j (h1:j<p.2.length) (h2:j<z.length),p.2[j].row.length=z[j].row.length}) (λp=>mkS [(0,.rf 1000 0 z.length),(2,iA p.1.1)] ([(1000,⟨2,famC 2000 p.1.2⟩)]++famL 2000 p.1.2) ([1000]++famN 2000 z.length)) (λp=>z.length-p.1.1) ⟨(0,z),Nat.zero_le _,rfl,λ_ _ _=>rfl⟩ ([(1000,some 1000)]++famM 2000 z.length λi=>2000+(i+1)) rfl (fam_nmOk rfl (fam_nd (by decide) (by decide))) ?_ (λp=>?_)
 ·refine Ab ?_;exact ⟨id,rfl,fam_es rfl λi hi=>fam_nms (m1:=[(1000,some 1000)]) (by simp) hi,fam_eobs (ν:=λi=>2000+(i+1)) λi hi=>⟨fam_nms (m1:=[(1000,some 1000)]) (by simp) hi,by (simp -implicitDefEqProofs only[go_sem];repeat (refine GO ?_;simp -implicitDefEqProofs only[go_sem]));exact famL_get hi⟩⟩
 ·obtain ⟨⟨i,y⟩,hi,hyl,hyr⟩:=p;simp only at hi hyl hyr;refine Ab ?_;refine VIF.split (λh1=>?_) (λh1=>?_)
  ·have h1:i<z.length:=(by simpa using h1);have h2:i<y.length:=(by omega);have w1:=wrap_add1 (show i<4611686018427387904 by omega);have hlen:=hyr i h2 h1;have hrz:=hr _ (List.getElem_mem h1);refine Aa ?_;refine ⟨by omega,?_⟩;refine EL_fam h2 ?_;refine Aa ?_;refine .obj (2000+(i+1)) (ro3 y[i].row) _ [.rf 0 0 y[i].row.length] (s89 y[i].row (by omega)) (by refine Aa ?_;exact famL_get h2) (ro3_leafy _) rfl rfl λr o' hr _ _=>?_;obtain ⟨rfl,r',hr',rfl⟩:=hr;refine Aa ?_;refine ⟨by omega,EL_fam h2 ?_⟩;refine Af ?_;refine BACK.mk ⟨(i+1,y.set i ⟨r',-7777⟩),by omega,by simp[hyl],λj q1 q2=>?_⟩ ([(1000,some 1000)]++famM 2000 z.length λi=>2000+(i+1)) rfl (fam_nmOk rfl (fam_nd (by decide) (by decide))) (by show z.length-(i+1)<z.length-i;omega) ?_
   ·show (y.set i ⟨r',-7777⟩)[j].row.length=_;rw[List.getElem_set];by_cases e:i=j
    ·subst e;simp only[if_pos];omega
    ·rw[if_neg e];exact hyr j (by omega) q2
   refine Bc ?_;have e1:=famC_put (b:=2000) (i:=i) (y:=y) (r:=r') (w:=-7777) h2 hr';simp only[iA] at e1;rw[e1];refine ⟨id,fam_es rfl λi hi=>fam_nms (m1:=[(1000,some 1000)]) (by simp) (by simp at hi;omega),fam_eobs (ν:=λi=>2000+(i+1)) λj hj=>⟨fam_nms (m1:=[(1000,some 1000)]) (by simp) (by simp at hj;omega),?_⟩⟩;have hj':j<y.length:=(by simpa using hj);rw[List.getElem_set];by_cases e:i=j
   ·subst e;simp only[if_pos];show upd (upd _ (2000+(i+1)) (some (ro3 r'))) 1000 _ (2000+(i+1))=_;rw[upd_ne' _ _ (by omega)];simp[upd]
   ·simp only[if_neg e];show upd (upd _ (2000+(i+1)) (some (ro3 r'))) 1000 _ (2000+(j+1))=_;rw[upd_ne' _ _ (by omega),upd_ne' _ _ (by omega)];refine Aa ?_;exact famL_get hj'
  ·refine Aa ?_;refine FINmk [] [] [] [] rfl ⟨trivial,trivial⟩ ?_;exact ⟨⟨rfl,rfl⟩,rfl⟩
theorem makeR_same {z o o':List It} {e e':Int} (h:MakeR z o e) (h':MakeR z o' e'):o=o'/\e=e':=by
 rcases h with ⟨h1,rfl,rfl⟩|⟨h1,rfl,rfl,r,hr⟩|⟨h1,rfl,hm,ht,_⟩
 ·obtain ⟨h2,h3⟩:=makeR_bad h' h1;exact ⟨h2.symm,h3.symm⟩
 ·obtain ⟨h2,h3⟩:=makeR_over h' h1 hr;exact ⟨h2.symm,h3.symm⟩
 ·obtain ⟨h2,h3⟩:=makeR_ok h' h1 hm ht;exact ⟨h2.symm,h3.symm⟩
theorem Spec1.rowC {f:Nat} {args:List AV} {z:List V} (h:Spec1 Tryz.prog f args (λr o=>r=.rf 0 0 z.length/\o=ro3 z)):Spec0 Tryz.prog f args (·=rowA z):=
 (Spec1.fz h).mono λr O' ⟨⟨⟨r0,o,⟨e1,e2⟩,_,_,e3⟩,hn⟩,hO⟩=>by subst e1;subst e2;subst e3;exact ⟨⟨fz_ro3 z,hn⟩,hO⟩
theorem c31 (z:List It) (hl:z.length<=1048576) (hr:∀t∈z,t.row.length<1073741824) :
 Spec1 Tryz.prog 38 [setA z] (λr o=>r=.rf 0 0 z.length/\o=so z):=by
 refine spec1_of_vc tabOk elems ord38 Tryz.func38 rfl (rl:=[.tmp 2]) rfl (by kernel_rfl) rfl ?_;refine Ad ?_;refine LOOP.mk (ι:={i:Nat//i<=z.length}) (λp=>mkS [(0,setA z),(3,.rf 1000 0 p.1),(4,iA p.1)] [(1000,so (z.take p.1))] [1000]) (λp=>z.length-p.1) ⟨0,Nat.zero_le _⟩ [(1000,none)] rfl rfl ?_ (λp=>?_)
 ·refine Br ?_;simp
 obtain ⟨i,hi⟩:=p;refine Br ?_;refine VIF.split (λh1=>?_) (λh1=>?_)
 ·have h1:i<z.length:=(by simpa using h1);have w1:=wrap_add1 (show i<4611686018427387904 by omega);refine Aa ?_;refine EL.map h1 ?_;refine Ap ?_;refine EL.map h1 ?_;refine Ap ?_;refine .pure _ (show Spec0 Tryz.prog 85 [.im 3 (List.map V.c z[i].row)] _ from Spec1.rowC (s52 z[i].row (by have:=hr _ (List.getElem_mem h1);omega))) rfl λr hq _=>?_;subst hq;refine A9 ?_;refine ⟨by omega,?_⟩;refine Af ?_;refine BACK.mk ⟨i+1,by omega⟩ [(1000,some 25)] rfl rfl (by show z.length-(i+1)<z.length-i;omega) ?_;refine Ez ?_;rw[List.take_of_length_le (l:=List.map It.c (List.take i z)) (by simp;omega)];exact ⟨id,so_snoc (l:=z.take i) (t:=z[i]) (List.take_succ_eq_append_getElem h1)⟩
 ·have h1:i=z.length:=by simp at h1;omega
  subst h1;refine Bi ?_;refine FINmk [(0,some 1000)] [(2,.rf 0 0 z.length)] [(0,so z)] [0] rfl ?_ ?_
  ·refine Bm ?_;exact .same (so z) _ _ (so_leafy z) rfl
  ·exact ⟨so z,⟨⟨rfl,rfl⟩,rfl⟩,so_leafy z,rfl⟩
def posL (z:List It):List It:=(z.filter λt=>decide (0<t.w)).map λt=>oneI t.row
theorem c36 (z:List It) (hl:z.length<=1048576) (hr:∀t∈z,t.row.length<1073741824) :
 Spec1 Tryz.prog 124 [setA z] (λr o=>∃out:List It,r=.rf 0 0 out.length/\o=so out/\out=posL z):=by
 refine spec1_of_vc tabOk elems ord124 Tryz.func124 rfl (rl:=[.tmp 2]) rfl (by kernel_rfl) rfl ?_;refine Ad ?_;refine LOOP.mk (ι:={i:Nat//i<=z.length}) (λp=>mkS [(0,setA z),(3,.rf 1000 0 (posL (z.take p.1)).length),(4,iA p.1)] [(1000,so (posL (z.take p.1)))] [1000]) (λp=>z.length-p.1) ⟨0,Nat.zero_le _⟩ [(1000,none)] rfl rfl ?_ (λp=>?_)
 ·refine Br ?_;simp[posL]
 obtain ⟨i,hi⟩:=p;refine Br ?_;refine VIF.split (λh1=>?_) (λh1=>?_)
 ·have h1:i<z.length:=(by simpa using h1);have w1:=wrap_add1 (show i<4611686018427387904 by omega);refine Aa ?_;refine EL.map h1 ?_;refine A5 ?_;refine VIF.split (λh2=>?_) (λh2=>?_)
  ·have h2:0<z[i].w:=(by simpa using h2);have hp:posL (z.take (i+1))=posL (z.take i)++[oneI z[i].row]:=by
    rw[posL,List.take_succ_eq_append_getElem h1,List.filter_append,List.map_append];simp[posL,h2]
   refine Aa ?_;refine EL.map h1 ?_;refine Ax ?_;refine .pure _ (show Spec0 Tryz.prog 85 [.im 3 (List.map V.c z[i].row)] _ from Spec1.rowC (s52 z[i].row (by have:=hr _ (List.getElem_mem h1);omega))) rfl λr hq _=>?_;subst hq;(simp -implicitDefEqProofs only[go_sem,rowA,w1];repeat (refine GO ?_;simp -implicitDefEqProofs only[go_sem,rowA,w1]));have hpl:(posL (z.take i)).length<=z.length:=by rw[posL,List.length_map];exact Nat.le_trans (List.length_filter_le _ _) (by rw[List.length_take];omega)
   refine ⟨by omega,?_⟩;refine Af ?_;refine BACK.mk ⟨i+1,by omega⟩ [(1000,some 26)] rfl rfl (by show z.length-(i+1)<z.length-i;omega) ?_;refine Ez ?_;have hl1:(posL (z.take (i+1))).length=(posL (z.take i)).length+1:=by rw[hp];simp
   refine ⟨id,by rw[hl1],so_snoc (l:=posL (z.take i)) (t:=oneI z[i].row) hp⟩
  ·have h2:¬0<z[i].w:=(by simpa using h2);have hp:posL (z.take (i+1))=posL (z.take i):=by
    rw[posL,List.take_succ_eq_append_getElem h1,List.filter_append,List.map_append];simp[posL,h2]
   refine Af ?_;refine BACK.mk ⟨i+1,by omega⟩ [(1000,some 1000)] rfl rfl (by show z.length-(i+1)<z.length-i;omega) ?_;(simp -implicitDefEqProofs only[go_sem,hp,iA,setA,so,w1];repeat (refine GO ?_;simp -implicitDefEqProofs only[go_sem,hp,iA,setA,so,w1]));exact ⟨id,.same (so (posL (z.take i))) _ _ (so_leafy _) rfl⟩
 ·have h1:i=z.length:=by simp at h1;omega
  subst h1;refine Bi ?_;refine FINmk [(0,some 1000)] [(2,.rf 0 0 (posL z).length)] [(0,so (posL z))] [0] rfl ?_ ?_
  ·refine Bm ?_;exact .same (so (posL z)) _ _ (so_leafy (posL z)) rfl
  ·exact ⟨so (posL z),⟨⟨posL z,rfl,rfl,rfl⟩,rfl⟩,so_leafy (posL z),rfl⟩
theorem c38 (a b:List It) (hl:a.length+b.length<=1048576) (ha:∀t∈a,t.row.length<1073741824) (hb:∀t∈b,t.row.length<1073741824) :
 Spec0 Tryz.prog 67 [setA a,setA b] (λr=>∃(out:List It) (err:Int),r=.tu [setA out,iA err]/\MakeR (a++b) out err):=by
 refine spec0_of_vc tabOk elems ord67 Tryz.func67 rfl (rl:=[.tmp 4,.tmp 5]) rfl (by kernel_rfl) rfl ?_;refine Ad ?_;refine ⟨by omega,by omega,?_⟩;refine Aw ?_;refine TO [] [(11,setA (a++b))] [] [] rfl ?_ ?_
 ·refine Ad ?_;exact ⟨id,by simp[olds],_,rfl,by have:=so_leafy (a++b);rwa [so,List.map_append] at this,rfl,by rw[List.map_append,List.take_of_length_le (by simp)]⟩
 refine Ad ?_;refine .pure _ (show Spec0 Tryz.prog 120 [.im 2 (List.map It.c (a++b))] _ from Spec1.setE (s26 (a++b) (by simpa using hl) (λt ht=>by rcases List.mem_append.1 ht with h|h;exact ha t h;exact hb t h))) rfl λq hq _=>?_;obtain ⟨out,err,rfl,hm⟩:=hq;refine Ao ?_;exact ⟨rfl,out,err,rfl,hm⟩
theorem c90 (z:List It) (hl:z.length<=1048576) (hr:∀t∈z,t.row.length<1073741824) (hw:∀t∈z,-72057594037927936<=t.w/\t.w<=72057594037927936) :
 Spec1 Tryz.prog 126 [setA z] (λr o=>∃out:List It,r=.rf 0 0 out.length/\o=so out/\out=z.map negI):=by
 refine spec1_of_vc tabOk elems ord126 Tryz.func126 rfl (rl:=[.tmp 2]) rfl (by kernel_rfl) rfl ?_;refine Ad ?_;refine .make 6 _ (show Spec1 Tryz.prog 38 [.im 2 (List.map It.c z)] _ from c31 z hl hr) rfl (by simp) rfl λq o hq _=>?_;obtain ⟨rfl,rfl⟩:=hq;refine Aa ?_
 refine LOOP.mk (ι:={p:Nat×List It//p.1<=z.length/\p.2.length=z.length/\∀j (h1:j<p.2.length) (h2:j<z.length),p.2[j]=if j<p.1 then negI z[j] else z[j]}) (λp=>mkS [(3,.rf 1000 0 z.length),(4,iA p.1.1)] [(1000,so p.1.2)] [1000])
  (λp=>z.length-p.1.1) ⟨(0,z),Nat.zero_le _,rfl,λj h1 h2=>by rw[if_neg (Nat.not_lt_zero _)]⟩ [(1000,some 6)] rfl rfl ?_ (λp=>?_)
 ·refine Ag ?_;exact ⟨id,rfl,.same (so z) _ _ (so_leafy z) rfl⟩
 ·obtain ⟨⟨i,o⟩,hi,hol,hos⟩:=p;simp only at hi hol hos;refine Ag ?_;refine VIF.split (λh=>?_) (λh=>?_)
  ·have h:i<z.length:=(by simpa using h);have ho:i<o.length:=(by omega);have hoi:o[i]=z[i]:=(by rw[hos i ho h,if_neg (Nat.lt_irrefl _)]);have w1:=wrap_add1 (show i<4611686018427387904 by omega);have hw1:=hw _ (List.getElem_mem h);have w2:IntKind.i64.wrap (0-z[i].w)=-z[i].w:=by rw[wrap_i64]<;>omega
   have w3:IntKind.i64.wrap (0-o[i].w)=-z[i].w:=by rw[hoi];exact w2
   refine Aa ?_;refine ⟨by omega,EL.map ho ?_⟩;refine Df ?_;refine ⟨by omega,EL.map ho ?_⟩;refine E8 ?_;refine BACK.mk ⟨(i+1,o.set i (negI z[i])),by omega,by simp[hol],λj h1 h2=>?_⟩ [(1000,some 1000)] rfl rfl (by show z.length-(i+1)<z.length-i;omega) ?_
   ·show (o.set i (negI z[i]))[j]=_;rw[List.getElem_set];by_cases e1:i=j
    ·subst e1;rw[if_pos rfl,if_pos (by omega)]
    ·rw[if_neg e1,hos j (by omega) h2];by_cases e2:j<i
     ·rw[if_pos e2,if_pos (by omega)]
     ·rw[if_neg e2,if_neg (by omega)]
   refine Cm ?_;have e1:(List.map It.c o).set i [rowA o[i].row,iA (-z[i].w)]=List.map It.c (o.set i (negI z[i])):=by rw[List.map_set,hoi];rfl
   exact ⟨id,.same (so []) _ _ (λx hx=>so_leafy (o.set i (negI z[i])) x (by rw[so];exact e1▸hx)) e1⟩
  ·have h:i=z.length:=by simp at h;omega
   have ho:o=z.map negI:=List.ext_getElem (by simp[hol]) λj h1 h2=>by rw[hos j h1 (by omega),if_pos (by omega),List.getElem_map]
   refine Aa ?_;refine FINmk [(0,some 1000)] [(2,.rf 0 0 z.length)] [(0,so (z.map negI))] [0] rfl ?_ ?_
   ·refine Ag ?_;rw[ho];exact .same (so (z.map negI)) _ _ (so_leafy (z.map negI)) rfl
   ·exact ⟨so (z.map negI),⟨⟨z.map negI,by rw[List.length_map];rfl,rfl,rfl⟩,rfl⟩,so_leafy (z.map negI),rfl⟩
theorem c39 (a b:List It) (hl:a.length+b.length<=1048576) (ha:∀t∈a,t.row.length<1073741824) (hb:∀t∈b,t.row.length<1073741824) (hw:∀t∈b,-72057594037927936<=t.w/\t.w<=72057594037927936) :
 Spec0 Tryz.prog 69 [setA a,setA b] (λr=>∃(out:List It) (err:Int),r=.tu [setA out,iA err]/\MakeR (a++b.map negI) out err):=by
 refine spec0_of_vc tabOk elems ord69 Tryz.func69 rfl (rl:=[.tmp 4,.tmp 5]) rfl (by kernel_rfl) rfl ?_;refine Ad ?_;refine .pure _ (show Spec0 Tryz.prog 126 [.im 2 (List.map It.c b)] _ from Spec1.set1 (c90 b (by omega) hb hw)) rfl λq hq _=>?_;obtain ⟨_,rfl,rfl⟩:=hq;refine Ad ?_;refine .pure _ (show Spec0 Tryz.prog 67 [setA a,setA (b.map negI)] _ from c38 a (b.map negI) (by simpa using hl) ha (λt ht=>by obtain ⟨u,hu,rfl⟩:=List.mem_map.1 ht;exact hb u hu)) rfl λq hq _=>?_;obtain ⟨out,err,rfl,hm⟩:=hq;refine Ao ?_;exact ⟨rfl,out,err,rfl,hm⟩
theorem f47 (a b:List It) (hl:a.length+b.length<=1048576) (ha:∀t∈a,t.row.length<1073741824) (hb:∀t∈b,t.row.length<1073741824) :
 SpecF Tryz.prog 36 [setA a,setA b] (λr out=>∃err:Int,r=.tu [.rf 0 0 out.length,iA err]/\AddR a b out err):=by
 refine funspecD_of_vc tabOk elems ord36 Tryz.func36 rfl (rl:=[.tmp 4,.tmp 5]) rfl (by kernel_rfl) rfl (λ_ h=>absurd rfl h) ?_;refine Ad ?_;refine .pure _ (s16 a (by omega) (λt ht=>by have:=ha t ht;omega)) rfl λq hq _=>?_;obtain ⟨e1,rfl,_,h1⟩:=hq;have bad:∀s:St,s.regs 4=.nl->s.regs 5=.pr (.int .i64 1)->¬(Good a/\Good b)->FIN T noOb [.tmp 4,.tmp 5] (λr O'=>∃z,((∃err:Int,r=.tu [.rf 0 0 z.length,iA err]/\AddR a b z err)/\r.only0=true)/\O'=famF z) s:=by
  intro s h4 h5 hn;refine FINmk [(0,none)] [(4,.rf 0 0 0),(5,iA 1)] [(0,so [])] [0] rfl ?_ ?_
  ·refine B9 ?_;simp[so]
  ·exact ⟨[],⟨⟨1,rfl,.inl ⟨hn,rfl,rfl⟩⟩,rfl⟩,rfl⟩
 refine Ab ?_;refine VIF.split (λh=>?_) (λh=>?_)
 ·have h:e1≠0:=(by simpa using h);refine Aa ?_;exact bad _ rfl rfl λg=>h (h1.2 g.1)
 ·have h:e1=0:=(by simpa using h);have h1:=h1.1 h;refine Aa ?_;refine .pure _ (s16 b (by omega) (λt ht=>by have:=hb t ht;omega)) rfl λq hq _=>?_;obtain ⟨e2,rfl,_,h2⟩:=hq;refine Ab ?_;refine VIF.split (λh=>?_) (λh=>?_)
  ·have h:e2≠0:=(by simpa using h);refine Aa ?_;exact bad _ rfl rfl λg=>h (h2.2 g.2)
  ·have h:e2=0:=(by simpa using h);have h2:=h2.1 h;refine Aw ?_;refine GO ?_;refine Aw ?_;refine TO [] [(16,setsA [a,b])] [] [] rfl ?_ ?_
   ·refine Fb ?_;exact ⟨id,by decide,_,rfl,by simp[Ob.leafy,AV.leaf],rfl,rfl⟩
   simp -implicitDefEqProofs only[go_sem,setsA];have hcat:cat [a,b]=a++b:=(by simp[cat]);refine .make 17 _ (s51 [a,b] (by simp) (by rw[hcat];simpa using hl)) rfl (by simp) rfl λq o hq hlf=>?_;rw[hcat] at hq;obtain ⟨rfl,hsz,hes⟩:=hq;refine Aw ?_;refine TO [] [(17,setA (a++b))] [] [] rfl ?_ ?_
   ·refine Ad ?_;exact ⟨id,by decide,_,rfl,hlf,hsz,hes⟩
   refine Ad ?_;refine CALL.fam (f76 (a++b) (by simpa using hl) (λt ht=>by rcases List.mem_append.1 ht with h|h;exact ha t h;exact hb t h)) rfl 100000 (by simp) λr out hq=>?_;obtain ⟨err,rfl,hm⟩:=hq;refine Cn ?_;refine FINfam 100000 (λi=>100000+(i+1)) out [(4,.rf 0 0 out.length),(5,iA err)] (es:=famC 100000 out) (fam_nd (l:=[100000]) (by decide) (by decide)) Aj rfl (λi hi=>by (simp -implicitDefEqProofs only[go_sem];repeat (refine GO ?_;simp -implicitDefEqProofs only[go_sem]));exact famO_row hi) ?_ ?_
   ·exact A7
   ·exact ⟨out,⟨⟨err,rfl,.inr ⟨h1,h2,hm⟩⟩,rfl⟩,rfl⟩
theorem posL_dist {z:List It} (h:Good z):posL z=distL z:=by
 rw[posL,distL];congr 1;refine List.filter_congr λt ht=>?_;have:=((good_made.1 h).1.nz t ht).1;by_cases h1:t.w<0
 ·have:¬0<t.w:=(by omega);simp[h1,this]
 ·have:0<t.w:=(by omega);simp[h1,this]
theorem intsL_leafy (l:List Int):(Ob.mk 1 (l.map λn=>[iA n])).leafy:=by rw[leafy_do];exact leafs2_map λx _=>by simp[leafs,iA,AV.leaf]
theorem c53 (l:List Int) (hl:l.length<1073741824):Spec0 Tryz.prog 71 [intsL l] (·=intsL l):=by
 refine spec0_of_vc tabOk elems ord71 Tryz.func71 rfl (rl:=[.tmp 2]) rfl (by kernel_rfl) rfl ?_;refine A3 ?_;refine ⟨by omega,?_⟩;refine Aw ?_;refine TO [] [(2,intsL l)] [] [] rfl ?_ ?_
 ·refine A3 ?_;exact ⟨id,by simp[olds],_,rfl,intsL_leafy l,rfl,List.take_of_length_le (by simp)⟩
 (simp -implicitDefEqProofs only[go_sem,intsL];repeat (refine GO ?_;simp -implicitDefEqProofs only[go_sem,intsL]))
theorem c56 (l:List Int) (hl:l.length<1073741824):Spec0 Tryz.prog 64 [intsL l,intsL l] (·=bA true):=by
 refine spec0_of_vc tabOk elems ord64 Tryz.func64 rfl (rl:=[.tmp 4]) rfl (by kernel_rfl) rfl ?_;refine A3 ?_
 (first|refine VIF.t ?_|refine VIF.f ?_)
 refine Aa ?_;refine LOOP.mk (ι:={i:Nat//i<=l.length}) (λp=>mkS [(0,intsL l),(1,intsL l),(5,iA p.1)] [] []) (λp=>l.length-p.1) ⟨0,Nat.zero_le _⟩ [] rfl rfl ?_ (λp=>?_)
 ·refine Aq ?_;exact ⟨id,rfl⟩
 obtain ⟨i,hi⟩:=p;refine Aq ?_;refine VIF.split (λh1=>?_) (λh1=>?_)
 ·have h1:i<l.length:=(by simpa using h1);have w1:=wrap_add1 (show i<4611686018427387904 by omega);refine Aa ?_;refine EL.map h1 ?_;refine Ab ?_;refine EL.map h1 ?_;refine Ab ?_
  (first|refine VIF.t ?_|refine VIF.f ?_)
  refine Af ?_;refine BACK.mk ⟨i+1,by omega⟩ [] rfl rfl (by show l.length-(i+1)<l.length-i;omega) ?_;refine Cx ?_;exact id
 ·refine Aa ?_;rfl
theorem inB_C (c n:Int):inB c 0 (n-1)=inC c n:=by simp only[inB,inC];by_cases h1:0<=c<;>by_cases h2:c<n<;>simp[h1,h2]<;>omega
theorem c98 (p:Pr) (r:List V) (hr:r.length<4611686018427387904):Spec0 Tryz.prog 171 [.ag p.c,rowA r] (·=bA (holdsP p r)):=by
 have wn:IntKind.i64.wrap ((r.length:Int)-1)=(r.length:Int)-1:=by rw[wrap_i64]<;>omega
 refine spec0_of_vc tabOk elems ord171 Tryz.func171 rfl (rl:=[.tmp 4]) rfl (by kernel_rfl) rfl ?_;(simp -implicitDefEqProofs only[go_sem,Pr.c,rowA,wn];repeat (refine GO ?_;simp -implicitDefEqProofs only[go_sem,Pr.c,rowA,wn]));refine .pure _ (s53 p.col 0 ((r.length:Int)-1)) rfl λq hq _=>?_;subst hq;rw[inB_C];refine Ac ?_;refine VIF.split (λh=>?_) (λh=>?_)
 ·have h:inC p.col r.length=false:=(by simpa using h);refine Aa ?_;simp[holdsP,h,bA]
 ·have h:inC p.col r.length=true:=(by simpa using h);have hc:0<=p.col/\p.col.toNat<r.length:=by simp[inC] at h;omega
  have hcv:getV r p.col=r[p.col.toNat]'hc.2:=(by simp[getV,hc.2]);refine Aa ?_;refine ⟨by omega,EL.map hc.2 ?_⟩;refine Ah ?_;refine VIF.split (λk1=>?_) (λk1=>?_)
  ·have k1:p.kind=1:=(by simpa using k1);refine Aa ?_;refine .pure _ (s66 (r[p.col.toNat]'hc.2) p.val) rfl λq hq _=>?_;subst hq;refine Ab ?_;have hgu:otherP p=false:=(by simp[otherP,k1]);simp[holdsP,h,hgu,k1,hcv,bA]
  have k1:p.kind≠1:=(by simpa using k1);refine Aa ?_;refine VIF.split (λk2=>?_) (λk2=>?_)
  ·have k2:p.kind=2:=(by simpa using k2);refine Aa ?_;refine .pure _ (s66 (r[p.col.toNat]'hc.2) p.val) rfl λq hq _=>?_;subst hq;refine Ab ?_;have hgu:otherP p=false:=(by simp[otherP,k2]);simp[holdsP,h,hgu,k2,hcv,bA]
  have k2:p.kind≠2:=(by simpa using k2);refine Aa ?_;refine VIF.split (λk3=>?_) (λk3=>?_)
  ·have k3:p.kind=3:=(by simpa using k3);have hot:otherP p=true:=(by simp[otherP,k3]);refine F3 ?_;refine .pure _ (s53 p.other 0 ((r.length:Int)-1)) rfl λq hq _=>?_;subst hq;rw[inB_C];refine Ac ?_;refine VIF.split (λg=>?_) (λg=>?_)
   ·have ho:inC p.other r.length=true:=(by simpa using g);have hd:0<=p.other/\p.other.toNat<r.length:=by simp[inC] at ho;omega
    have hdv:getV r p.other=r[p.other.toNat]'hd.2:=(by simp[getV,hd.2]);refine Aa ?_;refine ⟨by omega,EL.map hd.2 ?_⟩;refine Ah ?_;refine .pure _ (s66 (r[p.col.toNat]'hc.2) (r[p.other.toNat]'hd.2)) rfl λq hq _=>?_;subst hq;refine Ab ?_;simp[holdsP,h,ho,hot,k3,hcv,hdv,bA]
   ·have ho:inC p.other r.length=false:=(by simpa using g);refine Aa ?_;simp[holdsP,h,ho,hot,bA]
  have k3:p.kind≠3:=(by simpa using k3);refine Aa ?_;refine VIF.split (λk4=>?_) (λk4=>?_)
  ·have k4:p.kind=4:=(by simpa using k4);have hot:otherP p=true:=(by simp[otherP,k4]);refine F3 ?_;refine .pure _ (s53 p.other 0 ((r.length:Int)-1)) rfl λq hq _=>?_;subst hq;rw[inB_C];refine Ac ?_;refine VIF.split (λg=>?_) (λg=>?_)
   ·have ho:inC p.other r.length=true:=(by simpa using g);have hd:0<=p.other/\p.other.toNat<r.length:=by simp[inC] at ho;omega
    have hdv:getV r p.other=r[p.other.toNat]'hd.2:=(by simp[getV,hd.2]);refine Aa ?_;refine ⟨by omega,EL.map hd.2 ?_⟩;refine Ah ?_;refine .pure _ (s66 (r[p.col.toNat]'hc.2) (r[p.other.toNat]'hd.2)) rfl λq hq _=>?_;subst hq;refine Ab ?_;simp[holdsP,h,ho,hot,k4,hcv,hdv,bA]
   ·have ho:inC p.other r.length=false:=(by simpa using g);refine Aa ?_;simp[holdsP,h,ho,hot,bA]
  have k4:p.kind≠4:=(by simpa using k4);have hgu:otherP p=false:=(by simp[otherP,k3,k4]);refine Aa ?_;refine VIF.split (λk5=>?_) (λk5=>?_)
  ·have k5:p.kind=5:=(by simpa using k5);refine Aa ?_;simp[holdsP,h,hgu,k5,hcv,bA]
  have k5:p.kind≠5:=(by simpa using k5);refine Aa ?_;refine VIF.split (λk6=>?_) (λk6=>?_)
  ·have k6:p.kind=6:=(by simpa using k6);refine Aa ?_;simp[holdsP,h,hgu,k6,hcv,bA]
  have k6:p.kind≠6:=(by simpa using k6);refine Aa ?_;simp[holdsP,k1,k2,k3,k4,k5,k6,bA]
def ProjX (z:List It) (cols:List Int) (out:List It) (err:Int):Prop:=
 (¬Good z/\out=[]/\err=1)\/(Good z/\(∃(i:Nat) (h:i<z.length),pickE z[i].row cols=err/\∀j (hj:j<z.length),j<i->pickE z[j].row cols=0)/\err≠0/\out=[]) \/
 (Good z/\(∀t∈z,pickE t.row cols=0)/\MakeR (z.map (projI cols)) out err)
theorem projX_same {z out out':List It} {cols:List Int} {e e':Int} (h:ProjX z cols out e) (h':ProjX z cols out' e'):out=out'/\e=e':=by
 rcases h with ⟨h1,rfl,rfl⟩|⟨h1,⟨i,hi,h2,h3⟩,h4,rfl⟩|⟨h1,h2,h3⟩<;>rcases h' with ⟨g1,rfl,rfl⟩|⟨g1,⟨k,hk,g2,g3⟩,g4,rfl⟩|⟨g1,g2,g3⟩
 ·exact ⟨rfl,rfl⟩
 ·exact absurd g1 h1
 ·exact absurd g1 h1
 ·exact absurd h1 g1
 ·refine ⟨rfl,?_⟩;rcases Nat.lt_trichotomy i k with h|rfl|h
  ·exact absurd (h2.symm.trans (g3 i hi h)) h4
  ·exact h2.symm.trans g2
  ·exact absurd (g2.symm.trans (h3 k hk h)) g4
 ·exact absurd (h2.symm.trans (g2 _ (List.getElem_mem hi))) h4
 ·exact absurd h1 g1
 ·exact absurd (g2.symm.trans (h2 _ (List.getElem_mem hk))) g4
 ·exact makeR_same h3 g3
theorem projX_rows {z out:List It} {cols:List Int} {e:Int} (h:ProjX z cols out e):out.length<=z.length/\∀t∈out,t.row.length<=cols.length:=by
 rcases h with ⟨_,rfl,_⟩|⟨_,_,_,rfl⟩|⟨_,_,h⟩
 ·simp
 ·simp
 ·obtain ⟨h1,h2⟩:=makeR_rows h;rw[List.length_map] at h1;refine ⟨h1,λt ht=>?_⟩;obtain ⟨u,hu,e⟩:=h2 t ht;obtain ⟨v,_,rfl⟩:=List.mem_map.1 hu;rw[<- e];simp[projI,pickR]
theorem filt_succ {f:It->Bool} {z:List It} {i:Nat} (h:i<z.length):(z.take (i+1)).filter f=(z.take i).filter f++(if f z[i] then [z[i]] else []):=by rw[List.take_succ_eq_append_getElem h,List.filter_append];simp only[List.filter_cons,List.filter_nil]
theorem c58 (z:List It) (p:Pr) (hl:z.length<=1048576) (hr:∀t∈z,t.row.length<1073741824) :
 Spec1 Tryz.prog 121 [setA z,.ag p.c] (λr o=>∃out:List It,r=.rf 0 0 out.length/\o=so out/\out=z.filter λt=>holdsP p t.row):=by
 refine spec1_of_vc tabOk elems ord121 Tryz.func121 rfl (rl:=[.tmp 4]) rfl (by kernel_rfl) rfl ?_;refine Dn ?_;obtain ⟨f,hf⟩:∃f:It->Bool,f=λt=>holdsP p t.row:=⟨_,rfl⟩;rw[<- hf];have hfl:∀i,((z.take i).filter f).length<=z.length:=λi=>Nat.le_trans (List.length_filter_le _ _) (by rw[List.length_take];omega);refine LOOP.mk (ι:={i:Nat//i<=z.length}) (λq=>mkS [(0,setA z),(3,.ro p.c 0),(5,.rf 1000 0 ((z.take q.1).filter f).length),(6,iA q.1)] [(1000,so ((z.take q.1).filter f))] [1000]) (λq=>z.length-q.1) ⟨0,Nat.zero_le _⟩ [(1000,none)] rfl rfl ?_ (λq=>?_)
 ·(simp -implicitDefEqProofs only[go_sem,Pr.c,iA,setA,so];repeat (refine GO ?_;simp -implicitDefEqProofs only[go_sem,Pr.c,iA,setA,so]));simp[olds,Ob.leafy,AV.leaf]
 obtain ⟨i,hi⟩:=q;refine Br ?_;refine VIF.split (λh1=>?_) (λh1=>?_)
 ·have h1:i<z.length:=(by simpa using h1);have w1:=wrap_add1 (show i<4611686018427387904 by omega);refine Bd ?_;refine EL.map h1 ?_;refine Ap ?_;refine .pure _ (show Spec0 Tryz.prog 171 [.ag p.c,rowA z[i].row] _ from c98 p z[i].row (by have:=hr _ (List.getElem_mem h1);omega)) rfl λr hq _=>?_;subst hq;have hfz:f z[i]=holdsP p z[i].row:=(by rw[hf]);refine Ac ?_;refine VIF.split (λh2=>?_) (λh2=>?_)
  ·have h2:f z[i]=true:=by rw[hfz];simpa using h2
   have e1:=filt_succ (f:=f) h1;rw[if_pos h2] at e1;refine Aa ?_;refine EL.map h1 ?_;refine Ap ?_;have hf2:=hfl i;refine ⟨by omega,?_⟩;refine Af ?_;refine BACK.mk ⟨i+1,by omega⟩ [(1000,some 26)] rfl rfl (by show z.length-(i+1)<z.length-i;omega) ?_;(simp -implicitDefEqProofs only[go_sem,Pr.c,iA,setA,so,w1];repeat (refine GO ?_;simp -implicitDefEqProofs only[go_sem,Pr.c,iA,setA,so,w1]));exact ⟨id,by rw[e1];simp,so_snoc (l:=(z.take i).filter f) (t:=z[i]) e1⟩
  ·have h2:f z[i]=false:=by rw[hfz];simpa using h2
   have e1:=filt_succ (f:=f) h1;rw[h2] at e1;simp only[Bool.false_eq_true,if_false,List.append_nil] at e1;refine Af ?_;refine BACK.mk ⟨i+1,by omega⟩ [(1000,some 1000)] rfl rfl (by show z.length-(i+1)<z.length-i;omega) ?_;(simp -implicitDefEqProofs only[go_sem,Pr.c,e1,iA,setA,so,w1];repeat (refine GO ?_;simp -implicitDefEqProofs only[go_sem,Pr.c,e1,iA,setA,so,w1]));exact ⟨id,map_c_wks _⟩
 ·have h1:i=z.length:=by simp at h1;omega
  subst h1;have hf2:=hfl z.length;rw[List.take_length] at hf2;refine Cp ?_;refine GO ?_;refine Cp ?_;refine TO [] [(27,setA (z.filter f))] [] [] rfl ?_ ?_
  ·refine Ad ?_;exact ⟨id,by simp[olds],_,rfl,so_leafy (z.filter f),rfl,List.take_of_length_le (by simp)⟩
  refine Ad ?_;refine .make 28 _ (show Spec1 Tryz.prog 38 [setA (z.filter f)] _ from c31 (z.filter f) (by omega) λt ht=>hr t (List.mem_filter.1 ht).1) rfl (by simp) rfl λq o hq _=>?_;obtain ⟨rfl,rfl⟩:=hq;refine Aa ?_;refine FINmk [(0,some 28)] [(4,.rf 0 0 (z.filter f).length)] [(0,so (z.filter f))] [0] rfl ?_ ?_
  ·refine Bm ?_;exact .same (so (z.filter f)) _ _ (so_leafy (z.filter f)) rfl
  ·exact ⟨so (z.filter f),⟨⟨z.filter f,rfl,rfl,rfl⟩,rfl⟩,so_leafy (z.filter f),rfl⟩
theorem c57 (z:List It) (cols:List Int) (hl:z.length<=1048576) (hr:∀t∈z,t.row.length<1073741824) (hc:cols.length<1073741824) :
 Spec0 Tryz.prog 122 [setA z,intsL cols] (λr=>∃(out:List It) (err:Int),r=.tu [setA out,iA err]/\(Good z->ProjX z cols out err)):=by
 refine spec0_of_vc tabOk elems ord122 Tryz.func122 rfl (rl:=[.tmp 4,.tmp 5]) rfl (by kernel_rfl) rfl ?_;refine Bo ?_
 refine LOOP.mk (ι:={i:Nat//i<=z.length/\∀j (hj:j<z.length),j<i->pickE z[j].row cols=0}) (λp=>mkS [(0,setA z),(1,intsL cols),(6,.rf 1000 0 p.1),(7,iA p.1)] [(1000,so ((z.take p.1).map (projI cols)))] [1000])
  (λp=>z.length-p.1) ⟨0,Nat.zero_le _,λj _ h=>absurd h (Nat.not_lt_zero _)⟩ [(1000,none)] rfl rfl ?_ (λp=>?_)
 ·refine Bs ?_;exact ⟨id,rfl,rfl⟩
 obtain ⟨i,hi,hz⟩:=p;refine Bs ?_;refine VIF.split (λh1=>?_) (λh1=>?_)
 ·have h1:i<z.length:=(by simpa using h1);have w1:=wrap_add1 (show i<4611686018427387904 by omega);refine Aa ?_;refine EL.map h1 ?_;refine Ap ?_;refine .pure _ (show Spec0 Tryz.prog 172 [rowA z[i].row,intsL cols] _ from c97 z[i].row cols (hr _ (List.getElem_mem h1)) hc) rfl λr hq _=>?_;obtain ⟨o,e,rfl,he,ho,_⟩:=hq;refine A9 ?_;refine VIF.split (λh2=>?_) (λh2=>?_)
  ·have h2:e≠0:=(by simpa using h2);refine Aw ?_;refine TO [] [(4,setA []),(5,iA e)] [] [] rfl ?_ ?_
   ·refine Ao ?_;exact ⟨id,rfl⟩
   refine Ao ?_;exact ⟨rfl,[],e,rfl,λg=>.inr (.inl ⟨g,⟨i,h1,he.symm,hz⟩,h2,rfl⟩)⟩
  ·have h2:e=0:=(by simpa using h2);subst h2;have ho:=ho rfl;subst ho;refine Aa ?_;refine EL.map h1 ?_;refine A5 ?_;refine ⟨by omega,?_⟩;refine Af ?_;refine BACK.mk ⟨i+1,by omega,λj hj hji=>?_⟩ [(1000,some 38)] rfl rfl (by show z.length-(i+1)<z.length-i;omega) ?_
   ·by_cases e2:j=i
    ·subst e2;exact he.symm
    ·exact hz j hj (by omega)
   refine De ?_;rw[List.take_of_length_le (l:=List.map It.c (List.map (projI cols) (z.take i))) (by simp;omega)];exact ⟨id,so_snoc (l:=(z.take i).map (projI cols)) (t:=projI cols z[i]) (by rw[List.take_succ_eq_append_getElem h1,List.map_append];rfl)⟩
 ·have h1:i=z.length:=by simp at h1;omega
  subst h1;have hz:∀t∈z,pickE t.row cols=0:=λt ht=>by obtain ⟨j,hj,rfl⟩:=List.mem_iff_getElem.1 ht;exact hz j hj hj
  refine Cp ?_;refine GO ?_;refine Cp ?_;refine TO [] [(39,setA (z.map (projI cols)))] [] [] rfl ?_ ?_
  ·refine Ad ?_;exact ⟨id,by simp[olds],_,rfl,so_leafy (z.map (projI cols)),rfl,List.take_of_length_le (by simp)⟩
  refine Ad ?_;refine .pure _ (show Spec0 Tryz.prog 120 [setA (z.map (projI cols))] _ from Spec1.setE (s26 (z.map (projI cols)) (by simpa using hl) (λt ht=>by obtain ⟨u,hu,rfl⟩:=List.mem_map.1 ht;simpa [pickR,projI] using hc))) rfl λq hq _=>?_;obtain ⟨out,err,rfl,hm⟩:=hq;refine Ao ?_;exact ⟨rfl,out,err,rfl,λg=>.inr (.inr ⟨g,hz,hm⟩)⟩
theorem f49 (z:List It) (cols:List Int) (hl:z.length<=1048576) (hr:∀t∈z,t.row.length<1073741824) (hc:cols.length<1073741824) :
 SpecF Tryz.prog 41 [setA z,intsL cols] (λr out=>∃err:Int,r=.tu [.rf 0 0 out.length,iA err]/\ProjX z cols out err):=by
 refine funspecD_of_vc tabOk elems ord41 Tryz.func41 rfl (rl:=[.tmp 4,.tmp 5]) rfl (by kernel_rfl) rfl (λ_ h=>absurd rfl h) ?_;refine Bo ?_;have bad:∀(e:Int) (s:St),s.regs 4=.nl->s.regs 5=.pr (.int .i64 e)->ProjX z cols [] e->FIN T noOb [.tmp 4,.tmp 5] (λr O'=>∃z_1,((∃err:Int,r=.tu [.rf 0 0 z_1.length,iA err]/\ProjX z cols z_1 err)/\r.only0=true)/\O'=famF z_1) s:=by
  intro e s h4 h5 hn;refine FINmk [(0,none)] [(4,.rf 0 0 0),(5,iA e)] [(0,so [])] [0] rfl ?_ ?_
  ·refine B9 ?_;simp[so]
  ·exact ⟨[],⟨⟨e,rfl,hn⟩,rfl⟩,rfl⟩
 refine .pure _ (s16 z (by omega) (λt ht=>by have:=hr t ht;omega)) rfl λq hq _=>?_;obtain ⟨e,rfl,he,hg⟩:=hq;refine Ab ?_;refine VIF.split (λh=>?_) (λh=>?_)
 ·have h:e≠0:=(by simpa using h);have h1:e=1:=(by omega);subst h1;refine Aa ?_;exact bad 1 _ rfl rfl (.inl ⟨λg=>h (hg.2 g),rfl,rfl⟩)
 ·have h:e=0:=(by simpa using h);have hg:=hg.1 h;refine Aa ?_
  refine LOOP.mk (ι:={i:Nat//i<=z.length/\∀j (hj:j<z.length),j<i->pickE z[j].row cols=0}) (λp=>mkS [(1,intsL cols),(7,.rf 1000 0 p.1),(17,setA z),(18,iA z.length),(19,iA p.1)] [(1000,so ((z.take p.1).map (projI cols)))] [1000])
   (λp=>z.length-p.1) ⟨0,Nat.zero_le _,λj _ h=>absurd h (Nat.not_lt_zero _)⟩ [(1000,none)] rfl rfl ?_ (λp=>?_)
  ·refine Bs ?_;exact ⟨id,rfl,rfl⟩
  ·obtain ⟨i,hi,hz⟩:=p;refine Bs ?_;refine VIF.split (λh1=>?_) (λh1=>?_)
   ·have h1:i<z.length:=(by simpa using h1);have w1:=wrap_add1 (show i<4611686018427387904 by omega);refine Aa ?_;refine EL.map h1 ?_;refine Ap ?_;refine .make 27 _ (c61 z[i].row cols (hr _ (List.getElem_mem h1)) hc) rfl (by simp) rfl λq o hq hlf=>?_;obtain ⟨out,err,rfl,rfl,he2,ho1,ho2⟩:=hq;refine Ab ?_;refine VIF.split (λh2=>?_) (λh2=>?_)
    ·have h2:err≠0:=(by simpa using h2);refine Aa ?_;exact bad err _ rfl rfl (.inr (.inl ⟨hg,⟨i,h1,he2.symm,hz⟩,h2,rfl⟩))
    ·have h2:err=0:=(by simpa using h2);subst h2;have ho1:=ho1 rfl;subst ho1;refine Af ?_;refine ⟨by omega,?_⟩;refine BACK.mk ⟨i+1,by omega,λj hj hji=>?_⟩ [(1000,some 39)] rfl rfl (by show z.length-(i+1)<z.length-i;omega) ?_
     ·by_cases e2:j=i
      ·subst e2;exact he2.symm
      ·exact hz j hj (by omega)
     ·refine De ?_;refine ⟨id,?_⟩;rw[List.take_of_length_le (l:=List.map It.c (List.map (projI cols) (z.take i))) (by simp;omega),List.take_succ_eq_append_getElem h1,List.map_append,List.map_append];refine Es_snoc (λx hx a ha=>so_leafy ((z.take i).map (projI cols)) x hx a ha) ?_;refine Ax ?_;exact ⟨⟨by decide,_,rfl,hlf,rfl,List.take_of_length_le (by simp[ro3])⟩,rfl⟩
   ·have h1:i=z.length:=by simp at h1;omega
    subst h1;have hz:∀t∈z,pickE t.row cols=0:=λt ht=>by obtain ⟨j,hj,rfl⟩:=List.mem_iff_getElem.1 ht;exact hz j hj hj
    refine Cp ?_;refine GO ?_;refine Aw ?_;refine TO [] [(41,setA (z.map (projI cols)))] [] [] rfl ?_ ?_
    ·refine Ad ?_;exact ⟨id,by decide,_,rfl,so_leafy (z.map (projI cols)),rfl,List.take_of_length_le (by simp)⟩
    refine Ad ?_;refine CALL.fam (f76 (z.map (projI cols)) (by simpa using hl) (λt ht=>by obtain ⟨u,hu,rfl⟩:=List.mem_map.1 ht;simpa [pickR,projI] using hc)) rfl 100000 (by simp) λr out hq=>?_;obtain ⟨err,rfl,hm⟩:=hq;refine Cn ?_;refine FINfam 100000 (λi=>100000+(i+1)) out [(4,.rf 0 0 out.length),(5,iA err)] (es:=famC 100000 out) (fam_nd (l:=[100000]) (by decide) (by decide)) Aj rfl (λi hi=>by (simp -implicitDefEqProofs only[go_sem];repeat (refine GO ?_;simp -implicitDefEqProofs only[go_sem]));exact famO_row hi) ?_ ?_
    ·exact A7
    ·exact ⟨out,⟨⟨err,rfl,.inr (.inr ⟨hg,hz,hm⟩)⟩,rfl⟩,rfl⟩
theorem addR_same {a b o o':List It} {e e':Int} (ga:Good a) (gb:Good b) (h:AddR a b o e) (h':MakeR (a++b) o' e'):o=o'/\e=e':=by
 rcases h with ⟨h1,_⟩|⟨_,_,h1⟩
 ·exact absurd ⟨ga,gb⟩ h1
 ·exact makeR_same h1 h'
theorem addR_bad {a b o:List It} {e:Int} (h:AddR a b o e) (hn:¬(Good a/\Good b)):o=[]/\e=1:=by
 rcases h with ⟨_,h⟩|⟨h1,h2,_⟩
 ·exact h
 ·exact absurd ⟨h1,h2⟩ hn
theorem joinR_same {a b o o':List It} {cols others:List Int} {e e':Int} (h:JoinR a b cols others o e) (h':JoinR a b cols others o' e'):o=o'/\e=e':=by
 rcases h with ⟨h1,rfl,rfl⟩|⟨h1,h2,h3,rfl,rfl⟩|⟨h1,h2,h3,h4,⟨p,h5,h6⟩,rfl,rfl⟩|⟨h1,h2,h3,h4,h5,h6⟩ <;>
  rcases h' with ⟨g1,rfl,rfl⟩|⟨g1,g2,g3,rfl,rfl⟩|⟨g1,g2,g3,g4,⟨q,g5,g6⟩,rfl,rfl⟩|⟨g1,g2,g3,g4,g5,g6⟩
 ·exact ⟨rfl,rfl⟩
 ·exact absurd ⟨g1,g2⟩ h1
 ·exact absurd ⟨g1,g2⟩ h1
 ·exact absurd ⟨g1,g2⟩ h1
 ·exact absurd ⟨h1,h2⟩ g1
 ·exact ⟨rfl,rfl⟩
 ·rcases h3 with h|⟨_,h⟩
  ·exact absurd g3 h
  ·rw[g4] at h;cases h
 ·rcases h3 with h|⟨_,h⟩
  ·exact absurd g3 h
  ·rw[g4] at h;cases h
 ·exact absurd ⟨h1,h2⟩ g1
 ·rcases g3 with h|⟨_,h⟩
  ·exact absurd h3 h
  ·rw[h4] at h;cases h
 ·exact ⟨rfl,rfl⟩
 ·rw[g5 p h5] at h6;cases h6
 ·exact absurd ⟨h1,h2⟩ g1
 ·rcases g3 with h|⟨_,h⟩
  ·exact absurd h3 h
  ·rw[h4] at h;cases h
 ·rw[h5 q g5] at g6;cases g6
 ·exact makeR_same h6 g6
theorem rjoin_joinR {a b o:List It} {cols others:List Int} {e:Int} (ga:Good a) (gb:Good b) (hl:cols.length=others.length) (h:RJoin a b cols others o e):JoinR a b cols others o e:=by
 rcases h with ⟨h1,h2,h3⟩|⟨h1,h2,h3,h4⟩|⟨h1,h2,h3⟩
 ·exact .inr (.inl ⟨ga,gb,.inr ⟨hl,h1⟩,h2,h3⟩)
 ·exact .inr (.inr (.inl ⟨ga,gb,hl,h1,h2,h3,h4⟩))
 ·exact .inr (.inr (.inr ⟨ga,gb,hl,h1,h2,h3⟩))
theorem addR_same2 {a b o o':List It} {e e':Int} (h:AddR a b o e) (h':AddR a b o' e'):o=o'/\e=e':=by
 rcases h with ⟨h1,rfl,rfl⟩|⟨ga,gb,h1⟩
 ·obtain ⟨h2,h3⟩:=addR_bad h' h1;exact ⟨h2.symm,h3.symm⟩
 ·obtain ⟨h2,h3⟩:=addR_same ga gb h' h1;exact ⟨h2.symm,h3.symm⟩
theorem f26 (a b:List It) (cols others:List Int) (hc:cols.length<1073741824) (hd:others.length<1073741824) (hab:a.length*b.length<=1048576) (hal:a.length<=1048576) (hbl:b.length<=1048576) (ha:∀t∈a,t.row.length<1073741824) (hb:∀t∈b,t.row.length<1073741824) :
 SpecF Tryz.prog 42 [setA a,setA b,intsL cols,intsL others] (λr out=>∃err:Int,r=.tu [.rf 0 0 out.length,iA err]/\JoinR a b cols others out err):=by
 refine funspecD_of_vc tabOk elems ord42 Tryz.func42 rfl (rl:=[.tmp 8,.tmp 9]) rfl (by kernel_rfl) rfl (λ_ h=>absurd rfl h) ?_;refine Bo ?_;have bad:∀(e:Int) (s:St),s.regs 8=.nl->s.regs 9=.pr (.int .i64 e)->JoinR a b cols others [] e->FIN T noOb [.tmp 8,.tmp 9] (λr O'=>∃z,((∃err:Int,r=.tu [.rf 0 0 z.length,iA err]/\JoinR a b cols others z err)/\r.only0=true)/\O'=famF z) s:=by
  intro e s h4 h5 hn;refine FINmk [(0,none)] [(8,.rf 0 0 0),(9,iA e)] [(0,so [])] [0] rfl ?_ ?_
  ·refine B9 ?_;simp[so]
  ·exact ⟨[],⟨⟨e,rfl,hn⟩,rfl⟩,rfl⟩
 refine .pure _ (s16 a (by omega) (λt ht=>by have:=ha t ht;omega)) rfl λq hq _=>?_;obtain ⟨e1,rfl,he1,hg1⟩:=hq;refine Ab ?_;refine VIF.split (λh=>?_) (λh=>?_)
 ·have h:e1≠0:=(by simpa using h);refine Aa ?_;exact bad 1 _ rfl rfl (.inl ⟨λg=>h (hg1.2 g.1),rfl,rfl⟩)
 have h:e1=0:=by simpa using h
 have hg1:=hg1.1 h;refine Aa ?_;refine .pure _ (s16 b (by omega) (λt ht=>by have:=hb t ht;omega)) rfl λq hq _=>?_;obtain ⟨e2,rfl,he2,hg2⟩:=hq;refine Ab ?_;refine VIF.split (λh=>?_) (λh=>?_)
 ·have h:e2≠0:=(by simpa using h);refine Aa ?_;exact bad 1 _ rfl rfl (.inl ⟨λg=>h (hg2.2 g.2),rfl,rfl⟩)
 have h:e2=0:=by simpa using h
 have hg2:=hg2.1 h;refine Aa ?_;refine VIF.split (λh=>?_) (λh=>?_)
 ·have h:cols.length≠others.length:=by simp at h;omega
  refine Aa ?_;exact bad 2 _ rfl rfl (.inr (.inl ⟨hg1,hg2,.inl h,rfl,rfl⟩))
 have hl:cols.length=others.length:=by simp at h;omega
 refine Aa ?_;refine .pure _ (c73 a b cols others hl hc hab hal hbl ha hb) rfl λr hq _=>?_;subst hq;have hLl:=pairL_len a b cols others;have hLm:∀p∈pairL a b cols others,p.1∈a/\p.2∈b:=λp hp=>⟨(pairL_mem hp).1,(pairL_mem hp).2.1⟩;generalize hL:pairL a b cols others=L at *;refine Fd ?_;refine VIF.split (λh=>?_) (λh=>?_)
 ·refine Aw ?_;exact bad 2 _ rfl rfl (.inr (.inl ⟨hg1,hg2,.inr ⟨hl,by rw[hL];exact h⟩,rfl,rfl⟩))
 have hsh:∀p∈L,p.1.row.length+p.2.row.length<=12:=λp hp=>by rw[List.any_eq_false] at h;have:=h p hp;simp[longP] at this;omega
 refine Aa ?_;refine LOOP.mk (ι:={i:Nat//i<=L.length/\∀p∈L.take i,okW (p.1.w*p.2.w)=true}) (λq=>mkS [(12,.rf 1000 0 q.1),(39,pairsA L),(40,iA L.length),(41,iA q.1)] [(1000,so ((L.take q.1).map joinI))] [1000]) (λq=>L.length-q.1) ⟨0,Nat.zero_le _,by simp⟩ [(1000,none)] rfl rfl ?_ (λq=>?_)
 ·refine Cw ?_;simp
 ·obtain ⟨i,hi,hz⟩:=q;refine Cw ?_;refine VIF.split (λh1=>?_) (λh1=>?_)
  ·have h1:i<L.length:=(by simpa using h1);have hm:=List.getElem_mem h1;have w1:=wrap_add1 (show i<4611686018427387904 by omega);have b1:=good_w hg1 (hLm _ hm).1;have b2:=good_w hg2 (hLm _ hm).2;have hs:=hsh _ hm;refine Aa ?_;refine EL.map h1 ?_;refine E7 ?_;refine .pure _ (c74 L[i].1.w L[i].2.w (by omega) (by omega)) rfl λr hq _=>?_;subst hq;refine Ay ?_;refine VIF.split (λh2=>?_) (λh2=>?_)
   ·have h2:okW (L[i].1.w*L[i].2.w)=false:=(by simpa using h2);refine Aa ?_;exact bad 11 _ rfl rfl (.inr (.inr (.inl ⟨hg1,hg2,hl,by rw[hL];exact h,by rw[hL];exact ⟨_,hm,h2⟩,rfl,rfl⟩)))
   have h2:okW (L[i].1.w*L[i].2.w)=true:=(by simpa using h2);have hw:IntKind.i64.wrap (L[i].1.w*L[i].2.w)=L[i].1.w*L[i].2.w:=by simp[okW,inB] at h2;rw[wrap_i64]<;>omega
   refine Aw ?_;refine GO ?_;refine Aw ?_;refine FRZ 64 ⟨1,[[rowA L[i].1.row],[rowA L[i].2.row]]⟩ rfl (by simp[Ob.leafy,AV.leaf,rowA]) ?_;refine F5 ?_;refine .pure _ (show Spec0 Tryz.prog 95 [rowsA [L[i].1.row,L[i].2.row]] _ from c75z [L[i].1.row,L[i].2.row] (by simp) (by simp[catV];omega)) rfl λr hq _=>?_;have hq:r=rowA (joinI L[i]).row:=by rw[hq];simp[catV,joinI]
   subst hq;have e1:(List.map It.c (List.map joinI (L.take i))).take i++[[rowA (joinI L[i]).row,iA (L[i].1.w*L[i].2.w)]]=List.map It.c (List.map joinI (L.take (i+1))):=by rw[List.take_of_length_le (by simp;omega),List.take_succ_eq_append_getElem h1,List.map_append,List.map_append];rfl
   refine Fs ?_;refine ⟨by omega,?_⟩;refine BACK.mk ⟨i+1,by omega,λp hp=>?_⟩ [(1000,some 69)] rfl rfl (by show L.length-(i+1)<L.length-i;omega) ?_
   ·rw[List.take_succ_eq_append_getElem h1,List.mem_append] at hp;rcases hp with hp|hp
    ·exact hz p hp
    ·simp at hp;rw[hp];exact h2
   ·refine Eu ?_;exact ⟨id,.same (so []) _ _ (λx hx=>so_leafy ((L.take (i+1)).map joinI) x (by rw[so];exact e1▸hx)) e1⟩
  ·have h1:i=L.length:=by simp at h1;omega
   subst h1;rw[List.take_length] at hz;refine Cp ?_;refine GO ?_;refine Aw ?_;refine TO [] [(71,setA (L.map joinI))] [] [] rfl ?_ ?_
   ·refine Ad ?_;exact ⟨id,by decide,_,rfl,so_leafy (L.map joinI),rfl,List.take_of_length_le (by simp)⟩
   refine Ad ?_;refine CALL.fam (f76 (L.map joinI) (by simp;omega) (λt ht=>by
    obtain ⟨p,hp,rfl⟩:=List.mem_map.1 ht;have:=hsh p hp;simp[joinI];omega)) rfl 100000 (by simp) λr out hq=>?_
   obtain ⟨err,rfl,hm⟩:=hq;refine Cn ?_;refine FINfam 100000 (λi=>100000+(i+1)) out [(8,.rf 0 0 out.length),(9,iA err)] (es:=famC 100000 out) (fam_nd (l:=[100000]) (by decide) (by decide)) Aj rfl (λi hi=>by (simp -implicitDefEqProofs only[go_sem];repeat (refine GO ?_;simp -implicitDefEqProofs only[go_sem]));exact famO_row hi) ?_ ?_
   ·exact A7
   ·exact ⟨out,⟨⟨err,rfl,.inr (.inr (.inr ⟨hg1,hg2,hl,by rw[hL];simpa using h,by rw[hL];exact hz,by rw[hL];exact hm⟩))⟩,rfl⟩,rfl⟩
theorem f67 (z:List It) (cols:List Int) (kind col:Int) (hl:z.length<=1048576) (hr:∀t∈z,t.row.length<1073741824) (hc:cols.length<1073741824) :
 SpecF Tryz.prog 46 [setA z,intsL cols,iA kind,iA col] (λr out=>∃err:Int,r=.tu [.rf 0 0 out.length,iA err]/\GroupR z cols kind col out err):=by
 refine funspecD_of_vc tabOk elems ord46 Tryz.func46 rfl (rl:=[.tmp 8,.tmp 9]) rfl (by kernel_rfl) rfl (λ_ h=>absurd rfl h) ?_;refine A8 ?_;refine .pure _ (show Spec0 Tryz.prog 97 [setA z,intsL cols,iA kind,iA col] _ from c106 z cols kind col (by omega) hr hc) rfl λr hq _=>?_;obtain ⟨e,rfl,he,he0,he2⟩:=hq;refine Ab ?_;refine VIF.split (λh=>?_) (λh=>?_)
 ·have h:e≠0:=(by simpa using h);refine Aa ?_;refine FINmk [(0,none)] [(8,.rf 0 0 0),(9,iA e)] [(0,so [])] [0] rfl ?_ ?_
  ·refine Ab ?_;simp[so]
  ·exact ⟨[],⟨⟨e,rfl,.inl ⟨λg=>h (he0.2 g),rfl,by omega,he2⟩⟩,rfl⟩,rfl⟩
 have h:e=0:=by simpa using h
 have hw:=he0.1 h;subst h;refine Aa ?_;refine .pure _ (show Spec0 Tryz.prog 98 [setA z,intsL cols] _ from c107 z cols hl hr hc (λt ht=>(hw.2.2.2.2 t ht).1)) rfl λr hq _=>?_;obtain ⟨gs,rfl,hg,hgl⟩:=hq;refine C3 ?_
 refine LOOP.mk (ι:={i:Nat//i<=gs.length/\∀j (h:j<gs.length),j<i->gval kind col gs[j]≠none}) (λp=>mkS [(2,iA kind),(3,iA col),(11,.rf 1000 0 p.1),(26,gsA gs),(27,iA gs.length),(28,iA p.1)] [(1000,so ((gs.take p.1).map (gItem kind col)))] [1000])
  (λp=>gs.length-p.1) ⟨0,Nat.zero_le _,λj _ h=>absurd h (Nat.not_lt_zero _)⟩ [(1000,none)] rfl rfl ?_ (λp=>?_)
 ·refine Fa ?_;simp
 obtain ⟨i,hi,hv⟩:=p;refine C3 ?_;refine VIF.split (λh=>?_) (λh=>?_)
 ·have h:i<gs.length:=(by simpa using h);have hm:=List.getElem_mem h;have w1:=wrap_add1 (show i<4611686018427387904 by omega);refine Aa ?_;refine EL.map h ?_;refine Fk ?_;have hgi:∀t∈gs[i].items,t∈z:=λt ht=>by rw[hg.items _ hm,List.mem_filter] at ht;exact ht.1
  have hgl2:gs[i].items.length<=z.length:=by rw[hg.items _ hm];exact List.length_filter_le _ _
  have hal:gs[i].at_.length=cols.length:=by
   obtain ⟨t,ht⟩:=List.exists_mem_of_ne_nil _ (hg.some _ hm);rw[hg.items _ hm,List.mem_filter] at ht;have h4:cmpR (pickR t.row cols) gs[i].at_=0:=by have:=ht.2;simp at this;exact this.2
   rw[<- lin_cmpR.eq _ _ h4];simp[pickR]
  have hcc:kind≠1->∀t∈gs[i].items,inC col t.row.length=true:=λhk t ht=>(hw.2.2.2.2 t (hgi t ht)).2 hk;refine .pure _ (show Spec0 Tryz.prog 99 [.ag gs[i].c,iA kind,iA col] _ from c108 gs[i] kind col (by omega) hcc) rfl λr hq _=>?_;subst hq;refine Bb ?_;have hwb:∀t∈gs[i].items,-72057594037927936<=t.w/\t.w<=72057594037927936:=λt ht=>good_w hw.1 (hgi t ht);have hvb:∀t∈gs[i].items,∀v∈t.row,-4611686018427387904<=v.i/\v.i<=4611686018427387904:=λt ht v hv=>by have h3:=(good_made.1 hw.1).2 t (hgi t ht);exact okR_bound h3 v hv
  have s109:Spec0 Tryz.prog 100 [.ag [.im 3 (gs[i].at_.map V.c),.im 2 (gs[i].items.map It.c)],.pr (.int .i64 kind),.pr (.int .i64 col)] _:=c109 gs[i] kind col (by omega) (λt ht=>by have:=hr t (hgi t ht);omega) hwb hvb hcc;have hor:∀h:kind=1\/kind=2,gval kind col gs[i]=(sumF kind col gs[i].items 0).map λn=>⟨3,n,ByteArray.empty⟩:=λh=>if_pos h
  have bad:gval kind col gs[i]=none->∃z_1,((∃err:Int,AV.tu [.rf 0 0 0,.pr (.int .i64 11)]=.tu [.rf 0 0 z_1.length,iA err]/\GroupR z cols kind col z_1 err)/\AV.only0 (.tu [.rf 0 0 0,.pr (.int .i64 11)])=true)/\upd noOb 0 (some (so []))=famF z_1:=λhn=>
   ⟨[],⟨⟨11,rfl,.inr ⟨hw,gs,hg,hgl,.inl ⟨⟨_,hm,hn⟩,rfl,rfl⟩⟩⟩,rfl⟩,rfl⟩
  refine VIF.split (λh1=>?_) (λh1=>?_)
  ·have h1:kind=1:=(by simpa using h1);refine Ct ?_;refine .pure _ s109 rfl λr hq _=>?_;subst hq;refine Cz ?_;refine VIF.split (λh3=>?_) (λh3=>?_)
   ·have h3:(sumF kind col gs[i].items 0).isSome=false:=(by simpa only[Bool.not_eq_true'] using h3);have hno:gval kind col gs[i]=none:=by
     rw[hor (.inl h1)];cases hs:sumF kind col gs[i].items 0 with
     | none=>rfl
     | some n=>rw[hs] at h3;cases h3
    refine Aa ?_;refine FINmk [(0,none)] [(8,.rf 0 0 0),(9,iA 11)] [(0,so [])] [0] rfl ?_ ?_
    ·refine Ab ?_;simp[so]
    ·exact bad hno
   have h3:(sumF kind col gs[i].items 0).isSome=true:=(by simpa only[Bool.not_eq_false'] using h3);obtain ⟨n,hs⟩:=Option.isSome_iff_exists.1 h3;have hgv:gval kind col gs[i]=some ⟨3,n,ByteArray.empty⟩:=by rw[hor (.inl h1),hs];rfl
   rw[hs];obtain ⟨v,hv'⟩:∃v:V,v=⟨3,n,ByteArray.empty⟩:=⟨_,rfl⟩;rw[<- hv'] at hgv;rw[show sumV (some n)=v from hv'.symm];refine Eh ?_;refine TO [(1000,some 1000)] [(2,iA kind),(3,iA col),(11,.rf 1000 0 i),(13,.ro gs[i].c 0),(14,.ro v.c 0),(26,gsA gs),(27,iA gs.length),(28,iA i)] [(1000,so ((gs.take i).map (gItem kind col)))] [1000] rfl ?_ ?_
   ·refine B8 ?_;exact ⟨id,⟨⟨by decide,_,rfl,by simp[Ob.leafy,AV.leaf,rowA,setA],rfl⟩,by decide,_,rfl,by simp[Ob.leafy,AV.leaf],rfl⟩,.same (so ((gs.take i).map (gItem kind col))) _ _ (so_leafy _) rfl⟩
   refine B5 ?_;have hla:gs[i].at_.length<=1073741823:=(by omega);have s43':Spec1 Tryz.prog 101 [.im 3 (gs[i].at_.map V.c)] _:=s43 gs[i].at_ (by omega);refine ⟨.make 54 _ s43' rfl (by simp) rfl λq o hq _=>?_,.make 54 _ s43' rfl (by simp) rfl λq o hq _=>?_⟩;all_goals obtain ⟨rfl,rfl⟩:=hq
   all_goals (simp -implicitDefEqProofs only[go_sem,V.c,iA,Gp.c,ro3,so,w1];repeat (refine GO ?_;simp -implicitDefEqProofs only[go_sem,V.c,iA,Gp.c,ro3,so,w1]))
   all_goals refine ⟨hla,by omega,?_⟩
   all_goals refine BACK.mk ⟨i+1,by omega,λj hj hji=>if e:j=i then (by subst e;rw[hgv];simp) else hv j hj (by omega)⟩ [(1000,some 60)] rfl rfl (by show gs.length-(i+1)<gs.length-i;omega) ?_
   all_goals (simp -implicitDefEqProofs only[go_sem,gsA,iA,so,w1];repeat (refine GO ?_;simp -implicitDefEqProofs only[go_sem,gsA,iA,so,w1]))
   all_goals
    refine ⟨id,?_⟩;rw[List.take_succ_eq_append_getElem h,List.map_append,List.map_append,List.map_cons,List.map_nil,List.map_cons,List.map_nil,List.take_of_length_le (l:=List.map It.c (List.map (gItem kind col) (List.take i gs))) (by simp;omega)];refine Es_snoc (l:=List.map It.c (List.map (gItem kind col) (List.take i gs))) (λx hx a ha=>so_leafy ((gs.take i).map (gItem kind col)) x hx a ha) ?_;refine Bv ?_;exact ⟨by decide,ro3 (gs[i].at_++[v]),by rw[ro3,List.map_append];rfl,ro3_leafy _,rfl,List.take_of_length_le (by simp[ro3])⟩
  have h1:kind≠1:=(by simpa using h1);refine Bb ?_;refine VIF.split (λh2=>?_) (λh2=>?_)
  ·have h2:kind=2:=(by simpa using h2);refine Ct ?_;refine .pure _ s109 rfl λr hq _=>?_;subst hq;refine Cz ?_;refine VIF.split (λh3=>?_) (λh3=>?_)
   ·have h3:(sumF kind col gs[i].items 0).isSome=false:=(by simpa only[Bool.not_eq_true'] using h3);have hno:gval kind col gs[i]=none:=by
     rw[hor (.inr h2)];cases hs:sumF kind col gs[i].items 0 with
     | none=>rfl
     | some n=>rw[hs] at h3;cases h3
    refine Aa ?_;refine FINmk [(0,none)] [(8,.rf 0 0 0),(9,iA 11)] [(0,so [])] [0] rfl ?_ ?_
    ·refine Ab ?_;simp[so]
    ·exact bad hno
   have h3:(sumF kind col gs[i].items 0).isSome=true:=(by simpa only[Bool.not_eq_false'] using h3);obtain ⟨n,hs⟩:=Option.isSome_iff_exists.1 h3;have hgv:gval kind col gs[i]=some ⟨3,n,ByteArray.empty⟩:=by rw[hor (.inr h2),hs];rfl
   rw[hs];obtain ⟨v,hv'⟩:∃v:V,v=⟨3,n,ByteArray.empty⟩:=⟨_,rfl⟩;rw[<- hv'] at hgv;rw[show sumV (some n)=v from hv'.symm];refine Eh ?_;refine TO [(1000,some 1000)] [(2,iA kind),(3,iA col),(11,.rf 1000 0 i),(13,.ro gs[i].c 0),(14,.ro v.c 0),(26,gsA gs),(27,iA gs.length),(28,iA i)] [(1000,so ((gs.take i).map (gItem kind col)))] [1000] rfl ?_ ?_
   ·refine B8 ?_;exact ⟨id,⟨⟨by decide,_,rfl,by simp[Ob.leafy,AV.leaf,rowA,setA],rfl⟩,by decide,_,rfl,by simp[Ob.leafy,AV.leaf],rfl⟩,.same (so ((gs.take i).map (gItem kind col))) _ _ (so_leafy _) rfl⟩
   refine B5 ?_;have hla:gs[i].at_.length<=1073741823:=(by omega);have s43':Spec1 Tryz.prog 101 [.im 3 (gs[i].at_.map V.c)] _:=s43 gs[i].at_ (by omega);refine ⟨.make 54 _ s43' rfl (by simp) rfl λq o hq _=>?_,.make 54 _ s43' rfl (by simp) rfl λq o hq _=>?_⟩;all_goals obtain ⟨rfl,rfl⟩:=hq
   all_goals (simp -implicitDefEqProofs only[go_sem,V.c,iA,Gp.c,ro3,so,w1];repeat (refine GO ?_;simp -implicitDefEqProofs only[go_sem,V.c,iA,Gp.c,ro3,so,w1]))
   all_goals refine ⟨hla,by omega,?_⟩
   all_goals refine BACK.mk ⟨i+1,by omega,λj hj hji=>if e:j=i then (by subst e;rw[hgv];simp) else hv j hj (by omega)⟩ [(1000,some 60)] rfl rfl (by show gs.length-(i+1)<gs.length-i;omega) ?_
   all_goals (simp -implicitDefEqProofs only[go_sem,gsA,iA,so,w1];repeat (refine GO ?_;simp -implicitDefEqProofs only[go_sem,gsA,iA,so,w1]))
   all_goals
    refine ⟨id,?_⟩;rw[List.take_succ_eq_append_getElem h,List.map_append,List.map_append,List.map_cons,List.map_nil,List.map_cons,List.map_nil,List.take_of_length_le (l:=List.map It.c (List.map (gItem kind col) (List.take i gs))) (by simp;omega)];refine Es_snoc (l:=List.map It.c (List.map (gItem kind col) (List.take i gs))) (λx hx a ha=>so_leafy ((gs.take i).map (gItem kind col)) x hx a ha) ?_;refine Bv ?_;exact ⟨by decide,ro3 (gs[i].at_++[v]),by rw[ro3,List.map_append];rfl,ro3_leafy _,rfl,List.take_of_length_le (by simp[ro3])⟩
  have h2:kind≠2:=(by simpa using h2);rw[if_neg h1];have hgv:gval kind col gs[i]=some (bestF kind col gs[i].items V.nul):=(by simp[gval,h1,h2]);simp -implicitDefEqProofs only[go_sem,V.c,iA];generalize bestF kind col gs[i].items V.nul=v at hgv ⊢;refine TO [(1000,some 1000)] [(2,iA kind),(3,iA col),(11,.rf 1000 0 i),(13,.ro gs[i].c 0),(14,.ro v.c 0),(15,bA true),(26,gsA gs),(27,iA gs.length),(28,iA i)] [(1000,so ((gs.take i).map (gItem kind col)))] [1000] rfl ?_ ?_
  ·refine B8 ?_;exact ⟨id,⟨⟨by decide,_,rfl,by simp[Ob.leafy,AV.leaf,rowA,setA],rfl⟩,by decide,_,rfl,by simp[Ob.leafy,AV.leaf],rfl⟩,.same (so ((gs.take i).map (gItem kind col))) _ _ (so_leafy _) rfl⟩
  refine B5 ?_;have hla:gs[i].at_.length<=1073741823:=(by omega);have s43':Spec1 Tryz.prog 101 [.im 3 (gs[i].at_.map V.c)] _:=s43 gs[i].at_ (by omega);refine ⟨.make 54 _ s43' rfl (by simp) rfl λq o hq _=>?_,.make 54 _ s43' rfl (by simp) rfl λq o hq _=>?_⟩;all_goals obtain ⟨rfl,rfl⟩:=hq
  all_goals (simp -implicitDefEqProofs only[go_sem,V.c,iA,Gp.c,ro3,so,w1];repeat (refine GO ?_;simp -implicitDefEqProofs only[go_sem,V.c,iA,Gp.c,ro3,so,w1]))
  all_goals refine ⟨hla,by omega,?_⟩
  all_goals refine BACK.mk ⟨i+1,by omega,λj hj hji=>if e:j=i then (by subst e;rw[hgv];simp) else hv j hj (by omega)⟩ [(1000,some 60)] rfl rfl (by show gs.length-(i+1)<gs.length-i;omega) ?_
  all_goals (simp -implicitDefEqProofs only[go_sem,gsA,iA,so,w1];repeat (refine GO ?_;simp -implicitDefEqProofs only[go_sem,gsA,iA,so,w1]))
  all_goals
   refine ⟨id,?_⟩;rw[List.take_succ_eq_append_getElem h,List.map_append,List.map_append,List.map_cons,List.map_nil,List.map_cons,List.map_nil,List.take_of_length_le (l:=List.map It.c (List.map (gItem kind col) (List.take i gs))) (by simp;omega)];refine Es_snoc (l:=List.map It.c (List.map (gItem kind col) (List.take i gs))) (λx hx a ha=>so_leafy ((gs.take i).map (gItem kind col)) x hx a ha) ?_;refine Bv ?_;exact ⟨by decide,ro3 (gs[i].at_++[v]),by rw[ro3,List.map_append];rfl,ro3_leafy _,rfl,List.take_of_length_le (by simp[ro3])⟩
 ·have h:i=gs.length:=by simp at h;omega
  subst h;rw[List.take_length];refine Aw ?_;refine FRZ 1000 (so (gs.map (gItem kind col))) rfl (so_leafy _) ?_;have tk:List.take gs.length (List.map It.c (List.map (gItem kind col) gs))=List.map It.c (List.map (gItem kind col) gs):=List.take_of_length_le (by simp);refine Dv ?_;have hgr:∀t∈gs.map (gItem kind col),t.row.length<1073741824:=λt ht=>by obtain ⟨g,hgm,rfl⟩:=List.mem_map.1 ht;have:=hg.atlen g hgm;simp[gItem];omega
  refine CALL.fam (show SpecF Tryz.prog 82 [setA (gs.map (gItem kind col))] _ from f76 (gs.map (gItem kind col)) (by simp;omega) hgr) rfl 100000 (by simp) λr out hq=>?_;obtain ⟨err,rfl,hm⟩:=hq;refine Cn ?_;refine FINfam 100000 (λi=>100000+(i+1)) out [(8,.rf 0 0 out.length),(9,iA err)] (es:=famC 100000 out) (fam_nd (l:=[100000]) (by decide) (by decide)) Aj rfl (λi hi=>by (simp -implicitDefEqProofs only[go_sem];repeat (refine GO ?_;simp -implicitDefEqProofs only[go_sem]));exact famO_row hi) ?_ ?_
  ·exact A7
  ·have hall:∀g∈gs,gval kind col g≠none:=λg hg'=>by
    obtain ⟨j,hj,rfl⟩:=List.mem_iff_getElem.1 hg';exact hv j hj hj
   exact ⟨out,⟨⟨err,rfl,.inr ⟨hw,gs,hg,hgl,.inr ⟨hall,hm⟩⟩⟩,rfl⟩,rfl⟩
theorem sumF_in {kind col:Int}:∀(l:List It) (n m:Int),inVal n=true->sumF kind col l n=some m->inVal m=true
 | [],n,m,h,e=>by simp only[sumF,Option.some.injEq] at e;rw[<- e];exact h
 | x::r,n,m,h,e=>by
   simp only[sumF] at e;obtain ⟨d,hd⟩:∃d,d=x.w*(if kind=2 then (getV x.row col).i else 1):=⟨_,rfl⟩;rw[<- hd] at e;by_cases h1:kind=2/\(getV x.row col).k≠3
   ·rw[if_pos h1] at e;exact sumF_in r n m h e
   ·rw[if_neg h1] at e;by_cases h2:(inVal d&&inVal (n+d))=true
    ·rw[if_pos h2] at e;simp only[Bool.and_eq_true] at h2;exact sumF_in r _ m h2.2 e
    ·rw[if_neg h2] at e;cases e
theorem gval_ok {z:List It} {cols:List Int} {kind col:Int} {gs:List Gp} (hw:Wr0 z cols kind col) (hg:GpI cols z gs):∀g∈gs,∀v,gval kind col g=some v->okV v=true:=λg hgm v hv=>by
 have hit:∀t∈g.items,t∈z:=λt ht=>by rw[hg.items g hgm,List.mem_filter] at ht;exact ht.1
 simp only[gval] at hv;split at hv
 ·cases hs:sumF kind col g.items 0 with
  | none=>rw[hs] at hv;cases hv
  | some n=>
    rw[hs] at hv;simp only[Option.map_some,Option.some.injEq] at hv;have:=sumF_in g.items 0 n (by decide) hs;rw[<- hv];simp only[inVal] at this;simp only[okV];simp[this];rfl
 ·rename_i hk;simp only[Option.some.injEq] at hv;rw[<- hv];rcases bestF_mem kind col g.items V.nul with e|⟨t,ht,e⟩
  ·rw[e];decide
  ·rw[e];have htz:=hit t ht;exact (okR_all.1 ((good_made.1 hw.1).2 t htz)).2 _ (getV_mem ((hw.2.2.2.2 t htz).2 (λh=>hk (.inl h))))
theorem gmap_ok {z:List It} {cols:List Int} {kind col:Int} {gs:List Gp} (hw:Wr0 z cols kind col) (hg:GpI cols z gs) (hall:∀g∈gs,gval kind col g≠none):∀t∈gs.map (gItem kind col),okR t.row=0:=λt ht=>by
 obtain ⟨g,hgm,rfl⟩:=List.mem_map.1 ht;obtain ⟨v,hv⟩:=Option.ne_none_iff_exists'.1 (hall g hgm);have hv2:=gval_ok hw hg g hgm v hv;obtain ⟨u,hu,_,e⟩:=(hg.has g.at_).1 ⟨g,hgm,rfl⟩;have h1:=pick_row (hw.2.2.2.2 u hu).1 ((good_made.1 hw.1).2 u hu);rw[e] at h1;simp only[gItem,hv,Option.getD_some];have h2:=hg.atlen g hgm;have h3:=hw.2.2.2.1;refine okR_all.2 ⟨by simp;omega,λw hw=>?_⟩;rcases List.mem_append.1 hw with hw|hw
 ·exact (okR_all.1 h1.1).2 w hw
 ·simp at hw;subst hw;exact hv2
theorem gmap_make {z out:List It} {cols:List Int} {kind col err:Int} {gs:List Gp} (hw:Wr0 z cols kind col) (hg:GpI cols z gs) (hall:∀g∈gs,gval kind col g≠none) (h:MakeR (gs.map (gItem kind col)) out err):out=gs.map (gItem kind col)/\err=0:=by
 have hm:=gmap_made (kind:=kind) (col:=col) hg;exact makeR_ok h (by
  rw[List.any_eq_false];intro t ht;simp[okI,gmap_ok hw hg hall t ht,(hm.nz t ht).2]) hm λ_=>rfl
theorem groupR_ref {z o o':List It} {cols:List Int} {kind col e e':Int} (gz:Good z) (h:GroupR z cols kind col o e) (h':RGroup z cols kind col o' e'):o=o'/\e=e':=by
 rcases h with ⟨h1,rfl,h2,h3⟩|⟨h1,gs,h2,h3,h4⟩
 ·rcases h' with ⟨g1,rfl,rfl⟩|⟨g1,g2,rfl,rfl⟩|⟨g1,g2,g3,rfl,rfl⟩|⟨g1,g2,g3,_⟩
  ·refine ⟨rfl,?_⟩;rcases h2 with h2|h2
   ·exact h2
   ·exact absurd ⟨(h3.1 h2).2.1,(h3.1 h2).2.2.1⟩ g1
  ·exact ⟨rfl,h3.2 ⟨gz,g1.1,g1.2,g2⟩⟩
  ·refine ⟨rfl,?_⟩;rcases h2 with h2|h2
   ·exact h2
   ·have:=(h3.1 h2).2.2.2;omega
  ·exact absurd ⟨gz,g1.1,g1.2,g2,g3⟩ h1
 ·rcases h' with ⟨g1,_⟩|⟨g1,g2,_⟩|⟨g1,g2,g3,_⟩|⟨g1,g2,g3,gs',g4,g5⟩
  ·exact absurd ⟨h1.2.1,h1.2.2.1⟩ g1
  ·have:=h1.2.2.2.1;omega
  ·exact absurd h1.2.2.2.2 g3
  ·have:=g4.uniq h2;subst this;rcases h4 with ⟨⟨g,hgm,hn⟩,rfl,rfl⟩|⟨h4,h5⟩<;>rcases g5 with ⟨⟨g',hgm',hn'⟩,rfl,rfl⟩|⟨g5,rfl,rfl⟩
   ·exact ⟨rfl,rfl⟩
   ·exact absurd hn (g5 g hgm)
   ·exact absurd hn' (h4 g' hgm')
   ·exact gmap_make h1 h2 h4 h5
structure Nd where
 types:List Int
 w:Int
 v:Int
def Nd.c (n:Nd):List AV:=[intsL n.types,iA n.w,iA n.v]
def ndO (D:List Nd):Ob:=⟨3,D.map Nd.c⟩
theorem ndO_leafy (D:List Nd):(ndO D).leafy:=by rw[ndO,leafy_do];exact leafs2_map λx _=>by simp[Nd.c,leafs,iA,intsL,AV.leaf]
def formsA (F:List (List Int)):AV:=.im 1 (F.map λl=>[intsL l])
def boxO (F:List (List Int)) (d n:Nat):Ob:=⟨2,[[formsA F,.rf d 0 n]]⟩
def wO (F:List (List Int)) (D:List Nd):Nat->Option Ob:=mkO [(0,boxO F 3000 D.length),(3000,ndO D)]
def wU:List Nat:=[0,3000]
def SpecW (f:Nat) (F:List (List Int)) (D:List Nd) (args:List AV) (R:AV->Prop):Prop:=
 FunSpecD Tryz.prog f (.pt 0 0 0::args) (kept true (wO F D)) (wO F D) wU λr O'=>(R r/\r.noId=true)/\O'=wO F D
theorem wO_cases {F:List (List Int)} {D:List Nd} {i:Nat} {o:Ob} (h:wO F D i=some o):(i=0/\o=boxO F 3000 D.length)\/(i=3000/\o=ndO D):=by
 simp only[wO,mkO,upd] at h;split at h
 ·rename_i e;cases h;first|exact .inl ⟨e,rfl⟩|exact .inl ⟨e.symm,rfl⟩
 ·split at h
  ·rename_i e;cases h;first|exact .inr ⟨e,rfl⟩|exact .inr ⟨e.symm,rfl⟩
  ·simp[noOb] at h
theorem ndO_rn (ρ:Nat->Nat) (D:List Nd):(ndO D).rn ρ=ndO D:=by simp only[ndO,Ob.rn,List.map_map];congr 1
theorem wO_closed {F:List (List Int)} {D:List Nd} {i:Nat} {o:Ob} (h:wO F D i=some o):i∈wU/\∀x∈o.es,inNs (·∈wU) x:=by
 rcases wO_cases h with ⟨rfl,rfl⟩|⟨rfl,rfl⟩
 ·refine ⟨by simp[wU],λx hx=>?_⟩;simp only[boxO,List.mem_singleton] at hx;subst hx;exact ⟨trivial,by show 3000∈wU;simp[wU],trivial⟩
 ·refine ⟨by simp[wU],λx hx=>?_⟩;obtain ⟨v,_,rfl⟩:=List.mem_map.1 hx;exact ⟨trivial,trivial,trivial,trivial⟩
def rhoW (a d:Nat) (x:Nat):Nat:=if x=0 then a else d
theorem kept_0 {O:Nat->Option Ob}:∀i,kept true O i≠none->i=0:=λi h=>by
 simp only[kept,true_and] at h;split at h
 ·assumption
 ·exact absurd rfl h
theorem FINw {l:List ResultVar} {K:AV->(Nat->Option Ob)->Prop} {st:St} {F:List (List Int)} {D:List Nd} {O0:Nat->Option Ob} (h0:∀i,O0 i≠none->i=0) (rl:List (Nat×AV)) (hm:nmOk [(0,some 0),(3000,some 3000)] [0,3000]=true)
 (h:ents st [(0,some 0),(3000,some 3000)] rl/\eobs st [(0,some 0),(3000,some 3000)] [(0,boxO F 3000 D.length),(3000,ndO D)]) (k:hRes T (mkS rl [(0,boxO F 3000 D.length),(3000,ndO D)] [0,3000]) l λv=>K v (wO F D)):FIN T O0 l K st:=by
 have he:Ent st (mkS rl [(0,boxO F 3000 D.length),(3000,ndO D)] [0,3000]):=ent_to [(0,some 0),(3000,some 3000)] rfl hm ⟨λ_=>by simp,h.1,h.2⟩;exact ⟨mkS rl [(0,boxO F 3000 D.length),(3000,ndO D)] [0,3000],λF' n a w hF R=>he F' n a w (λi hi=>h0 i (by rw[<- hF];exact hi)) R,k⟩
structure PN where
 kind:Int
 a:Int
 b:Int
 table:Int
 pred:Pr
 cols:List Int
 others:List Int
 agg:Int
 col:Int
def PN.c (x:PN):List AV:=[iA x.kind,iA x.a,iA x.b,iA x.table,iA x.pred.kind,iA x.pred.col,iA x.pred.other,iA x.pred.val.k,iA x.pred.val.i,.pr (.string x.pred.val.s),intsL x.cols,intsL x.others,iA x.agg,iA x.col]
theorem d204 (F:List (List Int)) (D:List Nd) (k:Int):Spec0 Tryz.prog 204 [.ro [formsA F,.im 3 (D.map Nd.c)] 0,iA k] (·=bA (inC k D.length)):=by
 refine spec0_of_vc tabOk elems ord204 Tryz.func204 rfl (rl:=[.tmp 4]) rfl (by kernel_rfl) rfl ?_;refine A6 ?_;refine VIF.split (λh=>?_) (λh=>?_)
 ·refine Aa ?_;simp at h;simp[h,inC,bA]
 ·refine Aa ?_;simp at h;simp[inC,bA];intro;omega
theorem d218 (n:Nat) (c:Int):Spec0 Tryz.prog 218 [iA c,.ro [iA n] 0] (·=bA (outC n c)):=by
 refine spec0_of_vc tabOk elems ord218 Tryz.func218 rfl (rl:=[.tmp 3]) rfl (by kernel_rfl) rfl ?_;refine Ab ?_;refine VIF.split (λh=>?_) (λh=>?_)
 ·refine Aa ?_;simp at h;simp[outC,bA,h]
 ·refine Aa ?_;have h:¬c<0:=(by simpa using h);simp[outC,bA,h]
theorem d206 (l:List Int) (n:Nat) (hl:l.length<1073741824):Spec0 Tryz.prog 206 [intsL l,iA n] (·=bA (!l.any (outC n))):=by
 refine spec0_of_vc tabOk elems ord206 Tryz.func206 rfl (rl:=[.tmp 4]) rfl (by kernel_rfl) rfl ?_;refine Aq ?_;refine .lendTo (c102 218 [.ro [iA n] 0] rfl (outC n) (λc=>d218 n c) l (by omega)) ?_ (by rintro _ rfl;rfl) λq hq=>?_
 ·(simp -implicitDefEqProofs only[go_sem,iA,intsL];repeat (refine GO ?_;simp -implicitDefEqProofs only[go_sem,iA,intsL]))
 subst hq;exact Am
def getI (t:List Int) (c:Int):Int:=(t[c.toNat]?).getD 0
def pickI (t l:List Int):List Int:=l.map (getI t)
def io (l:List Int):Ob:=⟨1,l.map λn=>[iA n]⟩
theorem io_leafy (l:List Int):(io l).leafy:=intsL_leafy l
theorem io_snoc {st:St} {m:List (Nat×Option Nat)} {l l':List Int} {n:Int} (h:l'=l++[n]):Es st m (List.map (λn=>[iA n]) l++[[iA n]]) (List.map (λn=>[iA n]) l'):=by subst h;rw[List.map_append];exact .same (io (l++[n])) _ _ (λx hx=>io_leafy (l++[n]) x (by rw[io,List.map_append];exact hx)) rfl
theorem d207 (t l:List Int) (hl:l.length<1073741824) (h:l.any (outC t.length)=false):Spec1 Tryz.prog 207 [intsL t,intsL l] (λr o=>r=.rf 0 0 l.length/\o=io (pickI t l)):=by
 refine spec1_of_vc tabOk elems ord207 Tryz.func207 rfl (rl:=[.tmp 4]) rfl (by kernel_rfl) rfl ?_;refine A3 ?_;refine LOOP.mk (ι:={i:Nat//i<=l.length}) (λp=>mkS [(0,intsL t),(5,.rf 1000 0 p.1),(8,intsL l),(9,iA l.length),(10,iA p.1)] [(1000,io (pickI t (l.take p.1)))] [1000]) (λp=>l.length-p.1) ⟨0,Nat.zero_le _⟩ [(1000,none)] rfl rfl ?_ (λp=>?_)
 ·refine Ce ?_;exact ⟨id,rfl,rfl⟩
 obtain ⟨i,hi⟩:=p;refine Ce ?_;refine VIF.split (λh1=>?_) (λh1=>?_)
 ·have h1:i<l.length:=(by simpa using h1);have w1:=wrap_add1 (show i<4611686018427387904 by omega);obtain ⟨g1,g2⟩:0<=l[i]/\l[i].toNat<t.length:=by
   rw[List.any_eq_false] at h;have:=h l[i] (List.getElem_mem h1);simp[outC] at this;omega
  refine Aa ?_;refine EL.map h1 ?_;refine Ab ?_;refine ⟨g1,EL.map g2 ?_⟩;refine Ab ?_;refine ⟨by omega,?_⟩;refine Af ?_;refine BACK.mk ⟨i+1,by omega⟩ [(1000,some 20)] rfl rfl (by show l.length-(i+1)<l.length-i;omega) ?_;refine Di ?_;have hgv:getI t l[i]=t[l[i].toNat]'g2:=(by simp[getI,g2]);rw[List.take_of_length_le (l:=List.map _ (pickI t (l.take i))) (by simp[pickI];omega)];refine ⟨id,io_snoc (l:=pickI t (l.take i)) (n:=t[l[i].toNat]'g2) ?_⟩;rw[pickI,pickI,List.take_succ_eq_append_getElem h1,List.map_append,<- hgv];rfl
 ·have h1:i=l.length:=by simp at h1;omega
  subst h1;refine Bi ?_;refine FINmk [(0,some 1000)] [(4,.rf 0 0 l.length)] [(0,io (pickI t l))] [0] rfl ?_ ?_
  ·refine D3 ?_;exact .same (io (pickI t l)) _ _ (io_leafy (pickI t l)) rfl
  ·exact ⟨io (pickI t l),⟨⟨rfl,rfl⟩,rfl⟩,io_leafy (pickI t l),rfl⟩
theorem d208 (a b:List Int) (ha:a.length<4611686018427387904) (hb:b.length<4611686018427387904):Spec0 Tryz.prog 208 [intsL a,intsL b] (·=bA (decide (a=b))):=by
 refine spec0_of_vc tabOk elems ord208 Tryz.func208 rfl (rl:=[.tmp 4]) rfl (by kernel_rfl) rfl ?_;refine A3 ?_;refine VIF.split (λh=>?_) (λh=>?_)
 ·have h:a.length≠b.length:=by simp at h;omega
  refine Aa ?_;have:a≠b:=λe=>h (by rw[e]);simp[this,bA]
 have h:a.length=b.length:=by simp at h;omega
 refine Aa ?_;refine LOOP.mk (ι:={i:Nat//i<=a.length/\∀j (h1:j<a.length) (h2:j<b.length),j<i->a[j]=b[j]}) (λp=>mkS [(0,intsL a),(1,intsL b),(12,iA a.length),(13,iA p.1)] [] []) (λp=>a.length-p.1) ⟨0,Nat.zero_le _,λj _ _ h=>absurd h (Nat.not_lt_zero _)⟩ [] rfl rfl ?_ (λp=>?_)
 ·refine Aq ?_;exact ⟨id,rfl⟩
 obtain ⟨i,hi,hg⟩:=p;refine Aq ?_;refine VIF.split (λh1=>?_) (λh1=>?_)
 ·have h1:i<a.length:=(by simpa using h1);have h2:i<b.length:=(by omega);have w1:=wrap_add1 (show i<4611686018427387904 by omega);refine Aa ?_;refine EL.map h1 ?_;refine Ab ?_;refine EL.map h2 ?_;refine Ab ?_;refine VIF.split (λh3=>?_) (λh3=>?_)
  ·have h3:a[i]≠b[i]:=(by simpa using h3);refine Aa ?_;have:a≠b:=λe=>h3 (by subst e;rfl);simp[this,bA]
  ·have h3:a[i]=b[i]:=(by simpa using h3);refine Af ?_;refine BACK.mk ⟨i+1,by omega,λj q1 q2 hji=>if e:j=i then (by subst e;exact h3) else hg j q1 q2 (by omega)⟩ [] rfl rfl (by show a.length-(i+1)<a.length-i;omega) ?_;refine Cx ?_;exact id
 ·have h1:i=a.length:=by simp at h1;omega
  have e:a=b:=List.ext_getElem h λj q1 q2=>hg j q1 q2 (by omega);refine Aa ?_;simp[e,bA]
theorem d209 (a b m:Int) (ha:0<=a/\a<=4611686018427387904) (hb:0<=b/\b<=4611686018427387904) (hm:0<=m/\m<=4611686018427387904):Spec0 Tryz.prog 209 [iA a,iA b,iA m] (·=.tu [iA (if a*b<=m then a*b else 0),bA (decide (a*b<=m))]):=by
 have wa:=wrap_u64 (x:=a) (by omega) (by omega);have wb:=wrap_u64 (x:=b) (by omega) (by omega);have wm:=wrap_u64 (x:=m) (by omega) (by omega);refine spec0_of_vc tabOk elems ord209 Tryz.func209 rfl (rl:=[.tmp 6,.tmp 7]) rfl (by kernel_rfl) rfl ?_;(simp -implicitDefEqProofs only[go_sem,iA,wa,wb,wm];repeat (refine GO ?_;simp -implicitDefEqProofs only[go_sem,iA,wa,wb,wm]));refine .pure _ (show Spec0 Tryz.prog 147 [uA a,uA b] _ from c115 a b (by omega) (by omega)) rfl λr hq _=>?_;subst hq;refine Dz ?_;have hab:=Int.mul_nonneg ha.1 hb.1;refine VIF.split (λh=>?_) (λh=>?_)
 ·have h:0<a*b / 18446744073709551616:=(by simpa using h);have h2:¬a*b<=m:=(by omega);refine Aa ?_;simp[h2,bA,iA]
 have h:¬0<a*b / 18446744073709551616:=by simpa using h
 have hlo:a*b%18446744073709551616=a*b:=by omega
 rw[hlo];(simp -implicitDefEqProofs only[go_sem,wm];repeat (refine GO ?_;simp -implicitDefEqProofs only[go_sem,wm]));refine VIF.split (λh=>?_) (λh=>?_)
 ·have h2:¬a*b<=m:=by simp at h;omega
  refine Aa ?_;simp[h2,bA,iA]
 have h2:a*b<=m:=by simp at h;omega
 have w2:IntKind.i64.wrap (a*b)=a*b:=by rw[wrap_i64]<;>omega
 refine Bn ?_;simp[h2,bA,iA]
theorem d217 (p:Pr):Spec0 Tryz.prog 217 [.ag p.c] (·=bA (decide (p.kind=1)||decide (p.kind=2))):=by
 refine spec0_of_vc tabOk elems ord217 Tryz.func217 rfl (rl:=[.tmp 2]) rfl (by kernel_rfl) rfl ?_;refine Bd ?_;refine VIF.split (λh=>?_) (λh=>?_)
 ·refine Aa ?_;simp at h;simp[h,bA]
 ·refine Aa ?_;simp at h;simp[h,bA]
end Yt
namespace Yt
open Go Go.Vc
def og188:Ords
 | 1=>some (.lin [F6 0,F6 1,F6 2,Gc 3,F6 4,F6 5,F6 6,F6 7,F6 8,F6 9,F6 10,F6 11,F6 12])
 | 3=>some (.lin [F6 1,F6 2,F6 3,F9 4,F6 5,F9 6,F9 7,F6 8,F9 9,Ga 0,Ga 10,F6 11,F7 12,F6 13])
 | _=>none
@[go_sem] theorem og188_0:og188 0=none:=rfl
attribute [go_sem] og188.eq_1
@[go_sem] theorem og188_2:og188 2=none:=rfl
attribute [go_sem] og188.eq_2
def og189:Ords
 | 3=>some (.lin [F6 0,F6 1,F6 2,F9 3,F6 4,F9 5,F9 6,F9 7,Ga 8,Ga 9])
 | 4=>some (.lin [F9 0,F6 1,F6 2,F6 3,F6 4,Ga 5,F7 6,F6 7])
 | _=>none
@[go_sem] theorem og189_0:og189 0=none:=rfl
@[go_sem] theorem og189_1:og189 1=none:=rfl
@[go_sem] theorem og189_2:og189 2=none:=rfl
@[go_sem] theorem og189_3:og189 3=some (.lin [F6 0,F6 1,F6 2,F9 3,F6 4,F9 5,F9 6,F9 7,Ga 8,Ga 9]):=rfl
attribute [go_sem] og189.eq_2
def og190:Ords
 | 1=>some (.lin [F6 0,F6 1,F6 2,F7 3,F6 4,Gc 5,F6 6,F6 7,F6 8,F6 9,F6 10,F6 11,F6 12,F6 13,F6 14,F6 15,F6 16,F6 17,F7 18,F6 19,F6 20,F6 21])
 | 5=>some (.lin [F6 0,F6 1,F6 2,F9 3,F6 4,F9 5,F9 6,F9 7,Ga 8,Ga 9])
 | 6=>some (.lin [F6 0,F6 1,F6 2,F6 3,F6 5,F9 6,F6 7,F9 8,Ga 4,F6 9,F7 10,F6 11])
 | _=>none
@[go_sem] theorem og190_0:og190 0=none:=rfl
attribute [go_sem] og190.eq_1
@[go_sem] theorem og190_2:og190 2=none:=rfl
@[go_sem] theorem og190_3:og190 3=none:=rfl
@[go_sem] theorem og190_4:og190 4=none:=rfl
attribute [go_sem] og190.eq_2
attribute [go_sem] og190.eq_3
def og191:Ords
 | 1=>some (.lin [F7 0,F7 1,F7 2,F7 3,F7 4,F8 5,F7 6,F7 7,F7 8,F7 9,F7 10,F7 11])
 | 3=>some (.forkq [F6 0,F6 1,F6 2,F9 3,F6 4,F9 5,F9 6,F9 7,F6 8,F6 9,F6 10,F9 11,F6 12,F9 13,F9 14,F9 15] 16 true (.lin [Ga 17,Ga 18,Ga 19]) 17 true (.lin [Ga 16,Ga 18,Ga 19]))
 | 4=>some (.lin [F7 0,F7 1,F7 2,F7 3,F7 4,F7 5,F7 6,F8 7,F7 8,F7 9,F7 10,F7 11,F7 12,F7 13,F7 14,F7 15,F7 16])
 | 6=>some (.lin [F7 0,F7 1,F7 2,F7 3,F7 4,F7 5,F7 6,F8 7,F7 8,F7 9,F7 10,F7 11,F7 12,F7 13,F7 14,F7 15,F7 16,F7 17])
 | 8=>some (.lin [F6 0,F6 1,F6 2,F6 3,F6 5,F9 6,F6 7,F9 8,Ga 4,Ga 9,Ga 10,F6 11,F6 12])
 | 13=>some (.lin [F6 0,F6 1,F6 2,F6 3,F6 6,F6 7,F9 8,F6 9,F9 10,F6 11,Ga 4,Ga 5,F6 12,F7 13,F6 14])
 | _=>none
@[go_sem] theorem og191_0:og191 0=none:=rfl
attribute [go_sem] og191.eq_1
@[go_sem] theorem og191_2:og191 2=none:=rfl
attribute [go_sem] og191.eq_2
attribute [go_sem] og191.eq_3
@[go_sem] theorem og191_5:og191 5=none:=rfl
attribute [go_sem] og191.eq_4
@[go_sem] theorem og191_7:og191 7=none:=rfl
attribute [go_sem] og191.eq_5
@[go_sem] theorem og191_9:og191 9=none:=rfl
@[go_sem] theorem og191_10:og191 10=none:=rfl
@[go_sem] theorem og191_11:og191 11=none:=rfl
@[go_sem] theorem og191_12:og191 12=none:=rfl
attribute [go_sem] og191.eq_6
def og192:Ords
 | 1=>some (.lin [F7 0,F7 1,F7 2,F7 3,F7 4,F8 5,F7 6,F7 7,F7 8,F7 9,F7 10,F7 11])
 | 3=>some (.forkq [F6 0,F6 1,F6 2,F9 3,F6 4,F9 5,F9 6,F9 7,F6 8,F6 9,F6 10,F9 11,F6 12,F9 13,F9 14,F9 15] 16 true (.lin [Ga 17,Ga 18,Ga 19]) 17 true (.lin [Ga 16,Ga 18,Ga 19]))
 | _=>none
@[go_sem] theorem og192_0:og192 0=none:=rfl
attribute [go_sem] og192.eq_1
@[go_sem] theorem og192_2:og192 2=none:=rfl
attribute [go_sem] og192.eq_2
@[go_sem] theorem og192_4:og192 4=none:=rfl
@[go_sem] theorem og192_5:og192 5=none:=rfl
@[go_sem] theorem og192_6:og192 6=none:=rfl
@[go_sem] theorem og192_7:og192 7=none:=rfl
@[go_sem] theorem og192_8:og192 8=none:=rfl
def og194:Ords
 | 1=>some (.lin [F7 0,F7 1,F7 2,F7 3,F7 4,F8 5,F7 6,F7 7,F7 8,F7 9,F8 10,F7 11,F7 12,F7 13,F7 14])
 | 3=>some (.lin [F6 0,F6 1,F6 2,F9 3,F6 4,F9 5,F9 6,F9 7,Ga 8,Ga 9])
 | 4=>some (.lin [F7 0,F7 1,F7 2,F7 3,F7 4,F7 5,F7 6,F8 7,F7 8,F7 9,F7 10,F8 11,F7 12,F7 13,F7 14,F7 15,F7 16,F7 17,F7 18,F7 19,F7 20,F7 21,F7 22])
 | 8=>some (.lin [F7 0,F7 1,F7 2,F8 3,F7 4,F7 5,F7 6,F7 7,F7 8,F7 9,F7 10,F7 11,F7 12])
 | 10=>some (.lin [F6 0,F6 1,F6 2,F6 3,F6 4])
 | 17=>some (.lin [F7 0,F7 1,F8 2,F7 3,F7 4,F7 5])
 | 19=>some (.forkq [F6 0,F9 1,F6 2,F9 3,F6 5,F6 8,F9 9,F6 10,F9 11,F6 12,F6 13] 4 true (.lin [Ga 6,Ga 7,F6 14,F7 15,F6 16]) 6 true (.lin [Ga 4,Ga 7,F6 14,F7 15,F6 16]))
 | _=>none
@[go_sem] theorem og194_0:og194 0=none:=rfl
attribute [go_sem] og194.eq_1
@[go_sem] theorem og194_2:og194 2=none:=rfl
attribute [go_sem] og194.eq_2
attribute [go_sem] og194.eq_3
@[go_sem] theorem og194_5:og194 5=none:=rfl
@[go_sem] theorem og194_6:og194 6=none:=rfl
@[go_sem] theorem og194_7:og194 7=none:=rfl
attribute [go_sem] og194.eq_4
@[go_sem] theorem og194_9:og194 9=none:=rfl
attribute [go_sem] og194.eq_5
@[go_sem] theorem og194_11:og194 11=none:=rfl
@[go_sem] theorem og194_13:og194 13=none:=rfl
@[go_sem] theorem og194_14:og194 14=none:=rfl
@[go_sem] theorem og194_15:og194 15=none:=rfl
@[go_sem] theorem og194_16:og194 16=none:=rfl
@[go_sem] theorem og194_12:og194 12=none:=rfl
attribute [go_sem] og194.eq_6
@[go_sem] theorem og194_18:og194 18=none:=rfl
attribute [go_sem] og194.eq_7
def og157:Ords
 | _=>none
@[go_sem] theorem og157_0:og157 0=none:=rfl
@[go_sem] theorem og157_1:og157 1=none:=rfl
@[go_sem] theorem og157_2:og157 2=none:=rfl
@[go_sem] theorem og157_3:og157 3=none:=rfl
@[go_sem] theorem og157_4:og157 4=none:=rfl
@[go_sem] theorem og157_5:og157 5=none:=rfl
@[go_sem] theorem og157_6:og157 6=none:=rfl
@[go_sem] theorem og157_7:og157 7=none:=rfl
@[go_sem] theorem og157_8:og157 8=none:=rfl
@[go_sem] theorem og157_9:og157 9=none:=rfl
@[go_sem] theorem og157_10:og157 10=none:=rfl
@[go_sem] theorem og157_11:og157 11=none:=rfl
@[go_sem] theorem og157_12:og157 12=none:=rfl
@[go_sem] theorem og157_13:og157 13=none:=rfl
@[go_sem] theorem og157_14:og157 14=none:=rfl
@[go_sem] theorem og157_15:og157 15=none:=rfl
@[go_sem] theorem og157_16:og157 16=none:=rfl
@[go_sem] theorem og157_17:og157 17=none:=rfl
def og108:Ords
 | 4=>some (.lin [F7 0,F7 1,F7 2,F8 3,F7 4,F7 5,F7 6,F7 7,F7 8])
 | 13=>some (.lin [F6 0,F6 1,F6 2,F6 3,F9 4,F6 5,Ga 6,F7 7,F6 8,F6 9,F7 10])
 | _=>none
@[go_sem] theorem og108_0:og108 0=none:=rfl
@[go_sem] theorem og108_1:og108 1=none:=rfl
@[go_sem] theorem og108_2:og108 2=none:=rfl
@[go_sem] theorem og108_3:og108 3=none:=rfl
attribute [go_sem] og108.eq_1
@[go_sem] theorem og108_5:og108 5=none:=rfl
@[go_sem] theorem og108_6:og108 6=none:=rfl
@[go_sem] theorem og108_7:og108 7=none:=rfl
@[go_sem] theorem og108_8:og108 8=none:=rfl
@[go_sem] theorem og108_9:og108 9=none:=rfl
@[go_sem] theorem og108_10:og108 10=none:=rfl
@[go_sem] theorem og108_11:og108 11=none:=rfl
@[go_sem] theorem og108_12:og108 12=none:=rfl
attribute [go_sem] og108.eq_2
@[go_sem] theorem og108_14:og108 14=none:=rfl
@[go_sem] theorem og108_15:og108 15=none:=rfl
end Yt
namespace Yt
open Go Go.Vc Go.Proofs
def typeOk (t:Int):Bool:=decide (t=2)||decide (t=3)||decide (t=4)
def fitsV (v:V) (t:Int):Bool:=typeOk t&&okV v&&(decide (v.k=t)||decide (v.k=1))
theorem d113 (v:V) (t:Int):Spec0 Tryz.prog 113 [.ag v.c,iA t] (·=bA (fitsV v t)):=by
 refine spec0_of_vc tabOk elems ord113 Tryz.func113 rfl (rl:=[.tmp 4]) rfl (by kernel_rfl) rfl ?_;refine Bb ?_;refine VIF.split (λh1=>?_) (λh1=>?_)
 ·have h1:t=2:=(by simpa using h1);refine Ah ?_;refine .pure _ (show Spec0 Tryz.prog 159 [.ag v.c] _ from s69 v) rfl λq hq _=>?_;subst hq;refine Ab ?_;refine VIF.split (λg1=>?_) (λg1=>?_)
  ·have g1:okV v=true:=by
    cases h:okV v with
    | true=>rfl
    | false=>rw[h] at g1;simp at g1
   refine Aa ?_;refine VIF.split (λg2=>?_) (λg2=>?_)
   ·have g2:v.k=t:=(by simpa using g2);refine Aa ?_;simp[fitsV,typeOk,h1,g1,g2,bA]
   ·have g2:v.k≠t:=(by simpa using g2);rw[h1] at g2;refine Aa ?_;simp[fitsV,typeOk,h1,g1,g2,bA]
  ·have g1:okV v=false:=by
    cases h:okV v with
    | false=>rfl
    | true=>rw[h] at g1;simp at g1
   refine Aa ?_;simp[fitsV,g1,bA]
 have h1:t≠2:=by simpa using h1
 refine Aa ?_;refine VIF.split (λh2=>?_) (λh2=>?_)
 ·have h2:t=3:=(by simpa using h2);refine Ah ?_;refine .pure _ (show Spec0 Tryz.prog 159 [.ag v.c] _ from s69 v) rfl λq hq _=>?_;subst hq;refine Ab ?_;refine VIF.split (λg1=>?_) (λg1=>?_)
  ·have g1:okV v=true:=by
    cases h:okV v with
    | true=>rfl
    | false=>rw[h] at g1;simp at g1
   refine Aa ?_;refine VIF.split (λg2=>?_) (λg2=>?_)
   ·have g2:v.k=t:=(by simpa using g2);refine Aa ?_;simp[fitsV,typeOk,h2,g1,g2,bA]
   ·have g2:v.k≠t:=(by simpa using g2);rw[h2] at g2;refine Aa ?_;simp[fitsV,typeOk,h2,g1,g2,bA]
  ·have g1:okV v=false:=by
    cases h:okV v with
    | false=>rfl
    | true=>rw[h] at g1;simp at g1
   refine Aa ?_;simp[fitsV,g1,bA]
 have h2:t≠3:=by simpa using h2
 refine Aa ?_;refine VIF.split (λh3=>?_) (λh3=>?_)
 ·have h3:t=4:=(by simpa using h3);refine Ah ?_;refine .pure _ (show Spec0 Tryz.prog 159 [.ag v.c] _ from s69 v) rfl λq hq _=>?_;subst hq;refine Ab ?_;refine VIF.split (λg1=>?_) (λg1=>?_)
  ·have g1:okV v=true:=by
    cases h:okV v with
    | true=>rfl
    | false=>rw[h] at g1;simp at g1
   refine Aa ?_;refine VIF.split (λg2=>?_) (λg2=>?_)
   ·have g2:v.k=t:=(by simpa using g2);refine Aa ?_;simp[fitsV,typeOk,h3,g1,g2,bA]
   ·have g2:v.k≠t:=(by simpa using g2);rw[h3] at g2;refine Aa ?_;simp[fitsV,typeOk,h3,g1,g2,bA]
  ·have g1:okV v=false:=by
    cases h:okV v with
    | false=>rfl
    | true=>rw[h] at g1;simp at g1
   refine Aa ?_;simp[fitsV,g1,bA]
 have h3:t≠4:=by simpa using h3
 refine Aa ?_;simp[fitsV,typeOk,h1,h2,h3,bA]
def givenP (p:Pr):Bool:=decide (p.kind=1)||decide (p.kind=2)
def predE (p:Pr) (types:List Int):Int:=
 if p.kind<1\/6<p.kind\/inC p.col types.length=false\/(otherP p=true/\inC p.other types.length=false)\/(givenP p=true/\okV p.val=false) then 1
 else if (givenP p=true/\fitsV p.val (getI types p.col)=false)\/(otherP p=true/\getI types p.other≠getI types p.col) then 10 else 0
theorem d205 (p:Pr) (t:List Int) (ht:t.length<1073741824):Spec0 Tryz.prog 205 [.ag p.c,intsL t] (·=iA (predE p t)):=by
 refine spec0_of_vc tabOk elems ord205 Tryz.func205 rfl (rl:=[.tmp 4]) rfl (by kernel_rfl) rfl ?_;refine Fc ?_;have bad:(p.kind<1\/6<p.kind\/inC p.col t.length=false\/(otherP p=true/\inC p.other t.length=false)\/(givenP p=true/\okV p.val=false))->AV.pr (.int .i64 1)=iA (predE p t):=λh=>by rw[predE,if_pos h];rfl
 refine VIF.split (λh1=>?_) (λh1=>?_)
 ·refine Aa ?_;exact bad (.inl (by simpa using h1))
 have h1:¬p.kind<1:=by simpa using h1
 refine Aa ?_;refine VIF.split (λh2=>?_) (λh2=>?_)
 ·refine Aa ?_;exact bad (.inr (.inl (by simpa using h2)))
 have h2:¬6<p.kind:=by simpa using h2
 refine Aa ?_;refine .pure _ (show Spec0 Tryz.prog 142 [iA p.col,iA t.length] _ from c99 p.col t.length) rfl λq hq _=>?_;subst hq;refine Ac ?_;refine VIF.split (λh3=>?_) (λh3=>?_)
 ·refine Aa ?_;exact bad (.inr (.inr (.inl (by simpa using h3))))
 have h3:inC p.col t.length=true:=by simpa using h3
 refine Bd ?_;refine .pure _ (show Spec0 Tryz.prog 143 [.ag p.c] _ from c100 p) rfl λq hq _=>?_;subst hq;refine Ac ?_;have hc:0<=p.col/\p.col.toNat<t.length:=by simp[inC] at h3;omega
 have hgc:getI t p.col=t[p.col.toNat]'hc.2:=by simp[getI,hc.2]
 refine VIF.split (λh4=>?_) (λh4=>?_)
 ·refine Aa ?_;refine .pure _ (show Spec0 Tryz.prog 142 [iA p.other,iA t.length] _ from c99 p.other t.length) rfl λq hq _=>?_;subst hq;refine Ac ?_;refine VIF.split (λh5=>?_) (λh5=>?_)
  ·refine Aa ?_;exact bad (.inr (.inr (.inr (.inl ⟨h4,by simpa using h5⟩))))
  have h5:inC p.other t.length=true:=(by simpa using h5);have hd:0<=p.other/\p.other.toNat<t.length:=by simp[inC] at h5;omega
  have hgd:getI t p.other=t[p.other.toNat]'hd.2:=(by simp[getI,hd.2]);refine Bd ?_;refine .pure _ (show Spec0 Tryz.prog 217 [.ag p.c] _ from d217 p) rfl λq hq _=>?_;subst hq;refine Ac ?_;refine VIF.split (λh6=>?_) (λh6=>?_)
  ·refine Ah ?_;refine .pure _ (show Spec0 Tryz.prog 159 [.ag p.val.c] _ from s69 p.val) rfl λq hq _=>?_;subst hq;refine Ab ?_;refine VIF.split (λh7=>?_) (λh7=>?_)
   ·refine Aa ?_;have h7:okV p.val=false:=by
     cases h:okV p.val with
     | false=>rfl
     | true=>rw[h] at h7;simp at h7
    exact bad (.inr (.inr (.inr (.inr ⟨h6,h7⟩))))
   have h7:okV p.val=true:=by
    cases h:okV p.val with
    | true=>rfl
    | false=>rw[h] at h7;simp at h7
   refine Bd ?_;refine .pure _ (show Spec0 Tryz.prog 217 [.ag p.c] _ from d217 p) rfl λq hq _=>?_;subst hq;refine Ac ?_;refine VIF.split (λ_=>?_) (λh=>absurd h6 (by rw[h];decide));refine Ab ?_;refine ⟨hc.1,EL.map hc.2 ?_⟩;refine Ah ?_;refine .pure _ (show Spec0 Tryz.prog 113 [.ag p.val.c,iA (t[p.col.toNat]'hc.2)] _ from d113 p.val (t[p.col.toNat]'hc.2)) rfl λq hq _=>?_;subst hq;refine Ac ?_;refine VIF.split (λh8=>?_) (λh8=>?_)
   ·refine Aa ?_;have h8:fitsV p.val (getI t p.col)=false:=by rw[hgc];simpa using h8
    have cond:¬(p.kind<1\/6<p.kind\/inC p.col t.length=false\/(otherP p=true/\inC p.other t.length=false)\/(givenP p=true/\okV p.val=false)):=by first|(simp[h1,h2,h3,h4,h5,h7];done)|(simp[h1,h2,h3,h4,h5,h7];omega)
    rw[predE,if_neg cond,if_pos (.inl ⟨h6,h8⟩)]<;>rfl
   have h8:fitsV p.val (getI t p.col)=true:=by rw[hgc];simpa using h8
   refine Bd ?_;refine .pure _ (show Spec0 Tryz.prog 143 [.ag p.c] _ from c100 p) rfl λq hq _=>?_;subst hq;rw[h4];refine Ay ?_;refine ⟨hd.1,EL.map hd.2 ?_⟩;refine Ab ?_;refine ⟨hc.1,EL.map hc.2 ?_⟩;refine Ab ?_;have cond:¬(p.kind<1\/6<p.kind\/inC p.col t.length=false\/(otherP p=true/\inC p.other t.length=false)\/(givenP p=true/\okV p.val=false)):=by first|(simp[h1,h2,h3,h4,h5,h7];done)|(simp[h1,h2,h3,h4,h5,h7];omega)
   refine VIF.split (λh9=>?_) (λh9=>?_)
   ·have h9:getI t p.other≠getI t p.col:=by rw[hgd,hgc];simpa using h9
    refine Aa ?_;rw[predE,if_neg cond,if_pos (.inr ⟨h4,h9⟩)];rfl
   ·have h9:getI t p.other=getI t p.col:=by rw[hgd,hgc];simpa using h9
    refine Aa ?_;rw[predE,if_neg cond,if_neg (by simp[h8,h9])];rfl
  ·have h6:givenP p=false:=(by simpa [givenP] using h6);refine Bd ?_;refine .pure _ (show Spec0 Tryz.prog 217 [.ag p.c] _ from d217 p) rfl λq hq _=>?_;subst hq;refine Ac ?_;refine VIF.split (λh=>absurd h (by rw[show (decide (p.kind=1)||decide (p.kind=2))=givenP p from rfl,h6];decide)) (λ_=>?_);refine Bd ?_;refine .pure _ (show Spec0 Tryz.prog 143 [.ag p.c] _ from c100 p) rfl λq hq _=>?_;subst hq;rw[h4];refine Ay ?_;refine ⟨hd.1,EL.map hd.2 ?_⟩;refine Ab ?_;refine ⟨hc.1,EL.map hc.2 ?_⟩;refine Ab ?_;have cond:¬(p.kind<1\/6<p.kind\/inC p.col t.length=false\/(otherP p=true/\inC p.other t.length=false)\/(givenP p=true/\okV p.val=false)):=by first|(simp[h1,h2,h3,h4,h5,h6];done)|(simp[h1,h2,h3,h4,h5,h6];omega)
   refine VIF.split (λh9=>?_) (λh9=>?_)
   ·have h9:getI t p.other≠getI t p.col:=by rw[hgd,hgc];simpa using h9
    refine Aa ?_;rw[predE,if_neg cond,if_pos (.inr ⟨h4,h9⟩)];rfl
   ·have h9:getI t p.other=getI t p.col:=by rw[hgd,hgc];simpa using h9
    refine Aa ?_;rw[predE,if_neg cond,if_neg (by simp[h6,h9])];rfl
 ·have h4:otherP p=false:=(by simpa using h4);refine Bd ?_;refine .pure _ (show Spec0 Tryz.prog 217 [.ag p.c] _ from d217 p) rfl λq hq _=>?_;subst hq;refine Ac ?_;refine VIF.split (λh6=>?_) (λh6=>?_)
  ·refine Ah ?_;refine .pure _ (show Spec0 Tryz.prog 159 [.ag p.val.c] _ from s69 p.val) rfl λq hq _=>?_;subst hq;refine Ab ?_;refine VIF.split (λh7=>?_) (λh7=>?_)
   ·refine Aa ?_;have h7:okV p.val=false:=by
     cases h:okV p.val with
     | false=>rfl
     | true=>rw[h] at h7;simp at h7
    exact bad (.inr (.inr (.inr (.inr ⟨h6,h7⟩))))
   have h7:okV p.val=true:=by
    cases h:okV p.val with
    | true=>rfl
    | false=>rw[h] at h7;simp at h7
   refine Bd ?_;refine .pure _ (show Spec0 Tryz.prog 217 [.ag p.c] _ from d217 p) rfl λq hq _=>?_;subst hq;refine Ac ?_;refine VIF.split (λ_=>?_) (λh=>absurd h6 (by rw[h];decide));refine Ab ?_;refine ⟨hc.1,EL.map hc.2 ?_⟩;refine Ah ?_;refine .pure _ (show Spec0 Tryz.prog 113 [.ag p.val.c,iA (t[p.col.toNat]'hc.2)] _ from d113 p.val (t[p.col.toNat]'hc.2)) rfl λq hq _=>?_;subst hq;refine Ac ?_;refine VIF.split (λh8=>?_) (λh8=>?_)
   ·refine Aa ?_;have h8:fitsV p.val (getI t p.col)=false:=by rw[hgc];simpa using h8
    have cond:¬(p.kind<1\/6<p.kind\/inC p.col t.length=false\/(otherP p=true/\inC p.other t.length=false)\/(givenP p=true/\okV p.val=false)):=by first|(simp[h1,h2,h3,h4,h7];done)|(simp[h1,h2,h3,h4,h7];omega)
    rw[predE,if_neg cond,if_pos (.inl ⟨h6,h8⟩)]<;>rfl
   have h8:fitsV p.val (getI t p.col)=true:=by rw[hgc];simpa using h8
   refine Bd ?_;refine .pure _ (show Spec0 Tryz.prog 143 [.ag p.c] _ from c100 p) rfl λq hq _=>?_;subst hq;rw[h4];refine Ay ?_;have cond:¬(p.kind<1\/6<p.kind\/inC p.col t.length=false\/(otherP p=true/\inC p.other t.length=false)\/(givenP p=true/\okV p.val=false)):=by first|(simp[h1,h2,h3,h4,h7];done)|(simp[h1,h2,h3,h4,h7];omega)
   rw[predE,if_neg cond,if_neg (by simp[h4,h8])]<;>rfl
  ·have h6:givenP p=false:=(by simpa [givenP] using h6);refine Bd ?_;refine .pure _ (show Spec0 Tryz.prog 217 [.ag p.c] _ from d217 p) rfl λq hq _=>?_;subst hq;refine Ac ?_;refine VIF.split (λh=>absurd h (by rw[show (decide (p.kind=1)||decide (p.kind=2))=givenP p from rfl,h6];decide)) (λ_=>?_);refine Bd ?_;refine .pure _ (show Spec0 Tryz.prog 143 [.ag p.c] _ from c100 p) rfl λq hq _=>?_;subst hq;rw[h4];refine Ay ?_;have cond:¬(p.kind<1\/6<p.kind\/inC p.col t.length=false\/(otherP p=true/\inC p.other t.length=false)\/(givenP p=true/\okV p.val=false)):=by first|(simp[h1,h2,h3,h4,h6];done)|(simp[h1,h2,h3,h4,h6];omega)
   rw[predE,if_neg cond,if_neg (by simp[h4,h6])]<;>rfl
theorem lent_box {objs:Nat->Option Ob} {a d:Nat} {F:List (List Int)} {D:List Nd} (ha:objs a=some ⟨2,[[formsA F,.rf d 0 D.length]]⟩) (hd:objs d=some ⟨3,D.map Nd.c⟩):Lent objs (.pt a 0 0) (.ro [formsA F,.im 3 (D.map Nd.c)] 0):=by
 refine .pt ha rfl rfl (λj a' h=>?_) λj b b' h1 h2=>?_
 ·match j with
  | 0=>simp at h;subst h;rfl
  | 1=>simp at h;subst h;rfl
  | j+2=>simp at h
 ·match j with
  | 0=>simp at h1 h2;subst h1;subst h2;exact .same rfl
  | 1=>
    simp at h1 h2;subst h1;subst h2;exact lent_leafy (o:=ndO D) hd rfl (by simp) (ndO_leafy D) λx hx=>by obtain ⟨v,_,rfl⟩:=List.mem_map.1 hx;rfl
  | j+2=>simp at h1
theorem nd_es {st:St} {m:List (Nat×Option Nat)} {D:List Nd}:Es st m (D.map Nd.c) (D.map Nd.c):=.same (ndO D) _ _ (ndO_leafy D) rfl
theorem FINwe {F:List (List Int)} {D:List Nd} {O0:Nat->Option Ob} {K:AV->(Nat->Option Ob)->Prop} {st:St} (c1 c2 c3:AV) (e:Int) (h0:∀i,O0 i≠none->i=0) (hb:st.objs 0=some ⟨2,[[formsA F,.rf 3000 0 D.length]]⟩) (hd:st.objs 3000=some ⟨3,D.map Nd.c⟩)
 (h4:st.regs 4=.pt 4 0 0) (hc:st.objs 4=some ⟨3,[[c1,c2,c3]]⟩) (hl:c1.leaf=true/\c2.leaf=true/\c3.leaf=true) (h5:st.regs 5=iA e) (k:K (.tu [.ag [c1,c2,c3],iA e]) (wO F D)):FIN T O0 [.cell 4 146,.tmp 5] K st:=by
 refine FINw (F:=F) (D:=D) h0 [(4,.ro [c1,c2,c3] 0),(5,iA e)] rfl ?_ ?_
 ·(simp -implicitDefEqProofs only[go_sem,boxO,h4,h5,hb,hc,hd,iA,ndO];repeat (refine GO ?_;simp -implicitDefEqProofs only[go_sem,boxO,h4,h5,hb,hc,hd,iA,ndO]));refine ⟨⟨by simp[olds],_,rfl,λx hx a ha=>?_,rfl⟩,.cons (by simp[wk.wks,wk,nms,formsA]) .nil,nd_es⟩;simp only[List.mem_singleton] at hx;subst hx;simp only[List.mem_cons,List.not_mem_nil,or_false] at ha;rcases ha with rfl|rfl|rfl
  ·exact hl.1
  ·exact hl.2.1
  ·exact hl.2.2
 ·refine Ab ?_;exact k
theorem FINfrz {O0:Nat->Option Ob} {l:List ResultVar} {K:AV->(Nat->Option Ob)->Prop} {st:St} (id:Nat) (o:Ob) (ho:st.objs id=some o) (hl:o.leafy) (h0:∀i,O0 i≠none->i=0) (k:FIN T O0 l K (st.frz id o)):FIN T O0 l K st:=by obtain ⟨st',h1,h2⟩:=k;exact ⟨st',λF n a w hF R=>h1 F n a w hF (frz_ent ho hl F n a w (λi hi=>h0 i (by rw[<- hF];exact hi)) R),h2⟩
@[go_sem] theorem fzE_nd {id:Nat} {o:Ob} {D:List Nd}:fzE id o (D.map Nd.c)=D.map Nd.c:=by
  induction D with
  | nil=>rfl
  | cons d r ih=>
    simp only[List.map_cons];show (_::fzE id o (r.map Nd.c))=_;rw[ih];rfl
theorem pn_leafy (x:PN):(Ob.mk 14 [PN.c x]).leafy:=by simp[Ob.leafy,PN.c,AV.leaf,iA,intsL]
def ndAt (D:List Nd) (k:Int):Nd:=(D[k.toNat]?).getD ⟨[],0,0⟩
theorem d193 (F:List (List Int)) (D:List Nd) (x:PN) (hD:D.length<1073741824):SpecW 193 F D [.ag x.c] (λr=>∃c1 c2 c3 e,r=.tu [.ag [c1,c2,c3],iA e]/\(c1.leaf&&c2.leaf&&c3.leaf)=true/\e=(if inC x.a D.length=true then 0 else 1)/\(e=0->AV.ag [c1,c2,c3]=.ag (ndAt D x.a).c)):=by
 refine funspecD_of_vc tabOk elems ord193 Tryz.func193 rfl (rl:=[.cell 4 146,.tmp 5]) rfl (by kernel_rfl) rfl kept_0 ?_;(simp -implicitDefEqProofs only[go_sem,PN.c,boxO,ndO,wO,wU];repeat (refine GO ?_;simp -implicitDefEqProofs only[go_sem,PN.c,boxO,ndO,wO,wU]));refine .lendR (args':=[.ro [formsA F,.im 3 (D.map Nd.c)] 0,iA x.a]) (d204 F D x.a) ⟨lent_box (d:=3000) Aj Aj,.same rfl,trivial⟩ (by rintro _ rfl;rfl) λq hq=>?_;subst hq;refine Ac ?_;refine VIF.split (λh=>?_) (λh=>?_)
 ·have h:inC x.a D.length=false:=(by simpa using h);refine Aa ?_;refine FINwe .nl (iA 0) (iA 0) 1 kept_0 Aj Aj Aj A7 ⟨rfl,rfl,rfl⟩ A7 ⟨⟨⟨_,_,_,1,rfl,rfl,by rw[h];rfl,λh=>by cases h⟩,rfl⟩,rfl⟩
 ·have h:inC x.a D.length=true:=(by simpa using h);have ha:0<=x.a/\x.a.toNat<D.length:=by simp[inC] at h;omega
  refine Ab ?_;refine ⟨by omega,EL.map ha.2 ?_⟩;simp -implicitDefEqProofs only[go_sem,Nd.c];have e1:ndAt D x.a=D[x.a.toNat]'ha.2:=(by simp[ndAt,ha.2]);refine FINwe (intsL (D[x.a.toNat]'ha.2).types) (iA (D[x.a.toNat]'ha.2).w) (iA (D[x.a.toNat]'ha.2).v) 0 kept_0 Aj Aj Aj A7 ⟨rfl,rfl,rfl⟩ Ai ⟨⟨⟨_,_,_,0,rfl,rfl,by rw[h];rfl,λ_=>by rw[e1]<;>rfl⟩,rfl⟩,rfl⟩
theorem d188 (F:List (List Int)) (D:List Nd) (x:PN) (hD:F.length<1073741824) (hF:∀l∈F,l.length<1073741824):SpecW 188 F D [.ag x.c] (λr=>∃c1 c2 c3 e,r=.tu [.ag [c1,c2,c3],iA e]/\(c1.leaf&&c2.leaf&&c3.leaf)=true/\e=(if inC x.table F.length=true then 0 else 1)/\(e=0->AV.ag [c1,c2,c3]=.ag (Nd.c ⟨4::((F[x.table.toNat]?).getD []),1024,2147483648⟩))):=by
 refine funspecD_of_vc tabOk elems og188 Tryz.func188 rfl (rl:=[.cell 4 146,.tmp 5]) rfl (by kernel_rfl) rfl kept_0 ?_;refine Bt ?_;refine VIF.split (λh=>?_) (λh=>?_)
 ·have h:inC x.table F.length=false:=by simp at h;simp[inC];omega
  refine Aa ?_;refine FINwe .nl (iA 0) (iA 0) 1 kept_0 Aj Aj Aj A7 ⟨rfl,rfl,rfl⟩ A7 ⟨⟨⟨_,_,_,1,rfl,rfl,by rw[h];rfl,λh=>by cases h⟩,rfl⟩,rfl⟩
 have h0:¬x.table<0:=by simpa using h
 refine Cc ?_;refine VIF.split (λh=>?_) (λh=>?_)
 ·have h:inC x.table F.length=false:=by simp at h;simp[inC];omega
  refine Aa ?_;refine FINwe .nl (iA 0) (iA 0) 1 kept_0 (by (simp -implicitDefEqProofs only[go_sem,formsA];repeat (refine GO ?_;simp -implicitDefEqProofs only[go_sem,formsA]))) Aj Aj A7 ⟨rfl,rfl,rfl⟩ A7 ⟨⟨⟨_,_,_,1,rfl,rfl,by rw[h];rfl,λh=>by cases h⟩,rfl⟩,rfl⟩
 have h1:x.table.toNat<F.length:=by simp at h;omega
 have h:inC x.table F.length=true:=by simp[inC];omega
 have hl:=hF _ (List.getElem_mem h1);refine Aw ?_;refine TO [(0,some 0),(4,some 4),(3000,some 3000)] [(0,.pt 0 0 0),(3,.ro x.c 0),(4,.pt 4 0 0)] [(0,⟨2,[[formsA F,.rf 3000 0 D.length]]⟩),(4,⟨3,[[.nl,iA 0,iA 0]]⟩),(3000,⟨3,D.map Nd.c⟩)] [0,4,3000] rfl ?_ ?_
 ·refine E0 ?_;refine ⟨by simp,⟨by simp[olds],_,rfl,by have:=pn_leafy x;simpa only[PN.c,iA] using this,rfl⟩,.cons (by simp[wk.wks,wk,nms]) .nil,.cons (by simp[wk.wks,wk]) .nil,nd_es⟩
 refine E0 ?_;have hfx:(F[x.table.toNat]?).getD []=F[x.table.toNat]'h1:=by simp[h1]
 have hc:AV.im (io (4::F[x.table.toNat]'h1)).sz (List.take (1+(F[x.table.toNat]'h1).length) (io (4::F[x.table.toNat]'h1)).es)=intsL (4::F[x.table.toNat]'h1):=by rw[List.take_of_length_le (by simp[io];omega)];rfl
 refine ⟨by omega,EL.map h1 ?_⟩;refine Aq ?_;refine ⟨by omega,?_⟩;refine FINfrz 30 (io (4::F[x.table.toNat]'h1)) (by refine Aa ?_;rfl) (io_leafy _) kept_0 ?_;refine Aw ?_;rw[hc];exact FINwe (intsL (4::F[x.table.toNat]'h1)) (iA 1024) (iA 2147483648) 0 kept_0 (by simp -implicitDefEqProofs only[go_sem,formsA,intsL];rfl) Ae Ae Ai ⟨rfl,rfl,rfl⟩ Ai ⟨⟨⟨_,_,_,0,rfl,rfl,by rw[h];rfl,λ_=>by rw[hfx]<;>rfl⟩,rfl⟩,rfl⟩
theorem d189 (F:List (List Int)) (D:List Nd) (x:PN) (hD:D.length<1073741824) (hT:∀d∈D,d.types.length<1073741824):SpecW 189 F D [.ag x.c] (λr=>∃c1 c2 c3 e,r=.tu [.ag [c1,c2,c3],iA e]/\(c1.leaf&&c2.leaf&&c3.leaf)=true/\e=(if inC x.a D.length=true then predE x.pred (ndAt D x.a).types else 1)/\(e=0->AV.ag [c1,c2,c3]=.ag (ndAt D x.a).c)):=by
 refine funspecD_of_vc tabOk elems og189 Tryz.func189 rfl (rl:=[.cell 4 146,.tmp 5]) rfl (by kernel_rfl) rfl kept_0 ?_;refine Bt ?_;refine .lendR (args':=[.ro [formsA F,.im 3 (D.map Nd.c)] 0,iA x.a]) (d204 F D x.a) ⟨lent_box (d:=3000) Aj Aj,.same rfl,trivial⟩ (by rintro _ rfl;rfl) λq hq=>?_;subst hq;refine Ac ?_;refine VIF.split (λh=>?_) (λh=>?_)
 ·have h:inC x.a D.length=false:=(by simpa using h);refine Aa ?_;refine FINwe .nl (iA 0) (iA 0) 1 kept_0 Aj Aj Aj A7 ⟨rfl,rfl,rfl⟩ A7 ⟨⟨⟨_,_,_,1,rfl,rfl,by rw[h];rfl,λh=>by cases h⟩,rfl⟩,rfl⟩
 have h:inC x.a D.length=true:=by simpa using h
 have ha:0<=x.a/\x.a.toNat<D.length:=by simp[inC] at h;omega
 have e1:ndAt D x.a=D[x.a.toNat]'ha.2:=by simp[ndAt,ha.2]
 refine Aw ?_;refine TO [(0,some 0),(4,some 4),(3000,some 3000)] [(0,.pt 0 0 0),(3,.ro x.c 0),(4,.pt 4 0 0)] [(0,⟨2,[[formsA F,.rf 3000 0 D.length]]⟩),(4,⟨3,[[.nl,iA 0,iA 0]]⟩),(3000,⟨3,D.map Nd.c⟩)] [0,4,3000] rfl ?_ ?_
 ·refine Ba ?_;refine ⟨by simp,⟨by simp[olds],_,rfl,by have:=pn_leafy x;simpa only[PN.c,iA] using this,rfl⟩,.cons (by simp[wk.wks,wk,nms,formsA]) .nil,.cons (by simp[wk.wks,wk]) .nil,nd_es⟩
 refine Ba ?_;simp -implicitDefEqProofs only[go_sem,PN.c,iA,og189_3];repeat' (first|exact ha.1|(show _<((D.length:Nat):Int);omega)|(refine EL.map ha.2 ?_;simp -implicitDefEqProofs only[go_sem,Nd.c,iA,PN.c])|apply And.intro)
 all_goals refine .pure _ (show Spec0 Tryz.prog 205 [.ag x.pred.c,intsL (D[x.a.toNat]'ha.2).types] _ from d205 x.pred (D[x.a.toNat]'ha.2).types (hT _ (List.getElem_mem ha.2))) rfl λq hq _=>?_
 all_goals subst hq
 all_goals (simp -implicitDefEqProofs only[go_sem,iA];repeat (refine GO ?_;simp -implicitDefEqProofs only[go_sem,iA]))
 all_goals exact FINwe (intsL (D[x.a.toNat]'ha.2).types) (iA (D[x.a.toNat]'ha.2).w) (iA (D[x.a.toNat]'ha.2).v) (predE x.pred (D[x.a.toNat]'ha.2).types) kept_0 (by simp -implicitDefEqProofs only[go_sem,formsA]) Ae Ae Ai ⟨rfl,rfl,rfl⟩ Ai ⟨⟨⟨_,_,_,_,rfl,rfl,by rw[h,e1];rfl,λ_=>by rw[e1]<;>rfl⟩,rfl⟩,rfl⟩
def projE (x:PN) (D:List Nd):Int:=if inC x.a D.length=false\/x.cols.any (outC (ndAt D x.a).types.length)=true then 1 else if 12<x.cols.length then 2 else 0
def projN (x:PN) (D:List Nd):Nd:=⟨pickI (ndAt D x.a).types x.cols,(ndAt D x.a).w,(ndAt D x.a).v⟩
theorem Spec1.intsC {f:Nat} {args:List AV} {l:List Int} (h:Spec1 Tryz.prog f args (λr o=>r=.rf 0 0 l.length/\o=io l)):Spec0 Tryz.prog f args (·=intsL l):=
 (Spec1.fz h).mono λr O' ⟨⟨⟨r0,o,⟨e1,e2⟩,_,_,e3⟩,hn⟩,hO⟩=>by subst e1;subst e2;subst e3;refine ⟨⟨?_,hn⟩,hO⟩;rw[fz_rf,if_pos rfl,List.drop_zero,List.take_of_length_le (by simp[io])];rfl
theorem d190 (F:List (List Int)) (D:List Nd) (x:PN) (hD:D.length<1073741824) (hc:x.cols.length<1073741824):SpecW 190 F D [.ag x.c] (λr=>∃c1 c2 c3 e,r=.tu [.ag [c1,c2,c3],iA e]/\(c1.leaf&&c2.leaf&&c3.leaf)=true/\e=projE x D/\(e=0->AV.ag [c1,c2,c3]=.ag (projN x D).c)):=by
 refine funspecD_of_vc tabOk elems og190 Tryz.func190 rfl (rl:=[.cell 4 146,.tmp 5]) rfl (by kernel_rfl) rfl kept_0 ?_;refine Bt ?_;refine .lendR (args':=[.ro [formsA F,.im 3 (D.map Nd.c)] 0,iA x.a]) (d204 F D x.a) ⟨lent_box (d:=3000) Aj Aj,.same rfl,trivial⟩ (by rintro _ rfl;rfl) λq hq=>?_;subst hq;refine Ac ?_;refine VIF.split (λh=>?_) (λh=>?_)
 ·have h:inC x.a D.length=false:=(by simpa using h);refine Aa ?_;refine FINwe .nl (iA 0) (iA 0) 1 kept_0 Aj Aj Aj A7 ⟨rfl,rfl,rfl⟩ A7 ⟨⟨⟨_,_,_,1,rfl,rfl,by rw[projE,if_pos (.inl h)],λh=>by cases h⟩,rfl⟩,rfl⟩
 have h:inC x.a D.length=true:=by simpa using h
 have ha:0<=x.a/\x.a.toNat<D.length:=by simp[inC] at h;omega
 have e1:ndAt D x.a=D[x.a.toNat]'ha.2:=by simp[ndAt,ha.2]
 refine Ab ?_;repeat' (first|exact ha.1|(show _<((D.length:Nat):Int);omega)|(refine EL.map ha.2 ?_;(simp -implicitDefEqProofs only[go_sem,Nd.c,iA,intsL];repeat (refine GO ?_;simp -implicitDefEqProofs only[go_sem,Nd.c,iA,intsL])))|apply And.intro)
 obtain ⟨n,hn⟩:∃n,n=D[x.a.toNat]'ha.2:=⟨_,rfl⟩;rw[<- hn] at e1 ⊢;refine .pure _ (show Spec0 Tryz.prog 206 [intsL x.cols,iA n.types.length] _ from d206 x.cols n.types.length (by omega)) rfl λq hq _=>?_;subst hq;refine Ac ?_;refine VIF.split (λh2=>?_) (λh2=>?_)
 ·have h2:x.cols.any (outC n.types.length)=true:=(by simpa using h2);refine Aa ?_;refine FINwe .nl (iA 0) (iA 0) 1 kept_0 Ae Ae Ae Ai ⟨rfl,rfl,rfl⟩ Ai ⟨⟨⟨_,_,_,1,rfl,rfl,by rw[projE,if_pos (.inr (by rw[e1];exact h2))],λh=>by cases h⟩,rfl⟩,rfl⟩
 have h2:x.cols.any (outC n.types.length)=false:=by simpa using h2
 have cond:¬(inC x.a D.length=false\/x.cols.any (outC (ndAt D x.a).types.length)=true):=by rw[e1,h,h2];simp
 refine Ab ?_;refine VIF.split (λh3=>?_) (λh3=>?_)
 ·have h3:12<x.cols.length:=by simp at h3;omega
  refine Aa ?_;refine FINwe .nl (iA 0) (iA 0) 2 kept_0 Ae Ae Ae Ai ⟨rfl,rfl,rfl⟩ Ai ⟨⟨⟨_,_,_,2,rfl,rfl,by rw[projE,if_neg cond,if_pos h3],λh=>by cases h⟩,rfl⟩,rfl⟩
 have h3:¬12<x.cols.length:=by simp at h3;omega
 refine Aw ?_;refine TO [(0,some 0),(4,some 4),(3000,some 3000)] [(0,.pt 0 0 0),(3,.ro x.c 0),(4,.pt 4 0 0)] [(0,⟨2,[[formsA F,.rf 3000 0 D.length]]⟩),(4,⟨3,[[.nl,iA 0,iA 0]]⟩),(3000,⟨3,D.map Nd.c⟩)] [0,4,3000] rfl ?_ ?_
 ·refine B0 ?_;refine ⟨by simp,⟨by simp[olds],_,rfl,by have:=pn_leafy x;simpa only[PN.c,iA,intsL] using this,rfl⟩,.cons (by simp[wk.wks,wk,nms,formsA]) .nil,.cons (by simp[wk.wks,wk]) .nil,nd_es⟩
 refine Fo ?_;repeat' (first|exact ha.1|(show _<((D.length:Nat):Int);omega)|(refine EL.map ha.2 ?_;simp -implicitDefEqProofs only[go_sem,Nd.c,iA,PN.c])|apply And.intro)
 all_goals refine .pure _ (show Spec0 Tryz.prog 207 [intsL (D[x.a.toNat]'ha.2).types,intsL x.cols] _ from Spec1.intsC (by have:=d207 (D[x.a.toNat]'ha.2).types x.cols hc (by rw[<- hn];exact h2);exact this.mono λr O' ⟨o,⟨⟨q1,q2⟩,q3⟩,q4,q5⟩=>⟨o,⟨⟨by rw[q1];simp[pickI],q2⟩,q3⟩,q4,q5⟩)) rfl λq hq _=>?_
 all_goals subst hq
 all_goals simp -implicitDefEqProofs only[go_sem,iA,intsL]
 all_goals exact FINwe (intsL (pickI (D[x.a.toNat]'ha.2).types x.cols)) (iA (D[x.a.toNat]'ha.2).w) (iA (D[x.a.toNat]'ha.2).v) 0 kept_0 (by simp -implicitDefEqProofs only[go_sem,formsA]) Ae Ae (by simp -implicitDefEqProofs only[go_sem,iA,intsL]) ⟨rfl,rfl,rfl⟩ Ai ⟨⟨⟨_,_,_,0,rfl,rfl,by rw[projE,if_neg cond,if_neg h3],λ_=>by rw[projN,e1,hn];rfl⟩,rfl⟩,rfl⟩
theorem d175 (g:Nat) (p:List Int->Bool) (B:List Int->Prop) (hg:∀l:List Int,B l->Spec0 Tryz.prog g [.ag [intsL l]] (·=bA (p l))) (a:List (List Int)) (hB:∀l∈a,B l) (ha:a.length<4611686018427387904) :
 Spec0 Tryz.prog 175 [formsA a,.fn g []] (·=idxA p a):=by
 refine spec0_of_vc tabOk elems ord175 Tryz.func175 rfl (rl:=[.tmp 4]) rfl (by kernel_rfl) rfl ?_;refine Cc ?_
 refine LOOP.mk (ι:={i:Nat//i<=a.length/\∀j (hj:j<a.length),j<i->p a[j]=false}) (λi=>mkS [(0,formsA a),(1,.fn g []),(7,iA a.length),(8,iA i.1)] [] []) (λi=>a.length-i.1)
  ⟨0,by simp⟩ [] rfl rfl ?_ (λi=>?_)
 ·refine A6 ?_;exact ⟨id,rfl⟩
 ·obtain ⟨i,hi,hz⟩:=i;refine A6 ?_;refine VIF.split (λh=>?_) (λh=>?_)
  ·have hi':i<a.length:=(by simpa using h);have w1:=wrap_add1 (show i<4611686018427387904 by omega);refine Aa ?_;refine EL.map hi' ?_;refine Aa ?_;refine .pure _ (hg a[i] (hB _ (List.getElem_mem hi'))) rfl λr hr _=>?_;subst hr;refine Ac ?_;refine VIF.split (λe=>?_) (λe=>?_)
   ·refine Aa ?_;have:a.findIdx? p=some i:=by
     rw[List.findIdx?_eq_some_iff_getElem];exact ⟨hi',e,λj hj=>by simpa using hz j (by omega) hj⟩
    simp[idxA,this,idxI,iA]
   ·refine Af ?_;refine BACK.mk ⟨i+1,by omega,λj hj hji=>?_⟩ [] rfl rfl (by show a.length-(i+1)<a.length-i;omega) ?_
    ·by_cases e2:j=i
     ·subst e2;exact e
     ·exact hz j hj (by omega)
    ·refine Cj ?_;exact id
  ·have h:i=a.length:=by simp at h;omega
   subst h;refine Aa ?_;have:a.findIdx? p=none:=by rw[List.findIdx?_eq_none_iff];intro x hx;obtain ⟨j,hj,rfl⟩:=List.mem_iff_getElem.1 hx;exact hz j hj hj
   simp[idxA,this,idxI,iA]
theorem d127 (g:Nat) (p:List Int->Bool) (B:List Int->Prop) (hg:∀l:List Int,B l->Spec0 Tryz.prog g [.ag [intsL l]] (·=bA (p l))) (a:List (List Int)) (hB:∀l∈a,B l) (ha:a.length<4611686018427387904) :
 Spec0 Tryz.prog 127 [formsA a,.fn g []] (·=bA (a.any p)):=by
 refine spec0_of_vc tabOk elems ord127 Tryz.func127 rfl (rl:=[.tmp 4]) rfl (by kernel_rfl) rfl ?_;refine Cc ?_;refine .pure _ (show Spec0 Tryz.prog 175 [formsA a,.fn g []] _ from d175 g p B hg a hB ha) rfl λr hr _=>?_;subst hr;refine Bu ?_;rw[idx_any];rfl
def badC (l:List Int):Bool:=decide (l.length<1)||decide (4<l.length)
def badT (c:Int):Bool:=decide (c<2)||decide (4<c)
theorem d128 (l:List Int) (h:l.length<4611686018427387904):Spec0 Tryz.prog 128 [.ag [intsL l]] (·=bA (badC l)):=by
 refine spec0_of_vc tabOk elems ord128 Tryz.func128 rfl (rl:=[.tmp 2]) rfl (by kernel_rfl) rfl ?_;refine A3 ?_;refine VIF.split (λh1=>?_) (λh1=>?_)
 ·refine Aa ?_;have h1:l.length<1:=by simp at h1;omega
  simp[h1,badC,bA]
 ·refine Aa ?_;have h1:¬l.length<1:=by simp at h1;omega
  simp[h1,badC,bA];omega
theorem d130 (c:Int):Spec0 Tryz.prog 130 [iA c] (·=bA (badT c)):=by
 refine spec0_of_vc tabOk elems ord130 Tryz.func130 rfl (rl:=[.tmp 2]) rfl (by kernel_rfl) rfl ?_;refine Ab ?_;refine VIF.split (λh=>?_) (λh=>?_)
 ·refine Aa ?_;simp at h;simp[h,badT,bA]
 ·refine Aa ?_;have h:¬c<2:=(by simpa using h);simp[h,badT,bA]
def formsE (F:List (List Int)):Int:=if F.length<1\/3<F.length\/F.any badC=true then 2 else if F.any (λl=>l.any badT)=true then 10 else 0
theorem d73 (F:List (List Int)) (hF:F.length<1073741824) (hl:∀l∈F,l.length<1073741824):Spec0 Tryz.prog 73 [formsA F] (·=iA (formsE F)):=by
 refine spec0_of_vc tabOk elems ord73 Tryz.func73 rfl (rl:=[.tmp 2]) rfl (by kernel_rfl) rfl ?_;refine Cc ?_;have bad:(F.length<1\/3<F.length\/F.any badC=true)->AV.pr (.int .i64 2)=iA (formsE F):=λh=>by rw[formsE,if_pos h];rfl
 refine VIF.split (λh1=>?_) (λh1=>?_)
 ·refine Aa ?_;exact bad (.inl (by simp at h1;omega))
 have h1:¬F.length<1:=by simp at h1;omega
 refine Aa ?_;refine VIF.split (λh2=>?_) (λh2=>?_)
 ·refine Aa ?_;exact bad (.inr (.inl (by simp at h2;omega)))
 have h2:¬3<F.length:=by simp at h2;omega
 refine Aa ?_;refine .pure _ (show Spec0 Tryz.prog 127 [formsA F,.fn 128 []] _ from d127 128 badC (λl=>l.length<4611686018427387904) (λl h=>d128 l h) F (λl h=>by have:=hl l h;omega) (by omega)) rfl λr hq _=>?_;subst hq;refine Ac ?_;refine VIF.split (λh3=>?_) (λh3=>?_)
 ·refine Aa ?_;exact bad (.inr (.inr h3))
 have cond:¬(F.length<1\/3<F.length\/F.any badC=true):=by rintro (h|h|h)<;>simp_all
 refine Aa ?_;refine LOOP.mk (ι:={i:Nat//i<=F.length/\∀j (h:j<F.length),j<i->F[j].any badT=false}) (λp=>mkS [(15,formsA F),(16,iA F.length),(17,iA p.1)] [] []) (λp=>F.length-p.1) ⟨0,Nat.zero_le _,λj _ h=>absurd h (Nat.not_lt_zero _)⟩ [] rfl rfl ?_ (λp=>?_)
 ·refine A6 ?_;exact ⟨id,rfl⟩
 obtain ⟨i,hi,hz⟩:=p;refine A6 ?_;refine VIF.split (λh=>?_) (λh=>?_)
 ·have h:i<F.length:=(by simpa using h);have w1:=wrap_add1 (show i<4611686018427387904 by omega);refine Aa ?_;refine EL.map h ?_;refine Aa ?_;refine .pure _ (show Spec0 Tryz.prog 129 [intsL F[i],.fn 130 []] _ from c102 130 [] rfl badT (λc=>d130 c) F[i] (by have:=hl _ (List.getElem_mem h);omega)) rfl λr hq _=>?_;subst hq;refine Ac ?_;refine VIF.split (λh4=>?_) (λh4=>?_)
  ·refine Aa ?_;have:F.any (λl=>l.any badT)=true:=List.any_eq_true.2 ⟨F[i],List.getElem_mem h,h4⟩;rw[formsE,if_neg cond,if_pos this]<;>rfl
  ·refine Af ?_;refine BACK.mk ⟨i+1,by omega,λj hj hji=>if e:j=i then (by subst e;exact h4) else hz j hj (by omega)⟩ [] rfl rfl (by show F.length-(i+1)<F.length-i;omega) ?_;refine Cj ?_;exact id
 ·have h:i=F.length:=by simp at h;omega
  subst h;refine Aa ?_;have:F.any (λl=>l.any badT)=false:=by rw[List.any_eq_false];intro l hl2;obtain ⟨j,hj,rfl⟩:=List.mem_iff_getElem.1 hl2;simp[hz j hj hj]
  rw[formsE,if_neg cond,if_neg (by rw[this];decide)]<;>rfl
def fitR:List V->List Int->Bool
 | [],[]=>true
 | v::r,t::ts=>fitsV v t&&fitR r ts
 | _,_=>false
theorem fitR_len:∀{r:List V} {ts:List Int},fitR r ts=true->r.length=ts.length
 | [],[],_=>rfl
 | v::r,t::ts,h=>by
   simp only[fitR,Bool.and_eq_true] at h;simp[fitR_len h.2]
theorem fitR_at:∀{r:List V} {ts:List Int} (h:fitR r ts=true) (j:Nat) (h1:j<r.length) (h2:j<ts.length),fitsV r[j] ts[j]=true
 | v::r,t::ts,h,0,_,_=>by simp only[fitR,Bool.and_eq_true] at h;exact h.1
 | v::r,t::ts,h,j+1,h1,h2=>by
   simp only[fitR,Bool.and_eq_true] at h;exact fitR_at h.2 j (by simpa using h1) (by simpa using h2)
theorem fitR_app:∀{a b:List V} {s t:List Int},fitR a s=true->fitR b t=true->fitR (a++b) (s++t)=true
 | [],_,[],_,_,h=>h
 | v::a,_,x::s,_,h,g=>by
   simp only[fitR,Bool.and_eq_true] at h;simp only[List.cons_append,fitR,Bool.and_eq_true];exact ⟨h.1,fitR_app h.2 g⟩
theorem fits_ok {v:V} {t:Int} (h:fitsV v t=true):okV v=true:=by simp only[fitsV,Bool.and_eq_true] at h;exact h.1.2
theorem fitR_mem:∀{r:List V} {ts:List Int},fitR r ts=true->∀v∈r,okV v=true
 | [],[],_,v,hv=>by cases hv
 | v::r,t::ts,h,u,hu=>by
   simp only[fitR,Bool.and_eq_true] at h;rcases List.mem_cons.1 hu with rfl|hu
   ·exact fits_ok h.1
   ·exact fitR_mem h.2 u hu
theorem fitR_get {r:List V} {ts:List Int} (h:fitR r ts=true) {c:Int} (h0:0<=c) (h1:c<ts.length):fitsV (getV r c) (getI ts c)=true:=by
 have hl:=fitR_len h;have h2:c.toNat<ts.length:=by omega
 have h3:c.toNat<r.length:=by omega
 have:=fitR_at h c.toNat h3 h2;simpa [getV,getI,h2,h3] using this
theorem outC_in {n:Nat} {l:List Int} (h:l.any (outC n)=false):∀c∈l,0<=c/\c<n:=λc hc=>by rw[List.any_eq_false] at h;have:=h c hc;simp[outC] at this;omega
theorem fitR_pick {r:List V} {ts:List Int} (h:fitR r ts=true):∀{l:List Int},l.any (outC ts.length)=false->fitR (pickR r l) (pickI ts l)=true
 | [],_=>rfl
 | c::l,hl=>by
   have hc:=outC_in hl c (by simp);simp only[pickR,pickI,List.map_cons,fitR,Bool.and_eq_true];refine ⟨fitR_get h hc.1 hc.2,fitR_pick h (l:=l) ?_⟩;simp only[List.any_cons,Bool.or_eq_false_iff] at hl;exact hl.2
theorem fitR_ok {r:List V} {ts:List Int} (h:fitR r ts=true) (hl:ts.length<=12):okR r=0:=okR_all.2 ⟨by rw[fitR_len h];exact hl,fitR_mem h⟩
structure Nds (z:List It) (n:Nd):Prop where
 good:Good z
 fit:∀t∈z,fitR t.row n.types=true
 abs:absS z<=n.w
 val:∀t∈z,∀v∈t.row,v.k=3->-n.v<=v.i/\v.i<=n.v
structure Ndb (n:Nd):Prop where
 w0:0<=n.w
 w1:n.w<=1125899906842624
 v0:0<=n.v
 v1:n.v<=1152921504606846976
 tl:n.types.length<=12
theorem Nds.made {z:List It} {n:Nd} (h:Nds z n):Made z:=(good_made.1 h.good).1
theorem Nds.ok {z:List It} {n:Nd} (h:Nds z n):∀t∈z,okR t.row=0:=(good_made.1 h.good).2
theorem Nds.row {z:List It} {n:Nd} (h:Nds z n):∀t∈z,t.row.length=n.types.length:=λt ht=>fitR_len (h.fit t ht)
theorem Nds.r12 {z:List It} {n:Nd} (h:Nds z n):∀t∈z,t.row.length<=12:=λt ht=>okR_len (h.ok t ht)
theorem abs_mem:∀{z:List It} {t:It},t∈z->-absS z<=t.w/\t.w<=absS z
 | u::z,t,ht=>by
   have h0:=absS_pos z;simp only[absS];rcases List.mem_cons.1 ht with rfl|ht
   ·omega
   ·have:=abs_mem ht;omega
theorem abs_tot (r:List V):∀z:List It,-absS z<=tot r z/\tot r z<=absS z
 | []=>by simp[absS,tot]
 | t::z=>by
   have h:=abs_tot r z;simp only[absS,tot];split<;>omega
theorem abs_filter (f:It->Bool):∀z:List It,absS (z.filter f)<=absS z
 | []=>by simp[absS]
 | t::z=>by
   have h:=abs_filter f z;have h0:=absS_pos z;simp only[List.filter_cons,absS];split
   ·simp only[absS];omega
   ·omega
theorem len_abs:∀{z:List It},(∀t∈z,t.w≠0)->(z.length:Int)<=absS z
 | [],_=>by simp[absS]
 | t::z,h=>by
   have h1:=len_abs (z:=z) λu hu=>h u (by simp[hu]);have h2:=h t (by simp);simp only[absS,List.length_cons];omega
theorem ok_w {w K:Int} (h1:-K<=w) (h2:w<=K) (hK:K<=72057594037927936):okW w=true:=by simp only[okW,inB,Bool.and_eq_true,decide_eq_true_eq];omega
theorem make_in {l out:List It} {err W:Int} (h:MakeR l out err) (hl:∀t∈l,okR t.row=0) (ha:absS l<=W) (hW:W<=72057594037927936) :
 err=0/\Good out/\absS out<=W/\(∀r,tot r out=tot r l)/\(∀t∈out,∃u∈l,u.row=t.row)/\out.length<=l.length:=by
 have hfine:(l.any λt=>!okI t)=false:=by rw[List.any_eq_false];intro t ht;have:=abs_mem ht;simp[okI,hl t ht,ok_w (K:=W) (w:=t.w) (by omega) (by omega) hW]
 obtain ⟨h1,h2,h3,h4,h5⟩:=makeR_fine h hfine λr=>by have:=abs_tot r l;exact ok_w (K:=W) (by omega) (by omega) hW
 exact ⟨h1,good_made.2 ⟨h2,λt ht=>(h4 t ht).1⟩,Int.le_trans (abs_made out l h2 h3) ha,h3,λt ht=>(h4 t ht).2,h5⟩
theorem nds_of {l out:List It} {n:Nd} (hg:Good out) (ha:absS out<=n.w) (hr:∀t∈out,∃u∈l,u.row=t.row) (hf:∀t∈l,fitR t.row n.types=true) (hv:∀t∈l,∀v∈t.row,v.k=3->-n.v<=v.i/\v.i<=n.v):Nds out n:=
 ⟨hg,λt ht=>by obtain ⟨u,hu,e⟩:=hr t ht;rw[<- e];exact hf u hu,ha,λt ht v hv'=>by obtain ⟨u,hu,e⟩:=hr t ht;exact hv u hu v (by rw[e];exact hv')⟩
theorem Nds.sub {z:List It} {n:Nd} (h:Nds z n) (f:It->Bool):Nds (z.filter f) n:=
 ⟨good_made.2 ⟨made_filter h.made f,λt ht=>h.ok t (List.mem_filter.1 ht).1⟩,λt ht=>h.fit t (List.mem_filter.1 ht).1,Int.le_trans (abs_filter f z) h.abs,λt ht=>h.val t (List.mem_filter.1 ht).1⟩
theorem nd_pickE {z:List It} {n:Nd} (h:Nds z n) {cols:List Int} (hc:cols.any (outC n.types.length)=false) (hl:cols.length<=12):∀t∈z,pickE t.row cols=0:=λt ht=>by rw[pickE,h.row t ht,if_neg (by rw[hc];decide),if_neg (by omega)]
theorem abs_proj (cols:List Int):∀z:List It,absS (z.map (projI cols))=absS z
 | []=>rfl
 | t::z=>by simp only[List.map_cons,absS,abs_proj cols z];rfl
theorem getV_len {r:List V} {c:Int} (h0:0<=c) (h:c<r.length):getV r c∈r:=getV_mem (by simp[inC];omega)
theorem nd_proj {z out:List It} {n:Nd} {cols:List Int} {err:Int} (h:Nds z n) (b:Ndb n) (hc:cols.any (outC n.types.length)=false) (hl:cols.length<=12) (hp:ProjX z cols out err) :
 err=0/\Nds out ⟨pickI n.types cols,n.w,n.v⟩/\MakeR (z.map (projI cols)) out 0:=by
 have hz:=nd_pickE h hc hl;rcases hp with ⟨g,_⟩|⟨_,⟨i,hi,g1,_⟩,g2,_⟩|⟨_,_,hm⟩
 ·exact absurd h.good g
 ·exact absurd (g1.symm.trans (hz _ (List.getElem_mem hi))) g2
 have hf:∀t∈z.map (projI cols),fitR t.row (pickI n.types cols)=true:=λt ht=>by obtain ⟨u,hu,rfl⟩:=List.mem_map.1 ht;exact fitR_pick (h.fit u hu) hc
 obtain ⟨h1,h2,h3,h4,h5,h6⟩:=make_in (W:=n.w) hm (λt ht=>fitR_ok (hf t ht) (by simpa [pickI] using hl)) (by rw[abs_proj];exact h.abs) (by have:=b.w1;omega);refine ⟨h1,nds_of h2 h3 h5 hf λt ht v hv hk=>?_,h1▸hm⟩;obtain ⟨u,hu,rfl⟩:=List.mem_map.1 ht;simp only[projI,pickR,List.mem_map] at hv;obtain ⟨c,hc',rfl⟩:=hv;have:=outC_in hc c hc';exact h.val u hu _ (getV_len this.1 (by rw[h.row u hu];exact this.2)) hk
theorem nd_add {x y out:List It} {n m:Nd} {err:Int} (hx:Nds x n) (hy:Nds y m) (ht:n.types=m.types) (hw:n.w+m.w<=72057594037927936) (h:AddR x y out err) :
 err=0/\Nds out ⟨n.types,n.w+m.w,max n.v m.v⟩/\(∀r,Yt.tot r out=Yt.tot r x+Yt.tot r y)/\out.length<=x.length+y.length:=by
 rcases h with ⟨g,_⟩|⟨_,_,hm⟩
 ·exact absurd ⟨hx.good,hy.good⟩ g
 have hf:∀t∈x++y,fitR t.row n.types=true:=λt h=>by
  rcases List.mem_append.1 h with h|h
  ·exact hx.fit t h
  ·rw[ht];exact hy.fit t h
 obtain ⟨h1,h2,h3,h4,h5,h6⟩:=make_in (W:=n.w+m.w) hm (λt h=>by
  rcases List.mem_append.1 h with h|h
  ·exact hx.ok t h
  ·exact hy.ok t h) (by rw[absS_append];have:=hx.abs;have:=hy.abs;omega) hw
 refine ⟨h1,nds_of h2 h3 h5 hf λt h v hv hk=>?_,λr=>by rw[h4,tot_append],by rw[<- List.length_append];exact h6⟩;rcases List.mem_append.1 h with h|h
 ·have:=hx.val t h v hv hk;simp only;omega
 ·have:=hy.val t h v hv hk;simp only;omega
theorem Nds.neg {z:List It} {n:Nd} (h:Nds z n):Nds (z.map negI) n:=
 ⟨good_made.2 ⟨made_neg h.made,λt ht=>by obtain ⟨u,hu,rfl⟩:=List.mem_map.1 ht;exact h.ok u hu⟩,λt ht=>by obtain ⟨u,hu,rfl⟩:=List.mem_map.1 ht;exact h.fit u hu,by rw[abs_neg];exact h.abs,
  λt ht=>by obtain ⟨u,hu,rfl⟩:=List.mem_map.1 ht;exact h.val u hu⟩
theorem nd_min {x y out:List It} {n m:Nd} {err:Int} (hx:Nds x n) (hy:Nds y m) (ht:n.types=m.types) (hw:n.w+m.w<=72057594037927936) (h:MinR x y out err) :
 err=0/\Nds out ⟨n.types,n.w+m.w,max n.v m.v⟩/\(∀r,Yt.tot r out=Yt.tot r x-Yt.tot r y)/\out.length<=x.length+y.length:=by
 rcases h with ⟨g,_⟩|⟨_,_,hm⟩
 ·exact absurd ⟨hx.good,hy.good⟩ g
 obtain ⟨h1,h2,h3,h4⟩:=nd_add hx hy.neg ht hw (.inr ⟨hx.good,hy.neg.good,hm⟩);exact ⟨h1,h2,λr=>by rw[h3,tot_neg];omega,by rw[List.length_map] at h4;exact h4⟩
theorem abs_dist:∀{z:List It},(∀t∈z,t.w≠0)->absS (distL z)<=absS z
 | [],_=>by simp[distL,absS]
 | t::z,h=>by
   have h1:=abs_dist (z:=z) λu hu=>h u (by simp[hu]);have h2:=h t (by simp);have h0:=absS_pos z;simp only[distL,List.filter_cons] at h1 ⊢;split
   ·have e:(oneI t.row).w=1:=rfl;simp only[List.map_cons,absS,e];omega
   ·simp only[absS];omega
theorem nd_dist {z:List It} {n:Nd} (h:Nds z n):Nds (distL z) n:=
 ⟨good_made.2 ⟨made_dist h.made,λt ht=>distL_rows (P:=λr=>okR r=0) h.ok t ht⟩,λt ht=>distL_rows (P:=λr=>fitR r n.types=true) h.fit t ht,Int.le_trans (abs_dist λt ht=>(h.made.nz t ht).1) h.abs,
  λt ht=>distL_rows (P:=λr=>∀v∈r,v.k=3->-n.v<=v.i/\v.i<=n.v) h.val t ht⟩
theorem mx_abs (x:Int):max x (-x)=(x.natAbs:Int):=by omega
theorem mx_mul (x y:Int):max (x*y) (-(x*y))=max x (-x)*max y (-y):=by rw[mx_abs,mx_abs,mx_abs,Int.natAbs_mul];simp
theorem mul_le_of {a b c d:Int} (h1:a<=c) (h2:b<=d) (ha:0<=a) (hd:0<=d):a*b<=c*d:=Int.le_trans (Int.mul_le_mul_of_nonneg_left h2 ha) (Int.mul_le_mul_of_nonneg_right h1 hd)
theorem abs_join1 (x:It) (p:It->Bool):∀b:List It,absS (((b.filter p).map λy=>(x,y)).map joinI)<=max x.w (-x.w)*absS b
 | []=>by simp[absS]
 | y::b=>by
   have h:=abs_join1 x p b;have e:max x.w (-x.w)*absS (y::b)=max x.w (-x.w)*max y.w (-y.w)+max x.w (-x.w)*absS b:=(by simp only[absS,Int.mul_add]);have h0:0<=max x.w (-x.w)*max y.w (-y.w):=Int.mul_nonneg (by omega) (by omega);rw[e];simp only[List.filter_cons];split
   ·simp only[List.map_cons,absS,joinI,mx_mul] at h ⊢;omega
   ·omega
theorem abs_join (cols others:List Int) (b:List It):∀a:List It,absS ((pairL a b cols others).map joinI)<=absS a*absS b
 | []=>by simp[pairL,absS]
 | x::a=>by
   have h:=abs_join cols others b a;have h1:=abs_join1 x (λy=>meetP x.row y.row cols others) b;have e:pairL (x::a) b cols others=((b.filter λy=>meetP x.row y.row cols others).map λy=>(x,y))++pairL a b cols others:=(by simp[pairL]);rw[e,List.map_append,absS_append];have e2:absS (x::a)*absS b=max x.w (-x.w)*absS b+absS a*absS b:=(by simp only[absS,Int.add_mul]);rw[e2];omega
theorem nd_join {a b out:List It} {n m:Nd} {cols others:List Int} {err:Int} (ha:Nds a n) (hb:Nds b m) (hl:cols.length=others.length) (ht:n.types.length+m.types.length<=12) (hw0:0<=n.w) (hw:n.w*m.w<=72057594037927936)
 (h:JoinR a b cols others out err):err=0/\Nds out ⟨n.types++m.types,n.w*m.w,max n.v m.v⟩/\(∀r,Yt.tot r out=jt cols others r a b)/\out.length<=a.length*b.length:=by
 have hab:absS a*absS b<=n.w*m.w:=mul_le_of ha.abs hb.abs (absS_pos a) (Int.le_trans (absS_pos b) hb.abs);have hlong:(pairL a b cols others).any longP=false:=by rw[List.any_eq_false];intro p hp;obtain ⟨h1,h2,_⟩:=pairL_mem hp;have:=ha.row _ h1;have:=hb.row _ h2;simp[longP];omega
 have hok:∀p∈pairL a b cols others,okW (p.1.w*p.2.w)=true:=λp hp=>by obtain ⟨h1,h2,_⟩:=pairL_mem hp;have g1:=abs_mem h1;have g2:=abs_mem h2;have g3:=mul_small (x:=p.1.w) (y:=p.2.w) (i:=absS a) (j:=absS b) ⟨g1.1,g1.2⟩ ⟨g2.1,g2.2⟩;exact ok_w (K:=absS a*absS b) g3.1 g3.2 (by omega)
 have hm:MakeR ((pairL a b cols others).map joinI) out err:=by
  rcases h with ⟨g,_⟩|⟨_,_,g,_⟩|⟨_,_,_,_,⟨p,hp,g⟩,_⟩|⟨_,_,_,_,_,g⟩
  ·exact absurd ⟨ha.good,hb.good⟩ g
  ·rcases g with g|⟨_,g⟩
   ·exact absurd hl g
   ·rw[hlong] at g;cases g
  ·rw[hok p hp] at g;cases g
  ·exact g
 have hf:∀t∈(pairL a b cols others).map joinI,fitR t.row (n.types++m.types)=true:=λt h=>by obtain ⟨p,hp,rfl⟩:=List.mem_map.1 h;obtain ⟨h1,h2,_⟩:=pairL_mem hp;exact fitR_app (ha.fit _ h1) (hb.fit _ h2)
 obtain ⟨h1,h2,h3,h4,h5,h6⟩:=make_in (W:=n.w*m.w) hm (λt h=>fitR_ok (hf t h) (by rw[List.length_append];exact ht)) (Int.le_trans (abs_join cols others b a) hab) hw;refine ⟨h1,nds_of h2 h3 h5 hf λt h v hv hk=>?_,λr=>by rw[h4,tot_join],Nat.le_trans h6 (by rw[List.length_map];exact pairL_len a b cols others)⟩;obtain ⟨p,hp,rfl⟩:=List.mem_map.1 h;obtain ⟨h1,h2,_⟩:=pairL_mem hp;simp only[joinI,List.mem_append] at hv;rcases hv with hv|hv
 ·have:=ha.val _ h1 v hv hk;simp only;omega
 ·have:=hb.val _ h2 v hv hk;simp only;omega
def absT (f:It->Int):List It->Int
 | []=>0
 | t::l=>max (f t) (-f t)+absT f l
theorem absT_pos (f:It->Int):∀l:List It,0<=absT f l
 | []=>Int.le_refl _
 | t::l=>by have:=absT_pos f l;simp only[absT];omega
theorem sumF_abs {kind col:Int}:∀(l:List It) (n:Int),max n (-n)+absT (sumT kind col) l<=1152921504606846976->sumF kind col l n=some (n+(l.map (sumT kind col)).sum)
 | [],n,_=>by simp[sumF]
 | t::l,n,h=>by
   have h0:=absT_pos (sumT kind col) l;simp only[absT] at h;simp only[sumF];by_cases hk:kind=2/\(getV t.row col).k≠3
   ·have e:sumT kind col t=0:=(by rw[sumT,if_pos hk.1,if_neg hk.2]);rw[if_pos hk,sumF_abs l n (by omega)];simp[e]
   ·rw[if_neg hk];have e2:sumT kind col t=t.w*(if kind=2 then (getV t.row col).i else 1):=by
     simp only[sumT];by_cases e3:kind=2
     ·simp[e3] at hk ⊢;exact λh=>absurd hk h
     ·simp[e3]
    rw[<- e2];have e4:(inVal (sumT kind col t)&&inVal (n+sumT kind col t))=true:=by simp only[inVal,inB,Bool.and_eq_true,decide_eq_true_eq];omega
    rw[if_pos e4,sumF_abs l _ (by omega)];simp only[List.map_cons,List.sum_cons];congr 1;omega
theorem sum_absT (f:It->Int):∀l:List It,-absT f l<=(l.map f).sum/\(l.map f).sum<=absT f l
 | []=>by simp[absT]
 | t::l=>by
   have h:=sum_absT f l;simp only[List.map_cons,List.sum_cons,absT];omega
theorem absT_count (col:Int):∀l:List It,absT (sumT 1 col) l=absS l
 | []=>rfl
 | t::l=>by simp only[absT,absS,absT_count col l];rfl
theorem absT_sum {col v:Int} (hv:0<=v):∀l:List It,(∀t∈l,(getV t.row col).k=3->-v<=(getV t.row col).i/\(getV t.row col).i<=v)->absT (sumT 2 col) l<=absS l*v
 | [],_=>by simp[absT,absS]
 | t::l,h=>by
   have h1:=absT_sum hv l λu hu=>h u (by simp[hu]);have h2:max (sumT 2 col t) (-sumT 2 col t)<=max t.w (-t.w)*v:=by
    have h0:0<=max t.w (-t.w)*v:=Int.mul_nonneg (by omega) hv;simp only[sumT,if_true];split
    ·rename_i hk;rw[mx_mul];have:=h t (by simp) hk;exact Int.mul_le_mul_of_nonneg_left (by omega) (by omega)
    ·omega
   simp only[absT,absS,Int.add_mul];omega
theorem bestF_in {kind col:Int} {l:List It}:bestF kind col l V.nul=V.nul\/∃t∈l,bestF kind col l V.nul=getV t.row col:=bestF_mem kind col l V.nul
def aggV (kind:Int) (n:Nd):Int:=if kind=1 then n.w else if kind=2 then n.v*n.w else n.v
def aggT (kind col:Int) (n:Nd):Int:=if kind=1\/kind=2 then 3 else getI n.types col
theorem nd_gval {z:List It} {n:Nd} {cols:List Int} {kind col:Int} {gs:List Gp} (h:Nds z n) (b:Ndb n) (hk:1<=kind/\kind<=4) (hc:kind≠1->inC col n.types.length=true) (hs:kind=2->getI n.types col=3) (hv:aggV kind n<=1152921504606846976)
 (hg:GpI cols z gs) {g:Gp} (hgm:g∈gs):∃v,gval kind col g=some v/\okV v=true/\(v.k=aggT kind col n\/v.k=1)/\(v.k=3->-aggV kind n<=v.i/\v.i<=aggV kind n)/\(kind≠1->typeOk (aggT kind col n)=true):=by
 have hi:∀t∈g.items,t∈z:=λt ht=>by rw[hg.items _ hgm,List.mem_filter] at ht;exact ht.1
 have hab:absS g.items<=n.w:=by rw[hg.items _ hgm];exact Int.le_trans (abs_filter _ z) h.abs
 have hcol:kind≠1->∀t∈z,fitsV (getV t.row col) (getI n.types col)=true:=λhk1 t ht=>by have:=hc hk1;simp only[inC,Bool.and_eq_true,decide_eq_true_eq] at this;exact fitR_get (h.fit t ht) this.1 this.2
 have hmem:kind≠1->∀t∈z,getV t.row col∈t.row:=λhk1 t ht=>getV_mem (by rw[h.row t ht];exact hc hk1);have hz:g.items≠[]:=hg.some _ hgm;obtain ⟨t0,ht0⟩:=List.exists_mem_of_ne_nil _ hz;have htype:kind≠1->typeOk (getI n.types col)=true:=λhk1=>by have:=hcol hk1 t0 (hi t0 ht0);simp only[fitsV,Bool.and_eq_true] at this;exact this.1.1
 have hnum:∀x:Int,-1152921504606846976<=x->x<=1152921504606846976->okV ⟨3,x,ByteArray.empty⟩=true:=λx h1 h2=>by simp[okV,inB,h1,h2,noS];rfl
 by_cases h1:kind=1
 ·subst h1;have hT:=absT_count col g.items;have hsum:=sum_absT (sumT 1 col) g.items;simp only[aggV,if_true] at hv ⊢;refine ⟨⟨3,0+(g.items.map (sumT 1 col)).sum,ByteArray.empty⟩,?_,hnum _ (by omega) (by omega),.inl (by simp[aggT]),λ_=>by simp only;omega,λe=>absurd rfl e⟩;rw[gval,if_pos (.inl rfl),sumF_abs _ _ (by omega)];rfl
 by_cases h2:kind=2
 ·subst h2;have hb:=absT_sum (col:=col) b.v0 g.items λt ht hk3=>h.val t (hi t ht) _ (hmem h1 t (hi t ht)) hk3;have hb2:absS g.items*n.v<=n.w*n.v:=Int.mul_le_mul_of_nonneg_right hab b.v0;have hsum:=sum_absT (sumT 2 col) g.items;simp only[aggV,if_true,h1,if_false] at hv ⊢;rw[Int.mul_comm] at hv ⊢;refine ⟨⟨3,0+(g.items.map (sumT 2 col)).sum,ByteArray.empty⟩,?_,hnum _ (by omega) (by omega),.inl (by simp[aggT]),λ_=>by simp only;omega,λ_=>by simp[aggT,typeOk]⟩;rw[gval,if_pos (.inr rfl),sumF_abs _ _ (by omega)];rfl
 ·have ht:=htype h1;have e1:aggT kind col n=getI n.types col:=(by simp[aggT,h1,h2]);have e2:aggV kind n=n.v:=(by simp[aggV,h1,h2]);rw[e1,e2];have key:∀v,(v=V.nul\/∃t∈g.items,v=getV t.row col)->okV v=true/\(v.k=getI n.types col\/v.k=1)/\(v.k=3->-n.v<=v.i/\v.i<=n.v):=λv hv'=>by
   rcases hv' with rfl|⟨t,ht',rfl⟩
   ·exact ⟨by decide,.inr rfl,λh=>by cases h⟩
   ·have:=hcol h1 t (hi t ht');simp only[fitsV,Bool.and_eq_true,Bool.or_eq_true,decide_eq_true_eq] at this;exact ⟨this.1.2,this.2,h.val t (hi t ht') _ (hmem h1 t (hi t ht'))⟩
  obtain ⟨k1,k2,k3⟩:=key _ (bestF_in (kind:=kind) (col:=col) (l:=g.items));exact ⟨_,by rw[gval,if_neg (by omega)],k1,k2,k3,λ_=>ht⟩
theorem abs_ones:∀l:List It,(∀t∈l,t.w=1)->absS l=l.length
 | [],_=>rfl
 | t::l,h=>by
   have h1:=abs_ones l λu hu=>h u (by simp[hu]);have h2:=h t (by simp);simp only[absS,List.length_cons];omega
theorem nd_group {z out:List It} {n:Nd} {cols:List Int} {kind col err:Int} (h:Nds z n) (b:Ndb n) (hk:1<=kind/\kind<=4) (hcs:cols.any (outC n.types.length)=false) (hl:cols.length<12) (hc:kind≠1->inC col n.types.length=true) (hs:kind=2->getI n.types col=3)
 (hv:aggV kind n<=1152921504606846976) (hp:GroupR z cols kind col out err) :
 err=0/\Nds out ⟨pickI n.types cols++[aggT kind col n],n.w,max n.v (aggV kind n)⟩/\out.length<=z.length:=by
 have hz:=nd_pickE h hcs (by omega);have hwr:Wr0 z cols kind col:=⟨h.good,hk.1,hk.2,hl,λt ht=>⟨hz t ht,λh1=>by rw[h.row t ht];exact hc h1⟩⟩;rcases hp with ⟨g,_⟩|⟨_,gs,hg,hgl,hq⟩
 ·exact absurd hwr g
 have hval:=λg (hgm:g∈gs)=>nd_gval h b hk hc hs hv hg hgm;have hat:∀g∈gs,∃t∈z,g.at_=pickR t.row cols:=λg hgm=>by
  obtain ⟨t,ht⟩:=List.exists_mem_of_ne_nil _ (hg.some _ hgm);rw[hg.items _ hgm,List.mem_filter] at ht;refine ⟨t,ht.1,?_⟩;have h4:cmpR (pickR t.row cols) g.at_=0:=by have:=ht.2;simp at this;exact this.2
  exact (lin_cmpR.eq _ _ h4).symm
 have hm:MakeR (gs.map (gItem kind col)) out err:=by
  rcases hq with ⟨⟨g,hgm,hn⟩,_⟩|⟨_,hm⟩
  ·obtain ⟨v,hv',_⟩:=hval g hgm;rw[hv'] at hn;cases hn
  ·exact hm
 have hone:∀t∈gs.map (gItem kind col),t.w=1:=λt ht=>by obtain ⟨g,_,rfl⟩:=List.mem_map.1 ht;rfl
 have hf:∀t∈gs.map (gItem kind col),fitR t.row (pickI n.types cols++[aggT kind col n])=true:=λt ht=>by
  obtain ⟨g,hgm,rfl⟩:=List.mem_map.1 ht;obtain ⟨v,e1,e2,e3,e4,e5⟩:=hval g hgm;obtain ⟨u,hu,e6⟩:=hat g hgm;rw[gItem,e1,e6];refine fitR_app (fitR_pick (h.fit u hu) hcs) ?_;have e7:typeOk (aggT kind col n)=true:=by
   by_cases h1:kind=1
   ·simp[aggT,h1,typeOk]
   ·exact e5 h1
  simp only[Option.getD_some,fitR,fitsV,Bool.and_true,Bool.and_eq_true,Bool.or_eq_true,decide_eq_true_eq];exact ⟨⟨e7,e2⟩,e3⟩
 have hlen:absS (gs.map (gItem kind col))<=n.w:=by rw[abs_ones _ hone,List.length_map];have:=len_abs (z:=z) λt ht=>(h.made.nz t ht).1;have:=h.abs;omega
 obtain ⟨h1,h2,h3,h4,h5,h6⟩:=make_in (W:=n.w) hm (λt ht=>fitR_ok (hf t ht) (by simp[pickI];omega)) hlen (by have:=b.w1;omega);refine ⟨h1,nds_of h2 h3 h5 hf λt ht v hv' hk3=>?_,by rw[List.length_map] at h6;omega⟩;obtain ⟨g,hgm,rfl⟩:=List.mem_map.1 ht;obtain ⟨v',e1,e2,e3,e4,e5⟩:=hval g hgm;obtain ⟨u,hu,e6⟩:=hat g hgm;simp only[gItem,e1,Option.getD_some,List.mem_append,List.mem_singleton] at hv';rcases hv' with hv'|rfl
 ·rw[e6] at hv';simp only[pickR,List.mem_map] at hv';obtain ⟨c,hc',rfl⟩:=hv';have h8:=outC_in hcs c hc';have:=h.val u hu _ (getV_len h8.1 (by rw[h.row u hu];exact h8.2)) hk3;simp only;omega
 ·have:=e4 hk3;simp only;omega
@[go_sem] theorem cells_intsL {r:List Int} {K:List AV->Prop}:cellsOf (intsL r) K=K [intsL r]:=rfl
@[go_sem] theorem lenOk_intsL {t:Nat} {l:List Int}:lenOk (.slice t) (intsL l)=True:=rfl
@[go_sem] theorem lenI_intsL {l:List Int} {K:Int->Prop}:lenI (intsL l) K=K l.length:=by simp[intsL,lenI]
def scanE (F:List (List Int)) (x:PN):Int:=if inC x.table F.length=true then 0 else 1
def scanN (F:List (List Int)) (x:PN):Nd:=⟨4::((F[x.table.toNat]?).getD []),1024,2147483648⟩
def filtE (D:List Nd) (x:PN):Int:=if inC x.a D.length=true then predE x.pred (ndAt D x.a).types else 1
def distE (D:List Nd) (x:PN):Int:=if inC x.a D.length=true then 0 else 1
def bothE (x:PN) (D:List Nd):Int:=if inC x.a D.length=false\/inC x.b D.length=false then 1 else if (ndAt D x.a).types≠(ndAt D x.b).types then 10 else if 1125899906842624-(ndAt D x.b).w<(ndAt D x.a).w then 11 else 0
def bothN (x:PN) (D:List Nd):Nd:=⟨(ndAt D x.a).types,(ndAt D x.a).w+(ndAt D x.b).w,max (ndAt D x.a).v (ndAt D x.b).v⟩
def joinE (x:PN) (D:List Nd):Int:=
 if inC x.a D.length=false\/inC x.b D.length=false then 1
 else if x.cols.any (outC (ndAt D x.a).types.length)=true\/x.others.any (outC (ndAt D x.b).types.length)=true then 1
 else if x.cols.length≠x.others.length\/12<(ndAt D x.a).types.length+(ndAt D x.b).types.length then 2
 else if pickI (ndAt D x.a).types x.cols≠pickI (ndAt D x.b).types x.others then 10
 else if ¬(ndAt D x.a).w*(ndAt D x.b).w<=1125899906842624 then 11 else 0
def joinN (x:PN) (D:List Nd):Nd:=⟨(ndAt D x.a).types++(ndAt D x.b).types,(ndAt D x.a).w*(ndAt D x.b).w,max (ndAt D x.a).v (ndAt D x.b).v⟩
def grpE (x:PN) (D:List Nd):Int:=
 if inC x.a D.length=false\/x.agg<1\/4<x.agg then 1
 else if x.cols.any (outC (ndAt D x.a).types.length)=true\/(x.agg≠1/\inC x.col (ndAt D x.a).types.length=false) then 1
 else if 12<=x.cols.length then 2
 else if x.agg=2/\getI (ndAt D x.a).types x.col≠3 then 10
 else if 1152921504606846976<max (ndAt D x.a).v (aggV x.agg (ndAt D x.a)) then 11 else 0
def grpN (x:PN) (D:List Nd):Nd:=⟨pickI (ndAt D x.a).types x.cols++[aggT x.agg x.col (ndAt D x.a)],(ndAt D x.a).w,max (ndAt D x.a).v (aggV x.agg (ndAt D x.a))⟩
def lookE (F:List (List Int)) (D:List Nd) (x:PN):Int:=
 if x.kind=1 then scanE F x else if x.kind=2 then filtE D x else if x.kind=3 then projE x D else if x.kind=4 then joinE x D
 else if x.kind=5\/x.kind=6 then bothE x D else if x.kind=7 then distE D x else if x.kind=8 then grpE x D else 1
def lookN (F:List (List Int)) (D:List Nd) (x:PN):Nd:=
 if x.kind=1 then scanN F x else if x.kind=2 then ndAt D x.a else if x.kind=3 then projN x D else if x.kind=4 then joinN x D
 else if x.kind=5\/x.kind=6 then bothN x D else if x.kind=7 then ndAt D x.a else grpN x D
def planD (F:List (List Int)):List PN->List Nd->Int×List Nd
 | [],D=>(0,D)
 | x::r,D=>if lookE F D x=0 then planD F r (D++[lookN F D x]) else (lookE F D x,[])
def planE (F:List (List Int)) (l:List PN):Int:=if formsE F≠0 then formsE F else if l.length<1\/12<l.length then 2 else (planD F l []).1
def planN (F:List (List Int)) (l:List PN):List Nd:=(planD F l []).2
theorem planD_app (F:List (List Int)):∀(a b:List PN) (D:List Nd),(planD F a D).1=0->planD F (a++b) D=planD F b (planD F a D).2
 | [],b,D,_=>rfl
 | x::a,b,D,h=>by
   simp only[List.cons_append,planD] at h ⊢;split
   ·rename_i e;rw[if_pos e] at h;exact planD_app F a b _ h
   ·rename_i e;rw[if_neg e] at h;exact absurd h e
theorem planD_len (F:List (List Int)):∀(a:List PN) (D:List Nd),(planD F a D).1=0->(planD F a D).2.length=D.length+a.length
 | [],D,_=>rfl
 | x::a,D,h=>by
   simp only[planD] at h ⊢;split
   ·rename_i e;rw[if_pos e] at h;rw[planD_len F a _ h];simp;omega
   ·rename_i e;rw[if_neg e] at h;exact absurd h e
def ndsTo (F:List (List Int)) (l:List PN) (i:Nat):List Nd:=planN F (l.take i)
theorem planD_take {F:List (List Int)} {l:List PN} (h:(planD F l []).1=0) (i:Nat):(planD F (l.take i) []).1=0:=by
 have key:∀(a b:List PN) (D:List Nd),(planD F (a++b) D).1=0->(planD F a D).1=0:=by
  intro a b
  induction a with
  | nil=>intro D _;rfl
  | cons x a ih=>
    intro D h;simp only[List.cons_append,planD] at h ⊢;split
    ·rename_i e;rw[if_pos e] at h;exact ih _ h
    ·rename_i e;rw[if_neg e] at h;exact h
 exact key (l.take i) (l.drop i) [] (by rw[List.take_append_drop];exact h)
theorem planD_step {F:List (List Int)} {l:List PN} (h:(planD F l []).1=0) {i:Nat} (hi:i<l.length):lookE F (ndsTo F l i) l[i]=0/\ndsTo F l (i+1)=ndsTo F l i++[lookN F (ndsTo F l i) l[i]]:=by
 have h1:=planD_take h i;have h2:=planD_take h (i+1);have e:=planD_app F (l.take i) [l[i]] [] h1;rw[<- List.take_succ_eq_append_getElem hi] at e;rw[e] at h2;simp only[planD] at h2;by_cases hz:lookE F (ndsTo F l i) l[i]=0
 ·refine ⟨hz,?_⟩;have hz':lookE F (planD F (l.take i) []).2 l[i]=0:=hz;simp only[ndsTo,planN];rw[e];simp only[planD,hz',if_true]
 ·have hz':¬lookE F (planD F (l.take i) []).2 l[i]=0:=hz;rw[if_neg hz'] at h2;exact absurd h2 hz'
theorem ndsTo_len {F:List (List Int)} {l:List PN} (h:(planD F l []).1=0) {i:Nat} (hi:i<=l.length):(ndsTo F l i).length=i:=by have:=planD_len F (l.take i) [] (planD_take h i);simp only[ndsTo,planN];rw[this];simp;omega
def setAt (S:List (List It)) (k:Int):List It:=(S[k.toNat]?).getD []
theorem setAt_eq {S:List (List It)} {k:Int} (h:k.toNat<S.length):setAt S k=S[k.toNat]:=by simp[setAt,h]
theorem ndAt_eq {S:List Nd} {k:Int} (h:k.toNat<S.length):ndAt S k=S[k.toNat]:=by simp[ndAt,h]
def NodeR (x:PN) (S tabs:List (List It)) (out:List It):Prop:=
 if x.kind=1 then out=setAt tabs x.table
 else if x.kind=2 then out=(setAt S x.a).filter λt=>holdsP x.pred t.row
 else if x.kind=3 then ProjX (setAt S x.a) x.cols out 0
 else if x.kind=4 then JoinR (setAt S x.a) (setAt S x.b) x.cols x.others out 0
 else if x.kind=5 then AddR (setAt S x.a) (setAt S x.b) out 0
 else if x.kind=6 then MinR (setAt S x.a) (setAt S x.b) out 0
 else if x.kind=7 then out=distL (setAt S x.a)
 else GroupR (setAt S x.a) x.cols x.agg x.col out 0
def smallV (v:V):Bool:=okV v&&(!decide (v.k=3)||inB v.i (-2147483648) 2147483648)
def wrongI (f:List Int) (t:It):Bool:=!decide (t.w=1)||!fitR t.row (4::f)||!decide ((getV t.row 0).k=4)||t.row.any λv=>!smallV v
def tabE (f:List Int) (z:List It):Prop:=Good z/\z.length<=1024/\z.any (wrongI f)=false
theorem nd_scan {f:List Int} {z:List It} (h:tabE f z):Nds z ⟨4::f,1024,2147483648⟩:=by
 obtain ⟨h1,h2,h3⟩:=h;rw[List.any_eq_false] at h3;have hw:∀t∈z,t.w=1/\fitR t.row (4::f)=true/\∀v∈t.row,smallV v=true:=λt ht=>by
  have:=h3 t ht;simp only[wrongI,Bool.or_eq_true,Bool.not_eq_true',decide_eq_false_iff_not,not_or,Decidable.not_not,Bool.not_eq_false] at this;refine ⟨this.1.1.1,this.1.1.2,λv hv=>?_⟩;have h4:=this.2;rw[List.any_eq_true] at h4;cases h5:smallV v with
  | true=>rfl
  | false=>exact absurd ⟨v,hv,by rw[h5];rfl⟩ h4
 refine ⟨h1,λt ht=>(hw t ht).2.1,by rw[abs_ones z λt ht=>(hw t ht).1];simp only;omega,λt ht v hv hk=>?_⟩;have:=(hw t ht).2.2 v hv;simp only[smallV,hk,decide_true,Bool.not_true,Bool.false_or,Bool.and_eq_true,inB,decide_eq_true_eq] at this;exact this.2
def TabsE (F:List (List Int)) (tabs:List (List It)):Prop:=tabs.length=F.length/\∀i (h:i<F.length) (h2:i<tabs.length),tabE F[i] tabs[i]
structure Sets (S:List (List It)) (D:List Nd):Prop where
 len:S.length=D.length
 nds:∀i (h:i<S.length) (h2:i<D.length),Nds S[i] D[i]
 ndb:∀n∈D,Ndb n
theorem Sets.at {S:List (List It)} {D:List Nd} (h:Sets S D) {k:Int} (hk:inC k D.length=true):Nds (setAt S k) (ndAt D k)/\Ndb (ndAt D k):=by
 simp only[inC,Bool.and_eq_true,decide_eq_true_eq] at hk;have h1:k.toNat<D.length:=by omega
 have h2:k.toNat<S.length:=by rw[h.len];exact h1
 rw[setAt_eq h2,ndAt_eq h1];exact ⟨h.nds _ h2 h1,h.ndb _ (List.getElem_mem h1)⟩
theorem formsE_len {F:List (List Int)} (h:formsE F=0):∀f∈F,1<=f.length/\f.length<=4/\∀c∈f,2<=c/\c<=4:=λf hf=>by
 simp only[formsE] at h;split at h
 ·cases h
 ·rename_i h1;split at h
  ·cases h
  ·rename_i h2;simp only[not_or,Bool.not_eq_true] at h1;have h3:=h1.2.2;rw[List.any_eq_false] at h3;have h4:=h3 f hf;simp only[badC,Bool.or_eq_true,decide_eq_true_eq,not_or] at h4;refine ⟨by omega,by omega,λc hc=>?_⟩;have h5:¬(f.any badT=true):=λe=>h2 (List.any_eq_true.2 ⟨f,hf,e⟩);rw[List.any_eq_true] at h5;have h6:¬badT c=true:=λe=>h5 ⟨c,hc,e⟩;simp only[badT,Bool.or_eq_true,decide_eq_true_eq,not_or] at h6;omega
theorem inC_of_not {c n:Int} (h:¬inC c n=false):inC c n=true:=by simpa using h
theorem node_in {F:List (List Int)} {D:List Nd} {x:PN} {S tabs:List (List It)} {out:List It} (hF:formsE F=0) (hl:lookE F D x=0) (ht:TabsE F tabs) (hS:Sets S D) (h:NodeR x S tabs out) :
 Nds out (lookN F D x):=by
 simp only[lookE] at hl;simp only[lookN];simp only[NodeR] at h;by_cases k1:x.kind=1
 ·simp only[k1,if_true] at hl h ⊢;have hi:inC x.table F.length=true:=by simp only[scanE] at hl;split at hl<;>simp_all
  simp only[inC,Bool.and_eq_true,decide_eq_true_eq] at hi;have h1:x.table.toNat<F.length:=(by omega);have h2:x.table.toNat<tabs.length:=by rw[ht.1];exact h1
  rw[h,setAt_eq h2];have:=nd_scan (ht.2 _ h1 h2);simpa [scanN,h1] using this
 simp only[k1,if_false] at hl h ⊢;by_cases k2:x.kind=2
 ·simp only[k2,if_true] at hl h ⊢;have hi:inC x.a D.length=true:=by simp only[filtE] at hl;split at hl<;>simp_all
  rw[h];exact (hS.at hi).1.sub _
 simp only[k2,if_false] at hl h ⊢;by_cases k3:x.kind=3
 ·simp only[k3,if_true] at hl h ⊢;simp only[projE] at hl;split at hl
  ·cases hl
  ·rename_i h1;split at hl
   ·cases hl
   ·simp only[not_or,Bool.not_eq_true] at h1;have hi:=inC_of_not (by simpa using h1.1);obtain ⟨g1,g2⟩:=hS.at hi;exact (nd_proj g1 g2 h1.2 (by omega) h).2.1
 simp only[k3,if_false] at hl h ⊢;by_cases k4:x.kind=4
 ·simp only[k4,if_true] at hl h ⊢;simp only[joinE] at hl;split at hl
  ·cases hl
  rename_i h1;split at hl
  ·cases hl
  rename_i h2;split at hl
  ·cases hl
  rename_i h3;split at hl
  ·cases hl
  split at hl
  ·cases hl
  rename_i h5;simp only[not_or,Decidable.not_not] at h1 h3 h5;obtain ⟨g1,g2⟩:=hS.at (inC_of_not h1.1);obtain ⟨g3,g4⟩:=hS.at (inC_of_not h1.2);exact (nd_join g1 g3 h3.1 (by omega) g2.w0 (by omega) h).2.1
 simp only[k4,if_false] at hl h ⊢;by_cases k56:x.kind=5\/x.kind=6
 ·simp only[k56,if_true] at hl h ⊢;simp only[bothE] at hl;split at hl
  ·cases hl
  rename_i h1;split at hl
  ·cases hl
  rename_i h2;split at hl
  ·cases hl
  rename_i h5;simp only[not_or,Decidable.not_not] at h1 h2;obtain ⟨g1,g2⟩:=hS.at (inC_of_not h1.1);obtain ⟨g3,g4⟩:=hS.at (inC_of_not h1.2);rcases k56 with k5|k6
  ·simp only[k5,if_true] at h;exact (nd_add g1 g3 h2 (by omega) h).2.1
  ·have k5:¬x.kind=5:=(by omega);simp only[k5,k6,if_true,if_false] at h;exact (nd_min g1 g3 h2 (by omega) h).2.1
 simp only[k56,if_false] at hl h ⊢;have k5:¬x.kind=5:=λe=>k56 (.inl e);have k6:¬x.kind=6:=λe=>k56 (.inr e);simp only[k5,k6,if_false] at h;by_cases k7:x.kind=7
 ·simp only[k7,if_true] at hl h ⊢;have hi:inC x.a D.length=true:=by simp only[distE] at hl;split at hl<;>simp_all
  rw[h];exact nd_dist (hS.at hi).1
 simp only[k7,if_false] at hl h ⊢;split at hl
 rotate_left
 ·cases hl
 simp only[grpE] at hl;split at hl
 ·cases hl
 rename_i h1;split at hl
 ·cases hl
 rename_i h2;split at hl
 ·cases hl
 rename_i h3;split at hl
 ·cases hl
 rename_i h4;split at hl
 ·cases hl
 rename_i h5;simp only[not_or,not_and,Decidable.not_not,Bool.not_eq_true] at h1 h2 h4;obtain ⟨g1,g2⟩:=hS.at (inC_of_not (by simpa using h1.1));exact (nd_group g1 g2 ⟨by omega,by omega⟩ h2.1 (by omega) (λe=>inC_of_not (by simpa using h2.2 e)) h4 (by omega) h).2.1
theorem node_bd {F:List (List Int)} {D:List Nd} {x:PN} (hF:formsE F=0) (hl:lookE F D x=0) (hD:∀n∈D,Ndb n):Ndb (lookN F D x):=by
 have at_:∀{k:Int},inC k D.length=true->Ndb (ndAt D k):=λhk=>by simp only[inC,Bool.and_eq_true,decide_eq_true_eq] at hk;rw[ndAt_eq (by omega)];exact hD _ (List.getElem_mem _)
 simp only[lookE] at hl;simp only[lookN];by_cases k1:x.kind=1
 ·simp only[k1,if_true] at hl ⊢;have hi:inC x.table F.length=true:=by simp only[scanE] at hl;split at hl<;>simp_all
  simp only[inC,Bool.and_eq_true,decide_eq_true_eq] at hi;have h1:x.table.toNat<F.length:=(by omega);have:=formsE_len hF _ (List.getElem_mem h1);refine ⟨by simp[scanN],by simp[scanN],by simp[scanN],by simp[scanN],?_⟩;simp[scanN,h1];omega
 simp only[k1,if_false] at hl ⊢;by_cases k2:x.kind=2
 ·simp only[k2,if_true] at hl ⊢;have hi:inC x.a D.length=true:=by simp only[filtE] at hl;split at hl<;>simp_all
  exact at_ hi
 simp only[k2,if_false] at hl ⊢;by_cases k3:x.kind=3
 ·simp only[k3,if_true] at hl ⊢;simp only[projE] at hl;split at hl
  ·cases hl
  ·rename_i h1;split at hl
   ·cases hl
   ·simp only[not_or,Bool.not_eq_true] at h1;have b:=at_ (inC_of_not (by simpa using h1.1));exact ⟨b.w0,b.w1,b.v0,b.v1,by simp[projN,pickI];omega⟩
 simp only[k3,if_false] at hl ⊢;by_cases k4:x.kind=4
 ·simp only[k4,if_true] at hl ⊢;simp only[joinE] at hl;split at hl
  ·cases hl
  rename_i h1;split at hl
  ·cases hl
  rename_i h2;split at hl
  ·cases hl
  rename_i h3;split at hl
  ·cases hl
  split at hl
  ·cases hl
  rename_i h5;simp only[not_or,Decidable.not_not] at h1 h3 h5;have b1:=at_ (inC_of_not h1.1);have b2:=at_ (inC_of_not h1.2);have:=Int.mul_nonneg b1.w0 b2.w0;have:=b1.v0;have:=b2.v0;have:=b1.v1;have:=b2.v1;exact ⟨by simp only[joinN];omega,by simp only[joinN];omega,by simp only[joinN];omega,by simp only[joinN];omega,by simp only[joinN,List.length_append];omega⟩
 simp only[k4,if_false] at hl ⊢;by_cases k56:x.kind=5\/x.kind=6
 ·simp only[k56,if_true] at hl ⊢;simp only[bothE] at hl;split at hl
  ·cases hl
  rename_i h1;split at hl
  ·cases hl
  rename_i h2;split at hl
  ·cases hl
  rename_i h5;simp only[not_or,Decidable.not_not] at h1 h2;have b1:=at_ (inC_of_not h1.1);have b2:=at_ (inC_of_not h1.2);have:=b1.v0;have:=b2.v0;have:=b1.v1;have:=b2.v1;have:=b1.w0;have:=b2.w0;exact ⟨by simp only[bothN];omega,by simp only[bothN];omega,by simp only[bothN];omega,by simp only[bothN];omega,b1.tl⟩
 simp only[k56,if_false] at hl ⊢;by_cases k7:x.kind=7
 ·simp only[k7,if_true] at hl ⊢;have hi:inC x.a D.length=true:=by simp only[distE] at hl;split at hl<;>simp_all
  exact at_ hi
 simp only[k7,if_false] at hl ⊢;split at hl
 rotate_left
 ·cases hl
 simp only[grpE] at hl;split at hl
 ·cases hl
 rename_i h1;split at hl
 ·cases hl
 rename_i h2;split at hl
 ·cases hl
 rename_i h3;split at hl
 ·cases hl
 split at hl
 ·cases hl
 rename_i h5;simp only[not_or,Bool.not_eq_true] at h1;have b:=at_ (inC_of_not (by simpa using h1.1));have:=b.v0;exact ⟨b.w0,b.w1,by simp only[grpN];omega,by simp only[grpN];omega,by simp[grpN,pickI];omega⟩
theorem ndsTo_bd {F:List (List Int)} {l:List PN} (hF:formsE F=0) (h:(planD F l []).1=0):∀(i:Nat),i<=l.length->∀n∈ndsTo F l i,Ndb n
 | 0,_,n,hn=>by simp[ndsTo,planN,planD] at hn
 | i+1,hi,n,hn=>by
   obtain ⟨h1,h2⟩:=planD_step h (i:=i) (by omega);rw[h2,List.mem_append,List.mem_singleton] at hn;have ih:=ndsTo_bd hF h i (by omega);rcases hn with hn|rfl
   ·exact ih n hn
   ·exact node_bd hF h1 ih
end Yt
