/- Contracts of the program's functions over abstract values and states, plain facts on which these lean, and the framework of these values over the model. The conditions stand in each theorem. -/
import Derived.Test.YtogndnaffdkanaaGreatBa
import Derived.RowKit
import Derived.OpenShut
import Derived.ChangeStays
import Derived.ChangeArms
import Derived.ChangeCalls
import Derived.Lib.AppendZerosOnto
import Derived.Lib.Overlaps
import Derived.JoinedCond
set_option linter.all false
namespace Go.Vc
def gd (ops:List Oper) (g:Nat):Option Nat:=(ops[g]?).bind (·.dst)
def gV:AV->Bool->Prop->Prop->Prop
 | .pr (.bool b),want,A,B=>VIF (b==want) A B
 | .tu [],_,_,B=>B
 | _,_,_,_=>False
@[congr] theorem gV_congr {x y:AV} {b:Bool} {A B:Prop} {p00:Prop} (_h00:(True/\True)=p00) (h:x=y):gV x b A B=gV y b A B:=by rw[h]
def gS (st:St):Option Nat->Bool->Prop->Prop->Prop
 | some t,b,A,B=>gV (st.regs t) b A B
 | none,_,_,B=>B
@[congr] theorem gS_congr {st:St} {x y:Option Nat} {b:Bool} {A B:Prop} {p00:Prop} (_h00:(True/\True)=p00) (h:x=y):gS st x b A B=gS st y b A B:=by rw[h]
def evG (st:St) (ops:List Oper) (g:Option (Nat×Bool)) (A B:Prop):Prop:=
 match g with
 | none=>A
 | some (j,want)=>gS st (gd ops j) want A B
def firstIf (ops:List Oper) (im:Option Bool) (q:Bool) (st:St) (op:Op):Prop:=match im,q with
 | none,_=>True
 | some _,true=>firstE ops st op
 | some b,false=>firstOk st b op
def SPv (s:St) (d:Nat):AV->(St->Prop)->Prop
 | .pr (.bool b),K=>VIF b (K (s.put (some d) (.pr (.bool true)))) (K (s.put (some d) (.pr (.bool false))))
 | _,K=>K s
@[congr] theorem SPv_congr {s:St} {d:Nat} {x y:AV} {K:St->Prop} {p00:Prop} (_h00:(True/\True)=p00) (h:x=y):SPv s d x K=SPv s d y K:=by rw[h]
def SPd (sp:Bool) (d:Option Nat) (s:St) (K:St->Prop):Prop:=match sp,d with
 | true,some d=>SPv s d (s.regs d) K
 | _,_=>K s
theorem put_same (s:St) (d:Nat) {v:AV} (h:s.regs d=v):s.put (some d) v=s:=by
 subst h;have:upd s.regs d (s.regs d)=s.regs:=by funext t;simp only[upd];split<;>simp_all
 simp only[St.put,this]
theorem SPd_iff (sp:Bool) (d:Option Nat) (s:St) (K:St->Prop):SPd sp d s K ↔ K s:=by
 unfold SPd;split
 ·rename_i d;generalize hv:s.regs d=v;unfold SPv;split
  ·rename_i b;cases b
   ·rw[VIF_false,put_same s d hv]
   ·rw[VIF_true,put_same s d hv]
  ·exact Iff.rfl
 ·exact Iff.rfl
def qK (ops:List Oper) (im:Option Bool) (q:Bool) (st s:St) (A:Prop):Prop:=match im,q with
 | none,true=>Gr ops st.objs s.objs/\A
 | none,false=>A
 | some _,_=>A
theorem qK_to {ops:List Oper} {im:Option Bool} {q:Bool} {st s:St} {A:Prop} (h:qK ops im q st s A):A:=by
 cases im with
 | some b=>exact h
 | none=>cases q with
   | false=>exact h
   | true=>exact h.2
theorem qK_mono {ops:List Oper} {im:Option Bool} {q:Bool} {st s:St} {A B:Prop} (m:A->B) (h:qK ops im q st s A):qK ops im q st s B:=by
 cases im with
 | some b=>exact m h
 | none=>cases q with
   | false=>exact m h
   | true=>exact ⟨h.1,m h.2⟩
def evAt (P:Program) (T:Nat->TI) (ops:List Oper) (im:Option Bool) (sp q:Bool):Option Oper->St->(St->Prop)->Prop
 | none,st,K=>K st
 | some o,st,K=>evG st ops o.guard (firstIf ops im q st o.op/\evOp P T st o.dst o.op λs=>qK ops im q st s (SPd sp o.dst s K)) (K (st.put o.dst (.tu [])))
@[congr] theorem evAt_congr {P:Program} {T:Nat->TI} {ops:List Oper} {im:Option Bool} {sp q:Bool} {x y:Option Oper} {st:St} {K:St->Prop} {p00:Prop} (_h00:(True/\True)=p00) (h:x=y):evAt P T ops im sp q x st K=evAt P T ops im sp q y st K:=by rw[h]
theorem evAt_some {P:Program} {T:Nat->TI} {ops:List Oper} {im:Option Bool} {sp q:Bool} {o:Oper} {st:St} {K:St->Prop} :
 evAt P T ops im sp q (some o) st K=evG st ops o.guard (firstIf ops im q st o.op/\evOp P T st o.dst o.op λs=>qK ops im q st s (SPd sp o.dst s K)) (K (st.put o.dst (.tu []))):=rfl
abbrev Ord:=List (Nat×Option Bool×Bool×Bool)
def NS (st:St) (K:St->Prop):Prop:=K st
@[congr] theorem NS_congr {st st':St} {K:St->Prop} {p00:Prop} (_h00:(True/\True)=p00) (h:st=st'):NS st K=NS st' K:=by rw[h]
theorem NS_do (st:St) (K:St->Prop):NS st K=K st:=rfl
def evSel (P:Program) (T:Nat->TI) (ops:List Oper):Ord->St->(St->Prop)->Prop
 | [],st,K=>K st
 | (i,im,sp,q)::r,st,K=>evAt P T ops im sp q ops[i]? st λs=>NS s λs=>evSel P T ops r s K
def Ent (st st':St):Prop:=∀(F:Fr) (n:Nat) (a:Act) (w:World),(∀i,F.O0 i≠none->i=0)->Rep F n st a w->Rep F n st' a w
theorem Ent.refl (st:St):Ent st st:=λ_ _ _ _ _ h=>h
theorem Ent.trans {a b c:St} (h:Ent a b) (h':Ent b c):Ent a c:=λF n x w h0 r=>h' F n x w h0 (h F n x w h0 r)
inductive GOES (K:St->Prop) (s:St):Prop
 | mk (s':St) (h:Ent s s') (k:K s'):GOES K s
@[congr] theorem GOES_congr {K:St->Prop} {s s':St} {p00:Prop} (_h00:(True/\True)=p00) (h:s=s'):GOES K s=GOES K s':=by rw[h]
theorem GO {K:St->Prop} {s:St} (h:K s):GOES K s:=⟨s,.refl s,h⟩
theorem GOES.ent {K:St->Prop} {s s':St} (h:Ent s s') (k:GOES K s'):GOES K s:=by obtain ⟨t,h1,h2⟩:=k;exact ⟨t,h.trans h1,h2⟩
def sq (b:Bool) (K:St->Prop) (s:St):Prop:=match b with
 | true=>GOES K s
 | false=>K s
@[congr] theorem sq_congr {b b':Bool} {K:St->Prop} {s:St} {p00:Prop} (_h00:(True/\True)=p00) (h:b=b'):sq b K s=sq b' K s:=by rw[h]
theorem sq_mono {b:Bool} {K K':St->Prop} {s:St} (m:∀s,K s->K' s) (h:sq b K s):sq b K' s:=by
 cases b
 ·exact m _ h
 ·obtain ⟨t,h1,h2⟩:=h;exact ⟨t,h1,m _ h2⟩
theorem sq_of {b:Bool} {K:St->Prop} {s:St} (h:K s):sq b K s:=by
 cases b
 ·exact h
 ·exact GO h
def opCall:Op->Bool
 | .call ⟨.value _,_,_⟩=>true
 | _=>false
def callNext:List Oper->Bool
 | []=>false
 | o::_=>opCall o.op
def evText (P:Program) (T:Nat->TI) (ops:List Oper):List Oper->St->(St->Prop)->Prop
 | [],st,K=>K st
 | o::r,st,K=>evAt P T ops none false false (some o) st λs=>NS s λs=>sq (callNext r) (λs=>evText P T ops r s K) s
section
variable {P:Program} {T:Nat->TI} {F:Fr} {st:St} {a:Act} {w:World}
theorem VIF_prop {b:Bool} {A B:Prop} (h:VIF b A B):if b=true then A else B:=by
 cases b
 ·simpa using h.2 rfl
 ·simpa using h.1 rfl
theorem evG_spec (ops:Array Oper) {n:Nat} {o:Oper} {A B:Prop} (R:Rep F n st a w) (hn:∀j t,gd ops.toList j=some t->t<n) (h:evG st ops.toList o.guard A B) :
 (Region.wanted o (yielded ops a.tmps)=true/\A)\/(Region.wanted o (yielded ops a.tmps)=false/\B):=by
 obtain ⟨φ,H,hr⟩:=R.rep;unfold Region.wanted;unfold evG at h;split at h
 ·exact .inl ⟨by simp[*],h⟩
 ·rename_i j want hg;simp only[hg];have hgd:(ops[j]?).bind (λx=>x.dst)=gd ops.toList j:=(by simp[gd]);unfold yielded;rw[hgd];generalize ht:gd ops.toList j=dt at h ⊢;cases dt with
  | none=>exact .inr ⟨by simp,h⟩
  | some t=>
    have hlt:t<a.tmps.size:=by rw[R.size];exact hn j t ht
    have hrt:=hr t;rw[Array.getD_eq_getD_getElem?,Array.getElem?_eq_getElem hlt] at hrt;simp only[Option.getD_some] at hrt;simp only[Option.bind_some,Array.getElem?_eq_getElem hlt,gS] at h ⊢;generalize st.regs t=x at h hrt;generalize a.tmps[t]=y at hrt ⊢;unfold gV at h;split at h
    ·rename_i b;have:=inv_pr hrt;rw[this];have h':=VIF_prop h;cases b<;>cases want<;>simp_all
    ·refine .inr ⟨?_,h⟩;cases hrt with
     | rd r=>cases r
     | tu hs hr=>rfl
    ·exact h.elim
theorem evAt_sound (hT:TabOk P T) (hE:∀t e,(T t).k=.slice e->(T e).k.known=true) {ops:Array Oper} {n i:Nat} {im:Option Bool} {sp q:Bool} {K:St->Prop} {next:Act->World->Prop} {Q:Exit->Act->World->Prop}
 (h:evAt P T ops.toList im sp q ops[i]? st K) (R:Rep F n st a w) (hn:∀j t,gd ops.toList j=some t->t<n) (hnext:∀st' a' w',Rep F n st' a' w'->K st'->next a' w'):wpOp P ops Q i next a w:=by
 unfold wpOp;cases ho:ops[i]? with
 | none=>rw[ho] at h;exact hnext _ _ _ R h
 | some o=>
   rw[ho] at h;have hd:∀x,o.dst=some x->x<n:=λx hx=>hn i x (by simp[gd,ho,hx]);rcases evG_spec ops R hn h with ⟨h1,h2⟩|⟨h1,h2⟩
   ·simp only[h1,if_true];exact .inl (evOp_sound hT hE h2.2 R hd λst' a' w' R' k=>hnext _ _ _ R' ((SPd_iff ..).1 (qK_to k)))
   ·simp only[h1,Bool.false_eq_true,if_false];obtain ⟨hs,hdf,φ,H,hr⟩:=R;exact hnext _ _ _ (Rep.put hs hdf H hr rfl rfl rfl rfl hd (.tu (by simp) (by simp))) h2
theorem evText_sound (hT:TabOk P T) (hE:∀t e,(T t).k=.slice e->(T e).k.known=true) (hF:∀i,F.O0 i≠none->i=0) {ops:Array Oper} {n:Nat} {K:St->Prop} {Q:Exit->Act->World->Prop}
 (hn:∀j t,gd ops.toList j=some t->t<n) (hQ:∀st' a' w',Rep F n st' a' w'->K st'->Q .normal a' w') :
 ∀(k:Nat) (st:St) (a:Act) (w:World),evText P T ops.toList (ops.toList.drop k) st K->Rep F n st a w->wpOps P ops Q (List.range' k (ops.size-k)) a w:=by
 intro k;generalize hm:ops.size-k=m
 induction m generalizing k with
 | zero=>
   intro st a w h R;rw[List.drop_of_length_le (by simp;omega)] at h;exact hQ _ _ _ R h
 | succ m ih=>
   intro st a w h R;have hk:k<ops.toList.length:=by simp;omega
   rw[List.drop_eq_getElem_cons hk] at h;simp only[List.range'_succ,wpOps_cons];have hk':k<ops.size:=(by simpa using hk);have:ops[k]?=some (ops.toList[k]):=(by simp[hk']);refine evAt_sound hT hE (im:=none) (sp:=false) (q:=false) (K:=λs=>sq (callNext (ops.toList.drop (k+1))) (λs=>evText P T ops.toList (ops.toList.drop (k+1)) s K) s) ?_ R hn λst' a' w' R' h'=>?_
   rotate_left
   ·cases hb:callNext (ops.toList.drop (k+1)) with
    | false=>rw[hb] at h';exact ih (k+1) (by omega) st' a' w' h' R'
    | true=>
      rw[hb] at h';obtain ⟨s',he,h3⟩:=h';exact ih (k+1) (by omega) s' a' w' h3 (he F n a' w' hF R')
   rw[this];exact h
def evAny (P:Program) (T:Nat->TI) (md:Region.Mode) (ops:Array Oper) (qs:Nat->Bool) (K:St->Prop):Nat->Array Bool->St->Prop
 | 0,listed,st=>Region.ready md ops listed=[]/\K st
 | f+1,listed,st=>(Region.ready md ops listed=[]->K st) /\
     ∀i∈Region.ready md ops listed,evAt P T ops.toList none false (qs i) ops[i]? st (evAny P T md ops qs K f (listed.setIfInBounds i true))
theorem evAny_sound (hT:TabOk P T) (hE:∀t e,(T t).k=.slice e->(T e).k.known=true) {md:Region.Mode} {ops:Array Oper} {qs:Nat->Bool} {n:Nat} {K:St->Prop} {Q:Exit->Act->World->Prop}
 (hn:∀j t,gd ops.toList j=some t->t<n) (hQ:∀st' a' w',Rep F n st' a' w'->K st'->Q .normal a' w') :
 ∀(f:Nat) (listed:Array Bool) (st:St) (a:Act) (w:World),evAny P T md ops qs K f listed st->Rep F n st a w->wpAny P md ops Q f listed a w:=by
 intro f
 induction f with
 | zero=>exact λlisted st a w h R=>⟨h.1,hQ _ _ _ R h.2⟩
 | succ f ih=>
   exact λlisted st a w h R=>⟨λh0=>hQ _ _ _ R (h.1 h0),λi hi=>
    evAt_sound hT hE (h.2 i hi) R hn λst' a' w' R' h'=>ih _ st' a' w' h' R'⟩
def Agree (ops:Array Oper) (o:Oper) (ah:Ahead) (st s:St):Prop:=
 (∀t∈o.looksAt ops,s.regs t=st.regs t)/\sameM ops.toList st s o.op ah
def ahOf:Bool->Bool->Ahead
 | _,true=>.mark
 | true,false=>.imm
 | false,false=>.calm
theorem evG_same {ops:Array Oper} {o:Oper} {s:St} {A B:Prop} (h:∀t∈o.looksAt ops,s.regs t=st.regs t):evG s ops.toList o.guard A B=evG st ops.toList o.guard A B:=by
 unfold evG;split
 ·rfl
 ·rename_i j want hg;generalize ht:gd ops.toList j=dt;have hgd:(ops[j]?).bind (λx=>x.dst)=dt:=by rw[<- ht];simp[gd]
  cases dt with
  | none=>rfl
  | some t=>
    have:s.regs t=st.regs t:=h t (by simp[Oper.looksAt,hg,hgd]);simp only[gS,this]
theorem looks_op {ops:Array Oper} {o:Oper} {t:Nat} (h:(Operand.tmp t)∈o.op.operands):t∈o.looksAt ops:=
 List.mem_append_left _ (List.mem_filterMap.2 ⟨.tmp t,by simpa using h,rfl⟩)
theorem gS_mono {t:Option Nat} {b:Bool} {A B A' B':Prop} (ma:A->A') (mb:B->B') (h:gS st t b A B):gS st t b A' B':=by
 cases t with
 | none=>exact mb h
 | some t=>
   simp only[gS] at *;generalize st.regs t=x at h ⊢;unfold gV at *;split at h
   ·exact h.mono ma mb
   ·exact mb h
   ·exact h
theorem evG_mono {ops:List Oper} {g:Option (Nat×Bool)} {A B A' B':Prop} (ma:A->A') (mb:B->B') (h:evG st ops g A B):evG st ops g A' B':=by
 unfold evG at *;split at h
 ·exact ma h
 ·exact gS_mono ma mb h
theorem VIF_cases {b:Bool} {A B:Prop} (h:VIF b A B):(A/\∀A' B':Prop,A'->VIF b A' B')\/(B/\∀A' B':Prop,B'->VIF b A' B'):=by
 cases b
 ·exact .inr ⟨h.2 rfl,λA' B' k=>by rw[VIF_false];exact k⟩
 ·exact .inl ⟨h.1 rfl,λA' B' k=>by rw[VIF_true];exact k⟩
theorem gV_cases {x:AV} {b:Bool} {A B:Prop} (h:gV x b A B):(A/\∀A' B':Prop,A'->gV x b A' B')\/(B/\∀A' B':Prop,B'->gV x b A' B'):=by
 unfold gV at *;split at h
 ·exact VIF_cases h
 ·exact .inr ⟨h,λA' B' k=>k⟩
 ·exact h.elim
theorem evG_cases {ops:List Oper} {g:Option (Nat×Bool)} {A B:Prop} (h:evG st ops g A B):(A/\∀A' B':Prop,A'->evG st ops g A' B')\/(B/\∀A' B':Prop,B'->evG st ops g A' B'):=by
 unfold evG at *;split at h
 ·exact .inl ⟨h,λA' B' k=>k⟩
 ·rename_i j want;generalize gd ops j=dt at h ⊢;cases dt with
  | none=>exact .inr ⟨h,λA' B' k=>k⟩
  | some t=>
    simp only[gS] at *;generalize st.regs t=x at h ⊢;exact gV_cases h
theorem at_simple {ops:Array Oper} {o:Oper} {im q:Bool} {J:St->Prop} (hs:simple o.op=true) (h:evAt P T ops.toList (some im) false q (some o) st J) :
 ∃v,J (st.put o.dst v)/\∀s,Agree ops o (ahOf im q) st s->∀K':St->Prop,K' (s.put o.dst v)->evAt P T ops.toList none false false (some o) s K':=by
 rcases evG_cases h with ⟨h1,h2⟩|⟨h1,h2⟩
 ·have hf:firstM ops.toList st (ahOf im q) o.op:=by
   have:=h1.1;cases q with
   | true=>cases im<;>exact this
   | false=>cases im<;>exact this
  obtain ⟨v,g1,g2⟩:=simple_spec hs hf (evOp_mono (λs k=>qK_to k) h1.2);refine ⟨v,g1,λs hag K' k=>?_⟩;rw[evAt_some];rw[evG_same hag.1];refine h2 _ _ ⟨trivial,g2 s (λx hx=>?_) hag.2 _ k⟩;cases x with
  | tmp t=>exact hag.1 t (looks_op hx)
  | _=>rfl
 ·refine ⟨_,h1,λs hag K' k=>?_⟩;rw[evAt_some];rw[evG_same hag.1];exact h2 _ _ k
theorem at_put {ops:Array Oper} {o:Oper} {i:Option Nat} {v:AV} {q:Bool} {K K':St->Prop} (h1:∀d,i=some d->d∉o.looksAt ops) (h2:∀d,i=some d->o.dst≠some d)
 (m:∀s,(∀t,o.dst≠some t->s.regs t=st.regs t)->(calm o.op=true->s.objs=st.objs)->(calm o.op=true\/q=true->Gr ops.toList st.objs s.objs)->K (s.put i v)->K' s) (h:evAt P T ops.toList none false q (some o) (st.put i v) K) :
 evAt P T ops.toList none false q (some o) st K':=by
 rw[evAt_some] at *;have hsame:∀t∈o.looksAt ops,(st.put i v).regs t=st.regs t:=λt ht=>by
  cases i with
  | none=>rfl
  | some d=>exact upd_ne' _ _ (λe=>h1 d rfl (e▸ht))
 rw[evG_same hsame] at h;refine evG_mono (λh=>⟨trivial,?_⟩) (λh=>?_) h
 ·refine evOp_put (λt ht hm=>h1 t ht (looks_op hm)) h2 (λs ha hk=>?_) h.2;obtain ⟨u,O,U,rfl,hc⟩:=ha;have hregs:∀t,o.dst≠some t->(st.to o.dst u O U).regs t=st.regs t:=λt ht=>by
   generalize o.dst=d at ht ⊢;cases d with
   | none=>rfl
   | some d=>exact upd_ne' _ _ (λe=>ht (by rw[e]))
  cases q with
  | false=>exact m _ hregs (λh=>(hc h).1) (λh=>h.elim (λh=>Gr.of (hc h).1) (λh=>by cases h)) hk
  | true=>
    have ho:Gr ops.toList st.objs (st.to o.dst u O U).objs:=by have:=hk.1;rw[put_objs,put_objs] at this;exact this
    exact ⟨ho,m _ hregs (λh=>(hc h).1) (λ_=>ho) hk.2⟩
 ·refine m _ (λt ht=>?_) (λ_=>put_objs ..) (λ_=>Gr.of (put_objs ..)) (by rw[<- put_comm st v _ h2];exact h);generalize o.dst=d at ht ⊢;cases d with
  | none=>rfl
  | some d=>exact upd_ne' _ _ (λe=>ht (by rw[e]))
theorem evAt_mono {ops:List Oper} {im:Option Bool} {q:Bool} {x:Option Oper} {K K':St->Prop} (m:∀s,K s->K' s) (h:evAt P T ops im false q x st K):evAt P T ops im false q x st K':=by
 cases x with
 | none=>exact m _ h
 | some o=>exact evG_mono (λh=>⟨h.1,evOp_mono (λs=>qK_mono (m s)) h.2⟩) (m _) h
theorem evAt_sp {ops:List Oper} {im:Option Bool} {sp q:Bool} {x:Option Oper} {K:St->Prop} (h:evAt P T ops im sp q x st K):evAt P T ops im false q x st K:=by
 cases x with
 | none=>exact h
 | some o=>exact evG_mono (λh=>⟨h.1,evOp_mono (λs=>qK_mono λk=>(SPd_iff ..).1 k) h.2⟩) id h
theorem evAt_text {ops:List Oper} {im:Option Bool} {q:Bool} {x:Option Oper} {K:St->Prop} (h:evAt P T ops im false q x st K):evAt P T ops none false false x st K:=by
 cases x with
 | none=>exact h
 | some o=>exact evG_mono (λh=>⟨trivial,evOp_mono (λs k=>qK_to k) h.2⟩) id h
inductive Reach (md:Region.Mode) (ops:Array Oper) (i:Nat):Nat->Prop
 | one {j:Nat} {o:Oper} {e:Edge} (h:ops[j]?=some o) (he:e∈o.after) (hb:Region.binds md e=true) (hi:e.on=i):Reach md ops i j
 | more {j:Nat} {o:Oper} {e:Edge} (h:ops[j]?=some o) (he:e∈o.after) (hb:Region.binds md e=true) (hi:Reach md ops i e.on):Reach md ops i j
def Down (md:Region.Mode) (ops:Array Oper) (listed:Array Bool):Prop:=
 ∀j o,ops[j]?=some o->listed.getD j false=true->∀e∈o.after,Region.binds md e=true->listed.getD e.on false=true
theorem Down.reach {md:Region.Mode} {ops:Array Oper} {listed:Array Bool} (hd:Down md ops listed) {i j:Nat} (hi:listed.getD i false=false) (h:Reach md ops i j) :
 ¬∀o,ops[j]?=some o->∀e∈o.after,Region.binds md e=true->listed.getD e.on false=true:=by
 induction h with
 | one h he hb hi'=>
   intro hall;have:=hall _ h _ he hb;rw[hi',hi] at this;cases this
 | more h he hb hr ih=>
   intro hall;have:=hall _ h _ he hb;exact ih λo ho e he' hb'=>hd _ o ho this e he' hb'
theorem Down.step {md:Region.Mode} {ops:Array Oper} {listed:Array Bool} (hd:Down md ops listed) {i:Nat} (hr:i∈Region.ready md ops listed):Down md ops (listed.setIfInBounds i true):=by
 intro j o ho hj e he hb;obtain ⟨_,oi,hoi,hall⟩:=mem_ready.1 hr;by_cases hij:i=j
 ·subst hij;rw[hoi] at ho;cases ho;exact getD_set_true (hall e he hb)
 ·rw[getD_set_ne false hij] at hj;exact getD_set_true (hd j o ho hj e he hb)
def succs (md:Region.Mode) (ops:Array Oper) (i:Nat):List Nat:=
 (List.range ops.size).foldl (λacc j=>match ops[j]? with
  | some o=>if o.after.any (λe=>Region.binds md e&&(e.on==i||acc.contains e.on)) then j::acc else acc
  | none=>acc) []
theorem succs_reach {md:Region.Mode} {ops:Array Oper} {i j:Nat} (h:(succs md ops i).contains j=true):Reach md ops i j:=by
 have key:∀(l:List Nat) (acc:List Nat),(∀k∈acc,Reach md ops i k)->∀k∈l.foldl (λacc j=>match ops[j]? with
  | some o=>if o.after.any (λe=>Region.binds md e&&(e.on==i||acc.contains e.on)) then j::acc else acc
  | none=>acc) acc,Reach md ops i k:=by
  intro l
  induction l with
  | nil=>exact λacc h=>h
  | cons x r ih=>
    intro acc hacc;simp only[List.foldl_cons];refine ih _ ?_;split
    ·rename_i o ho;split
     ·rename_i hany;obtain ⟨e,he,hb⟩:=Array.any_eq_true'.1 hany;simp only[Bool.and_eq_true,Bool.or_eq_true,beq_iff_eq] at hb;intro k hk;cases hk with
      | head=>
        rcases hb.2 with h|h
        ·exact .one ho he hb.1 h
        ·exact .more ho he hb.1 (hacc _ (by simpa using h))
      | tail _ hk=>exact hacc k hk
     ·exact hacc
    ·exact hacc
 exact key (List.range ops.size) [] (by simp) j (List.contains_iff_mem.1 h)
def passes (r c q:Bool):Ahead->Bool
 | .imm=>true
 | .calm=>!r||c
 | .mark=>!r||c||q
theorem evAny_first {md:Region.Mode} {ops:Array Oper} {qs:Nat->Bool} {K:St->Prop} {i:Nat} {oi:Oper} {ah:Ahead} {v:AV} {st0:St} (hi:ops[i]?=some oi) (hq:qs i=false)
 (hst:∀s,Agree ops oi ah st0 s->∀K':St->Prop,K' (s.put oi.dst v)->evAt P T ops.toList none false false (some oi) s K') :
 ∀(f:Nat) (listed:Array Bool) (st:St),
  (∀j oj,ops[j]?=some oj->j≠i->listed.getD j true=false->¬Reach md ops i j->oi.apart ops oj=true/\passes (reads oi.op) (calm oj.op) (qs j) ah=true) ->
  Down md ops listed ->
  i∈Region.ready md ops listed->Agree ops oi ah st0 st->evAny P T md ops qs K f (listed.setIfInBounds i true) (st.put oi.dst v)->evAny P T md ops qs K (f+1) listed st:=by
 intro f
 induction f with
 | zero=>
   intro listed st _ _ hr hag H;refine ⟨λh=>(by rw[h] at hr;cases hr),λj hj=>?_⟩;by_cases hji:j=i
   ·subst hji;rw[hi,hq];exact hst _ hag _ H
   ·have:=ready_mono hj hji;rw[H.1] at this;cases this
 | succ f ih=>
   intro listed st hfree hdown hr hag H;refine ⟨λh=>(by rw[h] at hr;cases hr),λj hj=>?_⟩;by_cases hji:j=i
   ·subst hji;rw[hi,hq];exact hst _ hag _ H
   ·have h1:=H.2 j (ready_mono hj hji);obtain ⟨hjun,oj,hoj,hall⟩:=mem_ready.1 hj;have hi0:listed.getD i false=false:=by
     have h0:=(mem_ready.1 hr).1;rcases Nat.lt_or_ge i listed.size with h'|h'
     ·simp[h'] at h0 ⊢;exact h0
     ·simp[Array.getElem?_eq_none h']
    have hnot:¬Reach md ops i j:=λhR=>hdown.reach hi0 hR λo ho e he hb=>by rw[hoj] at ho;cases ho;exact hall e he hb
    obtain ⟨hap,hcalm⟩:=hfree j oj hoj hji hjun hnot;obtain ⟨a1,a2,a3⟩:=Oper.apart_spec hap
    have hfree':∀k ok,ops[k]?=some ok->k≠i->(listed.setIfInBounds j true).getD k true=false ->
     ¬Reach md ops i k->oi.apart ops ok=true/\passes (reads oi.op) (calm ok.op) (qs k) ah=true:=λk ok hk hki hun hno=>by
     refine hfree k ok hk hki ?_ hno;by_cases hjk:j=k
     ·subst hjk;exact hjun
     ·rw[getD_set_ne true hjk] at hun;exact hun
    rw[hoj] at h1 ⊢;refine at_put a1 (λd hd=>a2 d hd) (λs hs ho ho2 hk=>?_) h1;refine ih (listed.setIfInBounds j true) s hfree' (hdown.step hj) (ready_mono hr (Ne.symm hji)) ⟨λt ht=>?_,?_⟩ (by rw[Array.setIfInBounds_comm _ _ hji];exact hk)
    ·rw[hs t (λe=>a3 t e ht)];exact hag.1 t ht
    ·have h2:=hag.2;cases ah with
     | imm=>trivial
     | calm=>
       simp only[passes,Bool.or_eq_true,Bool.not_eq_true'] at hcalm;rcases hcalm with hc|hc
       ·exact .inl hc
       ·rcases h2 with h|h
        ·exact .inl h
        ·exact .inr ((ho hc).trans h)
     | mark=>
       simp only[passes,Bool.or_eq_true,Bool.not_eq_true'] at hcalm;rcases hcalm with (hc|hc)|hc
       ·exact .inl hc
       ·rcases h2 with h|h
        ·exact .inl h
        ·exact .inr (h.trans (ho2 (.inl hc)))
       ·rcases h2 with h|h
        ·exact .inl h
        ·exact .inr (h.trans (ho2 (.inr hc)))
def freeX (md:Region.Mode) (ops:Array Oper) (qs:Nat->Bool) (listed:Array Bool) (i:Nat) (ah:Ahead):Bool:=
 match ops[i]? with
 | none=>false
 | some oi=>!qs i&&simple oi.op&&(List.range ops.size).all λj=>j==i||listed.getD j true||match ops[j]? with
  | some oj=>oj.after.any (λe=>Region.binds md e&&e.on==i)||(oi.apart ops oj&&passes (reads oi.op) (calm oj.op) (qs j) ah)||(succs md ops i).contains j
  | none=>true
theorem freeX_spec {md:Region.Mode} {ops:Array Oper} {qs:Nat->Bool} {listed:Array Bool} {i:Nat} {ah:Ahead} (h:freeX md ops qs listed i ah=true):∃oi,ops[i]?=some oi/\qs i=false/\simple oi.op=true /\
 ∀j oj,ops[j]?=some oj->j≠i->listed.getD j true=false->¬Reach md ops i j->oi.apart ops oj=true/\passes (reads oi.op) (calm oj.op) (qs j) ah=true:=by
 unfold freeX at h;split at h
 ·cases h
 ·rename_i oi hi;simp only[Bool.and_eq_true,Bool.not_eq_true',List.all_eq_true,List.mem_range] at h;refine ⟨oi,hi,h.1.1,h.1.2,λj oj hj hne hun hno=>?_⟩;have h1:=h.2 j (Array.getElem?_eq_some_iff.1 hj).1;simp only[hj,Bool.or_eq_true,beq_iff_eq,hne,false_or,hun,Bool.false_eq_true] at h1;rcases h1 with (h1|h1)|h1
  ·obtain ⟨e,he,hb⟩:=Array.any_eq_true'.1 h1;simp only[Bool.and_eq_true,beq_iff_eq] at hb;exact absurd (.one hj he hb.1 hb.2) hno
  ·simp only[Bool.and_eq_true] at h1;exact h1
  ·exact absurd (succs_reach h1) hno
def quiet (l:Ord) (i:Nat):Bool:=l.any λe=>e.1==i&&e.2.2.2&&e.2.1.isNone
def eagerK (md:Region.Mode) (ops:Array Oper) (qs:Nat->Bool) (k:Array Bool->Bool):Ord->Array Bool->Bool
 | [],listed=>k listed
 | (i,im,_,q)::r,listed=>(match im with
  | none=>(qs i==q)&&Region.ready md ops listed==[i]
  | some im=>(Region.ready md ops listed).contains i&&freeX md ops qs listed i (ahOf im q))&&eagerK md ops qs k r (listed.setIfInBounds i true)
inductive OT where
 | lin (l:Ord)
 | fork (pre:Ord) (i:Nat) (ri:OT) (j:Nat) (rj:OT)
 | fork3 (pre:Ord) (i:Nat) (ri:OT) (j:Nat) (rj:OT) (k:Nat) (rk:OT)
 | fork4 (pre:Ord) (i:Nat) (ri:OT) (j:Nat) (rj:OT) (k:Nat) (rk:OT) (l:Nat) (rl:OT)
 | forkq (pre:Ord) (i:Nat) (qi:Bool) (ri:OT) (j:Nat) (qj:Bool) (rj:OT)
 | forkq3 (pre:Ord) (i:Nat) (qi:Bool) (ri:OT) (j:Nat) (qj:Bool) (rj:OT) (k:Nat) (qk:Bool) (rk:OT)
def OT.len:OT->Nat
 | .lin l=>l.length
 | .fork pre _ ri _ rj=>pre.length+(1+max ri.len rj.len)
 | .fork3 pre _ ri _ rj _ rk=>pre.length+(1+max (max ri.len rj.len) rk.len)
 | .fork4 pre _ ri _ rj _ rk _ rl=>pre.length+(1+max (max (max ri.len rj.len) rk.len) rl.len)
 | .forkq pre _ _ ri _ _ rj=>pre.length+(1+max ri.len rj.len)
 | .forkq3 pre _ _ ri _ _ rj _ _ rk=>pre.length+(1+max (max ri.len rj.len) rk.len)
def OT.quiet:OT->Nat->Bool
 | .lin l,i=>Vc.quiet l i
 | .fork pre _ ri _ rj,i=>Vc.quiet pre i||ri.quiet i||rj.quiet i
 | .fork3 pre _ ri _ rj _ rk,i=>Vc.quiet pre i||ri.quiet i||rj.quiet i||rk.quiet i
 | .fork4 pre _ ri _ rj _ rk _ rl,i=>Vc.quiet pre i||ri.quiet i||rj.quiet i||rk.quiet i||rl.quiet i
 | .forkq pre a qa ri b qb rj,i=>Vc.quiet pre i||(a==i&&qa)||(b==i&&qb)||ri.quiet i||rj.quiet i
 | .forkq3 pre a qa ri b qb rj c qc rk,i=>Vc.quiet pre i||(a==i&&qa)||(b==i&&qb)||(c==i&&qc)||ri.quiet i||rj.quiet i||rk.quiet i
def eagerT (md:Region.Mode) (ops:Array Oper) (qs:Nat->Bool):OT->Array Bool->Bool
 | .lin l,listed=>eagerK md ops qs (λL=>(Region.ready md ops L).isEmpty) l listed
 | .fork pre i ri j rj,listed=>eagerK md ops qs (λL=>(Region.ready md ops L==[i,j]||Region.ready md ops L==[j,i])&&!qs i&&!qs j&&eagerT md ops qs ri (L.setIfInBounds i true)&&eagerT md ops qs rj (L.setIfInBounds j true)) pre listed
 | .fork3 pre i ri j rj k rk,listed=>eagerK md ops qs (λL=>((Region.ready md ops L).all λx=>[i,j,k].contains x)&&([i,j,k].all λx=>(Region.ready md ops L).contains x)&&!qs i&&!qs j&&!qs k&&eagerT md ops qs ri (L.setIfInBounds i true)&&eagerT md ops qs rj (L.setIfInBounds j true)&&eagerT md ops qs rk (L.setIfInBounds k true)) pre listed
 | .fork4 pre i ri j rj k rk l rl,listed=>eagerK md ops qs (λL=>((Region.ready md ops L).all λx=>[i,j,k,l].contains x)&&([i,j,k,l].all λx=>(Region.ready md ops L).contains x)&&!qs i&&!qs j&&!qs k&&!qs l&&eagerT md ops qs ri (L.setIfInBounds i true)&&eagerT md ops qs rj (L.setIfInBounds j true)&&eagerT md ops qs rk (L.setIfInBounds k true)&&eagerT md ops qs rl (L.setIfInBounds l true)) pre listed
 | .forkq pre i qi ri j qj rj,listed=>eagerK md ops qs (λL=>((Region.ready md ops L).all λx=>[i,j].contains x)&&([i,j].all λx=>(Region.ready md ops L).contains x)&&(qs i==qi)&&(qs j==qj)&&eagerT md ops qs ri (L.setIfInBounds i true)&&eagerT md ops qs rj (L.setIfInBounds j true)) pre listed
 | .forkq3 pre i qi ri j qj rj k qk rk,listed=>eagerK md ops qs (λL=>((Region.ready md ops L).all λx=>[i,j,k].contains x)&&([i,j,k].all λx=>(Region.ready md ops L).contains x)&&(qs i==qi)&&(qs j==qj)&&(qs k==qk)&&eagerT md ops qs ri (L.setIfInBounds i true)&&eagerT md ops qs rj (L.setIfInBounds j true)&&eagerT md ops qs rk (L.setIfInBounds k true)) pre listed
def evOT (P:Program) (T:Nat->TI) (ops:List Oper):OT->St->(St->Prop)->Prop
 | .lin l,st,K=>evSel P T ops l st K
 | .fork pre i ri j rj,st,K=>evSel P T ops pre st λs=>(evAt P T ops none false false ops[i]? s λs=>NS s λs=>evOT P T ops ri s K)/\(evAt P T ops none false false ops[j]? s λs=>NS s λs=>evOT P T ops rj s K)
 | .fork3 pre i ri j rj k rk,st,K=>evSel P T ops pre st λs=>(evAt P T ops none false false ops[i]? s λs=>NS s λs=>evOT P T ops ri s K)/\(evAt P T ops none false false ops[j]? s λs=>NS s λs=>evOT P T ops rj s K)/\(evAt P T ops none false false ops[k]? s λs=>NS s λs=>evOT P T ops rk s K)
 | .fork4 pre i ri j rj k rk l rl,st,K=>evSel P T ops pre st λs=>(evAt P T ops none false false ops[i]? s λs=>NS s λs=>evOT P T ops ri s K)/\(evAt P T ops none false false ops[j]? s λs=>NS s λs=>evOT P T ops rj s K)/\(evAt P T ops none false false ops[k]? s λs=>NS s λs=>evOT P T ops rk s K)/\(evAt P T ops none false false ops[l]? s λs=>NS s λs=>evOT P T ops rl s K)
 | .forkq pre i qi ri j qj rj,st,K=>evSel P T ops pre st λs=>(evAt P T ops none false qi ops[i]? s λs=>NS s λs=>evOT P T ops ri s K)/\(evAt P T ops none false qj ops[j]? s λs=>NS s λs=>evOT P T ops rj s K)
 | .forkq3 pre i qi ri j qj rj k qk rk,st,K=>evSel P T ops pre st λs=>(evAt P T ops none false qi ops[i]? s λs=>NS s λs=>evOT P T ops ri s K)/\(evAt P T ops none false qj ops[j]? s λs=>NS s λs=>evOT P T ops rj s K)/\(evAt P T ops none false qk ops[k]? s λs=>NS s λs=>evOT P T ops rk s K)
theorem eagerK_sound {md:Region.Mode} {ops:Array Oper} {qs:Nat->Bool} {K K1:St->Prop} {k:Array Bool->Bool} {m:Nat} (hk:∀(f:Nat) (L:Array Bool) (s:St),k L=true->Down md ops L->m<=f->K1 s->evAny P T md ops qs K f L s) :
 ∀(l:Ord) (f:Nat) (listed:Array Bool) (st:St),eagerK md ops qs k l listed=true->Down md ops listed->l.length+m<=f->evSel P T ops.toList l st K1->evAny P T md ops qs K f listed st:=by
 intro l
 induction l with
 | nil=>
   intro f listed st he hd hl h;exact hk f listed st he hd (by simpa using hl) h
 | cons x r ih=>
   intro f listed st he hdown hl h;obtain ⟨i,im,sp,q⟩:=x;cases f with
   | zero=>simp at hl
   | succ f=>
     simp only[eagerK,Bool.and_eq_true] at he;have hl':r.length+m<=f:=by simp at hl;omega
     have hin:i∈Region.ready md ops listed:=by
      cases im with
      | none=>
        have he1:=he.1;simp only[Bool.and_eq_true,beq_iff_eq] at he1;rw[he1.2];simp
      | some im=>
        have he2:=he.1;simp only[Bool.and_eq_true] at he2;simpa using he2.1
     have key:=evAt_mono (K':=evAny P T md ops qs K f (listed.setIfInBounds i true)) (λs hs=>ih f _ s he.2 (hdown.step hin) hl' hs) (evAt_sp (show evAt P T ops.toList im sp q ops.toList[i]? st _ from h));have hge:ops.toList[i]?=ops[i]?:=(by simp);rw[hge] at key;cases im with
     | none=>
       have he1:=he.1;simp only[Bool.and_eq_true,beq_iff_eq] at he1;have hr:=he1.2;refine ⟨by rw[hr];simp,λj hj=>?_⟩;rw[hr] at hj;simp only[List.mem_singleton] at hj;subst hj;rw[he1.1];exact key
     | some im=>
       have he2:=he.1;simp only[Bool.and_eq_true] at he2;obtain ⟨oi,hi,hq,hs,hfree⟩:=freeX_spec he2.2;rw[hi] at key;obtain ⟨v,h1,h2⟩:=at_simple hs key;exact evAny_first hi hq h2 f listed st hfree hdown hin ⟨λ_ _=>rfl,sameM.self⟩ h1
theorem eagerT_sound {md:Region.Mode} {ops:Array Oper} {qs:Nat->Bool} {K:St->Prop}:∀(t:OT) (f:Nat) (listed:Array Bool) (st:St),eagerT md ops qs t listed=true->Down md ops listed->t.len<=f ->
 evOT P T ops.toList t st K->evAny P T md ops qs K f listed st:=by
 intro t
 induction t with
 | lin l=>
   intro f listed st he hd hl h;refine eagerK_sound (m:=0) (λf L s hr _ _ hK=>?_) l f listed st he hd hl h;have hr:Region.ready md ops L=[]:=List.isEmpty_iff.1 hr;cases f with
   | zero=>exact ⟨hr,hK⟩
   | succ f=>exact ⟨λ_=>hK,by rw[hr];simp⟩
 | fork pre i ri j rj ihi ihj=>
   intro f listed st he hd hl h;refine eagerK_sound (m:=1+max ri.len rj.len) (λf L s hr hd' hm hK=>?_) pre f listed st he hd hl h;simp only[Bool.and_eq_true,Bool.or_eq_true,beq_iff_eq,Bool.not_eq_true'] at hr;obtain ⟨⟨⟨⟨hrd,hqi⟩,hqj⟩,hei⟩,hej⟩:=hr;have hmem:∀x,x∈Region.ready md ops L->x=i\/x=j:=λx hx=>by
    rcases hrd with e|e<;>rw[e] at hx<;>simp at hx
    ·exact hx
    ·exact hx.symm
   have hin:i∈Region.ready md ops L:=by rcases hrd with e|e<;>rw[e]<;>simp
   have hjn:j∈Region.ready md ops L:=by rcases hrd with e|e<;>rw[e]<;>simp
   cases f with
   | zero=>omega
   | succ f=>
     have hge:∀x:Nat,ops.toList[x]?=ops[x]?:=λx=>by simp
     refine ⟨λh0=>absurd hin (by rw[h0];simp),λx hx=>?_⟩;rcases hmem x hx with rfl|rfl
     ·rw[hqi,<- hge];exact evAt_mono (λs hs=>ihi f _ s hei (hd'.step hin) (by omega) hs) hK.1
     ·rw[hqj,<- hge];exact evAt_mono (λs hs=>ihj f _ s hej (hd'.step hjn) (by omega) hs) hK.2
 | fork3 pre i ri j rj k rk ihi ihj ihk=>
   intro f listed st he hd hl h;refine eagerK_sound (m:=1+max (max ri.len rj.len) rk.len) (λf L s hr hd' hm hK=>?_) pre f listed st he hd hl h;simp only[Bool.and_eq_true,Bool.not_eq_true',List.all_eq_true,List.contains_eq_mem,decide_eq_true_eq,List.mem_cons,List.not_mem_nil,or_false] at hr;obtain ⟨⟨⟨⟨⟨⟨⟨hmem,hin⟩,hqi⟩,hqj⟩,hqk⟩,hei⟩,hej⟩,hek⟩:=hr;cases f with
   | zero=>omega
   | succ f=>
     have hge:∀x:Nat,ops.toList[x]?=ops[x]?:=λx=>by simp
     refine ⟨λh0=>absurd (hin i (.inl rfl)) (by rw[h0];simp),λx hx=>?_⟩;rcases hmem x hx with rfl|rfl|rfl
     ·rw[hqi,<- hge];exact evAt_mono (λs hs=>ihi f _ s hei (hd'.step hx) (by omega) hs) hK.1
     ·rw[hqj,<- hge];exact evAt_mono (λs hs=>ihj f _ s hej (hd'.step hx) (by omega) hs) hK.2.1
     ·rw[hqk,<- hge];exact evAt_mono (λs hs=>ihk f _ s hek (hd'.step hx) (by omega) hs) hK.2.2
 | fork4 pre i ri j rj k rk l rl ihi ihj ihk ihl=>
   intro f listed st he hd hl h;refine eagerK_sound (m:=1+max (max (max ri.len rj.len) rk.len) rl.len) (λf L s hr hd' hm hK=>?_) pre f listed st he hd hl h;simp only[Bool.and_eq_true,Bool.not_eq_true',List.all_eq_true,List.contains_eq_mem,decide_eq_true_eq,List.mem_cons,List.not_mem_nil,or_false] at hr;obtain ⟨⟨⟨⟨⟨⟨⟨⟨⟨hmem,hin⟩,hqi⟩,hqj⟩,hqk⟩,hql⟩,hei⟩,hej⟩,hek⟩,hel⟩:=hr;cases f with
   | zero=>omega
   | succ f=>
     have hge:∀x:Nat,ops.toList[x]?=ops[x]?:=λx=>by simp
     refine ⟨λh0=>absurd (hin i (.inl rfl)) (by rw[h0];simp),λx hx=>?_⟩;rcases hmem x hx with rfl|rfl|rfl|rfl
     ·rw[hqi,<- hge];exact evAt_mono (λs hs=>ihi f _ s hei (hd'.step hx) (by omega) hs) hK.1
     ·rw[hqj,<- hge];exact evAt_mono (λs hs=>ihj f _ s hej (hd'.step hx) (by omega) hs) hK.2.1
     ·rw[hqk,<- hge];exact evAt_mono (λs hs=>ihk f _ s hek (hd'.step hx) (by omega) hs) hK.2.2.1
     ·rw[hql,<- hge];exact evAt_mono (λs hs=>ihl f _ s hel (hd'.step hx) (by omega) hs) hK.2.2.2
 | forkq pre i qi ri j qj rj ihi ihj=>
   intro f listed st he hd hl h;refine eagerK_sound (m:=1+max ri.len rj.len) (λf L s hr hd' hm hK=>?_) pre f listed st he hd hl h;simp only[Bool.and_eq_true,beq_iff_eq,List.all_eq_true,List.contains_eq_mem,decide_eq_true_eq,List.mem_cons,List.not_mem_nil,or_false] at hr;obtain ⟨⟨⟨⟨⟨hmem,hin⟩,hqi⟩,hqj⟩,hei⟩,hej⟩:=hr;cases f with
   | zero=>omega
   | succ f=>
     have hge:∀x:Nat,ops.toList[x]?=ops[x]?:=λx=>by simp
     refine ⟨λh0=>absurd (hin i (.inl rfl)) (by rw[h0];simp),λx hx=>?_⟩;rcases hmem x hx with rfl|rfl
     ·rw[hqi,<- hge];exact evAt_mono (λs hs=>ihi f _ s hei (hd'.step hx) (by omega) hs) hK.1
     ·rw[hqj,<- hge];exact evAt_mono (λs hs=>ihj f _ s hej (hd'.step hx) (by omega) hs) hK.2
 | forkq3 pre i qi ri j qj rj k qk rk ihi ihj ihk=>
   intro f listed st he hd hl h;refine eagerK_sound (m:=1+max (max ri.len rj.len) rk.len) (λf L s hr hd' hm hK=>?_) pre f listed st he hd hl h;simp only[Bool.and_eq_true,beq_iff_eq,List.all_eq_true,List.contains_eq_mem,decide_eq_true_eq,List.mem_cons,List.not_mem_nil,or_false] at hr;obtain ⟨⟨⟨⟨⟨⟨⟨hmem,hin⟩,hqi⟩,hqj⟩,hqk⟩,hei⟩,hej⟩,hek⟩:=hr;cases f with
   | zero=>omega
   | succ f=>
     have hge:∀x:Nat,ops.toList[x]?=ops[x]?:=λx=>by simp
     refine ⟨λh0=>absurd (hin i (.inl rfl)) (by rw[h0];simp),λx hx=>?_⟩;rcases hmem x hx with rfl|rfl|rfl
     ·rw[hqi,<- hge];exact evAt_mono (λs hs=>ihi f _ s hei (hd'.step hx) (by omega) hs) hK.1
     ·rw[hqj,<- hge];exact evAt_mono (λs hs=>ihj f _ s hej (hd'.step hx) (by omega) hs) hK.2.1
     ·rw[hqk,<- hge];exact evAt_mono (λs hs=>ihk f _ s hek (hd'.step hx) (by omega) hs) hK.2.2
end
end Go.Vc
namespace Go.Vc
def exThen (next:St->Prop) (Q:Exit->St->Prop):Exit->St->Prop
 | .normal,s=>next s
 | e,s=>Q e s
def exBlk (id:Nat) (Q:Exit->St->Prop):Exit->St->Prop
 | .exit i,s=>if i=id then Q .normal s else Q (.exit i) s
 | e,s=>Q e s
def LOOP (body:(Exit->St->Prop)->St->Prop) (Q:Exit->St->Prop) (st:St):Prop:=
 ∃(ι:Type) (inv:ι->St) (μ:ι->Nat),(∃x,Ent st (inv x))/\∀x,body (exThen (λs=>∃y,Ent s (inv y)/\μ y<μ x) Q) (inv x)
@[congr] theorem LOOP_congr {body:(Exit->St->Prop)->St->Prop} {Q:Exit->St->Prop} {st st':St} {p00:Prop} (_h00:(True/\True)=p00) (h:st=st'):LOOP body Q st=LOOP body Q st':=by rw[h]
abbrev Ords:=Nat->Option OT
def evRegion (P:Program) (T:Nat->TI) (ops:List Oper):Option OT->St->(St->Prop)->Prop
 | some l,st,K=>evOT P T ops l st K
 | none,st,K=>evText P T ops ops st K
def endsCond:Code->Bool
 | .cond _ _ _=>true
 | .loop _=>true
 | .seq _ y=>endsCond y
 | .block _ c=>endsCond c
 | _=>false
@[congr] theorem evRegion_congr {P:Program} {T:Nat->TI} {ops ops':List Oper} {l l':Option OT} {st:St} {K:St->Prop} {p00:Prop} (_h00:(True/\True)=p00) (h:ops=ops') (h2:l=l') :
 evRegion P T ops l st K=evRegion P T ops' l' st K:=by rw[h,h2]
def vc (P:Program) (T:Nat->TI) (G:Ords):Code->(Exit->St->Prop)->St->Prop
 | .skip,Q,st=>Q .normal st
 | .label _,Q,st=>Q .normal st
 | .seq x y,Q,st=>vc P T G x (exThen (λs=>sq (endsCond x) (λs=>vc P T G y Q s) s) Q) st
 | .cond c x y,Q,st=>hBool (st.ev c) λb=>VIF b (vc P T G x Q st) (vc P T G y Q st)
 | .block id c,Q,st=>vc P T G c (exBlk id Q) st
 | .exit id,Q,st=>Q (.exit id) st
 | .ret,Q,st=>Q .ret st
 | .loop c,Q,st=>LOOP (λQ s=>vc P T G c Q s) Q st
 | .region id ops _,Q,st=>evRegion P T ops.toList (G id) st λs=>Q .normal s
 | _,_,_=>False
def okRegion (n:Nat) (ops:Array Oper) (draw:Bool) (l:Option OT):Bool:=
 ops.toList.all (λo=>match o.dst with|some d=>decide (d<n)|none=>true) &&
  match draw,l with
  | false,none=>true
  | false,some (.lin l)=>l.map (·.1)==List.range ops.size
  | true,some l=>decide (l.len<=ops.size)&&eagerT .any ops l.quiet l (Array.replicate ops.size false)
  | _,_=>false
def okCode (n:Nat) (G:Ords):Code->Bool
 | .skip | .label _ | .exit _ | .ret=>true
 | .seq x y=>okCode n G x&&okCode n G y
 | .cond _ x y=>okCode n G x&&okCode n G y
 | .block _ c=>okCode n G c
 | .loop c=>okCode n G c
 | .region id ops d=>okRegion n ops d (G id)
 | _=>false
section
variable {P:Program} {T:Nat->TI} {F:Fr} {n:Nat}
theorem least {S:Nat->Prop} (h:∃k,S k):∃k,S k/\∀j,S j->k<=j:=by
 obtain ⟨k,hk⟩:=h
 induction k using Nat.strongRecOn with
 | _ k ih=>
   by_cases h:∃j,j<k/\S j
   ·obtain ⟨j,h1,h2⟩:=h;exact ih j h1 h2
   ·exact ⟨k,hk,λj hj=>by
     rcases Nat.lt_or_ge j k with h'|h'
     ·exact absurd ⟨j,h',hj⟩ h
     ·exact h'⟩
theorem wp_loop_ix {c:Code} {Q:Exit->Act->World->Prop} {a:Act} {w:World} {ι:Type} (J:ι->Act->World->Prop) (m:ι->Nat) {x0:ι} (h0:J x0 a w)
 (round:∀x a w,J x a w->c.wp P (Exit.then (λa' w'=>∃y,J y a' w'/\m y<m x) Q) a w):(Code.loop c).wp P Q a w:=by
 have hmin:∀a w,(∃x,J x a w)->∃k,(∃x,J x a w/\m x=k)/\∀j,(∃x,J x a w/\m x=j)->k<=j:=λa w ⟨x,hx⟩=>least ⟨m x,x,hx,rfl⟩
 let μ:Act->World->Nat:=λa w=>open Classical in if h:∃x,J x a w then (hmin a w h).choose else 0
 refine wp_loop (λa w=>∃x,J x a w) μ ⟨x0,h0⟩ λa w hI=>?_;have hμ:μ a w=(hmin a w hI).choose:=by simp only[μ];exact dif_pos hI
 obtain ⟨⟨x,hx,hk⟩,hle⟩:=(hmin a w hI).choose_spec;refine wp_mono (round x a w hx) λe a' w' h=>?_;cases e with
 | normal=>
   obtain ⟨y,hy,hlt⟩:=h;have hI':∃x,J x a' w':=⟨y,hy⟩;refine ⟨hI',?_⟩;have hμ':μ a' w'=(hmin a' w' hI').choose:=by simp only[μ];exact dif_pos hI'
   have:=(hmin a' w' hI').choose_spec.2 (m y) ⟨y,hy,rfl⟩;rw[hμ,hμ',<- hk];omega
 | _=>exact h
theorem evSel_text (ops:Array Oper) {K:St->Prop}:∀(l:Ord) (k:Nat) (st:St),l.map (·.1)=List.range' k (ops.size-k)->evSel P T ops.toList l st K ->
 evText P T ops.toList (ops.toList.drop k) st K:=by
 intro l
 induction l with
 | nil=>
   intro k st hl h;have:ops.size-k=0:=by have:=congrArg List.length hl;simpa using this.symm
   rw[List.drop_of_length_le (by simp;omega)];exact h
 | cons x r ih=>
   intro k st hl h;obtain ⟨i,im,sp,q⟩:=x;have hk:0<ops.size-k:=by have:=congrArg List.length hl;simp at this;omega
   obtain ⟨m,hm⟩:∃m,ops.size-k=m+1:=⟨_,(Nat.sub_add_cancel hk).symm⟩;rw[hm,List.range'_succ,List.map_cons,List.cons.injEq] at hl;obtain ⟨rfl,hl⟩:=hl;have hk':i<ops.toList.length:=by simp;omega
   rw[List.drop_eq_getElem_cons hk'];have h':=evAt_text (evAt_sp (show evAt P T ops.toList im sp q ops.toList[i]? st _ from h));rw[List.getElem?_eq_getElem hk'] at h';refine evAt_mono (λs hs=>sq_of (ih (i+1) s ?_ hs)) h';rw[hl];congr 1;omega
theorem okRegion_dst {ops:Array Oper} {d:Bool} {l:Option OT} (h:okRegion n ops d l=true):∀j t,gd ops.toList j=some t->t<n:=by
 intro j t hj;simp only[okRegion,Bool.and_eq_true,List.all_eq_true] at h;unfold gd at hj;cases ho:ops.toList[j]? with
 | none=>rw[ho] at hj;cases hj
 | some o=>
   rw[ho] at hj;have:=h.1 o (List.mem_of_getElem? ho);simp only[Option.bind_some] at hj;rw[hj] at this;simpa using this
theorem region_sound (hT:TabOk P T) (hE:∀t e,(T t).k=.slice e->(T e).k.known=true) (hF:∀i,F.O0 i≠none->i=0) {id:Nat} {ops:Array Oper} {d:Bool} {l:Option OT} {st:St} {a:Act} {w:World}
 {K:St->Prop} {Q:Exit->Act->World->Prop} (hok:okRegion n ops d l=true) (h:evRegion P T ops.toList l st K) (R:Rep F n st a w) (hQ:∀st' a' w',Rep F n st' a' w'->K st'->Q .normal a' w') :
 (Code.region id ops d).wp P Q a w:=by
 have hn:=okRegion_dst hok;simp only[okRegion,Bool.and_eq_true] at hok;have text:evText P T ops.toList ops.toList st K->(Code.region id ops false).wp P Q a w:=λh=>by refine wp_region ?_;have:=evText_sound hT hE hF (ops:=ops) (n:=n) (F:=F) hn hQ 0 st a w (by simpa using h) R;rw[List.range_eq_range'];simpa using this
 cases d with
 | false=>
   cases l with
   | none=>exact text h
   | some l=>
     cases l with
     | fork pre i ri j rj=>exact absurd hok.2 (by simp)
     | fork3 pre i ri j rj k rk=>exact absurd hok.2 (by simp)
     | fork4 pre i ri j rj k rk l rl=>exact absurd hok.2 (by simp)
     | forkq pre i qi ri j qj rj=>exact absurd hok.2 (by simp)
     | forkq3 pre i qi ri j qj rj k qk rk=>exact absurd hok.2 (by simp)
     | lin l=>
       refine text ?_;have h2:l.map (·.1)=List.range ops.size:=(by simpa using hok.2);have:=evSel_text (P:=P) (T:=T) ops l 0 st (by rw[h2,List.range_eq_range'];simp) h;simpa using this
 | true=>
   cases l with
   | none=>exact absurd hok.2 (by simp)
   | some l=>
     have h2:=hok.2;simp only[Bool.and_eq_true,decide_eq_true_eq] at h2;refine wp_region_any hT.mixed ?_;refine evAny_sound hT hE (F:=F) (n:=n) (K:=K) hn hQ _ _ st _ _ (eagerT_sound l ops.size _ st h2.2 (λj o _ hj=>by simp[Array.getD_eq_getD_getElem?,Array.getElem?_replicate] at hj;split at hj<;>cases hj) h2.1 h) ?_;exact R.of_heap rfl rfl rfl rfl
theorem vc_sound (hT:TabOk P T) (hE:∀t e,(T t).k=.slice e->(T e).k.known=true) (hF:∀i,F.O0 i≠none->i=0) {G:Ords}:∀(c:Code) (st:St) (Q:Exit->St->Prop) (Q':Exit->Act->World->Prop) (a:Act) (w:World),
 okCode n G c=true->vc P T G c Q st->Rep F n st a w->(∀e st' a' w',Rep F n st' a' w'->Q e st'->Q' e a' w')->c.wp P Q' a w:=by
 intro c
 induction c with
 | skip=>exact λst Q Q' a w ok h R hq=>wp_skip (hq _ _ _ _ R h)
 | label l=>exact λst Q Q' a w ok h R hq=>wp_label (hq _ _ _ _ R h)
 | exit id=>exact λst Q Q' a w ok h R hq=>wp_exit (hq _ _ _ _ R h)
 | ret=>exact λst Q Q' a w ok h R hq=>wp_ret (hq _ _ _ _ R h)
 | seq x y ihx ihy=>
   intro st Q Q' a w ok h R hq;simp only[okCode,Bool.and_eq_true] at ok;refine wp_seq (ihx st _ _ a w ok.1 h R λe st' a' w' R' h'=>?_);cases e with
   | normal=>
     have h2:∃s',Ent st' s'/\vc P T G y Q s':=by
      change sq (endsCond x) _ st' at h';cases hb:endsCond x with
      | true=>rw[hb] at h';obtain ⟨s',he,h3⟩:=h';exact ⟨s',he,h3⟩
      | false=>rw[hb] at h';exact ⟨st',.refl _,h'⟩
     obtain ⟨s',he,h3⟩:=h2;exact ihy s' Q Q' a' w' ok.2 h3 (he F n a' w' hF R') hq
   | _=>exact hq _ _ _ _ R' h'
 | cond c x y ihx ihy=>
   intro st Q Q' a w ok h R hq;simp only[okCode,Bool.and_eq_true] at ok;simp only[vc] at h;obtain ⟨b,hb,h⟩:=hBool_inv h;have hc:a.eval c=.bool b:=by obtain ⟨φ,H,hr⟩:=R.rep;have:=rv_ev (a:=a) hr c;rw[hb] at this;exact inv_pr this
   exact wp_cond_split hc (λhb=>ihx st Q Q' a w ok.1 (h.1 hb) R hq) (λhb=>ihy st Q Q' a w ok.2 (h.2 hb) R hq)
 | block id c ih=>
   intro st Q Q' a w ok h R hq;refine wp_block (ih st _ _ a w ok h R λe st' a' w' R' h'=>?_);cases e with
   | exit i=>
     simp only[exBlk,Exit.inBlock] at *;split
     ·rename_i hi;rw[if_pos hi] at h';exact hq _ _ _ _ R' h'
     ·rename_i hi;rw[if_neg hi] at h';exact hq _ _ _ _ R' h'
   | _=>exact hq _ _ _ _ R' h'
 | loop c ih=>
   intro st Q Q' a w ok h R hq;obtain ⟨ι,inv,μ,⟨x0,h0⟩,hbody⟩:=h;refine wp_loop_ix (λx a w=>Rep F n (inv x) a w) μ (h0 _ _ _ _ hF R) λx a w R=>?_;refine ih (inv x) _ _ a w ok (hbody x) R λe st' a' w' R' h'=>?_;cases e with
   | normal=>obtain ⟨y,hy,hlt⟩:=h';exact ⟨y,hy _ _ _ _ hF R',hlt⟩
   | _=>exact hq _ _ _ _ R' h'
 | region id ops d=>
   intro st Q Q' a w ok h R hq;exact region_sound hT hE hF ok h R λst' a' w' R' h'=>hq _ _ _ _ R' h'
 | _=>intro st Q Q' a w ok;cases ok
theorem evAt_mono' {ops:List Oper} {im:Option Bool} {sp q:Bool} {x:Option Oper} {st:St} {K K':St->Prop} (m:∀s,K s->K' s) (h:evAt P T ops im sp q x st K):evAt P T ops im sp q x st K':=by
 cases x with
 | none=>exact m _ h
 | some o=>exact evG_mono (λh=>⟨h.1,evOp_mono (λs=>qK_mono λk=>(SPd_iff ..).2 (m _ ((SPd_iff ..).1 k))) h.2⟩) (m _) h
theorem evSel_mono {ops:List Oper} {l:Ord} {st:St} {K K':St->Prop} (m:∀s,K s->K' s) (h:evSel P T ops l st K):evSel P T ops l st K':=by
 induction l generalizing st with
 | nil=>exact m _ h
 | cons x r ih=>obtain ⟨i,im,sp,q⟩:=x;exact evAt_mono' (λs hs=>ih hs) h
theorem evOT_mono {ops:List Oper}:∀{t:OT} {st:St} {K K':St->Prop} (_:∀s,K s->K' s),evOT P T ops t st K->evOT P T ops t st K'
 | .lin l,_,_,_,m,h=>evSel_mono m h
 | .fork pre i ri j rj,_,_,_,m,h=>evSel_mono (l:=pre) (λs hs=>⟨evAt_mono' (λs hs=>evOT_mono (t:=ri) m hs) hs.1,evAt_mono' (λs hs=>evOT_mono (t:=rj) m hs) hs.2⟩) h
 | .fork3 pre i ri j rj k rk,_,_,_,m,h=>evSel_mono (l:=pre) (λs hs=>⟨evAt_mono' (λs hs=>evOT_mono (t:=ri) m hs) hs.1,evAt_mono' (λs hs=>evOT_mono (t:=rj) m hs) hs.2.1,evAt_mono' (λs hs=>evOT_mono (t:=rk) m hs) hs.2.2⟩) h
 | .fork4 pre i ri j rj k rk l rl,_,_,_,m,h=>evSel_mono (l:=pre) (λs hs=>⟨evAt_mono' (λs hs=>evOT_mono (t:=ri) m hs) hs.1,evAt_mono' (λs hs=>evOT_mono (t:=rj) m hs) hs.2.1,evAt_mono' (λs hs=>evOT_mono (t:=rk) m hs) hs.2.2.1,evAt_mono' (λs hs=>evOT_mono (t:=rl) m hs) hs.2.2.2⟩) h
 | .forkq pre i qi ri j qj rj,_,_,_,m,h=>evSel_mono (l:=pre) (λs hs=>⟨evAt_mono' (λs hs=>evOT_mono (t:=ri) m hs) hs.1,evAt_mono' (λs hs=>evOT_mono (t:=rj) m hs) hs.2⟩) h
 | .forkq3 pre i qi ri j qj rj k qk rk,_,_,_,m,h=>evSel_mono (l:=pre) (λs hs=>⟨evAt_mono' (λs hs=>evOT_mono (t:=ri) m hs) hs.1,evAt_mono' (λs hs=>evOT_mono (t:=rj) m hs) hs.2.1,evAt_mono' (λs hs=>evOT_mono (t:=rk) m hs) hs.2.2⟩) h
theorem evText_mono {ops l:List Oper} {st:St} {K K':St->Prop} (m:∀s,K s->K' s) (h:evText P T ops l st K):evText P T ops l st K':=by
 induction l generalizing st with
 | nil=>exact m _ h
 | cons x r ih=>exact evAt_mono' (λs hs=>sq_mono (b:=callNext r) (K:=λs=>evText P T ops r s K) (λs hs=>ih hs) hs) h
theorem exThen_mono {N N':St->Prop} {Q Q':Exit->St->Prop} (mn:∀s,N s->N' s) (m:∀e s,Q e s->Q' e s) (e:Exit) (s:St) (h:exThen N Q e s):exThen N' Q' e s:=by
 cases e with
 | normal=>exact mn _ h
 | _=>exact m _ _ h
theorem vc_mono {G:Ords}:∀(c:Code) {st:St} {Q Q':Exit->St->Prop} (_:∀e s,Q e s->Q' e s),vc P T G c Q st->vc P T G c Q' st:=by
 intro c
 induction c with
 | skip=>exact λm h=>m _ _ h
 | label l=>exact λm h=>m _ _ h
 | exit id=>exact λm h=>m _ _ h
 | ret=>exact λm h=>m _ _ h
 | seq x y ihx ihy=>exact λm h=>ihx (exThen_mono (λs=>sq_mono λs=>ihy m) m) h
 | cond c x y ihx ihy=>
   intro st Q Q' m h;simp only[vc] at h ⊢;obtain ⟨b,hb,h⟩:=hBool_inv h;rw[hb];exact VIF.mono h (ihx m) (ihy m)
 | block id c ih=>
   intro st Q Q' m h;refine ih (λe s h=>?_) h;cases e with
   | exit i=>
     simp only[exBlk] at h ⊢;split
     ·rename_i hi;rw[if_pos hi] at h;exact m _ _ h
     ·rename_i hi;rw[if_neg hi] at h;exact m _ _ h
   | _=>exact m _ _ h
 | loop c ih=>exact λm h=>let ⟨ι,inv,μ,h0,hb⟩:=h;⟨ι,inv,μ,h0,λx=>ih (exThen_mono (λs h=>h) m) (hb x)⟩
 | region id ops d=>
   intro st Q Q' m h;simp only[vc] at h ⊢;generalize G id=l at h ⊢;cases l with
   | some l=>exact evOT_mono (λs=>m _ s) h
   | none=>exact evText_mono (λs=>m _ s) h
 | _=>intro st Q Q' m h;exact h
def JB {ι:Type} (inv:ι->St) (s:St):Prop:=∃i,Ent s (inv i)
@[congr] theorem JB_congr {ι:Type} {inv:ι->St} {s s':St} {p00:Prop} (_h00:(True/\True)=p00) (h:s=s'):JB inv s=JB inv s':=by rw[h]
theorem JB.go {ι:Type} {inv:ι->St} {K:St->Prop} (k:∀i,GOES K (inv i)) {s:St} (h:JB inv s):sq true K s:=let ⟨i,hi⟩:=h;(k i).ent hi
theorem VIF.join {G:Ords} {b:Bool} {x y:Code} {K:St->Prop} {Q:Exit->St->Prop} {st:St} {ι:Type} (inv:ι->St) (h1:b=true->vc P T G x (exThen (λs=>JB inv s) Q) st) (h2:b=false->vc P T G y (exThen (λs=>JB inv s) Q) st)
 (k:∀i,GOES K (inv i)):VIF b (vc P T G x (exThen (λs=>sq true K s) Q) st) (vc P T G y (exThen (λs=>sq true K s) Q) st):=
 ⟨λh=>vc_mono _ (exThen_mono (λ_=>JB.go k) λ_ _ h=>h) (h1 h),λh=>vc_mono _ (exThen_mono (λ_=>JB.go k) λ_ _ h=>h) (h2 h)⟩
theorem exBlk_mono {n:Nat} {Q Q':Exit->St->Prop} (m:∀e s,Q e s->Q' e s) (e:Exit) (s:St) (h:exBlk n Q e s):exBlk n Q' e s:=by
 cases e with
 | exit i=>
   simp only[exBlk] at h ⊢;split at h
   ·rename_i e;rw[if_pos e];exact m _ _ h
   ·rename_i e;rw[if_neg e];exact m _ _ h
 | _=>exact m _ _ h
theorem LOOP.join {G:Ords} {n:Nat} {c:Code} {K:St->Prop} {Q:Exit->St->Prop} {st:St} {ι:Type} (inv:ι->St) (h:LOOP (λQ s=>vc P T G c Q s) (exBlk n (exThen (λs=>JB inv s) Q)) st)
 (k:∀i,GOES K (inv i)):LOOP (λQ s=>vc P T G c Q s) (exBlk n (exThen (λs=>sq true K s) Q)) st:=by
 obtain ⟨ι',I,μ,h0,h⟩:=h;exact ⟨ι',I,μ,h0,λx=>vc_mono c (exThen_mono (λ_ h=>h) (exBlk_mono (exThen_mono (λ_=>JB.go k) λ_ _ h=>h))) (h x)⟩
theorem evRegion_mono {ops:List Oper} {l:Option OT} {st:St} {K K':St->Prop} (m:∀s,K s->K' s) (h:evRegion P T ops l st K):evRegion P T ops l st K':=by
 cases l with
 | some l=>exact evOT_mono m h
 | none=>exact evText_mono m h
theorem evRegion.join {G:Ords} {ops:List Oper} {l:Option OT} {st:St} {b1:Bool} {c:Code} {K:St->Prop} {Q:Exit->St->Prop} {ι:Type} (inv:ι->St)
 (h:evRegion P T ops l st (λs=>exThen (λs=>sq b1 (λs=>vc P T G c (exThen (λs=>JB inv s) Q) s) s) (exThen (λs=>JB inv s) Q) .normal s)) (k:∀i,GOES K (inv i)) :
 evRegion P T ops l st (λs=>exThen (λs=>sq b1 (λs=>vc P T G c (exThen (λs=>sq true K s) Q) s) s) (exThen (λs=>sq true K s) Q) .normal s):=
 evRegion_mono (λs h=>sq_mono (K:=λs=>vc P T G c (exThen (λs=>JB inv s) Q) s) (λs h=>vc_mono _ (exThen_mono (λ_=>JB.go k) λ_ _ h=>h) h) h) h
def startR:Nat->List AV->Nat->AV
 | _,[],_=>.un
 | n,x::r,t=>if t=n then x else startR (n+1) r t
theorem startR_get (l:List AV) (n t:Nat):startR n l (n+t)=(l[t]?).getD .un:=by
 induction l generalizing n t with
 | nil=>simp[startR]
 | cons x r ih=>
   simp only[startR];cases t with
   | zero=>simp
   | succ t=>
     rw[if_neg (by omega),show n+(t+1)=(n+1)+t by omega,ih];simp
theorem startR_nil (n:Nat):startR n []=λ_=>.un:=by funext t;simp[startR]
theorem startR_cons (n:Nat) (x:AV) (r:List AV):startR n (x::r)=upd (startR (n+1) r) n x:=by
 funext t
 simp only[startR,upd];by_cases h:t=n
 ·subst h;simp
 ·rw[if_neg h,if_neg (λe=>h e.symm)]
def resAV (T:Nat->TI) (st:St):List ResultVar->List AV->(List AV->Prop)->Prop
 | [],acc,K=>K acc.reverse
 | .tmp t::r,acc,K=>resAV T st r (st.regs t::acc) K
 | .cell a t::r,acc,K=>hLoad T st.objs t (st.regs a) λv=>resAV T st r (v::acc) K
@[congr] theorem resAV_congr {T:Nat->TI} {st st':St} {l:List ResultVar} {acc acc':List AV} {K:List AV->Prop} {p00:Prop} (_h00:(True/\True)=p00) (h:st=st') (h2:acc=acc'):resAV T st l acc K=resAV T st' l acc' K:=by rw[h,h2]
def hOne:List AV->(AV->Prop)->Prop
 | [v],K=>K v
 | vs,K=>K (.tu vs)
@[congr] theorem hOne_congr {l l':List AV} {K:AV->Prop} {p00:Prop} (_h00:(True/\True)=p00) (h:l=l'):hOne l K=hOne l' K:=by rw[h]
theorem hOne_one (v:AV) (K:AV->Prop):hOne [v] K=K v:=rfl
theorem hOne_nil (K:AV->Prop):hOne [] K=K (.tu []):=rfl
theorem hOne_two (v u:AV) (l:List AV) (K:AV->Prop):hOne (v::u::l) K=K (.tu (v::u::l)):=rfl
def hRes (T:Nat->TI) (st:St) (l:List ResultVar) (K:AV->Prop):Prop:=resAV T st l [] λvs=>hOne vs K
def Ent0 (O0:Nat->Option Ob) (st st':St):Prop:=∀(F:Fr) (n:Nat) (a:Act) (w:World),F.O0=O0->Rep F n st a w->Rep F n st' a w
def FIN (T:Nat->TI) (O0:Nat->Option Ob) (l:List ResultVar) (K:AV->(Nat->Option Ob)->Prop) (st:St):Prop:=∃st',Ent0 O0 st st'/\hRes T st' l λv=>K v st'.objs
def fnPost (T:Nat->TI) (O0:Nat->Option Ob) (l:List ResultVar) (K:AV->(Nat->Option Ob)->Prop):Exit->St->Prop
 | .normal,st=>FIN T O0 l K st
 | .ret,st=>FIN T O0 l K st
 | _,_=>False
def resVar (tmps:Array Value):ResultVar->Sem Value
 | .tmp t=>pure (tmps.getD t undef)
 | .cell b t=>do loadVar t (<- asAddr (tmps.getD b undef))
theorem results_eq (fn:Func) (tmps:Array Value):results fn tmps=(do let vs <- fn.results.mapM (resVar tmps);pure (if h:vs.size=1 then vs[0] else .tuple vs)):=by unfold results;congr 2
theorem resAV_spec (hT:TabOk P T) {st:St} {a:Act} {w:World} {φ:Nat->Option (Nat×Nat)} (H:RepH F φ st.objs (·∈st.used) w) (hr:∀t,RV F φ st w (a.tmps.getD t undef) (st.regs t)) {K:List AV->Prop} :
 ∀(l:List ResultVar) (acc:List AV),resAV T st l acc K->∃(vs:List Value) (avs:List AV),(l.mapM (resVar a.tmps)).run P w=.ok vs w /\
  vs.length=avs.length/\K (acc.reverse++avs)/\∀(j:Nat) (av:AV),avs[j]?=some av->RV F φ st w (vs.getD j undef) av:=by
 intro l
 induction l with
 | nil=>intro acc h;exact ⟨[],[],by simp,rfl,by simpa [resAV] using h,by simp⟩
 | cons x r ih=>
   intro acc h
   have step:∀(v:Value) (av:AV),RV F φ st w v av->(resVar a.tmps x).run P w=.ok v w->resAV T st r (av::acc) K ->
    ∃(vs:List Value) (avs:List AV),((x::r).mapM (resVar a.tmps)).run P w=.ok vs w /\
     vs.length=avs.length/\K (acc.reverse++avs)/\∀(j:Nat) (av:AV),avs[j]?=some av->RV F φ st w (vs.getD j undef) av:=by
    intro v av h1 h2 h3;obtain ⟨vs,avs,g1,g2,g3,g4⟩:=ih _ h3;refine ⟨v::vs,av::avs,?_,by simp[g2],by simpa using g3,λj bv hj=>?_⟩
    ·rw[List.mapM_cons,Sem.run_bind,h2,Result.andThen_ok,Sem.run_bind,g1];rfl
    ·cases j with
     | zero=>simp at hj;subst hj;simpa using h1
     | succ j=>simpa using g4 j bv (by simpa using hj)
   cases x with
   | tmp t=>exact step _ _ (hr t) rfl h
   | cell b t=>
     obtain ⟨v,av,h1,h2,h3⟩:=hLoad_yields (P:=P) hT H (show hLoad T st.objs t (st.regs b) λv=>resAV T st r (v::acc) K from h) (hr b);refine step v av h2 ?_ h3;unfold Instr.loadAt at h1;show ((do loadVar t (<- asAddr (a.tmps.getD b undef)):Sem Value).run P w)=_;generalize a.tmps.getD b undef=u at h1 ⊢;cases u with
     | pointer x=>cases x with
       | some x=>exact h1
       | none=>simp[Instr.sureAddr,stuck,Sem.run] at h1
     | _=>simp[Instr.sureAddr,stuck,Sem.run] at h1
theorem hRes_spec (hT:TabOk P T) {st:St} {a:Act} {w:World} {φ:Nat->Option (Nat×Nat)} (H:RepH F φ st.objs (·∈st.used) w) (hr:∀t,RV F φ st w (a.tmps.getD t undef) (st.regs t)) {K:AV->Prop} {fn:Func}
 (h:hRes T st fn.results.toList K):∃(v:Value) (av:AV),(results fn a.tmps).run P w=.ok v w/\K av/\RV F φ st w v av:=by
 obtain ⟨vs,avs,h1,h2,h3,h4⟩:=resAV_spec (P:=P) hT H hr fn.results.toList [] h;have hm:(results fn a.tmps).run P w=.ok (if h:vs.toArray.size=1 then vs.toArray[0] else .tuple vs.toArray) w:=by rw[results_eq,Array.mapM_eq_mapM_toList,Sem.run_bind,Sem.run_map,h1];rfl
 simp only[List.reverse_nil,List.nil_append] at h3;refine ⟨(if h:vs.toArray.size=1 then vs.toArray[0] else .tuple vs.toArray),?_⟩
 match avs,h3,h2,h4 with
 | [av],h3,h2,h4=>
   obtain ⟨v,rfl⟩:∃v,vs=[v]:=by
    match vs,h2 with
    | [v],_=>exact ⟨v,rfl⟩
   exact ⟨av,hm,h3,by simpa using h4 0 av rfl⟩
 | [],h3,h2,h4=>
   have:vs=[]:=List.eq_nil_of_length_eq_zero h2;subst this;exact ⟨.tu [],hm,h3,.tu (by simp) (by simp)⟩
 | x::y::r,h3,h2,h4=>
   refine ⟨.tu (x::y::r),hm,h3,?_⟩;have hne:¬vs.toArray.size=1:=by simp at h2 ⊢;omega
   rw[dif_neg hne];refine .tu (by simpa using h2) λj av hj=>?_;have:=h4 j av hj;simpa [Array.getD_eq_getD_getElem?,List.getD_eq_getElem?_getD] using this
theorem start_rep {φ:Nat->Option (Nat×Nat)} {args:List AV} {O:Nat->Option Ob} {U:List Nat} {w:World} {vs:Array Value} (H:RepH F φ O (·∈U) w) (hs:vs.size=args.length) (ha:args.length<=n)
 (hv:∀(j:Nat) (av:AV),args[j]?=some av->RepV φ O (·∈U) w.heap (SS F φ O w) (vs.getD j undef) av):Rep F n ⟨startR 0 args,O,U⟩ {tmps:=vs++Array.replicate (n-vs.size) undef,defers:=[]} w:=by
 refine ⟨by simp;omega,rfl,φ,H,λt=>?_⟩;have hst:=startR_get args 0 t;rw[Nat.zero_add] at hst;show RepV φ O (·∈U) w.heap (SS F φ O w) ((vs++Array.replicate (n-vs.size) undef).getD t undef) (startR 0 args t);rw[hst];by_cases ht:t<args.length
 ·have:=hv t args[t] (List.getElem?_eq_getElem ht);rw[List.getElem?_eq_getElem ht];have hlt:t<vs.size:=(by omega);simp only[Array.getD_eq_getD_getElem?,Array.getElem?_append,hlt,if_true] at this ⊢;exact this
 ·rw[List.getElem?_eq_none (by omega)];exact .un _
theorem funspec_of_vc (hT:TabOk P T) (hE:∀t e,(T t).k=.slice e->(T e).k.known=true) (G:Ords) {f:Nat} {fn:Func} {c:Code} {rl:List ResultVar} {args:List AV} {O:Nat->Option Ob} {U:List Nat} {R:AV->(Nat->Option Ob)->Prop}
 (hf : P.funcs[f]? = some fn) (hb : fn.body = some c) (hr : fn.results.toList = rl) (hok : (okCode fn.ntmps G c && !(fn.name == "runtime.NumGoroutine")) = true) (ha : Nat.ble args.length fn.ntmps = true)
 (h0:∀i,O i≠none->i=0) (h:vc P T G c (fnPost T O rl R) ⟨startR 0 args,O,U⟩):FunSpec P f args O U R:=by
 subst hr;simp only[Bool.and_eq_true,Bool.not_eq_true'] at hok;obtain ⟨hok,hname⟩:=hok;have ha:=Nat.le_of_ble_eq_true ha;refine ⟨⟨fn,hf,hname,by rw[hb];rfl⟩,λF φ w vs h1 h2 h3 H hs hv=>?_⟩;refine calls_of_wp hf hb ?_;have R0:Rep F fn.ntmps ⟨startR 0 args,O,U⟩ {tmps:=vs++Array.replicate (fn.ntmps-vs.size) undef,defers:=[]} w:=start_rep H hs ha hv;refine vc_sound hT hE (λi hi=>h0 i (by rw[<- h2];exact hi)) c _ _ _ _ _ hok h R0 λe st1 a' w' R1 h'=>?_
 have fin:FIN T O fn.results.toList R st1->a'.defers=[]/\∃v,(results fn a'.tmps).run P w'=.ok v w'/\∃(v_1:Value) (r:AV) (O':Nat->Option Ob) (φ':Nat->Option (Nat×Nat)) (U':List Nat),
  Ending.returned v=.returned v_1/\R r O'/\RepH F φ' O' (·∈U') w'/\RepV φ' O' (·∈U') w'.heap (SS F φ' O' w') v_1 r:=λ⟨st',hent,hh⟩=>by
  obtain ⟨hsz,hdf,φ',H',hr'⟩:=hent F _ _ _ h2 R1;obtain ⟨v,av,g1,g2,g3⟩:=hRes_spec (P:=P) hT H' hr' hh;exact ⟨hdf,v,g1,v,av,st'.objs,φ',st'.used,rfl,g2,H',g3⟩
 cases e with
 | normal=>exact fin h'
 | ret=>exact fin h'
 | _=>exact False.elim h'
end
end Go.Vc
namespace Go.Vc
abbrev Nm:=Nat->Option (Option Nat)
def nms:List (Nat×Option Nat)->Nm
 | [],_=>none
 | (a,b)::r,x=>if a=x then some b else nms r x
def olds:List (Nat×Option Nat)->List Nat
 | []=>[]
 | (_,some b)::r=>b::olds r
 | (_,none)::r=>olds r
def wk (st:St) (m:List (Nat×Option Nat)):AV->AV->Prop
 | _,.un=>True
 | .rf i off len,.rf i' off' len'=>nms m i'=some (some i)/\off=off'/\len=len'
 | .nl,.rf i' off' len'=>nms m i'=some none/\off'=0/\len'=0
 | .pt i j off,.pt i' j' off'=>nms m i'=some (some i)/\j=j'/\off=off'
 | .rf i off len,.im sz es=>i∉olds m/\∃o,st.objs i=some o/\o.leafy/\o.sz=sz/\(o.es.drop off).take len=es
 | .pt i j off,.ro cs off'=>i∉olds m/\off=off'/\∃o,st.objs i=some o/\o.leafy/\o.es[j]?=some cs
 | .nl,.im _ es=>es=[]
 | .im s e,.im s' e'=>s=s'/\e=e'
 | .ag cs,.ag cs'=>wks st m cs cs'
 | .tu cs,.tu cs'=>wks st m cs cs'
 | .fn f cs,.fn f' cs'=>f=f'/\wks st m cs cs'
 | .ro cs off,.ro cs' off'=>cs=cs'/\off=off'
 | .pr v,.pr v'=>v=v'
 | .nl,.nl=>True
 | _,_=>False
where
 wks (st:St) (m:List (Nat×Option Nat)):List AV->List AV->Prop
 | [],[]=>True
 | x::r,y::r'=>wk st m x y/\wks st m r r'
 | _,_=>False
theorem wks_get {st:St} {m:List (Nat×Option Nat)} {l l':List AV} (h:wk.wks st m l l'):l.length=l'.length/\∀(j:Nat) (y:AV),l'[j]?=some y->∃x,l[j]?=some x/\wk st m x y:=by
 induction l generalizing l' with
 | nil=>cases l' with
   | nil=>exact ⟨rfl,by simp⟩
   | cons y r'=>exact False.elim (by simp[wk.wks] at h)
 | cons x r ih=>
   cases l' with
   | nil=>exact False.elim (by simp[wk.wks] at h)
   | cons y r'=>
     simp only[wk.wks] at h;obtain ⟨h1,h2⟩:=ih h.2;refine ⟨by simp[h1],λj z hj=>?_⟩;cases j with
     | zero=>simp at hj;subst hj;exact ⟨x,rfl,h.1⟩
     | succ j=>simpa using h2 j z (by simpa using hj)
theorem nms_olds {m:List (Nat×Option Nat)} {a b:Nat} (h:nms m a=some (some b)):b∈olds m:=by
 induction m with
 | nil=>cases h
 | cons x r ih=>
   obtain ⟨c,d⟩:=x;simp only[nms] at h;split at h
   ·cases h;simp[olds]
   ·cases d with
    | none=>exact ih h
    | some d=>exact List.mem_cons_of_mem _ (ih h)
section
variable {F:Fr} {φ φ':Nat->Option (Nat×Nat)} {st st':St} {w:World} {m:List (Nat×Option Nat)}
theorem frozen_im (H:RepH F φ st.objs (·∈st.used) w) {S':Nat->Prop} (hS:∀β,SS F φ st.objs w β->S' β/\w.heap[β]?=w.heap[β]?) {i off len:Nat} {o:Ob} {v:Value} (ho:st.objs i=some o) (hl:o.leafy)
 (hSi:∀β b,φ i=some (β,b)->S' β) (g:RfOk φ w.heap o i off len v):RdI w.heap S' v (.im o.sz ((o.es.drop off).take len)):=by
 obtain ⟨g1,g2⟩:=g;have hlen:((o.es.drop off).take len).length=len:=by simp;omega
 rcases g2 with ⟨rfl,a,rfl⟩|⟨β,b,cap,c,e,fz,k1,k2,rfl,k4,k5⟩
 ·simp only[List.take_zero];exact .im0 _ _ _
 ·obtain ⟨hel,c',e',fz',hb,_,_,hc⟩:=ob_at H ho k1;rw[k2] at hb;cases hb;have hcell:∀i j av,cellAt ((o.es.drop off).take len) i j=some av->cellAt o.es (off+i) j=some av:=by
   intro i j av hij;simp only[cellAt,List.getElem?_take,List.getElem?_drop] at hij ⊢;split at hij
   ·exact hij
   ·cases hij
  have hex:∀i j av,cellAt ((o.es.drop off).take len) i j=some av->∃u,c[b+off*o.sz+i*o.sz+j]?=some u/\RdI w.heap S' u av:=by intro i j av hij;obtain ⟨u,m1,_,m3⟩:=hc _ _ _ (hcell i j av hij);refine ⟨u,?_,(leaf_rd m3 (leafy_get hl (hcell i j av hij))).mono hS⟩;rw[Nat.add_mul,<- Nat.add_assoc] at m1;exact m1
  have hfin:=RdI.im (h:=w.heap) (S:=S') (β:=β) (o:=b+off*o.sz) (cap:=cap) (sz:=o.sz) (c:=c) (e:=e) (fz:=fz) (es:=(o.es.drop off).take len) (λi j=>c.getD (b+off*o.sz+i*o.sz+j) undef)
   (hSi β b k1) k2 (by omega) (λx hx=>hel x (List.mem_of_mem_drop (List.mem_of_mem_take hx)))
   (λi j av hij=>by obtain ⟨u,m1,_⟩:=hex i j av hij;rw[Array.getD_eq_getD_getElem?,m1];rfl)
   (λi j av hij=>by obtain ⟨u,m1,m2⟩:=hex i j av hij;rw[Array.getD_eq_getD_getElem?,m1];exact m2)
  rw[hlen] at hfin;exact hfin
theorem frozen_ro (H:RepH F φ st.objs (·∈st.used) w) {S':Nat->Prop} (hS:∀β,SS F φ st.objs w β->S' β/\w.heap[β]?=w.heap[β]?) {i j off:Nat} {o:Ob} {cs:List AV} {v:Value} (ho:st.objs i=some o) (hl:o.leafy)
 (hj:o.es[j]?=some cs) (hSi:∀β b,φ i=some (β,b)->S' β) {obs':Nat->Option Ob} {U':Nat->Prop} (g:∃β b,φ i=some (β,b)/\v=.pointer (some ⟨β,b+j*o.sz+off,none⟩)):RepV φ' obs' U' w.heap S' v (.ro cs off):=by
 obtain ⟨β,b,k1,rfl⟩:=g;obtain ⟨hel,c,e,fz,hb,_,_,hc⟩:=ob_at H ho k1;have hex:∀(k:Nat) (av:AV),cs[k]?=some av->∃u,c[b+j*o.sz+k]?=some u/\RdI w.heap S' u av:=by intro k av hk;have hij:cellAt o.es j k=some av:=(by simp[cellAt,hj,hk]);obtain ⟨u,m1,m2,m3⟩:=hc j k av hij;exact ⟨u,m1,(leaf_rd m3 (leafy_get hl hij)).mono hS⟩
 exact .ro (o:=b+j*o.sz) (λk=>c.getD (b+j*o.sz+k) undef) (hSi β b k1) hb
  (λk av hk=>by obtain ⟨u,m1,_⟩:=hex k av hk;rw[Array.getD_eq_getD_getElem?,m1];rfl)
  (λk av hk=>by obtain ⟨u,m1,m2⟩:=hex k av hk;rw[Array.getD_eq_getD_getElem?,m1];exact m2)
structure Turn (zz:Bool) (st st':St) (m:List (Nat×Option Nat)):Prop where
 regs:∀t,wk st m (st.regs t) (st'.regs t)
 obs:∀i o',st'.objs i=some o'->(∃(j:Nat) (o:Ob),nms m i=some (some j)/\st.objs j=some o/\o'.sz=o.sz/\o'.es.length=o.es.length/\∀(k:Nat) (cs':List AV),o'.es[k]?=some cs'->∃cs:List AV,o.es[k]?=some cs/\wk.wks st m cs cs')\/(nms m i=some none/\o'.es=[])
 inj:∀i j k,nms m i=some (some k)->nms m j=some (some k)->i=j
 used:∀i x,nms m i=some x->i∈st'.used
 inU:∀i o',st'.objs i=some o'->i∈st'.used
 u0:zz=true->0∈st.used->0∈st'.used
 n0:zz=true->∀x,nms m 0=some x->x=some 0
theorem Turn.core {zz:Bool} (h:Turn zz st st' m) {F:Fr} {n:Nat} {a:Act} {w:World} (hF:(zz=true/\∀i,F.O0 i≠none->i=0)\/F.O0=noOb) (R:Rep F n st a w):Rep F n st' a w:=by
 obtain ⟨hs,hd,φ,H,hr⟩:=R
 let φ':Nat->Option (Nat×Nat):=λi=>match nms m i with
  | some (some j)=>φ j
  | _=>none
 have hφ:∀i j,nms m i=some (some j)->φ' i=φ j:=λi j hi=>by simp only[φ',hi]
 have hφn:∀i,nms m i=some none->φ' i=none:=λi hi=>by simp only[φ',hi]
 -- each block of an object is one of an old one
 have back:∀i o' β b,st'.objs i=some o'->φ' i=some (β,b)->∃j o,nms m i=some (some j)/\st.objs j=some o/\φ j=some (β,b):=by
  intro i o' β b ho' hb;rcases h.obs i o' ho' with ⟨j,o,h1,h2,_⟩|⟨h1,_⟩
  ·exact ⟨j,o,h1,h2,by rw[<- hφ i j h1];exact hb⟩
  ·rw[hφn i h1] at hb;cases hb
 have hS:∀β,SS F φ st.objs w β->SS F φ' st'.objs w β/\w.heap[β]?=w.heap[β]?:=by intro β hβ;refine ⟨⟨hβ.1,λi o' b ho' hb=>?_,hβ.2.2⟩,rfl⟩;obtain ⟨j,o,_,h2,h3⟩:=back i o' β b ho' hb;exact hβ.2.1 j o b h2 h3
 have hSi:∀i o,i∉olds m->st.objs i=some o->∀β b,φ i=some (β,b)->SS F φ' st'.objs w β:=by
  intro i o hi ho β b hb;refine ⟨H.lt ho hb,λk o' b' ho' hb'=>?_,λhlt=>?_⟩
  ·obtain ⟨j,oj,h1,h2,h3⟩:=back k o' β b' ho' hb';have:=H.inj i j o oj β b b' ho h2 hb h3;subst this;exact hi (nms_olds h1)
  ·rcases H.own i o β b ho hb with h'|h'
   ·exact .inr h'
   ·omega
 have hrf:∀i i' off len v,nms m i'=some (some i)->(∀o,st.objs i=some o->RfOk φ w.heap o i off len v)->∀o',st'.objs i'=some o'->RfOk φ' w.heap o' i' off len v:=by
  intro i i' off len v hn hr o' ho';rcases h.obs i' o' ho' with ⟨j,o,h1,h2,h3,h4,_⟩|⟨h1,_⟩
  ·rw[hn] at h1;cases h1;obtain ⟨g1,g2⟩:=hr o h2;refine ⟨by rw[h4];exact g1,?_⟩;rcases g2 with g2|⟨β,b,cap,c,e,fz,k1,k2,k3,k4,k5⟩
   ·exact .inl g2
   ·exact .inr ⟨β,b,cap,c,e,fz,by rw[hφ _ _ hn];exact k1,k2,by rw[h3];exact k3,k4,by rw[h3];exact k5⟩
  ·rw[hn] at h1;cases h1
 have key:∀{v:Value} {av:AV},RepV φ st.objs (·∈st.used) w.heap (SS F φ st.objs w) v av->∀av',wk st m av av'->RepV φ' st'.objs (·∈st'.used) w.heap (SS F φ' st'.objs w) v av':=by
  intro v av r
  induction r with
  | un v=>intro av' hw;cases av'<;>simp only[wk] at hw;exact .un v
  | @rd v av r=>
    intro av' hw;cases av' with
    | un=>exact .un v
    | _=>
      cases r with
      | pr v h1=>first|(simp only[wk] at hw;done)|(simp only[wk] at hw;subst hw;exact .rd (.pr _ h1))
      | nl=>
        first
         | (simp only[wk] at hw;done)
         | exact .rd .nl
         | (simp only[wk] at hw;subst hw;exact .rd (.im0 _ _ _))
         | (simp only[wk] at hw
            obtain ⟨hn,rfl,rfl⟩:=hw;refine .rf (h.used _ _ hn) ⟨none,0,rfl,λ_=>rfl⟩ λo' ho'=>?_;exact ⟨by omega,.inl ⟨rfl,none,rfl⟩⟩)
      | im0 a cap sz=>first|(simp only[wk] at hw;done)|(simp only[wk] at hw;obtain ⟨rfl,rfl⟩:=hw;exact .rd (.im0 _ _ _))
      | im vs hSb hb hcap hsz hc hr'=>first|(simp only[wk] at hw;done)|(simp only[wk] at hw;obtain ⟨rfl,rfl⟩:=hw;exact .rd (RdI.mono hS (.im vs hSb hb hcap hsz hc hr')))
      | fn g=>
        first
         | (simp only[wk] at hw;done)
         | (simp only[wk] at hw
            obtain ⟨rfl,hw⟩:=hw;obtain ⟨h1,_⟩:=wks_get hw;rename_i caps _;have:caps=[]:=List.eq_nil_of_length_eq_zero (by simpa using h1.symm);subst this;exact .rd (.fn _))
  | @rf v i off len hu hv hr'=>
    intro av' hw;cases av' with
    | un=>exact .un v
    | rf i' off' len'=>
      simp only[wk] at hw;obtain ⟨hn,rfl,rfl⟩:=hw;exact .rf (h.used _ _ hn) hv (hrf _ _ _ _ _ hn hr')
    | im sz es=>
      simp only[wk] at hw;obtain ⟨hi,o,ho,hl,rfl,rfl⟩:=hw;exact .rd (frozen_im H hS ho hl (hSi i o hi ho) (hr' o ho))
    | _=>simp only[wk] at hw
  | @pt v i j off hu hv hr'=>
    intro av' hw;cases av' with
    | un=>exact .un v
    | pt i' j' off'=>
      simp only[wk] at hw;obtain ⟨hn,rfl,rfl⟩:=hw;refine .pt (h.used _ _ hn) hv λo' ho'=>?_;rcases h.obs i' o' ho' with ⟨k,o,h1,h2,h3,h4,_⟩|⟨h1,_⟩
      ·rw[hn] at h1;cases h1;obtain ⟨β,b,k1,k2⟩:=hr' o h2;exact ⟨β,b,by rw[hφ _ _ hn];exact k1,by rw[h3];exact k2⟩
      ·rw[hn] at h1;cases h1
    | ro cs off'=>
      simp only[wk] at hw;obtain ⟨hi,rfl,o,ho,hl,hj⟩:=hw;exact frozen_ro H hS ho hl hj (hSi i o hi ho) (hr' o ho)
    | _=>simp only[wk] at hw
  | ro vs hSb hb hc hr'=>
    intro av' hw;cases av' with
    | un=>exact .un _
    | ro cs' off'=>simp only[wk] at hw;obtain ⟨rfl,rfl⟩:=hw;exact .ro vs (hS _ hSb).1 hb hc λj av hj=>(hr' j av hj).mono hS
    | _=>simp only[wk] at hw
  | ag hs' h1 hr' ih=>
    intro av' hw;cases av' with
    | un=>exact .un _
    | ag cs'=>
      simp only[wk] at hw;obtain ⟨g1,g2⟩:=wks_get hw;exact .ag (hs'.trans g1) h1 λj av hj=>by obtain ⟨x,k1,k2⟩:=g2 j av hj;exact ih j x k1 av k2
    | _=>simp only[wk] at hw
  | tu hs' hr' ih=>
    intro av' hw;cases av' with
    | un=>exact .un _
    | tu cs'=>
      simp only[wk] at hw;obtain ⟨g1,g2⟩:=wks_get hw;exact .tu (hs'.trans g1) λj av hj=>by obtain ⟨x,k1,k2⟩:=g2 j av hj;exact ih j x k1 av k2
    | _=>simp only[wk] at hw
  | fn hs' hr' ih=>
    intro av' hw;cases av' with
    | un=>exact .un _
    | fn g cs'=>
      simp only[wk] at hw;obtain ⟨rfl,hw⟩:=hw;obtain ⟨g1,g2⟩:=wks_get hw;exact .fn (hs'.trans g1) λj av hj=>by obtain ⟨x,k1,k2⟩:=g2 j av hj;exact ih j x k1 av k2
    | _=>simp only[wk] at hw
 refine ⟨hs,hd,φ',?_,λt=>key (hr t) _ (h.regs t)⟩;refine {inj:=?_,inU:=h.inU,ob:=?_,own:=?_,below:=H.below,size:=H.size,os:=H.os,tape:=H.tape,output:=H.output,idsU:=?_,keep0:=?_}
 ·intro i j oi oj β bi bj hi hj hbi hbj;obtain ⟨k,ok,g1,g2,g3⟩:=back i oi β bi hi hbi;obtain ⟨l,ol,k1,k2,k3⟩:=back j oj β bj hj hbj;have:=H.inj k l ok ol β bi bj g2 k2 g3 k3;subst this;exact h.inj i j k g1 k1
 ·intro i o' ho';rcases h.obs i o' ho' with ⟨j,o,h1,h2,h3,h4,h5⟩|⟨h1,h2⟩
  ·obtain ⟨r1,r2⟩:=H.ob j o h2;refine ⟨λx hx=>?_,?_⟩
   ·obtain ⟨k,hk⟩:=List.mem_iff_getElem?.1 hx;obtain ⟨cs,g1,g2⟩:=h5 k x hk;rw[h3,<- (wks_get g2).1];exact r1 cs (List.mem_of_getElem? g1)
   ·rcases r2 with ⟨g1,g2⟩|⟨β,b,c,e,fz,g1,g2,g3,g4,g5⟩
    ·exact .inl ⟨by rw[hφ _ _ h1];exact g1,List.eq_nil_of_length_eq_zero (by rw[h4,g2];rfl)⟩
    ·refine .inr ⟨β,b,c,e,fz,by rw[hφ _ _ h1];exact g1,g2,g3,by rw[h3,h4];exact g4,λk l av' hkl=>?_⟩;unfold cellAt at hkl;cases hek:o'.es[k]? with
     | none=>rw[hek] at hkl;cases hkl
     | some cs'=>
       rw[hek] at hkl;obtain ⟨cs,q1,q2⟩:=h5 k cs' hek;obtain ⟨x,q3,q4⟩:=(wks_get q2).2 l av' hkl;obtain ⟨u,p1,p2,p3⟩:=g5 k l x (by simp[cellAt,q1,q3]);exact ⟨u,by rw[h3];exact p1,p2,key p3 _ q4⟩
  ·exact ⟨by rw[h2];simp,.inl ⟨hφn i h1,h2⟩⟩
 ·intro i o' β b ho' hb;obtain ⟨j,o,g1,g2,g3⟩:=back i o' β b ho' hb;exact H.own j o β b g2 g3
 ·intro i hi;rcases hF with ⟨hz,hF⟩|hF
  ·have:=hF i hi;subst this;exact h.u0 hz (H.idsU 0 hi)
  ·rw[hF] at hi;exact absurd rfl hi
 ·intro i hi o' ho';rcases hF with ⟨hz,hF⟩|hF
  rotate_left
  ·rw[hF] at hi;exact absurd rfl hi
  have:=hF i hi;subst this;rcases h.obs 0 o' ho' with ⟨j,o,h1,h2,h3,h4,h5⟩|⟨h1,h2⟩
  ·have:=h.n0 hz _ h1;cases this;obtain ⟨oo,k1,k2,k3,k4,k5⟩:=H.keep0 0 hi o h2;exact ⟨oo,k1,by rw[hφ _ _ h1];exact k2,h3.trans k3,by rw[h4];exact k4,k5⟩
  ·have:=h.n0 hz _ h1;cases this
theorem Turn.ent (h:Turn true st st' m):Ent st st':=λ_ _ _ _ hF R=>h.core (.inl ⟨rfl,hF⟩) R
theorem Turn.ent0 (h:Turn false st st' m):Ent0 noOb st st':=λ_ _ _ _ hF R=>h.core (.inr hF) R
end
end Go.Vc
namespace Go.Vc
def mkR:List (Nat×AV)->Nat->AV
 | []=>λ_=>.un
 | (t,v)::r=>upd (mkR r) t v
def mkO:List (Nat×Ob)->Nat->Option Ob
 | []=>noOb
 | (i,o)::r=>upd (mkO r) i (some o)
def mkS (rl:List (Nat×AV)) (ol:List (Nat×Ob)) (ul:List Nat):St:=⟨mkR rl,mkO ol,ul⟩
inductive Es (st:St) (m:List (Nat×Option Nat)):List (List AV)->List (List AV)->Prop
 | same (o:Ob) (es es':List (List AV)) (h:∀x∈es,∀a∈x,a.leaf=true) (he:es=es'):Es st m es es'
 | nil:Es st m [] []
 | cons {cs cs':List AV} {r r':List (List AV)} (h:wk.wks st m cs cs') (k:Es st m r r'):Es st m (cs::r) (cs'::r')
def ents (st:St) (m:List (Nat×Option Nat)):List (Nat×AV)->Prop
 | []=>True
 | (t,v)::r=>wk st m (st.regs t) v/\ents st m r
def eob (st:St) (m:List (Nat×Option Nat)):Option (Option Nat)->Ob->Prop
 | some (some j),o'=>OB (st.objs j) λo=>o'.sz=o.sz/\Es st m o.es o'.es
 | some none,o'=>o'.es=[]
 | none,_=>False
def eobs (st:St) (m:List (Nat×Option Nat)):List (Nat×Ob)->Prop
 | []=>True
 | (i,o)::r=>eob st m (nms m i) o/\eobs st m r
theorem wk_leaf {st:St} {m:List (Nat×Option Nat)} {a:AV} (h:a.leaf=true):wk st m a a:=by
 cases a with
 | fn f caps=>cases caps with
   | nil=>simp[wk,wk.wks]
   | cons x y=>simp[AV.leaf] at h
 | _=>first|(simp[AV.leaf] at h;done)|simp[wk]
theorem wks_leaf {st:St} {m:List (Nat×Option Nat)} {l:List AV} (h:∀a∈l,a.leaf=true):wk.wks st m l l:=by
 induction l with
 | nil=>trivial
 | cons x r ih=>exact ⟨wk_leaf (h x (by simp)),ih λa ha=>h a (by simp[ha])⟩
theorem Es.get {st:St} {m:List (Nat×Option Nat)} {es es':List (List AV)} (h:Es st m es es'):es'.length=es.length/\∀(k:Nat) (cs':List AV),es'[k]?=some cs'->∃cs:List AV,es[k]?=some cs/\wk.wks st m cs cs':=by
 induction h with
 | same o es es' h he=>subst he;exact ⟨rfl,λk cs hk=>⟨cs,hk,wks_leaf λa ha=>h cs (List.mem_of_getElem? hk) a ha⟩⟩
 | nil=>exact ⟨rfl,by simp⟩
 | cons h k ih=>
   refine ⟨by simp[ih.1],λj cs' hj=>?_⟩;cases j with
   | zero=>simp at hj;subst hj;exact ⟨_,rfl,h⟩
   | succ j=>simpa using ih.2 j cs' (by simpa using hj)
theorem ents_get {st:St} {m:List (Nat×Option Nat)} {l:List (Nat×AV)} (h:ents st m l) (t:Nat):wk st m (st.regs t) (mkR l t):=by
 induction l with
 | nil=>simp only[mkR];cases st.regs t<;>simp[wk]
 | cons x r ih=>
   obtain ⟨u,v⟩:=x;simp only[mkR,upd];split
   ·rename_i e;subst e;exact h.1
   ·exact ih h.2
theorem eobs_get {st:St} {m:List (Nat×Option Nat)} {l:List (Nat×Ob)} (h:eobs st m l) {i:Nat} {o:Ob} (hi:mkO l i=some o):eob st m (nms m i) o:=by
 induction l with
 | nil=>cases hi
 | cons x r ih=>
   obtain ⟨u,v⟩:=x;simp only[mkO,upd] at hi;split at hi
   ·rename_i e;cases hi;subst e;exact h.1
   ·exact ih h.2 hi
def nmOk (m:List (Nat×Option Nat)) (ul:List Nat):Bool:=
 decide (olds m).Nodup&&(m.all λx=>ul.contains x.1)&&(match nms m 0 with|none=>true|some x=>x==some 0)
theorem nms_mem {m:List (Nat×Option Nat)} {i:Nat} {x:Option Nat} (h:nms m i=some x):(i,x)∈m:=by
 induction m with
 | nil=>cases h
 | cons y r ih=>
   obtain ⟨a,b⟩:=y;simp only[nms] at h;split at h
   ·rename_i e;cases h;subst e;simp
   ·exact List.mem_cons_of_mem _ (ih h)
theorem mem_olds {m:List (Nat×Option Nat)} {i k:Nat} (h:(i,some k)∈m):k∈olds m:=by
 induction m with
 | nil=>cases h
 | cons y r ih=>
   obtain ⟨a,b⟩:=y;cases h with
   | head=>simp[olds]
   | tail _ h=>cases b with
     | none=>exact ih h
     | some b=>exact List.mem_cons_of_mem _ (ih h)
theorem olds_inj {m:List (Nat×Option Nat)} (hn:(olds m).Nodup) {i j k:Nat} (h1:(i,some k)∈m) (h2:(j,some k)∈m):i=j:=by
 induction m with
 | nil=>cases h1
 | cons y r ih=>
   obtain ⟨a,b⟩:=y;cases b with
   | none=>
     have g1:(i,some k)∈r:=by cases h1 with|tail _ h=>exact h
     have g2:(j,some k)∈r:=by cases h2 with|tail _ h=>exact h
     exact ih hn g1 g2
   | some b=>
     simp only[olds,List.nodup_cons] at hn;cases h1 with
     | head=>cases h2 with
       | head=>rfl
       | tail _ h=>exact absurd (mem_olds h) hn.1
     | tail _ h1=>cases h2 with
       | head=>exact absurd (mem_olds h1) hn.1
       | tail _ h2=>exact ih hn.2 h1 h2
theorem ent_mk {st:St} (m:List (Nat×Option Nat)) {rl:List (Nat×AV)} {ol:List (Nat×Ob)} {ul:List Nat} (hm:nmOk m ul=true) (h0:0∈st.used->0∈ul) (hr:ents st m rl) (ho:eobs st m ol):Ent st (mkS rl ol ul):=by
 simp only[nmOk,Bool.and_eq_true,decide_eq_true_eq,List.all_eq_true] at hm;refine Turn.ent (m:=m) {regs:=ents_get hr,obs:=λi o' hi=>?_,inj:=λi j k h1 h2=>olds_inj hm.1.1 (nms_mem h1) (nms_mem h2),used:=λi x hx=>?_,inU:=λi o' hi=>?_,u0:=λ_=>h0,n0:=λ_ x hx=>?_}
 ·have:=eobs_get ho hi;generalize hn:nms m i=y at this
  match y,this with
  | some (some j),this=>
    obtain ⟨o,h1,h2,h3⟩:=this;exact .inl ⟨j,o,rfl,h1,h2,h3.get.1,h3.get.2⟩
  | some none,this=>exact .inr ⟨rfl,this⟩
  | none,this=>exact False.elim this
 ·show i∈ul;simpa using hm.1.2 _ (nms_mem hx)
 ·have:=eobs_get ho hi;generalize hn:nms m i=y at this;cases y with
  | none=>exact False.elim this
  | some x=>
    show i∈ul;simpa using hm.1.2 _ (nms_mem hn)
 ·have:=hm.2;rw[hx] at this;simpa using this
theorem ent0_mk {st:St} (m:List (Nat×Option Nat)) {rl:List (Nat×AV)} {ol:List (Nat×Ob)} {ul:List Nat} (hm:(decide (olds m).Nodup&&(m.all λx=>ul.contains x.1))=true) (hr:ents st m rl) (ho:eobs st m ol):Ent0 noOb st (mkS rl ol ul):=by
 simp only[Bool.and_eq_true,decide_eq_true_eq,List.all_eq_true] at hm;refine Turn.ent0 (m:=m) {regs:=ents_get hr,obs:=λi o' hi=>?_,inj:=λi j k h1 h2=>olds_inj hm.1 (nms_mem h1) (nms_mem h2),used:=λi x hx=>?_,inU:=λi o' hi=>?_,u0:=λh=>(by cases h),n0:=λh=>(by cases h)}
 ·have:=eobs_get ho hi;generalize hn:nms m i=y at this
  match y,this with
  | some (some j),this=>
    obtain ⟨o,h1,h2,h3⟩:=this;exact .inl ⟨j,o,rfl,h1,h2,h3.get.1,h3.get.2⟩
  | some none,this=>exact .inr ⟨rfl,this⟩
  | none,this=>exact False.elim this
 ·show i∈ul;simpa using hm.2 _ (nms_mem hx)
 ·have:=eobs_get ho hi;generalize hn:nms m i=y at this;cases y with
  | none=>exact False.elim this
  | some x=>
    show i∈ul;simpa using hm.2 _ (nms_mem hn)
theorem ent_to {st st':St} (m:List (Nat×Option Nat)) {rl:List (Nat×AV)} {ol:List (Nat×Ob)} {ul:List Nat} (hs:st'=mkS rl ol ul) (hm:nmOk m ul=true) (h:(0∈st.used->0∈ul)/\ents st m rl/\eobs st m ol):Ent st st':=
 hs▸ent_mk m hm h.1 h.2.1 h.2.2
def fnPost0 (T:Nat->TI) (l:List ResultVar) (R:AV->Prop):Exit->St->Prop
 | .normal,st=>GOES (λst=>hRes T st l λv=>v.noId=true/\R v) st
 | .ret,st=>GOES (λst=>hRes T st l λv=>v.noId=true/\R v) st
 | _,_=>False
theorem rep_none {F:Fr} {φ:Nat->Option (Nat×Nat)} {st:St} {w:World} (h2:F.O0=noOb) (H:RepH F φ st.objs (·∈st.used) w):RepH F (λ_=>none) noOb (·∈([]:List Nat)) w:=
 {inj:=λi j oi oj β bi bj h=>by cases h
  inU:=λi o h=>by cases h
  ob:=λi o h=>by cases h
  own:=λi o β b h=>by cases h
  below:=H.below,size:=H.size,os:=H.os,tape:=H.tape,output:=H.output
  idsU:=λi hi=>by rw[h2] at hi;exact absurd rfl hi
  keep0:=λi hi=>by rw[h2] at hi;exact absurd rfl hi}
theorem mkS_do (rl:List (Nat×AV)) (ol:List (Nat×Ob)) (ul:List Nat):mkS rl ol ul=⟨mkR rl,mkO ol,ul⟩:=rfl
theorem JB.mk {ι:Type} {inv:ι->St} {s:St} (y:ι) {rl:List (Nat×AV)} {ol:List (Nat×Ob)} {ul:List Nat} (m:List (Nat×Option Nat)) (hs:inv y=mkS rl ol ul) (hm:nmOk m ul=true)
 (h:(0∈s.used->0∈ul)/\ents s m rl/\eobs s m ol):JB inv s:=⟨y,ent_to m hs hm h⟩
theorem TO {K:St->Prop} {s:St} (m:List (Nat×Option Nat)) (rl:List (Nat×AV)) (ol:List (Nat×Ob)) (ul:List Nat) (hm:nmOk m ul=true) (h:(0∈s.used->0∈ul)/\ents s m rl/\eobs s m ol) (k:K (mkS rl ol ul)):GOES K s:=
 ⟨_,ent_to m rfl hm h,k⟩
theorem TOG {K:St->Prop} {s:St} (m:List (Nat×Option Nat)) (rl:List (Nat×AV)) (ol:List (Nat×Ob)) (ul:List Nat) (hm:nmOk m ul=true) (h:(0∈s.used->0∈ul)/\ents s m rl/\eobs s m ol) (k:GOES K (mkS rl ol ul)):GOES K s:=
 k.ent (ent_to m rfl hm h)
def BACK {ι:Type} (inv:ι->St) (μ:ι->Nat) (x:ι) (s:St):Prop:=∃y,Ent s (inv y)/\μ y<μ x
@[congr] theorem BACK_congr {ι:Type} {inv:ι->St} {μ:ι->Nat} {x:ι} {s s':St} {p00:Prop} (_h00:(True/\True)=p00) (h:s=s'):BACK inv μ x s=BACK inv μ x s':=by rw[h]
theorem BACK.mk {ι:Type} {inv:ι->St} {μ:ι->Nat} {x:ι} {s:St} (y:ι) {rl:List (Nat×AV)} {ol:List (Nat×Ob)} {ul:List Nat} (m:List (Nat×Option Nat)) (hs:inv y=mkS rl ol ul) (hm:nmOk m ul=true) (hμ:μ y<μ x)
 (h:(0∈s.used->0∈ul)/\ents s m rl/\eobs s m ol):BACK inv μ x s:=⟨y,ent_to m hs hm h,hμ⟩
theorem LOOP.mk {body:(Exit->St->Prop)->St->Prop} {Q:Exit->St->Prop} {st:St} {ι:Type} (inv:ι->St) (μ:ι->Nat) (x0:ι) {rl:List (Nat×AV)} {ol:List (Nat×Ob)} {ul:List Nat} (m:List (Nat×Option Nat)) (hs:inv x0=mkS rl ol ul) (hm:nmOk m ul=true)
 (h0:(0∈st.used->0∈ul)/\ents st m rl/\eobs st m ol) (h:∀x,body (exThen (λs=>BACK inv μ x s) Q) (inv x)):LOOP body Q st:=
 ⟨ι,inv,μ,⟨x0,ent_to m hs hm h0⟩,h⟩
theorem EL.setmap {α:Type} {f:α->List AV} {l:List α} {i j:Nat} {v:List AV} {K:List AV->Prop} (hij:i≠j) (h:j<l.length) (k:K (f l[j])):EL ((l.map f).set i v) j K:=
 ⟨f l[j],by rw[List.getElem?_set_ne hij];simp[h],k⟩
theorem VIF.split {b:Bool} {A B:Prop} (h1:b=true->A) (h2:b=false->B):VIF b A B:=⟨h1,h2⟩
mutual
theorem wk_noId {st:St} {m:List (Nat×Option Nat)}:∀(v:AV),v.noId=true->wk st m v v
 | .un,_=>by simp[wk]
 | .pr v,_=>by simp[wk]
 | .nl,_=>by simp[wk]
 | .im a b,_=>by simp[wk]
 | .rf a b c,h=>by simp[AV.noId] at h
 | .pt a b c,h=>by simp[AV.noId] at h
 | .ro a b,_=>by simp[wk]
 | .ag cs,h=>by simp only[wk];exact wks_noId cs (by simpa [AV.noId] using h)
 | .tu cs,h=>by simp only[wk];exact wks_noId cs (by simpa [AV.noId] using h)
 | .fn f cs,h=>by simp only[wk];exact ⟨trivial,wks_noId cs (by simpa [AV.noId] using h)⟩
theorem wks_noId {st:St} {m:List (Nat×Option Nat)}:∀(l:List AV),noIds l=true->wk.wks st m l l
 | [],_=>trivial
 | x::r,h=>by
   simp only[noIds,Bool.and_eq_true] at h;exact ⟨wk_noId x h.1,wks_noId r h.2⟩
end
def lendRf (off len:Nat):Option Ob->AV
 | some o=>.im o.sz ((o.es.drop off).take len)
 | none=>.un
def lendCs (f:List AV->List AV) (off:Nat):Option (List AV)->AV
 | some cs=>.ro (f cs) off
 | none=>.un
def lendPt (f:List AV->List AV) (i off:Nat):Option Ob->AV
 | some o=>lendCs f off o.es[i]?
 | none=>.un
theorem lendW_rf {f:List AV->List AV} {objs:Nat->Option Ob} {id off len:Nat}:AV.lendW f objs (.rf id off len)=lendRf off len (objs id):=by simp only[AV.lendW];cases objs id<;>rfl
theorem lendW_pt {f:List AV->List AV} {objs:Nat->Option Ob} {id i off:Nat}:AV.lendW f objs (.pt id i off)=lendPt f i off (objs id):=by
 simp only[AV.lendW];cases objs id with
 | none=>rfl
 | some o=>simp only[lendPt];cases o.es[i]?<;>rfl
theorem lok_rf {p:List AV->Prop} {objs:Nat->Option Ob} {id off len:Nat}:AV.lok p objs (.rf id off len)=OB (objs id) λo=>o.leafy:=by simp only[AV.lok,OB]
theorem lok_pt {p:List AV->Prop} {objs:Nat->Option Ob} {id i off:Nat}:AV.lok p objs (.pt id i off)=OB (objs id) λo=>EL o.es i p:=by simp only[AV.lok,OB,EL,eq_iff_iff];exact ⟨λ⟨o,cs,h1,h2,h3⟩=>⟨o,h1,cs,h2,h3⟩,λ⟨o,h1,cs,h2,h3⟩=>⟨o,cs,h1,h2,h3⟩⟩
def leafs2:List (List AV)->Prop
 | []=>True
 | x::r=>leafs x/\leafs2 r
theorem leafs_mem {l:List AV}:leafs l ↔ ∀a∈l,a.leaf=true:=by
 induction l with
 | nil=>simp[leafs]
 | cons x r ih=>simp[leafs,ih]
theorem leafy_do {sz:Nat} {es:List (List AV)}:(Ob.mk sz es).leafy=leafs2 es:=by
 simp only[Ob.leafy,eq_iff_iff]
 induction es with
 | nil=>simp[leafs2]
 | cons x r ih=>simp only[leafs2,List.mem_cons,forall_eq_or_imp,<- ih,leafs_mem]
theorem leafs2_map {α:Type} {f:α->List AV} {l:List α} (h:∀x∈l,leafs (f x)):leafs2 (l.map f):=by
 induction l with
 | nil=>trivial
 | cons x r ih=>exact ⟨h x (by simp),ih λy hy=>h y (by simp[hy])⟩
theorem CALL.lendTo {P:Program} {f:Nat} {args:List AV} {st:St} {d:Option Nat} {K:St->Prop} {args':List AV} {R:AV->Prop} (h:Spec0 P f args' R) (he:lends st.objs args=args'/\lok st.objs args) (hf:∀r,R r->r.flat=true) (k:∀r,R r->K (st.put d r)):CALL P f args st d K:=by obtain ⟨he,hl⟩:=he;subst he;exact .lend R h hl k hf
section
variable {P:Program} {T:Nat->TI}
theorem spec0_of_vc (hT:TabOk P T) (hE:∀t e,(T t).k=.slice e->(T e).k.known=true) (G:Ords) {f:Nat} {fn:Func} {c:Code} {rl:List ResultVar} {args:List AV} {R:AV->Prop}
 (hf : P.funcs[f]? = some fn) (hb : fn.body = some c) (hr : fn.results.toList = rl) (hok : (okCode fn.ntmps G c && !(fn.name == "runtime.NumGoroutine")) = true) (ha : Nat.ble args.length fn.ntmps = true)
 (h:vc P T G c (fnPost0 T rl R) ⟨startR 0 args,noOb,[]⟩):Spec0 P f args R:=by
 subst hr;simp only[Bool.and_eq_true,Bool.not_eq_true'] at hok;obtain ⟨hok,hname⟩:=hok;have ha:=Nat.le_of_ble_eq_true ha;refine ⟨⟨fn,hf,hname,by rw[hb];rfl⟩,λF φ w vs h1 h2 h3 H hs hv=>?_⟩;refine calls_of_wp hf hb ?_;have R0:Rep F fn.ntmps ⟨startR 0 args,noOb,[]⟩ {tmps:=vs++Array.replicate (fn.ntmps-vs.size) undef,defers:=[]} w:=start_rep H hs ha hv;refine vc_sound hT hE (λi hi=>by rw[h2] at hi;exact absurd rfl hi) c _ _ _ _ _ hok h R0 λe st0 a' w' R0' h0'=>?_;have hstep:∃st1,Rep F fn.ntmps st1 a' w'/\(match e with | .normal=>hRes T st1 fn.results.toList (λv=>v.noId=true/\R v) | .ret=>hRes T st1 fn.results.toList (λv=>v.noId=true/\R v)|_=>False):=by
  cases e with
  | normal=>obtain ⟨s1,he,hh⟩:=h0';exact ⟨s1,he F _ a' w' (λi hi=>by rw[h2] at hi;exact absurd rfl hi) R0',hh⟩
  | ret=>obtain ⟨s1,he,hh⟩:=h0';exact ⟨s1,he F _ a' w' (λi hi=>by rw[h2] at hi;exact absurd rfl hi) R0',hh⟩
  | _=>exact False.elim h0'
 obtain ⟨st1,R1,h'⟩:=hstep;obtain ⟨hsz,hdf,φ',H',hr'⟩:=R1
 have fin:hRes T st1 fn.results.toList (λv=>v.noId=true/\R v)->a'.defers=[]/\∃v,(results fn a'.tmps).run P w'=.ok v w'/\∃(v_1:Value) (r:AV) (O':Nat->Option Ob) (φ':Nat->Option (Nat×Nat)) (U':List Nat),
  Ending.returned v=.returned v_1/\((R r/\r.noId=true)/\O'=noOb)/\RepH F φ' O' (·∈U') w'/\RepV φ' O' (·∈U') w'.heap (SS F φ' O' w') v_1 r:=λhh=>by
  obtain ⟨v,av,g1,⟨g2,g2'⟩,g3⟩:=hRes_spec (P:=P) hT H' hr' hh;refine ⟨hdf,v,g1,v,av,noOb,λ_=>none,[],rfl,⟨⟨g2',g2⟩,rfl⟩,rep_none h2 H',noId_rep (λβ hβ=>⟨⟨hβ.1,?_,hβ.2.2⟩,rfl⟩) g3 g2⟩;intro i o b hi;cases hi
 cases e with
 | normal=>exact fin h'
 | ret=>exact fin h'
 | _=>exact False.elim h'
theorem spec1_of_vc (hT:TabOk P T) (hE:∀t e,(T t).k=.slice e->(T e).k.known=true) (G:Ords) {f:Nat} {fn:Func} {c:Code} {rl:List ResultVar} {args:List AV} {R:AV->Ob->Prop}
 (hf : P.funcs[f]? = some fn) (hb : fn.body = some c) (hr : fn.results.toList = rl) (hok : (okCode fn.ntmps G c && !(fn.name == "runtime.NumGoroutine")) = true) (ha : Nat.ble args.length fn.ntmps = true)
 (h:vc P T G c (fnPost T noOb rl λr O'=>∃o,(R r o/\r.only0=true)/\o.leafy/\O'=upd noOb 0 (some o)) ⟨startR 0 args,noOb,[]⟩):Spec1 P f args R:=
 funspec_of_vc hT hE G hf hb hr hok ha (λ_ h=>absurd rfl h) h
theorem specO_of_vc (hT:TabOk P T) (hE:∀t e,(T t).k=.slice e->(T e).k.known=true) (G:Ords) {f:Nat} {fn:Func} {c:Code} {rl:List ResultVar} {args:List AV} {o:Ob} {R:AV->Ob->Prop}
 (hf : P.funcs[f]? = some fn) (hb : fn.body = some c) (hr : fn.results.toList = rl) (hok : (okCode fn.ntmps G c && !(fn.name == "runtime.NumGoroutine")) = true) (ha : Nat.ble args.length fn.ntmps = true)
 (h:vc P T G c (fnPost T (upd noOb 0 (some o)) rl λr O'=>∃o',(R r o'/\r.noId=true)/\o'.leafy/\O'=upd noOb 0 (some o')) ⟨startR 0 args,upd noOb 0 (some o),[0]⟩):SpecO P f args o R:=
 funspec_of_vc hT hE G hf hb hr hok ha (λi h=>by
  simp only[upd] at h;split at h
  ·rename_i e;exact e.symm
  ·exact absurd rfl h) h
theorem specB_of_vc (hT:TabOk P T) (hE:∀t e,(T t).k=.slice e->(T e).k.known=true) (G:Ords) {f:Nat} {fn:Func} {c:Code} {rl:List ResultVar} {args:List AV} {o:Ob} {R:AV->Ob->Prop}
 (hf : P.funcs[f]? = some fn) (hb : fn.body = some c) (hr : fn.results.toList = rl) (hok : (okCode fn.ntmps G c && !(fn.name == "runtime.NumGoroutine")) = true) (ha : Nat.ble args.length fn.ntmps = true)
 (h:vc P T G c (fnPost T (upd noOb 0 (some o)) rl λr O'=>∃o',(R r o'/\r.only0=true)/\o'.leafy/\O'=upd noOb 0 (some o')) ⟨startR 0 args,upd noOb 0 (some o),[0]⟩):SpecB P f args o R:=
 funspec_of_vc hT hE G hf hb hr hok ha (λi h=>by
  simp only[upd] at h;split at h
  ·rename_i e;exact e.symm
  ·exact absurd rfl h) h
theorem FIN_B {l:List ResultVar} {K:AV->(Nat->Option Ob)->Prop} {st:St} {o o':Ob} (rl:List (Nat×AV)) (h:st.objs 0=some o') (hl:o'.leafy) (hr:ents st [(0,some 0)] rl) (k:hRes T (mkS rl [(0,o')] [0]) l λv=>K v (upd noOb 0 (some o'))):FIN T (upd noOb 0 (some o)) l K st:=by
 have he:Ent st (mkS rl [(0,o')] [0]):=ent_to [(0,some 0)] rfl rfl ⟨λ_=>by simp,hr,⟨o',h,rfl,.same o' _ _ hl rfl⟩,trivial⟩;refine ⟨mkS rl [(0,o')] [0],λF n a w hF R=>he F n a w (λi hi=>?_) R,k⟩;rw[hF] at hi;simp only[upd] at hi;split at hi
 ·rename_i e;exact e.symm
 ·exact absurd rfl hi
theorem FIN_O {l:List ResultVar} {K:AV->(Nat->Option Ob)->Prop} {st:St} {o o':Ob} (hl0:l=[]) (h:st.objs 0=some o') (hl:o'.leafy) (k:K (.tu []) (upd noOb 0 (some o'))):FIN T (upd noOb 0 (some o)) l K st:=by
 subst hl0;have he:Ent st (mkS [] [(0,o')] [0]):=ent_to [(0,some 0)] rfl rfl ⟨λ_=>by simp,trivial,⟨o',h,rfl,.same o' _ _ hl rfl⟩,trivial⟩;refine ⟨mkS [] [(0,o')] [0],λF n a w hF R=>he F n a w (λi hi=>?_) R,k⟩;rw[hF] at hi;simp only[upd] at hi;split at hi
 ·rename_i e;exact e.symm
 ·exact absurd rfl hi
theorem FINmk {l:List ResultVar} {K:AV->(Nat->Option Ob)->Prop} {st:St} (m:List (Nat×Option Nat)) (rl:List (Nat×AV)) (ol:List (Nat×Ob)) (ul:List Nat) (hm:(decide (olds m).Nodup&&(m.all λx=>ul.contains x.1))=true)
 (h:ents st m rl/\eobs st m ol) (k:hRes T (mkS rl ol ul) l λv=>K v (mkO ol)):FIN T noOb l K st:=⟨mkS rl ol ul,ent0_mk m hm h.1 h.2,k⟩
theorem mkInfo {P:Program} {t:Nat} {x:TI} {i:TypeInfo} {z:Value} (info:P.info? t=some i) (size:i.size=x.size) (bytes:i.bytes=x.bytes) (zero:i.zero=some z)
 (zc:z.cells.toList.map cAV=x.zero) (zl:x.zero.length=x.size) (one:z.cells.toList.all (·.oneCell')=true) (pos:0<x.size) (b0:0<x.bytes) (b1:x.bytes<=4096):InfoOk P t x i z:=
 ⟨info,size,bytes,zero,zc,zl,λc hc=>List.all_eq_true.1 one c hc,pos,b0,b1⟩
theorem all_info {P:Program} {l:List Field} (h:(l.all λf=>match P.info? f.type with|some i=>decide (0<i.size)|none=>false)=true):∀f∈l,∃i,P.info? f.type=some i/\0<i.size:=by
 intro f hf;have:=List.all_eq_true.1 h f hf;cases hi:P.info? f.type with
 | none=>rw[hi] at this;cases this
 | some i=>rw[hi] at this;exact ⟨i,rfl,by simpa using this⟩
end
end Go.Vc
namespace Go.Vc
section
variable {P:Program} {T:Nat->TI} {G:Ords} {st s:St} {t d f n i j k:Nat} {x y v:AV} {cs es:List AV} {K:AV->Prop} {J:List AV->Prop} {M:St->Prop} {Q:Exit->St->Prop} {ik ik':IntKind} {a b:Int} {R:AV->Prop} {rl:List ResultVar} {u:Value} {ess:List (List AV)}
theorem evAt_mk {ops:List Oper} {im:Option Bool} {sp q:Bool} {o:Option Nat} {op:Op} {ty:TypeId} {pos:String} {af:Array Edge} {g:Option (Nat×Bool)}:evAt P T ops im sp q (some ⟨o,op,ty,pos,af,g⟩) st M=evG st ops g (firstIf ops im q st op/\evOp P T st o op λs=>qK ops im q st s (SPd sp o s M)) (M (st.put o (.tu []))):=rfl
theorem ends_region {ops:Array Oper} {b:Bool}:endsCond (.region n ops b)=false:=rfl
theorem cellsOf_pr:cellsOf (.pr u) J=J [.pr u]:=rfl
theorem cellsOf_im:cellsOf (.im n ess) J=J [.im n ess]:=rfl
theorem cellsOf_rf:cellsOf (.rf i j k) J=J [.rf i j k]:=rfl
theorem mkV_int:mkV (.int ik) n cs K=one cs K:=rfl
theorem known_int:(TK.int ik).known=true:=rfl
theorem mkV_bool:mkV (.bool) n cs K=one cs K:=rfl
theorem mkV_str:mkV (.str) n cs K=one cs K:=rfl
theorem mkV_slice:mkV (.slice t) n cs K=one cs K:=rfl
theorem known_slice:(TK.slice t).known=true:=rfl
theorem known_st (l:List (Nat×Nat)):(TK.struct l).known=true:=rfl
theorem exThen_ret:exThen M Q (Exit.ret) s=Q (Exit.ret) s:=rfl
theorem exThen_exit:exThen M Q (Exit.exit n) s=Q (Exit.exit n) s:=rfl
theorem exBlk_ret:exBlk n Q .ret s=Q .ret s:=rfl
theorem exBlk_normal:exBlk n Q .normal s=Q .normal s:=rfl
theorem exBlk_exit:exBlk n Q (.exit k) s=bif (k==n) then Q .normal s else Q (.exit k) s:=by
 simp only[exBlk];by_cases h:k=n
 ·simp[h]
 ·simp[h]
theorem hBin_eql:hBin T t .eql (.pr (.int ik a)) (.pr (.int ik' b)) K=(ik=ik'/\iBin .eql ik a b K):=by simp[hBin,isShift]
theorem hBin_neq:hBin T t .neq (.pr (.int ik a)) (.pr (.int ik' b)) K=(ik=ik'/\iBin .neq ik a b K):=by simp[hBin,isShift]
theorem hBin_lss:hBin T t .lss (.pr (.int ik a)) (.pr (.int ik' b)) K=(ik=ik'/\iBin .lss ik a b K):=by simp[hBin,isShift]
theorem hBin_leq:hBin T t .leq (.pr (.int ik a)) (.pr (.int ik' b)) K=(ik=ik'/\iBin .leq ik a b K):=by simp[hBin,isShift]
theorem hBin_gtr:hBin T t .gtr (.pr (.int ik a)) (.pr (.int ik' b)) K=(ik=ik'/\iBin .gtr ik a b K):=by simp[hBin,isShift]
theorem hBin_geq:hBin T t .geq (.pr (.int ik a)) (.pr (.int ik' b)) K=(ik=ik'/\iBin .geq ik a b K):=by simp[hBin,isShift]
theorem hBin_add:hBin T t .add (.pr (.int ik a)) (.pr (.int ik' b)) K=(ik=ik'/\iBin .add ik a b K):=by simp[hBin,isShift]
theorem hBin_sub:hBin T t .sub (.pr (.int ik a)) (.pr (.int ik' b)) K=(ik=ik'/\iBin .sub ik a b K):=by simp[hBin,isShift]
theorem hBin_mul:hBin T t .mul (.pr (.int ik a)) (.pr (.int ik' b)) K=(ik=ik'/\iBin .mul ik a b K):=by simp[hBin,isShift]
theorem hBin_quo:hBin T t .quo (.pr (.int ik a)) (.pr (.int ik' b)) K=(ik=ik'/\iBin .quo ik a b K):=by simp[hBin,isShift]
theorem hBin_rem:hBin T t .rem (.pr (.int ik a)) (.pr (.int ik' b)) K=(ik=ik'/\iBin .rem ik a b K):=by simp[hBin,isShift]
theorem hBin_and:hBin T t .and (.pr (.int ik a)) (.pr (.int ik' b)) K=(ik=ik'/\iBin .and ik a b K):=by simp[hBin,isShift]
theorem hBins_eql {a b:ByteArray}:hBin T t .eql (.pr (.string a)) (.pr (.string b)) K=sBin .eql a b K:=by simp[hBin,isShift]
theorem hBins_neq {a b:ByteArray}:hBin T t .neq (.pr (.string a)) (.pr (.string b)) K=sBin .neq a b K:=by simp[hBin,isShift]
theorem hBins_lss {a b:ByteArray}:hBin T t .lss (.pr (.string a)) (.pr (.string b)) K=sBin .lss a b K:=by simp[hBin,isShift]
theorem hBins_gtr {a b:ByteArray}:hBin T t .gtr (.pr (.string a)) (.pr (.string b)) K=sBin .gtr a b K:=by simp[hBin,isShift]
theorem hBuiltin_len:hBuiltin T st (some d) [t] .len [x] M=(lenOk (T t).k x/\lenI x λn=>M (st.put (some d) (.pr (.int .i64 n)))):=rfl
theorem hBuiltin_max:hBuiltin T st (some d) [t,n] .max [x,y] M=hMM true x y λv=>M (st.put (some d) v):=rfl
theorem hBuiltin_append:hBuiltin T st (some d) [t,n] .append [x,y] M=sTK (T t).k λe=>hApp T (T n).k st d e x y M:=rfl
theorem hBuiltin_clearN:hBuiltin T st none [t] .clear [x] M=sTK (T t).k λe=>hClear st none (T e).size (T e).zero x M:=rfl
theorem hBuiltin_cap:hBuiltin T st (some d) [t] .cap [x] M=sTK (T t).k λ_=>capI x λn=>M (st.put (some d) (.pr (.int .i64 n))):=rfl
theorem lenOk_nl:lenOk (.slice t) (.nl)=True:=rfl
theorem lenOk_im:lenOk (.slice t) (.im n ess)=True:=rfl
theorem lenOk_rf:lenOk (.slice t) (.rf i j k)=True:=rfl
theorem lenOk_str:lenOk .str (.pr u)=True:=rfl
theorem noId_pr:AV.noId (.pr u)=true:=rfl
theorem noId_nl:AV.noId (.nl)=true:=rfl
theorem noId_im:AV.noId (.im n ess)=true:=rfl
theorem firstOk_move {im:Bool} {o:Operand}:firstOk st im (.move o)=True:=rfl
theorem opCall_move  {o:Operand}:opCall (.move o)=false:=rfl
theorem firstOk_assign {im:Bool} {o:Operand}:firstOk st im (.assign o)=True:=rfl
theorem opCall_assign  {o:Operand}:opCall (.assign o)=false:=rfl
theorem firstOk_pick {im:Bool} {o:Operand} {o':Operand} {o2:Operand}:firstOk st im (.pick o o' o2)=True:=rfl
theorem firstOk_unOp {im:Bool} {o:Operand} {uo:UnOp}:firstOk st im (.unOp uo t o)=True:=rfl
theorem opCall_unOp  {o:Operand} {uo:UnOp}:opCall (.unOp uo t o)=false:=rfl
theorem opCall_convert  {o:Operand}:opCall (.convert t n o)=false:=rfl
theorem firstOk_fieldAddr {im:Bool} {o:Operand}:firstOk st im (.fieldAddr t o n)=True:=rfl
theorem opCall_fieldAddr  {o:Operand}:opCall (.fieldAddr t o n)=false:=rfl
theorem firstOk_build {im:Bool} {ps:Array (Nat×Operand)}:firstOk st im (.build t ps)=True:=rfl
theorem opCall_build  {ps:Array (Nat×Operand)}:opCall (.build t ps)=false:=rfl
theorem firstOk_nilCheck {im:Bool} {o:Operand}:firstOk st im (.nilCheck o)=True:=rfl
theorem opCall_nilCheck  {o:Operand}:opCall (.nilCheck o)=false:=rfl
theorem firstOk_extract {im:Bool} {o:Operand}:firstOk st im (.extract o n)=True:=rfl
theorem opCall_extract  {o:Operand}:opCall (.extract o n)=false:=rfl
theorem firstOk_makeFunc {im:Bool} {fn:Fn} {l1:Array Operand} {l2:Array Operand}:firstOk st im (.makeFunc fn l1 l2)=True:=rfl
theorem opCall_makeFunc  {fn:Fn} {l1:Array Operand} {l2:Array Operand}:opCall (.makeFunc fn l1 l2)=false:=rfl
theorem firstOk_call {im:Bool} {c:Call}:firstOk st im (.call c)=True:=rfl
theorem opCall_store  {o:Operand} {o':Operand}:opCall (.store t o o')=false:=rfl
theorem opCall_alloc:opCall (.alloc t)=false:=rfl
theorem opCall_box  {o:Operand}:opCall (.box t o)=false:=rfl
theorem opCall_buildSlice  {ps:Array (Nat×Operand)}:opCall (.buildSlice t n ps)=false:=rfl
theorem opCall_value {f:Operand} {l1:Array Operand} {l2:Array Nat}:opCall (.call ⟨.value f,l1,l2⟩)=true:=rfl
theorem opCall_builtin {f:Builtin} {l1:Array Operand} {l2:Array Nat}:opCall (.call ⟨.builtin f,l1,l2⟩)=false:=rfl
theorem opCall_load {o:Operand}:opCall (.load t o)=false:=rfl
theorem opCall_indexAddr {o o':Operand}:opCall (.indexAddr t o o')=false:=rfl
theorem opCall_slice {o:Operand} {a1 a2 a3:Option Operand}:opCall (.slice t o a1 a2 a3)=false:=rfl
theorem opCall_binOp {bo:BinOp} {o o':Operand}:opCall (.binOp bo t o o' n)=false:=rfl
theorem callNext_nil:callNext []=false:=rfl
theorem callNext_cons {o:Option Nat} {op:Op} {ty:TypeId} {pos:String} {af:Array Edge} {g:Option (Nat×Bool)} {r:List Oper}:callNext (⟨o,op,ty,pos,af,g⟩::r)=opCall op:=rfl
theorem firstOk_load_f {o:Operand}:firstOk st false (.load t o)=True:=by simp[firstOk]
theorem firstOk_load_t {o:Operand}:firstOk st true (.load t o)=isIm (st.ev o):=by simp[firstOk]
theorem firstOk_indexAddr_f {o o':Operand}:firstOk st false (.indexAddr t o o')=True:=by simp[firstOk]
theorem firstE_load {ops:List Oper} {o:Operand}:firstE ops st (.load t o)=srcOk ops (st.ev o):=rfl
theorem firstE_indexAddr {ops:List Oper} {o o':Operand}:firstE ops st (.indexAddr t o o')=srcOk ops (st.ev o):=rfl
theorem srcOk_im {ops:List Oper}:srcOk ops (.im n ess)=True:=rfl
theorem srcOk_ro {ops:List Oper}:srcOk ops (.ro cs n)=True:=rfl
theorem srcOk_rf {ops:List Oper}:srcOk ops (.rf i j k)=¬made ops i:=rfl
theorem srcOk_pt {ops:List Oper}:srcOk ops (.pt i j k)=¬made ops i:=rfl
theorem made_nil:made [] d=False:=rfl
theorem made_hit {op:Op} {ty:TypeId} {pos:String} {af:Array Edge} {g:Option (Nat×Bool)} {r:List Oper}:made (⟨some d,op,ty,pos,af,g⟩::r) d=True:=by simp[made]
theorem made_some {op:Op} {ty:TypeId} {pos:String} {af:Array Edge} {g:Option (Nat×Bool)} {r:List Oper} (h:(k=d)=False):made (⟨some k,op,ty,pos,af,g⟩::r) d=made r d:=by simp[made,h]
theorem made_none {op:Op} {ty:TypeId} {pos:String} {af:Array Edge} {g:Option (Nat×Bool)} {r:List Oper}:made (⟨none,op,ty,pos,af,g⟩::r) d=made r d:=by simp[made]
theorem obSz_nl' {O:Nat->Option Ob}:obSz T t O .nl=True:=rfl
theorem SPd_false {o:Option Nat}:SPd false o s M=M s:=by cases o<;>rfl
theorem isIm_ro:isIm (.ro cs n)=True:=rfl
theorem notNl_pr:notNl (.pr u)=True:=rfl
theorem mkV_arr {fs:List (Nat×Nat)} {e n:Nat}:mkV (.arr fs e) n cs K=(n=cs.length/\K (.ag cs)):=rfl
theorem hBuild_arr {fs:List (Nat×Nat)} {e:Nat} {zero:List AV} {ps:List (Nat×AV)}:hBuild (.arr fs e) zero ps K=fill fs zero ps λcs=>K (.ag cs):=rfl
theorem only0_pr:AV.only0 (.pr u)=true:=rfl
theorem ren_pr:AV.ren d (.pr u)=.pr u:=rfl
theorem lendW'_pr {g:List AV->List AV} {O:Nat->Option Ob}:AV.lendW g O (.pr u)=.pr u:=rfl
theorem lok'_pr {p:List AV->Prop} {O:Nat->Option Ob}:AV.lok p O (.pr u)=True:=rfl
theorem lendW'_im {g:List AV->List AV} {O:Nat->Option Ob}:AV.lendW g O (.im n ess)=.im n ess:=rfl
theorem lok'_im {p:List AV->Prop} {O:Nat->Option Ob}:AV.lok p O (.im n ess)=True:=rfl
theorem lendW'_fn {g:List AV->List AV} {O:Nat->Option Ob}:AV.lendW g O (.fn f cs)=.fn f (lendsW g O cs):=by simp only[AV.lendW]
theorem lok'_fn {p:List AV->Prop} {O:Nat->Option Ob}:AV.lok p O (.fn f cs)=loks p O cs:=by simp only[AV.lok]
theorem ite_T {α:Sort _} {h:Decidable True} (a b:α):@ite α True h a b=a:=if_pos trivial
theorem ite_F {α:Sort _} {h:Decidable False} (a b:α):@ite α False h a b=b:=if_neg (λh=>h)
theorem gd_do (ops:List Oper) (g:Nat):gd ops g=(ops[g]?).bind (·.dst):=rfl
end
attribute [go_sem ↓] evG.eq_1 evG.eq_2 SPd.eq_1 qK.eq_1 qK.eq_2 qK.eq_3 evOp.eq_1 evOp.eq_2 evOp.eq_3 evOp.eq_4 evOp.eq_5 evOp.eq_6 evOp.eq_7
attribute [go_sem ↓] evOp.eq_8 evOp.eq_9 evOp.eq_10 evOp.eq_11 evOp.eq_12 evOp.eq_13 evOp.eq_14 evOp.eq_15 evOp.eq_16 evOp.eq_17 evOp.eq_18 evOp.eq_19
attribute [go_sem ↓] evOp.eq_20 evOp.eq_21 evAt.eq_1 evSel.eq_1 evSel.eq_2 evText.eq_1 evText.eq_2 evRegion.eq_1 evRegion.eq_2 hRes.eq_1 vc.eq_1 vc.eq_2
attribute [go_sem ↓] vc.eq_3 vc.eq_4 vc.eq_5 vc.eq_6 vc.eq_7 vc.eq_8 vc.eq_9 sq.eq_1 sq.eq_2 evOT.eq_1 evOT.eq_2 evOT.eq_3 evOT.eq_4 evOT.eq_5 evOT.eq_6 evAt_mk
attribute [go_sem ↓] exThen_ret exThen_exit exThen.eq_1 exBlk_ret exBlk_normal exBlk_exit fnPost0.eq_1 fnPost0.eq_2 fnPost.eq_1 fnPost.eq_2 SPd_false
theorem hMF_lt {f:Nat} {x y:List AV} {K:AV->Prop} (h:f<=999999999):hMF f [] x y K=K (.fn f y):=propext ⟨λk=>k.2,λk=>⟨by omega,k⟩⟩
attribute [go_sem] mkV_arr hBuild_arr hIdx.eq_3 hIdx.eq_4 aTK.eq_1 hMF_lt hMF.eq_2
attribute [go_sem] hBool.eq_1 hPick.eq_1 hUn.eq_1 hUn.eq_2 hConv.eq_1 hNil.eq_1 hNil.eq_2 hExtract.eq_1 hExtract.eq_2 hMM.eq_1 iBin.eq_1 iBin.eq_2
attribute [go_sem] iBin.eq_3 iBin.eq_4 iBin.eq_5 iBin.eq_6 iBin.eq_7 iBin.eq_8 iBin.eq_9 iBin.eq_10 iBin.eq_11 iBin.eq_12 iBin.eq_13 iBin.eq_14
attribute [go_sem] iBin.eq_15 sBin.eq_1 sBin.eq_2 sBin.eq_3 sBin.eq_4 sBin.eq_5 sBin.eq_6 nBin.eq_1 nBin.eq_2 nBin.eq_3 sh.eq_1 sh.eq_2
attribute [go_sem] isShift.eq_1 isShift.eq_2 hBin.eq_1 hBin.eq_2 hBin.eq_3 hBin.eq_4 hBin.eq_5 hBin.eq_6 hBin.eq_7 hBin.eq_8 hBin.eq_9 hBin.eq_10 hBin.eq_11 hBin.eq_12 one.eq_1 mkV.eq_1 mkV.eq_3 hLoad.eq_1
attribute [go_sem] hLoad.eq_2 fAt.eq_1 fAt.eq_2 fAt.eq_3 fTK.eq_1 hField.eq_1 hField.eq_2 sTK.eq_1 hIdx.eq_1 hIdx.eq_2 cellsOf.eq_1 cellsOf.eq_2
attribute [go_sem] cellsOf.eq_3 splice.eq_1 hStore.eq_1 optI.eq_1 optI.eq_2 lenI.eq_1 lenI.eq_2 lenI.eq_3 lenI.eq_4 cutA.eq_1 cutA.eq_2 cutA.eq_3
attribute [go_sem] cutA.eq_4 obSz.eq_1 hSlice.eq_1 appSrc.eq_1 appSrc.eq_2 appSrc.eq_3 isSl.eq_1 appDst.eq_1 appDst.eq_2 hApp.eq_1 hApp.eq_2 appInt.eq_1
attribute [go_sem] capI.eq_1 hClear.eq_1 newBox.eq_1 newBox.eq_2 newArr.eq_1 newArr.eq_2 fill.eq_1 fill.eq_2 hBuild.eq_1 lit.eq_1 lit.eq_2 hMake.eq_1
attribute [go_sem] hLit.eq_1 hLit.eq_2 hCall.eq_1 gS.eq_1 gS.eq_2 gV.eq_1 gV.eq_2 SPv.eq_1 firstIf.eq_1 firstIf.eq_2 firstIf.eq_3 firstOk.eq_1 isIm.eq_1
attribute [go_sem] isIm.eq_2 notNl.eq_1 St.put.eq_1 St.put.eq_2 St.ev.eq_1 St.ev.eq_2 St.ev.eq_3 St.ev.eq_4 cAV.eq_1 cAV.eq_2 cAV.eq_3 cAV.eq_4
attribute [go_sem] cAV.eq_5 cAV.eq_6 cAV.eq_7 resAV.eq_1 resAV.eq_2 resAV.eq_3 evs.eq_1 evs.eq_2 evps.eq_1 evps.eq_2 evo.eq_1 evo.eq_2
attribute [go_sem] TK.known.eq_1 AV.noId.eq_1 AV.noId.eq_2 AV.noId.eq_3 AV.noId.eq_4 AV.noId.eq_5 noIds.eq_1 noIds.eq_2 AV.flat.eq_1 AV.flat.eq_2 flats.eq_1 flats.eq_2
attribute [go_sem] AV.leaf.eq_1 AV.leaf.eq_2 AV.leaf.eq_3 AV.leaf.eq_4 AV.only0.eq_1 AV.only0.eq_2 AV.only0.eq_3 AV.only0.eq_4 AV.only0.eq_5 only0s.eq_1 only0s.eq_2 AV.ren.eq_1
attribute [go_sem] AV.ren.eq_2 AV.ren.eq_3 AV.ren.eq_4 AV.ren.eq_5 rens.eq_1 rens.eq_2 leafs.eq_1 leafs.eq_2 lendsW.eq_1 lendsW.eq_2 loks.eq_1 loks.eq_2
attribute [go_sem] mkR.eq_1 mkR.eq_2 mkO.eq_1 mkO.eq_2 nms.eq_1 nms.eq_2 endsCond.eq_1 endsCond.eq_2 endsCond.eq_3 endsCond.eq_4 ents.eq_1 ents.eq_2
attribute [go_sem] eob.eq_1 eob.eq_2 eob.eq_3 eobs.eq_1 eobs.eq_2 wk.eq_1 wk.eq_2 wk.eq_3 wk.eq_4 wk.eq_5 wk.eq_6 wk.eq_7
attribute [go_sem] wk.eq_8 wk.eq_9 wk.eq_10 wk.eq_11 wk.eq_12 wk.eq_13 wk.eq_14 wk.wks.eq_1 wk.wks.eq_2
attribute [go_sem] ends_region cellsOf_pr cellsOf_im cellsOf_rf mkV_int known_int
attribute [go_sem] mkV_bool mkV_str mkV_slice known_slice known_st hBin_eql
attribute [go_sem] hBin_neq hBin_lss hBin_leq hBin_gtr hBin_geq hBin_add hBin_sub hBin_mul hBin_quo hBin_rem hBin_and
attribute [go_sem] hBins_eql hBins_neq hBins_lss hBins_gtr hBuiltin_len hBuiltin_max hBuiltin_append
attribute [go_sem] hBuiltin_clearN hBuiltin_cap lenOk_nl lenOk_im lenOk_rf lenOk_str noId_pr noId_nl noId_im
attribute [go_sem] firstOk_move opCall_move firstOk_assign opCall_assign firstOk_pick firstOk_unOp opCall_unOp opCall_convert firstOk_fieldAddr opCall_fieldAddr
attribute [go_sem] firstOk_build opCall_build firstOk_nilCheck opCall_nilCheck firstOk_extract opCall_extract firstOk_makeFunc opCall_makeFunc firstOk_call opCall_store
attribute [go_sem] opCall_alloc opCall_box opCall_buildSlice opCall_value opCall_builtin opCall_load opCall_indexAddr opCall_slice
attribute [go_sem] opCall_binOp callNext_nil callNext_cons firstOk_load_f firstOk_load_t firstOk_indexAddr_f obSz_nl'
attribute [go_sem] isIm_ro notNl_pr
attribute [go_sem] only0_pr ren_pr lendW'_pr lok'_pr lendW'_im lok'_im
attribute [go_sem] lendW'_fn
attribute [go_sem] lok'_fn ite_T ite_F gd_do lends lends1 lok lok1 lendW_rf lendW_pt lok_rf lok_pt
attribute [go_sem] leafy_do lendRf.eq_1 lendRf.eq_2 lendCs.eq_1 lendCs.eq_2 lendPt.eq_1 lendPt.eq_2 leafs2.eq_1 leafs2.eq_2 mkS_do hOne_one hOne_nil
attribute [go_sem] Gr_same Gr_upd hOne_two NS_do VIF_true VIF_false upd_eq upd_ne startR_nil startR_cons EL_zero OB_some noOb
attribute [go_sem] List.reverse_nil List.reverse_cons List.nil_append List.cons_append List.getElem?_cons_zero List.getElem?_cons_succ Option.bind_some Option.bind_none Option.map_some Option.map_none List.drop_zero List.drop_succ_cons
attribute [go_sem] List.take_zero List.take_succ_cons List.drop_nil List.take_nil List.append_nil List.not_mem_nil List.mem_cons not_false_eq_true or_false or_self List.length_cons List.length_nil
attribute [go_sem] List.toList_toArray List.length_map List.set_cons_zero List.set_cons_succ Nat.reduceLeDiff Nat.reduceSub Nat.sub_zero Int.toNat_natCast Int.natCast_nonneg true_and and_true beq_self_eq_true
attribute [go_sem] Bool.not_true Bool.not_false Bool.true_beq Bool.false_beq Nat.reduceAdd Nat.reduceEqDiff Nat.reduceMul Nat.zero_add Nat.add_zero forall_const cond_true cond_false
attribute [go_sem] firstE_load firstE_indexAddr srcOk_im srcOk_ro srcOk_rf srcOk_pt made_nil made_hit made_some made_none
end Go.Vc
namespace Go.Vc
open Go.ChangeShapes Go.WideShapes Go.RowKit
inductive Sh (P:Program) (B:Nat):TypeId->List AV->Prop
 | bool {t:TypeId} {b:Bool} (h:P.underlying t=some .bool):Sh P B t [.pr (.bool b)]
 | int {t:TypeId} {k:IntKind} {n:Int} (h:P.underlying t=some (.int k)) (hw:(Lit.int k n).wf=true):Sh P B t [.pr (.int k n)]
 | str {t:TypeId} {s:ByteArray} (h:P.underlying t=some .string) (hs:s.size<=B):Sh P B t [.pr (.string s)]
 | slice {t e:TypeId} {es:List (List AV)} (h:P.underlying t=some (.slice e)) (hl:es.length<=B) (he:∀x∈es,Sh P B e x):Sh P B t [.im (P.cellsOf e) es]
 | struct {t:TypeId} {fs:Array Field} {as:List (List AV)} (h:P.underlying t=some (.struct fs)) (hl:as.length=fs.size)
  (hf:∀(i:Nat) (f:Field) (a:List AV),fs[i]?=some f->as[i]?=some a->Sh P B f.type a)
  (hf2:∀(i:Nat) (f:Field) (a:List AV),fs[i]?=some f->as[i]?=some a->a.length=P.cellsOf f.type):Sh P B t as.flatten
def RdL (h:Array Obj) (S:Nat->Prop) (cs:List Value) (avs:List AV):Prop:=cs.length=avs.length/\∀(j:Nat) (v:Value) (av:AV),cs[j]?=some v->avs[j]?=some av->RdI h S v av
theorem RdL.one {h:Array Obj} {S:Nat->Prop} {v:Value} {av:AV} (r:RdI h S v av):RdL h S [v] [av]:=
 ⟨rfl,λj v' av' hj hj'=>by
  cases j with
  | zero=>simp at hj hj';subst hj;subst hj';exact r
  | succ j=>simp at hj⟩
theorem RdL.append {h:Array Obj} {S:Nat->Prop} {cs cs':List Value} {avs avs':List AV} (r:RdL h S cs avs) (r':RdL h S cs' avs'):RdL h S (cs++cs') (avs++avs'):=by
 refine ⟨by rw[List.length_append,List.length_append,r.1,r'.1],λj v av hj hj'=>?_⟩;by_cases hlt:j<cs.length
 ·rw[List.getElem?_append_left hlt] at hj;rw[List.getElem?_append_left (by rw[<- r.1];exact hlt)] at hj';exact r.2 j v av hj hj'
 ·rw[List.getElem?_append_right (by omega)] at hj;rw[List.getElem?_append_right (by rw[<- r.1];omega),<- r.1] at hj';exact r'.2 _ v av hj hj'
def plainTy (P:Program):Nat->TypeId->Bool
 | 0,_=>false
 | n+1,t=>match P.underlying t with
   | some .bool=>P.cellsOf t==1
   | some (.int _)=>P.cellsOf t==1
   | some .string=>P.cellsOf t==1
   | some (.slice e)=>P.cellsOf t==1&&decide (0<P.cellsOf e)&&plainTy P n e
   | some (.struct fs)=>fs.toList.all λf=>plainTy P n f.type
   | _=>false
def bulkLe {H:Type} (B:Nat):DataW H->Prop
 | .lit (.string bs)=>bs.length<=B
 | .slice elems _=>elems.length<=B/\bulkLes B elems
 | .agg ds=>bulkLes B ds
 | _=>True
where bulkLes {H:Type} (B:Nat):List (DataW H)->Prop
 | []=>True
 | d::r=>bulkLe B d/\bulkLes B r
theorem bulkLes_mem {H:Type} {B:Nat} {l:List (DataW H)} (h:bulkLe.bulkLes B l) {d:DataW H} (hd:d∈l):bulkLe B d:=by
 induction l with
 | nil=>cases hd
 | cons x r ih=>
   simp only[bulkLe.bulkLes] at h;cases hd with
   | head=>exact h.1
   | tail _ hd=>exact ih h.2 hd
theorem choose_list {α:Type} {R:Nat->α->Prop}:∀(n:Nat),(∀i,i<n->∃x,R i x)->∃l:List α,l.length=n/\∀i x,l[i]?=some x->R i x
 | 0,_=>⟨[],rfl,by simp⟩
 | n+1,h=>by
   obtain ⟨l,h1,h2⟩:=choose_list n λi hi=>h i (by omega);obtain ⟨x,hx⟩:=h n (by omega);refine ⟨l++[x],by simp[h1],λi y hy=>?_⟩;by_cases hlt:i<l.length
   ·rw[List.getElem?_append_left hlt] at hy;exact h2 i y hy
   ·rw[List.getElem?_append_right (by omega)] at hy;have:i-l.length=0:=by
     cases hk:i-l.length with
     | zero=>rfl
     | succ k=>rw[hk] at hy;simp at hy
    rw[this] at hy;simp at hy;have:i=n:=(by omega);subst this;subst hy;exact hx
section
variable {H:Type} {enc:TypeId×Value->H} {P:Program} {w:World} {sp:Nat->Bool} {held:Bool} {B:Nat}
theorem cell_of {a:Addr} {k n:Nat} {cs:List Value} (h:w.cells? 0 (a.add k) n=some cs):cs.length=n/\∀j,j<n->w.cell? ((a.add k).add j)=cs[j]?:=by unfold World.cells? at h;rw[if_pos (Nat.zero_le _)] at h;refine ⟨by simpa using mapM_some_length h,λj hj=>?_⟩;exact mapM_some_get h j j (by simp[hj])
theorem cell_here {a:Addr} {v:Value} (h:w.cell? a=some v):a.spot=none/\∃c e fz,w.heap[a.block]?=some (.cells c e fz)/\c[a.off]?=some v:=by
 unfold World.cell? at h;split at h
 ·rename_i c e fz hb;split at h
  ·cases h
  ·rename_i hs;refine ⟨by simpa using hs,c,e,fz,hb,h⟩
 ·cases h
theorem add_add (a:Addr) (i j:Nat) (ha:a.spot=none):(a.add i).add j=⟨a.block,a.off+i+j,none⟩:=by obtain ⟨b,o,s⟩:=a;simp only at ha;subst ha;unfold Addr.add;split<;>split<;>simp_all [Nat.add_assoc]
theorem sh_of_trod (K:Kids P (·<P.types.size)):∀(m:Nat) (t:TypeId) (n:Nat) (cs:List Value) (x:DataW H×List MemPlace),plainTy P m t=true->t<P.types.size ->
 DataW.trod enc P w 0 sp held n t cs=some x->bulkLe B x.1->∃avs,Sh P B t avs/\avs.length=P.cellsOf t/\RdL w.heap (·<w.heap.size) cs avs:=by
 intro m
 induction m with
 | zero=>intro t n cs x h;simp[plainTy] at h
 | succ m ih=>
   intro t n cs x hp hts h hb;unfold plainTy at hp;split at hp
   ·rename_i ht;obtain ⟨b,rfl,rfl⟩:=DataW.trod_bool ht h;exact ⟨_,.bool ht (b:=b),by simpa using (beq_iff_eq.1 hp).symm,.one (.pr _ rfl)⟩
   ·rename_i k ht;obtain ⟨v,rfl,rfl,hw⟩:=DataW.trod_int ht h;exact ⟨_,.int ht hw,by simpa using (beq_iff_eq.1 hp).symm,.one (.pr _ rfl)⟩
   ·rename_i ht;obtain ⟨s,rfl,hx⟩:=DataW.trod_string ht h;have hx:x=(.lit (.string s.data.toList),[]):=(by first|exact hx|exact hx.1);subst hx;refine ⟨_,.str ht (s:=s) ?_,by simpa using (beq_iff_eq.1 hp).symm,.one (.pr _ rfl)⟩;have:s.data.toList.length<=B:=hb;rw[Array.length_toList] at this;exact this
   ·rename_i e ht;simp only[Bool.and_eq_true,beq_iff_eq,decide_eq_true_eq] at hp;obtain ⟨⟨hp1,hp2⟩,hp3⟩:=hp;rcases DataW.trod_slice ht h with ⟨rfl,rfl⟩|⟨a,len,cap,elems,rest,n',rfl,rfl,rfl,hba,hlc,hcm,hel,hget,_,_⟩
    ·exact ⟨_,.slice ht (es:=[]) (Nat.zero_le _) (by simp),by simpa using hp1.symm,.one (.im0 none 0 _)⟩
    ·obtain ⟨hb1,hb2⟩:(elems.map λy=>y.1).length<=B/\bulkLe.bulkLes B (elems.map λy:DataW H×List MemPlace=>y.1):=hb;have key:∀i,i<len->∃avs,Sh P B e avs/\avs.length=P.cellsOf e/\∃csi,w.cells? 0 (a.add (i*P.cellsOf e)) (P.cellsOf e)=some csi/\RdL w.heap (·<w.heap.size) csi avs:=by
      intro i hi;have h1:=hget i hi;have hi':i<elems.length:=(by omega);rw[List.getElem?_eq_getElem hi',Option.bind_eq_some_iff] at h1;obtain ⟨csi,h2,h3⟩:=h1;obtain ⟨avs,g1,g2,g3⟩:=ih e n' csi _ hp3 (K.slice hts ht) h3 (bulkLes_mem hb2 (List.mem_map.2 ⟨_,List.getElem_mem hi',rfl⟩));exact ⟨avs,g1,g2,csi,h2,g3⟩
     obtain ⟨es,hes,hR⟩:=choose_list len key;by_cases h0:len=0
     ·subst h0;refine ⟨_,.slice ht (es:=[]) (Nat.zero_le _) (by simp),by simpa using hp1.symm,.one (.im0 (some a) cap _)⟩
     ·-- the block
      obtain ⟨avs0,_,_,cs0,hc0,_⟩:=key 0 (by omega);obtain ⟨hl0,hg0⟩:=cell_of hc0;have h00:=hg0 0 hp2;rw[List.getElem?_eq_getElem (by omega)] at h00;have hspot:a.spot=none:=by have:=(cell_here h00).1;simpa [Addr.add] using this
      obtain ⟨_,c,el,fz,hblk,_⟩:=cell_here h00;have hblk:w.heap[a.block]?=some (.cells c el fz):=(by simpa [Addr.add] using hblk);have hcell:∀i j av,cellAt es i j=some av->∃v,c[a.off+i*P.cellsOf e+j]?=some v/\RdI w.heap (·<w.heap.size) v av:=by
       intro i j av hij;unfold cellAt at hij;cases hi:es[i]? with
       | none=>rw[hi] at hij;cases hij
       | some avs=>
         rw[hi] at hij;have hij:avs[j]?=some av:=hij;obtain ⟨_,g2,csi,g3,g4⟩:=hR i avs hi;obtain ⟨k1,k2⟩:=cell_of g3;have hj:j<P.cellsOf e:=by have:=(List.getElem?_eq_some_iff.1 hij).1;omega
         have h2:=k2 j hj;rw[List.getElem?_eq_getElem (by omega)] at h2;rw[add_add a _ _ hspot] at h2;obtain ⟨_,c',_,_,q1,q2⟩:=cell_here h2;rw[hblk] at q1;cases q1;exact ⟨_,q2,g4.2 j _ av (List.getElem?_eq_getElem (by omega)) hij⟩
      refine ⟨_,.slice ht (es:=es) (by rw[hes,<- hel];simpa using hb1) (λx hx=>?_),by simpa using hp1.symm,.one ?_⟩
      ·obtain ⟨i,hi,rfl⟩:=List.mem_iff_getElem.1 hx;exact (hR i _ (List.getElem?_eq_getElem hi)).1
      ·have:=RdI.im (h:=w.heap) (S:=(·<w.heap.size)) (β:=a.block) (o:=a.off) (cap:=cap) (sz:=P.cellsOf e) (c:=c) (e:=el) (fz:=fz) (es:=es) (λi j=>c.getD (a.off+i*P.cellsOf e+j) undef)
        (Array.getElem?_eq_some_iff.1 hblk).1 hblk (by omega) (λx hx=>by
         obtain ⟨i,hi,rfl⟩:=List.mem_iff_getElem.1 hx;exact (hR i _ (List.getElem?_eq_getElem hi)).2.1)
        (λi j av hij=>by obtain ⟨u,m1,_⟩:=hcell i j av hij;rw[Array.getD_eq_getD_getElem?,m1];rfl)
        (λi j av hij=>by obtain ⟨u,m1,m2⟩:=hcell i j av hij;rw[Array.getD_eq_getD_getElem?,m1];exact m2)
       rw[hes] at this;obtain ⟨b,o,s⟩:=a;simp only at hspot;subst hspot;exact this
   ·rename_i fs ht;simp only[List.all_eq_true] at hp;obtain ⟨xs,n',rfl,rfl,hl,hxl,hget⟩:=DataW.trod_struct ht h;obtain ⟨k1,k2,k3⟩:=K.struct hts ht;have hb:bulkLe.bulkLes B (xs.map (·.1)):=hb;have key:∀i,i<fs.size->∃avs,∃f,fs[i]?=some f/\Sh P B f.type avs/\avs.length=P.cellsOf f.type/\RdL w.heap (·<w.heap.size) ((cs.drop f.offset).take (P.cellsOf f.type)) avs:=by
     intro i hi;have hf:fs[i]?=some fs[i]:=Array.getElem?_eq_getElem hi;have h1:=hget i _ hf;have hi':i<xs.length:=(by omega);rw[List.getElem?_eq_getElem hi'] at h1;have hmem:fs[i]∈fs.toList:=(by simp);obtain ⟨avs,g1,g2,g3⟩:=ih _ n' _ _ (hp _ hmem) (k1 _ hmem) h1 (bulkLes_mem hb (List.mem_map.2 ⟨_,List.getElem_mem hi',rfl⟩));exact ⟨avs,_,hf,g1,g2,g3⟩
    obtain ⟨as,has,hR⟩:=choose_list fs.size key;have hcut:∀k,k<=fs.size->(as.take k).flatten.length=((fs.toList.take k).map λf=>P.cellsOf f.type).sum/\RdL w.heap (·<w.heap.size) (cs.take (((fs.toList.take k).map λf=>P.cellsOf f.type).sum)) (as.take k).flatten:=by
     intro k
     induction k with
     | zero=>intro _;simp;exact ⟨by simp,by simp⟩
     | succ k ihk=>
       intro hk;obtain ⟨i1,i2⟩:=ihk (by omega);have hka:k<as.length:=(by omega);have hkf:k<fs.toList.length:=by rw[Array.length_toList];omega
       obtain ⟨f,f1,f2,f3,f4⟩:=hR k _ (List.getElem?_eq_getElem hka);have hfe:fs.toList[k]=f:=by have:fs.toList[k]?=some f:=(by simpa using f1);rw[List.getElem?_eq_getElem hkf] at this;exact Option.some.inj this
       have hoff:=k3 k f (by simpa using f1);rw[List.take_succ_eq_append_getElem hka,List.take_succ_eq_append_getElem hkf,List.map_append,List.sum_append,List.flatten_append,hfe];simp only[List.map_cons,List.map_nil,List.sum_cons,List.sum_nil,Nat.add_zero,List.flatten_cons,List.flatten_nil,List.append_nil];refine ⟨by rw[List.length_append,i1,f3],?_⟩;rw[List.take_add];rw[hoff] at f4;exact i2.append f4
    obtain ⟨c1,c2⟩:=hcut fs.size (Nat.le_refl _);have e1:as.take fs.size=as:=List.take_of_length_le (by omega);have e2:fs.toList.take fs.size=fs.toList:=List.take_of_length_le (by simp);rw[e1,e2] at c1 c2;rw[<- k2] at c1 c2;rw[List.take_of_length_le (by omega)] at c2;refine ⟨as.flatten,.struct ht has (λi f a hf ha=>?_) (λi f a hf ha=>?_),c1,c2⟩
    ·obtain ⟨f',f1,f2,f3,_⟩:=hR i a ha;rw[hf] at f1;cases f1;exact f2
    ·obtain ⟨f',f1,f2,f3,_⟩:=hR i a ha;rw[hf] at f1;cases f1;exact f3
   ·cases hp
def oneTy (P:Program) (t:TypeId):Bool:=match P.underlying t with
 | some .bool|some (.int _)|some .string|some (.slice _)=>true
 | _=>false
theorem one_cells {t:TypeId} {v:Value} {r:Go.Reach} {b:Nat} (ht:oneTy P t=true) (hv:Value.okWide P w r b t v):v.cells.toList=[v]/\v.oneCell'=true:=by
 unfold oneTy at ht;split at ht
 ·rename_i h;obtain ⟨x,rfl⟩:=okWide_bool h hv;exact ⟨rfl,rfl⟩
 ·rename_i h;obtain ⟨x,rfl⟩:=okWide_int h hv;exact ⟨rfl,rfl⟩
 ·rename_i h;obtain ⟨x,rfl⟩:=okWide_string h hv;exact ⟨rfl,rfl⟩
 ·rename_i h;obtain ⟨x,y,z,rfl⟩:=okWide_slice h hv;exact ⟨rfl,rfl⟩
 ·cases ht
theorem trodAll_stays {w':World} {sp':Nat->Bool} (K:Kids P (·<P.types.size)) (hsz:∀{t e:TypeId},t<P.types.size->P.underlying t=some (.slice e)->0<P.cellsOf e) (hsame:∀β,β<w.heap.size->w'.heap[β]?=w.heap[β]?) :
 ∀{ts:List TypeId} {vs:List Value} {ds:List (DataW H)} {ps:List MemPlace},(∀t∈ts,t<P.types.size)->DataW.TrodAll enc P w 0 (λ_=>true) true ts vs ds ps->(∀p∈ps,p.block<w.heap.size)->(∀p∈ps,sp' p.block=true) ->
 DataW.TrodAll enc P w' 0 sp' true ts vs ds ps:=by
 intro ts
 induction ts with
 | nil=>
   intro vs ds ps _ h _ _;obtain ⟨rfl,rfl,rfl⟩:=trodAll_nil h;exact trodAll_mk0
 | cons t ts ih=>
   intro vs ds ps ht h hlt hsp;obtain ⟨v,vs',d,ds',p,q,rfl,rfl,rfl,⟨n,h1⟩,h2⟩:=trodAll_cons h;refine trodAll_cons_mk ⟨n,DataW.trod_stays K hsz (λh=>by cases h) (ht t (by simp)) h1 (λx hx=>?_) λx hx=>hsp x (List.mem_append_left _ hx)⟩ (ih (λt h=>ht t (by simp[h])) h2 (λx hx=>hlt x (List.mem_append_right _ hx)) λx hx=>hsp x (List.mem_append_right _ hx));have hb:=hlt x (List.mem_append_left _ hx);cases x with
   | cell b off=>simp only[World.sameAt,World.cell?,hsame b hb]
   | map b=>exact hsame b hb
theorem law_post {f:Func} {s:ChangeSpec} {w':World} {args:Array Value} {ds gs:List (DataW H)} {before:List MemPlace} {tb:TypeId} (K:Kids P (·<P.types.size))
 (hsz:∀{t e:TypeId},t<P.types.size->P.underlying t=some (.slice e)->0<P.cellsOf e) (hts:∀t∈f.params.toList,t<P.types.size) (hvars:s.vars=[])
 (hres:f.resultTypes=#[tb]) (htb:P.underlying tb=some .bool) (hW:DataW.Whole enc P f.params.toList s.vars false w args.toList ds gs before)
 (hsame:∀β,β<w.heap.size->w'.heap[β]?=w.heap[β]?) (hos:w'.os=w.os) (hout:w'.output=w.output)
 (hfn:s.fn H (ds++gs)={results:=[.lit (.bool true)],args:=ds}):s.post enc P f false true false false w args (.bool true) w':=by
 have hW':=hW;have hlt:=hW.lt;obtain ⟨p,q,hA,hV,rfl,_,_⟩:=hW;rw[hvars] at hV;obtain ⟨rfl,rfl⟩:=trodVars_none hV;refine ⟨ds,[],p++[],[],p,[],hW',?_,?_,?_,⟨hos,hout,λi hi=>?_⟩,λh=>by cases h⟩
 ·rw[hfn,hres];exact trodAll_cons_mk (shut_bool htb true) trodAll_mk0
 ·rw[hfn];refine trodAll_stays K hsz hsame hts hA (λx hx=>hlt x (by simpa using hx)) λx hx=>?_;simpa using hlt x (by simpa using hx)
 ·rw[hfn,hvars];rfl
 ·rw[hsame i hi,Array.getElem?_eq_getElem hi];cases hx:w.heap[i] with
  | cells c t fr=>exact ⟨rfl,rfl,rfl,λ_ _=>rfl⟩
  | map es clock=>exact .inr ⟨rfl,rfl⟩
  | _=>rfl
end
section
variable {P:Program} {B:Nat} {t:TypeId} {avs:List AV}
theorem sh_int {k:IntKind} (ht:P.underlying t=some (.int k)) (h:Sh P B t avs):∃n,avs=[.pr (.int k n)]/\(Lit.int k n).wf=true:=by
 cases h with
 | int h hw=>rw[ht] at h;cases h;exact ⟨_,rfl,hw⟩
 | _ h=>rw[ht] at h;cases h
theorem sh_str (ht:P.underlying t=some .string) (h:Sh P B t avs):∃s,avs=[.pr (.string s)]/\s.size<=B:=by
 cases h with
 | str h hs=>exact ⟨_,rfl,hs⟩
 | _ h=>rw[ht] at h;cases h
theorem sh_slice {e:TypeId} (ht:P.underlying t=some (.slice e)) (h:Sh P B t avs):∃es,avs=[.im (P.cellsOf e) es]/\es.length<=B/\∀x∈es,Sh P B e x:=by
 cases h with
 | slice h hl he=>rw[ht] at h;cases h;exact ⟨_,rfl,hl,he⟩
 | _ h=>rw[ht] at h;cases h
theorem sh_struct {fs:Array Field} (ht:P.underlying t=some (.struct fs)) (h:Sh P B t avs):∃as:List (List AV),avs=as.flatten/\as.length=fs.size/\∀(i:Nat) (f:Field) (a:List AV),fs[i]?=some f->as[i]?=some a->Sh P B f.type a:=by
 cases h with
 | struct h hl hf _=>rw[ht] at h;cases h;exact ⟨_,rfl,hl,hf⟩
 | _ h=>rw[ht] at h;cases h
end
theorem map_choose {α β:Type} {f:α->β} {p:α->Prop}:∀{es:List β},(∀x∈es,∃a,x=f a/\p a)->∃l:List α,es=l.map f/\∀a∈l,p a
 | [],_=>⟨[],rfl,by simp⟩
 | x::r,h=>by
   obtain ⟨l,h1,h2⟩:=map_choose λy hy=>h y (List.mem_cons_of_mem _ hy);obtain ⟨a,h3,h4⟩:=h x List.mem_cons_self;refine ⟨a::l,by rw[h1,h3];rfl,λb hb=>?_⟩;cases hb with
   | head=>exact h4
   | tail _ hb=>exact h2 b hb
end Go.Vc
namespace Go.Vc
mutual
def AV.fz (id:Nat) (o:Ob):AV->AV
 | .rf i off len=>if i=id then .im o.sz ((o.es.drop off).take len) else .rf i off len
 | .pt i j off=>if i=id then (match o.es[j]? with|some cs=>.ro cs off|none=>.un) else .pt i j off
 | .ag cs=>.ag (fzs id o cs)
 | .tu cs=>.tu (fzs id o cs)
 | .fn f cs=>.fn f (fzs id o cs)
 | .un=>.un
 | .pr v=>.pr v
 | .nl=>.nl
 | .im sz es=>.im sz es
 | .ro cs off=>.ro cs off
def fzs (id:Nat) (o:Ob):List AV->List AV
 | []=>[]
 | x::r=>x.fz id o::fzs id o r
end
theorem fzs_map (id:Nat) (o:Ob) (l:List AV):fzs id o l=l.map (AV.fz id o):=by
 induction l with
 | nil=>rfl
 | cons x r ih=>simp[fzs,ih]
@[go_sem] theorem fz_rf (id:Nat) (o:Ob) (i off len:Nat):(AV.rf i off len).fz id o=if i=id then .im o.sz ((o.es.drop off).take len) else .rf i off len:=by rw[AV.fz]
@[go_sem] theorem fz_pt (id:Nat) (o:Ob) (i j off:Nat):(AV.pt i j off).fz id o=if i=id then (match o.es[j]? with|some cs=>.ro cs off|none=>.un) else .pt i j off:=by rw[AV.fz]
@[go_sem] theorem fz_ag (id:Nat) (o:Ob) (cs:List AV):(AV.ag cs).fz id o=.ag (fzs id o cs):=by rw[AV.fz]
@[go_sem] theorem fz_tu (id:Nat) (o:Ob) (cs:List AV):(AV.tu cs).fz id o=.tu (fzs id o cs):=by rw[AV.fz]
@[go_sem] theorem fz_fn (id:Nat) (o:Ob) (f:Nat) (cs:List AV):(AV.fn f cs).fz id o=.fn f (fzs id o cs):=by rw[AV.fz]
@[go_sem] theorem fz_un (id:Nat) (o:Ob):AV.un.fz id o=.un:=by rw[AV.fz]
@[go_sem] theorem fz_pr (id:Nat) (o:Ob) (v:Value):(AV.pr v).fz id o=.pr v:=by rw[AV.fz]
@[go_sem] theorem fz_nl (id:Nat) (o:Ob):AV.nl.fz id o=.nl:=by rw[AV.fz]
@[go_sem] theorem fz_im (id:Nat) (o:Ob) (sz:Nat) (es:List (List AV)):(AV.im sz es).fz id o=.im sz es:=by rw[AV.fz]
@[go_sem] theorem fz_ro (id:Nat) (o:Ob) (cs:List AV) (off:Nat):(AV.ro cs off).fz id o=.ro cs off:=by rw[AV.fz]
@[go_sem] theorem fzs_nil (id:Nat) (o:Ob):fzs id o []=[]:=by rw[fzs]
@[go_sem] theorem fzs_cons (id:Nat) (o:Ob) (x:AV) (r:List AV):fzs id o (x::r)=x.fz id o::fzs id o r:=by rw[fzs]
theorem fz_leaf (id:Nat) (o:Ob):∀(a:AV),a.leaf=true->a.fz id o=a:=by
 intro a h;cases a with
 | fn f cs=>cases cs with
   | nil=>rw[fz_fn,fzs_nil]
   | cons x r=>simp[AV.leaf] at h
 | pr v=>exact fz_pr _ _ _
 | nl=>exact fz_nl _ _
 | im sz es=>exact fz_im _ _ _ _
 | _=>simp[AV.leaf] at h
def fzE (id:Nat) (o:Ob) (es:List (List AV)):List (List AV):=es.map (fzs id o)
theorem fzE_leafy {id:Nat} {o:Ob} {es:List (List AV)} (h:∀x∈es,∀a∈x,a.leaf=true):fzE id o es=es:=by
 rw[fzE]
 conv=>rhs;rw[<- List.map_id es]
 refine List.map_congr_left λx hx=>?_;rw[fzs_map,id_eq]
 conv=>rhs;rw[<- List.map_id x]
 exact List.map_congr_left λa ha=>fz_leaf _ _ a (h x hx a ha)
def fzR (id:Nat) (o:Ob) (r:Nat->AV):Nat->AV:=λt=>(r t).fz id o
def fzO (id:Nat) (o:Ob) (O:Nat->Option Ob):Nat->Option Ob:=λi=>if i=id then none else (O i).map λx=>⟨x.sz,fzE id o x.es⟩
@[go_sem] theorem fzR_upd (id:Nat) (o:Ob) (r:Nat->AV) (n:Nat) (a:AV):fzR id o (upd r n a)=upd (fzR id o r) n (a.fz id o):=by funext t;simp only[fzR,upd];split<;>rfl
@[go_sem] theorem fzR_un (id:Nat) (o:Ob):fzR id o (λ_=>AV.un)=λ_=>AV.un:=by funext t;simp only[fzR,fz_un]
def fzX (id:Nat) (o:Ob) (i:Nat) (x:Option Ob):Option Ob:=if i=id then none else x.map λx=>⟨x.sz,fzE id o x.es⟩
@[go_sem] theorem fzX_none (id:Nat) (o:Ob) (i:Nat):fzX id o i none=none:=by simp[fzX]
@[go_sem] theorem fzX_some (id:Nat) (o:Ob) (i sz:Nat) (es:List (List AV)):fzX id o i (some ⟨sz,es⟩)=if i=id then none else some ⟨sz,fzE id o es⟩:=by simp[fzX]
@[go_sem] theorem fzO_upd (id:Nat) (o:Ob) (O:Nat->Option Ob) (i:Nat) (x:Option Ob):fzO id o (upd O i x)=upd (fzO id o O) i (fzX id o i x):=by
  funext t;simp only[fzO,upd,fzX]
  by_cases h:i=t
  ·subst h;simp
  ·simp[h]
@[go_sem] theorem fzO_no (id:Nat) (o:Ob):fzO id o noOb=noOb:=by funext t;simp only[fzO,noOb];split<;>rfl
@[go_sem] theorem fzE_nil (id:Nat) (o:Ob):fzE id o []=[]:=rfl
@[go_sem] theorem fzE_cons (id:Nat) (o:Ob) (x:List AV) (r:List (List AV)):fzE id o (x::r)=fzs id o x::fzE id o r:=rfl
theorem fzE_get (id:Nat) (o:Ob) (es:List (List AV)) (i j:Nat) (av:AV) (h:cellAt (fzE id o es) i j=some av):∃a,cellAt es i j=some a/\av=a.fz id o:=by
 unfold cellAt fzE at *;rw[List.getElem?_map] at h;cases he:es[i]? with
 | none=>rw[he] at h;cases h
 | some x=>
   rw[he] at h;simp only[Option.map_some,fzs_map] at h;have h:(x.map (AV.fz id o))[j]?=some av:=h;rw[List.getElem?_map] at h;cases hx:x[j]? with
   | none=>rw[hx] at h;cases h
   | some a=>rw[hx] at h;cases h;exact ⟨a,hx,rfl⟩
def St.frz (id:Nat) (o:Ob) (s:St):St:={regs:=fzR id o s.regs,objs:=fzO id o s.objs,used:=s.used}
theorem frz_rep {F:Fr} {φ:Nat->Option (Nat×Nat)} {w:World} {st:St} {id:Nat} {o:Ob} (H:RepH F φ st.objs (·∈st.used) w) (ho:st.objs id=some o) (hl:o.leafy) :
 RepH F φ (fzO id o st.objs) (·∈st.used) w/\∀{v:Value} {av:AV},RepV φ st.objs (·∈st.used) w.heap (SS F φ st.objs w) v av->RepV φ (fzO id o st.objs) (·∈st.used) w.heap (SS F φ (fzO id o st.objs) w) v (av.fz id o):=by
 have hO:∀i o',fzO id o st.objs i=some o'->i≠id/\∃x,st.objs i=some x/\o'=⟨x.sz,fzE id o x.es⟩:=by
  intro i o' h;simp only[fzO] at h;split at h
  ·cases h
  ·rename_i hi;cases hx:st.objs i with
   | none=>rw[hx] at h;cases h
   | some x=>rw[hx] at h;cases h;exact ⟨hi,x,rfl,rfl⟩
 have hS:∀β,SS F φ st.objs w β->SS F φ (fzO id o st.objs) w β/\w.heap[β]?=w.heap[β]?:=by intro β hβ;refine ⟨⟨hβ.1,λi o' b ho' hb=>?_,hβ.2.2⟩,rfl⟩;obtain ⟨_,x,h1,_⟩:=hO i o' ho';exact hβ.2.1 i x b h1 hb
 have hSi:∀β b,φ id=some (β,b)->SS F φ (fzO id o st.objs) w β:=by
  intro β b hb;refine ⟨H.lt ho hb,λi o' b' ho' hb'=>?_,λhlt=>?_⟩
  ·obtain ⟨hne,x,h1,_⟩:=hO i o' ho';exact hne (H.inj i id x o β b' b h1 ho hb' hb)
  ·rcases H.own id o β b ho hb with h'|h'
   ·exact .inr h'
   ·omega
 have hlen:∀es,(fzE id o es).length=es.length:=λes=>by simp[fzE]
 have key:∀{v:Value} {av:AV},RepV φ st.objs (·∈st.used) w.heap (SS F φ st.objs w) v av->RepV φ (fzO id o st.objs) (·∈st.used) w.heap (SS F φ (fzO id o st.objs) w) v (av.fz id o):=by
  intro v av r
  induction r with
  | un v=>rw[fz_un];exact .un v
  | @rd v av r=>
    cases r with
    | pr v h1=>rw[fz_pr];exact .rd (.pr _ h1)
    | nl=>rw[fz_nl];exact .rd .nl
    | im0 a cap sz=>rw[fz_im];exact .rd (.im0 _ _ _)
    | im vs hSb hb hcap hsz hc hr'=>rw[fz_im];exact .rd (RdI.mono hS (.im vs hSb hb hcap hsz hc hr'))
    | fn g=>rw[fz_fn,fzs_nil];exact .rd (.fn _)
  | @rf v i off len hu hv hr'=>
    rw[fz_rf];split
    ·rename_i hi;subst hi;exact .rd (frozen_im H hS ho hl hSi (hr' o ho))
    ·refine .rf hu hv λo' ho'=>?_;obtain ⟨_,x,h1,rfl⟩:=hO i o' ho';obtain ⟨g1,g2⟩:=hr' x h1;exact ⟨by rw[hlen];exact g1,g2⟩
  | @pt v i j off hu hv hr'=>
    rw[fz_pt];split
    ·rename_i hi;subst hi;split
     ·rename_i cs hj;exact frozen_ro H hS ho hl hj hSi (hr' o ho)
     ·exact .un _
    ·refine .pt hu hv λo' ho'=>?_;obtain ⟨_,x,h1,rfl⟩:=hO i o' ho';exact hr' x h1
  | ro vs hSb hb hc hr'=>rw[fz_ro];exact .ro vs (hS _ hSb).1 hb hc λj av hj=>(hr' j av hj).mono hS
  | ag hs' h1 hr' ih=>
    rw[fz_ag,fzs_map];refine .ag (by rw[List.length_map];exact hs') h1 λj av hj=>?_;rw[List.getElem?_map] at hj;obtain ⟨x,hx,rfl⟩:=Option.map_eq_some_iff.1 hj;exact ih j x hx
  | tu hs' hr' ih=>
    rw[fz_tu,fzs_map];refine .tu (by rw[List.length_map];exact hs') λj av hj=>?_;rw[List.getElem?_map] at hj;obtain ⟨x,hx,rfl⟩:=Option.map_eq_some_iff.1 hj;exact ih j x hx
  | fn hs' hr' ih=>
    rw[fz_fn,fzs_map];refine .fn (by rw[List.length_map];exact hs') λj av hj=>?_;rw[List.getElem?_map] at hj;obtain ⟨x,hx,rfl⟩:=Option.map_eq_some_iff.1 hj;exact ih j x hx
 refine ⟨?_,key⟩;refine {inj:=?_,inU:=?_,ob:=?_,own:=?_,below:=H.below,size:=H.size,os:=H.os,tape:=H.tape,output:=H.output,idsU:=H.idsU,keep0:=?_}
 ·intro i j oi oj β bi bj hi hj hbi hbj;obtain ⟨_,x,h1,_⟩:=hO i oi hi;obtain ⟨_,y,h2,_⟩:=hO j oj hj;exact H.inj i j x y β bi bj h1 h2 hbi hbj
 ·intro i o' ho';obtain ⟨_,x,h1,_⟩:=hO i o' ho';exact H.inU i x h1
 ·intro i o' ho';obtain ⟨_,x,h1,rfl⟩:=hO i o' ho';obtain ⟨r1,r2⟩:=H.ob i x h1;refine ⟨λy hy=>?_,?_⟩
  ·obtain ⟨z,hz,rfl⟩:=List.mem_map.1 hy;rw[fzs_map,List.length_map];exact r1 z hz
  ·rcases r2 with ⟨g1,g2⟩|⟨β,b,c,e,fz,g1,g2,g3,g4,g5⟩
   ·exact .inl ⟨g1,by show fzE id o x.es=[];rw[g2];rfl⟩
   ·refine .inr ⟨β,b,c,e,fz,g1,g2,g3,by show b+(fzE id o x.es).length*x.sz<=c.size;rw[hlen];exact g4,λk l av' hkl=>?_⟩;obtain ⟨av,q1,rfl⟩:=fzE_get id o x.es k l av' hkl;obtain ⟨u,p1,p2,p3⟩:=g5 k l av q1;exact ⟨u,p1,p2,key p3⟩
 ·intro i o' β b ho' hb;obtain ⟨_,x,h1,_⟩:=hO i o' ho';exact H.own i x β b h1 hb
 ·intro i hi o' ho';obtain ⟨_,x,h1,rfl⟩:=hO i o' ho';obtain ⟨oo,k1,k2,k3,k4,k5⟩:=H.keep0 i hi x h1;exact ⟨oo,k1,k2,k3,by show oo.es.length<=(fzE id o x.es).length;rw[hlen];exact k4,k5⟩
theorem frz_ent {st:St} {id:Nat} {o:Ob} (ho:st.objs id=some o) (hl:o.leafy):Ent st (st.frz id o):=by intro F n a w hF R;obtain ⟨hs,hd,φ,H,hr⟩:=R;obtain ⟨h1,h2⟩:=frz_rep H ho hl;exact ⟨hs,hd,φ,h1,λt=>h2 (hr t)⟩
theorem FRZ {K:St->Prop} {s:St} (id:Nat) (o:Ob) (ho:s.objs id=some o) (hl:o.leafy) (k:K (s.frz id o)):GOES K s:=⟨_,frz_ent ho hl,k⟩
@[go_sem] theorem frz_mk (id:Nat) (o:Ob) (r:Nat->AV) (O:Nat->Option Ob) (u:List Nat):St.frz id o ⟨r,O,u⟩=⟨fzR id o r,fzO id o O,u⟩:=rfl
theorem take_map_len {α β:Type} (f:α->β) (l:List α):List.take l.length (List.map f l)=List.map f l:=List.take_of_length_le (by simp)
theorem upd_none (O:Nat->Option Ob) (i:Nat) (h:O i=none):upd O i none=O:=by
 funext t;simp only[upd];split
 ·subst_vars;exact h.symm
 ·rfl
@[go_sem] theorem upd_noOb (i:Nat):upd noOb i none=noOb:=upd_none _ _ rfl
end Go.Vc
namespace Go.Vc
theorem frz_regs (id:Nat) (o:Ob) (st:St) (t:Nat):(st.frz id o).regs t=(st.regs t).fz id o:=rfl
mutual
theorem fz_noId {o:Ob}:∀(v:AV),v.only0=true->(v.fz 0 o).noId=true
 | .un,_=>by rw[fz_un];rfl
 | .pr v,_=>by rw[fz_pr];rfl
 | .nl,_=>by rw[fz_nl];rfl
 | .im a b,_=>by rw[fz_im];rfl
 | .rf a b c,h=>by
   have:a=0:=(by simpa [AV.only0] using h);rw[fz_rf,if_pos this];rfl
 | .pt a b c,h=>by
   have:a=0:=(by simpa [AV.only0] using h);rw[fz_pt,if_pos this];split<;>rfl
 | .ro a b,_=>by rw[fz_ro];rfl
 | .ag cs,h=>by rw[fz_ag];simp only[AV.noId];exact fzs_noIds cs (by simpa [AV.only0] using h)
 | .tu cs,h=>by rw[fz_tu];simp only[AV.noId];exact fzs_noIds cs (by simpa [AV.only0] using h)
 | .fn f cs,h=>by rw[fz_fn];simp only[AV.noId];exact fzs_noIds cs (by simpa [AV.only0] using h)
theorem fzs_noIds {o:Ob}:∀(l:List AV),only0s l=true->noIds (fzs 0 o l)=true
 | [],_=>by rw[fzs_nil];rfl
 | x::r,h=>by
   simp only[only0s,Bool.and_eq_true] at h;rw[fzs_cons];simp only[noIds,Bool.and_eq_true];exact ⟨fz_noId x h.1,fzs_noIds r h.2⟩
end
theorem Spec1.fz {P:Program} {f:Nat} {args:List AV} {R:AV->Ob->Prop} (h:Spec1 P f args R):Spec0 P f args λr=>∃r0 o,R r0 o/\r0.only0=true/\o.leafy/\r=r0.fz 0 o:=by
 refine ⟨h.1,λF φ w vs h1 h2 h3 H hs ha=>(h.2 F φ w vs h1 h2 h3 H hs ha).mono ?_⟩;rintro e w' ⟨v,r,O',φ',U',rfl,⟨o,⟨hR,h0⟩,hl,rfl⟩,H',rr⟩;have hF:∀i,F.O0 i≠none->i=0:=λi hi=>by rw[h2] at hi;exact absurd rfl hi
 have R0:Rep F 1 ⟨λt=>if t=0 then r else .un,upd noOb 0 (some o),U'⟩ {tmps:=#[v],defers:=[]} w':=by
  refine ⟨rfl,rfl,φ',H',λt=>?_⟩;by_cases ht:t=0
  ·subst ht;simpa using rr
  ·simp only[if_neg ht];exact .un _
 obtain ⟨_,_,φ2,H2,r2⟩:=frz_ent (id:=0) (o:=o) (st:=⟨λt=>if t=0 then r else .un,upd noOb 0 (some o),U'⟩) (by simp[upd]) hl F 1 _ w' hF R0;have r3:=r2 0;rw[frz_regs] at r3;have hO:(St.frz 0 o ⟨λt=>if t=0 then r else .un,upd noOb 0 (some o),U'⟩).objs=noOb:=by
  show fzO 0 o (upd noOb 0 (some o))=noOb
  funext i
  simp only[fzO,upd,noOb];by_cases hi:i=0
  ·simp[hi]
  ·rw[if_neg hi,if_neg (λe=>hi e.symm)];rfl
 have hn:(r.fz 0 o).noId=true:=fz_noId r h0;refine ⟨v,r.fz 0 o,noOb,φ2,U',rfl,⟨⟨⟨r,o,hR,h0,hl,rfl⟩,hn⟩,rfl⟩,?_,?_⟩
 ·rw[hO] at H2;exact H2
 ·rw[hO] at r3;exact r3
theorem VIF.tt {b:Bool} {A B:Prop} (hb:b=true) (h:A):VIF b A B:=⟨λ_=>h,λh'=>absurd (hb.symm.trans h') (by decide)⟩
theorem VIF.ff {b:Bool} {A B:Prop} (hb:b=false) (h:B):VIF b A B:=⟨λh'=>absurd (hb.symm.trans h') (by decide),λ_=>h⟩
theorem VIF.t {b:Bool} {A B:Prop} (k:A) (h:b=true:=by first|rfl|(simp;done)|(simp;omega)):VIF b A B:=VIF.tt h k
theorem VIF.f {b:Bool} {A B:Prop} (k:B) (h:b=false:=by first|rfl|(simp;done)|(simp;omega)):VIF b A B:=VIF.ff h k
end Go.Vc
namespace Go.Vc
open Go.Lib
structure InsRaw (P:Program) (f tS tI fo sz:Nat):Prop where
 fn : ∃ fn, P.funcs[f]? = some fn ∧ (fn.name == "runtime.NumGoroutine") = false ∧ fn.body.isSome = true
 ov:∀(w:World) (vs:Array Value),(∀tB:Nat,(Extern.SlicesOverlaps.overlaps #[tS,tS] #[tB] vs).run P w=.ok (.bool false) w)->(callFunc fo vs).run P w=.ok (.value (.bool false)) w
 atEnd:∀(base:Option Addr) (n c:Nat) (vb:Option Addr) (vc:Nat) (w:World) {r:Value} {w':World},(base=none->n=0) ->
  (Builtin.append_ #[tS,tS] tS #[.slice base n c,.slice vb 1 vc]).run P w=.ok r w'->n<=c->n<=1073741824 ->
  Calls P f #[.slice base n c,.int .i64 n,.slice vb 1 vc] w λe w''=>e=.returned r/\w''=w'
 shift:∀(b off n c k vb vo vc:Nat) (w:World),k<n->n+1<=c->n<=1073741824 ->
  (∀lb cb,(callFunc fo #[.slice (some ⟨vb,vo,none⟩) 1 vc,.slice (some ⟨b,off+(k+1)*sz,none⟩) lb cb]).run P w=.ok (.value (.bool false)) w) ->
  ∀{W1 W2:World} {m1 m2:Value},
  (∀ty dc sc,(Builtin.copy_ #[tS,tS] ty #[.slice (some ⟨b,off+(k+1)*sz,none⟩) (n-k) dc,.slice (some ⟨b,off+k*sz,none⟩) (n+1-k) sc]).run P w.drew=.ok m1 W1) ->
  (∀ty dc,(Builtin.copy_ #[tS,tS] ty #[.slice (some ⟨b,off+k*sz,none⟩) (n+1-k) dc,.slice (some ⟨vb,vo,none⟩) 1 vc]).run P W1=.ok m2 W2) ->
  Calls P f #[.slice (some ⟨b,off,none⟩) n c,.int .i64 k,.slice (some ⟨vb,vo,none⟩) 1 vc] w λe w'=>e=.returned (.slice (some ⟨b,off,none⟩) (n+1) c)/\w'=W2
 grow:∀(b off n c k vb vo vc N G:Nat) (w:World),k<n->n<=c->c<n+1->n<=1073741824->n+1<=G ->
  ∀{W1 W2 W3:World} {m1 m2:Value},
  (Builtin.append_ #[tS,tI] tS #[.slice (some ⟨b,off,none⟩) k c,.int .i64 ((n:Int)+1-(k:Int))]).run P w=.ok (.slice (some ⟨N,0,none⟩) (n+1) G) W1 ->
  (∀ty dc,(Builtin.copy_ #[tS,tS] ty #[.slice (some ⟨N,k*sz,none⟩) (n+1-k) dc,.slice (some ⟨vb,vo,none⟩) 1 vc]).run P W1=.ok m1 W2) ->
  (∀ty dc sc,(Builtin.copy_ #[tS,tS] ty #[.slice (some ⟨N,(k+1)*sz,none⟩) (n-k) dc,.slice (some ⟨b,off+k*sz,none⟩) (n-k) sc]).run P W2.drew=.ok m2 W3) ->
  Calls P f #[.slice (some ⟨b,off,none⟩) n c,.int .i64 k,.slice (some ⟨vb,vo,none⟩) 1 vc] w λe w'=>e=.returned (.slice (some ⟨N,0,none⟩) (n+1) G)/\w'=W3
theorem run_copy_blk {P:Program} {w:World} {dT sT ty elem:TypeId} {i:TypeInfo} {β o dLen dCap sLen sCap n:Nat} {a:Addr} {c:Array Value} {e:TypeId} {fz:Nat×Nat} {vs:List Value}
 (hu:P.underlying dT=some (.slice elem)) (hi:P.info? elem=some i) (hn:Nat.min sLen dLen=n) (hl:vs.length=n*i.size)
 (hsrc:∀j v,vs[j]?=some v->w.cell? (a.add j)=some v) (hb:w.heap[β]?=some (.cells c e fz)) (hs:Soft c fz) (hfit:o+vs.length<=c.size) (h1:∀v∈vs,v.oneCell'=true) :
 (Builtin.copy_ #[dT,sT] ty #[.slice (some ⟨β,o,none⟩) dLen dCap,.slice (some a) sLen sCap]).run P w=.ok (goInt n) (World.setBlk w β (putAt c o vs) e fz):=by
 have hld:=run_loadCells_list (P:=P) w a vs hsrc;rw[hl] at hld;have hst:=run_storeCells_blk (P:=P) o vs 0 w c hb hs (by omega) h1;simp[Builtin.copy_,run_underlying hu,Builtin.lenOf,Builtin.firstCells,sizeOf,typeInfo,hi,hn,hld,hst]
def seg (c:Array Value) (o m:Nat):List Value:=(List.range m).map λj=>c.getD (o+j) undef
theorem seg_len (c:Array Value) (o m:Nat):(seg c o m).length=m:=by simp[seg]
theorem seg_get {c:Array Value} {o m j:Nat} (hj:j<m) (hm:o+m<=c.size):(seg c o m)[j]?=c[o+j]?:=by
 have h:o+j<c.size:=by omega
 simp[seg,hj,h]
theorem seg_some {c:Array Value} {o m j:Nat} {v:Value} (hm:o+m<=c.size) (h:(seg c o m)[j]?=some v):j<m/\c[o+j]?=some v:=by
 have hj:j<m:=by have:=(List.getElem?_eq_some_iff.1 h).1;rwa [seg_len] at this
 exact ⟨hj,by rw[<- seg_get hj hm];exact h⟩
theorem segs_one {R:Value->AV->Prop} {c:Array Value} {b sz:Nat} {es:List (List AV)} (hpos:0<sz) (hsz:∀x∈es,x.length=sz)
 (hc:∀i j av,cellAt es i j=some av->∃v,c[b+i*sz+j]?=some v/\v.oneCell'=true/\R v av) {m:Nat} (hm:m<es.length*sz):∃v,c[b+m]?=some v/\v.oneCell'=true:=by
 have hi:m / sz<es.length:=by rw[Nat.div_lt_iff_lt_mul hpos];exact hm
 have hj:m%sz<sz:=Nat.mod_lt _ hpos;obtain ⟨av,hav⟩:=cellAt_some hsz hi hj;obtain ⟨v,h1,h2,_⟩:=hc _ _ _ hav;refine ⟨v,?_,h2⟩;have:b+m / sz*sz+m%sz=b+m:=by have:=Nat.div_add_mod m sz;rw[Nat.mul_comm] at this;omega
 rwa [this] at h1
theorem ins_cells {p:Value->AV->Prop} {sz k:Nat} {es:List (List AV)} {x:List AV} {C:Array Value} {B:Nat} (hk:k<=es.length)
 (h1:∀i j av,i<k->cellAt es i j=some av->∃v,C[B+i*sz+j]?=some v/\p v av)
 (h2:∀j av,x[j]?=some av->∃v,C[B+k*sz+j]?=some v/\p v av)
 (h3:∀i j av,k<=i->cellAt es i j=some av->∃v,C[B+(i+1)*sz+j]?=some v/\p v av) :
 ∀i j av,cellAt (es.take k++x::es.drop k) i j=some av->∃v,C[B+i*sz+j]?=some v/\p v av:=by
 intro i j av h;have hl:(es.take k).length=k:=by simp;omega
 rcases Nat.lt_trichotomy i k with h4|h4|h4
 ·refine h1 i j av h4 ?_;simp only[cellAt] at h ⊢;rw[List.getElem?_append_left (by omega),List.getElem?_take_of_lt h4] at h;exact h
 ·subst h4;refine h2 j av ?_;simp only[cellAt] at h;rw[List.getElem?_append_right (by omega),hl,Nat.sub_self] at h;simpa using h
 ·obtain ⟨m,rfl⟩:∃m,i=m+1:=⟨i-1,by omega⟩;refine h3 m j av (by omega) ?_;simp only[cellAt] at h ⊢;rw[List.getElem?_append_right (by omega),hl,show m+1-k=(m-k)+1 by omega,List.getElem?_cons_succ,List.getElem?_drop,show k+(m-k)=m by omega] at h;exact h
theorem soft_end {w:World} {β:Nat} {c:Array Value} {e:TypeId} {fz:Nat×Nat} (hb:w.heap[β]?=some (.cells c e fz)) (hs:Soft c fz) :
 w.frozen? ⟨β,c.size,none⟩=false:=by
 have:=hs c.size (Nat.le_refl _);obtain ⟨lo,hi⟩:=fz;simp only[World.frozen?,hb];simpa using this
section
variable {P:Program} {T:Nat->TI}
theorem ins_sem (hT:TabOk P T) (hE:∀t e,(T t).k=.slice e->(T e).k.known=true) {f tS tI fo e:Nat} (hR:InsRaw P f tS tI fo (T e).size) (ht:(T tS).k=.slice e) (hI:(T tI).k=.int .i64)
 {objs:Nat->Option Ob} {used:List Nat} {id off n k id2 off2 d:Nat} {o o2:Ob} {x:List AV} (ho:objs id=some o) (ho2:objs id2=some o2) (hne:id≠id2) (hd:d∉used)
 (hsz:o.sz=(T e).size) (hsz2:o2.sz=(T e).size) (hx:o2.es[off2]?=some x) (hk:k<=n) (hn:n<1073741824) :
 CallSem P f [.rf id off n,.pr (.int .i64 k),.rf id2 off2 1] objs used λu O U=>u=.rf d 0 (n+1) /\
  O=upd (upd objs id none) d (some ⟨(T e).size,((o.es.drop off).take n).take k++x::((o.es.drop off).take n).drop k⟩)/\U=d::used:=by
 refine ⟨hR.fn,λF φ w vs H hvs ha=>?_⟩;have he:=hE tS e ht;have hpos:=known_of_size hT he;obtain ⟨i,z,hi⟩:=hT.infos e he;have hu:P.underlying tS=some (.slice e):=by have:=hT.kinds tS;rw[ht] at this;exact this
 have hui:P.underlying tI=some (.int .i64):=by have:=hT.kinds tI;rw[hI] at this;exact this
 have r0:=ha 0 _ rfl;have r1:=ha 1 _ rfl;have r2:=ha 2 _ rfl;obtain ⟨v0,v1,v2,rfl⟩:∃v0 v1 v2,vs=#[v0,v1,v2]:=by
  have h3:vs.size=3:=hvs;exact ⟨vs[0],vs[1],vs[2],Array.ext (by simp[h3]) λi h1 h2=>by
   simp at h2
   match i,h2 with
   | 0,_=>rfl
   | 1,_=>rfl
   | 2,_=>rfl⟩
 simp only[Array.getD_eq_getD_getElem?,List.getElem?_toArray,List.getElem?_cons_zero,List.getElem?_cons_succ,Option.getD_some] at r0 r1 r2;have:=inv_pr r1;subst this
 let st:St:=⟨λ_=>.un,objs,used⟩
 have g2:RfOk φ w.heap o2 id2 off2 1 v2:=by
  cases r2 with
  | rd r=>cases r
  | rf hu hv hr=>exact hr o2 ho2
 have g0:RfOk φ w.heap o id off n v0:=by
  cases r0 with
  | rd r=>cases r
  | rf hu hv hr=>exact hr o ho
 have hidU:id∈used:=H.inU id o ho;obtain ⟨hl2,g2⟩:=g2;rcases g2 with ⟨h,_⟩|⟨β2,b2,cap2,c2,e2,fz2,k12,k22,rfl,k42,k52⟩
 ·cases h
 have hxl:x.length=(T e).size:=by rw[<- hsz2];exact (H.ob id2 o2 ho2).1 x (List.mem_of_getElem? hx)
 have hxt:(o2.es.drop off2).take 1=[x]:=by obtain ⟨h1,h2⟩:=List.getElem?_eq_some_iff.1 hx;rw[List.drop_eq_getElem_cons h1,List.take_succ_cons,List.take_zero,h2]
 rcases Nat.lt_or_ge k n with hkn|hkn
 ·rcases g0.2 with ⟨h,_⟩|⟨β,b,cap,c,e',fz,k1,k2,rfl,k4,k5⟩
  ·omega
  obtain ⟨hel,c',e'',fz',hb,hsoft,hfit,hcc⟩:=ob_at (st:=st) H ho k1;rw[k2] at hb;cases hb;obtain ⟨hel2,c',e'',fz',hb2,hsoft2,hfit2,hcc2⟩:=ob_at (st:=st) H ho2 k12;rw[k22] at hb2;cases hb2;have hbb:β2≠β:=λh=>hne (H.inj id id2 o o2 β b b2 ho ho2 k1 (h▸k12));have hlt:=(Array.getElem?_eq_some_iff.1 k2).1;have hlt2:=(Array.getElem?_eq_some_iff.1 k22).1;rw[hsz] at k5 hcc hfit;rw[hsz2] at k52 hcc2 hfit2;rw[hsz,hsz2];generalize hS:(T e).size=sz at *;have hLl:((o.es.drop off).take n).length=n:=by have:=g0.1;simp;omega
  have hLel:∀y∈(o.es.drop off).take n,y.length=sz:=λy hy=>by rw[hel y (List.mem_of_mem_drop (List.mem_of_mem_take hy)),hsz]
  have hL:∀i j av,cellAt ((o.es.drop off).take n) i j=some av->∃v,c[b+off*sz+i*sz+j]?=some v/\v.oneCell'=true/\RV F φ st w v av:=λi j av hij=>by
   have hij':cellAt o.es (off+i) j=some av:=by
    simp only[cellAt,List.getElem?_take,List.getElem?_drop] at hij ⊢;split at hij
    ·exact hij
    ·cases hij
   obtain ⟨v,m1,m2⟩:=hcc _ _ _ hij';rw[Nat.add_mul,<- Nat.add_assoc] at m1;exact ⟨v,m1,m2⟩
  have hX:∀i j av,cellAt [x] i j=some av->∃v,c2[b2+off2*sz+i*sz+j]?=some v/\v.oneCell'=true/\RV F φ st w v av:=λi j av hij=>by
   have hi0:i=0:=by have:=(cellAt_lt (sz:=sz) (by simpa using hxl) hij).1;simp at this;exact this
   subst hi0;have hij':cellAt o2.es off2 j=some av:=(by simpa [cellAt,hx] using hij);obtain ⟨v,m1,m2⟩:=hcc2 _ _ _ hij';exact ⟨v,by simpa using m1,m2⟩
  generalize ((o.es.drop off).take n)=L at *;generalize hB:b+off*sz=B at *;generalize hB2:b2+off2*sz=B2 at *;have hcapn:B+cap*sz<=c.size:=by rw[Nat.add_mul] at k5;omega
  have hcap2:B2+sz<=c2.size:=by have:1*sz<=cap2*sz:=Nat.mul_le_mul_right _ k42;rw[Nat.add_mul] at k52;omega
  have hnk:k*sz+(n-k)*sz=n*sz:=by rw[<- Nat.add_mul];congr 1;omega
  have hnc:n*sz<=cap*sz:=Nat.mul_le_mul_right _ k4;have hk1:(k+1)*sz=k*sz+sz:=(by rw[Nat.add_mul,Nat.one_mul]);have oneX:∀v∈seg c2 B2 sz,v.oneCell'=true:=λv hv=>by obtain ⟨j,hj⟩:=List.mem_iff_getElem?.1 hv;obtain ⟨h1,h2⟩:=seg_some hcap2 hj;obtain ⟨u,h3,h4⟩:=segs_one (es:=[x]) hpos (by simpa using hxl) hX (m:=j) (by simpa using h1);rw[h2] at h3;cases h3;exact h4
  have oneL:∀m m',m+m'<=n*sz->∀v∈seg c (B+m) m',v.oneCell'=true:=λm m' hm v hv=>by obtain ⟨j,hj⟩:=List.mem_iff_getElem?.1 hv;obtain ⟨h1,h2⟩:=seg_some (by omega) hj;obtain ⟨u,h3,h4⟩:=segs_one (es:=L) hpos hLel hL (m:=m+j) (by rw[hLl];omega);rw[<- Nat.add_assoc,h2] at h3;cases h3;exact h4
  have fin:∀(w':World) (β' B' cap':Nat) (C:Array Value) (eN:TypeId) (fzN:Nat×Nat),w'.heap[β']?=some (.cells C eN fzN)->Soft C fzN ->
   (∀γ,γ<w.heap.size->(∀b,φ id≠some (γ,b))->w'.heap[γ]?=w.heap[γ]?)->w.heap.size<=w'.heap.size->((∃b',φ id=some (β',b'))\/w.heap.size<=β')->n+1<=cap'->B'+cap'*sz<=C.size ->
   (∀j,j<k*sz->C[B'+j]?=c[B+j]?)->(∀j,j<sz->C[B'+k*sz+j]?=c2[B2+j]?)->(∀j,j<(n-k)*sz->C[B'+(k+1)*sz+j]?=c[B+k*sz+j]?) ->
   w'.os=w.os->w'.tape=w.tape->w'.output=w.output ->
   ∃(v:Value) (u:AV) (O:Nat->Option Ob) (U:List Nat) (φ':Nat->Option (Nat×Nat)),Ending.returned (.slice (some ⟨β',B',none⟩) (n+1) cap')=.returned v/\(u=.rf d 0 (n+1)/\O=upd (upd objs id none) d (some ⟨sz,L.take k++x::L.drop k⟩)/\U=d::used) /\
    Goes φ φ' objs O (·∈used) (·∈U) w w'/\RepH F φ' O (·∈U) w'/\RepV φ' O (·∈U) w'.heap (SS F φ' O w') v u:=by
   intro w' β' B' cap' C eN fzN a1 a2 a3 a4 a5 a6 a7 a8 a9 a10 a11 a12 a13;have hn1:(n+1)*sz<=cap'*sz:=Nat.mul_le_mul_right _ a6;have hlen:(L.take k++x::L.drop k).length=n+1:=by simp;omega
   have hel':∀y∈L.take k++x::L.drop k,y.length=sz:=λy hy=>by
    rcases List.mem_append.1 hy with h|h
    ·exact hLel y (List.mem_of_mem_take h)
    ·rcases List.mem_cons.1 h with rfl|h
     ·exact hxl
     ·exact hLel y (List.mem_of_mem_drop h)
   obtain ⟨G,H'⟩:=Rep.move (st:=st) (o':=⟨sz,L.take k++x::L.drop k⟩) (p:=some (β',B')) (w':=w') H ho hd a3 a4 (λγ b' h=>by cases h;exact a5)
    (λhV=>by
     refine ⟨hel',.inr ⟨β',B',C,eN,fzN,upd_eq _ _ _,a1,a2,by rw[hlen];show B'+(n+1)*sz<=C.size;omega,?_⟩⟩
     have hh:=ins_cells (p:=λv av=>v.oneCell'=true/\RV F φ st w v av) (sz:=sz) (k:=k) (es:=L) (x:=x) (C:=C) (B:=B') (by omega)
      (λi j av hik hij=>by
       obtain ⟨v,m1,m2⟩:=hL i j av hij;have hj:=(cellAt_lt hLel hij).2;have:(i+1)*sz<=k*sz:=Nat.mul_le_mul_right _ hik;rw[Nat.add_mul,Nat.one_mul] at this;exact ⟨v,by rw[Nat.add_assoc,a8 _ (by omega),<- Nat.add_assoc];exact m1,m2⟩)
      (λj av hj=>by
       obtain ⟨v,m1,m2⟩:=hX 0 j av (by simpa [cellAt] using hj);have hjl:=(List.getElem?_eq_some_iff.1 hj).1;rw[hxl] at hjl;exact ⟨v,by rw[a9 j hjl];simpa using m1,m2⟩)
      (λi j av hik hij=>by
       obtain ⟨v,m1,m2⟩:=hL i j av hij;obtain ⟨hil,hj⟩:=cellAt_lt hLel hij;rw[hLl] at hil;have h5:(i-k+1)*sz<=(n-k)*sz:=Nat.mul_le_mul_right _ (by omega);rw[Nat.add_mul,Nat.one_mul] at h5;have h6:(k+1)*sz+(i-k)*sz=(i+1)*sz:=by rw[<- Nat.add_mul];congr 1;omega
       have h7:k*sz+(i-k)*sz=i*sz:=by rw[<- Nat.add_mul];congr 1;omega
       refine ⟨v,?_,m2⟩;have h8:=a10 ((i-k)*sz+j) (by omega);rw[show B'+(k+1)*sz+((i-k)*sz+j)=B'+(i+1)*sz+j by omega,show B+k*sz+((i-k)*sz+j)=B+i*sz+j by omega] at h8;rw[h8];exact m1)
     intro i j av hij;obtain ⟨v,m1,m2,m3⟩:=hh i j av hij;exact ⟨v,m1,m2,hV v av m3⟩) a11 a12 a13
   refine ⟨_,.rf d 0 (n+1),_,_,_,rfl,⟨rfl,rfl,rfl⟩,G,H',.rf List.mem_cons_self ⟨_,_,rfl,λh=>by cases h⟩ λo' ho'=>?_⟩;rw[upd_eq] at ho';cases ho';exact ⟨by simp only[hlen];omega,.inr ⟨β',B',cap',C,eN,fzN,upd_eq _ _ _,a1,by simp,a6,by simpa using a7⟩⟩
  rcases Nat.lt_or_ge cap (n+1) with hcn|hcn
  ·have hn1:(n+1)*sz=n*sz+sz:=(by rw[Nat.add_mul,Nat.one_mul]);have hkk:(n:Int)+1-(k:Int)=((n+1-k:Nat):Int):=(by omega);have hik:k+(n+1-k)=n+1:=(by omega);have hin:i.bytes<=4096:=by rw[hi.bytes];exact hi.b1
   have hfits:Builtin.nextslicecap (n+1) cap*i.bytes<=281474976710656:=by have h1:=nextslicecap_le (need:=n+1) (old:=cap) (by omega);have:=Nat.mul_le_mul h1 hin;omega
   have hap:=run_append_grow_zeros w tS tI tS e i z .i64 .i64 hu hui hi.info hi.zero (some ⟨β,B,none⟩) k cap (seg c B (k*sz))
    (by
     rw[hi.size,hS];exact run_firstCells_some w.drew sz k ⟨β,B,none⟩ k cap (seg c B (k*sz)) (seg_len _ _ _) (λj v hj=>by
      obtain ⟨h1,h2⟩:=seg_some (by omega) hj;rw[add_at];exact (cell_at (w:=w.drew) k2).trans h2)) (n+1-k) (by omega) (by rw[hi.size,hS];exact hpos) (by omega) (by omega)
    (by have:=Nat.mul_le_mul (show n+1-k<=1073741824 by omega) hin;omega) (by rw[hik];exact hfits)
   rw[hik,<- hkk] at hap;obtain ⟨G,hG⟩:∃G,G=grownCap w (n+1) cap e:=⟨_,rfl⟩;have hGn:n+1<=G:=by rw[hG];exact grownCap_ge w _ _ _
   rw[<- hG] at hap;have hzl:z.cells.size=sz:=by have h1:=hi.zc;have h2:=hi.zl;rw[<- h1,hS] at h2;simpa using h2
   let R:Array Value:=(seg c B (k*sz)).toArray++Builtin.zeroCells z.cells (n+1-k)++Builtin.zeroCells z.cells (G-(n+1))
   have hRs:R.size=G*sz:=by show ((seg c B (k*sz)).toArray++Builtin.zeroCells z.cells (n+1-k)++Builtin.zeroCells z.cells (G-(n+1))).size=G*sz;rw[Array.size_append,Array.size_append,zeroCells_size,zeroCells_size,hzl,List.size_toArray,seg_len,<- Nat.add_mul,<- Nat.add_mul];congr 1;omega
   have hRn:(n+1)*sz<=R.size:=by rw[hRs];exact Nat.mul_le_mul_right _ hGn
   have hRk:∀j,j<k*sz->R[j]?=c[B+j]?:=λj hj=>by show ((seg c B (k*sz)).toArray++Builtin.zeroCells z.cells (n+1-k)++Builtin.zeroCells z.cells (G-(n+1)))[j]?=_;rw[Array.append_assoc,Array.getElem?_append_left (by simpa [seg_len] using hj),List.getElem?_toArray,seg_get hj (by omega)]
   let W1:World:=w.drew.alloc (.cells R e)
   let c1:=putAt R (k*sz) (seg c2 B2 sz)
   let c3:=putAt c1 ((k+1)*sz) (seg c (B+k*sz) ((n-k)*sz))
   have hsz1:c1.size=R.size:=putAt_size _ _ _;have hsz3:c3.size=R.size:=(putAt_size _ _ _).trans hsz1;have hW1:∀γ,W1.heap[γ]?=if γ=w.heap.size then some (.cells R e (0,0)) else w.heap[γ]?:=λγ=>by show (w.heap.push (.cells R e (0,0)))[γ]?=_;rw[Array.getElem?_push]
   have hltN:w.heap.size<W1.heap.size:=by show w.heap.size<(w.heap.push _).size;simp
   let W2:World:=World.setBlk W1 w.heap.size c1 e (0,0)
   have hW2:∀γ,W2.heap[γ]?=if γ=w.heap.size then some (.cells c1 e (0,0)) else w.heap[γ]?:=λγ=>by show (World.setBlk W1 w.heap.size c1 e (0,0)).heap[γ]?=_;rw[setBlk_get hltN,hW1];split<;>rfl
   have hltN2:w.heap.size<W2.drew.heap.size:=by show w.heap.size<(World.setBlk W1 w.heap.size c1 e (0,0)).heap.size;simp only[World.setBlk,Array.size_setIfInBounds];exact hltN
   let W3:World:=World.setBlk W2.drew w.heap.size c3 e (0,0)
   have hW3:∀γ,W3.heap[γ]?=if γ=w.heap.size then some (.cells c3 e (0,0)) else w.heap[γ]?:=λγ=>by show (World.setBlk W2.drew w.heap.size c3 e (0,0)).heap[γ]?=_;rw[setBlk_get hltN2];show (if γ=w.heap.size then _ else W2.heap[γ]?)=_;rw[hW2];split<;>rfl
   have soft0:∀C:Array Value,Soft C (0,0):=λC j _ h=>by simp at h
   refine (hR.grow β B n cap k β2 B2 cap2 w.heap.size G w hkn k4 hcn (by omega) hGn (m1:=goInt ((1:Nat):Int)) (W1:=W1) (W2:=W2) (m2:=goInt ((n-k:Nat):Int)) (W3:=W3) hap (λty dc=>?_) (λty dc sc=>?_)).mono ?_
   ·refine run_copy_blk (n:=1) hu hi.info (by simp only[Nat.min_def];split<;>omega) (by rw[seg_len,hi.size,hS,Nat.one_mul]) (λj v hj=>?_) (by rw[hW1];simp) (soft0 _) (by rw[seg_len];omega) oneX;obtain ⟨h1,h2⟩:=seg_some hcap2 hj;rw[add_at];exact (cell_at (by rw[hW1,if_neg (by omega)];exact k22)).trans h2
   ·refine run_copy_blk (w:=W2.drew) (n:=n-k) hu hi.info (by simp only[Nat.min_def];split<;>omega) (by rw[seg_len,hi.size,hS]) (λj v hj=>?_) ((hW2 _).trans (by simp)) (soft0 _) (by rw[seg_len,hsz1];omega) (oneL (k*sz) _ (by omega));obtain ⟨h1,h2⟩:=seg_some (by omega) hj;rw[add_at];exact (cell_at ((hW2 _).trans (by rw[if_neg (by omega)];exact k2))).trans h2
   ·rintro ee w'' ⟨rfl,rfl⟩;refine fin _ w.heap.size 0 G c3 e (0,0) (by rw[hW3];simp) (soft0 _) (λγ hγ hno=>by rw[hW3,if_neg (by omega)]) (by show w.heap.size<=(World.setBlk W2.drew w.heap.size c3 e (0,0)).heap.size;simp only[World.setBlk,Array.size_setIfInBounds];exact Nat.le_of_lt hltN2) (.inr (Nat.le_refl _)) hGn (by rw[hsz3,hRs,Nat.zero_add];exact Nat.le_refl _) (λj hj=>?_) (λj hj=>?_) (λj hj=>?_) rfl rfl rfl
    ·rw[Nat.zero_add,putAt_get _ _ _ _ (by rw[seg_len,hsz1];omega),if_neg (by omega),putAt_get _ _ _ _ (by rw[seg_len];omega),if_neg (by omega),hRk j hj]
    ·rw[Nat.zero_add,putAt_get _ _ _ _ (by rw[seg_len,hsz1];omega),if_neg (by omega),putAt_get _ _ _ _ (by rw[seg_len];omega),if_pos (by rw[seg_len];omega),show k*sz+j-k*sz=j by omega,seg_get hj hcap2]
    ·rw[Nat.zero_add,putAt_get _ _ _ _ (by rw[seg_len,hsz1];omega),if_pos (by rw[seg_len];omega),show (k+1)*sz+j-(k+1)*sz=j by omega,seg_get hj (by omega)]
  ·have hcc1:(n+1)*sz<=cap*sz:=Nat.mul_le_mul_right _ hcn;have hn1:(n+1)*sz=n*sz+sz:=by rw[Nat.add_mul,Nat.one_mul]
   let c1:=putAt c (B+(k+1)*sz) (seg c (B+k*sz) ((n-k)*sz))
   let c3:=putAt c1 (B+k*sz) (seg c2 B2 sz)
   have hsz1:c1.size=c.size:=putAt_size _ _ _;have hsz3:c3.size=c.size:=(putAt_size _ _ _).trans hsz1;have hg1:∀γ,(World.setBlk w.drew β c1 e' fz).heap[γ]?=if γ=β then some (.cells c1 e' fz) else w.heap[γ]?:=λγ=>setBlk_get (w:=w.drew) hlt γ
   have hlt1:β<(World.setBlk w.drew β c1 e' fz).heap.size:=by simp[World.setBlk];exact hlt
   have hg3:∀γ,(World.setBlk (World.setBlk w.drew β c1 e' fz) β c3 e' fz).heap[γ]?=if γ=β then some (.cells c3 e' fz) else w.heap[γ]?:=λγ=>by rw[setBlk_get hlt1,hg1];split<;>rfl
   refine (hR.shift β B n cap k β2 B2 cap2 w hkn hcn (by omega) (λlb cb=>hR.ov w _ λtB=>?_) (m1:=goInt ((n-k:Nat):Int)) (W1:=World.setBlk w.drew β c1 e' fz) (W2:=World.setBlk (World.setBlk w.drew β c1 e' fz) β c3 e' fz) (m2:=goInt ((1:Nat):Int)) (λty dc sc=>?_) (λty dc=>?_)).mono ?_
   ·exact run_overlaps_apart w tS tB e hu sz (λw=>by have:=run_sizeOf_tab (w:=w) hT he;rw[hS] at this;exact this) ⟨β2,B2,none⟩ ⟨β,B+(k+1)*sz,none⟩ 1 cap2 lb cb hbb e2 e' c2.size c.size (by simp[World.shape?,k22]) (by simp[World.shape?,k2]) (by omega) (soft_at k22 hsoft2 (by omega)) (soft_end k22 hsoft2)
   ·refine run_copy_blk (w:=w.drew) (n:=n-k) hu hi.info (by simp only[Nat.min_def];split<;>omega) (by rw[seg_len,hi.size,hS]) (λj v hj=>?_) k2 hsoft (by rw[seg_len];omega) (oneL (k*sz) _ (by omega));obtain ⟨h1,h2⟩:=seg_some (by omega) hj;rw[add_at];exact (cell_at (w:=w.drew) k2).trans h2
   ·refine run_copy_blk (n:=1) hu hi.info (by simp only[Nat.min_def];split<;>omega) (by rw[seg_len,hi.size,hS,Nat.one_mul]) (λj v hj=>?_) (by rw[hg1];simp) (λj hj=>hsoft j (by rw[<- hsz1];exact hj)) (by rw[seg_len,hsz1];omega) oneX;obtain ⟨h1,h2⟩:=seg_some hcap2 hj;rw[add_at];exact (cell_at (by rw[hg1,if_neg hbb];exact k22)).trans h2
   ·rintro ee w'' ⟨rfl,rfl⟩;refine fin _ β B cap c3 e' fz (by rw[hg3];simp) (λj hj=>hsoft j (by rw[<- hsz3];exact hj)) (λγ hγ hno=>by rw[hg3,if_neg (λh:γ=β=>hno b (h▸k1))]) (by simp[World.setBlk]) (.inl ⟨b,k1⟩) hcn (by rw[hsz3];exact hcapn) (λj hj=>?_) (λj hj=>?_) (λj hj=>?_) rfl rfl rfl
    ·rw[putAt_get _ _ _ _ (by rw[seg_len,hsz1];omega),if_neg (by omega),putAt_get _ _ _ _ (by rw[seg_len];omega),if_neg (by omega)]
    ·rw[putAt_get _ _ _ _ (by rw[seg_len,hsz1];omega),if_pos (by rw[seg_len];omega),show B+k*sz+j-(B+k*sz)=j by omega,seg_get hj hcap2]
    ·rw[putAt_get _ _ _ _ (by rw[seg_len,hsz1];omega),if_neg (by rw[seg_len];omega),putAt_get _ _ _ _ (by rw[seg_len];omega),if_pos (by rw[seg_len];omega),show B+(k+1)*sz+j-(B+(k+1)*sz)=j by omega,seg_get hj (by omega)]
 ·have hkn:k=n:=(by omega);subst hkn;have hfull:((o.es.drop off).take k).length=k:=by have:=g0.1;simp;omega
  obtain ⟨r,av,φ',objs',w',hrun,⟨h1,h2⟩,G,H',rr⟩:=hApp_goes (st:=st) (F:=F) (P:=P) (ty:=tS) (K:=λs=>s.regs d=.rf d 0 (k+1)/\s.objs=upd (upd objs id none) d (some ⟨(T e).size,(o.es.drop off).take k++[x]⟩)) hT hE H ht (show isSl (T tS).k by rw[ht];trivial) (x:=.rf id off k) (y:=.rf id2 off2 1)
   (by
    refine ⟨o2,ho2,hsz2,?_⟩;rw[hxt];refine ⟨o,ho,⟨hsz,hd,by simp;omega⟩,?_,rfl⟩;simp[upd]) r0 r2
  have e1:av=.rf d 0 (k+1):=(by simpa [upd] using h1);have e2:objs'=upd (upd objs id none) d (some ⟨(T e).size,(o.es.drop off).take k++[x]⟩):=h2;subst e1;subst e2;have hes:((o.es.drop off).take k).take k++x::((o.es.drop off).take k).drop k=(o.es.drop off).take k++[x]:=by rw[List.take_of_length_le (l:=(o.es.drop off).take k) (by omega),List.drop_of_length_le (l:=(o.es.drop off).take k) (by omega)]
  have fin:∀base cap,v0=.slice base k cap->(base=none->k=0)->k<=cap->Calls P f #[v0,Value.int IntKind.i64 ↑k,Value.slice (some {block:=β2,off:=b2+off2*o2.sz}) 1 cap2] w λe w''=>e=.returned r/\w''=w':=by rintro base cap rfl h3 h4;exact hR.atEnd base k cap _ cap2 w h3 hrun h4 (by omega)
  have hc:Calls P f #[v0,Value.int IntKind.i64 ↑k,Value.slice (some {block:=β2,off:=b2+off2*o2.sz}) 1 cap2] w λe w''=>e=.returned r/\w''=w':=by
   rcases g0.2 with ⟨h,a,h3⟩|⟨β,b,cap,c,e',fz,k1,k2,h3,k4,k5⟩
   ·exact fin a 0 (by rw[h3,h]) (λ_=>h) (by omega)
   ·exact fin _ cap h3 (λh=>by cases h) k4
  refine hc.mono ?_;rintro ee w'' ⟨rfl,rfl⟩;exact ⟨r,_,_,_,_,rfl,⟨rfl,by rw[hes],rfl⟩,G,H',rr⟩
theorem CALL.ins (hT:TabOk P T) (hE:∀t e,(T t).k=.slice e->(T e).k.known=true) {f tS tI fo e:Nat} (hR:InsRaw P f tS tI fo (T e).size) (ht:(T tS).k=.slice e) (hI:(T tI).k=.int .i64)
 {st:St} {id off n k id2 off2 d:Nat} {o o2:Ob} {x:List AV} {K:St->Prop} (ho:st.objs id=some o) (ho2:st.objs id2=some o2) (hne:id≠id2) (hd:d∉st.used)
 (hsz:o.sz=(T e).size) (hsz2:o2.sz=(T e).size) (hx:o2.es[off2]?=some x) (hk:k<=n) (hn:n<1073741824)
 (hK:K {regs:=upd st.regs d (.rf d 0 (n+1)),objs:=upd (upd st.objs id none) d (some ⟨(T e).size,((o.es.drop off).take n).take k++x::((o.es.drop off).take n).drop k⟩),used:=d::st.used}) :
 CALL P f [.rf id off n,.pr (.int .i64 k),.rf id2 off2 1] st (some d) K:=
 .sem _ (ins_sem hT hE hR ht hI ho ho2 hne hd hsz hsz2 hx hk hn) λu O U hX=>by obtain ⟨rfl,rfl,rfl⟩:=hX;exact hK
end
inductive Lent (objs:Nat->Option Ob):AV->AV->Prop
 | same {a:AV} (h:a.noId=true):Lent objs a a
 | nl {sz:Nat}:Lent objs .nl (.im sz [])
 | rf {id off len:Nat} {o:Ob} {es es':List (List AV)} (ho:objs id=some o) (hes:(o.es.drop off).take len=es) (hl:es'.length=es.length) (hr:∀x∈es',x.length=o.sz)
  (hleaf:∀i j a',cellAt es' i j=some a'->a'.leaf=true) (h:∀i j a a',cellAt es i j=some a->cellAt es' i j=some a'->Lent objs a a'):Lent objs (.rf id off len) (.im o.sz es')
 | pt {id i off:Nat} {o:Ob} {cs cs':List AV} (ho:objs id=some o) (hes:o.es[i]?=some cs) (hl:cs'.length=cs.length) (hleaf:∀(j:Nat) a',cs'[j]?=some a'->a'.leaf=true)
  (h:∀(j:Nat) a a',cs[j]?=some a->cs'[j]?=some a'->Lent objs a a'):Lent objs (.pt id i off) (.ro cs' off)
 | ag {cs cs':List AV} (hl:cs'.length=cs.length) (h:∀(j:Nat) a a',cs[j]?=some a->cs'[j]?=some a'->Lent objs a a'):Lent objs (.ag cs) (.ag cs')
 | fn {f:Nat} {cs cs':List AV} (hl:cs'.length=cs.length) (h:∀(j:Nat) a a',cs[j]?=some a->cs'[j]?=some a'->Lent objs a a'):Lent objs (.fn f cs) (.fn f cs')
section
variable {P:Program} {F:Fr} {φ:Nat->Option (Nat×Nat)} {st:St} {w:World}
theorem lent_rep {S':Nat->Prop} {φ':Nat->Option (Nat×Nat)} {O':Nat->Option Ob} {U':Nat->Prop} (H:RepH F φ st.objs (·∈st.used) w) (hS:∀β,β<w.heap.size->S' β)
 {a a':AV} (h:Lent st.objs a a'):∀{v:Value},RV F φ st w v a->RepV φ' O' U' w.heap S' v a':=by
 induction h with
 | same h=>exact λr=>noId_rep (λβ hβ=>⟨hS β hβ.1,rfl⟩) r h
 | nl=>exact λr=>by cases r with|rd r=>cases r;exact .rd (.im0 _ _ _)
 | @rf id off len o es es' ho hes hl hr hleaf h ih=>
   intro v r;cases r with
   | rd r=>cases r
   | rf hu hv hr'=>
     obtain ⟨g1,g2⟩:=hr' o ho;have hel:es.length=len:=by rw[<- hes];simp;omega
     rcases g2 with ⟨rfl,a,rfl⟩|⟨β,b,cap,c,e,fz,k1,k2,rfl,k4,k5⟩
     ·have:es'=[]:=List.length_eq_zero_iff.1 (by omega);subst this;exact .rd (.im0 _ _ _)
     ·obtain ⟨hel',c',e',fz',hb,_,_,hc⟩:=ob_at H ho k1;rw[k2] at hb;cases hb;have hsz:∀y∈es,y.length=o.sz:=λy hy=>hel' y (List.mem_of_mem_drop (List.mem_of_mem_take (hes▸hy)));have hex:∀i j av,cellAt es' i j=some av->∃u,c[b+off*o.sz+i*o.sz+j]?=some u/\RdI w.heap S' u av:=by
       intro i j av hij;obtain ⟨q1,q2⟩:=cellAt_lt hr hij;obtain ⟨a,ha⟩:=cellAt_some hsz (i:=i) (j:=j) (by omega) q2;have ha':cellAt o.es (off+i) j=some a:=by
        rw[<- hes] at ha;simp only[cellAt,List.getElem?_take,List.getElem?_drop] at ha ⊢;split at ha
        ·exact ha
        ·cases ha
       obtain ⟨u,m1,_,m3⟩:=hc _ _ _ ha';refine ⟨u,?_,leaf_rd (ih i j a av ha hij m3) (hleaf i j av hij)⟩;rw[Nat.add_mul,<- Nat.add_assoc] at m1;exact m1
      have hfin:=RdI.im (h:=w.heap) (S:=S') (β:=β) (o:=b+off*o.sz) (cap:=cap) (sz:=o.sz) (c:=c) (e:=e) (fz:=fz) (es:=es') (λi j=>c.getD (b+off*o.sz+i*o.sz+j) undef)
       (hS β (Array.getElem?_eq_some_iff.1 k2).1) k2 (by omega) hr
       (λi j av hij=>by obtain ⟨u,m1,_⟩:=hex i j av hij;rw[Array.getD_eq_getD_getElem?,m1];rfl)
       (λi j av hij=>by obtain ⟨u,m1,m2⟩:=hex i j av hij;rw[Array.getD_eq_getD_getElem?,m1];exact m2)
      rw[hl,hel] at hfin;exact .rd hfin
 | @pt id i off o cs cs' ho hes hl hleaf h ih=>
   intro v r;obtain ⟨β,b,k1,rfl⟩:=inv_pt r ho;obtain ⟨hel',c,e,fz,hb,_,_,hc⟩:=ob_at H ho k1;have hex:∀(j:Nat) (av:AV),cs'[j]?=some av->∃u,c[b+i*o.sz+j]?=some u/\RdI w.heap S' u av:=by
    intro j av hj;have hlt:j<cs.length:=by have:=(List.getElem?_eq_some_iff.1 hj).1;omega
    have ha:cs[j]?=some cs[j]:=List.getElem?_eq_getElem hlt;obtain ⟨u,m1,_,m3⟩:=hc i j cs[j] (by simp[cellAt,hes,ha]);exact ⟨u,m1,leaf_rd (ih j _ av ha hj m3) (hleaf j av hj)⟩
   exact .ro (o:=b+i*o.sz) (λk=>c.getD (b+i*o.sz+k) undef) (hS β (Array.getElem?_eq_some_iff.1 hb).1) hb
    (λk av hk=>by obtain ⟨u,m1,_⟩:=hex k av hk;rw[Array.getD_eq_getD_getElem?,m1];rfl)
    (λk av hk=>by obtain ⟨u,m1,m2⟩:=hex k av hk;rw[Array.getD_eq_getD_getElem?,m1];exact m2)
 | @ag cs cs' hl h ih=>
   intro v r;cases r with
   | rd r=>cases r
   | ag hs h1 hr=>
     refine .ag (hs.trans hl.symm) h1 λj av hj=>?_;have hlt:j<cs.length:=by have:=(List.getElem?_eq_some_iff.1 hj).1;omega
     exact ih j _ av (List.getElem?_eq_getElem hlt) hj (hr j _ (List.getElem?_eq_getElem hlt))
 | @fn f cs cs' hl h ih=>
   intro v r;cases r with
   | rd r=>
     cases r;have:cs'=[]:=List.length_eq_zero_iff.1 hl;subst this;exact .rd (.fn _)
   | fn hs hr=>
     refine .fn (hs.trans hl.symm) λj av hj=>?_;have hlt:j<cs.length:=by have:=(List.getElem?_eq_some_iff.1 hj).1;omega
     exact ih j _ av (List.getElem?_eq_getElem hlt) hj (hr j _ (List.getElem?_eq_getElem hlt))
def lents (objs:Nat->Option Ob):List AV->List AV->Prop
 | [],[]=>True
 | a::r,a'::r'=>Lent objs a a'/\lents objs r r'
 | _,_=>False
theorem lents_get {objs:Nat->Option Ob}:∀{l l':List AV},lents objs l l'->l'.length=l.length/\∀(j:Nat) a a',l[j]?=some a->l'[j]?=some a'->Lent objs a a'
 | [],[],_=>⟨rfl,by simp⟩
 | a::r,a'::r',h=>by
   obtain ⟨h1,h2⟩:=lents_get h.2;refine ⟨by simp[h1],λj b b' hj hj'=>?_⟩;cases j with
   | zero=>simp at hj hj';subst hj;subst hj';exact h.1
   | succ j=>exact h2 j b b' (by simpa using hj) (by simpa using hj')
 | [],_::_,h=>False.elim h
 | _::_,[],h=>False.elim h
theorem CALL.lendR {f:Nat} {args:List AV} {d:Option Nat} {K:St->Prop} {args':List AV} {R:AV->Prop} (h:Spec0 P f args' R) (hl:lents st.objs args args') (hf:∀r,R r->r.flat=true) (k:∀r,R r->K (st.put d r)):CALL P f args st d K:=by
 obtain ⟨hl1,hl2⟩:=lents_get hl;refine .sem (λu O U=>R u/\O=st.objs/\U=st.used) ⟨h.1,λF φ w vs H hvs ha=>?_⟩ λu O U hX=>?_
 ·refine (h.2 ⟨w,λ_=>False,λβ=>β<w.heap.size,noOb,λ_=>none⟩ (λ_=>none) w vs rfl rfl rfl (callee_none _ w) (by rw[hvs,hl1]) (λj av hj=>?_)).mono ?_
  ·have hlt:j<args.length:=by have:=(List.getElem?_eq_some_iff.1 hj).1;omega
   exact lent_rep (st:=st) H (λβ hβ=>⟨hβ,(λi o b h=>by cases h),λ_=>.inl hβ⟩) (hl2 j _ av (List.getElem?_eq_getElem hlt) hj) (ha j _ (List.getElem?_eq_getElem hlt))
  ·rintro e w' ⟨v,r,O',φ',U',rfl,⟨⟨hR,hnr⟩,rfl⟩,H',rr⟩;exact ⟨v,r,st.objs,st.used,φ,rfl,⟨hR,rfl,rfl⟩,goes_same (φ:=φ) (st:=st) H',repH_same (st:=st) H H',flat_rep rr (hf r hR)⟩
 ·obtain ⟨hR,rfl,rfl⟩:=hX;have:st.to d u st.objs st.used=st.put d u:=by cases d<;>rfl
  rw[this];exact k u hR
end
end Go.Vc
namespace Go.Vc
mutual
def AV.rn (ρ:Nat->Nat):AV->AV
 | .rf i off len=>.rf (ρ i) off len
 | .pt i j off=>.pt (ρ i) j off
 | .ag cs=>.ag (rns ρ cs)
 | .tu vs=>.tu (rns ρ vs)
 | .fn f caps=>.fn f (rns ρ caps)
 | x=>x
def rns (ρ:Nat->Nat):List AV->List AV
 | []=>[]
 | x::r=>x.rn ρ::rns ρ r
end
mutual
def AV.inN (p:Nat->Prop):AV->Prop
 | .rf i _ _=>p i
 | .pt i _ _=>p i
 | .ag cs=>inNs p cs
 | .tu vs=>inNs p vs
 | .fn _ caps=>inNs p caps
 | _=>True
def inNs (p:Nat->Prop):List AV->Prop
 | []=>True
 | x::r=>x.inN p/\inNs p r
end
def Ob.rn (ρ:Nat->Nat) (o:Ob):Ob:=⟨o.sz,o.es.map (rns ρ)⟩
theorem rns_get {ρ:Nat->Nat} {l:List AV} (j:Nat):(rns ρ l)[j]?=(l[j]?).map (AV.rn ρ):=by
 induction l generalizing j with
 | nil=>simp[rns]
 | cons x r ih=>cases j with
   | zero=>simp[rns]
   | succ j=>simp[rns,ih]
theorem rns_length {ρ:Nat->Nat} {l:List AV}:(rns ρ l).length=l.length:=by
 induction l with
 | nil=>rfl
 | cons x r ih=>simp[rns,ih]
theorem inNs_get {p:Nat->Prop} {l:List AV} (h:inNs p l) {j:Nat} {av:AV} (hj:l[j]?=some av):av.inN p:=by
 induction l generalizing j with
 | nil=>cases hj
 | cons x r ih=>
   simp only[inNs] at h;cases j with
   | zero=>simp at hj;subst hj;exact h.1
   | succ j=>exact ih h.2 (by simpa using hj)
theorem cell_rn {ρ:Nat->Nat} {es:List (List AV)} {i j:Nat}:cellAt (es.map (rns ρ)) i j=(cellAt es i j).map (AV.rn ρ):=by
 simp only[cellAt,List.getElem?_map];cases es[i]? with
 | none=>rfl
 | some x=>simp[rns_get]
theorem inN_cell {p:Nat->Prop} {es:List (List AV)} (h:∀x∈es,inNs p x) {i j:Nat} {av:AV} (hij:cellAt es i j=some av):av.inN p:=by
 unfold cellAt at hij;cases he:es[i]? with
 | none=>rw[he] at hij;cases hij
 | some x=>rw[he] at hij;exact inNs_get (h x (List.mem_of_getElem? he)) hij
section
variable {φ φ':Nat->Option (Nat×Nat)} {obs obs':Nat->Option Ob} {U U':Nat->Prop} {h:Array Obj} {S S':Nat->Prop} {ρ:Nat->Nat} {p:Nat->Prop}
theorem rn_rep (hS:∀β,S β->S' β) (hp:∀i,p i->U' (ρ i)/\∀o',obs' (ρ i)=some o'->∃o,obs i=some o/\o'.sz=o.sz/\o'.es.length=o.es.length/\φ' (ρ i)=φ i)
 {v:Value} {av:AV} (r:RepV φ obs U h S v av) (hn:av.inN p):RepV φ' obs' U' h S' v (av.rn ρ):=by
 induction r with
 | un v=>simpa [AV.rn] using RepV.un v
 | rd r0=>
   rename_i v av;have:av.rn ρ=av:=by cases r0<;>simp[AV.rn,rns]
   rw[this];exact .rd (r0.mono λβ hβ=>⟨hS β hβ,rfl⟩)
 | @rf v id off len hu hv hr=>
   obtain ⟨h1,h2⟩:=hp id (by simpa only[AV.inN] using hn);simp only[AV.rn];refine .rf h1 hv λo' ho'=>?_;obtain ⟨o,ho,e1,e2,e3⟩:=h2 o' ho';obtain ⟨g1,g2⟩:=hr o ho;refine ⟨by rw[e2];exact g1,?_⟩;rcases g2 with g2|⟨β,b,cap,c,e,fz,k1,k2,k3,k4,k5⟩
   ·exact .inl g2
   ·exact .inr ⟨β,b,cap,c,e,fz,e3.trans k1,k2,by rw[e1];exact k3,k4,by rw[e1];exact k5⟩
 | @pt v id i off hu hv hr=>
   obtain ⟨h1,h2⟩:=hp id (by simpa only[AV.inN] using hn);simp only[AV.rn];refine .pt h1 hv λo' ho'=>?_;obtain ⟨o,ho,e1,e2,e3⟩:=h2 o' ho';obtain ⟨β,b,k1,k2⟩:=hr o ho;exact ⟨β,b,e3.trans k1,by rw[e1];exact k2⟩
 | ro vs hSb hb hc hr=>simp only[AV.rn];exact .ro vs (hS _ hSb) hb hc λj av hj=>(hr j av hj).mono λβ hβ=>⟨hS β hβ,rfl⟩
 | ag hs h1 hr ih=>
   simp only[AV.rn];refine .ag (by rw[rns_length];exact hs) h1 λj av hj=>?_;rw[rns_get] at hj;obtain ⟨a,h2,rfl⟩:=Option.map_eq_some_iff.1 hj;exact ih j a h2 (inNs_get (by simpa only[AV.inN] using hn) h2)
 | tu hs hr ih=>
   simp only[AV.rn];refine .tu (by rw[rns_length];exact hs) λj av hj=>?_;rw[rns_get] at hj;obtain ⟨a,h2,rfl⟩:=Option.map_eq_some_iff.1 hj;exact ih j a h2 (inNs_get (by simpa only[AV.inN] using hn) h2)
 | fn hs hr ih=>
   simp only[AV.rn];refine .fn (by rw[rns_length];exact hs) λj av hj=>?_;rw[rns_get] at hj;obtain ⟨a,h2,rfl⟩:=Option.map_eq_some_iff.1 hj;exact ih j a h2 (inNs_get (by simpa only[AV.inN] using hn) h2)
theorem unrn_rep (hS:∀β,S β->S' β) (hp:∀i,p i->U' i/\∀o',obs' i=some o'->∃o,obs (ρ i)=some o/\o'.sz=o.sz/\o'.es.length=o.es.length/\φ' i=φ (ρ i)) :
 ∀{v:Value} {av:AV},RepV φ obs U h S v (av.rn ρ)->av.inN p->RepV φ' obs' U' h S' v av:=by
 have key:∀{v:Value} {bv:AV},RepV φ obs U h S v bv->∀av:AV,bv=av.rn ρ->av.inN p->RepV φ' obs' U' h S' v av:=by
  intro v bv r
  induction r with
  | un v=>intro av e h0;cases av<;>simp[AV.rn] at e;exact .un v
  | rd r0=>
    intro av e h0;cases r0 with
    | pr v h1=>cases av<;>simp[AV.rn] at e;subst e;exact .rd (.pr _ h1)
    | nl=>cases av<;>simp[AV.rn] at e;exact .rd .nl
    | im0 a cap sz=>cases av<;>simp[AV.rn] at e;obtain ⟨rfl,rfl⟩:=e;exact .rd (.im0 _ _ _)
    | im vs hSb hb hcap hsz hc hr=>cases av<;>simp[AV.rn] at e;obtain ⟨rfl,rfl⟩:=e;exact .rd (RdI.mono (λβ hβ=>⟨hS β hβ,rfl⟩) (.im vs hSb hb hcap hsz hc hr))
    | fn g=>
      cases av<;>simp[AV.rn] at e;rename_i g' caps;obtain ⟨rfl,e⟩:=e;cases caps with
      | nil=>exact .rd (.fn _)
      | cons a b=>simp[rns] at e
  | @rf v id off len hu hv hr=>
    intro av e h0;cases av<;>simp[AV.rn] at e;rename_i id' off' len';obtain ⟨rfl,rfl,rfl⟩:=e;obtain ⟨h1,h2⟩:=hp id' (by simpa only[AV.inN] using h0);refine .rf h1 hv λo' ho'=>?_;obtain ⟨o,ho,e1,e2,e3⟩:=h2 o' ho';obtain ⟨g1,g2⟩:=hr o ho;refine ⟨by rw[e2];exact g1,?_⟩;rcases g2 with g2|⟨β,b,cap,c,e,fz,k1,k2,k3,k4,k5⟩
    ·exact .inl g2
    ·exact .inr ⟨β,b,cap,c,e,fz,e3.trans k1,k2,by rw[e1];exact k3,k4,by rw[e1];exact k5⟩
  | @pt v id i off hu hv hr=>
    intro av e h0;cases av<;>simp[AV.rn] at e;rename_i id' i' off';obtain ⟨rfl,rfl,rfl⟩:=e;obtain ⟨h1,h2⟩:=hp id' (by simpa only[AV.inN] using h0);refine .pt h1 hv λo' ho'=>?_;obtain ⟨o,ho,e1,e2,e3⟩:=h2 o' ho';obtain ⟨β,b,k1,k2⟩:=hr o ho;exact ⟨β,b,e3.trans k1,by rw[e1];exact k2⟩
  | ro vs hSb hb hc hr=>
    intro av e h0;cases av<;>simp[AV.rn] at e;obtain ⟨rfl,rfl⟩:=e;exact .ro vs (hS _ hSb) hb hc λj av hj=>(hr j av hj).mono λβ hβ=>⟨hS β hβ,rfl⟩
  | ag hs h1 hr ih=>
    intro av e h0;cases av<;>simp[AV.rn] at e;subst e;refine .ag (by rw[rns_length] at hs;exact hs) h1 λj av hj=>?_;exact ih j (av.rn ρ) (by rw[rns_get,hj];rfl) av rfl (inNs_get (by simpa only[AV.inN] using h0) hj)
  | tu hs hr ih=>
    intro av e h0;cases av<;>simp[AV.rn] at e;subst e;refine .tu (by rw[rns_length] at hs;exact hs) λj av hj=>?_;exact ih j (av.rn ρ) (by rw[rns_get,hj];rfl) av rfl (inNs_get (by simpa only[AV.inN] using h0) hj)
  | fn hs hr ih=>
    intro av e h0;cases av<;>simp[AV.rn] at e;obtain ⟨rfl,e⟩:=e;subst e;refine .fn (by rw[rns_length] at hs;exact hs) λj av hj=>?_;exact ih j (av.rn ρ) (by rw[rns_get,hj];rfl) av rfl (inNs_get (by simpa only[AV.inN] using h0) hj)
 intro v av r h0;exact key r _ rfl h0
end
def FunSpecD (P:Program) (f:Nat) (args:List AV) (O0 O:Nat->Option Ob) (U:List Nat) (R:AV->(Nat->Option Ob)->Prop):Prop:=
 (∃ fn, P.funcs[f]? = some fn ∧ (fn.name == "runtime.NumGoroutine") = false ∧ fn.body.isSome = true) ∧
 ∀(F:Fr) (φ:Nat->Option (Nat×Nat)) (w:World) (vs:Array Value),F.w0=w->F.O0=O0->F.φ0=φ->RepH F φ O (·∈U) w ->
  vs.size=args.length->(∀(j:Nat) (av:AV),args[j]?=some av->RepV φ O (·∈U) w.heap (SS F φ O w) (vs.getD j undef) av) ->
  Calls P f vs w λe w'=>∃(v:Value) (r:AV) (O':Nat->Option Ob) (φ':Nat->Option (Nat×Nat)) (U':List Nat),e=.returned v/\R r O'/\RepH F φ' O' (·∈U') w' /\
   RepV φ' O' (·∈U') w'.heap (SS F φ' O' w') v r
theorem FunSpecD.mono {P:Program} {f:Nat} {args:List AV} {O0 O:Nat->Option Ob} {U:List Nat} {R R':AV->(Nat->Option Ob)->Prop} (h:FunSpecD P f args O0 O U R) (hr:∀r O',R r O'->R' r O'):FunSpecD P f args O0 O U R':=by refine ⟨h.1,λF φ w vs h1 h2 h3 H hs ha=>(h.2 F φ w vs h1 h2 h3 H hs ha).mono ?_⟩;rintro e w' ⟨v,r,O',φ',U',g1,g2,g3⟩;exact ⟨v,r,O',φ',U',g1,hr _ _ g2,g3⟩
section
variable {P:Program} {T:Nat->TI}
theorem funspecD_of_vc (hT:TabOk P T) (hE:∀t e,(T t).k=.slice e->(T e).k.known=true) (G:Ords) {f:Nat} {fn:Func} {c:Code} {rl:List ResultVar} {args:List AV} {O0 O:Nat->Option Ob} {U:List Nat} {R:AV->(Nat->Option Ob)->Prop}
 (hf : P.funcs[f]? = some fn) (hb : fn.body = some c) (hr : fn.results.toList = rl) (hok : (okCode fn.ntmps G c && !(fn.name == "runtime.NumGoroutine")) = true) (ha : Nat.ble args.length fn.ntmps = true)
 (h0:∀i,O0 i≠none->i=0) (h:vc P T G c (fnPost T O0 rl R) ⟨startR 0 args,O,U⟩):FunSpecD P f args O0 O U R:=by
 subst hr;simp only[Bool.and_eq_true,Bool.not_eq_true'] at hok;obtain ⟨hok,hname⟩:=hok;have ha:=Nat.le_of_ble_eq_true ha;refine ⟨⟨fn,hf,hname,by rw[hb];rfl⟩,λF φ w vs h1 h2 h3 H hs hv=>?_⟩;refine calls_of_wp hf hb ?_;have R0:Rep F fn.ntmps ⟨startR 0 args,O,U⟩ {tmps:=vs++Array.replicate (fn.ntmps-vs.size) undef,defers:=[]} w:=start_rep H hs ha hv;refine vc_sound hT hE (λi hi=>h0 i (by rw[<- h2];exact hi)) c _ _ _ _ _ hok h R0 λe st1 a' w' R1 h'=>?_
 have fin:FIN T O0 fn.results.toList R st1->a'.defers=[]/\∃v,(results fn a'.tmps).run P w'=.ok v w'/\∃(v_1:Value) (r:AV) (O':Nat->Option Ob) (φ':Nat->Option (Nat×Nat)) (U':List Nat),
  Ending.returned v=.returned v_1/\R r O'/\RepH F φ' O' (·∈U') w'/\RepV φ' O' (·∈U') w'.heap (SS F φ' O' w') v_1 r:=λ⟨st',hent,hh⟩=>by
  obtain ⟨hsz,hdf,φ',H',hr'⟩:=hent F _ _ _ h2 R1;obtain ⟨v,av,g1,g2,g3⟩:=hRes_spec (P:=P) hT H' hr' hh;exact ⟨hdf,v,g1,v,av,st'.objs,φ',st'.used,rfl,g2,H',g3⟩
 cases e with
 | normal=>exact fin h'
 | ret=>exact fin h'
 | _=>exact False.elim h'
end
def nmD (keep:Bool) (r0 K i:Nat):Nat:=if keep=true/\i=0 then r0 else K+i
def depO (keep:Bool) (r0 K:Nat) (hs:List Nat) (O' objs:Nat->Option Ob) (n:Nat):Option Ob:=
 if keep=true/\n=r0 then (O' 0).map (Ob.rn (nmD keep r0 K))
 else if K<=n then (if keep=true/\n=K then none else (O' (n-K)).map (Ob.rn (nmD keep r0 K)))
 else if n∈hs then none else objs n
def kept (keep:Bool) (O:Nat->Option Ob) (i:Nat):Option Ob:=if keep=true/\i=0 then O 0 else none
theorem dep_sem {P:Program} {f:Nat} {args args':List AV} {objs O:Nat->Option Ob} {used U:List Nat} {R:AV->(Nat->Option Ob)->Prop} {keep:Bool} (h:FunSpecD P f args' (kept keep O) O U R)
 (ρ:Nat->Nat) (hinj:∀i∈U,∀j∈U,ρ i=ρ j->i=j) (hOU:∀i o,O i=some o->i∈U/\∀x∈o.es,inNs (·∈U) x) (h0:keep=true->∃o,O 0=some o)
 (hob:∀i o,O i=some o->objs (ρ i)=some (o.rn ρ)) (hused:∀i∈U,ρ i∈used) (hargs:args=rns ρ args'/\inNs (·∈U) args')
 (K:Nat) (hK:∀n∈used,n<K) (V:AV->(Nat->Option Ob)->List Nat)
 (hV:∀r O',R r O'->(∀i o,O' i=some o->i∈V r O'/\∀x∈o.es,inNs (·∈V r O') x)/\r.inN (·∈V r O')) :
 CallSem P f args objs used λu O2 U2=>∃r O',R r O'/\u=r.rn (nmD keep (ρ 0) K)/\O2=depO keep (ρ 0) K (U.map ρ) O' objs/\U2=(V r O').map (nmD keep (ρ 0) K)++used:=by
 have h0U:keep=true->0∈U:=λhk=>by obtain ⟨o,ho⟩:=h0 hk;exact (hOU 0 o ho).1
 refine ⟨h.1,λF φ w vs H hvs ha=>?_⟩;obtain ⟨rfl,hain⟩:=hargs;obtain ⟨own,hown⟩:∃own:Nat->Prop,own=λβ=>∃i o b,O i=some o/\φ (ρ i)=some (β,b):=⟨_,rfl⟩;obtain ⟨φc,hφc⟩:∃φc:Nat->Option (Nat×Nat),φc=λi=>φ (ρ i):=⟨_,rfl⟩
 -- what the caller has of it
 have hsame:∀i,i∈U->i∈U/\∀o',O i=some o'->∃o,objs (ρ i)=some o/\o'.sz=o.sz/\o'.es.length=o.es.length/\φc i=φ (ρ i):=λi hi=>
  ⟨hi,λo' ho'=>⟨_,hob i o' ho',rfl,by simp[Ob.rn],by rw[hφc]⟩⟩
 have hSS:∀β,SS F φ objs w β->SS ⟨w,own,SS F φ objs w,kept keep O,φc⟩ φc O w β:=λβ hβ=>
  ⟨hβ.1,λi o b ho hφ'=>by rw[hφc] at hφ';exact hβ.2.1 (ρ i) _ b (hob i o ho) hφ',λ_=>.inl hβ⟩
 have H0:RepH ⟨w,own,SS F φ objs w,kept keep O,φc⟩ φc O (·∈U) w:=by
  refine {inj:=λi j oi oj β bi bj hi hj pi pj=>?_,inU:=λi o ho=>(hOU i o ho).1,ob:=λi o ho=>?_,own:=λi o β b ho hp=>.inl ?_,below:=λ_ _ _=>rfl,size:=Nat.le_refl _,os:=rfl,tape:=rfl,output:=rfl,idsU:=λi hi=>?_,keep0:=λi hi o' ho'=>?_}
  ·rw[hφc] at pi pj;exact hinj i (hOU i oi hi).1 j (hOU j oj hj).1 (H.inj (ρ i) (ρ j) _ _ β bi bj (hob i oi hi) (hob j oj hj) pi pj)
  ·obtain ⟨g1,g2⟩:=H.ob (ρ i) _ (hob i o ho);refine ⟨λx hx=>?_,?_⟩
   ·have:=g1 (rns ρ x) (List.mem_map_of_mem hx);rw[rns_length] at this;exact this
   ·rcases g2 with ⟨k1,k2⟩|⟨β,b,c,e,fz,k1,k2,k3,k4,k5⟩
    ·exact .inl ⟨by rw[hφc];exact k1,List.map_eq_nil_iff.1 k2⟩
    ·refine .inr ⟨β,b,c,e,fz,by rw[hφc];exact k1,k2,k3,by simpa [Ob.rn] using k4,λa j av hij=>?_⟩;obtain ⟨u,m1,m2,m3⟩:=k5 a j (av.rn ρ) (by show cellAt (o.es.map (rns ρ)) a j=_;rw[cell_rn,hij];rfl);exact ⟨u,m1,m2,unrn_rep (φ':=φc) (obs':=O) (U':=(·∈U)) hSS hsame m3 (inN_cell (hOU i o ho).2 hij)⟩
  ·show own β;rw[hown];exact ⟨i,o,b,ho,by rw[hφc] at hp;exact hp⟩
  ·simp only[kept] at hi;split at hi
   ·rename_i e;rw[e.2];exact h0U e.1
   ·exact absurd rfl hi
  ·have hk:keep=true/\i=0:=by
    by_cases c:keep=true/\i=0
    ·exact c
    ·have:kept keep O i=none:=if_neg c;exact absurd this hi
   have e1:kept keep O i=O i:=by rw[hk.2];exact if_pos ⟨hk.1,rfl⟩
   exact ⟨o',e1.trans ho',rfl,rfl,Nat.le_refl _,λβ b c e fz _ k=>⟨c,e,fz,k,rfl⟩⟩
 refine (h.2 ⟨w,own,SS F φ objs w,kept keep O,φc⟩ φc w vs rfl rfl rfl H0 (by rw[hvs,rns_length]) (λj av hj=>?_)).mono ?_
 ·exact unrn_rep (φ':=φc) (obs':=O) (U':=(·∈U)) hSS hsame (ha j (av.rn ρ) (by rw[rns_get,hj];rfl)) (inNs_get hain hj)
 rintro e w' ⟨v,r,O',φ',U',rfl,hR,H',rr⟩;obtain ⟨hV1,hV2⟩:=hV r O' hR;generalize hVV:V r O'=V' at hV1 hV2;obtain ⟨nm,hnm⟩:∃nm,nm=nmD keep (ρ 0) K:=⟨_,rfl⟩;obtain ⟨O2,hO2⟩:∃O2,O2=depO keep (ρ 0) K (U.map ρ) O' objs:=⟨_,rfl⟩;obtain ⟨φ2,hφ2⟩:∃φ2:Nat->Option (Nat×Nat),φ2=λn=>if keep=true/\n=ρ 0 then φ (ρ 0) else if K<=n then φ' (n-K) else φ n:=⟨_,rfl⟩
 have hr0:keep=true->ρ 0<K:=λhk=>hK _ (hused 0 (h0U hk))
 -- what is behind a name
 have low:∀n,n<K->¬(keep=true/\n=ρ 0)->n∉U.map ρ->O2 n=objs n/\φ2 n=φ n:=λn h1 h2 h3=>by rw[hO2,hφ2];simp only[depO];rw[if_neg h2,if_neg (by omega),if_neg h3];exact ⟨rfl,by rw[if_neg h2,if_neg (by omega)]⟩
 have inv:∀n o,O2 n=some o->(∃i oi,O' i=some oi/\n=nm i/\o=oi.rn nm/\φ2 n=(if keep=true/\i=0 then φ (ρ 0) else φ' i))\/(n<K/\¬(keep=true/\n=ρ 0)/\n∉U.map ρ/\objs n=some o/\φ2 n=φ n):=λn o hn=>by
  rw[hO2] at hn;simp only[depO] at hn;by_cases c1:keep=true/\n=ρ 0
  ·rw[if_pos c1] at hn;obtain ⟨oi,h1,rfl⟩:=Option.map_eq_some_iff.1 hn;refine .inl ⟨0,oi,h1,?_,by rw[hnm],?_⟩
   ·rw[hnm,nmD,if_pos ⟨c1.1,rfl⟩];exact c1.2
   ·rw[hφ2,if_pos ⟨c1.1,rfl⟩];simp only[if_pos c1]
  ·rw[if_neg c1] at hn;by_cases c2:K<=n
   ·rw[if_pos c2] at hn;by_cases c3:keep=true/\n=K
    ·rw[if_pos c3] at hn;cases hn
    ·rw[if_neg c3] at hn;obtain ⟨oi,h1,rfl⟩:=Option.map_eq_some_iff.1 hn;have c4:¬(keep=true/\n-K=0):=λh=>c3 ⟨h.1,by omega⟩;refine .inl ⟨n-K,oi,h1,?_,by rw[hnm],?_⟩
     ·rw[hnm,nmD,if_neg c4];omega
     ·rw[if_neg c4,hφ2];simp only[if_neg c1,if_pos c2]
   ·rw[if_neg c2] at hn;by_cases c3:n∈U.map ρ
    ·rw[if_pos c3] at hn;cases hn
    ·rw[if_neg c3] at hn;exact .inr ⟨by omega,c1,c3,hn,(low n (by omega) c1 c3).2⟩
 have fwd:∀i,O2 (nm i)=(O' i).map (Ob.rn nm)/\φ2 (nm i)=(if keep=true/\i=0 then φ (ρ 0) else φ' i):=λi=>by
  rw[hO2,hφ2,hnm];by_cases c:keep=true/\i=0
  ·have e:nmD keep (ρ 0) K i=ρ 0:=(by rw[nmD,if_pos c]);rw[e,if_pos c];have c2:keep=true/\ρ 0=ρ 0:=⟨c.1,rfl⟩;unfold depO;rw[if_pos c2,c.2];exact ⟨rfl,if_pos c2⟩
  ·have e:nmD keep (ρ 0) K i=K+i:=(by rw[nmD,if_neg c]);have c1:¬(keep=true/\K+i=ρ 0):=λh=>by have:=hr0 h.1;omega
   have c3:¬(keep=true/\K+i=K):=λh=>c ⟨h.1,by omega⟩;rw[e,if_neg c];simp only[depO];rw[if_neg c1,if_pos (by omega),if_neg c3,if_neg c1,if_pos (by omega),Nat.add_sub_cancel_left];exact ⟨rfl,rfl⟩
 -- the first one stays where it is
 have stay:keep=true->∀o',O' 0=some o'->∃o,O 0=some o/\φ' 0=φ (ρ 0)/\o'.sz=o.sz/\o.es.length<=o'.es.length /\
  ∀β b c e fz,φ (ρ 0)=some (β,b)->w.heap[β]?=some (.cells c e fz)->∃c' e' fz',w'.heap[β]?=some (.cells c' e' fz')/\c'.size=c.size:=λhk o' ho'=>by
  have hO0:O 0≠none:=by obtain ⟨o,ho⟩:=h0 hk;rw[ho];simp
  obtain ⟨o1,e1,e2,e3,e4,e5⟩:=H'.keep0 0 (by simp only[kept,hk];simpa using hO0) o' ho';have e6:O 0=some o1:=(by simpa [kept,hk] using e1);have e7:(⟨w,own,SS F φ objs w,kept keep O,φc⟩:Fr).φ0 0=φ (ρ 0):=(by rw[hφc]);exact ⟨o1,e6,e2.trans e7,e3,e4,λβ b c e fz k1 k2=>e5 β b c e fz (e7.trans k1) k2⟩
 have phi:∀i oi,O' i=some oi->(if keep=true/\i=0 then φ (ρ 0) else φ' i)=φ' i:=λi oi hi=>by
  split
  ·rename_i c;obtain ⟨c1,rfl⟩:=c;obtain ⟨o,_,e,_⟩:=stay c1 oi hi;exact e.symm
  ·rfl
 have hval:∀i,i∈V'->nm i∈V'.map nm++used/\∀o',O2 (nm i)=some o'->∃o,O' i=some o/\o'.sz=o.sz/\o'.es.length=o.es.length/\φ2 (nm i)=φ' i:=λi hi=>by refine ⟨List.mem_append_left _ (List.mem_map_of_mem hi),λo' ho'=>?_⟩;obtain ⟨f1,f2⟩:=fwd i;rw[f1] at ho';obtain ⟨oi,h1,rfl⟩:=Option.map_eq_some_iff.1 ho';exact ⟨oi,h1,rfl,by simp[Ob.rn],by rw[f2,phi i oi h1]⟩
 have notown:∀n o β b,n∉U.map ρ->objs n=some o->φ n=some (β,b)->¬own β:=λn o β b hn ho hp ho2=>by rw[hown] at ho2;obtain ⟨i,oi,b',h1,h2⟩:=ho2;have:=H.inj n (ρ i) o _ β b b' ho (hob i oi h1) hp h2;exact hn (this▸List.mem_map_of_mem (hOU i oi h1).1)
 have hback:∀β,SS ⟨w,own,SS F φ objs w,kept keep O,φc⟩ φ' O' w' β->SS F φ2 O2 w' β:=λβ hβ=>by
  refine ⟨hβ.1,λn o b ho hp=>?_,λhlt=>?_⟩
  ·rcases inv n o ho with ⟨i,oi,h1,rfl,_,h2⟩|⟨h1,h2,h3,h4,h5⟩
   ·rw[h2,phi i oi h1] at hp;exact hβ.2.1 i oi b h1 hp
   ·rw[h5] at hp;rcases hβ.2.2 (H.lt h4 hp) with g|g
    ·exact g.2.1 n o b h4 hp
    ·exact notown n o β b h3 h4 hp g
  ·rcases hβ.2.2 (Nat.lt_of_lt_of_le hlt H.size) with g|g
   ·exact g.2.2 hlt
   ·have g':own β:=g;rw[hown] at g';obtain ⟨i,oi,b',h1,h2⟩:=g';rcases H.own (ρ i) _ β b' (hob i oi h1) h2 with h3|h3
    ·exact .inr h3
    ·omega
 have G:Goes φ φ2 objs O2 (·∈used) (·∈V'.map nm++used) w w':=by
  refine ⟨λi hi=>List.mem_append_right _ hi,λi hi o' ho'=>?_,λβ hβ hno=>?_,λi o' β b ho' hp=>?_,H'.size⟩
  ·rcases inv i o' ho' with ⟨i0,oi,h1,h2,rfl,h3⟩|⟨h1,h2,h3,h4,h5⟩
   ·have hlt:=hK i hi;by_cases c:keep=true/\i0=0
    ·obtain ⟨c1,rfl⟩:=c;have e:i=ρ 0:=(by rw[h2,hnm,nmD,if_pos ⟨c1,rfl⟩]);subst e;obtain ⟨o,e1,e2,e3,e4,e5⟩:=stay c1 oi h1;exact ⟨_,hob 0 o e1,by rw[h3,if_pos ⟨c1,rfl⟩],e3,by simpa [Ob.rn] using e4,e5⟩
    ·rw[h2,hnm,nmD,if_neg c] at hlt;omega
   ·refine ⟨o',h4,h5,rfl,Nat.le_refl _,λβ b c e fz k1 k2=>⟨c,e,fz,?_,rfl⟩⟩;rw[H'.below β (Array.getElem?_eq_some_iff.1 k2).1 (notown i o' β b h3 h4 k1)];exact k2
  ·refine H'.below β hβ λho=>?_;have ho':own β:=ho;rw[hown] at ho';obtain ⟨i,oi,b',h1,h2⟩:=ho';exact hno (ρ i) _ b' (hob i oi h1) h2
  ·rcases inv i o' ho' with ⟨i0,oi,h1,h2,rfl,h3⟩|⟨h1,h2,h3,h4,h5⟩
   ·rw[h3,phi i0 oi h1] at hp;rcases H'.own i0 oi β b h1 hp with g|g
    ·have g':own β:=g;rw[hown] at g';obtain ⟨k,ok,b',h4,h5⟩:=g';exact .inl ⟨ρ k,_,b',hob k ok h4,h5⟩
    ·exact .inr g
   ·exact .inl ⟨i,o',b,h4,by rw[<- h5];exact hp⟩
 have H2:RepH F φ2 O2 (·∈V'.map nm++used) w':=by
  refine G.repH H (λi j oi oj β bi bj hi hj pi pj=>?_) (λi o ho=>?_) (λi o ho=>?_) H'.os H'.tape H'.output
  ·have cross:∀i0 oi j oj β bi bj,O' i0=some oi->φ' i0=some (β,bi)->j∉U.map ρ->objs j=some oj->φ j=some (β,bj)->False:=λi0 oi j oj β bi bj h1 h2 h3 h4 h5=>by
    rcases H'.own i0 oi β bi h1 h2 with g|g
    ·exact notown j oj β bj h3 h4 h5 g
    ·have:=H.lt h4 h5;have:w.heap.size<=β:=g;omega
   rcases inv i oi hi with ⟨i0,oi',h1,h2,_,h3⟩|⟨_,_,h3,h4,h5⟩<;>rcases inv j oj hj with ⟨j0,oj',k1,k2,_,k3⟩|⟨_,_,k3,k4,k5⟩
   ·rw[h3,phi i0 oi' h1] at pi;rw[k3,phi j0 oj' k1] at pj;have:=H'.inj i0 j0 oi' oj' β bi bj h1 k1 pi pj;rw[h2,k2,this]
   ·rw[h3,phi i0 oi' h1] at pi;rw[k5] at pj;exact (cross i0 oi' j oj β bi bj h1 pi k3 k4 pj).elim
   ·rw[h5] at pi;rw[k3,phi j0 oj' k1] at pj;exact (cross j0 oj' i oi β bj bi k1 pj h3 h4 pi).elim
   ·rw[h5] at pi;rw[k5] at pj;exact H.inj i j oi oj β bi bj h4 k4 pi pj
  ·rcases inv i o ho with ⟨i0,oi,h1,h2,_,_⟩|⟨_,_,_,h4,_⟩
   ·rw[h2];exact List.mem_append_left _ (List.mem_map_of_mem (hV1 i0 oi h1).1)
   ·exact List.mem_append_right _ (H.inU i o h4)
  ·rcases inv i o ho with ⟨i0,oi,h1,h2,rfl,h3⟩|⟨_,_,h3,h4,h5⟩
   ·rw[phi i0 oi h1] at h3;obtain ⟨g1,g2⟩:=H'.ob i0 oi h1;refine ⟨λx hx=>?_,?_⟩
    ·obtain ⟨y,hy,rfl⟩:=List.mem_map.1 hx;rw[rns_length];exact g1 y hy
    ·rcases g2 with ⟨k1,k2⟩|⟨β,b,c,e,fz,k1,k2,k3,k4,k5⟩
     ·exact .inl ⟨h3.trans k1,by simp[Ob.rn,k2]⟩
     ·refine .inr ⟨β,b,c,e,fz,h3.trans k1,k2,k3,by simpa [Ob.rn] using k4,λa j av hij=>?_⟩;have hij':(cellAt oi.es a j).map (AV.rn nm)=some av:=by rw[<- cell_rn];exact hij
      obtain ⟨av0,hc,rfl⟩:=Option.map_eq_some_iff.1 hij';obtain ⟨u,m1,m2,m3⟩:=k5 a j av0 hc;exact ⟨u,m1,m2,rn_rep (p:=(·∈V')) hback hval m3 (inN_cell (hV1 i0 oi h1).2 hc)⟩
   ·exact (H.ob i o h4).mono h5 (λβ b hp=>H'.below β (H.lt h4 hp) (notown i o β b h3 h4 hp)) λv av r=>G.repV r
 refine ⟨v,r.rn nm,O2,V'.map nm++used,φ2,rfl,⟨r,O',hR,by rw[hnm],hO2,by rw[hVV,hnm]⟩,G,H2,?_⟩;exact rn_rep (p:=(·∈V')) hback hval rr hV2
end Go.Vc
namespace Go.Vc
section
variable {P:Program} {F:Fr} {φ:Nat->Option (Nat×Nat)} {st:St} {w:World}
theorem goes_drop {id:Nat}:Goes φ φ st.objs (upd st.objs id none) (·∈st.used) (·∈st.used) w w:=by
 have hO:∀i o',upd st.objs id none i=some o'->i≠id/\st.objs i=some o':=by
  intro i o' h;simp only[upd] at h;split at h
  ·cases h
  ·rename_i hi;exact ⟨λe=>hi e.symm,h⟩
 exact
  {hU:=λ_ h=>h
   keeps:=λi _ o' ho'=>⟨o',(hO i o' ho').2,rfl,rfl,Nat.le_refl _,λβ b c e fz h1 h2=>⟨c,e,fz,h2,rfl⟩⟩
   blocks:=λ_ _ _=>rfl
   news:=λi o' β b ho hφ=>.inl ⟨i,o',b,(hO i o' ho).2,hφ⟩
   size:=Nat.le_refl _}
theorem repH_drop {id:Nat} (H:RepH F φ st.objs (·∈st.used) w):RepH F φ (upd st.objs id none) (·∈st.used) w:=by
 have G:=goes_drop (φ:=φ) (st:=st) (w:=w) (id:=id);have hO:∀i o',upd st.objs id none i=some o'->st.objs i=some o':=by
  intro i o' h;simp only[upd] at h;split at h
  ·cases h
  ·exact h
 refine G.repH H (λi j oi oj β bi bj hi hj=>H.inj i j oi oj β bi bj (hO _ _ hi) (hO _ _ hj)) (λi o ho=>H.inU i o (hO _ _ ho)) (λi o ho=>?_) rfl rfl rfl;exact (H.ob i o (hO _ _ ho)).mono rfl (λβ b hφ=>rfl) λv av r=>G.repV r
theorem Goes.trans {φ φ' φ'':Nat->Option (Nat×Nat)} {obs obs' obs'':Nat->Option Ob} {U U' U'':Nat->Prop} {w w' w'':World}
 (a:Goes φ φ' obs obs' U U' w w') (b:Goes φ' φ'' obs' obs'' U' U'' w' w''):Goes φ φ'' obs obs'' U U'' w w'':=
 {hU:=λi h=>b.hU i (a.hU i h)
  keeps:=λi hi=>(a.keeps i hi).trans (b.keeps i (a.hU i hi))
  blocks:=λβ hβ hn=>by
   refine (b.blocks β (Nat.lt_of_lt_of_le hβ a.size) λi o' bb ho hφ=>?_).trans (a.blocks β hβ hn);rcases a.news i o' β bb ho hφ with ⟨j,oj,bj,k1,k2⟩|k
   ·exact hn j oj bj k1 k2
   ·omega
  news:=λi o' β bb ho hφ=>by
   rcases b.news i o' β bb ho hφ with ⟨j,oj,bj,k1,k2⟩|k
   ·exact a.news j oj β bj k1 k2
   ·exact .inr (Nat.le_trans a.size k)
  size:=Nat.le_trans a.size b.size}
theorem fzs_get (id:Nat) (o:Ob) (l:List AV) (j:Nat):(fzs id o l)[j]?=(l[j]?).map (AV.fz id o):=by rw[fzs_map,List.getElem?_map]
theorem CALL.give {f:Nat} {args:List AV} {d:Option Nat} {K:St->Prop} {R:AV->Prop} (id:Nat) (o:Ob) (h:Spec0 P f (fzs id o args) R) (hn:noIds (fzs id o args)=true) (ho:st.objs id=some o) (hl:o.leafy)
 (k:∀r,R r->r.noId=true->K {regs:=(st.put d r).regs,objs:=upd st.objs id none,used:=st.used}):CALL P f args st d K:=by
 refine .sem (λu O U=>R u/\u.noId=true/\O=upd st.objs id none/\U=st.used) ⟨h.1,λF φ w vs H hvs ha=>?_⟩ λu O U hX=>?_
 ·obtain ⟨_,key⟩:=frz_rep H ho hl;have H1:=repH_drop (id:=id) H;have G0:=goes_drop (φ:=φ) (st:=st) (w:=w) (id:=id);have hSS:∀β,SS F φ (fzO id o st.objs) w β->SS F φ (upd st.objs id none) w β:=by
   rintro β ⟨h1,h2,h3⟩;refine ⟨h1,λi x b hi hb=>?_,h3⟩;simp only[upd] at hi;split at hi
   ·cases hi
   ·rename_i hne;exact h2 i ⟨x.sz,fzE id o x.es⟩ b (by simp only[fzO,if_neg (λe=>hne (Eq.symm e)),hi];rfl) hb
  obtain ⟨st1,hst1⟩:∃st1:St,st1=⟨st.regs,upd st.objs id none,st.used⟩:=⟨_,rfl⟩;have e1:st1.objs=upd st.objs id none:=(by rw[hst1]);have e2:st1.used=st.used:=(by rw[hst1]);rw[<- e1,<- e2] at H1;refine (h.2 ⟨w,λ_=>False,SS F φ st1.objs w,noOb,λ_=>none⟩ (λ_=>none) w vs rfl rfl rfl (callee_none _ w) (by rw[hvs,fzs_map,List.length_map]) (λj av hj=>?_)).mono ?_
  ·have hj':=hj;rw[fzs_get] at hj;obtain ⟨x,hx,rfl⟩:=Option.map_eq_some_iff.1 hj;have r:=key (ha j x hx);exact noId_rep (λβ hβ=>⟨⟨hβ.1,(λi o b h=>by cases h),λ_=>.inl (by rw[e1];exact hSS β hβ)⟩,rfl⟩) r (noIds_get hn hj')
  ·rintro e w' ⟨v,r,O',φ',U',rfl,⟨⟨hR,hnr⟩,rfl⟩,H',rr⟩;have G:=goes_same (φ:=φ) (st:=st1) H';have H2:=repH_same (st:=st1) H1 H'
   have rr':RepV φ st1.objs (·∈st1.used) w'.heap (SS F φ st1.objs w') v r:=
    noId_rep (λβ hβ=>⟨ss_back H1 (λβ i o b h ho hφ=>by
     have hlt:=H1.lt ho hφ;rcases h.2.2 hlt with h|h
     ·exact h.2.1 i o b ho hφ
     ·exact h) (λβ h _=>h) β hβ,rfl⟩) rr hnr
   rw[e1,e2] at G H2 rr';exact ⟨v,r,upd st.objs id none,st.used,φ,rfl,⟨hR,hnr,rfl,rfl⟩,G0.trans G,H2,rr'⟩
 ·obtain ⟨hR,hnr,rfl,rfl⟩:=hX;exact k u hR hnr
theorem CALL.giveTo {f:Nat} {args args':List AV} {d:Option Nat} {K:St->Prop} {R:AV->Prop} (id:Nat) (o:Ob) (h:Spec0 P f args' R) (hn:noIds args'=true) (he:fzs id o args=args') (ho:st.objs id=some o) (hl:o.leafy)
 (k:∀r,R r->r.noId=true->K {regs:=(st.put d r).regs,objs:=upd st.objs id none,used:=st.used}):CALL P f args st d K:=by
 subst he;exact CALL.give id o h hn ho hl k
end
end Go.Vc
namespace Go.Vc
mutual
def AV.newM:AV->Bool
 | .im _ es=>es.isEmpty
 | .ro _ _=>false
 | .ag cs=>newMs cs
 | .tu vs=>newMs vs
 | .fn _ caps=>newMs caps
 | _=>true
def newMs:List AV->Bool
 | []=>true
 | x::r=>x.newM&&newMs r
end
theorem newMs_get {l:List AV} (h:newMs l=true) {j:Nat} {av:AV} (hj:l[j]?=some av):av.newM=true:=by
 induction l generalizing j with
 | nil=>cases hj
 | cons x r ih=>
   simp only[newMs,Bool.and_eq_true] at h;cases j with
   | zero=>simp at hj;subst hj;exact h.1
   | succ j=>exact ih h.2 (by simpa using hj)
section
variable {φ φ':Nat->Option (Nat×Nat)} {obs obs':Nat->Option Ob} {U U':Nat->Prop} {h h':Array Obj} {S S':Nat->Prop} {ρ:Nat->Nat} {p:Nat->Prop}
theorem rn_rep' (hp:∀i,p i->U' (ρ i)/\∀o',obs' (ρ i)=some o'->∃o,obs i=some o/\o'.sz=o.sz/\o'.es.length=o.es.length/\φ' (ρ i)=φ i)
 {v:Value} {av:AV} (r:RepV φ obs U h S v av) (hn:av.inN p) (hm:av.newM=true):RepV φ' obs' U' h S' v (av.rn ρ):=by
 induction r with
 | un v=>simpa [AV.rn] using RepV.un v
 | rd r0=>
   cases r0 with
   | pr v h1=>simp only[AV.rn];exact .rd (.pr _ h1)
   | nl=>simp only[AV.rn];exact .rd .nl
   | im0 a cap sz=>simp only[AV.rn];exact .rd (.im0 _ _ _)
   | im vs hSb hb hcap hsz hc hr=>
     simp only[AV.newM,List.isEmpty_iff] at hm;subst hm;simp only[AV.rn];exact .rd (.im0 _ _ _)
   | fn g=>simp only[AV.rn,rns];exact .rd (.fn _)
 | @rf v id off len hu hv hr=>
   obtain ⟨h1,h2⟩:=hp id (by simpa only[AV.inN] using hn);simp only[AV.rn];refine .rf h1 hv λo' ho'=>?_;obtain ⟨o,ho,e1,e2,e3⟩:=h2 o' ho';obtain ⟨g1,g2⟩:=hr o ho;refine ⟨by rw[e2];exact g1,?_⟩;rcases g2 with g2|⟨β,b,cap,c,e,fz,k1,k2,k3,k4,k5⟩
   ·exact .inl g2
   ·exact .inr ⟨β,b,cap,c,e,fz,e3.trans k1,k2,by rw[e1];exact k3,k4,by rw[e1];exact k5⟩
 | @pt v id i off hu hv hr=>
   obtain ⟨h1,h2⟩:=hp id (by simpa only[AV.inN] using hn);simp only[AV.rn];refine .pt h1 hv λo' ho'=>?_;obtain ⟨o,ho,e1,e2,e3⟩:=h2 o' ho';obtain ⟨β,b,k1,k2⟩:=hr o ho;exact ⟨β,b,e3.trans k1,by rw[e1];exact k2⟩
 | ro vs hSb hb hc hr=>cases hm
 | ag hs h1 hr ih=>
   simp only[AV.rn];refine .ag (by rw[rns_length];exact hs) h1 λj av hj=>?_;rw[rns_get] at hj;obtain ⟨a,h2,rfl⟩:=Option.map_eq_some_iff.1 hj;exact ih j a h2 (inNs_get (by simpa only[AV.inN] using hn) h2) (newMs_get (by simpa only[AV.newM] using hm) h2)
 | tu hs hr ih=>
   simp only[AV.rn];refine .tu (by rw[rns_length];exact hs) λj av hj=>?_;rw[rns_get] at hj;obtain ⟨a,h2,rfl⟩:=Option.map_eq_some_iff.1 hj;exact ih j a h2 (inNs_get (by simpa only[AV.inN] using hn) h2) (newMs_get (by simpa only[AV.newM] using hm) h2)
 | fn hs hr ih=>
   simp only[AV.rn];refine .fn (by rw[rns_length];exact hs) λj av hj=>?_;rw[rns_get] at hj;obtain ⟨a,h2,rfl⟩:=Option.map_eq_some_iff.1 hj;exact ih j a h2 (inNs_get (by simpa only[AV.inN] using hn) h2) (newMs_get (by simpa only[AV.newM] using hm) h2)
end
def addO (K:Nat) (O' objs:Nat->Option Ob) (n:Nat):Option Ob:=if K<=n then (O' (n-K)).map (Ob.rn λi=>K+i) else objs n
theorem lendD_sem {P:Program} {f:Nat} {args args':List AV} {objs:Nat->Option Ob} {used:List Nat} {R:AV->(Nat->Option Ob)->Prop} (h:FunSpecD P f args' noOb noOb [] R) (hl:lents objs args args')
 (K:Nat) (hK:∀n∈used,n<K) (V:AV->(Nat->Option Ob)->List Nat)
 (hV:∀r O',R r O'->(∀i o,O' i=some o->i∈V r O'/\∀x∈o.es,inNs (·∈V r O') x/\newMs x=true)/\r.inN (·∈V r O')/\r.newM=true) :
 CallSem P f args objs used λu O2 U2=>∃r O',R r O'/\u=r.rn (λi=>K+i)/\O2=addO K O' objs/\U2=(V r O').map (λi=>K+i)++used:=by
 obtain ⟨hl1,hl2⟩:=lents_get hl;refine ⟨h.1,λF φ w vs H hvs ha=>?_⟩;refine (h.2 ⟨w,λ_=>False,λβ=>β<w.heap.size,noOb,λ_=>none⟩ (λ_=>none) w vs rfl rfl rfl (callee_none _ w) (by rw[hvs,hl1]) (λj av hj=>?_)).mono ?_
 ·have hlt:j<args.length:=by have:=(List.getElem?_eq_some_iff.1 hj).1;omega
  exact lent_rep (st:=⟨λ_=>.un,objs,used⟩) H (λβ hβ=>⟨hβ,(λi o b h=>by cases h),λ_=>.inl hβ⟩) (hl2 j _ av (List.getElem?_eq_getElem hlt) hj) (ha j _ (List.getElem?_eq_getElem hlt))
 rintro e w' ⟨v,r,O',φ',U',rfl,hR,H',rr⟩;obtain ⟨hV1,hV2,hV3⟩:=hV r O' hR;generalize hVV:V r O'=V' at hV1 hV2;obtain ⟨nm,hnm⟩:∃nm:Nat->Nat,nm=λi=>K+i:=⟨_,rfl⟩;obtain ⟨O2,hO2⟩:∃O2,O2=addO K O' objs:=⟨_,rfl⟩;obtain ⟨φ2,hφ2⟩:∃φ2:Nat->Option (Nat×Nat),φ2=λn=>if K<=n then φ' (n-K) else φ n:=⟨_,rfl⟩
 have low:∀n,n<K->O2 n=objs n/\φ2 n=φ n:=λn h1=>by rw[hO2,hφ2];simp only[addO];rw[if_neg (by omega),if_neg (by omega)];exact ⟨rfl,rfl⟩
 have fwd:∀i,O2 (nm i)=(O' i).map (Ob.rn nm)/\φ2 (nm i)=φ' i:=λi=>by rw[hO2,hφ2,hnm];simp only[addO];rw[if_pos (by omega),if_pos (by omega),Nat.add_sub_cancel_left];exact ⟨rfl,rfl⟩
 have inv:∀n o,O2 n=some o->(∃i oi,O' i=some oi/\n=nm i/\o=oi.rn nm/\φ2 n=φ' i)\/(n<K/\objs n=some o/\φ2 n=φ n):=λn o hn=>by
  by_cases c:n<K
  ·exact .inr ⟨c,(low n c).1▸hn,(low n c).2⟩
  ·obtain ⟨i,rfl⟩:∃i,n=nm i:=⟨n-K,by rw[hnm];simp only;omega⟩;rw[(fwd i).1] at hn;obtain ⟨oi,h1,rfl⟩:=Option.map_eq_some_iff.1 hn;exact .inl ⟨i,oi,h1,rfl,rfl,(fwd i).2⟩
 have hval:∀i,i∈V'->nm i∈V'.map nm++used/\∀o',O2 (nm i)=some o'->∃o,O' i=some o/\o'.sz=o.sz/\o'.es.length=o.es.length/\φ2 (nm i)=φ' i:=λi hi=>by refine ⟨List.mem_append_left _ (List.mem_map_of_mem hi),λo' ho'=>?_⟩;rw[(fwd i).1] at ho';obtain ⟨oi,h1,rfl⟩:=Option.map_eq_some_iff.1 ho';exact ⟨oi,h1,rfl,by simp[Ob.rn],(fwd i).2⟩
 have G:Goes φ φ2 objs O2 (·∈used) (·∈V'.map nm++used) w w':=by
  refine ⟨λi hi=>List.mem_append_right _ hi,λi hi o' ho'=>?_,λβ hβ hno=>H'.below β hβ id,λi o' β b ho' hp=>?_,H'.size⟩
  ·have hlt:=hK i hi;obtain ⟨l1,l2⟩:=low i hlt;refine ⟨o',l1▸ho',l2,rfl,Nat.le_refl _,λβ b c e fz k1 k2=>⟨c,e,fz,?_,rfl⟩⟩;rw[H'.below β (Array.getElem?_eq_some_iff.1 k2).1 id];exact k2
  ·rcases inv i o' ho' with ⟨i0,oi,h1,h2,rfl,h3⟩|⟨h1,h4,h5⟩
   ·rw[h3] at hp;rcases H'.own i0 oi β b h1 hp with g|g
    ·exact False.elim g
    ·exact .inr g
   ·exact .inl ⟨i,o',b,h4,by rw[<- h5];exact hp⟩
 have H2:RepH F φ2 O2 (·∈V'.map nm++used) w':=by
  refine G.repH H (λi j oi oj β bi bj hi hj pi pj=>?_) (λi o ho=>?_) (λi o ho=>?_) H'.os H'.tape H'.output
  ·have cross:∀i0 oi j oj β bi bj,O' i0=some oi->φ' i0=some (β,bi)->objs j=some oj->φ j=some (β,bj)->False:=λi0 oi j oj β bi bj h1 h2 h4 h5=>by
    rcases H'.own i0 oi β bi h1 h2 with g|g
    ·exact g
    ·have:=H.lt h4 h5;have:w.heap.size<=β:=g;omega
   rcases inv i oi hi with ⟨i0,oi',h1,h2,_,h3⟩|⟨_,h4,h5⟩<;>rcases inv j oj hj with ⟨j0,oj',k1,k2,_,k3⟩|⟨_,k4,k5⟩
   ·rw[h3] at pi;rw[k3] at pj;rw[h2,k2,H'.inj i0 j0 oi' oj' β bi bj h1 k1 pi pj]
   ·rw[h3] at pi;rw[k5] at pj;exact (cross i0 oi' j oj β bi bj h1 pi k4 pj).elim
   ·rw[h5] at pi;rw[k3] at pj;exact (cross j0 oj' i oi β bj bi k1 pj h4 pi).elim
   ·rw[h5] at pi;rw[k5] at pj;exact H.inj i j oi oj β bi bj h4 k4 pi pj
  ·rcases inv i o ho with ⟨i0,oi,h1,h2,_,_⟩|⟨_,h4,_⟩
   ·rw[h2];exact List.mem_append_left _ (List.mem_map_of_mem (hV1 i0 oi h1).1)
   ·exact List.mem_append_right _ (H.inU i o h4)
  ·rcases inv i o ho with ⟨i0,oi,h1,h2,rfl,h3⟩|⟨_,h4,h5⟩
   ·obtain ⟨g1,g2⟩:=H'.ob i0 oi h1;refine ⟨λx hx=>?_,?_⟩
    ·obtain ⟨y,hy,rfl⟩:=List.mem_map.1 hx;rw[rns_length];exact g1 y hy
    ·rcases g2 with ⟨k1,k2⟩|⟨β,b,c,e,fz,k1,k2,k3,k4,k5⟩
     ·exact .inl ⟨h3.trans k1,by simp[Ob.rn,k2]⟩
     ·refine .inr ⟨β,b,c,e,fz,h3.trans k1,k2,k3,by simpa [Ob.rn] using k4,λa j av hij=>?_⟩;have hij':(cellAt oi.es a j).map (AV.rn nm)=some av:=by rw[<- cell_rn];exact hij
      obtain ⟨av0,hc,rfl⟩:=Option.map_eq_some_iff.1 hij';obtain ⟨u,m1,m2,m3⟩:=k5 a j av0 hc;refine ⟨u,m1,m2,rn_rep' (p:=(·∈V')) hval m3 (inN_cell (λx hx=>((hV1 i0 oi h1).2 x hx).1) hc) ?_⟩;unfold cellAt at hc;cases he:oi.es[a]? with
      | none=>rw[he] at hc;cases hc
      | some x=>rw[he] at hc;exact newMs_get ((hV1 i0 oi h1).2 x (List.mem_of_getElem? he)).2 hc
   ·exact (H.ob i o h4).mono h5 (λβ b hp=>H'.below β (H.lt h4 hp) id) λv av r=>G.repV r
 refine ⟨v,r.rn nm,O2,V'.map nm++used,φ2,rfl,⟨r,O',hR,by rw[hnm],hO2,by rw[hVV,hnm]⟩,G,H2,?_⟩;exact rn_rep' (p:=(·∈V')) hval rr hV2 hV3
end Go.Vc
namespace Go.Vc
open Go.ChangeShapes Go.WideShapes Go.RowKit
section
variable {H:Type} {enc:TypeId×Value->H} {P:Program} {w:World} {sp:Nat->Bool} {held:Bool} {B:Nat}
def recTy (P:Program) (t:TypeId):Bool:=match P.underlying t with
 | some (.struct _)=>true
 | _=>false
def ShArg (P:Program) (B:Nat) (t:TypeId) (av:AV):Prop:=(oneTy P t=true/\Sh P B t [av])\/(recTy P t=true/\∃cs,av=.ag cs/\Sh P B t cs)
def ShArgs (P:Program) (B:Nat):List TypeId->List AV->Prop
 | [],[]=>True
 | t::ts,av::avs=>ShArg P B t av/\ShArgs P B ts avs
 | _,_=>False
theorem ShArgs.cons {t:TypeId} {ts:List TypeId} {avs:List AV} (h:ShArgs P B (t::ts) avs):∃a r,avs=a::r/\ShArg P B t a/\ShArgs P B ts r:=by
 cases avs with
 | nil=>exact False.elim h
 | cons a r=>exact ⟨a,r,rfl,h⟩
theorem ShArgs.nil {avs:List AV} (h:ShArgs P B [] avs):avs=[]:=by
 cases avs with
 | nil=>rfl
 | cons a r=>exact False.elim h
theorem one_rec {t:TypeId} (h:oneTy P t=true):recTy P t=false:=by unfold oneTy at h;unfold recTy;split at h<;>simp_all
theorem ShArg.one {t:TypeId} {av:AV} (h:ShArg P B t av) (h1:oneTy P t=true):Sh P B t [av]:=by
 rcases h with h|⟨h2,_⟩
 ·exact h.2
 ·rw[one_rec h1] at h2;cases h2
def RdA (h:Array Obj) (S:Nat->Prop) (v:Value) (av:AV):Prop:=RdI h S v av\/∃arr cs,v=.agg arr/\av=.ag cs/\RdL h S arr.toList cs
theorem args_ofA {r:Go.Reach} {b:Nat} (K:Kids P (·<P.types.size)):∀{ts:List TypeId} {vs:List Value} {ds:List (DataW H)} {ps:List MemPlace},(ts.all λt=>(oneTy P t||recTy P t)&&plainTy P 20 t&&decide (t<P.types.size))=true ->
 DataW.TrodAll enc P w 0 sp held ts vs ds ps->(∀(j:Nat) t v,ts[j]?=some t->vs[j]?=some v->Value.okWide P w r b t v)->bulkLe.bulkLes B ds ->
 ∃avs,ShArgs P B ts avs/\vs.length=avs.length/\∀(j:Nat) v av,vs[j]?=some v->avs[j]?=some av->RdA w.heap (·<w.heap.size) v av:=by
 intro ts
 induction ts with
 | nil=>
   intro vs ds ps _ h _ _;obtain ⟨rfl,rfl,rfl⟩:=trodAll_nil h;exact ⟨[],trivial,rfl,by simp⟩
 | cons t ts ih=>
   intro vs ds ps hp h hv hb;simp only[List.all_cons,Bool.and_eq_true,decide_eq_true_eq] at hp;obtain ⟨⟨⟨p1,p2⟩,p3⟩,hp⟩:=hp;obtain ⟨v,vs',d,ds',p,q,rfl,rfl,rfl,h1,h2⟩:=trodAll_cons h;obtain ⟨avs,b1,b2,b3⟩:=ih hp h2 (λj t v hj hj'=>hv (j+1) t v hj hj') hb.2;have hv0:=hv 0 t v rfl rfl;have fin:∀av,ShArg P B t av->RdA w.heap (·<w.heap.size) v av->∃avs,ShArgs P B (t::ts) avs/\(v::vs').length=avs.length/\∀(j:Nat) u av,(v::vs')[j]?=some u->avs[j]?=some av->RdA w.heap (·<w.heap.size) u av:=by
    intro av g1 g2;refine ⟨av::avs,⟨g1,b1⟩,by simp[b2],λj u a hj hj'=>?_⟩;cases j with
    | zero=>simp at hj hj';subst hj;subst hj';exact g2
    | succ j=>exact b3 j u a (by simpa using hj) (by simpa using hj')
   rcases Bool.or_eq_true _ _▸p1 with p1|p1
   ·obtain ⟨hc1,hc2⟩:=one_cells p1 hv0;obtain ⟨n,h1⟩:=h1;rw[hc1] at h1;obtain ⟨a1,a2,a3,a4⟩:=sh_of_trod (B:=B) K 20 t n [v] _ p2 p3 h1 hb.1;have:∃av,a1=[av]:=by
     have:=a4.1
     match a1,this with
     | [av],_=>exact ⟨av,rfl⟩
    obtain ⟨av,rfl⟩:=this;exact fin av (.inl ⟨p1,a2⟩) (.inl (a4.2 0 v av rfl rfl))
   ·have hu:∃fs,P.underlying t=some (.struct fs):=by
     have hp1:=p1;unfold recTy at hp1;split at hp1
     ·rename_i fs hh;exact ⟨fs,hh⟩
     ·cases hp1
    obtain ⟨fs,hu⟩:=hu;obtain ⟨cs,rfl,_⟩:=okWide_struct hu hv0;obtain ⟨n,h1⟩:=h1;obtain ⟨a1,a2,a3,a4⟩:=sh_of_trod (B:=B) K 20 t n cs.toList _ p2 p3 h1 hb.1;exact fin (.ag a1) (.inr ⟨p1,a1,rfl,a2⟩) (.inr ⟨cs,a1,rfl,rfl,a4⟩)
theorem law_callsA {n:Nat} {f:Func} {s:ChangeSpec} {args:Array Value} {ds gs:List (DataW H)} {before:List MemPlace} {tb:TypeId} {r:Go.Reach} {b:Nat} (K:Kids P (·<P.types.size))
 (hsz:∀{t e:TypeId},t<P.types.size->P.underlying t=some (.slice e)->0<P.cellsOf e) (hp:(f.params.toList.all λt=>(oneTy P t||recTy P t)&&plainTy P 20 t&&decide (t<P.types.size))=true) (hvars:s.vars=[])
 (hres:f.resultTypes=#[tb]) (htb:P.underlying tb=some .bool) (hval:∀(j:Nat) t v,f.params[j]?=some t->args[j]?=some v->Value.okWide P w r b t v)
 (hW:DataW.Whole enc P f.params.toList s.vars false w args.toList ds gs before) (hB:bulkLe.bulkLes B ds)
 (hfn:ds.length=f.params.toList.length->s.fn H (ds++[])={results:=[.lit (.bool true)],args:=ds})
 (h:∀avs,ShArgs P B f.params.toList avs->Spec0 P n avs (·=.pr (.bool true))) :
 Calls P n args w λe w'=>∃v,e=.returned v/\s.post enc P f false true false false w args v w':=by
 have hW':=hW;obtain ⟨p,q,hA,hV,rfl,_,_⟩:=hW;have hV':=hV;rw[hvars] at hV';obtain ⟨rfl,rfl⟩:=trodVars_none hV';obtain ⟨avs,h1,h2,h3⟩:=args_ofA (B:=B) K hp hA (r:=r) (b:=b) (λj t v hj hj'=>hval j t v (by simpa using hj) (by simpa using hj')) hB;have hlen:=trodAll_length hA;refine ((h avs h1).2 ⟨w,λ_=>False,λ_=>True,noOb,λ_=>none⟩ (λ_=>none) w args rfl rfl rfl (callee_none _ w) (by rw[<- Array.length_toList,h2]) (λj av hj=>?_)).mono ?_
 ·have hlt:=(List.getElem?_eq_some_iff.1 hj).1;have hlt':j<args.toList.length:=by rw[h2];exact hlt
  have h4:=h3 j _ av (List.getElem?_eq_getElem hlt') hj;have e:args.getD j undef=args.toList[j]:=by have hs:j<args.size:=(by simpa using hlt');rw[Array.getD_eq_getD_getElem?,Array.getElem?_eq_getElem hs];simp
  rw[e];rcases h4 with h4|⟨arr,cs,h5,rfl,h6⟩
  ·exact .rd (h4.mono λβ hβ=>⟨⟨hβ,(λi o b h=>by cases h),λ_=>.inl trivial⟩,rfl⟩)
  ·rw[h5];have hsz:arr.size=cs.length:=(by rw[<- Array.length_toList,h6.1]);have hget:∀k,k<arr.size->arr.toList[k]?=some (arr.getD k undef):=λk hk=>by
    rw[Array.getD_eq_getD_getElem?,Array.getElem?_eq_getElem hk];simp[hk]
   refine .ag hsz (λk hk=>?_) λk av hk=>?_
   ·have hkc:k<cs.length:=(by omega);exact (h6.2 k _ _ (hget k hk) (List.getElem?_eq_getElem hkc)).one
   ·have hkc:=(List.getElem?_eq_some_iff.1 hk).1;exact .rd ((h6.2 k _ _ (hget k (by omega)) hk).mono λβ hβ=>⟨⟨hβ,(λi o b h=>by cases h),λ_=>.inl trivial⟩,rfl⟩)
 ·rintro e w' ⟨v,rr,O',φ',U',rfl,⟨⟨rfl,_⟩,rfl⟩,H',hr⟩;have hv:=inv_pr hr;subst hv;refine ⟨_,rfl,law_post K hsz (λt ht=>?_) hvars hres htb hW' (λβ hβ=>H'.below β hβ (λh=>h)) H'.os H'.output (hfn hlen.2)⟩;have:=List.all_eq_true.1 hp t ht;simp only[Bool.and_eq_true,decide_eq_true_eq] at this;exact this.2
end
end Go.Vc
namespace Go.Vc
open Go.ChangeShapes Go.WideShapes Go.RowKit
def headIs (P:Program) (ws:List (List Char)):Prop:=behindMainWord (wordsSigns P.initOrder.toList)=ws
theorem head_of {P:Program} {l:List Char} {ws:List (List Char)} (h:P.initOrder=String.ofList l) (h2:behindMainWord (wordsSigns l)=ws):headIs P ws:=by unfold headIs;rw[h,String.toList_ofList,h2]
section
variable {P:Program} {c:List Char} {rest:List (List Char)} (h:headIs P (c::rest))
include h
theorem make_of (h1 : (c == "gc".toList || c == "spec".toList) = false) (h2 : (c == "cut".toList) = true) : P.make = some .cut := by unfold headIs at h;unfold Program.make;rw[h];simp only[h1,h2,Bool.true_or,if_true];rfl
theorem strip_of (h2 : (stripLifts liftWords (c :: rest)) = ([], c :: rest)) (h3 : (c == "cut".toList) = true) : P.headLifts = [] := by unfold headIs at h;unfold Program.headLifts;rw[h,h2];simp
theorem lifts_of (h2 : (stripLifts liftWords (c :: rest)) = ([], c :: rest)) (h3 : (c == "cut".toList) = true) (h4 : (c == "carried".toList) = false) : P.liftsFinal = false := by
 have h5:=strip_of h h2 h3;unfold headIs at h;unfold Program.liftsFinal;rw[h,h5]
 have h6 : ((c :: rest).head? == some "carried".toList) = false := by rw[List.head?_cons];simp only[beq_eq_false_iff_ne,ne_eq,Option.some.injEq] at h4 ⊢;exact h4
 simp only[h6,Bool.false_and,Bool.false_or];rfl
theorem enter_of (h2 : (stripLifts liftWords (c :: rest)) = ([], c :: rest)) (h3 : (c == "cut".toList) = true) (h4 : (c == "carried".toList) = false) (h1 : (c == "gc".toList || c == "spec".toList) = false)
 (d:P.doorRows=[]) (l:P.laysLater=false) (r:P.bearsReflect=false):P.mayEnter=true:=by
 unfold headIs at h;unfold Program.mayEnter Program.doorFits;rw[h];simp only[h1,h2,h4,d,l,r,List.head?_cons]
 have h5 : (some c == some "cut".toList) = true := by have:=eq_of_beq h3;rw[this];exact beq_self_eq_true _
 rw[h5];simp
end
theorem facts_of {P:Program} {f:FuncId} {fn:Func} {s:ChangeSpec} {c:OpenClaim} (g1:laidOutB P=true) (g2:mapsRowed P=true) (g3:P.stopsHeard=true) (g4:P.mayEnter=true) (g5:P.liftsFinal=false) (g6:P.plainKeys=true) (g7:P.make=some .cut)
 (a1:c.wf (OpenSpec.ofChange s)=true) (a2:fn.params.all (P.readableRec ·)=true) (a3:namedTie P c.named s.vars=true) (a4:((c.stops==[])&&(P.stops==[])&&(c.knobs==[])&&(P.stopKnobs==[]))=true)
 (a5:(c.inPlace==P.inPlace f)=true) (a6:(c.unfollowed==P.unfollowed f)=true) (a7:(c.recurses==P.recurses f)=true) (a8:(c.named==P.varsNamed f)=true)
 (a9:((c.maps==(fn.params.toList++s.plain.varTypes P).any (P.mapsRec ·))&&(c.ifaces==(fn.params.toList++s.plain.varTypes P).any (P.ifacesRec ·))&&(c.mapsOut==P.mapsAmong fn.resultTypes.toList) &&
  (c.loops==(fn.params.toList++s.plain.varTypes P).any (P.loopsFrom ·))&&(c.wideKeys==(fn.params.toList++s.plain.varTypes P++fn.resultTypes.toList).any (P.wideKeysFrom ·)) &&
  s.vars.all (P.varReadable ·)&&fn.resultTypes.all (λt=>P.readableRec t&&decide (t<P.types.size))&&(c.ifacesOut==fn.resultTypes.toList.any (P.ifacesRec ·))&&(c.loopsOut==fn.resultTypes.toList.any (P.loopsFrom ·)))=true)
 (b1:c.plainKeys=true) (b2:c.shortTexts.isNone=true) (b3:c.lifted=false) (b4:c.make=.cut)
 (b5:((c.kinds==(if c.domain.isEmpty then [] else fn.params.toList.map λt=>match P.underlying t with|some (.int k)=>some k|_=>none))&&(c.pinned==c.pinnedBy) &&
  (c.veiled==(fn.params.toList++s.plain.varTypes P++fn.resultTypes.toList).any (P.veiledRec ·))&&c.veiledFits P fn.params.toList (fn.params.toList++s.plain.varTypes P++fn.resultTypes.toList))=true):joinedFacts P f fn s c=true:=by
 have h1:(c.plainKeys==P.plainKeys)=true:=by rw[b1,g6];rfl
 have h2:(c.lifted==P.liftsFinal)=true:=by rw[b3,g5];rfl
 have h3:(P.make==some c.make)=true:=by rw[g7,b4];exact beq_self_eq_true _
 simp only[Bool.and_eq_true] at a4 a9 b5;obtain ⟨⟨⟨a41,a42⟩,a43⟩,a44⟩:=a4;obtain ⟨⟨⟨⟨⟨⟨⟨⟨a91,a92⟩,a93⟩,a94⟩,a95⟩,a96⟩,a97⟩,a98⟩,a99⟩:=a9;obtain ⟨⟨⟨b51,b52⟩,b53⟩,b54⟩:=b5;unfold joinedFacts;rw[Bool.and_eq_true,Bool.and_eq_true,Bool.and_eq_true,Bool.and_eq_true,Bool.and_eq_true,Bool.and_eq_true,Bool.and_eq_true,Bool.and_eq_true,Bool.and_eq_true,Bool.and_eq_true,Bool.and_eq_true,Bool.and_eq_true,Bool.and_eq_true,Bool.and_eq_true,Bool.and_eq_true,Bool.and_eq_true,Bool.and_eq_true,Bool.and_eq_true,Bool.and_eq_true,Bool.and_eq_true,Bool.and_eq_true,Bool.and_eq_true,Bool.and_eq_true,Bool.and_eq_true,Bool.and_eq_true,Bool.and_eq_true,Bool.and_eq_true,Bool.and_eq_true,Bool.and_eq_true,Bool.and_eq_true,Bool.and_eq_true];exact ⟨⟨⟨⟨⟨⟨⟨⟨⟨⟨⟨⟨⟨⟨⟨⟨⟨⟨⟨⟨⟨⟨⟨⟨⟨⟨⟨⟨⟨⟨⟨a1,g1⟩,g2⟩,a2⟩,a3⟩,a41⟩,a42⟩,a43⟩,a44⟩,a5⟩,a6⟩,a7⟩,a8⟩,a91⟩,a92⟩,a93⟩,a94⟩,a95⟩,a96⟩,a97⟩,a98⟩,a99⟩,h1⟩,b2⟩,g3⟩,g4⟩,h2⟩,h3⟩,b51⟩,b52⟩,b53⟩,b54⟩
end Go.Vc
