/- Contracts of the program's functions over abstract values and states, plain facts on which these lean, and the framework of these values over the model. The conditions stand in each theorem. -/
import Derived.Orders
import Derived.Attr
import Derived.Laws.Cells
import GoSem.Dispatch
import Derived.Laws.Append
import Derived.Laws.Tables
set_option linter.all false
namespace Go.Vc
inductive AV where
 | un                                   -- nothing
 | pr (v : Value)                       -- it is just that
 | nl                                   -- the nil slice
 | im (sz : Nat) (es : List (List AV))  -- a slice of memory that nobody writes: its elements' cells
 | rf (id off len : Nat)                -- a slice of an object
 | pt (id i off : Nat)                  -- a pointer into an object: element, cell
 | ro (cs : List AV) (off : Nat)        -- a pointer to memory that nobody writes
 | ag (cs : List AV)                    -- a struct: its cells
 | tu (vs : List AV)                    -- several results
 | fn (f : Nat) (caps : List AV)        -- a function and what it has captured
 deriving Inhabited
structure Ob where
 sz:Nat
 es:List (List AV)
def cellAt (es:List (List AV)) (i j:Nat):Option AV:=(es[i]?).bind (·[j]?)
inductive RdI (h:Array Obj) (S:Nat->Prop):Value->AV->Prop
 | pr (v:Value) (h1:v.oneCell'=true):RdI h S v (.pr v)
 | nl:RdI h S (.slice none 0 0) .nl
 | im0 (a:Option Addr) (cap sz:Nat):RdI h S (.slice a 0 cap) (.im sz [])
 | im {β o cap sz:Nat} {c:Array Value} {e:TypeId} {fz:Nat×Nat} {es:List (List AV)} (vs:Nat->Nat->Value)
  (hS:S β) (hb:h[β]?=some (.cells c e fz)) (hcap:es.length<=cap) (hsz:∀x∈es,x.length=sz)
  (hc:∀i j av,cellAt es i j=some av->c[o+i*sz+j]?=some (vs i j))
  (hr:∀i j av,cellAt es i j=some av->RdI h S (vs i j) av):RdI h S (.slice (some ⟨β,o,none⟩) es.length cap) (.im sz es)
 | fn (g:Nat):RdI h S (.func (.func g) #[] #[]) (.fn g [])
theorem RdI.one {h:Array Obj} {S:Nat->Prop} {v:Value} {av:AV} (r:RdI h S v av):v.oneCell'=true:=by cases r<;>first|rfl|assumption
theorem RdI.mono {h h':Array Obj} {S S':Nat->Prop} (hS:∀β,S β->S' β/\h'[β]?=h[β]?) {v:Value} {av:AV} (r:RdI h S v av):RdI h' S' v av:=by
 induction r with
 | pr v h1=>exact .pr v h1
 | nl=>exact .nl
 | im0 a cap sz=>exact .im0 a cap sz
 | fn g=>exact .fn g
 | im vs hSb hb hcap hsz hc hr ih=>
   obtain ⟨h1,h2⟩:=hS _ hSb;exact .im vs h1 (h2.trans hb) hcap hsz hc ih
def RfOk (φ:Nat->Option (Nat×Nat)) (h:Array Obj) (o:Ob) (id off len:Nat) (v:Value):Prop:=
 off+len<=o.es.length /\
  ((len=0/\∃a,v=.slice a 0 0) \/
   ∃β b cap c e fz,φ id=some (β,b)/\h[β]?=some (.cells c e fz)/\v=.slice (some ⟨β,b+off*o.sz,none⟩) len cap/\len<=cap/\b+(off+cap)*o.sz<=c.size)
def fnV (g:Nat) (arr:Array Value):Value:=if 1000000000<=g/\arr.size≠0 then .func (.func (g-1000000000)) arr #[] else .func (.func g) #[] arr
inductive RepV (φ:Nat->Option (Nat×Nat)) (obs:Nat->Option Ob) (U:Nat->Prop) (h:Array Obj) (S:Nat->Prop):Value->AV->Prop
 | un (v:Value):RepV φ obs U h S v .un
 | rd {v:Value} {av:AV} (r:RdI h S v av):RepV φ obs U h S v av
 | rf {v:Value} {id off len:Nat} (hu:U id) (hv:∃a cap,v=.slice a len cap/\(a=none->len=0)) (hr:∀o,obs id=some o->RfOk φ h o id off len v):RepV φ obs U h S v (.rf id off len)
 | pt {v:Value} {id i off:Nat} (hu:U id) (hv:∃a,v=.pointer (some a)) (hr:∀o,obs id=some o->∃β b,φ id=some (β,b)/\v=.pointer (some ⟨β,b+i*o.sz+off,none⟩)) :
  RepV φ obs U h S v (.pt id i off)
 | ro {β o off:Nat} {cs:List AV} {c:Array Value} {e:TypeId} {fz:Nat×Nat} (vs:Nat->Value) (hS:S β) (hb:h[β]?=some (.cells c e fz))
  (hc:∀j av,cs[j]?=some av->c[o+j]?=some (vs j)) (hr:∀j av,cs[j]?=some av->RdI h S (vs j) av) :
  RepV φ obs U h S (.pointer (some ⟨β,o+off,none⟩)) (.ro cs off)
 | ag {arr:Array Value} {cs:List AV} (hs:arr.size=cs.length) (h1:∀j,j<arr.size->(arr.getD j undef).oneCell'=true)
  (hr:∀j av,cs[j]?=some av->RepV φ obs U h S (arr.getD j undef) av):RepV φ obs U h S (.agg arr) (.ag cs)
 | tu {arr:Array Value} {vs:List AV} (hs:arr.size=vs.length)
  (hr:∀j av,vs[j]?=some av->RepV φ obs U h S (arr.getD j undef) av):RepV φ obs U h S (.tuple arr) (.tu vs)
 | fn {g:Nat} {arr:Array Value} {caps:List AV} (hs:arr.size=caps.length)
  (hr:∀j av,caps[j]?=some av->RepV φ obs U h S (arr.getD j undef) av):RepV φ obs U h S (fnV g arr) (.fn g caps)
def Keeps (φ φ':Nat->Option (Nat×Nat)) (obs obs':Nat->Option Ob) (h h':Array Obj) (i:Nat):Prop:=
 ∀o',obs' i=some o'->∃o,obs i=some o/\φ' i=φ i/\o'.sz=o.sz/\o.es.length<=o'.es.length /\
  ∀β b c e fz,φ i=some (β,b)->h[β]?=some (.cells c e fz)->∃c' e' fz',h'[β]?=some (.cells c' e' fz')/\c'.size=c.size
theorem Keeps.trans {φ φ' φ'':Nat->Option (Nat×Nat)} {obs obs' obs'':Nat->Option Ob} {h h' h'':Array Obj} {i:Nat}
 (a:Keeps φ φ' obs obs' h h' i) (b:Keeps φ' φ'' obs' obs'' h' h'' i):Keeps φ φ'' obs obs'' h h'' i:=by
 intro o'' ho'';obtain ⟨o',h1,h2,h3,h4,h5⟩:=b o'' ho'';obtain ⟨o,g1,g2,g3,g4,g5⟩:=a o' h1;refine ⟨o,g1,h2.trans g2,h3.trans g3,Nat.le_trans g4 h4,λβ b c e fz k1 k2=>?_⟩;obtain ⟨c',e',fz',m1,m2⟩:=g5 β b c e fz k1 k2;obtain ⟨c'',e'',fz'',n1,n2⟩:=h5 β b c' e' fz' (by rw[g2];exact k1) m1;exact ⟨c'',e'',fz'',n1,n2.trans m2⟩
theorem Keeps.refl (φ:Nat->Option (Nat×Nat)) (obs:Nat->Option Ob) (h:Array Obj) (i:Nat):Keeps φ φ obs obs h h i:=
 λo ho=>⟨o,ho,rfl,rfl,Nat.le_refl _,λ_ _ c e fz _ h=>⟨c,e,fz,h,rfl⟩⟩
theorem RepV.mono {φ φ':Nat->Option (Nat×Nat)} {obs obs':Nat->Option Ob} {U U':Nat->Prop} {h h':Array Obj} {S S':Nat->Prop}
 (hU:∀i,U i->U' i) (hK:∀i,U i->Keeps φ φ' obs obs' h h' i) (hS:∀β,S β->S' β/\h'[β]?=h[β]?) {v:Value} {av:AV}
 (r:RepV φ obs U h S v av):RepV φ' obs' U' h' S' v av:=by
 induction r with
 | un v=>exact .un v
 | rd r=>exact .rd (r.mono hS)
 | rf hu ho hr=>
   refine .rf (hU _ hu) ho λo' ho'=>?_;obtain ⟨o,h1,h2,h3,h4,h5⟩:=hK _ hu o' ho';obtain ⟨g1,g2⟩:=hr o h1;refine ⟨Nat.le_trans g1 h4,?_⟩;rcases g2 with g2|⟨β,b,cap,c,e,fz,k1,k2,k3,k4,k5⟩
   ·exact .inl g2
   ·obtain ⟨c',e',fz',m1,m2⟩:=h5 β b c e fz k1 k2;exact .inr ⟨β,b,cap,c',e',fz',by rw[h2];exact k1,m1,by rw[h3];exact k3,k4,by rw[h3,m2];exact k5⟩
 | pt hu ho hr=>
   refine .pt (hU _ hu) ho λo' ho'=>?_;obtain ⟨o,h1,h2,h3,h4,h5⟩:=hK _ hu o' ho';obtain ⟨β,b,k1,k2⟩:=hr o h1;exact ⟨β,b,by rw[h2];exact k1,by rw[h3];exact k2⟩
 | ro vs hSb hb hc hr=>
   obtain ⟨h1,h2⟩:=hS _ hSb;exact .ro vs h1 (h2.trans hb) hc λj av hj=>(hr j av hj).mono hS
 | ag hs h1 hr ih=>exact .ag hs h1 ih
 | tu hs hr ih=>exact .tu hs ih
 | fn hs hr ih=>exact .fn hs ih
def Soft (c:Array Value) (fz:Nat×Nat):Prop:=∀k,k<=c.size->¬(fz.1<=k/\k<fz.2)
def ObRep (φ:Nat->Option (Nat×Nat)) (obs:Nat->Option Ob) (U:Nat->Prop) (h:Array Obj) (S:Nat->Prop) (id:Nat) (o:Ob):Prop:=
 (∀x∈o.es,x.length=o.sz) /\
  ((φ id=none/\o.es=[]) \/
   ∃β b c e fz,φ id=some (β,b)/\h[β]?=some (.cells c e fz)/\Soft c fz/\b+o.es.length*o.sz<=c.size /\
    ∀i j av,cellAt o.es i j=some av->∃v,c[b+i*o.sz+j]?=some v/\v.oneCell'=true/\RepV φ obs U h S v av)
theorem ObRep.mono {φ φ':Nat->Option (Nat×Nat)} {obs obs':Nat->Option Ob} {U U':Nat->Prop} {h h':Array Obj} {S S':Nat->Prop} {id:Nat} {o:Ob}
 (hφ:φ' id=φ id) (hb:∀β b,φ id=some (β,b)->h'[β]?=h[β]?) (hV:∀v av,RepV φ obs U h S v av->RepV φ' obs' U' h' S' v av)
 (r:ObRep φ obs U h S id o):ObRep φ' obs' U' h' S' id o:=by
 obtain ⟨r1,r2⟩:=r;refine ⟨r1,?_⟩;rcases r2 with ⟨h1,h2⟩|⟨β,b,c,e,fz,h1,h2,h3,h4,h5⟩
 ·exact .inl ⟨hφ.trans h1,h2⟩
 ·exact .inr ⟨β,b,c,e,fz,hφ.trans h1,(hb β b h1).trans h2,h3,h4,λi j av hij=>
   let ⟨v,g1,g2,g3⟩:=h5 i j av hij;⟨v,g1,g2,hV _ _ g3⟩⟩
structure Fr where
 w0:World
 own:Nat->Prop
 rd:Nat->Prop
 O0:Nat->Option Ob
 φ0:Nat->Option (Nat×Nat)
def SS (F:Fr) (φ:Nat->Option (Nat×Nat)) (obs:Nat->Option Ob) (w:World) (β:Nat):Prop:=
 β<w.heap.size/\(∀i o b,obs i=some o->φ i≠some (β,b))/\(β<F.w0.heap.size->F.rd β\/F.own β)
structure RepH (F:Fr) (φ:Nat->Option (Nat×Nat)) (obs:Nat->Option Ob) (U:Nat->Prop) (w:World):Prop where
 inj:∀i j oi oj β bi bj,obs i=some oi->obs j=some oj->φ i=some (β,bi)->φ j=some (β,bj)->i=j
 inU:∀i o,obs i=some o->U i
 ob:∀i o,obs i=some o->ObRep φ obs U w.heap (SS F φ obs w) i o
 own:∀i o β b,obs i=some o->φ i=some (β,b)->F.own β\/F.w0.heap.size<=β
 below:∀β,β<F.w0.heap.size->¬F.own β->w.heap[β]?=F.w0.heap[β]?
 size:F.w0.heap.size<=w.heap.size
 os:w.os=F.w0.os
 tape:w.tape=F.w0.tape
 output:w.output=F.w0.output
 idsU:∀i,F.O0 i≠none->U i
 keep0:∀i,F.O0 i≠none->Keeps F.φ0 φ F.O0 obs F.w0.heap w.heap i
theorem RepH.lt {F:Fr} {φ:Nat->Option (Nat×Nat)} {obs:Nat->Option Ob} {U:Nat->Prop} {w:World} (H:RepH F φ obs U w) {i:Nat} {o:Ob} {β b:Nat}
 (ho:obs i=some o) (hφ:φ i=some (β,b)):β<w.heap.size:=by
 obtain ⟨_,h|⟨β',b',c,e,fz,h1,h2,_⟩⟩:=H.ob i o ho
 ·rw[h.1] at hφ;cases hφ
 ·rw[h1] at hφ;cases hφ;exact (Array.getElem?_eq_some_iff.1 h2).1
theorem SS.of_heap {F:Fr} {φ:Nat->Option (Nat×Nat)} {obs:Nat->Option Ob} {w w':World} (hw:w'.heap=w.heap):SS F φ obs w'=SS F φ obs w:=by funext β;simp[SS,hw]
theorem RepH.of_heap {F:Fr} {φ:Nat->Option (Nat×Nat)} {obs:Nat->Option Ob} {U:Nat->Prop} {w w':World} (H:RepH F φ obs U w)
 (hw:w'.heap=w.heap) (h1:w'.os=w.os) (h2:w'.tape=w.tape) (h3:w'.output=w.output):RepH F φ obs U w':=
 {inj:=H.inj,inU:=H.inU
  ob:=λi o ho=>by rw[SS.of_heap hw,hw];exact H.ob i o ho
  own:=H.own
  below:=λβ hb ho=>by rw[hw];exact H.below β hb ho
  size:=by rw[hw];exact H.size
  os:=h1.trans H.os,tape:=h2.trans H.tape,output:=h3.trans H.output,idsU:=H.idsU
  keep0:=λi hi=>by rw[hw];exact H.keep0 i hi}
structure Goes (φ φ':Nat->Option (Nat×Nat)) (obs obs':Nat->Option Ob) (U U':Nat->Prop) (w w':World):Prop where
 hU:∀i,U i->U' i
 keeps:∀i,U i->Keeps φ φ' obs obs' w.heap w'.heap i
 blocks:∀β,β<w.heap.size->(∀i o b,obs i=some o->φ i≠some (β,b))->w'.heap[β]?=w.heap[β]?
 news:∀i o' β b,obs' i=some o'->φ' i=some (β,b)->(∃j oj bj,obs j=some oj/\φ j=some (β,bj))\/w.heap.size<=β
 size:w.heap.size<=w'.heap.size
theorem Goes.ss {F:Fr} {φ φ':Nat->Option (Nat×Nat)} {obs obs':Nat->Option Ob} {U U':Nat->Prop} {w w':World} (G:Goes φ φ' obs obs' U U' w w')
 (β:Nat) (h:SS F φ obs w β):SS F φ' obs' w' β/\w'.heap[β]?=w.heap[β]?:=by
 obtain ⟨h1,h2,h3⟩:=h;refine ⟨⟨Nat.lt_of_lt_of_le h1 G.size,λi o' b ho' hφ'=>?_,h3⟩,G.blocks β h1 h2⟩;rcases G.news i o' β b ho' hφ' with ⟨j,oj,bj,k1,k2⟩|k
 ·exact h2 j oj bj k1 k2
 ·omega
theorem Goes.repV {F:Fr} {φ φ':Nat->Option (Nat×Nat)} {obs obs':Nat->Option Ob} {U U':Nat->Prop} {w w':World} (G:Goes φ φ' obs obs' U U' w w')
 {v:Value} {av:AV} (r:RepV φ obs U w.heap (SS F φ obs w) v av):RepV φ' obs' U' w'.heap (SS F φ' obs' w') v av:=
 r.mono G.hU G.keeps G.ss
theorem Goes.repH {F:Fr} {φ φ':Nat->Option (Nat×Nat)} {obs obs':Nat->Option Ob} {U U':Nat->Prop} {w w':World} (G:Goes φ φ' obs obs' U U' w w')
 (H:RepH F φ obs U w)
 (inj:∀i j oi oj β bi bj,obs' i=some oi->obs' j=some oj->φ' i=some (β,bi)->φ' j=some (β,bj)->i=j)
 (inU:∀i o,obs' i=some o->U' i)
 (ob:∀i o,obs' i=some o->ObRep φ' obs' U' w'.heap (SS F φ' obs' w') i o)
 (os:w'.os=w.os) (tape:w'.tape=w.tape) (output:w'.output=w.output):RepH F φ' obs' U' w':=
 {inj,inU,ob
  own:=λi o β b ho hφ=>by
   rcases G.news i o β b ho hφ with ⟨j,oj,bj,k1,k2⟩|k
   ·exact H.own j oj β bj k1 k2
   ·exact .inr (Nat.le_trans H.size k)
  below:=λβ hb hno=>by
   rw[<- H.below β hb hno];refine G.blocks β (Nat.lt_of_lt_of_le hb H.size) λi o b ho hφ=>?_;rcases H.own i o β b ho hφ with k|k
   ·exact hno k
   ·omega
  size:=Nat.le_trans H.size G.size
  os:=os.trans H.os,tape:=tape.trans H.tape,output:=output.trans H.output
  idsU:=λi hi=>G.hU i (H.idsU i hi)
  keep0:=λi hi=>(H.keep0 i hi).trans (G.keeps i (H.idsU i hi))}
def upd {α:Type} (f:Nat->α) (a:Nat) (v:α):Nat->α:=λb=>if a=b then v else f b
theorem upd_eq {α:Type} (f:Nat->α) (a:Nat) (v:α):upd f a v a=v:=by simp[upd]
theorem upd_ne {α:Type} (f:Nat->α) (a:Nat) (v:α) (b:Nat) (h:(a=b)=False):upd f a v b=f b:=by simp[upd,h]
theorem upd_ne' {α:Type} (f:Nat->α) {a:Nat} (v:α) {b:Nat} (h:a≠b):upd f a v b=f b:=by simp[upd,h]
structure St where
 regs:Nat->AV
 objs:Nat->Option Ob
 used:List Nat
structure Rep (F:Fr) (n:Nat) (st:St) (a:Act) (w:World):Prop where
 size:a.tmps.size=n
 defers:a.defers=[]
 rep:∃φ,RepH F φ st.objs (·∈st.used) w/\∀t,RepV φ st.objs (·∈st.used) w.heap (SS F φ st.objs w) (a.tmps.getD t undef) (st.regs t)
theorem Rep.of_heap {F:Fr} {n:Nat} {st:St} {a:Act} {w w':World} (R:Rep F n st a w) (hw:w'.heap=w.heap) (h1:w'.os=w.os) (h2:w'.tape=w.tape) (h3:w'.output=w.output):Rep F n st a w':=by obtain ⟨φ,H,hr⟩:=R.rep;exact ⟨R.size,R.defers,φ,H.of_heap hw h1 h2 h3,λt=>by rw[SS.of_heap hw,hw];exact hr t⟩
def St.put (st:St) (d:Option Nat) (v:AV):St:=match d with|some d=>{st with regs:=upd st.regs d v} | none=>st
theorem getD_put (a:Act) (d:Nat) (v:Value) (hd:d<a.tmps.size) (t:Nat):(a.put (some d) v).tmps.getD t undef=if d=t then v else a.tmps.getD t undef:=by
 simp only[Act.put,Array.getD_eq_getD_getElem?];by_cases h:d=t
 ·subst h;simp[hd]
 ·simp[Array.getElem?_setIfInBounds_ne h,h]
theorem put_size (a:Act) (d:Option Nat) (v:Value):(a.put d v).tmps.size=a.tmps.size:=by cases d<;>simp[Act.put]
theorem put_defers (a:Act) (d:Option Nat) (v:Value):(a.put d v).defers=a.defers:=by cases d<;>simp[Act.put]
theorem Rep.goes {F:Fr} {n:Nat} {st st':St} {a:Act} {w w':World} {φ φ':Nat->Option (Nat×Nat)} {d:Option Nat} {v:Value} {av:AV}
 (hn:a.tmps.size=n) (hdf:a.defers=[]) (hr:∀t,RepV φ st.objs (·∈st.used) w.heap (SS F φ st.objs w) (a.tmps.getD t undef) (st.regs t))
 (G:Goes φ φ' st.objs st'.objs (·∈st.used) (·∈st'.used) w w') (H':RepH F φ' st'.objs (·∈st'.used) w')
 (hregs:st'.regs=(st.put d av).regs) (hd:∀x,d=some x->x<n) (hv:d≠none->RepV φ' st'.objs (·∈st'.used) w'.heap (SS F φ' st'.objs w') v av) :
 Rep F n st' (a.put d v) w':=by
 refine ⟨(put_size ..).trans hn,(put_defers ..).trans hdf,φ',H',λt=>?_⟩;rw[hregs];cases d with
 | none=>exact G.repV (hr t)
 | some d=>
   rw[getD_put a d v (by rw[hn];exact hd d rfl)];simp only[St.put,upd];split
   ·exact hv (by simp)
   ·exact G.repV (hr t)
theorem Goes.refl (φ:Nat->Option (Nat×Nat)) (obs:Nat->Option Ob) (U:Nat->Prop) (w w':World) (hw:w'.heap=w.heap):Goes φ φ obs obs U U w w':=
 {hU:=λ_ h=>h
  keeps:=λi _ o' ho'=>⟨o',ho',rfl,rfl,Nat.le_refl _,λβ b c e fz _ h=>⟨c,e,fz,by rw[hw];exact h,rfl⟩⟩
  blocks:=λβ _ _=>by rw[hw]
  news:=λi o' β b ho hφ=>.inl ⟨i,o',b,ho,hφ⟩
  size:=by rw[hw];exact Nat.le_refl _}
theorem Rep.put {F:Fr} {n:Nat} {st:St} {a:Act} {w w':World} {φ:Nat->Option (Nat×Nat)} {d:Option Nat} {v:Value} {av:AV}
 (hn:a.tmps.size=n) (hdf:a.defers=[]) (H:RepH F φ st.objs (·∈st.used) w)
 (hr:∀t,RepV φ st.objs (·∈st.used) w.heap (SS F φ st.objs w) (a.tmps.getD t undef) (st.regs t))
 (hw:w'.heap=w.heap) (h1:w'.os=w.os) (h2:w'.tape=w.tape) (h3:w'.output=w.output)
 (hd:∀x,d=some x->x<n) (hv:RepV φ st.objs (·∈st.used) w.heap (SS F φ st.objs w) v av):Rep F n (st.put d av) (a.put d v) w':=by
 have G:Goes φ φ st.objs (st.put d av).objs (·∈st.used) (·∈(st.put d av).used) w w':=by cases d<;>exact Goes.refl _ _ _ _ _ hw
 have H':RepH F φ (st.put d av).objs (·∈(st.put d av).used) w':=by cases d<;>exact H.of_heap hw h1 h2 h3
 refine Rep.goes hn hdf hr G H' rfl hd λ_=>?_;exact G.repV hv
end Go.Vc
namespace Go.Vc
theorem add_at (β o n:Nat):(⟨β,o,none⟩:Addr).add n=⟨β,o+n,none⟩:=by
 unfold Addr.add;split
 ·subst_vars;rfl
 ·rfl
theorem cell_at {w:World} {β o:Nat} {c:Array Value} {e:TypeId} {fz:Nat×Nat} (hb:w.heap[β]?=some (.cells c e fz)):w.cell? ⟨β,o,none⟩=c[o]?:=by simp[World.cell?,hb]
theorem soft_at {w:World} {β o:Nat} {c:Array Value} {e:TypeId} {fz:Nat×Nat} (hb:w.heap[β]?=some (.cells c e fz)) (hs:Soft c fz) (ho:o<c.size) :
 w.frozen? ⟨β,o,none⟩=false:=by
 have:=hs o (Nat.le_of_lt ho);obtain ⟨lo,hi⟩:=fz;simp only[World.frozen?,hb];simpa using this
def putAt (c:Array Value) (o:Nat):List Value->Array Value
 | []=>c
 | v::r=>putAt (c.setIfInBounds o v) (o+1) r
theorem putAt_size (vs:List Value):∀(c:Array Value) (o:Nat),(putAt c o vs).size=c.size:=by
 induction vs with
 | nil=>intro c o;rfl
 | cons v r ih=>intro c o;simp[putAt,ih]
theorem putAt_get (vs:List Value):∀(c:Array Value) (o k:Nat),o+vs.length<=c.size ->
 (putAt c o vs)[k]?=if o<=k/\k<o+vs.length then vs[k-o]? else c[k]?:=by
 induction vs with
 | nil=>intro c o k _;simp only[putAt,List.length_nil,Nat.add_zero];rw[if_neg (by omega)]
 | cons v r ih=>
   intro c o k h;simp only[List.length_cons] at h ⊢;simp only[putAt];rw[ih _ _ _ (by simp;omega)];by_cases h1:k=o
   ·subst h1;rw[if_neg (by omega),if_pos (by omega)];have hlt:k<c.size:=(by omega);simp[hlt]
   ·by_cases h2:o+1<=k/\k<o+1+r.length
    ·rw[if_pos h2,if_pos (by omega)];rw[show k-o=(k-(o+1))+1 by omega];simp
    ·rw[if_neg h2,if_neg (by omega),Array.getElem?_setIfInBounds_ne (by omega)]
def World.setBlk (w:World) (β:Nat) (c:Array Value) (e:TypeId) (fz:Nat×Nat):World:={w with heap:=w.heap.setIfInBounds β (.cells c e fz)}
theorem setBlk_get {w:World} {β:Nat} {c:Array Value} {e:TypeId} {fz:Nat×Nat} (hb:β<w.heap.size) (γ:Nat) :
 (World.setBlk w β c e fz).heap[γ]?=if γ=β then some (.cells c e fz) else w.heap[γ]?:=by
 simp only[World.setBlk];by_cases h:γ=β
 ·subst h;simp[hb]
 ·rw[if_neg h,Array.getElem?_setIfInBounds_ne (λe=>h e.symm)]
theorem setBlk_self {w:World} {β:Nat} {c:Array Value} {e:TypeId} {fz:Nat×Nat} (hb:w.heap[β]?=some (.cells c e fz)):World.setBlk w β c e fz=w:=by
 obtain ⟨h1,h2⟩:=Array.getElem?_eq_some_iff.1 hb;simp only[World.setBlk];congr 1;apply Array.ext
 ·simp
 ·intro i h3 h4;by_cases h:β=i
  ·subst h;simp[h2]
  ·rw[Array.getElem_setIfInBounds_ne (by simpa using h3) h]
theorem setCell_blk {w:World} {β o:Nat} {c:Array Value} {e:TypeId} {fz:Nat×Nat} (hb:w.heap[β]?=some (.cells c e fz)) (v:Value) :
 w.setCell ⟨β,o,none⟩ v=World.setBlk w β (c.setIfInBounds o v) e fz:=by
 obtain ⟨h1,h2⟩:=Array.getElem?_eq_some_iff.1 hb;simp only[World.setCell,World.setBlk];congr 1;apply Array.ext
 ·simp
 ·intro i h3 h4;by_cases h:β=i
  ·subst h;simp[Array.getElem_modify,h2]
  ·rw[Array.getElem_setIfInBounds_ne (by simpa using h4) h];simp[Array.getElem_modify,h]
theorem setBlk_setBlk {w:World} {β:Nat} {c c':Array Value} {e:TypeId} {fz:Nat×Nat}:World.setBlk (World.setBlk w β c e fz) β c' e fz=World.setBlk w β c' e fz:=by simp[World.setBlk]
theorem run_storeCells_blk {P:Program} {β:Nat} {e:TypeId} {fz:Nat×Nat} (o:Nat):∀(vs:List Value) (i:Nat) (w:World) (c:Array Value),
 w.heap[β]?=some (.cells c e fz)->Soft c fz->o+i+vs.length<=c.size->(∀v∈vs,v.oneCell'=true) ->
 (storeCells ⟨β,o,none⟩ vs i).run P w=.ok () (World.setBlk w β (putAt c (o+i) vs) e fz):=by
 intro vs
 induction vs with
 | nil=>intro i w c hb _ _ _;simp only[storeCells,putAt,Sem.run_pure];rw[setBlk_self hb]
 | cons v r ih=>
   intro i w c hb hs hl h1;simp only[List.length_cons] at hl;have hlt:=(Array.getElem?_eq_some_iff.1 hb).1;have hc:w.cell? ⟨β,o+i,none⟩=some (c[o+i]'(by omega)):=by rw[cell_at hb];exact Array.getElem?_eq_getElem _
   have hst:(store ((⟨β,o,none⟩:Addr).add i) v).run P w=.ok () (World.setBlk w β (c.setIfInBounds (o+i) v) e fz):=by rw[add_at,run_store P w _ v _ (h1 v (by simp)),hc];simp only[soft_at hb hs (show o+i<c.size by omega)];simp[setCell_blk hb]
   simp only[storeCells,Sem.run_bind,hst,Result.andThen_ok];rw[ih (i+1) _ (c.setIfInBounds (o+i) v) (by rw[setBlk_get hlt];simp) (by intro k hk;exact hs k (by simpa using hk)) (by simp;omega) (λx hx=>h1 x (by simp[hx]))];rw[setBlk_setBlk];rfl
def Cells (w:World) (R:Value->AV->Prop) (a:Addr) (cs:List AV):Prop:=∀j av,cs[j]?=some av->∃v,w.cell? (a.add j)=some v/\v.oneCell'=true/\R v av
theorem run_loadCells_rep {P:Program} {w:World} {R:Value->AV->Prop} {a:Addr} {cs:List AV} (h:Cells w R a cs) :
 ∃arr:Array Value,(loadCells a cs.length).run P w=.ok arr w/\arr.size=cs.length/\(∀j,j<arr.size->(arr.getD j undef).oneCell'=true) /\
  ∀j av,cs[j]?=some av->R (arr.getD j undef) av:=by
 refine ⟨((List.range cs.length).map λj=>(w.cell? (a.add j)).getD undef).toArray,?_,by simp,?_,?_⟩
 ·exact run_loadCells w a cs.length _ λj hj=>by obtain ⟨v,h1,_⟩:=h j _ (List.getElem?_eq_getElem hj);rw[h1];rfl
 ·intro j hj;simp at hj;obtain ⟨v,h1,h2,_⟩:=h j _ (List.getElem?_eq_getElem hj);simp[hj,h1,h2]
 ·intro j av hj;have hlt:=(List.getElem?_eq_some_iff.1 hj).1;obtain ⟨v,h1,h2,h3⟩:=h j _ hj;simp[hlt,h1,h3]
theorem Rep.new {F:Fr} {φ:Nat->Option (Nat×Nat)} {st:St} {w w':World} {d:Nat} {o:Ob} {c:Array Value} {e:TypeId}
 (H:RepH F φ st.objs (·∈st.used) w) (hd:d∉st.used) (hsz:∀x∈o.es,x.length=o.sz) (hfit:o.es.length*o.sz<=c.size)
 (hc:∀i j av,cellAt o.es i j=some av->∃v,c[i*o.sz+j]?=some v/\v.oneCell'=true/\RepV φ st.objs (·∈st.used) w.heap (SS F φ st.objs w) v av)
 (hw:w'.heap=w.heap.push (.cells c e (0,0))) (h1:w'.os=w.os) (h2:w'.tape=w.tape) (h3:w'.output=w.output) :
 Goes φ (upd φ d (some (w.heap.size,0))) st.objs (upd st.objs d (some o)) (·∈st.used) (·∈d::st.used) w w' /\
  RepH F (upd φ d (some (w.heap.size,0))) (upd st.objs d (some o)) (·∈d::st.used) w':=by
 have hne:∀i o,st.objs i=some o->d≠i:=λi o ho e=>hd (e▸H.inU i o ho);have G:Goes φ (upd φ d (some (w.heap.size,0))) st.objs (upd st.objs d (some o)) (·∈st.used) (·∈d::st.used) w w':=by
  refine ⟨λi hi=>List.mem_cons_of_mem _ hi,?_,?_,?_,?_⟩
  ·intro i hi o' ho';have hdi:d≠i:=λe=>hd (e▸hi);rw[upd_ne' _ _ hdi] at ho';refine ⟨o',ho',upd_ne' _ _ hdi,rfl,Nat.le_refl _,λβ b c' e' fz hφ hb=>⟨c',e',fz,?_,rfl⟩⟩;have:=(Array.getElem?_eq_some_iff.1 hb).1;rw[hw,Array.getElem?_push,if_neg (by omega)];exact hb
  ·intro β hβ _;rw[hw,Array.getElem?_push,if_neg (by omega)]
  ·intro i o' β b ho' hφ';by_cases hdi:d=i
   ·subst hdi;rw[upd_eq] at hφ';cases hφ';exact .inr (Nat.le_refl _)
   ·rw[upd_ne' _ _ hdi] at ho' hφ';exact .inl ⟨i,o',b,ho',hφ'⟩
  ·rw[hw];simp
 refine ⟨G,G.repH H ?_ ?_ ?_ h1 h2 h3⟩
 ·intro i j oi oj β bi bj hi hj pi pj;by_cases hdi:d=i
  ·by_cases hdj:d=j
   ·exact hdi.symm.trans hdj
   ·subst hdi;rw[upd_eq] at pi;rw[upd_ne' _ _ hdj] at hj pj;cases pi;have:=H.lt hj pj;omega
  ·by_cases hdj:d=j
   ·subst hdj;rw[upd_eq] at pj;rw[upd_ne' _ _ hdi] at hi pi;cases pj;have:=H.lt hi pi;omega
   ·rw[upd_ne' _ _ hdi] at hi pi;rw[upd_ne' _ _ hdj] at hj pj;exact H.inj i j oi oj β bi bj hi hj pi pj
 ·intro i o' ho';by_cases hdi:d=i
  ·subst hdi;exact List.mem_cons_self
  ·rw[upd_ne' _ _ hdi] at ho';exact List.mem_cons_of_mem _ (H.inU i o' ho')
 ·intro i o' ho';by_cases hdi:d=i
  ·subst hdi;rw[upd_eq] at ho';cases ho';refine ⟨hsz,.inr ⟨w.heap.size,0,c,e,(0,0),upd_eq _ _ _,by rw[hw];simp,λk _ h=>by simp at h,by simpa using hfit,λi j av hij=>?_⟩⟩;obtain ⟨v,g1,g2,g3⟩:=hc i j av hij;exact ⟨v,by simpa using g1,g2,G.repV g3⟩
  ·rw[upd_ne' _ _ hdi] at ho';refine (H.ob i o' ho').mono (upd_ne' _ _ hdi) (λβ b hφ=>?_) (λv av r=>G.repV r);have:=H.lt ho' hφ;rw[hw,Array.getElem?_push,if_neg (by omega)]
theorem Rep.set {F:Fr} {φ:Nat->Option (Nat×Nat)} {st:St} {w w':World} {id:Nat} {o o':Ob} {β b:Nat} {c c':Array Value} {e:TypeId} {fz:Nat×Nat}
 (H:RepH F φ st.objs (·∈st.used) w) (ho:st.objs id=some o) (hφ:φ id=some (β,b)) (hb:w.heap[β]?=some (.cells c e fz)) (hsoft:Soft c fz)
 (hsz':o'.sz=o.sz) (hlen:o.es.length<=o'.es.length) (hcs:c'.size=c.size) (hel:∀x∈o'.es,x.length=o'.sz) (hfit:b+o'.es.length*o'.sz<=c'.size)
 (hc:∀i j av,cellAt o'.es i j=some av->∃v,c'[b+i*o'.sz+j]?=some v/\v.oneCell'=true/\RepV φ st.objs (·∈st.used) w.heap (SS F φ st.objs w) v av)
 (hw:w'=World.setBlk w β c' e fz) :
 Goes φ φ st.objs (upd st.objs id (some o')) (·∈st.used) (·∈st.used) w w'/\RepH F φ (upd st.objs id (some o')) (·∈st.used) w':=by
 subst hw;have hlt:=(Array.getElem?_eq_some_iff.1 hb).1;have hget:=λγ=>setBlk_get (c:=c') (e:=e) (fz:=fz) hlt γ;have G:Goes φ φ st.objs (upd st.objs id (some o')) (·∈st.used) (·∈st.used) w (World.setBlk w β c' e fz):=by
  refine ⟨λi hi=>hi,?_,?_,?_,?_⟩
  ·intro i hi o₁ ho₁;by_cases hdi:id=i
   ·subst hdi;rw[upd_eq] at ho₁;cases ho₁;refine ⟨o,ho,rfl,hsz',hlen,λγ b' c₁ e₁ fz₁ k1 k2=>?_⟩;rw[hφ] at k1;cases k1;rw[hb] at k2;cases k2;exact ⟨c',e,fz,by rw[hget];simp,hcs⟩
   ·rw[upd_ne' _ _ hdi] at ho₁;refine ⟨o₁,ho₁,rfl,rfl,Nat.le_refl _,λγ b' c₁ e₁ fz₁ k1 k2=>⟨c₁,e₁,fz₁,?_,rfl⟩⟩;rw[hget,if_neg (λ(e:γ=β)=>hdi (H.inj id i o o₁ γ b b' ho ho₁ (e▸hφ) k1))];exact k2
  ·intro γ hγ hno;rw[hget,if_neg (λ(e:γ=β)=>hno id o b ho (e▸hφ))]
  ·intro i o₁ γ b' ho₁ hφ₁;by_cases hdi:id=i
   ·subst hdi;exact .inl ⟨id,o,b',ho,hφ₁⟩
   ·rw[upd_ne' _ _ hdi] at ho₁;exact .inl ⟨i,o₁,b',ho₁,hφ₁⟩
  ·simp[World.setBlk]
 refine ⟨G,G.repH H ?_ ?_ ?_ rfl rfl rfl⟩
 ·intro i j oi oj γ bi bj hi hj pi pj;have hi':∃oi,st.objs i=some oi:=by
   by_cases hdi:id=i
   ·subst hdi;exact ⟨o,ho⟩
   ·rw[upd_ne' _ _ hdi] at hi;exact ⟨oi,hi⟩
  have hj':∃oj,st.objs j=some oj:=by
   by_cases hdj:id=j
   ·subst hdj;exact ⟨o,ho⟩
   ·rw[upd_ne' _ _ hdj] at hj;exact ⟨oj,hj⟩
  obtain ⟨oi',hi'⟩:=hi';obtain ⟨oj',hj'⟩:=hj';exact H.inj i j oi' oj' γ bi bj hi' hj' pi pj
 ·intro i o₁ ho₁;by_cases hdi:id=i
  ·subst hdi;exact H.inU id o ho
  ·rw[upd_ne' _ _ hdi] at ho₁;exact H.inU i o₁ ho₁
 ·intro i o₁ ho₁;by_cases hdi:id=i
  ·subst hdi;rw[upd_eq] at ho₁;cases ho₁;refine ⟨hel,.inr ⟨β,b,c',e,fz,hφ,by rw[hget];simp,λk hk=>hsoft k (by rw[<- hcs];exact hk),hfit,λi j av hij=>?_⟩⟩;obtain ⟨v,g1,g2,g3⟩:=hc i j av hij;exact ⟨v,g1,g2,G.repV g3⟩
  ·rw[upd_ne' _ _ hdi] at ho₁;refine (H.ob i o₁ ho₁).mono rfl (λγ b' hφ'=>?_) (λv av r=>G.repV r);rw[hget,if_neg (λ(e:γ=β)=>hdi (H.inj id i o o₁ γ b b' ho ho₁ (e▸hφ) hφ'))]
theorem Rep.move {F:Fr} {φ:Nat->Option (Nat×Nat)} {st:St} {w w':World} {id d:Nat} {o o':Ob} {p:Option (Nat×Nat)}
 (H:RepH F φ st.objs (·∈st.used) w) (ho:st.objs id=some o) (hd:d∉st.used)
 (hblocks:∀γ,γ<w.heap.size->(∀b,φ id≠some (γ,b))->w'.heap[γ]?=w.heap[γ]?) (hsize:w.heap.size<=w'.heap.size)
 (hp:∀γ b,p=some (γ,b)->(∃b',φ id=some (γ,b'))\/w.heap.size<=γ)
 (hrep:(∀v av,RepV φ st.objs (·∈st.used) w.heap (SS F φ st.objs w) v av ->
  RepV (upd φ d p) (upd (upd st.objs id none) d (some o')) (·∈d::st.used) w'.heap (SS F (upd φ d p) (upd (upd st.objs id none) d (some o')) w') v av) ->
  ObRep (upd φ d p) (upd (upd st.objs id none) d (some o')) (·∈d::st.used) w'.heap (SS F (upd φ d p) (upd (upd st.objs id none) d (some o')) w') d o')
 (h1:w'.os=w.os) (h2:w'.tape=w.tape) (h3:w'.output=w.output) :
 Goes φ (upd φ d p) st.objs (upd (upd st.objs id none) d (some o')) (·∈st.used) (·∈d::st.used) w w' /\
  RepH F (upd φ d p) (upd (upd st.objs id none) d (some o')) (·∈d::st.used) w':=by
 have hidU:=H.inU id o ho;have hdid:d≠id:=λe=>hd (e▸hidU);have hobs:∀i,i≠d->i≠id->upd (upd st.objs id none) d (some o') i=st.objs i:=λi h1 h2=>by rw[upd_ne' _ _ (Ne.symm h1),upd_ne' _ _ (Ne.symm h2)]
 have hobid:upd (upd st.objs id none) d (some o') id=none:=by rw[upd_ne' _ _ hdid,upd_eq]
 have G:Goes φ (upd φ d p) st.objs (upd (upd st.objs id none) d (some o')) (·∈st.used) (·∈d::st.used) w w':=by
  refine ⟨λi hi=>List.mem_cons_of_mem _ hi,?_,?_,?_,hsize⟩
  ·intro i hi o₁ ho₁;have hdi:i≠d:=λe=>hd (e▸hi);have hii:i≠id:=λe=>by rw[e,hobid] at ho₁;cases ho₁
   rw[hobs i hdi hii] at ho₁;refine ⟨o₁,ho₁,upd_ne' _ _ (Ne.symm hdi),rfl,Nat.le_refl _,λγ b c e fz k1 k2=>⟨c,e,fz,?_,rfl⟩⟩;rw[hblocks γ (Array.getElem?_eq_some_iff.1 k2).1 λb' k=>hii (H.inj i id o₁ o γ b b' ho₁ ho k1 k)];exact k2
  ·intro γ hγ hno;exact hblocks γ hγ λb=>hno id o b ho
  ·intro i o₁ γ b ho₁ hφ₁;by_cases hdi:d=i
   ·subst hdi;rw[upd_eq] at hφ₁;rcases hp γ b hφ₁ with ⟨b',k⟩|k
    ·exact .inl ⟨id,o,b',ho,k⟩
    ·exact .inr k
   ·have hii:i≠id:=λe=>by rw[e,hobid] at ho₁;cases ho₁
    rw[hobs i (Ne.symm hdi) hii] at ho₁;rw[upd_ne' _ _ hdi] at hφ₁;exact .inl ⟨i,o₁,b,ho₁,hφ₁⟩
 have hrV:=λv av (r:RepV φ st.objs (·∈st.used) w.heap (SS F φ st.objs w) v av)=>G.repV (F:=F) r;refine ⟨G,G.repH H ?_ ?_ ?_ h1 h2 h3⟩
 ·intro i j oi oj γ bi bj hi hj pi pj;by_cases hdi:d=i
  ·by_cases hdj:d=j
   ·exact hdi.symm.trans hdj
   ·subst hdi;rw[upd_eq] at pi;rw[upd_ne' _ _ hdj] at pj;have hji:j≠id:=λe=>by rw[e,hobid] at hj;cases hj
    rw[hobs j (Ne.symm hdj) hji] at hj;rcases hp γ bi pi with ⟨b',k⟩|k
    ·exact absurd (H.inj j id oj o γ bj b' hj ho pj k) hji
    ·have:=H.lt hj pj;omega
  ·have hii:i≠id:=λe=>by rw[e,hobid] at hi;cases hi
   rw[hobs i (Ne.symm hdi) hii] at hi;rw[upd_ne' _ _ hdi] at pi;by_cases hdj:d=j
   ·subst hdj;rw[upd_eq] at pj;rcases hp γ bj pj with ⟨b',k⟩|k
    ·exact absurd (H.inj i id oi o γ bi b' hi ho pi k) hii
    ·have:=H.lt hi pi;omega
   ·have hji:j≠id:=λe=>by rw[e,hobid] at hj;cases hj
    rw[hobs j (Ne.symm hdj) hji] at hj;rw[upd_ne' _ _ hdj] at pj;exact H.inj i j oi oj γ bi bj hi hj pi pj
 ·intro i o₁ ho₁;by_cases hdi:d=i
  ·subst hdi;exact List.mem_cons_self
  ·have hii:i≠id:=λe=>by rw[e,hobid] at ho₁;cases ho₁
   rw[hobs i (Ne.symm hdi) hii] at ho₁;exact List.mem_cons_of_mem _ (H.inU i o₁ ho₁)
 ·intro i o₁ ho₁;by_cases hdi:d=i
  ·subst hdi;rw[upd_eq] at ho₁;cases ho₁;exact hrep hrV
  ·have hii:i≠id:=λe=>by rw[e,hobid] at ho₁;cases ho₁
   rw[hobs i (Ne.symm hdi) hii] at ho₁;refine (H.ob i o₁ ho₁).mono (upd_ne' _ _ hdi) (λγ b' hφ'=>?_) hrV;exact hblocks γ (H.lt ho₁ hφ') λb k=>hii (H.inj i id o₁ o γ b' b ho₁ ho hφ' k)
end Go.Vc
namespace Go.Vc
inductive TK where
 | int (k:IntKind)|bool|str|slice (e:Nat)|struct (fs:List (Nat×Nat))|ptr|func|other|arr (fs:List (Nat×Nat)) (e:Nat)
structure TI where
 k:TK
 size:Nat
 bytes:Nat
 zero:List AV
def cAV:Value->AV
 | .int k n=>.pr (.int k n)
 | .bool b=>.pr (.bool b)
 | .string s=>.pr (.string s)
 | .slice none 0 0=>.nl
 | .pointer none=>.pr (.pointer none)
 | .nilFunc=>.pr .nilFunc
 | .nilIface=>.pr .nilIface
 | _=>.un
def KOk (P:Program) (t:Nat):TK->Prop
 | .int k=>P.underlying t=some (.int k)
 | .bool=>P.underlying t=some .bool
 | .str=>P.underlying t=some .string
 | .slice e=>P.underlying t=some (.slice e)
 | .struct fs=>∃fields:Array Field,P.underlying t=some (.struct fields)/\fields.toList.map (λf=>(f.offset,P.cellsOf f.type))=fs/\∀f∈fields.toList,∃i,P.info? f.type=some i/\0<i.size
 | .ptr=>∃e,P.underlying t=some (.pointer e)
 | .func=>∃a b c,P.underlying t=some (.func a b c)
 | .arr fs e=>∃(n:Nat) (i:TypeInfo),P.underlying t=some (.array n e)/\P.info? e=some i/\0<i.size/\(List.range n).map (λj=>(j*i.size,i.size))=fs
 | .other=>True
def TK.known:TK->Bool
 | .other=>false
 | _=>true
structure InfoOk (P:Program) (t:Nat) (x:TI) (i:TypeInfo) (z:Value):Prop where
 info:P.info? t=some i
 size:i.size=x.size
 bytes:i.bytes=x.bytes
 zero:i.zero=some z
 zc:z.cells.toList.map cAV=x.zero
 zl:x.zero.length=x.size
 one:∀c∈z.cells.toList,c.oneCell'=true
 pos:0<x.size
 b0:0<x.bytes
 b1:x.bytes<=4096
structure TabOk (P:Program) (T:Nat->TI):Prop where
 mixed:P.follows .mixedOrders=true
 kinds:∀t,KOk P t (T t).k
 infos:∀t,(T t).k.known=true->∃i z,InfoOk P t (T t) i z
 few:P.funcs.size<=1000000000
abbrev RV (F:Fr) (φ:Nat->Option (Nat×Nat)) (st:St) (w:World):Value->AV->Prop:=RepV φ st.objs (·∈st.used) w.heap (SS F φ st.objs w)
theorem rv_cAV {F:Fr} {φ:Nat->Option (Nat×Nat)} {st:St} {w:World} (v:Value):RV F φ st w v (cAV v):=by unfold cAV;split<;>first|exact .rd (.pr _ rfl)|exact .rd .nl|exact .un _
def St.ev (st:St):Operand->AV
 | .tmp t=>st.regs t
 | .const v=>cAV v
 | .global _=>.un
 | .func f=>.fn f []
theorem rv_ev {F:Fr} {φ:Nat->Option (Nat×Nat)} {st:St} {a:Act} {w:World} (hr:∀t,RV F φ st w (a.tmps.getD t undef) (st.regs t)) (x:Operand):RV F φ st w (a.eval x) (st.ev x):=by
 cases x with
 | tmp t=>exact hr t
 | const v=>exact rv_cAV v
 | global g=>exact .un _
 | func f=>exact .rd (.fn f)
def Yields (P:Program) (w:World) (R:Value->AV->Prop) (s:Sem Value) (K:AV->Prop):Prop:=∃v av,s.run P w=.ok v w/\R v av/\K av
-- ints, bools, strings
theorem inv_pr {φ obs U h S} {v u:Value} (r:RepV φ obs U h S v (.pr u)):v=u:=by cases r with|rd r=>cases r;rfl
def hBool:AV->(Bool->Prop)->Prop
 | .pr (.bool b),K=>K b
 | _,_=>False
@[congr] theorem hBool_congr {x y:AV} {K:Bool->Prop} {p00:Prop} (_h00:(True/\True)=p00) (h:x=y):hBool x K=hBool y K:=by rw[h]
theorem hBool_inv {x:AV} {K:Bool->Prop} (h:hBool x K):∃b,x=.pr (.bool b)/\K b:=by
 unfold hBool at h;split at h
 ·exact ⟨_,rfl,h⟩
 ·exact h.elim
def bitsOp (op:BinOp) (k:IntKind) (x y:Int):Int:=
 let a:=BitVec.ofInt k.bits x
 let b:=BitVec.ofInt k.bits y
 match op with
 | .and=>k.wrap (a &&& b).toNat
 | .or=>k.wrap (a ||| b).toNat
 | .xor=>k.wrap (a ^^^ b).toNat
 | _=>k.wrap (a &&& ~~~b).toNat
def iBin:BinOp->IntKind->Int->Int->(AV->Prop)->Prop
 | .add,k,x,y,K=>K (.pr (.int k (k.wrap (x+y))))
 | .sub,k,x,y,K=>K (.pr (.int k (k.wrap (x-y))))
 | .mul,k,x,y,K=>K (.pr (.int k (k.wrap (x*y))))
 | .quo,k,x,y,K=>y≠0/\K (.pr (.int k (k.wrap (x.tdiv y))))
 | .rem,k,x,y,K=>y≠0/\K (.pr (.int k (x.tmod y)))
 | .and,k,x,y,K=>K (.pr (.int k (bitsOp .and k x y)))
 | .or,k,x,y,K=>K (.pr (.int k (bitsOp .or k x y)))
 | .xor,k,x,y,K=>K (.pr (.int k (bitsOp .xor k x y)))
 | .andNot,k,x,y,K=>K (.pr (.int k (bitsOp .andNot k x y)))
 | .eql,_,x,y,K=>K (.pr (.bool (decide (x=y))))
 | .neq,_,x,y,K=>K (.pr (.bool (!decide (x=y))))
 | .lss,_,x,y,K=>K (.pr (.bool (decide (x<y))))
 | .leq,_,x,y,K=>K (.pr (.bool (decide (x<=y))))
 | .gtr,_,x,y,K=>K (.pr (.bool (decide (y<x))))
 | .geq,_,x,y,K=>K (.pr (.bool (decide (y<=x))))
 | _,_,_,_,_=>False
def sBin:BinOp->ByteArray->ByteArray->(AV->Prop)->Prop
 | .eql,x,y,K=>K (.pr (.bool (decide (x=y))))
 | .neq,x,y,K=>K (.pr (.bool (!decide (x=y))))
 | .lss,x,y,K=>K (.pr (.bool (Op.bytesLess x.toList y.toList)))
 | .gtr,x,y,K=>K (.pr (.bool (!(Op.bytesLess x.toList y.toList||decide (x=y)))))
 | .leq,x,y,K=>K (.pr (.bool (Op.bytesLess x.toList y.toList||decide (x=y))))
 | .geq,x,y,K=>K (.pr (.bool (!Op.bytesLess x.toList y.toList)))
 | _,_,_,_=>False
@[congr] theorem iBin_congr {op:BinOp} {k:IntKind} {x y x' y':Int} {K:AV->Prop} {p00:Prop} (_h00:(True/\True)=p00) (h:x=x') (h2:y=y'):iBin op k x y K=iBin op k x' y' K:=by rw[h,h2]
@[congr] theorem sBin_congr {op:BinOp} {x y x' y':ByteArray} {K:AV->Prop} {p00:Prop} (_h00:(True/\True)=p00) (h:x=x') (h2:y=y'):sBin op x y K=sBin op x' y' K:=by rw[h,h2]
def nBin (neq:Bool):AV->(AV->Prop)->Prop
 | .nl,K=>K (.pr (.bool !neq))
 | .im _ es,K=>∀b:Bool,(b=true->es=[])->K (.pr (.bool (b != neq)))
 | .rf _ _ n,K=>∀b:Bool,(b=true->n=0)->K (.pr (.bool (b != neq)))
 | _,_=>False
def sh (op:BinOp) (k:IntKind) (x y:Int) (K:AV->Prop):Prop:=
 match op with
 | .shl=>0<=y/\K (.pr (.int k (k.wrap (x*2 ^ (min y.toNat k.bits)))))
 | .shr=>0<=y/\K (.pr (.int k (x / 2 ^ (min y.toNat k.bits))))
 | _=>False
@[congr] theorem sh_congr {op:BinOp} {k:IntKind} {x y x' y':Int} {K:AV->Prop} {p00:Prop} (_h00:(True/\True)=p00) (h:x=x') (h2:y=y'):sh op k x y K=sh op k x' y' K:=by rw[h,h2]
@[congr] theorem nBin_congr {n:Bool} {x y:AV} {K:AV->Prop} {p00:Prop} (_h00:(True/\True)=p00) (h:x=y):nBin n x K=nBin n y K:=by rw[h]
def isShift:BinOp->Bool
 | .shl | .shr=>true
 | _=>false
def hBin (T:Nat->TI) (t:Nat):BinOp->AV->AV->(AV->Prop)->Prop
 | .eql,.pr (.bool x),.pr (.bool y),K=>(T t).k=.bool/\K (.pr (.bool (x==y)))
 | .neq,.pr (.bool x),.pr (.bool y),K=>(T t).k=.bool/\K (.pr (.bool (!(x==y))))
 | .eql,x,.nl,K=>(∃e,(T t).k=.slice e)/\nBin false x K
 | .neq,x,.nl,K=>(∃e,(T t).k=.slice e)/\nBin true x K
 | .shl,.pr (.int k x),.pr (.int _ y),K=>sh .shl k x y K
 | .shr,.pr (.int k x),.pr (.int _ y),K=>sh .shr k x y K
 | .eql,.pt _ _ _,.pr (.pointer none),K=>(T t).k=.ptr/\K (.pr (.bool false))
 | .neq,.pt _ _ _,.pr (.pointer none),K=>(T t).k=.ptr/\K (.pr (.bool true))
 | .eql,.ro _ _,.pr (.pointer none),K=>(T t).k=.ptr/\K (.pr (.bool false))
 | .neq,.ro _ _,.pr (.pointer none),K=>(T t).k=.ptr/\K (.pr (.bool true))
 | .eql,.pr (.pointer none),.pr (.pointer none),K=>(T t).k=.ptr/\K (.pr (.bool true))
 | .neq,.pr (.pointer none),.pr (.pointer none),K=>(T t).k=.ptr/\K (.pr (.bool false))
 | op,.pr (.int k x),.pr (.int k' y),K=>k=k'/\isShift op=false/\iBin op k x y K
 | op,.pr (.string x),.pr (.string y),K=>isShift op=false/\sBin op x y K
 | _,_,_,_=>False
@[congr] theorem hBin_congr {T:Nat->TI} {t:Nat} {op:BinOp} {x y x' y':AV} {K:AV->Prop} {p00:Prop} (_h00:(True/\True)=p00) (h:x=x') (h2:y=y'):hBin T t op x y K=hBin T t op x' y' K:=by rw[h,h2]
theorem toList_data (s:ByteArray):s.toList=s.data.toList:=by
 have key:∀(n i:Nat) (r:List UInt8),s.size-i=n->ByteArray.toList.loop s i r=r.reverse++s.data.toList.drop i:=by
  intro n
  induction n with
  | zero=>
    intro i r h;unfold ByteArray.toList.loop;rw[if_neg (by omega),List.drop_of_length_le (by simpa using (by omega:s.size<=i)),List.append_nil]
  | succ n ih=>
    intro i r h;have hi:i<s.size:=(by omega);unfold ByteArray.toList.loop;rw[if_pos hi,ih (i+1) _ (by omega)];have hi':i<s.data.toList.length:=(by simpa using hi);rw[List.reverse_cons,List.append_assoc,List.drop_eq_getElem_cons hi'];simp only[List.singleton_append];congr 2;simp[ByteArray.get!,hi]
 have:=key s.size 0 [] (by omega);simpa [ByteArray.toList] using this
theorem toList_inj {x y:ByteArray} (h:x.toList=y.toList):x=y:=by rw[toList_data,toList_data] at h;cases x;cases y;simp only[ByteArray.mk.injEq];exact Array.toList_inj.1 h
theorem toList_eq {x y:ByteArray}:(x.toList==y.toList)=decide (x=y):=by
 by_cases h:x=y
 ·subst h;simp
 ·have:x.toList≠y.toList:=λe=>h (toList_inj e);rw[decide_eq_false h];exact beq_eq_false_iff_ne.2 this
theorem eqGuard_other {P:Program} {w:World} {op:BinOp} {t:TypeId} {x y:Operand} {a b:Value} (h:a.oneCell'=true/\(a≠.nilIface)) :
 (eqGuard op t x y a b).run P w=.ok () w:=by
 obtain ⟨h1,h2⟩:=h;unfold eqGuard;cases op<;>cases a<;>simp_all [Value.oneCell']<;>rfl
section
variable {P:Program} {w:World} {t:TypeId}
theorem equal_bool {x y:Bool} (h:P.underlying t=some .bool):(Op.equal t (.bool x) (.bool y)).run P w=.ok (x==y) w:=by show (Op.equalIn (9999+1) t _ _).run P w=_;rw[Op.equalIn];simp[run_underlying h]
theorem equal_slice {e:TypeId} {a:Option Addr} {n c m d:Nat} (h:P.underlying t=some (.slice e)):(Op.equal t (.slice a n c) (.slice none m d)).run P w=.ok a.isNone w:=by show (Op.equalIn (9999+1) t _ _).run P w=_;rw[Op.equalIn];cases a<;>simp[run_underlying h]
theorem equal_ptr {e:TypeId} {a:Option Addr} (h:P.underlying t=some (.pointer e)):(Op.equal t (.pointer a) (.pointer none)).run P w=.ok a.isNone w:=by show (Op.equalIn (9999+1) t _ _).run P w=_;rw[Op.equalIn];cases a<;>simp[run_underlying h]
theorem bin_eql {a b:Value} {r:Bool} (h1:(∀k n,a≠.int k n)/\(∀k n,a≠.float k n)/\(∀k n m,a≠.complex k n m)/\∀s,a≠.string s) (h:(Op.equal t a b).run P w=.ok r w) :
 (binOp .eql t a b).run P w=.ok (.bool r) w:=by
 obtain ⟨g1,g2,g3,g4⟩:=h1;unfold binOp;cases a<;>simp_all
theorem bin_neq {a b:Value} {r:Bool} (h1:(∀k n,a≠.int k n)/\(∀k n,a≠.float k n)/\(∀k n m,a≠.complex k n m)/\∀s,a≠.string s) (h:(Op.equal t a b).run P w=.ok r w) :
 (binOp .neq t a b).run P w=.ok (.bool !r) w:=by
 obtain ⟨g1,g2,g3,g4⟩:=h1;unfold binOp;cases a<;>simp_all
end
theorem nBin_yields {φ obs U h S} {neq:Bool} {x:AV} {a:Value} {K:AV->Prop} (hk:nBin neq x K) (ra:RepV φ obs U h S a x) :
 ∃(b:Option Addr) (n c:Nat),a=.slice b n c/\∃r:Bool,r=b.isNone/\K (.pr (.bool (if neq then !r else r))):=by
 unfold nBin at hk;split at hk
 ·cases ra with|rd r=>cases r;exact ⟨none,0,0,rfl,true,rfl,by cases neq<;>exact hk⟩
 ·rename_i es;cases ra with|rd r=>
  cases r with
  | im0 b c sz=>exact ⟨b,0,c,rfl,_,rfl,by have:=hk b.isNone (λ_=>rfl);cases neq<;>simpa using this⟩
  | im vs hS hb hcap hsz hc hr=>exact ⟨_,_,_,rfl,false,rfl,by have:=hk false (by simp);cases neq<;>simpa using this⟩
 ·rename_i n;cases ra with
  | rd r=>cases r
  | rf hu hv hr=>
    obtain ⟨b,c,rfl,hb⟩:=hv;exact ⟨b,n,c,rfl,_,rfl,by have:=hk b.isNone (λh=>hb (Option.isNone_iff_eq_none.1 h));cases neq<;>simpa using this⟩
 ·exact hk.elim
theorem iBin_yields {P:Program} {w:World} {φ obs U h S} {op:BinOp} {t:TypeId} {k:IntKind} {x y:Int} {ox oy:Operand} {K:AV->Prop}
 (hs:isShift op=false) (hk:iBin op k x y K):Yields P w (RepV φ obs U h S) (do eqGuard op t ox oy (.int k x) (.int k y);binOp op t (.int k x) (.int k y)) K:=by
 cases op<;>simp only[iBin] at hk<;>(try (simp[isShift] at hs;done)) <;>
  first
   | (refine ⟨_,_,?_,.rd (.pr _ rfl),hk⟩
      rw[Sem.run_bind,eqGuard_other ⟨rfl,by simp⟩,Result.andThen_ok];simp[binOp,Op.intArith,Op.intBits,bitsOp];done)
   | (refine ⟨_,_,?_,.rd (.pr _ rfl),hk.2⟩
      rw[Sem.run_bind,eqGuard_other ⟨rfl,by simp⟩,Result.andThen_ok];simp[binOp,Op.intDiv,hk.1];done)
   | (refine ⟨_,_,?_,.rd (.pr _ rfl),hk⟩
      rw[Sem.run_bind,eqGuard_other ⟨rfl,by simp⟩,Result.andThen_ok];simp only[binOp,Op.intCmp,ne_eq,not_true_eq_false,if_false,Sem.run_pure];try congr 2
      try (rw[Bool.eq_iff_iff];simp))
theorem sBin_yields {P:Program} {w:World} {φ obs U h S} {op:BinOp} {t:TypeId} {x y:ByteArray} {ox oy:Operand} {K:AV->Prop}
 (hs:isShift op=false) (hk:sBin op x y K):Yields P w (RepV φ obs U h S) (do eqGuard op t ox oy (.string x) (.string y);binOp op t (.string x) (.string y)) K:=by
 cases op<;>simp only[sBin] at hk<;>(try (simp[isShift] at hs;done)) <;>
  (refine ⟨_,_,?_,.rd (.pr _ rfl),hk⟩
   rw[Sem.run_bind,eqGuard_other ⟨rfl,by simp⟩,Result.andThen_ok];simp[binOp,Op.stringOp,toList_eq];done)
theorem hBin_yields {P:Program} {T:Nat->TI} (hT:TabOk P T) {w:World} {φ obs U h S} {op:BinOp} {t:TypeId} {x y:AV} {a b:Value} {ox oy:Operand} {K:AV->Prop}
 (hk:hBin T t op x y K) (ra:RepV φ obs U h S a x) (rb:RepV φ obs U h S b y) :
 Yields P w (RepV φ obs U h S) (do eqGuard op t ox oy a b;binOp op t a b) K:=by
 unfold hBin at hk;split at hk
 ·-- bools
  obtain ⟨h1,h2⟩:=hk;have:=hT.kinds t;rw[h1] at this;rw[inv_pr ra,inv_pr rb];refine ⟨_,_,?_,.rd (.pr _ rfl),h2⟩;rw[Sem.run_bind,eqGuard_other ⟨rfl,by simp⟩,Result.andThen_ok,bin_eql (by simp) (equal_bool this)]
 ·obtain ⟨h1,h2⟩:=hk;have:=hT.kinds t;rw[h1] at this;rw[inv_pr ra,inv_pr rb];refine ⟨_,_,?_,.rd (.pr _ rfl),h2⟩;rw[Sem.run_bind,eqGuard_other ⟨rfl,by simp⟩,Result.andThen_ok,bin_neq (by simp) (equal_bool this)]
 ·-- a slice, held against nil
  obtain ⟨⟨e,h1⟩,h2⟩:=hk;have hu:=hT.kinds t;rw[h1] at hu;obtain ⟨b',n,c,rfl,r,hr,h3⟩:=nBin_yields h2 ra;cases rb with|rd rb=>
  cases rb;refine ⟨_,_,?_,.rd (.pr _ rfl),h3⟩;rw[Sem.run_bind,eqGuard_other ⟨rfl,by simp⟩,Result.andThen_ok,bin_eql (by simp) (equal_slice hu),hr];rfl
 ·obtain ⟨⟨e,h1⟩,h2⟩:=hk;have hu:=hT.kinds t;rw[h1] at hu;obtain ⟨b',n,c,rfl,r,hr,h3⟩:=nBin_yields h2 ra;cases rb with|rd rb=>
  cases rb;refine ⟨_,_,?_,.rd (.pr _ rfl),h3⟩;rw[Sem.run_bind,eqGuard_other ⟨rfl,by simp⟩,Result.andThen_ok,bin_neq (by simp) (equal_slice hu),hr];rfl
 ·-- shifts
  obtain ⟨h1,h2⟩:=hk;rw[inv_pr ra,inv_pr rb];refine ⟨_,_,?_,.rd (.pr _ rfl),h2⟩;rw[Sem.run_bind,eqGuard_other ⟨rfl,by simp⟩,Result.andThen_ok];simp[binOp,Op.shift,show ¬(_:Int)<0 from Int.not_lt.2 h1]
 ·obtain ⟨h1,h2⟩:=hk;rw[inv_pr ra,inv_pr rb];refine ⟨_,_,?_,.rd (.pr _ rfl),h2⟩;rw[Sem.run_bind,eqGuard_other ⟨rfl,by simp⟩,Result.andThen_ok];simp only[binOp,Op.shift,if_neg (Int.not_lt.2 h1),Sem.run_pure];rw[Int.fdiv_eq_ediv_of_nonneg _ (Int.pow_nonneg (by omega))]
 ·obtain ⟨h1,h2⟩:=hk;have hu:=hT.kinds t;rw[h1] at hu;obtain ⟨e,hu⟩:=hu;obtain ⟨x,rfl⟩:=show ∃x,a=.pointer (some x) from by cases ra with|rd r=>cases r|pt _ hv _=>exact hv
  rw[inv_pr rb];refine ⟨_,_,?_,.rd (.pr _ rfl),h2⟩;rw[Sem.run_bind,eqGuard_other ⟨rfl,by simp⟩,Result.andThen_ok,bin_eql (by simp) (equal_ptr hu)];rfl
 ·obtain ⟨h1,h2⟩:=hk;have hu:=hT.kinds t;rw[h1] at hu;obtain ⟨e,hu⟩:=hu;obtain ⟨x,rfl⟩:=show ∃x,a=.pointer (some x) from by cases ra with|rd r=>cases r|pt _ hv _=>exact hv
  rw[inv_pr rb];refine ⟨_,_,?_,.rd (.pr _ rfl),h2⟩;rw[Sem.run_bind,eqGuard_other ⟨rfl,by simp⟩,Result.andThen_ok,bin_neq (by simp) (equal_ptr hu)];rfl
 ·obtain ⟨h1,h2⟩:=hk;have hu:=hT.kinds t;rw[h1] at hu;obtain ⟨e,hu⟩:=hu;obtain ⟨x,rfl⟩:=show ∃x,a=.pointer (some x) from by cases ra with|rd r=>cases r|ro=>exact ⟨_,rfl⟩
  rw[inv_pr rb];refine ⟨_,_,?_,.rd (.pr _ rfl),h2⟩;rw[Sem.run_bind,eqGuard_other ⟨rfl,by simp⟩,Result.andThen_ok,bin_eql (by simp) (equal_ptr hu)];rfl
 ·obtain ⟨h1,h2⟩:=hk;have hu:=hT.kinds t;rw[h1] at hu;obtain ⟨e,hu⟩:=hu;obtain ⟨x,rfl⟩:=show ∃x,a=.pointer (some x) from by cases ra with|rd r=>cases r|ro=>exact ⟨_,rfl⟩
  rw[inv_pr rb];refine ⟨_,_,?_,.rd (.pr _ rfl),h2⟩;rw[Sem.run_bind,eqGuard_other ⟨rfl,by simp⟩,Result.andThen_ok,bin_neq (by simp) (equal_ptr hu)];rfl
 ·obtain ⟨h1,h2⟩:=hk;have hu:=hT.kinds t;rw[h1] at hu;obtain ⟨e,hu⟩:=hu;rw[inv_pr ra,inv_pr rb];refine ⟨_,_,?_,.rd (.pr _ rfl),h2⟩;rw[Sem.run_bind,eqGuard_other ⟨rfl,by simp⟩,Result.andThen_ok,bin_eql (by simp) (equal_ptr hu)];rfl
 ·obtain ⟨h1,h2⟩:=hk;have hu:=hT.kinds t;rw[h1] at hu;obtain ⟨e,hu⟩:=hu;rw[inv_pr ra,inv_pr rb];refine ⟨_,_,?_,.rd (.pr _ rfl),h2⟩;rw[Sem.run_bind,eqGuard_other ⟨rfl,by simp⟩,Result.andThen_ok,bin_neq (by simp) (equal_ptr hu)];rfl
 ·obtain ⟨h0,hs,h2⟩:=hk;subst h0;rw[inv_pr ra,inv_pr rb];exact iBin_yields hs h2
 ·obtain ⟨hs,h2⟩:=hk;rw[inv_pr ra,inv_pr rb];exact sBin_yields hs h2
 ·exact hk.elim
end Go.Vc
namespace Go.Vc
def EL (es:List (List AV)) (i:Nat) (K:List AV->Prop):Prop:=∃cs,es[i]?=some cs/\K cs
@[congr] theorem EL_congr {es es':List (List AV)} {i i':Nat} {K:List AV->Prop} {p00:Prop} (_h00:(True/\True)=p00) (h:es=es') (h2:i=i'):EL es i K=EL es' i' K:=by rw[h,h2]
theorem EL_zero (a:List AV) (l:List (List AV)) (K:List AV->Prop):EL (a::l) 0 K=K a:=by simp[EL]
theorem EL.map {α:Type} {f:α->List AV} {l:List α} {i:Nat} {K:List AV->Prop} (h:i<l.length) (k:K (f l[i])):EL (l.map f) i K:=⟨f l[i],by simp[h],k⟩
def OB (x:Option Ob) (K:Ob->Prop):Prop:=∃o,x=some o/\K o
@[congr] theorem OB_congr {x y:Option Ob} {K:Ob->Prop} {p00:Prop} (_h00:(True/\True)=p00) (h:x=y):OB x K=OB y K:=by rw[h]
theorem OB_some (o:Ob) (K:Ob->Prop):OB (some o) K=K o:=by simp[OB]
def one:List AV->(AV->Prop)->Prop
 | [c],K=>K c
 | _,_=>False
@[congr] theorem one_congr {x y:List AV} {K:AV->Prop} {p00:Prop} (_h00:(True/\True)=p00) (h:x=y):one x K=one y K:=by rw[h]
def mkV:TK->Nat->List AV->(AV->Prop)->Prop
 | .struct _,n,cs,K=>n=cs.length/\K (.ag cs)
 | .arr _ _,n,cs,K=>n=cs.length/\K (.ag cs)
 | .other,_,_,_=>False
 | _,_,cs,K=>one cs K
@[congr] theorem mkV_congr {k k':TK} {n n':Nat} {x y:List AV} {K:AV->Prop} {p00:Prop} (_h00:(True/\True)=p00) (h0:k=k') (h1:n=n') (h:x=y):mkV k n x K=mkV k' n' y K:=by rw[h0,h1,h]
def hLoad (T:Nat->TI) (objs:Nat->Option Ob) (t:Nat):AV->(AV->Prop)->Prop
 | .ro cs off,K=>mkV (T t).k (T t).size ((cs.drop off).take (T t).size) K
 | .pt id i off,K=>OB (objs id) λo=>EL o.es i λcs=>mkV (T t).k (T t).size ((cs.drop off).take (T t).size) K
 | _,_=>False
@[congr] theorem hLoad_congr {T:Nat->TI} {objs:Nat->Option Ob} {t:Nat} {x y:AV} {K:AV->Prop} {p00:Prop} (_h00:(True/\True)=p00) (h:x=y):hLoad T objs t x K=hLoad T objs t y K:=by rw[h]
def fAt:List (Nat×Nat)->Nat->(Nat->Nat->Prop)->Prop
 | (o,n)::_,0,K=>K o n
 | _::r,f+1,K=>fAt r f K
 | [],_,_=>False
def fTK:TK->Nat->(Nat->Nat->Prop)->Prop
 | .struct fs,f,K=>fAt fs f K
 | _,_,_=>False
@[congr] theorem fAt_congr {x y:List (Nat×Nat)} {n m:Nat} {K:Nat->Nat->Prop} {p00:Prop} (_h00:(True/\True)=p00) (h:x=y) (h2:n=m):fAt x n K=fAt y m K:=by rw[h,h2]
@[congr] theorem fTK_congr {x y:TK} {n m:Nat} {K:Nat->Nat->Prop} {p00:Prop} (_h00:(True/\True)=p00) (h:x=y) (h2:n=m):fTK x n K=fTK y m K:=by rw[h,h2]
def hField (T:Nat->TI) (t f:Nat):AV->(AV->Prop)->Prop
 | .ro cs off,K=>fTK (T t).k f λo _=>K (.ro cs (off+o))
 | .pt id i off,K=>fTK (T t).k f λo _=>K (.pt id i (off+o))
 | _,_=>False
@[congr] theorem hField_congr {T:Nat->TI} {t f:Nat} {x y:AV} {K:AV->Prop} {p00:Prop} (_h00:(True/\True)=p00) (h:x=y):hField T t f x K=hField T t f y K:=by rw[h]
def sTK:TK->(Nat->Prop)->Prop
 | .slice e,K=>K e
 | _,_=>False
@[congr] theorem sTK_congr {x y:TK} {K:Nat->Prop} {p00:Prop} (_h00:(True/\True)=p00) (h:x=y):sTK x K=sTK y K:=by rw[h]
def aTK:TK->Int->(Nat->Prop)->Prop
 | .arr fs _,j,K=>0<=j/\fAt fs j.toNat λo _=>K o
 | _,_,_=>False
@[congr] theorem aTK_congr {x y:TK} {n m:Int} {K:Nat->Prop} {p00:Prop} (_h00:(True/\True)=p00) (h:x=y) (h2:n=m):aTK x n K=aTK y m K:=by rw[h,h2]
def hIdx (T:Nat->TI) (objs:Nat->Option Ob) (t:Nat):AV->AV->(AV->Prop)->Prop
 | .im sz es,.pr (.int _ i),K=>sTK (T t).k λe=>(sz=(T e).size/\0<=i)/\EL es i.toNat λcs=>K (.ro cs 0)
 | .rf id off len,.pr (.int _ i),K=>sTK (T t).k λe=>(0<=i/\i<len)/\OB (objs id) λo=>o.sz=(T e).size/\K (.pt id (off+i.toNat) 0)
 | .pt id i off,.pr (.int _ j),K=>aTK (T t).k j λo=>K (.pt id i (off+o))
 | .ro cs off,.pr (.int _ j),K=>aTK (T t).k j λo=>K (.ro cs (off+o))
 | _,_,_=>False
@[congr] theorem hIdx_congr {T:Nat->TI} {objs:Nat->Option Ob} {t:Nat} {x y x' y':AV} {K:AV->Prop} {p00:Prop} (_h00:(True/\True)=p00) (h:x=x') (h2:y=y'):hIdx T objs t x y K=hIdx T objs t x' y' K:=by rw[h,h2]
section
variable {P:Program} {T:Nat->TI} {F:Fr} {φ:Nat->Option (Nat×Nat)} {st:St} {w:World}
theorem run_sizeOf_tab (hT:TabOk P T) {t:Nat} (hk:(T t).k.known=true):(sizeOf t).run P w=.ok (T t).size w:=by obtain ⟨i,z,h⟩:=hT.infos t hk;simp[sizeOf,typeInfo,h.info,h.size]
theorem run_isAgg_tab (hT:TabOk P T) {t:Nat} (hk:(T t).k.known=true):(isAgg t).run P w=.ok (match (T t).k with | .struct _=>true | .arr _ _=>true|_=>false) w:=by
 have h:=hT.kinds t;unfold isAgg;cases hk':(T t).k<;>rw[hk'] at h hk<;>simp only[KOk] at h;all_goals try (simp[run_underlying h];done)
 ·obtain ⟨fields,h,_⟩:=h;simp[run_underlying h]
 ·obtain ⟨e,h⟩:=h;simp[run_underlying h]
 ·obtain ⟨a,b,c,h⟩:=h;simp[run_underlying h]
 ·cases hk
 ·obtain ⟨n,i,h,_⟩:=h;simp[run_underlying h]
theorem load_yields (hT:TabOk P T) {R:Value->AV->Prop} (hag:∀(arr:Array Value) cs,arr.size=cs.length->(∀j,j<arr.size->(arr.getD j undef).oneCell'=true) ->
 (∀j av,cs[j]?=some av->R (arr.getD j undef) av)->R (.agg arr) (.ag cs))
 {t:Nat} {a:Addr} {cs:List AV} {K:AV->Prop} (hk:mkV (T t).k (T t).size cs K) (hc:Cells w R a cs):Yields P w R (loadVar t a) K:=by
 have known:(T t).k.known=true:=by cases h:(T t).k<;>rw[h] at hk<;>first|rfl|exact False.elim hk
 generalize hk0:(T t).k=k0 at hk;have single:(match (T t).k with | .struct _=>true | .arr _ _=>true|_=>false)=false->one cs K->Yields P w R (loadVar t a) K:=by
  intro hag hk1
  match cs,hc,hk1 with
  | [c],hc,hk1=>
    obtain ⟨v,g1,g2,g3⟩:=hc 0 c rfl;refine ⟨v,_,?_,g3,hk1⟩;have ha:a.add 0=a:=rfl;rw[ha] at g1;simp only[loadVar,Sem.run_bind,run_isAgg_tab hT known,hag,Result.andThen_ok,Bool.false_eq_true,if_false,run_load,g1]
  | [],_,hk1=>exact False.elim hk1
  | _::_::_,_,hk1=>exact False.elim hk1
 cases k0 with
 | struct fs=>
   obtain ⟨h1,h2⟩:=hk;obtain ⟨arr,g1,g2,g3,g4⟩:=run_loadCells_rep (P:=P) hc;refine ⟨.agg arr,_,?_,hag arr cs g2 g3 g4,h2⟩;simp only[loadVar,Sem.run_bind,run_isAgg_tab hT known,hk0,Result.andThen_ok,if_true,run_sizeOf_tab hT known,h1,g1,Sem.run_pure]
 | arr fs e=>
   obtain ⟨h1,h2⟩:=hk;obtain ⟨arr,g1,g2,g3,g4⟩:=run_loadCells_rep (P:=P) hc;refine ⟨.agg arr,_,?_,hag arr cs g2 g3 g4,h2⟩;simp only[loadVar,Sem.run_bind,run_isAgg_tab hT known,hk0,Result.andThen_ok,if_true,run_sizeOf_tab hT known,h1,g1,Sem.run_pure]
 | other=>exact False.elim hk
 | _=>exact single (by rw[hk0]) hk
theorem ro_cells {β o off:Nat} {cs:List AV} {c:Array Value} {e:TypeId} {fz:Nat×Nat} {vs:Nat->Value} {n:Nat} (hb:w.heap[β]?=some (.cells c e fz))
 (hc:∀j av,cs[j]?=some av->c[o+j]?=some (vs j)) (hr:∀j av,cs[j]?=some av->RdI w.heap (SS F φ st.objs w) (vs j) av) :
 Cells w (RV F φ st w) ⟨β,o+off,none⟩ ((cs.drop off).take n):=by
 intro j av hj;have hj':cs[off+j]?=some av:=by
  rw[List.getElem?_take] at hj;split at hj
  ·rwa [List.getElem?_drop] at hj
  ·cases hj
 refine ⟨vs (off+j),?_,(hr _ _ hj').one,.rd (hr _ _ hj')⟩;rw[add_at,cell_at hb,Nat.add_assoc];exact hc _ _ hj'
theorem inv_ro {v:Value} {cs:List AV} {off:Nat} (r:RV F φ st w v (.ro cs off)):∃β o c e fz,∃vs:Nat->Value,v=.pointer (some ⟨β,o+off,none⟩)/\SS F φ st.objs w β/\w.heap[β]?=some (.cells c e fz) /\
 (∀j av,cs[j]?=some av->c[o+j]?=some (vs j))/\(∀j av,cs[j]?=some av->RdI w.heap (SS F φ st.objs w) (vs j) av):=by
 cases r with
 | rd r=>cases r
 | ro vs hS hb hc hr=>exact ⟨_,_,_,_,_,vs,rfl,hS,hb,hc,hr⟩
theorem inv_pt {v:Value} {id i off:Nat} {o:Ob} (r:RV F φ st w v (.pt id i off)) (ho:st.objs id=some o):∃β b,φ id=some (β,b)/\v=.pointer (some ⟨β,b+i*o.sz+off,none⟩):=by
 cases r with
 | rd r=>cases r
 | pt hu hv hr=>exact hr o ho
theorem ob_at (H:RepH F φ st.objs (·∈st.used) w) {id β b:Nat} {o:Ob} (ho:st.objs id=some o) (hφ:φ id=some (β,b)) :
 (∀x∈o.es,x.length=o.sz)/\∃c e fz,w.heap[β]?=some (.cells c e fz)/\Soft c fz/\b+o.es.length*o.sz<=c.size /\
  ∀i j av,cellAt o.es i j=some av->∃v,c[b+i*o.sz+j]?=some v/\v.oneCell'=true/\RV F φ st w v av:=by
 obtain ⟨h1,h|⟨β',b',c,e,fz,g1,g2,g3,g4,g5⟩⟩:=H.ob id o ho
 ·rw[h.1] at hφ;cases hφ
 ·rw[g1] at hφ;cases hφ;exact ⟨h1,c,e,fz,g2,g3,g4,g5⟩
theorem pt_cells (H:RepH F φ st.objs (·∈st.used) w) {id β b i off n:Nat} {o:Ob} {cs:List AV} (ho:st.objs id=some o) (hφ:φ id=some (β,b)) (hi:o.es[i]?=some cs) :
 Cells w (RV F φ st w) ⟨β,b+i*o.sz+off,none⟩ ((cs.drop off).take n):=by
 obtain ⟨_,c,e,fz,hb,_,_,hc⟩:=ob_at H ho hφ;intro j av hj;have hj':cs[off+j]?=some av:=by
  rw[List.getElem?_take] at hj;split at hj
  ·rwa [List.getElem?_drop] at hj
  ·cases hj
 obtain ⟨v,g1,g2,g3⟩:=hc i (off+j) av (by simp[cellAt,hi,hj']);refine ⟨v,?_,g2,g3⟩;rw[add_at,cell_at hb,Nat.add_assoc];exact g1
theorem hLoad_yields (hT:TabOk P T) (H:RepH F φ st.objs (·∈st.used) w) {t:Nat} {x:AV} {v:Value} {K:AV->Prop} (hk:hLoad T st.objs t x K) (r:RV F φ st w v x) :
 Yields P w (RV F φ st w) (Instr.loadAt t v) K:=by
 cases x with
 | ro cs off=>
   obtain ⟨β,o,c,e,fz,vs,rfl,hS,hb,hc,hr⟩:=inv_ro r;obtain ⟨u,av,g1,g2,g3⟩:=load_yields hT (P:=P) (R:=RV F φ st w) (λarr cs h1 h2 h3=>.ag h1 h2 h3) hk (ro_cells hb hc hr);exact ⟨u,av,by simpa [Instr.loadAt,Instr.sureAddr] using g1,g2,g3⟩
 | pt id i off=>
   obtain ⟨o,ho,cs,hi,hk⟩:=hk;obtain ⟨β,b,hφ,rfl⟩:=inv_pt r ho;obtain ⟨u,av,g1,g2,g3⟩:=load_yields hT (P:=P) (R:=RV F φ st w) (λarr cs h1 h2 h3=>.ag h1 h2 h3) hk (pt_cells H ho hφ hi);exact ⟨u,av,by simpa [Instr.loadAt,Instr.sureAddr] using g1,g2,g3⟩
 | _=>exact False.elim hk
theorem fAt_spec {fs:List (Nat×Nat)}:∀{f:Nat} {K:Nat->Nat->Prop},fAt fs f K->∃o n,fs[f]?=some (o,n)/\K o n:=by
 induction fs with
 | nil=>intro f K h;exact h.elim
 | cons x r ih=>
   intro f K h;cases f with
   | zero=>exact ⟨x.1,x.2,rfl,h⟩
   | succ f=>obtain ⟨o,n,h1,h2⟩:=ih h;exact ⟨o,n,by simpa using h1,h2⟩
theorem run_fieldAt (hT:TabOk P T) {t f:Nat} {a:Addr} {K:Nat->Nat->Prop} (hk:fTK (T t).k f K):∃o n,K o n/\(Instr.fieldAt t (.pointer (some a)) f).run P w=.ok (.pointer (some (a.add o))) w:=by
 generalize hk0:(T t).k=k0 at hk;cases k0 with
 | struct fs=>
   have h:=hT.kinds t;rw[hk0] at h;obtain ⟨fields,hu,hm,hp⟩:=h;obtain ⟨o,n,h1,h2⟩:=fAt_spec hk;rw[<- hm,List.getElem?_map] at h1;cases hf:fields.toList[f]? with
   | none=>rw[hf] at h1;cases h1
   | some fd=>
     rw[hf] at h1;simp only[Option.map_some,Option.some.injEq,Prod.mk.injEq] at h1;obtain ⟨i,hi,hpos⟩:=hp fd (List.mem_of_getElem? hf);refine ⟨o,n,h2,?_⟩;have hf':fields[f]?=some fd:=(by simpa using hf);have hz:¬i.size=0:=(by omega);simp[Instr.fieldAt,run_underlying hu,hf',Instr.sureAddr,fieldPlace,sizeOf,typeInfo,hi,hz,h1.1]
 | _=>exact False.elim hk
theorem hField_yields (hT:TabOk P T) {t f:Nat} {x:AV} {v:Value} {K:AV->Prop} (hk:hField T t f x K) (r:RV F φ st w v x):Yields P w (RV F φ st w) (Instr.fieldAt t v f) K:=by
 cases x with
 | ro cs off=>
   obtain ⟨β,o,c,e,fz,vs,rfl,hS,hb,hc,hr⟩:=inv_ro r;obtain ⟨fo,n,h1,h2⟩:=run_fieldAt (P:=P) (w:=w) hT (a:=⟨β,o+off,none⟩) hk;refine ⟨_,_,h2,?_,h1⟩;rw[add_at,Nat.add_assoc];exact .ro vs hS hb hc hr
 | pt id i off=>
   cases r with
   | rd r=>cases r
   | pt hu hv hr=>
     obtain ⟨a,rfl⟩:=hv;obtain ⟨fo,n,h1,h2⟩:=run_fieldAt (P:=P) (w:=w) hT (a:=a) hk;refine ⟨_,_,h2,.pt hu ⟨_,rfl⟩ λo ho=>?_,h1⟩;obtain ⟨β,b,g1,g2⟩:=hr o ho;cases g2;exact ⟨β,b,g1,by rw[add_at,Nat.add_assoc]⟩
 | _=>exact False.elim hk
theorem sTK_spec {k:TK} {K:Nat->Prop} (h:sTK k K):∃e,k=.slice e/\K e:=by
 unfold sTK at h;split at h
 ·exact ⟨_,rfl,h⟩
 ·exact h.elim
theorem run_indexAt (hT:TabOk P T) {t e:Nat} (ht:(T t).k=.slice e) (he:(T e).k.known=true) {a:Addr} {len cap:Nat} {k:IntKind} {i:Int} (h0:0<=i) (h1:i<len) :
 (Instr.indexAt t (.slice (some a) len cap) (.int k i)).run P w=.ok (.pointer (some (a.add (i.toNat*(T e).size)))) w:=by
 have h:=hT.kinds t;rw[ht] at h;simp only[KOk] at h;simp[Instr.indexAt,asIntOf,run_underlying h,h0,h1,run_sizeOf_tab hT he]
theorem inv_im {v:Value} {sz:Nat} {es:List (List AV)} (r:RV F φ st w v (.im sz es)) :
 (es=[]/\∃a cap,v=.slice a 0 cap)\/∃β o cap c e fz,∃vs:Nat->Nat->Value,v=.slice (some ⟨β,o,none⟩) es.length cap/\SS F φ st.objs w β/\w.heap[β]?=some (.cells c e fz)/\es.length<=cap /\
  (∀x∈es,x.length=sz)/\(∀i j av,cellAt es i j=some av->c[o+i*sz+j]?=some (vs i j))/\(∀i j av,cellAt es i j=some av->RdI w.heap (SS F φ st.objs w) (vs i j) av):=by
 cases r with
 | rd r=>
   cases r with
   | im0 a cap sz=>exact .inl ⟨rfl,a,cap,rfl⟩
   | im vs hS hb hcap hsz hc hr=>exact .inr ⟨_,_,_,_,_,_,vs,rfl,hS,hb,hcap,hsz,hc,hr⟩
theorem known_of_size (hT:TabOk P T) {e:Nat} (h:(T e).k.known=true):0<(T e).size:=by obtain ⟨i,z,h⟩:=hT.infos e h;exact h.pos
theorem aTK_spec {k:TK} {j:Int} {K:Nat->Prop} (h:aTK k j K):∃fs e o n,k=.arr fs e/\0<=j/\fs[j.toNat]?=some (o,n)/\K o:=by
 unfold aTK at h;split at h
 ·obtain ⟨h0,h⟩:=h;obtain ⟨o,n,h1,h2⟩:=fAt_spec h;exact ⟨_,_,o,n,rfl,h0,h1,h2⟩
 ·exact h.elim
theorem run_indexArr (hT:TabOk P T) {t e:Nat} {fs:List (Nat×Nat)} {o n:Nat} (ht:(T t).k=.arr fs e) {a:Addr} {k:IntKind} {j:Int} (h0:0<=j) (h1:fs[j.toNat]?=some (o,n)) :
 (Instr.indexAt t (.pointer (some a)) (.int k j)).run P w=.ok (.pointer (some (a.add o))) w:=by
 have h:=hT.kinds t;rw[ht] at h;simp only[KOk] at h;obtain ⟨m,i,hu,hi,hp,rfl⟩:=h;rw[List.getElem?_map] at h1;obtain ⟨x,h2,h3⟩:=Option.map_eq_some_iff.1 h1;obtain ⟨hlt,rfl⟩:=List.getElem?_eq_some_iff.1 h2;simp at hlt h3;have hj:j<m:=by omega
 simp[Instr.indexAt,asIntOf,run_underlying hu,Instr.sureAddr,h0,hj,sizeOf,typeInfo,hi,h3.1]
theorem hIdx_yields (hT:TabOk P T) (hE:∀t e,(T t).k=.slice e->(T e).k.known=true) {t:Nat} {x y:AV} {v u:Value} {K:AV->Prop} (hk:hIdx T st.objs t x y K) (r:RV F φ st w v x) (ry:RV F φ st w u y) :
 Yields P w (RV F φ st w) (Instr.indexAt t v u) K:=by
 unfold hIdx at hk;split at hk
 ·rename_i sz es k i;obtain ⟨e,ht,⟨hsze,h0⟩,cs,hcs,hk⟩:=sTK_spec hk;have hlt:=(List.getElem?_eq_some_iff.1 hcs).1;rw[inv_pr ry];rcases inv_im r with ⟨rfl,_⟩|⟨β,o,cap,c,e',fz,vs,rfl,hS,hb,hcap,hsz,hc,hr⟩
  ·simp at hlt
  ·refine ⟨_,_,run_indexAt hT ht (hE t e ht) h0 (by omega),?_,hk⟩;rw[add_at];have hcell:∀j av,cs[j]?=some av->cellAt es i.toNat j=some av:=λj av hj=>by simp[cellAt,hcs,hj]
   exact .ro (off:=0) (λj=>vs i.toNat j) hS hb (λj av hj=>by rw[<- hsze];exact hc _ _ _ (hcell j av hj)) (λj av hj=>hr _ _ _ (hcell j av hj))
 ·rename_i id off len k i;obtain ⟨e,ht,⟨h0,h1⟩,o,ho,hsz,hk⟩:=sTK_spec hk;rw[inv_pr ry];cases r with
  | rd r=>cases r
  | rf hu hv hr=>
    obtain ⟨g1,g2⟩:=hr o ho;rcases g2 with ⟨rfl,_⟩|⟨β,b,cap,c,e',fz,k1,k2,rfl,k4,k5⟩
    ·simp at h1;omega
    ·refine ⟨_,_,run_indexAt hT ht (hE t e ht) h0 h1,.pt hu ⟨_,rfl⟩ λo' ho'=>⟨β,b,k1,?_⟩,hk⟩;rw[ho] at ho';cases ho';rw[add_at,<- hsz,Nat.add_assoc,<- Nat.add_mul];rfl
 ·rename_i id i off k j;obtain ⟨fs,e,o,n,ht,h0,h1,hk⟩:=aTK_spec hk;rw[inv_pr ry];cases r with
  | rd r=>cases r
  | pt hu hv hr=>
    obtain ⟨a,rfl⟩:=hv;refine ⟨_,_,run_indexArr hT ht h0 h1,.pt hu ⟨_,rfl⟩ λo' ho'=>?_,hk⟩;obtain ⟨β,b,g1,g2⟩:=hr o' ho';cases g2;exact ⟨β,b,g1,by rw[add_at,Nat.add_assoc]⟩
 ·rename_i cs off k j;obtain ⟨fs,e,o,n,ht,h0,h1,hk⟩:=aTK_spec hk;rw[inv_pr ry];obtain ⟨β,ob,c,e',fz,vs,rfl,hS,hb,hc,hr⟩:=inv_ro r;refine ⟨_,_,run_indexArr hT ht h0 h1,?_,hk⟩;rw[add_at,Nat.add_assoc];exact .ro vs hS hb hc hr
 ·exact hk.elim
def cellsOf:AV->(List AV->Prop)->Prop
 | .ag cs,K=>K cs
 | .un,_=>False
 | .tu _,_=>False
 | v,K=>K [v]
@[congr] theorem cellsOf_congr {x y:AV} {K:List AV->Prop} {p00:Prop} (_h00:(True/\True)=p00) (h:x=y):cellsOf x K=cellsOf y K:=by rw[h]
theorem RepV.one' {φ obs U h S} {v:Value} {av:AV} (r:RepV φ obs U h S v av) (h1:av≠.un) (h2:∀cs,av≠.ag cs) (h3:∀vs,av≠.tu vs):v.oneCell'=true:=by
 cases r with
 | un=>exact absurd rfl h1
 | rd r=>exact r.one
 | rf hu hv hr=>obtain ⟨a,c,rfl,_⟩:=hv;rfl
 | pt hu hv hr=>obtain ⟨a,rfl⟩:=hv;rfl
 | ro=>rfl
 | ag=>exact absurd rfl (h2 _)
 | tu=>exact absurd rfl (h3 _)
 | fn=>unfold fnV;split<;>rfl
theorem cells_one {v:Value} (h:v.oneCell'=true):v.cells=#[v]:=by cases v<;>simp_all [Value.cells,Value.oneCell']
theorem cellsOf_spec {φ obs U h S} {x:AV} {v:Value} {K:List AV->Prop} (hk:cellsOf x K) (r:RepV φ obs U h S v x) :
 ∃cs:List AV,K cs/\v.cells.size=cs.length/\(∀c∈v.cells.toList,c.oneCell'=true)/\∀(j:Nat) (av:AV),cs[j]?=some av->∃u:Value,v.cells[j]?=some u/\u.oneCell'=true/\RepV φ obs U h S u av:=by
 unfold cellsOf at hk
 have single:∀{y:AV},RepV φ obs U h S v y->v.oneCell'=true->v.cells.size=[y].length/\(∀c∈v.cells.toList,c.oneCell'=true) /\
  ∀(j:Nat) (av:AV),[y][j]?=some av->∃u:Value,v.cells[j]?=some u/\u.oneCell'=true/\RepV φ obs U h S u av:=by
  intro y ry hv;rw[cells_one hv];refine ⟨rfl,by simp[hv],λj av hj=>?_⟩;cases j with
  | zero=>simp at hj;subst hj;exact ⟨v,rfl,hv,ry⟩
  | succ j=>simp at hj
 split at hk
 ·rename_i cs;cases r with
  | rd r=>cases r
  | ag hs h1 hr=>
    rename_i arr;refine ⟨cs,hk,hs,λc hc=>?_,λj av hj=>?_⟩
    ·obtain ⟨j,hj,rfl⟩:=List.mem_iff_getElem.1 hc;simp[Value.cells] at hj;have:=h1 j hj;simpa [hj,Value.cells] using this
    ·have hj':=(List.getElem?_eq_some_iff.1 hj).1;have hj2:j<arr.size:=(by omega);have:=hr j av hj;simp[hj2] at this;exact ⟨arr[j],by simp[Value.cells,hj2],by have:=h1 j hj2;simpa [hj2] using this,this⟩
 ·exact hk.elim
 ·exact hk.elim
 ·rename_i h1 h2 h3;obtain ⟨a,b,c⟩:=single r (r.one' h2 (λcs e=>h1 cs e) (λvs e=>h3 vs e));exact ⟨_,hk,a,b,c⟩
def splice (cs:List AV) (off:Nat) (new:List AV):List AV:=cs.take off++new++cs.drop (off+new.length)
theorem splice_length {cs new:List AV} {off:Nat} (h:off+new.length<=cs.length):(splice cs off new).length=cs.length:=by simp[splice];omega
theorem splice_get {cs new:List AV} {off:Nat} (h:off+new.length<=cs.length) (j:Nat):(splice cs off new)[j]?=if off<=j/\j<off+new.length then new[j-off]? else cs[j]?:=by
 have hm:(cs.take off).length=off:=by rw[List.length_take];omega
 simp only[splice,List.append_assoc,List.getElem?_append,hm,List.getElem?_take,List.getElem?_drop];by_cases h1:j<off
 ·simp only[h1,if_true];rw[if_neg (by omega)]
 ·simp only[h1,if_false];by_cases h2:j-off<new.length
  ·rw[if_pos h2,if_pos (by omega)]
  ·rw[if_neg h2,if_neg (by omega)];congr 1;omega
def hStore (T:Nat->TI) (st:St) (t:Nat):AV->AV->(St->Prop)->Prop
 | .pt id i off,v,K=>OB (st.objs id) λo=>EL o.es i λcs=>cellsOf v λnew=>((T t).k.known=true/\new.length=(T t).size/\off+new.length<=cs.length) /\
  K {st with objs:=upd st.objs id (some {o with es:=o.es.set i (splice cs off new)})}
 | _,_,_=>False
@[congr] theorem hStore_congr {T:Nat->TI} {st:St} {t:Nat} {x y x' y':AV} {K:St->Prop} {p00:Prop} (_h00:(True/\True)=p00) (h:x=x') (h2:y=y'):hStore T st t x y K=hStore T st t x' y' K:=by rw[h,h2]
theorem putAt_len {c:Array Value} {o:Nat} {l:List Value}:(putAt c o l).size=c.size:=putAt_size l c o
theorem hStore_goes (hT:TabOk P T) (H:RepH F φ st.objs (·∈st.used) w) {t:Nat} {x y:AV} {v u:Value} {K:St->Prop} (hk:hStore T st t x y K) (r:RV F φ st w v x) (ry:RV F φ st w u y) :
 ∃(objs':Nat->Option Ob) (w':World),(Instr.storeAt t v u).run P w=.ok () w'/\K {st with objs:=objs'}/\Goes φ φ st.objs objs' (·∈st.used) (·∈st.used) w w'/\RepH F φ objs' (·∈st.used) w':=by
 cases x with
 | pt id i off=>
   obtain ⟨o,ho,cs,hi,hk⟩:=hk;obtain ⟨β,b,hφ,rfl⟩:=inv_pt r ho;obtain ⟨new,⟨⟨hkn,hn1,hn2⟩,hk⟩,hc1,hc2,hc3⟩:=cellsOf_spec hk ry;obtain ⟨hel,c,e,fz,hb,hsoft,hfit,hc⟩:=ob_at H ho hφ;have hilt:=(List.getElem?_eq_some_iff.1 hi).1;have hcsl:cs.length=o.sz:=hel cs (List.mem_of_getElem? hi);have hbound:b+i*o.sz+off+u.cells.toList.length<=c.size:=by have:(i+1)*o.sz<=o.es.length*o.sz:=Nat.mul_le_mul_right _ hilt;rw[Nat.add_mul] at this;simp[hc1];omega
   refine ⟨_,World.setBlk w β (putAt c (b+i*o.sz+off) u.cells.toList) e fz,?_,hk,?_⟩
   ·have:¬u.cells.size≠(T t).size:=(by omega);simp only[Instr.storeAt,Instr.sureAddr,storeVar,Sem.run_bind,Sem.run_pure,Result.andThen_ok,run_sizeOf_tab hT hkn,if_neg this];exact run_storeCells_blk (b+i*o.sz+off) u.cells.toList 0 w c hb hsoft (by simpa using hbound) hc2
   ·have hs:=Rep.set (o':={o with es:=o.es.set i (splice cs off new)}) H ho hφ hb hsoft rfl (by simp) (putAt_len (c:=c) (o:=b+i*o.sz+off) (l:=u.cells.toList)) ?_ ?_ ?_ rfl
    ·exact hs
    ·intro x hx;rcases List.mem_or_eq_of_mem_set hx with h|h
     ·exact hel x h
     ·rw[h,splice_length hn2];exact hcsl
    ·rw[putAt_len];simpa using hfit
    ·intro k j av hkj;simp only[cellAt,List.getElem?_set] at hkj;rw[putAt_get _ _ _ _ hbound];by_cases hki:i=k
     ·subst hki;simp only[if_true,hilt] at hkj;rw[Option.bind_some,splice_get hn2] at hkj;by_cases hj:off<=j/\j<off+new.length
      ·rw[if_pos hj] at hkj;obtain ⟨v',g1,g2,g3⟩:=hc3 _ _ hkj;refine ⟨v',?_,g2,g3⟩;rw[if_pos (by simp only[Array.length_toList];omega),show b+i*o.sz+j-(b+i*o.sz+off)=j-off by omega];simpa using g1
      ·rw[if_neg hj] at hkj;obtain ⟨v',g1,g2,g3⟩:=hc i j av (by simp[cellAt,hi,hkj]);refine ⟨v',?_,g2,g3⟩;rw[if_neg (by simp only[Array.length_toList];omega)];exact g1
     ·rw[if_neg hki] at hkj;obtain ⟨v',g1,g2,g3⟩:=hc k j av hkj;refine ⟨v',?_,g2,g3⟩;have hjlt:j<o.sz:=by
       cases hk2:o.es[k]? with
       | none=>rw[hk2] at hkj;cases hkj
       | some x=>rw[hk2] at hkj;have:=(List.getElem?_eq_some_iff.1 hkj).1;rw[hel x (List.mem_of_getElem? hk2)] at this;exact this
      rw[if_neg ?_];exact g1;simp only[Array.length_toList];rintro ⟨a1,a2⟩;have a3:off+new.length<=o.sz:=(by omega);rcases Nat.lt_or_gt_of_ne hki with h|h
      ·have:(i+1)*o.sz<=k*o.sz:=Nat.mul_le_mul_right _ h;rw[Nat.add_mul] at this;omega
      ·have:(k+1)*o.sz<=i*o.sz:=Nat.mul_le_mul_right _ h;rw[Nat.add_mul] at this;omega
 | _=>exact False.elim hk
end
end Go.Vc
namespace Go.Vc
def optI:Option AV->Int->(Int->Prop)->Prop
 | none,d,K=>K d
 | some (.pr (.int _ i)),_,K=>K i
 | _,_,_=>False
@[congr] theorem optI_congr {x y:Option AV} {d d':Int} {K:Int->Prop} {p00:Prop} (_h00:(True/\True)=p00) (h:x=y) (h2:d=d'):optI x d K=optI y d' K:=by rw[h,h2]
def lenI:AV->(Int->Prop)->Prop
 | .nl,K=>K 0
 | .im _ es,K=>K es.length
 | .rf _ _ n,K=>K n
 | .pr (.string s),K=>K s.size
 | _,_=>False
@[congr] theorem lenI_congr {x y:AV} {K:Int->Prop} {p00:Prop} (_h00:(True/\True)=p00) (h:x=y):lenI x K=lenI y K:=by rw[h]
def cutA (T:Nat->TI) (t:Nat) (l h:Int):AV->(AV->Prop)->Prop
 | .nl,K=>(∃e,(T t).k=.slice e)/\K .nl
 | .im sz es,K=>sTK (T t).k λe=>sz=(T e).size/\K (.im sz ((es.take h.toNat).drop l.toNat))
 | .rf id off _,K=>sTK (T t).k λ_=>K (.rf id (off+l.toNat) (h.toNat-l.toNat))
 | .pr (.string s),K=>(T t).k=.str/\K (.pr (.string (s.extract l.toNat h.toNat)))
 | _,_=>False
@[congr] theorem cutA_congr {T:Nat->TI} {t:Nat} {l h l' h':Int} {x y:AV} {K:AV->Prop} {p00:Prop} (_h00:(True/\True)=p00) (e1:l=l') (e2:h=h') (e3:x=y):cutA T t l h x K=cutA T t l' h' y K:=by rw[e1,e2,e3]
def obSz (T:Nat->TI) (t:Nat) (objs:Nat->Option Ob):AV->Prop
 | .rf id _ _=>sTK (T t).k λe=>OB (objs id) λo=>o.sz=(T e).size
 | _=>True
def hSlice (T:Nat->TI) (objs:Nat->Option Ob) (t:Nat) (x:AV) (lo hi:Option AV) (K:AV->Prop):Prop:=
 lenI x λn=>optI lo 0 λl=>optI hi n λh=>(0<=l/\l<=h/\h<=n)/\obSz T t objs x/\cutA T t l h x K
@[congr] theorem hSlice_congr {T:Nat->TI} {objs:Nat->Option Ob} {t:Nat} {x y:AV} {lo hi lo' hi':Option AV} {K:AV->Prop} {p00:Prop} (_h00:(True/\True)=p00) (h:x=y) (h1:lo=lo') (h2:hi=hi') :
 hSlice T objs t x lo hi K=hSlice T objs t y lo' hi' K:=by rw[h,h1,h2]
section
variable {P:Program} {T:Nat->TI} {F:Fr} {φ:Nat->Option (Nat×Nat)} {st:St} {w:World}
theorem lenI_spec {x:AV} {K:Int->Prop} (h:lenI x K):(x=.nl/\K 0)\/(∃sz es,x=.im sz es/\K es.length)\/(∃id off n,x=.rf id off n/\K n)\/∃s:ByteArray,x=.pr (.string s)/\K s.size:=by
 unfold lenI at h;split at h
 ·exact .inl ⟨rfl,h⟩
 ·exact .inr (.inl ⟨_,_,rfl,h⟩)
 ·exact .inr (.inr (.inl ⟨_,_,_,rfl,h⟩))
 ·exact .inr (.inr (.inr ⟨_,rfl,h⟩))
 ·exact h.elim
theorem rv_len {v:Value} {x:AV} {K:Int->Prop} (h:lenI x K) (r:RV F φ st w v x):(∃(a:Option Addr) (n cap:Nat),v=.slice a n cap/\K n)\/∃s:ByteArray,v=.string s/\K s.size:=by
 rcases lenI_spec h with ⟨rfl,h⟩|⟨sz,es,rfl,h⟩|⟨id,off,n,rfl,h⟩|⟨s,rfl,h⟩
 ·cases r with|rd r=>cases r;exact .inl ⟨none,0,0,rfl,h⟩
 ·rcases inv_im r with ⟨rfl,a,cap,rfl⟩|⟨β,o,cap,c,e,fz,vs,rfl,_⟩
  ·exact .inl ⟨a,0,cap,rfl,h⟩
  ·exact .inl ⟨_,_,cap,rfl,h⟩
 ·cases r with
  | rd r=>cases r
  | rf hu hv hr=>obtain ⟨a,cap,rfl,_⟩:=hv;exact .inl ⟨a,n,cap,rfl,h⟩
 ·rw[inv_pr r];exact .inr ⟨s,rfl,h⟩
theorem run_sliceBounds {isS:Bool} {len cap:Nat} {lo hi:Option Value} {l h:Nat}
 (hlo:(lo=none/\l=0)\/∃k,lo=some (.int k l)) (hhi:(hi=none/\h=len)\/∃k,hi=some (.int k h)) (h1:l<=h) (h2:h<=cap) :
 (Instr.sliceBounds isS len cap lo hi none).run P w=.ok (l,h,cap) w:=by
 rcases hlo with ⟨rfl,rfl⟩|⟨k,rfl⟩<;>rcases hhi with ⟨rfl,rfl⟩|⟨k',rfl⟩ <;>
  simp[Instr.sliceBounds,Instr.sliceBound,asIntOf,h1,h2]
theorem hSlice_yields (hT:TabOk P T) (hE:∀t e,(T t).k=.slice e->(T e).k.known=true) {t:Nat} {x:AV} {lo hi:Option AV} {v:Value} {vlo vhi:Option Value} {K:AV->Prop}
 (hk:hSlice T st.objs t x lo hi K) (r:RV F φ st w v x)
 (rlo:(lo=none/\vlo=none)\/∃a b,lo=some a/\vlo=some b/\RV F φ st w b a)
 (rhi:(hi=none/\vhi=none)\/∃a b,hi=some a/\vhi=some b/\RV F φ st w b a):Yields P w (RV F φ st w) (Instr.sliceAt t v vlo vhi none) K:=by
 have getI:∀{o:Option AV} {vo:Option Value} {d:Int} {K':Int->Prop},optI o d K'->((o=none/\vo=none)\/∃a b,o=some a/\vo=some b/\RV F φ st w b a) ->
  ∃i:Int,K' i/\((vo=none/\i=d)\/∃k,vo=some (.int k i)):=by
  intro o vo d K' ho ro;rcases ro with ⟨rfl,rfl⟩|⟨a,b,rfl,rfl,rb⟩
  ·exact ⟨d,ho,.inl ⟨rfl,rfl⟩⟩
  ·unfold optI at ho;split at ho
   ·rename_i h;cases h
   ·rename_i k i _ h;cases h;rw[inv_pr rb];exact ⟨_,ho,.inr ⟨_,rfl⟩⟩
   ·exact ho.elim
 unfold hSlice at hk
 have fin:∀(n:Nat),(optI lo 0 λl=>optI hi n λh=>(0<=l/\l<=h/\h<=n)/\obSz T t st.objs x/\cutA T t l h x K) ->
  ∃l h:Nat,l<=h/\h<=n/\obSz T t st.objs x/\cutA T t l h x K/\((vlo=none/\l=0)\/∃k,vlo=some (.int k l))/\((vhi=none/\h=n)\/∃k,vhi=some (.int k h)):=by
  intro n hk;obtain ⟨l,hk,hl⟩:=getI hk rlo;obtain ⟨h,⟨⟨h0,h1,h2⟩,hs,hk⟩,hh⟩:=getI hk rhi;obtain ⟨l,rfl⟩:=Int.eq_ofNat_of_zero_le h0;obtain ⟨h,rfl⟩:=Int.eq_ofNat_of_zero_le (Int.le_trans h0 h1);refine ⟨l,h,by omega,by omega,hs,hk,?_,?_⟩
  ·rcases hl with ⟨a,b⟩|b
   ·exact .inl ⟨a,by omega⟩
   ·exact .inr b
  ·rcases hh with ⟨a,b⟩|b
   ·exact .inl ⟨a,by omega⟩
   ·exact .inr b
 rcases lenI_spec hk with ⟨rfl,hk⟩|⟨sz,es,rfl,hk⟩|⟨id,off,n,rfl,hk⟩|⟨s,rfl,hk⟩
 ·obtain ⟨l,h,h1,h2,_,⟨⟨e,ht⟩,hc⟩,hl,hh⟩:=fin 0 hk;have hl0:l=0:=(by omega);have hh0:h=0:=(by omega);subst hl0;subst hh0;have hu:=hT.kinds t;rw[ht] at hu;simp only[KOk] at hu;obtain ⟨i,z,hi'⟩:=hT.infos e (hE t e ht);cases r with|rd r=>
  cases r;refine ⟨_,_,?_,.rd .nl,hc⟩;simp[Instr.sliceAt,Instr.slice,run_underlying hu,run_sliceBounds (P:=P) (w:=w) (isS:=true) hl hh h1 (Nat.le_refl 0),run_sizeOf_tab hT (hE t e ht)]
 ·obtain ⟨l,h,h1,h2,_,hc,hl,hh⟩:=fin es.length hk;obtain ⟨e,ht,hsz,hc⟩:=sTK_spec hc;have hu:=hT.kinds t;rw[ht] at hu;simp only[KOk] at hu;have sl:∀{a:Option Addr} {cap:Nat},es.length<=cap->(Instr.sliceAt t (.slice a es.length cap) vlo vhi none).run P w=.ok (.slice (if cap=l then a else a.map (·.add (l*(T e).size))) (h-l) (cap-l)) w:=by
   intro a cap hcap;simp[Instr.sliceAt,Instr.slice,run_underlying hu,run_sliceBounds (P:=P) (w:=w) (isS:=true) hl hh h1 (by omega:h<=cap),run_sizeOf_tab hT (hE t e ht)]
  rcases inv_im r with ⟨rfl,a,cap,rfl⟩|⟨β,o,cap,c,e',fz,vs,rfl,hS,hb,hcap,hszs,hcc,hr⟩
  ·refine ⟨_,_,sl (Nat.zero_le _),?_,hc⟩;have:h-l=0:=by simp at h2;omega
   rw[this];simp only[List.take_nil,List.drop_nil];exact .rd (.im0 _ _ _)
  ·refine ⟨_,_,sl hcap,?_,hc⟩;simp only[Int.toNat_natCast];by_cases hlh:l=h
   ·subst hlh;have:(List.take l es).drop l=[]:=List.drop_of_length_le (by simp;omega);rw[Nat.sub_self,this];exact .rd (.im0 _ _ _)
   ·have hlc:¬cap=l:=(by omega);rw[if_neg hlc];simp only[Option.map_some,add_at];have hlen:((List.take h es).drop l).length=h-l:=by simp;omega
    rw[<- hlen];have hcell:∀i j av,cellAt ((List.take h es).drop l) i j=some av->cellAt es (l+i) j=some av:=by
     intro i j av hij;simp only[cellAt,List.getElem?_drop,List.getElem?_take] at hij ⊢;split at hij
     ·exact hij
     ·cases hij
    refine .rd (.im (λi j=>vs (l+i) j) hS hb (by rw[hlen];omega) (λx hx=>hszs x (List.mem_of_mem_take (List.mem_of_mem_drop hx))) (λi j av hij=>?_) λi j av hij=>hr _ _ _ (hcell i j av hij));rw[<- hsz,Nat.add_assoc o,<- Nat.add_mul];exact hcc _ _ _ (hcell i j av hij)
 ·obtain ⟨l,h,h1,h2,hob,hc,hl,hh⟩:=fin n hk;obtain ⟨e,ht,o,ho,hsz⟩:=sTK_spec hob;have hu:=hT.kinds t;rw[ht] at hu;simp only[KOk] at hu;have sl:∀{a:Option Addr} {cap:Nat},n<=cap->(Instr.sliceAt t (.slice a n cap) vlo vhi none).run P w=.ok (.slice (if cap=l then a else a.map (·.add (l*(T e).size))) (h-l) (cap-l)) w:=by
   intro a cap hcap;simp[Instr.sliceAt,Instr.slice,run_underlying hu,run_sliceBounds (P:=P) (w:=w) (isS:=true) hl hh h1 (by omega:h<=cap),run_sizeOf_tab hT (hE t e ht)]
  cases r with
  | rd r=>cases r
  | rf hu' hv hr=>
    obtain ⟨g1,g2⟩:=hr o ho;rcases g2 with ⟨rfl,a,rfl⟩|⟨β,b,cap,c,e',fz,k1,k2,rfl,k4,k5⟩
    ·have hl0:l=0:=(by omega);have hh0:h=0:=(by omega);subst hl0;subst hh0;refine ⟨_,.rf id (off+(0:Int).toNat) ((0:Int).toNat-(0:Int).toNat),sl (Nat.le_refl 0),.rf hu' ⟨_,_,rfl,λ_=>rfl⟩ λo' ho'=>?_,by simpa [cutA,ht,sTK] using hc⟩;rw[ho] at ho';cases ho';exact ⟨by simpa using g1,.inl ⟨rfl,a,by simp⟩⟩
    ·obtain ⟨_,_,hc⟩:=sTK_spec hc;refine ⟨_,_,sl k4,.rf hu' ⟨_,_,rfl,?_⟩ λo' ho'=>?_,hc⟩
     ·intro hn;split at hn<;>simp at hn
     ·rw[ho] at ho';cases ho';simp only[Int.toNat_natCast];refine ⟨by omega,?_⟩;by_cases hcl:cap=l
      ·left;exact ⟨by omega,_,by rw[if_pos hcl,show h-l=0 by omega,show cap-l=0 by omega]⟩
      ·right
       refine ⟨β,b,cap-l,c,e',fz,k1,k2,?_,by omega,?_⟩
       ·rw[if_neg hcl];simp only[Option.map_some,add_at];rw[<- hsz,Nat.add_assoc b,<- Nat.add_mul]
       ·rw[show off+l+(cap-l)=off+cap by omega];exact k5
 ·obtain ⟨l,h,h1,h2,_,⟨ht,hc⟩,hl,hh⟩:=fin s.size hk;have hu:=hT.kinds t;rw[ht] at hu;simp only[KOk] at hu;rw[inv_pr r];refine ⟨_,_,?_,.rd (.pr _ rfl),hc⟩;simp[Instr.sliceAt,Instr.slice,run_underlying hu,run_sliceBounds (P:=P) (w:=w) (isS:=false) hl hh h1 h2]
structure Row (R:Value->AV->Prop) (sz:Nat) (es:List (List AV)) (arr:Array Value):Prop where
 size:arr.size=es.length*sz
 one:∀k,k<arr.size->(arr.getD k undef).oneCell'=true
 el:∀x∈es,x.length=sz
 cell:∀i j av,cellAt es i j=some av->R (arr.getD (i*sz+j) undef) av
def appSrc (objs:Nat->Option Ob) (sz:Nat):AV->(List (List AV)->Prop)->Prop
 | .nl,K=>K []
 | .im s es,K=>s=sz/\K es
 | .rf id off len,K=>OB (objs id) λo=>o.sz=sz/\K ((o.es.drop off).take len)
 | _,_=>False
@[congr] theorem appSrc_congr {objs:Nat->Option Ob} {sz sz':Nat} {x y:AV} {K:List (List AV)->Prop} {p00:Prop} (_h00:(True/\True)=p00) (h:x=y) (h2:sz=sz'):appSrc objs sz x K=appSrc objs sz' y K:=by rw[h,h2]
theorem cellAt_lt {es:List (List AV)} {sz i j:Nat} {av:AV} (hsz:∀x∈es,x.length=sz) (h:cellAt es i j=some av):i<es.length/\j<sz:=by
 unfold cellAt at h;cases he:es[i]? with
 | none=>rw[he] at h;cases h
 | some x=>
   rw[he] at h;refine ⟨(List.getElem?_eq_some_iff.1 he).1,?_⟩;have:=(List.getElem?_eq_some_iff.1 h).1
   rwa [hsz x (List.mem_of_getElem? he)] at this
theorem cellAt_some {es:List (List AV)} {sz i j:Nat} (hsz:∀x∈es,x.length=sz) (hi:i<es.length) (hj:j<sz):∃av,cellAt es i j=some av:=by
 have h1:es[i]?=some es[i]:=List.getElem?_eq_getElem hi;have h2:j<es[i].length:=by rw[hsz _ (List.getElem_mem hi)];exact hj
 exact ⟨es[i][j],by simp[cellAt,h1,h2]⟩
theorem run_loadRow {β b sz:Nat} {es:List (List AV)} {R:Value->AV->Prop} (hpos:0<sz) (hsz:∀x∈es,x.length=sz)
 (hc:∀i j av,cellAt es i j=some av->∃v,w.cell? ⟨β,b+i*sz+j,none⟩=some v/\v.oneCell'=true/\R v av) :
 ∃arr,(∀w':World,w'.heap=w.heap->(loadCells ⟨β,b,none⟩ (es.length*sz)).run P w'=.ok arr w')/\Row R sz es arr:=by
 have hk:∀k,k<es.length*sz->∃v,w.cell? ⟨β,b+k,none⟩=some v/\v.oneCell'=true:=by
  intro k hk;have hi:k / sz<es.length:=by rw[Nat.div_lt_iff_lt_mul hpos];exact hk
  have hj:k%sz<sz:=Nat.mod_lt _ hpos;obtain ⟨av,hav⟩:=cellAt_some hsz hi hj;obtain ⟨v,h1,h2,_⟩:=hc _ _ _ hav;refine ⟨v,?_,h2⟩;have:b+k / sz*sz+k%sz=b+k:=by have:=Nat.div_add_mod k sz;rw[Nat.mul_comm] at this;omega
  rwa [this] at h1
 refine ⟨((List.range (es.length*sz)).map λj=>(w.cell? ⟨β,b+j,none⟩).getD undef).toArray,?_,⟨by simp,?_,hsz,?_⟩⟩
 ·exact λw' hw'=>run_loadCells w' _ _ _ λj hj=>by obtain ⟨v,h1,_⟩:=hk j hj;have:w'.cell? ⟨β,b+j,none⟩=w.cell? ⟨β,b+j,none⟩:=(by simp[World.cell?,hw']);rw[add_at,this,h1];rfl
 ·intro k hk';simp at hk';obtain ⟨v,h1,h2⟩:=hk k hk';simp[hk',h1,h2]
 ·intro i j av hij;obtain ⟨hi,hj⟩:=cellAt_lt hsz hij;obtain ⟨v,h1,h2,h3⟩:=hc i j av hij;have hlt:i*sz+j<es.length*sz:=by
   have:(i+1)*sz<=es.length*sz:=Nat.mul_le_mul_right _ hi;rw[Nat.add_mul] at this;omega
  rw[Nat.add_assoc] at h1;simp[hlt,h1,h3]
theorem appSrc_spec (H:RepH F φ st.objs (·∈st.used) w) {sz:Nat} (hpos:0<sz) {x:AV} {v:Value} {K:List (List AV)->Prop} (hk:appSrc st.objs sz x K) (r:RV F φ st w v x) :
 ∃es arr a cap,K es/\v=.slice a es.length cap/\(∀w':World,w'.heap=w.heap->(Builtin.firstCells sz es.length v).run P w'=.ok arr w')/\Row (RV F φ st w) sz es arr:=by
 have empty:Row (RV F φ st w) sz [] #[]:=⟨by simp,by simp,by simp,λi j av h=>by simp[cellAt] at h⟩;unfold appSrc at hk;split at hk
 ·cases r with|rd r=>
  cases r;exact ⟨[],#[],none,0,hk,rfl,by intro w' _;simp[Builtin.firstCells],empty⟩
 ·obtain ⟨rfl,hk⟩:=hk;rcases inv_im r with ⟨rfl,a,cap,rfl⟩|⟨β,o,cap,c,e',fz,vs,rfl,hS,hb,hcap,hszs,hcc,hr⟩
  ·refine ⟨[],#[],a,cap,hk,rfl,?_,empty⟩;intro w' _;cases a<;>simp[Builtin.firstCells,loadCells,loadCellsFrom]
  ·obtain ⟨arr,h1,h2⟩:=run_loadRow (P:=P) (w:=w) (β:=β) (b:=o) (R:=RV F φ st w) hpos hszs (λi j av hij=>⟨vs i j,by rw[cell_at hb];exact hcc i j av hij,(hr i j av hij).one,.rd (hr i j av hij)⟩);exact ⟨_,arr,_,cap,hk,rfl,by simpa [Builtin.firstCells] using h1,h2⟩
 ·rename_i id off len;obtain ⟨o,ho,rfl,hk⟩:=hk;cases r with
  | rd r=>cases r
  | rf hu' hv hr=>
    obtain ⟨g1,g2⟩:=hr o ho;have hl:((o.es.drop off).take len).length=len:=by simp;omega
    rcases g2 with ⟨rfl,a,rfl⟩|⟨β,b,cap,c,e',fz,k1,k2,rfl,k4,k5⟩
    ·refine ⟨_,#[],a,0,hk,by rw[hl],?_,by simpa using empty⟩;rw[hl];intro w' _;cases a<;>simp[Builtin.firstCells,loadCells,loadCellsFrom]
    ·obtain ⟨hel,c',e'',fz',hb,hsoft,hfit,hcc⟩:=ob_at H ho k1
     obtain ⟨arr,h1,h2⟩:=run_loadRow (P:=P) (w:=w) (β:=β) (b:=b+off*o.sz) (R:=RV F φ st w) hpos (es:=(o.es.drop off).take len) (λx hx=>hel x (List.mem_of_mem_drop (List.mem_of_mem_take hx)))
      (λi j av hij=>by
       have hij':cellAt o.es (off+i) j=some av:=by
        simp only[cellAt,List.getElem?_take,List.getElem?_drop] at hij ⊢;split at hij
        ·exact hij
        ·cases hij
       obtain ⟨v,m1,m2,m3⟩:=hcc _ _ _ hij';refine ⟨v,?_,m2,m3⟩;rw[cell_at hb,Nat.add_assoc b,<- Nat.add_mul];exact m1)
     exact ⟨_,arr,_,cap,hk,by rw[hl],by simpa [Builtin.firstCells] using h1,h2⟩
 ·exact hk.elim
def isSl:TK->Prop
 | .slice _=>True
 | _=>False
def appDst (st:St) (d sz:Nat):AV->List (List AV)->(St->Prop)->Prop
 | .nl,new,K=>(d∉st.used/\new.length<=1073741824)/\K {regs:=upd st.regs d (.rf d 0 new.length),objs:=upd st.objs d (some ⟨sz,new⟩),used:=d::st.used}
 | .rf id off len,new,K=>OB (st.objs id) λo=>(o.sz=sz/\d∉st.used/\len+new.length<=1073741824) /\
  K {regs:=upd st.regs d (.rf d 0 (len+new.length)),objs:=upd (upd st.objs id none) d (some ⟨sz,(o.es.drop off).take len++new⟩),used:=d::st.used}
 | _,_,_=>False
@[congr] theorem appDst_congr {st:St} {d sz sz':Nat} {x y:AV} {l l':List (List AV)} {K:St->Prop} {p00:Prop} (_h00:(True/\True)=p00) (h:x=y) (h2:sz=sz') (h3:l=l'):appDst st d sz x l K=appDst st d sz' y l' K:=by rw[h,h2,h3]
theorem zeroCells_size (z:Array Value) (n:Nat):(Builtin.zeroCells z n).size=n*z.size:=by simp[Builtin.zeroCells]
theorem run_append (hT:TabOk P T) {t1 t2 e:Nat} {ty:TypeId} (h1:(T t1).k=.slice e) (he:(T e).k.known=true) (h2:isSl (T t2).k) {base a:Option Addr} {len cap n cap2:Nat} {new old:Array Value}
 (hlen:len+n<=1073741824) (hnew:∀w':World,w'.heap=w.heap->(Builtin.firstCells (T e).size n (.slice a n cap2)).run P w'=.ok new w')
 (hold:∀w':World,w'.heap=w.heap->(Builtin.firstCells (T e).size len (.slice base len cap)).run P w'=.ok old w') :
 (len+n<=cap/\((Builtin.append_ #[t1,t2] ty #[.slice base len cap,.slice a n cap2]).run P w=((match base with|some b=>storeCells (b.add (len*(T e).size)) new.toList|none=>pure ()).run P w).andThen λ_ w'=>.ok (.slice base (len+n) cap) w')) \/
 (cap<len+n/\∃newCap rest,len+n<=newCap/\rest.size=(newCap-(len+n))*(T e).size/\(Builtin.append_ #[t1,t2] ty #[.slice base len cap,.slice a n cap2]).run P w =
  .ok (.slice (some ⟨w.heap.size,0,none⟩) (len+n) newCap) {w with drawn:=w.drawn+1,heap:=w.heap.push (.cells (old++new++rest) e (0,0))}):=by
 obtain ⟨i,z,hi⟩:=hT.infos e he;have hu:=hT.kinds t1;rw[h1] at hu;simp only[KOk] at hu;have hu2:∃e2,P.underlying t2=some (.slice e2):=by
  have h:=hT.kinds t2;generalize (T t2).k=k at h h2;cases k with
  | slice e2=>exact ⟨e2,h⟩
  | _=>exact False.elim h2
 obtain ⟨e2,hu2⟩:=hu2;by_cases hc:len+n<=cap
 ·refine .inl ⟨hc,?_⟩;cases base with
  | none=>simp[Builtin.append_,run_underlying hu,run_underlying hu2,run_sizeOf_tab hT he,Builtin.lenOf,hc,hnew w rfl]
  | some b=>simp[Builtin.append_,run_underlying hu,run_underlying hu2,run_sizeOf_tab hT he,Builtin.lenOf,hc,hnew w rfl]
 ·refine .inr ⟨by omega,?_⟩;have hb:¬(i.bytes=0):=by rw[hi.bytes];have:=hi.b0;omega
  have hnx:¬(281474976710656<Builtin.nextslicecap (len+n) cap*i.bytes):=by
   have h3:=nextslicecap_le (need:=len+n) (old:=cap) (by omega);have h4:i.bytes<=4096:=by rw[hi.bytes];exact hi.b1
   have:=Nat.mul_le_mul h3 h4;omega
  refine ⟨(Question.appendCap (len+n) cap e).cut (w.tape w.drawn (Question.appendCap (len+n) cap e)),Builtin.zeroCells z.cells ((Question.appendCap (len+n) cap e).cut (w.tape w.drawn (Question.appendCap (len+n) cap e))-(len+n)),?_,?_,?_⟩
  ·simp[Question.cut]
  ·rw[zeroCells_size];congr 1;have h1:=hi.zl;have h2:=hi.zc;rw[<- h1,<- h2];simp
  ·have h1:=hold w.drew rfl;have h2:=hnew w.drew rfl;simp[Builtin.append_,run_underlying hu,run_underlying hu2,run_sizeOf_tab hT he,Builtin.lenOf,hc,typeInfo,hi.info,hb,hnx,zeroValue,hi.zero,Question.forced,h1,h2,newRow];rfl
theorem Rep.virt (H:RepH F φ st.objs (·∈st.used) w) {d sz:Nat} (hd:d∉st.used) :
 Goes φ (upd φ d none) st.objs (upd st.objs d (some ⟨sz,[]⟩)) (·∈st.used) (·∈d::st.used) w w/\RepH F (upd φ d none) (upd st.objs d (some ⟨sz,[]⟩)) (·∈d::st.used) w:=by
 have G:Goes φ (upd φ d none) st.objs (upd st.objs d (some ⟨sz,[]⟩)) (·∈st.used) (·∈d::st.used) w w:=by
  refine ⟨λi hi=>List.mem_cons_of_mem _ hi,?_,λ_ _ _=>rfl,?_,Nat.le_refl _⟩
  ·intro i hi o' ho';have hdi:d≠i:=λe=>hd (e▸hi);rw[upd_ne' _ _ hdi] at ho';exact ⟨o',ho',upd_ne' _ _ hdi,rfl,Nat.le_refl _,λβ b c' e' fz hφ hb=>⟨c',e',fz,hb,rfl⟩⟩
  ·intro i o' β b ho' hφ';by_cases hdi:d=i
   ·subst hdi;rw[upd_eq] at hφ';cases hφ'
   ·rw[upd_ne' _ _ hdi] at ho' hφ';exact .inl ⟨i,o',b,ho',hφ'⟩
 refine ⟨G,G.repH H ?_ ?_ ?_ rfl rfl rfl⟩
 ·intro i j oi oj β bi bj hi hj pi pj;by_cases hdi:d=i
  ·subst hdi;rw[upd_eq] at pi;cases pi
  ·by_cases hdj:d=j
   ·subst hdj;rw[upd_eq] at pj;cases pj
   ·rw[upd_ne' _ _ hdi] at hi pi;rw[upd_ne' _ _ hdj] at hj pj;exact H.inj i j oi oj β bi bj hi hj pi pj
 ·intro i o' ho';by_cases hdi:d=i
  ·subst hdi;exact List.mem_cons_self
  ·rw[upd_ne' _ _ hdi] at ho';exact List.mem_cons_of_mem _ (H.inU i o' ho')
 ·intro i o' ho';by_cases hdi:d=i
  ·subst hdi;rw[upd_eq] at ho';cases ho';exact ⟨by simp,.inl ⟨upd_eq _ _ _,rfl⟩⟩
  ·rw[upd_ne' _ _ hdi] at ho';exact (H.ob i o' ho').mono (upd_ne' _ _ hdi) (λβ b hφ=>rfl) (λv av r=>G.repV r)
theorem Row.lt {R:Value->AV->Prop} {sz:Nat} {es:List (List AV)} {arr:Array Value} (r:Row R sz es arr) {i j:Nat} {av:AV} (h:cellAt es i j=some av):i*sz+j<arr.size:=by obtain ⟨hi,hj⟩:=cellAt_lt r.el h;rw[r.size];have:(i+1)*sz<=es.length*sz:=Nat.mul_le_mul_right _ hi;rw[Nat.add_mul] at this;omega
theorem Row.append {R:Value->AV->Prop} {sz:Nat} {es es':List (List AV)} {arr arr':Array Value} (r:Row R sz es arr) (r':Row R sz es' arr'):Row R sz (es++es') (arr++arr'):=by
 refine ⟨by simp[r.size,r'.size,Nat.add_mul],?_,?_,?_⟩
 ·intro k hk;simp only[Array.getD_eq_getD_getElem?,Array.getElem?_append];split
  ·rename_i h;have:=r.one k h;simpa [Array.getD_eq_getD_getElem?] using this
  ·rename_i h;have:=r'.one (k-arr.size) (by simp at hk;omega);simpa [Array.getD_eq_getD_getElem?] using this
 ·intro x hx;rcases List.mem_append.1 hx with h|h
  ·exact r.el x h
  ·exact r'.el x h
 ·intro i j av hij;by_cases hi:i<es.length
  ·have hij':cellAt es i j=some av:=(by simpa [cellAt,List.getElem?_append,hi] using hij);have hl:=r.lt hij';have:=r.cell i j av hij';simpa [Array.getD_eq_getD_getElem?,Array.getElem?_append,hl] using this
  ·have hij':cellAt es' (i-es.length) j=some av:=(by simpa [cellAt,List.getElem?_append,hi] using hij);have hl:=r'.lt hij';have:=r'.cell _ j av hij';have hm:es.length*sz+(i-es.length)*sz=i*sz:=by rw[<- Nat.add_mul];congr 1;omega
   have h1:¬i*sz+j<arr.size:=by rw[r.size];omega
   have h2:i*sz+j-arr.size=(i-es.length)*sz+j:=by rw[r.size];omega
   simpa [Array.getD_eq_getD_getElem?,Array.getElem?_append,h1,h2] using this
theorem Row.get {R:Value->AV->Prop} {sz:Nat} {es:List (List AV)} {arr:Array Value} (r:Row R sz es arr) {i j:Nat} {av:AV} (h:cellAt es i j=some av) :
 ∃v,arr[i*sz+j]?=some v/\v.oneCell'=true/\R v av:=by
 have hl:=r.lt h;refine ⟨arr.getD (i*sz+j) undef,by simp[hl],r.one _ hl,r.cell i j av h⟩
theorem hApp_goes (hT:TabOk P T) (hE:∀t e,(T t).k=.slice e->(T e).k.known=true) (H:RepH F φ st.objs (·∈st.used) w)
 {t1 t2 e d:Nat} {ty:TypeId} (ht1:(T t1).k=.slice e) (ht2:isSl (T t2).k) {x y:AV} {v u:Value} {K:St->Prop}
 (hk:appSrc st.objs (T e).size y λnew=>appDst st d (T e).size x new K) (rx:RV F φ st w v x) (ry:RV F φ st w u y) :
 ∃(r:Value) (av:AV) (φ':Nat->Option (Nat×Nat)) (objs':Nat->Option Ob) (w':World),(Builtin.append_ #[t1,t2] ty #[v,u]).run P w=.ok r w'/\K {regs:=upd st.regs d av,objs:=objs',used:=d::st.used} /\
  Goes φ φ' st.objs objs' (·∈st.used) (·∈d::st.used) w w'/\RepH F φ' objs' (·∈d::st.used) w'/\RepV φ' objs' (·∈d::st.used) w'.heap (SS F φ' objs' w') r av:=by
 have he:=hE t1 e ht1;have hpos:=known_of_size hT he;obtain ⟨new,arr,a,cap2,hk,rfl,hnew,rnew⟩:=appSrc_spec (P:=P) H hpos hk ry;have newSize:arr.size=new.length*(T e).size:=rnew.size;cases x with
 | nl=>
   obtain ⟨⟨hd,hlen⟩,hk⟩:=hk;cases rx with|rd rx=>
   cases rx;rcases run_append (P:=P) hT (ty:=ty) ht1 he ht2 (base:=none) (len:=0) (cap:=0) (old:=#[]) (by omega) hnew (λw' _=>by simp[Builtin.firstCells]) with ⟨h1,h2⟩|⟨h1,newCap,rest,h2,h3,h4⟩
   ·-- nothing is appended to nil
    have hn0:new.length=0:=(by omega);have hnil:new=[]:=List.length_eq_zero_iff.1 hn0;subst hnil;obtain ⟨G,H'⟩:=Rep.virt (sz:=(T e).size) H hd;refine ⟨_,_,_,_,w,by rw[h2];rfl,hk,G,H',.rf List.mem_cons_self ⟨none,0,rfl,λ_=>rfl⟩ λo' ho'=>?_⟩;exact ⟨by simp,.inl ⟨rfl,none,rfl⟩⟩
   ·refine ⟨_,_,upd φ d (some (w.heap.size,0)),_,_,h4,hk,?_⟩;obtain ⟨G,H'⟩:=Rep.new (o:=⟨(T e).size,new⟩) (c:=#[]++arr++rest) (e:=e) (w':={w with drawn:=w.drawn+1,heap:=w.heap.push (.cells (#[]++arr++rest) e (0,0))}) H hd rnew.el (by simp[newSize]) (λi j av hij=>by
     obtain ⟨v,g1,g2,g3⟩:=rnew.get hij;refine ⟨v,?_,g2,g3⟩;have hl:=rnew.lt hij;simp only[Array.empty_append,Array.getElem?_append,hl,if_true];exact g1) rfl rfl rfl rfl
    refine ⟨G,H',?_⟩;rw[Nat.zero_add];refine .rf List.mem_cons_self ⟨_,_,rfl,by simp⟩ λo' ho'=>?_;rw[upd_eq] at ho';cases ho';refine ⟨by simp,.inr ⟨w.heap.size,0,newCap,#[]++arr++rest,e,(0,0),upd_eq _ _ _,Array.getElem?_push_size,by simp,by omega,?_⟩⟩;simp only[Array.size_append,newSize,h3,Nat.zero_add,Array.size_empty,<- Nat.add_mul];exact Nat.mul_le_mul_right _ (by omega)
 | rf id off len=>
   obtain ⟨o,ho,⟨hsz,hd,hlen⟩,hk⟩:=hk;have src:=appSrc_spec (P:=P) (x:=.rf id off len) (K:=λes=>es=(o.es.drop off).take len) H hpos ⟨o,ho,hsz,rfl⟩ rx;obtain ⟨old,oarr,base,cap,rfl,hv,hold,rold⟩:=src;have rx':=rx;cases rx with
   | rd r=>cases r
   | rf hu' hv' hr=>
   obtain ⟨g1,g2⟩:=hr o ho;have hl:((o.es.drop off).take len).length=len:=by simp;omega
   rw[hl] at hold hv;subst hv;have hdid:d≠id:=λe=>hd (e▸hu');have rall:=rold.append rnew;rcases run_append (P:=P) hT (ty:=ty) ht1 he ht2 (base:=base) (len:=len) (cap:=cap) hlen hnew hold with ⟨h1,h2⟩|⟨h1,newCap,rest,h2,h3,h4⟩
   ·rcases g2 with ⟨rfl,a',hva⟩|⟨β,b,cap',c,e',fz,k1,k2,hva,k4,k5⟩
    ·-- no room, nothing appended
     cases hva;have hn0:new.length=0:=(by omega);have hnil:new=[]:=List.length_eq_zero_iff.1 hn0;have harr:arr.toList=[]:=by have:arr.size=0:=(by rw[newSize,hn0,Nat.zero_mul]);simpa using this
     subst hnil;have hrun:(Builtin.append_ #[t1,t2] ty #[.slice base 0 0,.slice a ([]:List (List AV)).length cap2]).run P w=.ok (.slice base 0 0) w:=by rw[h2,harr];cases base<;>simp[storeCells]
     obtain ⟨G,H'⟩:=Rep.move (o':=⟨(T e).size,(o.es.drop off).take 0++[]⟩) (p:=none) (w':=w) H ho hd (λ_ _ _=>rfl) (Nat.le_refl _) (λγ b h=>by cases h)
      (λ_=>⟨by simp,.inl ⟨upd_eq _ _ _,by simp⟩⟩) rfl rfl rfl
     refine ⟨_,_,_,_,w,hrun,hk,G,H',.rf List.mem_cons_self ⟨base,0,rfl,λ_=>rfl⟩ λo' ho'=>?_⟩;rw[upd_eq] at ho';cases ho';exact ⟨by simp,.inl ⟨rfl,base,rfl⟩⟩
    ·cases hva;obtain ⟨hel,c',e'',fz',hb,hsoft,hfit,hcc⟩:=ob_at H ho k1;rw[k2] at hb;cases hb;have hfitA:b+off*o.sz+len*(T e).size+arr.toList.length<=c.size:=by
      have:(off+(len+new.length))*o.sz<=(off+cap)*o.sz:=Nat.mul_le_mul_right _ (by omega);simp only[Nat.add_mul,hsz] at this k5 ⊢;simp only[Array.length_toList,newSize];omega
     have hst:=run_storeCells_blk (P:=P) (b+off*o.sz+len*(T e).size) arr.toList 0 w c k2 hsoft (by simpa using hfitA) (λv hv=>by
      obtain ⟨k,hk,rfl⟩:=List.mem_iff_getElem.1 hv;have:=rnew.one k (by simpa using hk);simp at hk;simpa [hk] using this)
     have hlt:=(Array.getElem?_eq_some_iff.1 k2).1;have hget:=λγ=>setBlk_get (w:=w) (c:=putAt c (b+off*o.sz+len*(T e).size) arr.toList) (e:=e') (fz:=fz) hlt γ
     obtain ⟨G,H'⟩:=Rep.move (o':=⟨(T e).size,(o.es.drop off).take len++new⟩) (p:=some (β,b+off*o.sz)) (w':=World.setBlk w β (putAt c (b+off*o.sz+len*(T e).size) arr.toList) e' fz) H ho hd
      (λγ hγ hno=>by rw[hget,if_neg (λ(h:γ=β)=>hno b (h▸k1))]) (by simp[World.setBlk]) (λγ b' h=>by cases h;exact .inl ⟨b,k1⟩)
      (λhV=>by
       refine ⟨rall.el,.inr ⟨β,b+off*o.sz,putAt c (b+off*o.sz+len*(T e).size) arr.toList,e',fz,upd_eq _ _ _,by rw[hget];simp,λk hk=>hsoft k (by simpa [putAt_len] using hk),?_,λi j av hij=>?_⟩⟩
       ·rw[putAt_len];simp only[List.length_append,hl,Nat.add_mul];simp only[Array.length_toList,newSize] at hfitA;omega
       ·obtain ⟨hi,hj⟩:=cellAt_lt rall.el hij;simp only[List.length_append,hl] at hi;dsimp only at hi hj ⊢;rw[putAt_get _ _ _ _ hfitA];have e1:off*o.sz=off*(T e).size:=(by rw[hsz]);by_cases hil:i<len
        ·have hij':cellAt ((o.es.drop off).take len) i j=some av:=(by simpa [cellAt,List.getElem?_append,hl,hil] using hij);have hij2:cellAt o.es (off+i) j=some av:=by
          simp only[cellAt,List.getElem?_take,hil,if_true,List.getElem?_drop] at hij' ⊢;exact hij'
         obtain ⟨v,m1,m2,m3⟩:=hcc _ _ _ hij2;refine ⟨v,?_,m2,hV v av m3⟩;have:(i+1)*(T e).size<=len*(T e).size:=Nat.mul_le_mul_right _ hil;rw[Nat.add_mul,Nat.one_mul] at this;rw[if_neg (λhh=>by have:=hh.1;omega),e1];rw[hsz,Nat.add_mul,<- Nat.add_assoc] at m1;exact m1
        ·have hij':cellAt new (i-len) j=some av:=(by simpa [cellAt,List.getElem?_append,hl,hil] using hij);obtain ⟨v,m1,m2,m3⟩:=rnew.get hij';refine ⟨v,?_,m2,hV v av m3⟩;have hl':=rnew.lt hij';have hm:len*(T e).size+(i-len)*(T e).size=i*(T e).size:=by rw[<- Nat.add_mul];congr 1;omega
         rw[if_pos (by simp only[Array.length_toList];omega)];rw[show b+off*o.sz+i*(T e).size+j-(b+off*o.sz+len*(T e).size)=(i-len)*(T e).size+j by omega];simpa using m1) rfl rfl rfl
     refine ⟨_,_,_,_,_,?_,hk,G,H',.rf List.mem_cons_self ⟨some ⟨β,b+off*o.sz,none⟩,cap,rfl,λh=>by cases h⟩ λo' ho'=>?_⟩
     ·rw[h2];simp only[add_at,hst,Nat.add_zero,Result.andThen_ok]
     ·rw[upd_eq] at ho';cases ho';refine ⟨by simp[hl],.inr ⟨β,b+off*o.sz,cap,putAt c (b+off*o.sz+len*(T e).size) arr.toList,e',fz,upd_eq _ _ _,by rw[hget];simp,by simp,by omega,?_⟩⟩;rw[putAt_len];simp only[Nat.add_mul,hsz,Nat.zero_add] at k5 ⊢;omega
   ·-- a new block
    obtain ⟨G,H'⟩:=Rep.move (o':=⟨(T e).size,(o.es.drop off).take len++new⟩) (p:=some (w.heap.size,0)) (w':={w with drawn:=w.drawn+1,heap:=w.heap.push (.cells (oarr++arr++rest) e (0,0))}) H ho hd
     (λγ hγ hno=>by simp only[Array.getElem?_push,if_neg (by omega:¬γ=w.heap.size)]) (by simp) (λγ b' h=>by cases h;exact .inr (Nat.le_refl _))
     (λhV=>by
      refine ⟨rall.el,.inr ⟨w.heap.size,0,oarr++arr++rest,e,(0,0),upd_eq _ _ _,Array.getElem?_push_size,λk _ h=>by simp at h,?_,λi j av hij=>?_⟩⟩
      ·have:=rall.size;simp only[Nat.zero_add,Array.size_append] at this ⊢;omega
      ·obtain ⟨v,m1,m2,m3⟩:=rall.get hij;have hl':=rall.lt hij;refine ⟨v,?_,m2,hV v av m3⟩;rw[Nat.zero_add,Array.getElem?_append,if_pos hl'];exact m1) rfl rfl rfl
    refine ⟨_,_,_,_,_,h4,hk,G,H',.rf List.mem_cons_self ⟨some ⟨w.heap.size,0,none⟩,newCap,rfl,λh=>by cases h⟩ λo' ho'=>?_⟩;rw[upd_eq] at ho';cases ho';refine ⟨by simp[hl],.inr ⟨w.heap.size,0,newCap,oarr++arr++rest,e,(0,0),upd_eq _ _ _,Array.getElem?_push_size,by simp,h2,?_⟩⟩;have:=rall.size;simp only[List.length_append,hl,Array.size_append] at this;simp only[Array.size_append,h3,this,Nat.zero_add,<- Nat.add_mul];exact Nat.mul_le_mul_right _ (by omega)
 | _=>exact False.elim hk
end
end Go.Vc
namespace Go.Vc
def newBox (st:St) (d:Option Nat) (cs:List AV) (K:St->Prop):Prop:=
 match d with
 | some d=>d∉st.used/\K {regs:=upd st.regs d (.pt d 0 0),objs:=upd st.objs d (some ⟨cs.length,[cs]⟩),used:=d::st.used}
 | none=>False
@[congr] theorem newBox_congr {st:St} {d:Option Nat} {x y:List AV} {K:St->Prop} {p00:Prop} (_h00:(True/\True)=p00) (h:x=y):newBox st d x K=newBox st d y K:=by rw[h]
def newArr (st:St) (d:Option Nat) (sz:Nat) (es:List (List AV)) (K:St->Prop):Prop:=
 match d with
 | some d=>d∉st.used/\K {regs:=upd st.regs d (.rf d 0 es.length),objs:=upd st.objs d (some ⟨sz,es⟩),used:=d::st.used}
 | none=>False
@[congr] theorem newArr_congr {st:St} {d:Option Nat} {sz sz':Nat} {x y:List (List AV)} {K:St->Prop} {p00:Prop} (_h00:(True/\True)=p00) (h:x=y) (h2:sz=sz'):newArr st d sz x K=newArr st d sz' y K:=by rw[h,h2]
def fill (fs:List (Nat×Nat)) (cs:List AV):List (Nat×AV)->(List AV->Prop)->Prop
 | [],K=>K cs
 | (i,v)::r,K=>cellsOf v λnew=>fAt fs i λo n=>(new.length=n/\o+n<=cs.length)/\fill fs (splice cs o new) r K
@[congr] theorem fill_congr {fs fs':List (Nat×Nat)} {x y:List AV} {p p':List (Nat×AV)} {K:List AV->Prop} {p00:Prop} (_h00:(True/\True)=p00) (h:fs=fs') (h1:x=y) (h2:p=p'):fill fs x p K=fill fs' y p' K:=by rw[h,h1,h2]
def hBuild (k:TK) (zero:List AV) (ps:List (Nat×AV)) (K:AV->Prop):Prop:=
 match k with
 | .struct fs=>fill fs zero ps λcs=>K (.ag cs)
 | .arr fs _=>fill fs zero ps λcs=>K (.ag cs)
 | _=>False
@[congr] theorem hBuild_congr {k k':TK} {x y:List AV} {p p':List (Nat×AV)} {K:AV->Prop} {p00:Prop} (_h00:(True/\True)=p00) (h:k=k') (h1:x=y) (h2:p=p'):hBuild k x p K=hBuild k' y p' K:=by rw[h,h1,h2]
def lit (sz:Nat):Nat->List (Nat×AV)->(List (List AV)->Prop)->Prop
 | _,[],K=>K []
 | n,(i,v)::r,K=>i=n/\cellsOf v λcs=>cs.length=sz/\lit sz (n+1) r λes=>K (cs::es)
@[congr] theorem lit_congr {sz sz' n n':Nat} {p p':List (Nat×AV)} {K:List (List AV)->Prop} {p00:Prop} (_h00:(True/\True)=p00) (h:sz=sz') (h1:n=n') (h2:p=p'):lit sz n p K=lit sz' n' p' K:=by rw[h,h1,h2]
section
variable {P:Program} {T:Nat->TI} {F:Fr} {φ:Nat->Option (Nat×Nat)} {st:St} {w:World}
def Makes (F:Fr) (φ:Nat->Option (Nat×Nat)) (st:St) (w w':World) (d:Nat) (r:Value) (av:AV) (o:Ob):Prop:=
 ∃φ',Goes φ φ' st.objs (upd st.objs d (some o)) (·∈st.used) (·∈d::st.used) w w'/\RepH F φ' (upd st.objs d (some o)) (·∈d::st.used) w' /\
  RepV φ' (upd st.objs d (some o)) (·∈d::st.used) w'.heap (SS F φ' (upd st.objs d (some o)) w') r av
theorem makes_box (H:RepH F φ st.objs (·∈st.used) w) {d:Nat} (hd:d∉st.used) {cs:List AV} {arr:Array Value} {e:TypeId} (hs:arr.size=cs.length)
 (hc:∀(j:Nat) (av:AV),cs[j]?=some av->∃u:Value,arr[j]?=some u/\u.oneCell'=true/\RV F φ st w u av) :
 Makes F φ st w {w with heap:=w.heap.push (.cells arr e (0,0))} d (.pointer (some ⟨w.heap.size,0,none⟩)) (.pt d 0 0) ⟨cs.length,[cs]⟩:=by
 obtain ⟨G,H'⟩:=Rep.new (o:=⟨cs.length,[cs]⟩) (c:=arr) (e:=e) (w':={w with heap:=w.heap.push (.cells arr e (0,0))}) H hd (by simp) (by simp[hs]) (λi j av hij=>by
  cases i with
  | zero=>simp only[cellAt,List.getElem?_cons_zero,Option.bind_some] at hij;simpa using hc j av hij
  | succ i=>simp[cellAt] at hij) rfl rfl rfl rfl
 refine ⟨_,G,H',.pt List.mem_cons_self ⟨_,rfl⟩ λo ho=>?_⟩;rw[upd_eq] at ho;cases ho;exact ⟨w.heap.size,0,upd_eq _ _ _,by simp⟩
theorem makes_arr (H:RepH F φ st.objs (·∈st.used) w) {d sz cap:Nat} (hd:d∉st.used) {es:List (List AV)} {arr:Array Value} {e:TypeId} (hr:Row (RV F φ st w) sz es arr) (hcap:cap=es.length) :
 Makes F φ st w {w with heap:=w.heap.push (.cells arr e (0,0))} d (.slice (some ⟨w.heap.size,0,none⟩) es.length cap) (.rf d 0 es.length) ⟨sz,es⟩:=by
 obtain ⟨G,H'⟩:=Rep.new (o:=⟨sz,es⟩) (c:=arr) (e:=e) (w':={w with heap:=w.heap.push (.cells arr e (0,0))}) H hd hr.el (by simp[hr.size]) (λi j av hij=>hr.get hij) rfl rfl rfl rfl;refine ⟨_,G,H',.rf List.mem_cons_self ⟨_,_,rfl,by simp⟩ λo ho=>?_⟩;rw[upd_eq] at ho;cases ho;exact ⟨by simp,.inr ⟨w.heap.size,0,cap,arr,e,(0,0),upd_eq _ _ _,Array.getElem?_push_size,by simp,by omega,by simp[hr.size,hcap]⟩⟩
theorem box_makes (H:RepH F φ st.objs (·∈st.used) w) {t d:Nat} (hd:d∉st.used) {x:AV} {v:Value} {K:List AV->Prop} (hk:cellsOf x K) (r:RV F φ st w v x) :
 ∃cs u w',K cs/\(Instr.box t v).run P w=.ok u w'/\Makes F φ st w w' d u (.pt d 0 0) ⟨cs.length,[cs]⟩:=by
 obtain ⟨cs,hk,h1,h2,h3⟩:=cellsOf_spec hk r;exact ⟨cs,_,_,hk,by simp only[Instr.box,newVar,newRow,Sem.run_bind,run_newObj,Result.andThen_ok,Sem.run_pure],makes_box (e:=t) H hd h1 h3⟩
theorem zero_cells (hT:TabOk P T) {t:Nat} (hk:(T t).k.known=true):∃z,(zeroValue t).run P w=.ok z w/\z.cells.size=(T t).zero.length/\(T t).zero.length=(T t).size /\
 ∀(j:Nat) (av:AV),(T t).zero[j]?=some av->∃u:Value,z.cells[j]?=some u/\u.oneCell'=true/\RV F φ st w u av:=by
 obtain ⟨i,z,h⟩:=hT.infos t hk;refine ⟨z,by simp[zeroValue,typeInfo,h.info,h.zero],by rw[<- h.zc];simp,h.zl,λj av hj=>?_⟩;rw[<- h.zc,List.getElem?_map] at hj;cases hz:z.cells.toList[j]? with
 | none=>rw[hz] at hj;cases hj
 | some u=>
   rw[hz] at hj;cases hj;exact ⟨u,by simpa using hz,h.one u (List.mem_of_getElem? hz),rv_cAV u⟩
theorem alloc_makes (hT:TabOk P T) (H:RepH F φ st.objs (·∈st.used) w) {t d:Nat} (hk:(T t).k.known=true) (hd:d∉st.used) :
 ∃u w',(Instr.alloc t true (.tuple #[])).run P w=.ok u w'/\Makes F φ st w w' d u (.pt d 0 0) ⟨(T t).zero.length,[(T t).zero]⟩:=by
 obtain ⟨z,h1,h2,_,h3⟩:=zero_cells (P:=P) (F:=F) (φ:=φ) (st:=st) (w:=w) hT hk;exact ⟨_,_,by simp only[Instr.alloc,Sem.run_bind,h1,Result.andThen_ok,newVar,newRow,run_newObj,Sem.run_pure],makes_box (e:=t) H hd h2 h3⟩
theorem zeros_row (hT:TabOk P T) {t:Nat} (hk:(T t).k.known=true) {n:Nat} {z:Value} (h2:z.cells.size=(T t).size) (h3:∀(j:Nat) (av:AV),(T t).zero[j]?=some av->∃u:Value,z.cells[j]?=some u/\u.oneCell'=true/\RV F φ st w u av)
 (hz:(T t).zero.length=(T t).size):Row (RV F φ st w) (T t).size (List.replicate n (T t).zero) ((Array.range (n*(T t).size)).map (z.cells[·%z.cells.size]!)):=by
 have hpos:=known_of_size hT hk;have hel:∀x∈List.replicate n (T t).zero,x.length=(T t).size:=λx hx=>by rw[(List.mem_replicate.1 hx).2,hz]
 have key:∀k,k<n*(T t).size->∃u,z.cells[k%(T t).size]?=some u/\u.oneCell'=true/\((Array.range (n*(T t).size)).map (z.cells[·%z.cells.size]!)).getD k undef=u:=by
  intro k hk;have hm:=Nat.mod_lt k hpos;obtain ⟨u,g1,g2,_⟩:=h3 (k%(T t).size) _ (List.getElem?_eq_getElem (by rw[hz];exact hm));refine ⟨u,g1,g2,?_⟩;have hm':k%(T t).size<z.cells.size:=by rw[h2];exact hm
  rw[h2];simp only[Array.getD_eq_getD_getElem?,Array.getElem?_map,Array.getElem?_range,hk,if_true,Option.map_some,Option.getD_some];rw[getElem!_pos z.cells _ hm'];rw[Array.getElem?_eq_getElem hm'] at g1;exact Option.some.inj g1
 refine ⟨by simp,?_,hel,?_⟩
 ·intro k hk';simp at hk';obtain ⟨u,_,g2,g3⟩:=key k hk';rw[g3];exact g2
 ·intro i j av hij;obtain ⟨hi,hj⟩:=cellAt_lt hel hij;simp only[List.length_replicate] at hi;have hlt:i*(T t).size+j<n*(T t).size:=by
   have:(i+1)*(T t).size<=n*(T t).size:=Nat.mul_le_mul_right _ hi;rw[Nat.add_mul] at this;omega
  obtain ⟨u,g1,_,g3⟩:=key _ hlt;rw[g3];have hmod:(i*(T t).size+j)%(T t).size=j:=(by rw[Nat.add_comm,Nat.add_mul_mod_self_right,Nat.mod_eq_of_lt hj]);rw[hmod] at g1;simp only[cellAt,List.getElem?_replicate,hi,if_true,Option.bind_some] at hij;obtain ⟨u',k1,_,k3⟩:=h3 j av hij;rw[g1] at k1;cases k1;exact k3
theorem wrap_i64 {n:Int} (h0:-9223372036854775808<=n) (h1:n<=9223372036854775807):IntKind.i64.wrap n=n:=by
 have e:IntKind.i64.wrap n=if n%18446744073709551616 ≥ 9223372036854775808 then n%18446744073709551616-18446744073709551616 else n%18446744073709551616:=by simp[IntKind.wrap,IntKind.bits,IntKind.signed]
 rw[e];split<;>omega
theorem make_makes (hT:TabOk P T) (H:RepH F φ st.objs (·∈st.used) w) {t e d n:Nat} {k k':IntKind} (ht:(T t).k=.slice e) (hk:(T e).k.known=true) (hd:d∉st.used) (hn:n<=1073741824) :
 ∃u w',(Instr.makeSlice t (.int k n) (.int k' n)).run P w=.ok u w'/\Makes F φ st w w' d u (.rf d 0 n) ⟨(T e).size,List.replicate n (T e).zero⟩:=by
 obtain ⟨i,z',hi⟩:=hT.infos e hk;obtain ⟨z,h1,h2,hz,h3⟩:=zero_cells (P:=P) (F:=F) (φ:=φ) (st:=st) (w:=w) hT hk;have hu:=hT.kinds t;rw[ht] at hu;simp only[KOk] at hu;have hw:IntKind.i64.wrap (n:Int)=n:=wrap_i64 (by omega) (by omega);have hb:¬(281474976710656:Int)<(i.bytes:Int)*n:=by rw[hi.bytes];have:=Nat.mul_le_mul hi.b1 hn;have h2:((T e).bytes:Int)*n=(((T e).bytes*n:Nat):Int):=(by simp);rw[h2];omega
 have hrow:=zeros_row (F:=F) (φ:=φ) (st:=st) (w:=w) hT hk (n:=n) (h2.trans hz) h3 hz;have hM:=makes_arr (e:=e) (cap:=n) H hd hrow (by simp);simp only[List.length_replicate] at hM;refine ⟨_,_,?_,hM⟩;have hneg:¬((n:Int)<0):=by omega
 by_cases h0:n=0
 ·subst h0;have hw0:IntKind.i64.wrap 0=0:=hw;simp[Instr.makeSlice,run_underlying hu,asInt,asIntOf,typeInfo,hi.info,hw0,sizeOf,newRow];simp only[show Array.range 0=#[] from rfl,Array.map_empty]
 ·have hne:¬(n*(T e).size=0):=by have:=known_of_size hT hk;have:=Nat.mul_pos (Nat.pos_of_ne_zero h0) this;omega
  simp[Instr.makeSlice,run_underlying hu,asInt,asIntOf,typeInfo,hi.info,hi.size,hw,hb,hneg,sizeOf,newRow,h1];exact λh=>absurd h hne
inductive Parts (R:Value->AV->Prop):List (Nat×Value)->List (Nat×AV)->Prop
 | nil:Parts R [] []
 | cons {i:Nat} {v:Value} {x:AV} {ps:List (Nat×Value)} {qs:List (Nat×AV)} (h:R v x) (t:Parts R ps qs):Parts R ((i,v)::ps) ((i,x)::qs)
theorem fold_putAt (off:Nat):∀(l:List Value) (n:Nat) (cells:Array Value),(l.zipIdx n).foldl (λcs p=>cs.setIfInBounds (off+p.2) p.1) cells=putAt cells (off+n) l:=by
 intro l
 induction l with
 | nil=>intro n cells;rfl
 | cons v r ih=>
   intro n cells;simp only[List.zipIdx_cons,List.foldl_cons,putAt];rw[ih,Nat.add_assoc]
theorem fill_step {place:Nat->Option (Nat×Nat)} {cells:Array Value} {i off n:Nat} {v:Value} {r:List (Nat×Value)} (hp:place i=some (off,n)) (h1:v.cells.size=n) (h2:off+n<=cells.size) :
 Instr.fill place cells ((i,v)::r)=Instr.fill place (putAt cells off v.cells.toList) r:=by
 have h3:¬(cells.size<off+v.cells.size):=by omega
 have hf:v.cells.zipIdx.foldl (λcs (p:Value×Nat)=>cs.setIfInBounds (off+p.2) p.1) cells=putAt cells off v.cells.toList:=by rw[<- Array.foldl_toList,Array.toList_zipIdx,fold_putAt,Nat.add_zero]
 simp only[Instr.fill,hp];rw[if_neg (by simp[h1];omega)];congr 1
def CellsOf (R:Value->AV->Prop) (arr:Array Value) (cs:List AV):Prop:=arr.size=cs.length/\(∀k,k<arr.size->(arr.getD k undef).oneCell'=true)/\∀(j:Nat) (av:AV),cs[j]?=some av->∃u:Value,arr[j]?=some u/\R u av
theorem CellsOf.splice {R:Value->AV->Prop} {arr:Array Value} {cs new:List AV} {off:Nat} {v:Value} (h:CellsOf R arr cs) (h1:v.cells.size=new.length) (hone:∀c∈v.cells.toList,c.oneCell'=true)
 (hnew:∀(j:Nat) (av:AV),new[j]?=some av->∃u:Value,v.cells[j]?=some u/\u.oneCell'=true/\R u av) (hb:off+new.length<=cs.length):CellsOf R (putAt arr off v.cells.toList) (splice cs off new):=by
 obtain ⟨g1,g2,g3⟩:=h;have hl:off+v.cells.toList.length<=arr.size:=by simp[h1,g1];omega
 refine ⟨by rw[putAt_len,splice_length hb,g1],?_,?_⟩
 ·intro k hk;rw[putAt_len] at hk;rw[Array.getD_eq_getD_getElem?,putAt_get _ _ _ _ hl];split
  ·rename_i hh;have:k-off<v.cells.toList.length:=(by omega);rw[List.getElem?_eq_getElem this];exact hone _ (List.getElem_mem this)
  ·have:=g2 k hk;rwa [Array.getD_eq_getD_getElem?] at this
 ·intro j av hj;rw[splice_get hb] at hj;rw[putAt_get _ _ _ _ hl];simp only[Array.length_toList,h1];split at hj
  ·rename_i hh;obtain ⟨u,k1,_,k3⟩:=hnew _ _ hj;exact ⟨u,by rw[if_pos hh];simpa using k1,k3⟩
  ·rename_i hh;obtain ⟨u,k1,k3⟩:=g3 _ _ hj;exact ⟨u,by rw[if_neg hh];exact k1,k3⟩
theorem fill_spec {R:Value->AV->Prop} (hR:R=RV F φ st w) {fs:List (Nat×Nat)} {place:Nat->Option (Nat×Nat)} (hp:∀i x,fs[i]?=some x->place i=some x):∀{qs:List (Nat×AV)} {ps:List (Nat×Value)} {cs:List AV} {arr:Array Value} {K:List AV->Prop},
 fill fs cs qs K->Parts R ps qs->CellsOf R arr cs->∃arr' cs',Instr.fill place arr ps=some arr'/\K cs'/\CellsOf R arr' cs':=by
 intro qs
 induction qs with
 | nil=>
   intro ps cs arr K hk hps hc;cases hps;exact ⟨arr,cs,rfl,hk,hc⟩
 | cons q qs ih=>
   intro ps cs arr K hk hps hc;cases hps with
   | cons hv t=>
     subst hR;obtain ⟨new,hk,h1,h2,h3⟩:=cellsOf_spec hk hv;obtain ⟨o,n,hf,⟨hn,hb⟩,hk⟩:=fAt_spec hk;have hb':o+new.length<=cs.length:=(by omega);obtain ⟨arr',cs',g1,g2,g3⟩:=ih hk t (hc.splice (off:=o) h1 h2 h3 hb');refine ⟨arr',cs',?_,g2,g3⟩;rw[fill_step (off:=o) (n:=n) (hp _ _ hf) (by omega) (by rw[hc.1];omega)];exact g1
theorem hBuild_yields (hT:TabOk P T) {t:Nat} {ps:Array (Nat×Value)} {qs:List (Nat×AV)} {K:AV->Prop} (hk:hBuild (T t).k (T t).zero qs K) (hps:Parts (RV F φ st w) ps.toList qs):Yields P w (RV F φ st w) (Instr.build t ps) K:=by
 generalize hk0:(T t).k=k0 at hk;cases k0 with
 | struct fs=>
   have hkn:(T t).k.known=true:=by rw[hk0];rfl
   obtain ⟨i,z,hi⟩:=hT.infos t hkn;have h:=hT.kinds t;rw[hk0] at h;obtain ⟨fields,hu,hm,hpp⟩:=h;obtain ⟨z',hz1,hz2,hz3,hz4⟩:=zero_cells (P:=P) (F:=F) (φ:=φ) (st:=st) (w:=w) hT hkn;have hzz:z'=z:=by have:(zeroValue t).run P w=.ok z w:=(by simp[zeroValue,typeInfo,hi.info,hi.zero]);rw[this] at hz1;cases hz1;rfl
   subst hzz;have hc0:CellsOf (RV F φ st w) z'.cells (T t).zero:=⟨hz2,λk hk=>by
    obtain ⟨u,g1,g2,_⟩:=hz4 k _ (List.getElem?_eq_getElem (by omega));rw[Array.getD_eq_getD_getElem?,g1];exact g2,λj av hj=>by obtain ⟨u,g1,_,g3⟩:=hz4 j av hj;exact ⟨u,g1,g3⟩⟩
   have hplaces:fields.toList.mapM (λf=>(P.info? f.type).map λi=>(f.offset,i.size))=some fs:=by
    rw[<- hm];clear hm hu hc0;generalize fields.toList=l at hpp
    induction l with
    | nil=>rfl
    | cons f l ih=>
      obtain ⟨i',hi',_⟩:=hpp f List.mem_cons_self;rw[List.mapM_cons,ih λg hg=>hpp g (List.mem_cons_of_mem _ hg),hi'];simp[Program.cellsOf,hi']
   obtain ⟨arr',cs',g1,g2,g3,g4,g5⟩:=fill_spec (F:=F) (φ:=φ) (st:=st) (w:=w) rfl (place:=(fs.toArray[·]?)) (λi x h=>by simpa using h) hk hps hc0;refine ⟨.agg arr',_,run_build w t ps arr' ?_,.ag g3 g4 λj av hj=>?_,g2⟩
   ·simp only[Program.built,hi.info,hu,hi.zero,hplaces];exact g1
   ·obtain ⟨u,k1,k2⟩:=g5 j av hj;rw[Array.getD_eq_getD_getElem?,k1];exact k2
 | arr fs e=>
   have hkn:(T t).k.known=true:=by rw[hk0];rfl
   obtain ⟨i,z,hi⟩:=hT.infos t hkn;have h:=hT.kinds t;rw[hk0] at h;obtain ⟨n,ie,hu,hie,_,hm⟩:=h;obtain ⟨z',hz1,hz2,hz3,hz4⟩:=zero_cells (P:=P) (F:=F) (φ:=φ) (st:=st) (w:=w) hT hkn;have hzz:z'=z:=by have:(zeroValue t).run P w=.ok z w:=(by simp[zeroValue,typeInfo,hi.info,hi.zero]);rw[this] at hz1;cases hz1;rfl
   subst hzz;have hc0:CellsOf (RV F φ st w) z'.cells (T t).zero:=⟨hz2,λk hk=>by
    obtain ⟨u,g1,g2,_⟩:=hz4 k _ (List.getElem?_eq_getElem (by omega));rw[Array.getD_eq_getD_getElem?,g1];exact g2,λj av hj=>by obtain ⟨u,g1,_,g3⟩:=hz4 j av hj;exact ⟨u,g1,g3⟩⟩
   obtain ⟨arr',cs',g1,g2,g3,g4,g5⟩:=fill_spec (F:=F) (φ:=φ) (st:=st) (w:=w) rfl (place:=λi=>some (i*ie.size,ie.size)) (λi x h=>by
    rw[<- hm,List.getElem?_map] at h;obtain ⟨y,h2,h3⟩:=Option.map_eq_some_iff.1 h;obtain ⟨_,rfl⟩:=List.getElem?_eq_some_iff.1 h2;simp at h3;rw[<- h3]) hk hps hc0
   refine ⟨.agg arr',_,run_build w t ps arr' ?_,.ag g3 g4 λj av hj=>?_,g2⟩
   ·simp only[Program.built,hi.info,hu,hi.zero,hie];exact g1
   ·obtain ⟨u,k1,k2⟩:=g5 j av hj;rw[Array.getD_eq_getD_getElem?,k1];exact k2
 | _=>exact False.elim hk
theorem lit_spec {R:Value->AV->Prop} (hR:R=RV F φ st w) {sz:Nat}:∀{qs:List (Nat×AV)} {ps:List (Nat×Value)} {n:Nat} {arr:Array Value} {done:List (List AV)} {K:List (List AV)->Prop},
 lit sz n qs K->Parts R ps qs->done.length=n->(∀x∈done,x.length=sz)->(n+qs.length)*sz=arr.size->(∀k,k<arr.size->(arr.getD k undef).oneCell'=true) ->
 (∀i j av,cellAt done i j=some av->R (arr.getD (i*sz+j) undef) av) ->
 ∃arr' es,Instr.fill (λi=>some (i*sz,sz)) arr ps=some arr'/\K es/\es.length=qs.length/\Row R sz (done++es) arr':=by
 intro qs
 induction qs with
 | nil=>
   intro ps n arr done K hk hps hn hel hsz hone hc;cases hps;exact ⟨arr,[],rfl,hk,rfl,by simpa [hn] using hsz.symm,hone,by simpa using hel,by simpa using hc⟩
 | cons q qs ih=>
   intro ps n arr done K hk hps hn hel hsz hone hc;cases hps with
   | @cons i v x ps _ hv t=>
     subst hR;obtain ⟨rfl,hk⟩:=hk;obtain ⟨new,⟨hl,hk⟩,h1,h2,h3⟩:=cellsOf_spec hk hv;simp only[List.length_cons] at hsz;have hb:i*sz+sz<=arr.size:=by have:(i+1)*sz<=(i+(qs.length+1))*sz:=Nat.mul_le_mul_right _ (by omega);rw[Nat.add_mul] at this;omega
     have hb':i*sz+v.cells.toList.length<=arr.size:=by simp[h1,hl];exact hb
     obtain ⟨arr',es,g1,g2,g3,g4⟩:=ih (n:=i+1) (arr:=putAt arr (i*sz) v.cells.toList) (done:=done++[new]) hk t (by simp[hn])
      (λy hy=>by rcases List.mem_append.1 hy with h|h;exact hel y h;rw[List.mem_singleton.1 h];exact hl)
      (by rw[putAt_len,<- hsz];congr 1;omega)
      (λk hk=>by
       rw[putAt_len] at hk;rw[Array.getD_eq_getD_getElem?,putAt_get _ _ _ _ hb'];split
       ·rename_i hh;have hlt:k-i*sz<v.cells.toList.length:=(by omega);rw[List.getElem?_eq_getElem hlt];exact h2 _ (List.getElem_mem hlt)
       ·have:=hone k hk;rwa [Array.getD_eq_getD_getElem?] at this)
      (λk j av hkj=>by
       rw[Array.getD_eq_getD_getElem?,putAt_get _ _ _ _ hb'];by_cases hki:k<i
       ·have hkj':cellAt done k j=some av:=(by simpa [cellAt,List.getElem?_append,hn,hki] using hkj);have:=(cellAt_lt hel hkj').2;have hm:(k+1)*sz<=i*sz:=Nat.mul_le_mul_right _ hki;rw[Nat.add_mul] at hm;rw[if_neg (by omega)];have:=hc k j av hkj';rwa [Array.getD_eq_getD_getElem?] at this
       ·have hk0:k=i:=by
         have hel':∀x∈done++[new],x.length=sz:=λy hy=>by
          rcases List.mem_append.1 hy with h|h
          ·exact hel y h
          ·rw[List.mem_singleton.1 h];exact hl
         have:=(cellAt_lt hel' hkj).1;simp[hn] at this;omega
        subst hk0;have hkj':new[j]?=some av:=(by simpa [cellAt,List.getElem?_append,hn] using hkj);have hjl:=(List.getElem?_eq_some_iff.1 hkj').1;obtain ⟨u,k1,k2,k3⟩:=h3 j av hkj';rw[if_pos (by simp only[Array.length_toList,h1];omega),show k*sz+j-k*sz=j by omega];have:v.cells.toList[j]?=some u:=(by simpa using k1);rw[this];exact k3)
     refine ⟨arr',new::es,?_,g2,by simp[g3],by simpa using g4⟩;rw[fill_step (off:=i*sz) (n:=sz) rfl (by omega) (by omega)];exact g1
theorem buildSlice_makes (hT:TabOk P T) (H:RepH F φ st.objs (·∈st.used) w) {t e d len:Nat} (ht:(T t).k=.slice e) (hk:(T e).k.known=true) (hd:d∉st.used) {ps:Array (Nat×Value)} {qs:List (Nat×AV)} {K:List (List AV)->Prop}
 (hl:len=qs.length) (hlen:len*(T e).size<=16777216) (hlit:lit (T e).size 0 qs K) (hps:Parts (RV F φ st w) ps.toList qs) :
 ∃u es w',K es/\(Instr.buildSlice t len ps).run P w=.ok u w'/\Makes F φ st w w' d u (.rf d 0 es.length) ⟨(T e).size,es⟩:=by
 obtain ⟨i,z',hi⟩:=hT.infos e hk;obtain ⟨z,h1,h2,hz,h3⟩:=zero_cells (P:=P) (F:=F) (φ:=φ) (st:=st) (w:=w) hT hk;have hu:=hT.kinds t;rw[ht] at hu;simp only[KOk] at hu;have hrow:=zeros_row (F:=F) (φ:=φ) (st:=st) (w:=w) hT hk (n:=len) (h2.trans hz) h3 hz;have hpos:=known_of_size hT hk;by_cases h0:len=0
 ·have hq:qs=[]:=List.length_eq_zero_iff.1 (by omega);subst hq;cases hps':ps.toList with
  | cons a b=>rw[hps'] at hps;cases hps
  | nil=>
    have hM:=makes_arr (e:=e) (sz:=(T e).size) (cap:=len) (es:=[]) (arr:=(Array.range (len*(T e).size)).map λx=>(#[]:Array Value)[x%(#[]:Array Value).size]!) H hd (by
     subst h0;exact ⟨by simp,by simp,by simp,λi j av h=>by simp[cellAt] at h⟩) (by simp[h0])
    refine ⟨_,[],_,hlit,?_,hM⟩;subst h0;simp[Instr.buildSlice,run_underlying hu,run_sizeOf_tab hT hk,hps',Instr.fill,newRow];try rfl
 ·obtain ⟨arr',es,g1,g2,g3,g4⟩:=lit_spec (F:=F) (φ:=φ) (st:=st) (w:=w) rfl (n:=0) (done:=[]) hlit hps rfl (by simp) (by rw[hrow.size];simp[hl]) hrow.one (λi j av h=>by simp[cellAt] at h);simp only[List.nil_append] at g4;have hM:=makes_arr (e:=e) (cap:=len) H hd g4 (by omega);refine ⟨_,es,_,g2,?_,hM⟩;have hsm:¬(16777216<len*(T e).size):=(by omega);simp[Instr.buildSlice,run_underlying hu,run_sizeOf_tab hT hk,hsm,h1,newRow];have hne2:¬(len*(T e).size=0):=by have:=Nat.mul_pos (Nat.pos_of_ne_zero h0) hpos;omega
  rw[if_neg hne2,g1,show es.length=len by omega];rfl
end
end Go.Vc
namespace Go.Vc
mutual
def AV.noId:AV->Bool
 | .rf _ _ _=>false
 | .pt _ _ _=>false
 | .ag cs=>noIds cs
 | .tu vs=>noIds vs
 | .fn _ caps=>noIds caps
 | _=>true
def noIds:List AV->Bool
 | []=>true
 | x::r=>x.noId&&noIds r
end
theorem noIds_get {l:List AV} (h:noIds l=true) {j:Nat} {av:AV} (hj:l[j]?=some av):av.noId=true:=by
 induction l generalizing j with
 | nil=>cases hj
 | cons x r ih=>
   simp only[noIds,Bool.and_eq_true] at h;cases j with
   | zero=>simp at hj;subst hj;exact h.1
   | succ j=>exact ih h.2 (by simpa using hj)
def AV.leaf:AV->Bool
 | .pr _=>true
 | .nl=>true
 | .im _ _=>true
 | .fn _ []=>true
 | _=>false
mutual
def AV.flat:AV->Bool
 | .pr _=>true
 | .tu vs=>flats vs
 | _=>false
def flats:List AV->Bool
 | []=>true
 | x::r=>x.flat&&flats r
end
theorem flats_get {l:List AV} (h:flats l=true) {j:Nat} {av:AV} (hj:l[j]?=some av):av.flat=true:=by
 induction l generalizing j with
 | nil=>cases hj
 | cons x r ih=>
   simp only[flats,Bool.and_eq_true] at h;cases j with
   | zero=>simp at hj;subst hj;exact h.1
   | succ j=>exact ih h.2 (by simpa using hj)
section
variable {φ φ':Nat->Option (Nat×Nat)} {obs obs':Nat->Option Ob} {U U':Nat->Prop} {h h':Array Obj} {S S':Nat->Prop}
theorem noId_rep (hS:∀β,S β->S' β/\h'[β]?=h[β]?) {v:Value} {av:AV} (r:RepV φ obs U h S v av) (hn:av.noId=true):RepV φ' obs' U' h' S' v av:=by
 induction r with
 | un v=>exact .un v
 | rd r=>exact .rd (r.mono hS)
 | rf=>simp[AV.noId] at hn
 | pt=>simp[AV.noId] at hn
 | ro vs hSb hb hc hr=>
   obtain ⟨h1,h2⟩:=hS _ hSb;exact .ro vs h1 (h2.trans hb) hc λj av hj=>(hr j av hj).mono hS
 | ag hs h1 hr ih=>exact .ag hs h1 λj av hj=>ih j av hj (noIds_get (by simpa [AV.noId] using hn) hj)
 | tu hs hr ih=>exact .tu hs λj av hj=>ih j av hj (noIds_get (by simpa [AV.noId] using hn) hj)
 | fn hs hr ih=>exact .fn hs λj av hj=>ih j av hj (noIds_get (by simpa [AV.noId] using hn) hj)
theorem flat_rep {v:Value} {av:AV} (r:RepV φ obs U h S v av) (hn:av.flat=true):RepV φ' obs' U' h' S' v av:=by
 induction r with
 | rd r=>cases r<;>first|exact .rd (.pr _ (by assumption))|simp[AV.flat] at hn
 | tu hs hr ih=>exact .tu hs λj av hj=>ih j av hj (flats_get (by simpa [AV.flat] using hn) hj)
 | _=>simp[AV.flat] at hn
theorem leaf_rd {v:Value} {av:AV} (r:RepV φ obs U h S v av) (hn:av.leaf=true):RdI h S v av:=by
 cases r with
 | rd r=>exact r
 | fn hs hr=>
   rename_i g arr caps;cases caps with
   | nil=>
     have:arr=#[]:=Array.eq_empty_of_size_eq_zero hs;subst this;rw[show fnV g #[]=.func (.func g) #[] #[] by simp[fnV]];exact .fn g
   | cons a b=>simp[AV.leaf] at hn
 | _=>simp[AV.leaf] at hn
end
def FunSpec (P:Program) (f:Nat) (args:List AV) (O:Nat->Option Ob) (U:List Nat) (R:AV->(Nat->Option Ob)->Prop):Prop:=
 (∃ fn, P.funcs[f]? = some fn ∧ (fn.name == "runtime.NumGoroutine") = false ∧ fn.body.isSome = true) ∧
 ∀(F:Fr) (φ:Nat->Option (Nat×Nat)) (w:World) (vs:Array Value),F.w0=w->F.O0=O->F.φ0=φ->RepH F φ O (·∈U) w ->
  vs.size=args.length->(∀(j:Nat) (av:AV),args[j]?=some av->RepV φ O (·∈U) w.heap (SS F φ O w) (vs.getD j undef) av) ->
  Calls P f vs w λe w'=>∃(v:Value) (r:AV) (O':Nat->Option Ob) (φ':Nat->Option (Nat×Nat)) (U':List Nat),e=.returned v/\R r O'/\RepH F φ' O' (·∈U') w' /\
   RepV φ' O' (·∈U') w'.heap (SS F φ' O' w') v r
theorem FunSpec.mono {P:Program} {f:Nat} {args:List AV} {O:Nat->Option Ob} {U:List Nat} {R R':AV->(Nat->Option Ob)->Prop} (h:FunSpec P f args O U R) (hr:∀r O',R r O'->R' r O'):FunSpec P f args O U R':=by refine ⟨h.1,λF φ w vs h1 h2 h3 H hs ha=>(h.2 F φ w vs h1 h2 h3 H hs ha).mono ?_⟩;rintro e w' ⟨v,r,O',φ',U',g1,g2,g3⟩;exact ⟨v,r,O',φ',U',g1,hr _ _ g2,g3⟩
def noOb:Nat->Option Ob:=λ_=>none
def Spec0 (P:Program) (f:Nat) (args:List AV) (R:AV->Prop):Prop:=FunSpec P f args noOb [] λr O'=>(R r/\r.noId=true)/\O'=noOb
def Ob.leafy (o:Ob):Prop:=∀x∈o.es,∀a∈x,a.leaf=true
mutual
def AV.only0:AV->Bool
 | .rf id _ _=>id==0
 | .pt id _ _=>id==0
 | .ag cs=>only0s cs
 | .tu vs=>only0s vs
 | .fn _ caps=>only0s caps
 | _=>true
def only0s:List AV->Bool
 | []=>true
 | x::r=>x.only0&&only0s r
end
theorem only0s_get {l:List AV} (h:only0s l=true) {j:Nat} {av:AV} (hj:l[j]?=some av):av.only0=true:=by
 induction l generalizing j with
 | nil=>cases hj
 | cons x r ih=>
   simp only[only0s,Bool.and_eq_true] at h;cases j with
   | zero=>simp at hj;subst hj;exact h.1
   | succ j=>exact ih h.2 (by simpa using hj)
def Spec1 (P:Program) (f:Nat) (args:List AV) (R:AV->Ob->Prop):Prop:=FunSpec P f args noOb [] λr O'=>∃o,(R r o/\r.only0=true)/\o.leafy/\O'=upd noOb 0 (some o)
def SpecO (P:Program) (f:Nat) (args:List AV) (o:Ob) (R:AV->Ob->Prop):Prop:=FunSpec P f args (upd noOb 0 (some o)) [0] λr O'=>∃o',(R r o'/\r.noId=true)/\o'.leafy/\O'=upd noOb 0 (some o')
def SpecB (P:Program) (f:Nat) (args:List AV) (o:Ob) (R:AV->Ob->Prop):Prop:=FunSpec P f args (upd noOb 0 (some o)) [0] λr O'=>∃o',(R r o'/\r.only0=true)/\o'.leafy/\O'=upd noOb 0 (some o')
mutual
def AV.ren (d:Nat):AV->AV
 | .rf _ off len=>.rf d off len
 | .pt _ i off=>.pt d i off
 | .ag cs=>.ag (rens d cs)
 | .tu vs=>.tu (rens d vs)
 | .fn f caps=>.fn f (rens d caps)
 | x=>x
def rens (d:Nat):List AV->List AV
 | []=>[]
 | x::r=>x.ren d::rens d r
end
mutual
def AV.lendW (f:List AV->List AV) (objs:Nat->Option Ob):AV->AV
 | .rf id off len=>match objs id with
   | some o=>.im o.sz ((o.es.drop off).take len)
   | none=>.un
 | .pt id i off=>match objs id with
   | some o=>match o.es[i]? with
     | some cs=>.ro (f cs) off
     | none=>.un
   | none=>.un
 | .ag cs=>.ag (lendsW f objs cs)
 | .tu vs=>.tu (lendsW f objs vs)
 | .fn g caps=>.fn g (lendsW f objs caps)
 | x=>x
def lendsW (f:List AV->List AV) (objs:Nat->Option Ob):List AV->List AV
 | []=>[]
 | x::r=>x.lendW f objs::lendsW f objs r
end
mutual
def AV.lok (p:List AV->Prop) (objs:Nat->Option Ob):AV->Prop
 | .rf id _ _=>∃o,objs id=some o/\o.leafy
 | .pt id i _=>∃o cs,objs id=some o/\o.es[i]?=some cs/\p cs
 | .ag cs=>loks p objs cs
 | .tu vs=>loks p objs vs
 | .fn _ caps=>loks p objs caps
 | _=>True
def loks (p:List AV->Prop) (objs:Nat->Option Ob):List AV->Prop
 | []=>True
 | x::r=>x.lok p objs/\loks p objs r
end
def leafs:List AV->Prop
 | []=>True
 | x::r=>x.leaf=true/\leafs r
def lends1 (objs:Nat->Option Ob) (cs:List AV):List AV:=lendsW (λx=>x) objs cs
def lends (objs:Nat->Option Ob) (cs:List AV):List AV:=lendsW (lends1 objs) objs cs
def lok1 (objs:Nat->Option Ob) (cs:List AV):Prop:=loks leafs objs cs/\leafs (lends1 objs cs)
def lok (objs:Nat->Option Ob) (cs:List AV):Prop:=loks (lok1 objs) objs cs
def St.to (st:St) (d:Option Nat) (v:AV) (O:Nat->Option Ob) (U:List Nat):St:={regs:=(st.put d v).regs,objs:=O,used:=U}
def CallSem (P:Program) (f:Nat) (args:List AV) (objs:Nat->Option Ob) (used:List Nat) (X:AV->(Nat->Option Ob)->List Nat->Prop):Prop:=
 (∃ fn, P.funcs[f]? = some fn ∧ (fn.name == "runtime.NumGoroutine") = false ∧ fn.body.isSome = true) ∧
 ∀(F:Fr) (φ:Nat->Option (Nat×Nat)) (w:World) (vs:Array Value),RepH F φ objs (·∈used) w->vs.size=args.length ->
  (∀(j:Nat) (av:AV),args[j]?=some av->RepV φ objs (·∈used) w.heap (SS F φ objs w) (vs.getD j undef) av) ->
  Calls P f vs w λe w'=>∃(v:Value) (u:AV) (O:Nat->Option Ob) (U:List Nat) (φ':Nat->Option (Nat×Nat)),e=.returned v/\X u O U /\
   Goes φ φ' objs O (·∈used) (·∈U) w w'/\RepH F φ' O (·∈U) w'/\RepV φ' O (·∈U) w'.heap (SS F φ' O w') v u
inductive CALL (P:Program) (f:Nat) (args:List AV) (st:St) (d:Option Nat) (K:St->Prop):Prop
 | pure (R:AV->Prop) (h:Spec0 P f args R) (ha:noIds args=true) (k:∀r,R r->r.noId=true->K (st.put d r)):CALL P f args st d K
 | make (x:Nat) (R:AV->Ob->Prop) (h:Spec1 P f args R) (hd:d=some x) (hx:x∉st.used) (ha:noIds args=true)
  (k:∀r o,R r o->o.leafy->K {regs:=upd st.regs x (r.ren x),objs:=upd st.objs x (some o),used:=x::st.used}):CALL P f args st d K
 | obj (id:Nat) (o:Ob) (R:AV->Ob->Prop) (args':List AV) (h:SpecO P f args' o R) (ho:st.objs id=some o) (hl:o.leafy) (h0:only0s args'=true) (ha:rens id args'=args)
  (k:∀r o',R r o'->r.noId=true->o'.leafy->K {st.put d r with objs:=upd st.objs id (some o')}):CALL P f args st d K
 | both (id:Nat) (o:Ob) (R:AV->Ob->Prop) (args':List AV) (h:SpecB P f args' o R) (ho:st.objs id=some o) (hl:o.leafy) (h0:only0s args'=true) (ha:rens id args'=args)
  (k:∀r o',R r o'->o'.leafy->K {st.put d (r.ren id) with objs:=upd st.objs id (some o')}):CALL P f args st d K
 | lend (R:AV->Prop) (h:Spec0 P f (lends st.objs args) R) (hl:lok st.objs args) (k:∀r,R r->K (st.put d r)) (hf:∀r,R r->r.flat=true):CALL P f args st d K
 | sem (X:AV->(Nat->Option Ob)->List Nat->Prop) (h:CallSem P f args st.objs st.used X) (k:∀u O U,X u O U->K (st.to d u O U)):CALL P f args st d K
theorem CALL.ex {P:Program} {f:Nat} {args:List AV} {st:St} {d:Option Nat} {K:St->Prop} (h:CALL P f args st d K):∃fn,P.funcs[f]?=some fn:=by
 cases h with
 | pure R h=>exact ⟨_,h.1.choose_spec.1⟩
 | make x R h=>exact ⟨_,h.1.choose_spec.1⟩
 | obj id o R args' h=>exact ⟨_,h.1.choose_spec.1⟩
 | both id o R args' h=>exact ⟨_,h.1.choose_spec.1⟩
 | lend R h=>exact ⟨_,h.1.choose_spec.1⟩
 | sem X h=>exact ⟨_,h.1.choose_spec.1⟩
@[congr] theorem CALL_congr {P:Program} {f f':Nat} {args args':List AV} {st st':St} {d:Option Nat} {K:St->Prop} {p00:Prop} (_h00:(True/\True)=p00) (h:f=f') (h2:args=args') (h3:st=st'):CALL P f args st d K=CALL P f' args' st' d K:=by rw[h,h2,h3]
theorem leafs_get {l:List AV} (h:leafs l) {j:Nat} {av:AV} (hj:l[j]?=some av):av.leaf=true:=by
 induction l generalizing j with
 | nil=>cases hj
 | cons x r ih=>
   cases j with
   | zero=>simp at hj;subst hj;exact h.1
   | succ j=>exact ih h.2 (by simpa using hj)
theorem loks_get {p:List AV->Prop} {objs:Nat->Option Ob} {l:List AV} (h:loks p objs l) {j:Nat} {av:AV} (hj:l[j]?=some av):av.lok p objs:=by
 induction l generalizing j with
 | nil=>cases hj
 | cons x r ih=>
   simp only[loks] at h;cases j with
   | zero=>simp at hj;subst hj;exact h.1
   | succ j=>exact ih h.2 (by simpa using hj)
theorem lendsW_get {f:List AV->List AV} {objs:Nat->Option Ob} {l:List AV} (j:Nat):(lendsW f objs l)[j]?=(l[j]?).map (AV.lendW f objs):=by
 induction l generalizing j with
 | nil=>simp[lendsW]
 | cons x r ih=>cases j with
   | zero=>simp[lendsW]
   | succ j=>simp[lendsW,ih]
theorem lendsW_length {f:List AV->List AV} {objs:Nat->Option Ob} {l:List AV}:(lendsW f objs l).length=l.length:=by
 induction l with
 | nil=>rfl
 | cons x r ih=>simp[lendsW,ih]
theorem rens_get {d:Nat} {l:List AV} (j:Nat):(rens d l)[j]?=(l[j]?).map (AV.ren d):=by
 induction l generalizing j with
 | nil=>simp[rens]
 | cons x r ih=>cases j with
   | zero=>simp[rens]
   | succ j=>simp[rens,ih]
theorem rens_length {d:Nat} {l:List AV}:(rens d l).length=l.length:=by
 induction l with
 | nil=>rfl
 | cons x r ih=>simp[rens,ih]
theorem leafy_get {o:Ob} (h:o.leafy) {i j:Nat} {av:AV} (hij:cellAt o.es i j=some av):av.leaf=true:=by
 unfold cellAt at hij;cases he:o.es[i]? with
 | none=>rw[he] at hij;cases hij
 | some x=>rw[he] at hij;exact h x (List.mem_of_getElem? he) av (List.mem_of_getElem? hij)
theorem leaf_noId {av:AV} (h:av.leaf=true):av.noId=true:=by
 cases av with
 | fn f caps=>cases caps with
   | nil=>rfl
   | cons a b=>simp[AV.leaf] at h
 | _=>first|rfl|simp[AV.leaf] at h
section
variable {P:Program} {F:Fr} {φ:Nat->Option (Nat×Nat)} {st:St} {w:World}
theorem lend_rep {f:List AV->List AV} {p:List AV->Prop} {S':Nat->Prop} {φ':Nat->Option (Nat×Nat)} {O':Nat->Option Ob} {U':Nat->Prop} (H:RepH F φ st.objs (·∈st.used) w) (hS:∀β,β<w.heap.size->S' β)
 (hf:∀cs:List AV,p cs->(f cs).length=cs.length/\∀(j:Nat) (av av':AV) (v:Value),cs[j]?=some av->(f cs)[j]?=some av'->v.oneCell'=true->RV F φ st w v av->RdI w.heap S' v av')
 {v:Value} {av:AV} (r:RV F φ st w v av) (hl:av.lok p st.objs):RepV φ' O' U' w.heap S' v (av.lendW f st.objs):=by
 have hSS:∀β,SS F φ st.objs w β->S' β/\w.heap[β]?=w.heap[β]?:=λβ hβ=>⟨hS β hβ.1,rfl⟩
 induction r with
 | un v=>simpa [AV.lendW] using RepV.un v
 | rd r=>
   rename_i v av;have:av.lendW f st.objs=av:=by cases r<;>simp[AV.lendW,lendsW]
   rw[this];exact .rd (r.mono hSS)
 | @rf v id off len hu hv hr=>
   simp only[AV.lok] at hl;obtain ⟨o,ho,hleaf⟩:=hl;simp only[AV.lendW,ho];obtain ⟨g1,g2⟩:=hr o ho;have hlen:((o.es.drop off).take len).length=len:=by simp;omega
   rcases g2 with ⟨rfl,a,rfl⟩|⟨β,b,cap,c,e,fz,k1,k2,rfl,k4,k5⟩
   ·simp only[List.take_zero];exact .rd (.im0 _ _ _)
   ·obtain ⟨hel,c',e',fz',hb,_,_,hc⟩:=ob_at H ho k1;rw[k2] at hb;cases hb;have hcell:∀i j av,cellAt ((o.es.drop off).take len) i j=some av->cellAt o.es (off+i) j=some av:=by
     intro i j av hij;simp only[cellAt,List.getElem?_take,List.getElem?_drop] at hij ⊢;split at hij
     ·exact hij
     ·cases hij
    have hex:∀i j av,cellAt ((o.es.drop off).take len) i j=some av->∃u,c[b+off*o.sz+i*o.sz+j]?=some u/\RdI w.heap S' u av:=by intro i j av hij;obtain ⟨u,m1,_,m3⟩:=hc _ _ _ (hcell i j av hij);refine ⟨u,?_,(leaf_rd m3 (leafy_get hleaf (hcell i j av hij))).mono hSS⟩;rw[Nat.add_mul,<- Nat.add_assoc] at m1;exact m1
    have hfin:=RdI.im (h:=w.heap) (S:=S') (β:=β) (o:=b+off*o.sz) (cap:=cap) (sz:=o.sz) (c:=c) (e:=e) (fz:=fz) (es:=(o.es.drop off).take len) (λi j=>c.getD (b+off*o.sz+i*o.sz+j) undef)
     (hS β (Array.getElem?_eq_some_iff.1 k2).1) k2 (by omega) (λx hx=>hel x (List.mem_of_mem_drop (List.mem_of_mem_take hx)))
     (λi j av hij=>by obtain ⟨u,m1,_⟩:=hex i j av hij;rw[Array.getD_eq_getD_getElem?,m1];rfl)
     (λi j av hij=>by obtain ⟨u,m1,m2⟩:=hex i j av hij;rw[Array.getD_eq_getD_getElem?,m1];exact m2)
    rw[hlen] at hfin;exact .rd hfin
 | @pt v id i off hu hv hr=>
   simp only[AV.lok] at hl;obtain ⟨o,cs,ho,hi,hp⟩:=hl;obtain ⟨hl1,hl2⟩:=hf cs hp;simp only[AV.lendW,ho,hi];obtain ⟨β,b,k1,rfl⟩:=hr o ho;obtain ⟨hel,c,e,fz,hb,_,_,hc⟩:=ob_at H ho k1;have hex:∀(j:Nat) (av':AV),(f cs)[j]?=some av'->∃u,c[b+i*o.sz+j]?=some u/\RdI w.heap S' u av':=by intro j av' hj;have hlt:=(List.getElem?_eq_some_iff.1 hj).1;rw[hl1] at hlt;obtain ⟨u,m1,m2,m3⟩:=hc i j cs[j] (by simp[cellAt,hi,hlt]);exact ⟨u,m1,hl2 j cs[j] av' u (List.getElem?_eq_getElem hlt) hj m2 m3⟩
   exact .ro (o:=b+i*o.sz) (λj=>c.getD (b+i*o.sz+j) undef) (hS β (Array.getElem?_eq_some_iff.1 hb).1) hb
    (λj av hj=>by obtain ⟨u,m1,_⟩:=hex j av hj;rw[Array.getD_eq_getD_getElem?,m1];rfl)
    (λj av hj=>by obtain ⟨u,m1,m2⟩:=hex j av hj;rw[Array.getD_eq_getD_getElem?,m1];exact m2)
 | ro vs hSb hb hc hr=>
   simp only[AV.lendW];exact .ro vs (hS _ hSb.1) hb hc λj av hj=>(hr j av hj).mono hSS
 | ag hs h1 hr ih=>
   simp only[AV.lendW];refine .ag (by rw[lendsW_length];exact hs) h1 λj av hj=>?_;rw[lendsW_get] at hj;obtain ⟨a,h2,rfl⟩:=Option.map_eq_some_iff.1 hj;exact ih j a h2 (loks_get (by simpa only[AV.lok] using hl) h2)
 | tu hs hr ih=>
   simp only[AV.lendW];refine .tu (by rw[lendsW_length];exact hs) λj av hj=>?_;rw[lendsW_get] at hj;obtain ⟨a,h2,rfl⟩:=Option.map_eq_some_iff.1 hj;exact ih j a h2 (loks_get (by simpa only[AV.lok] using hl) h2)
 | fn hs hr ih=>
   simp only[AV.lendW];refine .fn (by rw[lendsW_length];exact hs) λj av hj=>?_;rw[lendsW_get] at hj;obtain ⟨a,h2,rfl⟩:=Option.map_eq_some_iff.1 hj;exact ih j a h2 (loks_get (by simpa only[AV.lok] using hl) h2)
theorem lends_rep {S':Nat->Prop} {φ':Nat->Option (Nat×Nat)} {O':Nat->Option Ob} {U':Nat->Prop} (H:RepH F φ st.objs (·∈st.used) w) (hS:∀β,β<w.heap.size->S' β)
 {args:List AV} (hl:lok st.objs args) {vs:Array Value} (ha:∀(j:Nat) (av:AV),args[j]?=some av->RV F φ st w (vs.getD j undef) av) :
 ∀(j:Nat) (av:AV),(lends st.objs args)[j]?=some av->RepV φ' O' U' w.heap S' (vs.getD j undef) av:=by
 intro j av hj;unfold lends at hj;rw[lendsW_get] at hj;obtain ⟨a,h2,rfl⟩:=Option.map_eq_some_iff.1 hj;have hSS:∀β,SS F φ st.objs w β->S' β/\w.heap[β]?=w.heap[β]?:=λβ hβ=>⟨hS β hβ.1,rfl⟩;refine lend_rep H hS (p:=lok1 st.objs) (λcs hcs=>⟨lendsW_length,λj av av' v hj hj' hone r=>?_⟩) (ha j a h2) (loks_get hl h2);obtain ⟨hc1,hc2⟩:=hcs;have hj2:=hj';unfold lends1 at hj2;rw[lendsW_get,hj] at hj2;simp only[Option.map_some,Option.some.injEq] at hj2;subst hj2;refine leaf_rd (φ:=φ) (obs:=noOb) (U:=λ_=>True) (lend_rep H hS (p:=leafs) (λcs hcs=>⟨rfl,λj av av' v hj hj' hone r=>?_⟩) r (loks_get hc1 hj)) (leafs_get hc2 hj');rw[hj] at hj';cases hj';exact (leaf_rd r (leafs_get hcs hj)).mono hSS
end
end Go.Vc
namespace Go.Vc
section
variable {P:Program} {F:Fr} {φ:Nat->Option (Nat×Nat)} {st:St} {w:World}
theorem callee_start {rd own:Nat->Prop} {O:Nat->Option Ob} {φc:Nat->Option (Nat×Nat)} {U:List Nat} (w:World)
 (inj:∀i j oi oj β bi bj,O i=some oi->O j=some oj->φc i=some (β,bi)->φc j=some (β,bj)->i=j) (inU:∀i o,O i=some o->i∈U)
 (hown:∀i o β b,O i=some o->φc i=some (β,b)->own β)
 (ob:∀i o,O i=some o->ObRep φc O (·∈U) w.heap (SS ⟨w,own,rd,O,φc⟩ φc O w) i o):RepH ⟨w,own,rd,O,φc⟩ φc O (·∈U) w:=
 {inj,inU,ob,own:=λi o β b h1 h2=>.inl (hown i o β b h1 h2),below:=λ_ _ _=>rfl,size:=Nat.le_refl _,os:=rfl,tape:=rfl,output:=rfl
  idsU:=λi hi=>by cases h:O i with
   | none=>exact absurd h hi
   | some o=>exact inU i o h
  keep0:=λi _=>Keeps.refl _ _ _ _}
theorem callee_none (rd:Nat->Prop) (w:World):RepH ⟨w,λ_=>False,rd,noOb,λ_=>none⟩ (λ_=>none) noOb (·∈([]:List Nat)) w:=
 callee_start w (λi j oi oj β bi bj h=>by cases h) (λi o h=>by cases h) (λi o β b h=>by cases h) (λi o h=>by cases h)
theorem goes_same {rd:Nat->Prop} {φ' φc:Nat->Option (Nat×Nat)} {O' O:Nat->Option Ob} {U':List Nat} {w':World}
 (H':RepH ⟨w,λ_=>False,rd,O,φc⟩ φ' O' (·∈U') w'):Goes φ φ st.objs st.objs (·∈st.used) (·∈st.used) w w':=
 {hU:=λ_ h=>h
  keeps:=λi _ o' ho'=>⟨o',ho',rfl,rfl,Nat.le_refl _,λβ b c e fz h1 h2=>⟨c,e,fz,by rw[H'.below β (Array.getElem?_eq_some_iff.1 h2).1 (λh=>h)];exact h2,rfl⟩⟩
  blocks:=λβ hβ _=>H'.below β hβ (λh=>h)
  news:=λi o' β b ho hφ=>.inl ⟨i,o',b,ho,hφ⟩
  size:=H'.size}
theorem repH_same {rd:Nat->Prop} {φ' φc:Nat->Option (Nat×Nat)} {O' O:Nat->Option Ob} {U':List Nat} {w':World} (H:RepH F φ st.objs (·∈st.used) w)
 (H':RepH ⟨w,λ_=>False,rd,O,φc⟩ φ' O' (·∈U') w'):RepH F φ st.objs (·∈st.used) w':=by
 have G:=goes_same (φ:=φ) (st:=st) H';refine G.repH H H.inj H.inU (λi o ho=>?_) H'.os H'.tape H'.output;exact (H.ob i o ho).mono rfl (λβ b hφ=>H'.below β (H.lt ho hφ) (λh=>h)) λv av r=>G.repV r
theorem ss_back {own:Nat->Prop} {φ' φc φn:Nat->Option (Nat×Nat)} {O' O objs':Nat->Option Ob} {w':World} (H:RepH F φ st.objs (·∈st.used) w)
 (hno:∀β i o b,SS ⟨w,own,SS F φ st.objs w,O,φc⟩ φ' O' w' β->objs' i=some o->φn i≠some (β,b))
 (hown:∀β,own β->SS ⟨w,own,SS F φ st.objs w,O,φc⟩ φ' O' w' β->False) (β:Nat) (h:SS ⟨w,own,SS F φ st.objs w,O,φc⟩ φ' O' w' β):SS F φn objs' w' β:=by
 obtain ⟨h1,h2,h3⟩:=h;refine ⟨h1,λi o b ho=>hno β i o b ⟨h1,h2,h3⟩ ho,λhβ=>?_⟩;have hlt:β<w.heap.size:=Nat.lt_of_lt_of_le hβ H.size;rcases h3 hlt with h|h
 ·exact h.2.2 hβ
 ·exact (hown β h ⟨h1,h2,h3⟩).elim
theorem ren_rep {φ φ':Nat->Option (Nat×Nat)} {obs obs':Nat->Option Ob} {U U':Nat->Prop} {h:Array Obj} {S S':Nat->Prop} {d:Nat} {o:Ob} (hS:∀β,S β->S' β/\h[β]?=h[β]?) (hd:U' d)
 (ho:obs 0=some o) (ho':obs' d=some o) (hφ:φ' d=φ 0) {v:Value} {av:AV} (r:RepV φ obs U h S v av) (h0:av.only0=true):RepV φ' obs' U' h S' v (av.ren d):=by
 induction r with
 | un v=>simpa [AV.ren] using RepV.un v
 | rd r0=>
   rename_i v av;have:av.ren d=av:=by cases r0<;>simp[AV.ren,rens]
   rw[this];exact .rd (r0.mono hS)
 | @rf v id off len hu hv hr=>
   have:id=0:=(by simpa [AV.only0] using h0);subst this;simp only[AV.ren];refine .rf hd hv λo' h1=>?_;rw[ho'] at h1;cases h1;obtain ⟨g1,g2⟩:=hr o ho;refine ⟨g1,?_⟩;rcases g2 with g2|⟨β,b,cap,c,e,fz,k1,k2⟩
   ·exact .inl g2
   ·exact .inr ⟨β,b,cap,c,e,fz,hφ.trans k1,k2⟩
 | @pt v id i off hu hv hr=>
   have:id=0:=(by simpa [AV.only0] using h0);subst this;simp only[AV.ren];refine .pt hd hv λo' h1=>?_;rw[ho'] at h1;cases h1;obtain ⟨β,b,k1,k2⟩:=hr o ho;exact ⟨β,b,hφ.trans k1,k2⟩
 | ro vs hSb hb hc hr=>simp only[AV.ren];exact .ro vs (hS _ hSb).1 hb hc λj av hj=>(hr j av hj).mono hS
 | ag hs h1 hr ih=>
   simp only[AV.ren];refine .ag (by rw[rens_length];exact hs) h1 λj av hj=>?_;rw[rens_get] at hj;obtain ⟨a,h2,rfl⟩:=Option.map_eq_some_iff.1 hj;exact ih j a h2 (only0s_get (by simpa [AV.only0] using h0) h2)
 | tu hs hr ih=>
   simp only[AV.ren];refine .tu (by rw[rens_length];exact hs) λj av hj=>?_;rw[rens_get] at hj;obtain ⟨a,h2,rfl⟩:=Option.map_eq_some_iff.1 hj;exact ih j a h2 (only0s_get (by simpa [AV.only0] using h0) h2)
 | fn hs hr ih=>
   simp only[AV.ren];refine .fn (by rw[rens_length];exact hs) λj av hj=>?_;rw[rens_get] at hj;obtain ⟨a,h2,rfl⟩:=Option.map_eq_some_iff.1 hj;exact ih j a h2 (only0s_get (by simpa [AV.only0] using h0) h2)
theorem unren_rep {φ φ':Nat->Option (Nat×Nat)} {obs obs':Nat->Option Ob} {U U':Nat->Prop} {h:Array Obj} {S S':Nat->Prop} {d:Nat} {o:Ob} (hS:∀β,S β->S' β/\h[β]?=h[β]?) (hd:U' 0)
 (ho:obs d=some o) (ho':obs' 0=some o) (hφ:φ' 0=φ d):∀{v:Value} {av:AV},RepV φ obs U h S v (av.ren d)->av.only0=true->RepV φ' obs' U' h S' v av:=by
 have key:∀{v:Value} {bv:AV},RepV φ obs U h S v bv->∀av:AV,bv=av.ren d->av.only0=true->RepV φ' obs' U' h S' v av:=by
  intro v bv r
  induction r with
  | un v=>intro av e h0;cases av<;>simp[AV.ren] at e;exact .un v
  | rd r0=>
    intro av e h0;cases r0 with
    | pr v h1=>cases av<;>simp[AV.ren] at e;subst e;exact .rd (.pr _ h1)
    | nl=>cases av<;>simp[AV.ren] at e;exact .rd .nl
    | im0 a cap sz=>cases av<;>simp[AV.ren] at e;obtain ⟨rfl,rfl⟩:=e;exact .rd (.im0 _ _ _)
    | im vs hSb hb hcap hsz hc hr=>cases av<;>simp[AV.ren] at e;obtain ⟨rfl,rfl⟩:=e;exact .rd (RdI.mono hS (.im vs hSb hb hcap hsz hc hr))
    | fn g=>
      cases av<;>simp[AV.ren] at e;rename_i g' caps;obtain ⟨rfl,e⟩:=e;cases caps with
      | nil=>exact .rd (.fn _)
      | cons a b=>simp[rens] at e
  | @rf v id off len hu hv hr=>
    intro av e h0;cases av<;>simp[AV.ren] at e;rename_i id' off' len';obtain ⟨rfl,rfl,rfl⟩:=e;have:id'=0:=(by simpa [AV.only0] using h0);subst this;refine .rf hd hv λo' h1=>?_;rw[ho'] at h1;cases h1;obtain ⟨g1,g2⟩:=hr o ho;refine ⟨g1,?_⟩;rcases g2 with g2|⟨β,b,cap,c,e,fz,k1,k2⟩
    ·exact .inl g2
    ·exact .inr ⟨β,b,cap,c,e,fz,hφ.trans k1,k2⟩
  | @pt v id i off hu hv hr=>
    intro av e h0;cases av<;>simp[AV.ren] at e;rename_i id' i' off';obtain ⟨rfl,rfl,rfl⟩:=e;have:id'=0:=(by simpa [AV.only0] using h0);subst this;refine .pt hd hv λo' h1=>?_;rw[ho'] at h1;cases h1;obtain ⟨β,b,k1,k2⟩:=hr o ho;exact ⟨β,b,hφ.trans k1,k2⟩
  | ro vs hSb hb hc hr=>
    intro av e h0;cases av<;>simp[AV.ren] at e;obtain ⟨rfl,rfl⟩:=e;exact .ro vs (hS _ hSb).1 hb hc λj av hj=>(hr j av hj).mono hS
  | ag hs h1 hr ih=>
    intro av e h0;cases av<;>simp[AV.ren] at e;subst e;refine .ag (by rw[rens_length] at hs;exact hs) h1 λj av hj=>?_;exact ih j (av.ren d) (by rw[rens_get,hj];rfl) av rfl (only0s_get (by simpa [AV.only0] using h0) hj)
  | tu hs hr ih=>
    intro av e h0;cases av<;>simp[AV.ren] at e;subst e;refine .tu (by rw[rens_length] at hs;exact hs) λj av hj=>?_;exact ih j (av.ren d) (by rw[rens_get,hj];rfl) av rfl (only0s_get (by simpa [AV.only0] using h0) hj)
  | fn hs hr ih=>
    intro av e h0;cases av<;>simp[AV.ren] at e;obtain ⟨rfl,e⟩:=e;subst e;refine .fn (by rw[rens_length] at hs;exact hs) λj av hj=>?_;exact ih j (av.ren d) (by rw[rens_get,hj];rfl) av rfl (only0s_get (by simpa [AV.only0] using h0) hj)
 intro v av r h0;exact key r _ rfl h0
theorem call_sound {f n:Nat} {args:List AV} {d:Option Nat} {K:St->Prop} {a:Act} (hc:CALL P f args st d K) (hn:a.tmps.size=n) (hdf:a.defers=[]) (H:RepH F φ st.objs (·∈st.used) w)
 (hr:∀t,RV F φ st w (a.tmps.getD t undef) (st.regs t)) (hd:∀x,d=some x->x<n) {vs:Array Value} (hvs:vs.size=args.length)
 (ha:∀(j:Nat) (av:AV),args[j]?=some av->RV F φ st w (vs.getD j undef) av) :
 (∃ fn, P.funcs[f]? = some fn ∧ (fn.name == "runtime.NumGoroutine") = false ∧ fn.body.isSome = true) ∧
  Calls P f vs w λe w'=>∃v st',e=.returned v/\K st'/\Rep F n st' (a.put d v) w':=by
 cases hc with
 | pure R h hno k=>
   refine ⟨h.1,?_⟩;refine (h.2 ⟨w,λ_=>False,SS F φ st.objs w,noOb,λ_=>none⟩ (λ_=>none) w vs rfl rfl rfl (callee_none _ w) hvs (λj av hj=>noId_rep (λβ hβ=>⟨⟨hβ.1,(λi o b h=>by cases h),λ_=>.inl hβ⟩,rfl⟩) (ha j av hj) (noIds_get hno hj))).mono ?_;rintro e w' ⟨v,r,O',φ',U',rfl,⟨⟨hR,hnr⟩,rfl⟩,H',rr⟩;have G:=goes_same (φ:=φ) (st:=st) H';have H2:=repH_same H H';refine ⟨v,st.put d r,rfl,k r hR hnr,?_⟩
   have rr':RepV φ st.objs (·∈st.used) w'.heap (SS F φ st.objs w') v r:=
    noId_rep (λβ hβ=>⟨ss_back H (λβ i o b h ho hφ=>by
     have hlt:=H.lt ho hφ;rcases h.2.2 hlt with h|h
     ·exact h.2.1 i o b ho hφ
     ·exact h) (λβ h _=>h) β hβ,rfl⟩) rr hnr
   refine Rep.goes (φ':=φ) (w':=w') (av:=r) hn hdf hr ?_ ?_ rfl hd (λ_=>?_)
   ·cases d<;>exact G
   ·cases d<;>exact H2
   ·cases d<;>exact rr'
 | make x R h hdx hx hno k=>
   subst hdx;refine ⟨h.1,?_⟩;refine (h.2 ⟨w,λ_=>False,SS F φ st.objs w,noOb,λ_=>none⟩ (λ_=>none) w vs rfl rfl rfl (callee_none _ w) hvs (λj av hj=>noId_rep (λβ hβ=>⟨⟨hβ.1,(λi o b h=>by cases h),λ_=>.inl hβ⟩,rfl⟩) (ha j av hj) (noIds_get hno hj))).mono ?_;rintro e w' ⟨v,r,O',φ',U',rfl,⟨o,hR,hleaf,rfl⟩,H',rr⟩;have hne:∀i o,st.objs i=some o->x≠i:=λi o ho e=>hx (e▸H.inU i o ho);have hnew:∀β b,φ' 0=some (β,b)->w.heap.size<=β:=λβ b h0=>(H'.own 0 o β b (upd_eq _ _ _) h0).resolve_left (λh=>h);have G:Goes φ (upd φ x (φ' 0)) st.objs (upd st.objs x (some o)) (·∈st.used) (·∈x::st.used) w w':=by
    refine ⟨λi hi=>List.mem_cons_of_mem _ hi,?_,λβ hβ _=>H'.below β hβ (λh=>h),?_,H'.size⟩
    ·intro i hi o' ho';have hxi:x≠i:=λe=>hx (e▸hi);rw[upd_ne' _ _ hxi] at ho';exact ⟨o',ho',upd_ne' _ _ hxi,rfl,Nat.le_refl _,λβ b c e fz h1 h2=>⟨c,e,fz,by rw[H'.below β (Array.getElem?_eq_some_iff.1 h2).1 (λh=>h)];exact h2,rfl⟩⟩
    ·intro i o' β b ho' hφ';by_cases hxi:x=i
     ·subst hxi;rw[upd_eq] at hφ';exact .inr (hnew β b hφ')
     ·rw[upd_ne' _ _ hxi] at ho' hφ';exact .inl ⟨i,o',b,ho',hφ'⟩
   have hback:∀β,SS ⟨w,λ_=>False,SS F φ st.objs w,noOb,λ_=>none⟩ φ' (upd noOb 0 (some o)) w' β->SS F (upd φ x (φ' 0)) (upd st.objs x (some o)) w' β:=λβ hβ=>
    ss_back H (λβ i o' b h ho' hφ'=>by
     by_cases hxi:x=i
     ·subst hxi;rw[upd_eq] at hφ';exact h.2.1 0 o b (upd_eq _ _ _) hφ'
     ·rw[upd_ne' _ _ hxi] at ho' hφ';rcases h.2.2 (H.lt ho' hφ') with h|h
      ·exact h.2.1 i o' b ho' hφ'
      ·exact h) (λβ h _=>h) β hβ
   have H2:RepH F (upd φ x (φ' 0)) (upd st.objs x (some o)) (·∈x::st.used) w':=by
    refine G.repH H ?_ ?_ ?_ H'.os H'.tape H'.output
    ·intro i j oi oj β bi bj hi hj pi pj;by_cases hxi:x=i
     ·by_cases hxj:x=j
      ·exact hxi.symm.trans hxj
      ·subst hxi;rw[upd_eq] at pi;rw[upd_ne' _ _ hxj] at hj pj;have:=hnew _ _ pi;have:=H.lt hj pj;omega
     ·by_cases hxj:x=j
      ·subst hxj;rw[upd_eq] at pj;rw[upd_ne' _ _ hxi] at hi pi;have:=hnew _ _ pj;have:=H.lt hi pi;omega
      ·rw[upd_ne' _ _ hxi] at hi pi;rw[upd_ne' _ _ hxj] at hj pj;exact H.inj i j oi oj β bi bj hi hj pi pj
    ·intro i o' ho';by_cases hxi:x=i
     ·subst hxi;exact List.mem_cons_self
     ·rw[upd_ne' _ _ hxi] at ho';exact List.mem_cons_of_mem _ (H.inU i o' ho')
    ·intro i o' ho';by_cases hxi:x=i
     ·subst hxi;rw[upd_eq] at ho';cases ho';obtain ⟨g1,g2⟩:=H'.ob 0 o (upd_eq _ _ _);refine ⟨g1,?_⟩;rcases g2 with ⟨k1,k2⟩|⟨β,b,c,e,fz,k1,k2,k3,k4,k5⟩
      ·exact .inl ⟨by rw[upd_eq];exact k1,k2⟩
      ·refine .inr ⟨β,b,c,e,fz,by rw[upd_eq];exact k1,k2,k3,k4,λi j av hij=>?_⟩;obtain ⟨u,m1,m2,m3⟩:=k5 i j av hij;exact ⟨u,m1,m2,noId_rep (λβ hβ=>⟨hback β hβ,rfl⟩) m3 (leaf_noId (leafy_get hleaf hij))⟩
     ·rw[upd_ne' _ _ hxi] at ho';exact (H.ob i o' ho').mono (upd_ne' _ _ hxi) (λβ b hφ=>H'.below β (H.lt ho' hφ) (λh=>h)) λv av r=>G.repV r
   have hren:=ren_rep (obs':=upd st.objs x (some o)) (U':=(·∈x::st.used)) (d:=x) (λβ hβ=>⟨hback β hβ,rfl⟩) List.mem_cons_self (upd_eq noOb 0 (some o)) (upd_eq _ _ _) (φ':=upd φ x (φ' 0)) (upd_eq _ _ _) rr hR.2;exact ⟨v,_,rfl,k r o hR.1 hleaf,Rep.goes (st':={regs:=upd st.regs x (r.ren x),objs:=upd st.objs x (some o),used:=x::st.used}) (av:=r.ren x) hn hdf hr G H2 rfl hd (λ_=>hren)⟩
 | obj id o R args' h ho hl h0 hren k=>
   refine ⟨h.1,?_⟩;subst hren;have hφc:∀i oi β b,upd noOb 0 (some o) i=some oi->(λ_=>φ id) i=some (β,b)->i=0/\φ id=some (β,b):=by
    intro i oi β b h1 h2;by_cases hi:0=i
    ·exact ⟨hi.symm,h2⟩
    ·rw[upd_ne' _ _ hi] at h1;cases h1
   have H0:RepH ⟨w,λβ=>∃b,φ id=some (β,b),SS F φ st.objs w,upd noOb 0 (some o),λ_=>φ id⟩ (λ_=>φ id) (upd noOb 0 (some o)) (·∈[0]) w:=by
    refine callee_start w ?_ ?_ ?_ ?_
    ·intro i j oi oj β bi bj hi hj pi pj;exact (hφc i oi β bi hi pi).1.trans (hφc j oj β bj hj pj).1.symm
    ·intro i oi hi;by_cases h0i:0=i
     ·subst h0i;simp
     ·rw[upd_ne' _ _ h0i] at hi;cases hi
    ·intro i oi β b hi hp;exact ⟨b,hp⟩
    ·intro i oi hi;by_cases h0i:0=i
     ·subst h0i;rw[upd_eq] at hi;cases hi;obtain ⟨g1,g2⟩:=H.ob id o ho;refine ⟨g1,?_⟩;rcases g2 with g2|⟨β,b,c,e,fz,k1,k2,k3,k4,k5⟩
      ·exact .inl g2
      ·refine .inr ⟨β,b,c,e,fz,k1,k2,k3,k4,λi j av hij=>?_⟩;obtain ⟨u,m1,m2,m3⟩:=k5 i j av hij;refine ⟨u,m1,m2,noId_rep (λβ' hβ'=>⟨⟨hβ'.1,?_,λ_=>.inl hβ'⟩,rfl⟩) m3 (leaf_noId (leafy_get hl hij))⟩;intro i' o' b' _ hp;exact hβ'.2.1 id o b' ho hp
     ·rw[upd_ne' _ _ h0i] at hi;cases hi
   have hargs:∀(j:Nat) (av:AV),args'[j]?=some av->RepV (λ_=>φ id) (upd noOb 0 (some o)) (·∈[0]) w.heap (SS ⟨w,λβ=>∃b,φ id=some (β,b),SS F φ st.objs w,upd noOb 0 (some o),λ_=>φ id⟩ (λ_=>φ id) (upd noOb 0 (some o)) w) (vs.getD j undef) av:=by intro j av hj;refine unren_rep (d:=id) (λβ hβ=>⟨⟨hβ.1,?_,λ_=>.inl hβ⟩,rfl⟩) (by simp) ho (upd_eq _ _ _) rfl (ha j (av.ren id) (by rw[rens_get,hj];rfl)) (only0s_get h0 hj);intro i' o' b' _ hp;exact hβ.2.1 id o b' ho hp
   refine (h.2 ⟨w,λβ=>∃b,φ id=some (β,b),SS F φ st.objs w,upd noOb 0 (some o),λ_=>φ id⟩ (λ_=>φ id) w vs rfl rfl rfl H0 (by rw[hvs,rens_length]) hargs).mono ?_;rintro e w' ⟨v,r,O',φ',U',rfl,⟨o',⟨hR,hnr⟩,hleaf,rfl⟩,H',rr⟩;obtain ⟨o1,e1,hφ0,hsz0,hlen0,hblk⟩:=H'.keep0 0 (by simp[upd]) o' (upd_eq _ _ _);have e2:upd noOb 0 (some o) 0=some o1:=e1;rw[upd_eq] at e2;cases e2;have hkeep:∀β,β<w.heap.size->(∀b,φ id≠some (β,b))->w'.heap[β]?=w.heap[β]?:=λβ hβ hno=>H'.below β hβ λ⟨b,hb⟩=>hno b hb;have G:Goes φ φ st.objs (upd st.objs id (some o')) (·∈st.used) (·∈st.used) w w':=by
    refine ⟨λi hi=>hi,?_,?_,?_,H'.size⟩
    ·intro i hi o₁ ho₁;by_cases hdi:id=i
     ·subst hdi;rw[upd_eq] at ho₁;cases ho₁;exact ⟨o,ho,rfl,hsz0,hlen0,hblk⟩
     ·rw[upd_ne' _ _ hdi] at ho₁;refine ⟨o₁,ho₁,rfl,rfl,Nat.le_refl _,λβ b c e fz h1 h2=>⟨c,e,fz,?_,rfl⟩⟩;rw[hkeep β (Array.getElem?_eq_some_iff.1 h2).1 λb' hb=>hdi (H.inj id i o o₁ β b' b ho ho₁ hb h1)];exact h2
    ·intro β hβ hno;exact hkeep β hβ λb=>hno id o b ho
    ·intro i o₁ β b ho₁ hφ₁;by_cases hdi:id=i
     ·subst hdi;exact .inl ⟨id,o,b,ho,hφ₁⟩
     ·rw[upd_ne' _ _ hdi] at ho₁;exact .inl ⟨i,o₁,b,ho₁,hφ₁⟩
   have hback:∀β,SS ⟨w,λβ=>∃b,φ id=some (β,b),SS F φ st.objs w,upd noOb 0 (some o),λ_=>φ id⟩ φ' (upd noOb 0 (some o')) w' β->SS F φ (upd st.objs id (some o')) w' β:=λβ hβ=>
    ss_back H (λβ i o₁ b h ho₁ hφ₁=>by
     have own:∀b,φ id≠some (β,b):=λb hb=>h.2.1 0 o' b (upd_eq _ _ _) (by rw[hφ0];exact hb);by_cases hdi:id=i
     ·subst hdi;exact own b hφ₁
     ·rw[upd_ne' _ _ hdi] at ho₁;rcases h.2.2 (H.lt ho₁ hφ₁) with h|⟨b',h⟩
      ·exact h.2.1 i o₁ b ho₁ hφ₁
      ·exact own b' h) (λβ ⟨b,hb⟩ h=>h.2.1 0 o' b (upd_eq _ _ _) (by rw[hφ0];exact hb)) β hβ
   have H2:RepH F φ (upd st.objs id (some o')) (·∈st.used) w':=by
    refine G.repH H ?_ ?_ ?_ H'.os H'.tape H'.output
    ·intro i j oi oj β bi bj hi hj pi pj;have hi':∃oi,st.objs i=some oi:=by
      by_cases hdi:id=i
      ·subst hdi;exact ⟨o,ho⟩
      ·rw[upd_ne' _ _ hdi] at hi;exact ⟨oi,hi⟩
     have hj':∃oj,st.objs j=some oj:=by
      by_cases hdj:id=j
      ·subst hdj;exact ⟨o,ho⟩
      ·rw[upd_ne' _ _ hdj] at hj;exact ⟨oj,hj⟩
     obtain ⟨oi',hi'⟩:=hi';obtain ⟨oj',hj'⟩:=hj';exact H.inj i j oi' oj' β bi bj hi' hj' pi pj
    ·intro i o₁ ho₁;by_cases hdi:id=i
     ·subst hdi;exact H.inU id o ho
     ·rw[upd_ne' _ _ hdi] at ho₁;exact H.inU i o₁ ho₁
    ·intro i o₁ ho₁;by_cases hdi:id=i
     ·subst hdi;rw[upd_eq] at ho₁;cases ho₁;obtain ⟨g1,g2⟩:=H'.ob 0 o' (upd_eq _ _ _);refine ⟨g1,?_⟩;rw[hφ0] at g2;rcases g2 with g2|⟨β,b,c,e,fz,k1,k2,k3,k4,k5⟩
      ·exact .inl g2
      ·refine .inr ⟨β,b,c,e,fz,k1,k2,k3,k4,λi j av hij=>?_⟩;obtain ⟨u,m1,m2,m3⟩:=k5 i j av hij;exact ⟨u,m1,m2,noId_rep (λβ hβ=>⟨hback β hβ,rfl⟩) m3 (leaf_noId (leafy_get hleaf hij))⟩
     ·rw[upd_ne' _ _ hdi] at ho₁;exact (H.ob i o₁ ho₁).mono rfl (λβ b hφ=>hkeep β (H.lt ho₁ hφ) λb' hb=>hdi (H.inj id i o o₁ β b' b ho ho₁ hb hφ)) λv av r=>G.repV r
   have rr':RepV φ (upd st.objs id (some o')) (·∈st.used) w'.heap (SS F φ (upd st.objs id (some o')) w') v r:=noId_rep (λβ hβ=>⟨hback β hβ,rfl⟩) rr hnr;refine ⟨v,_,rfl,k r o' hR hnr hleaf,?_⟩;refine Rep.goes (φ':=φ) (w':=w') (av:=r) hn hdf hr ?_ ?_ rfl hd (λ_=>?_)
   ·cases d<;>exact G
   ·cases d<;>exact H2
   ·cases d<;>exact rr'
 | both id o R args' h ho hl h0 hren k=>
   refine ⟨h.1,?_⟩;subst hren;have hφc:∀i oi β b,upd noOb 0 (some o) i=some oi->(λ_=>φ id) i=some (β,b)->i=0/\φ id=some (β,b):=by
    intro i oi β b h1 h2;by_cases hi:0=i
    ·exact ⟨hi.symm,h2⟩
    ·rw[upd_ne' _ _ hi] at h1;cases h1
   have H0:RepH ⟨w,λβ=>∃b,φ id=some (β,b),SS F φ st.objs w,upd noOb 0 (some o),λ_=>φ id⟩ (λ_=>φ id) (upd noOb 0 (some o)) (·∈[0]) w:=by
    refine callee_start w ?_ ?_ ?_ ?_
    ·intro i j oi oj β bi bj hi hj pi pj;exact (hφc i oi β bi hi pi).1.trans (hφc j oj β bj hj pj).1.symm
    ·intro i oi hi;by_cases h0i:0=i
     ·subst h0i;simp
     ·rw[upd_ne' _ _ h0i] at hi;cases hi
    ·intro i oi β b hi hp;exact ⟨b,hp⟩
    ·intro i oi hi;by_cases h0i:0=i
     ·subst h0i;rw[upd_eq] at hi;cases hi;obtain ⟨g1,g2⟩:=H.ob id o ho;refine ⟨g1,?_⟩;rcases g2 with g2|⟨β,b,c,e,fz,k1,k2,k3,k4,k5⟩
      ·exact .inl g2
      ·refine .inr ⟨β,b,c,e,fz,k1,k2,k3,k4,λi j av hij=>?_⟩;obtain ⟨u,m1,m2,m3⟩:=k5 i j av hij;refine ⟨u,m1,m2,noId_rep (λβ' hβ'=>⟨⟨hβ'.1,?_,λ_=>.inl hβ'⟩,rfl⟩) m3 (leaf_noId (leafy_get hl hij))⟩;intro i' o' b' _ hp;exact hβ'.2.1 id o b' ho hp
     ·rw[upd_ne' _ _ h0i] at hi;cases hi
   have hargs:∀(j:Nat) (av:AV),args'[j]?=some av->RepV (λ_=>φ id) (upd noOb 0 (some o)) (·∈[0]) w.heap (SS ⟨w,λβ=>∃b,φ id=some (β,b),SS F φ st.objs w,upd noOb 0 (some o),λ_=>φ id⟩ (λ_=>φ id) (upd noOb 0 (some o)) w) (vs.getD j undef) av:=by intro j av hj;refine unren_rep (d:=id) (λβ hβ=>⟨⟨hβ.1,?_,λ_=>.inl hβ⟩,rfl⟩) (by simp) ho (upd_eq _ _ _) rfl (ha j (av.ren id) (by rw[rens_get,hj];rfl)) (only0s_get h0 hj);intro i' o' b' _ hp;exact hβ.2.1 id o b' ho hp
   refine (h.2 ⟨w,λβ=>∃b,φ id=some (β,b),SS F φ st.objs w,upd noOb 0 (some o),λ_=>φ id⟩ (λ_=>φ id) w vs rfl rfl rfl H0 (by rw[hvs,rens_length]) hargs).mono ?_;rintro e w' ⟨v,r,O',φ',U',rfl,⟨o',⟨hR,h0r⟩,hleaf,rfl⟩,H',rr⟩;obtain ⟨o1,e1,hφ0,hsz0,hlen0,hblk⟩:=H'.keep0 0 (by simp[upd]) o' (upd_eq _ _ _);have e2:upd noOb 0 (some o) 0=some o1:=e1;rw[upd_eq] at e2;cases e2;have hkeep:∀β,β<w.heap.size->(∀b,φ id≠some (β,b))->w'.heap[β]?=w.heap[β]?:=λβ hβ hno=>H'.below β hβ λ⟨b,hb⟩=>hno b hb;have G:Goes φ φ st.objs (upd st.objs id (some o')) (·∈st.used) (·∈st.used) w w':=by
    refine ⟨λi hi=>hi,?_,?_,?_,H'.size⟩
    ·intro i hi o₁ ho₁;by_cases hdi:id=i
     ·subst hdi;rw[upd_eq] at ho₁;cases ho₁;exact ⟨o,ho,rfl,hsz0,hlen0,hblk⟩
     ·rw[upd_ne' _ _ hdi] at ho₁;refine ⟨o₁,ho₁,rfl,rfl,Nat.le_refl _,λβ b c e fz h1 h2=>⟨c,e,fz,?_,rfl⟩⟩;rw[hkeep β (Array.getElem?_eq_some_iff.1 h2).1 λb' hb=>hdi (H.inj id i o o₁ β b' b ho ho₁ hb h1)];exact h2
    ·intro β hβ hno;exact hkeep β hβ λb=>hno id o b ho
    ·intro i o₁ β b ho₁ hφ₁;by_cases hdi:id=i
     ·subst hdi;exact .inl ⟨id,o,b,ho,hφ₁⟩
     ·rw[upd_ne' _ _ hdi] at ho₁;exact .inl ⟨i,o₁,b,ho₁,hφ₁⟩
   have hback:∀β,SS ⟨w,λβ=>∃b,φ id=some (β,b),SS F φ st.objs w,upd noOb 0 (some o),λ_=>φ id⟩ φ' (upd noOb 0 (some o')) w' β->SS F φ (upd st.objs id (some o')) w' β:=λβ hβ=>
    ss_back H (λβ i o₁ b h ho₁ hφ₁=>by
     have own:∀b,φ id≠some (β,b):=λb hb=>h.2.1 0 o' b (upd_eq _ _ _) (by rw[hφ0];exact hb);by_cases hdi:id=i
     ·subst hdi;exact own b hφ₁
     ·rw[upd_ne' _ _ hdi] at ho₁;rcases h.2.2 (H.lt ho₁ hφ₁) with h|⟨b',h⟩
      ·exact h.2.1 i o₁ b ho₁ hφ₁
      ·exact own b' h) (λβ ⟨b,hb⟩ h=>h.2.1 0 o' b (upd_eq _ _ _) (by rw[hφ0];exact hb)) β hβ
   have H2:RepH F φ (upd st.objs id (some o')) (·∈st.used) w':=by
    refine G.repH H ?_ ?_ ?_ H'.os H'.tape H'.output
    ·intro i j oi oj β bi bj hi hj pi pj;have hi':∃oi,st.objs i=some oi:=by
      by_cases hdi:id=i
      ·subst hdi;exact ⟨o,ho⟩
      ·rw[upd_ne' _ _ hdi] at hi;exact ⟨oi,hi⟩
     have hj':∃oj,st.objs j=some oj:=by
      by_cases hdj:id=j
      ·subst hdj;exact ⟨o,ho⟩
      ·rw[upd_ne' _ _ hdj] at hj;exact ⟨oj,hj⟩
     obtain ⟨oi',hi'⟩:=hi';obtain ⟨oj',hj'⟩:=hj';exact H.inj i j oi' oj' β bi bj hi' hj' pi pj
    ·intro i o₁ ho₁;by_cases hdi:id=i
     ·subst hdi;exact H.inU id o ho
     ·rw[upd_ne' _ _ hdi] at ho₁;exact H.inU i o₁ ho₁
    ·intro i o₁ ho₁;by_cases hdi:id=i
     ·subst hdi;rw[upd_eq] at ho₁;cases ho₁;obtain ⟨g1,g2⟩:=H'.ob 0 o' (upd_eq _ _ _);refine ⟨g1,?_⟩;rw[hφ0] at g2;rcases g2 with g2|⟨β,b,c,e,fz,k1,k2,k3,k4,k5⟩
      ·exact .inl g2
      ·refine .inr ⟨β,b,c,e,fz,k1,k2,k3,k4,λi j av hij=>?_⟩;obtain ⟨u,m1,m2,m3⟩:=k5 i j av hij;exact ⟨u,m1,m2,noId_rep (λβ hβ=>⟨hback β hβ,rfl⟩) m3 (leaf_noId (leafy_get hleaf hij))⟩
     ·rw[upd_ne' _ _ hdi] at ho₁;exact (H.ob i o₁ ho₁).mono rfl (λβ b hφ=>hkeep β (H.lt ho₁ hφ) λb' hb=>hdi (H.inj id i o o₁ β b' b ho ho₁ hb hφ)) λv av r=>G.repV r
   have rr':RepV φ (upd st.objs id (some o')) (·∈st.used) w'.heap (SS F φ (upd st.objs id (some o')) w') v (r.ren id):=
    ren_rep (obs':=upd st.objs id (some o')) (U':=(·∈st.used)) (d:=id) (λβ hβ=>⟨hback β hβ,rfl⟩) (H.inU id o ho) (upd_eq noOb 0 (some o')) (upd_eq _ _ _) (φ':=φ) hφ0.symm rr h0r
   refine ⟨v,_,rfl,k r o' hR hleaf,?_⟩;refine Rep.goes (φ':=φ) (w':=w') (av:=r.ren id) hn hdf hr ?_ ?_ rfl hd (λ_=>?_)
   ·cases d<;>exact G
   ·cases d<;>exact H2
   ·cases d<;>exact rr'
 | lend R h hl k hf=>
   refine ⟨h.1,?_⟩;have hlen:vs.size=(lends st.objs args).length:=by rw[hvs];exact lendsW_length.symm
   refine (h.2 ⟨w,λ_=>False,λβ=>β<w.heap.size,noOb,λ_=>none⟩ (λ_=>none) w vs rfl rfl rfl (callee_none _ w) hlen (lends_rep H (λβ hβ=>⟨hβ,(λi o b h=>by cases h),λ_=>.inl hβ⟩) hl ha)).mono ?_;rintro e w' ⟨v,r,O',φ',U',rfl,⟨⟨hR,hnr⟩,rfl⟩,H',rr⟩;have G:=goes_same (φ:=φ) (st:=st) H';have H2:=repH_same H H';refine ⟨v,st.put d r,rfl,k r hR,?_⟩;have rr':RepV φ st.objs (·∈st.used) w'.heap (SS F φ st.objs w') v r:=flat_rep rr (hf r hR);refine Rep.goes (φ':=φ) (w':=w') (av:=r) hn hdf hr ?_ ?_ rfl hd (λ_=>?_)
   ·cases d<;>exact G
   ·cases d<;>exact H2
   ·cases d<;>exact rr'
 | sem X h k=>
   refine ⟨h.1,(h.2 F φ w vs H hvs ha).mono ?_⟩;rintro e w' ⟨v,u,O,U,φ',rfl,hX,G,H',rr⟩;exact ⟨v,st.to d u O U,rfl,k u O U hX,Rep.goes (φ':=φ') (w':=w') (av:=u) (st':=st.to d u O U) hn hdf hr G H' rfl hd (λ_=>rr)⟩
end
end Go.Vc
namespace Go.Vc
def evs (st:St):List Operand->List AV
 | []=>[]
 | x::r=>st.ev x::evs st r
def evps (st:St):List (Nat×Operand)->List (Nat×AV)
 | []=>[]
 | (i,x)::r=>(i,st.ev x)::evps st r
def evo (st:St):Option Operand->Option AV
 | some x=>some (st.ev x)
 | none=>none
def VIF (x:Bool) (A B:Prop):Prop:=(x=true->A)/\(x=false->B)
theorem VIF_true (A B:Prop):VIF true A B=A:=by simp[VIF]
theorem VIF_false (A B:Prop):VIF false A B=B:=by simp[VIF]
@[congr] theorem VIF_congr {x y:Bool} {A B:Prop} {p00:Prop} (_h00:(True/\True)=p00) (h:x=y):VIF x A B=VIF y A B:=by rw[h]
def hPick:AV->AV->AV->(AV->Prop)->Prop
 | .pr (.bool c),a,b,K=>VIF c (K a) (K b)
 | _,_,_,_=>False
@[congr] theorem hPick_congr {c c' a a' b b':AV} {K:AV->Prop} {p00:Prop} (_h00:(True/\True)=p00) (h:c=c') (h1:a=a') (h2:b=b'):hPick c a b K=hPick c' a' b' K:=by rw[h,h1,h2]
def hUn:UnOp->AV->(AV->Prop)->Prop
 | .not,.pr (.bool b),K=>K (.pr (.bool !b))
 | .neg,.pr (.int k n),K=>K (.pr (.int k (k.wrap (0-n))))
 | _,_,_=>False
@[congr] theorem hUn_congr {op:UnOp} {x y:AV} {K:AV->Prop} {p00:Prop} (_h00:(True/\True)=p00) (h:x=y):hUn op x K=hUn op y K:=by rw[h]
def hConv:TK->TK->AV->(AV->Prop)->Prop
 | .int _,.int k,.pr (.int _ n),K=>K (.pr (.int k (k.wrap n)))
 | _,_,_,_=>False
@[congr] theorem hConv_congr {a a' b b':TK} {x y:AV} {K:AV->Prop} {p00:Prop} (_h00:(True/\True)=p00) (h1:a=a') (h2:b=b') (h:x=y):hConv a b x K=hConv a' b' y K:=by rw[h1,h2,h]
def hNil:AV->(AV->Prop)->Prop
 | .pt id i off,K=>K (.pt id i off)
 | .ro cs off,K=>K (.ro cs off)
 | _,_=>False
@[congr] theorem hNil_congr {x y:AV} {K:AV->Prop} {p00:Prop} (_h00:(True/\True)=p00) (h:x=y):hNil x K=hNil y K:=by rw[h]
def hExtract:AV->Nat->(AV->Prop)->Prop
 | .tu (v::_),0,K=>K v
 | .tu (_::r),n+1,K=>hExtract (.tu r) n K
 | _,_,_=>False
@[congr] theorem hExtract_congr {x y:AV} {n:Nat} {K:AV->Prop} {p00:Prop} (_h00:(True/\True)=p00) (h:x=y):hExtract x n K=hExtract y n K:=by rw[h]
def hMM (mx:Bool):AV->AV->(AV->Prop)->Prop
 | .pr (.int k x),.pr (.int k' y),K=>k=k'/\K (.pr (.int k (if mx then max x y else min x y)))
 | _,_,_=>False
@[congr] theorem hMM_congr {mx:Bool} {x y x' y':AV} {K:AV->Prop} {p00:Prop} (_h00:(True/\True)=p00) (h:x=x') (h2:y=y'):hMM mx x y K=hMM mx x' y' K:=by rw[h,h2]
def lenOk (k:TK) (x:AV):Prop:=match k,x with
 | .slice _,.pr _=>False
 | .slice _,_=>True
 | .str,.pr _=>True
 | _,_=>False
def hMake (st:St) (d:Option Nat) (sz:Nat) (zero:List AV) (x y:AV) (K:St->Prop):Prop:=
 match x,y with
 | .pr (.int _ n),.pr (.int _ m)=>(n=m/\0<=n/\n<=1073741824)/\newArr st d sz (List.replicate n.toNat zero) K
 | _,_=>False
@[congr] theorem hMake_congr {st:St} {d:Option Nat} {sz sz':Nat} {z z':List AV} {x y x' y':AV} {K:St->Prop} {p00:Prop} (_h00:(True/\True)=p00) (h:sz=sz') (h1:z=z') (h2:x=x') (h3:y=y'):hMake st d sz z x y K=hMake st d sz' z' x' y' K:=by rw[h,h1,h2,h3]
def hLit (st:St) (d:Option Nat) (sz:Nat) (qs:List (Nat×AV)) (K:St->Prop):Prop:=
 match d with
 | some d=>d∉st.used/\lit sz 0 qs λes=>K {regs:=upd st.regs d (.rf d 0 es.length),objs:=upd st.objs d (some ⟨sz,es⟩),used:=d::st.used}
 | none=>False
@[congr] theorem hLit_congr {st:St} {d:Option Nat} {sz sz':Nat} {x y:List (Nat×AV)} {K:St->Prop} {p00:Prop} (_h00:(True/\True)=p00) (h:x=y) (h2:sz=sz'):hLit st d sz x K=hLit st d sz' y K:=by rw[h,h2]
def hMF (f:Nat):List Operand->List AV->List AV->(AV->Prop)->Prop
 | [],_,cs,K=>f<1000000000/\K (.fn f cs)
 | _::_,fs,[],K=>K (.fn (f+1000000000) fs)
 | _,_,_,_=>False
@[congr] theorem hMF_congr {f:Nat} {l l':List Operand} {x y x' y':List AV} {K:AV->Prop} {p00:Prop} (_h00:(True/\True)=p00) (h0:l=l') (h:x=y) (h2:x'=y'):hMF f l x x' K=hMF f l' y y' K:=by rw[h0,h,h2]
def hCall (P:Program) (st:St) (d:Option Nat):AV->List AV->(St->Prop)->Prop
 | .fn f caps,args,K=>CALL P f (args++caps) st d K
 | _,_,_=>False
@[congr] theorem hCall_congr {P:Program} {st:St} {d:Option Nat} {x y:AV} {l l':List AV} {K:St->Prop} {p00:Prop} (_h00:(True/\True)=p00) (h:x=y) (h2:l=l'):hCall P st d x l K=hCall P st d y l' K:=by rw[h,h2]
def appInt (st:St) (d sz:Nat) (zero:List AV):AV->AV->(St->Prop)->Prop
 | .nl,.pr (.int _ n),K=>(0<n/\n<=1073741824)/\newArr st (some d) sz (List.replicate n.toNat zero) K
 | _,_,_=>False
@[congr] theorem appInt_congr {st:St} {d sz sz':Nat} {z z':List AV} {x y x' y':AV} {K:St->Prop} {p00:Prop} (_h00:(True/\True)=p00) (h:sz=sz') (h1:z=z') (h2:x=x') (h3:y=y'):appInt st d sz z x y K=appInt st d sz' z' x' y' K:=by rw[h,h1,h2,h3]
def hApp (T:Nat->TI) (k2:TK) (st:St) (d e:Nat) (x y:AV) (K:St->Prop):Prop:=
 match k2 with
 | .slice _=>appSrc st.objs (T e).size y λnew=>appDst st d (T e).size x new K
 | .int _=>appInt st d (T e).size (T e).zero x y K
 | _=>False
@[congr] theorem hApp_congr {T:Nat->TI} {k2 k2':TK} {st:St} {d e:Nat} {x y x' y':AV} {K:St->Prop} {p00:Prop} (_h00:(True/\True)=p00) (h:k2=k2') (h2:x=x') (h3:y=y'):hApp T k2 st d e x y K=hApp T k2' st d e x' y' K:=by rw[h,h2,h3]
def capI:AV->(Int->Prop)->Prop
 | .nl,K=>K 0
 | _,_=>False
@[congr] theorem capI_congr {x y:AV} {K:Int->Prop} {p00:Prop} (_h00:(True/\True)=p00) (h:x=y):capI x K=capI y K:=by rw[h]
def hClear (st:St) (d:Option Nat) (sz:Nat) (zero:List AV):AV->(St->Prop)->Prop
 | .rf id off len,K=>OB (st.objs id) λo=>(o.sz=sz/\0<len)/\K {st.put d (.tu []) with objs:=upd st.objs id (some {o with es:=o.es.take off++List.replicate len zero++o.es.drop (off+len)})}
 | _,_=>False
@[congr] theorem hClear_congr {st:St} {d:Option Nat} {sz sz':Nat} {z z':List AV} {x x':AV} {K:St->Prop} {p00:Prop} (_h00:(True/\True)=p00) (h:sz=sz') (h1:z=z') (h2:x=x'):hClear st d sz z x K=hClear st d sz' z' x' K:=by rw[h,h1,h2]
def hBuiltin (T:Nat->TI) (st:St) (d:Option Nat) (ts:List Nat):Builtin->List AV->(St->Prop)->Prop
 | .len,[x],K=>(match ts with | [t]=>lenOk (T t).k x|_=>False)/\lenI x λn=>K (st.put d (.pr (.int .i64 n)))
 | .min,[x,y],K=>hMM false x y λv=>K (st.put d v)
 | .max,[x,y],K=>hMM true x y λv=>K (st.put d v)
 | .append,[x,y],K=>match ts,d with
   | [t1,t2],some d=>sTK (T t1).k λe=>hApp T (T t2).k st d e x y K
   | _,_=>False
 | .cap,[x],K=>match ts with
   | [t]=>sTK (T t).k λ_=>capI x λn=>K (st.put d (.pr (.int .i64 n)))
   | _=>False
 | .clear,[x],K=>match ts with
   | [t]=>sTK (T t).k λe=>hClear st d (T e).size (T e).zero x K
   | _=>False
 | _,_,_=>False
@[congr] theorem hBuiltin_congr {T:Nat->TI} {st:St} {d:Option Nat} {ts ts':List Nat} {b:Builtin} {l l':List AV} {K:St->Prop} {p00:Prop} (_h00:(True/\True)=p00) (h:ts=ts') (h2:l=l') :
 hBuiltin T st d ts b l K=hBuiltin T st d ts' b l' K:=by rw[h,h2]
def evOp (P:Program) (T:Nat->TI) (st:St) (d:Option Nat) (op:Op) (K:St->Prop):Prop:=
 match op with
 | .move x=>K (st.put d (st.ev x))
 | .assign x=>K (st.put d (st.ev x))
 | .pick c a b=>hPick (st.ev c) (st.ev a) (st.ev b) λv=>K (st.put d v)
 | .binOp op t x y _=>hBin T t op (st.ev x) (st.ev y) λv=>K (st.put d v)
 | .unOp op _ x=>hUn op (st.ev x) λv=>K (st.put d v)
 | .convert a b x=>hConv (T a).k (T b).k (st.ev x) λv=>K (st.put d v)
 | .load t x=>hLoad T st.objs t (st.ev x) λv=>K (st.put d v)
 | .store t x y=>d=none/\hStore T st t (st.ev x) (st.ev y) K
 | .alloc t=>(T t).k.known=true/\newBox st d (T t).zero K
 | .box _ x=>cellsOf (st.ev x) λcs=>newBox st d cs K
 | .build t ps=>hBuild (T t).k (T t).zero (evps st ps.toList) λv=>K (st.put d v)
 | .buildSlice t len ps=>sTK (T t).k λe=>(len=ps.toList.length/\len*(T e).size<=16777216)/\hLit st d (T e).size (evps st ps.toList) K
 | .makeSlice t x y=>sTK (T t).k λe=>hMake st d (T e).size (T e).zero (st.ev x) (st.ev y) K
 | .fieldAddr t x f=>hField T t f (st.ev x) λv=>K (st.put d v)
 | .indexAddr t x i=>hIdx T st.objs t (st.ev x) (st.ev i) λv=>K (st.put d v)
 | .slice t x lo hi none=>hSlice T st.objs t (st.ev x) (evo st lo) (evo st hi) λv=>K (st.put d v)
 | .nilCheck x=>hNil (st.ev x) λv=>K (st.put d v)
 | .extract x n=>hExtract (st.ev x) n λv=>K (st.put d v)
 | .makeFunc (.func f) first caps=>hMF f first.toList (evs st first.toList) (evs st caps.toList) λv=>K (st.put d v)
 | .call {callee:=.value f,args,..}=>hCall P st d (st.ev f) (evs st args.toList) K
 | .call {callee:=.builtin b,args,argTypes}=>hBuiltin T st d argTypes.toList b (evs st args.toList) K
 | _=>False
section
variable {P:Program} {T:Nat->TI} {F:Fr} {φ:Nat->Option (Nat×Nat)} {st:St} {w:World}
theorem evs_get (l:List Operand) (j:Nat):(evs st l)[j]?=(l[j]?).map st.ev:=by
 induction l generalizing j with
 | nil=>simp[evs]
 | cons x r ih=>cases j with
   | zero=>simp[evs]
   | succ j=>simp[evs,ih]
theorem evs_length (l:List Operand):(evs st l).length=l.length:=by
 induction l with
 | nil=>rfl
 | cons x r ih=>simp[evs,ih]
theorem evps_parts {a:Act} (hr:∀t,RV F φ st w (a.tmps.getD t undef) (st.regs t)) (ps:List (Nat×Operand)):Parts (RV F φ st w) (ps.map λ(i,x)=>(i,a.eval x)) (evps st ps):=by
 induction ps with
 | nil=>exact .nil
 | cons p r ih=>exact .cons (rv_ev hr p.2) ih
theorem value_step {n:Nat} {o:Oper} {a:Act} {K:St->Prop} {next:Act->World->Prop} {Q:Exit->Act->World->Prop} {s:Sem Value}
 (hn:a.tmps.size=n) (hdf:a.defers=[]) (H:RepH F φ st.objs (·∈st.used) w) (hr:∀t,RV F φ st w (a.tmps.getD t undef) (st.regs t)) (hd:∀x,o.dst=some x->x<n)
 (hy:Yields P w (RV F φ st w) s λv=>K (st.put o.dst v)) (he:∀v,s.run P w=.ok v w->(execOp a.eval o).run P w=.ok (.value v) w)
 (hnext:∀st' a' w',Rep F n st' a' w'->K st'->next a' w'):o.wp P a w next Q:=by
 obtain ⟨v,av,h1,h2,h3⟩:=hy;unfold Oper.wp;rw[he v h1];exact hnext _ _ _ (Rep.put hn hdf H hr rfl rfl rfl rfl hd h2) h3
theorem make_step {n x:Nat} {o:Oper} {a:Act} {K:St->Prop} {next:Act->World->Prop} {Q:Exit->Act->World->Prop} {u:Value} {av:AV} {ob:Ob} {w':World}
 (hn:a.tmps.size=n) (hdf:a.defers=[]) (hr:∀t,RV F φ st w (a.tmps.getD t undef) (st.regs t)) (hd:∀x,o.dst=some x->x<n) (hx:o.dst=some x)
 (he:(execOp a.eval o).run P w=.ok (.value u) w') (hM:Makes F φ st w w' x u av ob) (hk:K {regs:=upd st.regs x av,objs:=upd st.objs x (some ob),used:=x::st.used})
 (hnext:∀st' a' w',Rep F n st' a' w'->K st'->next a' w'):o.wp P a w next Q:=by
 obtain ⟨φ',G,H',rr⟩:=hM;unfold Oper.wp;rw[he];refine hnext _ _ _ (Rep.goes (st':={regs:=upd st.regs x av,objs:=upd st.objs x (some ob),used:=x::st.used}) (av:=av) hn hdf hr G H' ?_ hd (λ_=>rr)) hk;rw[hx];rfl
theorem run_of {o:Oper} {a:Act} {s:Sem Value} (h:execOp a.eval o=s >>= λr=>pure (Next.value r)) {w w':World} {v:Value} (hs:s.run P w=.ok v w'):(execOp a.eval o).run P w=.ok (.value v) w':=by rw[h,Sem.run_bind,hs];rfl
theorem hExtract_yields {x:AV} {v:Value} {n:Nat} {K:AV->Prop} (hk:hExtract x n K) (r:RV F φ st w v x):Yields P w (RV F φ st w) (Instr.extract v n) K:=by
 cases x with
 | tu vs=>
   have key:∀(vs:List AV) (n:Nat),hExtract (.tu vs) n K->∃av,vs[n]?=some av/\K av:=by
    intro vs
    induction vs with
    | nil=>intro n h;cases n<;>exact False.elim h
    | cons y r ih=>
      intro n h;cases n with
      | zero=>exact ⟨y,rfl,h⟩
      | succ n=>obtain ⟨av,h1,h2⟩:=ih n h;exact ⟨av,by simpa using h1,h2⟩
   obtain ⟨av,h1,h2⟩:=key vs n hk;cases r with
   | rd r=>cases r
   | tu hs hr=>
     rename_i arr;have hlt:=(List.getElem?_eq_some_iff.1 h1).1;have hlt':n<arr.size:=(by omega);refine ⟨arr.getD n undef,av,?_,hr n av h1,h2⟩;simp[Instr.extract,hlt']
 | _=>cases n<;>exact False.elim hk
theorem hNil_inv {x:AV} {v:Value} {K:AV->Prop} (hk:hNil x K) (r:RV F φ st w v x):K x/\∃a,v=.pointer (some a):=by
 cases x with
 | pt id i off=>
   cases r with
   | rd r=>cases r
   | pt hu hv hr=>exact ⟨hk,hv⟩
 | ro cs off=>
   cases r with
   | rd r=>cases r
   | ro vs hS hb hc hr=>exact ⟨hk,_,rfl⟩
 | _=>exact False.elim hk
theorem hClear_goes (hT:TabOk P T) (hE:∀t e,(T t).k=.slice e->(T e).k.known=true) (H:RepH F φ st.objs (·∈st.used) w)
 {t e:Nat} {d:Option Nat} {ty:TypeId} (ht:(T t).k=.slice e) {x:AV} {v:Value} {K:St->Prop} (hk:hClear st d (T e).size (T e).zero x K) (rx:RV F φ st w v x) :
 ∃(objs':Nat->Option Ob) (w':World),(Builtin.clear_ #[t] ty #[v]).run P w=.ok (.tuple #[]) w'/\K {st.put d (.tu []) with objs:=objs'}/\Goes φ φ st.objs objs' (·∈st.used) (·∈st.used) w w'/\RepH F φ objs' (·∈st.used) w':=by
 unfold hClear at hk;split at hk
 ·rename_i id off len;obtain ⟨o,ho,⟨hsz,hlen⟩,hk⟩:=hk;have he:=hE t e ht;have hpos:=known_of_size hT he;obtain ⟨z,h1,h2,hz,h3⟩:=zero_cells (P:=P) (F:=F) (φ:=φ) (st:=st) (w:=w) hT he;have hrow:=zeros_row (F:=F) (φ:=φ) (st:=st) (w:=w) hT he (n:=len) (h2.trans hz) h3 hz;have hzs:Builtin.zeroCells z.cells len=(Array.range (len*(T e).size)).map (z.cells[·%z.cells.size]!):=by
   simp only[Builtin.zeroCells];rw[h2.trans hz]
  rw[<- hzs] at hrow;have hu:=hT.kinds t;rw[ht] at hu;simp only[KOk] at hu;cases rx with
  | rd r=>cases r
  | rf hu' hv hr=>
  obtain ⟨g1,g2⟩:=hr o ho;rcases g2 with ⟨h0,_⟩|⟨β,b,cap,c,e',fz,k1,k2,rfl,k4,k5⟩
  ·omega
  ·obtain ⟨hel,c',e'',fz',hb,hsoft,hfit,hc⟩:=ob_at H ho k1;rw[k2] at hb;cases hb;have hsize:(Builtin.zeroCells z.cells len).toList.length=len*o.sz:=(by rw[Array.length_toList,zeroCells_size,h2,hz,hsz]);have hbound:b+off*o.sz+0+(Builtin.zeroCells z.cells len).toList.length<=c.size:=by
    rw[hsize];have:(off+len)*o.sz<=o.es.length*o.sz:=Nat.mul_le_mul_right _ (by omega);rw[Nat.add_mul] at this;omega
   have hone:∀v∈(Builtin.zeroCells z.cells len).toList,v.oneCell'=true:=λv hv=>by obtain ⟨k,hk,rfl⟩:=List.mem_iff_getElem.1 hv;have:=hrow.one k (by simpa using hk);simp at hk;simpa [hk] using this
   have hst:=run_storeCells_blk (P:=P) (b+off*o.sz) (Builtin.zeroCells z.cells len).toList 0 w c k2 hsoft (by simpa using hbound) hone;refine ⟨_,World.setBlk w β (putAt c (b+off*o.sz) (Builtin.zeroCells z.cells len).toList) e' fz,?_,hk,?_⟩
   ·obtain ⟨m,rfl⟩:∃m,len=m+1:=⟨len-1,by omega⟩;have h1':=h1;simp[Builtin.clear_,run_underlying hu,h1',hst]
   ·have hl1:(o.es.take off).length=off:=by rw[List.length_take];omega
    have hlt:(o.es.take off++List.replicate len (T e).zero++o.es.drop (off+len)).length=o.es.length:=by simp only[List.length_append,List.length_replicate,List.length_drop,hl1];omega
    refine Rep.set (o':={o with es:=o.es.take off++List.replicate len (T e).zero++o.es.drop (off+len)}) H ho k1 k2 hsoft rfl (Nat.le_of_eq hlt.symm) (putAt_len (c:=c) (o:=b+off*o.sz) (l:=(Builtin.zeroCells z.cells len).toList)) ?_ ?_ ?_ rfl
    ·intro x hx;simp only[List.mem_append] at hx;rcases hx with (hx|hx)|hx
     ·exact hel x (List.mem_of_mem_take hx)
     ·rw[(List.mem_replicate.1 hx).2,hz,hsz]
     ·exact hel x (List.mem_of_mem_drop hx)
    ·rw[putAt_len,hlt];exact hfit
    ·intro k j av hkj;dsimp only at hkj ⊢;rw[putAt_get _ _ _ _ (by simpa using hbound),hsize];have hjlt:j<o.sz:=by
      refine (cellAt_lt (sz:=o.sz) (λx hx=>?_) hkj).2;simp only[List.mem_append] at hx;rcases hx with (hx|hx)|hx
      ·exact hel x (List.mem_of_mem_take hx)
      ·rw[(List.mem_replicate.1 hx).2,hz,hsz]
      ·exact hel x (List.mem_of_mem_drop hx)
     by_cases hk1:k<off
     ·have hkj':cellAt o.es k j=some av:=by
       simp only[cellAt] at hkj ⊢;rw[List.append_assoc,List.getElem?_append_left (by omega),List.getElem?_take,if_pos hk1] at hkj;exact hkj
      obtain ⟨v',g1,g2,g3⟩:=hc k j av hkj';refine ⟨v',?_,g2,g3⟩;rw[if_neg ?_];exact g1;have:(k+1)*o.sz<=off*o.sz:=Nat.mul_le_mul_right _ hk1;rw[Nat.add_mul] at this;omega
     ·by_cases hk2:k<off+len
      ·have hkj':cellAt (List.replicate len (T e).zero) (k-off) j=some av:=by
        simp only[cellAt] at hkj ⊢;rw[List.append_assoc,List.getElem?_append_right (by omega),hl1,List.getElem?_append_left (by simp;omega)] at hkj;exact hkj
       obtain ⟨v',g1,g2,g3⟩:=hrow.get hkj';refine ⟨v',?_,g2,g3⟩;have h5:off*o.sz+(k-off)*o.sz=k*o.sz:=by rw[<- Nat.add_mul];congr 1;omega
       have h6:(k-off+1)*o.sz<=len*o.sz:=Nat.mul_le_mul_right _ (by omega);rw[Nat.add_mul] at h6;rw[if_pos (by omega),show b+k*o.sz+j-(b+off*o.sz)=(k-off)*o.sz+j by omega];rw[hsz];simpa using g1
      ·have hkj':cellAt o.es k j=some av:=by
        simp only[cellAt] at hkj ⊢;rw[List.append_assoc,List.getElem?_append_right (by omega),hl1,List.getElem?_append_right (by simp;omega),List.getElem?_drop,List.length_replicate] at hkj;rw[show off+len+(k-off-len)=k by omega] at hkj;exact hkj
       obtain ⟨v',g1,g2,g3⟩:=hc k j av hkj';refine ⟨v',?_,g2,g3⟩;rw[if_neg ?_];exact g1;have:(off+len)*o.sz<=k*o.sz:=Nat.mul_le_mul_right _ (by omega);rw[Nat.add_mul] at this;omega
 ·exact hk.elim
theorem hApp_both (hT:TabOk P T) (hE:∀t e,(T t).k=.slice e->(T e).k.known=true) (H:RepH F φ st.objs (·∈st.used) w)
 {t1 t2 e d:Nat} {ty:TypeId} (ht1:(T t1).k=.slice e) {x y:AV} {v u:Value} {K:St->Prop}
 (hk:hApp T (T t2).k st d e x y K) (rx:RV F φ st w v x) (ry:RV F φ st w u y) :
 ∃(r:Value) (av:AV) (φ':Nat->Option (Nat×Nat)) (objs':Nat->Option Ob) (w':World),(Builtin.append_ #[t1,t2] ty #[v,u]).run P w=.ok r w'/\K {regs:=upd st.regs d av,objs:=objs',used:=d::st.used} /\
  Goes φ φ' st.objs objs' (·∈st.used) (·∈d::st.used) w w'/\RepH F φ' objs' (·∈d::st.used) w'/\RepV φ' objs' (·∈d::st.used) w'.heap (SS F φ' objs' w') r av:=by
 generalize hk2:(T t2).k=k2 at hk;unfold hApp at hk;split at hk
 ·exact hApp_goes hT hE H ht1 (by rw[hk2];trivial) hk rx ry
 ·unfold appInt at hk;split at hk
  ·rename_i k' k n;obtain ⟨⟨h0,hn⟩,hk⟩:=hk;unfold newArr at hk;obtain ⟨hd,hk⟩:=hk;obtain ⟨m,rfl⟩:=Int.eq_ofNat_of_zero_le (Int.le_of_lt h0);have he:=hE t1 e ht1;obtain ⟨i,z',hi⟩:=hT.infos e he;obtain ⟨z,h1,h2,hz,h3⟩:=zero_cells (P:=P) (F:=F) (φ:=φ) (st:=st) (w:=w) hT he;have hu:=hT.kinds t1;rw[ht1] at hu;simp only[KOk] at hu;have hu2:=hT.kinds t2;rw[hk2] at hu2;simp only[KOk] at hu2;have hpos:=known_of_size hT he;have hv:v=.slice none 0 0:=by
    cases rx with|rd r=>cases r;rfl
   have huv:=inv_pr ry;subst hv;subst huv;have hw:IntKind.i64.wrap (m:Int)=m:=wrap_i64 (by omega) (by omega);have hb0:¬(i.bytes=0):=by rw[hi.bytes];have:=hi.b0;omega
   have hb:¬(281474976710656:Int)<(m:Int)*(i.bytes:Int):=by rw[hi.bytes];have:=Nat.mul_le_mul (show m<=1073741824 by omega) hi.b1;have h2:(m:Int)*((T e).bytes:Int)=((m*(T e).bytes:Nat):Int):=(by simp);rw[h2];omega
   have hnx:¬(281474976710656<Builtin.nextslicecap m 0*i.bytes):=by
    have h3:=nextslicecap_le (need:=m) (old:=0) (by omega);have h4:i.bytes<=4096:=by rw[hi.bytes];exact hi.b1
    have:=Nat.mul_le_mul h3 h4;omega
   have hrow:=zeros_row (F:=F) (φ:=φ) (st:=st) (w:=w) hT he (n:=m) (h2.trans hz) h3 hz;have hzz:z=z':=by have:=h1;simp[zeroValue,typeInfo,hi.info,hi.zero] at this;exact this.symm
   subst hzz;have hsz:(Builtin.zeroCells z.cells m)=(Array.range (m*(T e).size)).map (z.cells[·%z.cells.size]!):=by simp only[Builtin.zeroCells];rw[h2.trans hz]
   obtain ⟨G,H'⟩:=Rep.new (o:=⟨(T e).size,List.replicate m (T e).zero⟩) (c:=#[]++Builtin.zeroCells z.cells m++Builtin.zeroCells z.cells ((Question.appendCap m 0 e).cut (w.tape w.drawn (Question.appendCap m 0 e))-m)) (e:=e)
    (w':={w with drawn:=w.drawn+1,heap:=w.heap.push (.cells (#[]++Builtin.zeroCells z.cells m++Builtin.zeroCells z.cells ((Question.appendCap m 0 e).cut (w.tape w.drawn (Question.appendCap m 0 e))-m)) e (0,0))}) H hd
    hrow.el (by rw[List.length_replicate];simp only[Array.size_append,zeroCells_size,h2.trans hz,Array.size_empty];omega) (λi j av hij=>by
     obtain ⟨v,g1,g2,g3⟩:=hrow.get hij;refine ⟨v,?_,g2,g3⟩;have hl:=hrow.lt hij;rw[<- hsz] at g1 hl;simp only[Array.empty_append,Array.getElem?_append,hl,if_true];exact g1) rfl rfl rfl rfl
   refine ⟨.slice (some ⟨w.heap.size,0,none⟩) m ((Question.appendCap m 0 e).cut (w.tape w.drawn (Question.appendCap m 0 e))),.rf d 0 (List.replicate (Int.toNat m) (T e).zero).length,_,_,_,?_,hk,G,H',?_⟩
   ·have hm:¬(m*(T e).size=0):=by have:=Nat.mul_pos (show 0<m by omega) hpos;omega
    have hm0:¬m=0:=(by omega);have hneg:¬((m:Int)<0):=(by omega);have hmax:¬((9223372036854775807:Int)<(m:Int)):=(by omega);simp[Builtin.append_,run_underlying hu,run_underlying hu2,run_sizeOf_tab hT he,asInt,asIntOf,hw,hneg,hb,hb0,hm,hm0,hnx,hmax,typeInfo,hi.info,zeroValue,hi.zero,Question.forced,Builtin.firstCells,newRow];rfl
   ·simp only[List.length_replicate,Int.toNat_natCast];refine .rf List.mem_cons_self ⟨_,_,rfl,by simp⟩ λo' ho'=>?_;rw[upd_eq] at ho';cases ho';have hcut:m<=(Question.appendCap m 0 e).cut (w.tape w.drawn (Question.appendCap m 0 e)):=(by simp[Question.cut]);refine ⟨by simp,.inr ⟨w.heap.size,0,_,_,e,(0,0),upd_eq _ _ _,Array.getElem?_push_size,by simp,hcut,?_⟩⟩;simp only[Array.size_append,zeroCells_size,Nat.zero_add,Array.size_empty,h2.trans hz,<- Nat.add_mul];exact Nat.mul_le_mul_right _ (by omega)
  ·exact hk.elim
 ·exact hk.elim
theorem evOp_sound (hT:TabOk P T) (hE:∀t e,(T t).k=.slice e->(T e).k.known=true) {n:Nat} {o:Oper} {a:Act} {K:St->Prop} {next:Act->World->Prop} {Q:Exit->Act->World->Prop}
 (hev:evOp P T st o.dst o.op K) (R:Rep F n st a w) (hd:∀x,o.dst=some x->x<n) (hnext:∀st' a' w',Rep F n st' a' w'->K st'->next a' w'):o.wp P a w next Q:=by
 obtain ⟨hn,hdf,φ,H,hr⟩:=R;have hv:=λx=>rv_ev (a:=a) hr x;unfold evOp at hev;split at hev
 ·rename_i x hop;exact value_step (s:=pure (a.eval x)) hn hdf H hr hd ⟨_,_,rfl,hv x,hev⟩ (λv h=>by simp only[execOp,hop];simpa using h) hnext
 ·rename_i x hop;exact value_step (s:=pure (a.eval x)) hn hdf H hr hd ⟨_,_,rfl,hv x,hev⟩ (λv h=>by simp only[execOp,hop];simpa using h) hnext
 ·-- pick
  rename_i c x y hop;have hc:=hv c;generalize st.ev c=cv at hc hev;cases cv with
  | pr u=>
    cases u with
    | bool b=>
      have hc':=inv_pr hc;obtain ⟨h1,h2⟩:=hev;have he:(execOp a.eval o).run P w=.ok (.value (if b then a.eval x else a.eval y)) w:=by simp[execOp,hop,hc',asBool]
      unfold Oper.wp;rw[he];cases b with
      | true=>exact hnext _ _ _ (Rep.put hn hdf H hr rfl rfl rfl rfl hd (hv x)) (h1 rfl)
      | false=>exact hnext _ _ _ (Rep.put hn hdf H hr rfl rfl rfl rfl hd (hv y)) (h2 rfl)
    | _=>exact False.elim hev
  | _=>exact False.elim hev
 ·-- two operands
  rename_i op t x y yt hop;refine value_step hn hdf H hr hd (hBin_yields (P:=P) hT (ox:=x) (oy:=y) hev (hv x) (hv y)) (λv h=>run_of ?_ h) hnext;simp only[execOp,hop]
 ·-- one
  rename_i op t x hop;have hx:=hv x;generalize st.ev x=xv at hx hev;cases op with
  | not=>
    cases xv with
    | pr u=>
      cases u with
      | bool b=>
        refine value_step (s:=Op.unary .not (a.eval x)) hn hdf H hr hd ⟨.bool (!b),_,?_,.rd (.pr _ rfl),hev⟩ (λv h=>run_of (by simp only[execOp,hop]) h) hnext;rw[inv_pr hx];rfl
      | _=>exact False.elim hev
    | _=>exact False.elim hev
  | neg=>
    cases xv with
    | pr u=>
      cases u with
      | int k m=>
        refine value_step (s:=Op.unary .neg (a.eval x)) hn hdf H hr hd ⟨.int k (k.wrap (0-m)),_,?_,.rd (.pr _ rfl),hev⟩ (λv h=>run_of (by simp only[execOp,hop]) h) hnext;rw[inv_pr hx];rfl
      | _=>exact False.elim hev
    | _=>exact False.elim hev
  | _=>cases xv<;>exact False.elim hev
 ·-- conversions of ints
  rename_i t1 t2 x hop;have hx:=hv x;have k1:=hT.kinds t1;have k2:=hT.kinds t2;generalize (T t1).k=tk1 at hev k1;generalize (T t2).k=tk2 at hev k2;generalize st.ev x=xv at hx hev;cases tk1 with
  | int ka=>
    cases tk2 with
    | int kb=>
      cases xv with
      | pr u=>
        cases u with
        | int k m=>
          refine value_step (s:=convert t1 t2 (a.eval x)) hn hdf H hr hd ⟨.int kb (kb.wrap m),_,?_,.rd (.pr _ rfl),hev⟩ (λv h=>run_of (by simp only[execOp,hop]) h) hnext;rw[inv_pr hx];simp only[KOk] at k1 k2;simp[convert,run_underlying k1,run_underlying k2,Conv.intToInt]
        | _=>exact False.elim hev
      | _=>exact False.elim hev
    | _=>cases xv<;>exact False.elim hev
  | _=>cases tk2<;>cases xv<;>exact False.elim hev
 ·-- load
  rename_i t x hop;exact value_step hn hdf H hr hd (hLoad_yields (P:=P) hT H hev (hv x)) (λv h=>run_of (by simp only[execOp,hop]) h) hnext
 ·-- store
  rename_i t x y hop;obtain ⟨hdn,hev⟩:=hev;obtain ⟨objs',w',h1,h2,G,H'⟩:=hStore_goes (P:=P) hT H hev (hv x) (hv y);unfold Oper.wp;have he:(execOp a.eval o).run P w=.ok .skip w':=(by simp only[execOp,hop,Sem.run_bind,h1,Result.andThen_ok,Sem.run_pure]);rw[he];exact hnext _ _ _ (Rep.goes (st':={st with objs:=objs'}) (av:=.un) hn hdf hr G H' (by rw[hdn];rfl) hd (λh=>absurd hdn h)) h2
 ·-- alloc
  rename_i t hop;obtain ⟨hk,hev⟩:=hev;unfold newBox at hev;split at hev
  ·rename_i x hx;obtain ⟨hx1,hev⟩:=hev;obtain ⟨u,w',h1,hM⟩:=alloc_makes (P:=P) hT H hk hx1;exact make_step hn hdf hr hd hx (run_of (by simp only[execOp,hop]) h1) hM hev hnext
  ·exact hev.elim
 ·-- box
  rename_i t x hop;generalize hdst:o.dst=dst at hev;cases dst with
  | none=>
    obtain ⟨cs,hk,_⟩:=cellsOf_spec hev (hv x);exact False.elim hk
  | some d=>
    have hdd:d∉st.used:=by obtain ⟨cs,hk,_⟩:=cellsOf_spec hev (hv x);exact hk.1
    obtain ⟨cs,u,w',⟨_,hk⟩,h1,hM⟩:=box_makes (P:=P) (t:=t) H hdd hev (hv x);exact make_step hn hdf hr hd hdst (run_of (by simp only[execOp,hop]) h1) hM hk hnext
 ·-- build
  rename_i t ps hop;refine value_step hn hdf H hr hd (hBuild_yields (P:=P) (ps:=ps.map λ(i,x)=>(i,a.eval x)) hT hev (by simpa using evps_parts hr ps.toList)) (λv h=>run_of (by simp only[execOp,hop]) h) hnext
 ·-- buildSlice
  rename_i t len ps hop;obtain ⟨e,ht,⟨hl,hlen⟩,hev⟩:=sTK_spec hev;have he:=hE t e ht;unfold hLit at hev;split at hev
  ·rename_i d hdst;obtain ⟨hx1,hev⟩:=hev;have hlen2:(evps st ps.toList).length=ps.toList.length:=by
    have:∀l:List (Nat×Operand),(evps st l).length=l.length:=by
     intro l
     induction l with
     | nil=>rfl
     | cons p r ih=>simp[evps,ih]
    exact this _
   obtain ⟨u,es,w',hk,h1,hM⟩:=buildSlice_makes (P:=P) (ps:=ps.map λ(i,x)=>(i,a.eval x)) hT H ht he hx1 (by omega) hlen hev (by simpa using evps_parts hr ps.toList);exact make_step hn hdf hr hd hdst (run_of (by simp only[execOp,hop]) h1) hM hk hnext
  ·exact hev.elim
 ·-- makeSlice
  rename_i t x y hop;obtain ⟨e,ht,hev⟩:=sTK_spec hev;have hx:=hv x;have hy:=hv y;generalize st.ev x=xv at hx hev;generalize st.ev y=yv at hy hev;unfold hMake at hev;split at hev
  ·rename_i k m k' m';obtain ⟨⟨rfl,h0,h1⟩,hev⟩:=hev;unfold newArr at hev;split at hev
   ·rename_i d hx';obtain ⟨hx1,hev⟩:=hev;obtain ⟨m,rfl⟩:=Int.eq_ofNat_of_zero_le h0;obtain ⟨u,w',h1,hM⟩:=make_makes (P:=P) (k:=k) (k':=k') (n:=m) hT H ht (hE t e ht) hx1 (by omega);refine make_step hn hdf hr hd hx' (run_of (s:=Instr.makeSlice t (a.eval x) (a.eval y)) (by simp only[execOp,hop]) (by rw[inv_pr hx,inv_pr hy];exact h1)) hM ?_ hnext;simpa using hev
   ·exact hev.elim
  ·exact hev.elim
 ·-- a field's address
  rename_i t x f hop;exact value_step hn hdf H hr hd (hField_yields (P:=P) hT hev (hv x)) (λv h=>run_of (by simp only[execOp,hop]) h) hnext
 ·rename_i t x i hop;exact value_step hn hdf H hr hd (hIdx_yields (P:=P) hT hE hev (hv x) (hv i)) (λv h=>run_of (by simp only[execOp,hop]) h) hnext
 ·-- a cut
  rename_i t x lo hi hop;refine value_step hn hdf H hr hd (hSlice_yields (P:=P) hT hE hev (hv x) (vlo:=lo.map a.eval) (vhi:=hi.map a.eval) ?_ ?_) (λv h=>run_of (by simp only[execOp,hop,Option.map_none]) h) hnext
  ·cases lo with
   | none=>exact .inl ⟨rfl,rfl⟩
   | some x=>exact .inr ⟨_,_,rfl,rfl,hv x⟩
  ·cases hi with
   | none=>exact .inl ⟨rfl,rfl⟩
   | some x=>exact .inr ⟨_,_,rfl,rfl,hv x⟩
 ·-- nilCheck
  rename_i x hop;obtain ⟨hk,b,hb⟩:=hNil_inv hev (hv x);refine value_step (s:=pure (a.eval x)) hn hdf H hr hd ⟨_,_,rfl,hv x,hk⟩ (λv h=>?_) hnext;simp only[Sem.run_pure] at h;cases h;simp[execOp,hop,hb]
 ·rename_i x m hop;exact value_step hn hdf H hr hd (hExtract_yields (P:=P) hev (hv x)) (λv h=>run_of (by simp only[execOp,hop]) h) hnext
 ·-- a function value
  rename_i f first caps hop;have hcaps:∀(l:Array Operand) (j:Nat) (av:AV),(evs st l.toList)[j]?=some av->RV F φ st w ((l.map a.eval).getD j undef) av:=λl j av hj=>by rw[evs_get] at hj;obtain ⟨x,h1,rfl⟩:=Option.map_eq_some_iff.1 hj;have h2:l[j]?=some x:=(by simpa using h1);simp[Array.getD_eq_getD_getElem?,h2];exact hv x
  obtain ⟨fs,hfs⟩:∃fs,fs=evs st first.toList:=⟨_,rfl⟩;obtain ⟨cs,hcs⟩:∃cs,cs=evs st caps.toList:=⟨_,rfl⟩;have hl1:fs.length=first.size:=by rw[hfs];simp[evs_length]
  have hl2:cs.length=caps.size:=by rw[hcs];simp[evs_length]
  rw[<- hfs,<- hcs] at hev;refine value_step (s:=Instr.makeFunc (.func f) (first.map a.eval) (caps.map a.eval)) hn hdf H hr hd ?_ (λv h=>run_of (by simp only[execOp,hop]) h) hnext;unfold hMF at hev;split at hev
  ·rename_i h0;obtain ⟨hlt,hev⟩:=hev;have hf0:first=#[]:=by cases first;simp at h0;subst h0;rfl
   subst hf0;refine ⟨fnV f (caps.map a.eval),_,by rw[fnV,if_neg (by omega)];simp[Instr.makeFunc],.fn (by simp[hl2]) λj av hj=>hcaps caps j av (by rw[<- hcs];exact hj),hev⟩
  ·rename_i x r h0;have hc0:caps=#[]:=Array.eq_empty_of_size_eq_zero (by simpa using hl2.symm);subst hc0;have hsz:first.size≠0:=by have:first.toList.length=_:=congrArg List.length h0;simp at this;omega
   refine ⟨fnV (f+1000000000) (first.map a.eval),_,by rw[fnV,if_pos ⟨by omega,by simpa using hsz⟩];simp[Instr.makeFunc],.fn (by simp[hl1]) λj av hj=>hcaps first j av (by rw[<- hfs];exact hj),hev⟩
  ·exact hev.elim
 ·-- a call
  rename_i f args ats hop;have hf:=hv f;generalize st.ev f=fv at hf hev;cases fv with
  | fn g caps=>
    have hfv:∃arr,a.eval f=.func (.func g) #[] arr/\arr.size=caps.length/\∀(j:Nat) (av:AV),caps[j]?=some av->RV F φ st w (arr.getD j undef) av:=by
     have hlt:g<1000000000:=by obtain ⟨fn,hfn⟩:=CALL.ex hev;have:=(Array.getElem?_eq_some_iff.1 hfn).1;have:=hT.few;omega
     generalize a.eval f=fe at hf;cases hf with
     | rd r=>cases r;exact ⟨#[],rfl,rfl,by simp⟩
     | fn hs hr=>exact ⟨_,by rw[fnV,if_neg (by omega)],hs,hr⟩
    obtain ⟨arr,hfe,hfs,hfr⟩:=hfv;have hvs:∀(j:Nat) (av:AV),(evs st args.toList++caps)[j]?=some av->RV F φ st w ((args.map a.eval++arr).getD j undef) av:=by
     intro j av hj;rw[Array.getD_eq_getD_getElem?,Array.getElem?_append];simp only[Array.size_map];rw[List.getElem?_append,evs_length] at hj;by_cases hlt:j<args.size
     ·rw[if_pos hlt];rw[if_pos (by simpa using hlt),evs_get] at hj;obtain ⟨x,h1,rfl⟩:=Option.map_eq_some_iff.1 hj;have h2:args[j]?=some x:=(by simpa using h1);simp[h2];exact hv x
     ·rw[if_neg hlt];rw[if_neg (by simpa using hlt)] at hj;have:=hfr _ av hj;rw[Array.getD_eq_getD_getElem?] at this;simpa using this
    obtain ⟨⟨fn,hfn,hname,hbody⟩,hc⟩:=call_sound (P:=P) (a:=a) hev hn hdf H hr hd (vs:=args.map a.eval++arr) (by simp[evs_length,hfs]) hvs;unfold Oper.wp;have he:(execOp a.eval o).run P w=.ok (.enter g (args.map a.eval++arr)) w:=by
     have hb:fn.body≠none:=by cases h:fn.body<;>simp_all
     have hnm : fn.name ≠ "runtime.NumGoroutine" := by simpa using hname
     simp[execOp,hop,resolve,Deferred.ofValue,hfe,invoke,callFunc,hfn,hnm,hb]
    rw[he,Oper.upon_enter];refine hc.mono ?_;rintro e w' ⟨v,st',rfl,hk,hrep⟩;exact hnext _ _ _ hrep hk
  | _=>exact False.elim hev
 ·-- a builtin
  rename_i b args ats hop;have two:∀(x y:AV),evs st args.toList=[x,y]->∃ox oy,args=#[ox,oy]/\x=st.ev ox/\y=st.ev oy:=by
   intro x y h;obtain ⟨l⟩:=args
   match l,h with
   | [ox,oy],h=>simp[evs] at h;exact ⟨ox,oy,rfl,h.1.symm,h.2.symm⟩
   | [],h=>simp[evs] at h
   | [_],h=>simp[evs] at h
   | _::_::_::_,h=>simp[evs] at h
  have one:∀(x:AV),evs st args.toList=[x]->∃ox,args=#[ox]/\x=st.ev ox:=by
   intro x h;obtain ⟨l⟩:=args
   match l,h with
   | [ox],h=>simp[evs] at h;exact ⟨ox,rfl,h.symm⟩
   | [],h=>simp[evs] at h
   | _::_::_,h=>simp[evs] at h
  have bi:∀(s:Sem Value),builtin b ats o.type (args.map fun | .const _=>true|_=>false) (args.map a.eval)=(s >>= λr=>pure (Next.value r))->execOp a.eval o=s >>= λr=>pure (Next.value r):=by intro s h;simp only[execOp,hop,resolve,pure_bind,invoke];exact h
  generalize hargs:evs st args.toList=al at hev;unfold hBuiltin at hev;split at hev
  ·-- len
   obtain ⟨ox,rfl,rfl⟩:=one _ hargs;obtain ⟨hl,hev⟩:=hev;split at hl
   ·rename_i t hts;have hats:ats=#[t]:=by cases ats;simp at hts;rw[hts]
    have hx:=hv ox;have hkk:=hT.kinds t;refine value_step (s:=Builtin.len_ ats o.type (#[ox].map a.eval)) hn hdf H hr hd ?_ (λv h=>run_of (bi _ rfl) h) hnext;subst hats;generalize hk0:(T t).k=k0 at hl hkk;rcases rv_len hev hx with ⟨b,n',cap,hvv,hk⟩|⟨s,hvv,hk⟩
    ·cases k0 with
     | slice e=>
       refine ⟨.int .i64 n',_,?_,.rd (.pr _ rfl),hk⟩;simp only[KOk] at hkk;simp[Builtin.len_,hvv,run_underlying hkk,goInt]
     | str=>
       exfalso;generalize st.ev ox=xv at hx hl hev;cases xv with
       | pr u=>rw[hvv] at hx;have:=inv_pr hx;rw[<- this] at hev;exact hev
       | _=>exact hl
     | _=>exact False.elim hl
    ·cases k0 with
     | slice e=>
       exfalso;generalize st.ev ox=xv at hx hl hev;rw[hvv] at hx;cases xv with
       | pr u=>exact hl
       | nl=>
         generalize hvv2:Value.string s=v2 at hx;cases hx with|rd r=>cases r;cases hvv2
       | im sz es=>
         generalize hvv2:Value.string s=v2 at hx;cases hx with|rd r=>cases r<;>cases hvv2
       | rf id off len=>
         generalize hvv2:Value.string s=v2 at hx;cases hx with
         | rd r=>cases r
         | rf hu hv' hr=>obtain ⟨a',c',h,_⟩:=hv';subst h;cases hvv2
       | _=>exact hev
     | str=>
       refine ⟨.int .i64 s.size,_,?_,.rd (.pr _ rfl),hk⟩;simp only[KOk] at hkk;simp[Builtin.len_,hvv,run_underlying hkk,goInt]
     | _=>exact False.elim hl
   ·exact hl.elim
  ·-- min
   obtain ⟨ox,oy,rfl,rfl,rfl⟩:=two _ _ hargs;have hx:=hv ox;have hy:=hv oy;generalize st.ev ox=xv at hx hev;generalize st.ev oy=yv at hy hev;unfold hMM at hev;split at hev
   ·obtain ⟨rfl,hev⟩:=hev;rename_i k x y;refine value_step (s:=Builtin.min_ ats o.type (#[ox,oy].map a.eval)) hn hdf H hr hd ⟨.int k (min x y),_,?_,.rd (.pr _ rfl),hev⟩ (λv h=>run_of (bi _ rfl) h) hnext;simp[Builtin.min_,inv_pr hx,inv_pr hy,Builtin.min2];split<;>omega
   ·exact hev.elim
  ·-- max
   obtain ⟨ox,oy,rfl,rfl,rfl⟩:=two _ _ hargs;have hx:=hv ox;have hy:=hv oy;generalize st.ev ox=xv at hx hev;generalize st.ev oy=yv at hy hev;unfold hMM at hev;split at hev
   ·obtain ⟨rfl,hev⟩:=hev;rename_i k x y;refine value_step (s:=Builtin.max_ ats o.type (#[ox,oy].map a.eval)) hn hdf H hr hd ⟨.int k (max x y),_,?_,.rd (.pr _ rfl),hev⟩ (λv h=>run_of (bi _ rfl) h) hnext;simp[Builtin.max_,inv_pr hx,inv_pr hy,Builtin.max2];split<;>omega
   ·exact hev.elim
  ·-- append
   obtain ⟨ox,oy,rfl,rfl,rfl⟩:=two _ _ hargs;split at hev
   ·rename_i t1 t2 d hts hdst;have hats:ats=#[t1,t2]:=by cases ats;simp at hts;rw[hts]
    obtain ⟨e,ht1,hev⟩:=sTK_spec hev;obtain ⟨r,av,φ',objs',w',h1,hk,G,H',rr⟩:=hApp_both (P:=P) (ty:=o.type) hT hE H ht1 hev (hv ox) (hv oy);unfold Oper.wp;rw[run_of (bi (Builtin.append_ ats o.type (#[ox,oy].map a.eval)) rfl) (by rw[hats];simpa using h1)];refine hnext _ _ _ (Rep.goes (st':={regs:=upd st.regs d av,objs:=objs',used:=d::st.used}) (av:=av) hn hdf hr G H' ?_ hd (λ_=>rr)) hk;rw[hdst];rfl
   ·exact hev.elim
  ·-- cap
   obtain ⟨ox,rfl,rfl⟩:=one _ hargs;split at hev
   ·rename_i t hts;have hats:ats=#[t]:=by cases ats;simp at hts;rw[hts]
    subst hats;obtain ⟨e,ht,hev⟩:=sTK_spec hev;have hx:=hv ox;have hkk:=hT.kinds t;rw[ht] at hkk;simp only[KOk] at hkk;generalize st.ev ox=xv at hx hev;unfold capI at hev;split at hev
    ·have hvv:a.eval ox=.slice none 0 0:=by
      generalize a.eval ox=u at hx;cases hx with|rd r=>cases r;rfl
     refine value_step (s:=Builtin.cap_ #[t] o.type (#[ox].map a.eval)) hn hdf H hr hd ⟨.int .i64 0,_,?_,.rd (.pr _ rfl),hev⟩ (λv h=>run_of (bi _ rfl) h) hnext;simp[Builtin.cap_,hvv,run_underlying hkk,goInt]
    ·exact hev.elim
   ·exact hev.elim
  ·-- clear
   obtain ⟨ox,rfl,rfl⟩:=one _ hargs;split at hev
   ·rename_i t hts;have hats:ats=#[t]:=by cases ats;simp at hts;rw[hts]
    subst hats;obtain ⟨e,ht,hev⟩:=sTK_spec hev;obtain ⟨objs',w',h1,hk,G,H'⟩:=hClear_goes (P:=P) (ty:=o.type) hT hE H ht hev (hv ox);unfold Oper.wp;rw[run_of (bi (Builtin.clear_ #[t] o.type (#[ox].map a.eval)) rfl) (by simpa using h1)];have e1:({st.put o.dst (.tu []) with objs:=objs'}:St)={regs:=(st.put o.dst (.tu [])).regs,objs:=objs',used:=st.used}:=by cases o.dst<;>rfl
    rw[e1] at hk;refine hnext _ _ _ (Rep.goes (st':={regs:=(st.put o.dst (.tu [])).regs,objs:=objs',used:=st.used}) (av:=.tu []) hn hdf hr G H' ?_ hd (λ_=>.tu (by simp) (by simp))) hk;cases o.dst<;>rfl
   ·exact hev.elim
  ·exact hev.elim
 ·exact hev.elim
end
end Go.Vc
namespace Go.Vc
-- K may be made weaker
theorem VIF.mono {b:Bool} {A B A' B':Prop} (h:VIF b A B) (ma:A->A') (mb:B->B'):VIF b A' B':=⟨λx=>ma (h.1 x),λx=>mb (h.2 x)⟩
section
variable {K K':AV->Prop}
theorem hPick_mono {a b c:AV} (m:∀v,K v->K' v) (h:hPick a b c K):hPick a b c K':=by
 unfold hPick at *;split at h
 ·exact h.mono (m _) (m _)
 ·exact h
theorem hUn_mono {op:UnOp} {x:AV} (m:∀v,K v->K' v) (h:hUn op x K):hUn op x K':=by unfold hUn at *;split at h<;>first|exact m _ h|exact h
theorem hConv_mono {a b:TK} {x:AV} (m:∀v,K v->K' v) (h:hConv a b x K):hConv a b x K':=by unfold hConv at *;split at h<;>first|exact m _ h|exact h
theorem hMF_mono {f:Nat} {l:List Operand} {x y:List AV} (m:∀v,K v->K' v) (h:hMF f l x y K):hMF f l x y K':=by unfold hMF at *;split at h<;>first|exact ⟨h.1,m _ h.2⟩|exact m _ h|exact h
theorem hNil_mono {x:AV} (m:∀v,K v->K' v) (h:hNil x K):hNil x K':=by unfold hNil at *;split at h<;>first|exact m _ h|exact h
theorem hExtract_mono {x:AV} {n:Nat} (m:∀v,K v->K' v) (h:hExtract x n K):hExtract x n K':=by
 cases x with
 | tu vs=>
   induction vs generalizing n with
   | nil=>cases n<;>exact h
   | cons y r ih=>cases n with
     | zero=>exact m _ h
     | succ n=>exact ih (n:=n) h
 | _=>cases n<;>exact h
theorem hMM_mono {b:Bool} {x y:AV} (m:∀v,K v->K' v) (h:hMM b x y K):hMM b x y K':=by
 unfold hMM at *;split at h
 ·exact ⟨h.1,m _ h.2⟩
 ·exact h
theorem iBin_mono {op:BinOp} {k:IntKind} {x y:Int} (m:∀v,K v->K' v) (h:iBin op k x y K):iBin op k x y K':=by unfold iBin at *;split at h<;>first|exact m _ h|exact ⟨h.1,m _ h.2⟩|exact h
theorem sBin_mono {op:BinOp} {x y:ByteArray} (m:∀v,K v->K' v) (h:sBin op x y K):sBin op x y K':=by unfold sBin at *;split at h<;>first|exact m _ h|exact h
theorem nBin_mono {b:Bool} {x:AV} (m:∀v,K v->K' v) (h:nBin b x K):nBin b x K':=by unfold nBin at *;split at h<;>first|exact m _ h|exact λb hb=>m _ (h b hb)|exact h
theorem sh_mono {op:BinOp} {k:IntKind} {x y:Int} (m:∀v,K v->K' v) (h:sh op k x y K):sh op k x y K':=by unfold sh at *;split at h<;>first|exact ⟨h.1,m _ h.2⟩|exact h
theorem hBin_mono {T:Nat->TI} {t:Nat} {op:BinOp} {x y:AV} (m:∀v,K v->K' v) (h:hBin T t op x y K):hBin T t op x y K':=by unfold hBin at *;split at h<;>first|exact ⟨h.1,m _ h.2⟩|exact ⟨h.1,nBin_mono m h.2⟩|exact sh_mono m h|exact ⟨h.1,h.2.1,iBin_mono m h.2.2⟩|exact ⟨h.1,sBin_mono m h.2⟩|exact h
theorem one_mono {x:List AV} (m:∀v,K v->K' v) (h:one x K):one x K':=by unfold one at *;split at h<;>first|exact m _ h|exact h
theorem mkV_mono {k:TK} {n:Nat} {cs:List AV} (m:∀v,K v->K' v) (h:mkV k n cs K):mkV k n cs K':=by unfold mkV at *;split at h<;>first|exact ⟨h.1,m _ h.2⟩|exact one_mono m h|exact h
theorem EL_mono {es:List (List AV)} {i:Nat} {J J':List AV->Prop} (m:∀v,J v->J' v) (h:EL es i J):EL es i J':=let ⟨a,b,c⟩:=h;⟨a,b,m _ c⟩
theorem OB_mono {x:Option Ob} {J J':Ob->Prop} (m:∀v,J v->J' v) (h:OB x J):OB x J':=let ⟨a,b,c⟩:=h;⟨a,b,m _ c⟩
theorem hLoad_mono {T:Nat->TI} {objs:Nat->Option Ob} {t:Nat} {x:AV} (m:∀v,K v->K' v) (h:hLoad T objs t x K):hLoad T objs t x K':=by
 unfold hLoad at *;split at h
 ·exact mkV_mono m h
 ·exact OB_mono (λo=>EL_mono λcs=>mkV_mono m) h
 ·exact h
theorem fAt_mono {fs:List (Nat×Nat)} {f:Nat} {J J':Nat->Nat->Prop} (m:∀a b,J a b->J' a b) (h:fAt fs f J):fAt fs f J':=by
 induction fs generalizing f with
 | nil=>exact h
 | cons x r ih=>cases f with
   | zero=>exact m _ _ h
   | succ f=>exact ih (f:=f) h
theorem fTK_mono {k:TK} {f:Nat} {J J':Nat->Nat->Prop} (m:∀a b,J a b->J' a b) (h:fTK k f J):fTK k f J':=by unfold fTK at *;split at h<;>first|exact fAt_mono m h|exact h
theorem sTK_mono {k:TK} {J J':Nat->Prop} (m:∀a,J a->J' a) (h:sTK k J):sTK k J':=by unfold sTK at *;split at h<;>first|exact m _ h|exact h
theorem hField_mono {T:Nat->TI} {t f:Nat} {x:AV} (m:∀v,K v->K' v) (h:hField T t f x K):hField T t f x K':=by unfold hField at *;split at h<;>first|exact fTK_mono (λ_ _=>m _) h|exact h
theorem aTK_mono {x:TK} {j:Int} {J J':Nat->Prop} (m:∀o,J o->J' o) (h:aTK x j J):aTK x j J':=by unfold aTK at *;split at h<;>first|exact ⟨h.1,fAt_mono (λ_ _=>m _) h.2⟩|exact h
theorem hIdx_mono {T:Nat->TI} {objs:Nat->Option Ob} {t:Nat} {x y:AV} (m:∀v,K v->K' v) (h:hIdx T objs t x y K):hIdx T objs t x y K':=by
 unfold hIdx at *;split at h
 ·exact sTK_mono (λe h=>⟨h.1,EL_mono (λ_=>m _) h.2⟩) h
 ·exact sTK_mono (λe h=>⟨h.1,OB_mono (λ_ h=>⟨h.1,m _ h.2⟩) h.2⟩) h
 ·exact aTK_mono (λ_=>m _) h
 ·exact aTK_mono (λ_=>m _) h
 ·exact h
theorem lenI_mono {x:AV} {J J':Int->Prop} (m:∀v,J v->J' v) (h:lenI x J):lenI x J':=by unfold lenI at *;split at h<;>first|exact m _ h|exact h
theorem optI_mono {x:Option AV} {d:Int} {J J':Int->Prop} (m:∀v,J v->J' v) (h:optI x d J):optI x d J':=by unfold optI at *;split at h<;>first|exact m _ h|exact h
theorem cutA_mono {T:Nat->TI} {t:Nat} {l h:Int} {x:AV} (m:∀v,K v->K' v) (hh:cutA T t l h x K):cutA T t l h x K':=by
 unfold cutA at *;split at hh
 ·exact ⟨hh.1,m _ hh.2⟩
 ·exact sTK_mono (λe h=>⟨h.1,m _ h.2⟩) hh
 ·exact sTK_mono (λe h=>m _ h) hh
 ·exact ⟨hh.1,m _ hh.2⟩
 ·exact hh
theorem hSlice_mono {T:Nat->TI} {objs:Nat->Option Ob} {t:Nat} {x:AV} {lo hi:Option AV} (m:∀v,K v->K' v) (h:hSlice T objs t x lo hi K):hSlice T objs t x lo hi K':=
 lenI_mono (λ_=>optI_mono λ_=>optI_mono λ_ h=>⟨h.1,h.2.1,cutA_mono m h.2.2⟩) h
theorem cellsOf_mono {x:AV} {J J':List AV->Prop} (m:∀v,J v->J' v) (h:cellsOf x J):cellsOf x J':=by unfold cellsOf at *;split at h<;>first|exact m _ h|exact h
theorem fill_mono {fs:List (Nat×Nat)} {ps:List (Nat×AV)} {cs:List AV} {J J':List AV->Prop} (m:∀v,J v->J' v) (h:fill fs cs ps J):fill fs cs ps J':=by
 induction ps generalizing cs with
 | nil=>exact m _ h
 | cons p r ih=>exact cellsOf_mono (λ_=>fAt_mono λ_ _ h=>⟨h.1,ih h.2⟩) h
theorem hBuild_mono {k:TK} {z:List AV} {ps:List (Nat×AV)} (m:∀v,K v->K' v) (h:hBuild k z ps K):hBuild k z ps K':=by unfold hBuild at *;split at h<;>first|exact fill_mono (λ_=>m _) h|exact h
theorem lit_mono {sz n:Nat} {ps:List (Nat×AV)} {J J':List (List AV)->Prop} (m:∀v,J v->J' v) (h:lit sz n ps J):lit sz n ps J':=by
 induction ps generalizing n J J' with
 | nil=>exact m _ h
 | cons p r ih=>exact ⟨h.1,cellsOf_mono (λ_ h=>⟨h.1,ih (λ_=>m _) h.2⟩) h.2⟩
theorem appSrc_mono {objs:Nat->Option Ob} {sz:Nat} {x:AV} {J J':List (List AV)->Prop} (m:∀v,J v->J' v) (h:appSrc objs sz x J):appSrc objs sz x J':=by
 unfold appSrc at *;split at h
 ·exact m _ h
 ·exact ⟨h.1,m _ h.2⟩
 ·exact OB_mono (λ_ h=>⟨h.1,m _ h.2⟩) h
 ·exact h
end
-- What a step turns in a state
theorem put_comm (st:St) {x y:Option Nat} (v u:AV) (h:∀d,x=some d->y≠some d):(st.put x v).put y u=(st.put y u).put x v:=by
 cases x with
 | none=>rfl
 | some d=>
   cases y with
   | none=>rfl
   | some e=>
     have hne:d≠e:=λhe=>h d rfl (he▸rfl);simp only[St.put,St.mk.injEq,and_true]
     funext t
     simp only[upd];split<;>split<;>first|rfl|(exfalso;omega)
theorem put_objs (st:St) (d:Option Nat) (v:AV):(st.put d v).objs=st.objs:=by cases d<;>rfl
theorem put_used (st:St) (d:Option Nat) (v:AV):(st.put d v).used=st.used:=by cases d<;>rfl
theorem to_comm (st:St) {x y:Option Nat} (v u:AV) (O:Nat->Option Ob) (U:List Nat) (h:∀d,x=some d->y≠some d):(st.put x v).to y u O U=(st.to y u O U).put x v:=by have:=put_comm st v u h;unfold St.to;rw[this];cases x<;>rfl
def calm:Op->Bool
 | .store .. | .alloc .. | .box .. | .buildSlice .. | .makeSlice ..=>false
 | .call {callee:=.builtin .append,..}=>false
 | .call {callee:=.builtin .clear,..}=>false
 | .call {callee:=.builtin _,..}=>true
 | .call _=>false
 | _=>true
theorem CALL.mono {P:Program} {f:Nat} {args:List AV} {st:St} {d:Option Nat} {K K':St->Prop} (m:∀s,K s->K' s) (h:CALL P f args st d K):CALL P f args st d K':=by
 cases h with
 | pure R h ha k=>exact .pure R h ha λr h1 h2=>m _ (k r h1 h2)
 | make x R h hd hx ha k=>exact .make x R h hd hx ha λr o h1 h2=>m _ (k r o h1 h2)
 | obj id o R args' h ho hl h0 ha k=>exact .obj id o R args' h ho hl h0 ha λr o' h1 h2 h3=>m _ (k r o' h1 h2 h3)
 | both id o R args' h ho hl h0 ha k=>exact .both id o R args' h ho hl h0 ha λr o' h1 h2=>m _ (k r o' h1 h2)
 | lend R h hl k hf=>exact .lend R h hl (λr h1=>m _ (k r h1)) hf
 | sem X h k=>exact .sem X h λu O U hX=>m _ (k u O U hX)
theorem CALL.put {P:Program} {f:Nat} {args:List AV} {st:St} {i d:Option Nat} {v:AV} {K:St->Prop} (hne:∀x,i=some x->d≠some x) (h:CALL P f args (st.put i v) d K) :
 CALL P f args st d (λs=>(∃u O U,s=st.to d u O U)/\K (s.put i v)):=by
 have pm:∀r,K ((st.put i v).put d r)->(∃u O U,st.put d r=st.to d u O U)/\K ((st.put d r).put i v):=λr hk=>by refine ⟨⟨r,st.objs,st.used,by cases d<;>rfl⟩,?_⟩;rw[<- put_comm st v r hne];exact hk
 have tm:∀r O U,K ((st.put i v).to d r O U)->(∃u O' U',st.to d r O U=st.to d u O' U')/\K ((st.to d r O U).put i v):=λr O U hk=>by refine ⟨⟨r,O,U,rfl⟩,?_⟩;rw[<- to_comm st v r O U hne];exact hk
 cases h with
 | pure R h ha k=>exact .pure R h ha λr h1 h2=>pm _ (k r h1 h2)
 | make x R h hd hx ha k=>
   subst hd;rw[put_used] at hx;refine .make x R h rfl hx ha λr o h1 h2=>?_;have:=k r o h1 h2;rw[put_objs,put_used] at this;exact tm _ _ _ this
 | obj id o R args' h ho hl h0 ha k=>
   rw[put_objs] at ho;refine .obj id o R args' h ho hl h0 ha λr o' h1 h2 h3=>?_;have:=k r o' h1 h2 h3;rw[put_objs] at this;have e:({(st.put i v).put d r with objs:=upd st.objs id (some o')}:St)=(st.put i v).to d r (upd st.objs id (some o')) st.used:=by cases d<;>cases i<;>rfl
   have e':({st.put d r with objs:=upd st.objs id (some o')}:St)=st.to d r (upd st.objs id (some o')) st.used:=by cases d<;>rfl
   rw[e] at this;rw[e'];exact tm _ _ _ this
 | both id o R args' h ho hl h0 ha k=>
   rw[put_objs] at ho;refine .both id o R args' h ho hl h0 ha λr o' h1 h2=>?_;have:=k r o' h1 h2;rw[put_objs] at this;have e:({(st.put i v).put d (r.ren id) with objs:=upd st.objs id (some o')}:St)=(st.put i v).to d (r.ren id) (upd st.objs id (some o')) st.used:=by cases d<;>cases i<;>rfl
   have e':({st.put d (r.ren id) with objs:=upd st.objs id (some o')}:St)=st.to d (r.ren id) (upd st.objs id (some o')) st.used:=by cases d<;>rfl
   rw[e] at this;rw[e'];exact tm _ _ _ this
 | lend R h hl k hf=>
   rw[put_objs] at h hl;exact .lend R h hl (λr h1=>pm _ (k r h1)) hf
 | sem X h k=>
   rw[put_objs,put_used] at h;exact .sem X h λu O U hX=>tm u O U (k u O U hX)
theorem ev_put {st:St} {i:Option Nat} {v:AV} {x:Operand} (h:∀t,i=some t->x≠.tmp t):(st.put i v).ev x=st.ev x:=by
 cases i with
 | none=>rfl
 | some t=>
   cases x with
   | tmp u=>
     have:t≠u:=λe=>h t rfl (e▸rfl);simp[St.put,St.ev,upd,this]
   | _=>rfl
theorem evs_put {st:St} {i:Option Nat} {v:AV} {l:List Operand} (h:∀t,i=some t->.tmp t∉l):evs (st.put i v) l=evs st l:=by
 induction l with
 | nil=>rfl
 | cons x r ih=>
   simp only[evs];rw[ev_put λt ht e=>h t ht (by simp[e]),ih λt ht hm=>h t ht (by simp[hm])]
theorem evps_put {st:St} {i:Option Nat} {v:AV} {l:List (Nat×Operand)} (h:∀t,i=some t->.tmp t∉l.map (·.2)):evps (st.put i v) l=evps st l:=by
 induction l with
 | nil=>rfl
 | cons x r ih=>
   simp only[evps];rw[ev_put λt ht e=>h t ht (by simp[e]),ih λt ht hm=>h t ht (List.mem_cons_of_mem _ hm)]
theorem evo_put {st:St} {i:Option Nat} {v:AV} {x:Option Operand} (h:∀t,i=some t->x≠some (.tmp t)):evo (st.put i v) x=evo st x:=by
 cases x with
 | none=>rfl
 | some x=>simp only[evo];rw[ev_put λt ht e=>h t ht (by rw[e])]
def After (st:St) (d:Option Nat) (op:Op) (s:St):Prop:=∃u O U,s=st.to d u O U/\(calm op=true->O=st.objs/\U=st.used)
theorem evOp_put {P:Program} {T:Nat->TI} {st:St} {i d:Option Nat} {v:AV} {op:Op} {K K':St->Prop} (hi:∀t,i=some t->.tmp t∉op.operands) (hne:∀x,i=some x->d≠some x)
 (m:∀s,After st d op s->K (s.put i v)->K' s) (h:evOp P T (st.put i v) d op K):evOp P T st d op K':=by
 have vm:∀u,K ((st.put i v).put d u)->K' (st.put d u):=λu hk=>
  m _ ⟨u,st.objs,st.used,by cases d<;>rfl,λ_=>⟨rfl,rfl⟩⟩ (by rw[<- put_comm st v u hne];exact hk)
 have tm:∀u O U,calm op=false->K ((st.put i v).to d u O U)->K' (st.to d u O U):=λu O U hc hk=>
  m _ ⟨u,O,U,rfl,λh=>by rw[hc] at h;cases h⟩ (by rw[<- to_comm st v u O U hne];exact hk)
 have hI:∀x,(x∈op.operands)->∀t,i=some t->x≠.tmp t:=λx hx t ht e=>hi t ht (e▸hx);cases op with
 | move x=>simp only[evOp] at *;rw[ev_put (hI x (by simp[Op.operands]))] at h;exact vm _ h
 | assign x=>simp only[evOp] at *;rw[ev_put (hI x (by simp[Op.operands]))] at h;exact vm _ h
 | pick c a b=>
   simp only[evOp] at *;rw[ev_put (hI c (by simp[Op.operands])),ev_put (hI a (by simp[Op.operands])),ev_put (hI b (by simp[Op.operands]))] at h;exact hPick_mono vm h
 | binOp op t x y yt=>
   simp only[evOp] at *;rw[ev_put (hI x (by simp[Op.operands])),ev_put (hI y (by simp[Op.operands]))] at h;exact hBin_mono vm h
 | unOp op t x=>simp only[evOp] at *;rw[ev_put (hI x (by simp[Op.operands]))] at h;exact hUn_mono vm h
 | convert a b x=>simp only[evOp] at *;rw[ev_put (hI x (by simp[Op.operands]))] at h;exact hConv_mono vm h
 | load t x=>simp only[evOp] at *;rw[ev_put (hI x (by simp[Op.operands])),put_objs] at h;exact hLoad_mono vm h
 | store t x y=>
   simp only[evOp] at *;rw[ev_put (hI x (by simp[Op.operands])),ev_put (hI y (by simp[Op.operands]))] at h;obtain ⟨rfl,h⟩:=h;refine ⟨rfl,?_⟩;generalize st.ev x=xv at h ⊢;unfold hStore at *;split at h
   ·rw[put_objs] at h;refine OB_mono (λo=>EL_mono λcs=>cellsOf_mono λnew h=>⟨h.1,?_⟩) h;have:=h.2;have e:∀O,({st.put i v with objs:=O}:St)=(st.put i v).to none .un O st.used:=λO=>by cases i<;>rfl
    rw[e] at this;exact tm _ _ _ rfl this
   ·exact h
 | alloc t=>
   simp only[evOp] at *;refine ⟨h.1,?_⟩;have h:=h.2;unfold newBox at *;cases d with
   | none=>exact h
   | some d=>simp only[put_objs,put_used] at h ⊢;exact ⟨h.1,tm (.pt d 0 0) _ _ rfl h.2⟩
 | box t x=>
   simp only[evOp] at *;rw[ev_put (hI x (by simp[Op.operands]))] at h;refine cellsOf_mono (λcs h=>?_) h;unfold newBox at *;cases d with
   | none=>exact h
   | some d=>simp only[put_objs,put_used] at h ⊢;exact ⟨h.1,tm (.pt d 0 0) _ _ rfl h.2⟩
 | build t ps=>
   simp only[evOp] at *;rw[evps_put (λt ht hm=>hi t ht (by simpa [Op.operands] using hm))] at h;exact hBuild_mono vm h
 | buildSlice t len ps=>
   simp only[evOp] at *;rw[evps_put (λt ht hm=>hi t ht (by simpa [Op.operands] using hm))] at h;refine sTK_mono (λe h=>⟨h.1,?_⟩) h;have h:=h.2;unfold hLit at *;cases d with
   | none=>exact h
   | some d=>simp only[put_objs,put_used] at h ⊢;exact ⟨h.1,lit_mono (λes h=>tm (.rf d 0 es.length) _ _ rfl h) h.2⟩
 | makeSlice t x y=>
   simp only[evOp] at *;rw[ev_put (hI x (by simp[Op.operands])),ev_put (hI y (by simp[Op.operands]))] at h;refine sTK_mono (λe h=>?_) h;unfold hMake at *;split at h
   ·refine ⟨h.1,?_⟩;have h:=h.2;unfold newArr at *;cases d with
    | none=>exact h
    | some d=>simp only[put_objs,put_used] at h ⊢;exact ⟨h.1,tm (.rf d 0 _) _ _ rfl h.2⟩
   ·exact h
 | fieldAddr t x f=>simp only[evOp] at *;rw[ev_put (hI x (by simp[Op.operands]))] at h;exact hField_mono vm h
 | indexAddr t x y=>
   simp only[evOp] at *;rw[ev_put (hI x (by simp[Op.operands])),ev_put (hI y (by simp[Op.operands])),put_objs] at h;exact hIdx_mono vm h
 | slice t x lo hi' mx=>
   cases mx with
   | some _=>simp only[evOp] at *
   | none=>
     simp only[evOp] at *;rw[ev_put (hI x (by simp[Op.operands])),evo_put (λt ht e=>hi t ht (by subst e;simp[Op.operands])),evo_put (λt ht e=>hi t ht (by subst e;simp[Op.operands])),put_objs] at h;exact hSlice_mono vm h
 | nilCheck x=>simp only[evOp] at *;rw[ev_put (hI x (by simp[Op.operands]))] at h;exact hNil_mono vm h
 | extract x n=>simp only[evOp] at *;rw[ev_put (hI x (by simp[Op.operands]))] at h;exact hExtract_mono vm h
 | makeFunc fn first caps=>
   cases fn with
   | func f=>
     simp only[evOp] at *;rw[evs_put (l:=caps.toList) (λt ht hm=>hi t ht (by simp only[Op.operands,Array.mem_append];exact .inr (Array.mem_toList_iff.1 hm))),evs_put (l:=first.toList) (λt ht hm=>hi t ht (by simp only[Op.operands,Array.mem_append];exact .inl (Array.mem_toList_iff.1 hm)))] at h;exact hMF_mono vm h
   | _=>simp only[evOp] at *
 | call c=>
   obtain ⟨callee,args,ats⟩:=c;have ha:evs (st.put i v) args.toList=evs st args.toList:=evs_put λt ht hm=>hi t ht (by
    simp only[Op.operands,Call.operands,Array.mem_append];exact .inr (Array.mem_toList_iff.1 hm))
   cases callee with
   | value f=>
     simp only[evOp] at *;rw[ev_put (hI f (by simp[Op.operands,Call.operands])),ha] at h;generalize st.ev f=fv at h ⊢;unfold hCall at *;split at h
     ·refine CALL.mono (λs hs=>?_) (CALL.put hne h);obtain ⟨⟨u,O,U,rfl⟩,hk⟩:=hs;exact tm _ _ _ rfl (by rw[to_comm st v u O U hne];exact hk)
     ·exact h
   | invoke r mm=>simp only[evOp] at *
   | builtin b=>
     simp only[evOp] at *;rw[ha] at h;generalize evs st args.toList=al at h ⊢;unfold hBuiltin at *;split at h
     ·exact ⟨h.1,lenI_mono (λ_=>vm _) h.2⟩
     ·exact hMM_mono vm h
     ·exact hMM_mono vm h
     ·split at h
      ·refine sTK_mono (λe h=>?_) h;unfold hApp at *;split at h
       ·rw[put_objs] at h;refine appSrc_mono (λnew h=>?_) h;unfold appDst at *;split at h
        ·simp only[put_objs,put_used] at h ⊢;exact ⟨h.1,tm (.rf _ 0 _) _ _ rfl h.2⟩
        ·simp only[put_objs,put_used] at h ⊢;exact OB_mono (λo h=>⟨h.1,tm (.rf _ 0 _) _ _ rfl h.2⟩) h
        ·exact h
       ·unfold appInt at *;split at h
        ·unfold newArr at *;simp only[put_objs,put_used] at h ⊢;exact ⟨h.1,h.2.1,tm (.rf _ 0 _) _ _ rfl h.2.2⟩
        ·exact h
       ·exact h
      ·exact h
     ·split at h
      ·refine sTK_mono (λe h=>?_) h;unfold capI at *;split at h
       ·exact vm _ h
       ·exact h
      ·exact h
     ·split at h
      ·refine sTK_mono (λe h=>?_) h;unfold hClear at *;split at h
       ·rw[put_objs] at h;refine OB_mono (λo h=>⟨h.1,?_⟩) h;have h2:=h.2;have e1:∀O:Nat->Option Ob,({(st.put i v).put d (.tu []) with objs:=O}:St)=(st.put i v).to d (.tu []) O st.used:=λO=>by cases d<;>cases i<;>rfl
        have e2:∀O:Nat->Option Ob,({st.put d (.tu []) with objs:=O}:St)=st.to d (.tu []) O st.used:=λO=>by cases d<;>rfl
        rw[e1] at h2;rw[e2];exact tm _ _ _ rfl h2
       ·exact h
      ·exact h
     ·exact h
 | _=>simp only[evOp] at *
theorem evOp_mono {P:Program} {T:Nat->TI} {st:St} {d:Option Nat} {op:Op} {K K':St->Prop} (m:∀s,K s->K' s) (h:evOp P T st d op K):evOp P T st d op K':=
 evOp_put (i:=none) (v:=.un) (by simp) (by simp) (λs _ hk=>m _ hk) h
end Go.Vc
namespace Go.Vc
def Det (h:(AV->Prop)->Prop):Prop:=∀K,h K->∃v,K v/\∀K',K' v->h K'
def isIm:AV->Prop
 | .rf .. | .pt ..=>False
 | _=>True
def notNl:AV->Prop
 | .nl=>False
 | _=>True
theorem hPick_det {a b c:AV}:Det (hPick a b c):=by
 intro K h;unfold hPick at *;split at h
 ·rename_i c';cases c' with
  | true=>exact ⟨_,h.1 rfl,λK' k=>⟨λ_=>k,λe=>by cases e⟩⟩
  | false=>exact ⟨_,h.2 rfl,λK' k=>⟨λe=>by (try cases e),λ_=>k⟩⟩
 ·exact h.elim
theorem hUn_det {op:UnOp} {x:AV}:Det (hUn op x):=by
 intro K h;cases op<;>cases x with
 | pr u=>cases u<;>first|exact ⟨_,h,λK' k=>k⟩|exact False.elim h
 | _=>exact False.elim h
theorem hConv_det {a b:TK} {x:AV}:Det (hConv a b x):=by intro K h;unfold hConv at h;split at h<;>first|exact ⟨_,h,λK' k=>k⟩|exact h.elim
theorem hMF_det {f:Nat} {l:List Operand} {x y:List AV}:Det (hMF f l x y):=by intro K h;unfold hMF at h;split at h<;>first|exact ⟨_,h.2,λK' k=>⟨h.1,k⟩⟩|exact ⟨_,h,λK' k=>k⟩|exact h.elim
theorem hNil_det {x:AV}:Det (hNil x):=by intro K h;unfold hNil at h;split at h<;>first|exact ⟨_,h,λK' k=>k⟩|exact h.elim
theorem hExtract_det {x:AV} {n:Nat}:Det (hExtract x n):=by
 intro K h;cases x with
 | tu vs=>
   induction vs generalizing n with
   | nil=>cases n<;>exact False.elim h
   | cons y r ih=>cases n with
     | zero=>exact ⟨_,h,λK' k=>k⟩
     | succ n=>obtain ⟨v,h1,h2⟩:=ih (n:=n) h;exact ⟨v,h1,h2⟩
 | _=>cases n<;>exact False.elim h
theorem hMM_det {b:Bool} {x y:AV}:Det (hMM b x y):=by
 intro K h;unfold hMM at h;split at h
 ·exact ⟨_,h.2,λK' k=>⟨h.1,k⟩⟩
 ·exact h.elim
theorem iBin_det {op:BinOp} {k:IntKind} {x y:Int}:Det (iBin op k x y):=by intro K h;unfold iBin at h;split at h<;>first|exact ⟨_,h,λK' k=>k⟩|exact ⟨_,h.2,λK' k=>⟨h.1,k⟩⟩|exact h.elim
theorem sBin_det {op:BinOp} {x y:ByteArray}:Det (sBin op x y):=by intro K h;unfold sBin at h;split at h<;>first|exact ⟨_,h,λK' k=>k⟩|exact h.elim
theorem sh_det {op:BinOp} {k:IntKind} {x y:Int}:Det (sh op k x y):=by intro K h;unfold sh at h;split at h<;>first|exact ⟨_,h.2,λK' k=>⟨h.1,k⟩⟩|exact h.elim
theorem hBin_det {T:Nat->TI} {t:Nat} {op:BinOp} {x y:AV} (hy:notNl y):Det (hBin T t op x y):=by
 intro K h;unfold hBin at h;split at h
 ·exact ⟨_,h.2,λK' k=>⟨h.1,k⟩⟩
 ·exact ⟨_,h.2,λK' k=>⟨h.1,k⟩⟩
 ·exact hy.elim
 ·exact hy.elim
 ·exact sh_det K h
 ·exact sh_det K h
 ·exact ⟨_,h.2,λK' k=>⟨h.1,k⟩⟩
 ·exact ⟨_,h.2,λK' k=>⟨h.1,k⟩⟩
 ·exact ⟨_,h.2,λK' k=>⟨h.1,k⟩⟩
 ·exact ⟨_,h.2,λK' k=>⟨h.1,k⟩⟩
 ·exact ⟨_,h.2,λK' k=>⟨h.1,k⟩⟩
 ·exact ⟨_,h.2,λK' k=>⟨h.1,k⟩⟩
 ·obtain ⟨e,hs,h⟩:=h;obtain ⟨v,g1,g2⟩:=iBin_det K h;refine ⟨v,g1,λK' k=>?_⟩;cases op<;>first|exact ⟨e,hs,g2 K' k⟩|cases hs
 ·obtain ⟨hs,h⟩:=h;obtain ⟨v,g1,g2⟩:=sBin_det K h;refine ⟨v,g1,λK' k=>?_⟩;cases op<;>first|exact ⟨hs,g2 K' k⟩|cases hs
 ·exact h.elim
theorem one_det {x:List AV}:Det (one x):=by intro K h;unfold one at h;split at h<;>first|exact ⟨_,h,λK' k=>k⟩|exact h.elim
theorem mkV_det {k:TK} {n:Nat} {cs:List AV}:Det (mkV k n cs):=by
 intro K h;cases k with
 | struct fs=>exact ⟨_,h.2,λK' k=>⟨h.1,k⟩⟩
 | arr fs e=>exact ⟨_,h.2,λK' k=>⟨h.1,k⟩⟩
 | other=>exact False.elim h
 | _=>exact one_det K h
theorem EL_det {es:List (List AV)} {i:Nat} {J:List AV->(AV->Prop)->Prop} (hJ:∀cs,Det (J cs)):Det λK=>EL es i λcs=>J cs K:=by rintro K ⟨cs,h1,h2⟩;obtain ⟨v,g1,g2⟩:=hJ cs K h2;exact ⟨v,g1,λK' k=>⟨cs,h1,g2 K' k⟩⟩
theorem OB_det {x:Option Ob} {J:Ob->(AV->Prop)->Prop} (hJ:∀o,Det (J o)):Det λK=>OB x λo=>J o K:=by rintro K ⟨cs,h1,h2⟩;obtain ⟨v,g1,g2⟩:=hJ cs K h2;exact ⟨v,g1,λK' k=>⟨cs,h1,g2 K' k⟩⟩
theorem sTK_det {x:TK} {J:Nat->(AV->Prop)->Prop} (hJ:∀e,Det (J e)):Det λK=>sTK x λe=>J e K:=by intro K h;cases x<;>first|exact hJ _ K h|exact False.elim h
theorem and_det {A:Prop} {J:(AV->Prop)->Prop} (hJ:Det J):Det λK=>A/\J K:=by rintro K ⟨h1,h2⟩;obtain ⟨v,g1,g2⟩:=hJ K h2;exact ⟨v,g1,λK' k=>⟨h1,g2 K' k⟩⟩
theorem at_det (v:AV):Det λK=>K v:=λ_ h=>⟨v,h,λ_ k=>k⟩
theorem fAt_det {x:List (Nat×Nat)} {f:Nat} {g:Nat->Nat->AV}:Det λK=>fAt x f λa b=>K (g a b):=by
 intro K h
 induction x generalizing f with
 | nil=>exact False.elim h
 | cons y r ih=>cases f with
   | zero=>exact ⟨_,h,λK' k=>k⟩
   | succ f=>exact ih (f:=f) h
theorem fTK_det {x:TK} {f:Nat} {g:Nat->Nat->AV}:Det λK=>fTK x f λa b=>K (g a b):=by intro K h;cases x<;>first|exact fAt_det K h|exact False.elim h
theorem hLoad_det {T:Nat->TI} {objs:Nat->Option Ob} {t:Nat} {x:AV}:Det (hLoad T objs t x):=by
 cases x with
 | ro cs off=>exact mkV_det
 | pt id i off=>exact OB_det λo=>EL_det λcs=>mkV_det
 | _=>intro K h;exact False.elim h
theorem hLoad_im {T:Nat->TI} {objs objs':Nat->Option Ob} {t:Nat} {x:AV} (h:isIm x):hLoad T objs t x=hLoad T objs' t x:=by cases x<;>first|rfl|exact False.elim h
theorem hField_det {T:Nat->TI} {t f:Nat} {x:AV}:Det (hField T t f x):=by
 cases x with
 | ro cs off=>exact fTK_det
 | pt id i off=>exact fTK_det
 | _=>intro K h;exact False.elim h
theorem aTK_det {x:TK} {j:Int} {g:Nat->AV}:Det λK=>aTK x j λo=>K (g o):=by
 intro K h;unfold aTK at h;split at h
 ·obtain ⟨v,h1,h2⟩:=fAt_det (g:=λo _=>g o) K h.2;exact ⟨v,h1,λK' k=>⟨h.1,h2 K' k⟩⟩
 ·exact h.elim
theorem hIdx_det {T:Nat->TI} {objs:Nat->Option Ob} {t:Nat} {x y:AV}:Det (hIdx T objs t x y):=by
 intro K h;unfold hIdx at h;split at h
 ·exact (sTK_det λe=>and_det (EL_det λcs=>at_det _)) K h
 ·exact (sTK_det λe=>and_det (OB_det λcs=>and_det (at_det _))) K h
 ·exact aTK_det K h
 ·exact aTK_det K h
 ·exact h.elim
theorem hIdx_im {T:Nat->TI} {objs objs':Nat->Option Ob} {t:Nat} {x y:AV} (h:isIm x):hIdx T objs t x y=hIdx T objs' t x y:=by
 cases x with
 | rf a b c=>exact False.elim h
 | pt a b c=>exact False.elim h
 | _=>cases y with
   | pr u=>cases u<;>rfl
   | _=>rfl
theorem cutA_det {T:Nat->TI} {t:Nat} {l h:Int} {x:AV}:Det (cutA T t l h x):=by
 intro K hh;unfold cutA at hh;split at hh
 ·exact (and_det (at_det _)) K hh
 ·exact (sTK_det λe=>and_det (at_det _)) K hh
 ·exact (sTK_det λe=>at_det _) K hh
 ·exact (and_det (at_det _)) K hh
 ·exact hh.elim
theorem lenI_det {x:AV} {J:Int->(AV->Prop)->Prop} (hJ:∀n,Det (J n)):Det λK=>lenI x λn=>J n K:=by
 intro K h;cases x with
 | pr u=>cases u<;>first|exact hJ _ K h|exact False.elim h
 | _=>first|exact hJ _ K h|exact False.elim h
theorem optI_det {x:Option AV} {d:Int} {J:Int->(AV->Prop)->Prop} (hJ:∀n,Det (J n)):Det λK=>optI x d λn=>J n K:=by
 intro K h;cases x with
 | none=>exact hJ _ K h
 | some x=>cases x with
   | pr u=>cases u<;>first|exact hJ _ K h|exact False.elim h
   | _=>exact False.elim h
theorem hSlice_det {T:Nat->TI} {objs:Nat->Option Ob} {t:Nat} {x:AV} {lo hi:Option AV}:Det (hSlice T objs t x lo hi):=
 lenI_det λ_=>optI_det λ_=>optI_det λ_=>and_det (and_det cutA_det)
theorem hSlice_im {T:Nat->TI} {objs objs':Nat->Option Ob} {t:Nat} {x:AV} {lo hi:Option AV} (h:isIm x):hSlice T objs t x lo hi=hSlice T objs' t x lo hi:=by cases x<;>first|rfl|exact False.elim h
theorem cellsOf_one {x:AV}:∃g:Option (List AV),∀K,cellsOf x K ↔ ∃cs,g=some cs/\K cs:=by
 cases x with
 | un=>exact ⟨none,λK=>by simp[cellsOf]⟩
 | tu v=>exact ⟨none,λK=>by simp[cellsOf]⟩
 | ag cs=>exact ⟨some cs,λK=>by simp[cellsOf]⟩
 | pr v=>exact ⟨some [.pr v],λK=>by simp[cellsOf]⟩
 | nl=>exact ⟨some [.nl],λK=>by simp[cellsOf]⟩
 | im a b=>exact ⟨some [.im a b],λK=>by simp[cellsOf]⟩
 | rf a b c=>exact ⟨some [.rf a b c],λK=>by simp[cellsOf]⟩
 | pt a b c=>exact ⟨some [.pt a b c],λK=>by simp[cellsOf]⟩
 | ro a b=>exact ⟨some [.ro a b],λK=>by simp[cellsOf]⟩
 | fn a b=>exact ⟨some [.fn a b],λK=>by simp[cellsOf]⟩
theorem fAt_one {x:List (Nat×Nat)} {f:Nat} {K:Nat->Nat->Prop}:fAt x f K ↔ ∃p,x[f]?=some p/\K p.1 p.2:=by
 induction x generalizing f with
 | nil=>simp[fAt]
 | cons y r ih=>cases f with
   | zero=>obtain ⟨a,b⟩:=y;simp[fAt]
   | succ f=>simpa [fAt] using ih
theorem fill_det {fs:List (Nat×Nat)} {ps:List (Nat×AV)} {cs:List AV}:Det λK=>fill fs cs ps λx=>K (.ag x):=by
 induction ps generalizing cs with
 | nil=>exact at_det _
 | cons p r ih=>
   intro K h;obtain ⟨i,v⟩:=p;obtain ⟨g,hg⟩:=cellsOf_one (x:=v);simp only[fill,hg,fAt_one] at h;obtain ⟨new,h1,q,h2,h3,h4⟩:=h;obtain ⟨u,g1,g2⟩:=ih K h4;refine ⟨u,g1,λK' k=>?_⟩;simp only[fill,hg,fAt_one];exact ⟨new,h1,q,h2,h3,g2 K' k⟩
theorem hBuild_det {k:TK} {z:List AV} {ps:List (Nat×AV)}:Det (hBuild k z ps):=by intro K h;cases k<;>first|exact fill_det K h|exact False.elim h
def simple:Op->Bool
 | .move _ | .assign _ | .pick .. | .unOp .. | .convert .. | .load .. | .build .. | .fieldAddr .. | .indexAddr .. | .nilCheck _ | .extract .. | .binOp ..=>true
 | .slice _ _ _ _ none=>true
 | .makeFunc (.func _) _ _=>true
 | .call {callee:=.builtin .len,..} | .call {callee:=.builtin .min,..} | .call {callee:=.builtin .max,..}=>true
 | _=>false
def reads:Op->Bool
 | .load .. | .indexAddr .. | .slice ..=>true
 | _=>false
def firstOk (st:St) (im:Bool):Op->Prop
 | .binOp _ _ _ y _=>notNl (st.ev y)
 | .load _ x | .indexAddr _ x _ | .slice _ x _ _ _=>im=true->isIm (st.ev x)
 | _=>True
theorem evs_same {st s:St} {l:List Operand} (h:∀x∈l,s.ev x=st.ev x):evs s l=evs st l:=by
 induction l with
 | nil=>rfl
 | cons x r ih=>simp only[evs];rw[h x (by simp),ih λy hy=>h y (by simp[hy])]
theorem evps_same {st s:St} {l:List (Nat×Operand)} (h:∀x∈l.map (·.2),s.ev x=st.ev x):evps s l=evps st l:=by
 induction l with
 | nil=>rfl
 | cons x r ih=>simp only[evps];rw[h x.2 (by simp),ih λy hy=>h y (List.mem_cons_of_mem _ hy)]
theorem evo_same {st s:St} {x:Option Operand} (h:∀y,x=some y->s.ev y=st.ev y):evo s x=evo st x:=by
 cases x with
 | none=>rfl
 | some x=>simp only[evo];rw[h x rfl]
def made:List Oper->Nat->Prop
 | [],_=>False
 | o::r,d=>o.dst=some d\/made r d
def Gr (ops:List Oper) (o o':Nat->Option Ob):Prop:=∀i x,¬made ops i->o i=some x->o' i=some x
section
variable {ops:List Oper}
theorem Gr.refl (o:Nat->Option Ob):Gr ops o o:=λ_ _ _ h=>h
theorem Gr.trans {a b c:Nat->Option Ob} (h:Gr ops a b) (h':Gr ops b c):Gr ops a c:=λi x m e=>h' i x m (h i x m e)
theorem Gr.of {o o':Nat->Option Ob} (h:o'=o):Gr ops o o':=λ_ _ _ e=>by rw[h];exact e
theorem Gr_same (o:Nat->Option Ob):Gr ops o o=True:=eq_true (Gr.refl o)
theorem Gr_upd (o o':Nat->Option Ob) (d:Nat) (x:Option Ob) (h:made ops d):Gr ops o (upd o' d x)=Gr ops o o':=by have key:∀i,¬made ops i->upd o' d x i=o' i:=λi m=>upd_ne' _ _ (λe=>m (e▸h));exact propext ⟨λg i y m e=>(key i m)▸g i y m e,λg i y m e=>(key i m).trans (g i y m e)⟩
def srcOk (ops:List Oper):AV->Prop
 | .rf i _ _=>¬made ops i
 | .pt i _ _=>¬made ops i
 | _=>True
theorem OB_gr {o o':Nat->Option Ob} (g:Gr ops o o') {i:Nat} (m:¬made ops i) {J:Ob->Prop} (h:OB (o i) J):OB (o' i) J:=by obtain ⟨x,h1,h2⟩:=h;exact ⟨x,g _ _ m h1,h2⟩
theorem hLoad_gr {T:Nat->TI} {objs objs':Nat->Option Ob} (g:Gr ops objs objs') {t:Nat} {x:AV} (m:srcOk ops x) {K:AV->Prop} (h:hLoad T objs t x K):hLoad T objs' t x K:=by
 cases x with
 | pt i j off=>exact OB_gr g m h
 | _=>exact h
theorem sTK_mono' {x:TK} {J J':Nat->Prop} (m:∀e,J e->J' e) (h:sTK x J):sTK x J':=by cases x<;>first|exact m _ h|exact h
theorem hIdx_gr {T:Nat->TI} {objs objs':Nat->Option Ob} (g:Gr ops objs objs') {t:Nat} {x y:AV} (m:srcOk ops x) {K:AV->Prop} (h:hIdx T objs t x y K):hIdx T objs' t x y K:=by
 unfold hIdx at *;split at h
 ·exact h
 ·exact sTK_mono' (λe h=>⟨h.1,OB_gr g m h.2⟩) h
 ·exact h
 ·exact h
 ·exact h
theorem obSz_gr {T:Nat->TI} {objs objs':Nat->Option Ob} (g:Gr ops objs objs') {t:Nat} {x:AV} (m:srcOk ops x) (h:obSz T t objs x):obSz T t objs' x:=by
 cases x with
 | rf i a b=>exact sTK_mono' (λe h=>OB_gr g m h) h
 | _=>trivial
theorem hSlice_gr {T:Nat->TI} {objs objs':Nat->Option Ob} (g:Gr ops objs objs') {t:Nat} {x:AV} (m:srcOk ops x) {lo hi:Option AV} {K:AV->Prop} (h:hSlice T objs t x lo hi K):hSlice T objs' t x lo hi K:=
 lenI_mono (λ_=>optI_mono λ_=>optI_mono λ_ h=>⟨h.1,obSz_gr g m h.2.1,h.2.2⟩) h
end
def firstE (ops:List Oper) (st:St):Op->Prop
 | .binOp _ _ _ y _=>notNl (st.ev y)
 | .load _ x | .indexAddr _ x _ | .slice _ x _ _ _=>srcOk ops (st.ev x)
 | _=>True
inductive Ahead|calm|imm|mark
def firstM (ops:List Oper) (st:St):Ahead->Op->Prop
 | .calm,op=>firstOk st false op
 | .imm,op=>firstOk st true op
 | .mark,op=>firstE ops st op
def sameM (ops:List Oper) (st s:St) (op:Op):Ahead->Prop
 | .calm=>reads op=false\/s.objs=st.objs
 | .imm=>True
 | .mark=>reads op=false\/Gr ops st.objs s.objs
theorem sameM.self {ops:List Oper} {st:St} {op:Op} {md:Ahead}:sameM ops st st op md:=by
 cases md with
 | calm=>exact .inr rfl
 | imm=>trivial
 | mark=>exact .inr (Gr.refl _)
theorem hLoad_sameM {T:Nat->TI} {ops:List Oper} {st s:St} {md:Ahead} {t:Nat} {x:Operand} (hf:firstM ops st md (.load t x)) (ho:sameM ops st s (.load t x) md) {K:AV->Prop} (k:hLoad T st.objs t (st.ev x) K):hLoad T s.objs t (st.ev x) K:=by
 cases md with
 | calm=>
   rcases ho with ho|ho
   ·cases ho
   ·rw[ho];exact k
 | imm=>rw[hLoad_im (hf rfl) (objs':=st.objs)];exact k
 | mark=>
   rcases ho with ho|ho
   ·cases ho
   ·exact hLoad_gr ho hf k
theorem hIdx_sameM {T:Nat->TI} {ops:List Oper} {st s:St} {md:Ahead} {t:Nat} {x y:Operand} {y':AV} (hf:firstM ops st md (.indexAddr t x y)) (ho:sameM ops st s (.indexAddr t x y) md) {K:AV->Prop} (k:hIdx T st.objs t (st.ev x) y' K):hIdx T s.objs t (st.ev x) y' K:=by
 cases md with
 | calm=>
   rcases ho with ho|ho
   ·cases ho
   ·rw[ho];exact k
 | imm=>rw[hIdx_im (hf rfl) (objs':=st.objs)];exact k
 | mark=>
   rcases ho with ho|ho
   ·cases ho
   ·exact hIdx_gr ho hf k
theorem hSlice_sameM {T:Nat->TI} {ops:List Oper} {st s:St} {md:Ahead} {t:Nat} {x:Operand} {lo hi:Option Operand} {a b:Option AV} (hf:firstM ops st md (.slice t x lo hi none)) (ho:sameM ops st s (.slice t x lo hi none) md) {K:AV->Prop} (k:hSlice T st.objs t (st.ev x) a b K):hSlice T s.objs t (st.ev x) a b K:=by
 cases md with
 | calm=>
   rcases ho with ho|ho
   ·cases ho
   ·rw[ho];exact k
 | imm=>rw[hSlice_im (hf rfl) (objs':=st.objs)];exact k
 | mark=>
   rcases ho with ho|ho
   ·cases ho
   ·exact hSlice_gr ho hf k
theorem simple_spec {P:Program} {T:Nat->TI} {st:St} {d:Option Nat} {op:Op} {ops:List Oper} {md:Ahead} {K:St->Prop} (hs:simple op=true) (hf:firstM ops st md op) (h:evOp P T st d op K) :
 ∃v,K (st.put d v)/\∀s,(∀x∈op.operands,s.ev x=st.ev x)->sameM ops st s op md->∀K':St->Prop,K' (s.put d v)->evOp P T s d op K':=by
 have hy:∀(o:BinOp) (t:Nat) (x y:Operand) (u:Nat),op=.binOp o t x y u->notNl (st.ev y):=λo t x y u e=>by subst e;cases md<;>exact hf
 have use:∀{J:St->(AV->Prop)->Prop},Det (J st)->(J st λv=>K (st.put d v))->(∀s,(∀x∈op.operands,s.ev x=st.ev x)->sameM ops st s op md->J s=J st/\∀K':St->Prop,(J s λv=>K' (s.put d v))->evOp P T s d op K') ->
  ∃v,K (st.put d v)/\∀s,(∀x∈op.operands,s.ev x=st.ev x)->sameM ops st s op md->∀K':St->Prop,K' (s.put d v)->evOp P T s d op K':=by
  intro J hd hj hx;obtain ⟨v,h1,h2⟩:=hd _ hj;refine ⟨v,h1,λs hs ho=>?_⟩;obtain ⟨g2,g3⟩:=hx s hs ho;exact λK' k=>g3 K' (by rw[g2];exact h2 (λv=>K' (s.put d v)) k)
 have useR:∀{J:St->(AV->Prop)->Prop},Det (J st)->(J st λv=>K (st.put d v))->(∀s,(∀x∈op.operands,s.ev x=st.ev x)->sameM ops st s op md->(∀K',J st K'->J s K')/\∀K':St->Prop,(J s λv=>K' (s.put d v))->evOp P T s d op K') ->
  ∃v,K (st.put d v)/\∀s,(∀x∈op.operands,s.ev x=st.ev x)->sameM ops st s op md->∀K':St->Prop,K' (s.put d v)->evOp P T s d op K':=by
  intro J hd hj hx;obtain ⟨v,h1,h2⟩:=hd _ hj;refine ⟨v,h1,λs hs ho=>?_⟩;obtain ⟨g2,g3⟩:=hx s hs ho;exact λK' k=>g3 K' (g2 _ (h2 (λv=>K' (s.put d v)) k))
 cases op with
 | move x=>exact use (J:=λs K=>K (s.ev x)) (at_det _) h λs hx ho=>⟨by rw[hx x (by simp[Op.operands])],λK' k=>k⟩
 | assign x=>exact use (J:=λs K=>K (s.ev x)) (at_det _) h λs hx ho=>⟨by rw[hx x (by simp[Op.operands])],λK' k=>k⟩
 | pick c a b=>exact use (J:=λs=>hPick (s.ev c) (s.ev a) (s.ev b)) hPick_det h λs hx ho=>⟨by rw[hx c (by simp[Op.operands]),hx a (by simp[Op.operands]),hx b (by simp[Op.operands])],λK' k=>k⟩
 | binOp op t x y yt=>
   exact use (J:=λs=>hBin T t op (s.ev x) (s.ev y)) (hBin_det (hy _ _ _ _ _ rfl)) h λs hx ho=>⟨by rw[hx x (by simp[Op.operands]),hx y (by simp[Op.operands])],λK' k=>k⟩
 | unOp op t x=>exact use (J:=λs=>hUn op (s.ev x)) hUn_det h λs hx ho=>⟨by rw[hx x (by simp[Op.operands])],λK' k=>k⟩
 | convert a b x=>exact use (J:=λs=>hConv (T a).k (T b).k (s.ev x)) hConv_det h λs hx ho=>⟨by rw[hx x (by simp[Op.operands])],λK' k=>k⟩
 | load t x=>
   exact useR (J:=λs=>hLoad T s.objs t (s.ev x)) hLoad_det h λs hx ho=>by have e:=hx x (by simp[Op.operands]);refine ⟨λK' k=>?_,λK' k=>k⟩;rw[e];exact hLoad_sameM hf ho k
 | indexAddr t x y=>
   exact useR (J:=λs=>hIdx T s.objs t (s.ev x) (s.ev y)) hIdx_det h λs hx ho=>by have e:=hx x (by simp[Op.operands]);refine ⟨λK' k=>?_,λK' k=>k⟩;rw[e,hx y (by simp[Op.operands])];exact hIdx_sameM hf ho k
 | slice t x lo hi mx=>
   cases mx with
   | some _=>cases hs
   | none=>
     exact useR (J:=λs=>hSlice T s.objs t (s.ev x) (evo s lo) (evo s hi)) hSlice_det h λs hx ho=>by have e:=hx x (by simp[Op.operands]);refine ⟨λK' k=>?_,λK' k=>k⟩;rw[e,evo_same λy hy=>hx y (by subst hy;simp[Op.operands]),evo_same λy hy=>hx y (by subst hy;simp[Op.operands])];exact hSlice_sameM hf ho k
 | build t ps=>exact use (J:=λs=>hBuild (T t).k (T t).zero (evps s ps.toList)) hBuild_det h λs hx ho=>⟨by rw[evps_same λy hy=>hx y (by simpa [Op.operands] using hy)],λK' k=>k⟩
 | fieldAddr t x f=>exact use (J:=λs=>hField T t f (s.ev x)) hField_det h λs hx ho=>⟨by rw[hx x (by simp[Op.operands])],λK' k=>k⟩
 | nilCheck x=>exact use (J:=λs=>hNil (s.ev x)) hNil_det h λs hx ho=>⟨by rw[hx x (by simp[Op.operands])],λK' k=>k⟩
 | extract x n=>exact use (J:=λs=>hExtract (s.ev x) n) hExtract_det h λs hx ho=>⟨by rw[hx x (by simp[Op.operands])],λK' k=>k⟩
 | makeFunc fn first caps=>
   cases fn with
   | func f=>
     exact use (J:=λs K=>hMF f first.toList (evs s first.toList) (evs s caps.toList) K) hMF_det h λs hx ho=>⟨by
      rw[evs_same (l:=caps.toList) λy hy=>hx y (by simp only[Op.operands,Array.mem_append];exact .inr (Array.mem_toList_iff.1 hy)),evs_same (l:=first.toList) λy hy=>hx y (by simp only[Op.operands,Array.mem_append];exact .inl (Array.mem_toList_iff.1 hy))],λK' k=>k⟩
   | _=>cases hs
 | call c=>
   obtain ⟨callee,args,ats⟩:=c;cases callee with
   | value f=>cases hs
   | invoke r mm=>cases hs
   | builtin b=>
     have hJ:∀s:St,(∀x∈(Op.call {callee:=.builtin b,args:=args,argTypes:=ats}).operands,s.ev x=st.ev x)->evs s args.toList=evs st args.toList:=λs hx=>
      evs_same λy hy=>hx y (by simp only[Op.operands,Call.operands,Array.mem_append];exact .inr (Array.mem_toList_iff.1 hy))
     cases b with
     | len=>
       simp only[evOp] at h;generalize hal:evs st args.toList=al at h
       match al,hal,h with
       | [x],hal,h=>
         exact use (J:=λs K=>(match ats.toList with | [t]=>lenOk (T t).k x|_=>False)/\lenI x λn=>K (.pr (.int .i64 n))) (and_det (lenI_det λ_=>at_det _)) h
          λs hx ho=>⟨rfl,λK' k=>by simp only[evOp];rw[hJ s hx,hal];exact k⟩
       | [],hal,h=>exact False.elim h
       | _::_::_,hal,h=>exact False.elim h
     | min=>
       simp only[evOp] at h;generalize hal:evs st args.toList=al at h
       match al,hal,h with
       | [x,y],hal,h=>exact use (J:=λs=>hMM false x y) hMM_det h λs hx ho=>⟨rfl,λK' k=>by simp only[evOp];rw[hJ s hx,hal];exact k⟩
       | [],hal,h=>exact False.elim h
       | [_],hal,h=>exact False.elim h
       | _::_::_::_,hal,h=>exact False.elim h
     | max=>
       simp only[evOp] at h;generalize hal:evs st args.toList=al at h
       match al,hal,h with
       | [x,y],hal,h=>exact use (J:=λs=>hMM true x y) hMM_det h λs hx ho=>⟨rfl,λK' k=>by simp only[evOp];rw[hJ s hx,hal];exact k⟩
       | [],hal,h=>exact False.elim h
       | [_],hal,h=>exact False.elim h
       | _::_::_::_,hal,h=>exact False.elim h
     | _=>cases hs
 | _=>cases hs
end Go.Vc
