/- Abstract values, and what it means that memory bears them. Part of a framework of abstract values and states, over the model, for proofs of functions; it has no conditions of its own. -/
import Derived.Orders
import Derived.Attr
import Derived.Laws.Cells
set_option linter.all false
/-! Abstract values, and what it means that memory bears them. -/
namespace Go.Vc

/-- What is known of a value. -/
inductive AV where
  | un                                   -- nothing
  | pr (v : Value)                       -- it is just that
  | nl                                   -- the nil slice
  | im (sz : Nat) (es : List (List AV))  -- a slice of memory that nobody writes: its elements' cells
  | rf (id off len : Nat)                -- a slice of an object
  | pt (id i off : Nat)                  -- a pointer into an object: element, cell
  | ro (cs : List AV) (off : Nat)        -- a pointer to memory that nobody writes
  | ag (cs : List AV)                    -- a struct: its cells
  | tu (vs : List AV)                    -- several results
  | fn (f : Nat) (caps : List AV)        -- a function and what it has captured
  deriving Inhabited

/-- An object of the call's own: elements of so many cells. -/
structure Ob where
  sz : Nat
  es : List (List AV)

def cellAt (es : List (List AV)) (i j : Nat) : Option AV := (es[i]?).bind (·[j]?)

/-- A value, read in memory that lies in S. -/
inductive RdI (h : Array Obj) (S : Nat → Prop) : Value → AV → Prop
  | pr (v : Value) (h1 : v.oneCell' = true) : RdI h S v (.pr v)
  | nl : RdI h S (.slice none 0 0) .nl
  | im0 (a : Option Addr) (cap sz : Nat) : RdI h S (.slice a 0 cap) (.im sz [])
  | im {β o cap sz : Nat} {c : Array Value} {e : TypeId} {fz : Nat × Nat} {es : List (List AV)} (vs : Nat → Nat → Value)
      (hS : S β) (hb : h[β]? = some (.cells c e fz)) (hcap : es.length ≤ cap) (hsz : ∀ x ∈ es, x.length = sz)
      (hc : ∀ i j av, cellAt es i j = some av → c[o + i * sz + j]? = some (vs i j))
      (hr : ∀ i j av, cellAt es i j = some av → RdI h S (vs i j) av) : RdI h S (.slice (some ⟨β, o, none⟩) es.length cap) (.im sz es)
  | fn (g : Nat) : RdI h S (.func (.func g) #[] #[]) (.fn g [])

theorem RdI.one {h : Array Obj} {S : Nat → Prop} {v : Value} {av : AV} (r : RdI h S v av) : v.oneCell' = true := by
  cases r <;> first | rfl | assumption

theorem RdI.mono {h h' : Array Obj} {S S' : Nat → Prop} (hS : ∀ β, S β → S' β ∧ h'[β]? = h[β]?) {v : Value} {av : AV} (r : RdI h S v av) : RdI h' S' v av := by
  induction r with
  | pr v h1 => exact .pr v h1
  | nl => exact .nl
  | im0 a cap sz => exact .im0 a cap sz
  | fn g => exact .fn g
  | im vs hSb hb hcap hsz hc hr ih =>
    obtain ⟨h1, h2⟩ := hS _ hSb
    exact .im vs h1 (h2.trans hb) hcap hsz hc ih

/-- A slice of object o. -/
def RfOk (φ : Nat → Option (Nat × Nat)) (h : Array Obj) (o : Ob) (id off len : Nat) (v : Value) : Prop :=
  off + len ≤ o.es.length ∧
    ((len = 0 ∧ ∃ a, v = .slice a 0 0) ∨
     ∃ β b cap c e fz, φ id = some (β, b) ∧ h[β]? = some (.cells c e fz) ∧ v = .slice (some ⟨β, b + off * o.sz, none⟩) len cap ∧ len ≤ cap ∧ b + (off + cap) * o.sz ≤ c.size)

/-- A value, objects and all. -/
inductive RepV (φ : Nat → Option (Nat × Nat)) (obs : Nat → Option Ob) (U : Nat → Prop) (h : Array Obj) (S : Nat → Prop) : Value → AV → Prop
  | un (v : Value) : RepV φ obs U h S v .un
  | rd {v : Value} {av : AV} (r : RdI h S v av) : RepV φ obs U h S v av
  | rf {v : Value} {id off len : Nat} (hu : U id) (hv : ∃ a cap, v = .slice a len cap ∧ (a = none → len = 0)) (hr : ∀ o, obs id = some o → RfOk φ h o id off len v) : RepV φ obs U h S v (.rf id off len)
  | pt {v : Value} {id i off : Nat} (hu : U id) (hv : ∃ a, v = .pointer (some a)) (hr : ∀ o, obs id = some o → ∃ β b, φ id = some (β, b) ∧ v = .pointer (some ⟨β, b + i * o.sz + off, none⟩)) :
      RepV φ obs U h S v (.pt id i off)
  | ro {β o off : Nat} {cs : List AV} {c : Array Value} {e : TypeId} {fz : Nat × Nat} (vs : Nat → Value) (hS : S β) (hb : h[β]? = some (.cells c e fz))
      (hc : ∀ j av, cs[j]? = some av → c[o + j]? = some (vs j)) (hr : ∀ j av, cs[j]? = some av → RdI h S (vs j) av) :
      RepV φ obs U h S (.pointer (some ⟨β, o + off, none⟩)) (.ro cs off)
  | ag {arr : Array Value} {cs : List AV} (hs : arr.size = cs.length) (h1 : ∀ j, j < arr.size → (arr.getD j undef).oneCell' = true)
      (hr : ∀ j av, cs[j]? = some av → RepV φ obs U h S (arr.getD j undef) av) : RepV φ obs U h S (.agg arr) (.ag cs)
  | tu {arr : Array Value} {vs : List AV} (hs : arr.size = vs.length)
      (hr : ∀ j av, vs[j]? = some av → RepV φ obs U h S (arr.getD j undef) av) : RepV φ obs U h S (.tuple arr) (.tu vs)
  | fn {g : Nat} {arr : Array Value} {caps : List AV} (hs : arr.size = caps.length)
      (hr : ∀ j av, caps[j]? = some av → RepV φ obs U h S (arr.getD j undef) av) : RepV φ obs U h S (.func (.func g) #[] arr) (.fn g caps)

/-- What of an object must stay, so that what points into it stays right. -/
def Keeps (φ φ' : Nat → Option (Nat × Nat)) (obs obs' : Nat → Option Ob) (h h' : Array Obj) (i : Nat) : Prop :=
  ∀ o', obs' i = some o' → ∃ o, obs i = some o ∧ φ' i = φ i ∧ o'.sz = o.sz ∧ o.es.length ≤ o'.es.length ∧
    ∀ β b c e fz, φ i = some (β, b) → h[β]? = some (.cells c e fz) → ∃ c' e' fz', h'[β]? = some (.cells c' e' fz') ∧ c'.size = c.size

theorem Keeps.trans {φ φ' φ'' : Nat → Option (Nat × Nat)} {obs obs' obs'' : Nat → Option Ob} {h h' h'' : Array Obj} {i : Nat}
    (a : Keeps φ φ' obs obs' h h' i) (b : Keeps φ' φ'' obs' obs'' h' h'' i) : Keeps φ φ'' obs obs'' h h'' i := by
  intro o'' ho''
  obtain ⟨o', h1, h2, h3, h4, h5⟩ := b o'' ho''
  obtain ⟨o, g1, g2, g3, g4, g5⟩ := a o' h1
  refine ⟨o, g1, h2.trans g2, h3.trans g3, Nat.le_trans g4 h4, fun β b c e fz k1 k2 => ?_⟩
  obtain ⟨c', e', fz', m1, m2⟩ := g5 β b c e fz k1 k2
  obtain ⟨c'', e'', fz'', n1, n2⟩ := h5 β b c' e' fz' (by rw [g2]; exact k1) m1
  exact ⟨c'', e'', fz'', n1, n2.trans m2⟩

theorem Keeps.refl (φ : Nat → Option (Nat × Nat)) (obs : Nat → Option Ob) (h : Array Obj) (i : Nat) : Keeps φ φ obs obs h h i :=
  fun o ho => ⟨o, ho, rfl, rfl, Nat.le_refl _, fun _ _ c e fz _ h => ⟨c, e, fz, h, rfl⟩⟩

theorem RepV.mono {φ φ' : Nat → Option (Nat × Nat)} {obs obs' : Nat → Option Ob} {U U' : Nat → Prop} {h h' : Array Obj} {S S' : Nat → Prop}
    (hU : ∀ i, U i → U' i) (hK : ∀ i, U i → Keeps φ φ' obs obs' h h' i) (hS : ∀ β, S β → S' β ∧ h'[β]? = h[β]?) {v : Value} {av : AV}
    (r : RepV φ obs U h S v av) : RepV φ' obs' U' h' S' v av := by
  induction r with
  | un v => exact .un v
  | rd r => exact .rd (r.mono hS)
  | rf hu ho hr =>
    refine .rf (hU _ hu) ho fun o' ho' => ?_
    obtain ⟨o, h1, h2, h3, h4, h5⟩ := hK _ hu o' ho'
    obtain ⟨g1, g2⟩ := hr o h1
    refine ⟨Nat.le_trans g1 h4, ?_⟩
    rcases g2 with g2 | ⟨β, b, cap, c, e, fz, k1, k2, k3, k4, k5⟩
    · exact .inl g2
    · obtain ⟨c', e', fz', m1, m2⟩ := h5 β b c e fz k1 k2
      exact .inr ⟨β, b, cap, c', e', fz', by rw [h2]; exact k1, m1, by rw [h3]; exact k3, k4, by rw [h3, m2]; exact k5⟩
  | pt hu ho hr =>
    refine .pt (hU _ hu) ho fun o' ho' => ?_
    obtain ⟨o, h1, h2, h3, h4, h5⟩ := hK _ hu o' ho'
    obtain ⟨β, b, k1, k2⟩ := hr o h1
    exact ⟨β, b, by rw [h2]; exact k1, by rw [h3]; exact k2⟩
  | ro vs hSb hb hc hr =>
    obtain ⟨h1, h2⟩ := hS _ hSb
    exact .ro vs h1 (h2.trans hb) hc fun j av hj => (hr j av hj).mono hS
  | ag hs h1 hr ih => exact .ag hs h1 ih
  | tu hs hr ih => exact .tu hs ih
  | fn hs hr ih => exact .fn hs ih

/-- Block (lo, hi) of cells: none is frozen. -/
def Soft (c : Array Value) (fz : Nat × Nat) : Prop := ∀ k, k < c.size → ¬ (fz.1 ≤ k ∧ k < fz.2)

/-- An object lies in memory. -/
def ObRep (φ : Nat → Option (Nat × Nat)) (obs : Nat → Option Ob) (U : Nat → Prop) (h : Array Obj) (S : Nat → Prop) (id : Nat) (o : Ob) : Prop :=
  (∀ x ∈ o.es, x.length = o.sz) ∧
    ((φ id = none ∧ o.es = []) ∨
     ∃ β b c e fz, φ id = some (β, b) ∧ h[β]? = some (.cells c e fz) ∧ Soft c fz ∧ b + o.es.length * o.sz ≤ c.size ∧
       ∀ i j av, cellAt o.es i j = some av → ∃ v, c[b + i * o.sz + j]? = some v ∧ v.oneCell' = true ∧ RepV φ obs U h S v av)

theorem ObRep.mono {φ φ' : Nat → Option (Nat × Nat)} {obs obs' : Nat → Option Ob} {U U' : Nat → Prop} {h h' : Array Obj} {S S' : Nat → Prop} {id : Nat} {o : Ob}
    (hφ : φ' id = φ id) (hb : ∀ β b, φ id = some (β, b) → h'[β]? = h[β]?) (hV : ∀ v av, RepV φ obs U h S v av → RepV φ' obs' U' h' S' v av)
    (r : ObRep φ obs U h S id o) : ObRep φ' obs' U' h' S' id o := by
  obtain ⟨r1, r2⟩ := r
  refine ⟨r1, ?_⟩
  rcases r2 with ⟨h1, h2⟩ | ⟨β, b, c, e, fz, h1, h2, h3, h4, h5⟩
  · exact .inl ⟨hφ.trans h1, h2⟩
  · exact .inr ⟨β, b, c, e, fz, hφ.trans h1, (hb β b h1).trans h2, h3, h4, fun i j av hij =>
      let ⟨v, g1, g2, g3⟩ := h5 i j av hij; ⟨v, g1, g2, hV _ _ g3⟩⟩

/-- The frame of a call: the world at its start, which blocks it was handed to write, which to read, which names these have. -/
structure Fr where
  w0 : World
  own : Nat → Prop
  rd : Nat → Prop
  O0 : Nat → Option Ob
  φ0 : Nat → Option (Nat × Nat)

/-- Blocks that nobody writes. -/
def SS (F : Fr) (φ : Nat → Option (Nat × Nat)) (obs : Nat → Option Ob) (w : World) (β : Nat) : Prop :=
  β < w.heap.size ∧ (∀ i o b, obs i = some o → φ i ≠ some (β, b)) ∧ (β < F.w0.heap.size → F.rd β ∨ F.own β)

structure RepH (F : Fr) (φ : Nat → Option (Nat × Nat)) (obs : Nat → Option Ob) (U : Nat → Prop) (w : World) : Prop where
  inj : ∀ i j oi oj β bi bj, obs i = some oi → obs j = some oj → φ i = some (β, bi) → φ j = some (β, bj) → i = j
  inU : ∀ i o, obs i = some o → U i
  ob : ∀ i o, obs i = some o → ObRep φ obs U w.heap (SS F φ obs w) i o
  own : ∀ i o β b, obs i = some o → φ i = some (β, b) → F.own β ∨ F.w0.heap.size ≤ β
  below : ∀ β, β < F.w0.heap.size → ¬ F.own β → w.heap[β]? = F.w0.heap[β]?
  size : F.w0.heap.size ≤ w.heap.size
  os : w.os = F.w0.os
  tape : w.tape = F.w0.tape
  output : w.output = F.w0.output
  idsU : ∀ i, F.O0 i ≠ none → U i
  keep0 : ∀ i, F.O0 i ≠ none → Keeps F.φ0 φ F.O0 obs F.w0.heap w.heap i

theorem RepH.lt {F : Fr} {φ : Nat → Option (Nat × Nat)} {obs : Nat → Option Ob} {U : Nat → Prop} {w : World} (H : RepH F φ obs U w) {i : Nat} {o : Ob} {β b : Nat}
    (ho : obs i = some o) (hφ : φ i = some (β, b)) : β < w.heap.size := by
  obtain ⟨_, h | ⟨β', b', c, e, fz, h1, h2, _⟩⟩ := H.ob i o ho
  · rw [h.1] at hφ; cases hφ
  · rw [h1] at hφ; cases hφ
    exact (Array.getElem?_eq_some_iff.1 h2).1

/-- Only the heap counts. -/
theorem SS.of_heap {F : Fr} {φ : Nat → Option (Nat × Nat)} {obs : Nat → Option Ob} {w w' : World} (hw : w'.heap = w.heap) : SS F φ obs w' = SS F φ obs w := by
  funext β; simp [SS, hw]

theorem RepH.of_heap {F : Fr} {φ : Nat → Option (Nat × Nat)} {obs : Nat → Option Ob} {U : Nat → Prop} {w w' : World} (H : RepH F φ obs U w)
    (hw : w'.heap = w.heap) (h1 : w'.os = w.os) (h2 : w'.tape = w.tape) (h3 : w'.output = w.output) : RepH F φ obs U w' :=
  { inj := H.inj, inU := H.inU
    ob := fun i o ho => by rw [SS.of_heap hw, hw]; exact H.ob i o ho
    own := H.own
    below := fun β hb ho => by rw [hw]; exact H.below β hb ho
    size := by rw [hw]; exact H.size
    os := h1.trans H.os, tape := h2.trans H.tape, output := h3.trans H.output, idsU := H.idsU
    keep0 := fun i hi => by rw [hw]; exact H.keep0 i hi }

/-- How the world may go on: blocks that are no object's stay, new ones come; what the objects are called and hold may turn. -/
structure Goes (φ φ' : Nat → Option (Nat × Nat)) (obs obs' : Nat → Option Ob) (U U' : Nat → Prop) (w w' : World) : Prop where
  hU : ∀ i, U i → U' i
  keeps : ∀ i, U i → Keeps φ φ' obs obs' w.heap w'.heap i
  blocks : ∀ β, β < w.heap.size → (∀ i o b, obs i = some o → φ i ≠ some (β, b)) → w'.heap[β]? = w.heap[β]?
  news : ∀ i o' β b, obs' i = some o' → φ' i = some (β, b) → (∃ j oj bj, obs j = some oj ∧ φ j = some (β, bj)) ∨ w.heap.size ≤ β
  size : w.heap.size ≤ w'.heap.size

theorem Goes.ss {F : Fr} {φ φ' : Nat → Option (Nat × Nat)} {obs obs' : Nat → Option Ob} {U U' : Nat → Prop} {w w' : World} (G : Goes φ φ' obs obs' U U' w w')
    (β : Nat) (h : SS F φ obs w β) : SS F φ' obs' w' β ∧ w'.heap[β]? = w.heap[β]? := by
  obtain ⟨h1, h2, h3⟩ := h
  refine ⟨⟨Nat.lt_of_lt_of_le h1 G.size, fun i o' b ho' hφ' => ?_, h3⟩, G.blocks β h1 h2⟩
  rcases G.news i o' β b ho' hφ' with ⟨j, oj, bj, k1, k2⟩ | k
  · exact h2 j oj bj k1 k2
  · omega

theorem Goes.repV {F : Fr} {φ φ' : Nat → Option (Nat × Nat)} {obs obs' : Nat → Option Ob} {U U' : Nat → Prop} {w w' : World} (G : Goes φ φ' obs obs' U U' w w')
    {v : Value} {av : AV} (r : RepV φ obs U w.heap (SS F φ obs w) v av) : RepV φ' obs' U' w'.heap (SS F φ' obs' w') v av :=
  r.mono G.hU G.keeps G.ss

theorem Goes.repH {F : Fr} {φ φ' : Nat → Option (Nat × Nat)} {obs obs' : Nat → Option Ob} {U U' : Nat → Prop} {w w' : World} (G : Goes φ φ' obs obs' U U' w w')
    (H : RepH F φ obs U w)
    (inj : ∀ i j oi oj β bi bj, obs' i = some oi → obs' j = some oj → φ' i = some (β, bi) → φ' j = some (β, bj) → i = j)
    (inU : ∀ i o, obs' i = some o → U' i)
    (ob : ∀ i o, obs' i = some o → ObRep φ' obs' U' w'.heap (SS F φ' obs' w') i o)
    (os : w'.os = w.os) (tape : w'.tape = w.tape) (output : w'.output = w.output) : RepH F φ' obs' U' w' :=
  { inj, inU, ob
    own := fun i o β b ho hφ => by
      rcases G.news i o β b ho hφ with ⟨j, oj, bj, k1, k2⟩ | k
      · exact H.own j oj β bj k1 k2
      · exact .inr (Nat.le_trans H.size k)
    below := fun β hb hno => by
      rw [← H.below β hb hno]
      refine G.blocks β (Nat.lt_of_lt_of_le hb H.size) fun i o b ho hφ => ?_
      rcases H.own i o β b ho hφ with k | k
      · exact hno k
      · omega
    size := Nat.le_trans H.size G.size
    os := os.trans H.os, tape := tape.trans H.tape, output := output.trans H.output
    idsU := fun i hi => G.hU i (H.idsU i hi)
    keep0 := fun i hi => (H.keep0 i hi).trans (G.keeps i (H.idsU i hi)) }

def upd {α : Type} (f : Nat → α) (a : Nat) (v : α) : Nat → α := fun b => if a = b then v else f b
theorem upd_eq {α : Type} (f : Nat → α) (a : Nat) (v : α) : upd f a v a = v := by simp [upd]
theorem upd_ne {α : Type} (f : Nat → α) (a : Nat) (v : α) (b : Nat) (h : (a = b) = False) : upd f a v b = f b := by simp [upd, h]
theorem upd_ne' {α : Type} (f : Nat → α) {a : Nat} (v : α) {b : Nat} (h : a ≠ b) : upd f a v b = f b := by simp [upd, h]

/-- The state that a proof speaks of: what is known of the slots, the objects, the names that are taken. -/
structure St where
  regs : Nat → AV
  objs : Nat → Option Ob
  used : List Nat

structure Rep (F : Fr) (n : Nat) (st : St) (a : Act) (w : World) : Prop where
  size : a.tmps.size = n
  defers : a.defers = []
  rep : ∃ φ, RepH F φ st.objs (· ∈ st.used) w ∧ ∀ t, RepV φ st.objs (· ∈ st.used) w.heap (SS F φ st.objs w) (a.tmps.getD t undef) (st.regs t)

theorem Rep.of_heap {F : Fr} {n : Nat} {st : St} {a : Act} {w w' : World} (R : Rep F n st a w) (hw : w'.heap = w.heap) (h1 : w'.os = w.os) (h2 : w'.tape = w.tape) (h3 : w'.output = w.output) : Rep F n st a w' := by
  obtain ⟨φ, H, hr⟩ := R.rep
  exact ⟨R.size, R.defers, φ, H.of_heap hw h1 h2 h3, fun t => by rw [SS.of_heap hw, hw]; exact hr t⟩

def St.put (st : St) (d : Option Nat) (v : AV) : St := match d with | some d => { st with regs := upd st.regs d v } | none => st

theorem getD_put (a : Act) (d : Nat) (v : Value) (hd : d < a.tmps.size) (t : Nat) : (a.put (some d) v).tmps.getD t undef = if d = t then v else a.tmps.getD t undef := by
  simp only [Act.put, Array.getD_eq_getD_getElem?]
  by_cases h : d = t
  · subst h; simp [hd]
  · simp [Array.getElem?_setIfInBounds_ne h, h]

theorem put_size (a : Act) (d : Option Nat) (v : Value) : (a.put d v).tmps.size = a.tmps.size := by
  cases d <;> simp [Act.put]

theorem put_defers (a : Act) (d : Option Nat) (v : Value) : (a.put d v).defers = a.defers := by
  cases d <;> simp [Act.put]

/-- The world has gone on, and a slot has been written. -/
theorem Rep.goes {F : Fr} {n : Nat} {st st' : St} {a : Act} {w w' : World} {φ φ' : Nat → Option (Nat × Nat)} {d : Option Nat} {v : Value} {av : AV}
    (hn : a.tmps.size = n) (hdf : a.defers = []) (hr : ∀ t, RepV φ st.objs (· ∈ st.used) w.heap (SS F φ st.objs w) (a.tmps.getD t undef) (st.regs t))
    (G : Goes φ φ' st.objs st'.objs (· ∈ st.used) (· ∈ st'.used) w w') (H' : RepH F φ' st'.objs (· ∈ st'.used) w')
    (hregs : st'.regs = (st.put d av).regs) (hd : ∀ x, d = some x → x < n) (hv : d ≠ none → RepV φ' st'.objs (· ∈ st'.used) w'.heap (SS F φ' st'.objs w') v av) :
    Rep F n st' (a.put d v) w' := by
  refine ⟨(put_size ..).trans hn, (put_defers ..).trans hdf, φ', H', fun t => ?_⟩
  rw [hregs]
  cases d with
  | none => exact G.repV (hr t)
  | some d =>
    rw [getD_put a d v (by rw [hn]; exact hd d rfl)]
    simp only [St.put, upd]
    split
    · exact hv (by simp)
    · exact G.repV (hr t)

theorem Goes.refl (φ : Nat → Option (Nat × Nat)) (obs : Nat → Option Ob) (U : Nat → Prop) (w w' : World) (hw : w'.heap = w.heap) : Goes φ φ obs obs U U w w' :=
  { hU := fun _ h => h
    keeps := fun i _ o' ho' => ⟨o', ho', rfl, rfl, Nat.le_refl _, fun β b c e fz _ h => ⟨c, e, fz, by rw [hw]; exact h, rfl⟩⟩
    blocks := fun β _ _ => by rw [hw]
    news := fun i o' β b ho hφ => .inl ⟨i, o', b, ho, hφ⟩
    size := by rw [hw]; exact Nat.le_refl _ }

/-- Only a slot has been written (and the draws may have gone on). -/
theorem Rep.put {F : Fr} {n : Nat} {st : St} {a : Act} {w w' : World} {φ : Nat → Option (Nat × Nat)} {d : Option Nat} {v : Value} {av : AV}
    (hn : a.tmps.size = n) (hdf : a.defers = []) (H : RepH F φ st.objs (· ∈ st.used) w)
    (hr : ∀ t, RepV φ st.objs (· ∈ st.used) w.heap (SS F φ st.objs w) (a.tmps.getD t undef) (st.regs t))
    (hw : w'.heap = w.heap) (h1 : w'.os = w.os) (h2 : w'.tape = w.tape) (h3 : w'.output = w.output)
    (hd : ∀ x, d = some x → x < n) (hv : RepV φ st.objs (· ∈ st.used) w.heap (SS F φ st.objs w) v av) : Rep F n (st.put d av) (a.put d v) w' := by
  have G : Goes φ φ st.objs (st.put d av).objs (· ∈ st.used) (· ∈ (st.put d av).used) w w' := by cases d <;> exact Goes.refl _ _ _ _ _ hw
  have H' : RepH F φ (st.put d av).objs (· ∈ (st.put d av).used) w' := by cases d <;> exact H.of_heap hw h1 h2 h3
  refine Rep.goes hn hdf hr G H' rfl hd fun _ => ?_
  exact G.repV hv
end Go.Vc
