/- Calls. Part of a framework of abstract values and states, over the model, for proofs of functions; it has no conditions of its own. -/
import Derived.Test.YtpipfaegkgakiaaVcF
set_option linter.all false
/-! Calls. -/
namespace Go.Vc

mutual
/-- Does it speak of no object? -/
def AV.noId : AV → Bool
  | .rf _ _ _ => false
  | .pt _ _ _ => false
  | .ag cs => noIds cs
  | .tu vs => noIds vs
  | .fn _ caps => noIds caps
  | _ => true
def noIds : List AV → Bool
  | [] => true
  | x :: r => x.noId && noIds r
end

theorem noIds_get {l : List AV} (h : noIds l = true) {j : Nat} {av : AV} (hj : l[j]? = some av) : av.noId = true := by
  induction l generalizing j with
  | nil => cases hj
  | cons x r ih =>
    simp only [noIds, Bool.and_eq_true] at h
    cases j with
    | zero => simp at hj; subst hj; exact h.1
    | succ j => exact ih h.2 (by simpa using hj)

/-- May it lie in memory that nobody writes? -/
def AV.leaf : AV → Bool
  | .pr _ => true
  | .nl => true
  | .im _ _ => true
  | .fn _ [] => true
  | _ => false

mutual
/-- Numbers, texts, and several of these. -/
def AV.flat : AV → Bool
  | .pr _ => true
  | .tu vs => flats vs
  | _ => false
def flats : List AV → Bool
  | [] => true
  | x :: r => x.flat && flats r
end

theorem flats_get {l : List AV} (h : flats l = true) {j : Nat} {av : AV} (hj : l[j]? = some av) : av.flat = true := by
  induction l generalizing j with
  | nil => cases hj
  | cons x r ih =>
    simp only [flats, Bool.and_eq_true] at h
    cases j with
    | zero => simp at hj; subst hj; exact h.1
    | succ j => exact ih h.2 (by simpa using hj)

section
variable {φ φ' : Nat → Option (Nat × Nat)} {obs obs' : Nat → Option Ob} {U U' : Nat → Prop} {h h' : Array Obj} {S S' : Nat → Prop}

theorem noId_rep (hS : ∀ β, S β → S' β ∧ h'[β]? = h[β]?) {v : Value} {av : AV} (r : RepV φ obs U h S v av) (hn : av.noId = true) : RepV φ' obs' U' h' S' v av := by
  induction r with
  | un v => exact .un v
  | rd r => exact .rd (r.mono hS)
  | rf => simp [AV.noId] at hn
  | pt => simp [AV.noId] at hn
  | ro vs hSb hb hc hr =>
    obtain ⟨h1, h2⟩ := hS _ hSb
    exact .ro vs h1 (h2.trans hb) hc fun j av hj => (hr j av hj).mono hS
  | ag hs h1 hr ih => exact .ag hs h1 fun j av hj => ih j av hj (noIds_get (by simpa [AV.noId] using hn) hj)
  | tu hs hr ih => exact .tu hs fun j av hj => ih j av hj (noIds_get (by simpa [AV.noId] using hn) hj)
  | fn hs hr ih => exact .fn hs fun j av hj => ih j av hj (noIds_get (by simpa [AV.noId] using hn) hj)

theorem flat_rep {v : Value} {av : AV} (r : RepV φ obs U h S v av) (hn : av.flat = true) : RepV φ' obs' U' h' S' v av := by
  induction r with
  | rd r => cases r <;> first | exact .rd (.pr _ (by assumption)) | simp [AV.flat] at hn
  | tu hs hr ih => exact .tu hs fun j av hj => ih j av hj (flats_get (by simpa [AV.flat] using hn) hj)
  | _ => simp [AV.flat] at hn

theorem leaf_rd {v : Value} {av : AV} (r : RepV φ obs U h S v av) (hn : av.leaf = true) : RdI h S v av := by
  cases r with
  | rd r => exact r
  | fn hs hr =>
    rename_i g arr caps
    cases caps with
    | nil =>
      have : arr = #[] := Array.eq_empty_of_size_eq_zero hs
      subst this; exact .fn g
    | cons a b => simp [AV.leaf] at hn
  | _ => simp [AV.leaf] at hn
end

/-- What a function does: of arguments, objects that it is handed (and their names), an answer and what becomes of the objects. -/
def FunSpec (P : Program) (f : Nat) (args : List AV) (O : Nat → Option Ob) (U : List Nat) (R : AV → (Nat → Option Ob) → Prop) : Prop :=
  (∃ fn, P.funcs[f]? = some fn ∧ (fn.name == "runtime.NumGoroutine") = false ∧ fn.body.isSome = true) ∧
  ∀ (F : Fr) (φ : Nat → Option (Nat × Nat)) (w : World) (vs : Array Value), F.w0 = w → F.O0 = O → F.φ0 = φ → RepH F φ O (· ∈ U) w →
    vs.size = args.length → (∀ (j : Nat) (av : AV), args[j]? = some av → RepV φ O (· ∈ U) w.heap (SS F φ O w) (vs.getD j undef) av) →
    Calls P f vs w fun e w' => ∃ (v : Value) (r : AV) (O' : Nat → Option Ob) (φ' : Nat → Option (Nat × Nat)) (U' : List Nat), e = .returned v ∧ R r O' ∧ RepH F φ' O' (· ∈ U') w' ∧
      RepV φ' O' (· ∈ U') w'.heap (SS F φ' O' w') v r

theorem FunSpec.mono {P : Program} {f : Nat} {args : List AV} {O : Nat → Option Ob} {U : List Nat} {R R' : AV → (Nat → Option Ob) → Prop} (h : FunSpec P f args O U R) (hr : ∀ r O', R r O' → R' r O') : FunSpec P f args O U R' := by
  refine ⟨h.1, fun F φ w vs h1 h2 h3 H hs ha => (h.2 F φ w vs h1 h2 h3 H hs ha).mono ?_⟩
  rintro e w' ⟨v, r, O', φ', U', g1, g2, g3⟩
  exact ⟨v, r, O', φ', U', g1, hr _ _ g2, g3⟩

def noOb : Nat → Option Ob := fun _ => none

/-- A function that is handed no object, and hands none back. -/
def Spec0 (P : Program) (f : Nat) (args : List AV) (R : AV → Prop) : Prop := FunSpec P f args noOb [] fun r O' => (R r ∧ r.noId = true) ∧ O' = noOb

/-- What its elements' cells are, nobody writes. -/
def Ob.leafy (o : Ob) : Prop := ∀ x ∈ o.es, ∀ a ∈ x, a.leaf = true

mutual
/-- Does it speak of object 0 alone? -/
def AV.only0 : AV → Bool
  | .rf id _ _ => id == 0
  | .pt id _ _ => id == 0
  | .ag cs => only0s cs
  | .tu vs => only0s vs
  | .fn _ caps => only0s caps
  | _ => true
def only0s : List AV → Bool
  | [] => true
  | x :: r => x.only0 && only0s r
end

theorem only0s_get {l : List AV} (h : only0s l = true) {j : Nat} {av : AV} (hj : l[j]? = some av) : av.only0 = true := by
  induction l generalizing j with
  | nil => cases hj
  | cons x r ih =>
    simp only [only0s, Bool.and_eq_true] at h
    cases j with
    | zero => simp at hj; subst hj; exact h.1
    | succ j => exact ih h.2 (by simpa using hj)

/-- A function that is handed no object, and makes one. -/
def Spec1 (P : Program) (f : Nat) (args : List AV) (R : AV → Ob → Prop) : Prop := FunSpec P f args noOb [] fun r O' => ∃ o, (R r o ∧ r.only0 = true) ∧ o.leafy ∧ O' = upd noOb 0 (some o)

/-- A function that is handed one object, and hands it back, turned. -/
def SpecO (P : Program) (f : Nat) (args : List AV) (o : Ob) (R : AV → Ob → Prop) : Prop := FunSpec P f args (upd noOb 0 (some o)) [0] fun r O' => ∃ o', (R r o' ∧ r.noId = true) ∧ o'.leafy ∧ O' = upd noOb 0 (some o')

mutual
/-- Names turned. -/
def AV.ren (d : Nat) : AV → AV
  | .rf _ off len => .rf d off len
  | .pt _ i off => .pt d i off
  | .ag cs => .ag (rens d cs)
  | .tu vs => .tu (rens d vs)
  | .fn f caps => .fn f (rens d caps)
  | x => x
def rens (d : Nat) : List AV → List AV
  | [] => []
  | x :: r => x.ren d :: rens d r
end

mutual
/-- Lent: as memory that nobody writes meanwhile (f: what a box's cells are lent as). -/
def AV.lendW (f : List AV → List AV) (objs : Nat → Option Ob) : AV → AV
  | .rf id off len => match objs id with
    | some o => .im o.sz ((o.es.drop off).take len)
    | none => .un
  | .pt id i off => match objs id with
    | some o => match o.es[i]? with
      | some cs => .ro (f cs) off
      | none => .un
    | none => .un
  | .ag cs => .ag (lendsW f objs cs)
  | .tu vs => .tu (lendsW f objs vs)
  | .fn g caps => .fn g (lendsW f objs caps)
  | x => x
def lendsW (f : List AV → List AV) (objs : Nat → Option Ob) : List AV → List AV
  | [] => []
  | x :: r => x.lendW f objs :: lendsW f objs r
end
mutual
/-- May it be lent? -/
def AV.lok (p : List AV → Prop) (objs : Nat → Option Ob) : AV → Prop
  | .rf id _ _ => ∃ o, objs id = some o ∧ o.leafy
  | .pt id i _ => ∃ o cs, objs id = some o ∧ o.es[i]? = some cs ∧ p cs
  | .ag cs => loks p objs cs
  | .tu vs => loks p objs vs
  | .fn _ caps => loks p objs caps
  | _ => True
def loks (p : List AV → Prop) (objs : Nat → Option Ob) : List AV → Prop
  | [] => True
  | x :: r => x.lok p objs ∧ loks p objs r
end
def leafs : List AV → Prop
  | [] => True
  | x :: r => x.leaf = true ∧ leafs r
def lends1 (objs : Nat → Option Ob) (cs : List AV) : List AV := lendsW (fun x => x) objs cs
def lends (objs : Nat → Option Ob) (cs : List AV) : List AV := lendsW (lends1 objs) objs cs
def lok1 (objs : Nat → Option Ob) (cs : List AV) : Prop := loks leafs objs cs ∧ leafs (lends1 objs cs)
def lok (objs : Nat → Option Ob) (cs : List AV) : Prop := loks (lok1 objs) objs cs

inductive CALL (P : Program) (f : Nat) (args : List AV) (st : St) (d : Option Nat) (K : St → Prop) : Prop
  | pure (R : AV → Prop) (h : Spec0 P f args R) (ha : noIds args = true) (k : ∀ r, R r → r.noId = true → K (st.put d r)) : CALL P f args st d K
  | make (x : Nat) (R : AV → Ob → Prop) (h : Spec1 P f args R) (hd : d = some x) (hx : x ∉ st.used) (ha : noIds args = true)
      (k : ∀ r o, R r o → o.leafy → K { regs := upd st.regs x (r.ren x), objs := upd st.objs x (some o), used := x :: st.used }) : CALL P f args st d K
  | obj (id : Nat) (o : Ob) (R : AV → Ob → Prop) (args' : List AV) (h : SpecO P f args' o R) (ho : st.objs id = some o) (hl : o.leafy) (h0 : only0s args' = true) (ha : rens id args' = args)
      (k : ∀ r o', R r o' → r.noId = true → o'.leafy → K { st.put d r with objs := upd st.objs id (some o') }) : CALL P f args st d K
  | lend (R : AV → Prop) (h : Spec0 P f (lends st.objs args) R) (hl : lok st.objs args) (k : ∀ r, R r → K (st.put d r)) (hf : ∀ r, R r → r.flat = true) : CALL P f args st d K
@[congr] theorem CALL_congr {P : Program} {f f' : Nat} {args args' : List AV} {st st' : St} {d : Option Nat} {K : St → Prop} {p00 : Prop} (_h00 : (True ∧ True) = p00) (h : f = f') (h2 : args = args') (h3 : st = st') : CALL P f args st d K = CALL P f' args' st' d K := by rw [h, h2, h3]

theorem leafs_get {l : List AV} (h : leafs l) {j : Nat} {av : AV} (hj : l[j]? = some av) : av.leaf = true := by
  induction l generalizing j with
  | nil => cases hj
  | cons x r ih =>
    cases j with
    | zero => simp at hj; subst hj; exact h.1
    | succ j => exact ih h.2 (by simpa using hj)

theorem loks_get {p : List AV → Prop} {objs : Nat → Option Ob} {l : List AV} (h : loks p objs l) {j : Nat} {av : AV} (hj : l[j]? = some av) : av.lok p objs := by
  induction l generalizing j with
  | nil => cases hj
  | cons x r ih =>
    simp only [loks] at h
    cases j with
    | zero => simp at hj; subst hj; exact h.1
    | succ j => exact ih h.2 (by simpa using hj)

theorem lendsW_get {f : List AV → List AV} {objs : Nat → Option Ob} {l : List AV} (j : Nat) : (lendsW f objs l)[j]? = (l[j]?).map (AV.lendW f objs) := by
  induction l generalizing j with
  | nil => simp [lendsW]
  | cons x r ih => cases j with
    | zero => simp [lendsW]
    | succ j => simp [lendsW, ih]

theorem lendsW_length {f : List AV → List AV} {objs : Nat → Option Ob} {l : List AV} : (lendsW f objs l).length = l.length := by
  induction l with
  | nil => rfl
  | cons x r ih => simp [lendsW, ih]

theorem rens_get {d : Nat} {l : List AV} (j : Nat) : (rens d l)[j]? = (l[j]?).map (AV.ren d) := by
  induction l generalizing j with
  | nil => simp [rens]
  | cons x r ih => cases j with
    | zero => simp [rens]
    | succ j => simp [rens, ih]

theorem rens_length {d : Nat} {l : List AV} : (rens d l).length = l.length := by
  induction l with
  | nil => rfl
  | cons x r ih => simp [rens, ih]

theorem leafy_get {o : Ob} (h : o.leafy) {i j : Nat} {av : AV} (hij : cellAt o.es i j = some av) : av.leaf = true := by
  unfold cellAt at hij
  cases he : o.es[i]? with
  | none => rw [he] at hij; cases hij
  | some x => rw [he] at hij; exact h x (List.mem_of_getElem? he) av (List.mem_of_getElem? hij)

theorem leaf_noId {av : AV} (h : av.leaf = true) : av.noId = true := by
  cases av with
  | fn f caps => cases caps with
    | nil => rfl
    | cons a b => simp [AV.leaf] at h
  | _ => first | rfl | simp [AV.leaf] at h

section
variable {P : Program} {F : Fr} {φ : Nat → Option (Nat × Nat)} {st : St} {w : World}

/-- What the values become in the eyes of one to whom all is lent. -/
theorem lend_rep {f : List AV → List AV} {p : List AV → Prop} {S' : Nat → Prop} {φ' : Nat → Option (Nat × Nat)} {O' : Nat → Option Ob} {U' : Nat → Prop} (H : RepH F φ st.objs (· ∈ st.used) w) (hS : ∀ β, β < w.heap.size → S' β)
    (hf : ∀ cs : List AV, p cs → (f cs).length = cs.length ∧ ∀ (j : Nat) (av av' : AV) (v : Value), cs[j]? = some av → (f cs)[j]? = some av' → v.oneCell' = true → RV F φ st w v av → RdI w.heap S' v av')
    {v : Value} {av : AV} (r : RV F φ st w v av) (hl : av.lok p st.objs) : RepV φ' O' U' w.heap S' v (av.lendW f st.objs) := by
  have hSS : ∀ β, SS F φ st.objs w β → S' β ∧ w.heap[β]? = w.heap[β]? := fun β hβ => ⟨hS β hβ.1, rfl⟩
  induction r with
  | un v => simpa [AV.lendW] using RepV.un v
  | rd r =>
    rename_i v av
    have : av.lendW f st.objs = av := by cases r <;> simp [AV.lendW, lendsW]
    rw [this]; exact .rd (r.mono hSS)
  | @rf v id off len hu hv hr =>
    simp only [AV.lok] at hl
    obtain ⟨o, ho, hleaf⟩ := hl
    simp only [AV.lendW, ho]
    obtain ⟨g1, g2⟩ := hr o ho
    have hlen : ((o.es.drop off).take len).length = len := by simp; omega
    rcases g2 with ⟨rfl, a, rfl⟩ | ⟨β, b, cap, c, e, fz, k1, k2, rfl, k4, k5⟩
    · simp only [List.take_zero]; exact .rd (.im0 _ _ _)
    · obtain ⟨hel, c', e', fz', hb, _, _, hc⟩ := ob_at H ho k1
      rw [k2] at hb; cases hb
      have hcell : ∀ i j av, cellAt ((o.es.drop off).take len) i j = some av → cellAt o.es (off + i) j = some av := by
        intro i j av hij
        simp only [cellAt, List.getElem?_take, List.getElem?_drop] at hij ⊢
        split at hij
        · exact hij
        · cases hij
      have hex : ∀ i j av, cellAt ((o.es.drop off).take len) i j = some av → ∃ u, c[b + off * o.sz + i * o.sz + j]? = some u ∧ RdI w.heap S' u av := by
        intro i j av hij
        obtain ⟨u, m1, _, m3⟩ := hc _ _ _ (hcell i j av hij)
        refine ⟨u, ?_, (leaf_rd m3 (leafy_get hleaf (hcell i j av hij))).mono hSS⟩
        rw [Nat.add_mul, ← Nat.add_assoc] at m1; exact m1
      have hfin := RdI.im (h := w.heap) (S := S') (β := β) (o := b + off * o.sz) (cap := cap) (sz := o.sz) (c := c) (e := e) (fz := fz) (es := (o.es.drop off).take len) (fun i j => c.getD (b + off * o.sz + i * o.sz + j) undef)
        (hS β (Array.getElem?_eq_some_iff.1 k2).1) k2 (by omega) (fun x hx => hel x (List.mem_of_mem_drop (List.mem_of_mem_take hx)))
        (fun i j av hij => by obtain ⟨u, m1, _⟩ := hex i j av hij; rw [Array.getD_eq_getD_getElem?, m1]; rfl)
        (fun i j av hij => by obtain ⟨u, m1, m2⟩ := hex i j av hij; rw [Array.getD_eq_getD_getElem?, m1]; exact m2)
      rw [hlen] at hfin
      exact .rd hfin
  | @pt v id i off hu hv hr =>
    simp only [AV.lok] at hl
    obtain ⟨o, cs, ho, hi, hp⟩ := hl
    obtain ⟨hl1, hl2⟩ := hf cs hp
    simp only [AV.lendW, ho, hi]
    obtain ⟨β, b, k1, rfl⟩ := hr o ho
    obtain ⟨hel, c, e, fz, hb, _, _, hc⟩ := ob_at H ho k1
    have hex : ∀ (j : Nat) (av' : AV), (f cs)[j]? = some av' → ∃ u, c[b + i * o.sz + j]? = some u ∧ RdI w.heap S' u av' := by
      intro j av' hj
      have hlt := (List.getElem?_eq_some_iff.1 hj).1
      rw [hl1] at hlt
      obtain ⟨u, m1, m2, m3⟩ := hc i j cs[j] (by simp [cellAt, hi, hlt])
      exact ⟨u, m1, hl2 j cs[j] av' u (List.getElem?_eq_getElem hlt) hj m2 m3⟩
    exact .ro (o := b + i * o.sz) (fun j => c.getD (b + i * o.sz + j) undef) (hS β (Array.getElem?_eq_some_iff.1 hb).1) hb
      (fun j av hj => by obtain ⟨u, m1, _⟩ := hex j av hj; rw [Array.getD_eq_getD_getElem?, m1]; rfl)
      (fun j av hj => by obtain ⟨u, m1, m2⟩ := hex j av hj; rw [Array.getD_eq_getD_getElem?, m1]; exact m2)
  | ro vs hSb hb hc hr =>
    simp only [AV.lendW]
    exact .ro vs (hS _ hSb.1) hb hc fun j av hj => (hr j av hj).mono hSS
  | ag hs h1 hr ih =>
    simp only [AV.lendW]
    refine .ag (by rw [lendsW_length]; exact hs) h1 fun j av hj => ?_
    rw [lendsW_get] at hj
    obtain ⟨a, h2, rfl⟩ := Option.map_eq_some_iff.1 hj
    exact ih j a h2 (loks_get (by simpa only [AV.lok] using hl) h2)
  | tu hs hr ih =>
    simp only [AV.lendW]
    refine .tu (by rw [lendsW_length]; exact hs) fun j av hj => ?_
    rw [lendsW_get] at hj
    obtain ⟨a, h2, rfl⟩ := Option.map_eq_some_iff.1 hj
    exact ih j a h2 (loks_get (by simpa only [AV.lok] using hl) h2)
  | fn hs hr ih =>
    simp only [AV.lendW]
    refine .fn (by rw [lendsW_length]; exact hs) fun j av hj => ?_
    rw [lendsW_get] at hj
    obtain ⟨a, h2, rfl⟩ := Option.map_eq_some_iff.1 hj
    exact ih j a h2 (loks_get (by simpa only [AV.lok] using hl) h2)

theorem lends_rep {S' : Nat → Prop} {φ' : Nat → Option (Nat × Nat)} {O' : Nat → Option Ob} {U' : Nat → Prop} (H : RepH F φ st.objs (· ∈ st.used) w) (hS : ∀ β, β < w.heap.size → S' β)
    {args : List AV} (hl : lok st.objs args) {vs : Array Value} (ha : ∀ (j : Nat) (av : AV), args[j]? = some av → RV F φ st w (vs.getD j undef) av) :
    ∀ (j : Nat) (av : AV), (lends st.objs args)[j]? = some av → RepV φ' O' U' w.heap S' (vs.getD j undef) av := by
  intro j av hj
  unfold lends at hj
  rw [lendsW_get] at hj
  obtain ⟨a, h2, rfl⟩ := Option.map_eq_some_iff.1 hj
  have hSS : ∀ β, SS F φ st.objs w β → S' β ∧ w.heap[β]? = w.heap[β]? := fun β hβ => ⟨hS β hβ.1, rfl⟩
  refine lend_rep H hS (p := lok1 st.objs) (fun cs hcs => ⟨lendsW_length, fun j av av' v hj hj' hone r => ?_⟩) (ha j a h2) (loks_get hl h2)
  obtain ⟨hc1, hc2⟩ := hcs
  have hj2 := hj'
  unfold lends1 at hj2
  rw [lendsW_get, hj] at hj2
  simp only [Option.map_some, Option.some.injEq] at hj2
  subst hj2
  refine leaf_rd (φ := φ) (obs := noOb) (U := fun _ => True) (lend_rep H hS (p := leafs) (fun cs hcs => ⟨rfl, fun j av av' v hj hj' hone r => ?_⟩) r (loks_get hc1 hj)) (leafs_get hc2 hj')
  rw [hj] at hj'; cases hj'
  exact (leaf_rd r (leafs_get hcs hj)).mono hSS
end
end Go.Vc
