/- Contracts of the program's functions over abstract values and states, plain facts on which these lean, and the framework of these values over the model: Calls that are handed several objects, or make several. Arguments that are structs, as well. A statement's closed facts, where the program's head names many laws. The conditions stand in each theorem. -/
import Derived.Test.YtdjphppkknffbaaBb
import Derived.JoinedCond
set_option linter.all false
namespace Go.Vc
mutual
def AV.rn (ρ : Nat → Nat) : AV → AV
  | .rf i off len => .rf (ρ i) off len
  | .pt i j off => .pt (ρ i) j off
  | .ag cs => .ag (rns ρ cs)
  | .tu vs => .tu (rns ρ vs)
  | .fn f caps => .fn f (rns ρ caps)
  | x => x
def rns (ρ : Nat → Nat) : List AV → List AV
  | [] => []
  | x :: r => x.rn ρ :: rns ρ r
end
mutual
def AV.inN (p : Nat → Prop) : AV → Prop
  | .rf i _ _ => p i
  | .pt i _ _ => p i
  | .ag cs => inNs p cs
  | .tu vs => inNs p vs
  | .fn _ caps => inNs p caps
  | _ => True
def inNs (p : Nat → Prop) : List AV → Prop
  | [] => True
  | x :: r => x.inN p ∧ inNs p r
end
def Ob.rn (ρ : Nat → Nat) (o : Ob) : Ob := ⟨o.sz, o.es.map (rns ρ)⟩
theorem rns_get {ρ : Nat → Nat} {l : List AV} (j : Nat) : (rns ρ l)[j]? = (l[j]?).map (AV.rn ρ) := by
  induction l generalizing j with
  | nil => simp [rns]
  | cons x r ih => cases j with
    | zero => simp [rns]
    | succ j => simp [rns, ih]
theorem rns_length {ρ : Nat → Nat} {l : List AV} : (rns ρ l).length = l.length := by
  induction l with
  | nil => rfl
  | cons x r ih => simp [rns, ih]
theorem inNs_get {p : Nat → Prop} {l : List AV} (h : inNs p l) {j : Nat} {av : AV} (hj : l[j]? = some av) : av.inN p := by
  induction l generalizing j with
  | nil => cases hj
  | cons x r ih =>
    simp only [inNs] at h
    cases j with
    | zero => simp at hj; subst hj; exact h.1
    | succ j => exact ih h.2 (by simpa using hj)
theorem cell_rn {ρ : Nat → Nat} {es : List (List AV)} {i j : Nat} : cellAt (es.map (rns ρ)) i j = (cellAt es i j).map (AV.rn ρ) := by
  simp only [cellAt, List.getElem?_map]
  cases es[i]? with
  | none => rfl
  | some x => simp [rns_get]
theorem inN_cell {p : Nat → Prop} {es : List (List AV)} (h : ∀ x ∈ es, inNs p x) {i j : Nat} {av : AV} (hij : cellAt es i j = some av) : av.inN p := by
  unfold cellAt at hij
  cases he : es[i]? with
  | none => rw [he] at hij; cases hij
  | some x => rw [he] at hij; exact inNs_get (h x (List.mem_of_getElem? he)) hij

section
variable {φ φ' : Nat → Option (Nat × Nat)} {obs obs' : Nat → Option Ob} {U U' : Nat → Prop} {h : Array Obj} {S S' : Nat → Prop} {ρ : Nat → Nat} {p : Nat → Prop}
theorem rn_rep (hS : ∀ β, S β → S' β) (hp : ∀ i, p i → U' (ρ i) ∧ ∀ o', obs' (ρ i) = some o' → ∃ o, obs i = some o ∧ o'.sz = o.sz ∧ o'.es.length = o.es.length ∧ φ' (ρ i) = φ i)
    {v : Value} {av : AV} (r : RepV φ obs U h S v av) (hn : av.inN p) : RepV φ' obs' U' h S' v (av.rn ρ) := by
  induction r with
  | un v => simpa [AV.rn] using RepV.un v
  | rd r0 =>
    rename_i v av
    have : av.rn ρ = av := by cases r0 <;> simp [AV.rn, rns]
    rw [this]; exact .rd (r0.mono fun β hβ => ⟨hS β hβ, rfl⟩)
  | @rf v id off len hu hv hr =>
    obtain ⟨h1, h2⟩ := hp id (by simpa only [AV.inN] using hn)
    simp only [AV.rn]
    refine .rf h1 hv fun o' ho' => ?_
    obtain ⟨o, ho, e1, e2, e3⟩ := h2 o' ho'
    obtain ⟨g1, g2⟩ := hr o ho
    refine ⟨by rw [e2]; exact g1, ?_⟩
    rcases g2 with g2 | ⟨β, b, cap, c, e, fz, k1, k2, k3, k4, k5⟩
    · exact .inl g2
    · exact .inr ⟨β, b, cap, c, e, fz, e3.trans k1, k2, by rw [e1]; exact k3, k4, by rw [e1]; exact k5⟩
  | @pt v id i off hu hv hr =>
    obtain ⟨h1, h2⟩ := hp id (by simpa only [AV.inN] using hn)
    simp only [AV.rn]
    refine .pt h1 hv fun o' ho' => ?_
    obtain ⟨o, ho, e1, e2, e3⟩ := h2 o' ho'
    obtain ⟨β, b, k1, k2⟩ := hr o ho
    exact ⟨β, b, e3.trans k1, by rw [e1]; exact k2⟩
  | ro vs hSb hb hc hr => simp only [AV.rn]; exact .ro vs (hS _ hSb) hb hc fun j av hj => (hr j av hj).mono fun β hβ => ⟨hS β hβ, rfl⟩
  | ag hs h1 hr ih =>
    simp only [AV.rn]
    refine .ag (by rw [rns_length]; exact hs) h1 fun j av hj => ?_
    rw [rns_get] at hj
    obtain ⟨a, h2, rfl⟩ := Option.map_eq_some_iff.1 hj
    exact ih j a h2 (inNs_get (by simpa only [AV.inN] using hn) h2)
  | tu hs hr ih =>
    simp only [AV.rn]
    refine .tu (by rw [rns_length]; exact hs) fun j av hj => ?_
    rw [rns_get] at hj
    obtain ⟨a, h2, rfl⟩ := Option.map_eq_some_iff.1 hj
    exact ih j a h2 (inNs_get (by simpa only [AV.inN] using hn) h2)
  | fn hs hr ih =>
    simp only [AV.rn]
    refine .fn (by rw [rns_length]; exact hs) fun j av hj => ?_
    rw [rns_get] at hj
    obtain ⟨a, h2, rfl⟩ := Option.map_eq_some_iff.1 hj
    exact ih j a h2 (inNs_get (by simpa only [AV.inN] using hn) h2)
theorem unrn_rep (hS : ∀ β, S β → S' β) (hp : ∀ i, p i → U' i ∧ ∀ o', obs' i = some o' → ∃ o, obs (ρ i) = some o ∧ o'.sz = o.sz ∧ o'.es.length = o.es.length ∧ φ' i = φ (ρ i)) :
    ∀ {v : Value} {av : AV}, RepV φ obs U h S v (av.rn ρ) → av.inN p → RepV φ' obs' U' h S' v av := by
  have key : ∀ {v : Value} {bv : AV}, RepV φ obs U h S v bv → ∀ av : AV, bv = av.rn ρ → av.inN p → RepV φ' obs' U' h S' v av := by
    intro v bv r
    induction r with
    | un v => intro av e h0; cases av <;> simp [AV.rn] at e; exact .un v
    | rd r0 =>
      intro av e h0
      cases r0 with
      | pr v h1 => cases av <;> simp [AV.rn] at e; subst e; exact .rd (.pr _ h1)
      | nl => cases av <;> simp [AV.rn] at e; exact .rd .nl
      | im0 a cap sz => cases av <;> simp [AV.rn] at e; obtain ⟨rfl, rfl⟩ := e; exact .rd (.im0 _ _ _)
      | im vs hSb hb hcap hsz hc hr => cases av <;> simp [AV.rn] at e; obtain ⟨rfl, rfl⟩ := e; exact .rd (RdI.mono (fun β hβ => ⟨hS β hβ, rfl⟩) (.im vs hSb hb hcap hsz hc hr))
      | fn g =>
        cases av <;> simp [AV.rn] at e
        rename_i g' caps
        obtain ⟨rfl, e⟩ := e
        cases caps with
        | nil => exact .rd (.fn _)
        | cons a b => simp [rns] at e
    | @rf v id off len hu hv hr =>
      intro av e h0
      cases av <;> simp [AV.rn] at e
      rename_i id' off' len'
      obtain ⟨rfl, rfl, rfl⟩ := e
      obtain ⟨h1, h2⟩ := hp id' (by simpa only [AV.inN] using h0)
      refine .rf h1 hv fun o' ho' => ?_
      obtain ⟨o, ho, e1, e2, e3⟩ := h2 o' ho'
      obtain ⟨g1, g2⟩ := hr o ho
      refine ⟨by rw [e2]; exact g1, ?_⟩
      rcases g2 with g2 | ⟨β, b, cap, c, e, fz, k1, k2, k3, k4, k5⟩
      · exact .inl g2
      · exact .inr ⟨β, b, cap, c, e, fz, e3.trans k1, k2, by rw [e1]; exact k3, k4, by rw [e1]; exact k5⟩
    | @pt v id i off hu hv hr =>
      intro av e h0
      cases av <;> simp [AV.rn] at e
      rename_i id' i' off'
      obtain ⟨rfl, rfl, rfl⟩ := e
      obtain ⟨h1, h2⟩ := hp id' (by simpa only [AV.inN] using h0)
      refine .pt h1 hv fun o' ho' => ?_
      obtain ⟨o, ho, e1, e2, e3⟩ := h2 o' ho'
      obtain ⟨β, b, k1, k2⟩ := hr o ho
      exact ⟨β, b, e3.trans k1, by rw [e1]; exact k2⟩
    | ro vs hSb hb hc hr =>
      intro av e h0
      cases av <;> simp [AV.rn] at e
      obtain ⟨rfl, rfl⟩ := e
      exact .ro vs (hS _ hSb) hb hc fun j av hj => (hr j av hj).mono fun β hβ => ⟨hS β hβ, rfl⟩
    | ag hs h1 hr ih =>
      intro av e h0
      cases av <;> simp [AV.rn] at e
      subst e
      refine .ag (by rw [rns_length] at hs; exact hs) h1 fun j av hj => ?_
      exact ih j (av.rn ρ) (by rw [rns_get, hj]; rfl) av rfl (inNs_get (by simpa only [AV.inN] using h0) hj)
    | tu hs hr ih =>
      intro av e h0
      cases av <;> simp [AV.rn] at e
      subst e
      refine .tu (by rw [rns_length] at hs; exact hs) fun j av hj => ?_
      exact ih j (av.rn ρ) (by rw [rns_get, hj]; rfl) av rfl (inNs_get (by simpa only [AV.inN] using h0) hj)
    | fn hs hr ih =>
      intro av e h0
      cases av <;> simp [AV.rn] at e
      obtain ⟨rfl, e⟩ := e
      subst e
      refine .fn (by rw [rns_length] at hs; exact hs) fun j av hj => ?_
      exact ih j (av.rn ρ) (by rw [rns_get, hj]; rfl) av rfl (inNs_get (by simpa only [AV.inN] using h0) hj)
  intro v av r h0
  exact key r _ rfl h0
end

def FunSpecD (P : Program) (f : Nat) (args : List AV) (O0 O : Nat → Option Ob) (U : List Nat) (R : AV → (Nat → Option Ob) → Prop) : Prop :=
  (∃ fn, P.funcs[f]? = some fn ∧ (fn.name == "runtime.NumGoroutine") = false ∧ fn.body.isSome = true) ∧
  ∀ (F : Fr) (φ : Nat → Option (Nat × Nat)) (w : World) (vs : Array Value), F.w0 = w → F.O0 = O0 → F.φ0 = φ → RepH F φ O (· ∈ U) w →
    vs.size = args.length → (∀ (j : Nat) (av : AV), args[j]? = some av → RepV φ O (· ∈ U) w.heap (SS F φ O w) (vs.getD j undef) av) →
    Calls P f vs w fun e w' => ∃ (v : Value) (r : AV) (O' : Nat → Option Ob) (φ' : Nat → Option (Nat × Nat)) (U' : List Nat), e = .returned v ∧ R r O' ∧ RepH F φ' O' (· ∈ U') w' ∧
      RepV φ' O' (· ∈ U') w'.heap (SS F φ' O' w') v r
theorem FunSpecD.mono {P : Program} {f : Nat} {args : List AV} {O0 O : Nat → Option Ob} {U : List Nat} {R R' : AV → (Nat → Option Ob) → Prop} (h : FunSpecD P f args O0 O U R) (hr : ∀ r O', R r O' → R' r O') : FunSpecD P f args O0 O U R' := by
  refine ⟨h.1, fun F φ w vs h1 h2 h3 H hs ha => (h.2 F φ w vs h1 h2 h3 H hs ha).mono ?_⟩
  rintro e w' ⟨v, r, O', φ', U', g1, g2, g3⟩
  exact ⟨v, r, O', φ', U', g1, hr _ _ g2, g3⟩

section
variable {P : Program} {T : Nat → TI}
theorem funspecD_of_vc (hT : TabOk P T) (hE : ∀ t e, (T t).k = .slice e → (T e).k.known = true) (G : Ords) {f : Nat} {fn : Func} {c : Code} {rl : List ResultVar} {args : List AV} {O0 O : Nat → Option Ob} {U : List Nat} {R : AV → (Nat → Option Ob) → Prop}
    (hf : P.funcs[f]? = some fn) (hb : fn.body = some c) (hr : fn.results.toList = rl) (hok : (okCode fn.ntmps G c && !(fn.name == "runtime.NumGoroutine")) = true) (ha : Nat.ble args.length fn.ntmps = true)
    (h0 : ∀ i, O0 i ≠ none → i = 0) (h : vc P T G c (fnPost T O0 rl R) ⟨startR 0 args, O, U⟩) : FunSpecD P f args O0 O U R := by
  subst hr
  simp only [Bool.and_eq_true, Bool.not_eq_true'] at hok
  obtain ⟨hok, hname⟩ := hok
  have ha := Nat.le_of_ble_eq_true ha
  refine ⟨⟨fn, hf, hname, by rw [hb]; rfl⟩, fun F φ w vs h1 h2 h3 H hs hv => ?_⟩
  refine calls_of_wp hf hb ?_
  have R0 : Rep F fn.ntmps ⟨startR 0 args, O, U⟩ { tmps := vs ++ Array.replicate (fn.ntmps - vs.size) undef, defers := [] } w := start_rep H hs ha hv
  refine vc_sound hT hE (fun i hi => h0 i (by rw [← h2]; exact hi)) c _ _ _ _ _ hok h R0 fun e st1 a' w' R1 h' => ?_
  have fin : FIN T O0 fn.results.toList R st1 → a'.defers = [] ∧ ∃ v, (results fn a'.tmps).run P w' = .ok v w' ∧ ∃ (v_1 : Value) (r : AV) (O' : Nat → Option Ob) (φ' : Nat → Option (Nat × Nat)) (U' : List Nat),
      Ending.returned v = .returned v_1 ∧ R r O' ∧ RepH F φ' O' (· ∈ U') w' ∧ RepV φ' O' (· ∈ U') w'.heap (SS F φ' O' w') v_1 r := fun ⟨st', hent, hh⟩ => by
    obtain ⟨hsz, hdf, φ', H', hr'⟩ := hent F _ _ _ h2 R1
    obtain ⟨v, av, g1, g2, g3⟩ := hRes_spec (P := P) hT H' hr' hh
    exact ⟨hdf, v, g1, v, av, st'.objs, φ', st'.used, rfl, g2, H', g3⟩
  cases e with
  | normal => exact fin h'
  | ret => exact fin h'
  | _ => exact False.elim h'
end

def nmD (keep : Bool) (r0 K i : Nat) : Nat := if keep = true ∧ i = 0 then r0 else K + i
def depO (keep : Bool) (r0 K : Nat) (hs : List Nat) (O' objs : Nat → Option Ob) (n : Nat) : Option Ob :=
  if keep = true ∧ n = r0 then (O' 0).map (Ob.rn (nmD keep r0 K))
  else if K ≤ n then (if keep = true ∧ n = K then none else (O' (n - K)).map (Ob.rn (nmD keep r0 K)))
  else if n ∈ hs then none else objs n
def kept (keep : Bool) (O : Nat → Option Ob) (i : Nat) : Option Ob := if keep = true ∧ i = 0 then O 0 else none

theorem dep_sem {P : Program} {f : Nat} {args args' : List AV} {objs O : Nat → Option Ob} {used U : List Nat} {R : AV → (Nat → Option Ob) → Prop} {keep : Bool} (h : FunSpecD P f args' (kept keep O) O U R)
    (ρ : Nat → Nat) (hinj : ∀ i ∈ U, ∀ j ∈ U, ρ i = ρ j → i = j) (hOU : ∀ i o, O i = some o → i ∈ U ∧ ∀ x ∈ o.es, inNs (· ∈ U) x) (h0 : keep = true → ∃ o, O 0 = some o)
    (hob : ∀ i o, O i = some o → objs (ρ i) = some (o.rn ρ)) (hused : ∀ i ∈ U, ρ i ∈ used) (hargs : args = rns ρ args' ∧ inNs (· ∈ U) args')
    (K : Nat) (hK : ∀ n ∈ used, n < K) (V : AV → (Nat → Option Ob) → List Nat)
    (hV : ∀ r O', R r O' → (∀ i o, O' i = some o → i ∈ V r O' ∧ ∀ x ∈ o.es, inNs (· ∈ V r O') x) ∧ r.inN (· ∈ V r O')) :
    CallSem P f args objs used fun u O2 U2 => ∃ r O', R r O' ∧ u = r.rn (nmD keep (ρ 0) K) ∧ O2 = depO keep (ρ 0) K (U.map ρ) O' objs ∧ U2 = (V r O').map (nmD keep (ρ 0) K) ++ used := by
  have h0U : keep = true → 0 ∈ U := fun hk => by obtain ⟨o, ho⟩ := h0 hk; exact (hOU 0 o ho).1
  refine ⟨h.1, fun F φ w vs H hvs ha => ?_⟩
  obtain ⟨rfl, hain⟩ := hargs
  obtain ⟨own, hown⟩ : ∃ own : Nat → Prop, own = fun β => ∃ i o b, O i = some o ∧ φ (ρ i) = some (β, b) := ⟨_, rfl⟩
  obtain ⟨φc, hφc⟩ : ∃ φc : Nat → Option (Nat × Nat), φc = fun i => φ (ρ i) := ⟨_, rfl⟩
  -- what the caller has of it
  have hsame : ∀ i, i ∈ U → i ∈ U ∧ ∀ o', O i = some o' → ∃ o, objs (ρ i) = some o ∧ o'.sz = o.sz ∧ o'.es.length = o.es.length ∧ φc i = φ (ρ i) := fun i hi =>
    ⟨hi, fun o' ho' => ⟨_, hob i o' ho', rfl, by simp [Ob.rn], by rw [hφc]⟩⟩
  have hSS : ∀ β, SS F φ objs w β → SS ⟨w, own, SS F φ objs w, kept keep O, φc⟩ φc O w β := fun β hβ =>
    ⟨hβ.1, fun i o b ho hφ' => by rw [hφc] at hφ'; exact hβ.2.1 (ρ i) _ b (hob i o ho) hφ', fun _ => .inl hβ⟩
  have H0 : RepH ⟨w, own, SS F φ objs w, kept keep O, φc⟩ φc O (· ∈ U) w := by
    refine { inj := fun i j oi oj β bi bj hi hj pi pj => ?_, inU := fun i o ho => (hOU i o ho).1, ob := fun i o ho => ?_, own := fun i o β b ho hp => .inl ?_, below := fun _ _ _ => rfl, size := Nat.le_refl _, os := rfl, tape := rfl, output := rfl, idsU := fun i hi => ?_, keep0 := fun i hi o' ho' => ?_ }
    · rw [hφc] at pi pj
      exact hinj i (hOU i oi hi).1 j (hOU j oj hj).1 (H.inj (ρ i) (ρ j) _ _ β bi bj (hob i oi hi) (hob j oj hj) pi pj)
    · obtain ⟨g1, g2⟩ := H.ob (ρ i) _ (hob i o ho)
      refine ⟨fun x hx => ?_, ?_⟩
      · have := g1 (rns ρ x) (List.mem_map_of_mem hx)
        rw [rns_length] at this; exact this
      · rcases g2 with ⟨k1, k2⟩ | ⟨β, b, c, e, fz, k1, k2, k3, k4, k5⟩
        · exact .inl ⟨by rw [hφc]; exact k1, List.map_eq_nil_iff.1 k2⟩
        · refine .inr ⟨β, b, c, e, fz, by rw [hφc]; exact k1, k2, k3, by simpa [Ob.rn] using k4, fun a j av hij => ?_⟩
          obtain ⟨u, m1, m2, m3⟩ := k5 a j (av.rn ρ) (by show cellAt (o.es.map (rns ρ)) a j = _; rw [cell_rn, hij]; rfl)
          exact ⟨u, m1, m2, unrn_rep (φ' := φc) (obs' := O) (U' := (· ∈ U)) hSS hsame m3 (inN_cell (hOU i o ho).2 hij)⟩
    · show own β
      rw [hown]; exact ⟨i, o, b, ho, by rw [hφc] at hp; exact hp⟩
    · simp only [kept] at hi
      split at hi
      · rename_i e; rw [e.2]; exact h0U e.1
      · exact absurd rfl hi
    · have hk : keep = true ∧ i = 0 := by
        by_cases c : keep = true ∧ i = 0
        · exact c
        · have : kept keep O i = none := if_neg c
          exact absurd this hi
      have e1 : kept keep O i = O i := by rw [hk.2]; exact if_pos ⟨hk.1, rfl⟩
      exact ⟨o', e1.trans ho', rfl, rfl, Nat.le_refl _, fun β b c e fz _ k => ⟨c, e, fz, k, rfl⟩⟩
  refine (h.2 ⟨w, own, SS F φ objs w, kept keep O, φc⟩ φc w vs rfl rfl rfl H0 (by rw [hvs, rns_length]) (fun j av hj => ?_)).mono ?_
  · exact unrn_rep (φ' := φc) (obs' := O) (U' := (· ∈ U)) hSS hsame (ha j (av.rn ρ) (by rw [rns_get, hj]; rfl)) (inNs_get hain hj)
  rintro e w' ⟨v, r, O', φ', U', rfl, hR, H', rr⟩
  obtain ⟨hV1, hV2⟩ := hV r O' hR
  generalize hVV : V r O' = V' at hV1 hV2
  obtain ⟨nm, hnm⟩ : ∃ nm, nm = nmD keep (ρ 0) K := ⟨_, rfl⟩
  obtain ⟨O2, hO2⟩ : ∃ O2, O2 = depO keep (ρ 0) K (U.map ρ) O' objs := ⟨_, rfl⟩
  obtain ⟨φ2, hφ2⟩ : ∃ φ2 : Nat → Option (Nat × Nat), φ2 = fun n => if keep = true ∧ n = ρ 0 then φ (ρ 0) else if K ≤ n then φ' (n - K) else φ n := ⟨_, rfl⟩
  have hr0 : keep = true → ρ 0 < K := fun hk => hK _ (hused 0 (h0U hk))
  -- what is behind a name
  have low : ∀ n, n < K → ¬ (keep = true ∧ n = ρ 0) → n ∉ U.map ρ → O2 n = objs n ∧ φ2 n = φ n := fun n h1 h2 h3 => by
    rw [hO2, hφ2]
    simp only [depO]
    rw [if_neg h2, if_neg (by omega), if_neg h3]
    exact ⟨rfl, by rw [if_neg h2, if_neg (by omega)]⟩
  have inv : ∀ n o, O2 n = some o → (∃ i oi, O' i = some oi ∧ n = nm i ∧ o = oi.rn nm ∧ φ2 n = (if keep = true ∧ i = 0 then φ (ρ 0) else φ' i)) ∨ (n < K ∧ ¬ (keep = true ∧ n = ρ 0) ∧ n ∉ U.map ρ ∧ objs n = some o ∧ φ2 n = φ n) := fun n o hn => by
    rw [hO2] at hn
    simp only [depO] at hn
    by_cases c1 : keep = true ∧ n = ρ 0
    · rw [if_pos c1] at hn
      obtain ⟨oi, h1, rfl⟩ := Option.map_eq_some_iff.1 hn
      refine .inl ⟨0, oi, h1, ?_, by rw [hnm], ?_⟩
      · rw [hnm, nmD, if_pos ⟨c1.1, rfl⟩]; exact c1.2
      · rw [hφ2, if_pos ⟨c1.1, rfl⟩]; simp only [if_pos c1]
    · rw [if_neg c1] at hn
      by_cases c2 : K ≤ n
      · rw [if_pos c2] at hn
        by_cases c3 : keep = true ∧ n = K
        · rw [if_pos c3] at hn; cases hn
        · rw [if_neg c3] at hn
          obtain ⟨oi, h1, rfl⟩ := Option.map_eq_some_iff.1 hn
          have c4 : ¬ (keep = true ∧ n - K = 0) := fun h => c3 ⟨h.1, by omega⟩
          refine .inl ⟨n - K, oi, h1, ?_, by rw [hnm], ?_⟩
          · rw [hnm, nmD, if_neg c4]; omega
          · rw [if_neg c4, hφ2]; simp only [if_neg c1, if_pos c2]
      · rw [if_neg c2] at hn
        by_cases c3 : n ∈ U.map ρ
        · rw [if_pos c3] at hn; cases hn
        · rw [if_neg c3] at hn
          exact .inr ⟨by omega, c1, c3, hn, (low n (by omega) c1 c3).2⟩
  have fwd : ∀ i, O2 (nm i) = (O' i).map (Ob.rn nm) ∧ φ2 (nm i) = (if keep = true ∧ i = 0 then φ (ρ 0) else φ' i) := fun i => by
    rw [hO2, hφ2, hnm]
    by_cases c : keep = true ∧ i = 0
    · have e : nmD keep (ρ 0) K i = ρ 0 := by rw [nmD, if_pos c]
      rw [e, if_pos c]
      have c2 : keep = true ∧ ρ 0 = ρ 0 := ⟨c.1, rfl⟩
      unfold depO
      rw [if_pos c2, c.2]
      exact ⟨rfl, if_pos c2⟩
    · have e : nmD keep (ρ 0) K i = K + i := by rw [nmD, if_neg c]
      have c1 : ¬ (keep = true ∧ K + i = ρ 0) := fun h => by have := hr0 h.1; omega
      have c3 : ¬ (keep = true ∧ K + i = K) := fun h => c ⟨h.1, by omega⟩
      rw [e, if_neg c]
      simp only [depO]
      rw [if_neg c1, if_pos (by omega), if_neg c3, if_neg c1, if_pos (by omega), Nat.add_sub_cancel_left]
      exact ⟨rfl, rfl⟩
  -- the first one stays where it is
  have stay : keep = true → ∀ o', O' 0 = some o' → ∃ o, O 0 = some o ∧ φ' 0 = φ (ρ 0) ∧ o'.sz = o.sz ∧ o.es.length ≤ o'.es.length ∧
      ∀ β b c e fz, φ (ρ 0) = some (β, b) → w.heap[β]? = some (.cells c e fz) → ∃ c' e' fz', w'.heap[β]? = some (.cells c' e' fz') ∧ c'.size = c.size := fun hk o' ho' => by
    have hO0 : O 0 ≠ none := by obtain ⟨o, ho⟩ := h0 hk; rw [ho]; simp
    obtain ⟨o1, e1, e2, e3, e4, e5⟩ := H'.keep0 0 (by simp only [kept, hk]; simpa using hO0) o' ho'
    have e6 : O 0 = some o1 := by simpa [kept, hk] using e1
    have e7 : (⟨w, own, SS F φ objs w, kept keep O, φc⟩ : Fr).φ0 0 = φ (ρ 0) := by rw [hφc]
    exact ⟨o1, e6, e2.trans e7, e3, e4, fun β b c e fz k1 k2 => e5 β b c e fz (e7.trans k1) k2⟩
  have phi : ∀ i oi, O' i = some oi → (if keep = true ∧ i = 0 then φ (ρ 0) else φ' i) = φ' i := fun i oi hi => by
    split
    · rename_i c
      obtain ⟨c1, rfl⟩ := c
      obtain ⟨o, _, e, _⟩ := stay c1 oi hi
      exact e.symm
    · rfl
  have hval : ∀ i, i ∈ V' → nm i ∈ V'.map nm ++ used ∧ ∀ o', O2 (nm i) = some o' → ∃ o, O' i = some o ∧ o'.sz = o.sz ∧ o'.es.length = o.es.length ∧ φ2 (nm i) = φ' i := fun i hi => by
    refine ⟨List.mem_append_left _ (List.mem_map_of_mem hi), fun o' ho' => ?_⟩
    obtain ⟨f1, f2⟩ := fwd i
    rw [f1] at ho'
    obtain ⟨oi, h1, rfl⟩ := Option.map_eq_some_iff.1 ho'
    exact ⟨oi, h1, rfl, by simp [Ob.rn], by rw [f2, phi i oi h1]⟩
  have notown : ∀ n o β b, n ∉ U.map ρ → objs n = some o → φ n = some (β, b) → ¬ own β := fun n o β b hn ho hp ho2 => by
    rw [hown] at ho2
    obtain ⟨i, oi, b', h1, h2⟩ := ho2
    have := H.inj n (ρ i) o _ β b b' ho (hob i oi h1) hp h2
    exact hn (this ▸ List.mem_map_of_mem (hOU i oi h1).1)
  have hback : ∀ β, SS ⟨w, own, SS F φ objs w, kept keep O, φc⟩ φ' O' w' β → SS F φ2 O2 w' β := fun β hβ => by
    refine ⟨hβ.1, fun n o b ho hp => ?_, fun hlt => ?_⟩
    · rcases inv n o ho with ⟨i, oi, h1, rfl, _, h2⟩ | ⟨h1, h2, h3, h4, h5⟩
      · rw [h2, phi i oi h1] at hp
        exact hβ.2.1 i oi b h1 hp
      · rw [h5] at hp
        rcases hβ.2.2 (H.lt h4 hp) with g | g
        · exact g.2.1 n o b h4 hp
        · exact notown n o β b h3 h4 hp g
    · rcases hβ.2.2 (Nat.lt_of_lt_of_le hlt H.size) with g | g
      · exact g.2.2 hlt
      · have g' : own β := g
        rw [hown] at g'
        obtain ⟨i, oi, b', h1, h2⟩ := g'
        rcases H.own (ρ i) _ β b' (hob i oi h1) h2 with h3 | h3
        · exact .inr h3
        · omega
  have G : Goes φ φ2 objs O2 (· ∈ used) (· ∈ V'.map nm ++ used) w w' := by
    refine ⟨fun i hi => List.mem_append_right _ hi, fun i hi o' ho' => ?_, fun β hβ hno => ?_, fun i o' β b ho' hp => ?_, H'.size⟩
    · rcases inv i o' ho' with ⟨i0, oi, h1, h2, rfl, h3⟩ | ⟨h1, h2, h3, h4, h5⟩
      · have hlt := hK i hi
        by_cases c : keep = true ∧ i0 = 0
        · obtain ⟨c1, rfl⟩ := c
          have e : i = ρ 0 := by rw [h2, hnm, nmD, if_pos ⟨c1, rfl⟩]
          subst e
          obtain ⟨o, e1, e2, e3, e4, e5⟩ := stay c1 oi h1
          exact ⟨_, hob 0 o e1, by rw [h3, if_pos ⟨c1, rfl⟩], e3, by simpa [Ob.rn] using e4, e5⟩
        · rw [h2, hnm, nmD, if_neg c] at hlt; omega
      · refine ⟨o', h4, h5, rfl, Nat.le_refl _, fun β b c e fz k1 k2 => ⟨c, e, fz, ?_, rfl⟩⟩
        rw [H'.below β (Array.getElem?_eq_some_iff.1 k2).1 (notown i o' β b h3 h4 k1)]; exact k2
    · refine H'.below β hβ fun ho => ?_
      have ho' : own β := ho
      rw [hown] at ho'
      obtain ⟨i, oi, b', h1, h2⟩ := ho'
      exact hno (ρ i) _ b' (hob i oi h1) h2
    · rcases inv i o' ho' with ⟨i0, oi, h1, h2, rfl, h3⟩ | ⟨h1, h2, h3, h4, h5⟩
      · rw [h3, phi i0 oi h1] at hp
        rcases H'.own i0 oi β b h1 hp with g | g
        · have g' : own β := g
          rw [hown] at g'
          obtain ⟨k, ok, b', h4, h5⟩ := g'
          exact .inl ⟨ρ k, _, b', hob k ok h4, h5⟩
        · exact .inr g
      · exact .inl ⟨i, o', b, h4, by rw [← h5]; exact hp⟩
  have H2 : RepH F φ2 O2 (· ∈ V'.map nm ++ used) w' := by
    refine G.repH H (fun i j oi oj β bi bj hi hj pi pj => ?_) (fun i o ho => ?_) (fun i o ho => ?_) H'.os H'.tape H'.output
    · have cross : ∀ i0 oi j oj β bi bj, O' i0 = some oi → φ' i0 = some (β, bi) → j ∉ U.map ρ → objs j = some oj → φ j = some (β, bj) → False := fun i0 oi j oj β bi bj h1 h2 h3 h4 h5 => by
        rcases H'.own i0 oi β bi h1 h2 with g | g
        · exact notown j oj β bj h3 h4 h5 g
        · have := H.lt h4 h5
          have : w.heap.size ≤ β := g
          omega
      rcases inv i oi hi with ⟨i0, oi', h1, h2, _, h3⟩ | ⟨_, _, h3, h4, h5⟩ <;> rcases inv j oj hj with ⟨j0, oj', k1, k2, _, k3⟩ | ⟨_, _, k3, k4, k5⟩
      · rw [h3, phi i0 oi' h1] at pi
        rw [k3, phi j0 oj' k1] at pj
        have := H'.inj i0 j0 oi' oj' β bi bj h1 k1 pi pj
        rw [h2, k2, this]
      · rw [h3, phi i0 oi' h1] at pi
        rw [k5] at pj
        exact (cross i0 oi' j oj β bi bj h1 pi k3 k4 pj).elim
      · rw [h5] at pi
        rw [k3, phi j0 oj' k1] at pj
        exact (cross j0 oj' i oi β bj bi k1 pj h3 h4 pi).elim
      · rw [h5] at pi
        rw [k5] at pj
        exact H.inj i j oi oj β bi bj h4 k4 pi pj
    · rcases inv i o ho with ⟨i0, oi, h1, h2, _, _⟩ | ⟨_, _, _, h4, _⟩
      · rw [h2]; exact List.mem_append_left _ (List.mem_map_of_mem (hV1 i0 oi h1).1)
      · exact List.mem_append_right _ (H.inU i o h4)
    · rcases inv i o ho with ⟨i0, oi, h1, h2, rfl, h3⟩ | ⟨_, _, h3, h4, h5⟩
      · rw [phi i0 oi h1] at h3
        obtain ⟨g1, g2⟩ := H'.ob i0 oi h1
        refine ⟨fun x hx => ?_, ?_⟩
        · obtain ⟨y, hy, rfl⟩ := List.mem_map.1 hx
          rw [rns_length]; exact g1 y hy
        · rcases g2 with ⟨k1, k2⟩ | ⟨β, b, c, e, fz, k1, k2, k3, k4, k5⟩
          · exact .inl ⟨h3.trans k1, by simp [Ob.rn, k2]⟩
          · refine .inr ⟨β, b, c, e, fz, h3.trans k1, k2, k3, by simpa [Ob.rn] using k4, fun a j av hij => ?_⟩
            have hij' : (cellAt oi.es a j).map (AV.rn nm) = some av := by rw [← cell_rn]; exact hij
            obtain ⟨av0, hc, rfl⟩ := Option.map_eq_some_iff.1 hij'
            obtain ⟨u, m1, m2, m3⟩ := k5 a j av0 hc
            exact ⟨u, m1, m2, rn_rep (p := (· ∈ V')) hback hval m3 (inN_cell (hV1 i0 oi h1).2 hc)⟩
      · exact (H.ob i o h4).mono h5 (fun β b hp => H'.below β (H.lt h4 hp) (notown i o β b h3 h4 hp)) fun v av r => G.repV r
  refine ⟨v, r.rn nm, O2, V'.map nm ++ used, φ2, rfl, ⟨r, O', hR, by rw [hnm], hO2, by rw [hVV, hnm]⟩, G, H2, ?_⟩
  exact rn_rep (p := (· ∈ V')) hback hval rr hV2
end Go.Vc
namespace Go.Vc
open Go.ChangeShapes Go.WideShapes Go.RowKit
section
variable {H : Type} {enc : TypeId × Value → H} {P : Program} {w : World} {sp : Nat → Bool} {held : Bool} {B : Nat}
def recTy (P : Program) (t : TypeId) : Bool := match P.underlying t with
  | some (.struct _) => true
  | _ => false
def ShArg (P : Program) (B : Nat) (t : TypeId) (av : AV) : Prop := (oneTy P t = true ∧ Sh P B t [av]) ∨ (recTy P t = true ∧ ∃ cs, av = .ag cs ∧ Sh P B t cs)
def ShArgs (P : Program) (B : Nat) : List TypeId → List AV → Prop
  | [], [] => True
  | t :: ts, av :: avs => ShArg P B t av ∧ ShArgs P B ts avs
  | _, _ => False
theorem ShArgs.cons {t : TypeId} {ts : List TypeId} {avs : List AV} (h : ShArgs P B (t :: ts) avs) : ∃ a r, avs = a :: r ∧ ShArg P B t a ∧ ShArgs P B ts r := by
  cases avs with
  | nil => exact False.elim h
  | cons a r => exact ⟨a, r, rfl, h⟩
theorem ShArgs.nil {avs : List AV} (h : ShArgs P B [] avs) : avs = [] := by
  cases avs with
  | nil => rfl
  | cons a r => exact False.elim h
theorem one_rec {t : TypeId} (h : oneTy P t = true) : recTy P t = false := by
  unfold oneTy at h; unfold recTy
  split at h <;> simp_all
theorem ShArg.one {t : TypeId} {av : AV} (h : ShArg P B t av) (h1 : oneTy P t = true) : Sh P B t [av] := by
  rcases h with h | ⟨h2, _⟩
  · exact h.2
  · rw [one_rec h1] at h2; cases h2
def RdA (h : Array Obj) (S : Nat → Prop) (v : Value) (av : AV) : Prop := RdI h S v av ∨ ∃ arr cs, v = .agg arr ∧ av = .ag cs ∧ RdL h S arr.toList cs
theorem args_ofA {r : Go.Reach} {b : Nat} (K : Kids P (· < P.types.size)) : ∀ {ts : List TypeId} {vs : List Value} {ds : List (DataW H)} {ps : List MemPlace}, (ts.all fun t => (oneTy P t || recTy P t) && plainTy P 20 t && decide (t < P.types.size)) = true →
    DataW.TrodAll enc P w 0 sp held ts vs ds ps → (∀ (j : Nat) t v, ts[j]? = some t → vs[j]? = some v → Value.okWide P w r b t v) → bulkLe.bulkLes B ds →
    ∃ avs, ShArgs P B ts avs ∧ vs.length = avs.length ∧ ∀ (j : Nat) v av, vs[j]? = some v → avs[j]? = some av → RdA w.heap (· < w.heap.size) v av := by
  intro ts
  induction ts with
  | nil =>
    intro vs ds ps _ h _ _
    obtain ⟨rfl, rfl, rfl⟩ := trodAll_nil h
    exact ⟨[], trivial, rfl, by simp⟩
  | cons t ts ih =>
    intro vs ds ps hp h hv hb
    simp only [List.all_cons, Bool.and_eq_true, decide_eq_true_eq] at hp
    obtain ⟨⟨⟨p1, p2⟩, p3⟩, hp⟩ := hp
    obtain ⟨v, vs', d, ds', p, q, rfl, rfl, rfl, h1, h2⟩ := trodAll_cons h
    obtain ⟨avs, b1, b2, b3⟩ := ih hp h2 (fun j t v hj hj' => hv (j + 1) t v hj hj') hb.2
    have hv0 := hv 0 t v rfl rfl
    have fin : ∀ av, ShArg P B t av → RdA w.heap (· < w.heap.size) v av → ∃ avs, ShArgs P B (t :: ts) avs ∧ (v :: vs').length = avs.length ∧ ∀ (j : Nat) u av, (v :: vs')[j]? = some u → avs[j]? = some av → RdA w.heap (· < w.heap.size) u av := by
      intro av g1 g2
      refine ⟨av :: avs, ⟨g1, b1⟩, by simp [b2], fun j u a hj hj' => ?_⟩
      cases j with
      | zero => simp at hj hj'; subst hj; subst hj'; exact g2
      | succ j => exact b3 j u a (by simpa using hj) (by simpa using hj')
    rcases Bool.or_eq_true _ _ ▸ p1 with p1 | p1
    · obtain ⟨hc1, hc2⟩ := one_cells p1 hv0
      obtain ⟨n, h1⟩ := h1
      rw [hc1] at h1
      obtain ⟨a1, a2, a3, a4⟩ := sh_of_trod (B := B) K 20 t n [v] _ p2 p3 h1 hb.1
      have : ∃ av, a1 = [av] := by
        have := a4.1
        match a1, this with
        | [av], _ => exact ⟨av, rfl⟩
      obtain ⟨av, rfl⟩ := this
      exact fin av (.inl ⟨p1, a2⟩) (.inl (a4.2 0 v av rfl rfl))
    · have hu : ∃ fs, P.underlying t = some (.struct fs) := by
        have hp1 := p1
        unfold recTy at hp1
        split at hp1
        · rename_i fs hh; exact ⟨fs, hh⟩
        · cases hp1
      obtain ⟨fs, hu⟩ := hu
      obtain ⟨cs, rfl, _⟩ := okWide_struct hu hv0
      obtain ⟨n, h1⟩ := h1
      obtain ⟨a1, a2, a3, a4⟩ := sh_of_trod (B := B) K 20 t n cs.toList _ p2 p3 h1 hb.1
      exact fin (.ag a1) (.inr ⟨p1, a1, rfl, a2⟩) (.inr ⟨cs, a1, rfl, rfl, a4⟩)
theorem law_callsA {n : Nat} {f : Func} {s : ChangeSpec} {args : Array Value} {ds gs : List (DataW H)} {before : List MemPlace} {tb : TypeId} {r : Go.Reach} {b : Nat} (K : Kids P (· < P.types.size))
    (hsz : ∀ {t e : TypeId}, t < P.types.size → P.underlying t = some (.slice e) → 0 < P.cellsOf e) (hp : (f.params.toList.all fun t => (oneTy P t || recTy P t) && plainTy P 20 t && decide (t < P.types.size)) = true) (hvars : s.vars = [])
    (hres : f.resultTypes = #[tb]) (htb : P.underlying tb = some .bool) (hval : ∀ (j : Nat) t v, f.params[j]? = some t → args[j]? = some v → Value.okWide P w r b t v)
    (hW : DataW.Whole enc P f.params.toList s.vars false w args.toList ds gs before) (hB : bulkLe.bulkLes B ds)
    (hfn : ds.length = f.params.toList.length → s.fn H (ds ++ []) = { results := [.lit (.bool true)], args := ds })
    (h : ∀ avs, ShArgs P B f.params.toList avs → Spec0 P n avs (· = .pr (.bool true))) :
    Calls P n args w fun e w' => ∃ v, e = .returned v ∧ s.post enc P f false true false false w args v w' := by
  have hW' := hW
  obtain ⟨p, q, hA, hV, rfl, _, _⟩ := hW
  have hV' := hV
  rw [hvars] at hV'
  obtain ⟨rfl, rfl⟩ := trodVars_none hV'
  obtain ⟨avs, h1, h2, h3⟩ := args_ofA (B := B) K hp hA (r := r) (b := b) (fun j t v hj hj' => hval j t v (by simpa using hj) (by simpa using hj')) hB
  have hlen := trodAll_length hA
  refine ((h avs h1).2 ⟨w, fun _ => False, fun _ => True, noOb, fun _ => none⟩ (fun _ => none) w args rfl rfl rfl (callee_none _ w) (by rw [← Array.length_toList, h2]) (fun j av hj => ?_)).mono ?_
  · have hlt := (List.getElem?_eq_some_iff.1 hj).1
    have hlt' : j < args.toList.length := by rw [h2]; exact hlt
    have h4 := h3 j _ av (List.getElem?_eq_getElem hlt') hj
    have e : args.getD j undef = args.toList[j] := by
      have hs : j < args.size := by simpa using hlt'
      rw [Array.getD_eq_getD_getElem?, Array.getElem?_eq_getElem hs]; simp
    rw [e]
    rcases h4 with h4 | ⟨arr, cs, h5, rfl, h6⟩
    · exact .rd (h4.mono fun β hβ => ⟨⟨hβ, (fun i o b h => by cases h), fun _ => .inl trivial⟩, rfl⟩)
    · rw [h5]
      have hsz : arr.size = cs.length := by rw [← Array.length_toList, h6.1]
      have hget : ∀ k, k < arr.size → arr.toList[k]? = some (arr.getD k undef) := fun k hk => by
        rw [Array.getD_eq_getD_getElem?, Array.getElem?_eq_getElem hk]; simp [hk]
      refine .ag hsz (fun k hk => ?_) fun k av hk => ?_
      · have hkc : k < cs.length := by omega
        exact (h6.2 k _ _ (hget k hk) (List.getElem?_eq_getElem hkc)).one
      · have hkc := (List.getElem?_eq_some_iff.1 hk).1
        exact .rd ((h6.2 k _ _ (hget k (by omega)) hk).mono fun β hβ => ⟨⟨hβ, (fun i o b h => by cases h), fun _ => .inl trivial⟩, rfl⟩)
  · rintro e w' ⟨v, rr, O', φ', U', rfl, ⟨⟨rfl, _⟩, rfl⟩, H', hr⟩
    have hv := inv_pr hr
    subst hv
    refine ⟨_, rfl, law_post K hsz (fun t ht => ?_) hvars hres htb hW' (fun β hβ => H'.below β hβ (fun h => h)) H'.os H'.output (hfn hlen.2)⟩
    have := List.all_eq_true.1 hp t ht
    simp only [Bool.and_eq_true, decide_eq_true_eq] at this
    exact this.2
end
end Go.Vc
namespace Go.Vc
open Go.ChangeShapes Go.WideShapes Go.RowKit
def headIs (P : Program) (ws : List (List Char)) : Prop := behindMainWord (wordsSigns P.initOrder.toList) = ws
theorem head_of {P : Program} {l : List Char} {ws : List (List Char)} (h : P.initOrder = String.ofList l) (h2 : behindMainWord (wordsSigns l) = ws) : headIs P ws := by
  unfold headIs; rw [h, String.toList_ofList, h2]
section
variable {P : Program} {c : List Char} {rest : List (List Char)} (h : headIs P (c :: rest))
include h
theorem make_of (h1 : (c == "gc".toList || c == "spec".toList) = false) (h2 : (c == "cut".toList) = true) : P.make = some .cut := by
  unfold headIs at h
  unfold Program.make
  rw [h]
  simp only [h1, h2, Bool.true_or, if_true]
  rfl
theorem strip_of (h2 : (stripLifts liftWords (c :: rest)) = ([], c :: rest)) (h3 : (c == "cut".toList) = true) : P.headLifts = [] := by
  unfold headIs at h
  unfold Program.headLifts
  rw [h, h2]
  simp
set_option linter.unusedVariables false in
theorem lifts_of (h2 : (stripLifts liftWords (c :: rest)) = ([], c :: rest)) (h3 : (c == "cut".toList) = true) (h4 : (c == "carried".toList) = false) : P.liftsFinal = false := by
  have h5 := strip_of h h2 h3
  unfold headIs at h
  unfold Program.liftsFinal
  rw [h, h5]
  have h6 : ((c :: rest).head? == some "carried".toList) = false := by
    rw [List.head?_cons]
    simp only [beq_eq_false_iff_ne, ne_eq, Option.some.injEq] at h4 ⊢
    exact h4
  simp only [h6, Bool.false_and, Bool.false_or]
  rfl
theorem enter_of (h2 : (stripLifts liftWords (c :: rest)) = ([], c :: rest)) (h3 : (c == "cut".toList) = true) (h4 : (c == "carried".toList) = false) (h1 : (c == "gc".toList || c == "spec".toList) = false)
    (d : P.doorRows = []) (l : P.laysLater = false) (r : P.bearsReflect = false) : P.mayEnter = true := by
  unfold headIs at h
  unfold Program.mayEnter Program.doorFits
  rw [h]
  simp only [h1, h2, h4, d, l, r, List.head?_cons]
  have h5 : (some c == some "cut".toList) = true := by
    have := eq_of_beq h3
    rw [this]; exact beq_self_eq_true _
  rw [h5]
  simp
end
theorem facts_of {P : Program} {f : FuncId} {fn : Func} {s : ChangeSpec} {c : OpenClaim} (g1 : laidOutB P = true) (g2 : mapsRowed P = true) (g3 : P.stopsHeard = true) (g4 : P.mayEnter = true) (g5 : P.liftsFinal = false) (g6 : P.plainKeys = true) (g7 : P.make = some .cut)
    (a1 : c.wf (OpenSpec.ofChange s) = true) (a2 : fn.params.all (P.readableRec ·) = true) (a3 : namedTie P c.named s.vars = true) (a4 : ((c.stops == []) && (P.stops == []) && (c.knobs == []) && (P.stopKnobs == [])) = true)
    (a5 : (c.inPlace == P.inPlace f) = true) (a6 : (c.unfollowed == P.unfollowed f) = true) (a7 : (c.recurses == P.recurses f) = true) (a8 : (c.named == P.varsNamed f) = true)
    (a9 : ((c.maps == (fn.params.toList ++ s.plain.varTypes P).any (P.mapsRec ·)) && (c.ifaces == (fn.params.toList ++ s.plain.varTypes P).any (P.ifacesRec ·)) && (c.mapsOut == P.mapsAmong fn.resultTypes.toList) &&
      (c.loops == (fn.params.toList ++ s.plain.varTypes P).any (P.loopsFrom ·)) && (c.wideKeys == (fn.params.toList ++ s.plain.varTypes P ++ fn.resultTypes.toList).any (P.wideKeysFrom ·)) &&
      s.vars.all (P.varReadable ·) && fn.resultTypes.all (fun t => P.readableRec t && decide (t < P.types.size)) && (c.ifacesOut == fn.resultTypes.toList.any (P.ifacesRec ·)) && (c.loopsOut == fn.resultTypes.toList.any (P.loopsFrom ·))) = true)
    (b1 : c.plainKeys = true) (b2 : c.shortTexts.isNone = true) (b3 : c.lifted = false) (b4 : c.make = .cut)
    (b5 : ((c.kinds == (if c.domain.isEmpty then [] else fn.params.toList.map fun t => match P.underlying t with | some (.int k) => some k | _ => none)) && (c.pinned == c.pinnedBy) &&
      (c.veiled == (fn.params.toList ++ s.plain.varTypes P ++ fn.resultTypes.toList).any (P.veiledRec ·)) && c.veiledFits P fn.params.toList (fn.params.toList ++ s.plain.varTypes P ++ fn.resultTypes.toList)) = true) : joinedFacts P f fn s c = true := by
  have h1 : (c.plainKeys == P.plainKeys) = true := by rw [b1, g6]; rfl
  have h2 : (c.lifted == P.liftsFinal) = true := by rw [b3, g5]; rfl
  have h3 : (P.make == some c.make) = true := by rw [g7, b4]; exact beq_self_eq_true _
  simp only [Bool.and_eq_true] at a4 a9 b5
  obtain ⟨⟨⟨a41, a42⟩, a43⟩, a44⟩ := a4
  obtain ⟨⟨⟨⟨⟨⟨⟨⟨a91, a92⟩, a93⟩, a94⟩, a95⟩, a96⟩, a97⟩, a98⟩, a99⟩ := a9
  obtain ⟨⟨⟨b51, b52⟩, b53⟩, b54⟩ := b5
  unfold joinedFacts
  rw [Bool.and_eq_true, Bool.and_eq_true, Bool.and_eq_true, Bool.and_eq_true, Bool.and_eq_true, Bool.and_eq_true, Bool.and_eq_true, Bool.and_eq_true, Bool.and_eq_true, Bool.and_eq_true, Bool.and_eq_true, Bool.and_eq_true, Bool.and_eq_true, Bool.and_eq_true, Bool.and_eq_true, Bool.and_eq_true, Bool.and_eq_true, Bool.and_eq_true, Bool.and_eq_true, Bool.and_eq_true, Bool.and_eq_true, Bool.and_eq_true, Bool.and_eq_true, Bool.and_eq_true, Bool.and_eq_true, Bool.and_eq_true, Bool.and_eq_true, Bool.and_eq_true, Bool.and_eq_true, Bool.and_eq_true, Bool.and_eq_true]
  exact ⟨⟨⟨⟨⟨⟨⟨⟨⟨⟨⟨⟨⟨⟨⟨⟨⟨⟨⟨⟨⟨⟨⟨⟨⟨⟨⟨⟨⟨⟨⟨a1, g1⟩, g2⟩, a2⟩, a3⟩, a41⟩, a42⟩, a43⟩, a44⟩, a5⟩, a6⟩, a7⟩, a8⟩, a91⟩, a92⟩, a93⟩, a94⟩, a95⟩, a96⟩, a97⟩, a98⟩, a99⟩, h1⟩, b2⟩, g3⟩, g4⟩, h2⟩, h3⟩, b51⟩, b52⟩, b53⟩, b54⟩
end Go.Vc
