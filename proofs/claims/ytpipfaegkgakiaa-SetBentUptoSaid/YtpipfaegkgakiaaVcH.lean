/- Calls are sound. Part of a framework of abstract values and states, over the model, for proofs of functions; it has no conditions of its own. -/
import Derived.Test.YtpipfaegkgakiaaVcG
set_option linter.all false
/-! Calls are sound. -/
namespace Go.Vc
section
variable {P : Program} {F : Fr} {φ : Nat → Option (Nat × Nat)} {st : St} {w : World}

/-- What a call's world is to its caller, where it has turned no block of the caller's (but perhaps some). -/
theorem callee_start {rd own : Nat → Prop} {O : Nat → Option Ob} {φc : Nat → Option (Nat × Nat)} {U : List Nat} (w : World)
    (inj : ∀ i j oi oj β bi bj, O i = some oi → O j = some oj → φc i = some (β, bi) → φc j = some (β, bj) → i = j) (inU : ∀ i o, O i = some o → i ∈ U)
    (hown : ∀ i o β b, O i = some o → φc i = some (β, b) → own β)
    (ob : ∀ i o, O i = some o → ObRep φc O (· ∈ U) w.heap (SS ⟨w, own, rd, O, φc⟩ φc O w) i o) : RepH ⟨w, own, rd, O, φc⟩ φc O (· ∈ U) w :=
  { inj, inU, ob, own := fun i o β b h1 h2 => .inl (hown i o β b h1 h2), below := fun _ _ _ => rfl, size := Nat.le_refl _, os := rfl, tape := rfl, output := rfl
    idsU := fun i hi => by cases h : O i with
      | none => exact absurd h hi
      | some o => exact inU i o h
    keep0 := fun i _ => Keeps.refl _ _ _ _ }

theorem callee_none (rd : Nat → Prop) (w : World) : RepH ⟨w, fun _ => False, rd, noOb, fun _ => none⟩ (fun _ => none) noOb (· ∈ ([] : List Nat)) w :=
  callee_start w (fun i j oi oj β bi bj h => by cases h) (fun i o h => by cases h) (fun i o β b h => by cases h) (fun i o h => by cases h)

/-- Nothing of the caller's has turned. -/
theorem goes_same {rd : Nat → Prop} {φ' φc : Nat → Option (Nat × Nat)} {O' O : Nat → Option Ob} {U' : List Nat} {w' : World}
    (H' : RepH ⟨w, fun _ => False, rd, O, φc⟩ φ' O' (· ∈ U') w') : Goes φ φ st.objs st.objs (· ∈ st.used) (· ∈ st.used) w w' :=
  { hU := fun _ h => h
    keeps := fun i _ o' ho' => ⟨o', ho', rfl, rfl, Nat.le_refl _, fun β b c e fz h1 h2 => ⟨c, e, fz, by rw [H'.below β (Array.getElem?_eq_some_iff.1 h2).1 (fun h => h)]; exact h2, rfl⟩⟩
    blocks := fun β hβ _ => H'.below β hβ (fun h => h)
    news := fun i o' β b ho hφ => .inl ⟨i, o', b, ho, hφ⟩
    size := H'.size }

theorem repH_same {rd : Nat → Prop} {φ' φc : Nat → Option (Nat × Nat)} {O' O : Nat → Option Ob} {U' : List Nat} {w' : World} (H : RepH F φ st.objs (· ∈ st.used) w)
    (H' : RepH ⟨w, fun _ => False, rd, O, φc⟩ φ' O' (· ∈ U') w') : RepH F φ st.objs (· ∈ st.used) w' := by
  have G := goes_same (φ := φ) (st := st) H'
  refine G.repH H H.inj H.inU (fun i o ho => ?_) H'.os H'.tape H'.output
  exact (H.ob i o ho).mono rfl (fun β b hφ => H'.below β (H.lt ho hφ) (fun h => h)) fun v av r => G.repV r

/-- What the callee may read behind the call, the caller may. -/
theorem ss_back {own : Nat → Prop} {φ' φc φn : Nat → Option (Nat × Nat)} {O' O objs' : Nat → Option Ob} {w' : World} (H : RepH F φ st.objs (· ∈ st.used) w)
    (hno : ∀ β i o b, SS ⟨w, own, SS F φ st.objs w, O, φc⟩ φ' O' w' β → objs' i = some o → φn i ≠ some (β, b))
    (hown : ∀ β, own β → SS ⟨w, own, SS F φ st.objs w, O, φc⟩ φ' O' w' β → False) (β : Nat) (h : SS ⟨w, own, SS F φ st.objs w, O, φc⟩ φ' O' w' β) : SS F φn objs' w' β := by
  obtain ⟨h1, h2, h3⟩ := h
  refine ⟨h1, fun i o b ho => hno β i o b ⟨h1, h2, h3⟩ ho, fun hβ => ?_⟩
  have hlt : β < w.heap.size := Nat.lt_of_lt_of_le hβ H.size
  rcases h3 hlt with h | h
  · exact h.2.2 hβ
  · exact (hown β h ⟨h1, h2, h3⟩).elim

/-- A value that speaks of object 0 alone, that object by another name. -/
theorem ren_rep {φ φ' : Nat → Option (Nat × Nat)} {obs obs' : Nat → Option Ob} {U U' : Nat → Prop} {h : Array Obj} {S S' : Nat → Prop} {d : Nat} {o : Ob} (hS : ∀ β, S β → S' β ∧ h[β]? = h[β]?) (hd : U' d)
    (ho : obs 0 = some o) (ho' : obs' d = some o) (hφ : φ' d = φ 0) {v : Value} {av : AV} (r : RepV φ obs U h S v av) (h0 : av.only0 = true) : RepV φ' obs' U' h S' v (av.ren d) := by
  induction r with
  | un v => simpa [AV.ren] using RepV.un v
  | rd r0 =>
    rename_i v av
    have : av.ren d = av := by cases r0 <;> simp [AV.ren, rens]
    rw [this]; exact .rd (r0.mono hS)
  | @rf v id off len hu hv hr =>
    have : id = 0 := by simpa [AV.only0] using h0
    subst this
    simp only [AV.ren]
    refine .rf hd hv fun o' h1 => ?_
    rw [ho'] at h1; cases h1
    obtain ⟨g1, g2⟩ := hr o ho
    refine ⟨g1, ?_⟩
    rcases g2 with g2 | ⟨β, b, cap, c, e, fz, k1, k2⟩
    · exact .inl g2
    · exact .inr ⟨β, b, cap, c, e, fz, hφ.trans k1, k2⟩
  | @pt v id i off hu hv hr =>
    have : id = 0 := by simpa [AV.only0] using h0
    subst this
    simp only [AV.ren]
    refine .pt hd hv fun o' h1 => ?_
    rw [ho'] at h1; cases h1
    obtain ⟨β, b, k1, k2⟩ := hr o ho
    exact ⟨β, b, hφ.trans k1, k2⟩
  | ro vs hSb hb hc hr => simp only [AV.ren]; exact .ro vs (hS _ hSb).1 hb hc fun j av hj => (hr j av hj).mono hS
  | ag hs h1 hr ih =>
    simp only [AV.ren]
    refine .ag (by rw [rens_length]; exact hs) h1 fun j av hj => ?_
    rw [rens_get] at hj
    obtain ⟨a, h2, rfl⟩ := Option.map_eq_some_iff.1 hj
    exact ih j a h2 (only0s_get (by simpa [AV.only0] using h0) h2)
  | tu hs hr ih =>
    simp only [AV.ren]
    refine .tu (by rw [rens_length]; exact hs) fun j av hj => ?_
    rw [rens_get] at hj
    obtain ⟨a, h2, rfl⟩ := Option.map_eq_some_iff.1 hj
    exact ih j a h2 (only0s_get (by simpa [AV.only0] using h0) h2)
  | fn hs hr ih =>
    simp only [AV.ren]
    refine .fn (by rw [rens_length]; exact hs) fun j av hj => ?_
    rw [rens_get] at hj
    obtain ⟨a, h2, rfl⟩ := Option.map_eq_some_iff.1 hj
    exact ih j a h2 (only0s_get (by simpa [AV.only0] using h0) h2)

/-- The same, back. -/
theorem unren_rep {φ φ' : Nat → Option (Nat × Nat)} {obs obs' : Nat → Option Ob} {U U' : Nat → Prop} {h : Array Obj} {S S' : Nat → Prop} {d : Nat} {o : Ob} (hS : ∀ β, S β → S' β ∧ h[β]? = h[β]?) (hd : U' 0)
    (ho : obs d = some o) (ho' : obs' 0 = some o) (hφ : φ' 0 = φ d) : ∀ {v : Value} {av : AV}, RepV φ obs U h S v (av.ren d) → av.only0 = true → RepV φ' obs' U' h S' v av := by
  have key : ∀ {v : Value} {bv : AV}, RepV φ obs U h S v bv → ∀ av : AV, bv = av.ren d → av.only0 = true → RepV φ' obs' U' h S' v av := by
    intro v bv r
    induction r with
    | un v => intro av e h0; cases av <;> simp [AV.ren] at e; exact .un v
    | rd r0 =>
      intro av e h0
      cases r0 with
      | pr v h1 => cases av <;> simp [AV.ren] at e; subst e; exact .rd (.pr _ h1)
      | nl => cases av <;> simp [AV.ren] at e; exact .rd .nl
      | im0 a cap sz => cases av <;> simp [AV.ren] at e; obtain ⟨rfl, rfl⟩ := e; exact .rd (.im0 _ _ _)
      | im vs hSb hb hcap hsz hc hr => cases av <;> simp [AV.ren] at e; obtain ⟨rfl, rfl⟩ := e; exact .rd (RdI.mono hS (.im vs hSb hb hcap hsz hc hr))
      | fn g =>
        cases av <;> simp [AV.ren] at e
        rename_i g' caps
        obtain ⟨rfl, e⟩ := e
        cases caps with
        | nil => exact .rd (.fn _)
        | cons a b => simp [rens] at e
    | @rf v id off len hu hv hr =>
      intro av e h0
      cases av <;> simp [AV.ren] at e
      rename_i id' off' len'
      obtain ⟨rfl, rfl, rfl⟩ := e
      have : id' = 0 := by simpa [AV.only0] using h0
      subst this
      refine .rf hd hv fun o' h1 => ?_
      rw [ho'] at h1; cases h1
      obtain ⟨g1, g2⟩ := hr o ho
      refine ⟨g1, ?_⟩
      rcases g2 with g2 | ⟨β, b, cap, c, e, fz, k1, k2⟩
      · exact .inl g2
      · exact .inr ⟨β, b, cap, c, e, fz, hφ.trans k1, k2⟩
    | @pt v id i off hu hv hr =>
      intro av e h0
      cases av <;> simp [AV.ren] at e
      rename_i id' i' off'
      obtain ⟨rfl, rfl, rfl⟩ := e
      have : id' = 0 := by simpa [AV.only0] using h0
      subst this
      refine .pt hd hv fun o' h1 => ?_
      rw [ho'] at h1; cases h1
      obtain ⟨β, b, k1, k2⟩ := hr o ho
      exact ⟨β, b, hφ.trans k1, k2⟩
    | ro vs hSb hb hc hr =>
      intro av e h0
      cases av <;> simp [AV.ren] at e
      obtain ⟨rfl, rfl⟩ := e
      exact .ro vs (hS _ hSb).1 hb hc fun j av hj => (hr j av hj).mono hS
    | ag hs h1 hr ih =>
      intro av e h0
      cases av <;> simp [AV.ren] at e
      subst e
      refine .ag (by rw [rens_length] at hs; exact hs) h1 fun j av hj => ?_
      exact ih j (av.ren d) (by rw [rens_get, hj]; rfl) av rfl (only0s_get (by simpa [AV.only0] using h0) hj)
    | tu hs hr ih =>
      intro av e h0
      cases av <;> simp [AV.ren] at e
      subst e
      refine .tu (by rw [rens_length] at hs; exact hs) fun j av hj => ?_
      exact ih j (av.ren d) (by rw [rens_get, hj]; rfl) av rfl (only0s_get (by simpa [AV.only0] using h0) hj)
    | fn hs hr ih =>
      intro av e h0
      cases av <;> simp [AV.ren] at e
      obtain ⟨rfl, e⟩ := e
      subst e
      refine .fn (by rw [rens_length] at hs; exact hs) fun j av hj => ?_
      exact ih j (av.ren d) (by rw [rens_get, hj]; rfl) av rfl (only0s_get (by simpa [AV.only0] using h0) hj)
  intro v av r h0
  exact key r _ rfl h0

theorem call_sound {f n : Nat} {args : List AV} {d : Option Nat} {K : St → Prop} {a : Act} (hc : CALL P f args st d K) (hn : a.tmps.size = n) (hdf : a.defers = []) (H : RepH F φ st.objs (· ∈ st.used) w)
    (hr : ∀ t, RV F φ st w (a.tmps.getD t undef) (st.regs t)) (hd : ∀ x, d = some x → x < n) {vs : Array Value} (hvs : vs.size = args.length)
    (ha : ∀ (j : Nat) (av : AV), args[j]? = some av → RV F φ st w (vs.getD j undef) av) :
    (∃ fn, P.funcs[f]? = some fn ∧ (fn.name == "runtime.NumGoroutine") = false ∧ fn.body.isSome = true) ∧
      Calls P f vs w fun e w' => ∃ v st', e = .returned v ∧ K st' ∧ Rep F n st' (a.put d v) w' := by
  cases hc with
  | pure R h hno k =>
    refine ⟨h.1, ?_⟩
    refine (h.2 ⟨w, fun _ => False, SS F φ st.objs w, noOb, fun _ => none⟩ (fun _ => none) w vs rfl rfl rfl (callee_none _ w) hvs (fun j av hj => noId_rep (fun β hβ => ⟨⟨hβ.1, (fun i o b h => by cases h), fun _ => .inl hβ⟩, rfl⟩) (ha j av hj) (noIds_get hno hj))).mono ?_
    rintro e w' ⟨v, r, O', φ', U', rfl, ⟨⟨hR, hnr⟩, rfl⟩, H', rr⟩
    have G := goes_same (φ := φ) (st := st) H'
    have H2 := repH_same H H'
    refine ⟨v, st.put d r, rfl, k r hR hnr, ?_⟩
    have rr' : RepV φ st.objs (· ∈ st.used) w'.heap (SS F φ st.objs w') v r :=
      noId_rep (fun β hβ => ⟨ss_back H (fun β i o b h ho hφ => by
        have hlt := H.lt ho hφ
        rcases h.2.2 hlt with h | h
        · exact h.2.1 i o b ho hφ
        · exact h) (fun β h _ => h) β hβ, rfl⟩) rr hnr
    refine Rep.goes (φ' := φ) (w' := w') (av := r) hn hdf hr ?_ ?_ rfl hd (fun _ => ?_)
    · cases d <;> exact G
    · cases d <;> exact H2
    · cases d <;> exact rr'
  | make x R h hdx hx hno k =>
    subst hdx
    refine ⟨h.1, ?_⟩
    refine (h.2 ⟨w, fun _ => False, SS F φ st.objs w, noOb, fun _ => none⟩ (fun _ => none) w vs rfl rfl rfl (callee_none _ w) hvs (fun j av hj => noId_rep (fun β hβ => ⟨⟨hβ.1, (fun i o b h => by cases h), fun _ => .inl hβ⟩, rfl⟩) (ha j av hj) (noIds_get hno hj))).mono ?_
    rintro e w' ⟨v, r, O', φ', U', rfl, ⟨o, hR, hleaf, rfl⟩, H', rr⟩
    have hne : ∀ i o, st.objs i = some o → x ≠ i := fun i o ho e => hx (e ▸ H.inU i o ho)
    have hnew : ∀ β b, φ' 0 = some (β, b) → w.heap.size ≤ β := fun β b h0 => (H'.own 0 o β b (upd_eq _ _ _) h0).resolve_left (fun h => h)
    have G : Goes φ (upd φ x (φ' 0)) st.objs (upd st.objs x (some o)) (· ∈ st.used) (· ∈ x :: st.used) w w' := by
      refine ⟨fun i hi => List.mem_cons_of_mem _ hi, ?_, fun β hβ _ => H'.below β hβ (fun h => h), ?_, H'.size⟩
      · intro i hi o' ho'
        have hxi : x ≠ i := fun e => hx (e ▸ hi)
        rw [upd_ne' _ _ hxi] at ho'
        exact ⟨o', ho', upd_ne' _ _ hxi, rfl, Nat.le_refl _, fun β b c e fz h1 h2 => ⟨c, e, fz, by rw [H'.below β (Array.getElem?_eq_some_iff.1 h2).1 (fun h => h)]; exact h2, rfl⟩⟩
      · intro i o' β b ho' hφ'
        by_cases hxi : x = i
        · subst hxi; rw [upd_eq] at hφ'; exact .inr (hnew β b hφ')
        · rw [upd_ne' _ _ hxi] at ho' hφ'; exact .inl ⟨i, o', b, ho', hφ'⟩
    have hback : ∀ β, SS ⟨w, fun _ => False, SS F φ st.objs w, noOb, fun _ => none⟩ φ' (upd noOb 0 (some o)) w' β → SS F (upd φ x (φ' 0)) (upd st.objs x (some o)) w' β := fun β hβ =>
      ss_back H (fun β i o' b h ho' hφ' => by
        by_cases hxi : x = i
        · subst hxi; rw [upd_eq] at hφ'; exact h.2.1 0 o b (upd_eq _ _ _) hφ'
        · rw [upd_ne' _ _ hxi] at ho' hφ'
          rcases h.2.2 (H.lt ho' hφ') with h | h
          · exact h.2.1 i o' b ho' hφ'
          · exact h) (fun β h _ => h) β hβ
    have H2 : RepH F (upd φ x (φ' 0)) (upd st.objs x (some o)) (· ∈ x :: st.used) w' := by
      refine G.repH H ?_ ?_ ?_ H'.os H'.tape H'.output
      · intro i j oi oj β bi bj hi hj pi pj
        by_cases hxi : x = i
        · by_cases hxj : x = j
          · exact hxi.symm.trans hxj
          · subst hxi; rw [upd_eq] at pi; rw [upd_ne' _ _ hxj] at hj pj
            have := hnew _ _ pi; have := H.lt hj pj; omega
        · by_cases hxj : x = j
          · subst hxj; rw [upd_eq] at pj; rw [upd_ne' _ _ hxi] at hi pi
            have := hnew _ _ pj; have := H.lt hi pi; omega
          · rw [upd_ne' _ _ hxi] at hi pi; rw [upd_ne' _ _ hxj] at hj pj
            exact H.inj i j oi oj β bi bj hi hj pi pj
      · intro i o' ho'
        by_cases hxi : x = i
        · subst hxi; exact List.mem_cons_self
        · rw [upd_ne' _ _ hxi] at ho'; exact List.mem_cons_of_mem _ (H.inU i o' ho')
      · intro i o' ho'
        by_cases hxi : x = i
        · subst hxi; rw [upd_eq] at ho'; cases ho'
          obtain ⟨g1, g2⟩ := H'.ob 0 o (upd_eq _ _ _)
          refine ⟨g1, ?_⟩
          rcases g2 with ⟨k1, k2⟩ | ⟨β, b, c, e, fz, k1, k2, k3, k4, k5⟩
          · exact .inl ⟨by rw [upd_eq]; exact k1, k2⟩
          · refine .inr ⟨β, b, c, e, fz, by rw [upd_eq]; exact k1, k2, k3, k4, fun i j av hij => ?_⟩
            obtain ⟨u, m1, m2, m3⟩ := k5 i j av hij
            exact ⟨u, m1, m2, noId_rep (fun β hβ => ⟨hback β hβ, rfl⟩) m3 (leaf_noId (leafy_get hleaf hij))⟩
        · rw [upd_ne' _ _ hxi] at ho'
          exact (H.ob i o' ho').mono (upd_ne' _ _ hxi) (fun β b hφ => H'.below β (H.lt ho' hφ) (fun h => h)) fun v av r => G.repV r
    have hren := ren_rep (obs' := upd st.objs x (some o)) (U' := (· ∈ x :: st.used)) (d := x) (fun β hβ => ⟨hback β hβ, rfl⟩) List.mem_cons_self (upd_eq noOb 0 (some o)) (upd_eq _ _ _) (φ' := upd φ x (φ' 0)) (upd_eq _ _ _) rr hR.2
    exact ⟨v, _, rfl, k r o hR.1 hleaf, Rep.goes (st' := { regs := upd st.regs x (r.ren x), objs := upd st.objs x (some o), used := x :: st.used }) (av := r.ren x) hn hdf hr G H2 rfl hd (fun _ => hren)⟩
  | obj id o R args' h ho hl h0 hren k =>
    refine ⟨h.1, ?_⟩
    subst hren
    have hφc : ∀ i oi β b, upd noOb 0 (some o) i = some oi → (fun _ => φ id) i = some (β, b) → i = 0 ∧ φ id = some (β, b) := by
      intro i oi β b h1 h2
      by_cases hi : 0 = i
      · exact ⟨hi.symm, h2⟩
      · rw [upd_ne' _ _ hi] at h1; cases h1
    have H0 : RepH ⟨w, fun β => ∃ b, φ id = some (β, b), SS F φ st.objs w, upd noOb 0 (some o), fun _ => φ id⟩ (fun _ => φ id) (upd noOb 0 (some o)) (· ∈ [0]) w := by
      refine callee_start w ?_ ?_ ?_ ?_
      · intro i j oi oj β bi bj hi hj pi pj
        exact (hφc i oi β bi hi pi).1.trans (hφc j oj β bj hj pj).1.symm
      · intro i oi hi
        by_cases h0i : 0 = i
        · subst h0i; simp
        · rw [upd_ne' _ _ h0i] at hi; cases hi
      · intro i oi β b hi hp; exact ⟨b, hp⟩
      · intro i oi hi
        by_cases h0i : 0 = i
        · subst h0i; rw [upd_eq] at hi; cases hi
          obtain ⟨g1, g2⟩ := H.ob id o ho
          refine ⟨g1, ?_⟩
          rcases g2 with g2 | ⟨β, b, c, e, fz, k1, k2, k3, k4, k5⟩
          · exact .inl g2
          · refine .inr ⟨β, b, c, e, fz, k1, k2, k3, k4, fun i j av hij => ?_⟩
            obtain ⟨u, m1, m2, m3⟩ := k5 i j av hij
            refine ⟨u, m1, m2, noId_rep (fun β' hβ' => ⟨⟨hβ'.1, ?_, fun _ => .inl hβ'⟩, rfl⟩) m3 (leaf_noId (leafy_get hl hij))⟩
            intro i' o' b' _ hp
            exact hβ'.2.1 id o b' ho hp
        · rw [upd_ne' _ _ h0i] at hi; cases hi
    have hargs : ∀ (j : Nat) (av : AV), args'[j]? = some av → RepV (fun _ => φ id) (upd noOb 0 (some o)) (· ∈ [0]) w.heap (SS ⟨w, fun β => ∃ b, φ id = some (β, b), SS F φ st.objs w, upd noOb 0 (some o), fun _ => φ id⟩ (fun _ => φ id) (upd noOb 0 (some o)) w) (vs.getD j undef) av := by
      intro j av hj
      refine unren_rep (d := id) (fun β hβ => ⟨⟨hβ.1, ?_, fun _ => .inl hβ⟩, rfl⟩) (by simp) ho (upd_eq _ _ _) rfl (ha j (av.ren id) (by rw [rens_get, hj]; rfl)) (only0s_get h0 hj)
      intro i' o' b' _ hp
      exact hβ.2.1 id o b' ho hp
    refine (h.2 ⟨w, fun β => ∃ b, φ id = some (β, b), SS F φ st.objs w, upd noOb 0 (some o), fun _ => φ id⟩ (fun _ => φ id) w vs rfl rfl rfl H0 (by rw [hvs, rens_length]) hargs).mono ?_
    rintro e w' ⟨v, r, O', φ', U', rfl, ⟨o', ⟨hR, hnr⟩, hleaf, rfl⟩, H', rr⟩
    obtain ⟨o1, e1, hφ0, hsz0, hlen0, hblk⟩ := H'.keep0 0 (by simp [upd]) o' (upd_eq _ _ _)
    have e2 : upd noOb 0 (some o) 0 = some o1 := e1
    rw [upd_eq] at e2; cases e2
    have hkeep : ∀ β, β < w.heap.size → (∀ b, φ id ≠ some (β, b)) → w'.heap[β]? = w.heap[β]? := fun β hβ hno => H'.below β hβ fun ⟨b, hb⟩ => hno b hb
    have G : Goes φ φ st.objs (upd st.objs id (some o')) (· ∈ st.used) (· ∈ st.used) w w' := by
      refine ⟨fun i hi => hi, ?_, ?_, ?_, H'.size⟩
      · intro i hi o₁ ho₁
        by_cases hdi : id = i
        · subst hdi; rw [upd_eq] at ho₁; cases ho₁
          exact ⟨o, ho, rfl, hsz0, hlen0, hblk⟩
        · rw [upd_ne' _ _ hdi] at ho₁
          refine ⟨o₁, ho₁, rfl, rfl, Nat.le_refl _, fun β b c e fz h1 h2 => ⟨c, e, fz, ?_, rfl⟩⟩
          rw [hkeep β (Array.getElem?_eq_some_iff.1 h2).1 fun b' hb => hdi (H.inj id i o o₁ β b' b ho ho₁ hb h1)]; exact h2
      · intro β hβ hno; exact hkeep β hβ fun b => hno id o b ho
      · intro i o₁ β b ho₁ hφ₁
        by_cases hdi : id = i
        · subst hdi; exact .inl ⟨id, o, b, ho, hφ₁⟩
        · rw [upd_ne' _ _ hdi] at ho₁; exact .inl ⟨i, o₁, b, ho₁, hφ₁⟩
    have hback : ∀ β, SS ⟨w, fun β => ∃ b, φ id = some (β, b), SS F φ st.objs w, upd noOb 0 (some o), fun _ => φ id⟩ φ' (upd noOb 0 (some o')) w' β → SS F φ (upd st.objs id (some o')) w' β := fun β hβ =>
      ss_back H (fun β i o₁ b h ho₁ hφ₁ => by
        have own : ∀ b, φ id ≠ some (β, b) := fun b hb => h.2.1 0 o' b (upd_eq _ _ _) (by rw [hφ0]; exact hb)
        by_cases hdi : id = i
        · subst hdi; exact own b hφ₁
        · rw [upd_ne' _ _ hdi] at ho₁
          rcases h.2.2 (H.lt ho₁ hφ₁) with h | ⟨b', h⟩
          · exact h.2.1 i o₁ b ho₁ hφ₁
          · exact own b' h) (fun β ⟨b, hb⟩ h => h.2.1 0 o' b (upd_eq _ _ _) (by rw [hφ0]; exact hb)) β hβ
    have H2 : RepH F φ (upd st.objs id (some o')) (· ∈ st.used) w' := by
      refine G.repH H ?_ ?_ ?_ H'.os H'.tape H'.output
      · intro i j oi oj β bi bj hi hj pi pj
        have hi' : ∃ oi, st.objs i = some oi := by
          by_cases hdi : id = i
          · subst hdi; exact ⟨o, ho⟩
          · rw [upd_ne' _ _ hdi] at hi; exact ⟨oi, hi⟩
        have hj' : ∃ oj, st.objs j = some oj := by
          by_cases hdj : id = j
          · subst hdj; exact ⟨o, ho⟩
          · rw [upd_ne' _ _ hdj] at hj; exact ⟨oj, hj⟩
        obtain ⟨oi', hi'⟩ := hi'
        obtain ⟨oj', hj'⟩ := hj'
        exact H.inj i j oi' oj' β bi bj hi' hj' pi pj
      · intro i o₁ ho₁
        by_cases hdi : id = i
        · subst hdi; exact H.inU id o ho
        · rw [upd_ne' _ _ hdi] at ho₁; exact H.inU i o₁ ho₁
      · intro i o₁ ho₁
        by_cases hdi : id = i
        · subst hdi; rw [upd_eq] at ho₁; cases ho₁
          obtain ⟨g1, g2⟩ := H'.ob 0 o' (upd_eq _ _ _)
          refine ⟨g1, ?_⟩
          rw [hφ0] at g2
          rcases g2 with g2 | ⟨β, b, c, e, fz, k1, k2, k3, k4, k5⟩
          · exact .inl g2
          · refine .inr ⟨β, b, c, e, fz, k1, k2, k3, k4, fun i j av hij => ?_⟩
            obtain ⟨u, m1, m2, m3⟩ := k5 i j av hij
            exact ⟨u, m1, m2, noId_rep (fun β hβ => ⟨hback β hβ, rfl⟩) m3 (leaf_noId (leafy_get hleaf hij))⟩
        · rw [upd_ne' _ _ hdi] at ho₁
          exact (H.ob i o₁ ho₁).mono rfl (fun β b hφ => hkeep β (H.lt ho₁ hφ) fun b' hb => hdi (H.inj id i o o₁ β b' b ho ho₁ hb hφ)) fun v av r => G.repV r
    have rr' : RepV φ (upd st.objs id (some o')) (· ∈ st.used) w'.heap (SS F φ (upd st.objs id (some o')) w') v r := noId_rep (fun β hβ => ⟨hback β hβ, rfl⟩) rr hnr
    refine ⟨v, _, rfl, k r o' hR hnr hleaf, ?_⟩
    refine Rep.goes (φ' := φ) (w' := w') (av := r) hn hdf hr ?_ ?_ rfl hd (fun _ => ?_)
    · cases d <;> exact G
    · cases d <;> exact H2
    · cases d <;> exact rr'
  | lend R h hl k hf =>
    refine ⟨h.1, ?_⟩
    have hlen : vs.size = (lends st.objs args).length := by rw [hvs]; exact lendsW_length.symm
    refine (h.2 ⟨w, fun _ => False, fun β => β < w.heap.size, noOb, fun _ => none⟩ (fun _ => none) w vs rfl rfl rfl (callee_none _ w) hlen (lends_rep H (fun β hβ => ⟨hβ, (fun i o b h => by cases h), fun _ => .inl hβ⟩) hl ha)).mono ?_
    rintro e w' ⟨v, r, O', φ', U', rfl, ⟨⟨hR, hnr⟩, rfl⟩, H', rr⟩
    have G := goes_same (φ := φ) (st := st) H'
    have H2 := repH_same H H'
    refine ⟨v, st.put d r, rfl, k r hR, ?_⟩
    have rr' : RepV φ st.objs (· ∈ st.used) w'.heap (SS F φ st.objs w') v r := flat_rep rr (hf r hR)
    refine Rep.goes (φ' := φ) (w' := w') (av := r) hn hdf hr ?_ ?_ rfl hd (fun _ => ?_)
    · cases d <;> exact G
    · cases d <;> exact H2
    · cases d <;> exact rr'
end
end Go.Vc
