/- States that are told in short; tables. Part of a framework of abstract values and states, over the model, for proofs of functions; it has no conditions of its own. -/
import Derived.Test.YtpipfaegkgakiaaVcM
set_option linter.all false
/-! States that are told in short; tables. -/
namespace Go.Vc

/-- Which object has come to be which: none, one that is not there yet. -/
abbrev Nm := Nat → Option (Option Nat)
def nms : List (Nat × Option Nat) → Nm
  | [], _ => none
  | (a, b) :: r, x => if a = x then some b else nms r x
def olds : List (Nat × Option Nat) → List Nat
  | [] => []
  | (_, some b) :: r => b :: olds r
  | (_, none) :: r => olds r

/-- May v be said to be v'? -/
def wk (st : St) (m : List (Nat × Option Nat)) : AV → AV → Prop
  | _, .un => True
  | .rf i off len, .rf i' off' len' => nms m i' = some (some i) ∧ off = off' ∧ len = len'
  | .nl, .rf i' off' len' => nms m i' = some none ∧ off' = 0 ∧ len' = 0
  | .pt i j off, .pt i' j' off' => nms m i' = some (some i) ∧ j = j' ∧ off = off'
  | .rf i off len, .im sz es => i ∉ olds m ∧ ∃ o, st.objs i = some o ∧ o.leafy ∧ o.sz = sz ∧ (o.es.drop off).take len = es
  | .pt i j off, .ro cs off' => i ∉ olds m ∧ off = off' ∧ ∃ o, st.objs i = some o ∧ o.leafy ∧ o.es[j]? = some cs
  | .nl, .im _ es => es = []
  | .im s e, .im s' e' => s = s' ∧ e = e'
  | .ag cs, .ag cs' => wks st m cs cs'
  | .tu cs, .tu cs' => wks st m cs cs'
  | .fn f cs, .fn f' cs' => f = f' ∧ wks st m cs cs'
  | .ro cs off, .ro cs' off' => cs = cs' ∧ off = off'
  | .pr v, .pr v' => v = v'
  | .nl, .nl => True
  | _, _ => False
where
  wks (st : St) (m : List (Nat × Option Nat)) : List AV → List AV → Prop
  | [], [] => True
  | x :: r, y :: r' => wk st m x y ∧ wks st m r r'
  | _, _ => False

theorem wks_get {st : St} {m : List (Nat × Option Nat)} {l l' : List AV} (h : wk.wks st m l l') : l.length = l'.length ∧ ∀ (j : Nat) (y : AV), l'[j]? = some y → ∃ x, l[j]? = some x ∧ wk st m x y := by
  induction l generalizing l' with
  | nil => cases l' with
    | nil => exact ⟨rfl, by simp⟩
    | cons y r' => exact False.elim (by simp [wk.wks] at h)
  | cons x r ih =>
    cases l' with
    | nil => exact False.elim (by simp [wk.wks] at h)
    | cons y r' =>
      simp only [wk.wks] at h
      obtain ⟨h1, h2⟩ := ih h.2
      refine ⟨by simp [h1], fun j z hj => ?_⟩
      cases j with
      | zero => simp at hj; subst hj; exact ⟨x, rfl, h.1⟩
      | succ j => simpa using h2 j z (by simpa using hj)

theorem nms_olds {m : List (Nat × Option Nat)} {a b : Nat} (h : nms m a = some (some b)) : b ∈ olds m := by
  induction m with
  | nil => cases h
  | cons x r ih =>
    obtain ⟨c, d⟩ := x
    simp only [nms] at h
    split at h
    · cases h; simp [olds]
    · cases d with
      | none => exact ih h
      | some d => exact List.mem_cons_of_mem _ (ih h)

section
variable {F : Fr} {φ φ' : Nat → Option (Nat × Nat)} {st st' : St} {w : World} {m : List (Nat × Option Nat)}

/-- An object, as memory that nobody writes. -/
theorem frozen_im (H : RepH F φ st.objs (· ∈ st.used) w) {S' : Nat → Prop} (hS : ∀ β, SS F φ st.objs w β → S' β ∧ w.heap[β]? = w.heap[β]?) {i off len : Nat} {o : Ob} {v : Value} (ho : st.objs i = some o) (hl : o.leafy)
    (hSi : ∀ β b, φ i = some (β, b) → S' β) (g : RfOk φ w.heap o i off len v) : RdI w.heap S' v (.im o.sz ((o.es.drop off).take len)) := by
  obtain ⟨g1, g2⟩ := g
  have hlen : ((o.es.drop off).take len).length = len := by simp; omega
  rcases g2 with ⟨rfl, a, rfl⟩ | ⟨β, b, cap, c, e, fz, k1, k2, rfl, k4, k5⟩
  · simp only [List.take_zero]; exact .im0 _ _ _
  · obtain ⟨hel, c', e', fz', hb, _, _, hc⟩ := ob_at H ho k1
    rw [k2] at hb; cases hb
    have hcell : ∀ i j av, cellAt ((o.es.drop off).take len) i j = some av → cellAt o.es (off + i) j = some av := by
      intro i j av hij
      simp only [cellAt, List.getElem?_take, List.getElem?_drop] at hij ⊢
      split at hij
      · exact hij
      · cases hij
    have hex : ∀ i j av, cellAt ((o.es.drop off).take len) i j = some av → ∃ u, c[b + off * o.sz + i * o.sz + j]? = some u ∧ RdI w.heap S' u av := by
      intro i j av hij
      obtain ⟨u, m1, _, m3⟩ := hc _ _ _ (hcell i j av hij)
      refine ⟨u, ?_, (leaf_rd m3 (leafy_get hl (hcell i j av hij))).mono hS⟩
      rw [Nat.add_mul, ← Nat.add_assoc] at m1; exact m1
    have hfin := RdI.im (h := w.heap) (S := S') (β := β) (o := b + off * o.sz) (cap := cap) (sz := o.sz) (c := c) (e := e) (fz := fz) (es := (o.es.drop off).take len) (fun i j => c.getD (b + off * o.sz + i * o.sz + j) undef)
      (hSi β b k1) k2 (by omega) (fun x hx => hel x (List.mem_of_mem_drop (List.mem_of_mem_take hx)))
      (fun i j av hij => by obtain ⟨u, m1, _⟩ := hex i j av hij; rw [Array.getD_eq_getD_getElem?, m1]; rfl)
      (fun i j av hij => by obtain ⟨u, m1, m2⟩ := hex i j av hij; rw [Array.getD_eq_getD_getElem?, m1]; exact m2)
    rw [hlen] at hfin
    exact hfin

theorem frozen_ro (H : RepH F φ st.objs (· ∈ st.used) w) {S' : Nat → Prop} (hS : ∀ β, SS F φ st.objs w β → S' β ∧ w.heap[β]? = w.heap[β]?) {i j off : Nat} {o : Ob} {cs : List AV} {v : Value} (ho : st.objs i = some o) (hl : o.leafy)
    (hj : o.es[j]? = some cs) (hSi : ∀ β b, φ i = some (β, b) → S' β) {obs' : Nat → Option Ob} {U' : Nat → Prop} (g : ∃ β b, φ i = some (β, b) ∧ v = .pointer (some ⟨β, b + j * o.sz + off, none⟩)) : RepV φ' obs' U' w.heap S' v (.ro cs off) := by
  obtain ⟨β, b, k1, rfl⟩ := g
  obtain ⟨hel, c, e, fz, hb, _, _, hc⟩ := ob_at H ho k1
  have hex : ∀ (k : Nat) (av : AV), cs[k]? = some av → ∃ u, c[b + j * o.sz + k]? = some u ∧ RdI w.heap S' u av := by
    intro k av hk
    have hij : cellAt o.es j k = some av := by simp [cellAt, hj, hk]
    obtain ⟨u, m1, m2, m3⟩ := hc j k av hij
    exact ⟨u, m1, (leaf_rd m3 (leafy_get hl hij)).mono hS⟩
  exact .ro (o := b + j * o.sz) (fun k => c.getD (b + j * o.sz + k) undef) (hSi β b k1) hb
    (fun k av hk => by obtain ⟨u, m1, _⟩ := hex k av hk; rw [Array.getD_eq_getD_getElem?, m1]; rfl)
    (fun k av hk => by obtain ⟨u, m1, m2⟩ := hex k av hk; rw [Array.getD_eq_getD_getElem?, m1]; exact m2)

/-- One state entails another: conditions. -/
structure Turn (zz : Bool) (st st' : St) (m : List (Nat × Option Nat)) : Prop where
  regs : ∀ t, wk st m (st.regs t) (st'.regs t)
  obs : ∀ i o', st'.objs i = some o' → (∃ (j : Nat) (o : Ob), nms m i = some (some j) ∧ st.objs j = some o ∧ o'.sz = o.sz ∧ o'.es.length = o.es.length ∧ ∀ (k : Nat) (cs' : List AV), o'.es[k]? = some cs' → ∃ cs : List AV, o.es[k]? = some cs ∧ wk.wks st m cs cs') ∨ (nms m i = some none ∧ o'.es = [])
  inj : ∀ i j k, nms m i = some (some k) → nms m j = some (some k) → i = j
  used : ∀ i x, nms m i = some x → i ∈ st'.used
  inU : ∀ i o', st'.objs i = some o' → i ∈ st'.used
  u0 : zz = true → 0 ∈ st.used → 0 ∈ st'.used
  n0 : zz = true → ∀ x, nms m 0 = some x → x = some 0

theorem Turn.core {zz : Bool} (h : Turn zz st st' m) {F : Fr} {n : Nat} {a : Act} {w : World} (hF : (zz = true ∧ ∀ i, F.O0 i ≠ none → i = 0) ∨ F.O0 = noOb) (R : Rep F n st a w) : Rep F n st' a w := by
  obtain ⟨hs, hd, φ, H, hr⟩ := R
  let φ' : Nat → Option (Nat × Nat) := fun i => match nms m i with
    | some (some j) => φ j
    | _ => none
  have hφ : ∀ i j, nms m i = some (some j) → φ' i = φ j := fun i j hi => by simp only [φ', hi]
  have hφn : ∀ i, nms m i = some none → φ' i = none := fun i hi => by simp only [φ', hi]
  -- each block of an object is one of an old one
  have back : ∀ i o' β b, st'.objs i = some o' → φ' i = some (β, b) → ∃ j o, nms m i = some (some j) ∧ st.objs j = some o ∧ φ j = some (β, b) := by
    intro i o' β b ho' hb
    rcases h.obs i o' ho' with ⟨j, o, h1, h2, _⟩ | ⟨h1, _⟩
    · exact ⟨j, o, h1, h2, by rw [← hφ i j h1]; exact hb⟩
    · rw [hφn i h1] at hb; cases hb
  have hS : ∀ β, SS F φ st.objs w β → SS F φ' st'.objs w β ∧ w.heap[β]? = w.heap[β]? := by
    intro β hβ
    refine ⟨⟨hβ.1, fun i o' b ho' hb => ?_, hβ.2.2⟩, rfl⟩
    obtain ⟨j, o, _, h2, h3⟩ := back i o' β b ho' hb
    exact hβ.2.1 j o b h2 h3
  have hSi : ∀ i o, i ∉ olds m → st.objs i = some o → ∀ β b, φ i = some (β, b) → SS F φ' st'.objs w β := by
    intro i o hi ho β b hb
    refine ⟨H.lt ho hb, fun k o' b' ho' hb' => ?_, fun hlt => ?_⟩
    · obtain ⟨j, oj, h1, h2, h3⟩ := back k o' β b' ho' hb'
      have := H.inj i j o oj β b b' ho h2 hb h3
      subst this
      exact hi (nms_olds h1)
    · rcases H.own i o β b ho hb with h' | h'
      · exact .inr h'
      · omega
  have hrf : ∀ i i' off len v, nms m i' = some (some i) → (∀ o, st.objs i = some o → RfOk φ w.heap o i off len v) → ∀ o', st'.objs i' = some o' → RfOk φ' w.heap o' i' off len v := by
    intro i i' off len v hn hr o' ho'
    rcases h.obs i' o' ho' with ⟨j, o, h1, h2, h3, h4, _⟩ | ⟨h1, _⟩
    · rw [hn] at h1; cases h1
      obtain ⟨g1, g2⟩ := hr o h2
      refine ⟨by rw [h4]; exact g1, ?_⟩
      rcases g2 with g2 | ⟨β, b, cap, c, e, fz, k1, k2, k3, k4, k5⟩
      · exact .inl g2
      · exact .inr ⟨β, b, cap, c, e, fz, by rw [hφ _ _ hn]; exact k1, k2, by rw [h3]; exact k3, k4, by rw [h3]; exact k5⟩
    · rw [hn] at h1; cases h1
  have key : ∀ {v : Value} {av : AV}, RepV φ st.objs (· ∈ st.used) w.heap (SS F φ st.objs w) v av → ∀ av', wk st m av av' → RepV φ' st'.objs (· ∈ st'.used) w.heap (SS F φ' st'.objs w) v av' := by
    intro v av r
    induction r with
    | un v => intro av' hw; cases av' <;> simp only [wk] at hw; exact .un v
    | @rd v av r =>
      intro av' hw
      cases av' with
      | un => exact .un v
      | _ =>
        cases r with
        | pr v h1 => first | (simp only [wk] at hw; done) | (simp only [wk] at hw; subst hw; exact .rd (.pr _ h1))
        | nl =>
          first
            | (simp only [wk] at hw; done)
            | exact .rd .nl
            | (simp only [wk] at hw; subst hw; exact .rd (.im0 _ _ _))
            | (simp only [wk] at hw
               obtain ⟨hn, rfl, rfl⟩ := hw
               refine .rf (h.used _ _ hn) ⟨none, 0, rfl, fun _ => rfl⟩ fun o' ho' => ?_
               exact ⟨by omega, .inl ⟨rfl, none, rfl⟩⟩)
        | im0 a cap sz => first | (simp only [wk] at hw; done) | (simp only [wk] at hw; obtain ⟨rfl, rfl⟩ := hw; exact .rd (.im0 _ _ _))
        | im vs hSb hb hcap hsz hc hr' => first | (simp only [wk] at hw; done) | (simp only [wk] at hw; obtain ⟨rfl, rfl⟩ := hw; exact .rd (RdI.mono hS (.im vs hSb hb hcap hsz hc hr')))
        | fn g =>
          first
            | (simp only [wk] at hw; done)
            | (simp only [wk] at hw
               obtain ⟨rfl, hw⟩ := hw
               obtain ⟨h1, _⟩ := wks_get hw
               rename_i caps _
               have : caps = [] := List.eq_nil_of_length_eq_zero (by simpa using h1.symm)
               subst this
               exact .rd (.fn _))
    | @rf v i off len hu hv hr' =>
      intro av' hw
      cases av' with
      | un => exact .un v
      | rf i' off' len' =>
        simp only [wk] at hw
        obtain ⟨hn, rfl, rfl⟩ := hw
        exact .rf (h.used _ _ hn) hv (hrf _ _ _ _ _ hn hr')
      | im sz es =>
        simp only [wk] at hw
        obtain ⟨hi, o, ho, hl, rfl, rfl⟩ := hw
        exact .rd (frozen_im H hS ho hl (hSi i o hi ho) (hr' o ho))
      | _ => simp only [wk] at hw
    | @pt v i j off hu hv hr' =>
      intro av' hw
      cases av' with
      | un => exact .un v
      | pt i' j' off' =>
        simp only [wk] at hw
        obtain ⟨hn, rfl, rfl⟩ := hw
        refine .pt (h.used _ _ hn) hv fun o' ho' => ?_
        rcases h.obs i' o' ho' with ⟨k, o, h1, h2, h3, h4, _⟩ | ⟨h1, _⟩
        · rw [hn] at h1; cases h1
          obtain ⟨β, b, k1, k2⟩ := hr' o h2
          exact ⟨β, b, by rw [hφ _ _ hn]; exact k1, by rw [h3]; exact k2⟩
        · rw [hn] at h1; cases h1
      | ro cs off' =>
        simp only [wk] at hw
        obtain ⟨hi, rfl, o, ho, hl, hj⟩ := hw
        exact frozen_ro H hS ho hl hj (hSi i o hi ho) (hr' o ho)
      | _ => simp only [wk] at hw
    | ro vs hSb hb hc hr' =>
      intro av' hw
      cases av' with
      | un => exact .un _
      | ro cs' off' => simp only [wk] at hw; obtain ⟨rfl, rfl⟩ := hw; exact .ro vs (hS _ hSb).1 hb hc fun j av hj => (hr' j av hj).mono hS
      | _ => simp only [wk] at hw
    | ag hs' h1 hr' ih =>
      intro av' hw
      cases av' with
      | un => exact .un _
      | ag cs' =>
        simp only [wk] at hw
        obtain ⟨g1, g2⟩ := wks_get hw
        exact .ag (hs'.trans g1) h1 fun j av hj => by obtain ⟨x, k1, k2⟩ := g2 j av hj; exact ih j x k1 av k2
      | _ => simp only [wk] at hw
    | tu hs' hr' ih =>
      intro av' hw
      cases av' with
      | un => exact .un _
      | tu cs' =>
        simp only [wk] at hw
        obtain ⟨g1, g2⟩ := wks_get hw
        exact .tu (hs'.trans g1) fun j av hj => by obtain ⟨x, k1, k2⟩ := g2 j av hj; exact ih j x k1 av k2
      | _ => simp only [wk] at hw
    | fn hs' hr' ih =>
      intro av' hw
      cases av' with
      | un => exact .un _
      | fn g cs' =>
        simp only [wk] at hw
        obtain ⟨rfl, hw⟩ := hw
        obtain ⟨g1, g2⟩ := wks_get hw
        exact .fn (hs'.trans g1) fun j av hj => by obtain ⟨x, k1, k2⟩ := g2 j av hj; exact ih j x k1 av k2
      | _ => simp only [wk] at hw
  refine ⟨hs, hd, φ', ?_, fun t => key (hr t) _ (h.regs t)⟩
  refine { inj := ?_, inU := h.inU, ob := ?_, own := ?_, below := H.below, size := H.size, os := H.os, tape := H.tape, output := H.output, idsU := ?_, keep0 := ?_ }
  · intro i j oi oj β bi bj hi hj hbi hbj
    obtain ⟨k, ok, g1, g2, g3⟩ := back i oi β bi hi hbi
    obtain ⟨l, ol, k1, k2, k3⟩ := back j oj β bj hj hbj
    have := H.inj k l ok ol β bi bj g2 k2 g3 k3
    subst this
    exact h.inj i j k g1 k1
  · intro i o' ho'
    rcases h.obs i o' ho' with ⟨j, o, h1, h2, h3, h4, h5⟩ | ⟨h1, h2⟩
    · obtain ⟨r1, r2⟩ := H.ob j o h2
      refine ⟨fun x hx => ?_, ?_⟩
      · obtain ⟨k, hk⟩ := List.mem_iff_getElem?.1 hx
        obtain ⟨cs, g1, g2⟩ := h5 k x hk
        rw [h3, ← (wks_get g2).1]
        exact r1 cs (List.mem_of_getElem? g1)
      · rcases r2 with ⟨g1, g2⟩ | ⟨β, b, c, e, fz, g1, g2, g3, g4, g5⟩
        · exact .inl ⟨by rw [hφ _ _ h1]; exact g1, List.eq_nil_of_length_eq_zero (by rw [h4, g2]; rfl)⟩
        · refine .inr ⟨β, b, c, e, fz, by rw [hφ _ _ h1]; exact g1, g2, g3, by rw [h3, h4]; exact g4, fun k l av' hkl => ?_⟩
          unfold cellAt at hkl
          cases hek : o'.es[k]? with
          | none => rw [hek] at hkl; cases hkl
          | some cs' =>
            rw [hek] at hkl
            obtain ⟨cs, q1, q2⟩ := h5 k cs' hek
            obtain ⟨x, q3, q4⟩ := (wks_get q2).2 l av' hkl
            obtain ⟨u, p1, p2, p3⟩ := g5 k l x (by simp [cellAt, q1, q3])
            exact ⟨u, by rw [h3]; exact p1, p2, key p3 _ q4⟩
    · exact ⟨by rw [h2]; simp, .inl ⟨hφn i h1, h2⟩⟩
  · intro i o' β b ho' hb
    obtain ⟨j, o, g1, g2, g3⟩ := back i o' β b ho' hb
    exact H.own j o β b g2 g3
  · intro i hi
    rcases hF with ⟨hz, hF⟩ | hF
    · have := hF i hi
      subst this
      exact h.u0 hz (H.idsU 0 hi)
    · rw [hF] at hi; exact absurd rfl hi
  · intro i hi o' ho'
    rcases hF with ⟨hz, hF⟩ | hF
    rotate_left
    · rw [hF] at hi; exact absurd rfl hi
    have := hF i hi
    subst this
    rcases h.obs 0 o' ho' with ⟨j, o, h1, h2, h3, h4, h5⟩ | ⟨h1, h2⟩
    · have := h.n0 hz _ h1
      cases this
      obtain ⟨oo, k1, k2, k3, k4, k5⟩ := H.keep0 0 hi o h2
      exact ⟨oo, k1, by rw [hφ _ _ h1]; exact k2, h3.trans k3, by rw [h4]; exact k4, k5⟩
    · have := h.n0 hz _ h1
      cases this
theorem Turn.ent (h : Turn true st st' m) : Ent st st' := fun _ _ _ _ hF R => h.core (.inl ⟨rfl, hF⟩) R
theorem Turn.ent0 (h : Turn false st st' m) : Ent0 noOb st st' := fun _ _ _ _ hF R => h.core (.inr hF) R
end
end Go.Vc
