/- Regions. Part of a framework of abstract values and states, over the model, for proofs of functions; it has no conditions of its own. -/
import Derived.Test.YtpipfaegkgakiaaVcK
set_option linter.all false
/-! Regions. -/
namespace Go.Vc

def gd (ops : List Oper) (g : Nat) : Option Nat := (ops[g]?).bind (·.dst)

def gV : AV → Bool → Prop → Prop → Prop
  | .pr (.bool b), want, A, B => VIF (b == want) A B
  | .tu [], _, _, B => B
  | _, _, _, _ => False
@[congr] theorem gV_congr {x y : AV} {b : Bool} {A B : Prop} {p00 : Prop} (_h00 : (True ∧ True) = p00) (h : x = y) : gV x b A B = gV y b A B := by rw [h]
/-- Of a slot. -/
def gS (st : St) : Option Nat → Bool → Prop → Prop → Prop
  | some t, b, A, B => gV (st.regs t) b A B
  | none, _, _, B => B
@[congr] theorem gS_congr {st : St} {x y : Option Nat} {b : Bool} {A B : Prop} {p00 : Prop} (_h00 : (True ∧ True) = p00) (h : x = y) : gS st x b A B = gS st y b A B := by rw [h]
def evG (st : St) (ops : List Oper) (g : Option (Nat × Bool)) (A B : Prop) : Prop :=
  match g with
  | none => A
  | some (j, want) => gS st (gd ops j) want A B

def firstIf (im : Option Bool) (st : St) (op : Op) : Prop := match im with
  | some b => firstOk st b op
  | none => True

/-- Two ways to go on, of a slot that holds a Bool. -/
def SPv (s : St) (d : Nat) : AV → (St → Prop) → Prop
  | .pr (.bool b), K => VIF b (K (s.put (some d) (.pr (.bool true)))) (K (s.put (some d) (.pr (.bool false))))
  | _, K => K s
@[congr] theorem SPv_congr {s : St} {d : Nat} {x y : AV} {K : St → Prop} {p00 : Prop} (_h00 : (True ∧ True) = p00) (h : x = y) : SPv s d x K = SPv s d y K := by rw [h]
def SPd (sp : Bool) (d : Option Nat) (s : St) (K : St → Prop) : Prop := match sp, d with
  | true, some d => SPv s d (s.regs d) K
  | _, _ => K s

theorem put_same (s : St) (d : Nat) {v : AV} (h : s.regs d = v) : s.put (some d) v = s := by
  subst h
  have : upd s.regs d (s.regs d) = s.regs := by funext t; simp only [upd]; split <;> simp_all
  simp only [St.put, this]

theorem SPd_iff (sp : Bool) (d : Option Nat) (s : St) (K : St → Prop) : SPd sp d s K ↔ K s := by
  unfold SPd
  split
  · rename_i d
    generalize hv : s.regs d = v
    unfold SPv
    split
    · rename_i b
      cases b
      · rw [VIF_false, put_same s d hv]
      · rw [VIF_true, put_same s d hv]
    · exact Iff.rfl
  · exact Iff.rfl

/-- An operation that is to leave all objects as they are. -/
def qK (q : Bool) (st s : St) (A : Prop) : Prop := match q with
  | true => s.objs = st.objs ∧ A
  | false => A
theorem qK_to {q : Bool} {st s : St} {A : Prop} (h : qK q st s A) : A := by
  cases q
  · exact h
  · exact h.2
theorem qK_mono {q : Bool} {st s : St} {A B : Prop} (m : A → B) (h : qK q st s A) : qK q st s B := by
  cases q
  · exact m h
  · exact ⟨h.1, m h.2⟩
def evAt (P : Program) (T : Nat → TI) (ops : List Oper) (im : Option Bool) (sp q : Bool) : Option Oper → St → (St → Prop) → Prop
  | none, st, K => K st
  | some o, st, K => evG st ops o.guard (firstIf im st o.op ∧ evOp P T st o.dst o.op fun s => qK q st s (SPd sp o.dst s K)) (K (st.put o.dst (.tu [])))
@[congr] theorem evAt_congr {P : Program} {T : Nat → TI} {ops : List Oper} {im : Option Bool} {sp q : Bool} {x y : Option Oper} {st : St} {K : St → Prop} {p00 : Prop} (_h00 : (True ∧ True) = p00) (h : x = y) : evAt P T ops im sp q x st K = evAt P T ops im sp q y st K := by rw [h]
theorem evAt_some {P : Program} {T : Nat → TI} {ops : List Oper} {im : Option Bool} {sp q : Bool} {o : Oper} {st : St} {K : St → Prop} :
    evAt P T ops im sp q (some o) st K = evG st ops o.guard (firstIf im st o.op ∧ evOp P T st o.dst o.op fun s => qK q st s (SPd sp o.dst s K)) (K (st.put o.dst (.tu []))) := rfl

/-- An order: which operation, whether it is done ahead (and must look at nothing that turns), whether its answer is a guard, whether it leaves all objects as they are. -/
abbrev Ord := List (Nat × Option Bool × Bool × Bool)
/-- The state is brought into short form. -/
def NS (st : St) (K : St → Prop) : Prop := K st
@[congr] theorem NS_congr {st st' : St} {K : St → Prop} {p00 : Prop} (_h00 : (True ∧ True) = p00) (h : st = st') : NS st K = NS st' K := by rw [h]
theorem NS_do (st : St) (K : St → Prop) : NS st K = K st := rfl
/-- In the order that the list tells. -/
def evSel (P : Program) (T : Nat → TI) (ops : List Oper) : Ord → St → (St → Prop) → Prop
  | [], st, K => K st
  | (i, im, sp, q) :: r, st, K => evAt P T ops im sp q ops[i]? st fun s => NS s fun s => evSel P T ops r s K

/-- Whatever bears the one bears the other. -/
def Ent (st st' : St) : Prop := ∀ (F : Fr) (n : Nat) (a : Act) (w : World), (∀ i, F.O0 i ≠ none → i = 0) → Rep F n st a w → Rep F n st' a w
theorem Ent.refl (st : St) : Ent st st := fun _ _ _ _ _ h => h
theorem Ent.trans {a b c : St} (h : Ent a b) (h' : Ent b c) : Ent a c := fun F n x w h0 r => h' F n x w h0 (h F n x w h0 r)

/-- On with less known. -/
inductive GOES (K : St → Prop) (s : St) : Prop
  | mk (s' : St) (h : Ent s s') (k : K s') : GOES K s
@[congr] theorem GOES_congr {K : St → Prop} {s s' : St} {p00 : Prop} (_h00 : (True ∧ True) = p00) (h : s = s') : GOES K s = GOES K s' := by rw [h]
theorem GO {K : St → Prop} {s : St} (h : K s) : GOES K s := ⟨s, .refl s, h⟩
theorem GOES.ent {K : St → Prop} {s s' : St} (h : Ent s s') (k : GOES K s') : GOES K s := by
  obtain ⟨t, h1, h2⟩ := k; exact ⟨t, h.trans h1, h2⟩
def sq (b : Bool) (K : St → Prop) (s : St) : Prop := match b with
  | true => GOES K s
  | false => K s
@[congr] theorem sq_congr {b b' : Bool} {K : St → Prop} {s : St} {p00 : Prop} (_h00 : (True ∧ True) = p00) (h : b = b') : sq b K s = sq b' K s := by rw [h]
theorem sq_mono {b : Bool} {K K' : St → Prop} {s : St} (m : ∀ s, K s → K' s) (h : sq b K s) : sq b K' s := by
  cases b
  · exact m _ h
  · obtain ⟨t, h1, h2⟩ := h; exact ⟨t, h1, m _ h2⟩
theorem sq_of {b : Bool} {K : St → Prop} {s : St} (h : K s) : sq b K s := by
  cases b
  · exact h
  · exact GO h
/-- Is it a call of a function? -/
def opCall : Op → Bool
  | .call ⟨.value _, _, _⟩ => true
  | _ => false
def callNext : List Oper → Bool
  | [] => false
  | o :: _ => opCall o.op
/-- In text order. -/
def evText (P : Program) (T : Nat → TI) (ops : List Oper) : List Oper → St → (St → Prop) → Prop
  | [], st, K => K st
  | o :: r, st, K => evAt P T ops none false false (some o) st fun s => NS s fun s => sq (callNext r) (fun s => evText P T ops r s K) s

section
variable {P : Program} {T : Nat → TI} {F : Fr} {st : St} {a : Act} {w : World}

theorem VIF_prop {b : Bool} {A B : Prop} (h : VIF b A B) : if b = true then A else B := by
  cases b
  · simpa using h.2 rfl
  · simpa using h.1 rfl

theorem evG_spec (ops : Array Oper) {n : Nat} {o : Oper} {A B : Prop} (R : Rep F n st a w) (hn : ∀ j t, gd ops.toList j = some t → t < n) (h : evG st ops.toList o.guard A B) :
    (Region.wanted o (yielded ops a.tmps) = true ∧ A) ∨ (Region.wanted o (yielded ops a.tmps) = false ∧ B) := by
  obtain ⟨φ, H, hr⟩ := R.rep
  unfold Region.wanted
  unfold evG at h
  split at h
  · exact .inl ⟨by simp [*], h⟩
  · rename_i j want hg
    simp only [hg]
    have hgd : (ops[j]?).bind (fun x => x.dst) = gd ops.toList j := by simp [gd]
    unfold yielded
    rw [hgd]
    generalize ht : gd ops.toList j = dt at h ⊢
    cases dt with
    | none => exact .inr ⟨by simp, h⟩
    | some t =>
      have hlt : t < a.tmps.size := by rw [R.size]; exact hn j t ht
      have hrt := hr t
      rw [Array.getD_eq_getD_getElem?, Array.getElem?_eq_getElem hlt] at hrt
      simp only [Option.getD_some] at hrt
      simp only [Option.bind_some, Array.getElem?_eq_getElem hlt, gS] at h ⊢
      generalize st.regs t = x at h hrt
      generalize a.tmps[t] = y at hrt ⊢
      unfold gV at h
      split at h
      · rename_i b
        have := inv_pr hrt
        rw [this]
        have h' := VIF_prop h
        cases b <;> cases want <;> simp_all
      · refine .inr ⟨?_, h⟩
        cases hrt with
        | rd r => cases r
        | tu hs hr => rfl
      · exact h.elim

theorem evAt_sound (hT : TabOk P T) (hE : ∀ t e, (T t).k = .slice e → (T e).k.known = true) {ops : Array Oper} {n i : Nat} {im : Option Bool} {sp q : Bool} {K : St → Prop} {next : Act → World → Prop} {Q : Exit → Act → World → Prop}
    (h : evAt P T ops.toList im sp q ops[i]? st K) (R : Rep F n st a w) (hn : ∀ j t, gd ops.toList j = some t → t < n) (hnext : ∀ st' a' w', Rep F n st' a' w' → K st' → next a' w') : wpOp P ops Q i next a w := by
  unfold wpOp
  cases ho : ops[i]? with
  | none => rw [ho] at h; exact hnext _ _ _ R h
  | some o =>
    rw [ho] at h
    have hd : ∀ x, o.dst = some x → x < n := fun x hx => hn i x (by simp [gd, ho, hx])
    rcases evG_spec ops R hn h with ⟨h1, h2⟩ | ⟨h1, h2⟩
    · simp only [h1, if_true]
      exact .inl (evOp_sound hT hE h2.2 R hd fun st' a' w' R' k => hnext _ _ _ R' ((SPd_iff ..).1 (qK_to k)))
    · simp only [h1, Bool.false_eq_true, if_false]
      obtain ⟨hs, hdf, φ, H, hr⟩ := R
      exact hnext _ _ _ (Rep.put hs hdf H hr rfl rfl rfl rfl hd (.tu (by simp) (by simp))) h2

theorem evText_sound (hT : TabOk P T) (hE : ∀ t e, (T t).k = .slice e → (T e).k.known = true) (hF : ∀ i, F.O0 i ≠ none → i = 0) {ops : Array Oper} {n : Nat} {K : St → Prop} {Q : Exit → Act → World → Prop}
    (hn : ∀ j t, gd ops.toList j = some t → t < n) (hQ : ∀ st' a' w', Rep F n st' a' w' → K st' → Q .normal a' w') :
    ∀ (k : Nat) (st : St) (a : Act) (w : World), evText P T ops.toList (ops.toList.drop k) st K → Rep F n st a w → wpOps P ops Q (List.range' k (ops.size - k)) a w := by
  intro k
  generalize hm : ops.size - k = m
  induction m generalizing k with
  | zero =>
    intro st a w h R
    rw [List.drop_of_length_le (by simp; omega)] at h
    exact hQ _ _ _ R h
  | succ m ih =>
    intro st a w h R
    have hk : k < ops.toList.length := by simp; omega
    rw [List.drop_eq_getElem_cons hk] at h
    simp only [List.range'_succ, wpOps_cons]
    have hk' : k < ops.size := by simpa using hk
    have : ops[k]? = some (ops.toList[k]) := by simp [hk']
    refine evAt_sound hT hE (im := none) (sp := false) (q := false) (K := fun s => sq (callNext (ops.toList.drop (k + 1))) (fun s => evText P T ops.toList (ops.toList.drop (k + 1)) s K) s) ?_ R hn fun st' a' w' R' h' => ?_
    rotate_left
    · cases hb : callNext (ops.toList.drop (k + 1)) with
      | false => rw [hb] at h'; exact ih (k + 1) (by omega) st' a' w' h' R'
      | true =>
        rw [hb] at h'
        obtain ⟨s', he, h3⟩ := h'
        exact ih (k + 1) (by omega) s' a' w' h3 (he F n a' w' hF R')
    rw [this]; exact h

/-- In any order. -/
def evAny (P : Program) (T : Nat → TI) (md : Region.Mode) (ops : Array Oper) (qs : Nat → Bool) (K : St → Prop) : Nat → Array Bool → St → Prop
  | 0, listed, st => Region.ready md ops listed = [] ∧ K st
  | f + 1, listed, st => (Region.ready md ops listed = [] → K st) ∧
      ∀ i ∈ Region.ready md ops listed, evAt P T ops.toList none false (qs i) ops[i]? st (evAny P T md ops qs K f (listed.setIfInBounds i true))

theorem evAny_sound (hT : TabOk P T) (hE : ∀ t e, (T t).k = .slice e → (T e).k.known = true) {md : Region.Mode} {ops : Array Oper} {qs : Nat → Bool} {n : Nat} {K : St → Prop} {Q : Exit → Act → World → Prop}
    (hn : ∀ j t, gd ops.toList j = some t → t < n) (hQ : ∀ st' a' w', Rep F n st' a' w' → K st' → Q .normal a' w') :
    ∀ (f : Nat) (listed : Array Bool) (st : St) (a : Act) (w : World), evAny P T md ops qs K f listed st → Rep F n st a w → wpAny P md ops Q f listed a w := by
  intro f
  induction f with
  | zero => exact fun listed st a w h R => ⟨h.1, hQ _ _ _ R h.2⟩
  | succ f ih =>
    exact fun listed st a w h R => ⟨fun h0 => hQ _ _ _ R (h.1 h0), fun i hi =>
      evAt_sound hT hE (h.2 i hi) R hn fun st' a' w' R' h' => ih _ st' a' w' h' R'⟩

/-- Do two states agree in what an operation looks at? -/
def Agree (ops : Array Oper) (o : Oper) (im : Bool) (st s : St) : Prop :=
  (∀ t ∈ o.looksAt ops, s.regs t = st.regs t) ∧ (im = true ∨ reads o.op = false ∨ s.objs = st.objs)

theorem evG_same {ops : Array Oper} {o : Oper} {s : St} {A B : Prop} (h : ∀ t ∈ o.looksAt ops, s.regs t = st.regs t) : evG s ops.toList o.guard A B = evG st ops.toList o.guard A B := by
  unfold evG
  split
  · rfl
  · rename_i j want hg
    generalize ht : gd ops.toList j = dt
    have hgd : (ops[j]?).bind (fun x => x.dst) = dt := by rw [← ht]; simp [gd]
    cases dt with
    | none => rfl
    | some t =>
      have : s.regs t = st.regs t := h t (by simp [Oper.looksAt, hg, hgd])
      simp only [gS, this]

theorem looks_op {ops : Array Oper} {o : Oper} {t : Nat} (h : (Operand.tmp t) ∈ o.op.operands) : t ∈ o.looksAt ops :=
  List.mem_append_left _ (List.mem_filterMap.2 ⟨.tmp t, by simpa using h, rfl⟩)

theorem gS_mono {t : Option Nat} {b : Bool} {A B A' B' : Prop} (ma : A → A') (mb : B → B') (h : gS st t b A B) : gS st t b A' B' := by
  cases t with
  | none => exact mb h
  | some t =>
    simp only [gS] at *
    generalize st.regs t = x at h ⊢
    unfold gV at *
    split at h
    · exact h.mono ma mb
    · exact mb h
    · exact h

theorem evG_mono {ops : List Oper} {g : Option (Nat × Bool)} {A B A' B' : Prop} (ma : A → A') (mb : B → B') (h : evG st ops g A B) : evG st ops g A' B' := by
  unfold evG at *
  split at h
  · exact ma h
  · exact gS_mono ma mb h

theorem VIF_cases {b : Bool} {A B : Prop} (h : VIF b A B) : (A ∧ ∀ A' B' : Prop, A' → VIF b A' B') ∨ (B ∧ ∀ A' B' : Prop, B' → VIF b A' B') := by
  cases b
  · exact .inr ⟨h.2 rfl, fun A' B' k => by rw [VIF_false]; exact k⟩
  · exact .inl ⟨h.1 rfl, fun A' B' k => by rw [VIF_true]; exact k⟩

theorem gV_cases {x : AV} {b : Bool} {A B : Prop} (h : gV x b A B) : (A ∧ ∀ A' B' : Prop, A' → gV x b A' B') ∨ (B ∧ ∀ A' B' : Prop, B' → gV x b A' B') := by
  unfold gV at *
  split at h
  · exact VIF_cases h
  · exact .inr ⟨h, fun A' B' k => k⟩
  · exact h.elim

theorem evG_cases {ops : List Oper} {g : Option (Nat × Bool)} {A B : Prop} (h : evG st ops g A B) : (A ∧ ∀ A' B' : Prop, A' → evG st ops g A' B') ∨ (B ∧ ∀ A' B' : Prop, B' → evG st ops g A' B') := by
  unfold evG at *
  split at h
  · exact .inl ⟨h, fun A' B' k => k⟩
  · rename_i j want
    generalize gd ops j = dt at h ⊢
    cases dt with
    | none => exact .inr ⟨h, fun A' B' k => k⟩
    | some t =>
      simp only [gS] at *
      generalize st.regs t = x at h ⊢
      exact gV_cases h

theorem at_simple {ops : Array Oper} {o : Oper} {im : Bool} {J : St → Prop} (hs : simple o.op = true) (h : evAt P T ops.toList (some im) false false (some o) st J) :
    ∃ v, J (st.put o.dst v) ∧ ∀ s, Agree ops o im st s → ∀ K' : St → Prop, K' (s.put o.dst v) → evAt P T ops.toList none false false (some o) s K' := by
  rcases evG_cases h with ⟨h1, h2⟩ | ⟨h1, h2⟩
  · obtain ⟨v, g1, g2⟩ := simple_spec hs h1.1 h1.2
    refine ⟨v, g1, fun s hag K' k => ?_⟩
    rw [evAt_some]
    rw [evG_same hag.1]
    refine h2 _ _ ⟨trivial, (g2 s (fun x hx => ?_) hag.2).2 _ k⟩
    cases x with
    | tmp t => exact hag.1 t (looks_op hx)
    | _ => rfl
  · refine ⟨_, h1, fun s hag K' k => ?_⟩
    rw [evAt_some]
    rw [evG_same hag.1]
    exact h2 _ _ k

/-- Another operation, that has nothing to do with slot d. -/
theorem at_put {ops : Array Oper} {o : Oper} {i : Option Nat} {v : AV} {q : Bool} {K K' : St → Prop} (h1 : ∀ d, i = some d → d ∉ o.looksAt ops) (h2 : ∀ d, i = some d → o.dst ≠ some d)
    (m : ∀ s, (∀ t, o.dst ≠ some t → s.regs t = st.regs t) → (calm o.op = true ∨ q = true → s.objs = st.objs) → K (s.put i v) → K' s) (h : evAt P T ops.toList none false q (some o) (st.put i v) K) :
    evAt P T ops.toList none false q (some o) st K' := by
  rw [evAt_some] at *
  have hsame : ∀ t ∈ o.looksAt ops, (st.put i v).regs t = st.regs t := fun t ht => by
    cases i with
    | none => rfl
    | some d => exact upd_ne' _ _ (fun e => h1 d rfl (e ▸ ht))
  rw [evG_same hsame] at h
  refine evG_mono (fun h => ⟨trivial, ?_⟩) (fun h => ?_) h
  · refine evOp_put (fun t ht hm => h1 t ht (looks_op hm)) h2 (fun s ha hk => ?_) h.2
    obtain ⟨u, O, U, rfl, hc⟩ := ha
    have hregs : ∀ t, o.dst ≠ some t → (st.to o.dst u O U).regs t = st.regs t := fun t ht => by
      generalize o.dst = d at ht ⊢
      cases d with
      | none => rfl
      | some d => exact upd_ne' _ _ (fun e => ht (by rw [e]))
    cases q with
    | false => exact m _ hregs (fun h => h.elim (fun h => (hc h).1) (fun h => by cases h)) hk
    | true =>
      have ho : (st.to o.dst u O U).objs = st.objs := by
        have := hk.1
        rw [put_objs, put_objs] at this
        exact this
      exact ⟨ho, m _ hregs (fun _ => ho) hk.2⟩
  · refine m _ (fun t ht => ?_) (fun _ => put_objs ..) (by rw [← put_comm st v _ h2]; exact h)
    generalize o.dst = d at ht ⊢
    cases d with
    | none => rfl
    | some d => exact upd_ne' _ _ (fun e => ht (by rw [e]))

theorem evAt_mono {ops : List Oper} {im : Option Bool} {q : Bool} {x : Option Oper} {K K' : St → Prop} (m : ∀ s, K s → K' s) (h : evAt P T ops im false q x st K) : evAt P T ops im false q x st K' := by
  cases x with
  | none => exact m _ h
  | some o => exact evG_mono (fun h => ⟨h.1, evOp_mono (fun s => qK_mono (m s)) h.2⟩) (m _) h

theorem evAt_sp {ops : List Oper} {im : Option Bool} {sp q : Bool} {x : Option Oper} {K : St → Prop} (h : evAt P T ops im sp q x st K) : evAt P T ops im false q x st K := by
  cases x with
  | none => exact h
  | some o => exact evG_mono (fun h => ⟨h.1, evOp_mono (fun s => qK_mono fun k => (SPd_iff ..).1 k) h.2⟩) id h

theorem evAt_im {ops : List Oper} {im : Option Bool} {q : Bool} {x : Option Oper} {K : St → Prop} (h : evAt P T ops im false q x st K) : evAt P T ops none false q x st K := by
  cases x with
  | none => exact h
  | some o => exact evG_mono (fun h => ⟨trivial, h.2⟩) id h

theorem evAt_q {ops : List Oper} {im : Option Bool} {q : Bool} {x : Option Oper} {K : St → Prop} (h : evAt P T ops im false q x st K) : evAt P T ops im false false x st K := by
  cases x with
  | none => exact h
  | some o => exact evG_mono (fun h => ⟨h.1, evOp_mono (fun s k => qK_to k) h.2⟩) id h

/-- What comes behind an operation, through others. -/
inductive Reach (md : Region.Mode) (ops : Array Oper) (i : Nat) : Nat → Prop
  | one {j : Nat} {o : Oper} {e : Edge} (h : ops[j]? = some o) (he : e ∈ o.after) (hb : Region.binds md e = true) (hi : e.on = i) : Reach md ops i j
  | more {j : Nat} {o : Oper} {e : Edge} (h : ops[j]? = some o) (he : e ∈ o.after) (hb : Region.binds md e = true) (hi : Reach md ops i e.on) : Reach md ops i j

/-- Whatever has come up, all that it waits for has. -/
def Down (md : Region.Mode) (ops : Array Oper) (listed : Array Bool) : Prop :=
  ∀ j o, ops[j]? = some o → listed.getD j false = true → ∀ e ∈ o.after, Region.binds md e = true → listed.getD e.on false = true

theorem Down.reach {md : Region.Mode} {ops : Array Oper} {listed : Array Bool} (hd : Down md ops listed) {i j : Nat} (hi : listed.getD i false = false) (h : Reach md ops i j) :
    ¬ ∀ o, ops[j]? = some o → ∀ e ∈ o.after, Region.binds md e = true → listed.getD e.on false = true := by
  induction h with
  | one h he hb hi' =>
    intro hall
    have := hall _ h _ he hb
    rw [hi', hi] at this; cases this
  | more h he hb hr ih =>
    intro hall
    have := hall _ h _ he hb
    exact ih fun o ho e he' hb' => hd _ o ho this e he' hb'

theorem Down.step {md : Region.Mode} {ops : Array Oper} {listed : Array Bool} (hd : Down md ops listed) {i : Nat} (hr : i ∈ Region.ready md ops listed) : Down md ops (listed.setIfInBounds i true) := by
  intro j o ho hj e he hb
  obtain ⟨_, oi, hoi, hall⟩ := mem_ready.1 hr
  by_cases hij : i = j
  · subst hij
    rw [hoi] at ho; cases ho
    exact getD_set_true (hall e he hb)
  · rw [getD_set_ne false hij] at hj
    exact getD_set_true (hd j o ho hj e he hb)

def succs (md : Region.Mode) (ops : Array Oper) (i : Nat) : List Nat :=
  (List.range ops.size).foldl (fun acc j => match ops[j]? with
    | some o => if o.after.any (fun e => Region.binds md e && (e.on == i || acc.contains e.on)) then j :: acc else acc
    | none => acc) []

theorem succs_reach {md : Region.Mode} {ops : Array Oper} {i j : Nat} (h : (succs md ops i).contains j = true) : Reach md ops i j := by
  have key : ∀ (l : List Nat) (acc : List Nat), (∀ k ∈ acc, Reach md ops i k) → ∀ k ∈ l.foldl (fun acc j => match ops[j]? with
      | some o => if o.after.any (fun e => Region.binds md e && (e.on == i || acc.contains e.on)) then j :: acc else acc
      | none => acc) acc, Reach md ops i k := by
    intro l
    induction l with
    | nil => exact fun acc h => h
    | cons x r ih =>
      intro acc hacc
      simp only [List.foldl_cons]
      refine ih _ ?_
      split
      · rename_i o ho
        split
        · rename_i hany
          obtain ⟨e, he, hb⟩ := Array.any_eq_true'.1 hany
          simp only [Bool.and_eq_true, Bool.or_eq_true, beq_iff_eq] at hb
          intro k hk
          cases hk with
          | head =>
            rcases hb.2 with h | h
            · exact .one ho he hb.1 h
            · exact .more ho he hb.1 (hacc _ (by simpa using h))
          | tail _ hk => exact hacc k hk
        · exact hacc
      · exact hacc
  exact key (List.range ops.size) [] (by simp) j (List.contains_iff_mem.1 h)

theorem evAny_first {md : Region.Mode} {ops : Array Oper} {qs : Nat → Bool} {K : St → Prop} {i : Nat} {oi : Oper} {im : Bool} {v : AV} {st0 : St} (hi : ops[i]? = some oi) (hq : qs i = false)
    (hst : ∀ s, Agree ops oi im st0 s → ∀ K' : St → Prop, K' (s.put oi.dst v) → evAt P T ops.toList none false false (some oi) s K') :
    ∀ (f : Nat) (listed : Array Bool) (st : St),
      (∀ j oj, ops[j]? = some oj → j ≠ i → listed.getD j true = false → ¬ Reach md ops i j → oi.apart ops oj = true ∧ (im = true ∨ reads oi.op = false ∨ calm oj.op = true ∨ qs j = true)) →
      Down md ops listed →
      i ∈ Region.ready md ops listed → Agree ops oi im st0 st → evAny P T md ops qs K f (listed.setIfInBounds i true) (st.put oi.dst v) → evAny P T md ops qs K (f + 1) listed st := by
  intro f
  induction f with
  | zero =>
    intro listed st _ _ hr hag H
    refine ⟨fun h => (by rw [h] at hr; cases hr), fun j hj => ?_⟩
    by_cases hji : j = i
    · subst hji; rw [hi, hq]; exact hst _ hag _ H
    · have := ready_mono hj hji
      rw [H.1] at this
      cases this
  | succ f ih =>
    intro listed st hfree hdown hr hag H
    refine ⟨fun h => (by rw [h] at hr; cases hr), fun j hj => ?_⟩
    by_cases hji : j = i
    · subst hji; rw [hi, hq]; exact hst _ hag _ H
    · have h1 := H.2 j (ready_mono hj hji)
      obtain ⟨hjun, oj, hoj, hall⟩ := mem_ready.1 hj
      have hi0 : listed.getD i false = false := by
        have h0 := (mem_ready.1 hr).1
        rcases Nat.lt_or_ge i listed.size with h' | h'
        · simp [h'] at h0 ⊢; exact h0
        · simp [Array.getElem?_eq_none h']
      have hnot : ¬ Reach md ops i j := fun hR => hdown.reach hi0 hR fun o ho e he hb => by
        rw [hoj] at ho; cases ho
        exact hall e he hb
      obtain ⟨hap, hcalm⟩ := hfree j oj hoj hji hjun hnot
      obtain ⟨a1, a2, a3⟩ := Oper.apart_spec hap
      have hfree' : ∀ k ok, ops[k]? = some ok → k ≠ i → (listed.setIfInBounds j true).getD k true = false →
          ¬ Reach md ops i k → oi.apart ops ok = true ∧ (im = true ∨ reads oi.op = false ∨ calm ok.op = true ∨ qs k = true) := fun k ok hk hki hun hno => by
        refine hfree k ok hk hki ?_ hno
        by_cases hjk : j = k
        · subst hjk; exact hjun
        · rw [getD_set_ne true hjk] at hun; exact hun
      rw [hoj] at h1 ⊢
      refine at_put a1 (fun d hd => a2 d hd) (fun s hs ho hk => ?_) h1
      refine ih (listed.setIfInBounds j true) s hfree' (hdown.step hj) (ready_mono hr (Ne.symm hji)) ⟨fun t ht => ?_, ?_⟩ (by rw [Array.setIfInBounds_comm _ _ hji]; exact hk)
      · rw [hs t (fun e => a3 t e ht)]; exact hag.1 t ht
      · rcases hag.2 with h | h | h
        · exact .inl h
        · exact .inr (.inl h)
        · rcases hcalm with hc | hc | hc
          · exact .inl hc
          · exact .inr (.inl hc)
          · exact .inr (.inr ((ho hc).trans h))

/-- May operation i be done ahead of all that has not come up? -/
def freeX (md : Region.Mode) (ops : Array Oper) (qs : Nat → Bool) (listed : Array Bool) (i : Nat) (im : Bool) : Bool :=
  match ops[i]? with
  | none => false
  | some oi => !qs i && simple oi.op && (List.range ops.size).all fun j => j == i || listed.getD j true || match ops[j]? with
      | some oj => oj.after.any (fun e => Region.binds md e && e.on == i) || (oi.apart ops oj && (im || !reads oi.op || calm oj.op || qs j)) || (succs md ops i).contains j
      | none => true

theorem freeX_spec {md : Region.Mode} {ops : Array Oper} {qs : Nat → Bool} {listed : Array Bool} {i : Nat} {im : Bool} (h : freeX md ops qs listed i im = true) : ∃ oi, ops[i]? = some oi ∧ qs i = false ∧ simple oi.op = true ∧
    ∀ j oj, ops[j]? = some oj → j ≠ i → listed.getD j true = false → ¬ Reach md ops i j → oi.apart ops oj = true ∧ (im = true ∨ reads oi.op = false ∨ calm oj.op = true ∨ qs j = true) := by
  unfold freeX at h
  split at h
  · cases h
  · rename_i oi hi
    simp only [Bool.and_eq_true, Bool.not_eq_true', List.all_eq_true, List.mem_range] at h
    refine ⟨oi, hi, h.1.1, h.1.2, fun j oj hj hne hun hno => ?_⟩
    have h1 := h.2 j (Array.getElem?_eq_some_iff.1 hj).1
    simp only [hj, Bool.or_eq_true, beq_iff_eq, hne, false_or, hun, Bool.false_eq_true] at h1
    rcases h1 with (h1 | h1) | h1
    · obtain ⟨e, he, hb⟩ := Array.any_eq_true'.1 h1
      simp only [Bool.and_eq_true, beq_iff_eq] at hb
      exact absurd (.one hj he hb.1 hb.2) hno
    · simp only [Bool.and_eq_true, Bool.or_eq_true, Bool.not_eq_true'] at h1
      refine ⟨h1.1, ?_⟩
      rcases h1.2 with ((h | h) | h) | h
      · exact .inl h
      · exact .inr (.inl h)
      · exact .inr (.inr (.inl h))
      · exact .inr (.inr (.inr h))
    · exact absurd (succs_reach h1) hno

def quiet (l : Ord) (i : Nat) : Bool := l.any fun e => e.1 == i && e.2.2.2
/-- Is the list an order that stands for all orders? -/
def eager (md : Region.Mode) (ops : Array Oper) (qs : Nat → Bool) : Ord → Array Bool → Bool
  | [], listed => (Region.ready md ops listed).isEmpty
  | (i, im, _, q) :: r, listed => (qs i == q) && (match im with
      | none => Region.ready md ops listed == [i]
      | some im => (Region.ready md ops listed).contains i && freeX md ops qs listed i im) && eager md ops qs r (listed.setIfInBounds i true)

theorem eager_sound {md : Region.Mode} {ops : Array Oper} {qs : Nat → Bool} {K : St → Prop} : ∀ (l : Ord) (f : Nat) (listed : Array Bool) (st : St), eager md ops qs l listed = true → Down md ops listed → l.length ≤ f →
    evSel P T ops.toList l st K → evAny P T md ops qs K f listed st := by
  intro l
  induction l with
  | nil =>
    intro f listed st he _ _ h
    have hr : Region.ready md ops listed = [] := by simpa [eager] using he
    cases f with
    | zero => exact ⟨hr, h⟩
    | succ f => exact ⟨fun _ => h, by rw [hr]; simp⟩
  | cons x r ih =>
    intro f listed st he hdown hl h
    obtain ⟨i, im, sp, q⟩ := x
    cases f with
    | zero => simp at hl
    | succ f =>
      simp only [eager, Bool.and_eq_true, beq_iff_eq] at he
      have hl' : r.length ≤ f := by simpa using hl
      have hin : i ∈ Region.ready md ops listed := by
        cases im with
        | none =>
          have hr : Region.ready md ops listed = [i] := by simpa using he.1.2
          rw [hr]; simp
        | some im =>
          have he2 := he.1.2
          simp only [Bool.and_eq_true] at he2
          simpa using he2.1
      have key := evAt_mono (K' := evAny P T md ops qs K f (listed.setIfInBounds i true)) (fun s hs => ih f _ s he.2 (hdown.step hin) hl' hs) (evAt_sp (show evAt P T ops.toList im sp q ops.toList[i]? st _ from h))
      have hge : ops.toList[i]? = ops[i]? := by simp
      rw [hge] at key
      cases im with
      | none =>
        have hr : Region.ready md ops listed = [i] := by simpa using he.1.2
        refine ⟨by rw [hr]; simp, fun j hj => ?_⟩
        rw [hr] at hj
        simp only [List.mem_singleton] at hj
        subst hj
        rw [he.1.1]
        exact key
      | some im =>
        have he2 := he.1.2
        simp only [Bool.and_eq_true] at he2
        obtain ⟨oi, hi, hq, hs, hfree⟩ := freeX_spec he2.2
        rw [hi] at key
        have hq' : q = false := he.1.1.symm.trans hq
        subst hq'
        obtain ⟨v, h1, h2⟩ := at_simple hs key
        exact evAny_first hi hq h2 f listed st hfree hdown hin ⟨fun _ _ => rfl, .inr (.inr rfl)⟩ h1
end
end Go.Vc
