/- Code, and functions. Part of a framework of abstract values and states, over the model, for proofs of functions; it has no conditions of its own. -/
import Derived.Test.YtpipfaegkgakiaaVcL
set_option linter.all false
/-! Code, and functions. -/
namespace Go.Vc

def exThen (next : St → Prop) (Q : Exit → St → Prop) : Exit → St → Prop
  | .normal, s => next s
  | e, s => Q e s
def exBlk (id : Nat) (Q : Exit → St → Prop) : Exit → St → Prop
  | .exit i, s => if i = id then Q .normal s else Q (.exit i) s
  | e, s => Q e s

/-- A loop: states it comes by, each with its measure. -/
def LOOP (body : (Exit → St → Prop) → St → Prop) (Q : Exit → St → Prop) (st : St) : Prop :=
  ∃ (ι : Type) (inv : ι → St) (μ : ι → Nat), (∃ x, Ent st (inv x)) ∧ ∀ x, body (exThen (fun s => ∃ y, Ent s (inv y) ∧ μ y < μ x) Q) (inv x)

@[congr] theorem LOOP_congr {body : (Exit → St → Prop) → St → Prop} {Q : Exit → St → Prop} {st st' : St} {p00 : Prop} (_h00 : (True ∧ True) = p00) (h : st = st') : LOOP body Q st = LOOP body Q st' := by rw [h]
/-- How a function's regions are gone through: by what order. -/
abbrev Ords := Nat → Option (Ord)

def evRegion (P : Program) (T : Nat → TI) (ops : List Oper) : Option (Ord) → St → (St → Prop) → Prop
  | some l, st, K => evSel P T ops l st K
  | none, st, K => evText P T ops ops st K

/-- Does it end in a branch? -/
def endsCond : Code → Bool
  | .cond _ _ _ => true
  | .loop _ => true
  | .seq _ y => endsCond y
  | .block _ c => endsCond c
  | _ => false
@[congr] theorem evRegion_congr {P : Program} {T : Nat → TI} {ops ops' : List Oper} {l l' : Option Ord} {st : St} {K : St → Prop} {p00 : Prop} (_h00 : (True ∧ True) = p00) (h : ops = ops') (h2 : l = l') :
    evRegion P T ops l st K = evRegion P T ops' l' st K := by rw [h, h2]
def vc (P : Program) (T : Nat → TI) (G : Ords) : Code → (Exit → St → Prop) → St → Prop
  | .skip, Q, st => Q .normal st
  | .label _, Q, st => Q .normal st
  | .seq x y, Q, st => vc P T G x (exThen (fun s => sq (endsCond x) (fun s => vc P T G y Q s) s) Q) st
  | .cond c x y, Q, st => hBool (st.ev c) fun b => VIF b (vc P T G x Q st) (vc P T G y Q st)
  | .block id c, Q, st => vc P T G c (exBlk id Q) st
  | .exit id, Q, st => Q (.exit id) st
  | .ret, Q, st => Q .ret st
  | .loop c, Q, st => LOOP (fun Q s => vc P T G c Q s) Q st
  | .region id ops _, Q, st => evRegion P T ops.toList (G id) st fun s => Q .normal s
  | _, _, _ => False

/-- Does it write but slots below n; are its orders right? -/
def okRegion (n : Nat) (ops : Array Oper) (draw : Bool) (l : Option (Ord)) : Bool :=
  ops.toList.all (fun o => match o.dst with | some d => decide (d < n) | none => true) &&
    match draw, l with
    | false, none => true
    | false, some l => l.map (·.1) == List.range ops.size
    | true, some l => decide (l.length ≤ ops.size) && eager .any ops (quiet l) l (Array.replicate ops.size false)
    | true, none => false
def okCode (n : Nat) (G : Ords) : Code → Bool
  | .skip | .label _ | .exit _ | .ret => true
  | .seq x y => okCode n G x && okCode n G y
  | .cond _ x y => okCode n G x && okCode n G y
  | .block _ c => okCode n G c
  | .loop c => okCode n G c
  | .region id ops d => okRegion n ops d (G id)
  | _ => false

section
variable {P : Program} {T : Nat → TI} {F : Fr} {n : Nat}

theorem least {S : Nat → Prop} (h : ∃ k, S k) : ∃ k, S k ∧ ∀ j, S j → k ≤ j := by
  obtain ⟨k, hk⟩ := h
  induction k using Nat.strongRecOn with
  | _ k ih =>
    by_cases h : ∃ j, j < k ∧ S j
    · obtain ⟨j, h1, h2⟩ := h; exact ih j h1 h2
    · exact ⟨k, hk, fun j hj => by
        rcases Nat.lt_or_ge j k with h' | h'
        · exact absurd ⟨j, h', hj⟩ h
        · exact h'⟩

/-- A loop, of states that are told by an index. -/
theorem wp_loop_ix {c : Code} {Q : Exit → Act → World → Prop} {a : Act} {w : World} {ι : Type} (J : ι → Act → World → Prop) (m : ι → Nat) {x0 : ι} (h0 : J x0 a w)
    (round : ∀ x a w, J x a w → c.wp P (Exit.then (fun a' w' => ∃ y, J y a' w' ∧ m y < m x) Q) a w) : (Code.loop c).wp P Q a w := by
  have hmin : ∀ a w, (∃ x, J x a w) → ∃ k, (∃ x, J x a w ∧ m x = k) ∧ ∀ j, (∃ x, J x a w ∧ m x = j) → k ≤ j := fun a w ⟨x, hx⟩ => least ⟨m x, x, hx, rfl⟩
  let μ : Act → World → Nat := fun a w => open Classical in if h : ∃ x, J x a w then (hmin a w h).choose else 0
  refine wp_loop (fun a w => ∃ x, J x a w) μ ⟨x0, h0⟩ fun a w hI => ?_
  have hμ : μ a w = (hmin a w hI).choose := by simp only [μ]; exact dif_pos hI
  obtain ⟨⟨x, hx, hk⟩, hle⟩ := (hmin a w hI).choose_spec
  refine wp_mono (round x a w hx) fun e a' w' h => ?_
  cases e with
  | normal =>
    obtain ⟨y, hy, hlt⟩ := h
    have hI' : ∃ x, J x a' w' := ⟨y, hy⟩
    refine ⟨hI', ?_⟩
    have hμ' : μ a' w' = (hmin a' w' hI').choose := by simp only [μ]; exact dif_pos hI'
    have := (hmin a' w' hI').choose_spec.2 (m y) ⟨y, hy, rfl⟩
    rw [hμ, hμ', ← hk]
    omega
  | _ => exact h

theorem evSel_text (ops : Array Oper) {K : St → Prop} : ∀ (l : Ord) (k : Nat) (st : St), l.map (·.1) = List.range' k (ops.size - k) → evSel P T ops.toList l st K →
    evText P T ops.toList (ops.toList.drop k) st K := by
  intro l
  induction l with
  | nil =>
    intro k st hl h
    have : ops.size - k = 0 := by
      have := congrArg List.length hl
      simpa using this.symm
    rw [List.drop_of_length_le (by simp; omega)]
    exact h
  | cons x r ih =>
    intro k st hl h
    obtain ⟨i, im, sp, q⟩ := x
    have hk : 0 < ops.size - k := by
      have := congrArg List.length hl
      simp at this; omega
    obtain ⟨m, hm⟩ : ∃ m, ops.size - k = m + 1 := ⟨_, (Nat.sub_add_cancel hk).symm⟩
    rw [hm, List.range'_succ, List.map_cons, List.cons.injEq] at hl
    obtain ⟨rfl, hl⟩ := hl
    have hk' : i < ops.toList.length := by simp; omega
    rw [List.drop_eq_getElem_cons hk']
    have h' := evAt_q (evAt_im (evAt_sp (show evAt P T ops.toList im sp q ops.toList[i]? st _ from h)))
    rw [List.getElem?_eq_getElem hk'] at h'
    refine evAt_mono (fun s hs => sq_of (ih (i + 1) s ?_ hs)) h'
    rw [hl]; congr 1; omega

theorem okRegion_dst {ops : Array Oper} {d : Bool} {l : Option (Ord)} (h : okRegion n ops d l = true) : ∀ j t, gd ops.toList j = some t → t < n := by
  intro j t hj
  simp only [okRegion, Bool.and_eq_true, List.all_eq_true] at h
  unfold gd at hj
  cases ho : ops.toList[j]? with
  | none => rw [ho] at hj; cases hj
  | some o =>
    rw [ho] at hj
    have := h.1 o (List.mem_of_getElem? ho)
    simp only [Option.bind_some] at hj
    rw [hj] at this
    simpa using this

theorem region_sound (hT : TabOk P T) (hE : ∀ t e, (T t).k = .slice e → (T e).k.known = true) (hF : ∀ i, F.O0 i ≠ none → i = 0) {id : Nat} {ops : Array Oper} {d : Bool} {l : Option (Ord)} {st : St} {a : Act} {w : World}
    {K : St → Prop} {Q : Exit → Act → World → Prop} (hok : okRegion n ops d l = true) (h : evRegion P T ops.toList l st K) (R : Rep F n st a w) (hQ : ∀ st' a' w', Rep F n st' a' w' → K st' → Q .normal a' w') :
    (Code.region id ops d).wp P Q a w := by
  have hn := okRegion_dst hok
  simp only [okRegion, Bool.and_eq_true] at hok
  have text : evText P T ops.toList ops.toList st K → (Code.region id ops false).wp P Q a w := fun h => by
    refine wp_region ?_
    have := evText_sound hT hE hF (ops := ops) (n := n) (F := F) hn hQ 0 st a w (by simpa using h) R
    rw [List.range_eq_range']
    simpa using this
  cases d with
  | false =>
    cases l with
    | none => exact text h
    | some l =>
      refine text ?_
      have h2 : l.map (·.1) = List.range ops.size := by simpa using hok.2
      have := evSel_text (P := P) (T := T) ops l 0 st (by rw [h2, List.range_eq_range']; simp) h
      simpa using this
  | true =>
    cases l with
    | none => cases hok.2
    | some l =>
      have h2 := hok.2
      simp only [Bool.and_eq_true, decide_eq_true_eq] at h2
      refine wp_region_any hT.mixed ?_
      refine evAny_sound hT hE (F := F) (n := n) (K := K) hn hQ _ _ st _ _ (eager_sound l ops.size _ st h2.2 (fun j o _ hj => by simp [Array.getD_eq_getD_getElem?, Array.getElem?_replicate] at hj; split at hj <;> cases hj) h2.1 h) ?_
      exact R.of_heap rfl rfl rfl rfl

theorem vc_sound (hT : TabOk P T) (hE : ∀ t e, (T t).k = .slice e → (T e).k.known = true) (hF : ∀ i, F.O0 i ≠ none → i = 0) {G : Ords} : ∀ (c : Code) (st : St) (Q : Exit → St → Prop) (Q' : Exit → Act → World → Prop) (a : Act) (w : World),
    okCode n G c = true → vc P T G c Q st → Rep F n st a w → (∀ e st' a' w', Rep F n st' a' w' → Q e st' → Q' e a' w') → c.wp P Q' a w := by
  intro c
  induction c with
  | skip => exact fun st Q Q' a w ok h R hq => wp_skip (hq _ _ _ _ R h)
  | label l => exact fun st Q Q' a w ok h R hq => wp_label (hq _ _ _ _ R h)
  | exit id => exact fun st Q Q' a w ok h R hq => wp_exit (hq _ _ _ _ R h)
  | ret => exact fun st Q Q' a w ok h R hq => wp_ret (hq _ _ _ _ R h)
  | seq x y ihx ihy =>
    intro st Q Q' a w ok h R hq
    simp only [okCode, Bool.and_eq_true] at ok
    refine wp_seq (ihx st _ _ a w ok.1 h R fun e st' a' w' R' h' => ?_)
    cases e with
    | normal =>
      have h2 : ∃ s', Ent st' s' ∧ vc P T G y Q s' := by
        change sq (endsCond x) _ st' at h'
        cases hb : endsCond x with
        | true => rw [hb] at h'; obtain ⟨s', he, h3⟩ := h'; exact ⟨s', he, h3⟩
        | false => rw [hb] at h'; exact ⟨st', .refl _, h'⟩
      obtain ⟨s', he, h3⟩ := h2
      exact ihy s' Q Q' a' w' ok.2 h3 (he F n a' w' hF R') hq
    | _ => exact hq _ _ _ _ R' h'
  | cond c x y ihx ihy =>
    intro st Q Q' a w ok h R hq
    simp only [okCode, Bool.and_eq_true] at ok
    simp only [vc] at h
    obtain ⟨b, hb, h⟩ := hBool_inv h
    have hc : a.eval c = .bool b := by
      obtain ⟨φ, H, hr⟩ := R.rep
      have := rv_ev (a := a) hr c
      rw [hb] at this
      exact inv_pr this
    exact wp_cond_split hc (fun hb => ihx st Q Q' a w ok.1 (h.1 hb) R hq) (fun hb => ihy st Q Q' a w ok.2 (h.2 hb) R hq)
  | block id c ih =>
    intro st Q Q' a w ok h R hq
    refine wp_block (ih st _ _ a w ok h R fun e st' a' w' R' h' => ?_)
    cases e with
    | exit i =>
      simp only [exBlk, Exit.inBlock] at *
      split
      · rename_i hi; rw [if_pos hi] at h'; exact hq _ _ _ _ R' h'
      · rename_i hi; rw [if_neg hi] at h'; exact hq _ _ _ _ R' h'
    | _ => exact hq _ _ _ _ R' h'
  | loop c ih =>
    intro st Q Q' a w ok h R hq
    obtain ⟨ι, inv, μ, ⟨x0, h0⟩, hbody⟩ := h
    refine wp_loop_ix (fun x a w => Rep F n (inv x) a w) μ (h0 _ _ _ _ hF R) fun x a w R => ?_
    refine ih (inv x) _ _ a w ok (hbody x) R fun e st' a' w' R' h' => ?_
    cases e with
    | normal => obtain ⟨y, hy, hlt⟩ := h'; exact ⟨y, hy _ _ _ _ hF R', hlt⟩
    | _ => exact hq _ _ _ _ R' h'
  | region id ops d =>
    intro st Q Q' a w ok h R hq
    exact region_sound hT hE hF ok h R fun st' a' w' R' h' => hq _ _ _ _ R' h'
  | _ => intro st Q Q' a w ok; cases ok

theorem evAt_mono' {ops : List Oper} {im : Option Bool} {sp q : Bool} {x : Option Oper} {st : St} {K K' : St → Prop} (m : ∀ s, K s → K' s) (h : evAt P T ops im sp q x st K) : evAt P T ops im sp q x st K' := by
  cases x with
  | none => exact m _ h
  | some o => exact evG_mono (fun h => ⟨h.1, evOp_mono (fun s => qK_mono fun k => (SPd_iff ..).2 (m _ ((SPd_iff ..).1 k))) h.2⟩) (m _) h
theorem evSel_mono {ops : List Oper} {l : Ord} {st : St} {K K' : St → Prop} (m : ∀ s, K s → K' s) (h : evSel P T ops l st K) : evSel P T ops l st K' := by
  induction l generalizing st with
  | nil => exact m _ h
  | cons x r ih => obtain ⟨i, im, sp, q⟩ := x; exact evAt_mono' (fun s hs => ih hs) h
theorem evText_mono {ops l : List Oper} {st : St} {K K' : St → Prop} (m : ∀ s, K s → K' s) (h : evText P T ops l st K) : evText P T ops l st K' := by
  induction l generalizing st with
  | nil => exact m _ h
  | cons x r ih => exact evAt_mono' (fun s hs => sq_mono (b := callNext r) (K := fun s => evText P T ops r s K) (fun s hs => ih hs) hs) h
theorem exThen_mono {N N' : St → Prop} {Q Q' : Exit → St → Prop} (mn : ∀ s, N s → N' s) (m : ∀ e s, Q e s → Q' e s) (e : Exit) (s : St) (h : exThen N Q e s) : exThen N' Q' e s := by
  cases e with
  | normal => exact mn _ h
  | _ => exact m _ _ h
theorem vc_mono {G : Ords} : ∀ (c : Code) {st : St} {Q Q' : Exit → St → Prop} (_ : ∀ e s, Q e s → Q' e s), vc P T G c Q st → vc P T G c Q' st := by
  intro c
  induction c with
  | skip => exact fun m h => m _ _ h
  | label l => exact fun m h => m _ _ h
  | exit id => exact fun m h => m _ _ h
  | ret => exact fun m h => m _ _ h
  | seq x y ihx ihy => exact fun m h => ihx (exThen_mono (fun s => sq_mono fun s => ihy m) m) h
  | cond c x y ihx ihy =>
    intro st Q Q' m h
    simp only [vc] at h ⊢
    obtain ⟨b, hb, h⟩ := hBool_inv h
    rw [hb]
    exact VIF.mono h (ihx m) (ihy m)
  | block id c ih =>
    intro st Q Q' m h
    refine ih (fun e s h => ?_) h
    cases e with
    | exit i =>
      simp only [exBlk] at h ⊢
      split
      · rename_i hi; rw [if_pos hi] at h; exact m _ _ h
      · rename_i hi; rw [if_neg hi] at h; exact m _ _ h
    | _ => exact m _ _ h
  | loop c ih => exact fun m h => let ⟨ι, inv, μ, h0, hb⟩ := h; ⟨ι, inv, μ, h0, fun x => ih (exThen_mono (fun s h => h) m) (hb x)⟩
  | region id ops d =>
    intro st Q Q' m h
    simp only [vc] at h ⊢
    generalize G id = l at h ⊢
    cases l with
    | some l => exact evSel_mono (fun s => m _ s) h
    | none => exact evText_mono (fun s => m _ s) h
  | _ => intro st Q Q' m h; exact h
/-- One of the states where branches come together. -/
def JB {ι : Type} (inv : ι → St) (s : St) : Prop := ∃ i, Ent s (inv i)
@[congr] theorem JB_congr {ι : Type} {inv : ι → St} {s s' : St} {p00 : Prop} (_h00 : (True ∧ True) = p00) (h : s = s') : JB inv s = JB inv s' := by rw [h]
theorem JB.go {ι : Type} {inv : ι → St} {K : St → Prop} (k : ∀ i, GOES K (inv i)) {s : St} (h : JB inv s) : sq true K s := let ⟨i, hi⟩ := h; (k i).ent hi
/-- Two branches that come together. -/
theorem VIF.join {G : Ords} {b : Bool} {x y : Code} {K : St → Prop} {Q : Exit → St → Prop} {st : St} {ι : Type} (inv : ι → St) (h1 : b = true → vc P T G x (exThen (fun s => JB inv s) Q) st) (h2 : b = false → vc P T G y (exThen (fun s => JB inv s) Q) st)
    (k : ∀ i, GOES K (inv i)) : VIF b (vc P T G x (exThen (fun s => sq true K s) Q) st) (vc P T G y (exThen (fun s => sq true K s) Q) st) :=
  ⟨fun h => vc_mono _ (exThen_mono (fun _ => JB.go k) fun _ _ h => h) (h1 h), fun h => vc_mono _ (exThen_mono (fun _ => JB.go k) fun _ _ h => h) (h2 h)⟩
theorem exBlk_mono {n : Nat} {Q Q' : Exit → St → Prop} (m : ∀ e s, Q e s → Q' e s) (e : Exit) (s : St) (h : exBlk n Q e s) : exBlk n Q' e s := by
  cases e with
  | exit i =>
    simp only [exBlk] at h ⊢
    split at h
    · rename_i e; rw [if_pos e]; exact m _ _ h
    · rename_i e; rw [if_neg e]; exact m _ _ h
  | _ => exact m _ _ h
/-- Ways out of a loop, that come together. -/
theorem LOOP.join {G : Ords} {n : Nat} {c : Code} {K : St → Prop} {Q : Exit → St → Prop} {st : St} {ι : Type} (inv : ι → St) (h : LOOP (fun Q s => vc P T G c Q s) (exBlk n (exThen (fun s => JB inv s) Q)) st)
    (k : ∀ i, GOES K (inv i)) : LOOP (fun Q s => vc P T G c Q s) (exBlk n (exThen (fun s => sq true K s) Q)) st := by
  obtain ⟨ι', I, μ, h0, h⟩ := h
  exact ⟨ι', I, μ, h0, fun x => vc_mono c (exThen_mono (fun _ h => h) (exBlk_mono (exThen_mono (fun _ => JB.go k) fun _ _ h => h))) (h x)⟩
theorem evRegion_mono {ops : List Oper} {l : Option Ord} {st : St} {K K' : St → Prop} (m : ∀ s, K s → K' s) (h : evRegion P T ops l st K) : evRegion P T ops l st K' := by
  cases l with
  | some l => exact evSel_mono m h
  | none => exact evText_mono m h
/-- A condition and its branches, that come together. -/
theorem evRegion.join {G : Ords} {ops : List Oper} {l : Option Ord} {st : St} {b1 : Bool} {c : Code} {K : St → Prop} {Q : Exit → St → Prop} {ι : Type} (inv : ι → St)
    (h : evRegion P T ops l st (fun s => exThen (fun s => sq b1 (fun s => vc P T G c (exThen (fun s => JB inv s) Q) s) s) (exThen (fun s => JB inv s) Q) .normal s)) (k : ∀ i, GOES K (inv i)) :
    evRegion P T ops l st (fun s => exThen (fun s => sq b1 (fun s => vc P T G c (exThen (fun s => sq true K s) Q) s) s) (exThen (fun s => sq true K s) Q) .normal s) :=
  evRegion_mono (fun s h => sq_mono (K := fun s => vc P T G c (exThen (fun s => JB inv s) Q) s) (fun s h => vc_mono _ (exThen_mono (fun _ => JB.go k) fun _ _ h => h) h) h) h

/-- The state at a function's start. -/
def startR : Nat → List AV → Nat → AV
  | _, [], _ => .un
  | n, x :: r, t => if t = n then x else startR (n + 1) r t

theorem startR_get (l : List AV) (n t : Nat) : startR n l (n + t) = (l[t]?).getD .un := by
  induction l generalizing n t with
  | nil => simp [startR]
  | cons x r ih =>
    simp only [startR]
    cases t with
    | zero => simp
    | succ t =>
      rw [if_neg (by omega), show n + (t + 1) = (n + 1) + t by omega, ih]
      simp

theorem startR_nil (n : Nat) : startR n [] = fun _ => .un := by funext t; simp [startR]
theorem startR_cons (n : Nat) (x : AV) (r : List AV) : startR n (x :: r) = upd (startR (n + 1) r) n x := by
  funext t
  simp only [startR, upd]
  by_cases h : t = n
  · subst h; simp
  · rw [if_neg h, if_neg (fun e => h e.symm)]

/-- The results, one by one. -/
def resAV (T : Nat → TI) (st : St) : List ResultVar → List AV → (List AV → Prop) → Prop
  | [], acc, K => K acc.reverse
  | .tmp t :: r, acc, K => resAV T st r (st.regs t :: acc) K
  | .cell a t :: r, acc, K => hLoad T st.objs t (st.regs a) fun v => resAV T st r (v :: acc) K
@[congr] theorem resAV_congr {T : Nat → TI} {st st' : St} {l : List ResultVar} {acc acc' : List AV} {K : List AV → Prop} {p00 : Prop} (_h00 : (True ∧ True) = p00) (h : st = st') (h2 : acc = acc') : resAV T st l acc K = resAV T st' l acc' K := by rw [h, h2]
def hOne : List AV → (AV → Prop) → Prop
  | [v], K => K v
  | vs, K => K (.tu vs)
@[congr] theorem hOne_congr {l l' : List AV} {K : AV → Prop} {p00 : Prop} (_h00 : (True ∧ True) = p00) (h : l = l') : hOne l K = hOne l' K := by rw [h]
theorem hOne_one (v : AV) (K : AV → Prop) : hOne [v] K = K v := rfl
theorem hOne_nil (K : AV → Prop) : hOne [] K = K (.tu []) := rfl
theorem hOne_two (v u : AV) (l : List AV) (K : AV → Prop) : hOne (v :: u :: l) K = K (.tu (v :: u :: l)) := rfl
def hRes (T : Nat → TI) (st : St) (l : List ResultVar) (K : AV → Prop) : Prop := resAV T st l [] fun vs => hOne vs K
/-- A function's end: what is no longer of interest may be let go. -/
def Ent0 (O0 : Nat → Option Ob) (st st' : St) : Prop := ∀ (F : Fr) (n : Nat) (a : Act) (w : World), F.O0 = O0 → Rep F n st a w → Rep F n st' a w
def FIN (T : Nat → TI) (O0 : Nat → Option Ob) (l : List ResultVar) (K : AV → (Nat → Option Ob) → Prop) (st : St) : Prop := ∃ st', Ent0 O0 st st' ∧ hRes T st' l fun v => K v st'.objs
def fnPost (T : Nat → TI) (O0 : Nat → Option Ob) (l : List ResultVar) (K : AV → (Nat → Option Ob) → Prop) : Exit → St → Prop
  | .normal, st => FIN T O0 l K st
  | .ret, st => FIN T O0 l K st
  | _, _ => False

def resVar (tmps : Array Value) : ResultVar → Sem Value
  | .tmp t => pure (tmps.getD t undef)
  | .cell b t => do loadVar t (← asAddr (tmps.getD b undef))
theorem results_eq (fn : Func) (tmps : Array Value) : results fn tmps = (do let vs ← fn.results.mapM (resVar tmps); pure (if h : vs.size = 1 then vs[0] else .tuple vs)) := by
  unfold results
  congr 2

theorem resAV_spec (hT : TabOk P T) {st : St} {a : Act} {w : World} {φ : Nat → Option (Nat × Nat)} (H : RepH F φ st.objs (· ∈ st.used) w) (hr : ∀ t, RV F φ st w (a.tmps.getD t undef) (st.regs t)) {K : List AV → Prop} :
    ∀ (l : List ResultVar) (acc : List AV), resAV T st l acc K → ∃ (vs : List Value) (avs : List AV), (l.mapM (resVar a.tmps)).run P w = .ok vs w ∧
      vs.length = avs.length ∧ K (acc.reverse ++ avs) ∧ ∀ (j : Nat) (av : AV), avs[j]? = some av → RV F φ st w (vs.getD j undef) av := by
  intro l
  induction l with
  | nil => intro acc h; exact ⟨[], [], by simp, rfl, by simpa [resAV] using h, by simp⟩
  | cons x r ih =>
    intro acc h
    have step : ∀ (v : Value) (av : AV), RV F φ st w v av → (resVar a.tmps x).run P w = .ok v w → resAV T st r (av :: acc) K →
        ∃ (vs : List Value) (avs : List AV), ((x :: r).mapM (resVar a.tmps)).run P w = .ok vs w ∧
          vs.length = avs.length ∧ K (acc.reverse ++ avs) ∧ ∀ (j : Nat) (av : AV), avs[j]? = some av → RV F φ st w (vs.getD j undef) av := by
      intro v av h1 h2 h3
      obtain ⟨vs, avs, g1, g2, g3, g4⟩ := ih _ h3
      refine ⟨v :: vs, av :: avs, ?_, by simp [g2], by simpa using g3, fun j bv hj => ?_⟩
      · rw [List.mapM_cons, Sem.run_bind, h2, Result.andThen_ok, Sem.run_bind, g1]; rfl
      · cases j with
        | zero => simp at hj; subst hj; simpa using h1
        | succ j => simpa using g4 j bv (by simpa using hj)
    cases x with
    | tmp t => exact step _ _ (hr t) rfl h
    | cell b t =>
      obtain ⟨v, av, h1, h2, h3⟩ := hLoad_yields (P := P) hT H (show hLoad T st.objs t (st.regs b) fun v => resAV T st r (v :: acc) K from h) (hr b)
      refine step v av h2 ?_ h3
      unfold Instr.loadAt at h1
      show ((do loadVar t (← asAddr (a.tmps.getD b undef)) : Sem Value).run P w) = _
      generalize a.tmps.getD b undef = u at h1 ⊢
      cases u with
      | pointer x => cases x with
        | some x => exact h1
        | none => simp [Instr.sureAddr, stuck, Sem.run] at h1
      | _ => simp [Instr.sureAddr, stuck, Sem.run] at h1

theorem hRes_spec (hT : TabOk P T) {st : St} {a : Act} {w : World} {φ : Nat → Option (Nat × Nat)} (H : RepH F φ st.objs (· ∈ st.used) w) (hr : ∀ t, RV F φ st w (a.tmps.getD t undef) (st.regs t)) {K : AV → Prop} {fn : Func}
    (h : hRes T st fn.results.toList K) : ∃ (v : Value) (av : AV), (results fn a.tmps).run P w = .ok v w ∧ K av ∧ RV F φ st w v av := by
  obtain ⟨vs, avs, h1, h2, h3, h4⟩ := resAV_spec (P := P) hT H hr fn.results.toList [] h
  have hm : (results fn a.tmps).run P w = .ok (if h : vs.toArray.size = 1 then vs.toArray[0] else .tuple vs.toArray) w := by
    rw [results_eq, Array.mapM_eq_mapM_toList, Sem.run_bind, Sem.run_map, h1]
    rfl
  simp only [List.reverse_nil, List.nil_append] at h3
  refine ⟨(if h : vs.toArray.size = 1 then vs.toArray[0] else .tuple vs.toArray), ?_⟩
  match avs, h3, h2, h4 with
  | [av], h3, h2, h4 =>
    obtain ⟨v, rfl⟩ : ∃ v, vs = [v] := by
      match vs, h2 with
      | [v], _ => exact ⟨v, rfl⟩
    exact ⟨av, hm, h3, by simpa using h4 0 av rfl⟩
  | [], h3, h2, h4 =>
    have : vs = [] := List.eq_nil_of_length_eq_zero h2
    subst this
    exact ⟨.tu [], hm, h3, .tu (by simp) (by simp)⟩
  | x :: y :: r, h3, h2, h4 =>
    refine ⟨.tu (x :: y :: r), hm, h3, ?_⟩
    have hne : ¬ vs.toArray.size = 1 := by simp at h2 ⊢; omega
    rw [dif_neg hne]
    refine .tu (by simpa using h2) fun j av hj => ?_
    have := h4 j av hj
    simpa [Array.getD_eq_getD_getElem?, List.getD_eq_getElem?_getD] using this

theorem start_rep {φ : Nat → Option (Nat × Nat)} {args : List AV} {O : Nat → Option Ob} {U : List Nat} {w : World} {vs : Array Value} (H : RepH F φ O (· ∈ U) w) (hs : vs.size = args.length) (ha : args.length ≤ n)
    (hv : ∀ (j : Nat) (av : AV), args[j]? = some av → RepV φ O (· ∈ U) w.heap (SS F φ O w) (vs.getD j undef) av) : Rep F n ⟨startR 0 args, O, U⟩ { tmps := vs ++ Array.replicate (n - vs.size) undef, defers := [] } w := by
  refine ⟨by simp; omega, rfl, φ, H, fun t => ?_⟩
  have hst := startR_get args 0 t
  rw [Nat.zero_add] at hst
  show RepV φ O (· ∈ U) w.heap (SS F φ O w) ((vs ++ Array.replicate (n - vs.size) undef).getD t undef) (startR 0 args t)
  rw [hst]
  by_cases ht : t < args.length
  · have := hv t args[t] (List.getElem?_eq_getElem ht)
    rw [List.getElem?_eq_getElem ht]
    have hlt : t < vs.size := by omega
    simp only [Array.getD_eq_getD_getElem?, Array.getElem?_append, hlt, if_true] at this ⊢
    exact this
  · rw [List.getElem?_eq_none (by omega)]
    exact .un _

/-- A function does what its condition says. -/
theorem funspec_of_vc (hT : TabOk P T) (hE : ∀ t e, (T t).k = .slice e → (T e).k.known = true) (G : Ords) {f : Nat} {fn : Func} {c : Code} {rl : List ResultVar} {args : List AV} {O : Nat → Option Ob} {U : List Nat} {R : AV → (Nat → Option Ob) → Prop}
    (hf : P.funcs[f]? = some fn) (hb : fn.body = some c) (hr : fn.results.toList = rl) (hok : (okCode fn.ntmps G c && !(fn.name == "runtime.NumGoroutine")) = true) (ha : Nat.ble args.length fn.ntmps = true)
    (h0 : ∀ i, O i ≠ none → i = 0) (h : vc P T G c (fnPost T O rl R) ⟨startR 0 args, O, U⟩) : FunSpec P f args O U R := by
  subst hr
  simp only [Bool.and_eq_true, Bool.not_eq_true'] at hok
  obtain ⟨hok, hname⟩ := hok
  have ha := Nat.le_of_ble_eq_true ha
  refine ⟨⟨fn, hf, hname, by rw [hb]; rfl⟩, fun F φ w vs h1 h2 h3 H hs hv => ?_⟩
  refine calls_of_wp hf hb ?_
  have R0 : Rep F fn.ntmps ⟨startR 0 args, O, U⟩ { tmps := vs ++ Array.replicate (fn.ntmps - vs.size) undef, defers := [] } w := start_rep H hs ha hv
  refine vc_sound hT hE (fun i hi => h0 i (by rw [← h2]; exact hi)) c _ _ _ _ _ hok h R0 fun e st1 a' w' R1 h' => ?_
  have fin : FIN T O fn.results.toList R st1 → a'.defers = [] ∧ ∃ v, (results fn a'.tmps).run P w' = .ok v w' ∧ ∃ (v_1 : Value) (r : AV) (O' : Nat → Option Ob) (φ' : Nat → Option (Nat × Nat)) (U' : List Nat),
      Ending.returned v = .returned v_1 ∧ R r O' ∧ RepH F φ' O' (· ∈ U') w' ∧ RepV φ' O' (· ∈ U') w'.heap (SS F φ' O' w') v_1 r := fun ⟨st', hent, hh⟩ => by
    obtain ⟨hsz, hdf, φ', H', hr'⟩ := hent F _ _ _ h2 R1
    obtain ⟨v, av, g1, g2, g3⟩ := hRes_spec (P := P) hT H' hr' hh
    exact ⟨hdf, v, g1, v, av, st'.objs, φ', st'.used, rfl, g2, H', g3⟩
  cases e with
  | normal => exact fin h'
  | ret => exact fin h'
  | _ => exact False.elim h'
end
end Go.Vc
