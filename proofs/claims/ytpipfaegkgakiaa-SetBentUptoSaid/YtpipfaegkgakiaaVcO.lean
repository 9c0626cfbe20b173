/- What proofs of functions use. Part of a framework of abstract values and states, over the model, for proofs of functions; it has no conditions of its own. -/
import Derived.Test.YtpipfaegkgakiaaVcN
set_option linter.all false
/-! What proofs of functions use. -/
namespace Go.Vc

def mkR : List (Nat × AV) → Nat → AV
  | [] => fun _ => .un
  | (t, v) :: r => upd (mkR r) t v
def mkO : List (Nat × Ob) → Nat → Option Ob
  | [] => noOb
  | (i, o) :: r => upd (mkO r) i (some o)
/-- A state, told by lists. -/
def mkS (rl : List (Nat × AV)) (ol : List (Nat × Ob)) (ul : List Nat) : St := ⟨mkR rl, mkO ol, ul⟩

/-- An object's elements, as they were, or told less. -/
inductive Es (st : St) (m : List (Nat × Option Nat)) : List (List AV) → List (List AV) → Prop
  | same (o : Ob) (es es' : List (List AV)) (h : ∀ x ∈ es, ∀ a ∈ x, a.leaf = true) (he : es = es') : Es st m es es'
  | nil : Es st m [] []
  | cons {cs cs' : List AV} {r r' : List (List AV)} (h : wk.wks st m cs cs') (k : Es st m r r') : Es st m (cs :: r) (cs' :: r')

def ents (st : St) (m : List (Nat × Option Nat)) : List (Nat × AV) → Prop
  | [] => True
  | (t, v) :: r => wk st m (st.regs t) v ∧ ents st m r
def eob (st : St) (m : List (Nat × Option Nat)) : Option (Option Nat) → Ob → Prop
  | some (some j), o' => OB (st.objs j) fun o => o'.sz = o.sz ∧ Es st m o.es o'.es
  | some none, o' => o'.es = []
  | none, _ => False
def eobs (st : St) (m : List (Nat × Option Nat)) : List (Nat × Ob) → Prop
  | [] => True
  | (i, o) :: r => eob st m (nms m i) o ∧ eobs st m r

theorem wk_leaf {st : St} {m : List (Nat × Option Nat)} {a : AV} (h : a.leaf = true) : wk st m a a := by
  cases a with
  | fn f caps => cases caps with
    | nil => simp [wk, wk.wks]
    | cons x y => simp [AV.leaf] at h
  | _ => first | (simp [AV.leaf] at h; done) | simp [wk]
theorem wks_leaf {st : St} {m : List (Nat × Option Nat)} {l : List AV} (h : ∀ a ∈ l, a.leaf = true) : wk.wks st m l l := by
  induction l with
  | nil => trivial
  | cons x r ih => exact ⟨wk_leaf (h x (by simp)), ih fun a ha => h a (by simp [ha])⟩

theorem Es.get {st : St} {m : List (Nat × Option Nat)} {es es' : List (List AV)} (h : Es st m es es') : es'.length = es.length ∧ ∀ (k : Nat) (cs' : List AV), es'[k]? = some cs' → ∃ cs : List AV, es[k]? = some cs ∧ wk.wks st m cs cs' := by
  induction h with
  | same o es es' h he => subst he; exact ⟨rfl, fun k cs hk => ⟨cs, hk, wks_leaf fun a ha => h cs (List.mem_of_getElem? hk) a ha⟩⟩
  | nil => exact ⟨rfl, by simp⟩
  | cons h k ih =>
    refine ⟨by simp [ih.1], fun j cs' hj => ?_⟩
    cases j with
    | zero => simp at hj; subst hj; exact ⟨_, rfl, h⟩
    | succ j => simpa using ih.2 j cs' (by simpa using hj)

theorem ents_get {st : St} {m : List (Nat × Option Nat)} {l : List (Nat × AV)} (h : ents st m l) (t : Nat) : wk st m (st.regs t) (mkR l t) := by
  induction l with
  | nil => simp only [mkR]; cases st.regs t <;> simp [wk]
  | cons x r ih =>
    obtain ⟨u, v⟩ := x
    simp only [mkR, upd]
    split
    · rename_i e; subst e; exact h.1
    · exact ih h.2

theorem eobs_get {st : St} {m : List (Nat × Option Nat)} {l : List (Nat × Ob)} (h : eobs st m l) {i : Nat} {o : Ob} (hi : mkO l i = some o) : eob st m (nms m i) o := by
  induction l with
  | nil => cases hi
  | cons x r ih =>
    obtain ⟨u, v⟩ := x
    simp only [mkO, upd] at hi
    split at hi
    · rename_i e; cases hi; subst e; exact h.1
    · exact ih h.2 hi

def nmOk (m : List (Nat × Option Nat)) (ul : List Nat) : Bool :=
  decide (olds m).Nodup && (m.all fun x => ul.contains x.1) && (match nms m 0 with | none => true | some x => x == some 0)

theorem nms_mem {m : List (Nat × Option Nat)} {i : Nat} {x : Option Nat} (h : nms m i = some x) : (i, x) ∈ m := by
  induction m with
  | nil => cases h
  | cons y r ih =>
    obtain ⟨a, b⟩ := y
    simp only [nms] at h
    split at h
    · rename_i e; cases h; subst e; simp
    · exact List.mem_cons_of_mem _ (ih h)

theorem mem_olds {m : List (Nat × Option Nat)} {i k : Nat} (h : (i, some k) ∈ m) : k ∈ olds m := by
  induction m with
  | nil => cases h
  | cons y r ih =>
    obtain ⟨a, b⟩ := y
    cases h with
    | head => simp [olds]
    | tail _ h => cases b with
      | none => exact ih h
      | some b => exact List.mem_cons_of_mem _ (ih h)

theorem olds_inj {m : List (Nat × Option Nat)} (hn : (olds m).Nodup) {i j k : Nat} (h1 : (i, some k) ∈ m) (h2 : (j, some k) ∈ m) : i = j := by
  induction m with
  | nil => cases h1
  | cons y r ih =>
    obtain ⟨a, b⟩ := y
    cases b with
    | none =>
      have g1 : (i, some k) ∈ r := by cases h1 with | tail _ h => exact h
      have g2 : (j, some k) ∈ r := by cases h2 with | tail _ h => exact h
      exact ih hn g1 g2
    | some b =>
      simp only [olds, List.nodup_cons] at hn
      cases h1 with
      | head => cases h2 with
        | head => rfl
        | tail _ h => exact absurd (mem_olds h) hn.1
      | tail _ h1 => cases h2 with
        | head => exact absurd (mem_olds h1) hn.1
        | tail _ h2 => exact ih hn.2 h1 h2

/-- The state may be told in short. -/
theorem ent_mk {st : St} (m : List (Nat × Option Nat)) {rl : List (Nat × AV)} {ol : List (Nat × Ob)} {ul : List Nat} (hm : nmOk m ul = true) (h0 : 0 ∈ st.used → 0 ∈ ul) (hr : ents st m rl) (ho : eobs st m ol) : Ent st (mkS rl ol ul) := by
  simp only [nmOk, Bool.and_eq_true, decide_eq_true_eq, List.all_eq_true] at hm
  refine Turn.ent (m := m) { regs := ents_get hr, obs := fun i o' hi => ?_, inj := fun i j k h1 h2 => olds_inj hm.1.1 (nms_mem h1) (nms_mem h2), used := fun i x hx => ?_, inU := fun i o' hi => ?_, u0 := fun _ => h0, n0 := fun _ x hx => ?_ }
  · have := eobs_get ho hi
    generalize hn : nms m i = y at this
    match y, this with
    | some (some j), this =>
      obtain ⟨o, h1, h2, h3⟩ := this
      exact .inl ⟨j, o, rfl, h1, h2, h3.get.1, h3.get.2⟩
    | some none, this => exact .inr ⟨rfl, this⟩
    | none, this => exact False.elim this
  · show i ∈ ul
    simpa using hm.1.2 _ (nms_mem hx)
  · have := eobs_get ho hi
    generalize hn : nms m i = y at this
    cases y with
    | none => exact False.elim this
    | some x =>
      show i ∈ ul
      simpa using hm.1.2 _ (nms_mem hn)
  · have := hm.2
    rw [hx] at this
    simpa using this

/-- The same, of a function that was handed no object. -/
theorem ent0_mk {st : St} (m : List (Nat × Option Nat)) {rl : List (Nat × AV)} {ol : List (Nat × Ob)} {ul : List Nat} (hm : (decide (olds m).Nodup && (m.all fun x => ul.contains x.1)) = true) (hr : ents st m rl) (ho : eobs st m ol) : Ent0 noOb st (mkS rl ol ul) := by
  simp only [Bool.and_eq_true, decide_eq_true_eq, List.all_eq_true] at hm
  refine Turn.ent0 (m := m) { regs := ents_get hr, obs := fun i o' hi => ?_, inj := fun i j k h1 h2 => olds_inj hm.1 (nms_mem h1) (nms_mem h2), used := fun i x hx => ?_, inU := fun i o' hi => ?_, u0 := fun h => (by cases h), n0 := fun h => (by cases h) }
  · have := eobs_get ho hi
    generalize hn : nms m i = y at this
    match y, this with
    | some (some j), this =>
      obtain ⟨o, h1, h2, h3⟩ := this
      exact .inl ⟨j, o, rfl, h1, h2, h3.get.1, h3.get.2⟩
    | some none, this => exact .inr ⟨rfl, this⟩
    | none, this => exact False.elim this
  · show i ∈ ul
    simpa using hm.2 _ (nms_mem hx)
  · have := eobs_get ho hi
    generalize hn : nms m i = y at this
    cases y with
    | none => exact False.elim this
    | some x =>
      show i ∈ ul
      simpa using hm.2 _ (nms_mem hn)

theorem ent_to {st st' : St} (m : List (Nat × Option Nat)) {rl : List (Nat × AV)} {ol : List (Nat × Ob)} {ul : List Nat} (hs : st' = mkS rl ol ul) (hm : nmOk m ul = true) (h : (0 ∈ st.used → 0 ∈ ul) ∧ ents st m rl ∧ eobs st m ol) : Ent st st' :=
  hs ▸ ent_mk m hm h.1 h.2.1 h.2.2

/-- The end of a function that hands back no object. -/
def fnPost0 (T : Nat → TI) (l : List ResultVar) (R : AV → Prop) : Exit → St → Prop
  | .normal, st => GOES (fun st => hRes T st l fun v => v.noId = true ∧ R v) st
  | .ret, st => GOES (fun st => hRes T st l fun v => v.noId = true ∧ R v) st
  | _, _ => False

theorem rep_none {F : Fr} {φ : Nat → Option (Nat × Nat)} {st : St} {w : World} (h2 : F.O0 = noOb) (H : RepH F φ st.objs (· ∈ st.used) w) : RepH F (fun _ => none) noOb (· ∈ ([] : List Nat)) w :=
  { inj := fun i j oi oj β bi bj h => by cases h
    inU := fun i o h => by cases h
    ob := fun i o h => by cases h
    own := fun i o β b h => by cases h
    below := H.below, size := H.size, os := H.os, tape := H.tape, output := H.output
    idsU := fun i hi => by rw [h2] at hi; exact absurd rfl hi
    keep0 := fun i hi => by rw [h2] at hi; exact absurd rfl hi }

theorem mkS_do (rl : List (Nat × AV)) (ol : List (Nat × Ob)) (ul : List Nat) : mkS rl ol ul = ⟨mkR rl, mkO ol, ul⟩ := rfl
theorem JB.mk {ι : Type} {inv : ι → St} {s : St} (y : ι) {rl : List (Nat × AV)} {ol : List (Nat × Ob)} {ul : List Nat} (m : List (Nat × Option Nat)) (hs : inv y = mkS rl ol ul) (hm : nmOk m ul = true)
    (h : (0 ∈ s.used → 0 ∈ ul) ∧ ents s m rl ∧ eobs s m ol) : JB inv s := ⟨y, ent_to m hs hm h⟩
/-- On with a state that is told in short. -/
theorem TO {K : St → Prop} {s : St} (m : List (Nat × Option Nat)) (rl : List (Nat × AV)) (ol : List (Nat × Ob)) (ul : List Nat) (hm : nmOk m ul = true) (h : (0 ∈ s.used → 0 ∈ ul) ∧ ents s m rl ∧ eobs s m ol) (k : K (mkS rl ol ul)) : GOES K s :=
  ⟨_, ent_to m rfl hm h, k⟩
theorem TOG {K : St → Prop} {s : St} (m : List (Nat × Option Nat)) (rl : List (Nat × AV)) (ol : List (Nat × Ob)) (ul : List Nat) (hm : nmOk m ul = true) (h : (0 ∈ s.used → 0 ∈ ul) ∧ ents s m rl ∧ eobs s m ol) (k : GOES K (mkS rl ol ul)) : GOES K s :=
  k.ent (ent_to m rfl hm h)
/-- Back at a loop's head, nearer to its end. -/
def BACK {ι : Type} (inv : ι → St) (μ : ι → Nat) (x : ι) (s : St) : Prop := ∃ y, Ent s (inv y) ∧ μ y < μ x
@[congr] theorem BACK_congr {ι : Type} {inv : ι → St} {μ : ι → Nat} {x : ι} {s s' : St} {p00 : Prop} (_h00 : (True ∧ True) = p00) (h : s = s') : BACK inv μ x s = BACK inv μ x s' := by rw [h]
theorem BACK.mk {ι : Type} {inv : ι → St} {μ : ι → Nat} {x : ι} {s : St} (y : ι) {rl : List (Nat × AV)} {ol : List (Nat × Ob)} {ul : List Nat} (m : List (Nat × Option Nat)) (hs : inv y = mkS rl ol ul) (hm : nmOk m ul = true) (hμ : μ y < μ x)
    (h : (0 ∈ s.used → 0 ∈ ul) ∧ ents s m rl ∧ eobs s m ol) : BACK inv μ x s := ⟨y, ent_to m hs hm h, hμ⟩
theorem LOOP.mk {body : (Exit → St → Prop) → St → Prop} {Q : Exit → St → Prop} {st : St} {ι : Type} (inv : ι → St) (μ : ι → Nat) (x0 : ι) {rl : List (Nat × AV)} {ol : List (Nat × Ob)} {ul : List Nat} (m : List (Nat × Option Nat)) (hs : inv x0 = mkS rl ol ul) (hm : nmOk m ul = true)
    (h0 : (0 ∈ st.used → 0 ∈ ul) ∧ ents st m rl ∧ eobs st m ol) (h : ∀ x, body (exThen (fun s => BACK inv μ x s) Q) (inv x)) : LOOP body Q st :=
  ⟨ι, inv, μ, ⟨x0, ent_to m hs hm h0⟩, h⟩

theorem EL.setmap {α : Type} {f : α → List AV} {l : List α} {i j : Nat} {v : List AV} {K : List AV → Prop} (hij : i ≠ j) (h : j < l.length) (k : K (f l[j])) : EL ((l.map f).set i v) j K :=
  ⟨f l[j], by rw [List.getElem?_set_ne hij]; simp [h], k⟩
theorem VIF.split {b : Bool} {A B : Prop} (h1 : b = true → A) (h2 : b = false → B) : VIF b A B := ⟨h1, h2⟩
mutual
theorem wk_noId {st : St} {m : List (Nat × Option Nat)} : ∀ (v : AV), v.noId = true → wk st m v v
  | .un, _ => by simp [wk]
  | .pr v, _ => by simp [wk]
  | .nl, _ => by simp [wk]
  | .im a b, _ => by simp [wk]
  | .rf a b c, h => by simp [AV.noId] at h
  | .pt a b c, h => by simp [AV.noId] at h
  | .ro a b, _ => by simp [wk]
  | .ag cs, h => by simp only [wk]; exact wks_noId cs (by simpa [AV.noId] using h)
  | .tu cs, h => by simp only [wk]; exact wks_noId cs (by simpa [AV.noId] using h)
  | .fn f cs, h => by simp only [wk]; exact ⟨trivial, wks_noId cs (by simpa [AV.noId] using h)⟩
theorem wks_noId {st : St} {m : List (Nat × Option Nat)} : ∀ (l : List AV), noIds l = true → wk.wks st m l l
  | [], _ => trivial
  | x :: r, h => by
    simp only [noIds, Bool.and_eq_true] at h
    exact ⟨wk_noId x h.1, wks_noId r h.2⟩
end
def lendRf (off len : Nat) : Option Ob → AV
  | some o => .im o.sz ((o.es.drop off).take len)
  | none => .un
def lendCs (f : List AV → List AV) (off : Nat) : Option (List AV) → AV
  | some cs => .ro (f cs) off
  | none => .un
def lendPt (f : List AV → List AV) (i off : Nat) : Option Ob → AV
  | some o => lendCs f off o.es[i]?
  | none => .un
theorem lendW_rf {f : List AV → List AV} {objs : Nat → Option Ob} {id off len : Nat} : AV.lendW f objs (.rf id off len) = lendRf off len (objs id) := by
  simp only [AV.lendW]; cases objs id <;> rfl
theorem lendW_pt {f : List AV → List AV} {objs : Nat → Option Ob} {id i off : Nat} : AV.lendW f objs (.pt id i off) = lendPt f i off (objs id) := by
  simp only [AV.lendW]
  cases objs id with
  | none => rfl
  | some o => simp only [lendPt]; cases o.es[i]? <;> rfl
theorem lok_rf {p : List AV → Prop} {objs : Nat → Option Ob} {id off len : Nat} : AV.lok p objs (.rf id off len) = OB (objs id) fun o => o.leafy := by simp only [AV.lok, OB]
theorem lok_pt {p : List AV → Prop} {objs : Nat → Option Ob} {id i off : Nat} : AV.lok p objs (.pt id i off) = OB (objs id) fun o => EL o.es i p := by
  simp only [AV.lok, OB, EL, eq_iff_iff]
  exact ⟨fun ⟨o, cs, h1, h2, h3⟩ => ⟨o, h1, cs, h2, h3⟩, fun ⟨o, h1, cs, h2, h3⟩ => ⟨o, cs, h1, h2, h3⟩⟩
def leafs2 : List (List AV) → Prop
  | [] => True
  | x :: r => leafs x ∧ leafs2 r
theorem leafs_mem {l : List AV} : leafs l ↔ ∀ a ∈ l, a.leaf = true := by
  induction l with
  | nil => simp [leafs]
  | cons x r ih => simp [leafs, ih]
theorem leafy_do {sz : Nat} {es : List (List AV)} : (Ob.mk sz es).leafy = leafs2 es := by
  simp only [Ob.leafy, eq_iff_iff]
  induction es with
  | nil => simp [leafs2]
  | cons x r ih => simp only [leafs2, List.mem_cons, forall_eq_or_imp, ← ih, leafs_mem]
theorem leafs2_map {α : Type} {f : α → List AV} {l : List α} (h : ∀ x ∈ l, leafs (f x)) : leafs2 (l.map f) := by
  induction l with
  | nil => trivial
  | cons x r ih => exact ⟨h x (by simp), ih fun y hy => h y (by simp [hy])⟩
/-- A call of a function to which all is lent. -/
theorem CALL.lendTo {P : Program} {f : Nat} {args : List AV} {st : St} {d : Option Nat} {K : St → Prop} {args' : List AV} {R : AV → Prop} (h : Spec0 P f args' R) (he : lends st.objs args = args' ∧ lok st.objs args) (hf : ∀ r, R r → r.flat = true) (k : ∀ r, R r → K (st.put d r)) : CALL P f args st d K := by
  obtain ⟨he, hl⟩ := he
  subst he
  exact .lend R h hl k hf
theorem CALL.pureTo {P : Program} {f : Nat} {args : List AV} {st : St} {d : Option Nat} {K : St → Prop} {R : AV → Prop} (h : Spec0 P f args R) (ha : noIds args = true) (k : ∀ r, R r → r.noId = true → K (st.put d r)) : CALL P f args st d K := .pure R h ha k

section
variable {P : Program} {T : Nat → TI}
theorem spec0_of_vc (hT : TabOk P T) (hE : ∀ t e, (T t).k = .slice e → (T e).k.known = true) (G : Ords) {f : Nat} {fn : Func} {c : Code} {rl : List ResultVar} {args : List AV} {R : AV → Prop}
    (hf : P.funcs[f]? = some fn) (hb : fn.body = some c) (hr : fn.results.toList = rl) (hok : (okCode fn.ntmps G c && !(fn.name == "runtime.NumGoroutine")) = true) (ha : Nat.ble args.length fn.ntmps = true)
    (h : vc P T G c (fnPost0 T rl R) ⟨startR 0 args, noOb, []⟩) : Spec0 P f args R := by
  subst hr
  simp only [Bool.and_eq_true, Bool.not_eq_true'] at hok
  obtain ⟨hok, hname⟩ := hok
  have ha := Nat.le_of_ble_eq_true ha
  refine ⟨⟨fn, hf, hname, by rw [hb]; rfl⟩, fun F φ w vs h1 h2 h3 H hs hv => ?_⟩
  refine calls_of_wp hf hb ?_
  have R0 : Rep F fn.ntmps ⟨startR 0 args, noOb, []⟩ { tmps := vs ++ Array.replicate (fn.ntmps - vs.size) undef, defers := [] } w := start_rep H hs ha hv
  refine vc_sound hT hE (fun i hi => by rw [h2] at hi; exact absurd rfl hi) c _ _ _ _ _ hok h R0 fun e st0 a' w' R0' h0' => ?_
  have hstep : ∃ st1, Rep F fn.ntmps st1 a' w' ∧ (match e with | .normal => hRes T st1 fn.results.toList (fun v => v.noId = true ∧ R v) | .ret => hRes T st1 fn.results.toList (fun v => v.noId = true ∧ R v) | _ => False) := by
    cases e with
    | normal => obtain ⟨s1, he, hh⟩ := h0'; exact ⟨s1, he F _ a' w' (fun i hi => by rw [h2] at hi; exact absurd rfl hi) R0', hh⟩
    | ret => obtain ⟨s1, he, hh⟩ := h0'; exact ⟨s1, he F _ a' w' (fun i hi => by rw [h2] at hi; exact absurd rfl hi) R0', hh⟩
    | _ => exact False.elim h0'
  obtain ⟨st1, R1, h'⟩ := hstep
  obtain ⟨hsz, hdf, φ', H', hr'⟩ := R1
  have fin : hRes T st1 fn.results.toList (fun v => v.noId = true ∧ R v) → a'.defers = [] ∧ ∃ v, (results fn a'.tmps).run P w' = .ok v w' ∧ ∃ (v_1 : Value) (r : AV) (O' : Nat → Option Ob) (φ' : Nat → Option (Nat × Nat)) (U' : List Nat),
      Ending.returned v = .returned v_1 ∧ ((R r ∧ r.noId = true) ∧ O' = noOb) ∧ RepH F φ' O' (· ∈ U') w' ∧ RepV φ' O' (· ∈ U') w'.heap (SS F φ' O' w') v_1 r := fun hh => by
    obtain ⟨v, av, g1, ⟨g2, g2'⟩, g3⟩ := hRes_spec (P := P) hT H' hr' hh
    refine ⟨hdf, v, g1, v, av, noOb, fun _ => none, [], rfl, ⟨⟨g2', g2⟩, rfl⟩, rep_none h2 H', noId_rep (fun β hβ => ⟨⟨hβ.1, ?_, hβ.2.2⟩, rfl⟩) g3 g2⟩
    intro i o b hi; cases hi
  cases e with
  | normal => exact fin h'
  | ret => exact fin h'
  | _ => exact False.elim h'

/-- A function that makes one object, or none that it hands back. -/
theorem spec1_of_vc (hT : TabOk P T) (hE : ∀ t e, (T t).k = .slice e → (T e).k.known = true) (G : Ords) {f : Nat} {fn : Func} {c : Code} {rl : List ResultVar} {args : List AV} {R : AV → Ob → Prop}
    (hf : P.funcs[f]? = some fn) (hb : fn.body = some c) (hr : fn.results.toList = rl) (hok : (okCode fn.ntmps G c && !(fn.name == "runtime.NumGoroutine")) = true) (ha : Nat.ble args.length fn.ntmps = true)
    (h : vc P T G c (fnPost T noOb rl fun r O' => ∃ o, (R r o ∧ r.only0 = true) ∧ o.leafy ∧ O' = upd noOb 0 (some o)) ⟨startR 0 args, noOb, []⟩) : Spec1 P f args R :=
  funspec_of_vc hT hE G hf hb hr hok ha (fun _ h => absurd rfl h) h
/-- A function that is handed an object, and hands it back. -/
theorem specO_of_vc (hT : TabOk P T) (hE : ∀ t e, (T t).k = .slice e → (T e).k.known = true) (G : Ords) {f : Nat} {fn : Func} {c : Code} {rl : List ResultVar} {args : List AV} {o : Ob} {R : AV → Ob → Prop}
    (hf : P.funcs[f]? = some fn) (hb : fn.body = some c) (hr : fn.results.toList = rl) (hok : (okCode fn.ntmps G c && !(fn.name == "runtime.NumGoroutine")) = true) (ha : Nat.ble args.length fn.ntmps = true)
    (h : vc P T G c (fnPost T (upd noOb 0 (some o)) rl fun r O' => ∃ o', (R r o' ∧ r.noId = true) ∧ o'.leafy ∧ O' = upd noOb 0 (some o')) ⟨startR 0 args, upd noOb 0 (some o), [0]⟩) : SpecO P f args o R :=
  funspec_of_vc hT hE G hf hb hr hok ha (fun i h => by
    simp only [upd] at h
    split at h
    · rename_i e; exact e.symm
    · exact absurd rfl h) h

/-- The end of a function that hands an object back, and no answer. -/
theorem FIN_O {l : List ResultVar} {K : AV → (Nat → Option Ob) → Prop} {st : St} {o o' : Ob} (hl0 : l = []) (h : st.objs 0 = some o') (hl : o'.leafy) (k : K (.tu []) (upd noOb 0 (some o'))) : FIN T (upd noOb 0 (some o)) l K st := by
  subst hl0
  have he : Ent st (mkS [] [(0, o')] [0]) := ent_to [(0, some 0)] rfl rfl ⟨fun _ => by simp, trivial, ⟨o', h, rfl, .same o' _ _ hl rfl⟩, trivial⟩
  refine ⟨mkS [] [(0, o')] [0], fun F n a w hF R => he F n a w (fun i hi => ?_) R, k⟩
  rw [hF] at hi
  simp only [upd] at hi
  split at hi
  · rename_i e; exact e.symm
  · exact absurd rfl hi
/-- The end of a function that makes an object. -/
theorem FINmk {l : List ResultVar} {K : AV → (Nat → Option Ob) → Prop} {st : St} (m : List (Nat × Option Nat)) (rl : List (Nat × AV)) (ol : List (Nat × Ob)) (ul : List Nat) (hm : (decide (olds m).Nodup && (m.all fun x => ul.contains x.1)) = true)
    (h : ents st m rl ∧ eobs st m ol) (k : hRes T (mkS rl ol ul) l fun v => K v (mkO ol)) : FIN T noOb l K st := ⟨mkS rl ol ul, ent0_mk m hm h.1 h.2, k⟩

theorem mkInfo {P : Program} {t : Nat} {x : TI} {i : TypeInfo} {z : Value} (info : P.info? t = some i) (size : i.size = x.size) (bytes : i.bytes = x.bytes) (zero : i.zero = some z)
    (zc : z.cells.toList.map cAV = x.zero) (zl : x.zero.length = x.size) (one : z.cells.toList.all (·.oneCell') = true) (pos : 0 < x.size) (b0 : 0 < x.bytes) (b1 : x.bytes ≤ 4096) : InfoOk P t x i z :=
  ⟨info, size, bytes, zero, zc, zl, fun c hc => List.all_eq_true.1 one c hc, pos, b0, b1⟩
theorem all_info {P : Program} {l : List Field} (h : (l.all fun f => match P.info? f.type with | some i => decide (0 < i.size) | none => false) = true) : ∀ f ∈ l, ∃ i, P.info? f.type = some i ∧ 0 < i.size := by
  intro f hf
  have := List.all_eq_true.1 h f hf
  cases hi : P.info? f.type with
  | none => rw [hi] at this; cases this
  | some i => rw [hi] at this; exact ⟨i, rfl, by simpa using this⟩
end
end Go.Vc
