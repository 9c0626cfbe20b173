/- Memory: loads, stores, elements, fields, cuts. Part of a framework of abstract values and states, over the model, for proofs of functions; it has no conditions of its own. -/
import Derived.Test.YtpipfaegkgakiaaVcC
set_option linter.all false
/-! Memory: loads, stores, elements, fields, cuts. -/
namespace Go.Vc

/-- Element i of a list. -/
def EL (es : List (List AV)) (i : Nat) (K : List AV → Prop) : Prop := ∃ cs, es[i]? = some cs ∧ K cs
@[congr] theorem EL_congr {es es' : List (List AV)} {i i' : Nat} {K : List AV → Prop} {p00 : Prop} (_h00 : (True ∧ True) = p00) (h : es = es') (h2 : i = i') : EL es i K = EL es' i' K := by rw [h, h2]
theorem EL_zero (a : List AV) (l : List (List AV)) (K : List AV → Prop) : EL (a :: l) 0 K = K a := by simp [EL]
theorem EL_succ (a : List AV) (l : List (List AV)) (n : Nat) (K : List AV → Prop) : EL (a :: l) (n + 1) K = EL l n K := by simp [EL]
theorem EL.map {α : Type} {f : α → List AV} {l : List α} {i : Nat} {K : List AV → Prop} (h : i < l.length) (k : K (f l[i])) : EL (l.map f) i K := ⟨f l[i], by simp [h], k⟩

def OB (x : Option Ob) (K : Ob → Prop) : Prop := ∃ o, x = some o ∧ K o
@[congr] theorem OB_congr {x y : Option Ob} {K : Ob → Prop} {p00 : Prop} (_h00 : (True ∧ True) = p00) (h : x = y) : OB x K = OB y K := by rw [h]
theorem OB_some (o : Ob) (K : Ob → Prop) : OB (some o) K = K o := by simp [OB]

def one : List AV → (AV → Prop) → Prop
  | [c], K => K c
  | _, _ => False
@[congr] theorem one_congr {x y : List AV} {K : AV → Prop} {p00 : Prop} (_h00 : (True ∧ True) = p00) (h : x = y) : one x K = one y K := by rw [h]
def mkV : TK → Nat → List AV → (AV → Prop) → Prop
  | .struct _, n, cs, K => n = cs.length ∧ K (.ag cs)
  | .other, _, _, _ => False
  | _, _, cs, K => one cs K
@[congr] theorem mkV_congr {k k' : TK} {n n' : Nat} {x y : List AV} {K : AV → Prop} {p00 : Prop} (_h00 : (True ∧ True) = p00) (h0 : k = k') (h1 : n = n') (h : x = y) : mkV k n x K = mkV k' n' y K := by rw [h0, h1, h]

def hLoad (T : Nat → TI) (objs : Nat → Option Ob) (t : Nat) : AV → (AV → Prop) → Prop
  | .ro cs off, K => mkV (T t).k (T t).size ((cs.drop off).take (T t).size) K
  | .pt id i off, K => OB (objs id) fun o => EL o.es i fun cs => mkV (T t).k (T t).size ((cs.drop off).take (T t).size) K
  | _, _ => False
@[congr] theorem hLoad_congr {T : Nat → TI} {objs : Nat → Option Ob} {t : Nat} {x y : AV} {K : AV → Prop} {p00 : Prop} (_h00 : (True ∧ True) = p00) (h : x = y) : hLoad T objs t x K = hLoad T objs t y K := by rw [h]

def fAt : List (Nat × Nat) → Nat → (Nat → Nat → Prop) → Prop
  | (o, n) :: _, 0, K => K o n
  | _ :: r, f + 1, K => fAt r f K
  | [], _, _ => False
def fTK : TK → Nat → (Nat → Nat → Prop) → Prop
  | .struct fs, f, K => fAt fs f K
  | _, _, _ => False
@[congr] theorem fAt_congr {x y : List (Nat × Nat)} {n m : Nat} {K : Nat → Nat → Prop} {p00 : Prop} (_h00 : (True ∧ True) = p00) (h : x = y) (h2 : n = m) : fAt x n K = fAt y m K := by rw [h, h2]
@[congr] theorem fTK_congr {x y : TK} {n m : Nat} {K : Nat → Nat → Prop} {p00 : Prop} (_h00 : (True ∧ True) = p00) (h : x = y) (h2 : n = m) : fTK x n K = fTK y m K := by rw [h, h2]
def hField (T : Nat → TI) (t f : Nat) : AV → (AV → Prop) → Prop
  | .ro cs off, K => fTK (T t).k f fun o _ => K (.ro cs (off + o))
  | .pt id i off, K => fTK (T t).k f fun o _ => K (.pt id i (off + o))
  | _, _ => False
@[congr] theorem hField_congr {T : Nat → TI} {t f : Nat} {x y : AV} {K : AV → Prop} {p00 : Prop} (_h00 : (True ∧ True) = p00) (h : x = y) : hField T t f x K = hField T t f y K := by rw [h]

def sTK : TK → (Nat → Prop) → Prop
  | .slice e, K => K e
  | _, _ => False
@[congr] theorem sTK_congr {x y : TK} {K : Nat → Prop} {p00 : Prop} (_h00 : (True ∧ True) = p00) (h : x = y) : sTK x K = sTK y K := by rw [h]
def hIdx (T : Nat → TI) (objs : Nat → Option Ob) (t : Nat) : AV → AV → (AV → Prop) → Prop
  | .im sz es, .pr (.int _ i), K => sTK (T t).k fun e => (sz = (T e).size ∧ 0 ≤ i) ∧ EL es i.toNat fun cs => K (.ro cs 0)
  | .rf id off len, .pr (.int _ i), K => sTK (T t).k fun e => (0 ≤ i ∧ i < len) ∧ OB (objs id) fun o => o.sz = (T e).size ∧ K (.pt id (off + i.toNat) 0)
  | _, _, _ => False
@[congr] theorem hIdx_congr {T : Nat → TI} {objs : Nat → Option Ob} {t : Nat} {x y x' y' : AV} {K : AV → Prop} {p00 : Prop} (_h00 : (True ∧ True) = p00) (h : x = x') (h2 : y = y') : hIdx T objs t x y K = hIdx T objs t x' y' K := by rw [h, h2]

section
variable {P : Program} {T : Nat → TI} {F : Fr} {φ : Nat → Option (Nat × Nat)} {st : St} {w : World}

theorem run_sizeOf_tab (hT : TabOk P T) {t : Nat} (hk : (T t).k.known = true) : (sizeOf t).run P w = .ok (T t).size w := by
  obtain ⟨i, z, h⟩ := hT.infos t hk
  simp [sizeOf, typeInfo, h.info, h.size]

theorem run_isAgg_tab (hT : TabOk P T) {t : Nat} (hk : (T t).k.known = true) : (isAgg t).run P w = .ok (match (T t).k with | .struct _ => true | _ => false) w := by
  have h := hT.kinds t
  unfold isAgg
  cases hk' : (T t).k <;> rw [hk'] at h hk <;> simp only [KOk] at h
  all_goals try (simp [run_underlying h]; done)
  · obtain ⟨fields, h, _⟩ := h; simp [run_underlying h]
  · obtain ⟨e, h⟩ := h; simp [run_underlying h]
  · obtain ⟨a, b, c, h⟩ := h; simp [run_underlying h]
  · cases hk

/-- A load of what stands there. -/
theorem load_yields (hT : TabOk P T) {R : Value → AV → Prop} (hag : ∀ (arr : Array Value) cs, arr.size = cs.length → (∀ j, j < arr.size → (arr.getD j undef).oneCell' = true) →
      (∀ j av, cs[j]? = some av → R (arr.getD j undef) av) → R (.agg arr) (.ag cs))
    {t : Nat} {a : Addr} {cs : List AV} {K : AV → Prop} (hk : mkV (T t).k (T t).size cs K) (hc : Cells w R a cs) : Yields P w R (loadVar t a) K := by
  have known : (T t).k.known = true := by
    cases h : (T t).k <;> rw [h] at hk <;> first | rfl | exact False.elim hk
  generalize hk0 : (T t).k = k0 at hk
  have single : (match (T t).k with | .struct _ => true | _ => false) = false → one cs K → Yields P w R (loadVar t a) K := by
    intro hag hk1
    match cs, hc, hk1 with
    | [c], hc, hk1 =>
      obtain ⟨v, g1, g2, g3⟩ := hc 0 c rfl
      refine ⟨v, _, ?_, g3, hk1⟩
      have ha : a.add 0 = a := rfl
      rw [ha] at g1
      simp only [loadVar, Sem.run_bind, run_isAgg_tab hT known, hag, Result.andThen_ok, Bool.false_eq_true, if_false, run_load, g1]
    | [], _, hk1 => exact False.elim hk1
    | _ :: _ :: _, _, hk1 => exact False.elim hk1
  cases k0 with
  | struct fs =>
    obtain ⟨h1, h2⟩ := hk
    obtain ⟨arr, g1, g2, g3, g4⟩ := run_loadCells_rep (P := P) hc
    refine ⟨.agg arr, _, ?_, hag arr cs g2 g3 g4, h2⟩
    simp only [loadVar, Sem.run_bind, run_isAgg_tab hT known, hk0, Result.andThen_ok, if_true, run_sizeOf_tab hT known, h1, g1, Sem.run_pure]
  | other => exact False.elim hk
  | _ => exact single (by rw [hk0]) hk

theorem ro_cells {β o off : Nat} {cs : List AV} {c : Array Value} {e : TypeId} {fz : Nat × Nat} {vs : Nat → Value} {n : Nat} (hb : w.heap[β]? = some (.cells c e fz))
    (hc : ∀ j av, cs[j]? = some av → c[o + j]? = some (vs j)) (hr : ∀ j av, cs[j]? = some av → RdI w.heap (SS F φ st.objs w) (vs j) av) :
    Cells w (RV F φ st w) ⟨β, o + off, none⟩ ((cs.drop off).take n) := by
  intro j av hj
  have hj' : cs[off + j]? = some av := by
    rw [List.getElem?_take] at hj
    split at hj
    · rwa [List.getElem?_drop] at hj
    · cases hj
  refine ⟨vs (off + j), ?_, (hr _ _ hj').one, .rd (hr _ _ hj')⟩
  rw [add_at, cell_at hb, Nat.add_assoc]; exact hc _ _ hj'

theorem inv_ro {v : Value} {cs : List AV} {off : Nat} (r : RV F φ st w v (.ro cs off)) : ∃ β o c e fz, ∃ vs : Nat → Value, v = .pointer (some ⟨β, o + off, none⟩) ∧ SS F φ st.objs w β ∧ w.heap[β]? = some (.cells c e fz) ∧
    (∀ j av, cs[j]? = some av → c[o + j]? = some (vs j)) ∧ (∀ j av, cs[j]? = some av → RdI w.heap (SS F φ st.objs w) (vs j) av) := by
  cases r with
  | rd r => cases r
  | ro vs hS hb hc hr => exact ⟨_, _, _, _, _, vs, rfl, hS, hb, hc, hr⟩

theorem inv_pt {v : Value} {id i off : Nat} {o : Ob} (r : RV F φ st w v (.pt id i off)) (ho : st.objs id = some o) : ∃ β b, φ id = some (β, b) ∧ v = .pointer (some ⟨β, b + i * o.sz + off, none⟩) := by
  cases r with
  | rd r => cases r
  | pt hu hv hr => exact hr o ho

theorem ob_at (H : RepH F φ st.objs (· ∈ st.used) w) {id β b : Nat} {o : Ob} (ho : st.objs id = some o) (hφ : φ id = some (β, b)) :
    (∀ x ∈ o.es, x.length = o.sz) ∧ ∃ c e fz, w.heap[β]? = some (.cells c e fz) ∧ Soft c fz ∧ b + o.es.length * o.sz ≤ c.size ∧
      ∀ i j av, cellAt o.es i j = some av → ∃ v, c[b + i * o.sz + j]? = some v ∧ v.oneCell' = true ∧ RV F φ st w v av := by
  obtain ⟨h1, h | ⟨β', b', c, e, fz, g1, g2, g3, g4, g5⟩⟩ := H.ob id o ho
  · rw [h.1] at hφ; cases hφ
  · rw [g1] at hφ; cases hφ
    exact ⟨h1, c, e, fz, g2, g3, g4, g5⟩

theorem pt_cells (H : RepH F φ st.objs (· ∈ st.used) w) {id β b i off n : Nat} {o : Ob} {cs : List AV} (ho : st.objs id = some o) (hφ : φ id = some (β, b)) (hi : o.es[i]? = some cs) :
    Cells w (RV F φ st w) ⟨β, b + i * o.sz + off, none⟩ ((cs.drop off).take n) := by
  obtain ⟨_, c, e, fz, hb, _, _, hc⟩ := ob_at H ho hφ
  intro j av hj
  have hj' : cs[off + j]? = some av := by
    rw [List.getElem?_take] at hj
    split at hj
    · rwa [List.getElem?_drop] at hj
    · cases hj
  obtain ⟨v, g1, g2, g3⟩ := hc i (off + j) av (by simp [cellAt, hi, hj'])
  refine ⟨v, ?_, g2, g3⟩
  rw [add_at, cell_at hb, Nat.add_assoc]; exact g1

theorem hLoad_yields (hT : TabOk P T) (H : RepH F φ st.objs (· ∈ st.used) w) {t : Nat} {x : AV} {v : Value} {K : AV → Prop} (hk : hLoad T st.objs t x K) (r : RV F φ st w v x) :
    Yields P w (RV F φ st w) (Instr.loadAt t v) K := by
  cases x with
  | ro cs off =>
    obtain ⟨β, o, c, e, fz, vs, rfl, hS, hb, hc, hr⟩ := inv_ro r
    obtain ⟨u, av, g1, g2, g3⟩ := load_yields hT (P := P) (R := RV F φ st w) (fun arr cs h1 h2 h3 => .ag h1 h2 h3) hk (ro_cells hb hc hr)
    exact ⟨u, av, by simpa [Instr.loadAt, Instr.sureAddr] using g1, g2, g3⟩
  | pt id i off =>
    obtain ⟨o, ho, cs, hi, hk⟩ := hk
    obtain ⟨β, b, hφ, rfl⟩ := inv_pt r ho
    obtain ⟨u, av, g1, g2, g3⟩ := load_yields hT (P := P) (R := RV F φ st w) (fun arr cs h1 h2 h3 => .ag h1 h2 h3) hk (pt_cells H ho hφ hi)
    exact ⟨u, av, by simpa [Instr.loadAt, Instr.sureAddr] using g1, g2, g3⟩
  | _ => exact False.elim hk

theorem fAt_spec {fs : List (Nat × Nat)} : ∀ {f : Nat} {K : Nat → Nat → Prop}, fAt fs f K → ∃ o n, fs[f]? = some (o, n) ∧ K o n := by
  induction fs with
  | nil => intro f K h; exact h.elim
  | cons x r ih =>
    intro f K h
    cases f with
    | zero => exact ⟨x.1, x.2, rfl, h⟩
    | succ f => obtain ⟨o, n, h1, h2⟩ := ih h; exact ⟨o, n, by simpa using h1, h2⟩

theorem run_fieldAt (hT : TabOk P T) {t f : Nat} {a : Addr} {K : Nat → Nat → Prop} (hk : fTK (T t).k f K) : ∃ o n, K o n ∧ (Instr.fieldAt t (.pointer (some a)) f).run P w = .ok (.pointer (some (a.add o))) w := by
  generalize hk0 : (T t).k = k0 at hk
  cases k0 with
  | struct fs =>
    have h := hT.kinds t
    rw [hk0] at h
    obtain ⟨fields, hu, hm, hp⟩ := h
    obtain ⟨o, n, h1, h2⟩ := fAt_spec hk
    rw [← hm, List.getElem?_map] at h1
    cases hf : fields.toList[f]? with
    | none => rw [hf] at h1; cases h1
    | some fd =>
      rw [hf] at h1
      simp only [Option.map_some, Option.some.injEq, Prod.mk.injEq] at h1
      obtain ⟨i, hi, hpos⟩ := hp fd (List.mem_of_getElem? hf)
      refine ⟨o, n, h2, ?_⟩
      have hf' : fields[f]? = some fd := by simpa using hf
      have hz : ¬ i.size = 0 := by omega
      simp [Instr.fieldAt, run_underlying hu, hf', Instr.sureAddr, fieldPlace, sizeOf, typeInfo, hi, hz, h1.1]
  | _ => exact False.elim hk

theorem hField_yields (hT : TabOk P T) {t f : Nat} {x : AV} {v : Value} {K : AV → Prop} (hk : hField T t f x K) (r : RV F φ st w v x) : Yields P w (RV F φ st w) (Instr.fieldAt t v f) K := by
  cases x with
  | ro cs off =>
    obtain ⟨β, o, c, e, fz, vs, rfl, hS, hb, hc, hr⟩ := inv_ro r
    obtain ⟨fo, n, h1, h2⟩ := run_fieldAt (P := P) (w := w) hT (a := ⟨β, o + off, none⟩) hk
    refine ⟨_, _, h2, ?_, h1⟩
    rw [add_at, Nat.add_assoc]; exact .ro vs hS hb hc hr
  | pt id i off =>
    cases r with
    | rd r => cases r
    | pt hu hv hr =>
      obtain ⟨a, rfl⟩ := hv
      obtain ⟨fo, n, h1, h2⟩ := run_fieldAt (P := P) (w := w) hT (a := a) hk
      refine ⟨_, _, h2, .pt hu ⟨_, rfl⟩ fun o ho => ?_, h1⟩
      obtain ⟨β, b, g1, g2⟩ := hr o ho
      cases g2
      exact ⟨β, b, g1, by rw [add_at, Nat.add_assoc]⟩
  | _ => exact False.elim hk

theorem sTK_spec {k : TK} {K : Nat → Prop} (h : sTK k K) : ∃ e, k = .slice e ∧ K e := by
  unfold sTK at h; split at h
  · exact ⟨_, rfl, h⟩
  · exact h.elim

theorem run_indexAt (hT : TabOk P T) {t e : Nat} (ht : (T t).k = .slice e) (he : (T e).k.known = true) {a : Addr} {len cap : Nat} {k : IntKind} {i : Int} (h0 : 0 ≤ i) (h1 : i < len) :
    (Instr.indexAt t (.slice (some a) len cap) (.int k i)).run P w = .ok (.pointer (some (a.add (i.toNat * (T e).size)))) w := by
  have h := hT.kinds t
  rw [ht] at h
  simp only [KOk] at h
  simp [Instr.indexAt, asIntOf, run_underlying h, h0, h1, run_sizeOf_tab hT he]

theorem inv_im {v : Value} {sz : Nat} {es : List (List AV)} (r : RV F φ st w v (.im sz es)) :
    (es = [] ∧ ∃ a cap, v = .slice a 0 cap) ∨ ∃ β o cap c e fz, ∃ vs : Nat → Nat → Value, v = .slice (some ⟨β, o, none⟩) es.length cap ∧ SS F φ st.objs w β ∧ w.heap[β]? = some (.cells c e fz) ∧ es.length ≤ cap ∧
      (∀ x ∈ es, x.length = sz) ∧ (∀ i j av, cellAt es i j = some av → c[o + i * sz + j]? = some (vs i j)) ∧ (∀ i j av, cellAt es i j = some av → RdI w.heap (SS F φ st.objs w) (vs i j) av) := by
  cases r with
  | rd r =>
    cases r with
    | im0 a cap sz => exact .inl ⟨rfl, a, cap, rfl⟩
    | im vs hS hb hcap hsz hc hr => exact .inr ⟨_, _, _, _, _, _, vs, rfl, hS, hb, hcap, hsz, hc, hr⟩

theorem known_of_size (hT : TabOk P T) {e : Nat} (h : (T e).k.known = true) : 0 < (T e).size := by
  obtain ⟨i, z, h⟩ := hT.infos e h; exact h.pos

theorem hIdx_yields (hT : TabOk P T) (hE : ∀ t e, (T t).k = .slice e → (T e).k.known = true) {t : Nat} {x y : AV} {v u : Value} {K : AV → Prop} (hk : hIdx T st.objs t x y K) (r : RV F φ st w v x) (ry : RV F φ st w u y) :
    Yields P w (RV F φ st w) (Instr.indexAt t v u) K := by
  unfold hIdx at hk
  split at hk
  · rename_i sz es k i
    obtain ⟨e, ht, ⟨hsze, h0⟩, cs, hcs, hk⟩ := sTK_spec hk
    have hlt := (List.getElem?_eq_some_iff.1 hcs).1
    rw [inv_pr ry]
    rcases inv_im r with ⟨rfl, _⟩ | ⟨β, o, cap, c, e', fz, vs, rfl, hS, hb, hcap, hsz, hc, hr⟩
    · simp at hlt
    · refine ⟨_, _, run_indexAt hT ht (hE t e ht) h0 (by omega), ?_, hk⟩
      rw [add_at]
      have hcell : ∀ j av, cs[j]? = some av → cellAt es i.toNat j = some av := fun j av hj => by simp [cellAt, hcs, hj]
      exact .ro (off := 0) (fun j => vs i.toNat j) hS hb (fun j av hj => by rw [← hsze]; exact hc _ _ _ (hcell j av hj)) (fun j av hj => hr _ _ _ (hcell j av hj))
  · rename_i id off len k i
    obtain ⟨e, ht, ⟨h0, h1⟩, o, ho, hsz, hk⟩ := sTK_spec hk
    rw [inv_pr ry]
    cases r with
    | rd r => cases r
    | rf hu hv hr =>
      obtain ⟨g1, g2⟩ := hr o ho
      rcases g2 with ⟨rfl, _⟩ | ⟨β, b, cap, c, e', fz, k1, k2, rfl, k4, k5⟩
      · simp at h1; omega
      · refine ⟨_, _, run_indexAt hT ht (hE t e ht) h0 h1, .pt hu ⟨_, rfl⟩ fun o' ho' => ⟨β, b, k1, ?_⟩, hk⟩
        rw [ho] at ho'; cases ho'
        rw [add_at, ← hsz, Nat.add_assoc, ← Nat.add_mul]; rfl
  · exact hk.elim

/-- A value's cells. -/
def cellsOf : AV → (List AV → Prop) → Prop
  | .ag cs, K => K cs
  | .un, _ => False
  | .tu _, _ => False
  | v, K => K [v]
@[congr] theorem cellsOf_congr {x y : AV} {K : List AV → Prop} {p00 : Prop} (_h00 : (True ∧ True) = p00) (h : x = y) : cellsOf x K = cellsOf y K := by rw [h]

theorem RepV.one' {φ obs U h S} {v : Value} {av : AV} (r : RepV φ obs U h S v av) (h1 : av ≠ .un) (h2 : ∀ cs, av ≠ .ag cs) (h3 : ∀ vs, av ≠ .tu vs) : v.oneCell' = true := by
  cases r with
  | un => exact absurd rfl h1
  | rd r => exact r.one
  | rf hu hv hr => obtain ⟨a, c, rfl, _⟩ := hv; rfl
  | pt hu hv hr => obtain ⟨a, rfl⟩ := hv; rfl
  | ro => rfl
  | ag => exact absurd rfl (h2 _)
  | tu => exact absurd rfl (h3 _)
  | fn => rfl

theorem cells_one {v : Value} (h : v.oneCell' = true) : v.cells = #[v] := by cases v <;> simp_all [Value.cells, Value.oneCell']

theorem cellsOf_spec {φ obs U h S} {x : AV} {v : Value} {K : List AV → Prop} (hk : cellsOf x K) (r : RepV φ obs U h S v x) :
    ∃ cs : List AV, K cs ∧ v.cells.size = cs.length ∧ (∀ c ∈ v.cells.toList, c.oneCell' = true) ∧ ∀ (j : Nat) (av : AV), cs[j]? = some av → ∃ u : Value, v.cells[j]? = some u ∧ u.oneCell' = true ∧ RepV φ obs U h S u av := by
  unfold cellsOf at hk
  have single : ∀ {y : AV}, RepV φ obs U h S v y → v.oneCell' = true → v.cells.size = [y].length ∧ (∀ c ∈ v.cells.toList, c.oneCell' = true) ∧
      ∀ (j : Nat) (av : AV), [y][j]? = some av → ∃ u : Value, v.cells[j]? = some u ∧ u.oneCell' = true ∧ RepV φ obs U h S u av := by
    intro y ry hv
    rw [cells_one hv]
    refine ⟨rfl, by simp [hv], fun j av hj => ?_⟩
    cases j with
    | zero => simp at hj; subst hj; exact ⟨v, rfl, hv, ry⟩
    | succ j => simp at hj
  split at hk
  · rename_i cs
    cases r with
    | rd r => cases r
    | ag hs h1 hr =>
      rename_i arr
      refine ⟨cs, hk, hs, fun c hc => ?_, fun j av hj => ?_⟩
      · obtain ⟨j, hj, rfl⟩ := List.mem_iff_getElem.1 hc
        simp [Value.cells] at hj
        have := h1 j hj; simpa [hj, Value.cells] using this
      · have hj' := (List.getElem?_eq_some_iff.1 hj).1
        have hj2 : j < arr.size := by omega
        have := hr j av hj
        simp [hj2] at this
        exact ⟨arr[j], by simp [Value.cells, hj2], by have := h1 j hj2; simpa [hj2] using this, this⟩
  · exact hk.elim
  · exact hk.elim
  · rename_i h1 h2 h3
    obtain ⟨a, b, c⟩ := single r (r.one' h2 (fun cs e => h1 cs e) (fun vs e => h3 vs e))
    exact ⟨_, hk, a, b, c⟩

/-- Cells, with some of them turned. -/
def splice (cs : List AV) (off : Nat) (new : List AV) : List AV := cs.take off ++ new ++ cs.drop (off + new.length)

theorem splice_length {cs new : List AV} {off : Nat} (h : off + new.length ≤ cs.length) : (splice cs off new).length = cs.length := by simp [splice]; omega
theorem splice_get {cs new : List AV} {off : Nat} (h : off + new.length ≤ cs.length) (j : Nat) : (splice cs off new)[j]? = if off ≤ j ∧ j < off + new.length then new[j - off]? else cs[j]? := by
  have hm : (cs.take off).length = off := by rw [List.length_take]; omega
  simp only [splice, List.append_assoc, List.getElem?_append, hm, List.getElem?_take, List.getElem?_drop]
  by_cases h1 : j < off
  · simp only [h1, if_true]; rw [if_neg (by omega)]
  · simp only [h1, if_false]
    by_cases h2 : j - off < new.length
    · rw [if_pos h2, if_pos (by omega)]
    · rw [if_neg h2, if_neg (by omega)]; congr 1; omega

def hStore (T : Nat → TI) (st : St) (t : Nat) : AV → AV → (St → Prop) → Prop
  | .pt id i off, v, K => OB (st.objs id) fun o => EL o.es i fun cs => cellsOf v fun new => ((T t).k.known = true ∧ new.length = (T t).size ∧ off + new.length ≤ cs.length) ∧
      K { st with objs := upd st.objs id (some { o with es := o.es.set i (splice cs off new) }) }
  | _, _, _ => False
@[congr] theorem hStore_congr {T : Nat → TI} {st : St} {t : Nat} {x y x' y' : AV} {K : St → Prop} {p00 : Prop} (_h00 : (True ∧ True) = p00) (h : x = x') (h2 : y = y') : hStore T st t x y K = hStore T st t x' y' K := by rw [h, h2]

theorem putAt_len {c : Array Value} {o : Nat} {l : List Value} : (putAt c o l).size = c.size := putAt_size l c o

theorem hStore_goes (hT : TabOk P T) (H : RepH F φ st.objs (· ∈ st.used) w) {t : Nat} {x y : AV} {v u : Value} {K : St → Prop} (hk : hStore T st t x y K) (r : RV F φ st w v x) (ry : RV F φ st w u y) :
    ∃ (objs' : Nat → Option Ob) (w' : World), (Instr.storeAt t v u).run P w = .ok () w' ∧ K { st with objs := objs' } ∧ Goes φ φ st.objs objs' (· ∈ st.used) (· ∈ st.used) w w' ∧ RepH F φ objs' (· ∈ st.used) w' := by
  cases x with
  | pt id i off =>
    obtain ⟨o, ho, cs, hi, hk⟩ := hk
    obtain ⟨β, b, hφ, rfl⟩ := inv_pt r ho
    obtain ⟨new, ⟨⟨hkn, hn1, hn2⟩, hk⟩, hc1, hc2, hc3⟩ := cellsOf_spec hk ry
    obtain ⟨hel, c, e, fz, hb, hsoft, hfit, hc⟩ := ob_at H ho hφ
    have hilt := (List.getElem?_eq_some_iff.1 hi).1
    have hcsl : cs.length = o.sz := hel cs (List.mem_of_getElem? hi)
    have hbound : b + i * o.sz + off + u.cells.toList.length ≤ c.size := by
      have : (i + 1) * o.sz ≤ o.es.length * o.sz := Nat.mul_le_mul_right _ hilt
      rw [Nat.add_mul] at this
      simp [hc1]; omega
    refine ⟨_, World.setBlk w β (putAt c (b + i * o.sz + off) u.cells.toList) e fz, ?_, hk, ?_⟩
    · have : ¬ u.cells.size ≠ (T t).size := by omega
      simp only [Instr.storeAt, Instr.sureAddr, storeVar, Sem.run_bind, Sem.run_pure, Result.andThen_ok, run_sizeOf_tab hT hkn, if_neg this]
      exact run_storeCells_blk (b + i * o.sz + off) u.cells.toList 0 w c hb hsoft (by simpa using hbound) hc2
    · have hs := Rep.set (o' := { o with es := o.es.set i (splice cs off new) }) H ho hφ hb hsoft rfl (by simp) (putAt_len (c := c) (o := b + i * o.sz + off) (l := u.cells.toList)) ?_ ?_ ?_ rfl
      · exact hs
      · intro x hx
        rcases List.mem_or_eq_of_mem_set hx with h | h
        · exact hel x h
        · rw [h, splice_length hn2]; exact hcsl
      · rw [putAt_len]; simpa using hfit
      · intro k j av hkj
        simp only [cellAt, List.getElem?_set] at hkj
        rw [putAt_get _ _ _ _ hbound]
        by_cases hki : i = k
        · subst hki
          simp only [if_true, hilt] at hkj
          rw [Option.bind_some, splice_get hn2] at hkj
          by_cases hj : off ≤ j ∧ j < off + new.length
          · rw [if_pos hj] at hkj
            obtain ⟨v', g1, g2, g3⟩ := hc3 _ _ hkj
            refine ⟨v', ?_, g2, g3⟩
            rw [if_pos (by simp only [Array.length_toList]; omega), show b + i * o.sz + j - (b + i * o.sz + off) = j - off by omega]
            simpa using g1
          · rw [if_neg hj] at hkj
            obtain ⟨v', g1, g2, g3⟩ := hc i j av (by simp [cellAt, hi, hkj])
            refine ⟨v', ?_, g2, g3⟩
            rw [if_neg (by simp only [Array.length_toList]; omega)]; exact g1
        · rw [if_neg hki] at hkj
          obtain ⟨v', g1, g2, g3⟩ := hc k j av hkj
          refine ⟨v', ?_, g2, g3⟩
          have hjlt : j < o.sz := by
            cases hk2 : o.es[k]? with
            | none => rw [hk2] at hkj; cases hkj
            | some x => rw [hk2] at hkj; have := (List.getElem?_eq_some_iff.1 hkj).1; rw [hel x (List.mem_of_getElem? hk2)] at this; exact this
          rw [if_neg ?_]; exact g1
          simp only [Array.length_toList]
          rintro ⟨a1, a2⟩
          have a3 : off + new.length ≤ o.sz := by omega
          rcases Nat.lt_or_gt_of_ne hki with h | h
          · have : (i + 1) * o.sz ≤ k * o.sz := Nat.mul_le_mul_right _ h
            rw [Nat.add_mul] at this; omega
          · have : (k + 1) * o.sz ≤ i * o.sz := Nat.mul_le_mul_right _ h
            rw [Nat.add_mul] at this; omega
  | _ => exact False.elim hk
end
end Go.Vc
