/- Memory: cuts, appends, makes, literals. Part of a framework of abstract values and states, over the model, for proofs of functions; it has no conditions of its own. -/
import Derived.Test.YtpipfaegkgakiaaVcD
import Derived.Laws.Append
import Derived.Laws.Tables
set_option linter.all false
/-! Memory: cuts, appends, makes, literals. -/
namespace Go.Vc

def optI : Option AV → Int → (Int → Prop) → Prop
  | none, d, K => K d
  | some (.pr (.int _ i)), _, K => K i
  | _, _, _ => False
@[congr] theorem optI_congr {x y : Option AV} {d d' : Int} {K : Int → Prop} {p00 : Prop} (_h00 : (True ∧ True) = p00) (h : x = y) (h2 : d = d') : optI x d K = optI y d' K := by rw [h, h2]

/-- How long a slice is. -/
def lenI : AV → (Int → Prop) → Prop
  | .nl, K => K 0
  | .im _ es, K => K es.length
  | .rf _ _ n, K => K n
  | .pr (.string s), K => K s.size
  | _, _ => False
@[congr] theorem lenI_congr {x y : AV} {K : Int → Prop} {p00 : Prop} (_h00 : (True ∧ True) = p00) (h : x = y) : lenI x K = lenI y K := by rw [h]

def cutA (T : Nat → TI) (t : Nat) (l h : Int) : AV → (AV → Prop) → Prop
  | .nl, K => (∃ e, (T t).k = .slice e) ∧ K .nl
  | .im sz es, K => sTK (T t).k fun e => sz = (T e).size ∧ K (.im sz ((es.take h.toNat).drop l.toNat))
  | .rf id off _, K => sTK (T t).k fun _ => K (.rf id (off + l.toNat) (h.toNat - l.toNat))
  | .pr (.string s), K => (T t).k = .str ∧ K (.pr (.string (s.extract l.toNat h.toNat)))
  | _, _ => False
@[congr] theorem cutA_congr {T : Nat → TI} {t : Nat} {l h l' h' : Int} {x y : AV} {K : AV → Prop} {p00 : Prop} (_h00 : (True ∧ True) = p00) (e1 : l = l') (e2 : h = h') (e3 : x = y) : cutA T t l h x K = cutA T t l' h' y K := by rw [e1, e2, e3]

def obSz (T : Nat → TI) (t : Nat) (objs : Nat → Option Ob) : AV → Prop
  | .rf id _ _ => sTK (T t).k fun e => OB (objs id) fun o => o.sz = (T e).size
  | _ => True

def hSlice (T : Nat → TI) (objs : Nat → Option Ob) (t : Nat) (x : AV) (lo hi : Option AV) (K : AV → Prop) : Prop :=
  lenI x fun n => optI lo 0 fun l => optI hi n fun h => (0 ≤ l ∧ l ≤ h ∧ h ≤ n) ∧ obSz T t objs x ∧ cutA T t l h x K
@[congr] theorem hSlice_congr {T : Nat → TI} {objs : Nat → Option Ob} {t : Nat} {x y : AV} {lo hi lo' hi' : Option AV} {K : AV → Prop} {p00 : Prop} (_h00 : (True ∧ True) = p00) (h : x = y) (h1 : lo = lo') (h2 : hi = hi') :
    hSlice T objs t x lo hi K = hSlice T objs t y lo' hi' K := by rw [h, h1, h2]

section
variable {P : Program} {T : Nat → TI} {F : Fr} {φ : Nat → Option (Nat × Nat)} {st : St} {w : World}

theorem lenI_spec {x : AV} {K : Int → Prop} (h : lenI x K) : (x = .nl ∧ K 0) ∨ (∃ sz es, x = .im sz es ∧ K es.length) ∨ (∃ id off n, x = .rf id off n ∧ K n) ∨ ∃ s : ByteArray, x = .pr (.string s) ∧ K s.size := by
  unfold lenI at h
  split at h
  · exact .inl ⟨rfl, h⟩
  · exact .inr (.inl ⟨_, _, rfl, h⟩)
  · exact .inr (.inr (.inl ⟨_, _, _, rfl, h⟩))
  · exact .inr (.inr (.inr ⟨_, rfl, h⟩))
  · exact h.elim

theorem rv_len {v : Value} {x : AV} {K : Int → Prop} (h : lenI x K) (r : RV F φ st w v x) : (∃ (a : Option Addr) (n cap : Nat), v = .slice a n cap ∧ K n) ∨ ∃ s : ByteArray, v = .string s ∧ K s.size := by
  rcases lenI_spec h with ⟨rfl, h⟩ | ⟨sz, es, rfl, h⟩ | ⟨id, off, n, rfl, h⟩ | ⟨s, rfl, h⟩
  · cases r with | rd r => cases r; exact .inl ⟨none, 0, 0, rfl, h⟩
  · rcases inv_im r with ⟨rfl, a, cap, rfl⟩ | ⟨β, o, cap, c, e, fz, vs, rfl, _⟩
    · exact .inl ⟨a, 0, cap, rfl, h⟩
    · exact .inl ⟨_, _, cap, rfl, h⟩
  · cases r with
    | rd r => cases r
    | rf hu hv hr => obtain ⟨a, cap, rfl, _⟩ := hv; exact .inl ⟨a, n, cap, rfl, h⟩
  · rw [inv_pr r]; exact .inr ⟨s, rfl, h⟩

theorem run_sliceBounds {isS : Bool} {len cap : Nat} {lo hi : Option Value} {l h : Nat}
    (hlo : (lo = none ∧ l = 0) ∨ ∃ k, lo = some (.int k l)) (hhi : (hi = none ∧ h = len) ∨ ∃ k, hi = some (.int k h)) (h1 : l ≤ h) (h2 : h ≤ cap) :
    (Instr.sliceBounds isS len cap lo hi none).run P w = .ok (l, h, cap) w := by
  rcases hlo with ⟨rfl, rfl⟩ | ⟨k, rfl⟩ <;> rcases hhi with ⟨rfl, rfl⟩ | ⟨k', rfl⟩ <;>
    simp [Instr.sliceBounds, Instr.sliceBound, asIntOf, h1, h2]

theorem hSlice_yields (hT : TabOk P T) (hE : ∀ t e, (T t).k = .slice e → (T e).k.known = true) {t : Nat} {x : AV} {lo hi : Option AV} {v : Value} {vlo vhi : Option Value} {K : AV → Prop}
    (hk : hSlice T st.objs t x lo hi K) (r : RV F φ st w v x)
    (rlo : (lo = none ∧ vlo = none) ∨ ∃ a b, lo = some a ∧ vlo = some b ∧ RV F φ st w b a)
    (rhi : (hi = none ∧ vhi = none) ∨ ∃ a b, hi = some a ∧ vhi = some b ∧ RV F φ st w b a) : Yields P w (RV F φ st w) (Instr.sliceAt t v vlo vhi none) K := by
  have getI : ∀ {o : Option AV} {vo : Option Value} {d : Int} {K' : Int → Prop}, optI o d K' → ((o = none ∧ vo = none) ∨ ∃ a b, o = some a ∧ vo = some b ∧ RV F φ st w b a) →
      ∃ i : Int, K' i ∧ ((vo = none ∧ i = d) ∨ ∃ k, vo = some (.int k i)) := by
    intro o vo d K' ho ro
    rcases ro with ⟨rfl, rfl⟩ | ⟨a, b, rfl, rfl, rb⟩
    · exact ⟨d, ho, .inl ⟨rfl, rfl⟩⟩
    · unfold optI at ho
      split at ho
      · rename_i h; cases h
      · rename_i k i _ h; cases h; rw [inv_pr rb]; exact ⟨_, ho, .inr ⟨_, rfl⟩⟩
      · exact ho.elim
  unfold hSlice at hk
  have fin : ∀ (n : Nat), (optI lo 0 fun l => optI hi n fun h => (0 ≤ l ∧ l ≤ h ∧ h ≤ n) ∧ obSz T t st.objs x ∧ cutA T t l h x K) →
      ∃ l h : Nat, l ≤ h ∧ h ≤ n ∧ obSz T t st.objs x ∧ cutA T t l h x K ∧ ((vlo = none ∧ l = 0) ∨ ∃ k, vlo = some (.int k l)) ∧ ((vhi = none ∧ h = n) ∨ ∃ k, vhi = some (.int k h)) := by
    intro n hk
    obtain ⟨l, hk, hl⟩ := getI hk rlo
    obtain ⟨h, ⟨⟨h0, h1, h2⟩, hs, hk⟩, hh⟩ := getI hk rhi
    obtain ⟨l, rfl⟩ := Int.eq_ofNat_of_zero_le h0
    obtain ⟨h, rfl⟩ := Int.eq_ofNat_of_zero_le (Int.le_trans h0 h1)
    refine ⟨l, h, by omega, by omega, hs, hk, ?_, ?_⟩
    · rcases hl with ⟨a, b⟩ | b
      · exact .inl ⟨a, by omega⟩
      · exact .inr b
    · rcases hh with ⟨a, b⟩ | b
      · exact .inl ⟨a, by omega⟩
      · exact .inr b
  rcases lenI_spec hk with ⟨rfl, hk⟩ | ⟨sz, es, rfl, hk⟩ | ⟨id, off, n, rfl, hk⟩ | ⟨s, rfl, hk⟩
  · obtain ⟨l, h, h1, h2, _, ⟨⟨e, ht⟩, hc⟩, hl, hh⟩ := fin 0 hk
    have hl0 : l = 0 := by omega
    have hh0 : h = 0 := by omega
    subst hl0; subst hh0
    have hu := hT.kinds t; rw [ht] at hu; simp only [KOk] at hu
    obtain ⟨i, z, hi'⟩ := hT.infos e (hE t e ht)
    cases r with | rd r =>
    cases r
    refine ⟨_, _, ?_, .rd .nl, hc⟩
    simp [Instr.sliceAt, Instr.slice, run_underlying hu, run_sliceBounds (P := P) (w := w) (isS := true) hl hh h1 (Nat.le_refl 0), run_sizeOf_tab hT (hE t e ht)]
  · obtain ⟨l, h, h1, h2, _, hc, hl, hh⟩ := fin es.length hk
    obtain ⟨e, ht, hsz, hc⟩ := sTK_spec hc
    have hu := hT.kinds t; rw [ht] at hu; simp only [KOk] at hu
    have sl : ∀ {a : Option Addr} {cap : Nat}, es.length ≤ cap → (Instr.sliceAt t (.slice a es.length cap) vlo vhi none).run P w = .ok (.slice (if cap = l then a else a.map (·.add (l * (T e).size))) (h - l) (cap - l)) w := by
      intro a cap hcap
      simp [Instr.sliceAt, Instr.slice, run_underlying hu, run_sliceBounds (P := P) (w := w) (isS := true) hl hh h1 (by omega : h ≤ cap), run_sizeOf_tab hT (hE t e ht)]
    rcases inv_im r with ⟨rfl, a, cap, rfl⟩ | ⟨β, o, cap, c, e', fz, vs, rfl, hS, hb, hcap, hszs, hcc, hr⟩
    · refine ⟨_, _, sl (Nat.zero_le _), ?_, hc⟩
      have : h - l = 0 := by simp at h2; omega
      rw [this]; simp only [List.take_nil, List.drop_nil]; exact .rd (.im0 _ _ _)
    · refine ⟨_, _, sl hcap, ?_, hc⟩
      simp only [Int.toNat_natCast]
      by_cases hlh : l = h
      · subst hlh
        have : (List.take l es).drop l = [] := List.drop_of_length_le (by simp; omega)
        rw [Nat.sub_self, this]; exact .rd (.im0 _ _ _)
      · have hlc : ¬ cap = l := by omega
        rw [if_neg hlc]
        simp only [Option.map_some, add_at]
        have hlen : ((List.take h es).drop l).length = h - l := by simp; omega
        rw [← hlen]
        have hcell : ∀ i j av, cellAt ((List.take h es).drop l) i j = some av → cellAt es (l + i) j = some av := by
          intro i j av hij
          simp only [cellAt, List.getElem?_drop, List.getElem?_take] at hij ⊢
          split at hij
          · exact hij
          · cases hij
        refine .rd (.im (fun i j => vs (l + i) j) hS hb (by rw [hlen]; omega) (fun x hx => hszs x (List.mem_of_mem_take (List.mem_of_mem_drop hx))) (fun i j av hij => ?_) fun i j av hij => hr _ _ _ (hcell i j av hij))
        rw [← hsz, Nat.add_assoc o, ← Nat.add_mul]; exact hcc _ _ _ (hcell i j av hij)
  · obtain ⟨l, h, h1, h2, hob, hc, hl, hh⟩ := fin n hk
    obtain ⟨e, ht, o, ho, hsz⟩ := sTK_spec hob
    have hu := hT.kinds t; rw [ht] at hu; simp only [KOk] at hu
    have sl : ∀ {a : Option Addr} {cap : Nat}, n ≤ cap → (Instr.sliceAt t (.slice a n cap) vlo vhi none).run P w = .ok (.slice (if cap = l then a else a.map (·.add (l * (T e).size))) (h - l) (cap - l)) w := by
      intro a cap hcap
      simp [Instr.sliceAt, Instr.slice, run_underlying hu, run_sliceBounds (P := P) (w := w) (isS := true) hl hh h1 (by omega : h ≤ cap), run_sizeOf_tab hT (hE t e ht)]
    cases r with
    | rd r => cases r
    | rf hu' hv hr =>
      obtain ⟨g1, g2⟩ := hr o ho
      rcases g2 with ⟨rfl, a, rfl⟩ | ⟨β, b, cap, c, e', fz, k1, k2, rfl, k4, k5⟩
      · have hl0 : l = 0 := by omega
        have hh0 : h = 0 := by omega
        subst hl0; subst hh0
        refine ⟨_, .rf id (off + (0 : Int).toNat) ((0 : Int).toNat - (0 : Int).toNat), sl (Nat.le_refl 0), .rf hu' ⟨_, _, rfl, fun _ => rfl⟩ fun o' ho' => ?_, by simpa [cutA, ht, sTK] using hc⟩
        rw [ho] at ho'; cases ho'
        exact ⟨by simpa using g1, .inl ⟨rfl, a, by simp⟩⟩
      · obtain ⟨_, _, hc⟩ := sTK_spec hc
        refine ⟨_, _, sl k4, .rf hu' ⟨_, _, rfl, ?_⟩ fun o' ho' => ?_, hc⟩
        · intro hn
          split at hn <;> simp at hn
        · rw [ho] at ho'; cases ho'
          simp only [Int.toNat_natCast]
          refine ⟨by omega, ?_⟩
          by_cases hcl : cap = l
          · left; exact ⟨by omega, _, by rw [if_pos hcl, show h - l = 0 by omega, show cap - l = 0 by omega]⟩
          · right
            refine ⟨β, b, cap - l, c, e', fz, k1, k2, ?_, by omega, ?_⟩
            · rw [if_neg hcl]; simp only [Option.map_some, add_at]
              rw [← hsz, Nat.add_assoc b, ← Nat.add_mul]
            · rw [show off + l + (cap - l) = off + cap by omega]; exact k5
  · obtain ⟨l, h, h1, h2, _, ⟨ht, hc⟩, hl, hh⟩ := fin s.size hk
    have hu := hT.kinds t; rw [ht] at hu; simp only [KOk] at hu
    rw [inv_pr r]
    refine ⟨_, _, ?_, .rd (.pr _ rfl), hc⟩
    simp [Instr.sliceAt, Instr.slice, run_underlying hu, run_sliceBounds (P := P) (w := w) (isS := false) hl hh h1 h2]

/-- A row of cells is these elements. -/
structure Row (R : Value → AV → Prop) (sz : Nat) (es : List (List AV)) (arr : Array Value) : Prop where
  size : arr.size = es.length * sz
  one : ∀ k, k < arr.size → (arr.getD k undef).oneCell' = true
  el : ∀ x ∈ es, x.length = sz
  cell : ∀ i j av, cellAt es i j = some av → R (arr.getD (i * sz + j) undef) av

def appSrc (objs : Nat → Option Ob) (sz : Nat) : AV → (List (List AV) → Prop) → Prop
  | .nl, K => K []
  | .im s es, K => s = sz ∧ K es
  | .rf id off len, K => OB (objs id) fun o => o.sz = sz ∧ K ((o.es.drop off).take len)
  | _, _ => False
@[congr] theorem appSrc_congr {objs : Nat → Option Ob} {sz sz' : Nat} {x y : AV} {K : List (List AV) → Prop} {p00 : Prop} (_h00 : (True ∧ True) = p00) (h : x = y) (h2 : sz = sz') : appSrc objs sz x K = appSrc objs sz' y K := by rw [h, h2]

theorem cellAt_lt {es : List (List AV)} {sz i j : Nat} {av : AV} (hsz : ∀ x ∈ es, x.length = sz) (h : cellAt es i j = some av) : i < es.length ∧ j < sz := by
  unfold cellAt at h
  cases he : es[i]? with
  | none => rw [he] at h; cases h
  | some x =>
    rw [he] at h
    refine ⟨(List.getElem?_eq_some_iff.1 he).1, ?_⟩
    have := (List.getElem?_eq_some_iff.1 h).1
    rwa [hsz x (List.mem_of_getElem? he)] at this

theorem cellAt_some {es : List (List AV)} {sz i j : Nat} (hsz : ∀ x ∈ es, x.length = sz) (hi : i < es.length) (hj : j < sz) : ∃ av, cellAt es i j = some av := by
  have h1 : es[i]? = some es[i] := List.getElem?_eq_getElem hi
  have h2 : j < es[i].length := by rw [hsz _ (List.getElem_mem hi)]; exact hj
  exact ⟨es[i][j], by simp [cellAt, h1, h2]⟩

/-- Reading rows out of memory. -/
theorem run_loadRow {β b sz : Nat} {es : List (List AV)} {R : Value → AV → Prop} (hpos : 0 < sz) (hsz : ∀ x ∈ es, x.length = sz)
    (hc : ∀ i j av, cellAt es i j = some av → ∃ v, w.cell? ⟨β, b + i * sz + j, none⟩ = some v ∧ v.oneCell' = true ∧ R v av) :
    ∃ arr, (∀ w' : World, w'.heap = w.heap → (loadCells ⟨β, b, none⟩ (es.length * sz)).run P w' = .ok arr w') ∧ Row R sz es arr := by
  have hk : ∀ k, k < es.length * sz → ∃ v, w.cell? ⟨β, b + k, none⟩ = some v ∧ v.oneCell' = true := by
    intro k hk
    have hi : k / sz < es.length := by rw [Nat.div_lt_iff_lt_mul hpos]; exact hk
    have hj : k % sz < sz := Nat.mod_lt _ hpos
    obtain ⟨av, hav⟩ := cellAt_some hsz hi hj
    obtain ⟨v, h1, h2, _⟩ := hc _ _ _ hav
    refine ⟨v, ?_, h2⟩
    have : b + k / sz * sz + k % sz = b + k := by have := Nat.div_add_mod k sz; rw [Nat.mul_comm] at this; omega
    rwa [this] at h1
  refine ⟨((List.range (es.length * sz)).map fun j => (w.cell? ⟨β, b + j, none⟩).getD undef).toArray, ?_, ⟨by simp, ?_, hsz, ?_⟩⟩
  · exact fun w' hw' => run_loadCells w' _ _ _ fun j hj => by
      obtain ⟨v, h1, _⟩ := hk j hj
      have : w'.cell? ⟨β, b + j, none⟩ = w.cell? ⟨β, b + j, none⟩ := by simp [World.cell?, hw']
      rw [add_at, this, h1]; rfl
  · intro k hk'
    simp at hk'
    obtain ⟨v, h1, h2⟩ := hk k hk'
    simp [hk', h1, h2]
  · intro i j av hij
    obtain ⟨hi, hj⟩ := cellAt_lt hsz hij
    obtain ⟨v, h1, h2, h3⟩ := hc i j av hij
    have hlt : i * sz + j < es.length * sz := by
      have : (i + 1) * sz ≤ es.length * sz := Nat.mul_le_mul_right _ hi
      rw [Nat.add_mul] at this; omega
    rw [Nat.add_assoc] at h1
    simp [hlt, h1, h3]

theorem appSrc_spec (H : RepH F φ st.objs (· ∈ st.used) w) {sz : Nat} (hpos : 0 < sz) {x : AV} {v : Value} {K : List (List AV) → Prop} (hk : appSrc st.objs sz x K) (r : RV F φ st w v x) :
    ∃ es arr a cap, K es ∧ v = .slice a es.length cap ∧ (∀ w' : World, w'.heap = w.heap → (Builtin.firstCells sz es.length v).run P w' = .ok arr w') ∧ Row (RV F φ st w) sz es arr := by
  have empty : Row (RV F φ st w) sz [] #[] := ⟨by simp, by simp, by simp, fun i j av h => by simp [cellAt] at h⟩
  unfold appSrc at hk
  split at hk
  · cases r with | rd r =>
    cases r
    exact ⟨[], #[], none, 0, hk, rfl, by intro w' _; simp [Builtin.firstCells], empty⟩
  · obtain ⟨rfl, hk⟩ := hk
    rcases inv_im r with ⟨rfl, a, cap, rfl⟩ | ⟨β, o, cap, c, e', fz, vs, rfl, hS, hb, hcap, hszs, hcc, hr⟩
    · refine ⟨[], #[], a, cap, hk, rfl, ?_, empty⟩
      intro w' _; cases a <;> simp [Builtin.firstCells, loadCells, loadCellsFrom]
    · obtain ⟨arr, h1, h2⟩ := run_loadRow (P := P) (w := w) (β := β) (b := o) (R := RV F φ st w) hpos hszs (fun i j av hij => ⟨vs i j, by rw [cell_at hb]; exact hcc i j av hij, (hr i j av hij).one, .rd (hr i j av hij)⟩)
      exact ⟨_, arr, _, cap, hk, rfl, by simpa [Builtin.firstCells] using h1, h2⟩
  · rename_i id off len
    obtain ⟨o, ho, rfl, hk⟩ := hk
    cases r with
    | rd r => cases r
    | rf hu' hv hr =>
      obtain ⟨g1, g2⟩ := hr o ho
      have hl : ((o.es.drop off).take len).length = len := by simp; omega
      rcases g2 with ⟨rfl, a, rfl⟩ | ⟨β, b, cap, c, e', fz, k1, k2, rfl, k4, k5⟩
      · refine ⟨_, #[], a, 0, hk, by rw [hl], ?_, by simpa using empty⟩
        rw [hl]; intro w' _; cases a <;> simp [Builtin.firstCells, loadCells, loadCellsFrom]
      · obtain ⟨hel, c', e'', fz', hb, hsoft, hfit, hcc⟩ := ob_at H ho k1
        obtain ⟨arr, h1, h2⟩ := run_loadRow (P := P) (w := w) (β := β) (b := b + off * o.sz) (R := RV F φ st w) hpos (es := (o.es.drop off).take len) (fun x hx => hel x (List.mem_of_mem_drop (List.mem_of_mem_take hx)))
          (fun i j av hij => by
            have hij' : cellAt o.es (off + i) j = some av := by
              simp only [cellAt, List.getElem?_take, List.getElem?_drop] at hij ⊢
              split at hij
              · exact hij
              · cases hij
            obtain ⟨v, m1, m2, m3⟩ := hcc _ _ _ hij'
            refine ⟨v, ?_, m2, m3⟩
            rw [cell_at hb, Nat.add_assoc b, ← Nat.add_mul]; exact m1)
        exact ⟨_, arr, _, cap, hk, by rw [hl], by simpa [Builtin.firstCells] using h1, h2⟩
  · exact hk.elim

def isSl : TK → Prop
  | .slice _ => True
  | _ => False

def appDst (st : St) (d sz : Nat) : AV → List (List AV) → (St → Prop) → Prop
  | .nl, new, K => (d ∉ st.used ∧ new.length ≤ 1073741824) ∧ K { regs := upd st.regs d (.rf d 0 new.length), objs := upd st.objs d (some ⟨sz, new⟩), used := d :: st.used }
  | .rf id off len, new, K => OB (st.objs id) fun o => (o.sz = sz ∧ d ∉ st.used ∧ len + new.length ≤ 1073741824) ∧
      K { regs := upd st.regs d (.rf d 0 (len + new.length)), objs := upd (upd st.objs id none) d (some ⟨sz, (o.es.drop off).take len ++ new⟩), used := d :: st.used }
  | _, _, _ => False
@[congr] theorem appDst_congr {st : St} {d sz sz' : Nat} {x y : AV} {l l' : List (List AV)} {K : St → Prop} {p00 : Prop} (_h00 : (True ∧ True) = p00) (h : x = y) (h2 : sz = sz') (h3 : l = l') : appDst st d sz x l K = appDst st d sz' y l' K := by rw [h, h2, h3]

theorem zeroCells_size (z : Array Value) (n : Nat) : (Builtin.zeroCells z n).size = n * z.size := by simp [Builtin.zeroCells]

/-- What 'append' does: in place, or anew. -/
theorem run_append (hT : TabOk P T) {t1 t2 e : Nat} {ty : TypeId} (h1 : (T t1).k = .slice e) (he : (T e).k.known = true) (h2 : isSl (T t2).k) {base a : Option Addr} {len cap n cap2 : Nat} {new old : Array Value}
    (hlen : len + n ≤ 1073741824) (hnew : ∀ w' : World, w'.heap = w.heap → (Builtin.firstCells (T e).size n (.slice a n cap2)).run P w' = .ok new w')
    (hold : ∀ w' : World, w'.heap = w.heap → (Builtin.firstCells (T e).size len (.slice base len cap)).run P w' = .ok old w') :
    (len + n ≤ cap ∧ ((Builtin.append_ #[t1, t2] ty #[.slice base len cap, .slice a n cap2]).run P w = ((match base with | some b => storeCells (b.add (len * (T e).size)) new.toList | none => pure ()).run P w).andThen fun _ w' => .ok (.slice base (len + n) cap) w')) ∨
    (cap < len + n ∧ ∃ newCap rest, len + n ≤ newCap ∧ rest.size = (newCap - (len + n)) * (T e).size ∧ (Builtin.append_ #[t1, t2] ty #[.slice base len cap, .slice a n cap2]).run P w =
      .ok (.slice (some ⟨w.heap.size, 0, none⟩) (len + n) newCap) { w with drawn := w.drawn + 1, heap := w.heap.push (.cells (old ++ new ++ rest) e (0, 0)) }) := by
  obtain ⟨i, z, hi⟩ := hT.infos e he
  have hu := hT.kinds t1; rw [h1] at hu; simp only [KOk] at hu
  have hu2 : ∃ e2, P.underlying t2 = some (.slice e2) := by
    have h := hT.kinds t2
    generalize (T t2).k = k at h h2
    cases k with
    | slice e2 => exact ⟨e2, h⟩
    | _ => exact False.elim h2
  obtain ⟨e2, hu2⟩ := hu2
  by_cases hc : len + n ≤ cap
  · refine .inl ⟨hc, ?_⟩
    cases base with
    | none => simp [Builtin.append_, run_underlying hu, run_underlying hu2, run_sizeOf_tab hT he, Builtin.lenOf, hc, hnew w rfl]
    | some b => simp [Builtin.append_, run_underlying hu, run_underlying hu2, run_sizeOf_tab hT he, Builtin.lenOf, hc, hnew w rfl]
  · refine .inr ⟨by omega, ?_⟩
    have hb : ¬ (i.bytes = 0) := by rw [hi.bytes]; have := hi.b0; omega
    have hnx : ¬ (281474976710656 < Builtin.nextslicecap (len + n) cap * i.bytes) := by
      have h3 := nextslicecap_le (need := len + n) (old := cap) (by omega)
      have h4 : i.bytes ≤ 4096 := by rw [hi.bytes]; exact hi.b1
      have := Nat.mul_le_mul h3 h4
      omega
    refine ⟨(Question.appendCap (len + n) cap e).cut (w.tape w.drawn (Question.appendCap (len + n) cap e)), Builtin.zeroCells z.cells ((Question.appendCap (len + n) cap e).cut (w.tape w.drawn (Question.appendCap (len + n) cap e)) - (len + n)), ?_, ?_, ?_⟩
    · simp [Question.cut]
    · rw [zeroCells_size]
      congr 1
      have h1 := hi.zl; have h2 := hi.zc
      rw [← h1, ← h2]; simp
    · have h1 := hold w.drew rfl
      have h2 := hnew w.drew rfl
      simp [Builtin.append_, run_underlying hu, run_underlying hu2, run_sizeOf_tab hT he, Builtin.lenOf, hc, typeInfo, hi.info, hb, hnx, zeroValue, hi.zero, Question.forced, h1, h2, newRow]
      rfl

/-- A new object of no elements, that lies nowhere. -/
theorem Rep.virt (H : RepH F φ st.objs (· ∈ st.used) w) {d sz : Nat} (hd : d ∉ st.used) :
    Goes φ (upd φ d none) st.objs (upd st.objs d (some ⟨sz, []⟩)) (· ∈ st.used) (· ∈ d :: st.used) w w ∧ RepH F (upd φ d none) (upd st.objs d (some ⟨sz, []⟩)) (· ∈ d :: st.used) w := by
  have G : Goes φ (upd φ d none) st.objs (upd st.objs d (some ⟨sz, []⟩)) (· ∈ st.used) (· ∈ d :: st.used) w w := by
    refine ⟨fun i hi => List.mem_cons_of_mem _ hi, ?_, fun _ _ _ => rfl, ?_, Nat.le_refl _⟩
    · intro i hi o' ho'
      have hdi : d ≠ i := fun e => hd (e ▸ hi)
      rw [upd_ne' _ _ hdi] at ho'
      exact ⟨o', ho', upd_ne' _ _ hdi, rfl, Nat.le_refl _, fun β b c' e' fz hφ hb => ⟨c', e', fz, hb, rfl⟩⟩
    · intro i o' β b ho' hφ'
      by_cases hdi : d = i
      · subst hdi; rw [upd_eq] at hφ'; cases hφ'
      · rw [upd_ne' _ _ hdi] at ho' hφ'; exact .inl ⟨i, o', b, ho', hφ'⟩
  refine ⟨G, G.repH H ?_ ?_ ?_ rfl rfl rfl⟩
  · intro i j oi oj β bi bj hi hj pi pj
    by_cases hdi : d = i
    · subst hdi; rw [upd_eq] at pi; cases pi
    · by_cases hdj : d = j
      · subst hdj; rw [upd_eq] at pj; cases pj
      · rw [upd_ne' _ _ hdi] at hi pi; rw [upd_ne' _ _ hdj] at hj pj
        exact H.inj i j oi oj β bi bj hi hj pi pj
  · intro i o' ho'
    by_cases hdi : d = i
    · subst hdi; exact List.mem_cons_self
    · rw [upd_ne' _ _ hdi] at ho'; exact List.mem_cons_of_mem _ (H.inU i o' ho')
  · intro i o' ho'
    by_cases hdi : d = i
    · subst hdi
      rw [upd_eq] at ho'; cases ho'
      exact ⟨by simp, .inl ⟨upd_eq _ _ _, rfl⟩⟩
    · rw [upd_ne' _ _ hdi] at ho'
      exact (H.ob i o' ho').mono (upd_ne' _ _ hdi) (fun β b hφ => rfl) (fun v av r => G.repV r)

theorem Row.lt {R : Value → AV → Prop} {sz : Nat} {es : List (List AV)} {arr : Array Value} (r : Row R sz es arr) {i j : Nat} {av : AV} (h : cellAt es i j = some av) : i * sz + j < arr.size := by
  obtain ⟨hi, hj⟩ := cellAt_lt r.el h
  rw [r.size]
  have : (i + 1) * sz ≤ es.length * sz := Nat.mul_le_mul_right _ hi
  rw [Nat.add_mul] at this; omega

theorem Row.append {R : Value → AV → Prop} {sz : Nat} {es es' : List (List AV)} {arr arr' : Array Value} (r : Row R sz es arr) (r' : Row R sz es' arr') : Row R sz (es ++ es') (arr ++ arr') := by
  refine ⟨by simp [r.size, r'.size, Nat.add_mul], ?_, ?_, ?_⟩
  · intro k hk
    simp only [Array.getD_eq_getD_getElem?, Array.getElem?_append]
    split
    · rename_i h; have := r.one k h; simpa [Array.getD_eq_getD_getElem?] using this
    · rename_i h; have := r'.one (k - arr.size) (by simp at hk; omega); simpa [Array.getD_eq_getD_getElem?] using this
  · intro x hx
    rcases List.mem_append.1 hx with h | h
    · exact r.el x h
    · exact r'.el x h
  · intro i j av hij
    by_cases hi : i < es.length
    · have hij' : cellAt es i j = some av := by simpa [cellAt, List.getElem?_append, hi] using hij
      have hl := r.lt hij'
      have := r.cell i j av hij'
      simpa [Array.getD_eq_getD_getElem?, Array.getElem?_append, hl] using this
    · have hij' : cellAt es' (i - es.length) j = some av := by simpa [cellAt, List.getElem?_append, hi] using hij
      have hl := r'.lt hij'
      have := r'.cell _ j av hij'
      have hm : es.length * sz + (i - es.length) * sz = i * sz := by rw [← Nat.add_mul]; congr 1; omega
      have h1 : ¬ i * sz + j < arr.size := by rw [r.size]; omega
      have h2 : i * sz + j - arr.size = (i - es.length) * sz + j := by rw [r.size]; omega
      simpa [Array.getD_eq_getD_getElem?, Array.getElem?_append, h1, h2] using this

theorem Row.get {R : Value → AV → Prop} {sz : Nat} {es : List (List AV)} {arr : Array Value} (r : Row R sz es arr) {i j : Nat} {av : AV} (h : cellAt es i j = some av) :
    ∃ v, arr[i * sz + j]? = some v ∧ v.oneCell' = true ∧ R v av := by
  have hl := r.lt h
  refine ⟨arr.getD (i * sz + j) undef, by simp [hl], r.one _ hl, r.cell i j av h⟩

theorem hApp_goes (hT : TabOk P T) (hE : ∀ t e, (T t).k = .slice e → (T e).k.known = true) (H : RepH F φ st.objs (· ∈ st.used) w)
    {t1 t2 e d : Nat} {ty : TypeId} (ht1 : (T t1).k = .slice e) (ht2 : isSl (T t2).k) {x y : AV} {v u : Value} {K : St → Prop}
    (hk : appSrc st.objs (T e).size y fun new => appDst st d (T e).size x new K) (rx : RV F φ st w v x) (ry : RV F φ st w u y) :
    ∃ (r : Value) (av : AV) (φ' : Nat → Option (Nat × Nat)) (objs' : Nat → Option Ob) (w' : World), (Builtin.append_ #[t1, t2] ty #[v, u]).run P w = .ok r w' ∧ K { regs := upd st.regs d av, objs := objs', used := d :: st.used } ∧
      Goes φ φ' st.objs objs' (· ∈ st.used) (· ∈ d :: st.used) w w' ∧ RepH F φ' objs' (· ∈ d :: st.used) w' ∧ RepV φ' objs' (· ∈ d :: st.used) w'.heap (SS F φ' objs' w') r av := by
  have he := hE t1 e ht1
  have hpos := known_of_size hT he
  obtain ⟨new, arr, a, cap2, hk, rfl, hnew, rnew⟩ := appSrc_spec (P := P) H hpos hk ry
  have newSize : arr.size = new.length * (T e).size := rnew.size
  cases x with
  | nl =>
    obtain ⟨⟨hd, hlen⟩, hk⟩ := hk
    cases rx with | rd rx =>
    cases rx
    rcases run_append (P := P) hT (ty := ty) ht1 he ht2 (base := none) (len := 0) (cap := 0) (old := #[]) (by omega) hnew (fun w' _ => by simp [Builtin.firstCells]) with ⟨h1, h2⟩ | ⟨h1, newCap, rest, h2, h3, h4⟩
    · -- nothing is appended to nil
      have hn0 : new.length = 0 := by omega
      have hnil : new = [] := List.length_eq_zero_iff.1 hn0
      subst hnil
      obtain ⟨G, H'⟩ := Rep.virt (sz := (T e).size) H hd
      refine ⟨_, _, _, _, w, by rw [h2]; rfl, hk, G, H', .rf List.mem_cons_self ⟨none, 0, rfl, fun _ => rfl⟩ fun o' ho' => ?_⟩
      exact ⟨by simp, .inl ⟨rfl, none, rfl⟩⟩
    · refine ⟨_, _, upd φ d (some (w.heap.size, 0)), _, _, h4, hk, ?_⟩
      obtain ⟨G, H'⟩ := Rep.new (o := ⟨(T e).size, new⟩) (c := #[] ++ arr ++ rest) (e := e) (w' := { w with drawn := w.drawn + 1, heap := w.heap.push (.cells (#[] ++ arr ++ rest) e (0, 0)) }) H hd rnew.el (by simp [newSize]) (fun i j av hij => by
        obtain ⟨v, g1, g2, g3⟩ := rnew.get hij
        refine ⟨v, ?_, g2, g3⟩
        have hl := rnew.lt hij
        simp only [Array.empty_append, Array.getElem?_append, hl, if_true]; exact g1) rfl rfl rfl rfl
      refine ⟨G, H', ?_⟩
      rw [Nat.zero_add]
      refine .rf List.mem_cons_self ⟨_, _, rfl, by simp⟩ fun o' ho' => ?_
      rw [upd_eq] at ho'; cases ho'
      refine ⟨by simp, .inr ⟨w.heap.size, 0, newCap, #[] ++ arr ++ rest, e, (0, 0), upd_eq _ _ _, Array.getElem?_push_size, by simp, by omega, ?_⟩⟩
      simp only [Array.size_append, newSize, h3, Nat.zero_add, Array.size_empty, ← Nat.add_mul]
      exact Nat.mul_le_mul_right _ (by omega)
  | rf id off len =>
    obtain ⟨o, ho, ⟨hsz, hd, hlen⟩, hk⟩ := hk
    have src := appSrc_spec (P := P) (x := .rf id off len) (K := fun es => es = (o.es.drop off).take len) H hpos ⟨o, ho, hsz, rfl⟩ rx
    obtain ⟨old, oarr, base, cap, rfl, hv, hold, rold⟩ := src
    have rx' := rx
    cases rx with
    | rd r => cases r
    | rf hu' hv' hr =>
    obtain ⟨g1, g2⟩ := hr o ho
    have hl : ((o.es.drop off).take len).length = len := by simp; omega
    rw [hl] at hold hv
    subst hv
    have hdid : d ≠ id := fun e => hd (e ▸ hu')
    have rall := rold.append rnew
    rcases run_append (P := P) hT (ty := ty) ht1 he ht2 (base := base) (len := len) (cap := cap) hlen hnew hold with ⟨h1, h2⟩ | ⟨h1, newCap, rest, h2, h3, h4⟩
    · rcases g2 with ⟨rfl, a', hva⟩ | ⟨β, b, cap', c, e', fz, k1, k2, hva, k4, k5⟩
      · -- no room, nothing appended
        cases hva
        have hn0 : new.length = 0 := by omega
        have hnil : new = [] := List.length_eq_zero_iff.1 hn0
        have harr : arr.toList = [] := by
          have : arr.size = 0 := by rw [newSize, hn0, Nat.zero_mul]
          simpa using this
        subst hnil
        have hrun : (Builtin.append_ #[t1, t2] ty #[.slice base 0 0, .slice a ([] : List (List AV)).length cap2]).run P w = .ok (.slice base 0 0) w := by
          rw [h2, harr]; cases base <;> simp [storeCells]
        obtain ⟨G, H'⟩ := Rep.move (o' := ⟨(T e).size, (o.es.drop off).take 0 ++ []⟩) (p := none) (w' := w) H ho hd (fun _ _ _ => rfl) (Nat.le_refl _) (fun γ b h => by cases h)
          (fun _ => ⟨by simp, .inl ⟨upd_eq _ _ _, by simp⟩⟩) rfl rfl rfl
        refine ⟨_, _, _, _, w, hrun, hk, G, H', .rf List.mem_cons_self ⟨base, 0, rfl, fun _ => rfl⟩ fun o' ho' => ?_⟩
        rw [upd_eq] at ho'; cases ho'
        exact ⟨by simp, .inl ⟨rfl, base, rfl⟩⟩
      · cases hva
        obtain ⟨hel, c', e'', fz', hb, hsoft, hfit, hcc⟩ := ob_at H ho k1
        rw [k2] at hb; cases hb
        have hfitA : b + off * o.sz + len * (T e).size + arr.toList.length ≤ c.size := by
          have : (off + (len + new.length)) * o.sz ≤ (off + cap) * o.sz := Nat.mul_le_mul_right _ (by omega)
          simp only [Nat.add_mul, hsz] at this k5 ⊢
          simp only [Array.length_toList, newSize]; omega
        have hst := run_storeCells_blk (P := P) (b + off * o.sz + len * (T e).size) arr.toList 0 w c k2 hsoft (by simpa using hfitA) (fun v hv => by
          obtain ⟨k, hk, rfl⟩ := List.mem_iff_getElem.1 hv
          have := rnew.one k (by simpa using hk)
          simp at hk; simpa [hk] using this)
        have hlt := (Array.getElem?_eq_some_iff.1 k2).1
        have hget := fun γ => setBlk_get (w := w) (c := putAt c (b + off * o.sz + len * (T e).size) arr.toList) (e := e') (fz := fz) hlt γ
        obtain ⟨G, H'⟩ := Rep.move (o' := ⟨(T e).size, (o.es.drop off).take len ++ new⟩) (p := some (β, b + off * o.sz)) (w' := World.setBlk w β (putAt c (b + off * o.sz + len * (T e).size) arr.toList) e' fz) H ho hd
          (fun γ hγ hno => by rw [hget, if_neg (fun (h : γ = β) => hno b (h ▸ k1))]) (by simp [World.setBlk]) (fun γ b' h => by cases h; exact .inl ⟨b, k1⟩)
          (fun hV => by
            refine ⟨rall.el, .inr ⟨β, b + off * o.sz, putAt c (b + off * o.sz + len * (T e).size) arr.toList, e', fz, upd_eq _ _ _, by rw [hget]; simp, fun k hk => hsoft k (by simpa [putAt_len] using hk), ?_, fun i j av hij => ?_⟩⟩
            · rw [putAt_len]
              simp only [List.length_append, hl, Nat.add_mul]
              simp only [Array.length_toList, newSize] at hfitA; omega
            · obtain ⟨hi, hj⟩ := cellAt_lt rall.el hij
              simp only [List.length_append, hl] at hi
              dsimp only at hi hj ⊢
              rw [putAt_get _ _ _ _ hfitA]
              have e1 : off * o.sz = off * (T e).size := by rw [hsz]
              by_cases hil : i < len
              · have hij' : cellAt ((o.es.drop off).take len) i j = some av := by simpa [cellAt, List.getElem?_append, hl, hil] using hij
                have hij2 : cellAt o.es (off + i) j = some av := by
                  simp only [cellAt, List.getElem?_take, hil, if_true, List.getElem?_drop] at hij' ⊢; exact hij'
                obtain ⟨v, m1, m2, m3⟩ := hcc _ _ _ hij2
                refine ⟨v, ?_, m2, hV v av m3⟩
                have : (i + 1) * (T e).size ≤ len * (T e).size := Nat.mul_le_mul_right _ hil
                rw [Nat.add_mul, Nat.one_mul] at this
                rw [if_neg (fun hh => by have := hh.1; omega), e1]
                rw [hsz, Nat.add_mul, ← Nat.add_assoc] at m1; exact m1
              · have hij' : cellAt new (i - len) j = some av := by simpa [cellAt, List.getElem?_append, hl, hil] using hij
                obtain ⟨v, m1, m2, m3⟩ := rnew.get hij'
                refine ⟨v, ?_, m2, hV v av m3⟩
                have hl' := rnew.lt hij'
                have hm : len * (T e).size + (i - len) * (T e).size = i * (T e).size := by rw [← Nat.add_mul]; congr 1; omega
                rw [if_pos (by simp only [Array.length_toList]; omega)]
                rw [show b + off * o.sz + i * (T e).size + j - (b + off * o.sz + len * (T e).size) = (i - len) * (T e).size + j by omega]
                simpa using m1) rfl rfl rfl
        refine ⟨_, _, _, _, _, ?_, hk, G, H', .rf List.mem_cons_self ⟨some ⟨β, b + off * o.sz, none⟩, cap, rfl, fun h => by cases h⟩ fun o' ho' => ?_⟩
        · rw [h2]; simp only [add_at, hst, Nat.add_zero, Result.andThen_ok]
        · rw [upd_eq] at ho'; cases ho'
          refine ⟨by simp [hl], .inr ⟨β, b + off * o.sz, cap, putAt c (b + off * o.sz + len * (T e).size) arr.toList, e', fz, upd_eq _ _ _, by rw [hget]; simp, by simp, by omega, ?_⟩⟩
          rw [putAt_len]
          simp only [Nat.add_mul, hsz, Nat.zero_add] at k5 ⊢; omega
    · -- a new block
      obtain ⟨G, H'⟩ := Rep.move (o' := ⟨(T e).size, (o.es.drop off).take len ++ new⟩) (p := some (w.heap.size, 0)) (w' := { w with drawn := w.drawn + 1, heap := w.heap.push (.cells (oarr ++ arr ++ rest) e (0, 0)) }) H ho hd
        (fun γ hγ hno => by simp only [Array.getElem?_push, if_neg (by omega : ¬ γ = w.heap.size)]) (by simp) (fun γ b' h => by cases h; exact .inr (Nat.le_refl _))
        (fun hV => by
          refine ⟨rall.el, .inr ⟨w.heap.size, 0, oarr ++ arr ++ rest, e, (0, 0), upd_eq _ _ _, Array.getElem?_push_size, fun k _ h => by simp at h, ?_, fun i j av hij => ?_⟩⟩
          · have := rall.size
            simp only [Nat.zero_add, Array.size_append] at this ⊢; omega
          · obtain ⟨v, m1, m2, m3⟩ := rall.get hij
            have hl' := rall.lt hij
            refine ⟨v, ?_, m2, hV v av m3⟩
            rw [Nat.zero_add, Array.getElem?_append, if_pos hl']; exact m1) rfl rfl rfl
      refine ⟨_, _, _, _, _, h4, hk, G, H', .rf List.mem_cons_self ⟨some ⟨w.heap.size, 0, none⟩, newCap, rfl, fun h => by cases h⟩ fun o' ho' => ?_⟩
      rw [upd_eq] at ho'; cases ho'
      refine ⟨by simp [hl], .inr ⟨w.heap.size, 0, newCap, oarr ++ arr ++ rest, e, (0, 0), upd_eq _ _ _, Array.getElem?_push_size, by simp, h2, ?_⟩⟩
      have := rall.size
      simp only [List.length_append, hl, Array.size_append] at this
      simp only [Array.size_append, h3, this, Nat.zero_add, ← Nat.add_mul]
      exact Nat.mul_le_mul_right _ (by omega)
  | _ => exact False.elim hk
end
end Go.Vc
