/- Arguments that are read as data, as abstract values. Part of a framework of abstract values and states, over the model, for proofs of functions; it has no conditions of its own. -/
import Derived.Test.YtpipfaegkgakiaaVcO
import Derived.RowKit
import Derived.OpenShut
import Derived.ChangeStays
import Derived.ChangeArms
import Derived.ChangeCalls
set_option linter.all false
/-! Arguments that are read as data, as abstract values. -/
namespace Go.Vc
open Go.ChangeShapes Go.WideShapes Go.RowKit

/-- What a type's cells are, with no list longer than B. -/
inductive Sh (P : Program) (B : Nat) : TypeId → List AV → Prop
  | bool {t : TypeId} {b : Bool} (h : P.underlying t = some .bool) : Sh P B t [.pr (.bool b)]
  | int {t : TypeId} {k : IntKind} {n : Int} (h : P.underlying t = some (.int k)) (hw : (Lit.int k n).wf = true) : Sh P B t [.pr (.int k n)]
  | str {t : TypeId} {s : ByteArray} (h : P.underlying t = some .string) (hs : s.size ≤ B) : Sh P B t [.pr (.string s)]
  | slice {t e : TypeId} {es : List (List AV)} (h : P.underlying t = some (.slice e)) (hl : es.length ≤ B) (he : ∀ x ∈ es, Sh P B e x) : Sh P B t [.im (P.cellsOf e) es]
  | struct {t : TypeId} {fs : Array Field} {as : List (List AV)} (h : P.underlying t = some (.struct fs)) (hl : as.length = fs.size)
      (hf : ∀ (i : Nat) (f : Field) (a : List AV), fs[i]? = some f → as[i]? = some a → Sh P B f.type a)
      (hf2 : ∀ (i : Nat) (f : Field) (a : List AV), fs[i]? = some f → as[i]? = some a → a.length = P.cellsOf f.type) : Sh P B t as.flatten

/-- A list of values, read. -/
def RdL (h : Array Obj) (S : Nat → Prop) (cs : List Value) (avs : List AV) : Prop := cs.length = avs.length ∧ ∀ (j : Nat) (v : Value) (av : AV), cs[j]? = some v → avs[j]? = some av → RdI h S v av
theorem RdL.one {h : Array Obj} {S : Nat → Prop} {v : Value} {av : AV} (r : RdI h S v av) : RdL h S [v] [av] :=
  ⟨rfl, fun j v' av' hj hj' => by
    cases j with
    | zero => simp at hj hj'; subst hj; subst hj'; exact r
    | succ j => simp at hj⟩
theorem RdL.append {h : Array Obj} {S : Nat → Prop} {cs cs' : List Value} {avs avs' : List AV} (r : RdL h S cs avs) (r' : RdL h S cs' avs') : RdL h S (cs ++ cs') (avs ++ avs') := by
  refine ⟨by rw [List.length_append, List.length_append, r.1, r'.1], fun j v av hj hj' => ?_⟩
  by_cases hlt : j < cs.length
  · rw [List.getElem?_append_left hlt] at hj
    rw [List.getElem?_append_left (by rw [← r.1]; exact hlt)] at hj'
    exact r.2 j v av hj hj'
  · rw [List.getElem?_append_right (by omega)] at hj
    rw [List.getElem?_append_right (by rw [← r.1]; omega), ← r.1] at hj'
    exact r'.2 _ v av hj hj'

/-- Types whose values are numbers, letters, and lists of them. -/
def plainTy (P : Program) : Nat → TypeId → Bool
  | 0, _ => false
  | n + 1, t => match P.underlying t with
    | some .bool => P.cellsOf t == 1
    | some (.int _) => P.cellsOf t == 1
    | some .string => P.cellsOf t == 1
    | some (.slice e) => P.cellsOf t == 1 && decide (0 < P.cellsOf e) && plainTy P n e
    | some (.struct fs) => fs.toList.all fun f => plainTy P n f.type
    | _ => false
/-- How long a reading's lists are. -/
def bulkLe {H : Type} (B : Nat) : DataW H → Prop
  | .lit (.string bs) => bs.length ≤ B
  | .slice elems _ => elems.length ≤ B ∧ bulkLes B elems
  | .agg ds => bulkLes B ds
  | _ => True
where bulkLes {H : Type} (B : Nat) : List (DataW H) → Prop
  | [] => True
  | d :: r => bulkLe B d ∧ bulkLes B r
theorem bulkLes_mem {H : Type} {B : Nat} {l : List (DataW H)} (h : bulkLe.bulkLes B l) {d : DataW H} (hd : d ∈ l) : bulkLe B d := by
  induction l with
  | nil => cases hd
  | cons x r ih =>
    simp only [bulkLe.bulkLes] at h
    cases hd with
    | head => exact h.1
    | tail _ hd => exact ih h.2 hd

theorem choose_list {α : Type} {R : Nat → α → Prop} : ∀ (n : Nat), (∀ i, i < n → ∃ x, R i x) → ∃ l : List α, l.length = n ∧ ∀ i x, l[i]? = some x → R i x
  | 0, _ => ⟨[], rfl, by simp⟩
  | n + 1, h => by
    obtain ⟨l, h1, h2⟩ := choose_list n fun i hi => h i (by omega)
    obtain ⟨x, hx⟩ := h n (by omega)
    refine ⟨l ++ [x], by simp [h1], fun i y hy => ?_⟩
    by_cases hlt : i < l.length
    · rw [List.getElem?_append_left hlt] at hy; exact h2 i y hy
    · rw [List.getElem?_append_right (by omega)] at hy
      have : i - l.length = 0 := by
        cases hk : i - l.length with
        | zero => rfl
        | succ k => rw [hk] at hy; simp at hy
      rw [this] at hy
      simp at hy
      have : i = n := by omega
      subst this; subst hy; exact hx

section
variable {H : Type} {enc : TypeId × Value → H} {P : Program} {w : World} {sp : Nat → Bool} {held : Bool} {B : Nat}

theorem cell_of {a : Addr} {k n : Nat} {cs : List Value} (h : w.cells? 0 (a.add k) n = some cs) : cs.length = n ∧ ∀ j, j < n → w.cell? ((a.add k).add j) = cs[j]? := by
  unfold World.cells? at h
  rw [if_pos (Nat.zero_le _)] at h
  refine ⟨by simpa using mapM_some_length h, fun j hj => ?_⟩
  exact mapM_some_get h j j (by simp [hj])

theorem cell_here {a : Addr} {v : Value} (h : w.cell? a = some v) : a.spot = none ∧ ∃ c e fz, w.heap[a.block]? = some (.cells c e fz) ∧ c[a.off]? = some v := by
  unfold World.cell? at h
  split at h
  · rename_i c e fz hb
    split at h
    · cases h
    · rename_i hs
      refine ⟨by simpa using hs, c, e, fz, hb, h⟩
  · cases h

theorem add_add (a : Addr) (i j : Nat) (ha : a.spot = none) : (a.add i).add j = ⟨a.block, a.off + i + j, none⟩ := by
  obtain ⟨b, o, s⟩ := a
  simp only at ha
  subst ha
  unfold Addr.add
  split <;> split <;> simp_all [Nat.add_assoc]

/-- A reading's cells, as abstract values. -/
theorem sh_of_trod (K : Kids P (· < P.types.size)) : ∀ (m : Nat) (t : TypeId) (n : Nat) (cs : List Value) (x : DataW H × List MemPlace), plainTy P m t = true → t < P.types.size →
    DataW.trod enc P w 0 sp held n t cs = some x → bulkLe B x.1 → ∃ avs, Sh P B t avs ∧ avs.length = P.cellsOf t ∧ RdL w.heap (· < w.heap.size) cs avs := by
  intro m
  induction m with
  | zero => intro t n cs x h; simp [plainTy] at h
  | succ m ih =>
    intro t n cs x hp hts h hb
    unfold plainTy at hp
    split at hp
    · rename_i ht
      obtain ⟨b, rfl, rfl⟩ := DataW.trod_bool ht h
      exact ⟨_, .bool ht (b := b), by simpa using (beq_iff_eq.1 hp).symm, .one (.pr _ rfl)⟩
    · rename_i k ht
      obtain ⟨v, rfl, rfl, hw⟩ := DataW.trod_int ht h
      exact ⟨_, .int ht hw, by simpa using (beq_iff_eq.1 hp).symm, .one (.pr _ rfl)⟩
    · rename_i ht
      obtain ⟨s, rfl, hx⟩ := DataW.trod_string ht h
      have hx : x = (.lit (.string s.data.toList), []) := by first | exact hx | exact hx.1
      subst hx
      refine ⟨_, .str ht (s := s) ?_, by simpa using (beq_iff_eq.1 hp).symm, .one (.pr _ rfl)⟩
      have : s.data.toList.length ≤ B := hb
      rw [Array.length_toList] at this; exact this
    · rename_i e ht
      simp only [Bool.and_eq_true, beq_iff_eq, decide_eq_true_eq] at hp
      obtain ⟨⟨hp1, hp2⟩, hp3⟩ := hp
      rcases DataW.trod_slice ht h with ⟨rfl, rfl⟩ | ⟨a, len, cap, elems, rest, n', rfl, rfl, rfl, hba, hlc, hcm, hel, hget, _, _⟩
      · exact ⟨_, .slice ht (es := []) (Nat.zero_le _) (by simp), by simpa using hp1.symm, .one (.im0 none 0 _)⟩
      · obtain ⟨hb1, hb2⟩ : (elems.map fun y => y.1).length ≤ B ∧ bulkLe.bulkLes B (elems.map fun y : DataW H × List MemPlace => y.1) := hb
        have key : ∀ i, i < len → ∃ avs, Sh P B e avs ∧ avs.length = P.cellsOf e ∧ ∃ csi, w.cells? 0 (a.add (i * P.cellsOf e)) (P.cellsOf e) = some csi ∧ RdL w.heap (· < w.heap.size) csi avs := by
          intro i hi
          have h1 := hget i hi
          have hi' : i < elems.length := by omega
          rw [List.getElem?_eq_getElem hi', Option.bind_eq_some_iff] at h1
          obtain ⟨csi, h2, h3⟩ := h1
          obtain ⟨avs, g1, g2, g3⟩ := ih e n' csi _ hp3 (K.slice hts ht) h3 (bulkLes_mem hb2 (List.mem_map.2 ⟨_, List.getElem_mem hi', rfl⟩))
          exact ⟨avs, g1, g2, csi, h2, g3⟩
        obtain ⟨es, hes, hR⟩ := choose_list len key
        by_cases h0 : len = 0
        · subst h0
          refine ⟨_, .slice ht (es := []) (Nat.zero_le _) (by simp), by simpa using hp1.symm, .one (.im0 (some a) cap _)⟩
        · -- the block
          obtain ⟨avs0, _, _, cs0, hc0, _⟩ := key 0 (by omega)
          obtain ⟨hl0, hg0⟩ := cell_of hc0
          have h00 := hg0 0 hp2
          rw [List.getElem?_eq_getElem (by omega)] at h00
          have hspot : a.spot = none := by
            have := (cell_here h00).1
            simpa [Addr.add] using this
          obtain ⟨_, c, el, fz, hblk, _⟩ := cell_here h00
          have hblk : w.heap[a.block]? = some (.cells c el fz) := by simpa [Addr.add] using hblk
          have hcell : ∀ i j av, cellAt es i j = some av → ∃ v, c[a.off + i * P.cellsOf e + j]? = some v ∧ RdI w.heap (· < w.heap.size) v av := by
            intro i j av hij
            unfold cellAt at hij
            cases hi : es[i]? with
            | none => rw [hi] at hij; cases hij
            | some avs =>
              rw [hi] at hij
              have hij : avs[j]? = some av := hij
              obtain ⟨_, g2, csi, g3, g4⟩ := hR i avs hi
              obtain ⟨k1, k2⟩ := cell_of g3
              have hj : j < P.cellsOf e := by have := (List.getElem?_eq_some_iff.1 hij).1; omega
              have h2 := k2 j hj
              rw [List.getElem?_eq_getElem (by omega)] at h2
              rw [add_add a _ _ hspot] at h2
              obtain ⟨_, c', _, _, q1, q2⟩ := cell_here h2
              rw [hblk] at q1; cases q1
              exact ⟨_, q2, g4.2 j _ av (List.getElem?_eq_getElem (by omega)) hij⟩
          refine ⟨_, .slice ht (es := es) (by rw [hes, ← hel]; simpa using hb1) (fun x hx => ?_), by simpa using hp1.symm, .one ?_⟩
          · obtain ⟨i, hi, rfl⟩ := List.mem_iff_getElem.1 hx
            exact (hR i _ (List.getElem?_eq_getElem hi)).1
          · have := RdI.im (h := w.heap) (S := (· < w.heap.size)) (β := a.block) (o := a.off) (cap := cap) (sz := P.cellsOf e) (c := c) (e := el) (fz := fz) (es := es) (fun i j => c.getD (a.off + i * P.cellsOf e + j) undef)
              (Array.getElem?_eq_some_iff.1 hblk).1 hblk (by omega) (fun x hx => by
                obtain ⟨i, hi, rfl⟩ := List.mem_iff_getElem.1 hx
                exact (hR i _ (List.getElem?_eq_getElem hi)).2.1)
              (fun i j av hij => by obtain ⟨u, m1, _⟩ := hcell i j av hij; rw [Array.getD_eq_getD_getElem?, m1]; rfl)
              (fun i j av hij => by obtain ⟨u, m1, m2⟩ := hcell i j av hij; rw [Array.getD_eq_getD_getElem?, m1]; exact m2)
            rw [hes] at this
            obtain ⟨b, o, s⟩ := a
            simp only at hspot
            subst hspot
            exact this
    · rename_i fs ht
      simp only [List.all_eq_true] at hp
      obtain ⟨xs, n', rfl, rfl, hl, hxl, hget⟩ := DataW.trod_struct ht h
      obtain ⟨k1, k2, k3⟩ := K.struct hts ht
      have hb : bulkLe.bulkLes B (xs.map (·.1)) := hb
      have key : ∀ i, i < fs.size → ∃ avs, ∃ f, fs[i]? = some f ∧ Sh P B f.type avs ∧ avs.length = P.cellsOf f.type ∧ RdL w.heap (· < w.heap.size) ((cs.drop f.offset).take (P.cellsOf f.type)) avs := by
        intro i hi
        have hf : fs[i]? = some fs[i] := Array.getElem?_eq_getElem hi
        have h1 := hget i _ hf
        have hi' : i < xs.length := by omega
        rw [List.getElem?_eq_getElem hi'] at h1
        have hmem : fs[i] ∈ fs.toList := by simp
        obtain ⟨avs, g1, g2, g3⟩ := ih _ n' _ _ (hp _ hmem) (k1 _ hmem) h1 (bulkLes_mem hb (List.mem_map.2 ⟨_, List.getElem_mem hi', rfl⟩))
        exact ⟨avs, _, hf, g1, g2, g3⟩
      obtain ⟨as, has, hR⟩ := choose_list fs.size key
      have hcut : ∀ k, k ≤ fs.size → (as.take k).flatten.length = ((fs.toList.take k).map fun f => P.cellsOf f.type).sum ∧ RdL w.heap (· < w.heap.size) (cs.take (((fs.toList.take k).map fun f => P.cellsOf f.type).sum)) (as.take k).flatten := by
        intro k
        induction k with
        | zero => intro _; simp; exact ⟨by simp, by simp⟩
        | succ k ihk =>
          intro hk
          obtain ⟨i1, i2⟩ := ihk (by omega)
          have hka : k < as.length := by omega
          have hkf : k < fs.toList.length := by rw [Array.length_toList]; omega
          obtain ⟨f, f1, f2, f3, f4⟩ := hR k _ (List.getElem?_eq_getElem hka)
          have hfe : fs.toList[k] = f := by
            have : fs.toList[k]? = some f := by simpa using f1
            rw [List.getElem?_eq_getElem hkf] at this
            exact Option.some.inj this
          have hoff := k3 k f (by simpa using f1)
          rw [List.take_succ_eq_append_getElem hka, List.take_succ_eq_append_getElem hkf, List.map_append, List.sum_append, List.flatten_append, hfe]
          simp only [List.map_cons, List.map_nil, List.sum_cons, List.sum_nil, Nat.add_zero, List.flatten_cons, List.flatten_nil, List.append_nil]
          refine ⟨by rw [List.length_append, i1, f3], ?_⟩
          rw [List.take_add]
          rw [hoff] at f4
          exact i2.append f4
      obtain ⟨c1, c2⟩ := hcut fs.size (Nat.le_refl _)
      have e1 : as.take fs.size = as := List.take_of_length_le (by omega)
      have e2 : fs.toList.take fs.size = fs.toList := List.take_of_length_le (by simp)
      rw [e1, e2] at c1 c2
      rw [← k2] at c1 c2
      rw [List.take_of_length_le (by omega)] at c2
      refine ⟨as.flatten, .struct ht has (fun i f a hf ha => ?_) (fun i f a hf ha => ?_), c1, c2⟩
      · obtain ⟨f', f1, f2, f3, _⟩ := hR i a ha
        rw [hf] at f1; cases f1
        exact f2
      · obtain ⟨f', f1, f2, f3, _⟩ := hR i a ha
        rw [hf] at f1; cases f1
        exact f3
    · cases hp

/-- Arguments, one by one. -/
def ShAll (P : Program) (B : Nat) : List TypeId → List AV → Prop
  | [], [] => True
  | t :: ts, av :: avs => Sh P B t [av] ∧ ShAll P B ts avs
  | _, _ => False
/-- A type of one cell. -/
def oneTy (P : Program) (t : TypeId) : Bool := match P.underlying t with
  | some .bool | some (.int _) | some .string | some (.slice _) => true
  | _ => false
theorem one_cells {t : TypeId} {v : Value} {r : Go.Reach} {b : Nat} (ht : oneTy P t = true) (hv : Value.okWide P w r b t v) : v.cells.toList = [v] ∧ v.oneCell' = true := by
  unfold oneTy at ht
  split at ht
  · rename_i h; obtain ⟨x, rfl⟩ := okWide_bool h hv; exact ⟨rfl, rfl⟩
  · rename_i h; obtain ⟨x, rfl⟩ := okWide_int h hv; exact ⟨rfl, rfl⟩
  · rename_i h; obtain ⟨x, rfl⟩ := okWide_string h hv; exact ⟨rfl, rfl⟩
  · rename_i h; obtain ⟨x, y, z, rfl⟩ := okWide_slice h hv; exact ⟨rfl, rfl⟩
  · cases ht
theorem args_of {r : Go.Reach} {b : Nat} (K : Kids P (· < P.types.size)) : ∀ {ts : List TypeId} {vs : List Value} {ds : List (DataW H)} {ps : List MemPlace}, (ts.all fun t => oneTy P t && plainTy P 20 t && decide (t < P.types.size)) = true →
    DataW.TrodAll enc P w 0 sp held ts vs ds ps → (∀ (j : Nat) t v, ts[j]? = some t → vs[j]? = some v → Value.okWide P w r b t v) → bulkLe.bulkLes B ds →
    ∃ avs, ShAll P B ts avs ∧ RdL w.heap (· < w.heap.size) vs avs := by
  intro ts
  induction ts with
  | nil =>
    intro vs ds ps _ h _ _
    obtain ⟨rfl, rfl, rfl⟩ := trodAll_nil h
    exact ⟨[], trivial, rfl, by simp⟩
  | cons t ts ih =>
    intro vs ds ps hp h hv hb
    simp only [List.all_cons, Bool.and_eq_true, decide_eq_true_eq] at hp
    obtain ⟨⟨⟨p1, p2⟩, p3⟩, hp⟩ := hp
    obtain ⟨v, vs', d, ds', p, q, rfl, rfl, rfl, h1, h2⟩ := trodAll_cons h
    obtain ⟨hc1, hc2⟩ := one_cells p1 (hv 0 t v rfl rfl)
    obtain ⟨n, h1⟩ := h1
    rw [hc1] at h1
    obtain ⟨a1, a2, a3, a4⟩ := sh_of_trod (B := B) K 20 t n [v] _ p2 p3 h1 hb.1
    obtain ⟨avs, b1, b2⟩ := ih hp h2 (fun j t v hj hj' => hv (j + 1) t v hj hj') hb.2
    have : ∃ av, a1 = [av] := by
      have := a4.1
      match a1, this with
      | [av], _ => exact ⟨av, rfl⟩
    obtain ⟨av, rfl⟩ := this
    exact ⟨av :: avs, ⟨a2, b1⟩, a4.append b2⟩

theorem trodAll_stays {w' : World} {sp' : Nat → Bool} (K : Kids P (· < P.types.size)) (hsz : ∀ {t e : TypeId}, t < P.types.size → P.underlying t = some (.slice e) → 0 < P.cellsOf e) (hsame : ∀ β, β < w.heap.size → w'.heap[β]? = w.heap[β]?) :
    ∀ {ts : List TypeId} {vs : List Value} {ds : List (DataW H)} {ps : List MemPlace}, (∀ t ∈ ts, t < P.types.size) → DataW.TrodAll enc P w 0 (fun _ => true) true ts vs ds ps → (∀ p ∈ ps, p.block < w.heap.size) → (∀ p ∈ ps, sp' p.block = true) →
    DataW.TrodAll enc P w' 0 sp' true ts vs ds ps := by
  intro ts
  induction ts with
  | nil =>
    intro vs ds ps _ h _ _
    obtain ⟨rfl, rfl, rfl⟩ := trodAll_nil h
    exact trodAll_mk0
  | cons t ts ih =>
    intro vs ds ps ht h hlt hsp
    obtain ⟨v, vs', d, ds', p, q, rfl, rfl, rfl, ⟨n, h1⟩, h2⟩ := trodAll_cons h
    refine trodAll_cons_mk ⟨n, DataW.trod_stays K hsz (fun h => by cases h) (ht t (by simp)) h1 (fun x hx => ?_) fun x hx => hsp x (List.mem_append_left _ hx)⟩ (ih (fun t h => ht t (by simp [h])) h2 (fun x hx => hlt x (List.mem_append_right _ hx)) fun x hx => hsp x (List.mem_append_right _ hx))
    have hb := hlt x (List.mem_append_left _ hx)
    cases x with
    | cell b off => simp only [World.sameAt, World.cell?, hsame b hb]
    | map b => exact hsame b hb

/-- A law that answers true, and leaves all as it was. -/
theorem law_post {f : Func} {s : ChangeSpec} {w' : World} {args : Array Value} {ds gs : List (DataW H)} {before : List MemPlace} {tb : TypeId} (K : Kids P (· < P.types.size))
    (hsz : ∀ {t e : TypeId}, t < P.types.size → P.underlying t = some (.slice e) → 0 < P.cellsOf e) (hts : ∀ t ∈ f.params.toList, t < P.types.size) (hvars : s.vars = [])
    (hres : f.resultTypes = #[tb]) (htb : P.underlying tb = some .bool) (hW : DataW.Whole enc P f.params.toList s.vars false w args.toList ds gs before)
    (hsame : ∀ β, β < w.heap.size → w'.heap[β]? = w.heap[β]?) (hos : w'.os = w.os) (hout : w'.output = w.output)
    (hfn : s.fn H (ds ++ gs) = { results := [.lit (.bool true)], args := ds }) : s.post enc P f false true false false w args (.bool true) w' := by
  have hW' := hW
  have hlt := hW.lt
  obtain ⟨p, q, hA, hV, rfl, _, _⟩ := hW
  rw [hvars] at hV
  obtain ⟨rfl, rfl⟩ := trodVars_none hV
  refine ⟨ds, [], p ++ [], [], p, [], hW', ?_, ?_, ?_, ⟨hos, hout, fun i hi => ?_⟩, fun h => by cases h⟩
  · rw [hfn, hres]
    exact trodAll_cons_mk (shut_bool htb true) trodAll_mk0
  · rw [hfn]
    refine trodAll_stays K hsz hsame hts hA (fun x hx => hlt x (by simpa using hx)) fun x hx => ?_
    simpa using hlt x (by simpa using hx)
  · rw [hfn, hvars]; rfl
  · rw [hsame i hi, Array.getElem?_eq_getElem hi]
    cases hx : w.heap[i] with
    | cells c t fr => exact ⟨rfl, rfl, rfl, fun _ _ => rfl⟩
    | map es clock => exact .inr ⟨rfl, rfl⟩
    | _ => rfl

/-- A law's contract. -/
theorem law_calls {n : Nat} {f : Func} {s : ChangeSpec} {args : Array Value} {ds gs : List (DataW H)} {before : List MemPlace} {tb : TypeId} {r : Go.Reach} {b : Nat} (K : Kids P (· < P.types.size))
    (hsz : ∀ {t e : TypeId}, t < P.types.size → P.underlying t = some (.slice e) → 0 < P.cellsOf e) (hp : (f.params.toList.all fun t => oneTy P t && plainTy P 20 t && decide (t < P.types.size)) = true) (hvars : s.vars = [])
    (hres : f.resultTypes = #[tb]) (htb : P.underlying tb = some .bool) (hval : ∀ (j : Nat) t v, f.params[j]? = some t → args[j]? = some v → Value.okWide P w r b t v)
    (hW : DataW.Whole enc P f.params.toList s.vars false w args.toList ds gs before) (hB : bulkLe.bulkLes B ds)
    (hfn : ds.length = f.params.toList.length → s.fn H (ds ++ []) = { results := [.lit (.bool true)], args := ds })
    (h : ∀ avs, ShAll P B f.params.toList avs → Spec0 P n avs (· = .pr (.bool true))) :
    Calls P n args w fun e w' => ∃ v, e = .returned v ∧ s.post enc P f false true false false w args v w' := by
  have hW' := hW
  obtain ⟨p, q, hA, hV, rfl, _, _⟩ := hW
  have hV' := hV
  rw [hvars] at hV'
  obtain ⟨rfl, rfl⟩ := trodVars_none hV'
  obtain ⟨avs, h1, h2⟩ := args_of (B := B) K hp hA (r := r) (b := b) (fun j t v hj hj' => hval j t v (by simpa using hj) (by simpa using hj')) hB
  have hlen := trodAll_length hA
  refine ((h avs h1).2 ⟨w, fun _ => False, fun _ => True, noOb, fun _ => none⟩ (fun _ => none) w args rfl rfl rfl (callee_none _ w) (by rw [← Array.length_toList, h2.1]) (fun j av hj => ?_)).mono ?_
  · have hlt := (List.getElem?_eq_some_iff.1 hj).1
    have hlt' : j < args.toList.length := by rw [h2.1]; exact hlt
    have := h2.2 j _ av (List.getElem?_eq_getElem hlt') hj
    have e : args.getD j undef = args.toList[j] := by
      have hs : j < args.size := by simpa using hlt'
      rw [Array.getD_eq_getD_getElem?, Array.getElem?_eq_getElem hs]; simp
    rw [e]
    exact .rd (this.mono fun β hβ => ⟨⟨hβ, (fun i o b h => by cases h), fun _ => .inl trivial⟩, rfl⟩)
  · rintro e w' ⟨v, rr, O', φ', U', rfl, ⟨⟨rfl, _⟩, rfl⟩, H', hr⟩
    have hv := inv_pr hr
    subst hv
    refine ⟨_, rfl, law_post K hsz (fun t ht => ?_) hvars hres htb hW' (fun β hβ => H'.below β hβ (fun h => h)) H'.os H'.output (hfn hlen.2)⟩
    have := List.all_eq_true.1 hp t ht
    simp only [Bool.and_eq_true, decide_eq_true_eq] at this
    exact this.2
end

section
variable {P : Program} {B : Nat} {t : TypeId} {avs : List AV}
theorem sh_bool (ht : P.underlying t = some .bool) (h : Sh P B t avs) : ∃ b, avs = [.pr (.bool b)] := by
  cases h with
  | bool h => exact ⟨_, rfl⟩
  | _ h => rw [ht] at h; cases h
theorem sh_int {k : IntKind} (ht : P.underlying t = some (.int k)) (h : Sh P B t avs) : ∃ n, avs = [.pr (.int k n)] ∧ (Lit.int k n).wf = true := by
  cases h with
  | int h hw => rw [ht] at h; cases h; exact ⟨_, rfl, hw⟩
  | _ h => rw [ht] at h; cases h
theorem sh_str (ht : P.underlying t = some .string) (h : Sh P B t avs) : ∃ s, avs = [.pr (.string s)] ∧ s.size ≤ B := by
  cases h with
  | str h hs => exact ⟨_, rfl, hs⟩
  | _ h => rw [ht] at h; cases h
theorem sh_slice {e : TypeId} (ht : P.underlying t = some (.slice e)) (h : Sh P B t avs) : ∃ es, avs = [.im (P.cellsOf e) es] ∧ es.length ≤ B ∧ ∀ x ∈ es, Sh P B e x := by
  cases h with
  | slice h hl he => rw [ht] at h; cases h; exact ⟨_, rfl, hl, he⟩
  | _ h => rw [ht] at h; cases h
theorem sh_struct {fs : Array Field} (ht : P.underlying t = some (.struct fs)) (h : Sh P B t avs) : ∃ as : List (List AV), avs = as.flatten ∧ as.length = fs.size ∧ ∀ (i : Nat) (f : Field) (a : List AV), fs[i]? = some f → as[i]? = some a → Sh P B f.type a := by
  cases h with
  | struct h hl hf _ => rw [ht] at h; cases h; exact ⟨_, rfl, hl, hf⟩
  | _ h => rw [ht] at h; cases h
end
/-- Each one is some thing's. -/
theorem map_choose {α β : Type} {f : α → β} {p : α → Prop} : ∀ {es : List β}, (∀ x ∈ es, ∃ a, x = f a ∧ p a) → ∃ l : List α, es = l.map f ∧ ∀ a ∈ l, p a
  | [], _ => ⟨[], rfl, by simp⟩
  | x :: r, h => by
    obtain ⟨l, h1, h2⟩ := map_choose fun y hy => h y (List.mem_cons_of_mem _ hy)
    obtain ⟨a, h3, h4⟩ := h x List.mem_cons_self
    refine ⟨a :: l, by rw [h1, h3]; rfl, fun b hb => ?_⟩
    cases hb with
    | head => exact h4
    | tail _ hb => exact h2 b hb
end Go.Vc
