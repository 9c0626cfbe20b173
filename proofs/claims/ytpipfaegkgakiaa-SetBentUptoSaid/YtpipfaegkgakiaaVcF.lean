/- New memory; literals; the rest. Part of a framework of abstract values and states, over the model, for proofs of functions; it has no conditions of its own. -/
import Derived.Test.YtpipfaegkgakiaaVcE
set_option linter.all false
/-! New memory; literals; the rest. -/
namespace Go.Vc

/-- A new object of one element. -/
def newBox (st : St) (d : Option Nat) (cs : List AV) (K : St → Prop) : Prop :=
  match d with
  | some d => d ∉ st.used ∧ K { regs := upd st.regs d (.pt d 0 0), objs := upd st.objs d (some ⟨cs.length, [cs]⟩), used := d :: st.used }
  | none => False
@[congr] theorem newBox_congr {st : St} {d : Option Nat} {x y : List AV} {K : St → Prop} {p00 : Prop} (_h00 : (True ∧ True) = p00) (h : x = y) : newBox st d x K = newBox st d y K := by rw [h]

/-- A new object: a slice of all its elements. -/
def newArr (st : St) (d : Option Nat) (sz : Nat) (es : List (List AV)) (K : St → Prop) : Prop :=
  match d with
  | some d => d ∉ st.used ∧ K { regs := upd st.regs d (.rf d 0 es.length), objs := upd st.objs d (some ⟨sz, es⟩), used := d :: st.used }
  | none => False
@[congr] theorem newArr_congr {st : St} {d : Option Nat} {sz sz' : Nat} {x y : List (List AV)} {K : St → Prop} {p00 : Prop} (_h00 : (True ∧ True) = p00) (h : x = y) (h2 : sz = sz') : newArr st d sz x K = newArr st d sz' y K := by rw [h, h2]

def fill (fs : List (Nat × Nat)) (cs : List AV) : List (Nat × AV) → (List AV → Prop) → Prop
  | [], K => K cs
  | (i, v) :: r, K => cellsOf v fun new => fAt fs i fun o n => (new.length = n ∧ o + n ≤ cs.length) ∧ fill fs (splice cs o new) r K
@[congr] theorem fill_congr {fs fs' : List (Nat × Nat)} {x y : List AV} {p p' : List (Nat × AV)} {K : List AV → Prop} {p00 : Prop} (_h00 : (True ∧ True) = p00) (h : fs = fs') (h1 : x = y) (h2 : p = p') : fill fs x p K = fill fs' y p' K := by rw [h, h1, h2]

def hBuild (k : TK) (zero : List AV) (ps : List (Nat × AV)) (K : AV → Prop) : Prop :=
  match k with
  | .struct fs => fill fs zero ps fun cs => K (.ag cs)
  | _ => False
@[congr] theorem hBuild_congr {k k' : TK} {x y : List AV} {p p' : List (Nat × AV)} {K : AV → Prop} {p00 : Prop} (_h00 : (True ∧ True) = p00) (h : k = k') (h1 : x = y) (h2 : p = p') : hBuild k x p K = hBuild k' y p' K := by rw [h, h1, h2]

/-- The parts of a slice literal, one by one. -/
def lit (sz : Nat) : Nat → List (Nat × AV) → (List (List AV) → Prop) → Prop
  | _, [], K => K []
  | n, (i, v) :: r, K => i = n ∧ cellsOf v fun cs => cs.length = sz ∧ lit sz (n + 1) r fun es => K (cs :: es)
@[congr] theorem lit_congr {sz sz' n n' : Nat} {p p' : List (Nat × AV)} {K : List (List AV) → Prop} {p00 : Prop} (_h00 : (True ∧ True) = p00) (h : sz = sz') (h1 : n = n') (h2 : p = p') : lit sz n p K = lit sz' n' p' K := by rw [h, h1, h2]

section
variable {P : Program} {T : Nat → TI} {F : Fr} {φ : Nat → Option (Nat × Nat)} {st : St} {w : World}

/-- What a step that makes an object comes to. -/
def Makes (F : Fr) (φ : Nat → Option (Nat × Nat)) (st : St) (w w' : World) (d : Nat) (r : Value) (av : AV) (o : Ob) : Prop :=
  ∃ φ', Goes φ φ' st.objs (upd st.objs d (some o)) (· ∈ st.used) (· ∈ d :: st.used) w w' ∧ RepH F φ' (upd st.objs d (some o)) (· ∈ d :: st.used) w' ∧
    RepV φ' (upd st.objs d (some o)) (· ∈ d :: st.used) w'.heap (SS F φ' (upd st.objs d (some o)) w') r av

theorem makes_box (H : RepH F φ st.objs (· ∈ st.used) w) {d : Nat} (hd : d ∉ st.used) {cs : List AV} {arr : Array Value} {e : TypeId} (hs : arr.size = cs.length)
    (hc : ∀ (j : Nat) (av : AV), cs[j]? = some av → ∃ u : Value, arr[j]? = some u ∧ u.oneCell' = true ∧ RV F φ st w u av) :
    Makes F φ st w { w with heap := w.heap.push (.cells arr e (0, 0)) } d (.pointer (some ⟨w.heap.size, 0, none⟩)) (.pt d 0 0) ⟨cs.length, [cs]⟩ := by
  obtain ⟨G, H'⟩ := Rep.new (o := ⟨cs.length, [cs]⟩) (c := arr) (e := e) (w' := { w with heap := w.heap.push (.cells arr e (0, 0)) }) H hd (by simp) (by simp [hs]) (fun i j av hij => by
    cases i with
    | zero => simp only [cellAt, List.getElem?_cons_zero, Option.bind_some] at hij; simpa using hc j av hij
    | succ i => simp [cellAt] at hij) rfl rfl rfl rfl
  refine ⟨_, G, H', .pt List.mem_cons_self ⟨_, rfl⟩ fun o ho => ?_⟩
  rw [upd_eq] at ho; cases ho
  exact ⟨w.heap.size, 0, upd_eq _ _ _, by simp⟩

theorem makes_arr (H : RepH F φ st.objs (· ∈ st.used) w) {d sz cap : Nat} (hd : d ∉ st.used) {es : List (List AV)} {arr : Array Value} {e : TypeId} (hr : Row (RV F φ st w) sz es arr) (hcap : cap = es.length) :
    Makes F φ st w { w with heap := w.heap.push (.cells arr e (0, 0)) } d (.slice (some ⟨w.heap.size, 0, none⟩) es.length cap) (.rf d 0 es.length) ⟨sz, es⟩ := by
  obtain ⟨G, H'⟩ := Rep.new (o := ⟨sz, es⟩) (c := arr) (e := e) (w' := { w with heap := w.heap.push (.cells arr e (0, 0)) }) H hd hr.el (by simp [hr.size]) (fun i j av hij => hr.get hij) rfl rfl rfl rfl
  refine ⟨_, G, H', .rf List.mem_cons_self ⟨_, _, rfl, by simp⟩ fun o ho => ?_⟩
  rw [upd_eq] at ho; cases ho
  exact ⟨by simp, .inr ⟨w.heap.size, 0, cap, arr, e, (0, 0), upd_eq _ _ _, Array.getElem?_push_size, by simp, by omega, by simp [hr.size, hcap]⟩⟩

theorem box_makes (H : RepH F φ st.objs (· ∈ st.used) w) {t d : Nat} (hd : d ∉ st.used) {x : AV} {v : Value} {K : List AV → Prop} (hk : cellsOf x K) (r : RV F φ st w v x) :
    ∃ cs u w', K cs ∧ (Instr.box t v).run P w = .ok u w' ∧ Makes F φ st w w' d u (.pt d 0 0) ⟨cs.length, [cs]⟩ := by
  obtain ⟨cs, hk, h1, h2, h3⟩ := cellsOf_spec hk r
  exact ⟨cs, _, _, hk, by simp only [Instr.box, newVar, newRow, Sem.run_bind, run_newObj, Result.andThen_ok, Sem.run_pure], makes_box (e := t) H hd h1 h3⟩

theorem zero_cells (hT : TabOk P T) {t : Nat} (hk : (T t).k.known = true) : ∃ z, (zeroValue t).run P w = .ok z w ∧ z.cells.size = (T t).zero.length ∧ (T t).zero.length = (T t).size ∧
    ∀ (j : Nat) (av : AV), (T t).zero[j]? = some av → ∃ u : Value, z.cells[j]? = some u ∧ u.oneCell' = true ∧ RV F φ st w u av := by
  obtain ⟨i, z, h⟩ := hT.infos t hk
  refine ⟨z, by simp [zeroValue, typeInfo, h.info, h.zero], by rw [← h.zc]; simp, h.zl, fun j av hj => ?_⟩
  rw [← h.zc, List.getElem?_map] at hj
  cases hz : z.cells.toList[j]? with
  | none => rw [hz] at hj; cases hj
  | some u =>
    rw [hz] at hj; cases hj
    exact ⟨u, by simpa using hz, h.one u (List.mem_of_getElem? hz), rv_cAV u⟩

theorem alloc_makes (hT : TabOk P T) (H : RepH F φ st.objs (· ∈ st.used) w) {t d : Nat} (hk : (T t).k.known = true) (hd : d ∉ st.used) :
    ∃ u w', (Instr.alloc t true (.tuple #[])).run P w = .ok u w' ∧ Makes F φ st w w' d u (.pt d 0 0) ⟨(T t).zero.length, [(T t).zero]⟩ := by
  obtain ⟨z, h1, h2, _, h3⟩ := zero_cells (P := P) (F := F) (φ := φ) (st := st) (w := w) hT hk
  exact ⟨_, _, by simp only [Instr.alloc, Sem.run_bind, h1, Result.andThen_ok, newVar, newRow, run_newObj, Sem.run_pure], makes_box (e := t) H hd h2 h3⟩

theorem zeros_row (hT : TabOk P T) {t : Nat} (hk : (T t).k.known = true) {n : Nat} {z : Value} (h2 : z.cells.size = (T t).size) (h3 : ∀ (j : Nat) (av : AV), (T t).zero[j]? = some av → ∃ u : Value, z.cells[j]? = some u ∧ u.oneCell' = true ∧ RV F φ st w u av)
    (hz : (T t).zero.length = (T t).size) : Row (RV F φ st w) (T t).size (List.replicate n (T t).zero) ((Array.range (n * (T t).size)).map (z.cells[· % z.cells.size]!)) := by
  have hpos := known_of_size hT hk
  have hel : ∀ x ∈ List.replicate n (T t).zero, x.length = (T t).size := fun x hx => by rw [(List.mem_replicate.1 hx).2, hz]
  have key : ∀ k, k < n * (T t).size → ∃ u, z.cells[k % (T t).size]? = some u ∧ u.oneCell' = true ∧ ((Array.range (n * (T t).size)).map (z.cells[· % z.cells.size]!)).getD k undef = u := by
    intro k hk
    have hm := Nat.mod_lt k hpos
    obtain ⟨u, g1, g2, _⟩ := h3 (k % (T t).size) _ (List.getElem?_eq_getElem (by rw [hz]; exact hm))
    refine ⟨u, g1, g2, ?_⟩
    have hm' : k % (T t).size < z.cells.size := by rw [h2]; exact hm
    rw [h2]
    simp only [Array.getD_eq_getD_getElem?, Array.getElem?_map, Array.getElem?_range, hk, if_true, Option.map_some, Option.getD_some]
    rw [getElem!_pos z.cells _ hm']
    rw [Array.getElem?_eq_getElem hm'] at g1
    exact Option.some.inj g1
  refine ⟨by simp, ?_, hel, ?_⟩
  · intro k hk'
    simp at hk'
    obtain ⟨u, _, g2, g3⟩ := key k hk'
    rw [g3]; exact g2
  · intro i j av hij
    obtain ⟨hi, hj⟩ := cellAt_lt hel hij
    simp only [List.length_replicate] at hi
    have hlt : i * (T t).size + j < n * (T t).size := by
      have : (i + 1) * (T t).size ≤ n * (T t).size := Nat.mul_le_mul_right _ hi
      rw [Nat.add_mul] at this; omega
    obtain ⟨u, g1, _, g3⟩ := key _ hlt
    rw [g3]
    have hmod : (i * (T t).size + j) % (T t).size = j := by rw [Nat.add_comm, Nat.add_mul_mod_self_right, Nat.mod_eq_of_lt hj]
    rw [hmod] at g1
    simp only [cellAt, List.getElem?_replicate, hi, if_true, Option.bind_some] at hij
    obtain ⟨u', k1, _, k3⟩ := h3 j av hij
    rw [g1] at k1; cases k1; exact k3

theorem wrap_i64 {n : Int} (h0 : -9223372036854775808 ≤ n) (h1 : n ≤ 9223372036854775807) : IntKind.i64.wrap n = n := by
  have e : IntKind.i64.wrap n = if n % 18446744073709551616 ≥ 9223372036854775808 then n % 18446744073709551616 - 18446744073709551616 else n % 18446744073709551616 := by
    simp [IntKind.wrap, IntKind.bits, IntKind.signed]
  rw [e]; split <;> omega

theorem make_makes (hT : TabOk P T) (H : RepH F φ st.objs (· ∈ st.used) w) {t e d n : Nat} {k k' : IntKind} (ht : (T t).k = .slice e) (hk : (T e).k.known = true) (hd : d ∉ st.used) (hn : n ≤ 1073741824) :
    ∃ u w', (Instr.makeSlice t (.int k n) (.int k' n)).run P w = .ok u w' ∧ Makes F φ st w w' d u (.rf d 0 n) ⟨(T e).size, List.replicate n (T e).zero⟩ := by
  obtain ⟨i, z', hi⟩ := hT.infos e hk
  obtain ⟨z, h1, h2, hz, h3⟩ := zero_cells (P := P) (F := F) (φ := φ) (st := st) (w := w) hT hk
  have hu := hT.kinds t; rw [ht] at hu; simp only [KOk] at hu
  have hw : IntKind.i64.wrap (n : Int) = n := wrap_i64 (by omega) (by omega)
  have hb : ¬ (281474976710656 : Int) < (i.bytes : Int) * n := by
    rw [hi.bytes]
    have := Nat.mul_le_mul hi.b1 hn
    have h2 : ((T e).bytes : Int) * n = (((T e).bytes * n : Nat) : Int) := by simp
    rw [h2]; omega
  have hrow := zeros_row (F := F) (φ := φ) (st := st) (w := w) hT hk (n := n) (h2.trans hz) h3 hz
  have hM := makes_arr (e := e) (cap := n) H hd hrow (by simp)
  simp only [List.length_replicate] at hM
  refine ⟨_, _, ?_, hM⟩
  have hneg : ¬ ((n : Int) < 0) := by omega
  by_cases h0 : n = 0
  · subst h0
    have hw0 : IntKind.i64.wrap 0 = 0 := hw
    simp [Instr.makeSlice, run_underlying hu, asInt, asIntOf, typeInfo, hi.info, hw0, sizeOf, newRow]
    simp only [show Array.range 0 = #[] from rfl, Array.map_empty]
  · have hne : ¬ (n * (T e).size = 0) := by have := known_of_size hT hk; have := Nat.mul_pos (Nat.pos_of_ne_zero h0) this; omega
    simp [Instr.makeSlice, run_underlying hu, asInt, asIntOf, typeInfo, hi.info, hi.size, hw, hb, hneg, sizeOf, newRow, h1]
    exact fun h => absurd h hne

/-- The parts of a literal. -/
inductive Parts (R : Value → AV → Prop) : List (Nat × Value) → List (Nat × AV) → Prop
  | nil : Parts R [] []
  | cons {i : Nat} {v : Value} {x : AV} {ps : List (Nat × Value)} {qs : List (Nat × AV)} (h : R v x) (t : Parts R ps qs) : Parts R ((i, v) :: ps) ((i, x) :: qs)

theorem fold_putAt (off : Nat) : ∀ (l : List Value) (n : Nat) (cells : Array Value), (l.zipIdx n).foldl (fun cs p => cs.setIfInBounds (off + p.2) p.1) cells = putAt cells (off + n) l := by
  intro l
  induction l with
  | nil => intro n cells; rfl
  | cons v r ih =>
    intro n cells
    simp only [List.zipIdx_cons, List.foldl_cons, putAt]
    rw [ih, Nat.add_assoc]

theorem fill_step {place : Nat → Option (Nat × Nat)} {cells : Array Value} {i off n : Nat} {v : Value} {r : List (Nat × Value)} (hp : place i = some (off, n)) (h1 : v.cells.size = n) (h2 : off + n ≤ cells.size) :
    Instr.fill place cells ((i, v) :: r) = Instr.fill place (putAt cells off v.cells.toList) r := by
  have h3 : ¬ (cells.size < off + v.cells.size) := by omega
  have hf : v.cells.zipIdx.foldl (fun cs (p : Value × Nat) => cs.setIfInBounds (off + p.2) p.1) cells = putAt cells off v.cells.toList := by
    rw [← Array.foldl_toList, Array.toList_zipIdx, fold_putAt, Nat.add_zero]
  simp only [Instr.fill, hp]
  rw [if_neg (by simp [h1]; omega)]
  congr 1

/-- Cells as they are told. -/
def CellsOf (R : Value → AV → Prop) (arr : Array Value) (cs : List AV) : Prop := arr.size = cs.length ∧ (∀ k, k < arr.size → (arr.getD k undef).oneCell' = true) ∧ ∀ (j : Nat) (av : AV), cs[j]? = some av → ∃ u : Value, arr[j]? = some u ∧ R u av

theorem CellsOf.splice {R : Value → AV → Prop} {arr : Array Value} {cs new : List AV} {off : Nat} {v : Value} (h : CellsOf R arr cs) (h1 : v.cells.size = new.length) (hone : ∀ c ∈ v.cells.toList, c.oneCell' = true)
    (hnew : ∀ (j : Nat) (av : AV), new[j]? = some av → ∃ u : Value, v.cells[j]? = some u ∧ u.oneCell' = true ∧ R u av) (hb : off + new.length ≤ cs.length) : CellsOf R (putAt arr off v.cells.toList) (splice cs off new) := by
  obtain ⟨g1, g2, g3⟩ := h
  have hl : off + v.cells.toList.length ≤ arr.size := by simp [h1, g1]; omega
  refine ⟨by rw [putAt_len, splice_length hb, g1], ?_, ?_⟩
  · intro k hk
    rw [putAt_len] at hk
    rw [Array.getD_eq_getD_getElem?, putAt_get _ _ _ _ hl]
    split
    · rename_i hh
      have : k - off < v.cells.toList.length := by omega
      rw [List.getElem?_eq_getElem this]
      exact hone _ (List.getElem_mem this)
    · have := g2 k hk; rwa [Array.getD_eq_getD_getElem?] at this
  · intro j av hj
    rw [splice_get hb] at hj
    rw [putAt_get _ _ _ _ hl]
    simp only [Array.length_toList, h1]
    split at hj
    · rename_i hh
      obtain ⟨u, k1, _, k3⟩ := hnew _ _ hj
      exact ⟨u, by rw [if_pos hh]; simpa using k1, k3⟩
    · rename_i hh
      obtain ⟨u, k1, k3⟩ := g3 _ _ hj
      exact ⟨u, by rw [if_neg hh]; exact k1, k3⟩

theorem fill_spec {R : Value → AV → Prop} (hR : R = RV F φ st w) {fs : List (Nat × Nat)} {place : Nat → Option (Nat × Nat)} (hp : ∀ i, place i = fs[i]?) : ∀ {qs : List (Nat × AV)} {ps : List (Nat × Value)} {cs : List AV} {arr : Array Value} {K : List AV → Prop},
    fill fs cs qs K → Parts R ps qs → CellsOf R arr cs → ∃ arr' cs', Instr.fill place arr ps = some arr' ∧ K cs' ∧ CellsOf R arr' cs' := by
  intro qs
  induction qs with
  | nil =>
    intro ps cs arr K hk hps hc
    cases hps
    exact ⟨arr, cs, rfl, hk, hc⟩
  | cons q qs ih =>
    intro ps cs arr K hk hps hc
    cases hps with
    | cons hv t =>
      subst hR
      obtain ⟨new, hk, h1, h2, h3⟩ := cellsOf_spec hk hv
      obtain ⟨o, n, hf, ⟨hn, hb⟩, hk⟩ := fAt_spec hk
      have hb' : o + new.length ≤ cs.length := by omega
      obtain ⟨arr', cs', g1, g2, g3⟩ := ih hk t (hc.splice (off := o) h1 h2 h3 hb')
      refine ⟨arr', cs', ?_, g2, g3⟩
      rw [fill_step (off := o) (n := n) (by rw [hp]; exact hf) (by omega) (by rw [hc.1]; omega)]
      exact g1

theorem hBuild_yields (hT : TabOk P T) {t : Nat} {ps : Array (Nat × Value)} {qs : List (Nat × AV)} {K : AV → Prop} (hk : hBuild (T t).k (T t).zero qs K) (hps : Parts (RV F φ st w) ps.toList qs) : Yields P w (RV F φ st w) (Instr.build t ps) K := by
  generalize hk0 : (T t).k = k0 at hk
  cases k0 with
  | struct fs =>
    have hkn : (T t).k.known = true := by rw [hk0]; rfl
    obtain ⟨i, z, hi⟩ := hT.infos t hkn
    have h := hT.kinds t
    rw [hk0] at h
    obtain ⟨fields, hu, hm, hpp⟩ := h
    obtain ⟨z', hz1, hz2, hz3, hz4⟩ := zero_cells (P := P) (F := F) (φ := φ) (st := st) (w := w) hT hkn
    have hzz : z' = z := by
      have : (zeroValue t).run P w = .ok z w := by simp [zeroValue, typeInfo, hi.info, hi.zero]
      rw [this] at hz1; cases hz1; rfl
    subst hzz
    have hc0 : CellsOf (RV F φ st w) z'.cells (T t).zero := ⟨hz2, fun k hk => by
      obtain ⟨u, g1, g2, _⟩ := hz4 k _ (List.getElem?_eq_getElem (by omega))
      rw [Array.getD_eq_getD_getElem?, g1]; exact g2, fun j av hj => by obtain ⟨u, g1, _, g3⟩ := hz4 j av hj; exact ⟨u, g1, g3⟩⟩
    have hplaces : fields.toList.mapM (fun f => (P.info? f.type).map fun i => (f.offset, i.size)) = some fs := by
      rw [← hm]
      clear hm hu hc0
      generalize fields.toList = l at hpp
      induction l with
      | nil => rfl
      | cons f l ih =>
        obtain ⟨i', hi', _⟩ := hpp f List.mem_cons_self
        rw [List.mapM_cons, ih fun g hg => hpp g (List.mem_cons_of_mem _ hg), hi']
        simp [Program.cellsOf, hi']
    obtain ⟨arr', cs', g1, g2, g3, g4, g5⟩ := fill_spec (F := F) (φ := φ) (st := st) (w := w) rfl (place := (fs.toArray[·]?)) (fun i => by simp) hk hps hc0
    refine ⟨.agg arr', _, run_build w t ps arr' ?_, .ag g3 g4 fun j av hj => ?_, g2⟩
    · simp only [Program.built, hi.info, hu, hi.zero, hplaces]; exact g1
    · obtain ⟨u, k1, k2⟩ := g5 j av hj
      rw [Array.getD_eq_getD_getElem?, k1]; exact k2
  | _ => exact False.elim hk

theorem lit_spec {R : Value → AV → Prop} (hR : R = RV F φ st w) {sz : Nat} : ∀ {qs : List (Nat × AV)} {ps : List (Nat × Value)} {n : Nat} {arr : Array Value} {done : List (List AV)} {K : List (List AV) → Prop},
    lit sz n qs K → Parts R ps qs → done.length = n → (∀ x ∈ done, x.length = sz) → (n + qs.length) * sz = arr.size → (∀ k, k < arr.size → (arr.getD k undef).oneCell' = true) →
    (∀ i j av, cellAt done i j = some av → R (arr.getD (i * sz + j) undef) av) →
    ∃ arr' es, Instr.fill (fun i => some (i * sz, sz)) arr ps = some arr' ∧ K es ∧ es.length = qs.length ∧ Row R sz (done ++ es) arr' := by
  intro qs
  induction qs with
  | nil =>
    intro ps n arr done K hk hps hn hel hsz hone hc
    cases hps
    exact ⟨arr, [], rfl, hk, rfl, by simpa [hn] using hsz.symm, hone, by simpa using hel, by simpa using hc⟩
  | cons q qs ih =>
    intro ps n arr done K hk hps hn hel hsz hone hc
    cases hps with
    | @cons i v x ps _ hv t =>
      subst hR
      obtain ⟨rfl, hk⟩ := hk
      obtain ⟨new, ⟨hl, hk⟩, h1, h2, h3⟩ := cellsOf_spec hk hv
      simp only [List.length_cons] at hsz
      have hb : i * sz + sz ≤ arr.size := by
        have : (i + 1) * sz ≤ (i + (qs.length + 1)) * sz := Nat.mul_le_mul_right _ (by omega)
        rw [Nat.add_mul] at this; omega
      have hb' : i * sz + v.cells.toList.length ≤ arr.size := by simp [h1, hl]; exact hb
      obtain ⟨arr', es, g1, g2, g3, g4⟩ := ih (n := i + 1) (arr := putAt arr (i * sz) v.cells.toList) (done := done ++ [new]) hk t (by simp [hn])
        (fun y hy => by rcases List.mem_append.1 hy with h | h; exact hel y h; rw [List.mem_singleton.1 h]; exact hl)
        (by rw [putAt_len, ← hsz]; congr 1; omega)
        (fun k hk => by
          rw [putAt_len] at hk
          rw [Array.getD_eq_getD_getElem?, putAt_get _ _ _ _ hb']
          split
          · rename_i hh
            have hlt : k - i * sz < v.cells.toList.length := by omega
            rw [List.getElem?_eq_getElem hlt]
            exact h2 _ (List.getElem_mem hlt)
          · have := hone k hk; rwa [Array.getD_eq_getD_getElem?] at this)
        (fun k j av hkj => by
          rw [Array.getD_eq_getD_getElem?, putAt_get _ _ _ _ hb']
          by_cases hki : k < i
          · have hkj' : cellAt done k j = some av := by simpa [cellAt, List.getElem?_append, hn, hki] using hkj
            have := (cellAt_lt hel hkj').2
            have hm : (k + 1) * sz ≤ i * sz := Nat.mul_le_mul_right _ hki
            rw [Nat.add_mul] at hm
            rw [if_neg (by omega)]
            have := hc k j av hkj'; rwa [Array.getD_eq_getD_getElem?] at this
          · have hk0 : k = i := by
              have hel' : ∀ x ∈ done ++ [new], x.length = sz := fun y hy => by
                rcases List.mem_append.1 hy with h | h
                · exact hel y h
                · rw [List.mem_singleton.1 h]; exact hl
              have := (cellAt_lt hel' hkj).1; simp [hn] at this; omega
            subst hk0
            have hkj' : new[j]? = some av := by simpa [cellAt, List.getElem?_append, hn] using hkj
            have hjl := (List.getElem?_eq_some_iff.1 hkj').1
            obtain ⟨u, k1, k2, k3⟩ := h3 j av hkj'
            rw [if_pos (by simp only [Array.length_toList, h1]; omega), show k * sz + j - k * sz = j by omega]
            have : v.cells.toList[j]? = some u := by simpa using k1
            rw [this]; exact k3)
      refine ⟨arr', new :: es, ?_, g2, by simp [g3], by simpa using g4⟩
      rw [fill_step (off := i * sz) (n := sz) rfl (by omega) (by omega)]
      exact g1

theorem buildSlice_makes (hT : TabOk P T) (H : RepH F φ st.objs (· ∈ st.used) w) {t e d len : Nat} (ht : (T t).k = .slice e) (hk : (T e).k.known = true) (hd : d ∉ st.used) {ps : Array (Nat × Value)} {qs : List (Nat × AV)} {K : List (List AV) → Prop}
    (hl : len = qs.length) (hlen : len * (T e).size ≤ 16777216) (hlit : lit (T e).size 0 qs K) (hps : Parts (RV F φ st w) ps.toList qs) :
    ∃ u es w', K es ∧ (Instr.buildSlice t len ps).run P w = .ok u w' ∧ Makes F φ st w w' d u (.rf d 0 es.length) ⟨(T e).size, es⟩ := by
  obtain ⟨i, z', hi⟩ := hT.infos e hk
  obtain ⟨z, h1, h2, hz, h3⟩ := zero_cells (P := P) (F := F) (φ := φ) (st := st) (w := w) hT hk
  have hu := hT.kinds t; rw [ht] at hu; simp only [KOk] at hu
  have hrow := zeros_row (F := F) (φ := φ) (st := st) (w := w) hT hk (n := len) (h2.trans hz) h3 hz
  have hpos := known_of_size hT hk
  by_cases h0 : len = 0
  · have hq : qs = [] := List.length_eq_zero_iff.1 (by omega)
    subst hq
    cases hps' : ps.toList with
    | cons a b => rw [hps'] at hps; cases hps
    | nil =>
      have hM := makes_arr (e := e) (sz := (T e).size) (cap := len) (es := []) (arr := (Array.range (len * (T e).size)).map fun x => (#[] : Array Value)[x % (#[] : Array Value).size]!) H hd (by
        subst h0
        exact ⟨by simp, by simp, by simp, fun i j av h => by simp [cellAt] at h⟩) (by simp [h0])
      refine ⟨_, [], _, hlit, ?_, hM⟩
      subst h0
      simp [Instr.buildSlice, run_underlying hu, run_sizeOf_tab hT hk, hps', Instr.fill, newRow]
      try rfl
  · obtain ⟨arr', es, g1, g2, g3, g4⟩ := lit_spec (F := F) (φ := φ) (st := st) (w := w) rfl (n := 0) (done := []) hlit hps rfl (by simp) (by rw [hrow.size]; simp [hl]) hrow.one (fun i j av h => by simp [cellAt] at h)
    simp only [List.nil_append] at g4
    have hM := makes_arr (e := e) (cap := len) H hd g4 (by omega)
    refine ⟨_, es, _, g2, ?_, hM⟩
    have hsm : ¬ (16777216 < len * (T e).size) := by omega
    simp [Instr.buildSlice, run_underlying hu, run_sizeOf_tab hT hk, hsm, h1, newRow]
    have hne2 : ¬ (len * (T e).size = 0) := by have := Nat.mul_pos (Nat.pos_of_ne_zero h0) hpos; omega
    rw [if_neg hne2, g1, show es.length = len by omega]
    rfl
end
end Go.Vc
