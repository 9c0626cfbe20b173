/- What the machine's memory operations do, and what that means of objects. Part of a framework of abstract values and states, over the model, for proofs of functions; it has no conditions of its own. -/
import Derived.Test.YtpipfaegkgakiaaVcA
set_option linter.all false
/-! What the machine's memory operations do, and what that means of objects. -/
namespace Go.Vc

theorem add_at (β o n : Nat) : (⟨β, o, none⟩ : Addr).add n = ⟨β, o + n, none⟩ := by
  unfold Addr.add; split
  · subst_vars; rfl
  · rfl

theorem cell_at {w : World} {β o : Nat} {c : Array Value} {e : TypeId} {fz : Nat × Nat} (hb : w.heap[β]? = some (.cells c e fz)) : w.cell? ⟨β, o, none⟩ = c[o]? := by
  simp [World.cell?, hb]

theorem soft_at {w : World} {β o : Nat} {c : Array Value} {e : TypeId} {fz : Nat × Nat} (hb : w.heap[β]? = some (.cells c e fz)) (hs : Soft c fz) (ho : o < c.size) :
    w.frozen? ⟨β, o, none⟩ = false := by
  have := hs o ho
  obtain ⟨lo, hi⟩ := fz
  simp only [World.frozen?, hb]
  simpa using this

/-- The cells from a place on. -/
def putAt (c : Array Value) (o : Nat) : List Value → Array Value
  | [] => c
  | v :: r => putAt (c.setIfInBounds o v) (o + 1) r

theorem putAt_size (vs : List Value) : ∀ (c : Array Value) (o : Nat), (putAt c o vs).size = c.size := by
  induction vs with
  | nil => intro c o; rfl
  | cons v r ih => intro c o; simp [putAt, ih]

theorem putAt_get (vs : List Value) : ∀ (c : Array Value) (o k : Nat), o + vs.length ≤ c.size →
    (putAt c o vs)[k]? = if o ≤ k ∧ k < o + vs.length then vs[k - o]? else c[k]? := by
  induction vs with
  | nil => intro c o k _; simp only [putAt, List.length_nil, Nat.add_zero]; rw [if_neg (by omega)]
  | cons v r ih =>
    intro c o k h
    simp only [List.length_cons] at h ⊢
    simp only [putAt]
    rw [ih _ _ _ (by simp; omega)]
    by_cases h1 : k = o
    · subst h1
      rw [if_neg (by omega), if_pos (by omega)]
      have hlt : k < c.size := by omega
      simp [hlt]
    · by_cases h2 : o + 1 ≤ k ∧ k < o + 1 + r.length
      · rw [if_pos h2, if_pos (by omega)]
        rw [show k - o = (k - (o + 1)) + 1 by omega]; simp
      · rw [if_neg h2, if_neg (by omega), Array.getElem?_setIfInBounds_ne (by omega)]

/-- The world with other cells in a block. -/
def World.setBlk (w : World) (β : Nat) (c : Array Value) (e : TypeId) (fz : Nat × Nat) : World := { w with heap := w.heap.setIfInBounds β (.cells c e fz) }

theorem setBlk_get {w : World} {β : Nat} {c : Array Value} {e : TypeId} {fz : Nat × Nat} (hb : β < w.heap.size) (γ : Nat) :
    (World.setBlk w β c e fz).heap[γ]? = if γ = β then some (.cells c e fz) else w.heap[γ]? := by
  simp only [World.setBlk]
  by_cases h : γ = β
  · subst h; simp [hb]
  · rw [if_neg h, Array.getElem?_setIfInBounds_ne (fun e => h e.symm)]

theorem setBlk_self {w : World} {β : Nat} {c : Array Value} {e : TypeId} {fz : Nat × Nat} (hb : w.heap[β]? = some (.cells c e fz)) : World.setBlk w β c e fz = w := by
  obtain ⟨h1, h2⟩ := Array.getElem?_eq_some_iff.1 hb
  simp only [World.setBlk]
  congr 1
  apply Array.ext
  · simp
  · intro i h3 h4
    by_cases h : β = i
    · subst h; simp [h2]
    · rw [Array.getElem_setIfInBounds_ne (by simpa using h3) h]

theorem setCell_blk {w : World} {β o : Nat} {c : Array Value} {e : TypeId} {fz : Nat × Nat} (hb : w.heap[β]? = some (.cells c e fz)) (v : Value) :
    w.setCell ⟨β, o, none⟩ v = World.setBlk w β (c.setIfInBounds o v) e fz := by
  obtain ⟨h1, h2⟩ := Array.getElem?_eq_some_iff.1 hb
  simp only [World.setCell, World.setBlk]
  congr 1
  apply Array.ext
  · simp
  · intro i h3 h4
    by_cases h : β = i
    · subst h; simp [Array.getElem_modify, h2]
    · rw [Array.getElem_setIfInBounds_ne (by simpa using h4) h]; simp [Array.getElem_modify, h]

theorem setBlk_setBlk {w : World} {β : Nat} {c c' : Array Value} {e : TypeId} {fz : Nat × Nat} : World.setBlk (World.setBlk w β c e fz) β c' e fz = World.setBlk w β c' e fz := by
  simp [World.setBlk]

theorem run_storeCells_blk {P : Program} {β : Nat} {e : TypeId} {fz : Nat × Nat} (o : Nat) : ∀ (vs : List Value) (i : Nat) (w : World) (c : Array Value),
    w.heap[β]? = some (.cells c e fz) → Soft c fz → o + i + vs.length ≤ c.size → (∀ v ∈ vs, v.oneCell' = true) →
    (storeCells ⟨β, o, none⟩ vs i).run P w = .ok () (World.setBlk w β (putAt c (o + i) vs) e fz) := by
  intro vs
  induction vs with
  | nil => intro i w c hb _ _ _; simp only [storeCells, putAt, Sem.run_pure]; rw [setBlk_self hb]
  | cons v r ih =>
    intro i w c hb hs hl h1
    simp only [List.length_cons] at hl
    have hlt := (Array.getElem?_eq_some_iff.1 hb).1
    have hc : w.cell? ⟨β, o + i, none⟩ = some (c[o + i]'(by omega)) := by rw [cell_at hb]; exact Array.getElem?_eq_getElem _
    have hst : (store ((⟨β, o, none⟩ : Addr).add i) v).run P w = .ok () (World.setBlk w β (c.setIfInBounds (o + i) v) e fz) := by
      rw [add_at, run_store P w _ v _ (h1 v (by simp)), hc]
      simp only [soft_at hb hs (show o + i < c.size by omega)]
      simp [setCell_blk hb]
    simp only [storeCells, Sem.run_bind, hst, Result.andThen_ok]
    rw [ih (i + 1) _ (c.setIfInBounds (o + i) v) (by rw [setBlk_get hlt]; simp) (by intro k hk; exact hs k (by simpa using hk)) (by simp; omega) (fun x hx => h1 x (by simp [hx]))]
    rw [setBlk_setBlk]
    rfl

/-- The cells that stand somewhere read as these. -/
def Cells (w : World) (R : Value → AV → Prop) (a : Addr) (cs : List AV) : Prop := ∀ j av, cs[j]? = some av → ∃ v, w.cell? (a.add j) = some v ∧ v.oneCell' = true ∧ R v av

theorem run_loadCells_rep {P : Program} {w : World} {R : Value → AV → Prop} {a : Addr} {cs : List AV} (h : Cells w R a cs) :
    ∃ arr : Array Value, (loadCells a cs.length).run P w = .ok arr w ∧ arr.size = cs.length ∧ (∀ j, j < arr.size → (arr.getD j undef).oneCell' = true) ∧
      ∀ j av, cs[j]? = some av → R (arr.getD j undef) av := by
  refine ⟨((List.range cs.length).map fun j => (w.cell? (a.add j)).getD undef).toArray, ?_, by simp, ?_, ?_⟩
  · exact run_loadCells w a cs.length _ fun j hj => by
      obtain ⟨v, h1, _⟩ := h j _ (List.getElem?_eq_getElem hj)
      rw [h1]; rfl
  · intro j hj
    simp at hj
    obtain ⟨v, h1, h2, _⟩ := h j _ (List.getElem?_eq_getElem hj)
    simp [hj, h1, h2]
  · intro j av hj
    have hlt := (List.getElem?_eq_some_iff.1 hj).1
    obtain ⟨v, h1, h2, h3⟩ := h j _ hj
    simp [hlt, h1, h3]

/-- A new block. -/
theorem Rep.new {F : Fr} {φ : Nat → Option (Nat × Nat)} {st : St} {w w' : World} {d : Nat} {o : Ob} {c : Array Value} {e : TypeId}
    (H : RepH F φ st.objs (· ∈ st.used) w) (hd : d ∉ st.used) (hsz : ∀ x ∈ o.es, x.length = o.sz) (hfit : o.es.length * o.sz ≤ c.size)
    (hc : ∀ i j av, cellAt o.es i j = some av → ∃ v, c[i * o.sz + j]? = some v ∧ v.oneCell' = true ∧ RepV φ st.objs (· ∈ st.used) w.heap (SS F φ st.objs w) v av)
    (hw : w'.heap = w.heap.push (.cells c e (0, 0))) (h1 : w'.os = w.os) (h2 : w'.tape = w.tape) (h3 : w'.output = w.output) :
    Goes φ (upd φ d (some (w.heap.size, 0))) st.objs (upd st.objs d (some o)) (· ∈ st.used) (· ∈ d :: st.used) w w' ∧
      RepH F (upd φ d (some (w.heap.size, 0))) (upd st.objs d (some o)) (· ∈ d :: st.used) w' := by
  have hne : ∀ i o, st.objs i = some o → d ≠ i := fun i o ho e => hd (e ▸ H.inU i o ho)
  have G : Goes φ (upd φ d (some (w.heap.size, 0))) st.objs (upd st.objs d (some o)) (· ∈ st.used) (· ∈ d :: st.used) w w' := by
    refine ⟨fun i hi => List.mem_cons_of_mem _ hi, ?_, ?_, ?_, ?_⟩
    · intro i hi o' ho'
      have hdi : d ≠ i := fun e => hd (e ▸ hi)
      rw [upd_ne' _ _ hdi] at ho'
      refine ⟨o', ho', upd_ne' _ _ hdi, rfl, Nat.le_refl _, fun β b c' e' fz hφ hb => ⟨c', e', fz, ?_, rfl⟩⟩
      have := (Array.getElem?_eq_some_iff.1 hb).1
      rw [hw, Array.getElem?_push, if_neg (by omega)]; exact hb
    · intro β hβ _; rw [hw, Array.getElem?_push, if_neg (by omega)]
    · intro i o' β b ho' hφ'
      by_cases hdi : d = i
      · subst hdi; rw [upd_eq] at hφ'; cases hφ'; exact .inr (Nat.le_refl _)
      · rw [upd_ne' _ _ hdi] at ho' hφ'; exact .inl ⟨i, o', b, ho', hφ'⟩
    · rw [hw]; simp
  refine ⟨G, G.repH H ?_ ?_ ?_ h1 h2 h3⟩
  · intro i j oi oj β bi bj hi hj pi pj
    by_cases hdi : d = i
    · by_cases hdj : d = j
      · exact hdi.symm.trans hdj
      · subst hdi; rw [upd_eq] at pi; rw [upd_ne' _ _ hdj] at hj pj; cases pi
        have := H.lt hj pj; omega
    · by_cases hdj : d = j
      · subst hdj; rw [upd_eq] at pj; rw [upd_ne' _ _ hdi] at hi pi; cases pj
        have := H.lt hi pi; omega
      · rw [upd_ne' _ _ hdi] at hi pi; rw [upd_ne' _ _ hdj] at hj pj
        exact H.inj i j oi oj β bi bj hi hj pi pj
  · intro i o' ho'
    by_cases hdi : d = i
    · subst hdi; exact List.mem_cons_self
    · rw [upd_ne' _ _ hdi] at ho'; exact List.mem_cons_of_mem _ (H.inU i o' ho')
  · intro i o' ho'
    by_cases hdi : d = i
    · subst hdi
      rw [upd_eq] at ho'; cases ho'
      refine ⟨hsz, .inr ⟨w.heap.size, 0, c, e, (0, 0), upd_eq _ _ _, by rw [hw]; simp, fun k _ h => by simp at h, by simpa using hfit, fun i j av hij => ?_⟩⟩
      obtain ⟨v, g1, g2, g3⟩ := hc i j av hij
      exact ⟨v, by simpa using g1, g2, G.repV g3⟩
    · rw [upd_ne' _ _ hdi] at ho'
      refine (H.ob i o' ho').mono (upd_ne' _ _ hdi) (fun β b hφ => ?_) (fun v av r => G.repV r)
      have := H.lt ho' hφ
      rw [hw, Array.getElem?_push, if_neg (by omega)]

/-- An object's content turns in place. -/
theorem Rep.set {F : Fr} {φ : Nat → Option (Nat × Nat)} {st : St} {w w' : World} {id : Nat} {o o' : Ob} {β b : Nat} {c c' : Array Value} {e : TypeId} {fz : Nat × Nat}
    (H : RepH F φ st.objs (· ∈ st.used) w) (ho : st.objs id = some o) (hφ : φ id = some (β, b)) (hb : w.heap[β]? = some (.cells c e fz)) (hsoft : Soft c fz)
    (hsz' : o'.sz = o.sz) (hlen : o.es.length ≤ o'.es.length) (hcs : c'.size = c.size) (hel : ∀ x ∈ o'.es, x.length = o'.sz) (hfit : b + o'.es.length * o'.sz ≤ c'.size)
    (hc : ∀ i j av, cellAt o'.es i j = some av → ∃ v, c'[b + i * o'.sz + j]? = some v ∧ v.oneCell' = true ∧ RepV φ st.objs (· ∈ st.used) w.heap (SS F φ st.objs w) v av)
    (hw : w' = World.setBlk w β c' e fz) :
    Goes φ φ st.objs (upd st.objs id (some o')) (· ∈ st.used) (· ∈ st.used) w w' ∧ RepH F φ (upd st.objs id (some o')) (· ∈ st.used) w' := by
  subst hw
  have hlt := (Array.getElem?_eq_some_iff.1 hb).1
  have hget := fun γ => setBlk_get (c := c') (e := e) (fz := fz) hlt γ
  have G : Goes φ φ st.objs (upd st.objs id (some o')) (· ∈ st.used) (· ∈ st.used) w (World.setBlk w β c' e fz) := by
    refine ⟨fun i hi => hi, ?_, ?_, ?_, ?_⟩
    · intro i hi o₁ ho₁
      by_cases hdi : id = i
      · subst hdi
        rw [upd_eq] at ho₁; cases ho₁
        refine ⟨o, ho, rfl, hsz', hlen, fun γ b' c₁ e₁ fz₁ k1 k2 => ?_⟩
        rw [hφ] at k1; cases k1
        rw [hb] at k2; cases k2
        exact ⟨c', e, fz, by rw [hget]; simp, hcs⟩
      · rw [upd_ne' _ _ hdi] at ho₁
        refine ⟨o₁, ho₁, rfl, rfl, Nat.le_refl _, fun γ b' c₁ e₁ fz₁ k1 k2 => ⟨c₁, e₁, fz₁, ?_, rfl⟩⟩
        rw [hget, if_neg (fun (e : γ = β) => hdi (H.inj id i o o₁ γ b b' ho ho₁ (e ▸ hφ) k1))]; exact k2
    · intro γ hγ hno
      rw [hget, if_neg (fun (e : γ = β) => hno id o b ho (e ▸ hφ))]
    · intro i o₁ γ b' ho₁ hφ₁
      by_cases hdi : id = i
      · subst hdi; exact .inl ⟨id, o, b', ho, hφ₁⟩
      · rw [upd_ne' _ _ hdi] at ho₁; exact .inl ⟨i, o₁, b', ho₁, hφ₁⟩
    · simp [World.setBlk]
  refine ⟨G, G.repH H ?_ ?_ ?_ rfl rfl rfl⟩
  · intro i j oi oj γ bi bj hi hj pi pj
    have hi' : ∃ oi, st.objs i = some oi := by
      by_cases hdi : id = i
      · subst hdi; exact ⟨o, ho⟩
      · rw [upd_ne' _ _ hdi] at hi; exact ⟨oi, hi⟩
    have hj' : ∃ oj, st.objs j = some oj := by
      by_cases hdj : id = j
      · subst hdj; exact ⟨o, ho⟩
      · rw [upd_ne' _ _ hdj] at hj; exact ⟨oj, hj⟩
    obtain ⟨oi', hi'⟩ := hi'
    obtain ⟨oj', hj'⟩ := hj'
    exact H.inj i j oi' oj' γ bi bj hi' hj' pi pj
  · intro i o₁ ho₁
    by_cases hdi : id = i
    · subst hdi; exact H.inU id o ho
    · rw [upd_ne' _ _ hdi] at ho₁; exact H.inU i o₁ ho₁
  · intro i o₁ ho₁
    by_cases hdi : id = i
    · subst hdi
      rw [upd_eq] at ho₁; cases ho₁
      refine ⟨hel, .inr ⟨β, b, c', e, fz, hφ, by rw [hget]; simp, fun k hk => hsoft k (by rw [← hcs]; exact hk), hfit, fun i j av hij => ?_⟩⟩
      obtain ⟨v, g1, g2, g3⟩ := hc i j av hij
      exact ⟨v, g1, g2, G.repV g3⟩
    · rw [upd_ne' _ _ hdi] at ho₁
      refine (H.ob i o₁ ho₁).mono rfl (fun γ b' hφ' => ?_) (fun v av r => G.repV r)
      rw [hget, if_neg (fun (e : γ = β) => hdi (H.inj id i o o₁ γ b b' ho ho₁ (e ▸ hφ) hφ'))]

/-- An object gives way to a new one, which takes its block, or a new block. -/
theorem Rep.move {F : Fr} {φ : Nat → Option (Nat × Nat)} {st : St} {w w' : World} {id d : Nat} {o o' : Ob} {p : Option (Nat × Nat)}
    (H : RepH F φ st.objs (· ∈ st.used) w) (ho : st.objs id = some o) (hd : d ∉ st.used)
    (hblocks : ∀ γ, γ < w.heap.size → (∀ b, φ id ≠ some (γ, b)) → w'.heap[γ]? = w.heap[γ]?) (hsize : w.heap.size ≤ w'.heap.size)
    (hp : ∀ γ b, p = some (γ, b) → (∃ b', φ id = some (γ, b')) ∨ w.heap.size ≤ γ)
    (hrep : (∀ v av, RepV φ st.objs (· ∈ st.used) w.heap (SS F φ st.objs w) v av →
        RepV (upd φ d p) (upd (upd st.objs id none) d (some o')) (· ∈ d :: st.used) w'.heap (SS F (upd φ d p) (upd (upd st.objs id none) d (some o')) w') v av) →
        ObRep (upd φ d p) (upd (upd st.objs id none) d (some o')) (· ∈ d :: st.used) w'.heap (SS F (upd φ d p) (upd (upd st.objs id none) d (some o')) w') d o')
    (h1 : w'.os = w.os) (h2 : w'.tape = w.tape) (h3 : w'.output = w.output) :
    Goes φ (upd φ d p) st.objs (upd (upd st.objs id none) d (some o')) (· ∈ st.used) (· ∈ d :: st.used) w w' ∧
      RepH F (upd φ d p) (upd (upd st.objs id none) d (some o')) (· ∈ d :: st.used) w' := by
  have hidU := H.inU id o ho
  have hdid : d ≠ id := fun e => hd (e ▸ hidU)
  have hobs : ∀ i, i ≠ d → i ≠ id → upd (upd st.objs id none) d (some o') i = st.objs i := fun i h1 h2 => by
    rw [upd_ne' _ _ (Ne.symm h1), upd_ne' _ _ (Ne.symm h2)]
  have hobid : upd (upd st.objs id none) d (some o') id = none := by rw [upd_ne' _ _ hdid, upd_eq]
  have G : Goes φ (upd φ d p) st.objs (upd (upd st.objs id none) d (some o')) (· ∈ st.used) (· ∈ d :: st.used) w w' := by
    refine ⟨fun i hi => List.mem_cons_of_mem _ hi, ?_, ?_, ?_, hsize⟩
    · intro i hi o₁ ho₁
      have hdi : i ≠ d := fun e => hd (e ▸ hi)
      have hii : i ≠ id := fun e => by rw [e, hobid] at ho₁; cases ho₁
      rw [hobs i hdi hii] at ho₁
      refine ⟨o₁, ho₁, upd_ne' _ _ (Ne.symm hdi), rfl, Nat.le_refl _, fun γ b c e fz k1 k2 => ⟨c, e, fz, ?_, rfl⟩⟩
      rw [hblocks γ (Array.getElem?_eq_some_iff.1 k2).1 fun b' k => hii (H.inj i id o₁ o γ b b' ho₁ ho k1 k)]; exact k2
    · intro γ hγ hno; exact hblocks γ hγ fun b => hno id o b ho
    · intro i o₁ γ b ho₁ hφ₁
      by_cases hdi : d = i
      · subst hdi; rw [upd_eq] at hφ₁
        rcases hp γ b hφ₁ with ⟨b', k⟩ | k
        · exact .inl ⟨id, o, b', ho, k⟩
        · exact .inr k
      · have hii : i ≠ id := fun e => by rw [e, hobid] at ho₁; cases ho₁
        rw [hobs i (Ne.symm hdi) hii] at ho₁; rw [upd_ne' _ _ hdi] at hφ₁
        exact .inl ⟨i, o₁, b, ho₁, hφ₁⟩
  have hrV := fun v av (r : RepV φ st.objs (· ∈ st.used) w.heap (SS F φ st.objs w) v av) => G.repV (F := F) r
  refine ⟨G, G.repH H ?_ ?_ ?_ h1 h2 h3⟩
  · intro i j oi oj γ bi bj hi hj pi pj
    by_cases hdi : d = i
    · by_cases hdj : d = j
      · exact hdi.symm.trans hdj
      · subst hdi; rw [upd_eq] at pi; rw [upd_ne' _ _ hdj] at pj
        have hji : j ≠ id := fun e => by rw [e, hobid] at hj; cases hj
        rw [hobs j (Ne.symm hdj) hji] at hj
        rcases hp γ bi pi with ⟨b', k⟩ | k
        · exact absurd (H.inj j id oj o γ bj b' hj ho pj k) hji
        · have := H.lt hj pj; omega
    · have hii : i ≠ id := fun e => by rw [e, hobid] at hi; cases hi
      rw [hobs i (Ne.symm hdi) hii] at hi; rw [upd_ne' _ _ hdi] at pi
      by_cases hdj : d = j
      · subst hdj; rw [upd_eq] at pj
        rcases hp γ bj pj with ⟨b', k⟩ | k
        · exact absurd (H.inj i id oi o γ bi b' hi ho pi k) hii
        · have := H.lt hi pi; omega
      · have hji : j ≠ id := fun e => by rw [e, hobid] at hj; cases hj
        rw [hobs j (Ne.symm hdj) hji] at hj; rw [upd_ne' _ _ hdj] at pj
        exact H.inj i j oi oj γ bi bj hi hj pi pj
  · intro i o₁ ho₁
    by_cases hdi : d = i
    · subst hdi; exact List.mem_cons_self
    · have hii : i ≠ id := fun e => by rw [e, hobid] at ho₁; cases ho₁
      rw [hobs i (Ne.symm hdi) hii] at ho₁; exact List.mem_cons_of_mem _ (H.inU i o₁ ho₁)
  · intro i o₁ ho₁
    by_cases hdi : d = i
    · subst hdi; rw [upd_eq] at ho₁; cases ho₁
      exact hrep hrV
    · have hii : i ≠ id := fun e => by rw [e, hobid] at ho₁; cases ho₁
      rw [hobs i (Ne.symm hdi) hii] at ho₁
      refine (H.ob i o₁ ho₁).mono (upd_ne' _ _ hdi) (fun γ b' hφ' => ?_) hrV
      exact hblocks γ (H.lt ho₁ hφ') fun b k => hii (H.inj i id o₁ o γ b' b ho₁ ho hφ' k)
end Go.Vc
