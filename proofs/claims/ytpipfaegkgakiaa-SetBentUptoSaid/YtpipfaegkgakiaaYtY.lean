/- The law SetMakes. What is proved: contracts of the program's functions over abstract values, or plain facts on which these lean; the conditions stand in each theorem. -/
import Derived.Test.YtpipfaegkgakiaaYtX
import Derived.Test.YtpipfaegkgakiaaYtV
set_option linter.all false
/-! The law SetMakes. -/
namespace Yt
open Go Go.Vc Go.Proofs
set_option maxRecDepth 10000
set_option maxHeartbeats 8000000
set_option linter.unusedSimpArgs false
set_option linter.unusedVariables false
theorem makeR_fine {z out : List It} {err : Int} (h : MakeR z out err) (hb : (z.any fun t => !okI t) = false) (hr : ∀ r, okW (tot r z) = true) :
    err = 0 ∧ Made out ∧ (∀ r, tot r out = tot r z) ∧ (∀ t ∈ out, okR t.row = 0 ∧ ∃ u ∈ z, u.row = t.row) ∧ out.length ≤ z.length := by
  rcases h with ⟨h, _⟩ | ⟨_, _, _, r, h⟩ | ⟨_, h1, hm, ht, h2⟩
  · rw [hb] at h; cases h
  · rw [hr r] at h; cases h
  · exact ⟨h1, hm, ht, h2⟩
theorem tot_bound {z : List It} {k : Int} (hk : 0 ≤ k) (h : ∀ t ∈ z, -k ≤ t.w ∧ t.w ≤ k) (r : List V) : -(k * z.length) ≤ tot r z ∧ tot r z ≤ k * z.length := by
  induction z with
  | nil => simp [tot]
  | cons t z ih =>
    have h1 := h t (by simp)
    have h2 := ih fun u hu => h u (by simp [hu])
    have e : k * ((t :: z).length : Int) = k + k * (z.length : Int) := by
      rw [List.length_cons, Int.natCast_add, Int.mul_add]; omega
    rw [e]
    simp only [tot]
    split <;> omega
def redI (k : Int) (t : It) : It := ⟨t.row, t.w.tmod k⟩
def okB (t : It) : Bool := decide (okR t.row = 0)
/-- The first items whose rows are right, their weights cut short. -/
def inp (k : Int) (l : List It) : List It := (l.filter okB).map (redI k)
theorem inp_step {k : Int} {l : List It} {i : Nat} (h : i < l.length) : inp k (l.take (i + 1)) = inp k (l.take i) ++ (if okB l[i] then [redI k l[i]] else []) := by
  rw [List.take_succ_eq_append_getElem h]
  simp only [inp, List.filter_append, List.map_append]
  congr 1
  by_cases e : okB l[i] = true
  · simp [e]
  · simp [e]
theorem inp_len {k : Int} (l : List It) : (inp k l).length ≤ l.length := by
  simp only [inp, List.length_map]; exact List.length_filter_le _ _
theorem inp_row {k : Int} {l : List It} {t : It} (h : t ∈ inp k l) : okR t.row = 0 ∧ ∃ u ∈ l, u.row = t.row := by
  simp only [inp, List.mem_map, List.mem_filter] at h
  obtain ⟨u, ⟨hu, hk⟩, rfl⟩ := h
  exact ⟨by simpa [okB, redI] using hk, u, hu, rfl⟩
theorem tmod_bound (x k : Int) (hk : 0 < k) : -k < x.tmod k ∧ x.tmod k < k := by
  have h1 := Int.tmod_lt_of_pos x hk
  have h2 := Int.lt_tmod_of_pos x hk
  omega
theorem inp_w {k : Int} (hk : 0 < k) {l : List It} {t : It} (h : t ∈ inp k l) : -k < t.w ∧ t.w < k := by
  simp only [inp, List.mem_map, List.mem_filter] at h
  obtain ⟨u, _, rfl⟩ := h
  exact tmod_bound u.w k hk
theorem inp_fine {k : Int} (hk : 0 < k) (hk2 : k ≤ 1000) (l : List It) : ((inp k l).any fun t => !okI t) = false := by
  rw [List.any_eq_false]
  intro t ht
  have h1 := (inp_row ht).1
  have h2 := inp_w hk ht
  have : okW t.w = true := by simp [okW, inB]; omega
  simp [okI, h1, this]
/-- Turned round. -/
theorem rot_perm {x y : List It} {s : Nat} (hl : y.length = x.length) (hs : s < x.length ∨ x = []) (h : ∀ j (h1 : j < y.length), y[j]? = x[(j + s) % x.length]?) : y.Perm x := by
  by_cases hx : x = []
  · subst hx
    have : y = [] := List.eq_nil_of_length_eq_zero (by simpa using hl)
    rw [this]
  · have hs : s < x.length := by rcases hs with h | h; exact h; exact absurd h hx
    have e : y = x.drop s ++ x.take s := by
      apply List.ext_getElem?
      intro j
      by_cases hj : j < y.length
      · rw [h j hj]
        by_cases h1 : j < x.length - s
        · rw [List.getElem?_append_left (by simp; omega), List.getElem?_drop, Nat.mod_eq_of_lt (by omega), Nat.add_comm]
        · rw [List.getElem?_append_right (by simp; omega), List.length_drop, List.getElem?_take, if_pos (by omega)]
          congr 1
          rw [Nat.mod_eq_sub_mod (by omega), Nat.mod_eq_of_lt (by omega)]; omega
      · rw [List.getElem?_eq_none (by omega), List.getElem?_eq_none (by simp; omega)]
    rw [e]
    exact List.perm_append_comm.trans (by rw [List.take_append_drop])
theorem any_perm {x y : List It} (h : x.Perm y) (p : It → Bool) : x.any p = y.any p := by
  rw [Bool.eq_iff_iff, List.any_eq_true, List.any_eq_true]
  exact ⟨fun ⟨t, a, b⟩ => ⟨t, h.mem_iff.1 a, b⟩, fun ⟨t, a, b⟩ => ⟨t, h.mem_iff.2 a, b⟩⟩
/-- What a row comes to, and what all come to. -/
theorem sum_tot : ∀ (n : Nat) (x y : List It), x.length + y.length ≤ n → (∀ r, tot r x = tot r y) → sumW x = sumW y := by
  have split : ∀ (r : List V) (x : List It), sumW x = tot r x + sumW (x.filter fun t => !decide (cmpR t.row r = 0)) := by
    intro r x
    induction x with
    | nil => rfl
    | cons t x ih =>
      simp only [sumW, tot, List.filter_cons]
      by_cases e : cmpR t.row r = 0
      · simp [e]; omega
      · simp [e, sumW]; omega
  have rest : ∀ (r q : List V) (x : List It), (q = r → tot q (x.filter fun t => !decide (cmpR t.row r = 0)) = 0) ∧ (q ≠ r → tot q (x.filter fun t => !decide (cmpR t.row r = 0)) = tot q x) := by
    intro r q x
    refine ⟨fun e => ?_, fun e => ?_⟩
    · subst e
      exact tot_none fun t ht => by simpa using (List.mem_filter.1 ht).2
    · induction x with
      | nil => rfl
      | cons t x ih =>
        simp only [List.filter_cons, tot]
        by_cases e2 : cmpR t.row r = 0
        · have e3 : ¬ cmpR t.row q = 0 := fun h => e ((lin_cmpR.eq _ _ h).symm.trans (lin_cmpR.eq _ _ e2))
          simp [e2, e3, ← ih]
        · simp [e2, tot, ← ih]
  have lt : ∀ (r : List V) (x : List It), (∃ t ∈ x, t.row = r) → (x.filter fun t => !decide (cmpR t.row r = 0)).length < x.length := by
    intro r x ⟨t, ht, e⟩
    refine List.length_filter_lt_length_iff_exists.2 ⟨t, ht, ?_⟩
    have := lin_cmpR.self r
    rw [e]; simp [this]
  intro n
  induction n with
  | zero =>
    intro x y hn _
    have h1 : x = [] := List.eq_nil_of_length_eq_zero (by omega)
    have h2 : y = [] := List.eq_nil_of_length_eq_zero (by omega)
    rw [h1, h2]
  | succ n ih =>
    intro x y hn h
    by_cases hx : x = [] ∧ y = []
    · rw [hx.1, hx.2]
    · have : ∃ r, (∃ t ∈ x, t.row = r) ∨ (∃ t ∈ y, t.row = r) := by
        cases x with
        | cons t x => exact ⟨t.row, .inl ⟨t, by simp, rfl⟩⟩
        | nil => cases y with
          | cons t y => exact ⟨t.row, .inr ⟨t, by simp, rfl⟩⟩
          | nil => exact absurd ⟨rfl, rfl⟩ hx
      obtain ⟨r, hr⟩ := this
      rw [split r x, split r y, h r]
      congr 1
      refine ih _ _ ?_ fun q => ?_
      · have l1 := List.length_filter_le (fun t : It => !decide (cmpR t.row r = 0)) x
        have l2 := List.length_filter_le (fun t : It => !decide (cmpR t.row r = 0)) y
        rcases hr with hr | hr
        · have := lt r x hr; omega
        · have := lt r y hr; omega
      · by_cases e : q = r
        · rw [(rest r q x).1 e, (rest r q y).1 e]
        · rw [(rest r q x).2 e, (rest r q y).2 e, h q]
end Yt
