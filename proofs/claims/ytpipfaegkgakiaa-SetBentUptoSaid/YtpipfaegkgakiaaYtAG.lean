/- The law SetGroup. What is proved: contracts of the program's functions over abstract values, or plain facts on which these lean; the conditions stand in each theorem. -/
import Derived.Test.YtpipfaegkgakiaaYtAE
import Derived.Test.YtpipfaegkgakiaaYtAF
set_option linter.all false
/-! The law SetGroup. -/
namespace Yt
open Go Go.Vc Go.Proofs
set_option maxRecDepth 10000
set_option maxHeartbeats 8000000
set_option linter.unusedSimpArgs false
set_option linter.unusedVariables false
theorem tot_neg (z : List It) (r : List V) : tot r (z.map negI) = -tot r z := by
  induction z with
  | nil => simp [tot]
  | cons t z ih => simp only [List.map_cons, tot, ih, negI]; split <;> omega
theorem abs_neg (z : List It) : absS (z.map negI) = absS z := by
  induction z with
  | nil => rfl
  | cons t z ih => simp only [List.map_cons, absS, ih, negI]; omega
theorem okW_neg {w : Int} (h : okW w = true) : okW (-w) = true := by simp [okW, inB] at h ⊢; omega
theorem made_neg {z : List It} (h : Made z) : Made (z.map negI) := by
  refine ⟨?_, fun t ht => ?_⟩
  · rw [List.pairwise_map]; exact h.pw
  · obtain ⟨u, hu, rfl⟩ := List.mem_map.1 ht
    have := h.nz u hu
    exact ⟨by simp only [negI]; omega, okW_neg this.2⟩
theorem neg_neg (z : List It) : (z.map negI).map negI = z := by
  rw [List.map_map]
  have : (negI ∘ negI) = id := by funext t; simp [negI]
  rw [this, List.map_id]
/-- A set's sizes are at most those of what it was made of. -/
theorem abs_made : ∀ (x z : List It), Made x → (∀ r, tot r x = tot r z) → absS x ≤ absS z := by
  have split : ∀ (r : List V) (z : List It), -absS z ≤ tot r z - tot r z ∧ absS (z.filter fun t => !decide (cmpR t.row r = 0)) + tot r z ≤ absS z ∧ absS (z.filter fun t => !decide (cmpR t.row r = 0)) - tot r z ≤ absS z := by
    intro r z
    induction z with
    | nil => simp [absS, tot]
    | cons t z ih =>
      have := absS_pos z
      simp only [List.filter_cons, absS, tot]
      by_cases e : cmpR t.row r = 0
      · simp [e]; omega
      · simp [e, absS]; omega
  have rest : ∀ (r q : List V) (x : List It), (q = r → tot q (x.filter fun t => !decide (cmpR t.row r = 0)) = 0) ∧ (q ≠ r → tot q (x.filter fun t => !decide (cmpR t.row r = 0)) = tot q x) := by
    intro r q x
    refine ⟨fun e => ?_, fun e => ?_⟩
    · subst e
      exact tot_none fun t ht => by simpa using (List.mem_filter.1 ht).2
    · induction x with
      | nil => rfl
      | cons t x ih =>
        simp only [List.filter_cons, tot]
        by_cases e2 : cmpR t.row r = 0
        · have e3 : ¬ cmpR t.row q = 0 := fun h => e ((lin_cmpR.eq _ _ h).symm.trans (lin_cmpR.eq _ _ e2))
          simp [e2, e3, ← ih]
        · simp [e2, tot, ← ih]
  intro x
  induction x with
  | nil => intro z _ _; simp only [absS]; exact absS_pos z
  | cons t x ih =>
    intro z hm h
    have hm' : Made x := ⟨(List.pairwise_cons.1 hm.pw).2, fun u hu => hm.nz u (by simp [hu])⟩
    have hne : ∀ u ∈ x, u.row ≠ t.row := fun u hu e => by
      have := (List.pairwise_cons.1 hm.pw).1 u hu
      have h0 := cI_eq.2 e.symm
      omega
    have h1 := ih (z.filter fun u => !decide (cmpR u.row t.row = 0)) hm' fun q => by
      by_cases e : q = t.row
      · rw [(rest t.row q z).1 e, e]
        exact tot_none fun u hu e2 => hne u hu (lin_cmpR.eq _ _ e2)
      · rw [(rest t.row q z).2 e, ← h q]
        have : ¬ cmpR t.row q = 0 := fun e2 => e (lin_cmpR.eq _ _ e2).symm
        simp [tot, this]
    have h2 := tot_made hm (t := t) (by simp)
    rw [h t.row] at h2
    have h3 := split t.row z
    simp only [absS]
    omega
/-- A small set. -/
structure Sm (z : List It) (k : Nat) : Prop where
  made : Made z
  rows : ∀ t ∈ z, okR t.row = 0 ∧ t.row.length ≤ 40
  len : z.length ≤ 60 * k
  tot : ∀ r, -(356400 * (k : Int)) ≤ Yt.tot r z ∧ Yt.tot r z ≤ 356400 * k
theorem Sm.good {z : List It} {k : Nat} (h : Sm z k) : Good z := good_made.2 ⟨h.made, fun t ht => (h.rows t ht).1⟩
theorem Tm.sm {l z : List It} (h : Tm l z) (hr : ∀ t ∈ l, t.row.length ≤ 40) : Sm z 1 :=
  ⟨h.made, fun t ht => ⟨(h.rows t ht).1, by obtain ⟨_, u, hu, e⟩ := h.rows t ht; rw [← e]; exact hr u hu⟩, by have := h.len; omega, fun r => by
    have := tot_bound (k := 5940) (by decide) h.small r
    have := h.len
    omega⟩
/-- Two small ones together. -/
theorem Sm.add {x y out : List It} {i j : Nat} {err : Int} (hx : Sm x i) (hy : Sm y j) (hij : i + j ≤ 100) (h : AddR x y out err) : err = 0 ∧ Sm out (i + j) ∧ ∀ r, Yt.tot r out = Yt.tot r x + Yt.tot r y := by
  have hm : MakeR (x ++ y) out err := by
    rcases h with ⟨h, _⟩ | ⟨_, _, h⟩
    · exact absurd ⟨hx.good, hy.good⟩ h
    · exact h
  have hfine : ((x ++ y).any fun t => !okI t) = false := by
    rw [List.any_eq_false]; intro t ht
    rcases List.mem_append.1 ht with ht | ht
    · simp [okI, (hx.rows t ht).1, (hx.made.nz t ht).2]
    · simp [okI, (hy.rows t ht).1, (hy.made.nz t ht).2]
  have hb : ∀ r, -(356400 * ((i + j : Nat) : Int)) ≤ Yt.tot r (x ++ y) ∧ Yt.tot r (x ++ y) ≤ 356400 * ((i + j : Nat) : Int) := fun r => by
    have h1 := hx.tot r
    have h2 := hy.tot r
    rw [tot_append]; omega
  obtain ⟨h1, h2, h3, h4, h5⟩ := makeR_fine hm hfine fun r => by
    have := hb r
    simp only [okW, inB, Bool.and_eq_true, decide_eq_true_eq]; omega
  refine ⟨h1, ⟨h2, fun t ht => ?_, ?_, fun r => by rw [h3]; exact hb r⟩, fun r => by rw [h3, tot_append]⟩
  · obtain ⟨g1, u, hu, e⟩ := h4 t ht
    refine ⟨g1, ?_⟩
    rw [← e]
    rcases List.mem_append.1 hu with hu | hu
    · exact (hx.rows u hu).2
    · exact (hy.rows u hu).2
  · have h6 := hx.len; have h7 := hy.len
    rw [List.length_append] at h5; omega
theorem Sm.neg {x : List It} {i : Nat} (h : Sm x i) : Sm (x.map negI) i :=
  ⟨made_neg h.made, fun t ht => by obtain ⟨u, hu, rfl⟩ := List.mem_map.1 ht; exact h.rows u hu, by rw [List.length_map]; exact h.len, fun r => by rw [tot_neg]; have := h.tot r; omega⟩
end Yt
