/- Merging in place: the plain part. What is proved: contracts of the program's functions over abstract values, or plain facts on which these lean; the conditions stand in each theorem. -/
import Derived.Test.YtpipfaegkgakiaaYtE
set_option linter.all false
/-! Merging in place: the plain part. -/
namespace Yt
open Go Go.Vc Go.Proofs
set_option linter.unusedSimpArgs false
set_option linter.unusedVariables false
section
variable {c : It → It → Int} (hc : Cmp c) {z y z1 z2 z3 : List It} {a m b s e mid i : Nat}
include hc
theorem leO.trans {x y z : Option It} (h : leO c x y) (g : leO c y z) (hy : y ≠ none) : leO c x z := by
  intro u v hu hv
  cases y with
  | none => exact absurd rfl hy
  | some w => exact hc.trans _ _ _ (h u w hu rfl) (g w v rfl hv)
theorem SR.le (h : SR c z a b) (hb : b ≤ z.length) {p q : Nat} (h1 : a ≤ p) (h2 : p < q) (h3 : q < b) : leO c z[p]? z[q]? := h p q h1 h2 h3
theorem some_ne {k : Nat} (h : k < z.length) : z[k]? ≠ none := by simp [h]

/-- One item taken to its place among those behind it. -/
theorem merge_one (h2 : SR c z m b) (hm : m = a + 1) (hi : m ≤ i) (hib : i ≤ b) (hb : b ≤ z.length) (lo : i = m ∨ leO c z[i - 1]? z[a]?) (hi2 : i = b ∨ leO c z[a]? z[i]?)
    (hy : ∀ k, y[k]? = if a ≤ k ∧ k < i - 1 then z[k + 1]? else if k = i - 1 then z[a]? else z[k]?) : SR c y a b := by
  intro p q k1 k2 k3
  rw [hy, hy]
  by_cases e1 : p < i - 1
  · rw [if_pos ⟨k1, e1⟩]
    by_cases e2 : q < i - 1
    · rw [if_pos ⟨by omega, e2⟩]; exact h2 _ _ (by omega) (by omega) (by omega)
    · rw [if_neg (by omega)]
      by_cases e3 : q = i - 1
      · rw [if_pos e3]
        have hlo := lo.resolve_left (by omega)
        by_cases e4 : p + 1 = i - 1
        · rw [e4]; exact hlo
        · exact leO.trans hc (h2 (p + 1) (i - 1) (by omega) (by omega) (by omega)) hlo (some_ne hc (by omega))
      · rw [if_neg e3]; exact h2 _ _ (by omega) (by omega) (by omega)
  · by_cases e3 : p = i - 1
    · rw [if_neg (by omega), if_pos e3, if_neg (by omega), if_neg (by omega)]
      have hhi := hi2.resolve_left (by omega)
      by_cases e4 : q = i
      · rw [e4]; exact hhi
      · exact leO.trans hc hhi (h2 i q (by omega) (by omega) (by omega)) (some_ne hc (by omega))
    · rw [if_neg (by omega), if_neg e3, if_neg (by omega), if_neg (by omega)]; exact h2 _ _ (by omega) (by omega) (by omega)

theorem merge_last (h1 : SR c z a m) (hm : b = m + 1) (hi : a ≤ i) (him : i ≤ m) (hb : b ≤ z.length) (lo : i = a ∨ leO c z[i - 1]? z[m]?) (hi2 : i = m ∨ leO c z[m]? z[i]?)
    (hy : ∀ k, y[k]? = if i < k ∧ k ≤ m then z[k - 1]? else if k = i then z[m]? else z[k]?) : SR c y a b := by
  intro p q k1 k2 k3
  rw [hy, hy]
  by_cases e1 : p < i
  · rw [if_neg (by omega), if_neg (by omega)]
    by_cases e2 : q < i
    · rw [if_neg (by omega), if_neg (by omega)]; exact h1 _ _ k1 k2 (by omega)
    · by_cases e3 : q = i
      · rw [if_neg (by omega), if_pos e3]
        have hlo := lo.resolve_left (by omega)
        by_cases e4 : p = i - 1
        · rw [e4]; exact hlo
        · exact leO.trans hc (h1 p (i - 1) k1 (by omega) (by omega)) hlo (some_ne hc (by omega))
      · rw [if_pos (by omega)]; exact h1 _ _ k1 (by omega) (by omega)
  · by_cases e2 : p = i
    · rw [if_neg (by omega), if_pos e2, if_pos (by omega)]
      have hhi := hi2.resolve_left (by omega)
      by_cases e4 : q - 1 = i
      · rw [e4]; exact hhi
      · exact leO.trans hc hhi (h1 i (q - 1) (by omega) (by omega) (by omega)) (some_ne hc (by omega))
    · rw [if_pos (by omega), if_pos (by omega)]; exact h1 _ _ (by omega) (by omega) (by omega)

/-- What the rotation leaves: four runs, of which the first two are no greater than the last two. -/
theorem rot_runs (h1 : SR c z a m) (h2 : SR c z m b) (hs : a ≤ s) (hsm : s ≤ m) (hme : m ≤ e) (heb : e ≤ b) (hb : b ≤ z.length) (hmid : mid = s + (e - m))
    (lo : s = a ∨ e = b ∨ leO c z[s - 1]? z[e]?) (hi : s = m ∨ e = m ∨ leO c z[e - 1]? z[s]?) (hy : ∀ k, y[k]? = rotG z (m - s) (e - m) m k) :
    SR c y a s ∧ SR c y s mid ∧ SR c y mid e ∧ SR c y e b ∧ ∀ p q, a ≤ p → p < mid → mid ≤ q → q < b → leO c y[p]? y[q]? := by
  have f1 : ∀ k, k < s → y[k]? = z[k]? := fun k hk => by rw [hy, rotG, if_neg (by omega), if_neg (by omega)]
  have f2 : ∀ k, s ≤ k → k < mid → y[k]? = z[k + (m - s)]? := fun k h1 h2 => by rw [hy, rotG, if_pos (by omega)]
  have f3 : ∀ k, mid ≤ k → k < e → y[k]? = z[k - (e - m)]? := fun k h1 h2 => by rw [hy, rotG, if_neg (by omega), if_pos (by omega)]
  have f4 : ∀ k, e ≤ k → y[k]? = z[k]? := fun k hk => by rw [hy, rotG, if_neg (by omega), if_neg (by omega)]
  refine ⟨fun p q k1 k2 k3 => ?_, fun p q k1 k2 k3 => ?_, fun p q k1 k2 k3 => ?_, fun p q k1 k2 k3 => ?_, fun p q k1 k2 k3 k4 => ?_⟩
  · rw [f1 p (by omega), f1 q (by omega)]; exact h1 _ _ k1 k2 (by omega)
  · rw [f2 p (by omega) (by omega), f2 q (by omega) (by omega)]; exact h2 _ _ (by omega) (by omega) (by omega)
  · rw [f3 p (by omega) (by omega), f3 q (by omega) (by omega)]; exact h1 _ _ (by omega) (by omega) (by omega)
  · rw [f4 p (by omega), f4 q (by omega)]; exact h2 _ _ (by omega) (by omega) (by omega)
  · -- A1 or B1 against A2 or B2
    by_cases e1 : p < s
    · rw [f1 p e1]
      by_cases e2 : q < e
      · rw [f3 q k3 e2]; exact h1 _ _ k1 (by omega) (by omega)
      · rw [f4 q (by omega)]
        have hlo : leO c z[s - 1]? z[e]? := by
          rcases lo with h | h | h
          · omega
          · omega
          · exact h
        have g1 : leO c z[p]? z[e]? := by
          by_cases e3 : p = s - 1
          · rw [e3]; exact hlo
          · exact leO.trans hc (h1 p (s - 1) k1 (by omega) (by omega)) hlo (some_ne hc (by omega))
        by_cases e4 : q = e
        · rw [e4]; exact g1
        · exact leO.trans hc g1 (h2 e q (by omega) (by omega) k4) (some_ne hc (by omega))
    · rw [f2 p (by omega) k2]
      by_cases e2 : q < e
      · rw [f3 q k3 e2]
        have hhi : leO c z[e - 1]? z[s]? := by
          rcases hi with h | h | h
          · omega
          · omega
          · exact h
        have g1 : leO c z[p + (m - s)]? z[s]? := by
          by_cases e3 : p + (m - s) = e - 1
          · rw [e3]; exact hhi
          · exact leO.trans hc (h2 (p + (m - s)) (e - 1) (by omega) (by omega) (by omega)) hhi (some_ne hc (by omega))
        by_cases e4 : q - (e - m) = s
        · rw [e4]; exact g1
        · exact leO.trans hc g1 (h1 s (q - (e - m)) (by omega) (by omega) (by omega)) (some_ne hc (by omega))
      · rw [f4 q (by omega)]; exact h2 _ _ (by omega) (by omega) k4

theorem merge_fin (hsep : ∀ p q, a ≤ p → p < mid → mid ≤ q → q < b → leO c z1[p]? z1[q]?) (w1 : Win z1 z2 a mid) (s1 : SR c z2 a mid) (w2 : Win z2 z3 mid b) (s2 : SR c z3 mid b) : SR c z3 a b := by
  intro p q k1 k2 k3
  by_cases e1 : q < mid
  · rw [w2.out p (.inl (by omega)), w2.out q (.inl e1)]; exact s1 p q k1 k2 e1
  · by_cases e2 : p < mid
    · rw [w2.out p (.inl e2)]
      obtain ⟨q', j1, j2, j3⟩ := w2.ins q (by omega) k3
      obtain ⟨p', i1, i2, i3⟩ := w1.ins p k1 e2
      rw [j3, i3, w1.out q' (.inr j1)]
      exact hsep p' q' i1 i2 j1 j2
    · exact s2 p q (by omega) k2 k3
end
end Yt
