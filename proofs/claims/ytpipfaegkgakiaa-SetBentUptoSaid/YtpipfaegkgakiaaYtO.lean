/- Group by group: the plain part. What is proved: contracts of the program's functions over abstract values, or plain facts on which these lean; the conditions stand in each theorem. -/
import Derived.Test.YtpipfaegkgakiaaYtN
set_option linter.all false
/-! Group by group: the plain part. -/
namespace Yt
open Go Go.Vc Go.Proofs
set_option linter.unusedSimpArgs false
set_option linter.unusedVariables false
/-- What has been made when the first `off` of the sorted items are through. -/
structure GI (y : List It) (off : Nat) (o : List It) : Prop where
  le : off ≤ y.length
  made : Made o
  low : ∀ t ∈ o, ∀ j (h : j < y.length), off ≤ j → cI t y[j] < 0
  cut : ∀ i j (h1 : i < y.length) (h2 : j < y.length), i < off → off ≤ j → cI y[i] y[j] < 0
  tot : ∀ r, tot r o = tot r (y.take off)
  src : ∀ t ∈ o, ∃ u ∈ y, u.row = t.row
theorem GI.start (y : List It) : GI y 0 [] := ⟨Nat.zero_le _, ⟨.nil, by simp⟩, by simp, by simp, fun r => by simp [Yt.tot], by simp⟩
/-- A run: from off to e all have one row, and behind it comes a greater one. -/
structure Run (y : List It) (off e : Nat) : Prop where
  lt : off < e
  le : e ≤ y.length
  same : ∀ j (h : j < y.length) (h0 : off < y.length), off ≤ j → j < e → cI y[j] y[off] = 0
  next : ∀ (h : e < y.length) (h0 : off < y.length), cI y[e] y[off] ≠ 0
theorem SR.get {y : List It} (h : SR cI y 0 y.length) {i j : Nat} (hi : i < y.length) (hj : j < y.length) (hij : i < j) : cI y[i] y[j] ≤ 0 :=
  h i j (Nat.zero_le _) hij hj _ _ (List.getElem?_eq_getElem hi) (List.getElem?_eq_getElem hj)
theorem cI_neg (a b : It) : cI b a = - cI a b := lin_cmpR.neg _ _
theorem cI_row {a b c : It} (h : a.row = b.row) : cI a c = cI b c := by simp only [cI, h]
theorem cI_row' {a b c : It} (h : a.row = b.row) : cI c a = cI c b := by simp only [cI, h]
theorem take_split (y : List It) {off e : Nat} (h : off ≤ e) : y.take e = y.take off ++ (y.drop off).take (e - off) := by
  rw [← List.take_add, Nat.add_sub_cancel' h]
theorem GI.step {y o : List It} {off e : Nat} (hs : SR cI y 0 y.length) (g : GI y off o) (r : Run y off e) (h0 : off < y.length) (hok : okW (sumW ((y.drop off).take (e - off))) = true) :
    GI y e (if sumW ((y.drop off).take (e - off)) = 0 then o else o ++ [⟨y[off].row, sumW ((y.drop off).take (e - off))⟩]) := by
  have hrow : ∀ j (h : j < y.length), off ≤ j → j < e → y[j].row = y[off].row := fun j h a b => cI_eq.1 (r.same j h h0 a b)
  have hgt : ∀ j (h : j < y.length), e ≤ j → cI y[off] y[j] < 0 := by
    intro j h hj
    have he : e < y.length := by omega
    have h1 := SR.get hs h0 he r.lt
    have h2 := r.next he h0
    have h3 := cI_neg y[e] y[off]
    have h4 : cI y[off] y[e] < 0 := by omega
    by_cases e1 : j = e
    · subst e1; exact h4
    · have h5 := SR.get hs he h (by omega)
      by_cases e2 : cI y[e] y[j] = 0
      · rw [← cI_row' (cI_eq.1 e2)]; exact h4
      · exact lin_cmpR.trans _ _ _ h4 (by simp only [cI] at *; omega)
  have hcut : ∀ i j (h1 : i < y.length) (h2 : j < y.length), i < e → e ≤ j → cI y[i] y[j] < 0 := by
    intro i j h1 h2 hi hj
    by_cases e1 : i < off
    · exact g.cut i j h1 h2 e1 (by have := r.lt; omega)
    · rw [cI_row (hrow i h1 (by omega) hi)]; exact hgt j h2 hj
  have hlow : ∀ t ∈ o, ∀ j (h : j < y.length), e ≤ j → cI t y[j] < 0 := fun t ht j h hj => g.low t ht j h (by have := r.lt; omega)
  have hrun : ∀ t ∈ (y.drop off).take (e - off), t.row = y[off].row := by
    intro t ht
    obtain ⟨k, hk, rfl⟩ := List.mem_iff_getElem.1 ht
    simp only [List.length_take, List.length_drop] at hk
    simp only [List.getElem_take, List.getElem_drop]
    exact hrow _ _ (by omega) (by omega)
  have htot : ∀ q, Yt.tot q ((y.drop off).take (e - off)) = if cmpR y[off].row q = 0 then sumW ((y.drop off).take (e - off)) else 0 := by
    intro q
    split
    · rename_i hq
      exact tot_same fun t ht => by rw [hrun t ht]; exact hq
    · rename_i hq
      exact tot_none fun t ht => by rw [hrun t ht]; exact hq
  have hsplit := take_split y (Nat.le_of_lt r.lt)
  split
  · rename_i hz
    refine ⟨r.le, g.made, hlow, hcut, fun q => ?_, g.src⟩
    rw [hsplit, tot_append, g.tot q, htot q, hz]
    split <;> omega
  · rename_i hz
    refine ⟨r.le, ⟨?_, ?_⟩, ?_, hcut, fun q => ?_, ?_⟩
    · rw [List.pairwise_append]
      refine ⟨g.made.pw, List.pairwise_singleton _ _, fun t ht u hu => ?_⟩
      simp only [List.mem_singleton] at hu
      subst hu
      exact g.low t ht off h0 (Nat.le_refl _)
    · intro t ht
      rw [List.mem_append, List.mem_singleton] at ht
      rcases ht with ht | rfl
      · exact g.made.nz t ht
      · exact ⟨hz, hok⟩
    · intro t ht
      rw [List.mem_append, List.mem_singleton] at ht
      rcases ht with ht | rfl
      · exact hlow t ht
      · exact hgt
    · rw [tot_append, hsplit, tot_append, g.tot q, htot q]
      simp only [Yt.tot]; omega
    · intro t ht
      rw [List.mem_append, List.mem_singleton] at ht
      rcases ht with ht | rfl
      · exact g.src t ht
      · exact ⟨y[off], List.getElem_mem h0, rfl⟩
/-- A run has all of its row. -/
theorem GI.total {y o : List It} {off e : Nat} (hs : SR cI y 0 y.length) (g : GI y off o) (r : Run y off e) (h0 : off < y.length) : Yt.tot y[off].row y = sumW ((y.drop off).take (e - off)) := by
  have hsplit := take_split y (Nat.le_of_lt r.lt)
  have hy : y = y.take off ++ (y.drop off).take (e - off) ++ y.drop e := by rw [← hsplit, List.take_append_drop]
  have h1 : Yt.tot y[off].row (y.take off) = 0 := tot_none fun t ht => by
    obtain ⟨k, hk, rfl⟩ := List.mem_iff_getElem.1 ht
    simp only [List.length_take] at hk
    rw [List.getElem_take]
    have := g.cut k off (by omega) h0 (by omega) (Nat.le_refl _)
    simp only [cI] at this; omega
  have h2 : Yt.tot y[off].row ((y.drop off).take (e - off)) = sumW ((y.drop off).take (e - off)) := tot_same fun t ht => by
    obtain ⟨k, hk, rfl⟩ := List.mem_iff_getElem.1 ht
    simp only [List.length_take, List.length_drop] at hk
    rw [List.getElem_take, List.getElem_drop]
    exact r.same _ (by omega) h0 (by omega) (by omega)
  have h3 : Yt.tot y[off].row (y.drop e) = 0 := tot_none fun t ht => by
    obtain ⟨k, hk, rfl⟩ := List.mem_iff_getElem.1 ht
    simp only [List.length_drop] at hk
    rw [List.getElem_drop]
    have he : e < y.length := by omega
    have a1 := SR.get hs h0 he r.lt
    have a2 := r.next he h0
    have a3 := cI_neg y[e] y[off]
    intro e1
    by_cases e2 : k = 0
    · subst e2; exact a2 e1
    · have a4 := SR.get hs he (show e + k < y.length by omega) (by omega)
      have a5 : cI y[e] y[off] ≤ 0 := by rw [← cI_row' (cI_eq.1 e1)]; exact a4
      omega
  have : Yt.tot y[off].row y = Yt.tot y[off].row (y.take off ++ (y.drop off).take (e - off) ++ y.drop e) := by rw [← hy]
  rw [this, tot_append, tot_append, h1, h2, h3]; omega
end Yt
