/- An insertion sort, in place. What is proved: contracts of the program's functions over abstract values, or plain facts on which these lean; the conditions stand in each theorem. -/
import Derived.Test.YtpipfaegkgakiaaYtD
set_option linter.all false
/-! An insertion sort, in place. -/
namespace Yt
open Go Go.Vc Go.Proofs
set_option maxRecDepth 10000
set_option linter.unusedSimpArgs false
set_option linter.unusedVariables false
/-- A comparison that orders. -/
structure Cmp (c : It → It → Int) : Prop where
  tot : ∀ x y, ¬ c y x < 0 → c x y ≤ 0
  trans : ∀ x y z, c x y ≤ 0 → c y z ≤ 0 → c x z ≤ 0
def leO (c : It → It → Int) (a b : Option It) : Prop := ∀ x y, a = some x → b = some y → c x y ≤ 0
def SR (c : It → It → Int) (z : List It) (a b : Nat) : Prop := ∀ i j, a ≤ i → i < j → j < b → leO c z[i]? z[j]?
/-- Sorted but for what stands at j, which is no greater than all behind it. -/
structure Ins (c : It → It → Int) (z : List It) (a j i : Nat) : Prop where
  but : ∀ p q, a ≤ p → p < q → q ≤ i → p ≠ j → q ≠ j → leO c z[p]? z[q]?
  at' : ∀ q, j < q → q ≤ i → leO c z[j]? z[q]?
theorem Ins.start {c : It → It → Int} {z : List It} {a i : Nat} (h : SR c z a i) : Ins c z a i i :=
  ⟨fun p q h1 h2 h3 h4 h5 => h p q h1 h2 (by omega), fun q h1 h2 => by omega⟩
theorem Ins.done {c : It → It → Int} (hc : Cmp c) {z : List It} {a j i : Nat} (h : Ins c z a j i) (hj : j = a ∨ (a < j ∧ leO c z[j - 1]? z[j]?)) (hi : i < z.length) (hji : j ≤ i) : SR c z a (i + 1) := by
  intro p q h1 h2 h3
  by_cases e1 : p = j
  · subst e1; exact h.at' q h2 (by omega)
  · by_cases e2 : q = j
    · subst e2
      rcases hj with hj | ⟨hj, hle⟩
      · omega
      · by_cases e3 : p = q - 1
        · subst e3; exact hle
        · intro x y hx hy
          have hlt : q - 1 < z.length := by omega
          have k1 := h.but p (q - 1) h1 (by omega) (by omega) e1 (by omega) x z[q - 1] hx (List.getElem?_eq_getElem hlt)
          exact hc.trans _ _ _ k1 (hle _ _ (List.getElem?_eq_getElem hlt) hy)
    · exact h.but p q h1 h2 (by omega) e1 e2
theorem Ins.step {c : It → It → Int} {z : List It} {a j i : Nat} (h : Ins c z a j i) (hj : a < j) (hji : j ≤ i) (h1 : j < z.length) (h2 : j - 1 < z.length) (hlt : c z[j] z[j - 1] < 0) : Ins c (swp z j (j - 1) h1 h2) a (j - 1) i := by
  refine ⟨fun p q k1 k2 k3 k4 k5 => ?_, fun q k1 k2 => ?_⟩
  · rw [swp_get, swp_get, if_neg k4, if_neg k5]
    by_cases e1 : p = j
    · rw [if_pos e1, if_neg (by omega)]
      exact h.but (j - 1) q (by omega) (by omega) k3 (by omega) (by omega)
    · rw [if_neg e1]
      by_cases e2 : q = j
      · rw [if_pos e2]; exact h.but p (j - 1) k1 (by omega) (by omega) e1 (by omega)
      · rw [if_neg e2]; exact h.but p q k1 k2 k3 e1 e2
  · rw [swp_get, swp_get, if_pos rfl, if_neg (by omega)]
    by_cases e : q = j
    · rw [if_pos e]
      intro x y hx hy
      rw [List.getElem?_eq_getElem h1] at hx
      rw [List.getElem?_eq_getElem h2] at hy
      cases hx; cases hy; omega
    · rw [if_neg e]; exact h.at' q (by omega) k2

theorem s70 (g : Nat) (c : It → It → Int) (hc : Cmp c) (B : It → Prop) (hg : ∀ x y, B x → B y → Spec0 Try.prog g [.ag x.c, .ag y.c] (· = iA (c x y))) (z : List It) (hB : ∀ x ∈ z, B x) (a b : Nat) (h1 : a ≤ b) (h2 : b ≤ z.length) (hl : z.length < 2305843009213693952) :
    SpecO Try.prog 70 [.rf 0 0 z.length, iA a, iA b, .fn g []] (so z) (fun r o' => r = .tu [] ∧ ∃ z', o' = so z' ∧ Win z z' a b ∧ SR c z' a b) := by
  refine specO_of_vc tabOk elems ord70 Try.func70 rfl (rl := []) rfl (by kernel_rfl) rfl ?_
  have w1 := wrap_add1 (show a < 4611686018427387904 by omega)
  (simp -implicitDefEqProofs only [go_sem, iA, so, w1]; repeat (refine GO ?_; simp -implicitDefEqProofs only [go_sem, iA, so, w1]))
  refine LOOP.mk (ι := { p : Nat × List It // a < p.1 ∧ (p.1 ≤ b ∨ p.1 = a + 1) ∧ Win z p.2 a b ∧ SR c p.2 a p.1 })
    (fun p => mkS [(0, .rf 0 0 z.length), (1, iA a), (2, iA b), (3, .fn g []), (8, iA p.1.1)] [(0, so p.1.2)] [0]) (fun p => b + 1 - p.1.1)
    ⟨(a + 1, z), by show a < a + 1; omega, .inr rfl, .refl _ _ _, fun i j k1 k2 k3 => by omega⟩ [(0, some 0)] rfl rfl ?_ (fun p => ?_)
  · (simp -implicitDefEqProofs only [go_sem, iA, so]; repeat (refine GO ?_; simp -implicitDefEqProofs only [go_sem, iA, so]))
    exact .same (so z) _ _ (so_leafy z) rfl
  · obtain ⟨⟨i, y⟩, hai, hib, hw, hs⟩ := p
    have hlen := hw.len
    simp only at hai hib hw hs hlen
    (simp -implicitDefEqProofs only [go_sem, iA, so]; repeat (refine GO ?_; simp -implicitDefEqProofs only [go_sem, iA, so]))
    refine VIF.split (fun h => ?_) (fun h => ?_)
    · (simp -implicitDefEqProofs only [go_sem]; repeat (refine GO ?_; simp -implicitDefEqProofs only [go_sem]))
      simp at h
      refine LOOP.mk (ι := { p : Nat × List It // a ≤ p.1 ∧ p.1 ≤ i ∧ Win z p.2 a b ∧ Ins c p.2 a p.1 i })
        (fun p => mkS [(0, .rf 0 0 z.length), (1, iA a), (2, iA b), (3, .fn g []), (8, iA i), (9, iA p.1.1)] [(0, so p.1.2)] [0]) (fun p => p.1.1)
        ⟨(i, y), by show a ≤ i; omega, Nat.le_refl _, hw, .start hs⟩ [(0, some 0)] rfl rfl ?_ (fun p => ?_)
      · (simp -implicitDefEqProofs only [go_sem, iA, so]; repeat (refine GO ?_; simp -implicitDefEqProofs only [go_sem, iA, so]))
        exact .same (so y) _ _ (so_leafy y) rfl
      · obtain ⟨⟨j, x⟩, haj, hji, hwx, hins⟩ := p
        have hlx := hwx.len
        simp only at haj hji hwx hins hlx
        (simp -implicitDefEqProofs only [go_sem, iA, so]; repeat (refine GO ?_; simp -implicitDefEqProofs only [go_sem, iA, so]))
        refine VIF.split (fun e => ?_) (fun e => ?_)
        · simp at e
          have w2 := wrap_sub1 (show 1 ≤ j by omega) (by omega)
          have hj1 : j < x.length := by omega
          have hj2 : j - 1 < x.length := by omega
          have hx1 : B x[j] := hB _ (hwx.perm.subset (List.getElem_mem hj1))
          have hx2 : B x[j - 1] := hB _ (hwx.perm.subset (List.getElem_mem hj2))
          (simp -implicitDefEqProofs only [go_sem, w2]; repeat (refine GO ?_; simp -implicitDefEqProofs only [go_sem, w2]))
          refine ⟨by omega, EL.map hj1 ?_⟩
          (simp -implicitDefEqProofs only [go_sem, It.c, w2]; repeat (refine GO ?_; simp -implicitDefEqProofs only [go_sem, It.c, w2]))
          refine ⟨by omega, EL.map hj2 ?_⟩
          (simp -implicitDefEqProofs only [go_sem, It.c, w2]; repeat (refine GO ?_; simp -implicitDefEqProofs only [go_sem, It.c, w2]))
          refine .pure _ (hg x[j] x[j - 1] hx1 hx2) rfl fun r hr _ => ?_
          subst hr
          (simp -implicitDefEqProofs only [go_sem, iA]; repeat (refine GO ?_; simp -implicitDefEqProofs only [go_sem, iA]))
          refine VIF.split (fun q => ?_) (fun q => ?_)
          · simp at q
            (simp -implicitDefEqProofs only [go_sem, w2]; repeat (refine GO ?_; simp -implicitDefEqProofs only [go_sem, w2]))
            refine ⟨by omega, EL.map hj2 ?_⟩
            (simp -implicitDefEqProofs only [go_sem, It.c, w2]; repeat (refine GO ?_; simp -implicitDefEqProofs only [go_sem, It.c, w2]))
            refine ⟨by omega, EL.map hj1 ?_⟩
            (simp -implicitDefEqProofs only [go_sem, It.c, w2]; repeat (refine GO ?_; simp -implicitDefEqProofs only [go_sem, It.c, w2]))
            refine ⟨by omega, EL.map hj1 ?_⟩
            (simp -implicitDefEqProofs only [go_sem, It.c, w2]; repeat (refine GO ?_; simp -implicitDefEqProofs only [go_sem, It.c, w2]))
            refine ⟨by omega, EL.setmap (by omega) hj2 ?_⟩
            (simp -implicitDefEqProofs only [go_sem, It.c, w2]; repeat (refine GO ?_; simp -implicitDefEqProofs only [go_sem, It.c, w2]))
            refine BACK.mk ⟨(j - 1, swp x j (j - 1) hj1 hj2), by show a ≤ j - 1; omega, by show j - 1 ≤ i; omega, hwx.trans (swp_win _ _ (by omega) (by omega) (by omega) (by omega)), hins.step e hji hj1 hj2 q⟩ [(0, some 0)] rfl rfl (by show j - 1 < j; omega) ?_
            (simp -implicitDefEqProofs only [go_sem, iA, so]; repeat (refine GO ?_; simp -implicitDefEqProofs only [go_sem, iA, so]))
            exact .same (so (swp x j (j - 1) hj1 hj2)) _ _ (fun u hu => so_leafy (swp x j (j - 1) hj1 hj2) u (by rw [so, ← swp_map]; exact hu)) (swp_map hj1 hj2)
          · simp at q
            have w3 := wrap_add1 (show i < 4611686018427387904 by omega)
            (simp -implicitDefEqProofs only [go_sem, w3]; repeat (refine GO ?_; simp -implicitDefEqProofs only [go_sem, w3]))
            have hd := hins.done hc (.inr ⟨e, fun u v hu hv => by
              rw [List.getElem?_eq_getElem hj2] at hu
              rw [List.getElem?_eq_getElem hj1] at hv
              cases hu; cases hv
              exact hc.tot _ _ (by omega)⟩) (by omega) hji
            refine BACK.mk ⟨(i + 1, x), by show a < i + 1; omega, .inl (by show i + 1 ≤ b; omega), hwx, hd⟩ [(0, some 0)] rfl rfl (by show b + 1 - (i + 1) < b + 1 - i; omega) ?_
            (simp -implicitDefEqProofs only [go_sem, iA, so]; repeat (refine GO ?_; simp -implicitDefEqProofs only [go_sem, iA, so]))
            exact .same (so x) _ _ (so_leafy x) rfl
        · simp at e
          have w3 := wrap_add1 (show i < 4611686018427387904 by omega)
          (simp -implicitDefEqProofs only [go_sem, w3]; repeat (refine GO ?_; simp -implicitDefEqProofs only [go_sem, w3]))
          have hd := hins.done hc (.inl (by omega)) (by omega) hji
          refine BACK.mk ⟨(i + 1, x), by show a < i + 1; omega, .inl (by show i + 1 ≤ b; omega), hwx, hd⟩ [(0, some 0)] rfl rfl (by show b + 1 - (i + 1) < b + 1 - i; omega) ?_
          (simp -implicitDefEqProofs only [go_sem, iA, so]; repeat (refine GO ?_; simp -implicitDefEqProofs only [go_sem, iA, so]))
          exact .same (so x) _ _ (so_leafy x) rfl
    · simp at h
      (simp -implicitDefEqProofs only [go_sem]; repeat (refine GO ?_; simp -implicitDefEqProofs only [go_sem]))
      refine FIN_O (o' := so y) rfl ?_ (so_leafy y) ?_
      · rfl
      · exact ⟨so y, ⟨⟨rfl, y, rfl, hw, fun p q k1 k2 k3 => hs p q k1 k2 (by omega)⟩, rfl⟩, so_leafy y, rfl⟩
end Yt
