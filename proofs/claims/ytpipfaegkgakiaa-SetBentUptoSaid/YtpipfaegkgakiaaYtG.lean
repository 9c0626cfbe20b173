/- Merging in place: the walk. What is proved: contracts of the program's functions over abstract values, or plain facts on which these lean; the conditions stand in each theorem. -/
import Derived.Test.YtpipfaegkgakiaaYtF
set_option linter.all false
/-! Merging in place: the walk. -/
namespace Yt
open Go Go.Vc Go.Proofs
set_option maxRecDepth 10000
set_option maxHeartbeats 8000000
set_option linter.unusedSimpArgs false
set_option linter.unusedVariables false
theorem half {n : Nat} (h : n < 4611686018427387904) : IntKind.i64.wrap (IntKind.u64.wrap (n : Int) / 2 ^ min (Int.toNat 1) 64) = ((n / 2 : Nat) : Int) := by
  have h1 : IntKind.u64.wrap (n : Int) = n := by simp only [IntKind.wrap, IntKind.bits, IntKind.signed]; simp; omega
  have h2 : (2 : Int) ^ min (Int.toNat 1) 64 = 2 := by decide
  rw [h1, h2, wrap_i64] <;> omega
theorem s71 (g : Nat) (c : It → It → Int) (hc : Cmp c) (B : It → Prop) (hg : ∀ x y, B x → B y → Spec0 Try.prog g [.ag x.c, .ag y.c] (· = iA (c x y))) : ∀ (d : Nat) (z : List It) (hB : ∀ x ∈ z, B x) (a m b : Nat) (hd : b - a ≤ d) (h1 : a < m) (h2 : m < b) (h3 : b ≤ z.length) (hl : z.length < 2305843009213693952)
    (r1 : SR c z a m) (r2 : SR c z m b),
    SpecO Try.prog 71 [.rf 0 0 z.length, iA a, iA m, iA b, .fn g []] (so z) (fun r o' => r = .tu [] ∧ ∃ z', o' = so z' ∧ Win z z' a b ∧ SR c z' a b) := by
  intro d
  induction d with
  | zero => intro z hB a m b hd h1 h2; omega
  | succ d ih =>
    have ihL : ∀ (d' : Nat) (_ : ∀ (z : List It) (_ : ∀ x ∈ z, B x) (a m b : Nat), b - a ≤ d' → a < m → m < b → b ≤ z.length → z.length < 2305843009213693952 → SR c z a m → SR c z m b →
        SpecO Try.prog 71 [.rf 0 0 z.length, iA a, iA m, iA b, .fn g []] (so z) (fun r o' => r = .tu [] ∧ ∃ z', o' = so z' ∧ Win z z' a b ∧ SR c z' a b)) {N : Nat} (z : List It) (_ : z.length = N) (_ : ∀ x ∈ z, B x) (a m b : Nat), b - a ≤ d' → a < m → m < b → b ≤ N → N < 2305843009213693952 → SR c z a m → SR c z m b →
        SpecO Try.prog 71 [.rf 0 0 N, iA a, iA m, iA b, .fn g []] (so z) (fun r o' => r = .tu [] ∧ ∃ z', o' = so z' ∧ Win z z' a b ∧ SR c z' a b) := by
      intro d' ih' N z hN hB a m b k1 k2 k3 k4 k5 k6 k7
      subst hN
      exact ih' z hB a m b k1 k2 k3 k4 k5 k6 k7
    intro z hB a m b hd h1 h2 h3 hl r1 r2
    refine specO_of_vc tabOk elems ord71 Try.func71 rfl (rl := []) rfl (by kernel_rfl) rfl ?_
    have w1 := wrap_sub (show a ≤ m by omega) (by omega)
    (simp -implicitDefEqProofs only [go_sem, iA, so, w1]; repeat (refine GO ?_; simp -implicitDefEqProofs only [go_sem, iA, so, w1]))
    refine VIF.split (fun h => ?_) (fun h => ?_)
    · simp at h
      have hm : m = a + 1 := by omega
      (simp -implicitDefEqProofs only [go_sem]; repeat (refine GO ?_; simp -implicitDefEqProofs only [go_sem]))
      refine LOOP.mk (ι := { p : Nat × Nat // m ≤ p.1 ∧ p.1 ≤ p.2 ∧ p.2 ≤ b ∧ (p.1 = m ∨ leO c z[p.1 - 1]? z[a]?) ∧ (p.2 = b ∨ leO c z[a]? z[p.2]?) })
        (fun p => mkS [(0, .rf 0 0 z.length), (1, iA a), (2, iA m), (3, iA b), (4, .fn g []), (10, iA p.1.1), (11, iA p.1.2)] [(0, so z)] [0]) (fun p => p.1.2 - p.1.1)
        ⟨(m, b), Nat.le_refl _, by show m ≤ b; omega, Nat.le_refl _, .inl rfl, .inl rfl⟩ [(0, some 0)] rfl rfl ?_ (fun p => ?_)
      · (simp -implicitDefEqProofs only [go_sem, iA, so]; repeat (refine GO ?_; simp -implicitDefEqProofs only [go_sem, iA, so]))
        exact .same (so z) _ _ (so_leafy z) rfl
      · obtain ⟨⟨i, j⟩, hi, hij, hj, lo, hi2⟩ := p
        simp only at hi hij hj lo hi2
        (simp -implicitDefEqProofs only [go_sem, iA, so]; repeat (refine GO ?_; simp -implicitDefEqProofs only [go_sem, iA, so]))
        refine VIF.split (fun e => ?_) (fun e => ?_)
        · simp at e
          have w2 := wrap_add (show i + j < 4611686018427387904 by omega)
          have w3 := half (show i + j < 4611686018427387904 by omega)
          have hh1 : (i + j) / 2 < j := by omega
          have hh2 : i ≤ (i + j) / 2 := by omega
          generalize hhd : (i + j) / 2 = hh at *
          have hz1 : hh < z.length := by omega
          have hz2 : a < z.length := by omega
          (simp -implicitDefEqProofs only [go_sem, w2, w3]; repeat (refine GO ?_; simp -implicitDefEqProofs only [go_sem, w2, w3]))
          refine ⟨by decide, by omega, EL.map hz1 ?_⟩
          (simp -implicitDefEqProofs only [go_sem, It.c, w2, w3]; repeat (refine GO ?_; simp -implicitDefEqProofs only [go_sem, It.c, w2, w3]))
          refine ⟨by omega, EL.map hz2 ?_⟩
          (simp -implicitDefEqProofs only [go_sem, It.c, w2, w3]; repeat (refine GO ?_; simp -implicitDefEqProofs only [go_sem, It.c, w2, w3]))
          refine .pure _ (hg z[hh] z[a] (hB _ (List.getElem_mem _)) (hB _ (List.getElem_mem _))) rfl fun r hr _ => ?_
          subst hr
          (simp -implicitDefEqProofs only [go_sem, iA]; repeat (refine GO ?_; simp -implicitDefEqProofs only [go_sem, iA]))
          refine VIF.split (fun q => ?_) (fun q => ?_)
          · simp at q
            have w4 := wrap_add1 (show hh < 4611686018427387904 by omega)
            (simp -implicitDefEqProofs only [go_sem, w4]; repeat (refine GO ?_; simp -implicitDefEqProofs only [go_sem, w4]))
            refine BACK.mk ⟨(hh + 1, j), by show m ≤ hh + 1; omega, by show hh + 1 ≤ j; omega, hj, .inr fun u v hu hv => ?_, hi2⟩ [(0, some 0)] rfl rfl (by show j - (hh + 1) < j - i; omega) ?_
            · simp only [Nat.add_sub_cancel, List.getElem?_eq_getElem hz1, List.getElem?_eq_getElem hz2] at hu hv
              cases hu; cases hv; omega
            · (simp -implicitDefEqProofs only [go_sem, iA, so]; repeat (refine GO ?_; simp -implicitDefEqProofs only [go_sem, iA, so]))
              exact .same (so z) _ _ (so_leafy z) rfl
          · simp at q
            (simp -implicitDefEqProofs only [go_sem]; repeat (refine GO ?_; simp -implicitDefEqProofs only [go_sem]))
            refine BACK.mk ⟨(i, hh), hi, hh2, by show hh ≤ b; omega, lo, .inr fun u v hu hv => ?_⟩ [(0, some 0)] rfl rfl (by show hh - i < j - i; omega) ?_
            · simp only [List.getElem?_eq_getElem hz1, List.getElem?_eq_getElem hz2] at hu hv
              cases hu; cases hv; exact hc.tot _ _ (by omega)
            · (simp -implicitDefEqProofs only [go_sem, iA, so]; repeat (refine GO ?_; simp -implicitDefEqProofs only [go_sem, iA, so]))
              exact .same (so z) _ _ (so_leafy z) rfl
        · simp at e
          have hij' : i = j := by omega
          subst hij'
          (simp -implicitDefEqProofs only [go_sem]; repeat (refine GO ?_; simp -implicitDefEqProofs only [go_sem]))
          refine LOOP.mk (ι := { p : Nat × List It // a ≤ p.1 ∧ p.1 ≤ i - 1 ∧ Win z p.2 a b ∧ ∀ k, p.2[k]? = if a ≤ k ∧ k < p.1 then z[k + 1]? else if k = p.1 then z[a]? else z[k]? })
            (fun p => mkS [(0, .rf 0 0 z.length), (10, iA i), (13, iA p.1.1)] [(0, so p.1.2)] [0]) (fun p => i - p.1.1)
            ⟨(a, z), Nat.le_refl _, by show a ≤ i - 1; omega, .refl _ _ _, fun k => by
              show z[k]? = if a ≤ k ∧ k < a then z[k + 1]? else if k = a then z[a]? else z[k]?
              rw [if_neg (by omega)]; split <;> simp_all⟩ [(0, some 0)] rfl rfl ?_ (fun p => ?_)
          · (simp -implicitDefEqProofs only [go_sem, iA, so]; repeat (refine GO ?_; simp -implicitDefEqProofs only [go_sem, iA, so]))
            exact .same (so z) _ _ (so_leafy z) rfl
          · obtain ⟨⟨k, y⟩, hk1, hk2, hw, hy⟩ := p
            have hlen := hw.len
            simp only at hk1 hk2 hw hy hlen
            have w5 := wrap_sub1 (show 1 ≤ i by omega) (by omega)
            (simp -implicitDefEqProofs only [go_sem, iA, so, w5]; repeat (refine GO ?_; simp -implicitDefEqProofs only [go_sem, iA, so, w5]))
            refine VIF.split (fun e => ?_) (fun e => ?_)
            · simp only [decide_eq_true_eq] at e
              have w6 := wrap_add1 (show k < 4611686018427387904 by omega)
              have g1 : k < y.length := by omega
              have g2 : k + 1 < y.length := by omega
              (simp -implicitDefEqProofs only [go_sem, w6]; repeat (refine GO ?_; simp -implicitDefEqProofs only [go_sem, w6]))
              refine ⟨by omega, EL.map g2 ?_⟩
              (simp -implicitDefEqProofs only [go_sem, It.c, w6]; repeat (refine GO ?_; simp -implicitDefEqProofs only [go_sem, It.c, w6]))
              refine ⟨by omega, EL.map g1 ?_⟩
              (simp -implicitDefEqProofs only [go_sem, It.c, w6]; repeat (refine GO ?_; simp -implicitDefEqProofs only [go_sem, It.c, w6]))
              refine ⟨by omega, EL.map g1 ?_⟩
              (simp -implicitDefEqProofs only [go_sem, It.c, w6]; repeat (refine GO ?_; simp -implicitDefEqProofs only [go_sem, It.c, w6]))
              refine ⟨by omega, EL.setmap (by omega) g2 ?_⟩
              (simp -implicitDefEqProofs only [go_sem, It.c, w6]; repeat (refine GO ?_; simp -implicitDefEqProofs only [go_sem, It.c, w6]))
              refine BACK.mk ⟨(k + 1, swp y k (k + 1) g1 g2), by show a ≤ k + 1; omega, by show k + 1 ≤ i - 1; omega, hw.trans (swp_win _ _ (by omega) (by omega) (by omega) (by omega)), fun q => ?_⟩ [(0, some 0)] rfl rfl (by show i - (k + 1) < i - k; omega) ?_
              · show (swp y k (k + 1) g1 g2)[q]? = if a ≤ q ∧ q < k + 1 then z[q + 1]? else if q = k + 1 then z[a]? else z[q]?
                rw [swp_get]
                by_cases e1 : q = k + 1
                · rw [if_pos e1, if_neg (by omega), if_pos e1, hy, if_neg (by omega), if_pos rfl]
                · by_cases e2 : q = k
                  · rw [if_neg e1, if_pos e2, if_pos (by omega), hy, if_neg (by omega), if_neg (by omega), e2]
                  · rw [if_neg e1, if_neg e2, hy]
                    by_cases e3 : a ≤ q ∧ q < k
                    · rw [if_pos e3, if_pos (by omega)]
                    · rw [if_neg e3, if_neg e2, if_neg (by omega), if_neg e1]
              · (simp -implicitDefEqProofs only [go_sem, iA, so]; repeat (refine GO ?_; simp -implicitDefEqProofs only [go_sem, iA, so]))
                exact .same (so (swp y k (k + 1) g1 g2)) _ _ (fun u hu => so_leafy (swp y k (k + 1) g1 g2) u (by rw [so, ← swp_map]; exact hu)) (swp_map g1 g2)
            · simp only [decide_eq_false_iff_not] at e
              have hki : k = i - 1 := by omega
              subst hki
              (simp -implicitDefEqProofs only [go_sem]; repeat (refine GO ?_; simp -implicitDefEqProofs only [go_sem]))
              refine FIN_O (o' := so y) rfl ?_ (so_leafy y) ?_
              · rfl
              · exact ⟨so y, ⟨⟨rfl, y, rfl, hw, merge_one hc r2 hm hi (by omega) h3 lo hi2 hy⟩, rfl⟩, so_leafy y, rfl⟩
    · simp at h
      have v1 := wrap_sub (show m ≤ b by omega) (by omega)
      (simp -implicitDefEqProofs only [go_sem, v1]; repeat (refine GO ?_; simp -implicitDefEqProofs only [go_sem, v1]))
      refine VIF.split (fun h' => ?_) (fun h' => ?_)
      · simp at h'
        have hm : b = m + 1 := by omega
        (simp -implicitDefEqProofs only [go_sem]; repeat (refine GO ?_; simp -implicitDefEqProofs only [go_sem]))
        refine LOOP.mk (ι := { p : Nat × Nat // a ≤ p.1 ∧ p.1 ≤ p.2 ∧ p.2 ≤ m ∧ (p.1 = a ∨ leO c z[p.1 - 1]? z[m]?) ∧ (p.2 = m ∨ leO c z[m]? z[p.2]?) })
          (fun p => mkS [(0, .rf 0 0 z.length), (1, iA a), (2, iA m), (3, iA b), (4, .fn g []), (14, iA p.1.1), (15, iA p.1.2)] [(0, so z)] [0]) (fun p => p.1.2 - p.1.1)
          ⟨(a, m), Nat.le_refl _, by show a ≤ m; omega, Nat.le_refl _, .inl rfl, .inl rfl⟩ [(0, some 0)] rfl rfl ?_ (fun p => ?_)
        · (simp -implicitDefEqProofs only [go_sem, iA, so]; repeat (refine GO ?_; simp -implicitDefEqProofs only [go_sem, iA, so]))
          exact .same (so z) _ _ (so_leafy z) rfl
        · obtain ⟨⟨i, j⟩, hi, hij, hj, lo, hi2⟩ := p
          simp only at hi hij hj lo hi2
          (simp -implicitDefEqProofs only [go_sem, iA, so]; repeat (refine GO ?_; simp -implicitDefEqProofs only [go_sem, iA, so]))
          refine VIF.split (fun e => ?_) (fun e => ?_)
          · simp at e
            have w2 := wrap_add (show i + j < 4611686018427387904 by omega)
            have w3 := half (show i + j < 4611686018427387904 by omega)
            have hh1 : (i + j) / 2 < j := by omega
            have hh2 : i ≤ (i + j) / 2 := by omega
            generalize hhd : (i + j) / 2 = hh at *
            have hz1 : hh < z.length := by omega
            have hz2 : m < z.length := by omega
            (simp -implicitDefEqProofs only [go_sem, w2, w3]; repeat (refine GO ?_; simp -implicitDefEqProofs only [go_sem, w2, w3]))
            refine ⟨by decide, by omega, EL.map hz2 ?_⟩
            (simp -implicitDefEqProofs only [go_sem, It.c, w2, w3]; repeat (refine GO ?_; simp -implicitDefEqProofs only [go_sem, It.c, w2, w3]))
            refine ⟨by omega, EL.map hz1 ?_⟩
            (simp -implicitDefEqProofs only [go_sem, It.c, w2, w3]; repeat (refine GO ?_; simp -implicitDefEqProofs only [go_sem, It.c, w2, w3]))
            refine .pure _ (hg z[m] z[hh] (hB _ (List.getElem_mem _)) (hB _ (List.getElem_mem _))) rfl fun r hr _ => ?_
            subst hr
            (simp -implicitDefEqProofs only [go_sem, iA]; repeat (refine GO ?_; simp -implicitDefEqProofs only [go_sem, iA]))
            refine VIF.split (fun q => ?_) (fun q => ?_)
            · simp at q
              have w4 := wrap_add1 (show hh < 4611686018427387904 by omega)
              (simp -implicitDefEqProofs only [go_sem, w4]; repeat (refine GO ?_; simp -implicitDefEqProofs only [go_sem, w4]))
              refine BACK.mk ⟨(hh + 1, j), by show a ≤ hh + 1; omega, by show hh + 1 ≤ j; omega, hj, .inr fun u v hu hv => ?_, hi2⟩ [(0, some 0)] rfl rfl (by show j - (hh + 1) < j - i; omega) ?_
              · simp only [Nat.add_sub_cancel, List.getElem?_eq_getElem hz1, List.getElem?_eq_getElem hz2] at hu hv
                cases hu; cases hv; exact hc.tot _ _ (by omega)
              · (simp -implicitDefEqProofs only [go_sem, iA, so]; repeat (refine GO ?_; simp -implicitDefEqProofs only [go_sem, iA, so]))
                exact .same (so z) _ _ (so_leafy z) rfl
            · simp at q
              (simp -implicitDefEqProofs only [go_sem]; repeat (refine GO ?_; simp -implicitDefEqProofs only [go_sem]))
              refine BACK.mk ⟨(i, hh), hi, hh2, by show hh ≤ m; omega, lo, .inr fun u v hu hv => ?_⟩ [(0, some 0)] rfl rfl (by show hh - i < j - i; omega) ?_
              · simp only [List.getElem?_eq_getElem hz1, List.getElem?_eq_getElem hz2] at hu hv
                cases hu; cases hv; omega
              · (simp -implicitDefEqProofs only [go_sem, iA, so]; repeat (refine GO ?_; simp -implicitDefEqProofs only [go_sem, iA, so]))
                exact .same (so z) _ _ (so_leafy z) rfl
          · simp at e
            have hij' : i = j := by omega
            subst hij'
            (simp -implicitDefEqProofs only [go_sem]; repeat (refine GO ?_; simp -implicitDefEqProofs only [go_sem]))
            refine LOOP.mk (ι := { p : Nat × List It // i ≤ p.1 ∧ p.1 ≤ m ∧ Win z p.2 a b ∧ ∀ k, p.2[k]? = if p.1 < k ∧ k ≤ m then z[k - 1]? else if k = p.1 then z[m]? else z[k]? })
              (fun p => mkS [(0, .rf 0 0 z.length), (14, iA i), (17, iA p.1.1)] [(0, so p.1.2)] [0]) (fun p => p.1.1)
              ⟨(m, z), by show i ≤ m; omega, Nat.le_refl _, .refl _ _ _, fun k => by
                show z[k]? = if m < k ∧ k ≤ m then z[k - 1]? else if k = m then z[m]? else z[k]?
                rw [if_neg (by omega)]; split <;> simp_all⟩ [(0, some 0)] rfl rfl ?_ (fun p => ?_)
            · (simp -implicitDefEqProofs only [go_sem, iA, so]; repeat (refine GO ?_; simp -implicitDefEqProofs only [go_sem, iA, so]))
              exact .same (so z) _ _ (so_leafy z) rfl
            · obtain ⟨⟨k, y⟩, hk1, hk2, hw, hy⟩ := p
              have hlen := hw.len
              simp only at hk1 hk2 hw hy hlen
              (simp -implicitDefEqProofs only [go_sem, iA, so]; repeat (refine GO ?_; simp -implicitDefEqProofs only [go_sem, iA, so]))
              refine VIF.split (fun e => ?_) (fun e => ?_)
              · simp at e
                have w6 := wrap_sub1 (show 1 ≤ k by omega) (by omega)
                have g1 : k < y.length := by omega
                have g2 : k - 1 < y.length := by omega
                (simp -implicitDefEqProofs only [go_sem, w6]; repeat (refine GO ?_; simp -implicitDefEqProofs only [go_sem, w6]))
                refine ⟨by omega, EL.map g2 ?_⟩
                (simp -implicitDefEqProofs only [go_sem, It.c, w6]; repeat (refine GO ?_; simp -implicitDefEqProofs only [go_sem, It.c, w6]))
                refine ⟨by omega, EL.map g1 ?_⟩
                (simp -implicitDefEqProofs only [go_sem, It.c, w6]; repeat (refine GO ?_; simp -implicitDefEqProofs only [go_sem, It.c, w6]))
                refine ⟨by omega, EL.map g1 ?_⟩
                (simp -implicitDefEqProofs only [go_sem, It.c, w6]; repeat (refine GO ?_; simp -implicitDefEqProofs only [go_sem, It.c, w6]))
                refine ⟨by omega, EL.setmap (by omega) g2 ?_⟩
                (simp -implicitDefEqProofs only [go_sem, It.c, w6]; repeat (refine GO ?_; simp -implicitDefEqProofs only [go_sem, It.c, w6]))
                refine BACK.mk ⟨(k - 1, swp y k (k - 1) g1 g2), by show i ≤ k - 1; omega, by show k - 1 ≤ m; omega, hw.trans (swp_win _ _ (by omega) (by omega) (by omega) (by omega)), fun q => ?_⟩ [(0, some 0)] rfl rfl (by show k - 1 < k; omega) ?_
                · show (swp y k (k - 1) g1 g2)[q]? = if k - 1 < q ∧ q ≤ m then z[q - 1]? else if q = k - 1 then z[m]? else z[q]?
                  rw [swp_get]
                  by_cases e1 : q = k - 1
                  · rw [if_pos e1, if_neg (by omega), if_pos e1, hy, if_neg (by omega), if_pos rfl]
                  · by_cases e2 : q = k
                    · rw [if_neg e1, if_pos e2, if_pos (by omega), hy, if_neg (by omega), if_neg (by omega), e2]
                    · rw [if_neg e1, if_neg e2, hy]
                      by_cases e3 : k < q ∧ q ≤ m
                      · rw [if_pos e3, if_pos (by omega)]
                      · rw [if_neg e3, if_neg e2, if_neg (by omega), if_neg e1]
                · (simp -implicitDefEqProofs only [go_sem, iA, so]; repeat (refine GO ?_; simp -implicitDefEqProofs only [go_sem, iA, so]))
                  exact .same (so (swp y k (k - 1) g1 g2)) _ _ (fun u hu => so_leafy (swp y k (k - 1) g1 g2) u (by rw [so, ← swp_map]; exact hu)) (swp_map g1 g2)
              · simp at e
                have hki : k = i := by omega
                subst hki
                (simp -implicitDefEqProofs only [go_sem]; repeat (refine GO ?_; simp -implicitDefEqProofs only [go_sem]))
                refine FIN_O (o' := so y) rfl ?_ (so_leafy y) ?_
                · rfl
                · exact ⟨so y, ⟨⟨rfl, y, rfl, hw, merge_last hc r1 hm hi (by omega) h3 lo hi2 hy⟩, rfl⟩, so_leafy y, rfl⟩
      · simp at h'
        (simp -implicitDefEqProofs only [go_sem]; repeat (refine GO ?_; simp -implicitDefEqProofs only [go_sem]))
        have u1 := wrap_add (show a + b < 4611686018427387904 by omega)
        have u2 := half (show a + b < 4611686018427387904 by omega)
        have hm1 : a < (a + b) / 2 := by omega
        have hm2 : (a + b) / 2 < b := by omega
        generalize hmd : (a + b) / 2 = mid at *
        have u3 := wrap_add (show mid + m < 4611686018427387904 by omega)
        (simp -implicitDefEqProofs only [go_sem, u1, u2, u3]; repeat (refine GO ?_; simp -implicitDefEqProofs only [go_sem, u1, u2, u3]))
        refine ⟨by decide, ?_⟩
        refine VIF.join (ι := { p : Nat × Nat // a ≤ p.1 ∧ p.1 ≤ p.2 ∧ p.2 ≤ mid ∧ p.2 ≤ m ∧ mid + m - p.1 ≤ b ∧ (p.1 = a ∨ mid + m - p.1 = b) ∧ (p.2 = m ∨ mid + m - p.2 = m) })
          (fun p => mkS [(0, .rf 0 0 z.length), (1, iA a), (2, iA m), (3, iA b), (4, .fn g []), (18, iA mid), (19, iA (mid + m : Nat)), (20, iA p.1.1), (21, iA p.1.2)] [(0, so z)] [0]) (fun hmm => ?_) (fun hmm => ?_) (fun p => ?_)
        · simp at hmm
          have w := wrap_sub (show b ≤ mid + m by omega) (by omega)
          (simp -implicitDefEqProofs only [go_sem, w, u1, u2, u3]; repeat (refine GO ?_; simp -implicitDefEqProofs only [go_sem, w, u1, u2, u3]))
          refine JB.mk ⟨(mid + m - b, mid), by show a ≤ mid + m - b; omega, by show mid + m - b ≤ mid; omega, by show mid ≤ mid; omega, by show mid ≤ m; omega, by show mid + m - (mid + m - b) ≤ b; omega, .inr (by show mid + m - (mid + m - b) = b; omega), .inr (by show mid + m - mid = m; omega)⟩ [(0, some 0)] rfl rfl ?_
          (simp -implicitDefEqProofs only [go_sem, iA, so, w, u1, u2, u3]; repeat (refine GO ?_; simp -implicitDefEqProofs only [go_sem, iA, so, w, u1, u2, u3]))
          exact .same (so z) _ _ (so_leafy z) rfl
        · simp at hmm
          (simp -implicitDefEqProofs only [go_sem, u1, u2, u3]; repeat (refine GO ?_; simp -implicitDefEqProofs only [go_sem, u1, u2, u3]))
          refine JB.mk ⟨(a, m), Nat.le_refl _, by show a ≤ m; omega, by show m ≤ mid; omega, Nat.le_refl _, by show mid + m - a ≤ b; omega, .inl rfl, .inl rfl⟩ [(0, some 0)] rfl rfl ?_
          (simp -implicitDefEqProofs only [go_sem, iA, so, u1, u2, u3]; repeat (refine GO ?_; simp -implicitDefEqProofs only [go_sem, iA, so, u1, u2, u3]))
          exact .same (so z) _ _ (so_leafy z) rfl
        · obtain ⟨⟨S, E⟩, f1⟩ := p
          simp only at f1
          have v2 := wrap_sub1 (show 1 ≤ mid + m by omega) (by omega)
          refine GO ?_
          (simp -implicitDefEqProofs only [go_sem, iA, so, v2]; repeat (refine GO ?_; simp -implicitDefEqProofs only [go_sem, iA, so, v2]))
          refine LOOP.mk (ι := { p : Nat × Nat // S ≤ p.1 ∧ p.1 ≤ p.2 ∧ p.2 ≤ E ∧ (p.1 = S ∨ leO c z[p.1 - 1]? z[mid + m - p.1]?) ∧ (p.2 = E ∨ leO c z[mid + m - 1 - p.2]? z[p.2]?) })
            (fun p => mkS [(0, .rf 0 0 z.length), (1, iA a), (2, iA m), (3, iA b), (4, .fn g []), (18, iA mid), (19, iA (mid + m : Nat)), (20, iA p.1.1), (21, iA p.1.2), (22, iA (mid + m - 1 : Nat))] [(0, so z)] [0]) (fun p => p.1.2 - p.1.1)
            ⟨(S, E), Nat.le_refl _, by show S ≤ E; omega, Nat.le_refl _, .inl rfl, .inl rfl⟩ [(0, some 0)] rfl rfl ?_ (fun p => ?_)
          · (simp -implicitDefEqProofs only [go_sem, iA, so, v2]; repeat (refine GO ?_; simp -implicitDefEqProofs only [go_sem, iA, so, v2]))
            exact .same (so z) _ _ (so_leafy z) rfl
          · obtain ⟨⟨s, r⟩, hs1, hs2, hs3, lo, hi⟩ := p
            simp only at hs1 hs2 hs3 lo hi
            (simp -implicitDefEqProofs only [go_sem, iA, so]; repeat (refine GO ?_; simp -implicitDefEqProofs only [go_sem, iA, so]))
            refine VIF.split (fun e => ?_) (fun e => ?_)
            · simp at e
              have w2 := wrap_add (show s + r < 4611686018427387904 by omega)
              have w3 := half (show s + r < 4611686018427387904 by omega)
              have hh1 : (s + r) / 2 < r := by omega
              have hh2 : s ≤ (s + r) / 2 := by omega
              generalize hhd : (s + r) / 2 = hh at *
              have w4 := wrap_sub (show hh ≤ mid + m - 1 by omega) (by omega)
              have hz1 : hh < z.length := by omega
              have hz2 : mid + m - 1 - hh < z.length := by omega
              (simp -implicitDefEqProofs only [go_sem, w2, w3, w4]; repeat (refine GO ?_; simp -implicitDefEqProofs only [go_sem, w2, w3, w4]))
              refine ⟨by decide, by omega, EL.map hz2 ?_⟩
              (simp -implicitDefEqProofs only [go_sem, It.c, w2, w3, w4]; repeat (refine GO ?_; simp -implicitDefEqProofs only [go_sem, It.c, w2, w3, w4]))
              refine ⟨by omega, EL.map hz1 ?_⟩
              (simp -implicitDefEqProofs only [go_sem, It.c, w2, w3, w4]; repeat (refine GO ?_; simp -implicitDefEqProofs only [go_sem, It.c, w2, w3, w4]))
              refine .pure _ (hg z[mid + m - 1 - hh] z[hh] (hB _ (List.getElem_mem _)) (hB _ (List.getElem_mem _))) rfl fun r hr _ => ?_
              subst hr
              (simp -implicitDefEqProofs only [go_sem, iA]; repeat (refine GO ?_; simp -implicitDefEqProofs only [go_sem, iA]))
              refine VIF.split (fun q => ?_) (fun q => ?_)
              · simp at q
                have w5 := wrap_add1 (show hh < 4611686018427387904 by omega)
                (simp -implicitDefEqProofs only [go_sem, w5]; repeat (refine GO ?_; simp -implicitDefEqProofs only [go_sem, w5]))
                refine BACK.mk ⟨(hh + 1, r), by show S ≤ hh + 1; omega, by show hh + 1 ≤ r; omega, hs3, .inr fun u v hu hv => ?_, hi⟩ [(0, some 0)] rfl rfl (by show r - (hh + 1) < r - s; omega) ?_
                · have hv' : z[mid + m - 1 - hh]? = some v := by rw [← hv]; congr 1; show mid + m - 1 - hh = mid + m - (hh + 1); omega
                  simp only [Nat.add_sub_cancel, List.getElem?_eq_getElem hz1] at hu
                  rw [List.getElem?_eq_getElem hz2] at hv'
                  cases hu; cases hv'; exact hc.tot _ _ (by omega)
                · (simp -implicitDefEqProofs only [go_sem, iA, so]; repeat (refine GO ?_; simp -implicitDefEqProofs only [go_sem, iA, so]))
                  exact .same (so z) _ _ (so_leafy z) rfl
              · simp at q
                (simp -implicitDefEqProofs only [go_sem]; repeat (refine GO ?_; simp -implicitDefEqProofs only [go_sem]))
                refine BACK.mk ⟨(s, hh), hs1, hh2, by show hh ≤ E; omega, lo, .inr fun u v hu hv => ?_⟩ [(0, some 0)] rfl rfl (by show hh - s < r - s; omega) ?_
                · simp only [List.getElem?_eq_getElem hz1, List.getElem?_eq_getElem hz2] at hu hv
                  cases hu; cases hv; omega
                · (simp -implicitDefEqProofs only [go_sem, iA, so]; repeat (refine GO ?_; simp -implicitDefEqProofs only [go_sem, iA, so]))
                  exact .same (so z) _ _ (so_leafy z) rfl
            · simp at e
              have hsr : s = r := by omega
              subst hsr
              have w6 := wrap_sub (show s ≤ mid + m by omega) (by omega)
              obtain ⟨t, ht⟩ : ∃ t, t = mid + m - s := ⟨_, rfl⟩
              rw [← ht] at w6
              have hmid : mid = s + (t - m) := by omega
              have lo' : s = a ∨ t = b ∨ leO c z[s - 1]? z[t]? := by
                rcases lo with h | h
                · omega
                · rw [← ht] at h; exact .inr (.inr h)
              have hi' : s = m ∨ t = m ∨ leO c z[t - 1]? z[s]? := by
                rcases hi with h | h
                · omega
                · have : mid + m - 1 - s = t - 1 := by omega
                  rw [this] at h; exact .inr (.inr h)
              have g1 : a ≤ s ∧ s ≤ m ∧ m ≤ t ∧ t ≤ b ∧ s ≤ mid ∧ mid ≤ t := by omega
              obtain ⟨g1, g2, g3, g4, g5, g6⟩ := g1
              have same : m ≤ s ∨ t ≤ m → ∀ k, z[k]? = rotG z (m - s) (t - m) m k := by
                intro hst k
                simp only [rotG]
                by_cases k1 : m - (m - s) ≤ k ∧ k < m - (m - s) + (t - m)
                · rw [if_pos k1]; congr 1; omega
                · rw [if_neg k1]
                  by_cases k2 : m - (m - s) + (t - m) ≤ k ∧ k < m + (t - m)
                  · rw [if_pos k2]; congr 1; omega
                  · rw [if_neg k2]
              (simp -implicitDefEqProofs only [go_sem, w6]; repeat (refine GO ?_; simp -implicitDefEqProofs only [go_sem, w6]))
              refine evRegion.join (ι := { y : List It // Win z y a b ∧ ∀ k, y[k]? = rotG z (m - s) (t - m) m k })
                (fun y => mkS [(0, .rf 0 0 z.length), (1, iA a), (3, iA b), (4, .fn g []), (18, iA mid), (20, iA s), (24, iA t)] [(0, so y.1)] [0]) ?_ (fun y => ?_)
              · (simp -implicitDefEqProofs only [go_sem, ord71_39]; repeat (refine GO ?_; simp -implicitDefEqProofs only [go_sem, ord71_39]))
                refine VIF.split (fun q1 => ?_) (fun q1 => ?_)
                · simp at q1
                  (simp -implicitDefEqProofs only [go_sem]; repeat (refine GO ?_; simp -implicitDefEqProofs only [go_sem]))
                  refine VIF.split (fun q2 => ?_) (fun q2 => ?_)
                  · simp at q2
                    (simp -implicitDefEqProofs only [go_sem]; repeat (refine GO ?_; simp -implicitDefEqProofs only [go_sem]))
                    refine .obj 0 (so z) _ _ (s75 g z s m t (by omega) (by omega) (by omega) (by omega)) rfl (so_leafy z) rfl rfl fun r o' hr _ _ => ?_
                    obtain ⟨rfl, z1, rfl, hrot⟩ := hr
                    (simp -implicitDefEqProofs only [go_sem]; repeat (refine GO ?_; simp -implicitDefEqProofs only [go_sem]))
                    refine JB.mk ⟨z1, hrot.win.wide (by omega) (by omega), hrot.get⟩ [(0, some 0)] rfl rfl ?_
                    (simp -implicitDefEqProofs only [go_sem, iA, so, w6]; repeat (refine GO ?_; simp -implicitDefEqProofs only [go_sem, iA, so, w6]))
                    exact .same (so z1) _ _ (so_leafy z1) rfl
                  · simp at q2
                    (simp -implicitDefEqProofs only [go_sem]; repeat (refine GO ?_; simp -implicitDefEqProofs only [go_sem]))
                    refine JB.mk ⟨z, .refl _ _ _, same (by omega)⟩ [(0, some 0)] rfl rfl ?_
                    (simp -implicitDefEqProofs only [go_sem, iA, so, w6]; repeat (refine GO ?_; simp -implicitDefEqProofs only [go_sem, iA, so, w6]))
                    exact .same (so z) _ _ (so_leafy z) rfl
                · simp at q1
                  (simp -implicitDefEqProofs only [go_sem]; repeat (refine GO ?_; simp -implicitDefEqProofs only [go_sem]))
                  refine JB.mk ⟨z, .refl _ _ _, same (by omega)⟩ [(0, some 0)] rfl rfl ?_
                  (simp -implicitDefEqProofs only [go_sem, iA, so, w6]; repeat (refine GO ?_; simp -implicitDefEqProofs only [go_sem, iA, so, w6]))
                  exact .same (so z) _ _ (so_leafy z) rfl
              · obtain ⟨z1, hw1, hy1⟩ := y
                have hl1 := hw1.len
                have hB1 : ∀ x ∈ z1, B x := fun x hx => hB x (hw1.perm.subset hx)
                obtain ⟨p1, p2, p3, p4, psep⟩ := rot_runs hc r1 r2 g1 g2 g3 g4 h3 hmid lo' hi' hy1
                refine GO ?_
                (simp -implicitDefEqProofs only [go_sem, iA, so]; repeat (refine GO ?_; simp -implicitDefEqProofs only [go_sem, iA, so]))
                refine evRegion.join (ι := { y : List It // Win z1 y a mid ∧ SR c y a mid })
                  (fun y => mkS [(0, .rf 0 0 z.length), (3, iA b), (4, .fn g []), (18, iA mid), (24, iA t)] [(0, so y.1)] [0]) ?_ (fun y => ?_)
                · (simp -implicitDefEqProofs only [go_sem, iA, so, ord71_41]; repeat (refine GO ?_; simp -implicitDefEqProofs only [go_sem, iA, so, ord71_41]))
                  refine VIF.split (fun q3 => ?_) (fun q3 => ?_)
                  · simp at q3
                    (simp -implicitDefEqProofs only [go_sem]; repeat (refine GO ?_; simp -implicitDefEqProofs only [go_sem]))
                    refine VIF.split (fun q4 => ?_) (fun q4 => ?_)
                    · simp at q4
                      (simp -implicitDefEqProofs only [go_sem]; repeat (refine GO ?_; simp -implicitDefEqProofs only [go_sem]))
                      refine .obj 0 (so z1) _ _ (ihL d ih z1 hl1 hB1 a s mid (by omega) (by omega) (by omega) (by omega) (by omega) p1 p2) rfl (so_leafy z1) rfl rfl fun r o' hr _ _ => ?_
                      obtain ⟨rfl, z2, rfl, hw2, hs2⟩ := hr
                      (simp -implicitDefEqProofs only [go_sem]; repeat (refine GO ?_; simp -implicitDefEqProofs only [go_sem]))
                      refine JB.mk ⟨z2, hw2, hs2⟩ [(0, some 0)] rfl rfl ?_
                      (simp -implicitDefEqProofs only [go_sem, iA, so]; repeat (refine GO ?_; simp -implicitDefEqProofs only [go_sem, iA, so]))
                      exact .same (so z2) _ _ (so_leafy z2) rfl
                    · simp at q4
                      (simp -implicitDefEqProofs only [go_sem]; repeat (refine GO ?_; simp -implicitDefEqProofs only [go_sem]))
                      refine JB.mk ⟨z1, .refl _ _ _, fun u v k1 k2 k3 => p1 u v k1 k2 (by omega)⟩ [(0, some 0)] rfl rfl ?_
                      (simp -implicitDefEqProofs only [go_sem, iA, so]; repeat (refine GO ?_; simp -implicitDefEqProofs only [go_sem, iA, so]))
                      exact .same (so z1) _ _ (so_leafy z1) rfl
                  · simp at q3
                    (simp -implicitDefEqProofs only [go_sem]; repeat (refine GO ?_; simp -implicitDefEqProofs only [go_sem]))
                    refine JB.mk ⟨z1, .refl _ _ _, fun u v k1 k2 k3 => p2 u v (by omega) k2 k3⟩ [(0, some 0)] rfl rfl ?_
                    (simp -implicitDefEqProofs only [go_sem, iA, so]; repeat (refine GO ?_; simp -implicitDefEqProofs only [go_sem, iA, so]))
                    exact .same (so z1) _ _ (so_leafy z1) rfl
                · obtain ⟨z2, hw2, hs2⟩ := y
                  have hl2 := hw2.len.trans hl1
                  have hB2 : ∀ x ∈ z2, B x := fun x hx => hB1 x (hw2.perm.subset hx)
                  have p3' : SR c z2 mid t := fun u v k1 k2 k3 => by rw [hw2.out u (.inr k1), hw2.out v (.inr (by omega))]; exact p3 u v k1 k2 k3
                  have p4' : SR c z2 t b := fun u v k1 k2 k3 => by rw [hw2.out u (.inr (by omega)), hw2.out v (.inr (by omega))]; exact p4 u v k1 k2 k3
                  have fin2 : SR c z2 mid b → Win z z2 a b ∧ SR c z2 a b := fun h => ⟨hw1.trans (hw2.wide (Nat.le_refl _) (by omega)), merge_fin hc psep hw2 hs2 (.refl _ _ _) h⟩
                  refine GO ?_
                  (simp -implicitDefEqProofs only [go_sem, iA, so]; repeat (refine GO ?_; simp -implicitDefEqProofs only [go_sem, iA, so]))
                  (simp -implicitDefEqProofs only [go_sem, iA, so, ord71_43]; repeat (refine GO ?_; simp -implicitDefEqProofs only [go_sem, iA, so, ord71_43]))
                  refine VIF.split (fun q5 => ?_) (fun q5 => ?_)
                  · simp at q5
                    (simp -implicitDefEqProofs only [go_sem]; repeat (refine GO ?_; simp -implicitDefEqProofs only [go_sem]))
                    refine VIF.split (fun q6 => ?_) (fun q6 => ?_)
                    · simp at q6
                      (simp -implicitDefEqProofs only [go_sem]; repeat (refine GO ?_; simp -implicitDefEqProofs only [go_sem]))
                      refine .obj 0 (so z2) _ _ (ihL d ih z2 hl2 hB2 mid t b (by omega) (by omega) (by omega) (by omega) (by omega) p3' p4') rfl (so_leafy z2) rfl rfl fun r o' hr _ _ => ?_
                      obtain ⟨rfl, z3, rfl, hw3, hs3⟩ := hr
                      (simp -implicitDefEqProofs only [go_sem]; repeat (refine GO ?_; simp -implicitDefEqProofs only [go_sem]))
                      refine FIN_O (o' := so z3) rfl ?_ (so_leafy z3) ?_
                      · rfl
                      · exact ⟨so z3, ⟨⟨rfl, z3, rfl, hw1.trans ((hw2.wide (Nat.le_refl _) (by omega)).trans (hw3.wide (by omega) (Nat.le_refl _))), merge_fin hc psep hw2 hs2 hw3 hs3⟩, rfl⟩, so_leafy z3, rfl⟩
                    · simp at q6
                      (simp -implicitDefEqProofs only [go_sem]; repeat (refine GO ?_; simp -implicitDefEqProofs only [go_sem]))
                      refine FIN_O (o' := so z2) rfl ?_ (so_leafy z2) ?_
                      · rfl
                      · exact ⟨so z2, ⟨⟨rfl, z2, rfl, fin2 fun u v k1 k2 k3 => p3' u v k1 k2 (by omega)⟩, rfl⟩, so_leafy z2, rfl⟩
                  · simp at q5
                    (simp -implicitDefEqProofs only [go_sem]; repeat (refine GO ?_; simp -implicitDefEqProofs only [go_sem]))
                    refine FIN_O (o' := so z2) rfl ?_ (so_leafy z2) ?_
                    · rfl
                    · exact ⟨so z2, ⟨⟨rfl, z2, rfl, fin2 fun u v k1 k2 k3 => p4' u v (by omega) k2 k3⟩, rfl⟩, so_leafy z2, rfl⟩
end Yt
