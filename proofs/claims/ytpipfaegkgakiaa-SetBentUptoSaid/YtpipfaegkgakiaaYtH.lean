/- Sorting stably, in place: the whole. What is proved: contracts of the program's functions over abstract values, or plain facts on which these lean; the conditions stand in each theorem. -/
import Derived.Test.YtpipfaegkgakiaaYtG
set_option linter.all false
/-! Sorting stably, in place: the whole. -/
namespace Yt
open Go Go.Vc Go.Proofs
set_option maxRecDepth 10000
set_option maxHeartbeats 4000000
set_option linter.unusedSimpArgs false
set_option linter.unusedVariables false
theorem s70L (g : Nat) (c : It → It → Int) (hc : Cmp c) (B : It → Prop) (hg : ∀ x y, B x → B y → Spec0 Try.prog g [.ag x.c, .ag y.c] (· = iA (c x y))) {N : Nat} (z : List It) (hN : z.length = N) (hB : ∀ x ∈ z, B x) (a b : Nat) (h1 : a ≤ b) (h2 : b ≤ N) (hl : N < 2305843009213693952) :
    SpecO Try.prog 70 [.rf 0 0 N, iA a, iA b, .fn g []] (so z) (fun r o' => r = .tu [] ∧ ∃ z', o' = so z' ∧ Win z z' a b ∧ SR c z' a b) := by
  subst hN; exact s70 g c hc B hg z hB a b h1 h2 hl
theorem s71L (g : Nat) (c : It → It → Int) (hc : Cmp c) (B : It → Prop) (hg : ∀ x y, B x → B y → Spec0 Try.prog g [.ag x.c, .ag y.c] (· = iA (c x y))) {N : Nat} (z : List It) (hN : z.length = N) (hB : ∀ x ∈ z, B x) (a m b : Nat) (h1 : a < m) (h2 : m < b) (h3 : b ≤ N) (hl : N < 2305843009213693952)
    (r1 : SR c z a m) (r2 : SR c z m b) :
    SpecO Try.prog 71 [.rf 0 0 N, iA a, iA m, iA b, .fn g []] (so z) (fun r o' => r = .tu [] ∧ ∃ z', o' = so z' ∧ Win z z' a b ∧ SR c z' a b) := by
  subst hN; exact s71 g c hc B hg _ z hB a m b (Nat.le_refl _) h1 h2 h3 hl r1 r2
/-- Blocks of so many items, each sorted. -/
def BK (c : It → It → Int) (z : List It) (k : Nat) : Prop := ∀ q, SR c z (q * k) (min ((q + 1) * k) z.length)
theorem wrap_dbl {a : Nat} (h : a < 2305843009213693952) : IntKind.i64.wrap (2 * (a : Int)) = ((2 * a : Nat) : Int) := by rw [wrap_i64] <;> omega
theorem wrap_dbl' {a : Nat} (h : a < 2305843009213693952) : IntKind.i64.wrap ((a : Int) * 2) = ((2 * a : Nat) : Int) := by rw [wrap_i64] <;> omega
theorem s60 (g : Nat) (c : It → It → Int) (hc : Cmp c) (B : It → Prop) (hg : ∀ x y, B x → B y → Spec0 Try.prog g [.ag x.c, .ag y.c] (· = iA (c x y))) (z : List It) (hB : ∀ x ∈ z, B x) (hl : z.length < 576460752303423488) :
    SpecO Try.prog 60 [.rf 0 0 z.length, iA z.length, .fn g []] (so z) (fun r o' => r = .tu [] ∧ ∃ z', o' = so z' ∧ Win z z' 0 z.length ∧ SR c z' 0 z.length) := by
  refine specO_of_vc tabOk elems ord60 Try.func60 rfl (rl := []) rfl (by kernel_rfl) rfl ?_
  (simp -implicitDefEqProofs only [go_sem, iA, so]; repeat (refine GO ?_; simp -implicitDefEqProofs only [go_sem, iA, so]))
  refine LOOP.mk (ι := { p : Nat × List It // p.1 * 20 ≤ z.length ∧ Win z p.2 0 z.length ∧ ∀ q, q < p.1 → SR c p.2 (q * 20) ((q + 1) * 20) })
    (fun p => mkS [(0, .rf 0 0 z.length), (1, iA z.length), (2, .fn g []), (6, iA 20), (7, iA (p.1.1 * 20 : Nat)), (8, iA ((p.1.1 + 1) * 20 : Nat))] [(0, so p.1.2)] [0]) (fun p => z.length - p.1.1 * 20)
    ⟨(0, z), by simp, .refl _ _ _, fun q hq => by simp at hq⟩ [(0, some 0)] rfl rfl ?_ (fun p => ?_)
  · (simp -implicitDefEqProofs only [go_sem, iA, so]; repeat (refine GO ?_; simp -implicitDefEqProofs only [go_sem, iA, so]))
    exact ⟨⟨rfl, rfl⟩, .same (so z) _ _ (so_leafy z) rfl⟩
  · obtain ⟨⟨n, y⟩, hn, hw, hs⟩ := p
    have hlen := hw.len
    simp only at hn hw hs hlen
    (simp -implicitDefEqProofs only [go_sem, iA, so]; repeat (refine GO ?_; simp -implicitDefEqProofs only [go_sem, iA, so]))
    refine VIF.split (fun h => ?_) (fun h => ?_)
    · simp at h
      (simp -implicitDefEqProofs only [go_sem]; repeat (refine GO ?_; simp -implicitDefEqProofs only [go_sem]))
      refine .obj 0 (so y) _ _ (s70L g c hc B hg y hlen (fun x hx => hB x (hw.perm.subset hx)) (n * 20) ((n + 1) * 20) (by omega) (by omega) (by omega)) rfl (so_leafy y) rfl rfl fun r o' hr _ _ => ?_
      obtain ⟨rfl, y', rfl, hw', hs'⟩ := hr
      have w1 : IntKind.i64.wrap (((n + 1) * 20 : Nat) + (20 : Int)) = (((n + 1 + 1) * 20 : Nat) : Int) := by rw [wrap_i64] <;> omega
      (simp -implicitDefEqProofs only [go_sem, w1]; repeat (refine GO ?_; simp -implicitDefEqProofs only [go_sem, w1]))
      refine BACK.mk ⟨(n + 1, y'), by show (n + 1) * 20 ≤ z.length; omega, hw.trans (hw'.wide (by omega) (by omega)), fun q hq => ?_⟩ [(0, some 0)] rfl rfl (by show z.length - (n + 1) * 20 < z.length - n * 20; omega) ?_
      · show SR c y' (q * 20) ((q + 1) * 20)
        by_cases e : q = n
        · subst e; exact hs'
        · have hqn : q < n := by have : q < n + 1 := hq; omega
          intro u v k1 k2 k3
          rw [hw'.out u (.inl (by omega)), hw'.out v (.inl (by omega))]
          exact hs q hqn u v k1 k2 k3
      · (simp -implicitDefEqProofs only [go_sem, iA, so]; repeat (refine GO ?_; simp -implicitDefEqProofs only [go_sem, iA, so]))
        exact .same (so y') _ _ (so_leafy y') rfl
    · simp at h
      (simp -implicitDefEqProofs only [go_sem]; repeat (refine GO ?_; simp -implicitDefEqProofs only [go_sem]))
      refine .obj 0 (so y) _ _ (s70L g c hc B hg y hlen (fun x hx => hB x (hw.perm.subset hx)) (n * 20) z.length (by omega) (by omega) (by omega)) rfl (so_leafy y) rfl rfl fun r o' hr _ _ => ?_
      obtain ⟨rfl, y', rfl, hw', hs'⟩ := hr
      (simp -implicitDefEqProofs only [go_sem]; repeat (refine GO ?_; simp -implicitDefEqProofs only [go_sem]))
      have hw2 : Win z y' 0 z.length := hw.trans (hw'.wide (by omega) (by omega))
      have hb : BK c y' 20 := by
        intro q u v k1 k2 k3
        have hl2 := hw2.len
        by_cases e : q < n
        · rw [hw'.out u (.inl (by omega)), hw'.out v (.inl (by omega))]
          exact hs q e u v k1 k2 (by omega)
        · exact hs' u v (by omega) k2 (by omega)
      clear hs hs' hw' hw h
      refine LOOP.mk (ι := { p : Nat × List It // 20 ≤ p.1 ∧ (p.1 < 2 * z.length ∨ p.1 = 20) ∧ Win z p.2 0 z.length ∧ BK c p.2 p.1 })
        (fun p => mkS [(0, .rf 0 0 z.length), (1, iA z.length), (2, .fn g []), (6, iA p.1.1)] [(0, so p.1.2)] [0]) (fun p => 2 * z.length - p.1.1)
        ⟨(20, y'), Nat.le_refl _, .inr rfl, hw2, hb⟩ [(0, some 0)] rfl rfl ?_ (fun p => ?_)
      · (simp -implicitDefEqProofs only [go_sem, iA, so]; repeat (refine GO ?_; simp -implicitDefEqProofs only [go_sem, iA, so]))
        exact ⟨rfl, .same (so y') _ _ (so_leafy y') rfl⟩
      · obtain ⟨⟨k, x⟩, hk, hk2, hwx, hbx⟩ := p
        have hlx := hwx.len
        simp only at hk hk2 hwx hbx hlx
        (simp -implicitDefEqProofs only [go_sem, iA, so]; repeat (refine GO ?_; simp -implicitDefEqProofs only [go_sem, iA, so]))
        refine VIF.split (fun h => ?_) (fun h => ?_)
        · simp at h
          have w2 := wrap_dbl (show k < 2305843009213693952 by omega)
          (simp -implicitDefEqProofs only [go_sem, w2]; repeat (refine GO ?_; simp -implicitDefEqProofs only [go_sem, w2]))
          refine LOOP.mk (ι := { p : Nat × List It // p.1 * (2 * k) ≤ z.length ∧ Win z p.2 0 z.length ∧ (∀ q, q < p.1 → SR c p.2 (q * (2 * k)) ((q + 1) * (2 * k))) ∧ ∀ q, 2 * p.1 ≤ q → SR c p.2 (q * k) (min ((q + 1) * k) z.length) })
            (fun p => mkS [(0, .rf 0 0 z.length), (1, iA z.length), (2, .fn g []), (6, iA k), (7, iA (p.1.1 * (2 * k) : Nat)), (8, iA ((p.1.1 + 1) * (2 * k) : Nat))] [(0, so p.1.2)] [0]) (fun p => z.length - p.1.1)
            ⟨(0, x), by simp, hwx, fun q hq => by simp at hq, fun q _ => by rw [← hlx]; exact hbx q⟩ [(0, some 0)] rfl rfl ?_ (fun p => ?_)
          · (simp -implicitDefEqProofs only [go_sem, iA, so]; repeat (refine GO ?_; simp -implicitDefEqProofs only [go_sem, iA, so]))
            exact ⟨⟨by simp, by simp⟩, .same (so x) _ _ (so_leafy x) rfl⟩
          · obtain ⟨⟨n, u⟩, hn, hwu, hs1, hs2⟩ := p
            have hlu := hwu.len
            simp only at hn hwu hs1 hs2 hlu
            have e1 : (n + 1) * (2 * k) = n * (2 * k) + 2 * k := Nat.succ_mul _ _
            have e2 : (2 * n) * k = n * (2 * k) := by rw [Nat.mul_comm 2 n, Nat.mul_assoc]
            have e3 : (2 * n + 1) * k = n * (2 * k) + k := by rw [Nat.succ_mul, e2]
            have e4 : (2 * n + 1 + 1) * k = n * (2 * k) + 2 * k := by rw [Nat.succ_mul, e3]; omega
            have e5 : (n + 1 + 1) * (2 * k) = n * (2 * k) + 2 * k + 2 * k := by rw [Nat.succ_mul, e1]
            have hA : SR c u (n * (2 * k)) (min (n * (2 * k) + k) z.length) := by
              have := hs2 (2 * n) (Nat.le_refl _); rwa [e2, e3] at this
            have hB' : SR c u (n * (2 * k) + k) (min (n * (2 * k) + 2 * k) z.length) := by
              have := hs2 (2 * n + 1) (by omega); rwa [e3, e4] at this
            have lowq : ∀ q, q < n → (q + 1) * (2 * k) ≤ n * (2 * k) := fun q hq => Nat.mul_le_mul_right _ hq
            have higq : ∀ q, 2 * n + 1 + 1 ≤ q → n * (2 * k) + 2 * k ≤ q * k := fun q hq => by rw [← e4]; exact Nat.mul_le_mul_right _ hq
            have farq : ∀ q, n + 1 ≤ q → n * (2 * k) + 2 * k ≤ q * (2 * k) := fun q hq => by rw [← e1]; exact Nat.mul_le_mul_right _ hq
            (simp -implicitDefEqProofs only [go_sem, iA, so]; repeat (refine GO ?_; simp -implicitDefEqProofs only [go_sem, iA, so]))
            refine VIF.split (fun h' => ?_) (fun h' => ?_)
            · simp only [decide_eq_true_eq, e1] at h'
              have w3 := wrap_add (show n * (2 * k) + k < 4611686018427387904 by omega)
              (simp -implicitDefEqProofs only [go_sem, w3, w2, e1]; repeat (refine GO ?_; simp -implicitDefEqProofs only [go_sem, w3, w2, e1]))
              refine .obj 0 (so u) _ _ (s71L g c hc B hg u hlu (fun x hx => hB x (hwu.perm.subset hx)) (n * (2 * k)) (n * (2 * k) + k) (n * (2 * k) + 2 * k) (by omega) (by omega) (by omega) (by omega)
                (fun i j k1 k2 k3 => hA i j k1 k2 (by omega)) (fun i j k1 k2 k3 => hB' i j k1 k2 (by omega))) rfl (so_leafy u) rfl rfl fun r o' hr _ _ => ?_
              obtain ⟨rfl, u', rfl, hw', hs'⟩ := hr
              have w4 : IntKind.i64.wrap (((n * (2 * k) + 2 * k : Nat) : Int) + ((2 * k : Nat) : Int)) = ((n * (2 * k) + 2 * k + 2 * k : Nat) : Int) := by
                generalize n * (2 * k) = A at *
                rw [wrap_i64] <;> omega
              (simp -implicitDefEqProofs only [go_sem, w2, w4]; repeat (refine GO ?_; simp -implicitDefEqProofs only [go_sem, w2, w4]))
              refine BACK.mk ⟨(n + 1, u'), by show (n + 1) * (2 * k) ≤ z.length; omega, hwu.trans (hw'.wide (by omega) (by omega)), fun q hq => ?_, fun q hq => ?_⟩ [(0, some 0)] rfl rfl ?_ ?_
              · show SR c u' (q * (2 * k)) ((q + 1) * (2 * k))
                by_cases e : q = n
                · subst e; rw [e1]; exact hs'
                · have hqn : q < n := by have : q < n + 1 := hq; omega
                  have := lowq q hqn
                  intro i j k1 k2 k3
                  rw [hw'.out i (.inl (by omega)), hw'.out j (.inl (by omega))]
                  exact hs1 q hqn i j k1 k2 k3
              · show SR c u' (q * k) (min ((q + 1) * k) z.length)
                have hq' : 2 * (n + 1) ≤ q := hq
                have := higq q (by omega)
                intro i j k1 k2 k3
                rw [hw'.out i (.inr (by omega)), hw'.out j (.inr (by omega))]
                exact hs2 q (by omega) i j k1 k2 k3
              · show z.length - (n + 1) < z.length - n
                have : n * 1 ≤ n * (2 * k) := Nat.mul_le_mul_left _ (by omega)
                omega
              · (simp -implicitDefEqProofs only [go_sem, iA, so]; repeat (refine GO ?_; simp -implicitDefEqProofs only [go_sem, iA, so]))
                refine ⟨⟨by rw [e1], by rw [e5]⟩, .same (so u') _ _ (so_leafy u') rfl⟩
            · simp only [decide_eq_false_iff_not, e1] at h'
              have w3 := wrap_add (show n * (2 * k) + k < 4611686018427387904 by omega)
              have w5 := wrap_dbl' (show k < 2305843009213693952 by omega)
              (simp -implicitDefEqProofs only [go_sem, w3, w5]; repeat (refine GO ?_; simp -implicitDefEqProofs only [go_sem, w3, w5]))
              have fin : ∀ u', Win u u' (n * (2 * k)) z.length → SR c u' (n * (2 * k)) z.length → BK c u' (2 * k) := by
                intro u' hw' hs' q i j k1 k2 k3
                have hl' : u'.length = z.length := hw'.len.trans hlu
                by_cases e : q < n
                · have := lowq q e
                  rw [hw'.out i (.inl (by omega)), hw'.out j (.inl (by omega))]
                  exact hs1 q e i j k1 k2 (by omega)
                · by_cases e' : q = n
                  · subst e'; exact hs' i j k1 k2 (by omega)
                  · have := farq q (by omega)
                    omega
              refine VIF.split (fun h2 => ?_) (fun h2 => ?_)
              · simp only [decide_eq_true_eq] at h2
                (simp -implicitDefEqProofs only [go_sem, w3, w5]; repeat (refine GO ?_; simp -implicitDefEqProofs only [go_sem, w3, w5]))
                refine .obj 0 (so u) _ _ (s71L g c hc B hg u hlu (fun x hx => hB x (hwu.perm.subset hx)) (n * (2 * k)) (n * (2 * k) + k) z.length (by omega) (by omega) (by omega) (by omega)
                  (fun i j k1 k2 k3 => hA i j k1 k2 (by omega)) (fun i j k1 k2 k3 => hB' i j k1 k2 (by omega))) rfl (so_leafy u) rfl rfl fun r o' hr _ _ => ?_
                obtain ⟨rfl, u', rfl, hw', hs'⟩ := hr
                (simp -implicitDefEqProofs only [go_sem, w5]; repeat (refine GO ?_; simp -implicitDefEqProofs only [go_sem, w5]))
                refine BACK.mk ⟨(2 * k, u'), by show 20 ≤ 2 * k; omega, .inl (by show 2 * k < 2 * z.length; omega), hwu.trans (hw'.wide (by omega) (by omega)), fin u' hw' hs'⟩ [(0, some 0)] rfl rfl (by show 2 * z.length - 2 * k < 2 * z.length - k; omega) ?_
                (simp -implicitDefEqProofs only [go_sem, iA, so]; repeat (refine GO ?_; simp -implicitDefEqProofs only [go_sem, iA, so]))
                exact .same (so u') _ _ (so_leafy u') rfl
              · simp only [decide_eq_false_iff_not] at h2
                (simp -implicitDefEqProofs only [go_sem, w5]; repeat (refine GO ?_; simp -implicitDefEqProofs only [go_sem, w5]))
                refine BACK.mk ⟨(2 * k, u), by show 20 ≤ 2 * k; omega, .inl (by show 2 * k < 2 * z.length; omega), hwu, fin u (.refl _ _ _) fun i j k1 k2 k3 => hA i j k1 k2 (by omega)⟩ [(0, some 0)] rfl rfl (by show 2 * z.length - 2 * k < 2 * z.length - k; omega) ?_
                (simp -implicitDefEqProofs only [go_sem, iA, so]; repeat (refine GO ?_; simp -implicitDefEqProofs only [go_sem, iA, so]))
                exact .same (so u) _ _ (so_leafy u) rfl
        · simp at h
          (simp -implicitDefEqProofs only [go_sem]; repeat (refine GO ?_; simp -implicitDefEqProofs only [go_sem]))
          refine FIN_O (o' := so x) rfl ?_ (so_leafy x) ?_
          · rfl
          · refine ⟨so x, ⟨⟨rfl, x, rfl, hwx, ?_⟩, rfl⟩, so_leafy x, rfl⟩
            have := hbx 0
            rw [hlx] at this
            simp at this
            rwa [Nat.min_eq_right h] at this
end Yt
