/- A rotation, in place. What is proved: contracts of the program's functions over abstract values, or plain facts on which these lean; the conditions stand in each theorem. -/
import Derived.Test.YtpipfaegkgakiaaYtC
set_option linter.all false
/-! A rotation, in place. -/
namespace Yt
open Go Go.Vc Go.Proofs
set_option maxRecDepth 10000
set_option linter.unusedSimpArgs false
set_option linter.unusedVariables false
/-- What stands at k when the i items ahead of m and the j behind it have changed places. -/
def rotG (y : List It) (i j m k : Nat) : Option It := if m - i ≤ k ∧ k < m - i + j then y[k + i]? else if m - i + j ≤ k ∧ k < m + j then y[k - j]? else y[k]?
structure Rot (z z' : List It) (a m b : Nat) : Prop where
  win : Win z z' a b
  get : ∀ k, z'[k]? = rotG z (m - a) (b - m) m k
theorem rot_left {y y' : List It} {i j m : Nat} (hj : j < i) (hi : i ≤ m) (h : Sw y y' (m - i) m j) (k : Nat) : rotG y' (i - j) j m k = rotG y i j m k := by
  simp only [rotG]
  by_cases h1 : k < m - i
  · repeat (first | rw [if_pos (by omega)] | rw [if_neg (by omega)])
    rw [h.get]
    repeat (first | rw [if_pos (by omega)] | rw [if_neg (by omega)])
  · by_cases h2 : k < m - i + j
    · rw [if_neg (by omega), if_neg (by omega), if_pos (by omega), h.get, if_pos (by omega)]
      congr 1; omega
    · by_cases h3 : k < m
      · by_cases h4 : k < m - (i - j) + j
        · rw [if_pos (by omega), if_neg (by omega), if_pos (by omega), h.get]
          by_cases h5 : k + (i - j) < m
          · rw [if_neg (by omega), if_neg (by omega)]
            omega
          · rw [if_neg (by omega), if_pos (by omega)]; congr 1; omega
        · rw [if_neg (by omega), if_pos (by omega), if_neg (by omega), if_pos (by omega), h.get, if_neg (by omega), if_neg (by omega)]
      · by_cases h4 : k < m + j
        · by_cases h6 : k < m - (i - j) + j
          · rw [if_pos (by omega), if_neg (by omega), if_pos (by omega), h.get, if_neg (by omega), if_pos (by omega)]; congr 1; omega
          · rw [if_neg (by omega), if_pos (by omega), if_neg (by omega), if_pos (by omega), h.get, if_neg (by omega), if_neg (by omega)]
        · rw [if_neg (by omega), if_neg (by omega), if_neg (by omega), if_neg (by omega), h.get, if_neg (by omega), if_neg (by omega)]
theorem rot_right {y y' : List It} {i j m : Nat} (hj : i < j) (hi : i ≤ m) (h : Sw y y' (m - i) (m + j - i) i) (k : Nat) : rotG y' i (j - i) m k = rotG y i j m k := by
  simp only [rotG]
  by_cases h1 : k < m - i
  · rw [if_neg (by omega), if_neg (by omega), if_neg (by omega), if_neg (by omega), h.get, if_neg (by omega), if_neg (by omega)]
  · by_cases h2 : k < m - i + (j - i)
    · rw [if_pos (by omega), if_pos (by omega), h.get, if_neg (by omega), if_neg (by omega)]
    · by_cases h3 : k < m + (j - i)
      · rw [if_neg (by omega), if_pos (by omega), h.get]
        by_cases h4 : k < m - i + j
        · rw [if_pos (by omega), if_pos (by omega)]; congr 1; omega
        · omega
      · by_cases h4 : k < m + j
        · rw [if_neg (by omega), if_neg (by omega), h.get, if_neg (by omega), if_pos (by omega)]
          by_cases h5 : k < m - i + j
          · omega
          · rw [if_neg (by omega), if_pos (by omega)]; congr 1; omega
        · rw [if_neg (by omega), if_neg (by omega), if_neg (by omega), if_neg (by omega), h.get, if_neg (by omega), if_neg (by omega)]
theorem rot_end {y y' : List It} {i m : Nat} (hi : i ≤ m) (h : Sw y y' (m - i) m i) (k : Nat) : y'[k]? = rotG y i i m k := by
  rw [h.get]
  simp only [rotG]
  by_cases h1 : k < m - i
  · rw [if_neg (by omega), if_neg (by omega), if_neg (by omega), if_neg (by omega)]
  · by_cases h2 : k < m
    · rw [if_pos (by omega), if_pos (by omega)]; congr 1; omega
    · by_cases h3 : k < m + i
      · rw [if_neg (by omega), if_pos (by omega), if_neg (by omega), if_pos (by omega)]; congr 1; omega
      · rw [if_neg (by omega), if_neg (by omega), if_neg (by omega), if_neg (by omega)]

theorem s75 (g : Nat) (z : List It) (a m b : Nat) (h1 : a < m) (h2 : m < b) (h3 : b ≤ z.length) (hl : z.length < 2305843009213693952) :
    SpecO Try.prog 75 [.rf 0 0 z.length, iA a, iA m, iA b, .fn g []] (so z) (fun r o' => r = .tu [] ∧ ∃ z', o' = so z' ∧ Rot z z' a m b) := by
  refine specO_of_vc tabOk elems ord75 Try.func75 rfl (rl := []) rfl (by kernel_rfl) rfl ?_
  (simp -implicitDefEqProofs only [go_sem, iA, so]; repeat (refine GO ?_; simp -implicitDefEqProofs only [go_sem, iA, so]))
  refine LOOP.mk (ι := { p : Nat × Nat × List It // 0 < p.1 ∧ 0 < p.2.1 ∧ p.1 ≤ m - a ∧ p.2.1 ≤ b - m ∧ Win z p.2.2 a b ∧ ∀ k, rotG p.2.2 p.1 p.2.1 m k = rotG z (m - a) (b - m) m k })
    (fun p => mkS [(0, .rf 0 0 z.length), (1, iA a), (2, iA m), (3, iA b), (4, .fn g []), (10, iA p.1.1), (11, iA p.1.2.1)] [(0, so p.1.2.2)] [0]) (fun p => p.1.1 + p.1.2.1)
    ⟨(m - a, b - m, z), by show 0 < m - a; omega, by show 0 < b - m; omega, Nat.le_refl _, Nat.le_refl _, .refl _ _ _, fun _ => rfl⟩ [(0, some 0)] rfl rfl ?_ (fun p => ?_)
  · have w1 := wrap_sub (show a ≤ m by omega) (by omega)
    have w2 := wrap_sub (show m ≤ b by omega) (by omega)
    (simp -implicitDefEqProofs only [go_sem, iA, so, w1, w2]; repeat (refine GO ?_; simp -implicitDefEqProofs only [go_sem, iA, so, w1, w2]))
    exact .same (so z) _ _ (so_leafy z) rfl
  · obtain ⟨⟨i, j, y⟩, hi0, hj0, hi, hj, hw, hg⟩ := p
    have hlen := hw.len
    simp only at hi0 hj0 hi hj hw hg hlen
    (simp -implicitDefEqProofs only [go_sem, iA, so]; repeat (refine GO ?_; simp -implicitDefEqProofs only [go_sem, iA, so]))
    refine VIF.split (fun h => ?_) (fun h => ?_)
    · (simp -implicitDefEqProofs only [go_sem]; repeat (refine GO ?_; simp -implicitDefEqProofs only [go_sem]))
      simp at h
      refine VIF.split (fun e => ?_) (fun e => ?_)
      · simp at e
        have w1 := wrap_sub (show i ≤ m by omega) (by omega)
        (simp -implicitDefEqProofs only [go_sem, w1]; repeat (refine GO ?_; simp -implicitDefEqProofs only [go_sem, w1]))
        rw [← hlen]
        refine .obj 0 (so y) _ _ (s76 g y (m - i) m j (by omega) (by omega) (by omega)) rfl (so_leafy y) rfl rfl fun r o' hr _ _ => ?_
        obtain ⟨rfl, y', rfl, hs⟩ := hr
        have w2 := wrap_sub (show j ≤ i by omega) (by omega)
        (simp -implicitDefEqProofs only [go_sem, w2]; repeat (refine GO ?_; simp -implicitDefEqProofs only [go_sem, w2]))
        refine BACK.mk ⟨(i - j, j, y'), by show 0 < i - j; omega, hj0, by show i - j ≤ m - a; omega, hj, hw.trans (hs.win.wide (by omega) (by omega)), fun k => (rot_left e (by omega) hs k).trans (hg k)⟩ [(0, some 0)] rfl rfl (by show i - j + j < i + j; omega) ?_
        (simp -implicitDefEqProofs only [go_sem, iA, so]; repeat (refine GO ?_; simp -implicitDefEqProofs only [go_sem, iA, so]))
        exact .same (so y') _ _ (so_leafy y') rfl
      · simp at e
        have hlt : i < j := by omega
        have w1 := wrap_sub (show i ≤ m by omega) (by omega)
        have w2 := wrap_add (show m + j < 4611686018427387904 by omega)
        have w3 := wrap_sub (show i ≤ m + j by omega) (by omega)
        (simp -implicitDefEqProofs only [go_sem, w1, w2, w3]; repeat (refine GO ?_; simp -implicitDefEqProofs only [go_sem, w1, w2, w3]))
        rw [← hlen]
        refine .obj 0 (so y) _ _ (s76 g y (m - i) (m + j - i) i (by omega) (by omega) (by omega)) rfl (so_leafy y) rfl rfl fun r o' hr _ _ => ?_
        obtain ⟨rfl, y', rfl, hs⟩ := hr
        have w4 := wrap_sub (show i ≤ j by omega) (by omega)
        (simp -implicitDefEqProofs only [go_sem, w4]; repeat (refine GO ?_; simp -implicitDefEqProofs only [go_sem, w4]))
        refine BACK.mk ⟨(i, j - i, y'), hi0, by show 0 < j - i; omega, hi, by show j - i ≤ b - m; omega, hw.trans (hs.win.wide (by omega) (by omega)), fun k => (rot_right hlt (by omega) hs k).trans (hg k)⟩ [(0, some 0)] rfl rfl (by show i + (j - i) < i + j; omega) ?_
        (simp -implicitDefEqProofs only [go_sem, iA, so]; repeat (refine GO ?_; simp -implicitDefEqProofs only [go_sem, iA, so]))
        exact .same (so y') _ _ (so_leafy y') rfl
    · simp at h
      have hij : i = j := by omega
      subst hij
      have w1 := wrap_sub (show i ≤ m by omega) (by omega)
      (simp -implicitDefEqProofs only [go_sem, w1]; repeat (refine GO ?_; simp -implicitDefEqProofs only [go_sem, w1]))
      rw [← hlen]
      refine .obj 0 (so y) _ _ (s76 g y (m - i) m i (by omega) (by omega) (by omega)) rfl (so_leafy y) rfl rfl fun r o' hr _ _ => ?_
      obtain ⟨rfl, y', rfl, hs⟩ := hr
      (simp -implicitDefEqProofs only [go_sem]; repeat (refine GO ?_; simp -implicitDefEqProofs only [go_sem]))
      refine FIN_O (o' := so y') rfl ?_ (so_leafy y') ?_
      · rfl
      · exact ⟨so y', ⟨⟨rfl, y', rfl, hw.trans (hs.win.wide (by omega) (by omega)), fun k => (rot_end (by omega) hs k).trans (hg k)⟩, rfl⟩, so_leafy y', rfl⟩
end Yt
