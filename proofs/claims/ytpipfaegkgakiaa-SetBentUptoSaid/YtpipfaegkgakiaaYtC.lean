/- A stable sort, in place: what it leaves. What is proved: contracts of the program's functions over abstract values, or plain facts on which these lean; the conditions stand in each theorem. -/
import Derived.Test.YtpipfaegkgakiaaYtB
set_option linter.all false
/-! A stable sort, in place: what it leaves. -/
namespace Yt
open Go Go.Vc Go.Proofs
set_option maxRecDepth 10000
set_option linter.unusedSimpArgs false
set_option linter.unusedVariables false
def so (z : List It) : Ob := ⟨2, z.map It.c⟩
theorem so_leafy (z : List It) : (so z).leafy := by
  rw [so, leafy_do]
  exact leafs2_map fun x _ => by simp [It.c, leafs, rowA, iA, AV.leaf]
/-- Within [a, b) its items are exchanged; nothing else is touched. -/
structure Win (z z' : List It) (a b : Nat) : Prop where
  perm : z'.Perm z
  out : ∀ k, k < a ∨ b ≤ k → z'[k]? = z[k]?
  ins : ∀ k, a ≤ k → k < b → ∃ j, a ≤ j ∧ j < b ∧ z'[k]? = z[j]?
theorem Win.refl (z : List It) (a b : Nat) : Win z z a b := ⟨.refl _, fun _ _ => rfl, fun k h1 h2 => ⟨k, h1, h2, rfl⟩⟩
theorem Win.trans {x y z : List It} {a b : Nat} (h : Win x y a b) (g : Win y z a b) : Win x z a b := by
  refine ⟨g.perm.trans h.perm, fun k hk => (g.out k hk).trans (h.out k hk), fun k h1 h2 => ?_⟩
  obtain ⟨j, j1, j2, j3⟩ := g.ins k h1 h2
  obtain ⟨i, i1, i2, i3⟩ := h.ins j j1 j2
  exact ⟨i, i1, i2, j3.trans i3⟩
theorem Win.wide {x y : List It} {a b a' b' : Nat} (h : Win x y a b) (ha : a' ≤ a) (hb : b ≤ b') : Win x y a' b' := by
  refine ⟨h.perm, fun k hk => h.out k (by omega), fun k h1 h2 => ?_⟩
  by_cases hk : a ≤ k ∧ k < b
  · obtain ⟨j, j1, j2, j3⟩ := h.ins k hk.1 hk.2
    exact ⟨j, by omega, by omega, j3⟩
  · exact ⟨k, h1, h2, h.out k (by omega)⟩
theorem Win.len {x y : List It} {a b : Nat} (h : Win x y a b) : y.length = x.length := h.perm.length_eq
/-- Two items exchanged. -/
def swp (z : List It) (i j : Nat) (hi : i < z.length) (hj : j < z.length) : List It := (z.set i z[j]).set j z[i]
theorem swp_get {z : List It} {i j : Nat} (hi : i < z.length) (hj : j < z.length) (k : Nat) : (swp z i j hi hj)[k]? = if k = j then z[i]? else if k = i then z[j]? else z[k]? := by
  simp only [swp, List.getElem?_set, List.length_set]
  by_cases h1 : k = j
  · subst h1; simp [hj, hi]
  · have h1' : ¬ j = k := fun e => h1 e.symm
    rw [if_neg h1', if_neg h1]
    by_cases h2 : k = i
    · subst h2; simp [hi, hj]
    · have h2' : ¬ i = k := fun e => h2 e.symm
      rw [if_neg h2', if_neg h2]
theorem swp_win {z : List It} {i j a b : Nat} (hi : i < z.length) (hj : j < z.length) (h1 : a ≤ i) (h2 : i < b) (h3 : a ≤ j) (h4 : j < b) : Win z (swp z i j hi hj) a b := by
  refine ⟨?_, fun k hk => ?_, fun k k1 k2 => ?_⟩
  · exact List.set_set_perm hi hj
  · rw [swp_get, if_neg (by omega), if_neg (by omega)]
  · rw [swp_get]
    by_cases e1 : k = j
    · exact ⟨i, h1, h2, by rw [if_pos e1]⟩
    · by_cases e2 : k = i
      · exact ⟨j, h3, h4, by rw [if_neg e1, if_pos e2]⟩
      · exact ⟨k, k1, k2, by rw [if_neg e1, if_neg e2]⟩
theorem swp_map {z : List It} {i j : Nat} (hi : i < z.length) (hj : j < z.length) : ((z.map It.c).set i (It.c z[j])).set j (It.c z[i]) = (swp z i j hi hj).map It.c := by
  simp [swp, List.map_set]

theorem wrap_add {a b : Nat} (h : a + b < 4611686018427387904) : IntKind.i64.wrap ((a : Int) + (b : Int)) = ((a + b : Nat) : Int) := by rw [wrap_i64] <;> omega
theorem wrap_sub {a b : Nat} (h : b ≤ a) (h' : a < 4611686018427387904) : IntKind.i64.wrap ((a : Int) - (b : Int)) = ((a - b : Nat) : Int) := by rw [wrap_i64] <;> omega
theorem wrap_add1 {a : Nat} (h : a < 4611686018427387904) : IntKind.i64.wrap ((a : Int) + 1) = ((a + 1 : Nat) : Int) := by rw [wrap_i64] <;> omega
theorem wrap_sub1 {a : Nat} (h : 1 ≤ a) (h' : a < 4611686018427387904) : IntKind.i64.wrap ((a : Int) - 1) = ((a - 1 : Nat) : Int) := by rw [wrap_i64] <;> omega
/-- So many items from a on exchanged with those from b on. -/
structure Sw (z z' : List It) (a b n : Nat) : Prop where
  win : Win z z' a (b + n)
  get : ∀ k, z'[k]? = if a ≤ k ∧ k < a + n then z[k - a + b]? else if b ≤ k ∧ k < b + n then z[k - b + a]? else z[k]?
theorem Sw.zero (z : List It) (a b : Nat) : Sw z z a b 0 := ⟨.refl _ _ _, fun k => by rw [if_neg (by omega), if_neg (by omega)]⟩
theorem Sw.succ {z z' : List It} {a b n : Nat} (h : Sw z z' a b n) (hab : a + (n + 1) ≤ b) (ha : a + n < z'.length) (hb : b + n < z'.length) : Sw z (swp z' (a + n) (b + n) ha hb) a b (n + 1) := by
  refine ⟨(h.win.wide (Nat.le_refl _) (by omega)).trans (swp_win ha hb (by omega) (by omega) (by omega) (by omega)), fun k => ?_⟩
  rw [swp_get]
  by_cases e1 : k = b + n
  · rw [if_pos e1, h.get, if_neg (by omega), if_neg (by omega), if_neg (by omega), if_pos (by omega)]; congr 1; omega
  · rw [if_neg e1]
    by_cases e2 : k = a + n
    · rw [if_pos e2, h.get, if_neg (by omega), if_neg (by omega), if_pos (by omega)]; congr 1; omega
    · rw [if_neg e2, h.get]
      by_cases e3 : a ≤ k ∧ k < a + n
      · rw [if_pos e3, if_pos (by omega)]
      · by_cases e4 : b ≤ k ∧ k < b + n
        · rw [if_neg e3, if_pos e4, if_neg (by omega), if_pos (by omega)]
        · rw [if_neg e3, if_neg e4, if_neg (by omega), if_neg (by omega)]

theorem s76 (g : Nat) (z : List It) (a b n : Nat) (h1 : a + n ≤ b) (h2 : b + n ≤ z.length) (hl : z.length < 2305843009213693952) :
    SpecO Try.prog 76 [.rf 0 0 z.length, iA a, iA b, iA n, .fn g []] (so z) (fun r o' => r = .tu [] ∧ ∃ z', o' = so z' ∧ Sw z z' a b n) := by
  refine specO_of_vc tabOk elems ord76 Try.func76 rfl (rl := []) rfl (by kernel_rfl) rfl ?_
  (simp -implicitDefEqProofs only [go_sem, iA, so]; repeat (refine GO ?_; simp -implicitDefEqProofs only [go_sem, iA, so]))
  refine LOOP.mk (ι := { p : Nat × List It // p.1 ≤ n ∧ Sw z p.2 a b p.1 }) (fun p => mkS [(0, .rf 0 0 z.length), (1, iA a), (2, iA b), (3, iA n), (10, iA p.1.1)] [(0, so p.1.2)] [0]) (fun p => n - p.1.1)
    ⟨(0, z), by simp, .zero _ _ _⟩ [(0, some 0)] rfl rfl ?_ (fun p => ?_)
  · (simp -implicitDefEqProofs only [go_sem, iA, so]; repeat (refine GO ?_; simp -implicitDefEqProofs only [go_sem, iA, so]))
    exact ⟨rfl, .same (so z) _ _ (so_leafy z) rfl⟩
  · obtain ⟨⟨i, y⟩, hi, hs⟩ := p
    have hlen := hs.win.len
    simp only at hi hs hlen
    (simp -implicitDefEqProofs only [go_sem, iA, so]; repeat (refine GO ?_; simp -implicitDefEqProofs only [go_sem, iA, so]))
    refine VIF.split (fun h => ?_) (fun h => ?_)
    · simp only [decide_eq_true_eq] at h
      have hb : b + i < y.length := by omega
      have ha : a + i < y.length := by omega
      have w1 := wrap_add (show b + i < 4611686018427387904 by omega)
      have w2 := wrap_add (show a + i < 4611686018427387904 by omega)
      (simp -implicitDefEqProofs only [go_sem, w1, w2]; repeat (refine GO ?_; simp -implicitDefEqProofs only [go_sem, w1, w2]))
      refine ⟨by omega, EL.map hb ?_⟩
      (simp -implicitDefEqProofs only [go_sem, It.c, w1, w2]; repeat (refine GO ?_; simp -implicitDefEqProofs only [go_sem, It.c, w1, w2]))
      refine ⟨by omega, EL.map ha ?_⟩
      (simp -implicitDefEqProofs only [go_sem, It.c, w1, w2]; repeat (refine GO ?_; simp -implicitDefEqProofs only [go_sem, It.c, w1, w2]))
      refine ⟨by omega, EL.map ha ?_⟩
      (simp -implicitDefEqProofs only [go_sem, It.c, w1, w2]; repeat (refine GO ?_; simp -implicitDefEqProofs only [go_sem, It.c, w1, w2]))
      refine ⟨by omega, EL.setmap (by omega) hb ?_⟩
      (simp -implicitDefEqProofs only [go_sem, It.c, w1, w2]; repeat (refine GO ?_; simp -implicitDefEqProofs only [go_sem, It.c, w1, w2]))
      have w3 := wrap_add1 (show i < 4611686018427387904 by omega)
      refine BACK.mk ⟨(i + 1, swp y (a + i) (b + i) ha hb), by show i + 1 ≤ n; omega, hs.succ (by omega) ha hb⟩ [(0, some 0)] rfl rfl (by show n - (i + 1) < n - i; omega) ?_
      (simp -implicitDefEqProofs only [go_sem, iA, so, w3]; repeat (refine GO ?_; simp -implicitDefEqProofs only [go_sem, iA, so, w3]))
      exact .same (so (swp y (a + i) (b + i) ha hb)) _ _ (fun x hx => so_leafy (swp y (a + i) (b + i) ha hb) x (by rw [so, ← swp_map]; exact hx)) (swp_map ha hb)
    · simp at h
      have hin : i = n := by omega
      subst hin
      (simp -implicitDefEqProofs only [go_sem]; repeat (refine GO ?_; simp -implicitDefEqProofs only [go_sem]))
      refine FIN_O (o' := so y) rfl ?_ (so_leafy y) ?_
      · rfl
      · exact ⟨so y, ⟨⟨rfl, y, rfl, hs⟩, rfl⟩, so_leafy y, rfl⟩
end Yt
