/- The page's sort. What is proved: contracts of the program's functions over abstract values, or plain facts on which these lean; the conditions stand in each theorem. -/
import Derived.Test.YtpipfaegkgakiaaYtAA
set_option linter.all false
/-! The page's sort. -/
namespace Yt
open Go Go.Vc Go.Proofs
set_option maxRecDepth 10000
set_option maxHeartbeats 4000000
set_option linter.unusedSimpArgs false
set_option linter.unusedVariables false
/-- In order. -/
def Srt (z : List It) : Prop := z.Pairwise fun a b => cI a b ≤ 0
theorem Srt.sr {z : List It} (h : Srt z) : SR cI z 0 z.length := by
  intro i j _ hij hj u v hu hv
  have hi : i < z.length := by omega
  rw [List.getElem?_eq_getElem hi] at hu
  rw [List.getElem?_eq_getElem hj] at hv
  cases hu; cases hv
  exact List.pairwise_iff_getElem.1 h i j hi hj hij
theorem cI_le_trans {a b c : It} (h : cI a b ≤ 0) (g : cI b c ≤ 0) : cI a c ≤ 0 := cmp_cI.trans _ _ _ h g
theorem cI_tot {a b : It} (h : ¬ cI a b ≤ 0) : cI b a ≤ 0 := by
  have := cI_neg a b
  omega
/-- What is merged so far, and what is left on both sides. -/
structure Mg (z o a b : List It) : Prop where
  perm : (o ++ a ++ b).Perm z
  so : Srt o
  sa : Srt a
  sb : Srt b
  la : ∀ x ∈ o, ∀ y ∈ a, cI x y ≤ 0
  lb : ∀ x ∈ o, ∀ y ∈ b, cI x y ≤ 0
theorem Mg.left {z o b : List It} {x : It} {a : List It} (h : Mg z o (x :: a) b) (hb : ∀ y ∈ b, cI x y ≤ 0) : Mg z (o ++ [x]) a b := by
  obtain ⟨h1, h2, h3, h4, h5, h6⟩ := h
  have h3 := List.pairwise_cons.1 h3
  refine ⟨by simpa using h1, ?_, h3.2, h4, ?_, ?_⟩
  · refine List.pairwise_append.2 ⟨h2, List.pairwise_singleton _ _, fun u hu v hv => ?_⟩
    rw [List.mem_singleton] at hv; subst hv
    exact h5 u hu v (by simp)
  · intro u hu v hv
    rcases List.mem_append.1 hu with hu | hu
    · exact h5 u hu v (by simp [hv])
    · rw [List.mem_singleton] at hu; subst hu; exact h3.1 v hv
  · intro u hu v hv
    rcases List.mem_append.1 hu with hu | hu
    · exact h6 u hu v hv
    · rw [List.mem_singleton] at hu; subst hu; exact hb v hv
theorem Mg.swap {z o a b : List It} (h : Mg z o a b) : Mg z o b a := by
  obtain ⟨h1, h2, h3, h4, h5, h6⟩ := h
  refine ⟨List.Perm.trans ?_ h1, h2, h4, h3, h6, h5⟩
  rw [List.append_assoc, List.append_assoc]
  exact List.Perm.append_left o List.perm_append_comm
theorem Mg.done {z o a b : List It} (h : Mg z o a b) (hn : a = [] ∨ b = []) : (o ++ a ++ b).Perm z ∧ Srt (o ++ a ++ b) := by
  obtain ⟨h1, h2, h3, h4, h5, h6⟩ := h
  refine ⟨h1, ?_⟩
  refine List.pairwise_append.2 ⟨List.pairwise_append.2 ⟨h2, h3, h5⟩, h4, fun u hu v hv => ?_⟩
  rcases hn with rfl | rfl
  · rw [List.append_nil] at hu; exact h6 u hu v hv
  · cases hv
theorem s54 : ∀ (n : Nat) (z : List It), z.length ≤ n → z.length ≤ 1048576 → (∀ t ∈ z, t.row.length < 4611686018427387904) → Spec0 Try.prog 54 [setA z] (fun r => ∃ y, r = setA y ∧ y.Perm z ∧ Srt y) := by
  intro n
  induction n with
  | zero =>
    intro z hz hl hr
    have : z = [] := List.eq_nil_of_length_eq_zero (by omega)
    subst this
    refine spec0_of_vc tabOk elems ord54 Try.func54 rfl (rl := [.tmp 2]) rfl (by kernel_rfl) rfl ?_
    (simp -implicitDefEqProofs only [go_sem, setA]; repeat (refine GO ?_; simp -implicitDefEqProofs only [go_sem, setA]))
    refine VIF.split (fun _ => ?_) (fun h => absurd h (by decide))
    (simp -implicitDefEqProofs only [go_sem, setA]; repeat (refine GO ?_; simp -implicitDefEqProofs only [go_sem, setA]))
    exact ⟨[], rfl, .refl _, .nil⟩
  | succ n ih =>
    intro z hz hl hr
    refine spec0_of_vc tabOk elems ord54 Try.func54 rfl (rl := [.tmp 2]) rfl (by kernel_rfl) rfl ?_
    (simp -implicitDefEqProofs only [go_sem, setA]; repeat (refine GO ?_; simp -implicitDefEqProofs only [go_sem, setA]))
    refine VIF.split (fun h => ?_) (fun h => ?_)
    · have h : z.length < 2 := by simp at h; omega
      (simp -implicitDefEqProofs only [go_sem, setA]; repeat (refine GO ?_; simp -implicitDefEqProofs only [go_sem, setA]))
      refine ⟨z, rfl, .refl _, ?_⟩
      match z, h with
      | [], _ => exact .nil
      | [x], _ => exact List.pairwise_singleton _ _
    · have h : 2 ≤ z.length := by simp at h; omega
      have w1 : (z.length : Int).tdiv 2 = ((z.length / 2 : Nat) : Int) := by
        rw [Int.tdiv_eq_ediv_of_nonneg (by omega)]; rfl
      have w2 : IntKind.i64.wrap ((z.length / 2 : Nat) : Int) = ((z.length / 2 : Nat) : Int) := by rw [wrap_i64] <;> omega
      have i0 : Int.toNat 0 = 0 := rfl
      have m1 : (z.map It.c).take (z.length / 2) = (z.take (z.length / 2)).map It.c := List.map_take.symm
      have m2 : ((z.map It.c).take z.length).drop (z.length / 2) = (z.drop (z.length / 2)).map It.c := by
        rw [List.take_of_length_le (by simp), List.map_drop]
      (simp -implicitDefEqProofs only [go_sem, w1, w2, i0, m1, m2]; repeat (refine GO ?_; simp -implicitDefEqProofs only [go_sem, w1, w2, i0, m1, m2]))
      refine ⟨by decide, by omega, by decide, by omega, ?_⟩
      refine .pure _ (ih (z.take (z.length / 2)) (by rw [List.length_take]; omega) (by rw [List.length_take]; omega) (fun t ht => hr t (List.mem_of_mem_take ht))) rfl fun q hq _ => ?_
      obtain ⟨a, rfl, pa, sa⟩ := hq
      (simp -implicitDefEqProofs only [go_sem, w1, w2, i0, m1, m2]; repeat (refine GO ?_; simp -implicitDefEqProofs only [go_sem, w1, w2, i0, m1, m2]))
      refine .pure _ (ih (z.drop (z.length / 2)) (by rw [List.length_drop]; omega) (by rw [List.length_drop]; omega) (fun t ht => hr t (List.mem_of_mem_drop ht))) rfl fun q hq _ => ?_
      obtain ⟨b, rfl, pb, sb⟩ := hq
      have start : Mg z [] a b := ⟨by
        rw [List.nil_append]
        exact (pa.append pb).trans (by rw [List.take_append_drop]), .nil, sa, sb, by simp, by simp⟩
      (simp -implicitDefEqProofs only [go_sem]; repeat (refine GO ?_; simp -implicitDefEqProofs only [go_sem]))
      refine LOOP.join (ι := { p : List It × List It × List It // Mg z p.1 p.2.1 p.2.2 ∧ (p.2.1 = [] ∨ p.2.2 = []) }) (fun p => mkS [(3, setA p.1.2.1), (4, setA p.1.2.2), (5, .rf 1000 0 p.1.1.length)] [(1000, so p.1.1)] [1000]) ?_ (fun p => ?_)
      · refine LOOP.mk (ι := { p : List It × List It × List It // Mg z p.1 p.2.1 p.2.2 }) (fun p => mkS [(3, setA p.1.2.1), (4, setA p.1.2.2), (5, .rf 1000 0 p.1.1.length)] [(1000, so p.1.1)] [1000])
          (fun p => p.1.2.1.length + p.1.2.2.length) ⟨([], a, b), start⟩ [(1000, none)] rfl rfl ?_ (fun p => ?_)
        · (simp -implicitDefEqProofs only [go_sem, so, setA]; repeat (refine GO ?_; simp -implicitDefEqProofs only [go_sem, so, setA]))
          exact ⟨id, rfl⟩
        · obtain ⟨⟨o, a, b⟩, mg⟩ := p
          simp only at mg
          have hlen : o.length + a.length + b.length = z.length := by have := mg.perm.length_eq; simp only [List.length_append] at this; exact this
          have hra : ∀ t ∈ a, t.row.length < 4611686018427387904 := fun t ht => hr t (mg.perm.mem_iff.1 (by simp [ht]))
          have hrb : ∀ t ∈ b, t.row.length < 4611686018427387904 := fun t ht => hr t (mg.perm.mem_iff.1 (by simp [ht]))
          (simp -implicitDefEqProofs only [go_sem, so, setA]; repeat (refine GO ?_; simp -implicitDefEqProofs only [go_sem, so, setA]))
          refine VIF.split (fun h1 => ?_) (fun h1 => ?_)
          · (simp -implicitDefEqProofs only [go_sem]; repeat (refine GO ?_; simp -implicitDefEqProofs only [go_sem]))
            refine VIF.split (fun h2 => ?_) (fun h2 => ?_)
            · match a, b, mg, hra, hrb, hlen, h1, h2 with
              | [], _, _, _, _, _, h1, _ => simp at h1
              | _ :: _, [], _, _, _, _, _, h2 => simp at h2
              | x :: a, y :: b, mg, hra, hrb, hlen, _, _ =>
                simp only [List.length_cons] at hlen
                (simp -implicitDefEqProofs only [go_sem]; repeat (refine GO ?_; simp -implicitDefEqProofs only [go_sem]))
                refine ⟨by omega, EL.map (show Int.toNat 0 < (x :: a).length by simp) ?_⟩
                (simp -implicitDefEqProofs only [go_sem, It.c]; repeat (refine GO ?_; simp -implicitDefEqProofs only [go_sem, It.c]))
                refine ⟨by omega, EL.map (show Int.toNat 0 < (y :: b).length by simp) ?_⟩
                (simp -implicitDefEqProofs only [go_sem, It.c]; repeat (refine GO ?_; simp -implicitDefEqProofs only [go_sem, It.c]))
                refine .pure _ (s55 x.row y.row (hra x (by simp)) (hrb y (by simp))) rfl fun q hq _ => ?_
                subst hq
                (simp -implicitDefEqProofs only [go_sem, iA]; repeat (refine GO ?_; simp -implicitDefEqProofs only [go_sem, iA]))
                refine VIF.split (fun h3 => ?_) (fun h3 => ?_)
                · have h3 : cI x y ≤ 0 := by simpa [cI] using h3
                  have mg2 := mg.left fun v hv => by
                    rcases List.mem_cons.1 hv with rfl | hv
                    · exact h3
                    · exact cI_le_trans h3 ((List.pairwise_cons.1 mg.sb).1 v hv)
                  (simp -implicitDefEqProofs only [go_sem]; repeat (refine GO ?_; simp -implicitDefEqProofs only [go_sem]))
                  refine ⟨by omega, EL.map (show Int.toNat 0 < (x :: a).length by simp) ?_⟩
                  (simp -implicitDefEqProofs only [go_sem, It.c]; repeat (refine GO ?_; simp -implicitDefEqProofs only [go_sem, It.c]))
                  refine ⟨by omega, by omega, ?_⟩
                  have e1 : (List.map It.c o).take o.length ++ [It.c x] = List.map It.c (o ++ [x]) := by
                    rw [List.take_of_length_le (by simp), List.map_append]; rfl
                  have e2 : List.drop 1 (List.take (a.length + 1) (List.map It.c (x :: a))) = List.map It.c a := by
                    rw [List.take_of_length_le (by simp)]; rfl
                  refine BACK.mk ⟨(o ++ [x], a, y :: b), mg2⟩ [(1000, some 45)] rfl rfl (by show a.length + (y :: b).length < (x :: a).length + (y :: b).length; simp) ?_
                  (simp -implicitDefEqProofs only [go_sem, so, setA]; repeat (refine GO ?_; simp -implicitDefEqProofs only [go_sem, so, setA]))
                  exact ⟨id, ⟨e2, by simp⟩, .same (so []) _ _ (fun u hu => so_leafy (o ++ [x]) u (by rw [so]; exact e1 ▸ hu)) e1⟩
                · have h3 : ¬ cI x y ≤ 0 := by simp at h3; simp only [cI]; omega
                  have h3 := cI_tot h3
                  have mg2 := (mg.swap.left fun v hv => by
                    rcases List.mem_cons.1 hv with rfl | hv
                    · exact h3
                    · exact cI_le_trans h3 ((List.pairwise_cons.1 mg.sa).1 v hv)).swap
                  (simp -implicitDefEqProofs only [go_sem]; repeat (refine GO ?_; simp -implicitDefEqProofs only [go_sem]))
                  refine ⟨by omega, EL.map (show Int.toNat 0 < (y :: b).length by simp) ?_⟩
                  (simp -implicitDefEqProofs only [go_sem, It.c]; repeat (refine GO ?_; simp -implicitDefEqProofs only [go_sem, It.c]))
                  refine ⟨by omega, by omega, ?_⟩
                  have e1 : (List.map It.c o).take o.length ++ [It.c y] = List.map It.c (o ++ [y]) := by
                    rw [List.take_of_length_le (by simp), List.map_append]; rfl
                  have e2 : List.drop 1 (List.take (b.length + 1) (List.map It.c (y :: b))) = List.map It.c b := by
                    rw [List.take_of_length_le (by simp)]; rfl
                  refine BACK.mk ⟨(o ++ [y], x :: a, b), mg2⟩ [(1000, some 53)] rfl rfl (by show (x :: a).length + b.length < (x :: a).length + (y :: b).length; simp) ?_
                  (simp -implicitDefEqProofs only [go_sem, so, setA]; repeat (refine GO ?_; simp -implicitDefEqProofs only [go_sem, so, setA]))
                  exact ⟨id, ⟨e2, by simp⟩, .same (so []) _ _ (fun u hu => so_leafy (o ++ [y]) u (by rw [so]; exact e1 ▸ hu)) e1⟩
            · have h2 : b = [] := by simpa using h2
              subst h2
              (simp -implicitDefEqProofs only [go_sem]; repeat (refine GO ?_; simp -implicitDefEqProofs only [go_sem]))
              refine JB.mk ⟨(o, a, []), mg, .inr rfl⟩ [(1000, some 1000)] rfl rfl ?_
              (simp -implicitDefEqProofs only [go_sem, so, setA]; repeat (refine GO ?_; simp -implicitDefEqProofs only [go_sem, so, setA]))
              exact ⟨id, .same (so o) _ _ (so_leafy o) rfl⟩
          · have h1 : a = [] := by simpa using h1
            subst h1
            (simp -implicitDefEqProofs only [go_sem]; repeat (refine GO ?_; simp -implicitDefEqProofs only [go_sem]))
            refine JB.mk ⟨(o, [], b), mg, .inl rfl⟩ [(1000, some 1000)] rfl rfl ?_
            (simp -implicitDefEqProofs only [go_sem, so, setA]; repeat (refine GO ?_; simp -implicitDefEqProofs only [go_sem, so, setA]))
            exact ⟨id, .same (so o) _ _ (so_leafy o) rfl⟩
      · obtain ⟨⟨o, a, b⟩, mg, hn⟩ := p
        simp only at mg hn
        have hlen : o.length + a.length + b.length = z.length := by have := mg.perm.length_eq; simp only [List.length_append] at this; exact this
        obtain ⟨hp, hs⟩ := mg.done hn
        simp -implicitDefEqProofs only [go_sem, so, setA]
        refine GO ?_
        simp -implicitDefEqProofs only [go_sem, so, setA]
        refine ⟨by omega, by omega, ?_⟩
        have e1 : List.take (o.length + a.length) (List.take o.length (List.map It.c o) ++ List.map It.c a) ++ List.map It.c b = List.map It.c (o ++ a ++ b) := by
          rw [List.take_of_length_le (l := List.map It.c o) (by simp), ← List.map_append, List.take_of_length_le (by simp), ← List.map_append]
        refine TO [] [(2, setA (o ++ a ++ b))] [] [] rfl ?_ ?_
        · (simp -implicitDefEqProofs only [go_sem, setA]; repeat (refine GO ?_; simp -implicitDefEqProofs only [go_sem, setA]))
          refine ⟨id, by decide, _, rfl, ?_, rfl, ?_⟩
          · rw [e1]; exact so_leafy (o ++ a ++ b)
          · rw [e1]; exact List.take_of_length_le (by simp; omega)
        (simp -implicitDefEqProofs only [go_sem, setA]; repeat (refine GO ?_; simp -implicitDefEqProofs only [go_sem, setA]))
        exact ⟨o ++ a ++ b, rfl, hp, hs⟩
end Yt
