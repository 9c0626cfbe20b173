/- The page's comparison of rows, its check of sets. What is proved: contracts of the program's functions over abstract values, or plain facts on which these lean; the conditions stand in each theorem. -/
import Derived.Test.YtpipfaegkgakiaaYtX
set_option linter.all false
/-! The page's comparison of rows, its check of sets. -/
namespace Yt
open Go Go.Vc Go.Proofs
set_option maxRecDepth 10000
set_option maxHeartbeats 4000000
set_option linter.unusedSimpArgs false
set_option linter.unusedVariables false
theorem s67 (b : Bool) : Spec0 Try.prog 67 [bA b] (· = iA (if b then -1 else 1)) := by
  refine spec0_of_vc tabOk elems ord67 Try.func67 rfl (rl := [.tmp 2]) rfl (by kernel_rfl) rfl ?_
  (simp -implicitDefEqProofs only [go_sem, bA]; repeat (refine GO ?_; simp -implicitDefEqProofs only [go_sem, bA]))
  refine VIF.split (fun h => ?_) (fun h => ?_)
  · subst h; (simp -implicitDefEqProofs only [go_sem]; repeat (refine GO ?_; simp -implicitDefEqProofs only [go_sem])); rfl
  · subst h; (simp -implicitDefEqProofs only [go_sem]; repeat (refine GO ?_; simp -implicitDefEqProofs only [go_sem])); rfl
theorem s66 (a b : V) : Spec0 Try.prog 66 [.ag a.c, .ag b.c] (· = iA (cmpV a b)) := by
  refine spec0_of_vc tabOk elems ord66 Try.func66 rfl (rl := [.tmp 4]) rfl (by kernel_rfl) rfl ?_
  (simp -implicitDefEqProofs only [go_sem, V.c]; repeat (refine GO ?_; simp -implicitDefEqProofs only [go_sem, V.c]))
  refine VIF.split (fun h => ?_) (fun h => ?_)
  · (simp -implicitDefEqProofs only [go_sem]; repeat (refine GO ?_; simp -implicitDefEqProofs only [go_sem]))
    refine .pure _ (s67 _) rfl fun q hq _ => ?_
    subst hq
    (simp -implicitDefEqProofs only [go_sem, iA]; repeat (refine GO ?_; simp -implicitDefEqProofs only [go_sem, iA]))
    have h : a.k ≠ b.k := by simpa using h
    by_cases h2 : a.k < b.k
    · simp [cmpV, nz, cmpI, h2]
    · have h3 : b.k < a.k := by omega
      simp [cmpV, nz, cmpI, h2, h3]
  · have h : a.k = b.k := by simpa using h
    (simp -implicitDefEqProofs only [go_sem]; repeat (refine GO ?_; simp -implicitDefEqProofs only [go_sem]))
    refine VIF.split (fun h2 => ?_) (fun h2 => ?_)
    · (simp -implicitDefEqProofs only [go_sem]; repeat (refine GO ?_; simp -implicitDefEqProofs only [go_sem]))
      refine .pure _ (s67 _) rfl fun q hq _ => ?_
      subst hq
      (simp -implicitDefEqProofs only [go_sem, iA]; repeat (refine GO ?_; simp -implicitDefEqProofs only [go_sem, iA]))
      have h2 : a.i ≠ b.i := by simpa using h2
      by_cases h3 : a.i < b.i
      · simp [cmpV, nz, cmpI, h, h3]
      · have h4 : b.i < a.i := by omega
        simp [cmpV, nz, cmpI, h, h3, h4]
    · have h2 : a.i = b.i := by simpa using h2
      (simp -implicitDefEqProofs only [go_sem]; repeat (refine GO ?_; simp -implicitDefEqProofs only [go_sem]))
      refine VIF.split (fun h3 => ?_) (fun h3 => ?_)
      · (simp -implicitDefEqProofs only [go_sem]; repeat (refine GO ?_; simp -implicitDefEqProofs only [go_sem]))
        refine .pure _ (s67 _) rfl fun q hq _ => ?_
        subst hq
        (simp -implicitDefEqProofs only [go_sem, iA]; repeat (refine GO ?_; simp -implicitDefEqProofs only [go_sem, iA]))
        have h3 : a.s ≠ b.s := by simpa using h3
        by_cases h4 : Op.bytesLess a.s.toList b.s.toList = true
        · simp [cmpV, nz, cmpI, cmpS, h, h2, h4]
        · simp [cmpV, nz, cmpI, cmpS, h, h2, h4, h3]
      · have h3 : a.s = b.s := by simpa using h3
        (simp -implicitDefEqProofs only [go_sem]; repeat (refine GO ?_; simp -implicitDefEqProofs only [go_sem]))
        have h5 := lin_cmpS.self b.s
        simp [iA, cmpV, nz, cmpI, h, h2, h3, h5]
theorem cmpR_step (a b : List V) (i : Nat) (ha : i < a.length) (hb : i < b.length) : cmpR (a.drop i) (b.drop i) = if cmpV a[i] b[i] = 0 then cmpR (a.drop (i + 1)) (b.drop (i + 1)) else cmpV a[i] b[i] := by
  rw [List.drop_eq_getElem_cons ha, List.drop_eq_getElem_cons hb]; rfl
theorem s55 (a b : List V) (ha : a.length < 4611686018427387904) (hb : b.length < 4611686018427387904) : Spec0 Try.prog 55 [rowA a, rowA b] (· = iA (cmpR a b)) := by
  refine spec0_of_vc tabOk elems ord55 Try.func55 rfl (rl := [.tmp 4]) rfl (by kernel_rfl) rfl ?_
  (simp -implicitDefEqProofs only [go_sem, rowA]; repeat (refine GO ?_; simp -implicitDefEqProofs only [go_sem, rowA]))
  refine LOOP.join (ι := { u : Unit // cmpR a b = if a.length = b.length then 0 else if a.length < b.length then -1 else 1 }) (fun _ => mkS [(0, rowA a), (1, rowA b)] [] []) ?_ (fun u => ?_)
  · refine LOOP.mk (ι := { i : Nat // i ≤ a.length ∧ i ≤ b.length ∧ cmpR a b = cmpR (a.drop i) (b.drop i) }) (fun p => mkS [(0, rowA a), (1, rowA b), (5, iA p.1)] [] [])
      (fun p => a.length - p.1) ⟨0, Nat.zero_le _, Nat.zero_le _, rfl⟩ [] rfl rfl ?_ (fun p => ?_)
    · (simp -implicitDefEqProofs only [go_sem, rowA, iA]; repeat (refine GO ?_; simp -implicitDefEqProofs only [go_sem, rowA, iA]))
      exact ⟨id, rfl⟩
    · obtain ⟨i, hi, hi2, he⟩ := p
      have w3 := wrap_add1 (show i < 4611686018427387904 by omega)
      (simp -implicitDefEqProofs only [go_sem, rowA, iA]; repeat (refine GO ?_; simp -implicitDefEqProofs only [go_sem, rowA, iA]))
      refine VIF.split (fun h => ?_) (fun h => ?_)
      · have h : i < a.length := by simpa using h
        (simp -implicitDefEqProofs only [go_sem]; repeat (refine GO ?_; simp -implicitDefEqProofs only [go_sem]))
        refine VIF.split (fun h2 => ?_) (fun h2 => ?_)
        · have h2 : i < b.length := by simpa using h2
          have hst := cmpR_step a b i h h2
          (simp -implicitDefEqProofs only [go_sem]; repeat (refine GO ?_; simp -implicitDefEqProofs only [go_sem]))
          refine EL.map h ?_
          (simp -implicitDefEqProofs only [go_sem, V.c]; repeat (refine GO ?_; simp -implicitDefEqProofs only [go_sem, V.c]))
          refine EL.map h2 ?_
          (simp -implicitDefEqProofs only [go_sem, V.c]; repeat (refine GO ?_; simp -implicitDefEqProofs only [go_sem, V.c]))
          refine .pure _ (s66 a[i] b[i]) rfl fun q hq _ => ?_
          subst hq
          (simp -implicitDefEqProofs only [go_sem, iA]; repeat (refine GO ?_; simp -implicitDefEqProofs only [go_sem, iA]))
          refine VIF.split (fun h3 => ?_) (fun h3 => ?_)
          · have h3 : cmpV a[i] b[i] ≠ 0 := by simpa using h3
            (simp -implicitDefEqProofs only [go_sem]; repeat (refine GO ?_; simp -implicitDefEqProofs only [go_sem]))
            rw [he, hst, if_neg h3]; rfl
          · have h3 : cmpV a[i] b[i] = 0 := by simpa using h3
            rw [if_pos h3] at hst
            (simp -implicitDefEqProofs only [go_sem, w3]; repeat (refine GO ?_; simp -implicitDefEqProofs only [go_sem, w3]))
            refine BACK.mk ⟨i + 1, by omega, by omega, he.trans hst⟩ [] rfl rfl (by show a.length - (i + 1) < a.length - i; omega) ?_
            (simp -implicitDefEqProofs only [go_sem, rowA, iA, w3]; repeat (refine GO ?_; simp -implicitDefEqProofs only [go_sem, rowA, iA, w3]))
            exact id
        · have h2 : i = b.length := by simp at h2; omega
          (simp -implicitDefEqProofs only [go_sem]; repeat (refine GO ?_; simp -implicitDefEqProofs only [go_sem]))
          refine JB.mk ⟨(), ?_⟩ [] rfl rfl ?_
          · rw [he, h2, List.drop_length, List.drop_eq_getElem_cons (by omega), if_neg (by omega), if_neg (by omega)]; rfl
          · (simp -implicitDefEqProofs only [go_sem, rowA]; repeat (refine GO ?_; simp -implicitDefEqProofs only [go_sem, rowA]))
            exact id
      · have h : i = a.length := by simp at h; omega
        (simp -implicitDefEqProofs only [go_sem]; repeat (refine GO ?_; simp -implicitDefEqProofs only [go_sem]))
        refine JB.mk ⟨(), ?_⟩ [] rfl rfl ?_
        · rw [he, h, List.drop_length]
          by_cases h2 : a.length = b.length
          · rw [if_pos h2, h2, List.drop_length]; rfl
          · rw [if_neg h2, List.drop_eq_getElem_cons (by omega), if_pos (by omega)]; rfl
        · (simp -implicitDefEqProofs only [go_sem, rowA]; repeat (refine GO ?_; simp -implicitDefEqProofs only [go_sem, rowA]))
          exact id
  · obtain ⟨u, he⟩ := u
    (simp -implicitDefEqProofs only [go_sem, rowA]; repeat (refine GO ?_; simp -implicitDefEqProofs only [go_sem, rowA]))
    refine VIF.split (fun h => ?_) (fun h => ?_)
    · have h : a.length ≠ b.length := by simp at h; omega
      (simp -implicitDefEqProofs only [go_sem]; repeat (refine GO ?_; simp -implicitDefEqProofs only [go_sem]))
      refine .pure _ (s67 _) rfl fun q hq _ => ?_
      subst hq
      (simp -implicitDefEqProofs only [go_sem, iA]; repeat (refine GO ?_; simp -implicitDefEqProofs only [go_sem, iA]))
      rw [he, if_neg h]
      simp
    · have h : a.length = b.length := by simp at h; omega
      (simp -implicitDefEqProofs only [go_sem]; repeat (refine GO ?_; simp -implicitDefEqProofs only [go_sem]))
      rw [he, if_pos h]; rfl
theorem s52 (a : List V) (hl : a.length ≤ 1073741824) : Spec1 Try.prog 52 [rowA a] (fun r o => r = .rf 0 0 a.length ∧ o = ro3 a) := by
  refine spec1_of_vc tabOk elems ord52 Try.func52 rfl (rl := [.tmp 2]) rfl (by kernel_rfl) rfl ?_
  (simp -implicitDefEqProofs only [go_sem, rowA]; repeat (refine GO ?_; simp -implicitDefEqProofs only [go_sem, rowA]))
  refine ⟨by omega, ?_⟩
  refine FINmk [(0, some 6)] [(2, .rf 0 0 a.length)] [(0, ro3 a)] [0] rfl ?_ ?_
  · (simp -implicitDefEqProofs only [go_sem, ro3]; repeat (refine GO ?_; simp -implicitDefEqProofs only [go_sem, ro3]))
    exact .same (ro3 a) _ _ (ro3_leafy a) rfl
  · exact ⟨ro3 a, ⟨⟨rfl, rfl⟩, rfl⟩, ro3_leafy a, rfl⟩
theorem s30 (z : List It) (hl : z.length < 4611686018427387904) (hr : ∀ t ∈ z, t.row.length < 4611686018427387904) :
    Spec0 Try.prog 30 [setA z] (fun r => ∃ e : Bool, r = bA e ∧ (e = true ↔ Good z)) := by
  refine spec0_of_vc tabOk elems ord30 Try.func30 rfl (rl := [.tmp 2]) rfl (by kernel_rfl) rfl ?_
  (simp -implicitDefEqProofs only [go_sem, setA]; repeat (refine GO ?_; simp -implicitDefEqProofs only [go_sem, setA]))
  refine LOOP.mk (ι := { i : Nat // i ≤ z.length ∧ ∀ j (h : j < z.length), j < i → Goo z j h }) (fun p => mkS [(0, .im 2 (z.map It.c)), (3, iA p.1)] [] [])
    (fun p => z.length - p.1) ⟨0, Nat.zero_le _, fun j _ h => absurd h (Nat.not_lt_zero _)⟩ [] rfl rfl ?_ (fun p => ?_)
  · (simp -implicitDefEqProofs only [go_sem, iA]; repeat (refine GO ?_; simp -implicitDefEqProofs only [go_sem, iA]))
    exact ⟨id, rfl⟩
  · obtain ⟨i, hi, hg⟩ := p
    (simp -implicitDefEqProofs only [go_sem, iA]; repeat (refine GO ?_; simp -implicitDefEqProofs only [go_sem, iA]))
    refine VIF.split (fun h => ?_) (fun h => ?_)
    · have h : i < z.length := by simpa using h
      have bad : ¬ Goo z i h → ∃ e : Bool, AV.pr (Value.bool false) = bA e ∧ (e = true ↔ Good z) := fun hn =>
        ⟨false, rfl, fun h => absurd h (by decide), fun g => absurd (g i h) hn⟩
      have w3 := wrap_add1 (show i < 4611686018427387904 by omega)
      (simp -implicitDefEqProofs only [go_sem]; repeat (refine GO ?_; simp -implicitDefEqProofs only [go_sem]))
      refine EL.map h ?_
      (simp -implicitDefEqProofs only [go_sem, It.c]; repeat (refine GO ?_; simp -implicitDefEqProofs only [go_sem, It.c]))
      refine .pure _ (s17 z[i].row (hr _ (List.getElem_mem h))) rfl fun r hr' _ => ?_
      subst hr'
      (simp -implicitDefEqProofs only [go_sem, iA]; repeat (refine GO ?_; simp -implicitDefEqProofs only [go_sem, iA]))
      refine VIF.split (fun h1 => ?_) (fun h1 => ?_)
      · have h1 : okR z[i].row ≠ 0 := by simpa using h1
        (simp -implicitDefEqProofs only [go_sem]; repeat (refine GO ?_; simp -implicitDefEqProofs only [go_sem]))
        exact bad fun g => h1 (by have := g.ok; simp [okI] at this; exact this.1)
      · have h1 : okR z[i].row = 0 := by simpa using h1
        (simp -implicitDefEqProofs only [go_sem]; repeat (refine GO ?_; simp -implicitDefEqProofs only [go_sem]))
        refine EL.map h ?_
        (simp -implicitDefEqProofs only [go_sem, It.c, iA]; repeat (refine GO ?_; simp -implicitDefEqProofs only [go_sem, It.c, iA]))
        refine VIF.split (fun h2 => ?_) (fun h2 => ?_)
        · have h2 : z[i].w = 0 := by simpa using h2
          (simp -implicitDefEqProofs only [go_sem]; repeat (refine GO ?_; simp -implicitDefEqProofs only [go_sem]))
          exact bad fun g => g.nz h2
        · have h2 : z[i].w ≠ 0 := by simpa using h2
          (simp -implicitDefEqProofs only [go_sem]; repeat (refine GO ?_; simp -implicitDefEqProofs only [go_sem]))
          refine EL.map h ?_
          (simp -implicitDefEqProofs only [go_sem, It.c, iA]; repeat (refine GO ?_; simp -implicitDefEqProofs only [go_sem, It.c, iA]))
          refine .pure _ (s53 z[i].w (-72057594037927936) 72057594037927936) rfl fun r hr' _ => ?_
          subst hr'
          (simp -implicitDefEqProofs only [go_sem, bA]; repeat (refine GO ?_; simp -implicitDefEqProofs only [go_sem, bA]))
          refine VIF.split (fun h3 => ?_) (fun h3 => ?_)
          · have h3 : okW z[i].w = false := by simpa [okW] using h3
            (simp -implicitDefEqProofs only [go_sem]; repeat (refine GO ?_; simp -implicitDefEqProofs only [go_sem]))
            exact bad fun g => by have := g.ok; simp [okI, h3] at this
          · have h3 : okW z[i].w = true := by simpa [okW] using h3
            have hok : okI z[i] = true := by simp [okI, h1, h3]
            (simp -implicitDefEqProofs only [go_sem]; repeat (refine GO ?_; simp -implicitDefEqProofs only [go_sem]))
            refine VIF.split (fun h4 => ?_) (fun h4 => ?_)
            · have h4 : 0 < i := by simp at h4; omega
              have w1 := wrap_sub1 (show 1 ≤ i from h4) (by omega)
              (simp -implicitDefEqProofs only [go_sem, w1]; repeat (refine GO ?_; simp -implicitDefEqProofs only [go_sem, w1]))
              refine EL.map (show i - 1 < z.length by omega) ?_
              (simp -implicitDefEqProofs only [go_sem, It.c]; repeat (refine GO ?_; simp -implicitDefEqProofs only [go_sem, It.c]))
              refine EL.map h ?_
              (simp -implicitDefEqProofs only [go_sem, It.c]; repeat (refine GO ?_; simp -implicitDefEqProofs only [go_sem, It.c]))
              refine .pure _ (s55 z[i - 1].row z[i].row (hr _ (List.getElem_mem _)) (hr _ (List.getElem_mem _))) rfl fun r hr' _ => ?_
              subst hr'
              (simp -implicitDefEqProofs only [go_sem, iA]; repeat (refine GO ?_; simp -implicitDefEqProofs only [go_sem, iA]))
              refine VIF.split (fun h5 => ?_) (fun h5 => ?_)
              · have h5 : 0 ≤ cI z[i - 1] z[i] := by simpa [cI] using h5
                (simp -implicitDefEqProofs only [go_sem]; repeat (refine GO ?_; simp -implicitDefEqProofs only [go_sem]))
                exact bad fun g => by have := g.up h4; omega
              · have h5 : cI z[i - 1] z[i] < 0 := by simpa [cI] using h5
                (simp -implicitDefEqProofs only [go_sem, w3]; repeat (refine GO ?_; simp -implicitDefEqProofs only [go_sem, w3]))
                refine BACK.mk ⟨i + 1, by omega, fun j hj hji => ?_⟩ [] rfl rfl (by show z.length - (i + 1) < z.length - i; omega) ?_
                · by_cases e : j = i
                  · subst e; exact ⟨hok, h2, fun _ => h5⟩
                  · exact hg j hj (by omega)
                · (simp -implicitDefEqProofs only [go_sem, iA, w3]; repeat (refine GO ?_; simp -implicitDefEqProofs only [go_sem, iA, w3]))
                  exact id
            · have h4 : i = 0 := by simp at h4; omega
              (simp -implicitDefEqProofs only [go_sem, w3]; repeat (refine GO ?_; simp -implicitDefEqProofs only [go_sem, w3]))
              refine BACK.mk ⟨i + 1, by omega, fun j hj hji => ?_⟩ [] rfl rfl (by show z.length - (i + 1) < z.length - i; omega) ?_
              · have e : j = i := by omega
                subst e; exact ⟨hok, h2, fun h0 => absurd h0 (by omega)⟩
              · (simp -implicitDefEqProofs only [go_sem, iA, w3]; repeat (refine GO ?_; simp -implicitDefEqProofs only [go_sem, iA, w3]))
                exact id
    · have h : i = z.length := by simp at h; omega
      (simp -implicitDefEqProofs only [go_sem]; repeat (refine GO ?_; simp -implicitDefEqProofs only [go_sem]))
      exact ⟨true, rfl, fun _ j hj => hg j hj (by omega), fun _ => rfl⟩
end Yt
