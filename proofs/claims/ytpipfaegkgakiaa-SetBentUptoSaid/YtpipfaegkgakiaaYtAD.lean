/- Tame sets. What is proved: contracts of the program's functions over abstract values, or plain facts on which these lean; the conditions stand in each theorem. -/
import Derived.Test.YtpipfaegkgakiaaYtAC
import Derived.Test.YtpipfaegkgakiaaYtY
set_option linter.all false
/-! Tame sets. -/
namespace Yt
open Go Go.Vc Go.Proofs
set_option maxRecDepth 10000
set_option maxHeartbeats 8000000
set_option linter.unusedSimpArgs false
set_option linter.unusedVariables false
@[go_sem] theorem cells_rowA {r : List V} {K : List AV → Prop} : cellsOf (rowA r) K = K [rowA r] := rfl
/-- A tame set, of items. -/
structure Tm (l z : List It) : Prop where
  made : Made z
  tot : ∀ r, tot r z = Yt.tot r (inp 100 (l.take 60))
  rows : ∀ t ∈ z, okR t.row = 0 ∧ ∃ u ∈ l, u.row = t.row
  len : z.length ≤ 60
  small : ∀ t ∈ z, -5940 ≤ t.w ∧ t.w ≤ 5940
theorem Tm.good {l z : List It} (h : Tm l z) : Good z := good_made.2 ⟨h.made, fun t ht => (h.rows t ht).1⟩
theorem s24 (l : List It) (hl : l.length ≤ 1048576) (hr : ∀ t ∈ l, t.row.length < 1073741824) :
    Spec1 Try.prog 24 [setA l] (fun r o => ∃ z : List It, r = .rf 0 0 z.length ∧ o = so z ∧ Tm l z) := by
  refine spec1_of_vc tabOk elems ord24 Try.func24 rfl (rl := [.tmp 2]) rfl (by kernel_rfl) rfl ?_
  (simp -implicitDefEqProofs only [go_sem, setA]; repeat (refine GO ?_; simp -implicitDefEqProofs only [go_sem, setA]))
  refine LOOP.join (ι := Unit) (fun _ => mkS [(3, .rf 1000 0 (inp 100 (l.take 60)).length)] [(1000, so (inp 100 (l.take 60)))] [1000]) ?_ (fun u => ?_)
  · refine LOOP.mk (ι := { i : Nat // i ≤ l.length ∧ i ≤ 60 }) (fun p => mkS [(0, setA l), (3, .rf 1000 0 (inp 100 (l.take p.1)).length), (4, iA p.1)] [(1000, so (inp 100 (l.take p.1)))] [1000])
      (fun p => l.length - p.1) ⟨0, Nat.zero_le _, Nat.zero_le _⟩ [(1000, none)] rfl rfl ?_ (fun p => ?_)
    · (simp -implicitDefEqProofs only [go_sem, setA, iA, so]; repeat (refine GO ?_; simp -implicitDefEqProofs only [go_sem, setA, iA, so]))
      exact ⟨id, ⟨rfl, rfl⟩, rfl⟩
    · obtain ⟨i, hi, hi2⟩ := p
      (simp -implicitDefEqProofs only [go_sem, setA, iA, so]; repeat (refine GO ?_; simp -implicitDefEqProofs only [go_sem, setA, iA, so]))
      refine VIF.split (fun h1 => ?_) (fun h1 => ?_)
      · have h1 : i < l.length := by simpa using h1
        (simp -implicitDefEqProofs only [go_sem]; repeat (refine GO ?_; simp -implicitDefEqProofs only [go_sem]))
        refine VIF.split (fun h2 => ?_) (fun h2 => ?_)
        · have h2 : i < 60 := by simp at h2; omega
          (simp -implicitDefEqProofs only [go_sem]; repeat (refine GO ?_; simp -implicitDefEqProofs only [go_sem]))
          refine EL.map h1 ?_
          (simp -implicitDefEqProofs only [go_sem, It.c]; repeat (refine GO ?_; simp -implicitDefEqProofs only [go_sem, It.c]))
          refine .pure _ (s17 l[i].row (by have := hr _ (List.getElem_mem h1); omega)) rfl fun q hq _ => ?_
          subst hq
          have hstep := inp_step (k := 100) h1
          have w1 := wrap_add1 (show i < 4611686018427387904 by omega)
          (simp -implicitDefEqProofs only [go_sem, iA]; repeat (refine GO ?_; simp -implicitDefEqProofs only [go_sem, iA]))
          refine VIF.split (fun h3 => ?_) (fun h3 => ?_)
          · rw [if_pos (show okB l[i] = true from h3)] at hstep
            (simp -implicitDefEqProofs only [go_sem]; repeat (refine GO ?_; simp -implicitDefEqProofs only [go_sem]))
            refine EL.map h1 ?_
            (simp -implicitDefEqProofs only [go_sem, It.c]; repeat (refine GO ?_; simp -implicitDefEqProofs only [go_sem, It.c]))
            refine EL.map h1 ?_
            (simp -implicitDefEqProofs only [go_sem, It.c, iA, w1]; repeat (refine GO ?_; simp -implicitDefEqProofs only [go_sem, It.c, iA, w1]))
            have hle := inp_len (k := 100) (l.take i)
            rw [List.length_take] at hle
            refine ⟨by decide, by omega, ?_⟩
            (simp -implicitDefEqProofs only [go_sem, w1]; repeat (refine GO ?_; simp -implicitDefEqProofs only [go_sem, w1]))
            have e1 : (List.map It.c (inp 100 (l.take i))).take (inp 100 (l.take i)).length ++ [[rowA l[i].row, iA (l[i].w.tmod 100)]] = List.map It.c (inp 100 (l.take (i + 1))) := by
              rw [List.take_of_length_le (by simp), hstep, List.map_append]; rfl
            refine BACK.mk ⟨i + 1, by omega, by omega⟩ [(1000, some 38)] rfl rfl (by show l.length - (i + 1) < l.length - i; omega) ?_
            (simp -implicitDefEqProofs only [go_sem, setA, iA, so, w1]; repeat (refine GO ?_; simp -implicitDefEqProofs only [go_sem, setA, iA, so, w1]))
            refine ⟨id, by rw [hstep]; simp, .same (so []) _ _ (fun x hx => so_leafy (inp 100 (l.take (i + 1))) x (by rw [so]; exact e1 ▸ hx)) e1⟩
          · rw [if_neg (show ¬ okB l[i] = true by simpa [okB] using h3), List.append_nil] at hstep
            (simp -implicitDefEqProofs only [go_sem, w1]; repeat (refine GO ?_; simp -implicitDefEqProofs only [go_sem, w1]))
            refine BACK.mk ⟨i + 1, by omega, by omega⟩ [(1000, some 1000)] rfl rfl (by show l.length - (i + 1) < l.length - i; omega) ?_
            (simp -implicitDefEqProofs only [go_sem, setA, iA, so, w1]; repeat (refine GO ?_; simp -implicitDefEqProofs only [go_sem, setA, iA, so, w1]))
            rw [hstep]
            exact ⟨id, rfl, .same (so (inp 100 (l.take i))) _ _ (so_leafy (inp 100 (l.take i))) rfl⟩
        · have h2 : i = 60 := by simp at h2; omega
          (simp -implicitDefEqProofs only [go_sem]; repeat (refine GO ?_; simp -implicitDefEqProofs only [go_sem]))
          subst h2
          refine JB.mk () [(1000, some 1000)] rfl rfl ?_
          (simp -implicitDefEqProofs only [go_sem, iA, so]; repeat (refine GO ?_; simp -implicitDefEqProofs only [go_sem, iA, so]))
          exact ⟨id, .same (so (inp 100 (l.take 60))) _ _ (so_leafy (inp 100 (l.take 60))) rfl⟩
      · have h1 : i = l.length := by simp at h1; omega
        (simp -implicitDefEqProofs only [go_sem]; repeat (refine GO ?_; simp -implicitDefEqProofs only [go_sem]))
        subst h1
        have e1 : l.take 60 = l.take l.length := by rw [List.take_of_length_le (by omega), List.take_of_length_le (by omega)]
        refine JB.mk () [(1000, some 1000)] rfl rfl ?_
        (simp -implicitDefEqProofs only [go_sem, iA, so, e1]; repeat (refine GO ?_; simp -implicitDefEqProofs only [go_sem, iA, so, e1]))
        exact ⟨id, .same (so (inp 100 (l.take l.length))) _ _ (so_leafy (inp 100 (l.take l.length))) rfl⟩
  · simp -implicitDefEqProofs only [go_sem, so]
    refine GO ?_
    simp -implicitDefEqProofs only [go_sem, so]
    have hzl : (inp 100 (l.take 60)).length ≤ 60 := by have := inp_len (k := 100) (l.take 60); simp at this; omega
    have hzr : ∀ t ∈ inp 100 (l.take 60), okR t.row = 0 ∧ ∃ u ∈ l, u.row = t.row := fun t ht => by
      obtain ⟨h1, u, hu, e⟩ := inp_row ht
      exact ⟨h1, u, List.mem_of_mem_take hu, e⟩
    have hzw : ∀ t ∈ inp 100 (l.take 60), -99 ≤ t.w ∧ t.w ≤ 99 := fun t ht => by
      have := inp_w (k := 100) (by decide) ht; omega
    have hzf := inp_fine (k := 100) (by decide) (by decide) (l.take 60)
    have hzb : ∀ r, -5940 ≤ tot r (inp 100 (l.take 60)) ∧ tot r (inp 100 (l.take 60)) ≤ 5940 := fun r => by
      have := tot_bound (k := 99) (by decide) hzw r
      omega
    have hzt : ∀ r, okW (tot r (inp 100 (l.take 60))) = true := fun r => by
      have := hzb r
      simp [okW, inB]; omega
    refine TO [] [(40, setA (inp 100 (l.take 60)))] [] [] rfl ?_ ?_
    · (simp -implicitDefEqProofs only [go_sem, setA, so]; repeat (refine GO ?_; simp -implicitDefEqProofs only [go_sem, setA, so]))
      exact ⟨id, by decide, _, rfl, so_leafy (inp 100 (l.take 60)), rfl, List.take_of_length_le (by simp)⟩
    (simp -implicitDefEqProofs only [go_sem, setA]; repeat (refine GO ?_; simp -implicitDefEqProofs only [go_sem, setA]))
    refine .make 41 _ (s26 (inp 100 (l.take 60)) (by omega) (fun t ht => by obtain ⟨_, u, hu, e⟩ := hzr t ht; have := hr u hu; rw [e] at this; exact this)) rfl (by simp) rfl fun q o hq _ => ?_
    obtain ⟨z, err, rfl, rfl, hm⟩ := hq
    obtain ⟨rfl, hmd, hmt, hms, hmlen⟩ := makeR_fine hm hzf hzt
    have htm : Tm l z := by
      refine ⟨hmd, hmt, fun t ht => ?_, by omega, fun t ht => ?_⟩
      · obtain ⟨h1, u, hu, e⟩ := hms t ht
        obtain ⟨_, v, hv, e2⟩ := hzr u hu
        exact ⟨h1, v, hv, e2.trans e⟩
      · rw [← tot_made hmd ht, hmt]; exact hzb _
    (simp -implicitDefEqProofs only [go_sem, iA]; repeat (refine GO ?_; simp -implicitDefEqProofs only [go_sem, iA]))
    refine FINmk [(0, some 41)] [(2, .rf 0 0 z.length)] [(0, so z)] [0] rfl ?_ ?_
    · (simp -implicitDefEqProofs only [go_sem, so]; repeat (refine GO ?_; simp -implicitDefEqProofs only [go_sem, so]))
      exact .same (so z) _ _ (so_leafy z) rfl
    · exact ⟨so z, ⟨⟨z, rfl, rfl, htm⟩, rfl⟩, so_leafy z, rfl⟩
end Yt
