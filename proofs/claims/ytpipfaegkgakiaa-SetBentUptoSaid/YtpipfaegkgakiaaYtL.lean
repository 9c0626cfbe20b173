/- What the laws leave aside; rows that are equal. What is proved: contracts of the program's functions over abstract values, or plain facts on which these lean; the conditions stand in each theorem. -/
import Derived.Test.YtpipfaegkgakiaaYtK
set_option linter.all false
/-! What the laws leave aside; rows that are equal. -/
namespace Yt
open Go Go.Vc Go.Proofs
set_option maxRecDepth 10000
set_option linter.unusedSimpArgs false
set_option linter.unusedVariables false
theorem any_take {α : Type} {p : α → Bool} {l : List α} {i : Nat} (h : ∀ j (hj : j < l.length), j < i → p l[j] = false) (hi : l.length ≤ i) : l.any p = false := by
  rw [List.any_eq_false]
  intro x hx
  obtain ⟨j, hj, rfl⟩ := List.mem_iff_getElem.1 hx
  simp [h j hj (by omega)]
theorem any_at {α : Type} {p : α → Bool} {l : List α} {i : Nat} (hi : i < l.length) (h : p l[i] = true) : l.any p = true := List.any_eq_true.2 ⟨_, List.getElem_mem hi, h⟩
theorem snoc_no {α : Type} {p : α → Bool} {l : List α} {i : Nat} (h : ∀ j (hj : j < l.length), j < i → p l[j] = false) (hi : i < l.length) (hp : p l[i] = false) : ∀ j (hj : j < l.length), j < i + 1 → p l[j] = false := by
  intro j hj hji
  by_cases e : j = i
  · subst e; exact hp
  · exact h j hj (by omega)
def longV (v : V) : Bool := decide (300 < (v.s.size : Int))
theorem s50 (a : List V) (ha : a.length < 4611686018427387904) : Spec0 Try.prog 50 [rowA a] (· = bA (a.any longV)) := by
  refine spec0_of_vc tabOk elems ord50 Try.func50 rfl (rl := [.tmp 2]) rfl (by kernel_rfl) rfl ?_
  (simp -implicitDefEqProofs only [go_sem, rowA]; repeat (refine GO ?_; simp -implicitDefEqProofs only [go_sem, rowA]))
  refine LOOP.mk (ι := { i : Nat // i ≤ a.length ∧ ∀ j (hj : j < a.length), j < i → longV a[j] = false }) (fun i => mkS [(0, rowA a), (3, iA i.1)] [] []) (fun i => a.length - i.1)
    ⟨0, by simp⟩ [] rfl rfl ?_ (fun i => ?_)
  · (simp -implicitDefEqProofs only [go_sem, rowA, iA]; repeat (refine GO ?_; simp -implicitDefEqProofs only [go_sem, rowA, iA]))
    simp
  · obtain ⟨i, hi, hz⟩ := i
    (simp -implicitDefEqProofs only [go_sem, rowA, iA]; repeat (refine GO ?_; simp -implicitDefEqProofs only [go_sem, rowA, iA]))
    refine VIF.split (fun h => ?_) (fun h => ?_)
    · simp only [decide_eq_true_eq] at h
      have hi' : i < a.length := by omega
      (simp -implicitDefEqProofs only [go_sem]; repeat (refine GO ?_; simp -implicitDefEqProofs only [go_sem]))
      refine EL.map hi' ?_
      (simp -implicitDefEqProofs only [go_sem, V.c]; repeat (refine GO ?_; simp -implicitDefEqProofs only [go_sem, V.c]))
      refine VIF.split (fun e => ?_) (fun e => ?_)
      · (simp -implicitDefEqProofs only [go_sem]; repeat (refine GO ?_; simp -implicitDefEqProofs only [go_sem]))
        rw [any_at hi' e]; rfl
      · (simp -implicitDefEqProofs only [go_sem]; repeat (refine GO ?_; simp -implicitDefEqProofs only [go_sem]))
        refine BACK.mk ⟨i + 1, hi', snoc_no hz hi' e⟩ [] rfl rfl (by show a.length - (i + 1) < a.length - i; omega) ?_
        (simp -implicitDefEqProofs only [go_sem, rowA, iA]; repeat (refine GO ?_; simp -implicitDefEqProofs only [go_sem, rowA, iA]))
        simp [wrap_succ hi' ha]
    · simp at h
      (simp -implicitDefEqProofs only [go_sem]; repeat (refine GO ?_; simp -implicitDefEqProofs only [go_sem]))
      rw [any_take hz h]; rfl
def heavyR (r : List V) : Bool := decide (40 < (r.length : Int)) || r.any longV
theorem s19 (a : List V) (ha : a.length < 4611686018427387904) : Spec0 Try.prog 19 [rowA a] (· = bA (heavyR a)) := by
  refine spec0_of_vc tabOk elems ord19 Try.func19 rfl (rl := [.tmp 2]) rfl (by kernel_rfl) rfl ?_
  (simp -implicitDefEqProofs only [go_sem, rowA]; repeat (refine GO ?_; simp -implicitDefEqProofs only [go_sem, rowA]))
  refine VIF.split (fun h => ?_) (fun h => ?_)
  · (simp -implicitDefEqProofs only [go_sem]; repeat (refine GO ?_; simp -implicitDefEqProofs only [go_sem]))
    simp only [heavyR, h]; rfl
  · (simp -implicitDefEqProofs only [go_sem]; repeat (refine GO ?_; simp -implicitDefEqProofs only [go_sem]))
    refine .pure _ (s50 a ha) rfl fun r hr _ => ?_
    subst hr
    (simp -implicitDefEqProofs only [go_sem, bA]; repeat (refine GO ?_; simp -implicitDefEqProofs only [go_sem, bA]))
    simp only [heavyR, h]; rfl
def heavyI (t : It) : Bool := heavyR t.row
def heavyS (z : List It) : Bool := decide (300 < (z.length : Int)) || z.any heavyI
def setsA (zs : List (List It)) : AV := .im 1 (zs.map fun z => [setA z])
theorem s10 (zs : List (List It)) (hl : zs.length < 4611686018427387904) (hz : ∀ z ∈ zs, z.length < 4611686018427387904) (hr : ∀ z ∈ zs, ∀ t ∈ z, t.row.length < 4611686018427387904) :
    Spec0 Try.prog 10 [setsA zs] (· = bA (zs.any heavyS)) := by
  refine spec0_of_vc tabOk elems ord10 Try.func10 rfl (rl := [.tmp 2]) rfl (by kernel_rfl) rfl ?_
  (simp -implicitDefEqProofs only [go_sem, setsA]; repeat (refine GO ?_; simp -implicitDefEqProofs only [go_sem, setsA]))
  refine LOOP.mk (ι := { i : Nat // i ≤ zs.length ∧ ∀ j (hj : j < zs.length), j < i → heavyS zs[j] = false }) (fun i => mkS [(0, setsA zs), (3, iA i.1)] [] []) (fun i => zs.length - i.1)
    ⟨0, by simp⟩ [] rfl rfl ?_ (fun i => ?_)
  · (simp -implicitDefEqProofs only [go_sem, setsA, iA]; repeat (refine GO ?_; simp -implicitDefEqProofs only [go_sem, setsA, iA]))
    simp
  · obtain ⟨i, hi, hd⟩ := i
    (simp -implicitDefEqProofs only [go_sem, setsA, iA]; repeat (refine GO ?_; simp -implicitDefEqProofs only [go_sem, setsA, iA]))
    refine VIF.split (fun h => ?_) (fun h => ?_)
    · simp only [decide_eq_true_eq] at h
      have hi' : i < zs.length := by omega
      have hzi := hz _ (List.getElem_mem hi')
      have hri := hr _ (List.getElem_mem hi')
      (simp -implicitDefEqProofs only [go_sem]; repeat (refine GO ?_; simp -implicitDefEqProofs only [go_sem]))
      refine EL.map hi' ?_
      (simp -implicitDefEqProofs only [go_sem, setA]; repeat (refine GO ?_; simp -implicitDefEqProofs only [go_sem, setA]))
      refine VIF.split (fun e => ?_) (fun e => ?_)
      · (simp -implicitDefEqProofs only [go_sem]; repeat (refine GO ?_; simp -implicitDefEqProofs only [go_sem]))
        rw [any_at hi' (by simp only [heavyS, e]; rfl)]; rfl
      · (simp -implicitDefEqProofs only [go_sem]; repeat (refine GO ?_; simp -implicitDefEqProofs only [go_sem]))
        refine LOOP.mk (ι := { j : Nat // j ≤ zs[i].length ∧ ∀ k (hk : k < zs[i].length), k < j → heavyI zs[i][k] = false }) (fun j => mkS [(0, setsA zs), (3, iA i), (4, iA j.1)] [] []) (fun j => zs[i].length - j.1)
          ⟨0, by simp⟩ [] rfl rfl ?_ (fun j => ?_)
        · (simp -implicitDefEqProofs only [go_sem, setsA, iA]; repeat (refine GO ?_; simp -implicitDefEqProofs only [go_sem, setsA, iA]))
          simp [setA]
        · obtain ⟨j, hj, hk⟩ := j
          (simp -implicitDefEqProofs only [go_sem, setsA, iA]; repeat (refine GO ?_; simp -implicitDefEqProofs only [go_sem, setsA, iA]))
          refine EL.map hi' ?_
          (simp -implicitDefEqProofs only [go_sem, setA]; repeat (refine GO ?_; simp -implicitDefEqProofs only [go_sem, setA]))
          refine VIF.split (fun h' => ?_) (fun h' => ?_)
          · simp only [decide_eq_true_eq] at h'
            have hj' : j < zs[i].length := by omega
            (simp -implicitDefEqProofs only [go_sem]; repeat (refine GO ?_; simp -implicitDefEqProofs only [go_sem]))
            refine EL.map hi' ?_
            (simp -implicitDefEqProofs only [go_sem, setA]; repeat (refine GO ?_; simp -implicitDefEqProofs only [go_sem, setA]))
            refine EL.map hj' ?_
            (simp -implicitDefEqProofs only [go_sem, It.c]; repeat (refine GO ?_; simp -implicitDefEqProofs only [go_sem, It.c]))
            refine .pure _ (s19 zs[i][j].row (hri _ (List.getElem_mem hj'))) rfl fun r hr _ => ?_
            subst hr
            (simp -implicitDefEqProofs only [go_sem, bA]; repeat (refine GO ?_; simp -implicitDefEqProofs only [go_sem, bA]))
            refine VIF.split (fun q => ?_) (fun q => ?_)
            · (simp -implicitDefEqProofs only [go_sem]; repeat (refine GO ?_; simp -implicitDefEqProofs only [go_sem]))
              rw [any_at hi' (by simp only [heavyS, any_at hj' (p := heavyI) q]; simp)]; rfl
            · (simp -implicitDefEqProofs only [go_sem]; repeat (refine GO ?_; simp -implicitDefEqProofs only [go_sem]))
              refine BACK.mk ⟨j + 1, hj', snoc_no hk hj' q⟩ [] rfl rfl (by show zs[i].length - (j + 1) < zs[i].length - j; omega) ?_
              (simp -implicitDefEqProofs only [go_sem, setsA, iA]; repeat (refine GO ?_; simp -implicitDefEqProofs only [go_sem, setsA, iA]))
              simp [wrap_succ hj' hzi, setA]
          · simp at h'
            (simp -implicitDefEqProofs only [go_sem]; repeat (refine GO ?_; simp -implicitDefEqProofs only [go_sem]))
            refine BACK.mk ⟨i + 1, hi', snoc_no hd hi' (by simp only [heavyS, e, any_take hk h']; rfl)⟩ [] rfl rfl (by show zs.length - (i + 1) < zs.length - i; omega) ?_
            (simp -implicitDefEqProofs only [go_sem, setsA, iA]; repeat (refine GO ?_; simp -implicitDefEqProofs only [go_sem, setsA, iA]))
            simp [wrap_succ hi' hl, setA]
    · simp at h
      (simp -implicitDefEqProofs only [go_sem]; repeat (refine GO ?_; simp -implicitDefEqProofs only [go_sem]))
      rw [any_take hd h]; rfl
end Yt
