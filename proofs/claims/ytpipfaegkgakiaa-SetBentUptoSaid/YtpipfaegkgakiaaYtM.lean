/- Rows that are equal; sets that may be. What is proved: contracts of the program's functions over abstract values, or plain facts on which these lean; the conditions stand in each theorem. -/
import Derived.Test.YtpipfaegkgakiaaYtL
set_option linter.all false
/-! Rows that are equal; sets that may be. -/
namespace Yt
open Go Go.Vc Go.Proofs
set_option maxRecDepth 10000
set_option linter.unusedSimpArgs false
set_option linter.unusedVariables false
theorem eqV_iff {a b : V} : eqV a b = true ↔ a = b := by
  obtain ⟨k, i, s⟩ := a; obtain ⟨k', i', s'⟩ := b
  simp [eqV, V.mk.injEq, and_assoc]
theorem s14 (a b : List V) (ha : a.length < 4611686018427387904) : Spec0 Try.prog 14 [rowA a, rowA b] (fun r => ∃ e : Bool, r = bA e ∧ (e = true ↔ a = b)) := by
  refine spec0_of_vc tabOk elems ord14 Try.func14 rfl (rl := [.tmp 4]) rfl (by kernel_rfl) rfl ?_
  (simp -implicitDefEqProofs only [go_sem, rowA]; repeat (refine GO ?_; simp -implicitDefEqProofs only [go_sem, rowA]))
  refine VIF.split (fun h => ?_) (fun h => ?_)
  · (simp -implicitDefEqProofs only [go_sem]; repeat (refine GO ?_; simp -implicitDefEqProofs only [go_sem]))
    simp at h
    exact ⟨false, rfl, by simp; intro e; subst e; exact h rfl⟩
  · simp at h
    (simp -implicitDefEqProofs only [go_sem]; repeat (refine GO ?_; simp -implicitDefEqProofs only [go_sem]))
    refine LOOP.mk (ι := { i : Nat // i ≤ a.length ∧ ∀ j (h1 : j < a.length) (h2 : j < b.length), j < i → a[j] = b[j] }) (fun i => mkS [(0, rowA a), (1, rowA b), (5, iA i.1)] [] []) (fun i => a.length - i.1)
      ⟨0, by simp⟩ [] rfl rfl ?_ (fun i => ?_)
    · (simp -implicitDefEqProofs only [go_sem, rowA, iA]; repeat (refine GO ?_; simp -implicitDefEqProofs only [go_sem, rowA, iA]))
      simp
    · obtain ⟨i, hi, hz⟩ := i
      (simp -implicitDefEqProofs only [go_sem, rowA, iA]; repeat (refine GO ?_; simp -implicitDefEqProofs only [go_sem, rowA, iA]))
      refine VIF.split (fun g => ?_) (fun g => ?_)
      · simp only [decide_eq_true_eq] at g
        have hi' : i < a.length := by omega
        have hb' : i < b.length := by omega
        (simp -implicitDefEqProofs only [go_sem]; repeat (refine GO ?_; simp -implicitDefEqProofs only [go_sem]))
        refine EL.map hi' ?_
        (simp -implicitDefEqProofs only [go_sem, V.c]; repeat (refine GO ?_; simp -implicitDefEqProofs only [go_sem, V.c]))
        refine EL.map hb' ?_
        (simp -implicitDefEqProofs only [go_sem, V.c]; repeat (refine GO ?_; simp -implicitDefEqProofs only [go_sem, V.c]))
        refine .pure _ (s46 a[i] b[i]) rfl fun r hr _ => ?_
        subst hr
        (simp -implicitDefEqProofs only [go_sem, bA]; repeat (refine GO ?_; simp -implicitDefEqProofs only [go_sem, bA]))
        refine VIF.split (fun e => ?_) (fun e => ?_)
        · (simp -implicitDefEqProofs only [go_sem]; repeat (refine GO ?_; simp -implicitDefEqProofs only [go_sem]))
          refine ⟨false, rfl, by simp; intro h'; subst h'; simp [eqV_iff.2 rfl] at e⟩
        · (simp -implicitDefEqProofs only [go_sem]; repeat (refine GO ?_; simp -implicitDefEqProofs only [go_sem]))
          have e' : a[i] = b[i] := eqV_iff.1 (by simpa using e)
          refine BACK.mk ⟨i + 1, hi', fun j h1 h2 hj => ?_⟩ [] rfl rfl (by show a.length - (i + 1) < a.length - i; omega) ?_
          · by_cases hji : j = i
            · subst hji; exact e'
            · exact hz j h1 h2 (by omega)
          · (simp -implicitDefEqProofs only [go_sem, rowA, iA]; repeat (refine GO ?_; simp -implicitDefEqProofs only [go_sem, rowA, iA]))
            simp [wrap_succ hi' ha]
      · simp at g
        (simp -implicitDefEqProofs only [go_sem]; repeat (refine GO ?_; simp -implicitDefEqProofs only [go_sem]))
        refine ⟨true, rfl, by simp; exact List.ext_getElem (by omega) fun j h1 h2 => hz j h1 h2 (by omega)⟩
end Yt
