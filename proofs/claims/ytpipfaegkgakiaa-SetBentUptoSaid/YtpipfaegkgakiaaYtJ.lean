/- Items: found, weighed. What is proved: contracts of the program's functions over abstract values, or plain facts on which these lean; the conditions stand in each theorem. -/
import Derived.Test.YtpipfaegkgakiaaYtI
set_option linter.all false
/-! Items: found, weighed. -/
namespace Yt
open Go Go.Vc Go.Proofs
set_option maxRecDepth 10000
set_option linter.unusedSimpArgs false
set_option linter.unusedVariables false
theorem s47 (g : Nat) (caps : List AV) (hc : noIds caps = true) (p : It → Bool) (B : It → Prop) (hg : ∀ t : It, B t → Spec0 Try.prog g (.ag t.c :: caps) (· = bA (p t))) (a : List It) (hB : ∀ t ∈ a, B t) (ha : a.length < 4611686018427387904) :
    Spec0 Try.prog 47 [setA a, .fn g caps] (· = idxA p a) := by
  refine spec0_of_vc tabOk elems ord47 Try.func47 rfl (rl := [.tmp 4]) rfl (by kernel_rfl) rfl ?_
  (simp -implicitDefEqProofs only [go_sem, setA]; repeat (refine GO ?_; simp -implicitDefEqProofs only [go_sem, setA]))
  refine LOOP.mk (ι := { i : Nat // i ≤ a.length ∧ ∀ j (hj : j < a.length), j < i → p a[j] = false }) (fun i => mkS [(0, setA a), (1, .fn g caps), (7, .pr (.int .i64 a.length)), (8, .pr (.int .i64 i.1))] [] []) (fun i => a.length - i.1)
    ⟨0, by simp⟩ [] rfl rfl ?_ (fun i => ?_)
  · (simp -implicitDefEqProofs only [go_sem, setA]; repeat (refine GO ?_; simp -implicitDefEqProofs only [go_sem, setA]))
    simp [wks_noId caps hc]
  · obtain ⟨i, hi, hz⟩ := i
    (simp -implicitDefEqProofs only [go_sem, setA]; repeat (refine GO ?_; simp -implicitDefEqProofs only [go_sem, setA]))
    refine ⟨fun h => ?_, fun h => ?_⟩
    · simp only [decide_eq_true_eq] at h
      have hi' : i < a.length := by omega
      (simp -implicitDefEqProofs only [go_sem]; repeat (refine GO ?_; simp -implicitDefEqProofs only [go_sem]))
      refine EL.map hi' ?_
      (simp -implicitDefEqProofs only [go_sem, It.c]; repeat (refine GO ?_; simp -implicitDefEqProofs only [go_sem, It.c]))
      refine .pure _ (hg a[i] (hB _ (List.getElem_mem _))) ?_ fun r hr _ => ?_
      · simp [noIds, AV.noId, It.c, hc, rowA, iA]
      subst hr
      (simp -implicitDefEqProofs only [go_sem, bA]; repeat (refine GO ?_; simp -implicitDefEqProofs only [go_sem, bA]))
      refine VIF.split (fun e => ?_) (fun e => ?_)
      · (simp -implicitDefEqProofs only [go_sem]; repeat (refine GO ?_; simp -implicitDefEqProofs only [go_sem]))
        simp [idxA, idxI, iA, idx_some hi' hz e]
      · (simp -implicitDefEqProofs only [go_sem]; repeat (refine GO ?_; simp -implicitDefEqProofs only [go_sem]))
        refine BACK.mk ⟨i + 1, hi', fun j hj hji => ?_⟩ [] rfl rfl (by show a.length - (i + 1) < a.length - i; omega) ?_
        · by_cases hji' : j = i
          · subst hji'; exact e
          · exact hz j hj (by omega)
        · (simp -implicitDefEqProofs only [go_sem, setA]; repeat (refine GO ?_; simp -implicitDefEqProofs only [go_sem, setA]))
          simp [wrap_succ hi' ha, wks_noId caps hc]
    · simp at h
      (simp -implicitDefEqProofs only [go_sem]; repeat (refine GO ?_; simp -implicitDefEqProofs only [go_sem]))
      simp [idxA, idxI, iA, idx_none fun j hj => hz j hj (by omega)]
theorem s34 (a : List It) (hB : ∀ t ∈ a, t.row.length < 4611686018427387904) (ha : a.length < 4611686018427387904) : Spec0 Try.prog 34 [setA a, .fn 35 []] (· = bA (a.any fun t => !okI t)) := by
  refine spec0_of_vc tabOk elems ord34 Try.func34 rfl (rl := [.tmp 4]) rfl (by kernel_rfl) rfl ?_
  (simp -implicitDefEqProofs only [go_sem, setA]; repeat (refine GO ?_; simp -implicitDefEqProofs only [go_sem, setA]))
  refine .pure _ (s47 35 [] rfl (fun t => !okI t) _ (fun t ht => s35 t ht) a hB ha) rfl fun r hr _ => ?_
  subst hr
  (simp -implicitDefEqProofs only [go_sem, idxA, iA]; repeat (refine GO ?_; simp -implicitDefEqProofs only [go_sem, idxA, iA]))
  rw [idx_any]; rfl
theorem s48 (t : It) (r : List V) (ht : t.row.length < 4611686018427387904) : Spec0 Try.prog 48 [.ag t.c, .ro [rowA r] 0] (· = bA (decide (cmpR t.row r = 0))) := by
  refine spec0_of_vc tabOk elems ord48 Try.func48 rfl (rl := [.tmp 3]) rfl (by kernel_rfl) rfl ?_
  (simp -implicitDefEqProofs only [go_sem, It.c, rowA, iA]; repeat (refine GO ?_; simp -implicitDefEqProofs only [go_sem, It.c, rowA, iA]))
  refine .pure _ (s13 t.row r ht) rfl fun r hr _ => ?_
  subst hr
  (simp -implicitDefEqProofs only [go_sem]; repeat (refine GO ?_; simp -implicitDefEqProofs only [go_sem]))
  rfl
/-- A row's weight in a set. -/
def wtI (z : List It) : Option Nat → Int
  | some i => (z[i]?.map (·.w)).getD 0
  | none => 0
def wt (r : List V) (z : List It) : Int := wtI z (z.findIdx? fun t => decide (cmpR t.row r = 0))
theorem s15 (z : List It) (r : List V) (hB : ∀ t ∈ z, t.row.length < 4611686018427387904) (ha : z.length < 4611686018427387904) : Spec0 Try.prog 15 [setA z, rowA r] (· = iA (wt r z)) := by
  refine spec0_of_vc tabOk elems ord15 Try.func15 rfl (rl := [.tmp 4]) rfl (by kernel_rfl) rfl ?_
  (simp -implicitDefEqProofs only [go_sem, setA, rowA]; repeat (refine GO ?_; simp -implicitDefEqProofs only [go_sem, setA, rowA]))
  refine .lendTo (s47 48 [.ro [rowA r] 0] rfl (fun t => decide (cmpR t.row r = 0)) _ (fun t ht => s48 t r ht) z hB ha) ?_ (by rintro _ rfl; rfl) fun r hr => ?_
  · (simp -implicitDefEqProofs only [go_sem, setA, rowA]; repeat (refine GO ?_; simp -implicitDefEqProofs only [go_sem, setA, rowA]))
  subst hr
  (simp -implicitDefEqProofs only [go_sem, idxA, iA]; repeat (refine GO ?_; simp -implicitDefEqProofs only [go_sem, idxA, iA]))
  simp only [wt]
  cases hf : z.findIdx? fun t => decide (cmpR t.row r = 0) with
  | none =>
    refine VIF.split (fun h => ?_) (fun h => ?_)
    · (simp -implicitDefEqProofs only [go_sem]; repeat (refine GO ?_; simp -implicitDefEqProofs only [go_sem]))
      simp [wtI, iA]
    · simp [idxI] at h
  | some i =>
    have hi : i < z.length := by rw [List.findIdx?_eq_some_iff_getElem] at hf; exact hf.1
    refine VIF.split (fun h => ?_) (fun h => ?_)
    · exact absurd (of_decide_eq_true h) (Int.not_lt.2 (Int.natCast_nonneg i))
    · (simp -implicitDefEqProofs only [go_sem, idxI]; repeat (refine GO ?_; simp -implicitDefEqProofs only [go_sem, idxI]))
      refine EL.map hi ?_
      (simp -implicitDefEqProofs only [go_sem, It.c, iA]; repeat (refine GO ?_; simp -implicitDefEqProofs only [go_sem, It.c, iA]))
      simp [wtI, iA, hi]
end Yt
