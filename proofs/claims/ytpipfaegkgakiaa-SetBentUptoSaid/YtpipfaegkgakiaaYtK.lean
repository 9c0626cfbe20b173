/- Copies; sums that are kept in two parts. What is proved: contracts of the program's functions over abstract values, or plain facts on which these lean; the conditions stand in each theorem. -/
import Derived.Test.YtpipfaegkgakiaaYtJ
set_option linter.all false
/-! Copies; sums that are kept in two parts. -/
namespace Yt
open Go Go.Vc Go.Proofs
set_option maxRecDepth 10000
set_option linter.unusedSimpArgs false
set_option linter.unusedVariables false
theorem s38 (z : List It) (hl : z.length ≤ 1073741824) : Spec1 Try.prog 38 [setA z] (fun r o => r = .rf 0 0 z.length ∧ o = so z) := by
  refine spec1_of_vc tabOk elems ord38 Try.func38 rfl (rl := [.tmp 2]) rfl (by kernel_rfl) rfl ?_
  (simp -implicitDefEqProofs only [go_sem, setA]; repeat (refine GO ?_; simp -implicitDefEqProofs only [go_sem, setA]))
  refine ⟨⟨_, rfl⟩, fun b hb => ?_⟩
  refine VIF.split (fun h => ?_) (fun h => ?_)
  · have hz : z = [] := by simpa using hb (by simpa using h)
    subst hz
    (simp -implicitDefEqProofs only [go_sem]; repeat (refine GO ?_; simp -implicitDefEqProofs only [go_sem]))
    refine FINmk [(0, none)] [(2, .rf 0 0 0)] [(0, so [])] [0] rfl ?_ ?_
    · (simp -implicitDefEqProofs only [go_sem]; repeat (refine GO ?_; simp -implicitDefEqProofs only [go_sem]))
      simp [so]
    · exact ⟨so [], ⟨⟨rfl, rfl⟩, rfl⟩, so_leafy [], rfl⟩
  · (simp -implicitDefEqProofs only [go_sem]; repeat (refine GO ?_; simp -implicitDefEqProofs only [go_sem]))
    refine ⟨by omega, ?_⟩
    refine FINmk [(0, some 7)] [(2, .rf 0 0 z.length)] [(0, so z)] [0] rfl ?_ ?_
    · (simp -implicitDefEqProofs only [go_sem, so]; repeat (refine GO ?_; simp -implicitDefEqProofs only [go_sem, so]))
      exact .same (so z) _ _ (so_leafy z) rfl
    · exact ⟨so z, ⟨⟨rfl, rfl⟩, rfl⟩, so_leafy z, rfl⟩
/-- A row, as an object. -/
def ro3 (a : List V) : Ob := ⟨3, a.map V.c⟩
theorem ro3_leafy (a : List V) : (ro3 a).leafy := by
  rw [ro3, leafy_do]
  exact leafs2_map fun x _ => by simp [V.c, leafs, AV.leaf]
theorem s43 (a : List V) (hl : a.length ≤ 1073741824) : Spec1 Try.prog 43 [rowA a] (fun r o => r = .rf 0 0 a.length ∧ o = ro3 a) := by
  refine spec1_of_vc tabOk elems ord43 Try.func43 rfl (rl := [.tmp 2]) rfl (by kernel_rfl) rfl ?_
  (simp -implicitDefEqProofs only [go_sem, rowA]; repeat (refine GO ?_; simp -implicitDefEqProofs only [go_sem, rowA]))
  refine ⟨⟨_, rfl⟩, fun b hb => ?_⟩
  refine VIF.split (fun h => ?_) (fun h => ?_)
  · have hz : a = [] := by simpa using hb (by simpa using h)
    subst hz
    (simp -implicitDefEqProofs only [go_sem]; repeat (refine GO ?_; simp -implicitDefEqProofs only [go_sem]))
    refine FINmk [(0, none)] [(2, .rf 0 0 0)] [(0, ro3 [])] [0] rfl ?_ ?_
    · (simp -implicitDefEqProofs only [go_sem]; repeat (refine GO ?_; simp -implicitDefEqProofs only [go_sem]))
      simp [ro3]
    · exact ⟨ro3 [], ⟨⟨rfl, rfl⟩, rfl⟩, ro3_leafy [], rfl⟩
  · (simp -implicitDefEqProofs only [go_sem]; repeat (refine GO ?_; simp -implicitDefEqProofs only [go_sem]))
    refine ⟨by omega, ?_⟩
    refine FINmk [(0, some 7)] [(2, .rf 0 0 a.length)] [(0, ro3 a)] [0] rfl ?_ ?_
    · (simp -implicitDefEqProofs only [go_sem, ro3]; repeat (refine GO ?_; simp -implicitDefEqProofs only [go_sem, ro3]))
      exact .same (ro3 a) _ _ (ro3_leafy a) rfl
    · exact ⟨ro3 a, ⟨⟨rfl, rfl⟩, rfl⟩, ro3_leafy a, rfl⟩
theorem and_mask (x : Int) : bitsOp .and .i64 x 268435455 = x % 268435456 := by
  simp only [bitsOp]
  have h1 : (BitVec.ofInt IntKind.i64.bits x &&& BitVec.ofInt IntKind.i64.bits 268435455).toNat = (x % 268435456).toNat := by
    rw [BitVec.toNat_and]
    have e1 : (BitVec.ofInt IntKind.i64.bits 268435455).toNat = 2 ^ 28 - 1 := by decide
    rw [e1, Nat.and_two_pow_sub_one_eq_mod]
    simp only [BitVec.toNat_ofInt, IntKind.bits]
    omega
  rw [h1, wrap_i64] <;> omega
theorem shr28 (x : Int) : x / 2 ^ min (Int.toNat 28) 64 = x / 268435456 := by
  have h2 : (2 : Int) ^ min (Int.toNat 28) 64 = 268435456 := by decide
  rw [h2]
theorem s41 (h l w : Int) (hh : -36028797018963968 ≤ h ∧ h ≤ 36028797018963968) (hl : 0 ≤ l ∧ l ≤ 36028797018963968) (hw : -144115188075855872 ≤ w ∧ w ≤ 144115188075855872) :
    SpecO Try.prog 41 [.pt 0 0 0, iA w] ⟨2, [[iA h, iA l]]⟩ (fun r o => r = .tu [] ∧ o = ⟨2, [[iA (h + w / 268435456), iA (l + w % 268435456)]]⟩) := by
  refine specO_of_vc tabOk elems ord41 Try.func41 rfl (rl := []) rfl (by kernel_rfl) rfl ?_
  have w1 : IntKind.i64.wrap (h + w / 268435456) = h + w / 268435456 := by rw [wrap_i64] <;> omega
  have w2 : IntKind.i64.wrap (l + w % 268435456) = l + w % 268435456 := by rw [wrap_i64] <;> omega
  (simp -implicitDefEqProofs only [go_sem, iA, shr28, and_mask, w1, w2]; repeat (refine GO ?_; simp -implicitDefEqProofs only [go_sem, iA, shr28, and_mask, w1, w2]))
  refine ⟨by decide, ?_⟩
  refine FIN_O (o' := ⟨2, [[iA (h + w / 268435456), iA (l + w % 268435456)]]⟩) rfl ?_ ?_ ?_
  · rfl
  · rw [leafy_do]; simp [leafs2, leafs, iA, AV.leaf]
  · exact ⟨_, ⟨⟨rfl, rfl⟩, rfl⟩, by rw [leafy_do]; simp [leafs2, leafs, iA, AV.leaf], rfl⟩
theorem shl28 (x : Int) : x * 2 ^ min (Int.toNat 28) 64 = x * 268435456 := by
  have h2 : (2 : Int) ^ min (Int.toNat 28) 64 = 268435456 := by decide
  rw [h2]
theorem s42 (h l : Int) (hh : -36028797018963968 ≤ h ∧ h ≤ 36028797018963968) (hl : 0 ≤ l ∧ l ≤ 36028797018963968) :
    Spec0 Try.prog 42 [.ag [iA h, iA l]] (fun r => ∃ v, r = .tu [iA v, bA (okW (h * 268435456 + l))] ∧ (okW (h * 268435456 + l) = true → v = h * 268435456 + l)) := by
  refine spec0_of_vc tabOk elems ord42 Try.func42 rfl (rl := [.tmp 2, .tmp 3]) rfl (by kernel_rfl) rfl ?_
  have w1 : IntKind.i64.wrap (h + l / 268435456) = h + l / 268435456 := by rw [wrap_i64] <;> omega
  (simp -implicitDefEqProofs only [go_sem, iA, shr28, w1]; repeat (refine GO ?_; simp -implicitDefEqProofs only [go_sem, iA, shr28, w1]))
  refine ⟨by decide, ?_⟩
  have bad : ∀ b, b = okW (h * 268435456 + l) → b = false → ∃ v, (AV.tu [.pr (.int .i64 0), .pr (.bool false)]) = .tu [iA v, bA (okW (h * 268435456 + l))] ∧ (okW (h * 268435456 + l) = true → v = h * 268435456 + l) := by
    intro b h1 h2
    subst h1
    exact ⟨0, by rw [h2]; rfl, fun h => by rw [h2] at h; cases h⟩
  refine VIF.split (fun e => ?_) (fun e => ?_)
  · simp at e
    (simp -implicitDefEqProofs only [go_sem]; repeat (refine GO ?_; simp -implicitDefEqProofs only [go_sem]))
    exact ⟨rfl, bad _ rfl (by simp [okW, inB]; omega)⟩
  · simp at e
    (simp -implicitDefEqProofs only [go_sem]; repeat (refine GO ?_; simp -implicitDefEqProofs only [go_sem]))
    refine VIF.split (fun e2 => ?_) (fun e2 => ?_)
    · simp at e2
      (simp -implicitDefEqProofs only [go_sem]; repeat (refine GO ?_; simp -implicitDefEqProofs only [go_sem]))
      exact ⟨rfl, bad _ rfl (by simp [okW, inB]; omega)⟩
    · simp at e2
      have w2 : IntKind.i64.wrap ((h + l / 268435456) * 268435456) = (h + l / 268435456) * 268435456 := by rw [wrap_i64] <;> omega
      have w3 : IntKind.i64.wrap ((h + l / 268435456) * 268435456 + l % 268435456) = h * 268435456 + l := by rw [wrap_i64] <;> omega
      (simp -implicitDefEqProofs only [go_sem, shl28, and_mask, w1, w2, w3]; repeat (refine GO ?_; simp -implicitDefEqProofs only [go_sem, shl28, and_mask, w1, w2, w3]))
      refine ⟨by decide, GO ?_⟩
      (simp -implicitDefEqProofs only [go_sem]; repeat (refine GO ?_; simp -implicitDefEqProofs only [go_sem]))
      refine .pure _ (s37 (h * 268435456 + l)) rfl fun r hr _ => ?_
      subst hr
      (simp -implicitDefEqProofs only [go_sem, bA]; repeat (refine GO ?_; simp -implicitDefEqProofs only [go_sem, bA]))
      exact ⟨rfl, h * 268435456 + l, rfl, fun _ => rfl⟩
end Yt
