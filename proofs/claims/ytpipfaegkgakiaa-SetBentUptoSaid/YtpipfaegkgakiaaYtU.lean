/- Sets added; the law SetEnds. What is proved: contracts of the program's functions over abstract values, or plain facts on which these lean; the conditions stand in each theorem. -/
import Derived.Test.YtpipfaegkgakiaaYtT
set_option linter.all false
/-! Sets added; the law SetEnds. -/
namespace Yt
open Go Go.Vc Go.Proofs
set_option maxRecDepth 10000
set_option maxHeartbeats 4000000
set_option linter.unusedSimpArgs false
set_option linter.unusedVariables false
/-- What two sets are together: out, and the refusal. -/
def AddR (a b out : List It) (err : Int) : Prop := (¬ (Good a ∧ Good b) ∧ out = [] ∧ err = 1) ∨ (Good a ∧ Good b ∧ MakeR (a ++ b) out err)
theorem s23 (a b : List It) (hl : a.length + b.length ≤ 1048576) (ha : ∀ t ∈ a, t.row.length < 1073741824) (hb : ∀ t ∈ b, t.row.length < 1073741824) :
    Spec1 Try.prog 23 [setA a, setA b] (fun r o => ∃ (out : List It) (err : Int), r = .tu [.rf 0 0 out.length, iA err] ∧ o = so out ∧ AddR a b out err) := by
  refine spec1_of_vc tabOk elems ord23 Try.func23 rfl (rl := [.tmp 4, .tmp 5]) rfl (by kernel_rfl) rfl ?_
  (simp -implicitDefEqProofs only [go_sem, setA]; repeat (refine GO ?_; simp -implicitDefEqProofs only [go_sem, setA]))
  refine .pure _ (s16 a (by omega) (fun t ht => by have := ha t ht; omega)) rfl fun q hq _ => ?_
  obtain ⟨e1, rfl, _, h1⟩ := hq
  have bad : ∀ s : St, s.regs 4 = .nl → s.regs 5 = .pr (.int .i64 1) → ¬ (Good a ∧ Good b) → FIN T noOb [.tmp 4, .tmp 5] (fun r O' => ∃ o, ((∃ (out : List It) (err : Int), r = .tu [.rf 0 0 out.length, iA err] ∧ o = so out ∧ AddR a b out err) ∧ r.only0 = true) ∧ o.leafy ∧ O' = upd noOb 0 (some o)) s := by
    intro s h4 h5 hn
    refine FINmk [(0, none)] [(4, .rf 0 0 0), (5, iA 1)] [(0, so [])] [0] rfl ?_ ?_
    · (simp -implicitDefEqProofs only [go_sem, iA, h4, h5]; repeat (refine GO ?_; simp -implicitDefEqProofs only [go_sem, iA, h4, h5]))
      simp [so]
    · exact ⟨so [], ⟨⟨[], 1, rfl, rfl, .inl ⟨hn, rfl, rfl⟩⟩, rfl⟩, so_leafy [], rfl⟩
  (simp -implicitDefEqProofs only [go_sem, iA]; repeat (refine GO ?_; simp -implicitDefEqProofs only [go_sem, iA]))
  refine VIF.split (fun h => ?_) (fun h => ?_)
  · have h : e1 ≠ 0 := by simpa using h
    (simp -implicitDefEqProofs only [go_sem]; repeat (refine GO ?_; simp -implicitDefEqProofs only [go_sem]))
    exact bad _ rfl rfl fun g => h (h1.2 g.1)
  · have h : e1 = 0 := by simpa using h
    have h1 := h1.1 h
    (simp -implicitDefEqProofs only [go_sem]; repeat (refine GO ?_; simp -implicitDefEqProofs only [go_sem]))
    refine .pure _ (s16 b (by omega) (fun t ht => by have := hb t ht; omega)) rfl fun q hq _ => ?_
    obtain ⟨e2, rfl, _, h2⟩ := hq
    (simp -implicitDefEqProofs only [go_sem, iA]; repeat (refine GO ?_; simp -implicitDefEqProofs only [go_sem, iA]))
    refine VIF.split (fun h => ?_) (fun h => ?_)
    · have h : e2 ≠ 0 := by simpa using h
      (simp -implicitDefEqProofs only [go_sem]; repeat (refine GO ?_; simp -implicitDefEqProofs only [go_sem]))
      exact bad _ rfl rfl fun g => h (h2.2 g.2)
    · have h : e2 = 0 := by simpa using h
      have h2 := h2.1 h
      simp -implicitDefEqProofs only [go_sem]
      refine GO ?_
      simp -implicitDefEqProofs only [go_sem]
      refine TO [] [(16, setsA [a, b])] [] [] rfl ?_ ?_
      · (simp -implicitDefEqProofs only [go_sem, setsA, setA]; repeat (refine GO ?_; simp -implicitDefEqProofs only [go_sem, setsA, setA]))
        exact ⟨id, by decide, _, rfl, by simp [Ob.leafy, AV.leaf], rfl, rfl⟩
      simp -implicitDefEqProofs only [go_sem, setsA]
      have hcat : cat [a, b] = a ++ b := by simp [cat]
      refine .make 17 _ (s51 [a, b] (by simp) (by rw [hcat]; simpa using hl)) rfl (by simp) rfl fun q o hq hlf => ?_
      rw [hcat] at hq
      obtain ⟨rfl, hsz, hes⟩ := hq
      simp -implicitDefEqProofs only [go_sem]
      refine TO [] [(17, setA (a ++ b))] [] [] rfl ?_ ?_
      · (simp -implicitDefEqProofs only [go_sem, setA]; repeat (refine GO ?_; simp -implicitDefEqProofs only [go_sem, setA]))
        exact ⟨id, by decide, _, rfl, hlf, hsz, hes⟩
      (simp -implicitDefEqProofs only [go_sem, setA]; repeat (refine GO ?_; simp -implicitDefEqProofs only [go_sem, setA]))
      refine .make 18 _ (s11 (a ++ b) (by simpa using hl) (fun t ht => by rcases List.mem_append.1 ht with h | h; exact ha t h; exact hb t h)) rfl (by simp) rfl fun q o hq _ => ?_
      obtain ⟨out, err, rfl, rfl, hm⟩ := hq
      (simp -implicitDefEqProofs only [go_sem, iA]; repeat (refine GO ?_; simp -implicitDefEqProofs only [go_sem, iA]))
      refine FINmk [(0, some 18)] [(4, .rf 0 0 out.length), (5, iA err)] [(0, so out)] [0] rfl ?_ ?_
      · (simp -implicitDefEqProofs only [go_sem, so, iA]; repeat (refine GO ?_; simp -implicitDefEqProofs only [go_sem, so, iA]))
        exact .same (so out) _ _ (so_leafy out) rfl
      · exact ⟨so out, ⟨⟨out, err, rfl, rfl, .inr ⟨h1, h2, hm⟩⟩, rfl⟩, so_leafy out, rfl⟩
end Yt
