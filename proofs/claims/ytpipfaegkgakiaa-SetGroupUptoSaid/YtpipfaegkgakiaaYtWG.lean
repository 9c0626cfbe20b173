/- The statement SetGroupUptoSaid. What is proved: contracts of the program's functions over abstract values, or plain facts on which these lean; the conditions stand in each theorem. -/
import Derived.Test.YtpipfaegkgakiaaYtAH
import Derived.Test.YtpipfaegkgakiaaYtLf
set_option linter.all false
/-! The statement SetGroupUptoSaid. -/
namespace Go.Proofs.Ytpipfaegkgakiaa.setGroup
open Go.ChangeShapes Go.WideShapes Go.ChangeAt Go.RowKit Go.Vc Yt
theorem law (avs : List AV) (h : ShAll Try.prog 1048576 Try.f8.params.toList avs) : Spec0 Try.prog 8 avs (· = .pr (.bool true)) := by
  rw [Try.params8] at h
  match avs, h with
  | [a0, a1, a2], h =>
    obtain ⟨h0, h1, h2, _⟩ := h
    obtain ⟨x, e0, l0, t0⟩ := sh22 h0
    obtain ⟨y, e1, l1, t1⟩ := sh22 h1
    obtain ⟨z, e2, l2, t2⟩ := sh22 h2
    cases e0; cases e1; cases e2
    exact by
      refine s8 x y z (fun l hl => ?_) (fun l hl t ht => ?_)
      · simp only [List.mem_cons, List.not_mem_nil, or_false] at hl
        rcases hl with rfl | rfl | rfl <;> omega
      · simp only [List.mem_cons, List.not_mem_nil, or_false] at hl
        rcases hl with rfl | rfl | rfl
        · have := (t0 t ht).1; omega
        · have := (t1 t ht).1; omega
        · have := (t2 t ht).1; omega
set_option maxRecDepth 100000 in
theorem lifted (os : Os) (started : os.Started) (H : Type) (enc : TypeId × Value → H) (F : Stop.Interp) :
    ReturnsInHanded {} Try.checked os 8 .any ((Rows.OpenSpec.upto Rows.setGroupSpec).pre6 enc Try.prog Try.f8 Rows.setGroupUptoRow.domain false) (((Rows.OpenSpec.upto Rows.setGroupSpec).at F).post enc Try.prog Try.f8 false true false false) := by
  refine returnsInHanded_of_cond (C := Try.checked) (s := Rows.OpenSpec.upto Rows.setGroupSpec) (k := Rows.uptoSmall) rfl own started (by kernel_rfl) Try.func8
    (OpenSpec.witness (enc := enc) (C := Try.checked) (s := Rows.OpenSpec.upto Rows.setGroupSpec) (k := Rows.uptoSmall) rfl false ⟨#[], #[.slice none 0 0, .slice none 0 0, .slice none 0 0], []⟩ 8 (by kernel_rfl) (by kernel_rfl) (by kernel_rfl)
      (x := ([.nil, .nil, .nil], [], [])) (by kernel_rfl) rfl (by kernel_rfl)) ?_
  intro W base args ds gs before hval hW _ hk _
  have hV := hW
  obtain ⟨_, _, _, hV, _, _, _⟩ := hV
  obtain ⟨rfl, rfl⟩ := trodVars_none hV
  rw [List.append_nil] at hk
  refine law_calls (B := 1048576) kids sizes (by kernel_rfl) rfl (by kernel_rfl) Try.underlying4 hval hW (bound hk) (fun hl => ?_) law
  rw [Try.params8] at hl
  match ds, hl with
  | [_, _, _], _ => rfl
theorem proved : Rows.SetGroupUptoSaid :=
  OpenClaim.holds_of_cond 8 Try.f8 rfl rfl rfl rfl rfl rfl rfl ⟨rfl, rfl, rfl, rfl, rfl⟩ rfl rfl rfl rfl rfl (by kernel_rfl) Try.func8 (by kernel_rfl)
    (of_decide_eq_true (by kernel_rfl)) (by unfold Func.isWrapper; first | (rw [if_pos (by decide +kernel)]; kernel_rfl) | (rw [if_neg (by decide +kernel)]; exact ⟨rfl, rfl⟩))
    (fun os started H enc _ F => lifted os started H enc F)
end Go.Proofs.Ytpipfaegkgakiaa.setGroup
