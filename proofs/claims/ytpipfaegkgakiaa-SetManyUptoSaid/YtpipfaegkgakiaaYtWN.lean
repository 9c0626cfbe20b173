/- The statement SetManyUptoSaid. What is proved: contracts of the program's functions over abstract values, or plain facts on which these lean; the conditions stand in each theorem. -/
import Derived.Test.YtpipfaegkgakiaaYtAE
import Derived.Test.YtpipfaegkgakiaaYtLf
set_option linter.all false
/-! The statement SetManyUptoSaid. -/
namespace Go.Proofs.Ytpipfaegkgakiaa.setMany
open Go.ChangeShapes Go.WideShapes Go.ChangeAt Go.RowKit Go.Vc Yt
theorem law (avs : List AV) (h : ShAll Try.prog 1048576 Try.f6.params.toList avs) : Spec0 Try.prog 6 avs (· = .pr (.bool true)) := by
  rw [Try.params6] at h
  match avs, h with
  | [a0, a1], h =>
    obtain ⟨h0, h1, _⟩ := h
    obtain ⟨l, e0, l0, t0⟩ := sh22 h0
    obtain ⟨n, e1, g1⟩ := sh_int Try.underlying3 h1
    cases e0; cases e1
    exact s6 l n (by omega) (fun t h => by have := (t0 t h).1; omega)
set_option maxRecDepth 100000 in
theorem lifted (os : Os) (started : os.Started) (H : Type) (enc : TypeId × Value → H) (F : Stop.Interp) :
    ReturnsInHanded {} Try.checked os 6 .any ((Rows.OpenSpec.upto Rows.setManySpec).pre6 enc Try.prog Try.f6 Rows.setManyUptoRow.domain false) (((Rows.OpenSpec.upto Rows.setManySpec).at F).post enc Try.prog Try.f6 false true false false) := by
  refine returnsInHanded_of_cond (C := Try.checked) (s := Rows.OpenSpec.upto Rows.setManySpec) (k := Rows.uptoSmall) rfl own started (by kernel_rfl) Try.func6
    (OpenSpec.witness (enc := enc) (C := Try.checked) (s := Rows.OpenSpec.upto Rows.setManySpec) (k := Rows.uptoSmall) rfl false ⟨#[], #[.slice none 0 0, .int .i64 0], []⟩ 8 (by kernel_rfl) (by kernel_rfl) (by kernel_rfl)
      (x := ([.nil, .lit (.int .i64 0)], [], [])) (by kernel_rfl) rfl (by kernel_rfl)) ?_
  intro W base args ds gs before hval hW _ hk _
  have hV := hW
  obtain ⟨_, _, _, hV, _, _, _⟩ := hV
  obtain ⟨rfl, rfl⟩ := trodVars_none hV
  rw [List.append_nil] at hk
  refine law_calls (B := 1048576) kids sizes (by kernel_rfl) rfl (by kernel_rfl) Try.underlying4 hval hW (bound hk) (fun hl => ?_) law
  rw [Try.params6] at hl
  match ds, hl with
  | [_, _], _ => rfl
theorem proved : Rows.SetManyUptoSaid :=
  OpenClaim.holds_of_cond 6 Try.f6 rfl rfl rfl rfl rfl rfl rfl ⟨rfl, rfl, rfl, rfl, rfl⟩ rfl rfl rfl rfl rfl (by kernel_rfl) Try.func6 (by kernel_rfl)
    (of_decide_eq_true (by kernel_rfl)) (by unfold Func.isWrapper; first | (rw [if_pos (by decide +kernel)]; kernel_rfl) | (rw [if_neg (by decide +kernel)]; exact ⟨rfl, rfl⟩))
    (fun os started H enc _ F => lifted os started H enc F)
end Go.Proofs.Ytpipfaegkgakiaa.setMany
