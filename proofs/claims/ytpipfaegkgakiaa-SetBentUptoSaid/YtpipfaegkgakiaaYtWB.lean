/- The statement SetBentUptoSaid. What is proved: contracts of the program's functions over abstract values, or plain facts on which these lean; the conditions stand in each theorem. -/
import Derived.Test.YtpipfaegkgakiaaYtAI
import Derived.Test.YtpipfaegkgakiaaYtLf
set_option linter.all false
/-! The statement SetBentUptoSaid. -/
namespace Go.Proofs.Ytpipfaegkgakiaa.setBent
open Go.ChangeShapes Go.WideShapes Go.ChangeAt Go.RowKit Go.Vc Yt
theorem law (avs : List AV) (h : ShAll Try.prog 1048576 Try.f9.params.toList avs) : Spec0 Try.prog 9 avs (· = .pr (.bool true)) := by
  rw [Try.params9] at h
  match avs, h with
  | [a0, a1, a2], h =>
    obtain ⟨h0, h1, h2, _⟩ := h
    obtain ⟨l, e0, l0, t0⟩ := sh22 h0
    obtain ⟨x, e1, g1⟩ := sh_int Try.underlying3 h1
    obtain ⟨y, e2, g2⟩ := sh_int Try.underlying3 h2
    cases e0; cases e1; cases e2
    exact s9 l x y (by omega) (fun t h => by have := (t0 t h).1; omega)
set_option maxRecDepth 100000 in
theorem lifted (os : Os) (started : os.Started) (H : Type) (enc : TypeId × Value → H) (F : Stop.Interp) :
    ReturnsInHanded {} Try.checked os 9 .any ((Rows.OpenSpec.upto Rows.setBentSpec).pre6 enc Try.prog Try.f9 Rows.setBentUptoRow.domain false) (((Rows.OpenSpec.upto Rows.setBentSpec).at F).post enc Try.prog Try.f9 false true false false) := by
  refine returnsInHanded_of_cond (C := Try.checked) (s := Rows.OpenSpec.upto Rows.setBentSpec) (k := Rows.uptoSmall) rfl own started (by kernel_rfl) Try.func9
    (OpenSpec.witness (enc := enc) (C := Try.checked) (s := Rows.OpenSpec.upto Rows.setBentSpec) (k := Rows.uptoSmall) rfl false ⟨#[], #[.slice none 0 0, .int .i64 0, .int .i64 0], []⟩ 8 (by kernel_rfl) (by kernel_rfl) (by kernel_rfl)
      (x := ([.nil, .lit (.int .i64 0), .lit (.int .i64 0)], [], [])) (by kernel_rfl) rfl (by kernel_rfl)) ?_
  intro W base args ds gs before hval hW _ hk _
  have hV := hW
  obtain ⟨_, _, _, hV, _, _, _⟩ := hV
  obtain ⟨rfl, rfl⟩ := trodVars_none hV
  rw [List.append_nil] at hk
  refine law_calls (B := 1048576) kids sizes (by kernel_rfl) rfl (by kernel_rfl) Try.underlying4 hval hW (bound hk) (fun hl => ?_) law
  rw [Try.params9] at hl
  match ds, hl with
  | [_, _, _], _ => rfl
theorem proved : Rows.SetBentUptoSaid :=
  OpenClaim.holds_of_cond 9 Try.f9 rfl rfl rfl rfl rfl rfl rfl ⟨rfl, rfl, rfl, rfl, rfl⟩ rfl rfl rfl rfl rfl (by kernel_rfl) Try.func9 (by kernel_rfl)
    (of_decide_eq_true (by kernel_rfl)) (by unfold Func.isWrapper; first | (rw [if_pos (by decide +kernel)]; kernel_rfl) | (rw [if_neg (by decide +kernel)]; exact ⟨rfl, rfl⟩))
    (fun os started H enc _ F => lifted os started H enc F)
end Go.Proofs.Ytpipfaegkgakiaa.setBent
