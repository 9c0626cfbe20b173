/- The statement SetMakesUptoSaid. What is proved: contracts of the program's functions over abstract values, or plain facts on which these lean; the conditions stand in each theorem. -/
import Derived.Test.YtpipfaegkgakiaaYtZ
import Derived.Test.YtpipfaegkgakiaaYtLf
set_option linter.all false
/-! The statement SetMakesUptoSaid. -/
namespace Yt
open Go Go.Vc Go.Proofs Go.Proofs.Ytpipfaegkgakiaa
theorem cells23 : Try.prog.cellsOf 23 = 1 := by kernel_rfl
theorem sh36 {avs : List AV} (h : Sh Try.prog 1048576 36 avs) : ∃ l : List (List V), avs = [rowsA l] ∧ l.length ≤ 1048576 ∧ ∀ r ∈ l, r.length ≤ 1048576 := by
  obtain ⟨es, rfl, hl, he⟩ := sh_slice Try.underlying36 h
  obtain ⟨l, rfl, h2⟩ := map_choose (f := fun r => [rowA r]) fun x hx => sh23 (he x hx)
  rw [cells23]
  exact ⟨l, rfl, by simpa using hl, h2⟩
end Yt
namespace Go.Proofs.Ytpipfaegkgakiaa.setMakes
open Go.ChangeShapes Go.WideShapes Go.ChangeAt Go.RowKit Go.Vc Yt
theorem law (avs : List AV) (h : ShAll Try.prog 1048576 Try.f4.params.toList avs) : Spec0 Try.prog 4 avs (· = .pr (.bool true)) := by
  rw [Try.params4] at h
  match avs, h with
  | [a0, a1, a2], h =>
    obtain ⟨h0, h1, h2, _⟩ := h
    obtain ⟨l, e0, l0, t0⟩ := sh22 h0
    obtain ⟨n, e1, g1⟩ := sh_int Try.underlying3 h1
    obtain ⟨r, e2, l2, t2⟩ := sh36 h2
    cases e0; cases e1; cases e2
    exact s4 l n r (by omega) (fun t h => by have := (t0 t h).1; omega) (by omega) (fun x h => by have := t2 x h; omega)
set_option maxRecDepth 100000 in
theorem lifted (os : Os) (started : os.Started) (H : Type) (enc : TypeId × Value → H) (F : Stop.Interp) :
    ReturnsInHanded {} Try.checked os 4 .any ((Rows.OpenSpec.upto Rows.setMakesSpec).pre6 enc Try.prog Try.f4 Rows.setMakesUptoRow.domain false) (((Rows.OpenSpec.upto Rows.setMakesSpec).at F).post enc Try.prog Try.f4 false true false false) := by
  refine returnsInHanded_of_cond (C := Try.checked) (s := Rows.OpenSpec.upto Rows.setMakesSpec) (k := Rows.uptoSmall) rfl own started (by kernel_rfl) Try.func4
    (OpenSpec.witness (enc := enc) (C := Try.checked) (s := Rows.OpenSpec.upto Rows.setMakesSpec) (k := Rows.uptoSmall) rfl false ⟨#[], #[.slice none 0 0, .int .i64 0, .slice none 0 0], []⟩ 8 (by kernel_rfl) (by kernel_rfl) (by kernel_rfl)
      (x := ([.nil, .lit (.int .i64 0), .nil], [], [])) (by kernel_rfl) rfl (by kernel_rfl)) ?_
  intro W base args ds gs before hval hW _ hk _
  have hV := hW
  obtain ⟨_, _, _, hV, _, _, _⟩ := hV
  obtain ⟨rfl, rfl⟩ := trodVars_none hV
  rw [List.append_nil] at hk
  refine law_calls (B := 1048576) kids sizes (by kernel_rfl) rfl (by kernel_rfl) Try.underlying4 hval hW (bound hk) (fun hl => ?_) law
  rw [Try.params4] at hl
  match ds, hl with
  | [_, _, _], _ => rfl
theorem proved : Rows.SetMakesUptoSaid :=
  OpenClaim.holds_of_cond 4 Try.f4 rfl rfl rfl rfl rfl rfl rfl ⟨rfl, rfl, rfl, rfl, rfl⟩ rfl rfl rfl rfl rfl (by kernel_rfl) Try.func4 (by kernel_rfl)
    (of_decide_eq_true (by kernel_rfl)) (by unfold Func.isWrapper; first | (rw [if_pos (by decide +kernel)]; kernel_rfl) | (rw [if_neg (by decide +kernel)]; exact ⟨rfl, rfl⟩))
    (fun os started H enc _ F => lifted os started H enc F)
end Go.Proofs.Ytpipfaegkgakiaa.setMakes
