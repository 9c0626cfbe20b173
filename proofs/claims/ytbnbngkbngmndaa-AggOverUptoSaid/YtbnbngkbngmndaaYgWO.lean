/- The statement AggOverUptoSaid. It has no conditions of its own: what is proved is the given statement. -/
import Derived.Test.YtbnbngkbngmndaaBf
set_option linter.all false
namespace Go.Proofs.Ytbnbngkbngmndaa.aggOver
open Go.ChangeShapes Go.WideShapes Go.ChangeAt Go.RowKit Go.Vc Yt
theorem law (avs : List AV) (h : ShArgs Try.prog 1048576 Try.f21.params.toList avs) : Spec0 Try.prog 21 avs (· = .pr (.bool true)) := by
  rw [Try.params21] at h
  obtain ⟨a0, r0, rfl, h0, h⟩ := h.cons
  obtain ⟨a1, r1, rfl, h1, h⟩ := h.cons
  obtain ⟨a2, r2, rfl, h2, h⟩ := h.cons
  have h := h.nil; subst h
  obtain ⟨p0, e0, g0⟩ := sh_int Try.underlying3 (h0.one (by kernel_rfl))
  obtain ⟨p1, e1, g1⟩ := sh_int Try.underlying3 (h1.one (by kernel_rfl))
  obtain ⟨neg, e2⟩ := sh_bool Try.underlying4 (h2.one (by kernel_rfl))
  cases e0; cases e1; cases e2
  exact c21 p0 p1 neg
set_option maxRecDepth 100000 in
theorem lifted (os : Os) (started : os.Started) (H : Type) (enc : TypeId × Value → H) (F : Stop.Interp) :
    ReturnsInHanded {} Try.checked os 21 .any ((Rows.OpenSpec.upto Rows.aggOverSpec).pre6 enc Try.prog Try.f21 Rows.aggOverUptoRow.domain false) (((Rows.OpenSpec.upto Rows.aggOverSpec).at F).post enc Try.prog Try.f21 false true false false) := by
  refine returnsInHanded_of_cond (C := Try.checked) (s := Rows.OpenSpec.upto Rows.aggOverSpec) (k := Rows.uptoSmall) rfl own started (by kernel_rfl) Try.func21
    (OpenSpec.witness (enc := enc) (C := Try.checked) (s := Rows.OpenSpec.upto Rows.aggOverSpec) (k := Rows.uptoSmall) rfl false ⟨#[], #[.int .i64 0, .int .i64 0, .bool false], []⟩ 8 (by kernel_rfl) (by kernel_rfl) (by kernel_rfl)
      (x := ([.lit (.int .i64 0), .lit (.int .i64 0), .lit (.bool false)], [], [])) (by kernel_rfl) rfl (by kernel_rfl)) ?_
  intro W base args ds gs before hval hW _ hk _
  have hV := hW
  obtain ⟨_, _, _, hV, _, _, _⟩ := hV
  obtain ⟨rfl, rfl⟩ := trodVars_none hV
  rw [List.append_nil] at hk
  refine law_callsA (B := 1048576) kids sizes (by kernel_rfl) rfl (by kernel_rfl) Try.underlying4 hval hW (bound hk) (fun hl => ?_) law
  rw [Try.params21] at hl
  match ds, hl with
  | [_, _, _], _ => rfl
theorem facts : joinedFacts Try.prog 21 Try.f21 (Rows.OpenSpec.upto Rows.aggOverSpec).bare Rows.aggOverUptoRow = true :=
  facts_of laid rowed heard cutEnter cutLifts plain cutMade (by kernel_rfl) (by kernel_rfl) (by kernel_rfl) (by kernel_rfl) (by kernel_rfl) (by kernel_rfl) (by kernel_rfl) (by kernel_rfl) (by kernel_rfl) rfl rfl rfl rfl (by kernel_rfl)
theorem proved : Rows.AggOverUptoSaid :=
  OpenClaim.holds_of_cond 21 Try.f21 rfl rfl rfl rfl rfl rfl rfl ⟨rfl, rfl, rfl, rfl, rfl⟩ rfl rfl rfl rfl rfl (by kernel_rfl) Try.func21 facts
    (of_decide_eq_true (by kernel_rfl)) (by unfold Func.isWrapper; first | (rw [if_pos (by decide +kernel)]; kernel_rfl) | (rw [if_neg (by decide +kernel)]; exact ⟨rfl, rfl⟩))
    (fun os started H enc _ F => lifted os started H enc F)
end Go.Proofs.Ytbnbngkbngmndaa.aggOver
