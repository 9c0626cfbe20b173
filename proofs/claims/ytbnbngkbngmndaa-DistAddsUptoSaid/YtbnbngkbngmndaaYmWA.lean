/- The statement DistAddsUptoSaid. It has no conditions of its own: what is proved is the given statement. -/
import Derived.Test.YtbnbngkbngmndaaBe
set_option linter.all false
namespace Go.Proofs.Ytbnbngkbngmndaa.distAdds
open Go.ChangeShapes Go.WideShapes Go.ChangeAt Go.RowKit Go.Vc Yt
theorem law (avs : List AV) (h : ShArgs Try.prog 1048576 Try.f7.params.toList avs) : Spec0 Try.prog 7 avs (· = .pr (.bool true)) := by
  rw [Try.params7] at h
  obtain ⟨a0, r0, rfl, h0, h⟩ := h.cons
  have h := h.nil; subst h
  obtain ⟨l, e0, l0, t0⟩ := shSets (h0.one (by kernel_rfl))
  cases e0
  exact c7 l (by omega) (fun z h => by have := (t0 z h).1; omega) (fun z h t ht => by have := ((t0 z h).2 t ht).1; omega)
set_option maxRecDepth 100000 in
theorem lifted (os : Os) (started : os.Started) (H : Type) (enc : TypeId × Value → H) (F : Stop.Interp) :
    ReturnsInHanded {} Try.checked os 7 .any ((Rows.OpenSpec.upto Rows.distAddsSpec).pre6 enc Try.prog Try.f7 Rows.distAddsUptoRow.domain false) (((Rows.OpenSpec.upto Rows.distAddsSpec).at F).post enc Try.prog Try.f7 false true false false) := by
  refine returnsInHanded_of_cond (C := Try.checked) (s := Rows.OpenSpec.upto Rows.distAddsSpec) (k := Rows.uptoSmall) rfl own started (by kernel_rfl) Try.func7
    (OpenSpec.witness (enc := enc) (C := Try.checked) (s := Rows.OpenSpec.upto Rows.distAddsSpec) (k := Rows.uptoSmall) rfl false ⟨#[], #[.slice none 0 0], []⟩ 8 (by kernel_rfl) (by kernel_rfl) (by kernel_rfl)
      (x := ([.nil], [], [])) (by kernel_rfl) rfl (by kernel_rfl)) ?_
  intro W base args ds gs before hval hW _ hk _
  have hV := hW
  obtain ⟨_, _, _, hV, _, _, _⟩ := hV
  obtain ⟨rfl, rfl⟩ := trodVars_none hV
  rw [List.append_nil] at hk
  refine law_callsA (B := 1048576) kids sizes (by kernel_rfl) rfl (by kernel_rfl) Try.underlying4 hval hW (bound hk) (fun hl => ?_) law
  rw [Try.params7] at hl
  match ds, hl with
  | [_], _ => rfl
theorem facts : joinedFacts Try.prog 7 Try.f7 (Rows.OpenSpec.upto Rows.distAddsSpec).bare Rows.distAddsUptoRow = true :=
  facts_of laid rowed heard cutEnter cutLifts plain cutMade (by kernel_rfl) (by kernel_rfl) (by kernel_rfl) (by kernel_rfl) (by kernel_rfl) (by kernel_rfl) (by kernel_rfl) (by kernel_rfl) (by kernel_rfl) rfl rfl rfl rfl (by kernel_rfl)
theorem proved : Rows.DistAddsUptoSaid :=
  OpenClaim.holds_of_cond 7 Try.f7 rfl rfl rfl rfl rfl rfl rfl ⟨rfl, rfl, rfl, rfl, rfl⟩ rfl rfl rfl rfl rfl (by kernel_rfl) Try.func7 facts
    (of_decide_eq_true (by kernel_rfl)) (by unfold Func.isWrapper; first | (rw [if_pos (by decide +kernel)]; kernel_rfl) | (rw [if_neg (by decide +kernel)]; exact ⟨rfl, rfl⟩))
    (fun os started H enc _ F => lifted os started H enc F)
end Go.Proofs.Ytbnbngkbngmndaa.distAdds
