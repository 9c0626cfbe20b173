/- The statement SetExactUptoSaid. It has no conditions of its own: what is proved is the given statement. -/
import Derived.Test.YtdjphppkknffbaaBf
set_option linter.all false
namespace Go.Proofs.Ytdjphppkknffbaa.setExact
open Go.ChangeShapes Go.WideShapes Go.ChangeAt Go.RowKit Go.Vc Yt
theorem law (avs : List AV) (h : ShArgs Try.prog 1048576 Try.f3.params.toList avs) : Spec0 Try.prog 3 avs (· = .pr (.bool true)) := by
  rw [Try.params3] at h
  obtain ⟨a0, r0, rfl, h0, h⟩ := h.cons
  obtain ⟨a1, r1, rfl, h1, h⟩ := h.cons
  obtain ⟨a2, r2, rfl, h2, h⟩ := h.cons
  have h := h.nil; subst h
  obtain ⟨z0, e0, l0, t0⟩ := shSet (h0.one (by kernel_rfl))
  obtain ⟨z1, e1, l1, t1⟩ := shSet (h1.one (by kernel_rfl))
  obtain ⟨r, e2, l2⟩ := shRow (h2.one (by kernel_rfl))
  cases e0; cases e1; cases e2
  exact c3 z0 z1 r (fun l hl => by simp only [List.mem_cons, List.not_mem_nil, or_false] at hl; rcases hl with rfl | rfl <;> omega) (fun l hl t ht => by
      simp only [List.mem_cons, List.not_mem_nil, or_false] at hl
      rcases hl with rfl | rfl
      · have := (t0 t ht).1; omega
      · have := (t1 t ht).1; omega) (by omega)
set_option maxRecDepth 100000 in
theorem lifted (os : Os) (started : os.Started) (H : Type) (enc : TypeId × Value → H) (F : Stop.Interp) :
    ReturnsInHanded {} Try.checked os 3 .any ((Rows.OpenSpec.upto Rows.setExactSpec).pre6 enc Try.prog Try.f3 Rows.setExactUptoRow.domain false) (((Rows.OpenSpec.upto Rows.setExactSpec).at F).post enc Try.prog Try.f3 false true false false) := by
  refine returnsInHanded_of_cond (C := Try.checked) (s := Rows.OpenSpec.upto Rows.setExactSpec) (k := Rows.uptoSmall) rfl own started (by kernel_rfl) Try.func3
    (OpenSpec.witness (enc := enc) (C := Try.checked) (s := Rows.OpenSpec.upto Rows.setExactSpec) (k := Rows.uptoSmall) rfl false ⟨#[], #[.slice none 0 0, .slice none 0 0, .slice none 0 0], []⟩ 8 (by kernel_rfl) (by kernel_rfl) (by kernel_rfl)
      (x := ([.nil, .nil, .nil], [], [])) (by kernel_rfl) rfl (by kernel_rfl)) ?_
  intro W base args ds gs before hval hW _ hk _
  have hV := hW
  obtain ⟨_, _, _, hV, _, _, _⟩ := hV
  obtain ⟨rfl, rfl⟩ := trodVars_none hV
  rw [List.append_nil] at hk
  refine law_callsA (B := 1048576) kids sizes (by kernel_rfl) rfl (by kernel_rfl) Try.underlying4 hval hW (bound hk) (fun hl => ?_) law
  rw [Try.params3] at hl
  match ds, hl with
  | [_, _, _], _ => rfl
theorem facts : joinedFacts Try.prog 3 Try.f3 (Rows.OpenSpec.upto Rows.setExactSpec).bare Rows.setExactUptoRow = true :=
  facts_of laid rowed heard cutEnter cutLifts plain cutMade (by kernel_rfl) (by kernel_rfl) (by kernel_rfl) (by kernel_rfl) (by kernel_rfl) (by kernel_rfl) (by kernel_rfl) (by kernel_rfl) (by kernel_rfl) rfl rfl rfl rfl (by kernel_rfl)
theorem proved : Rows.SetExactUptoSaid :=
  OpenClaim.holds_of_cond 3 Try.f3 rfl rfl rfl rfl rfl rfl rfl ⟨rfl, rfl, rfl, rfl, rfl⟩ rfl rfl rfl rfl rfl (by kernel_rfl) Try.func3 facts
    (of_decide_eq_true (by kernel_rfl)) (by unfold Func.isWrapper; first | (rw [if_pos (by decide +kernel)]; kernel_rfl) | (rw [if_neg (by decide +kernel)]; exact ⟨rfl, rfl⟩))
    (fun os started H enc _ F => lifted os started H enc F)
end Go.Proofs.Ytdjphppkknffbaa.setExact
