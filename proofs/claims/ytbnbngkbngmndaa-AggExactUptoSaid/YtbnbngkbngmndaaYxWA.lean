/- The statement AggExactUptoSaid. It has no conditions of its own: what is proved is the given statement. -/
import Derived.Test.YtbnbngkbngmndaaBg
import Derived.Test.YtbnbngkbngmndaaBh
set_option linter.all false
namespace Go.Proofs.Ytbnbngkbngmndaa.aggExact
open Go.ChangeShapes Go.WideShapes Go.ChangeAt Go.RowKit Go.Vc Yt
theorem law (avs : List AV) (h : ShArgs Try.prog 1048576 Try.f24.params.toList avs) : Spec0 Try.prog 24 avs (· = .pr (.bool true)) := by
  rw [Try.params24] at h
  obtain ⟨a0, r0, rfl, h0, h⟩ := h.cons
  obtain ⟨a1, r1, rfl, h1, h⟩ := h.cons
  obtain ⟨a2, r2, rfl, h2, h⟩ := h.cons
  obtain ⟨a3, r3, rfl, h3, h⟩ := h.cons
  obtain ⟨a4, r4, rfl, h4, h⟩ := h.cons
  have h := h.nil; subst h
  obtain ⟨z0, e0, l0, t0⟩ := shSet (h0.one (by kernel_rfl))
  obtain ⟨z1, e1, l1, t1⟩ := shSet (h1.one (by kernel_rfl))
  obtain ⟨cols, e2, l2, t2⟩ := shInts (h2.one (by kernel_rfl))
  obtain ⟨k, e3, g3⟩ := sh_int Try.underlying3 (h3.one (by kernel_rfl))
  obtain ⟨v, e4, g4⟩ := sh_int Try.underlying3 (h4.one (by kernel_rfl))
  cases e0; cases e1; cases e2; cases e3; cases e4
  exact c24 z0 z1 cols k v (fun l hl => by simp only [List.mem_cons, List.not_mem_nil, or_false] at hl; rcases hl with rfl | rfl <;> omega) (fun l hl t ht => by
      simp only [List.mem_cons, List.not_mem_nil, or_false] at hl
      rcases hl with rfl | rfl
      · have := (t0 t ht).1; omega
      · have := (t1 t ht).1; omega) (by omega)
set_option maxRecDepth 100000 in
theorem lifted (os : Os) (started : os.Started) (H : Type) (enc : TypeId × Value → H) (F : Stop.Interp) :
    ReturnsInHanded {} Try.checked os 24 .any ((Rows.OpenSpec.upto Rows.aggExactSpec).pre6 enc Try.prog Try.f24 Rows.aggExactUptoRow.domain false) (((Rows.OpenSpec.upto Rows.aggExactSpec).at F).post enc Try.prog Try.f24 false true false false) := by
  refine returnsInHanded_of_cond (C := Try.checked) (s := Rows.OpenSpec.upto Rows.aggExactSpec) (k := Rows.uptoSmall) rfl own started (by kernel_rfl) Try.func24
    (OpenSpec.witness (enc := enc) (C := Try.checked) (s := Rows.OpenSpec.upto Rows.aggExactSpec) (k := Rows.uptoSmall) rfl false ⟨#[], #[.slice none 0 0, .slice none 0 0, .slice none 0 0, .int .i64 0, .int .i64 0], []⟩ 8 (by kernel_rfl) (by kernel_rfl) (by kernel_rfl)
      (x := ([.nil, .nil, .nil, .lit (.int .i64 0), .lit (.int .i64 0)], [], [])) (by kernel_rfl) rfl (by kernel_rfl)) ?_
  intro W base args ds gs before hval hW _ hk _
  have hV := hW
  obtain ⟨_, _, _, hV, _, _, _⟩ := hV
  obtain ⟨rfl, rfl⟩ := trodVars_none hV
  rw [List.append_nil] at hk
  refine law_callsA (B := 1048576) kids sizes (by kernel_rfl) rfl (by kernel_rfl) Try.underlying4 hval hW (bound hk) (fun hl => ?_) law
  rw [Try.params24] at hl
  match ds, hl with
  | [_, _, _, _, _], _ => rfl
theorem facts : joinedFacts Try.prog 24 Try.f24 (Rows.OpenSpec.upto Rows.aggExactSpec).bare Rows.aggExactUptoRow = true :=
  facts_of laid rowed heard cutEnter cutLifts plain cutMade (by kernel_rfl) (by kernel_rfl) (by kernel_rfl) (by kernel_rfl) (by kernel_rfl) (by kernel_rfl) (by kernel_rfl) (by kernel_rfl) (by kernel_rfl) rfl rfl rfl rfl (by kernel_rfl)
theorem proved : Rows.AggExactUptoSaid :=
  OpenClaim.holds_of_cond 24 Try.f24 rfl rfl rfl rfl rfl rfl rfl ⟨rfl, rfl, rfl, rfl, rfl⟩ rfl rfl rfl rfl rfl (by kernel_rfl) Try.func24 facts
    (of_decide_eq_true (by kernel_rfl)) (by unfold Func.isWrapper; first | (rw [if_pos (by decide +kernel)]; kernel_rfl) | (rw [if_neg (by decide +kernel)]; exact ⟨rfl, rfl⟩))
    (fun os started H enc _ F => lifted os started H enc F)
end Go.Proofs.Ytbnbngkbngmndaa.aggExact
