/- The statement LinRowsUptoSaid. It has no conditions of its own: what is proved is the given statement. -/
import Derived.Test.YtbnbngkbngmndaaBe
set_option linter.all false
namespace Go.Proofs.Ytbnbngkbngmndaa.linRows
open Go.ChangeShapes Go.WideShapes Go.ChangeAt Go.RowKit Go.Vc Yt
theorem law (avs : List AV) (h : ShArgs Try.prog 1048576 Try.f15.params.toList avs) : Spec0 Try.prog 15 avs (· = .pr (.bool true)) := by
  rw [Try.params15] at h
  obtain ⟨a0, r0, rfl, h0, h⟩ := h.cons
  obtain ⟨a1, r1, rfl, h1, h⟩ := h.cons
  obtain ⟨a2, r2, rfl, h2, h⟩ := h.cons
  have h := h.nil; subst h
  obtain ⟨l, e0, l0, t0⟩ := shSet (h0.one (by kernel_rfl))
  obtain ⟨cs1, rfl, q1⟩ := h1.rec (by kernel_rfl)
  obtain ⟨p, e1, f1, _⟩ := shPred q1
  obtain ⟨cols, e2, l2, t2⟩ := shInts (h2.one (by kernel_rfl))
  cases e0; cases e1; cases e2
  exact c15 l p cols (by omega) (fun t h => by have := (t0 t h).1; omega) (by omega)
set_option maxRecDepth 100000 in
theorem lifted (os : Os) (started : os.Started) (H : Type) (enc : TypeId × Value → H) (F : Stop.Interp) :
    ReturnsInHanded {} Try.checked os 15 .any ((Rows.OpenSpec.upto Rows.linRowsSpec).pre6 enc Try.prog Try.f15 Rows.linRowsUptoRow.domain false) (((Rows.OpenSpec.upto Rows.linRowsSpec).at F).post enc Try.prog Try.f15 false true false false) := by
  refine returnsInHanded_of_cond (C := Try.checked) (s := Rows.OpenSpec.upto Rows.linRowsSpec) (k := Rows.uptoSmall) rfl own started (by kernel_rfl) Try.func15
    (OpenSpec.witness (enc := enc) (C := Try.checked) (s := Rows.OpenSpec.upto Rows.linRowsSpec) (k := Rows.uptoSmall) rfl false ⟨#[], #[.slice none 0 0, .agg #[.int .i64 0, .int .i64 0, .int .i64 0, .int .i64 0, .int .i64 0, .string ⟨#[]⟩], .slice none 0 0], []⟩ 8 (by kernel_rfl) (by kernel_rfl) (by kernel_rfl)
      (x := ([.nil, .agg [.lit (.int .i64 0), .lit (.int .i64 0), .lit (.int .i64 0), .agg [.lit (.int .i64 0), .lit (.int .i64 0), .lit (.string [])]], .nil], [], [])) (by kernel_rfl) rfl (by kernel_rfl)) ?_
  intro W base args ds gs before hval hW _ hk _
  have hV := hW
  obtain ⟨_, _, _, hV, _, _, _⟩ := hV
  obtain ⟨rfl, rfl⟩ := trodVars_none hV
  rw [List.append_nil] at hk
  refine law_callsA (B := 1048576) kids sizes (by kernel_rfl) rfl (by kernel_rfl) Try.underlying4 hval hW (bound hk) (fun hl => ?_) law
  rw [Try.params15] at hl
  match ds, hl with
  | [_, _, _], _ => rfl
theorem facts : joinedFacts Try.prog 15 Try.f15 (Rows.OpenSpec.upto Rows.linRowsSpec).bare Rows.linRowsUptoRow = true :=
  facts_of laid rowed heard cutEnter cutLifts plain cutMade (by kernel_rfl) (by kernel_rfl) (by kernel_rfl) (by kernel_rfl) (by kernel_rfl) (by kernel_rfl) (by kernel_rfl) (by kernel_rfl) (by kernel_rfl) rfl rfl rfl rfl (by kernel_rfl)
theorem proved : Rows.LinRowsUptoSaid :=
  OpenClaim.holds_of_cond 15 Try.f15 rfl rfl rfl rfl rfl rfl rfl ⟨rfl, rfl, rfl, rfl, rfl⟩ rfl rfl rfl rfl rfl (by kernel_rfl) Try.func15 facts
    (of_decide_eq_true (by kernel_rfl)) (by unfold Func.isWrapper; first | (rw [if_pos (by decide +kernel)]; kernel_rfl) | (rw [if_neg (by decide +kernel)]; exact ⟨rfl, rfl⟩))
    (fun os started H enc _ F => lifted os started H enc F)
end Go.Proofs.Ytbnbngkbngmndaa.linRows
