/- The types of the program, as the evaluator knows them. What is proved: contracts of the program's functions over abstract values, or plain facts on which these lean; the conditions stand in each theorem. -/
import Derived.Test.YtpipfaegkgakiaaVcO
import Derived.Eval
import Derived.Test.YtpipfaegkgakiaaChecked
set_option linter.all false
/-! The types of the program, as the evaluator knows them. -/
namespace Yt
open Go Go.Vc Go.Proofs

def T : Nat → TI
  | 3 => ⟨.int .i64, 1, 8, [.pr (.int .i64 0)]⟩
  | 4 => ⟨.bool, 1, 1, [.pr (.bool false)]⟩
  | 9 => ⟨.str, 1, 16, [.pr (.string ⟨#[]⟩)]⟩
  | 22 => ⟨.slice 26, 1, 24, [.nl]⟩
  | 23 => ⟨.slice 67, 1, 24, [.nl]⟩
  | 26 => ⟨.struct [(0, 1), (1, 1)], 2, 32, [.nl, .pr (.int .i64 0)]⟩
  | 27 => ⟨.int .i64, 1, 8, [.pr (.int .i64 0)]⟩
  | 36 => ⟨.slice 23, 1, 24, [.nl]⟩
  | 38 => ⟨.int .u64, 1, 8, [.pr (.int .u64 0)]⟩
  | 54 => ⟨.slice 22, 1, 24, [.nl]⟩
  | 57 => ⟨.func, 1, 8, [.pr .nilFunc]⟩
  | 59 => ⟨.func, 1, 8, [.pr .nilFunc]⟩
  | 61 => ⟨.struct [(0, 1), (1, 1)], 2, 16, [.pr (.int .i64 0), .pr (.int .i64 0)]⟩
  | 67 => ⟨.struct [(0, 1), (1, 1), (2, 1)], 3, 32, [.pr (.int .i64 0), .pr (.int .i64 0), .pr (.string ⟨#[]⟩)]⟩
  | 69 => ⟨.func, 1, 8, [.pr .nilFunc]⟩
  | 72 => ⟨.func, 1, 8, [.pr .nilFunc]⟩
  | 89 => ⟨.slice 3, 1, 24, [.nl]⟩
  | _ => ⟨.other, 0, 0, []⟩

@[go_sem] theorem T_3 : T 3 = ⟨.int .i64, 1, 8, [.pr (.int .i64 0)]⟩ := rfl
@[go_sem] theorem T_4 : T 4 = ⟨.bool, 1, 1, [.pr (.bool false)]⟩ := rfl
@[go_sem] theorem T_9 : T 9 = ⟨.str, 1, 16, [.pr (.string ⟨#[]⟩)]⟩ := rfl
@[go_sem] theorem T_22 : T 22 = ⟨.slice 26, 1, 24, [.nl]⟩ := rfl
@[go_sem] theorem T_23 : T 23 = ⟨.slice 67, 1, 24, [.nl]⟩ := rfl
@[go_sem] theorem T_26 : T 26 = ⟨.struct [(0, 1), (1, 1)], 2, 32, [.nl, .pr (.int .i64 0)]⟩ := rfl
@[go_sem] theorem T_27 : T 27 = ⟨.int .i64, 1, 8, [.pr (.int .i64 0)]⟩ := rfl
@[go_sem] theorem T_36 : T 36 = ⟨.slice 23, 1, 24, [.nl]⟩ := rfl
@[go_sem] theorem T_38 : T 38 = ⟨.int .u64, 1, 8, [.pr (.int .u64 0)]⟩ := rfl
@[go_sem] theorem T_54 : T 54 = ⟨.slice 22, 1, 24, [.nl]⟩ := rfl
@[go_sem] theorem T_57 : T 57 = ⟨.func, 1, 8, [.pr .nilFunc]⟩ := rfl
@[go_sem] theorem T_59 : T 59 = ⟨.func, 1, 8, [.pr .nilFunc]⟩ := rfl
@[go_sem] theorem T_61 : T 61 = ⟨.struct [(0, 1), (1, 1)], 2, 16, [.pr (.int .i64 0), .pr (.int .i64 0)]⟩ := rfl
@[go_sem] theorem T_67 : T 67 = ⟨.struct [(0, 1), (1, 1), (2, 1)], 3, 32, [.pr (.int .i64 0), .pr (.int .i64 0), .pr (.string ⟨#[]⟩)]⟩ := rfl
@[go_sem] theorem T_69 : T 69 = ⟨.func, 1, 8, [.pr .nilFunc]⟩ := rfl
@[go_sem] theorem T_72 : T 72 = ⟨.func, 1, 8, [.pr .nilFunc]⟩ := rfl
@[go_sem] theorem T_89 : T 89 = ⟨.slice 3, 1, 24, [.nl]⟩ := rfl
theorem tabOk : TabOk Try.prog T where
  mixed := Try.checked.mixed
  kinds := by
    intro t
    unfold T
    split
    · exact Try.underlying3
    · exact Try.underlying4
    · exact Try.underlying9
    · exact Try.underlying22
    · exact Try.underlying23
    · exact ⟨_, Try.underlying26, by kernel_rfl, all_info (by kernel_rfl)⟩
    · exact Try.underlying27
    · exact Try.underlying36
    · exact Try.underlying38
    · exact Try.underlying54
    · exact ⟨_, _, _, Try.underlying57⟩
    · exact ⟨_, _, _, Try.underlying59⟩
    · exact ⟨_, Try.underlying61, by kernel_rfl, all_info (by kernel_rfl)⟩
    · exact ⟨_, Try.underlying67, by kernel_rfl, all_info (by kernel_rfl)⟩
    · exact ⟨_, _, _, Try.underlying69⟩
    · exact ⟨_, _, _, Try.underlying72⟩
    · exact Try.underlying89
    · trivial
  infos := by
    intro t ht
    unfold T at ht ⊢
    split at ht
    · exact ⟨Try.t3, _, mkInfo (show Try.prog.info? 3 = some Try.t3 by kernel_rfl) rfl rfl rfl (by kernel_rfl) rfl (by kernel_rfl) (by decide) (by decide) (by decide)⟩
    · exact ⟨Try.t4, _, mkInfo (show Try.prog.info? 4 = some Try.t4 by kernel_rfl) rfl rfl rfl (by kernel_rfl) rfl (by kernel_rfl) (by decide) (by decide) (by decide)⟩
    · exact ⟨Try.t9, _, mkInfo (show Try.prog.info? 9 = some Try.t9 by kernel_rfl) rfl rfl rfl (by kernel_rfl) rfl (by kernel_rfl) (by decide) (by decide) (by decide)⟩
    · exact ⟨Try.t22, _, mkInfo (show Try.prog.info? 22 = some Try.t22 by kernel_rfl) rfl rfl rfl (by kernel_rfl) rfl (by kernel_rfl) (by decide) (by decide) (by decide)⟩
    · exact ⟨Try.t23, _, mkInfo (show Try.prog.info? 23 = some Try.t23 by kernel_rfl) rfl rfl rfl (by kernel_rfl) rfl (by kernel_rfl) (by decide) (by decide) (by decide)⟩
    · exact ⟨Try.t26, _, mkInfo (show Try.prog.info? 26 = some Try.t26 by kernel_rfl) rfl rfl rfl (by kernel_rfl) rfl (by kernel_rfl) (by decide) (by decide) (by decide)⟩
    · exact ⟨Try.t27, _, mkInfo (show Try.prog.info? 27 = some Try.t27 by kernel_rfl) rfl rfl rfl (by kernel_rfl) rfl (by kernel_rfl) (by decide) (by decide) (by decide)⟩
    · exact ⟨Try.t36, _, mkInfo (show Try.prog.info? 36 = some Try.t36 by kernel_rfl) rfl rfl rfl (by kernel_rfl) rfl (by kernel_rfl) (by decide) (by decide) (by decide)⟩
    · exact ⟨Try.t38, _, mkInfo (show Try.prog.info? 38 = some Try.t38 by kernel_rfl) rfl rfl rfl (by kernel_rfl) rfl (by kernel_rfl) (by decide) (by decide) (by decide)⟩
    · exact ⟨Try.t54, _, mkInfo (show Try.prog.info? 54 = some Try.t54 by kernel_rfl) rfl rfl rfl (by kernel_rfl) rfl (by kernel_rfl) (by decide) (by decide) (by decide)⟩
    · exact ⟨Try.t57, _, mkInfo (show Try.prog.info? 57 = some Try.t57 by kernel_rfl) rfl rfl rfl (by kernel_rfl) rfl (by kernel_rfl) (by decide) (by decide) (by decide)⟩
    · exact ⟨Try.t59, _, mkInfo (show Try.prog.info? 59 = some Try.t59 by kernel_rfl) rfl rfl rfl (by kernel_rfl) rfl (by kernel_rfl) (by decide) (by decide) (by decide)⟩
    · exact ⟨Try.t61, _, mkInfo (show Try.prog.info? 61 = some Try.t61 by kernel_rfl) rfl rfl rfl (by kernel_rfl) rfl (by kernel_rfl) (by decide) (by decide) (by decide)⟩
    · exact ⟨Try.t67, _, mkInfo (show Try.prog.info? 67 = some Try.t67 by kernel_rfl) rfl rfl rfl (by kernel_rfl) rfl (by kernel_rfl) (by decide) (by decide) (by decide)⟩
    · exact ⟨Try.t69, _, mkInfo (show Try.prog.info? 69 = some Try.t69 by kernel_rfl) rfl rfl rfl (by kernel_rfl) rfl (by kernel_rfl) (by decide) (by decide) (by decide)⟩
    · exact ⟨Try.t72, _, mkInfo (show Try.prog.info? 72 = some Try.t72 by kernel_rfl) rfl rfl rfl (by kernel_rfl) rfl (by kernel_rfl) (by decide) (by decide) (by decide)⟩
    · exact ⟨Try.t89, _, mkInfo (show Try.prog.info? 89 = some Try.t89 by kernel_rfl) rfl rfl rfl (by kernel_rfl) rfl (by kernel_rfl) (by decide) (by decide) (by decide)⟩
    · cases ht

theorem elems : ∀ t e, (T t).k = .slice e → (T e).k.known = true := by
  intro t e h
  unfold T at h
  split at h <;> cases h <;> rfl

end Yt
