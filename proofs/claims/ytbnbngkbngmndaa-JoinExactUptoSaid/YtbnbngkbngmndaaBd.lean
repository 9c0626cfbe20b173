/- Contracts of the program's functions over abstract values and states, plain facts on which these lean, and the framework of these values over the model: The types of the program, as the evaluator knows them. The conditions stand in each theorem. -/
import Derived.Test.YtbnbngkbngmndaaBb
import Derived.Eval
import Derived.Test.YtbnbngkbngmndaaChecked
set_option linter.all false
namespace Yt
open Go Go.Vc Go.Proofs

def T : Nat → TI
  | 3 => ⟨.int .i64, 1, 8, [.pr (.int .i64 0)]⟩
  | 4 => ⟨.bool, 1, 1, [.pr (.bool false)]⟩
  | 9 => ⟨.str, 1, 16, [.pr (.string ⟨#[]⟩)]⟩
  | 22 => ⟨.int .u64, 1, 8, [.pr (.int .u64 0)]⟩
  | 23 => ⟨.slice 25, 1, 24, [.nl]⟩
  | 25 => ⟨.struct [(0, 1), (1, 1), (2, 1)], 3, 32, [.pr (.int .i64 0), .pr (.int .i64 0), .pr (.string ⟨#[]⟩)]⟩
  | 27 => ⟨.struct [(0, 1), (1, 1)], 2, 32, [.nl, .pr (.int .i64 0)]⟩
  | 28 => ⟨.slice 27, 1, 24, [.nl]⟩
  | 29 => ⟨.int .i64, 1, 8, [.pr (.int .i64 0)]⟩
  | 32 => ⟨.slice 3, 1, 24, [.nl]⟩
  | 42 => ⟨.slice 4, 1, 24, [.nl]⟩
  | 50 => ⟨.slice 28, 1, 24, [.nl]⟩
  | 55 => ⟨.struct [(0, 1), (1, 1), (2, 1), (3, 3)], 6, 56, [.pr (.int .i64 0), .pr (.int .i64 0), .pr (.int .i64 0), .pr (.int .i64 0), .pr (.int .i64 0), .pr (.string ⟨#[]⟩)]⟩
  | 73 => ⟨.func, 1, 8, [.pr .nilFunc]⟩
  | 81 => ⟨.slice 85, 1, 24, [.nl]⟩
  | 85 => ⟨.struct [(0, 2), (2, 2)], 4, 64, [.nl, .pr (.int .i64 0), .nl, .pr (.int .i64 0)]⟩
  | 93 => ⟨.func, 1, 8, [.pr .nilFunc]⟩
  | 102 => ⟨.func, 1, 8, [.pr .nilFunc]⟩
  | 104 => ⟨.slice 107, 1, 24, [.nl]⟩
  | 107 => ⟨.struct [(0, 1), (1, 1)], 2, 48, [.nl, .nl]⟩
  | 113 => ⟨.int .u64, 1, 8, [.pr (.int .u64 0)]⟩
  | 117 => ⟨.slice 23, 1, 24, [.nl]⟩
  | 121 => ⟨.func, 1, 8, [.pr .nilFunc]⟩
  | 123 => ⟨.struct [(0, 1), (1, 1)], 2, 16, [.pr (.int .i64 0), .pr (.int .i64 0)]⟩
  | 127 => ⟨.func, 1, 8, [.pr .nilFunc]⟩
  | 136 => ⟨.func, 1, 8, [.pr .nilFunc]⟩
  | _ => ⟨.other, 0, 0, []⟩

@[go_sem] theorem T_3 : T 3 = ⟨.int .i64, 1, 8, [.pr (.int .i64 0)]⟩ := rfl
@[go_sem] theorem T_4 : T 4 = ⟨.bool, 1, 1, [.pr (.bool false)]⟩ := rfl
@[go_sem] theorem T_9 : T 9 = ⟨.str, 1, 16, [.pr (.string ⟨#[]⟩)]⟩ := rfl
@[go_sem] theorem T_22 : T 22 = ⟨.int .u64, 1, 8, [.pr (.int .u64 0)]⟩ := rfl
@[go_sem] theorem T_23 : T 23 = ⟨.slice 25, 1, 24, [.nl]⟩ := rfl
@[go_sem] theorem T_25 : T 25 = ⟨.struct [(0, 1), (1, 1), (2, 1)], 3, 32, [.pr (.int .i64 0), .pr (.int .i64 0), .pr (.string ⟨#[]⟩)]⟩ := rfl
@[go_sem] theorem T_27 : T 27 = ⟨.struct [(0, 1), (1, 1)], 2, 32, [.nl, .pr (.int .i64 0)]⟩ := rfl
@[go_sem] theorem T_28 : T 28 = ⟨.slice 27, 1, 24, [.nl]⟩ := rfl
@[go_sem] theorem T_29 : T 29 = ⟨.int .i64, 1, 8, [.pr (.int .i64 0)]⟩ := rfl
@[go_sem] theorem T_32 : T 32 = ⟨.slice 3, 1, 24, [.nl]⟩ := rfl
@[go_sem] theorem T_42 : T 42 = ⟨.slice 4, 1, 24, [.nl]⟩ := rfl
@[go_sem] theorem T_50 : T 50 = ⟨.slice 28, 1, 24, [.nl]⟩ := rfl
@[go_sem] theorem T_55 : T 55 = ⟨.struct [(0, 1), (1, 1), (2, 1), (3, 3)], 6, 56, [.pr (.int .i64 0), .pr (.int .i64 0), .pr (.int .i64 0), .pr (.int .i64 0), .pr (.int .i64 0), .pr (.string ⟨#[]⟩)]⟩ := rfl
@[go_sem] theorem T_73 : T 73 = ⟨.func, 1, 8, [.pr .nilFunc]⟩ := rfl
@[go_sem] theorem T_81 : T 81 = ⟨.slice 85, 1, 24, [.nl]⟩ := rfl
@[go_sem] theorem T_85 : T 85 = ⟨.struct [(0, 2), (2, 2)], 4, 64, [.nl, .pr (.int .i64 0), .nl, .pr (.int .i64 0)]⟩ := rfl
@[go_sem] theorem T_93 : T 93 = ⟨.func, 1, 8, [.pr .nilFunc]⟩ := rfl
@[go_sem] theorem T_102 : T 102 = ⟨.func, 1, 8, [.pr .nilFunc]⟩ := rfl
@[go_sem] theorem T_104 : T 104 = ⟨.slice 107, 1, 24, [.nl]⟩ := rfl
@[go_sem] theorem T_107 : T 107 = ⟨.struct [(0, 1), (1, 1)], 2, 48, [.nl, .nl]⟩ := rfl
@[go_sem] theorem T_113 : T 113 = ⟨.int .u64, 1, 8, [.pr (.int .u64 0)]⟩ := rfl
@[go_sem] theorem T_117 : T 117 = ⟨.slice 23, 1, 24, [.nl]⟩ := rfl
@[go_sem] theorem T_121 : T 121 = ⟨.func, 1, 8, [.pr .nilFunc]⟩ := rfl
@[go_sem] theorem T_123 : T 123 = ⟨.struct [(0, 1), (1, 1)], 2, 16, [.pr (.int .i64 0), .pr (.int .i64 0)]⟩ := rfl
@[go_sem] theorem T_127 : T 127 = ⟨.func, 1, 8, [.pr .nilFunc]⟩ := rfl
@[go_sem] theorem T_136 : T 136 = ⟨.func, 1, 8, [.pr .nilFunc]⟩ := rfl
theorem tabOk : TabOk Try.prog T where
  mixed := Try.checked.mixed
  kinds := by
    intro t
    unfold T
    split
    · exact Try.underlying3
    · exact Try.underlying4
    · exact Try.underlying9
    · exact Try.underlying22
    · exact Try.underlying23
    · exact ⟨_, Try.underlying25, by kernel_rfl, all_info (by kernel_rfl)⟩
    · exact ⟨_, Try.underlying27, by kernel_rfl, all_info (by kernel_rfl)⟩
    · exact Try.underlying28
    · exact Try.underlying29
    · exact Try.underlying32
    · exact Try.underlying42
    · exact Try.underlying50
    · exact ⟨_, Try.underlying55, by kernel_rfl, all_info (by kernel_rfl)⟩
    · exact ⟨_, _, _, Try.underlying73⟩
    · exact Try.underlying81
    · exact ⟨_, Try.underlying85, by kernel_rfl, all_info (by kernel_rfl)⟩
    · exact ⟨_, _, _, Try.underlying93⟩
    · exact ⟨_, _, _, Try.underlying102⟩
    · exact Try.underlying104
    · exact ⟨_, Try.underlying107, by kernel_rfl, all_info (by kernel_rfl)⟩
    · exact Try.underlying113
    · exact Try.underlying117
    · exact ⟨_, _, _, Try.underlying121⟩
    · exact ⟨_, Try.underlying123, by kernel_rfl, all_info (by kernel_rfl)⟩
    · exact ⟨_, _, _, Try.underlying127⟩
    · exact ⟨_, _, _, Try.underlying136⟩
    · trivial
  infos := by
    intro t ht
    unfold T at ht ⊢
    split at ht
    · exact ⟨Try.t3, _, mkInfo (show Try.prog.info? 3 = some Try.t3 by kernel_rfl) rfl rfl rfl (by kernel_rfl) rfl (by kernel_rfl) (by decide) (by decide) (by decide)⟩
    · exact ⟨Try.t4, _, mkInfo (show Try.prog.info? 4 = some Try.t4 by kernel_rfl) rfl rfl rfl (by kernel_rfl) rfl (by kernel_rfl) (by decide) (by decide) (by decide)⟩
    · exact ⟨Try.t9, _, mkInfo (show Try.prog.info? 9 = some Try.t9 by kernel_rfl) rfl rfl rfl (by kernel_rfl) rfl (by kernel_rfl) (by decide) (by decide) (by decide)⟩
    · exact ⟨Try.t22, _, mkInfo (show Try.prog.info? 22 = some Try.t22 by kernel_rfl) rfl rfl rfl (by kernel_rfl) rfl (by kernel_rfl) (by decide) (by decide) (by decide)⟩
    · exact ⟨Try.t23, _, mkInfo (show Try.prog.info? 23 = some Try.t23 by kernel_rfl) rfl rfl rfl (by kernel_rfl) rfl (by kernel_rfl) (by decide) (by decide) (by decide)⟩
    · exact ⟨Try.t25, _, mkInfo (show Try.prog.info? 25 = some Try.t25 by kernel_rfl) rfl rfl rfl (by kernel_rfl) rfl (by kernel_rfl) (by decide) (by decide) (by decide)⟩
    · exact ⟨Try.t27, _, mkInfo (show Try.prog.info? 27 = some Try.t27 by kernel_rfl) rfl rfl rfl (by kernel_rfl) rfl (by kernel_rfl) (by decide) (by decide) (by decide)⟩
    · exact ⟨Try.t28, _, mkInfo (show Try.prog.info? 28 = some Try.t28 by kernel_rfl) rfl rfl rfl (by kernel_rfl) rfl (by kernel_rfl) (by decide) (by decide) (by decide)⟩
    · exact ⟨Try.t29, _, mkInfo (show Try.prog.info? 29 = some Try.t29 by kernel_rfl) rfl rfl rfl (by kernel_rfl) rfl (by kernel_rfl) (by decide) (by decide) (by decide)⟩
    · exact ⟨Try.t32, _, mkInfo (show Try.prog.info? 32 = some Try.t32 by kernel_rfl) rfl rfl rfl (by kernel_rfl) rfl (by kernel_rfl) (by decide) (by decide) (by decide)⟩
    · exact ⟨Try.t42, _, mkInfo (show Try.prog.info? 42 = some Try.t42 by kernel_rfl) rfl rfl rfl (by kernel_rfl) rfl (by kernel_rfl) (by decide) (by decide) (by decide)⟩
    · exact ⟨Try.t50, _, mkInfo (show Try.prog.info? 50 = some Try.t50 by kernel_rfl) rfl rfl rfl (by kernel_rfl) rfl (by kernel_rfl) (by decide) (by decide) (by decide)⟩
    · exact ⟨Try.t55, _, mkInfo (show Try.prog.info? 55 = some Try.t55 by kernel_rfl) rfl rfl rfl (by kernel_rfl) rfl (by kernel_rfl) (by decide) (by decide) (by decide)⟩
    · exact ⟨Try.t73, _, mkInfo (show Try.prog.info? 73 = some Try.t73 by kernel_rfl) rfl rfl rfl (by kernel_rfl) rfl (by kernel_rfl) (by decide) (by decide) (by decide)⟩
    · exact ⟨Try.t81, _, mkInfo (show Try.prog.info? 81 = some Try.t81 by kernel_rfl) rfl rfl rfl (by kernel_rfl) rfl (by kernel_rfl) (by decide) (by decide) (by decide)⟩
    · exact ⟨Try.t85, _, mkInfo (show Try.prog.info? 85 = some Try.t85 by kernel_rfl) rfl rfl rfl (by kernel_rfl) rfl (by kernel_rfl) (by decide) (by decide) (by decide)⟩
    · exact ⟨Try.t93, _, mkInfo (show Try.prog.info? 93 = some Try.t93 by kernel_rfl) rfl rfl rfl (by kernel_rfl) rfl (by kernel_rfl) (by decide) (by decide) (by decide)⟩
    · exact ⟨Try.t102, _, mkInfo (show Try.prog.info? 102 = some Try.t102 by kernel_rfl) rfl rfl rfl (by kernel_rfl) rfl (by kernel_rfl) (by decide) (by decide) (by decide)⟩
    · exact ⟨Try.t104, _, mkInfo (show Try.prog.info? 104 = some Try.t104 by kernel_rfl) rfl rfl rfl (by kernel_rfl) rfl (by kernel_rfl) (by decide) (by decide) (by decide)⟩
    · exact ⟨Try.t107, _, mkInfo (show Try.prog.info? 107 = some Try.t107 by kernel_rfl) rfl rfl rfl (by kernel_rfl) rfl (by kernel_rfl) (by decide) (by decide) (by decide)⟩
    · exact ⟨Try.t113, _, mkInfo (show Try.prog.info? 113 = some Try.t113 by kernel_rfl) rfl rfl rfl (by kernel_rfl) rfl (by kernel_rfl) (by decide) (by decide) (by decide)⟩
    · exact ⟨Try.t117, _, mkInfo (show Try.prog.info? 117 = some Try.t117 by kernel_rfl) rfl rfl rfl (by kernel_rfl) rfl (by kernel_rfl) (by decide) (by decide) (by decide)⟩
    · exact ⟨Try.t121, _, mkInfo (show Try.prog.info? 121 = some Try.t121 by kernel_rfl) rfl rfl rfl (by kernel_rfl) rfl (by kernel_rfl) (by decide) (by decide) (by decide)⟩
    · exact ⟨Try.t123, _, mkInfo (show Try.prog.info? 123 = some Try.t123 by kernel_rfl) rfl rfl rfl (by kernel_rfl) rfl (by kernel_rfl) (by decide) (by decide) (by decide)⟩
    · exact ⟨Try.t127, _, mkInfo (show Try.prog.info? 127 = some Try.t127 by kernel_rfl) rfl rfl rfl (by kernel_rfl) rfl (by kernel_rfl) (by decide) (by decide) (by decide)⟩
    · exact ⟨Try.t136, _, mkInfo (show Try.prog.info? 136 = some Try.t136 by kernel_rfl) rfl rfl rfl (by kernel_rfl) rfl (by kernel_rfl) (by decide) (by decide) (by decide)⟩
    · cases ht

theorem elems : ∀ t e, (T t).k = .slice e → (T e).k.known = true := by
  intro t e h
  unfold T at h
  split at h <;> cases h <;> rfl

end Yt
