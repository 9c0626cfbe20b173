/- Contracts of the program's functions over abstract values and states, plain facts on which these lean, and the framework of these values over the model: The types of the program, as the evaluator knows them. Orders. Values and rows: how they compare. Values and rows: which may be. A stable sort, in place: what it leaves. A rotation, in place. An insertion sort, in place. Merging in place: the plain part. Merging in place: the walk. Sorting stably, in place: the whole. The conditions stand in each theorem. -/
import Derived.Test.YtbnbngkbngmndaaBb
import Derived.Eval
import Derived.Test.YtbnbngkbngmndaaChecked
set_option linter.all false
namespace Yt
open Go Go.Vc Go.Proofs

def T : Nat → TI
  | 3 => ⟨.int .i64, 1, 8, [.pr (.int .i64 0)]⟩
  | 4 => ⟨.bool, 1, 1, [.pr (.bool false)]⟩
  | 9 => ⟨.str, 1, 16, [.pr (.string ⟨#[]⟩)]⟩
  | 22 => ⟨.int .u64, 1, 8, [.pr (.int .u64 0)]⟩
  | 23 => ⟨.slice 25, 1, 24, [.nl]⟩
  | 25 => ⟨.struct [(0, 1), (1, 1), (2, 1)], 3, 32, [.pr (.int .i64 0), .pr (.int .i64 0), .pr (.string ⟨#[]⟩)]⟩
  | 27 => ⟨.struct [(0, 1), (1, 1)], 2, 32, [.nl, .pr (.int .i64 0)]⟩
  | 28 => ⟨.slice 27, 1, 24, [.nl]⟩
  | 29 => ⟨.int .i64, 1, 8, [.pr (.int .i64 0)]⟩
  | 32 => ⟨.slice 3, 1, 24, [.nl]⟩
  | 42 => ⟨.slice 4, 1, 24, [.nl]⟩
  | 50 => ⟨.slice 28, 1, 24, [.nl]⟩
  | 55 => ⟨.struct [(0, 1), (1, 1), (2, 1), (3, 3)], 6, 56, [.pr (.int .i64 0), .pr (.int .i64 0), .pr (.int .i64 0), .pr (.int .i64 0), .pr (.int .i64 0), .pr (.string ⟨#[]⟩)]⟩
  | 73 => ⟨.func, 1, 8, [.pr .nilFunc]⟩
  | 81 => ⟨.slice 85, 1, 24, [.nl]⟩
  | 85 => ⟨.struct [(0, 2), (2, 2)], 4, 64, [.nl, .pr (.int .i64 0), .nl, .pr (.int .i64 0)]⟩
  | 93 => ⟨.func, 1, 8, [.pr .nilFunc]⟩
  | 102 => ⟨.func, 1, 8, [.pr .nilFunc]⟩
  | 104 => ⟨.slice 107, 1, 24, [.nl]⟩
  | 107 => ⟨.struct [(0, 1), (1, 1)], 2, 48, [.nl, .nl]⟩
  | 113 => ⟨.int .u64, 1, 8, [.pr (.int .u64 0)]⟩
  | 117 => ⟨.slice 23, 1, 24, [.nl]⟩
  | 121 => ⟨.func, 1, 8, [.pr .nilFunc]⟩
  | 123 => ⟨.struct [(0, 1), (1, 1)], 2, 16, [.pr (.int .i64 0), .pr (.int .i64 0)]⟩
  | 127 => ⟨.func, 1, 8, [.pr .nilFunc]⟩
  | 136 => ⟨.func, 1, 8, [.pr .nilFunc]⟩
  | _ => ⟨.other, 0, 0, []⟩

@[go_sem] theorem T_3 : T 3 = ⟨.int .i64, 1, 8, [.pr (.int .i64 0)]⟩ := rfl
@[go_sem] theorem T_4 : T 4 = ⟨.bool, 1, 1, [.pr (.bool false)]⟩ := rfl
@[go_sem] theorem T_9 : T 9 = ⟨.str, 1, 16, [.pr (.string ⟨#[]⟩)]⟩ := rfl
@[go_sem] theorem T_22 : T 22 = ⟨.int .u64, 1, 8, [.pr (.int .u64 0)]⟩ := rfl
@[go_sem] theorem T_23 : T 23 = ⟨.slice 25, 1, 24, [.nl]⟩ := rfl
@[go_sem] theorem T_25 : T 25 = ⟨.struct [(0, 1), (1, 1), (2, 1)], 3, 32, [.pr (.int .i64 0), .pr (.int .i64 0), .pr (.string ⟨#[]⟩)]⟩ := rfl
@[go_sem] theorem T_27 : T 27 = ⟨.struct [(0, 1), (1, 1)], 2, 32, [.nl, .pr (.int .i64 0)]⟩ := rfl
@[go_sem] theorem T_28 : T 28 = ⟨.slice 27, 1, 24, [.nl]⟩ := rfl
@[go_sem] theorem T_29 : T 29 = ⟨.int .i64, 1, 8, [.pr (.int .i64 0)]⟩ := rfl
@[go_sem] theorem T_32 : T 32 = ⟨.slice 3, 1, 24, [.nl]⟩ := rfl
@[go_sem] theorem T_42 : T 42 = ⟨.slice 4, 1, 24, [.nl]⟩ := rfl
@[go_sem] theorem T_50 : T 50 = ⟨.slice 28, 1, 24, [.nl]⟩ := rfl
@[go_sem] theorem T_55 : T 55 = ⟨.struct [(0, 1), (1, 1), (2, 1), (3, 3)], 6, 56, [.pr (.int .i64 0), .pr (.int .i64 0), .pr (.int .i64 0), .pr (.int .i64 0), .pr (.int .i64 0), .pr (.string ⟨#[]⟩)]⟩ := rfl
@[go_sem] theorem T_73 : T 73 = ⟨.func, 1, 8, [.pr .nilFunc]⟩ := rfl
@[go_sem] theorem T_81 : T 81 = ⟨.slice 85, 1, 24, [.nl]⟩ := rfl
@[go_sem] theorem T_85 : T 85 = ⟨.struct [(0, 2), (2, 2)], 4, 64, [.nl, .pr (.int .i64 0), .nl, .pr (.int .i64 0)]⟩ := rfl
@[go_sem] theorem T_93 : T 93 = ⟨.func, 1, 8, [.pr .nilFunc]⟩ := rfl
@[go_sem] theorem T_102 : T 102 = ⟨.func, 1, 8, [.pr .nilFunc]⟩ := rfl
@[go_sem] theorem T_104 : T 104 = ⟨.slice 107, 1, 24, [.nl]⟩ := rfl
@[go_sem] theorem T_107 : T 107 = ⟨.struct [(0, 1), (1, 1)], 2, 48, [.nl, .nl]⟩ := rfl
@[go_sem] theorem T_113 : T 113 = ⟨.int .u64, 1, 8, [.pr (.int .u64 0)]⟩ := rfl
@[go_sem] theorem T_117 : T 117 = ⟨.slice 23, 1, 24, [.nl]⟩ := rfl
@[go_sem] theorem T_121 : T 121 = ⟨.func, 1, 8, [.pr .nilFunc]⟩ := rfl
@[go_sem] theorem T_123 : T 123 = ⟨.struct [(0, 1), (1, 1)], 2, 16, [.pr (.int .i64 0), .pr (.int .i64 0)]⟩ := rfl
@[go_sem] theorem T_127 : T 127 = ⟨.func, 1, 8, [.pr .nilFunc]⟩ := rfl
@[go_sem] theorem T_136 : T 136 = ⟨.func, 1, 8, [.pr .nilFunc]⟩ := rfl
theorem tabOk : TabOk Try.prog T where
  mixed := Try.checked.mixed
  kinds := by
    intro t
    unfold T
    split
    · exact Try.underlying3
    · exact Try.underlying4
    · exact Try.underlying9
    · exact Try.underlying22
    · exact Try.underlying23
    · exact ⟨_, Try.underlying25, by kernel_rfl, all_info (by kernel_rfl)⟩
    · exact ⟨_, Try.underlying27, by kernel_rfl, all_info (by kernel_rfl)⟩
    · exact Try.underlying28
    · exact Try.underlying29
    · exact Try.underlying32
    · exact Try.underlying42
    · exact Try.underlying50
    · exact ⟨_, Try.underlying55, by kernel_rfl, all_info (by kernel_rfl)⟩
    · exact ⟨_, _, _, Try.underlying73⟩
    · exact Try.underlying81
    · exact ⟨_, Try.underlying85, by kernel_rfl, all_info (by kernel_rfl)⟩
    · exact ⟨_, _, _, Try.underlying93⟩
    · exact ⟨_, _, _, Try.underlying102⟩
    · exact Try.underlying104
    · exact ⟨_, Try.underlying107, by kernel_rfl, all_info (by kernel_rfl)⟩
    · exact Try.underlying113
    · exact Try.underlying117
    · exact ⟨_, _, _, Try.underlying121⟩
    · exact ⟨_, Try.underlying123, by kernel_rfl, all_info (by kernel_rfl)⟩
    · exact ⟨_, _, _, Try.underlying127⟩
    · exact ⟨_, _, _, Try.underlying136⟩
    · trivial
  infos := by
    intro t ht
    unfold T at ht ⊢
    split at ht
    · exact ⟨Try.t3, _, mkInfo (show Try.prog.info? 3 = some Try.t3 by kernel_rfl) rfl rfl rfl (by kernel_rfl) rfl (by kernel_rfl) (by decide) (by decide) (by decide)⟩
    · exact ⟨Try.t4, _, mkInfo (show Try.prog.info? 4 = some Try.t4 by kernel_rfl) rfl rfl rfl (by kernel_rfl) rfl (by kernel_rfl) (by decide) (by decide) (by decide)⟩
    · exact ⟨Try.t9, _, mkInfo (show Try.prog.info? 9 = some Try.t9 by kernel_rfl) rfl rfl rfl (by kernel_rfl) rfl (by kernel_rfl) (by decide) (by decide) (by decide)⟩
    · exact ⟨Try.t22, _, mkInfo (show Try.prog.info? 22 = some Try.t22 by kernel_rfl) rfl rfl rfl (by kernel_rfl) rfl (by kernel_rfl) (by decide) (by decide) (by decide)⟩
    · exact ⟨Try.t23, _, mkInfo (show Try.prog.info? 23 = some Try.t23 by kernel_rfl) rfl rfl rfl (by kernel_rfl) rfl (by kernel_rfl) (by decide) (by decide) (by decide)⟩
    · exact ⟨Try.t25, _, mkInfo (show Try.prog.info? 25 = some Try.t25 by kernel_rfl) rfl rfl rfl (by kernel_rfl) rfl (by kernel_rfl) (by decide) (by decide) (by decide)⟩
    · exact ⟨Try.t27, _, mkInfo (show Try.prog.info? 27 = some Try.t27 by kernel_rfl) rfl rfl rfl (by kernel_rfl) rfl (by kernel_rfl) (by decide) (by decide) (by decide)⟩
    · exact ⟨Try.t28, _, mkInfo (show Try.prog.info? 28 = some Try.t28 by kernel_rfl) rfl rfl rfl (by kernel_rfl) rfl (by kernel_rfl) (by decide) (by decide) (by decide)⟩
    · exact ⟨Try.t29, _, mkInfo (show Try.prog.info? 29 = some Try.t29 by kernel_rfl) rfl rfl rfl (by kernel_rfl) rfl (by kernel_rfl) (by decide) (by decide) (by decide)⟩
    · exact ⟨Try.t32, _, mkInfo (show Try.prog.info? 32 = some Try.t32 by kernel_rfl) rfl rfl rfl (by kernel_rfl) rfl (by kernel_rfl) (by decide) (by decide) (by decide)⟩
    · exact ⟨Try.t42, _, mkInfo (show Try.prog.info? 42 = some Try.t42 by kernel_rfl) rfl rfl rfl (by kernel_rfl) rfl (by kernel_rfl) (by decide) (by decide) (by decide)⟩
    · exact ⟨Try.t50, _, mkInfo (show Try.prog.info? 50 = some Try.t50 by kernel_rfl) rfl rfl rfl (by kernel_rfl) rfl (by kernel_rfl) (by decide) (by decide) (by decide)⟩
    · exact ⟨Try.t55, _, mkInfo (show Try.prog.info? 55 = some Try.t55 by kernel_rfl) rfl rfl rfl (by kernel_rfl) rfl (by kernel_rfl) (by decide) (by decide) (by decide)⟩
    · exact ⟨Try.t73, _, mkInfo (show Try.prog.info? 73 = some Try.t73 by kernel_rfl) rfl rfl rfl (by kernel_rfl) rfl (by kernel_rfl) (by decide) (by decide) (by decide)⟩
    · exact ⟨Try.t81, _, mkInfo (show Try.prog.info? 81 = some Try.t81 by kernel_rfl) rfl rfl rfl (by kernel_rfl) rfl (by kernel_rfl) (by decide) (by decide) (by decide)⟩
    · exact ⟨Try.t85, _, mkInfo (show Try.prog.info? 85 = some Try.t85 by kernel_rfl) rfl rfl rfl (by kernel_rfl) rfl (by kernel_rfl) (by decide) (by decide) (by decide)⟩
    · exact ⟨Try.t93, _, mkInfo (show Try.prog.info? 93 = some Try.t93 by kernel_rfl) rfl rfl rfl (by kernel_rfl) rfl (by kernel_rfl) (by decide) (by decide) (by decide)⟩
    · exact ⟨Try.t102, _, mkInfo (show Try.prog.info? 102 = some Try.t102 by kernel_rfl) rfl rfl rfl (by kernel_rfl) rfl (by kernel_rfl) (by decide) (by decide) (by decide)⟩
    · exact ⟨Try.t104, _, mkInfo (show Try.prog.info? 104 = some Try.t104 by kernel_rfl) rfl rfl rfl (by kernel_rfl) rfl (by kernel_rfl) (by decide) (by decide) (by decide)⟩
    · exact ⟨Try.t107, _, mkInfo (show Try.prog.info? 107 = some Try.t107 by kernel_rfl) rfl rfl rfl (by kernel_rfl) rfl (by kernel_rfl) (by decide) (by decide) (by decide)⟩
    · exact ⟨Try.t113, _, mkInfo (show Try.prog.info? 113 = some Try.t113 by kernel_rfl) rfl rfl rfl (by kernel_rfl) rfl (by kernel_rfl) (by decide) (by decide) (by decide)⟩
    · exact ⟨Try.t117, _, mkInfo (show Try.prog.info? 117 = some Try.t117 by kernel_rfl) rfl rfl rfl (by kernel_rfl) rfl (by kernel_rfl) (by decide) (by decide) (by decide)⟩
    · exact ⟨Try.t121, _, mkInfo (show Try.prog.info? 121 = some Try.t121 by kernel_rfl) rfl rfl rfl (by kernel_rfl) rfl (by kernel_rfl) (by decide) (by decide) (by decide)⟩
    · exact ⟨Try.t123, _, mkInfo (show Try.prog.info? 123 = some Try.t123 by kernel_rfl) rfl rfl rfl (by kernel_rfl) rfl (by kernel_rfl) (by decide) (by decide) (by decide)⟩
    · exact ⟨Try.t127, _, mkInfo (show Try.prog.info? 127 = some Try.t127 by kernel_rfl) rfl rfl rfl (by kernel_rfl) rfl (by kernel_rfl) (by decide) (by decide) (by decide)⟩
    · exact ⟨Try.t136, _, mkInfo (show Try.prog.info? 136 = some Try.t136 by kernel_rfl) rfl rfl rfl (by kernel_rfl) rfl (by kernel_rfl) (by decide) (by decide) (by decide)⟩
    · cases ht

theorem elems : ∀ t e, (T t).k = .slice e → (T e).k.known = true := by
  intro t e h
  unfold T at h
  split at h <;> cases h <;> rfl

end Yt
namespace Yt
open Go Go.Vc
def ord4 : Ords
  | 6 => some (.lin [(0, none, false, false), (1, none, false, false), (2, none, false, false), (3, none, false, false), (4, none, true, false), (5, none, false, false), (6, none, false, false), (7, none, false, false), (8, none, false, false), (9, none, false, false)])
  | 9 => some (.lin [(0, none, false, false), (1, none, false, false), (2, none, true, false), (3, none, false, false), (4, none, false, false), (5, none, false, false), (6, none, true, false), (7, none, false, false), (8, none, false, false), (9, none, false, false), (10, none, false, false), (11, none, false, false), (12, none, false, false), (13, none, false, false), (14, none, true, false), (15, none, false, false), (16, none, false, false), (17, none, false, false)])
  | 10 => some (.lin [(0, none, false, false), (1, none, false, false), (2, none, true, false), (3, none, false, false), (4, none, false, false), (5, none, false, false), (6, none, false, false), (7, none, false, false), (8, none, false, false)])
  | 14 => some (.lin [(0, none, false, false), (1, none, false, false), (2, none, true, false), (3, none, false, false), (4, none, false, false), (5, none, false, false), (6, none, false, false), (7, none, true, false), (8, none, false, false), (9, none, false, false), (10, none, false, false), (11, none, false, false), (12, none, true, false), (13, none, false, false), (14, none, false, false), (15, none, false, false)])
  | 17 => some (.lin [(0, none, false, false), (1, none, false, false), (2, none, false, false), (3, none, true, false), (4, none, false, false), (5, none, false, false), (6, none, false, false), (7, none, false, false), (8, none, true, false), (9, none, false, false), (10, none, false, false), (11, none, false, false)])
  | 19 => some (.lin [(0, none, false, false), (1, none, false, false), (2, none, true, false), (3, none, false, false), (4, none, false, false), (5, none, false, false), (6, none, false, false), (7, none, true, false), (8, none, false, false), (9, none, false, false), (10, none, false, false), (11, none, false, false), (12, none, true, false), (13, none, false, false), (14, none, false, false), (15, none, false, false)])
  | _ => none
@[go_sem] theorem ord4_0 : ord4 0 = none := rfl
@[go_sem] theorem ord4_1 : ord4 1 = none := rfl
@[go_sem] theorem ord4_2 : ord4 2 = none := rfl
@[go_sem] theorem ord4_3 : ord4 3 = none := rfl
@[go_sem] theorem ord4_4 : ord4 4 = none := rfl
@[go_sem] theorem ord4_5 : ord4 5 = none := rfl
@[go_sem] theorem ord4_6 : ord4 6 = some (.lin [(0, none, false, false), (1, none, false, false), (2, none, false, false), (3, none, false, false), (4, none, true, false), (5, none, false, false), (6, none, false, false), (7, none, false, false), (8, none, false, false), (9, none, false, false)]) := rfl
@[go_sem] theorem ord4_7 : ord4 7 = none := rfl
@[go_sem] theorem ord4_8 : ord4 8 = none := rfl
@[go_sem] theorem ord4_9 : ord4 9 = some (.lin [(0, none, false, false), (1, none, false, false), (2, none, true, false), (3, none, false, false), (4, none, false, false), (5, none, false, false), (6, none, true, false), (7, none, false, false), (8, none, false, false), (9, none, false, false), (10, none, false, false), (11, none, false, false), (12, none, false, false), (13, none, false, false), (14, none, true, false), (15, none, false, false), (16, none, false, false), (17, none, false, false)]) := rfl
@[go_sem] theorem ord4_10 : ord4 10 = some (.lin [(0, none, false, false), (1, none, false, false), (2, none, true, false), (3, none, false, false), (4, none, false, false), (5, none, false, false), (6, none, false, false), (7, none, false, false), (8, none, false, false)]) := rfl
@[go_sem] theorem ord4_11 : ord4 11 = none := rfl
@[go_sem] theorem ord4_12 : ord4 12 = none := rfl
@[go_sem] theorem ord4_13 : ord4 13 = none := rfl
@[go_sem] theorem ord4_14 : ord4 14 = some (.lin [(0, none, false, false), (1, none, false, false), (2, none, true, false), (3, none, false, false), (4, none, false, false), (5, none, false, false), (6, none, false, false), (7, none, true, false), (8, none, false, false), (9, none, false, false), (10, none, false, false), (11, none, false, false), (12, none, true, false), (13, none, false, false), (14, none, false, false), (15, none, false, false)]) := rfl
@[go_sem] theorem ord4_15 : ord4 15 = none := rfl
@[go_sem] theorem ord4_16 : ord4 16 = none := rfl
@[go_sem] theorem ord4_17 : ord4 17 = some (.lin [(0, none, false, false), (1, none, false, false), (2, none, false, false), (3, none, true, false), (4, none, false, false), (5, none, false, false), (6, none, false, false), (7, none, false, false), (8, none, true, false), (9, none, false, false), (10, none, false, false), (11, none, false, false)]) := rfl
@[go_sem] theorem ord4_18 : ord4 18 = none := rfl
@[go_sem] theorem ord4_19 : ord4 19 = some (.lin [(0, none, false, false), (1, none, false, false), (2, none, true, false), (3, none, false, false), (4, none, false, false), (5, none, false, false), (6, none, false, false), (7, none, true, false), (8, none, false, false), (9, none, false, false), (10, none, false, false), (11, none, false, false), (12, none, true, false), (13, none, false, false), (14, none, false, false), (15, none, false, false)]) := rfl
def ord24 : Ords
  | 1 => some (.lin [(0, none, false, false), (1, none, false, false), (2, none, false, false), (3, none, false, false), (4, none, true, false), (5, none, false, false), (6, none, false, false), (7, none, false, false), (8, none, false, false)])
  | 6 => some (.lin [(0, none, false, false), (1, none, false, false), (2, none, false, false), (3, none, false, false), (4, none, true, false), (5, none, false, false), (6, none, false, false), (7, none, false, false), (8, none, false, false), (9, none, false, false), (10, none, true, false), (11, none, false, false), (12, none, false, false), (13, none, false, false), (14, none, false, false), (15, none, false, false)])
  | 9 => some (.lin [(0, none, false, false), (1, none, false, false), (2, none, true, false), (3, none, false, false), (4, none, false, false), (5, none, false, false), (6, none, true, false), (7, none, false, false), (8, none, false, false), (9, none, false, false), (10, none, false, false), (11, none, false, false), (12, none, false, false), (13, none, false, false), (14, none, true, false), (15, none, false, false), (16, none, false, false), (17, none, false, false)])
  | 11 => some (.lin [(0, none, false, false), (1, none, false, false), (2, none, false, false), (3, none, true, false), (4, none, false, false), (5, none, false, false), (6, none, false, false), (7, none, false, false), (8, none, false, false)])
  | 15 => some (.lin [(0, none, false, false), (1, none, false, false), (2, none, true, false), (3, none, false, false), (4, none, false, false), (5, none, false, false), (6, none, false, false), (7, none, true, false), (8, none, false, false), (9, none, false, false), (10, none, false, false)])
  | 18 => some (.lin [(0, none, false, false), (1, none, false, false), (2, none, false, false), (3, none, true, false), (4, none, false, false), (5, none, false, false), (6, none, false, false), (7, none, false, false), (8, none, true, false), (9, none, false, false), (10, none, false, false), (11, none, false, false)])
  | 21 => some (.lin [(0, none, false, false), (1, none, false, false), (2, none, false, false), (3, none, true, false), (4, none, false, false), (5, none, false, false), (6, none, false, false), (7, none, false, false), (8, none, true, false), (9, none, false, false), (10, none, false, false), (11, none, false, false)])
  | 23 => some (.lin [(0, none, false, false), (1, none, false, false), (2, none, false, false), (3, none, true, false), (4, none, false, false), (5, none, false, false), (6, none, false, false), (7, none, false, false), (8, none, true, false), (9, none, false, false), (10, none, false, false), (11, none, false, false)])
  | 25 => some (.lin [(0, none, false, false), (1, none, false, false), (2, none, true, false), (3, none, false, false), (4, none, false, false), (5, none, false, false), (6, none, false, false), (7, none, true, false), (8, none, false, false), (9, none, false, false), (10, none, false, false), (11, none, false, false), (12, none, true, false), (13, none, false, false), (14, none, false, false), (15, none, false, false)])
  | _ => none
@[go_sem] theorem ord24_0 : ord24 0 = none := rfl
@[go_sem] theorem ord24_1 : ord24 1 = some (.lin [(0, none, false, false), (1, none, false, false), (2, none, false, false), (3, none, false, false), (4, none, true, false), (5, none, false, false), (6, none, false, false), (7, none, false, false), (8, none, false, false)]) := rfl
@[go_sem] theorem ord24_2 : ord24 2 = none := rfl
@[go_sem] theorem ord24_3 : ord24 3 = none := rfl
@[go_sem] theorem ord24_4 : ord24 4 = none := rfl
@[go_sem] theorem ord24_5 : ord24 5 = none := rfl
@[go_sem] theorem ord24_6 : ord24 6 = some (.lin [(0, none, false, false), (1, none, false, false), (2, none, false, false), (3, none, false, false), (4, none, true, false), (5, none, false, false), (6, none, false, false), (7, none, false, false), (8, none, false, false), (9, none, false, false), (10, none, true, false), (11, none, false, false), (12, none, false, false), (13, none, false, false), (14, none, false, false), (15, none, false, false)]) := rfl
@[go_sem] theorem ord24_7 : ord24 7 = none := rfl
@[go_sem] theorem ord24_8 : ord24 8 = none := rfl
@[go_sem] theorem ord24_9 : ord24 9 = some (.lin [(0, none, false, false), (1, none, false, false), (2, none, true, false), (3, none, false, false), (4, none, false, false), (5, none, false, false), (6, none, true, false), (7, none, false, false), (8, none, false, false), (9, none, false, false), (10, none, false, false), (11, none, false, false), (12, none, false, false), (13, none, false, false), (14, none, true, false), (15, none, false, false), (16, none, false, false), (17, none, false, false)]) := rfl
@[go_sem] theorem ord24_10 : ord24 10 = none := rfl
@[go_sem] theorem ord24_11 : ord24 11 = some (.lin [(0, none, false, false), (1, none, false, false), (2, none, false, false), (3, none, true, false), (4, none, false, false), (5, none, false, false), (6, none, false, false), (7, none, false, false), (8, none, false, false)]) := rfl
@[go_sem] theorem ord24_12 : ord24 12 = none := rfl
@[go_sem] theorem ord24_13 : ord24 13 = none := rfl
@[go_sem] theorem ord24_14 : ord24 14 = none := rfl
@[go_sem] theorem ord24_15 : ord24 15 = some (.lin [(0, none, false, false), (1, none, false, false), (2, none, true, false), (3, none, false, false), (4, none, false, false), (5, none, false, false), (6, none, false, false), (7, none, true, false), (8, none, false, false), (9, none, false, false), (10, none, false, false)]) := rfl
@[go_sem] theorem ord24_16 : ord24 16 = none := rfl
@[go_sem] theorem ord24_17 : ord24 17 = none := rfl
@[go_sem] theorem ord24_18 : ord24 18 = some (.lin [(0, none, false, false), (1, none, false, false), (2, none, false, false), (3, none, true, false), (4, none, false, false), (5, none, false, false), (6, none, false, false), (7, none, false, false), (8, none, true, false), (9, none, false, false), (10, none, false, false), (11, none, false, false)]) := rfl
@[go_sem] theorem ord24_19 : ord24 19 = none := rfl
@[go_sem] theorem ord24_20 : ord24 20 = none := rfl
@[go_sem] theorem ord24_21 : ord24 21 = some (.lin [(0, none, false, false), (1, none, false, false), (2, none, false, false), (3, none, true, false), (4, none, false, false), (5, none, false, false), (6, none, false, false), (7, none, false, false), (8, none, true, false), (9, none, false, false), (10, none, false, false), (11, none, false, false)]) := rfl
@[go_sem] theorem ord24_22 : ord24 22 = none := rfl
@[go_sem] theorem ord24_23 : ord24 23 = some (.lin [(0, none, false, false), (1, none, false, false), (2, none, false, false), (3, none, true, false), (4, none, false, false), (5, none, false, false), (6, none, false, false), (7, none, false, false), (8, none, true, false), (9, none, false, false), (10, none, false, false), (11, none, false, false)]) := rfl
@[go_sem] theorem ord24_24 : ord24 24 = none := rfl
@[go_sem] theorem ord24_25 : ord24 25 = some (.lin [(0, none, false, false), (1, none, false, false), (2, none, true, false), (3, none, false, false), (4, none, false, false), (5, none, false, false), (6, none, false, false), (7, none, true, false), (8, none, false, false), (9, none, false, false), (10, none, false, false), (11, none, false, false), (12, none, true, false), (13, none, false, false), (14, none, false, false), (15, none, false, false)]) := rfl
def ord28 : Ords
  | 6 => some (.lin [(0, some false, false, false), (1, some false, false, false), (2, some false, false, false), (3, some false, false, false), (4, some false, false, false), (5, some false, false, false), (6, some false, false, false), (7, some false, false, false), (8, some false, false, false), (9, some false, false, false), (10, some false, false, false), (11, some false, true, false), (12, some false, false, false), (13, some false, false, false), (14, some false, false, false), (15, some false, false, false), (16, some false, false, false), (17, some false, false, false), (18, some false, false, false), (19, some false, false, false), (20, some false, false, false), (21, some false, false, false), (22, none, false, false), (23, some false, false, false), (24, some false, false, false)])
  | _ => none
@[go_sem] theorem ord28_0 : ord28 0 = none := rfl
@[go_sem] theorem ord28_1 : ord28 1 = none := rfl
@[go_sem] theorem ord28_2 : ord28 2 = none := rfl
@[go_sem] theorem ord28_3 : ord28 3 = none := rfl
@[go_sem] theorem ord28_4 : ord28 4 = none := rfl
@[go_sem] theorem ord28_6 : ord28 6 = some (.lin [(0, some false, false, false), (1, some false, false, false), (2, some false, false, false), (3, some false, false, false), (4, some false, false, false), (5, some false, false, false), (6, some false, false, false), (7, some false, false, false), (8, some false, false, false), (9, some false, false, false), (10, some false, false, false), (11, some false, true, false), (12, some false, false, false), (13, some false, false, false), (14, some false, false, false), (15, some false, false, false), (16, some false, false, false), (17, some false, false, false), (18, some false, false, false), (19, some false, false, false), (20, some false, false, false), (21, some false, false, false), (22, none, false, false), (23, some false, false, false), (24, some false, false, false)]) := rfl
@[go_sem] theorem ord28_7 : ord28 7 = none := rfl
@[go_sem] theorem ord28_5 : ord28 5 = none := rfl
@[go_sem] theorem ord28_8 : ord28 8 = none := rfl
def ord30 : Ords
  | _ => none
@[go_sem] theorem ord30_0 : ord30 0 = none := rfl
@[go_sem] theorem ord30_1 : ord30 1 = none := rfl
@[go_sem] theorem ord30_2 : ord30 2 = none := rfl
@[go_sem] theorem ord30_4 : ord30 4 = none := rfl
@[go_sem] theorem ord30_5 : ord30 5 = none := rfl
@[go_sem] theorem ord30_6 : ord30 6 = none := rfl
@[go_sem] theorem ord30_7 : ord30 7 = none := rfl
@[go_sem] theorem ord30_9 : ord30 9 = none := rfl
@[go_sem] theorem ord30_10 : ord30 10 = none := rfl
@[go_sem] theorem ord30_8 : ord30 8 = none := rfl
@[go_sem] theorem ord30_3 : ord30 3 = none := rfl
@[go_sem] theorem ord30_11 : ord30 11 = none := rfl
def ord31 : Ords
  | 5 => some (.lin [(0, some false, false, false), (1, some false, false, false), (2, some false, false, false), (3, some false, false, false), (4, some false, false, false), (5, some false, false, false), (7, some false, false, false), (8, some false, false, false), (9, some true, false, false), (10, some false, false, false), (11, some true, false, false), (6, none, false, false), (12, some false, false, false), (13, none, false, false), (14, none, false, false), (15, some false, false, false)])
  | _ => none
@[go_sem] theorem ord31_0 : ord31 0 = none := rfl
@[go_sem] theorem ord31_1 : ord31 1 = none := rfl
@[go_sem] theorem ord31_2 : ord31 2 = none := rfl
@[go_sem] theorem ord31_3 : ord31 3 = none := rfl
@[go_sem] theorem ord31_5 : ord31 5 = some (.lin [(0, some false, false, false), (1, some false, false, false), (2, some false, false, false), (3, some false, false, false), (4, some false, false, false), (5, some false, false, false), (7, some false, false, false), (8, some false, false, false), (9, some true, false, false), (10, some false, false, false), (11, some true, false, false), (6, none, false, false), (12, some false, false, false), (13, none, false, false), (14, none, false, false), (15, some false, false, false)]) := rfl
@[go_sem] theorem ord31_4 : ord31 4 = none := rfl
@[go_sem] theorem ord31_6 : ord31 6 = none := rfl
def ord32 : Ords
  | _ => none
@[go_sem] theorem ord32_0 : ord32 0 = none := rfl
@[go_sem] theorem ord32_1 : ord32 1 = none := rfl
@[go_sem] theorem ord32_2 : ord32 2 = none := rfl
@[go_sem] theorem ord32_3 : ord32 3 = none := rfl
@[go_sem] theorem ord32_4 : ord32 4 = none := rfl
@[go_sem] theorem ord32_5 : ord32 5 = none := rfl
@[go_sem] theorem ord32_6 : ord32 6 = none := rfl
@[go_sem] theorem ord32_7 : ord32 7 = none := rfl
@[go_sem] theorem ord32_8 : ord32 8 = none := rfl
@[go_sem] theorem ord32_9 : ord32 9 = none := rfl
@[go_sem] theorem ord32_10 : ord32 10 = none := rfl
def ord33 : Ords
  | _ => none
@[go_sem] theorem ord33_0 : ord33 0 = none := rfl
@[go_sem] theorem ord33_1 : ord33 1 = none := rfl
@[go_sem] theorem ord33_2 : ord33 2 = none := rfl
@[go_sem] theorem ord33_3 : ord33 3 = none := rfl
@[go_sem] theorem ord33_4 : ord33 4 = none := rfl
@[go_sem] theorem ord33_5 : ord33 5 = none := rfl
@[go_sem] theorem ord33_6 : ord33 6 = none := rfl
def ord34 : Ords
  | 4 => some (.lin [(0, some false, false, false), (1, some false, false, false), (2, some false, false, false), (3, some false, false, false), (4, some false, false, false), (5, none, false, false), (6, some false, false, false), (7, some false, true, false), (8, some false, false, false), (9, some false, false, false), (10, some false, false, false), (11, some false, false, false), (12, some false, false, false), (13, some false, false, false), (14, some false, false, false), (15, some false, true, false), (16, some false, false, false), (17, some false, false, false), (18, some false, false, false), (19, some false, false, false), (20, some false, false, false), (21, none, false, false), (22, some false, false, false), (23, some false, false, false), (24, some false, true, false), (25, some false, false, false), (26, some false, false, false), (27, some false, true, false), (28, some false, false, false), (29, some false, false, false), (30, some false, false, false), (31, some false, false, false), (32, some false, false, false), (33, some false, false, false), (34, some false, false, false), (35, some false, false, false), (36, some false, false, false), (37, some false, false, false), (38, some false, false, false), (39, none, false, false), (40, some false, false, false), (41, some false, false, false), (42, some false, false, false)])
  | _ => none
@[go_sem] theorem ord34_0 : ord34 0 = none := rfl
@[go_sem] theorem ord34_1 : ord34 1 = none := rfl
@[go_sem] theorem ord34_2 : ord34 2 = none := rfl
@[go_sem] theorem ord34_4 : ord34 4 = some (.lin [(0, some false, false, false), (1, some false, false, false), (2, some false, false, false), (3, some false, false, false), (4, some false, false, false), (5, none, false, false), (6, some false, false, false), (7, some false, true, false), (8, some false, false, false), (9, some false, false, false), (10, some false, false, false), (11, some false, false, false), (12, some false, false, false), (13, some false, false, false), (14, some false, false, false), (15, some false, true, false), (16, some false, false, false), (17, some false, false, false), (18, some false, false, false), (19, some false, false, false), (20, some false, false, false), (21, none, false, false), (22, some false, false, false), (23, some false, false, false), (24, some false, true, false), (25, some false, false, false), (26, some false, false, false), (27, some false, true, false), (28, some false, false, false), (29, some false, false, false), (30, some false, false, false), (31, some false, false, false), (32, some false, false, false), (33, some false, false, false), (34, some false, false, false), (35, some false, false, false), (36, some false, false, false), (37, some false, false, false), (38, some false, false, false), (39, none, false, false), (40, some false, false, false), (41, some false, false, false), (42, some false, false, false)]) := rfl
@[go_sem] theorem ord34_5 : ord34 5 = none := rfl
@[go_sem] theorem ord34_3 : ord34 3 = none := rfl
@[go_sem] theorem ord34_6 : ord34 6 = none := rfl
def ord35 : Ords
  | 3 => some (.lin [(0, none, false, false), (1, none, false, false), (2, none, true, false), (3, none, false, false), (4, none, false, false), (5, none, false, false), (6, none, true, false), (7, none, false, false), (8, none, false, false), (9, none, false, false), (10, none, false, false), (11, none, true, false), (12, none, false, false), (13, none, false, false), (14, none, false, false), (15, none, false, false), (16, none, false, false), (17, none, false, false), (18, none, true, false), (19, none, false, false), (20, none, false, false), (21, none, false, false), (22, none, false, false), (23, none, false, false), (24, none, false, false), (25, none, false, false), (26, none, true, false), (27, none, false, false), (28, none, false, false), (29, none, false, false), (30, none, false, false), (31, none, false, false), (32, none, false, false), (33, none, false, false), (34, none, false, false), (35, none, false, false), (36, none, true, false), (37, none, false, false), (38, none, false, false), (39, none, false, false), (40, none, false, false), (41, none, true, false), (42, none, false, false), (43, none, false, false), (44, none, false, false), (45, none, false, false), (46, none, false, false), (47, none, false, false), (48, none, false, false)])
  | _ => none
@[go_sem] theorem ord35_0 : ord35 0 = none := rfl
@[go_sem] theorem ord35_1 : ord35 1 = none := rfl
@[go_sem] theorem ord35_2 : ord35 2 = none := rfl
@[go_sem] theorem ord35_3 : ord35 3 = some (.lin [(0, none, false, false), (1, none, false, false), (2, none, true, false), (3, none, false, false), (4, none, false, false), (5, none, false, false), (6, none, true, false), (7, none, false, false), (8, none, false, false), (9, none, false, false), (10, none, false, false), (11, none, true, false), (12, none, false, false), (13, none, false, false), (14, none, false, false), (15, none, false, false), (16, none, false, false), (17, none, false, false), (18, none, true, false), (19, none, false, false), (20, none, false, false), (21, none, false, false), (22, none, false, false), (23, none, false, false), (24, none, false, false), (25, none, false, false), (26, none, true, false), (27, none, false, false), (28, none, false, false), (29, none, false, false), (30, none, false, false), (31, none, false, false), (32, none, false, false), (33, none, false, false), (34, none, false, false), (35, none, false, false), (36, none, true, false), (37, none, false, false), (38, none, false, false), (39, none, false, false), (40, none, false, false), (41, none, true, false), (42, none, false, false), (43, none, false, false), (44, none, false, false), (45, none, false, false), (46, none, false, false), (47, none, false, false), (48, none, false, false)]) := rfl
def ord36 : Ords
  | _ => none
@[go_sem] theorem ord36_0 : ord36 0 = none := rfl
@[go_sem] theorem ord36_1 : ord36 1 = none := rfl
@[go_sem] theorem ord36_2 : ord36 2 = none := rfl
@[go_sem] theorem ord36_3 : ord36 3 = none := rfl
@[go_sem] theorem ord36_5 : ord36 5 = none := rfl
@[go_sem] theorem ord36_6 : ord36 6 = none := rfl
@[go_sem] theorem ord36_4 : ord36 4 = none := rfl
@[go_sem] theorem ord36_7 : ord36 7 = none := rfl
def ord37 : Ords
  | _ => none
@[go_sem] theorem ord37_0 : ord37 0 = none := rfl
@[go_sem] theorem ord37_1 : ord37 1 = none := rfl
@[go_sem] theorem ord37_3 : ord37 3 = none := rfl
@[go_sem] theorem ord37_4 : ord37 4 = none := rfl
@[go_sem] theorem ord37_2 : ord37 2 = none := rfl
def ord38 : Ords
  | _ => none
@[go_sem] theorem ord38_0 : ord38 0 = none := rfl
@[go_sem] theorem ord38_1 : ord38 1 = none := rfl
@[go_sem] theorem ord38_2 : ord38 2 = none := rfl
def ord39 : Ords
  | _ => none
@[go_sem] theorem ord39_0 : ord39 0 = none := rfl
@[go_sem] theorem ord39_1 : ord39 1 = none := rfl
def ord40 : Ords
  | _ => none
@[go_sem] theorem ord40_0 : ord40 0 = none := rfl
@[go_sem] theorem ord40_1 : ord40 1 = none := rfl
def ord41 : Ords
  | 6 => some (.lin [(0, some false, false, false), (1, some false, false, false), (2, some false, false, false), (3, some false, false, false), (4, some false, false, false), (5, some false, false, false), (6, some false, false, false), (7, some false, false, false), (8, none, false, false), (9, some false, false, false)])
  | _ => none
@[go_sem] theorem ord41_0 : ord41 0 = none := rfl
@[go_sem] theorem ord41_1 : ord41 1 = none := rfl
@[go_sem] theorem ord41_2 : ord41 2 = none := rfl
@[go_sem] theorem ord41_3 : ord41 3 = none := rfl
@[go_sem] theorem ord41_4 : ord41 4 = none := rfl
@[go_sem] theorem ord41_6 : ord41 6 = some (.lin [(0, some false, false, false), (1, some false, false, false), (2, some false, false, false), (3, some false, false, false), (4, some false, false, false), (5, some false, false, false), (6, some false, false, false), (7, some false, false, false), (8, none, false, false), (9, some false, false, false)]) := rfl
@[go_sem] theorem ord41_7 : ord41 7 = none := rfl
@[go_sem] theorem ord41_5 : ord41 5 = none := rfl
@[go_sem] theorem ord41_8 : ord41 8 = none := rfl
def ord43 : Ords
  | 1 => some (.lin [(0, none, false, false), (1, none, false, false), (2, none, false, false), (3, none, false, false), (4, none, false, false), (5, none, true, false), (6, none, false, false), (7, none, false, false), (8, none, false, false), (9, none, false, false), (10, none, false, false), (11, none, false, false), (12, none, true, false), (13, none, false, false), (14, none, false, false), (15, none, false, false), (16, none, false, false), (17, none, false, false), (18, none, false, false), (19, none, false, false)])
  | _ => none
@[go_sem] theorem ord43_0 : ord43 0 = none := rfl
@[go_sem] theorem ord43_1 : ord43 1 = some (.lin [(0, none, false, false), (1, none, false, false), (2, none, false, false), (3, none, false, false), (4, none, false, false), (5, none, true, false), (6, none, false, false), (7, none, false, false), (8, none, false, false), (9, none, false, false), (10, none, false, false), (11, none, false, false), (12, none, true, false), (13, none, false, false), (14, none, false, false), (15, none, false, false), (16, none, false, false), (17, none, false, false), (18, none, false, false), (19, none, false, false)]) := rfl
def ord45 : Ords
  | _ => none
@[go_sem] theorem ord45_0 : ord45 0 = none := rfl
@[go_sem] theorem ord45_1 : ord45 1 = none := rfl
@[go_sem] theorem ord45_2 : ord45 2 = none := rfl
def ord47 : Ords
  | 1 => some (.lin [(0, none, false, false), (1, none, false, false), (2, none, false, false), (3, none, true, false), (4, none, false, false), (5, none, false, false), (6, none, false, false), (7, none, false, false)])
  | _ => none
@[go_sem] theorem ord47_0 : ord47 0 = none := rfl
@[go_sem] theorem ord47_1 : ord47 1 = some (.lin [(0, none, false, false), (1, none, false, false), (2, none, false, false), (3, none, true, false), (4, none, false, false), (5, none, false, false), (6, none, false, false), (7, none, false, false)]) := rfl
@[go_sem] theorem ord47_2 : ord47 2 = none := rfl
@[go_sem] theorem ord47_3 : ord47 3 = none := rfl
def ord50 : Ords
  | _ => none
@[go_sem] theorem ord50_0 : ord50 0 = none := rfl
@[go_sem] theorem ord50_1 : ord50 1 = none := rfl
@[go_sem] theorem ord50_2 : ord50 2 = none := rfl
@[go_sem] theorem ord50_4 : ord50 4 = none := rfl
@[go_sem] theorem ord50_5 : ord50 5 = none := rfl
@[go_sem] theorem ord50_3 : ord50 3 = none := rfl
@[go_sem] theorem ord50_6 : ord50 6 = none := rfl
def ord51 : Ords
  | _ => none
@[go_sem] theorem ord51_0 : ord51 0 = none := rfl
@[go_sem] theorem ord51_1 : ord51 1 = none := rfl
@[go_sem] theorem ord51_2 : ord51 2 = none := rfl
@[go_sem] theorem ord51_3 : ord51 3 = none := rfl
@[go_sem] theorem ord51_4 : ord51 4 = none := rfl
@[go_sem] theorem ord51_5 : ord51 5 = none := rfl
def ord53 : Ords
  | _ => none
@[go_sem] theorem ord53_0 : ord53 0 = none := rfl
@[go_sem] theorem ord53_1 : ord53 1 = none := rfl
@[go_sem] theorem ord53_2 : ord53 2 = none := rfl
def ord55 : Ords
  | _ => none
@[go_sem] theorem ord55_0 : ord55 0 = none := rfl
@[go_sem] theorem ord55_1 : ord55 1 = none := rfl
@[go_sem] theorem ord55_2 : ord55 2 = none := rfl
@[go_sem] theorem ord55_3 : ord55 3 = none := rfl
@[go_sem] theorem ord55_4 : ord55 4 = none := rfl
@[go_sem] theorem ord55_5 : ord55 5 = none := rfl
@[go_sem] theorem ord55_6 : ord55 6 = none := rfl
@[go_sem] theorem ord55_7 : ord55 7 = none := rfl
def ord56 : Ords
  | 6 => some (.lin [(0, some false, false, false), (1, some false, false, false), (2, some false, false, false), (3, some false, false, false), (4, some false, false, false), (5, some false, false, false), (6, some false, false, false), (7, some false, false, false), (8, some false, false, false)])
  | _ => none
@[go_sem] theorem ord56_0 : ord56 0 = none := rfl
@[go_sem] theorem ord56_1 : ord56 1 = none := rfl
@[go_sem] theorem ord56_2 : ord56 2 = none := rfl
@[go_sem] theorem ord56_3 : ord56 3 = none := rfl
@[go_sem] theorem ord56_4 : ord56 4 = none := rfl
@[go_sem] theorem ord56_6 : ord56 6 = some (.lin [(0, some false, false, false), (1, some false, false, false), (2, some false, false, false), (3, some false, false, false), (4, some false, false, false), (5, some false, false, false), (6, some false, false, false), (7, some false, false, false), (8, some false, false, false)]) := rfl
@[go_sem] theorem ord56_7 : ord56 7 = none := rfl
@[go_sem] theorem ord56_5 : ord56 5 = none := rfl
@[go_sem] theorem ord56_8 : ord56 8 = none := rfl
def ord59 : Ords
  | _ => none
@[go_sem] theorem ord59_0 : ord59 0 = none := rfl
@[go_sem] theorem ord59_1 : ord59 1 = none := rfl
@[go_sem] theorem ord59_2 : ord59 2 = none := rfl
@[go_sem] theorem ord59_3 : ord59 3 = none := rfl
@[go_sem] theorem ord59_4 : ord59 4 = none := rfl
@[go_sem] theorem ord59_5 : ord59 5 = none := rfl
@[go_sem] theorem ord59_6 : ord59 6 = none := rfl
@[go_sem] theorem ord59_7 : ord59 7 = none := rfl
@[go_sem] theorem ord59_8 : ord59 8 = none := rfl
@[go_sem] theorem ord59_9 : ord59 9 = none := rfl
@[go_sem] theorem ord59_10 : ord59 10 = none := rfl
def ord60 : Ords
  | 1 => some (.lin [(0, none, false, false), (1, none, false, false), (2, none, false, false), (3, none, false, false), (4, none, false, false), (5, none, false, false), (6, none, true, false), (7, none, false, false), (8, none, false, false), (9, none, true, false), (10, none, false, false), (11, none, false, false), (12, none, false, false), (13, none, false, false), (14, none, false, false), (15, none, false, false), (16, none, false, false), (17, none, false, false)])
  | 10 => some (.lin [(0, some false, false, false), (1, some false, false, false), (2, some false, false, false), (3, some false, false, false), (4, some false, false, false), (5, some false, false, false), (6, none, false, false), (7, some false, false, false), (8, some false, false, false)])
  | 12 => some (.lin [(0, some false, false, false), (1, some false, false, false), (2, some false, false, false), (3, some false, false, false), (4, some false, false, false), (5, some false, false, false), (6, none, false, false), (7, some false, false, false), (8, some false, false, false)])
  | _ => none
@[go_sem] theorem ord60_0 : ord60 0 = none := rfl
@[go_sem] theorem ord60_1 : ord60 1 = some (.lin [(0, none, false, false), (1, none, false, false), (2, none, false, false), (3, none, false, false), (4, none, false, false), (5, none, false, false), (6, none, true, false), (7, none, false, false), (8, none, false, false), (9, none, true, false), (10, none, false, false), (11, none, false, false), (12, none, false, false), (13, none, false, false), (14, none, false, false), (15, none, false, false), (16, none, false, false), (17, none, false, false)]) := rfl
@[go_sem] theorem ord60_2 : ord60 2 = none := rfl
@[go_sem] theorem ord60_3 : ord60 3 = none := rfl
@[go_sem] theorem ord60_4 : ord60 4 = none := rfl
@[go_sem] theorem ord60_5 : ord60 5 = none := rfl
@[go_sem] theorem ord60_6 : ord60 6 = none := rfl
@[go_sem] theorem ord60_7 : ord60 7 = none := rfl
@[go_sem] theorem ord60_8 : ord60 8 = none := rfl
@[go_sem] theorem ord60_9 : ord60 9 = none := rfl
@[go_sem] theorem ord60_10 : ord60 10 = some (.lin [(0, some false, false, false), (1, some false, false, false), (2, some false, false, false), (3, some false, false, false), (4, some false, false, false), (5, some false, false, false), (6, none, false, false), (7, some false, false, false), (8, some false, false, false)]) := rfl
@[go_sem] theorem ord60_11 : ord60 11 = none := rfl
@[go_sem] theorem ord60_12 : ord60 12 = some (.lin [(0, some false, false, false), (1, some false, false, false), (2, some false, false, false), (3, some false, false, false), (4, some false, false, false), (5, some false, false, false), (6, none, false, false), (7, some false, false, false), (8, some false, false, false)]) := rfl
@[go_sem] theorem ord60_13 : ord60 13 = none := rfl
@[go_sem] theorem ord60_14 : ord60 14 = none := rfl
@[go_sem] theorem ord60_15 : ord60 15 = none := rfl
@[go_sem] theorem ord60_16 : ord60 16 = none := rfl
@[go_sem] theorem ord60_17 : ord60 17 = none := rfl
def ord61 : Ords
  | _ => none
@[go_sem] theorem ord61_0 : ord61 0 = none := rfl
@[go_sem] theorem ord61_1 : ord61 1 = none := rfl
@[go_sem] theorem ord61_2 : ord61 2 = none := rfl
@[go_sem] theorem ord61_3 : ord61 3 = none := rfl
@[go_sem] theorem ord61_4 : ord61 4 = none := rfl
@[go_sem] theorem ord61_5 : ord61 5 = none := rfl
@[go_sem] theorem ord61_6 : ord61 6 = none := rfl
@[go_sem] theorem ord61_7 : ord61 7 = none := rfl
@[go_sem] theorem ord61_8 : ord61 8 = none := rfl
@[go_sem] theorem ord61_9 : ord61 9 = none := rfl
@[go_sem] theorem ord61_10 : ord61 10 = none := rfl
@[go_sem] theorem ord61_11 : ord61 11 = none := rfl
def ord62 : Ords
  | 4 => some (.lin [(0, some false, false, false), (1, some false, false, false), (2, none, false, false), (3, some false, false, false), (4, some false, true, false), (5, some false, false, false), (6, some false, false, false), (7, some false, false, false), (8, some false, false, false), (9, some false, true, false), (10, some false, false, false), (11, some false, false, false), (12, none, false, false), (13, some false, false, false), (14, some false, false, false), (15, some false, true, false), (16, some false, false, false), (17, some false, false, false), (18, some false, true, false), (19, some false, false, false), (20, some false, false, false), (21, some false, false, false), (22, some false, false, false), (23, some false, false, false), (24, some false, false, false), (25, some false, false, false), (26, some false, false, false), (27, none, false, false), (28, some false, false, false), (29, some false, false, false), (30, some false, false, false)])
  | _ => none
@[go_sem] theorem ord62_0 : ord62 0 = none := rfl
@[go_sem] theorem ord62_1 : ord62 1 = none := rfl
@[go_sem] theorem ord62_2 : ord62 2 = none := rfl
@[go_sem] theorem ord62_3 : ord62 3 = none := rfl
@[go_sem] theorem ord62_4 : ord62 4 = some (.lin [(0, some false, false, false), (1, some false, false, false), (2, none, false, false), (3, some false, false, false), (4, some false, true, false), (5, some false, false, false), (6, some false, false, false), (7, some false, false, false), (8, some false, false, false), (9, some false, true, false), (10, some false, false, false), (11, some false, false, false), (12, none, false, false), (13, some false, false, false), (14, some false, false, false), (15, some false, true, false), (16, some false, false, false), (17, some false, false, false), (18, some false, true, false), (19, some false, false, false), (20, some false, false, false), (21, some false, false, false), (22, some false, false, false), (23, some false, false, false), (24, some false, false, false), (25, some false, false, false), (26, some false, false, false), (27, none, false, false), (28, some false, false, false), (29, some false, false, false), (30, some false, false, false)]) := rfl
@[go_sem] theorem ord62_5 : ord62 5 = none := rfl
@[go_sem] theorem ord62_6 : ord62 6 = none := rfl
@[go_sem] theorem ord62_7 : ord62 7 = none := rfl
def ord67 : Ords
  | 9 => some (.lin [(0, none, false, false), (1, none, false, false), (2, none, true, false), (3, none, false, false), (4, none, false, false), (5, none, false, false)])
  | 13 => some (.fork [(0, some false, false, false), (1, some false, false, false), (2, some true, false, false), (4, some true, false, false)] 3 (.lin [(5, none, false, false), (6, none, false, false), (7, some false, false, false), (8, none, false, false), (9, none, false, false), (10, some false, false, false)]) 5 (.lin [(3, none, false, false), (6, none, false, false), (7, some false, false, false), (8, none, false, false), (9, none, false, false), (10, some false, false, false)]))
  | _ => none
@[go_sem] theorem ord67_0 : ord67 0 = none := rfl
@[go_sem] theorem ord67_1 : ord67 1 = none := rfl
@[go_sem] theorem ord67_2 : ord67 2 = none := rfl
@[go_sem] theorem ord67_3 : ord67 3 = none := rfl
@[go_sem] theorem ord67_4 : ord67 4 = none := rfl
@[go_sem] theorem ord67_5 : ord67 5 = none := rfl
@[go_sem] theorem ord67_6 : ord67 6 = none := rfl
@[go_sem] theorem ord67_7 : ord67 7 = none := rfl
@[go_sem] theorem ord67_8 : ord67 8 = none := rfl
@[go_sem] theorem ord67_9 : ord67 9 = some (.lin [(0, none, false, false), (1, none, false, false), (2, none, true, false), (3, none, false, false), (4, none, false, false), (5, none, false, false)]) := rfl
@[go_sem] theorem ord67_10 : ord67 10 = none := rfl
@[go_sem] theorem ord67_11 : ord67 11 = none := rfl
@[go_sem] theorem ord67_12 : ord67 12 = none := rfl
@[go_sem] theorem ord67_13 : ord67 13 = some (.fork [(0, some false, false, false), (1, some false, false, false), (2, some true, false, false), (4, some true, false, false)] 3 (.lin [(5, none, false, false), (6, none, false, false), (7, some false, false, false), (8, none, false, false), (9, none, false, false), (10, some false, false, false)]) 5 (.lin [(3, none, false, false), (6, none, false, false), (7, some false, false, false), (8, none, false, false), (9, none, false, false), (10, some false, false, false)])) := rfl
@[go_sem] theorem ord67_14 : ord67 14 = none := rfl
@[go_sem] theorem ord67_15 : ord67 15 = none := rfl
def ord68 : Ords
  | _ => none
@[go_sem] theorem ord68_0 : ord68 0 = none := rfl
@[go_sem] theorem ord68_1 : ord68 1 = none := rfl
@[go_sem] theorem ord68_2 : ord68 2 = none := rfl
@[go_sem] theorem ord68_3 : ord68 3 = none := rfl
@[go_sem] theorem ord68_4 : ord68 4 = none := rfl
@[go_sem] theorem ord68_5 : ord68 5 = none := rfl
@[go_sem] theorem ord68_6 : ord68 6 = none := rfl
@[go_sem] theorem ord68_7 : ord68 7 = none := rfl
def ord69 : Ords
  | 4 => some (.lin [(0, none, false, false), (1, none, false, false), (2, none, true, false), (3, none, false, false), (4, none, false, false), (5, none, false, false), (6, none, true, false), (7, none, false, false), (8, none, false, false), (9, none, false, false), (10, none, false, false), (11, none, true, false), (12, none, false, false), (13, none, false, false), (14, none, false, false), (15, none, false, false), (16, none, false, false), (17, none, false, false), (18, none, false, false), (19, none, true, false), (20, none, false, false), (21, none, false, false), (22, none, false, false), (23, none, false, false), (24, none, false, false), (25, none, false, false), (26, none, false, false), (27, none, true, false), (28, none, false, false), (29, none, false, false), (30, none, false, false), (31, none, false, false), (32, none, false, false), (33, none, false, false), (34, none, false, false), (35, none, false, false), (36, none, false, false), (37, none, true, false), (38, none, false, false), (39, none, false, false), (40, none, false, false), (41, none, false, false), (42, none, false, false), (43, none, false, false), (44, none, false, false), (45, none, false, false), (46, none, false, false), (47, none, true, false), (48, none, false, false), (49, none, false, false), (50, none, false, false), (51, none, false, false), (52, none, true, false), (53, none, false, false), (54, none, false, false), (55, none, false, false), (56, none, false, false), (57, none, false, false), (58, none, false, false), (59, none, false, false), (60, none, true, false), (61, none, false, false), (62, none, false, false), (63, none, false, false), (64, none, false, false), (65, none, false, false), (66, none, false, false), (67, none, false, false), (68, none, false, false), (69, none, false, false), (70, none, false, false)])
  | _ => none
@[go_sem] theorem ord69_0 : ord69 0 = none := rfl
@[go_sem] theorem ord69_1 : ord69 1 = none := rfl
@[go_sem] theorem ord69_2 : ord69 2 = none := rfl
@[go_sem] theorem ord69_3 : ord69 3 = none := rfl
@[go_sem] theorem ord69_4 : ord69 4 = some (.lin [(0, none, false, false), (1, none, false, false), (2, none, true, false), (3, none, false, false), (4, none, false, false), (5, none, false, false), (6, none, true, false), (7, none, false, false), (8, none, false, false), (9, none, false, false), (10, none, false, false), (11, none, true, false), (12, none, false, false), (13, none, false, false), (14, none, false, false), (15, none, false, false), (16, none, false, false), (17, none, false, false), (18, none, false, false), (19, none, true, false), (20, none, false, false), (21, none, false, false), (22, none, false, false), (23, none, false, false), (24, none, false, false), (25, none, false, false), (26, none, false, false), (27, none, true, false), (28, none, false, false), (29, none, false, false), (30, none, false, false), (31, none, false, false), (32, none, false, false), (33, none, false, false), (34, none, false, false), (35, none, false, false), (36, none, false, false), (37, none, true, false), (38, none, false, false), (39, none, false, false), (40, none, false, false), (41, none, false, false), (42, none, false, false), (43, none, false, false), (44, none, false, false), (45, none, false, false), (46, none, false, false), (47, none, true, false), (48, none, false, false), (49, none, false, false), (50, none, false, false), (51, none, false, false), (52, none, true, false), (53, none, false, false), (54, none, false, false), (55, none, false, false), (56, none, false, false), (57, none, false, false), (58, none, false, false), (59, none, false, false), (60, none, true, false), (61, none, false, false), (62, none, false, false), (63, none, false, false), (64, none, false, false), (65, none, false, false), (66, none, false, false), (67, none, false, false), (68, none, false, false), (69, none, false, false), (70, none, false, false)]) := rfl
def ord70 : Ords
  | _ => none
@[go_sem] theorem ord70_0 : ord70 0 = none := rfl
@[go_sem] theorem ord70_1 : ord70 1 = none := rfl
def ord71 : Ords
  | 11 => some (.lin [(0, none, false, false), (1, none, false, false), (2, none, true, false), (3, none, false, false), (4, none, false, false), (5, none, false, false), (6, none, false, false), (7, none, false, false), (8, none, false, false), (9, none, false, false), (10, none, false, false), (11, none, false, false), (12, none, false, false), (13, none, false, false)])
  | 26 => some (.lin [(0, some false, false, false), (1, some false, false, false), (2, some false, false, false), (3, some false, false, false), (4, some false, true, false), (5, some false, false, false), (6, some false, false, false), (7, some false, false, false), (8, some false, false, false), (9, some false, false, false), (10, some false, false, false), (11, some false, false, false), (12, some false, false, false), (13, some false, false, false), (14, some false, false, false), (15, none, false, false), (16, some false, false, false), (17, some false, false, false)])
  | 32 => some (.fork [(0, some false, false, false), (1, some false, false, false), (2, some false, false, false), (3, some true, false, false), (4, some false, false, false), (5, some true, false, false), (7, some true, false, false)] 6 (.lin [(8, none, false, false), (9, none, false, false), (10, some false, false, false), (11, none, false, false), (12, none, false, false), (13, some false, false, false)]) 8 (.lin [(6, none, false, false), (9, none, false, false), (10, some false, false, false), (11, none, false, false), (12, none, false, false), (13, some false, false, false)]))
  | _ => none
@[go_sem] theorem ord71_0 : ord71 0 = none := rfl
@[go_sem] theorem ord71_1 : ord71 1 = none := rfl
@[go_sem] theorem ord71_2 : ord71 2 = none := rfl
@[go_sem] theorem ord71_3 : ord71 3 = none := rfl
@[go_sem] theorem ord71_4 : ord71 4 = none := rfl
@[go_sem] theorem ord71_5 : ord71 5 = none := rfl
@[go_sem] theorem ord71_6 : ord71 6 = none := rfl
@[go_sem] theorem ord71_8 : ord71 8 = none := rfl
@[go_sem] theorem ord71_9 : ord71 9 = none := rfl
@[go_sem] theorem ord71_10 : ord71 10 = none := rfl
@[go_sem] theorem ord71_11 : ord71 11 = some (.lin [(0, none, false, false), (1, none, false, false), (2, none, true, false), (3, none, false, false), (4, none, false, false), (5, none, false, false), (6, none, false, false), (7, none, false, false), (8, none, false, false), (9, none, false, false), (10, none, false, false), (11, none, false, false), (12, none, false, false), (13, none, false, false)]) := rfl
@[go_sem] theorem ord71_12 : ord71 12 = none := rfl
@[go_sem] theorem ord71_7 : ord71 7 = none := rfl
@[go_sem] theorem ord71_13 : ord71 13 = none := rfl
@[go_sem] theorem ord71_14 : ord71 14 = none := rfl
@[go_sem] theorem ord71_15 : ord71 15 = none := rfl
@[go_sem] theorem ord71_17 : ord71 17 = none := rfl
@[go_sem] theorem ord71_18 : ord71 18 = none := rfl
@[go_sem] theorem ord71_19 : ord71 19 = none := rfl
@[go_sem] theorem ord71_16 : ord71 16 = none := rfl
@[go_sem] theorem ord71_20 : ord71 20 = none := rfl
@[go_sem] theorem ord71_21 : ord71 21 = none := rfl
@[go_sem] theorem ord71_22 : ord71 22 = none := rfl
@[go_sem] theorem ord71_23 : ord71 23 = none := rfl
@[go_sem] theorem ord71_24 : ord71 24 = none := rfl
@[go_sem] theorem ord71_25 : ord71 25 = none := rfl
@[go_sem] theorem ord71_26 : ord71 26 = some (.lin [(0, some false, false, false), (1, some false, false, false), (2, some false, false, false), (3, some false, false, false), (4, some false, true, false), (5, some false, false, false), (6, some false, false, false), (7, some false, false, false), (8, some false, false, false), (9, some false, false, false), (10, some false, false, false), (11, some false, false, false), (12, some false, false, false), (13, some false, false, false), (14, some false, false, false), (15, none, false, false), (16, some false, false, false), (17, some false, false, false)]) := rfl
@[go_sem] theorem ord71_27 : ord71 27 = none := rfl
@[go_sem] theorem ord71_28 : ord71 28 = none := rfl
@[go_sem] theorem ord71_29 : ord71 29 = none := rfl
@[go_sem] theorem ord71_30 : ord71 30 = none := rfl
@[go_sem] theorem ord71_31 : ord71 31 = none := rfl
@[go_sem] theorem ord71_32 : ord71 32 = some (.fork [(0, some false, false, false), (1, some false, false, false), (2, some false, false, false), (3, some true, false, false), (4, some false, false, false), (5, some true, false, false), (7, some true, false, false)] 6 (.lin [(8, none, false, false), (9, none, false, false), (10, some false, false, false), (11, none, false, false), (12, none, false, false), (13, some false, false, false)]) 8 (.lin [(6, none, false, false), (9, none, false, false), (10, some false, false, false), (11, none, false, false), (12, none, false, false), (13, some false, false, false)])) := rfl
@[go_sem] theorem ord71_33 : ord71 33 = none := rfl
@[go_sem] theorem ord71_34 : ord71 34 = none := rfl
def ord72 : Ords
  | _ => none
@[go_sem] theorem ord72_0 : ord72 0 = none := rfl
@[go_sem] theorem ord72_1 : ord72 1 = none := rfl
@[go_sem] theorem ord72_2 : ord72 2 = none := rfl
@[go_sem] theorem ord72_3 : ord72 3 = none := rfl
@[go_sem] theorem ord72_4 : ord72 4 = none := rfl
@[go_sem] theorem ord72_5 : ord72 5 = none := rfl
@[go_sem] theorem ord72_6 : ord72 6 = none := rfl
@[go_sem] theorem ord72_7 : ord72 7 = none := rfl
@[go_sem] theorem ord72_8 : ord72 8 = none := rfl
@[go_sem] theorem ord72_9 : ord72 9 = none := rfl
@[go_sem] theorem ord72_10 : ord72 10 = none := rfl
def ord76 : Ords
  | 8 => some (.lin [(0, some false, false, false), (1, some false, false, false), (2, some false, false, false), (3, some false, false, false), (4, some false, true, false), (5, some false, false, false), (6, some false, false, false), (7, some false, false, false), (8, some false, false, false), (9, some false, false, false), (10, some false, false, false), (11, some false, false, false), (12, some false, false, false), (13, some false, false, false), (14, none, false, false), (15, some false, false, false), (16, some false, false, false)])
  | _ => none
@[go_sem] theorem ord76_0 : ord76 0 = none := rfl
@[go_sem] theorem ord76_1 : ord76 1 = none := rfl
@[go_sem] theorem ord76_2 : ord76 2 = none := rfl
@[go_sem] theorem ord76_3 : ord76 3 = none := rfl
@[go_sem] theorem ord76_4 : ord76 4 = none := rfl
@[go_sem] theorem ord76_5 : ord76 5 = none := rfl
@[go_sem] theorem ord76_6 : ord76 6 = none := rfl
@[go_sem] theorem ord76_7 : ord76 7 = none := rfl
@[go_sem] theorem ord76_8 : ord76 8 = some (.lin [(0, some false, false, false), (1, some false, false, false), (2, some false, false, false), (3, some false, false, false), (4, some false, true, false), (5, some false, false, false), (6, some false, false, false), (7, some false, false, false), (8, some false, false, false), (9, some false, false, false), (10, some false, false, false), (11, some false, false, false), (12, some false, false, false), (13, some false, false, false), (14, none, false, false), (15, some false, false, false), (16, some false, false, false)]) := rfl
@[go_sem] theorem ord76_9 : ord76 9 = none := rfl
@[go_sem] theorem ord76_10 : ord76 10 = none := rfl
@[go_sem] theorem ord76_11 : ord76 11 = none := rfl
@[go_sem] theorem ord76_12 : ord76 12 = none := rfl
@[go_sem] theorem ord76_13 : ord76 13 = none := rfl
@[go_sem] theorem ord76_14 : ord76 14 = none := rfl
@[go_sem] theorem ord76_15 : ord76 15 = none := rfl
@[go_sem] theorem ord76_16 : ord76 16 = none := rfl
@[go_sem] theorem ord76_17 : ord76 17 = none := rfl
def ord78 : Ords
  | 1 => some (.lin [(0, none, false, false), (1, none, false, false), (2, none, true, false), (3, none, false, false), (4, none, false, false), (5, none, false, false)])
  | _ => none
@[go_sem] theorem ord78_0 : ord78 0 = none := rfl
@[go_sem] theorem ord78_1 : ord78 1 = some (.lin [(0, none, false, false), (1, none, false, false), (2, none, true, false), (3, none, false, false), (4, none, false, false), (5, none, false, false)]) := rfl
@[go_sem] theorem ord78_2 : ord78 2 = none := rfl
@[go_sem] theorem ord78_3 : ord78 3 = none := rfl
@[go_sem] theorem ord78_4 : ord78 4 = none := rfl
@[go_sem] theorem ord78_5 : ord78 5 = none := rfl
def ord79 : Ords
  | 4 => some (.lin [(0, none, false, false), (1, none, false, false), (2, none, false, false), (3, none, false, false), (4, none, false, false), (5, none, false, false), (6, none, false, false), (7, none, true, false), (8, none, false, false), (9, none, false, false), (10, none, false, false), (11, none, false, false), (12, none, false, false), (13, none, false, false), (14, none, false, false), (15, none, false, false)])
  | 13 => some (.lin [(0, some false, false, false), (1, some false, false, false), (2, some false, false, false), (3, some false, false, false), (4, some false, true, false), (5, some false, false, false), (6, some false, false, false), (7, some false, false, false), (8, some false, false, false), (9, some false, false, false), (10, some false, false, false), (11, some false, false, false), (12, some false, false, false), (13, some false, false, false), (14, some false, false, false), (15, none, false, false), (16, some false, false, false), (17, some false, false, false)])
  | 14 => some (.lin [(0, some false, false, false), (1, some false, false, false), (2, some false, false, false), (3, some false, false, false), (4, some false, false, false), (5, some false, false, false), (6, some false, false, false), (7, some false, false, false), (8, some false, false, false), (9, some false, false, false), (10, some false, false, false), (11, some false, false, false), (12, some false, false, false), (13, some false, false, false), (14, some false, false, false), (15, some false, false, false), (16, some false, false, false), (17, some false, false, false)])
  | _ => none
@[go_sem] theorem ord79_0 : ord79 0 = none := rfl
@[go_sem] theorem ord79_1 : ord79 1 = none := rfl
@[go_sem] theorem ord79_2 : ord79 2 = none := rfl
@[go_sem] theorem ord79_4 : ord79 4 = some (.lin [(0, none, false, false), (1, none, false, false), (2, none, false, false), (3, none, false, false), (4, none, false, false), (5, none, false, false), (6, none, false, false), (7, none, true, false), (8, none, false, false), (9, none, false, false), (10, none, false, false), (11, none, false, false), (12, none, false, false), (13, none, false, false), (14, none, false, false), (15, none, false, false)]) := rfl
@[go_sem] theorem ord79_5 : ord79 5 = none := rfl
@[go_sem] theorem ord79_3 : ord79 3 = none := rfl
@[go_sem] theorem ord79_6 : ord79 6 = none := rfl
@[go_sem] theorem ord79_7 : ord79 7 = none := rfl
@[go_sem] theorem ord79_8 : ord79 8 = none := rfl
@[go_sem] theorem ord79_9 : ord79 9 = none := rfl
@[go_sem] theorem ord79_10 : ord79 10 = none := rfl
@[go_sem] theorem ord79_11 : ord79 11 = none := rfl
@[go_sem] theorem ord79_12 : ord79 12 = none := rfl
@[go_sem] theorem ord79_13 : ord79 13 = some (.lin [(0, some false, false, false), (1, some false, false, false), (2, some false, false, false), (3, some false, false, false), (4, some false, true, false), (5, some false, false, false), (6, some false, false, false), (7, some false, false, false), (8, some false, false, false), (9, some false, false, false), (10, some false, false, false), (11, some false, false, false), (12, some false, false, false), (13, some false, false, false), (14, some false, false, false), (15, none, false, false), (16, some false, false, false), (17, some false, false, false)]) := rfl
@[go_sem] theorem ord79_14 : ord79 14 = some (.lin [(0, some false, false, false), (1, some false, false, false), (2, some false, false, false), (3, some false, false, false), (4, some false, false, false), (5, some false, false, false), (6, some false, false, false), (7, some false, false, false), (8, some false, false, false), (9, some false, false, false), (10, some false, false, false), (11, some false, false, false), (12, some false, false, false), (13, some false, false, false), (14, some false, false, false), (15, some false, false, false), (16, some false, false, false), (17, some false, false, false)]) := rfl
@[go_sem] theorem ord79_15 : ord79 15 = none := rfl
@[go_sem] theorem ord79_16 : ord79 16 = none := rfl
@[go_sem] theorem ord79_17 : ord79 17 = none := rfl
@[go_sem] theorem ord79_18 : ord79 18 = none := rfl
@[go_sem] theorem ord79_19 : ord79 19 = none := rfl
@[go_sem] theorem ord79_20 : ord79 20 = none := rfl
@[go_sem] theorem ord79_21 : ord79 21 = none := rfl
@[go_sem] theorem ord79_22 : ord79 22 = none := rfl
@[go_sem] theorem ord79_23 : ord79 23 = none := rfl
@[go_sem] theorem ord79_24 : ord79 24 = none := rfl
@[go_sem] theorem ord79_25 : ord79 25 = none := rfl
@[go_sem] theorem ord79_26 : ord79 26 = none := rfl
@[go_sem] theorem ord79_27 : ord79 27 = none := rfl
def ord81 : Ords
  | 1 => some (.lin [(0, none, false, false), (1, none, false, false), (2, none, false, false), (3, none, true, false), (4, none, false, false), (5, none, false, false), (6, none, false, false), (7, none, false, false)])
  | _ => none
@[go_sem] theorem ord81_0 : ord81 0 = none := rfl
@[go_sem] theorem ord81_1 : ord81 1 = some (.lin [(0, none, false, false), (1, none, false, false), (2, none, false, false), (3, none, true, false), (4, none, false, false), (5, none, false, false), (6, none, false, false), (7, none, false, false)]) := rfl
def ord82 : Ords
  | _ => none
@[go_sem] theorem ord82_0 : ord82 0 = none := rfl
@[go_sem] theorem ord82_1 : ord82 1 = none := rfl
@[go_sem] theorem ord82_2 : ord82 2 = none := rfl
@[go_sem] theorem ord82_3 : ord82 3 = none := rfl
@[go_sem] theorem ord82_4 : ord82 4 = none := rfl
@[go_sem] theorem ord82_5 : ord82 5 = none := rfl
@[go_sem] theorem ord82_7 : ord82 7 = none := rfl
@[go_sem] theorem ord82_8 : ord82 8 = none := rfl
@[go_sem] theorem ord82_9 : ord82 9 = none := rfl
@[go_sem] theorem ord82_10 : ord82 10 = none := rfl
@[go_sem] theorem ord82_6 : ord82 6 = none := rfl
@[go_sem] theorem ord82_11 : ord82 11 = none := rfl
@[go_sem] theorem ord82_12 : ord82 12 = none := rfl
def ord83 : Ords
  | _ => none
@[go_sem] theorem ord83_0 : ord83 0 = none := rfl
@[go_sem] theorem ord83_1 : ord83 1 = none := rfl
@[go_sem] theorem ord83_2 : ord83 2 = none := rfl
@[go_sem] theorem ord83_3 : ord83 3 = none := rfl
@[go_sem] theorem ord83_4 : ord83 4 = none := rfl
@[go_sem] theorem ord83_5 : ord83 5 = none := rfl
@[go_sem] theorem ord83_6 : ord83 6 = none := rfl
@[go_sem] theorem ord83_7 : ord83 7 = none := rfl
def ord84 : Ords
  | _ => none
@[go_sem] theorem ord84_0 : ord84 0 = none := rfl
@[go_sem] theorem ord84_1 : ord84 1 = none := rfl
def ord85 : Ords
  | _ => none
@[go_sem] theorem ord85_0 : ord85 0 = none := rfl
@[go_sem] theorem ord85_1 : ord85 1 = none := rfl
@[go_sem] theorem ord85_2 : ord85 2 = none := rfl
@[go_sem] theorem ord85_3 : ord85 3 = none := rfl
def ord86 : Ords
  | _ => none
@[go_sem] theorem ord86_0 : ord86 0 = none := rfl
@[go_sem] theorem ord86_1 : ord86 1 = none := rfl
@[go_sem] theorem ord86_2 : ord86 2 = none := rfl
@[go_sem] theorem ord86_3 : ord86 3 = none := rfl
@[go_sem] theorem ord86_4 : ord86 4 = none := rfl
@[go_sem] theorem ord86_6 : ord86 6 = none := rfl
@[go_sem] theorem ord86_7 : ord86 7 = none := rfl
@[go_sem] theorem ord86_5 : ord86 5 = none := rfl
@[go_sem] theorem ord86_8 : ord86 8 = none := rfl
def ord87 : Ords
  | 1 => some (.lin [(0, none, false, false), (1, none, false, false), (2, none, false, false), (3, none, true, false), (4, none, false, false), (5, none, false, false), (6, none, false, false), (7, none, false, false), (8, none, false, false)])
  | _ => none
@[go_sem] theorem ord87_0 : ord87 0 = none := rfl
@[go_sem] theorem ord87_1 : ord87 1 = some (.lin [(0, none, false, false), (1, none, false, false), (2, none, false, false), (3, none, true, false), (4, none, false, false), (5, none, false, false), (6, none, false, false), (7, none, false, false), (8, none, false, false)]) := rfl
def ord88 : Ords
  | 2 => some (.lin [(0, none, false, false), (1, none, false, false), (2, none, false, false), (3, none, false, false), (4, none, true, false), (5, none, false, false), (6, none, false, false), (7, none, false, false), (8, none, false, false), (9, none, false, false)])
  | 4 => some (.lin [(0, some false, false, false), (1, some false, false, false), (2, some false, false, false), (3, some false, false, false), (4, some false, false, false), (5, some false, false, false), (6, some false, false, false), (7, some false, false, false), (8, none, false, false), (9, some false, false, false)])
  | _ => none
@[go_sem] theorem ord88_0 : ord88 0 = none := rfl
@[go_sem] theorem ord88_1 : ord88 1 = none := rfl
@[go_sem] theorem ord88_2 : ord88 2 = some (.lin [(0, none, false, false), (1, none, false, false), (2, none, false, false), (3, none, false, false), (4, none, true, false), (5, none, false, false), (6, none, false, false), (7, none, false, false), (8, none, false, false), (9, none, false, false)]) := rfl
@[go_sem] theorem ord88_4 : ord88 4 = some (.lin [(0, some false, false, false), (1, some false, false, false), (2, some false, false, false), (3, some false, false, false), (4, some false, false, false), (5, some false, false, false), (6, some false, false, false), (7, some false, false, false), (8, none, false, false), (9, some false, false, false)]) := rfl
@[go_sem] theorem ord88_5 : ord88 5 = none := rfl
@[go_sem] theorem ord88_6 : ord88 6 = none := rfl
@[go_sem] theorem ord88_3 : ord88 3 = none := rfl
@[go_sem] theorem ord88_7 : ord88 7 = none := rfl
@[go_sem] theorem ord88_8 : ord88 8 = none := rfl
@[go_sem] theorem ord88_9 : ord88 9 = none := rfl
def ord89 : Ords
  | _ => none
@[go_sem] theorem ord89_0 : ord89 0 = none := rfl
@[go_sem] theorem ord89_1 : ord89 1 = none := rfl
@[go_sem] theorem ord89_3 : ord89 3 = none := rfl
@[go_sem] theorem ord89_2 : ord89 2 = none := rfl
def ord90 : Ords
  | _ => none
@[go_sem] theorem ord90_0 : ord90 0 = none := rfl
@[go_sem] theorem ord90_1 : ord90 1 = none := rfl
@[go_sem] theorem ord90_2 : ord90 2 = none := rfl
@[go_sem] theorem ord90_3 : ord90 3 = none := rfl
@[go_sem] theorem ord90_5 : ord90 5 = none := rfl
@[go_sem] theorem ord90_4 : ord90 4 = none := rfl
@[go_sem] theorem ord90_6 : ord90 6 = none := rfl
def ord91 : Ords
  | _ => none
@[go_sem] theorem ord91_0 : ord91 0 = none := rfl
@[go_sem] theorem ord91_1 : ord91 1 = none := rfl
@[go_sem] theorem ord91_2 : ord91 2 = none := rfl
@[go_sem] theorem ord91_3 : ord91 3 = none := rfl
@[go_sem] theorem ord91_4 : ord91 4 = none := rfl
@[go_sem] theorem ord91_5 : ord91 5 = none := rfl
@[go_sem] theorem ord91_6 : ord91 6 = none := rfl
@[go_sem] theorem ord91_7 : ord91 7 = none := rfl
def ord93 : Ords
  | _ => none
@[go_sem] theorem ord93_0 : ord93 0 = none := rfl
@[go_sem] theorem ord93_1 : ord93 1 = none := rfl
def ord94 : Ords
  | _ => none
@[go_sem] theorem ord94_0 : ord94 0 = none := rfl
@[go_sem] theorem ord94_1 : ord94 1 = none := rfl
@[go_sem] theorem ord94_2 : ord94 2 = none := rfl
@[go_sem] theorem ord94_3 : ord94 3 = none := rfl
@[go_sem] theorem ord94_4 : ord94 4 = none := rfl
@[go_sem] theorem ord94_5 : ord94 5 = none := rfl
@[go_sem] theorem ord94_6 : ord94 6 = none := rfl
@[go_sem] theorem ord94_7 : ord94 7 = none := rfl
@[go_sem] theorem ord94_8 : ord94 8 = none := rfl
@[go_sem] theorem ord94_9 : ord94 9 = none := rfl
@[go_sem] theorem ord94_10 : ord94 10 = none := rfl
@[go_sem] theorem ord94_11 : ord94 11 = none := rfl
@[go_sem] theorem ord94_12 : ord94 12 = none := rfl
@[go_sem] theorem ord94_13 : ord94 13 = none := rfl
@[go_sem] theorem ord94_14 : ord94 14 = none := rfl
@[go_sem] theorem ord94_15 : ord94 15 = none := rfl
def ord95 : Ords
  | _ => none
@[go_sem] theorem ord95_0 : ord95 0 = none := rfl
@[go_sem] theorem ord95_1 : ord95 1 = none := rfl
def ord97 : Ords
  | _ => none
@[go_sem] theorem ord97_0 : ord97 0 = none := rfl
@[go_sem] theorem ord97_1 : ord97 1 = none := rfl
@[go_sem] theorem ord97_2 : ord97 2 = none := rfl
@[go_sem] theorem ord97_4 : ord97 4 = none := rfl
@[go_sem] theorem ord97_5 : ord97 5 = none := rfl
@[go_sem] theorem ord97_3 : ord97 3 = none := rfl
@[go_sem] theorem ord97_6 : ord97 6 = none := rfl
@[go_sem] theorem ord97_7 : ord97 7 = none := rfl
@[go_sem] theorem ord97_8 : ord97 8 = none := rfl
@[go_sem] theorem ord97_9 : ord97 9 = none := rfl
@[go_sem] theorem ord97_10 : ord97 10 = none := rfl
@[go_sem] theorem ord97_12 : ord97 12 = none := rfl
@[go_sem] theorem ord97_11 : ord97 11 = none := rfl
@[go_sem] theorem ord97_13 : ord97 13 = none := rfl
def ord99 : Ords
  | 1 => some (.lin [(0, none, false, false), (1, none, false, false), (2, none, true, false), (3, none, false, false), (4, none, false, false), (5, none, false, false), (6, none, false, false), (7, none, false, false)])
  | _ => none
@[go_sem] theorem ord99_0 : ord99 0 = none := rfl
@[go_sem] theorem ord99_1 : ord99 1 = some (.lin [(0, none, false, false), (1, none, false, false), (2, none, true, false), (3, none, false, false), (4, none, false, false), (5, none, false, false), (6, none, false, false), (7, none, false, false)]) := rfl
def ord100 : Ords
  | 1 => some (.lin [(0, none, false, false), (1, none, false, false), (2, none, false, false), (3, none, true, false), (4, none, false, false), (5, none, false, false), (6, none, false, false), (7, none, false, false), (8, none, false, false)])
  | _ => none
@[go_sem] theorem ord100_0 : ord100 0 = none := rfl
@[go_sem] theorem ord100_1 : ord100 1 = some (.lin [(0, none, false, false), (1, none, false, false), (2, none, false, false), (3, none, true, false), (4, none, false, false), (5, none, false, false), (6, none, false, false), (7, none, false, false), (8, none, false, false)]) := rfl
def ord101 : Ords
  | 1 => some (.lin [(0, some false, false, false), (1, some false, false, false), (2, some false, false, false), (3, some false, false, false), (5, some false, false, false), (6, some false, false, false), (7, some false, false, false), (8, some false, false, false), (10, some false, false, false), (11, some false, false, false), (12, some false, false, false), (13, some false, false, false), (4, none, false, true), (9, none, false, true), (14, none, false, true), (15, none, false, false), (16, none, false, true), (17, some false, false, false)])
  | _ => none
@[go_sem] theorem ord101_0 : ord101 0 = none := rfl
@[go_sem] theorem ord101_1 : ord101 1 = some (.lin [(0, some false, false, false), (1, some false, false, false), (2, some false, false, false), (3, some false, false, false), (5, some false, false, false), (6, some false, false, false), (7, some false, false, false), (8, some false, false, false), (10, some false, false, false), (11, some false, false, false), (12, some false, false, false), (13, some false, false, false), (4, none, false, true), (9, none, false, true), (14, none, false, true), (15, none, false, false), (16, none, false, true), (17, some false, false, false)]) := rfl
def ord102 : Ords
  | _ => none
@[go_sem] theorem ord102_0 : ord102 0 = none := rfl
@[go_sem] theorem ord102_1 : ord102 1 = none := rfl
def ord103 : Ords
  | 1 => some (.lin [(0, none, false, false), (1, none, false, false), (2, none, true, false), (3, none, false, false), (4, none, false, false), (5, none, false, false), (6, none, false, false), (7, none, false, false), (8, none, false, false)])
  | _ => none
@[go_sem] theorem ord103_0 : ord103 0 = none := rfl
@[go_sem] theorem ord103_1 : ord103 1 = some (.lin [(0, none, false, false), (1, none, false, false), (2, none, true, false), (3, none, false, false), (4, none, false, false), (5, none, false, false), (6, none, false, false), (7, none, false, false), (8, none, false, false)]) := rfl
def ord104 : Ords
  | _ => none
@[go_sem] theorem ord104_0 : ord104 0 = none := rfl
@[go_sem] theorem ord104_1 : ord104 1 = none := rfl
@[go_sem] theorem ord104_2 : ord104 2 = none := rfl
@[go_sem] theorem ord104_3 : ord104 3 = none := rfl
@[go_sem] theorem ord104_4 : ord104 4 = none := rfl
@[go_sem] theorem ord104_5 : ord104 5 = none := rfl
def ord105 : Ords
  | 1 => some (.lin [(0, none, false, false), (1, none, false, false), (2, none, true, false), (3, none, false, false), (4, none, false, false), (5, none, false, false), (6, none, false, false)])
  | _ => none
@[go_sem] theorem ord105_0 : ord105 0 = none := rfl
@[go_sem] theorem ord105_1 : ord105 1 = some (.lin [(0, none, false, false), (1, none, false, false), (2, none, true, false), (3, none, false, false), (4, none, false, false), (5, none, false, false), (6, none, false, false)]) := rfl
def ord106 : Ords
  | 4 => some (.lin [(0, none, false, false), (1, none, false, false), (2, none, true, false), (3, none, false, false), (4, none, false, false), (5, none, false, false), (6, none, false, false)])
  | 12 => some (.lin [(0, none, false, false), (1, none, false, false), (2, none, true, false), (3, none, false, false), (4, none, false, false), (5, none, true, false), (6, none, false, false), (7, none, false, false), (8, none, true, false), (9, none, false, false), (10, none, false, false), (11, none, false, false), (12, none, false, false), (13, none, false, false), (14, none, false, false), (15, none, false, false), (16, none, false, false)])
  | _ => none
@[go_sem] theorem ord106_0 : ord106 0 = none := rfl
@[go_sem] theorem ord106_1 : ord106 1 = none := rfl
@[go_sem] theorem ord106_2 : ord106 2 = none := rfl
@[go_sem] theorem ord106_3 : ord106 3 = none := rfl
@[go_sem] theorem ord106_4 : ord106 4 = some (.lin [(0, none, false, false), (1, none, false, false), (2, none, true, false), (3, none, false, false), (4, none, false, false), (5, none, false, false), (6, none, false, false)]) := rfl
@[go_sem] theorem ord106_5 : ord106 5 = none := rfl
@[go_sem] theorem ord106_6 : ord106 6 = none := rfl
@[go_sem] theorem ord106_7 : ord106 7 = none := rfl
@[go_sem] theorem ord106_8 : ord106 8 = none := rfl
@[go_sem] theorem ord106_9 : ord106 9 = none := rfl
@[go_sem] theorem ord106_10 : ord106 10 = none := rfl
@[go_sem] theorem ord106_11 : ord106 11 = none := rfl
@[go_sem] theorem ord106_12 : ord106 12 = some (.lin [(0, none, false, false), (1, none, false, false), (2, none, true, false), (3, none, false, false), (4, none, false, false), (5, none, true, false), (6, none, false, false), (7, none, false, false), (8, none, true, false), (9, none, false, false), (10, none, false, false), (11, none, false, false), (12, none, false, false), (13, none, false, false), (14, none, false, false), (15, none, false, false), (16, none, false, false)]) := rfl
@[go_sem] theorem ord106_13 : ord106 13 = none := rfl
@[go_sem] theorem ord106_14 : ord106 14 = none := rfl
@[go_sem] theorem ord106_15 : ord106 15 = none := rfl
def ord108 : Ords
  | 10 => some (.lin [(0, none, false, false), (1, none, false, false), (2, none, false, false), (3, none, true, false), (4, none, false, false), (5, none, false, false), (6, none, true, false), (7, none, false, false), (8, none, false, false), (9, none, false, false), (10, none, false, false), (11, none, true, false), (12, none, false, false), (13, none, false, false), (14, none, true, false), (15, none, false, false), (16, none, false, false), (17, none, false, false), (18, none, false, false)])
  | _ => none
@[go_sem] theorem ord108_0 : ord108 0 = none := rfl
@[go_sem] theorem ord108_1 : ord108 1 = none := rfl
@[go_sem] theorem ord108_2 : ord108 2 = none := rfl
@[go_sem] theorem ord108_3 : ord108 3 = none := rfl
@[go_sem] theorem ord108_4 : ord108 4 = none := rfl
@[go_sem] theorem ord108_5 : ord108 5 = none := rfl
@[go_sem] theorem ord108_6 : ord108 6 = none := rfl
@[go_sem] theorem ord108_7 : ord108 7 = none := rfl
@[go_sem] theorem ord108_8 : ord108 8 = none := rfl
@[go_sem] theorem ord108_9 : ord108 9 = none := rfl
@[go_sem] theorem ord108_10 : ord108 10 = some (.lin [(0, none, false, false), (1, none, false, false), (2, none, false, false), (3, none, true, false), (4, none, false, false), (5, none, false, false), (6, none, true, false), (7, none, false, false), (8, none, false, false), (9, none, false, false), (10, none, false, false), (11, none, true, false), (12, none, false, false), (13, none, false, false), (14, none, true, false), (15, none, false, false), (16, none, false, false), (17, none, false, false), (18, none, false, false)]) := rfl
@[go_sem] theorem ord108_11 : ord108 11 = none := rfl
@[go_sem] theorem ord108_12 : ord108 12 = none := rfl
@[go_sem] theorem ord108_13 : ord108 13 = none := rfl
def ord109 : Ords
  | _ => none
@[go_sem] theorem ord109_0 : ord109 0 = none := rfl
@[go_sem] theorem ord109_1 : ord109 1 = none := rfl
@[go_sem] theorem ord109_2 : ord109 2 = none := rfl
@[go_sem] theorem ord109_3 : ord109 3 = none := rfl
@[go_sem] theorem ord109_4 : ord109 4 = none := rfl
@[go_sem] theorem ord109_5 : ord109 5 = none := rfl
@[go_sem] theorem ord109_6 : ord109 6 = none := rfl
@[go_sem] theorem ord109_7 : ord109 7 = none := rfl
@[go_sem] theorem ord109_8 : ord109 8 = none := rfl
@[go_sem] theorem ord109_9 : ord109 9 = none := rfl
@[go_sem] theorem ord109_10 : ord109 10 = none := rfl
@[go_sem] theorem ord109_11 : ord109 11 = none := rfl
@[go_sem] theorem ord109_12 : ord109 12 = none := rfl
@[go_sem] theorem ord109_13 : ord109 13 = none := rfl
@[go_sem] theorem ord109_14 : ord109 14 = none := rfl
def ord110 : Ords
  | _ => none
@[go_sem] theorem ord110_0 : ord110 0 = none := rfl
@[go_sem] theorem ord110_1 : ord110 1 = none := rfl
@[go_sem] theorem ord110_2 : ord110 2 = none := rfl
@[go_sem] theorem ord110_3 : ord110 3 = none := rfl
def ord111 : Ords
  | _ => none
@[go_sem] theorem ord111_0 : ord111 0 = none := rfl
@[go_sem] theorem ord111_1 : ord111 1 = none := rfl
@[go_sem] theorem ord111_2 : ord111 2 = none := rfl
@[go_sem] theorem ord111_3 : ord111 3 = none := rfl
def ord112 : Ords
  | 3 => some (.lin [(0, some false, false, false), (1, some false, false, false), (2, some false, false, false), (3, some false, false, false), (4, some false, false, false), (6, some false, false, false), (7, some false, false, false), (8, some false, false, false), (9, some false, false, false), (10, some true, false, false), (5, none, false, false), (11, none, false, false), (12, some false, false, false), (13, some false, false, false)])
  | 5 => some (.lin [(0, none, false, false), (1, none, false, false), (2, none, false, false), (3, none, true, false), (4, none, false, false), (5, none, false, false), (6, none, false, false), (7, none, false, false)])
  | 6 => some (.lin [(0, some false, false, false), (1, some false, false, false), (2, some false, false, false), (3, some false, false, false), (4, some false, false, false), (5, some false, false, false), (6, some false, false, false), (7, some false, false, false), (8, none, false, false), (9, some false, false, false)])
  | 7 => some (.lin [(0, some false, false, false), (1, some false, false, false), (2, some false, false, false), (3, some false, false, false), (6, some false, false, false), (7, some true, false, false), (4, none, false, false), (5, none, false, false), (8, some false, false, false), (9, some false, false, false)])
  | 8 => some (.lin [(0, some false, false, false), (1, some false, false, false), (2, some false, false, false), (3, some false, false, false), (6, some false, false, false), (7, some true, false, false), (4, none, false, false), (5, none, false, false), (8, some false, false, false), (9, some false, false, false)])
  | _ => none
@[go_sem] theorem ord112_0 : ord112 0 = none := rfl
@[go_sem] theorem ord112_1 : ord112 1 = none := rfl
@[go_sem] theorem ord112_2 : ord112 2 = none := rfl
@[go_sem] theorem ord112_3 : ord112 3 = some (.lin [(0, some false, false, false), (1, some false, false, false), (2, some false, false, false), (3, some false, false, false), (4, some false, false, false), (6, some false, false, false), (7, some false, false, false), (8, some false, false, false), (9, some false, false, false), (10, some true, false, false), (5, none, false, false), (11, none, false, false), (12, some false, false, false), (13, some false, false, false)]) := rfl
@[go_sem] theorem ord112_4 : ord112 4 = none := rfl
@[go_sem] theorem ord112_5 : ord112 5 = some (.lin [(0, none, false, false), (1, none, false, false), (2, none, false, false), (3, none, true, false), (4, none, false, false), (5, none, false, false), (6, none, false, false), (7, none, false, false)]) := rfl
@[go_sem] theorem ord112_6 : ord112 6 = some (.lin [(0, some false, false, false), (1, some false, false, false), (2, some false, false, false), (3, some false, false, false), (4, some false, false, false), (5, some false, false, false), (6, some false, false, false), (7, some false, false, false), (8, none, false, false), (9, some false, false, false)]) := rfl
@[go_sem] theorem ord112_7 : ord112 7 = some (.lin [(0, some false, false, false), (1, some false, false, false), (2, some false, false, false), (3, some false, false, false), (6, some false, false, false), (7, some true, false, false), (4, none, false, false), (5, none, false, false), (8, some false, false, false), (9, some false, false, false)]) := rfl
@[go_sem] theorem ord112_8 : ord112 8 = some (.lin [(0, some false, false, false), (1, some false, false, false), (2, some false, false, false), (3, some false, false, false), (6, some false, false, false), (7, some true, false, false), (4, none, false, false), (5, none, false, false), (8, some false, false, false), (9, some false, false, false)]) := rfl
@[go_sem] theorem ord112_9 : ord112 9 = none := rfl
def ord113 : Ords
  | 9 => some (.lin [(0, none, false, false), (1, none, false, false), (2, none, false, false), (3, none, true, false), (4, none, false, false), (5, none, false, false), (6, none, false, false), (7, none, true, false), (8, none, false, false), (9, none, false, false), (10, none, true, false), (11, none, false, false), (12, none, false, false), (13, none, false, false), (14, none, false, false), (15, none, false, false), (16, none, false, false), (17, none, true, false), (18, none, false, false), (19, none, false, false), (20, none, true, false), (21, none, false, false), (22, none, false, false), (23, none, false, false), (24, none, false, false), (25, none, false, false), (26, none, false, false), (27, none, false, false)])
  | 11 => some (.lin [(0, none, false, false), (1, none, false, false), (2, none, true, false), (3, none, false, false), (4, none, false, false), (5, none, false, false), (6, none, false, false)])
  | 19 => some (.lin [(0, none, false, false), (1, none, false, false), (2, none, true, false), (3, none, false, false), (4, none, false, false), (5, none, false, false)])
  | _ => none
@[go_sem] theorem ord113_0 : ord113 0 = none := rfl
@[go_sem] theorem ord113_1 : ord113 1 = none := rfl
@[go_sem] theorem ord113_2 : ord113 2 = none := rfl
@[go_sem] theorem ord113_3 : ord113 3 = none := rfl
@[go_sem] theorem ord113_4 : ord113 4 = none := rfl
@[go_sem] theorem ord113_6 : ord113 6 = none := rfl
@[go_sem] theorem ord113_7 : ord113 7 = none := rfl
@[go_sem] theorem ord113_8 : ord113 8 = none := rfl
@[go_sem] theorem ord113_9 : ord113 9 = some (.lin [(0, none, false, false), (1, none, false, false), (2, none, false, false), (3, none, true, false), (4, none, false, false), (5, none, false, false), (6, none, false, false), (7, none, true, false), (8, none, false, false), (9, none, false, false), (10, none, true, false), (11, none, false, false), (12, none, false, false), (13, none, false, false), (14, none, false, false), (15, none, false, false), (16, none, false, false), (17, none, true, false), (18, none, false, false), (19, none, false, false), (20, none, true, false), (21, none, false, false), (22, none, false, false), (23, none, false, false), (24, none, false, false), (25, none, false, false), (26, none, false, false), (27, none, false, false)]) := rfl
@[go_sem] theorem ord113_10 : ord113 10 = none := rfl
@[go_sem] theorem ord113_11 : ord113 11 = some (.lin [(0, none, false, false), (1, none, false, false), (2, none, true, false), (3, none, false, false), (4, none, false, false), (5, none, false, false), (6, none, false, false)]) := rfl
@[go_sem] theorem ord113_12 : ord113 12 = none := rfl
@[go_sem] theorem ord113_13 : ord113 13 = none := rfl
@[go_sem] theorem ord113_14 : ord113 14 = none := rfl
@[go_sem] theorem ord113_15 : ord113 15 = none := rfl
@[go_sem] theorem ord113_16 : ord113 16 = none := rfl
@[go_sem] theorem ord113_17 : ord113 17 = none := rfl
@[go_sem] theorem ord113_18 : ord113 18 = none := rfl
@[go_sem] theorem ord113_5 : ord113 5 = none := rfl
@[go_sem] theorem ord113_19 : ord113 19 = some (.lin [(0, none, false, false), (1, none, false, false), (2, none, true, false), (3, none, false, false), (4, none, false, false), (5, none, false, false)]) := rfl
@[go_sem] theorem ord113_20 : ord113 20 = none := rfl
@[go_sem] theorem ord113_21 : ord113 21 = none := rfl
def ord115 : Ords
  | _ => none
@[go_sem] theorem ord115_0 : ord115 0 = none := rfl
@[go_sem] theorem ord115_1 : ord115 1 = none := rfl
@[go_sem] theorem ord115_2 : ord115 2 = none := rfl
@[go_sem] theorem ord115_3 : ord115 3 = none := rfl
@[go_sem] theorem ord115_4 : ord115 4 = none := rfl
@[go_sem] theorem ord115_5 : ord115 5 = none := rfl
@[go_sem] theorem ord115_6 : ord115 6 = none := rfl
@[go_sem] theorem ord115_7 : ord115 7 = none := rfl
@[go_sem] theorem ord115_8 : ord115 8 = none := rfl
@[go_sem] theorem ord115_9 : ord115 9 = none := rfl
@[go_sem] theorem ord115_10 : ord115 10 = none := rfl
@[go_sem] theorem ord115_11 : ord115 11 = none := rfl
def ord118 : Ords
  | _ => none
@[go_sem] theorem ord118_0 : ord118 0 = none := rfl
@[go_sem] theorem ord118_1 : ord118 1 = none := rfl
def ord119 : Ords
  | 1 => some (.lin [(0, none, false, false), (1, none, false, false), (2, none, false, false), (3, none, false, false), (4, none, true, false), (5, none, false, false), (6, none, false, false), (7, none, false, false), (8, none, false, false), (9, none, false, false), (10, none, false, false)])
  | _ => none
@[go_sem] theorem ord119_0 : ord119 0 = none := rfl
@[go_sem] theorem ord119_1 : ord119 1 = some (.lin [(0, none, false, false), (1, none, false, false), (2, none, false, false), (3, none, false, false), (4, none, true, false), (5, none, false, false), (6, none, false, false), (7, none, false, false), (8, none, false, false), (9, none, false, false), (10, none, false, false)]) := rfl
def ord120 : Ords
  | _ => none
@[go_sem] theorem ord120_0 : ord120 0 = none := rfl
def ord121 : Ords
  | _ => none
@[go_sem] theorem ord121_0 : ord121 0 = none := rfl
@[go_sem] theorem ord121_1 : ord121 1 = none := rfl
def ord122 : Ords
  | 0 => some (.lin [(0, some false, false, false), (1, some false, false, false), (2, some false, false, false), (3, some false, false, false), (4, some false, false, false), (5, some false, false, false), (6, some false, false, false), (7, some false, false, false), (8, some false, false, false), (9, some false, false, false), (10, some false, false, false), (11, some false, false, false), (12, some false, false, false), (13, some false, false, false), (14, some false, false, false), (15, some false, false, false), (16, some false, false, false), (17, some false, false, false), (18, none, false, false), (19, some false, false, false), (20, some false, false, false), (21, none, false, false)])
  | _ => none
@[go_sem] theorem ord122_0 : ord122 0 = some (.lin [(0, some false, false, false), (1, some false, false, false), (2, some false, false, false), (3, some false, false, false), (4, some false, false, false), (5, some false, false, false), (6, some false, false, false), (7, some false, false, false), (8, some false, false, false), (9, some false, false, false), (10, some false, false, false), (11, some false, false, false), (12, some false, false, false), (13, some false, false, false), (14, some false, false, false), (15, some false, false, false), (16, some false, false, false), (17, some false, false, false), (18, none, false, false), (19, some false, false, false), (20, some false, false, false), (21, none, false, false)]) := rfl
def ord123 : Ords
  | 2 => some (.lin [(0, none, false, false), (1, none, false, false), (2, none, true, false), (3, none, false, false), (4, none, false, false), (5, none, false, false)])
  | _ => none
@[go_sem] theorem ord123_0 : ord123 0 = none := rfl
@[go_sem] theorem ord123_1 : ord123 1 = none := rfl
@[go_sem] theorem ord123_2 : ord123 2 = some (.lin [(0, none, false, false), (1, none, false, false), (2, none, true, false), (3, none, false, false), (4, none, false, false), (5, none, false, false)]) := rfl
@[go_sem] theorem ord123_3 : ord123 3 = none := rfl
@[go_sem] theorem ord123_4 : ord123 4 = none := rfl
@[go_sem] theorem ord123_5 : ord123 5 = none := rfl
def ord124 : Ords
  | _ => none
@[go_sem] theorem ord124_0 : ord124 0 = none := rfl
@[go_sem] theorem ord124_1 : ord124 1 = none := rfl
def ord125 : Ords
  | 3 => some (.lin [(0, none, false, false), (1, none, false, false), (2, none, false, false), (3, none, true, false), (4, none, false, false), (5, none, false, false), (6, none, false, false), (7, none, false, false), (8, none, false, false)])
  | 5 => some (.lin [(0, none, false, false), (1, none, false, false), (2, none, false, false), (3, none, true, false), (4, none, false, false), (5, none, false, false), (6, none, false, false), (7, none, false, false), (8, none, false, false)])
  | 7 => some (.lin [(0, none, false, false), (1, none, false, false), (2, none, false, false), (3, none, true, false), (4, none, false, false), (5, none, false, false), (6, none, false, false), (7, none, false, false), (8, none, false, false)])
  | 9 => some (.lin [(0, none, false, false), (1, none, false, false), (2, none, false, false), (3, none, true, false), (4, none, false, false), (5, none, false, false), (6, none, false, false), (7, none, false, false), (8, none, false, false), (9, none, false, false)])
  | _ => none
@[go_sem] theorem ord125_0 : ord125 0 = none := rfl
@[go_sem] theorem ord125_1 : ord125 1 = none := rfl
@[go_sem] theorem ord125_2 : ord125 2 = none := rfl
@[go_sem] theorem ord125_3 : ord125 3 = some (.lin [(0, none, false, false), (1, none, false, false), (2, none, false, false), (3, none, true, false), (4, none, false, false), (5, none, false, false), (6, none, false, false), (7, none, false, false), (8, none, false, false)]) := rfl
@[go_sem] theorem ord125_4 : ord125 4 = none := rfl
@[go_sem] theorem ord125_5 : ord125 5 = some (.lin [(0, none, false, false), (1, none, false, false), (2, none, false, false), (3, none, true, false), (4, none, false, false), (5, none, false, false), (6, none, false, false), (7, none, false, false), (8, none, false, false)]) := rfl
@[go_sem] theorem ord125_6 : ord125 6 = none := rfl
@[go_sem] theorem ord125_7 : ord125 7 = some (.lin [(0, none, false, false), (1, none, false, false), (2, none, false, false), (3, none, true, false), (4, none, false, false), (5, none, false, false), (6, none, false, false), (7, none, false, false), (8, none, false, false)]) := rfl
@[go_sem] theorem ord125_8 : ord125 8 = none := rfl
@[go_sem] theorem ord125_9 : ord125 9 = some (.lin [(0, none, false, false), (1, none, false, false), (2, none, false, false), (3, none, true, false), (4, none, false, false), (5, none, false, false), (6, none, false, false), (7, none, false, false), (8, none, false, false), (9, none, false, false)]) := rfl
@[go_sem] theorem ord125_10 : ord125 10 = none := rfl
def ord126 : Ords
  | _ => none
@[go_sem] theorem ord126_0 : ord126 0 = none := rfl
@[go_sem] theorem ord126_1 : ord126 1 = none := rfl
@[go_sem] theorem ord126_2 : ord126 2 = none := rfl
@[go_sem] theorem ord126_3 : ord126 3 = none := rfl
@[go_sem] theorem ord126_4 : ord126 4 = none := rfl
@[go_sem] theorem ord126_5 : ord126 5 = none := rfl
@[go_sem] theorem ord126_6 : ord126 6 = none := rfl
@[go_sem] theorem ord126_7 : ord126 7 = none := rfl
@[go_sem] theorem ord126_8 : ord126 8 = none := rfl
@[go_sem] theorem ord126_9 : ord126 9 = none := rfl
@[go_sem] theorem ord126_10 : ord126 10 = none := rfl
@[go_sem] theorem ord126_11 : ord126 11 = none := rfl
@[go_sem] theorem ord126_12 : ord126 12 = none := rfl
@[go_sem] theorem ord126_13 : ord126 13 = none := rfl
def ord127 : Ords
  | _ => none
@[go_sem] theorem ord127_0 : ord127 0 = none := rfl
@[go_sem] theorem ord127_1 : ord127 1 = none := rfl
@[go_sem] theorem ord127_2 : ord127 2 = none := rfl
@[go_sem] theorem ord127_3 : ord127 3 = none := rfl
@[go_sem] theorem ord127_4 : ord127 4 = none := rfl
@[go_sem] theorem ord127_5 : ord127 5 = none := rfl
@[go_sem] theorem ord127_6 : ord127 6 = none := rfl
def ord128 : Ords
  | 1 => some (.lin [(0, none, false, false), (1, none, false, false), (2, none, false, false), (3, none, true, false), (4, none, false, false), (5, none, false, false), (6, none, false, false), (7, none, false, false), (8, none, false, false)])
  | _ => none
@[go_sem] theorem ord128_0 : ord128 0 = none := rfl
@[go_sem] theorem ord128_1 : ord128 1 = some (.lin [(0, none, false, false), (1, none, false, false), (2, none, false, false), (3, none, true, false), (4, none, false, false), (5, none, false, false), (6, none, false, false), (7, none, false, false), (8, none, false, false)]) := rfl
def ord129 : Ords
  | _ => none
@[go_sem] theorem ord129_0 : ord129 0 = none := rfl
@[go_sem] theorem ord129_1 : ord129 1 = none := rfl
@[go_sem] theorem ord129_2 : ord129 2 = none := rfl
@[go_sem] theorem ord129_3 : ord129 3 = none := rfl
@[go_sem] theorem ord129_4 : ord129 4 = none := rfl
@[go_sem] theorem ord129_5 : ord129 5 = none := rfl
@[go_sem] theorem ord129_6 : ord129 6 = none := rfl
@[go_sem] theorem ord129_7 : ord129 7 = none := rfl
@[go_sem] theorem ord129_8 : ord129 8 = none := rfl
def ord130 : Ords
  | _ => none
@[go_sem] theorem ord130_0 : ord130 0 = none := rfl
@[go_sem] theorem ord130_1 : ord130 1 = none := rfl
@[go_sem] theorem ord130_2 : ord130 2 = none := rfl
@[go_sem] theorem ord130_3 : ord130 3 = none := rfl
@[go_sem] theorem ord130_4 : ord130 4 = none := rfl
@[go_sem] theorem ord130_5 : ord130 5 = none := rfl
@[go_sem] theorem ord130_6 : ord130 6 = none := rfl
@[go_sem] theorem ord130_7 : ord130 7 = none := rfl
@[go_sem] theorem ord130_8 : ord130 8 = none := rfl
@[go_sem] theorem ord130_9 : ord130 9 = none := rfl
@[go_sem] theorem ord130_10 : ord130 10 = none := rfl
@[go_sem] theorem ord130_11 : ord130 11 = none := rfl
@[go_sem] theorem ord130_12 : ord130 12 = none := rfl
@[go_sem] theorem ord130_13 : ord130 13 = none := rfl
def ord131 : Ords
  | _ => none
@[go_sem] theorem ord131_0 : ord131 0 = none := rfl
@[go_sem] theorem ord131_1 : ord131 1 = none := rfl
@[go_sem] theorem ord131_2 : ord131 2 = none := rfl
@[go_sem] theorem ord131_3 : ord131 3 = none := rfl
@[go_sem] theorem ord131_4 : ord131 4 = none := rfl
@[go_sem] theorem ord131_5 : ord131 5 = none := rfl
@[go_sem] theorem ord131_6 : ord131 6 = none := rfl
@[go_sem] theorem ord131_7 : ord131 7 = none := rfl
@[go_sem] theorem ord131_8 : ord131 8 = none := rfl
@[go_sem] theorem ord131_9 : ord131 9 = none := rfl
@[go_sem] theorem ord131_10 : ord131 10 = none := rfl
@[go_sem] theorem ord131_11 : ord131 11 = none := rfl
@[go_sem] theorem ord131_12 : ord131 12 = none := rfl
@[go_sem] theorem ord131_13 : ord131 13 = none := rfl
def ord132 : Ords
  | _ => none
@[go_sem] theorem ord132_0 : ord132 0 = none := rfl
@[go_sem] theorem ord132_1 : ord132 1 = none := rfl
@[go_sem] theorem ord132_2 : ord132 2 = none := rfl
@[go_sem] theorem ord132_3 : ord132 3 = none := rfl
@[go_sem] theorem ord132_4 : ord132 4 = none := rfl
@[go_sem] theorem ord132_5 : ord132 5 = none := rfl
@[go_sem] theorem ord132_6 : ord132 6 = none := rfl
@[go_sem] theorem ord132_7 : ord132 7 = none := rfl
def ord133 : Ords
  | _ => none
@[go_sem] theorem ord133_0 : ord133 0 = none := rfl
@[go_sem] theorem ord133_1 : ord133 1 = none := rfl
def ord134 : Ords
  | _ => none
@[go_sem] theorem ord134_0 : ord134 0 = none := rfl
@[go_sem] theorem ord134_1 : ord134 1 = none := rfl
def ord135 : Ords
  | 8 => some (.lin [(0, none, false, false), (1, none, false, false), (2, none, false, false), (3, none, false, false), (4, none, true, false), (5, none, false, false), (6, none, false, false), (7, none, false, false), (8, none, false, false), (9, none, false, false), (10, none, false, false), (11, none, false, false), (12, none, false, false), (13, none, false, false), (14, none, false, false), (15, none, false, false)])
  | _ => none
@[go_sem] theorem ord135_0 : ord135 0 = none := rfl
@[go_sem] theorem ord135_1 : ord135 1 = none := rfl
@[go_sem] theorem ord135_2 : ord135 2 = none := rfl
@[go_sem] theorem ord135_3 : ord135 3 = none := rfl
@[go_sem] theorem ord135_4 : ord135 4 = none := rfl
@[go_sem] theorem ord135_5 : ord135 5 = none := rfl
@[go_sem] theorem ord135_6 : ord135 6 = none := rfl
@[go_sem] theorem ord135_7 : ord135 7 = none := rfl
@[go_sem] theorem ord135_8 : ord135 8 = some (.lin [(0, none, false, false), (1, none, false, false), (2, none, false, false), (3, none, false, false), (4, none, true, false), (5, none, false, false), (6, none, false, false), (7, none, false, false), (8, none, false, false), (9, none, false, false), (10, none, false, false), (11, none, false, false), (12, none, false, false), (13, none, false, false), (14, none, false, false), (15, none, false, false)]) := rfl
def ord136 : Ords
  | _ => none
@[go_sem] theorem ord136_0 : ord136 0 = none := rfl
@[go_sem] theorem ord136_1 : ord136 1 = none := rfl
def ord138 : Ords
  | 2 => some (.lin [(0, none, false, false), (1, none, false, false), (2, none, false, false), (3, none, false, false), (4, none, true, false), (5, none, false, false), (6, none, false, false), (7, none, false, false), (8, none, false, false), (9, none, false, false), (10, none, false, false), (11, none, false, false)])
  | _ => none
@[go_sem] theorem ord138_0 : ord138 0 = none := rfl
@[go_sem] theorem ord138_1 : ord138 1 = none := rfl
@[go_sem] theorem ord138_2 : ord138 2 = some (.lin [(0, none, false, false), (1, none, false, false), (2, none, false, false), (3, none, false, false), (4, none, true, false), (5, none, false, false), (6, none, false, false), (7, none, false, false), (8, none, false, false), (9, none, false, false), (10, none, false, false), (11, none, false, false)]) := rfl
def ord139 : Ords
  | _ => none
@[go_sem] theorem ord139_0 : ord139 0 = none := rfl
@[go_sem] theorem ord139_1 : ord139 1 = none := rfl
@[go_sem] theorem ord139_2 : ord139 2 = none := rfl
@[go_sem] theorem ord139_3 : ord139 3 = none := rfl
@[go_sem] theorem ord139_4 : ord139 4 = none := rfl
@[go_sem] theorem ord139_5 : ord139 5 = none := rfl
@[go_sem] theorem ord139_6 : ord139 6 = none := rfl
@[go_sem] theorem ord139_7 : ord139 7 = none := rfl
@[go_sem] theorem ord139_8 : ord139 8 = none := rfl
@[go_sem] theorem ord139_9 : ord139 9 = none := rfl
@[go_sem] theorem ord139_10 : ord139 10 = none := rfl
@[go_sem] theorem ord139_11 : ord139 11 = none := rfl
@[go_sem] theorem ord139_12 : ord139 12 = none := rfl
@[go_sem] theorem ord139_13 : ord139 13 = none := rfl
@[go_sem] theorem ord139_14 : ord139 14 = none := rfl
@[go_sem] theorem ord139_15 : ord139 15 = none := rfl
@[go_sem] theorem ord139_16 : ord139 16 = none := rfl
def ord140 : Ords
  | _ => none
@[go_sem] theorem ord140_0 : ord140 0 = none := rfl
@[go_sem] theorem ord140_1 : ord140 1 = none := rfl
def ord141 : Ords
  | _ => none
@[go_sem] theorem ord141_0 : ord141 0 = none := rfl
@[go_sem] theorem ord141_1 : ord141 1 = none := rfl
def ord142 : Ords
  | _ => none
@[go_sem] theorem ord142_0 : ord142 0 = none := rfl
@[go_sem] theorem ord142_1 : ord142 1 = none := rfl
@[go_sem] theorem ord142_2 : ord142 2 = none := rfl
@[go_sem] theorem ord142_3 : ord142 3 = none := rfl
@[go_sem] theorem ord142_4 : ord142 4 = none := rfl
@[go_sem] theorem ord142_5 : ord142 5 = none := rfl
@[go_sem] theorem ord142_6 : ord142 6 = none := rfl
@[go_sem] theorem ord142_7 : ord142 7 = none := rfl
def ord143 : Ords
  | 4 => some (.lin [(0, none, false, false), (1, none, false, false), (2, none, false, false), (3, none, true, false), (4, none, false, false), (5, none, false, false), (6, none, false, false), (7, none, false, false), (8, none, false, false)])
  | 6 => some (.lin [(0, none, false, false), (1, none, false, false), (2, none, false, false), (3, none, true, false), (4, none, false, false), (5, none, false, false), (6, none, false, false), (7, none, false, false), (8, none, true, false), (9, none, false, false), (10, none, false, false), (11, none, false, false), (12, none, false, false), (13, none, false, false)])
  | 8 => some (.lin [(0, none, false, false), (1, none, false, false), (2, none, false, false), (3, none, true, false), (4, none, false, false), (5, none, false, false), (6, none, false, false), (7, none, false, false), (8, none, false, false)])
  | 10 => some (.lin [(0, none, false, false), (1, none, false, false), (2, none, false, false), (3, none, true, false), (4, none, false, false), (5, none, false, false), (6, none, false, false), (7, none, false, false), (8, none, false, false), (9, none, false, false)])
  | _ => none
@[go_sem] theorem ord143_0 : ord143 0 = none := rfl
@[go_sem] theorem ord143_1 : ord143 1 = none := rfl
@[go_sem] theorem ord143_2 : ord143 2 = none := rfl
@[go_sem] theorem ord143_3 : ord143 3 = none := rfl
@[go_sem] theorem ord143_4 : ord143 4 = some (.lin [(0, none, false, false), (1, none, false, false), (2, none, false, false), (3, none, true, false), (4, none, false, false), (5, none, false, false), (6, none, false, false), (7, none, false, false), (8, none, false, false)]) := rfl
@[go_sem] theorem ord143_5 : ord143 5 = none := rfl
@[go_sem] theorem ord143_6 : ord143 6 = some (.lin [(0, none, false, false), (1, none, false, false), (2, none, false, false), (3, none, true, false), (4, none, false, false), (5, none, false, false), (6, none, false, false), (7, none, false, false), (8, none, true, false), (9, none, false, false), (10, none, false, false), (11, none, false, false), (12, none, false, false), (13, none, false, false)]) := rfl
@[go_sem] theorem ord143_7 : ord143 7 = none := rfl
@[go_sem] theorem ord143_8 : ord143 8 = some (.lin [(0, none, false, false), (1, none, false, false), (2, none, false, false), (3, none, true, false), (4, none, false, false), (5, none, false, false), (6, none, false, false), (7, none, false, false), (8, none, false, false)]) := rfl
@[go_sem] theorem ord143_9 : ord143 9 = none := rfl
@[go_sem] theorem ord143_10 : ord143 10 = some (.lin [(0, none, false, false), (1, none, false, false), (2, none, false, false), (3, none, true, false), (4, none, false, false), (5, none, false, false), (6, none, false, false), (7, none, false, false), (8, none, false, false), (9, none, false, false)]) := rfl
@[go_sem] theorem ord143_11 : ord143 11 = none := rfl
@[go_sem] theorem ord143_12 : ord143 12 = none := rfl
@[go_sem] theorem ord143_13 : ord143 13 = none := rfl
def ord146 : Ords
  | 2 => some (.lin [(0, none, false, false), (1, none, false, false), (2, none, false, false), (3, none, false, false), (4, none, false, false), (5, none, true, false), (6, none, false, false), (7, none, false, false), (8, none, false, false), (9, none, false, false), (10, none, false, false)])
  | _ => none
@[go_sem] theorem ord146_0 : ord146 0 = none := rfl
@[go_sem] theorem ord146_1 : ord146 1 = none := rfl
@[go_sem] theorem ord146_2 : ord146 2 = some (.lin [(0, none, false, false), (1, none, false, false), (2, none, false, false), (3, none, false, false), (4, none, false, false), (5, none, true, false), (6, none, false, false), (7, none, false, false), (8, none, false, false), (9, none, false, false), (10, none, false, false)]) := rfl
def ord147 : Ords
  | 1 => some (.lin [(0, none, false, false), (1, none, false, false), (2, none, true, false), (3, none, false, false), (4, none, false, false), (5, none, false, false), (6, none, false, false)])
  | _ => none
@[go_sem] theorem ord147_0 : ord147 0 = none := rfl
@[go_sem] theorem ord147_1 : ord147 1 = some (.lin [(0, none, false, false), (1, none, false, false), (2, none, true, false), (3, none, false, false), (4, none, false, false), (5, none, false, false), (6, none, false, false)]) := rfl
def ord148 : Ords
  | 4 => some (.lin [(0, some false, false, false), (1, some false, false, false), (2, some false, false, false), (3, some false, true, false), (4, some false, false, false), (5, some false, false, false), (6, some false, false, false), (7, some false, false, false), (8, some false, false, false), (9, some false, false, false), (10, some false, false, false), (11, some false, false, false), (12, some false, false, false), (13, some false, false, false), (14, none, false, false), (15, some false, false, false), (16, some false, false, false)])
  | 6 => some (.lin [(0, some false, false, false), (1, some false, false, false), (2, some false, false, false), (3, some false, false, false), (4, some false, false, false), (5, some false, false, false), (6, some false, false, false), (7, some false, false, false), (8, some false, false, false), (9, some false, false, false), (10, some false, false, false), (11, some false, false, false), (12, some false, false, false), (13, some false, false, false), (14, some false, false, false), (15, none, false, false), (16, some false, false, false), (17, none, false, false)])
  | _ => none
@[go_sem] theorem ord148_0 : ord148 0 = none := rfl
@[go_sem] theorem ord148_1 : ord148 1 = none := rfl
@[go_sem] theorem ord148_3 : ord148 3 = none := rfl
@[go_sem] theorem ord148_4 : ord148 4 = some (.lin [(0, some false, false, false), (1, some false, false, false), (2, some false, false, false), (3, some false, true, false), (4, some false, false, false), (5, some false, false, false), (6, some false, false, false), (7, some false, false, false), (8, some false, false, false), (9, some false, false, false), (10, some false, false, false), (11, some false, false, false), (12, some false, false, false), (13, some false, false, false), (14, none, false, false), (15, some false, false, false), (16, some false, false, false)]) := rfl
@[go_sem] theorem ord148_6 : ord148 6 = some (.lin [(0, some false, false, false), (1, some false, false, false), (2, some false, false, false), (3, some false, false, false), (4, some false, false, false), (5, some false, false, false), (6, some false, false, false), (7, some false, false, false), (8, some false, false, false), (9, some false, false, false), (10, some false, false, false), (11, some false, false, false), (12, some false, false, false), (13, some false, false, false), (14, some false, false, false), (15, none, false, false), (16, some false, false, false), (17, none, false, false)]) := rfl
@[go_sem] theorem ord148_5 : ord148 5 = none := rfl
@[go_sem] theorem ord148_2 : ord148 2 = none := rfl
def ord149 : Ords
  | 5 => some (.lin [(0, some false, false, false), (1, some false, false, false), (2, some false, false, false), (3, some false, false, false), (4, some false, false, false), (5, some false, false, false), (6, some false, false, false), (7, some false, false, false), (8, some false, false, false), (9, none, false, false), (10, some false, false, false)])
  | 11 => some (.lin [(0, some false, false, false), (1, some false, false, false), (2, some false, false, false), (3, some false, false, false), (4, some false, false, false), (5, some false, false, false), (6, some false, false, false), (7, some false, false, false), (8, some false, false, false), (9, some false, false, false), (10, some false, false, false), (11, some false, false, false), (12, some false, false, false), (13, some false, false, false), (14, some false, false, false), (15, none, false, false), (16, some false, false, false), (17, none, false, false)])
  | 17 => some (.lin [(0, some false, false, false), (1, some false, false, false), (2, some false, false, false), (3, some false, false, false), (4, some false, false, false), (5, some false, false, false), (6, some false, false, false), (7, some false, false, false), (8, some false, false, false), (9, none, false, false), (10, some false, false, false), (11, some false, false, false)])
  | 23 => some (.lin [(0, some false, false, false), (1, some false, false, false), (2, some false, false, false), (3, some false, false, false), (4, some false, false, false), (5, some false, false, false), (6, some false, false, false), (7, some false, false, false), (8, some false, false, false), (9, some false, false, false), (10, some false, false, false), (11, some false, false, false), (12, some false, false, false), (13, some false, false, false), (14, some false, false, false), (15, none, false, false), (16, some false, false, false), (17, none, false, false)])
  | 35 => some (.lin [(0, some false, false, false), (1, some false, false, false), (2, some false, false, false), (3, some false, false, false), (4, some false, false, false), (5, some false, false, false), (6, some false, false, false), (7, some false, false, false), (8, some false, false, false), (9, some false, false, false), (10, some false, false, false), (11, none, false, false), (12, some false, false, false), (13, some false, false, false)])
  | 39 => some (.lin [(0, none, false, false), (1, none, false, false), (2, none, false, false), (3, none, true, false), (4, none, false, false), (5, none, false, false), (6, none, false, false), (7, none, false, false)])
  | 41 => some (.lin [(0, none, false, false), (1, none, false, false), (2, none, false, false), (3, none, true, false), (4, none, false, false), (5, none, false, false), (6, none, false, false), (7, none, false, false)])
  | 43 => some (.lin [(0, none, false, false), (1, none, false, false), (2, none, false, false), (3, none, true, false), (4, none, false, false), (5, none, false, false), (6, none, false, false), (7, none, false, false)])
  | _ => none
@[go_sem] theorem ord149_0 : ord149 0 = none := rfl
@[go_sem] theorem ord149_1 : ord149 1 = none := rfl
@[go_sem] theorem ord149_2 : ord149 2 = none := rfl
@[go_sem] theorem ord149_3 : ord149 3 = none := rfl
@[go_sem] theorem ord149_4 : ord149 4 = none := rfl
@[go_sem] theorem ord149_5 : ord149 5 = some (.lin [(0, some false, false, false), (1, some false, false, false), (2, some false, false, false), (3, some false, false, false), (4, some false, false, false), (5, some false, false, false), (6, some false, false, false), (7, some false, false, false), (8, some false, false, false), (9, none, false, false), (10, some false, false, false)]) := rfl
@[go_sem] theorem ord149_6 : ord149 6 = none := rfl
@[go_sem] theorem ord149_7 : ord149 7 = none := rfl
@[go_sem] theorem ord149_8 : ord149 8 = none := rfl
@[go_sem] theorem ord149_9 : ord149 9 = none := rfl
@[go_sem] theorem ord149_11 : ord149 11 = some (.lin [(0, some false, false, false), (1, some false, false, false), (2, some false, false, false), (3, some false, false, false), (4, some false, false, false), (5, some false, false, false), (6, some false, false, false), (7, some false, false, false), (8, some false, false, false), (9, some false, false, false), (10, some false, false, false), (11, some false, false, false), (12, some false, false, false), (13, some false, false, false), (14, some false, false, false), (15, none, false, false), (16, some false, false, false), (17, none, false, false)]) := rfl
@[go_sem] theorem ord149_10 : ord149 10 = none := rfl
@[go_sem] theorem ord149_12 : ord149 12 = none := rfl
@[go_sem] theorem ord149_13 : ord149 13 = none := rfl
@[go_sem] theorem ord149_14 : ord149 14 = none := rfl
@[go_sem] theorem ord149_15 : ord149 15 = none := rfl
@[go_sem] theorem ord149_16 : ord149 16 = none := rfl
@[go_sem] theorem ord149_17 : ord149 17 = some (.lin [(0, some false, false, false), (1, some false, false, false), (2, some false, false, false), (3, some false, false, false), (4, some false, false, false), (5, some false, false, false), (6, some false, false, false), (7, some false, false, false), (8, some false, false, false), (9, none, false, false), (10, some false, false, false), (11, some false, false, false)]) := rfl
@[go_sem] theorem ord149_18 : ord149 18 = none := rfl
@[go_sem] theorem ord149_19 : ord149 19 = none := rfl
@[go_sem] theorem ord149_20 : ord149 20 = none := rfl
@[go_sem] theorem ord149_21 : ord149 21 = none := rfl
@[go_sem] theorem ord149_23 : ord149 23 = some (.lin [(0, some false, false, false), (1, some false, false, false), (2, some false, false, false), (3, some false, false, false), (4, some false, false, false), (5, some false, false, false), (6, some false, false, false), (7, some false, false, false), (8, some false, false, false), (9, some false, false, false), (10, some false, false, false), (11, some false, false, false), (12, some false, false, false), (13, some false, false, false), (14, some false, false, false), (15, none, false, false), (16, some false, false, false), (17, none, false, false)]) := rfl
@[go_sem] theorem ord149_22 : ord149 22 = none := rfl
@[go_sem] theorem ord149_24 : ord149 24 = none := rfl
@[go_sem] theorem ord149_25 : ord149 25 = none := rfl
@[go_sem] theorem ord149_26 : ord149 26 = none := rfl
@[go_sem] theorem ord149_27 : ord149 27 = none := rfl
@[go_sem] theorem ord149_28 : ord149 28 = none := rfl
@[go_sem] theorem ord149_29 : ord149 29 = none := rfl
@[go_sem] theorem ord149_30 : ord149 30 = none := rfl
@[go_sem] theorem ord149_31 : ord149 31 = none := rfl
@[go_sem] theorem ord149_32 : ord149 32 = none := rfl
@[go_sem] theorem ord149_33 : ord149 33 = none := rfl
@[go_sem] theorem ord149_34 : ord149 34 = none := rfl
@[go_sem] theorem ord149_35 : ord149 35 = some (.lin [(0, some false, false, false), (1, some false, false, false), (2, some false, false, false), (3, some false, false, false), (4, some false, false, false), (5, some false, false, false), (6, some false, false, false), (7, some false, false, false), (8, some false, false, false), (9, some false, false, false), (10, some false, false, false), (11, none, false, false), (12, some false, false, false), (13, some false, false, false)]) := rfl
@[go_sem] theorem ord149_36 : ord149 36 = none := rfl
@[go_sem] theorem ord149_37 : ord149 37 = none := rfl
@[go_sem] theorem ord149_38 : ord149 38 = none := rfl
theorem ord149_39 : ord149 39 = some (.lin [(0, none, false, false), (1, none, false, false), (2, none, false, false), (3, none, true, false), (4, none, false, false), (5, none, false, false), (6, none, false, false), (7, none, false, false)]) := rfl
@[go_sem] theorem ord149_40 : ord149 40 = none := rfl
theorem ord149_41 : ord149 41 = some (.lin [(0, none, false, false), (1, none, false, false), (2, none, false, false), (3, none, true, false), (4, none, false, false), (5, none, false, false), (6, none, false, false), (7, none, false, false)]) := rfl
@[go_sem] theorem ord149_42 : ord149 42 = none := rfl
theorem ord149_43 : ord149 43 = some (.lin [(0, none, false, false), (1, none, false, false), (2, none, false, false), (3, none, true, false), (4, none, false, false), (5, none, false, false), (6, none, false, false), (7, none, false, false)]) := rfl
@[go_sem] theorem ord149_44 : ord149 44 = none := rfl
def ord150 : Ords
  | 1 => some (.lin [(0, none, false, false), (1, none, false, false), (2, none, false, false), (3, none, false, false), (4, none, true, false), (5, none, false, false), (6, none, false, false), (7, none, false, false), (8, none, false, false), (9, none, false, false)])
  | _ => none
@[go_sem] theorem ord150_0 : ord150 0 = none := rfl
@[go_sem] theorem ord150_1 : ord150 1 = some (.lin [(0, none, false, false), (1, none, false, false), (2, none, false, false), (3, none, false, false), (4, none, true, false), (5, none, false, false), (6, none, false, false), (7, none, false, false), (8, none, false, false), (9, none, false, false)]) := rfl
def ord152 : Ords
  | _ => none
@[go_sem] theorem ord152_0 : ord152 0 = none := rfl
@[go_sem] theorem ord152_1 : ord152 1 = none := rfl
@[go_sem] theorem ord152_2 : ord152 2 = none := rfl
@[go_sem] theorem ord152_3 : ord152 3 = none := rfl
@[go_sem] theorem ord152_4 : ord152 4 = none := rfl
@[go_sem] theorem ord152_5 : ord152 5 = none := rfl
@[go_sem] theorem ord152_6 : ord152 6 = none := rfl
@[go_sem] theorem ord152_7 : ord152 7 = none := rfl
@[go_sem] theorem ord152_8 : ord152 8 = none := rfl
def ord154 : Ords
  | 3 => some (.lin [(0, some false, false, false), (1, some false, false, false), (2, some false, false, false), (3, some false, false, false), (4, some false, false, false), (5, some false, false, false), (6, some false, false, false), (7, some false, false, false), (8, some false, false, false), (9, some false, false, false), (10, some false, false, false), (11, some false, false, false), (12, some false, false, false), (13, some false, false, false), (14, some false, false, false), (15, some false, false, false), (16, some false, false, false), (17, some false, false, false), (18, some false, false, false), (19, some false, false, false), (20, some false, false, false), (21, none, false, false), (22, some false, false, false), (23, none, false, false)])
  | _ => none
@[go_sem] theorem ord154_0 : ord154 0 = none := rfl
@[go_sem] theorem ord154_1 : ord154 1 = none := rfl
@[go_sem] theorem ord154_3 : ord154 3 = some (.lin [(0, some false, false, false), (1, some false, false, false), (2, some false, false, false), (3, some false, false, false), (4, some false, false, false), (5, some false, false, false), (6, some false, false, false), (7, some false, false, false), (8, some false, false, false), (9, some false, false, false), (10, some false, false, false), (11, some false, false, false), (12, some false, false, false), (13, some false, false, false), (14, some false, false, false), (15, some false, false, false), (16, some false, false, false), (17, some false, false, false), (18, some false, false, false), (19, some false, false, false), (20, some false, false, false), (21, none, false, false), (22, some false, false, false), (23, none, false, false)]) := rfl
@[go_sem] theorem ord154_2 : ord154 2 = none := rfl
end Yt
namespace Yt
open Go Go.Vc Go.Proofs
set_option maxRecDepth 10000

structure V where
  k : Int
  i : Int
  s : ByteArray
def V.c (v : V) : List AV := [.pr (.int .i64 v.k), .pr (.int .i64 v.i), .pr (.string v.s)]
def rowA (r : List V) : AV := .im 3 (r.map V.c)
def cmpI (x y : Int) : Int := if x < y then -1 else if y < x then 1 else 0
def cmpS (x y : ByteArray) : Int := if Op.bytesLess x.toList y.toList then -1 else if !(Op.bytesLess x.toList y.toList || decide (x = y)) then 1 else 0
def nz : List Int → Int
  | [] => 0
  | x :: r => if x = 0 then nz r else x
def cmpV (a b : V) : Int := nz [cmpI a.k b.k, cmpI a.i b.i, cmpS a.s b.s]
def cmpR : List V → List V → Int
  | [], [] => 0
  | [], _ :: _ => -1
  | _ :: _, [] => 1
  | a :: r, b :: r' => if cmpV a b = 0 then cmpR r r' else cmpV a b

theorem s72 (x : Int) : Spec0 Try.prog 140 [.pr (.int .i64 x)] (· = .pr (.bool false)) := by
  refine spec0_of_vc tabOk elems ord140 Try.func140 rfl (rl := [.tmp 2]) rfl (by kernel_rfl) rfl ?_
  (simp -implicitDefEqProofs only [go_sem]; repeat (refine GO ?_; simp -implicitDefEqProofs only [go_sem]))
  simp
theorem s73 (x : ByteArray) : Spec0 Try.prog 141 [.pr (.string x)] (· = .pr (.bool false)) := by
  refine spec0_of_vc tabOk elems ord141 Try.func141 rfl (rl := [.tmp 2]) rfl (by kernel_rfl) rfl ?_
  (simp -implicitDefEqProofs only [go_sem]; repeat (refine GO ?_; simp -implicitDefEqProofs only [go_sem]))
  simp
theorem s62 (x y : Int) : Spec0 Try.prog 130 [.pr (.int .i64 x), .pr (.int .i64 y)] (· = .pr (.int .i64 (cmpI x y))) := by
  refine spec0_of_vc tabOk elems ord130 Try.func130 rfl (rl := [.tmp 4]) rfl (by kernel_rfl) rfl ?_
  (simp -implicitDefEqProofs only [go_sem]; repeat (refine GO ?_; simp -implicitDefEqProofs only [go_sem]))
  refine .pure _ (s72 x) rfl fun r hr _ => ?_
  subst hr
  (simp -implicitDefEqProofs only [go_sem]; repeat (refine GO ?_; simp -implicitDefEqProofs only [go_sem]))
  refine .pure _ (s72 y) rfl fun r hr _ => ?_
  subst hr
  (simp -implicitDefEqProofs only [go_sem]; repeat (refine GO ?_; simp -implicitDefEqProofs only [go_sem]))
  refine ⟨fun h => ?_, fun h => ?_⟩
  · (simp -implicitDefEqProofs only [go_sem]; repeat (refine GO ?_; simp -implicitDefEqProofs only [go_sem]))
    simp at h; simp [h, cmpI]
  · (simp -implicitDefEqProofs only [go_sem]; repeat (refine GO ?_; simp -implicitDefEqProofs only [go_sem]))
    simp at h
    have h' : ¬ x < y := by omega
    refine ⟨fun g => ?_, fun g => ?_⟩
    · (simp -implicitDefEqProofs only [go_sem]; repeat (refine GO ?_; simp -implicitDefEqProofs only [go_sem]))
      simp at g; simp [g, h', cmpI]
    · (simp -implicitDefEqProofs only [go_sem]; repeat (refine GO ?_; simp -implicitDefEqProofs only [go_sem]))
      simp at g
      have g' : ¬ y < x := by omega
      simp [g', h', cmpI]
theorem s63 (x y : ByteArray) : Spec0 Try.prog 131 [.pr (.string x), .pr (.string y)] (· = .pr (.int .i64 (cmpS x y))) := by
  refine spec0_of_vc tabOk elems ord131 Try.func131 rfl (rl := [.tmp 4]) rfl (by kernel_rfl) rfl ?_
  (simp -implicitDefEqProofs only [go_sem]; repeat (refine GO ?_; simp -implicitDefEqProofs only [go_sem]))
  refine .pure _ (s73 x) rfl fun r hr _ => ?_
  subst hr
  (simp -implicitDefEqProofs only [go_sem]; repeat (refine GO ?_; simp -implicitDefEqProofs only [go_sem]))
  refine .pure _ (s73 y) rfl fun r hr _ => ?_
  subst hr
  (simp -implicitDefEqProofs only [go_sem]; repeat (refine GO ?_; simp -implicitDefEqProofs only [go_sem]))
  refine ⟨fun h => ?_, fun h => ?_⟩
  · (simp -implicitDefEqProofs only [go_sem]; repeat (refine GO ?_; simp -implicitDefEqProofs only [go_sem]))
    simp [h, cmpS]
  · (simp -implicitDefEqProofs only [go_sem]; repeat (refine GO ?_; simp -implicitDefEqProofs only [go_sem]))
    refine ⟨fun g => ?_, fun g => ?_⟩
    · (simp -implicitDefEqProofs only [go_sem]; repeat (refine GO ?_; simp -implicitDefEqProofs only [go_sem]))
      simp only [h] at g; simp [cmpS, h]; simp at g; exact g
    · (simp -implicitDefEqProofs only [go_sem]; repeat (refine GO ?_; simp -implicitDefEqProofs only [go_sem]))
      simp only [h] at g; simp [cmpS, h]; simp at g; exact g

theorem nz_take {l : List Int} {i : Nat} (hz : ∀ x ∈ l.take i, x = 0) : nz l = nz (l.drop i) := by
  induction l generalizing i with
  | nil => simp
  | cons x r ih =>
    cases i with
    | zero => rfl
    | succ i =>
      simp only [List.take_succ_cons, List.mem_cons, forall_eq_or_imp] at hz
      simp only [nz, hz.1, if_true, List.drop_succ_cons]
      exact ih hz.2
def intsA (l : List Int) : AV := .im 1 (l.map fun x => [.pr (.int .i64 x)])
theorem wrap_succ {i : Nat} {n : Nat} (h : i < n) (hn : n < 4611686018427387904) : IntKind.i64.wrap ((i : Int) + 1) = ((i + 1 : Nat) : Int) := by rw [wrap_i64] <;> omega
theorem s61 (l : List Int) (hl : l.length < 4611686018427387904) : Spec0 Try.prog 129 [intsA l] (· = .pr (.int .i64 (nz l))) := by
  refine spec0_of_vc tabOk elems ord129 Try.func129 rfl (rl := [.tmp 2]) rfl (by kernel_rfl) rfl ?_
  (simp -implicitDefEqProofs only [go_sem, intsA]; repeat (refine GO ?_; simp -implicitDefEqProofs only [go_sem, intsA]))
  refine LOOP.mk (ι := { i : Nat // i ≤ l.length ∧ ∀ x ∈ l.take i, x = 0 }) (fun i => mkS [(3, .pr (.int .i64 0)), (6, .im 1 (l.map fun x => [.pr (.int .i64 x)])), (7, .pr (.int .i64 l.length)), (8, .pr (.int .i64 i.1))] [] []) (fun i => l.length - i.1)
    ⟨0, by simp⟩ [] rfl rfl ?_ (fun i => ?_)
  · (simp -implicitDefEqProofs only [go_sem]; repeat (refine GO ?_; simp -implicitDefEqProofs only [go_sem]))
    simp
  · obtain ⟨i, hi, hz⟩ := i
    (simp -implicitDefEqProofs only [go_sem]; repeat (refine GO ?_; simp -implicitDefEqProofs only [go_sem]))
    refine ⟨fun h => ?_, fun h => ?_⟩
    · simp only [decide_eq_true_eq] at h
      have hi' : i < l.length := by omega
      have hd : nz l = nz (l[i] :: l.drop (i + 1)) := by rw [nz_take hz, List.drop_eq_getElem_cons hi']
      (simp -implicitDefEqProofs only [go_sem]; repeat (refine GO ?_; simp -implicitDefEqProofs only [go_sem]))
      refine EL.map hi' ?_
      (simp -implicitDefEqProofs only [go_sem]; repeat (refine GO ?_; simp -implicitDefEqProofs only [go_sem]))
      refine ⟨fun g => ?_, fun g => ?_⟩
      · (simp -implicitDefEqProofs only [go_sem]; repeat (refine GO ?_; simp -implicitDefEqProofs only [go_sem]))
        simp at g
        simp [hd, nz, g]
      · (simp -implicitDefEqProofs only [go_sem]; repeat (refine GO ?_; simp -implicitDefEqProofs only [go_sem]))
        simp at g
        refine BACK.mk ⟨i + 1, hi', ?_⟩ [] rfl rfl (by show l.length - (i + 1) < l.length - i; omega) ?_
        · intro x hx
          rw [List.take_add_one, List.getElem?_eq_getElem hi'] at hx
          rcases List.mem_append.1 hx with hx | hx
          · exact hz x hx
          · simp at hx; rw [hx]; exact g
        · (simp -implicitDefEqProofs only [go_sem]; repeat (refine GO ?_; simp -implicitDefEqProofs only [go_sem]))
          simp [wrap_succ hi' hl]
    · (simp -implicitDefEqProofs only [go_sem]; repeat (refine GO ?_; simp -implicitDefEqProofs only [go_sem]))
      simp at h
      have : i = l.length := by omega
      subst this
      have : nz l = 0 := by rw [nz_take hz]; simp [nz]
      simp [this]

theorem s45 (a b : V) : Spec0 Try.prog 101 [.ag a.c, .ag b.c] (· = .pr (.int .i64 (cmpV a b))) := by
  refine spec0_of_vc tabOk elems ord101 Try.func101 rfl (rl := [.tmp 4]) rfl (by kernel_rfl) rfl ?_
  (simp -implicitDefEqProofs only [go_sem, V.c]; repeat (refine GO ?_; simp -implicitDefEqProofs only [go_sem, V.c]))
  refine .pure _ (s62 a.k b.k) rfl fun r hr _ => ?_
  subst hr
  (simp -implicitDefEqProofs only [go_sem]; repeat (refine GO ?_; simp -implicitDefEqProofs only [go_sem]))
  refine .pure _ (s62 a.i b.i) rfl fun r hr _ => ?_
  subst hr
  (simp -implicitDefEqProofs only [go_sem]; repeat (refine GO ?_; simp -implicitDefEqProofs only [go_sem]))
  refine .pure _ (s63 a.s b.s) rfl fun r hr _ => ?_
  subst hr
  (simp -implicitDefEqProofs only [go_sem]; repeat (refine GO ?_; simp -implicitDefEqProofs only [go_sem]))

  refine .lendTo (s61 [cmpI a.k b.k, cmpI a.i b.i, cmpS a.s b.s] (by simp)) ?_ (by rintro _ rfl; rfl) fun r hr => ?_
  · (simp -implicitDefEqProofs only [go_sem]; repeat (refine GO ?_; simp -implicitDefEqProofs only [go_sem]))
    simp [intsA]
  subst hr
  (simp -implicitDefEqProofs only [go_sem]; repeat (refine GO ?_; simp -implicitDefEqProofs only [go_sem]))
  rfl

theorem cmpR_cons {a b : List V} {i : Nat} (ha : i < a.length) (hb : i < b.length) : cmpR (a.drop i) (b.drop i) = if cmpV a[i] b[i] = 0 then cmpR (a.drop (i + 1)) (b.drop (i + 1)) else cmpV a[i] b[i] := by
  rw [List.drop_eq_getElem_cons ha, List.drop_eq_getElem_cons hb]; rfl
theorem cmpR_long {a b : List V} {i : Nat} (ha : i < a.length) (hb : b.length ≤ i) : cmpR (a.drop i) (b.drop i) = 1 := by
  rw [List.drop_eq_getElem_cons ha, List.drop_of_length_le hb]; rfl
theorem cmpR_end {a b : List V} {i : Nat} (ha : a.length ≤ i) (hb : i ≤ b.length) (hi : i = a.length) : cmpR (a.drop i) (b.drop i) = if a.length < b.length then -1 else 0 := by
  rw [List.drop_of_length_le ha]
  by_cases h : i < b.length
  · rw [List.drop_eq_getElem_cons h, if_pos (by omega)]; rfl
  · rw [List.drop_of_length_le (by omega), if_neg (by omega)]; rfl

theorem s44 (a b : List V) (ha : a.length < 4611686018427387904) : Spec0 Try.prog 126 [rowA a, rowA b, .fn 101 []] (· = .pr (.int .i64 (cmpR a b))) := by
  refine spec0_of_vc tabOk elems ord126 Try.func126 rfl (rl := [.tmp 6]) rfl (by kernel_rfl) rfl ?_
  (simp -implicitDefEqProofs only [go_sem, rowA]; repeat (refine GO ?_; simp -implicitDefEqProofs only [go_sem, rowA]))
  refine LOOP.mk (ι := { i : Nat // i ≤ a.length ∧ i ≤ b.length ∧ cmpR a b = cmpR (a.drop i) (b.drop i) }) (fun i => mkS [(0, rowA a), (1, rowA b), (2, .fn 101 []), (11, rowA a), (12, .pr (.int .i64 a.length)), (13, .pr (.int .i64 i.1))] [] []) (fun i => a.length - i.1)
    ⟨0, by simp⟩ [] rfl rfl ?_ (fun i => ?_)
  · (simp -implicitDefEqProofs only [go_sem, rowA]; repeat (refine GO ?_; simp -implicitDefEqProofs only [go_sem, rowA]))
    simp
  · obtain ⟨i, hi, hj, hz⟩ := i
    (simp -implicitDefEqProofs only [go_sem, rowA]; repeat (refine GO ?_; simp -implicitDefEqProofs only [go_sem, rowA]))
    refine ⟨fun h => ?_, fun h => ?_⟩
    · simp only [decide_eq_true_eq] at h
      have hi' : i < a.length := by omega
      (simp -implicitDefEqProofs only [go_sem]; repeat (refine GO ?_; simp -implicitDefEqProofs only [go_sem]))
      refine EL.map hi' ?_
      (simp -implicitDefEqProofs only [go_sem, V.c]; repeat (refine GO ?_; simp -implicitDefEqProofs only [go_sem, V.c]))
      refine ⟨fun g => ?_, fun g => ?_⟩
      · (simp -implicitDefEqProofs only [go_sem]; repeat (refine GO ?_; simp -implicitDefEqProofs only [go_sem]))
        simp at g
        simp [hz, cmpR_long hi' (by omega)]
      · simp at g
        have hj' : i < b.length := by omega
        (simp -implicitDefEqProofs only [go_sem]; repeat (refine GO ?_; simp -implicitDefEqProofs only [go_sem]))
        refine EL.map hj' ?_
        (simp -implicitDefEqProofs only [go_sem, V.c]; repeat (refine GO ?_; simp -implicitDefEqProofs only [go_sem, V.c]))
        refine .pure _ (s45 a[i] b[i]) rfl fun r hr _ => ?_
        subst hr
        (simp -implicitDefEqProofs only [go_sem]; repeat (refine GO ?_; simp -implicitDefEqProofs only [go_sem]))
        refine ⟨fun e => ?_, fun e => ?_⟩
        · (simp -implicitDefEqProofs only [go_sem]; repeat (refine GO ?_; simp -implicitDefEqProofs only [go_sem]))
          simp at e
          simp [hz, cmpR_cons hi' hj', e]
        · (simp -implicitDefEqProofs only [go_sem]; repeat (refine GO ?_; simp -implicitDefEqProofs only [go_sem]))
          simp at e
          refine BACK.mk ⟨i + 1, hi', hj', by rw [hz, cmpR_cons hi' hj', if_pos e]⟩ [] rfl rfl (by show a.length - (i + 1) < a.length - i; omega) ?_
          (simp -implicitDefEqProofs only [go_sem, rowA]; repeat (refine GO ?_; simp -implicitDefEqProofs only [go_sem, rowA]))
          simp [wrap_succ hi' ha]
    · simp at h
      have hil : i = a.length := by omega
      (simp -implicitDefEqProofs only [go_sem]; repeat (refine GO ?_; simp -implicitDefEqProofs only [go_sem]))
      refine ⟨fun g => ?_, fun g => ?_⟩
      · (simp -implicitDefEqProofs only [go_sem]; repeat (refine GO ?_; simp -implicitDefEqProofs only [go_sem]))
        simp at g
        simp [hz, cmpR_end h hj hil, g]
      · (simp -implicitDefEqProofs only [go_sem]; repeat (refine GO ?_; simp -implicitDefEqProofs only [go_sem]))
        simp at g
        have : ¬ a.length < b.length := by omega
        simp [hz, cmpR_end h hj hil, this]

theorem s13 (a b : List V) (ha : a.length < 4611686018427387904) : Spec0 Try.prog 93 [rowA a, rowA b] (· = .pr (.int .i64 (cmpR a b))) := by
  refine spec0_of_vc tabOk elems ord93 Try.func93 rfl (rl := [.tmp 4]) rfl (by kernel_rfl) rfl ?_
  (simp -implicitDefEqProofs only [go_sem, rowA]; repeat (refine GO ?_; simp -implicitDefEqProofs only [go_sem, rowA]))
  refine .pure _ (s44 a b ha) rfl fun r hr _ => ?_
  subst hr
  (simp -implicitDefEqProofs only [go_sem]; repeat (refine GO ?_; simp -implicitDefEqProofs only [go_sem]))
end Yt
namespace Yt
open Go Go.Vc Go.Proofs
set_option maxRecDepth 10000

def noS : ByteArray := ⟨#[]⟩
def inB (x lo hi : Int) : Bool := decide (lo ≤ x) && decide (x ≤ hi)
def okV (v : V) : Bool :=
  if v.k = 1 then decide (v.i = 0) && decide (v.s = noS)
  else if v.k = 2 then inB v.i 0 1 && decide (v.s = noS)
  else if v.k = 3 then inB v.i (-1152921504606846976) 1152921504606846976 && decide (v.s = noS)
  else if v.k = 4 then decide (v.i = 0) && decide ((v.s.size : Int) ≤ 24)
  else false
def eqV (a b : V) : Bool := decide (a.k = b.k) && decide (a.i = b.i) && decide (a.s = b.s)
def bA (b : Bool) : AV := .pr (.bool b)
def iA (n : Int) : AV := .pr (.int .i64 n)

theorem s46 (a b : V) : Spec0 Try.prog 43 [.ag a.c, .ag b.c] (· = bA (eqV a b)) := by
  refine spec0_of_vc tabOk elems ord43 Try.func43 rfl (rl := [.tmp 4]) rfl (by kernel_rfl) rfl ?_
  (simp -implicitDefEqProofs only [go_sem, V.c]; repeat (refine GO ?_; simp -implicitDefEqProofs only [go_sem, V.c]))
  refine VIF.split (fun h => ?_) (fun h => ?_)
  · (simp -implicitDefEqProofs only [go_sem]; repeat (refine GO ?_; simp -implicitDefEqProofs only [go_sem]))
    refine VIF.split (fun g => ?_) (fun g => ?_)
    · (simp -implicitDefEqProofs only [go_sem]; repeat (refine GO ?_; simp -implicitDefEqProofs only [go_sem]))
      simp at h g; simp [h, g, eqV, bA]
    · (simp -implicitDefEqProofs only [go_sem]; repeat (refine GO ?_; simp -implicitDefEqProofs only [go_sem]))
      simp at h g; simp [h, g, eqV, bA]
  · (simp -implicitDefEqProofs only [go_sem]; repeat (refine GO ?_; simp -implicitDefEqProofs only [go_sem]))
    simp at h; simp [h, eqV, bA]

theorem s74 (x y : Int) (hy : 0 ≤ y) (hy' : y < 4611686018427387904) : Spec0 Try.prog 150 [iA x, iA y] (· = bA (inB x (-y) y)) := by
  refine spec0_of_vc tabOk elems ord150 Try.func150 rfl (rl := [.tmp 4]) rfl (by kernel_rfl) rfl ?_
  have hw : IntKind.i64.wrap (0 - y) = -y := by rw [wrap_i64] <;> omega
  (simp -implicitDefEqProofs only [go_sem, iA]; repeat (refine GO ?_; simp -implicitDefEqProofs only [go_sem, iA]))
  refine VIF.split (fun h => ?_) (fun h => ?_)
  · (simp -implicitDefEqProofs only [go_sem]; repeat (refine GO ?_; simp -implicitDefEqProofs only [go_sem]))
    rw [hw] at h
    simp at h; simp [h, inB, bA]
  · (simp -implicitDefEqProofs only [go_sem]; repeat (refine GO ?_; simp -implicitDefEqProofs only [go_sem]))
    rw [hw] at h
    simp at h; simp [h, inB, bA]; omega

theorem s64 (x y z : Int) : Spec0 Try.prog 128 [iA x, iA y, iA z] (· = bA (inB x y z)) := by
  refine spec0_of_vc tabOk elems ord128 Try.func128 rfl (rl := [.tmp 6]) rfl (by kernel_rfl) rfl ?_
  (simp -implicitDefEqProofs only [go_sem, iA]; repeat (refine GO ?_; simp -implicitDefEqProofs only [go_sem, iA]))
  refine VIF.split (fun h => ?_) (fun h => ?_)
  · (simp -implicitDefEqProofs only [go_sem]; repeat (refine GO ?_; simp -implicitDefEqProofs only [go_sem]))
    simp at h; simp [h, inB, bA]
  · (simp -implicitDefEqProofs only [go_sem]; repeat (refine GO ?_; simp -implicitDefEqProofs only [go_sem]))
    simp at h; simp [h, inB, bA]; omega
theorem s53 (x y z : Int) : Spec0 Try.prog 87 [iA x, iA y, iA z] (· = bA (inB x y z)) := by
  refine spec0_of_vc tabOk elems ord87 Try.func87 rfl (rl := [.tmp 6]) rfl (by kernel_rfl) rfl ?_
  (simp -implicitDefEqProofs only [go_sem, iA]; repeat (refine GO ?_; simp -implicitDefEqProofs only [go_sem, iA]))
  refine VIF.split (fun h => ?_) (fun h => ?_)
  · (simp -implicitDefEqProofs only [go_sem]; repeat (refine GO ?_; simp -implicitDefEqProofs only [go_sem]))
    simp at h; simp [h, inB, bA]
  · (simp -implicitDefEqProofs only [go_sem]; repeat (refine GO ?_; simp -implicitDefEqProofs only [go_sem]))
    simp at h; simp [h, inB, bA]; omega

theorem s69 (v : V) : Spec0 Try.prog 143 [.ag v.c] (· = iA (if okV v then 0 else 1)) := by
  refine spec0_of_vc tabOk elems ord143 Try.func143 rfl (rl := [.tmp 2]) rfl (by kernel_rfl) rfl ?_
  (simp -implicitDefEqProofs only [go_sem, V.c]; repeat (refine GO ?_; simp -implicitDefEqProofs only [go_sem, V.c]))
  iterate 9 all_goals (first
    | (refine VIF.split (fun h => ?_) (fun h => ?_) <;> (simp -implicitDefEqProofs only [go_sem]; repeat (refine GO ?_; simp -implicitDefEqProofs only [go_sem])))
    | (refine .pure _ (s74 v.i 1152921504606846976 (by decide) (by decide)) rfl fun r hr _ => ?_
       subst hr
       (simp -implicitDefEqProofs only [go_sem, bA]; repeat (refine GO ?_; simp -implicitDefEqProofs only [go_sem, bA])))
    | skip)
  all_goals simp_all [okV, inB, iA, bA, noS]
  all_goals (intros; omega)

theorem s59 (v : V) : Spec0 Try.prog 134 [.ag v.c] (· = bA (!okV v)) := by
  refine spec0_of_vc tabOk elems ord134 Try.func134 rfl (rl := [.tmp 2]) rfl (by kernel_rfl) rfl ?_
  (simp -implicitDefEqProofs only [go_sem, V.c]; repeat (refine GO ?_; simp -implicitDefEqProofs only [go_sem, V.c]))
  refine .pure _ (s69 v) rfl fun r hr _ => ?_
  subst hr
  (simp -implicitDefEqProofs only [go_sem, iA]; repeat (refine GO ?_; simp -implicitDefEqProofs only [go_sem, iA]))
  cases okV v <;> simp [bA]

def idxI : Option Nat → Int
  | some i => i
  | none => -1
def idxA {α : Type} (p : α → Bool) (l : List α) : AV := iA (idxI (l.findIdx? p))
theorem idx_any {α : Type} {p : α → Bool} {l : List α} : decide (0 ≤ idxI (l.findIdx? p)) = l.any p := by
  cases h : l.findIdx? p with
  | none => rw [List.findIdx?_eq_none_iff] at h; simp [idxI] at h ⊢; exact h
  | some i => rw [List.findIdx?_eq_some_iff_getElem] at h; obtain ⟨h1, h2, _⟩ := h; simp [idxI] at h2 ⊢; exact ⟨_, List.getElem_mem h1, h2⟩
theorem idx_none {α : Type} {p : α → Bool} {l : List α} (h : ∀ j (hj : j < l.length), p l[j] = false) : l.findIdx? p = none := by
  rw [List.findIdx?_eq_none_iff]
  intro x hx
  obtain ⟨j, hj, rfl⟩ := List.mem_iff_getElem.1 hx
  exact h j hj
theorem idx_some {α : Type} {p : α → Bool} {l : List α} {i : Nat} (hi : i < l.length) (h : ∀ j (hj : j < l.length), j < i → p l[j] = false) (hp : p l[i] = true) : l.findIdx? p = some i := by
  rw [List.findIdx?_eq_some_iff_getElem]
  exact ⟨hi, hp, fun j hj => by simp [h j (by omega) hj]⟩

theorem s68 (g : Nat) (caps : List AV) (hc : noIds caps = true) (p : V → Bool) (hg : ∀ v : V, Spec0 Try.prog g (.ag v.c :: caps) (· = bA (p v))) (a : List V) (ha : a.length < 4611686018427387904) :
    Spec0 Try.prog 142 [rowA a, .fn g caps] (· = idxA p a) := by
  refine spec0_of_vc tabOk elems ord142 Try.func142 rfl (rl := [.tmp 4]) rfl (by kernel_rfl) rfl ?_
  (simp -implicitDefEqProofs only [go_sem, rowA]; repeat (refine GO ?_; simp -implicitDefEqProofs only [go_sem, rowA]))
  refine LOOP.mk (ι := { i : Nat // i ≤ a.length ∧ ∀ j (hj : j < a.length), j < i → p a[j] = false }) (fun i => mkS [(0, rowA a), (1, .fn g caps), (7, .pr (.int .i64 a.length)), (8, .pr (.int .i64 i.1))] [] []) (fun i => a.length - i.1)
    ⟨0, by simp⟩ [] rfl rfl ?_ (fun i => ?_)
  · (simp -implicitDefEqProofs only [go_sem, rowA]; repeat (refine GO ?_; simp -implicitDefEqProofs only [go_sem, rowA]))
    simp [wks_noId caps hc]
  · obtain ⟨i, hi, hz⟩ := i
    (simp -implicitDefEqProofs only [go_sem, rowA]; repeat (refine GO ?_; simp -implicitDefEqProofs only [go_sem, rowA]))
    refine ⟨fun h => ?_, fun h => ?_⟩
    · simp only [decide_eq_true_eq] at h
      have hi' : i < a.length := by omega
      (simp -implicitDefEqProofs only [go_sem]; repeat (refine GO ?_; simp -implicitDefEqProofs only [go_sem]))
      refine EL.map hi' ?_
      (simp -implicitDefEqProofs only [go_sem, V.c]; repeat (refine GO ?_; simp -implicitDefEqProofs only [go_sem, V.c]))
      refine .pure _ (hg a[i]) ?_ fun r hr _ => ?_
      · simp [noIds, AV.noId, V.c, hc]
      subst hr
      (simp -implicitDefEqProofs only [go_sem, bA]; repeat (refine GO ?_; simp -implicitDefEqProofs only [go_sem, bA]))
      refine VIF.split (fun e => ?_) (fun e => ?_)
      · (simp -implicitDefEqProofs only [go_sem]; repeat (refine GO ?_; simp -implicitDefEqProofs only [go_sem]))
        simp [idxA, idxI, iA, idx_some hi' hz e]
      · (simp -implicitDefEqProofs only [go_sem]; repeat (refine GO ?_; simp -implicitDefEqProofs only [go_sem]))
        refine BACK.mk ⟨i + 1, hi', fun j hj hji => ?_⟩ [] rfl rfl (by show a.length - (i + 1) < a.length - i; omega) ?_
        · by_cases hji' : j = i
          · subst hji'; exact e
          · exact hz j hj (by omega)
        · (simp -implicitDefEqProofs only [go_sem, rowA]; repeat (refine GO ?_; simp -implicitDefEqProofs only [go_sem, rowA]))
          simp [wrap_succ hi' ha, wks_noId caps hc]
    · simp at h
      (simp -implicitDefEqProofs only [go_sem]; repeat (refine GO ?_; simp -implicitDefEqProofs only [go_sem]))
      simp [idxA, idxI, iA, idx_none fun j hj => hz j hj (by omega)]

def okR (r : List V) : Int := if 12 < r.length then 2 else if r.all okV then 0 else 1
theorem s58 (a : List V) (ha : a.length < 4611686018427387904) : Spec0 Try.prog 133 [rowA a, .fn 134 []] (· = bA (!a.all okV)) := by
  refine spec0_of_vc tabOk elems ord133 Try.func133 rfl (rl := [.tmp 4]) rfl (by kernel_rfl) rfl ?_
  (simp -implicitDefEqProofs only [go_sem, rowA]; repeat (refine GO ?_; simp -implicitDefEqProofs only [go_sem, rowA]))
  refine .pure _ (s68 134 [] rfl (fun v => !okV v) (fun v => s59 v) a ha) rfl fun r hr _ => ?_
  subst hr
  (simp -implicitDefEqProofs only [go_sem, idxA, iA]; repeat (refine GO ?_; simp -implicitDefEqProofs only [go_sem, idxA, iA]))
  rw [idx_any]
  simp [bA, List.not_all_eq_any_not]

theorem s36 (a : List V) (ha : a.length < 4611686018427387904) : Spec0 Try.prog 104 [rowA a] (· = iA (okR a)) := by
  refine spec0_of_vc tabOk elems ord104 Try.func104 rfl (rl := [.tmp 2]) rfl (by kernel_rfl) rfl ?_
  (simp -implicitDefEqProofs only [go_sem, rowA]; repeat (refine GO ?_; simp -implicitDefEqProofs only [go_sem, rowA]))
  refine VIF.split (fun h => ?_) (fun h => ?_)
  · (simp -implicitDefEqProofs only [go_sem]; repeat (refine GO ?_; simp -implicitDefEqProofs only [go_sem]))
    simp at h; simp [okR, iA]; omega
  · (simp -implicitDefEqProofs only [go_sem]; repeat (refine GO ?_; simp -implicitDefEqProofs only [go_sem]))
    refine .pure _ (s58 a ha) rfl fun r hr _ => ?_
    subst hr
    (simp -implicitDefEqProofs only [go_sem, bA]; repeat (refine GO ?_; simp -implicitDefEqProofs only [go_sem, bA]))
    simp at h
    have h' : ¬ 12 < a.length := by omega
    refine VIF.split (fun g => ?_) (fun g => ?_)
    · (simp -implicitDefEqProofs only [go_sem]; repeat (refine GO ?_; simp -implicitDefEqProofs only [go_sem]))
      simp only [Bool.not_eq_true'] at g
      simp [okR, iA, g, h']
    · (simp -implicitDefEqProofs only [go_sem]; repeat (refine GO ?_; simp -implicitDefEqProofs only [go_sem]))
      simp only [Bool.not_eq_false'] at g
      simp [okR, iA, g, h']

def okW (w : Int) : Bool := inB w (-72057594037927936) 72057594037927936
theorem s37 (w : Int) : Spec0 Try.prog 105 [iA w] (· = bA (okW w)) := by
  refine spec0_of_vc tabOk elems ord105 Try.func105 rfl (rl := [.tmp 2]) rfl (by kernel_rfl) rfl ?_
  (simp -implicitDefEqProofs only [go_sem, iA]; repeat (refine GO ?_; simp -implicitDefEqProofs only [go_sem, iA]))
  refine VIF.split (fun h => ?_) (fun h => ?_)
  · (simp -implicitDefEqProofs only [go_sem]; repeat (refine GO ?_; simp -implicitDefEqProofs only [go_sem]))
    simp at h; simp [h, okW, inB, bA]
  · (simp -implicitDefEqProofs only [go_sem]; repeat (refine GO ?_; simp -implicitDefEqProofs only [go_sem]))
    simp at h; simp [okW, inB, bA]; omega

structure It where
  row : List V
  w : Int
def It.c (t : It) : List AV := [rowA t.row, iA t.w]
def setA (z : List It) : AV := .im 2 (z.map It.c)
def okI (t : It) : Bool := decide (okR t.row = 0) && okW t.w
theorem s35 (t : It) (ht : t.row.length < 4611686018427387904) : Spec0 Try.prog 119 [.ag t.c] (· = bA (!okI t)) := by
  refine spec0_of_vc tabOk elems ord119 Try.func119 rfl (rl := [.tmp 2]) rfl (by kernel_rfl) rfl ?_
  (simp -implicitDefEqProofs only [go_sem, It.c, rowA, iA]; repeat (refine GO ?_; simp -implicitDefEqProofs only [go_sem, It.c, rowA, iA]))
  refine .pure _ (s36 t.row ht) rfl fun r hr _ => ?_
  subst hr
  (simp -implicitDefEqProofs only [go_sem, iA]; repeat (refine GO ?_; simp -implicitDefEqProofs only [go_sem, iA]))
  refine VIF.split (fun h => ?_) (fun h => ?_)
  · (simp -implicitDefEqProofs only [go_sem]; repeat (refine GO ?_; simp -implicitDefEqProofs only [go_sem]))
    simp at h; simp [okI, h, bA]
  · (simp -implicitDefEqProofs only [go_sem]; repeat (refine GO ?_; simp -implicitDefEqProofs only [go_sem]))
    refine .pure _ (s37 t.w) rfl fun r hr _ => ?_
    subst hr
    (simp -implicitDefEqProofs only [go_sem, bA]; repeat (refine GO ?_; simp -implicitDefEqProofs only [go_sem, bA]))
    simp at h; simp [okI, h]
theorem s40 (a b : It) (ha : a.row.length < 4611686018427387904) : Spec0 Try.prog 121 [.ag a.c, .ag b.c] (· = iA (cmpR a.row b.row)) := by
  refine spec0_of_vc tabOk elems ord121 Try.func121 rfl (rl := [.tmp 4]) rfl (by kernel_rfl) rfl ?_
  (simp -implicitDefEqProofs only [go_sem, It.c, rowA, iA]; repeat (refine GO ?_; simp -implicitDefEqProofs only [go_sem, It.c, rowA, iA]))
  refine .pure _ (s13 a.row b.row ha) rfl fun r hr _ => ?_
  subst hr
  (simp -implicitDefEqProofs only [go_sem]; repeat (refine GO ?_; simp -implicitDefEqProofs only [go_sem]))
  rfl
end Yt
namespace Yt
open Go Go.Vc Go.Proofs
set_option maxRecDepth 10000
set_option linter.unusedSimpArgs false
set_option linter.unusedVariables false
def so (z : List It) : Ob := ⟨2, z.map It.c⟩
theorem so_leafy (z : List It) : (so z).leafy := by
  rw [so, leafy_do]
  exact leafs2_map fun x _ => by simp [It.c, leafs, rowA, iA, AV.leaf]
structure Win (z z' : List It) (a b : Nat) : Prop where
  perm : z'.Perm z
  out : ∀ k, k < a ∨ b ≤ k → z'[k]? = z[k]?
  ins : ∀ k, a ≤ k → k < b → ∃ j, a ≤ j ∧ j < b ∧ z'[k]? = z[j]?
theorem Win.refl (z : List It) (a b : Nat) : Win z z a b := ⟨.refl _, fun _ _ => rfl, fun k h1 h2 => ⟨k, h1, h2, rfl⟩⟩
theorem Win.trans {x y z : List It} {a b : Nat} (h : Win x y a b) (g : Win y z a b) : Win x z a b := by
  refine ⟨g.perm.trans h.perm, fun k hk => (g.out k hk).trans (h.out k hk), fun k h1 h2 => ?_⟩
  obtain ⟨j, j1, j2, j3⟩ := g.ins k h1 h2
  obtain ⟨i, i1, i2, i3⟩ := h.ins j j1 j2
  exact ⟨i, i1, i2, j3.trans i3⟩
theorem Win.wide {x y : List It} {a b a' b' : Nat} (h : Win x y a b) (ha : a' ≤ a) (hb : b ≤ b') : Win x y a' b' := by
  refine ⟨h.perm, fun k hk => h.out k (by omega), fun k h1 h2 => ?_⟩
  by_cases hk : a ≤ k ∧ k < b
  · obtain ⟨j, j1, j2, j3⟩ := h.ins k hk.1 hk.2
    exact ⟨j, by omega, by omega, j3⟩
  · exact ⟨k, h1, h2, h.out k (by omega)⟩
theorem Win.len {x y : List It} {a b : Nat} (h : Win x y a b) : y.length = x.length := h.perm.length_eq
def swp (z : List It) (i j : Nat) (hi : i < z.length) (hj : j < z.length) : List It := (z.set i z[j]).set j z[i]
theorem swp_get {z : List It} {i j : Nat} (hi : i < z.length) (hj : j < z.length) (k : Nat) : (swp z i j hi hj)[k]? = if k = j then z[i]? else if k = i then z[j]? else z[k]? := by
  simp only [swp, List.getElem?_set, List.length_set]
  by_cases h1 : k = j
  · subst h1; simp [hj, hi]
  · have h1' : ¬ j = k := fun e => h1 e.symm
    rw [if_neg h1', if_neg h1]
    by_cases h2 : k = i
    · subst h2; simp [hi, hj]
    · have h2' : ¬ i = k := fun e => h2 e.symm
      rw [if_neg h2', if_neg h2]
theorem swp_win {z : List It} {i j a b : Nat} (hi : i < z.length) (hj : j < z.length) (h1 : a ≤ i) (h2 : i < b) (h3 : a ≤ j) (h4 : j < b) : Win z (swp z i j hi hj) a b := by
  refine ⟨?_, fun k hk => ?_, fun k k1 k2 => ?_⟩
  · exact List.set_set_perm hi hj
  · rw [swp_get, if_neg (by omega), if_neg (by omega)]
  · rw [swp_get]
    by_cases e1 : k = j
    · exact ⟨i, h1, h2, by rw [if_pos e1]⟩
    · by_cases e2 : k = i
      · exact ⟨j, h3, h4, by rw [if_neg e1, if_pos e2]⟩
      · exact ⟨k, k1, k2, by rw [if_neg e1, if_neg e2]⟩
theorem swp_map {z : List It} {i j : Nat} (hi : i < z.length) (hj : j < z.length) : ((z.map It.c).set i (It.c z[j])).set j (It.c z[i]) = (swp z i j hi hj).map It.c := by
  simp [swp, List.map_set]

theorem wrap_add {a b : Nat} (h : a + b < 4611686018427387904) : IntKind.i64.wrap ((a : Int) + (b : Int)) = ((a + b : Nat) : Int) := by rw [wrap_i64] <;> omega
theorem wrap_sub {a b : Nat} (h : b ≤ a) (h' : a < 4611686018427387904) : IntKind.i64.wrap ((a : Int) - (b : Int)) = ((a - b : Nat) : Int) := by rw [wrap_i64] <;> omega
theorem wrap_add1 {a : Nat} (h : a < 4611686018427387904) : IntKind.i64.wrap ((a : Int) + 1) = ((a + 1 : Nat) : Int) := by rw [wrap_i64] <;> omega
theorem wrap_sub1 {a : Nat} (h : 1 ≤ a) (h' : a < 4611686018427387904) : IntKind.i64.wrap ((a : Int) - 1) = ((a - 1 : Nat) : Int) := by rw [wrap_i64] <;> omega
structure Sw (z z' : List It) (a b n : Nat) : Prop where
  win : Win z z' a (b + n)
  get : ∀ k, z'[k]? = if a ≤ k ∧ k < a + n then z[k - a + b]? else if b ≤ k ∧ k < b + n then z[k - b + a]? else z[k]?
theorem Sw.zero (z : List It) (a b : Nat) : Sw z z a b 0 := ⟨.refl _ _ _, fun k => by rw [if_neg (by omega), if_neg (by omega)]⟩
theorem Sw.succ {z z' : List It} {a b n : Nat} (h : Sw z z' a b n) (hab : a + (n + 1) ≤ b) (ha : a + n < z'.length) (hb : b + n < z'.length) : Sw z (swp z' (a + n) (b + n) ha hb) a b (n + 1) := by
  refine ⟨(h.win.wide (Nat.le_refl _) (by omega)).trans (swp_win ha hb (by omega) (by omega) (by omega) (by omega)), fun k => ?_⟩
  rw [swp_get]
  by_cases e1 : k = b + n
  · rw [if_pos e1, h.get, if_neg (by omega), if_neg (by omega), if_neg (by omega), if_pos (by omega)]; congr 1; omega
  · rw [if_neg e1]
    by_cases e2 : k = a + n
    · rw [if_pos e2, h.get, if_neg (by omega), if_neg (by omega), if_pos (by omega)]; congr 1; omega
    · rw [if_neg e2, h.get]
      by_cases e3 : a ≤ k ∧ k < a + n
      · rw [if_pos e3, if_pos (by omega)]
      · by_cases e4 : b ≤ k ∧ k < b + n
        · rw [if_neg e3, if_pos e4, if_neg (by omega), if_pos (by omega)]
        · rw [if_neg e3, if_neg e4, if_neg (by omega), if_neg (by omega)]

theorem s76 (g : Nat) (z : List It) (a b n : Nat) (h1 : a + n ≤ b) (h2 : b + n ≤ z.length) (hl : z.length < 2305843009213693952) :
    SpecO Try.prog 154 [.rf 0 0 z.length, iA a, iA b, iA n, .fn g []] (so z) (fun r o' => r = .tu [] ∧ ∃ z', o' = so z' ∧ Sw z z' a b n) := by
  refine specO_of_vc tabOk elems ord154 Try.func154 rfl (rl := []) rfl (by kernel_rfl) rfl ?_
  (simp -implicitDefEqProofs only [go_sem, iA, so]; repeat (refine GO ?_; simp -implicitDefEqProofs only [go_sem, iA, so]))
  refine LOOP.mk (ι := { p : Nat × List It // p.1 ≤ n ∧ Sw z p.2 a b p.1 }) (fun p => mkS [(0, .rf 0 0 z.length), (1, iA a), (2, iA b), (3, iA n), (10, iA p.1.1)] [(0, so p.1.2)] [0]) (fun p => n - p.1.1)
    ⟨(0, z), by simp, .zero _ _ _⟩ [(0, some 0)] rfl rfl ?_ (fun p => ?_)
  · (simp -implicitDefEqProofs only [go_sem, iA, so]; repeat (refine GO ?_; simp -implicitDefEqProofs only [go_sem, iA, so]))
    exact ⟨rfl, .same (so z) _ _ (so_leafy z) rfl⟩
  · obtain ⟨⟨i, y⟩, hi, hs⟩ := p
    have hlen := hs.win.len
    simp only at hi hs hlen
    (simp -implicitDefEqProofs only [go_sem, iA, so]; repeat (refine GO ?_; simp -implicitDefEqProofs only [go_sem, iA, so]))
    refine VIF.split (fun h => ?_) (fun h => ?_)
    · simp only [decide_eq_true_eq] at h
      have hb : b + i < y.length := by omega
      have ha : a + i < y.length := by omega
      have w1 := wrap_add (show b + i < 4611686018427387904 by omega)
      have w2 := wrap_add (show a + i < 4611686018427387904 by omega)
      (simp -implicitDefEqProofs only [go_sem, w1, w2]; repeat (refine GO ?_; simp -implicitDefEqProofs only [go_sem, w1, w2]))
      refine ⟨by omega, EL.map hb ?_⟩
      (simp -implicitDefEqProofs only [go_sem, It.c, w1, w2]; repeat (refine GO ?_; simp -implicitDefEqProofs only [go_sem, It.c, w1, w2]))
      refine ⟨by omega, EL.map ha ?_⟩
      (simp -implicitDefEqProofs only [go_sem, It.c, w1, w2]; repeat (refine GO ?_; simp -implicitDefEqProofs only [go_sem, It.c, w1, w2]))
      refine ⟨by omega, EL.map ha ?_⟩
      (simp -implicitDefEqProofs only [go_sem, It.c, w1, w2]; repeat (refine GO ?_; simp -implicitDefEqProofs only [go_sem, It.c, w1, w2]))
      refine ⟨by omega, EL.setmap (by omega) hb ?_⟩
      (simp -implicitDefEqProofs only [go_sem, It.c, w1, w2]; repeat (refine GO ?_; simp -implicitDefEqProofs only [go_sem, It.c, w1, w2]))
      have w3 := wrap_add1 (show i < 4611686018427387904 by omega)
      refine BACK.mk ⟨(i + 1, swp y (a + i) (b + i) ha hb), by show i + 1 ≤ n; omega, hs.succ (by omega) ha hb⟩ [(0, some 0)] rfl rfl (by show n - (i + 1) < n - i; omega) ?_
      (simp -implicitDefEqProofs only [go_sem, iA, so, w3]; repeat (refine GO ?_; simp -implicitDefEqProofs only [go_sem, iA, so, w3]))
      exact .same (so (swp y (a + i) (b + i) ha hb)) _ _ (fun x hx => so_leafy (swp y (a + i) (b + i) ha hb) x (by rw [so, ← swp_map]; exact hx)) (swp_map ha hb)
    · simp at h
      have hin : i = n := by omega
      subst hin
      (simp -implicitDefEqProofs only [go_sem]; repeat (refine GO ?_; simp -implicitDefEqProofs only [go_sem]))
      refine FIN_O (o' := so y) rfl ?_ (so_leafy y) ?_
      · rfl
      · exact ⟨so y, ⟨⟨rfl, y, rfl, hs⟩, rfl⟩, so_leafy y, rfl⟩
end Yt
namespace Yt
open Go Go.Vc Go.Proofs
set_option maxRecDepth 10000
set_option linter.unusedSimpArgs false
set_option linter.unusedVariables false
def rotG (y : List It) (i j m k : Nat) : Option It := if m - i ≤ k ∧ k < m - i + j then y[k + i]? else if m - i + j ≤ k ∧ k < m + j then y[k - j]? else y[k]?
structure Rot (z z' : List It) (a m b : Nat) : Prop where
  win : Win z z' a b
  get : ∀ k, z'[k]? = rotG z (m - a) (b - m) m k
theorem rot_left {y y' : List It} {i j m : Nat} (hj : j < i) (hi : i ≤ m) (h : Sw y y' (m - i) m j) (k : Nat) : rotG y' (i - j) j m k = rotG y i j m k := by
  simp only [rotG]
  by_cases h1 : k < m - i
  · repeat (first | rw [if_pos (by omega)] | rw [if_neg (by omega)])
    rw [h.get]
    repeat (first | rw [if_pos (by omega)] | rw [if_neg (by omega)])
  · by_cases h2 : k < m - i + j
    · rw [if_neg (by omega), if_neg (by omega), if_pos (by omega), h.get, if_pos (by omega)]
      congr 1; omega
    · by_cases h3 : k < m
      · by_cases h4 : k < m - (i - j) + j
        · rw [if_pos (by omega), if_neg (by omega), if_pos (by omega), h.get]
          by_cases h5 : k + (i - j) < m
          · rw [if_neg (by omega), if_neg (by omega)]
            omega
          · rw [if_neg (by omega), if_pos (by omega)]; congr 1; omega
        · rw [if_neg (by omega), if_pos (by omega), if_neg (by omega), if_pos (by omega), h.get, if_neg (by omega), if_neg (by omega)]
      · by_cases h4 : k < m + j
        · by_cases h6 : k < m - (i - j) + j
          · rw [if_pos (by omega), if_neg (by omega), if_pos (by omega), h.get, if_neg (by omega), if_pos (by omega)]; congr 1; omega
          · rw [if_neg (by omega), if_pos (by omega), if_neg (by omega), if_pos (by omega), h.get, if_neg (by omega), if_neg (by omega)]
        · rw [if_neg (by omega), if_neg (by omega), if_neg (by omega), if_neg (by omega), h.get, if_neg (by omega), if_neg (by omega)]
theorem rot_right {y y' : List It} {i j m : Nat} (hj : i < j) (hi : i ≤ m) (h : Sw y y' (m - i) (m + j - i) i) (k : Nat) : rotG y' i (j - i) m k = rotG y i j m k := by
  simp only [rotG]
  by_cases h1 : k < m - i
  · rw [if_neg (by omega), if_neg (by omega), if_neg (by omega), if_neg (by omega), h.get, if_neg (by omega), if_neg (by omega)]
  · by_cases h2 : k < m - i + (j - i)
    · rw [if_pos (by omega), if_pos (by omega), h.get, if_neg (by omega), if_neg (by omega)]
    · by_cases h3 : k < m + (j - i)
      · rw [if_neg (by omega), if_pos (by omega), h.get]
        by_cases h4 : k < m - i + j
        · rw [if_pos (by omega), if_pos (by omega)]; congr 1; omega
        · omega
      · by_cases h4 : k < m + j
        · rw [if_neg (by omega), if_neg (by omega), h.get, if_neg (by omega), if_pos (by omega)]
          by_cases h5 : k < m - i + j
          · omega
          · rw [if_neg (by omega), if_pos (by omega)]; congr 1; omega
        · rw [if_neg (by omega), if_neg (by omega), if_neg (by omega), if_neg (by omega), h.get, if_neg (by omega), if_neg (by omega)]
theorem rot_end {y y' : List It} {i m : Nat} (hi : i ≤ m) (h : Sw y y' (m - i) m i) (k : Nat) : y'[k]? = rotG y i i m k := by
  rw [h.get]
  simp only [rotG]
  by_cases h1 : k < m - i
  · rw [if_neg (by omega), if_neg (by omega), if_neg (by omega), if_neg (by omega)]
  · by_cases h2 : k < m
    · rw [if_pos (by omega), if_pos (by omega)]; congr 1; omega
    · by_cases h3 : k < m + i
      · rw [if_neg (by omega), if_pos (by omega), if_neg (by omega), if_pos (by omega)]; congr 1; omega
      · rw [if_neg (by omega), if_neg (by omega), if_neg (by omega), if_neg (by omega)]

theorem s75 (g : Nat) (z : List It) (a m b : Nat) (h1 : a < m) (h2 : m < b) (h3 : b ≤ z.length) (hl : z.length < 2305843009213693952) :
    SpecO Try.prog 152 [.rf 0 0 z.length, iA a, iA m, iA b, .fn g []] (so z) (fun r o' => r = .tu [] ∧ ∃ z', o' = so z' ∧ Rot z z' a m b) := by
  refine specO_of_vc tabOk elems ord152 Try.func152 rfl (rl := []) rfl (by kernel_rfl) rfl ?_
  (simp -implicitDefEqProofs only [go_sem, iA, so]; repeat (refine GO ?_; simp -implicitDefEqProofs only [go_sem, iA, so]))
  refine LOOP.mk (ι := { p : Nat × Nat × List It // 0 < p.1 ∧ 0 < p.2.1 ∧ p.1 ≤ m - a ∧ p.2.1 ≤ b - m ∧ Win z p.2.2 a b ∧ ∀ k, rotG p.2.2 p.1 p.2.1 m k = rotG z (m - a) (b - m) m k })
    (fun p => mkS [(0, .rf 0 0 z.length), (1, iA a), (2, iA m), (3, iA b), (4, .fn g []), (10, iA p.1.1), (11, iA p.1.2.1)] [(0, so p.1.2.2)] [0]) (fun p => p.1.1 + p.1.2.1)
    ⟨(m - a, b - m, z), by show 0 < m - a; omega, by show 0 < b - m; omega, Nat.le_refl _, Nat.le_refl _, .refl _ _ _, fun _ => rfl⟩ [(0, some 0)] rfl rfl ?_ (fun p => ?_)
  · have w1 := wrap_sub (show a ≤ m by omega) (by omega)
    have w2 := wrap_sub (show m ≤ b by omega) (by omega)
    (simp -implicitDefEqProofs only [go_sem, iA, so, w1, w2]; repeat (refine GO ?_; simp -implicitDefEqProofs only [go_sem, iA, so, w1, w2]))
    exact .same (so z) _ _ (so_leafy z) rfl
  · obtain ⟨⟨i, j, y⟩, hi0, hj0, hi, hj, hw, hg⟩ := p
    have hlen := hw.len
    simp only at hi0 hj0 hi hj hw hg hlen
    (simp -implicitDefEqProofs only [go_sem, iA, so]; repeat (refine GO ?_; simp -implicitDefEqProofs only [go_sem, iA, so]))
    refine VIF.split (fun h => ?_) (fun h => ?_)
    · (simp -implicitDefEqProofs only [go_sem]; repeat (refine GO ?_; simp -implicitDefEqProofs only [go_sem]))
      simp at h
      refine VIF.split (fun e => ?_) (fun e => ?_)
      · simp at e
        have w1 := wrap_sub (show i ≤ m by omega) (by omega)
        (simp -implicitDefEqProofs only [go_sem, w1]; repeat (refine GO ?_; simp -implicitDefEqProofs only [go_sem, w1]))
        rw [← hlen]
        refine .obj 0 (so y) _ _ (s76 g y (m - i) m j (by omega) (by omega) (by omega)) rfl (so_leafy y) rfl rfl fun r o' hr _ _ => ?_
        obtain ⟨rfl, y', rfl, hs⟩ := hr
        have w2 := wrap_sub (show j ≤ i by omega) (by omega)
        (simp -implicitDefEqProofs only [go_sem, w2]; repeat (refine GO ?_; simp -implicitDefEqProofs only [go_sem, w2]))
        refine BACK.mk ⟨(i - j, j, y'), by show 0 < i - j; omega, hj0, by show i - j ≤ m - a; omega, hj, hw.trans (hs.win.wide (by omega) (by omega)), fun k => (rot_left e (by omega) hs k).trans (hg k)⟩ [(0, some 0)] rfl rfl (by show i - j + j < i + j; omega) ?_
        (simp -implicitDefEqProofs only [go_sem, iA, so]; repeat (refine GO ?_; simp -implicitDefEqProofs only [go_sem, iA, so]))
        exact .same (so y') _ _ (so_leafy y') rfl
      · simp at e
        have hlt : i < j := by omega
        have w1 := wrap_sub (show i ≤ m by omega) (by omega)
        have w2 := wrap_add (show m + j < 4611686018427387904 by omega)
        have w3 := wrap_sub (show i ≤ m + j by omega) (by omega)
        (simp -implicitDefEqProofs only [go_sem, w1, w2, w3]; repeat (refine GO ?_; simp -implicitDefEqProofs only [go_sem, w1, w2, w3]))
        rw [← hlen]
        refine .obj 0 (so y) _ _ (s76 g y (m - i) (m + j - i) i (by omega) (by omega) (by omega)) rfl (so_leafy y) rfl rfl fun r o' hr _ _ => ?_
        obtain ⟨rfl, y', rfl, hs⟩ := hr
        have w4 := wrap_sub (show i ≤ j by omega) (by omega)
        (simp -implicitDefEqProofs only [go_sem, w4]; repeat (refine GO ?_; simp -implicitDefEqProofs only [go_sem, w4]))
        refine BACK.mk ⟨(i, j - i, y'), hi0, by show 0 < j - i; omega, hi, by show j - i ≤ b - m; omega, hw.trans (hs.win.wide (by omega) (by omega)), fun k => (rot_right hlt (by omega) hs k).trans (hg k)⟩ [(0, some 0)] rfl rfl (by show i + (j - i) < i + j; omega) ?_
        (simp -implicitDefEqProofs only [go_sem, iA, so]; repeat (refine GO ?_; simp -implicitDefEqProofs only [go_sem, iA, so]))
        exact .same (so y') _ _ (so_leafy y') rfl
    · simp at h
      have hij : i = j := by omega
      subst hij
      have w1 := wrap_sub (show i ≤ m by omega) (by omega)
      (simp -implicitDefEqProofs only [go_sem, w1]; repeat (refine GO ?_; simp -implicitDefEqProofs only [go_sem, w1]))
      rw [← hlen]
      refine .obj 0 (so y) _ _ (s76 g y (m - i) m i (by omega) (by omega) (by omega)) rfl (so_leafy y) rfl rfl fun r o' hr _ _ => ?_
      obtain ⟨rfl, y', rfl, hs⟩ := hr
      (simp -implicitDefEqProofs only [go_sem]; repeat (refine GO ?_; simp -implicitDefEqProofs only [go_sem]))
      refine FIN_O (o' := so y') rfl ?_ (so_leafy y') ?_
      · rfl
      · exact ⟨so y', ⟨⟨rfl, y', rfl, hw.trans (hs.win.wide (by omega) (by omega)), fun k => (rot_end (by omega) hs k).trans (hg k)⟩, rfl⟩, so_leafy y', rfl⟩
end Yt
namespace Yt
open Go Go.Vc Go.Proofs
set_option maxRecDepth 10000
set_option linter.unusedSimpArgs false
set_option linter.unusedVariables false
structure Cmp (c : It → It → Int) : Prop where
  tot : ∀ x y, ¬ c y x < 0 → c x y ≤ 0
  trans : ∀ x y z, c x y ≤ 0 → c y z ≤ 0 → c x z ≤ 0
def leO (c : It → It → Int) (a b : Option It) : Prop := ∀ x y, a = some x → b = some y → c x y ≤ 0
def SR (c : It → It → Int) (z : List It) (a b : Nat) : Prop := ∀ i j, a ≤ i → i < j → j < b → leO c z[i]? z[j]?
structure Ins (c : It → It → Int) (z : List It) (a j i : Nat) : Prop where
  but : ∀ p q, a ≤ p → p < q → q ≤ i → p ≠ j → q ≠ j → leO c z[p]? z[q]?
  at' : ∀ q, j < q → q ≤ i → leO c z[j]? z[q]?
theorem Ins.start {c : It → It → Int} {z : List It} {a i : Nat} (h : SR c z a i) : Ins c z a i i :=
  ⟨fun p q h1 h2 h3 h4 h5 => h p q h1 h2 (by omega), fun q h1 h2 => by omega⟩
theorem Ins.done {c : It → It → Int} (hc : Cmp c) {z : List It} {a j i : Nat} (h : Ins c z a j i) (hj : j = a ∨ (a < j ∧ leO c z[j - 1]? z[j]?)) (hi : i < z.length) (hji : j ≤ i) : SR c z a (i + 1) := by
  intro p q h1 h2 h3
  by_cases e1 : p = j
  · subst e1; exact h.at' q h2 (by omega)
  · by_cases e2 : q = j
    · subst e2
      rcases hj with hj | ⟨hj, hle⟩
      · omega
      · by_cases e3 : p = q - 1
        · subst e3; exact hle
        · intro x y hx hy
          have hlt : q - 1 < z.length := by omega
          have k1 := h.but p (q - 1) h1 (by omega) (by omega) e1 (by omega) x z[q - 1] hx (List.getElem?_eq_getElem hlt)
          exact hc.trans _ _ _ k1 (hle _ _ (List.getElem?_eq_getElem hlt) hy)
    · exact h.but p q h1 h2 (by omega) e1 e2
theorem Ins.step {c : It → It → Int} {z : List It} {a j i : Nat} (h : Ins c z a j i) (hj : a < j) (hji : j ≤ i) (h1 : j < z.length) (h2 : j - 1 < z.length) (hlt : c z[j] z[j - 1] < 0) : Ins c (swp z j (j - 1) h1 h2) a (j - 1) i := by
  refine ⟨fun p q k1 k2 k3 k4 k5 => ?_, fun q k1 k2 => ?_⟩
  · rw [swp_get, swp_get, if_neg k4, if_neg k5]
    by_cases e1 : p = j
    · rw [if_pos e1, if_neg (by omega)]
      exact h.but (j - 1) q (by omega) (by omega) k3 (by omega) (by omega)
    · rw [if_neg e1]
      by_cases e2 : q = j
      · rw [if_pos e2]; exact h.but p (j - 1) k1 (by omega) (by omega) e1 (by omega)
      · rw [if_neg e2]; exact h.but p q k1 k2 k3 e1 e2
  · rw [swp_get, swp_get, if_pos rfl, if_neg (by omega)]
    by_cases e : q = j
    · rw [if_pos e]
      intro x y hx hy
      rw [List.getElem?_eq_getElem h1] at hx
      rw [List.getElem?_eq_getElem h2] at hy
      cases hx; cases hy; omega
    · rw [if_neg e]; exact h.at' q (by omega) k2

theorem s70 (g : Nat) (c : It → It → Int) (hc : Cmp c) (B : It → Prop) (hg : ∀ x y, B x → B y → Spec0 Try.prog g [.ag x.c, .ag y.c] (· = iA (c x y))) (z : List It) (hB : ∀ x ∈ z, B x) (a b : Nat) (h1 : a ≤ b) (h2 : b ≤ z.length) (hl : z.length < 2305843009213693952) :
    SpecO Try.prog 148 [.rf 0 0 z.length, iA a, iA b, .fn g []] (so z) (fun r o' => r = .tu [] ∧ ∃ z', o' = so z' ∧ Win z z' a b ∧ SR c z' a b) := by
  refine specO_of_vc tabOk elems ord148 Try.func148 rfl (rl := []) rfl (by kernel_rfl) rfl ?_
  have w1 := wrap_add1 (show a < 4611686018427387904 by omega)
  (simp -implicitDefEqProofs only [go_sem, iA, so, w1]; repeat (refine GO ?_; simp -implicitDefEqProofs only [go_sem, iA, so, w1]))
  refine LOOP.mk (ι := { p : Nat × List It // a < p.1 ∧ (p.1 ≤ b ∨ p.1 = a + 1) ∧ Win z p.2 a b ∧ SR c p.2 a p.1 })
    (fun p => mkS [(0, .rf 0 0 z.length), (1, iA a), (2, iA b), (3, .fn g []), (8, iA p.1.1)] [(0, so p.1.2)] [0]) (fun p => b + 1 - p.1.1)
    ⟨(a + 1, z), by show a < a + 1; omega, .inr rfl, .refl _ _ _, fun i j k1 k2 k3 => by omega⟩ [(0, some 0)] rfl rfl ?_ (fun p => ?_)
  · (simp -implicitDefEqProofs only [go_sem, iA, so]; repeat (refine GO ?_; simp -implicitDefEqProofs only [go_sem, iA, so]))
    exact .same (so z) _ _ (so_leafy z) rfl
  · obtain ⟨⟨i, y⟩, hai, hib, hw, hs⟩ := p
    have hlen := hw.len
    simp only at hai hib hw hs hlen
    (simp -implicitDefEqProofs only [go_sem, iA, so]; repeat (refine GO ?_; simp -implicitDefEqProofs only [go_sem, iA, so]))
    refine VIF.split (fun h => ?_) (fun h => ?_)
    · (simp -implicitDefEqProofs only [go_sem]; repeat (refine GO ?_; simp -implicitDefEqProofs only [go_sem]))
      simp at h
      refine LOOP.mk (ι := { p : Nat × List It // a ≤ p.1 ∧ p.1 ≤ i ∧ Win z p.2 a b ∧ Ins c p.2 a p.1 i })
        (fun p => mkS [(0, .rf 0 0 z.length), (1, iA a), (2, iA b), (3, .fn g []), (8, iA i), (9, iA p.1.1)] [(0, so p.1.2)] [0]) (fun p => p.1.1)
        ⟨(i, y), by show a ≤ i; omega, Nat.le_refl _, hw, .start hs⟩ [(0, some 0)] rfl rfl ?_ (fun p => ?_)
      · (simp -implicitDefEqProofs only [go_sem, iA, so]; repeat (refine GO ?_; simp -implicitDefEqProofs only [go_sem, iA, so]))
        exact .same (so y) _ _ (so_leafy y) rfl
      · obtain ⟨⟨j, x⟩, haj, hji, hwx, hins⟩ := p
        have hlx := hwx.len
        simp only at haj hji hwx hins hlx
        (simp -implicitDefEqProofs only [go_sem, iA, so]; repeat (refine GO ?_; simp -implicitDefEqProofs only [go_sem, iA, so]))
        refine VIF.split (fun e => ?_) (fun e => ?_)
        · simp at e
          have w2 := wrap_sub1 (show 1 ≤ j by omega) (by omega)
          have hj1 : j < x.length := by omega
          have hj2 : j - 1 < x.length := by omega
          have hx1 : B x[j] := hB _ (hwx.perm.subset (List.getElem_mem hj1))
          have hx2 : B x[j - 1] := hB _ (hwx.perm.subset (List.getElem_mem hj2))
          (simp -implicitDefEqProofs only [go_sem, w2]; repeat (refine GO ?_; simp -implicitDefEqProofs only [go_sem, w2]))
          refine ⟨by omega, EL.map hj1 ?_⟩
          (simp -implicitDefEqProofs only [go_sem, It.c, w2]; repeat (refine GO ?_; simp -implicitDefEqProofs only [go_sem, It.c, w2]))
          refine ⟨by omega, EL.map hj2 ?_⟩
          (simp -implicitDefEqProofs only [go_sem, It.c, w2]; repeat (refine GO ?_; simp -implicitDefEqProofs only [go_sem, It.c, w2]))
          refine .pure _ (hg x[j] x[j - 1] hx1 hx2) rfl fun r hr _ => ?_
          subst hr
          (simp -implicitDefEqProofs only [go_sem, iA]; repeat (refine GO ?_; simp -implicitDefEqProofs only [go_sem, iA]))
          refine VIF.split (fun q => ?_) (fun q => ?_)
          · simp at q
            (simp -implicitDefEqProofs only [go_sem, w2]; repeat (refine GO ?_; simp -implicitDefEqProofs only [go_sem, w2]))
            refine ⟨by omega, EL.map hj2 ?_⟩
            (simp -implicitDefEqProofs only [go_sem, It.c, w2]; repeat (refine GO ?_; simp -implicitDefEqProofs only [go_sem, It.c, w2]))
            refine ⟨by omega, EL.map hj1 ?_⟩
            (simp -implicitDefEqProofs only [go_sem, It.c, w2]; repeat (refine GO ?_; simp -implicitDefEqProofs only [go_sem, It.c, w2]))
            refine ⟨by omega, EL.map hj1 ?_⟩
            (simp -implicitDefEqProofs only [go_sem, It.c, w2]; repeat (refine GO ?_; simp -implicitDefEqProofs only [go_sem, It.c, w2]))
            refine ⟨by omega, EL.setmap (by omega) hj2 ?_⟩
            (simp -implicitDefEqProofs only [go_sem, It.c, w2]; repeat (refine GO ?_; simp -implicitDefEqProofs only [go_sem, It.c, w2]))
            refine BACK.mk ⟨(j - 1, swp x j (j - 1) hj1 hj2), by show a ≤ j - 1; omega, by show j - 1 ≤ i; omega, hwx.trans (swp_win _ _ (by omega) (by omega) (by omega) (by omega)), hins.step e hji hj1 hj2 q⟩ [(0, some 0)] rfl rfl (by show j - 1 < j; omega) ?_
            (simp -implicitDefEqProofs only [go_sem, iA, so]; repeat (refine GO ?_; simp -implicitDefEqProofs only [go_sem, iA, so]))
            exact .same (so (swp x j (j - 1) hj1 hj2)) _ _ (fun u hu => so_leafy (swp x j (j - 1) hj1 hj2) u (by rw [so, ← swp_map]; exact hu)) (swp_map hj1 hj2)
          · simp at q
            have w3 := wrap_add1 (show i < 4611686018427387904 by omega)
            (simp -implicitDefEqProofs only [go_sem, w3]; repeat (refine GO ?_; simp -implicitDefEqProofs only [go_sem, w3]))
            have hd := hins.done hc (.inr ⟨e, fun u v hu hv => by
              rw [List.getElem?_eq_getElem hj2] at hu
              rw [List.getElem?_eq_getElem hj1] at hv
              cases hu; cases hv
              exact hc.tot _ _ (by omega)⟩) (by omega) hji
            refine BACK.mk ⟨(i + 1, x), by show a < i + 1; omega, .inl (by show i + 1 ≤ b; omega), hwx, hd⟩ [(0, some 0)] rfl rfl (by show b + 1 - (i + 1) < b + 1 - i; omega) ?_
            (simp -implicitDefEqProofs only [go_sem, iA, so]; repeat (refine GO ?_; simp -implicitDefEqProofs only [go_sem, iA, so]))
            exact .same (so x) _ _ (so_leafy x) rfl
        · simp at e
          have w3 := wrap_add1 (show i < 4611686018427387904 by omega)
          (simp -implicitDefEqProofs only [go_sem, w3]; repeat (refine GO ?_; simp -implicitDefEqProofs only [go_sem, w3]))
          have hd := hins.done hc (.inl (by omega)) (by omega) hji
          refine BACK.mk ⟨(i + 1, x), by show a < i + 1; omega, .inl (by show i + 1 ≤ b; omega), hwx, hd⟩ [(0, some 0)] rfl rfl (by show b + 1 - (i + 1) < b + 1 - i; omega) ?_
          (simp -implicitDefEqProofs only [go_sem, iA, so]; repeat (refine GO ?_; simp -implicitDefEqProofs only [go_sem, iA, so]))
          exact .same (so x) _ _ (so_leafy x) rfl
    · simp at h
      (simp -implicitDefEqProofs only [go_sem]; repeat (refine GO ?_; simp -implicitDefEqProofs only [go_sem]))
      refine FIN_O (o' := so y) rfl ?_ (so_leafy y) ?_
      · rfl
      · exact ⟨so y, ⟨⟨rfl, y, rfl, hw, fun p q k1 k2 k3 => hs p q k1 k2 (by omega)⟩, rfl⟩, so_leafy y, rfl⟩
end Yt
namespace Yt
open Go Go.Vc Go.Proofs
set_option linter.unusedSimpArgs false
set_option linter.unusedVariables false
section
variable {c : It → It → Int} (hc : Cmp c) {z y z1 z2 z3 : List It} {a m b s e mid i : Nat}
include hc
theorem leO.trans {x y z : Option It} (h : leO c x y) (g : leO c y z) (hy : y ≠ none) : leO c x z := by
  intro u v hu hv
  cases y with
  | none => exact absurd rfl hy
  | some w => exact hc.trans _ _ _ (h u w hu rfl) (g w v rfl hv)
theorem SR.le (h : SR c z a b) (hb : b ≤ z.length) {p q : Nat} (h1 : a ≤ p) (h2 : p < q) (h3 : q < b) : leO c z[p]? z[q]? := h p q h1 h2 h3
theorem some_ne {k : Nat} (h : k < z.length) : z[k]? ≠ none := by simp [h]

theorem merge_one (h2 : SR c z m b) (hm : m = a + 1) (hi : m ≤ i) (hib : i ≤ b) (hb : b ≤ z.length) (lo : i = m ∨ leO c z[i - 1]? z[a]?) (hi2 : i = b ∨ leO c z[a]? z[i]?)
    (hy : ∀ k, y[k]? = if a ≤ k ∧ k < i - 1 then z[k + 1]? else if k = i - 1 then z[a]? else z[k]?) : SR c y a b := by
  intro p q k1 k2 k3
  rw [hy, hy]
  by_cases e1 : p < i - 1
  · rw [if_pos ⟨k1, e1⟩]
    by_cases e2 : q < i - 1
    · rw [if_pos ⟨by omega, e2⟩]; exact h2 _ _ (by omega) (by omega) (by omega)
    · rw [if_neg (by omega)]
      by_cases e3 : q = i - 1
      · rw [if_pos e3]
        have hlo := lo.resolve_left (by omega)
        by_cases e4 : p + 1 = i - 1
        · rw [e4]; exact hlo
        · exact leO.trans hc (h2 (p + 1) (i - 1) (by omega) (by omega) (by omega)) hlo (some_ne hc (by omega))
      · rw [if_neg e3]; exact h2 _ _ (by omega) (by omega) (by omega)
  · by_cases e3 : p = i - 1
    · rw [if_neg (by omega), if_pos e3, if_neg (by omega), if_neg (by omega)]
      have hhi := hi2.resolve_left (by omega)
      by_cases e4 : q = i
      · rw [e4]; exact hhi
      · exact leO.trans hc hhi (h2 i q (by omega) (by omega) (by omega)) (some_ne hc (by omega))
    · rw [if_neg (by omega), if_neg e3, if_neg (by omega), if_neg (by omega)]; exact h2 _ _ (by omega) (by omega) (by omega)

theorem merge_last (h1 : SR c z a m) (hm : b = m + 1) (hi : a ≤ i) (him : i ≤ m) (hb : b ≤ z.length) (lo : i = a ∨ leO c z[i - 1]? z[m]?) (hi2 : i = m ∨ leO c z[m]? z[i]?)
    (hy : ∀ k, y[k]? = if i < k ∧ k ≤ m then z[k - 1]? else if k = i then z[m]? else z[k]?) : SR c y a b := by
  intro p q k1 k2 k3
  rw [hy, hy]
  by_cases e1 : p < i
  · rw [if_neg (by omega), if_neg (by omega)]
    by_cases e2 : q < i
    · rw [if_neg (by omega), if_neg (by omega)]; exact h1 _ _ k1 k2 (by omega)
    · by_cases e3 : q = i
      · rw [if_neg (by omega), if_pos e3]
        have hlo := lo.resolve_left (by omega)
        by_cases e4 : p = i - 1
        · rw [e4]; exact hlo
        · exact leO.trans hc (h1 p (i - 1) k1 (by omega) (by omega)) hlo (some_ne hc (by omega))
      · rw [if_pos (by omega)]; exact h1 _ _ k1 (by omega) (by omega)
  · by_cases e2 : p = i
    · rw [if_neg (by omega), if_pos e2, if_pos (by omega)]
      have hhi := hi2.resolve_left (by omega)
      by_cases e4 : q - 1 = i
      · rw [e4]; exact hhi
      · exact leO.trans hc hhi (h1 i (q - 1) (by omega) (by omega) (by omega)) (some_ne hc (by omega))
    · rw [if_pos (by omega), if_pos (by omega)]; exact h1 _ _ (by omega) (by omega) (by omega)

theorem rot_runs (h1 : SR c z a m) (h2 : SR c z m b) (hs : a ≤ s) (hsm : s ≤ m) (hme : m ≤ e) (heb : e ≤ b) (hb : b ≤ z.length) (hmid : mid = s + (e - m))
    (lo : s = a ∨ e = b ∨ leO c z[s - 1]? z[e]?) (hi : s = m ∨ e = m ∨ leO c z[e - 1]? z[s]?) (hy : ∀ k, y[k]? = rotG z (m - s) (e - m) m k) :
    SR c y a s ∧ SR c y s mid ∧ SR c y mid e ∧ SR c y e b ∧ ∀ p q, a ≤ p → p < mid → mid ≤ q → q < b → leO c y[p]? y[q]? := by
  have f1 : ∀ k, k < s → y[k]? = z[k]? := fun k hk => by rw [hy, rotG, if_neg (by omega), if_neg (by omega)]
  have f2 : ∀ k, s ≤ k → k < mid → y[k]? = z[k + (m - s)]? := fun k h1 h2 => by rw [hy, rotG, if_pos (by omega)]
  have f3 : ∀ k, mid ≤ k → k < e → y[k]? = z[k - (e - m)]? := fun k h1 h2 => by rw [hy, rotG, if_neg (by omega), if_pos (by omega)]
  have f4 : ∀ k, e ≤ k → y[k]? = z[k]? := fun k hk => by rw [hy, rotG, if_neg (by omega), if_neg (by omega)]
  refine ⟨fun p q k1 k2 k3 => ?_, fun p q k1 k2 k3 => ?_, fun p q k1 k2 k3 => ?_, fun p q k1 k2 k3 => ?_, fun p q k1 k2 k3 k4 => ?_⟩
  · rw [f1 p (by omega), f1 q (by omega)]; exact h1 _ _ k1 k2 (by omega)
  · rw [f2 p (by omega) (by omega), f2 q (by omega) (by omega)]; exact h2 _ _ (by omega) (by omega) (by omega)
  · rw [f3 p (by omega) (by omega), f3 q (by omega) (by omega)]; exact h1 _ _ (by omega) (by omega) (by omega)
  · rw [f4 p (by omega), f4 q (by omega)]; exact h2 _ _ (by omega) (by omega) (by omega)
  · -- A1 or B1 against A2 or B2
    by_cases e1 : p < s
    · rw [f1 p e1]
      by_cases e2 : q < e
      · rw [f3 q k3 e2]; exact h1 _ _ k1 (by omega) (by omega)
      · rw [f4 q (by omega)]
        have hlo : leO c z[s - 1]? z[e]? := by
          rcases lo with h | h | h
          · omega
          · omega
          · exact h
        have g1 : leO c z[p]? z[e]? := by
          by_cases e3 : p = s - 1
          · rw [e3]; exact hlo
          · exact leO.trans hc (h1 p (s - 1) k1 (by omega) (by omega)) hlo (some_ne hc (by omega))
        by_cases e4 : q = e
        · rw [e4]; exact g1
        · exact leO.trans hc g1 (h2 e q (by omega) (by omega) k4) (some_ne hc (by omega))
    · rw [f2 p (by omega) k2]
      by_cases e2 : q < e
      · rw [f3 q k3 e2]
        have hhi : leO c z[e - 1]? z[s]? := by
          rcases hi with h | h | h
          · omega
          · omega
          · exact h
        have g1 : leO c z[p + (m - s)]? z[s]? := by
          by_cases e3 : p + (m - s) = e - 1
          · rw [e3]; exact hhi
          · exact leO.trans hc (h2 (p + (m - s)) (e - 1) (by omega) (by omega) (by omega)) hhi (some_ne hc (by omega))
        by_cases e4 : q - (e - m) = s
        · rw [e4]; exact g1
        · exact leO.trans hc g1 (h1 s (q - (e - m)) (by omega) (by omega) (by omega)) (some_ne hc (by omega))
      · rw [f4 q (by omega)]; exact h2 _ _ (by omega) (by omega) k4

theorem merge_fin (hsep : ∀ p q, a ≤ p → p < mid → mid ≤ q → q < b → leO c z1[p]? z1[q]?) (w1 : Win z1 z2 a mid) (s1 : SR c z2 a mid) (w2 : Win z2 z3 mid b) (s2 : SR c z3 mid b) : SR c z3 a b := by
  intro p q k1 k2 k3
  by_cases e1 : q < mid
  · rw [w2.out p (.inl (by omega)), w2.out q (.inl e1)]; exact s1 p q k1 k2 e1
  · by_cases e2 : p < mid
    · rw [w2.out p (.inl e2)]
      obtain ⟨q', j1, j2, j3⟩ := w2.ins q (by omega) k3
      obtain ⟨p', i1, i2, i3⟩ := w1.ins p k1 e2
      rw [j3, i3, w1.out q' (.inr j1)]
      exact hsep p' q' i1 i2 j1 j2
    · exact s2 p q (by omega) k2 k3
end
end Yt
namespace Yt
open Go Go.Vc Go.Proofs
set_option maxRecDepth 10000
set_option maxHeartbeats 8000000
set_option linter.unusedSimpArgs false
set_option linter.unusedVariables false
theorem half {n : Nat} (h : n < 4611686018427387904) : IntKind.i64.wrap (IntKind.u64.wrap (n : Int) / 2 ^ min (Int.toNat 1) 64) = ((n / 2 : Nat) : Int) := by
  have h1 : IntKind.u64.wrap (n : Int) = n := by simp only [IntKind.wrap, IntKind.bits, IntKind.signed]; simp; omega
  have h2 : (2 : Int) ^ min (Int.toNat 1) 64 = 2 := by decide
  rw [h1, h2, wrap_i64] <;> omega
theorem s71 (g : Nat) (c : It → It → Int) (hc : Cmp c) (B : It → Prop) (hg : ∀ x y, B x → B y → Spec0 Try.prog g [.ag x.c, .ag y.c] (· = iA (c x y))) : ∀ (d : Nat) (z : List It) (hB : ∀ x ∈ z, B x) (a m b : Nat) (hd : b - a ≤ d) (h1 : a < m) (h2 : m < b) (h3 : b ≤ z.length) (hl : z.length < 2305843009213693952)
    (r1 : SR c z a m) (r2 : SR c z m b),
    SpecO Try.prog 149 [.rf 0 0 z.length, iA a, iA m, iA b, .fn g []] (so z) (fun r o' => r = .tu [] ∧ ∃ z', o' = so z' ∧ Win z z' a b ∧ SR c z' a b) := by
  intro d
  induction d with
  | zero => intro z hB a m b hd h1 h2; omega
  | succ d ih =>
    have ihL : ∀ (d' : Nat) (_ : ∀ (z : List It) (_ : ∀ x ∈ z, B x) (a m b : Nat), b - a ≤ d' → a < m → m < b → b ≤ z.length → z.length < 2305843009213693952 → SR c z a m → SR c z m b →
        SpecO Try.prog 149 [.rf 0 0 z.length, iA a, iA m, iA b, .fn g []] (so z) (fun r o' => r = .tu [] ∧ ∃ z', o' = so z' ∧ Win z z' a b ∧ SR c z' a b)) {N : Nat} (z : List It) (_ : z.length = N) (_ : ∀ x ∈ z, B x) (a m b : Nat), b - a ≤ d' → a < m → m < b → b ≤ N → N < 2305843009213693952 → SR c z a m → SR c z m b →
        SpecO Try.prog 149 [.rf 0 0 N, iA a, iA m, iA b, .fn g []] (so z) (fun r o' => r = .tu [] ∧ ∃ z', o' = so z' ∧ Win z z' a b ∧ SR c z' a b) := by
      intro d' ih' N z hN hB a m b k1 k2 k3 k4 k5 k6 k7
      subst hN
      exact ih' z hB a m b k1 k2 k3 k4 k5 k6 k7
    intro z hB a m b hd h1 h2 h3 hl r1 r2
    refine specO_of_vc tabOk elems ord149 Try.func149 rfl (rl := []) rfl (by kernel_rfl) rfl ?_
    have w1 := wrap_sub (show a ≤ m by omega) (by omega)
    (simp -implicitDefEqProofs only [go_sem, iA, so, w1]; repeat (refine GO ?_; simp -implicitDefEqProofs only [go_sem, iA, so, w1]))
    refine VIF.split (fun h => ?_) (fun h => ?_)
    · simp at h
      have hm : m = a + 1 := by omega
      (simp -implicitDefEqProofs only [go_sem]; repeat (refine GO ?_; simp -implicitDefEqProofs only [go_sem]))
      refine LOOP.mk (ι := { p : Nat × Nat // m ≤ p.1 ∧ p.1 ≤ p.2 ∧ p.2 ≤ b ∧ (p.1 = m ∨ leO c z[p.1 - 1]? z[a]?) ∧ (p.2 = b ∨ leO c z[a]? z[p.2]?) })
        (fun p => mkS [(0, .rf 0 0 z.length), (1, iA a), (2, iA m), (3, iA b), (4, .fn g []), (10, iA p.1.1), (11, iA p.1.2)] [(0, so z)] [0]) (fun p => p.1.2 - p.1.1)
        ⟨(m, b), Nat.le_refl _, by show m ≤ b; omega, Nat.le_refl _, .inl rfl, .inl rfl⟩ [(0, some 0)] rfl rfl ?_ (fun p => ?_)
      · (simp -implicitDefEqProofs only [go_sem, iA, so]; repeat (refine GO ?_; simp -implicitDefEqProofs only [go_sem, iA, so]))
        exact .same (so z) _ _ (so_leafy z) rfl
      · obtain ⟨⟨i, j⟩, hi, hij, hj, lo, hi2⟩ := p
        simp only at hi hij hj lo hi2
        (simp -implicitDefEqProofs only [go_sem, iA, so]; repeat (refine GO ?_; simp -implicitDefEqProofs only [go_sem, iA, so]))
        refine VIF.split (fun e => ?_) (fun e => ?_)
        · simp at e
          have w2 := wrap_add (show i + j < 4611686018427387904 by omega)
          have w3 := half (show i + j < 4611686018427387904 by omega)
          have hh1 : (i + j) / 2 < j := by omega
          have hh2 : i ≤ (i + j) / 2 := by omega
          generalize hhd : (i + j) / 2 = hh at *
          have hz1 : hh < z.length := by omega
          have hz2 : a < z.length := by omega
          (simp -implicitDefEqProofs only [go_sem, w2, w3]; repeat (refine GO ?_; simp -implicitDefEqProofs only [go_sem, w2, w3]))
          refine ⟨by decide, by omega, EL.map hz1 ?_⟩
          (simp -implicitDefEqProofs only [go_sem, It.c, w2, w3]; repeat (refine GO ?_; simp -implicitDefEqProofs only [go_sem, It.c, w2, w3]))
          refine ⟨by omega, EL.map hz2 ?_⟩
          (simp -implicitDefEqProofs only [go_sem, It.c, w2, w3]; repeat (refine GO ?_; simp -implicitDefEqProofs only [go_sem, It.c, w2, w3]))
          refine .pure _ (hg z[hh] z[a] (hB _ (List.getElem_mem _)) (hB _ (List.getElem_mem _))) rfl fun r hr _ => ?_
          subst hr
          (simp -implicitDefEqProofs only [go_sem, iA]; repeat (refine GO ?_; simp -implicitDefEqProofs only [go_sem, iA]))
          refine VIF.split (fun q => ?_) (fun q => ?_)
          · simp at q
            have w4 := wrap_add1 (show hh < 4611686018427387904 by omega)
            (simp -implicitDefEqProofs only [go_sem, w4]; repeat (refine GO ?_; simp -implicitDefEqProofs only [go_sem, w4]))
            refine BACK.mk ⟨(hh + 1, j), by show m ≤ hh + 1; omega, by show hh + 1 ≤ j; omega, hj, .inr fun u v hu hv => ?_, hi2⟩ [(0, some 0)] rfl rfl (by show j - (hh + 1) < j - i; omega) ?_
            · simp only [Nat.add_sub_cancel, List.getElem?_eq_getElem hz1, List.getElem?_eq_getElem hz2] at hu hv
              cases hu; cases hv; omega
            · (simp -implicitDefEqProofs only [go_sem, iA, so]; repeat (refine GO ?_; simp -implicitDefEqProofs only [go_sem, iA, so]))
              exact .same (so z) _ _ (so_leafy z) rfl
          · simp at q
            (simp -implicitDefEqProofs only [go_sem]; repeat (refine GO ?_; simp -implicitDefEqProofs only [go_sem]))
            refine BACK.mk ⟨(i, hh), hi, hh2, by show hh ≤ b; omega, lo, .inr fun u v hu hv => ?_⟩ [(0, some 0)] rfl rfl (by show hh - i < j - i; omega) ?_
            · simp only [List.getElem?_eq_getElem hz1, List.getElem?_eq_getElem hz2] at hu hv
              cases hu; cases hv; exact hc.tot _ _ (by omega)
            · (simp -implicitDefEqProofs only [go_sem, iA, so]; repeat (refine GO ?_; simp -implicitDefEqProofs only [go_sem, iA, so]))
              exact .same (so z) _ _ (so_leafy z) rfl
        · simp at e
          have hij' : i = j := by omega
          subst hij'
          (simp -implicitDefEqProofs only [go_sem]; repeat (refine GO ?_; simp -implicitDefEqProofs only [go_sem]))
          refine LOOP.mk (ι := { p : Nat × List It // a ≤ p.1 ∧ p.1 ≤ i - 1 ∧ Win z p.2 a b ∧ ∀ k, p.2[k]? = if a ≤ k ∧ k < p.1 then z[k + 1]? else if k = p.1 then z[a]? else z[k]? })
            (fun p => mkS [(0, .rf 0 0 z.length), (10, iA i), (13, iA p.1.1)] [(0, so p.1.2)] [0]) (fun p => i - p.1.1)
            ⟨(a, z), Nat.le_refl _, by show a ≤ i - 1; omega, .refl _ _ _, fun k => by
              show z[k]? = if a ≤ k ∧ k < a then z[k + 1]? else if k = a then z[a]? else z[k]?
              rw [if_neg (by omega)]; split <;> simp_all⟩ [(0, some 0)] rfl rfl ?_ (fun p => ?_)
          · (simp -implicitDefEqProofs only [go_sem, iA, so]; repeat (refine GO ?_; simp -implicitDefEqProofs only [go_sem, iA, so]))
            exact .same (so z) _ _ (so_leafy z) rfl
          · obtain ⟨⟨k, y⟩, hk1, hk2, hw, hy⟩ := p
            have hlen := hw.len
            simp only at hk1 hk2 hw hy hlen
            have w5 := wrap_sub1 (show 1 ≤ i by omega) (by omega)
            (simp -implicitDefEqProofs only [go_sem, iA, so, w5]; repeat (refine GO ?_; simp -implicitDefEqProofs only [go_sem, iA, so, w5]))
            refine VIF.split (fun e => ?_) (fun e => ?_)
            · simp only [decide_eq_true_eq] at e
              have w6 := wrap_add1 (show k < 4611686018427387904 by omega)
              have g1 : k < y.length := by omega
              have g2 : k + 1 < y.length := by omega
              (simp -implicitDefEqProofs only [go_sem, w6]; repeat (refine GO ?_; simp -implicitDefEqProofs only [go_sem, w6]))
              refine ⟨by omega, EL.map g2 ?_⟩
              (simp -implicitDefEqProofs only [go_sem, It.c, w6]; repeat (refine GO ?_; simp -implicitDefEqProofs only [go_sem, It.c, w6]))
              refine ⟨by omega, EL.map g1 ?_⟩
              (simp -implicitDefEqProofs only [go_sem, It.c, w6]; repeat (refine GO ?_; simp -implicitDefEqProofs only [go_sem, It.c, w6]))
              refine ⟨by omega, EL.map g1 ?_⟩
              (simp -implicitDefEqProofs only [go_sem, It.c, w6]; repeat (refine GO ?_; simp -implicitDefEqProofs only [go_sem, It.c, w6]))
              refine ⟨by omega, EL.setmap (by omega) g2 ?_⟩
              (simp -implicitDefEqProofs only [go_sem, It.c, w6]; repeat (refine GO ?_; simp -implicitDefEqProofs only [go_sem, It.c, w6]))
              refine BACK.mk ⟨(k + 1, swp y k (k + 1) g1 g2), by show a ≤ k + 1; omega, by show k + 1 ≤ i - 1; omega, hw.trans (swp_win _ _ (by omega) (by omega) (by omega) (by omega)), fun q => ?_⟩ [(0, some 0)] rfl rfl (by show i - (k + 1) < i - k; omega) ?_
              · show (swp y k (k + 1) g1 g2)[q]? = if a ≤ q ∧ q < k + 1 then z[q + 1]? else if q = k + 1 then z[a]? else z[q]?
                rw [swp_get]
                by_cases e1 : q = k + 1
                · rw [if_pos e1, if_neg (by omega), if_pos e1, hy, if_neg (by omega), if_pos rfl]
                · by_cases e2 : q = k
                  · rw [if_neg e1, if_pos e2, if_pos (by omega), hy, if_neg (by omega), if_neg (by omega), e2]
                  · rw [if_neg e1, if_neg e2, hy]
                    by_cases e3 : a ≤ q ∧ q < k
                    · rw [if_pos e3, if_pos (by omega)]
                    · rw [if_neg e3, if_neg e2, if_neg (by omega), if_neg e1]
              · (simp -implicitDefEqProofs only [go_sem, iA, so]; repeat (refine GO ?_; simp -implicitDefEqProofs only [go_sem, iA, so]))
                exact .same (so (swp y k (k + 1) g1 g2)) _ _ (fun u hu => so_leafy (swp y k (k + 1) g1 g2) u (by rw [so, ← swp_map]; exact hu)) (swp_map g1 g2)
            · simp only [decide_eq_false_iff_not] at e
              have hki : k = i - 1 := by omega
              subst hki
              (simp -implicitDefEqProofs only [go_sem]; repeat (refine GO ?_; simp -implicitDefEqProofs only [go_sem]))
              refine FIN_O (o' := so y) rfl ?_ (so_leafy y) ?_
              · rfl
              · exact ⟨so y, ⟨⟨rfl, y, rfl, hw, merge_one hc r2 hm hi (by omega) h3 lo hi2 hy⟩, rfl⟩, so_leafy y, rfl⟩
    · simp at h
      have v1 := wrap_sub (show m ≤ b by omega) (by omega)
      (simp -implicitDefEqProofs only [go_sem, v1]; repeat (refine GO ?_; simp -implicitDefEqProofs only [go_sem, v1]))
      refine VIF.split (fun h' => ?_) (fun h' => ?_)
      · simp at h'
        have hm : b = m + 1 := by omega
        (simp -implicitDefEqProofs only [go_sem]; repeat (refine GO ?_; simp -implicitDefEqProofs only [go_sem]))
        refine LOOP.mk (ι := { p : Nat × Nat // a ≤ p.1 ∧ p.1 ≤ p.2 ∧ p.2 ≤ m ∧ (p.1 = a ∨ leO c z[p.1 - 1]? z[m]?) ∧ (p.2 = m ∨ leO c z[m]? z[p.2]?) })
          (fun p => mkS [(0, .rf 0 0 z.length), (1, iA a), (2, iA m), (3, iA b), (4, .fn g []), (14, iA p.1.1), (15, iA p.1.2)] [(0, so z)] [0]) (fun p => p.1.2 - p.1.1)
          ⟨(a, m), Nat.le_refl _, by show a ≤ m; omega, Nat.le_refl _, .inl rfl, .inl rfl⟩ [(0, some 0)] rfl rfl ?_ (fun p => ?_)
        · (simp -implicitDefEqProofs only [go_sem, iA, so]; repeat (refine GO ?_; simp -implicitDefEqProofs only [go_sem, iA, so]))
          exact .same (so z) _ _ (so_leafy z) rfl
        · obtain ⟨⟨i, j⟩, hi, hij, hj, lo, hi2⟩ := p
          simp only at hi hij hj lo hi2
          (simp -implicitDefEqProofs only [go_sem, iA, so]; repeat (refine GO ?_; simp -implicitDefEqProofs only [go_sem, iA, so]))
          refine VIF.split (fun e => ?_) (fun e => ?_)
          · simp at e
            have w2 := wrap_add (show i + j < 4611686018427387904 by omega)
            have w3 := half (show i + j < 4611686018427387904 by omega)
            have hh1 : (i + j) / 2 < j := by omega
            have hh2 : i ≤ (i + j) / 2 := by omega
            generalize hhd : (i + j) / 2 = hh at *
            have hz1 : hh < z.length := by omega
            have hz2 : m < z.length := by omega
            (simp -implicitDefEqProofs only [go_sem, w2, w3]; repeat (refine GO ?_; simp -implicitDefEqProofs only [go_sem, w2, w3]))
            refine ⟨by decide, by omega, EL.map hz2 ?_⟩
            (simp -implicitDefEqProofs only [go_sem, It.c, w2, w3]; repeat (refine GO ?_; simp -implicitDefEqProofs only [go_sem, It.c, w2, w3]))
            refine ⟨by omega, EL.map hz1 ?_⟩
            (simp -implicitDefEqProofs only [go_sem, It.c, w2, w3]; repeat (refine GO ?_; simp -implicitDefEqProofs only [go_sem, It.c, w2, w3]))
            refine .pure _ (hg z[m] z[hh] (hB _ (List.getElem_mem _)) (hB _ (List.getElem_mem _))) rfl fun r hr _ => ?_
            subst hr
            (simp -implicitDefEqProofs only [go_sem, iA]; repeat (refine GO ?_; simp -implicitDefEqProofs only [go_sem, iA]))
            refine VIF.split (fun q => ?_) (fun q => ?_)
            · simp at q
              have w4 := wrap_add1 (show hh < 4611686018427387904 by omega)
              (simp -implicitDefEqProofs only [go_sem, w4]; repeat (refine GO ?_; simp -implicitDefEqProofs only [go_sem, w4]))
              refine BACK.mk ⟨(hh + 1, j), by show a ≤ hh + 1; omega, by show hh + 1 ≤ j; omega, hj, .inr fun u v hu hv => ?_, hi2⟩ [(0, some 0)] rfl rfl (by show j - (hh + 1) < j - i; omega) ?_
              · simp only [Nat.add_sub_cancel, List.getElem?_eq_getElem hz1, List.getElem?_eq_getElem hz2] at hu hv
                cases hu; cases hv; exact hc.tot _ _ (by omega)
              · (simp -implicitDefEqProofs only [go_sem, iA, so]; repeat (refine GO ?_; simp -implicitDefEqProofs only [go_sem, iA, so]))
                exact .same (so z) _ _ (so_leafy z) rfl
            · simp at q
              (simp -implicitDefEqProofs only [go_sem]; repeat (refine GO ?_; simp -implicitDefEqProofs only [go_sem]))
              refine BACK.mk ⟨(i, hh), hi, hh2, by show hh ≤ m; omega, lo, .inr fun u v hu hv => ?_⟩ [(0, some 0)] rfl rfl (by show hh - i < j - i; omega) ?_
              · simp only [List.getElem?_eq_getElem hz1, List.getElem?_eq_getElem hz2] at hu hv
                cases hu; cases hv; omega
              · (simp -implicitDefEqProofs only [go_sem, iA, so]; repeat (refine GO ?_; simp -implicitDefEqProofs only [go_sem, iA, so]))
                exact .same (so z) _ _ (so_leafy z) rfl
          · simp at e
            have hij' : i = j := by omega
            subst hij'
            (simp -implicitDefEqProofs only [go_sem]; repeat (refine GO ?_; simp -implicitDefEqProofs only [go_sem]))
            refine LOOP.mk (ι := { p : Nat × List It // i ≤ p.1 ∧ p.1 ≤ m ∧ Win z p.2 a b ∧ ∀ k, p.2[k]? = if p.1 < k ∧ k ≤ m then z[k - 1]? else if k = p.1 then z[m]? else z[k]? })
              (fun p => mkS [(0, .rf 0 0 z.length), (14, iA i), (17, iA p.1.1)] [(0, so p.1.2)] [0]) (fun p => p.1.1)
              ⟨(m, z), by show i ≤ m; omega, Nat.le_refl _, .refl _ _ _, fun k => by
                show z[k]? = if m < k ∧ k ≤ m then z[k - 1]? else if k = m then z[m]? else z[k]?
                rw [if_neg (by omega)]; split <;> simp_all⟩ [(0, some 0)] rfl rfl ?_ (fun p => ?_)
            · (simp -implicitDefEqProofs only [go_sem, iA, so]; repeat (refine GO ?_; simp -implicitDefEqProofs only [go_sem, iA, so]))
              exact .same (so z) _ _ (so_leafy z) rfl
            · obtain ⟨⟨k, y⟩, hk1, hk2, hw, hy⟩ := p
              have hlen := hw.len
              simp only at hk1 hk2 hw hy hlen
              (simp -implicitDefEqProofs only [go_sem, iA, so]; repeat (refine GO ?_; simp -implicitDefEqProofs only [go_sem, iA, so]))
              refine VIF.split (fun e => ?_) (fun e => ?_)
              · simp at e
                have w6 := wrap_sub1 (show 1 ≤ k by omega) (by omega)
                have g1 : k < y.length := by omega
                have g2 : k - 1 < y.length := by omega
                (simp -implicitDefEqProofs only [go_sem, w6]; repeat (refine GO ?_; simp -implicitDefEqProofs only [go_sem, w6]))
                refine ⟨by omega, EL.map g2 ?_⟩
                (simp -implicitDefEqProofs only [go_sem, It.c, w6]; repeat (refine GO ?_; simp -implicitDefEqProofs only [go_sem, It.c, w6]))
                refine ⟨by omega, EL.map g1 ?_⟩
                (simp -implicitDefEqProofs only [go_sem, It.c, w6]; repeat (refine GO ?_; simp -implicitDefEqProofs only [go_sem, It.c, w6]))
                refine ⟨by omega, EL.map g1 ?_⟩
                (simp -implicitDefEqProofs only [go_sem, It.c, w6]; repeat (refine GO ?_; simp -implicitDefEqProofs only [go_sem, It.c, w6]))
                refine ⟨by omega, EL.setmap (by omega) g2 ?_⟩
                (simp -implicitDefEqProofs only [go_sem, It.c, w6]; repeat (refine GO ?_; simp -implicitDefEqProofs only [go_sem, It.c, w6]))
                refine BACK.mk ⟨(k - 1, swp y k (k - 1) g1 g2), by show i ≤ k - 1; omega, by show k - 1 ≤ m; omega, hw.trans (swp_win _ _ (by omega) (by omega) (by omega) (by omega)), fun q => ?_⟩ [(0, some 0)] rfl rfl (by show k - 1 < k; omega) ?_
                · show (swp y k (k - 1) g1 g2)[q]? = if k - 1 < q ∧ q ≤ m then z[q - 1]? else if q = k - 1 then z[m]? else z[q]?
                  rw [swp_get]
                  by_cases e1 : q = k - 1
                  · rw [if_pos e1, if_neg (by omega), if_pos e1, hy, if_neg (by omega), if_pos rfl]
                  · by_cases e2 : q = k
                    · rw [if_neg e1, if_pos e2, if_pos (by omega), hy, if_neg (by omega), if_neg (by omega), e2]
                    · rw [if_neg e1, if_neg e2, hy]
                      by_cases e3 : k < q ∧ q ≤ m
                      · rw [if_pos e3, if_pos (by omega)]
                      · rw [if_neg e3, if_neg e2, if_neg (by omega), if_neg e1]
                · (simp -implicitDefEqProofs only [go_sem, iA, so]; repeat (refine GO ?_; simp -implicitDefEqProofs only [go_sem, iA, so]))
                  exact .same (so (swp y k (k - 1) g1 g2)) _ _ (fun u hu => so_leafy (swp y k (k - 1) g1 g2) u (by rw [so, ← swp_map]; exact hu)) (swp_map g1 g2)
              · simp at e
                have hki : k = i := by omega
                subst hki
                (simp -implicitDefEqProofs only [go_sem]; repeat (refine GO ?_; simp -implicitDefEqProofs only [go_sem]))
                refine FIN_O (o' := so y) rfl ?_ (so_leafy y) ?_
                · rfl
                · exact ⟨so y, ⟨⟨rfl, y, rfl, hw, merge_last hc r1 hm hi (by omega) h3 lo hi2 hy⟩, rfl⟩, so_leafy y, rfl⟩
      · simp at h'
        (simp -implicitDefEqProofs only [go_sem]; repeat (refine GO ?_; simp -implicitDefEqProofs only [go_sem]))
        have u1 := wrap_add (show a + b < 4611686018427387904 by omega)
        have u2 := half (show a + b < 4611686018427387904 by omega)
        have hm1 : a < (a + b) / 2 := by omega
        have hm2 : (a + b) / 2 < b := by omega
        generalize hmd : (a + b) / 2 = mid at *
        have u3 := wrap_add (show mid + m < 4611686018427387904 by omega)
        (simp -implicitDefEqProofs only [go_sem, u1, u2, u3]; repeat (refine GO ?_; simp -implicitDefEqProofs only [go_sem, u1, u2, u3]))
        refine ⟨by decide, ?_⟩
        refine VIF.join (ι := { p : Nat × Nat // a ≤ p.1 ∧ p.1 ≤ p.2 ∧ p.2 ≤ mid ∧ p.2 ≤ m ∧ mid + m - p.1 ≤ b ∧ (p.1 = a ∨ mid + m - p.1 = b) ∧ (p.2 = m ∨ mid + m - p.2 = m) })
          (fun p => mkS [(0, .rf 0 0 z.length), (1, iA a), (2, iA m), (3, iA b), (4, .fn g []), (18, iA mid), (19, iA (mid + m : Nat)), (20, iA p.1.1), (21, iA p.1.2)] [(0, so z)] [0]) (fun hmm => ?_) (fun hmm => ?_) (fun p => ?_)
        · simp at hmm
          have w := wrap_sub (show b ≤ mid + m by omega) (by omega)
          (simp -implicitDefEqProofs only [go_sem, w, u1, u2, u3]; repeat (refine GO ?_; simp -implicitDefEqProofs only [go_sem, w, u1, u2, u3]))
          refine JB.mk ⟨(mid + m - b, mid), by show a ≤ mid + m - b; omega, by show mid + m - b ≤ mid; omega, by show mid ≤ mid; omega, by show mid ≤ m; omega, by show mid + m - (mid + m - b) ≤ b; omega, .inr (by show mid + m - (mid + m - b) = b; omega), .inr (by show mid + m - mid = m; omega)⟩ [(0, some 0)] rfl rfl ?_
          (simp -implicitDefEqProofs only [go_sem, iA, so, w, u1, u2, u3]; repeat (refine GO ?_; simp -implicitDefEqProofs only [go_sem, iA, so, w, u1, u2, u3]))
          exact .same (so z) _ _ (so_leafy z) rfl
        · simp at hmm
          (simp -implicitDefEqProofs only [go_sem, u1, u2, u3]; repeat (refine GO ?_; simp -implicitDefEqProofs only [go_sem, u1, u2, u3]))
          refine JB.mk ⟨(a, m), Nat.le_refl _, by show a ≤ m; omega, by show m ≤ mid; omega, Nat.le_refl _, by show mid + m - a ≤ b; omega, .inl rfl, .inl rfl⟩ [(0, some 0)] rfl rfl ?_
          (simp -implicitDefEqProofs only [go_sem, iA, so, u1, u2, u3]; repeat (refine GO ?_; simp -implicitDefEqProofs only [go_sem, iA, so, u1, u2, u3]))
          exact .same (so z) _ _ (so_leafy z) rfl
        · obtain ⟨⟨S, E⟩, f1⟩ := p
          simp only at f1
          have v2 := wrap_sub1 (show 1 ≤ mid + m by omega) (by omega)
          refine GO ?_
          (simp -implicitDefEqProofs only [go_sem, iA, so, v2]; repeat (refine GO ?_; simp -implicitDefEqProofs only [go_sem, iA, so, v2]))
          refine LOOP.mk (ι := { p : Nat × Nat // S ≤ p.1 ∧ p.1 ≤ p.2 ∧ p.2 ≤ E ∧ (p.1 = S ∨ leO c z[p.1 - 1]? z[mid + m - p.1]?) ∧ (p.2 = E ∨ leO c z[mid + m - 1 - p.2]? z[p.2]?) })
            (fun p => mkS [(0, .rf 0 0 z.length), (1, iA a), (2, iA m), (3, iA b), (4, .fn g []), (18, iA mid), (19, iA (mid + m : Nat)), (20, iA p.1.1), (21, iA p.1.2), (22, iA (mid + m - 1 : Nat))] [(0, so z)] [0]) (fun p => p.1.2 - p.1.1)
            ⟨(S, E), Nat.le_refl _, by show S ≤ E; omega, Nat.le_refl _, .inl rfl, .inl rfl⟩ [(0, some 0)] rfl rfl ?_ (fun p => ?_)
          · (simp -implicitDefEqProofs only [go_sem, iA, so, v2]; repeat (refine GO ?_; simp -implicitDefEqProofs only [go_sem, iA, so, v2]))
            exact .same (so z) _ _ (so_leafy z) rfl
          · obtain ⟨⟨s, r⟩, hs1, hs2, hs3, lo, hi⟩ := p
            simp only at hs1 hs2 hs3 lo hi
            (simp -implicitDefEqProofs only [go_sem, iA, so]; repeat (refine GO ?_; simp -implicitDefEqProofs only [go_sem, iA, so]))
            refine VIF.split (fun e => ?_) (fun e => ?_)
            · simp at e
              have w2 := wrap_add (show s + r < 4611686018427387904 by omega)
              have w3 := half (show s + r < 4611686018427387904 by omega)
              have hh1 : (s + r) / 2 < r := by omega
              have hh2 : s ≤ (s + r) / 2 := by omega
              generalize hhd : (s + r) / 2 = hh at *
              have w4 := wrap_sub (show hh ≤ mid + m - 1 by omega) (by omega)
              have hz1 : hh < z.length := by omega
              have hz2 : mid + m - 1 - hh < z.length := by omega
              (simp -implicitDefEqProofs only [go_sem, w2, w3, w4]; repeat (refine GO ?_; simp -implicitDefEqProofs only [go_sem, w2, w3, w4]))
              refine ⟨by decide, by omega, EL.map hz2 ?_⟩
              (simp -implicitDefEqProofs only [go_sem, It.c, w2, w3, w4]; repeat (refine GO ?_; simp -implicitDefEqProofs only [go_sem, It.c, w2, w3, w4]))
              refine ⟨by omega, EL.map hz1 ?_⟩
              (simp -implicitDefEqProofs only [go_sem, It.c, w2, w3, w4]; repeat (refine GO ?_; simp -implicitDefEqProofs only [go_sem, It.c, w2, w3, w4]))
              refine .pure _ (hg z[mid + m - 1 - hh] z[hh] (hB _ (List.getElem_mem _)) (hB _ (List.getElem_mem _))) rfl fun r hr _ => ?_
              subst hr
              (simp -implicitDefEqProofs only [go_sem, iA]; repeat (refine GO ?_; simp -implicitDefEqProofs only [go_sem, iA]))
              refine VIF.split (fun q => ?_) (fun q => ?_)
              · simp at q
                have w5 := wrap_add1 (show hh < 4611686018427387904 by omega)
                (simp -implicitDefEqProofs only [go_sem, w5]; repeat (refine GO ?_; simp -implicitDefEqProofs only [go_sem, w5]))
                refine BACK.mk ⟨(hh + 1, r), by show S ≤ hh + 1; omega, by show hh + 1 ≤ r; omega, hs3, .inr fun u v hu hv => ?_, hi⟩ [(0, some 0)] rfl rfl (by show r - (hh + 1) < r - s; omega) ?_
                · have hv' : z[mid + m - 1 - hh]? = some v := by rw [← hv]; congr 1; show mid + m - 1 - hh = mid + m - (hh + 1); omega
                  simp only [Nat.add_sub_cancel, List.getElem?_eq_getElem hz1] at hu
                  rw [List.getElem?_eq_getElem hz2] at hv'
                  cases hu; cases hv'; exact hc.tot _ _ (by omega)
                · (simp -implicitDefEqProofs only [go_sem, iA, so]; repeat (refine GO ?_; simp -implicitDefEqProofs only [go_sem, iA, so]))
                  exact .same (so z) _ _ (so_leafy z) rfl
              · simp at q
                (simp -implicitDefEqProofs only [go_sem]; repeat (refine GO ?_; simp -implicitDefEqProofs only [go_sem]))
                refine BACK.mk ⟨(s, hh), hs1, hh2, by show hh ≤ E; omega, lo, .inr fun u v hu hv => ?_⟩ [(0, some 0)] rfl rfl (by show hh - s < r - s; omega) ?_
                · simp only [List.getElem?_eq_getElem hz1, List.getElem?_eq_getElem hz2] at hu hv
                  cases hu; cases hv; omega
                · (simp -implicitDefEqProofs only [go_sem, iA, so]; repeat (refine GO ?_; simp -implicitDefEqProofs only [go_sem, iA, so]))
                  exact .same (so z) _ _ (so_leafy z) rfl
            · simp at e
              have hsr : s = r := by omega
              subst hsr
              have w6 := wrap_sub (show s ≤ mid + m by omega) (by omega)
              obtain ⟨t, ht⟩ : ∃ t, t = mid + m - s := ⟨_, rfl⟩
              rw [← ht] at w6
              have hmid : mid = s + (t - m) := by omega
              have lo' : s = a ∨ t = b ∨ leO c z[s - 1]? z[t]? := by
                rcases lo with h | h
                · omega
                · rw [← ht] at h; exact .inr (.inr h)
              have hi' : s = m ∨ t = m ∨ leO c z[t - 1]? z[s]? := by
                rcases hi with h | h
                · omega
                · have : mid + m - 1 - s = t - 1 := by omega
                  rw [this] at h; exact .inr (.inr h)
              have g1 : a ≤ s ∧ s ≤ m ∧ m ≤ t ∧ t ≤ b ∧ s ≤ mid ∧ mid ≤ t := by omega
              obtain ⟨g1, g2, g3, g4, g5, g6⟩ := g1
              have same : m ≤ s ∨ t ≤ m → ∀ k, z[k]? = rotG z (m - s) (t - m) m k := by
                intro hst k
                simp only [rotG]
                by_cases k1 : m - (m - s) ≤ k ∧ k < m - (m - s) + (t - m)
                · rw [if_pos k1]; congr 1; omega
                · rw [if_neg k1]
                  by_cases k2 : m - (m - s) + (t - m) ≤ k ∧ k < m + (t - m)
                  · rw [if_pos k2]; congr 1; omega
                  · rw [if_neg k2]
              (simp -implicitDefEqProofs only [go_sem, w6]; repeat (refine GO ?_; simp -implicitDefEqProofs only [go_sem, w6]))
              refine evRegion.join (ι := { y : List It // Win z y a b ∧ ∀ k, y[k]? = rotG z (m - s) (t - m) m k })
                (fun y => mkS [(0, .rf 0 0 z.length), (1, iA a), (3, iA b), (4, .fn g []), (18, iA mid), (20, iA s), (24, iA t)] [(0, so y.1)] [0]) ?_ (fun y => ?_)
              · (simp -implicitDefEqProofs only [go_sem, ord149_39]; repeat (refine GO ?_; simp -implicitDefEqProofs only [go_sem, ord149_39]))
                refine VIF.split (fun q1 => ?_) (fun q1 => ?_)
                · simp at q1
                  (simp -implicitDefEqProofs only [go_sem]; repeat (refine GO ?_; simp -implicitDefEqProofs only [go_sem]))
                  refine VIF.split (fun q2 => ?_) (fun q2 => ?_)
                  · simp at q2
                    (simp -implicitDefEqProofs only [go_sem]; repeat (refine GO ?_; simp -implicitDefEqProofs only [go_sem]))
                    refine .obj 0 (so z) _ _ (s75 g z s m t (by omega) (by omega) (by omega) (by omega)) rfl (so_leafy z) rfl rfl fun r o' hr _ _ => ?_
                    obtain ⟨rfl, z1, rfl, hrot⟩ := hr
                    (simp -implicitDefEqProofs only [go_sem]; repeat (refine GO ?_; simp -implicitDefEqProofs only [go_sem]))
                    refine JB.mk ⟨z1, hrot.win.wide (by omega) (by omega), hrot.get⟩ [(0, some 0)] rfl rfl ?_
                    (simp -implicitDefEqProofs only [go_sem, iA, so, w6]; repeat (refine GO ?_; simp -implicitDefEqProofs only [go_sem, iA, so, w6]))
                    exact .same (so z1) _ _ (so_leafy z1) rfl
                  · simp at q2
                    (simp -implicitDefEqProofs only [go_sem]; repeat (refine GO ?_; simp -implicitDefEqProofs only [go_sem]))
                    refine JB.mk ⟨z, .refl _ _ _, same (by omega)⟩ [(0, some 0)] rfl rfl ?_
                    (simp -implicitDefEqProofs only [go_sem, iA, so, w6]; repeat (refine GO ?_; simp -implicitDefEqProofs only [go_sem, iA, so, w6]))
                    exact .same (so z) _ _ (so_leafy z) rfl
                · simp at q1
                  (simp -implicitDefEqProofs only [go_sem]; repeat (refine GO ?_; simp -implicitDefEqProofs only [go_sem]))
                  refine JB.mk ⟨z, .refl _ _ _, same (by omega)⟩ [(0, some 0)] rfl rfl ?_
                  (simp -implicitDefEqProofs only [go_sem, iA, so, w6]; repeat (refine GO ?_; simp -implicitDefEqProofs only [go_sem, iA, so, w6]))
                  exact .same (so z) _ _ (so_leafy z) rfl
              · obtain ⟨z1, hw1, hy1⟩ := y
                have hl1 := hw1.len
                have hB1 : ∀ x ∈ z1, B x := fun x hx => hB x (hw1.perm.subset hx)
                obtain ⟨p1, p2, p3, p4, psep⟩ := rot_runs hc r1 r2 g1 g2 g3 g4 h3 hmid lo' hi' hy1
                refine GO ?_
                (simp -implicitDefEqProofs only [go_sem, iA, so]; repeat (refine GO ?_; simp -implicitDefEqProofs only [go_sem, iA, so]))
                refine evRegion.join (ι := { y : List It // Win z1 y a mid ∧ SR c y a mid })
                  (fun y => mkS [(0, .rf 0 0 z.length), (3, iA b), (4, .fn g []), (18, iA mid), (24, iA t)] [(0, so y.1)] [0]) ?_ (fun y => ?_)
                · (simp -implicitDefEqProofs only [go_sem, iA, so, ord149_41]; repeat (refine GO ?_; simp -implicitDefEqProofs only [go_sem, iA, so, ord149_41]))
                  refine VIF.split (fun q3 => ?_) (fun q3 => ?_)
                  · simp at q3
                    (simp -implicitDefEqProofs only [go_sem]; repeat (refine GO ?_; simp -implicitDefEqProofs only [go_sem]))
                    refine VIF.split (fun q4 => ?_) (fun q4 => ?_)
                    · simp at q4
                      (simp -implicitDefEqProofs only [go_sem]; repeat (refine GO ?_; simp -implicitDefEqProofs only [go_sem]))
                      refine .obj 0 (so z1) _ _ (ihL d ih z1 hl1 hB1 a s mid (by omega) (by omega) (by omega) (by omega) (by omega) p1 p2) rfl (so_leafy z1) rfl rfl fun r o' hr _ _ => ?_
                      obtain ⟨rfl, z2, rfl, hw2, hs2⟩ := hr
                      (simp -implicitDefEqProofs only [go_sem]; repeat (refine GO ?_; simp -implicitDefEqProofs only [go_sem]))
                      refine JB.mk ⟨z2, hw2, hs2⟩ [(0, some 0)] rfl rfl ?_
                      (simp -implicitDefEqProofs only [go_sem, iA, so]; repeat (refine GO ?_; simp -implicitDefEqProofs only [go_sem, iA, so]))
                      exact .same (so z2) _ _ (so_leafy z2) rfl
                    · simp at q4
                      (simp -implicitDefEqProofs only [go_sem]; repeat (refine GO ?_; simp -implicitDefEqProofs only [go_sem]))
                      refine JB.mk ⟨z1, .refl _ _ _, fun u v k1 k2 k3 => p1 u v k1 k2 (by omega)⟩ [(0, some 0)] rfl rfl ?_
                      (simp -implicitDefEqProofs only [go_sem, iA, so]; repeat (refine GO ?_; simp -implicitDefEqProofs only [go_sem, iA, so]))
                      exact .same (so z1) _ _ (so_leafy z1) rfl
                  · simp at q3
                    (simp -implicitDefEqProofs only [go_sem]; repeat (refine GO ?_; simp -implicitDefEqProofs only [go_sem]))
                    refine JB.mk ⟨z1, .refl _ _ _, fun u v k1 k2 k3 => p2 u v (by omega) k2 k3⟩ [(0, some 0)] rfl rfl ?_
                    (simp -implicitDefEqProofs only [go_sem, iA, so]; repeat (refine GO ?_; simp -implicitDefEqProofs only [go_sem, iA, so]))
                    exact .same (so z1) _ _ (so_leafy z1) rfl
                · obtain ⟨z2, hw2, hs2⟩ := y
                  have hl2 := hw2.len.trans hl1
                  have hB2 : ∀ x ∈ z2, B x := fun x hx => hB1 x (hw2.perm.subset hx)
                  have p3' : SR c z2 mid t := fun u v k1 k2 k3 => by rw [hw2.out u (.inr k1), hw2.out v (.inr (by omega))]; exact p3 u v k1 k2 k3
                  have p4' : SR c z2 t b := fun u v k1 k2 k3 => by rw [hw2.out u (.inr (by omega)), hw2.out v (.inr (by omega))]; exact p4 u v k1 k2 k3
                  have fin2 : SR c z2 mid b → Win z z2 a b ∧ SR c z2 a b := fun h => ⟨hw1.trans (hw2.wide (Nat.le_refl _) (by omega)), merge_fin hc psep hw2 hs2 (.refl _ _ _) h⟩
                  refine GO ?_
                  (simp -implicitDefEqProofs only [go_sem, iA, so]; repeat (refine GO ?_; simp -implicitDefEqProofs only [go_sem, iA, so]))
                  (simp -implicitDefEqProofs only [go_sem, iA, so, ord149_43]; repeat (refine GO ?_; simp -implicitDefEqProofs only [go_sem, iA, so, ord149_43]))
                  refine VIF.split (fun q5 => ?_) (fun q5 => ?_)
                  · simp at q5
                    (simp -implicitDefEqProofs only [go_sem]; repeat (refine GO ?_; simp -implicitDefEqProofs only [go_sem]))
                    refine VIF.split (fun q6 => ?_) (fun q6 => ?_)
                    · simp at q6
                      (simp -implicitDefEqProofs only [go_sem]; repeat (refine GO ?_; simp -implicitDefEqProofs only [go_sem]))
                      refine .obj 0 (so z2) _ _ (ihL d ih z2 hl2 hB2 mid t b (by omega) (by omega) (by omega) (by omega) (by omega) p3' p4') rfl (so_leafy z2) rfl rfl fun r o' hr _ _ => ?_
                      obtain ⟨rfl, z3, rfl, hw3, hs3⟩ := hr
                      (simp -implicitDefEqProofs only [go_sem]; repeat (refine GO ?_; simp -implicitDefEqProofs only [go_sem]))
                      refine FIN_O (o' := so z3) rfl ?_ (so_leafy z3) ?_
                      · rfl
                      · exact ⟨so z3, ⟨⟨rfl, z3, rfl, hw1.trans ((hw2.wide (Nat.le_refl _) (by omega)).trans (hw3.wide (by omega) (Nat.le_refl _))), merge_fin hc psep hw2 hs2 hw3 hs3⟩, rfl⟩, so_leafy z3, rfl⟩
                    · simp at q6
                      (simp -implicitDefEqProofs only [go_sem]; repeat (refine GO ?_; simp -implicitDefEqProofs only [go_sem]))
                      refine FIN_O (o' := so z2) rfl ?_ (so_leafy z2) ?_
                      · rfl
                      · exact ⟨so z2, ⟨⟨rfl, z2, rfl, fin2 fun u v k1 k2 k3 => p3' u v k1 k2 (by omega)⟩, rfl⟩, so_leafy z2, rfl⟩
                  · simp at q5
                    (simp -implicitDefEqProofs only [go_sem]; repeat (refine GO ?_; simp -implicitDefEqProofs only [go_sem]))
                    refine FIN_O (o' := so z2) rfl ?_ (so_leafy z2) ?_
                    · rfl
                    · exact ⟨so z2, ⟨⟨rfl, z2, rfl, fin2 fun u v k1 k2 k3 => p4' u v (by omega) k2 k3⟩, rfl⟩, so_leafy z2, rfl⟩
end Yt
namespace Yt
open Go Go.Vc Go.Proofs
set_option maxRecDepth 10000
set_option maxHeartbeats 4000000
set_option linter.unusedSimpArgs false
set_option linter.unusedVariables false
theorem s70L (g : Nat) (c : It → It → Int) (hc : Cmp c) (B : It → Prop) (hg : ∀ x y, B x → B y → Spec0 Try.prog g [.ag x.c, .ag y.c] (· = iA (c x y))) {N : Nat} (z : List It) (hN : z.length = N) (hB : ∀ x ∈ z, B x) (a b : Nat) (h1 : a ≤ b) (h2 : b ≤ N) (hl : N < 2305843009213693952) :
    SpecO Try.prog 148 [.rf 0 0 N, iA a, iA b, .fn g []] (so z) (fun r o' => r = .tu [] ∧ ∃ z', o' = so z' ∧ Win z z' a b ∧ SR c z' a b) := by
  subst hN; exact s70 g c hc B hg z hB a b h1 h2 hl
theorem s71L (g : Nat) (c : It → It → Int) (hc : Cmp c) (B : It → Prop) (hg : ∀ x y, B x → B y → Spec0 Try.prog g [.ag x.c, .ag y.c] (· = iA (c x y))) {N : Nat} (z : List It) (hN : z.length = N) (hB : ∀ x ∈ z, B x) (a m b : Nat) (h1 : a < m) (h2 : m < b) (h3 : b ≤ N) (hl : N < 2305843009213693952)
    (r1 : SR c z a m) (r2 : SR c z m b) :
    SpecO Try.prog 149 [.rf 0 0 N, iA a, iA m, iA b, .fn g []] (so z) (fun r o' => r = .tu [] ∧ ∃ z', o' = so z' ∧ Win z z' a b ∧ SR c z' a b) := by
  subst hN; exact s71 g c hc B hg _ z hB a m b (Nat.le_refl _) h1 h2 h3 hl r1 r2
def BK (c : It → It → Int) (z : List It) (k : Nat) : Prop := ∀ q, SR c z (q * k) (min ((q + 1) * k) z.length)
theorem wrap_dbl {a : Nat} (h : a < 2305843009213693952) : IntKind.i64.wrap (2 * (a : Int)) = ((2 * a : Nat) : Int) := by rw [wrap_i64] <;> omega
theorem wrap_dbl' {a : Nat} (h : a < 2305843009213693952) : IntKind.i64.wrap ((a : Int) * 2) = ((2 * a : Nat) : Int) := by rw [wrap_i64] <;> omega
theorem s60 (g : Nat) (c : It → It → Int) (hc : Cmp c) (B : It → Prop) (hg : ∀ x y, B x → B y → Spec0 Try.prog g [.ag x.c, .ag y.c] (· = iA (c x y))) (z : List It) (hB : ∀ x ∈ z, B x) (hl : z.length < 576460752303423488) :
    SpecO Try.prog 139 [.rf 0 0 z.length, iA z.length, .fn g []] (so z) (fun r o' => r = .tu [] ∧ ∃ z', o' = so z' ∧ Win z z' 0 z.length ∧ SR c z' 0 z.length) := by
  refine specO_of_vc tabOk elems ord139 Try.func139 rfl (rl := []) rfl (by kernel_rfl) rfl ?_
  (simp -implicitDefEqProofs only [go_sem, iA, so]; repeat (refine GO ?_; simp -implicitDefEqProofs only [go_sem, iA, so]))
  refine LOOP.mk (ι := { p : Nat × List It // p.1 * 20 ≤ z.length ∧ Win z p.2 0 z.length ∧ ∀ q, q < p.1 → SR c p.2 (q * 20) ((q + 1) * 20) })
    (fun p => mkS [(0, .rf 0 0 z.length), (1, iA z.length), (2, .fn g []), (6, iA 20), (7, iA (p.1.1 * 20 : Nat)), (8, iA ((p.1.1 + 1) * 20 : Nat))] [(0, so p.1.2)] [0]) (fun p => z.length - p.1.1 * 20)
    ⟨(0, z), by simp, .refl _ _ _, fun q hq => by simp at hq⟩ [(0, some 0)] rfl rfl ?_ (fun p => ?_)
  · (simp -implicitDefEqProofs only [go_sem, iA, so]; repeat (refine GO ?_; simp -implicitDefEqProofs only [go_sem, iA, so]))
    exact ⟨⟨rfl, rfl⟩, .same (so z) _ _ (so_leafy z) rfl⟩
  · obtain ⟨⟨n, y⟩, hn, hw, hs⟩ := p
    have hlen := hw.len
    simp only at hn hw hs hlen
    (simp -implicitDefEqProofs only [go_sem, iA, so]; repeat (refine GO ?_; simp -implicitDefEqProofs only [go_sem, iA, so]))
    refine VIF.split (fun h => ?_) (fun h => ?_)
    · simp at h
      (simp -implicitDefEqProofs only [go_sem]; repeat (refine GO ?_; simp -implicitDefEqProofs only [go_sem]))
      refine .obj 0 (so y) _ _ (s70L g c hc B hg y hlen (fun x hx => hB x (hw.perm.subset hx)) (n * 20) ((n + 1) * 20) (by omega) (by omega) (by omega)) rfl (so_leafy y) rfl rfl fun r o' hr _ _ => ?_
      obtain ⟨rfl, y', rfl, hw', hs'⟩ := hr
      have w1 : IntKind.i64.wrap (((n + 1) * 20 : Nat) + (20 : Int)) = (((n + 1 + 1) * 20 : Nat) : Int) := by rw [wrap_i64] <;> omega
      (simp -implicitDefEqProofs only [go_sem, w1]; repeat (refine GO ?_; simp -implicitDefEqProofs only [go_sem, w1]))
      refine BACK.mk ⟨(n + 1, y'), by show (n + 1) * 20 ≤ z.length; omega, hw.trans (hw'.wide (by omega) (by omega)), fun q hq => ?_⟩ [(0, some 0)] rfl rfl (by show z.length - (n + 1) * 20 < z.length - n * 20; omega) ?_
      · show SR c y' (q * 20) ((q + 1) * 20)
        by_cases e : q = n
        · subst e; exact hs'
        · have hqn : q < n := by have : q < n + 1 := hq; omega
          intro u v k1 k2 k3
          rw [hw'.out u (.inl (by omega)), hw'.out v (.inl (by omega))]
          exact hs q hqn u v k1 k2 k3
      · (simp -implicitDefEqProofs only [go_sem, iA, so]; repeat (refine GO ?_; simp -implicitDefEqProofs only [go_sem, iA, so]))
        exact .same (so y') _ _ (so_leafy y') rfl
    · simp at h
      (simp -implicitDefEqProofs only [go_sem]; repeat (refine GO ?_; simp -implicitDefEqProofs only [go_sem]))
      refine .obj 0 (so y) _ _ (s70L g c hc B hg y hlen (fun x hx => hB x (hw.perm.subset hx)) (n * 20) z.length (by omega) (by omega) (by omega)) rfl (so_leafy y) rfl rfl fun r o' hr _ _ => ?_
      obtain ⟨rfl, y', rfl, hw', hs'⟩ := hr
      (simp -implicitDefEqProofs only [go_sem]; repeat (refine GO ?_; simp -implicitDefEqProofs only [go_sem]))
      have hw2 : Win z y' 0 z.length := hw.trans (hw'.wide (by omega) (by omega))
      have hb : BK c y' 20 := by
        intro q u v k1 k2 k3
        have hl2 := hw2.len
        by_cases e : q < n
        · rw [hw'.out u (.inl (by omega)), hw'.out v (.inl (by omega))]
          exact hs q e u v k1 k2 (by omega)
        · exact hs' u v (by omega) k2 (by omega)
      clear hs hs' hw' hw h
      refine LOOP.mk (ι := { p : Nat × List It // 20 ≤ p.1 ∧ (p.1 < 2 * z.length ∨ p.1 = 20) ∧ Win z p.2 0 z.length ∧ BK c p.2 p.1 })
        (fun p => mkS [(0, .rf 0 0 z.length), (1, iA z.length), (2, .fn g []), (6, iA p.1.1)] [(0, so p.1.2)] [0]) (fun p => 2 * z.length - p.1.1)
        ⟨(20, y'), Nat.le_refl _, .inr rfl, hw2, hb⟩ [(0, some 0)] rfl rfl ?_ (fun p => ?_)
      · (simp -implicitDefEqProofs only [go_sem, iA, so]; repeat (refine GO ?_; simp -implicitDefEqProofs only [go_sem, iA, so]))
        exact ⟨rfl, .same (so y') _ _ (so_leafy y') rfl⟩
      · obtain ⟨⟨k, x⟩, hk, hk2, hwx, hbx⟩ := p
        have hlx := hwx.len
        simp only at hk hk2 hwx hbx hlx
        (simp -implicitDefEqProofs only [go_sem, iA, so]; repeat (refine GO ?_; simp -implicitDefEqProofs only [go_sem, iA, so]))
        refine VIF.split (fun h => ?_) (fun h => ?_)
        · simp at h
          have w2 := wrap_dbl (show k < 2305843009213693952 by omega)
          (simp -implicitDefEqProofs only [go_sem, w2]; repeat (refine GO ?_; simp -implicitDefEqProofs only [go_sem, w2]))
          refine LOOP.mk (ι := { p : Nat × List It // p.1 * (2 * k) ≤ z.length ∧ Win z p.2 0 z.length ∧ (∀ q, q < p.1 → SR c p.2 (q * (2 * k)) ((q + 1) * (2 * k))) ∧ ∀ q, 2 * p.1 ≤ q → SR c p.2 (q * k) (min ((q + 1) * k) z.length) })
            (fun p => mkS [(0, .rf 0 0 z.length), (1, iA z.length), (2, .fn g []), (6, iA k), (7, iA (p.1.1 * (2 * k) : Nat)), (8, iA ((p.1.1 + 1) * (2 * k) : Nat))] [(0, so p.1.2)] [0]) (fun p => z.length - p.1.1)
            ⟨(0, x), by simp, hwx, fun q hq => by simp at hq, fun q _ => by rw [← hlx]; exact hbx q⟩ [(0, some 0)] rfl rfl ?_ (fun p => ?_)
          · (simp -implicitDefEqProofs only [go_sem, iA, so]; repeat (refine GO ?_; simp -implicitDefEqProofs only [go_sem, iA, so]))
            exact ⟨⟨by simp, by simp⟩, .same (so x) _ _ (so_leafy x) rfl⟩
          · obtain ⟨⟨n, u⟩, hn, hwu, hs1, hs2⟩ := p
            have hlu := hwu.len
            simp only at hn hwu hs1 hs2 hlu
            have e1 : (n + 1) * (2 * k) = n * (2 * k) + 2 * k := Nat.succ_mul _ _
            have e2 : (2 * n) * k = n * (2 * k) := by rw [Nat.mul_comm 2 n, Nat.mul_assoc]
            have e3 : (2 * n + 1) * k = n * (2 * k) + k := by rw [Nat.succ_mul, e2]
            have e4 : (2 * n + 1 + 1) * k = n * (2 * k) + 2 * k := by rw [Nat.succ_mul, e3]; omega
            have e5 : (n + 1 + 1) * (2 * k) = n * (2 * k) + 2 * k + 2 * k := by rw [Nat.succ_mul, e1]
            have hA : SR c u (n * (2 * k)) (min (n * (2 * k) + k) z.length) := by
              have := hs2 (2 * n) (Nat.le_refl _); rwa [e2, e3] at this
            have hB' : SR c u (n * (2 * k) + k) (min (n * (2 * k) + 2 * k) z.length) := by
              have := hs2 (2 * n + 1) (by omega); rwa [e3, e4] at this
            have lowq : ∀ q, q < n → (q + 1) * (2 * k) ≤ n * (2 * k) := fun q hq => Nat.mul_le_mul_right _ hq
            have higq : ∀ q, 2 * n + 1 + 1 ≤ q → n * (2 * k) + 2 * k ≤ q * k := fun q hq => by rw [← e4]; exact Nat.mul_le_mul_right _ hq
            have farq : ∀ q, n + 1 ≤ q → n * (2 * k) + 2 * k ≤ q * (2 * k) := fun q hq => by rw [← e1]; exact Nat.mul_le_mul_right _ hq
            (simp -implicitDefEqProofs only [go_sem, iA, so]; repeat (refine GO ?_; simp -implicitDefEqProofs only [go_sem, iA, so]))
            refine VIF.split (fun h' => ?_) (fun h' => ?_)
            · simp only [decide_eq_true_eq, e1] at h'
              have w3 := wrap_add (show n * (2 * k) + k < 4611686018427387904 by omega)
              (simp -implicitDefEqProofs only [go_sem, w3, w2, e1]; repeat (refine GO ?_; simp -implicitDefEqProofs only [go_sem, w3, w2, e1]))
              refine .obj 0 (so u) _ _ (s71L g c hc B hg u hlu (fun x hx => hB x (hwu.perm.subset hx)) (n * (2 * k)) (n * (2 * k) + k) (n * (2 * k) + 2 * k) (by omega) (by omega) (by omega) (by omega)
                (fun i j k1 k2 k3 => hA i j k1 k2 (by omega)) (fun i j k1 k2 k3 => hB' i j k1 k2 (by omega))) rfl (so_leafy u) rfl rfl fun r o' hr _ _ => ?_
              obtain ⟨rfl, u', rfl, hw', hs'⟩ := hr
              have w4 : IntKind.i64.wrap (((n * (2 * k) + 2 * k : Nat) : Int) + ((2 * k : Nat) : Int)) = ((n * (2 * k) + 2 * k + 2 * k : Nat) : Int) := by
                generalize n * (2 * k) = A at *
                rw [wrap_i64] <;> omega
              (simp -implicitDefEqProofs only [go_sem, w2, w4]; repeat (refine GO ?_; simp -implicitDefEqProofs only [go_sem, w2, w4]))
              refine BACK.mk ⟨(n + 1, u'), by show (n + 1) * (2 * k) ≤ z.length; omega, hwu.trans (hw'.wide (by omega) (by omega)), fun q hq => ?_, fun q hq => ?_⟩ [(0, some 0)] rfl rfl ?_ ?_
              · show SR c u' (q * (2 * k)) ((q + 1) * (2 * k))
                by_cases e : q = n
                · subst e; rw [e1]; exact hs'
                · have hqn : q < n := by have : q < n + 1 := hq; omega
                  have := lowq q hqn
                  intro i j k1 k2 k3
                  rw [hw'.out i (.inl (by omega)), hw'.out j (.inl (by omega))]
                  exact hs1 q hqn i j k1 k2 k3
              · show SR c u' (q * k) (min ((q + 1) * k) z.length)
                have hq' : 2 * (n + 1) ≤ q := hq
                have := higq q (by omega)
                intro i j k1 k2 k3
                rw [hw'.out i (.inr (by omega)), hw'.out j (.inr (by omega))]
                exact hs2 q (by omega) i j k1 k2 k3
              · show z.length - (n + 1) < z.length - n
                have : n * 1 ≤ n * (2 * k) := Nat.mul_le_mul_left _ (by omega)
                omega
              · (simp -implicitDefEqProofs only [go_sem, iA, so]; repeat (refine GO ?_; simp -implicitDefEqProofs only [go_sem, iA, so]))
                refine ⟨⟨by rw [e1], by rw [e5]⟩, .same (so u') _ _ (so_leafy u') rfl⟩
            · simp only [decide_eq_false_iff_not, e1] at h'
              have w3 := wrap_add (show n * (2 * k) + k < 4611686018427387904 by omega)
              have w5 := wrap_dbl' (show k < 2305843009213693952 by omega)
              (simp -implicitDefEqProofs only [go_sem, w3, w5]; repeat (refine GO ?_; simp -implicitDefEqProofs only [go_sem, w3, w5]))
              have fin : ∀ u', Win u u' (n * (2 * k)) z.length → SR c u' (n * (2 * k)) z.length → BK c u' (2 * k) := by
                intro u' hw' hs' q i j k1 k2 k3
                have hl' : u'.length = z.length := hw'.len.trans hlu
                by_cases e : q < n
                · have := lowq q e
                  rw [hw'.out i (.inl (by omega)), hw'.out j (.inl (by omega))]
                  exact hs1 q e i j k1 k2 (by omega)
                · by_cases e' : q = n
                  · subst e'; exact hs' i j k1 k2 (by omega)
                  · have := farq q (by omega)
                    omega
              refine VIF.split (fun h2 => ?_) (fun h2 => ?_)
              · simp only [decide_eq_true_eq] at h2
                (simp -implicitDefEqProofs only [go_sem, w3, w5]; repeat (refine GO ?_; simp -implicitDefEqProofs only [go_sem, w3, w5]))
                refine .obj 0 (so u) _ _ (s71L g c hc B hg u hlu (fun x hx => hB x (hwu.perm.subset hx)) (n * (2 * k)) (n * (2 * k) + k) z.length (by omega) (by omega) (by omega) (by omega)
                  (fun i j k1 k2 k3 => hA i j k1 k2 (by omega)) (fun i j k1 k2 k3 => hB' i j k1 k2 (by omega))) rfl (so_leafy u) rfl rfl fun r o' hr _ _ => ?_
                obtain ⟨rfl, u', rfl, hw', hs'⟩ := hr
                (simp -implicitDefEqProofs only [go_sem, w5]; repeat (refine GO ?_; simp -implicitDefEqProofs only [go_sem, w5]))
                refine BACK.mk ⟨(2 * k, u'), by show 20 ≤ 2 * k; omega, .inl (by show 2 * k < 2 * z.length; omega), hwu.trans (hw'.wide (by omega) (by omega)), fin u' hw' hs'⟩ [(0, some 0)] rfl rfl (by show 2 * z.length - 2 * k < 2 * z.length - k; omega) ?_
                (simp -implicitDefEqProofs only [go_sem, iA, so]; repeat (refine GO ?_; simp -implicitDefEqProofs only [go_sem, iA, so]))
                exact .same (so u') _ _ (so_leafy u') rfl
              · simp only [decide_eq_false_iff_not] at h2
                (simp -implicitDefEqProofs only [go_sem, w5]; repeat (refine GO ?_; simp -implicitDefEqProofs only [go_sem, w5]))
                refine BACK.mk ⟨(2 * k, u), by show 20 ≤ 2 * k; omega, .inl (by show 2 * k < 2 * z.length; omega), hwu, fin u (.refl _ _ _) fun i j k1 k2 k3 => hA i j k1 k2 (by omega)⟩ [(0, some 0)] rfl rfl (by show 2 * z.length - 2 * k < 2 * z.length - k; omega) ?_
                (simp -implicitDefEqProofs only [go_sem, iA, so]; repeat (refine GO ?_; simp -implicitDefEqProofs only [go_sem, iA, so]))
                exact .same (so u) _ _ (so_leafy u) rfl
        · simp at h
          (simp -implicitDefEqProofs only [go_sem]; repeat (refine GO ?_; simp -implicitDefEqProofs only [go_sem]))
          refine FIN_O (o' := so x) rfl ?_ (so_leafy x) ?_
          · rfl
          · refine ⟨so x, ⟨⟨rfl, x, rfl, hwx, ?_⟩, rfl⟩, so_leafy x, rfl⟩
            have := hbx 0
            rw [hlx] at this
            simp at this
            rwa [Nat.min_eq_right h] at this
end Yt
