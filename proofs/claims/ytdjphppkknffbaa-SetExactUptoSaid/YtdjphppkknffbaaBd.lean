/- Contracts of the program's functions over abstract values and states, plain facts on which these lean, and the framework of these values over the model: The types of the program, as the evaluator knows them. Orders. Values and rows: how they compare. Values and rows: which may be. A stable sort, in place: what it leaves. A rotation, in place. An insertion sort, in place. Merging in place: the plain part. Merging in place: the walk. Sorting stably, in place: the whole. How rows are ordered; the stable sort of items by rows. Items: found, weighed. Copies; sums that are kept in two parts. What the laws leave aside; rows that are equal. Rows that are equal; sets that may be. Sums by rows: the plain part of what is made of items. Group by group: the plain part. The conditions stand in each theorem. -/
import Derived.Test.YtdjphppkknffbaaBb
import Derived.Eval
import Derived.Test.YtdjphppkknffbaaChecked
set_option linter.all false
namespace Yt
open Go Go.Vc Go.Proofs

def T : Nat → TI
  | 3 => ⟨.int .i64, 1, 8, [.pr (.int .i64 0)]⟩
  | 4 => ⟨.bool, 1, 1, [.pr (.bool false)]⟩
  | 9 => ⟨.str, 1, 16, [.pr (.string ⟨#[]⟩)]⟩
  | 22 => ⟨.slice 41, 1, 24, [.nl]⟩
  | 23 => ⟨.slice 57, 1, 24, [.nl]⟩
  | 27 => ⟨.int .i64, 1, 8, [.pr (.int .i64 0)]⟩
  | 39 => ⟨.slice 22, 1, 24, [.nl]⟩
  | 41 => ⟨.struct [(0, 1), (1, 1)], 2, 32, [.nl, .pr (.int .i64 0)]⟩
  | 47 => ⟨.func, 1, 8, [.pr .nilFunc]⟩
  | 50 => ⟨.func, 1, 8, [.pr .nilFunc]⟩
  | 52 => ⟨.struct [(0, 1), (1, 1)], 2, 16, [.pr (.int .i64 0), .pr (.int .i64 0)]⟩
  | 57 => ⟨.struct [(0, 1), (1, 1), (2, 1)], 3, 32, [.pr (.int .i64 0), .pr (.int .i64 0), .pr (.string ⟨#[]⟩)]⟩
  | 59 => ⟨.int .u64, 1, 8, [.pr (.int .u64 0)]⟩
  | 66 => ⟨.func, 1, 8, [.pr .nilFunc]⟩
  | 69 => ⟨.func, 1, 8, [.pr .nilFunc]⟩
  | 82 => ⟨.slice 3, 1, 24, [.nl]⟩
  | _ => ⟨.other, 0, 0, []⟩

@[go_sem] theorem T_3 : T 3 = ⟨.int .i64, 1, 8, [.pr (.int .i64 0)]⟩ := rfl
@[go_sem] theorem T_4 : T 4 = ⟨.bool, 1, 1, [.pr (.bool false)]⟩ := rfl
@[go_sem] theorem T_9 : T 9 = ⟨.str, 1, 16, [.pr (.string ⟨#[]⟩)]⟩ := rfl
@[go_sem] theorem T_22 : T 22 = ⟨.slice 41, 1, 24, [.nl]⟩ := rfl
@[go_sem] theorem T_23 : T 23 = ⟨.slice 57, 1, 24, [.nl]⟩ := rfl
@[go_sem] theorem T_27 : T 27 = ⟨.int .i64, 1, 8, [.pr (.int .i64 0)]⟩ := rfl
@[go_sem] theorem T_39 : T 39 = ⟨.slice 22, 1, 24, [.nl]⟩ := rfl
@[go_sem] theorem T_41 : T 41 = ⟨.struct [(0, 1), (1, 1)], 2, 32, [.nl, .pr (.int .i64 0)]⟩ := rfl
@[go_sem] theorem T_47 : T 47 = ⟨.func, 1, 8, [.pr .nilFunc]⟩ := rfl
@[go_sem] theorem T_50 : T 50 = ⟨.func, 1, 8, [.pr .nilFunc]⟩ := rfl
@[go_sem] theorem T_52 : T 52 = ⟨.struct [(0, 1), (1, 1)], 2, 16, [.pr (.int .i64 0), .pr (.int .i64 0)]⟩ := rfl
@[go_sem] theorem T_57 : T 57 = ⟨.struct [(0, 1), (1, 1), (2, 1)], 3, 32, [.pr (.int .i64 0), .pr (.int .i64 0), .pr (.string ⟨#[]⟩)]⟩ := rfl
@[go_sem] theorem T_59 : T 59 = ⟨.int .u64, 1, 8, [.pr (.int .u64 0)]⟩ := rfl
@[go_sem] theorem T_66 : T 66 = ⟨.func, 1, 8, [.pr .nilFunc]⟩ := rfl
@[go_sem] theorem T_69 : T 69 = ⟨.func, 1, 8, [.pr .nilFunc]⟩ := rfl
@[go_sem] theorem T_82 : T 82 = ⟨.slice 3, 1, 24, [.nl]⟩ := rfl
theorem tabOk : TabOk Try.prog T where
  mixed := Try.checked.mixed
  kinds := by
    intro t
    unfold T
    split
    · exact Try.underlying3
    · exact Try.underlying4
    · exact Try.underlying9
    · exact Try.underlying22
    · exact Try.underlying23
    · exact Try.underlying27
    · exact Try.underlying39
    · exact ⟨_, Try.underlying41, by kernel_rfl, all_info (by kernel_rfl)⟩
    · exact ⟨_, _, _, Try.underlying47⟩
    · exact ⟨_, _, _, Try.underlying50⟩
    · exact ⟨_, Try.underlying52, by kernel_rfl, all_info (by kernel_rfl)⟩
    · exact ⟨_, Try.underlying57, by kernel_rfl, all_info (by kernel_rfl)⟩
    · exact Try.underlying59
    · exact ⟨_, _, _, Try.underlying66⟩
    · exact ⟨_, _, _, Try.underlying69⟩
    · exact Try.underlying82
    · trivial
  infos := by
    intro t ht
    unfold T at ht ⊢
    split at ht
    · exact ⟨Try.t3, _, mkInfo (show Try.prog.info? 3 = some Try.t3 by kernel_rfl) rfl rfl rfl (by kernel_rfl) rfl (by kernel_rfl) (by decide) (by decide) (by decide)⟩
    · exact ⟨Try.t4, _, mkInfo (show Try.prog.info? 4 = some Try.t4 by kernel_rfl) rfl rfl rfl (by kernel_rfl) rfl (by kernel_rfl) (by decide) (by decide) (by decide)⟩
    · exact ⟨Try.t9, _, mkInfo (show Try.prog.info? 9 = some Try.t9 by kernel_rfl) rfl rfl rfl (by kernel_rfl) rfl (by kernel_rfl) (by decide) (by decide) (by decide)⟩
    · exact ⟨Try.t22, _, mkInfo (show Try.prog.info? 22 = some Try.t22 by kernel_rfl) rfl rfl rfl (by kernel_rfl) rfl (by kernel_rfl) (by decide) (by decide) (by decide)⟩
    · exact ⟨Try.t23, _, mkInfo (show Try.prog.info? 23 = some Try.t23 by kernel_rfl) rfl rfl rfl (by kernel_rfl) rfl (by kernel_rfl) (by decide) (by decide) (by decide)⟩
    · exact ⟨Try.t27, _, mkInfo (show Try.prog.info? 27 = some Try.t27 by kernel_rfl) rfl rfl rfl (by kernel_rfl) rfl (by kernel_rfl) (by decide) (by decide) (by decide)⟩
    · exact ⟨Try.t39, _, mkInfo (show Try.prog.info? 39 = some Try.t39 by kernel_rfl) rfl rfl rfl (by kernel_rfl) rfl (by kernel_rfl) (by decide) (by decide) (by decide)⟩
    · exact ⟨Try.t41, _, mkInfo (show Try.prog.info? 41 = some Try.t41 by kernel_rfl) rfl rfl rfl (by kernel_rfl) rfl (by kernel_rfl) (by decide) (by decide) (by decide)⟩
    · exact ⟨Try.t47, _, mkInfo (show Try.prog.info? 47 = some Try.t47 by kernel_rfl) rfl rfl rfl (by kernel_rfl) rfl (by kernel_rfl) (by decide) (by decide) (by decide)⟩
    · exact ⟨Try.t50, _, mkInfo (show Try.prog.info? 50 = some Try.t50 by kernel_rfl) rfl rfl rfl (by kernel_rfl) rfl (by kernel_rfl) (by decide) (by decide) (by decide)⟩
    · exact ⟨Try.t52, _, mkInfo (show Try.prog.info? 52 = some Try.t52 by kernel_rfl) rfl rfl rfl (by kernel_rfl) rfl (by kernel_rfl) (by decide) (by decide) (by decide)⟩
    · exact ⟨Try.t57, _, mkInfo (show Try.prog.info? 57 = some Try.t57 by kernel_rfl) rfl rfl rfl (by kernel_rfl) rfl (by kernel_rfl) (by decide) (by decide) (by decide)⟩
    · exact ⟨Try.t59, _, mkInfo (show Try.prog.info? 59 = some Try.t59 by kernel_rfl) rfl rfl rfl (by kernel_rfl) rfl (by kernel_rfl) (by decide) (by decide) (by decide)⟩
    · exact ⟨Try.t66, _, mkInfo (show Try.prog.info? 66 = some Try.t66 by kernel_rfl) rfl rfl rfl (by kernel_rfl) rfl (by kernel_rfl) (by decide) (by decide) (by decide)⟩
    · exact ⟨Try.t69, _, mkInfo (show Try.prog.info? 69 = some Try.t69 by kernel_rfl) rfl rfl rfl (by kernel_rfl) rfl (by kernel_rfl) (by decide) (by decide) (by decide)⟩
    · exact ⟨Try.t82, _, mkInfo (show Try.prog.info? 82 = some Try.t82 by kernel_rfl) rfl rfl rfl (by kernel_rfl) rfl (by kernel_rfl) (by decide) (by decide) (by decide)⟩
    · cases ht

theorem elems : ∀ t e, (T t).k = .slice e → (T e).k.known = true := by
  intro t e h
  unfold T at h
  split at h <;> cases h <;> rfl

end Yt
namespace Yt
open Go Go.Vc
def ord3 : Ords
  | 1 => some (.lin [(0, none, false, false), (1, none, false, false), (2, none, false, false), (3, none, false, false), (4, none, true, false), (5, none, false, false), (6, none, false, false), (7, none, false, false)])
  | 6 => some (.lin [(0, none, false, false), (1, none, false, false), (2, none, false, false), (3, none, true, false), (4, none, false, false), (5, none, false, false), (6, none, false, false), (7, none, false, false), (8, none, false, false), (9, none, true, false), (10, none, false, false), (11, none, false, false), (12, none, false, false), (13, none, false, false), (14, none, false, false), (15, none, false, false), (16, none, false, false), (17, none, false, false), (18, none, true, false), (19, none, false, false), (20, none, false, false), (21, none, false, false), (22, none, false, false), (23, none, false, false), (24, none, false, false)])
  | 12 => some (.lin [(0, none, false, false), (1, none, false, false), (2, none, false, false), (3, none, false, false), (4, none, false, false), (5, none, true, false), (6, none, false, false), (7, none, false, false), (8, none, true, false), (9, none, false, false), (10, none, false, false), (11, none, false, false), (12, none, false, false), (13, none, false, false)])
  | 14 => some (.lin [(0, none, false, false), (1, none, false, false), (2, none, true, false), (3, none, false, false), (4, none, false, false), (5, none, false, false)])
  | 15 => some (.lin [(0, none, false, false), (1, none, false, false), (2, none, true, false), (3, none, false, false), (4, none, false, false), (5, none, false, false), (6, none, false, false)])
  | 18 => some (.lin [(0, none, false, false), (1, none, false, false), (2, none, false, false), (3, none, true, false), (4, none, false, false), (5, none, false, false), (6, none, false, false), (7, none, false, false), (8, none, false, false)])
  | 21 => some (.lin [(0, none, false, false), (1, none, false, false), (2, none, true, false), (3, none, false, false), (4, none, false, false), (5, none, false, false), (6, none, false, false)])
  | 23 => some (.lin [(0, none, false, false), (1, none, false, false), (2, none, true, false), (3, none, false, false), (4, none, false, false), (5, none, false, false), (6, none, false, false), (7, none, false, false), (8, none, false, false)])
  | 27 => some (.lin [(0, none, false, false), (1, none, false, false), (2, none, false, false), (3, none, true, false), (4, none, false, false), (5, none, false, false), (6, none, false, false), (7, none, false, false), (8, none, true, false), (9, none, false, false), (10, none, false, false), (11, none, false, false)])
  | _ => none
@[go_sem] theorem ord3_0 : ord3 0 = none := rfl
@[go_sem] theorem ord3_1 : ord3 1 = some (.lin [(0, none, false, false), (1, none, false, false), (2, none, false, false), (3, none, false, false), (4, none, true, false), (5, none, false, false), (6, none, false, false), (7, none, false, false)]) := rfl
@[go_sem] theorem ord3_2 : ord3 2 = none := rfl
@[go_sem] theorem ord3_3 : ord3 3 = none := rfl
@[go_sem] theorem ord3_4 : ord3 4 = none := rfl
@[go_sem] theorem ord3_5 : ord3 5 = none := rfl
@[go_sem] theorem ord3_6 : ord3 6 = some (.lin [(0, none, false, false), (1, none, false, false), (2, none, false, false), (3, none, true, false), (4, none, false, false), (5, none, false, false), (6, none, false, false), (7, none, false, false), (8, none, false, false), (9, none, true, false), (10, none, false, false), (11, none, false, false), (12, none, false, false), (13, none, false, false), (14, none, false, false), (15, none, false, false), (16, none, false, false), (17, none, false, false), (18, none, true, false), (19, none, false, false), (20, none, false, false), (21, none, false, false), (22, none, false, false), (23, none, false, false), (24, none, false, false)]) := rfl
@[go_sem] theorem ord3_7 : ord3 7 = none := rfl
@[go_sem] theorem ord3_8 : ord3 8 = none := rfl
@[go_sem] theorem ord3_9 : ord3 9 = none := rfl
@[go_sem] theorem ord3_10 : ord3 10 = none := rfl
@[go_sem] theorem ord3_11 : ord3 11 = none := rfl
@[go_sem] theorem ord3_12 : ord3 12 = some (.lin [(0, none, false, false), (1, none, false, false), (2, none, false, false), (3, none, false, false), (4, none, false, false), (5, none, true, false), (6, none, false, false), (7, none, false, false), (8, none, true, false), (9, none, false, false), (10, none, false, false), (11, none, false, false), (12, none, false, false), (13, none, false, false)]) := rfl
@[go_sem] theorem ord3_13 : ord3 13 = none := rfl
@[go_sem] theorem ord3_14 : ord3 14 = some (.lin [(0, none, false, false), (1, none, false, false), (2, none, true, false), (3, none, false, false), (4, none, false, false), (5, none, false, false)]) := rfl
@[go_sem] theorem ord3_15 : ord3 15 = some (.lin [(0, none, false, false), (1, none, false, false), (2, none, true, false), (3, none, false, false), (4, none, false, false), (5, none, false, false), (6, none, false, false)]) := rfl
@[go_sem] theorem ord3_16 : ord3 16 = none := rfl
@[go_sem] theorem ord3_17 : ord3 17 = none := rfl
@[go_sem] theorem ord3_18 : ord3 18 = some (.lin [(0, none, false, false), (1, none, false, false), (2, none, false, false), (3, none, true, false), (4, none, false, false), (5, none, false, false), (6, none, false, false), (7, none, false, false), (8, none, false, false)]) := rfl
@[go_sem] theorem ord3_19 : ord3 19 = none := rfl
@[go_sem] theorem ord3_20 : ord3 20 = none := rfl
@[go_sem] theorem ord3_21 : ord3 21 = some (.lin [(0, none, false, false), (1, none, false, false), (2, none, true, false), (3, none, false, false), (4, none, false, false), (5, none, false, false), (6, none, false, false)]) := rfl
@[go_sem] theorem ord3_22 : ord3 22 = none := rfl
@[go_sem] theorem ord3_23 : ord3 23 = some (.lin [(0, none, false, false), (1, none, false, false), (2, none, true, false), (3, none, false, false), (4, none, false, false), (5, none, false, false), (6, none, false, false), (7, none, false, false), (8, none, false, false)]) := rfl
@[go_sem] theorem ord3_24 : ord3 24 = none := rfl
@[go_sem] theorem ord3_25 : ord3 25 = none := rfl
@[go_sem] theorem ord3_26 : ord3 26 = none := rfl
@[go_sem] theorem ord3_27 : ord3 27 = some (.lin [(0, none, false, false), (1, none, false, false), (2, none, false, false), (3, none, true, false), (4, none, false, false), (5, none, false, false), (6, none, false, false), (7, none, false, false), (8, none, true, false), (9, none, false, false), (10, none, false, false), (11, none, false, false)]) := rfl
def ord4 : Ords
  | _ => none
@[go_sem] theorem ord4_0 : ord4 0 = none := rfl
@[go_sem] theorem ord4_1 : ord4 1 = none := rfl
@[go_sem] theorem ord4_2 : ord4 2 = none := rfl
@[go_sem] theorem ord4_4 : ord4 4 = none := rfl
@[go_sem] theorem ord4_5 : ord4 5 = none := rfl
@[go_sem] theorem ord4_6 : ord4 6 = none := rfl
@[go_sem] theorem ord4_7 : ord4 7 = none := rfl
@[go_sem] theorem ord4_9 : ord4 9 = none := rfl
@[go_sem] theorem ord4_10 : ord4 10 = none := rfl
@[go_sem] theorem ord4_8 : ord4 8 = none := rfl
@[go_sem] theorem ord4_3 : ord4 3 = none := rfl
@[go_sem] theorem ord4_11 : ord4 11 = none := rfl
def ord5 : Ords
  | 1 => some (.lin [(0, none, false, false), (1, none, false, false), (2, none, false, false), (3, none, true, false), (4, none, false, false), (5, none, false, false), (6, none, false, false), (7, none, false, false)])
  | _ => none
@[go_sem] theorem ord5_0 : ord5 0 = none := rfl
@[go_sem] theorem ord5_1 : ord5 1 = some (.lin [(0, none, false, false), (1, none, false, false), (2, none, false, false), (3, none, true, false), (4, none, false, false), (5, none, false, false), (6, none, false, false), (7, none, false, false)]) := rfl
def ord6 : Ords
  | 5 => some (.lin [(0, some false, false, false), (1, some false, false, false), (2, some false, false, false), (3, some false, false, false), (4, some false, false, false), (5, some false, false, false), (7, some false, false, false), (8, some false, false, false), (9, some true, false, false), (10, some false, false, false), (11, some true, false, false), (6, none, false, false), (12, some false, false, false), (13, none, false, false), (14, none, false, false), (15, some false, false, false)])
  | _ => none
@[go_sem] theorem ord6_0 : ord6 0 = none := rfl
@[go_sem] theorem ord6_1 : ord6 1 = none := rfl
@[go_sem] theorem ord6_2 : ord6 2 = none := rfl
@[go_sem] theorem ord6_3 : ord6 3 = none := rfl
@[go_sem] theorem ord6_5 : ord6 5 = some (.lin [(0, some false, false, false), (1, some false, false, false), (2, some false, false, false), (3, some false, false, false), (4, some false, false, false), (5, some false, false, false), (7, some false, false, false), (8, some false, false, false), (9, some true, false, false), (10, some false, false, false), (11, some true, false, false), (6, none, false, false), (12, some false, false, false), (13, none, false, false), (14, none, false, false), (15, some false, false, false)]) := rfl
@[go_sem] theorem ord6_4 : ord6 4 = none := rfl
@[go_sem] theorem ord6_6 : ord6 6 = none := rfl
def ord7 : Ords
  | 8 => some (.lin [(0, some false, false, false), (1, some false, false, false), (2, some false, false, false), (3, some false, false, false), (4, some false, true, false), (5, some false, false, false), (6, some false, false, false), (7, some false, false, false), (8, some false, false, false), (9, some false, false, false), (10, some false, false, false), (11, some false, false, false), (12, some false, false, false), (13, some false, false, false), (14, none, false, false), (15, some false, false, false), (16, some false, false, false)])
  | _ => none
@[go_sem] theorem ord7_0 : ord7 0 = none := rfl
@[go_sem] theorem ord7_1 : ord7 1 = none := rfl
@[go_sem] theorem ord7_2 : ord7 2 = none := rfl
@[go_sem] theorem ord7_3 : ord7 3 = none := rfl
@[go_sem] theorem ord7_4 : ord7 4 = none := rfl
@[go_sem] theorem ord7_5 : ord7 5 = none := rfl
@[go_sem] theorem ord7_6 : ord7 6 = none := rfl
@[go_sem] theorem ord7_7 : ord7 7 = none := rfl
@[go_sem] theorem ord7_8 : ord7 8 = some (.lin [(0, some false, false, false), (1, some false, false, false), (2, some false, false, false), (3, some false, false, false), (4, some false, true, false), (5, some false, false, false), (6, some false, false, false), (7, some false, false, false), (8, some false, false, false), (9, some false, false, false), (10, some false, false, false), (11, some false, false, false), (12, some false, false, false), (13, some false, false, false), (14, none, false, false), (15, some false, false, false), (16, some false, false, false)]) := rfl
@[go_sem] theorem ord7_9 : ord7 9 = none := rfl
@[go_sem] theorem ord7_10 : ord7 10 = none := rfl
@[go_sem] theorem ord7_11 : ord7 11 = none := rfl
@[go_sem] theorem ord7_12 : ord7 12 = none := rfl
@[go_sem] theorem ord7_13 : ord7 13 = none := rfl
@[go_sem] theorem ord7_14 : ord7 14 = none := rfl
@[go_sem] theorem ord7_15 : ord7 15 = none := rfl
@[go_sem] theorem ord7_16 : ord7 16 = none := rfl
@[go_sem] theorem ord7_17 : ord7 17 = none := rfl
def ord8 : Ords
  | 4 => some (.lin [(0, none, false, false), (1, none, false, false), (2, none, false, false), (3, none, false, false), (4, none, false, false), (5, none, false, false), (6, none, false, false), (7, none, true, false), (8, none, false, false), (9, none, false, false), (10, none, false, false), (11, none, false, false), (12, none, false, false), (13, none, false, false), (14, none, false, false), (15, none, false, false)])
  | 13 => some (.lin [(0, some false, false, false), (1, some false, false, false), (2, some false, false, false), (3, some false, false, false), (4, some false, true, false), (5, some false, false, false), (6, some false, false, false), (7, some false, false, false), (8, some false, false, false), (9, some false, false, false), (10, some false, false, false), (11, some false, false, false), (12, some false, false, false), (13, some false, false, false), (14, some false, false, false), (15, none, false, false), (16, some false, false, false), (17, some false, false, false)])
  | 14 => some (.lin [(0, some false, false, false), (1, some false, false, false), (2, some false, false, false), (3, some false, false, false), (4, some false, false, false), (5, some false, false, false), (6, some false, false, false), (7, some false, false, false), (8, some false, false, false), (9, some false, false, false), (10, some false, false, false), (11, some false, false, false), (12, some false, false, false), (13, some false, false, false), (14, some false, false, false), (15, some false, false, false), (16, some false, false, false), (17, some false, false, false)])
  | _ => none
@[go_sem] theorem ord8_0 : ord8 0 = none := rfl
@[go_sem] theorem ord8_1 : ord8 1 = none := rfl
@[go_sem] theorem ord8_2 : ord8 2 = none := rfl
@[go_sem] theorem ord8_4 : ord8 4 = some (.lin [(0, none, false, false), (1, none, false, false), (2, none, false, false), (3, none, false, false), (4, none, false, false), (5, none, false, false), (6, none, false, false), (7, none, true, false), (8, none, false, false), (9, none, false, false), (10, none, false, false), (11, none, false, false), (12, none, false, false), (13, none, false, false), (14, none, false, false), (15, none, false, false)]) := rfl
@[go_sem] theorem ord8_5 : ord8 5 = none := rfl
@[go_sem] theorem ord8_3 : ord8 3 = none := rfl
@[go_sem] theorem ord8_6 : ord8 6 = none := rfl
@[go_sem] theorem ord8_7 : ord8 7 = none := rfl
@[go_sem] theorem ord8_8 : ord8 8 = none := rfl
@[go_sem] theorem ord8_9 : ord8 9 = none := rfl
@[go_sem] theorem ord8_10 : ord8 10 = none := rfl
@[go_sem] theorem ord8_11 : ord8 11 = none := rfl
@[go_sem] theorem ord8_12 : ord8 12 = none := rfl
@[go_sem] theorem ord8_13 : ord8 13 = some (.lin [(0, some false, false, false), (1, some false, false, false), (2, some false, false, false), (3, some false, false, false), (4, some false, true, false), (5, some false, false, false), (6, some false, false, false), (7, some false, false, false), (8, some false, false, false), (9, some false, false, false), (10, some false, false, false), (11, some false, false, false), (12, some false, false, false), (13, some false, false, false), (14, some false, false, false), (15, none, false, false), (16, some false, false, false), (17, some false, false, false)]) := rfl
@[go_sem] theorem ord8_14 : ord8 14 = some (.lin [(0, some false, false, false), (1, some false, false, false), (2, some false, false, false), (3, some false, false, false), (4, some false, false, false), (5, some false, false, false), (6, some false, false, false), (7, some false, false, false), (8, some false, false, false), (9, some false, false, false), (10, some false, false, false), (11, some false, false, false), (12, some false, false, false), (13, some false, false, false), (14, some false, false, false), (15, some false, false, false), (16, some false, false, false), (17, some false, false, false)]) := rfl
@[go_sem] theorem ord8_15 : ord8 15 = none := rfl
@[go_sem] theorem ord8_16 : ord8 16 = none := rfl
@[go_sem] theorem ord8_17 : ord8 17 = none := rfl
@[go_sem] theorem ord8_18 : ord8 18 = none := rfl
@[go_sem] theorem ord8_19 : ord8 19 = none := rfl
@[go_sem] theorem ord8_20 : ord8 20 = none := rfl
@[go_sem] theorem ord8_21 : ord8 21 = none := rfl
@[go_sem] theorem ord8_22 : ord8 22 = none := rfl
@[go_sem] theorem ord8_23 : ord8 23 = none := rfl
@[go_sem] theorem ord8_24 : ord8 24 = none := rfl
@[go_sem] theorem ord8_25 : ord8 25 = none := rfl
@[go_sem] theorem ord8_26 : ord8 26 = none := rfl
@[go_sem] theorem ord8_27 : ord8 27 = none := rfl
def ord9 : Ords
  | 6 => some (.lin [(0, some false, false, false), (1, some false, false, false), (2, some false, false, false), (3, some false, false, false), (4, some false, false, false), (5, some false, false, false), (6, some false, false, false), (7, some false, false, false), (8, some false, false, false), (9, some false, false, false), (10, some false, false, false), (11, some false, true, false), (12, some false, false, false), (13, some false, false, false), (14, some false, false, false), (15, some false, false, false), (16, some false, false, false), (17, some false, false, false), (18, some false, false, false), (19, some false, false, false), (20, some false, false, false), (21, some false, false, false), (22, none, false, false), (23, some false, false, false), (24, some false, false, false)])
  | _ => none
@[go_sem] theorem ord9_0 : ord9 0 = none := rfl
@[go_sem] theorem ord9_1 : ord9 1 = none := rfl
@[go_sem] theorem ord9_2 : ord9 2 = none := rfl
@[go_sem] theorem ord9_3 : ord9 3 = none := rfl
@[go_sem] theorem ord9_4 : ord9 4 = none := rfl
@[go_sem] theorem ord9_6 : ord9 6 = some (.lin [(0, some false, false, false), (1, some false, false, false), (2, some false, false, false), (3, some false, false, false), (4, some false, false, false), (5, some false, false, false), (6, some false, false, false), (7, some false, false, false), (8, some false, false, false), (9, some false, false, false), (10, some false, false, false), (11, some false, true, false), (12, some false, false, false), (13, some false, false, false), (14, some false, false, false), (15, some false, false, false), (16, some false, false, false), (17, some false, false, false), (18, some false, false, false), (19, some false, false, false), (20, some false, false, false), (21, some false, false, false), (22, none, false, false), (23, some false, false, false), (24, some false, false, false)]) := rfl
@[go_sem] theorem ord9_7 : ord9 7 = none := rfl
@[go_sem] theorem ord9_5 : ord9 5 = none := rfl
@[go_sem] theorem ord9_8 : ord9 8 = none := rfl
def ord10 : Ords
  | _ => none
@[go_sem] theorem ord10_0 : ord10 0 = none := rfl
@[go_sem] theorem ord10_1 : ord10 1 = none := rfl
@[go_sem] theorem ord10_2 : ord10 2 = none := rfl
@[go_sem] theorem ord10_3 : ord10 3 = none := rfl
@[go_sem] theorem ord10_4 : ord10 4 = none := rfl
def ord11 : Ords
  | _ => none
@[go_sem] theorem ord11_0 : ord11 0 = none := rfl
@[go_sem] theorem ord11_1 : ord11 1 = none := rfl
@[go_sem] theorem ord11_2 : ord11 2 = none := rfl
@[go_sem] theorem ord11_4 : ord11 4 = none := rfl
@[go_sem] theorem ord11_5 : ord11 5 = none := rfl
@[go_sem] theorem ord11_3 : ord11 3 = none := rfl
@[go_sem] theorem ord11_6 : ord11 6 = none := rfl
def ord12 : Ords
  | _ => none
@[go_sem] theorem ord12_0 : ord12 0 = none := rfl
@[go_sem] theorem ord12_1 : ord12 1 = none := rfl
@[go_sem] theorem ord12_2 : ord12 2 = none := rfl
@[go_sem] theorem ord12_3 : ord12 3 = none := rfl
@[go_sem] theorem ord12_4 : ord12 4 = none := rfl
@[go_sem] theorem ord12_5 : ord12 5 = none := rfl
@[go_sem] theorem ord12_6 : ord12 6 = none := rfl
@[go_sem] theorem ord12_7 : ord12 7 = none := rfl
@[go_sem] theorem ord12_8 : ord12 8 = none := rfl
@[go_sem] theorem ord12_9 : ord12 9 = none := rfl
def ord13 : Ords
  | 5 => some (.lin [(0, none, false, false), (1, none, false, false), (2, none, false, false), (3, none, false, false), (4, none, true, false), (5, none, false, false), (6, none, false, false), (7, none, false, false)])
  | 7 => some (.lin [(0, some false, false, false), (1, some false, false, false), (2, some false, false, false), (3, some false, false, false), (4, some false, false, false), (5, some false, false, false), (6, some false, false, false), (7, some false, false, false), (8, some false, false, false), (9, some false, false, false), (10, some false, false, false), (11, some false, false, false), (12, some false, false, false), (13, some false, false, false), (14, some false, false, false)])
  | _ => none
@[go_sem] theorem ord13_0 : ord13 0 = none := rfl
@[go_sem] theorem ord13_1 : ord13 1 = none := rfl
@[go_sem] theorem ord13_2 : ord13 2 = none := rfl
@[go_sem] theorem ord13_3 : ord13 3 = none := rfl
@[go_sem] theorem ord13_4 : ord13 4 = none := rfl
@[go_sem] theorem ord13_5 : ord13 5 = some (.lin [(0, none, false, false), (1, none, false, false), (2, none, false, false), (3, none, false, false), (4, none, true, false), (5, none, false, false), (6, none, false, false), (7, none, false, false)]) := rfl
@[go_sem] theorem ord13_7 : ord13 7 = some (.lin [(0, some false, false, false), (1, some false, false, false), (2, some false, false, false), (3, some false, false, false), (4, some false, false, false), (5, some false, false, false), (6, some false, false, false), (7, some false, false, false), (8, some false, false, false), (9, some false, false, false), (10, some false, false, false), (11, some false, false, false), (12, some false, false, false), (13, some false, false, false), (14, some false, false, false)]) := rfl
@[go_sem] theorem ord13_6 : ord13 6 = none := rfl
@[go_sem] theorem ord13_8 : ord13 8 = none := rfl
def ord14 : Ords
  | _ => none
@[go_sem] theorem ord14_0 : ord14 0 = none := rfl
@[go_sem] theorem ord14_1 : ord14 1 = none := rfl
@[go_sem] theorem ord14_3 : ord14 3 = none := rfl
@[go_sem] theorem ord14_4 : ord14 4 = none := rfl
@[go_sem] theorem ord14_2 : ord14 2 = none := rfl
def ord15 : Ords
  | 4 => some (.lin [(0, some false, false, false), (1, some false, false, false), (2, some false, false, false), (3, some false, false, false), (4, some false, false, false), (5, none, false, false), (6, some false, false, false), (7, some false, true, false), (8, some false, false, false), (9, some false, false, false), (10, some false, false, false), (11, some false, false, false), (12, some false, false, false), (13, some false, false, false), (14, some false, false, false), (15, some false, true, false), (16, some false, false, false), (17, some false, false, false), (18, some false, false, false), (19, some false, false, false), (20, some false, false, false), (21, none, false, false), (22, some false, false, false), (23, some false, false, false), (24, some false, true, false), (25, some false, false, false), (26, some false, false, false), (27, some false, true, false), (28, some false, false, false), (29, some false, false, false), (30, some false, false, false), (31, some false, false, false), (32, some false, false, false), (33, some false, false, false), (34, some false, false, false), (35, some false, false, false), (36, some false, false, false), (37, some false, false, false), (38, some false, false, false), (39, none, false, false), (40, some false, false, false), (41, some false, false, false), (42, some false, false, false)])
  | _ => none
@[go_sem] theorem ord15_0 : ord15 0 = none := rfl
@[go_sem] theorem ord15_1 : ord15 1 = none := rfl
@[go_sem] theorem ord15_2 : ord15 2 = none := rfl
@[go_sem] theorem ord15_4 : ord15 4 = some (.lin [(0, some false, false, false), (1, some false, false, false), (2, some false, false, false), (3, some false, false, false), (4, some false, false, false), (5, none, false, false), (6, some false, false, false), (7, some false, true, false), (8, some false, false, false), (9, some false, false, false), (10, some false, false, false), (11, some false, false, false), (12, some false, false, false), (13, some false, false, false), (14, some false, false, false), (15, some false, true, false), (16, some false, false, false), (17, some false, false, false), (18, some false, false, false), (19, some false, false, false), (20, some false, false, false), (21, none, false, false), (22, some false, false, false), (23, some false, false, false), (24, some false, true, false), (25, some false, false, false), (26, some false, false, false), (27, some false, true, false), (28, some false, false, false), (29, some false, false, false), (30, some false, false, false), (31, some false, false, false), (32, some false, false, false), (33, some false, false, false), (34, some false, false, false), (35, some false, false, false), (36, some false, false, false), (37, some false, false, false), (38, some false, false, false), (39, none, false, false), (40, some false, false, false), (41, some false, false, false), (42, some false, false, false)]) := rfl
@[go_sem] theorem ord15_5 : ord15 5 = none := rfl
@[go_sem] theorem ord15_3 : ord15 3 = none := rfl
@[go_sem] theorem ord15_6 : ord15 6 = none := rfl
def ord16 : Ords
  | 1 => some (.lin [(0, none, false, false), (1, none, false, false), (2, none, false, false), (3, none, true, false), (4, none, false, false), (5, none, false, false), (6, none, false, false), (7, none, false, false)])
  | _ => none
@[go_sem] theorem ord16_0 : ord16 0 = none := rfl
@[go_sem] theorem ord16_1 : ord16 1 = some (.lin [(0, none, false, false), (1, none, false, false), (2, none, false, false), (3, none, true, false), (4, none, false, false), (5, none, false, false), (6, none, false, false), (7, none, false, false)]) := rfl
@[go_sem] theorem ord16_2 : ord16 2 = none := rfl
@[go_sem] theorem ord16_3 : ord16 3 = none := rfl
def ord17 : Ords
  | _ => none
@[go_sem] theorem ord17_0 : ord17 0 = none := rfl
@[go_sem] theorem ord17_1 : ord17 1 = none := rfl
@[go_sem] theorem ord17_2 : ord17 2 = none := rfl
@[go_sem] theorem ord17_3 : ord17 3 = none := rfl
@[go_sem] theorem ord17_4 : ord17 4 = none := rfl
@[go_sem] theorem ord17_5 : ord17 5 = none := rfl
@[go_sem] theorem ord17_6 : ord17 6 = none := rfl
@[go_sem] theorem ord17_7 : ord17 7 = none := rfl
@[go_sem] theorem ord17_8 : ord17 8 = none := rfl
@[go_sem] theorem ord17_9 : ord17 9 = none := rfl
@[go_sem] theorem ord17_10 : ord17 10 = none := rfl
def ord18 : Ords
  | 4 => some (.lin [(0, some false, false, false), (1, some false, false, false), (2, none, false, false), (3, some false, false, false), (4, some false, true, false), (5, some false, false, false), (6, some false, false, false), (7, some false, false, false), (8, some false, false, false), (9, some false, true, false), (10, some false, false, false), (11, some false, false, false), (12, none, false, false), (13, some false, false, false), (14, some false, false, false), (15, some false, true, false), (16, some false, false, false), (17, some false, false, false), (18, some false, true, false), (19, some false, false, false), (20, some false, false, false), (21, some false, false, false), (22, some false, false, false), (23, some false, false, false), (24, some false, false, false), (25, some false, false, false), (26, some false, false, false), (27, none, false, false), (28, some false, false, false), (29, some false, false, false), (30, some false, false, false)])
  | _ => none
@[go_sem] theorem ord18_0 : ord18 0 = none := rfl
@[go_sem] theorem ord18_1 : ord18 1 = none := rfl
@[go_sem] theorem ord18_2 : ord18 2 = none := rfl
@[go_sem] theorem ord18_3 : ord18 3 = none := rfl
@[go_sem] theorem ord18_4 : ord18 4 = some (.lin [(0, some false, false, false), (1, some false, false, false), (2, none, false, false), (3, some false, false, false), (4, some false, true, false), (5, some false, false, false), (6, some false, false, false), (7, some false, false, false), (8, some false, false, false), (9, some false, true, false), (10, some false, false, false), (11, some false, false, false), (12, none, false, false), (13, some false, false, false), (14, some false, false, false), (15, some false, true, false), (16, some false, false, false), (17, some false, false, false), (18, some false, true, false), (19, some false, false, false), (20, some false, false, false), (21, some false, false, false), (22, some false, false, false), (23, some false, false, false), (24, some false, false, false), (25, some false, false, false), (26, some false, false, false), (27, none, false, false), (28, some false, false, false), (29, some false, false, false), (30, some false, false, false)]) := rfl
@[go_sem] theorem ord18_5 : ord18 5 = none := rfl
@[go_sem] theorem ord18_6 : ord18 6 = none := rfl
@[go_sem] theorem ord18_7 : ord18 7 = none := rfl
def ord19 : Ords
  | _ => none
@[go_sem] theorem ord19_0 : ord19 0 = none := rfl
@[go_sem] theorem ord19_1 : ord19 1 = none := rfl
@[go_sem] theorem ord19_2 : ord19 2 = none := rfl
def ord20 : Ords
  | _ => none
@[go_sem] theorem ord20_0 : ord20 0 = none := rfl
@[go_sem] theorem ord20_1 : ord20 1 = none := rfl
@[go_sem] theorem ord20_2 : ord20 2 = none := rfl
@[go_sem] theorem ord20_3 : ord20 3 = none := rfl
@[go_sem] theorem ord20_5 : ord20 5 = none := rfl
@[go_sem] theorem ord20_4 : ord20 4 = none := rfl
@[go_sem] theorem ord20_6 : ord20 6 = none := rfl
def ord21 : Ords
  | 2 => some (.lin [(0, none, false, false), (1, none, false, false), (2, none, true, false), (3, none, false, false), (4, none, false, false), (5, none, false, false), (6, none, false, false), (7, none, true, false), (8, none, false, false), (9, none, false, false), (10, none, false, false), (11, none, false, false), (12, none, false, false), (13, none, false, false), (14, none, true, false), (15, none, false, false), (16, none, false, false), (17, none, false, false), (18, none, false, false), (19, none, false, false), (20, none, false, false), (21, none, true, false), (22, none, false, false), (23, none, false, false), (24, none, false, false), (25, none, false, false), (26, none, false, false), (27, none, true, false), (28, none, false, false), (29, none, false, false), (30, none, false, false), (31, none, false, false), (32, none, false, false)])
  | _ => none
@[go_sem] theorem ord21_0 : ord21 0 = none := rfl
@[go_sem] theorem ord21_1 : ord21 1 = none := rfl
@[go_sem] theorem ord21_2 : ord21 2 = some (.lin [(0, none, false, false), (1, none, false, false), (2, none, true, false), (3, none, false, false), (4, none, false, false), (5, none, false, false), (6, none, false, false), (7, none, true, false), (8, none, false, false), (9, none, false, false), (10, none, false, false), (11, none, false, false), (12, none, false, false), (13, none, false, false), (14, none, true, false), (15, none, false, false), (16, none, false, false), (17, none, false, false), (18, none, false, false), (19, none, false, false), (20, none, false, false), (21, none, true, false), (22, none, false, false), (23, none, false, false), (24, none, false, false), (25, none, false, false), (26, none, false, false), (27, none, true, false), (28, none, false, false), (29, none, false, false), (30, none, false, false), (31, none, false, false), (32, none, false, false)]) := rfl
def ord22 : Ords
  | _ => none
@[go_sem] theorem ord22_0 : ord22 0 = none := rfl
@[go_sem] theorem ord22_1 : ord22 1 = none := rfl
@[go_sem] theorem ord22_2 : ord22 2 = none := rfl
@[go_sem] theorem ord22_4 : ord22 4 = none := rfl
@[go_sem] theorem ord22_5 : ord22 5 = none := rfl
@[go_sem] theorem ord22_3 : ord22 3 = none := rfl
@[go_sem] theorem ord22_6 : ord22 6 = none := rfl
def ord23 : Ords
  | _ => none
@[go_sem] theorem ord23_0 : ord23 0 = none := rfl
@[go_sem] theorem ord23_1 : ord23 1 = none := rfl
@[go_sem] theorem ord23_2 : ord23 2 = none := rfl
def ord24 : Ords
  | _ => none
@[go_sem] theorem ord24_0 : ord24 0 = none := rfl
@[go_sem] theorem ord24_1 : ord24 1 = none := rfl
def ord25 : Ords
  | 1 => some (.lin [(0, none, false, false), (1, none, false, false), (2, none, false, false), (3, none, false, false), (4, none, true, false), (5, none, false, false), (6, none, false, false), (7, none, false, false), (8, none, false, false), (9, none, false, false), (10, none, false, false)])
  | _ => none
@[go_sem] theorem ord25_0 : ord25 0 = none := rfl
@[go_sem] theorem ord25_1 : ord25 1 = some (.lin [(0, none, false, false), (1, none, false, false), (2, none, false, false), (3, none, false, false), (4, none, true, false), (5, none, false, false), (6, none, false, false), (7, none, false, false), (8, none, false, false), (9, none, false, false), (10, none, false, false)]) := rfl
def ord26 : Ords
  | _ => none
@[go_sem] theorem ord26_0 : ord26 0 = none := rfl
@[go_sem] theorem ord26_1 : ord26 1 = none := rfl
@[go_sem] theorem ord26_2 : ord26 2 = none := rfl
@[go_sem] theorem ord26_3 : ord26 3 = none := rfl
@[go_sem] theorem ord26_4 : ord26 4 = none := rfl
@[go_sem] theorem ord26_5 : ord26 5 = none := rfl
def ord27 : Ords
  | 1 => some (.lin [(0, none, false, false), (1, none, false, false), (2, none, true, false), (3, none, false, false), (4, none, false, false), (5, none, false, false), (6, none, false, false)])
  | _ => none
@[go_sem] theorem ord27_0 : ord27 0 = none := rfl
@[go_sem] theorem ord27_1 : ord27 1 = some (.lin [(0, none, false, false), (1, none, false, false), (2, none, true, false), (3, none, false, false), (4, none, false, false), (5, none, false, false), (6, none, false, false)]) := rfl
def ord28 : Ords
  | _ => none
@[go_sem] theorem ord28_0 : ord28 0 = none := rfl
@[go_sem] theorem ord28_1 : ord28 1 = none := rfl
@[go_sem] theorem ord28_2 : ord28 2 = none := rfl
@[go_sem] theorem ord28_3 : ord28 3 = none := rfl
def ord29 : Ords
  | _ => none
@[go_sem] theorem ord29_0 : ord29 0 = none := rfl
def ord30 : Ords
  | _ => none
@[go_sem] theorem ord30_0 : ord30 0 = none := rfl
@[go_sem] theorem ord30_1 : ord30 1 = none := rfl
def ord31 : Ords
  | _ => none
@[go_sem] theorem ord31_0 : ord31 0 = none := rfl
@[go_sem] theorem ord31_1 : ord31 1 = none := rfl
def ord32 : Ords
  | 0 => some (.lin [(0, some false, false, false), (1, some false, false, false), (2, some false, false, false), (3, some false, false, false), (4, some false, false, false), (5, some false, false, false), (6, some false, false, false), (7, some false, false, false), (8, some false, false, false), (9, some false, false, false), (10, some false, false, false), (11, some false, false, false), (12, some false, false, false), (13, some false, false, false), (14, some false, false, false), (15, some false, false, false), (16, some false, false, false), (17, some false, false, false), (18, none, false, false), (19, some false, false, false), (20, some false, false, false), (21, none, false, false)])
  | _ => none
@[go_sem] theorem ord32_0 : ord32 0 = some (.lin [(0, some false, false, false), (1, some false, false, false), (2, some false, false, false), (3, some false, false, false), (4, some false, false, false), (5, some false, false, false), (6, some false, false, false), (7, some false, false, false), (8, some false, false, false), (9, some false, false, false), (10, some false, false, false), (11, some false, false, false), (12, some false, false, false), (13, some false, false, false), (14, some false, false, false), (15, some false, false, false), (16, some false, false, false), (17, some false, false, false), (18, none, false, false), (19, some false, false, false), (20, some false, false, false), (21, none, false, false)]) := rfl
def ord33 : Ords
  | 2 => some (.lin [(0, none, false, false), (1, none, false, false), (2, none, true, false), (3, none, false, false), (4, none, false, false), (5, none, false, false)])
  | _ => none
@[go_sem] theorem ord33_0 : ord33 0 = none := rfl
@[go_sem] theorem ord33_1 : ord33 1 = none := rfl
@[go_sem] theorem ord33_2 : ord33 2 = some (.lin [(0, none, false, false), (1, none, false, false), (2, none, true, false), (3, none, false, false), (4, none, false, false), (5, none, false, false)]) := rfl
@[go_sem] theorem ord33_3 : ord33 3 = none := rfl
@[go_sem] theorem ord33_4 : ord33 4 = none := rfl
@[go_sem] theorem ord33_5 : ord33 5 = none := rfl
def ord34 : Ords
  | _ => none
@[go_sem] theorem ord34_0 : ord34 0 = none := rfl
@[go_sem] theorem ord34_1 : ord34 1 = none := rfl
@[go_sem] theorem ord34_2 : ord34 2 = none := rfl
@[go_sem] theorem ord34_3 : ord34 3 = none := rfl
def ord35 : Ords
  | _ => none
@[go_sem] theorem ord35_0 : ord35 0 = none := rfl
@[go_sem] theorem ord35_1 : ord35 1 = none := rfl
@[go_sem] theorem ord35_2 : ord35 2 = none := rfl
@[go_sem] theorem ord35_3 : ord35 3 = none := rfl
@[go_sem] theorem ord35_4 : ord35 4 = none := rfl
@[go_sem] theorem ord35_6 : ord35 6 = none := rfl
@[go_sem] theorem ord35_7 : ord35 7 = none := rfl
@[go_sem] theorem ord35_5 : ord35 5 = none := rfl
@[go_sem] theorem ord35_8 : ord35 8 = none := rfl
def ord36 : Ords
  | 1 => some (.lin [(0, none, false, false), (1, none, false, false), (2, none, false, false), (3, none, true, false), (4, none, false, false), (5, none, false, false), (6, none, false, false), (7, none, false, false), (8, none, false, false)])
  | _ => none
@[go_sem] theorem ord36_0 : ord36 0 = none := rfl
@[go_sem] theorem ord36_1 : ord36 1 = some (.lin [(0, none, false, false), (1, none, false, false), (2, none, false, false), (3, none, true, false), (4, none, false, false), (5, none, false, false), (6, none, false, false), (7, none, false, false), (8, none, false, false)]) := rfl
def ord37 : Ords
  | 3 => some (.lin [(0, some false, false, false), (1, some false, false, false), (2, some false, false, false), (3, some false, false, false), (4, some false, false, false), (6, some false, false, false), (7, some false, false, false), (8, some false, false, false), (9, some false, false, false), (10, some true, false, false), (5, none, false, false), (11, none, false, false), (12, some false, false, false), (13, some false, false, false)])
  | 5 => some (.lin [(0, none, false, false), (1, none, false, false), (2, none, false, false), (3, none, true, false), (4, none, false, false), (5, none, false, false), (6, none, false, false), (7, none, false, false)])
  | 6 => some (.lin [(0, some false, false, false), (1, some false, false, false), (2, some false, false, false), (3, some false, false, false), (4, some false, false, false), (5, some false, false, false), (6, some false, false, false), (7, some false, false, false), (8, none, false, false), (9, some false, false, false)])
  | 7 => some (.lin [(0, some false, false, false), (1, some false, false, false), (2, some false, false, false), (3, some false, false, false), (6, some false, false, false), (7, some true, false, false), (4, none, false, false), (5, none, false, false), (8, some false, false, false), (9, some false, false, false)])
  | 8 => some (.lin [(0, some false, false, false), (1, some false, false, false), (2, some false, false, false), (3, some false, false, false), (6, some false, false, false), (7, some true, false, false), (4, none, false, false), (5, none, false, false), (8, some false, false, false), (9, some false, false, false)])
  | _ => none
@[go_sem] theorem ord37_0 : ord37 0 = none := rfl
@[go_sem] theorem ord37_1 : ord37 1 = none := rfl
@[go_sem] theorem ord37_2 : ord37 2 = none := rfl
@[go_sem] theorem ord37_3 : ord37 3 = some (.lin [(0, some false, false, false), (1, some false, false, false), (2, some false, false, false), (3, some false, false, false), (4, some false, false, false), (6, some false, false, false), (7, some false, false, false), (8, some false, false, false), (9, some false, false, false), (10, some true, false, false), (5, none, false, false), (11, none, false, false), (12, some false, false, false), (13, some false, false, false)]) := rfl
@[go_sem] theorem ord37_4 : ord37 4 = none := rfl
@[go_sem] theorem ord37_5 : ord37 5 = some (.lin [(0, none, false, false), (1, none, false, false), (2, none, false, false), (3, none, true, false), (4, none, false, false), (5, none, false, false), (6, none, false, false), (7, none, false, false)]) := rfl
@[go_sem] theorem ord37_6 : ord37 6 = some (.lin [(0, some false, false, false), (1, some false, false, false), (2, some false, false, false), (3, some false, false, false), (4, some false, false, false), (5, some false, false, false), (6, some false, false, false), (7, some false, false, false), (8, none, false, false), (9, some false, false, false)]) := rfl
@[go_sem] theorem ord37_7 : ord37 7 = some (.lin [(0, some false, false, false), (1, some false, false, false), (2, some false, false, false), (3, some false, false, false), (6, some false, false, false), (7, some true, false, false), (4, none, false, false), (5, none, false, false), (8, some false, false, false), (9, some false, false, false)]) := rfl
@[go_sem] theorem ord37_8 : ord37 8 = some (.lin [(0, some false, false, false), (1, some false, false, false), (2, some false, false, false), (3, some false, false, false), (6, some false, false, false), (7, some true, false, false), (4, none, false, false), (5, none, false, false), (8, some false, false, false), (9, some false, false, false)]) := rfl
@[go_sem] theorem ord37_9 : ord37 9 = none := rfl
def ord38 : Ords
  | 2 => some (.lin [(0, none, false, false), (1, none, false, false), (2, none, false, false), (3, none, false, false), (4, none, true, false), (5, none, false, false), (6, none, false, false), (7, none, false, false), (8, none, false, false), (9, none, false, false)])
  | 4 => some (.lin [(0, some false, false, false), (1, some false, false, false), (2, some false, false, false), (3, some false, false, false), (4, some false, false, false), (5, some false, false, false), (6, some false, false, false), (7, some false, false, false), (8, none, false, false), (9, some false, false, false)])
  | _ => none
@[go_sem] theorem ord38_0 : ord38 0 = none := rfl
@[go_sem] theorem ord38_1 : ord38 1 = none := rfl
@[go_sem] theorem ord38_2 : ord38 2 = some (.lin [(0, none, false, false), (1, none, false, false), (2, none, false, false), (3, none, false, false), (4, none, true, false), (5, none, false, false), (6, none, false, false), (7, none, false, false), (8, none, false, false), (9, none, false, false)]) := rfl
@[go_sem] theorem ord38_4 : ord38 4 = some (.lin [(0, some false, false, false), (1, some false, false, false), (2, some false, false, false), (3, some false, false, false), (4, some false, false, false), (5, some false, false, false), (6, some false, false, false), (7, some false, false, false), (8, none, false, false), (9, some false, false, false)]) := rfl
@[go_sem] theorem ord38_5 : ord38 5 = none := rfl
@[go_sem] theorem ord38_6 : ord38 6 = none := rfl
@[go_sem] theorem ord38_3 : ord38 3 = none := rfl
@[go_sem] theorem ord38_7 : ord38 7 = none := rfl
@[go_sem] theorem ord38_8 : ord38 8 = none := rfl
@[go_sem] theorem ord38_9 : ord38 9 = none := rfl
def ord39 : Ords
  | 6 => some (.lin [(0, some false, false, false), (1, some false, false, false), (2, some false, false, false), (3, some false, false, false), (4, some false, false, false), (5, some false, false, false), (6, some false, false, false), (7, some false, false, false), (8, none, false, false), (9, some false, false, false)])
  | _ => none
@[go_sem] theorem ord39_0 : ord39 0 = none := rfl
@[go_sem] theorem ord39_1 : ord39 1 = none := rfl
@[go_sem] theorem ord39_2 : ord39 2 = none := rfl
@[go_sem] theorem ord39_3 : ord39 3 = none := rfl
@[go_sem] theorem ord39_4 : ord39 4 = none := rfl
@[go_sem] theorem ord39_6 : ord39 6 = some (.lin [(0, some false, false, false), (1, some false, false, false), (2, some false, false, false), (3, some false, false, false), (4, some false, false, false), (5, some false, false, false), (6, some false, false, false), (7, some false, false, false), (8, none, false, false), (9, some false, false, false)]) := rfl
@[go_sem] theorem ord39_7 : ord39 7 = none := rfl
@[go_sem] theorem ord39_5 : ord39 5 = none := rfl
@[go_sem] theorem ord39_8 : ord39 8 = none := rfl
def ord40 : Ords
  | _ => none
@[go_sem] theorem ord40_0 : ord40 0 = none := rfl
@[go_sem] theorem ord40_1 : ord40 1 = none := rfl
@[go_sem] theorem ord40_2 : ord40 2 = none := rfl
@[go_sem] theorem ord40_3 : ord40 3 = none := rfl
@[go_sem] theorem ord40_4 : ord40 4 = none := rfl
@[go_sem] theorem ord40_5 : ord40 5 = none := rfl
@[go_sem] theorem ord40_6 : ord40 6 = none := rfl
@[go_sem] theorem ord40_7 : ord40 7 = none := rfl
def ord41 : Ords
  | _ => none
@[go_sem] theorem ord41_0 : ord41 0 = none := rfl
@[go_sem] theorem ord41_1 : ord41 1 = none := rfl
def ord42 : Ords
  | _ => none
@[go_sem] theorem ord42_0 : ord42 0 = none := rfl
@[go_sem] theorem ord42_1 : ord42 1 = none := rfl
@[go_sem] theorem ord42_3 : ord42 3 = none := rfl
@[go_sem] theorem ord42_2 : ord42 2 = none := rfl
def ord43 : Ords
  | _ => none
@[go_sem] theorem ord43_0 : ord43 0 = none := rfl
@[go_sem] theorem ord43_1 : ord43 1 = none := rfl
@[go_sem] theorem ord43_2 : ord43 2 = none := rfl
@[go_sem] theorem ord43_3 : ord43 3 = none := rfl
@[go_sem] theorem ord43_4 : ord43 4 = none := rfl
@[go_sem] theorem ord43_5 : ord43 5 = none := rfl
@[go_sem] theorem ord43_6 : ord43 6 = none := rfl
@[go_sem] theorem ord43_7 : ord43 7 = none := rfl
@[go_sem] theorem ord43_8 : ord43 8 = none := rfl
@[go_sem] theorem ord43_9 : ord43 9 = none := rfl
@[go_sem] theorem ord43_10 : ord43 10 = none := rfl
@[go_sem] theorem ord43_11 : ord43 11 = none := rfl
@[go_sem] theorem ord43_12 : ord43 12 = none := rfl
@[go_sem] theorem ord43_13 : ord43 13 = none := rfl
@[go_sem] theorem ord43_14 : ord43 14 = none := rfl
@[go_sem] theorem ord43_15 : ord43 15 = none := rfl
def ord44 : Ords
  | _ => none
@[go_sem] theorem ord44_0 : ord44 0 = none := rfl
@[go_sem] theorem ord44_1 : ord44 1 = none := rfl
@[go_sem] theorem ord44_2 : ord44 2 = none := rfl
@[go_sem] theorem ord44_3 : ord44 3 = none := rfl
@[go_sem] theorem ord44_4 : ord44 4 = none := rfl
@[go_sem] theorem ord44_5 : ord44 5 = none := rfl
@[go_sem] theorem ord44_6 : ord44 6 = none := rfl
@[go_sem] theorem ord44_7 : ord44 7 = none := rfl
def ord45 : Ords
  | _ => none
@[go_sem] theorem ord45_0 : ord45 0 = none := rfl
@[go_sem] theorem ord45_1 : ord45 1 = none := rfl
def ord46 : Ords
  | _ => none
@[go_sem] theorem ord46_0 : ord46 0 = none := rfl
@[go_sem] theorem ord46_1 : ord46 1 = none := rfl
def ord47 : Ords
  | _ => none
@[go_sem] theorem ord47_0 : ord47 0 = none := rfl
@[go_sem] theorem ord47_1 : ord47 1 = none := rfl
def ord48 : Ords
  | _ => none
@[go_sem] theorem ord48_0 : ord48 0 = none := rfl
@[go_sem] theorem ord48_1 : ord48 1 = none := rfl
@[go_sem] theorem ord48_2 : ord48 2 = none := rfl
@[go_sem] theorem ord48_3 : ord48 3 = none := rfl
@[go_sem] theorem ord48_4 : ord48 4 = none := rfl
@[go_sem] theorem ord48_5 : ord48 5 = none := rfl
@[go_sem] theorem ord48_6 : ord48 6 = none := rfl
@[go_sem] theorem ord48_7 : ord48 7 = none := rfl
@[go_sem] theorem ord48_8 : ord48 8 = none := rfl
@[go_sem] theorem ord48_9 : ord48 9 = none := rfl
@[go_sem] theorem ord48_10 : ord48 10 = none := rfl
@[go_sem] theorem ord48_11 : ord48 11 = none := rfl
@[go_sem] theorem ord48_12 : ord48 12 = none := rfl
@[go_sem] theorem ord48_13 : ord48 13 = none := rfl
@[go_sem] theorem ord48_14 : ord48 14 = none := rfl
@[go_sem] theorem ord48_15 : ord48 15 = none := rfl
@[go_sem] theorem ord48_16 : ord48 16 = none := rfl
def ord49 : Ords
  | _ => none
@[go_sem] theorem ord49_0 : ord49 0 = none := rfl
@[go_sem] theorem ord49_1 : ord49 1 = none := rfl
@[go_sem] theorem ord49_2 : ord49 2 = none := rfl
@[go_sem] theorem ord49_3 : ord49 3 = none := rfl
@[go_sem] theorem ord49_4 : ord49 4 = none := rfl
@[go_sem] theorem ord49_5 : ord49 5 = none := rfl
@[go_sem] theorem ord49_6 : ord49 6 = none := rfl
@[go_sem] theorem ord49_7 : ord49 7 = none := rfl
@[go_sem] theorem ord49_8 : ord49 8 = none := rfl
@[go_sem] theorem ord49_9 : ord49 9 = none := rfl
@[go_sem] theorem ord49_10 : ord49 10 = none := rfl
@[go_sem] theorem ord49_11 : ord49 11 = none := rfl
@[go_sem] theorem ord49_12 : ord49 12 = none := rfl
@[go_sem] theorem ord49_13 : ord49 13 = none := rfl
def ord50 : Ords
  | 1 => some (.lin [(0, some false, false, false), (1, some false, false, false), (2, some false, false, false), (3, some false, false, false), (5, some false, false, false), (6, some false, false, false), (7, some false, false, false), (8, some false, false, false), (10, some false, false, false), (11, some false, false, false), (12, some false, false, false), (13, some false, false, false), (4, none, false, true), (9, none, false, true), (14, none, false, true), (15, none, false, false), (16, none, false, true), (17, some false, false, false)])
  | _ => none
@[go_sem] theorem ord50_0 : ord50 0 = none := rfl
@[go_sem] theorem ord50_1 : ord50 1 = some (.lin [(0, some false, false, false), (1, some false, false, false), (2, some false, false, false), (3, some false, false, false), (5, some false, false, false), (6, some false, false, false), (7, some false, false, false), (8, some false, false, false), (10, some false, false, false), (11, some false, false, false), (12, some false, false, false), (13, some false, false, false), (4, none, false, true), (9, none, false, true), (14, none, false, true), (15, none, false, false), (16, none, false, true), (17, some false, false, false)]) := rfl
def ord51 : Ords
  | 3 => some (.lin [(0, none, false, false), (1, none, false, false), (2, none, false, false), (3, none, true, false), (4, none, false, false), (5, none, false, false), (6, none, false, false), (7, none, false, false), (8, none, false, false)])
  | 5 => some (.lin [(0, none, false, false), (1, none, false, false), (2, none, false, false), (3, none, true, false), (4, none, false, false), (5, none, false, false), (6, none, false, false), (7, none, false, false), (8, none, false, false)])
  | 7 => some (.lin [(0, none, false, false), (1, none, false, false), (2, none, false, false), (3, none, true, false), (4, none, false, false), (5, none, false, false), (6, none, false, false), (7, none, false, false), (8, none, false, false)])
  | 9 => some (.lin [(0, none, false, false), (1, none, false, false), (2, none, false, false), (3, none, true, false), (4, none, false, false), (5, none, false, false), (6, none, false, false), (7, none, false, false), (8, none, false, false), (9, none, false, false)])
  | _ => none
@[go_sem] theorem ord51_0 : ord51 0 = none := rfl
@[go_sem] theorem ord51_1 : ord51 1 = none := rfl
@[go_sem] theorem ord51_2 : ord51 2 = none := rfl
@[go_sem] theorem ord51_3 : ord51 3 = some (.lin [(0, none, false, false), (1, none, false, false), (2, none, false, false), (3, none, true, false), (4, none, false, false), (5, none, false, false), (6, none, false, false), (7, none, false, false), (8, none, false, false)]) := rfl
@[go_sem] theorem ord51_4 : ord51 4 = none := rfl
@[go_sem] theorem ord51_5 : ord51 5 = some (.lin [(0, none, false, false), (1, none, false, false), (2, none, false, false), (3, none, true, false), (4, none, false, false), (5, none, false, false), (6, none, false, false), (7, none, false, false), (8, none, false, false)]) := rfl
@[go_sem] theorem ord51_6 : ord51 6 = none := rfl
@[go_sem] theorem ord51_7 : ord51 7 = some (.lin [(0, none, false, false), (1, none, false, false), (2, none, false, false), (3, none, true, false), (4, none, false, false), (5, none, false, false), (6, none, false, false), (7, none, false, false), (8, none, false, false)]) := rfl
@[go_sem] theorem ord51_8 : ord51 8 = none := rfl
@[go_sem] theorem ord51_9 : ord51 9 = some (.lin [(0, none, false, false), (1, none, false, false), (2, none, false, false), (3, none, true, false), (4, none, false, false), (5, none, false, false), (6, none, false, false), (7, none, false, false), (8, none, false, false), (9, none, false, false)]) := rfl
@[go_sem] theorem ord51_10 : ord51 10 = none := rfl
def ord52 : Ords
  | _ => none
@[go_sem] theorem ord52_0 : ord52 0 = none := rfl
@[go_sem] theorem ord52_1 : ord52 1 = none := rfl
@[go_sem] theorem ord52_2 : ord52 2 = none := rfl
@[go_sem] theorem ord52_3 : ord52 3 = none := rfl
@[go_sem] theorem ord52_4 : ord52 4 = none := rfl
@[go_sem] theorem ord52_5 : ord52 5 = none := rfl
@[go_sem] theorem ord52_6 : ord52 6 = none := rfl
@[go_sem] theorem ord52_7 : ord52 7 = none := rfl
def ord53 : Ords
  | _ => none
@[go_sem] theorem ord53_0 : ord53 0 = none := rfl
@[go_sem] theorem ord53_1 : ord53 1 = none := rfl
@[go_sem] theorem ord53_2 : ord53 2 = none := rfl
@[go_sem] theorem ord53_3 : ord53 3 = none := rfl
def ord54 : Ords
  | 1 => some (.lin [(0, none, false, false), (1, none, false, false), (2, none, false, false), (3, none, false, false), (4, none, false, false), (5, none, true, false), (6, none, false, false), (7, none, false, false), (8, none, false, false), (9, none, false, false), (10, none, false, false), (11, none, false, false), (12, none, true, false), (13, none, false, false), (14, none, false, false), (15, none, false, false), (16, none, false, false), (17, none, false, false), (18, none, false, false), (19, none, false, false)])
  | _ => none
@[go_sem] theorem ord54_0 : ord54 0 = none := rfl
@[go_sem] theorem ord54_1 : ord54 1 = some (.lin [(0, none, false, false), (1, none, false, false), (2, none, false, false), (3, none, false, false), (4, none, false, false), (5, none, true, false), (6, none, false, false), (7, none, false, false), (8, none, false, false), (9, none, false, false), (10, none, false, false), (11, none, false, false), (12, none, true, false), (13, none, false, false), (14, none, false, false), (15, none, false, false), (16, none, false, false), (17, none, false, false), (18, none, false, false), (19, none, false, false)]) := rfl
def ord55 : Ords
  | _ => none
@[go_sem] theorem ord55_0 : ord55 0 = none := rfl
@[go_sem] theorem ord55_1 : ord55 1 = none := rfl
@[go_sem] theorem ord55_2 : ord55 2 = none := rfl
@[go_sem] theorem ord55_3 : ord55 3 = none := rfl
@[go_sem] theorem ord55_4 : ord55 4 = none := rfl
@[go_sem] theorem ord55_5 : ord55 5 = none := rfl
@[go_sem] theorem ord55_6 : ord55 6 = none := rfl
def ord56 : Ords
  | _ => none
@[go_sem] theorem ord56_0 : ord56 0 = none := rfl
@[go_sem] theorem ord56_1 : ord56 1 = none := rfl
@[go_sem] theorem ord56_2 : ord56 2 = none := rfl
@[go_sem] theorem ord56_3 : ord56 3 = none := rfl
@[go_sem] theorem ord56_4 : ord56 4 = none := rfl
@[go_sem] theorem ord56_5 : ord56 5 = none := rfl
@[go_sem] theorem ord56_6 : ord56 6 = none := rfl
@[go_sem] theorem ord56_7 : ord56 7 = none := rfl
def ord57 : Ords
  | 4 => some (.lin [(0, none, false, false), (1, none, false, false), (2, none, false, false), (3, none, true, false), (4, none, false, false), (5, none, false, false), (6, none, false, false), (7, none, false, false), (8, none, false, false)])
  | 6 => some (.lin [(0, none, false, false), (1, none, false, false), (2, none, false, false), (3, none, true, false), (4, none, false, false), (5, none, false, false), (6, none, false, false), (7, none, false, false), (8, none, true, false), (9, none, false, false), (10, none, false, false), (11, none, false, false), (12, none, false, false), (13, none, false, false)])
  | 8 => some (.lin [(0, none, false, false), (1, none, false, false), (2, none, false, false), (3, none, true, false), (4, none, false, false), (5, none, false, false), (6, none, false, false), (7, none, false, false), (8, none, false, false)])
  | 10 => some (.lin [(0, none, false, false), (1, none, false, false), (2, none, false, false), (3, none, true, false), (4, none, false, false), (5, none, false, false), (6, none, false, false), (7, none, false, false), (8, none, false, false), (9, none, false, false)])
  | _ => none
@[go_sem] theorem ord57_0 : ord57 0 = none := rfl
@[go_sem] theorem ord57_1 : ord57 1 = none := rfl
@[go_sem] theorem ord57_2 : ord57 2 = none := rfl
@[go_sem] theorem ord57_3 : ord57 3 = none := rfl
@[go_sem] theorem ord57_4 : ord57 4 = some (.lin [(0, none, false, false), (1, none, false, false), (2, none, false, false), (3, none, true, false), (4, none, false, false), (5, none, false, false), (6, none, false, false), (7, none, false, false), (8, none, false, false)]) := rfl
@[go_sem] theorem ord57_5 : ord57 5 = none := rfl
@[go_sem] theorem ord57_6 : ord57 6 = some (.lin [(0, none, false, false), (1, none, false, false), (2, none, false, false), (3, none, true, false), (4, none, false, false), (5, none, false, false), (6, none, false, false), (7, none, false, false), (8, none, true, false), (9, none, false, false), (10, none, false, false), (11, none, false, false), (12, none, false, false), (13, none, false, false)]) := rfl
@[go_sem] theorem ord57_7 : ord57 7 = none := rfl
@[go_sem] theorem ord57_8 : ord57 8 = some (.lin [(0, none, false, false), (1, none, false, false), (2, none, false, false), (3, none, true, false), (4, none, false, false), (5, none, false, false), (6, none, false, false), (7, none, false, false), (8, none, false, false)]) := rfl
@[go_sem] theorem ord57_9 : ord57 9 = none := rfl
@[go_sem] theorem ord57_10 : ord57 10 = some (.lin [(0, none, false, false), (1, none, false, false), (2, none, false, false), (3, none, true, false), (4, none, false, false), (5, none, false, false), (6, none, false, false), (7, none, false, false), (8, none, false, false), (9, none, false, false)]) := rfl
@[go_sem] theorem ord57_11 : ord57 11 = none := rfl
@[go_sem] theorem ord57_12 : ord57 12 = none := rfl
@[go_sem] theorem ord57_13 : ord57 13 = none := rfl
def ord58 : Ords
  | 4 => some (.lin [(0, some false, false, false), (1, some false, false, false), (2, some false, false, false), (3, some false, true, false), (4, some false, false, false), (5, some false, false, false), (6, some false, false, false), (7, some false, false, false), (8, some false, false, false), (9, some false, false, false), (10, some false, false, false), (11, some false, false, false), (12, some false, false, false), (13, some false, false, false), (14, none, false, false), (15, some false, false, false), (16, some false, false, false)])
  | 6 => some (.lin [(0, some false, false, false), (1, some false, false, false), (2, some false, false, false), (3, some false, false, false), (4, some false, false, false), (5, some false, false, false), (6, some false, false, false), (7, some false, false, false), (8, some false, false, false), (9, some false, false, false), (10, some false, false, false), (11, some false, false, false), (12, some false, false, false), (13, some false, false, false), (14, some false, false, false), (15, none, false, false), (16, some false, false, false), (17, none, false, false)])
  | _ => none
@[go_sem] theorem ord58_0 : ord58 0 = none := rfl
@[go_sem] theorem ord58_1 : ord58 1 = none := rfl
@[go_sem] theorem ord58_3 : ord58 3 = none := rfl
@[go_sem] theorem ord58_4 : ord58 4 = some (.lin [(0, some false, false, false), (1, some false, false, false), (2, some false, false, false), (3, some false, true, false), (4, some false, false, false), (5, some false, false, false), (6, some false, false, false), (7, some false, false, false), (8, some false, false, false), (9, some false, false, false), (10, some false, false, false), (11, some false, false, false), (12, some false, false, false), (13, some false, false, false), (14, none, false, false), (15, some false, false, false), (16, some false, false, false)]) := rfl
@[go_sem] theorem ord58_6 : ord58 6 = some (.lin [(0, some false, false, false), (1, some false, false, false), (2, some false, false, false), (3, some false, false, false), (4, some false, false, false), (5, some false, false, false), (6, some false, false, false), (7, some false, false, false), (8, some false, false, false), (9, some false, false, false), (10, some false, false, false), (11, some false, false, false), (12, some false, false, false), (13, some false, false, false), (14, some false, false, false), (15, none, false, false), (16, some false, false, false), (17, none, false, false)]) := rfl
@[go_sem] theorem ord58_5 : ord58 5 = none := rfl
@[go_sem] theorem ord58_2 : ord58 2 = none := rfl
def ord59 : Ords
  | 5 => some (.lin [(0, some false, false, false), (1, some false, false, false), (2, some false, false, false), (3, some false, false, false), (4, some false, false, false), (5, some false, false, false), (6, some false, false, false), (7, some false, false, false), (8, some false, false, false), (9, none, false, false), (10, some false, false, false)])
  | 11 => some (.lin [(0, some false, false, false), (1, some false, false, false), (2, some false, false, false), (3, some false, false, false), (4, some false, false, false), (5, some false, false, false), (6, some false, false, false), (7, some false, false, false), (8, some false, false, false), (9, some false, false, false), (10, some false, false, false), (11, some false, false, false), (12, some false, false, false), (13, some false, false, false), (14, some false, false, false), (15, none, false, false), (16, some false, false, false), (17, none, false, false)])
  | 17 => some (.lin [(0, some false, false, false), (1, some false, false, false), (2, some false, false, false), (3, some false, false, false), (4, some false, false, false), (5, some false, false, false), (6, some false, false, false), (7, some false, false, false), (8, some false, false, false), (9, none, false, false), (10, some false, false, false), (11, some false, false, false)])
  | 23 => some (.lin [(0, some false, false, false), (1, some false, false, false), (2, some false, false, false), (3, some false, false, false), (4, some false, false, false), (5, some false, false, false), (6, some false, false, false), (7, some false, false, false), (8, some false, false, false), (9, some false, false, false), (10, some false, false, false), (11, some false, false, false), (12, some false, false, false), (13, some false, false, false), (14, some false, false, false), (15, none, false, false), (16, some false, false, false), (17, none, false, false)])
  | 35 => some (.lin [(0, some false, false, false), (1, some false, false, false), (2, some false, false, false), (3, some false, false, false), (4, some false, false, false), (5, some false, false, false), (6, some false, false, false), (7, some false, false, false), (8, some false, false, false), (9, some false, false, false), (10, some false, false, false), (11, none, false, false), (12, some false, false, false), (13, some false, false, false)])
  | 39 => some (.lin [(0, none, false, false), (1, none, false, false), (2, none, false, false), (3, none, true, false), (4, none, false, false), (5, none, false, false), (6, none, false, false), (7, none, false, false)])
  | 41 => some (.lin [(0, none, false, false), (1, none, false, false), (2, none, false, false), (3, none, true, false), (4, none, false, false), (5, none, false, false), (6, none, false, false), (7, none, false, false)])
  | 43 => some (.lin [(0, none, false, false), (1, none, false, false), (2, none, false, false), (3, none, true, false), (4, none, false, false), (5, none, false, false), (6, none, false, false), (7, none, false, false)])
  | _ => none
@[go_sem] theorem ord59_0 : ord59 0 = none := rfl
@[go_sem] theorem ord59_1 : ord59 1 = none := rfl
@[go_sem] theorem ord59_2 : ord59 2 = none := rfl
@[go_sem] theorem ord59_3 : ord59 3 = none := rfl
@[go_sem] theorem ord59_4 : ord59 4 = none := rfl
@[go_sem] theorem ord59_5 : ord59 5 = some (.lin [(0, some false, false, false), (1, some false, false, false), (2, some false, false, false), (3, some false, false, false), (4, some false, false, false), (5, some false, false, false), (6, some false, false, false), (7, some false, false, false), (8, some false, false, false), (9, none, false, false), (10, some false, false, false)]) := rfl
@[go_sem] theorem ord59_6 : ord59 6 = none := rfl
@[go_sem] theorem ord59_7 : ord59 7 = none := rfl
@[go_sem] theorem ord59_8 : ord59 8 = none := rfl
@[go_sem] theorem ord59_9 : ord59 9 = none := rfl
@[go_sem] theorem ord59_11 : ord59 11 = some (.lin [(0, some false, false, false), (1, some false, false, false), (2, some false, false, false), (3, some false, false, false), (4, some false, false, false), (5, some false, false, false), (6, some false, false, false), (7, some false, false, false), (8, some false, false, false), (9, some false, false, false), (10, some false, false, false), (11, some false, false, false), (12, some false, false, false), (13, some false, false, false), (14, some false, false, false), (15, none, false, false), (16, some false, false, false), (17, none, false, false)]) := rfl
@[go_sem] theorem ord59_10 : ord59 10 = none := rfl
@[go_sem] theorem ord59_12 : ord59 12 = none := rfl
@[go_sem] theorem ord59_13 : ord59 13 = none := rfl
@[go_sem] theorem ord59_14 : ord59 14 = none := rfl
@[go_sem] theorem ord59_15 : ord59 15 = none := rfl
@[go_sem] theorem ord59_16 : ord59 16 = none := rfl
@[go_sem] theorem ord59_17 : ord59 17 = some (.lin [(0, some false, false, false), (1, some false, false, false), (2, some false, false, false), (3, some false, false, false), (4, some false, false, false), (5, some false, false, false), (6, some false, false, false), (7, some false, false, false), (8, some false, false, false), (9, none, false, false), (10, some false, false, false), (11, some false, false, false)]) := rfl
@[go_sem] theorem ord59_18 : ord59 18 = none := rfl
@[go_sem] theorem ord59_19 : ord59 19 = none := rfl
@[go_sem] theorem ord59_20 : ord59 20 = none := rfl
@[go_sem] theorem ord59_21 : ord59 21 = none := rfl
@[go_sem] theorem ord59_23 : ord59 23 = some (.lin [(0, some false, false, false), (1, some false, false, false), (2, some false, false, false), (3, some false, false, false), (4, some false, false, false), (5, some false, false, false), (6, some false, false, false), (7, some false, false, false), (8, some false, false, false), (9, some false, false, false), (10, some false, false, false), (11, some false, false, false), (12, some false, false, false), (13, some false, false, false), (14, some false, false, false), (15, none, false, false), (16, some false, false, false), (17, none, false, false)]) := rfl
@[go_sem] theorem ord59_22 : ord59 22 = none := rfl
@[go_sem] theorem ord59_24 : ord59 24 = none := rfl
@[go_sem] theorem ord59_25 : ord59 25 = none := rfl
@[go_sem] theorem ord59_26 : ord59 26 = none := rfl
@[go_sem] theorem ord59_27 : ord59 27 = none := rfl
@[go_sem] theorem ord59_28 : ord59 28 = none := rfl
@[go_sem] theorem ord59_29 : ord59 29 = none := rfl
@[go_sem] theorem ord59_30 : ord59 30 = none := rfl
@[go_sem] theorem ord59_31 : ord59 31 = none := rfl
@[go_sem] theorem ord59_32 : ord59 32 = none := rfl
@[go_sem] theorem ord59_33 : ord59 33 = none := rfl
@[go_sem] theorem ord59_34 : ord59 34 = none := rfl
@[go_sem] theorem ord59_35 : ord59 35 = some (.lin [(0, some false, false, false), (1, some false, false, false), (2, some false, false, false), (3, some false, false, false), (4, some false, false, false), (5, some false, false, false), (6, some false, false, false), (7, some false, false, false), (8, some false, false, false), (9, some false, false, false), (10, some false, false, false), (11, none, false, false), (12, some false, false, false), (13, some false, false, false)]) := rfl
@[go_sem] theorem ord59_36 : ord59 36 = none := rfl
@[go_sem] theorem ord59_37 : ord59 37 = none := rfl
@[go_sem] theorem ord59_38 : ord59 38 = none := rfl
theorem ord59_39 : ord59 39 = some (.lin [(0, none, false, false), (1, none, false, false), (2, none, false, false), (3, none, true, false), (4, none, false, false), (5, none, false, false), (6, none, false, false), (7, none, false, false)]) := rfl
@[go_sem] theorem ord59_40 : ord59 40 = none := rfl
theorem ord59_41 : ord59 41 = some (.lin [(0, none, false, false), (1, none, false, false), (2, none, false, false), (3, none, true, false), (4, none, false, false), (5, none, false, false), (6, none, false, false), (7, none, false, false)]) := rfl
@[go_sem] theorem ord59_42 : ord59 42 = none := rfl
theorem ord59_43 : ord59 43 = some (.lin [(0, none, false, false), (1, none, false, false), (2, none, false, false), (3, none, true, false), (4, none, false, false), (5, none, false, false), (6, none, false, false), (7, none, false, false)]) := rfl
@[go_sem] theorem ord59_44 : ord59 44 = none := rfl
def ord60 : Ords
  | _ => none
@[go_sem] theorem ord60_0 : ord60 0 = none := rfl
@[go_sem] theorem ord60_1 : ord60 1 = none := rfl
@[go_sem] theorem ord60_2 : ord60 2 = none := rfl
@[go_sem] theorem ord60_3 : ord60 3 = none := rfl
@[go_sem] theorem ord60_4 : ord60 4 = none := rfl
@[go_sem] theorem ord60_5 : ord60 5 = none := rfl
@[go_sem] theorem ord60_6 : ord60 6 = none := rfl
@[go_sem] theorem ord60_7 : ord60 7 = none := rfl
@[go_sem] theorem ord60_8 : ord60 8 = none := rfl
def ord61 : Ords
  | _ => none
@[go_sem] theorem ord61_0 : ord61 0 = none := rfl
@[go_sem] theorem ord61_1 : ord61 1 = none := rfl
@[go_sem] theorem ord61_2 : ord61 2 = none := rfl
@[go_sem] theorem ord61_3 : ord61 3 = none := rfl
@[go_sem] theorem ord61_4 : ord61 4 = none := rfl
@[go_sem] theorem ord61_5 : ord61 5 = none := rfl
@[go_sem] theorem ord61_6 : ord61 6 = none := rfl
@[go_sem] theorem ord61_7 : ord61 7 = none := rfl
@[go_sem] theorem ord61_8 : ord61 8 = none := rfl
@[go_sem] theorem ord61_9 : ord61 9 = none := rfl
@[go_sem] theorem ord61_10 : ord61 10 = none := rfl
@[go_sem] theorem ord61_11 : ord61 11 = none := rfl
@[go_sem] theorem ord61_12 : ord61 12 = none := rfl
@[go_sem] theorem ord61_13 : ord61 13 = none := rfl
def ord62 : Ords
  | _ => none
@[go_sem] theorem ord62_0 : ord62 0 = none := rfl
@[go_sem] theorem ord62_1 : ord62 1 = none := rfl
@[go_sem] theorem ord62_2 : ord62 2 = none := rfl
@[go_sem] theorem ord62_3 : ord62 3 = none := rfl
@[go_sem] theorem ord62_4 : ord62 4 = none := rfl
@[go_sem] theorem ord62_5 : ord62 5 = none := rfl
@[go_sem] theorem ord62_6 : ord62 6 = none := rfl
@[go_sem] theorem ord62_7 : ord62 7 = none := rfl
@[go_sem] theorem ord62_8 : ord62 8 = none := rfl
@[go_sem] theorem ord62_9 : ord62 9 = none := rfl
@[go_sem] theorem ord62_10 : ord62 10 = none := rfl
@[go_sem] theorem ord62_11 : ord62 11 = none := rfl
@[go_sem] theorem ord62_12 : ord62 12 = none := rfl
@[go_sem] theorem ord62_13 : ord62 13 = none := rfl
def ord63 : Ords
  | 1 => some (.lin [(0, none, false, false), (1, none, false, false), (2, none, false, false), (3, none, true, false), (4, none, false, false), (5, none, false, false), (6, none, false, false), (7, none, false, false), (8, none, false, false)])
  | _ => none
@[go_sem] theorem ord63_0 : ord63 0 = none := rfl
@[go_sem] theorem ord63_1 : ord63 1 = some (.lin [(0, none, false, false), (1, none, false, false), (2, none, false, false), (3, none, true, false), (4, none, false, false), (5, none, false, false), (6, none, false, false), (7, none, false, false), (8, none, false, false)]) := rfl
def ord64 : Ords
  | 1 => some (.lin [(0, none, false, false), (1, none, false, false), (2, none, false, false), (3, none, false, false), (4, none, true, false), (5, none, false, false), (6, none, false, false), (7, none, false, false), (8, none, false, false), (9, none, false, false)])
  | _ => none
@[go_sem] theorem ord64_0 : ord64 0 = none := rfl
@[go_sem] theorem ord64_1 : ord64 1 = some (.lin [(0, none, false, false), (1, none, false, false), (2, none, false, false), (3, none, false, false), (4, none, true, false), (5, none, false, false), (6, none, false, false), (7, none, false, false), (8, none, false, false), (9, none, false, false)]) := rfl
def ord65 : Ords
  | _ => none
@[go_sem] theorem ord65_0 : ord65 0 = none := rfl
@[go_sem] theorem ord65_1 : ord65 1 = none := rfl
@[go_sem] theorem ord65_2 : ord65 2 = none := rfl
@[go_sem] theorem ord65_3 : ord65 3 = none := rfl
@[go_sem] theorem ord65_4 : ord65 4 = none := rfl
@[go_sem] theorem ord65_5 : ord65 5 = none := rfl
@[go_sem] theorem ord65_6 : ord65 6 = none := rfl
@[go_sem] theorem ord65_7 : ord65 7 = none := rfl
@[go_sem] theorem ord65_8 : ord65 8 = none := rfl
def ord66 : Ords
  | _ => none
@[go_sem] theorem ord66_0 : ord66 0 = none := rfl
@[go_sem] theorem ord66_1 : ord66 1 = none := rfl
def ord67 : Ords
  | _ => none
@[go_sem] theorem ord67_0 : ord67 0 = none := rfl
@[go_sem] theorem ord67_1 : ord67 1 = none := rfl
def ord68 : Ords
  | 3 => some (.lin [(0, some false, false, false), (1, some false, false, false), (2, some false, false, false), (3, some false, false, false), (4, some false, false, false), (5, some false, false, false), (6, some false, false, false), (7, some false, false, false), (8, some false, false, false), (9, some false, false, false), (10, some false, false, false), (11, some false, false, false), (12, some false, false, false), (13, some false, false, false), (14, some false, false, false), (15, some false, false, false), (16, some false, false, false), (17, some false, false, false), (18, some false, false, false), (19, some false, false, false), (20, some false, false, false), (21, none, false, false), (22, some false, false, false), (23, none, false, false)])
  | _ => none
@[go_sem] theorem ord68_0 : ord68 0 = none := rfl
@[go_sem] theorem ord68_1 : ord68 1 = none := rfl
@[go_sem] theorem ord68_3 : ord68 3 = some (.lin [(0, some false, false, false), (1, some false, false, false), (2, some false, false, false), (3, some false, false, false), (4, some false, false, false), (5, some false, false, false), (6, some false, false, false), (7, some false, false, false), (8, some false, false, false), (9, some false, false, false), (10, some false, false, false), (11, some false, false, false), (12, some false, false, false), (13, some false, false, false), (14, some false, false, false), (15, some false, false, false), (16, some false, false, false), (17, some false, false, false), (18, some false, false, false), (19, some false, false, false), (20, some false, false, false), (21, none, false, false), (22, some false, false, false), (23, none, false, false)]) := rfl
@[go_sem] theorem ord68_2 : ord68 2 = none := rfl
end Yt
namespace Yt
open Go Go.Vc Go.Proofs
set_option maxRecDepth 10000

structure V where
  k : Int
  i : Int
  s : ByteArray
def V.c (v : V) : List AV := [.pr (.int .i64 v.k), .pr (.int .i64 v.i), .pr (.string v.s)]
def rowA (r : List V) : AV := .im 3 (r.map V.c)
def cmpI (x y : Int) : Int := if x < y then -1 else if y < x then 1 else 0
def cmpS (x y : ByteArray) : Int := if Op.bytesLess x.toList y.toList then -1 else if !(Op.bytesLess x.toList y.toList || decide (x = y)) then 1 else 0
def nz : List Int → Int
  | [] => 0
  | x :: r => if x = 0 then nz r else x
def cmpV (a b : V) : Int := nz [cmpI a.k b.k, cmpI a.i b.i, cmpS a.s b.s]
def cmpR : List V → List V → Int
  | [], [] => 0
  | [], _ :: _ => -1
  | _ :: _, [] => 1
  | a :: r, b :: r' => if cmpV a b = 0 then cmpR r r' else cmpV a b

theorem s72 (x : Int) : Spec0 Try.prog 66 [.pr (.int .i64 x)] (· = .pr (.bool false)) := by
  refine spec0_of_vc tabOk elems ord66 Try.func66 rfl (rl := [.tmp 2]) rfl (by kernel_rfl) rfl ?_
  (simp -implicitDefEqProofs only [go_sem]; repeat (refine GO ?_; simp -implicitDefEqProofs only [go_sem]))
  simp
theorem s73 (x : ByteArray) : Spec0 Try.prog 67 [.pr (.string x)] (· = .pr (.bool false)) := by
  refine spec0_of_vc tabOk elems ord67 Try.func67 rfl (rl := [.tmp 2]) rfl (by kernel_rfl) rfl ?_
  (simp -implicitDefEqProofs only [go_sem]; repeat (refine GO ?_; simp -implicitDefEqProofs only [go_sem]))
  simp
theorem s62 (x y : Int) : Spec0 Try.prog 61 [.pr (.int .i64 x), .pr (.int .i64 y)] (· = .pr (.int .i64 (cmpI x y))) := by
  refine spec0_of_vc tabOk elems ord61 Try.func61 rfl (rl := [.tmp 4]) rfl (by kernel_rfl) rfl ?_
  (simp -implicitDefEqProofs only [go_sem]; repeat (refine GO ?_; simp -implicitDefEqProofs only [go_sem]))
  refine .pure _ (s72 x) rfl fun r hr _ => ?_
  subst hr
  (simp -implicitDefEqProofs only [go_sem]; repeat (refine GO ?_; simp -implicitDefEqProofs only [go_sem]))
  refine .pure _ (s72 y) rfl fun r hr _ => ?_
  subst hr
  (simp -implicitDefEqProofs only [go_sem]; repeat (refine GO ?_; simp -implicitDefEqProofs only [go_sem]))
  refine ⟨fun h => ?_, fun h => ?_⟩
  · (simp -implicitDefEqProofs only [go_sem]; repeat (refine GO ?_; simp -implicitDefEqProofs only [go_sem]))
    simp at h; simp [h, cmpI]
  · (simp -implicitDefEqProofs only [go_sem]; repeat (refine GO ?_; simp -implicitDefEqProofs only [go_sem]))
    simp at h
    have h' : ¬ x < y := by omega
    refine ⟨fun g => ?_, fun g => ?_⟩
    · (simp -implicitDefEqProofs only [go_sem]; repeat (refine GO ?_; simp -implicitDefEqProofs only [go_sem]))
      simp at g; simp [g, h', cmpI]
    · (simp -implicitDefEqProofs only [go_sem]; repeat (refine GO ?_; simp -implicitDefEqProofs only [go_sem]))
      simp at g
      have g' : ¬ y < x := by omega
      simp [g', h', cmpI]
theorem s63 (x y : ByteArray) : Spec0 Try.prog 62 [.pr (.string x), .pr (.string y)] (· = .pr (.int .i64 (cmpS x y))) := by
  refine spec0_of_vc tabOk elems ord62 Try.func62 rfl (rl := [.tmp 4]) rfl (by kernel_rfl) rfl ?_
  (simp -implicitDefEqProofs only [go_sem]; repeat (refine GO ?_; simp -implicitDefEqProofs only [go_sem]))
  refine .pure _ (s73 x) rfl fun r hr _ => ?_
  subst hr
  (simp -implicitDefEqProofs only [go_sem]; repeat (refine GO ?_; simp -implicitDefEqProofs only [go_sem]))
  refine .pure _ (s73 y) rfl fun r hr _ => ?_
  subst hr
  (simp -implicitDefEqProofs only [go_sem]; repeat (refine GO ?_; simp -implicitDefEqProofs only [go_sem]))
  refine ⟨fun h => ?_, fun h => ?_⟩
  · (simp -implicitDefEqProofs only [go_sem]; repeat (refine GO ?_; simp -implicitDefEqProofs only [go_sem]))
    simp [h, cmpS]
  · (simp -implicitDefEqProofs only [go_sem]; repeat (refine GO ?_; simp -implicitDefEqProofs only [go_sem]))
    refine ⟨fun g => ?_, fun g => ?_⟩
    · (simp -implicitDefEqProofs only [go_sem]; repeat (refine GO ?_; simp -implicitDefEqProofs only [go_sem]))
      simp only [h] at g; simp [cmpS, h]; simp at g; exact g
    · (simp -implicitDefEqProofs only [go_sem]; repeat (refine GO ?_; simp -implicitDefEqProofs only [go_sem]))
      simp only [h] at g; simp [cmpS, h]; simp at g; exact g

theorem nz_take {l : List Int} {i : Nat} (hz : ∀ x ∈ l.take i, x = 0) : nz l = nz (l.drop i) := by
  induction l generalizing i with
  | nil => simp
  | cons x r ih =>
    cases i with
    | zero => rfl
    | succ i =>
      simp only [List.take_succ_cons, List.mem_cons, forall_eq_or_imp] at hz
      simp only [nz, hz.1, if_true, List.drop_succ_cons]
      exact ih hz.2
def intsA (l : List Int) : AV := .im 1 (l.map fun x => [.pr (.int .i64 x)])
theorem wrap_succ {i : Nat} {n : Nat} (h : i < n) (hn : n < 4611686018427387904) : IntKind.i64.wrap ((i : Int) + 1) = ((i + 1 : Nat) : Int) := by rw [wrap_i64] <;> omega
theorem s61 (l : List Int) (hl : l.length < 4611686018427387904) : Spec0 Try.prog 60 [intsA l] (· = .pr (.int .i64 (nz l))) := by
  refine spec0_of_vc tabOk elems ord60 Try.func60 rfl (rl := [.tmp 2]) rfl (by kernel_rfl) rfl ?_
  (simp -implicitDefEqProofs only [go_sem, intsA]; repeat (refine GO ?_; simp -implicitDefEqProofs only [go_sem, intsA]))
  refine LOOP.mk (ι := { i : Nat // i ≤ l.length ∧ ∀ x ∈ l.take i, x = 0 }) (fun i => mkS [(3, .pr (.int .i64 0)), (6, .im 1 (l.map fun x => [.pr (.int .i64 x)])), (7, .pr (.int .i64 l.length)), (8, .pr (.int .i64 i.1))] [] []) (fun i => l.length - i.1)
    ⟨0, by simp⟩ [] rfl rfl ?_ (fun i => ?_)
  · (simp -implicitDefEqProofs only [go_sem]; repeat (refine GO ?_; simp -implicitDefEqProofs only [go_sem]))
    simp
  · obtain ⟨i, hi, hz⟩ := i
    (simp -implicitDefEqProofs only [go_sem]; repeat (refine GO ?_; simp -implicitDefEqProofs only [go_sem]))
    refine ⟨fun h => ?_, fun h => ?_⟩
    · simp only [decide_eq_true_eq] at h
      have hi' : i < l.length := by omega
      have hd : nz l = nz (l[i] :: l.drop (i + 1)) := by rw [nz_take hz, List.drop_eq_getElem_cons hi']
      (simp -implicitDefEqProofs only [go_sem]; repeat (refine GO ?_; simp -implicitDefEqProofs only [go_sem]))
      refine EL.map hi' ?_
      (simp -implicitDefEqProofs only [go_sem]; repeat (refine GO ?_; simp -implicitDefEqProofs only [go_sem]))
      refine ⟨fun g => ?_, fun g => ?_⟩
      · (simp -implicitDefEqProofs only [go_sem]; repeat (refine GO ?_; simp -implicitDefEqProofs only [go_sem]))
        simp at g
        simp [hd, nz, g]
      · (simp -implicitDefEqProofs only [go_sem]; repeat (refine GO ?_; simp -implicitDefEqProofs only [go_sem]))
        simp at g
        refine BACK.mk ⟨i + 1, hi', ?_⟩ [] rfl rfl (by show l.length - (i + 1) < l.length - i; omega) ?_
        · intro x hx
          rw [List.take_add_one, List.getElem?_eq_getElem hi'] at hx
          rcases List.mem_append.1 hx with hx | hx
          · exact hz x hx
          · simp at hx; rw [hx]; exact g
        · (simp -implicitDefEqProofs only [go_sem]; repeat (refine GO ?_; simp -implicitDefEqProofs only [go_sem]))
          simp [wrap_succ hi' hl]
    · (simp -implicitDefEqProofs only [go_sem]; repeat (refine GO ?_; simp -implicitDefEqProofs only [go_sem]))
      simp at h
      have : i = l.length := by omega
      subst this
      have : nz l = 0 := by rw [nz_take hz]; simp [nz]
      simp [this]

theorem s45 (a b : V) : Spec0 Try.prog 50 [.ag a.c, .ag b.c] (· = .pr (.int .i64 (cmpV a b))) := by
  refine spec0_of_vc tabOk elems ord50 Try.func50 rfl (rl := [.tmp 4]) rfl (by kernel_rfl) rfl ?_
  (simp -implicitDefEqProofs only [go_sem, V.c]; repeat (refine GO ?_; simp -implicitDefEqProofs only [go_sem, V.c]))
  refine .pure _ (s62 a.k b.k) rfl fun r hr _ => ?_
  subst hr
  (simp -implicitDefEqProofs only [go_sem]; repeat (refine GO ?_; simp -implicitDefEqProofs only [go_sem]))
  refine .pure _ (s62 a.i b.i) rfl fun r hr _ => ?_
  subst hr
  (simp -implicitDefEqProofs only [go_sem]; repeat (refine GO ?_; simp -implicitDefEqProofs only [go_sem]))
  refine .pure _ (s63 a.s b.s) rfl fun r hr _ => ?_
  subst hr
  (simp -implicitDefEqProofs only [go_sem]; repeat (refine GO ?_; simp -implicitDefEqProofs only [go_sem]))

  refine .lendTo (s61 [cmpI a.k b.k, cmpI a.i b.i, cmpS a.s b.s] (by simp)) ?_ (by rintro _ rfl; rfl) fun r hr => ?_
  · (simp -implicitDefEqProofs only [go_sem]; repeat (refine GO ?_; simp -implicitDefEqProofs only [go_sem]))
    simp [intsA]
  subst hr
  (simp -implicitDefEqProofs only [go_sem]; repeat (refine GO ?_; simp -implicitDefEqProofs only [go_sem]))
  rfl

theorem cmpR_cons {a b : List V} {i : Nat} (ha : i < a.length) (hb : i < b.length) : cmpR (a.drop i) (b.drop i) = if cmpV a[i] b[i] = 0 then cmpR (a.drop (i + 1)) (b.drop (i + 1)) else cmpV a[i] b[i] := by
  rw [List.drop_eq_getElem_cons ha, List.drop_eq_getElem_cons hb]; rfl
theorem cmpR_long {a b : List V} {i : Nat} (ha : i < a.length) (hb : b.length ≤ i) : cmpR (a.drop i) (b.drop i) = 1 := by
  rw [List.drop_eq_getElem_cons ha, List.drop_of_length_le hb]; rfl
theorem cmpR_end {a b : List V} {i : Nat} (ha : a.length ≤ i) (hb : i ≤ b.length) (hi : i = a.length) : cmpR (a.drop i) (b.drop i) = if a.length < b.length then -1 else 0 := by
  rw [List.drop_of_length_le ha]
  by_cases h : i < b.length
  · rw [List.drop_eq_getElem_cons h, if_pos (by omega)]; rfl
  · rw [List.drop_of_length_le (by omega), if_neg (by omega)]; rfl

theorem s44 (a b : List V) (ha : a.length < 4611686018427387904) : Spec0 Try.prog 49 [rowA a, rowA b, .fn 50 []] (· = .pr (.int .i64 (cmpR a b))) := by
  refine spec0_of_vc tabOk elems ord49 Try.func49 rfl (rl := [.tmp 6]) rfl (by kernel_rfl) rfl ?_
  (simp -implicitDefEqProofs only [go_sem, rowA]; repeat (refine GO ?_; simp -implicitDefEqProofs only [go_sem, rowA]))
  refine LOOP.mk (ι := { i : Nat // i ≤ a.length ∧ i ≤ b.length ∧ cmpR a b = cmpR (a.drop i) (b.drop i) }) (fun i => mkS [(0, rowA a), (1, rowA b), (2, .fn 50 []), (11, rowA a), (12, .pr (.int .i64 a.length)), (13, .pr (.int .i64 i.1))] [] []) (fun i => a.length - i.1)
    ⟨0, by simp⟩ [] rfl rfl ?_ (fun i => ?_)
  · (simp -implicitDefEqProofs only [go_sem, rowA]; repeat (refine GO ?_; simp -implicitDefEqProofs only [go_sem, rowA]))
    simp
  · obtain ⟨i, hi, hj, hz⟩ := i
    (simp -implicitDefEqProofs only [go_sem, rowA]; repeat (refine GO ?_; simp -implicitDefEqProofs only [go_sem, rowA]))
    refine ⟨fun h => ?_, fun h => ?_⟩
    · simp only [decide_eq_true_eq] at h
      have hi' : i < a.length := by omega
      (simp -implicitDefEqProofs only [go_sem]; repeat (refine GO ?_; simp -implicitDefEqProofs only [go_sem]))
      refine EL.map hi' ?_
      (simp -implicitDefEqProofs only [go_sem, V.c]; repeat (refine GO ?_; simp -implicitDefEqProofs only [go_sem, V.c]))
      refine ⟨fun g => ?_, fun g => ?_⟩
      · (simp -implicitDefEqProofs only [go_sem]; repeat (refine GO ?_; simp -implicitDefEqProofs only [go_sem]))
        simp at g
        simp [hz, cmpR_long hi' (by omega)]
      · simp at g
        have hj' : i < b.length := by omega
        (simp -implicitDefEqProofs only [go_sem]; repeat (refine GO ?_; simp -implicitDefEqProofs only [go_sem]))
        refine EL.map hj' ?_
        (simp -implicitDefEqProofs only [go_sem, V.c]; repeat (refine GO ?_; simp -implicitDefEqProofs only [go_sem, V.c]))
        refine .pure _ (s45 a[i] b[i]) rfl fun r hr _ => ?_
        subst hr
        (simp -implicitDefEqProofs only [go_sem]; repeat (refine GO ?_; simp -implicitDefEqProofs only [go_sem]))
        refine ⟨fun e => ?_, fun e => ?_⟩
        · (simp -implicitDefEqProofs only [go_sem]; repeat (refine GO ?_; simp -implicitDefEqProofs only [go_sem]))
          simp at e
          simp [hz, cmpR_cons hi' hj', e]
        · (simp -implicitDefEqProofs only [go_sem]; repeat (refine GO ?_; simp -implicitDefEqProofs only [go_sem]))
          simp at e
          refine BACK.mk ⟨i + 1, hi', hj', by rw [hz, cmpR_cons hi' hj', if_pos e]⟩ [] rfl rfl (by show a.length - (i + 1) < a.length - i; omega) ?_
          (simp -implicitDefEqProofs only [go_sem, rowA]; repeat (refine GO ?_; simp -implicitDefEqProofs only [go_sem, rowA]))
          simp [wrap_succ hi' ha]
    · simp at h
      have hil : i = a.length := by omega
      (simp -implicitDefEqProofs only [go_sem]; repeat (refine GO ?_; simp -implicitDefEqProofs only [go_sem]))
      refine ⟨fun g => ?_, fun g => ?_⟩
      · (simp -implicitDefEqProofs only [go_sem]; repeat (refine GO ?_; simp -implicitDefEqProofs only [go_sem]))
        simp at g
        simp [hz, cmpR_end h hj hil, g]
      · (simp -implicitDefEqProofs only [go_sem]; repeat (refine GO ?_; simp -implicitDefEqProofs only [go_sem]))
        simp at g
        have : ¬ a.length < b.length := by omega
        simp [hz, cmpR_end h hj hil, this]

theorem s13 (a b : List V) (ha : a.length < 4611686018427387904) : Spec0 Try.prog 31 [rowA a, rowA b] (· = .pr (.int .i64 (cmpR a b))) := by
  refine spec0_of_vc tabOk elems ord31 Try.func31 rfl (rl := [.tmp 4]) rfl (by kernel_rfl) rfl ?_
  (simp -implicitDefEqProofs only [go_sem, rowA]; repeat (refine GO ?_; simp -implicitDefEqProofs only [go_sem, rowA]))
  refine .pure _ (s44 a b ha) rfl fun r hr _ => ?_
  subst hr
  (simp -implicitDefEqProofs only [go_sem]; repeat (refine GO ?_; simp -implicitDefEqProofs only [go_sem]))
end Yt
namespace Yt
open Go Go.Vc Go.Proofs
set_option maxRecDepth 10000

def noS : ByteArray := ⟨#[]⟩
def inB (x lo hi : Int) : Bool := decide (lo ≤ x) && decide (x ≤ hi)
def okV (v : V) : Bool :=
  if v.k = 1 then decide (v.i = 0) && decide (v.s = noS)
  else if v.k = 2 then inB v.i 0 1 && decide (v.s = noS)
  else if v.k = 3 then inB v.i (-1152921504606846976) 1152921504606846976 && decide (v.s = noS)
  else if v.k = 4 then decide (v.i = 0) && decide ((v.s.size : Int) ≤ 24)
  else false
def eqV (a b : V) : Bool := decide (a.k = b.k) && decide (a.i = b.i) && decide (a.s = b.s)
def bA (b : Bool) : AV := .pr (.bool b)
def iA (n : Int) : AV := .pr (.int .i64 n)

theorem s46 (a b : V) : Spec0 Try.prog 54 [.ag a.c, .ag b.c] (· = bA (eqV a b)) := by
  refine spec0_of_vc tabOk elems ord54 Try.func54 rfl (rl := [.tmp 4]) rfl (by kernel_rfl) rfl ?_
  (simp -implicitDefEqProofs only [go_sem, V.c]; repeat (refine GO ?_; simp -implicitDefEqProofs only [go_sem, V.c]))
  refine VIF.split (fun h => ?_) (fun h => ?_)
  · (simp -implicitDefEqProofs only [go_sem]; repeat (refine GO ?_; simp -implicitDefEqProofs only [go_sem]))
    refine VIF.split (fun g => ?_) (fun g => ?_)
    · (simp -implicitDefEqProofs only [go_sem]; repeat (refine GO ?_; simp -implicitDefEqProofs only [go_sem]))
      simp at h g; simp [h, g, eqV, bA]
    · (simp -implicitDefEqProofs only [go_sem]; repeat (refine GO ?_; simp -implicitDefEqProofs only [go_sem]))
      simp at h g; simp [h, g, eqV, bA]
  · (simp -implicitDefEqProofs only [go_sem]; repeat (refine GO ?_; simp -implicitDefEqProofs only [go_sem]))
    simp at h; simp [h, eqV, bA]

theorem s74 (x y : Int) (hy : 0 ≤ y) (hy' : y < 4611686018427387904) : Spec0 Try.prog 64 [iA x, iA y] (· = bA (inB x (-y) y)) := by
  refine spec0_of_vc tabOk elems ord64 Try.func64 rfl (rl := [.tmp 4]) rfl (by kernel_rfl) rfl ?_
  have hw : IntKind.i64.wrap (0 - y) = -y := by rw [wrap_i64] <;> omega
  (simp -implicitDefEqProofs only [go_sem, iA]; repeat (refine GO ?_; simp -implicitDefEqProofs only [go_sem, iA]))
  refine VIF.split (fun h => ?_) (fun h => ?_)
  · (simp -implicitDefEqProofs only [go_sem]; repeat (refine GO ?_; simp -implicitDefEqProofs only [go_sem]))
    rw [hw] at h
    simp at h; simp [h, inB, bA]
  · (simp -implicitDefEqProofs only [go_sem]; repeat (refine GO ?_; simp -implicitDefEqProofs only [go_sem]))
    rw [hw] at h
    simp at h; simp [h, inB, bA]; omega

theorem s64 (x y z : Int) : Spec0 Try.prog 63 [iA x, iA y, iA z] (· = bA (inB x y z)) := by
  refine spec0_of_vc tabOk elems ord63 Try.func63 rfl (rl := [.tmp 6]) rfl (by kernel_rfl) rfl ?_
  (simp -implicitDefEqProofs only [go_sem, iA]; repeat (refine GO ?_; simp -implicitDefEqProofs only [go_sem, iA]))
  refine VIF.split (fun h => ?_) (fun h => ?_)
  · (simp -implicitDefEqProofs only [go_sem]; repeat (refine GO ?_; simp -implicitDefEqProofs only [go_sem]))
    simp at h; simp [h, inB, bA]
  · (simp -implicitDefEqProofs only [go_sem]; repeat (refine GO ?_; simp -implicitDefEqProofs only [go_sem]))
    simp at h; simp [h, inB, bA]; omega
theorem s53 (x y z : Int) : Spec0 Try.prog 36 [iA x, iA y, iA z] (· = bA (inB x y z)) := by
  refine spec0_of_vc tabOk elems ord36 Try.func36 rfl (rl := [.tmp 6]) rfl (by kernel_rfl) rfl ?_
  (simp -implicitDefEqProofs only [go_sem, iA]; repeat (refine GO ?_; simp -implicitDefEqProofs only [go_sem, iA]))
  refine VIF.split (fun h => ?_) (fun h => ?_)
  · (simp -implicitDefEqProofs only [go_sem]; repeat (refine GO ?_; simp -implicitDefEqProofs only [go_sem]))
    simp at h; simp [h, inB, bA]
  · (simp -implicitDefEqProofs only [go_sem]; repeat (refine GO ?_; simp -implicitDefEqProofs only [go_sem]))
    simp at h; simp [h, inB, bA]; omega

theorem s69 (v : V) : Spec0 Try.prog 57 [.ag v.c] (· = iA (if okV v then 0 else 1)) := by
  refine spec0_of_vc tabOk elems ord57 Try.func57 rfl (rl := [.tmp 2]) rfl (by kernel_rfl) rfl ?_
  (simp -implicitDefEqProofs only [go_sem, V.c]; repeat (refine GO ?_; simp -implicitDefEqProofs only [go_sem, V.c]))
  iterate 9 all_goals (first
    | (refine VIF.split (fun h => ?_) (fun h => ?_) <;> (simp -implicitDefEqProofs only [go_sem]; repeat (refine GO ?_; simp -implicitDefEqProofs only [go_sem])))
    | (refine .pure _ (s74 v.i 1152921504606846976 (by decide) (by decide)) rfl fun r hr _ => ?_
       subst hr
       (simp -implicitDefEqProofs only [go_sem, bA]; repeat (refine GO ?_; simp -implicitDefEqProofs only [go_sem, bA])))
    | skip)
  all_goals simp_all [okV, inB, iA, bA, noS]
  all_goals (intros; omega)

theorem s59 (v : V) : Spec0 Try.prog 47 [.ag v.c] (· = bA (!okV v)) := by
  refine spec0_of_vc tabOk elems ord47 Try.func47 rfl (rl := [.tmp 2]) rfl (by kernel_rfl) rfl ?_
  (simp -implicitDefEqProofs only [go_sem, V.c]; repeat (refine GO ?_; simp -implicitDefEqProofs only [go_sem, V.c]))
  refine .pure _ (s69 v) rfl fun r hr _ => ?_
  subst hr
  (simp -implicitDefEqProofs only [go_sem, iA]; repeat (refine GO ?_; simp -implicitDefEqProofs only [go_sem, iA]))
  cases okV v <;> simp [bA]

def idxI : Option Nat → Int
  | some i => i
  | none => -1
def idxA {α : Type} (p : α → Bool) (l : List α) : AV := iA (idxI (l.findIdx? p))
theorem idx_any {α : Type} {p : α → Bool} {l : List α} : decide (0 ≤ idxI (l.findIdx? p)) = l.any p := by
  cases h : l.findIdx? p with
  | none => rw [List.findIdx?_eq_none_iff] at h; simp [idxI] at h ⊢; exact h
  | some i => rw [List.findIdx?_eq_some_iff_getElem] at h; obtain ⟨h1, h2, _⟩ := h; simp [idxI] at h2 ⊢; exact ⟨_, List.getElem_mem h1, h2⟩
theorem idx_none {α : Type} {p : α → Bool} {l : List α} (h : ∀ j (hj : j < l.length), p l[j] = false) : l.findIdx? p = none := by
  rw [List.findIdx?_eq_none_iff]
  intro x hx
  obtain ⟨j, hj, rfl⟩ := List.mem_iff_getElem.1 hx
  exact h j hj
theorem idx_some {α : Type} {p : α → Bool} {l : List α} {i : Nat} (hi : i < l.length) (h : ∀ j (hj : j < l.length), j < i → p l[j] = false) (hp : p l[i] = true) : l.findIdx? p = some i := by
  rw [List.findIdx?_eq_some_iff_getElem]
  exact ⟨hi, hp, fun j hj => by simp [h j (by omega) hj]⟩

theorem s68 (g : Nat) (caps : List AV) (hc : noIds caps = true) (p : V → Bool) (hg : ∀ v : V, Spec0 Try.prog g (.ag v.c :: caps) (· = bA (p v))) (a : List V) (ha : a.length < 4611686018427387904) :
    Spec0 Try.prog 56 [rowA a, .fn g caps] (· = idxA p a) := by
  refine spec0_of_vc tabOk elems ord56 Try.func56 rfl (rl := [.tmp 4]) rfl (by kernel_rfl) rfl ?_
  (simp -implicitDefEqProofs only [go_sem, rowA]; repeat (refine GO ?_; simp -implicitDefEqProofs only [go_sem, rowA]))
  refine LOOP.mk (ι := { i : Nat // i ≤ a.length ∧ ∀ j (hj : j < a.length), j < i → p a[j] = false }) (fun i => mkS [(0, rowA a), (1, .fn g caps), (7, .pr (.int .i64 a.length)), (8, .pr (.int .i64 i.1))] [] []) (fun i => a.length - i.1)
    ⟨0, by simp⟩ [] rfl rfl ?_ (fun i => ?_)
  · (simp -implicitDefEqProofs only [go_sem, rowA]; repeat (refine GO ?_; simp -implicitDefEqProofs only [go_sem, rowA]))
    simp [wks_noId caps hc]
  · obtain ⟨i, hi, hz⟩ := i
    (simp -implicitDefEqProofs only [go_sem, rowA]; repeat (refine GO ?_; simp -implicitDefEqProofs only [go_sem, rowA]))
    refine ⟨fun h => ?_, fun h => ?_⟩
    · simp only [decide_eq_true_eq] at h
      have hi' : i < a.length := by omega
      (simp -implicitDefEqProofs only [go_sem]; repeat (refine GO ?_; simp -implicitDefEqProofs only [go_sem]))
      refine EL.map hi' ?_
      (simp -implicitDefEqProofs only [go_sem, V.c]; repeat (refine GO ?_; simp -implicitDefEqProofs only [go_sem, V.c]))
      refine .pure _ (hg a[i]) ?_ fun r hr _ => ?_
      · simp [noIds, AV.noId, V.c, hc]
      subst hr
      (simp -implicitDefEqProofs only [go_sem, bA]; repeat (refine GO ?_; simp -implicitDefEqProofs only [go_sem, bA]))
      refine VIF.split (fun e => ?_) (fun e => ?_)
      · (simp -implicitDefEqProofs only [go_sem]; repeat (refine GO ?_; simp -implicitDefEqProofs only [go_sem]))
        simp [idxA, idxI, iA, idx_some hi' hz e]
      · (simp -implicitDefEqProofs only [go_sem]; repeat (refine GO ?_; simp -implicitDefEqProofs only [go_sem]))
        refine BACK.mk ⟨i + 1, hi', fun j hj hji => ?_⟩ [] rfl rfl (by show a.length - (i + 1) < a.length - i; omega) ?_
        · by_cases hji' : j = i
          · subst hji'; exact e
          · exact hz j hj (by omega)
        · (simp -implicitDefEqProofs only [go_sem, rowA]; repeat (refine GO ?_; simp -implicitDefEqProofs only [go_sem, rowA]))
          simp [wrap_succ hi' ha, wks_noId caps hc]
    · simp at h
      (simp -implicitDefEqProofs only [go_sem]; repeat (refine GO ?_; simp -implicitDefEqProofs only [go_sem]))
      simp [idxA, idxI, iA, idx_none fun j hj => hz j hj (by omega)]

def okR (r : List V) : Int := if 12 < r.length then 2 else if r.all okV then 0 else 1
theorem s58 (a : List V) (ha : a.length < 4611686018427387904) : Spec0 Try.prog 46 [rowA a, .fn 47 []] (· = bA (!a.all okV)) := by
  refine spec0_of_vc tabOk elems ord46 Try.func46 rfl (rl := [.tmp 4]) rfl (by kernel_rfl) rfl ?_
  (simp -implicitDefEqProofs only [go_sem, rowA]; repeat (refine GO ?_; simp -implicitDefEqProofs only [go_sem, rowA]))
  refine .pure _ (s68 47 [] rfl (fun v => !okV v) (fun v => s59 v) a ha) rfl fun r hr _ => ?_
  subst hr
  (simp -implicitDefEqProofs only [go_sem, idxA, iA]; repeat (refine GO ?_; simp -implicitDefEqProofs only [go_sem, idxA, iA]))
  rw [idx_any]
  simp [bA, List.not_all_eq_any_not]

theorem s36 (a : List V) (ha : a.length < 4611686018427387904) : Spec0 Try.prog 26 [rowA a] (· = iA (okR a)) := by
  refine spec0_of_vc tabOk elems ord26 Try.func26 rfl (rl := [.tmp 2]) rfl (by kernel_rfl) rfl ?_
  (simp -implicitDefEqProofs only [go_sem, rowA]; repeat (refine GO ?_; simp -implicitDefEqProofs only [go_sem, rowA]))
  refine VIF.split (fun h => ?_) (fun h => ?_)
  · (simp -implicitDefEqProofs only [go_sem]; repeat (refine GO ?_; simp -implicitDefEqProofs only [go_sem]))
    simp at h; simp [okR, iA]; omega
  · (simp -implicitDefEqProofs only [go_sem]; repeat (refine GO ?_; simp -implicitDefEqProofs only [go_sem]))
    refine .pure _ (s58 a ha) rfl fun r hr _ => ?_
    subst hr
    (simp -implicitDefEqProofs only [go_sem, bA]; repeat (refine GO ?_; simp -implicitDefEqProofs only [go_sem, bA]))
    simp at h
    have h' : ¬ 12 < a.length := by omega
    refine VIF.split (fun g => ?_) (fun g => ?_)
    · (simp -implicitDefEqProofs only [go_sem]; repeat (refine GO ?_; simp -implicitDefEqProofs only [go_sem]))
      simp only [Bool.not_eq_true'] at g
      simp [okR, iA, g, h']
    · (simp -implicitDefEqProofs only [go_sem]; repeat (refine GO ?_; simp -implicitDefEqProofs only [go_sem]))
      simp only [Bool.not_eq_false'] at g
      simp [okR, iA, g, h']

def okW (w : Int) : Bool := inB w (-72057594037927936) 72057594037927936
theorem s37 (w : Int) : Spec0 Try.prog 27 [iA w] (· = bA (okW w)) := by
  refine spec0_of_vc tabOk elems ord27 Try.func27 rfl (rl := [.tmp 2]) rfl (by kernel_rfl) rfl ?_
  (simp -implicitDefEqProofs only [go_sem, iA]; repeat (refine GO ?_; simp -implicitDefEqProofs only [go_sem, iA]))
  refine VIF.split (fun h => ?_) (fun h => ?_)
  · (simp -implicitDefEqProofs only [go_sem]; repeat (refine GO ?_; simp -implicitDefEqProofs only [go_sem]))
    simp at h; simp [h, okW, inB, bA]
  · (simp -implicitDefEqProofs only [go_sem]; repeat (refine GO ?_; simp -implicitDefEqProofs only [go_sem]))
    simp at h; simp [okW, inB, bA]; omega

structure It where
  row : List V
  w : Int
def It.c (t : It) : List AV := [rowA t.row, iA t.w]
def setA (z : List It) : AV := .im 2 (z.map It.c)
def okI (t : It) : Bool := decide (okR t.row = 0) && okW t.w
theorem s35 (t : It) (ht : t.row.length < 4611686018427387904) : Spec0 Try.prog 25 [.ag t.c] (· = bA (!okI t)) := by
  refine spec0_of_vc tabOk elems ord25 Try.func25 rfl (rl := [.tmp 2]) rfl (by kernel_rfl) rfl ?_
  (simp -implicitDefEqProofs only [go_sem, It.c, rowA, iA]; repeat (refine GO ?_; simp -implicitDefEqProofs only [go_sem, It.c, rowA, iA]))
  refine .pure _ (s36 t.row ht) rfl fun r hr _ => ?_
  subst hr
  (simp -implicitDefEqProofs only [go_sem, iA]; repeat (refine GO ?_; simp -implicitDefEqProofs only [go_sem, iA]))
  refine VIF.split (fun h => ?_) (fun h => ?_)
  · (simp -implicitDefEqProofs only [go_sem]; repeat (refine GO ?_; simp -implicitDefEqProofs only [go_sem]))
    simp at h; simp [okI, h, bA]
  · (simp -implicitDefEqProofs only [go_sem]; repeat (refine GO ?_; simp -implicitDefEqProofs only [go_sem]))
    refine .pure _ (s37 t.w) rfl fun r hr _ => ?_
    subst hr
    (simp -implicitDefEqProofs only [go_sem, bA]; repeat (refine GO ?_; simp -implicitDefEqProofs only [go_sem, bA]))
    simp at h; simp [okI, h]
theorem s40 (a b : It) (ha : a.row.length < 4611686018427387904) : Spec0 Try.prog 30 [.ag a.c, .ag b.c] (· = iA (cmpR a.row b.row)) := by
  refine spec0_of_vc tabOk elems ord30 Try.func30 rfl (rl := [.tmp 4]) rfl (by kernel_rfl) rfl ?_
  (simp -implicitDefEqProofs only [go_sem, It.c, rowA, iA]; repeat (refine GO ?_; simp -implicitDefEqProofs only [go_sem, It.c, rowA, iA]))
  refine .pure _ (s13 a.row b.row ha) rfl fun r hr _ => ?_
  subst hr
  (simp -implicitDefEqProofs only [go_sem]; repeat (refine GO ?_; simp -implicitDefEqProofs only [go_sem]))
  rfl
end Yt
namespace Yt
open Go Go.Vc Go.Proofs
set_option maxRecDepth 10000
set_option linter.unusedSimpArgs false
set_option linter.unusedVariables false
def so (z : List It) : Ob := ⟨2, z.map It.c⟩
theorem so_leafy (z : List It) : (so z).leafy := by
  rw [so, leafy_do]
  exact leafs2_map fun x _ => by simp [It.c, leafs, rowA, iA, AV.leaf]
structure Win (z z' : List It) (a b : Nat) : Prop where
  perm : z'.Perm z
  out : ∀ k, k < a ∨ b ≤ k → z'[k]? = z[k]?
  ins : ∀ k, a ≤ k → k < b → ∃ j, a ≤ j ∧ j < b ∧ z'[k]? = z[j]?
theorem Win.refl (z : List It) (a b : Nat) : Win z z a b := ⟨.refl _, fun _ _ => rfl, fun k h1 h2 => ⟨k, h1, h2, rfl⟩⟩
theorem Win.trans {x y z : List It} {a b : Nat} (h : Win x y a b) (g : Win y z a b) : Win x z a b := by
  refine ⟨g.perm.trans h.perm, fun k hk => (g.out k hk).trans (h.out k hk), fun k h1 h2 => ?_⟩
  obtain ⟨j, j1, j2, j3⟩ := g.ins k h1 h2
  obtain ⟨i, i1, i2, i3⟩ := h.ins j j1 j2
  exact ⟨i, i1, i2, j3.trans i3⟩
theorem Win.wide {x y : List It} {a b a' b' : Nat} (h : Win x y a b) (ha : a' ≤ a) (hb : b ≤ b') : Win x y a' b' := by
  refine ⟨h.perm, fun k hk => h.out k (by omega), fun k h1 h2 => ?_⟩
  by_cases hk : a ≤ k ∧ k < b
  · obtain ⟨j, j1, j2, j3⟩ := h.ins k hk.1 hk.2
    exact ⟨j, by omega, by omega, j3⟩
  · exact ⟨k, h1, h2, h.out k (by omega)⟩
theorem Win.len {x y : List It} {a b : Nat} (h : Win x y a b) : y.length = x.length := h.perm.length_eq
def swp (z : List It) (i j : Nat) (hi : i < z.length) (hj : j < z.length) : List It := (z.set i z[j]).set j z[i]
theorem swp_get {z : List It} {i j : Nat} (hi : i < z.length) (hj : j < z.length) (k : Nat) : (swp z i j hi hj)[k]? = if k = j then z[i]? else if k = i then z[j]? else z[k]? := by
  simp only [swp, List.getElem?_set, List.length_set]
  by_cases h1 : k = j
  · subst h1; simp [hj, hi]
  · have h1' : ¬ j = k := fun e => h1 e.symm
    rw [if_neg h1', if_neg h1]
    by_cases h2 : k = i
    · subst h2; simp [hi, hj]
    · have h2' : ¬ i = k := fun e => h2 e.symm
      rw [if_neg h2', if_neg h2]
theorem swp_win {z : List It} {i j a b : Nat} (hi : i < z.length) (hj : j < z.length) (h1 : a ≤ i) (h2 : i < b) (h3 : a ≤ j) (h4 : j < b) : Win z (swp z i j hi hj) a b := by
  refine ⟨?_, fun k hk => ?_, fun k k1 k2 => ?_⟩
  · exact List.set_set_perm hi hj
  · rw [swp_get, if_neg (by omega), if_neg (by omega)]
  · rw [swp_get]
    by_cases e1 : k = j
    · exact ⟨i, h1, h2, by rw [if_pos e1]⟩
    · by_cases e2 : k = i
      · exact ⟨j, h3, h4, by rw [if_neg e1, if_pos e2]⟩
      · exact ⟨k, k1, k2, by rw [if_neg e1, if_neg e2]⟩
theorem swp_map {z : List It} {i j : Nat} (hi : i < z.length) (hj : j < z.length) : ((z.map It.c).set i (It.c z[j])).set j (It.c z[i]) = (swp z i j hi hj).map It.c := by
  simp [swp, List.map_set]

theorem wrap_add {a b : Nat} (h : a + b < 4611686018427387904) : IntKind.i64.wrap ((a : Int) + (b : Int)) = ((a + b : Nat) : Int) := by rw [wrap_i64] <;> omega
theorem wrap_sub {a b : Nat} (h : b ≤ a) (h' : a < 4611686018427387904) : IntKind.i64.wrap ((a : Int) - (b : Int)) = ((a - b : Nat) : Int) := by rw [wrap_i64] <;> omega
theorem wrap_add1 {a : Nat} (h : a < 4611686018427387904) : IntKind.i64.wrap ((a : Int) + 1) = ((a + 1 : Nat) : Int) := by rw [wrap_i64] <;> omega
theorem wrap_sub1 {a : Nat} (h : 1 ≤ a) (h' : a < 4611686018427387904) : IntKind.i64.wrap ((a : Int) - 1) = ((a - 1 : Nat) : Int) := by rw [wrap_i64] <;> omega
structure Sw (z z' : List It) (a b n : Nat) : Prop where
  win : Win z z' a (b + n)
  get : ∀ k, z'[k]? = if a ≤ k ∧ k < a + n then z[k - a + b]? else if b ≤ k ∧ k < b + n then z[k - b + a]? else z[k]?
theorem Sw.zero (z : List It) (a b : Nat) : Sw z z a b 0 := ⟨.refl _ _ _, fun k => by rw [if_neg (by omega), if_neg (by omega)]⟩
theorem Sw.succ {z z' : List It} {a b n : Nat} (h : Sw z z' a b n) (hab : a + (n + 1) ≤ b) (ha : a + n < z'.length) (hb : b + n < z'.length) : Sw z (swp z' (a + n) (b + n) ha hb) a b (n + 1) := by
  refine ⟨(h.win.wide (Nat.le_refl _) (by omega)).trans (swp_win ha hb (by omega) (by omega) (by omega) (by omega)), fun k => ?_⟩
  rw [swp_get]
  by_cases e1 : k = b + n
  · rw [if_pos e1, h.get, if_neg (by omega), if_neg (by omega), if_neg (by omega), if_pos (by omega)]; congr 1; omega
  · rw [if_neg e1]
    by_cases e2 : k = a + n
    · rw [if_pos e2, h.get, if_neg (by omega), if_neg (by omega), if_pos (by omega)]; congr 1; omega
    · rw [if_neg e2, h.get]
      by_cases e3 : a ≤ k ∧ k < a + n
      · rw [if_pos e3, if_pos (by omega)]
      · by_cases e4 : b ≤ k ∧ k < b + n
        · rw [if_neg e3, if_pos e4, if_neg (by omega), if_pos (by omega)]
        · rw [if_neg e3, if_neg e4, if_neg (by omega), if_neg (by omega)]

theorem s76 (g : Nat) (z : List It) (a b n : Nat) (h1 : a + n ≤ b) (h2 : b + n ≤ z.length) (hl : z.length < 2305843009213693952) :
    SpecO Try.prog 68 [.rf 0 0 z.length, iA a, iA b, iA n, .fn g []] (so z) (fun r o' => r = .tu [] ∧ ∃ z', o' = so z' ∧ Sw z z' a b n) := by
  refine specO_of_vc tabOk elems ord68 Try.func68 rfl (rl := []) rfl (by kernel_rfl) rfl ?_
  (simp -implicitDefEqProofs only [go_sem, iA, so]; repeat (refine GO ?_; simp -implicitDefEqProofs only [go_sem, iA, so]))
  refine LOOP.mk (ι := { p : Nat × List It // p.1 ≤ n ∧ Sw z p.2 a b p.1 }) (fun p => mkS [(0, .rf 0 0 z.length), (1, iA a), (2, iA b), (3, iA n), (10, iA p.1.1)] [(0, so p.1.2)] [0]) (fun p => n - p.1.1)
    ⟨(0, z), by simp, .zero _ _ _⟩ [(0, some 0)] rfl rfl ?_ (fun p => ?_)
  · (simp -implicitDefEqProofs only [go_sem, iA, so]; repeat (refine GO ?_; simp -implicitDefEqProofs only [go_sem, iA, so]))
    exact ⟨rfl, .same (so z) _ _ (so_leafy z) rfl⟩
  · obtain ⟨⟨i, y⟩, hi, hs⟩ := p
    have hlen := hs.win.len
    simp only at hi hs hlen
    (simp -implicitDefEqProofs only [go_sem, iA, so]; repeat (refine GO ?_; simp -implicitDefEqProofs only [go_sem, iA, so]))
    refine VIF.split (fun h => ?_) (fun h => ?_)
    · simp only [decide_eq_true_eq] at h
      have hb : b + i < y.length := by omega
      have ha : a + i < y.length := by omega
      have w1 := wrap_add (show b + i < 4611686018427387904 by omega)
      have w2 := wrap_add (show a + i < 4611686018427387904 by omega)
      (simp -implicitDefEqProofs only [go_sem, w1, w2]; repeat (refine GO ?_; simp -implicitDefEqProofs only [go_sem, w1, w2]))
      refine ⟨by omega, EL.map hb ?_⟩
      (simp -implicitDefEqProofs only [go_sem, It.c, w1, w2]; repeat (refine GO ?_; simp -implicitDefEqProofs only [go_sem, It.c, w1, w2]))
      refine ⟨by omega, EL.map ha ?_⟩
      (simp -implicitDefEqProofs only [go_sem, It.c, w1, w2]; repeat (refine GO ?_; simp -implicitDefEqProofs only [go_sem, It.c, w1, w2]))
      refine ⟨by omega, EL.map ha ?_⟩
      (simp -implicitDefEqProofs only [go_sem, It.c, w1, w2]; repeat (refine GO ?_; simp -implicitDefEqProofs only [go_sem, It.c, w1, w2]))
      refine ⟨by omega, EL.setmap (by omega) hb ?_⟩
      (simp -implicitDefEqProofs only [go_sem, It.c, w1, w2]; repeat (refine GO ?_; simp -implicitDefEqProofs only [go_sem, It.c, w1, w2]))
      have w3 := wrap_add1 (show i < 4611686018427387904 by omega)
      refine BACK.mk ⟨(i + 1, swp y (a + i) (b + i) ha hb), by show i + 1 ≤ n; omega, hs.succ (by omega) ha hb⟩ [(0, some 0)] rfl rfl (by show n - (i + 1) < n - i; omega) ?_
      (simp -implicitDefEqProofs only [go_sem, iA, so, w3]; repeat (refine GO ?_; simp -implicitDefEqProofs only [go_sem, iA, so, w3]))
      exact .same (so (swp y (a + i) (b + i) ha hb)) _ _ (fun x hx => so_leafy (swp y (a + i) (b + i) ha hb) x (by rw [so, ← swp_map]; exact hx)) (swp_map ha hb)
    · simp at h
      have hin : i = n := by omega
      subst hin
      (simp -implicitDefEqProofs only [go_sem]; repeat (refine GO ?_; simp -implicitDefEqProofs only [go_sem]))
      refine FIN_O (o' := so y) rfl ?_ (so_leafy y) ?_
      · rfl
      · exact ⟨so y, ⟨⟨rfl, y, rfl, hs⟩, rfl⟩, so_leafy y, rfl⟩
end Yt
namespace Yt
open Go Go.Vc Go.Proofs
set_option maxRecDepth 10000
set_option linter.unusedSimpArgs false
set_option linter.unusedVariables false
def rotG (y : List It) (i j m k : Nat) : Option It := if m - i ≤ k ∧ k < m - i + j then y[k + i]? else if m - i + j ≤ k ∧ k < m + j then y[k - j]? else y[k]?
structure Rot (z z' : List It) (a m b : Nat) : Prop where
  win : Win z z' a b
  get : ∀ k, z'[k]? = rotG z (m - a) (b - m) m k
theorem rot_left {y y' : List It} {i j m : Nat} (hj : j < i) (hi : i ≤ m) (h : Sw y y' (m - i) m j) (k : Nat) : rotG y' (i - j) j m k = rotG y i j m k := by
  simp only [rotG]
  by_cases h1 : k < m - i
  · repeat (first | rw [if_pos (by omega)] | rw [if_neg (by omega)])
    rw [h.get]
    repeat (first | rw [if_pos (by omega)] | rw [if_neg (by omega)])
  · by_cases h2 : k < m - i + j
    · rw [if_neg (by omega), if_neg (by omega), if_pos (by omega), h.get, if_pos (by omega)]
      congr 1; omega
    · by_cases h3 : k < m
      · by_cases h4 : k < m - (i - j) + j
        · rw [if_pos (by omega), if_neg (by omega), if_pos (by omega), h.get]
          by_cases h5 : k + (i - j) < m
          · rw [if_neg (by omega), if_neg (by omega)]
            omega
          · rw [if_neg (by omega), if_pos (by omega)]; congr 1; omega
        · rw [if_neg (by omega), if_pos (by omega), if_neg (by omega), if_pos (by omega), h.get, if_neg (by omega), if_neg (by omega)]
      · by_cases h4 : k < m + j
        · by_cases h6 : k < m - (i - j) + j
          · rw [if_pos (by omega), if_neg (by omega), if_pos (by omega), h.get, if_neg (by omega), if_pos (by omega)]; congr 1; omega
          · rw [if_neg (by omega), if_pos (by omega), if_neg (by omega), if_pos (by omega), h.get, if_neg (by omega), if_neg (by omega)]
        · rw [if_neg (by omega), if_neg (by omega), if_neg (by omega), if_neg (by omega), h.get, if_neg (by omega), if_neg (by omega)]
theorem rot_right {y y' : List It} {i j m : Nat} (hj : i < j) (hi : i ≤ m) (h : Sw y y' (m - i) (m + j - i) i) (k : Nat) : rotG y' i (j - i) m k = rotG y i j m k := by
  simp only [rotG]
  by_cases h1 : k < m - i
  · rw [if_neg (by omega), if_neg (by omega), if_neg (by omega), if_neg (by omega), h.get, if_neg (by omega), if_neg (by omega)]
  · by_cases h2 : k < m - i + (j - i)
    · rw [if_pos (by omega), if_pos (by omega), h.get, if_neg (by omega), if_neg (by omega)]
    · by_cases h3 : k < m + (j - i)
      · rw [if_neg (by omega), if_pos (by omega), h.get]
        by_cases h4 : k < m - i + j
        · rw [if_pos (by omega), if_pos (by omega)]; congr 1; omega
        · omega
      · by_cases h4 : k < m + j
        · rw [if_neg (by omega), if_neg (by omega), h.get, if_neg (by omega), if_pos (by omega)]
          by_cases h5 : k < m - i + j
          · omega
          · rw [if_neg (by omega), if_pos (by omega)]; congr 1; omega
        · rw [if_neg (by omega), if_neg (by omega), if_neg (by omega), if_neg (by omega), h.get, if_neg (by omega), if_neg (by omega)]
theorem rot_end {y y' : List It} {i m : Nat} (hi : i ≤ m) (h : Sw y y' (m - i) m i) (k : Nat) : y'[k]? = rotG y i i m k := by
  rw [h.get]
  simp only [rotG]
  by_cases h1 : k < m - i
  · rw [if_neg (by omega), if_neg (by omega), if_neg (by omega), if_neg (by omega)]
  · by_cases h2 : k < m
    · rw [if_pos (by omega), if_pos (by omega)]; congr 1; omega
    · by_cases h3 : k < m + i
      · rw [if_neg (by omega), if_pos (by omega), if_neg (by omega), if_pos (by omega)]; congr 1; omega
      · rw [if_neg (by omega), if_neg (by omega), if_neg (by omega), if_neg (by omega)]

theorem s75 (g : Nat) (z : List It) (a m b : Nat) (h1 : a < m) (h2 : m < b) (h3 : b ≤ z.length) (hl : z.length < 2305843009213693952) :
    SpecO Try.prog 65 [.rf 0 0 z.length, iA a, iA m, iA b, .fn g []] (so z) (fun r o' => r = .tu [] ∧ ∃ z', o' = so z' ∧ Rot z z' a m b) := by
  refine specO_of_vc tabOk elems ord65 Try.func65 rfl (rl := []) rfl (by kernel_rfl) rfl ?_
  (simp -implicitDefEqProofs only [go_sem, iA, so]; repeat (refine GO ?_; simp -implicitDefEqProofs only [go_sem, iA, so]))
  refine LOOP.mk (ι := { p : Nat × Nat × List It // 0 < p.1 ∧ 0 < p.2.1 ∧ p.1 ≤ m - a ∧ p.2.1 ≤ b - m ∧ Win z p.2.2 a b ∧ ∀ k, rotG p.2.2 p.1 p.2.1 m k = rotG z (m - a) (b - m) m k })
    (fun p => mkS [(0, .rf 0 0 z.length), (1, iA a), (2, iA m), (3, iA b), (4, .fn g []), (10, iA p.1.1), (11, iA p.1.2.1)] [(0, so p.1.2.2)] [0]) (fun p => p.1.1 + p.1.2.1)
    ⟨(m - a, b - m, z), by show 0 < m - a; omega, by show 0 < b - m; omega, Nat.le_refl _, Nat.le_refl _, .refl _ _ _, fun _ => rfl⟩ [(0, some 0)] rfl rfl ?_ (fun p => ?_)
  · have w1 := wrap_sub (show a ≤ m by omega) (by omega)
    have w2 := wrap_sub (show m ≤ b by omega) (by omega)
    (simp -implicitDefEqProofs only [go_sem, iA, so, w1, w2]; repeat (refine GO ?_; simp -implicitDefEqProofs only [go_sem, iA, so, w1, w2]))
    exact .same (so z) _ _ (so_leafy z) rfl
  · obtain ⟨⟨i, j, y⟩, hi0, hj0, hi, hj, hw, hg⟩ := p
    have hlen := hw.len
    simp only at hi0 hj0 hi hj hw hg hlen
    (simp -implicitDefEqProofs only [go_sem, iA, so]; repeat (refine GO ?_; simp -implicitDefEqProofs only [go_sem, iA, so]))
    refine VIF.split (fun h => ?_) (fun h => ?_)
    · (simp -implicitDefEqProofs only [go_sem]; repeat (refine GO ?_; simp -implicitDefEqProofs only [go_sem]))
      simp at h
      refine VIF.split (fun e => ?_) (fun e => ?_)
      · simp at e
        have w1 := wrap_sub (show i ≤ m by omega) (by omega)
        (simp -implicitDefEqProofs only [go_sem, w1]; repeat (refine GO ?_; simp -implicitDefEqProofs only [go_sem, w1]))
        rw [← hlen]
        refine .obj 0 (so y) _ _ (s76 g y (m - i) m j (by omega) (by omega) (by omega)) rfl (so_leafy y) rfl rfl fun r o' hr _ _ => ?_
        obtain ⟨rfl, y', rfl, hs⟩ := hr
        have w2 := wrap_sub (show j ≤ i by omega) (by omega)
        (simp -implicitDefEqProofs only [go_sem, w2]; repeat (refine GO ?_; simp -implicitDefEqProofs only [go_sem, w2]))
        refine BACK.mk ⟨(i - j, j, y'), by show 0 < i - j; omega, hj0, by show i - j ≤ m - a; omega, hj, hw.trans (hs.win.wide (by omega) (by omega)), fun k => (rot_left e (by omega) hs k).trans (hg k)⟩ [(0, some 0)] rfl rfl (by show i - j + j < i + j; omega) ?_
        (simp -implicitDefEqProofs only [go_sem, iA, so]; repeat (refine GO ?_; simp -implicitDefEqProofs only [go_sem, iA, so]))
        exact .same (so y') _ _ (so_leafy y') rfl
      · simp at e
        have hlt : i < j := by omega
        have w1 := wrap_sub (show i ≤ m by omega) (by omega)
        have w2 := wrap_add (show m + j < 4611686018427387904 by omega)
        have w3 := wrap_sub (show i ≤ m + j by omega) (by omega)
        (simp -implicitDefEqProofs only [go_sem, w1, w2, w3]; repeat (refine GO ?_; simp -implicitDefEqProofs only [go_sem, w1, w2, w3]))
        rw [← hlen]
        refine .obj 0 (so y) _ _ (s76 g y (m - i) (m + j - i) i (by omega) (by omega) (by omega)) rfl (so_leafy y) rfl rfl fun r o' hr _ _ => ?_
        obtain ⟨rfl, y', rfl, hs⟩ := hr
        have w4 := wrap_sub (show i ≤ j by omega) (by omega)
        (simp -implicitDefEqProofs only [go_sem, w4]; repeat (refine GO ?_; simp -implicitDefEqProofs only [go_sem, w4]))
        refine BACK.mk ⟨(i, j - i, y'), hi0, by show 0 < j - i; omega, hi, by show j - i ≤ b - m; omega, hw.trans (hs.win.wide (by omega) (by omega)), fun k => (rot_right hlt (by omega) hs k).trans (hg k)⟩ [(0, some 0)] rfl rfl (by show i + (j - i) < i + j; omega) ?_
        (simp -implicitDefEqProofs only [go_sem, iA, so]; repeat (refine GO ?_; simp -implicitDefEqProofs only [go_sem, iA, so]))
        exact .same (so y') _ _ (so_leafy y') rfl
    · simp at h
      have hij : i = j := by omega
      subst hij
      have w1 := wrap_sub (show i ≤ m by omega) (by omega)
      (simp -implicitDefEqProofs only [go_sem, w1]; repeat (refine GO ?_; simp -implicitDefEqProofs only [go_sem, w1]))
      rw [← hlen]
      refine .obj 0 (so y) _ _ (s76 g y (m - i) m i (by omega) (by omega) (by omega)) rfl (so_leafy y) rfl rfl fun r o' hr _ _ => ?_
      obtain ⟨rfl, y', rfl, hs⟩ := hr
      (simp -implicitDefEqProofs only [go_sem]; repeat (refine GO ?_; simp -implicitDefEqProofs only [go_sem]))
      refine FIN_O (o' := so y') rfl ?_ (so_leafy y') ?_
      · rfl
      · exact ⟨so y', ⟨⟨rfl, y', rfl, hw.trans (hs.win.wide (by omega) (by omega)), fun k => (rot_end (by omega) hs k).trans (hg k)⟩, rfl⟩, so_leafy y', rfl⟩
end Yt
namespace Yt
open Go Go.Vc Go.Proofs
set_option maxRecDepth 10000
set_option linter.unusedSimpArgs false
set_option linter.unusedVariables false
structure Cmp (c : It → It → Int) : Prop where
  tot : ∀ x y, ¬ c y x < 0 → c x y ≤ 0
  trans : ∀ x y z, c x y ≤ 0 → c y z ≤ 0 → c x z ≤ 0
def leO (c : It → It → Int) (a b : Option It) : Prop := ∀ x y, a = some x → b = some y → c x y ≤ 0
def SR (c : It → It → Int) (z : List It) (a b : Nat) : Prop := ∀ i j, a ≤ i → i < j → j < b → leO c z[i]? z[j]?
structure Ins (c : It → It → Int) (z : List It) (a j i : Nat) : Prop where
  but : ∀ p q, a ≤ p → p < q → q ≤ i → p ≠ j → q ≠ j → leO c z[p]? z[q]?
  at' : ∀ q, j < q → q ≤ i → leO c z[j]? z[q]?
theorem Ins.start {c : It → It → Int} {z : List It} {a i : Nat} (h : SR c z a i) : Ins c z a i i :=
  ⟨fun p q h1 h2 h3 h4 h5 => h p q h1 h2 (by omega), fun q h1 h2 => by omega⟩
theorem Ins.done {c : It → It → Int} (hc : Cmp c) {z : List It} {a j i : Nat} (h : Ins c z a j i) (hj : j = a ∨ (a < j ∧ leO c z[j - 1]? z[j]?)) (hi : i < z.length) (hji : j ≤ i) : SR c z a (i + 1) := by
  intro p q h1 h2 h3
  by_cases e1 : p = j
  · subst e1; exact h.at' q h2 (by omega)
  · by_cases e2 : q = j
    · subst e2
      rcases hj with hj | ⟨hj, hle⟩
      · omega
      · by_cases e3 : p = q - 1
        · subst e3; exact hle
        · intro x y hx hy
          have hlt : q - 1 < z.length := by omega
          have k1 := h.but p (q - 1) h1 (by omega) (by omega) e1 (by omega) x z[q - 1] hx (List.getElem?_eq_getElem hlt)
          exact hc.trans _ _ _ k1 (hle _ _ (List.getElem?_eq_getElem hlt) hy)
    · exact h.but p q h1 h2 (by omega) e1 e2
theorem Ins.step {c : It → It → Int} {z : List It} {a j i : Nat} (h : Ins c z a j i) (hj : a < j) (hji : j ≤ i) (h1 : j < z.length) (h2 : j - 1 < z.length) (hlt : c z[j] z[j - 1] < 0) : Ins c (swp z j (j - 1) h1 h2) a (j - 1) i := by
  refine ⟨fun p q k1 k2 k3 k4 k5 => ?_, fun q k1 k2 => ?_⟩
  · rw [swp_get, swp_get, if_neg k4, if_neg k5]
    by_cases e1 : p = j
    · rw [if_pos e1, if_neg (by omega)]
      exact h.but (j - 1) q (by omega) (by omega) k3 (by omega) (by omega)
    · rw [if_neg e1]
      by_cases e2 : q = j
      · rw [if_pos e2]; exact h.but p (j - 1) k1 (by omega) (by omega) e1 (by omega)
      · rw [if_neg e2]; exact h.but p q k1 k2 k3 e1 e2
  · rw [swp_get, swp_get, if_pos rfl, if_neg (by omega)]
    by_cases e : q = j
    · rw [if_pos e]
      intro x y hx hy
      rw [List.getElem?_eq_getElem h1] at hx
      rw [List.getElem?_eq_getElem h2] at hy
      cases hx; cases hy; omega
    · rw [if_neg e]; exact h.at' q (by omega) k2

theorem s70 (g : Nat) (c : It → It → Int) (hc : Cmp c) (B : It → Prop) (hg : ∀ x y, B x → B y → Spec0 Try.prog g [.ag x.c, .ag y.c] (· = iA (c x y))) (z : List It) (hB : ∀ x ∈ z, B x) (a b : Nat) (h1 : a ≤ b) (h2 : b ≤ z.length) (hl : z.length < 2305843009213693952) :
    SpecO Try.prog 58 [.rf 0 0 z.length, iA a, iA b, .fn g []] (so z) (fun r o' => r = .tu [] ∧ ∃ z', o' = so z' ∧ Win z z' a b ∧ SR c z' a b) := by
  refine specO_of_vc tabOk elems ord58 Try.func58 rfl (rl := []) rfl (by kernel_rfl) rfl ?_
  have w1 := wrap_add1 (show a < 4611686018427387904 by omega)
  (simp -implicitDefEqProofs only [go_sem, iA, so, w1]; repeat (refine GO ?_; simp -implicitDefEqProofs only [go_sem, iA, so, w1]))
  refine LOOP.mk (ι := { p : Nat × List It // a < p.1 ∧ (p.1 ≤ b ∨ p.1 = a + 1) ∧ Win z p.2 a b ∧ SR c p.2 a p.1 })
    (fun p => mkS [(0, .rf 0 0 z.length), (1, iA a), (2, iA b), (3, .fn g []), (8, iA p.1.1)] [(0, so p.1.2)] [0]) (fun p => b + 1 - p.1.1)
    ⟨(a + 1, z), by show a < a + 1; omega, .inr rfl, .refl _ _ _, fun i j k1 k2 k3 => by omega⟩ [(0, some 0)] rfl rfl ?_ (fun p => ?_)
  · (simp -implicitDefEqProofs only [go_sem, iA, so]; repeat (refine GO ?_; simp -implicitDefEqProofs only [go_sem, iA, so]))
    exact .same (so z) _ _ (so_leafy z) rfl
  · obtain ⟨⟨i, y⟩, hai, hib, hw, hs⟩ := p
    have hlen := hw.len
    simp only at hai hib hw hs hlen
    (simp -implicitDefEqProofs only [go_sem, iA, so]; repeat (refine GO ?_; simp -implicitDefEqProofs only [go_sem, iA, so]))
    refine VIF.split (fun h => ?_) (fun h => ?_)
    · (simp -implicitDefEqProofs only [go_sem]; repeat (refine GO ?_; simp -implicitDefEqProofs only [go_sem]))
      simp at h
      refine LOOP.mk (ι := { p : Nat × List It // a ≤ p.1 ∧ p.1 ≤ i ∧ Win z p.2 a b ∧ Ins c p.2 a p.1 i })
        (fun p => mkS [(0, .rf 0 0 z.length), (1, iA a), (2, iA b), (3, .fn g []), (8, iA i), (9, iA p.1.1)] [(0, so p.1.2)] [0]) (fun p => p.1.1)
        ⟨(i, y), by show a ≤ i; omega, Nat.le_refl _, hw, .start hs⟩ [(0, some 0)] rfl rfl ?_ (fun p => ?_)
      · (simp -implicitDefEqProofs only [go_sem, iA, so]; repeat (refine GO ?_; simp -implicitDefEqProofs only [go_sem, iA, so]))
        exact .same (so y) _ _ (so_leafy y) rfl
      · obtain ⟨⟨j, x⟩, haj, hji, hwx, hins⟩ := p
        have hlx := hwx.len
        simp only at haj hji hwx hins hlx
        (simp -implicitDefEqProofs only [go_sem, iA, so]; repeat (refine GO ?_; simp -implicitDefEqProofs only [go_sem, iA, so]))
        refine VIF.split (fun e => ?_) (fun e => ?_)
        · simp at e
          have w2 := wrap_sub1 (show 1 ≤ j by omega) (by omega)
          have hj1 : j < x.length := by omega
          have hj2 : j - 1 < x.length := by omega
          have hx1 : B x[j] := hB _ (hwx.perm.subset (List.getElem_mem hj1))
          have hx2 : B x[j - 1] := hB _ (hwx.perm.subset (List.getElem_mem hj2))
          (simp -implicitDefEqProofs only [go_sem, w2]; repeat (refine GO ?_; simp -implicitDefEqProofs only [go_sem, w2]))
          refine ⟨by omega, EL.map hj1 ?_⟩
          (simp -implicitDefEqProofs only [go_sem, It.c, w2]; repeat (refine GO ?_; simp -implicitDefEqProofs only [go_sem, It.c, w2]))
          refine ⟨by omega, EL.map hj2 ?_⟩
          (simp -implicitDefEqProofs only [go_sem, It.c, w2]; repeat (refine GO ?_; simp -implicitDefEqProofs only [go_sem, It.c, w2]))
          refine .pure _ (hg x[j] x[j - 1] hx1 hx2) rfl fun r hr _ => ?_
          subst hr
          (simp -implicitDefEqProofs only [go_sem, iA]; repeat (refine GO ?_; simp -implicitDefEqProofs only [go_sem, iA]))
          refine VIF.split (fun q => ?_) (fun q => ?_)
          · simp at q
            (simp -implicitDefEqProofs only [go_sem, w2]; repeat (refine GO ?_; simp -implicitDefEqProofs only [go_sem, w2]))
            refine ⟨by omega, EL.map hj2 ?_⟩
            (simp -implicitDefEqProofs only [go_sem, It.c, w2]; repeat (refine GO ?_; simp -implicitDefEqProofs only [go_sem, It.c, w2]))
            refine ⟨by omega, EL.map hj1 ?_⟩
            (simp -implicitDefEqProofs only [go_sem, It.c, w2]; repeat (refine GO ?_; simp -implicitDefEqProofs only [go_sem, It.c, w2]))
            refine ⟨by omega, EL.map hj1 ?_⟩
            (simp -implicitDefEqProofs only [go_sem, It.c, w2]; repeat (refine GO ?_; simp -implicitDefEqProofs only [go_sem, It.c, w2]))
            refine ⟨by omega, EL.setmap (by omega) hj2 ?_⟩
            (simp -implicitDefEqProofs only [go_sem, It.c, w2]; repeat (refine GO ?_; simp -implicitDefEqProofs only [go_sem, It.c, w2]))
            refine BACK.mk ⟨(j - 1, swp x j (j - 1) hj1 hj2), by show a ≤ j - 1; omega, by show j - 1 ≤ i; omega, hwx.trans (swp_win _ _ (by omega) (by omega) (by omega) (by omega)), hins.step e hji hj1 hj2 q⟩ [(0, some 0)] rfl rfl (by show j - 1 < j; omega) ?_
            (simp -implicitDefEqProofs only [go_sem, iA, so]; repeat (refine GO ?_; simp -implicitDefEqProofs only [go_sem, iA, so]))
            exact .same (so (swp x j (j - 1) hj1 hj2)) _ _ (fun u hu => so_leafy (swp x j (j - 1) hj1 hj2) u (by rw [so, ← swp_map]; exact hu)) (swp_map hj1 hj2)
          · simp at q
            have w3 := wrap_add1 (show i < 4611686018427387904 by omega)
            (simp -implicitDefEqProofs only [go_sem, w3]; repeat (refine GO ?_; simp -implicitDefEqProofs only [go_sem, w3]))
            have hd := hins.done hc (.inr ⟨e, fun u v hu hv => by
              rw [List.getElem?_eq_getElem hj2] at hu
              rw [List.getElem?_eq_getElem hj1] at hv
              cases hu; cases hv
              exact hc.tot _ _ (by omega)⟩) (by omega) hji
            refine BACK.mk ⟨(i + 1, x), by show a < i + 1; omega, .inl (by show i + 1 ≤ b; omega), hwx, hd⟩ [(0, some 0)] rfl rfl (by show b + 1 - (i + 1) < b + 1 - i; omega) ?_
            (simp -implicitDefEqProofs only [go_sem, iA, so]; repeat (refine GO ?_; simp -implicitDefEqProofs only [go_sem, iA, so]))
            exact .same (so x) _ _ (so_leafy x) rfl
        · simp at e
          have w3 := wrap_add1 (show i < 4611686018427387904 by omega)
          (simp -implicitDefEqProofs only [go_sem, w3]; repeat (refine GO ?_; simp -implicitDefEqProofs only [go_sem, w3]))
          have hd := hins.done hc (.inl (by omega)) (by omega) hji
          refine BACK.mk ⟨(i + 1, x), by show a < i + 1; omega, .inl (by show i + 1 ≤ b; omega), hwx, hd⟩ [(0, some 0)] rfl rfl (by show b + 1 - (i + 1) < b + 1 - i; omega) ?_
          (simp -implicitDefEqProofs only [go_sem, iA, so]; repeat (refine GO ?_; simp -implicitDefEqProofs only [go_sem, iA, so]))
          exact .same (so x) _ _ (so_leafy x) rfl
    · simp at h
      (simp -implicitDefEqProofs only [go_sem]; repeat (refine GO ?_; simp -implicitDefEqProofs only [go_sem]))
      refine FIN_O (o' := so y) rfl ?_ (so_leafy y) ?_
      · rfl
      · exact ⟨so y, ⟨⟨rfl, y, rfl, hw, fun p q k1 k2 k3 => hs p q k1 k2 (by omega)⟩, rfl⟩, so_leafy y, rfl⟩
end Yt
namespace Yt
open Go Go.Vc Go.Proofs
set_option linter.unusedSimpArgs false
set_option linter.unusedVariables false
section
variable {c : It → It → Int} (hc : Cmp c) {z y z1 z2 z3 : List It} {a m b s e mid i : Nat}
include hc
theorem leO.trans {x y z : Option It} (h : leO c x y) (g : leO c y z) (hy : y ≠ none) : leO c x z := by
  intro u v hu hv
  cases y with
  | none => exact absurd rfl hy
  | some w => exact hc.trans _ _ _ (h u w hu rfl) (g w v rfl hv)
theorem SR.le (h : SR c z a b) (hb : b ≤ z.length) {p q : Nat} (h1 : a ≤ p) (h2 : p < q) (h3 : q < b) : leO c z[p]? z[q]? := h p q h1 h2 h3
theorem some_ne {k : Nat} (h : k < z.length) : z[k]? ≠ none := by simp [h]

theorem merge_one (h2 : SR c z m b) (hm : m = a + 1) (hi : m ≤ i) (hib : i ≤ b) (hb : b ≤ z.length) (lo : i = m ∨ leO c z[i - 1]? z[a]?) (hi2 : i = b ∨ leO c z[a]? z[i]?)
    (hy : ∀ k, y[k]? = if a ≤ k ∧ k < i - 1 then z[k + 1]? else if k = i - 1 then z[a]? else z[k]?) : SR c y a b := by
  intro p q k1 k2 k3
  rw [hy, hy]
  by_cases e1 : p < i - 1
  · rw [if_pos ⟨k1, e1⟩]
    by_cases e2 : q < i - 1
    · rw [if_pos ⟨by omega, e2⟩]; exact h2 _ _ (by omega) (by omega) (by omega)
    · rw [if_neg (by omega)]
      by_cases e3 : q = i - 1
      · rw [if_pos e3]
        have hlo := lo.resolve_left (by omega)
        by_cases e4 : p + 1 = i - 1
        · rw [e4]; exact hlo
        · exact leO.trans hc (h2 (p + 1) (i - 1) (by omega) (by omega) (by omega)) hlo (some_ne hc (by omega))
      · rw [if_neg e3]; exact h2 _ _ (by omega) (by omega) (by omega)
  · by_cases e3 : p = i - 1
    · rw [if_neg (by omega), if_pos e3, if_neg (by omega), if_neg (by omega)]
      have hhi := hi2.resolve_left (by omega)
      by_cases e4 : q = i
      · rw [e4]; exact hhi
      · exact leO.trans hc hhi (h2 i q (by omega) (by omega) (by omega)) (some_ne hc (by omega))
    · rw [if_neg (by omega), if_neg e3, if_neg (by omega), if_neg (by omega)]; exact h2 _ _ (by omega) (by omega) (by omega)

theorem merge_last (h1 : SR c z a m) (hm : b = m + 1) (hi : a ≤ i) (him : i ≤ m) (hb : b ≤ z.length) (lo : i = a ∨ leO c z[i - 1]? z[m]?) (hi2 : i = m ∨ leO c z[m]? z[i]?)
    (hy : ∀ k, y[k]? = if i < k ∧ k ≤ m then z[k - 1]? else if k = i then z[m]? else z[k]?) : SR c y a b := by
  intro p q k1 k2 k3
  rw [hy, hy]
  by_cases e1 : p < i
  · rw [if_neg (by omega), if_neg (by omega)]
    by_cases e2 : q < i
    · rw [if_neg (by omega), if_neg (by omega)]; exact h1 _ _ k1 k2 (by omega)
    · by_cases e3 : q = i
      · rw [if_neg (by omega), if_pos e3]
        have hlo := lo.resolve_left (by omega)
        by_cases e4 : p = i - 1
        · rw [e4]; exact hlo
        · exact leO.trans hc (h1 p (i - 1) k1 (by omega) (by omega)) hlo (some_ne hc (by omega))
      · rw [if_pos (by omega)]; exact h1 _ _ k1 (by omega) (by omega)
  · by_cases e2 : p = i
    · rw [if_neg (by omega), if_pos e2, if_pos (by omega)]
      have hhi := hi2.resolve_left (by omega)
      by_cases e4 : q - 1 = i
      · rw [e4]; exact hhi
      · exact leO.trans hc hhi (h1 i (q - 1) (by omega) (by omega) (by omega)) (some_ne hc (by omega))
    · rw [if_pos (by omega), if_pos (by omega)]; exact h1 _ _ (by omega) (by omega) (by omega)

theorem rot_runs (h1 : SR c z a m) (h2 : SR c z m b) (hs : a ≤ s) (hsm : s ≤ m) (hme : m ≤ e) (heb : e ≤ b) (hb : b ≤ z.length) (hmid : mid = s + (e - m))
    (lo : s = a ∨ e = b ∨ leO c z[s - 1]? z[e]?) (hi : s = m ∨ e = m ∨ leO c z[e - 1]? z[s]?) (hy : ∀ k, y[k]? = rotG z (m - s) (e - m) m k) :
    SR c y a s ∧ SR c y s mid ∧ SR c y mid e ∧ SR c y e b ∧ ∀ p q, a ≤ p → p < mid → mid ≤ q → q < b → leO c y[p]? y[q]? := by
  have f1 : ∀ k, k < s → y[k]? = z[k]? := fun k hk => by rw [hy, rotG, if_neg (by omega), if_neg (by omega)]
  have f2 : ∀ k, s ≤ k → k < mid → y[k]? = z[k + (m - s)]? := fun k h1 h2 => by rw [hy, rotG, if_pos (by omega)]
  have f3 : ∀ k, mid ≤ k → k < e → y[k]? = z[k - (e - m)]? := fun k h1 h2 => by rw [hy, rotG, if_neg (by omega), if_pos (by omega)]
  have f4 : ∀ k, e ≤ k → y[k]? = z[k]? := fun k hk => by rw [hy, rotG, if_neg (by omega), if_neg (by omega)]
  refine ⟨fun p q k1 k2 k3 => ?_, fun p q k1 k2 k3 => ?_, fun p q k1 k2 k3 => ?_, fun p q k1 k2 k3 => ?_, fun p q k1 k2 k3 k4 => ?_⟩
  · rw [f1 p (by omega), f1 q (by omega)]; exact h1 _ _ k1 k2 (by omega)
  · rw [f2 p (by omega) (by omega), f2 q (by omega) (by omega)]; exact h2 _ _ (by omega) (by omega) (by omega)
  · rw [f3 p (by omega) (by omega), f3 q (by omega) (by omega)]; exact h1 _ _ (by omega) (by omega) (by omega)
  · rw [f4 p (by omega), f4 q (by omega)]; exact h2 _ _ (by omega) (by omega) (by omega)
  · -- A1 or B1 against A2 or B2
    by_cases e1 : p < s
    · rw [f1 p e1]
      by_cases e2 : q < e
      · rw [f3 q k3 e2]; exact h1 _ _ k1 (by omega) (by omega)
      · rw [f4 q (by omega)]
        have hlo : leO c z[s - 1]? z[e]? := by
          rcases lo with h | h | h
          · omega
          · omega
          · exact h
        have g1 : leO c z[p]? z[e]? := by
          by_cases e3 : p = s - 1
          · rw [e3]; exact hlo
          · exact leO.trans hc (h1 p (s - 1) k1 (by omega) (by omega)) hlo (some_ne hc (by omega))
        by_cases e4 : q = e
        · rw [e4]; exact g1
        · exact leO.trans hc g1 (h2 e q (by omega) (by omega) k4) (some_ne hc (by omega))
    · rw [f2 p (by omega) k2]
      by_cases e2 : q < e
      · rw [f3 q k3 e2]
        have hhi : leO c z[e - 1]? z[s]? := by
          rcases hi with h | h | h
          · omega
          · omega
          · exact h
        have g1 : leO c z[p + (m - s)]? z[s]? := by
          by_cases e3 : p + (m - s) = e - 1
          · rw [e3]; exact hhi
          · exact leO.trans hc (h2 (p + (m - s)) (e - 1) (by omega) (by omega) (by omega)) hhi (some_ne hc (by omega))
        by_cases e4 : q - (e - m) = s
        · rw [e4]; exact g1
        · exact leO.trans hc g1 (h1 s (q - (e - m)) (by omega) (by omega) (by omega)) (some_ne hc (by omega))
      · rw [f4 q (by omega)]; exact h2 _ _ (by omega) (by omega) k4

theorem merge_fin (hsep : ∀ p q, a ≤ p → p < mid → mid ≤ q → q < b → leO c z1[p]? z1[q]?) (w1 : Win z1 z2 a mid) (s1 : SR c z2 a mid) (w2 : Win z2 z3 mid b) (s2 : SR c z3 mid b) : SR c z3 a b := by
  intro p q k1 k2 k3
  by_cases e1 : q < mid
  · rw [w2.out p (.inl (by omega)), w2.out q (.inl e1)]; exact s1 p q k1 k2 e1
  · by_cases e2 : p < mid
    · rw [w2.out p (.inl e2)]
      obtain ⟨q', j1, j2, j3⟩ := w2.ins q (by omega) k3
      obtain ⟨p', i1, i2, i3⟩ := w1.ins p k1 e2
      rw [j3, i3, w1.out q' (.inr j1)]
      exact hsep p' q' i1 i2 j1 j2
    · exact s2 p q (by omega) k2 k3
end
end Yt
namespace Yt
open Go Go.Vc Go.Proofs
set_option maxRecDepth 10000
set_option maxHeartbeats 8000000
set_option linter.unusedSimpArgs false
set_option linter.unusedVariables false
theorem half {n : Nat} (h : n < 4611686018427387904) : IntKind.i64.wrap (IntKind.u64.wrap (n : Int) / 2 ^ min (Int.toNat 1) 64) = ((n / 2 : Nat) : Int) := by
  have h1 : IntKind.u64.wrap (n : Int) = n := by simp only [IntKind.wrap, IntKind.bits, IntKind.signed]; simp; omega
  have h2 : (2 : Int) ^ min (Int.toNat 1) 64 = 2 := by decide
  rw [h1, h2, wrap_i64] <;> omega
theorem s71 (g : Nat) (c : It → It → Int) (hc : Cmp c) (B : It → Prop) (hg : ∀ x y, B x → B y → Spec0 Try.prog g [.ag x.c, .ag y.c] (· = iA (c x y))) : ∀ (d : Nat) (z : List It) (hB : ∀ x ∈ z, B x) (a m b : Nat) (hd : b - a ≤ d) (h1 : a < m) (h2 : m < b) (h3 : b ≤ z.length) (hl : z.length < 2305843009213693952)
    (r1 : SR c z a m) (r2 : SR c z m b),
    SpecO Try.prog 59 [.rf 0 0 z.length, iA a, iA m, iA b, .fn g []] (so z) (fun r o' => r = .tu [] ∧ ∃ z', o' = so z' ∧ Win z z' a b ∧ SR c z' a b) := by
  intro d
  induction d with
  | zero => intro z hB a m b hd h1 h2; omega
  | succ d ih =>
    have ihL : ∀ (d' : Nat) (_ : ∀ (z : List It) (_ : ∀ x ∈ z, B x) (a m b : Nat), b - a ≤ d' → a < m → m < b → b ≤ z.length → z.length < 2305843009213693952 → SR c z a m → SR c z m b →
        SpecO Try.prog 59 [.rf 0 0 z.length, iA a, iA m, iA b, .fn g []] (so z) (fun r o' => r = .tu [] ∧ ∃ z', o' = so z' ∧ Win z z' a b ∧ SR c z' a b)) {N : Nat} (z : List It) (_ : z.length = N) (_ : ∀ x ∈ z, B x) (a m b : Nat), b - a ≤ d' → a < m → m < b → b ≤ N → N < 2305843009213693952 → SR c z a m → SR c z m b →
        SpecO Try.prog 59 [.rf 0 0 N, iA a, iA m, iA b, .fn g []] (so z) (fun r o' => r = .tu [] ∧ ∃ z', o' = so z' ∧ Win z z' a b ∧ SR c z' a b) := by
      intro d' ih' N z hN hB a m b k1 k2 k3 k4 k5 k6 k7
      subst hN
      exact ih' z hB a m b k1 k2 k3 k4 k5 k6 k7
    intro z hB a m b hd h1 h2 h3 hl r1 r2
    refine specO_of_vc tabOk elems ord59 Try.func59 rfl (rl := []) rfl (by kernel_rfl) rfl ?_
    have w1 := wrap_sub (show a ≤ m by omega) (by omega)
    (simp -implicitDefEqProofs only [go_sem, iA, so, w1]; repeat (refine GO ?_; simp -implicitDefEqProofs only [go_sem, iA, so, w1]))
    refine VIF.split (fun h => ?_) (fun h => ?_)
    · simp at h
      have hm : m = a + 1 := by omega
      (simp -implicitDefEqProofs only [go_sem]; repeat (refine GO ?_; simp -implicitDefEqProofs only [go_sem]))
      refine LOOP.mk (ι := { p : Nat × Nat // m ≤ p.1 ∧ p.1 ≤ p.2 ∧ p.2 ≤ b ∧ (p.1 = m ∨ leO c z[p.1 - 1]? z[a]?) ∧ (p.2 = b ∨ leO c z[a]? z[p.2]?) })
        (fun p => mkS [(0, .rf 0 0 z.length), (1, iA a), (2, iA m), (3, iA b), (4, .fn g []), (10, iA p.1.1), (11, iA p.1.2)] [(0, so z)] [0]) (fun p => p.1.2 - p.1.1)
        ⟨(m, b), Nat.le_refl _, by show m ≤ b; omega, Nat.le_refl _, .inl rfl, .inl rfl⟩ [(0, some 0)] rfl rfl ?_ (fun p => ?_)
      · (simp -implicitDefEqProofs only [go_sem, iA, so]; repeat (refine GO ?_; simp -implicitDefEqProofs only [go_sem, iA, so]))
        exact .same (so z) _ _ (so_leafy z) rfl
      · obtain ⟨⟨i, j⟩, hi, hij, hj, lo, hi2⟩ := p
        simp only at hi hij hj lo hi2
        (simp -implicitDefEqProofs only [go_sem, iA, so]; repeat (refine GO ?_; simp -implicitDefEqProofs only [go_sem, iA, so]))
        refine VIF.split (fun e => ?_) (fun e => ?_)
        · simp at e
          have w2 := wrap_add (show i + j < 4611686018427387904 by omega)
          have w3 := half (show i + j < 4611686018427387904 by omega)
          have hh1 : (i + j) / 2 < j := by omega
          have hh2 : i ≤ (i + j) / 2 := by omega
          generalize hhd : (i + j) / 2 = hh at *
          have hz1 : hh < z.length := by omega
          have hz2 : a < z.length := by omega
          (simp -implicitDefEqProofs only [go_sem, w2, w3]; repeat (refine GO ?_; simp -implicitDefEqProofs only [go_sem, w2, w3]))
          refine ⟨by decide, by omega, EL.map hz1 ?_⟩
          (simp -implicitDefEqProofs only [go_sem, It.c, w2, w3]; repeat (refine GO ?_; simp -implicitDefEqProofs only [go_sem, It.c, w2, w3]))
          refine ⟨by omega, EL.map hz2 ?_⟩
          (simp -implicitDefEqProofs only [go_sem, It.c, w2, w3]; repeat (refine GO ?_; simp -implicitDefEqProofs only [go_sem, It.c, w2, w3]))
          refine .pure _ (hg z[hh] z[a] (hB _ (List.getElem_mem _)) (hB _ (List.getElem_mem _))) rfl fun r hr _ => ?_
          subst hr
          (simp -implicitDefEqProofs only [go_sem, iA]; repeat (refine GO ?_; simp -implicitDefEqProofs only [go_sem, iA]))
          refine VIF.split (fun q => ?_) (fun q => ?_)
          · simp at q
            have w4 := wrap_add1 (show hh < 4611686018427387904 by omega)
            (simp -implicitDefEqProofs only [go_sem, w4]; repeat (refine GO ?_; simp -implicitDefEqProofs only [go_sem, w4]))
            refine BACK.mk ⟨(hh + 1, j), by show m ≤ hh + 1; omega, by show hh + 1 ≤ j; omega, hj, .inr fun u v hu hv => ?_, hi2⟩ [(0, some 0)] rfl rfl (by show j - (hh + 1) < j - i; omega) ?_
            · simp only [Nat.add_sub_cancel, List.getElem?_eq_getElem hz1, List.getElem?_eq_getElem hz2] at hu hv
              cases hu; cases hv; omega
            · (simp -implicitDefEqProofs only [go_sem, iA, so]; repeat (refine GO ?_; simp -implicitDefEqProofs only [go_sem, iA, so]))
              exact .same (so z) _ _ (so_leafy z) rfl
          · simp at q
            (simp -implicitDefEqProofs only [go_sem]; repeat (refine GO ?_; simp -implicitDefEqProofs only [go_sem]))
            refine BACK.mk ⟨(i, hh), hi, hh2, by show hh ≤ b; omega, lo, .inr fun u v hu hv => ?_⟩ [(0, some 0)] rfl rfl (by show hh - i < j - i; omega) ?_
            · simp only [List.getElem?_eq_getElem hz1, List.getElem?_eq_getElem hz2] at hu hv
              cases hu; cases hv; exact hc.tot _ _ (by omega)
            · (simp -implicitDefEqProofs only [go_sem, iA, so]; repeat (refine GO ?_; simp -implicitDefEqProofs only [go_sem, iA, so]))
              exact .same (so z) _ _ (so_leafy z) rfl
        · simp at e
          have hij' : i = j := by omega
          subst hij'
          (simp -implicitDefEqProofs only [go_sem]; repeat (refine GO ?_; simp -implicitDefEqProofs only [go_sem]))
          refine LOOP.mk (ι := { p : Nat × List It // a ≤ p.1 ∧ p.1 ≤ i - 1 ∧ Win z p.2 a b ∧ ∀ k, p.2[k]? = if a ≤ k ∧ k < p.1 then z[k + 1]? else if k = p.1 then z[a]? else z[k]? })
            (fun p => mkS [(0, .rf 0 0 z.length), (10, iA i), (13, iA p.1.1)] [(0, so p.1.2)] [0]) (fun p => i - p.1.1)
            ⟨(a, z), Nat.le_refl _, by show a ≤ i - 1; omega, .refl _ _ _, fun k => by
              show z[k]? = if a ≤ k ∧ k < a then z[k + 1]? else if k = a then z[a]? else z[k]?
              rw [if_neg (by omega)]; split <;> simp_all⟩ [(0, some 0)] rfl rfl ?_ (fun p => ?_)
          · (simp -implicitDefEqProofs only [go_sem, iA, so]; repeat (refine GO ?_; simp -implicitDefEqProofs only [go_sem, iA, so]))
            exact .same (so z) _ _ (so_leafy z) rfl
          · obtain ⟨⟨k, y⟩, hk1, hk2, hw, hy⟩ := p
            have hlen := hw.len
            simp only at hk1 hk2 hw hy hlen
            have w5 := wrap_sub1 (show 1 ≤ i by omega) (by omega)
            (simp -implicitDefEqProofs only [go_sem, iA, so, w5]; repeat (refine GO ?_; simp -implicitDefEqProofs only [go_sem, iA, so, w5]))
            refine VIF.split (fun e => ?_) (fun e => ?_)
            · simp only [decide_eq_true_eq] at e
              have w6 := wrap_add1 (show k < 4611686018427387904 by omega)
              have g1 : k < y.length := by omega
              have g2 : k + 1 < y.length := by omega
              (simp -implicitDefEqProofs only [go_sem, w6]; repeat (refine GO ?_; simp -implicitDefEqProofs only [go_sem, w6]))
              refine ⟨by omega, EL.map g2 ?_⟩
              (simp -implicitDefEqProofs only [go_sem, It.c, w6]; repeat (refine GO ?_; simp -implicitDefEqProofs only [go_sem, It.c, w6]))
              refine ⟨by omega, EL.map g1 ?_⟩
              (simp -implicitDefEqProofs only [go_sem, It.c, w6]; repeat (refine GO ?_; simp -implicitDefEqProofs only [go_sem, It.c, w6]))
              refine ⟨by omega, EL.map g1 ?_⟩
              (simp -implicitDefEqProofs only [go_sem, It.c, w6]; repeat (refine GO ?_; simp -implicitDefEqProofs only [go_sem, It.c, w6]))
              refine ⟨by omega, EL.setmap (by omega) g2 ?_⟩
              (simp -implicitDefEqProofs only [go_sem, It.c, w6]; repeat (refine GO ?_; simp -implicitDefEqProofs only [go_sem, It.c, w6]))
              refine BACK.mk ⟨(k + 1, swp y k (k + 1) g1 g2), by show a ≤ k + 1; omega, by show k + 1 ≤ i - 1; omega, hw.trans (swp_win _ _ (by omega) (by omega) (by omega) (by omega)), fun q => ?_⟩ [(0, some 0)] rfl rfl (by show i - (k + 1) < i - k; omega) ?_
              · show (swp y k (k + 1) g1 g2)[q]? = if a ≤ q ∧ q < k + 1 then z[q + 1]? else if q = k + 1 then z[a]? else z[q]?
                rw [swp_get]
                by_cases e1 : q = k + 1
                · rw [if_pos e1, if_neg (by omega), if_pos e1, hy, if_neg (by omega), if_pos rfl]
                · by_cases e2 : q = k
                  · rw [if_neg e1, if_pos e2, if_pos (by omega), hy, if_neg (by omega), if_neg (by omega), e2]
                  · rw [if_neg e1, if_neg e2, hy]
                    by_cases e3 : a ≤ q ∧ q < k
                    · rw [if_pos e3, if_pos (by omega)]
                    · rw [if_neg e3, if_neg e2, if_neg (by omega), if_neg e1]
              · (simp -implicitDefEqProofs only [go_sem, iA, so]; repeat (refine GO ?_; simp -implicitDefEqProofs only [go_sem, iA, so]))
                exact .same (so (swp y k (k + 1) g1 g2)) _ _ (fun u hu => so_leafy (swp y k (k + 1) g1 g2) u (by rw [so, ← swp_map]; exact hu)) (swp_map g1 g2)
            · simp only [decide_eq_false_iff_not] at e
              have hki : k = i - 1 := by omega
              subst hki
              (simp -implicitDefEqProofs only [go_sem]; repeat (refine GO ?_; simp -implicitDefEqProofs only [go_sem]))
              refine FIN_O (o' := so y) rfl ?_ (so_leafy y) ?_
              · rfl
              · exact ⟨so y, ⟨⟨rfl, y, rfl, hw, merge_one hc r2 hm hi (by omega) h3 lo hi2 hy⟩, rfl⟩, so_leafy y, rfl⟩
    · simp at h
      have v1 := wrap_sub (show m ≤ b by omega) (by omega)
      (simp -implicitDefEqProofs only [go_sem, v1]; repeat (refine GO ?_; simp -implicitDefEqProofs only [go_sem, v1]))
      refine VIF.split (fun h' => ?_) (fun h' => ?_)
      · simp at h'
        have hm : b = m + 1 := by omega
        (simp -implicitDefEqProofs only [go_sem]; repeat (refine GO ?_; simp -implicitDefEqProofs only [go_sem]))
        refine LOOP.mk (ι := { p : Nat × Nat // a ≤ p.1 ∧ p.1 ≤ p.2 ∧ p.2 ≤ m ∧ (p.1 = a ∨ leO c z[p.1 - 1]? z[m]?) ∧ (p.2 = m ∨ leO c z[m]? z[p.2]?) })
          (fun p => mkS [(0, .rf 0 0 z.length), (1, iA a), (2, iA m), (3, iA b), (4, .fn g []), (14, iA p.1.1), (15, iA p.1.2)] [(0, so z)] [0]) (fun p => p.1.2 - p.1.1)
          ⟨(a, m), Nat.le_refl _, by show a ≤ m; omega, Nat.le_refl _, .inl rfl, .inl rfl⟩ [(0, some 0)] rfl rfl ?_ (fun p => ?_)
        · (simp -implicitDefEqProofs only [go_sem, iA, so]; repeat (refine GO ?_; simp -implicitDefEqProofs only [go_sem, iA, so]))
          exact .same (so z) _ _ (so_leafy z) rfl
        · obtain ⟨⟨i, j⟩, hi, hij, hj, lo, hi2⟩ := p
          simp only at hi hij hj lo hi2
          (simp -implicitDefEqProofs only [go_sem, iA, so]; repeat (refine GO ?_; simp -implicitDefEqProofs only [go_sem, iA, so]))
          refine VIF.split (fun e => ?_) (fun e => ?_)
          · simp at e
            have w2 := wrap_add (show i + j < 4611686018427387904 by omega)
            have w3 := half (show i + j < 4611686018427387904 by omega)
            have hh1 : (i + j) / 2 < j := by omega
            have hh2 : i ≤ (i + j) / 2 := by omega
            generalize hhd : (i + j) / 2 = hh at *
            have hz1 : hh < z.length := by omega
            have hz2 : m < z.length := by omega
            (simp -implicitDefEqProofs only [go_sem, w2, w3]; repeat (refine GO ?_; simp -implicitDefEqProofs only [go_sem, w2, w3]))
            refine ⟨by decide, by omega, EL.map hz2 ?_⟩
            (simp -implicitDefEqProofs only [go_sem, It.c, w2, w3]; repeat (refine GO ?_; simp -implicitDefEqProofs only [go_sem, It.c, w2, w3]))
            refine ⟨by omega, EL.map hz1 ?_⟩
            (simp -implicitDefEqProofs only [go_sem, It.c, w2, w3]; repeat (refine GO ?_; simp -implicitDefEqProofs only [go_sem, It.c, w2, w3]))
            refine .pure _ (hg z[m] z[hh] (hB _ (List.getElem_mem _)) (hB _ (List.getElem_mem _))) rfl fun r hr _ => ?_
            subst hr
            (simp -implicitDefEqProofs only [go_sem, iA]; repeat (refine GO ?_; simp -implicitDefEqProofs only [go_sem, iA]))
            refine VIF.split (fun q => ?_) (fun q => ?_)
            · simp at q
              have w4 := wrap_add1 (show hh < 4611686018427387904 by omega)
              (simp -implicitDefEqProofs only [go_sem, w4]; repeat (refine GO ?_; simp -implicitDefEqProofs only [go_sem, w4]))
              refine BACK.mk ⟨(hh + 1, j), by show a ≤ hh + 1; omega, by show hh + 1 ≤ j; omega, hj, .inr fun u v hu hv => ?_, hi2⟩ [(0, some 0)] rfl rfl (by show j - (hh + 1) < j - i; omega) ?_
              · simp only [Nat.add_sub_cancel, List.getElem?_eq_getElem hz1, List.getElem?_eq_getElem hz2] at hu hv
                cases hu; cases hv; exact hc.tot _ _ (by omega)
              · (simp -implicitDefEqProofs only [go_sem, iA, so]; repeat (refine GO ?_; simp -implicitDefEqProofs only [go_sem, iA, so]))
                exact .same (so z) _ _ (so_leafy z) rfl
            · simp at q
              (simp -implicitDefEqProofs only [go_sem]; repeat (refine GO ?_; simp -implicitDefEqProofs only [go_sem]))
              refine BACK.mk ⟨(i, hh), hi, hh2, by show hh ≤ m; omega, lo, .inr fun u v hu hv => ?_⟩ [(0, some 0)] rfl rfl (by show hh - i < j - i; omega) ?_
              · simp only [List.getElem?_eq_getElem hz1, List.getElem?_eq_getElem hz2] at hu hv
                cases hu; cases hv; omega
              · (simp -implicitDefEqProofs only [go_sem, iA, so]; repeat (refine GO ?_; simp -implicitDefEqProofs only [go_sem, iA, so]))
                exact .same (so z) _ _ (so_leafy z) rfl
          · simp at e
            have hij' : i = j := by omega
            subst hij'
            (simp -implicitDefEqProofs only [go_sem]; repeat (refine GO ?_; simp -implicitDefEqProofs only [go_sem]))
            refine LOOP.mk (ι := { p : Nat × List It // i ≤ p.1 ∧ p.1 ≤ m ∧ Win z p.2 a b ∧ ∀ k, p.2[k]? = if p.1 < k ∧ k ≤ m then z[k - 1]? else if k = p.1 then z[m]? else z[k]? })
              (fun p => mkS [(0, .rf 0 0 z.length), (14, iA i), (17, iA p.1.1)] [(0, so p.1.2)] [0]) (fun p => p.1.1)
              ⟨(m, z), by show i ≤ m; omega, Nat.le_refl _, .refl _ _ _, fun k => by
                show z[k]? = if m < k ∧ k ≤ m then z[k - 1]? else if k = m then z[m]? else z[k]?
                rw [if_neg (by omega)]; split <;> simp_all⟩ [(0, some 0)] rfl rfl ?_ (fun p => ?_)
            · (simp -implicitDefEqProofs only [go_sem, iA, so]; repeat (refine GO ?_; simp -implicitDefEqProofs only [go_sem, iA, so]))
              exact .same (so z) _ _ (so_leafy z) rfl
            · obtain ⟨⟨k, y⟩, hk1, hk2, hw, hy⟩ := p
              have hlen := hw.len
              simp only at hk1 hk2 hw hy hlen
              (simp -implicitDefEqProofs only [go_sem, iA, so]; repeat (refine GO ?_; simp -implicitDefEqProofs only [go_sem, iA, so]))
              refine VIF.split (fun e => ?_) (fun e => ?_)
              · simp at e
                have w6 := wrap_sub1 (show 1 ≤ k by omega) (by omega)
                have g1 : k < y.length := by omega
                have g2 : k - 1 < y.length := by omega
                (simp -implicitDefEqProofs only [go_sem, w6]; repeat (refine GO ?_; simp -implicitDefEqProofs only [go_sem, w6]))
                refine ⟨by omega, EL.map g2 ?_⟩
                (simp -implicitDefEqProofs only [go_sem, It.c, w6]; repeat (refine GO ?_; simp -implicitDefEqProofs only [go_sem, It.c, w6]))
                refine ⟨by omega, EL.map g1 ?_⟩
                (simp -implicitDefEqProofs only [go_sem, It.c, w6]; repeat (refine GO ?_; simp -implicitDefEqProofs only [go_sem, It.c, w6]))
                refine ⟨by omega, EL.map g1 ?_⟩
                (simp -implicitDefEqProofs only [go_sem, It.c, w6]; repeat (refine GO ?_; simp -implicitDefEqProofs only [go_sem, It.c, w6]))
                refine ⟨by omega, EL.setmap (by omega) g2 ?_⟩
                (simp -implicitDefEqProofs only [go_sem, It.c, w6]; repeat (refine GO ?_; simp -implicitDefEqProofs only [go_sem, It.c, w6]))
                refine BACK.mk ⟨(k - 1, swp y k (k - 1) g1 g2), by show i ≤ k - 1; omega, by show k - 1 ≤ m; omega, hw.trans (swp_win _ _ (by omega) (by omega) (by omega) (by omega)), fun q => ?_⟩ [(0, some 0)] rfl rfl (by show k - 1 < k; omega) ?_
                · show (swp y k (k - 1) g1 g2)[q]? = if k - 1 < q ∧ q ≤ m then z[q - 1]? else if q = k - 1 then z[m]? else z[q]?
                  rw [swp_get]
                  by_cases e1 : q = k - 1
                  · rw [if_pos e1, if_neg (by omega), if_pos e1, hy, if_neg (by omega), if_pos rfl]
                  · by_cases e2 : q = k
                    · rw [if_neg e1, if_pos e2, if_pos (by omega), hy, if_neg (by omega), if_neg (by omega), e2]
                    · rw [if_neg e1, if_neg e2, hy]
                      by_cases e3 : k < q ∧ q ≤ m
                      · rw [if_pos e3, if_pos (by omega)]
                      · rw [if_neg e3, if_neg e2, if_neg (by omega), if_neg e1]
                · (simp -implicitDefEqProofs only [go_sem, iA, so]; repeat (refine GO ?_; simp -implicitDefEqProofs only [go_sem, iA, so]))
                  exact .same (so (swp y k (k - 1) g1 g2)) _ _ (fun u hu => so_leafy (swp y k (k - 1) g1 g2) u (by rw [so, ← swp_map]; exact hu)) (swp_map g1 g2)
              · simp at e
                have hki : k = i := by omega
                subst hki
                (simp -implicitDefEqProofs only [go_sem]; repeat (refine GO ?_; simp -implicitDefEqProofs only [go_sem]))
                refine FIN_O (o' := so y) rfl ?_ (so_leafy y) ?_
                · rfl
                · exact ⟨so y, ⟨⟨rfl, y, rfl, hw, merge_last hc r1 hm hi (by omega) h3 lo hi2 hy⟩, rfl⟩, so_leafy y, rfl⟩
      · simp at h'
        (simp -implicitDefEqProofs only [go_sem]; repeat (refine GO ?_; simp -implicitDefEqProofs only [go_sem]))
        have u1 := wrap_add (show a + b < 4611686018427387904 by omega)
        have u2 := half (show a + b < 4611686018427387904 by omega)
        have hm1 : a < (a + b) / 2 := by omega
        have hm2 : (a + b) / 2 < b := by omega
        generalize hmd : (a + b) / 2 = mid at *
        have u3 := wrap_add (show mid + m < 4611686018427387904 by omega)
        (simp -implicitDefEqProofs only [go_sem, u1, u2, u3]; repeat (refine GO ?_; simp -implicitDefEqProofs only [go_sem, u1, u2, u3]))
        refine ⟨by decide, ?_⟩
        refine VIF.join (ι := { p : Nat × Nat // a ≤ p.1 ∧ p.1 ≤ p.2 ∧ p.2 ≤ mid ∧ p.2 ≤ m ∧ mid + m - p.1 ≤ b ∧ (p.1 = a ∨ mid + m - p.1 = b) ∧ (p.2 = m ∨ mid + m - p.2 = m) })
          (fun p => mkS [(0, .rf 0 0 z.length), (1, iA a), (2, iA m), (3, iA b), (4, .fn g []), (18, iA mid), (19, iA (mid + m : Nat)), (20, iA p.1.1), (21, iA p.1.2)] [(0, so z)] [0]) (fun hmm => ?_) (fun hmm => ?_) (fun p => ?_)
        · simp at hmm
          have w := wrap_sub (show b ≤ mid + m by omega) (by omega)
          (simp -implicitDefEqProofs only [go_sem, w, u1, u2, u3]; repeat (refine GO ?_; simp -implicitDefEqProofs only [go_sem, w, u1, u2, u3]))
          refine JB.mk ⟨(mid + m - b, mid), by show a ≤ mid + m - b; omega, by show mid + m - b ≤ mid; omega, by show mid ≤ mid; omega, by show mid ≤ m; omega, by show mid + m - (mid + m - b) ≤ b; omega, .inr (by show mid + m - (mid + m - b) = b; omega), .inr (by show mid + m - mid = m; omega)⟩ [(0, some 0)] rfl rfl ?_
          (simp -implicitDefEqProofs only [go_sem, iA, so, w, u1, u2, u3]; repeat (refine GO ?_; simp -implicitDefEqProofs only [go_sem, iA, so, w, u1, u2, u3]))
          exact .same (so z) _ _ (so_leafy z) rfl
        · simp at hmm
          (simp -implicitDefEqProofs only [go_sem, u1, u2, u3]; repeat (refine GO ?_; simp -implicitDefEqProofs only [go_sem, u1, u2, u3]))
          refine JB.mk ⟨(a, m), Nat.le_refl _, by show a ≤ m; omega, by show m ≤ mid; omega, Nat.le_refl _, by show mid + m - a ≤ b; omega, .inl rfl, .inl rfl⟩ [(0, some 0)] rfl rfl ?_
          (simp -implicitDefEqProofs only [go_sem, iA, so, u1, u2, u3]; repeat (refine GO ?_; simp -implicitDefEqProofs only [go_sem, iA, so, u1, u2, u3]))
          exact .same (so z) _ _ (so_leafy z) rfl
        · obtain ⟨⟨S, E⟩, f1⟩ := p
          simp only at f1
          have v2 := wrap_sub1 (show 1 ≤ mid + m by omega) (by omega)
          refine GO ?_
          (simp -implicitDefEqProofs only [go_sem, iA, so, v2]; repeat (refine GO ?_; simp -implicitDefEqProofs only [go_sem, iA, so, v2]))
          refine LOOP.mk (ι := { p : Nat × Nat // S ≤ p.1 ∧ p.1 ≤ p.2 ∧ p.2 ≤ E ∧ (p.1 = S ∨ leO c z[p.1 - 1]? z[mid + m - p.1]?) ∧ (p.2 = E ∨ leO c z[mid + m - 1 - p.2]? z[p.2]?) })
            (fun p => mkS [(0, .rf 0 0 z.length), (1, iA a), (2, iA m), (3, iA b), (4, .fn g []), (18, iA mid), (19, iA (mid + m : Nat)), (20, iA p.1.1), (21, iA p.1.2), (22, iA (mid + m - 1 : Nat))] [(0, so z)] [0]) (fun p => p.1.2 - p.1.1)
            ⟨(S, E), Nat.le_refl _, by show S ≤ E; omega, Nat.le_refl _, .inl rfl, .inl rfl⟩ [(0, some 0)] rfl rfl ?_ (fun p => ?_)
          · (simp -implicitDefEqProofs only [go_sem, iA, so, v2]; repeat (refine GO ?_; simp -implicitDefEqProofs only [go_sem, iA, so, v2]))
            exact .same (so z) _ _ (so_leafy z) rfl
          · obtain ⟨⟨s, r⟩, hs1, hs2, hs3, lo, hi⟩ := p
            simp only at hs1 hs2 hs3 lo hi
            (simp -implicitDefEqProofs only [go_sem, iA, so]; repeat (refine GO ?_; simp -implicitDefEqProofs only [go_sem, iA, so]))
            refine VIF.split (fun e => ?_) (fun e => ?_)
            · simp at e
              have w2 := wrap_add (show s + r < 4611686018427387904 by omega)
              have w3 := half (show s + r < 4611686018427387904 by omega)
              have hh1 : (s + r) / 2 < r := by omega
              have hh2 : s ≤ (s + r) / 2 := by omega
              generalize hhd : (s + r) / 2 = hh at *
              have w4 := wrap_sub (show hh ≤ mid + m - 1 by omega) (by omega)
              have hz1 : hh < z.length := by omega
              have hz2 : mid + m - 1 - hh < z.length := by omega
              (simp -implicitDefEqProofs only [go_sem, w2, w3, w4]; repeat (refine GO ?_; simp -implicitDefEqProofs only [go_sem, w2, w3, w4]))
              refine ⟨by decide, by omega, EL.map hz2 ?_⟩
              (simp -implicitDefEqProofs only [go_sem, It.c, w2, w3, w4]; repeat (refine GO ?_; simp -implicitDefEqProofs only [go_sem, It.c, w2, w3, w4]))
              refine ⟨by omega, EL.map hz1 ?_⟩
              (simp -implicitDefEqProofs only [go_sem, It.c, w2, w3, w4]; repeat (refine GO ?_; simp -implicitDefEqProofs only [go_sem, It.c, w2, w3, w4]))
              refine .pure _ (hg z[mid + m - 1 - hh] z[hh] (hB _ (List.getElem_mem _)) (hB _ (List.getElem_mem _))) rfl fun r hr _ => ?_
              subst hr
              (simp -implicitDefEqProofs only [go_sem, iA]; repeat (refine GO ?_; simp -implicitDefEqProofs only [go_sem, iA]))
              refine VIF.split (fun q => ?_) (fun q => ?_)
              · simp at q
                have w5 := wrap_add1 (show hh < 4611686018427387904 by omega)
                (simp -implicitDefEqProofs only [go_sem, w5]; repeat (refine GO ?_; simp -implicitDefEqProofs only [go_sem, w5]))
                refine BACK.mk ⟨(hh + 1, r), by show S ≤ hh + 1; omega, by show hh + 1 ≤ r; omega, hs3, .inr fun u v hu hv => ?_, hi⟩ [(0, some 0)] rfl rfl (by show r - (hh + 1) < r - s; omega) ?_
                · have hv' : z[mid + m - 1 - hh]? = some v := by rw [← hv]; congr 1; show mid + m - 1 - hh = mid + m - (hh + 1); omega
                  simp only [Nat.add_sub_cancel, List.getElem?_eq_getElem hz1] at hu
                  rw [List.getElem?_eq_getElem hz2] at hv'
                  cases hu; cases hv'; exact hc.tot _ _ (by omega)
                · (simp -implicitDefEqProofs only [go_sem, iA, so]; repeat (refine GO ?_; simp -implicitDefEqProofs only [go_sem, iA, so]))
                  exact .same (so z) _ _ (so_leafy z) rfl
              · simp at q
                (simp -implicitDefEqProofs only [go_sem]; repeat (refine GO ?_; simp -implicitDefEqProofs only [go_sem]))
                refine BACK.mk ⟨(s, hh), hs1, hh2, by show hh ≤ E; omega, lo, .inr fun u v hu hv => ?_⟩ [(0, some 0)] rfl rfl (by show hh - s < r - s; omega) ?_
                · simp only [List.getElem?_eq_getElem hz1, List.getElem?_eq_getElem hz2] at hu hv
                  cases hu; cases hv; omega
                · (simp -implicitDefEqProofs only [go_sem, iA, so]; repeat (refine GO ?_; simp -implicitDefEqProofs only [go_sem, iA, so]))
                  exact .same (so z) _ _ (so_leafy z) rfl
            · simp at e
              have hsr : s = r := by omega
              subst hsr
              have w6 := wrap_sub (show s ≤ mid + m by omega) (by omega)
              obtain ⟨t, ht⟩ : ∃ t, t = mid + m - s := ⟨_, rfl⟩
              rw [← ht] at w6
              have hmid : mid = s + (t - m) := by omega
              have lo' : s = a ∨ t = b ∨ leO c z[s - 1]? z[t]? := by
                rcases lo with h | h
                · omega
                · rw [← ht] at h; exact .inr (.inr h)
              have hi' : s = m ∨ t = m ∨ leO c z[t - 1]? z[s]? := by
                rcases hi with h | h
                · omega
                · have : mid + m - 1 - s = t - 1 := by omega
                  rw [this] at h; exact .inr (.inr h)
              have g1 : a ≤ s ∧ s ≤ m ∧ m ≤ t ∧ t ≤ b ∧ s ≤ mid ∧ mid ≤ t := by omega
              obtain ⟨g1, g2, g3, g4, g5, g6⟩ := g1
              have same : m ≤ s ∨ t ≤ m → ∀ k, z[k]? = rotG z (m - s) (t - m) m k := by
                intro hst k
                simp only [rotG]
                by_cases k1 : m - (m - s) ≤ k ∧ k < m - (m - s) + (t - m)
                · rw [if_pos k1]; congr 1; omega
                · rw [if_neg k1]
                  by_cases k2 : m - (m - s) + (t - m) ≤ k ∧ k < m + (t - m)
                  · rw [if_pos k2]; congr 1; omega
                  · rw [if_neg k2]
              (simp -implicitDefEqProofs only [go_sem, w6]; repeat (refine GO ?_; simp -implicitDefEqProofs only [go_sem, w6]))
              refine evRegion.join (ι := { y : List It // Win z y a b ∧ ∀ k, y[k]? = rotG z (m - s) (t - m) m k })
                (fun y => mkS [(0, .rf 0 0 z.length), (1, iA a), (3, iA b), (4, .fn g []), (18, iA mid), (20, iA s), (24, iA t)] [(0, so y.1)] [0]) ?_ (fun y => ?_)
              · (simp -implicitDefEqProofs only [go_sem, ord59_39]; repeat (refine GO ?_; simp -implicitDefEqProofs only [go_sem, ord59_39]))
                refine VIF.split (fun q1 => ?_) (fun q1 => ?_)
                · simp at q1
                  (simp -implicitDefEqProofs only [go_sem]; repeat (refine GO ?_; simp -implicitDefEqProofs only [go_sem]))
                  refine VIF.split (fun q2 => ?_) (fun q2 => ?_)
                  · simp at q2
                    (simp -implicitDefEqProofs only [go_sem]; repeat (refine GO ?_; simp -implicitDefEqProofs only [go_sem]))
                    refine .obj 0 (so z) _ _ (s75 g z s m t (by omega) (by omega) (by omega) (by omega)) rfl (so_leafy z) rfl rfl fun r o' hr _ _ => ?_
                    obtain ⟨rfl, z1, rfl, hrot⟩ := hr
                    (simp -implicitDefEqProofs only [go_sem]; repeat (refine GO ?_; simp -implicitDefEqProofs only [go_sem]))
                    refine JB.mk ⟨z1, hrot.win.wide (by omega) (by omega), hrot.get⟩ [(0, some 0)] rfl rfl ?_
                    (simp -implicitDefEqProofs only [go_sem, iA, so, w6]; repeat (refine GO ?_; simp -implicitDefEqProofs only [go_sem, iA, so, w6]))
                    exact .same (so z1) _ _ (so_leafy z1) rfl
                  · simp at q2
                    (simp -implicitDefEqProofs only [go_sem]; repeat (refine GO ?_; simp -implicitDefEqProofs only [go_sem]))
                    refine JB.mk ⟨z, .refl _ _ _, same (by omega)⟩ [(0, some 0)] rfl rfl ?_
                    (simp -implicitDefEqProofs only [go_sem, iA, so, w6]; repeat (refine GO ?_; simp -implicitDefEqProofs only [go_sem, iA, so, w6]))
                    exact .same (so z) _ _ (so_leafy z) rfl
                · simp at q1
                  (simp -implicitDefEqProofs only [go_sem]; repeat (refine GO ?_; simp -implicitDefEqProofs only [go_sem]))
                  refine JB.mk ⟨z, .refl _ _ _, same (by omega)⟩ [(0, some 0)] rfl rfl ?_
                  (simp -implicitDefEqProofs only [go_sem, iA, so, w6]; repeat (refine GO ?_; simp -implicitDefEqProofs only [go_sem, iA, so, w6]))
                  exact .same (so z) _ _ (so_leafy z) rfl
              · obtain ⟨z1, hw1, hy1⟩ := y
                have hl1 := hw1.len
                have hB1 : ∀ x ∈ z1, B x := fun x hx => hB x (hw1.perm.subset hx)
                obtain ⟨p1, p2, p3, p4, psep⟩ := rot_runs hc r1 r2 g1 g2 g3 g4 h3 hmid lo' hi' hy1
                refine GO ?_
                (simp -implicitDefEqProofs only [go_sem, iA, so]; repeat (refine GO ?_; simp -implicitDefEqProofs only [go_sem, iA, so]))
                refine evRegion.join (ι := { y : List It // Win z1 y a mid ∧ SR c y a mid })
                  (fun y => mkS [(0, .rf 0 0 z.length), (3, iA b), (4, .fn g []), (18, iA mid), (24, iA t)] [(0, so y.1)] [0]) ?_ (fun y => ?_)
                · (simp -implicitDefEqProofs only [go_sem, iA, so, ord59_41]; repeat (refine GO ?_; simp -implicitDefEqProofs only [go_sem, iA, so, ord59_41]))
                  refine VIF.split (fun q3 => ?_) (fun q3 => ?_)
                  · simp at q3
                    (simp -implicitDefEqProofs only [go_sem]; repeat (refine GO ?_; simp -implicitDefEqProofs only [go_sem]))
                    refine VIF.split (fun q4 => ?_) (fun q4 => ?_)
                    · simp at q4
                      (simp -implicitDefEqProofs only [go_sem]; repeat (refine GO ?_; simp -implicitDefEqProofs only [go_sem]))
                      refine .obj 0 (so z1) _ _ (ihL d ih z1 hl1 hB1 a s mid (by omega) (by omega) (by omega) (by omega) (by omega) p1 p2) rfl (so_leafy z1) rfl rfl fun r o' hr _ _ => ?_
                      obtain ⟨rfl, z2, rfl, hw2, hs2⟩ := hr
                      (simp -implicitDefEqProofs only [go_sem]; repeat (refine GO ?_; simp -implicitDefEqProofs only [go_sem]))
                      refine JB.mk ⟨z2, hw2, hs2⟩ [(0, some 0)] rfl rfl ?_
                      (simp -implicitDefEqProofs only [go_sem, iA, so]; repeat (refine GO ?_; simp -implicitDefEqProofs only [go_sem, iA, so]))
                      exact .same (so z2) _ _ (so_leafy z2) rfl
                    · simp at q4
                      (simp -implicitDefEqProofs only [go_sem]; repeat (refine GO ?_; simp -implicitDefEqProofs only [go_sem]))
                      refine JB.mk ⟨z1, .refl _ _ _, fun u v k1 k2 k3 => p1 u v k1 k2 (by omega)⟩ [(0, some 0)] rfl rfl ?_
                      (simp -implicitDefEqProofs only [go_sem, iA, so]; repeat (refine GO ?_; simp -implicitDefEqProofs only [go_sem, iA, so]))
                      exact .same (so z1) _ _ (so_leafy z1) rfl
                  · simp at q3
                    (simp -implicitDefEqProofs only [go_sem]; repeat (refine GO ?_; simp -implicitDefEqProofs only [go_sem]))
                    refine JB.mk ⟨z1, .refl _ _ _, fun u v k1 k2 k3 => p2 u v (by omega) k2 k3⟩ [(0, some 0)] rfl rfl ?_
                    (simp -implicitDefEqProofs only [go_sem, iA, so]; repeat (refine GO ?_; simp -implicitDefEqProofs only [go_sem, iA, so]))
                    exact .same (so z1) _ _ (so_leafy z1) rfl
                · obtain ⟨z2, hw2, hs2⟩ := y
                  have hl2 := hw2.len.trans hl1
                  have hB2 : ∀ x ∈ z2, B x := fun x hx => hB1 x (hw2.perm.subset hx)
                  have p3' : SR c z2 mid t := fun u v k1 k2 k3 => by rw [hw2.out u (.inr k1), hw2.out v (.inr (by omega))]; exact p3 u v k1 k2 k3
                  have p4' : SR c z2 t b := fun u v k1 k2 k3 => by rw [hw2.out u (.inr (by omega)), hw2.out v (.inr (by omega))]; exact p4 u v k1 k2 k3
                  have fin2 : SR c z2 mid b → Win z z2 a b ∧ SR c z2 a b := fun h => ⟨hw1.trans (hw2.wide (Nat.le_refl _) (by omega)), merge_fin hc psep hw2 hs2 (.refl _ _ _) h⟩
                  refine GO ?_
                  (simp -implicitDefEqProofs only [go_sem, iA, so]; repeat (refine GO ?_; simp -implicitDefEqProofs only [go_sem, iA, so]))
                  (simp -implicitDefEqProofs only [go_sem, iA, so, ord59_43]; repeat (refine GO ?_; simp -implicitDefEqProofs only [go_sem, iA, so, ord59_43]))
                  refine VIF.split (fun q5 => ?_) (fun q5 => ?_)
                  · simp at q5
                    (simp -implicitDefEqProofs only [go_sem]; repeat (refine GO ?_; simp -implicitDefEqProofs only [go_sem]))
                    refine VIF.split (fun q6 => ?_) (fun q6 => ?_)
                    · simp at q6
                      (simp -implicitDefEqProofs only [go_sem]; repeat (refine GO ?_; simp -implicitDefEqProofs only [go_sem]))
                      refine .obj 0 (so z2) _ _ (ihL d ih z2 hl2 hB2 mid t b (by omega) (by omega) (by omega) (by omega) (by omega) p3' p4') rfl (so_leafy z2) rfl rfl fun r o' hr _ _ => ?_
                      obtain ⟨rfl, z3, rfl, hw3, hs3⟩ := hr
                      (simp -implicitDefEqProofs only [go_sem]; repeat (refine GO ?_; simp -implicitDefEqProofs only [go_sem]))
                      refine FIN_O (o' := so z3) rfl ?_ (so_leafy z3) ?_
                      · rfl
                      · exact ⟨so z3, ⟨⟨rfl, z3, rfl, hw1.trans ((hw2.wide (Nat.le_refl _) (by omega)).trans (hw3.wide (by omega) (Nat.le_refl _))), merge_fin hc psep hw2 hs2 hw3 hs3⟩, rfl⟩, so_leafy z3, rfl⟩
                    · simp at q6
                      (simp -implicitDefEqProofs only [go_sem]; repeat (refine GO ?_; simp -implicitDefEqProofs only [go_sem]))
                      refine FIN_O (o' := so z2) rfl ?_ (so_leafy z2) ?_
                      · rfl
                      · exact ⟨so z2, ⟨⟨rfl, z2, rfl, fin2 fun u v k1 k2 k3 => p3' u v k1 k2 (by omega)⟩, rfl⟩, so_leafy z2, rfl⟩
                  · simp at q5
                    (simp -implicitDefEqProofs only [go_sem]; repeat (refine GO ?_; simp -implicitDefEqProofs only [go_sem]))
                    refine FIN_O (o' := so z2) rfl ?_ (so_leafy z2) ?_
                    · rfl
                    · exact ⟨so z2, ⟨⟨rfl, z2, rfl, fin2 fun u v k1 k2 k3 => p4' u v (by omega) k2 k3⟩, rfl⟩, so_leafy z2, rfl⟩
end Yt
namespace Yt
open Go Go.Vc Go.Proofs
set_option maxRecDepth 10000
set_option maxHeartbeats 4000000
set_option linter.unusedSimpArgs false
set_option linter.unusedVariables false
theorem s70L (g : Nat) (c : It → It → Int) (hc : Cmp c) (B : It → Prop) (hg : ∀ x y, B x → B y → Spec0 Try.prog g [.ag x.c, .ag y.c] (· = iA (c x y))) {N : Nat} (z : List It) (hN : z.length = N) (hB : ∀ x ∈ z, B x) (a b : Nat) (h1 : a ≤ b) (h2 : b ≤ N) (hl : N < 2305843009213693952) :
    SpecO Try.prog 58 [.rf 0 0 N, iA a, iA b, .fn g []] (so z) (fun r o' => r = .tu [] ∧ ∃ z', o' = so z' ∧ Win z z' a b ∧ SR c z' a b) := by
  subst hN; exact s70 g c hc B hg z hB a b h1 h2 hl
theorem s71L (g : Nat) (c : It → It → Int) (hc : Cmp c) (B : It → Prop) (hg : ∀ x y, B x → B y → Spec0 Try.prog g [.ag x.c, .ag y.c] (· = iA (c x y))) {N : Nat} (z : List It) (hN : z.length = N) (hB : ∀ x ∈ z, B x) (a m b : Nat) (h1 : a < m) (h2 : m < b) (h3 : b ≤ N) (hl : N < 2305843009213693952)
    (r1 : SR c z a m) (r2 : SR c z m b) :
    SpecO Try.prog 59 [.rf 0 0 N, iA a, iA m, iA b, .fn g []] (so z) (fun r o' => r = .tu [] ∧ ∃ z', o' = so z' ∧ Win z z' a b ∧ SR c z' a b) := by
  subst hN; exact s71 g c hc B hg _ z hB a m b (Nat.le_refl _) h1 h2 h3 hl r1 r2
def BK (c : It → It → Int) (z : List It) (k : Nat) : Prop := ∀ q, SR c z (q * k) (min ((q + 1) * k) z.length)
theorem wrap_dbl {a : Nat} (h : a < 2305843009213693952) : IntKind.i64.wrap (2 * (a : Int)) = ((2 * a : Nat) : Int) := by rw [wrap_i64] <;> omega
theorem wrap_dbl' {a : Nat} (h : a < 2305843009213693952) : IntKind.i64.wrap ((a : Int) * 2) = ((2 * a : Nat) : Int) := by rw [wrap_i64] <;> omega
theorem s60 (g : Nat) (c : It → It → Int) (hc : Cmp c) (B : It → Prop) (hg : ∀ x y, B x → B y → Spec0 Try.prog g [.ag x.c, .ag y.c] (· = iA (c x y))) (z : List It) (hB : ∀ x ∈ z, B x) (hl : z.length < 576460752303423488) :
    SpecO Try.prog 48 [.rf 0 0 z.length, iA z.length, .fn g []] (so z) (fun r o' => r = .tu [] ∧ ∃ z', o' = so z' ∧ Win z z' 0 z.length ∧ SR c z' 0 z.length) := by
  refine specO_of_vc tabOk elems ord48 Try.func48 rfl (rl := []) rfl (by kernel_rfl) rfl ?_
  (simp -implicitDefEqProofs only [go_sem, iA, so]; repeat (refine GO ?_; simp -implicitDefEqProofs only [go_sem, iA, so]))
  refine LOOP.mk (ι := { p : Nat × List It // p.1 * 20 ≤ z.length ∧ Win z p.2 0 z.length ∧ ∀ q, q < p.1 → SR c p.2 (q * 20) ((q + 1) * 20) })
    (fun p => mkS [(0, .rf 0 0 z.length), (1, iA z.length), (2, .fn g []), (6, iA 20), (7, iA (p.1.1 * 20 : Nat)), (8, iA ((p.1.1 + 1) * 20 : Nat))] [(0, so p.1.2)] [0]) (fun p => z.length - p.1.1 * 20)
    ⟨(0, z), by simp, .refl _ _ _, fun q hq => by simp at hq⟩ [(0, some 0)] rfl rfl ?_ (fun p => ?_)
  · (simp -implicitDefEqProofs only [go_sem, iA, so]; repeat (refine GO ?_; simp -implicitDefEqProofs only [go_sem, iA, so]))
    exact ⟨⟨rfl, rfl⟩, .same (so z) _ _ (so_leafy z) rfl⟩
  · obtain ⟨⟨n, y⟩, hn, hw, hs⟩ := p
    have hlen := hw.len
    simp only at hn hw hs hlen
    (simp -implicitDefEqProofs only [go_sem, iA, so]; repeat (refine GO ?_; simp -implicitDefEqProofs only [go_sem, iA, so]))
    refine VIF.split (fun h => ?_) (fun h => ?_)
    · simp at h
      (simp -implicitDefEqProofs only [go_sem]; repeat (refine GO ?_; simp -implicitDefEqProofs only [go_sem]))
      refine .obj 0 (so y) _ _ (s70L g c hc B hg y hlen (fun x hx => hB x (hw.perm.subset hx)) (n * 20) ((n + 1) * 20) (by omega) (by omega) (by omega)) rfl (so_leafy y) rfl rfl fun r o' hr _ _ => ?_
      obtain ⟨rfl, y', rfl, hw', hs'⟩ := hr
      have w1 : IntKind.i64.wrap (((n + 1) * 20 : Nat) + (20 : Int)) = (((n + 1 + 1) * 20 : Nat) : Int) := by rw [wrap_i64] <;> omega
      (simp -implicitDefEqProofs only [go_sem, w1]; repeat (refine GO ?_; simp -implicitDefEqProofs only [go_sem, w1]))
      refine BACK.mk ⟨(n + 1, y'), by show (n + 1) * 20 ≤ z.length; omega, hw.trans (hw'.wide (by omega) (by omega)), fun q hq => ?_⟩ [(0, some 0)] rfl rfl (by show z.length - (n + 1) * 20 < z.length - n * 20; omega) ?_
      · show SR c y' (q * 20) ((q + 1) * 20)
        by_cases e : q = n
        · subst e; exact hs'
        · have hqn : q < n := by have : q < n + 1 := hq; omega
          intro u v k1 k2 k3
          rw [hw'.out u (.inl (by omega)), hw'.out v (.inl (by omega))]
          exact hs q hqn u v k1 k2 k3
      · (simp -implicitDefEqProofs only [go_sem, iA, so]; repeat (refine GO ?_; simp -implicitDefEqProofs only [go_sem, iA, so]))
        exact .same (so y') _ _ (so_leafy y') rfl
    · simp at h
      (simp -implicitDefEqProofs only [go_sem]; repeat (refine GO ?_; simp -implicitDefEqProofs only [go_sem]))
      refine .obj 0 (so y) _ _ (s70L g c hc B hg y hlen (fun x hx => hB x (hw.perm.subset hx)) (n * 20) z.length (by omega) (by omega) (by omega)) rfl (so_leafy y) rfl rfl fun r o' hr _ _ => ?_
      obtain ⟨rfl, y', rfl, hw', hs'⟩ := hr
      (simp -implicitDefEqProofs only [go_sem]; repeat (refine GO ?_; simp -implicitDefEqProofs only [go_sem]))
      have hw2 : Win z y' 0 z.length := hw.trans (hw'.wide (by omega) (by omega))
      have hb : BK c y' 20 := by
        intro q u v k1 k2 k3
        have hl2 := hw2.len
        by_cases e : q < n
        · rw [hw'.out u (.inl (by omega)), hw'.out v (.inl (by omega))]
          exact hs q e u v k1 k2 (by omega)
        · exact hs' u v (by omega) k2 (by omega)
      clear hs hs' hw' hw h
      refine LOOP.mk (ι := { p : Nat × List It // 20 ≤ p.1 ∧ (p.1 < 2 * z.length ∨ p.1 = 20) ∧ Win z p.2 0 z.length ∧ BK c p.2 p.1 })
        (fun p => mkS [(0, .rf 0 0 z.length), (1, iA z.length), (2, .fn g []), (6, iA p.1.1)] [(0, so p.1.2)] [0]) (fun p => 2 * z.length - p.1.1)
        ⟨(20, y'), Nat.le_refl _, .inr rfl, hw2, hb⟩ [(0, some 0)] rfl rfl ?_ (fun p => ?_)
      · (simp -implicitDefEqProofs only [go_sem, iA, so]; repeat (refine GO ?_; simp -implicitDefEqProofs only [go_sem, iA, so]))
        exact ⟨rfl, .same (so y') _ _ (so_leafy y') rfl⟩
      · obtain ⟨⟨k, x⟩, hk, hk2, hwx, hbx⟩ := p
        have hlx := hwx.len
        simp only at hk hk2 hwx hbx hlx
        (simp -implicitDefEqProofs only [go_sem, iA, so]; repeat (refine GO ?_; simp -implicitDefEqProofs only [go_sem, iA, so]))
        refine VIF.split (fun h => ?_) (fun h => ?_)
        · simp at h
          have w2 := wrap_dbl (show k < 2305843009213693952 by omega)
          (simp -implicitDefEqProofs only [go_sem, w2]; repeat (refine GO ?_; simp -implicitDefEqProofs only [go_sem, w2]))
          refine LOOP.mk (ι := { p : Nat × List It // p.1 * (2 * k) ≤ z.length ∧ Win z p.2 0 z.length ∧ (∀ q, q < p.1 → SR c p.2 (q * (2 * k)) ((q + 1) * (2 * k))) ∧ ∀ q, 2 * p.1 ≤ q → SR c p.2 (q * k) (min ((q + 1) * k) z.length) })
            (fun p => mkS [(0, .rf 0 0 z.length), (1, iA z.length), (2, .fn g []), (6, iA k), (7, iA (p.1.1 * (2 * k) : Nat)), (8, iA ((p.1.1 + 1) * (2 * k) : Nat))] [(0, so p.1.2)] [0]) (fun p => z.length - p.1.1)
            ⟨(0, x), by simp, hwx, fun q hq => by simp at hq, fun q _ => by rw [← hlx]; exact hbx q⟩ [(0, some 0)] rfl rfl ?_ (fun p => ?_)
          · (simp -implicitDefEqProofs only [go_sem, iA, so]; repeat (refine GO ?_; simp -implicitDefEqProofs only [go_sem, iA, so]))
            exact ⟨⟨by simp, by simp⟩, .same (so x) _ _ (so_leafy x) rfl⟩
          · obtain ⟨⟨n, u⟩, hn, hwu, hs1, hs2⟩ := p
            have hlu := hwu.len
            simp only at hn hwu hs1 hs2 hlu
            have e1 : (n + 1) * (2 * k) = n * (2 * k) + 2 * k := Nat.succ_mul _ _
            have e2 : (2 * n) * k = n * (2 * k) := by rw [Nat.mul_comm 2 n, Nat.mul_assoc]
            have e3 : (2 * n + 1) * k = n * (2 * k) + k := by rw [Nat.succ_mul, e2]
            have e4 : (2 * n + 1 + 1) * k = n * (2 * k) + 2 * k := by rw [Nat.succ_mul, e3]; omega
            have e5 : (n + 1 + 1) * (2 * k) = n * (2 * k) + 2 * k + 2 * k := by rw [Nat.succ_mul, e1]
            have hA : SR c u (n * (2 * k)) (min (n * (2 * k) + k) z.length) := by
              have := hs2 (2 * n) (Nat.le_refl _); rwa [e2, e3] at this
            have hB' : SR c u (n * (2 * k) + k) (min (n * (2 * k) + 2 * k) z.length) := by
              have := hs2 (2 * n + 1) (by omega); rwa [e3, e4] at this
            have lowq : ∀ q, q < n → (q + 1) * (2 * k) ≤ n * (2 * k) := fun q hq => Nat.mul_le_mul_right _ hq
            have higq : ∀ q, 2 * n + 1 + 1 ≤ q → n * (2 * k) + 2 * k ≤ q * k := fun q hq => by rw [← e4]; exact Nat.mul_le_mul_right _ hq
            have farq : ∀ q, n + 1 ≤ q → n * (2 * k) + 2 * k ≤ q * (2 * k) := fun q hq => by rw [← e1]; exact Nat.mul_le_mul_right _ hq
            (simp -implicitDefEqProofs only [go_sem, iA, so]; repeat (refine GO ?_; simp -implicitDefEqProofs only [go_sem, iA, so]))
            refine VIF.split (fun h' => ?_) (fun h' => ?_)
            · simp only [decide_eq_true_eq, e1] at h'
              have w3 := wrap_add (show n * (2 * k) + k < 4611686018427387904 by omega)
              (simp -implicitDefEqProofs only [go_sem, w3, w2, e1]; repeat (refine GO ?_; simp -implicitDefEqProofs only [go_sem, w3, w2, e1]))
              refine .obj 0 (so u) _ _ (s71L g c hc B hg u hlu (fun x hx => hB x (hwu.perm.subset hx)) (n * (2 * k)) (n * (2 * k) + k) (n * (2 * k) + 2 * k) (by omega) (by omega) (by omega) (by omega)
                (fun i j k1 k2 k3 => hA i j k1 k2 (by omega)) (fun i j k1 k2 k3 => hB' i j k1 k2 (by omega))) rfl (so_leafy u) rfl rfl fun r o' hr _ _ => ?_
              obtain ⟨rfl, u', rfl, hw', hs'⟩ := hr
              have w4 : IntKind.i64.wrap (((n * (2 * k) + 2 * k : Nat) : Int) + ((2 * k : Nat) : Int)) = ((n * (2 * k) + 2 * k + 2 * k : Nat) : Int) := by
                generalize n * (2 * k) = A at *
                rw [wrap_i64] <;> omega
              (simp -implicitDefEqProofs only [go_sem, w2, w4]; repeat (refine GO ?_; simp -implicitDefEqProofs only [go_sem, w2, w4]))
              refine BACK.mk ⟨(n + 1, u'), by show (n + 1) * (2 * k) ≤ z.length; omega, hwu.trans (hw'.wide (by omega) (by omega)), fun q hq => ?_, fun q hq => ?_⟩ [(0, some 0)] rfl rfl ?_ ?_
              · show SR c u' (q * (2 * k)) ((q + 1) * (2 * k))
                by_cases e : q = n
                · subst e; rw [e1]; exact hs'
                · have hqn : q < n := by have : q < n + 1 := hq; omega
                  have := lowq q hqn
                  intro i j k1 k2 k3
                  rw [hw'.out i (.inl (by omega)), hw'.out j (.inl (by omega))]
                  exact hs1 q hqn i j k1 k2 k3
              · show SR c u' (q * k) (min ((q + 1) * k) z.length)
                have hq' : 2 * (n + 1) ≤ q := hq
                have := higq q (by omega)
                intro i j k1 k2 k3
                rw [hw'.out i (.inr (by omega)), hw'.out j (.inr (by omega))]
                exact hs2 q (by omega) i j k1 k2 k3
              · show z.length - (n + 1) < z.length - n
                have : n * 1 ≤ n * (2 * k) := Nat.mul_le_mul_left _ (by omega)
                omega
              · (simp -implicitDefEqProofs only [go_sem, iA, so]; repeat (refine GO ?_; simp -implicitDefEqProofs only [go_sem, iA, so]))
                refine ⟨⟨by rw [e1], by rw [e5]⟩, .same (so u') _ _ (so_leafy u') rfl⟩
            · simp only [decide_eq_false_iff_not, e1] at h'
              have w3 := wrap_add (show n * (2 * k) + k < 4611686018427387904 by omega)
              have w5 := wrap_dbl' (show k < 2305843009213693952 by omega)
              (simp -implicitDefEqProofs only [go_sem, w3, w5]; repeat (refine GO ?_; simp -implicitDefEqProofs only [go_sem, w3, w5]))
              have fin : ∀ u', Win u u' (n * (2 * k)) z.length → SR c u' (n * (2 * k)) z.length → BK c u' (2 * k) := by
                intro u' hw' hs' q i j k1 k2 k3
                have hl' : u'.length = z.length := hw'.len.trans hlu
                by_cases e : q < n
                · have := lowq q e
                  rw [hw'.out i (.inl (by omega)), hw'.out j (.inl (by omega))]
                  exact hs1 q e i j k1 k2 (by omega)
                · by_cases e' : q = n
                  · subst e'; exact hs' i j k1 k2 (by omega)
                  · have := farq q (by omega)
                    omega
              refine VIF.split (fun h2 => ?_) (fun h2 => ?_)
              · simp only [decide_eq_true_eq] at h2
                (simp -implicitDefEqProofs only [go_sem, w3, w5]; repeat (refine GO ?_; simp -implicitDefEqProofs only [go_sem, w3, w5]))
                refine .obj 0 (so u) _ _ (s71L g c hc B hg u hlu (fun x hx => hB x (hwu.perm.subset hx)) (n * (2 * k)) (n * (2 * k) + k) z.length (by omega) (by omega) (by omega) (by omega)
                  (fun i j k1 k2 k3 => hA i j k1 k2 (by omega)) (fun i j k1 k2 k3 => hB' i j k1 k2 (by omega))) rfl (so_leafy u) rfl rfl fun r o' hr _ _ => ?_
                obtain ⟨rfl, u', rfl, hw', hs'⟩ := hr
                (simp -implicitDefEqProofs only [go_sem, w5]; repeat (refine GO ?_; simp -implicitDefEqProofs only [go_sem, w5]))
                refine BACK.mk ⟨(2 * k, u'), by show 20 ≤ 2 * k; omega, .inl (by show 2 * k < 2 * z.length; omega), hwu.trans (hw'.wide (by omega) (by omega)), fin u' hw' hs'⟩ [(0, some 0)] rfl rfl (by show 2 * z.length - 2 * k < 2 * z.length - k; omega) ?_
                (simp -implicitDefEqProofs only [go_sem, iA, so]; repeat (refine GO ?_; simp -implicitDefEqProofs only [go_sem, iA, so]))
                exact .same (so u') _ _ (so_leafy u') rfl
              · simp only [decide_eq_false_iff_not] at h2
                (simp -implicitDefEqProofs only [go_sem, w5]; repeat (refine GO ?_; simp -implicitDefEqProofs only [go_sem, w5]))
                refine BACK.mk ⟨(2 * k, u), by show 20 ≤ 2 * k; omega, .inl (by show 2 * k < 2 * z.length; omega), hwu, fin u (.refl _ _ _) fun i j k1 k2 k3 => hA i j k1 k2 (by omega)⟩ [(0, some 0)] rfl rfl (by show 2 * z.length - 2 * k < 2 * z.length - k; omega) ?_
                (simp -implicitDefEqProofs only [go_sem, iA, so]; repeat (refine GO ?_; simp -implicitDefEqProofs only [go_sem, iA, so]))
                exact .same (so u) _ _ (so_leafy u) rfl
        · simp at h
          (simp -implicitDefEqProofs only [go_sem]; repeat (refine GO ?_; simp -implicitDefEqProofs only [go_sem]))
          refine FIN_O (o' := so x) rfl ?_ (so_leafy x) ?_
          · rfl
          · refine ⟨so x, ⟨⟨rfl, x, rfl, hwx, ?_⟩, rfl⟩, so_leafy x, rfl⟩
            have := hbx 0
            rw [hlx] at this
            simp at this
            rwa [Nat.min_eq_right h] at this
end Yt
namespace Yt
open Go Go.Vc Go.Proofs
set_option maxRecDepth 10000
set_option linter.unusedSimpArgs false
set_option linter.unusedVariables false
theorem s39 (g : Nat) (c : It → It → Int) (hc : Cmp c) (B : It → Prop) (hg : ∀ x y, B x → B y → Spec0 Try.prog g [.ag x.c, .ag y.c] (· = iA (c x y))) (z : List It) (hB : ∀ x ∈ z, B x) (hl : z.length < 576460752303423488) :
    SpecO Try.prog 29 [.rf 0 0 z.length, .fn g []] (so z) (fun r o' => r = .tu [] ∧ ∃ z', o' = so z' ∧ Win z z' 0 z.length ∧ SR c z' 0 z.length) := by
  refine specO_of_vc tabOk elems ord29 Try.func29 rfl (rl := []) rfl (by kernel_rfl) rfl ?_
  (simp -implicitDefEqProofs only [go_sem, so]; repeat (refine GO ?_; simp -implicitDefEqProofs only [go_sem, so]))
  refine .obj 0 (so z) _ _ (s60 g c hc B hg z hB hl) rfl (so_leafy z) rfl rfl fun r o' hr _ _ => ?_
  obtain ⟨rfl, y, rfl, hw, hs⟩ := hr
  (simp -implicitDefEqProofs only [go_sem]; repeat (refine GO ?_; simp -implicitDefEqProofs only [go_sem]))
  refine FIN_O (o' := so y) rfl ?_ (so_leafy y) ?_
  · rfl
  · exact ⟨so y, ⟨⟨rfl, y, rfl, hw, hs⟩, rfl⟩, so_leafy y, rfl⟩

-- bytes, in the order of a dictionary
theorem bl_irr (x : List UInt8) : Op.bytesLess x x = false := by
  induction x with
  | nil => rfl
  | cons a r ih => simp [Op.bytesLess, ih]
theorem bl_asymm : ∀ (x y : List UInt8), Op.bytesLess x y = true → Op.bytesLess y x = false
  | _, [], h => by simp [Op.bytesLess] at h
  | [], _ :: _, h => rfl
  | a :: x, b :: y, h => by
    simp only [Op.bytesLess, Bool.or_eq_true, decide_eq_true_eq, Bool.and_eq_true, beq_iff_eq] at h
    simp only [Op.bytesLess, Bool.or_eq_false_iff, decide_eq_false_iff_not, Bool.and_eq_false_imp, beq_iff_eq]
    rcases h with h | ⟨h1, h2⟩
    · exact ⟨fun g => by rw [UInt8.lt_iff_toNat_lt] at *; omega, fun e => by subst e; rw [UInt8.lt_iff_toNat_lt] at h; omega⟩
    · subst h1; exact ⟨fun g => by rw [UInt8.lt_iff_toNat_lt] at g; omega, fun _ => bl_asymm x y h2⟩
theorem bl_tri : ∀ (x y : List UInt8), Op.bytesLess x y = false → Op.bytesLess y x = false → x = y
  | [], [], _, _ => rfl
  | [], _ :: _, h, _ => by simp [Op.bytesLess] at h
  | _ :: _, [], _, h => by simp [Op.bytesLess] at h
  | a :: x, b :: y, h, g => by
    simp only [Op.bytesLess, Bool.or_eq_false_iff, decide_eq_false_iff_not, Bool.and_eq_false_imp, beq_iff_eq] at h g
    have hab : a = b := by
      apply UInt8.toNat_inj.1
      have h1 := h.1; have g1 := g.1
      rw [UInt8.lt_iff_toNat_lt] at h1 g1
      omega
    subst hab
    rw [bl_tri x y (h.2 rfl) (g.2 rfl)]
theorem bl_trans : ∀ (x y z : List UInt8), Op.bytesLess x y = true → Op.bytesLess y z = true → Op.bytesLess x z = true
  | _, [], _, h, _ => by simp [Op.bytesLess] at h
  | _, _ :: _, [], _, g => by simp [Op.bytesLess] at g
  | [], _ :: _, _ :: _, _, _ => rfl
  | a :: x, b :: y, c :: z, h, g => by
    simp only [Op.bytesLess, Bool.or_eq_true, decide_eq_true_eq, Bool.and_eq_true, beq_iff_eq] at h g ⊢
    rcases h with h | ⟨h1, h2⟩
    · rcases g with g | ⟨g1, g2⟩
      · left; rw [UInt8.lt_iff_toNat_lt] at *; omega
      · subst g1; left; exact h
    · subst h1
      rcases g with g | ⟨g1, g2⟩
      · left; exact g
      · right; exact ⟨g1, bl_trans x y z h2 g2⟩

structure Lin {α : Type} (f : α → α → Int) : Prop where
  neg : ∀ x y, f y x = - f x y
  eq : ∀ x y, f x y = 0 → x = y
  trans : ∀ x y z, f x y < 0 → f y z < 0 → f x z < 0
theorem Lin.self {α : Type} {f : α → α → Int} (h : Lin f) (x : α) : f x x = 0 := by have := h.neg x x; omega
theorem lin_cmpI : Lin cmpI := by
  refine ⟨fun x y => ?_, fun x y h => ?_, fun x y z h g => ?_⟩
  · simp only [cmpI]; split <;> split <;> (try split) <;> omega
  · simp only [cmpI] at h; split at h
    · omega
    · split at h <;> omega
  · simp only [cmpI] at h g ⊢
    split at h
    · split at g
      · rw [if_pos (by omega)]; omega
      · split at g <;> omega
    · split at h <;> omega
theorem cmpS_lt {x y : ByteArray} : cmpS x y < 0 ↔ Op.bytesLess x.toList y.toList = true := by
  simp only [cmpS]
  split
  · simp [*]
  · rename_i h; split <;> simp [h]
theorem cmpS_zero {x y : ByteArray} : cmpS x y = 0 ↔ x = y := by
  simp only [cmpS]
  split
  · rename_i h
    constructor
    · intro e; omega
    · intro e; subst e; rw [bl_irr] at h; cases h
  · rename_i h
    split
    · rename_i g
      constructor
      · intro e; omega
      · intro e; subst e; simp at g
    · rename_i g
      simp only [Bool.not_eq_true, Bool.not_eq_false', Bool.or_eq_true, decide_eq_true_eq] at g h
      simp only [h, Bool.false_eq_true, false_or] at g
      simp [g]
theorem lin_cmpS : Lin cmpS := by
  refine ⟨fun x y => ?_, fun x y h => cmpS_zero.1 h, fun x y z h g => ?_⟩
  · have v : ∀ a b : ByteArray, cmpS a b = -1 ∨ cmpS a b = 0 ∨ cmpS a b = 1 := by
      intro a b; simp only [cmpS]; split
      · simp
      · split <;> simp
    have k1 : cmpS x y < 0 → ¬ cmpS y x < 0 := fun h => by
      rw [cmpS_lt] at h ⊢
      rw [bl_asymm _ _ h]; simp
    have k2 : ¬ cmpS x y < 0 → ¬ cmpS y x < 0 → cmpS x y = 0 ∧ cmpS y x = 0 := fun h g => by
      rw [cmpS_lt] at h g
      have : x = y := toList_inj (bl_tri _ _ (by simpa using h) (by simpa using g))
      exact ⟨cmpS_zero.2 this, cmpS_zero.2 this.symm⟩
    have k3 : cmpS x y = 0 → cmpS y x = 0 := fun h => cmpS_zero.2 (cmpS_zero.1 h).symm
    have k4 : cmpS y x = 0 → cmpS x y = 0 := fun h => cmpS_zero.2 (cmpS_zero.1 h).symm
    rcases v x y with a | a | a <;> rcases v y x with b | b | b <;> first | omega | (have := k1 (by omega); omega) | (have := k2 (by omega) (by omega); omega) | (have := k3 (by omega); omega) | (have := k4 (by omega); omega)
  · rw [cmpS_lt] at *; exact bl_trans _ _ _ h g
theorem lin_cmpV : Lin cmpV := by
  refine ⟨fun x y => ?_, fun x y h => ?_, fun x y z h g => ?_⟩
  · simp only [cmpV, nz, lin_cmpI.neg x.k y.k, lin_cmpI.neg x.i y.i, lin_cmpS.neg x.s y.s]
    repeat' split
    all_goals omega
  · simp only [cmpV, nz] at h
    split at h
    · rename_i h1
      split at h
      · rename_i h2
        split at h
        · rename_i h3
          obtain ⟨a, b, c⟩ := x; obtain ⟨a', b', c'⟩ := y
          simp only [V.mk.injEq]
          exact ⟨lin_cmpI.eq _ _ h1, lin_cmpI.eq _ _ h2, lin_cmpS.eq _ _ h3⟩
        · exact absurd h (by assumption)
      · exact absurd h (by assumption)
    · exact absurd h (by assumption)
  · have t1 := lin_cmpI.trans x.k y.k z.k
    have t2 := lin_cmpI.trans x.i y.i z.i
    have t3 := lin_cmpS.trans x.s y.s z.s
    have e1 : cmpI x.k y.k = 0 → cmpI x.k z.k = cmpI y.k z.k := fun h => by rw [lin_cmpI.eq _ _ h]
    have e2 : cmpI y.k z.k = 0 → cmpI x.k z.k = cmpI x.k y.k := fun h => by rw [lin_cmpI.eq _ _ h]
    have e3 : cmpI x.i y.i = 0 → cmpI x.i z.i = cmpI y.i z.i := fun h => by rw [lin_cmpI.eq _ _ h]
    have e4 : cmpI y.i z.i = 0 → cmpI x.i z.i = cmpI x.i y.i := fun h => by rw [lin_cmpI.eq _ _ h]
    have e5 : cmpS x.s y.s = 0 → cmpS x.s z.s = cmpS y.s z.s := fun h => by rw [lin_cmpS.eq _ _ h]
    have e6 : cmpS y.s z.s = 0 → cmpS x.s z.s = cmpS x.s y.s := fun h => by rw [lin_cmpS.eq _ _ h]
    simp only [cmpV, nz] at h g ⊢
    repeat' split at h
    all_goals repeat' split at g
    all_goals repeat' split
    all_goals omega
theorem lin_cmpR : Lin cmpR := by
  have hneg : ∀ x y, cmpR y x = - cmpR x y := by
    intro x
    induction x with
    | nil => intro y; cases y <;> simp [cmpR]
    | cons a r ih =>
      intro y
      cases y with
      | nil => simp [cmpR]
      | cons b r' =>
        simp only [cmpR, lin_cmpV.neg a b, ih r']
        repeat' split
        all_goals omega
  refine ⟨hneg, fun x => ?_, fun x => ?_⟩
  · induction x with
    | nil => intro y h; cases y with
      | nil => rfl
      | cons b r => simp [cmpR] at h
    | cons a r ih =>
      intro y h
      cases y with
      | nil => simp [cmpR] at h
      | cons b r' =>
        simp only [cmpR] at h
        split at h
        · rename_i h1; rw [lin_cmpV.eq _ _ h1, ih _ h]
        · exact absurd h (by assumption)
  · induction x with
    | nil => intro y z h g; cases y with
      | nil => exact g
      | cons b r => cases z with
        | nil => simp [cmpR] at g
        | cons c r' => simp [cmpR]
    | cons a r ih =>
      intro y z h g
      cases y with
      | nil => simp [cmpR] at h
      | cons b r' => cases z with
        | nil => simp [cmpR] at g
        | cons c r'' =>
          have e1 : cmpV a b = 0 → cmpV a c = cmpV b c := fun h => by rw [lin_cmpV.eq _ _ h]
          have e2 : cmpV b c = 0 → cmpV a c = cmpV a b := fun h => by rw [lin_cmpV.eq _ _ h]
          have t := lin_cmpV.trans a b c
          simp only [cmpR] at h g ⊢
          split at h
          · rename_i h1
            split at g
            · rename_i g1
              rw [if_pos (by rw [e1 h1]; exact g1)]; exact ih _ _ h g
            · rename_i g1
              rw [if_neg (by rw [e1 h1]; exact g1), e1 h1]; exact g
          · rename_i h1
            split at g
            · rename_i g1
              rw [if_neg (by rw [e2 g1]; exact h1), e2 g1]; exact h
            · have := t h g
              rw [if_neg (by omega)]; exact this
def cI (a b : It) : Int := cmpR a.row b.row
theorem cmp_cI : Cmp cI := by
  refine ⟨fun x y h => ?_, fun x y z h g => ?_⟩
  · have := lin_cmpR.neg y.row x.row
    simp only [cI] at *; omega
  · simp only [cI] at *
    have t := lin_cmpR.trans x.row y.row z.row
    by_cases e1 : cmpR x.row y.row = 0
    · rw [lin_cmpR.eq _ _ e1]; exact g
    · by_cases e2 : cmpR y.row z.row = 0
      · rw [← lin_cmpR.eq _ _ e2]; exact h
      · have := t (by omega) (by omega); omega
end Yt
namespace Yt
open Go Go.Vc Go.Proofs
set_option maxRecDepth 10000
set_option linter.unusedSimpArgs false
set_option linter.unusedVariables false
theorem s47 (g : Nat) (caps : List AV) (hc : noIds caps = true) (p : It → Bool) (B : It → Prop) (hg : ∀ t : It, B t → Spec0 Try.prog g (.ag t.c :: caps) (· = bA (p t))) (a : List It) (hB : ∀ t ∈ a, B t) (ha : a.length < 4611686018427387904) :
    Spec0 Try.prog 40 [setA a, .fn g caps] (· = idxA p a) := by
  refine spec0_of_vc tabOk elems ord40 Try.func40 rfl (rl := [.tmp 4]) rfl (by kernel_rfl) rfl ?_
  (simp -implicitDefEqProofs only [go_sem, setA]; repeat (refine GO ?_; simp -implicitDefEqProofs only [go_sem, setA]))
  refine LOOP.mk (ι := { i : Nat // i ≤ a.length ∧ ∀ j (hj : j < a.length), j < i → p a[j] = false }) (fun i => mkS [(0, setA a), (1, .fn g caps), (7, .pr (.int .i64 a.length)), (8, .pr (.int .i64 i.1))] [] []) (fun i => a.length - i.1)
    ⟨0, by simp⟩ [] rfl rfl ?_ (fun i => ?_)
  · (simp -implicitDefEqProofs only [go_sem, setA]; repeat (refine GO ?_; simp -implicitDefEqProofs only [go_sem, setA]))
    simp [wks_noId caps hc]
  · obtain ⟨i, hi, hz⟩ := i
    (simp -implicitDefEqProofs only [go_sem, setA]; repeat (refine GO ?_; simp -implicitDefEqProofs only [go_sem, setA]))
    refine ⟨fun h => ?_, fun h => ?_⟩
    · simp only [decide_eq_true_eq] at h
      have hi' : i < a.length := by omega
      (simp -implicitDefEqProofs only [go_sem]; repeat (refine GO ?_; simp -implicitDefEqProofs only [go_sem]))
      refine EL.map hi' ?_
      (simp -implicitDefEqProofs only [go_sem, It.c]; repeat (refine GO ?_; simp -implicitDefEqProofs only [go_sem, It.c]))
      refine .pure _ (hg a[i] (hB _ (List.getElem_mem _))) ?_ fun r hr _ => ?_
      · simp [noIds, AV.noId, It.c, hc, rowA, iA]
      subst hr
      (simp -implicitDefEqProofs only [go_sem, bA]; repeat (refine GO ?_; simp -implicitDefEqProofs only [go_sem, bA]))
      refine VIF.split (fun e => ?_) (fun e => ?_)
      · (simp -implicitDefEqProofs only [go_sem]; repeat (refine GO ?_; simp -implicitDefEqProofs only [go_sem]))
        simp [idxA, idxI, iA, idx_some hi' hz e]
      · (simp -implicitDefEqProofs only [go_sem]; repeat (refine GO ?_; simp -implicitDefEqProofs only [go_sem]))
        refine BACK.mk ⟨i + 1, hi', fun j hj hji => ?_⟩ [] rfl rfl (by show a.length - (i + 1) < a.length - i; omega) ?_
        · by_cases hji' : j = i
          · subst hji'; exact e
          · exact hz j hj (by omega)
        · (simp -implicitDefEqProofs only [go_sem, setA]; repeat (refine GO ?_; simp -implicitDefEqProofs only [go_sem, setA]))
          simp [wrap_succ hi' ha, wks_noId caps hc]
    · simp at h
      (simp -implicitDefEqProofs only [go_sem]; repeat (refine GO ?_; simp -implicitDefEqProofs only [go_sem]))
      simp [idxA, idxI, iA, idx_none fun j hj => hz j hj (by omega)]
theorem s34 (a : List It) (hB : ∀ t ∈ a, t.row.length < 4611686018427387904) (ha : a.length < 4611686018427387904) : Spec0 Try.prog 24 [setA a, .fn 25 []] (· = bA (a.any fun t => !okI t)) := by
  refine spec0_of_vc tabOk elems ord24 Try.func24 rfl (rl := [.tmp 4]) rfl (by kernel_rfl) rfl ?_
  (simp -implicitDefEqProofs only [go_sem, setA]; repeat (refine GO ?_; simp -implicitDefEqProofs only [go_sem, setA]))
  refine .pure _ (s47 25 [] rfl (fun t => !okI t) _ (fun t ht => s35 t ht) a hB ha) rfl fun r hr _ => ?_
  subst hr
  (simp -implicitDefEqProofs only [go_sem, idxA, iA]; repeat (refine GO ?_; simp -implicitDefEqProofs only [go_sem, idxA, iA]))
  rw [idx_any]; rfl
theorem s48 (t : It) (r : List V) (ht : t.row.length < 4611686018427387904) : Spec0 Try.prog 41 [.ag t.c, .ro [rowA r] 0] (· = bA (decide (cmpR t.row r = 0))) := by
  refine spec0_of_vc tabOk elems ord41 Try.func41 rfl (rl := [.tmp 3]) rfl (by kernel_rfl) rfl ?_
  (simp -implicitDefEqProofs only [go_sem, It.c, rowA, iA]; repeat (refine GO ?_; simp -implicitDefEqProofs only [go_sem, It.c, rowA, iA]))
  refine .pure _ (s13 t.row r ht) rfl fun r hr _ => ?_
  subst hr
  (simp -implicitDefEqProofs only [go_sem]; repeat (refine GO ?_; simp -implicitDefEqProofs only [go_sem]))
  rfl
def wtI (z : List It) : Option Nat → Int
  | some i => (z[i]?.map (·.w)).getD 0
  | none => 0
def wt (r : List V) (z : List It) : Int := wtI z (z.findIdx? fun t => decide (cmpR t.row r = 0))
theorem s15 (z : List It) (r : List V) (hB : ∀ t ∈ z, t.row.length < 4611686018427387904) (ha : z.length < 4611686018427387904) : Spec0 Try.prog 10 [setA z, rowA r] (· = iA (wt r z)) := by
  refine spec0_of_vc tabOk elems ord10 Try.func10 rfl (rl := [.tmp 4]) rfl (by kernel_rfl) rfl ?_
  (simp -implicitDefEqProofs only [go_sem, setA, rowA]; repeat (refine GO ?_; simp -implicitDefEqProofs only [go_sem, setA, rowA]))
  refine .lendTo (s47 41 [.ro [rowA r] 0] rfl (fun t => decide (cmpR t.row r = 0)) _ (fun t ht => s48 t r ht) z hB ha) ?_ (by rintro _ rfl; rfl) fun r hr => ?_
  · (simp -implicitDefEqProofs only [go_sem, setA, rowA]; repeat (refine GO ?_; simp -implicitDefEqProofs only [go_sem, setA, rowA]))
  subst hr
  (simp -implicitDefEqProofs only [go_sem, idxA, iA]; repeat (refine GO ?_; simp -implicitDefEqProofs only [go_sem, idxA, iA]))
  simp only [wt]
  cases hf : z.findIdx? fun t => decide (cmpR t.row r = 0) with
  | none =>
    refine VIF.split (fun h => ?_) (fun h => ?_)
    · (simp -implicitDefEqProofs only [go_sem]; repeat (refine GO ?_; simp -implicitDefEqProofs only [go_sem]))
      simp [wtI, iA]
    · simp [idxI] at h
  | some i =>
    have hi : i < z.length := by rw [List.findIdx?_eq_some_iff_getElem] at hf; exact hf.1
    refine VIF.split (fun h => ?_) (fun h => ?_)
    · exact absurd (of_decide_eq_true h) (Int.not_lt.2 (Int.natCast_nonneg i))
    · (simp -implicitDefEqProofs only [go_sem, idxI]; repeat (refine GO ?_; simp -implicitDefEqProofs only [go_sem, idxI]))
      refine EL.map hi ?_
      (simp -implicitDefEqProofs only [go_sem, It.c, iA]; repeat (refine GO ?_; simp -implicitDefEqProofs only [go_sem, It.c, iA]))
      simp [wtI, iA, hi]
end Yt
namespace Yt
open Go Go.Vc Go.Proofs
set_option maxRecDepth 10000
set_option linter.unusedSimpArgs false
set_option linter.unusedVariables false
theorem s38 (z : List It) (hl : z.length ≤ 1073741824) : Spec1 Try.prog 28 [setA z] (fun r o => r = .rf 0 0 z.length ∧ o = so z) := by
  refine spec1_of_vc tabOk elems ord28 Try.func28 rfl (rl := [.tmp 2]) rfl (by kernel_rfl) rfl ?_
  (simp -implicitDefEqProofs only [go_sem, setA]; repeat (refine GO ?_; simp -implicitDefEqProofs only [go_sem, setA]))
  refine ⟨⟨_, rfl⟩, fun b hb => ?_⟩
  refine VIF.split (fun h => ?_) (fun h => ?_)
  · have hz : z = [] := by simpa using hb (by simpa using h)
    subst hz
    (simp -implicitDefEqProofs only [go_sem]; repeat (refine GO ?_; simp -implicitDefEqProofs only [go_sem]))
    refine FINmk [(0, none)] [(2, .rf 0 0 0)] [(0, so [])] [0] rfl ?_ ?_
    · (simp -implicitDefEqProofs only [go_sem]; repeat (refine GO ?_; simp -implicitDefEqProofs only [go_sem]))
      simp [so]
    · exact ⟨so [], ⟨⟨rfl, rfl⟩, rfl⟩, so_leafy [], rfl⟩
  · (simp -implicitDefEqProofs only [go_sem]; repeat (refine GO ?_; simp -implicitDefEqProofs only [go_sem]))
    refine ⟨by omega, ?_⟩
    refine FINmk [(0, some 7)] [(2, .rf 0 0 z.length)] [(0, so z)] [0] rfl ?_ ?_
    · (simp -implicitDefEqProofs only [go_sem, so]; repeat (refine GO ?_; simp -implicitDefEqProofs only [go_sem, so]))
      exact .same (so z) _ _ (so_leafy z) rfl
    · exact ⟨so z, ⟨⟨rfl, rfl⟩, rfl⟩, so_leafy z, rfl⟩
def ro3 (a : List V) : Ob := ⟨3, a.map V.c⟩
theorem ro3_leafy (a : List V) : (ro3 a).leafy := by
  rw [ro3, leafy_do]
  exact leafs2_map fun x _ => by simp [V.c, leafs, AV.leaf]
theorem s43 (a : List V) (hl : a.length ≤ 1073741824) : Spec1 Try.prog 34 [rowA a] (fun r o => r = .rf 0 0 a.length ∧ o = ro3 a) := by
  refine spec1_of_vc tabOk elems ord34 Try.func34 rfl (rl := [.tmp 2]) rfl (by kernel_rfl) rfl ?_
  (simp -implicitDefEqProofs only [go_sem, rowA]; repeat (refine GO ?_; simp -implicitDefEqProofs only [go_sem, rowA]))
  refine ⟨⟨_, rfl⟩, fun b hb => ?_⟩
  refine VIF.split (fun h => ?_) (fun h => ?_)
  · have hz : a = [] := by simpa using hb (by simpa using h)
    subst hz
    (simp -implicitDefEqProofs only [go_sem]; repeat (refine GO ?_; simp -implicitDefEqProofs only [go_sem]))
    refine FINmk [(0, none)] [(2, .rf 0 0 0)] [(0, ro3 [])] [0] rfl ?_ ?_
    · (simp -implicitDefEqProofs only [go_sem]; repeat (refine GO ?_; simp -implicitDefEqProofs only [go_sem]))
      simp [ro3]
    · exact ⟨ro3 [], ⟨⟨rfl, rfl⟩, rfl⟩, ro3_leafy [], rfl⟩
  · (simp -implicitDefEqProofs only [go_sem]; repeat (refine GO ?_; simp -implicitDefEqProofs only [go_sem]))
    refine ⟨by omega, ?_⟩
    refine FINmk [(0, some 7)] [(2, .rf 0 0 a.length)] [(0, ro3 a)] [0] rfl ?_ ?_
    · (simp -implicitDefEqProofs only [go_sem, ro3]; repeat (refine GO ?_; simp -implicitDefEqProofs only [go_sem, ro3]))
      exact .same (ro3 a) _ _ (ro3_leafy a) rfl
    · exact ⟨ro3 a, ⟨⟨rfl, rfl⟩, rfl⟩, ro3_leafy a, rfl⟩
theorem and_mask (x : Int) : bitsOp .and .i64 x 268435455 = x % 268435456 := by
  simp only [bitsOp]
  have h1 : (BitVec.ofInt IntKind.i64.bits x &&& BitVec.ofInt IntKind.i64.bits 268435455).toNat = (x % 268435456).toNat := by
    rw [BitVec.toNat_and]
    have e1 : (BitVec.ofInt IntKind.i64.bits 268435455).toNat = 2 ^ 28 - 1 := by decide
    rw [e1, Nat.and_two_pow_sub_one_eq_mod]
    simp only [BitVec.toNat_ofInt, IntKind.bits]
    omega
  rw [h1, wrap_i64] <;> omega
theorem shr28 (x : Int) : x / 2 ^ min (Int.toNat 28) 64 = x / 268435456 := by
  have h2 : (2 : Int) ^ min (Int.toNat 28) 64 = 268435456 := by decide
  rw [h2]
theorem s41 (h l w : Int) (hh : -36028797018963968 ≤ h ∧ h ≤ 36028797018963968) (hl : 0 ≤ l ∧ l ≤ 36028797018963968) (hw : -144115188075855872 ≤ w ∧ w ≤ 144115188075855872) :
    SpecO Try.prog 32 [.pt 0 0 0, iA w] ⟨2, [[iA h, iA l]]⟩ (fun r o => r = .tu [] ∧ o = ⟨2, [[iA (h + w / 268435456), iA (l + w % 268435456)]]⟩) := by
  refine specO_of_vc tabOk elems ord32 Try.func32 rfl (rl := []) rfl (by kernel_rfl) rfl ?_
  have w1 : IntKind.i64.wrap (h + w / 268435456) = h + w / 268435456 := by rw [wrap_i64] <;> omega
  have w2 : IntKind.i64.wrap (l + w % 268435456) = l + w % 268435456 := by rw [wrap_i64] <;> omega
  (simp -implicitDefEqProofs only [go_sem, iA, shr28, and_mask, w1, w2]; repeat (refine GO ?_; simp -implicitDefEqProofs only [go_sem, iA, shr28, and_mask, w1, w2]))
  refine ⟨by decide, ?_⟩
  refine FIN_O (o' := ⟨2, [[iA (h + w / 268435456), iA (l + w % 268435456)]]⟩) rfl ?_ ?_ ?_
  · rfl
  · rw [leafy_do]; simp [leafs2, leafs, iA, AV.leaf]
  · exact ⟨_, ⟨⟨rfl, rfl⟩, rfl⟩, by rw [leafy_do]; simp [leafs2, leafs, iA, AV.leaf], rfl⟩
theorem shl28 (x : Int) : x * 2 ^ min (Int.toNat 28) 64 = x * 268435456 := by
  have h2 : (2 : Int) ^ min (Int.toNat 28) 64 = 268435456 := by decide
  rw [h2]
theorem s42 (h l : Int) (hh : -36028797018963968 ≤ h ∧ h ≤ 36028797018963968) (hl : 0 ≤ l ∧ l ≤ 36028797018963968) :
    Spec0 Try.prog 33 [.ag [iA h, iA l]] (fun r => ∃ v, r = .tu [iA v, bA (okW (h * 268435456 + l))] ∧ (okW (h * 268435456 + l) = true → v = h * 268435456 + l)) := by
  refine spec0_of_vc tabOk elems ord33 Try.func33 rfl (rl := [.tmp 2, .tmp 3]) rfl (by kernel_rfl) rfl ?_
  have w1 : IntKind.i64.wrap (h + l / 268435456) = h + l / 268435456 := by rw [wrap_i64] <;> omega
  (simp -implicitDefEqProofs only [go_sem, iA, shr28, w1]; repeat (refine GO ?_; simp -implicitDefEqProofs only [go_sem, iA, shr28, w1]))
  refine ⟨by decide, ?_⟩
  have bad : ∀ b, b = okW (h * 268435456 + l) → b = false → ∃ v, (AV.tu [.pr (.int .i64 0), .pr (.bool false)]) = .tu [iA v, bA (okW (h * 268435456 + l))] ∧ (okW (h * 268435456 + l) = true → v = h * 268435456 + l) := by
    intro b h1 h2
    subst h1
    exact ⟨0, by rw [h2]; rfl, fun h => by rw [h2] at h; cases h⟩
  refine VIF.split (fun e => ?_) (fun e => ?_)
  · simp at e
    (simp -implicitDefEqProofs only [go_sem]; repeat (refine GO ?_; simp -implicitDefEqProofs only [go_sem]))
    exact ⟨rfl, bad _ rfl (by simp [okW, inB]; omega)⟩
  · simp at e
    (simp -implicitDefEqProofs only [go_sem]; repeat (refine GO ?_; simp -implicitDefEqProofs only [go_sem]))
    refine VIF.split (fun e2 => ?_) (fun e2 => ?_)
    · simp at e2
      (simp -implicitDefEqProofs only [go_sem]; repeat (refine GO ?_; simp -implicitDefEqProofs only [go_sem]))
      exact ⟨rfl, bad _ rfl (by simp [okW, inB]; omega)⟩
    · simp at e2
      have w2 : IntKind.i64.wrap ((h + l / 268435456) * 268435456) = (h + l / 268435456) * 268435456 := by rw [wrap_i64] <;> omega
      have w3 : IntKind.i64.wrap ((h + l / 268435456) * 268435456 + l % 268435456) = h * 268435456 + l := by rw [wrap_i64] <;> omega
      (simp -implicitDefEqProofs only [go_sem, shl28, and_mask, w1, w2, w3]; repeat (refine GO ?_; simp -implicitDefEqProofs only [go_sem, shl28, and_mask, w1, w2, w3]))
      refine ⟨by decide, GO ?_⟩
      (simp -implicitDefEqProofs only [go_sem]; repeat (refine GO ?_; simp -implicitDefEqProofs only [go_sem]))
      refine .pure _ (s37 (h * 268435456 + l)) rfl fun r hr _ => ?_
      subst hr
      (simp -implicitDefEqProofs only [go_sem, bA]; repeat (refine GO ?_; simp -implicitDefEqProofs only [go_sem, bA]))
      exact ⟨rfl, h * 268435456 + l, rfl, fun _ => rfl⟩
end Yt
namespace Yt
open Go Go.Vc Go.Proofs
set_option maxRecDepth 10000
set_option linter.unusedSimpArgs false
set_option linter.unusedVariables false
theorem any_take {α : Type} {p : α → Bool} {l : List α} {i : Nat} (h : ∀ j (hj : j < l.length), j < i → p l[j] = false) (hi : l.length ≤ i) : l.any p = false := by
  rw [List.any_eq_false]
  intro x hx
  obtain ⟨j, hj, rfl⟩ := List.mem_iff_getElem.1 hx
  simp [h j hj (by omega)]
theorem any_at {α : Type} {p : α → Bool} {l : List α} {i : Nat} (hi : i < l.length) (h : p l[i] = true) : l.any p = true := List.any_eq_true.2 ⟨_, List.getElem_mem hi, h⟩
theorem snoc_no {α : Type} {p : α → Bool} {l : List α} {i : Nat} (h : ∀ j (hj : j < l.length), j < i → p l[j] = false) (hi : i < l.length) (hp : p l[i] = false) : ∀ j (hj : j < l.length), j < i + 1 → p l[j] = false := by
  intro j hj hji
  by_cases e : j = i
  · subst e; exact hp
  · exact h j hj (by omega)
def longV (v : V) : Bool := decide (300 < (v.s.size : Int))
theorem s50 (a : List V) (ha : a.length < 4611686018427387904) : Spec0 Try.prog 22 [rowA a] (· = bA (a.any longV)) := by
  refine spec0_of_vc tabOk elems ord22 Try.func22 rfl (rl := [.tmp 2]) rfl (by kernel_rfl) rfl ?_
  (simp -implicitDefEqProofs only [go_sem, rowA]; repeat (refine GO ?_; simp -implicitDefEqProofs only [go_sem, rowA]))
  refine LOOP.mk (ι := { i : Nat // i ≤ a.length ∧ ∀ j (hj : j < a.length), j < i → longV a[j] = false }) (fun i => mkS [(0, rowA a), (3, iA i.1)] [] []) (fun i => a.length - i.1)
    ⟨0, by simp⟩ [] rfl rfl ?_ (fun i => ?_)
  · (simp -implicitDefEqProofs only [go_sem, rowA, iA]; repeat (refine GO ?_; simp -implicitDefEqProofs only [go_sem, rowA, iA]))
    simp
  · obtain ⟨i, hi, hz⟩ := i
    (simp -implicitDefEqProofs only [go_sem, rowA, iA]; repeat (refine GO ?_; simp -implicitDefEqProofs only [go_sem, rowA, iA]))
    refine VIF.split (fun h => ?_) (fun h => ?_)
    · simp only [decide_eq_true_eq] at h
      have hi' : i < a.length := by omega
      (simp -implicitDefEqProofs only [go_sem]; repeat (refine GO ?_; simp -implicitDefEqProofs only [go_sem]))
      refine EL.map hi' ?_
      (simp -implicitDefEqProofs only [go_sem, V.c]; repeat (refine GO ?_; simp -implicitDefEqProofs only [go_sem, V.c]))
      refine VIF.split (fun e => ?_) (fun e => ?_)
      · (simp -implicitDefEqProofs only [go_sem]; repeat (refine GO ?_; simp -implicitDefEqProofs only [go_sem]))
        rw [any_at hi' e]; rfl
      · (simp -implicitDefEqProofs only [go_sem]; repeat (refine GO ?_; simp -implicitDefEqProofs only [go_sem]))
        refine BACK.mk ⟨i + 1, hi', snoc_no hz hi' e⟩ [] rfl rfl (by show a.length - (i + 1) < a.length - i; omega) ?_
        (simp -implicitDefEqProofs only [go_sem, rowA, iA]; repeat (refine GO ?_; simp -implicitDefEqProofs only [go_sem, rowA, iA]))
        simp [wrap_succ hi' ha]
    · simp at h
      (simp -implicitDefEqProofs only [go_sem]; repeat (refine GO ?_; simp -implicitDefEqProofs only [go_sem]))
      rw [any_take hz h]; rfl
def heavyR (r : List V) : Bool := decide (40 < (r.length : Int)) || r.any longV
theorem s19 (a : List V) (ha : a.length < 4611686018427387904) : Spec0 Try.prog 5 [rowA a] (· = bA (heavyR a)) := by
  refine spec0_of_vc tabOk elems ord5 Try.func5 rfl (rl := [.tmp 2]) rfl (by kernel_rfl) rfl ?_
  (simp -implicitDefEqProofs only [go_sem, rowA]; repeat (refine GO ?_; simp -implicitDefEqProofs only [go_sem, rowA]))
  refine VIF.split (fun h => ?_) (fun h => ?_)
  · (simp -implicitDefEqProofs only [go_sem]; repeat (refine GO ?_; simp -implicitDefEqProofs only [go_sem]))
    simp only [heavyR, h]; rfl
  · (simp -implicitDefEqProofs only [go_sem]; repeat (refine GO ?_; simp -implicitDefEqProofs only [go_sem]))
    refine .pure _ (s50 a ha) rfl fun r hr _ => ?_
    subst hr
    (simp -implicitDefEqProofs only [go_sem, bA]; repeat (refine GO ?_; simp -implicitDefEqProofs only [go_sem, bA]))
    simp only [heavyR, h]; rfl
def heavyI (t : It) : Bool := heavyR t.row
def heavyS (z : List It) : Bool := decide (300 < (z.length : Int)) || z.any heavyI
def setsA (zs : List (List It)) : AV := .im 1 (zs.map fun z => [setA z])
theorem s10 (zs : List (List It)) (hl : zs.length < 4611686018427387904) (hz : ∀ z ∈ zs, z.length < 4611686018427387904) (hr : ∀ z ∈ zs, ∀ t ∈ z, t.row.length < 4611686018427387904) :
    Spec0 Try.prog 4 [setsA zs] (· = bA (zs.any heavyS)) := by
  refine spec0_of_vc tabOk elems ord4 Try.func4 rfl (rl := [.tmp 2]) rfl (by kernel_rfl) rfl ?_
  (simp -implicitDefEqProofs only [go_sem, setsA]; repeat (refine GO ?_; simp -implicitDefEqProofs only [go_sem, setsA]))
  refine LOOP.mk (ι := { i : Nat // i ≤ zs.length ∧ ∀ j (hj : j < zs.length), j < i → heavyS zs[j] = false }) (fun i => mkS [(0, setsA zs), (3, iA i.1)] [] []) (fun i => zs.length - i.1)
    ⟨0, by simp⟩ [] rfl rfl ?_ (fun i => ?_)
  · (simp -implicitDefEqProofs only [go_sem, setsA, iA]; repeat (refine GO ?_; simp -implicitDefEqProofs only [go_sem, setsA, iA]))
    simp
  · obtain ⟨i, hi, hd⟩ := i
    (simp -implicitDefEqProofs only [go_sem, setsA, iA]; repeat (refine GO ?_; simp -implicitDefEqProofs only [go_sem, setsA, iA]))
    refine VIF.split (fun h => ?_) (fun h => ?_)
    · simp only [decide_eq_true_eq] at h
      have hi' : i < zs.length := by omega
      have hzi := hz _ (List.getElem_mem hi')
      have hri := hr _ (List.getElem_mem hi')
      (simp -implicitDefEqProofs only [go_sem]; repeat (refine GO ?_; simp -implicitDefEqProofs only [go_sem]))
      refine EL.map hi' ?_
      (simp -implicitDefEqProofs only [go_sem, setA]; repeat (refine GO ?_; simp -implicitDefEqProofs only [go_sem, setA]))
      refine VIF.split (fun e => ?_) (fun e => ?_)
      · (simp -implicitDefEqProofs only [go_sem]; repeat (refine GO ?_; simp -implicitDefEqProofs only [go_sem]))
        rw [any_at hi' (by simp only [heavyS, e]; rfl)]; rfl
      · (simp -implicitDefEqProofs only [go_sem]; repeat (refine GO ?_; simp -implicitDefEqProofs only [go_sem]))
        refine LOOP.mk (ι := { j : Nat // j ≤ zs[i].length ∧ ∀ k (hk : k < zs[i].length), k < j → heavyI zs[i][k] = false }) (fun j => mkS [(0, setsA zs), (3, iA i), (4, iA j.1)] [] []) (fun j => zs[i].length - j.1)
          ⟨0, by simp⟩ [] rfl rfl ?_ (fun j => ?_)
        · (simp -implicitDefEqProofs only [go_sem, setsA, iA]; repeat (refine GO ?_; simp -implicitDefEqProofs only [go_sem, setsA, iA]))
          simp [setA]
        · obtain ⟨j, hj, hk⟩ := j
          (simp -implicitDefEqProofs only [go_sem, setsA, iA]; repeat (refine GO ?_; simp -implicitDefEqProofs only [go_sem, setsA, iA]))
          refine EL.map hi' ?_
          (simp -implicitDefEqProofs only [go_sem, setA]; repeat (refine GO ?_; simp -implicitDefEqProofs only [go_sem, setA]))
          refine VIF.split (fun h' => ?_) (fun h' => ?_)
          · simp only [decide_eq_true_eq] at h'
            have hj' : j < zs[i].length := by omega
            (simp -implicitDefEqProofs only [go_sem]; repeat (refine GO ?_; simp -implicitDefEqProofs only [go_sem]))
            refine EL.map hi' ?_
            (simp -implicitDefEqProofs only [go_sem, setA]; repeat (refine GO ?_; simp -implicitDefEqProofs only [go_sem, setA]))
            refine EL.map hj' ?_
            (simp -implicitDefEqProofs only [go_sem, It.c]; repeat (refine GO ?_; simp -implicitDefEqProofs only [go_sem, It.c]))
            refine .pure _ (s19 zs[i][j].row (hri _ (List.getElem_mem hj'))) rfl fun r hr _ => ?_
            subst hr
            (simp -implicitDefEqProofs only [go_sem, bA]; repeat (refine GO ?_; simp -implicitDefEqProofs only [go_sem, bA]))
            refine VIF.split (fun q => ?_) (fun q => ?_)
            · (simp -implicitDefEqProofs only [go_sem]; repeat (refine GO ?_; simp -implicitDefEqProofs only [go_sem]))
              rw [any_at hi' (by simp only [heavyS, any_at hj' (p := heavyI) q]; simp)]; rfl
            · (simp -implicitDefEqProofs only [go_sem]; repeat (refine GO ?_; simp -implicitDefEqProofs only [go_sem]))
              refine BACK.mk ⟨j + 1, hj', snoc_no hk hj' q⟩ [] rfl rfl (by show zs[i].length - (j + 1) < zs[i].length - j; omega) ?_
              (simp -implicitDefEqProofs only [go_sem, setsA, iA]; repeat (refine GO ?_; simp -implicitDefEqProofs only [go_sem, setsA, iA]))
              simp [wrap_succ hj' hzi, setA]
          · simp at h'
            (simp -implicitDefEqProofs only [go_sem]; repeat (refine GO ?_; simp -implicitDefEqProofs only [go_sem]))
            refine BACK.mk ⟨i + 1, hi', snoc_no hd hi' (by simp only [heavyS, e, any_take hk h']; rfl)⟩ [] rfl rfl (by show zs.length - (i + 1) < zs.length - i; omega) ?_
            (simp -implicitDefEqProofs only [go_sem, setsA, iA]; repeat (refine GO ?_; simp -implicitDefEqProofs only [go_sem, setsA, iA]))
            simp [wrap_succ hi' hl, setA]
    · simp at h
      (simp -implicitDefEqProofs only [go_sem]; repeat (refine GO ?_; simp -implicitDefEqProofs only [go_sem]))
      rw [any_take hd h]; rfl
end Yt
namespace Yt
open Go Go.Vc Go.Proofs
set_option maxRecDepth 10000
set_option linter.unusedSimpArgs false
set_option linter.unusedVariables false
theorem eqV_iff {a b : V} : eqV a b = true ↔ a = b := by
  obtain ⟨k, i, s⟩ := a; obtain ⟨k', i', s'⟩ := b
  simp [eqV, V.mk.injEq, and_assoc]
theorem s14 (a b : List V) (ha : a.length < 4611686018427387904) : Spec0 Try.prog 39 [rowA a, rowA b] (fun r => ∃ e : Bool, r = bA e ∧ (e = true ↔ a = b)) := by
  refine spec0_of_vc tabOk elems ord39 Try.func39 rfl (rl := [.tmp 4]) rfl (by kernel_rfl) rfl ?_
  (simp -implicitDefEqProofs only [go_sem, rowA]; repeat (refine GO ?_; simp -implicitDefEqProofs only [go_sem, rowA]))
  refine VIF.split (fun h => ?_) (fun h => ?_)
  · (simp -implicitDefEqProofs only [go_sem]; repeat (refine GO ?_; simp -implicitDefEqProofs only [go_sem]))
    simp at h
    exact ⟨false, rfl, by simp; intro e; subst e; exact h rfl⟩
  · simp at h
    (simp -implicitDefEqProofs only [go_sem]; repeat (refine GO ?_; simp -implicitDefEqProofs only [go_sem]))
    refine LOOP.mk (ι := { i : Nat // i ≤ a.length ∧ ∀ j (h1 : j < a.length) (h2 : j < b.length), j < i → a[j] = b[j] }) (fun i => mkS [(0, rowA a), (1, rowA b), (5, iA i.1)] [] []) (fun i => a.length - i.1)
      ⟨0, by simp⟩ [] rfl rfl ?_ (fun i => ?_)
    · (simp -implicitDefEqProofs only [go_sem, rowA, iA]; repeat (refine GO ?_; simp -implicitDefEqProofs only [go_sem, rowA, iA]))
      simp
    · obtain ⟨i, hi, hz⟩ := i
      (simp -implicitDefEqProofs only [go_sem, rowA, iA]; repeat (refine GO ?_; simp -implicitDefEqProofs only [go_sem, rowA, iA]))
      refine VIF.split (fun g => ?_) (fun g => ?_)
      · simp only [decide_eq_true_eq] at g
        have hi' : i < a.length := by omega
        have hb' : i < b.length := by omega
        (simp -implicitDefEqProofs only [go_sem]; repeat (refine GO ?_; simp -implicitDefEqProofs only [go_sem]))
        refine EL.map hi' ?_
        (simp -implicitDefEqProofs only [go_sem, V.c]; repeat (refine GO ?_; simp -implicitDefEqProofs only [go_sem, V.c]))
        refine EL.map hb' ?_
        (simp -implicitDefEqProofs only [go_sem, V.c]; repeat (refine GO ?_; simp -implicitDefEqProofs only [go_sem, V.c]))
        refine .pure _ (s46 a[i] b[i]) rfl fun r hr _ => ?_
        subst hr
        (simp -implicitDefEqProofs only [go_sem, bA]; repeat (refine GO ?_; simp -implicitDefEqProofs only [go_sem, bA]))
        refine VIF.split (fun e => ?_) (fun e => ?_)
        · (simp -implicitDefEqProofs only [go_sem]; repeat (refine GO ?_; simp -implicitDefEqProofs only [go_sem]))
          refine ⟨false, rfl, by simp; intro h'; subst h'; simp [eqV_iff.2 rfl] at e⟩
        · (simp -implicitDefEqProofs only [go_sem]; repeat (refine GO ?_; simp -implicitDefEqProofs only [go_sem]))
          have e' : a[i] = b[i] := eqV_iff.1 (by simpa using e)
          refine BACK.mk ⟨i + 1, hi', fun j h1 h2 hj => ?_⟩ [] rfl rfl (by show a.length - (i + 1) < a.length - i; omega) ?_
          · by_cases hji : j = i
            · subst hji; exact e'
            · exact hz j h1 h2 (by omega)
          · (simp -implicitDefEqProofs only [go_sem, rowA, iA]; repeat (refine GO ?_; simp -implicitDefEqProofs only [go_sem, rowA, iA]))
            simp [wrap_succ hi' ha]
      · simp at g
        (simp -implicitDefEqProofs only [go_sem]; repeat (refine GO ?_; simp -implicitDefEqProofs only [go_sem]))
        refine ⟨true, rfl, by simp; exact List.ext_getElem (by omega) fun j h1 h2 => hz j h1 h2 (by omega)⟩
end Yt
namespace Yt
open Go Go.Vc Go.Proofs
set_option linter.unusedSimpArgs false
set_option linter.unusedVariables false
def tot (r : List V) : List It → Int
  | [] => 0
  | t :: z => (if cmpR t.row r = 0 then t.w else 0) + tot r z
theorem tot_append (r : List V) (x y : List It) : tot r (x ++ y) = tot r x + tot r y := by
  induction x with
  | nil => simp [tot]
  | cons t x ih => simp only [List.cons_append, tot, ih]; omega
theorem tot_perm {r : List V} {x y : List It} (h : x.Perm y) : tot r x = tot r y := by
  induction h with
  | nil => rfl
  | cons t _ ih => simp only [tot, ih]
  | swap a b l => simp only [tot]; omega
  | trans _ _ h1 h2 => exact h1.trans h2
def sumW : List It → Int
  | [] => 0
  | t :: z => t.w + sumW z
theorem sumW_append (x y : List It) : sumW (x ++ y) = sumW x + sumW y := by
  induction x with
  | nil => simp [sumW]
  | cons t x ih => simp only [List.cons_append, sumW, ih]; omega
theorem tot_same {r : List V} {x : List It} (h : ∀ t ∈ x, cmpR t.row r = 0) : tot r x = sumW x := by
  induction x with
  | nil => rfl
  | cons t x ih => simp only [tot, sumW, h t (by simp), if_true, ih fun u hu => h u (by simp [hu])]
theorem tot_none {r : List V} {x : List It} (h : ∀ t ∈ x, cmpR t.row r ≠ 0) : tot r x = 0 := by
  induction x with
  | nil => rfl
  | cons t x ih => simp only [tot, h t (by simp), if_false, ih fun u hu => h u (by simp [hu])]; rfl
structure Made (o : List It) : Prop where
  pw : o.Pairwise fun a b => cI a b < 0
  nz : ∀ t ∈ o, t.w ≠ 0 ∧ okW t.w = true
theorem cI_eq {a b : It} : cI a b = 0 ↔ a.row = b.row := ⟨lin_cmpR.eq _ _, fun h => by simp only [cI, h]; exact lin_cmpR.self _⟩
theorem tot_made {o : List It} (h : Made o) {t : It} (ht : t ∈ o) : tot t.row o = t.w := by
  obtain ⟨hp, hz⟩ := h
  clear hz
  induction o with
  | nil => cases ht
  | cons u o ih =>
    rw [List.pairwise_cons] at hp
    simp only [tot]
    cases ht with
    | head =>
      rw [if_pos (lin_cmpR.self _), tot_none (fun v hv => ?_)]
      · omega
      · have := hp.1 v hv
        have hn := lin_cmpR.neg t.row v.row
        simp only [cI] at this
        omega
    | tail _ ht =>
      have := hp.1 t ht
      simp only [cI] at this
      rw [if_neg (by omega), ih ht hp.2]; omega
theorem made_eq {x y : List It} (hx : Made x) (hy : Made y) (h : ∀ r, tot r x = tot r y) : x = y := by
  have key : ∀ {x y : List It}, Made x → Made y → (∀ r, tot r x = tot r y) → ∀ t ∈ x, t ∈ y := by
    intro x y hx hy h t ht
    have h1 := tot_made hx ht
    have h2 := h t.row
    rw [h1] at h2
    have hnz := (hx.nz t ht).1
    have : ∃ u ∈ y, cmpR u.row t.row = 0 := by
      apply Classical.byContradiction
      intro hno
      have := tot_none (r := t.row) (x := y) fun u hu e => hno ⟨u, hu, e⟩
      omega
    obtain ⟨u, hu, e⟩ := this
    have hrow := lin_cmpR.eq _ _ e
    have h3 := tot_made hy hu
    rw [hrow, ← h2] at h3
    have : t = u := by
      obtain ⟨a, b⟩ := t; obtain ⟨a', b'⟩ := u
      simp only at hrow h3
      subst hrow; subst h3; rfl
    rw [this]; exact hu
  have nd : ∀ {x : List It}, Made x → x.Nodup := fun hx => hx.pw.imp fun {a b} hab e => by
    subst e; have := (cI_eq (a := a) (b := a)).2 rfl; omega
  have hperm : x.Perm y := (List.perm_ext_iff_of_nodup (nd hx) (nd hy)).2 fun t => ⟨key hx hy h t, key hy hx (fun r => (h r).symm) t⟩
  exact hperm.eq_of_pairwise (fun a b _ _ h1 h2 => by
    have := lin_cmpR.neg a.row b.row
    simp only [cI] at h1 h2; omega) hx.pw hy.pw
end Yt
namespace Yt
open Go Go.Vc Go.Proofs
set_option linter.unusedSimpArgs false
set_option linter.unusedVariables false
structure GI (y : List It) (off : Nat) (o : List It) : Prop where
  le : off ≤ y.length
  made : Made o
  low : ∀ t ∈ o, ∀ j (h : j < y.length), off ≤ j → cI t y[j] < 0
  cut : ∀ i j (h1 : i < y.length) (h2 : j < y.length), i < off → off ≤ j → cI y[i] y[j] < 0
  tot : ∀ r, tot r o = tot r (y.take off)
  src : ∀ t ∈ o, ∃ u ∈ y, u.row = t.row
theorem GI.start (y : List It) : GI y 0 [] := ⟨Nat.zero_le _, ⟨.nil, by simp⟩, by simp, by simp, fun r => by simp [Yt.tot], by simp⟩
structure Run (y : List It) (off e : Nat) : Prop where
  lt : off < e
  le : e ≤ y.length
  same : ∀ j (h : j < y.length) (h0 : off < y.length), off ≤ j → j < e → cI y[j] y[off] = 0
  next : ∀ (h : e < y.length) (h0 : off < y.length), cI y[e] y[off] ≠ 0
theorem SR.get {y : List It} (h : SR cI y 0 y.length) {i j : Nat} (hi : i < y.length) (hj : j < y.length) (hij : i < j) : cI y[i] y[j] ≤ 0 :=
  h i j (Nat.zero_le _) hij hj _ _ (List.getElem?_eq_getElem hi) (List.getElem?_eq_getElem hj)
theorem cI_neg (a b : It) : cI b a = - cI a b := lin_cmpR.neg _ _
theorem cI_row {a b c : It} (h : a.row = b.row) : cI a c = cI b c := by simp only [cI, h]
theorem cI_row' {a b c : It} (h : a.row = b.row) : cI c a = cI c b := by simp only [cI, h]
theorem take_split (y : List It) {off e : Nat} (h : off ≤ e) : y.take e = y.take off ++ (y.drop off).take (e - off) := by
  rw [← List.take_add, Nat.add_sub_cancel' h]
theorem GI.step {y o : List It} {off e : Nat} (hs : SR cI y 0 y.length) (g : GI y off o) (r : Run y off e) (h0 : off < y.length) (hok : okW (sumW ((y.drop off).take (e - off))) = true) :
    GI y e (if sumW ((y.drop off).take (e - off)) = 0 then o else o ++ [⟨y[off].row, sumW ((y.drop off).take (e - off))⟩]) := by
  have hrow : ∀ j (h : j < y.length), off ≤ j → j < e → y[j].row = y[off].row := fun j h a b => cI_eq.1 (r.same j h h0 a b)
  have hgt : ∀ j (h : j < y.length), e ≤ j → cI y[off] y[j] < 0 := by
    intro j h hj
    have he : e < y.length := by omega
    have h1 := SR.get hs h0 he r.lt
    have h2 := r.next he h0
    have h3 := cI_neg y[e] y[off]
    have h4 : cI y[off] y[e] < 0 := by omega
    by_cases e1 : j = e
    · subst e1; exact h4
    · have h5 := SR.get hs he h (by omega)
      by_cases e2 : cI y[e] y[j] = 0
      · rw [← cI_row' (cI_eq.1 e2)]; exact h4
      · exact lin_cmpR.trans _ _ _ h4 (by simp only [cI] at *; omega)
  have hcut : ∀ i j (h1 : i < y.length) (h2 : j < y.length), i < e → e ≤ j → cI y[i] y[j] < 0 := by
    intro i j h1 h2 hi hj
    by_cases e1 : i < off
    · exact g.cut i j h1 h2 e1 (by have := r.lt; omega)
    · rw [cI_row (hrow i h1 (by omega) hi)]; exact hgt j h2 hj
  have hlow : ∀ t ∈ o, ∀ j (h : j < y.length), e ≤ j → cI t y[j] < 0 := fun t ht j h hj => g.low t ht j h (by have := r.lt; omega)
  have hrun : ∀ t ∈ (y.drop off).take (e - off), t.row = y[off].row := by
    intro t ht
    obtain ⟨k, hk, rfl⟩ := List.mem_iff_getElem.1 ht
    simp only [List.length_take, List.length_drop] at hk
    simp only [List.getElem_take, List.getElem_drop]
    exact hrow _ _ (by omega) (by omega)
  have htot : ∀ q, Yt.tot q ((y.drop off).take (e - off)) = if cmpR y[off].row q = 0 then sumW ((y.drop off).take (e - off)) else 0 := by
    intro q
    split
    · rename_i hq
      exact tot_same fun t ht => by rw [hrun t ht]; exact hq
    · rename_i hq
      exact tot_none fun t ht => by rw [hrun t ht]; exact hq
  have hsplit := take_split y (Nat.le_of_lt r.lt)
  split
  · rename_i hz
    refine ⟨r.le, g.made, hlow, hcut, fun q => ?_, g.src⟩
    rw [hsplit, tot_append, g.tot q, htot q, hz]
    split <;> omega
  · rename_i hz
    refine ⟨r.le, ⟨?_, ?_⟩, ?_, hcut, fun q => ?_, ?_⟩
    · rw [List.pairwise_append]
      refine ⟨g.made.pw, List.pairwise_singleton _ _, fun t ht u hu => ?_⟩
      simp only [List.mem_singleton] at hu
      subst hu
      exact g.low t ht off h0 (Nat.le_refl _)
    · intro t ht
      rw [List.mem_append, List.mem_singleton] at ht
      rcases ht with ht | rfl
      · exact g.made.nz t ht
      · exact ⟨hz, hok⟩
    · intro t ht
      rw [List.mem_append, List.mem_singleton] at ht
      rcases ht with ht | rfl
      · exact hlow t ht
      · exact hgt
    · rw [tot_append, hsplit, tot_append, g.tot q, htot q]
      simp only [Yt.tot]; omega
    · intro t ht
      rw [List.mem_append, List.mem_singleton] at ht
      rcases ht with ht | rfl
      · exact g.src t ht
      · exact ⟨y[off], List.getElem_mem h0, rfl⟩
theorem GI.total {y o : List It} {off e : Nat} (hs : SR cI y 0 y.length) (g : GI y off o) (r : Run y off e) (h0 : off < y.length) : Yt.tot y[off].row y = sumW ((y.drop off).take (e - off)) := by
  have hsplit := take_split y (Nat.le_of_lt r.lt)
  have hy : y = y.take off ++ (y.drop off).take (e - off) ++ y.drop e := by rw [← hsplit, List.take_append_drop]
  have h1 : Yt.tot y[off].row (y.take off) = 0 := tot_none fun t ht => by
    obtain ⟨k, hk, rfl⟩ := List.mem_iff_getElem.1 ht
    simp only [List.length_take] at hk
    rw [List.getElem_take]
    have := g.cut k off (by omega) h0 (by omega) (Nat.le_refl _)
    simp only [cI] at this; omega
  have h2 : Yt.tot y[off].row ((y.drop off).take (e - off)) = sumW ((y.drop off).take (e - off)) := tot_same fun t ht => by
    obtain ⟨k, hk, rfl⟩ := List.mem_iff_getElem.1 ht
    simp only [List.length_take, List.length_drop] at hk
    rw [List.getElem_take, List.getElem_drop]
    exact r.same _ (by omega) h0 (by omega) (by omega)
  have h3 : Yt.tot y[off].row (y.drop e) = 0 := tot_none fun t ht => by
    obtain ⟨k, hk, rfl⟩ := List.mem_iff_getElem.1 ht
    simp only [List.length_drop] at hk
    rw [List.getElem_drop]
    have he : e < y.length := by omega
    have a1 := SR.get hs h0 he r.lt
    have a2 := r.next he h0
    have a3 := cI_neg y[e] y[off]
    intro e1
    by_cases e2 : k = 0
    · subst e2; exact a2 e1
    · have a4 := SR.get hs he (show e + k < y.length by omega) (by omega)
      have a5 : cI y[e] y[off] ≤ 0 := by rw [← cI_row' (cI_eq.1 e1)]; exact a4
      omega
  have : Yt.tot y[off].row y = Yt.tot y[off].row (y.take off ++ (y.drop off).take (e - off) ++ y.drop e) := by rw [← hy]
  rw [this, tot_append, tot_append, h1, h2, h3]; omega
end Yt
