/- Contracts of the program's functions over abstract values and states, plain facts on which these lean, and the framework of these values over the model: Orders. The conditions stand in each theorem. -/
import Derived.Test.YtbnbngkbngmndaaBd
import Derived.Test.YtbnbngkbngmndaaBb
set_option linter.all false
namespace Yt
open Go Go.Vc
/-- Orders in raddle/raddlelaw18.DistExact. -/
def ord4 : Ords
  | 6 => some (.lin [(0, none, false, false), (1, none, false, false), (2, none, false, false), (3, none, false, false), (4, none, true, false), (5, none, false, false), (6, none, false, false), (7, none, false, false), (8, none, false, false), (9, none, false, false)])
  | 9 => some (.lin [(0, none, false, false), (1, none, false, false), (2, none, true, false), (3, none, false, false), (4, none, false, false), (5, none, false, false), (6, none, true, false), (7, none, false, false), (8, none, false, false), (9, none, false, false), (10, none, false, false), (11, none, false, false), (12, none, false, false), (13, none, false, false), (14, none, true, false), (15, none, false, false), (16, none, false, false), (17, none, false, false)])
  | 10 => some (.lin [(0, none, false, false), (1, none, false, false), (2, none, true, false), (3, none, false, false), (4, none, false, false), (5, none, false, false), (6, none, false, false), (7, none, false, false), (8, none, false, false)])
  | 14 => some (.lin [(0, none, false, false), (1, none, false, false), (2, none, true, false), (3, none, false, false), (4, none, false, false), (5, none, false, false), (6, none, false, false), (7, none, true, false), (8, none, false, false), (9, none, false, false), (10, none, false, false), (11, none, false, false), (12, none, true, false), (13, none, false, false), (14, none, false, false), (15, none, false, false)])
  | 17 => some (.lin [(0, none, false, false), (1, none, false, false), (2, none, false, false), (3, none, true, false), (4, none, false, false), (5, none, false, false), (6, none, false, false), (7, none, false, false), (8, none, true, false), (9, none, false, false), (10, none, false, false), (11, none, false, false)])
  | 19 => some (.lin [(0, none, false, false), (1, none, false, false), (2, none, true, false), (3, none, false, false), (4, none, false, false), (5, none, false, false), (6, none, false, false), (7, none, true, false), (8, none, false, false), (9, none, false, false), (10, none, false, false), (11, none, false, false), (12, none, true, false), (13, none, false, false), (14, none, false, false), (15, none, false, false)])
  | _ => none
@[go_sem] theorem ord4_0 : ord4 0 = none := rfl
@[go_sem] theorem ord4_1 : ord4 1 = none := rfl
@[go_sem] theorem ord4_2 : ord4 2 = none := rfl
@[go_sem] theorem ord4_3 : ord4 3 = none := rfl
@[go_sem] theorem ord4_4 : ord4 4 = none := rfl
@[go_sem] theorem ord4_5 : ord4 5 = none := rfl
@[go_sem] theorem ord4_6 : ord4 6 = some (.lin [(0, none, false, false), (1, none, false, false), (2, none, false, false), (3, none, false, false), (4, none, true, false), (5, none, false, false), (6, none, false, false), (7, none, false, false), (8, none, false, false), (9, none, false, false)]) := rfl
@[go_sem] theorem ord4_7 : ord4 7 = none := rfl
@[go_sem] theorem ord4_8 : ord4 8 = none := rfl
@[go_sem] theorem ord4_9 : ord4 9 = some (.lin [(0, none, false, false), (1, none, false, false), (2, none, true, false), (3, none, false, false), (4, none, false, false), (5, none, false, false), (6, none, true, false), (7, none, false, false), (8, none, false, false), (9, none, false, false), (10, none, false, false), (11, none, false, false), (12, none, false, false), (13, none, false, false), (14, none, true, false), (15, none, false, false), (16, none, false, false), (17, none, false, false)]) := rfl
@[go_sem] theorem ord4_10 : ord4 10 = some (.lin [(0, none, false, false), (1, none, false, false), (2, none, true, false), (3, none, false, false), (4, none, false, false), (5, none, false, false), (6, none, false, false), (7, none, false, false), (8, none, false, false)]) := rfl
@[go_sem] theorem ord4_11 : ord4 11 = none := rfl
@[go_sem] theorem ord4_12 : ord4 12 = none := rfl
@[go_sem] theorem ord4_13 : ord4 13 = none := rfl
@[go_sem] theorem ord4_14 : ord4 14 = some (.lin [(0, none, false, false), (1, none, false, false), (2, none, true, false), (3, none, false, false), (4, none, false, false), (5, none, false, false), (6, none, false, false), (7, none, true, false), (8, none, false, false), (9, none, false, false), (10, none, false, false), (11, none, false, false), (12, none, true, false), (13, none, false, false), (14, none, false, false), (15, none, false, false)]) := rfl
@[go_sem] theorem ord4_15 : ord4 15 = none := rfl
@[go_sem] theorem ord4_16 : ord4 16 = none := rfl
@[go_sem] theorem ord4_17 : ord4 17 = some (.lin [(0, none, false, false), (1, none, false, false), (2, none, false, false), (3, none, true, false), (4, none, false, false), (5, none, false, false), (6, none, false, false), (7, none, false, false), (8, none, true, false), (9, none, false, false), (10, none, false, false), (11, none, false, false)]) := rfl
@[go_sem] theorem ord4_18 : ord4 18 = none := rfl
@[go_sem] theorem ord4_19 : ord4 19 = some (.lin [(0, none, false, false), (1, none, false, false), (2, none, true, false), (3, none, false, false), (4, none, false, false), (5, none, false, false), (6, none, false, false), (7, none, true, false), (8, none, false, false), (9, none, false, false), (10, none, false, false), (11, none, false, false), (12, none, true, false), (13, none, false, false), (14, none, false, false), (15, none, false, false)]) := rfl
/-- Orders in raddle/raddlelaw18.DistSteps. -/
def ord5 : Ords
  | 16 => some (.lin [(0, none, false, false), (1, none, false, false), (2, none, true, false), (3, none, false, false), (4, none, false, false), (5, none, false, false)])
  | 18 => some (.lin [(0, none, false, false), (1, none, false, false), (2, none, true, false), (3, none, false, false), (4, none, false, false), (5, none, false, false)])
  | 20 => some (.lin [(0, none, false, false), (1, none, false, false), (2, none, true, false), (3, none, false, false), (4, none, false, false), (5, none, true, false), (6, none, false, false), (7, none, false, false), (8, none, false, false), (9, none, false, false), (10, none, false, false), (11, none, true, false), (12, none, false, false), (13, none, false, false), (14, none, true, false), (15, none, false, false), (16, none, false, false), (17, none, false, false), (18, none, true, false), (19, none, false, false), (20, none, false, false), (21, none, false, false), (22, none, false, false), (23, none, false, false), (24, none, false, false), (25, none, false, false), (26, none, true, false), (27, none, false, false), (28, none, false, false), (29, none, false, false), (30, none, false, false), (31, none, false, false), (32, none, false, false), (33, none, false, false), (34, none, false, false), (35, none, false, false), (36, none, false, false)])
  | _ => none
@[go_sem] theorem ord5_0 : ord5 0 = none := rfl
@[go_sem] theorem ord5_1 : ord5 1 = none := rfl
@[go_sem] theorem ord5_2 : ord5 2 = none := rfl
@[go_sem] theorem ord5_3 : ord5 3 = none := rfl
@[go_sem] theorem ord5_4 : ord5 4 = none := rfl
@[go_sem] theorem ord5_5 : ord5 5 = none := rfl
@[go_sem] theorem ord5_6 : ord5 6 = none := rfl
@[go_sem] theorem ord5_8 : ord5 8 = none := rfl
@[go_sem] theorem ord5_9 : ord5 9 = none := rfl
@[go_sem] theorem ord5_10 : ord5 10 = none := rfl
@[go_sem] theorem ord5_11 : ord5 11 = none := rfl
@[go_sem] theorem ord5_12 : ord5 12 = none := rfl
@[go_sem] theorem ord5_13 : ord5 13 = none := rfl
@[go_sem] theorem ord5_14 : ord5 14 = none := rfl
@[go_sem] theorem ord5_15 : ord5 15 = none := rfl
@[go_sem] theorem ord5_16 : ord5 16 = some (.lin [(0, none, false, false), (1, none, false, false), (2, none, true, false), (3, none, false, false), (4, none, false, false), (5, none, false, false)]) := rfl
@[go_sem] theorem ord5_17 : ord5 17 = none := rfl
@[go_sem] theorem ord5_18 : ord5 18 = some (.lin [(0, none, false, false), (1, none, false, false), (2, none, true, false), (3, none, false, false), (4, none, false, false), (5, none, false, false)]) := rfl
@[go_sem] theorem ord5_19 : ord5 19 = none := rfl
@[go_sem] theorem ord5_20 : ord5 20 = some (.lin [(0, none, false, false), (1, none, false, false), (2, none, true, false), (3, none, false, false), (4, none, false, false), (5, none, true, false), (6, none, false, false), (7, none, false, false), (8, none, false, false), (9, none, false, false), (10, none, false, false), (11, none, true, false), (12, none, false, false), (13, none, false, false), (14, none, true, false), (15, none, false, false), (16, none, false, false), (17, none, false, false), (18, none, true, false), (19, none, false, false), (20, none, false, false), (21, none, false, false), (22, none, false, false), (23, none, false, false), (24, none, false, false), (25, none, false, false), (26, none, true, false), (27, none, false, false), (28, none, false, false), (29, none, false, false), (30, none, false, false), (31, none, false, false), (32, none, false, false), (33, none, false, false), (34, none, false, false), (35, none, false, false), (36, none, false, false)]) := rfl
@[go_sem] theorem ord5_21 : ord5 21 = none := rfl
@[go_sem] theorem ord5_22 : ord5 22 = none := rfl
@[go_sem] theorem ord5_7 : ord5 7 = none := rfl
@[go_sem] theorem ord5_23 : ord5 23 = none := rfl
/-- Orders in raddle/raddlelaw17.JoinRows. -/
def ord6 : Ords
  | 1 => some (.lin [(0, none, false, false), (1, none, false, false), (2, none, false, false), (3, none, false, false), (4, none, true, false), (5, none, false, false), (6, none, false, false), (7, none, false, false), (8, none, false, false), (9, none, true, false), (10, none, false, false), (11, none, false, false), (12, none, false, false), (13, none, false, false), (14, none, false, false), (15, none, false, false)])
  | 6 => some (.lin [(0, none, false, false), (1, none, false, false), (2, none, true, false), (3, none, false, false), (4, none, false, false), (5, none, false, false), (6, none, false, false), (7, none, true, false), (8, none, false, false), (9, none, false, false), (10, none, false, false)])
  | 10 => some (.lin [(0, some false, false, false), (1, some false, false, false), (2, some false, false, false), (3, some false, false, false), (4, some false, false, false), (5, some false, false, false), (6, some false, false, false), (7, some false, false, false), (8, some false, false, false), (9, some false, false, false), (10, some false, false, false), (11, some false, false, false)])
  | 23 => some (.lin [(0, some false, false, false), (1, some false, false, false), (2, some false, false, false), (3, some false, false, false), (4, some false, false, false), (5, some false, false, false), (6, some false, false, false), (7, some false, false, false), (8, some false, false, false), (9, some false, false, false)])
  | 24 => some (.lin [(0, some false, false, false), (1, some false, true, false), (2, some false, false, false), (3, some false, false, false), (4, some false, false, false), (5, some false, true, false), (6, some false, false, false), (7, some false, false, false), (8, some false, false, false), (9, some false, false, false), (10, some false, false, false), (11, some false, false, false), (12, some false, false, false), (13, some false, false, false), (14, some false, false, false), (15, some false, true, false), (16, some false, false, false), (17, some false, false, false), (18, some false, false, false), (19, some false, true, false), (20, some false, false, false), (21, some false, false, false), (22, some false, false, false), (23, some false, false, false), (24, some false, false, false), (25, some false, false, false), (26, some false, false, false), (27, some false, false, false), (28, some false, false, false), (29, some false, true, false), (30, some false, false, false), (31, some false, false, false), (32, some false, false, false), (33, some false, false, false), (34, some false, false, false), (35, some false, false, false), (36, some false, false, false), (37, some false, false, false), (38, some false, false, false), (39, some false, false, false), (40, some false, false, false), (41, some false, true, false), (42, some false, false, false), (43, some false, false, false), (44, some false, false, false), (45, some false, false, false), (46, some false, false, false), (47, some false, false, false), (48, some false, false, false), (49, some false, false, false), (50, some false, false, false), (51, some false, false, false), (52, some false, false, false), (53, some false, false, false), (54, some false, false, false), (55, some false, false, false), (56, some false, false, false), (57, some false, false, false), (58, none, false, false), (59, some false, false, false), (60, some false, false, false)])
  | 28 => some (.lin [(0, some false, false, false), (1, some false, false, false), (2, some false, false, false), (3, some false, false, false), (4, some false, false, false), (5, some false, false, false), (6, some false, false, false), (7, some false, false, false), (8, some false, false, false), (9, some false, false, false), (10, some false, false, false), (11, some false, false, false)])
  | 29 => some (.lin [(0, some false, false, false), (1, some false, false, false), (2, some false, false, false), (3, some false, false, false), (4, some false, false, false), (5, some false, false, false), (7, some false, false, false), (8, some false, false, false), (14, some false, false, false), (9, some true, false, false), (10, some false, false, false), (11, some true, false, false), (6, none, false, false), (12, none, false, false), (13, none, false, true), (15, some false, false, false)])
  | 31 => some (.lin [(0, none, false, false), (1, none, false, false), (2, none, false, false), (3, none, false, false), (4, none, true, false), (5, none, false, false), (6, none, false, false), (7, none, false, false)])
  | _ => none
@[go_sem] theorem ord6_0 : ord6 0 = none := rfl
@[go_sem] theorem ord6_1 : ord6 1 = some (.lin [(0, none, false, false), (1, none, false, false), (2, none, false, false), (3, none, false, false), (4, none, true, false), (5, none, false, false), (6, none, false, false), (7, none, false, false), (8, none, false, false), (9, none, true, false), (10, none, false, false), (11, none, false, false), (12, none, false, false), (13, none, false, false), (14, none, false, false), (15, none, false, false)]) := rfl
@[go_sem] theorem ord6_2 : ord6 2 = none := rfl
@[go_sem] theorem ord6_3 : ord6 3 = none := rfl
@[go_sem] theorem ord6_4 : ord6 4 = none := rfl
@[go_sem] theorem ord6_5 : ord6 5 = none := rfl
@[go_sem] theorem ord6_6 : ord6 6 = some (.lin [(0, none, false, false), (1, none, false, false), (2, none, true, false), (3, none, false, false), (4, none, false, false), (5, none, false, false), (6, none, false, false), (7, none, true, false), (8, none, false, false), (9, none, false, false), (10, none, false, false)]) := rfl
@[go_sem] theorem ord6_7 : ord6 7 = none := rfl
@[go_sem] theorem ord6_8 : ord6 8 = none := rfl
@[go_sem] theorem ord6_10 : ord6 10 = some (.lin [(0, some false, false, false), (1, some false, false, false), (2, some false, false, false), (3, some false, false, false), (4, some false, false, false), (5, some false, false, false), (6, some false, false, false), (7, some false, false, false), (8, some false, false, false), (9, some false, false, false), (10, some false, false, false), (11, some false, false, false)]) := rfl
@[go_sem] theorem ord6_11 : ord6 11 = none := rfl
@[go_sem] theorem ord6_9 : ord6 9 = none := rfl
@[go_sem] theorem ord6_12 : ord6 12 = none := rfl
@[go_sem] theorem ord6_13 : ord6 13 = none := rfl
@[go_sem] theorem ord6_14 : ord6 14 = none := rfl
@[go_sem] theorem ord6_16 : ord6 16 = none := rfl
@[go_sem] theorem ord6_17 : ord6 17 = none := rfl
@[go_sem] theorem ord6_19 : ord6 19 = none := rfl
@[go_sem] theorem ord6_20 : ord6 20 = none := rfl
@[go_sem] theorem ord6_21 : ord6 21 = none := rfl
@[go_sem] theorem ord6_23 : ord6 23 = some (.lin [(0, some false, false, false), (1, some false, false, false), (2, some false, false, false), (3, some false, false, false), (4, some false, false, false), (5, some false, false, false), (6, some false, false, false), (7, some false, false, false), (8, some false, false, false), (9, some false, false, false)]) := rfl
@[go_sem] theorem ord6_24 : ord6 24 = some (.lin [(0, some false, false, false), (1, some false, true, false), (2, some false, false, false), (3, some false, false, false), (4, some false, false, false), (5, some false, true, false), (6, some false, false, false), (7, some false, false, false), (8, some false, false, false), (9, some false, false, false), (10, some false, false, false), (11, some false, false, false), (12, some false, false, false), (13, some false, false, false), (14, some false, false, false), (15, some false, true, false), (16, some false, false, false), (17, some false, false, false), (18, some false, false, false), (19, some false, true, false), (20, some false, false, false), (21, some false, false, false), (22, some false, false, false), (23, some false, false, false), (24, some false, false, false), (25, some false, false, false), (26, some false, false, false), (27, some false, false, false), (28, some false, false, false), (29, some false, true, false), (30, some false, false, false), (31, some false, false, false), (32, some false, false, false), (33, some false, false, false), (34, some false, false, false), (35, some false, false, false), (36, some false, false, false), (37, some false, false, false), (38, some false, false, false), (39, some false, false, false), (40, some false, false, false), (41, some false, true, false), (42, some false, false, false), (43, some false, false, false), (44, some false, false, false), (45, some false, false, false), (46, some false, false, false), (47, some false, false, false), (48, some false, false, false), (49, some false, false, false), (50, some false, false, false), (51, some false, false, false), (52, some false, false, false), (53, some false, false, false), (54, some false, false, false), (55, some false, false, false), (56, some false, false, false), (57, some false, false, false), (58, none, false, false), (59, some false, false, false), (60, some false, false, false)]) := rfl
@[go_sem] theorem ord6_22 : ord6 22 = none := rfl
@[go_sem] theorem ord6_25 : ord6 25 = none := rfl
@[go_sem] theorem ord6_26 : ord6 26 = none := rfl
@[go_sem] theorem ord6_27 : ord6 27 = none := rfl
@[go_sem] theorem ord6_28 : ord6 28 = some (.lin [(0, some false, false, false), (1, some false, false, false), (2, some false, false, false), (3, some false, false, false), (4, some false, false, false), (5, some false, false, false), (6, some false, false, false), (7, some false, false, false), (8, some false, false, false), (9, some false, false, false), (10, some false, false, false), (11, some false, false, false)]) := rfl
@[go_sem] theorem ord6_29 : ord6 29 = some (.lin [(0, some false, false, false), (1, some false, false, false), (2, some false, false, false), (3, some false, false, false), (4, some false, false, false), (5, some false, false, false), (7, some false, false, false), (8, some false, false, false), (14, some false, false, false), (9, some true, false, false), (10, some false, false, false), (11, some true, false, false), (6, none, false, false), (12, none, false, false), (13, none, false, true), (15, some false, false, false)]) := rfl
@[go_sem] theorem ord6_30 : ord6 30 = none := rfl
@[go_sem] theorem ord6_18 : ord6 18 = none := rfl
@[go_sem] theorem ord6_15 : ord6 15 = none := rfl
@[go_sem] theorem ord6_31 : ord6 31 = some (.lin [(0, none, false, false), (1, none, false, false), (2, none, false, false), (3, none, false, false), (4, none, true, false), (5, none, false, false), (6, none, false, false), (7, none, false, false)]) := rfl
/-- Orders in raddle/raddlelaw18.DistAdds. -/
def ord7 : Ords
  | 1 => some (.lin [(0, none, false, false), (1, none, false, false), (2, none, false, false), (3, none, true, false), (4, none, false, false), (5, none, false, false), (6, none, false, false)])
  | 13 => some (.lin [(0, none, false, false), (1, none, false, false), (2, none, true, false), (3, none, false, false), (4, none, false, false), (5, none, false, false), (6, none, true, false), (7, none, false, false), (8, none, false, false), (9, none, false, false), (10, none, true, false), (11, none, false, false), (12, none, false, false), (13, none, false, false), (14, none, true, false), (15, none, false, false), (16, none, false, false), (17, none, false, false), (18, none, true, false), (19, none, false, false), (20, none, false, false), (21, none, false, false), (22, none, false, false), (23, none, false, false), (24, none, true, false), (25, none, false, false), (26, none, false, false), (27, none, false, false), (28, none, false, false), (29, none, false, false)])
  | 18 => some (.lin [(0, none, false, false), (1, none, false, false), (2, none, false, false), (3, none, false, false), (4, none, false, false), (5, none, false, false), (6, none, true, false), (7, none, false, false), (8, none, false, false), (9, none, false, false), (10, none, false, false), (11, none, false, false), (12, none, false, false), (13, none, false, false), (14, none, true, false), (15, none, false, false), (16, none, false, false), (17, none, false, false), (18, none, false, false), (19, none, false, false), (20, none, false, false), (21, none, false, false), (22, none, false, false), (23, none, false, false)])
  | _ => none
@[go_sem] theorem ord7_0 : ord7 0 = none := rfl
@[go_sem] theorem ord7_1 : ord7 1 = some (.lin [(0, none, false, false), (1, none, false, false), (2, none, false, false), (3, none, true, false), (4, none, false, false), (5, none, false, false), (6, none, false, false)]) := rfl
@[go_sem] theorem ord7_2 : ord7 2 = none := rfl
@[go_sem] theorem ord7_3 : ord7 3 = none := rfl
@[go_sem] theorem ord7_4 : ord7 4 = none := rfl
@[go_sem] theorem ord7_5 : ord7 5 = none := rfl
@[go_sem] theorem ord7_7 : ord7 7 = none := rfl
@[go_sem] theorem ord7_8 : ord7 8 = none := rfl
@[go_sem] theorem ord7_9 : ord7 9 = none := rfl
@[go_sem] theorem ord7_10 : ord7 10 = none := rfl
@[go_sem] theorem ord7_11 : ord7 11 = none := rfl
@[go_sem] theorem ord7_12 : ord7 12 = none := rfl
@[go_sem] theorem ord7_13 : ord7 13 = some (.lin [(0, none, false, false), (1, none, false, false), (2, none, true, false), (3, none, false, false), (4, none, false, false), (5, none, false, false), (6, none, true, false), (7, none, false, false), (8, none, false, false), (9, none, false, false), (10, none, true, false), (11, none, false, false), (12, none, false, false), (13, none, false, false), (14, none, true, false), (15, none, false, false), (16, none, false, false), (17, none, false, false), (18, none, true, false), (19, none, false, false), (20, none, false, false), (21, none, false, false), (22, none, false, false), (23, none, false, false), (24, none, true, false), (25, none, false, false), (26, none, false, false), (27, none, false, false), (28, none, false, false), (29, none, false, false)]) := rfl
@[go_sem] theorem ord7_14 : ord7 14 = none := rfl
@[go_sem] theorem ord7_15 : ord7 15 = none := rfl
@[go_sem] theorem ord7_16 : ord7 16 = none := rfl
@[go_sem] theorem ord7_18 : ord7 18 = some (.lin [(0, none, false, false), (1, none, false, false), (2, none, false, false), (3, none, false, false), (4, none, false, false), (5, none, false, false), (6, none, true, false), (7, none, false, false), (8, none, false, false), (9, none, false, false), (10, none, false, false), (11, none, false, false), (12, none, false, false), (13, none, false, false), (14, none, true, false), (15, none, false, false), (16, none, false, false), (17, none, false, false), (18, none, false, false), (19, none, false, false), (20, none, false, false), (21, none, false, false), (22, none, false, false), (23, none, false, false)]) := rfl
@[go_sem] theorem ord7_19 : ord7 19 = none := rfl
@[go_sem] theorem ord7_17 : ord7 17 = none := rfl
@[go_sem] theorem ord7_20 : ord7 20 = none := rfl
@[go_sem] theorem ord7_21 : ord7 21 = none := rfl
@[go_sem] theorem ord7_23 : ord7 23 = none := rfl
@[go_sem] theorem ord7_24 : ord7 24 = none := rfl
@[go_sem] theorem ord7_25 : ord7 25 = none := rfl
@[go_sem] theorem ord7_26 : ord7 26 = none := rfl
@[go_sem] theorem ord7_27 : ord7 27 = none := rfl
@[go_sem] theorem ord7_22 : ord7 22 = none := rfl
@[go_sem] theorem ord7_28 : ord7 28 = none := rfl
@[go_sem] theorem ord7_6 : ord7 6 = none := rfl
@[go_sem] theorem ord7_29 : ord7 29 = none := rfl
/-- Orders in raddle/raddlelaw17.JoinSwaps. -/
def ord8 : Ords
  | 10 => some (.lin [(0, none, false, false), (1, none, false, false), (2, none, true, false), (3, none, false, false), (4, none, false, false), (5, none, false, false), (6, none, true, false), (7, none, false, false), (8, none, false, false), (9, none, false, false), (10, none, true, false), (11, none, false, false), (12, none, false, false), (13, none, false, false), (14, none, true, false), (15, none, false, false), (16, none, false, false), (17, none, false, false), (18, none, true, false), (19, none, false, false), (20, none, false, false), (21, none, false, false), (22, none, false, false), (23, none, true, false), (24, none, false, false), (25, none, false, false), (26, none, false, false), (27, none, false, false), (28, none, false, false), (29, none, false, false), (30, none, false, false), (31, none, true, false), (32, none, false, false), (33, none, false, false), (34, none, false, false)])
  | _ => none
@[go_sem] theorem ord8_0 : ord8 0 = none := rfl
@[go_sem] theorem ord8_1 : ord8 1 = none := rfl
@[go_sem] theorem ord8_2 : ord8 2 = none := rfl
@[go_sem] theorem ord8_3 : ord8 3 = none := rfl
@[go_sem] theorem ord8_4 : ord8 4 = none := rfl
@[go_sem] theorem ord8_5 : ord8 5 = none := rfl
@[go_sem] theorem ord8_6 : ord8 6 = none := rfl
@[go_sem] theorem ord8_7 : ord8 7 = none := rfl
@[go_sem] theorem ord8_8 : ord8 8 = none := rfl
@[go_sem] theorem ord8_9 : ord8 9 = none := rfl
@[go_sem] theorem ord8_10 : ord8 10 = some (.lin [(0, none, false, false), (1, none, false, false), (2, none, true, false), (3, none, false, false), (4, none, false, false), (5, none, false, false), (6, none, true, false), (7, none, false, false), (8, none, false, false), (9, none, false, false), (10, none, true, false), (11, none, false, false), (12, none, false, false), (13, none, false, false), (14, none, true, false), (15, none, false, false), (16, none, false, false), (17, none, false, false), (18, none, true, false), (19, none, false, false), (20, none, false, false), (21, none, false, false), (22, none, false, false), (23, none, true, false), (24, none, false, false), (25, none, false, false), (26, none, false, false), (27, none, false, false), (28, none, false, false), (29, none, false, false), (30, none, false, false), (31, none, true, false), (32, none, false, false), (33, none, false, false), (34, none, false, false)]) := rfl
/-- Orders in raddle/raddlelaw18.DistFilters. -/
def ord9 : Ords
  | 1 => some (.lin [(0, none, false, false), (1, none, false, false), (2, none, false, false), (3, none, true, false), (4, none, false, false), (5, none, false, false), (6, none, false, false), (7, none, false, false), (8, none, false, false)])
  | 10 => some (.lin [(0, none, false, false), (1, none, false, false), (2, none, true, false), (3, none, false, false), (4, none, false, false), (5, none, false, false), (6, none, true, false), (7, none, false, false), (8, none, false, false), (9, none, false, false), (10, none, true, false), (11, none, false, false), (12, none, false, false), (13, none, false, false), (14, none, true, false), (15, none, false, false), (16, none, false, false), (17, none, false, false), (18, none, true, false), (19, none, false, false), (20, none, false, false), (21, none, false, false), (22, none, true, false), (23, none, false, false), (24, none, false, false), (25, none, false, false), (26, none, false, false), (27, none, true, false), (28, none, false, false), (29, none, false, false), (30, none, false, false), (31, none, false, false), (32, none, true, false), (33, none, false, false), (34, none, false, false), (35, none, false, false)])
  | _ => none
@[go_sem] theorem ord9_0 : ord9 0 = none := rfl
@[go_sem] theorem ord9_1 : ord9 1 = some (.lin [(0, none, false, false), (1, none, false, false), (2, none, false, false), (3, none, true, false), (4, none, false, false), (5, none, false, false), (6, none, false, false), (7, none, false, false), (8, none, false, false)]) := rfl
@[go_sem] theorem ord9_2 : ord9 2 = none := rfl
@[go_sem] theorem ord9_3 : ord9 3 = none := rfl
@[go_sem] theorem ord9_4 : ord9 4 = none := rfl
@[go_sem] theorem ord9_5 : ord9 5 = none := rfl
@[go_sem] theorem ord9_6 : ord9 6 = none := rfl
@[go_sem] theorem ord9_7 : ord9 7 = none := rfl
@[go_sem] theorem ord9_8 : ord9 8 = none := rfl
@[go_sem] theorem ord9_9 : ord9 9 = none := rfl
@[go_sem] theorem ord9_10 : ord9 10 = some (.lin [(0, none, false, false), (1, none, false, false), (2, none, true, false), (3, none, false, false), (4, none, false, false), (5, none, false, false), (6, none, true, false), (7, none, false, false), (8, none, false, false), (9, none, false, false), (10, none, true, false), (11, none, false, false), (12, none, false, false), (13, none, false, false), (14, none, true, false), (15, none, false, false), (16, none, false, false), (17, none, false, false), (18, none, true, false), (19, none, false, false), (20, none, false, false), (21, none, false, false), (22, none, true, false), (23, none, false, false), (24, none, false, false), (25, none, false, false), (26, none, false, false), (27, none, true, false), (28, none, false, false), (29, none, false, false), (30, none, false, false), (31, none, false, false), (32, none, true, false), (33, none, false, false), (34, none, false, false), (35, none, false, false)]) := rfl
/-- Orders in raddle/raddlelaw16.LinExact. -/
def ord12 : Ords
  | 1 => some (.lin [(0, none, false, false), (1, none, false, false), (2, none, false, false), (3, none, false, false), (4, none, true, false), (5, none, false, false), (6, none, false, false), (7, none, false, false), (8, none, false, false), (9, none, false, false), (10, none, true, false), (11, none, false, false), (12, none, false, false), (13, none, false, false), (14, none, false, false)])
  | 8 => some (.lin [(0, none, false, false), (1, none, false, false), (2, none, false, false), (3, none, false, false), (4, none, true, false), (5, none, false, false), (6, none, false, false), (7, none, false, false), (8, none, false, false), (9, none, false, false), (10, none, true, false), (11, none, false, false), (12, none, false, false), (13, none, false, false), (14, none, false, false), (15, none, false, false)])
  | 11 => some (.lin [(0, none, false, false), (1, none, false, false), (2, none, true, false), (3, none, false, false), (4, none, false, false), (5, none, false, false), (6, none, true, false), (7, none, false, false), (8, none, false, false), (9, none, false, false), (10, none, true, false), (11, none, false, false), (12, none, false, false), (13, none, false, false), (14, none, true, false), (15, none, false, false), (16, none, false, false), (17, none, false, false), (18, none, false, false), (19, none, false, false), (20, none, false, false), (21, none, false, false), (22, none, false, false), (23, none, false, false), (24, none, false, false), (25, none, false, false), (26, none, false, false), (27, none, false, false), (28, none, true, false), (29, none, false, false), (30, none, false, false), (31, none, false, false)])
  | 13 => some (.lin [(0, none, false, false), (1, none, false, false), (2, none, true, false), (3, none, false, false), (4, none, false, false), (5, none, false, false), (6, none, false, false), (7, none, false, false), (8, none, false, false), (9, none, false, false), (10, none, true, false), (11, none, false, false), (12, none, false, false), (13, none, false, false), (14, none, false, false), (15, none, true, false), (16, none, false, false), (17, none, false, false), (18, none, false, false), (19, none, false, false), (20, none, false, false)])
  | 18 => some (.lin [(0, none, false, false), (1, none, false, false), (2, none, true, false), (3, none, false, false), (4, none, false, false), (5, none, false, false), (6, none, true, false), (7, none, false, false), (8, none, false, false), (9, none, false, false), (10, none, false, false), (11, none, false, false), (12, none, false, false), (13, none, false, false), (14, none, true, false), (15, none, false, false), (16, none, false, false), (17, none, false, false), (18, none, false, false), (19, none, true, false), (20, none, false, false), (21, none, false, false), (22, none, false, false)])
  | 21 => some (.lin [(0, none, false, false), (1, none, false, false), (2, none, false, false), (3, none, true, false), (4, none, false, false), (5, none, false, false), (6, none, false, false), (7, none, false, false), (8, none, true, false), (9, none, false, false), (10, none, false, false), (11, none, false, false), (12, none, false, false), (13, none, true, false), (14, none, false, false), (15, none, false, false), (16, none, false, false), (17, none, false, false), (18, none, true, false), (19, none, false, false), (20, none, false, false), (21, none, false, false), (22, none, false, false), (23, none, true, false), (24, none, false, false), (25, none, false, false), (26, none, false, false)])
  | _ => none
@[go_sem] theorem ord12_0 : ord12 0 = none := rfl
@[go_sem] theorem ord12_1 : ord12 1 = some (.lin [(0, none, false, false), (1, none, false, false), (2, none, false, false), (3, none, false, false), (4, none, true, false), (5, none, false, false), (6, none, false, false), (7, none, false, false), (8, none, false, false), (9, none, false, false), (10, none, true, false), (11, none, false, false), (12, none, false, false), (13, none, false, false), (14, none, false, false)]) := rfl
@[go_sem] theorem ord12_2 : ord12 2 = none := rfl
@[go_sem] theorem ord12_3 : ord12 3 = none := rfl
@[go_sem] theorem ord12_4 : ord12 4 = none := rfl
@[go_sem] theorem ord12_5 : ord12 5 = none := rfl
@[go_sem] theorem ord12_6 : ord12 6 = none := rfl
@[go_sem] theorem ord12_7 : ord12 7 = none := rfl
@[go_sem] theorem ord12_8 : ord12 8 = some (.lin [(0, none, false, false), (1, none, false, false), (2, none, false, false), (3, none, false, false), (4, none, true, false), (5, none, false, false), (6, none, false, false), (7, none, false, false), (8, none, false, false), (9, none, false, false), (10, none, true, false), (11, none, false, false), (12, none, false, false), (13, none, false, false), (14, none, false, false), (15, none, false, false)]) := rfl
@[go_sem] theorem ord12_9 : ord12 9 = none := rfl
@[go_sem] theorem ord12_10 : ord12 10 = none := rfl
@[go_sem] theorem ord12_11 : ord12 11 = some (.lin [(0, none, false, false), (1, none, false, false), (2, none, true, false), (3, none, false, false), (4, none, false, false), (5, none, false, false), (6, none, true, false), (7, none, false, false), (8, none, false, false), (9, none, false, false), (10, none, true, false), (11, none, false, false), (12, none, false, false), (13, none, false, false), (14, none, true, false), (15, none, false, false), (16, none, false, false), (17, none, false, false), (18, none, false, false), (19, none, false, false), (20, none, false, false), (21, none, false, false), (22, none, false, false), (23, none, false, false), (24, none, false, false), (25, none, false, false), (26, none, false, false), (27, none, false, false), (28, none, true, false), (29, none, false, false), (30, none, false, false), (31, none, false, false)]) := rfl
@[go_sem] theorem ord12_12 : ord12 12 = none := rfl
@[go_sem] theorem ord12_13 : ord12 13 = some (.lin [(0, none, false, false), (1, none, false, false), (2, none, true, false), (3, none, false, false), (4, none, false, false), (5, none, false, false), (6, none, false, false), (7, none, false, false), (8, none, false, false), (9, none, false, false), (10, none, true, false), (11, none, false, false), (12, none, false, false), (13, none, false, false), (14, none, false, false), (15, none, true, false), (16, none, false, false), (17, none, false, false), (18, none, false, false), (19, none, false, false), (20, none, false, false)]) := rfl
@[go_sem] theorem ord12_14 : ord12 14 = none := rfl
@[go_sem] theorem ord12_15 : ord12 15 = none := rfl
@[go_sem] theorem ord12_16 : ord12 16 = none := rfl
@[go_sem] theorem ord12_17 : ord12 17 = none := rfl
@[go_sem] theorem ord12_18 : ord12 18 = some (.lin [(0, none, false, false), (1, none, false, false), (2, none, true, false), (3, none, false, false), (4, none, false, false), (5, none, false, false), (6, none, true, false), (7, none, false, false), (8, none, false, false), (9, none, false, false), (10, none, false, false), (11, none, false, false), (12, none, false, false), (13, none, false, false), (14, none, true, false), (15, none, false, false), (16, none, false, false), (17, none, false, false), (18, none, false, false), (19, none, true, false), (20, none, false, false), (21, none, false, false), (22, none, false, false)]) := rfl
@[go_sem] theorem ord12_19 : ord12 19 = none := rfl
@[go_sem] theorem ord12_20 : ord12 20 = none := rfl
@[go_sem] theorem ord12_21 : ord12 21 = some (.lin [(0, none, false, false), (1, none, false, false), (2, none, false, false), (3, none, true, false), (4, none, false, false), (5, none, false, false), (6, none, false, false), (7, none, false, false), (8, none, true, false), (9, none, false, false), (10, none, false, false), (11, none, false, false), (12, none, false, false), (13, none, true, false), (14, none, false, false), (15, none, false, false), (16, none, false, false), (17, none, false, false), (18, none, true, false), (19, none, false, false), (20, none, false, false), (21, none, false, false), (22, none, false, false), (23, none, true, false), (24, none, false, false), (25, none, false, false), (26, none, false, false)]) := rfl
/-- Orders in raddle/raddlelaw16.LinRows. -/
def ord15 : Ords
  | 1 => some (.lin [(0, none, false, false), (1, none, false, false), (2, none, false, false), (3, none, true, false), (4, none, false, false), (5, none, false, false), (6, none, false, false), (7, none, false, false), (8, none, false, false), (9, none, true, false), (10, none, false, false), (11, none, false, false), (12, none, false, false), (13, none, false, false)])
  | 11 => some (.lin [(0, some false, false, false), (1, some false, false, false), (2, some false, false, false), (3, some false, false, false), (4, some false, false, false), (5, some false, false, false), (6, none, false, false)])
  | 17 => some (.lin [(0, none, false, false), (1, none, false, false), (2, none, true, false), (3, none, false, false), (4, none, false, false), (5, none, false, false), (6, none, false, false), (7, none, true, false), (8, none, false, false), (9, none, false, false), (10, none, false, false)])
  | 31 => some (.lin [(0, none, false, false), (1, none, false, false), (2, none, true, false), (3, none, false, false), (4, none, false, false), (5, none, false, false), (6, none, false, false), (7, none, false, false), (8, none, false, false)])
  | 37 => some (.lin [(0, none, false, false), (1, none, false, false), (2, none, true, false), (3, none, false, false), (4, none, false, false), (5, none, false, false), (6, none, false, false), (7, none, false, false), (8, none, false, false), (9, none, true, false), (10, none, false, false), (11, none, false, false), (12, none, false, false), (13, none, false, false), (14, none, false, false), (15, none, false, false), (16, none, true, false), (17, none, false, false), (18, none, false, false), (19, none, false, false)])
  | _ => none
@[go_sem] theorem ord15_0 : ord15 0 = none := rfl
@[go_sem] theorem ord15_1 : ord15 1 = some (.lin [(0, none, false, false), (1, none, false, false), (2, none, false, false), (3, none, true, false), (4, none, false, false), (5, none, false, false), (6, none, false, false), (7, none, false, false), (8, none, false, false), (9, none, true, false), (10, none, false, false), (11, none, false, false), (12, none, false, false), (13, none, false, false)]) := rfl
@[go_sem] theorem ord15_2 : ord15 2 = none := rfl
@[go_sem] theorem ord15_3 : ord15 3 = none := rfl
@[go_sem] theorem ord15_4 : ord15 4 = none := rfl
@[go_sem] theorem ord15_5 : ord15 5 = none := rfl
@[go_sem] theorem ord15_6 : ord15 6 = none := rfl
@[go_sem] theorem ord15_7 : ord15 7 = none := rfl
@[go_sem] theorem ord15_8 : ord15 8 = none := rfl
@[go_sem] theorem ord15_10 : ord15 10 = none := rfl
@[go_sem] theorem ord15_11 : ord15 11 = some (.lin [(0, some false, false, false), (1, some false, false, false), (2, some false, false, false), (3, some false, false, false), (4, some false, false, false), (5, some false, false, false), (6, none, false, false)]) := rfl
@[go_sem] theorem ord15_12 : ord15 12 = none := rfl
@[go_sem] theorem ord15_13 : ord15 13 = none := rfl
@[go_sem] theorem ord15_14 : ord15 14 = none := rfl
@[go_sem] theorem ord15_9 : ord15 9 = none := rfl
@[go_sem] theorem ord15_15 : ord15 15 = none := rfl
@[go_sem] theorem ord15_16 : ord15 16 = none := rfl
@[go_sem] theorem ord15_17 : ord15 17 = some (.lin [(0, none, false, false), (1, none, false, false), (2, none, true, false), (3, none, false, false), (4, none, false, false), (5, none, false, false), (6, none, false, false), (7, none, true, false), (8, none, false, false), (9, none, false, false), (10, none, false, false)]) := rfl
@[go_sem] theorem ord15_18 : ord15 18 = none := rfl
@[go_sem] theorem ord15_19 : ord15 19 = none := rfl
@[go_sem] theorem ord15_20 : ord15 20 = none := rfl
@[go_sem] theorem ord15_22 : ord15 22 = none := rfl
@[go_sem] theorem ord15_23 : ord15 23 = none := rfl
@[go_sem] theorem ord15_24 : ord15 24 = none := rfl
@[go_sem] theorem ord15_25 : ord15 25 = none := rfl
@[go_sem] theorem ord15_26 : ord15 26 = none := rfl
@[go_sem] theorem ord15_28 : ord15 28 = none := rfl
@[go_sem] theorem ord15_29 : ord15 29 = none := rfl
@[go_sem] theorem ord15_30 : ord15 30 = none := rfl
@[go_sem] theorem ord15_27 : ord15 27 = none := rfl
@[go_sem] theorem ord15_31 : ord15 31 = some (.lin [(0, none, false, false), (1, none, false, false), (2, none, true, false), (3, none, false, false), (4, none, false, false), (5, none, false, false), (6, none, false, false), (7, none, false, false), (8, none, false, false)]) := rfl
@[go_sem] theorem ord15_32 : ord15 32 = none := rfl
@[go_sem] theorem ord15_21 : ord15 21 = none := rfl
@[go_sem] theorem ord15_33 : ord15 33 = none := rfl
@[go_sem] theorem ord15_34 : ord15 34 = none := rfl
@[go_sem] theorem ord15_36 : ord15 36 = none := rfl
@[go_sem] theorem ord15_35 : ord15 35 = none := rfl
@[go_sem] theorem ord15_37 : ord15 37 = some (.lin [(0, none, false, false), (1, none, false, false), (2, none, true, false), (3, none, false, false), (4, none, false, false), (5, none, false, false), (6, none, false, false), (7, none, false, false), (8, none, false, false), (9, none, true, false), (10, none, false, false), (11, none, false, false), (12, none, false, false), (13, none, false, false), (14, none, false, false), (15, none, false, false), (16, none, true, false), (17, none, false, false), (18, none, false, false), (19, none, false, false)]) := rfl
/-- Orders in raddle/raddlelaw17.JoinFilters. -/
def ord16 : Ords
  | 9 => some (.lin [(0, none, false, false), (1, none, false, false), (2, none, true, false), (3, none, false, false), (4, none, false, false), (5, none, false, false), (6, none, true, false), (7, none, false, false), (8, none, false, false), (9, none, false, false), (10, none, true, false), (11, none, false, false), (12, none, false, false), (13, none, false, false), (14, none, true, false), (15, none, false, false), (16, none, false, false), (17, none, false, false), (18, none, false, false), (19, none, true, false), (20, none, false, false), (21, none, false, false), (22, none, false, false), (23, none, false, false), (24, none, false, false), (25, none, false, false), (26, none, false, false), (27, none, false, false), (28, none, false, false), (29, none, true, false), (30, none, false, false), (31, none, false, false), (32, none, false, false), (33, none, false, false), (34, none, true, false), (35, none, false, false), (36, none, false, false), (37, none, false, false)])
  | _ => none
@[go_sem] theorem ord16_0 : ord16 0 = none := rfl
@[go_sem] theorem ord16_1 : ord16 1 = none := rfl
@[go_sem] theorem ord16_2 : ord16 2 = none := rfl
@[go_sem] theorem ord16_3 : ord16 3 = none := rfl
@[go_sem] theorem ord16_4 : ord16 4 = none := rfl
@[go_sem] theorem ord16_5 : ord16 5 = none := rfl
@[go_sem] theorem ord16_6 : ord16 6 = none := rfl
@[go_sem] theorem ord16_7 : ord16 7 = none := rfl
@[go_sem] theorem ord16_8 : ord16 8 = none := rfl
@[go_sem] theorem ord16_9 : ord16 9 = some (.lin [(0, none, false, false), (1, none, false, false), (2, none, true, false), (3, none, false, false), (4, none, false, false), (5, none, false, false), (6, none, true, false), (7, none, false, false), (8, none, false, false), (9, none, false, false), (10, none, true, false), (11, none, false, false), (12, none, false, false), (13, none, false, false), (14, none, true, false), (15, none, false, false), (16, none, false, false), (17, none, false, false), (18, none, false, false), (19, none, true, false), (20, none, false, false), (21, none, false, false), (22, none, false, false), (23, none, false, false), (24, none, false, false), (25, none, false, false), (26, none, false, false), (27, none, false, false), (28, none, false, false), (29, none, true, false), (30, none, false, false), (31, none, false, false), (32, none, false, false), (33, none, false, false), (34, none, true, false), (35, none, false, false), (36, none, false, false), (37, none, false, false)]) := rfl
/-- Orders in raddle/raddlelaw17.JoinExact. -/
def ord17 : Ords
  | 1 => some (.lin [(0, none, false, false), (1, none, false, false), (2, none, false, false), (3, none, false, false), (4, none, false, false), (5, none, false, false), (6, none, true, false), (7, none, false, false), (8, none, false, false), (9, none, false, false), (10, none, false, false), (11, none, false, false), (12, none, false, false), (13, none, false, false), (14, none, true, false), (15, none, false, false), (16, none, false, false), (17, none, false, false), (18, none, false, false), (19, none, true, false), (20, none, false, false), (21, none, false, false), (22, none, false, false), (23, none, false, false), (24, none, true, false), (25, none, false, false), (26, none, false, false), (27, none, false, false), (28, none, false, false), (29, none, true, false), (30, none, false, false), (31, none, false, false), (32, none, false, false), (33, none, false, false)])
  | 6 => some (.lin [(0, none, false, false), (1, none, false, false), (2, none, false, false), (3, none, false, false), (4, none, true, false), (5, none, false, false), (6, none, false, false), (7, none, false, false), (8, none, false, false), (9, none, false, false), (10, none, true, false), (11, none, false, false), (12, none, false, false), (13, none, false, false), (14, none, false, false), (15, none, false, false), (16, none, true, false), (17, none, false, false), (18, none, false, false), (19, none, false, false), (20, none, false, false), (21, none, false, false)])
  | 9 => some (.lin [(0, none, false, false), (1, none, false, false), (2, none, false, false), (3, none, true, false), (4, none, false, false), (5, none, false, false), (6, none, false, false), (7, none, false, false), (8, none, false, false)])
  | 13 => some (.lin [(0, none, false, false), (1, none, false, false), (2, none, false, false), (3, none, true, false), (4, none, false, false), (5, none, false, false), (6, none, false, false), (7, none, false, false), (8, none, true, false), (9, none, false, false), (10, none, false, false), (11, none, false, false), (12, none, false, false), (13, none, true, false), (14, none, false, false), (15, none, false, false), (16, none, false, false)])
  | _ => none
@[go_sem] theorem ord17_0 : ord17 0 = none := rfl
@[go_sem] theorem ord17_1 : ord17 1 = some (.lin [(0, none, false, false), (1, none, false, false), (2, none, false, false), (3, none, false, false), (4, none, false, false), (5, none, false, false), (6, none, true, false), (7, none, false, false), (8, none, false, false), (9, none, false, false), (10, none, false, false), (11, none, false, false), (12, none, false, false), (13, none, false, false), (14, none, true, false), (15, none, false, false), (16, none, false, false), (17, none, false, false), (18, none, false, false), (19, none, true, false), (20, none, false, false), (21, none, false, false), (22, none, false, false), (23, none, false, false), (24, none, true, false), (25, none, false, false), (26, none, false, false), (27, none, false, false), (28, none, false, false), (29, none, true, false), (30, none, false, false), (31, none, false, false), (32, none, false, false), (33, none, false, false)]) := rfl
@[go_sem] theorem ord17_2 : ord17 2 = none := rfl
@[go_sem] theorem ord17_3 : ord17 3 = none := rfl
@[go_sem] theorem ord17_4 : ord17 4 = none := rfl
@[go_sem] theorem ord17_5 : ord17 5 = none := rfl
@[go_sem] theorem ord17_6 : ord17 6 = some (.lin [(0, none, false, false), (1, none, false, false), (2, none, false, false), (3, none, false, false), (4, none, true, false), (5, none, false, false), (6, none, false, false), (7, none, false, false), (8, none, false, false), (9, none, false, false), (10, none, true, false), (11, none, false, false), (12, none, false, false), (13, none, false, false), (14, none, false, false), (15, none, false, false), (16, none, true, false), (17, none, false, false), (18, none, false, false), (19, none, false, false), (20, none, false, false), (21, none, false, false)]) := rfl
@[go_sem] theorem ord17_7 : ord17 7 = none := rfl
@[go_sem] theorem ord17_8 : ord17 8 = none := rfl
@[go_sem] theorem ord17_9 : ord17 9 = some (.lin [(0, none, false, false), (1, none, false, false), (2, none, false, false), (3, none, true, false), (4, none, false, false), (5, none, false, false), (6, none, false, false), (7, none, false, false), (8, none, false, false)]) := rfl
@[go_sem] theorem ord17_10 : ord17 10 = none := rfl
@[go_sem] theorem ord17_11 : ord17 11 = none := rfl
@[go_sem] theorem ord17_12 : ord17 12 = none := rfl
@[go_sem] theorem ord17_13 : ord17 13 = some (.lin [(0, none, false, false), (1, none, false, false), (2, none, false, false), (3, none, true, false), (4, none, false, false), (5, none, false, false), (6, none, false, false), (7, none, false, false), (8, none, true, false), (9, none, false, false), (10, none, false, false), (11, none, false, false), (12, none, false, false), (13, none, true, false), (14, none, false, false), (15, none, false, false), (16, none, false, false)]) := rfl
/-- Orders in raddle/raddlelaw17.JoinParts. -/
def ord18 : Ords
  | 1 => some (.lin [(0, none, false, false), (1, none, false, false), (2, none, false, false), (3, none, false, false), (4, none, false, false), (5, none, false, false), (6, none, true, false), (7, none, false, false), (8, none, false, false), (9, none, false, false), (10, none, false, false), (11, none, true, false), (12, none, false, false), (13, none, false, false), (14, none, false, false), (15, none, false, false), (16, none, false, false), (17, none, false, false)])
  | 8 => some (.lin [(0, none, false, false), (1, none, false, false), (2, none, true, false), (3, none, false, false), (4, none, false, false), (5, none, false, false), (6, none, true, false), (7, none, false, false), (8, none, false, false), (9, none, false, false), (10, none, true, false), (11, none, false, false), (12, none, false, false), (13, none, false, false)])
  | 9 => some (.lin [(0, none, false, false), (1, none, false, false), (2, none, true, false), (3, none, false, false), (4, none, false, false), (5, none, false, false), (6, none, false, false), (7, none, true, false), (8, none, false, false), (9, none, false, false), (10, none, true, false), (11, none, false, false), (12, none, false, false), (13, none, false, false), (14, none, false, false), (15, none, false, false), (16, none, true, false), (17, none, false, false), (18, none, false, false), (19, none, false, false)])
  | 12 => some (.lin [(0, none, false, false), (1, none, false, false), (2, none, true, false), (3, none, false, false), (4, none, false, false), (5, none, false, false), (6, none, true, false), (7, none, false, false), (8, none, false, false), (9, none, false, false), (10, none, false, false), (11, none, false, false)])
  | 19 => some (.lin [(0, none, false, false), (1, none, false, false), (2, none, true, false), (3, none, false, false), (4, none, false, false), (5, none, false, false), (6, none, true, false), (7, none, false, false), (8, none, false, false), (9, none, false, false), (10, none, true, false), (11, none, false, false), (12, none, false, false), (13, none, false, false), (14, none, true, false), (15, none, false, false), (16, none, false, false), (17, none, false, false), (18, none, true, false), (19, none, false, false), (20, none, false, false), (21, none, false, false), (22, none, false, false), (23, none, true, false), (24, none, false, false), (25, none, false, false), (26, none, false, false)])
  | _ => none
@[go_sem] theorem ord18_0 : ord18 0 = none := rfl
@[go_sem] theorem ord18_1 : ord18 1 = some (.lin [(0, none, false, false), (1, none, false, false), (2, none, false, false), (3, none, false, false), (4, none, false, false), (5, none, false, false), (6, none, true, false), (7, none, false, false), (8, none, false, false), (9, none, false, false), (10, none, false, false), (11, none, true, false), (12, none, false, false), (13, none, false, false), (14, none, false, false), (15, none, false, false), (16, none, false, false), (17, none, false, false)]) := rfl
@[go_sem] theorem ord18_2 : ord18 2 = none := rfl
@[go_sem] theorem ord18_3 : ord18 3 = none := rfl
@[go_sem] theorem ord18_4 : ord18 4 = none := rfl
@[go_sem] theorem ord18_5 : ord18 5 = none := rfl
@[go_sem] theorem ord18_6 : ord18 6 = none := rfl
@[go_sem] theorem ord18_7 : ord18 7 = none := rfl
@[go_sem] theorem ord18_8 : ord18 8 = some (.lin [(0, none, false, false), (1, none, false, false), (2, none, true, false), (3, none, false, false), (4, none, false, false), (5, none, false, false), (6, none, true, false), (7, none, false, false), (8, none, false, false), (9, none, false, false), (10, none, true, false), (11, none, false, false), (12, none, false, false), (13, none, false, false)]) := rfl
@[go_sem] theorem ord18_9 : ord18 9 = some (.lin [(0, none, false, false), (1, none, false, false), (2, none, true, false), (3, none, false, false), (4, none, false, false), (5, none, false, false), (6, none, false, false), (7, none, true, false), (8, none, false, false), (9, none, false, false), (10, none, true, false), (11, none, false, false), (12, none, false, false), (13, none, false, false), (14, none, false, false), (15, none, false, false), (16, none, true, false), (17, none, false, false), (18, none, false, false), (19, none, false, false)]) := rfl
@[go_sem] theorem ord18_10 : ord18 10 = none := rfl
@[go_sem] theorem ord18_11 : ord18 11 = none := rfl
@[go_sem] theorem ord18_12 : ord18 12 = some (.lin [(0, none, false, false), (1, none, false, false), (2, none, true, false), (3, none, false, false), (4, none, false, false), (5, none, false, false), (6, none, true, false), (7, none, false, false), (8, none, false, false), (9, none, false, false), (10, none, false, false), (11, none, false, false)]) := rfl
@[go_sem] theorem ord18_13 : ord18 13 = none := rfl
@[go_sem] theorem ord18_14 : ord18 14 = none := rfl
@[go_sem] theorem ord18_15 : ord18 15 = none := rfl
@[go_sem] theorem ord18_16 : ord18 16 = none := rfl
@[go_sem] theorem ord18_17 : ord18 17 = none := rfl
@[go_sem] theorem ord18_18 : ord18 18 = none := rfl
@[go_sem] theorem ord18_19 : ord18 19 = some (.lin [(0, none, false, false), (1, none, false, false), (2, none, true, false), (3, none, false, false), (4, none, false, false), (5, none, false, false), (6, none, true, false), (7, none, false, false), (8, none, false, false), (9, none, false, false), (10, none, true, false), (11, none, false, false), (12, none, false, false), (13, none, false, false), (14, none, true, false), (15, none, false, false), (16, none, false, false), (17, none, false, false), (18, none, true, false), (19, none, false, false), (20, none, false, false), (21, none, false, false), (22, none, false, false), (23, none, true, false), (24, none, false, false), (25, none, false, false), (26, none, false, false)]) := rfl
/-- Orders in raddle/raddlelaw19.AggTells. -/
def ord19 : Ords
  | 9 => some (.lin [(0, none, false, false), (1, none, false, false), (2, none, true, false), (3, none, false, false), (4, none, false, false), (5, none, false, false), (6, none, true, false), (7, none, false, false), (8, none, false, false), (9, none, false, false), (10, none, true, false), (11, none, false, false), (12, none, false, false), (13, none, false, false), (14, none, true, false), (15, none, false, false), (16, none, false, false), (17, none, false, false), (18, none, false, false), (19, none, false, false), (20, none, false, false), (21, none, true, false), (22, none, false, false), (23, none, false, false), (24, none, false, false), (25, none, false, false), (26, none, false, false), (27, none, false, false), (28, none, true, false), (29, none, false, false), (30, none, false, false), (31, none, false, false), (32, none, false, false), (33, none, false, false), (34, none, false, false)])
  | 14 => some (.lin [(0, none, false, false), (1, none, false, false), (2, none, false, false), (3, none, false, false), (4, none, false, false), (5, none, false, false), (6, none, false, false), (7, none, true, false), (8, none, false, false), (9, none, false, false), (10, none, false, false), (11, none, false, false), (12, none, false, false), (13, none, false, false), (14, none, false, false), (15, none, false, false), (16, none, true, false), (17, none, false, false), (18, none, false, false), (19, none, false, false), (20, none, false, false), (21, none, false, false), (22, none, false, false), (23, none, false, false), (24, none, false, false), (25, none, true, false), (26, none, false, false), (27, none, false, false), (28, none, false, false), (29, none, false, false), (30, none, false, false), (31, none, false, false), (32, none, false, false), (33, none, false, false), (34, none, true, false), (35, none, false, false), (36, none, false, false), (37, none, false, false), (38, none, false, false), (39, none, false, false), (40, none, false, false), (41, none, false, false)])
  | 22 => some (.lin [(0, some false, false, false), (1, some false, false, false), (2, some false, false, false), (3, some false, false, false), (4, some false, false, false), (5, some false, false, false), (6, some false, true, false), (7, some false, false, false), (8, some false, false, false), (9, some false, false, false), (10, some false, false, false), (11, some false, false, false), (12, some false, false, false), (13, some false, false, false), (14, some false, false, false), (15, some false, false, false), (16, none, false, false), (17, some false, false, false), (18, some false, false, false)])
  | 26 => some (.lin [(0, some false, false, false), (1, some false, false, false), (2, some false, false, false), (3, some false, false, false), (4, some false, false, false), (5, some false, false, false), (6, some false, false, false), (7, some false, false, false), (8, some false, false, false), (9, some false, false, false), (10, some false, false, false)])
  | 29 => some (.lin [(0, some false, false, false), (1, some false, true, false), (2, some false, false, false), (3, some false, false, false), (4, some false, false, false), (5, some false, false, false), (6, some false, false, false), (7, some false, false, false), (8, some false, false, false), (9, some false, false, false), (12, some false, false, false), (10, none, false, false), (11, some false, false, false), (13, some false, true, false), (14, some false, false, false), (15, some false, false, false), (16, some false, false, false), (17, some false, false, false), (18, some false, false, false), (19, some false, false, false), (20, some false, false, false), (21, some false, false, false), (22, none, false, false), (23, some false, false, false), (24, some false, false, false), (25, some false, false, false)])
  | 30 => some (.lin [(0, some false, false, false), (1, some false, false, false), (2, some false, false, false), (3, some false, false, false), (4, some false, false, false), (5, some false, false, false), (6, some false, false, false), (7, some false, false, false), (8, none, false, false), (9, some false, false, false), (10, some false, true, false), (11, some false, false, false), (12, some false, false, false), (13, some false, false, false), (14, some false, false, false), (15, some false, false, false), (16, some false, false, false), (17, some false, false, false), (18, some false, false, false), (19, none, false, false), (20, some false, false, false), (21, some false, false, false)])
  | 32 => some (.lin [(0, none, false, false), (1, none, false, false), (2, none, true, false), (3, none, false, false), (4, none, false, false), (5, none, false, false), (6, none, false, false), (7, none, false, false), (8, none, false, false), (9, none, false, false), (10, none, false, false), (11, none, false, false), (12, none, false, false), (13, none, false, false), (14, none, true, false), (15, none, false, false), (16, none, false, false), (17, none, false, false), (18, none, false, false), (19, none, false, false), (20, none, false, false), (21, none, false, false), (22, none, false, false), (23, none, false, false), (24, none, false, false), (25, none, false, false), (26, none, true, false), (27, none, false, false), (28, none, false, false), (29, none, false, false), (30, none, false, false), (31, none, true, false), (32, none, false, false), (33, none, false, false), (34, none, false, false), (35, none, false, false), (36, none, true, false), (37, none, false, false), (38, none, false, false), (39, none, true, false), (40, none, false, false), (41, none, false, false), (42, none, false, false), (43, none, false, false), (44, none, false, false), (45, none, false, false), (46, none, false, false), (47, none, false, false), (48, none, false, false), (49, none, true, false), (50, none, false, false), (51, none, false, false), (52, none, false, false), (53, none, false, false), (54, none, false, false), (55, none, false, false), (56, none, false, false), (57, none, false, false), (58, none, false, false), (59, none, false, false), (60, none, false, false), (61, none, false, false)])
  | _ => none
@[go_sem] theorem ord19_0 : ord19 0 = none := rfl
@[go_sem] theorem ord19_1 : ord19 1 = none := rfl
@[go_sem] theorem ord19_2 : ord19 2 = none := rfl
@[go_sem] theorem ord19_3 : ord19 3 = none := rfl
@[go_sem] theorem ord19_4 : ord19 4 = none := rfl
@[go_sem] theorem ord19_5 : ord19 5 = none := rfl
@[go_sem] theorem ord19_6 : ord19 6 = none := rfl
@[go_sem] theorem ord19_7 : ord19 7 = none := rfl
@[go_sem] theorem ord19_8 : ord19 8 = none := rfl
@[go_sem] theorem ord19_9 : ord19 9 = some (.lin [(0, none, false, false), (1, none, false, false), (2, none, true, false), (3, none, false, false), (4, none, false, false), (5, none, false, false), (6, none, true, false), (7, none, false, false), (8, none, false, false), (9, none, false, false), (10, none, true, false), (11, none, false, false), (12, none, false, false), (13, none, false, false), (14, none, true, false), (15, none, false, false), (16, none, false, false), (17, none, false, false), (18, none, false, false), (19, none, false, false), (20, none, false, false), (21, none, true, false), (22, none, false, false), (23, none, false, false), (24, none, false, false), (25, none, false, false), (26, none, false, false), (27, none, false, false), (28, none, true, false), (29, none, false, false), (30, none, false, false), (31, none, false, false), (32, none, false, false), (33, none, false, false), (34, none, false, false)]) := rfl
@[go_sem] theorem ord19_10 : ord19 10 = none := rfl
@[go_sem] theorem ord19_11 : ord19 11 = none := rfl
@[go_sem] theorem ord19_12 : ord19 12 = none := rfl
@[go_sem] theorem ord19_14 : ord19 14 = some (.lin [(0, none, false, false), (1, none, false, false), (2, none, false, false), (3, none, false, false), (4, none, false, false), (5, none, false, false), (6, none, false, false), (7, none, true, false), (8, none, false, false), (9, none, false, false), (10, none, false, false), (11, none, false, false), (12, none, false, false), (13, none, false, false), (14, none, false, false), (15, none, false, false), (16, none, true, false), (17, none, false, false), (18, none, false, false), (19, none, false, false), (20, none, false, false), (21, none, false, false), (22, none, false, false), (23, none, false, false), (24, none, false, false), (25, none, true, false), (26, none, false, false), (27, none, false, false), (28, none, false, false), (29, none, false, false), (30, none, false, false), (31, none, false, false), (32, none, false, false), (33, none, false, false), (34, none, true, false), (35, none, false, false), (36, none, false, false), (37, none, false, false), (38, none, false, false), (39, none, false, false), (40, none, false, false), (41, none, false, false)]) := rfl
@[go_sem] theorem ord19_15 : ord19 15 = none := rfl
@[go_sem] theorem ord19_16 : ord19 16 = none := rfl
@[go_sem] theorem ord19_17 : ord19 17 = none := rfl
@[go_sem] theorem ord19_18 : ord19 18 = none := rfl
@[go_sem] theorem ord19_19 : ord19 19 = none := rfl
@[go_sem] theorem ord19_20 : ord19 20 = none := rfl
@[go_sem] theorem ord19_22 : ord19 22 = some (.lin [(0, some false, false, false), (1, some false, false, false), (2, some false, false, false), (3, some false, false, false), (4, some false, false, false), (5, some false, false, false), (6, some false, true, false), (7, some false, false, false), (8, some false, false, false), (9, some false, false, false), (10, some false, false, false), (11, some false, false, false), (12, some false, false, false), (13, some false, false, false), (14, some false, false, false), (15, some false, false, false), (16, none, false, false), (17, some false, false, false), (18, some false, false, false)]) := rfl
@[go_sem] theorem ord19_23 : ord19 23 = none := rfl
@[go_sem] theorem ord19_24 : ord19 24 = none := rfl
@[go_sem] theorem ord19_25 : ord19 25 = none := rfl
@[go_sem] theorem ord19_26 : ord19 26 = some (.lin [(0, some false, false, false), (1, some false, false, false), (2, some false, false, false), (3, some false, false, false), (4, some false, false, false), (5, some false, false, false), (6, some false, false, false), (7, some false, false, false), (8, some false, false, false), (9, some false, false, false), (10, some false, false, false)]) := rfl
@[go_sem] theorem ord19_27 : ord19 27 = none := rfl
@[go_sem] theorem ord19_28 : ord19 28 = none := rfl
@[go_sem] theorem ord19_29 : ord19 29 = some (.lin [(0, some false, false, false), (1, some false, true, false), (2, some false, false, false), (3, some false, false, false), (4, some false, false, false), (5, some false, false, false), (6, some false, false, false), (7, some false, false, false), (8, some false, false, false), (9, some false, false, false), (12, some false, false, false), (10, none, false, false), (11, some false, false, false), (13, some false, true, false), (14, some false, false, false), (15, some false, false, false), (16, some false, false, false), (17, some false, false, false), (18, some false, false, false), (19, some false, false, false), (20, some false, false, false), (21, some false, false, false), (22, none, false, false), (23, some false, false, false), (24, some false, false, false), (25, some false, false, false)]) := rfl
@[go_sem] theorem ord19_30 : ord19 30 = some (.lin [(0, some false, false, false), (1, some false, false, false), (2, some false, false, false), (3, some false, false, false), (4, some false, false, false), (5, some false, false, false), (6, some false, false, false), (7, some false, false, false), (8, none, false, false), (9, some false, false, false), (10, some false, true, false), (11, some false, false, false), (12, some false, false, false), (13, some false, false, false), (14, some false, false, false), (15, some false, false, false), (16, some false, false, false), (17, some false, false, false), (18, some false, false, false), (19, none, false, false), (20, some false, false, false), (21, some false, false, false)]) := rfl
@[go_sem] theorem ord19_31 : ord19 31 = none := rfl
@[go_sem] theorem ord19_21 : ord19 21 = none := rfl
@[go_sem] theorem ord19_32 : ord19 32 = some (.lin [(0, none, false, false), (1, none, false, false), (2, none, true, false), (3, none, false, false), (4, none, false, false), (5, none, false, false), (6, none, false, false), (7, none, false, false), (8, none, false, false), (9, none, false, false), (10, none, false, false), (11, none, false, false), (12, none, false, false), (13, none, false, false), (14, none, true, false), (15, none, false, false), (16, none, false, false), (17, none, false, false), (18, none, false, false), (19, none, false, false), (20, none, false, false), (21, none, false, false), (22, none, false, false), (23, none, false, false), (24, none, false, false), (25, none, false, false), (26, none, true, false), (27, none, false, false), (28, none, false, false), (29, none, false, false), (30, none, false, false), (31, none, true, false), (32, none, false, false), (33, none, false, false), (34, none, false, false), (35, none, false, false), (36, none, true, false), (37, none, false, false), (38, none, false, false), (39, none, true, false), (40, none, false, false), (41, none, false, false), (42, none, false, false), (43, none, false, false), (44, none, false, false), (45, none, false, false), (46, none, false, false), (47, none, false, false), (48, none, false, false), (49, none, true, false), (50, none, false, false), (51, none, false, false), (52, none, false, false), (53, none, false, false), (54, none, false, false), (55, none, false, false), (56, none, false, false), (57, none, false, false), (58, none, false, false), (59, none, false, false), (60, none, false, false), (61, none, false, false)]) := rfl
@[go_sem] theorem ord19_33 : ord19 33 = none := rfl
@[go_sem] theorem ord19_13 : ord19 13 = none := rfl
@[go_sem] theorem ord19_34 : ord19 34 = none := rfl
/-- Orders in raddle/raddlelaw19.AggTotal. -/
def ord20 : Ords
  | 14 => some (.lin [(0, none, false, false), (1, none, false, false), (2, none, true, false), (3, none, false, false), (4, none, false, false), (5, none, false, false), (6, none, true, false), (7, none, false, false), (8, none, false, false), (9, none, false, false), (10, none, true, false), (11, none, false, false), (12, none, false, false), (13, none, false, false), (14, none, false, false), (15, none, false, false)])
  | _ => none
@[go_sem] theorem ord20_0 : ord20 0 = none := rfl
@[go_sem] theorem ord20_1 : ord20 1 = none := rfl
@[go_sem] theorem ord20_2 : ord20 2 = none := rfl
@[go_sem] theorem ord20_3 : ord20 3 = none := rfl
@[go_sem] theorem ord20_4 : ord20 4 = none := rfl
@[go_sem] theorem ord20_5 : ord20 5 = none := rfl
@[go_sem] theorem ord20_6 : ord20 6 = none := rfl
@[go_sem] theorem ord20_8 : ord20 8 = none := rfl
@[go_sem] theorem ord20_9 : ord20 9 = none := rfl
@[go_sem] theorem ord20_10 : ord20 10 = none := rfl
@[go_sem] theorem ord20_11 : ord20 11 = none := rfl
@[go_sem] theorem ord20_12 : ord20 12 = none := rfl
@[go_sem] theorem ord20_13 : ord20 13 = none := rfl
@[go_sem] theorem ord20_14 : ord20 14 = some (.lin [(0, none, false, false), (1, none, false, false), (2, none, true, false), (3, none, false, false), (4, none, false, false), (5, none, false, false), (6, none, true, false), (7, none, false, false), (8, none, false, false), (9, none, false, false), (10, none, true, false), (11, none, false, false), (12, none, false, false), (13, none, false, false), (14, none, false, false), (15, none, false, false)]) := rfl
@[go_sem] theorem ord20_15 : ord20 15 = none := rfl
@[go_sem] theorem ord20_7 : ord20 7 = none := rfl
@[go_sem] theorem ord20_16 : ord20 16 = none := rfl
/-- Orders in raddle/raddlelaw19.AggOver. -/
def ord21 : Ords
  | 12 => some (.lin [(0, none, false, false), (1, none, false, false), (2, none, false, false), (3, none, true, false), (4, none, false, false), (5, none, false, false), (6, none, false, false), (7, none, false, false), (8, none, false, false)])
  | 14 => some (.lin [(0, none, false, false), (1, none, false, false), (2, none, true, false), (3, none, false, false), (4, none, false, false), (5, none, false, false), (6, none, false, false), (7, none, false, false)])
  | 15 => some (.lin [(0, none, false, false), (1, none, false, false), (2, none, true, false), (3, none, false, false), (4, none, false, false), (5, none, false, false), (6, none, false, false), (7, none, true, false), (8, none, false, false), (9, none, false, false), (10, none, false, false)])
  | 16 => some (.lin [(0, none, false, false), (1, none, false, false), (2, none, true, false), (3, none, false, false), (4, none, false, false), (5, none, false, false), (6, none, false, false), (7, none, true, false), (8, none, false, false), (9, none, false, false), (10, none, false, false), (11, none, false, false), (12, none, false, false), (13, none, false, false), (14, none, false, false), (15, none, true, false), (16, none, false, false), (17, none, false, false), (18, none, false, false), (19, none, false, false), (20, none, false, false), (21, none, false, false), (22, none, false, false), (23, none, false, false), (24, none, false, false), (25, none, false, false), (26, none, false, false), (27, none, false, false), (28, none, false, false), (29, none, false, false), (30, none, true, false), (31, none, false, false), (32, none, false, false), (33, none, false, false)])
  | _ => none
@[go_sem] theorem ord21_0 : ord21 0 = none := rfl
@[go_sem] theorem ord21_1 : ord21 1 = none := rfl
@[go_sem] theorem ord21_2 : ord21 2 = none := rfl
@[go_sem] theorem ord21_3 : ord21 3 = none := rfl
@[go_sem] theorem ord21_4 : ord21 4 = none := rfl
@[go_sem] theorem ord21_5 : ord21 5 = none := rfl
@[go_sem] theorem ord21_6 : ord21 6 = none := rfl
@[go_sem] theorem ord21_7 : ord21 7 = none := rfl
@[go_sem] theorem ord21_9 : ord21 9 = none := rfl
@[go_sem] theorem ord21_8 : ord21 8 = none := rfl
@[go_sem] theorem ord21_10 : ord21 10 = none := rfl
@[go_sem] theorem ord21_11 : ord21 11 = none := rfl
@[go_sem] theorem ord21_12 : ord21 12 = some (.lin [(0, none, false, false), (1, none, false, false), (2, none, false, false), (3, none, true, false), (4, none, false, false), (5, none, false, false), (6, none, false, false), (7, none, false, false), (8, none, false, false)]) := rfl
@[go_sem] theorem ord21_13 : ord21 13 = none := rfl
@[go_sem] theorem ord21_14 : ord21 14 = some (.lin [(0, none, false, false), (1, none, false, false), (2, none, true, false), (3, none, false, false), (4, none, false, false), (5, none, false, false), (6, none, false, false), (7, none, false, false)]) := rfl
@[go_sem] theorem ord21_15 : ord21 15 = some (.lin [(0, none, false, false), (1, none, false, false), (2, none, true, false), (3, none, false, false), (4, none, false, false), (5, none, false, false), (6, none, false, false), (7, none, true, false), (8, none, false, false), (9, none, false, false), (10, none, false, false)]) := rfl
@[go_sem] theorem ord21_16 : ord21 16 = some (.lin [(0, none, false, false), (1, none, false, false), (2, none, true, false), (3, none, false, false), (4, none, false, false), (5, none, false, false), (6, none, false, false), (7, none, true, false), (8, none, false, false), (9, none, false, false), (10, none, false, false), (11, none, false, false), (12, none, false, false), (13, none, false, false), (14, none, false, false), (15, none, true, false), (16, none, false, false), (17, none, false, false), (18, none, false, false), (19, none, false, false), (20, none, false, false), (21, none, false, false), (22, none, false, false), (23, none, false, false), (24, none, false, false), (25, none, false, false), (26, none, false, false), (27, none, false, false), (28, none, false, false), (29, none, false, false), (30, none, true, false), (31, none, false, false), (32, none, false, false), (33, none, false, false)]) := rfl
/-- Orders in raddle/raddlelaw19.AggSome. -/
def ord22 : Ords
  | 16 => some (.lin [(0, none, false, false), (1, none, false, false), (2, none, true, false), (3, none, false, false), (4, none, false, false), (5, none, false, false), (6, none, true, false), (7, none, false, false), (8, none, false, false), (9, none, false, false), (10, none, true, false), (11, none, false, false), (12, none, false, false), (13, none, false, false), (14, none, false, false), (15, none, true, false), (16, none, false, false), (17, none, false, false), (18, none, false, false), (19, none, false, false), (20, none, true, false), (21, none, false, false), (22, none, false, false), (23, none, false, false)])
  | _ => none
@[go_sem] theorem ord22_0 : ord22 0 = none := rfl
@[go_sem] theorem ord22_1 : ord22 1 = none := rfl
@[go_sem] theorem ord22_2 : ord22 2 = none := rfl
@[go_sem] theorem ord22_3 : ord22 3 = none := rfl
@[go_sem] theorem ord22_4 : ord22 4 = none := rfl
@[go_sem] theorem ord22_5 : ord22 5 = none := rfl
@[go_sem] theorem ord22_6 : ord22 6 = none := rfl
@[go_sem] theorem ord22_7 : ord22 7 = none := rfl
@[go_sem] theorem ord22_8 : ord22 8 = none := rfl
@[go_sem] theorem ord22_10 : ord22 10 = none := rfl
@[go_sem] theorem ord22_11 : ord22 11 = none := rfl
@[go_sem] theorem ord22_12 : ord22 12 = none := rfl
@[go_sem] theorem ord22_9 : ord22 9 = none := rfl
@[go_sem] theorem ord22_13 : ord22 13 = none := rfl
@[go_sem] theorem ord22_14 : ord22 14 = none := rfl
@[go_sem] theorem ord22_15 : ord22 15 = none := rfl
@[go_sem] theorem ord22_16 : ord22 16 = some (.lin [(0, none, false, false), (1, none, false, false), (2, none, true, false), (3, none, false, false), (4, none, false, false), (5, none, false, false), (6, none, true, false), (7, none, false, false), (8, none, false, false), (9, none, false, false), (10, none, true, false), (11, none, false, false), (12, none, false, false), (13, none, false, false), (14, none, false, false), (15, none, true, false), (16, none, false, false), (17, none, false, false), (18, none, false, false), (19, none, false, false), (20, none, true, false), (21, none, false, false), (22, none, false, false), (23, none, false, false)]) := rfl
/-- Orders in raddle/raddlelaw19.AggKeys. -/
def ord23 : Ords
  | 15 => some (.lin [(0, none, false, false), (1, none, false, false), (2, none, true, false), (3, none, false, false), (4, none, false, false), (5, none, false, false), (6, none, true, false), (7, none, false, false), (8, none, false, false), (9, none, false, false), (10, none, true, false), (11, none, false, false), (12, none, false, false), (13, none, false, false), (14, none, false, false), (15, none, false, false), (16, none, false, false), (17, none, true, false), (18, none, false, false), (19, none, false, false), (20, none, false, false), (21, none, false, false), (22, none, false, false), (23, none, false, false), (24, none, false, false), (25, none, false, false), (26, none, true, false), (27, none, false, false), (28, none, false, false), (29, none, false, false), (30, none, false, false)])
  | 20 => some (.lin [(0, some false, false, false), (1, some false, false, false), (2, some false, false, false), (3, some false, false, false), (4, some false, false, false), (5, some false, false, false), (6, some false, true, false), (7, some false, false, false), (8, some false, false, false), (9, some false, false, false), (10, some false, false, false), (11, some false, false, false), (12, some false, false, false), (13, some false, false, false), (14, some false, false, false), (15, some false, true, false), (16, some false, false, false), (17, some false, false, false), (18, some false, false, false), (19, some false, false, false), (20, some false, false, false), (21, some false, false, false), (22, some false, false, false), (23, some false, false, false), (24, some false, false, false), (25, some false, false, false), (26, some false, false, false), (27, none, false, false), (28, some false, false, false), (29, some false, false, false)])
  | _ => none
@[go_sem] theorem ord23_0 : ord23 0 = none := rfl
@[go_sem] theorem ord23_1 : ord23 1 = none := rfl
@[go_sem] theorem ord23_2 : ord23 2 = none := rfl
@[go_sem] theorem ord23_3 : ord23 3 = none := rfl
@[go_sem] theorem ord23_4 : ord23 4 = none := rfl
@[go_sem] theorem ord23_5 : ord23 5 = none := rfl
@[go_sem] theorem ord23_6 : ord23 6 = none := rfl
@[go_sem] theorem ord23_7 : ord23 7 = none := rfl
@[go_sem] theorem ord23_9 : ord23 9 = none := rfl
@[go_sem] theorem ord23_10 : ord23 10 = none := rfl
@[go_sem] theorem ord23_8 : ord23 8 = none := rfl
@[go_sem] theorem ord23_11 : ord23 11 = none := rfl
@[go_sem] theorem ord23_12 : ord23 12 = none := rfl
@[go_sem] theorem ord23_13 : ord23 13 = none := rfl
@[go_sem] theorem ord23_14 : ord23 14 = none := rfl
@[go_sem] theorem ord23_15 : ord23 15 = some (.lin [(0, none, false, false), (1, none, false, false), (2, none, true, false), (3, none, false, false), (4, none, false, false), (5, none, false, false), (6, none, true, false), (7, none, false, false), (8, none, false, false), (9, none, false, false), (10, none, true, false), (11, none, false, false), (12, none, false, false), (13, none, false, false), (14, none, false, false), (15, none, false, false), (16, none, false, false), (17, none, true, false), (18, none, false, false), (19, none, false, false), (20, none, false, false), (21, none, false, false), (22, none, false, false), (23, none, false, false), (24, none, false, false), (25, none, false, false), (26, none, true, false), (27, none, false, false), (28, none, false, false), (29, none, false, false), (30, none, false, false)]) := rfl
@[go_sem] theorem ord23_16 : ord23 16 = none := rfl
@[go_sem] theorem ord23_17 : ord23 17 = none := rfl
@[go_sem] theorem ord23_18 : ord23 18 = none := rfl
@[go_sem] theorem ord23_20 : ord23 20 = some (.lin [(0, some false, false, false), (1, some false, false, false), (2, some false, false, false), (3, some false, false, false), (4, some false, false, false), (5, some false, false, false), (6, some false, true, false), (7, some false, false, false), (8, some false, false, false), (9, some false, false, false), (10, some false, false, false), (11, some false, false, false), (12, some false, false, false), (13, some false, false, false), (14, some false, false, false), (15, some false, true, false), (16, some false, false, false), (17, some false, false, false), (18, some false, false, false), (19, some false, false, false), (20, some false, false, false), (21, some false, false, false), (22, some false, false, false), (23, some false, false, false), (24, some false, false, false), (25, some false, false, false), (26, some false, false, false), (27, none, false, false), (28, some false, false, false), (29, some false, false, false)]) := rfl
@[go_sem] theorem ord23_21 : ord23 21 = none := rfl
@[go_sem] theorem ord23_19 : ord23 19 = none := rfl
@[go_sem] theorem ord23_22 : ord23 22 = none := rfl
/-- Orders in raddle/raddlelaw19.AggAdds. -/
def ord25 : Ords
  | 1 => some (.lin [(0, none, false, false), (1, none, false, false), (2, none, false, false), (3, none, true, false), (4, none, false, false), (5, none, false, false), (6, none, false, false)])
  | 16 => some (.lin [(0, none, false, false), (1, none, false, false), (2, none, true, false), (3, none, false, false), (4, none, false, false), (5, none, false, false), (6, none, true, false), (7, none, false, false), (8, none, false, false), (9, none, false, false), (10, none, true, false), (11, none, false, false), (12, none, false, false), (13, none, false, false), (14, none, true, false), (15, none, false, false), (16, none, false, false), (17, none, false, false), (18, none, false, false), (19, none, false, false)])
  | 21 => some (.lin [(0, none, false, false), (1, none, false, false), (2, none, false, false), (3, none, false, false), (4, none, false, false), (5, none, false, false), (6, none, true, false), (7, none, false, false), (8, none, false, false), (9, none, false, false), (10, none, false, false), (11, none, false, false), (12, none, false, false), (13, none, false, false), (14, none, true, false), (15, none, false, false), (16, none, false, false), (17, none, false, false), (18, none, false, false), (19, none, false, false), (20, none, false, false), (21, none, false, false), (22, none, false, false), (23, none, false, false), (24, none, false, false), (25, none, false, false)])
  | 27 => some (.lin [(0, some false, false, false), (1, some false, false, false), (2, some false, false, false), (3, some false, false, false), (4, some false, false, false), (5, some false, false, false), (6, some false, false, false), (7, some false, false, false), (8, some false, false, false), (9, some false, false, false), (10, some false, true, false), (11, some false, false, false), (12, some false, false, false), (13, some false, false, false), (14, some false, false, false), (15, some false, false, false), (16, some false, false, false), (17, some false, false, false), (18, some false, false, false), (19, some false, false, false), (20, some false, false, false), (21, some false, false, false), (22, some false, false, false), (23, some false, false, false), (24, some false, false, false), (25, some false, false, false), (26, some false, false, false), (27, none, false, false), (28, some false, false, false), (29, some false, true, false), (30, some false, false, false), (31, some false, false, false), (32, some false, false, false), (33, some false, false, false), (34, some false, false, false), (35, some false, false, false), (36, some false, false, false), (37, some false, false, false), (38, some false, false, false), (39, some false, false, false), (40, some false, false, false), (41, some false, false, false)])
  | 33 => some (.lin [(0, none, false, false), (1, none, true, false), (2, none, false, false), (3, none, false, false), (4, none, false, false), (5, none, false, false), (6, none, false, false), (7, none, false, false), (8, none, false, false), (9, none, false, false), (10, none, false, false), (11, none, false, false), (12, none, false, false), (13, none, false, false)])
  | 34 => some (.lin [(0, none, false, false), (1, none, false, false), (2, none, true, false), (3, none, false, false), (4, none, false, false), (5, none, false, false)])
  | _ => none
@[go_sem] theorem ord25_0 : ord25 0 = none := rfl
@[go_sem] theorem ord25_1 : ord25 1 = some (.lin [(0, none, false, false), (1, none, false, false), (2, none, false, false), (3, none, true, false), (4, none, false, false), (5, none, false, false), (6, none, false, false)]) := rfl
@[go_sem] theorem ord25_2 : ord25 2 = none := rfl
@[go_sem] theorem ord25_3 : ord25 3 = none := rfl
@[go_sem] theorem ord25_4 : ord25 4 = none := rfl
@[go_sem] theorem ord25_5 : ord25 5 = none := rfl
@[go_sem] theorem ord25_6 : ord25 6 = none := rfl
@[go_sem] theorem ord25_7 : ord25 7 = none := rfl
@[go_sem] theorem ord25_8 : ord25 8 = none := rfl
@[go_sem] theorem ord25_9 : ord25 9 = none := rfl
@[go_sem] theorem ord25_11 : ord25 11 = none := rfl
@[go_sem] theorem ord25_12 : ord25 12 = none := rfl
@[go_sem] theorem ord25_13 : ord25 13 = none := rfl
@[go_sem] theorem ord25_14 : ord25 14 = none := rfl
@[go_sem] theorem ord25_15 : ord25 15 = none := rfl
@[go_sem] theorem ord25_16 : ord25 16 = some (.lin [(0, none, false, false), (1, none, false, false), (2, none, true, false), (3, none, false, false), (4, none, false, false), (5, none, false, false), (6, none, true, false), (7, none, false, false), (8, none, false, false), (9, none, false, false), (10, none, true, false), (11, none, false, false), (12, none, false, false), (13, none, false, false), (14, none, true, false), (15, none, false, false), (16, none, false, false), (17, none, false, false), (18, none, false, false), (19, none, false, false)]) := rfl
@[go_sem] theorem ord25_17 : ord25 17 = none := rfl
@[go_sem] theorem ord25_18 : ord25 18 = none := rfl
@[go_sem] theorem ord25_19 : ord25 19 = none := rfl
@[go_sem] theorem ord25_21 : ord25 21 = some (.lin [(0, none, false, false), (1, none, false, false), (2, none, false, false), (3, none, false, false), (4, none, false, false), (5, none, false, false), (6, none, true, false), (7, none, false, false), (8, none, false, false), (9, none, false, false), (10, none, false, false), (11, none, false, false), (12, none, false, false), (13, none, false, false), (14, none, true, false), (15, none, false, false), (16, none, false, false), (17, none, false, false), (18, none, false, false), (19, none, false, false), (20, none, false, false), (21, none, false, false), (22, none, false, false), (23, none, false, false), (24, none, false, false), (25, none, false, false)]) := rfl
@[go_sem] theorem ord25_22 : ord25 22 = none := rfl
@[go_sem] theorem ord25_23 : ord25 23 = none := rfl
@[go_sem] theorem ord25_24 : ord25 24 = none := rfl
@[go_sem] theorem ord25_25 : ord25 25 = none := rfl
@[go_sem] theorem ord25_27 : ord25 27 = some (.lin [(0, some false, false, false), (1, some false, false, false), (2, some false, false, false), (3, some false, false, false), (4, some false, false, false), (5, some false, false, false), (6, some false, false, false), (7, some false, false, false), (8, some false, false, false), (9, some false, false, false), (10, some false, true, false), (11, some false, false, false), (12, some false, false, false), (13, some false, false, false), (14, some false, false, false), (15, some false, false, false), (16, some false, false, false), (17, some false, false, false), (18, some false, false, false), (19, some false, false, false), (20, some false, false, false), (21, some false, false, false), (22, some false, false, false), (23, some false, false, false), (24, some false, false, false), (25, some false, false, false), (26, some false, false, false), (27, none, false, false), (28, some false, false, false), (29, some false, true, false), (30, some false, false, false), (31, some false, false, false), (32, some false, false, false), (33, some false, false, false), (34, some false, false, false), (35, some false, false, false), (36, some false, false, false), (37, some false, false, false), (38, some false, false, false), (39, some false, false, false), (40, some false, false, false), (41, some false, false, false)]) := rfl
@[go_sem] theorem ord25_28 : ord25 28 = none := rfl
@[go_sem] theorem ord25_26 : ord25 26 = none := rfl
@[go_sem] theorem ord25_29 : ord25 29 = none := rfl
@[go_sem] theorem ord25_30 : ord25 30 = none := rfl
@[go_sem] theorem ord25_32 : ord25 32 = none := rfl
@[go_sem] theorem ord25_33 : ord25 33 = some (.lin [(0, none, false, false), (1, none, true, false), (2, none, false, false), (3, none, false, false), (4, none, false, false), (5, none, false, false), (6, none, false, false), (7, none, false, false), (8, none, false, false), (9, none, false, false), (10, none, false, false), (11, none, false, false), (12, none, false, false), (13, none, false, false)]) := rfl
@[go_sem] theorem ord25_31 : ord25 31 = none := rfl
@[go_sem] theorem ord25_34 : ord25 34 = some (.lin [(0, none, false, false), (1, none, false, false), (2, none, true, false), (3, none, false, false), (4, none, false, false), (5, none, false, false)]) := rfl
@[go_sem] theorem ord25_35 : ord25 35 = none := rfl
@[go_sem] theorem ord25_20 : ord25 20 = none := rfl
@[go_sem] theorem ord25_36 : ord25 36 = none := rfl
@[go_sem] theorem ord25_10 : ord25 10 = none := rfl
@[go_sem] theorem ord25_37 : ord25 37 = none := rfl
/-- Orders in raddle/join.Join. -/
def ord26 : Ords
  | 1 => some (.lin [(0, none, false, false), (1, none, false, false), (2, none, false, false), (3, none, true, false), (4, none, false, false), (5, none, false, false), (6, none, false, false), (7, none, false, false)])
  | _ => none
@[go_sem] theorem ord26_0 : ord26 0 = none := rfl
@[go_sem] theorem ord26_1 : ord26 1 = some (.lin [(0, none, false, false), (1, none, false, false), (2, none, false, false), (3, none, true, false), (4, none, false, false), (5, none, false, false), (6, none, false, false), (7, none, false, false)]) := rfl
@[go_sem] theorem ord26_2 : ord26 2 = none := rfl
@[go_sem] theorem ord26_3 : ord26 3 = none := rfl
@[go_sem] theorem ord26_4 : ord26 4 = none := rfl
@[go_sem] theorem ord26_5 : ord26 5 = none := rfl
@[go_sem] theorem ord26_6 : ord26 6 = none := rfl
@[go_sem] theorem ord26_7 : ord26 7 = none := rfl
@[go_sem] theorem ord26_8 : ord26 8 = none := rfl
@[go_sem] theorem ord26_9 : ord26 9 = none := rfl
@[go_sem] theorem ord26_10 : ord26 10 = none := rfl
@[go_sem] theorem ord26_11 : ord26 11 = none := rfl
@[go_sem] theorem ord26_12 : ord26 12 = none := rfl
@[go_sem] theorem ord26_13 : ord26 13 = none := rfl
@[go_sem] theorem ord26_14 : ord26 14 = none := rfl
@[go_sem] theorem ord26_15 : ord26 15 = none := rfl
@[go_sem] theorem ord26_16 : ord26 16 = none := rfl
@[go_sem] theorem ord26_17 : ord26 17 = none := rfl
/-- Orders in raddle/raddleref14.Join. -/
def ord27 : Ords
  | 9 => some (.lin [(0, some false, false, false), (1, some false, false, false), (2, some false, false, false), (3, some false, false, false), (4, some false, false, false), (5, some false, false, false), (6, some false, false, false), (7, some false, false, false), (8, some false, false, false), (9, some false, false, false), (10, some false, false, false), (11, some false, false, false), (12, none, false, false), (13, some false, false, false)])
  | 10 => some (.lin [(0, some false, false, false), (1, some false, false, false), (2, some false, false, false), (3, some false, false, false), (4, some false, false, false), (5, some false, false, false), (6, some false, false, false), (7, some false, false, false), (8, some false, false, false), (9, some false, false, false), (10, some false, false, false), (11, some false, false, false), (12, some false, false, false), (13, some false, false, false)])
  | 12 => some (.lin [(0, some false, false, false), (1, some false, false, false), (2, some false, false, false), (3, some false, false, false), (4, some false, false, false), (5, some false, false, false), (6, some false, false, false), (7, some false, false, false), (8, some false, false, false), (9, some false, false, false), (10, none, false, false), (11, some false, false, false), (12, some false, false, false), (13, some false, false, false), (14, some false, false, false), (15, some false, false, false)])
  | 13 => some (.lin [(0, none, false, false), (1, none, true, false), (2, none, false, false), (3, none, false, false), (4, none, false, false), (5, none, false, false)])
  | 14 => some (.lin [(0, some false, false, false), (1, some false, false, false), (2, some false, false, false), (3, some false, false, false), (4, some false, false, false), (5, some false, false, false), (7, some false, false, false), (8, some false, false, false), (13, some false, false, false), (9, some true, false, false), (10, some false, false, false), (11, some true, false, false), (6, none, false, false), (12, none, false, false), (14, some false, false, false), (15, none, false, false), (16, none, false, false), (17, some false, false, false)])
  | _ => none
@[go_sem] theorem ord27_0 : ord27 0 = none := rfl
@[go_sem] theorem ord27_1 : ord27 1 = none := rfl
@[go_sem] theorem ord27_2 : ord27 2 = none := rfl
@[go_sem] theorem ord27_3 : ord27 3 = none := rfl
@[go_sem] theorem ord27_4 : ord27 4 = none := rfl
@[go_sem] theorem ord27_6 : ord27 6 = none := rfl
@[go_sem] theorem ord27_7 : ord27 7 = none := rfl
@[go_sem] theorem ord27_9 : ord27 9 = some (.lin [(0, some false, false, false), (1, some false, false, false), (2, some false, false, false), (3, some false, false, false), (4, some false, false, false), (5, some false, false, false), (6, some false, false, false), (7, some false, false, false), (8, some false, false, false), (9, some false, false, false), (10, some false, false, false), (11, some false, false, false), (12, none, false, false), (13, some false, false, false)]) := rfl
@[go_sem] theorem ord27_10 : ord27 10 = some (.lin [(0, some false, false, false), (1, some false, false, false), (2, some false, false, false), (3, some false, false, false), (4, some false, false, false), (5, some false, false, false), (6, some false, false, false), (7, some false, false, false), (8, some false, false, false), (9, some false, false, false), (10, some false, false, false), (11, some false, false, false), (12, some false, false, false), (13, some false, false, false)]) := rfl
@[go_sem] theorem ord27_11 : ord27 11 = none := rfl
@[go_sem] theorem ord27_12 : ord27 12 = some (.lin [(0, some false, false, false), (1, some false, false, false), (2, some false, false, false), (3, some false, false, false), (4, some false, false, false), (5, some false, false, false), (6, some false, false, false), (7, some false, false, false), (8, some false, false, false), (9, some false, false, false), (10, none, false, false), (11, some false, false, false), (12, some false, false, false), (13, some false, false, false), (14, some false, false, false), (15, some false, false, false)]) := rfl
@[go_sem] theorem ord27_13 : ord27 13 = some (.lin [(0, none, false, false), (1, none, true, false), (2, none, false, false), (3, none, false, false), (4, none, false, false), (5, none, false, false)]) := rfl
@[go_sem] theorem ord27_14 : ord27 14 = some (.lin [(0, some false, false, false), (1, some false, false, false), (2, some false, false, false), (3, some false, false, false), (4, some false, false, false), (5, some false, false, false), (7, some false, false, false), (8, some false, false, false), (13, some false, false, false), (9, some true, false, false), (10, some false, false, false), (11, some true, false, false), (6, none, false, false), (12, none, false, false), (14, some false, false, false), (15, none, false, false), (16, none, false, false), (17, some false, false, false)]) := rfl
@[go_sem] theorem ord27_8 : ord27 8 = none := rfl
@[go_sem] theorem ord27_5 : ord27 5 = none := rfl
@[go_sem] theorem ord27_15 : ord27 15 = none := rfl
@[go_sem] theorem ord27_16 : ord27 16 = none := rfl
@[go_sem] theorem ord27_17 : ord27 17 = none := rfl
/-- Orders in raddle/raddlekeep.Set. -/
def ord28 : Ords
  | 6 => some (.lin [(0, some false, false, false), (1, some false, false, false), (2, some false, false, false), (3, some false, false, false), (4, some false, false, false), (5, some false, false, false), (6, some false, false, false), (7, some false, false, false), (8, some false, false, false), (9, some false, false, false), (10, some false, false, false), (11, some false, true, false), (12, some false, false, false), (13, some false, false, false), (14, some false, false, false), (15, some false, false, false), (16, some false, false, false), (17, some false, false, false), (18, some false, false, false), (19, some false, false, false), (20, some false, false, false), (21, some false, false, false), (22, none, false, false), (23, some false, false, false), (24, some false, false, false)])
  | _ => none
@[go_sem] theorem ord28_0 : ord28 0 = none := rfl
@[go_sem] theorem ord28_1 : ord28 1 = none := rfl
@[go_sem] theorem ord28_2 : ord28 2 = none := rfl
@[go_sem] theorem ord28_3 : ord28 3 = none := rfl
@[go_sem] theorem ord28_4 : ord28 4 = none := rfl
@[go_sem] theorem ord28_6 : ord28 6 = some (.lin [(0, some false, false, false), (1, some false, false, false), (2, some false, false, false), (3, some false, false, false), (4, some false, false, false), (5, some false, false, false), (6, some false, false, false), (7, some false, false, false), (8, some false, false, false), (9, some false, false, false), (10, some false, false, false), (11, some false, true, false), (12, some false, false, false), (13, some false, false, false), (14, some false, false, false), (15, some false, false, false), (16, some false, false, false), (17, some false, false, false), (18, some false, false, false), (19, some false, false, false), (20, some false, false, false), (21, some false, false, false), (22, none, false, false), (23, some false, false, false), (24, some false, false, false)]) := rfl
@[go_sem] theorem ord28_7 : ord28 7 = none := rfl
@[go_sem] theorem ord28_5 : ord28 5 = none := rfl
@[go_sem] theorem ord28_8 : ord28 8 = none := rfl
/-- Orders in raddle/raddlelaw17.wakes. -/
def ord29 : Ords
  | 2 => some (.lin [(0, none, false, false), (1, none, false, false), (2, none, true, false), (3, none, false, false), (4, none, false, false), (5, none, false, false), (6, none, false, false), (7, none, true, false), (8, none, false, false), (9, none, false, false), (10, none, false, false), (11, none, false, false), (12, none, false, false), (13, none, false, false), (14, none, true, false), (15, none, false, false), (16, none, false, false), (17, none, false, false), (18, none, false, false), (19, none, false, false), (20, none, false, false), (21, none, false, false), (22, none, true, false), (23, none, false, false), (24, none, false, false), (25, none, false, false), (26, none, false, false), (27, none, false, false), (28, none, false, false), (29, none, false, false), (30, none, false, false), (31, none, false, false), (32, none, false, false)])
  | _ => none
@[go_sem] theorem ord29_0 : ord29 0 = none := rfl
@[go_sem] theorem ord29_1 : ord29 1 = none := rfl
@[go_sem] theorem ord29_2 : ord29 2 = some (.lin [(0, none, false, false), (1, none, false, false), (2, none, true, false), (3, none, false, false), (4, none, false, false), (5, none, false, false), (6, none, false, false), (7, none, true, false), (8, none, false, false), (9, none, false, false), (10, none, false, false), (11, none, false, false), (12, none, false, false), (13, none, false, false), (14, none, true, false), (15, none, false, false), (16, none, false, false), (17, none, false, false), (18, none, false, false), (19, none, false, false), (20, none, false, false), (21, none, false, false), (22, none, true, false), (23, none, false, false), (24, none, false, false), (25, none, false, false), (26, none, false, false), (27, none, false, false), (28, none, false, false), (29, none, false, false), (30, none, false, false), (31, none, false, false), (32, none, false, false)]) := rfl
/-- Orders in raddle/raddlelaw14.Heavy. -/
def ord30 : Ords
  | _ => none
@[go_sem] theorem ord30_0 : ord30 0 = none := rfl
@[go_sem] theorem ord30_1 : ord30 1 = none := rfl
@[go_sem] theorem ord30_2 : ord30 2 = none := rfl
@[go_sem] theorem ord30_4 : ord30 4 = none := rfl
@[go_sem] theorem ord30_5 : ord30 5 = none := rfl
@[go_sem] theorem ord30_6 : ord30 6 = none := rfl
@[go_sem] theorem ord30_7 : ord30 7 = none := rfl
@[go_sem] theorem ord30_9 : ord30 9 = none := rfl
@[go_sem] theorem ord30_10 : ord30 10 = none := rfl
@[go_sem] theorem ord30_8 : ord30 8 = none := rfl
@[go_sem] theorem ord30_3 : ord30 3 = none := rfl
@[go_sem] theorem ord30_11 : ord30 11 = none := rfl
/-- Orders in raddle/raddlekeep.TwinSet. -/
def ord31 : Ords
  | 5 => some (.lin [(0, some false, false, false), (1, some false, false, false), (2, some false, false, false), (3, some false, false, false), (4, some false, false, false), (5, some false, false, false), (7, some false, false, false), (8, some false, false, false), (9, some true, false, false), (10, some false, false, false), (11, some true, false, false), (6, none, false, false), (12, some false, false, false), (13, none, false, false), (14, none, false, false), (15, some false, false, false)])
  | _ => none
@[go_sem] theorem ord31_0 : ord31 0 = none := rfl
@[go_sem] theorem ord31_1 : ord31 1 = none := rfl
@[go_sem] theorem ord31_2 : ord31 2 = none := rfl
@[go_sem] theorem ord31_3 : ord31 3 = none := rfl
@[go_sem] theorem ord31_5 : ord31 5 = some (.lin [(0, some false, false, false), (1, some false, false, false), (2, some false, false, false), (3, some false, false, false), (4, some false, false, false), (5, some false, false, false), (7, some false, false, false), (8, some false, false, false), (9, some true, false, false), (10, some false, false, false), (11, some true, false, false), (6, none, false, false), (12, some false, false, false), (13, none, false, false), (14, none, false, false), (15, some false, false, false)]) := rfl
@[go_sem] theorem ord31_4 : ord31 4 = none := rfl
@[go_sem] theorem ord31_6 : ord31 6 = none := rfl
/-- Orders in raddle/dist.Distinct. -/
def ord32 : Ords
  | _ => none
@[go_sem] theorem ord32_0 : ord32 0 = none := rfl
@[go_sem] theorem ord32_1 : ord32 1 = none := rfl
@[go_sem] theorem ord32_2 : ord32 2 = none := rfl
@[go_sem] theorem ord32_3 : ord32 3 = none := rfl
@[go_sem] theorem ord32_4 : ord32 4 = none := rfl
@[go_sem] theorem ord32_5 : ord32 5 = none := rfl
@[go_sem] theorem ord32_6 : ord32 6 = none := rfl
@[go_sem] theorem ord32_7 : ord32 7 = none := rfl
@[go_sem] theorem ord32_8 : ord32 8 = none := rfl
@[go_sem] theorem ord32_9 : ord32 9 = none := rfl
@[go_sem] theorem ord32_10 : ord32 10 = none := rfl
/-- Orders in raddle/dist.Delta. -/
def ord33 : Ords
  | _ => none
@[go_sem] theorem ord33_0 : ord33 0 = none := rfl
@[go_sem] theorem ord33_1 : ord33 1 = none := rfl
@[go_sem] theorem ord33_2 : ord33 2 = none := rfl
@[go_sem] theorem ord33_3 : ord33 3 = none := rfl
@[go_sem] theorem ord33_4 : ord33 4 = none := rfl
@[go_sem] theorem ord33_5 : ord33 5 = none := rfl
@[go_sem] theorem ord33_6 : ord33 6 = none := rfl
/-- Orders in raddle/raddleref14.Set. -/
def ord34 : Ords
  | 4 => some (.lin [(0, some false, false, false), (1, some false, false, false), (2, some false, false, false), (3, some false, false, false), (4, some false, false, false), (5, none, false, false), (6, some false, false, false), (7, some false, true, false), (8, some false, false, false), (9, some false, false, false), (10, some false, false, false), (11, some false, false, false), (12, some false, false, false), (13, some false, false, false), (14, some false, false, false), (15, some false, true, false), (16, some false, false, false), (17, some false, false, false), (18, some false, false, false), (19, some false, false, false), (20, some false, false, false), (21, none, false, false), (22, some false, false, false), (23, some false, false, false), (24, some false, true, false), (25, some false, false, false), (26, some false, false, false), (27, some false, true, false), (28, some false, false, false), (29, some false, false, false), (30, some false, false, false), (31, some false, false, false), (32, some false, false, false), (33, some false, false, false), (34, some false, false, false), (35, some false, false, false), (36, some false, false, false), (37, some false, false, false), (38, some false, false, false), (39, none, false, false), (40, some false, false, false), (41, some false, false, false), (42, some false, false, false)])
  | _ => none
@[go_sem] theorem ord34_0 : ord34 0 = none := rfl
@[go_sem] theorem ord34_1 : ord34 1 = none := rfl
@[go_sem] theorem ord34_2 : ord34 2 = none := rfl
@[go_sem] theorem ord34_4 : ord34 4 = some (.lin [(0, some false, false, false), (1, some false, false, false), (2, some false, false, false), (3, some false, false, false), (4, some false, false, false), (5, none, false, false), (6, some false, false, false), (7, some false, true, false), (8, some false, false, false), (9, some false, false, false), (10, some false, false, false), (11, some false, false, false), (12, some false, false, false), (13, some false, false, false), (14, some false, false, false), (15, some false, true, false), (16, some false, false, false), (17, some false, false, false), (18, some false, false, false), (19, some false, false, false), (20, some false, false, false), (21, none, false, false), (22, some false, false, false), (23, some false, false, false), (24, some false, true, false), (25, some false, false, false), (26, some false, false, false), (27, some false, true, false), (28, some false, false, false), (29, some false, false, false), (30, some false, false, false), (31, some false, false, false), (32, some false, false, false), (33, some false, false, false), (34, some false, false, false), (35, some false, false, false), (36, some false, false, false), (37, some false, false, false), (38, some false, false, false), (39, none, false, false), (40, some false, false, false), (41, some false, false, false), (42, some false, false, false)]) := rfl
@[go_sem] theorem ord34_5 : ord34 5 = none := rfl
@[go_sem] theorem ord34_3 : ord34 3 = none := rfl
@[go_sem] theorem ord34_6 : ord34 6 = none := rfl
/-- Orders in raddle/raddlelaw18.wakes. -/
def ord35 : Ords
  | 3 => some (.lin [(0, none, false, false), (1, none, false, false), (2, none, true, false), (3, none, false, false), (4, none, false, false), (5, none, false, false), (6, none, true, false), (7, none, false, false), (8, none, false, false), (9, none, false, false), (10, none, false, false), (11, none, true, false), (12, none, false, false), (13, none, false, false), (14, none, false, false), (15, none, false, false), (16, none, false, false), (17, none, false, false), (18, none, true, false), (19, none, false, false), (20, none, false, false), (21, none, false, false), (22, none, false, false), (23, none, false, false), (24, none, false, false), (25, none, false, false), (26, none, true, false), (27, none, false, false), (28, none, false, false), (29, none, false, false), (30, none, false, false), (31, none, false, false), (32, none, false, false), (33, none, false, false), (34, none, false, false), (35, none, false, false), (36, none, true, false), (37, none, false, false), (38, none, false, false), (39, none, false, false), (40, none, false, false), (41, none, true, false), (42, none, false, false), (43, none, false, false), (44, none, false, false), (45, none, false, false), (46, none, false, false), (47, none, false, false), (48, none, false, false)])
  | _ => none
@[go_sem] theorem ord35_0 : ord35 0 = none := rfl
@[go_sem] theorem ord35_1 : ord35 1 = none := rfl
@[go_sem] theorem ord35_2 : ord35 2 = none := rfl
@[go_sem] theorem ord35_3 : ord35 3 = some (.lin [(0, none, false, false), (1, none, false, false), (2, none, true, false), (3, none, false, false), (4, none, false, false), (5, none, false, false), (6, none, true, false), (7, none, false, false), (8, none, false, false), (9, none, false, false), (10, none, false, false), (11, none, true, false), (12, none, false, false), (13, none, false, false), (14, none, false, false), (15, none, false, false), (16, none, false, false), (17, none, false, false), (18, none, true, false), (19, none, false, false), (20, none, false, false), (21, none, false, false), (22, none, false, false), (23, none, false, false), (24, none, false, false), (25, none, false, false), (26, none, true, false), (27, none, false, false), (28, none, false, false), (29, none, false, false), (30, none, false, false), (31, none, false, false), (32, none, false, false), (33, none, false, false), (34, none, false, false), (35, none, false, false), (36, none, true, false), (37, none, false, false), (38, none, false, false), (39, none, false, false), (40, none, false, false), (41, none, true, false), (42, none, false, false), (43, none, false, false), (44, none, false, false), (45, none, false, false), (46, none, false, false), (47, none, false, false), (48, none, false, false)]) := rfl
/-- Orders in raddle/raddleref14.Distinct. -/
def ord36 : Ords
  | _ => none
@[go_sem] theorem ord36_0 : ord36 0 = none := rfl
@[go_sem] theorem ord36_1 : ord36 1 = none := rfl
@[go_sem] theorem ord36_2 : ord36 2 = none := rfl
@[go_sem] theorem ord36_3 : ord36 3 = none := rfl
@[go_sem] theorem ord36_5 : ord36 5 = none := rfl
@[go_sem] theorem ord36_6 : ord36 6 = none := rfl
@[go_sem] theorem ord36_4 : ord36 4 = none := rfl
@[go_sem] theorem ord36_7 : ord36 7 = none := rfl
/-- Orders in raddle/raddlekeep.SpoilSet. -/
def ord37 : Ords
  | _ => none
@[go_sem] theorem ord37_0 : ord37 0 = none := rfl
@[go_sem] theorem ord37_1 : ord37 1 = none := rfl
@[go_sem] theorem ord37_3 : ord37 3 = none := rfl
@[go_sem] theorem ord37_4 : ord37 4 = none := rfl
@[go_sem] theorem ord37_2 : ord37 2 = none := rfl
/-- Orders in raddle/raddleref14.Add. -/
def ord38 : Ords
  | _ => none
@[go_sem] theorem ord38_0 : ord38 0 = none := rfl
@[go_sem] theorem ord38_1 : ord38 1 = none := rfl
@[go_sem] theorem ord38_2 : ord38 2 = none := rfl
/-- Orders in raddle/raddleref14.Minus. -/
def ord39 : Ords
  | _ => none
@[go_sem] theorem ord39_0 : ord39 0 = none := rfl
@[go_sem] theorem ord39_1 : ord39 1 = none := rfl
/-- Orders in raddle/raddlelaw18.one. -/
def ord40 : Ords
  | _ => none
@[go_sem] theorem ord40_0 : ord40 0 = none := rfl
@[go_sem] theorem ord40_1 : ord40 1 = none := rfl
/-- Orders in raddle/raddlekeep.Row. -/
def ord41 : Ords
  | 6 => some (.lin [(0, some false, false, false), (1, some false, false, false), (2, some false, false, false), (3, some false, false, false), (4, some false, false, false), (5, some false, false, false), (6, some false, false, false), (7, some false, false, false), (8, none, false, false), (9, some false, false, false)])
  | _ => none
@[go_sem] theorem ord41_0 : ord41 0 = none := rfl
@[go_sem] theorem ord41_1 : ord41 1 = none := rfl
@[go_sem] theorem ord41_2 : ord41 2 = none := rfl
@[go_sem] theorem ord41_3 : ord41 3 = none := rfl
@[go_sem] theorem ord41_4 : ord41 4 = none := rfl
@[go_sem] theorem ord41_6 : ord41 6 = some (.lin [(0, some false, false, false), (1, some false, false, false), (2, some false, false, false), (3, some false, false, false), (4, some false, false, false), (5, some false, false, false), (6, some false, false, false), (7, some false, false, false), (8, none, false, false), (9, some false, false, false)]) := rfl
@[go_sem] theorem ord41_7 : ord41 7 = none := rfl
@[go_sem] theorem ord41_5 : ord41 5 = none := rfl
@[go_sem] theorem ord41_8 : ord41 8 = none := rfl
/-- Orders in raddle/raddlelaw17.Few. -/
def ord42 : Ords
  | _ => none
@[go_sem] theorem ord42_0 : ord42 0 = none := rfl
@[go_sem] theorem ord42_1 : ord42 1 = none := rfl
@[go_sem] theorem ord42_2 : ord42 2 = none := rfl
@[go_sem] theorem ord42_3 : ord42 3 = none := rfl
@[go_sem] theorem ord42_4 : ord42 4 = none := rfl
/-- Orders in raddle/raddlekeep.Value. -/
def ord43 : Ords
  | 1 => some (.lin [(0, none, false, false), (1, none, false, false), (2, none, false, false), (3, none, false, false), (4, none, false, false), (5, none, true, false), (6, none, false, false), (7, none, false, false), (8, none, false, false), (9, none, false, false), (10, none, false, false), (11, none, false, false), (12, none, true, false), (13, none, false, false), (14, none, false, false), (15, none, false, false), (16, none, false, false), (17, none, false, false), (18, none, false, false), (19, none, false, false)])
  | _ => none
@[go_sem] theorem ord43_0 : ord43 0 = none := rfl
@[go_sem] theorem ord43_1 : ord43 1 = some (.lin [(0, none, false, false), (1, none, false, false), (2, none, false, false), (3, none, false, false), (4, none, false, false), (5, none, true, false), (6, none, false, false), (7, none, false, false), (8, none, false, false), (9, none, false, false), (10, none, false, false), (11, none, false, false), (12, none, true, false), (13, none, false, false), (14, none, false, false), (15, none, false, false), (16, none, false, false), (17, none, false, false), (18, none, false, false), (19, none, false, false)]) := rfl
/-- Orders in raddle/zset.Weight. -/
def ord44 : Ords
  | _ => none
@[go_sem] theorem ord44_0 : ord44 0 = none := rfl
@[go_sem] theorem ord44_1 : ord44 1 = none := rfl
@[go_sem] theorem ord44_2 : ord44 2 = none := rfl
@[go_sem] theorem ord44_3 : ord44 3 = none := rfl
@[go_sem] theorem ord44_4 : ord44 4 = none := rfl
/-- Orders in raddle/raddlekeep.TwinRow. -/
def ord45 : Ords
  | _ => none
@[go_sem] theorem ord45_0 : ord45 0 = none := rfl
@[go_sem] theorem ord45_1 : ord45 1 = none := rfl
@[go_sem] theorem ord45_2 : ord45 2 = none := rfl
/-- Orders in raddle/raddlelaw14.Tame. -/
def ord46 : Ords
  | 3 => some (.lin [(0, none, false, false), (1, none, false, false), (2, none, false, false), (3, none, false, false), (4, none, true, false), (5, none, false, false), (6, none, false, false), (7, none, false, false)])
  | 6 => some (.lin [(0, some false, false, false), (1, some false, false, false), (2, some false, false, false), (3, some false, false, false), (4, some false, false, false), (5, some false, false, false), (6, some false, false, false), (7, some false, false, false), (8, some false, false, false), (9, some false, false, false), (10, some false, false, false), (11, some false, false, false), (12, some false, false, false), (13, none, false, false), (14, none, false, false), (15, some false, false, false)])
  | _ => none
@[go_sem] theorem ord46_0 : ord46 0 = none := rfl
@[go_sem] theorem ord46_1 : ord46 1 = none := rfl
@[go_sem] theorem ord46_2 : ord46 2 = none := rfl
@[go_sem] theorem ord46_3 : ord46 3 = some (.lin [(0, none, false, false), (1, none, false, false), (2, none, false, false), (3, none, false, false), (4, none, true, false), (5, none, false, false), (6, none, false, false), (7, none, false, false)]) := rfl
@[go_sem] theorem ord46_5 : ord46 5 = none := rfl
@[go_sem] theorem ord46_6 : ord46 6 = some (.lin [(0, some false, false, false), (1, some false, false, false), (2, some false, false, false), (3, some false, false, false), (4, some false, false, false), (5, some false, false, false), (6, some false, false, false), (7, some false, false, false), (8, some false, false, false), (9, some false, false, false), (10, some false, false, false), (11, some false, false, false), (12, some false, false, false), (13, none, false, false), (14, none, false, false), (15, some false, false, false)]) := rfl
@[go_sem] theorem ord46_4 : ord46 4 = none := rfl
@[go_sem] theorem ord46_7 : ord46 7 = none := rfl
@[go_sem] theorem ord46_8 : ord46 8 = none := rfl
/-- Orders in raddle/zset.Add. -/
def ord47 : Ords
  | 1 => some (.lin [(0, none, false, false), (1, none, false, false), (2, none, false, false), (3, none, true, false), (4, none, false, false), (5, none, false, false), (6, none, false, false), (7, none, false, false)])
  | _ => none
@[go_sem] theorem ord47_0 : ord47 0 = none := rfl
@[go_sem] theorem ord47_1 : ord47 1 = some (.lin [(0, none, false, false), (1, none, false, false), (2, none, false, false), (3, none, true, false), (4, none, false, false), (5, none, false, false), (6, none, false, false), (7, none, false, false)]) := rfl
@[go_sem] theorem ord47_2 : ord47 2 = none := rfl
@[go_sem] theorem ord47_3 : ord47 3 = none := rfl
/-- Orders in raddle/raddlelaw17.pairs. -/
def ord48 : Ords
  | 4 => some (.lin [(0, none, false, false), (1, none, false, false), (2, none, false, false), (3, none, false, false), (4, none, true, false), (5, none, false, false), (6, none, false, false), (7, none, false, false), (8, none, false, false)])
  | _ => none
@[go_sem] theorem ord48_0 : ord48 0 = none := rfl
@[go_sem] theorem ord48_1 : ord48 1 = none := rfl
@[go_sem] theorem ord48_2 : ord48 2 = none := rfl
@[go_sem] theorem ord48_3 : ord48 3 = none := rfl
@[go_sem] theorem ord48_4 : ord48 4 = some (.lin [(0, none, false, false), (1, none, false, false), (2, none, false, false), (3, none, false, false), (4, none, true, false), (5, none, false, false), (6, none, false, false), (7, none, false, false), (8, none, false, false)]) := rfl
@[go_sem] theorem ord48_6 : ord48 6 = none := rfl
@[go_sem] theorem ord48_7 : ord48 7 = none := rfl
@[go_sem] theorem ord48_5 : ord48 5 = none := rfl
@[go_sem] theorem ord48_8 : ord48 8 = none := rfl
/-- Orders in raddle/lin.Project. -/
def ord49 : Ords
  | _ => none
@[go_sem] theorem ord49_0 : ord49 0 = none := rfl
@[go_sem] theorem ord49_1 : ord49 1 = none := rfl
@[go_sem] theorem ord49_2 : ord49 2 = none := rfl
@[go_sem] theorem ord49_3 : ord49 3 = none := rfl
@[go_sem] theorem ord49_4 : ord49 4 = none := rfl
@[go_sem] theorem ord49_5 : ord49 5 = none := rfl
@[go_sem] theorem ord49_6 : ord49 6 = none := rfl
@[go_sem] theorem ord49_7 : ord49 7 = none := rfl
@[go_sem] theorem ord49_8 : ord49 8 = none := rfl
@[go_sem] theorem ord49_9 : ord49 9 = none := rfl
@[go_sem] theorem ord49_10 : ord49 10 = none := rfl
@[go_sem] theorem ord49_11 : ord49 11 = none := rfl
@[go_sem] theorem ord49_12 : ord49 12 = none := rfl
@[go_sem] theorem ord49_13 : ord49 13 = none := rfl
/-- Orders in raddle/raddlelaw03.Long. -/
def ord50 : Ords
  | _ => none
@[go_sem] theorem ord50_0 : ord50 0 = none := rfl
@[go_sem] theorem ord50_1 : ord50 1 = none := rfl
@[go_sem] theorem ord50_2 : ord50 2 = none := rfl
@[go_sem] theorem ord50_4 : ord50 4 = none := rfl
@[go_sem] theorem ord50_5 : ord50 5 = none := rfl
@[go_sem] theorem ord50_3 : ord50 3 = none := rfl
@[go_sem] theorem ord50_6 : ord50 6 = none := rfl
/-- Orders in raddle/lin.Filter. -/
def ord51 : Ords
  | _ => none
@[go_sem] theorem ord51_0 : ord51 0 = none := rfl
@[go_sem] theorem ord51_1 : ord51 1 = none := rfl
@[go_sem] theorem ord51_2 : ord51 2 = none := rfl
@[go_sem] theorem ord51_3 : ord51 3 = none := rfl
@[go_sem] theorem ord51_4 : ord51 4 = none := rfl
@[go_sem] theorem ord51_5 : ord51 5 = none := rfl
/-- Orders in raddle/raddlelaw16.wakes. -/
def ord52 : Ords
  | 5 => some (.lin [(0, none, false, false), (1, none, false, false), (2, none, true, false), (3, none, false, false), (4, none, false, false), (5, none, false, false), (6, none, true, false), (7, none, false, false), (8, none, false, false), (9, none, false, false), (10, none, true, false), (11, none, false, false), (12, none, false, false), (13, none, false, false), (14, none, false, false), (15, none, true, false), (16, none, false, false), (17, none, false, false), (18, none, false, false), (19, none, false, false), (20, none, false, false), (21, none, false, false), (22, none, true, false), (23, none, false, false), (24, none, false, false), (25, none, false, false), (26, none, false, false), (27, none, false, false), (28, none, false, false), (29, none, false, false), (30, none, true, false), (31, none, false, false), (32, none, false, false), (33, none, false, false), (34, none, false, false), (35, none, true, false), (36, none, false, false), (37, none, false, false), (38, none, false, false), (39, none, false, false), (40, none, true, false), (41, none, false, false), (42, none, false, false), (43, none, false, false), (44, none, false, false), (45, none, false, false), (46, none, false, false), (47, none, false, false)])
  | _ => none
@[go_sem] theorem ord52_0 : ord52 0 = none := rfl
@[go_sem] theorem ord52_1 : ord52 1 = none := rfl
@[go_sem] theorem ord52_2 : ord52 2 = none := rfl
@[go_sem] theorem ord52_3 : ord52 3 = none := rfl
@[go_sem] theorem ord52_4 : ord52 4 = none := rfl
@[go_sem] theorem ord52_5 : ord52 5 = some (.lin [(0, none, false, false), (1, none, false, false), (2, none, true, false), (3, none, false, false), (4, none, false, false), (5, none, false, false), (6, none, true, false), (7, none, false, false), (8, none, false, false), (9, none, false, false), (10, none, true, false), (11, none, false, false), (12, none, false, false), (13, none, false, false), (14, none, false, false), (15, none, true, false), (16, none, false, false), (17, none, false, false), (18, none, false, false), (19, none, false, false), (20, none, false, false), (21, none, false, false), (22, none, true, false), (23, none, false, false), (24, none, false, false), (25, none, false, false), (26, none, false, false), (27, none, false, false), (28, none, false, false), (29, none, false, false), (30, none, true, false), (31, none, false, false), (32, none, false, false), (33, none, false, false), (34, none, false, false), (35, none, true, false), (36, none, false, false), (37, none, false, false), (38, none, false, false), (39, none, false, false), (40, none, true, false), (41, none, false, false), (42, none, false, false), (43, none, false, false), (44, none, false, false), (45, none, false, false), (46, none, false, false), (47, none, false, false)]) := rfl
/-- Orders in raddle/raddlekeep.TwinInts. -/
def ord53 : Ords
  | _ => none
@[go_sem] theorem ord53_0 : ord53 0 = none := rfl
@[go_sem] theorem ord53_1 : ord53 1 = none := rfl
@[go_sem] theorem ord53_2 : ord53 2 = none := rfl
/-- Orders in raddle/lin.Union. -/
def ord54 : Ords
  | _ => none
@[go_sem] theorem ord54_0 : ord54 0 = none := rfl
@[go_sem] theorem ord54_1 : ord54 1 = none := rfl
/-- Orders in raddle/lin.Minus. -/
def ord55 : Ords
  | _ => none
@[go_sem] theorem ord55_0 : ord55 0 = none := rfl
@[go_sem] theorem ord55_1 : ord55 1 = none := rfl
@[go_sem] theorem ord55_2 : ord55 2 = none := rfl
@[go_sem] theorem ord55_3 : ord55 3 = none := rfl
@[go_sem] theorem ord55_4 : ord55 4 = none := rfl
@[go_sem] theorem ord55_5 : ord55 5 = none := rfl
@[go_sem] theorem ord55_6 : ord55 6 = none := rfl
@[go_sem] theorem ord55_7 : ord55 7 = none := rfl
/-- Orders in raddle/raddlekeep.Ints. -/
def ord56 : Ords
  | 6 => some (.lin [(0, some false, false, false), (1, some false, false, false), (2, some false, false, false), (3, some false, false, false), (4, some false, false, false), (5, some false, false, false), (6, some false, false, false), (7, some false, false, false), (8, some false, false, false)])
  | _ => none
@[go_sem] theorem ord56_0 : ord56 0 = none := rfl
@[go_sem] theorem ord56_1 : ord56 1 = none := rfl
@[go_sem] theorem ord56_2 : ord56 2 = none := rfl
@[go_sem] theorem ord56_3 : ord56 3 = none := rfl
@[go_sem] theorem ord56_4 : ord56 4 = none := rfl
@[go_sem] theorem ord56_6 : ord56 6 = some (.lin [(0, some false, false, false), (1, some false, false, false), (2, some false, false, false), (3, some false, false, false), (4, some false, false, false), (5, some false, false, false), (6, some false, false, false), (7, some false, false, false), (8, some false, false, false)]) := rfl
@[go_sem] theorem ord56_7 : ord56 7 = none := rfl
@[go_sem] theorem ord56_5 : ord56 5 = none := rfl
@[go_sem] theorem ord56_8 : ord56 8 = none := rfl
/-- Orders in raddle/raddleref14.Project. -/
def ord57 : Ords
  | _ => none
@[go_sem] theorem ord57_0 : ord57 0 = none := rfl
@[go_sem] theorem ord57_1 : ord57 1 = none := rfl
@[go_sem] theorem ord57_2 : ord57 2 = none := rfl
@[go_sem] theorem ord57_3 : ord57 3 = none := rfl
@[go_sem] theorem ord57_5 : ord57 5 = none := rfl
@[go_sem] theorem ord57_6 : ord57 6 = none := rfl
@[go_sem] theorem ord57_7 : ord57 7 = none := rfl
@[go_sem] theorem ord57_8 : ord57 8 = none := rfl
@[go_sem] theorem ord57_4 : ord57 4 = none := rfl
@[go_sem] theorem ord57_9 : ord57 9 = none := rfl
/-- Orders in raddle/raddleref14.Filter. -/
def ord58 : Ords
  | 5 => some (.lin [(0, some false, false, false), (1, some false, false, false), (2, some false, false, false), (3, some false, false, false), (4, some false, false, false), (5, some false, false, false), (6, none, false, false)])
  | _ => none
@[go_sem] theorem ord58_0 : ord58 0 = none := rfl
@[go_sem] theorem ord58_1 : ord58 1 = none := rfl
@[go_sem] theorem ord58_2 : ord58 2 = none := rfl
@[go_sem] theorem ord58_3 : ord58 3 = none := rfl
@[go_sem] theorem ord58_5 : ord58 5 = some (.lin [(0, some false, false, false), (1, some false, false, false), (2, some false, false, false), (3, some false, false, false), (4, some false, false, false), (5, some false, false, false), (6, none, false, false)]) := rfl
@[go_sem] theorem ord58_6 : ord58 6 = none := rfl
@[go_sem] theorem ord58_4 : ord58 4 = none := rfl
@[go_sem] theorem ord58_7 : ord58 7 = none := rfl
/-- Orders in raddle/zset.Neg. -/
def ord59 : Ords
  | _ => none
@[go_sem] theorem ord59_0 : ord59 0 = none := rfl
@[go_sem] theorem ord59_1 : ord59 1 = none := rfl
@[go_sem] theorem ord59_2 : ord59 2 = none := rfl
@[go_sem] theorem ord59_3 : ord59 3 = none := rfl
@[go_sem] theorem ord59_4 : ord59 4 = none := rfl
@[go_sem] theorem ord59_5 : ord59 5 = none := rfl
@[go_sem] theorem ord59_6 : ord59 6 = none := rfl
@[go_sem] theorem ord59_7 : ord59 7 = none := rfl
@[go_sem] theorem ord59_8 : ord59 8 = none := rfl
@[go_sem] theorem ord59_9 : ord59 9 = none := rfl
@[go_sem] theorem ord59_10 : ord59 10 = none := rfl
/-- Orders in raddle/pred.Holds. -/
def ord60 : Ords
  | 1 => some (.lin [(0, none, false, false), (1, none, false, false), (2, none, false, false), (3, none, false, false), (4, none, false, false), (5, none, false, false), (6, none, true, false), (7, none, false, false), (8, none, false, false), (9, none, true, false), (10, none, false, false), (11, none, false, false), (12, none, false, false), (13, none, false, false), (14, none, false, false), (15, none, false, false), (16, none, false, false), (17, none, false, false)])
  | 10 => some (.lin [(0, some false, false, false), (1, some false, false, false), (2, some false, false, false), (3, some false, false, false), (4, some false, false, false), (5, some false, false, false), (6, none, false, false), (7, some false, false, false), (8, some false, false, false)])
  | 12 => some (.lin [(0, some false, false, false), (1, some false, false, false), (2, some false, false, false), (3, some false, false, false), (4, some false, false, false), (5, some false, false, false), (6, none, false, false), (7, some false, false, false), (8, some false, false, false)])
  | _ => none
@[go_sem] theorem ord60_0 : ord60 0 = none := rfl
@[go_sem] theorem ord60_1 : ord60 1 = some (.lin [(0, none, false, false), (1, none, false, false), (2, none, false, false), (3, none, false, false), (4, none, false, false), (5, none, false, false), (6, none, true, false), (7, none, false, false), (8, none, false, false), (9, none, true, false), (10, none, false, false), (11, none, false, false), (12, none, false, false), (13, none, false, false), (14, none, false, false), (15, none, false, false), (16, none, false, false), (17, none, false, false)]) := rfl
@[go_sem] theorem ord60_2 : ord60 2 = none := rfl
@[go_sem] theorem ord60_3 : ord60 3 = none := rfl
@[go_sem] theorem ord60_4 : ord60 4 = none := rfl
@[go_sem] theorem ord60_5 : ord60 5 = none := rfl
@[go_sem] theorem ord60_6 : ord60 6 = none := rfl
@[go_sem] theorem ord60_7 : ord60 7 = none := rfl
@[go_sem] theorem ord60_8 : ord60 8 = none := rfl
@[go_sem] theorem ord60_9 : ord60 9 = none := rfl
@[go_sem] theorem ord60_10 : ord60 10 = some (.lin [(0, some false, false, false), (1, some false, false, false), (2, some false, false, false), (3, some false, false, false), (4, some false, false, false), (5, some false, false, false), (6, none, false, false), (7, some false, false, false), (8, some false, false, false)]) := rfl
@[go_sem] theorem ord60_11 : ord60 11 = none := rfl
@[go_sem] theorem ord60_12 : ord60 12 = some (.lin [(0, some false, false, false), (1, some false, false, false), (2, some false, false, false), (3, some false, false, false), (4, some false, false, false), (5, some false, false, false), (6, none, false, false), (7, some false, false, false), (8, some false, false, false)]) := rfl
@[go_sem] theorem ord60_13 : ord60 13 = none := rfl
@[go_sem] theorem ord60_14 : ord60 14 = none := rfl
@[go_sem] theorem ord60_15 : ord60 15 = none := rfl
@[go_sem] theorem ord60_16 : ord60 16 = none := rfl
@[go_sem] theorem ord60_17 : ord60 17 = none := rfl
/-- Orders in raddle/row.Pick. -/
def ord61 : Ords
  | _ => none
@[go_sem] theorem ord61_0 : ord61 0 = none := rfl
@[go_sem] theorem ord61_1 : ord61 1 = none := rfl
@[go_sem] theorem ord61_2 : ord61 2 = none := rfl
@[go_sem] theorem ord61_3 : ord61 3 = none := rfl
@[go_sem] theorem ord61_4 : ord61 4 = none := rfl
@[go_sem] theorem ord61_5 : ord61 5 = none := rfl
@[go_sem] theorem ord61_6 : ord61 6 = none := rfl
@[go_sem] theorem ord61_7 : ord61 7 = none := rfl
@[go_sem] theorem ord61_8 : ord61 8 = none := rfl
@[go_sem] theorem ord61_9 : ord61 9 = none := rfl
@[go_sem] theorem ord61_10 : ord61 10 = none := rfl
@[go_sem] theorem ord61_11 : ord61 11 = none := rfl
/-- Orders in raddle/zset.Check. -/
def ord62 : Ords
  | 4 => some (.lin [(0, some false, false, false), (1, some false, false, false), (2, none, false, false), (3, some false, false, false), (4, some false, true, false), (5, some false, false, false), (6, some false, false, false), (7, some false, false, false), (8, some false, false, false), (9, some false, true, false), (10, some false, false, false), (11, some false, false, false), (12, none, false, false), (13, some false, false, false), (14, some false, false, false), (15, some false, true, false), (16, some false, false, false), (17, some false, false, false), (18, some false, true, false), (19, some false, false, false), (20, some false, false, false), (21, some false, false, false), (22, some false, false, false), (23, some false, false, false), (24, some false, false, false), (25, some false, false, false), (26, some false, false, false), (27, none, false, false), (28, some false, false, false), (29, some false, false, false), (30, some false, false, false)])
  | _ => none
@[go_sem] theorem ord62_0 : ord62 0 = none := rfl
@[go_sem] theorem ord62_1 : ord62 1 = none := rfl
@[go_sem] theorem ord62_2 : ord62 2 = none := rfl
@[go_sem] theorem ord62_3 : ord62 3 = none := rfl
@[go_sem] theorem ord62_4 : ord62 4 = some (.lin [(0, some false, false, false), (1, some false, false, false), (2, none, false, false), (3, some false, false, false), (4, some false, true, false), (5, some false, false, false), (6, some false, false, false), (7, some false, false, false), (8, some false, false, false), (9, some false, true, false), (10, some false, false, false), (11, some false, false, false), (12, none, false, false), (13, some false, false, false), (14, some false, false, false), (15, some false, true, false), (16, some false, false, false), (17, some false, false, false), (18, some false, true, false), (19, some false, false, false), (20, some false, false, false), (21, some false, false, false), (22, some false, false, false), (23, some false, false, false), (24, some false, false, false), (25, some false, false, false), (26, some false, false, false), (27, none, false, false), (28, some false, false, false), (29, some false, false, false), (30, some false, false, false)]) := rfl
@[go_sem] theorem ord62_5 : ord62 5 = none := rfl
@[go_sem] theorem ord62_6 : ord62 6 = none := rfl
@[go_sem] theorem ord62_7 : ord62 7 = none := rfl
/-- Orders in raddle/join.Delta. -/
def ord63 : Ords
  | _ => none
@[go_sem] theorem ord63_0 : ord63 0 = none := rfl
@[go_sem] theorem ord63_1 : ord63 1 = none := rfl
@[go_sem] theorem ord63_2 : ord63 2 = none := rfl
@[go_sem] theorem ord63_3 : ord63 3 = none := rfl
@[go_sem] theorem ord63_4 : ord63 4 = none := rfl
@[go_sem] theorem ord63_5 : ord63 5 = none := rfl
@[go_sem] theorem ord63_6 : ord63 6 = none := rfl
@[go_sem] theorem ord63_7 : ord63 7 = none := rfl
@[go_sem] theorem ord63_8 : ord63 8 = none := rfl
@[go_sem] theorem ord63_9 : ord63 9 = none := rfl
@[go_sem] theorem ord63_10 : ord63 10 = none := rfl
@[go_sem] theorem ord63_11 : ord63 11 = none := rfl
@[go_sem] theorem ord63_12 : ord63 12 = none := rfl
@[go_sem] theorem ord63_13 : ord63 13 = none := rfl
@[go_sem] theorem ord63_14 : ord63 14 = none := rfl
@[go_sem] theorem ord63_15 : ord63 15 = none := rfl
@[go_sem] theorem ord63_16 : ord63 16 = none := rfl
@[go_sem] theorem ord63_17 : ord63 17 = none := rfl
@[go_sem] theorem ord63_18 : ord63 18 = none := rfl
@[go_sem] theorem ord63_19 : ord63 19 = none := rfl
@[go_sem] theorem ord63_20 : ord63 20 = none := rfl
@[go_sem] theorem ord63_21 : ord63 21 = none := rfl
@[go_sem] theorem ord63_22 : ord63 22 = none := rfl
/-- Orders in raddle/raddlelaw17.page. -/
def ord64 : Ords
  | 1 => some (.lin [(0, none, false, false), (1, none, false, false), (2, none, false, false), (3, none, true, false), (4, none, false, false), (5, none, false, false), (6, none, false, false), (7, none, false, false)])
  | _ => none
@[go_sem] theorem ord64_0 : ord64 0 = none := rfl
@[go_sem] theorem ord64_1 : ord64 1 = some (.lin [(0, none, false, false), (1, none, false, false), (2, none, false, false), (3, none, true, false), (4, none, false, false), (5, none, false, false), (6, none, false, false), (7, none, false, false)]) := rfl
@[go_sem] theorem ord64_2 : ord64 2 = none := rfl
@[go_sem] theorem ord64_3 : ord64 3 = none := rfl
@[go_sem] theorem ord64_4 : ord64 4 = none := rfl
@[go_sem] theorem ord64_5 : ord64 5 = none := rfl
/-- Orders in raddle/raddlelaw17.delta. -/
def ord65 : Ords
  | 1 => some (.lin [(0, none, false, false), (1, none, false, false), (2, none, false, false), (3, none, true, false), (4, none, false, false), (5, none, false, false), (6, none, false, false), (7, none, false, false), (8, none, true, false), (9, none, false, false), (10, none, false, false), (11, none, false, false), (12, none, false, false), (13, none, true, false), (14, none, false, false), (15, none, false, false), (16, none, false, false), (17, none, false, false)])
  | _ => none
@[go_sem] theorem ord65_0 : ord65 0 = none := rfl
@[go_sem] theorem ord65_1 : ord65 1 = some (.lin [(0, none, false, false), (1, none, false, false), (2, none, false, false), (3, none, true, false), (4, none, false, false), (5, none, false, false), (6, none, false, false), (7, none, false, false), (8, none, true, false), (9, none, false, false), (10, none, false, false), (11, none, false, false), (12, none, false, false), (13, none, true, false), (14, none, false, false), (15, none, false, false), (16, none, false, false), (17, none, false, false)]) := rfl
@[go_sem] theorem ord65_2 : ord65 2 = none := rfl
@[go_sem] theorem ord65_3 : ord65 3 = none := rfl
@[go_sem] theorem ord65_4 : ord65 4 = none := rfl
@[go_sem] theorem ord65_5 : ord65 5 = none := rfl
@[go_sem] theorem ord65_6 : ord65 6 = none := rfl
@[go_sem] theorem ord65_7 : ord65 7 = none := rfl
@[go_sem] theorem ord65_8 : ord65 8 = none := rfl
@[go_sem] theorem ord65_9 : ord65 9 = none := rfl
@[go_sem] theorem ord65_10 : ord65 10 = none := rfl
@[go_sem] theorem ord65_11 : ord65 11 = none := rfl
@[go_sem] theorem ord65_12 : ord65 12 = none := rfl
@[go_sem] theorem ord65_13 : ord65 13 = none := rfl
@[go_sem] theorem ord65_14 : ord65 14 = none := rfl
@[go_sem] theorem ord65_15 : ord65 15 = none := rfl
@[go_sem] theorem ord65_16 : ord65 16 = none := rfl
@[go_sem] theorem ord65_17 : ord65 17 = none := rfl
/-- Orders in raddle/raddlelaw19.Wide. -/
def ord66 : Ords
  | 3 => some (.lin [(0, none, false, false), (1, none, false, false), (2, none, false, false), (3, none, false, false), (4, none, true, false), (5, none, false, false), (6, none, false, false), (7, none, false, false)])
  | 5 => some (.lin [(0, none, false, false), (1, none, false, false), (2, none, false, false), (3, none, false, false), (4, none, false, false), (5, none, false, false), (6, none, false, false), (7, none, true, false), (8, none, false, false), (9, none, false, false), (10, none, false, false), (11, none, false, false), (12, none, false, false), (13, none, false, false), (14, none, false, false), (15, none, false, false)])
  | _ => none
@[go_sem] theorem ord66_0 : ord66 0 = none := rfl
@[go_sem] theorem ord66_1 : ord66 1 = none := rfl
@[go_sem] theorem ord66_2 : ord66 2 = none := rfl
@[go_sem] theorem ord66_3 : ord66 3 = some (.lin [(0, none, false, false), (1, none, false, false), (2, none, false, false), (3, none, false, false), (4, none, true, false), (5, none, false, false), (6, none, false, false), (7, none, false, false)]) := rfl
@[go_sem] theorem ord66_5 : ord66 5 = some (.lin [(0, none, false, false), (1, none, false, false), (2, none, false, false), (3, none, false, false), (4, none, false, false), (5, none, false, false), (6, none, false, false), (7, none, true, false), (8, none, false, false), (9, none, false, false), (10, none, false, false), (11, none, false, false), (12, none, false, false), (13, none, false, false), (14, none, false, false), (15, none, false, false)]) := rfl
@[go_sem] theorem ord66_6 : ord66 6 = none := rfl
@[go_sem] theorem ord66_7 : ord66 7 = none := rfl
@[go_sem] theorem ord66_8 : ord66 8 = none := rfl
@[go_sem] theorem ord66_10 : ord66 10 = none := rfl
@[go_sem] theorem ord66_11 : ord66 11 = none := rfl
@[go_sem] theorem ord66_9 : ord66 9 = none := rfl
@[go_sem] theorem ord66_12 : ord66 12 = none := rfl
@[go_sem] theorem ord66_4 : ord66 4 = none := rfl
@[go_sem] theorem ord66_13 : ord66 13 = none := rfl
@[go_sem] theorem ord66_14 : ord66 14 = none := rfl
/-- Orders in raddle/agg.Group. -/
def ord67 : Ords
  | 9 => some (.lin [(0, none, false, false), (1, none, false, false), (2, none, true, false), (3, none, false, false), (4, none, false, false), (5, none, false, false)])
  | 13 => some (.fork [(0, some false, false, false), (1, some false, false, false), (2, some true, false, false), (4, some true, false, false)] 3 (.lin [(5, none, false, false), (6, none, false, false), (7, some false, false, false), (8, none, false, false), (9, none, false, false), (10, some false, false, false)]) 5 (.lin [(3, none, false, false), (6, none, false, false), (7, some false, false, false), (8, none, false, false), (9, none, false, false), (10, some false, false, false)]))
  | _ => none
@[go_sem] theorem ord67_0 : ord67 0 = none := rfl
@[go_sem] theorem ord67_1 : ord67 1 = none := rfl
@[go_sem] theorem ord67_2 : ord67 2 = none := rfl
@[go_sem] theorem ord67_3 : ord67 3 = none := rfl
@[go_sem] theorem ord67_4 : ord67 4 = none := rfl
@[go_sem] theorem ord67_5 : ord67 5 = none := rfl
@[go_sem] theorem ord67_6 : ord67 6 = none := rfl
@[go_sem] theorem ord67_7 : ord67 7 = none := rfl
@[go_sem] theorem ord67_8 : ord67 8 = none := rfl
@[go_sem] theorem ord67_9 : ord67 9 = some (.lin [(0, none, false, false), (1, none, false, false), (2, none, true, false), (3, none, false, false), (4, none, false, false), (5, none, false, false)]) := rfl
@[go_sem] theorem ord67_10 : ord67 10 = none := rfl
@[go_sem] theorem ord67_11 : ord67 11 = none := rfl
@[go_sem] theorem ord67_12 : ord67 12 = none := rfl
@[go_sem] theorem ord67_13 : ord67 13 = some (.fork [(0, some false, false, false), (1, some false, false, false), (2, some true, false, false), (4, some true, false, false)] 3 (.lin [(5, none, false, false), (6, none, false, false), (7, some false, false, false), (8, none, false, false), (9, none, false, false), (10, some false, false, false)]) 5 (.lin [(3, none, false, false), (6, none, false, false), (7, some false, false, false), (8, none, false, false), (9, none, false, false), (10, some false, false, false)])) := rfl
@[go_sem] theorem ord67_14 : ord67 14 = none := rfl
@[go_sem] theorem ord67_15 : ord67 15 = none := rfl
/-- Orders in raddle/raddleref01.Compare. -/
def ord68 : Ords
  | _ => none
@[go_sem] theorem ord68_0 : ord68 0 = none := rfl
@[go_sem] theorem ord68_1 : ord68 1 = none := rfl
@[go_sem] theorem ord68_2 : ord68 2 = none := rfl
@[go_sem] theorem ord68_3 : ord68 3 = none := rfl
@[go_sem] theorem ord68_4 : ord68 4 = none := rfl
@[go_sem] theorem ord68_5 : ord68 5 = none := rfl
@[go_sem] theorem ord68_6 : ord68 6 = none := rfl
@[go_sem] theorem ord68_7 : ord68 7 = none := rfl
/-- Orders in raddle/raddlelaw19.wakes. -/
def ord69 : Ords
  | 4 => some (.lin [(0, none, false, false), (1, none, false, false), (2, none, true, false), (3, none, false, false), (4, none, false, false), (5, none, false, false), (6, none, true, false), (7, none, false, false), (8, none, false, false), (9, none, false, false), (10, none, false, false), (11, none, true, false), (12, none, false, false), (13, none, false, false), (14, none, false, false), (15, none, false, false), (16, none, false, false), (17, none, false, false), (18, none, false, false), (19, none, true, false), (20, none, false, false), (21, none, false, false), (22, none, false, false), (23, none, false, false), (24, none, false, false), (25, none, false, false), (26, none, false, false), (27, none, true, false), (28, none, false, false), (29, none, false, false), (30, none, false, false), (31, none, false, false), (32, none, false, false), (33, none, false, false), (34, none, false, false), (35, none, false, false), (36, none, false, false), (37, none, true, false), (38, none, false, false), (39, none, false, false), (40, none, false, false), (41, none, false, false), (42, none, false, false), (43, none, false, false), (44, none, false, false), (45, none, false, false), (46, none, false, false), (47, none, true, false), (48, none, false, false), (49, none, false, false), (50, none, false, false), (51, none, false, false), (52, none, true, false), (53, none, false, false), (54, none, false, false), (55, none, false, false), (56, none, false, false), (57, none, false, false), (58, none, false, false), (59, none, false, false), (60, none, true, false), (61, none, false, false), (62, none, false, false), (63, none, false, false), (64, none, false, false), (65, none, false, false), (66, none, false, false), (67, none, false, false), (68, none, false, false), (69, none, false, false), (70, none, false, false)])
  | _ => none
@[go_sem] theorem ord69_0 : ord69 0 = none := rfl
@[go_sem] theorem ord69_1 : ord69 1 = none := rfl
@[go_sem] theorem ord69_2 : ord69 2 = none := rfl
@[go_sem] theorem ord69_3 : ord69 3 = none := rfl
@[go_sem] theorem ord69_4 : ord69 4 = some (.lin [(0, none, false, false), (1, none, false, false), (2, none, true, false), (3, none, false, false), (4, none, false, false), (5, none, false, false), (6, none, true, false), (7, none, false, false), (8, none, false, false), (9, none, false, false), (10, none, false, false), (11, none, true, false), (12, none, false, false), (13, none, false, false), (14, none, false, false), (15, none, false, false), (16, none, false, false), (17, none, false, false), (18, none, false, false), (19, none, true, false), (20, none, false, false), (21, none, false, false), (22, none, false, false), (23, none, false, false), (24, none, false, false), (25, none, false, false), (26, none, false, false), (27, none, true, false), (28, none, false, false), (29, none, false, false), (30, none, false, false), (31, none, false, false), (32, none, false, false), (33, none, false, false), (34, none, false, false), (35, none, false, false), (36, none, false, false), (37, none, true, false), (38, none, false, false), (39, none, false, false), (40, none, false, false), (41, none, false, false), (42, none, false, false), (43, none, false, false), (44, none, false, false), (45, none, false, false), (46, none, false, false), (47, none, true, false), (48, none, false, false), (49, none, false, false), (50, none, false, false), (51, none, false, false), (52, none, true, false), (53, none, false, false), (54, none, false, false), (55, none, false, false), (56, none, false, false), (57, none, false, false), (58, none, false, false), (59, none, false, false), (60, none, true, false), (61, none, false, false), (62, none, false, false), (63, none, false, false), (64, none, false, false), (65, none, false, false), (66, none, false, false), (67, none, false, false), (68, none, false, false), (69, none, false, false), (70, none, false, false)]) := rfl
/-- Orders in raddle/raddlelaw19.two. -/
def ord70 : Ords
  | _ => none
@[go_sem] theorem ord70_0 : ord70 0 = none := rfl
@[go_sem] theorem ord70_1 : ord70 1 = none := rfl
/-- Orders in raddle/raddleref14.Group. -/
def ord71 : Ords
  | 11 => some (.lin [(0, none, false, false), (1, none, false, false), (2, none, true, false), (3, none, false, false), (4, none, false, false), (5, none, false, false), (6, none, false, false), (7, none, false, false), (8, none, false, false), (9, none, false, false), (10, none, false, false), (11, none, false, false), (12, none, false, false), (13, none, false, false)])
  | 26 => some (.lin [(0, some false, false, false), (1, some false, false, false), (2, some false, false, false), (3, some false, false, false), (4, some false, true, false), (5, some false, false, false), (6, some false, false, false), (7, some false, false, false), (8, some false, false, false), (9, some false, false, false), (10, some false, false, false), (11, some false, false, false), (12, some false, false, false), (13, some false, false, false), (14, some false, false, false), (15, none, false, false), (16, some false, false, false), (17, some false, false, false)])
  | 32 => some (.fork [(0, some false, false, false), (1, some false, false, false), (2, some false, false, false), (3, some true, false, false), (4, some false, false, false), (5, some true, false, false), (7, some true, false, false)] 6 (.lin [(8, none, false, false), (9, none, false, false), (10, some false, false, false), (11, none, false, false), (12, none, false, false), (13, some false, false, false)]) 8 (.lin [(6, none, false, false), (9, none, false, false), (10, some false, false, false), (11, none, false, false), (12, none, false, false), (13, some false, false, false)]))
  | _ => none
@[go_sem] theorem ord71_0 : ord71 0 = none := rfl
@[go_sem] theorem ord71_1 : ord71 1 = none := rfl
@[go_sem] theorem ord71_2 : ord71 2 = none := rfl
@[go_sem] theorem ord71_3 : ord71 3 = none := rfl
@[go_sem] theorem ord71_4 : ord71 4 = none := rfl
@[go_sem] theorem ord71_5 : ord71 5 = none := rfl
@[go_sem] theorem ord71_6 : ord71 6 = none := rfl
@[go_sem] theorem ord71_8 : ord71 8 = none := rfl
@[go_sem] theorem ord71_9 : ord71 9 = none := rfl
@[go_sem] theorem ord71_10 : ord71 10 = none := rfl
@[go_sem] theorem ord71_11 : ord71 11 = some (.lin [(0, none, false, false), (1, none, false, false), (2, none, true, false), (3, none, false, false), (4, none, false, false), (5, none, false, false), (6, none, false, false), (7, none, false, false), (8, none, false, false), (9, none, false, false), (10, none, false, false), (11, none, false, false), (12, none, false, false), (13, none, false, false)]) := rfl
@[go_sem] theorem ord71_12 : ord71 12 = none := rfl
@[go_sem] theorem ord71_7 : ord71 7 = none := rfl
@[go_sem] theorem ord71_13 : ord71 13 = none := rfl
@[go_sem] theorem ord71_14 : ord71 14 = none := rfl
@[go_sem] theorem ord71_15 : ord71 15 = none := rfl
@[go_sem] theorem ord71_17 : ord71 17 = none := rfl
@[go_sem] theorem ord71_18 : ord71 18 = none := rfl
@[go_sem] theorem ord71_19 : ord71 19 = none := rfl
@[go_sem] theorem ord71_16 : ord71 16 = none := rfl
@[go_sem] theorem ord71_20 : ord71 20 = none := rfl
@[go_sem] theorem ord71_21 : ord71 21 = none := rfl
@[go_sem] theorem ord71_22 : ord71 22 = none := rfl
@[go_sem] theorem ord71_23 : ord71 23 = none := rfl
@[go_sem] theorem ord71_24 : ord71 24 = none := rfl
@[go_sem] theorem ord71_25 : ord71 25 = none := rfl
@[go_sem] theorem ord71_26 : ord71 26 = some (.lin [(0, some false, false, false), (1, some false, false, false), (2, some false, false, false), (3, some false, false, false), (4, some false, true, false), (5, some false, false, false), (6, some false, false, false), (7, some false, false, false), (8, some false, false, false), (9, some false, false, false), (10, some false, false, false), (11, some false, false, false), (12, some false, false, false), (13, some false, false, false), (14, some false, false, false), (15, none, false, false), (16, some false, false, false), (17, some false, false, false)]) := rfl
@[go_sem] theorem ord71_27 : ord71 27 = none := rfl
@[go_sem] theorem ord71_28 : ord71 28 = none := rfl
@[go_sem] theorem ord71_29 : ord71 29 = none := rfl
@[go_sem] theorem ord71_30 : ord71 30 = none := rfl
@[go_sem] theorem ord71_31 : ord71 31 = none := rfl
@[go_sem] theorem ord71_32 : ord71 32 = some (.fork [(0, some false, false, false), (1, some false, false, false), (2, some false, false, false), (3, some true, false, false), (4, some false, false, false), (5, some true, false, false), (7, some true, false, false)] 6 (.lin [(8, none, false, false), (9, none, false, false), (10, some false, false, false), (11, none, false, false), (12, none, false, false), (13, some false, false, false)]) 8 (.lin [(6, none, false, false), (9, none, false, false), (10, some false, false, false), (11, none, false, false), (12, none, false, false), (13, some false, false, false)])) := rfl
@[go_sem] theorem ord71_33 : ord71 33 = none := rfl
@[go_sem] theorem ord71_34 : ord71 34 = none := rfl
/-- Orders in raddle/agg.Delta. -/
def ord72 : Ords
  | _ => none
@[go_sem] theorem ord72_0 : ord72 0 = none := rfl
@[go_sem] theorem ord72_1 : ord72 1 = none := rfl
@[go_sem] theorem ord72_2 : ord72 2 = none := rfl
@[go_sem] theorem ord72_3 : ord72 3 = none := rfl
@[go_sem] theorem ord72_4 : ord72 4 = none := rfl
@[go_sem] theorem ord72_5 : ord72 5 = none := rfl
@[go_sem] theorem ord72_6 : ord72 6 = none := rfl
@[go_sem] theorem ord72_7 : ord72 7 = none := rfl
@[go_sem] theorem ord72_8 : ord72 8 = none := rfl
@[go_sem] theorem ord72_9 : ord72 9 = none := rfl
@[go_sem] theorem ord72_10 : ord72 10 = none := rfl
/-- Orders in raddle/join.pairs. -/
def ord73 : Ords
  | 9 => some (.lin [(0, none, false, false), (1, none, true, false), (2, none, false, false), (3, none, false, false), (4, none, false, false), (5, none, false, false), (6, none, false, false), (7, none, false, false), (8, none, false, false), (9, none, false, false), (10, none, false, false), (11, none, false, false)])
  | _ => none
@[go_sem] theorem ord73_0 : ord73 0 = none := rfl
@[go_sem] theorem ord73_1 : ord73 1 = none := rfl
@[go_sem] theorem ord73_2 : ord73 2 = none := rfl
@[go_sem] theorem ord73_3 : ord73 3 = none := rfl
@[go_sem] theorem ord73_4 : ord73 4 = none := rfl
@[go_sem] theorem ord73_5 : ord73 5 = none := rfl
@[go_sem] theorem ord73_6 : ord73 6 = none := rfl
@[go_sem] theorem ord73_7 : ord73 7 = none := rfl
@[go_sem] theorem ord73_8 : ord73 8 = none := rfl
@[go_sem] theorem ord73_9 : ord73 9 = some (.lin [(0, none, false, false), (1, none, true, false), (2, none, false, false), (3, none, false, false), (4, none, false, false), (5, none, false, false), (6, none, false, false), (7, none, false, false), (8, none, false, false), (9, none, false, false), (10, none, false, false), (11, none, false, false)]) := rfl
@[go_sem] theorem ord73_10 : ord73 10 = none := rfl
@[go_sem] theorem ord73_11 : ord73 11 = none := rfl
@[go_sem] theorem ord73_12 : ord73 12 = none := rfl
/-- Orders in raddle/join.times. -/
def ord74 : Ords
  | 2 => some (.lin [(0, none, false, false), (1, none, false, false), (2, none, false, false), (3, none, false, false), (4, none, false, false), (5, none, true, false), (6, none, false, false), (7, none, false, false), (8, none, false, false), (9, none, false, false), (10, none, false, false)])
  | _ => none
@[go_sem] theorem ord74_0 : ord74 0 = none := rfl
@[go_sem] theorem ord74_1 : ord74 1 = none := rfl
@[go_sem] theorem ord74_2 : ord74 2 = some (.lin [(0, none, false, false), (1, none, false, false), (2, none, false, false), (3, none, false, false), (4, none, false, false), (5, none, true, false), (6, none, false, false), (7, none, false, false), (8, none, false, false), (9, none, false, false), (10, none, false, false)]) := rfl
/-- Orders in slices.Concat[[]raddle/api.Value,raddle/api.Value]. -/
def ord75 : Ords
  | _ => none
@[go_sem] theorem ord75_0 : ord75 0 = none := rfl
@[go_sem] theorem ord75_1 : ord75 1 = none := rfl
@[go_sem] theorem ord75_2 : ord75 2 = none := rfl
@[go_sem] theorem ord75_3 : ord75 3 = none := rfl
@[go_sem] theorem ord75_4 : ord75 4 = none := rfl
@[go_sem] theorem ord75_5 : ord75 5 = none := rfl
@[go_sem] theorem ord75_6 : ord75 6 = none := rfl
@[go_sem] theorem ord75_7 : ord75 7 = none := rfl
@[go_sem] theorem ord75_8 : ord75 8 = none := rfl
@[go_sem] theorem ord75_9 : ord75 9 = none := rfl
@[go_sem] theorem ord75_10 : ord75 10 = none := rfl
@[go_sem] theorem ord75_11 : ord75 11 = none := rfl
@[go_sem] theorem ord75_12 : ord75 12 = none := rfl
@[go_sem] theorem ord75_13 : ord75 13 = none := rfl
@[go_sem] theorem ord75_14 : ord75 14 = none := rfl
@[go_sem] theorem ord75_15 : ord75 15 = none := rfl
/-- Orders in raddle/zset.Make. -/
def ord76 : Ords
  | 8 => some (.lin [(0, some false, false, false), (1, some false, false, false), (2, some false, false, false), (3, some false, false, false), (4, some false, true, false), (5, some false, false, false), (6, some false, false, false), (7, some false, false, false), (8, some false, false, false), (9, some false, false, false), (10, some false, false, false), (11, some false, false, false), (12, some false, false, false), (13, some false, false, false), (14, none, false, false), (15, some false, false, false), (16, some false, false, false)])
  | _ => none
@[go_sem] theorem ord76_0 : ord76 0 = none := rfl
@[go_sem] theorem ord76_1 : ord76 1 = none := rfl
@[go_sem] theorem ord76_2 : ord76 2 = none := rfl
@[go_sem] theorem ord76_3 : ord76 3 = none := rfl
@[go_sem] theorem ord76_4 : ord76 4 = none := rfl
@[go_sem] theorem ord76_5 : ord76 5 = none := rfl
@[go_sem] theorem ord76_6 : ord76 6 = none := rfl
@[go_sem] theorem ord76_7 : ord76 7 = none := rfl
@[go_sem] theorem ord76_8 : ord76 8 = some (.lin [(0, some false, false, false), (1, some false, false, false), (2, some false, false, false), (3, some false, false, false), (4, some false, true, false), (5, some false, false, false), (6, some false, false, false), (7, some false, false, false), (8, some false, false, false), (9, some false, false, false), (10, some false, false, false), (11, some false, false, false), (12, some false, false, false), (13, some false, false, false), (14, none, false, false), (15, some false, false, false), (16, some false, false, false)]) := rfl
@[go_sem] theorem ord76_9 : ord76 9 = none := rfl
@[go_sem] theorem ord76_10 : ord76 10 = none := rfl
@[go_sem] theorem ord76_11 : ord76 11 = none := rfl
@[go_sem] theorem ord76_12 : ord76 12 = none := rfl
@[go_sem] theorem ord76_13 : ord76 13 = none := rfl
@[go_sem] theorem ord76_14 : ord76 14 = none := rfl
@[go_sem] theorem ord76_15 : ord76 15 = none := rfl
@[go_sem] theorem ord76_16 : ord76 16 = none := rfl
@[go_sem] theorem ord76_17 : ord76 17 = none := rfl
/-- Orders in raddle/raddleref14.meet. -/
def ord77 : Ords
  | 4 => some (.lin [(0, some false, false, false), (1, some false, false, false), (2, some false, false, false), (3, some false, false, false), (4, some false, false, false), (5, some false, false, false), (6, some false, false, false), (7, none, false, false), (8, some false, false, false), (9, some false, true, false), (10, some false, false, false), (11, some false, false, false), (12, some false, false, false), (13, some false, false, false), (14, some false, false, false), (15, some false, false, false), (16, some false, false, false), (17, none, false, false), (18, some false, false, false), (19, some false, false, false), (20, some false, true, false), (21, some false, false, false), (22, some false, false, false), (23, some false, false, false), (24, some false, false, false), (25, some false, false, false), (26, some false, false, false), (27, some false, false, false), (28, some false, false, false), (29, some false, false, false), (30, some false, false, false), (31, some false, true, false), (32, some false, false, false), (33, some false, false, false), (34, some false, false, false), (35, some false, false, false), (36, some false, false, false), (37, some false, false, false), (38, some false, false, false), (39, some false, false, false), (40, some false, false, false), (41, some false, false, false), (42, some false, true, false), (43, some false, false, false), (44, some false, false, false), (45, some false, false, false), (46, some false, false, false), (47, some false, false, false), (48, some false, false, false), (49, some false, false, false), (50, some false, false, false), (51, some false, false, false), (52, some false, false, false), (53, some false, false, false), (54, some false, false, false), (55, some false, false, false), (56, some false, false, false), (57, none, false, false), (58, some false, false, false), (59, some false, false, false)])
  | _ => none
@[go_sem] theorem ord77_0 : ord77 0 = none := rfl
@[go_sem] theorem ord77_1 : ord77 1 = none := rfl
@[go_sem] theorem ord77_2 : ord77 2 = none := rfl
@[go_sem] theorem ord77_4 : ord77 4 = some (.lin [(0, some false, false, false), (1, some false, false, false), (2, some false, false, false), (3, some false, false, false), (4, some false, false, false), (5, some false, false, false), (6, some false, false, false), (7, none, false, false), (8, some false, false, false), (9, some false, true, false), (10, some false, false, false), (11, some false, false, false), (12, some false, false, false), (13, some false, false, false), (14, some false, false, false), (15, some false, false, false), (16, some false, false, false), (17, none, false, false), (18, some false, false, false), (19, some false, false, false), (20, some false, true, false), (21, some false, false, false), (22, some false, false, false), (23, some false, false, false), (24, some false, false, false), (25, some false, false, false), (26, some false, false, false), (27, some false, false, false), (28, some false, false, false), (29, some false, false, false), (30, some false, false, false), (31, some false, true, false), (32, some false, false, false), (33, some false, false, false), (34, some false, false, false), (35, some false, false, false), (36, some false, false, false), (37, some false, false, false), (38, some false, false, false), (39, some false, false, false), (40, some false, false, false), (41, some false, false, false), (42, some false, true, false), (43, some false, false, false), (44, some false, false, false), (45, some false, false, false), (46, some false, false, false), (47, some false, false, false), (48, some false, false, false), (49, some false, false, false), (50, some false, false, false), (51, some false, false, false), (52, some false, false, false), (53, some false, false, false), (54, some false, false, false), (55, some false, false, false), (56, some false, false, false), (57, none, false, false), (58, some false, false, false), (59, some false, false, false)]) := rfl
@[go_sem] theorem ord77_5 : ord77 5 = none := rfl
@[go_sem] theorem ord77_3 : ord77 3 = none := rfl
@[go_sem] theorem ord77_6 : ord77 6 = none := rfl
/-- Orders in raddle/raddleref14.times. -/
def ord78 : Ords
  | 1 => some (.lin [(0, none, false, false), (1, none, false, false), (2, none, true, false), (3, none, false, false), (4, none, false, false), (5, none, false, false)])
  | _ => none
@[go_sem] theorem ord78_0 : ord78 0 = none := rfl
@[go_sem] theorem ord78_1 : ord78 1 = some (.lin [(0, none, false, false), (1, none, false, false), (2, none, true, false), (3, none, false, false), (4, none, false, false), (5, none, false, false)]) := rfl
@[go_sem] theorem ord78_2 : ord78 2 = none := rfl
@[go_sem] theorem ord78_3 : ord78 3 = none := rfl
@[go_sem] theorem ord78_4 : ord78 4 = none := rfl
@[go_sem] theorem ord78_5 : ord78 5 = none := rfl
/-- Orders in raddle/raddleref14.Make. -/
def ord79 : Ords
  | 4 => some (.lin [(0, none, false, false), (1, none, false, false), (2, none, false, false), (3, none, false, false), (4, none, false, false), (5, none, false, false), (6, none, false, false), (7, none, true, false), (8, none, false, false), (9, none, false, false), (10, none, false, false), (11, none, false, false), (12, none, false, false), (13, none, false, false), (14, none, false, false), (15, none, false, false)])
  | 13 => some (.lin [(0, some false, false, false), (1, some false, false, false), (2, some false, false, false), (3, some false, false, false), (4, some false, true, false), (5, some false, false, false), (6, some false, false, false), (7, some false, false, false), (8, some false, false, false), (9, some false, false, false), (10, some false, false, false), (11, some false, false, false), (12, some false, false, false), (13, some false, false, false), (14, some false, false, false), (15, none, false, false), (16, some false, false, false), (17, some false, false, false)])
  | 14 => some (.lin [(0, some false, false, false), (1, some false, false, false), (2, some false, false, false), (3, some false, false, false), (4, some false, false, false), (5, some false, false, false), (6, some false, false, false), (7, some false, false, false), (8, some false, false, false), (9, some false, false, false), (10, some false, false, false), (11, some false, false, false), (12, some false, false, false), (13, some false, false, false), (14, some false, false, false), (15, some false, false, false), (16, some false, false, false), (17, some false, false, false)])
  | _ => none
@[go_sem] theorem ord79_0 : ord79 0 = none := rfl
@[go_sem] theorem ord79_1 : ord79 1 = none := rfl
@[go_sem] theorem ord79_2 : ord79 2 = none := rfl
@[go_sem] theorem ord79_4 : ord79 4 = some (.lin [(0, none, false, false), (1, none, false, false), (2, none, false, false), (3, none, false, false), (4, none, false, false), (5, none, false, false), (6, none, false, false), (7, none, true, false), (8, none, false, false), (9, none, false, false), (10, none, false, false), (11, none, false, false), (12, none, false, false), (13, none, false, false), (14, none, false, false), (15, none, false, false)]) := rfl
@[go_sem] theorem ord79_5 : ord79 5 = none := rfl
@[go_sem] theorem ord79_3 : ord79 3 = none := rfl
@[go_sem] theorem ord79_6 : ord79 6 = none := rfl
@[go_sem] theorem ord79_7 : ord79 7 = none := rfl
@[go_sem] theorem ord79_8 : ord79 8 = none := rfl
@[go_sem] theorem ord79_9 : ord79 9 = none := rfl
@[go_sem] theorem ord79_10 : ord79 10 = none := rfl
@[go_sem] theorem ord79_11 : ord79 11 = none := rfl
@[go_sem] theorem ord79_12 : ord79 12 = none := rfl
@[go_sem] theorem ord79_13 : ord79 13 = some (.lin [(0, some false, false, false), (1, some false, false, false), (2, some false, false, false), (3, some false, false, false), (4, some false, true, false), (5, some false, false, false), (6, some false, false, false), (7, some false, false, false), (8, some false, false, false), (9, some false, false, false), (10, some false, false, false), (11, some false, false, false), (12, some false, false, false), (13, some false, false, false), (14, some false, false, false), (15, none, false, false), (16, some false, false, false), (17, some false, false, false)]) := rfl
@[go_sem] theorem ord79_14 : ord79 14 = some (.lin [(0, some false, false, false), (1, some false, false, false), (2, some false, false, false), (3, some false, false, false), (4, some false, false, false), (5, some false, false, false), (6, some false, false, false), (7, some false, false, false), (8, some false, false, false), (9, some false, false, false), (10, some false, false, false), (11, some false, false, false), (12, some false, false, false), (13, some false, false, false), (14, some false, false, false), (15, some false, false, false), (16, some false, false, false), (17, some false, false, false)]) := rfl
@[go_sem] theorem ord79_15 : ord79 15 = none := rfl
@[go_sem] theorem ord79_16 : ord79 16 = none := rfl
@[go_sem] theorem ord79_17 : ord79 17 = none := rfl
@[go_sem] theorem ord79_18 : ord79 18 = none := rfl
@[go_sem] theorem ord79_19 : ord79 19 = none := rfl
@[go_sem] theorem ord79_20 : ord79 20 = none := rfl
@[go_sem] theorem ord79_21 : ord79 21 = none := rfl
@[go_sem] theorem ord79_22 : ord79 22 = none := rfl
@[go_sem] theorem ord79_23 : ord79 23 = none := rfl
@[go_sem] theorem ord79_24 : ord79 24 = none := rfl
@[go_sem] theorem ord79_25 : ord79 25 = none := rfl
@[go_sem] theorem ord79_26 : ord79 26 = none := rfl
@[go_sem] theorem ord79_27 : ord79 27 = none := rfl
/-- Orders in raddle/raddlelaw17.one. -/
def ord80 : Ords
  | _ => none
@[go_sem] theorem ord80_0 : ord80 0 = none := rfl
@[go_sem] theorem ord80_1 : ord80 1 = none := rfl
/-- Orders in raddle/raddlelaw04.Heavy. -/
def ord81 : Ords
  | 1 => some (.lin [(0, none, false, false), (1, none, false, false), (2, none, false, false), (3, none, true, false), (4, none, false, false), (5, none, false, false), (6, none, false, false), (7, none, false, false)])
  | _ => none
@[go_sem] theorem ord81_0 : ord81 0 = none := rfl
@[go_sem] theorem ord81_1 : ord81 1 = some (.lin [(0, none, false, false), (1, none, false, false), (2, none, false, false), (3, none, true, false), (4, none, false, false), (5, none, false, false), (6, none, false, false), (7, none, false, false)]) := rfl
/-- Orders in slices.DeleteFunc[[]raddle/api.Item,raddle/api.Item]. -/
def ord82 : Ords
  | _ => none
@[go_sem] theorem ord82_0 : ord82 0 = none := rfl
@[go_sem] theorem ord82_1 : ord82 1 = none := rfl
@[go_sem] theorem ord82_2 : ord82 2 = none := rfl
@[go_sem] theorem ord82_3 : ord82 3 = none := rfl
@[go_sem] theorem ord82_4 : ord82 4 = none := rfl
@[go_sem] theorem ord82_5 : ord82 5 = none := rfl
@[go_sem] theorem ord82_7 : ord82 7 = none := rfl
@[go_sem] theorem ord82_8 : ord82 8 = none := rfl
@[go_sem] theorem ord82_9 : ord82 9 = none := rfl
@[go_sem] theorem ord82_10 : ord82 10 = none := rfl
@[go_sem] theorem ord82_6 : ord82 6 = none := rfl
@[go_sem] theorem ord82_11 : ord82 11 = none := rfl
@[go_sem] theorem ord82_12 : ord82 12 = none := rfl
/-- Orders in raddle/zset.Twin. -/
def ord83 : Ords
  | _ => none
@[go_sem] theorem ord83_0 : ord83 0 = none := rfl
@[go_sem] theorem ord83_1 : ord83 1 = none := rfl
@[go_sem] theorem ord83_2 : ord83 2 = none := rfl
@[go_sem] theorem ord83_3 : ord83 3 = none := rfl
@[go_sem] theorem ord83_4 : ord83 4 = none := rfl
@[go_sem] theorem ord83_5 : ord83 5 = none := rfl
@[go_sem] theorem ord83_6 : ord83 6 = none := rfl
@[go_sem] theorem ord83_7 : ord83 7 = none := rfl
/-- Orders in raddle/dist.Distinct$1. -/
def ord84 : Ords
  | _ => none
@[go_sem] theorem ord84_0 : ord84 0 = none := rfl
@[go_sem] theorem ord84_1 : ord84 1 = none := rfl
/-- Orders in slices.Clone[[]raddle/api.Item,raddle/api.Item]. -/
def ord85 : Ords
  | _ => none
@[go_sem] theorem ord85_0 : ord85 0 = none := rfl
@[go_sem] theorem ord85_1 : ord85 1 = none := rfl
@[go_sem] theorem ord85_2 : ord85 2 = none := rfl
@[go_sem] theorem ord85_3 : ord85 3 = none := rfl
/-- Orders in raddle/raddleref01.Row. -/
def ord86 : Ords
  | _ => none
@[go_sem] theorem ord86_0 : ord86 0 = none := rfl
@[go_sem] theorem ord86_1 : ord86 1 = none := rfl
@[go_sem] theorem ord86_2 : ord86 2 = none := rfl
@[go_sem] theorem ord86_3 : ord86 3 = none := rfl
@[go_sem] theorem ord86_4 : ord86 4 = none := rfl
@[go_sem] theorem ord86_6 : ord86 6 = none := rfl
@[go_sem] theorem ord86_7 : ord86 7 = none := rfl
@[go_sem] theorem ord86_5 : ord86 5 = none := rfl
@[go_sem] theorem ord86_8 : ord86 8 = none := rfl
/-- Orders in raddle/raddleref14.in. -/
def ord87 : Ords
  | 1 => some (.lin [(0, none, false, false), (1, none, false, false), (2, none, false, false), (3, none, true, false), (4, none, false, false), (5, none, false, false), (6, none, false, false), (7, none, false, false), (8, none, false, false)])
  | _ => none
@[go_sem] theorem ord87_0 : ord87 0 = none := rfl
@[go_sem] theorem ord87_1 : ord87 1 = some (.lin [(0, none, false, false), (1, none, false, false), (2, none, false, false), (3, none, true, false), (4, none, false, false), (5, none, false, false), (6, none, false, false), (7, none, false, false), (8, none, false, false)]) := rfl
/-- Orders in raddle/raddleref01.CompareRows. -/
def ord88 : Ords
  | 2 => some (.lin [(0, none, false, false), (1, none, false, false), (2, none, false, false), (3, none, false, false), (4, none, true, false), (5, none, false, false), (6, none, false, false), (7, none, false, false), (8, none, false, false), (9, none, false, false)])
  | 4 => some (.lin [(0, some false, false, false), (1, some false, false, false), (2, some false, false, false), (3, some false, false, false), (4, some false, false, false), (5, some false, false, false), (6, some false, false, false), (7, some false, false, false), (8, none, false, false), (9, some false, false, false)])
  | _ => none
@[go_sem] theorem ord88_0 : ord88 0 = none := rfl
@[go_sem] theorem ord88_1 : ord88 1 = none := rfl
@[go_sem] theorem ord88_2 : ord88 2 = some (.lin [(0, none, false, false), (1, none, false, false), (2, none, false, false), (3, none, false, false), (4, none, true, false), (5, none, false, false), (6, none, false, false), (7, none, false, false), (8, none, false, false), (9, none, false, false)]) := rfl
@[go_sem] theorem ord88_4 : ord88 4 = some (.lin [(0, some false, false, false), (1, some false, false, false), (2, some false, false, false), (3, some false, false, false), (4, some false, false, false), (5, some false, false, false), (6, some false, false, false), (7, some false, false, false), (8, none, false, false), (9, some false, false, false)]) := rfl
@[go_sem] theorem ord88_5 : ord88 5 = none := rfl
@[go_sem] theorem ord88_6 : ord88 6 = none := rfl
@[go_sem] theorem ord88_3 : ord88 3 = none := rfl
@[go_sem] theorem ord88_7 : ord88 7 = none := rfl
@[go_sem] theorem ord88_8 : ord88 8 = none := rfl
@[go_sem] theorem ord88_9 : ord88 9 = none := rfl
/-- Orders in raddle/raddlekeep.SpoilRow. -/
def ord89 : Ords
  | _ => none
@[go_sem] theorem ord89_0 : ord89 0 = none := rfl
@[go_sem] theorem ord89_1 : ord89 1 = none := rfl
@[go_sem] theorem ord89_3 : ord89 3 = none := rfl
@[go_sem] theorem ord89_2 : ord89 2 = none := rfl
/-- Orders in raddle/raddleref14.Neg. -/
def ord90 : Ords
  | _ => none
@[go_sem] theorem ord90_0 : ord90 0 = none := rfl
@[go_sem] theorem ord90_1 : ord90 1 = none := rfl
@[go_sem] theorem ord90_2 : ord90 2 = none := rfl
@[go_sem] theorem ord90_3 : ord90 3 = none := rfl
@[go_sem] theorem ord90_5 : ord90 5 = none := rfl
@[go_sem] theorem ord90_4 : ord90 4 = none := rfl
@[go_sem] theorem ord90_6 : ord90 6 = none := rfl
/-- Orders in slices.IndexFunc[[]raddle/api.Item,raddle/api.Item]. -/
def ord91 : Ords
  | _ => none
@[go_sem] theorem ord91_0 : ord91 0 = none := rfl
@[go_sem] theorem ord91_1 : ord91 1 = none := rfl
@[go_sem] theorem ord91_2 : ord91 2 = none := rfl
@[go_sem] theorem ord91_3 : ord91 3 = none := rfl
@[go_sem] theorem ord91_4 : ord91 4 = none := rfl
@[go_sem] theorem ord91_5 : ord91 5 = none := rfl
@[go_sem] theorem ord91_6 : ord91 6 = none := rfl
@[go_sem] theorem ord91_7 : ord91 7 = none := rfl
/-- Orders in raddle/zset.Weight$1. -/
def ord92 : Ords
  | _ => none
@[go_sem] theorem ord92_0 : ord92 0 = none := rfl
@[go_sem] theorem ord92_1 : ord92 1 = none := rfl
/-- Orders in raddle/row.Compare. -/
def ord93 : Ords
  | _ => none
@[go_sem] theorem ord93_0 : ord93 0 = none := rfl
@[go_sem] theorem ord93_1 : ord93 1 = none := rfl
/-- Orders in slices.Concat[[]raddle/api.Item,raddle/api.Item]. -/
def ord94 : Ords
  | _ => none
@[go_sem] theorem ord94_0 : ord94 0 = none := rfl
@[go_sem] theorem ord94_1 : ord94 1 = none := rfl
@[go_sem] theorem ord94_2 : ord94 2 = none := rfl
@[go_sem] theorem ord94_3 : ord94 3 = none := rfl
@[go_sem] theorem ord94_4 : ord94 4 = none := rfl
@[go_sem] theorem ord94_5 : ord94 5 = none := rfl
@[go_sem] theorem ord94_6 : ord94 6 = none := rfl
@[go_sem] theorem ord94_7 : ord94 7 = none := rfl
@[go_sem] theorem ord94_8 : ord94 8 = none := rfl
@[go_sem] theorem ord94_9 : ord94 9 = none := rfl
@[go_sem] theorem ord94_10 : ord94 10 = none := rfl
@[go_sem] theorem ord94_11 : ord94 11 = none := rfl
@[go_sem] theorem ord94_12 : ord94 12 = none := rfl
@[go_sem] theorem ord94_13 : ord94 13 = none := rfl
@[go_sem] theorem ord94_14 : ord94 14 = none := rfl
@[go_sem] theorem ord94_15 : ord94 15 = none := rfl
/-- Orders in raddle/lin.Filter$1. -/
def ord95 : Ords
  | _ => none
@[go_sem] theorem ord95_0 : ord95 0 = none := rfl
@[go_sem] theorem ord95_1 : ord95 1 = none := rfl
/-- Orders in raddle/raddlelaw16.one. -/
def ord96 : Ords
  | _ => none
@[go_sem] theorem ord96_0 : ord96 0 = none := rfl
@[go_sem] theorem ord96_1 : ord96 1 = none := rfl
/-- Orders in raddle/raddleref01.Pick. -/
def ord97 : Ords
  | _ => none
@[go_sem] theorem ord97_0 : ord97 0 = none := rfl
@[go_sem] theorem ord97_1 : ord97 1 = none := rfl
@[go_sem] theorem ord97_2 : ord97 2 = none := rfl
@[go_sem] theorem ord97_4 : ord97 4 = none := rfl
@[go_sem] theorem ord97_5 : ord97 5 = none := rfl
@[go_sem] theorem ord97_3 : ord97 3 = none := rfl
@[go_sem] theorem ord97_6 : ord97 6 = none := rfl
@[go_sem] theorem ord97_7 : ord97 7 = none := rfl
@[go_sem] theorem ord97_8 : ord97 8 = none := rfl
@[go_sem] theorem ord97_9 : ord97 9 = none := rfl
@[go_sem] theorem ord97_10 : ord97 10 = none := rfl
@[go_sem] theorem ord97_12 : ord97 12 = none := rfl
@[go_sem] theorem ord97_11 : ord97 11 = none := rfl
@[go_sem] theorem ord97_13 : ord97 13 = none := rfl
/-- Orders in raddle/raddleref14.Holds. -/
def ord98 : Ords
  | 10 => some (.lin [(0, some false, false, false), (1, some false, false, false), (2, some false, false, false), (3, some false, false, false), (4, some false, false, false), (5, none, false, false), (6, some false, true, false), (7, some false, false, false), (8, some false, false, false), (9, some false, false, false), (10, some false, false, false), (11, some false, false, false), (12, some false, false, false), (13, none, false, false), (14, some false, false, false), (15, some false, false, false), (16, some false, false, false)])
  | 12 => some (.lin [(0, some false, false, false), (1, some false, false, false), (2, some false, false, false), (3, some false, false, false), (4, some false, false, false), (5, none, false, false), (6, some false, true, false), (7, some false, false, false), (8, some false, false, false), (9, some false, false, false), (10, some false, false, false), (11, some false, false, false), (12, some false, false, false), (13, none, false, false), (14, some false, false, false), (15, some false, false, false), (16, some false, false, false)])
  | _ => none
@[go_sem] theorem ord98_0 : ord98 0 = none := rfl
@[go_sem] theorem ord98_1 : ord98 1 = none := rfl
@[go_sem] theorem ord98_2 : ord98 2 = none := rfl
@[go_sem] theorem ord98_3 : ord98 3 = none := rfl
@[go_sem] theorem ord98_4 : ord98 4 = none := rfl
@[go_sem] theorem ord98_5 : ord98 5 = none := rfl
@[go_sem] theorem ord98_6 : ord98 6 = none := rfl
@[go_sem] theorem ord98_7 : ord98 7 = none := rfl
@[go_sem] theorem ord98_8 : ord98 8 = none := rfl
@[go_sem] theorem ord98_9 : ord98 9 = none := rfl
@[go_sem] theorem ord98_10 : ord98 10 = some (.lin [(0, some false, false, false), (1, some false, false, false), (2, some false, false, false), (3, some false, false, false), (4, some false, false, false), (5, none, false, false), (6, some false, true, false), (7, some false, false, false), (8, some false, false, false), (9, some false, false, false), (10, some false, false, false), (11, some false, false, false), (12, some false, false, false), (13, none, false, false), (14, some false, false, false), (15, some false, false, false), (16, some false, false, false)]) := rfl
@[go_sem] theorem ord98_11 : ord98 11 = none := rfl
@[go_sem] theorem ord98_12 : ord98 12 = some (.lin [(0, some false, false, false), (1, some false, false, false), (2, some false, false, false), (3, some false, false, false), (4, some false, false, false), (5, none, false, false), (6, some false, true, false), (7, some false, false, false), (8, some false, false, false), (9, some false, false, false), (10, some false, false, false), (11, some false, false, false), (12, some false, false, false), (13, none, false, false), (14, some false, false, false), (15, some false, false, false), (16, some false, false, false)]) := rfl
@[go_sem] theorem ord98_13 : ord98 13 = none := rfl
@[go_sem] theorem ord98_14 : ord98 14 = none := rfl
@[go_sem] theorem ord98_15 : ord98 15 = none := rfl
@[go_sem] theorem ord98_16 : ord98 16 = none := rfl
@[go_sem] theorem ord98_17 : ord98 17 = none := rfl
/-- Orders in raddle/pred.in. -/
def ord99 : Ords
  | 1 => some (.lin [(0, none, false, false), (1, none, false, false), (2, none, true, false), (3, none, false, false), (4, none, false, false), (5, none, false, false), (6, none, false, false), (7, none, false, false)])
  | _ => none
@[go_sem] theorem ord99_0 : ord99 0 = none := rfl
@[go_sem] theorem ord99_1 : ord99 1 = some (.lin [(0, none, false, false), (1, none, false, false), (2, none, true, false), (3, none, false, false), (4, none, false, false), (5, none, false, false), (6, none, false, false), (7, none, false, false)]) := rfl
/-- Orders in raddle/pred.other. -/
def ord100 : Ords
  | 1 => some (.lin [(0, none, false, false), (1, none, false, false), (2, none, false, false), (3, none, true, false), (4, none, false, false), (5, none, false, false), (6, none, false, false), (7, none, false, false), (8, none, false, false)])
  | _ => none
@[go_sem] theorem ord100_0 : ord100 0 = none := rfl
@[go_sem] theorem ord100_1 : ord100 1 = some (.lin [(0, none, false, false), (1, none, false, false), (2, none, false, false), (3, none, true, false), (4, none, false, false), (5, none, false, false), (6, none, false, false), (7, none, false, false), (8, none, false, false)]) := rfl
/-- Orders in raddle/value.Compare. -/
def ord101 : Ords
  | 1 => some (.lin [(0, some false, false, false), (1, some false, false, false), (2, some false, false, false), (3, some false, false, false), (5, some false, false, false), (6, some false, false, false), (7, some false, false, false), (8, some false, false, false), (10, some false, false, false), (11, some false, false, false), (12, some false, false, false), (13, some false, false, false), (4, none, false, true), (9, none, false, true), (14, none, false, true), (15, none, false, false), (16, none, false, true), (17, some false, false, false)])
  | _ => none
@[go_sem] theorem ord101_0 : ord101 0 = none := rfl
@[go_sem] theorem ord101_1 : ord101 1 = some (.lin [(0, some false, false, false), (1, some false, false, false), (2, some false, false, false), (3, some false, false, false), (5, some false, false, false), (6, some false, false, false), (7, some false, false, false), (8, some false, false, false), (10, some false, false, false), (11, some false, false, false), (12, some false, false, false), (13, some false, false, false), (4, none, false, true), (9, none, false, true), (14, none, false, true), (15, none, false, false), (16, none, false, true), (17, some false, false, false)]) := rfl
/-- Orders in slices.ContainsFunc[[]int,int]. -/
def ord102 : Ords
  | _ => none
@[go_sem] theorem ord102_0 : ord102 0 = none := rfl
@[go_sem] theorem ord102_1 : ord102 1 = none := rfl
/-- Orders in raddle/row.Pick$1. -/
def ord103 : Ords
  | 1 => some (.lin [(0, none, false, false), (1, none, false, false), (2, none, true, false), (3, none, false, false), (4, none, false, false), (5, none, false, false), (6, none, false, false), (7, none, false, false), (8, none, false, false)])
  | _ => none
@[go_sem] theorem ord103_0 : ord103 0 = none := rfl
@[go_sem] theorem ord103_1 : ord103 1 = some (.lin [(0, none, false, false), (1, none, false, false), (2, none, true, false), (3, none, false, false), (4, none, false, false), (5, none, false, false), (6, none, false, false), (7, none, false, false), (8, none, false, false)]) := rfl
/-- Orders in raddle/row.Check. -/
def ord104 : Ords
  | _ => none
@[go_sem] theorem ord104_0 : ord104 0 = none := rfl
@[go_sem] theorem ord104_1 : ord104 1 = none := rfl
@[go_sem] theorem ord104_2 : ord104 2 = none := rfl
@[go_sem] theorem ord104_3 : ord104 3 = none := rfl
@[go_sem] theorem ord104_4 : ord104 4 = none := rfl
@[go_sem] theorem ord104_5 : ord104 5 = none := rfl
/-- Orders in raddle/zset.within. -/
def ord105 : Ords
  | 1 => some (.lin [(0, none, false, false), (1, none, false, false), (2, none, true, false), (3, none, false, false), (4, none, false, false), (5, none, false, false), (6, none, false, false)])
  | _ => none
@[go_sem] theorem ord105_0 : ord105 0 = none := rfl
@[go_sem] theorem ord105_1 : ord105 1 = some (.lin [(0, none, false, false), (1, none, false, false), (2, none, true, false), (3, none, false, false), (4, none, false, false), (5, none, false, false), (6, none, false, false)]) := rfl
/-- Orders in raddle/agg.wrong. -/
def ord106 : Ords
  | 4 => some (.lin [(0, none, false, false), (1, none, false, false), (2, none, true, false), (3, none, false, false), (4, none, false, false), (5, none, false, false), (6, none, false, false)])
  | 12 => some (.lin [(0, none, false, false), (1, none, false, false), (2, none, true, false), (3, none, false, false), (4, none, false, false), (5, none, true, false), (6, none, false, false), (7, none, false, false), (8, none, true, false), (9, none, false, false), (10, none, false, false), (11, none, false, false), (12, none, false, false), (13, none, false, false), (14, none, false, false), (15, none, false, false), (16, none, false, false)])
  | _ => none
@[go_sem] theorem ord106_0 : ord106 0 = none := rfl
@[go_sem] theorem ord106_1 : ord106 1 = none := rfl
@[go_sem] theorem ord106_2 : ord106 2 = none := rfl
@[go_sem] theorem ord106_3 : ord106 3 = none := rfl
@[go_sem] theorem ord106_4 : ord106 4 = some (.lin [(0, none, false, false), (1, none, false, false), (2, none, true, false), (3, none, false, false), (4, none, false, false), (5, none, false, false), (6, none, false, false)]) := rfl
@[go_sem] theorem ord106_5 : ord106 5 = none := rfl
@[go_sem] theorem ord106_6 : ord106 6 = none := rfl
@[go_sem] theorem ord106_7 : ord106 7 = none := rfl
@[go_sem] theorem ord106_8 : ord106 8 = none := rfl
@[go_sem] theorem ord106_9 : ord106 9 = none := rfl
@[go_sem] theorem ord106_10 : ord106 10 = none := rfl
@[go_sem] theorem ord106_11 : ord106 11 = none := rfl
@[go_sem] theorem ord106_12 : ord106 12 = some (.lin [(0, none, false, false), (1, none, false, false), (2, none, true, false), (3, none, false, false), (4, none, false, false), (5, none, true, false), (6, none, false, false), (7, none, false, false), (8, none, true, false), (9, none, false, false), (10, none, false, false), (11, none, false, false), (12, none, false, false), (13, none, false, false), (14, none, false, false), (15, none, false, false), (16, none, false, false)]) := rfl
@[go_sem] theorem ord106_13 : ord106 13 = none := rfl
@[go_sem] theorem ord106_14 : ord106 14 = none := rfl
@[go_sem] theorem ord106_15 : ord106 15 = none := rfl
/-- Orders in raddle/agg.best. -/
def ord108 : Ords
  | 10 => some (.lin [(0, none, false, false), (1, none, false, false), (2, none, false, false), (3, none, true, false), (4, none, false, false), (5, none, false, false), (6, none, true, false), (7, none, false, false), (8, none, false, false), (9, none, false, false), (10, none, false, false), (11, none, true, false), (12, none, false, false), (13, none, false, false), (14, none, true, false), (15, none, false, false), (16, none, false, false), (17, none, false, false), (18, none, false, false)])
  | _ => none
@[go_sem] theorem ord108_0 : ord108 0 = none := rfl
@[go_sem] theorem ord108_1 : ord108 1 = none := rfl
@[go_sem] theorem ord108_2 : ord108 2 = none := rfl
@[go_sem] theorem ord108_3 : ord108 3 = none := rfl
@[go_sem] theorem ord108_4 : ord108 4 = none := rfl
@[go_sem] theorem ord108_5 : ord108 5 = none := rfl
@[go_sem] theorem ord108_6 : ord108 6 = none := rfl
@[go_sem] theorem ord108_7 : ord108 7 = none := rfl
@[go_sem] theorem ord108_8 : ord108 8 = none := rfl
@[go_sem] theorem ord108_9 : ord108 9 = none := rfl
@[go_sem] theorem ord108_10 : ord108 10 = some (.lin [(0, none, false, false), (1, none, false, false), (2, none, false, false), (3, none, true, false), (4, none, false, false), (5, none, false, false), (6, none, true, false), (7, none, false, false), (8, none, false, false), (9, none, false, false), (10, none, false, false), (11, none, true, false), (12, none, false, false), (13, none, false, false), (14, none, true, false), (15, none, false, false), (16, none, false, false), (17, none, false, false), (18, none, false, false)]) := rfl
@[go_sem] theorem ord108_11 : ord108 11 = none := rfl
@[go_sem] theorem ord108_12 : ord108 12 = none := rfl
@[go_sem] theorem ord108_13 : ord108 13 = none := rfl
/-- Orders in raddle/agg.sum. -/
def ord109 : Ords
  | _ => none
@[go_sem] theorem ord109_0 : ord109 0 = none := rfl
@[go_sem] theorem ord109_1 : ord109 1 = none := rfl
@[go_sem] theorem ord109_2 : ord109 2 = none := rfl
@[go_sem] theorem ord109_3 : ord109 3 = none := rfl
@[go_sem] theorem ord109_4 : ord109 4 = none := rfl
@[go_sem] theorem ord109_5 : ord109 5 = none := rfl
@[go_sem] theorem ord109_6 : ord109 6 = none := rfl
@[go_sem] theorem ord109_7 : ord109 7 = none := rfl
@[go_sem] theorem ord109_8 : ord109 8 = none := rfl
@[go_sem] theorem ord109_9 : ord109 9 = none := rfl
@[go_sem] theorem ord109_10 : ord109 10 = none := rfl
@[go_sem] theorem ord109_11 : ord109 11 = none := rfl
@[go_sem] theorem ord109_12 : ord109 12 = none := rfl
@[go_sem] theorem ord109_13 : ord109 13 = none := rfl
@[go_sem] theorem ord109_14 : ord109 14 = none := rfl
/-- Orders in slices.Clone[[]raddle/api.Value,raddle/api.Value]. -/
def ord110 : Ords
  | _ => none
@[go_sem] theorem ord110_0 : ord110 0 = none := rfl
@[go_sem] theorem ord110_1 : ord110 1 = none := rfl
@[go_sem] theorem ord110_2 : ord110 2 = none := rfl
@[go_sem] theorem ord110_3 : ord110 3 = none := rfl
/-- Orders in raddle/raddleref01.sign. -/
def ord111 : Ords
  | _ => none
@[go_sem] theorem ord111_0 : ord111 0 = none := rfl
@[go_sem] theorem ord111_1 : ord111 1 = none := rfl
@[go_sem] theorem ord111_2 : ord111 2 = none := rfl
@[go_sem] theorem ord111_3 : ord111 3 = none := rfl
/-- Orders in raddle/raddleref14.sorted. -/
def ord112 : Ords
  | 3 => some (.lin [(0, some false, false, false), (1, some false, false, false), (2, some false, false, false), (3, some false, false, false), (4, some false, false, false), (6, some false, false, false), (7, some false, false, false), (8, some false, false, false), (9, some false, false, false), (10, some true, false, false), (5, none, false, false), (11, none, false, false), (12, some false, false, false), (13, some false, false, false)])
  | 5 => some (.lin [(0, none, false, false), (1, none, false, false), (2, none, false, false), (3, none, true, false), (4, none, false, false), (5, none, false, false), (6, none, false, false), (7, none, false, false)])
  | 6 => some (.lin [(0, some false, false, false), (1, some false, false, false), (2, some false, false, false), (3, some false, false, false), (4, some false, false, false), (5, some false, false, false), (6, some false, false, false), (7, some false, false, false), (8, none, false, false), (9, some false, false, false)])
  | 7 => some (.lin [(0, some false, false, false), (1, some false, false, false), (2, some false, false, false), (3, some false, false, false), (6, some false, false, false), (7, some true, false, false), (4, none, false, false), (5, none, false, false), (8, some false, false, false), (9, some false, false, false)])
  | 8 => some (.lin [(0, some false, false, false), (1, some false, false, false), (2, some false, false, false), (3, some false, false, false), (6, some false, false, false), (7, some true, false, false), (4, none, false, false), (5, none, false, false), (8, some false, false, false), (9, some false, false, false)])
  | _ => none
@[go_sem] theorem ord112_0 : ord112 0 = none := rfl
@[go_sem] theorem ord112_1 : ord112 1 = none := rfl
@[go_sem] theorem ord112_2 : ord112 2 = none := rfl
@[go_sem] theorem ord112_3 : ord112 3 = some (.lin [(0, some false, false, false), (1, some false, false, false), (2, some false, false, false), (3, some false, false, false), (4, some false, false, false), (6, some false, false, false), (7, some false, false, false), (8, some false, false, false), (9, some false, false, false), (10, some true, false, false), (5, none, false, false), (11, none, false, false), (12, some false, false, false), (13, some false, false, false)]) := rfl
@[go_sem] theorem ord112_4 : ord112 4 = none := rfl
@[go_sem] theorem ord112_5 : ord112 5 = some (.lin [(0, none, false, false), (1, none, false, false), (2, none, false, false), (3, none, true, false), (4, none, false, false), (5, none, false, false), (6, none, false, false), (7, none, false, false)]) := rfl
@[go_sem] theorem ord112_6 : ord112 6 = some (.lin [(0, some false, false, false), (1, some false, false, false), (2, some false, false, false), (3, some false, false, false), (4, some false, false, false), (5, some false, false, false), (6, some false, false, false), (7, some false, false, false), (8, none, false, false), (9, some false, false, false)]) := rfl
@[go_sem] theorem ord112_7 : ord112 7 = some (.lin [(0, some false, false, false), (1, some false, false, false), (2, some false, false, false), (3, some false, false, false), (6, some false, false, false), (7, some true, false, false), (4, none, false, false), (5, none, false, false), (8, some false, false, false), (9, some false, false, false)]) := rfl
@[go_sem] theorem ord112_8 : ord112 8 = some (.lin [(0, some false, false, false), (1, some false, false, false), (2, some false, false, false), (3, some false, false, false), (6, some false, false, false), (7, some true, false, false), (4, none, false, false), (5, none, false, false), (8, some false, false, false), (9, some false, false, false)]) := rfl
@[go_sem] theorem ord112_9 : ord112 9 = none := rfl
/-- Orders in raddle/raddleref14.told. -/
def ord113 : Ords
  | 9 => some (.lin [(0, none, false, false), (1, none, false, false), (2, none, false, false), (3, none, true, false), (4, none, false, false), (5, none, false, false), (6, none, false, false), (7, none, true, false), (8, none, false, false), (9, none, false, false), (10, none, true, false), (11, none, false, false), (12, none, false, false), (13, none, false, false), (14, none, false, false), (15, none, false, false), (16, none, false, false), (17, none, true, false), (18, none, false, false), (19, none, false, false), (20, none, true, false), (21, none, false, false), (22, none, false, false), (23, none, false, false), (24, none, false, false), (25, none, false, false), (26, none, false, false), (27, none, false, false)])
  | 11 => some (.lin [(0, none, false, false), (1, none, false, false), (2, none, true, false), (3, none, false, false), (4, none, false, false), (5, none, false, false), (6, none, false, false)])
  | 19 => some (.lin [(0, none, false, false), (1, none, false, false), (2, none, true, false), (3, none, false, false), (4, none, false, false), (5, none, false, false)])
  | _ => none
@[go_sem] theorem ord113_0 : ord113 0 = none := rfl
@[go_sem] theorem ord113_1 : ord113 1 = none := rfl
@[go_sem] theorem ord113_2 : ord113 2 = none := rfl
@[go_sem] theorem ord113_3 : ord113 3 = none := rfl
@[go_sem] theorem ord113_4 : ord113 4 = none := rfl
@[go_sem] theorem ord113_6 : ord113 6 = none := rfl
@[go_sem] theorem ord113_7 : ord113 7 = none := rfl
@[go_sem] theorem ord113_8 : ord113 8 = none := rfl
@[go_sem] theorem ord113_9 : ord113 9 = some (.lin [(0, none, false, false), (1, none, false, false), (2, none, false, false), (3, none, true, false), (4, none, false, false), (5, none, false, false), (6, none, false, false), (7, none, true, false), (8, none, false, false), (9, none, false, false), (10, none, true, false), (11, none, false, false), (12, none, false, false), (13, none, false, false), (14, none, false, false), (15, none, false, false), (16, none, false, false), (17, none, true, false), (18, none, false, false), (19, none, false, false), (20, none, true, false), (21, none, false, false), (22, none, false, false), (23, none, false, false), (24, none, false, false), (25, none, false, false), (26, none, false, false), (27, none, false, false)]) := rfl
@[go_sem] theorem ord113_10 : ord113 10 = none := rfl
@[go_sem] theorem ord113_11 : ord113 11 = some (.lin [(0, none, false, false), (1, none, false, false), (2, none, true, false), (3, none, false, false), (4, none, false, false), (5, none, false, false), (6, none, false, false)]) := rfl
@[go_sem] theorem ord113_12 : ord113 12 = none := rfl
@[go_sem] theorem ord113_13 : ord113 13 = none := rfl
@[go_sem] theorem ord113_14 : ord113 14 = none := rfl
@[go_sem] theorem ord113_15 : ord113 15 = none := rfl
@[go_sem] theorem ord113_16 : ord113 16 = none := rfl
@[go_sem] theorem ord113_17 : ord113 17 = none := rfl
@[go_sem] theorem ord113_18 : ord113 18 = none := rfl
@[go_sem] theorem ord113_5 : ord113 5 = none := rfl
@[go_sem] theorem ord113_19 : ord113 19 = some (.lin [(0, none, false, false), (1, none, false, false), (2, none, true, false), (3, none, false, false), (4, none, false, false), (5, none, false, false)]) := rfl
@[go_sem] theorem ord113_20 : ord113 20 = none := rfl
@[go_sem] theorem ord113_21 : ord113 21 = none := rfl
/-- Orders in raddle/join.meet. -/
def ord114 : Ords
  | 5 => some (.lin [(0, none, false, false), (1, none, false, false), (2, none, true, false), (3, none, false, false), (4, none, false, false), (5, none, false, false), (6, none, false, false), (7, none, false, false), (8, none, true, false), (9, none, false, false), (10, none, false, false), (11, none, false, false), (12, none, true, false), (13, none, false, false), (14, none, false, false), (15, none, false, false), (16, none, false, false), (17, none, false, false)])
  | 7 => some (.lin [(0, some false, false, false), (1, some false, false, false), (2, some false, false, false), (3, some false, false, false), (4, some false, false, false), (5, some false, false, false), (6, some false, true, false), (7, some false, false, false), (8, some false, false, false), (9, some false, false, false), (10, some false, false, false), (11, some false, false, false), (12, some false, false, false), (13, some false, false, false), (14, some false, true, false), (15, some false, false, false), (16, some false, false, false), (17, some false, false, false), (18, some false, false, false), (19, some false, false, false), (20, some false, false, false), (21, some false, false, false), (22, some false, false, false), (23, none, false, false), (24, some false, false, false), (25, some false, false, false)])
  | _ => none
@[go_sem] theorem ord114_0 : ord114 0 = none := rfl
@[go_sem] theorem ord114_1 : ord114 1 = none := rfl
@[go_sem] theorem ord114_2 : ord114 2 = none := rfl
@[go_sem] theorem ord114_3 : ord114 3 = none := rfl
@[go_sem] theorem ord114_4 : ord114 4 = none := rfl
@[go_sem] theorem ord114_5 : ord114 5 = some (.lin [(0, none, false, false), (1, none, false, false), (2, none, true, false), (3, none, false, false), (4, none, false, false), (5, none, false, false), (6, none, false, false), (7, none, false, false), (8, none, true, false), (9, none, false, false), (10, none, false, false), (11, none, false, false), (12, none, true, false), (13, none, false, false), (14, none, false, false), (15, none, false, false), (16, none, false, false), (17, none, false, false)]) := rfl
@[go_sem] theorem ord114_6 : ord114 6 = none := rfl
@[go_sem] theorem ord114_7 : ord114 7 = some (.lin [(0, some false, false, false), (1, some false, false, false), (2, some false, false, false), (3, some false, false, false), (4, some false, false, false), (5, some false, false, false), (6, some false, true, false), (7, some false, false, false), (8, some false, false, false), (9, some false, false, false), (10, some false, false, false), (11, some false, false, false), (12, some false, false, false), (13, some false, false, false), (14, some false, true, false), (15, some false, false, false), (16, some false, false, false), (17, some false, false, false), (18, some false, false, false), (19, some false, false, false), (20, some false, false, false), (21, some false, false, false), (22, some false, false, false), (23, none, false, false), (24, some false, false, false), (25, some false, false, false)]) := rfl
@[go_sem] theorem ord114_8 : ord114 8 = none := rfl
@[go_sem] theorem ord114_9 : ord114 9 = none := rfl
@[go_sem] theorem ord114_10 : ord114 10 = none := rfl
/-- Orders in math/bits.Mul64. -/
def ord115 : Ords
  | _ => none
@[go_sem] theorem ord115_0 : ord115 0 = none := rfl
@[go_sem] theorem ord115_1 : ord115 1 = none := rfl
@[go_sem] theorem ord115_2 : ord115 2 = none := rfl
@[go_sem] theorem ord115_3 : ord115 3 = none := rfl
@[go_sem] theorem ord115_4 : ord115 4 = none := rfl
@[go_sem] theorem ord115_5 : ord115 5 = none := rfl
@[go_sem] theorem ord115_6 : ord115 6 = none := rfl
@[go_sem] theorem ord115_7 : ord115 7 = none := rfl
@[go_sem] theorem ord115_8 : ord115 8 = none := rfl
@[go_sem] theorem ord115_9 : ord115 9 = none := rfl
@[go_sem] theorem ord115_10 : ord115 10 = none := rfl
@[go_sem] theorem ord115_11 : ord115 11 = none := rfl
/-- Orders in raddle/join.size. -/
def ord116 : Ords
  | _ => none
@[go_sem] theorem ord116_0 : ord116 0 = none := rfl
@[go_sem] theorem ord116_1 : ord116 1 = none := rfl
/-- Orders in slices.Grow[[]raddle/api.Value,raddle/api.Value]. -/
def ord117 : Ords
  | _ => none
@[go_sem] theorem ord117_0 : ord117 0 = none := rfl
@[go_sem] theorem ord117_1 : ord117 1 = none := rfl
@[go_sem] theorem ord117_2 : ord117 2 = none := rfl
@[go_sem] theorem ord117_3 : ord117 3 = none := rfl
@[go_sem] theorem ord117_4 : ord117 4 = none := rfl
@[go_sem] theorem ord117_5 : ord117 5 = none := rfl
@[go_sem] theorem ord117_6 : ord117 6 = none := rfl
/-- Orders in slices.ContainsFunc[[]raddle/api.Item,raddle/api.Item]. -/
def ord118 : Ords
  | _ => none
@[go_sem] theorem ord118_0 : ord118 0 = none := rfl
@[go_sem] theorem ord118_1 : ord118 1 = none := rfl
/-- Orders in raddle/zset.Make$1. -/
def ord119 : Ords
  | 1 => some (.lin [(0, none, false, false), (1, none, false, false), (2, none, false, false), (3, none, false, false), (4, none, true, false), (5, none, false, false), (6, none, false, false), (7, none, false, false), (8, none, false, false), (9, none, false, false), (10, none, false, false)])
  | _ => none
@[go_sem] theorem ord119_0 : ord119 0 = none := rfl
@[go_sem] theorem ord119_1 : ord119 1 = some (.lin [(0, none, false, false), (1, none, false, false), (2, none, false, false), (3, none, false, false), (4, none, true, false), (5, none, false, false), (6, none, false, false), (7, none, false, false), (8, none, false, false), (9, none, false, false), (10, none, false, false)]) := rfl
/-- Orders in slices.SortStableFunc[[]raddle/api.Item,raddle/api.Item]. -/
def ord120 : Ords
  | _ => none
@[go_sem] theorem ord120_0 : ord120 0 = none := rfl
/-- Orders in raddle/zset.Make$2. -/
def ord121 : Ords
  | _ => none
@[go_sem] theorem ord121_0 : ord121 0 = none := rfl
@[go_sem] theorem ord121_1 : ord121 1 = none := rfl
/-- Orders in (*raddle/zset.total).add. -/
def ord122 : Ords
  | 0 => some (.lin [(0, some false, false, false), (1, some false, false, false), (2, some false, false, false), (3, some false, false, false), (4, some false, false, false), (5, some false, false, false), (6, some false, false, false), (7, some false, false, false), (8, some false, false, false), (9, some false, false, false), (10, some false, false, false), (11, some false, false, false), (12, some false, false, false), (13, some false, false, false), (14, some false, false, false), (15, some false, false, false), (16, some false, false, false), (17, some false, false, false), (18, none, false, false), (19, some false, false, false), (20, some false, false, false), (21, none, false, false)])
  | _ => none
@[go_sem] theorem ord122_0 : ord122 0 = some (.lin [(0, some false, false, false), (1, some false, false, false), (2, some false, false, false), (3, some false, false, false), (4, some false, false, false), (5, some false, false, false), (6, some false, false, false), (7, some false, false, false), (8, some false, false, false), (9, some false, false, false), (10, some false, false, false), (11, some false, false, false), (12, some false, false, false), (13, some false, false, false), (14, some false, false, false), (15, some false, false, false), (16, some false, false, false), (17, some false, false, false), (18, none, false, false), (19, some false, false, false), (20, some false, false, false), (21, none, false, false)]) := rfl
/-- Orders in (raddle/zset.total).sum. -/
def ord123 : Ords
  | 2 => some (.lin [(0, none, false, false), (1, none, false, false), (2, none, true, false), (3, none, false, false), (4, none, false, false), (5, none, false, false)])
  | _ => none
@[go_sem] theorem ord123_0 : ord123 0 = none := rfl
@[go_sem] theorem ord123_1 : ord123 1 = none := rfl
@[go_sem] theorem ord123_2 : ord123 2 = some (.lin [(0, none, false, false), (1, none, false, false), (2, none, true, false), (3, none, false, false), (4, none, false, false), (5, none, false, false)]) := rfl
@[go_sem] theorem ord123_3 : ord123 3 = none := rfl
@[go_sem] theorem ord123_4 : ord123 4 = none := rfl
@[go_sem] theorem ord123_5 : ord123 5 = none := rfl
/-- Orders in raddle/raddleref14.size. -/
def ord124 : Ords
  | _ => none
@[go_sem] theorem ord124_0 : ord124 0 = none := rfl
@[go_sem] theorem ord124_1 : ord124 1 = none := rfl
/-- Orders in raddle/raddleref01.Value. -/
def ord125 : Ords
  | 3 => some (.lin [(0, none, false, false), (1, none, false, false), (2, none, false, false), (3, none, true, false), (4, none, false, false), (5, none, false, false), (6, none, false, false), (7, none, false, false), (8, none, false, false)])
  | 5 => some (.lin [(0, none, false, false), (1, none, false, false), (2, none, false, false), (3, none, true, false), (4, none, false, false), (5, none, false, false), (6, none, false, false), (7, none, false, false), (8, none, false, false)])
  | 7 => some (.lin [(0, none, false, false), (1, none, false, false), (2, none, false, false), (3, none, true, false), (4, none, false, false), (5, none, false, false), (6, none, false, false), (7, none, false, false), (8, none, false, false)])
  | 9 => some (.lin [(0, none, false, false), (1, none, false, false), (2, none, false, false), (3, none, true, false), (4, none, false, false), (5, none, false, false), (6, none, false, false), (7, none, false, false), (8, none, false, false), (9, none, false, false)])
  | _ => none
@[go_sem] theorem ord125_0 : ord125 0 = none := rfl
@[go_sem] theorem ord125_1 : ord125 1 = none := rfl
@[go_sem] theorem ord125_2 : ord125 2 = none := rfl
@[go_sem] theorem ord125_3 : ord125 3 = some (.lin [(0, none, false, false), (1, none, false, false), (2, none, false, false), (3, none, true, false), (4, none, false, false), (5, none, false, false), (6, none, false, false), (7, none, false, false), (8, none, false, false)]) := rfl
@[go_sem] theorem ord125_4 : ord125 4 = none := rfl
@[go_sem] theorem ord125_5 : ord125 5 = some (.lin [(0, none, false, false), (1, none, false, false), (2, none, false, false), (3, none, true, false), (4, none, false, false), (5, none, false, false), (6, none, false, false), (7, none, false, false), (8, none, false, false)]) := rfl
@[go_sem] theorem ord125_6 : ord125 6 = none := rfl
@[go_sem] theorem ord125_7 : ord125 7 = some (.lin [(0, none, false, false), (1, none, false, false), (2, none, false, false), (3, none, true, false), (4, none, false, false), (5, none, false, false), (6, none, false, false), (7, none, false, false), (8, none, false, false)]) := rfl
@[go_sem] theorem ord125_8 : ord125 8 = none := rfl
@[go_sem] theorem ord125_9 : ord125 9 = some (.lin [(0, none, false, false), (1, none, false, false), (2, none, false, false), (3, none, true, false), (4, none, false, false), (5, none, false, false), (6, none, false, false), (7, none, false, false), (8, none, false, false), (9, none, false, false)]) := rfl
@[go_sem] theorem ord125_10 : ord125 10 = none := rfl
/-- Orders in slices.CompareFunc[[]raddle/api.Value,[]raddle/api.Value,raddle/api.Value,raddle/api.Value]. -/
def ord126 : Ords
  | _ => none
@[go_sem] theorem ord126_0 : ord126 0 = none := rfl
@[go_sem] theorem ord126_1 : ord126 1 = none := rfl
@[go_sem] theorem ord126_2 : ord126 2 = none := rfl
@[go_sem] theorem ord126_3 : ord126 3 = none := rfl
@[go_sem] theorem ord126_4 : ord126 4 = none := rfl
@[go_sem] theorem ord126_5 : ord126 5 = none := rfl
@[go_sem] theorem ord126_6 : ord126 6 = none := rfl
@[go_sem] theorem ord126_7 : ord126 7 = none := rfl
@[go_sem] theorem ord126_8 : ord126 8 = none := rfl
@[go_sem] theorem ord126_9 : ord126 9 = none := rfl
@[go_sem] theorem ord126_10 : ord126 10 = none := rfl
@[go_sem] theorem ord126_11 : ord126 11 = none := rfl
@[go_sem] theorem ord126_12 : ord126 12 = none := rfl
@[go_sem] theorem ord126_13 : ord126 13 = none := rfl
/-- Orders in slices.Grow[[]raddle/api.Item,raddle/api.Item]. -/
def ord127 : Ords
  | _ => none
@[go_sem] theorem ord127_0 : ord127 0 = none := rfl
@[go_sem] theorem ord127_1 : ord127 1 = none := rfl
@[go_sem] theorem ord127_2 : ord127 2 = none := rfl
@[go_sem] theorem ord127_3 : ord127 3 = none := rfl
@[go_sem] theorem ord127_4 : ord127 4 = none := rfl
@[go_sem] theorem ord127_5 : ord127 5 = none := rfl
@[go_sem] theorem ord127_6 : ord127 6 = none := rfl
/-- Orders in raddle/raddleref01.in. -/
def ord128 : Ords
  | 1 => some (.lin [(0, none, false, false), (1, none, false, false), (2, none, false, false), (3, none, true, false), (4, none, false, false), (5, none, false, false), (6, none, false, false), (7, none, false, false), (8, none, false, false)])
  | _ => none
@[go_sem] theorem ord128_0 : ord128 0 = none := rfl
@[go_sem] theorem ord128_1 : ord128 1 = some (.lin [(0, none, false, false), (1, none, false, false), (2, none, false, false), (3, none, true, false), (4, none, false, false), (5, none, false, false), (6, none, false, false), (7, none, false, false), (8, none, false, false)]) := rfl
/-- Orders in cmp.Or[int]. -/
def ord129 : Ords
  | _ => none
@[go_sem] theorem ord129_0 : ord129 0 = none := rfl
@[go_sem] theorem ord129_1 : ord129 1 = none := rfl
@[go_sem] theorem ord129_2 : ord129 2 = none := rfl
@[go_sem] theorem ord129_3 : ord129 3 = none := rfl
@[go_sem] theorem ord129_4 : ord129 4 = none := rfl
@[go_sem] theorem ord129_5 : ord129 5 = none := rfl
@[go_sem] theorem ord129_6 : ord129 6 = none := rfl
@[go_sem] theorem ord129_7 : ord129 7 = none := rfl
@[go_sem] theorem ord129_8 : ord129 8 = none := rfl
/-- Orders in cmp.Compare[int]. -/
def ord130 : Ords
  | _ => none
@[go_sem] theorem ord130_0 : ord130 0 = none := rfl
@[go_sem] theorem ord130_1 : ord130 1 = none := rfl
@[go_sem] theorem ord130_2 : ord130 2 = none := rfl
@[go_sem] theorem ord130_3 : ord130 3 = none := rfl
@[go_sem] theorem ord130_4 : ord130 4 = none := rfl
@[go_sem] theorem ord130_5 : ord130 5 = none := rfl
@[go_sem] theorem ord130_6 : ord130 6 = none := rfl
@[go_sem] theorem ord130_7 : ord130 7 = none := rfl
@[go_sem] theorem ord130_8 : ord130 8 = none := rfl
@[go_sem] theorem ord130_9 : ord130 9 = none := rfl
@[go_sem] theorem ord130_10 : ord130 10 = none := rfl
@[go_sem] theorem ord130_11 : ord130 11 = none := rfl
@[go_sem] theorem ord130_12 : ord130 12 = none := rfl
@[go_sem] theorem ord130_13 : ord130 13 = none := rfl
/-- Orders in cmp.Compare[string]. -/
def ord131 : Ords
  | _ => none
@[go_sem] theorem ord131_0 : ord131 0 = none := rfl
@[go_sem] theorem ord131_1 : ord131 1 = none := rfl
@[go_sem] theorem ord131_2 : ord131 2 = none := rfl
@[go_sem] theorem ord131_3 : ord131 3 = none := rfl
@[go_sem] theorem ord131_4 : ord131 4 = none := rfl
@[go_sem] theorem ord131_5 : ord131 5 = none := rfl
@[go_sem] theorem ord131_6 : ord131 6 = none := rfl
@[go_sem] theorem ord131_7 : ord131 7 = none := rfl
@[go_sem] theorem ord131_8 : ord131 8 = none := rfl
@[go_sem] theorem ord131_9 : ord131 9 = none := rfl
@[go_sem] theorem ord131_10 : ord131 10 = none := rfl
@[go_sem] theorem ord131_11 : ord131 11 = none := rfl
@[go_sem] theorem ord131_12 : ord131 12 = none := rfl
@[go_sem] theorem ord131_13 : ord131 13 = none := rfl
/-- Orders in slices.IndexFunc[[]int,int]. -/
def ord132 : Ords
  | _ => none
@[go_sem] theorem ord132_0 : ord132 0 = none := rfl
@[go_sem] theorem ord132_1 : ord132 1 = none := rfl
@[go_sem] theorem ord132_2 : ord132 2 = none := rfl
@[go_sem] theorem ord132_3 : ord132 3 = none := rfl
@[go_sem] theorem ord132_4 : ord132 4 = none := rfl
@[go_sem] theorem ord132_5 : ord132 5 = none := rfl
@[go_sem] theorem ord132_6 : ord132 6 = none := rfl
@[go_sem] theorem ord132_7 : ord132 7 = none := rfl
/-- Orders in slices.ContainsFunc[[]raddle/api.Value,raddle/api.Value]. -/
def ord133 : Ords
  | _ => none
@[go_sem] theorem ord133_0 : ord133 0 = none := rfl
@[go_sem] theorem ord133_1 : ord133 1 = none := rfl
/-- Orders in raddle/row.wrong. -/
def ord134 : Ords
  | _ => none
@[go_sem] theorem ord134_0 : ord134 0 = none := rfl
@[go_sem] theorem ord134_1 : ord134 1 = none := rfl
/-- Orders in slices.BinarySearchFunc[[]raddle/agg.group,raddle/agg.group,[]raddle/api.Value]. -/
def ord135 : Ords
  | 8 => some (.lin [(0, none, false, false), (1, none, false, false), (2, none, false, false), (3, none, false, false), (4, none, true, false), (5, none, false, false), (6, none, false, false), (7, none, false, false), (8, none, false, false), (9, none, false, false), (10, none, false, false), (11, none, false, false), (12, none, false, false), (13, none, false, false), (14, none, false, false), (15, none, false, false)])
  | _ => none
@[go_sem] theorem ord135_0 : ord135 0 = none := rfl
@[go_sem] theorem ord135_1 : ord135 1 = none := rfl
@[go_sem] theorem ord135_2 : ord135 2 = none := rfl
@[go_sem] theorem ord135_3 : ord135 3 = none := rfl
@[go_sem] theorem ord135_4 : ord135 4 = none := rfl
@[go_sem] theorem ord135_5 : ord135 5 = none := rfl
@[go_sem] theorem ord135_6 : ord135 6 = none := rfl
@[go_sem] theorem ord135_7 : ord135 7 = none := rfl
@[go_sem] theorem ord135_8 : ord135 8 = some (.lin [(0, none, false, false), (1, none, false, false), (2, none, false, false), (3, none, false, false), (4, none, true, false), (5, none, false, false), (6, none, false, false), (7, none, false, false), (8, none, false, false), (9, none, false, false), (10, none, false, false), (11, none, false, false), (12, none, false, false), (13, none, false, false), (14, none, false, false), (15, none, false, false)]) := rfl
/-- Orders in raddle/agg.groups$1. -/
def ord136 : Ords
  | _ => none
@[go_sem] theorem ord136_0 : ord136 0 = none := rfl
@[go_sem] theorem ord136_1 : ord136 1 = none := rfl
/-- Orders in raddle/agg.add. -/
def ord138 : Ords
  | 2 => some (.lin [(0, none, false, false), (1, none, false, false), (2, none, false, false), (3, none, false, false), (4, none, true, false), (5, none, false, false), (6, none, false, false), (7, none, false, false), (8, none, false, false), (9, none, false, false), (10, none, false, false), (11, none, false, false)])
  | _ => none
@[go_sem] theorem ord138_0 : ord138 0 = none := rfl
@[go_sem] theorem ord138_1 : ord138 1 = none := rfl
@[go_sem] theorem ord138_2 : ord138 2 = some (.lin [(0, none, false, false), (1, none, false, false), (2, none, false, false), (3, none, false, false), (4, none, true, false), (5, none, false, false), (6, none, false, false), (7, none, false, false), (8, none, false, false), (9, none, false, false), (10, none, false, false), (11, none, false, false)]) := rfl
/-- Orders in slices.stableCmpFunc[raddle/api.Item]. -/
def ord139 : Ords
  | _ => none
@[go_sem] theorem ord139_0 : ord139 0 = none := rfl
@[go_sem] theorem ord139_1 : ord139 1 = none := rfl
@[go_sem] theorem ord139_2 : ord139 2 = none := rfl
@[go_sem] theorem ord139_3 : ord139 3 = none := rfl
@[go_sem] theorem ord139_4 : ord139 4 = none := rfl
@[go_sem] theorem ord139_5 : ord139 5 = none := rfl
@[go_sem] theorem ord139_6 : ord139 6 = none := rfl
@[go_sem] theorem ord139_7 : ord139 7 = none := rfl
@[go_sem] theorem ord139_8 : ord139 8 = none := rfl
@[go_sem] theorem ord139_9 : ord139 9 = none := rfl
@[go_sem] theorem ord139_10 : ord139 10 = none := rfl
@[go_sem] theorem ord139_11 : ord139 11 = none := rfl
@[go_sem] theorem ord139_12 : ord139 12 = none := rfl
@[go_sem] theorem ord139_13 : ord139 13 = none := rfl
@[go_sem] theorem ord139_14 : ord139 14 = none := rfl
@[go_sem] theorem ord139_15 : ord139 15 = none := rfl
@[go_sem] theorem ord139_16 : ord139 16 = none := rfl
/-- Orders in cmp.isNaN[int]. -/
def ord140 : Ords
  | _ => none
@[go_sem] theorem ord140_0 : ord140 0 = none := rfl
@[go_sem] theorem ord140_1 : ord140 1 = none := rfl
/-- Orders in cmp.isNaN[string]. -/
def ord141 : Ords
  | _ => none
@[go_sem] theorem ord141_0 : ord141 0 = none := rfl
@[go_sem] theorem ord141_1 : ord141 1 = none := rfl
/-- Orders in slices.IndexFunc[[]raddle/api.Value,raddle/api.Value]. -/
def ord142 : Ords
  | _ => none
@[go_sem] theorem ord142_0 : ord142 0 = none := rfl
@[go_sem] theorem ord142_1 : ord142 1 = none := rfl
@[go_sem] theorem ord142_2 : ord142 2 = none := rfl
@[go_sem] theorem ord142_3 : ord142 3 = none := rfl
@[go_sem] theorem ord142_4 : ord142 4 = none := rfl
@[go_sem] theorem ord142_5 : ord142 5 = none := rfl
@[go_sem] theorem ord142_6 : ord142 6 = none := rfl
@[go_sem] theorem ord142_7 : ord142 7 = none := rfl
/-- Orders in raddle/value.Check. -/
def ord143 : Ords
  | 4 => some (.lin [(0, none, false, false), (1, none, false, false), (2, none, false, false), (3, none, true, false), (4, none, false, false), (5, none, false, false), (6, none, false, false), (7, none, false, false), (8, none, false, false)])
  | 6 => some (.lin [(0, none, false, false), (1, none, false, false), (2, none, false, false), (3, none, true, false), (4, none, false, false), (5, none, false, false), (6, none, false, false), (7, none, false, false), (8, none, true, false), (9, none, false, false), (10, none, false, false), (11, none, false, false), (12, none, false, false), (13, none, false, false)])
  | 8 => some (.lin [(0, none, false, false), (1, none, false, false), (2, none, false, false), (3, none, true, false), (4, none, false, false), (5, none, false, false), (6, none, false, false), (7, none, false, false), (8, none, false, false)])
  | 10 => some (.lin [(0, none, false, false), (1, none, false, false), (2, none, false, false), (3, none, true, false), (4, none, false, false), (5, none, false, false), (6, none, false, false), (7, none, false, false), (8, none, false, false), (9, none, false, false)])
  | _ => none
@[go_sem] theorem ord143_0 : ord143 0 = none := rfl
@[go_sem] theorem ord143_1 : ord143 1 = none := rfl
@[go_sem] theorem ord143_2 : ord143 2 = none := rfl
@[go_sem] theorem ord143_3 : ord143 3 = none := rfl
@[go_sem] theorem ord143_4 : ord143 4 = some (.lin [(0, none, false, false), (1, none, false, false), (2, none, false, false), (3, none, true, false), (4, none, false, false), (5, none, false, false), (6, none, false, false), (7, none, false, false), (8, none, false, false)]) := rfl
@[go_sem] theorem ord143_5 : ord143 5 = none := rfl
@[go_sem] theorem ord143_6 : ord143 6 = some (.lin [(0, none, false, false), (1, none, false, false), (2, none, false, false), (3, none, true, false), (4, none, false, false), (5, none, false, false), (6, none, false, false), (7, none, false, false), (8, none, true, false), (9, none, false, false), (10, none, false, false), (11, none, false, false), (12, none, false, false), (13, none, false, false)]) := rfl
@[go_sem] theorem ord143_7 : ord143 7 = none := rfl
@[go_sem] theorem ord143_8 : ord143 8 = some (.lin [(0, none, false, false), (1, none, false, false), (2, none, false, false), (3, none, true, false), (4, none, false, false), (5, none, false, false), (6, none, false, false), (7, none, false, false), (8, none, false, false)]) := rfl
@[go_sem] theorem ord143_9 : ord143 9 = none := rfl
@[go_sem] theorem ord143_10 : ord143 10 = some (.lin [(0, none, false, false), (1, none, false, false), (2, none, false, false), (3, none, true, false), (4, none, false, false), (5, none, false, false), (6, none, false, false), (7, none, false, false), (8, none, false, false), (9, none, false, false)]) := rfl
@[go_sem] theorem ord143_11 : ord143 11 = none := rfl
@[go_sem] theorem ord143_12 : ord143 12 = none := rfl
@[go_sem] theorem ord143_13 : ord143 13 = none := rfl
/-- Orders in raddle/agg.times. -/
def ord146 : Ords
  | 2 => some (.lin [(0, none, false, false), (1, none, false, false), (2, none, false, false), (3, none, false, false), (4, none, false, false), (5, none, true, false), (6, none, false, false), (7, none, false, false), (8, none, false, false), (9, none, false, false), (10, none, false, false)])
  | _ => none
@[go_sem] theorem ord146_0 : ord146 0 = none := rfl
@[go_sem] theorem ord146_1 : ord146 1 = none := rfl
@[go_sem] theorem ord146_2 : ord146 2 = some (.lin [(0, none, false, false), (1, none, false, false), (2, none, false, false), (3, none, false, false), (4, none, false, false), (5, none, true, false), (6, none, false, false), (7, none, false, false), (8, none, false, false), (9, none, false, false), (10, none, false, false)]) := rfl
/-- Orders in raddle/agg.within. -/
def ord147 : Ords
  | 1 => some (.lin [(0, none, false, false), (1, none, false, false), (2, none, true, false), (3, none, false, false), (4, none, false, false), (5, none, false, false), (6, none, false, false)])
  | _ => none
@[go_sem] theorem ord147_0 : ord147 0 = none := rfl
@[go_sem] theorem ord147_1 : ord147 1 = some (.lin [(0, none, false, false), (1, none, false, false), (2, none, true, false), (3, none, false, false), (4, none, false, false), (5, none, false, false), (6, none, false, false)]) := rfl
/-- Orders in slices.insertionSortCmpFunc[raddle/api.Item]. -/
def ord148 : Ords
  | 4 => some (.lin [(0, some false, false, false), (1, some false, false, false), (2, some false, false, false), (3, some false, true, false), (4, some false, false, false), (5, some false, false, false), (6, some false, false, false), (7, some false, false, false), (8, some false, false, false), (9, some false, false, false), (10, some false, false, false), (11, some false, false, false), (12, some false, false, false), (13, some false, false, false), (14, none, false, false), (15, some false, false, false), (16, some false, false, false)])
  | 6 => some (.lin [(0, some false, false, false), (1, some false, false, false), (2, some false, false, false), (3, some false, false, false), (4, some false, false, false), (5, some false, false, false), (6, some false, false, false), (7, some false, false, false), (8, some false, false, false), (9, some false, false, false), (10, some false, false, false), (11, some false, false, false), (12, some false, false, false), (13, some false, false, false), (14, some false, false, false), (15, none, false, false), (16, some false, false, false), (17, none, false, false)])
  | _ => none
@[go_sem] theorem ord148_0 : ord148 0 = none := rfl
@[go_sem] theorem ord148_1 : ord148 1 = none := rfl
@[go_sem] theorem ord148_3 : ord148 3 = none := rfl
@[go_sem] theorem ord148_4 : ord148 4 = some (.lin [(0, some false, false, false), (1, some false, false, false), (2, some false, false, false), (3, some false, true, false), (4, some false, false, false), (5, some false, false, false), (6, some false, false, false), (7, some false, false, false), (8, some false, false, false), (9, some false, false, false), (10, some false, false, false), (11, some false, false, false), (12, some false, false, false), (13, some false, false, false), (14, none, false, false), (15, some false, false, false), (16, some false, false, false)]) := rfl
@[go_sem] theorem ord148_6 : ord148 6 = some (.lin [(0, some false, false, false), (1, some false, false, false), (2, some false, false, false), (3, some false, false, false), (4, some false, false, false), (5, some false, false, false), (6, some false, false, false), (7, some false, false, false), (8, some false, false, false), (9, some false, false, false), (10, some false, false, false), (11, some false, false, false), (12, some false, false, false), (13, some false, false, false), (14, some false, false, false), (15, none, false, false), (16, some false, false, false), (17, none, false, false)]) := rfl
@[go_sem] theorem ord148_5 : ord148 5 = none := rfl
@[go_sem] theorem ord148_2 : ord148 2 = none := rfl
/-- Orders in slices.symMergeCmpFunc[raddle/api.Item]. -/
def ord149 : Ords
  | 5 => some (.lin [(0, some false, false, false), (1, some false, false, false), (2, some false, false, false), (3, some false, false, false), (4, some false, false, false), (5, some false, false, false), (6, some false, false, false), (7, some false, false, false), (8, some false, false, false), (9, none, false, false), (10, some false, false, false)])
  | 11 => some (.lin [(0, some false, false, false), (1, some false, false, false), (2, some false, false, false), (3, some false, false, false), (4, some false, false, false), (5, some false, false, false), (6, some false, false, false), (7, some false, false, false), (8, some false, false, false), (9, some false, false, false), (10, some false, false, false), (11, some false, false, false), (12, some false, false, false), (13, some false, false, false), (14, some false, false, false), (15, none, false, false), (16, some false, false, false), (17, none, false, false)])
  | 17 => some (.lin [(0, some false, false, false), (1, some false, false, false), (2, some false, false, false), (3, some false, false, false), (4, some false, false, false), (5, some false, false, false), (6, some false, false, false), (7, some false, false, false), (8, some false, false, false), (9, none, false, false), (10, some false, false, false), (11, some false, false, false)])
  | 23 => some (.lin [(0, some false, false, false), (1, some false, false, false), (2, some false, false, false), (3, some false, false, false), (4, some false, false, false), (5, some false, false, false), (6, some false, false, false), (7, some false, false, false), (8, some false, false, false), (9, some false, false, false), (10, some false, false, false), (11, some false, false, false), (12, some false, false, false), (13, some false, false, false), (14, some false, false, false), (15, none, false, false), (16, some false, false, false), (17, none, false, false)])
  | 35 => some (.lin [(0, some false, false, false), (1, some false, false, false), (2, some false, false, false), (3, some false, false, false), (4, some false, false, false), (5, some false, false, false), (6, some false, false, false), (7, some false, false, false), (8, some false, false, false), (9, some false, false, false), (10, some false, false, false), (11, none, false, false), (12, some false, false, false), (13, some false, false, false)])
  | 39 => some (.lin [(0, none, false, false), (1, none, false, false), (2, none, false, false), (3, none, true, false), (4, none, false, false), (5, none, false, false), (6, none, false, false), (7, none, false, false)])
  | 41 => some (.lin [(0, none, false, false), (1, none, false, false), (2, none, false, false), (3, none, true, false), (4, none, false, false), (5, none, false, false), (6, none, false, false), (7, none, false, false)])
  | 43 => some (.lin [(0, none, false, false), (1, none, false, false), (2, none, false, false), (3, none, true, false), (4, none, false, false), (5, none, false, false), (6, none, false, false), (7, none, false, false)])
  | _ => none
@[go_sem] theorem ord149_0 : ord149 0 = none := rfl
@[go_sem] theorem ord149_1 : ord149 1 = none := rfl
@[go_sem] theorem ord149_2 : ord149 2 = none := rfl
@[go_sem] theorem ord149_3 : ord149 3 = none := rfl
@[go_sem] theorem ord149_4 : ord149 4 = none := rfl
@[go_sem] theorem ord149_5 : ord149 5 = some (.lin [(0, some false, false, false), (1, some false, false, false), (2, some false, false, false), (3, some false, false, false), (4, some false, false, false), (5, some false, false, false), (6, some false, false, false), (7, some false, false, false), (8, some false, false, false), (9, none, false, false), (10, some false, false, false)]) := rfl
@[go_sem] theorem ord149_6 : ord149 6 = none := rfl
@[go_sem] theorem ord149_7 : ord149 7 = none := rfl
@[go_sem] theorem ord149_8 : ord149 8 = none := rfl
@[go_sem] theorem ord149_9 : ord149 9 = none := rfl
@[go_sem] theorem ord149_11 : ord149 11 = some (.lin [(0, some false, false, false), (1, some false, false, false), (2, some false, false, false), (3, some false, false, false), (4, some false, false, false), (5, some false, false, false), (6, some false, false, false), (7, some false, false, false), (8, some false, false, false), (9, some false, false, false), (10, some false, false, false), (11, some false, false, false), (12, some false, false, false), (13, some false, false, false), (14, some false, false, false), (15, none, false, false), (16, some false, false, false), (17, none, false, false)]) := rfl
@[go_sem] theorem ord149_10 : ord149 10 = none := rfl
@[go_sem] theorem ord149_12 : ord149 12 = none := rfl
@[go_sem] theorem ord149_13 : ord149 13 = none := rfl
@[go_sem] theorem ord149_14 : ord149 14 = none := rfl
@[go_sem] theorem ord149_15 : ord149 15 = none := rfl
@[go_sem] theorem ord149_16 : ord149 16 = none := rfl
@[go_sem] theorem ord149_17 : ord149 17 = some (.lin [(0, some false, false, false), (1, some false, false, false), (2, some false, false, false), (3, some false, false, false), (4, some false, false, false), (5, some false, false, false), (6, some false, false, false), (7, some false, false, false), (8, some false, false, false), (9, none, false, false), (10, some false, false, false), (11, some false, false, false)]) := rfl
@[go_sem] theorem ord149_18 : ord149 18 = none := rfl
@[go_sem] theorem ord149_19 : ord149 19 = none := rfl
@[go_sem] theorem ord149_20 : ord149 20 = none := rfl
@[go_sem] theorem ord149_21 : ord149 21 = none := rfl
@[go_sem] theorem ord149_23 : ord149 23 = some (.lin [(0, some false, false, false), (1, some false, false, false), (2, some false, false, false), (3, some false, false, false), (4, some false, false, false), (5, some false, false, false), (6, some false, false, false), (7, some false, false, false), (8, some false, false, false), (9, some false, false, false), (10, some false, false, false), (11, some false, false, false), (12, some false, false, false), (13, some false, false, false), (14, some false, false, false), (15, none, false, false), (16, some false, false, false), (17, none, false, false)]) := rfl
@[go_sem] theorem ord149_22 : ord149 22 = none := rfl
@[go_sem] theorem ord149_24 : ord149 24 = none := rfl
@[go_sem] theorem ord149_25 : ord149 25 = none := rfl
@[go_sem] theorem ord149_26 : ord149 26 = none := rfl
@[go_sem] theorem ord149_27 : ord149 27 = none := rfl
@[go_sem] theorem ord149_28 : ord149 28 = none := rfl
@[go_sem] theorem ord149_29 : ord149 29 = none := rfl
@[go_sem] theorem ord149_30 : ord149 30 = none := rfl
@[go_sem] theorem ord149_31 : ord149 31 = none := rfl
@[go_sem] theorem ord149_32 : ord149 32 = none := rfl
@[go_sem] theorem ord149_33 : ord149 33 = none := rfl
@[go_sem] theorem ord149_34 : ord149 34 = none := rfl
@[go_sem] theorem ord149_35 : ord149 35 = some (.lin [(0, some false, false, false), (1, some false, false, false), (2, some false, false, false), (3, some false, false, false), (4, some false, false, false), (5, some false, false, false), (6, some false, false, false), (7, some false, false, false), (8, some false, false, false), (9, some false, false, false), (10, some false, false, false), (11, none, false, false), (12, some false, false, false), (13, some false, false, false)]) := rfl
@[go_sem] theorem ord149_36 : ord149 36 = none := rfl
@[go_sem] theorem ord149_37 : ord149 37 = none := rfl
@[go_sem] theorem ord149_38 : ord149 38 = none := rfl
theorem ord149_39 : ord149 39 = some (.lin [(0, none, false, false), (1, none, false, false), (2, none, false, false), (3, none, true, false), (4, none, false, false), (5, none, false, false), (6, none, false, false), (7, none, false, false)]) := rfl
@[go_sem] theorem ord149_40 : ord149 40 = none := rfl
theorem ord149_41 : ord149 41 = some (.lin [(0, none, false, false), (1, none, false, false), (2, none, false, false), (3, none, true, false), (4, none, false, false), (5, none, false, false), (6, none, false, false), (7, none, false, false)]) := rfl
@[go_sem] theorem ord149_42 : ord149 42 = none := rfl
theorem ord149_43 : ord149 43 = some (.lin [(0, none, false, false), (1, none, false, false), (2, none, false, false), (3, none, true, false), (4, none, false, false), (5, none, false, false), (6, none, false, false), (7, none, false, false)]) := rfl
@[go_sem] theorem ord149_44 : ord149 44 = none := rfl
/-- Orders in raddle/value.within. -/
def ord150 : Ords
  | 1 => some (.lin [(0, none, false, false), (1, none, false, false), (2, none, false, false), (3, none, false, false), (4, none, true, false), (5, none, false, false), (6, none, false, false), (7, none, false, false), (8, none, false, false), (9, none, false, false)])
  | _ => none
@[go_sem] theorem ord150_0 : ord150 0 = none := rfl
@[go_sem] theorem ord150_1 : ord150 1 = some (.lin [(0, none, false, false), (1, none, false, false), (2, none, false, false), (3, none, false, false), (4, none, true, false), (5, none, false, false), (6, none, false, false), (7, none, false, false), (8, none, false, false), (9, none, false, false)]) := rfl
/-- Orders in slices.rotateCmpFunc[raddle/api.Item]. -/
def ord152 : Ords
  | _ => none
@[go_sem] theorem ord152_0 : ord152 0 = none := rfl
@[go_sem] theorem ord152_1 : ord152 1 = none := rfl
@[go_sem] theorem ord152_2 : ord152 2 = none := rfl
@[go_sem] theorem ord152_3 : ord152 3 = none := rfl
@[go_sem] theorem ord152_4 : ord152 4 = none := rfl
@[go_sem] theorem ord152_5 : ord152 5 = none := rfl
@[go_sem] theorem ord152_6 : ord152 6 = none := rfl
@[go_sem] theorem ord152_7 : ord152 7 = none := rfl
@[go_sem] theorem ord152_8 : ord152 8 = none := rfl
/-- Orders in slices.swapRangeCmpFunc[raddle/api.Item]. -/
def ord154 : Ords
  | 3 => some (.lin [(0, some false, false, false), (1, some false, false, false), (2, some false, false, false), (3, some false, false, false), (4, some false, false, false), (5, some false, false, false), (6, some false, false, false), (7, some false, false, false), (8, some false, false, false), (9, some false, false, false), (10, some false, false, false), (11, some false, false, false), (12, some false, false, false), (13, some false, false, false), (14, some false, false, false), (15, some false, false, false), (16, some false, false, false), (17, some false, false, false), (18, some false, false, false), (19, some false, false, false), (20, some false, false, false), (21, none, false, false), (22, some false, false, false), (23, none, false, false)])
  | _ => none
@[go_sem] theorem ord154_0 : ord154 0 = none := rfl
@[go_sem] theorem ord154_1 : ord154 1 = none := rfl
@[go_sem] theorem ord154_3 : ord154 3 = some (.lin [(0, some false, false, false), (1, some false, false, false), (2, some false, false, false), (3, some false, false, false), (4, some false, false, false), (5, some false, false, false), (6, some false, false, false), (7, some false, false, false), (8, some false, false, false), (9, some false, false, false), (10, some false, false, false), (11, some false, false, false), (12, some false, false, false), (13, some false, false, false), (14, some false, false, false), (15, some false, false, false), (16, some false, false, false), (17, some false, false, false), (18, some false, false, false), (19, some false, false, false), (20, some false, false, false), (21, none, false, false), (22, some false, false, false), (23, none, false, false)]) := rfl
@[go_sem] theorem ord154_2 : ord154 2 = none := rfl
end Yt
