/- Orders. What is proved: contracts of the program's functions over abstract values, or plain facts on which these lean; the conditions stand in each theorem. -/
import Derived.Test.YtpipfaegkgakiaaYtTab
import Derived.Test.YtpipfaegkgakiaaVcP
set_option linter.all false
/-! Orders. -/
namespace Yt
open Go Go.Vc
/-- Orders in raddle/raddlelaw14.SetSorted. -/
def ord3 : Ords
  | 5 => some [(0, none, false, false), (1, none, false, false), (2, none, true, false), (3, none, false, false), (4, none, false, false), (5, none, false, false), (6, none, true, false), (7, none, false, false), (8, none, false, false), (9, none, false, false), (10, none, false, false), (11, none, true, false), (12, none, false, false), (13, none, false, false), (14, none, false, false)]
  | 10 => some [(0, some false, false, false), (1, some false, false, false), (2, some false, false, false), (3, some false, false, false), (4, some false, false, false), (5, some false, false, false), (6, some false, true, false), (7, some false, false, false), (8, some false, false, false), (9, some false, true, false), (10, some false, false, false), (11, some false, false, false), (12, some false, false, false), (13, some false, false, false), (14, some false, false, false), (15, some false, false, false), (16, some false, false, false), (17, some false, false, false), (18, some false, false, false), (19, some false, false, false), (20, some false, false, false), (21, none, false, false), (22, some false, false, false), (23, some false, false, false), (24, some false, false, false)]
  | 12 => some [(0, none, false, false), (1, none, true, false), (2, none, false, false), (3, none, false, false), (4, none, false, false), (5, none, false, false), (6, none, false, false), (7, none, false, false), (8, none, false, false), (9, none, false, false), (10, none, false, false)]
  | 13 => some [(0, none, false, false), (1, none, false, false), (2, none, false, false), (3, none, false, false), (4, none, false, false), (5, none, false, false), (6, none, true, false), (7, none, false, false), (8, none, false, false), (9, none, false, false), (10, none, false, false), (11, none, true, false), (12, none, false, false), (13, none, false, false), (14, none, false, false)]
  | _ => none
@[go_sem] theorem ord3_0 : ord3 0 = none := rfl
@[go_sem] theorem ord3_1 : ord3 1 = none := rfl
@[go_sem] theorem ord3_2 : ord3 2 = none := rfl
@[go_sem] theorem ord3_3 : ord3 3 = none := rfl
@[go_sem] theorem ord3_4 : ord3 4 = none := rfl
@[go_sem] theorem ord3_5 : ord3 5 = some [(0, none, false, false), (1, none, false, false), (2, none, true, false), (3, none, false, false), (4, none, false, false), (5, none, false, false), (6, none, true, false), (7, none, false, false), (8, none, false, false), (9, none, false, false), (10, none, false, false), (11, none, true, false), (12, none, false, false), (13, none, false, false), (14, none, false, false)] := rfl
@[go_sem] theorem ord3_6 : ord3 6 = none := rfl
@[go_sem] theorem ord3_7 : ord3 7 = none := rfl
@[go_sem] theorem ord3_8 : ord3 8 = none := rfl
@[go_sem] theorem ord3_10 : ord3 10 = some [(0, some false, false, false), (1, some false, false, false), (2, some false, false, false), (3, some false, false, false), (4, some false, false, false), (5, some false, false, false), (6, some false, true, false), (7, some false, false, false), (8, some false, false, false), (9, some false, true, false), (10, some false, false, false), (11, some false, false, false), (12, some false, false, false), (13, some false, false, false), (14, some false, false, false), (15, some false, false, false), (16, some false, false, false), (17, some false, false, false), (18, some false, false, false), (19, some false, false, false), (20, some false, false, false), (21, none, false, false), (22, some false, false, false), (23, some false, false, false), (24, some false, false, false)] := rfl
@[go_sem] theorem ord3_11 : ord3 11 = none := rfl
@[go_sem] theorem ord3_12 : ord3 12 = some [(0, none, false, false), (1, none, true, false), (2, none, false, false), (3, none, false, false), (4, none, false, false), (5, none, false, false), (6, none, false, false), (7, none, false, false), (8, none, false, false), (9, none, false, false), (10, none, false, false)] := rfl
@[go_sem] theorem ord3_9 : ord3 9 = none := rfl
@[go_sem] theorem ord3_13 : ord3 13 = some [(0, none, false, false), (1, none, false, false), (2, none, false, false), (3, none, false, false), (4, none, false, false), (5, none, false, false), (6, none, true, false), (7, none, false, false), (8, none, false, false), (9, none, false, false), (10, none, false, false), (11, none, true, false), (12, none, false, false), (13, none, false, false), (14, none, false, false)] := rfl
/-- Orders in raddle/raddlelaw14.SetMakes. -/
def ord4 : Ords
  | 1 => some [(0, none, false, false), (1, none, false, false), (2, none, false, false), (3, none, true, false), (4, none, false, false), (5, none, false, false), (6, none, false, false), (7, none, false, false)]
  | 5 => some [(0, none, false, false), (1, none, false, false), (2, none, false, false), (3, none, false, false), (4, none, true, false), (5, none, false, false), (6, none, false, false), (7, none, false, false)]
  | 8 => some [(0, some false, false, false), (1, some false, false, false), (2, some false, false, false), (3, some false, false, false), (4, some false, false, false), (5, some false, false, false), (6, some false, false, false), (7, some false, false, false), (8, some false, false, false), (9, some false, false, false), (10, some false, false, false), (11, some false, false, false), (12, some false, false, false), (13, none, false, false), (14, none, false, false), (15, some false, false, false)]
  | 16 => some [(0, none, false, false), (1, none, false, false), (2, none, true, false), (3, none, false, false), (4, none, false, false), (5, none, false, false), (6, none, true, false), (7, none, false, false), (8, none, false, false), (9, none, false, false), (10, none, true, false), (11, none, false, false), (12, none, false, false), (13, none, false, false), (14, none, false, false), (15, none, false, false), (16, none, true, false), (17, none, false, false), (18, none, false, false), (19, none, false, false), (20, none, false, false), (21, none, false, false), (22, none, true, false), (23, none, false, false), (24, none, false, false), (25, none, false, false), (26, none, false, false)]
  | 25 => some [(0, some false, false, false), (1, some false, false, false), (2, some false, false, false), (3, some false, false, false), (4, some false, false, false), (5, some false, false, false), (6, some false, false, false), (7, some false, false, false), (8, some false, false, false), (9, some false, false, false), (10, none, false, false)]
  | 32 => some [(0, none, false, false), (1, none, false, false), (2, none, false, false), (3, none, false, false), (4, none, false, false), (5, none, true, false), (6, none, false, false), (7, none, false, false), (8, none, false, false), (9, none, false, false), (10, none, false, false), (11, none, false, false), (12, none, false, false)]
  | 44 => some [(0, some false, false, false), (1, some false, false, false), (2, some false, false, false), (3, some false, false, false), (4, some false, false, false), (5, some false, false, false), (6, some false, false, false), (7, some false, false, false), (8, none, false, false)]
  | 48 => some [(0, none, false, false), (1, none, false, false), (2, none, false, false), (3, none, false, false), (4, none, false, false), (5, none, true, false), (6, none, false, false), (7, none, false, false), (8, none, false, false)]
  | _ => none
@[go_sem] theorem ord4_0 : ord4 0 = none := rfl
@[go_sem] theorem ord4_1 : ord4 1 = some [(0, none, false, false), (1, none, false, false), (2, none, false, false), (3, none, true, false), (4, none, false, false), (5, none, false, false), (6, none, false, false), (7, none, false, false)] := rfl
@[go_sem] theorem ord4_2 : ord4 2 = none := rfl
@[go_sem] theorem ord4_3 : ord4 3 = none := rfl
@[go_sem] theorem ord4_4 : ord4 4 = none := rfl
@[go_sem] theorem ord4_5 : ord4 5 = some [(0, none, false, false), (1, none, false, false), (2, none, false, false), (3, none, false, false), (4, none, true, false), (5, none, false, false), (6, none, false, false), (7, none, false, false)] := rfl
@[go_sem] theorem ord4_7 : ord4 7 = none := rfl
@[go_sem] theorem ord4_8 : ord4 8 = some [(0, some false, false, false), (1, some false, false, false), (2, some false, false, false), (3, some false, false, false), (4, some false, false, false), (5, some false, false, false), (6, some false, false, false), (7, some false, false, false), (8, some false, false, false), (9, some false, false, false), (10, some false, false, false), (11, some false, false, false), (12, some false, false, false), (13, none, false, false), (14, none, false, false), (15, some false, false, false)] := rfl
@[go_sem] theorem ord4_6 : ord4 6 = none := rfl
@[go_sem] theorem ord4_9 : ord4 9 = none := rfl
@[go_sem] theorem ord4_10 : ord4 10 = none := rfl
@[go_sem] theorem ord4_12 : ord4 12 = none := rfl
@[go_sem] theorem ord4_11 : ord4 11 = none := rfl
@[go_sem] theorem ord4_13 : ord4 13 = none := rfl
@[go_sem] theorem ord4_14 : ord4 14 = none := rfl
@[go_sem] theorem ord4_15 : ord4 15 = none := rfl
@[go_sem] theorem ord4_16 : ord4 16 = some [(0, none, false, false), (1, none, false, false), (2, none, true, false), (3, none, false, false), (4, none, false, false), (5, none, false, false), (6, none, true, false), (7, none, false, false), (8, none, false, false), (9, none, false, false), (10, none, true, false), (11, none, false, false), (12, none, false, false), (13, none, false, false), (14, none, false, false), (15, none, false, false), (16, none, true, false), (17, none, false, false), (18, none, false, false), (19, none, false, false), (20, none, false, false), (21, none, false, false), (22, none, true, false), (23, none, false, false), (24, none, false, false), (25, none, false, false), (26, none, false, false)] := rfl
@[go_sem] theorem ord4_17 : ord4 17 = none := rfl
@[go_sem] theorem ord4_18 : ord4 18 = none := rfl
@[go_sem] theorem ord4_19 : ord4 19 = none := rfl
@[go_sem] theorem ord4_21 : ord4 21 = none := rfl
@[go_sem] theorem ord4_22 : ord4 22 = none := rfl
@[go_sem] theorem ord4_23 : ord4 23 = none := rfl
@[go_sem] theorem ord4_25 : ord4 25 = some [(0, some false, false, false), (1, some false, false, false), (2, some false, false, false), (3, some false, false, false), (4, some false, false, false), (5, some false, false, false), (6, some false, false, false), (7, some false, false, false), (8, some false, false, false), (9, some false, false, false), (10, none, false, false)] := rfl
@[go_sem] theorem ord4_26 : ord4 26 = none := rfl
@[go_sem] theorem ord4_24 : ord4 24 = none := rfl
@[go_sem] theorem ord4_27 : ord4 27 = none := rfl
@[go_sem] theorem ord4_28 : ord4 28 = none := rfl
@[go_sem] theorem ord4_20 : ord4 20 = none := rfl
@[go_sem] theorem ord4_29 : ord4 29 = none := rfl
@[go_sem] theorem ord4_30 : ord4 30 = none := rfl
@[go_sem] theorem ord4_32 : ord4 32 = some [(0, none, false, false), (1, none, false, false), (2, none, false, false), (3, none, false, false), (4, none, false, false), (5, none, true, false), (6, none, false, false), (7, none, false, false), (8, none, false, false), (9, none, false, false), (10, none, false, false), (11, none, false, false), (12, none, false, false)] := rfl
@[go_sem] theorem ord4_33 : ord4 33 = none := rfl
@[go_sem] theorem ord4_31 : ord4 31 = none := rfl
@[go_sem] theorem ord4_34 : ord4 34 = none := rfl
@[go_sem] theorem ord4_35 : ord4 35 = none := rfl
@[go_sem] theorem ord4_36 : ord4 36 = none := rfl
@[go_sem] theorem ord4_37 : ord4 37 = none := rfl
@[go_sem] theorem ord4_38 : ord4 38 = none := rfl
@[go_sem] theorem ord4_40 : ord4 40 = none := rfl
@[go_sem] theorem ord4_41 : ord4 41 = none := rfl
@[go_sem] theorem ord4_42 : ord4 42 = none := rfl
@[go_sem] theorem ord4_44 : ord4 44 = some [(0, some false, false, false), (1, some false, false, false), (2, some false, false, false), (3, some false, false, false), (4, some false, false, false), (5, some false, false, false), (6, some false, false, false), (7, some false, false, false), (8, none, false, false)] := rfl
@[go_sem] theorem ord4_45 : ord4 45 = none := rfl
@[go_sem] theorem ord4_43 : ord4 43 = none := rfl
@[go_sem] theorem ord4_46 : ord4 46 = none := rfl
@[go_sem] theorem ord4_47 : ord4 47 = none := rfl
@[go_sem] theorem ord4_39 : ord4 39 = none := rfl
@[go_sem] theorem ord4_48 : ord4 48 = some [(0, none, false, false), (1, none, false, false), (2, none, false, false), (3, none, false, false), (4, none, false, false), (5, none, true, false), (6, none, false, false), (7, none, false, false), (8, none, false, false)] := rfl
/-- Orders in raddle/raddlelaw14.SetEnds. -/
def ord5 : Ords
  | 6 => some [(0, none, false, false), (1, none, false, false), (2, none, true, false), (3, none, false, false), (4, none, false, false), (5, none, false, false), (6, none, false, false), (7, none, true, false), (8, none, false, false), (9, none, false, false), (10, none, false, false), (11, none, false, false), (12, none, false, false), (13, none, false, false), (14, none, false, false), (15, none, true, false), (16, none, false, false), (17, none, false, false), (18, none, false, false), (19, none, false, false)]
  | 12 => some [(0, none, false, false), (1, none, false, false), (2, none, true, false), (3, none, false, false), (4, none, false, false), (5, none, false, false), (6, none, false, false)]
  | 15 => some [(0, none, false, false), (1, none, false, false), (2, none, true, false), (3, none, false, false), (4, none, false, false), (5, none, false, false), (6, none, false, false), (7, none, true, false), (8, none, false, false), (9, none, false, false), (10, none, false, false), (11, none, true, false), (12, none, false, false), (13, none, false, false), (14, none, false, false), (15, none, true, false), (16, none, false, false), (17, none, false, false), (18, none, false, false)]
  | 16 => some [(0, none, false, false), (1, none, false, false), (2, none, true, false), (3, none, false, false), (4, none, false, false), (5, none, false, false), (6, none, false, false), (7, none, true, false), (8, none, false, false), (9, none, false, false), (10, none, false, false), (11, none, true, false), (12, none, false, false), (13, none, false, false), (14, none, false, false), (15, none, true, false), (16, none, false, false), (17, none, false, false), (18, none, false, false)]
  | _ => none
@[go_sem] theorem ord5_0 : ord5 0 = none := rfl
@[go_sem] theorem ord5_1 : ord5 1 = none := rfl
@[go_sem] theorem ord5_2 : ord5 2 = none := rfl
@[go_sem] theorem ord5_3 : ord5 3 = none := rfl
@[go_sem] theorem ord5_4 : ord5 4 = none := rfl
@[go_sem] theorem ord5_5 : ord5 5 = none := rfl
@[go_sem] theorem ord5_6 : ord5 6 = some [(0, none, false, false), (1, none, false, false), (2, none, true, false), (3, none, false, false), (4, none, false, false), (5, none, false, false), (6, none, false, false), (7, none, true, false), (8, none, false, false), (9, none, false, false), (10, none, false, false), (11, none, false, false), (12, none, false, false), (13, none, false, false), (14, none, false, false), (15, none, true, false), (16, none, false, false), (17, none, false, false), (18, none, false, false), (19, none, false, false)] := rfl
@[go_sem] theorem ord5_7 : ord5 7 = none := rfl
@[go_sem] theorem ord5_8 : ord5 8 = none := rfl
@[go_sem] theorem ord5_9 : ord5 9 = none := rfl
@[go_sem] theorem ord5_10 : ord5 10 = none := rfl
@[go_sem] theorem ord5_11 : ord5 11 = none := rfl
@[go_sem] theorem ord5_12 : ord5 12 = some [(0, none, false, false), (1, none, false, false), (2, none, true, false), (3, none, false, false), (4, none, false, false), (5, none, false, false), (6, none, false, false)] := rfl
@[go_sem] theorem ord5_13 : ord5 13 = none := rfl
@[go_sem] theorem ord5_14 : ord5 14 = none := rfl
@[go_sem] theorem ord5_15 : ord5 15 = some [(0, none, false, false), (1, none, false, false), (2, none, true, false), (3, none, false, false), (4, none, false, false), (5, none, false, false), (6, none, false, false), (7, none, true, false), (8, none, false, false), (9, none, false, false), (10, none, false, false), (11, none, true, false), (12, none, false, false), (13, none, false, false), (14, none, false, false), (15, none, true, false), (16, none, false, false), (17, none, false, false), (18, none, false, false)] := rfl
@[go_sem] theorem ord5_16 : ord5 16 = some [(0, none, false, false), (1, none, false, false), (2, none, true, false), (3, none, false, false), (4, none, false, false), (5, none, false, false), (6, none, false, false), (7, none, true, false), (8, none, false, false), (9, none, false, false), (10, none, false, false), (11, none, true, false), (12, none, false, false), (13, none, false, false), (14, none, false, false), (15, none, true, false), (16, none, false, false), (17, none, false, false), (18, none, false, false)] := rfl
/-- Orders in raddle/raddlelaw14.SetMany. -/
def ord6 : Ords
  | 14 => some [(0, none, false, false), (1, none, false, false), (2, none, false, false), (3, none, true, false), (4, none, false, false), (5, none, false, false), (6, none, false, false)]
  | 20 => some [(0, some false, false, false), (1, some false, false, false), (2, some false, false, false), (3, some false, false, false), (4, some false, false, false), (5, some false, false, false), (6, some false, false, false), (7, some false, false, false), (8, some false, false, false), (9, some false, false, false), (10, some false, false, false), (11, some false, false, false), (12, some false, false, false), (13, some false, true, false), (14, some false, false, false), (15, some false, false, false), (16, some false, false, false), (17, some false, false, false), (18, some false, false, false), (19, some false, false, false), (20, some false, false, false), (21, some false, false, false), (22, some false, false, false), (23, some false, false, false), (24, none, false, false), (25, some false, false, false), (26, some false, false, false)]
  | 22 => some [(0, none, false, false), (1, none, false, false), (2, none, false, false), (3, none, false, false), (4, none, false, false), (5, none, false, false), (6, none, false, false), (7, none, true, false), (8, none, false, false), (9, none, false, false), (10, none, false, false)]
  | _ => none
@[go_sem] theorem ord6_0 : ord6 0 = none := rfl
@[go_sem] theorem ord6_1 : ord6 1 = none := rfl
@[go_sem] theorem ord6_2 : ord6 2 = none := rfl
@[go_sem] theorem ord6_3 : ord6 3 = none := rfl
@[go_sem] theorem ord6_4 : ord6 4 = none := rfl
@[go_sem] theorem ord6_5 : ord6 5 = none := rfl
@[go_sem] theorem ord6_6 : ord6 6 = none := rfl
@[go_sem] theorem ord6_7 : ord6 7 = none := rfl
@[go_sem] theorem ord6_9 : ord6 9 = none := rfl
@[go_sem] theorem ord6_10 : ord6 10 = none := rfl
@[go_sem] theorem ord6_11 : ord6 11 = none := rfl
@[go_sem] theorem ord6_12 : ord6 12 = none := rfl
@[go_sem] theorem ord6_8 : ord6 8 = none := rfl
@[go_sem] theorem ord6_13 : ord6 13 = none := rfl
@[go_sem] theorem ord6_14 : ord6 14 = some [(0, none, false, false), (1, none, false, false), (2, none, false, false), (3, none, true, false), (4, none, false, false), (5, none, false, false), (6, none, false, false)] := rfl
@[go_sem] theorem ord6_15 : ord6 15 = none := rfl
@[go_sem] theorem ord6_16 : ord6 16 = none := rfl
@[go_sem] theorem ord6_17 : ord6 17 = none := rfl
@[go_sem] theorem ord6_18 : ord6 18 = none := rfl
@[go_sem] theorem ord6_20 : ord6 20 = some [(0, some false, false, false), (1, some false, false, false), (2, some false, false, false), (3, some false, false, false), (4, some false, false, false), (5, some false, false, false), (6, some false, false, false), (7, some false, false, false), (8, some false, false, false), (9, some false, false, false), (10, some false, false, false), (11, some false, false, false), (12, some false, false, false), (13, some false, true, false), (14, some false, false, false), (15, some false, false, false), (16, some false, false, false), (17, some false, false, false), (18, some false, false, false), (19, some false, false, false), (20, some false, false, false), (21, some false, false, false), (22, some false, false, false), (23, some false, false, false), (24, none, false, false), (25, some false, false, false), (26, some false, false, false)] := rfl
@[go_sem] theorem ord6_21 : ord6 21 = none := rfl
@[go_sem] theorem ord6_19 : ord6 19 = none := rfl
@[go_sem] theorem ord6_22 : ord6 22 = some [(0, none, false, false), (1, none, false, false), (2, none, false, false), (3, none, false, false), (4, none, false, false), (5, none, false, false), (6, none, false, false), (7, none, true, false), (8, none, false, false), (9, none, false, false), (10, none, false, false)] := rfl
/-- Orders in raddle/raddlelaw14.SetExact. -/
def ord7 : Ords
  | 1 => some [(0, none, false, false), (1, none, false, false), (2, none, false, false), (3, none, false, false), (4, none, true, false), (5, none, false, false), (6, none, false, false), (7, none, false, false)]
  | 6 => some [(0, none, false, false), (1, none, false, false), (2, none, false, false), (3, none, true, false), (4, none, false, false), (5, none, false, false), (6, none, false, false), (7, none, false, false), (8, none, false, false), (9, none, true, false), (10, none, false, false), (11, none, false, false), (12, none, false, false), (13, none, false, false), (14, none, false, false), (15, none, false, false), (16, none, false, false), (17, none, false, false), (18, none, true, false), (19, none, false, false), (20, none, false, false), (21, none, false, false), (22, none, false, false), (23, none, false, false), (24, none, false, false)]
  | 12 => some [(0, none, false, false), (1, none, false, false), (2, none, false, false), (3, none, false, false), (4, none, false, false), (5, none, true, false), (6, none, false, false), (7, none, false, false), (8, none, true, false), (9, none, false, false), (10, none, false, false), (11, none, false, false), (12, none, false, false), (13, none, false, false)]
  | 14 => some [(0, none, false, false), (1, none, false, false), (2, none, true, false), (3, none, false, false), (4, none, false, false), (5, none, false, false)]
  | 15 => some [(0, none, false, false), (1, none, false, false), (2, none, true, false), (3, none, false, false), (4, none, false, false), (5, none, false, false), (6, none, false, false)]
  | 18 => some [(0, none, false, false), (1, none, false, false), (2, none, false, false), (3, none, true, false), (4, none, false, false), (5, none, false, false), (6, none, false, false), (7, none, false, false), (8, none, false, false)]
  | 21 => some [(0, none, false, false), (1, none, false, false), (2, none, true, false), (3, none, false, false), (4, none, false, false), (5, none, false, false), (6, none, false, false)]
  | 23 => some [(0, none, false, false), (1, none, false, false), (2, none, true, false), (3, none, false, false), (4, none, false, false), (5, none, false, false), (6, none, false, false), (7, none, false, false), (8, none, false, false)]
  | 27 => some [(0, none, false, false), (1, none, false, false), (2, none, false, false), (3, none, true, false), (4, none, false, false), (5, none, false, false), (6, none, false, false), (7, none, false, false), (8, none, true, false), (9, none, false, false), (10, none, false, false), (11, none, false, false)]
  | _ => none
@[go_sem] theorem ord7_0 : ord7 0 = none := rfl
@[go_sem] theorem ord7_1 : ord7 1 = some [(0, none, false, false), (1, none, false, false), (2, none, false, false), (3, none, false, false), (4, none, true, false), (5, none, false, false), (6, none, false, false), (7, none, false, false)] := rfl
@[go_sem] theorem ord7_2 : ord7 2 = none := rfl
@[go_sem] theorem ord7_3 : ord7 3 = none := rfl
@[go_sem] theorem ord7_4 : ord7 4 = none := rfl
@[go_sem] theorem ord7_5 : ord7 5 = none := rfl
@[go_sem] theorem ord7_6 : ord7 6 = some [(0, none, false, false), (1, none, false, false), (2, none, false, false), (3, none, true, false), (4, none, false, false), (5, none, false, false), (6, none, false, false), (7, none, false, false), (8, none, false, false), (9, none, true, false), (10, none, false, false), (11, none, false, false), (12, none, false, false), (13, none, false, false), (14, none, false, false), (15, none, false, false), (16, none, false, false), (17, none, false, false), (18, none, true, false), (19, none, false, false), (20, none, false, false), (21, none, false, false), (22, none, false, false), (23, none, false, false), (24, none, false, false)] := rfl
@[go_sem] theorem ord7_7 : ord7 7 = none := rfl
@[go_sem] theorem ord7_8 : ord7 8 = none := rfl
@[go_sem] theorem ord7_9 : ord7 9 = none := rfl
@[go_sem] theorem ord7_10 : ord7 10 = none := rfl
@[go_sem] theorem ord7_11 : ord7 11 = none := rfl
@[go_sem] theorem ord7_12 : ord7 12 = some [(0, none, false, false), (1, none, false, false), (2, none, false, false), (3, none, false, false), (4, none, false, false), (5, none, true, false), (6, none, false, false), (7, none, false, false), (8, none, true, false), (9, none, false, false), (10, none, false, false), (11, none, false, false), (12, none, false, false), (13, none, false, false)] := rfl
@[go_sem] theorem ord7_13 : ord7 13 = none := rfl
@[go_sem] theorem ord7_14 : ord7 14 = some [(0, none, false, false), (1, none, false, false), (2, none, true, false), (3, none, false, false), (4, none, false, false), (5, none, false, false)] := rfl
@[go_sem] theorem ord7_15 : ord7 15 = some [(0, none, false, false), (1, none, false, false), (2, none, true, false), (3, none, false, false), (4, none, false, false), (5, none, false, false), (6, none, false, false)] := rfl
@[go_sem] theorem ord7_16 : ord7 16 = none := rfl
@[go_sem] theorem ord7_17 : ord7 17 = none := rfl
@[go_sem] theorem ord7_18 : ord7 18 = some [(0, none, false, false), (1, none, false, false), (2, none, false, false), (3, none, true, false), (4, none, false, false), (5, none, false, false), (6, none, false, false), (7, none, false, false), (8, none, false, false)] := rfl
@[go_sem] theorem ord7_19 : ord7 19 = none := rfl
@[go_sem] theorem ord7_20 : ord7 20 = none := rfl
@[go_sem] theorem ord7_21 : ord7 21 = some [(0, none, false, false), (1, none, false, false), (2, none, true, false), (3, none, false, false), (4, none, false, false), (5, none, false, false), (6, none, false, false)] := rfl
@[go_sem] theorem ord7_22 : ord7 22 = none := rfl
@[go_sem] theorem ord7_23 : ord7 23 = some [(0, none, false, false), (1, none, false, false), (2, none, true, false), (3, none, false, false), (4, none, false, false), (5, none, false, false), (6, none, false, false), (7, none, false, false), (8, none, false, false)] := rfl
@[go_sem] theorem ord7_24 : ord7 24 = none := rfl
@[go_sem] theorem ord7_25 : ord7 25 = none := rfl
@[go_sem] theorem ord7_26 : ord7 26 = none := rfl
@[go_sem] theorem ord7_27 : ord7 27 = some [(0, none, false, false), (1, none, false, false), (2, none, false, false), (3, none, true, false), (4, none, false, false), (5, none, false, false), (6, none, false, false), (7, none, false, false), (8, none, true, false), (9, none, false, false), (10, none, false, false), (11, none, false, false)] := rfl
/-- Orders in raddle/raddlelaw14.SetGroup. -/
def ord8 : Ords
  | 9 => some [(0, none, false, false), (1, none, false, false), (2, none, true, false), (3, none, false, false), (4, none, false, false), (5, none, false, false), (6, none, true, false), (7, none, false, false), (8, none, false, false), (9, none, false, false), (10, none, true, false), (11, none, false, false), (12, none, false, false), (13, none, false, false), (14, none, true, false), (15, none, false, false), (16, none, false, false), (17, none, false, false), (18, none, true, false), (19, none, false, false), (20, none, false, false), (21, none, false, false), (22, none, false, false), (23, none, false, false), (24, none, true, false), (25, none, false, false), (26, none, false, false), (27, none, false, false), (28, none, false, false), (29, none, true, false), (30, none, false, false), (31, none, false, false), (32, none, false, false), (33, none, false, false), (34, none, false, false), (35, none, true, false), (36, none, false, false), (37, none, false, false), (38, none, false, false), (39, none, false, false)]
  | 14 => some [(0, none, false, false), (1, none, false, false), (2, none, true, false), (3, none, false, false), (4, none, false, false), (5, none, false, false), (6, none, true, false), (7, none, false, false), (8, none, false, false), (9, none, false, false), (10, none, true, false), (11, none, false, false), (12, none, false, false), (13, none, false, false), (14, none, false, false), (15, none, false, false)]
  | 19 => some [(0, some false, false, false), (1, some false, false, false), (2, some false, false, false), (3, some false, false, false), (4, some false, false, false), (5, some false, false, false), (7, some false, false, false), (8, some false, false, false), (9, some false, false, false), (10, some false, false, false), (11, some false, false, false), (12, some false, false, false), (13, some false, false, false), (14, some false, false, false), (15, some false, false, false), (16, some false, false, false), (17, some false, false, false), (6, none, false, true), (18, none, false, true), (19, some false, false, false), (20, some false, false, false), (21, some false, true, false), (22, some false, false, false), (23, some false, false, false), (24, some false, false, false), (25, some false, false, false), (26, some false, false, false), (27, some false, false, false), (29, some false, false, false), (30, some false, false, false), (31, some false, false, false), (32, some false, false, false), (33, some false, false, false), (34, some false, false, false), (28, none, false, true), (35, some false, false, false), (36, some false, false, false)]
  | 21 => some [(0, none, false, false), (1, none, false, false), (2, none, false, false), (3, none, false, false), (4, none, false, false), (5, none, false, false), (6, none, false, false), (7, none, false, false), (8, none, true, false), (9, none, false, false), (10, none, false, false), (11, none, false, false), (12, none, false, false), (13, none, false, false), (14, none, false, false), (15, none, true, false), (16, none, false, false), (17, none, false, false), (18, none, false, false)]
  | _ => none
@[go_sem] theorem ord8_0 : ord8 0 = none := rfl
@[go_sem] theorem ord8_1 : ord8 1 = none := rfl
@[go_sem] theorem ord8_2 : ord8 2 = none := rfl
@[go_sem] theorem ord8_3 : ord8 3 = none := rfl
@[go_sem] theorem ord8_4 : ord8 4 = none := rfl
@[go_sem] theorem ord8_5 : ord8 5 = none := rfl
@[go_sem] theorem ord8_6 : ord8 6 = none := rfl
@[go_sem] theorem ord8_7 : ord8 7 = none := rfl
@[go_sem] theorem ord8_8 : ord8 8 = none := rfl
@[go_sem] theorem ord8_9 : ord8 9 = some [(0, none, false, false), (1, none, false, false), (2, none, true, false), (3, none, false, false), (4, none, false, false), (5, none, false, false), (6, none, true, false), (7, none, false, false), (8, none, false, false), (9, none, false, false), (10, none, true, false), (11, none, false, false), (12, none, false, false), (13, none, false, false), (14, none, true, false), (15, none, false, false), (16, none, false, false), (17, none, false, false), (18, none, true, false), (19, none, false, false), (20, none, false, false), (21, none, false, false), (22, none, false, false), (23, none, false, false), (24, none, true, false), (25, none, false, false), (26, none, false, false), (27, none, false, false), (28, none, false, false), (29, none, true, false), (30, none, false, false), (31, none, false, false), (32, none, false, false), (33, none, false, false), (34, none, false, false), (35, none, true, false), (36, none, false, false), (37, none, false, false), (38, none, false, false), (39, none, false, false)] := rfl
@[go_sem] theorem ord8_10 : ord8 10 = none := rfl
@[go_sem] theorem ord8_11 : ord8 11 = none := rfl
@[go_sem] theorem ord8_12 : ord8 12 = none := rfl
@[go_sem] theorem ord8_13 : ord8 13 = none := rfl
@[go_sem] theorem ord8_14 : ord8 14 = some [(0, none, false, false), (1, none, false, false), (2, none, true, false), (3, none, false, false), (4, none, false, false), (5, none, false, false), (6, none, true, false), (7, none, false, false), (8, none, false, false), (9, none, false, false), (10, none, true, false), (11, none, false, false), (12, none, false, false), (13, none, false, false), (14, none, false, false), (15, none, false, false)] := rfl
@[go_sem] theorem ord8_15 : ord8 15 = none := rfl
@[go_sem] theorem ord8_16 : ord8 16 = none := rfl
@[go_sem] theorem ord8_17 : ord8 17 = none := rfl
@[go_sem] theorem ord8_19 : ord8 19 = some [(0, some false, false, false), (1, some false, false, false), (2, some false, false, false), (3, some false, false, false), (4, some false, false, false), (5, some false, false, false), (7, some false, false, false), (8, some false, false, false), (9, some false, false, false), (10, some false, false, false), (11, some false, false, false), (12, some false, false, false), (13, some false, false, false), (14, some false, false, false), (15, some false, false, false), (16, some false, false, false), (17, some false, false, false), (6, none, false, true), (18, none, false, true), (19, some false, false, false), (20, some false, false, false), (21, some false, true, false), (22, some false, false, false), (23, some false, false, false), (24, some false, false, false), (25, some false, false, false), (26, some false, false, false), (27, some false, false, false), (29, some false, false, false), (30, some false, false, false), (31, some false, false, false), (32, some false, false, false), (33, some false, false, false), (34, some false, false, false), (28, none, false, true), (35, some false, false, false), (36, some false, false, false)] := rfl
@[go_sem] theorem ord8_20 : ord8 20 = none := rfl
@[go_sem] theorem ord8_18 : ord8 18 = none := rfl
@[go_sem] theorem ord8_21 : ord8 21 = some [(0, none, false, false), (1, none, false, false), (2, none, false, false), (3, none, false, false), (4, none, false, false), (5, none, false, false), (6, none, false, false), (7, none, false, false), (8, none, true, false), (9, none, false, false), (10, none, false, false), (11, none, false, false), (12, none, false, false), (13, none, false, false), (14, none, false, false), (15, none, true, false), (16, none, false, false), (17, none, false, false), (18, none, false, false)] := rfl
/-- Orders in raddle/raddlelaw14.SetBent. -/
def ord9 : Ords
  | 4 => some [(0, none, false, false), (1, none, false, false), (2, none, false, false), (3, none, true, false), (4, none, false, false), (5, none, false, false), (6, none, false, false), (7, none, false, false)]
  | 5 => some [(0, none, false, false), (1, none, false, false), (2, none, false, false), (3, none, true, false), (4, none, false, false), (5, none, false, false), (6, none, false, false)]
  | 10 => some [(0, some false, false, false), (1, some false, false, false), (2, some false, false, false), (3, some false, false, false), (4, some false, false, false), (5, some false, false, false), (6, some false, false, false), (7, some false, false, false), (8, some false, false, false), (9, some false, false, false), (10, some false, false, false), (11, some false, false, false), (12, some false, false, false), (13, some false, false, false), (14, some false, false, false), (15, none, false, false), (16, some false, false, false), (17, none, false, false)]
  | 17 => some [(0, none, false, false), (1, none, false, false), (2, none, false, false), (3, none, true, false), (4, none, false, false), (5, none, false, false), (6, none, false, false), (7, none, true, false), (8, none, false, false), (9, none, false, false), (10, none, false, false), (11, none, true, false), (12, none, false, false), (13, none, false, false), (14, none, false, false), (15, none, false, false), (16, none, false, false), (17, none, false, false), (18, none, false, false), (19, none, true, false), (20, none, false, false), (21, none, false, false), (22, none, false, false), (23, none, false, false), (24, none, true, false), (25, none, false, false), (26, none, false, false), (27, none, false, false)]
  | _ => none
@[go_sem] theorem ord9_0 : ord9 0 = none := rfl
@[go_sem] theorem ord9_1 : ord9 1 = none := rfl
@[go_sem] theorem ord9_2 : ord9 2 = none := rfl
@[go_sem] theorem ord9_3 : ord9 3 = none := rfl
@[go_sem] theorem ord9_4 : ord9 4 = some [(0, none, false, false), (1, none, false, false), (2, none, false, false), (3, none, true, false), (4, none, false, false), (5, none, false, false), (6, none, false, false), (7, none, false, false)] := rfl
@[go_sem] theorem ord9_5 : ord9 5 = some [(0, none, false, false), (1, none, false, false), (2, none, false, false), (3, none, true, false), (4, none, false, false), (5, none, false, false), (6, none, false, false)] := rfl
@[go_sem] theorem ord9_6 : ord9 6 = none := rfl
@[go_sem] theorem ord9_7 : ord9 7 = none := rfl
@[go_sem] theorem ord9_9 : ord9 9 = none := rfl
@[go_sem] theorem ord9_10 : ord9 10 = some [(0, some false, false, false), (1, some false, false, false), (2, some false, false, false), (3, some false, false, false), (4, some false, false, false), (5, some false, false, false), (6, some false, false, false), (7, some false, false, false), (8, some false, false, false), (9, some false, false, false), (10, some false, false, false), (11, some false, false, false), (12, some false, false, false), (13, some false, false, false), (14, some false, false, false), (15, none, false, false), (16, some false, false, false), (17, none, false, false)] := rfl
@[go_sem] theorem ord9_11 : ord9 11 = none := rfl
@[go_sem] theorem ord9_12 : ord9 12 = none := rfl
@[go_sem] theorem ord9_13 : ord9 13 = none := rfl
@[go_sem] theorem ord9_14 : ord9 14 = none := rfl
@[go_sem] theorem ord9_8 : ord9 8 = none := rfl
@[go_sem] theorem ord9_15 : ord9 15 = none := rfl
@[go_sem] theorem ord9_16 : ord9 16 = none := rfl
@[go_sem] theorem ord9_17 : ord9 17 = some [(0, none, false, false), (1, none, false, false), (2, none, false, false), (3, none, true, false), (4, none, false, false), (5, none, false, false), (6, none, false, false), (7, none, true, false), (8, none, false, false), (9, none, false, false), (10, none, false, false), (11, none, true, false), (12, none, false, false), (13, none, false, false), (14, none, false, false), (15, none, false, false), (16, none, false, false), (17, none, false, false), (18, none, false, false), (19, none, true, false), (20, none, false, false), (21, none, false, false), (22, none, false, false), (23, none, false, false), (24, none, true, false), (25, none, false, false), (26, none, false, false), (27, none, false, false)] := rfl
/-- Orders in raddle/raddlelaw14.Heavy. -/
def ord10 : Ords
  | _ => none
@[go_sem] theorem ord10_0 : ord10 0 = none := rfl
@[go_sem] theorem ord10_1 : ord10 1 = none := rfl
@[go_sem] theorem ord10_2 : ord10 2 = none := rfl
@[go_sem] theorem ord10_4 : ord10 4 = none := rfl
@[go_sem] theorem ord10_5 : ord10 5 = none := rfl
@[go_sem] theorem ord10_6 : ord10 6 = none := rfl
@[go_sem] theorem ord10_7 : ord10 7 = none := rfl
@[go_sem] theorem ord10_9 : ord10 9 = none := rfl
@[go_sem] theorem ord10_10 : ord10 10 = none := rfl
@[go_sem] theorem ord10_8 : ord10 8 = none := rfl
@[go_sem] theorem ord10_3 : ord10 3 = none := rfl
@[go_sem] theorem ord10_11 : ord10 11 = none := rfl
/-- Orders in raddle/zset.Make. -/
def ord11 : Ords
  | 8 => some [(0, some false, false, false), (1, some false, false, false), (2, some false, false, false), (3, some false, false, false), (4, some false, true, false), (5, some false, false, false), (6, some false, false, false), (7, some false, false, false), (8, some false, false, false), (9, some false, false, false), (10, some false, false, false), (11, some false, false, false), (12, some false, false, false), (13, some false, false, false), (14, none, false, false), (15, some false, false, false), (16, some false, false, false)]
  | _ => none
@[go_sem] theorem ord11_0 : ord11 0 = none := rfl
@[go_sem] theorem ord11_1 : ord11 1 = none := rfl
@[go_sem] theorem ord11_2 : ord11 2 = none := rfl
@[go_sem] theorem ord11_3 : ord11 3 = none := rfl
@[go_sem] theorem ord11_4 : ord11 4 = none := rfl
@[go_sem] theorem ord11_5 : ord11 5 = none := rfl
@[go_sem] theorem ord11_6 : ord11 6 = none := rfl
@[go_sem] theorem ord11_7 : ord11 7 = none := rfl
@[go_sem] theorem ord11_8 : ord11 8 = some [(0, some false, false, false), (1, some false, false, false), (2, some false, false, false), (3, some false, false, false), (4, some false, true, false), (5, some false, false, false), (6, some false, false, false), (7, some false, false, false), (8, some false, false, false), (9, some false, false, false), (10, some false, false, false), (11, some false, false, false), (12, some false, false, false), (13, some false, false, false), (14, none, false, false), (15, some false, false, false), (16, some false, false, false)] := rfl
@[go_sem] theorem ord11_9 : ord11 9 = none := rfl
@[go_sem] theorem ord11_10 : ord11 10 = none := rfl
@[go_sem] theorem ord11_11 : ord11 11 = none := rfl
@[go_sem] theorem ord11_12 : ord11 12 = none := rfl
@[go_sem] theorem ord11_13 : ord11 13 = none := rfl
@[go_sem] theorem ord11_14 : ord11 14 = none := rfl
@[go_sem] theorem ord11_15 : ord11 15 = none := rfl
@[go_sem] theorem ord11_16 : ord11 16 = none := rfl
@[go_sem] theorem ord11_17 : ord11 17 = none := rfl
/-- Orders in raddle/raddlelaw14.wakes. -/
def ord12 : Ords
  | 2 => some [(0, none, false, false), (1, none, false, false), (2, none, true, false), (3, none, false, false), (4, none, false, false), (5, none, false, false), (6, none, false, false), (7, none, true, false), (8, none, false, false), (9, none, false, false), (10, none, false, false), (11, none, false, false), (12, none, false, false), (13, none, false, false), (14, none, true, false), (15, none, false, false), (16, none, false, false), (17, none, false, false), (18, none, false, false), (19, none, false, false), (20, none, false, false), (21, none, true, false), (22, none, false, false), (23, none, false, false), (24, none, false, false), (25, none, false, false), (26, none, false, false), (27, none, true, false), (28, none, false, false), (29, none, false, false), (30, none, false, false), (31, none, false, false), (32, none, false, false)]
  | _ => none
@[go_sem] theorem ord12_0 : ord12 0 = none := rfl
@[go_sem] theorem ord12_1 : ord12 1 = none := rfl
@[go_sem] theorem ord12_2 : ord12 2 = some [(0, none, false, false), (1, none, false, false), (2, none, true, false), (3, none, false, false), (4, none, false, false), (5, none, false, false), (6, none, false, false), (7, none, true, false), (8, none, false, false), (9, none, false, false), (10, none, false, false), (11, none, false, false), (12, none, false, false), (13, none, false, false), (14, none, true, false), (15, none, false, false), (16, none, false, false), (17, none, false, false), (18, none, false, false), (19, none, false, false), (20, none, false, false), (21, none, true, false), (22, none, false, false), (23, none, false, false), (24, none, false, false), (25, none, false, false), (26, none, false, false), (27, none, true, false), (28, none, false, false), (29, none, false, false), (30, none, false, false), (31, none, false, false), (32, none, false, false)] := rfl
/-- Orders in raddle/row.Compare. -/
def ord13 : Ords
  | _ => none
@[go_sem] theorem ord13_0 : ord13 0 = none := rfl
@[go_sem] theorem ord13_1 : ord13 1 = none := rfl
/-- Orders in raddle/raddlekeep.Row. -/
def ord14 : Ords
  | 6 => some [(0, some false, false, false), (1, some false, false, false), (2, some false, false, false), (3, some false, false, false), (4, some false, false, false), (5, some false, false, false), (6, some false, false, false), (7, some false, false, false), (8, none, false, false), (9, some false, false, false)]
  | _ => none
@[go_sem] theorem ord14_0 : ord14 0 = none := rfl
@[go_sem] theorem ord14_1 : ord14 1 = none := rfl
@[go_sem] theorem ord14_2 : ord14 2 = none := rfl
@[go_sem] theorem ord14_3 : ord14 3 = none := rfl
@[go_sem] theorem ord14_4 : ord14 4 = none := rfl
@[go_sem] theorem ord14_6 : ord14 6 = some [(0, some false, false, false), (1, some false, false, false), (2, some false, false, false), (3, some false, false, false), (4, some false, false, false), (5, some false, false, false), (6, some false, false, false), (7, some false, false, false), (8, none, false, false), (9, some false, false, false)] := rfl
@[go_sem] theorem ord14_7 : ord14 7 = none := rfl
@[go_sem] theorem ord14_5 : ord14 5 = none := rfl
@[go_sem] theorem ord14_8 : ord14 8 = none := rfl
/-- Orders in raddle/zset.Weight. -/
def ord15 : Ords
  | _ => none
@[go_sem] theorem ord15_0 : ord15 0 = none := rfl
@[go_sem] theorem ord15_1 : ord15 1 = none := rfl
@[go_sem] theorem ord15_2 : ord15 2 = none := rfl
@[go_sem] theorem ord15_3 : ord15 3 = none := rfl
@[go_sem] theorem ord15_4 : ord15 4 = none := rfl
/-- Orders in raddle/zset.Check. -/
def ord16 : Ords
  | 4 => some [(0, some false, false, false), (1, some false, false, false), (2, none, false, false), (3, some false, false, false), (4, some false, true, false), (5, some false, false, false), (6, some false, false, false), (7, some false, false, false), (8, some false, false, false), (9, some false, true, false), (10, some false, false, false), (11, some false, false, false), (12, none, false, false), (13, some false, false, false), (14, some false, false, false), (15, some false, true, false), (16, some false, false, false), (17, some false, false, false), (18, some false, true, false), (19, some false, false, false), (20, some false, false, false), (21, some false, false, false), (22, some false, false, false), (23, some false, false, false), (24, some false, false, false), (25, some false, false, false), (26, some false, false, false), (27, none, false, false), (28, some false, false, false), (29, some false, false, false), (30, some false, false, false)]
  | _ => none
@[go_sem] theorem ord16_0 : ord16 0 = none := rfl
@[go_sem] theorem ord16_1 : ord16 1 = none := rfl
@[go_sem] theorem ord16_2 : ord16 2 = none := rfl
@[go_sem] theorem ord16_3 : ord16 3 = none := rfl
@[go_sem] theorem ord16_4 : ord16 4 = some [(0, some false, false, false), (1, some false, false, false), (2, none, false, false), (3, some false, false, false), (4, some false, true, false), (5, some false, false, false), (6, some false, false, false), (7, some false, false, false), (8, some false, false, false), (9, some false, true, false), (10, some false, false, false), (11, some false, false, false), (12, none, false, false), (13, some false, false, false), (14, some false, false, false), (15, some false, true, false), (16, some false, false, false), (17, some false, false, false), (18, some false, true, false), (19, some false, false, false), (20, some false, false, false), (21, some false, false, false), (22, some false, false, false), (23, some false, false, false), (24, some false, false, false), (25, some false, false, false), (26, some false, false, false), (27, none, false, false), (28, some false, false, false), (29, some false, false, false), (30, some false, false, false)] := rfl
@[go_sem] theorem ord16_5 : ord16 5 = none := rfl
@[go_sem] theorem ord16_6 : ord16 6 = none := rfl
@[go_sem] theorem ord16_7 : ord16 7 = none := rfl
/-- Orders in raddle/raddleref01.Row. -/
def ord17 : Ords
  | _ => none
@[go_sem] theorem ord17_0 : ord17 0 = none := rfl
@[go_sem] theorem ord17_1 : ord17 1 = none := rfl
@[go_sem] theorem ord17_2 : ord17 2 = none := rfl
@[go_sem] theorem ord17_3 : ord17 3 = none := rfl
@[go_sem] theorem ord17_4 : ord17 4 = none := rfl
@[go_sem] theorem ord17_6 : ord17 6 = none := rfl
@[go_sem] theorem ord17_7 : ord17 7 = none := rfl
@[go_sem] theorem ord17_5 : ord17 5 = none := rfl
@[go_sem] theorem ord17_8 : ord17 8 = none := rfl
/-- Orders in raddle/raddlekeep.Set. -/
def ord18 : Ords
  | 6 => some [(0, some false, false, false), (1, some false, false, false), (2, some false, false, false), (3, some false, false, false), (4, some false, false, false), (5, some false, false, false), (6, some false, false, false), (7, some false, false, false), (8, some false, false, false), (9, some false, false, false), (10, some false, false, false), (11, some false, true, false), (12, some false, false, false), (13, some false, false, false), (14, some false, false, false), (15, some false, false, false), (16, some false, false, false), (17, some false, false, false), (18, some false, false, false), (19, some false, false, false), (20, some false, false, false), (21, some false, false, false), (22, none, false, false), (23, some false, false, false), (24, some false, false, false)]
  | _ => none
@[go_sem] theorem ord18_0 : ord18 0 = none := rfl
@[go_sem] theorem ord18_1 : ord18 1 = none := rfl
@[go_sem] theorem ord18_2 : ord18 2 = none := rfl
@[go_sem] theorem ord18_3 : ord18 3 = none := rfl
@[go_sem] theorem ord18_4 : ord18 4 = none := rfl
@[go_sem] theorem ord18_6 : ord18 6 = some [(0, some false, false, false), (1, some false, false, false), (2, some false, false, false), (3, some false, false, false), (4, some false, false, false), (5, some false, false, false), (6, some false, false, false), (7, some false, false, false), (8, some false, false, false), (9, some false, false, false), (10, some false, false, false), (11, some false, true, false), (12, some false, false, false), (13, some false, false, false), (14, some false, false, false), (15, some false, false, false), (16, some false, false, false), (17, some false, false, false), (18, some false, false, false), (19, some false, false, false), (20, some false, false, false), (21, some false, false, false), (22, none, false, false), (23, some false, false, false), (24, some false, false, false)] := rfl
@[go_sem] theorem ord18_7 : ord18 7 = none := rfl
@[go_sem] theorem ord18_5 : ord18 5 = none := rfl
@[go_sem] theorem ord18_8 : ord18 8 = none := rfl
/-- Orders in raddle/raddlelaw04.Heavy. -/
def ord19 : Ords
  | 1 => some [(0, none, false, false), (1, none, false, false), (2, none, false, false), (3, none, true, false), (4, none, false, false), (5, none, false, false), (6, none, false, false), (7, none, false, false)]
  | _ => none
@[go_sem] theorem ord19_0 : ord19 0 = none := rfl
@[go_sem] theorem ord19_1 : ord19 1 = some [(0, none, false, false), (1, none, false, false), (2, none, false, false), (3, none, true, false), (4, none, false, false), (5, none, false, false), (6, none, false, false), (7, none, false, false)] := rfl
/-- Orders in raddle/zset.Rows. -/
def ord20 : Ords
  | _ => none
@[go_sem] theorem ord20_0 : ord20 0 = none := rfl
@[go_sem] theorem ord20_1 : ord20 1 = none := rfl
@[go_sem] theorem ord20_2 : ord20 2 = none := rfl
@[go_sem] theorem ord20_3 : ord20 3 = none := rfl
@[go_sem] theorem ord20_4 : ord20 4 = none := rfl
@[go_sem] theorem ord20_5 : ord20 5 = none := rfl
@[go_sem] theorem ord20_6 : ord20 6 = none := rfl
@[go_sem] theorem ord20_7 : ord20 7 = none := rfl
/-- Orders in raddle/zset.Size. -/
def ord21 : Ords
  | _ => none
@[go_sem] theorem ord21_0 : ord21 0 = none := rfl
@[go_sem] theorem ord21_1 : ord21 1 = none := rfl
@[go_sem] theorem ord21_2 : ord21 2 = none := rfl
@[go_sem] theorem ord21_3 : ord21 3 = none := rfl
@[go_sem] theorem ord21_4 : ord21 4 = none := rfl
@[go_sem] theorem ord21_5 : ord21 5 = none := rfl
@[go_sem] theorem ord21_6 : ord21 6 = none := rfl
@[go_sem] theorem ord21_7 : ord21 7 = none := rfl
@[go_sem] theorem ord21_8 : ord21 8 = none := rfl
@[go_sem] theorem ord21_9 : ord21 9 = none := rfl
/-- Orders in raddle/raddlelaw14.one. -/
def ord22 : Ords
  | _ => none
@[go_sem] theorem ord22_0 : ord22 0 = none := rfl
@[go_sem] theorem ord22_1 : ord22 1 = none := rfl
/-- Orders in raddle/zset.Add. -/
def ord23 : Ords
  | 1 => some [(0, none, false, false), (1, none, false, false), (2, none, false, false), (3, none, true, false), (4, none, false, false), (5, none, false, false), (6, none, false, false), (7, none, false, false)]
  | _ => none
@[go_sem] theorem ord23_0 : ord23 0 = none := rfl
@[go_sem] theorem ord23_1 : ord23 1 = some [(0, none, false, false), (1, none, false, false), (2, none, false, false), (3, none, true, false), (4, none, false, false), (5, none, false, false), (6, none, false, false), (7, none, false, false)] := rfl
@[go_sem] theorem ord23_2 : ord23 2 = none := rfl
@[go_sem] theorem ord23_3 : ord23 3 = none := rfl
/-- Orders in raddle/raddlelaw14.Tame. -/
def ord24 : Ords
  | 3 => some [(0, none, false, false), (1, none, false, false), (2, none, false, false), (3, none, false, false), (4, none, true, false), (5, none, false, false), (6, none, false, false), (7, none, false, false)]
  | 6 => some [(0, some false, false, false), (1, some false, false, false), (2, some false, false, false), (3, some false, false, false), (4, some false, false, false), (5, some false, false, false), (6, some false, false, false), (7, some false, false, false), (8, some false, false, false), (9, some false, false, false), (10, some false, false, false), (11, some false, false, false), (12, some false, false, false), (13, none, false, false), (14, none, false, false), (15, some false, false, false)]
  | _ => none
@[go_sem] theorem ord24_0 : ord24 0 = none := rfl
@[go_sem] theorem ord24_1 : ord24 1 = none := rfl
@[go_sem] theorem ord24_2 : ord24 2 = none := rfl
@[go_sem] theorem ord24_3 : ord24 3 = some [(0, none, false, false), (1, none, false, false), (2, none, false, false), (3, none, false, false), (4, none, true, false), (5, none, false, false), (6, none, false, false), (7, none, false, false)] := rfl
@[go_sem] theorem ord24_5 : ord24 5 = none := rfl
@[go_sem] theorem ord24_6 : ord24 6 = some [(0, some false, false, false), (1, some false, false, false), (2, some false, false, false), (3, some false, false, false), (4, some false, false, false), (5, some false, false, false), (6, some false, false, false), (7, some false, false, false), (8, some false, false, false), (9, some false, false, false), (10, some false, false, false), (11, some false, false, false), (12, some false, false, false), (13, none, false, false), (14, none, false, false), (15, some false, false, false)] := rfl
@[go_sem] theorem ord24_4 : ord24 4 = none := rfl
@[go_sem] theorem ord24_7 : ord24 7 = none := rfl
@[go_sem] theorem ord24_8 : ord24 8 = none := rfl
/-- Orders in raddle/raddlekeep.TwinSet. -/
def ord25 : Ords
  | 5 => some [(0, some false, false, false), (1, some false, false, false), (2, some false, false, false), (3, some false, false, false), (4, some false, false, false), (5, some false, false, false), (7, some false, false, false), (8, some false, false, false), (9, some true, false, false), (10, some false, false, false), (11, some true, false, false), (6, none, false, false), (12, some false, false, false), (13, none, false, false), (14, none, false, false), (15, some false, false, false)]
  | _ => none
@[go_sem] theorem ord25_0 : ord25 0 = none := rfl
@[go_sem] theorem ord25_1 : ord25 1 = none := rfl
@[go_sem] theorem ord25_2 : ord25 2 = none := rfl
@[go_sem] theorem ord25_3 : ord25 3 = none := rfl
@[go_sem] theorem ord25_5 : ord25 5 = some [(0, some false, false, false), (1, some false, false, false), (2, some false, false, false), (3, some false, false, false), (4, some false, false, false), (5, some false, false, false), (7, some false, false, false), (8, some false, false, false), (9, some true, false, false), (10, some false, false, false), (11, some true, false, false), (6, none, false, false), (12, some false, false, false), (13, none, false, false), (14, none, false, false), (15, some false, false, false)] := rfl
@[go_sem] theorem ord25_4 : ord25 4 = none := rfl
@[go_sem] theorem ord25_6 : ord25 6 = none := rfl
/-- Orders in raddle/raddleref14.Make. -/
def ord26 : Ords
  | 4 => some [(0, none, false, false), (1, none, false, false), (2, none, false, false), (3, none, false, false), (4, none, false, false), (5, none, false, false), (6, none, false, false), (7, none, true, false), (8, none, false, false), (9, none, false, false), (10, none, false, false), (11, none, false, false), (12, none, false, false), (13, none, false, false), (14, none, false, false), (15, none, false, false)]
  | 13 => some [(0, some false, false, false), (1, some false, false, false), (2, some false, false, false), (3, some false, false, false), (4, some false, true, false), (5, some false, false, false), (6, some false, false, false), (7, some false, false, false), (8, some false, false, false), (9, some false, false, false), (10, some false, false, false), (11, some false, false, false), (12, some false, false, false), (13, some false, false, false), (14, some false, false, false), (15, none, false, false), (16, some false, false, false), (17, some false, false, false)]
  | 14 => some [(0, some false, false, false), (1, some false, false, false), (2, some false, false, false), (3, some false, false, false), (4, some false, false, false), (5, some false, false, false), (6, some false, false, false), (7, some false, false, false), (8, some false, false, false), (9, some false, false, false), (10, some false, false, false), (11, some false, false, false), (12, some false, false, false), (13, some false, false, false), (14, some false, false, false), (15, some false, false, false), (16, some false, false, false), (17, some false, false, false)]
  | _ => none
@[go_sem] theorem ord26_0 : ord26 0 = none := rfl
@[go_sem] theorem ord26_1 : ord26 1 = none := rfl
@[go_sem] theorem ord26_2 : ord26 2 = none := rfl
@[go_sem] theorem ord26_4 : ord26 4 = some [(0, none, false, false), (1, none, false, false), (2, none, false, false), (3, none, false, false), (4, none, false, false), (5, none, false, false), (6, none, false, false), (7, none, true, false), (8, none, false, false), (9, none, false, false), (10, none, false, false), (11, none, false, false), (12, none, false, false), (13, none, false, false), (14, none, false, false), (15, none, false, false)] := rfl
@[go_sem] theorem ord26_5 : ord26 5 = none := rfl
@[go_sem] theorem ord26_3 : ord26 3 = none := rfl
@[go_sem] theorem ord26_6 : ord26 6 = none := rfl
@[go_sem] theorem ord26_7 : ord26 7 = none := rfl
@[go_sem] theorem ord26_8 : ord26 8 = none := rfl
@[go_sem] theorem ord26_9 : ord26 9 = none := rfl
@[go_sem] theorem ord26_10 : ord26 10 = none := rfl
@[go_sem] theorem ord26_11 : ord26 11 = none := rfl
@[go_sem] theorem ord26_12 : ord26 12 = none := rfl
@[go_sem] theorem ord26_13 : ord26 13 = some [(0, some false, false, false), (1, some false, false, false), (2, some false, false, false), (3, some false, false, false), (4, some false, true, false), (5, some false, false, false), (6, some false, false, false), (7, some false, false, false), (8, some false, false, false), (9, some false, false, false), (10, some false, false, false), (11, some false, false, false), (12, some false, false, false), (13, some false, false, false), (14, some false, false, false), (15, none, false, false), (16, some false, false, false), (17, some false, false, false)] := rfl
@[go_sem] theorem ord26_14 : ord26 14 = some [(0, some false, false, false), (1, some false, false, false), (2, some false, false, false), (3, some false, false, false), (4, some false, false, false), (5, some false, false, false), (6, some false, false, false), (7, some false, false, false), (8, some false, false, false), (9, some false, false, false), (10, some false, false, false), (11, some false, false, false), (12, some false, false, false), (13, some false, false, false), (14, some false, false, false), (15, some false, false, false), (16, some false, false, false), (17, some false, false, false)] := rfl
@[go_sem] theorem ord26_15 : ord26 15 = none := rfl
@[go_sem] theorem ord26_16 : ord26 16 = none := rfl
@[go_sem] theorem ord26_17 : ord26 17 = none := rfl
@[go_sem] theorem ord26_18 : ord26 18 = none := rfl
@[go_sem] theorem ord26_19 : ord26 19 = none := rfl
@[go_sem] theorem ord26_20 : ord26 20 = none := rfl
@[go_sem] theorem ord26_21 : ord26 21 = none := rfl
@[go_sem] theorem ord26_22 : ord26 22 = none := rfl
@[go_sem] theorem ord26_23 : ord26 23 = none := rfl
@[go_sem] theorem ord26_24 : ord26 24 = none := rfl
@[go_sem] theorem ord26_25 : ord26 25 = none := rfl
@[go_sem] theorem ord26_26 : ord26 26 = none := rfl
@[go_sem] theorem ord26_27 : ord26 27 = none := rfl
/-- Orders in raddle/raddleref14.Weight. -/
def ord27 : Ords
  | _ => none
@[go_sem] theorem ord27_0 : ord27 0 = none := rfl
@[go_sem] theorem ord27_1 : ord27 1 = none := rfl
@[go_sem] theorem ord27_2 : ord27 2 = none := rfl
@[go_sem] theorem ord27_4 : ord27 4 = none := rfl
@[go_sem] theorem ord27_5 : ord27 5 = none := rfl
@[go_sem] theorem ord27_3 : ord27 3 = none := rfl
@[go_sem] theorem ord27_6 : ord27 6 = none := rfl
/-- Orders in raddle/raddlelaw14.size. -/
def ord28 : Ords
  | 5 => some [(0, none, false, false), (1, none, false, false), (2, none, false, false), (3, none, false, false), (4, none, true, false), (5, none, false, false), (6, none, false, false), (7, none, false, false)]
  | 7 => some [(0, some false, false, false), (1, some false, false, false), (2, some false, false, false), (3, some false, false, false), (4, some false, false, false), (5, some false, false, false), (6, some false, false, false), (7, some false, false, false), (8, some false, false, false), (9, some false, false, false), (10, some false, false, false), (11, some false, false, false), (12, some false, false, false), (13, some false, false, false), (14, some false, false, false)]
  | _ => none
@[go_sem] theorem ord28_0 : ord28 0 = none := rfl
@[go_sem] theorem ord28_1 : ord28 1 = none := rfl
@[go_sem] theorem ord28_2 : ord28 2 = none := rfl
@[go_sem] theorem ord28_3 : ord28 3 = none := rfl
@[go_sem] theorem ord28_4 : ord28 4 = none := rfl
@[go_sem] theorem ord28_5 : ord28 5 = some [(0, none, false, false), (1, none, false, false), (2, none, false, false), (3, none, false, false), (4, none, true, false), (5, none, false, false), (6, none, false, false), (7, none, false, false)] := rfl
@[go_sem] theorem ord28_7 : ord28 7 = some [(0, some false, false, false), (1, some false, false, false), (2, some false, false, false), (3, some false, false, false), (4, some false, false, false), (5, some false, false, false), (6, some false, false, false), (7, some false, false, false), (8, some false, false, false), (9, some false, false, false), (10, some false, false, false), (11, some false, false, false), (12, some false, false, false), (13, some false, false, false), (14, some false, false, false)] := rfl
@[go_sem] theorem ord28_6 : ord28 6 = none := rfl
@[go_sem] theorem ord28_8 : ord28 8 = none := rfl
/-- Orders in raddle/raddlekeep.SpoilSet. -/
def ord29 : Ords
  | _ => none
@[go_sem] theorem ord29_0 : ord29 0 = none := rfl
@[go_sem] theorem ord29_1 : ord29 1 = none := rfl
@[go_sem] theorem ord29_3 : ord29 3 = none := rfl
@[go_sem] theorem ord29_4 : ord29 4 = none := rfl
@[go_sem] theorem ord29_2 : ord29 2 = none := rfl
/-- Orders in raddle/raddleref14.Set. -/
def ord30 : Ords
  | 4 => some [(0, some false, false, false), (1, some false, false, false), (2, some false, false, false), (3, some false, false, false), (4, some false, false, false), (5, none, false, false), (6, some false, false, false), (7, some false, true, false), (8, some false, false, false), (9, some false, false, false), (10, some false, false, false), (11, some false, false, false), (12, some false, false, false), (13, some false, false, false), (14, some false, false, false), (15, some false, true, false), (16, some false, false, false), (17, some false, false, false), (18, some false, false, false), (19, some false, false, false), (20, some false, false, false), (21, none, false, false), (22, some false, false, false), (23, some false, false, false), (24, some false, true, false), (25, some false, false, false), (26, some false, false, false), (27, some false, true, false), (28, some false, false, false), (29, some false, false, false), (30, some false, false, false), (31, some false, false, false), (32, some false, false, false), (33, some false, false, false), (34, some false, false, false), (35, some false, false, false), (36, some false, false, false), (37, some false, false, false), (38, some false, false, false), (39, none, false, false), (40, some false, false, false), (41, some false, false, false), (42, some false, false, false)]
  | _ => none
@[go_sem] theorem ord30_0 : ord30 0 = none := rfl
@[go_sem] theorem ord30_1 : ord30 1 = none := rfl
@[go_sem] theorem ord30_2 : ord30 2 = none := rfl
@[go_sem] theorem ord30_4 : ord30 4 = some [(0, some false, false, false), (1, some false, false, false), (2, some false, false, false), (3, some false, false, false), (4, some false, false, false), (5, none, false, false), (6, some false, false, false), (7, some false, true, false), (8, some false, false, false), (9, some false, false, false), (10, some false, false, false), (11, some false, false, false), (12, some false, false, false), (13, some false, false, false), (14, some false, false, false), (15, some false, true, false), (16, some false, false, false), (17, some false, false, false), (18, some false, false, false), (19, some false, false, false), (20, some false, false, false), (21, none, false, false), (22, some false, false, false), (23, some false, false, false), (24, some false, true, false), (25, some false, false, false), (26, some false, false, false), (27, some false, true, false), (28, some false, false, false), (29, some false, false, false), (30, some false, false, false), (31, some false, false, false), (32, some false, false, false), (33, some false, false, false), (34, some false, false, false), (35, some false, false, false), (36, some false, false, false), (37, some false, false, false), (38, some false, false, false), (39, none, false, false), (40, some false, false, false), (41, some false, false, false), (42, some false, false, false)] := rfl
@[go_sem] theorem ord30_5 : ord30 5 = none := rfl
@[go_sem] theorem ord30_3 : ord30 3 = none := rfl
@[go_sem] theorem ord30_6 : ord30 6 = none := rfl
/-- Orders in raddle/zset.Neg. -/
def ord31 : Ords
  | _ => none
@[go_sem] theorem ord31_0 : ord31 0 = none := rfl
@[go_sem] theorem ord31_1 : ord31 1 = none := rfl
@[go_sem] theorem ord31_2 : ord31 2 = none := rfl
@[go_sem] theorem ord31_3 : ord31 3 = none := rfl
@[go_sem] theorem ord31_4 : ord31 4 = none := rfl
@[go_sem] theorem ord31_5 : ord31 5 = none := rfl
@[go_sem] theorem ord31_6 : ord31 6 = none := rfl
@[go_sem] theorem ord31_7 : ord31 7 = none := rfl
@[go_sem] theorem ord31_8 : ord31 8 = none := rfl
@[go_sem] theorem ord31_9 : ord31 9 = none := rfl
@[go_sem] theorem ord31_10 : ord31 10 = none := rfl
/-- Orders in raddle/raddleref14.Add. -/
def ord32 : Ords
  | _ => none
@[go_sem] theorem ord32_0 : ord32 0 = none := rfl
@[go_sem] theorem ord32_1 : ord32 1 = none := rfl
@[go_sem] theorem ord32_2 : ord32 2 = none := rfl
/-- Orders in raddle/raddleref14.Neg. -/
def ord33 : Ords
  | _ => none
@[go_sem] theorem ord33_0 : ord33 0 = none := rfl
@[go_sem] theorem ord33_1 : ord33 1 = none := rfl
@[go_sem] theorem ord33_2 : ord33 2 = none := rfl
@[go_sem] theorem ord33_3 : ord33 3 = none := rfl
@[go_sem] theorem ord33_5 : ord33 5 = none := rfl
@[go_sem] theorem ord33_4 : ord33 4 = none := rfl
@[go_sem] theorem ord33_6 : ord33 6 = none := rfl
/-- Orders in slices.ContainsFunc[[]raddle/api.Item,raddle/api.Item]. -/
def ord34 : Ords
  | _ => none
@[go_sem] theorem ord34_0 : ord34 0 = none := rfl
@[go_sem] theorem ord34_1 : ord34 1 = none := rfl
/-- Orders in raddle/zset.Make$1. -/
def ord35 : Ords
  | 1 => some [(0, none, false, false), (1, none, false, false), (2, none, false, false), (3, none, false, false), (4, none, true, false), (5, none, false, false), (6, none, false, false), (7, none, false, false), (8, none, false, false), (9, none, false, false), (10, none, false, false)]
  | _ => none
@[go_sem] theorem ord35_0 : ord35 0 = none := rfl
@[go_sem] theorem ord35_1 : ord35 1 = some [(0, none, false, false), (1, none, false, false), (2, none, false, false), (3, none, false, false), (4, none, true, false), (5, none, false, false), (6, none, false, false), (7, none, false, false), (8, none, false, false), (9, none, false, false), (10, none, false, false)] := rfl
/-- Orders in raddle/row.Check. -/
def ord36 : Ords
  | _ => none
@[go_sem] theorem ord36_0 : ord36 0 = none := rfl
@[go_sem] theorem ord36_1 : ord36 1 = none := rfl
@[go_sem] theorem ord36_2 : ord36 2 = none := rfl
@[go_sem] theorem ord36_3 : ord36 3 = none := rfl
@[go_sem] theorem ord36_4 : ord36 4 = none := rfl
@[go_sem] theorem ord36_5 : ord36 5 = none := rfl
/-- Orders in raddle/zset.within. -/
def ord37 : Ords
  | 1 => some [(0, none, false, false), (1, none, false, false), (2, none, true, false), (3, none, false, false), (4, none, false, false), (5, none, false, false), (6, none, false, false)]
  | _ => none
@[go_sem] theorem ord37_0 : ord37 0 = none := rfl
@[go_sem] theorem ord37_1 : ord37 1 = some [(0, none, false, false), (1, none, false, false), (2, none, true, false), (3, none, false, false), (4, none, false, false), (5, none, false, false), (6, none, false, false)] := rfl
/-- Orders in slices.Clone[[]raddle/api.Item,raddle/api.Item]. -/
def ord38 : Ords
  | _ => none
@[go_sem] theorem ord38_0 : ord38 0 = none := rfl
@[go_sem] theorem ord38_1 : ord38 1 = none := rfl
@[go_sem] theorem ord38_2 : ord38 2 = none := rfl
@[go_sem] theorem ord38_3 : ord38 3 = none := rfl
/-- Orders in slices.SortStableFunc[[]raddle/api.Item,raddle/api.Item]. -/
def ord39 : Ords
  | _ => none
@[go_sem] theorem ord39_0 : ord39 0 = none := rfl
/-- Orders in raddle/zset.Make$2. -/
def ord40 : Ords
  | _ => none
@[go_sem] theorem ord40_0 : ord40 0 = none := rfl
@[go_sem] theorem ord40_1 : ord40 1 = none := rfl
/-- Orders in (*raddle/zset.total).add. -/
def ord41 : Ords
  | 0 => some [(0, some false, false, false), (1, some false, false, false), (2, some false, false, false), (3, some false, false, false), (4, some false, false, false), (5, some false, false, false), (6, some false, false, false), (7, some false, false, false), (8, some false, false, false), (9, some false, false, false), (10, some false, false, false), (11, some false, false, false), (12, some false, false, false), (13, some false, false, false), (14, some false, false, false), (15, some false, false, false), (16, some false, false, false), (17, some false, false, false), (18, none, false, false), (19, some false, false, false), (20, some false, false, false), (21, none, false, false)]
  | _ => none
@[go_sem] theorem ord41_0 : ord41 0 = some [(0, some false, false, false), (1, some false, false, false), (2, some false, false, false), (3, some false, false, false), (4, some false, false, false), (5, some false, false, false), (6, some false, false, false), (7, some false, false, false), (8, some false, false, false), (9, some false, false, false), (10, some false, false, false), (11, some false, false, false), (12, some false, false, false), (13, some false, false, false), (14, some false, false, false), (15, some false, false, false), (16, some false, false, false), (17, some false, false, false), (18, none, false, false), (19, some false, false, false), (20, some false, false, false), (21, none, false, false)] := rfl
/-- Orders in (raddle/zset.total).sum. -/
def ord42 : Ords
  | 2 => some [(0, none, false, false), (1, none, false, false), (2, none, true, false), (3, none, false, false), (4, none, false, false), (5, none, false, false)]
  | _ => none
@[go_sem] theorem ord42_0 : ord42 0 = none := rfl
@[go_sem] theorem ord42_1 : ord42 1 = none := rfl
@[go_sem] theorem ord42_2 : ord42 2 = some [(0, none, false, false), (1, none, false, false), (2, none, true, false), (3, none, false, false), (4, none, false, false), (5, none, false, false)] := rfl
@[go_sem] theorem ord42_3 : ord42 3 = none := rfl
@[go_sem] theorem ord42_4 : ord42 4 = none := rfl
@[go_sem] theorem ord42_5 : ord42 5 = none := rfl
/-- Orders in slices.Clone[[]raddle/api.Value,raddle/api.Value]. -/
def ord43 : Ords
  | _ => none
@[go_sem] theorem ord43_0 : ord43 0 = none := rfl
@[go_sem] theorem ord43_1 : ord43 1 = none := rfl
@[go_sem] theorem ord43_2 : ord43 2 = none := rfl
@[go_sem] theorem ord43_3 : ord43 3 = none := rfl
/-- Orders in slices.CompareFunc[[]raddle/api.Value,[]raddle/api.Value,raddle/api.Value,raddle/api.Value]. -/
def ord44 : Ords
  | _ => none
@[go_sem] theorem ord44_0 : ord44 0 = none := rfl
@[go_sem] theorem ord44_1 : ord44 1 = none := rfl
@[go_sem] theorem ord44_2 : ord44 2 = none := rfl
@[go_sem] theorem ord44_3 : ord44 3 = none := rfl
@[go_sem] theorem ord44_4 : ord44 4 = none := rfl
@[go_sem] theorem ord44_5 : ord44 5 = none := rfl
@[go_sem] theorem ord44_6 : ord44 6 = none := rfl
@[go_sem] theorem ord44_7 : ord44 7 = none := rfl
@[go_sem] theorem ord44_8 : ord44 8 = none := rfl
@[go_sem] theorem ord44_9 : ord44 9 = none := rfl
@[go_sem] theorem ord44_10 : ord44 10 = none := rfl
@[go_sem] theorem ord44_11 : ord44 11 = none := rfl
@[go_sem] theorem ord44_12 : ord44 12 = none := rfl
@[go_sem] theorem ord44_13 : ord44 13 = none := rfl
/-- Orders in raddle/value.Compare. -/
def ord45 : Ords
  | 1 => some [(0, some false, false, false), (1, some false, false, false), (2, some false, false, false), (3, some false, false, false), (5, some false, false, false), (6, some false, false, false), (7, some false, false, false), (8, some false, false, false), (10, some false, false, false), (11, some false, false, false), (12, some false, false, false), (13, some false, false, false), (4, none, false, true), (9, none, false, true), (14, none, false, true), (15, none, false, false), (16, none, false, true), (17, some false, false, false)]
  | _ => none
@[go_sem] theorem ord45_0 : ord45 0 = none := rfl
@[go_sem] theorem ord45_1 : ord45 1 = some [(0, some false, false, false), (1, some false, false, false), (2, some false, false, false), (3, some false, false, false), (5, some false, false, false), (6, some false, false, false), (7, some false, false, false), (8, some false, false, false), (10, some false, false, false), (11, some false, false, false), (12, some false, false, false), (13, some false, false, false), (4, none, false, true), (9, none, false, true), (14, none, false, true), (15, none, false, false), (16, none, false, true), (17, some false, false, false)] := rfl
/-- Orders in raddle/raddlekeep.Value. -/
def ord46 : Ords
  | 1 => some [(0, none, false, false), (1, none, false, false), (2, none, false, false), (3, none, false, false), (4, none, false, false), (5, none, true, false), (6, none, false, false), (7, none, false, false), (8, none, false, false), (9, none, false, false), (10, none, false, false), (11, none, false, false), (12, none, true, false), (13, none, false, false), (14, none, false, false), (15, none, false, false), (16, none, false, false), (17, none, false, false), (18, none, false, false), (19, none, false, false)]
  | _ => none
@[go_sem] theorem ord46_0 : ord46 0 = none := rfl
@[go_sem] theorem ord46_1 : ord46 1 = some [(0, none, false, false), (1, none, false, false), (2, none, false, false), (3, none, false, false), (4, none, false, false), (5, none, true, false), (6, none, false, false), (7, none, false, false), (8, none, false, false), (9, none, false, false), (10, none, false, false), (11, none, false, false), (12, none, true, false), (13, none, false, false), (14, none, false, false), (15, none, false, false), (16, none, false, false), (17, none, false, false), (18, none, false, false), (19, none, false, false)] := rfl
/-- Orders in slices.IndexFunc[[]raddle/api.Item,raddle/api.Item]. -/
def ord47 : Ords
  | _ => none
@[go_sem] theorem ord47_0 : ord47 0 = none := rfl
@[go_sem] theorem ord47_1 : ord47 1 = none := rfl
@[go_sem] theorem ord47_2 : ord47 2 = none := rfl
@[go_sem] theorem ord47_3 : ord47 3 = none := rfl
@[go_sem] theorem ord47_4 : ord47 4 = none := rfl
@[go_sem] theorem ord47_5 : ord47 5 = none := rfl
@[go_sem] theorem ord47_6 : ord47 6 = none := rfl
@[go_sem] theorem ord47_7 : ord47 7 = none := rfl
/-- Orders in raddle/zset.Weight$1. -/
def ord48 : Ords
  | _ => none
@[go_sem] theorem ord48_0 : ord48 0 = none := rfl
@[go_sem] theorem ord48_1 : ord48 1 = none := rfl
/-- Orders in raddle/raddleref01.Value. -/
def ord49 : Ords
  | 3 => some [(0, none, false, false), (1, none, false, false), (2, none, false, false), (3, none, true, false), (4, none, false, false), (5, none, false, false), (6, none, false, false), (7, none, false, false), (8, none, false, false)]
  | 5 => some [(0, none, false, false), (1, none, false, false), (2, none, false, false), (3, none, true, false), (4, none, false, false), (5, none, false, false), (6, none, false, false), (7, none, false, false), (8, none, false, false)]
  | 7 => some [(0, none, false, false), (1, none, false, false), (2, none, false, false), (3, none, true, false), (4, none, false, false), (5, none, false, false), (6, none, false, false), (7, none, false, false), (8, none, false, false)]
  | 9 => some [(0, none, false, false), (1, none, false, false), (2, none, false, false), (3, none, true, false), (4, none, false, false), (5, none, false, false), (6, none, false, false), (7, none, false, false), (8, none, false, false), (9, none, false, false)]
  | _ => none
@[go_sem] theorem ord49_0 : ord49 0 = none := rfl
@[go_sem] theorem ord49_1 : ord49 1 = none := rfl
@[go_sem] theorem ord49_2 : ord49 2 = none := rfl
@[go_sem] theorem ord49_3 : ord49 3 = some [(0, none, false, false), (1, none, false, false), (2, none, false, false), (3, none, true, false), (4, none, false, false), (5, none, false, false), (6, none, false, false), (7, none, false, false), (8, none, false, false)] := rfl
@[go_sem] theorem ord49_4 : ord49 4 = none := rfl
@[go_sem] theorem ord49_5 : ord49 5 = some [(0, none, false, false), (1, none, false, false), (2, none, false, false), (3, none, true, false), (4, none, false, false), (5, none, false, false), (6, none, false, false), (7, none, false, false), (8, none, false, false)] := rfl
@[go_sem] theorem ord49_6 : ord49 6 = none := rfl
@[go_sem] theorem ord49_7 : ord49 7 = some [(0, none, false, false), (1, none, false, false), (2, none, false, false), (3, none, true, false), (4, none, false, false), (5, none, false, false), (6, none, false, false), (7, none, false, false), (8, none, false, false)] := rfl
@[go_sem] theorem ord49_8 : ord49 8 = none := rfl
@[go_sem] theorem ord49_9 : ord49 9 = some [(0, none, false, false), (1, none, false, false), (2, none, false, false), (3, none, true, false), (4, none, false, false), (5, none, false, false), (6, none, false, false), (7, none, false, false), (8, none, false, false), (9, none, false, false)] := rfl
@[go_sem] theorem ord49_10 : ord49 10 = none := rfl
/-- Orders in raddle/raddlelaw03.Long. -/
def ord50 : Ords
  | _ => none
@[go_sem] theorem ord50_0 : ord50 0 = none := rfl
@[go_sem] theorem ord50_1 : ord50 1 = none := rfl
@[go_sem] theorem ord50_2 : ord50 2 = none := rfl
@[go_sem] theorem ord50_4 : ord50 4 = none := rfl
@[go_sem] theorem ord50_5 : ord50 5 = none := rfl
@[go_sem] theorem ord50_3 : ord50 3 = none := rfl
@[go_sem] theorem ord50_6 : ord50 6 = none := rfl
/-- Orders in slices.Concat[[]raddle/api.Item,raddle/api.Item]. -/
def ord51 : Ords
  | _ => none
@[go_sem] theorem ord51_0 : ord51 0 = none := rfl
@[go_sem] theorem ord51_1 : ord51 1 = none := rfl
@[go_sem] theorem ord51_2 : ord51 2 = none := rfl
@[go_sem] theorem ord51_3 : ord51 3 = none := rfl
@[go_sem] theorem ord51_4 : ord51 4 = none := rfl
@[go_sem] theorem ord51_5 : ord51 5 = none := rfl
@[go_sem] theorem ord51_6 : ord51 6 = none := rfl
@[go_sem] theorem ord51_7 : ord51 7 = none := rfl
@[go_sem] theorem ord51_8 : ord51 8 = none := rfl
@[go_sem] theorem ord51_9 : ord51 9 = none := rfl
@[go_sem] theorem ord51_10 : ord51 10 = none := rfl
@[go_sem] theorem ord51_11 : ord51 11 = none := rfl
@[go_sem] theorem ord51_12 : ord51 12 = none := rfl
@[go_sem] theorem ord51_13 : ord51 13 = none := rfl
@[go_sem] theorem ord51_14 : ord51 14 = none := rfl
@[go_sem] theorem ord51_15 : ord51 15 = none := rfl
/-- Orders in raddle/raddlekeep.TwinRow. -/
def ord52 : Ords
  | _ => none
@[go_sem] theorem ord52_0 : ord52 0 = none := rfl
@[go_sem] theorem ord52_1 : ord52 1 = none := rfl
@[go_sem] theorem ord52_2 : ord52 2 = none := rfl
/-- Orders in raddle/raddleref14.in. -/
def ord53 : Ords
  | 1 => some [(0, none, false, false), (1, none, false, false), (2, none, false, false), (3, none, true, false), (4, none, false, false), (5, none, false, false), (6, none, false, false), (7, none, false, false), (8, none, false, false)]
  | _ => none
@[go_sem] theorem ord53_0 : ord53 0 = none := rfl
@[go_sem] theorem ord53_1 : ord53 1 = some [(0, none, false, false), (1, none, false, false), (2, none, false, false), (3, none, true, false), (4, none, false, false), (5, none, false, false), (6, none, false, false), (7, none, false, false), (8, none, false, false)] := rfl
/-- Orders in raddle/raddleref14.sorted. -/
def ord54 : Ords
  | 3 => some [(0, some false, false, false), (1, some false, false, false), (2, some false, false, false), (3, some false, false, false), (4, some false, false, false), (6, some false, false, false), (7, some false, false, false), (8, some false, false, false), (9, some false, false, false), (10, some true, false, false), (5, none, false, false), (11, none, false, false), (12, some false, false, false), (13, some false, false, false)]
  | 5 => some [(0, none, false, false), (1, none, false, false), (2, none, false, false), (3, none, true, false), (4, none, false, false), (5, none, false, false), (6, none, false, false), (7, none, false, false)]
  | 6 => some [(0, some false, false, false), (1, some false, false, false), (2, some false, false, false), (3, some false, false, false), (4, some false, false, false), (5, some false, false, false), (6, some false, false, false), (7, some false, false, false), (8, none, false, false), (9, some false, false, false)]
  | 7 => some [(0, some false, false, false), (1, some false, false, false), (2, some false, false, false), (3, some false, false, false), (6, some false, false, false), (7, some true, false, false), (4, none, false, false), (5, none, false, false), (8, some false, false, false), (9, some false, false, false)]
  | 8 => some [(0, some false, false, false), (1, some false, false, false), (2, some false, false, false), (3, some false, false, false), (6, some false, false, false), (7, some true, false, false), (4, none, false, false), (5, none, false, false), (8, some false, false, false), (9, some false, false, false)]
  | _ => none
@[go_sem] theorem ord54_0 : ord54 0 = none := rfl
@[go_sem] theorem ord54_1 : ord54 1 = none := rfl
@[go_sem] theorem ord54_2 : ord54 2 = none := rfl
@[go_sem] theorem ord54_3 : ord54 3 = some [(0, some false, false, false), (1, some false, false, false), (2, some false, false, false), (3, some false, false, false), (4, some false, false, false), (6, some false, false, false), (7, some false, false, false), (8, some false, false, false), (9, some false, false, false), (10, some true, false, false), (5, none, false, false), (11, none, false, false), (12, some false, false, false), (13, some false, false, false)] := rfl
@[go_sem] theorem ord54_4 : ord54 4 = none := rfl
@[go_sem] theorem ord54_5 : ord54 5 = some [(0, none, false, false), (1, none, false, false), (2, none, false, false), (3, none, true, false), (4, none, false, false), (5, none, false, false), (6, none, false, false), (7, none, false, false)] := rfl
@[go_sem] theorem ord54_6 : ord54 6 = some [(0, some false, false, false), (1, some false, false, false), (2, some false, false, false), (3, some false, false, false), (4, some false, false, false), (5, some false, false, false), (6, some false, false, false), (7, some false, false, false), (8, none, false, false), (9, some false, false, false)] := rfl
@[go_sem] theorem ord54_7 : ord54 7 = some [(0, some false, false, false), (1, some false, false, false), (2, some false, false, false), (3, some false, false, false), (6, some false, false, false), (7, some true, false, false), (4, none, false, false), (5, none, false, false), (8, some false, false, false), (9, some false, false, false)] := rfl
@[go_sem] theorem ord54_8 : ord54 8 = some [(0, some false, false, false), (1, some false, false, false), (2, some false, false, false), (3, some false, false, false), (6, some false, false, false), (7, some true, false, false), (4, none, false, false), (5, none, false, false), (8, some false, false, false), (9, some false, false, false)] := rfl
@[go_sem] theorem ord54_9 : ord54 9 = none := rfl
/-- Orders in raddle/raddleref01.CompareRows. -/
def ord55 : Ords
  | 2 => some [(0, none, false, false), (1, none, false, false), (2, none, false, false), (3, none, false, false), (4, none, true, false), (5, none, false, false), (6, none, false, false), (7, none, false, false), (8, none, false, false), (9, none, false, false)]
  | 4 => some [(0, some false, false, false), (1, some false, false, false), (2, some false, false, false), (3, some false, false, false), (4, some false, false, false), (5, some false, false, false), (6, some false, false, false), (7, some false, false, false), (8, none, false, false), (9, some false, false, false)]
  | _ => none
@[go_sem] theorem ord55_0 : ord55 0 = none := rfl
@[go_sem] theorem ord55_1 : ord55 1 = none := rfl
@[go_sem] theorem ord55_2 : ord55 2 = some [(0, none, false, false), (1, none, false, false), (2, none, false, false), (3, none, false, false), (4, none, true, false), (5, none, false, false), (6, none, false, false), (7, none, false, false), (8, none, false, false), (9, none, false, false)] := rfl
@[go_sem] theorem ord55_4 : ord55 4 = some [(0, some false, false, false), (1, some false, false, false), (2, some false, false, false), (3, some false, false, false), (4, some false, false, false), (5, some false, false, false), (6, some false, false, false), (7, some false, false, false), (8, none, false, false), (9, some false, false, false)] := rfl
@[go_sem] theorem ord55_5 : ord55 5 = none := rfl
@[go_sem] theorem ord55_6 : ord55 6 = none := rfl
@[go_sem] theorem ord55_3 : ord55 3 = none := rfl
@[go_sem] theorem ord55_7 : ord55 7 = none := rfl
@[go_sem] theorem ord55_8 : ord55 8 = none := rfl
@[go_sem] theorem ord55_9 : ord55 9 = none := rfl
/-- Orders in raddle/raddlekeep.SpoilRow. -/
def ord56 : Ords
  | _ => none
@[go_sem] theorem ord56_0 : ord56 0 = none := rfl
@[go_sem] theorem ord56_1 : ord56 1 = none := rfl
@[go_sem] theorem ord56_3 : ord56 3 = none := rfl
@[go_sem] theorem ord56_2 : ord56 2 = none := rfl
/-- Orders in raddle/zset.Twin. -/
def ord57 : Ords
  | _ => none
@[go_sem] theorem ord57_0 : ord57 0 = none := rfl
@[go_sem] theorem ord57_1 : ord57 1 = none := rfl
@[go_sem] theorem ord57_2 : ord57 2 = none := rfl
@[go_sem] theorem ord57_3 : ord57 3 = none := rfl
@[go_sem] theorem ord57_4 : ord57 4 = none := rfl
@[go_sem] theorem ord57_5 : ord57 5 = none := rfl
@[go_sem] theorem ord57_6 : ord57 6 = none := rfl
@[go_sem] theorem ord57_7 : ord57 7 = none := rfl
/-- Orders in slices.ContainsFunc[[]raddle/api.Value,raddle/api.Value]. -/
def ord58 : Ords
  | _ => none
@[go_sem] theorem ord58_0 : ord58 0 = none := rfl
@[go_sem] theorem ord58_1 : ord58 1 = none := rfl
/-- Orders in raddle/row.wrong. -/
def ord59 : Ords
  | _ => none
@[go_sem] theorem ord59_0 : ord59 0 = none := rfl
@[go_sem] theorem ord59_1 : ord59 1 = none := rfl
/-- Orders in slices.stableCmpFunc[raddle/api.Item]. -/
def ord60 : Ords
  | _ => none
@[go_sem] theorem ord60_0 : ord60 0 = none := rfl
@[go_sem] theorem ord60_1 : ord60 1 = none := rfl
@[go_sem] theorem ord60_2 : ord60 2 = none := rfl
@[go_sem] theorem ord60_3 : ord60 3 = none := rfl
@[go_sem] theorem ord60_4 : ord60 4 = none := rfl
@[go_sem] theorem ord60_5 : ord60 5 = none := rfl
@[go_sem] theorem ord60_6 : ord60 6 = none := rfl
@[go_sem] theorem ord60_7 : ord60 7 = none := rfl
@[go_sem] theorem ord60_8 : ord60 8 = none := rfl
@[go_sem] theorem ord60_9 : ord60 9 = none := rfl
@[go_sem] theorem ord60_10 : ord60 10 = none := rfl
@[go_sem] theorem ord60_11 : ord60 11 = none := rfl
@[go_sem] theorem ord60_12 : ord60 12 = none := rfl
@[go_sem] theorem ord60_13 : ord60 13 = none := rfl
@[go_sem] theorem ord60_14 : ord60 14 = none := rfl
@[go_sem] theorem ord60_15 : ord60 15 = none := rfl
@[go_sem] theorem ord60_16 : ord60 16 = none := rfl
/-- Orders in cmp.Or[int]. -/
def ord61 : Ords
  | _ => none
@[go_sem] theorem ord61_0 : ord61 0 = none := rfl
@[go_sem] theorem ord61_1 : ord61 1 = none := rfl
@[go_sem] theorem ord61_2 : ord61 2 = none := rfl
@[go_sem] theorem ord61_3 : ord61 3 = none := rfl
@[go_sem] theorem ord61_4 : ord61 4 = none := rfl
@[go_sem] theorem ord61_5 : ord61 5 = none := rfl
@[go_sem] theorem ord61_6 : ord61 6 = none := rfl
@[go_sem] theorem ord61_7 : ord61 7 = none := rfl
@[go_sem] theorem ord61_8 : ord61 8 = none := rfl
/-- Orders in cmp.Compare[int]. -/
def ord62 : Ords
  | _ => none
@[go_sem] theorem ord62_0 : ord62 0 = none := rfl
@[go_sem] theorem ord62_1 : ord62 1 = none := rfl
@[go_sem] theorem ord62_2 : ord62 2 = none := rfl
@[go_sem] theorem ord62_3 : ord62 3 = none := rfl
@[go_sem] theorem ord62_4 : ord62 4 = none := rfl
@[go_sem] theorem ord62_5 : ord62 5 = none := rfl
@[go_sem] theorem ord62_6 : ord62 6 = none := rfl
@[go_sem] theorem ord62_7 : ord62 7 = none := rfl
@[go_sem] theorem ord62_8 : ord62 8 = none := rfl
@[go_sem] theorem ord62_9 : ord62 9 = none := rfl
@[go_sem] theorem ord62_10 : ord62 10 = none := rfl
@[go_sem] theorem ord62_11 : ord62 11 = none := rfl
@[go_sem] theorem ord62_12 : ord62 12 = none := rfl
@[go_sem] theorem ord62_13 : ord62 13 = none := rfl
/-- Orders in cmp.Compare[string]. -/
def ord63 : Ords
  | _ => none
@[go_sem] theorem ord63_0 : ord63 0 = none := rfl
@[go_sem] theorem ord63_1 : ord63 1 = none := rfl
@[go_sem] theorem ord63_2 : ord63 2 = none := rfl
@[go_sem] theorem ord63_3 : ord63 3 = none := rfl
@[go_sem] theorem ord63_4 : ord63 4 = none := rfl
@[go_sem] theorem ord63_5 : ord63 5 = none := rfl
@[go_sem] theorem ord63_6 : ord63 6 = none := rfl
@[go_sem] theorem ord63_7 : ord63 7 = none := rfl
@[go_sem] theorem ord63_8 : ord63 8 = none := rfl
@[go_sem] theorem ord63_9 : ord63 9 = none := rfl
@[go_sem] theorem ord63_10 : ord63 10 = none := rfl
@[go_sem] theorem ord63_11 : ord63 11 = none := rfl
@[go_sem] theorem ord63_12 : ord63 12 = none := rfl
@[go_sem] theorem ord63_13 : ord63 13 = none := rfl
/-- Orders in raddle/raddleref01.in. -/
def ord64 : Ords
  | 1 => some [(0, none, false, false), (1, none, false, false), (2, none, false, false), (3, none, true, false), (4, none, false, false), (5, none, false, false), (6, none, false, false), (7, none, false, false), (8, none, false, false)]
  | _ => none
@[go_sem] theorem ord64_0 : ord64 0 = none := rfl
@[go_sem] theorem ord64_1 : ord64 1 = some [(0, none, false, false), (1, none, false, false), (2, none, false, false), (3, none, true, false), (4, none, false, false), (5, none, false, false), (6, none, false, false), (7, none, false, false), (8, none, false, false)] := rfl
/-- Orders in slices.Grow[[]raddle/api.Item,raddle/api.Item]. -/
def ord65 : Ords
  | _ => none
@[go_sem] theorem ord65_0 : ord65 0 = none := rfl
@[go_sem] theorem ord65_1 : ord65 1 = none := rfl
@[go_sem] theorem ord65_2 : ord65 2 = none := rfl
@[go_sem] theorem ord65_3 : ord65 3 = none := rfl
@[go_sem] theorem ord65_4 : ord65 4 = none := rfl
@[go_sem] theorem ord65_5 : ord65 5 = none := rfl
@[go_sem] theorem ord65_6 : ord65 6 = none := rfl
/-- Orders in raddle/raddleref01.Compare. -/
def ord66 : Ords
  | _ => none
@[go_sem] theorem ord66_0 : ord66 0 = none := rfl
@[go_sem] theorem ord66_1 : ord66 1 = none := rfl
@[go_sem] theorem ord66_2 : ord66 2 = none := rfl
@[go_sem] theorem ord66_3 : ord66 3 = none := rfl
@[go_sem] theorem ord66_4 : ord66 4 = none := rfl
@[go_sem] theorem ord66_5 : ord66 5 = none := rfl
@[go_sem] theorem ord66_6 : ord66 6 = none := rfl
@[go_sem] theorem ord66_7 : ord66 7 = none := rfl
/-- Orders in raddle/raddleref01.sign. -/
def ord67 : Ords
  | _ => none
@[go_sem] theorem ord67_0 : ord67 0 = none := rfl
@[go_sem] theorem ord67_1 : ord67 1 = none := rfl
@[go_sem] theorem ord67_2 : ord67 2 = none := rfl
@[go_sem] theorem ord67_3 : ord67 3 = none := rfl
/-- Orders in slices.IndexFunc[[]raddle/api.Value,raddle/api.Value]. -/
def ord68 : Ords
  | _ => none
@[go_sem] theorem ord68_0 : ord68 0 = none := rfl
@[go_sem] theorem ord68_1 : ord68 1 = none := rfl
@[go_sem] theorem ord68_2 : ord68 2 = none := rfl
@[go_sem] theorem ord68_3 : ord68 3 = none := rfl
@[go_sem] theorem ord68_4 : ord68 4 = none := rfl
@[go_sem] theorem ord68_5 : ord68 5 = none := rfl
@[go_sem] theorem ord68_6 : ord68 6 = none := rfl
@[go_sem] theorem ord68_7 : ord68 7 = none := rfl
/-- Orders in raddle/value.Check. -/
def ord69 : Ords
  | 4 => some [(0, none, false, false), (1, none, false, false), (2, none, false, false), (3, none, true, false), (4, none, false, false), (5, none, false, false), (6, none, false, false), (7, none, false, false), (8, none, false, false)]
  | 6 => some [(0, none, false, false), (1, none, false, false), (2, none, false, false), (3, none, true, false), (4, none, false, false), (5, none, false, false), (6, none, false, false), (7, none, false, false), (8, none, true, false), (9, none, false, false), (10, none, false, false), (11, none, false, false), (12, none, false, false), (13, none, false, false)]
  | 8 => some [(0, none, false, false), (1, none, false, false), (2, none, false, false), (3, none, true, false), (4, none, false, false), (5, none, false, false), (6, none, false, false), (7, none, false, false), (8, none, false, false)]
  | 10 => some [(0, none, false, false), (1, none, false, false), (2, none, false, false), (3, none, true, false), (4, none, false, false), (5, none, false, false), (6, none, false, false), (7, none, false, false), (8, none, false, false), (9, none, false, false)]
  | _ => none
@[go_sem] theorem ord69_0 : ord69 0 = none := rfl
@[go_sem] theorem ord69_1 : ord69 1 = none := rfl
@[go_sem] theorem ord69_2 : ord69 2 = none := rfl
@[go_sem] theorem ord69_3 : ord69 3 = none := rfl
@[go_sem] theorem ord69_4 : ord69 4 = some [(0, none, false, false), (1, none, false, false), (2, none, false, false), (3, none, true, false), (4, none, false, false), (5, none, false, false), (6, none, false, false), (7, none, false, false), (8, none, false, false)] := rfl
@[go_sem] theorem ord69_5 : ord69 5 = none := rfl
@[go_sem] theorem ord69_6 : ord69 6 = some [(0, none, false, false), (1, none, false, false), (2, none, false, false), (3, none, true, false), (4, none, false, false), (5, none, false, false), (6, none, false, false), (7, none, false, false), (8, none, true, false), (9, none, false, false), (10, none, false, false), (11, none, false, false), (12, none, false, false), (13, none, false, false)] := rfl
@[go_sem] theorem ord69_7 : ord69 7 = none := rfl
@[go_sem] theorem ord69_8 : ord69 8 = some [(0, none, false, false), (1, none, false, false), (2, none, false, false), (3, none, true, false), (4, none, false, false), (5, none, false, false), (6, none, false, false), (7, none, false, false), (8, none, false, false)] := rfl
@[go_sem] theorem ord69_9 : ord69 9 = none := rfl
@[go_sem] theorem ord69_10 : ord69 10 = some [(0, none, false, false), (1, none, false, false), (2, none, false, false), (3, none, true, false), (4, none, false, false), (5, none, false, false), (6, none, false, false), (7, none, false, false), (8, none, false, false), (9, none, false, false)] := rfl
@[go_sem] theorem ord69_11 : ord69 11 = none := rfl
@[go_sem] theorem ord69_12 : ord69 12 = none := rfl
@[go_sem] theorem ord69_13 : ord69 13 = none := rfl
/-- Orders in slices.insertionSortCmpFunc[raddle/api.Item]. -/
def ord70 : Ords
  | 4 => some [(0, some false, false, false), (1, some false, false, false), (2, some false, false, false), (3, some false, true, false), (4, some false, false, false), (5, some false, false, false), (6, some false, false, false), (7, some false, false, false), (8, some false, false, false), (9, some false, false, false), (10, some false, false, false), (11, some false, false, false), (12, some false, false, false), (13, some false, false, false), (14, none, false, false), (15, some false, false, false), (16, some false, false, false)]
  | 6 => some [(0, some false, false, false), (1, some false, false, false), (2, some false, false, false), (3, some false, false, false), (4, some false, false, false), (5, some false, false, false), (6, some false, false, false), (7, some false, false, false), (8, some false, false, false), (9, some false, false, false), (10, some false, false, false), (11, some false, false, false), (12, some false, false, false), (13, some false, false, false), (14, some false, false, false), (15, none, false, false), (16, some false, false, false), (17, none, false, false)]
  | _ => none
@[go_sem] theorem ord70_0 : ord70 0 = none := rfl
@[go_sem] theorem ord70_1 : ord70 1 = none := rfl
@[go_sem] theorem ord70_3 : ord70 3 = none := rfl
@[go_sem] theorem ord70_4 : ord70 4 = some [(0, some false, false, false), (1, some false, false, false), (2, some false, false, false), (3, some false, true, false), (4, some false, false, false), (5, some false, false, false), (6, some false, false, false), (7, some false, false, false), (8, some false, false, false), (9, some false, false, false), (10, some false, false, false), (11, some false, false, false), (12, some false, false, false), (13, some false, false, false), (14, none, false, false), (15, some false, false, false), (16, some false, false, false)] := rfl
@[go_sem] theorem ord70_6 : ord70 6 = some [(0, some false, false, false), (1, some false, false, false), (2, some false, false, false), (3, some false, false, false), (4, some false, false, false), (5, some false, false, false), (6, some false, false, false), (7, some false, false, false), (8, some false, false, false), (9, some false, false, false), (10, some false, false, false), (11, some false, false, false), (12, some false, false, false), (13, some false, false, false), (14, some false, false, false), (15, none, false, false), (16, some false, false, false), (17, none, false, false)] := rfl
@[go_sem] theorem ord70_5 : ord70 5 = none := rfl
@[go_sem] theorem ord70_2 : ord70 2 = none := rfl
/-- Orders in slices.symMergeCmpFunc[raddle/api.Item]. -/
def ord71 : Ords
  | 5 => some [(0, some false, false, false), (1, some false, false, false), (2, some false, false, false), (3, some false, false, false), (4, some false, false, false), (5, some false, false, false), (6, some false, false, false), (7, some false, false, false), (8, some false, false, false), (9, none, false, false), (10, some false, false, false)]
  | 11 => some [(0, some false, false, false), (1, some false, false, false), (2, some false, false, false), (3, some false, false, false), (4, some false, false, false), (5, some false, false, false), (6, some false, false, false), (7, some false, false, false), (8, some false, false, false), (9, some false, false, false), (10, some false, false, false), (11, some false, false, false), (12, some false, false, false), (13, some false, false, false), (14, some false, false, false), (15, none, false, false), (16, some false, false, false), (17, none, false, false)]
  | 17 => some [(0, some false, false, false), (1, some false, false, false), (2, some false, false, false), (3, some false, false, false), (4, some false, false, false), (5, some false, false, false), (6, some false, false, false), (7, some false, false, false), (8, some false, false, false), (9, none, false, false), (10, some false, false, false), (11, some false, false, false)]
  | 23 => some [(0, some false, false, false), (1, some false, false, false), (2, some false, false, false), (3, some false, false, false), (4, some false, false, false), (5, some false, false, false), (6, some false, false, false), (7, some false, false, false), (8, some false, false, false), (9, some false, false, false), (10, some false, false, false), (11, some false, false, false), (12, some false, false, false), (13, some false, false, false), (14, some false, false, false), (15, none, false, false), (16, some false, false, false), (17, none, false, false)]
  | 35 => some [(0, some false, false, false), (1, some false, false, false), (2, some false, false, false), (3, some false, false, false), (4, some false, false, false), (5, some false, false, false), (6, some false, false, false), (7, some false, false, false), (8, some false, false, false), (9, some false, false, false), (10, some false, false, false), (11, none, false, false), (12, some false, false, false), (13, some false, false, false)]
  | 39 => some [(0, none, false, false), (1, none, false, false), (2, none, false, false), (3, none, true, false), (4, none, false, false), (5, none, false, false), (6, none, false, false), (7, none, false, false)]
  | 41 => some [(0, none, false, false), (1, none, false, false), (2, none, false, false), (3, none, true, false), (4, none, false, false), (5, none, false, false), (6, none, false, false), (7, none, false, false)]
  | 43 => some [(0, none, false, false), (1, none, false, false), (2, none, false, false), (3, none, true, false), (4, none, false, false), (5, none, false, false), (6, none, false, false), (7, none, false, false)]
  | _ => none
@[go_sem] theorem ord71_0 : ord71 0 = none := rfl
@[go_sem] theorem ord71_1 : ord71 1 = none := rfl
@[go_sem] theorem ord71_2 : ord71 2 = none := rfl
@[go_sem] theorem ord71_3 : ord71 3 = none := rfl
@[go_sem] theorem ord71_4 : ord71 4 = none := rfl
@[go_sem] theorem ord71_5 : ord71 5 = some [(0, some false, false, false), (1, some false, false, false), (2, some false, false, false), (3, some false, false, false), (4, some false, false, false), (5, some false, false, false), (6, some false, false, false), (7, some false, false, false), (8, some false, false, false), (9, none, false, false), (10, some false, false, false)] := rfl
@[go_sem] theorem ord71_6 : ord71 6 = none := rfl
@[go_sem] theorem ord71_7 : ord71 7 = none := rfl
@[go_sem] theorem ord71_8 : ord71 8 = none := rfl
@[go_sem] theorem ord71_9 : ord71 9 = none := rfl
@[go_sem] theorem ord71_11 : ord71 11 = some [(0, some false, false, false), (1, some false, false, false), (2, some false, false, false), (3, some false, false, false), (4, some false, false, false), (5, some false, false, false), (6, some false, false, false), (7, some false, false, false), (8, some false, false, false), (9, some false, false, false), (10, some false, false, false), (11, some false, false, false), (12, some false, false, false), (13, some false, false, false), (14, some false, false, false), (15, none, false, false), (16, some false, false, false), (17, none, false, false)] := rfl
@[go_sem] theorem ord71_10 : ord71 10 = none := rfl
@[go_sem] theorem ord71_12 : ord71 12 = none := rfl
@[go_sem] theorem ord71_13 : ord71 13 = none := rfl
@[go_sem] theorem ord71_14 : ord71 14 = none := rfl
@[go_sem] theorem ord71_15 : ord71 15 = none := rfl
@[go_sem] theorem ord71_16 : ord71 16 = none := rfl
@[go_sem] theorem ord71_17 : ord71 17 = some [(0, some false, false, false), (1, some false, false, false), (2, some false, false, false), (3, some false, false, false), (4, some false, false, false), (5, some false, false, false), (6, some false, false, false), (7, some false, false, false), (8, some false, false, false), (9, none, false, false), (10, some false, false, false), (11, some false, false, false)] := rfl
@[go_sem] theorem ord71_18 : ord71 18 = none := rfl
@[go_sem] theorem ord71_19 : ord71 19 = none := rfl
@[go_sem] theorem ord71_20 : ord71 20 = none := rfl
@[go_sem] theorem ord71_21 : ord71 21 = none := rfl
@[go_sem] theorem ord71_23 : ord71 23 = some [(0, some false, false, false), (1, some false, false, false), (2, some false, false, false), (3, some false, false, false), (4, some false, false, false), (5, some false, false, false), (6, some false, false, false), (7, some false, false, false), (8, some false, false, false), (9, some false, false, false), (10, some false, false, false), (11, some false, false, false), (12, some false, false, false), (13, some false, false, false), (14, some false, false, false), (15, none, false, false), (16, some false, false, false), (17, none, false, false)] := rfl
@[go_sem] theorem ord71_22 : ord71 22 = none := rfl
@[go_sem] theorem ord71_24 : ord71 24 = none := rfl
@[go_sem] theorem ord71_25 : ord71 25 = none := rfl
@[go_sem] theorem ord71_26 : ord71 26 = none := rfl
@[go_sem] theorem ord71_27 : ord71 27 = none := rfl
@[go_sem] theorem ord71_28 : ord71 28 = none := rfl
@[go_sem] theorem ord71_29 : ord71 29 = none := rfl
@[go_sem] theorem ord71_30 : ord71 30 = none := rfl
@[go_sem] theorem ord71_31 : ord71 31 = none := rfl
@[go_sem] theorem ord71_32 : ord71 32 = none := rfl
@[go_sem] theorem ord71_33 : ord71 33 = none := rfl
@[go_sem] theorem ord71_34 : ord71 34 = none := rfl
@[go_sem] theorem ord71_35 : ord71 35 = some [(0, some false, false, false), (1, some false, false, false), (2, some false, false, false), (3, some false, false, false), (4, some false, false, false), (5, some false, false, false), (6, some false, false, false), (7, some false, false, false), (8, some false, false, false), (9, some false, false, false), (10, some false, false, false), (11, none, false, false), (12, some false, false, false), (13, some false, false, false)] := rfl
@[go_sem] theorem ord71_36 : ord71 36 = none := rfl
@[go_sem] theorem ord71_37 : ord71 37 = none := rfl
@[go_sem] theorem ord71_38 : ord71 38 = none := rfl
theorem ord71_39 : ord71 39 = some [(0, none, false, false), (1, none, false, false), (2, none, false, false), (3, none, true, false), (4, none, false, false), (5, none, false, false), (6, none, false, false), (7, none, false, false)] := rfl
@[go_sem] theorem ord71_40 : ord71 40 = none := rfl
theorem ord71_41 : ord71 41 = some [(0, none, false, false), (1, none, false, false), (2, none, false, false), (3, none, true, false), (4, none, false, false), (5, none, false, false), (6, none, false, false), (7, none, false, false)] := rfl
@[go_sem] theorem ord71_42 : ord71 42 = none := rfl
theorem ord71_43 : ord71 43 = some [(0, none, false, false), (1, none, false, false), (2, none, false, false), (3, none, true, false), (4, none, false, false), (5, none, false, false), (6, none, false, false), (7, none, false, false)] := rfl
@[go_sem] theorem ord71_44 : ord71 44 = none := rfl
/-- Orders in cmp.isNaN[int]. -/
def ord72 : Ords
  | _ => none
@[go_sem] theorem ord72_0 : ord72 0 = none := rfl
@[go_sem] theorem ord72_1 : ord72 1 = none := rfl
/-- Orders in cmp.isNaN[string]. -/
def ord73 : Ords
  | _ => none
@[go_sem] theorem ord73_0 : ord73 0 = none := rfl
@[go_sem] theorem ord73_1 : ord73 1 = none := rfl
/-- Orders in raddle/value.within. -/
def ord74 : Ords
  | 1 => some [(0, none, false, false), (1, none, false, false), (2, none, false, false), (3, none, false, false), (4, none, true, false), (5, none, false, false), (6, none, false, false), (7, none, false, false), (8, none, false, false), (9, none, false, false)]
  | _ => none
@[go_sem] theorem ord74_0 : ord74 0 = none := rfl
@[go_sem] theorem ord74_1 : ord74 1 = some [(0, none, false, false), (1, none, false, false), (2, none, false, false), (3, none, false, false), (4, none, true, false), (5, none, false, false), (6, none, false, false), (7, none, false, false), (8, none, false, false), (9, none, false, false)] := rfl
/-- Orders in slices.rotateCmpFunc[raddle/api.Item]. -/
def ord75 : Ords
  | _ => none
@[go_sem] theorem ord75_0 : ord75 0 = none := rfl
@[go_sem] theorem ord75_1 : ord75 1 = none := rfl
@[go_sem] theorem ord75_2 : ord75 2 = none := rfl
@[go_sem] theorem ord75_3 : ord75 3 = none := rfl
@[go_sem] theorem ord75_4 : ord75 4 = none := rfl
@[go_sem] theorem ord75_5 : ord75 5 = none := rfl
@[go_sem] theorem ord75_6 : ord75 6 = none := rfl
@[go_sem] theorem ord75_7 : ord75 7 = none := rfl
@[go_sem] theorem ord75_8 : ord75 8 = none := rfl
/-- Orders in slices.swapRangeCmpFunc[raddle/api.Item]. -/
def ord76 : Ords
  | 3 => some [(0, some false, false, false), (1, some false, false, false), (2, some false, false, false), (3, some false, false, false), (4, some false, false, false), (5, some false, false, false), (6, some false, false, false), (7, some false, false, false), (8, some false, false, false), (9, some false, false, false), (10, some false, false, false), (11, some false, false, false), (12, some false, false, false), (13, some false, false, false), (14, some false, false, false), (15, some false, false, false), (16, some false, false, false), (17, some false, false, false), (18, some false, false, false), (19, some false, false, false), (20, some false, false, false), (21, none, false, false), (22, some false, false, false), (23, none, false, false)]
  | _ => none
@[go_sem] theorem ord76_0 : ord76 0 = none := rfl
@[go_sem] theorem ord76_1 : ord76 1 = none := rfl
@[go_sem] theorem ord76_3 : ord76 3 = some [(0, some false, false, false), (1, some false, false, false), (2, some false, false, false), (3, some false, false, false), (4, some false, false, false), (5, some false, false, false), (6, some false, false, false), (7, some false, false, false), (8, some false, false, false), (9, some false, false, false), (10, some false, false, false), (11, some false, false, false), (12, some false, false, false), (13, some false, false, false), (14, some false, false, false), (15, some false, false, false), (16, some false, false, false), (17, some false, false, false), (18, some false, false, false), (19, some false, false, false), (20, some false, false, false), (21, none, false, false), (22, some false, false, false), (23, none, false, false)] := rfl
@[go_sem] theorem ord76_2 : ord76 2 = none := rfl
end Yt
