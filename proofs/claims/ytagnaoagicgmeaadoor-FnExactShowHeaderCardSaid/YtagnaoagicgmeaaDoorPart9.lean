/- Contracts of functions of the program. Conditions: none beyond what each theorem states. -/
import Derived.Test.YtagnaoagicgmeaaDoorVc7
import Derived.Test.YtagnaoagicgmeaaDoorProg
import Derived.KernelRfl
import Derived.Test.YtagnaoagicgmeaaDoorShelf
set_option linter.all false
section
namespace Go.VC
open Go
def Tryd.tys : List (Nat × TI) := [
  (1, .one (.v .nilFunc)),
  (2, .one (.v (.int .i64 0))),
  (3, .one (.v (.int .i64 0))),
  (4, .one (.v (.bool false))),
  (5, .one (.v (.int .u8 0))),
  (6, .one (.v (.int .u8 0))),
  (7, .st [(0, 1, false), (1, 1, false), (2, 1, false), (3, 1, false)] [.v (.int .i64 0), .v (.int .i64 0), .v (.bool false), .v (.int .u8 0)]),
  (8, .st [(0, 1, false), (1, 1, false), (2, 1, false), (3, 1, false)] [.v (.int .i64 0), .v (.int .i64 0), .v (.bool false), .v (.int .u8 0)]),
  (9, .one (.v (.string (str [])))),
  (10, .one (.v (.string (str [])))),
  (11, .one (.v (.string (str [])))),
  (12, .one (.v (.int .u64 0))),
  (13, .st [(0, 1, false), (1, 1, false)] [.v (.string (str [])), .v (.int .u64 0)]),
  (14, .st [(0, 1, false), (1, 1, false)] [.v (.string (str [])), .v (.int .u64 0)]),
  (15, .one (.v (.pointer none))),
  (16, .one (.v (.pointer none))),
  (17, .one (.v (.pointer none))),
  (18, .st [(0, 1, false)] [.v (.pointer none)]),
  (19, .st [(0, 1, false)] [.v (.pointer none)]),
  (20, .one (.v .nilIface)),
  (21, .one (.v (.int .i32 0))),
  (22, .sl 1 8 false [.v (.int .i64 0)]),
  (23, .st [(0, 1, false), (1, 1, false), (2, 1, false), (3, 1, false), (4, 1, false), (5, 1, false)] [.v (.int .i64 0), .v (.int .i64 0), .v (.int .i64 0), .v (.bool false), .v (.bool false), .sl (some true) 1 []]),
  (24, .st [(0, 1, false), (1, 1, false), (2, 1, false), (3, 1, false), (4, 1, false), (5, 1, false)] [.v (.int .i64 0), .v (.int .i64 0), .v (.int .i64 0), .v (.bool false), .v (.bool false), .sl (some true) 1 []]),
  (25, .one (.v .nilFunc)),
  (26, .one (.v .nilFunc)),
  (27, .st [(0, 1, false), (1, 1, false), (2, 1, false), (3, 1, false), (4, 1, false), (5, 1, false)] [.v (.int .i64 0), .v (.int .i64 0), .v (.int .i64 0), .v (.bool false), .v (.bool false), .sl (some true) 1 []]),
  (28, .one (.v .nilFunc)),
  (29, .one (.v .nilFunc)),
  (30, .one (.v .nilFunc)),
  (31, .st [(0, 1, false), (1, 1, false), (2, 1, false)] [.v (.int .i64 0), .v (.int .i64 0), .sl (some true) 1 []]),
  (32, .st [(0, 1, false), (1, 1, false), (2, 1, false)] [.v (.int .i64 0), .v (.int .i64 0), .sl (some true) 1 []]),
  (34, .one (.v .nilFunc)),
  (35, .one (.v .nilFunc)),
  (36, .one (.v .nilFunc)),
  (37, .one (.v .nilFunc)),
  (39, .one (.v .nilFunc)),
  (40, .one (.v .nilFunc)),
  (41, .one (.v .nilFunc)),
  (42, .one (.v .nilFunc)),
  (43, .one (.v .nilFunc)),
  (44, .one (.v .nilFunc)),
  (45, .one (.v .nilFunc)),
  (46, .sl 1 16 false [.v (.string (str []))]),
  (47, .one (.v .nilFunc)),
  (48, .one (.v .nilFunc)),
  (49, .one (.v .nilFunc)),
  (51, .one (.v .nilFunc)),
  (52, .one (.v .nilFunc)),
  (53, .one (.v .nilFunc)),
  (54, .one (.v .nilFunc)),
  (55, .one (.v .nilFunc)),
  (56, .one (.v .nilFunc)),
  (58, .one (.v .nilFunc)),
  (60, .one (.v .nilFunc)),
  (61, .one (.v .nilFunc)),
  (63, .one (.v .nilFunc)),
  (64, .one (.v .nilFunc)),
  (65, .one (.v .nilFunc)),
  (66, .one (.v .nilFunc)),
  (67, .sl 1 1 false [.v (.int .u8 0)]),
  (68, .one (.v .nilFunc)),
  (69, .one (.v (.pointer none))),
  (70, .st [(0, 1, false), (1, 1, false)] [.v (.pointer none), .sl (some true) 1 []]),
  (71, .st [(0, 1, false), (1, 1, false)] [.v (.pointer none), .sl (some true) 1 []]),
  (72, .one (.v .nilFunc)),
  (73, .one (.v .nilIface)),
  (74, .one (.v .nilIface)),
  (76, .one (.v .nilFunc)),
  (77, .one (.v .nilFunc)),
  (78, .one (.v .nilFunc)),
  (79, .one (.v .nilFunc)),
  (80, .one (.v .nilFunc)),
  (81, .one (.v .nilFunc)),
  (82, .one (.v (.int .u64 0))),
  (83, .one (.v .nilFunc)),
  (84, .one (.v .nilFunc)),
  (85, .one (.v .nilFunc)),
  (86, .one (.v (.pointer none))),
  (87, .one (.v .nilFunc)),
  (89, .one (.v .nilFunc)),
  (90, .one (.v .nilFunc)),
  (91, .one (.v .nilFunc)),
  (92, .one (.v .nilFunc)),
  (93, .one (.v .nilFunc)),
  (94, .one (.v .nilFunc)),
  (95, .one (.v (.pointer none))),
  (96, .one (.v .nilFunc)),
  (97, .one (.v .nilFunc)),
  (98, .one (.v (.int .i64 0))),
  (100, .one (.v .nilFunc)),
  (101, .one (.v (.pointer none))),
  (102, .one (.v .nilFunc)),
  (103, .one (.v .nilFunc)),
  (105, .one (.v (.int .u64 0))),
  (106, .one (.v .nilFunc)),
  (107, .one (.v .nilFunc)),
  (109, .one (.v .nilFunc)),
  (110, .one (.v (.int .u32 0))),
  (112, .one (.v .nilFunc)),
  (114, .st [(0, 1, false), (1, 1, false)] [.v (.int .u8 0), .v (.int .u8 0)]),
  (115, .st [(0, 1, false), (1, 1, false)] [.v (.int .u8 0), .v (.int .u8 0)]),
  (118, .one (.v .nilFunc)),
  (119, .st [(0, 1, false), (1, 1, false), (2, 1, false)] [.v (.string (str [])), .v (.string (str [])), .v .nilIface]),
  (120, .st [(0, 1, false), (1, 1, false), (2, 1, false)] [.v (.string (str [])), .v (.string (str [])), .v .nilIface]),
  (121, .one (.v .nilFunc)),
  (122, .one (.v .nilFunc)),
  (125, .one (.v .nilFunc)),
  (126, .one (.v .nilFunc)),
  (127, .one (.v .nilFunc)),
  (128, .one (.v (.pointer none))),
  (129, .st [(0, 1, false)] [.v (.string (str []))]),
  (130, .st [(0, 1, false)] [.v (.string (str []))]),
  (131, .one (.v .nilFunc)),
  (134, .st [(0, 1, false), (1, 1, false), (2, 1, false), (3, 1, false)] [.v (.pointer none), .v (.pointer none), .v (.pointer none), .v (.string (str []))]),
  (135, .st [(0, 1, false), (1, 1, false), (2, 1, false), (3, 1, false)] [.v (.pointer none), .v (.pointer none), .v (.pointer none), .v (.string (str []))]),
  (139, .one (.v .nilFunc)),
  (140, .one (.v (.int .u8 0))),
  (141, .one (.v (.int .u8 0))),
  (142, .one (.v .nilFunc)),
  (143, .one (.v (.int .i32 0))),
  (144, .one (.v (.int .i32 0))),
  (145, .st [(0, 1, false), (1, 1, false), (2, 1, false), (3, 1, false), (4, 1, false), (5, 1, false), (6, 1, false), (7, 1, false), (8, 1, false), (9, 1, false), (10, 1, false)] [.v (.int .u64 0), .v (.int .u64 0), .v (.int .u32 0), .v (.int .u8 0), .v (.int .u8 0), .v (.int .u8 0), .v (.int .u8 0), .v .nilFunc, .v (.pointer none), .v (.int .i32 0), .v (.int .i32 0)]),
  (146, .st [(0, 1, false), (1, 1, false), (2, 1, false), (3, 1, false), (4, 1, false), (5, 1, false), (6, 1, false), (7, 1, false), (8, 1, false), (9, 1, false), (10, 1, false)] [.v (.int .u64 0), .v (.int .u64 0), .v (.int .u32 0), .v (.int .u8 0), .v (.int .u8 0), .v (.int .u8 0), .v (.int .u8 0), .v .nilFunc, .v (.pointer none), .v (.int .i32 0), .v (.int .i32 0)]),
  (147, .one (.v .nilFunc))]
theorem Tryd.tys_ok : TOk Go.Proofs.Tryd.prog (tabTT Tryd.tys) := tab_ok (by kernel_rfl)
theorem Tryd.tt_1 : tabTT Tryd.tys 1 = some (.one (.v .nilFunc)) := by kernel_rfl
theorem Tryd.tt_2 : tabTT Tryd.tys 2 = some (.one (.v (.int .i64 0))) := by kernel_rfl
theorem Tryd.tt_3 : tabTT Tryd.tys 3 = some (.one (.v (.int .i64 0))) := by kernel_rfl
theorem Tryd.tt_4 : tabTT Tryd.tys 4 = some (.one (.v (.bool false))) := by kernel_rfl
theorem Tryd.tt_5 : tabTT Tryd.tys 5 = some (.one (.v (.int .u8 0))) := by kernel_rfl
theorem Tryd.tt_6 : tabTT Tryd.tys 6 = some (.one (.v (.int .u8 0))) := by kernel_rfl
theorem Tryd.tt_7 : tabTT Tryd.tys 7 = some (.st [(0, 1, false), (1, 1, false), (2, 1, false), (3, 1, false)] [.v (.int .i64 0), .v (.int .i64 0), .v (.bool false), .v (.int .u8 0)]) := by kernel_rfl
theorem Tryd.tt_8 : tabTT Tryd.tys 8 = some (.st [(0, 1, false), (1, 1, false), (2, 1, false), (3, 1, false)] [.v (.int .i64 0), .v (.int .i64 0), .v (.bool false), .v (.int .u8 0)]) := by kernel_rfl
theorem Tryd.tt_9 : tabTT Tryd.tys 9 = some (.one (.v (.string (str [])))) := by kernel_rfl
theorem Tryd.tt_10 : tabTT Tryd.tys 10 = some (.one (.v (.string (str [])))) := by kernel_rfl
theorem Tryd.tt_11 : tabTT Tryd.tys 11 = some (.one (.v (.string (str [])))) := by kernel_rfl
theorem Tryd.tt_12 : tabTT Tryd.tys 12 = some (.one (.v (.int .u64 0))) := by kernel_rfl
theorem Tryd.tt_13 : tabTT Tryd.tys 13 = some (.st [(0, 1, false), (1, 1, false)] [.v (.string (str [])), .v (.int .u64 0)]) := by kernel_rfl
theorem Tryd.tt_14 : tabTT Tryd.tys 14 = some (.st [(0, 1, false), (1, 1, false)] [.v (.string (str [])), .v (.int .u64 0)]) := by kernel_rfl
theorem Tryd.tt_15 : tabTT Tryd.tys 15 = some (.one (.v (.pointer none))) := by kernel_rfl
theorem Tryd.tt_16 : tabTT Tryd.tys 16 = some (.one (.v (.pointer none))) := by kernel_rfl
theorem Tryd.tt_17 : tabTT Tryd.tys 17 = some (.one (.v (.pointer none))) := by kernel_rfl
theorem Tryd.tt_18 : tabTT Tryd.tys 18 = some (.st [(0, 1, false)] [.v (.pointer none)]) := by kernel_rfl
theorem Tryd.tt_19 : tabTT Tryd.tys 19 = some (.st [(0, 1, false)] [.v (.pointer none)]) := by kernel_rfl
theorem Tryd.tt_20 : tabTT Tryd.tys 20 = some (.one (.v .nilIface)) := by kernel_rfl
theorem Tryd.tt_21 : tabTT Tryd.tys 21 = some (.one (.v (.int .i32 0))) := by kernel_rfl
theorem Tryd.tt_22 : tabTT Tryd.tys 22 = some (.sl 1 8 false [.v (.int .i64 0)]) := by kernel_rfl
theorem Tryd.tt_23 : tabTT Tryd.tys 23 = some (.st [(0, 1, false), (1, 1, false), (2, 1, false), (3, 1, false), (4, 1, false), (5, 1, false)] [.v (.int .i64 0), .v (.int .i64 0), .v (.int .i64 0), .v (.bool false), .v (.bool false), .sl (some true) 1 []]) := by kernel_rfl
theorem Tryd.tt_24 : tabTT Tryd.tys 24 = some (.st [(0, 1, false), (1, 1, false), (2, 1, false), (3, 1, false), (4, 1, false), (5, 1, false)] [.v (.int .i64 0), .v (.int .i64 0), .v (.int .i64 0), .v (.bool false), .v (.bool false), .sl (some true) 1 []]) := by kernel_rfl
theorem Tryd.tt_25 : tabTT Tryd.tys 25 = some (.one (.v .nilFunc)) := by kernel_rfl
theorem Tryd.tt_26 : tabTT Tryd.tys 26 = some (.one (.v .nilFunc)) := by kernel_rfl
theorem Tryd.tt_27 : tabTT Tryd.tys 27 = some (.st [(0, 1, false), (1, 1, false), (2, 1, false), (3, 1, false), (4, 1, false), (5, 1, false)] [.v (.int .i64 0), .v (.int .i64 0), .v (.int .i64 0), .v (.bool false), .v (.bool false), .sl (some true) 1 []]) := by kernel_rfl
theorem Tryd.tt_28 : tabTT Tryd.tys 28 = some (.one (.v .nilFunc)) := by kernel_rfl
theorem Tryd.tt_29 : tabTT Tryd.tys 29 = some (.one (.v .nilFunc)) := by kernel_rfl
theorem Tryd.tt_30 : tabTT Tryd.tys 30 = some (.one (.v .nilFunc)) := by kernel_rfl
theorem Tryd.tt_31 : tabTT Tryd.tys 31 = some (.st [(0, 1, false), (1, 1, false), (2, 1, false)] [.v (.int .i64 0), .v (.int .i64 0), .sl (some true) 1 []]) := by kernel_rfl
theorem Tryd.tt_32 : tabTT Tryd.tys 32 = some (.st [(0, 1, false), (1, 1, false), (2, 1, false)] [.v (.int .i64 0), .v (.int .i64 0), .sl (some true) 1 []]) := by kernel_rfl
theorem Tryd.tt_34 : tabTT Tryd.tys 34 = some (.one (.v .nilFunc)) := by kernel_rfl
theorem Tryd.tt_35 : tabTT Tryd.tys 35 = some (.one (.v .nilFunc)) := by kernel_rfl
theorem Tryd.tt_36 : tabTT Tryd.tys 36 = some (.one (.v .nilFunc)) := by kernel_rfl
theorem Tryd.tt_37 : tabTT Tryd.tys 37 = some (.one (.v .nilFunc)) := by kernel_rfl
theorem Tryd.tt_39 : tabTT Tryd.tys 39 = some (.one (.v .nilFunc)) := by kernel_rfl
theorem Tryd.tt_40 : tabTT Tryd.tys 40 = some (.one (.v .nilFunc)) := by kernel_rfl
theorem Tryd.tt_41 : tabTT Tryd.tys 41 = some (.one (.v .nilFunc)) := by kernel_rfl
theorem Tryd.tt_42 : tabTT Tryd.tys 42 = some (.one (.v .nilFunc)) := by kernel_rfl
theorem Tryd.tt_43 : tabTT Tryd.tys 43 = some (.one (.v .nilFunc)) := by kernel_rfl
theorem Tryd.tt_44 : tabTT Tryd.tys 44 = some (.one (.v .nilFunc)) := by kernel_rfl
theorem Tryd.tt_45 : tabTT Tryd.tys 45 = some (.one (.v .nilFunc)) := by kernel_rfl
theorem Tryd.tt_46 : tabTT Tryd.tys 46 = some (.sl 1 16 false [.v (.string (str []))]) := by kernel_rfl
theorem Tryd.tt_47 : tabTT Tryd.tys 47 = some (.one (.v .nilFunc)) := by kernel_rfl
theorem Tryd.tt_48 : tabTT Tryd.tys 48 = some (.one (.v .nilFunc)) := by kernel_rfl
theorem Tryd.tt_49 : tabTT Tryd.tys 49 = some (.one (.v .nilFunc)) := by kernel_rfl
theorem Tryd.tt_51 : tabTT Tryd.tys 51 = some (.one (.v .nilFunc)) := by kernel_rfl
theorem Tryd.tt_52 : tabTT Tryd.tys 52 = some (.one (.v .nilFunc)) := by kernel_rfl
theorem Tryd.tt_53 : tabTT Tryd.tys 53 = some (.one (.v .nilFunc)) := by kernel_rfl
theorem Tryd.tt_54 : tabTT Tryd.tys 54 = some (.one (.v .nilFunc)) := by kernel_rfl
theorem Tryd.tt_55 : tabTT Tryd.tys 55 = some (.one (.v .nilFunc)) := by kernel_rfl
theorem Tryd.tt_56 : tabTT Tryd.tys 56 = some (.one (.v .nilFunc)) := by kernel_rfl
theorem Tryd.tt_58 : tabTT Tryd.tys 58 = some (.one (.v .nilFunc)) := by kernel_rfl
theorem Tryd.tt_60 : tabTT Tryd.tys 60 = some (.one (.v .nilFunc)) := by kernel_rfl
theorem Tryd.tt_61 : tabTT Tryd.tys 61 = some (.one (.v .nilFunc)) := by kernel_rfl
theorem Tryd.tt_63 : tabTT Tryd.tys 63 = some (.one (.v .nilFunc)) := by kernel_rfl
theorem Tryd.tt_64 : tabTT Tryd.tys 64 = some (.one (.v .nilFunc)) := by kernel_rfl
theorem Tryd.tt_65 : tabTT Tryd.tys 65 = some (.one (.v .nilFunc)) := by kernel_rfl
theorem Tryd.tt_66 : tabTT Tryd.tys 66 = some (.one (.v .nilFunc)) := by kernel_rfl
theorem Tryd.tt_67 : tabTT Tryd.tys 67 = some (.sl 1 1 false [.v (.int .u8 0)]) := by kernel_rfl
theorem Tryd.tt_68 : tabTT Tryd.tys 68 = some (.one (.v .nilFunc)) := by kernel_rfl
theorem Tryd.tt_69 : tabTT Tryd.tys 69 = some (.one (.v (.pointer none))) := by kernel_rfl
theorem Tryd.tt_70 : tabTT Tryd.tys 70 = some (.st [(0, 1, false), (1, 1, false)] [.v (.pointer none), .sl (some true) 1 []]) := by kernel_rfl
theorem Tryd.tt_71 : tabTT Tryd.tys 71 = some (.st [(0, 1, false), (1, 1, false)] [.v (.pointer none), .sl (some true) 1 []]) := by kernel_rfl
theorem Tryd.tt_72 : tabTT Tryd.tys 72 = some (.one (.v .nilFunc)) := by kernel_rfl
theorem Tryd.tt_73 : tabTT Tryd.tys 73 = some (.one (.v .nilIface)) := by kernel_rfl
theorem Tryd.tt_74 : tabTT Tryd.tys 74 = some (.one (.v .nilIface)) := by kernel_rfl
theorem Tryd.tt_76 : tabTT Tryd.tys 76 = some (.one (.v .nilFunc)) := by kernel_rfl
theorem Tryd.tt_77 : tabTT Tryd.tys 77 = some (.one (.v .nilFunc)) := by kernel_rfl
theorem Tryd.tt_78 : tabTT Tryd.tys 78 = some (.one (.v .nilFunc)) := by kernel_rfl
theorem Tryd.tt_79 : tabTT Tryd.tys 79 = some (.one (.v .nilFunc)) := by kernel_rfl
theorem Tryd.tt_80 : tabTT Tryd.tys 80 = some (.one (.v .nilFunc)) := by kernel_rfl
theorem Tryd.tt_81 : tabTT Tryd.tys 81 = some (.one (.v .nilFunc)) := by kernel_rfl
theorem Tryd.tt_82 : tabTT Tryd.tys 82 = some (.one (.v (.int .u64 0))) := by kernel_rfl
theorem Tryd.tt_83 : tabTT Tryd.tys 83 = some (.one (.v .nilFunc)) := by kernel_rfl
theorem Tryd.tt_84 : tabTT Tryd.tys 84 = some (.one (.v .nilFunc)) := by kernel_rfl
theorem Tryd.tt_85 : tabTT Tryd.tys 85 = some (.one (.v .nilFunc)) := by kernel_rfl
theorem Tryd.tt_86 : tabTT Tryd.tys 86 = some (.one (.v (.pointer none))) := by kernel_rfl
theorem Tryd.tt_87 : tabTT Tryd.tys 87 = some (.one (.v .nilFunc)) := by kernel_rfl
theorem Tryd.tt_89 : tabTT Tryd.tys 89 = some (.one (.v .nilFunc)) := by kernel_rfl
theorem Tryd.tt_90 : tabTT Tryd.tys 90 = some (.one (.v .nilFunc)) := by kernel_rfl
theorem Tryd.tt_91 : tabTT Tryd.tys 91 = some (.one (.v .nilFunc)) := by kernel_rfl
theorem Tryd.tt_92 : tabTT Tryd.tys 92 = some (.one (.v .nilFunc)) := by kernel_rfl
theorem Tryd.tt_93 : tabTT Tryd.tys 93 = some (.one (.v .nilFunc)) := by kernel_rfl
theorem Tryd.tt_94 : tabTT Tryd.tys 94 = some (.one (.v .nilFunc)) := by kernel_rfl
theorem Tryd.tt_95 : tabTT Tryd.tys 95 = some (.one (.v (.pointer none))) := by kernel_rfl
theorem Tryd.tt_96 : tabTT Tryd.tys 96 = some (.one (.v .nilFunc)) := by kernel_rfl
theorem Tryd.tt_97 : tabTT Tryd.tys 97 = some (.one (.v .nilFunc)) := by kernel_rfl
theorem Tryd.tt_98 : tabTT Tryd.tys 98 = some (.one (.v (.int .i64 0))) := by kernel_rfl
theorem Tryd.tt_100 : tabTT Tryd.tys 100 = some (.one (.v .nilFunc)) := by kernel_rfl
theorem Tryd.tt_101 : tabTT Tryd.tys 101 = some (.one (.v (.pointer none))) := by kernel_rfl
theorem Tryd.tt_102 : tabTT Tryd.tys 102 = some (.one (.v .nilFunc)) := by kernel_rfl
theorem Tryd.tt_103 : tabTT Tryd.tys 103 = some (.one (.v .nilFunc)) := by kernel_rfl
theorem Tryd.tt_105 : tabTT Tryd.tys 105 = some (.one (.v (.int .u64 0))) := by kernel_rfl
theorem Tryd.tt_106 : tabTT Tryd.tys 106 = some (.one (.v .nilFunc)) := by kernel_rfl
theorem Tryd.tt_107 : tabTT Tryd.tys 107 = some (.one (.v .nilFunc)) := by kernel_rfl
theorem Tryd.tt_109 : tabTT Tryd.tys 109 = some (.one (.v .nilFunc)) := by kernel_rfl
theorem Tryd.tt_110 : tabTT Tryd.tys 110 = some (.one (.v (.int .u32 0))) := by kernel_rfl
theorem Tryd.tt_112 : tabTT Tryd.tys 112 = some (.one (.v .nilFunc)) := by kernel_rfl
theorem Tryd.tt_114 : tabTT Tryd.tys 114 = some (.st [(0, 1, false), (1, 1, false)] [.v (.int .u8 0), .v (.int .u8 0)]) := by kernel_rfl
theorem Tryd.tt_115 : tabTT Tryd.tys 115 = some (.st [(0, 1, false), (1, 1, false)] [.v (.int .u8 0), .v (.int .u8 0)]) := by kernel_rfl
theorem Tryd.tt_118 : tabTT Tryd.tys 118 = some (.one (.v .nilFunc)) := by kernel_rfl
theorem Tryd.tt_119 : tabTT Tryd.tys 119 = some (.st [(0, 1, false), (1, 1, false), (2, 1, false)] [.v (.string (str [])), .v (.string (str [])), .v .nilIface]) := by kernel_rfl
theorem Tryd.tt_120 : tabTT Tryd.tys 120 = some (.st [(0, 1, false), (1, 1, false), (2, 1, false)] [.v (.string (str [])), .v (.string (str [])), .v .nilIface]) := by kernel_rfl
theorem Tryd.tt_121 : tabTT Tryd.tys 121 = some (.one (.v .nilFunc)) := by kernel_rfl
theorem Tryd.tt_122 : tabTT Tryd.tys 122 = some (.one (.v .nilFunc)) := by kernel_rfl
theorem Tryd.tt_125 : tabTT Tryd.tys 125 = some (.one (.v .nilFunc)) := by kernel_rfl
theorem Tryd.tt_126 : tabTT Tryd.tys 126 = some (.one (.v .nilFunc)) := by kernel_rfl
theorem Tryd.tt_127 : tabTT Tryd.tys 127 = some (.one (.v .nilFunc)) := by kernel_rfl
theorem Tryd.tt_128 : tabTT Tryd.tys 128 = some (.one (.v (.pointer none))) := by kernel_rfl
theorem Tryd.tt_129 : tabTT Tryd.tys 129 = some (.st [(0, 1, false)] [.v (.string (str []))]) := by kernel_rfl
theorem Tryd.tt_130 : tabTT Tryd.tys 130 = some (.st [(0, 1, false)] [.v (.string (str []))]) := by kernel_rfl
theorem Tryd.tt_131 : tabTT Tryd.tys 131 = some (.one (.v .nilFunc)) := by kernel_rfl
theorem Tryd.tt_134 : tabTT Tryd.tys 134 = some (.st [(0, 1, false), (1, 1, false), (2, 1, false), (3, 1, false)] [.v (.pointer none), .v (.pointer none), .v (.pointer none), .v (.string (str []))]) := by kernel_rfl
theorem Tryd.tt_135 : tabTT Tryd.tys 135 = some (.st [(0, 1, false), (1, 1, false), (2, 1, false), (3, 1, false)] [.v (.pointer none), .v (.pointer none), .v (.pointer none), .v (.string (str []))]) := by kernel_rfl
theorem Tryd.tt_139 : tabTT Tryd.tys 139 = some (.one (.v .nilFunc)) := by kernel_rfl
theorem Tryd.tt_140 : tabTT Tryd.tys 140 = some (.one (.v (.int .u8 0))) := by kernel_rfl
theorem Tryd.tt_141 : tabTT Tryd.tys 141 = some (.one (.v (.int .u8 0))) := by kernel_rfl
theorem Tryd.tt_142 : tabTT Tryd.tys 142 = some (.one (.v .nilFunc)) := by kernel_rfl
theorem Tryd.tt_143 : tabTT Tryd.tys 143 = some (.one (.v (.int .i32 0))) := by kernel_rfl
theorem Tryd.tt_144 : tabTT Tryd.tys 144 = some (.one (.v (.int .i32 0))) := by kernel_rfl
theorem Tryd.tt_145 : tabTT Tryd.tys 145 = some (.st [(0, 1, false), (1, 1, false), (2, 1, false), (3, 1, false), (4, 1, false), (5, 1, false), (6, 1, false), (7, 1, false), (8, 1, false), (9, 1, false), (10, 1, false)] [.v (.int .u64 0), .v (.int .u64 0), .v (.int .u32 0), .v (.int .u8 0), .v (.int .u8 0), .v (.int .u8 0), .v (.int .u8 0), .v .nilFunc, .v (.pointer none), .v (.int .i32 0), .v (.int .i32 0)]) := by kernel_rfl
theorem Tryd.tt_146 : tabTT Tryd.tys 146 = some (.st [(0, 1, false), (1, 1, false), (2, 1, false), (3, 1, false), (4, 1, false), (5, 1, false), (6, 1, false), (7, 1, false), (8, 1, false), (9, 1, false), (10, 1, false)] [.v (.int .u64 0), .v (.int .u64 0), .v (.int .u32 0), .v (.int .u8 0), .v (.int .u8 0), .v (.int .u8 0), .v (.int .u8 0), .v .nilFunc, .v (.pointer none), .v (.int .i32 0), .v (.int .i32 0)]) := by kernel_rfl
theorem Tryd.tt_147 : tabTT Tryd.tys 147 = some (.one (.v .nilFunc)) := by kernel_rfl
attribute [push_cast] Tryd.tt_1 Tryd.tt_2 Tryd.tt_3 Tryd.tt_4 Tryd.tt_5 Tryd.tt_6 Tryd.tt_7 Tryd.tt_8 Tryd.tt_9 Tryd.tt_10 Tryd.tt_11 Tryd.tt_12 Tryd.tt_13 Tryd.tt_14 Tryd.tt_15 Tryd.tt_16 Tryd.tt_17 Tryd.tt_18 Tryd.tt_19 Tryd.tt_20 Tryd.tt_21 Tryd.tt_22 Tryd.tt_23 Tryd.tt_24 Tryd.tt_25 Tryd.tt_26 Tryd.tt_27 Tryd.tt_28 Tryd.tt_29 Tryd.tt_30 Tryd.tt_31 Tryd.tt_32 Tryd.tt_34 Tryd.tt_35 Tryd.tt_36 Tryd.tt_37 Tryd.tt_39 Tryd.tt_40 Tryd.tt_41 Tryd.tt_42 Tryd.tt_43 Tryd.tt_44 Tryd.tt_45 Tryd.tt_46 Tryd.tt_47 Tryd.tt_48 Tryd.tt_49 Tryd.tt_51 Tryd.tt_52 Tryd.tt_53 Tryd.tt_54 Tryd.tt_55 Tryd.tt_56 Tryd.tt_58 Tryd.tt_60 Tryd.tt_61 Tryd.tt_63 Tryd.tt_64 Tryd.tt_65 Tryd.tt_66 Tryd.tt_67 Tryd.tt_68 Tryd.tt_69 Tryd.tt_70 Tryd.tt_71 Tryd.tt_72 Tryd.tt_73 Tryd.tt_74 Tryd.tt_76 Tryd.tt_77 Tryd.tt_78 Tryd.tt_79 Tryd.tt_80 Tryd.tt_81 Tryd.tt_82 Tryd.tt_83 Tryd.tt_84 Tryd.tt_85 Tryd.tt_86 Tryd.tt_87 Tryd.tt_89 Tryd.tt_90 Tryd.tt_91 Tryd.tt_92 Tryd.tt_93 Tryd.tt_94 Tryd.tt_95 Tryd.tt_96 Tryd.tt_97 Tryd.tt_98 Tryd.tt_100 Tryd.tt_101 Tryd.tt_102 Tryd.tt_103 Tryd.tt_105 Tryd.tt_106 Tryd.tt_107 Tryd.tt_109 Tryd.tt_110 Tryd.tt_112 Tryd.tt_114 Tryd.tt_115 Tryd.tt_118 Tryd.tt_119 Tryd.tt_120 Tryd.tt_121 Tryd.tt_122 Tryd.tt_125 Tryd.tt_126 Tryd.tt_127 Tryd.tt_128 Tryd.tt_129 Tryd.tt_130 Tryd.tt_131 Tryd.tt_134 Tryd.tt_135 Tryd.tt_139 Tryd.tt_140 Tryd.tt_141 Tryd.tt_142 Tryd.tt_143 Tryd.tt_144 Tryd.tt_145 Tryd.tt_146 Tryd.tt_147
end Go.VC
end
section
namespace Go.VC
open Go Go.RowKit
set_option linter.unusedSimpArgs false
set_option linter.unusedVariables false
set_option maxRecDepth 100000
def cWithin : Contract := ⟨[false, false, false], true, fun args ch K => ∃ (x lo hi : Int), args = [.s (.d (.v (.int .i64 (x)))), .s (.d (.v (.int .i64 (lo)))), .s (.d (.v (.int .i64 (hi))))] ∧ ch = [] ∧ K (.s (.d (.v (.bool (decide (lo ≤ x ∧ x ≤ hi)))))) []⟩
theorem cWithin_own : cWithin.own = [false, false, false] := (_root_.id rfl)
theorem cWithin_plain : cWithin.plain = true := (_root_.id rfl)
theorem cWithin_at {x lo hi : Int} {K : AV → List Chunk → Prop} : specK cWithin [.s (.d (.v (.int .i64 (x)))), .s (.d (.v (.int .i64 (lo)))), .s (.d (.v (.int .i64 (hi))))] [] K = (K (.s (.d (.v (.bool (decide (lo ≤ x ∧ x ≤ hi)))))) []) := by
  refine propext ⟨?_, fun h => ⟨_, _, _, rfl, rfl, h⟩⟩
  rintro ⟨x', lo', hi', h1, h2, h⟩
  have h3 := And.intro h1 h2
  clear h1 h2
  simp only [List.cons.injEq, AV.s.injEq, AV.g.injEq, A.d.injEq, A.own.injEq, A.ptr.injEq, A.fn.injEq, D.v.injEq, D.sl.injEq, Chunk.box.injEq, Chunk.sl.injEq, Value.int.injEq, Value.bool.injEq, Value.string.injEq, Option.some.injEq, str_inj, ints_inj, strs_inj, encB_inj, eq_self, and_assoc, true_and, and_true, and_self] at h3
  obtain ⟨rfl, rfl, rfl⟩ := h3
  exact h
attribute [push_cast] cWithin_own cWithin_plain cWithin_at
def x_within_okG : FuncId → Option Contract := fun _ => none
def x_within_okO : Nat → Ordr := fun _ => []
def x_within_ok : Ctx := ⟨tabTT Tryd.tys, x_within_okG, false, x_within_okO⟩
theorem x_within_ok_tt : x_within_ok.tt = tabTT Tryd.tys := (_root_.id rfl)
theorem x_within_ok_wr : x_within_ok.wr = false := (_root_.id rfl)
theorem x_within_ok_ok : CtxOk Proofs.Tryd.prog GW x_within_ok := by
  refine ⟨Tryd.tys_ok, fun f C h => ?_, by kernel_rfl⟩
  cases h
attribute [push_cast] x_within_ok_tt x_within_ok_wr
theorem within_ok : Ok Proofs.Tryd.prog GW 48 cWithin := by
  refine fn_ok (c := x_within_ok) x_within_ok_ok Proofs.Tryd.func48 (code := _) rfl Proofs.Tryd.call48 (by kernel_rfl) ?_
  rintro args ch K ⟨x, lo, hi, rfl, rfl, h⟩
  rw [Proofs.Tryd.ntmps48, Proofs.Tryd.results48]
  simp -dsimp only [push_cast, ↓reduceIte, ↓opsK_nil, ↓opsK_cons, ↓opG_none, ↓opG_some, ↓opX_store, ↓opX_append, ↓opX_call, ↓exec_skip, ↓exec_region, ↓exec_seq, ↓exec_cond, ↓exec_block, ↓exec_exit, ↓exec_ret, ↓opX_move, ↓opX_assign, ↓opX_pick, ↓opX_alloc, ↓opX_box, ↓opX_build, ↓opX_buildSlice, ↓opX_load, ↓opX_nilCheck, ↓opX_binOp, ↓opX_unOp, ↓opX_convert, ↓opX_makeFunc, ↓opX_makeSlice, ↓opX_slice, ↓opX_fieldAddr, ↓opX_field, ↓opX_indexAddr, ↓opX_index, ↓opX_extract, ↓opX_len, ↓opX_max, ↓opX_min, ↓exec_draw, ↓dk_nil, ↓dk_f, ↓dk_c, ↓pureK_eq, ↓fOne_none, ↓fOne_some, ↓re_cons, ↓PF_eq, ↓Fact_none, ↓Fact_some, ↓opX_callv, Int.reduceEq, Int.reduceNe, Int.reduceLT, Int.reduceLE, Int.reduceAdd, Int.reduceSub, Int.reduceMul, Int.reduceToNat, Int.reduceNeg, Int.reducePow, Nat.reduceEqDiff, Nat.reducePow, Nat.reduceAdd, Nat.reduceMul, Nat.reduceSub, Nat.reduceLeDiff, Nat.reduceLT, Nat.reduceBEq, reduceCtorEq]
  have hK : ∀ b : Bool, b = decide (lo ≤ x ∧ x ≤ hi) → K (.s (.d (.v (.bool b)))) [] := fun b e => e ▸ h
  clear h
  try simp only [andK_def, InK]
  repeat' first | (refine And.intro ?_ ?_) | (intro _) | split
  all_goals first | omega | (refine hK _ ?_; rw [Bool.eq_iff_iff]; simp only [decide_eq_true_eq, Bool.false_eq_true, false_iff, iff_false, true_iff, iff_true]; first | omega | (try rw [Int.tmod_eq_emod_of_nonneg (by omega)] at *; omega))
def sidesOk (w h : Int) : Bool := decide (8 ≤ w ∧ w ≤ 32 ∧ 8 ≤ h ∧ h ≤ 32 ∧ w % 8 = 0 ∧ h % 8 = 0)
def cSides : Contract := ⟨[false, false], true, fun args ch K => ∃ (x y : Int), args = [.s (.d (.v (.int .i64 (x)))), .s (.d (.v (.int .i64 (y))))] ∧ ch = [] ∧ K (.s (.d (.v (.bool (sidesOk x y))))) []⟩
theorem cSides_own : cSides.own = [false, false] := (_root_.id rfl)
theorem cSides_plain : cSides.plain = true := (_root_.id rfl)
theorem cSides_at {x y : Int} {K : AV → List Chunk → Prop} : specK cSides [.s (.d (.v (.int .i64 (x)))), .s (.d (.v (.int .i64 (y))))] [] K = (K (.s (.d (.v (.bool (sidesOk x y))))) []) := by
  refine propext ⟨?_, fun h => ⟨_, _, rfl, rfl, h⟩⟩
  rintro ⟨x', y', h1, h2, h⟩
  have h3 := And.intro h1 h2
  clear h1 h2
  simp only [List.cons.injEq, AV.s.injEq, AV.g.injEq, A.d.injEq, A.own.injEq, A.ptr.injEq, A.fn.injEq, D.v.injEq, D.sl.injEq, Chunk.box.injEq, Chunk.sl.injEq, Value.int.injEq, Value.bool.injEq, Value.string.injEq, Option.some.injEq, str_inj, ints_inj, strs_inj, encB_inj, eq_self, and_assoc, true_and, and_true, and_self] at h3
  obtain ⟨rfl, rfl⟩ := h3
  exact h
attribute [push_cast] cSides_own cSides_plain cSides_at
def x_sides_okG : FuncId → Option Contract
  | 48 => some cWithin
  | _ => none
def x_sides_okO : Nat → Ordr := fun _ => []
def x_sides_ok : Ctx := ⟨tabTT Tryd.tys, x_sides_okG, false, x_sides_okO⟩
theorem x_sides_ok_tt : x_sides_ok.tt = tabTT Tryd.tys := (_root_.id rfl)
theorem x_sides_ok_wr : x_sides_ok.wr = false := (_root_.id rfl)
theorem x_sides_ok_g48 : x_sides_ok.Γ 48 = some cWithin := (_root_.id rfl)
theorem x_sides_ok_ok : CtxOk Proofs.Tryd.prog GW x_sides_ok := by
  refine ⟨Tryd.tys_ok, fun f C h => ?_, by kernel_rfl⟩
  simp only [x_sides_ok, x_sides_okG] at h
  split at h
  · cases h; exact within_ok
  · cases h
attribute [push_cast] x_sides_ok_tt x_sides_ok_wr x_sides_ok_g48
theorem sides_ok : Ok Proofs.Tryd.prog GW 47 cSides := by
  refine fn_ok (c := x_sides_ok) x_sides_ok_ok Proofs.Tryd.func47 (code := _) rfl Proofs.Tryd.call47 (by kernel_rfl) ?_
  rintro args ch K ⟨x, y, rfl, rfl, h⟩
  rw [Proofs.Tryd.ntmps47, Proofs.Tryd.results47]
  simp -dsimp only [push_cast, ↓reduceIte, ↓opsK_nil, ↓opsK_cons, ↓opG_none, ↓opG_some, ↓opX_store, ↓opX_append, ↓opX_call, ↓exec_skip, ↓exec_region, ↓exec_seq, ↓exec_cond, ↓exec_block, ↓exec_exit, ↓exec_ret, ↓opX_move, ↓opX_assign, ↓opX_pick, ↓opX_alloc, ↓opX_box, ↓opX_build, ↓opX_buildSlice, ↓opX_load, ↓opX_nilCheck, ↓opX_binOp, ↓opX_unOp, ↓opX_convert, ↓opX_makeFunc, ↓opX_makeSlice, ↓opX_slice, ↓opX_fieldAddr, ↓opX_field, ↓opX_indexAddr, ↓opX_index, ↓opX_extract, ↓opX_len, ↓opX_max, ↓opX_min, ↓exec_draw, ↓dk_nil, ↓dk_f, ↓dk_c, ↓pureK_eq, ↓fOne_none, ↓fOne_some, ↓re_cons, ↓PF_eq, ↓Fact_none, ↓Fact_some, ↓opX_callv, Int.reduceEq, Int.reduceNe, Int.reduceLT, Int.reduceLE, Int.reduceAdd, Int.reduceSub, Int.reduceMul, Int.reduceToNat, Int.reduceNeg, Int.reducePow, Nat.reduceEqDiff, Nat.reducePow, Nat.reduceAdd, Nat.reduceMul, Nat.reduceSub, Nat.reduceLeDiff, Nat.reduceLT, Nat.reduceBEq, reduceCtorEq]
  have hK : ∀ b : Bool, b = sidesOk x y → K (.s (.d (.v (.bool b)))) [] := fun b e => e ▸ h
  clear h
  simp only [sidesOk] at hK
  try simp only [andK_def, InK]
  repeat' first | (refine And.intro ?_ ?_) | (intro _) | split
  all_goals first | omega | (refine hK _ ?_; rw [Bool.eq_iff_iff]; simp only [decide_eq_true_eq, Bool.false_eq_true, false_iff, iff_false, true_iff, iff_true]; first | omega | (try rw [Int.tmod_eq_emod_of_nonneg (by omega)] at *; omega))
def kraft : List Int → Int
  | [] => 0
  | x :: l => kraft l + if 0 < x then 2 ^ (7 - x).toNat else 0
theorem kraft_app (a b : List Int) : kraft (a ++ b) = kraft a + kraft b := by
  induction a with
  | nil => simp [kraft]
  | cons x a ih => simp only [List.cons_append, kraft, ih]; omega
theorem kraft_one (x : Int) : kraft [x] = if 0 < x then 2 ^ (7 - x).toNat else 0 := by simp [kraft]
theorem take_getD {α} {l : List α} {k : Nat} {d : α} (h : k < l.length) : l.take (k + 1) = l.take k ++ [l.getD k d] := by
  rw [List.take_add_one]
  simp [h]
theorem kraft_le (l : List Int) (h : ∀ x ∈ l, 0 ≤ x ∧ x ≤ 7) : 0 ≤ kraft l ∧ kraft l ≤ 128 * l.length := by
  induction l with
  | nil => simp [kraft]
  | cons x l ih =>
    have h1 := h x (by simp)
    have h2 := ih (fun y hy => h y (by simp [hy]))
    have h3 : (2 : Int) ^ (7 - x).toNat ≤ 128 ∧ 0 ≤ (2 : Int) ^ (7 - x).toNat := by
      have : x = 0 ∨ x = 1 ∨ x = 2 ∨ x = 3 ∨ x = 4 ∨ x = 5 ∨ x = 6 ∨ x = 7 := by omega
      rcases this with rfl | rfl | rfl | rfl | rfl | rfl | rfl | rfl <;> decide
    simp only [kraft, List.length_cons]
    split <;> omega
def codeOk (l : List Int) : Bool := decide (l.length = 6 ∧ (∀ x ∈ l, 0 ≤ x ∧ x ≤ 7) ∧ kraft l = 128)
def cCode : Contract := ⟨[false], true, fun args ch K => ∃ (nf : Option Bool) (l : List Int), args = [.s (.d (.sl nf 1 (ints l)))] ∧ ch = [] ∧ l.length ≤ 1099511627776 ∧ K (.s (.d (.v (.bool (codeOk l))))) []⟩
theorem cCode_own : cCode.own = [false] := (_root_.id rfl)
theorem cCode_plain : cCode.plain = true := (_root_.id rfl)
theorem cCode_at {nf : Option Bool} {l : List Int} {K : AV → List Chunk → Prop} : specK cCode [.s (.d (.sl nf 1 (ints l)))] [] K = (l.length ≤ 1099511627776 ∧ K (.s (.d (.v (.bool (codeOk l))))) []) := by
  refine propext ⟨?_, fun h => ⟨_, _, rfl, rfl, h⟩⟩
  rintro ⟨nf', l', h1, h2, h⟩
  have h3 := And.intro h1 h2
  clear h1 h2
  simp only [List.cons.injEq, AV.s.injEq, AV.g.injEq, A.d.injEq, A.own.injEq, A.ptr.injEq, A.fn.injEq, D.v.injEq, D.sl.injEq, Chunk.box.injEq, Chunk.sl.injEq, Value.int.injEq, Value.bool.injEq, Value.string.injEq, Option.some.injEq, str_inj, ints_inj, strs_inj, encB_inj, eq_self, and_assoc, true_and, and_true, and_self] at h3
  obtain ⟨rfl, rfl⟩ := h3
  exact h
attribute [push_cast] cCode_own cCode_plain cCode_at
def x_code_okG : FuncId → Option Contract
  | 48 => some cWithin
  | _ => none
def x_code_okO : Nat → Ordr := fun _ => []
def x_code_ok : Ctx := ⟨tabTT Tryd.tys, x_code_okG, false, x_code_okO⟩
theorem x_code_ok_tt : x_code_ok.tt = tabTT Tryd.tys := (_root_.id rfl)
theorem x_code_ok_wr : x_code_ok.wr = false := (_root_.id rfl)
theorem x_code_ok_g48 : x_code_ok.Γ 48 = some cWithin := (_root_.id rfl)
theorem x_code_ok_ok : CtxOk Proofs.Tryd.prog GW x_code_ok := by
  refine ⟨Tryd.tys_ok, fun f C h => ?_, by kernel_rfl⟩
  simp only [x_code_ok, x_code_okG] at h
  split at h
  · cases h; exact within_ok
  · cases h
attribute [push_cast] x_code_ok_tt x_code_ok_wr x_code_ok_g48
theorem code_ok : Ok Proofs.Tryd.prog GW 49 cCode := by
  refine fn_ok (c := x_code_ok) x_code_ok_ok Proofs.Tryd.func49 (code := _) rfl Proofs.Tryd.call49 (by kernel_rfl) ?_
  rintro args ch K ⟨nf, l, rfl, rfl, ⟨hl, h⟩⟩
  rw [Proofs.Tryd.ntmps49, Proofs.Tryd.results49]
  simp -dsimp only [push_cast, ↓reduceIte, ↓opsK_nil, ↓opsK_cons, ↓opG_none, ↓opG_some, ↓opX_store, ↓opX_append, ↓opX_call, ↓exec_skip, ↓exec_region, ↓exec_seq, ↓exec_cond, ↓exec_block, ↓exec_exit, ↓exec_ret, ↓opX_move, ↓opX_assign, ↓opX_pick, ↓opX_alloc, ↓opX_box, ↓opX_build, ↓opX_buildSlice, ↓opX_load, ↓opX_nilCheck, ↓opX_binOp, ↓opX_unOp, ↓opX_convert, ↓opX_makeFunc, ↓opX_makeSlice, ↓opX_slice, ↓opX_fieldAddr, ↓opX_field, ↓opX_indexAddr, ↓opX_index, ↓opX_extract, ↓opX_len, ↓opX_max, ↓opX_min, ↓exec_draw, ↓dk_nil, ↓dk_f, ↓dk_c, ↓pureK_eq, ↓fOne_none, ↓fOne_some, ↓re_cons, ↓PF_eq, ↓Fact_none, ↓Fact_some, ↓opX_callv, Int.reduceEq, Int.reduceNe, Int.reduceLT, Int.reduceLE, Int.reduceAdd, Int.reduceSub, Int.reduceMul, Int.reduceToNat, Int.reduceNeg, Int.reducePow, Nat.reduceEqDiff, Nat.reducePow, Nat.reduceAdd, Nat.reduceMul, Nat.reduceSub, Nat.reduceLeDiff, Nat.reduceLT, Nat.reduceBEq, reduceCtorEq]
  refine loop_rule [(0, false), (3, false), (6, false), (7, false), (8, false)] (fun k : Nat => ([.s (.d (.sl nf 1 (ints l))), .s (.d (.v (.int .i64 (kraft (l.take k))))), .s (.d (.sl nf 1 (ints l))), .s (.d (.v (.int .i64 (l.length)))), .s (.d (.v (.int .i64 (k))))], [])) (fun k => k ≤ l.length ∧ ∀ x ∈ l.take k, 0 ≤ x ∧ x ≤ 7) (fun k => l.length - k) 0 ?_ ?_ ?_
  · simp
  · simp -dsimp only [push_cast, ↓reduceIte, ↓opsK_nil, ↓opsK_cons, ↓opG_none, ↓opG_some, ↓opX_store, ↓opX_append, ↓opX_call, ↓exec_skip, ↓exec_region, ↓exec_seq, ↓exec_cond, ↓exec_block, ↓exec_exit, ↓exec_ret, ↓opX_move, ↓opX_assign, ↓opX_pick, ↓opX_alloc, ↓opX_box, ↓opX_build, ↓opX_buildSlice, ↓opX_load, ↓opX_nilCheck, ↓opX_binOp, ↓opX_unOp, ↓opX_convert, ↓opX_makeFunc, ↓opX_makeSlice, ↓opX_slice, ↓opX_fieldAddr, ↓opX_field, ↓opX_indexAddr, ↓opX_index, ↓opX_extract, ↓opX_len, ↓opX_max, ↓opX_min, ↓exec_draw, ↓dk_nil, ↓dk_f, ↓dk_c, ↓pureK_eq, ↓fOne_none, ↓fOne_some, ↓re_cons, ↓PF_eq, ↓Fact_none, ↓Fact_some, ↓opX_callv, Int.reduceEq, Int.reduceNe, Int.reduceLT, Int.reduceLE, Int.reduceAdd, Int.reduceSub, Int.reduceMul, Int.reduceToNat, Int.reduceNeg, Int.reducePow, Nat.reduceEqDiff, Nat.reducePow, Nat.reduceAdd, Nat.reduceMul, Nat.reduceSub, Nat.reduceLeDiff, Nat.reduceLT, Nat.reduceBEq, reduceCtorEq]
    rfl
  · intro k hk
    simp -dsimp only [push_cast, ↓reduceIte, ↓opsK_nil, ↓opsK_cons, ↓opG_none, ↓opG_some, ↓opX_store, ↓opX_append, ↓opX_call, ↓exec_skip, ↓exec_region, ↓exec_seq, ↓exec_cond, ↓exec_block, ↓exec_exit, ↓exec_ret, ↓opX_move, ↓opX_assign, ↓opX_pick, ↓opX_alloc, ↓opX_box, ↓opX_build, ↓opX_buildSlice, ↓opX_load, ↓opX_nilCheck, ↓opX_binOp, ↓opX_unOp, ↓opX_convert, ↓opX_makeFunc, ↓opX_makeSlice, ↓opX_slice, ↓opX_fieldAddr, ↓opX_field, ↓opX_indexAddr, ↓opX_index, ↓opX_extract, ↓opX_len, ↓opX_max, ↓opX_min, ↓exec_draw, ↓dk_nil, ↓dk_f, ↓dk_c, ↓pureK_eq, ↓fOne_none, ↓fOne_some, ↓re_cons, ↓PF_eq, ↓Fact_none, ↓Fact_some, ↓opX_callv, Int.reduceEq, Int.reduceNe, Int.reduceLT, Int.reduceLE, Int.reduceAdd, Int.reduceSub, Int.reduceMul, Int.reduceToNat, Int.reduceNeg, Int.reducePow, Nat.reduceEqDiff, Nat.reducePow, Nat.reduceAdd, Nat.reduceMul, Nat.reduceSub, Nat.reduceLeDiff, Nat.reduceLT, Nat.reduceBEq, reduceCtorEq]
    have hK : ∀ b : Bool, b = codeOk l → K (.s (.d (.v (.bool b)))) [] := fun b e => e ▸ h
    clear h
    have hkr := kraft_le _ hk.2
    rw [List.length_take] at hkr
    split
    · rename_i hlt
      have hlt' : k < l.length := by omega
      have ht := take_getD (d := (0 : Int)) hlt'
      refine ⟨by omega, fun _ => ?_⟩
      generalize hx : l.getD k 0 = x at *
      have hmem : x ∈ l := by rw [← hx, List.getD_eq_getElem?_getD]; simp [hlt']
      split
      · rename_i hn
        refine hK _ (Eq.symm ?_)
        simp only [codeOk, decide_eq_false_iff_not]
        intro hc
        exact hn (hc.2.1 x hmem)
      · rename_i hn
        have hn' : 0 ≤ x ∧ x ≤ 7 := by omega
        have hb : ∀ y ∈ l.take (k + 1), 0 ≤ y ∧ y ≤ 7 := by
          rw [ht]
          intro y hy
          rcases List.mem_append.1 hy with h | h
          · exact hk.2 y h
          · simp at h; subst h; exact hn'
        have h3 : (2 : Int) ^ (7 - x).toNat ≤ 128 ∧ 0 ≤ (2 : Int) ^ (7 - x).toNat := by
          have : x = 0 ∨ x = 1 ∨ x = 2 ∨ x = 3 ∨ x = 4 ∨ x = 5 ∨ x = 6 ∨ x = 7 := by omega
          rcases this with h | h | h | h | h | h | h | h <;> rw [h] <;> decide
        split
        · rename_i hp
          repeat' (first | refine andI ?_ (fun _ => ?_) | refine And.intro ?_ ?_)
          any_goals first | omega | (simp only [InK]; omega) | (simp; omega)
          refine ⟨k + 1, ⟨by omega, hb⟩, ?_, by omega⟩
          rw [ht, kraft_app, kraft_one, if_pos hp]
          simp
        · rename_i hp
          repeat' (first | refine andI ?_ (fun _ => ?_) | refine And.intro ?_ ?_)
          any_goals first | omega | (simp only [InK]; omega) | (simp; omega)
          refine ⟨k + 1, ⟨by omega, hb⟩, ?_, by omega⟩
          rw [ht, kraft_app, kraft_one, if_neg hp]
          simp
    · have : l.take k = l := List.take_of_length_le (by omega)
      rw [this] at hk ⊢
      split <;> refine hK _ ?_ <;> simp only [codeOk] <;> rw [Bool.eq_iff_iff] <;> simp only [decide_eq_true_eq, Bool.false_eq_true, false_iff]
      · have : l.length = 6 := by omega
        simp [this]; exact fun _ => hk.2
      · intro hc; omega
end Go.VC
end
section
namespace Go.VC
open Go Go.RowKit
set_option linter.unusedSimpArgs false
set_option linter.unusedVariables false
set_option maxRecDepth 100000
def cSzI : Contract := ⟨[false, false], true, fun args ch K => ∃ (nf : Option Bool) (l : List Int) (n : Int), args = [.s (.d (.sl nf 1 (ints l))), .s (.d (.v (.int .i64 (n))))] ∧ ch = [] ∧ l.length ≤ 9223372036854775807 ∧ 0 ≤ n ∧ n ≤ 1152921504606846976 ∧ K (.s (.d (.v (.int .i64 (if n < l.length then -1 else n - l.length))))) []⟩
theorem cSzI_own : cSzI.own = [false, false] := (_root_.id rfl)
theorem cSzI_plain : cSzI.plain = true := (_root_.id rfl)
theorem cSzI_at {nf : Option Bool} {l : List Int} {n : Int} {K : AV → List Chunk → Prop} : specK cSzI [.s (.d (.sl nf 1 (ints l))), .s (.d (.v (.int .i64 (n))))] [] K = (l.length ≤ 9223372036854775807 ∧ 0 ≤ n ∧ n ≤ 1152921504606846976 ∧ K (.s (.d (.v (.int .i64 (if n < l.length then -1 else n - l.length))))) []) := by
  refine propext ⟨?_, fun h => ⟨_, _, _, rfl, rfl, h⟩⟩
  rintro ⟨nf', l', n', h1, h2, h⟩
  have h3 := And.intro h1 h2
  clear h1 h2
  simp only [List.cons.injEq, AV.s.injEq, AV.g.injEq, A.d.injEq, A.own.injEq, A.ptr.injEq, A.fn.injEq, D.v.injEq, D.sl.injEq, Chunk.box.injEq, Chunk.sl.injEq, Value.int.injEq, Value.bool.injEq, Value.string.injEq, Option.some.injEq, str_inj, ints_inj, strs_inj, encB_inj, eq_self, and_assoc, true_and, and_true, and_self] at h3
  obtain ⟨rfl, rfl, rfl⟩ := h3
  exact h
attribute [push_cast] cSzI_own cSzI_plain cSzI_at
def x_szI_okG : FuncId → Option Contract := fun _ => none
def x_szI_okO : Nat → Ordr := fun _ => []
def x_szI_ok : Ctx := ⟨tabTT Tryd.tys, x_szI_okG, false, x_szI_okO⟩
theorem x_szI_ok_tt : x_szI_ok.tt = tabTT Tryd.tys := (_root_.id rfl)
theorem x_szI_ok_wr : x_szI_ok.wr = false := (_root_.id rfl)
theorem x_szI_ok_ok : CtxOk Proofs.Tryd.prog GW x_szI_ok := by
  refine ⟨Tryd.tys_ok, fun f C h => ?_, by kernel_rfl⟩
  cases h
attribute [push_cast] x_szI_ok_tt x_szI_ok_wr
theorem szI_ok : Ok Proofs.Tryd.prog GW 20 cSzI := by
  refine fn_ok (c := x_szI_ok) x_szI_ok_ok Proofs.Tryd.func20 (code := _) rfl Proofs.Tryd.call20 (by kernel_rfl) ?_
  rintro args ch K ⟨nf, l, n, rfl, rfl, ⟨hl, h0, h1, h⟩⟩
  rw [Proofs.Tryd.ntmps20, Proofs.Tryd.results20]
  simp -dsimp only [push_cast, ↓reduceIte, ↓opsK_nil, ↓opsK_cons, ↓opG_none, ↓opG_some, ↓opX_store, ↓opX_append, ↓opX_call, ↓exec_skip, ↓exec_region, ↓exec_seq, ↓exec_cond, ↓exec_block, ↓exec_exit, ↓exec_ret, ↓opX_move, ↓opX_assign, ↓opX_pick, ↓opX_alloc, ↓opX_box, ↓opX_build, ↓opX_buildSlice, ↓opX_load, ↓opX_nilCheck, ↓opX_binOp, ↓opX_unOp, ↓opX_convert, ↓opX_makeFunc, ↓opX_makeSlice, ↓opX_slice, ↓opX_fieldAddr, ↓opX_field, ↓opX_indexAddr, ↓opX_index, ↓opX_extract, ↓opX_len, ↓opX_max, ↓opX_min, ↓exec_draw, ↓dk_nil, ↓dk_f, ↓dk_c, ↓pureK_eq, ↓fOne_none, ↓fOne_some, ↓re_cons, ↓PF_eq, ↓Fact_none, ↓Fact_some, ↓opX_callv, Int.reduceEq, Int.reduceNe, Int.reduceLT, Int.reduceLE, Int.reduceAdd, Int.reduceSub, Int.reduceMul, Int.reduceToNat, Int.reduceNeg, Int.reducePow, Nat.reduceEqDiff, Nat.reducePow, Nat.reduceAdd, Nat.reduceMul, Nat.reduceSub, Nat.reduceLeDiff, Nat.reduceLT, Nat.reduceBEq, reduceCtorEq]
  refine andI (by omega) (fun _ => ?_)
  split <;> rename_i hc
  · rw [if_pos (by omega)] at h; exact h
  · rw [if_neg (by omega)] at h; exact h
def cToI : Contract := ⟨[false], true, fun args ch K => ∃ (nf : Option Bool) (l : List Int), args = [.s (.d (.sl nf 1 (ints l)))] ∧ ch = [] ∧ l.length ≤ 1099511627776 ∧ K (.s (.own 0)) [.sl (some false) 1 (ints l)]⟩
theorem cToI_own : cToI.own = [false] := (_root_.id rfl)
theorem cToI_plain : cToI.plain = true := (_root_.id rfl)
theorem cToI_at {nf : Option Bool} {l : List Int} {K : AV → List Chunk → Prop} : specK cToI [.s (.d (.sl nf 1 (ints l)))] [] K = (l.length ≤ 1099511627776 ∧ K (.s (.own 0)) [.sl (some false) 1 (ints l)]) := by
  refine propext ⟨?_, fun h => ⟨_, _, rfl, rfl, h⟩⟩
  rintro ⟨nf', l', h1, h2, h⟩
  have h3 := And.intro h1 h2
  clear h1 h2
  simp only [List.cons.injEq, AV.s.injEq, AV.g.injEq, A.d.injEq, A.own.injEq, A.ptr.injEq, A.fn.injEq, D.v.injEq, D.sl.injEq, Chunk.box.injEq, Chunk.sl.injEq, Value.int.injEq, Value.bool.injEq, Value.string.injEq, Option.some.injEq, str_inj, ints_inj, strs_inj, encB_inj, eq_self, and_assoc, true_and, and_true, and_self] at h3
  obtain ⟨rfl, rfl⟩ := h3
  exact h
attribute [push_cast] cToI_own cToI_plain cToI_at
def x_toI_okG : FuncId → Option Contract := fun _ => none
def x_toI_okO : Nat → Ordr := fun _ => []
def x_toI_ok : Ctx := ⟨tabTT Tryd.tys, x_toI_okG, false, x_toI_okO⟩
theorem x_toI_ok_tt : x_toI_ok.tt = tabTT Tryd.tys := (_root_.id rfl)
theorem x_toI_ok_wr : x_toI_ok.wr = false := (_root_.id rfl)
theorem x_toI_ok_ok : CtxOk Proofs.Tryd.prog GW x_toI_ok := by
  refine ⟨Tryd.tys_ok, fun f C h => ?_, by kernel_rfl⟩
  cases h
attribute [push_cast] x_toI_ok_tt x_toI_ok_wr
theorem toI_ok : Ok Proofs.Tryd.prog GW 24 cToI := by
  refine fn_ok (c := x_toI_ok) x_toI_ok_ok Proofs.Tryd.func24 (code := _) rfl Proofs.Tryd.call24 (by kernel_rfl) ?_
  rintro args ch K ⟨nf, l, rfl, rfl, ⟨hl, h⟩⟩
  rw [Proofs.Tryd.ntmps24, Proofs.Tryd.results24]
  simp -dsimp only [push_cast, ↓reduceIte, ↓opsK_nil, ↓opsK_cons, ↓opG_none, ↓opG_some, ↓opX_store, ↓opX_append, ↓opX_call, ↓exec_skip, ↓exec_region, ↓exec_seq, ↓exec_cond, ↓exec_block, ↓exec_exit, ↓exec_ret, ↓opX_move, ↓opX_assign, ↓opX_pick, ↓opX_alloc, ↓opX_box, ↓opX_build, ↓opX_buildSlice, ↓opX_load, ↓opX_nilCheck, ↓opX_binOp, ↓opX_unOp, ↓opX_convert, ↓opX_makeFunc, ↓opX_makeSlice, ↓opX_slice, ↓opX_fieldAddr, ↓opX_field, ↓opX_indexAddr, ↓opX_index, ↓opX_extract, ↓opX_len, ↓opX_max, ↓opX_min, ↓exec_draw, ↓dk_nil, ↓dk_f, ↓dk_c, ↓pureK_eq, ↓fOne_none, ↓fOne_some, ↓re_cons, ↓PF_eq, ↓Fact_none, ↓Fact_some, ↓opX_callv, Int.reduceEq, Int.reduceNe, Int.reduceLT, Int.reduceLE, Int.reduceAdd, Int.reduceSub, Int.reduceMul, Int.reduceToNat, Int.reduceNeg, Int.reducePow, Nat.reduceEqDiff, Nat.reducePow, Nat.reduceAdd, Nat.reduceMul, Nat.reduceSub, Nat.reduceLeDiff, Nat.reduceLT, Nat.reduceBEq, reduceCtorEq]
  refine andI (by omega) (fun _ => ?_)
  refine loop_rule [(0, false), (3, false), (4, false)] (fun k : Nat => ([.s (.d (.sl nf 1 (ints l))), .s (.own 0), .s (.d (.v (.int .i64 (k))))], [.sl (some false) 1 (ints (l.take k ++ List.replicate (l.length - k) 0))])) (fun k => k ≤ l.length) (fun k => l.length - k) 0 ?_ ?_ ?_
  · simp
  · simp -dsimp only [push_cast, ↓reduceIte, ↓opsK_nil, ↓opsK_cons, ↓opG_none, ↓opG_some, ↓opX_store, ↓opX_append, ↓opX_call, ↓exec_skip, ↓exec_region, ↓exec_seq, ↓exec_cond, ↓exec_block, ↓exec_exit, ↓exec_ret, ↓opX_move, ↓opX_assign, ↓opX_pick, ↓opX_alloc, ↓opX_box, ↓opX_build, ↓opX_buildSlice, ↓opX_load, ↓opX_nilCheck, ↓opX_binOp, ↓opX_unOp, ↓opX_convert, ↓opX_makeFunc, ↓opX_makeSlice, ↓opX_slice, ↓opX_fieldAddr, ↓opX_field, ↓opX_indexAddr, ↓opX_index, ↓opX_extract, ↓opX_len, ↓opX_max, ↓opX_min, ↓exec_draw, ↓dk_nil, ↓dk_f, ↓dk_c, ↓pureK_eq, ↓fOne_none, ↓fOne_some, ↓re_cons, ↓PF_eq, ↓Fact_none, ↓Fact_some, ↓opX_callv, Int.reduceEq, Int.reduceNe, Int.reduceLT, Int.reduceLE, Int.reduceAdd, Int.reduceSub, Int.reduceMul, Int.reduceToNat, Int.reduceNeg, Int.reducePow, Nat.reduceEqDiff, Nat.reducePow, Nat.reduceAdd, Nat.reduceMul, Nat.reduceSub, Nat.reduceLeDiff, Nat.reduceLT, Nat.reduceBEq, reduceCtorEq]
    simp [ints]
  · intro k hk
    simp -dsimp only [push_cast, ↓reduceIte, ↓opsK_nil, ↓opsK_cons, ↓opG_none, ↓opG_some, ↓opX_store, ↓opX_append, ↓opX_call, ↓exec_skip, ↓exec_region, ↓exec_seq, ↓exec_cond, ↓exec_block, ↓exec_exit, ↓exec_ret, ↓opX_move, ↓opX_assign, ↓opX_pick, ↓opX_alloc, ↓opX_box, ↓opX_build, ↓opX_buildSlice, ↓opX_load, ↓opX_nilCheck, ↓opX_binOp, ↓opX_unOp, ↓opX_convert, ↓opX_makeFunc, ↓opX_makeSlice, ↓opX_slice, ↓opX_fieldAddr, ↓opX_field, ↓opX_indexAddr, ↓opX_index, ↓opX_extract, ↓opX_len, ↓opX_max, ↓opX_min, ↓exec_draw, ↓dk_nil, ↓dk_f, ↓dk_c, ↓pureK_eq, ↓fOne_none, ↓fOne_some, ↓re_cons, ↓PF_eq, ↓Fact_none, ↓Fact_some, ↓opX_callv, Int.reduceEq, Int.reduceNe, Int.reduceLT, Int.reduceLE, Int.reduceAdd, Int.reduceSub, Int.reduceMul, Int.reduceToNat, Int.reduceNeg, Int.reducePow, Nat.reduceEqDiff, Nat.reducePow, Nat.reduceAdd, Nat.reduceMul, Nat.reduceSub, Nat.reduceLeDiff, Nat.reduceLT, Nat.reduceBEq, reduceCtorEq]
    split
    · rename_i hlt
      repeat' (first | refine andI ?_ (fun _ => ?_) | refine And.intro ?_ ?_)
      any_goals first | omega | (simp only [InK]; omega) | (simp; omega)
      refine ⟨k + 1, by omega, ?_, by omega⟩
      have ht := take_getD (d := (0 : Int)) (show k < l.length by omega)
      have hr : List.replicate (l.length - k) (0 : Int) = 0 :: List.replicate (l.length - (k + 1)) 0 := by
        rw [show l.length - k = (l.length - (k + 1)) + 1 by omega]; rfl
      have hlk : (l.take k).length = k := by rw [List.length_take]; omega
      rw [ht, hr, List.set_append_right _ _ (by omega), hlk]
      simp
    · have h1 : l.take k = l := List.take_of_length_le (by omega)
      have h2 : l.length - k = 0 := by omega
      rw [h1, h2]
      simp only [List.replicate_zero, List.append_nil, ownV_t]
      exact h
def cEqI : Contract := ⟨[false, false], true, fun args ch K => ∃ (nf : Option Bool) (l : List Int) (nf2 : Option Bool) (m : List Int), args = [.s (.d (.sl nf 1 (ints l))), .s (.d (.sl nf2 1 (ints m)))] ∧ ch = [] ∧ l.length ≤ 1099511627776 ∧ K (.s (.d (.v (.bool (decide (l = m)))))) []⟩
theorem cEqI_own : cEqI.own = [false, false] := (_root_.id rfl)
theorem cEqI_plain : cEqI.plain = true := (_root_.id rfl)
theorem cEqI_at {nf : Option Bool} {l : List Int} {nf2 : Option Bool} {m : List Int} {K : AV → List Chunk → Prop} : specK cEqI [.s (.d (.sl nf 1 (ints l))), .s (.d (.sl nf2 1 (ints m)))] [] K = (l.length ≤ 1099511627776 ∧ K (.s (.d (.v (.bool (decide (l = m)))))) []) := by
  refine propext ⟨?_, fun h => ⟨_, _, _, _, rfl, rfl, h⟩⟩
  rintro ⟨nf', l', nf2', m', h1, h2, h⟩
  have h3 := And.intro h1 h2
  clear h1 h2
  simp only [List.cons.injEq, AV.s.injEq, AV.g.injEq, A.d.injEq, A.own.injEq, A.ptr.injEq, A.fn.injEq, D.v.injEq, D.sl.injEq, Chunk.box.injEq, Chunk.sl.injEq, Value.int.injEq, Value.bool.injEq, Value.string.injEq, Option.some.injEq, str_inj, ints_inj, strs_inj, encB_inj, eq_self, and_assoc, true_and, and_true, and_self] at h3
  obtain ⟨rfl, rfl, rfl, rfl⟩ := h3
  exact h
attribute [push_cast] cEqI_own cEqI_plain cEqI_at
def x_eqI_okG : FuncId → Option Contract := fun _ => none
def x_eqI_okO : Nat → Ordr
  | 6 => [(0, none), (1, none), (2, none), (3, none), (4, none), (5, none), (6, none), (7, none), (8, none)]
  | _ => []
def x_eqI_ok : Ctx := ⟨tabTT Tryd.tys, x_eqI_okG, false, x_eqI_okO⟩
theorem x_eqI_ok_tt : x_eqI_ok.tt = tabTT Tryd.tys := (_root_.id rfl)
theorem x_eqI_ok_wr : x_eqI_ok.wr = false := (_root_.id rfl)
theorem x_eqI_ok_o6 : x_eqI_ok.ord 6 = [(0, none), (1, none), (2, none), (3, none), (4, none), (5, none), (6, none), (7, none), (8, none)] := (_root_.id rfl)
theorem x_eqI_ok_ok : CtxOk Proofs.Tryd.prog GW x_eqI_ok := by
  refine ⟨Tryd.tys_ok, fun f C h => ?_, by kernel_rfl⟩
  cases h
attribute [push_cast] x_eqI_ok_tt x_eqI_ok_wr x_eqI_ok_o6
theorem eqI_ok : Ok Proofs.Tryd.prog GW 29 cEqI := by
  refine fn_ok (c := x_eqI_ok) x_eqI_ok_ok Proofs.Tryd.func29 (code := _) rfl Proofs.Tryd.call29 (by kernel_rfl) ?_
  rintro args ch K ⟨nf, l, nf2, m, rfl, rfl, ⟨hl, h⟩⟩
  rw [Proofs.Tryd.ntmps29, Proofs.Tryd.results29]
  simp -dsimp only [push_cast, ↓reduceIte, ↓opsK_nil, ↓opsK_cons, ↓opG_none, ↓opG_some, ↓opX_store, ↓opX_append, ↓opX_call, ↓exec_skip, ↓exec_region, ↓exec_seq, ↓exec_cond, ↓exec_block, ↓exec_exit, ↓exec_ret, ↓opX_move, ↓opX_assign, ↓opX_pick, ↓opX_alloc, ↓opX_box, ↓opX_build, ↓opX_buildSlice, ↓opX_load, ↓opX_nilCheck, ↓opX_binOp, ↓opX_unOp, ↓opX_convert, ↓opX_makeFunc, ↓opX_makeSlice, ↓opX_slice, ↓opX_fieldAddr, ↓opX_field, ↓opX_indexAddr, ↓opX_index, ↓opX_extract, ↓opX_len, ↓opX_max, ↓opX_min, ↓exec_draw, ↓dk_nil, ↓dk_f, ↓dk_c, ↓pureK_eq, ↓fOne_none, ↓fOne_some, ↓re_cons, ↓PF_eq, ↓Fact_none, ↓Fact_some, ↓opX_callv, Int.reduceEq, Int.reduceNe, Int.reduceLT, Int.reduceLE, Int.reduceAdd, Int.reduceSub, Int.reduceMul, Int.reduceToNat, Int.reduceNeg, Int.reducePow, Nat.reduceEqDiff, Nat.reducePow, Nat.reduceAdd, Nat.reduceMul, Nat.reduceSub, Nat.reduceLeDiff, Nat.reduceLT, Nat.reduceBEq, reduceCtorEq]
  have hK : ∀ b : Bool, b = decide (l = m) → K (.s (.d (.v (.bool b)))) [] := fun b e => e ▸ h
  clear h
  split
  · rename_i hn
    refine hK _ (Eq.symm ?_)
    simp only [decide_eq_false_iff_not]
    rintro rfl; exact hn rfl
  · rename_i hn
    have hlm : l.length = m.length := by omega
    refine loop_rule [(0, false), (1, false), (5, false)] (fun k : Nat => ([.s (.d (.sl nf 1 (ints l))), .s (.d (.sl nf2 1 (ints m))), .s (.d (.v (.int .i64 (k))))], [])) (fun k => k ≤ l.length ∧ l.take k = m.take k) (fun k => l.length - k) 0 ?_ ?_ ?_
    · simp
    · simp -dsimp only [push_cast, ↓reduceIte, ↓opsK_nil, ↓opsK_cons, ↓opG_none, ↓opG_some, ↓opX_store, ↓opX_append, ↓opX_call, ↓exec_skip, ↓exec_region, ↓exec_seq, ↓exec_cond, ↓exec_block, ↓exec_exit, ↓exec_ret, ↓opX_move, ↓opX_assign, ↓opX_pick, ↓opX_alloc, ↓opX_box, ↓opX_build, ↓opX_buildSlice, ↓opX_load, ↓opX_nilCheck, ↓opX_binOp, ↓opX_unOp, ↓opX_convert, ↓opX_makeFunc, ↓opX_makeSlice, ↓opX_slice, ↓opX_fieldAddr, ↓opX_field, ↓opX_indexAddr, ↓opX_index, ↓opX_extract, ↓opX_len, ↓opX_max, ↓opX_min, ↓exec_draw, ↓dk_nil, ↓dk_f, ↓dk_c, ↓pureK_eq, ↓fOne_none, ↓fOne_some, ↓re_cons, ↓PF_eq, ↓Fact_none, ↓Fact_some, ↓opX_callv, Int.reduceEq, Int.reduceNe, Int.reduceLT, Int.reduceLE, Int.reduceAdd, Int.reduceSub, Int.reduceMul, Int.reduceToNat, Int.reduceNeg, Int.reducePow, Nat.reduceEqDiff, Nat.reducePow, Nat.reduceAdd, Nat.reduceMul, Nat.reduceSub, Nat.reduceLeDiff, Nat.reduceLT, Nat.reduceBEq, reduceCtorEq]
      try rfl
    · intro k hk
      simp -dsimp only [push_cast, ↓reduceIte, ↓opsK_nil, ↓opsK_cons, ↓opG_none, ↓opG_some, ↓opX_store, ↓opX_append, ↓opX_call, ↓exec_skip, ↓exec_region, ↓exec_seq, ↓exec_cond, ↓exec_block, ↓exec_exit, ↓exec_ret, ↓opX_move, ↓opX_assign, ↓opX_pick, ↓opX_alloc, ↓opX_box, ↓opX_build, ↓opX_buildSlice, ↓opX_load, ↓opX_nilCheck, ↓opX_binOp, ↓opX_unOp, ↓opX_convert, ↓opX_makeFunc, ↓opX_makeSlice, ↓opX_slice, ↓opX_fieldAddr, ↓opX_field, ↓opX_indexAddr, ↓opX_index, ↓opX_extract, ↓opX_len, ↓opX_max, ↓opX_min, ↓exec_draw, ↓dk_nil, ↓dk_f, ↓dk_c, ↓pureK_eq, ↓fOne_none, ↓fOne_some, ↓re_cons, ↓PF_eq, ↓Fact_none, ↓Fact_some, ↓opX_callv, Int.reduceEq, Int.reduceNe, Int.reduceLT, Int.reduceLE, Int.reduceAdd, Int.reduceSub, Int.reduceMul, Int.reduceToNat, Int.reduceNeg, Int.reducePow, Nat.reduceEqDiff, Nat.reducePow, Nat.reduceAdd, Nat.reduceMul, Nat.reduceSub, Nat.reduceLeDiff, Nat.reduceLT, Nat.reduceBEq, reduceCtorEq]
      split
      · rename_i hlt
        have h1 := take_getD (d := (0 : Int)) (show k < l.length by omega)
        have h2 := take_getD (d := (0 : Int)) (show k < m.length by omega)
        refine andI (by omega) (fun _ => andI (by omega) (fun _ => ?_))
        split
        · rename_i hne
          refine hK _ (Eq.symm ?_)
          simp only [decide_eq_false_iff_not]
          rintro rfl; exact hne rfl
        · rename_i he
          have he' : l.getD k 0 = m.getD k 0 := by simpa using he
          refine andI (by omega) (fun _ => ⟨k + 1, ⟨by omega, by rw [h1, h2, hk.2, he']⟩, by simp, by omega⟩)
      · have e1 : l.take k = l := List.take_of_length_le (by omega)
        have e2 : m.take k = m := List.take_of_length_le (by omega)
        rw [e1, e2] at hk
        refine hK _ ?_
        simp [hk.2]
end Go.VC
end
section
namespace Go.VC
open Go Go.RowKit
set_option linter.unusedSimpArgs false
set_option linter.unusedVariables false
set_option maxRecDepth 100000
def dec (n : Int) : List UInt8 := Lib.decDigits n.toNat
def cItoa : Contract := ⟨[false], true, fun args ch K => ∃ (n : Int), args = [.s (.d (.v (.int .i64 (n))))] ∧ ch = [] ∧ 0 ≤ n ∧ n < 100 ∧ K (.s (.d (.v (.string (str (dec n)))))) []⟩
theorem cItoa_own : cItoa.own = [false] := (_root_.id rfl)
theorem cItoa_plain : cItoa.plain = true := (_root_.id rfl)
theorem cItoa_at {n : Int} {K : AV → List Chunk → Prop} : specK cItoa [.s (.d (.v (.int .i64 (n))))] [] K = (0 ≤ n ∧ n < 100 ∧ K (.s (.d (.v (.string (str (dec n)))))) []) := by
  refine propext ⟨?_, fun h => ⟨_, rfl, rfl, h⟩⟩
  rintro ⟨n', h1, h2, h⟩
  have h3 := And.intro h1 h2
  clear h1 h2
  simp only [List.cons.injEq, AV.s.injEq, AV.g.injEq, A.d.injEq, A.own.injEq, A.ptr.injEq, A.fn.injEq, D.v.injEq, D.sl.injEq, Chunk.box.injEq, Chunk.sl.injEq, Value.int.injEq, Value.bool.injEq, Value.string.injEq, Option.some.injEq, str_inj, ints_inj, strs_inj, encB_inj, eq_self, and_assoc, true_and, and_true, and_self] at h3
  subst h3
  exact h
attribute [push_cast] cItoa_own cItoa_plain cItoa_at
theorem itoa_ok : Ok Proofs.Tryd.prog GW 50 cItoa := by
  refine lib_ok Proofs.Tryd.call50 ?_
  rintro w ρ ch args vals K hR hG ha ⟨n, rfl, rfl, h0, hn, h⟩
  obtain ⟨v, rfl, hv⟩ := ha.one
  have := rdI hv
  subst this
  have h1 := Proofs.Tryd.strconv_Itoa_small n.toNat (by omega) w
  rw [Int.toNat_of_nonneg h0] at h1
  exact ⟨_, _, h1.mono (fun e w' ⟨h1, h2⟩ => ⟨h1, h2 ▸ Below.refl _ _⟩), h, fun w' _ => .v _ rfl, fun _ => ⟨trivial, by simp⟩⟩
def cDec : Contract := ⟨[false], true, fun args ch K => ∃ (n : Int), args = [.s (.d (.v (.int .i64 (n))))] ∧ ch = [] ∧ 0 ≤ n ∧ n < 100 ∧ K (.s (.d (.v (.string (str (dec n)))))) []⟩
theorem cDec_own : cDec.own = [false] := (_root_.id rfl)
theorem cDec_plain : cDec.plain = true := (_root_.id rfl)
theorem cDec_at {n : Int} {K : AV → List Chunk → Prop} : specK cDec [.s (.d (.v (.int .i64 (n))))] [] K = (0 ≤ n ∧ n < 100 ∧ K (.s (.d (.v (.string (str (dec n)))))) []) := by
  refine propext ⟨?_, fun h => ⟨_, rfl, rfl, h⟩⟩
  rintro ⟨n', h1, h2, h⟩
  have h3 := And.intro h1 h2
  clear h1 h2
  simp only [List.cons.injEq, AV.s.injEq, AV.g.injEq, A.d.injEq, A.own.injEq, A.ptr.injEq, A.fn.injEq, D.v.injEq, D.sl.injEq, Chunk.box.injEq, Chunk.sl.injEq, Value.int.injEq, Value.bool.injEq, Value.string.injEq, Option.some.injEq, str_inj, ints_inj, strs_inj, encB_inj, eq_self, and_assoc, true_and, and_true, and_self] at h3
  subst h3
  exact h
attribute [push_cast] cDec_own cDec_plain cDec_at
def x_dec_okG : FuncId → Option Contract
  | 50 => some cItoa
  | _ => none
def x_dec_okO : Nat → Ordr := fun _ => []
def x_dec_ok : Ctx := ⟨tabTT Tryd.tys, x_dec_okG, false, x_dec_okO⟩
theorem x_dec_ok_tt : x_dec_ok.tt = tabTT Tryd.tys := (_root_.id rfl)
theorem x_dec_ok_wr : x_dec_ok.wr = false := (_root_.id rfl)
theorem x_dec_ok_g50 : x_dec_ok.Γ 50 = some cItoa := (_root_.id rfl)
theorem x_dec_ok_ok : CtxOk Proofs.Tryd.prog GW x_dec_ok := by
  refine ⟨Tryd.tys_ok, fun f C h => ?_, by kernel_rfl⟩
  simp only [x_dec_ok, x_dec_okG] at h
  split at h
  · cases h; exact itoa_ok
  · cases h
attribute [push_cast] x_dec_ok_tt x_dec_ok_wr x_dec_ok_g50
theorem dec_ok : Ok Proofs.Tryd.prog GW 26 cDec := by
  refine fn_ok (c := x_dec_ok) x_dec_ok_ok Proofs.Tryd.func26 (code := _) rfl Proofs.Tryd.call26 (by kernel_rfl) ?_
  rintro args ch K ⟨n, rfl, rfl, ⟨h0, hn, h⟩⟩
  rw [Proofs.Tryd.ntmps26, Proofs.Tryd.results26]
  simp -dsimp only [push_cast, ↓reduceIte, ↓opsK_nil, ↓opsK_cons, ↓opG_none, ↓opG_some, ↓opX_store, ↓opX_append, ↓opX_call, ↓exec_skip, ↓exec_region, ↓exec_seq, ↓exec_cond, ↓exec_block, ↓exec_exit, ↓exec_ret, ↓opX_move, ↓opX_assign, ↓opX_pick, ↓opX_alloc, ↓opX_box, ↓opX_build, ↓opX_buildSlice, ↓opX_load, ↓opX_nilCheck, ↓opX_binOp, ↓opX_unOp, ↓opX_convert, ↓opX_makeFunc, ↓opX_makeSlice, ↓opX_slice, ↓opX_fieldAddr, ↓opX_field, ↓opX_indexAddr, ↓opX_index, ↓opX_extract, ↓opX_len, ↓opX_max, ↓opX_min, ↓exec_draw, ↓dk_nil, ↓dk_f, ↓dk_c, ↓pureK_eq, ↓fOne_none, ↓fOne_some, ↓re_cons, ↓PF_eq, ↓Fact_none, ↓Fact_some, ↓opX_callv, Int.reduceEq, Int.reduceNe, Int.reduceLT, Int.reduceLE, Int.reduceAdd, Int.reduceSub, Int.reduceMul, Int.reduceToNat, Int.reduceNeg, Int.reducePow, Nat.reduceEqDiff, Nat.reducePow, Nat.reduceAdd, Nat.reduceMul, Nat.reduceSub, Nat.reduceLeDiff, Nat.reduceLT, Nat.reduceBEq, reduceCtorEq]
  exact ⟨h0, hn, h⟩
def digs (l : List Int) : List UInt8 := l.flatMap dec
theorem digs_app (a b : List Int) : digs (a ++ b) = digs a ++ digs b := by simp [digs]
theorem digs_one (x : Int) : digs [x] = dec x := by simp [digs]
theorem dec_len (n : Int) (h : 0 ≤ n ∧ n < 100) : (dec n).length ≤ 2 := by
  have : ∀ k : Nat, k < 100 → (Lib.decDigits k).length ≤ 2 := by
    intro k hk
    rw [Lib.decDigits]
    split
    · simp
    · rw [Lib.decDigits]
      split
      · simp
      · omega
  exact this _ (by omega)
theorem digs_len (l : List Int) (h : ∀ x ∈ l, 0 ≤ x ∧ x < 100) : (digs l).length ≤ 2 * l.length := by
  induction l with
  | nil => simp [digs]
  | cons x l ih =>
    have h1 := dec_len x (h x (by simp))
    have h2 := ih (fun y hy => h y (by simp [hy]))
    simp only [digs, List.flatMap_cons, List.length_append, List.length_cons] at *
    omega
def cDigits : Contract := ⟨[false], true, fun args ch K => ∃ (nf : Option Bool) (l : List Int), args = [.s (.d (.sl nf 1 (ints l)))] ∧ ch = [] ∧ l.length ≤ 1099511627776 ∧ (∀ x ∈ l, 0 ≤ x ∧ x < 100) ∧ K (.s (.d (.v (.string (str (digs l)))))) []⟩
theorem cDigits_own : cDigits.own = [false] := (_root_.id rfl)
theorem cDigits_plain : cDigits.plain = true := (_root_.id rfl)
theorem cDigits_at {nf : Option Bool} {l : List Int} {K : AV → List Chunk → Prop} : specK cDigits [.s (.d (.sl nf 1 (ints l)))] [] K = (l.length ≤ 1099511627776 ∧ (∀ x ∈ l, 0 ≤ x ∧ x < 100) ∧ K (.s (.d (.v (.string (str (digs l)))))) []) := by
  refine propext ⟨?_, fun h => ⟨_, _, rfl, rfl, h⟩⟩
  rintro ⟨nf', l', h1, h2, h⟩
  have h3 := And.intro h1 h2
  clear h1 h2
  simp only [List.cons.injEq, AV.s.injEq, AV.g.injEq, A.d.injEq, A.own.injEq, A.ptr.injEq, A.fn.injEq, D.v.injEq, D.sl.injEq, Chunk.box.injEq, Chunk.sl.injEq, Value.int.injEq, Value.bool.injEq, Value.string.injEq, Option.some.injEq, str_inj, ints_inj, strs_inj, encB_inj, eq_self, and_assoc, true_and, and_true, and_self] at h3
  obtain ⟨rfl, rfl⟩ := h3
  exact h
attribute [push_cast] cDigits_own cDigits_plain cDigits_at
def x_digits_okG : FuncId → Option Contract
  | 26 => some cDec
  | _ => none
def x_digits_okO : Nat → Ordr := fun _ => []
def x_digits_ok : Ctx := ⟨tabTT Tryd.tys, x_digits_okG, false, x_digits_okO⟩
theorem x_digits_ok_tt : x_digits_ok.tt = tabTT Tryd.tys := (_root_.id rfl)
theorem x_digits_ok_wr : x_digits_ok.wr = false := (_root_.id rfl)
theorem x_digits_ok_g26 : x_digits_ok.Γ 26 = some cDec := (_root_.id rfl)
theorem x_digits_ok_ok : CtxOk Proofs.Tryd.prog GW x_digits_ok := by
  refine ⟨Tryd.tys_ok, fun f C h => ?_, by kernel_rfl⟩
  simp only [x_digits_ok, x_digits_okG] at h
  split at h
  · cases h; exact dec_ok
  · cases h
attribute [push_cast] x_digits_ok_tt x_digits_ok_wr x_digits_ok_g26
theorem digits_ok : Ok Proofs.Tryd.prog GW 28 cDigits := by
  refine fn_ok (c := x_digits_ok) x_digits_ok_ok Proofs.Tryd.func28 (code := _) rfl Proofs.Tryd.call28 (by kernel_rfl) ?_
  rintro args ch K ⟨nf, l, rfl, rfl, ⟨hl, hx, h⟩⟩
  rw [Proofs.Tryd.ntmps28, Proofs.Tryd.results28]
  simp -dsimp only [push_cast, ↓reduceIte, ↓opsK_nil, ↓opsK_cons, ↓opG_none, ↓opG_some, ↓opX_store, ↓opX_append, ↓opX_call, ↓exec_skip, ↓exec_region, ↓exec_seq, ↓exec_cond, ↓exec_block, ↓exec_exit, ↓exec_ret, ↓opX_move, ↓opX_assign, ↓opX_pick, ↓opX_alloc, ↓opX_box, ↓opX_build, ↓opX_buildSlice, ↓opX_load, ↓opX_nilCheck, ↓opX_binOp, ↓opX_unOp, ↓opX_convert, ↓opX_makeFunc, ↓opX_makeSlice, ↓opX_slice, ↓opX_fieldAddr, ↓opX_field, ↓opX_indexAddr, ↓opX_index, ↓opX_extract, ↓opX_len, ↓opX_max, ↓opX_min, ↓exec_draw, ↓dk_nil, ↓dk_f, ↓dk_c, ↓pureK_eq, ↓fOne_none, ↓fOne_some, ↓re_cons, ↓PF_eq, ↓Fact_none, ↓Fact_some, ↓opX_callv, Int.reduceEq, Int.reduceNe, Int.reduceLT, Int.reduceLE, Int.reduceAdd, Int.reduceSub, Int.reduceMul, Int.reduceToNat, Int.reduceNeg, Int.reducePow, Nat.reduceEqDiff, Nat.reducePow, Nat.reduceAdd, Nat.reduceMul, Nat.reduceSub, Nat.reduceLeDiff, Nat.reduceLT, Nat.reduceBEq, reduceCtorEq]
  refine loop_rule [(0, false), (3, false), (6, false), (7, false), (8, false)] (fun k : Nat => ([.s (.d (.sl nf 1 (ints l))), .s (.d (.v (.string (str (digs (l.take k)))))), .s (.d (.sl nf 1 (ints l))), .s (.d (.v (.int .i64 (l.length)))), .s (.d (.v (.int .i64 (k))))], [])) (fun k => k ≤ l.length) (fun k => l.length - k) 0 ?_ ?_ ?_
  · simp
  · simp -dsimp only [push_cast, ↓reduceIte, ↓opsK_nil, ↓opsK_cons, ↓opG_none, ↓opG_some, ↓opX_store, ↓opX_append, ↓opX_call, ↓exec_skip, ↓exec_region, ↓exec_seq, ↓exec_cond, ↓exec_block, ↓exec_exit, ↓exec_ret, ↓opX_move, ↓opX_assign, ↓opX_pick, ↓opX_alloc, ↓opX_box, ↓opX_build, ↓opX_buildSlice, ↓opX_load, ↓opX_nilCheck, ↓opX_binOp, ↓opX_unOp, ↓opX_convert, ↓opX_makeFunc, ↓opX_makeSlice, ↓opX_slice, ↓opX_fieldAddr, ↓opX_field, ↓opX_indexAddr, ↓opX_index, ↓opX_extract, ↓opX_len, ↓opX_max, ↓opX_min, ↓exec_draw, ↓dk_nil, ↓dk_f, ↓dk_c, ↓pureK_eq, ↓fOne_none, ↓fOne_some, ↓re_cons, ↓PF_eq, ↓Fact_none, ↓Fact_some, ↓opX_callv, Int.reduceEq, Int.reduceNe, Int.reduceLT, Int.reduceLE, Int.reduceAdd, Int.reduceSub, Int.reduceMul, Int.reduceToNat, Int.reduceNeg, Int.reducePow, Nat.reduceEqDiff, Nat.reducePow, Nat.reduceAdd, Nat.reduceMul, Nat.reduceSub, Nat.reduceLeDiff, Nat.reduceLT, Nat.reduceBEq, reduceCtorEq]
    rfl
  · intro k hk
    simp -dsimp only [push_cast, ↓reduceIte, ↓opsK_nil, ↓opsK_cons, ↓opG_none, ↓opG_some, ↓opX_store, ↓opX_append, ↓opX_call, ↓exec_skip, ↓exec_region, ↓exec_seq, ↓exec_cond, ↓exec_block, ↓exec_exit, ↓exec_ret, ↓opX_move, ↓opX_assign, ↓opX_pick, ↓opX_alloc, ↓opX_box, ↓opX_build, ↓opX_buildSlice, ↓opX_load, ↓opX_nilCheck, ↓opX_binOp, ↓opX_unOp, ↓opX_convert, ↓opX_makeFunc, ↓opX_makeSlice, ↓opX_slice, ↓opX_fieldAddr, ↓opX_field, ↓opX_indexAddr, ↓opX_index, ↓opX_extract, ↓opX_len, ↓opX_max, ↓opX_min, ↓exec_draw, ↓dk_nil, ↓dk_f, ↓dk_c, ↓pureK_eq, ↓fOne_none, ↓fOne_some, ↓re_cons, ↓PF_eq, ↓Fact_none, ↓Fact_some, ↓opX_callv, Int.reduceEq, Int.reduceNe, Int.reduceLT, Int.reduceLE, Int.reduceAdd, Int.reduceSub, Int.reduceMul, Int.reduceToNat, Int.reduceNeg, Int.reducePow, Nat.reduceEqDiff, Nat.reducePow, Nat.reduceAdd, Nat.reduceMul, Nat.reduceSub, Nat.reduceLeDiff, Nat.reduceLT, Nat.reduceBEq, reduceCtorEq]
    split
    · rename_i hlt
      have hlt' : k < l.length := by omega
      have ht := take_getD (d := (0 : Int)) hlt'
      have hd := digs_len (l.take k) (fun x h => hx x (List.mem_of_mem_take h))
      rw [List.length_take] at hd
      have hm : l.getD k 0 ∈ l := by rw [List.getD_eq_getElem?_getD]; simp [hlt']
      have hb := hx _ hm
      have hdl := dec_len _ hb
      refine ⟨by omega, fun _ => ⟨hb.1, hb.2, ⟨by omega, fun _ => ⟨by omega, fun _ => ⟨k + 1, by omega, ?_, by omega⟩⟩⟩⟩⟩
      rw [ht, digs_app, digs_one]
      simp
    · have : l.take k = l := List.take_of_length_le (by omega)
      rw [this]; exact h
def cJoin : Contract := ⟨[false, false], true, fun args ch K => ∃ (nf : Option Bool) (l : List (List UInt8)) (s : List UInt8), args = [.s (.d (.sl nf 1 (strs l))), .s (.d (.v (.string (str s))))] ∧ ch = [] ∧ (Lib.join l s).length ≤ 140737488355328 ∧ l.length ≤ 140737488355328 ∧ K (.s (.d (.v (.string (str (Lib.join l s)))))) []⟩
theorem cJoin_own : cJoin.own = [false, false] := (_root_.id rfl)
theorem cJoin_plain : cJoin.plain = true := (_root_.id rfl)
theorem cJoin_at {nf : Option Bool} {l : List (List UInt8)} {s : List UInt8} {K : AV → List Chunk → Prop} : specK cJoin [.s (.d (.sl nf 1 (strs l))), .s (.d (.v (.string (str s))))] [] K = ((Lib.join l s).length ≤ 140737488355328 ∧ l.length ≤ 140737488355328 ∧ K (.s (.d (.v (.string (str (Lib.join l s)))))) []) := by
  refine propext ⟨?_, fun h => ⟨_, _, _, rfl, rfl, h⟩⟩
  rintro ⟨nf', l', s', h1, h2, h⟩
  have h3 := And.intro h1 h2
  clear h1 h2
  simp only [List.cons.injEq, AV.s.injEq, AV.g.injEq, A.d.injEq, A.own.injEq, A.ptr.injEq, A.fn.injEq, D.v.injEq, D.sl.injEq, Chunk.box.injEq, Chunk.sl.injEq, Value.int.injEq, Value.bool.injEq, Value.string.injEq, Option.some.injEq, str_inj, ints_inj, strs_inj, encB_inj, eq_self, and_assoc, true_and, and_true, and_self] at h3
  obtain ⟨rfl, rfl, rfl⟩ := h3
  exact h
attribute [push_cast] cJoin_own cJoin_plain cJoin_at
theorem join_ok : Ok Proofs.Tryd.prog GW 27 cJoin := by
  refine lib_ok Proofs.Tryd.call27 ?_
  rintro w ρ ch args vals K hR hG ha ⟨nf, l, s, rfl, rfl, hlen, hl, h⟩
  obtain ⟨v, u, rfl, hv, hu⟩ := ha.two
  have := rdS hu
  subst this
  have hm : (l.map str).map (fun b => b.data.toList) = l := by
    rw [List.map_map]; conv => rhs; rw [← List.map_id l]
    exact List.map_congr_left (fun x _ => rfl)
  refine ⟨_, _, ?_, h, fun w' _ => .v _ rfl, fun _ => ⟨trivial, by simp⟩⟩
  obtain ⟨cells, hcase⟩ : ∃ x, x = strs l := ⟨_, rfl⟩
  rw [← hcase] at hv
  cases hv with
  | nil _ _ hn =>
    have : l = [] := by
      cases l with
      | nil => rfl
      | cons a l => simp [strs] at hcase
    subst this
    exact (Proofs.Tryd.strings_Join_none none 0 (str s) w).mono (fun e w' ⟨h1, h2⟩ => ⟨h1, h2 ▸ Below.refl _ _⟩)
  | sl _ _ _ b off cap f hn hl2 hw hc hr =>
    subst hcase
    have hcell : ∀ (j : Nat) x, (l.map str)[j]? = some x → w.cell? ⟨b, off + j, none⟩ = some (.string x) := by
      intro j x hx
      have hg : getc (strs l) j 0 = some (.v (.string x)) := by
        rw [List.getElem?_map] at hx
        simp only [getc, strs, List.getElem?_map]
        cases hq : l[j]? with
        | none => simp [hq] at hx
        | some y => simp [hq] at hx; subst hx; rfl
      have h1 := hc j 0 _ hg
      have h2 := hr j 0 _ hg
      have h3 : f j 0 = .string x := by
        generalize f j 0 = y at h2
        cases h2; rfl
      rw [h3] at h1
      simpa using h1.2
    have hb : l ≠ [] → b < w.heap.size := by
      intro hne
      cases l with
      | nil => exact absurd rfl hne
      | cons a l => exact cell_lt (hcell 0 (str a) rfl)
    by_cases hne : l = []
    · subst hne
      exact (Proofs.Tryd.strings_Join_none (some ⟨b, off, none⟩) cap (str s) w).mono (fun e w' ⟨h1, h2⟩ => ⟨h1, h2 ▸ Below.refl _ _⟩)
    · have := Proofs.Tryd.strings_Join b off cap (l.map str) (str s) w hcell (hb hne) (by simpa using hl) (by simpa [strs] using hl2) (by rw [hm]; exact hlen)
      rw [hm] at this
      simp only [List.length_map] at this
      simp only [strs_len]
      exact this
end Go.VC
end
section
namespace Go.VC
open Go Go.RowKit
set_option linter.unusedSimpArgs false
set_option linter.unusedVariables false
set_option maxRecDepth 100000
def hdrOk (w h q : Int) (l : List Int) : Bool := decide (sidesOk w h = true ∧ (0 ≤ q ∧ q ≤ 51) ∧ codeOk l = true)
def cHdrOk : Contract := ⟨[false], true, fun args ch K => ∃ (w h q : Int) (bp db : Bool) (nf : Option Bool) (l : List Int), args = [.g [.d (.v (.int .i64 w)), .d (.v (.int .i64 h)), .d (.v (.int .i64 q)), .d (.v (.bool bp)), .d (.v (.bool db)), .d (.sl nf 1 (ints l))]] ∧ ch = [] ∧ l.length ≤ 1099511627776 ∧ K (.s (.d (.v (.bool (hdrOk w h q l))))) []⟩
theorem cHdrOk_own : cHdrOk.own = [false] := (_root_.id rfl)
theorem cHdrOk_plain : cHdrOk.plain = true := (_root_.id rfl)
theorem cHdrOk_at {w h q : Int} {bp db : Bool} {nf : Option Bool} {l : List Int} {K : AV → List Chunk → Prop} : specK cHdrOk [.g [.d (.v (.int .i64 w)), .d (.v (.int .i64 h)), .d (.v (.int .i64 q)), .d (.v (.bool bp)), .d (.v (.bool db)), .d (.sl nf 1 (ints l))]] [] K = (l.length ≤ 1099511627776 ∧ K (.s (.d (.v (.bool (hdrOk w h q l))))) []) := by
  refine propext ⟨?_, fun h => ⟨_, _, _, _, _, _, _, rfl, rfl, h⟩⟩
  rintro ⟨w', h', q', bp', db', nf', l', h1, h2, h⟩
  have h3 := And.intro h1 h2
  clear h1 h2
  simp only [List.cons.injEq, AV.s.injEq, AV.g.injEq, A.d.injEq, A.own.injEq, A.ptr.injEq, A.fn.injEq, D.v.injEq, D.sl.injEq, Chunk.box.injEq, Chunk.sl.injEq, Value.int.injEq, Value.bool.injEq, Value.string.injEq, Option.some.injEq, str_inj, ints_inj, strs_inj, encB_inj, eq_self, and_assoc, true_and, and_true, and_self] at h3
  obtain ⟨rfl, rfl, rfl, rfl, rfl, rfl, rfl⟩ := h3
  exact h
attribute [push_cast] cHdrOk_own cHdrOk_plain cHdrOk_at
def x_hdrOk_okG : FuncId → Option Contract
  | 47 => some cSides
  | 48 => some cWithin
  | 49 => some cCode
  | _ => none
def x_hdrOk_okO : Nat → Ordr := fun _ => []
def x_hdrOk_ok : Ctx := ⟨tabTT Tryd.tys, x_hdrOk_okG, false, x_hdrOk_okO⟩
theorem x_hdrOk_ok_tt : x_hdrOk_ok.tt = tabTT Tryd.tys := (_root_.id rfl)
theorem x_hdrOk_ok_wr : x_hdrOk_ok.wr = false := (_root_.id rfl)
theorem x_hdrOk_ok_g47 : x_hdrOk_ok.Γ 47 = some cSides := (_root_.id rfl)
theorem x_hdrOk_ok_g48 : x_hdrOk_ok.Γ 48 = some cWithin := (_root_.id rfl)
theorem x_hdrOk_ok_g49 : x_hdrOk_ok.Γ 49 = some cCode := (_root_.id rfl)
theorem x_hdrOk_ok_ok : CtxOk Proofs.Tryd.prog GW x_hdrOk_ok := by
  refine ⟨Tryd.tys_ok, fun f C h => ?_, by kernel_rfl⟩
  simp only [x_hdrOk_ok, x_hdrOk_okG] at h
  split at h
  · cases h; exact sides_ok
  · cases h; exact within_ok
  · cases h; exact code_ok
  · cases h
attribute [push_cast] x_hdrOk_ok_tt x_hdrOk_ok_wr x_hdrOk_ok_g47 x_hdrOk_ok_g48 x_hdrOk_ok_g49
theorem hdrOk_ok : Ok Proofs.Tryd.prog GW 25 cHdrOk := by
  refine fn_ok (c := x_hdrOk_ok) x_hdrOk_ok_ok Proofs.Tryd.func25 (code := _) rfl Proofs.Tryd.call25 (by kernel_rfl) ?_
  rintro args ch K ⟨w, h, q, bp, db, nf, l, rfl, rfl, ⟨hl, hh⟩⟩
  rw [Proofs.Tryd.ntmps25, Proofs.Tryd.results25]
  simp -dsimp only [push_cast, ↓reduceIte, ↓opsK_nil, ↓opsK_cons, ↓opG_none, ↓opG_some, ↓opX_store, ↓opX_append, ↓opX_call, ↓exec_skip, ↓exec_region, ↓exec_seq, ↓exec_cond, ↓exec_block, ↓exec_exit, ↓exec_ret, ↓opX_move, ↓opX_assign, ↓opX_pick, ↓opX_alloc, ↓opX_box, ↓opX_build, ↓opX_buildSlice, ↓opX_load, ↓opX_nilCheck, ↓opX_binOp, ↓opX_unOp, ↓opX_convert, ↓opX_makeFunc, ↓opX_makeSlice, ↓opX_slice, ↓opX_fieldAddr, ↓opX_field, ↓opX_indexAddr, ↓opX_index, ↓opX_extract, ↓opX_len, ↓opX_max, ↓opX_min, ↓exec_draw, ↓dk_nil, ↓dk_f, ↓dk_c, ↓pureK_eq, ↓fOne_none, ↓fOne_some, ↓re_cons, ↓PF_eq, ↓Fact_none, ↓Fact_some, ↓opX_callv, Int.reduceEq, Int.reduceNe, Int.reduceLT, Int.reduceLE, Int.reduceAdd, Int.reduceSub, Int.reduceMul, Int.reduceToNat, Int.reduceNeg, Int.reducePow, Nat.reduceEqDiff, Nat.reducePow, Nat.reduceAdd, Nat.reduceMul, Nat.reduceSub, Nat.reduceLeDiff, Nat.reduceLT, Nat.reduceBEq, reduceCtorEq]
  have hK : ∀ b : Bool, b = hdrOk w h q l → K (.s (.d (.v (.bool b)))) [] := fun b e => e ▸ hh
  clear hh
  split
  · rename_i h1
    split
    · rename_i h2
      refine ⟨hl, hK _ ?_⟩
      simp only [hdrOk, h1, h2, true_and]
      cases codeOk l <;> simp
    · rename_i h2
      refine hK _ (Eq.symm ?_)
      simp only [hdrOk, decide_eq_false_iff_not]
      exact fun h => h2 h.2.1
  · rename_i h1
    refine hK _ (Eq.symm ?_)
    simp only [hdrOk, decide_eq_false_iff_not]
    exact fun h => h1 h.1
def showI (w h q : Int) (bp db : Bool) (l : List Int) : List UInt8 :=
  if hdrOk w h q l = true then Lib.join ([dec w ++ [120] ++ dec h, [113] ++ dec q] ++ (if bp = true then [[98, 121, 112, 97, 115, 115]] else []) ++ (if db = true then [[100, 101, 98, 108, 111, 99, 107]] else []) ++ [digs l]) [32] else []
def cShow : Contract := ⟨[false], true, fun args ch K => ∃ (w h q : Int) (bp db : Bool) (nf : Option Bool) (l : List Int), args = [.g [.d (.v (.int .i64 w)), .d (.v (.int .i64 h)), .d (.v (.int .i64 q)), .d (.v (.bool bp)), .d (.v (.bool db)), .d (.sl nf 1 (ints l))]] ∧ ch = [] ∧ l.length ≤ 1099511627776 ∧ K (.s (.d (.v (.string (str (showI w h q bp db l)))))) []⟩
theorem cShow_own : cShow.own = [false] := (_root_.id rfl)
theorem cShow_plain : cShow.plain = true := (_root_.id rfl)
theorem cShow_at {w h q : Int} {bp db : Bool} {nf : Option Bool} {l : List Int} {K : AV → List Chunk → Prop} : specK cShow [.g [.d (.v (.int .i64 w)), .d (.v (.int .i64 h)), .d (.v (.int .i64 q)), .d (.v (.bool bp)), .d (.v (.bool db)), .d (.sl nf 1 (ints l))]] [] K = (l.length ≤ 1099511627776 ∧ K (.s (.d (.v (.string (str (showI w h q bp db l)))))) []) := by
  refine propext ⟨?_, fun h => ⟨_, _, _, _, _, _, _, rfl, rfl, h⟩⟩
  rintro ⟨w', h', q', bp', db', nf', l', h1, h2, h⟩
  have h3 := And.intro h1 h2
  clear h1 h2
  simp only [List.cons.injEq, AV.s.injEq, AV.g.injEq, A.d.injEq, A.own.injEq, A.ptr.injEq, A.fn.injEq, D.v.injEq, D.sl.injEq, Chunk.box.injEq, Chunk.sl.injEq, Value.int.injEq, Value.bool.injEq, Value.string.injEq, Option.some.injEq, str_inj, ints_inj, strs_inj, encB_inj, eq_self, and_assoc, true_and, and_true, and_self] at h3
  obtain ⟨rfl, rfl, rfl, rfl, rfl, rfl, rfl⟩ := h3
  exact h
attribute [push_cast] cShow_own cShow_plain cShow_at
def x_show_okG : FuncId → Option Contract
  | 25 => some cHdrOk
  | 26 => some cDec
  | 28 => some cDigits
  | 27 => some cJoin
  | _ => none
def x_show_okO : Nat → Ordr
  | 3 => [(0, none), (1, none), (4, none), (5, none), (8, none), (9, none), (2, some [4, 5, 8, 9]), (3, none), (6, some [8, 9, 3]), (7, none), (10, some [3, 7]), (11, none), (12, some []), (13, some [])]
  | _ => []
def x_show_ok : Ctx := ⟨tabTT Tryd.tys, x_show_okG, false, x_show_okO⟩
theorem x_show_ok_tt : x_show_ok.tt = tabTT Tryd.tys := (_root_.id rfl)
theorem x_show_ok_wr : x_show_ok.wr = false := (_root_.id rfl)
theorem x_show_ok_g25 : x_show_ok.Γ 25 = some cHdrOk := (_root_.id rfl)
theorem x_show_ok_g26 : x_show_ok.Γ 26 = some cDec := (_root_.id rfl)
theorem x_show_ok_g28 : x_show_ok.Γ 28 = some cDigits := (_root_.id rfl)
theorem x_show_ok_g27 : x_show_ok.Γ 27 = some cJoin := (_root_.id rfl)
theorem x_show_ok_o3 : x_show_ok.ord 3 = [(0, none), (1, none), (4, none), (5, none), (8, none), (9, none), (2, some [4, 5, 8, 9]), (3, none), (6, some [8, 9, 3]), (7, none), (10, some [3, 7]), (11, none), (12, some []), (13, some [])] := (_root_.id rfl)
theorem x_show_ok_ok : CtxOk Proofs.Tryd.prog GW x_show_ok := by
  refine ⟨Tryd.tys_ok, fun f C h => ?_, by kernel_rfl⟩
  simp only [x_show_ok, x_show_okG] at h
  split at h
  · cases h; exact hdrOk_ok
  · cases h; exact dec_ok
  · cases h; exact digits_ok
  · cases h; exact join_ok
  · cases h
attribute [push_cast] x_show_ok_tt x_show_ok_wr x_show_ok_g25 x_show_ok_g26 x_show_ok_g28 x_show_ok_g27 x_show_ok_o3
theorem show_ok : Ok Proofs.Tryd.prog GW 9 cShow := by
  refine fn_ok (c := x_show_ok) x_show_ok_ok Proofs.Tryd.func9 (code := _) rfl Proofs.Tryd.call9 (by kernel_rfl) ?_
  rintro args ch K ⟨w, h, q, bp, db, nf, l, rfl, rfl, ⟨hl, hh⟩⟩
  rw [Proofs.Tryd.ntmps9, Proofs.Tryd.results9]
  simp -dsimp only [push_cast, ↓reduceIte, ↓opsK_nil, ↓opsK_cons, ↓opG_none, ↓opG_some, ↓opX_store, ↓opX_append, ↓opX_call, ↓exec_skip, ↓exec_region, ↓exec_seq, ↓exec_cond, ↓exec_block, ↓exec_exit, ↓exec_ret, ↓opX_move, ↓opX_assign, ↓opX_pick, ↓opX_alloc, ↓opX_box, ↓opX_build, ↓opX_buildSlice, ↓opX_load, ↓opX_nilCheck, ↓opX_binOp, ↓opX_unOp, ↓opX_convert, ↓opX_makeFunc, ↓opX_makeSlice, ↓opX_slice, ↓opX_fieldAddr, ↓opX_field, ↓opX_indexAddr, ↓opX_index, ↓opX_extract, ↓opX_len, ↓opX_max, ↓opX_min, ↓exec_draw, ↓dk_nil, ↓dk_f, ↓dk_c, ↓pureK_eq, ↓fOne_none, ↓fOne_some, ↓re_cons, ↓PF_eq, ↓Fact_none, ↓Fact_some, ↓opX_callv, Int.reduceEq, Int.reduceNe, Int.reduceLT, Int.reduceLE, Int.reduceAdd, Int.reduceSub, Int.reduceMul, Int.reduceToNat, Int.reduceNeg, Int.reducePow, Nat.reduceEqDiff, Nat.reducePow, Nat.reduceAdd, Nat.reduceMul, Nat.reduceSub, Nat.reduceLeDiff, Nat.reduceLT, Nat.reduceBEq, reduceCtorEq]
  refine ⟨hl, ?_⟩
  split
  · rename_i hn
    simp only [showI, hn, Bool.false_eq_true, if_false] at hh
    exact hh
  · rename_i hn
    have hok : hdrOk w h q l = true := by simpa using hn
    have hp := hok
    simp only [hdrOk, sidesOk, codeOk, decide_eq_true_eq] at hp
    have hx : ∀ x ∈ l, 0 ≤ x ∧ x < 100 := fun x hx => by have := hp.2.2.2.1 x hx; omega
    have d1 := dec_len w (by omega)
    have d2 := dec_len h (by omega)
    have d3 := dec_len q (by omega)
    have d4 := digs_len l hx
    have hl6 := hp.2.2.1
    simp only [showI, hok, if_true] at hh
    refine ⟨by omega, by omega, ⟨by omega, fun _ => ⟨by omega, by omega, by omega, ⟨by omega, fun _ => ⟨by omega, by omega, by omega, by omega, ⟨by omega, fun _ => ?_⟩⟩⟩⟩⟩⟩
    split <;> rename_i hb <;> simp only [hb, if_true, if_false, Bool.false_eq_true] at hh <;> split <;> rename_i hd <;> simp only [hd, if_true, if_false, Bool.false_eq_true] at hh
    all_goals (refine ⟨hl, hx, ?_, by simpa using hh⟩; simp [Lib.join, List.intercalate]; omega)
end Go.VC
end
section
namespace Go.VC
open Go Go.RowKit
set_option linter.unusedSimpArgs false
set_option linter.unusedVariables false
set_option maxRecDepth 100000
def x_s_within_okG : FuncId → Option Contract := fun _ => none
def x_s_within_okO : Nat → Ordr := fun _ => []
def x_s_within_ok : Ctx := ⟨tabTT Tryd.tys, x_s_within_okG, false, x_s_within_okO⟩
theorem x_s_within_ok_tt : x_s_within_ok.tt = tabTT Tryd.tys := (_root_.id rfl)
theorem x_s_within_ok_wr : x_s_within_ok.wr = false := (_root_.id rfl)
theorem x_s_within_ok_ok : CtxOk Proofs.Tryd.prog GW x_s_within_ok := by
  refine ⟨Tryd.tys_ok, fun f C h => ?_, by kernel_rfl⟩
  cases h
attribute [push_cast] x_s_within_ok_tt x_s_within_ok_wr
theorem s_within_ok : Ok Proofs.Tryd.prog GW 70 cWithin := by
  refine fn_ok (c := x_s_within_ok) x_s_within_ok_ok Proofs.Tryd.func70 (code := _) rfl Proofs.Tryd.call70 (by kernel_rfl) ?_
  rintro args ch K ⟨x, lo, hi, rfl, rfl, h⟩
  rw [Proofs.Tryd.ntmps70, Proofs.Tryd.results70]
  simp -dsimp only [push_cast, ↓reduceIte, ↓opsK_nil, ↓opsK_cons, ↓opG_none, ↓opG_some, ↓opX_store, ↓opX_append, ↓opX_call, ↓exec_skip, ↓exec_region, ↓exec_seq, ↓exec_cond, ↓exec_block, ↓exec_exit, ↓exec_ret, ↓opX_move, ↓opX_assign, ↓opX_pick, ↓opX_alloc, ↓opX_box, ↓opX_build, ↓opX_buildSlice, ↓opX_load, ↓opX_nilCheck, ↓opX_binOp, ↓opX_unOp, ↓opX_convert, ↓opX_makeFunc, ↓opX_makeSlice, ↓opX_slice, ↓opX_fieldAddr, ↓opX_field, ↓opX_indexAddr, ↓opX_index, ↓opX_extract, ↓opX_len, ↓opX_max, ↓opX_min, ↓exec_draw, ↓dk_nil, ↓dk_f, ↓dk_c, ↓pureK_eq, ↓fOne_none, ↓fOne_some, ↓re_cons, ↓PF_eq, ↓Fact_none, ↓Fact_some, ↓opX_callv, Int.reduceEq, Int.reduceNe, Int.reduceLT, Int.reduceLE, Int.reduceAdd, Int.reduceSub, Int.reduceMul, Int.reduceToNat, Int.reduceNeg, Int.reducePow, Nat.reduceEqDiff, Nat.reducePow, Nat.reduceAdd, Nat.reduceMul, Nat.reduceSub, Nat.reduceLeDiff, Nat.reduceLT, Nat.reduceBEq, reduceCtorEq]
  have hK : ∀ b : Bool, b = decide (lo ≤ x ∧ x ≤ hi) → K (.s (.d (.v (.bool b)))) [] := fun b e => e ▸ h
  clear h
  try simp only [andK_def, InK]
  repeat' first | (refine And.intro ?_ ?_) | (intro _) | split
  all_goals first | omega | (refine hK _ ?_; rw [Bool.eq_iff_iff]; simp only [decide_eq_true_eq, Bool.false_eq_true, false_iff, iff_false, true_iff, iff_true]; first | omega | (try rw [Int.tmod_eq_emod_of_nonneg (by omega)] at *; omega))
def x_s_sides_okG : FuncId → Option Contract
  | 70 => some cWithin
  | _ => none
def x_s_sides_okO : Nat → Ordr := fun _ => []
def x_s_sides_ok : Ctx := ⟨tabTT Tryd.tys, x_s_sides_okG, false, x_s_sides_okO⟩
theorem x_s_sides_ok_tt : x_s_sides_ok.tt = tabTT Tryd.tys := (_root_.id rfl)
theorem x_s_sides_ok_wr : x_s_sides_ok.wr = false := (_root_.id rfl)
theorem x_s_sides_ok_g70 : x_s_sides_ok.Γ 70 = some cWithin := (_root_.id rfl)
theorem x_s_sides_ok_ok : CtxOk Proofs.Tryd.prog GW x_s_sides_ok := by
  refine ⟨Tryd.tys_ok, fun f C h => ?_, by kernel_rfl⟩
  simp only [x_s_sides_ok, x_s_sides_okG] at h
  split at h
  · cases h; exact s_within_ok
  · cases h
attribute [push_cast] x_s_sides_ok_tt x_s_sides_ok_wr x_s_sides_ok_g70
theorem s_sides_ok : Ok Proofs.Tryd.prog GW 44 cSides := by
  refine fn_ok (c := x_s_sides_ok) x_s_sides_ok_ok Proofs.Tryd.func44 (code := _) rfl Proofs.Tryd.call44 (by kernel_rfl) ?_
  rintro args ch K ⟨x, y, rfl, rfl, h⟩
  rw [Proofs.Tryd.ntmps44, Proofs.Tryd.results44]
  simp -dsimp only [push_cast, ↓reduceIte, ↓opsK_nil, ↓opsK_cons, ↓opG_none, ↓opG_some, ↓opX_store, ↓opX_append, ↓opX_call, ↓exec_skip, ↓exec_region, ↓exec_seq, ↓exec_cond, ↓exec_block, ↓exec_exit, ↓exec_ret, ↓opX_move, ↓opX_assign, ↓opX_pick, ↓opX_alloc, ↓opX_box, ↓opX_build, ↓opX_buildSlice, ↓opX_load, ↓opX_nilCheck, ↓opX_binOp, ↓opX_unOp, ↓opX_convert, ↓opX_makeFunc, ↓opX_makeSlice, ↓opX_slice, ↓opX_fieldAddr, ↓opX_field, ↓opX_indexAddr, ↓opX_index, ↓opX_extract, ↓opX_len, ↓opX_max, ↓opX_min, ↓exec_draw, ↓dk_nil, ↓dk_f, ↓dk_c, ↓pureK_eq, ↓fOne_none, ↓fOne_some, ↓re_cons, ↓PF_eq, ↓Fact_none, ↓Fact_some, ↓opX_callv, Int.reduceEq, Int.reduceNe, Int.reduceLT, Int.reduceLE, Int.reduceAdd, Int.reduceSub, Int.reduceMul, Int.reduceToNat, Int.reduceNeg, Int.reducePow, Nat.reduceEqDiff, Nat.reducePow, Nat.reduceAdd, Nat.reduceMul, Nat.reduceSub, Nat.reduceLeDiff, Nat.reduceLT, Nat.reduceBEq, reduceCtorEq]
  have hK : ∀ b : Bool, b = sidesOk x y → K (.s (.d (.v (.bool b)))) [] := fun b e => e ▸ h
  clear h
  simp only [sidesOk] at hK
  try simp only [andK_def, InK]
  repeat' first | (refine And.intro ?_ ?_) | (intro _) | split
  all_goals first | omega | (refine hK _ ?_; rw [Bool.eq_iff_iff]; simp only [decide_eq_true_eq, Bool.false_eq_true, false_iff, iff_false, true_iff, iff_true]; first | omega | (try rw [Int.tmod_eq_emod_of_nonneg (by omega)] at *; omega))
def x_s_code_okG : FuncId → Option Contract
  | 70 => some cWithin
  | _ => none
def x_s_code_okO : Nat → Ordr := fun _ => []
def x_s_code_ok : Ctx := ⟨tabTT Tryd.tys, x_s_code_okG, false, x_s_code_okO⟩
theorem x_s_code_ok_tt : x_s_code_ok.tt = tabTT Tryd.tys := (_root_.id rfl)
theorem x_s_code_ok_wr : x_s_code_ok.wr = false := (_root_.id rfl)
theorem x_s_code_ok_g70 : x_s_code_ok.Γ 70 = some cWithin := (_root_.id rfl)
theorem x_s_code_ok_ok : CtxOk Proofs.Tryd.prog GW x_s_code_ok := by
  refine ⟨Tryd.tys_ok, fun f C h => ?_, by kernel_rfl⟩
  simp only [x_s_code_ok, x_s_code_okG] at h
  split at h
  · cases h; exact s_within_ok
  · cases h
attribute [push_cast] x_s_code_ok_tt x_s_code_ok_wr x_s_code_ok_g70
theorem s_code_ok : Ok Proofs.Tryd.prog GW 46 cCode := by
  refine fn_ok (c := x_s_code_ok) x_s_code_ok_ok Proofs.Tryd.func46 (code := _) rfl Proofs.Tryd.call46 (by kernel_rfl) ?_
  rintro args ch K ⟨nf, l, rfl, rfl, ⟨hl, h⟩⟩
  rw [Proofs.Tryd.ntmps46, Proofs.Tryd.results46]
  simp -dsimp only [push_cast, ↓reduceIte, ↓opsK_nil, ↓opsK_cons, ↓opG_none, ↓opG_some, ↓opX_store, ↓opX_append, ↓opX_call, ↓exec_skip, ↓exec_region, ↓exec_seq, ↓exec_cond, ↓exec_block, ↓exec_exit, ↓exec_ret, ↓opX_move, ↓opX_assign, ↓opX_pick, ↓opX_alloc, ↓opX_box, ↓opX_build, ↓opX_buildSlice, ↓opX_load, ↓opX_nilCheck, ↓opX_binOp, ↓opX_unOp, ↓opX_convert, ↓opX_makeFunc, ↓opX_makeSlice, ↓opX_slice, ↓opX_fieldAddr, ↓opX_field, ↓opX_indexAddr, ↓opX_index, ↓opX_extract, ↓opX_len, ↓opX_max, ↓opX_min, ↓exec_draw, ↓dk_nil, ↓dk_f, ↓dk_c, ↓pureK_eq, ↓fOne_none, ↓fOne_some, ↓re_cons, ↓PF_eq, ↓Fact_none, ↓Fact_some, ↓opX_callv, Int.reduceEq, Int.reduceNe, Int.reduceLT, Int.reduceLE, Int.reduceAdd, Int.reduceSub, Int.reduceMul, Int.reduceToNat, Int.reduceNeg, Int.reducePow, Nat.reduceEqDiff, Nat.reducePow, Nat.reduceAdd, Nat.reduceMul, Nat.reduceSub, Nat.reduceLeDiff, Nat.reduceLT, Nat.reduceBEq, reduceCtorEq]
  refine loop_rule [(0, false), (3, false), (4, false)] (fun k : Nat => ([.s (.d (.sl nf 1 (ints l))), .s (.d (.v (.int .i64 (kraft (l.take k))))), .s (.d (.v (.int .i64 (k))))], [])) (fun k => k ≤ l.length ∧ ∀ x ∈ l.take k, 0 ≤ x ∧ x ≤ 7) (fun k => l.length - k) 0 ?_ ?_ ?_
  · simp
  · simp -dsimp only [push_cast, ↓reduceIte, ↓opsK_nil, ↓opsK_cons, ↓opG_none, ↓opG_some, ↓opX_store, ↓opX_append, ↓opX_call, ↓exec_skip, ↓exec_region, ↓exec_seq, ↓exec_cond, ↓exec_block, ↓exec_exit, ↓exec_ret, ↓opX_move, ↓opX_assign, ↓opX_pick, ↓opX_alloc, ↓opX_box, ↓opX_build, ↓opX_buildSlice, ↓opX_load, ↓opX_nilCheck, ↓opX_binOp, ↓opX_unOp, ↓opX_convert, ↓opX_makeFunc, ↓opX_makeSlice, ↓opX_slice, ↓opX_fieldAddr, ↓opX_field, ↓opX_indexAddr, ↓opX_index, ↓opX_extract, ↓opX_len, ↓opX_max, ↓opX_min, ↓exec_draw, ↓dk_nil, ↓dk_f, ↓dk_c, ↓pureK_eq, ↓fOne_none, ↓fOne_some, ↓re_cons, ↓PF_eq, ↓Fact_none, ↓Fact_some, ↓opX_callv, Int.reduceEq, Int.reduceNe, Int.reduceLT, Int.reduceLE, Int.reduceAdd, Int.reduceSub, Int.reduceMul, Int.reduceToNat, Int.reduceNeg, Int.reducePow, Nat.reduceEqDiff, Nat.reducePow, Nat.reduceAdd, Nat.reduceMul, Nat.reduceSub, Nat.reduceLeDiff, Nat.reduceLT, Nat.reduceBEq, reduceCtorEq]
    rfl
  · intro k hk
    simp -dsimp only [push_cast, ↓reduceIte, ↓opsK_nil, ↓opsK_cons, ↓opG_none, ↓opG_some, ↓opX_store, ↓opX_append, ↓opX_call, ↓exec_skip, ↓exec_region, ↓exec_seq, ↓exec_cond, ↓exec_block, ↓exec_exit, ↓exec_ret, ↓opX_move, ↓opX_assign, ↓opX_pick, ↓opX_alloc, ↓opX_box, ↓opX_build, ↓opX_buildSlice, ↓opX_load, ↓opX_nilCheck, ↓opX_binOp, ↓opX_unOp, ↓opX_convert, ↓opX_makeFunc, ↓opX_makeSlice, ↓opX_slice, ↓opX_fieldAddr, ↓opX_field, ↓opX_indexAddr, ↓opX_index, ↓opX_extract, ↓opX_len, ↓opX_max, ↓opX_min, ↓exec_draw, ↓dk_nil, ↓dk_f, ↓dk_c, ↓pureK_eq, ↓fOne_none, ↓fOne_some, ↓re_cons, ↓PF_eq, ↓Fact_none, ↓Fact_some, ↓opX_callv, Int.reduceEq, Int.reduceNe, Int.reduceLT, Int.reduceLE, Int.reduceAdd, Int.reduceSub, Int.reduceMul, Int.reduceToNat, Int.reduceNeg, Int.reducePow, Nat.reduceEqDiff, Nat.reducePow, Nat.reduceAdd, Nat.reduceMul, Nat.reduceSub, Nat.reduceLeDiff, Nat.reduceLT, Nat.reduceBEq, reduceCtorEq]
    have hK : ∀ b : Bool, b = codeOk l → K (.s (.d (.v (.bool b)))) [] := fun b e => e ▸ h
    clear h
    have hkr := kraft_le _ hk.2
    rw [List.length_take] at hkr
    split
    · rename_i hlt
      have hlt' : k < l.length := by omega
      have ht := take_getD (d := (0 : Int)) hlt'
      refine ⟨by omega, fun _ => ?_⟩
      generalize hx : l.getD k 0 = x at *
      have hmem : x ∈ l := by rw [← hx, List.getD_eq_getElem?_getD]; simp [hlt']
      split
      · rename_i hn
        refine hK _ (Eq.symm ?_)
        simp only [codeOk, decide_eq_false_iff_not]
        intro hc
        exact hn (hc.2.1 x hmem)
      · rename_i hn
        have hn' : 0 ≤ x ∧ x ≤ 7 := by omega
        have hb : ∀ y ∈ l.take (k + 1), 0 ≤ y ∧ y ≤ 7 := by
          rw [ht]
          intro y hy
          rcases List.mem_append.1 hy with h | h
          · exact hk.2 y h
          · simp at h; subst h; exact hn'
        have h3 : (2 : Int) ^ (7 - x).toNat ≤ 128 ∧ 0 ≤ (2 : Int) ^ (7 - x).toNat := by
          have : x = 0 ∨ x = 1 ∨ x = 2 ∨ x = 3 ∨ x = 4 ∨ x = 5 ∨ x = 6 ∨ x = 7 := by omega
          rcases this with h | h | h | h | h | h | h | h <;> rw [h] <;> decide
        split
        · rename_i hp
          repeat' (first | refine andI ?_ (fun _ => ?_) | refine And.intro ?_ ?_)
          any_goals first | omega | (simp only [InK]; omega) | (simp; omega)
          refine ⟨k + 1, ⟨by omega, hb⟩, ?_, by omega⟩
          rw [ht, kraft_app, kraft_one, if_pos hp]
          simp
        · rename_i hp
          repeat' (first | refine andI ?_ (fun _ => ?_) | refine And.intro ?_ ?_)
          any_goals first | omega | (simp only [InK]; omega) | (simp; omega)
          refine ⟨k + 1, ⟨by omega, hb⟩, ?_, by omega⟩
          rw [ht, kraft_app, kraft_one, if_neg hp]
          simp
    · have : l.take k = l := List.take_of_length_le (by omega)
      rw [this] at hk ⊢
      split <;> refine hK _ ?_ <;> simp only [codeOk] <;> rw [Bool.eq_iff_iff] <;> simp only [decide_eq_true_eq, Bool.false_eq_true, false_iff]
      · have : l.length = 6 := by omega
        simp [this]; exact fun _ => hk.2
      · intro hc; omega
def cWord : Contract := ⟨[false, false], true, fun args ch K => ∃ (b : Bool) (s : ByteArray), args = [.s (.d (.v (.bool (b)))), .s (.d (.v (.string s)))] ∧ ch = [] ∧ (bts s).length ≤ 100 ∧ K (.s (.d (.v (.string (str (if b = true then 32 :: bts s else [])))))) []⟩
theorem cWord_own : cWord.own = [false, false] := (_root_.id rfl)
theorem cWord_plain : cWord.plain = true := (_root_.id rfl)
theorem cWord_at {b : Bool} {s : ByteArray} {K : AV → List Chunk → Prop} : specK cWord [.s (.d (.v (.bool (b)))), .s (.d (.v (.string s)))] [] K = ((bts s).length ≤ 100 ∧ K (.s (.d (.v (.string (str (if b = true then 32 :: bts s else [])))))) []) := by
  refine propext ⟨?_, fun h => ⟨_, _, rfl, rfl, h⟩⟩
  rintro ⟨b', s', h1, h2, h⟩
  have h3 := And.intro h1 h2
  clear h1 h2
  simp only [List.cons.injEq, AV.s.injEq, AV.g.injEq, A.d.injEq, A.own.injEq, A.ptr.injEq, A.fn.injEq, D.v.injEq, D.sl.injEq, Chunk.box.injEq, Chunk.sl.injEq, Value.int.injEq, Value.bool.injEq, Value.string.injEq, Option.some.injEq, str_inj, ints_inj, strs_inj, encB_inj, eq_self, and_assoc, true_and, and_true, and_self] at h3
  obtain ⟨rfl, rfl⟩ := h3
  exact h
attribute [push_cast] cWord_own cWord_plain cWord_at
def x_word_okG : FuncId → Option Contract := fun _ => none
def x_word_okO : Nat → Ordr := fun _ => []
def x_word_ok : Ctx := ⟨tabTT Tryd.tys, x_word_okG, false, x_word_okO⟩
theorem x_word_ok_tt : x_word_ok.tt = tabTT Tryd.tys := (_root_.id rfl)
theorem x_word_ok_wr : x_word_ok.wr = false := (_root_.id rfl)
theorem x_word_ok_ok : CtxOk Proofs.Tryd.prog GW x_word_ok := by
  refine ⟨Tryd.tys_ok, fun f C h => ?_, by kernel_rfl⟩
  cases h
attribute [push_cast] x_word_ok_tt x_word_ok_wr
theorem word_ok : Ok Proofs.Tryd.prog GW 23 cWord := by
  refine fn_ok (c := x_word_ok) x_word_ok_ok Proofs.Tryd.func23 (code := _) rfl Proofs.Tryd.call23 (by kernel_rfl) ?_
  rintro args ch K ⟨b, s, rfl, rfl, ⟨hl, h⟩⟩
  rw [Proofs.Tryd.ntmps23, Proofs.Tryd.results23]
  simp -dsimp only [push_cast, ↓reduceIte, ↓opsK_nil, ↓opsK_cons, ↓opG_none, ↓opG_some, ↓opX_store, ↓opX_append, ↓opX_call, ↓exec_skip, ↓exec_region, ↓exec_seq, ↓exec_cond, ↓exec_block, ↓exec_exit, ↓exec_ret, ↓opX_move, ↓opX_assign, ↓opX_pick, ↓opX_alloc, ↓opX_box, ↓opX_build, ↓opX_buildSlice, ↓opX_load, ↓opX_nilCheck, ↓opX_binOp, ↓opX_unOp, ↓opX_convert, ↓opX_makeFunc, ↓opX_makeSlice, ↓opX_slice, ↓opX_fieldAddr, ↓opX_field, ↓opX_indexAddr, ↓opX_index, ↓opX_extract, ↓opX_len, ↓opX_max, ↓opX_min, ↓exec_draw, ↓dk_nil, ↓dk_f, ↓dk_c, ↓pureK_eq, ↓fOne_none, ↓fOne_some, ↓re_cons, ↓PF_eq, ↓Fact_none, ↓Fact_some, ↓opX_callv, Int.reduceEq, Int.reduceNe, Int.reduceLT, Int.reduceLE, Int.reduceAdd, Int.reduceSub, Int.reduceMul, Int.reduceToNat, Int.reduceNeg, Int.reducePow, Nat.reduceEqDiff, Nat.reducePow, Nat.reduceAdd, Nat.reduceMul, Nat.reduceSub, Nat.reduceLeDiff, Nat.reduceLT, Nat.reduceBEq, reduceCtorEq]
  split <;> rename_i hb <;> simp only [hb, if_true, if_false, Bool.false_eq_true] at h
  · exact ⟨by omega, fun _ => h⟩
  · exact h
def stepOf (q : Int) : Int := if 0 ≤ q ∧ q ≤ 51 then (([8, 9, 10, 11, 13, 14] : List Int).getD (q % 6).toNat 0 * 2 ^ (q / 6).toNat) / 8 else 0
def cStep : Contract := ⟨[false], true, fun args ch K => ∃ (q : Int), args = [.s (.d (.v (.int .i64 (q))))] ∧ ch = [] ∧ K (.s (.d (.v (.int .i64 (stepOf q))))) []⟩
theorem cStep_own : cStep.own = [false] := (_root_.id rfl)
theorem cStep_plain : cStep.plain = true := (_root_.id rfl)
theorem cStep_at {q : Int} {K : AV → List Chunk → Prop} : specK cStep [.s (.d (.v (.int .i64 (q))))] [] K = (K (.s (.d (.v (.int .i64 (stepOf q))))) []) := by
  refine propext ⟨?_, fun h => ⟨_, rfl, rfl, h⟩⟩
  rintro ⟨q', h1, h2, h⟩
  have h3 := And.intro h1 h2
  clear h1 h2
  simp only [List.cons.injEq, AV.s.injEq, AV.g.injEq, A.d.injEq, A.own.injEq, A.ptr.injEq, A.fn.injEq, D.v.injEq, D.sl.injEq, Chunk.box.injEq, Chunk.sl.injEq, Value.int.injEq, Value.bool.injEq, Value.string.injEq, Option.some.injEq, str_inj, ints_inj, strs_inj, encB_inj, eq_self, and_assoc, true_and, and_true, and_self] at h3
  subst h3
  exact h
attribute [push_cast] cStep_own cStep_plain cStep_at
def x_step_okG : FuncId → Option Contract
  | 70 => some cWithin
  | _ => none
def x_step_okO : Nat → Ordr := fun _ => []
def x_step_ok : Ctx := ⟨tabTT Tryd.tys, x_step_okG, false, x_step_okO⟩
theorem x_step_ok_tt : x_step_ok.tt = tabTT Tryd.tys := (_root_.id rfl)
theorem x_step_ok_wr : x_step_ok.wr = false := (_root_.id rfl)
theorem x_step_ok_g70 : x_step_ok.Γ 70 = some cWithin := (_root_.id rfl)
theorem x_step_ok_ok : CtxOk Proofs.Tryd.prog GW x_step_ok := by
  refine ⟨Tryd.tys_ok, fun f C h => ?_, by kernel_rfl⟩
  simp only [x_step_ok, x_step_okG] at h
  split at h
  · cases h; exact s_within_ok
  · cases h
attribute [push_cast] x_step_ok_tt x_step_ok_wr x_step_ok_g70
theorem step_ok : Ok Proofs.Tryd.prog GW 45 cStep := by
  refine fn_ok (c := x_step_ok) x_step_ok_ok Proofs.Tryd.func45 (code := _) rfl Proofs.Tryd.call45 (by kernel_rfl) ?_
  rintro args ch K ⟨q, rfl, rfl, h⟩
  rw [Proofs.Tryd.ntmps45, Proofs.Tryd.results45]
  simp -dsimp only [push_cast, ↓reduceIte, ↓opsK_nil, ↓opsK_cons, ↓opG_none, ↓opG_some, ↓opX_store, ↓opX_append, ↓opX_call, ↓exec_skip, ↓exec_region, ↓exec_seq, ↓exec_cond, ↓exec_block, ↓exec_exit, ↓exec_ret, ↓opX_move, ↓opX_assign, ↓opX_pick, ↓opX_alloc, ↓opX_box, ↓opX_build, ↓opX_buildSlice, ↓opX_load, ↓opX_nilCheck, ↓opX_binOp, ↓opX_unOp, ↓opX_convert, ↓opX_makeFunc, ↓opX_makeSlice, ↓opX_slice, ↓opX_fieldAddr, ↓opX_field, ↓opX_indexAddr, ↓opX_index, ↓opX_extract, ↓opX_len, ↓opX_max, ↓opX_min, ↓exec_draw, ↓dk_nil, ↓dk_f, ↓dk_c, ↓pureK_eq, ↓fOne_none, ↓fOne_some, ↓re_cons, ↓PF_eq, ↓Fact_none, ↓Fact_some, ↓opX_callv, Int.reduceEq, Int.reduceNe, Int.reduceLT, Int.reduceLE, Int.reduceAdd, Int.reduceSub, Int.reduceMul, Int.reduceToNat, Int.reduceNeg, Int.reducePow, Nat.reduceEqDiff, Nat.reducePow, Nat.reduceAdd, Nat.reduceMul, Nat.reduceSub, Nat.reduceLeDiff, Nat.reduceLT, Nat.reduceBEq, reduceCtorEq]
  have key : ∀ k : Nat, k < 52 → 0 ≤ (k : Int).tmod 6 ∧ (k : Int).tmod 6 < 6 ∧ 0 ≤ (k : Int).tdiv 6 ∧ (k : Int).tdiv 6 < 64 ∧ 0 ≤ ([8, 9, 10, 11, 13, 14] : List Int).getD ((k : Int).tmod 6).toNat 0 * 2 ^ ((k : Int).tdiv 6).toNat ∧ ([8, 9, 10, 11, 13, 14] : List Int).getD ((k : Int).tmod 6).toNat 0 * 2 ^ ((k : Int).tdiv 6).toNat ≤ 100000 ∧
      (([8, 9, 10, 11, 13, 14] : List Int).getD ((k : Int).tmod 6).toNat 0 * 2 ^ ((k : Int).tdiv 6).toNat).tdiv 8 = stepOf k ∧ 0 < stepOf k ∧ stepOf k ≤ 100000 := by decide +kernel
  split
  · rename_i hn
    simp only [stepOf, if_neg hn] at h
    exact h
  · rename_i hn
    have hq : 0 ≤ q ∧ q ≤ 51 := by omega
    have k1 := key q.toNat (by omega)
    rw [Int.toNat_of_nonneg hq.1] at k1
    rw [k1.2.2.2.2.2.2.1]
    repeat' (first | refine andI ?_ (fun _ => ?_) | refine And.intro ?_ ?_)
    any_goals first | exact h | omega | (simp only [InK]; omega) | (simp; omega)
theorem stepOf_pos (q : Int) : 0 < stepOf q ↔ 0 ≤ q ∧ q ≤ 51 := by
  have key : ∀ k : Nat, k < 52 → 0 < stepOf k := by decide +kernel
  constructor
  · intro h
    simp only [stepOf] at h
    split at h
    · assumption
    · omega
  · intro h
    have := key q.toNat (by omega)
    rwa [Int.toNat_of_nonneg h.1] at this
def x_s_hdrOk_okG : FuncId → Option Contract
  | 44 => some cSides
  | 45 => some cStep
  | 46 => some cCode
  | _ => none
def x_s_hdrOk_okO : Nat → Ordr := fun _ => []
def x_s_hdrOk_ok : Ctx := ⟨tabTT Tryd.tys, x_s_hdrOk_okG, false, x_s_hdrOk_okO⟩
theorem x_s_hdrOk_ok_tt : x_s_hdrOk_ok.tt = tabTT Tryd.tys := (_root_.id rfl)
theorem x_s_hdrOk_ok_wr : x_s_hdrOk_ok.wr = false := (_root_.id rfl)
theorem x_s_hdrOk_ok_g44 : x_s_hdrOk_ok.Γ 44 = some cSides := (_root_.id rfl)
theorem x_s_hdrOk_ok_g45 : x_s_hdrOk_ok.Γ 45 = some cStep := (_root_.id rfl)
theorem x_s_hdrOk_ok_g46 : x_s_hdrOk_ok.Γ 46 = some cCode := (_root_.id rfl)
theorem x_s_hdrOk_ok_ok : CtxOk Proofs.Tryd.prog GW x_s_hdrOk_ok := by
  refine ⟨Tryd.tys_ok, fun f C h => ?_, by kernel_rfl⟩
  simp only [x_s_hdrOk_ok, x_s_hdrOk_okG] at h
  split at h
  · cases h; exact s_sides_ok
  · cases h; exact step_ok
  · cases h; exact s_code_ok
  · cases h
attribute [push_cast] x_s_hdrOk_ok_tt x_s_hdrOk_ok_wr x_s_hdrOk_ok_g44 x_s_hdrOk_ok_g45 x_s_hdrOk_ok_g46
theorem s_hdrOk_ok : Ok Proofs.Tryd.prog GW 21 cHdrOk := by
  refine fn_ok (c := x_s_hdrOk_ok) x_s_hdrOk_ok_ok Proofs.Tryd.func21 (code := _) rfl Proofs.Tryd.call21 (by kernel_rfl) ?_
  rintro args ch K ⟨w, h, q, bp, db, nf, l, rfl, rfl, ⟨hl, hh⟩⟩
  rw [Proofs.Tryd.ntmps21, Proofs.Tryd.results21]
  simp -dsimp only [push_cast, ↓reduceIte, ↓opsK_nil, ↓opsK_cons, ↓opG_none, ↓opG_some, ↓opX_store, ↓opX_append, ↓opX_call, ↓exec_skip, ↓exec_region, ↓exec_seq, ↓exec_cond, ↓exec_block, ↓exec_exit, ↓exec_ret, ↓opX_move, ↓opX_assign, ↓opX_pick, ↓opX_alloc, ↓opX_box, ↓opX_build, ↓opX_buildSlice, ↓opX_load, ↓opX_nilCheck, ↓opX_binOp, ↓opX_unOp, ↓opX_convert, ↓opX_makeFunc, ↓opX_makeSlice, ↓opX_slice, ↓opX_fieldAddr, ↓opX_field, ↓opX_indexAddr, ↓opX_index, ↓opX_extract, ↓opX_len, ↓opX_max, ↓opX_min, ↓exec_draw, ↓dk_nil, ↓dk_f, ↓dk_c, ↓pureK_eq, ↓fOne_none, ↓fOne_some, ↓re_cons, ↓PF_eq, ↓Fact_none, ↓Fact_some, ↓opX_callv, Int.reduceEq, Int.reduceNe, Int.reduceLT, Int.reduceLE, Int.reduceAdd, Int.reduceSub, Int.reduceMul, Int.reduceToNat, Int.reduceNeg, Int.reducePow, Nat.reduceEqDiff, Nat.reducePow, Nat.reduceAdd, Nat.reduceMul, Nat.reduceSub, Nat.reduceLeDiff, Nat.reduceLT, Nat.reduceBEq, reduceCtorEq]
  simp only [stepOf_pos]
  have hK : ∀ b : Bool, b = hdrOk w h q l → K (.s (.d (.v (.bool b)))) [] := fun b e => e ▸ hh
  clear hh
  split
  · rename_i h1
    split
    · rename_i h2
      refine ⟨hl, hK _ ?_⟩
      simp only [hdrOk, h1, h2, true_and]
      cases codeOk l <;> simp
    · rename_i h2
      refine hK _ (Eq.symm ?_)
      simp only [hdrOk, decide_eq_false_iff_not]
      exact fun h => h2 h.2.1
  · rename_i h1
    refine hK _ (Eq.symm ?_)
    simp only [hdrOk, decide_eq_false_iff_not]
    exact fun h => h1 h.1
end Go.VC
end
section
namespace Go.VC
open Go Go.RowKit
set_option linter.unusedSimpArgs false
set_option linter.unusedVariables false
set_option maxRecDepth 100000
theorem dec_len_le : ∀ k : Nat, (Lib.decDigits k).length ≤ k + 1 := by
  intro k
  induction k using Nat.strongRecOn with
  | _ k ih =>
    rw [Lib.decDigits]
    split
    · simp
    · have := ih (k / 10) (by omega)
      simp; omega
theorem byte_dig : ∀ d : Nat, d < 10 → bytesOf [[D.v (.int .u8 (IntKind.u8.wrap (48 + (d : Int))))]] = [UInt8.ofNat (48 + d)] := by decide
def cDecS : Contract := ⟨[false], true, fun args ch K => ∃ (n : Int), args = [.s (.d (.v (.int .i64 (n))))] ∧ ch = [] ∧ 0 ≤ n ∧ n ≤ 1000000000000000 ∧ K (.s (.d (.v (.string (str (dec n)))))) []⟩
theorem cDecS_own : cDecS.own = [false] := (_root_.id rfl)
theorem cDecS_plain : cDecS.plain = true := (_root_.id rfl)
theorem cDecS_at {n : Int} {K : AV → List Chunk → Prop} : specK cDecS [.s (.d (.v (.int .i64 (n))))] [] K = (0 ≤ n ∧ n ≤ 1000000000000000 ∧ K (.s (.d (.v (.string (str (dec n)))))) []) := by
  refine propext ⟨?_, fun h => ⟨_, rfl, rfl, h⟩⟩
  rintro ⟨n', h1, h2, h⟩
  have h3 := And.intro h1 h2
  clear h1 h2
  simp only [List.cons.injEq, AV.s.injEq, AV.g.injEq, A.d.injEq, A.own.injEq, A.ptr.injEq, A.fn.injEq, D.v.injEq, D.sl.injEq, Chunk.box.injEq, Chunk.sl.injEq, Value.int.injEq, Value.bool.injEq, Value.string.injEq, Option.some.injEq, str_inj, ints_inj, strs_inj, encB_inj, eq_self, and_assoc, true_and, and_true, and_self] at h3
  subst h3
  exact h
attribute [push_cast] cDecS_own cDecS_plain cDecS_at
def x_s_dec_okG : FuncId → Option Contract := fun _ => none
def x_s_dec_okO : Nat → Ordr := fun _ => []
def x_s_dec_ok : Ctx := ⟨tabTT Tryd.tys, x_s_dec_okG, false, x_s_dec_okO⟩
theorem x_s_dec_ok_tt : x_s_dec_ok.tt = tabTT Tryd.tys := (_root_.id rfl)
theorem x_s_dec_ok_wr : x_s_dec_ok.wr = false := (_root_.id rfl)
theorem x_s_dec_ok_ok : CtxOk Proofs.Tryd.prog GW x_s_dec_ok := by
  refine ⟨Tryd.tys_ok, fun f C h => ?_, by kernel_rfl⟩
  cases h
attribute [push_cast] x_s_dec_ok_tt x_s_dec_ok_wr
theorem s_dec_ok : Ok Proofs.Tryd.prog GW 22 cDecS := by
  refine fn_ok (c := x_s_dec_ok) x_s_dec_ok_ok Proofs.Tryd.func22 (code := _) rfl Proofs.Tryd.call22 (by kernel_rfl) ?_
  rintro args ch K ⟨n, rfl, rfl, ⟨h0, hn, h⟩⟩
  rw [Proofs.Tryd.ntmps22, Proofs.Tryd.results22]
  simp -dsimp only [push_cast, ↓reduceIte, ↓opsK_nil, ↓opsK_cons, ↓opG_none, ↓opG_some, ↓opX_store, ↓opX_append, ↓opX_call, ↓exec_skip, ↓exec_region, ↓exec_seq, ↓exec_cond, ↓exec_block, ↓exec_exit, ↓exec_ret, ↓opX_move, ↓opX_assign, ↓opX_pick, ↓opX_alloc, ↓opX_box, ↓opX_build, ↓opX_buildSlice, ↓opX_load, ↓opX_nilCheck, ↓opX_binOp, ↓opX_unOp, ↓opX_convert, ↓opX_makeFunc, ↓opX_makeSlice, ↓opX_slice, ↓opX_fieldAddr, ↓opX_field, ↓opX_indexAddr, ↓opX_index, ↓opX_extract, ↓opX_len, ↓opX_max, ↓opX_min, ↓exec_draw, ↓dk_nil, ↓dk_f, ↓dk_c, ↓pureK_eq, ↓fOne_none, ↓fOne_some, ↓re_cons, ↓PF_eq, ↓Fact_none, ↓Fact_some, ↓opX_callv, Int.reduceEq, Int.reduceNe, Int.reduceLT, Int.reduceLE, Int.reduceAdd, Int.reduceSub, Int.reduceMul, Int.reduceToNat, Int.reduceNeg, Int.reducePow, Nat.reduceEqDiff, Nat.reducePow, Nat.reduceAdd, Nat.reduceMul, Nat.reduceSub, Nat.reduceLeDiff, Nat.reduceLT, Nat.reduceBEq, reduceCtorEq]
  split
  · rename_i hz
    subst hz
    have : dec 0 = [48] := by simp [dec, Lib.decDigits]
    rw [this] at h; exact h
  · rename_i hz
    refine loop_rule [(0, false), (3, false), (4, false)] (fun i : Nat × List UInt8 => ([.s (.d (.v (.int .i64 (i.1)))), .s (.d (.v (.string (str i.2)))), .s (.d (.v (.bool (false))))], [])) (fun i => (0 < i.1 ∧ Lib.decDigits i.1 ++ i.2 = dec n ∨ i.1 = 0 ∧ i.2 = dec n) ∧ (i.1 : Int) ≤ n) (fun i => i.1) (n.toNat, []) ?_ ?_ ?_
    · simp [dec]; omega
    · simp -dsimp only [push_cast, ↓reduceIte, ↓opsK_nil, ↓opsK_cons, ↓opG_none, ↓opG_some, ↓opX_store, ↓opX_append, ↓opX_call, ↓exec_skip, ↓exec_region, ↓exec_seq, ↓exec_cond, ↓exec_block, ↓exec_exit, ↓exec_ret, ↓opX_move, ↓opX_assign, ↓opX_pick, ↓opX_alloc, ↓opX_box, ↓opX_build, ↓opX_buildSlice, ↓opX_load, ↓opX_nilCheck, ↓opX_binOp, ↓opX_unOp, ↓opX_convert, ↓opX_makeFunc, ↓opX_makeSlice, ↓opX_slice, ↓opX_fieldAddr, ↓opX_field, ↓opX_indexAddr, ↓opX_index, ↓opX_extract, ↓opX_len, ↓opX_max, ↓opX_min, ↓exec_draw, ↓dk_nil, ↓dk_f, ↓dk_c, ↓pureK_eq, ↓fOne_none, ↓fOne_some, ↓re_cons, ↓PF_eq, ↓Fact_none, ↓Fact_some, ↓opX_callv, Int.reduceEq, Int.reduceNe, Int.reduceLT, Int.reduceLE, Int.reduceAdd, Int.reduceSub, Int.reduceMul, Int.reduceToNat, Int.reduceNeg, Int.reducePow, Nat.reduceEqDiff, Nat.reducePow, Nat.reduceAdd, Nat.reduceMul, Nat.reduceSub, Nat.reduceLeDiff, Nat.reduceLT, Nat.reduceBEq, reduceCtorEq]
      rw [Int.toNat_of_nonneg h0]
      simp; omega
    · rintro ⟨m, s⟩ ⟨hk, hm⟩
      simp -dsimp only [push_cast, ↓reduceIte, ↓opsK_nil, ↓opsK_cons, ↓opG_none, ↓opG_some, ↓opX_store, ↓opX_append, ↓opX_call, ↓exec_skip, ↓exec_region, ↓exec_seq, ↓exec_cond, ↓exec_block, ↓exec_exit, ↓exec_ret, ↓opX_move, ↓opX_assign, ↓opX_pick, ↓opX_alloc, ↓opX_box, ↓opX_build, ↓opX_buildSlice, ↓opX_load, ↓opX_nilCheck, ↓opX_binOp, ↓opX_unOp, ↓opX_convert, ↓opX_makeFunc, ↓opX_makeSlice, ↓opX_slice, ↓opX_fieldAddr, ↓opX_field, ↓opX_indexAddr, ↓opX_index, ↓opX_extract, ↓opX_len, ↓opX_max, ↓opX_min, ↓exec_draw, ↓dk_nil, ↓dk_f, ↓dk_c, ↓pureK_eq, ↓fOne_none, ↓fOne_some, ↓re_cons, ↓PF_eq, ↓Fact_none, ↓Fact_some, ↓opX_callv, Int.reduceEq, Int.reduceNe, Int.reduceLT, Int.reduceLE, Int.reduceAdd, Int.reduceSub, Int.reduceMul, Int.reduceToNat, Int.reduceNeg, Int.reducePow, Nat.reduceEqDiff, Nat.reducePow, Nat.reduceAdd, Nat.reduceMul, Nat.reduceSub, Nat.reduceLeDiff, Nat.reduceLT, Nat.reduceBEq, reduceCtorEq]
      simp only at hk hm
      have e1 : (m : Int).tmod 10 = ((m % 10 : Nat) : Int) := by rw [Int.tmod_eq_emod_of_nonneg (by omega)]; omega
      have e2 : (m : Int).tdiv 10 = ((m / 10 : Nat) : Int) := by rw [Int.tdiv_eq_ediv_of_nonneg (by omega)]; omega
      rw [e1, e2]
      have hlen := dec_len_le n.toNat
      have hs : s.length ≤ (dec n).length := by
        rcases hk with ⟨_, h⟩ | ⟨_, h⟩
        · rw [← h]; simp
        · rw [h]; simp
      simp only [dec] at hs
      split
      · rename_i hm0
        rw [if_neg (by omega)]
        have hb := byte_dig (m % 10) (by omega)
        rw [hb]
        repeat' (first | refine andI ?_ (fun _ => ?_) | refine And.intro ?_ ?_)
        any_goals first | omega | (simp only [InK]; omega) | (simp; omega) | (intro e he; simp at he; exact ⟨_, he⟩)
        refine ⟨(m / 10, UInt8.ofNat (48 + m % 10) :: s), ⟨?_, by simp only; omega⟩, rfl, by simp only; omega⟩
        have hmd : Lib.decDigits m ++ s = dec n := by
          rcases hk with ⟨_, h⟩ | ⟨h, _⟩
          · exact h
          · omega
        rw [Lib.decDigits] at hmd
        by_cases h10 : m < 10
        · right
          rw [dif_pos h10] at hmd
          refine ⟨by simp only; omega, ?_⟩
          simp only
          rw [← hmd, show m % 10 = m by omega]; rfl
        · left
          rw [dif_neg h10] at hmd
          refine ⟨by simp only; omega, ?_⟩
          simp only
          rw [← hmd]; simp
      · rename_i hm0
        rcases hk with ⟨h1, _⟩ | ⟨_, h1⟩
        · omega
        · rw [h1]; exact h
def headS (w h q : Int) (bp db : Bool) : List UInt8 := dec w ++ [120] ++ dec h ++ [32, 113] ++ dec q ++ (if bp = true then [32, 98, 121, 112, 97, 115, 115] else []) ++ (if db = true then [32, 100, 101, 98, 108, 111, 99, 107] else []) ++ [32]
def x_s_show_okG : FuncId → Option Contract
  | 21 => some cHdrOk
  | 22 => some cDecS
  | 23 => some cWord
  | _ => none
def x_s_show_okO : Nat → Ordr
  | 3 => [(0, none), (1, none), (4, none), (5, none), (9, none), (10, none), (13, none), (14, none), (17, none), (18, none), (2, some [4, 5, 9, 10, 13, 14, 17, 18]), (3, none), (6, some [9, 10, 13, 14, 17, 18, 3]), (7, none), (8, none), (11, some [13, 14, 17, 18, 3, 7, 8]), (12, none), (15, some [17, 18, 3, 7, 8, 12]), (16, none), (19, some [3, 7, 8, 12, 16]), (20, none), (21, none), (22, some [])]
  | _ => []
def x_s_show_ok : Ctx := ⟨tabTT Tryd.tys, x_s_show_okG, false, x_s_show_okO⟩
theorem x_s_show_ok_tt : x_s_show_ok.tt = tabTT Tryd.tys := (_root_.id rfl)
theorem x_s_show_ok_wr : x_s_show_ok.wr = false := (_root_.id rfl)
theorem x_s_show_ok_g21 : x_s_show_ok.Γ 21 = some cHdrOk := (_root_.id rfl)
theorem x_s_show_ok_g22 : x_s_show_ok.Γ 22 = some cDecS := (_root_.id rfl)
theorem x_s_show_ok_g23 : x_s_show_ok.Γ 23 = some cWord := (_root_.id rfl)
theorem x_s_show_ok_o3 : x_s_show_ok.ord 3 = [(0, none), (1, none), (4, none), (5, none), (9, none), (10, none), (13, none), (14, none), (17, none), (18, none), (2, some [4, 5, 9, 10, 13, 14, 17, 18]), (3, none), (6, some [9, 10, 13, 14, 17, 18, 3]), (7, none), (8, none), (11, some [13, 14, 17, 18, 3, 7, 8]), (12, none), (15, some [17, 18, 3, 7, 8, 12]), (16, none), (19, some [3, 7, 8, 12, 16]), (20, none), (21, none), (22, some [])] := (_root_.id rfl)
theorem x_s_show_ok_ok : CtxOk Proofs.Tryd.prog GW x_s_show_ok := by
  refine ⟨Tryd.tys_ok, fun f C h => ?_, by kernel_rfl⟩
  simp only [x_s_show_ok, x_s_show_okG] at h
  split at h
  · cases h; exact s_hdrOk_ok
  · cases h; exact s_dec_ok
  · cases h; exact word_ok
  · cases h
attribute [push_cast] x_s_show_ok_tt x_s_show_ok_wr x_s_show_ok_g21 x_s_show_ok_g22 x_s_show_ok_g23 x_s_show_ok_o3
theorem s_show_ok : Ok Proofs.Tryd.prog GW 7 cShow := by
  refine fn_ok (c := x_s_show_ok) x_s_show_ok_ok Proofs.Tryd.func7 (code := _) rfl Proofs.Tryd.call7 (by kernel_rfl) ?_
  rintro args ch K ⟨w, h, q, bp, db, nf, l, rfl, rfl, ⟨hl, hh⟩⟩
  rw [Proofs.Tryd.ntmps7, Proofs.Tryd.results7]
  simp -dsimp only [push_cast, ↓reduceIte, ↓opsK_nil, ↓opsK_cons, ↓opG_none, ↓opG_some, ↓opX_store, ↓opX_append, ↓opX_call, ↓exec_skip, ↓exec_region, ↓exec_seq, ↓exec_cond, ↓exec_block, ↓exec_exit, ↓exec_ret, ↓opX_move, ↓opX_assign, ↓opX_pick, ↓opX_alloc, ↓opX_box, ↓opX_build, ↓opX_buildSlice, ↓opX_load, ↓opX_nilCheck, ↓opX_binOp, ↓opX_unOp, ↓opX_convert, ↓opX_makeFunc, ↓opX_makeSlice, ↓opX_slice, ↓opX_fieldAddr, ↓opX_field, ↓opX_indexAddr, ↓opX_index, ↓opX_extract, ↓opX_len, ↓opX_max, ↓opX_min, ↓exec_draw, ↓dk_nil, ↓dk_f, ↓dk_c, ↓pureK_eq, ↓fOne_none, ↓fOne_some, ↓re_cons, ↓PF_eq, ↓Fact_none, ↓Fact_some, ↓opX_callv, Int.reduceEq, Int.reduceNe, Int.reduceLT, Int.reduceLE, Int.reduceAdd, Int.reduceSub, Int.reduceMul, Int.reduceToNat, Int.reduceNeg, Int.reducePow, Nat.reduceEqDiff, Nat.reducePow, Nat.reduceAdd, Nat.reduceMul, Nat.reduceSub, Nat.reduceLeDiff, Nat.reduceLT, Nat.reduceBEq, reduceCtorEq]
  refine ⟨hl, ?_⟩
  split
  · rename_i hn
    simp only [showI, hn, Bool.false_eq_true, if_false] at hh
    exact hh
  · rename_i hn
    have hok : hdrOk w h q l = true := by simpa using hn
    have hp := hok
    simp only [hdrOk, sidesOk, codeOk, decide_eq_true_eq] at hp
    have hx : ∀ x ∈ l, 0 ≤ x ∧ x < 100 := fun x hx => by have := hp.2.2.2.1 x hx; omega
    have d1 := dec_len w (by omega)
    have d2 := dec_len h (by omega)
    have d3 := dec_len q (by omega)
    have hl6 := hp.2.2.1
    have hb1 : (if bp = true then [32, 98, 121, 112, 97, 115, 115] else [] : List UInt8).length ≤ 7 := by split <;> simp
    have hb2 : (if db = true then [32, 100, 101, 98, 108, 111, 99, 107] else [] : List UInt8).length ≤ 8 := by split <;> simp
    repeat' (first | refine andI ?_ (fun _ => ?_) | refine And.intro ?_ ?_)
    any_goals omega
    refine loop_rule [(1, false), (3, false), (4, false)] (fun k : Nat => ([.s (.ptr 0 0), .s (.d (.v (.string (str (headS w h q bp db ++ digs (l.take k)))))), .s (.d (.v (.int .i64 (k))))], [.box [.d (.v (.int .i64 w)), .d (.v (.int .i64 h)), .d (.v (.int .i64 q)), .d (.v (.bool bp)), .d (.v (.bool db)), .d (.sl nf 1 (ints l))]])) (fun k => k ≤ l.length) (fun k => l.length - k) 0 ?_ ?_ ?_
    · simp
    · simp -dsimp only [push_cast, ↓reduceIte, ↓opsK_nil, ↓opsK_cons, ↓opG_none, ↓opG_some, ↓opX_store, ↓opX_append, ↓opX_call, ↓exec_skip, ↓exec_region, ↓exec_seq, ↓exec_cond, ↓exec_block, ↓exec_exit, ↓exec_ret, ↓opX_move, ↓opX_assign, ↓opX_pick, ↓opX_alloc, ↓opX_box, ↓opX_build, ↓opX_buildSlice, ↓opX_load, ↓opX_nilCheck, ↓opX_binOp, ↓opX_unOp, ↓opX_convert, ↓opX_makeFunc, ↓opX_makeSlice, ↓opX_slice, ↓opX_fieldAddr, ↓opX_field, ↓opX_indexAddr, ↓opX_index, ↓opX_extract, ↓opX_len, ↓opX_max, ↓opX_min, ↓exec_draw, ↓dk_nil, ↓dk_f, ↓dk_c, ↓pureK_eq, ↓fOne_none, ↓fOne_some, ↓re_cons, ↓PF_eq, ↓Fact_none, ↓Fact_some, ↓opX_callv, Int.reduceEq, Int.reduceNe, Int.reduceLT, Int.reduceLE, Int.reduceAdd, Int.reduceSub, Int.reduceMul, Int.reduceToNat, Int.reduceNeg, Int.reducePow, Nat.reduceEqDiff, Nat.reducePow, Nat.reduceAdd, Nat.reduceMul, Nat.reduceSub, Nat.reduceLeDiff, Nat.reduceLT, Nat.reduceBEq, reduceCtorEq]
      simp [headS, digs]
    · intro k hk
      simp -dsimp only [push_cast, ↓reduceIte, ↓opsK_nil, ↓opsK_cons, ↓opG_none, ↓opG_some, ↓opX_store, ↓opX_append, ↓opX_call, ↓exec_skip, ↓exec_region, ↓exec_seq, ↓exec_cond, ↓exec_block, ↓exec_exit, ↓exec_ret, ↓opX_move, ↓opX_assign, ↓opX_pick, ↓opX_alloc, ↓opX_box, ↓opX_build, ↓opX_buildSlice, ↓opX_load, ↓opX_nilCheck, ↓opX_binOp, ↓opX_unOp, ↓opX_convert, ↓opX_makeFunc, ↓opX_makeSlice, ↓opX_slice, ↓opX_fieldAddr, ↓opX_field, ↓opX_indexAddr, ↓opX_index, ↓opX_extract, ↓opX_len, ↓opX_max, ↓opX_min, ↓exec_draw, ↓dk_nil, ↓dk_f, ↓dk_c, ↓pureK_eq, ↓fOne_none, ↓fOne_some, ↓re_cons, ↓PF_eq, ↓Fact_none, ↓Fact_some, ↓opX_callv, Int.reduceEq, Int.reduceNe, Int.reduceLT, Int.reduceLE, Int.reduceAdd, Int.reduceSub, Int.reduceMul, Int.reduceToNat, Int.reduceNeg, Int.reducePow, Nat.reduceEqDiff, Nat.reducePow, Nat.reduceAdd, Nat.reduceMul, Nat.reduceSub, Nat.reduceLeDiff, Nat.reduceLT, Nat.reduceBEq, reduceCtorEq]
      have hdt := digs_len (l.take k) (fun x h => hx x (List.mem_of_mem_take h))
      rw [List.length_take] at hdt
      have hhd : (headS w h q bp db).length ≤ 100 := by simp only [headS, List.length_append, List.length_cons, List.length_nil]; omega
      split
      · rename_i hlt
        have hlt' : k < l.length := by omega
        have ht := take_getD (d := (0 : Int)) hlt'
        have hm : l.getD k 0 ∈ l := by rw [List.getD_eq_getElem?_getD]; simp [hlt']
        have hb := hx _ hm
        have hdl := dec_len _ hb
        repeat' (first | refine andI ?_ (fun _ => ?_) | refine And.intro ?_ ?_)
        any_goals first | omega | (simp only [InK]; omega)
        refine ⟨k + 1, by omega, ?_, by omega⟩
        rw [ht, digs_app, digs_one]
        simp
      · have : l.take k = l := List.take_of_length_le (by omega)
        rw [this]
        have e : headS w h q bp db ++ digs l = showI w h q bp db l := by
          simp only [headS, showI, hok, if_true]
          split <;> split <;> simp [Lib.join, List.intercalate]
        rw [e]; exact hh
end Go.VC
end
section
namespace Go.VC
open Go Go.RowKit
set_option linter.unusedSimpArgs false
set_option linter.unusedVariables false
set_option maxRecDepth 100000
def cToH : Contract := ⟨[false], true, fun args ch K => ∃ (w h q : Int) (bp db : Bool) (nf : Option Bool) (l : List Int), args = [.g [.d (.v (.int .i64 (w))), .d (.v (.int .i64 (h))), .d (.v (.int .i64 (q))), .d (.v (.bool (bp))), .d (.v (.bool (db))), .d (.sl nf 1 (ints (l)))]] ∧ ch = [] ∧ l.length ≤ 1099511627776 ∧ K (.g [.d (.v (.int .i64 (w))), .d (.v (.int .i64 (h))), .d (.v (.int .i64 (q))), .d (.v (.bool (bp))), .d (.v (.bool (db))), .own 0]) [.sl (some false) 1 (ints l)]⟩
theorem cToH_own : cToH.own = [false] := (_root_.id rfl)
theorem cToH_plain : cToH.plain = true := (_root_.id rfl)
theorem cToH_at {w h q : Int} {bp db : Bool} {nf : Option Bool} {l : List Int} {K : AV → List Chunk → Prop} : specK cToH [.g [.d (.v (.int .i64 (w))), .d (.v (.int .i64 (h))), .d (.v (.int .i64 (q))), .d (.v (.bool (bp))), .d (.v (.bool (db))), .d (.sl nf 1 (ints (l)))]] [] K = (l.length ≤ 1099511627776 ∧ K (.g [.d (.v (.int .i64 (w))), .d (.v (.int .i64 (h))), .d (.v (.int .i64 (q))), .d (.v (.bool (bp))), .d (.v (.bool (db))), .own 0]) [.sl (some false) 1 (ints l)]) := by
  refine propext ⟨?_, fun h => ⟨_, _, _, _, _, _, _, rfl, rfl, h⟩⟩
  rintro ⟨w', h', q', bp', db', nf', l', h1, h2, h⟩
  have h3 := And.intro h1 h2
  clear h1 h2
  simp only [List.cons.injEq, AV.s.injEq, AV.g.injEq, A.d.injEq, A.own.injEq, A.ptr.injEq, A.fn.injEq, D.v.injEq, D.sl.injEq, Chunk.box.injEq, Chunk.sl.injEq, Value.int.injEq, Value.bool.injEq, Value.string.injEq, Option.some.injEq, str_inj, ints_inj, strs_inj, encB_inj, eq_self, and_assoc, true_and, and_true, and_self] at h3
  obtain ⟨rfl, rfl, rfl, rfl, rfl, rfl, rfl⟩ := h3
  exact h
attribute [push_cast] cToH_own cToH_plain cToH_at
def x_toH_okG : FuncId → Option Contract
  | 24 => some cToI
  | _ => none
def x_toH_okO : Nat → Ordr := fun _ => []
def x_toH_ok : Ctx := ⟨tabTT Tryd.tys, x_toH_okG, false, x_toH_okO⟩
theorem x_toH_ok_tt : x_toH_ok.tt = tabTT Tryd.tys := (_root_.id rfl)
theorem x_toH_ok_wr : x_toH_ok.wr = false := (_root_.id rfl)
theorem x_toH_ok_g24 : x_toH_ok.Γ 24 = some cToI := (_root_.id rfl)
theorem x_toH_ok_ok : CtxOk Proofs.Tryd.prog GW x_toH_ok := by
  refine ⟨Tryd.tys_ok, fun f C h => ?_, by kernel_rfl⟩
  simp only [x_toH_ok, x_toH_okG] at h
  split at h
  · cases h; exact toI_ok
  · cases h
attribute [push_cast] x_toH_ok_tt x_toH_ok_wr x_toH_ok_g24
theorem toH_ok : Ok Proofs.Tryd.prog GW 8 cToH := by
  refine fn_ok (c := x_toH_ok) x_toH_ok_ok Proofs.Tryd.func8 (code := _) rfl Proofs.Tryd.call8 (by kernel_rfl) ?_
  rintro args ch K ⟨w, h, q, bp, db, nf, l, rfl, rfl, ⟨hl, hh⟩⟩
  rw [Proofs.Tryd.ntmps8, Proofs.Tryd.results8]
  simp -dsimp only [push_cast, ↓reduceIte, ↓opsK_nil, ↓opsK_cons, ↓opG_none, ↓opG_some, ↓opX_store, ↓opX_append, ↓opX_call, ↓exec_skip, ↓exec_region, ↓exec_seq, ↓exec_cond, ↓exec_block, ↓exec_exit, ↓exec_ret, ↓opX_move, ↓opX_assign, ↓opX_pick, ↓opX_alloc, ↓opX_box, ↓opX_build, ↓opX_buildSlice, ↓opX_load, ↓opX_nilCheck, ↓opX_binOp, ↓opX_unOp, ↓opX_convert, ↓opX_makeFunc, ↓opX_makeSlice, ↓opX_slice, ↓opX_fieldAddr, ↓opX_field, ↓opX_indexAddr, ↓opX_index, ↓opX_extract, ↓opX_len, ↓opX_max, ↓opX_min, ↓exec_draw, ↓dk_nil, ↓dk_f, ↓dk_c, ↓pureK_eq, ↓fOne_none, ↓fOne_some, ↓re_cons, ↓PF_eq, ↓Fact_none, ↓Fact_some, ↓opX_callv, Int.reduceEq, Int.reduceNe, Int.reduceLT, Int.reduceLE, Int.reduceAdd, Int.reduceSub, Int.reduceMul, Int.reduceToNat, Int.reduceNeg, Int.reducePow, Nat.reduceEqDiff, Nat.reducePow, Nat.reduceAdd, Nat.reduceMul, Nat.reduceSub, Nat.reduceLeDiff, Nat.reduceLT, Nat.reduceBEq, reduceCtorEq]
  exact ⟨hl, hh⟩
def cEqH : Contract := ⟨[false, false], true, fun args ch K => ∃ (w h q : Int) (bp db : Bool) (nf : Option Bool) (l : List Int) (w2 h2 q2 : Int) (bp2 db2 : Bool) (nf2 : Option Bool) (l2 : List Int), args = [.g [.d (.v (.int .i64 (w))), .d (.v (.int .i64 (h))), .d (.v (.int .i64 (q))), .d (.v (.bool (bp))), .d (.v (.bool (db))), .d (.sl nf 1 (ints (l)))], .g [.d (.v (.int .i64 (w2))), .d (.v (.int .i64 (h2))), .d (.v (.int .i64 (q2))), .d (.v (.bool (bp2))), .d (.v (.bool (db2))), .d (.sl nf2 1 (ints (l2)))]] ∧ ch = [] ∧ l.length ≤ 1099511627776 ∧ K (.s (.d (.v (.bool (decide (w = w2 ∧ h = h2 ∧ q = q2 ∧ bp = bp2 ∧ db = db2 ∧ l = l2)))))) []⟩
theorem cEqH_own : cEqH.own = [false, false] := (_root_.id rfl)
theorem cEqH_plain : cEqH.plain = true := (_root_.id rfl)
theorem cEqH_at {w h q : Int} {bp db : Bool} {nf : Option Bool} {l : List Int} {w2 h2 q2 : Int} {bp2 db2 : Bool} {nf2 : Option Bool} {l2 : List Int} {K : AV → List Chunk → Prop} : specK cEqH [.g [.d (.v (.int .i64 (w))), .d (.v (.int .i64 (h))), .d (.v (.int .i64 (q))), .d (.v (.bool (bp))), .d (.v (.bool (db))), .d (.sl nf 1 (ints (l)))], .g [.d (.v (.int .i64 (w2))), .d (.v (.int .i64 (h2))), .d (.v (.int .i64 (q2))), .d (.v (.bool (bp2))), .d (.v (.bool (db2))), .d (.sl nf2 1 (ints (l2)))]] [] K = (l.length ≤ 1099511627776 ∧ K (.s (.d (.v (.bool (decide (w = w2 ∧ h = h2 ∧ q = q2 ∧ bp = bp2 ∧ db = db2 ∧ l = l2)))))) []) := by
  refine propext ⟨?_, fun h => ⟨_, _, _, _, _, _, _, _, _, _, _, _, _, _, rfl, rfl, h⟩⟩
  rintro ⟨w', h', q', bp', db', nf', l', w2', h2', q2', bp2', db2', nf2', l2', h1, h2, h⟩
  have h3 := And.intro h1 h2
  clear h1 h2
  simp only [List.cons.injEq, AV.s.injEq, AV.g.injEq, A.d.injEq, A.own.injEq, A.ptr.injEq, A.fn.injEq, D.v.injEq, D.sl.injEq, Chunk.box.injEq, Chunk.sl.injEq, Value.int.injEq, Value.bool.injEq, Value.string.injEq, Option.some.injEq, str_inj, ints_inj, strs_inj, encB_inj, eq_self, and_assoc, true_and, and_true, and_self] at h3
  obtain ⟨rfl, rfl, rfl, rfl, rfl, rfl, rfl, rfl, rfl, rfl, rfl, rfl, rfl, rfl⟩ := h3
  exact h
attribute [push_cast] cEqH_own cEqH_plain cEqH_at
def x_eqH_okG : FuncId → Option Contract
  | 29 => some cEqI
  | _ => none
def x_eqH_okO : Nat → Ordr := fun _ => []
def x_eqH_ok : Ctx := ⟨tabTT Tryd.tys, x_eqH_okG, false, x_eqH_okO⟩
theorem x_eqH_ok_tt : x_eqH_ok.tt = tabTT Tryd.tys := (_root_.id rfl)
theorem x_eqH_ok_wr : x_eqH_ok.wr = false := (_root_.id rfl)
theorem x_eqH_ok_g29 : x_eqH_ok.Γ 29 = some cEqI := (_root_.id rfl)
theorem x_eqH_ok_ok : CtxOk Proofs.Tryd.prog GW x_eqH_ok := by
  refine ⟨Tryd.tys_ok, fun f C h => ?_, by kernel_rfl⟩
  simp only [x_eqH_ok, x_eqH_okG] at h
  split at h
  · cases h; exact eqI_ok
  · cases h
attribute [push_cast] x_eqH_ok_tt x_eqH_ok_wr x_eqH_ok_g29
theorem eqH_ok : Ok Proofs.Tryd.prog GW 10 cEqH := by
  refine fn_ok (c := x_eqH_ok) x_eqH_ok_ok Proofs.Tryd.func10 (code := _) rfl Proofs.Tryd.call10 (by kernel_rfl) ?_
  rintro args ch K ⟨w, h, q, bp, db, nf, l, w2, h2, q2, bp2, db2, nf2, l2, rfl, rfl, ⟨hl, hh⟩⟩
  rw [Proofs.Tryd.ntmps10, Proofs.Tryd.results10]
  simp -dsimp only [push_cast, ↓reduceIte, ↓opsK_nil, ↓opsK_cons, ↓opG_none, ↓opG_some, ↓opX_store, ↓opX_append, ↓opX_call, ↓exec_skip, ↓exec_region, ↓exec_seq, ↓exec_cond, ↓exec_block, ↓exec_exit, ↓exec_ret, ↓opX_move, ↓opX_assign, ↓opX_pick, ↓opX_alloc, ↓opX_box, ↓opX_build, ↓opX_buildSlice, ↓opX_load, ↓opX_nilCheck, ↓opX_binOp, ↓opX_unOp, ↓opX_convert, ↓opX_makeFunc, ↓opX_makeSlice, ↓opX_slice, ↓opX_fieldAddr, ↓opX_field, ↓opX_indexAddr, ↓opX_index, ↓opX_extract, ↓opX_len, ↓opX_max, ↓opX_min, ↓exec_draw, ↓dk_nil, ↓dk_f, ↓dk_c, ↓pureK_eq, ↓fOne_none, ↓fOne_some, ↓re_cons, ↓PF_eq, ↓Fact_none, ↓Fact_some, ↓opX_callv, Int.reduceEq, Int.reduceNe, Int.reduceLT, Int.reduceLE, Int.reduceAdd, Int.reduceSub, Int.reduceMul, Int.reduceToNat, Int.reduceNeg, Int.reducePow, Nat.reduceEqDiff, Nat.reducePow, Nat.reduceAdd, Nat.reduceMul, Nat.reduceSub, Nat.reduceLeDiff, Nat.reduceLT, Nat.reduceBEq, reduceCtorEq]
  have hK : ∀ b : Bool, b = decide (w = w2 ∧ h = h2 ∧ q = q2 ∧ bp = bp2 ∧ db = db2 ∧ l = l2) → K (.s (.d (.v (.bool b)))) [] := fun b e => e ▸ hh
  clear hh
  repeat' (first | refine And.intro ?_ ?_ | split)
  all_goals first | exact hl | (refine hK _ ?_; simp_all)
def cSzH : Contract := ⟨[false, false], true, fun args ch K => ∃ (w h q : Int) (bp db : Bool) (nf : Option Bool) (l : List Int) (n : Int), args = [.g [.d (.v (.int .i64 (w))), .d (.v (.int .i64 (h))), .d (.v (.int .i64 (q))), .d (.v (.bool (bp))), .d (.v (.bool (db))), .d (.sl nf 1 (ints (l)))], .s (.d (.v (.int .i64 (n))))] ∧ ch = [] ∧ l.length ≤ 9223372036854775807 ∧ 0 ≤ n ∧ n ≤ 1152921504606846976 ∧ K (.s (.d (.v (.int .i64 (if n < l.length then -1 else n - l.length))))) []⟩
theorem cSzH_own : cSzH.own = [false, false] := (_root_.id rfl)
theorem cSzH_plain : cSzH.plain = true := (_root_.id rfl)
theorem cSzH_at {w h q : Int} {bp db : Bool} {nf : Option Bool} {l : List Int} {n : Int} {K : AV → List Chunk → Prop} : specK cSzH [.g [.d (.v (.int .i64 (w))), .d (.v (.int .i64 (h))), .d (.v (.int .i64 (q))), .d (.v (.bool (bp))), .d (.v (.bool (db))), .d (.sl nf 1 (ints (l)))], .s (.d (.v (.int .i64 (n))))] [] K = (l.length ≤ 9223372036854775807 ∧ 0 ≤ n ∧ n ≤ 1152921504606846976 ∧ K (.s (.d (.v (.int .i64 (if n < l.length then -1 else n - l.length))))) []) := by
  refine propext ⟨?_, fun h => ⟨_, _, _, _, _, _, _, _, rfl, rfl, h⟩⟩
  rintro ⟨w', h', q', bp', db', nf', l', n', h1, h2, h⟩
  have h3 := And.intro h1 h2
  clear h1 h2
  simp only [List.cons.injEq, AV.s.injEq, AV.g.injEq, A.d.injEq, A.own.injEq, A.ptr.injEq, A.fn.injEq, D.v.injEq, D.sl.injEq, Chunk.box.injEq, Chunk.sl.injEq, Value.int.injEq, Value.bool.injEq, Value.string.injEq, Option.some.injEq, str_inj, ints_inj, strs_inj, encB_inj, eq_self, and_assoc, true_and, and_true, and_self] at h3
  obtain ⟨rfl, rfl, rfl, rfl, rfl, rfl, rfl, rfl⟩ := h3
  exact h
attribute [push_cast] cSzH_own cSzH_plain cSzH_at
def x_szH_okG : FuncId → Option Contract
  | 20 => some cSzI
  | _ => none
def x_szH_okO : Nat → Ordr := fun _ => []
def x_szH_ok : Ctx := ⟨tabTT Tryd.tys, x_szH_okG, false, x_szH_okO⟩
theorem x_szH_ok_tt : x_szH_ok.tt = tabTT Tryd.tys := (_root_.id rfl)
theorem x_szH_ok_wr : x_szH_ok.wr = false := (_root_.id rfl)
theorem x_szH_ok_g20 : x_szH_ok.Γ 20 = some cSzI := (_root_.id rfl)
theorem x_szH_ok_ok : CtxOk Proofs.Tryd.prog GW x_szH_ok := by
  refine ⟨Tryd.tys_ok, fun f C h => ?_, by kernel_rfl⟩
  simp only [x_szH_ok, x_szH_okG] at h
  split at h
  · cases h; exact szI_ok
  · cases h
attribute [push_cast] x_szH_ok_tt x_szH_ok_wr x_szH_ok_g20
theorem szH_ok : Ok Proofs.Tryd.prog GW 6 cSzH := by
  refine fn_ok (c := x_szH_ok) x_szH_ok_ok Proofs.Tryd.func6 (code := _) rfl Proofs.Tryd.call6 (by kernel_rfl) ?_
  rintro args ch K ⟨w, h, q, bp, db, nf, l, n, rfl, rfl, ⟨hl, h0, h1, hh⟩⟩
  rw [Proofs.Tryd.ntmps6, Proofs.Tryd.results6]
  simp -dsimp only [push_cast, ↓reduceIte, ↓opsK_nil, ↓opsK_cons, ↓opG_none, ↓opG_some, ↓opX_store, ↓opX_append, ↓opX_call, ↓exec_skip, ↓exec_region, ↓exec_seq, ↓exec_cond, ↓exec_block, ↓exec_exit, ↓exec_ret, ↓opX_move, ↓opX_assign, ↓opX_pick, ↓opX_alloc, ↓opX_box, ↓opX_build, ↓opX_buildSlice, ↓opX_load, ↓opX_nilCheck, ↓opX_binOp, ↓opX_unOp, ↓opX_convert, ↓opX_makeFunc, ↓opX_makeSlice, ↓opX_slice, ↓opX_fieldAddr, ↓opX_field, ↓opX_indexAddr, ↓opX_index, ↓opX_extract, ↓opX_len, ↓opX_max, ↓opX_min, ↓exec_draw, ↓dk_nil, ↓dk_f, ↓dk_c, ↓pureK_eq, ↓fOne_none, ↓fOne_some, ↓re_cons, ↓PF_eq, ↓Fact_none, ↓Fact_some, ↓opX_callv, Int.reduceEq, Int.reduceNe, Int.reduceLT, Int.reduceLE, Int.reduceAdd, Int.reduceSub, Int.reduceMul, Int.reduceToNat, Int.reduceNeg, Int.reducePow, Nat.reduceEqDiff, Nat.reducePow, Nat.reduceAdd, Nat.reduceMul, Nat.reduceSub, Nat.reduceLeDiff, Nat.reduceLT, Nat.reduceBEq, reduceCtorEq]
  refine ⟨hl, h0, h1, ?_⟩
  split <;> rename_i hc
  · rw [if_pos hc] at hh; simpa using hh
  · rw [if_neg hc] at hh; rw [if_neg (by omega)]; exact hh
def cLawSH : Contract := ⟨[false], true, fun args ch K => ∃ (w h q : Int) (bp db : Bool) (nf : Option Bool) (l : List Int), args = [.g [.d (.v (.int .i64 (w))), .d (.v (.int .i64 (h))), .d (.v (.int .i64 (q))), .d (.v (.bool (bp))), .d (.v (.bool (db))), .d (.sl nf 1 (ints (l)))]] ∧ ch = [] ∧ l.length ≤ 9223372036854775807 ∧ K (.s (.d (.v (.bool (true))))) []⟩
theorem cLawSH_own : cLawSH.own = [false] := (_root_.id rfl)
theorem cLawSH_plain : cLawSH.plain = true := (_root_.id rfl)
theorem cLawSH_at {w h q : Int} {bp db : Bool} {nf : Option Bool} {l : List Int} {K : AV → List Chunk → Prop} : specK cLawSH [.g [.d (.v (.int .i64 (w))), .d (.v (.int .i64 (h))), .d (.v (.int .i64 (q))), .d (.v (.bool (bp))), .d (.v (.bool (db))), .d (.sl nf 1 (ints (l)))]] [] K = (l.length ≤ 9223372036854775807 ∧ K (.s (.d (.v (.bool (true))))) []) := by
  refine propext ⟨?_, fun h => ⟨_, _, _, _, _, _, _, rfl, rfl, h⟩⟩
  rintro ⟨w', h', q', bp', db', nf', l', h1, h2, h⟩
  have h3 := And.intro h1 h2
  clear h1 h2
  simp only [List.cons.injEq, AV.s.injEq, AV.g.injEq, A.d.injEq, A.own.injEq, A.ptr.injEq, A.fn.injEq, D.v.injEq, D.sl.injEq, Chunk.box.injEq, Chunk.sl.injEq, Value.int.injEq, Value.bool.injEq, Value.string.injEq, Option.some.injEq, str_inj, ints_inj, strs_inj, encB_inj, eq_self, and_assoc, true_and, and_true, and_self] at h3
  obtain ⟨rfl, rfl, rfl, rfl, rfl, rfl, rfl⟩ := h3
  exact h
attribute [push_cast] cLawSH_own cLawSH_plain cLawSH_at
def x_lawSH_okG : FuncId → Option Contract
  | 6 => some cSzH
  | 8 => some cToH
  | 7 => some cShow
  | 9 => some cShow
  | 10 => some cEqH
  | _ => none
def x_lawSH_okO : Nat → Ordr
  | 10 => [(0, none), (1, none), (2, some [0]), (3, some []), (4, none)]
  | _ => []
def x_lawSH_ok : Ctx := ⟨tabTT Tryd.tys, x_lawSH_okG, false, x_lawSH_okO⟩
theorem x_lawSH_ok_tt : x_lawSH_ok.tt = tabTT Tryd.tys := (_root_.id rfl)
theorem x_lawSH_ok_wr : x_lawSH_ok.wr = false := (_root_.id rfl)
theorem x_lawSH_ok_g6 : x_lawSH_ok.Γ 6 = some cSzH := (_root_.id rfl)
theorem x_lawSH_ok_g8 : x_lawSH_ok.Γ 8 = some cToH := (_root_.id rfl)
theorem x_lawSH_ok_g7 : x_lawSH_ok.Γ 7 = some cShow := (_root_.id rfl)
theorem x_lawSH_ok_g9 : x_lawSH_ok.Γ 9 = some cShow := (_root_.id rfl)
theorem x_lawSH_ok_g10 : x_lawSH_ok.Γ 10 = some cEqH := (_root_.id rfl)
theorem x_lawSH_ok_o10 : x_lawSH_ok.ord 10 = [(0, none), (1, none), (2, some [0]), (3, some []), (4, none)] := (_root_.id rfl)
theorem x_lawSH_ok_ok : CtxOk Proofs.Tryd.prog GW x_lawSH_ok := by
  refine ⟨Tryd.tys_ok, fun f C h => ?_, by kernel_rfl⟩
  simp only [x_lawSH_ok, x_lawSH_okG] at h
  split at h
  · cases h; exact szH_ok
  · cases h; exact toH_ok
  · cases h; exact s_show_ok
  · cases h; exact show_ok
  · cases h; exact eqH_ok
  · cases h
attribute [push_cast] x_lawSH_ok_tt x_lawSH_ok_wr x_lawSH_ok_g6 x_lawSH_ok_g8 x_lawSH_ok_g7 x_lawSH_ok_g9 x_lawSH_ok_g10 x_lawSH_ok_o10
theorem lawSH_ok : Ok Proofs.Tryd.prog GW 3 cLawSH := by
  refine fn_ok (c := x_lawSH_ok) x_lawSH_ok_ok Proofs.Tryd.func3 (code := _) rfl Proofs.Tryd.call3 (by kernel_rfl) ?_
  rintro args ch K ⟨w, h, q, bp, db, nf, l, rfl, rfl, ⟨hl, hh⟩⟩
  rw [Proofs.Tryd.ntmps3, Proofs.Tryd.results3]
  simp -dsimp only [push_cast, ↓reduceIte, ↓opsK_nil, ↓opsK_cons, ↓opG_none, ↓opG_some, ↓opX_store, ↓opX_append, ↓opX_call, ↓exec_skip, ↓exec_region, ↓exec_seq, ↓exec_cond, ↓exec_block, ↓exec_exit, ↓exec_ret, ↓opX_move, ↓opX_assign, ↓opX_pick, ↓opX_alloc, ↓opX_box, ↓opX_build, ↓opX_buildSlice, ↓opX_load, ↓opX_nilCheck, ↓opX_binOp, ↓opX_unOp, ↓opX_convert, ↓opX_makeFunc, ↓opX_makeSlice, ↓opX_slice, ↓opX_fieldAddr, ↓opX_field, ↓opX_indexAddr, ↓opX_index, ↓opX_extract, ↓opX_len, ↓opX_max, ↓opX_min, ↓exec_draw, ↓dk_nil, ↓dk_f, ↓dk_c, ↓pureK_eq, ↓fOne_none, ↓fOne_some, ↓re_cons, ↓PF_eq, ↓Fact_none, ↓Fact_some, ↓opX_callv, Int.reduceEq, Int.reduceNe, Int.reduceLT, Int.reduceLE, Int.reduceAdd, Int.reduceSub, Int.reduceMul, Int.reduceToNat, Int.reduceNeg, Int.reducePow, Nat.reduceEqDiff, Nat.reducePow, Nat.reduceAdd, Nat.reduceMul, Nat.reduceSub, Nat.reduceLeDiff, Nat.reduceLT, Nat.reduceBEq, reduceCtorEq]
  refine ⟨hl, ?_⟩
  by_cases hq : (1048576 : Int) < l.length
  · rw [if_pos hq]; simpa using hh
  · rw [if_neg hq, if_neg (by omega)]
    exact ⟨by omega, by omega, by omega, by omega, by omega, by omega, hh⟩
end Go.VC
end
