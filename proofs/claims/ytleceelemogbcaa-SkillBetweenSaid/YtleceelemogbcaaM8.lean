/- Parts of the proof, in build order. -/
import Derived.Test.YtleceelemogbcaaM1
import Derived.Test.YtleceelemogbcaaM5
import Derived.Test.YtleceelemogbcaaProg
import Derived.WalkKit
import Derived.Test.YtleceelemogbcaaM6
/- The table of the types that the program uses. -/
namespace Go.Proofs.Ytleceelemogbcaa
/-- The types that the program uses. -/
def tab : Tab := [
  (0, ⟨.other, 1, 0, none, none⟩),
  (1, ⟨.other, 1, 8, none, none⟩),
  (2, ⟨.int .i64, 1, 8, some (.int .i64 (0)), some (.int .i64)⟩),
  (3, ⟨.int .i64, 1, 8, some (.int .i64 (0)), some (.int .i64)⟩),
  (4, ⟨.bool, 1, 1, some (.bool false), some .bool⟩),
  (5, ⟨.int .u8, 1, 1, some (.int .u8 (0)), some (.int .u8)⟩),
  (6, ⟨.int .u8, 1, 1, some (.int .u8 (0)), some (.int .u8)⟩),
  (7, ⟨.recd [(0, 2), (1, 3), (2, 4), (3, 6)], 4, 24, some (.agg [.int .i64 (0), .int .i64 (0), .bool false, .int .u8 (0)]), some (.recd (.cons (.int .i64) (.cons (.int .i64) (.cons .bool (.cons (.int .u8) .nil)))))⟩),
  (8, ⟨.recd [(0, 2), (1, 3), (2, 4), (3, 6)], 4, 24, some (.agg [.int .i64 (0), .int .i64 (0), .bool false, .int .u8 (0)]), some (.recd (.cons (.int .i64) (.cons (.int .i64) (.cons .bool (.cons (.int .u8) .nil)))))⟩),
  (9, ⟨.str, 1, 16, some (.str ByteArray.empty), some .str⟩),
  (10, ⟨.str, 1, 16, some (.str ByteArray.empty), some .str⟩),
  (11, ⟨.str, 1, 16, some (.str ByteArray.empty), some .str⟩),
  (12, ⟨.int .u64, 1, 8, some (.int .u64 (0)), some (.int .u64)⟩),
  (15, ⟨.other, 1, 8, none, none⟩),
  (16, ⟨.other, 1, 8, none, none⟩),
  (17, ⟨.other, 1, 8, none, none⟩),
  (20, ⟨.ifc, 1, 16, some (.nilif), none⟩),
  (21, ⟨.int .i32, 1, 4, some (.int .i32 (0)), some (.int .i32)⟩),
  (22, ⟨.int .i64, 1, 8, some (.int .i64 (0)), some (.int .i64)⟩),
  (23, ⟨.recd [(0, 22), (1, 22)], 2, 16, some (.agg [.int .i64 (0), .int .i64 (0)]), some (.recd (.cons (.int .i64) (.cons (.int .i64) .nil)))⟩),
  (24, ⟨.recd [(0, 22), (1, 22)], 2, 16, some (.agg [.int .i64 (0), .int .i64 (0)]), some (.recd (.cons (.int .i64) (.cons (.int .i64) .nil)))⟩),
  (25, ⟨.recd [(0, 24), (2, 24), (4, 3)], 5, 40, some (.agg [.int .i64 (0), .int .i64 (0), .int .i64 (0), .int .i64 (0), .int .i64 (0)]), some (.recd (.cons (.recd (.cons (.int .i64) (.cons (.int .i64) .nil))) (.cons (.recd (.cons (.int .i64) (.cons (.int .i64) .nil))) (.cons (.int .i64) .nil))))⟩),
  (26, ⟨.recd [(0, 24), (2, 24), (4, 3)], 5, 40, some (.agg [.int .i64 (0), .int .i64 (0), .int .i64 (0), .int .i64 (0), .int .i64 (0)]), some (.recd (.cons (.recd (.cons (.int .i64) (.cons (.int .i64) .nil))) (.cons (.recd (.cons (.int .i64) (.cons (.int .i64) .nil))) (.cons (.int .i64) .nil))))⟩),
  (27, ⟨.sl 108, 1, 24, some (.nils), some (.sl (.recd (.cons (.int .i64) (.cons (.int .i64) (.cons (.int .i64) .nil)))))⟩),
  (28, ⟨.recd [(0, 3), (1, 3), (2, 26), (7, 27), (8, 24)], 10, 96, some (.agg [.int .i64 (0), .int .i64 (0), .int .i64 (0), .int .i64 (0), .int .i64 (0), .int .i64 (0), .int .i64 (0), .nils, .int .i64 (0), .int .i64 (0)]), some (.recd (.cons (.int .i64) (.cons (.int .i64) (.cons (.recd (.cons (.recd (.cons (.int .i64) (.cons (.int .i64) .nil))) (.cons (.recd (.cons (.int .i64) (.cons (.int .i64) .nil))) (.cons (.int .i64) .nil)))) (.cons (.sl (.recd (.cons (.int .i64) (.cons (.int .i64) (.cons (.int .i64) .nil))))) (.cons (.recd (.cons (.int .i64) (.cons (.int .i64) .nil))) .nil))))))⟩),
  (29, ⟨.recd [(0, 3), (1, 3), (2, 26), (7, 27), (8, 24)], 10, 96, some (.agg [.int .i64 (0), .int .i64 (0), .int .i64 (0), .int .i64 (0), .int .i64 (0), .int .i64 (0), .int .i64 (0), .nils, .int .i64 (0), .int .i64 (0)]), some (.recd (.cons (.int .i64) (.cons (.int .i64) (.cons (.recd (.cons (.recd (.cons (.int .i64) (.cons (.int .i64) .nil))) (.cons (.recd (.cons (.int .i64) (.cons (.int .i64) .nil))) (.cons (.int .i64) .nil)))) (.cons (.sl (.recd (.cons (.int .i64) (.cons (.int .i64) (.cons (.int .i64) .nil))))) (.cons (.recd (.cons (.int .i64) (.cons (.int .i64) .nil))) .nil))))))⟩),
  (30, ⟨.other, 1, 8, none, none⟩),
  (31, ⟨.recd [(0, 3), (1, 3), (2, 26), (7, 4)], 8, 64, some (.agg [.int .i64 (0), .int .i64 (0), .int .i64 (0), .int .i64 (0), .int .i64 (0), .int .i64 (0), .int .i64 (0), .bool false]), some (.recd (.cons (.int .i64) (.cons (.int .i64) (.cons (.recd (.cons (.recd (.cons (.int .i64) (.cons (.int .i64) .nil))) (.cons (.recd (.cons (.int .i64) (.cons (.int .i64) .nil))) (.cons (.int .i64) .nil)))) (.cons .bool .nil)))))⟩),
  (32, ⟨.recd [(0, 3), (1, 3), (2, 26), (7, 4)], 8, 64, some (.agg [.int .i64 (0), .int .i64 (0), .int .i64 (0), .int .i64 (0), .int .i64 (0), .int .i64 (0), .int .i64 (0), .bool false]), some (.recd (.cons (.int .i64) (.cons (.int .i64) (.cons (.recd (.cons (.recd (.cons (.int .i64) (.cons (.int .i64) .nil))) (.cons (.recd (.cons (.int .i64) (.cons (.int .i64) .nil))) (.cons (.int .i64) .nil)))) (.cons .bool .nil)))))⟩),
  (33, ⟨.int .i64, 1, 8, some (.int .i64 (0)), some (.int .i64)⟩),
  (34, ⟨.other, 1, 0, none, none⟩),
  (35, ⟨.other, 1, 8, none, none⟩),
  (36, ⟨.other, 1, 0, none, none⟩),
  (37, ⟨.other, 1, 8, none, none⟩),
  (38, ⟨.other, 1, 8, none, none⟩),
  (39, ⟨.other, 1, 8, none, none⟩),
  (40, ⟨.other, 1, 8, none, none⟩),
  (41, ⟨.sl 3, 1, 24, some (.nils), some (.sl (.int .i64))⟩),
  (42, ⟨.sl 22, 1, 24, some (.nils), some (.sl (.int .i64))⟩),
  (43, ⟨.sl 5, 1, 24, some (.nils), some (.sl (.int .u8))⟩),
  (44, ⟨.other, 1, 8, none, none⟩),
  (45, ⟨.recd [(0, 3), (1, 3)], 2, 16, some (.agg [.int .i64 (0), .int .i64 (0)]), some (.recd (.cons (.int .i64) (.cons (.int .i64) .nil)))⟩),
  (46, ⟨.recd [(0, 3), (1, 3)], 2, 16, some (.agg [.int .i64 (0), .int .i64 (0)]), some (.recd (.cons (.int .i64) (.cons (.int .i64) .nil)))⟩),
  (47, ⟨.other, 1, 0, none, none⟩),
  (48, ⟨.other, 1, 8, none, none⟩),
  (49, ⟨.other, 1, 0, none, none⟩),
  (50, ⟨.other, 1, 8, none, none⟩),
  (51, ⟨.other, 1, 8, none, none⟩),
  (52, ⟨.sl 4, 1, 24, some (.nils), some (.sl .bool)⟩),
  (53, ⟨.other, 1, 8, none, none⟩),
  (54, ⟨.sl 55, 1, 24, some (.nils), some (.sl (.int .u16))⟩),
  (55, ⟨.int .u16, 1, 2, some (.int .u16 (0)), some (.int .u16)⟩),
  (56, ⟨.other, 1, 0, none, none⟩),
  (57, ⟨.other, 1, 8, none, none⟩),
  (58, ⟨.other, 1, 8, none, none⟩),
  (59, ⟨.recd [(0, 46), (2, 46)], 4, 32, some (.agg [.int .i64 (0), .int .i64 (0), .int .i64 (0), .int .i64 (0)]), some (.recd (.cons (.recd (.cons (.int .i64) (.cons (.int .i64) .nil))) (.cons (.recd (.cons (.int .i64) (.cons (.int .i64) .nil))) .nil)))⟩),
  (60, ⟨.recd [(0, 46), (2, 46)], 4, 32, some (.agg [.int .i64 (0), .int .i64 (0), .int .i64 (0), .int .i64 (0)]), some (.recd (.cons (.recd (.cons (.int .i64) (.cons (.int .i64) .nil))) (.cons (.recd (.cons (.int .i64) (.cons (.int .i64) .nil))) .nil)))⟩),
  (61, ⟨.other, 1, 0, none, none⟩),
  (62, ⟨.other, 1, 8, none, none⟩),
  (63, ⟨.recd [(0, 22), (1, 22)], 2, 16, some (.agg [.int .i64 (0), .int .i64 (0)]), some (.recd (.cons (.int .i64) (.cons (.int .i64) .nil)))⟩),
  (64, ⟨.recd [(0, 22), (1, 22)], 2, 16, some (.agg [.int .i64 (0), .int .i64 (0)]), some (.recd (.cons (.int .i64) (.cons (.int .i64) .nil)))⟩),
  (65, ⟨.other, 1, 0, none, none⟩),
  (66, ⟨.other, 1, 8, none, none⟩),
  (67, ⟨.other, 1, 0, none, none⟩),
  (68, ⟨.other, 1, 8, none, none⟩),
  (69, ⟨.other, 1, 0, none, none⟩),
  (70, ⟨.other, 1, 8, none, none⟩),
  (71, ⟨.other, 1, 0, none, none⟩),
  (72, ⟨.other, 1, 8, none, none⟩),
  (73, ⟨.other, 1, 8, none, none⟩),
  (74, ⟨.other, 1, 8, none, none⟩),
  (75, ⟨.other, 1, 8, none, none⟩),
  (76, ⟨.other, 1, 8, none, none⟩),
  (77, ⟨.other, 1, 8, none, none⟩),
  (78, ⟨.other, 1, 8, none, none⟩),
  (79, ⟨.recd [(0, 29)], 10, 96, some (.agg [.int .i64 (0), .int .i64 (0), .int .i64 (0), .int .i64 (0), .int .i64 (0), .int .i64 (0), .int .i64 (0), .nils, .int .i64 (0), .int .i64 (0)]), some (.recd (.cons (.recd (.cons (.int .i64) (.cons (.int .i64) (.cons (.recd (.cons (.recd (.cons (.int .i64) (.cons (.int .i64) .nil))) (.cons (.recd (.cons (.int .i64) (.cons (.int .i64) .nil))) (.cons (.int .i64) .nil)))) (.cons (.sl (.recd (.cons (.int .i64) (.cons (.int .i64) (.cons (.int .i64) .nil))))) (.cons (.recd (.cons (.int .i64) (.cons (.int .i64) .nil))) .nil)))))) .nil))⟩),
  (80, ⟨.recd [(0, 29)], 10, 96, some (.agg [.int .i64 (0), .int .i64 (0), .int .i64 (0), .int .i64 (0), .int .i64 (0), .int .i64 (0), .int .i64 (0), .nils, .int .i64 (0), .int .i64 (0)]), some (.recd (.cons (.recd (.cons (.int .i64) (.cons (.int .i64) (.cons (.recd (.cons (.recd (.cons (.int .i64) (.cons (.int .i64) .nil))) (.cons (.recd (.cons (.int .i64) (.cons (.int .i64) .nil))) (.cons (.int .i64) .nil)))) (.cons (.sl (.recd (.cons (.int .i64) (.cons (.int .i64) (.cons (.int .i64) .nil))))) (.cons (.recd (.cons (.int .i64) (.cons (.int .i64) .nil))) .nil)))))) .nil))⟩),
  (81, ⟨.other, 1, 8, none, none⟩),
  (82, ⟨.other, 1, 8, none, none⟩),
  (83, ⟨.other, 1, 8, none, none⟩),
  (84, ⟨.other, 1, 8, none, none⟩),
  (85, ⟨.other, 1, 8, none, none⟩),
  (86, ⟨.other, 1, 8, none, none⟩),
  (87, ⟨.other, 1, 8, none, none⟩),
  (88, ⟨.other, 1, 8, none, none⟩),
  (89, ⟨.sl 41, 1, 24, some (.nils), some (.sl (.sl (.int .i64)))⟩),
  (90, ⟨.other, 1, 8, none, none⟩),
  (91, ⟨.other, 1, 8, none, none⟩),
  (92, ⟨.other, 1, 8, none, none⟩),
  (93, ⟨.other, 1, 8, none, none⟩),
  (94, ⟨.other, 1, 8, none, none⟩),
  (95, ⟨.other, 1, 8, none, none⟩),
  (96, ⟨.other, 1, 8, none, none⟩),
  (97, ⟨.other, 1, 8, none, none⟩),
  (98, ⟨.other, 1, 8, none, none⟩),
  (99, ⟨.recd [(0, 33)], 1, 8, some (.agg [.int .i64 (0)]), some (.recd (.cons (.int .i64) .nil))⟩),
  (100, ⟨.recd [(0, 33)], 1, 8, some (.agg [.int .i64 (0)]), some (.recd (.cons (.int .i64) .nil))⟩),
  (101, ⟨.other, 1, 0, none, none⟩),
  (102, ⟨.other, 1, 8, none, none⟩),
  (103, ⟨.other, 1, 8, none, none⟩),
  (104, ⟨.other, 1, 8, none, none⟩),
  (105, ⟨.other, 1, 8, none, none⟩),
  (106, ⟨.sl 32, 1, 24, some (.nils), some (.sl (.recd (.cons (.int .i64) (.cons (.int .i64) (.cons (.recd (.cons (.recd (.cons (.int .i64) (.cons (.int .i64) .nil))) (.cons (.recd (.cons (.int .i64) (.cons (.int .i64) .nil))) (.cons (.int .i64) .nil)))) (.cons .bool .nil))))))⟩),
  (107, ⟨.recd [(0, 3), (1, 3), (2, 3)], 3, 24, some (.agg [.int .i64 (0), .int .i64 (0), .int .i64 (0)]), some (.recd (.cons (.int .i64) (.cons (.int .i64) (.cons (.int .i64) .nil))))⟩),
  (108, ⟨.recd [(0, 3), (1, 3), (2, 3)], 3, 24, some (.agg [.int .i64 (0), .int .i64 (0), .int .i64 (0)]), some (.recd (.cons (.int .i64) (.cons (.int .i64) (.cons (.int .i64) .nil))))⟩),
  (109, ⟨.other, 1, 8, none, none⟩),
  (110, ⟨.other, 1, 8, none, none⟩),
  (111, ⟨.other, 1, 8, none, none⟩),
  (112, ⟨.other, 1, 8, none, none⟩),
  (113, ⟨.other, 1, 8, none, none⟩),
  (114, ⟨.other, 1, 0, none, none⟩),
  (115, ⟨.other, 1, 8, none, none⟩),
  (116, ⟨.other, 1, 8, none, none⟩),
  (117, ⟨.other, 1, 8, none, none⟩),
  (118, ⟨.other, 1, 8, none, none⟩),
  (119, ⟨.recd [(0, 32)], 8, 64, some (.agg [.int .i64 (0), .int .i64 (0), .int .i64 (0), .int .i64 (0), .int .i64 (0), .int .i64 (0), .int .i64 (0), .bool false]), some (.recd (.cons (.recd (.cons (.int .i64) (.cons (.int .i64) (.cons (.recd (.cons (.recd (.cons (.int .i64) (.cons (.int .i64) .nil))) (.cons (.recd (.cons (.int .i64) (.cons (.int .i64) .nil))) (.cons (.int .i64) .nil)))) (.cons .bool .nil))))) .nil))⟩),
  (120, ⟨.recd [(0, 32)], 8, 64, some (.agg [.int .i64 (0), .int .i64 (0), .int .i64 (0), .int .i64 (0), .int .i64 (0), .int .i64 (0), .int .i64 (0), .bool false]), some (.recd (.cons (.recd (.cons (.int .i64) (.cons (.int .i64) (.cons (.recd (.cons (.recd (.cons (.int .i64) (.cons (.int .i64) .nil))) (.cons (.recd (.cons (.int .i64) (.cons (.int .i64) .nil))) (.cons (.int .i64) .nil)))) (.cons .bool .nil))))) .nil))⟩),
  (121, ⟨.arr 2 3, 2, 16, some (.agg [.int .i64 (0), .int .i64 (0)]), some (.recd (.cons (.int .i64) (.cons (.int .i64) .nil)))⟩),
  (122, ⟨.other, 1, 8, none, none⟩),
  (123, ⟨.other, 1, 8, none, none⟩),
  (124, ⟨.other, 1, 8, none, none⟩),
  (125, ⟨.other, 1, 8, none, none⟩),
  (126, ⟨.other, 1, 8, none, none⟩),
  (127, ⟨.other, 1, 8, none, none⟩),
  (128, ⟨.other, 1, 8, none, none⟩),
  (129, ⟨.other, 1, 8, none, none⟩),
  (130, ⟨.other, 1, 8, none, none⟩),
  (131, ⟨.other, 1, 8, none, none⟩),
  (132, ⟨.int .u64, 1, 8, some (.int .u64 (0)), some (.int .u64)⟩),
  (133, ⟨.recd [(0, 132), (1, 132)], 2, 16, some (.agg [.int .u64 (0), .int .u64 (0)]), some (.recd (.cons (.int .u64) (.cons (.int .u64) .nil)))⟩),
  (134, ⟨.recd [(0, 132), (1, 132)], 2, 16, some (.agg [.int .u64 (0), .int .u64 (0)]), some (.recd (.cons (.int .u64) (.cons (.int .u64) .nil)))⟩),
  (135, ⟨.other, 1, 8, none, none⟩),
  (136, ⟨.other, 1, 8, none, none⟩),
  (137, ⟨.other, 1, 8, none, none⟩),
  (138, ⟨.other, 1, 8, none, none⟩),
  (139, ⟨.other, 1, 8, none, none⟩),
  (140, ⟨.recd [(0, 33)], 1, 8, some (.agg [.int .i64 (0)]), some (.recd (.cons (.int .i64) .nil))⟩),
  (141, ⟨.recd [(0, 33)], 1, 8, some (.agg [.int .i64 (0)]), some (.recd (.cons (.int .i64) .nil))⟩),
  (142, ⟨.other, 1, 0, none, none⟩),
  (143, ⟨.other, 1, 0, none, none⟩),
  (144, ⟨.other, 1, 8, none, none⟩),
  (145, ⟨.other, 1, 8, none, none⟩),
  (146, ⟨.other, 1, 8, none, none⟩),
  (147, ⟨.other, 1, 8, none, none⟩),
  (148, ⟨.other, 1, 0, none, none⟩),
  (149, ⟨.other, 1, 8, none, none⟩),
  (150, ⟨.other, 1, 8, none, none⟩),
  (151, ⟨.other, 1, 8, none, none⟩),
  (152, ⟨.other, 1, 8, none, none⟩),
  (153, ⟨.int .u64, 1, 8, some (.int .u64 (0)), some (.int .u64)⟩),
  (154, ⟨.ifc, 1, 16, some (.nilif), none⟩),
  (155, ⟨.ifc, 1, 16, some (.nilif), none⟩),
  (156, ⟨.other, 1, 8, none, none⟩),
  (157, ⟨.other, 1, 8, none, none⟩),
  (158, ⟨.other, 1, 8, none, none⟩),
  (159, ⟨.other, 1, 8, none, none⟩),
  (162, ⟨.arr 0 16, 0, 0, some (.agg []), some (.recd .nil)⟩),
  (165, ⟨.other, 1, 8, none, none⟩),
  (166, ⟨.int .u32, 1, 4, some (.int .u32 (0)), some (.int .u32)⟩),
  (167, ⟨.int .u8, 1, 1, some (.int .u8 (0)), some (.int .u8)⟩),
  (168, ⟨.int .u8, 1, 1, some (.int .u8 (0)), some (.int .u8)⟩),
  (169, ⟨.other, 1, 8, none, none⟩),
  (170, ⟨.other, 1, 8, none, none⟩),
  (171, ⟨.int .i32, 1, 4, some (.int .i32 (0)), some (.int .i32)⟩),
  (172, ⟨.int .i32, 1, 4, some (.int .i32 (0)), some (.int .i32)⟩),
  (175, ⟨.other, 1, 8, none, none⟩),
  (176, ⟨.recd [(0, 9)], 1, 16, some (.agg [.str ByteArray.empty]), some (.recd (.cons .str .nil))⟩),
  (177, ⟨.recd [(0, 9)], 1, 16, some (.agg [.str ByteArray.empty]), some (.recd (.cons .str .nil))⟩),
  (178, ⟨.other, 1, 8, none, none⟩)]
end Go.Proofs.Ytleceelemogbcaa

/- The table of the types is the program's. -/
namespace Go.Proofs.Ytleceelemogbcaa
theorem tabOk : TabOk Try.prog tab := tab_ok (by kernel_rfl)
end Go.Proofs.Ytleceelemogbcaa

/- A first function by the evaluator: sum. -/
namespace Go.Proofs.Ytleceelemogbcaa
open Go.RowKit

def sumW (xs : List Int) : Int := xs.foldl (fun a x => IntKind.i64.wrap (a + x)) 0

theorem sumW_succ (xs : List Int) (i : Nat) (h : i < xs.length) : sumW (xs.take (i + 1)) = IntKind.i64.wrap (sumW (xs.take i) + xs.getD i 0) := by
  unfold sumW
  rw [List.take_add_one, List.getElem?_eq_getElem h, List.foldl_append]
  simp [h]

def env0 : FuncId → Option Fsp := fun _ => none

theorem sum_text (N : Nat) (α : Type) (xs : List Int) (k : AOut → Option α) : evFn real tab (envF env0) N Try.f48 α [.ro (.int .i64) xs] k =
    afterL
      (iterL N
        (fun x : Int × Int × Unit =>
          bif decide (x.2.1 < (xs.length : Int)) then
            if 0 ≤ x.2.1 ∧ x.2.1 < (xs.length : Int) then
              some (LRes.cont (IntKind.i64.wrap (x.1 + xs.getD x.2.1.toNat (Int.ofNat 0)), IntKind.i64.wrap (x.2.1 + 1), ()))
            else none
          else some (LRes.brk 0 (x.1, x.2.1, ())))
        (0, 0, ()))
      fun id y => if id = 0 then k (AOut.ret (AVal.int IntKind.i64 y.1)) else none := by kernel_rfl

theorem mixed : Try.prog.follows .mixedOrders = true := by kernel_rfl
theorem sum_enter (args : Array Value) (w : World) : (callFunc 48 args).run Try.prog w = .ok (.enter 48 args) w := by kernel_rfl

def sumF : List AVal → Option AOut
  | [.ro (.int .i64) xs] => some (.ret (.int .i64 (sumW xs)))
  | _ => none

theorem sum_plain {α : Type} (xs : List Int) (hl : xs.length ≤ maxLen) (k : AOut → Option α) :
    (afterL
      (iterL (xs.length + 1)
        (fun x : Int × Int × Unit =>
          bif decide (x.2.1 < (xs.length : Int)) then
            if 0 ≤ x.2.1 ∧ x.2.1 < (xs.length : Int) then
              some (LRes.cont (IntKind.i64.wrap (x.1 + xs.getD x.2.1.toNat (Int.ofNat 0)), IntKind.i64.wrap (x.2.1 + 1), ()))
            else none
          else some (LRes.brk 0 (x.1, x.2.1, ())))
        (0, 0, ()))
      fun id y => if id = 0 then k (AOut.ret (AVal.int IntKind.i64 y.1)) else none) = k (.ret (.int .i64 (sumW xs))) := by
  generalize hf : (fun x : Int × Int × Unit => (_ : Option (LRes (Int × Int × Unit) α))) = f
  have e : iterL (xs.length + 1) f (0, 0, ()) = some (.brk 0 (sumW xs, (xs.length : Int), ())) := by
    refine iterL_count (f := f) (fun i : Nat => (sumW (xs.take i), (i : Int), ())) (fun y e => by cases e) xs.length (fun i hi => ?_) ?_ 0 (Nat.zero_le _) _ (by omega)
    · rw [← hf]
      have h1 : decide ((i : Int) < (xs.length : Int)) = true := decide_eq_true (by omega)
      simp only [h1, cond_true]
      rw [if_pos ⟨by omega, by omega⟩, sumW_succ _ _ hi]
      have h2 : IntKind.i64.wrap ((i : Int) + 1) = ((i + 1 : Nat) : Int) := wrap_small (n := i + 1) (by omega)
      rw [h2]
      rfl
    · rw [← hf]
      have h1 : decide ((xs.length : Int) < (xs.length : Int)) = false := decide_eq_false (by omega)
      simp only [h1, cond_false, List.take_length]
  rw [e]
  rfl

theorem sum_ok : FspOk Try.prog 48 (toFsp sumF) := fsp_of mixed tabOk env_nil Try.func48 sum_enter fun args out hs hF => by
  unfold sumF at hF
  split at hF
  · rename_i xs
    cases hF
    exact ⟨_, (sum_text _ AOut xs some).trans (sum_plain xs (hs _ (by simp)).len some)⟩
  · cases hF
end Go.Proofs.Ytleceelemogbcaa

/- By the evaluator: In, in, Counts. -/
namespace Go.Proofs.Ytleceelemogbcaa
open Go.RowKit

def inB (n lo hi : Int) : Bool := decide (lo ≤ n) && decide (n ≤ hi)
def inF : List AVal → Option AOut
  | [.int .i64 n, .int .i64 lo, .int .i64 hi] => some (.ret (.bool (inB n lo hi)))
  | _ => none

theorem rin1_enter (args : Array Value) (w : World) : (callFunc 55 args).run Try.prog w = .ok (.enter 55 args) w := by kernel_rfl
theorem rin1_text (N : Nat) (α : Type) (n lo hi : Int) (k : AOut → Option α) : evFn real tab (envF env0) N Try.f55 α [.int .i64 n, .int .i64 lo, .int .i64 hi] k =
    bif decide (lo ≤ n) then k (AOut.ret (AVal.bool (decide (n ≤ hi)))) else k (AOut.ret (AVal.bool false)) := by kernel_rfl
theorem rin1_ok : FspOk Try.prog 55 (toFsp inF) := fsp_of mixed tabOk env_nil Try.func55 rin1_enter fun args out hs hF => by
  unfold inF at hF
  split at hF
  · rename_i n lo hi
    cases hF
    refine ⟨1, (rin1_text 1 AOut n lo hi some).trans ?_⟩
    unfold inB
    cases decide (lo ≤ n) <;> rfl
  · cases hF

def env1 : FuncId → Option Fsp := fun g => if g = 55 then some (toFsp inF) else env0 g
theorem env1_ok : EnvOk Try.prog (envF env1) := env_cons rin1_ok env_nil

theorem rin10_enter (args : Array Value) (w : World) : (callFunc 30 args).run Try.prog w = .ok (.enter 30 args) w := by kernel_rfl
theorem rin10_text (N : Nat) (α : Type) (n lo hi : Int) (k : AOut → Option α) : evFn real tab (envF env1) N Try.f30 α [.int .i64 n, .int .i64 lo, .int .i64 hi] k = k (AOut.ret (AVal.bool (inB n lo hi))) := by kernel_rfl
theorem rin10_ok : FspOk Try.prog 30 (toFsp inF) := fsp_of mixed tabOk env1_ok Try.func30 rin10_enter fun args out hs hF => by
  unfold inF at hF
  split at hF
  · cases hF
    exact ⟨1, rin10_text 1 AOut _ _ _ some⟩
  · cases hF

def env2 : FuncId → Option Fsp := fun g => if g = 30 then some (toFsp inF) else env1 g
theorem env2_ok : EnvOk Try.prog (envF env2) := env_cons rin10_ok env1_ok

def cntB (xs : List Int) : Bool := !(xs.any fun n => !(inB n 0 1000000)) && inB xs.length 1 49
def cntF : List AVal → Option AOut
  | [.ro (.int .i64) xs] => some (.ret (.bool (cntB xs)))
  | _ => none

theorem rcounts_enter (args : Array Value) (w : World) : (callFunc 46 args).run Try.prog w = .ok (.enter 46 args) w := by kernel_rfl
theorem rcounts_text (N : Nat) (α : Type) (xs : List Int) (k : AOut → Option α) : evFn real tab (envF env2) N Try.f46 α [.ro (.int .i64) xs] k =
    afterL
      (iterL N
        (fun x : Int × Unit =>
          bif decide (x.1 < (xs.length : Int)) then
            if 0 ≤ x.1 ∧ x.1 < (xs.length : Int) then
              bif !(inB (xs.getD x.1.toNat (Int.ofNat 0)) 0 1000000) then
                finL (k (AOut.ret (AVal.bool false)))
              else some (LRes.cont (IntKind.i64.wrap (x.1 + 1), ()))
            else none
          else some (LRes.brk 0 (x.1, ())))
        (0, ()))
      fun id _ => if id = 0 then k (AOut.ret (AVal.bool (inB xs.length 1 49))) else none := by kernel_rfl

theorem rcounts_plain {α : Type} (xs : List Int) (hl : xs.length ≤ maxLen) (k : AOut → Option α) :
    (afterL
      (iterL (xs.length + 1)
        (fun x : Int × Unit =>
          bif decide (x.1 < (xs.length : Int)) then
            if 0 ≤ x.1 ∧ x.1 < (xs.length : Int) then
              bif !(inB (xs.getD x.1.toNat (Int.ofNat 0)) 0 1000000) then
                finL (k (AOut.ret (AVal.bool false)))
              else some (LRes.cont (IntKind.i64.wrap (x.1 + 1), ()))
            else none
          else some (LRes.brk 0 (x.1, ())))
        (0, ()))
      fun id _ => if id = 0 then k (AOut.ret (AVal.bool (inB xs.length 1 49))) else none) = k (.ret (.bool (cntB xs))) := by
  generalize hf : (fun x : Int × Unit => (_ : Option (LRes (Int × Unit) α))) = f
  have e : iterL (xs.length + 1) f (0, ()) = bif (List.range xs.length).any (fun i => !(inB (xs.getD i 0) 0 1000000)) then finL (k (AOut.ret (AVal.bool false))) else some (.brk 0 ((xs.length : Int), ())) := by
    refine iterL_any (f := f) (fun i : Nat => ((i : Int), ())) _ (fin_not _) (brk_not _ _) xs.length (fun i hi => ?_) ?_
    · rw [← hf]
      have h1 : decide ((i : Int) < (xs.length : Int)) = true := decide_eq_true (by omega)
      simp only [h1, cond_true]
      rw [if_pos ⟨by omega, by omega⟩]
      have h2 : IntKind.i64.wrap ((i : Int) + 1) = ((i + 1 : Nat) : Int) := wrap_small (n := i + 1) (by omega)
      rw [h2]
      rfl
    · rw [← hf]
      have h1 : decide ((xs.length : Int) < (xs.length : Int)) = false := decide_eq_false (by omega)
      simp only [h1, cond_false]
  rw [e, any_range xs fun n => !(inB n 0 1000000)]
  unfold cntB
  cases xs.any fun n => !(inB n 0 1000000)
  · simp [afterL]
  · simp only [cond_true, Bool.not_true, Bool.false_and]
    cases k (.ret (.bool false)) <;> rfl

theorem rcounts_ok : FspOk Try.prog 46 (toFsp cntF) := fsp_of mixed tabOk env2_ok Try.func46 rcounts_enter fun args out hs hF => by
  unfold cntF at hF
  split at hF
  · rename_i xs
    cases hF
    exact ⟨_, (rcounts_text _ AOut xs some).trans (rcounts_plain xs (hs _ (by simp)).len some)⟩
  · cases hF
end Go.Proofs.Ytleceelemogbcaa

/- By the evaluator, package skill: within, counted, sum; slices' IndexFunc and ContainsFunc of numbers. -/
namespace Go.Proofs.Ytleceelemogbcaa
open Go.RowKit

theorem swithin_enter (args : Array Value) (w : World) : (callFunc 25 args).run Try.prog w = .ok (.enter 25 args) w := by kernel_rfl
theorem swithin_text (N : Nat) (α : Type) (n lo hi : Int) (k : AOut → Option α) : evFn real tab (envF env0) N Try.f25 α [.int .i64 n, .int .i64 lo, .int .i64 hi] k =
    bif decide (lo ≤ n) then k (AOut.ret (AVal.bool (decide (n ≤ hi)))) else k (AOut.ret (AVal.bool false)) := by kernel_rfl
theorem swithin_ok : FspOk Try.prog 25 (toFsp inF) := fsp_of mixed tabOk env_nil Try.func25 swithin_enter fun args out hs hF => by
  unfold inF at hF
  split at hF
  · rename_i n lo hi
    cases hF
    refine ⟨1, (swithin_text 1 AOut n lo hi some).trans ?_⟩
    unfold inB
    cases decide (lo ≤ n) <;> rfl
  · cases hF

def env3 : FuncId → Option Fsp := fun g => if g = 25 then some (toFsp inF) else env2 g
theorem env3_ok : EnvOk Try.prog (envF env3) := env_cons swithin_ok env2_ok

def offB (n : Int) : Bool := !(inB n 0 1000000)
def offF : List AVal → Option AOut
  | [.int .i64 n] => some (.ret (.bool (offB n)))
  | _ => none
theorem soff_enter (args : Array Value) (w : World) : (callFunc 63 args).run Try.prog w = .ok (.enter 63 args) w := by kernel_rfl
theorem soff_text (N : Nat) (α : Type) (n : Int) (k : AOut → Option α) : evFn real tab (envF env3) N Try.f63 α [.int .i64 n] k = k (AOut.ret (AVal.bool (offB n))) := by kernel_rfl
theorem soff_ok : FspOk Try.prog 63 (toFsp offF) := fsp_of mixed tabOk env3_ok Try.func63 soff_enter fun args out hs hF => by
  unfold offF at hF
  split at hF
  · cases hF
    exact ⟨1, soff_text 1 AOut _ some⟩
  · cases hF

def env4 : FuncId → Option Fsp := fun g => if g = 63 then some (toFsp offF) else env3 g
theorem env4_ok : EnvOk Try.prog (envF env4) := env_cons soff_ok env3_ok

def idxF : List AVal → Option AOut
  | [.ro (.int .i64) xs, .fn g []] => if g = 63 then some (.ret (.int .i64 (fstI offB xs))) else none
  | _ => none
theorem sindex_enter (args : Array Value) (w : World) : (callFunc 72 args).run Try.prog w = .ok (.enter 72 args) w := by kernel_rfl
theorem sindex_text (N : Nat) (α : Type) (xs : List Int) (k : AOut → Option α) : evFn real tab (envF env4) N Try.f72 α [.ro (.int .i64) xs, .fn 63 []] k =
    afterL
      (iterL N
        (fun x : Int × Unit =>
          bif decide (x.1 < (xs.length : Int)) then
            if 0 ≤ x.1 ∧ x.1 < (xs.length : Int) then
              bif offB (xs.getD x.1.toNat (Int.ofNat 0)) then finL (k (AOut.ret (AVal.int IntKind.i64 x.1)))
              else some (LRes.cont (IntKind.i64.wrap (x.1 + 1), ()))
            else none
          else some (LRes.brk 0 (x.1, ())))
        (0, ()))
      fun id _ => if id = 0 then k (AOut.ret (AVal.int IntKind.i64 (-1))) else none := by kernel_rfl

theorem sindex_plain {α : Type} (xs : List Int) (hl : xs.length ≤ maxLen) (k : AOut → Option α) :
    (afterL
      (iterL (xs.length + 1)
        (fun x : Int × Unit =>
          bif decide (x.1 < (xs.length : Int)) then
            if 0 ≤ x.1 ∧ x.1 < (xs.length : Int) then
              bif offB (xs.getD x.1.toNat (Int.ofNat 0)) then finL (k (AOut.ret (AVal.int IntKind.i64 x.1)))
              else some (LRes.cont (IntKind.i64.wrap (x.1 + 1), ()))
            else none
          else some (LRes.brk 0 (x.1, ())))
        (0, ()))
      fun id _ => if id = 0 then k (AOut.ret (AVal.int IntKind.i64 (-1))) else none) = k (.ret (.int .i64 (fstI offB xs))) := by
  generalize hf : (fun x : Int × Unit => (_ : Option (LRes (Int × Unit) α))) = f
  have e : iterL (xs.length + 1) f (0, ()) = match (List.range xs.length).find? (fun i => offB (xs.getD i 0)) with | some i => finL (k (AOut.ret (AVal.int .i64 (i : Int)))) | none => some (.brk 0 ((xs.length : Int), ())) := by
    refine iterL_find (f := f) (fun i : Nat => ((i : Int), ())) _ (fun i => fin_not _) (brk_not _ _) xs.length (fun i hi => ?_) ?_
    · rw [← hf]
      have h1 : decide ((i : Int) < (xs.length : Int)) = true := decide_eq_true (by omega)
      simp only [h1, cond_true]
      rw [if_pos ⟨by omega, by omega⟩]
      have h2 : IntKind.i64.wrap ((i : Int) + 1) = ((i + 1 : Nat) : Int) := wrap_small (n := i + 1) (by omega)
      rw [h2]
      rfl
    · rw [← hf]
      have h1 : decide ((xs.length : Int) < (xs.length : Int)) = false := decide_eq_false (by omega)
      simp only [h1, cond_false]
  rw [e]
  unfold fstI
  cases (List.range xs.length).find? fun i => offB (xs.getD i 0) with
  | none => rfl
  | some i =>
    simp only
    cases k (AOut.ret (AVal.int .i64 (i : Int))) <;> rfl

theorem sindex_ok : FspOk Try.prog 72 (toFsp idxF) := fsp_of mixed tabOk env4_ok Try.func72 sindex_enter fun args out hs hF => by
  unfold idxF at hF
  split at hF
  · rename_i xs g
    split at hF
    · rename_i hg
      subst hg
      cases hF
      exact ⟨_, (sindex_text _ AOut xs some).trans (sindex_plain xs (hs _ (by simp)).len some)⟩
    · cases hF
  · cases hF

def env5 : FuncId → Option Fsp := fun g => if g = 72 then some (toFsp idxF) else env4 g
theorem env5_ok : EnvOk Try.prog (envF env5) := env_cons sindex_ok env4_ok

def anyF : List AVal → Option AOut
  | [.ro (.int .i64) xs, .fn g []] => if g = 63 then some (.ret (.bool (List.any (α := Int) xs offB))) else none
  | _ => none
theorem scontains_enter (args : Array Value) (w : World) : (callFunc 62 args).run Try.prog w = .ok (.enter 62 args) w := by kernel_rfl
theorem scontains_text (N : Nat) (α : Type) (xs : List Int) (k : AOut → Option α) : evFn real tab (envF env5) N Try.f62 α [.ro (.int .i64) xs, .fn 63 []] k = k (AOut.ret (AVal.bool (decide (fstI offB xs ≥ 0)))) := by kernel_rfl
theorem scontains_ok : FspOk Try.prog 62 (toFsp anyF) := fsp_of mixed tabOk env5_ok Try.func62 scontains_enter fun args out hs hF => by
  unfold anyF at hF
  split at hF
  · rename_i xs g
    split at hF
    · rename_i hg
      subst hg
      cases hF
      exact ⟨1, (scontains_text 1 AOut xs some).trans (congrArg (fun b => some (AOut.ret (AVal.bool b))) (fst_any offB xs))⟩
    · cases hF
  · cases hF

def env6 : FuncId → Option Fsp := fun g => if g = 62 then some (toFsp anyF) else env5 g
theorem env6_ok : EnvOk Try.prog (envF env6) := env_cons scontains_ok env5_ok

theorem scounted_enter (args : Array Value) (w : World) : (callFunc 38 args).run Try.prog w = .ok (.enter 38 args) w := by kernel_rfl
theorem scounted_text (N : Nat) (α : Type) (xs : List Int) (k : AOut → Option α) : evFn real tab (envF env6) N Try.f38 α [.ro (.int .i64) xs] k =
    bif inB xs.length 1 49 then k (AOut.ret (AVal.bool (!(xs.any offB)))) else k (AOut.ret (AVal.bool false)) := by kernel_rfl
theorem scounted_ok : FspOk Try.prog 38 (toFsp cntF) := fsp_of mixed tabOk env6_ok Try.func38 scounted_enter fun args out hs hF => by
  unfold cntF at hF
  split at hF
  · rename_i xs
    cases hF
    refine ⟨1, (scounted_text 1 AOut xs some).trans ?_⟩
    unfold cntB
    have : (List.any (α := Int) xs fun n => !(inB n 0 1000000)) = List.any (α := Int) xs offB := rfl
    rw [this]
    cases inB (List.length (α := Int) xs) 1 49 <;> simp
  · cases hF
end Go.Proofs.Ytleceelemogbcaa

/- By the evaluator: event, of the document and of the reference. -/
namespace Go.Proofs.Ytleceelemogbcaa
open Go.RowKit

/-- What is wrong with place i of an event. -/
def evtBad (xs : List Int) (m : Int) (i : Nat) : Bool := !(inB (xs.getD i 0) 0 (IntKind.i64.wrap (m - 1))) || (decide (0 < i) && decide (xs.getD i 0 ≤ xs.getD (i - 1) 0))
def evtB (xs : List Int) (m : Int) : Bool := !((List.range xs.length).any (evtBad xs m))
def evtF : List AVal → Option AOut
  | [.ro (.int .i64) xs, .int .i64 m] => some (.ret (.bool (evtB xs m)))
  | _ => none

theorem evt_loop {α : Type} (xs : List Int) (m : Int) (hl : xs.length ≤ maxLen) (k : AOut → Option α) (f : Int × Unit → Option (LRes (Int × Unit) α))
    (h : ∀ i, i < xs.length → f ((i : Int), ()) = bif evtBad xs m i then finL (k (AOut.ret (AVal.bool false))) else some (.cont (((i + 1 : Nat) : Int), ()))) (hend : f ((xs.length : Int), ()) = some (.brk 0 ((xs.length : Int), ()))) :
    (afterL (iterL (xs.length + 1) f (0, ())) fun id _ => if id = 0 then k (AOut.ret (AVal.bool true)) else none) = k (.ret (.bool (evtB xs m))) := by
  have e : iterL (xs.length + 1) f (0, ()) = bif (List.range xs.length).any (evtBad xs m) then finL (k (AOut.ret (AVal.bool false))) else some (.brk 0 ((xs.length : Int), ())) :=
    iterL_any (f := f) (fun i : Nat => ((i : Int), ())) _ (fin_not _) (brk_not _ _) xs.length h hend
  rw [e]
  unfold evtB
  cases (List.range xs.length).any (evtBad xs m)
  · rfl
  · simp only [cond_true, Bool.not_true]
    cases k (.ret (.bool false)) <;> rfl

theorem wrap_pred {i : Nat} (h : i ≤ maxLen) : IntKind.i64.wrap (((i + 1 : Nat) : Int) - 1) = (i : Int) := by
  rw [show ((i + 1 : Nat) : Int) - 1 = (i : Int) by omega]
  exact wrap_small h

theorem sevent_enter (args : Array Value) (w : World) : (callFunc 39 args).run Try.prog w = .ok (.enter 39 args) w := by kernel_rfl
theorem sevent_text (N : Nat) (α : Type) (xs : List Int) (m : Int) (k : AOut → Option α) : evFn real tab (envF env3) N Try.f39 α [.ro (.int .i64) xs, .int .i64 m] k =
    afterL
      (iterL N
        (fun x : Int × Unit =>
          bif decide (x.1 < (xs.length : Int)) then
            if 0 ≤ x.1 ∧ x.1 < (xs.length : Int) then
              bif !inB (xs.getD x.1.toNat (Int.ofNat 0)) 0 (IntKind.i64.wrap (m - 1)) then
                finL (k (AOut.ret (AVal.bool false)))
              else
                bif decide (x.1 > 0) then
                  if 0 ≤ IntKind.i64.wrap (x.1 - 1) ∧ IntKind.i64.wrap (x.1 - 1) < (xs.length : Int) then
                    bif decide (xs.getD x.1.toNat (Int.ofNat 0) ≤ xs.getD (IntKind.i64.wrap (x.1 - 1)).toNat (Int.ofNat 0)) then
                      finL (k (AOut.ret (AVal.bool false)))
                    else some (LRes.cont (IntKind.i64.wrap (x.1 + 1), ()))
                  else none
                else some (LRes.cont (IntKind.i64.wrap (x.1 + 1), ()))
            else none
          else some (LRes.brk 0 (x.1, ())))
        (0, ()))
      fun id _ => if id = 0 then k (AOut.ret (AVal.bool true)) else none := by kernel_rfl

theorem sevent_plain {α : Type} (xs : List Int) (m : Int) (hl : xs.length ≤ maxLen) (k : AOut → Option α) :
    evFn real tab (envF env3) (xs.length + 1) Try.f39 α [.ro (.int .i64) xs, .int .i64 m] k = k (.ret (.bool (evtB xs m))) := by
  rw [sevent_text]
  refine evt_loop xs m hl k _ (fun i hi => ?_) ?_
  · have h1 : decide ((i : Int) < (xs.length : Int)) = true := decide_eq_true (by omega)
    have h2 : IntKind.i64.wrap ((i : Int) + 1) = ((i + 1 : Nat) : Int) := wrap_small (n := i + 1) (by omega)
    simp only [h1, cond_true]
    rw [if_pos ⟨by omega, by omega⟩, h2]
    unfold evtBad
    rw [show ((i : Int)).toNat = i from rfl, show Int.ofNat 0 = 0 from rfl]
    cases inB (xs.getD i 0) 0 (IntKind.i64.wrap (m - 1))
    · rfl
    · cases i with
      | zero => rfl
      | succ i =>
        have h3 : decide (((i + 1 : Nat) : Int) > 0) = true := decide_eq_true (by omega)
        simp only [h3, wrap_pred (i := i) (by omega), Bool.not_true, cond_false, cond_true]
        rw [if_pos ⟨by omega, by omega⟩]
        simp only [Int.toNat_natCast, Nat.add_sub_cancel, Bool.false_or]
        have h4 : decide (0 < i + 1) = true := decide_eq_true (by omega)
        rw [h4, Bool.true_and]
  · have h1 : decide ((xs.length : Int) < (xs.length : Int)) = false := decide_eq_false (by omega)
    simp only [h1, cond_false]

theorem sevent_ok : FspOk Try.prog 39 (toFsp evtF) := fsp_of mixed tabOk env3_ok Try.func39 sevent_enter fun args out hs hF => by
  unfold evtF at hF
  split at hF
  · rename_i xs m
    cases hF
    exact ⟨_, sevent_plain xs m (hs _ (by simp)).len some⟩
  · cases hF
theorem revent_enter (args : Array Value) (w : World) : (callFunc 47 args).run Try.prog w = .ok (.enter 47 args) w := by kernel_rfl
theorem revent_text (N : Nat) (α : Type) (xs : List Int) (m : Int) (k : AOut → Option α) : evFn real tab (envF env2) N Try.f47 α [.ro (.int .i64) xs, .int .i64 m] k =
    afterL
      (iterL N
        (fun x : Int × Unit =>
          bif decide (x.1 < (xs.length : Int)) then
            if 0 ≤ x.1 ∧ x.1 < (xs.length : Int) then
              bif !inB (xs.getD x.1.toNat (Int.ofNat 0)) 0 (IntKind.i64.wrap (m - 1)) then
                finL (k (AOut.ret (AVal.bool false)))
              else
                bif decide (x.1 > 0) then
                  if 0 ≤ x.1 ∧ x.1 < (xs.length : Int) then
                    if 0 ≤ IntKind.i64.wrap (x.1 - 1) ∧ IntKind.i64.wrap (x.1 - 1) < (xs.length : Int) then
                      bif decide (xs.getD x.1.toNat (Int.ofNat 0) ≤ xs.getD (IntKind.i64.wrap (x.1 - 1)).toNat (Int.ofNat 0)) then
                        finL (k (AOut.ret (AVal.bool false)))
                      else some (LRes.cont (IntKind.i64.wrap (x.1 + 1), ()))
                    else none
                  else none
                else some (LRes.cont (IntKind.i64.wrap (x.1 + 1), ()))
            else none
          else some (LRes.brk 0 (x.1, ())))
        (0, ()))
      fun id _ => if id = 0 then k (AOut.ret (AVal.bool true)) else none := by kernel_rfl

theorem revent_plain {α : Type} (xs : List Int) (m : Int) (hl : xs.length ≤ maxLen) (k : AOut → Option α) :
    evFn real tab (envF env2) (xs.length + 1) Try.f47 α [.ro (.int .i64) xs, .int .i64 m] k = k (.ret (.bool (evtB xs m))) := by
  rw [revent_text]
  refine evt_loop xs m hl k _ (fun i hi => ?_) ?_
  · have h1 : decide ((i : Int) < (xs.length : Int)) = true := decide_eq_true (by omega)
    have h2 : IntKind.i64.wrap ((i : Int) + 1) = ((i + 1 : Nat) : Int) := wrap_small (n := i + 1) (by omega)
    simp only [h1, cond_true]
    rw [if_pos ⟨by omega, by omega⟩, h2]
    unfold evtBad
    rw [show ((i : Int)).toNat = i from rfl, show Int.ofNat 0 = 0 from rfl]
    cases inB (xs.getD i 0) 0 (IntKind.i64.wrap (m - 1))
    · rfl
    · cases i with
      | zero => rfl
      | succ i =>
        have h3 : decide (((i + 1 : Nat) : Int) > 0) = true := decide_eq_true (by omega)
        simp only [h3, wrap_pred (i := i) (by omega), Bool.not_true, cond_false, cond_true]
        rw [if_pos ⟨by omega, by omega⟩, if_pos ⟨by omega, by omega⟩]
        simp only [Int.toNat_natCast, Nat.add_sub_cancel, Bool.false_or]
        have h4 : decide (0 < i + 1) = true := decide_eq_true (by omega)
        rw [h4, Bool.true_and]
  · have h1 : decide ((xs.length : Int) < (xs.length : Int)) = false := decide_eq_false (by omega)
    simp only [h1, cond_false]

theorem revent_ok : FspOk Try.prog 47 (toFsp evtF) := fsp_of mixed tabOk env2_ok Try.func47 revent_enter fun args out hs hF => by
  unfold evtF at hF
  split at hF
  · rename_i xs m
    cases hF
    exact ⟨_, revent_plain xs m (hs _ (by simp)).len some⟩
  · cases hF

theorem ssum_text (N : Nat) (α : Type) (xs : List Int) (k : AOut → Option α) : evFn real tab (envF env0) N Try.f40 α [.ro (.int .i64) xs] k =
    afterL
      (iterL N
        (fun x : Int × Int × Unit =>
          bif decide (x.2.1 < (xs.length : Int)) then
            if 0 ≤ x.2.1 ∧ x.2.1 < (xs.length : Int) then
              some (LRes.cont (IntKind.i64.wrap (x.1 + xs.getD x.2.1.toNat (Int.ofNat 0)), IntKind.i64.wrap (x.2.1 + 1), ()))
            else none
          else some (LRes.brk 0 (x.1, x.2.1, ())))
        (0, 0, ()))
      fun id y => if id = 0 then k (AOut.ret (AVal.int IntKind.i64 y.1)) else none := by kernel_rfl

theorem ssum_enter (args : Array Value) (w : World) : (callFunc 40 args).run Try.prog w = .ok (.enter 40 args) w := by kernel_rfl
theorem ssum_ok : FspOk Try.prog 40 (toFsp sumF) := fsp_of mixed tabOk env_nil Try.func40 ssum_enter fun args out hs hF => by
  unfold sumF at hF
  split at hF
  · rename_i xs
    cases hF
    exact ⟨_, (ssum_text _ AOut xs some).trans (sum_plain xs (hs _ (by simp)).len some)⟩
  · cases hF

def env7 : FuncId → Option Fsp := fun g => if g = 38 then some (toFsp cntF) else if g = 46 then some (toFsp cntF) else if g = 39 then some (toFsp evtF) else if g = 47 then some (toFsp evtF) else if g = 40 then some (toFsp sumF) else if g = 48 then some (toFsp sumF) else env6 g
theorem env7_ok : EnvOk Try.prog (envF env7) := env_cons scounted_ok (env_cons rcounts_ok (env_cons sevent_ok (env_cons revent_ok (env_cons ssum_ok (env_cons sum_ok env6_ok)))))
end Go.Proofs.Ytleceelemogbcaa

/- By the evaluator: Given, of the document and of the reference. -/
namespace Go.Proofs.Ytleceelemogbcaa
open Go.RowKit

/-- The counts of an event, 0 elsewhere. -/
def putC (xs l : List Int) (y : Int) : List Int := l.set y.toNat (xs.getD y.toNat 0)
def givL (xs ys : List Int) : List Int := ys.foldl (putC xs) (List.replicate xs.length 0)
def givF : List AVal → Option AOut
  | [.ro (.int .i64) xs, .ro (.int .i64) ys] =>
    bif cntB xs && evtB ys (List.length (α := Int) xs) then some (.ret (.tup [.ro (.int .i64) (givL xs ys), .int .i64 0])) else some (.ret (.tup [.ro (.int .i64) [], .int .i64 2]))
  | _ => none

theorem giv_len (xs : List Int) : ∀ (ys l : List Int), (ys.foldl (putC xs) l).length = l.length
  | [], l => rfl
  | y :: ys, l => by rw [List.foldl_cons, giv_len xs ys]; simp [putC]

theorem take_fold {β : Type} (g : β → Int → β) (b : β) (ys : List Int) (i : Nat) (h : i < ys.length) : (ys.take (i + 1)).foldl g b = g ((ys.take i).foldl g b) (ys.getD i 0) := by
  rw [List.take_add_one, List.getElem?_eq_getElem h, List.foldl_append]
  simp [h]

theorem inB_iff {n lo hi : Int} : inB n lo hi = true ↔ lo ≤ n ∧ n ≤ hi := by simp [inB]

theorem cnt_len {xs : List Int} (h : cntB xs = true) : 1 ≤ xs.length ∧ xs.length ≤ 49 := by
  unfold cntB at h
  simp only [Bool.and_eq_true, inB_iff] at h
  omega

theorem evt_at {xs ys : List Int} (h1 : cntB xs = true) (h2 : evtB ys xs.length = true) (i : Nat) (hi : i < ys.length) : 0 ≤ ys.getD i 0 ∧ ys.getD i 0 < (xs.length : Int) := by
  have hl := cnt_len h1
  unfold evtB at h2
  rw [Bool.not_eq_true', List.any_eq_false] at h2
  have h3 := h2 i (List.mem_range.2 hi)
  unfold evtBad at h3
  have hw : IntKind.i64.wrap ((xs.length : Int) - 1) = (xs.length : Int) - 1 := by
    have := wrap_pred (i := xs.length - 1) (by have : maxLen = 9223372036854775807 := rfl; omega)
    rw [show ((xs.length - 1 + 1 : Nat) : Int) = (xs.length : Int) by omega] at this
    rw [this]; omega
  rw [hw] at h3
  cases hb : inB (ys.getD i 0) 0 ((xs.length : Int) - 1)
  · rw [hb] at h3; simp at h3
  · have := inB_iff.1 hb
    omega

theorem giv_loop {α : Type} (xs ys : List Int) (f : Int × List Int × Unit → Option (LRes (Int × List Int × Unit) α)) (k : AOut → Option α)
    (h : ∀ i, i < ys.length → f ((i : Int), (ys.take i).foldl (putC xs) (List.replicate xs.length 0), ()) = some (.cont (((i + 1 : Nat) : Int), (ys.take (i + 1)).foldl (putC xs) (List.replicate xs.length 0), ())))
    (hend : f ((ys.length : Int), givL xs ys, ()) = some (.brk 0 ((ys.length : Int), givL xs ys, ()))) :
    (afterL (iterL (ys.length + 1) f (0, List.replicate xs.length 0, ())) fun id y => if id = 0 then k (AOut.ret (AVal.tup [AVal.ro (Sh.int IntKind.i64) y.2.1, AVal.int IntKind.i64 0])) else none) = k (.ret (.tup [.ro (.int .i64) (givL xs ys), .int .i64 0])) := by
  have e : iterL (ys.length + 1) f (0, List.replicate xs.length 0, ()) = some (.brk 0 ((ys.length : Int), givL xs ys, ())) := by
    refine iterL_count (f := f) (fun i : Nat => ((i : Int), (ys.take i).foldl (putC xs) (List.replicate xs.length 0), ())) (fun y e => by cases e) ys.length h ?_ 0 (Nat.zero_le _) _ (by omega)
    simp only [List.take_length]
    exact hend
  rw [e]
  rfl

theorem sgiven_enter (args : Array Value) (w : World) : (callFunc 19 args).run Try.prog w = .ok (.enter 19 args) w := by kernel_rfl
theorem sgiven_text (N : Nat) (α : Type) (xs ys : List Int) (k : AOut → Option α) : evFn real tab (envF env7) N Try.f19 α [.ro (.int .i64) xs, .ro (.int .i64) ys] k =
    bif !cntB xs then k (AOut.ret (AVal.tup [AVal.ro (Sh.int IntKind.i64) [], AVal.int IntKind.i64 2]))
    else
      bif !evtB ys xs.length then k (AOut.ret (AVal.tup [AVal.ro (Sh.int IntKind.i64) [], AVal.int IntKind.i64 2]))
      else
        if 0 ≤ (xs.length : Int) ∧ (xs.length : Int) ≤ (xs.length : Int) ∧ (xs.length : Int) * ((8 : Nat) : Int) ≤ ((room : Nat) : Int) then
          afterL
            (iterL N
              (fun x : Int × List Int × Unit =>
                bif decide (x.1 < (ys.length : Int)) then
                  if 0 ≤ x.1 ∧ x.1 < (ys.length : Int) then
                    if 0 ≤ ys.getD x.1.toNat (Int.ofNat 0) ∧ ys.getD x.1.toNat (Int.ofNat 0) < (xs.length : Int) then
                      if 0 ≤ ys.getD x.1.toNat (Int.ofNat 0) ∧ ys.getD x.1.toNat (Int.ofNat 0) < (x.2.1.length : Int) then
                        some (LRes.cont (IntKind.i64.wrap (x.1 + 1), x.2.1.set (ys.getD x.1.toNat (Int.ofNat 0)).toNat (xs.getD (ys.getD x.1.toNat (Int.ofNat 0)).toNat (Int.ofNat 0)), ()))
                      else none
                    else none
                  else none
                else some (LRes.brk 0 (x.1, x.2.1, ())))
              (0, List.replicate ((xs.length : Int)).toNat 0, ()))
            fun id y => if id = 0 then k (AOut.ret (AVal.tup [AVal.ro (Sh.int IntKind.i64) y.2.1, AVal.int IntKind.i64 0])) else none
        else none := by kernel_rfl

theorem sgiven_plain {α : Type} (xs ys : List Int) (hl : ys.length ≤ maxLen) (k : AOut → Option α) :
    evFn real tab (envF env7) (ys.length + 1) Try.f19 α [.ro (.int .i64) xs, .ro (.int .i64) ys] k = bif cntB xs && evtB ys xs.length then k (.ret (.tup [.ro (.int .i64) (givL xs ys), .int .i64 0])) else k (.ret (.tup [.ro (.int .i64) [], .int .i64 2])) := by
  rw [sgiven_text]
  cases hc : cntB xs
  · rfl
  · cases he : evtB ys xs.length
    · rfl
    · have hn := cnt_len hc
      have hroom : ((room : Nat) : Int) ≥ 400 := by decide
      simp only [Bool.not_true, cond_false, Bool.and_self, cond_true]
      rw [if_pos ⟨by omega, by omega, by omega⟩]
      refine giv_loop xs ys _ k (fun i hi => ?_) ?_
      · have h1 : decide ((i : Int) < (ys.length : Int)) = true := decide_eq_true (by omega)
        have h2 : IntKind.i64.wrap ((i : Int) + 1) = ((i + 1 : Nat) : Int) := wrap_small (n := i + 1) (by omega)
        have h3 := evt_at hc he i hi
        simp only [h1, cond_true, h2]
        rw [if_pos ⟨by omega, by omega⟩, show ((i : Int)).toNat = i from rfl, show Int.ofNat 0 = 0 from rfl, if_pos h3, if_pos (by rw [giv_len]; simpa using h3), take_fold _ _ _ _ hi]
        rfl
      · have h1 : decide ((ys.length : Int) < (ys.length : Int)) = false := decide_eq_false (by omega)
        simp only [h1, cond_false]

theorem sgiven_ok : FspOk Try.prog 19 (toFsp givF) := fsp_of mixed tabOk env7_ok Try.func19 sgiven_enter fun args out hs hF => by
  unfold givF at hF
  split at hF
  · rename_i xs ys
    refine ⟨_, (sgiven_plain xs ys (hs _ (by simp)).len some).trans ?_⟩
    cases hb : cntB xs && evtB ys (List.length (α := Int) xs)
    all_goals
      rw [hb] at hF
      exact hF
  · cases hF
theorem rgiven_enter (args : Array Value) (w : World) : (callFunc 20 args).run Try.prog w = .ok (.enter 20 args) w := by kernel_rfl
theorem rgiven_text (N : Nat) (α : Type) (xs ys : List Int) (k : AOut → Option α) : evFn real tab (envF env7) N Try.f20 α [.ro (.int .i64) xs, .ro (.int .i64) ys] k =
    bif !cntB xs then k (AOut.ret (AVal.tup [AVal.ro (Sh.int IntKind.i64) [], AVal.int IntKind.i64 2]))
    else
      bif !evtB ys xs.length then k (AOut.ret (AVal.tup [AVal.ro (Sh.int IntKind.i64) [], AVal.int IntKind.i64 2]))
      else
        if 0 ≤ (xs.length : Int) ∧ (xs.length : Int) ≤ (xs.length : Int) ∧ (xs.length : Int) * ((8 : Nat) : Int) ≤ ((room : Nat) : Int) then
          afterL
            (iterL N
              (fun x : Int × List Int × Unit =>
                bif decide (x.1 < (ys.length : Int)) then
                  if 0 ≤ x.1 ∧ x.1 < (ys.length : Int) then
                   if 0 ≤ x.1 ∧ x.1 < (ys.length : Int) then
                    if 0 ≤ ys.getD x.1.toNat (Int.ofNat 0) ∧ ys.getD x.1.toNat (Int.ofNat 0) < (xs.length : Int) then
                      if 0 ≤ ys.getD x.1.toNat (Int.ofNat 0) ∧ ys.getD x.1.toNat (Int.ofNat 0) < (x.2.1.length : Int) then
                        some (LRes.cont (IntKind.i64.wrap (x.1 + 1), x.2.1.set (ys.getD x.1.toNat (Int.ofNat 0)).toNat (xs.getD (ys.getD x.1.toNat (Int.ofNat 0)).toNat (Int.ofNat 0)), ()))
                      else none
                    else none
                   else none
                  else none
                else some (LRes.brk 0 (x.1, x.2.1, ())))
              (0, List.replicate ((xs.length : Int)).toNat 0, ()))
            fun id y => if id = 0 then k (AOut.ret (AVal.tup [AVal.ro (Sh.int IntKind.i64) y.2.1, AVal.int IntKind.i64 0])) else none
        else none := by kernel_rfl

theorem rgiven_plain {α : Type} (xs ys : List Int) (hl : ys.length ≤ maxLen) (k : AOut → Option α) :
    evFn real tab (envF env7) (ys.length + 1) Try.f20 α [.ro (.int .i64) xs, .ro (.int .i64) ys] k = bif cntB xs && evtB ys xs.length then k (.ret (.tup [.ro (.int .i64) (givL xs ys), .int .i64 0])) else k (.ret (.tup [.ro (.int .i64) [], .int .i64 2])) := by
  rw [rgiven_text]
  cases hc : cntB xs
  · rfl
  · cases he : evtB ys xs.length
    · rfl
    · have hn := cnt_len hc
      have hroom : ((room : Nat) : Int) ≥ 400 := by decide
      simp only [Bool.not_true, cond_false, Bool.and_self, cond_true]
      rw [if_pos ⟨by omega, by omega, by omega⟩]
      refine giv_loop xs ys _ k (fun i hi => ?_) ?_
      · have h1 : decide ((i : Int) < (ys.length : Int)) = true := decide_eq_true (by omega)
        have h2 : IntKind.i64.wrap ((i : Int) + 1) = ((i + 1 : Nat) : Int) := wrap_small (n := i + 1) (by omega)
        have h3 := evt_at hc he i hi
        simp only [h1, cond_true, h2]
        rw [if_pos ⟨by omega, by omega⟩, if_pos ⟨by omega, by omega⟩, show ((i : Int)).toNat = i from rfl, show Int.ofNat 0 = 0 from rfl, if_pos h3, if_pos (by rw [giv_len]; simpa using h3), take_fold _ _ _ _ hi]
        rfl
      · have h1 : decide ((ys.length : Int) < (ys.length : Int)) = false := decide_eq_false (by omega)
        simp only [h1, cond_false]

theorem rgiven_ok : FspOk Try.prog 20 (toFsp givF) := fsp_of mixed tabOk env7_ok Try.func20 rgiven_enter fun args out hs hF => by
  unfold givF at hF
  split at hF
  · rename_i xs ys
    refine ⟨_, (rgiven_plain xs ys (hs _ (by simp)).len some).trans ?_⟩
    cases hb : cntB xs && evtB ys (List.length (α := Int) xs)
    all_goals
      rw [hb] at hF
      exact hF
  · cases hF
end Go.Proofs.Ytleceelemogbcaa

/- By the evaluator: Ints of the reference. -/
namespace Go.Proofs.Ytleceelemogbcaa
open Go.RowKit

/-- Are two rows of numbers alike? -/
def sameI (xs ys : List Int) : Bool := bif (xs.length : Int) != (ys.length : Int) then false else !((List.range xs.length).any fun i => xs.getD i 0 != ys.getD i 0)
def sameF : List AVal → Option AOut
  | [.ro (.int .i64) xs, .ro (.int .i64) ys] => some (.ret (.bool (sameI xs ys)))
  | _ => none

theorem rints_enter (args : Array Value) (w : World) : (callFunc 22 args).run Try.prog w = .ok (.enter 22 args) w := by kernel_rfl
theorem rints_text (N : Nat) (α : Type) (xs ys : List Int) (k : AOut → Option α) : evFn real tab (envF env0) N Try.f22 α [.ro (.int .i64) xs, .ro (.int .i64) ys] k =
    bif (xs.length : Int) != (ys.length : Int) then k (AOut.ret (AVal.bool false))
    else
      afterL
        (iterL N
          (fun x : Int × Unit =>
            bif decide (x.1 < (xs.length : Int)) then
              if 0 ≤ x.1 ∧ x.1 < (xs.length : Int) then
                if 0 ≤ x.1 ∧ x.1 < (ys.length : Int) then
                  bif xs.getD x.1.toNat (Int.ofNat 0) != ys.getD x.1.toNat (Int.ofNat 0) then
                    finL (k (AOut.ret (AVal.bool false)))
                  else some (LRes.cont (IntKind.i64.wrap (x.1 + 1), ()))
                else none
              else none
            else some (LRes.brk 0 (x.1, ())))
          (0, ()))
        fun id _ => if id = 0 then k (AOut.ret (AVal.bool true)) else none := by kernel_rfl

theorem rints_plain {α : Type} (xs ys : List Int) (hl : xs.length ≤ maxLen) (k : AOut → Option α) :
    evFn real tab (envF env0) (xs.length + 1) Try.f22 α [.ro (.int .i64) xs, .ro (.int .i64) ys] k = k (.ret (.bool (sameI xs ys))) := by
  rw [rints_text]
  unfold sameI
  cases hn : ((xs.length : Int) != (ys.length : Int))
  · have hlen : xs.length = ys.length := by
      have : (xs.length : Int) = (ys.length : Int) := by simpa using hn
      omega
    simp only [cond_false]
    generalize hf : (fun x : Int × Unit => (_ : Option (LRes (Int × Unit) α))) = f
    have e : iterL (xs.length + 1) f (0, ()) = bif (List.range xs.length).any (fun i => xs.getD i 0 != ys.getD i 0) then finL (k (AOut.ret (AVal.bool false))) else some (.brk 0 ((xs.length : Int), ())) := by
      refine iterL_any (f := f) (fun i : Nat => ((i : Int), ())) _ (fin_not _) (brk_not _ _) xs.length (fun i hi => ?_) ?_
      · rw [← hf]
        have h1 : decide ((i : Int) < (xs.length : Int)) = true := decide_eq_true (by omega)
        have h2 : IntKind.i64.wrap ((i : Int) + 1) = ((i + 1 : Nat) : Int) := wrap_small (n := i + 1) (by omega)
        simp only [h1, cond_true, h2]
        rw [if_pos ⟨by omega, by omega⟩, if_pos ⟨by omega, by omega⟩]
        rfl
      · rw [← hf]
        have h1 : decide ((xs.length : Int) < (xs.length : Int)) = false := decide_eq_false (by omega)
        simp only [h1, cond_false]
    rw [e]
    cases (List.range xs.length).any fun i => xs.getD i 0 != ys.getD i 0
    · rfl
    · simp only [cond_true, Bool.not_true]
      cases k (.ret (.bool false)) <;> rfl
  · rfl

theorem rints_ok : FspOk Try.prog 22 (toFsp sameF) := fsp_of mixed tabOk env_nil Try.func22 rints_enter fun args out hs hF => by
  unfold sameF at hF
  split at hF
  · rename_i xs ys
    cases hF
    exact ⟨_, rints_plain xs ys (hs _ (by simp)).len some⟩
  · cases hF
end Go.Proofs.Ytleceelemogbcaa

/- By the evaluator: Better, of the reference and of the document. -/
namespace Go.Proofs.Ytleceelemogbcaa
open Go.RowKit

def twoOk (xs ys : List Int) : Bool := cntB xs && (cntB ys && !((xs.length : Int) != (ys.length : Int)))
def betOut (b : Bool) (e : Int) : AOut := .ret (.tup [.bool b, .int .i64 e])

def rbetB (xs ys : List Int) : Bool := bif sumW xs != sumW ys then false else !((List.range xs.length).any fun i => decide (sumW (xs.drop i) < sumW (ys.drop i)))
def rbetF : List AVal → Option AOut
  | [.ro (.int .i64) xs, .ro (.int .i64) ys] => bif twoOk xs ys then some (betOut (rbetB xs ys) 0) else some (betOut false 2)
  | _ => none

theorem rbetter_enter (args : Array Value) (w : World) : (callFunc 21 args).run Try.prog w = .ok (.enter 21 args) w := by kernel_rfl
theorem rbetter_text (N : Nat) (α : Type) (xs ys : List Int) (k : AOut → Option α) : evFn real tab (envF env7) N Try.f21 α [.ro (.int .i64) xs, .ro (.int .i64) ys] k =
    bif !cntB xs then k (betOut false 2)
    else
      bif !cntB ys then k (betOut false 2)
      else
        bif (xs.length : Int) != (ys.length : Int) then k (betOut false 2)
        else
          bif sumW xs != sumW ys then k (betOut false 0)
          else
            afterL
              (iterL N
                (fun x : Int × Unit =>
                  bif decide (x.1 < (xs.length : Int)) then
                    if 0 ≤ x.1 ∧ x.1 ≤ (xs.length : Int) then
                      if 0 ≤ x.1 ∧ x.1 ≤ (ys.length : Int) then
                        bif decide (sumW (xs.drop x.1.toNat) < sumW (ys.drop x.1.toNat)) then finL (k (betOut false 0))
                        else some (LRes.cont (IntKind.i64.wrap (x.1 + 1), ()))
                      else none
                    else none
                  else some (LRes.brk 0 (x.1, ())))
                (0, ()))
              fun id _ => if id = 0 then k (betOut true 0) else none := by kernel_rfl

theorem rbetter_plain {α : Type} (xs ys : List Int) (hl : xs.length ≤ maxLen) (k : AOut → Option α) :
    evFn real tab (envF env7) (xs.length + 1) Try.f21 α [.ro (.int .i64) xs, .ro (.int .i64) ys] k = bif twoOk xs ys then k (betOut (rbetB xs ys) 0) else k (betOut false 2) := by
  rw [rbetter_text]
  unfold twoOk rbetB
  cases cntB xs
  · rfl
  · cases cntB ys
    · rfl
    · cases hn : ((xs.length : Int) != (ys.length : Int))
      · have hlen : xs.length = ys.length := by
          have : (xs.length : Int) = (ys.length : Int) := by simpa using hn
          omega
        cases sumW xs != sumW ys
        · simp only [Bool.not_true, cond_false, Bool.not_false, Bool.and_self, cond_true]
          generalize hf : (fun x : Int × Unit => (_ : Option (LRes (Int × Unit) α))) = f
          have e : iterL (xs.length + 1) f (0, ()) = bif (List.range xs.length).any (fun i => decide (sumW (xs.drop i) < sumW (ys.drop i))) then finL (k (betOut false 0)) else some (.brk 0 ((xs.length : Int), ())) := by
            refine iterL_any (f := f) (fun i : Nat => ((i : Int), ())) _ (fin_not _) (brk_not _ _) xs.length (fun i hi => ?_) ?_
            · rw [← hf]
              have h1 : decide ((i : Int) < (xs.length : Int)) = true := decide_eq_true (by omega)
              have h2 : IntKind.i64.wrap ((i : Int) + 1) = ((i + 1 : Nat) : Int) := wrap_small (n := i + 1) (by omega)
              simp only [h1, cond_true, h2]
              rw [if_pos ⟨by omega, by omega⟩, if_pos ⟨by omega, by omega⟩]
              rfl
            · rw [← hf]
              have h1 : decide ((xs.length : Int) < (xs.length : Int)) = false := decide_eq_false (by omega)
              simp only [h1, cond_false]
          rw [e]
          cases (List.range xs.length).any fun i => decide (sumW (xs.drop i) < sumW (ys.drop i))
          · rfl
          · simp only [cond_true, Bool.not_true]
            cases k (betOut false 0) <;> rfl
        · rfl
      · rfl

theorem rbetter_ok : FspOk Try.prog 21 (toFsp rbetF) := fsp_of mixed tabOk env7_ok Try.func21 rbetter_enter fun args out hs hF => by
  unfold rbetF at hF
  split at hF
  · rename_i xs ys
    refine ⟨_, (rbetter_plain xs ys (hs _ (by simp)).len some).trans ?_⟩
    cases hb : twoOk xs ys
    all_goals
      rw [hb] at hF
      exact hF
  · cases hF
end Go.Proofs.Ytleceelemogbcaa

/- By the evaluator: Better of the document. -/
namespace Go.Proofs.Ytleceelemogbcaa
open Go.RowKit

/-- How much more the others have of the first outcomes. -/
def difW (xs ys : List Int) : Nat → Int
  | 0 => 0
  | i + 1 => IntKind.i64.wrap (difW xs ys i + IntKind.i64.wrap (ys.getD i 0 - xs.getD i 0))
def sbetB (xs ys : List Int) : Bool := !((List.range xs.length).any fun i => decide (difW xs ys (i + 1) < 0)) && difW xs ys xs.length == 0
def sbetF : List AVal → Option AOut
  | [.ro (.int .i64) xs, .ro (.int .i64) ys] => bif twoOk xs ys then some (betOut (sbetB xs ys) 0) else some (betOut false 2)
  | _ => none

theorem sbetter_enter (args : Array Value) (w : World) : (callFunc 16 args).run Try.prog w = .ok (.enter 16 args) w := by kernel_rfl
theorem sbetter_text (N : Nat) (α : Type) (xs ys : List Int) (k : AOut → Option α) : evFn real tab (envF env7) N Try.f16 α [.ro (.int .i64) xs, .ro (.int .i64) ys] k =
    bif !cntB xs then k (betOut false 2)
    else
      bif !cntB ys then k (betOut false 2)
      else
        bif (xs.length : Int) != (ys.length : Int) then k (betOut false 2)
        else
          afterL
            (iterL N
              (fun x : Int × Int × Unit =>
                bif decide (x.2.1 < (xs.length : Int)) then
                  if 0 ≤ x.2.1 ∧ x.2.1 < (ys.length : Int) then
                    if 0 ≤ x.2.1 ∧ x.2.1 < (xs.length : Int) then
                      bif decide (IntKind.i64.wrap (x.1 + IntKind.i64.wrap (ys.getD x.2.1.toNat (Int.ofNat 0) - xs.getD x.2.1.toNat (Int.ofNat 0))) < 0) then finL (k (betOut false 0))
                      else some (LRes.cont (IntKind.i64.wrap (x.1 + IntKind.i64.wrap (ys.getD x.2.1.toNat (Int.ofNat 0) - xs.getD x.2.1.toNat (Int.ofNat 0))), IntKind.i64.wrap (x.2.1 + 1), ()))
                    else none
                  else none
                else some (LRes.brk 0 (x.1, x.2.1, ())))
              (0, 0, ()))
            fun id y => if id = 0 then k (betOut (y.1 == 0) 0) else none := by kernel_rfl

theorem sbetter_plain {α : Type} (xs ys : List Int) (hl : xs.length ≤ maxLen) (k : AOut → Option α) :
    evFn real tab (envF env7) (xs.length + 1) Try.f16 α [.ro (.int .i64) xs, .ro (.int .i64) ys] k = bif twoOk xs ys then k (betOut (sbetB xs ys) 0) else k (betOut false 2) := by
  rw [sbetter_text]
  unfold twoOk sbetB
  cases cntB xs
  · rfl
  · cases cntB ys
    · rfl
    · cases hn : ((xs.length : Int) != (ys.length : Int))
      · have hlen : xs.length = ys.length := by
          have : (xs.length : Int) = (ys.length : Int) := by simpa using hn
          omega
        simp only [Bool.not_true, cond_false, Bool.not_false, Bool.and_self, cond_true]
        generalize hf : (fun x : Int × Int × Unit => (_ : Option (LRes (Int × Int × Unit) α))) = f
        have e : iterL (xs.length + 1) f (0, 0, ()) = bif (List.range xs.length).any (fun i => decide (difW xs ys (i + 1) < 0)) then finL (k (betOut false 0)) else some (.brk 0 (difW xs ys xs.length, (xs.length : Int), ())) := by
          refine iterL_any (f := f) (fun i : Nat => (difW xs ys i, (i : Int), ())) _ (fin_not _) (brk_not _ _) xs.length (fun i hi => ?_) ?_
          · rw [← hf]
            have h1 : decide ((i : Int) < (xs.length : Int)) = true := decide_eq_true (by omega)
            have h2 : IntKind.i64.wrap ((i : Int) + 1) = ((i + 1 : Nat) : Int) := wrap_small (n := i + 1) (by omega)
            simp only [h1, cond_true, h2]
            rw [if_pos ⟨by omega, by omega⟩, if_pos ⟨by omega, by omega⟩]
            rfl
          · rw [← hf]
            have h1 : decide ((xs.length : Int) < (xs.length : Int)) = false := decide_eq_false (by omega)
            simp only [h1, cond_false]
        rw [e]
        cases (List.range xs.length).any fun i => decide (difW xs ys (i + 1) < 0)
        · simp only [cond_false, Bool.not_false, Bool.true_and]
          rfl
        · simp only [cond_true, Bool.not_true, Bool.false_and]
          cases k (betOut false 0) <;> rfl
      · rfl

theorem sbetter_ok : FspOk Try.prog 16 (toFsp sbetF) := fsp_of mixed tabOk env7_ok Try.func16 sbetter_enter fun args out hs hF => by
  unfold sbetF at hF
  split at hF
  · rename_i xs ys
    refine ⟨_, (sbetter_plain xs ys (hs _ (by simp)).len some).trans ?_⟩
    cases hb : twoOk xs ys
    all_goals
      rw [hb] at hF
      exact hF
  · cases hF
end Go.Proofs.Ytleceelemogbcaa

/- By the evaluator: Chance, of the document and of the reference. -/
namespace Go.Proofs.Ytleceelemogbcaa
open Go.RowKit

/-- The counts of an event, in sum. -/
def addC (xs : List Int) (a y : Int) : Int := IntKind.i64.wrap (a + xs.getD y.toNat 0)
def evS (xs ys : List Int) : Int := ys.foldl (addC xs) 0
def denC (xs : List Int) (m : Int) : Int := IntKind.i64.wrap (sumW xs + m)
def lowC (xs ys : List Int) (m : Int) : Int := bif (ys.length : Int) == (xs.length : Int) then denC xs m else evS xs ys
def highC (xs ys : List Int) (m : Int) : Int := bif (ys.length : Int) == 0 then 0 else bif (ys.length : Int) == (xs.length : Int) then denC xs m else IntKind.i64.wrap (evS xs ys + m)
def highD (xs ys : List Int) (m : Int) : Int := bif (ys.length : Int) == 0 then 0 else IntKind.i64.wrap (evS xs ys + m)
def chnB (xs ys : List Int) (m : Int) : Bool := cntB xs && (evtB ys (List.length (α := Int) xs) && inB m 1 1000)

abbrev iv (n : Int) : AVal := .int .i64 n
def schnOut (a b c d e : Int) : AOut := .ret (.tup [.agg [iv a, iv b], .agg [iv c, iv d], iv e])
def rchnOut (a b c d e : Int) : AOut := .ret (.tup [.agg [iv a, iv b, iv c, iv d], iv e])
def schnF : List AVal → Option AOut
  | [.ro (.int .i64) xs, .ro (.int .i64) ys, .int .i64 m] =>
    bif chnB xs ys m then some (schnOut (lowC xs ys m) (denC xs m) (highD xs ys m) (denC xs m) 0) else some (schnOut 0 0 0 0 2)
  | _ => none
def rchnF : List AVal → Option AOut
  | [.ro (.int .i64) xs, .ro (.int .i64) ys, .int .i64 m] =>
    bif chnB xs ys m then some (rchnOut (lowC xs ys m) (denC xs m) (highD xs ys m) (denC xs m) 0) else some (rchnOut 0 0 0 0 2)
  | _ => none

theorem chn_loop {α β : Type} (xs ys : List Int) (f : Int × Int × Unit → Option (LRes (Int × Int × Unit) α)) (K : Int → Int → Option α)
    (h : ∀ i, i < ys.length → f ((ys.take i).foldl (addC xs) 0, (i : Int), ()) = some (.cont ((ys.take (i + 1)).foldl (addC xs) 0, ((i + 1 : Nat) : Int), ())))
    (hend : f (evS xs ys, (ys.length : Int), ()) = some (.brk 0 (evS xs ys, (ys.length : Int), ()))) :
    (afterL (iterL (ys.length + 1) f (0, 0, ())) fun id y => if id = 0 then K y.1 y.2.1 else none) = K (evS xs ys) (ys.length : Int) := by
  have e : iterL (ys.length + 1) f (0, 0, ()) = some (.brk 0 (evS xs ys, (ys.length : Int), ())) := by
    refine iterL_count (f := f) (fun i : Nat => ((ys.take i).foldl (addC xs) 0, (i : Int), ())) (fun y e => by cases e) ys.length h ?_ 0 (Nat.zero_le _) _ (by omega)
    simp only [List.take_length]
    exact hend
  rw [e]
  rfl

theorem rchance_enter (args : Array Value) (w : World) : (callFunc 17 args).run Try.prog w = .ok (.enter 17 args) w := by kernel_rfl
theorem rchance_text (N : Nat) (α : Type) (xs ys : List Int) (m : Int) (k : AOut → Option α) : evFn real tab (envF env7) N Try.f17 α [.ro (.int .i64) xs, .ro (.int .i64) ys, .int .i64 m] k =
    bif !cntB xs then k (rchnOut 0 0 0 0 2)
    else
      bif !evtB ys xs.length then k (rchnOut 0 0 0 0 2)
      else
        bif !inB m 1 1000 then k (rchnOut 0 0 0 0 2)
        else
          afterL
            (iterL N
              (fun x : Int × Int × Unit =>
                bif decide (x.2.1 < (ys.length : Int)) then
                  if 0 ≤ x.2.1 ∧ x.2.1 < (ys.length : Int) then
                    if 0 ≤ ys.getD x.2.1.toNat (Int.ofNat 0) ∧ ys.getD x.2.1.toNat (Int.ofNat 0) < (xs.length : Int) then
                      some (LRes.cont (IntKind.i64.wrap (x.1 + xs.getD (ys.getD x.2.1.toNat (Int.ofNat 0)).toNat (Int.ofNat 0)), IntKind.i64.wrap (x.2.1 + 1), ()))
                    else none
                  else none
                else some (LRes.brk 0 (x.1, x.2.1, ())))
              (0, 0, ()))
            fun id y =>
              if id = 0 then
                bif (ys.length : Int) == 0 then
                  bif (ys.length : Int) == (xs.length : Int) then k (rchnOut (denC xs m) (denC xs m) 0 (denC xs m) 0)
                  else k (rchnOut y.1 (denC xs m) 0 (denC xs m) 0)
                else
                  bif (ys.length : Int) == (xs.length : Int) then k (rchnOut (denC xs m) (denC xs m) (IntKind.i64.wrap (y.1 + m)) (denC xs m) 0)
                  else k (rchnOut y.1 (denC xs m) (IntKind.i64.wrap (y.1 + m)) (denC xs m) 0)
              else none := by kernel_rfl

theorem rchance_plain {α : Type} (xs ys : List Int) (m : Int) (hl : ys.length ≤ maxLen) (k : AOut → Option α) :
    evFn real tab (envF env7) (ys.length + 1) Try.f17 α [.ro (.int .i64) xs, .ro (.int .i64) ys, .int .i64 m] k = bif chnB xs ys m then k (rchnOut (lowC xs ys m) (denC xs m) (highD xs ys m) (denC xs m) 0) else k (rchnOut 0 0 0 0 2) := by
  rw [rchance_text]
  unfold chnB
  cases hc : cntB xs
  · rfl
  · cases he : evtB ys xs.length
    · rfl
    · cases hm : inB m 1 1000
      · rfl
      · simp only [Bool.not_true, cond_false, Bool.and_self, cond_true]
        refine (chn_loop (β := α) xs ys _ (fun a _ => bif (ys.length : Int) == 0 then
                  bif (ys.length : Int) == (xs.length : Int) then k (rchnOut (denC xs m) (denC xs m) 0 (denC xs m) 0)
                  else k (rchnOut a (denC xs m) 0 (denC xs m) 0)
                else
                  bif (ys.length : Int) == (xs.length : Int) then k (rchnOut (denC xs m) (denC xs m) (IntKind.i64.wrap (a + m)) (denC xs m) 0)
                  else k (rchnOut a (denC xs m) (IntKind.i64.wrap (a + m)) (denC xs m) 0)) (fun i hi => ?_) ?_).trans ?_
        · have h1 : decide ((i : Int) < (ys.length : Int)) = true := decide_eq_true (by omega)
          have h2 : IntKind.i64.wrap ((i : Int) + 1) = ((i + 1 : Nat) : Int) := wrap_small (n := i + 1) (by omega)
          have h3 := evt_at hc he i hi
          simp only [h1, cond_true, h2]
          rw [if_pos ⟨by omega, by omega⟩, show ((i : Int)).toNat = i from rfl, show Int.ofNat 0 = 0 from rfl, if_pos h3, take_fold _ _ _ _ hi]
          rfl
        · have h1 : decide ((ys.length : Int) < (ys.length : Int)) = false := decide_eq_false (by omega)
          simp only [h1, cond_false]
        · unfold lowC highD
          cases (ys.length : Int) == 0 <;> cases (ys.length : Int) == (xs.length : Int) <;> rfl

theorem rchance_ok : FspOk Try.prog 17 (toFsp rchnF) := fsp_of mixed tabOk env7_ok Try.func17 rchance_enter fun args out hs hF => by
  unfold rchnF at hF
  split at hF
  · rename_i xs ys m
    refine ⟨_, (rchance_plain xs ys m (hs _ (by simp)).len some).trans ?_⟩
    cases hb : chnB xs ys m
    all_goals
      rw [hb] at hF
      exact hF
  · cases hF

theorem schance_enter (args : Array Value) (w : World) : (callFunc 13 args).run Try.prog w = .ok (.enter 13 args) w := by kernel_rfl
theorem schance_text (N : Nat) (α : Type) (xs ys : List Int) (m : Int) (k : AOut → Option α) : evFn real tab (envF env7) N Try.f13 α [.ro (.int .i64) xs, .ro (.int .i64) ys, .int .i64 m] k =
    bif !cntB xs then k (schnOut 0 0 0 0 2)
    else
      bif !evtB ys xs.length then k (schnOut 0 0 0 0 2)
      else
        bif !inB m 1 1000 then k (schnOut 0 0 0 0 2)
        else
          afterL
            (iterL N
              (fun x : Int × Int × Unit =>
                bif decide (x.2.1 < (ys.length : Int)) then
                  if 0 ≤ x.2.1 ∧ x.2.1 < (ys.length : Int) then
                    if 0 ≤ ys.getD x.2.1.toNat (Int.ofNat 0) ∧ ys.getD x.2.1.toNat (Int.ofNat 0) < (xs.length : Int) then
                      some (LRes.cont (IntKind.i64.wrap (x.1 + xs.getD (ys.getD x.2.1.toNat (Int.ofNat 0)).toNat (Int.ofNat 0)), IntKind.i64.wrap (x.2.1 + 1), ()))
                    else none
                  else none
                else some (LRes.brk 0 (x.1, x.2.1, ())))
              (0, 0, ()))
            fun id y =>
              if id = 0 then
                bif (ys.length : Int) == 0 then k (schnOut y.1 (denC xs m) 0 (denC xs m) 0)
                else
                  bif (ys.length : Int) == (xs.length : Int) then k (schnOut (denC xs m) (denC xs m) (IntKind.i64.wrap (y.1 + m)) (denC xs m) 0)
                  else k (schnOut y.1 (denC xs m) (IntKind.i64.wrap (y.1 + m)) (denC xs m) 0)
              else none := by kernel_rfl

theorem schance_plain {α : Type} (xs ys : List Int) (m : Int) (hl : ys.length ≤ maxLen) (k : AOut → Option α) :
    evFn real tab (envF env7) (ys.length + 1) Try.f13 α [.ro (.int .i64) xs, .ro (.int .i64) ys, .int .i64 m] k = bif chnB xs ys m then k (schnOut (lowC xs ys m) (denC xs m) (highD xs ys m) (denC xs m) 0) else k (schnOut 0 0 0 0 2) := by
  rw [schance_text]
  unfold chnB
  cases hc : cntB xs
  · rfl
  · cases he : evtB ys xs.length
    · rfl
    · cases hm : inB m 1 1000
      · rfl
      · simp only [Bool.not_true, cond_false, Bool.and_self, cond_true]
        refine (chn_loop (β := α) xs ys _ (fun a _ => bif (ys.length : Int) == 0 then k (schnOut a (denC xs m) 0 (denC xs m) 0)
                else
                  bif (ys.length : Int) == (xs.length : Int) then k (schnOut (denC xs m) (denC xs m) (IntKind.i64.wrap (a + m)) (denC xs m) 0)
                  else k (schnOut a (denC xs m) (IntKind.i64.wrap (a + m)) (denC xs m) 0)) (fun i hi => ?_) ?_).trans ?_
        · have h1 : decide ((i : Int) < (ys.length : Int)) = true := decide_eq_true (by omega)
          have h2 : IntKind.i64.wrap ((i : Int) + 1) = ((i + 1 : Nat) : Int) := wrap_small (n := i + 1) (by omega)
          have h3 := evt_at hc he i hi
          simp only [h1, cond_true, h2]
          rw [if_pos ⟨by omega, by omega⟩, show ((i : Int)).toNat = i from rfl, show Int.ofNat 0 = 0 from rfl, if_pos h3, take_fold _ _ _ _ hi]
          rfl
        · have h1 : decide ((ys.length : Int) < (ys.length : Int)) = false := decide_eq_false (by omega)
          simp only [h1, cond_false]
        · have hn := cnt_len hc
          unfold lowC highD
          cases h0 : (ys.length : Int) == 0
          · cases (ys.length : Int) == (xs.length : Int) <;> rfl
          · have h0' : (ys.length : Int) = 0 := by simpa using h0
            have h5 : ((ys.length : Int) == (xs.length : Int)) = false := by
              rw [beq_eq_false_iff_ne]; omega
            rw [h5]
            rfl

theorem schance_ok : FspOk Try.prog 13 (toFsp schnF) := fsp_of mixed tabOk env7_ok Try.func13 schance_enter fun args out hs hF => by
  unfold schnF at hF
  split at hF
  · rename_i xs ys m
    refine ⟨_, (schance_plain xs ys m (hs _ (by simp)).len some).trans ?_⟩
    cases hb : chnB xs ys m
    all_goals
      rw [hb] at hF
      exact hF
  · cases hF
end Go.Proofs.Ytleceelemogbcaa

/- By the evaluator: Values of the reference. -/
namespace Go.Proofs.Ytleceelemogbcaa
open Go.RowKit

def farB (n : Int) : Bool := decide (n < -68719476736) || decide (n > 68719476736)
def valsB (xs : List Int) (m : Int) : Bool := !(xs.any farB) && ((xs.length : Int) == m)
def valsF : List AVal → Option AOut
  | [.ro (.int .i64) xs, .int .i64 m] => some (.ret (.bool (valsB xs m)))
  | _ => none

theorem rvals_enter (args : Array Value) (w : World) : (callFunc 49 args).run Try.prog w = .ok (.enter 49 args) w := by kernel_rfl
theorem rvals_text (N : Nat) (α : Type) (xs : List Int) (m : Int) (k : AOut → Option α) : evFn real tab (envF env0) N Try.f49 α [.ro (.int .i64) xs, .int .i64 m] k =
    afterL
      (iterL N
        (fun x : Int × Unit =>
          bif decide (x.1 < (xs.length : Int)) then
            if 0 ≤ x.1 ∧ x.1 < (xs.length : Int) then
              bif decide (xs.getD x.1.toNat (Int.ofNat 0) < -68719476736) then finL (k (AOut.ret (AVal.bool false)))
              else
                if 0 ≤ x.1 ∧ x.1 < (xs.length : Int) then
                  bif decide (xs.getD x.1.toNat (Int.ofNat 0) > 68719476736) then finL (k (AOut.ret (AVal.bool false)))
                  else some (LRes.cont (IntKind.i64.wrap (x.1 + 1), ()))
                else none
            else none
          else some (LRes.brk 0 (x.1, ())))
        (0, ()))
      fun id _ => if id = 0 then k (AOut.ret (AVal.bool ((xs.length : Int) == m))) else none := by kernel_rfl

theorem rvals_plain {α : Type} (xs : List Int) (m : Int) (hl : xs.length ≤ maxLen) (k : AOut → Option α) :
    evFn real tab (envF env0) (xs.length + 1) Try.f49 α [.ro (.int .i64) xs, .int .i64 m] k = k (.ret (.bool (valsB xs m))) := by
  rw [rvals_text]
  generalize hf : (fun x : Int × Unit => (_ : Option (LRes (Int × Unit) α))) = f
  have e : iterL (xs.length + 1) f (0, ()) = bif (List.range xs.length).any (fun i => farB (xs.getD i 0)) then finL (k (AOut.ret (AVal.bool false))) else some (.brk 0 ((xs.length : Int), ())) := by
    refine iterL_any (f := f) (fun i : Nat => ((i : Int), ())) _ (fin_not _) (brk_not _ _) xs.length (fun i hi => ?_) ?_
    · rw [← hf]
      have h1 : decide ((i : Int) < (xs.length : Int)) = true := decide_eq_true (by omega)
      have h2 : IntKind.i64.wrap ((i : Int) + 1) = ((i + 1 : Nat) : Int) := wrap_small (n := i + 1) (by omega)
      simp only [h1, cond_true, h2]
      rw [if_pos ⟨by omega, by omega⟩, if_pos ⟨by omega, by omega⟩]
      unfold farB
      rw [show ((i : Int)).toNat = i from rfl, show Int.ofNat 0 = 0 from rfl]
      cases decide (xs.getD i 0 < -68719476736) <;> rfl
    · rw [← hf]
      have h1 : decide ((xs.length : Int) < (xs.length : Int)) = false := decide_eq_false (by omega)
      simp only [h1, cond_false]
  rw [e, any_range xs farB]
  unfold valsB
  cases xs.any farB
  · rfl
  · simp only [cond_true, Bool.not_true, Bool.false_and]
    cases k (.ret (.bool false)) <;> rfl

theorem rvals_ok : FspOk Try.prog 49 (toFsp valsF) := fsp_of mixed tabOk env_nil Try.func49 rvals_enter fun args out hs hF => by
  unfold valsF at hF
  split at hF
  · rename_i xs m
    cases hF
    exact ⟨_, rvals_plain xs m (hs _ (by simp)).len some⟩
  · cases hF
end Go.Proofs.Ytleceelemogbcaa

/- The document's share as the evaluator needs it, out of its walk. -/
namespace Go.Proofs.Ytleceelemogbcaa
open Go.RowKit

/-- What leaves memory of old as it was, and gives back numbers. -/
theorem cpost_flat {M : Nat → Prop} {w w' : World} {v : AVal} {x : Value} (hM : ∀ b, M b → b < w.heap.size) (hb : Below w.heap.size w w') (hr : Rep [] ⟨fun _ => Go.undef, M⟩ w' v x) : CPost M w (.ret v) (.returned x) w' :=
  ⟨M, fun _ h => h, fun _ h => .inl h, fun b h => Nat.lt_of_lt_of_le (hM b h) hb.size, hb, x, rfl, hr⟩

def shareF : List AVal → Option AOut
  | [.int .i64 a, .int .i64 b, .int .i64 how] => if (how = 1 ∨ how = 2) ∧ 0 < b ∧ b ≤ 2147483648 ∧ -4611686018427387904 ≤ a ∧ a ≤ 4611686018427387904 then some (.ret (.tup [.int .i64 (rndQ how a b), .int .i64 0])) else none
  | _ => none

theorem share_ok : FspOk Try.prog 65 (toFsp shareF) where
  enter := fun args w => by kernel_rfl
  nat := toFsp_nat _
  calls := fun args out hout M w cargs hM hl hr => by
    have hF := toFsp_some hout
    unfold shareF at hF
    split at hF
    · rename_i a b how
      split at hF
      · rename_i hc
        obtain ⟨c1, c2, c3, c4, c5⟩ := hc
        cases hF
        obtain ⟨l⟩ := cargs
        match l, hl with
        | [x, y, z], _ =>
          have e1 := rep_int (hr 0 _ x rfl rfl)
          have e2 := rep_int (hr 1 _ y rfl rfl)
          have e3 := rep_int (hr 2 _ z rfl rfl)
          subst e1; subst e2; subst e3
          refine (share_c a b how w c1 c2 c3 c4 c5).mono ?_
          rintro e w' ⟨rfl, hb⟩
          refine cpost_flat hM hb (.tup _ _ rfl fun j c x hc hx => ?_)
          match j with
          | 0 => cases hc; cases hx; exact .int _ _
          | 1 => cases hc; cases hx; exact .int _ _
          | j + 2 => cases hc
      · cases hF
    · cases hF

/-- The same, with the test of its domain in sight. -/
def shareOk (how a b : Int) : Prop := (how = 1 ∨ how = 2) ∧ 0 < b ∧ b ≤ 2147483648 ∧ -4611686018427387904 ≤ a ∧ a ≤ 4611686018427387904
instance (how a b : Int) : Decidable (shareOk how a b) := by unfold shareOk; exact inferInstance
def shareS : Fsp := fun _ args k =>
  match args with
  | [.int .i64 a, .int .i64 b, .int .i64 how] => if shareOk how a b then k (.ret (.tup [.int .i64 (rndQ how a b), .int .i64 0])) else none
  | _ => none
theorem shareS_eq : shareS = toFsp shareF := by
  funext α args k
  unfold shareS toFsp shareF
  split
  · rename_i a b how
    by_cases h : shareOk how a b
    · rw [if_pos h]
      rw [if_pos (show (how = 1 ∨ how = 2) ∧ 0 < b ∧ b ≤ 2147483648 ∧ -4611686018427387904 ≤ a ∧ a ≤ 4611686018427387904 from h)]
    · rw [if_neg h]
      rw [if_neg (show ¬((how = 1 ∨ how = 2) ∧ 0 < b ∧ b ≤ 2147483648 ∧ -4611686018427387904 ≤ a ∧ a ≤ 4611686018427387904) from h)]
  · rfl
theorem shareS_ok : FspOk Try.prog 65 shareS := by rw [shareS_eq]; exact share_ok
end Go.Proofs.Ytleceelemogbcaa

/- By the evaluator: what Mean looks at. -/
namespace Go.Proofs.Ytleceelemogbcaa
open Go.RowKit

theorem sfwithin_enter (args : Array Value) (w : World) : (callFunc 36 args).run Try.prog w = .ok (.enter 36 args) w := by kernel_rfl
theorem sfwithin_text (N : Nat) (α : Type) (n lo hi : Int) (k : AOut → Option α) : evFn real tab (envF env0) N Try.f36 α [.int .i64 n, .int .i64 lo, .int .i64 hi] k =
    bif decide (lo ≤ n) then k (AOut.ret (AVal.bool (decide (n ≤ hi)))) else k (AOut.ret (AVal.bool false)) := by kernel_rfl
theorem sfwithin_ok : FspOk Try.prog 36 (toFsp inF) := fsp_of mixed tabOk env_nil Try.func36 sfwithin_enter fun args out hs hF => by
  unfold inF at hF
  split at hF
  · rename_i n lo hi
    cases hF
    refine ⟨1, (sfwithin_text 1 AOut n lo hi some).trans ?_⟩
    unfold inB
    cases decide (lo ≤ n) <;> rfl
  · cases hF

def env8 : FuncId → Option Fsp := fun g => if g = 36 then some (toFsp inF) else env7 g
theorem env8_ok : EnvOk Try.prog (envF env8) := env_cons sfwithin_ok env7_ok

def outB (n : Int) : Bool := !(inB n (-68719476736) 68719476736)
def outF : List AVal → Option AOut
  | [.int .i64 n] => some (.ret (.bool (outB n)))
  | _ => none
theorem sout_enter (args : Array Value) (w : World) : (callFunc 41 args).run Try.prog w = .ok (.enter 41 args) w := by kernel_rfl
theorem sout_text (N : Nat) (α : Type) (n : Int) (k : AOut → Option α) : evFn real tab (envF env8) N Try.f41 α [.int .i64 n] k = k (AOut.ret (AVal.bool (outB n))) := by kernel_rfl
theorem sout_ok : FspOk Try.prog 41 (toFsp outF) := fsp_of mixed tabOk env8_ok Try.func41 sout_enter fun args out hs hF => by
  unfold outF at hF
  split at hF
  · cases hF
    exact ⟨1, sout_text 1 AOut _ some⟩
  · cases hF

def env9 : FuncId → Option Fsp := fun g => if g = 41 then some (toFsp outF) else env8 g
theorem env9_ok : EnvOk Try.prog (envF env9) := env_cons sout_ok env8_ok

def fidxF : List AVal → Option AOut
  | [.ro (.int .i64) xs, .fn g []] => if g = 41 then some (.ret (.int .i64 (fstI outB xs))) else none
  | _ => none
theorem sfindex_enter (args : Array Value) (w : World) : (callFunc 64 args).run Try.prog w = .ok (.enter 64 args) w := by kernel_rfl
theorem sfindex_text (N : Nat) (α : Type) (xs : List Int) (k : AOut → Option α) : evFn real tab (envF env9) N Try.f64 α [.ro (.int .i64) xs, .fn 41 []] k =
    afterL
      (iterL N
        (fun x : Int × Unit =>
          bif decide (x.1 < (xs.length : Int)) then
            if 0 ≤ x.1 ∧ x.1 < (xs.length : Int) then
              bif outB (xs.getD x.1.toNat (Int.ofNat 0)) then finL (k (AOut.ret (AVal.int IntKind.i64 x.1)))
              else some (LRes.cont (IntKind.i64.wrap (x.1 + 1), ()))
            else none
          else some (LRes.brk 0 (x.1, ())))
        (0, ()))
      fun id _ => if id = 0 then k (AOut.ret (AVal.int IntKind.i64 (-1))) else none := by kernel_rfl

theorem sfindex_plain {α : Type} (xs : List Int) (hl : xs.length ≤ maxLen) (k : AOut → Option α) :
    (afterL
      (iterL (xs.length + 1)
        (fun x : Int × Unit =>
          bif decide (x.1 < (xs.length : Int)) then
            if 0 ≤ x.1 ∧ x.1 < (xs.length : Int) then
              bif outB (xs.getD x.1.toNat (Int.ofNat 0)) then finL (k (AOut.ret (AVal.int IntKind.i64 x.1)))
              else some (LRes.cont (IntKind.i64.wrap (x.1 + 1), ()))
            else none
          else some (LRes.brk 0 (x.1, ())))
        (0, ()))
      fun id _ => if id = 0 then k (AOut.ret (AVal.int IntKind.i64 (-1))) else none) = k (.ret (.int .i64 (fstI outB xs))) := by
  generalize hf : (fun x : Int × Unit => (_ : Option (LRes (Int × Unit) α))) = f
  have e : iterL (xs.length + 1) f (0, ()) = match (List.range xs.length).find? (fun i => outB (xs.getD i 0)) with | some i => finL (k (AOut.ret (AVal.int .i64 (i : Int)))) | none => some (.brk 0 ((xs.length : Int), ())) := by
    refine iterL_find (f := f) (fun i : Nat => ((i : Int), ())) _ (fun i => fin_not _) (brk_not _ _) xs.length (fun i hi => ?_) ?_
    · rw [← hf]
      have h1 : decide ((i : Int) < (xs.length : Int)) = true := decide_eq_true (by omega)
      simp only [h1, cond_true]
      rw [if_pos ⟨by omega, by omega⟩]
      have h2 : IntKind.i64.wrap ((i : Int) + 1) = ((i + 1 : Nat) : Int) := wrap_small (n := i + 1) (by omega)
      rw [h2]
      rfl
    · rw [← hf]
      have h1 : decide ((xs.length : Int) < (xs.length : Int)) = false := decide_eq_false (by omega)
      simp only [h1, cond_false]
  rw [e]
  unfold fstI
  cases (List.range xs.length).find? fun i => outB (xs.getD i 0) with
  | none => rfl
  | some i =>
    simp only
    cases k (AOut.ret (AVal.int .i64 (i : Int))) <;> rfl

theorem sfindex_ok : FspOk Try.prog 64 (toFsp fidxF) := fsp_of mixed tabOk env9_ok Try.func64 sfindex_enter fun args out hs hF => by
  unfold fidxF at hF
  split at hF
  · rename_i xs g
    split at hF
    · rename_i hg
      subst hg
      cases hF
      exact ⟨_, (sfindex_text _ AOut xs some).trans (sfindex_plain xs (hs _ (by simp)).len some)⟩
    · cases hF
  · cases hF

def env10 : FuncId → Option Fsp := fun g => if g = 64 then some (toFsp fidxF) else env9 g
theorem env10_ok : EnvOk Try.prog (envF env10) := env_cons sfindex_ok env9_ok

def fanyF : List AVal → Option AOut
  | [.ro (.int .i64) xs, .fn g []] => if g = 41 then some (.ret (.bool (List.any (α := Int) xs outB))) else none
  | _ => none
theorem sfcontains_enter (args : Array Value) (w : World) : (callFunc 42 args).run Try.prog w = .ok (.enter 42 args) w := by kernel_rfl
theorem sfcontains_text (N : Nat) (α : Type) (xs : List Int) (k : AOut → Option α) : evFn real tab (envF env10) N Try.f42 α [.ro (.int .i64) xs, .fn 41 []] k = k (AOut.ret (AVal.bool (decide (fstI outB xs ≥ 0)))) := by kernel_rfl
theorem sfcontains_ok : FspOk Try.prog 42 (toFsp fanyF) := fsp_of mixed tabOk env10_ok Try.func42 sfcontains_enter fun args out hs hF => by
  unfold fanyF at hF
  split at hF
  · rename_i xs g
    split at hF
    · rename_i hg
      subst hg
      cases hF
      exact ⟨1, (sfcontains_text 1 AOut xs some).trans (congrArg (fun b => some (AOut.ret (AVal.bool b))) (fst_any outB xs))⟩
    · cases hF
  · cases hF

def env11 : FuncId → Option Fsp := fun g => if g = 42 then some (toFsp fanyF) else env10 g
theorem env11_ok : EnvOk Try.prog (envF env11) := env_cons sfcontains_ok env10_ok

theorem out_far (n : Int) : outB n = farB n := by
  unfold outB farB inB
  by_cases h1 : (-68719476736 : Int) ≤ n
  · by_cases h2 : n ≤ 68719476736
    · rw [decide_eq_true h1, decide_eq_true h2, decide_eq_false (by omega), decide_eq_false (by omega)]; rfl
    · rw [decide_eq_true h1, decide_eq_false h2, decide_eq_false (by omega), decide_eq_true (by omega)]; rfl
  · have h2 : n < -68719476736 := by omega
    rw [decide_eq_false h1, decide_eq_true h2]; rfl

/-- The quotient that is not above. -/
def dnQ (a b : Int) : Int := bif decide (a.tmod b < 0) then IntKind.i64.wrap (IntKind.i64.wrap (a.tdiv b) - 1) else IntKind.i64.wrap (a.tdiv b)
def downF : List AVal → Option AOut
  | [.int .i64 a, .int .i64 b] => if b = 0 then none else some (.ret (.int .i64 (dnQ a b)))
  | _ => none
theorem rdown_enter (args : Array Value) (w : World) : (callFunc 66 args).run Try.prog w = .ok (.enter 66 args) w := by kernel_rfl
theorem rdown_text (N : Nat) (α : Type) (a b : Int) (k : AOut → Option α) : evFn real tab (envF env0) N Try.f66 α [.int .i64 a, .int .i64 b] k =
    if b = 0 then none
    else
      if b = 0 then none
      else
        bif decide (a.tmod b < 0) then k (AOut.ret (AVal.int IntKind.i64 (IntKind.i64.wrap (IntKind.i64.wrap (a.tdiv b) - 1))))
        else k (AOut.ret (AVal.int IntKind.i64 (IntKind.i64.wrap (a.tdiv b)))) := by kernel_rfl
theorem rdown_ok : FspOk Try.prog 66 (toFsp downF) := fsp_of mixed tabOk env_nil Try.func66 rdown_enter fun args out hs hF => by
  unfold downF at hF
  split at hF
  · rename_i a b
    split at hF
    · cases hF
    · rename_i hb
      cases hF
      refine ⟨1, (rdown_text 1 AOut a b some).trans ?_⟩
      rw [if_neg hb, if_neg hb]
      unfold dnQ
      cases decide (a.tmod b < 0) <;> rfl
  · cases hF
def downS : Fsp := fun _ args k =>
  match args with
  | [.int .i64 a, .int .i64 b] => if b = 0 then none else k (.ret (.int .i64 (dnQ a b)))
  | _ => none
theorem downS_eq : downS = toFsp downF := by
  funext α args k
  unfold downS toFsp downF
  split
  · rename_i a b
    by_cases h : b = 0
    · rw [if_pos h, if_pos h]
    · rw [if_neg h, if_neg h]
  · rfl
theorem downS_ok : FspOk Try.prog 66 downS := by rw [downS_eq]; exact rdown_ok

def env12 : FuncId → Option Fsp := fun g => if g = 65 then some shareS else if g = 66 then some downS else if g = 49 then some (toFsp valsF) else env11 g
theorem env12_ok : EnvOk Try.prog (envF env12) := env_cons shareS_ok (env_cons downS_ok (env_cons rvals_ok env11_ok))
end Go.Proofs.Ytleceelemogbcaa

/- By the evaluator: Mean, of the document and of the reference: what they compute. -/
namespace Go.Proofs.Ytleceelemogbcaa
open Go.RowKit

def mnG (a x : Int) : Int := if x < a then x else a
def mxG (a x : Int) : Int := if a < x then x else a
def mnL (l : List Int) : Int := l.foldl mnG (l.getD 0 0)
def mxL (l : List Int) : Int := l.foldl mxG (l.getD 0 0)
/-- Sums of products, from a on. -/
def dotA (xs ls : List Int) (a : Int) : Nat → Int
  | 0 => a
  | i + 1 => IntKind.i64.wrap (dotA xs ls a i + IntKind.i64.wrap (xs.getD i 0 * ls.getD i 0))

section
variable {α : Type} (N : Nat)
def minLoop (ls : List Int) (K : Int → Option α) : Option α :=
  afterL (iterL N (fun x : Int × Int × Unit =>
      bif decide (x.2.1 < (ls.length : Int)) then
        if 0 ≤ x.2.1 ∧ x.2.1 < (ls.length : Int) then
          some (LRes.cont (if ls.getD x.2.1.toNat (Int.ofNat 0) < x.1 then ls.getD x.2.1.toNat (Int.ofNat 0) else x.1, IntKind.i64.wrap (x.2.1 + 1), ()))
        else none
      else some (LRes.brk 0 (x.1, x.2.1, ()))) (ls.getD (Int.toNat 0) (Int.ofNat 0), 1, ()))
    fun id y => if id = 0 then K y.1 else none
def maxLoop (ls : List Int) (K : Int → Option α) : Option α :=
  afterL (iterL N (fun x : Int × Int × Unit =>
      bif decide (x.2.1 < (ls.length : Int)) then
        if 0 ≤ x.2.1 ∧ x.2.1 < (ls.length : Int) then
          some (LRes.cont (if x.1 < ls.getD x.2.1.toNat (Int.ofNat 0) then ls.getD x.2.1.toNat (Int.ofNat 0) else x.1, IntKind.i64.wrap (x.2.1 + 1), ()))
        else none
      else some (LRes.brk 0 (x.1, x.2.1, ()))) (ls.getD (Int.toNat 0) (Int.ofNat 0), 1, ()))
    fun id y => if id = 0 then K y.1 else none
def dotLoop (xs ls : List Int) (a : Int) (K : Int → Option α) : Option α :=
  afterL (iterL N (fun x : Int × Int × Unit =>
      bif decide (x.2.1 < (xs.length : Int)) then
        if 0 ≤ x.2.1 ∧ x.2.1 < (xs.length : Int) then
          if 0 ≤ x.2.1 ∧ x.2.1 < (ls.length : Int) then
            some (LRes.cont (IntKind.i64.wrap (x.1 + IntKind.i64.wrap (xs.getD x.2.1.toNat (Int.ofNat 0) * ls.getD x.2.1.toNat (Int.ofNat 0))), IntKind.i64.wrap (x.2.1 + 1), ()))
          else none
        else none
      else some (LRes.brk 0 (x.1, x.2.1, ()))) (a, 0, ()))
    fun id y => if id = 0 then K y.1 else none
/-- Both sums of products, the least and the greatest. -/
def mmLoop (xs ls : List Int) (K : Int → Int → Int → Int → Option α) : Option α :=
  afterL (iterL N (fun x : Int × Int × Int × Int × Int × Unit =>
      bif decide (x.2.2.2.2.1 < (xs.length : Int)) then
        if 0 ≤ x.2.2.2.2.1 ∧ x.2.2.2.2.1 < (xs.length : Int) then
          if 0 ≤ x.2.2.2.2.1 ∧ x.2.2.2.2.1 < (ls.length : Int) then
            if 0 ≤ x.2.2.2.2.1 ∧ x.2.2.2.2.1 < (xs.length : Int) then
              if 0 ≤ x.2.2.2.2.1 ∧ x.2.2.2.2.1 < (ls.length : Int) then
                if 0 ≤ x.2.2.2.2.1 ∧ x.2.2.2.2.1 < (ls.length : Int) then
                  if 0 ≤ x.2.2.2.2.1 ∧ x.2.2.2.2.1 < (ls.length : Int) then
                    some (LRes.cont (IntKind.i64.wrap (x.1 + IntKind.i64.wrap (xs.getD x.2.2.2.2.1.toNat (Int.ofNat 0) * ls.getD x.2.2.2.2.1.toNat (Int.ofNat 0))),
                      IntKind.i64.wrap (x.2.1 + IntKind.i64.wrap (xs.getD x.2.2.2.2.1.toNat (Int.ofNat 0) * ls.getD x.2.2.2.2.1.toNat (Int.ofNat 0))),
                      if ls.getD x.2.2.2.2.1.toNat (Int.ofNat 0) < x.2.2.1 then ls.getD x.2.2.2.2.1.toNat (Int.ofNat 0) else x.2.2.1,
                      if x.2.2.2.1 < ls.getD x.2.2.2.2.1.toNat (Int.ofNat 0) then ls.getD x.2.2.2.2.1.toNat (Int.ofNat 0) else x.2.2.2.1,
                      IntKind.i64.wrap (x.2.2.2.2.1 + 1), ()))
                  else none
                else none
              else none
            else none
          else none
        else none
      else some (LRes.brk 0 (x.1, x.2.1, x.2.2.1, x.2.2.2.1, x.2.2.2.2.1, ()))) (0, 0, ls.getD (Int.toNat 0) (Int.ofNat 0), ls.getD (Int.toNat 0) (Int.ofNat 0), 0, ()))
    fun id y => if id = 0 then K y.1 y.2.1 y.2.2.1 y.2.2.2.1 else none
end

def look : List (Nat × Func) → Nat → Option Func
  | [], _ => none
  | (u, e) :: r, t => if t = u then some e else look r t
noncomputable def twM : Tower := ⟨env12, fun _ => false, fun _ => none, look [(43, Try.f43), (44, Try.f44), (45, Try.f45), (50, Try.f50)]⟩

def smean3 (a b e : Int) : AOut := .ret (.tup [iv a, iv b, iv e])
def rmean3 (a b e : Int) : AOut := .ret (.tup [.agg [iv a, iv b], iv e])
def panS (t : Nat) (bs : Array UInt8) : AOut := .pan (.ifc t (.str ⟨bs⟩))

theorem smean_text (N : Nat) (α : Type) (xs ls : List Int) (m : Int) (k : AOut → Option α) : evFn real tab (twM.env real tab N 3) N Try.f14 α [.ro (.int .i64) xs, .ro (.int .i64) ls, .int .i64 m] k =
    bif !cntB xs then k (smean3 0 0 2)
    else
      bif (ls.length : Int) != (xs.length : Int) then k (smean3 0 0 2)
      else
        bif ls.any outB then k (smean3 0 0 2)
        else
          bif !inB m 1 1000 then k (smean3 0 0 2)
          else
            bif decide ((ls.length : Int) < 1) then k (panS 9 #[115, 108, 105, 99, 101, 115, 46, 77, 105, 110, 58, 32, 101, 109, 112, 116, 121, 32, 108, 105, 115, 116])
            else
              if (0 : Int) ≤ 0 ∧ 0 < (ls.length : Int) then
                minLoop N ls fun a => dotLoop N xs ls (IntKind.i64.wrap (m * a)) fun t =>
                  if shareOk 1 t (IntKind.i64.wrap (sumW xs + m)) then
                    bif decide ((ls.length : Int) < 1) then k (panS 9 #[115, 108, 105, 99, 101, 115, 46, 77, 97, 120, 58, 32, 101, 109, 112, 116, 121, 32, 108, 105, 115, 116])
                    else
                      if (0 : Int) ≤ 0 ∧ 0 < (ls.length : Int) then
                        maxLoop N ls fun b => dotLoop N xs ls (IntKind.i64.wrap (m * b)) fun u =>
                          if shareOk 2 u (IntKind.i64.wrap (sumW xs + m)) then
                            k (smean3 (rndQ 1 t (IntKind.i64.wrap (sumW xs + m))) (rndQ 2 u (IntKind.i64.wrap (sumW xs + m))) 0)
                          else none
                      else none
                  else none
              else none := by kernel_rfl

theorem rmean_text (N : Nat) (α : Type) (xs ls : List Int) (m : Int) (k : AOut → Option α) : evFn real tab (twM.env real tab N 3) N Try.f18 α [.ro (.int .i64) xs, .ro (.int .i64) ls, .int .i64 m] k =
    bif !cntB xs then k (rmean3 0 0 2)
    else
      bif !valsB ls xs.length then k (rmean3 0 0 2)
      else
        bif !inB m 1 1000 then k (rmean3 0 0 2)
        else
          if (0 : Int) ≤ 0 ∧ 0 < (ls.length : Int) then
            if (0 : Int) ≤ 0 ∧ 0 < (ls.length : Int) then
              mmLoop N xs ls fun lo hi a b =>
                if IntKind.i64.wrap (sumW xs + m) = 0 then none
                else
                  if IntKind.i64.wrap (sumW xs + m) = 0 then none
                  else k (rmean3 (dnQ (IntKind.i64.wrap (lo + IntKind.i64.wrap (m * a))) (IntKind.i64.wrap (sumW xs + m))) (IntKind.i64.wrap (0 - dnQ (IntKind.i64.wrap (0 - IntKind.i64.wrap (hi + IntKind.i64.wrap (m * b)))) (IntKind.i64.wrap (sumW xs + m)))) 0)
            else none
          else none := by kernel_rfl

theorem smean_enter (args : Array Value) (w : World) : (callFunc 14 args).run Try.prog w = .ok (.enter 14 args) w := by kernel_rfl
theorem rmean_enter (args : Array Value) (w : World) : (callFunc 18 args).run Try.prog w = .ok (.enter 18 args) w := by kernel_rfl
theorem smean1_enter (args : Array Value) (w : World) : (callFunc 43 args).run Try.prog w = .ok (.enter 43 args) w := by kernel_rfl
theorem rmeans_enter (args : Array Value) (w : World) : (callFunc 50 args).run Try.prog w = .ok (.enter 50 args) w := by kernel_rfl
theorem smin_enter (args : Array Value) (w : World) : (callFunc 44 args).run Try.prog w = .ok (.enter 44 args) w := by kernel_rfl
theorem smax_enter (args : Array Value) (w : World) : (callFunc 45 args).run Try.prog w = .ok (.enter 45 args) w := by kernel_rfl

theorem twM_ok : TwOk Try.prog twM where
  fs := env12_ok.fs
  sp := fun f S h => by cases h
  fn := fun f fn h => by
    simp only [twM, look] at h
    split at h
    · rename_i e; cases h; subst e; exact ⟨Try.func43, smean1_enter⟩
    · split at h
      · rename_i e; cases h; subst e; exact ⟨Try.func44, smin_enter⟩
      · split at h
        · rename_i e; cases h; subst e; exact ⟨Try.func45, smax_enter⟩
        · split at h
          · rename_i e; cases h; subst e; exact ⟨Try.func50, rmeans_enter⟩
          · cases h
end Go.Proofs.Ytleceelemogbcaa

/- By the evaluator: Mean, of the document and of the reference: their contracts. -/
namespace Go.Proofs.Ytleceelemogbcaa
open Go.RowKit

def meanB (xs ls : List Int) (m : Int) : Bool := cntB xs && (valsB ls (List.length (α := Int) xs) && inB m 1 1000)
def totL (xs ls : List Int) (m : Int) : Int := dotA xs ls (IntKind.i64.wrap (m * mnL ls)) (List.length (α := Int) xs)
def totH (xs ls : List Int) (m : Int) : Int := dotA xs ls (IntKind.i64.wrap (m * mxL ls)) (List.length (α := Int) xs)
def smeanF : List AVal → Option AOut
  | [.ro (.int .i64) xs, .ro (.int .i64) ls, .int .i64 m] => bif meanB xs ls m then some (smean3 (rndQ 1 (totL xs ls m) (denC xs m)) (rndQ 2 (totH xs ls m) (denC xs m)) 0) else some (smean3 0 0 2)
  | _ => none
def rmeanF : List AVal → Option AOut
  | [.ro (.int .i64) xs, .ro (.int .i64) ls, .int .i64 m] => bif meanB xs ls m then some (rmean3 (rndQ 1 (totL xs ls m) (denC xs m)) (rndQ 2 (totH xs ls m) (denC xs m)) 0) else some (rmean3 0 0 2)
  | _ => none

theorem i64_w (n : Int) (h : -9223372036854775808 ≤ n ∧ n ≤ 9223372036854775807) : IntKind.i64.wrap n = n := by rw [IntKind.wrap_i64]; omega
theorem wadd (x y : Int) : IntKind.i64.wrap (IntKind.i64.wrap x + IntKind.i64.wrap y) = IntKind.i64.wrap (x + y) := by simp only [IntKind.wrap_i64]; omega
theorem waddl (x y : Int) : IntKind.i64.wrap (IntKind.i64.wrap x + y) = IntKind.i64.wrap (x + y) := by simp only [IntKind.wrap_i64]; omega
theorem wwrap (x : Int) : IntKind.i64.wrap (IntKind.i64.wrap x) = IntKind.i64.wrap x := by simp only [IntKind.wrap_i64]; omega

theorem fold_one {g : Int → Int → Int} (hg : ∀ a, g a a = a) (ls : List Int) (h : 1 ≤ ls.length) : (ls.take 1).foldl g (ls.getD 0 0) = ls.getD 0 0 := by
  cases ls with
  | nil => simp at h
  | cons a r => simp [hg]

theorem mnG_same (a : Int) : mnG a a = a := by unfold mnG; split <;> rfl
theorem mxG_same (a : Int) : mxG a a = a := by unfold mxG; split <;> rfl

section
variable {α : Type} {N : Nat}

theorem min_plain (ls : List Int) (h1 : 1 ≤ ls.length) (hl : ls.length ≤ maxLen) (hN : ls.length < N) (K : Int → Option α) : minLoop N ls K = K (mnL ls) := by
  unfold minLoop
  generalize hf : (fun x : Int × Int × Unit => (_ : Option (LRes (Int × Int × Unit) α))) = f
  have e : iterL N f (ls.getD (Int.toNat 0) (Int.ofNat 0), 1, ()) = some (.brk 0 (mnL ls, (ls.length : Int), ())) := by
    refine (congrArg (iterL N f) ?_).trans (iterL_count (f := f) (fun i : Nat => ((ls.take i).foldl mnG (ls.getD 0 0), (i : Int), ())) (fun y e => by cases e) ls.length (fun i hi => ?_) ?_ 1 h1 N (by omega))
    · rw [fold_one mnG_same ls h1]; rfl
    · rw [← hf]
      have h1 : decide ((i : Int) < (ls.length : Int)) = true := decide_eq_true (by omega)
      have h2 : IntKind.i64.wrap ((i : Int) + 1) = ((i + 1 : Nat) : Int) := wrap_small (n := i + 1) (by omega)
      simp only [h1, cond_true, h2]
      rw [if_pos ⟨by omega, by omega⟩, take_fold _ _ _ _ hi]
      rfl
    · rw [← hf]
      have h1 : decide ((ls.length : Int) < (ls.length : Int)) = false := decide_eq_false (by omega)
      simp only [h1, cond_false, List.take_length]
      rfl
  rw [e]
  rfl

theorem max_plain (ls : List Int) (h1 : 1 ≤ ls.length) (hl : ls.length ≤ maxLen) (hN : ls.length < N) (K : Int → Option α) : maxLoop N ls K = K (mxL ls) := by
  unfold maxLoop
  generalize hf : (fun x : Int × Int × Unit => (_ : Option (LRes (Int × Int × Unit) α))) = f
  have e : iterL N f (ls.getD (Int.toNat 0) (Int.ofNat 0), 1, ()) = some (.brk 0 (mxL ls, (ls.length : Int), ())) := by
    refine (congrArg (iterL N f) ?_).trans (iterL_count (f := f) (fun i : Nat => ((ls.take i).foldl mxG (ls.getD 0 0), (i : Int), ())) (fun y e => by cases e) ls.length (fun i hi => ?_) ?_ 1 h1 N (by omega))
    · rw [fold_one mxG_same ls h1]; rfl
    · rw [← hf]
      have h1 : decide ((i : Int) < (ls.length : Int)) = true := decide_eq_true (by omega)
      have h2 : IntKind.i64.wrap ((i : Int) + 1) = ((i + 1 : Nat) : Int) := wrap_small (n := i + 1) (by omega)
      simp only [h1, cond_true, h2]
      rw [if_pos ⟨by omega, by omega⟩, take_fold _ _ _ _ hi]
      rfl
    · rw [← hf]
      have h1 : decide ((ls.length : Int) < (ls.length : Int)) = false := decide_eq_false (by omega)
      simp only [h1, cond_false, List.take_length]
      rfl
  rw [e]
  rfl

theorem dot_plain (xs ls : List Int) (a : Int) (he : ls.length = xs.length) (hl : xs.length ≤ maxLen) (hN : xs.length < N) (K : Int → Option α) : dotLoop N xs ls a K = K (dotA xs ls a xs.length) := by
  unfold dotLoop
  generalize hf : (fun x : Int × Int × Unit => (_ : Option (LRes (Int × Int × Unit) α))) = f
  have e : iterL N f (a, 0, ()) = some (.brk 0 (dotA xs ls a xs.length, (xs.length : Int), ())) := by
    refine iterL_count (f := f) (fun i : Nat => (dotA xs ls a i, (i : Int), ())) (fun y e => by cases e) xs.length (fun i hi => ?_) ?_ 0 (Nat.zero_le _) N (by omega)
    · rw [← hf]
      have h1 : decide ((i : Int) < (xs.length : Int)) = true := decide_eq_true (by omega)
      have h2 : IntKind.i64.wrap ((i : Int) + 1) = ((i + 1 : Nat) : Int) := wrap_small (n := i + 1) (by omega)
      simp only [h1, cond_true, h2]
      rw [if_pos ⟨by omega, by omega⟩, if_pos ⟨by omega, by omega⟩]
      rfl
    · rw [← hf]
      have h1 : decide ((xs.length : Int) < (xs.length : Int)) = false := decide_eq_false (by omega)
      simp only [h1, cond_false]
  rw [e]
  rfl

theorem mm_plain (xs ls : List Int) (he : ls.length = xs.length) (hl : xs.length ≤ maxLen) (hN : xs.length < N) (K : Int → Int → Int → Int → Option α) : mmLoop N xs ls K = K (dotA xs ls 0 xs.length) (dotA xs ls 0 xs.length) (mnL ls) (mxL ls) := by
  unfold mmLoop
  generalize hf : (fun x : Int × Int × Int × Int × Int × Unit => (_ : Option (LRes (Int × Int × Int × Int × Int × Unit) α))) = f
  have e : iterL N f (0, 0, ls.getD (Int.toNat 0) (Int.ofNat 0), ls.getD (Int.toNat 0) (Int.ofNat 0), 0, ()) = some (.brk 0 (dotA xs ls 0 xs.length, dotA xs ls 0 xs.length, mnL ls, mxL ls, (xs.length : Int), ())) := by
    refine iterL_count (f := f) (fun i : Nat => (dotA xs ls 0 i, dotA xs ls 0 i, (ls.take i).foldl mnG (ls.getD 0 0), (ls.take i).foldl mxG (ls.getD 0 0), (i : Int), ())) (fun y e => by cases e) xs.length (fun i hi => ?_) ?_ 0 (Nat.zero_le _) N (by omega)
    · rw [← hf]
      have h1 : decide ((i : Int) < (xs.length : Int)) = true := decide_eq_true (by omega)
      have h2 : IntKind.i64.wrap ((i : Int) + 1) = ((i + 1 : Nat) : Int) := wrap_small (n := i + 1) (by omega)
      have h3 : 0 ≤ (i : Int) ∧ (i : Int) < (xs.length : Int) := by omega
      have h4 : 0 ≤ (i : Int) ∧ (i : Int) < (ls.length : Int) := by omega
      simp only [h1, cond_true, h2]
      rw [if_pos h3, if_pos h4, if_pos h3, if_pos h4, if_pos h4, if_pos h4, take_fold _ _ _ _ (by omega : i < ls.length), take_fold _ _ _ _ (by omega : i < ls.length)]
      rfl
    · rw [← hf]
      have h1 : decide ((xs.length : Int) < (xs.length : Int)) = false := decide_eq_false (by omega)
      have h5 : ls.take xs.length = ls := by rw [← he, List.take_length]
      simp only [h1, cond_false, h5]
      rfl
  rw [e]
  rfl
end

/-! The numbers are small. -/

theorem cnt_at {xs : List Int} (h : cntB xs = true) (i : Nat) : 0 ≤ xs.getD i 0 ∧ xs.getD i 0 ≤ 1000000 := by
  unfold cntB at h
  simp only [Bool.and_eq_true, Bool.not_eq_true', List.any_eq_false] at h
  rcases Nat.lt_or_ge i xs.length with hi | hi
  · have := h.1 (xs.getD i 0) (by rw [List.getD_eq_getElem?_getD, List.getElem?_eq_getElem hi]; exact List.getElem_mem hi)
    simp only [Bool.not_eq_true', Bool.not_eq_false] at this
    exact inB_iff.1 this
  · rw [List.getD_eq_getElem?_getD, List.getElem?_eq_none hi]; simp

theorem val_mem {ls : List Int} {n : Int} (h : valsB ls n = true) : ∀ x ∈ ls, -68719476736 ≤ x ∧ x ≤ 68719476736 := fun x hx => by
  unfold valsB at h
  simp only [Bool.and_eq_true, Bool.not_eq_true', List.any_eq_false] at h
  have := h.1 x hx
  simp only [farB, Bool.or_eq_true, decide_eq_true_eq, not_or, Int.not_lt] at this
  omega

theorem val_at {ls : List Int} {n : Int} (h : valsB ls n = true) (i : Nat) : -68719476736 ≤ ls.getD i 0 ∧ ls.getD i 0 ≤ 68719476736 := by
  rcases Nat.lt_or_ge i ls.length with hi | hi
  · rw [List.getD_eq_getElem?_getD, List.getElem?_eq_getElem hi]
    exact val_mem h _ (List.getElem_mem hi)
  · rw [List.getD_eq_getElem?_getD, List.getElem?_eq_none hi]; simp

theorem fold_in {g : Int → Int → Int} (hg : ∀ a b, g a b = a ∨ g a b = b) {lo hi : Int} : ∀ (l : List Int) (a : Int), (lo ≤ a ∧ a ≤ hi) → (∀ x ∈ l, lo ≤ x ∧ x ≤ hi) → lo ≤ l.foldl g a ∧ l.foldl g a ≤ hi
  | [], a, ha, _ => ha
  | x :: l, a, ha, h => by
    rw [List.foldl_cons]
    refine fold_in hg l _ ?_ fun y hy => h y (List.mem_cons_of_mem _ hy)
    rcases hg a x with e | e <;> rw [e]
    · exact ha
    · exact h x (by simp)

theorem mnL_in {ls : List Int} {n : Int} (h : valsB ls n = true) : -68719476736 ≤ mnL ls ∧ mnL ls ≤ 68719476736 :=
  fold_in (fun a b => by unfold mnG; split <;> simp) ls _ (val_at h 0) (val_mem h)
theorem mxL_in {ls : List Int} {n : Int} (h : valsB ls n = true) : -68719476736 ≤ mxL ls ∧ mxL ls ≤ 68719476736 :=
  fold_in (fun a b => by unfold mxG; split <;> simp) ls _ (val_at h 0) (val_mem h)

/-- The sum of products itself. -/
def dotE (xs ls : List Int) : Nat → Int
  | 0 => 0
  | i + 1 => dotE xs ls i + xs.getD i 0 * ls.getD i 0

theorem mul_in {x y : Int} {A B : Int} (h1 : 0 ≤ x ∧ x ≤ A) (h2 : -B ≤ y ∧ y ≤ B) : -(A * B) ≤ x * y ∧ x * y ≤ A * B := by
  have hB : 0 ≤ B := by omega
  have e1 : x * y ≤ x * B := Int.mul_le_mul_of_nonneg_left h2.2 h1.1
  have e2 : x * B ≤ A * B := Int.mul_le_mul_of_nonneg_right h1.2 hB
  have e3 : x * (-B) ≤ x * y := Int.mul_le_mul_of_nonneg_left h2.1 h1.1
  rw [Int.mul_neg] at e3
  omega

theorem dotE_in {xs ls : List Int} {n : Int} (h1 : cntB xs = true) (h2 : valsB ls n = true) : ∀ i : Nat, -((i : Int) * 68719476736000000) ≤ dotE xs ls i ∧ dotE xs ls i ≤ (i : Int) * 68719476736000000
  | 0 => by simp [dotE]
  | i + 1 => by
    have := dotE_in h1 h2 i
    have h3 := mul_in (cnt_at h1 i) (val_at h2 i)
    simp only [dotE]
    omega

theorem dotA_eq (xs ls : List Int) (a : Int) : ∀ i, dotA xs ls (IntKind.i64.wrap a) i = IntKind.i64.wrap (a + dotE xs ls i)
  | 0 => by simp [dotA, dotE]
  | i + 1 => by
    simp only [dotA, dotE]
    rw [dotA_eq xs ls a i, wadd, Int.add_assoc]

theorem den_in {xs : List Int} {m : Int} (h1 : cntB xs = true) (h2 : inB m 1 1000 = true) : 1 ≤ denC xs m ∧ denC xs m ≤ 49001000 := by
  have hl := cnt_len h1
  have key : ∀ (i : Nat), i ≤ xs.length → 0 ≤ sumW (xs.take i) ∧ sumW (xs.take i) ≤ (i : Int) * 1000000 := fun i => by
    induction i with
    | zero => intro _; simp [sumW]
    | succ i ih =>
      intro hi
      have := ih (by omega)
      have h3 := cnt_at h1 i
      rw [sumW_succ _ _ (by omega), i64_w _ (by omega)]
      omega
  have := key xs.length (Nat.le_refl _)
  rw [List.take_length] at this
  have hm := inB_iff.1 h2
  unfold denC
  rw [i64_w _ (by omega)]
  omega

theorem div_in {a b : Int} (hb : 1 ≤ b) (h : -4611686018427387904 ≤ a ∧ a ≤ 4611686018427387904) : -4611686018427387904 ≤ a / b ∧ a / b ≤ 4611686018427387904 := by
  constructor
  · refine (Int.le_ediv_iff_mul_le (by omega)).2 ?_
    have : -4611686018427387904 * b ≤ -4611686018427387904 := by omega
    omega
  · refine Int.ediv_le_of_le_mul (by omega) ?_
    have : 4611686018427387904 ≤ 4611686018427387904 * b := by omega
    omega

theorem dn_rnd {a b : Int} (hb : 1 ≤ b) (h : -4611686018427387904 ≤ a ∧ a ≤ 4611686018427387904) : dnQ a b = a / b := by
  have hd := div_in hb h
  have hm0 := Int.emod_nonneg a (show b ≠ 0 by omega)
  have hm1 := Int.emod_lt_of_pos a (show 0 < b by omega)
  unfold dnQ
  rw [Int.tdiv_eq_ediv, Int.tmod_eq_emod]
  by_cases hc : 0 ≤ a ∨ b ∣ a
  · rw [if_pos hc, if_pos hc]
    have : decide (a % b - ((0 : Nat) : Int) < 0) = false := decide_eq_false (by omega)
    rw [this, cond_false, i64_w _ (by omega)]
    omega
  · rw [if_neg hc, if_neg hc, Int.sign_eq_one_of_pos (by omega)]
    have : decide (a % b - (b.natAbs : Int) < 0) = true := decide_eq_true (by omega)
    rw [this, cond_true, i64_w (a / b + 1) (by omega), i64_w _ (by omega)]
    omega

theorem tot_in {xs ls : List Int} {m v n : Int} (h1 : cntB xs = true) (h2 : valsB ls n = true) (h3 : inB m 1 1000 = true) (hv : -68719476736 ≤ v ∧ v ≤ 68719476736) :
    -4611686018427387904 ≤ m * v + dotE xs ls xs.length ∧ m * v + dotE xs ls xs.length ≤ 4611686018427387904 := by
  have hl := cnt_len h1
  have hd := dotE_in h1 h2 xs.length
  have hm := inB_iff.1 h3
  have hp := mul_in (x := m) (y := v) (A := 1000) (B := 68719476736) (by omega) hv
  omega

theorem rnd1 (a b : Int) : rndQ 1 a b = a / b := rfl
theorem rnd2 (a b : Int) : rndQ 2 a b = -((-a) / b) := rfl

theorem smean_plain {α : Type} (xs ls : List Int) (m : Int) (N : Nat) (hN : xs.length < N) (k : AOut → Option α) :
    evFn real tab (twM.env real tab N 3) N Try.f14 α [.ro (.int .i64) xs, .ro (.int .i64) ls, .int .i64 m] k = bif meanB xs ls m then k (smean3 (rndQ 1 (totL xs ls m) (denC xs m)) (rndQ 2 (totH xs ls m) (denC xs m)) 0) else k (smean3 0 0 2) := by
  rw [smean_text]
  unfold meanB
  have hv : valsB ls xs.length = (!(ls.any farB) && ((ls.length : Int) == (xs.length : Int))) := rfl
  have ho : ls.any outB = ls.any farB := by
    have : outB = farB := funext out_far
    rw [this]
  rw [hv, ho]
  cases hc : cntB xs
  · rfl
  · cases he : (ls.length : Int) == (xs.length : Int)
    · have : ((ls.length : Int) != (xs.length : Int)) = true := by rw [bne, he]; rfl
      simp only [this, Bool.not_true, cond_false, cond_true, Bool.and_false, Bool.false_and]
    · have hne : ((ls.length : Int) != (xs.length : Int)) = false := by rw [bne, he]; rfl
      have hlen : ls.length = xs.length := by have := eq_of_beq he; omega
      cases hf : ls.any farB
      · cases hm : inB m 1 1000
        · simp only [hne, Bool.not_true, Bool.not_false, cond_false, cond_true, Bool.and_false]
        · have hcl := cnt_len hc
          have hvb : valsB ls xs.length = true := by rw [hv, hf, he]; rfl
          have hl1 : decide ((ls.length : Int) < 1) = false := decide_eq_false (by omega)
          have hpos : (0 : Int) ≤ 0 ∧ 0 < (ls.length : Int) := by omega
          have hml : ls.length ≤ maxLen := by have : maxLen = 9223372036854775807 := rfl; omega
          have hd := den_in hc hm
          have hden : IntKind.i64.wrap (sumW xs + m) = denC xs m := rfl
          have eL : totL xs ls m = m * mnL ls + dotE xs ls xs.length := by
            unfold totL
            rw [dotA_eq, i64_w _ (by have := tot_in hc hvb hm (mnL_in hvb); omega)]
          have eH : totH xs ls m = m * mxL ls + dotE xs ls xs.length := by
            unfold totH
            rw [dotA_eq, i64_w _ (by have := tot_in hc hvb hm (mxL_in hvb); omega)]
          have okL : shareOk 1 (totL xs ls m) (denC xs m) := ⟨.inl rfl, by omega, by omega, by rw [eL]; exact tot_in hc hvb hm (mnL_in hvb)⟩
          have okH : shareOk 2 (totH xs ls m) (denC xs m) := ⟨.inr rfl, by omega, by omega, by rw [eH]; exact tot_in hc hvb hm (mxL_in hvb)⟩
          simp only [hne, hl1, hden, Bool.not_true, Bool.not_false, cond_false, cond_true, Bool.and_self]
          rw [if_pos hpos, min_plain ls (by omega) hml (by omega), dot_plain xs ls _ hlen (by omega) hN]
          show (if shareOk 1 (totL xs ls m) (denC xs m) then _ else none) = _
          rw [if_pos okL, if_pos hpos, max_plain ls (by omega) hml (by omega), dot_plain xs ls _ hlen (by omega) hN]
          show (if shareOk 2 (totH xs ls m) (denC xs m) then _ else none) = _
          rw [if_pos okH]
          rfl
      · simp only [hne, Bool.not_true, Bool.not_false, cond_false, cond_true, Bool.false_and, Bool.and_false]

theorem rmean_plain {α : Type} (xs ls : List Int) (m : Int) (N : Nat) (hN : xs.length < N) (k : AOut → Option α) :
    evFn real tab (twM.env real tab N 3) N Try.f18 α [.ro (.int .i64) xs, .ro (.int .i64) ls, .int .i64 m] k = bif meanB xs ls m then k (rmean3 (rndQ 1 (totL xs ls m) (denC xs m)) (rndQ 2 (totH xs ls m) (denC xs m)) 0) else k (rmean3 0 0 2) := by
  rw [rmean_text]
  unfold meanB
  cases hc : cntB xs
  · rfl
  · cases hvb : valsB ls xs.length
    · rfl
    · cases hm : inB m 1 1000
      · rfl
      · have hcl := cnt_len hc
        have hlen : ls.length = xs.length := by
          have := hvb
          unfold valsB at this
          simp only [Bool.and_eq_true, beq_iff_eq] at this
          omega
        have hpos : (0 : Int) ≤ 0 ∧ 0 < (ls.length : Int) := by omega
        have hd := den_in hc hm
        have hden : IntKind.i64.wrap (sumW xs + m) = denC xs m := rfl
        have bL := tot_in hc hvb hm (mnL_in hvb)
        have bH := tot_in hc hvb hm (mxL_in hvb)
        have eL : totL xs ls m = m * mnL ls + dotE xs ls xs.length := by
          unfold totL
          rw [dotA_eq, i64_w _ (by omega)]
        have eH : totH xs ls m = m * mxL ls + dotE xs ls xs.length := by
          unfold totH
          rw [dotA_eq, i64_w _ (by omega)]
        have d0 : dotA xs ls 0 xs.length = IntKind.i64.wrap (0 + dotE xs ls xs.length) := dotA_eq xs ls 0 xs.length
        have l0 : IntKind.i64.wrap (dotA xs ls 0 xs.length + IntKind.i64.wrap (m * mnL ls)) = totL xs ls m := by
          rw [d0, wadd, eL, i64_w _ (by omega)]; omega
        have h0 : IntKind.i64.wrap (dotA xs ls 0 xs.length + IntKind.i64.wrap (m * mxL ls)) = totH xs ls m := by
          rw [d0, wadd, eH, i64_w _ (by omega)]; omega
        simp only [hden, Bool.not_true, cond_false, cond_true, Bool.and_self]
        rw [if_pos hpos, if_pos hpos, mm_plain xs ls hlen (by have : maxLen = 9223372036854775807 := rfl; omega) hN]
        have hz : ¬ denC xs m = 0 := by omega
        have hH := div_in (a := -(totH xs ls m)) hd.1 (by omega)
        rw [if_neg hz, if_neg hz, l0, h0, dn_rnd hd.1 (by omega), i64_w (0 - totH xs ls m) (by omega), dn_rnd hd.1 (by omega), rnd1, rnd2, show 0 - totH xs ls m = -(totH xs ls m) by omega, i64_w _ (by omega), Int.zero_sub]

theorem smean_fn : FnOk Try.prog 14 Try.f14 := ⟨Try.func14, smean_enter⟩
theorem rmean_fn : FnOk Try.prog 18 Try.f18 := ⟨Try.func18, rmean_enter⟩

theorem smean_ok : FspOk Try.prog 14 (toFsp smeanF) := tower_fsp mixed tabOk twM_ok smean_fn fun args out hs hF => by
  unfold smeanF at hF
  split at hF
  · rename_i xs ls m
    refine ⟨_, 3, (smean_plain xs ls m _ (Nat.lt_succ_self _) some).trans ?_⟩
    cases hb : meanB xs ls m
    all_goals
      rw [hb] at hF
      exact hF
  · cases hF
theorem rmean_ok : FspOk Try.prog 18 (toFsp rmeanF) := tower_fsp mixed tabOk twM_ok rmean_fn fun args out hs hF => by
  unfold rmeanF at hF
  split at hF
  · rename_i xs ls m
    refine ⟨_, 3, (rmean_plain xs ls m _ (Nat.lt_succ_self _) some).trans ?_⟩
    cases hb : meanB xs ls m
    all_goals
      rw [hb] at hF
      exact hF
  · cases hF
end Go.Proofs.Ytleceelemogbcaa

/- Better: the document's sums and the reference's say the same. -/
namespace Go.Proofs.Ytleceelemogbcaa
open Go.RowKit

def sm : List Int → Int
  | [] => 0
  | x :: l => x + sm l
def preS (xs : List Int) : Nat → Int
  | 0 => 0
  | i + 1 => preS xs i + xs.getD i 0

theorem cnt_mem {xs : List Int} (h : cntB xs = true) : ∀ x ∈ xs, 0 ≤ x ∧ x ≤ 1000000 := fun x hx => by
  unfold cntB at h
  simp only [Bool.and_eq_true, Bool.not_eq_true', List.any_eq_false] at h
  have := h.1 x hx
  simp only [Bool.not_eq_true', Bool.not_eq_false] at this
  exact inB_iff.1 this

theorem sumW_sm : ∀ (l : List Int) (a : Int), (∀ x ∈ l, 0 ≤ x ∧ x ≤ 1000000) → 0 ≤ a → a + (l.length : Int) * 1000000 ≤ 4611686018427387904 → l.foldl (fun a x => IntKind.i64.wrap (a + x)) a = a + sm l
  | [], a, _, _, _ => by simp [sm]
  | x :: l, a, h, h0, h1 => by
    have hx := h x (by simp)
    rw [List.length_cons] at h1
    rw [List.foldl_cons, i64_w _ (by omega), sumW_sm l _ (fun y hy => h y (List.mem_cons_of_mem _ hy)) (by omega) (by omega)]
    simp only [sm]; omega

theorem sumW_cnt {xs : List Int} (h : cntB xs = true) (i : Nat) : sumW (xs.drop i) = sm (xs.drop i) := by
  have hl := cnt_len h
  unfold sumW
  have hle : (xs.drop i).length ≤ xs.length := by simp
  rw [sumW_sm _ 0 (fun x hx => cnt_mem h x (List.mem_of_mem_drop hx)) (by omega) (by omega)]
  omega

theorem sm_drop (xs : List Int) : ∀ i, i ≤ xs.length → sm (xs.drop i) + preS xs i = sm xs
  | 0, _ => by simp [preS]
  | i + 1, h => by
    have ih := sm_drop xs i (by omega)
    have e : xs.drop i = xs.getD i 0 :: xs.drop (i + 1) := by
      rw [List.drop_eq_getElem_cons (by omega), List.getD_eq_getElem?_getD, List.getElem?_eq_getElem (by omega)]
      rfl
    rw [e] at ih
    simp only [sm, preS] at ih ⊢
    omega

theorem pre_in {xs : List Int} (h : cntB xs = true) : ∀ i : Nat, 0 ≤ preS xs i ∧ preS xs i ≤ (i : Int) * 1000000
  | 0 => by simp [preS]
  | i + 1 => by
    have := pre_in h i
    have := cnt_at h i
    simp only [preS]
    omega

theorem dif_pre {xs ys : List Int} (h1 : cntB xs = true) (h2 : cntB ys = true) : ∀ i : Nat, i ≤ 49 → difW xs ys i = preS ys i - preS xs i
  | 0, _ => by simp [difW, preS]
  | i + 1, hi => by
    have a1 := pre_in h1 i
    have a2 := pre_in h2 i
    have a3 := cnt_at h1 i
    have a4 := cnt_at h2 i
    simp only [difW, preS]
    rw [dif_pre h1 h2 i (by omega), i64_w (ys.getD i 0 - xs.getD i 0) (by omega), i64_w _ (by omega)]
    omega

theorem better_same {xs ys : List Int} (h : twoOk xs ys = true) : sbetB xs ys = rbetB xs ys := by
  unfold twoOk at h
  simp only [Bool.and_eq_true, Bool.not_eq_true', bne_eq_false_iff_eq] at h
  obtain ⟨h1, h2, h3⟩ := h
  have hl : xs.length = ys.length := by omega
  have hn := cnt_len h1
  have hT : ∀ (l : List Int), cntB l = true → l.length = xs.length → sumW l = preS l xs.length := fun l hc e => by
    have := sumW_cnt hc 0
    rw [List.drop_zero] at this
    have h4 := sm_drop l l.length (Nat.le_refl _)
    rw [List.drop_length] at h4
    simp only [sm] at h4
    rw [this, ← e]; omega
  have eT : sumW xs = preS xs xs.length := hT xs h1 rfl
  have eU : sumW ys = preS ys xs.length := hT ys h2 hl.symm
  have hs : ∀ i, i ≤ xs.length → sumW (xs.drop i) = sumW xs - preS xs i ∧ sumW (ys.drop i) = sumW ys - preS ys i := fun i hi => by
    have a1 := sm_drop xs i hi
    have a2 := sm_drop ys i (by omega)
    have b1 := sumW_cnt h1 0
    have b2 := sumW_cnt h2 0
    rw [List.drop_zero] at b1 b2
    rw [sumW_cnt h1, sumW_cnt h2, b1, b2]
    omega
  have hd : ∀ i, i ≤ xs.length → difW xs ys i = preS ys i - preS xs i := fun i hi => dif_pre h1 h2 i (by omega)
  unfold sbetB rbetB
  by_cases he : sumW xs = sumW ys
  · have e1 : (sumW xs != sumW ys) = false := by simp [he]
    have e2 : (difW xs ys xs.length == 0) = true := by
      rw [beq_iff_eq, hd _ (Nat.le_refl _)]; omega
    rw [e1, e2, cond_false, Bool.and_true]
    congr 1
    rw [Bool.eq_iff_iff, List.any_eq_true, List.any_eq_true]
    constructor
    · rintro ⟨i, hi, hlt⟩
      have hi := List.mem_range.1 hi
      have hlt := of_decide_eq_true hlt
      rw [hd (i + 1) (by omega)] at hlt
      have hne : i + 1 ≠ xs.length := fun e => by rw [e] at hlt; omega
      refine ⟨i + 1, List.mem_range.2 (by omega), decide_eq_true ?_⟩
      obtain ⟨a, b⟩ := hs (i + 1) (by omega)
      rw [a, b]; omega
    · rintro ⟨i, hi, hlt⟩
      have hi := List.mem_range.1 hi
      have hlt := of_decide_eq_true hlt
      obtain ⟨a, b⟩ := hs i (by omega)
      rw [a, b] at hlt
      cases i with
      | zero => simp only [preS] at hlt; omega
      | succ i =>
        refine ⟨i, List.mem_range.2 (by omega), decide_eq_true ?_⟩
        rw [hd (i + 1) (by omega)]; omega
  · have e1 : (sumW xs != sumW ys) = true := by simp [he]
    have e2 : (difW xs ys xs.length == 0) = false := by
      rw [beq_eq_false_iff_ne, hd _ (Nat.le_refl _)]; omega
    rw [e1, e2, cond_true, Bool.and_false]
end Go.Proofs.Ytleceelemogbcaa
