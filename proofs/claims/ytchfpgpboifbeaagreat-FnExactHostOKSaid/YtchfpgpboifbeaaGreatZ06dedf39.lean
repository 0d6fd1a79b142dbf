/- Several of our texts, one behind the other, without what this claim does not need: AcTab, AcLem. -/
import Derived.Test.YtchfpgpboifbeaaGreatZcd7e5835
import Derived.Test.YtchfpgpboifbeaaGreatProg
import Derived.KernelRfl
set_option linter.unusedVariables false
namespace Go.Proofs.YtchfpgpboifbeaaGreat.Ac
open Go.RowKit
def tbl : List (Nat × Lay) := [
  (2, .w (.int .i64) (.f (.v (.int .i64 0))) 8),
  (3, .w (.int .i64) (.f (.v (.int .i64 0))) 8),
  (4, .w .bool (.f (.v (.bool false))) 1),
  (5, .w (.int .u8) (.f (.v (.int .u8 0))) 1),
  (6, .w (.int .u8) (.f (.v (.int .u8 0))) 1),
  (7, .st 4 [.f (.v (.int .i64 0)), .f (.v (.int .i64 0)), .f (.v (.bool false)), .f (.v (.int .u8 0))] [(0, 1, false), (1, 1, false), (2, 1, false), (3, 1, false)] 24),
  (8, .st 4 [.f (.v (.int .i64 0)), .f (.v (.int .i64 0)), .f (.v (.bool false)), .f (.v (.int .u8 0))] [(0, 1, false), (1, 1, false), (2, 1, false), (3, 1, false)] 24),
  (9, .w .string (.f (.v (.string ⟨#[]⟩))) 16),
  (10, .w .string (.f (.v (.string ⟨#[]⟩))) 16),
  (11, .w .string (.f (.v (.string ⟨#[]⟩))) 16),
  (12, .w (.int .u64) (.f (.v (.int .u64 0))) 8),
  (13, .st 2 [.f (.v (.string ⟨#[]⟩)), .f (.v (.int .u64 0))] [(0, 1, false), (1, 1, false)] 24),
  (14, .st 2 [.f (.v (.string ⟨#[]⟩)), .f (.v (.int .u64 0))] [(0, 1, false), (1, 1, false)] 24),
  (15, .w (.pointer 288) (.f (.v (.pointer none))) 8),
  (16, .w (.pointer 291) (.f (.v (.pointer none))) 8),
  (17, .w (.pointer 300) (.f (.v (.pointer none))) 8),
  (18, .st 1 [.f (.v (.pointer none))] [(0, 1, false)] 8),
  (19, .st 1 [.f (.v (.pointer none))] [(0, 1, false)] 8),
  (21, .w (.int .i32) (.f (.v (.int .i32 0))) 4),
  (22, .w (.slice 100) (.nl) 24),
  (23, .w (.slice 171) (.nl) 24),
  (24, .st 3 [.f (.v (.int .i64 0)), .f (.v (.int .i64 0)), .nl] [(0, 1, false), (1, 1, false), (2, 1, false)] 40),
  (25, .st 3 [.f (.v (.int .i64 0)), .f (.v (.int .i64 0)), .nl] [(0, 1, false), (1, 1, false), (2, 1, false)] 40),
  (28, .w (.slice 111) (.nl) 24),
  (29, .w (.slice 175) (.nl) 24),
  (30, .st 3 [.f (.v (.int .i64 0)), .f (.v (.int .i64 0)), .nl] [(0, 1, false), (1, 1, false), (2, 1, false)] 40),
  (31, .st 3 [.f (.v (.int .i64 0)), .f (.v (.int .i64 0)), .nl] [(0, 1, false), (1, 1, false), (2, 1, false)] 40),
  (32, .w (.slice 92) (.nl) 24),
  (33, .w (.slice 71) (.nl) 24),
  (34, .st 2 [.nl, .nl] [(0, 1, false), (1, 1, false)] 48),
  (35, .st 2 [.nl, .nl] [(0, 1, false), (1, 1, false)] 48),
  (36, .w (.slice 154) (.nl) 24),
  (37, .st 11 [.nl, .f (.v (.int .i64 0)), .f (.v (.int .i64 0)), .nl, .f (.v (.int .i64 0)), .f (.v (.int .i64 0)), .f (.v (.int .i64 0)), .nl, .nl, .nl, .nl] [(0, 1, false), (1, 3, true), (4, 1, false), (5, 1, false), (6, 1, false), (7, 1, false), (8, 2, true), (10, 1, false)] 184),
  (38, .st 11 [.nl, .f (.v (.int .i64 0)), .f (.v (.int .i64 0)), .nl, .f (.v (.int .i64 0)), .f (.v (.int .i64 0)), .f (.v (.int .i64 0)), .nl, .nl, .nl, .nl] [(0, 1, false), (1, 3, true), (4, 1, false), (5, 1, false), (6, 1, false), (7, 1, false), (8, 2, true), (10, 1, false)] 184),
  (50, .w (.slice 68) (.nl) 24),
  (51, .st 2 [.nl, .nl] [(0, 1, false), (1, 1, false)] 48),
  (52, .st 2 [.nl, .nl] [(0, 1, false), (1, 1, false)] 48),
  (54, .w (.slice 3) (.nl) 24),
  (67, .st 3 [.f (.v (.int .i64 0)), .f (.v (.int .i64 0)), .f (.v (.int .i64 0))] [(0, 1, false), (1, 1, false), (2, 1, false)] 24),
  (68, .st 3 [.f (.v (.int .i64 0)), .f (.v (.int .i64 0)), .f (.v (.int .i64 0))] [(0, 1, false), (1, 1, false), (2, 1, false)] 24),
  (71, .st 3 [.f (.v (.int .i64 0)), .f (.v (.int .i64 0)), .f (.v (.int .i64 0))] [(0, 1, false), (1, 1, false), (2, 1, false)] 24),
  (74, .w (.slice 200) (.nl) 24),
  (75, .w (.slice 204) (.nl) 24),
  (76, .st 11 [.nl, .f (.v (.int .i64 0)), .f (.v (.int .i64 0)), .nl, .f (.v (.int .i64 0)), .f (.v (.int .i64 0)), .f (.v (.int .i64 0)), .nl, .nl, .nl, .nl] [(0, 1, false), (1, 3, true), (4, 1, false), (5, 1, false), (6, 1, false), (7, 1, false), (8, 2, true), (10, 1, false)] 184),
  (77, .st 11 [.nl, .f (.v (.int .i64 0)), .f (.v (.int .i64 0)), .nl, .f (.v (.int .i64 0)), .f (.v (.int .i64 0)), .f (.v (.int .i64 0)), .nl, .nl, .nl, .nl] [(0, 1, false), (1, 3, true), (4, 1, false), (5, 1, false), (6, 1, false), (7, 1, false), (8, 2, true), (10, 1, false)] 184),
  (91, .st 6 [.f (.v (.int .i64 0)), .f (.v (.int .i64 0)), .f (.v (.int .i64 0)), .f (.v (.int .i64 0)), .f (.v (.int .i64 0)), .nl] [(0, 1, false), (1, 1, false), (2, 1, false), (3, 3, true)] 64),
  (92, .st 6 [.f (.v (.int .i64 0)), .f (.v (.int .i64 0)), .f (.v (.int .i64 0)), .f (.v (.int .i64 0)), .f (.v (.int .i64 0)), .nl] [(0, 1, false), (1, 1, false), (2, 1, false), (3, 3, true)] 64),
  (98, .w (.slice 223) (.nl) 24),
  (99, .st 3 [.f (.v (.string ⟨#[]⟩)), .f (.v (.bool false)), .nl] [(0, 1, false), (1, 1, false), (2, 1, false)] 48),
  (100, .st 3 [.f (.v (.string ⟨#[]⟩)), .f (.v (.bool false)), .nl] [(0, 1, false), (1, 1, false), (2, 1, false)] 48),
  (109, .w (.slice 183) (.nl) 24),
  (110, .st 3 [.f (.v (.string ⟨#[]⟩)), .f (.v (.bool false)), .nl] [(0, 1, false), (1, 1, false), (2, 1, false)] 48),
  (111, .st 3 [.f (.v (.string ⟨#[]⟩)), .f (.v (.bool false)), .nl] [(0, 1, false), (1, 1, false), (2, 1, false)] 48),
  (115, .w (.pointer 31) (.f (.v (.pointer none))) 8),
  (135, .w (.pointer 35) (.f (.v (.pointer none))) 8),
  (153, .st 3 [.f (.v (.int .i64 0)), .f (.v (.int .i64 0)), .f (.v (.int .i64 0))] [(0, 1, false), (1, 1, false), (2, 1, false)] 24),
  (154, .st 3 [.f (.v (.int .i64 0)), .f (.v (.int .i64 0)), .f (.v (.int .i64 0))] [(0, 1, false), (1, 1, false), (2, 1, false)] 24),
  (166, .w (.pointer 92) (.f (.v (.pointer none))) 8),
  (170, .st 5 [.f (.v (.int .i64 0)), .f (.v (.int .i64 0)), .f (.v (.int .i64 0)), .f (.v (.string ⟨#[]⟩)), .nl] [(0, 1, false), (1, 1, false), (2, 1, false), (3, 1, false), (4, 1, false)] 64),
  (171, .st 5 [.f (.v (.int .i64 0)), .f (.v (.int .i64 0)), .f (.v (.int .i64 0)), .f (.v (.string ⟨#[]⟩)), .nl] [(0, 1, false), (1, 1, false), (2, 1, false), (3, 1, false), (4, 1, false)] 64),
  (175, .st 5 [.f (.v (.int .i64 0)), .f (.v (.int .i64 0)), .f (.v (.int .i64 0)), .f (.v (.string ⟨#[]⟩)), .nl] [(0, 1, false), (1, 1, false), (2, 1, false), (3, 1, false), (4, 1, false)] 64),
  (179, .w (.map 3 4) (.f (.v (.map none))) 8),
  (182, .st 2 [.nl, .f (.v (.int .i64 0))] [(0, 1, false), (1, 1, false)] 32),
  (183, .st 2 [.nl, .f (.v (.int .i64 0))] [(0, 1, false), (1, 1, false)] 32),
  (189, .w (.slice 5) (.nl) 24),
  (199, .st 6 [.f (.v (.int .i64 0)), .f (.v (.int .i64 0)), .f (.v (.int .i64 0)), .f (.v (.int .i64 0)), .f (.v (.int .i64 0)), .nl] [(0, 1, false), (1, 1, false), (2, 1, false), (3, 3, true)] 64),
  (200, .st 6 [.f (.v (.int .i64 0)), .f (.v (.int .i64 0)), .f (.v (.int .i64 0)), .f (.v (.int .i64 0)), .f (.v (.int .i64 0)), .nl] [(0, 1, false), (1, 1, false), (2, 1, false), (3, 3, true)] 64),
  (204, .st 3 [.f (.v (.int .i64 0)), .f (.v (.int .i64 0)), .f (.v (.int .i64 0))] [(0, 1, false), (1, 1, false), (2, 1, false)] 24),
  (205, .w (.pointer 38) (.f (.v (.pointer none))) 8),
  (212, .w (.slice 9) (.nl) 24),
  (218, .w (.pointer 175) (.f (.v (.pointer none))) 8),
  (223, .st 2 [.nl, .f (.v (.int .i64 0))] [(0, 1, false), (1, 1, false)] 32),
  (245, .w (.slice 33) (.nl) 24),
  (257, .w (.int .u64) (.f (.v (.int .u64 0))) 8),
  (267, .w (.int .i64) (.f (.v (.int .i64 0))) 8),
  (274, .w (.int .u32) (.f (.v (.int .u32 0))) 4),
  (276, .w (.int .u64) (.f (.v (.int .u64 0))) 8),
  (278, .w (.int .u64) (.f (.v (.int .u64 0))) 8),
  (282, .w (.pointer 3) (.f (.v (.pointer none))) 8),
  (284, .w (.pointer 278) (.f (.v (.pointer none))) 8),
  (287, .st 4 [.f (.v (.pointer none)), .f (.v (.pointer none)), .f (.v (.pointer none)), .f (.v (.string ⟨#[]⟩))] [(0, 1, false), (1, 1, false), (2, 1, false), (3, 1, false)] 40),
  (288, .st 4 [.f (.v (.pointer none)), .f (.v (.pointer none)), .f (.v (.pointer none)), .f (.v (.string ⟨#[]⟩))] [(0, 1, false), (1, 1, false), (2, 1, false), (3, 1, false)] 40),
  (293, .w (.int .u8) (.f (.v (.int .u8 0))) 1),
  (294, .w (.int .u8) (.f (.v (.int .u8 0))) 1),
  (296, .w (.pointer 5) (.f (.v (.pointer none))) 8),
  (297, .w (.int .i32) (.f (.v (.int .i32 0))) 4),
  (298, .w (.int .i32) (.f (.v (.int .i32 0))) 4),
  (299, .st 11 [.f (.v (.int .u64 0)), .f (.v (.int .u64 0)), .f (.v (.int .u32 0)), .f (.v (.int .u8 0)), .f (.v (.int .u8 0)), .f (.v (.int .u8 0)), .f (.v (.int .u8 0)), .f (.v (.nilFunc)), .f (.v (.pointer none)), .f (.v (.int .i32 0)), .f (.v (.int .i32 0))] [(0, 1, false), (1, 1, false), (2, 1, false), (3, 1, false), (4, 1, false), (5, 1, false), (6, 1, false), (7, 1, false), (8, 1, false), (9, 1, false), (10, 1, false)] 48),
  (300, .st 11 [.f (.v (.int .u64 0)), .f (.v (.int .u64 0)), .f (.v (.int .u32 0)), .f (.v (.int .u8 0)), .f (.v (.int .u8 0)), .f (.v (.int .u8 0)), .f (.v (.int .u8 0)), .f (.v (.nilFunc)), .f (.v (.pointer none)), .f (.v (.int .i32 0)), .f (.v (.int .i32 0))] [(0, 1, false), (1, 1, false), (2, 1, false), (3, 1, false), (4, 1, false), (5, 1, false), (6, 1, false), (7, 1, false), (8, 1, false), (9, 1, false), (10, 1, false)] 48)]
theorem tbl_ok : TabOK Tryz.prog (get tbl) := tabOK_of (
  ⟨⟨Tryz.underlying2, rfl, by kernel_rfl, by kernel_rfl, .int .i64 0, by kernel_rfl, rfl, rfl⟩,
  ⟨⟨Tryz.underlying3, rfl, by kernel_rfl, by kernel_rfl, .int .i64 0, by kernel_rfl, rfl, rfl⟩,
  ⟨⟨Tryz.underlying4, rfl, by kernel_rfl, by kernel_rfl, .bool false, by kernel_rfl, rfl, rfl⟩,
  ⟨⟨Tryz.underlying5, rfl, by kernel_rfl, by kernel_rfl, .int .u8 0, by kernel_rfl, rfl, rfl⟩,
  ⟨⟨Tryz.underlying6, rfl, by kernel_rfl, by kernel_rfl, .int .u8 0, by kernel_rfl, rfl, rfl⟩,
  ⟨⟨_, #[.int .i64 0, .int .i64 0, .bool false, .int .u8 0], Tryz.underlying7, by kernel_rfl, by kernel_rfl, by kernel_rfl, rfl, rfl, rfl, by kernel_rfl, rfl⟩,
  ⟨⟨_, #[.int .i64 0, .int .i64 0, .bool false, .int .u8 0], Tryz.underlying8, by kernel_rfl, by kernel_rfl, by kernel_rfl, rfl, rfl, rfl, by kernel_rfl, rfl⟩,
  ⟨⟨Tryz.underlying9, rfl, by kernel_rfl, by kernel_rfl, .string ⟨#[]⟩, by kernel_rfl, rfl, rfl⟩,
  ⟨⟨Tryz.underlying10, rfl, by kernel_rfl, by kernel_rfl, .string ⟨#[]⟩, by kernel_rfl, rfl, rfl⟩,
  ⟨⟨Tryz.underlying11, rfl, by kernel_rfl, by kernel_rfl, .string ⟨#[]⟩, by kernel_rfl, rfl, rfl⟩,
  ⟨⟨Tryz.underlying12, rfl, by kernel_rfl, by kernel_rfl, .int .u64 0, by kernel_rfl, rfl, rfl⟩,
  ⟨⟨_, #[.string ⟨#[]⟩, .int .u64 0], Tryz.underlying13, by kernel_rfl, by kernel_rfl, by kernel_rfl, rfl, rfl, rfl, by kernel_rfl, rfl⟩,
  ⟨⟨_, #[.string ⟨#[]⟩, .int .u64 0], Tryz.underlying14, by kernel_rfl, by kernel_rfl, by kernel_rfl, rfl, rfl, rfl, by kernel_rfl, rfl⟩,
  ⟨⟨Tryz.underlying15, rfl, by kernel_rfl, by kernel_rfl, .pointer none, by kernel_rfl, rfl, rfl⟩,
  ⟨⟨Tryz.underlying16, rfl, by kernel_rfl, by kernel_rfl, .pointer none, by kernel_rfl, rfl, rfl⟩,
  ⟨⟨Tryz.underlying17, rfl, by kernel_rfl, by kernel_rfl, .pointer none, by kernel_rfl, rfl, rfl⟩,
  ⟨⟨_, #[.pointer none], Tryz.underlying18, by kernel_rfl, by kernel_rfl, by kernel_rfl, rfl, rfl, rfl, by kernel_rfl, rfl⟩,
  ⟨⟨_, #[.pointer none], Tryz.underlying19, by kernel_rfl, by kernel_rfl, by kernel_rfl, rfl, rfl, rfl, by kernel_rfl, rfl⟩,
  ⟨⟨Tryz.underlying21, rfl, by kernel_rfl, by kernel_rfl, .int .i32 0, by kernel_rfl, rfl, rfl⟩,
  ⟨⟨Tryz.underlying22, rfl, by kernel_rfl, by kernel_rfl, .slice none 0 0, by kernel_rfl, rfl, rfl⟩,
  ⟨⟨Tryz.underlying23, rfl, by kernel_rfl, by kernel_rfl, .slice none 0 0, by kernel_rfl, rfl, rfl⟩,
  ⟨⟨_, #[.int .i64 0, .int .i64 0, .slice none 0 0], Tryz.underlying24, by kernel_rfl, by kernel_rfl, by kernel_rfl, rfl, rfl, rfl, by kernel_rfl, rfl⟩,
  ⟨⟨_, #[.int .i64 0, .int .i64 0, .slice none 0 0], Tryz.underlying25, by kernel_rfl, by kernel_rfl, by kernel_rfl, rfl, rfl, rfl, by kernel_rfl, rfl⟩,
  ⟨⟨Tryz.underlying28, rfl, by kernel_rfl, by kernel_rfl, .slice none 0 0, by kernel_rfl, rfl, rfl⟩,
  ⟨⟨Tryz.underlying29, rfl, by kernel_rfl, by kernel_rfl, .slice none 0 0, by kernel_rfl, rfl, rfl⟩,
  ⟨⟨_, #[.int .i64 0, .int .i64 0, .slice none 0 0], Tryz.underlying30, by kernel_rfl, by kernel_rfl, by kernel_rfl, rfl, rfl, rfl, by kernel_rfl, rfl⟩,
  ⟨⟨_, #[.int .i64 0, .int .i64 0, .slice none 0 0], Tryz.underlying31, by kernel_rfl, by kernel_rfl, by kernel_rfl, rfl, rfl, rfl, by kernel_rfl, rfl⟩,
  ⟨⟨Tryz.underlying32, rfl, by kernel_rfl, by kernel_rfl, .slice none 0 0, by kernel_rfl, rfl, rfl⟩,
  ⟨⟨Tryz.underlying33, rfl, by kernel_rfl, by kernel_rfl, .slice none 0 0, by kernel_rfl, rfl, rfl⟩,
  ⟨⟨_, #[.slice none 0 0, .slice none 0 0], Tryz.underlying34, by kernel_rfl, by kernel_rfl, by kernel_rfl, rfl, rfl, rfl, by kernel_rfl, rfl⟩,
  ⟨⟨_, #[.slice none 0 0, .slice none 0 0], Tryz.underlying35, by kernel_rfl, by kernel_rfl, by kernel_rfl, rfl, rfl, rfl, by kernel_rfl, rfl⟩,
  ⟨⟨Tryz.underlying36, rfl, by kernel_rfl, by kernel_rfl, .slice none 0 0, by kernel_rfl, rfl, rfl⟩,
  ⟨⟨_, #[.slice none 0 0, .int .i64 0, .int .i64 0, .slice none 0 0, .int .i64 0, .int .i64 0, .int .i64 0, .slice none 0 0, .slice none 0 0, .slice none 0 0, .slice none 0 0], Tryz.underlying37, by kernel_rfl, by kernel_rfl, by kernel_rfl, rfl, rfl, rfl, by kernel_rfl, rfl⟩,
  ⟨⟨_, #[.slice none 0 0, .int .i64 0, .int .i64 0, .slice none 0 0, .int .i64 0, .int .i64 0, .int .i64 0, .slice none 0 0, .slice none 0 0, .slice none 0 0, .slice none 0 0], Tryz.underlying38, by kernel_rfl, by kernel_rfl, by kernel_rfl, rfl, rfl, rfl, by kernel_rfl, rfl⟩,
  ⟨⟨Tryz.underlying50, rfl, by kernel_rfl, by kernel_rfl, .slice none 0 0, by kernel_rfl, rfl, rfl⟩,
  ⟨⟨_, #[.slice none 0 0, .slice none 0 0], Tryz.underlying51, by kernel_rfl, by kernel_rfl, by kernel_rfl, rfl, rfl, rfl, by kernel_rfl, rfl⟩,
  ⟨⟨_, #[.slice none 0 0, .slice none 0 0], Tryz.underlying52, by kernel_rfl, by kernel_rfl, by kernel_rfl, rfl, rfl, rfl, by kernel_rfl, rfl⟩,
  ⟨⟨Tryz.underlying54, rfl, by kernel_rfl, by kernel_rfl, .slice none 0 0, by kernel_rfl, rfl, rfl⟩,
  ⟨⟨_, #[.int .i64 0, .int .i64 0, .int .i64 0], Tryz.underlying67, by kernel_rfl, by kernel_rfl, by kernel_rfl, rfl, rfl, rfl, by kernel_rfl, rfl⟩,
  ⟨⟨_, #[.int .i64 0, .int .i64 0, .int .i64 0], Tryz.underlying68, by kernel_rfl, by kernel_rfl, by kernel_rfl, rfl, rfl, rfl, by kernel_rfl, rfl⟩,
  ⟨⟨_, #[.int .i64 0, .int .i64 0, .int .i64 0], Tryz.underlying71, by kernel_rfl, by kernel_rfl, by kernel_rfl, rfl, rfl, rfl, by kernel_rfl, rfl⟩,
  ⟨⟨Tryz.underlying74, rfl, by kernel_rfl, by kernel_rfl, .slice none 0 0, by kernel_rfl, rfl, rfl⟩,
  ⟨⟨Tryz.underlying75, rfl, by kernel_rfl, by kernel_rfl, .slice none 0 0, by kernel_rfl, rfl, rfl⟩,
  ⟨⟨_, #[.slice none 0 0, .int .i64 0, .int .i64 0, .slice none 0 0, .int .i64 0, .int .i64 0, .int .i64 0, .slice none 0 0, .slice none 0 0, .slice none 0 0, .slice none 0 0], Tryz.underlying76, by kernel_rfl, by kernel_rfl, by kernel_rfl, rfl, rfl, rfl, by kernel_rfl, rfl⟩,
  ⟨⟨_, #[.slice none 0 0, .int .i64 0, .int .i64 0, .slice none 0 0, .int .i64 0, .int .i64 0, .int .i64 0, .slice none 0 0, .slice none 0 0, .slice none 0 0, .slice none 0 0], Tryz.underlying77, by kernel_rfl, by kernel_rfl, by kernel_rfl, rfl, rfl, rfl, by kernel_rfl, rfl⟩,
  ⟨⟨_, #[.int .i64 0, .int .i64 0, .int .i64 0, .int .i64 0, .int .i64 0, .slice none 0 0], Tryz.underlying91, by kernel_rfl, by kernel_rfl, by kernel_rfl, rfl, rfl, rfl, by kernel_rfl, rfl⟩,
  ⟨⟨_, #[.int .i64 0, .int .i64 0, .int .i64 0, .int .i64 0, .int .i64 0, .slice none 0 0], Tryz.underlying92, by kernel_rfl, by kernel_rfl, by kernel_rfl, rfl, rfl, rfl, by kernel_rfl, rfl⟩,
  ⟨⟨Tryz.underlying98, rfl, by kernel_rfl, by kernel_rfl, .slice none 0 0, by kernel_rfl, rfl, rfl⟩,
  ⟨⟨_, #[.string ⟨#[]⟩, .bool false, .slice none 0 0], Tryz.underlying99, by kernel_rfl, by kernel_rfl, by kernel_rfl, rfl, rfl, rfl, by kernel_rfl, rfl⟩,
  ⟨⟨_, #[.string ⟨#[]⟩, .bool false, .slice none 0 0], Tryz.underlying100, by kernel_rfl, by kernel_rfl, by kernel_rfl, rfl, rfl, rfl, by kernel_rfl, rfl⟩,
  ⟨⟨Tryz.underlying109, rfl, by kernel_rfl, by kernel_rfl, .slice none 0 0, by kernel_rfl, rfl, rfl⟩,
  ⟨⟨_, #[.string ⟨#[]⟩, .bool false, .slice none 0 0], Tryz.underlying110, by kernel_rfl, by kernel_rfl, by kernel_rfl, rfl, rfl, rfl, by kernel_rfl, rfl⟩,
  ⟨⟨_, #[.string ⟨#[]⟩, .bool false, .slice none 0 0], Tryz.underlying111, by kernel_rfl, by kernel_rfl, by kernel_rfl, rfl, rfl, rfl, by kernel_rfl, rfl⟩,
  ⟨⟨Tryz.underlying115, rfl, by kernel_rfl, by kernel_rfl, .pointer none, by kernel_rfl, rfl, rfl⟩,
  ⟨⟨Tryz.underlying135, rfl, by kernel_rfl, by kernel_rfl, .pointer none, by kernel_rfl, rfl, rfl⟩,
  ⟨⟨_, #[.int .i64 0, .int .i64 0, .int .i64 0], Tryz.underlying153, by kernel_rfl, by kernel_rfl, by kernel_rfl, rfl, rfl, rfl, by kernel_rfl, rfl⟩,
  ⟨⟨_, #[.int .i64 0, .int .i64 0, .int .i64 0], Tryz.underlying154, by kernel_rfl, by kernel_rfl, by kernel_rfl, rfl, rfl, rfl, by kernel_rfl, rfl⟩,
  ⟨⟨Tryz.underlying166, rfl, by kernel_rfl, by kernel_rfl, .pointer none, by kernel_rfl, rfl, rfl⟩,
  ⟨⟨_, #[.int .i64 0, .int .i64 0, .int .i64 0, .string ⟨#[]⟩, .slice none 0 0], Tryz.underlying170, by kernel_rfl, by kernel_rfl, by kernel_rfl, rfl, rfl, rfl, by kernel_rfl, rfl⟩,
  ⟨⟨_, #[.int .i64 0, .int .i64 0, .int .i64 0, .string ⟨#[]⟩, .slice none 0 0], Tryz.underlying171, by kernel_rfl, by kernel_rfl, by kernel_rfl, rfl, rfl, rfl, by kernel_rfl, rfl⟩,
  ⟨⟨_, #[.int .i64 0, .int .i64 0, .int .i64 0, .string ⟨#[]⟩, .slice none 0 0], Tryz.underlying175, by kernel_rfl, by kernel_rfl, by kernel_rfl, rfl, rfl, rfl, by kernel_rfl, rfl⟩,
  ⟨⟨Tryz.underlying179, rfl, by kernel_rfl, by kernel_rfl, .map none, by kernel_rfl, rfl, rfl⟩,
  ⟨⟨_, #[.slice none 0 0, .int .i64 0], Tryz.underlying182, by kernel_rfl, by kernel_rfl, by kernel_rfl, rfl, rfl, rfl, by kernel_rfl, rfl⟩,
  ⟨⟨_, #[.slice none 0 0, .int .i64 0], Tryz.underlying183, by kernel_rfl, by kernel_rfl, by kernel_rfl, rfl, rfl, rfl, by kernel_rfl, rfl⟩,
  ⟨⟨Tryz.underlying189, rfl, by kernel_rfl, by kernel_rfl, .slice none 0 0, by kernel_rfl, rfl, rfl⟩,
  ⟨⟨_, #[.int .i64 0, .int .i64 0, .int .i64 0, .int .i64 0, .int .i64 0, .slice none 0 0], Tryz.underlying199, by kernel_rfl, by kernel_rfl, by kernel_rfl, rfl, rfl, rfl, by kernel_rfl, rfl⟩,
  ⟨⟨_, #[.int .i64 0, .int .i64 0, .int .i64 0, .int .i64 0, .int .i64 0, .slice none 0 0], Tryz.underlying200, by kernel_rfl, by kernel_rfl, by kernel_rfl, rfl, rfl, rfl, by kernel_rfl, rfl⟩,
  ⟨⟨_, #[.int .i64 0, .int .i64 0, .int .i64 0], Tryz.underlying204, by kernel_rfl, by kernel_rfl, by kernel_rfl, rfl, rfl, rfl, by kernel_rfl, rfl⟩,
  ⟨⟨Tryz.underlying205, rfl, by kernel_rfl, by kernel_rfl, .pointer none, by kernel_rfl, rfl, rfl⟩,
  ⟨⟨Tryz.underlying212, rfl, by kernel_rfl, by kernel_rfl, .slice none 0 0, by kernel_rfl, rfl, rfl⟩,
  ⟨⟨Tryz.underlying218, rfl, by kernel_rfl, by kernel_rfl, .pointer none, by kernel_rfl, rfl, rfl⟩,
  ⟨⟨_, #[.slice none 0 0, .int .i64 0], Tryz.underlying223, by kernel_rfl, by kernel_rfl, by kernel_rfl, rfl, rfl, rfl, by kernel_rfl, rfl⟩,
  ⟨⟨Tryz.underlying245, rfl, by kernel_rfl, by kernel_rfl, .slice none 0 0, by kernel_rfl, rfl, rfl⟩,
  ⟨⟨Tryz.underlying257, rfl, by kernel_rfl, by kernel_rfl, .int .u64 0, by kernel_rfl, rfl, rfl⟩,
  ⟨⟨Tryz.underlying267, rfl, by kernel_rfl, by kernel_rfl, .int .i64 0, by kernel_rfl, rfl, rfl⟩,
  ⟨⟨Tryz.underlying274, rfl, by kernel_rfl, by kernel_rfl, .int .u32 0, by kernel_rfl, rfl, rfl⟩,
  ⟨⟨Tryz.underlying276, rfl, by kernel_rfl, by kernel_rfl, .int .u64 0, by kernel_rfl, rfl, rfl⟩,
  ⟨⟨Tryz.underlying278, rfl, by kernel_rfl, by kernel_rfl, .int .u64 0, by kernel_rfl, rfl, rfl⟩,
  ⟨⟨Tryz.underlying282, rfl, by kernel_rfl, by kernel_rfl, .pointer none, by kernel_rfl, rfl, rfl⟩,
  ⟨⟨Tryz.underlying284, rfl, by kernel_rfl, by kernel_rfl, .pointer none, by kernel_rfl, rfl, rfl⟩,
  ⟨⟨_, #[.pointer none, .pointer none, .pointer none, .string ⟨#[]⟩], Tryz.underlying287, by kernel_rfl, by kernel_rfl, by kernel_rfl, rfl, rfl, rfl, by kernel_rfl, rfl⟩,
  ⟨⟨_, #[.pointer none, .pointer none, .pointer none, .string ⟨#[]⟩], Tryz.underlying288, by kernel_rfl, by kernel_rfl, by kernel_rfl, rfl, rfl, rfl, by kernel_rfl, rfl⟩,
  ⟨⟨Tryz.underlying293, rfl, by kernel_rfl, by kernel_rfl, .int .u8 0, by kernel_rfl, rfl, rfl⟩,
  ⟨⟨Tryz.underlying294, rfl, by kernel_rfl, by kernel_rfl, .int .u8 0, by kernel_rfl, rfl, rfl⟩,
  ⟨⟨Tryz.underlying296, rfl, by kernel_rfl, by kernel_rfl, .pointer none, by kernel_rfl, rfl, rfl⟩,
  ⟨⟨Tryz.underlying297, rfl, by kernel_rfl, by kernel_rfl, .int .i32 0, by kernel_rfl, rfl, rfl⟩,
  ⟨⟨Tryz.underlying298, rfl, by kernel_rfl, by kernel_rfl, .int .i32 0, by kernel_rfl, rfl, rfl⟩,
  ⟨⟨_, #[.int .u64 0, .int .u64 0, .int .u32 0, .int .u8 0, .int .u8 0, .int .u8 0, .int .u8 0, .nilFunc, .pointer none, .int .i32 0, .int .i32 0], Tryz.underlying299, by kernel_rfl, by kernel_rfl, by kernel_rfl, rfl, rfl, rfl, by kernel_rfl, rfl⟩,
  ⟨⟨_, #[.int .u64 0, .int .u64 0, .int .u32 0, .int .u8 0, .int .u8 0, .int .u8 0, .int .u8 0, .nilFunc, .pointer none, .int .i32 0, .int .i32 0], Tryz.underlying300, by kernel_rfl, by kernel_rfl, by kernel_rfl, rfl, rfl, rfl, by kernel_rfl, rfl⟩,
  trivial⟩⟩⟩⟩⟩⟩⟩⟩⟩⟩⟩⟩⟩⟩⟩⟩⟩⟩⟩⟩⟩⟩⟩⟩⟩⟩⟩⟩⟩⟩⟩⟩⟩⟩⟩⟩⟩⟩⟩⟩⟩⟩⟩⟩⟩⟩⟩⟩⟩⟩⟩⟩⟩⟩⟩⟩⟩⟩⟩⟩⟩⟩⟩⟩⟩⟩⟩⟩⟩⟩⟩⟩⟩⟩⟩⟩⟩⟩⟩⟩⟩⟩⟩⟩⟩⟩⟩⟩⟩)
theorem mixed : Tryz.prog.follows .mixedOrders = true := by kernel_rfl
end Go.Proofs.YtchfpgpboifbeaaGreat.Ac
set_option linter.unusedVariables false
set_option linter.unusedSimpArgs false
namespace Go.Proofs.YtchfpgpboifbeaaGreat.Ac
open Go.RowKit
def I64 (z : Int) : Prop := -2 ^ 63 ≤ z ∧ z < 2 ^ 63
structure Nd where
  id : Int
  kind : Int
  attr : Int
  text : ByteArray
  kids : List Int
structure Dc where
  root : Int
  next : Int
  nodes : List Nd
def ListIn {α : Type} (p : α → Prop) (l : List α) : Prop := l.length < 2 ^ 63 ∧ ∀ x ∈ l, p x
def NdIn (n : Nd) : Prop := I64 n.id ∧ I64 n.kind ∧ I64 n.attr ∧ n.text.size < 2 ^ 63 ∧ ListIn I64 n.kids
def DcIn (d : Dc) : Prop := I64 d.root ∧ I64 d.next ∧ ListIn NdIn d.nodes
theorem DcIn.len {d : Dc} (h : DcIn d) : d.nodes.length < 2 ^ 63 := h.2.2.1
theorem DcIn.txt {d : Dc} (h : DcIn d) : ∀ n ∈ d.nodes, n.text.size < 2 ^ 63 := fun n hn => (h.2.2.2 n hn).2.2.2.1
theorem DcIn.kid {d : Dc} (h : DcIn d) : ∀ n ∈ d.nodes, n.kids.length < 2 ^ 63 := fun n hn => (h.2.2.2 n hn).2.2.2.2.1
@[reducible] def iL (z : Int) : L := .v (.int .i64 z)
@[reducible] def bL (b : Bool) : L := .v (.bool b)
@[reducible] def sL (s : ByteArray) : L := .v (.string s)
@[reducible] def intE (z : Int) : List L := [iL z]
@[reducible] def txtE (s : ByteArray) : List L := [sL s]
@[reducible] def intW (z : Int) : List A := [.f (iL z)]
@[reducible] def txtW (s : ByteArray) : List A := [.f (sL s)]
def ints (l : List Int) : L := .sl 1 (l.map intE)
def txts (l : List ByteArray) : L := .sl 1 (l.map txtE)
def ndL (n : Nd) : List L := [iL n.id, iL n.kind, iL n.attr, sL n.text, ints n.kids]
def nds (l : List Nd) : L := .sl 5 (l.map ndL)
def dcL (d : Dc) : List L := [iL d.root, iL d.next, nds d.nodes]
def szL (s : Nat) (left : Int) : Int := if (s : Int) ≤ left then left - s else -1
def szN (n : Nd) : Nat := n.text.size + n.kids.length
def szNs (l : List Nd) : Nat := (l.map szN).sum
theorem szNs_cons (n : Nd) (l : List Nd) : szNs (n :: l) = szN n + szNs l := by simp [szNs]
def szD (d : Dc) : Nat := d.nodes.length + szNs d.nodes
theorem szN_le : ∀ {l : List Nd} {n : Nd}, n ∈ l → szN n ≤ szNs l
  | m :: l, n, h => by
    rw [szNs_cons]
    rcases List.mem_cons.1 h with rfl | h
    · omega
    · have := szN_le h; omega
def ndW (n : Nd) : List A := [.f (iL n.id), .f (iL n.kind), .f (iL n.attr), .f (sL n.text), .ow 1 (n.kids.map intW)]
theorem wrap_suc {i : Nat} (h : i < 2 ^ 62) : IntKind.i64.wrap ((i : Int) + 1) = ((i + 1 : Nat) : Int) := by
  rw [IntKind.wrap_i64]; omega
theorem wrap_id {z : Int} (h : -2 ^ 63 ≤ z ∧ z < 2 ^ 63) : IntKind.i64.wrap z = z := by
  rw [IntKind.wrap_i64]; omega
theorem cl_map {α : Type} {f : α → List A} (hf : ∀ x, clC (f x)) : ∀ l : List α, clR (l.map f)
  | [] => trivial
  | x :: l => ⟨hf x, cl_map hf l⟩
theorem cl_app : ∀ {l l' : List (List A)}, clR l → clR l' → clR (l ++ l')
  | [], _, _, h => h
  | _ :: _, _, h, h' => ⟨h.1, cl_app h.2 h'⟩
theorem cl_ints (l : List Int) : clR (l.map intW) := cl_map (f := intW) (fun _ => ⟨trivial, trivial⟩) l
theorem cl_txts (l : List ByteArray) : clR (l.map txtW) := cl_map (f := txtW) (fun _ => ⟨trivial, trivial⟩) l
theorem cl_nds (l : List Nd) : clR (l.map ndW) := cl_map (f := ndW) (fun n => ⟨trivial, trivial, trivial, trivial, cl_ints n.kids, trivial⟩) l
theorem pl_map {α : Type} {f : α → List A} (hf : ∀ x, plC (f x)) : ∀ l : List α, plR (l.map f)
  | [] => trivial
  | x :: l => ⟨hf x, pl_map hf l⟩
theorem pl_ints (l : List Int) : plR (l.map intW) := pl_map (f := intW) (fun _ => ⟨trivial, trivial⟩) l
theorem pl_txts (l : List ByteArray) : plR (l.map txtW) := pl_map (f := txtW) (fun _ => ⟨trivial, trivial⟩) l
theorem pl_nds (l : List Nd) : plR (l.map ndW) := pl_map (f := ndW) (fun n => ⟨trivial, trivial, trivial, trivial, pl_ints n.kids, trivial⟩) l
theorem frz_map {K : Nat → Ob → Prop} {α : Type} {f : α → List A} {f' : α → List L} (hl : ∀ x, (f x).length = (f' x).length) (hf : ∀ x (j : Nat) a b, (f x)[j]? = some a → (f' x)[j]? = some b → Frz K a b) (l : List α) : FrzR K (l.map f) (l.map f') := by
  refine ⟨by simp, fun i e l' he hl' => ?_, fun i e l' j a b he hl' => ?_⟩ <;> rw [List.getElem?_map] at he hl' <;> cases hq : l[i]? with
  | none => rw [hq] at he; cases he
  | some x =>
    rw [hq] at he hl'
    cases he; cases hl'
    first | exact hl x | exact hf x j a b
theorem frz_ints {K : Nat → Ob → Prop} (l : List Int) : FrzR K (l.map intW) (l.map intE) := frz_map (f := intW) (f' := intE) (fun _ => rfl) (fun x j a b h1 h2 => by
  cases j with
  | zero => cases h1; cases h2; exact .f _
  | succ j => simp at h1) l
theorem frz_txts {K : Nat → Ob → Prop} (l : List ByteArray) : FrzR K (l.map txtW) (l.map txtE) := frz_map (f := txtW) (f' := txtE) (fun _ => rfl) (fun x j a b h1 h2 => by
  cases j with
  | zero => cases h1; cases h2; exact .f _
  | succ j => simp at h1) l
theorem frz_ow {K : Nat → Ob → Prop} {wd : Nat} {es : List (List A)} {ls : List (List L)} (h : FrzR K es ls) : Frz K (.ow wd es) (.sl wd ls) := .ow wd es ls h.1 h.2.1 h.2.2
theorem frz_nds {K : Nat → Ob → Prop} (l : List Nd) : FrzR K (l.map ndW) (l.map ndL) := frz_map (f := ndW) (f' := ndL) (fun _ => rfl) (fun x j a b h1 h2 => by
  match j with
  | 0 => cases h1; cases h2; exact .f _
  | 1 => cases h1; cases h2; exact .f _
  | 2 => cases h1; cases h2; exact .f _
  | 3 => cases h1; cases h2; exact .f _
  | 4 => cases h1; cases h2; exact frz_ow (frz_ints _)
  | j + 5 => simp [ndW] at h1) l
theorem tl_int {fz : Bool} {r : List (Nat × Nat)} {g : Hp} {hs' : Hs} {k : IntKind} {a b : Int} (h : a = b) : tlA fz r g hs' (.f (.v (.int k a))) (.f (.v (.int k b))) := congrArg (fun z => L.v (.int k z)) h
theorem tl_bool {fz : Bool} {r : List (Nat × Nat)} {g : Hp} {hs' : Hs} {a b : Bool} (h : a = b) : tlA fz r g hs' (.f (.v (.bool a))) (.f (.v (.bool b))) := congrArg (fun z => L.v (.bool z)) h
theorem tl_str {fz : Bool} {r : List (Nat × Nat)} {g : Hp} {hs' : Hs} {a b : ByteArray} (h : a = b) : tlA fz r g hs' (.f (.v (.string a))) (.f (.v (.string b))) := congrArg (fun z => L.v (.string z)) h
theorem tl_f {fz : Bool} {r : List (Nat × Nat)} {g : Hp} {hs' : Hs} {a b : L} (h : a = b) : tlA fz r g hs' (.f a) (.f b) := h
theorem tl_row {fz : Bool} {r : List (Nat × Nat)} {g : Hp} {hs' : Hs} {n m lo hi hi' : Nat} (hn : rn r m = n) (h : hi = hi') : tlA fz r g hs' (.row n lo hi) (.row m lo hi') := by
  subst hn; subst h; rfl
theorem app_row {α : Type} (f : α → List A) (l m : List α) : (l.map f).take l.length ++ m.map f = (l ++ m).map f := by
  rw [List.take_of_length_le (by simp), List.map_append]
theorem app_one {α : Type} (f : α → List A) (l : List α) (x : α) : (l.map f).take l.length ++ [f x] = (l ++ [x]).map f := app_row f l [x]
theorem b_true {p : Prop} [Decidable p] (h : p) : true = decide p := (decide_eq_true h).symm
theorem b_false {p : Prop} [Decidable p] (h : ¬ p) : false = decide p := (decide_eq_false h).symm
theorem frzC_map {K : Nat → Ob → Prop} : ∀ x : List L, frzC K (x.map .f) x
  | [] => trivial
  | y :: x => ⟨.f y, frzC_map x⟩
section
variable {r : List (Nat × Nat)} {g : Hp} {hs' : Hs}
theorem tl_pt {n fl wd off : Nat} {e : List A} {x : List L} (hn : g n = some (some ⟨fl, wd, [e]⟩)) (h4 : Nat.beq fl 4 = false) (hk : kept r hs' n = false) (hx : x ≠ []) (hf : frzC (gone r g hs') (e.drop off) x) : tlA true r g hs' (.pt n 0 off) (.f (.pv x)) := by
  show FrzP r g hs' n 0 off x
  unfold FrzP
  rw [hn]
  exact ⟨hx, h4, ⟨e, rfl, hf⟩, hk⟩
theorem tl_pv {n fl wd : Nat} {x : List L} (hn : g n = some (some ⟨fl, wd, [x.map .f]⟩)) (h4 : Nat.beq fl 4 = false) (hk : kept r hs' n = false) (hx : x ≠ []) : tlA true r g hs' (.pt n 0 0) (.f (.pv x)) := tl_pt hn h4 hk hx (frzC_map x)
theorem tl_fz {n fl wd lo hi : Nat} {es : List (List A)} {ls : List (List L)} (hn : g n = some (some ⟨fl, wd, es⟩)) (h4 : Nat.beq fl 4 = false) (hk : kept r hs' n = false) (hf : FrzR (gone r g hs') ((es.take hi).drop lo) ls) : tlA true r g hs' (.row n lo hi) (.f (.sl wd ls)) := by
  show FrzN r g hs' n lo hi wd ls
  unfold FrzN
  rw [hn]
  exact ⟨rfl, h4, hf, hk⟩
theorem take_all {α : Type} {l : List α} {n : Nat} (h : n = l.length) : (l.take n).drop 0 = l := by rw [h, List.take_length, List.drop_zero]
theorem tl_ints {n fl hi : Nat} {l : List Int} (hn : g n = some (some ⟨fl, 1, l.map intW⟩)) (h4 : Nat.beq fl 4 = false) (hk : kept r hs' n = false) (hi' : hi = l.length) : tlA true r g hs' (.row n 0 hi) (.f (ints l)) :=
  tl_fz hn h4 hk (by rw [take_all (by simpa using hi')]; exact frz_ints l)
theorem tl_txts {n fl hi : Nat} {l : List ByteArray} (hn : g n = some (some ⟨fl, 1, l.map txtW⟩)) (h4 : Nat.beq fl 4 = false) (hk : kept r hs' n = false) (hi' : hi = l.length) : tlA true r g hs' (.row n 0 hi) (.f (txts l)) :=
  tl_fz hn h4 hk (by rw [take_all (by simpa using hi')]; exact frz_txts l)
theorem tl_nds {n fl hi : Nat} {l : List Nd} (hn : g n = some (some ⟨fl, 5, l.map ndW⟩)) (h4 : Nat.beq fl 4 = false) (hk : kept r hs' n = false) (hi' : hi = l.length) : tlA true r g hs' (.row n 0 hi) (.f (nds l)) :=
  tl_fz hn h4 hk (by rw [take_all (by simpa using hi')]; exact frz_nds l)
end
end Go.Proofs.YtchfpgpboifbeaaGreat.Ac
