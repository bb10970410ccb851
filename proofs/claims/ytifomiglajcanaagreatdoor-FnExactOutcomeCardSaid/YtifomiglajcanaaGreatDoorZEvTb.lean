/- The types of the program as the evaluator takes them. -/
import Derived.Test.YtifomiglajcanaaGreatDoorProg
import Derived.Test.YtifomiglajcanaaGreatDoorEvTy
import Derived.KernelRfl
set_option linter.unusedSimpArgs false
set_option linter.unusedVariables false
namespace Go.Proofs.YtifomiglajcanaaGreatDoorE
open Go.Ev
def tb : Tb := fun t => match t with
  | 2 => some ⟨1, 8, .sc, [.d (.p (.int .i64 0))]⟩
  | 3 => some ⟨1, 8, .sc, [.d (.p (.int .i64 0))]⟩
  | 4 => some ⟨1, 1, .sc, [.d (.p (.bool false))]⟩
  | 5 => some ⟨1, 1, .sc, [.d (.p (.int .u8 0))]⟩
  | 6 => some ⟨1, 1, .sc, [.d (.p (.int .u8 0))]⟩
  | 7 => some ⟨4, 24, .st [(0, 2), (1, 3), (2, 4), (3, 6)], [.d (.p (.int .i64 0)), .d (.p (.int .i64 0)), .d (.p (.bool false)), .d (.p (.int .u8 0))]⟩
  | 8 => some ⟨4, 24, .st [(0, 2), (1, 3), (2, 4), (3, 6)], [.d (.p (.int .i64 0)), .d (.p (.int .i64 0)), .d (.p (.bool false)), .d (.p (.int .u8 0))]⟩
  | 9 => some ⟨1, 16, .sc, [.d (.p (.string ⟨#[]⟩))]⟩
  | 10 => some ⟨1, 16, .sc, [.d (.p (.string ⟨#[]⟩))]⟩
  | 11 => some ⟨1, 16, .sc, [.d (.p (.string ⟨#[]⟩))]⟩
  | 12 => some ⟨1, 8, .sc, [.d (.p (.int .u64 0))]⟩
  | 13 => some ⟨2, 24, .st [(0, 9), (1, 12)], [.d (.p (.string ⟨#[]⟩)), .d (.p (.int .u64 0))]⟩
  | 14 => some ⟨2, 24, .st [(0, 9), (1, 12)], [.d (.p (.string ⟨#[]⟩)), .d (.p (.int .u64 0))]⟩
  | 15 => some ⟨1, 8, .pt 222, [.d (.p (.pointer none))]⟩
  | 16 => some ⟨1, 8, .pt 225, [.d (.p (.pointer none))]⟩
  | 17 => some ⟨1, 8, .pt 234, [.d (.p (.pointer none))]⟩
  | 18 => some ⟨1, 8, .st [(0, 17)], [.d (.p (.pointer none))]⟩
  | 19 => some ⟨1, 8, .st [(0, 17)], [.d (.p (.pointer none))]⟩
  | 21 => some ⟨1, 4, .sc, [.d (.p (.int .i32 0))]⟩
  | 22 => some ⟨1, 24, .sl 45, [.nl true 7]⟩
  | 25 => some ⟨1, 24, .sl 47, [.nl true 7]⟩
  | 29 => some ⟨1, 24, .sl 82, [.nl true 3]⟩
  | 30 => some ⟨5, 64, .st [(0, 3), (1, 9), (2, 3), (3, 3), (4, 29)], [.d (.p (.int .i64 0)), .d (.p (.string ⟨#[]⟩)), .d (.p (.int .i64 0)), .d (.p (.int .i64 0)), .nl true 3]⟩
  | 31 => some ⟨5, 64, .st [(0, 3), (1, 9), (2, 3), (3, 3), (4, 29)], [.d (.p (.int .i64 0)), .d (.p (.string ⟨#[]⟩)), .d (.p (.int .i64 0)), .d (.p (.int .i64 0)), .nl true 3]⟩
  | 36 => some ⟨1, 24, .sl 5, [.nl true 1]⟩
  | 44 => some ⟨7, 72, .st [(0, 3), (1, 3), (2, 3), (3, 3), (4, 3), (5, 9), (6, 9)], [.d (.p (.int .i64 0)), .d (.p (.int .i64 0)), .d (.p (.int .i64 0)), .d (.p (.int .i64 0)), .d (.p (.int .i64 0)), .d (.p (.string ⟨#[]⟩)), .d (.p (.string ⟨#[]⟩))]⟩
  | 45 => some ⟨7, 72, .st [(0, 3), (1, 3), (2, 3), (3, 3), (4, 3), (5, 9), (6, 9)], [.d (.p (.int .i64 0)), .d (.p (.int .i64 0)), .d (.p (.int .i64 0)), .d (.p (.int .i64 0)), .d (.p (.int .i64 0)), .d (.p (.string ⟨#[]⟩)), .d (.p (.string ⟨#[]⟩))]⟩
  | 47 => some ⟨7, 72, .st [(0, 3), (1, 3), (2, 3), (3, 3), (4, 3), (5, 9), (6, 9)], [.d (.p (.int .i64 0)), .d (.p (.int .i64 0)), .d (.p (.int .i64 0)), .d (.p (.int .i64 0)), .d (.p (.int .i64 0)), .d (.p (.string ⟨#[]⟩)), .d (.p (.string ⟨#[]⟩))]⟩
  | 51 => some ⟨2, 16, .st [(0, 3), (1, 3)], [.d (.p (.int .i64 0)), .d (.p (.int .i64 0))]⟩
  | 52 => some ⟨2, 16, .st [(0, 3), (1, 3)], [.d (.p (.int .i64 0)), .d (.p (.int .i64 0))]⟩
  | 53 => some ⟨1, 24, .sl 98, [.nl true 5]⟩
  | 54 => some ⟨1, 24, .sl 95, [.nl true 5]⟩
  | 55 => some ⟨1, 24, .sl 128, [.nl true 2]⟩
  | 56 => some ⟨1, 24, .sl 102, [.nl true 4]⟩
  | 57 => some ⟨1, 24, .sl 52, [.nl true 2]⟩
  | 58 => some ⟨4, 96, .st [(0, 54), (1, 55), (2, 56), (3, 57)], [.nl true 5, .nl true 2, .nl true 4, .nl true 2]⟩
  | 59 => some ⟨4, 96, .st [(0, 54), (1, 55), (2, 56), (3, 57)], [.nl true 5, .nl true 2, .nl true 4, .nl true 2]⟩
  | 60 => some ⟨12, 192, .st [(0, 3), (1, 3), (2, 3), (3, 52), (5, 53), (6, 59), (10, 29), (11, 4)], [.d (.p (.int .i64 0)), .d (.p (.int .i64 0)), .d (.p (.int .i64 0)), .d (.p (.int .i64 0)), .d (.p (.int .i64 0)), .nl true 5, .nl true 5, .nl true 2, .nl true 4, .nl true 2, .nl true 3, .d (.p (.bool false))]⟩
  | 61 => some ⟨12, 192, .st [(0, 3), (1, 3), (2, 3), (3, 52), (5, 53), (6, 59), (10, 29), (11, 4)], [.d (.p (.int .i64 0)), .d (.p (.int .i64 0)), .d (.p (.int .i64 0)), .d (.p (.int .i64 0)), .d (.p (.int .i64 0)), .nl true 5, .nl true 5, .nl true 2, .nl true 4, .nl true 2, .nl true 3, .d (.p (.bool false))]⟩
  | 63 => some ⟨1, 8, .pt 61, [.d (.p (.pointer none))]⟩
  | 65 => some ⟨1, 8, .pt 70, [.d (.p (.pointer none))]⟩
  | 66 => some ⟨1, 24, .sl 89, [.nl true 2]⟩
  | 68 => some ⟨1, 24, .sl 107, [.nl true 5]⟩
  | 69 => some ⟨14, 240, .st [(0, 59), (4, 25), (5, 66), (6, 3), (7, 3), (8, 3), (9, 52), (11, 68), (12, 29), (13, 4)], [.nl true 5, .nl true 2, .nl true 4, .nl true 2, .nl true 7, .nl true 2, .d (.p (.int .i64 0)), .d (.p (.int .i64 0)), .d (.p (.int .i64 0)), .d (.p (.int .i64 0)), .d (.p (.int .i64 0)), .nl true 5, .nl true 3, .d (.p (.bool false))]⟩
  | 70 => some ⟨14, 240, .st [(0, 59), (4, 25), (5, 66), (6, 3), (7, 3), (8, 3), (9, 52), (11, 68), (12, 29), (13, 4)], [.nl true 5, .nl true 2, .nl true 4, .nl true 2, .nl true 7, .nl true 2, .d (.p (.int .i64 0)), .d (.p (.int .i64 0)), .d (.p (.int .i64 0)), .d (.p (.int .i64 0)), .d (.p (.int .i64 0)), .nl true 5, .nl true 3, .d (.p (.bool false))]⟩
  | 74 => some ⟨1, 8, .pt 114, [.d (.p (.pointer none))]⟩
  | 78 => some ⟨1, 24, .sl 3, [.nl true 1]⟩
  | 79 => some ⟨1, 24, .sl 9, [.nl true 1]⟩
  | 81 => some ⟨3, 24, .st [(0, 3), (1, 3), (2, 3)], [.d (.p (.int .i64 0)), .d (.p (.int .i64 0)), .d (.p (.int .i64 0))]⟩
  | 82 => some ⟨3, 24, .st [(0, 3), (1, 3), (2, 3)], [.d (.p (.int .i64 0)), .d (.p (.int .i64 0)), .d (.p (.int .i64 0))]⟩
  | 88 => some ⟨2, 16, .st [(0, 3), (1, 3)], [.d (.p (.int .i64 0)), .d (.p (.int .i64 0))]⟩
  | 89 => some ⟨2, 16, .st [(0, 3), (1, 3)], [.d (.p (.int .i64 0)), .d (.p (.int .i64 0))]⟩
  | 94 => some ⟨5, 40, .st [(0, 3), (1, 3), (2, 52), (4, 3)], [.d (.p (.int .i64 0)), .d (.p (.int .i64 0)), .d (.p (.int .i64 0)), .d (.p (.int .i64 0)), .d (.p (.int .i64 0))]⟩
  | 95 => some ⟨5, 40, .st [(0, 3), (1, 3), (2, 52), (4, 3)], [.d (.p (.int .i64 0)), .d (.p (.int .i64 0)), .d (.p (.int .i64 0)), .d (.p (.int .i64 0)), .d (.p (.int .i64 0))]⟩
  | 97 => some ⟨5, 40, .st [(0, 3), (1, 3), (2, 52), (4, 3)], [.d (.p (.int .i64 0)), .d (.p (.int .i64 0)), .d (.p (.int .i64 0)), .d (.p (.int .i64 0)), .d (.p (.int .i64 0))]⟩
  | 98 => some ⟨5, 40, .st [(0, 3), (1, 3), (2, 52), (4, 3)], [.d (.p (.int .i64 0)), .d (.p (.int .i64 0)), .d (.p (.int .i64 0)), .d (.p (.int .i64 0)), .d (.p (.int .i64 0))]⟩
  | 101 => some ⟨4, 32, .st [(0, 52), (2, 52)], [.d (.p (.int .i64 0)), .d (.p (.int .i64 0)), .d (.p (.int .i64 0)), .d (.p (.int .i64 0))]⟩
  | 102 => some ⟨4, 32, .st [(0, 52), (2, 52)], [.d (.p (.int .i64 0)), .d (.p (.int .i64 0)), .d (.p (.int .i64 0)), .d (.p (.int .i64 0))]⟩
  | 105 => some ⟨1, 8, .pt 59, [.d (.p (.pointer none))]⟩
  | 106 => some ⟨5, 40, .st [(0, 3), (1, 3), (2, 3), (3, 52)], [.d (.p (.int .i64 0)), .d (.p (.int .i64 0)), .d (.p (.int .i64 0)), .d (.p (.int .i64 0)), .d (.p (.int .i64 0))]⟩
  | 107 => some ⟨5, 40, .st [(0, 3), (1, 3), (2, 3), (3, 52)], [.d (.p (.int .i64 0)), .d (.p (.int .i64 0)), .d (.p (.int .i64 0)), .d (.p (.int .i64 0)), .d (.p (.int .i64 0))]⟩
  | 113 => some ⟨3, 40, .st [(0, 36), (1, 3), (2, 3)], [.nl true 1, .d (.p (.int .i64 0)), .d (.p (.int .i64 0))]⟩
  | 114 => some ⟨3, 40, .st [(0, 36), (1, 3), (2, 3)], [.nl true 1, .d (.p (.int .i64 0)), .d (.p (.int .i64 0))]⟩
  | 127 => some ⟨2, 16, .st [(0, 3), (1, 3)], [.d (.p (.int .i64 0)), .d (.p (.int .i64 0))]⟩
  | 128 => some ⟨2, 16, .st [(0, 3), (1, 3)], [.d (.p (.int .i64 0)), .d (.p (.int .i64 0))]⟩
  | 139 => some ⟨1, 24, .sl 148, [.nl true 4]⟩
  | 142 => some ⟨5, 56, .st [(0, 139), (1, 3), (2, 3), (3, 3), (4, 3)], [.nl true 4, .d (.p (.int .i64 0)), .d (.p (.int .i64 0)), .d (.p (.int .i64 0)), .d (.p (.int .i64 0))]⟩
  | 143 => some ⟨5, 56, .st [(0, 139), (1, 3), (2, 3), (3, 3), (4, 3)], [.nl true 4, .d (.p (.int .i64 0)), .d (.p (.int .i64 0)), .d (.p (.int .i64 0)), .d (.p (.int .i64 0))]⟩
  | 147 => some ⟨4, 40, .st [(0, 3), (1, 9), (2, 3), (3, 3)], [.d (.p (.int .i64 0)), .d (.p (.string ⟨#[]⟩)), .d (.p (.int .i64 0)), .d (.p (.int .i64 0))]⟩
  | 148 => some ⟨4, 40, .st [(0, 3), (1, 9), (2, 3), (3, 3)], [.d (.p (.int .i64 0)), .d (.p (.string ⟨#[]⟩)), .d (.p (.int .i64 0)), .d (.p (.int .i64 0))]⟩
  | 150 => some ⟨1, 24, .sl 25, [.nl false 1]⟩
  | 161 => some ⟨1, 8, .sc, [.d (.p (.int .u64 0))]⟩
  | 181 => some ⟨1, 8, .sc, [.d (.p (.int .u64 0))]⟩
  | 191 => some ⟨1, 4, .sc, [.d (.p (.int .u32 0))]⟩
  | 195 => some ⟨2, 2, .st [(0, 5), (1, 5)], [.d (.p (.int .u8 0)), .d (.p (.int .u8 0))]⟩
  | 196 => some ⟨2, 2, .st [(0, 5), (1, 5)], [.d (.p (.int .u8 0)), .d (.p (.int .u8 0))]⟩
  | 201 => some ⟨1, 8, .sc, [.d (.p (.int .i64 0))]⟩
  | 209 => some ⟨1, 8, .sc, [.d (.p (.int .u64 0))]⟩
  | 213 => some ⟨1, 8, .pt 3, [.d (.p (.pointer none))]⟩
  | 217 => some ⟨1, 8, .pt 209, [.d (.p (.pointer none))]⟩
  | 221 => some ⟨4, 40, .st [(0, 17), (1, 17), (2, 17), (3, 9)], [.d (.p (.pointer none)), .d (.p (.pointer none)), .d (.p (.pointer none)), .d (.p (.string ⟨#[]⟩))]⟩
  | 222 => some ⟨4, 40, .st [(0, 17), (1, 17), (2, 17), (3, 9)], [.d (.p (.pointer none)), .d (.p (.pointer none)), .d (.p (.pointer none)), .d (.p (.string ⟨#[]⟩))]⟩
  | 227 => some ⟨1, 1, .sc, [.d (.p (.int .u8 0))]⟩
  | 228 => some ⟨1, 1, .sc, [.d (.p (.int .u8 0))]⟩
  | 230 => some ⟨1, 8, .pt 5, [.d (.p (.pointer none))]⟩
  | 231 => some ⟨1, 4, .sc, [.d (.p (.int .i32 0))]⟩
  | 232 => some ⟨1, 4, .sc, [.d (.p (.int .i32 0))]⟩
  | _ => none
theorem ty2 : TIok Tryz.prog tb 2 ⟨1, 8, .sc, [.d (.p (.int .i64 0))]⟩ := tiB_ok (by kernel_rfl)
theorem ty3 : TIok Tryz.prog tb 3 ⟨1, 8, .sc, [.d (.p (.int .i64 0))]⟩ := tiB_ok (by kernel_rfl)
theorem ty4 : TIok Tryz.prog tb 4 ⟨1, 1, .sc, [.d (.p (.bool false))]⟩ := tiB_ok (by kernel_rfl)
theorem ty5 : TIok Tryz.prog tb 5 ⟨1, 1, .sc, [.d (.p (.int .u8 0))]⟩ := tiB_ok (by kernel_rfl)
theorem ty6 : TIok Tryz.prog tb 6 ⟨1, 1, .sc, [.d (.p (.int .u8 0))]⟩ := tiB_ok (by kernel_rfl)
theorem ty7 : TIok Tryz.prog tb 7 ⟨4, 24, .st [(0, 2), (1, 3), (2, 4), (3, 6)], [.d (.p (.int .i64 0)), .d (.p (.int .i64 0)), .d (.p (.bool false)), .d (.p (.int .u8 0))]⟩ := tiB_ok (by kernel_rfl)
theorem ty8 : TIok Tryz.prog tb 8 ⟨4, 24, .st [(0, 2), (1, 3), (2, 4), (3, 6)], [.d (.p (.int .i64 0)), .d (.p (.int .i64 0)), .d (.p (.bool false)), .d (.p (.int .u8 0))]⟩ := tiB_ok (by kernel_rfl)
theorem ty9 : TIok Tryz.prog tb 9 ⟨1, 16, .sc, [.d (.p (.string ⟨#[]⟩))]⟩ := tiB_ok (by kernel_rfl)
theorem ty10 : TIok Tryz.prog tb 10 ⟨1, 16, .sc, [.d (.p (.string ⟨#[]⟩))]⟩ := tiB_ok (by kernel_rfl)
theorem ty11 : TIok Tryz.prog tb 11 ⟨1, 16, .sc, [.d (.p (.string ⟨#[]⟩))]⟩ := tiB_ok (by kernel_rfl)
theorem ty12 : TIok Tryz.prog tb 12 ⟨1, 8, .sc, [.d (.p (.int .u64 0))]⟩ := tiB_ok (by kernel_rfl)
theorem ty13 : TIok Tryz.prog tb 13 ⟨2, 24, .st [(0, 9), (1, 12)], [.d (.p (.string ⟨#[]⟩)), .d (.p (.int .u64 0))]⟩ := tiB_ok (by kernel_rfl)
theorem ty14 : TIok Tryz.prog tb 14 ⟨2, 24, .st [(0, 9), (1, 12)], [.d (.p (.string ⟨#[]⟩)), .d (.p (.int .u64 0))]⟩ := tiB_ok (by kernel_rfl)
theorem ty15 : TIok Tryz.prog tb 15 ⟨1, 8, .pt 222, [.d (.p (.pointer none))]⟩ := tiB_ok (by kernel_rfl)
theorem ty16 : TIok Tryz.prog tb 16 ⟨1, 8, .pt 225, [.d (.p (.pointer none))]⟩ := tiB_ok (by kernel_rfl)
theorem ty17 : TIok Tryz.prog tb 17 ⟨1, 8, .pt 234, [.d (.p (.pointer none))]⟩ := tiB_ok (by kernel_rfl)
theorem ty18 : TIok Tryz.prog tb 18 ⟨1, 8, .st [(0, 17)], [.d (.p (.pointer none))]⟩ := tiB_ok (by kernel_rfl)
theorem ty19 : TIok Tryz.prog tb 19 ⟨1, 8, .st [(0, 17)], [.d (.p (.pointer none))]⟩ := tiB_ok (by kernel_rfl)
theorem ty21 : TIok Tryz.prog tb 21 ⟨1, 4, .sc, [.d (.p (.int .i32 0))]⟩ := tiB_ok (by kernel_rfl)
theorem ty22 : TIok Tryz.prog tb 22 ⟨1, 24, .sl 45, [.nl true 7]⟩ := tiB_ok (by kernel_rfl)
theorem ty25 : TIok Tryz.prog tb 25 ⟨1, 24, .sl 47, [.nl true 7]⟩ := tiB_ok (by kernel_rfl)
theorem ty29 : TIok Tryz.prog tb 29 ⟨1, 24, .sl 82, [.nl true 3]⟩ := tiB_ok (by kernel_rfl)
theorem ty30 : TIok Tryz.prog tb 30 ⟨5, 64, .st [(0, 3), (1, 9), (2, 3), (3, 3), (4, 29)], [.d (.p (.int .i64 0)), .d (.p (.string ⟨#[]⟩)), .d (.p (.int .i64 0)), .d (.p (.int .i64 0)), .nl true 3]⟩ := tiB_ok (by kernel_rfl)
theorem ty31 : TIok Tryz.prog tb 31 ⟨5, 64, .st [(0, 3), (1, 9), (2, 3), (3, 3), (4, 29)], [.d (.p (.int .i64 0)), .d (.p (.string ⟨#[]⟩)), .d (.p (.int .i64 0)), .d (.p (.int .i64 0)), .nl true 3]⟩ := tiB_ok (by kernel_rfl)
theorem ty36 : TIok Tryz.prog tb 36 ⟨1, 24, .sl 5, [.nl true 1]⟩ := tiB_ok (by kernel_rfl)
theorem ty44 : TIok Tryz.prog tb 44 ⟨7, 72, .st [(0, 3), (1, 3), (2, 3), (3, 3), (4, 3), (5, 9), (6, 9)], [.d (.p (.int .i64 0)), .d (.p (.int .i64 0)), .d (.p (.int .i64 0)), .d (.p (.int .i64 0)), .d (.p (.int .i64 0)), .d (.p (.string ⟨#[]⟩)), .d (.p (.string ⟨#[]⟩))]⟩ := tiB_ok (by kernel_rfl)
theorem ty45 : TIok Tryz.prog tb 45 ⟨7, 72, .st [(0, 3), (1, 3), (2, 3), (3, 3), (4, 3), (5, 9), (6, 9)], [.d (.p (.int .i64 0)), .d (.p (.int .i64 0)), .d (.p (.int .i64 0)), .d (.p (.int .i64 0)), .d (.p (.int .i64 0)), .d (.p (.string ⟨#[]⟩)), .d (.p (.string ⟨#[]⟩))]⟩ := tiB_ok (by kernel_rfl)
theorem ty47 : TIok Tryz.prog tb 47 ⟨7, 72, .st [(0, 3), (1, 3), (2, 3), (3, 3), (4, 3), (5, 9), (6, 9)], [.d (.p (.int .i64 0)), .d (.p (.int .i64 0)), .d (.p (.int .i64 0)), .d (.p (.int .i64 0)), .d (.p (.int .i64 0)), .d (.p (.string ⟨#[]⟩)), .d (.p (.string ⟨#[]⟩))]⟩ := tiB_ok (by kernel_rfl)
theorem ty51 : TIok Tryz.prog tb 51 ⟨2, 16, .st [(0, 3), (1, 3)], [.d (.p (.int .i64 0)), .d (.p (.int .i64 0))]⟩ := tiB_ok (by kernel_rfl)
theorem ty52 : TIok Tryz.prog tb 52 ⟨2, 16, .st [(0, 3), (1, 3)], [.d (.p (.int .i64 0)), .d (.p (.int .i64 0))]⟩ := tiB_ok (by kernel_rfl)
theorem ty53 : TIok Tryz.prog tb 53 ⟨1, 24, .sl 98, [.nl true 5]⟩ := tiB_ok (by kernel_rfl)
theorem ty54 : TIok Tryz.prog tb 54 ⟨1, 24, .sl 95, [.nl true 5]⟩ := tiB_ok (by kernel_rfl)
theorem ty55 : TIok Tryz.prog tb 55 ⟨1, 24, .sl 128, [.nl true 2]⟩ := tiB_ok (by kernel_rfl)
theorem ty56 : TIok Tryz.prog tb 56 ⟨1, 24, .sl 102, [.nl true 4]⟩ := tiB_ok (by kernel_rfl)
theorem ty57 : TIok Tryz.prog tb 57 ⟨1, 24, .sl 52, [.nl true 2]⟩ := tiB_ok (by kernel_rfl)
theorem ty58 : TIok Tryz.prog tb 58 ⟨4, 96, .st [(0, 54), (1, 55), (2, 56), (3, 57)], [.nl true 5, .nl true 2, .nl true 4, .nl true 2]⟩ := tiB_ok (by kernel_rfl)
theorem ty59 : TIok Tryz.prog tb 59 ⟨4, 96, .st [(0, 54), (1, 55), (2, 56), (3, 57)], [.nl true 5, .nl true 2, .nl true 4, .nl true 2]⟩ := tiB_ok (by kernel_rfl)
theorem ty60 : TIok Tryz.prog tb 60 ⟨12, 192, .st [(0, 3), (1, 3), (2, 3), (3, 52), (5, 53), (6, 59), (10, 29), (11, 4)], [.d (.p (.int .i64 0)), .d (.p (.int .i64 0)), .d (.p (.int .i64 0)), .d (.p (.int .i64 0)), .d (.p (.int .i64 0)), .nl true 5, .nl true 5, .nl true 2, .nl true 4, .nl true 2, .nl true 3, .d (.p (.bool false))]⟩ := tiB_ok (by kernel_rfl)
theorem ty61 : TIok Tryz.prog tb 61 ⟨12, 192, .st [(0, 3), (1, 3), (2, 3), (3, 52), (5, 53), (6, 59), (10, 29), (11, 4)], [.d (.p (.int .i64 0)), .d (.p (.int .i64 0)), .d (.p (.int .i64 0)), .d (.p (.int .i64 0)), .d (.p (.int .i64 0)), .nl true 5, .nl true 5, .nl true 2, .nl true 4, .nl true 2, .nl true 3, .d (.p (.bool false))]⟩ := tiB_ok (by kernel_rfl)
theorem ty63 : TIok Tryz.prog tb 63 ⟨1, 8, .pt 61, [.d (.p (.pointer none))]⟩ := tiB_ok (by kernel_rfl)
theorem ty65 : TIok Tryz.prog tb 65 ⟨1, 8, .pt 70, [.d (.p (.pointer none))]⟩ := tiB_ok (by kernel_rfl)
theorem ty66 : TIok Tryz.prog tb 66 ⟨1, 24, .sl 89, [.nl true 2]⟩ := tiB_ok (by kernel_rfl)
theorem ty68 : TIok Tryz.prog tb 68 ⟨1, 24, .sl 107, [.nl true 5]⟩ := tiB_ok (by kernel_rfl)
theorem ty69 : TIok Tryz.prog tb 69 ⟨14, 240, .st [(0, 59), (4, 25), (5, 66), (6, 3), (7, 3), (8, 3), (9, 52), (11, 68), (12, 29), (13, 4)], [.nl true 5, .nl true 2, .nl true 4, .nl true 2, .nl true 7, .nl true 2, .d (.p (.int .i64 0)), .d (.p (.int .i64 0)), .d (.p (.int .i64 0)), .d (.p (.int .i64 0)), .d (.p (.int .i64 0)), .nl true 5, .nl true 3, .d (.p (.bool false))]⟩ := tiB_ok (by kernel_rfl)
theorem ty70 : TIok Tryz.prog tb 70 ⟨14, 240, .st [(0, 59), (4, 25), (5, 66), (6, 3), (7, 3), (8, 3), (9, 52), (11, 68), (12, 29), (13, 4)], [.nl true 5, .nl true 2, .nl true 4, .nl true 2, .nl true 7, .nl true 2, .d (.p (.int .i64 0)), .d (.p (.int .i64 0)), .d (.p (.int .i64 0)), .d (.p (.int .i64 0)), .d (.p (.int .i64 0)), .nl true 5, .nl true 3, .d (.p (.bool false))]⟩ := tiB_ok (by kernel_rfl)
theorem ty74 : TIok Tryz.prog tb 74 ⟨1, 8, .pt 114, [.d (.p (.pointer none))]⟩ := tiB_ok (by kernel_rfl)
theorem ty78 : TIok Tryz.prog tb 78 ⟨1, 24, .sl 3, [.nl true 1]⟩ := tiB_ok (by kernel_rfl)
theorem ty79 : TIok Tryz.prog tb 79 ⟨1, 24, .sl 9, [.nl true 1]⟩ := tiB_ok (by kernel_rfl)
theorem ty81 : TIok Tryz.prog tb 81 ⟨3, 24, .st [(0, 3), (1, 3), (2, 3)], [.d (.p (.int .i64 0)), .d (.p (.int .i64 0)), .d (.p (.int .i64 0))]⟩ := tiB_ok (by kernel_rfl)
theorem ty82 : TIok Tryz.prog tb 82 ⟨3, 24, .st [(0, 3), (1, 3), (2, 3)], [.d (.p (.int .i64 0)), .d (.p (.int .i64 0)), .d (.p (.int .i64 0))]⟩ := tiB_ok (by kernel_rfl)
theorem ty88 : TIok Tryz.prog tb 88 ⟨2, 16, .st [(0, 3), (1, 3)], [.d (.p (.int .i64 0)), .d (.p (.int .i64 0))]⟩ := tiB_ok (by kernel_rfl)
theorem ty89 : TIok Tryz.prog tb 89 ⟨2, 16, .st [(0, 3), (1, 3)], [.d (.p (.int .i64 0)), .d (.p (.int .i64 0))]⟩ := tiB_ok (by kernel_rfl)
theorem ty94 : TIok Tryz.prog tb 94 ⟨5, 40, .st [(0, 3), (1, 3), (2, 52), (4, 3)], [.d (.p (.int .i64 0)), .d (.p (.int .i64 0)), .d (.p (.int .i64 0)), .d (.p (.int .i64 0)), .d (.p (.int .i64 0))]⟩ := tiB_ok (by kernel_rfl)
theorem ty95 : TIok Tryz.prog tb 95 ⟨5, 40, .st [(0, 3), (1, 3), (2, 52), (4, 3)], [.d (.p (.int .i64 0)), .d (.p (.int .i64 0)), .d (.p (.int .i64 0)), .d (.p (.int .i64 0)), .d (.p (.int .i64 0))]⟩ := tiB_ok (by kernel_rfl)
theorem ty97 : TIok Tryz.prog tb 97 ⟨5, 40, .st [(0, 3), (1, 3), (2, 52), (4, 3)], [.d (.p (.int .i64 0)), .d (.p (.int .i64 0)), .d (.p (.int .i64 0)), .d (.p (.int .i64 0)), .d (.p (.int .i64 0))]⟩ := tiB_ok (by kernel_rfl)
theorem ty98 : TIok Tryz.prog tb 98 ⟨5, 40, .st [(0, 3), (1, 3), (2, 52), (4, 3)], [.d (.p (.int .i64 0)), .d (.p (.int .i64 0)), .d (.p (.int .i64 0)), .d (.p (.int .i64 0)), .d (.p (.int .i64 0))]⟩ := tiB_ok (by kernel_rfl)
theorem ty101 : TIok Tryz.prog tb 101 ⟨4, 32, .st [(0, 52), (2, 52)], [.d (.p (.int .i64 0)), .d (.p (.int .i64 0)), .d (.p (.int .i64 0)), .d (.p (.int .i64 0))]⟩ := tiB_ok (by kernel_rfl)
theorem ty102 : TIok Tryz.prog tb 102 ⟨4, 32, .st [(0, 52), (2, 52)], [.d (.p (.int .i64 0)), .d (.p (.int .i64 0)), .d (.p (.int .i64 0)), .d (.p (.int .i64 0))]⟩ := tiB_ok (by kernel_rfl)
theorem ty105 : TIok Tryz.prog tb 105 ⟨1, 8, .pt 59, [.d (.p (.pointer none))]⟩ := tiB_ok (by kernel_rfl)
theorem ty106 : TIok Tryz.prog tb 106 ⟨5, 40, .st [(0, 3), (1, 3), (2, 3), (3, 52)], [.d (.p (.int .i64 0)), .d (.p (.int .i64 0)), .d (.p (.int .i64 0)), .d (.p (.int .i64 0)), .d (.p (.int .i64 0))]⟩ := tiB_ok (by kernel_rfl)
theorem ty107 : TIok Tryz.prog tb 107 ⟨5, 40, .st [(0, 3), (1, 3), (2, 3), (3, 52)], [.d (.p (.int .i64 0)), .d (.p (.int .i64 0)), .d (.p (.int .i64 0)), .d (.p (.int .i64 0)), .d (.p (.int .i64 0))]⟩ := tiB_ok (by kernel_rfl)
theorem ty113 : TIok Tryz.prog tb 113 ⟨3, 40, .st [(0, 36), (1, 3), (2, 3)], [.nl true 1, .d (.p (.int .i64 0)), .d (.p (.int .i64 0))]⟩ := tiB_ok (by kernel_rfl)
theorem ty114 : TIok Tryz.prog tb 114 ⟨3, 40, .st [(0, 36), (1, 3), (2, 3)], [.nl true 1, .d (.p (.int .i64 0)), .d (.p (.int .i64 0))]⟩ := tiB_ok (by kernel_rfl)
theorem ty127 : TIok Tryz.prog tb 127 ⟨2, 16, .st [(0, 3), (1, 3)], [.d (.p (.int .i64 0)), .d (.p (.int .i64 0))]⟩ := tiB_ok (by kernel_rfl)
theorem ty128 : TIok Tryz.prog tb 128 ⟨2, 16, .st [(0, 3), (1, 3)], [.d (.p (.int .i64 0)), .d (.p (.int .i64 0))]⟩ := tiB_ok (by kernel_rfl)
theorem ty139 : TIok Tryz.prog tb 139 ⟨1, 24, .sl 148, [.nl true 4]⟩ := tiB_ok (by kernel_rfl)
theorem ty142 : TIok Tryz.prog tb 142 ⟨5, 56, .st [(0, 139), (1, 3), (2, 3), (3, 3), (4, 3)], [.nl true 4, .d (.p (.int .i64 0)), .d (.p (.int .i64 0)), .d (.p (.int .i64 0)), .d (.p (.int .i64 0))]⟩ := tiB_ok (by kernel_rfl)
theorem ty143 : TIok Tryz.prog tb 143 ⟨5, 56, .st [(0, 139), (1, 3), (2, 3), (3, 3), (4, 3)], [.nl true 4, .d (.p (.int .i64 0)), .d (.p (.int .i64 0)), .d (.p (.int .i64 0)), .d (.p (.int .i64 0))]⟩ := tiB_ok (by kernel_rfl)
theorem ty147 : TIok Tryz.prog tb 147 ⟨4, 40, .st [(0, 3), (1, 9), (2, 3), (3, 3)], [.d (.p (.int .i64 0)), .d (.p (.string ⟨#[]⟩)), .d (.p (.int .i64 0)), .d (.p (.int .i64 0))]⟩ := tiB_ok (by kernel_rfl)
theorem ty148 : TIok Tryz.prog tb 148 ⟨4, 40, .st [(0, 3), (1, 9), (2, 3), (3, 3)], [.d (.p (.int .i64 0)), .d (.p (.string ⟨#[]⟩)), .d (.p (.int .i64 0)), .d (.p (.int .i64 0))]⟩ := tiB_ok (by kernel_rfl)
theorem ty150 : TIok Tryz.prog tb 150 ⟨1, 24, .sl 25, [.nl false 1]⟩ := tiB_ok (by kernel_rfl)
theorem ty161 : TIok Tryz.prog tb 161 ⟨1, 8, .sc, [.d (.p (.int .u64 0))]⟩ := tiB_ok (by kernel_rfl)
theorem ty181 : TIok Tryz.prog tb 181 ⟨1, 8, .sc, [.d (.p (.int .u64 0))]⟩ := tiB_ok (by kernel_rfl)
theorem ty191 : TIok Tryz.prog tb 191 ⟨1, 4, .sc, [.d (.p (.int .u32 0))]⟩ := tiB_ok (by kernel_rfl)
theorem ty195 : TIok Tryz.prog tb 195 ⟨2, 2, .st [(0, 5), (1, 5)], [.d (.p (.int .u8 0)), .d (.p (.int .u8 0))]⟩ := tiB_ok (by kernel_rfl)
theorem ty196 : TIok Tryz.prog tb 196 ⟨2, 2, .st [(0, 5), (1, 5)], [.d (.p (.int .u8 0)), .d (.p (.int .u8 0))]⟩ := tiB_ok (by kernel_rfl)
theorem ty201 : TIok Tryz.prog tb 201 ⟨1, 8, .sc, [.d (.p (.int .i64 0))]⟩ := tiB_ok (by kernel_rfl)
theorem ty209 : TIok Tryz.prog tb 209 ⟨1, 8, .sc, [.d (.p (.int .u64 0))]⟩ := tiB_ok (by kernel_rfl)
theorem ty213 : TIok Tryz.prog tb 213 ⟨1, 8, .pt 3, [.d (.p (.pointer none))]⟩ := tiB_ok (by kernel_rfl)
theorem ty217 : TIok Tryz.prog tb 217 ⟨1, 8, .pt 209, [.d (.p (.pointer none))]⟩ := tiB_ok (by kernel_rfl)
theorem ty221 : TIok Tryz.prog tb 221 ⟨4, 40, .st [(0, 17), (1, 17), (2, 17), (3, 9)], [.d (.p (.pointer none)), .d (.p (.pointer none)), .d (.p (.pointer none)), .d (.p (.string ⟨#[]⟩))]⟩ := tiB_ok (by kernel_rfl)
theorem ty222 : TIok Tryz.prog tb 222 ⟨4, 40, .st [(0, 17), (1, 17), (2, 17), (3, 9)], [.d (.p (.pointer none)), .d (.p (.pointer none)), .d (.p (.pointer none)), .d (.p (.string ⟨#[]⟩))]⟩ := tiB_ok (by kernel_rfl)
theorem ty227 : TIok Tryz.prog tb 227 ⟨1, 1, .sc, [.d (.p (.int .u8 0))]⟩ := tiB_ok (by kernel_rfl)
theorem ty228 : TIok Tryz.prog tb 228 ⟨1, 1, .sc, [.d (.p (.int .u8 0))]⟩ := tiB_ok (by kernel_rfl)
theorem ty230 : TIok Tryz.prog tb 230 ⟨1, 8, .pt 5, [.d (.p (.pointer none))]⟩ := tiB_ok (by kernel_rfl)
theorem ty231 : TIok Tryz.prog tb 231 ⟨1, 4, .sc, [.d (.p (.int .i32 0))]⟩ := tiB_ok (by kernel_rfl)
theorem ty232 : TIok Tryz.prog tb 232 ⟨1, 4, .sc, [.d (.p (.int .i32 0))]⟩ := tiB_ok (by kernel_rfl)
theorem tb_ok : TbOk Tryz.prog tb := ⟨fun t i h => by
  unfold tb at h
  split at h
  · cases h; exact ty2
  · cases h; exact ty3
  · cases h; exact ty4
  · cases h; exact ty5
  · cases h; exact ty6
  · cases h; exact ty7
  · cases h; exact ty8
  · cases h; exact ty9
  · cases h; exact ty10
  · cases h; exact ty11
  · cases h; exact ty12
  · cases h; exact ty13
  · cases h; exact ty14
  · cases h; exact ty15
  · cases h; exact ty16
  · cases h; exact ty17
  · cases h; exact ty18
  · cases h; exact ty19
  · cases h; exact ty21
  · cases h; exact ty22
  · cases h; exact ty25
  · cases h; exact ty29
  · cases h; exact ty30
  · cases h; exact ty31
  · cases h; exact ty36
  · cases h; exact ty44
  · cases h; exact ty45
  · cases h; exact ty47
  · cases h; exact ty51
  · cases h; exact ty52
  · cases h; exact ty53
  · cases h; exact ty54
  · cases h; exact ty55
  · cases h; exact ty56
  · cases h; exact ty57
  · cases h; exact ty58
  · cases h; exact ty59
  · cases h; exact ty60
  · cases h; exact ty61
  · cases h; exact ty63
  · cases h; exact ty65
  · cases h; exact ty66
  · cases h; exact ty68
  · cases h; exact ty69
  · cases h; exact ty70
  · cases h; exact ty74
  · cases h; exact ty78
  · cases h; exact ty79
  · cases h; exact ty81
  · cases h; exact ty82
  · cases h; exact ty88
  · cases h; exact ty89
  · cases h; exact ty94
  · cases h; exact ty95
  · cases h; exact ty97
  · cases h; exact ty98
  · cases h; exact ty101
  · cases h; exact ty102
  · cases h; exact ty105
  · cases h; exact ty106
  · cases h; exact ty107
  · cases h; exact ty113
  · cases h; exact ty114
  · cases h; exact ty127
  · cases h; exact ty128
  · cases h; exact ty139
  · cases h; exact ty142
  · cases h; exact ty143
  · cases h; exact ty147
  · cases h; exact ty148
  · cases h; exact ty150
  · cases h; exact ty161
  · cases h; exact ty181
  · cases h; exact ty191
  · cases h; exact ty195
  · cases h; exact ty196
  · cases h; exact ty201
  · cases h; exact ty209
  · cases h; exact ty213
  · cases h; exact ty217
  · cases h; exact ty221
  · cases h; exact ty222
  · cases h; exact ty227
  · cases h; exact ty228
  · cases h; exact ty230
  · cases h; exact ty231
  · cases h; exact ty232
  · cases h⟩
end Go.Proofs.YtifomiglajcanaaGreatDoorE
