/- The types of the program as the evaluator takes them. -/
import Derived.Test.YtfkanjgfjejgiaaGreatDoorProg
import Derived.Test.YtfkanjgfjejgiaaGreatDoorEvTy
import Derived.KernelRfl
set_option linter.unusedSimpArgs false
set_option linter.unusedVariables false
namespace Go.Proofs.YtfkanjgfjejgiaaGreatDoorE
open Go.Ev
def tb : Tb := fun t => match t with
  | 2 => some ⟨1, 8, .sc, [.d (.p (.int .i64 0))]⟩
  | 3 => some ⟨1, 8, .sc, [.d (.p (.int .i64 0))]⟩
  | 4 => some ⟨1, 1, .sc, [.d (.p (.bool false))]⟩
  | 5 => some ⟨1, 1, .sc, [.d (.p (.int .u8 0))]⟩
  | 6 => some ⟨1, 1, .sc, [.d (.p (.int .u8 0))]⟩
  | 7 => some ⟨4, 24, .st [(0, 2), (1, 3), (2, 4), (3, 6)], [.d (.p (.int .i64 0)), .d (.p (.int .i64 0)), .d (.p (.bool false)), .d (.p (.int .u8 0))]⟩
  | 8 => some ⟨4, 24, .st [(0, 2), (1, 3), (2, 4), (3, 6)], [.d (.p (.int .i64 0)), .d (.p (.int .i64 0)), .d (.p (.bool false)), .d (.p (.int .u8 0))]⟩
  | 9 => some ⟨1, 16, .sc, [.d (.p (.string ⟨#[]⟩))]⟩
  | 10 => some ⟨1, 16, .sc, [.d (.p (.string ⟨#[]⟩))]⟩
  | 11 => some ⟨1, 16, .sc, [.d (.p (.string ⟨#[]⟩))]⟩
  | 12 => some ⟨1, 8, .sc, [.d (.p (.int .u64 0))]⟩
  | 13 => some ⟨2, 24, .st [(0, 9), (1, 12)], [.d (.p (.string ⟨#[]⟩)), .d (.p (.int .u64 0))]⟩
  | 14 => some ⟨2, 24, .st [(0, 9), (1, 12)], [.d (.p (.string ⟨#[]⟩)), .d (.p (.int .u64 0))]⟩
  | 15 => some ⟨1, 8, .pt 204, [.d (.p (.pointer none))]⟩
  | 16 => some ⟨1, 8, .pt 207, [.d (.p (.pointer none))]⟩
  | 17 => some ⟨1, 8, .pt 214, [.d (.p (.pointer none))]⟩
  | 18 => some ⟨1, 8, .st [(0, 17)], [.d (.p (.pointer none))]⟩
  | 19 => some ⟨1, 8, .st [(0, 17)], [.d (.p (.pointer none))]⟩
  | 21 => some ⟨1, 4, .sc, [.d (.p (.int .i32 0))]⟩
  | 22 => some ⟨1, 24, .sl 5, [.nl true 1]⟩
  | 24 => some ⟨1, 24, .sl 59, [.nl true 7]⟩
  | 31 => some ⟨1, 24, .sl 55, [.nl true 7]⟩
  | 39 => some ⟨1, 8, .pt 74, [.d (.p (.pointer none))]⟩
  | 44 => some ⟨1, 24, .sl 52, [.nl true 4]⟩
  | 47 => some ⟨1, 8, .pt 49, [.d (.p (.pointer none))]⟩
  | 48 => some ⟨6, 80, .st [(0, 44), (1, 3), (2, 3), (3, 3), (4, 3), (5, 24)], [.nl true 4, .d (.p (.int .i64 0)), .d (.p (.int .i64 0)), .d (.p (.int .i64 0)), .d (.p (.int .i64 0)), .nl true 7]⟩
  | 49 => some ⟨6, 80, .st [(0, 44), (1, 3), (2, 3), (3, 3), (4, 3), (5, 24)], [.nl true 4, .d (.p (.int .i64 0)), .d (.p (.int .i64 0)), .d (.p (.int .i64 0)), .d (.p (.int .i64 0)), .nl true 7]⟩
  | 51 => some ⟨4, 40, .st [(0, 3), (1, 9), (2, 3), (3, 3)], [.d (.p (.int .i64 0)), .d (.p (.string ⟨#[]⟩)), .d (.p (.int .i64 0)), .d (.p (.int .i64 0))]⟩
  | 52 => some ⟨4, 40, .st [(0, 3), (1, 9), (2, 3), (3, 3)], [.d (.p (.int .i64 0)), .d (.p (.string ⟨#[]⟩)), .d (.p (.int .i64 0)), .d (.p (.int .i64 0))]⟩
  | 54 => some ⟨7, 72, .st [(0, 3), (1, 3), (2, 3), (3, 3), (4, 3), (5, 9), (6, 9)], [.d (.p (.int .i64 0)), .d (.p (.int .i64 0)), .d (.p (.int .i64 0)), .d (.p (.int .i64 0)), .d (.p (.int .i64 0)), .d (.p (.string ⟨#[]⟩)), .d (.p (.string ⟨#[]⟩))]⟩
  | 55 => some ⟨7, 72, .st [(0, 3), (1, 3), (2, 3), (3, 3), (4, 3), (5, 9), (6, 9)], [.d (.p (.int .i64 0)), .d (.p (.int .i64 0)), .d (.p (.int .i64 0)), .d (.p (.int .i64 0)), .d (.p (.int .i64 0)), .d (.p (.string ⟨#[]⟩)), .d (.p (.string ⟨#[]⟩))]⟩
  | 59 => some ⟨7, 72, .st [(0, 3), (1, 3), (2, 3), (3, 3), (4, 3), (5, 9), (6, 9)], [.d (.p (.int .i64 0)), .d (.p (.int .i64 0)), .d (.p (.int .i64 0)), .d (.p (.int .i64 0)), .d (.p (.int .i64 0)), .d (.p (.string ⟨#[]⟩)), .d (.p (.string ⟨#[]⟩))]⟩
  | 61 => some ⟨1, 8, .pt 64, [.d (.p (.pointer none))]⟩
  | 62 => some ⟨1, 24, .sl 9, [.nl true 1]⟩
  | 63 => some ⟨2, 32, .st [(0, 62), (1, 3)], [.nl true 1, .d (.p (.int .i64 0))]⟩
  | 64 => some ⟨2, 32, .st [(0, 62), (1, 3)], [.nl true 1, .d (.p (.int .i64 0))]⟩
  | 66 => some ⟨1, 24, .sl 68, [.nl false 8]⟩
  | 67 => some ⟨8, 96, .st [(0, 59), (7, 66)], [.d (.p (.int .i64 0)), .d (.p (.int .i64 0)), .d (.p (.int .i64 0)), .d (.p (.int .i64 0)), .d (.p (.int .i64 0)), .d (.p (.string ⟨#[]⟩)), .d (.p (.string ⟨#[]⟩)), .nl false 8]⟩
  | 68 => some ⟨8, 96, .st [(0, 59), (7, 66)], [.d (.p (.int .i64 0)), .d (.p (.int .i64 0)), .d (.p (.int .i64 0)), .d (.p (.int .i64 0)), .d (.p (.int .i64 0)), .d (.p (.string ⟨#[]⟩)), .d (.p (.string ⟨#[]⟩)), .nl false 8]⟩
  | 73 => some ⟨3, 40, .st [(0, 22), (1, 3), (2, 3)], [.nl true 1, .d (.p (.int .i64 0)), .d (.p (.int .i64 0))]⟩
  | 74 => some ⟨3, 40, .st [(0, 22), (1, 3), (2, 3)], [.nl true 1, .d (.p (.int .i64 0)), .d (.p (.int .i64 0))]⟩
  | 77 => some ⟨1, 24, .sl 3, [.nl true 1]⟩
  | 93 => some ⟨1, 24, .sl 24, [.nl false 1]⟩
  | 100 => some ⟨1, 24, .sl 106, [.nl true 2]⟩
  | 105 => some ⟨2, 16, .st [(0, 3), (1, 3)], [.d (.p (.int .i64 0)), .d (.p (.int .i64 0))]⟩
  | 106 => some ⟨2, 16, .st [(0, 3), (1, 3)], [.d (.p (.int .i64 0)), .d (.p (.int .i64 0))]⟩
  | 128 => some ⟨1, 8, .sc, [.d (.p (.int .u64 0))]⟩
  | 143 => some ⟨1, 8, .sc, [.d (.p (.int .i64 0))]⟩
  | 146 => some ⟨1, 8, .pt 160, [.d (.p (.pointer none))]⟩
  | 155 => some ⟨1, 8, .sc, [.d (.p (.int .u64 0))]⟩
  | 164 => some ⟨1, 8, .sc, [.d (.p (.int .i64 0))]⟩
  | 171 => some ⟨1, 4, .sc, [.d (.p (.int .u32 0))]⟩
  | 174 => some ⟨1, 8, .pt 5, [.d (.p (.pointer none))]⟩
  | 175 => some ⟨1, 8, .pt 177, [.d (.p (.pointer none))]⟩
  | 176 => some ⟨1, 16, .st [(0, 9)], [.d (.p (.string ⟨#[]⟩))]⟩
  | 177 => some ⟨1, 16, .st [(0, 9)], [.d (.p (.string ⟨#[]⟩))]⟩
  | 183 => some ⟨2, 2, .st [(0, 5), (1, 5)], [.d (.p (.int .u8 0)), .d (.p (.int .u8 0))]⟩
  | 184 => some ⟨2, 2, .st [(0, 5), (1, 5)], [.d (.p (.int .u8 0)), .d (.p (.int .u8 0))]⟩
  | 188 => some ⟨1, 8, .sc, [.d (.p (.int .u64 0))]⟩
  | 192 => some ⟨1, 8, .pt 3, [.d (.p (.pointer none))]⟩
  | 198 => some ⟨1, 8, .pt 188, [.d (.p (.pointer none))]⟩
  | 203 => some ⟨4, 40, .st [(0, 17), (1, 17), (2, 17), (3, 9)], [.d (.p (.pointer none)), .d (.p (.pointer none)), .d (.p (.pointer none)), .d (.p (.string ⟨#[]⟩))]⟩
  | 204 => some ⟨4, 40, .st [(0, 17), (1, 17), (2, 17), (3, 9)], [.d (.p (.pointer none)), .d (.p (.pointer none)), .d (.p (.pointer none)), .d (.p (.string ⟨#[]⟩))]⟩
  | 208 => some ⟨1, 1, .sc, [.d (.p (.int .u8 0))]⟩
  | 209 => some ⟨1, 1, .sc, [.d (.p (.int .u8 0))]⟩
  | 211 => some ⟨1, 4, .sc, [.d (.p (.int .i32 0))]⟩
  | 212 => some ⟨1, 4, .sc, [.d (.p (.int .i32 0))]⟩
  | _ => none
theorem ty2 : TIok Tryz.prog tb 2 ⟨1, 8, .sc, [.d (.p (.int .i64 0))]⟩ := tiB_ok (by kernel_rfl)
theorem ty3 : TIok Tryz.prog tb 3 ⟨1, 8, .sc, [.d (.p (.int .i64 0))]⟩ := tiB_ok (by kernel_rfl)
theorem ty4 : TIok Tryz.prog tb 4 ⟨1, 1, .sc, [.d (.p (.bool false))]⟩ := tiB_ok (by kernel_rfl)
theorem ty5 : TIok Tryz.prog tb 5 ⟨1, 1, .sc, [.d (.p (.int .u8 0))]⟩ := tiB_ok (by kernel_rfl)
theorem ty6 : TIok Tryz.prog tb 6 ⟨1, 1, .sc, [.d (.p (.int .u8 0))]⟩ := tiB_ok (by kernel_rfl)
theorem ty7 : TIok Tryz.prog tb 7 ⟨4, 24, .st [(0, 2), (1, 3), (2, 4), (3, 6)], [.d (.p (.int .i64 0)), .d (.p (.int .i64 0)), .d (.p (.bool false)), .d (.p (.int .u8 0))]⟩ := tiB_ok (by kernel_rfl)
theorem ty8 : TIok Tryz.prog tb 8 ⟨4, 24, .st [(0, 2), (1, 3), (2, 4), (3, 6)], [.d (.p (.int .i64 0)), .d (.p (.int .i64 0)), .d (.p (.bool false)), .d (.p (.int .u8 0))]⟩ := tiB_ok (by kernel_rfl)
theorem ty9 : TIok Tryz.prog tb 9 ⟨1, 16, .sc, [.d (.p (.string ⟨#[]⟩))]⟩ := tiB_ok (by kernel_rfl)
theorem ty10 : TIok Tryz.prog tb 10 ⟨1, 16, .sc, [.d (.p (.string ⟨#[]⟩))]⟩ := tiB_ok (by kernel_rfl)
theorem ty11 : TIok Tryz.prog tb 11 ⟨1, 16, .sc, [.d (.p (.string ⟨#[]⟩))]⟩ := tiB_ok (by kernel_rfl)
theorem ty12 : TIok Tryz.prog tb 12 ⟨1, 8, .sc, [.d (.p (.int .u64 0))]⟩ := tiB_ok (by kernel_rfl)
theorem ty13 : TIok Tryz.prog tb 13 ⟨2, 24, .st [(0, 9), (1, 12)], [.d (.p (.string ⟨#[]⟩)), .d (.p (.int .u64 0))]⟩ := tiB_ok (by kernel_rfl)
theorem ty14 : TIok Tryz.prog tb 14 ⟨2, 24, .st [(0, 9), (1, 12)], [.d (.p (.string ⟨#[]⟩)), .d (.p (.int .u64 0))]⟩ := tiB_ok (by kernel_rfl)
theorem ty15 : TIok Tryz.prog tb 15 ⟨1, 8, .pt 204, [.d (.p (.pointer none))]⟩ := tiB_ok (by kernel_rfl)
theorem ty16 : TIok Tryz.prog tb 16 ⟨1, 8, .pt 207, [.d (.p (.pointer none))]⟩ := tiB_ok (by kernel_rfl)
theorem ty17 : TIok Tryz.prog tb 17 ⟨1, 8, .pt 214, [.d (.p (.pointer none))]⟩ := tiB_ok (by kernel_rfl)
theorem ty18 : TIok Tryz.prog tb 18 ⟨1, 8, .st [(0, 17)], [.d (.p (.pointer none))]⟩ := tiB_ok (by kernel_rfl)
theorem ty19 : TIok Tryz.prog tb 19 ⟨1, 8, .st [(0, 17)], [.d (.p (.pointer none))]⟩ := tiB_ok (by kernel_rfl)
theorem ty21 : TIok Tryz.prog tb 21 ⟨1, 4, .sc, [.d (.p (.int .i32 0))]⟩ := tiB_ok (by kernel_rfl)
theorem ty22 : TIok Tryz.prog tb 22 ⟨1, 24, .sl 5, [.nl true 1]⟩ := tiB_ok (by kernel_rfl)
theorem ty24 : TIok Tryz.prog tb 24 ⟨1, 24, .sl 59, [.nl true 7]⟩ := tiB_ok (by kernel_rfl)
theorem ty31 : TIok Tryz.prog tb 31 ⟨1, 24, .sl 55, [.nl true 7]⟩ := tiB_ok (by kernel_rfl)
theorem ty39 : TIok Tryz.prog tb 39 ⟨1, 8, .pt 74, [.d (.p (.pointer none))]⟩ := tiB_ok (by kernel_rfl)
theorem ty44 : TIok Tryz.prog tb 44 ⟨1, 24, .sl 52, [.nl true 4]⟩ := tiB_ok (by kernel_rfl)
theorem ty47 : TIok Tryz.prog tb 47 ⟨1, 8, .pt 49, [.d (.p (.pointer none))]⟩ := tiB_ok (by kernel_rfl)
theorem ty48 : TIok Tryz.prog tb 48 ⟨6, 80, .st [(0, 44), (1, 3), (2, 3), (3, 3), (4, 3), (5, 24)], [.nl true 4, .d (.p (.int .i64 0)), .d (.p (.int .i64 0)), .d (.p (.int .i64 0)), .d (.p (.int .i64 0)), .nl true 7]⟩ := tiB_ok (by kernel_rfl)
theorem ty49 : TIok Tryz.prog tb 49 ⟨6, 80, .st [(0, 44), (1, 3), (2, 3), (3, 3), (4, 3), (5, 24)], [.nl true 4, .d (.p (.int .i64 0)), .d (.p (.int .i64 0)), .d (.p (.int .i64 0)), .d (.p (.int .i64 0)), .nl true 7]⟩ := tiB_ok (by kernel_rfl)
theorem ty51 : TIok Tryz.prog tb 51 ⟨4, 40, .st [(0, 3), (1, 9), (2, 3), (3, 3)], [.d (.p (.int .i64 0)), .d (.p (.string ⟨#[]⟩)), .d (.p (.int .i64 0)), .d (.p (.int .i64 0))]⟩ := tiB_ok (by kernel_rfl)
theorem ty52 : TIok Tryz.prog tb 52 ⟨4, 40, .st [(0, 3), (1, 9), (2, 3), (3, 3)], [.d (.p (.int .i64 0)), .d (.p (.string ⟨#[]⟩)), .d (.p (.int .i64 0)), .d (.p (.int .i64 0))]⟩ := tiB_ok (by kernel_rfl)
theorem ty54 : TIok Tryz.prog tb 54 ⟨7, 72, .st [(0, 3), (1, 3), (2, 3), (3, 3), (4, 3), (5, 9), (6, 9)], [.d (.p (.int .i64 0)), .d (.p (.int .i64 0)), .d (.p (.int .i64 0)), .d (.p (.int .i64 0)), .d (.p (.int .i64 0)), .d (.p (.string ⟨#[]⟩)), .d (.p (.string ⟨#[]⟩))]⟩ := tiB_ok (by kernel_rfl)
theorem ty55 : TIok Tryz.prog tb 55 ⟨7, 72, .st [(0, 3), (1, 3), (2, 3), (3, 3), (4, 3), (5, 9), (6, 9)], [.d (.p (.int .i64 0)), .d (.p (.int .i64 0)), .d (.p (.int .i64 0)), .d (.p (.int .i64 0)), .d (.p (.int .i64 0)), .d (.p (.string ⟨#[]⟩)), .d (.p (.string ⟨#[]⟩))]⟩ := tiB_ok (by kernel_rfl)
theorem ty59 : TIok Tryz.prog tb 59 ⟨7, 72, .st [(0, 3), (1, 3), (2, 3), (3, 3), (4, 3), (5, 9), (6, 9)], [.d (.p (.int .i64 0)), .d (.p (.int .i64 0)), .d (.p (.int .i64 0)), .d (.p (.int .i64 0)), .d (.p (.int .i64 0)), .d (.p (.string ⟨#[]⟩)), .d (.p (.string ⟨#[]⟩))]⟩ := tiB_ok (by kernel_rfl)
theorem ty61 : TIok Tryz.prog tb 61 ⟨1, 8, .pt 64, [.d (.p (.pointer none))]⟩ := tiB_ok (by kernel_rfl)
theorem ty62 : TIok Tryz.prog tb 62 ⟨1, 24, .sl 9, [.nl true 1]⟩ := tiB_ok (by kernel_rfl)
theorem ty63 : TIok Tryz.prog tb 63 ⟨2, 32, .st [(0, 62), (1, 3)], [.nl true 1, .d (.p (.int .i64 0))]⟩ := tiB_ok (by kernel_rfl)
theorem ty64 : TIok Tryz.prog tb 64 ⟨2, 32, .st [(0, 62), (1, 3)], [.nl true 1, .d (.p (.int .i64 0))]⟩ := tiB_ok (by kernel_rfl)
theorem ty66 : TIok Tryz.prog tb 66 ⟨1, 24, .sl 68, [.nl false 8]⟩ := tiB_ok (by kernel_rfl)
theorem ty67 : TIok Tryz.prog tb 67 ⟨8, 96, .st [(0, 59), (7, 66)], [.d (.p (.int .i64 0)), .d (.p (.int .i64 0)), .d (.p (.int .i64 0)), .d (.p (.int .i64 0)), .d (.p (.int .i64 0)), .d (.p (.string ⟨#[]⟩)), .d (.p (.string ⟨#[]⟩)), .nl false 8]⟩ := tiB_ok (by kernel_rfl)
theorem ty68 : TIok Tryz.prog tb 68 ⟨8, 96, .st [(0, 59), (7, 66)], [.d (.p (.int .i64 0)), .d (.p (.int .i64 0)), .d (.p (.int .i64 0)), .d (.p (.int .i64 0)), .d (.p (.int .i64 0)), .d (.p (.string ⟨#[]⟩)), .d (.p (.string ⟨#[]⟩)), .nl false 8]⟩ := tiB_ok (by kernel_rfl)
theorem ty73 : TIok Tryz.prog tb 73 ⟨3, 40, .st [(0, 22), (1, 3), (2, 3)], [.nl true 1, .d (.p (.int .i64 0)), .d (.p (.int .i64 0))]⟩ := tiB_ok (by kernel_rfl)
theorem ty74 : TIok Tryz.prog tb 74 ⟨3, 40, .st [(0, 22), (1, 3), (2, 3)], [.nl true 1, .d (.p (.int .i64 0)), .d (.p (.int .i64 0))]⟩ := tiB_ok (by kernel_rfl)
theorem ty77 : TIok Tryz.prog tb 77 ⟨1, 24, .sl 3, [.nl true 1]⟩ := tiB_ok (by kernel_rfl)
theorem ty93 : TIok Tryz.prog tb 93 ⟨1, 24, .sl 24, [.nl false 1]⟩ := tiB_ok (by kernel_rfl)
theorem ty100 : TIok Tryz.prog tb 100 ⟨1, 24, .sl 106, [.nl true 2]⟩ := tiB_ok (by kernel_rfl)
theorem ty105 : TIok Tryz.prog tb 105 ⟨2, 16, .st [(0, 3), (1, 3)], [.d (.p (.int .i64 0)), .d (.p (.int .i64 0))]⟩ := tiB_ok (by kernel_rfl)
theorem ty106 : TIok Tryz.prog tb 106 ⟨2, 16, .st [(0, 3), (1, 3)], [.d (.p (.int .i64 0)), .d (.p (.int .i64 0))]⟩ := tiB_ok (by kernel_rfl)
theorem ty128 : TIok Tryz.prog tb 128 ⟨1, 8, .sc, [.d (.p (.int .u64 0))]⟩ := tiB_ok (by kernel_rfl)
theorem ty143 : TIok Tryz.prog tb 143 ⟨1, 8, .sc, [.d (.p (.int .i64 0))]⟩ := tiB_ok (by kernel_rfl)
theorem ty146 : TIok Tryz.prog tb 146 ⟨1, 8, .pt 160, [.d (.p (.pointer none))]⟩ := tiB_ok (by kernel_rfl)
theorem ty155 : TIok Tryz.prog tb 155 ⟨1, 8, .sc, [.d (.p (.int .u64 0))]⟩ := tiB_ok (by kernel_rfl)
theorem ty164 : TIok Tryz.prog tb 164 ⟨1, 8, .sc, [.d (.p (.int .i64 0))]⟩ := tiB_ok (by kernel_rfl)
theorem ty171 : TIok Tryz.prog tb 171 ⟨1, 4, .sc, [.d (.p (.int .u32 0))]⟩ := tiB_ok (by kernel_rfl)
theorem ty174 : TIok Tryz.prog tb 174 ⟨1, 8, .pt 5, [.d (.p (.pointer none))]⟩ := tiB_ok (by kernel_rfl)
theorem ty175 : TIok Tryz.prog tb 175 ⟨1, 8, .pt 177, [.d (.p (.pointer none))]⟩ := tiB_ok (by kernel_rfl)
theorem ty176 : TIok Tryz.prog tb 176 ⟨1, 16, .st [(0, 9)], [.d (.p (.string ⟨#[]⟩))]⟩ := tiB_ok (by kernel_rfl)
theorem ty177 : TIok Tryz.prog tb 177 ⟨1, 16, .st [(0, 9)], [.d (.p (.string ⟨#[]⟩))]⟩ := tiB_ok (by kernel_rfl)
theorem ty183 : TIok Tryz.prog tb 183 ⟨2, 2, .st [(0, 5), (1, 5)], [.d (.p (.int .u8 0)), .d (.p (.int .u8 0))]⟩ := tiB_ok (by kernel_rfl)
theorem ty184 : TIok Tryz.prog tb 184 ⟨2, 2, .st [(0, 5), (1, 5)], [.d (.p (.int .u8 0)), .d (.p (.int .u8 0))]⟩ := tiB_ok (by kernel_rfl)
theorem ty188 : TIok Tryz.prog tb 188 ⟨1, 8, .sc, [.d (.p (.int .u64 0))]⟩ := tiB_ok (by kernel_rfl)
theorem ty192 : TIok Tryz.prog tb 192 ⟨1, 8, .pt 3, [.d (.p (.pointer none))]⟩ := tiB_ok (by kernel_rfl)
theorem ty198 : TIok Tryz.prog tb 198 ⟨1, 8, .pt 188, [.d (.p (.pointer none))]⟩ := tiB_ok (by kernel_rfl)
theorem ty203 : TIok Tryz.prog tb 203 ⟨4, 40, .st [(0, 17), (1, 17), (2, 17), (3, 9)], [.d (.p (.pointer none)), .d (.p (.pointer none)), .d (.p (.pointer none)), .d (.p (.string ⟨#[]⟩))]⟩ := tiB_ok (by kernel_rfl)
theorem ty204 : TIok Tryz.prog tb 204 ⟨4, 40, .st [(0, 17), (1, 17), (2, 17), (3, 9)], [.d (.p (.pointer none)), .d (.p (.pointer none)), .d (.p (.pointer none)), .d (.p (.string ⟨#[]⟩))]⟩ := tiB_ok (by kernel_rfl)
theorem ty208 : TIok Tryz.prog tb 208 ⟨1, 1, .sc, [.d (.p (.int .u8 0))]⟩ := tiB_ok (by kernel_rfl)
theorem ty209 : TIok Tryz.prog tb 209 ⟨1, 1, .sc, [.d (.p (.int .u8 0))]⟩ := tiB_ok (by kernel_rfl)
theorem ty211 : TIok Tryz.prog tb 211 ⟨1, 4, .sc, [.d (.p (.int .i32 0))]⟩ := tiB_ok (by kernel_rfl)
theorem ty212 : TIok Tryz.prog tb 212 ⟨1, 4, .sc, [.d (.p (.int .i32 0))]⟩ := tiB_ok (by kernel_rfl)
theorem tb_ok : TbOk Tryz.prog tb := ⟨fun t i h => by
  unfold tb at h
  split at h
  · cases h; exact ty2
  · cases h; exact ty3
  · cases h; exact ty4
  · cases h; exact ty5
  · cases h; exact ty6
  · cases h; exact ty7
  · cases h; exact ty8
  · cases h; exact ty9
  · cases h; exact ty10
  · cases h; exact ty11
  · cases h; exact ty12
  · cases h; exact ty13
  · cases h; exact ty14
  · cases h; exact ty15
  · cases h; exact ty16
  · cases h; exact ty17
  · cases h; exact ty18
  · cases h; exact ty19
  · cases h; exact ty21
  · cases h; exact ty22
  · cases h; exact ty24
  · cases h; exact ty31
  · cases h; exact ty39
  · cases h; exact ty44
  · cases h; exact ty47
  · cases h; exact ty48
  · cases h; exact ty49
  · cases h; exact ty51
  · cases h; exact ty52
  · cases h; exact ty54
  · cases h; exact ty55
  · cases h; exact ty59
  · cases h; exact ty61
  · cases h; exact ty62
  · cases h; exact ty63
  · cases h; exact ty64
  · cases h; exact ty66
  · cases h; exact ty67
  · cases h; exact ty68
  · cases h; exact ty73
  · cases h; exact ty74
  · cases h; exact ty77
  · cases h; exact ty93
  · cases h; exact ty100
  · cases h; exact ty105
  · cases h; exact ty106
  · cases h; exact ty128
  · cases h; exact ty143
  · cases h; exact ty146
  · cases h; exact ty155
  · cases h; exact ty164
  · cases h; exact ty171
  · cases h; exact ty174
  · cases h; exact ty175
  · cases h; exact ty176
  · cases h; exact ty177
  · cases h; exact ty183
  · cases h; exact ty184
  · cases h; exact ty188
  · cases h; exact ty192
  · cases h; exact ty198
  · cases h; exact ty203
  · cases h; exact ty204
  · cases h; exact ty208
  · cases h; exact ty209
  · cases h; exact ty211
  · cases h; exact ty212
  · cases h⟩
end Go.Proofs.YtfkanjgfjejgiaaGreatDoorE
