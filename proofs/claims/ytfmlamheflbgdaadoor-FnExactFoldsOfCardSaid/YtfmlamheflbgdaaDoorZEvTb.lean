/- The types of the program as the evaluator takes them. -/
import Derived.Test.YtfmlamheflbgdaaDoorProg
import Derived.Test.YtfmlamheflbgdaaDoorEvTy
import Derived.KernelRfl
set_option linter.unusedSimpArgs false
set_option linter.unusedVariables false
namespace Go.Proofs.YtfmlamheflbgdaaDoorE
open Go.Ev
def tb : Tb := fun t => match t with
  | 2 => some ⟨1, 8, .sc, [.d (.p (.int .i64 0))]⟩
  | 3 => some ⟨1, 8, .sc, [.d (.p (.int .i64 0))]⟩
  | 4 => some ⟨1, 1, .sc, [.d (.p (.bool false))]⟩
  | 5 => some ⟨1, 1, .sc, [.d (.p (.int .u8 0))]⟩
  | 6 => some ⟨1, 1, .sc, [.d (.p (.int .u8 0))]⟩
  | 7 => some ⟨4, 24, .st [(0, 2), (1, 3), (2, 4), (3, 6)], [.d (.p (.int .i64 0)), .d (.p (.int .i64 0)), .d (.p (.bool false)), .d (.p (.int .u8 0))]⟩
  | 8 => some ⟨4, 24, .st [(0, 2), (1, 3), (2, 4), (3, 6)], [.d (.p (.int .i64 0)), .d (.p (.int .i64 0)), .d (.p (.bool false)), .d (.p (.int .u8 0))]⟩
  | 9 => some ⟨1, 16, .sc, [.d (.p (.string ⟨#[]⟩))]⟩
  | 10 => some ⟨1, 16, .sc, [.d (.p (.string ⟨#[]⟩))]⟩
  | 11 => some ⟨1, 16, .sc, [.d (.p (.string ⟨#[]⟩))]⟩
  | 12 => some ⟨1, 8, .sc, [.d (.p (.int .u64 0))]⟩
  | 13 => some ⟨2, 24, .st [(0, 9), (1, 12)], [.d (.p (.string ⟨#[]⟩)), .d (.p (.int .u64 0))]⟩
  | 14 => some ⟨2, 24, .st [(0, 9), (1, 12)], [.d (.p (.string ⟨#[]⟩)), .d (.p (.int .u64 0))]⟩
  | 15 => some ⟨1, 8, .pt 216, [.d (.p (.pointer none))]⟩
  | 16 => some ⟨1, 8, .pt 219, [.d (.p (.pointer none))]⟩
  | 17 => some ⟨1, 8, .pt 227, [.d (.p (.pointer none))]⟩
  | 18 => some ⟨1, 8, .st [(0, 17)], [.d (.p (.pointer none))]⟩
  | 19 => some ⟨1, 8, .st [(0, 17)], [.d (.p (.pointer none))]⟩
  | 21 => some ⟨1, 4, .sc, [.d (.p (.int .i32 0))]⟩
  | 22 => some ⟨1, 24, .sl 62, [.nl true 7]⟩
  | 25 => some ⟨1, 24, .sl 55, [.nl true 7]⟩
  | 31 => some ⟨1, 24, .sl 3, [.nl true 1]⟩
  | 35 => some ⟨1, 24, .sl 74, [.nl true 6]⟩
  | 41 => some ⟨1, 24, .sl 59, [.nl true 2]⟩
  | 46 => some ⟨1, 24, .sl 5, [.nl true 1]⟩
  | 54 => some ⟨7, 72, .st [(0, 3), (1, 3), (2, 3), (3, 3), (4, 3), (5, 9), (6, 9)], [.d (.p (.int .i64 0)), .d (.p (.int .i64 0)), .d (.p (.int .i64 0)), .d (.p (.int .i64 0)), .d (.p (.int .i64 0)), .d (.p (.string ⟨#[]⟩)), .d (.p (.string ⟨#[]⟩))]⟩
  | 55 => some ⟨7, 72, .st [(0, 3), (1, 3), (2, 3), (3, 3), (4, 3), (5, 9), (6, 9)], [.d (.p (.int .i64 0)), .d (.p (.int .i64 0)), .d (.p (.int .i64 0)), .d (.p (.int .i64 0)), .d (.p (.int .i64 0)), .d (.p (.string ⟨#[]⟩)), .d (.p (.string ⟨#[]⟩))]⟩
  | 58 => some ⟨2, 16, .st [(0, 3), (1, 3)], [.d (.p (.int .i64 0)), .d (.p (.int .i64 0))]⟩
  | 59 => some ⟨2, 16, .st [(0, 3), (1, 3)], [.d (.p (.int .i64 0)), .d (.p (.int .i64 0))]⟩
  | 62 => some ⟨7, 72, .st [(0, 3), (1, 3), (2, 3), (3, 3), (4, 3), (5, 9), (6, 9)], [.d (.p (.int .i64 0)), .d (.p (.int .i64 0)), .d (.p (.int .i64 0)), .d (.p (.int .i64 0)), .d (.p (.int .i64 0)), .d (.p (.string ⟨#[]⟩)), .d (.p (.string ⟨#[]⟩))]⟩
  | 71 => some ⟨3, 24, .st [(0, 3), (1, 3), (2, 3)], [.d (.p (.int .i64 0)), .d (.p (.int .i64 0)), .d (.p (.int .i64 0))]⟩
  | 72 => some ⟨3, 24, .st [(0, 3), (1, 3), (2, 3)], [.d (.p (.int .i64 0)), .d (.p (.int .i64 0)), .d (.p (.int .i64 0))]⟩
  | 73 => some ⟨6, 48, .st [(0, 3), (1, 3), (2, 3), (3, 72)], [.d (.p (.int .i64 0)), .d (.p (.int .i64 0)), .d (.p (.int .i64 0)), .d (.p (.int .i64 0)), .d (.p (.int .i64 0)), .d (.p (.int .i64 0))]⟩
  | 74 => some ⟨6, 48, .st [(0, 3), (1, 3), (2, 3), (3, 72)], [.d (.p (.int .i64 0)), .d (.p (.int .i64 0)), .d (.p (.int .i64 0)), .d (.p (.int .i64 0)), .d (.p (.int .i64 0)), .d (.p (.int .i64 0))]⟩
  | 77 => some ⟨1, 8, .pt 79, [.d (.p (.pointer none))]⟩
  | 78 => some ⟨1, 8, .st [(0, 3)], [.d (.p (.int .i64 0))]⟩
  | 79 => some ⟨1, 8, .st [(0, 3)], [.d (.p (.int .i64 0))]⟩
  | 80 => some ⟨1, 24, .sl 82, [.nl false 8]⟩
  | 81 => some ⟨8, 96, .st [(0, 55), (7, 80)], [.d (.p (.int .i64 0)), .d (.p (.int .i64 0)), .d (.p (.int .i64 0)), .d (.p (.int .i64 0)), .d (.p (.int .i64 0)), .d (.p (.string ⟨#[]⟩)), .d (.p (.string ⟨#[]⟩)), .nl false 8]⟩
  | 82 => some ⟨8, 96, .st [(0, 55), (7, 80)], [.d (.p (.int .i64 0)), .d (.p (.int .i64 0)), .d (.p (.int .i64 0)), .d (.p (.int .i64 0)), .d (.p (.int .i64 0)), .d (.p (.string ⟨#[]⟩)), .d (.p (.string ⟨#[]⟩)), .nl false 8]⟩
  | 91 => some ⟨1, 8, .pt 112, [.d (.p (.pointer none))]⟩
  | 99 => some ⟨1, 24, .sl 25, [.nl false 1]⟩
  | 104 => some ⟨1, 24, .sl 9, [.nl true 1]⟩
  | 111 => some ⟨3, 40, .st [(0, 46), (1, 3), (2, 3)], [.nl true 1, .d (.p (.int .i64 0)), .d (.p (.int .i64 0))]⟩
  | 112 => some ⟨3, 40, .st [(0, 46), (1, 3), (2, 3)], [.nl true 1, .d (.p (.int .i64 0)), .d (.p (.int .i64 0))]⟩
  | 128 => some ⟨1, 8, .pt 130, [.d (.p (.pointer none))]⟩
  | 129 => some ⟨2, 32, .st [(0, 128), (1, 46)], [.d (.p (.pointer none)), .nl true 1]⟩
  | 130 => some ⟨2, 32, .st [(0, 128), (1, 46)], [.d (.p (.pointer none)), .nl true 1]⟩
  | 141 => some ⟨1, 8, .sc, [.d (.p (.int .u64 0))]⟩
  | 143 => some ⟨1, 8, .pt 5, [.d (.p (.pointer none))]⟩
  | 144 => some ⟨1, 24, .sl 153, [.nl true 4]⟩
  | 147 => some ⟨5, 56, .st [(0, 144), (1, 3), (2, 3), (3, 3), (4, 3)], [.nl true 4, .d (.p (.int .i64 0)), .d (.p (.int .i64 0)), .d (.p (.int .i64 0)), .d (.p (.int .i64 0))]⟩
  | 148 => some ⟨5, 56, .st [(0, 144), (1, 3), (2, 3), (3, 3), (4, 3)], [.nl true 4, .d (.p (.int .i64 0)), .d (.p (.int .i64 0)), .d (.p (.int .i64 0)), .d (.p (.int .i64 0))]⟩
  | 152 => some ⟨4, 40, .st [(0, 3), (1, 9), (2, 3), (3, 3)], [.d (.p (.int .i64 0)), .d (.p (.string ⟨#[]⟩)), .d (.p (.int .i64 0)), .d (.p (.int .i64 0))]⟩
  | 153 => some ⟨4, 40, .st [(0, 3), (1, 9), (2, 3), (3, 3)], [.d (.p (.int .i64 0)), .d (.p (.string ⟨#[]⟩)), .d (.p (.int .i64 0)), .d (.p (.int .i64 0))]⟩
  | 176 => some ⟨1, 8, .sc, [.d (.p (.int .u64 0))]⟩
  | 186 => some ⟨1, 8, .sc, [.d (.p (.int .i64 0))]⟩
  | 194 => some ⟨1, 4, .sc, [.d (.p (.int .u32 0))]⟩
  | 199 => some ⟨1, 8, .sc, [.d (.p (.int .u64 0))]⟩
  | 203 => some ⟨1, 8, .pt 3, [.d (.p (.pointer none))]⟩
  | 206 => some ⟨2, 2, .st [(0, 5), (1, 5)], [.d (.p (.int .u8 0)), .d (.p (.int .u8 0))]⟩
  | 207 => some ⟨2, 2, .st [(0, 5), (1, 5)], [.d (.p (.int .u8 0)), .d (.p (.int .u8 0))]⟩
  | 211 => some ⟨1, 8, .pt 199, [.d (.p (.pointer none))]⟩
  | 215 => some ⟨4, 40, .st [(0, 17), (1, 17), (2, 17), (3, 9)], [.d (.p (.pointer none)), .d (.p (.pointer none)), .d (.p (.pointer none)), .d (.p (.string ⟨#[]⟩))]⟩
  | 216 => some ⟨4, 40, .st [(0, 17), (1, 17), (2, 17), (3, 9)], [.d (.p (.pointer none)), .d (.p (.pointer none)), .d (.p (.pointer none)), .d (.p (.string ⟨#[]⟩))]⟩
  | 221 => some ⟨1, 1, .sc, [.d (.p (.int .u8 0))]⟩
  | 222 => some ⟨1, 1, .sc, [.d (.p (.int .u8 0))]⟩
  | 224 => some ⟨1, 4, .sc, [.d (.p (.int .i32 0))]⟩
  | 225 => some ⟨1, 4, .sc, [.d (.p (.int .i32 0))]⟩
  | _ => none
theorem ty2 : TIok Tryd.prog tb 2 ⟨1, 8, .sc, [.d (.p (.int .i64 0))]⟩ := tiB_ok (by kernel_rfl)
theorem ty3 : TIok Tryd.prog tb 3 ⟨1, 8, .sc, [.d (.p (.int .i64 0))]⟩ := tiB_ok (by kernel_rfl)
theorem ty4 : TIok Tryd.prog tb 4 ⟨1, 1, .sc, [.d (.p (.bool false))]⟩ := tiB_ok (by kernel_rfl)
theorem ty5 : TIok Tryd.prog tb 5 ⟨1, 1, .sc, [.d (.p (.int .u8 0))]⟩ := tiB_ok (by kernel_rfl)
theorem ty6 : TIok Tryd.prog tb 6 ⟨1, 1, .sc, [.d (.p (.int .u8 0))]⟩ := tiB_ok (by kernel_rfl)
theorem ty7 : TIok Tryd.prog tb 7 ⟨4, 24, .st [(0, 2), (1, 3), (2, 4), (3, 6)], [.d (.p (.int .i64 0)), .d (.p (.int .i64 0)), .d (.p (.bool false)), .d (.p (.int .u8 0))]⟩ := tiB_ok (by kernel_rfl)
theorem ty8 : TIok Tryd.prog tb 8 ⟨4, 24, .st [(0, 2), (1, 3), (2, 4), (3, 6)], [.d (.p (.int .i64 0)), .d (.p (.int .i64 0)), .d (.p (.bool false)), .d (.p (.int .u8 0))]⟩ := tiB_ok (by kernel_rfl)
theorem ty9 : TIok Tryd.prog tb 9 ⟨1, 16, .sc, [.d (.p (.string ⟨#[]⟩))]⟩ := tiB_ok (by kernel_rfl)
theorem ty10 : TIok Tryd.prog tb 10 ⟨1, 16, .sc, [.d (.p (.string ⟨#[]⟩))]⟩ := tiB_ok (by kernel_rfl)
theorem ty11 : TIok Tryd.prog tb 11 ⟨1, 16, .sc, [.d (.p (.string ⟨#[]⟩))]⟩ := tiB_ok (by kernel_rfl)
theorem ty12 : TIok Tryd.prog tb 12 ⟨1, 8, .sc, [.d (.p (.int .u64 0))]⟩ := tiB_ok (by kernel_rfl)
theorem ty13 : TIok Tryd.prog tb 13 ⟨2, 24, .st [(0, 9), (1, 12)], [.d (.p (.string ⟨#[]⟩)), .d (.p (.int .u64 0))]⟩ := tiB_ok (by kernel_rfl)
theorem ty14 : TIok Tryd.prog tb 14 ⟨2, 24, .st [(0, 9), (1, 12)], [.d (.p (.string ⟨#[]⟩)), .d (.p (.int .u64 0))]⟩ := tiB_ok (by kernel_rfl)
theorem ty15 : TIok Tryd.prog tb 15 ⟨1, 8, .pt 216, [.d (.p (.pointer none))]⟩ := tiB_ok (by kernel_rfl)
theorem ty16 : TIok Tryd.prog tb 16 ⟨1, 8, .pt 219, [.d (.p (.pointer none))]⟩ := tiB_ok (by kernel_rfl)
theorem ty17 : TIok Tryd.prog tb 17 ⟨1, 8, .pt 227, [.d (.p (.pointer none))]⟩ := tiB_ok (by kernel_rfl)
theorem ty18 : TIok Tryd.prog tb 18 ⟨1, 8, .st [(0, 17)], [.d (.p (.pointer none))]⟩ := tiB_ok (by kernel_rfl)
theorem ty19 : TIok Tryd.prog tb 19 ⟨1, 8, .st [(0, 17)], [.d (.p (.pointer none))]⟩ := tiB_ok (by kernel_rfl)
theorem ty21 : TIok Tryd.prog tb 21 ⟨1, 4, .sc, [.d (.p (.int .i32 0))]⟩ := tiB_ok (by kernel_rfl)
theorem ty22 : TIok Tryd.prog tb 22 ⟨1, 24, .sl 62, [.nl true 7]⟩ := tiB_ok (by kernel_rfl)
theorem ty25 : TIok Tryd.prog tb 25 ⟨1, 24, .sl 55, [.nl true 7]⟩ := tiB_ok (by kernel_rfl)
theorem ty31 : TIok Tryd.prog tb 31 ⟨1, 24, .sl 3, [.nl true 1]⟩ := tiB_ok (by kernel_rfl)
theorem ty35 : TIok Tryd.prog tb 35 ⟨1, 24, .sl 74, [.nl true 6]⟩ := tiB_ok (by kernel_rfl)
theorem ty41 : TIok Tryd.prog tb 41 ⟨1, 24, .sl 59, [.nl true 2]⟩ := tiB_ok (by kernel_rfl)
theorem ty46 : TIok Tryd.prog tb 46 ⟨1, 24, .sl 5, [.nl true 1]⟩ := tiB_ok (by kernel_rfl)
theorem ty54 : TIok Tryd.prog tb 54 ⟨7, 72, .st [(0, 3), (1, 3), (2, 3), (3, 3), (4, 3), (5, 9), (6, 9)], [.d (.p (.int .i64 0)), .d (.p (.int .i64 0)), .d (.p (.int .i64 0)), .d (.p (.int .i64 0)), .d (.p (.int .i64 0)), .d (.p (.string ⟨#[]⟩)), .d (.p (.string ⟨#[]⟩))]⟩ := tiB_ok (by kernel_rfl)
theorem ty55 : TIok Tryd.prog tb 55 ⟨7, 72, .st [(0, 3), (1, 3), (2, 3), (3, 3), (4, 3), (5, 9), (6, 9)], [.d (.p (.int .i64 0)), .d (.p (.int .i64 0)), .d (.p (.int .i64 0)), .d (.p (.int .i64 0)), .d (.p (.int .i64 0)), .d (.p (.string ⟨#[]⟩)), .d (.p (.string ⟨#[]⟩))]⟩ := tiB_ok (by kernel_rfl)
theorem ty58 : TIok Tryd.prog tb 58 ⟨2, 16, .st [(0, 3), (1, 3)], [.d (.p (.int .i64 0)), .d (.p (.int .i64 0))]⟩ := tiB_ok (by kernel_rfl)
theorem ty59 : TIok Tryd.prog tb 59 ⟨2, 16, .st [(0, 3), (1, 3)], [.d (.p (.int .i64 0)), .d (.p (.int .i64 0))]⟩ := tiB_ok (by kernel_rfl)
theorem ty62 : TIok Tryd.prog tb 62 ⟨7, 72, .st [(0, 3), (1, 3), (2, 3), (3, 3), (4, 3), (5, 9), (6, 9)], [.d (.p (.int .i64 0)), .d (.p (.int .i64 0)), .d (.p (.int .i64 0)), .d (.p (.int .i64 0)), .d (.p (.int .i64 0)), .d (.p (.string ⟨#[]⟩)), .d (.p (.string ⟨#[]⟩))]⟩ := tiB_ok (by kernel_rfl)
theorem ty71 : TIok Tryd.prog tb 71 ⟨3, 24, .st [(0, 3), (1, 3), (2, 3)], [.d (.p (.int .i64 0)), .d (.p (.int .i64 0)), .d (.p (.int .i64 0))]⟩ := tiB_ok (by kernel_rfl)
theorem ty72 : TIok Tryd.prog tb 72 ⟨3, 24, .st [(0, 3), (1, 3), (2, 3)], [.d (.p (.int .i64 0)), .d (.p (.int .i64 0)), .d (.p (.int .i64 0))]⟩ := tiB_ok (by kernel_rfl)
theorem ty73 : TIok Tryd.prog tb 73 ⟨6, 48, .st [(0, 3), (1, 3), (2, 3), (3, 72)], [.d (.p (.int .i64 0)), .d (.p (.int .i64 0)), .d (.p (.int .i64 0)), .d (.p (.int .i64 0)), .d (.p (.int .i64 0)), .d (.p (.int .i64 0))]⟩ := tiB_ok (by kernel_rfl)
theorem ty74 : TIok Tryd.prog tb 74 ⟨6, 48, .st [(0, 3), (1, 3), (2, 3), (3, 72)], [.d (.p (.int .i64 0)), .d (.p (.int .i64 0)), .d (.p (.int .i64 0)), .d (.p (.int .i64 0)), .d (.p (.int .i64 0)), .d (.p (.int .i64 0))]⟩ := tiB_ok (by kernel_rfl)
theorem ty77 : TIok Tryd.prog tb 77 ⟨1, 8, .pt 79, [.d (.p (.pointer none))]⟩ := tiB_ok (by kernel_rfl)
theorem ty78 : TIok Tryd.prog tb 78 ⟨1, 8, .st [(0, 3)], [.d (.p (.int .i64 0))]⟩ := tiB_ok (by kernel_rfl)
theorem ty79 : TIok Tryd.prog tb 79 ⟨1, 8, .st [(0, 3)], [.d (.p (.int .i64 0))]⟩ := tiB_ok (by kernel_rfl)
theorem ty80 : TIok Tryd.prog tb 80 ⟨1, 24, .sl 82, [.nl false 8]⟩ := tiB_ok (by kernel_rfl)
theorem ty81 : TIok Tryd.prog tb 81 ⟨8, 96, .st [(0, 55), (7, 80)], [.d (.p (.int .i64 0)), .d (.p (.int .i64 0)), .d (.p (.int .i64 0)), .d (.p (.int .i64 0)), .d (.p (.int .i64 0)), .d (.p (.string ⟨#[]⟩)), .d (.p (.string ⟨#[]⟩)), .nl false 8]⟩ := tiB_ok (by kernel_rfl)
theorem ty82 : TIok Tryd.prog tb 82 ⟨8, 96, .st [(0, 55), (7, 80)], [.d (.p (.int .i64 0)), .d (.p (.int .i64 0)), .d (.p (.int .i64 0)), .d (.p (.int .i64 0)), .d (.p (.int .i64 0)), .d (.p (.string ⟨#[]⟩)), .d (.p (.string ⟨#[]⟩)), .nl false 8]⟩ := tiB_ok (by kernel_rfl)
theorem ty91 : TIok Tryd.prog tb 91 ⟨1, 8, .pt 112, [.d (.p (.pointer none))]⟩ := tiB_ok (by kernel_rfl)
theorem ty99 : TIok Tryd.prog tb 99 ⟨1, 24, .sl 25, [.nl false 1]⟩ := tiB_ok (by kernel_rfl)
theorem ty104 : TIok Tryd.prog tb 104 ⟨1, 24, .sl 9, [.nl true 1]⟩ := tiB_ok (by kernel_rfl)
theorem ty111 : TIok Tryd.prog tb 111 ⟨3, 40, .st [(0, 46), (1, 3), (2, 3)], [.nl true 1, .d (.p (.int .i64 0)), .d (.p (.int .i64 0))]⟩ := tiB_ok (by kernel_rfl)
theorem ty112 : TIok Tryd.prog tb 112 ⟨3, 40, .st [(0, 46), (1, 3), (2, 3)], [.nl true 1, .d (.p (.int .i64 0)), .d (.p (.int .i64 0))]⟩ := tiB_ok (by kernel_rfl)
theorem ty128 : TIok Tryd.prog tb 128 ⟨1, 8, .pt 130, [.d (.p (.pointer none))]⟩ := tiB_ok (by kernel_rfl)
theorem ty129 : TIok Tryd.prog tb 129 ⟨2, 32, .st [(0, 128), (1, 46)], [.d (.p (.pointer none)), .nl true 1]⟩ := tiB_ok (by kernel_rfl)
theorem ty130 : TIok Tryd.prog tb 130 ⟨2, 32, .st [(0, 128), (1, 46)], [.d (.p (.pointer none)), .nl true 1]⟩ := tiB_ok (by kernel_rfl)
theorem ty141 : TIok Tryd.prog tb 141 ⟨1, 8, .sc, [.d (.p (.int .u64 0))]⟩ := tiB_ok (by kernel_rfl)
theorem ty143 : TIok Tryd.prog tb 143 ⟨1, 8, .pt 5, [.d (.p (.pointer none))]⟩ := tiB_ok (by kernel_rfl)
theorem ty144 : TIok Tryd.prog tb 144 ⟨1, 24, .sl 153, [.nl true 4]⟩ := tiB_ok (by kernel_rfl)
theorem ty147 : TIok Tryd.prog tb 147 ⟨5, 56, .st [(0, 144), (1, 3), (2, 3), (3, 3), (4, 3)], [.nl true 4, .d (.p (.int .i64 0)), .d (.p (.int .i64 0)), .d (.p (.int .i64 0)), .d (.p (.int .i64 0))]⟩ := tiB_ok (by kernel_rfl)
theorem ty148 : TIok Tryd.prog tb 148 ⟨5, 56, .st [(0, 144), (1, 3), (2, 3), (3, 3), (4, 3)], [.nl true 4, .d (.p (.int .i64 0)), .d (.p (.int .i64 0)), .d (.p (.int .i64 0)), .d (.p (.int .i64 0))]⟩ := tiB_ok (by kernel_rfl)
theorem ty152 : TIok Tryd.prog tb 152 ⟨4, 40, .st [(0, 3), (1, 9), (2, 3), (3, 3)], [.d (.p (.int .i64 0)), .d (.p (.string ⟨#[]⟩)), .d (.p (.int .i64 0)), .d (.p (.int .i64 0))]⟩ := tiB_ok (by kernel_rfl)
theorem ty153 : TIok Tryd.prog tb 153 ⟨4, 40, .st [(0, 3), (1, 9), (2, 3), (3, 3)], [.d (.p (.int .i64 0)), .d (.p (.string ⟨#[]⟩)), .d (.p (.int .i64 0)), .d (.p (.int .i64 0))]⟩ := tiB_ok (by kernel_rfl)
theorem ty176 : TIok Tryd.prog tb 176 ⟨1, 8, .sc, [.d (.p (.int .u64 0))]⟩ := tiB_ok (by kernel_rfl)
theorem ty186 : TIok Tryd.prog tb 186 ⟨1, 8, .sc, [.d (.p (.int .i64 0))]⟩ := tiB_ok (by kernel_rfl)
theorem ty194 : TIok Tryd.prog tb 194 ⟨1, 4, .sc, [.d (.p (.int .u32 0))]⟩ := tiB_ok (by kernel_rfl)
theorem ty199 : TIok Tryd.prog tb 199 ⟨1, 8, .sc, [.d (.p (.int .u64 0))]⟩ := tiB_ok (by kernel_rfl)
theorem ty203 : TIok Tryd.prog tb 203 ⟨1, 8, .pt 3, [.d (.p (.pointer none))]⟩ := tiB_ok (by kernel_rfl)
theorem ty206 : TIok Tryd.prog tb 206 ⟨2, 2, .st [(0, 5), (1, 5)], [.d (.p (.int .u8 0)), .d (.p (.int .u8 0))]⟩ := tiB_ok (by kernel_rfl)
theorem ty207 : TIok Tryd.prog tb 207 ⟨2, 2, .st [(0, 5), (1, 5)], [.d (.p (.int .u8 0)), .d (.p (.int .u8 0))]⟩ := tiB_ok (by kernel_rfl)
theorem ty211 : TIok Tryd.prog tb 211 ⟨1, 8, .pt 199, [.d (.p (.pointer none))]⟩ := tiB_ok (by kernel_rfl)
theorem ty215 : TIok Tryd.prog tb 215 ⟨4, 40, .st [(0, 17), (1, 17), (2, 17), (3, 9)], [.d (.p (.pointer none)), .d (.p (.pointer none)), .d (.p (.pointer none)), .d (.p (.string ⟨#[]⟩))]⟩ := tiB_ok (by kernel_rfl)
theorem ty216 : TIok Tryd.prog tb 216 ⟨4, 40, .st [(0, 17), (1, 17), (2, 17), (3, 9)], [.d (.p (.pointer none)), .d (.p (.pointer none)), .d (.p (.pointer none)), .d (.p (.string ⟨#[]⟩))]⟩ := tiB_ok (by kernel_rfl)
theorem ty221 : TIok Tryd.prog tb 221 ⟨1, 1, .sc, [.d (.p (.int .u8 0))]⟩ := tiB_ok (by kernel_rfl)
theorem ty222 : TIok Tryd.prog tb 222 ⟨1, 1, .sc, [.d (.p (.int .u8 0))]⟩ := tiB_ok (by kernel_rfl)
theorem ty224 : TIok Tryd.prog tb 224 ⟨1, 4, .sc, [.d (.p (.int .i32 0))]⟩ := tiB_ok (by kernel_rfl)
theorem ty225 : TIok Tryd.prog tb 225 ⟨1, 4, .sc, [.d (.p (.int .i32 0))]⟩ := tiB_ok (by kernel_rfl)
theorem tb_ok : TbOk Tryd.prog tb := ⟨fun t i h => by
  unfold tb at h
  split at h
  · cases h; exact ty2
  · cases h; exact ty3
  · cases h; exact ty4
  · cases h; exact ty5
  · cases h; exact ty6
  · cases h; exact ty7
  · cases h; exact ty8
  · cases h; exact ty9
  · cases h; exact ty10
  · cases h; exact ty11
  · cases h; exact ty12
  · cases h; exact ty13
  · cases h; exact ty14
  · cases h; exact ty15
  · cases h; exact ty16
  · cases h; exact ty17
  · cases h; exact ty18
  · cases h; exact ty19
  · cases h; exact ty21
  · cases h; exact ty22
  · cases h; exact ty25
  · cases h; exact ty31
  · cases h; exact ty35
  · cases h; exact ty41
  · cases h; exact ty46
  · cases h; exact ty54
  · cases h; exact ty55
  · cases h; exact ty58
  · cases h; exact ty59
  · cases h; exact ty62
  · cases h; exact ty71
  · cases h; exact ty72
  · cases h; exact ty73
  · cases h; exact ty74
  · cases h; exact ty77
  · cases h; exact ty78
  · cases h; exact ty79
  · cases h; exact ty80
  · cases h; exact ty81
  · cases h; exact ty82
  · cases h; exact ty91
  · cases h; exact ty99
  · cases h; exact ty104
  · cases h; exact ty111
  · cases h; exact ty112
  · cases h; exact ty128
  · cases h; exact ty129
  · cases h; exact ty130
  · cases h; exact ty141
  · cases h; exact ty143
  · cases h; exact ty144
  · cases h; exact ty147
  · cases h; exact ty148
  · cases h; exact ty152
  · cases h; exact ty153
  · cases h; exact ty176
  · cases h; exact ty186
  · cases h; exact ty194
  · cases h; exact ty199
  · cases h; exact ty203
  · cases h; exact ty206
  · cases h; exact ty207
  · cases h; exact ty211
  · cases h; exact ty215
  · cases h; exact ty216
  · cases h; exact ty221
  · cases h; exact ty222
  · cases h; exact ty224
  · cases h; exact ty225
  · cases h⟩
end Go.Proofs.YtfmlamheflbgdaaDoorE
