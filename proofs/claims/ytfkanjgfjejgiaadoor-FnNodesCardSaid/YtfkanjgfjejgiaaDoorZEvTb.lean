/- The types of the program as the evaluator takes them. -/
import Derived.Test.YtfkanjgfjejgiaaDoorProg
import Derived.Test.YtfkanjgfjejgiaaDoorEvTy
import Derived.KernelRfl
set_option linter.unusedSimpArgs false
set_option linter.unusedVariables false
namespace Go.Proofs.YtfkanjgfjejgiaaDoorE
open Go.Ev
def tb : Tb := fun t => match t with
  | 2 => some ⟨1, 8, .sc, [.d (.p (.int .i64 0))]⟩
  | 3 => some ⟨1, 8, .sc, [.d (.p (.int .i64 0))]⟩
  | 4 => some ⟨1, 1, .sc, [.d (.p (.bool false))]⟩
  | 5 => some ⟨1, 1, .sc, [.d (.p (.int .u8 0))]⟩
  | 6 => some ⟨1, 1, .sc, [.d (.p (.int .u8 0))]⟩
  | 7 => some ⟨4, 24, .st [(0, 2), (1, 3), (2, 4), (3, 6)], [.d (.p (.int .i64 0)), .d (.p (.int .i64 0)), .d (.p (.bool false)), .d (.p (.int .u8 0))]⟩
  | 8 => some ⟨4, 24, .st [(0, 2), (1, 3), (2, 4), (3, 6)], [.d (.p (.int .i64 0)), .d (.p (.int .i64 0)), .d (.p (.bool false)), .d (.p (.int .u8 0))]⟩
  | 9 => some ⟨1, 16, .sc, [.d (.p (.string ⟨#[]⟩))]⟩
  | 10 => some ⟨1, 16, .sc, [.d (.p (.string ⟨#[]⟩))]⟩
  | 11 => some ⟨1, 16, .sc, [.d (.p (.string ⟨#[]⟩))]⟩
  | 12 => some ⟨1, 8, .sc, [.d (.p (.int .u64 0))]⟩
  | 13 => some ⟨2, 24, .st [(0, 9), (1, 12)], [.d (.p (.string ⟨#[]⟩)), .d (.p (.int .u64 0))]⟩
  | 14 => some ⟨2, 24, .st [(0, 9), (1, 12)], [.d (.p (.string ⟨#[]⟩)), .d (.p (.int .u64 0))]⟩
  | 15 => some ⟨1, 8, .pt 184, [.d (.p (.pointer none))]⟩
  | 16 => some ⟨1, 8, .pt 187, [.d (.p (.pointer none))]⟩
  | 17 => some ⟨1, 8, .pt 194, [.d (.p (.pointer none))]⟩
  | 18 => some ⟨1, 8, .st [(0, 17)], [.d (.p (.pointer none))]⟩
  | 19 => some ⟨1, 8, .st [(0, 17)], [.d (.p (.pointer none))]⟩
  | 21 => some ⟨1, 4, .sc, [.d (.p (.int .i32 0))]⟩
  | 22 => some ⟨1, 24, .sl 5, [.nl true 1]⟩
  | 24 => some ⟨1, 24, .sl 35, [.nl true 7]⟩
  | 32 => some ⟨1, 24, .sl 3, [.nl true 1]⟩
  | 34 => some ⟨7, 72, .st [(0, 3), (1, 3), (2, 3), (3, 3), (4, 3), (5, 9), (6, 9)], [.d (.p (.int .i64 0)), .d (.p (.int .i64 0)), .d (.p (.int .i64 0)), .d (.p (.int .i64 0)), .d (.p (.int .i64 0)), .d (.p (.string ⟨#[]⟩)), .d (.p (.string ⟨#[]⟩))]⟩
  | 35 => some ⟨7, 72, .st [(0, 3), (1, 3), (2, 3), (3, 3), (4, 3), (5, 9), (6, 9)], [.d (.p (.int .i64 0)), .d (.p (.int .i64 0)), .d (.p (.int .i64 0)), .d (.p (.int .i64 0)), .d (.p (.int .i64 0)), .d (.p (.string ⟨#[]⟩)), .d (.p (.string ⟨#[]⟩))]⟩
  | 39 => some ⟨1, 24, .sl 43, [.nl true 2]⟩
  | 42 => some ⟨2, 16, .st [(0, 3), (1, 3)], [.d (.p (.int .i64 0)), .d (.p (.int .i64 0))]⟩
  | 43 => some ⟨2, 16, .st [(0, 3), (1, 3)], [.d (.p (.int .i64 0)), .d (.p (.int .i64 0))]⟩
  | 48 => some ⟨1, 8, .pt 82, [.d (.p (.pointer none))]⟩
  | 65 => some ⟨1, 24, .sl 74, [.nl true 4]⟩
  | 68 => some ⟨5, 56, .st [(0, 65), (1, 3), (2, 3), (3, 3), (4, 3)], [.nl true 4, .d (.p (.int .i64 0)), .d (.p (.int .i64 0)), .d (.p (.int .i64 0)), .d (.p (.int .i64 0))]⟩
  | 69 => some ⟨5, 56, .st [(0, 65), (1, 3), (2, 3), (3, 3), (4, 3)], [.nl true 4, .d (.p (.int .i64 0)), .d (.p (.int .i64 0)), .d (.p (.int .i64 0)), .d (.p (.int .i64 0))]⟩
  | 73 => some ⟨4, 40, .st [(0, 3), (1, 9), (2, 3), (3, 3)], [.d (.p (.int .i64 0)), .d (.p (.string ⟨#[]⟩)), .d (.p (.int .i64 0)), .d (.p (.int .i64 0))]⟩
  | 74 => some ⟨4, 40, .st [(0, 3), (1, 9), (2, 3), (3, 3)], [.d (.p (.int .i64 0)), .d (.p (.string ⟨#[]⟩)), .d (.p (.int .i64 0)), .d (.p (.int .i64 0))]⟩
  | 75 => some ⟨1, 8, .pt 77, [.d (.p (.pointer none))]⟩
  | 76 => some ⟨6, 80, .st [(0, 65), (1, 3), (2, 3), (3, 3), (4, 3), (5, 24)], [.nl true 4, .d (.p (.int .i64 0)), .d (.p (.int .i64 0)), .d (.p (.int .i64 0)), .d (.p (.int .i64 0)), .nl true 7]⟩
  | 77 => some ⟨6, 80, .st [(0, 65), (1, 3), (2, 3), (3, 3), (4, 3), (5, 24)], [.nl true 4, .d (.p (.int .i64 0)), .d (.p (.int .i64 0)), .d (.p (.int .i64 0)), .d (.p (.int .i64 0)), .nl true 7]⟩
  | 81 => some ⟨3, 40, .st [(0, 22), (1, 3), (2, 3)], [.nl true 1, .d (.p (.int .i64 0)), .d (.p (.int .i64 0))]⟩
  | 82 => some ⟨3, 40, .st [(0, 22), (1, 3), (2, 3)], [.nl true 1, .d (.p (.int .i64 0)), .d (.p (.int .i64 0))]⟩
  | 86 => some ⟨1, 24, .sl 9, [.nl true 1]⟩
  | 115 => some ⟨1, 8, .pt 117, [.d (.p (.pointer none))]⟩
  | 116 => some ⟨2, 32, .st [(0, 115), (1, 22)], [.d (.p (.pointer none)), .nl true 1]⟩
  | 117 => some ⟨2, 32, .st [(0, 115), (1, 22)], [.d (.p (.pointer none)), .nl true 1]⟩
  | 125 => some ⟨1, 24, .sl 24, [.nl false 1]⟩
  | 129 => some ⟨1, 8, .sc, [.d (.p (.int .u64 0))]⟩
  | 131 => some ⟨1, 8, .pt 5, [.d (.p (.pointer none))]⟩
  | 143 => some ⟨1, 8, .sc, [.d (.p (.int .u64 0))]⟩
  | 152 => some ⟨1, 8, .sc, [.d (.p (.int .i64 0))]⟩
  | 155 => some ⟨1, 8, .pt 168, [.d (.p (.pointer none))]⟩
  | 160 => some ⟨1, 4, .sc, [.d (.p (.int .u32 0))]⟩
  | 172 => some ⟨2, 2, .st [(0, 5), (1, 5)], [.d (.p (.int .u8 0)), .d (.p (.int .u8 0))]⟩
  | 173 => some ⟨2, 2, .st [(0, 5), (1, 5)], [.d (.p (.int .u8 0)), .d (.p (.int .u8 0))]⟩
  | 178 => some ⟨1, 8, .pt 180, [.d (.p (.pointer none))]⟩
  | 179 => some ⟨1, 16, .st [(0, 9)], [.d (.p (.string ⟨#[]⟩))]⟩
  | 180 => some ⟨1, 16, .st [(0, 9)], [.d (.p (.string ⟨#[]⟩))]⟩
  | 183 => some ⟨4, 40, .st [(0, 17), (1, 17), (2, 17), (3, 9)], [.d (.p (.pointer none)), .d (.p (.pointer none)), .d (.p (.pointer none)), .d (.p (.string ⟨#[]⟩))]⟩
  | 184 => some ⟨4, 40, .st [(0, 17), (1, 17), (2, 17), (3, 9)], [.d (.p (.pointer none)), .d (.p (.pointer none)), .d (.p (.pointer none)), .d (.p (.string ⟨#[]⟩))]⟩
  | 188 => some ⟨1, 1, .sc, [.d (.p (.int .u8 0))]⟩
  | 189 => some ⟨1, 1, .sc, [.d (.p (.int .u8 0))]⟩
  | 191 => some ⟨1, 4, .sc, [.d (.p (.int .i32 0))]⟩
  | 192 => some ⟨1, 4, .sc, [.d (.p (.int .i32 0))]⟩
  | _ => none
theorem ty2 : TIok Tryd.prog tb 2 ⟨1, 8, .sc, [.d (.p (.int .i64 0))]⟩ := tiB_ok (by kernel_rfl)
theorem ty3 : TIok Tryd.prog tb 3 ⟨1, 8, .sc, [.d (.p (.int .i64 0))]⟩ := tiB_ok (by kernel_rfl)
theorem ty4 : TIok Tryd.prog tb 4 ⟨1, 1, .sc, [.d (.p (.bool false))]⟩ := tiB_ok (by kernel_rfl)
theorem ty5 : TIok Tryd.prog tb 5 ⟨1, 1, .sc, [.d (.p (.int .u8 0))]⟩ := tiB_ok (by kernel_rfl)
theorem ty6 : TIok Tryd.prog tb 6 ⟨1, 1, .sc, [.d (.p (.int .u8 0))]⟩ := tiB_ok (by kernel_rfl)
theorem ty7 : TIok Tryd.prog tb 7 ⟨4, 24, .st [(0, 2), (1, 3), (2, 4), (3, 6)], [.d (.p (.int .i64 0)), .d (.p (.int .i64 0)), .d (.p (.bool false)), .d (.p (.int .u8 0))]⟩ := tiB_ok (by kernel_rfl)
theorem ty8 : TIok Tryd.prog tb 8 ⟨4, 24, .st [(0, 2), (1, 3), (2, 4), (3, 6)], [.d (.p (.int .i64 0)), .d (.p (.int .i64 0)), .d (.p (.bool false)), .d (.p (.int .u8 0))]⟩ := tiB_ok (by kernel_rfl)
theorem ty9 : TIok Tryd.prog tb 9 ⟨1, 16, .sc, [.d (.p (.string ⟨#[]⟩))]⟩ := tiB_ok (by kernel_rfl)
theorem ty10 : TIok Tryd.prog tb 10 ⟨1, 16, .sc, [.d (.p (.string ⟨#[]⟩))]⟩ := tiB_ok (by kernel_rfl)
theorem ty11 : TIok Tryd.prog tb 11 ⟨1, 16, .sc, [.d (.p (.string ⟨#[]⟩))]⟩ := tiB_ok (by kernel_rfl)
theorem ty12 : TIok Tryd.prog tb 12 ⟨1, 8, .sc, [.d (.p (.int .u64 0))]⟩ := tiB_ok (by kernel_rfl)
theorem ty13 : TIok Tryd.prog tb 13 ⟨2, 24, .st [(0, 9), (1, 12)], [.d (.p (.string ⟨#[]⟩)), .d (.p (.int .u64 0))]⟩ := tiB_ok (by kernel_rfl)
theorem ty14 : TIok Tryd.prog tb 14 ⟨2, 24, .st [(0, 9), (1, 12)], [.d (.p (.string ⟨#[]⟩)), .d (.p (.int .u64 0))]⟩ := tiB_ok (by kernel_rfl)
theorem ty15 : TIok Tryd.prog tb 15 ⟨1, 8, .pt 184, [.d (.p (.pointer none))]⟩ := tiB_ok (by kernel_rfl)
theorem ty16 : TIok Tryd.prog tb 16 ⟨1, 8, .pt 187, [.d (.p (.pointer none))]⟩ := tiB_ok (by kernel_rfl)
theorem ty17 : TIok Tryd.prog tb 17 ⟨1, 8, .pt 194, [.d (.p (.pointer none))]⟩ := tiB_ok (by kernel_rfl)
theorem ty18 : TIok Tryd.prog tb 18 ⟨1, 8, .st [(0, 17)], [.d (.p (.pointer none))]⟩ := tiB_ok (by kernel_rfl)
theorem ty19 : TIok Tryd.prog tb 19 ⟨1, 8, .st [(0, 17)], [.d (.p (.pointer none))]⟩ := tiB_ok (by kernel_rfl)
theorem ty21 : TIok Tryd.prog tb 21 ⟨1, 4, .sc, [.d (.p (.int .i32 0))]⟩ := tiB_ok (by kernel_rfl)
theorem ty22 : TIok Tryd.prog tb 22 ⟨1, 24, .sl 5, [.nl true 1]⟩ := tiB_ok (by kernel_rfl)
theorem ty24 : TIok Tryd.prog tb 24 ⟨1, 24, .sl 35, [.nl true 7]⟩ := tiB_ok (by kernel_rfl)
theorem ty32 : TIok Tryd.prog tb 32 ⟨1, 24, .sl 3, [.nl true 1]⟩ := tiB_ok (by kernel_rfl)
theorem ty34 : TIok Tryd.prog tb 34 ⟨7, 72, .st [(0, 3), (1, 3), (2, 3), (3, 3), (4, 3), (5, 9), (6, 9)], [.d (.p (.int .i64 0)), .d (.p (.int .i64 0)), .d (.p (.int .i64 0)), .d (.p (.int .i64 0)), .d (.p (.int .i64 0)), .d (.p (.string ⟨#[]⟩)), .d (.p (.string ⟨#[]⟩))]⟩ := tiB_ok (by kernel_rfl)
theorem ty35 : TIok Tryd.prog tb 35 ⟨7, 72, .st [(0, 3), (1, 3), (2, 3), (3, 3), (4, 3), (5, 9), (6, 9)], [.d (.p (.int .i64 0)), .d (.p (.int .i64 0)), .d (.p (.int .i64 0)), .d (.p (.int .i64 0)), .d (.p (.int .i64 0)), .d (.p (.string ⟨#[]⟩)), .d (.p (.string ⟨#[]⟩))]⟩ := tiB_ok (by kernel_rfl)
theorem ty39 : TIok Tryd.prog tb 39 ⟨1, 24, .sl 43, [.nl true 2]⟩ := tiB_ok (by kernel_rfl)
theorem ty42 : TIok Tryd.prog tb 42 ⟨2, 16, .st [(0, 3), (1, 3)], [.d (.p (.int .i64 0)), .d (.p (.int .i64 0))]⟩ := tiB_ok (by kernel_rfl)
theorem ty43 : TIok Tryd.prog tb 43 ⟨2, 16, .st [(0, 3), (1, 3)], [.d (.p (.int .i64 0)), .d (.p (.int .i64 0))]⟩ := tiB_ok (by kernel_rfl)
theorem ty48 : TIok Tryd.prog tb 48 ⟨1, 8, .pt 82, [.d (.p (.pointer none))]⟩ := tiB_ok (by kernel_rfl)
theorem ty65 : TIok Tryd.prog tb 65 ⟨1, 24, .sl 74, [.nl true 4]⟩ := tiB_ok (by kernel_rfl)
theorem ty68 : TIok Tryd.prog tb 68 ⟨5, 56, .st [(0, 65), (1, 3), (2, 3), (3, 3), (4, 3)], [.nl true 4, .d (.p (.int .i64 0)), .d (.p (.int .i64 0)), .d (.p (.int .i64 0)), .d (.p (.int .i64 0))]⟩ := tiB_ok (by kernel_rfl)
theorem ty69 : TIok Tryd.prog tb 69 ⟨5, 56, .st [(0, 65), (1, 3), (2, 3), (3, 3), (4, 3)], [.nl true 4, .d (.p (.int .i64 0)), .d (.p (.int .i64 0)), .d (.p (.int .i64 0)), .d (.p (.int .i64 0))]⟩ := tiB_ok (by kernel_rfl)
theorem ty73 : TIok Tryd.prog tb 73 ⟨4, 40, .st [(0, 3), (1, 9), (2, 3), (3, 3)], [.d (.p (.int .i64 0)), .d (.p (.string ⟨#[]⟩)), .d (.p (.int .i64 0)), .d (.p (.int .i64 0))]⟩ := tiB_ok (by kernel_rfl)
theorem ty74 : TIok Tryd.prog tb 74 ⟨4, 40, .st [(0, 3), (1, 9), (2, 3), (3, 3)], [.d (.p (.int .i64 0)), .d (.p (.string ⟨#[]⟩)), .d (.p (.int .i64 0)), .d (.p (.int .i64 0))]⟩ := tiB_ok (by kernel_rfl)
theorem ty75 : TIok Tryd.prog tb 75 ⟨1, 8, .pt 77, [.d (.p (.pointer none))]⟩ := tiB_ok (by kernel_rfl)
theorem ty76 : TIok Tryd.prog tb 76 ⟨6, 80, .st [(0, 65), (1, 3), (2, 3), (3, 3), (4, 3), (5, 24)], [.nl true 4, .d (.p (.int .i64 0)), .d (.p (.int .i64 0)), .d (.p (.int .i64 0)), .d (.p (.int .i64 0)), .nl true 7]⟩ := tiB_ok (by kernel_rfl)
theorem ty77 : TIok Tryd.prog tb 77 ⟨6, 80, .st [(0, 65), (1, 3), (2, 3), (3, 3), (4, 3), (5, 24)], [.nl true 4, .d (.p (.int .i64 0)), .d (.p (.int .i64 0)), .d (.p (.int .i64 0)), .d (.p (.int .i64 0)), .nl true 7]⟩ := tiB_ok (by kernel_rfl)
theorem ty81 : TIok Tryd.prog tb 81 ⟨3, 40, .st [(0, 22), (1, 3), (2, 3)], [.nl true 1, .d (.p (.int .i64 0)), .d (.p (.int .i64 0))]⟩ := tiB_ok (by kernel_rfl)
theorem ty82 : TIok Tryd.prog tb 82 ⟨3, 40, .st [(0, 22), (1, 3), (2, 3)], [.nl true 1, .d (.p (.int .i64 0)), .d (.p (.int .i64 0))]⟩ := tiB_ok (by kernel_rfl)
theorem ty86 : TIok Tryd.prog tb 86 ⟨1, 24, .sl 9, [.nl true 1]⟩ := tiB_ok (by kernel_rfl)
theorem ty115 : TIok Tryd.prog tb 115 ⟨1, 8, .pt 117, [.d (.p (.pointer none))]⟩ := tiB_ok (by kernel_rfl)
theorem ty116 : TIok Tryd.prog tb 116 ⟨2, 32, .st [(0, 115), (1, 22)], [.d (.p (.pointer none)), .nl true 1]⟩ := tiB_ok (by kernel_rfl)
theorem ty117 : TIok Tryd.prog tb 117 ⟨2, 32, .st [(0, 115), (1, 22)], [.d (.p (.pointer none)), .nl true 1]⟩ := tiB_ok (by kernel_rfl)
theorem ty125 : TIok Tryd.prog tb 125 ⟨1, 24, .sl 24, [.nl false 1]⟩ := tiB_ok (by kernel_rfl)
theorem ty129 : TIok Tryd.prog tb 129 ⟨1, 8, .sc, [.d (.p (.int .u64 0))]⟩ := tiB_ok (by kernel_rfl)
theorem ty131 : TIok Tryd.prog tb 131 ⟨1, 8, .pt 5, [.d (.p (.pointer none))]⟩ := tiB_ok (by kernel_rfl)
theorem ty143 : TIok Tryd.prog tb 143 ⟨1, 8, .sc, [.d (.p (.int .u64 0))]⟩ := tiB_ok (by kernel_rfl)
theorem ty152 : TIok Tryd.prog tb 152 ⟨1, 8, .sc, [.d (.p (.int .i64 0))]⟩ := tiB_ok (by kernel_rfl)
theorem ty155 : TIok Tryd.prog tb 155 ⟨1, 8, .pt 168, [.d (.p (.pointer none))]⟩ := tiB_ok (by kernel_rfl)
theorem ty160 : TIok Tryd.prog tb 160 ⟨1, 4, .sc, [.d (.p (.int .u32 0))]⟩ := tiB_ok (by kernel_rfl)
theorem ty172 : TIok Tryd.prog tb 172 ⟨2, 2, .st [(0, 5), (1, 5)], [.d (.p (.int .u8 0)), .d (.p (.int .u8 0))]⟩ := tiB_ok (by kernel_rfl)
theorem ty173 : TIok Tryd.prog tb 173 ⟨2, 2, .st [(0, 5), (1, 5)], [.d (.p (.int .u8 0)), .d (.p (.int .u8 0))]⟩ := tiB_ok (by kernel_rfl)
theorem ty178 : TIok Tryd.prog tb 178 ⟨1, 8, .pt 180, [.d (.p (.pointer none))]⟩ := tiB_ok (by kernel_rfl)
theorem ty179 : TIok Tryd.prog tb 179 ⟨1, 16, .st [(0, 9)], [.d (.p (.string ⟨#[]⟩))]⟩ := tiB_ok (by kernel_rfl)
theorem ty180 : TIok Tryd.prog tb 180 ⟨1, 16, .st [(0, 9)], [.d (.p (.string ⟨#[]⟩))]⟩ := tiB_ok (by kernel_rfl)
theorem ty183 : TIok Tryd.prog tb 183 ⟨4, 40, .st [(0, 17), (1, 17), (2, 17), (3, 9)], [.d (.p (.pointer none)), .d (.p (.pointer none)), .d (.p (.pointer none)), .d (.p (.string ⟨#[]⟩))]⟩ := tiB_ok (by kernel_rfl)
theorem ty184 : TIok Tryd.prog tb 184 ⟨4, 40, .st [(0, 17), (1, 17), (2, 17), (3, 9)], [.d (.p (.pointer none)), .d (.p (.pointer none)), .d (.p (.pointer none)), .d (.p (.string ⟨#[]⟩))]⟩ := tiB_ok (by kernel_rfl)
theorem ty188 : TIok Tryd.prog tb 188 ⟨1, 1, .sc, [.d (.p (.int .u8 0))]⟩ := tiB_ok (by kernel_rfl)
theorem ty189 : TIok Tryd.prog tb 189 ⟨1, 1, .sc, [.d (.p (.int .u8 0))]⟩ := tiB_ok (by kernel_rfl)
theorem ty191 : TIok Tryd.prog tb 191 ⟨1, 4, .sc, [.d (.p (.int .i32 0))]⟩ := tiB_ok (by kernel_rfl)
theorem ty192 : TIok Tryd.prog tb 192 ⟨1, 4, .sc, [.d (.p (.int .i32 0))]⟩ := tiB_ok (by kernel_rfl)
theorem tb_ok : TbOk Tryd.prog tb := ⟨fun t i h => by
  unfold tb at h
  split at h
  · cases h; exact ty2
  · cases h; exact ty3
  · cases h; exact ty4
  · cases h; exact ty5
  · cases h; exact ty6
  · cases h; exact ty7
  · cases h; exact ty8
  · cases h; exact ty9
  · cases h; exact ty10
  · cases h; exact ty11
  · cases h; exact ty12
  · cases h; exact ty13
  · cases h; exact ty14
  · cases h; exact ty15
  · cases h; exact ty16
  · cases h; exact ty17
  · cases h; exact ty18
  · cases h; exact ty19
  · cases h; exact ty21
  · cases h; exact ty22
  · cases h; exact ty24
  · cases h; exact ty32
  · cases h; exact ty34
  · cases h; exact ty35
  · cases h; exact ty39
  · cases h; exact ty42
  · cases h; exact ty43
  · cases h; exact ty48
  · cases h; exact ty65
  · cases h; exact ty68
  · cases h; exact ty69
  · cases h; exact ty73
  · cases h; exact ty74
  · cases h; exact ty75
  · cases h; exact ty76
  · cases h; exact ty77
  · cases h; exact ty81
  · cases h; exact ty82
  · cases h; exact ty86
  · cases h; exact ty115
  · cases h; exact ty116
  · cases h; exact ty117
  · cases h; exact ty125
  · cases h; exact ty129
  · cases h; exact ty131
  · cases h; exact ty143
  · cases h; exact ty152
  · cases h; exact ty155
  · cases h; exact ty160
  · cases h; exact ty172
  · cases h; exact ty173
  · cases h; exact ty178
  · cases h; exact ty179
  · cases h; exact ty180
  · cases h; exact ty183
  · cases h; exact ty184
  · cases h; exact ty188
  · cases h; exact ty189
  · cases h; exact ty191
  · cases h; exact ty192
  · cases h⟩
end Go.Proofs.YtfkanjgfjejgiaaDoorE
