/- Where the seat's program has these functions; written by a program. -/
import Derived.Test.YtnklgbafjppgoaaAmEq
import Derived.Test.YtnklgbafjppgoaaAmTab
import Derived.Test.YtnklgbafjppgoaaChecked
import Derived.KernelRfl
set_option linter.unusedVariables false
set_option maxRecDepth 1000000
namespace Am
open Go Go.Proofs
def seatNu : List Nat := [0, 0, 0, 210, 292, 343, 299, 75, 260, 261, 284, 283, 276, 296, 293, 559, 562, 466, 304, 301, 139, 23, 155, 266, 263, 287, 285, 291, 453, 454, 563, 464, 298, 300, 141, 151, 200, 56, 262, 458, 449, 433, 436, 450, 467, 463, 199, 167, 197, 309, 164, 52, 57, 51, 55, 462, 461, 165, 59, 35, 41, 460, 447, 452, 459, 456, 0, 0, 0, 0, 0, 0, 0, 0, 0, 0, 0, 0, 0, 0, 0, 2, 58, 0]
noncomputable def seatA : Seat := ⟨Try.prog, seatNu, [48, 49, 67, 81, 82, 83, 84]⟩
abbrev r209 : Place := ⟨3, 209, fn209, [14, 15, 16, 17, 19, 20, 21, 22, 23, 24, 25, 26, 27, 28, 29, 30, 31, 32, 33, 34, 35, 36, 37, 38, 39, 41, 42, 43, 44, 46, 47, 48, 49, 50, 51, 52, 53, 54, 55, 56, 57, 58, 59, 60, 62, 63, 64, 65, 66, 67, 68, 70, 71, 73, 74, 75, 76, 77, 78, 79, 80, 81, 82, 83, 84, 85, 86, 88, 89, 90, 91, 93, 94], [1, 6]⟩
abbrev r291 : Place := ⟨4, 291, fn291, [5, 6, 7, 8, 9, 11, 12, 13, 14, 15, 17, 18, 19, 20, 21, 23], [2]⟩
abbrev r342 : Place := ⟨5, 342, fn342, [7, 9, 10, 11, 12, 13, 14, 15, 17, 18, 19, 20, 21, 22, 23, 24, 25, 26, 27, 28, 29, 30, 31, 32, 33, 34, 35, 36, 37, 38], []⟩
abbrev r298 : Place := ⟨6, 298, fn298, [4, 5, 6, 7, 8, 9, 10, 11, 12, 13, 14, 15, 16], [1, 2, 3]⟩
abbrev r74 : Place := ⟨7, 74, fn74, [8, 9, 11, 12, 13, 14, 15, 16, 21, 22, 23, 24, 25, 26, 27, 28, 29, 30, 31, 32, 33, 34, 35, 36], [1, 4, 7]⟩
abbrev r259 : Place := ⟨8, 259, fn259, [6, 7, 8, 9, 11, 12, 13, 15, 16, 17, 18, 19, 20, 21, 22, 23, 24], []⟩
abbrev r260 : Place := ⟨9, 260, fn260, [5, 6, 7, 8, 9, 11, 12, 13, 14, 15, 17, 18, 19, 20, 21], [2, 3]⟩
abbrev r283 : Place := ⟨10, 283, fn283, [5, 6, 7, 8, 9, 10, 11, 12, 13, 14, 15, 16, 17], [2]⟩
abbrev r282 : Place := ⟨11, 282, fn282, [6, 7, 8, 10, 11, 12, 13, 14, 15, 16, 17, 18], []⟩
abbrev r275 : Place := ⟨12, 275, fn275, [6, 7, 8, 10, 11, 12, 13, 14, 15, 16, 18, 19, 20], []⟩
abbrev r295 : Place := ⟨13, 295, fn295, [5, 6, 7, 8, 9, 11], [2]⟩
abbrev r292 : Place := ⟨14, 292, fn292, [5, 6, 7, 8, 9, 11], []⟩
abbrev r558 : Place := ⟨15, 558, fn558, [8, 9, 10, 11, 12, 13, 14, 15, 16, 17, 18, 19, 20, 21, 22, 23, 24, 25, 27, 28, 29, 30, 31, 32, 33, 34, 35, 36, 37, 39, 40, 41, 42, 43, 44, 45, 46, 47, 48, 49, 50, 51, 52, 53, 54, 55, 56, 57, 58, 59, 60, 62, 63, 64, 65, 66, 67, 68, 69, 70, 71, 72, 73, 74, 75, 76, 77, 78, 80, 81, 82, 83, 84, 85, 86, 87, 88, 89, 90, 91, 92, 93, 94, 95, 96, 97, 98, 99, 100, 101, 103, 104, 105, 106, 107, 108, 109], [5, 7]⟩
abbrev r561 : Place := ⟨16, 561, fn561, [5, 6, 7, 8, 9, 10, 11, 12, 13, 14, 15, 17, 18, 19, 20, 21, 22, 23, 24, 25, 26, 27, 28, 29, 30, 31, 32, 33, 34, 35, 36, 37, 38], [2, 3]⟩
abbrev r465 : Place := ⟨17, 465, fn465, [4, 5, 6, 7, 8, 9, 10, 11], []⟩
abbrev r303 : Place := ⟨18, 303, fn303, [4, 5, 6, 7, 8, 9, 10, 11, 12, 13, 14], [1, 2, 3]⟩
abbrev r300 : Place := ⟨19, 300, fn300, [5, 6, 7, 8, 9, 10, 12, 13, 14, 15, 16, 17, 18, 19, 20, 21, 22], []⟩
abbrev r138 : Place := ⟨20, 138, fn138, [8, 9, 10, 11, 12, 13, 14, 15, 16, 17, 18, 19, 20, 22, 23, 24, 25, 26, 27, 28, 29, 31, 32, 33, 34, 35, 36, 37, 38, 39, 40, 41, 42, 43, 44, 45, 46, 47, 48, 49, 50, 51, 53, 54, 55, 56, 57, 58, 59, 60, 61, 62, 63, 68, 69, 70, 71, 72, 73, 74, 75, 76, 77, 78, 79, 80, 81, 82, 83, 85, 86, 87, 88, 89, 90, 91, 92], [1, 3, 5, 7]⟩
abbrev r22 : Place := ⟨21, 22, fn22, [5, 6, 7, 8, 9, 10, 11, 12, 14, 15, 16, 17, 18, 19, 20, 21, 22, 23, 24, 25, 26, 27, 28, 29, 30, 31], [1, 2, 3]⟩
abbrev r154 : Place := ⟨22, 154, fn154, [4, 5, 6, 7, 8, 9, 10, 11], [1]⟩
abbrev r265 : Place := ⟨23, 265, fn265, [5, 6, 7, 8, 10, 11, 12, 13, 15, 16, 17, 18, 19], [2, 3]⟩
abbrev r262 : Place := ⟨24, 262, fn262, [6, 7, 8, 9, 11, 12, 13, 15, 16, 17, 18, 19, 20, 21, 22, 23, 24, 25], []⟩
abbrev r286 : Place := ⟨25, 286, fn286, [5, 6, 7, 8, 9], [2]⟩
abbrev r284 : Place := ⟨26, 284, fn284, [6, 7, 8, 10, 11, 12, 13, 14, 15, 16, 17, 18, 19, 20, 21, 22, 23, 24, 25, 26, 27, 28, 29, 30, 31, 32, 33], []⟩
abbrev r290 : Place := ⟨27, 290, fn290, [5, 6, 7, 8, 9, 11], []⟩
abbrev r452 : Place := ⟨28, 452, fn452, [4, 5, 6, 7, 8, 9, 10, 11, 12, 13, 14, 15, 16, 17, 18, 19, 20, 21, 22, 23, 24, 25, 26, 27, 28, 29, 30, 31, 32, 33, 35, 36, 37, 38, 39, 40, 42, 43, 44, 45, 46, 47, 48, 49, 50, 51], []⟩
abbrev r453 : Place := ⟨29, 453, fn453, [3, 4, 5, 6, 7, 8, 9, 10, 11, 12, 13, 14, 15, 16], [2]⟩
abbrev r562 : Place := ⟨30, 562, fn562, [5, 6, 7, 8, 9, 10, 11, 12, 13, 14, 15, 16, 17, 18, 19, 20, 21, 22, 23, 24, 25, 26, 27, 28, 29, 30], [3]⟩
abbrev r463 : Place := ⟨31, 463, fn463, [12, 13, 14, 15, 16, 17, 18, 19, 20, 21, 22, 23, 24, 25, 27, 28, 29, 30, 31, 32, 33, 34, 36, 37, 38, 39, 40, 41, 43, 44, 45, 46, 47, 48, 49, 50, 51, 52, 53, 55, 56, 57, 58, 59, 60, 61, 62, 63, 64, 65, 66, 67, 68, 69, 70], []⟩
abbrev r297 : Place := ⟨32, 297, fn297, [5, 6, 7, 8, 9, 10, 12, 13, 14, 15, 16, 17, 18, 19, 20, 21], []⟩
abbrev r299 : Place := ⟨33, 299, fn299, [4, 5, 6, 7, 8, 9, 10, 11, 12, 13], [1, 2, 3]⟩
abbrev r140 : Place := ⟨34, 140, fn140, [5, 6, 7, 8, 9, 10, 11, 12, 13, 14, 15, 16, 17, 18, 19, 20, 22, 27, 28, 29, 30, 32], [1]⟩
abbrev r150 : Place := ⟨35, 150, fn150, [3, 4, 5, 6, 7], [1, 2]⟩
abbrev r199 : Place := ⟨36, 199, fn199, [5, 6, 7, 8, 9, 10, 11, 12, 13, 14, 15, 16, 17, 18, 19, 20, 21, 22, 23, 24, 25, 26, 27], [2, 3]⟩
abbrev r55 : Place := ⟨37, 55, fn55, [10, 11, 12, 13, 14, 18, 19, 20, 21, 22, 23, 27, 28, 29, 30, 31, 33, 34, 35, 36, 37, 38, 39, 40, 41, 42, 44, 45, 46, 47, 48, 49, 50, 51, 52, 53, 54, 55, 56, 57, 58, 59, 60, 62, 63, 64, 65, 66, 67, 68], [1, 9]⟩
abbrev r261 : Place := ⟨38, 261, fn261, [5, 6, 7, 8, 10, 11, 12, 13, 15, 16, 17, 18], [2, 3]⟩
abbrev r457 : Place := ⟨39, 457, fn457, [3, 4], []⟩
abbrev r448 : Place := ⟨40, 448, fn448, [5, 6, 7, 8, 9, 10, 11, 12, 13], []⟩
abbrev r432 : Place := ⟨41, 432, fn432, [7, 8, 9, 10, 11, 12, 13, 14], []⟩
abbrev r435 : Place := ⟨42, 435, fn435, [3, 4, 5], []⟩
abbrev r449 : Place := ⟨43, 449, fn449, [3, 4], []⟩
abbrev r466 : Place := ⟨44, 466, fn466, [9, 10, 11, 12, 13, 14, 15, 16, 17, 18, 20, 21, 22, 23, 24, 25, 26, 27, 28, 29, 30, 31, 32, 33, 35, 36], [3, 8]⟩
abbrev r462 : Place := ⟨45, 462, fn462, [8, 9, 10, 11, 12, 13, 14, 15, 16, 17, 18, 19, 20, 21, 22, 23, 25, 26, 27, 28, 29, 30, 31, 32, 33, 34, 35, 36, 37, 38, 39, 40, 41, 42, 43, 44, 46, 47], [4, 7]⟩
abbrev r198 : Place := ⟨46, 198, fn198, [5, 6, 7, 8, 9, 10], []⟩
abbrev r166 : Place := ⟨47, 166, fn166, [5, 6, 7, 8, 9, 10, 11, 12, 13], []⟩
abbrev r196 : Place := ⟨48, 196, fn196, [3, 4], []⟩
abbrev r308 : Place := ⟨49, 308, fn308, [3, 5, 6, 7], []⟩
abbrev r163 : Place := ⟨50, 163, fn163, [5, 6, 7, 8], []⟩
abbrev r51 : Place := ⟨51, 51, fn51, [3, 4, 5, 6, 7, 8], [1]⟩
abbrev r56 : Place := ⟨52, 56, fn56, [7, 8, 9, 10, 11, 12, 13, 14, 15, 16, 17, 18, 19, 20, 22, 23, 24, 25, 26, 27, 28, 29, 30], [2, 4]⟩
abbrev r50 : Place := ⟨53, 50, fn50, [6, 7, 8, 9, 10, 11, 12, 13, 14, 15, 16, 17, 18, 19, 20, 21, 22, 23, 24], [2, 3, 5]⟩
abbrev r54 : Place := ⟨54, 54, fn54, [9, 10, 11, 12, 13, 14, 15, 16, 17, 18, 19, 21, 22, 23, 24, 25, 26, 27, 28, 29, 30, 31, 32, 33, 34, 35, 36, 37, 38, 39, 40, 41, 43, 44, 45, 46, 47, 48, 49, 50, 51, 52, 53, 54, 55, 56, 57, 58, 59, 60, 62, 63, 64, 65, 66, 67, 68, 69, 70, 71, 72, 73, 74, 75, 76, 77, 78], [2, 3, 4, 6, 7]⟩
abbrev r461 : Place := ⟨55, 461, fn461, [7, 8, 9, 10, 11, 12, 13, 14, 15, 16, 17, 18, 19, 20, 21, 22, 23, 24, 25, 26, 28, 29, 30, 31, 32, 33, 34, 35, 36, 37, 38, 39, 40, 41, 42, 43, 45, 46, 47, 48, 49, 50, 51, 53, 54, 55, 56, 57, 58, 59, 60, 63, 64, 65, 66, 67, 69, 70, 71, 72, 73, 74], [3, 4, 5, 6]⟩
abbrev r460 : Place := ⟨56, 460, fn460, [8, 9, 10, 11, 12, 13, 14, 15, 16, 17, 18, 19, 20, 21, 22, 23, 24, 25, 26, 27, 29, 30, 31], [3, 5]⟩
abbrev r164 : Place := ⟨57, 164, fn164, [7, 8, 9, 10, 11, 12, 13, 14], []⟩
abbrev r58 : Place := ⟨58, 58, fn58, [3, 4, 5, 6, 7, 8, 9, 10, 11, 12, 13, 14, 15], [1, 2]⟩
abbrev r34 : Place := ⟨59, 34, fn34, [5, 6, 7, 8, 9, 10, 11, 12, 13, 14, 15, 16, 17, 18, 19, 20, 21, 22, 23, 24, 25, 26, 27, 28], [2, 3]⟩
abbrev r40 : Place := ⟨60, 40, fn40, [6, 7, 8, 9, 10, 11, 12, 13, 14, 15, 16, 17, 18, 19, 20, 21, 22, 23, 25, 26, 27, 28, 29, 30, 31, 32, 33, 34, 35], [2, 3]⟩
abbrev r459 : Place := ⟨61, 459, fn459, [3, 4, 5, 6, 7, 8, 9, 10, 11, 12, 13, 14, 15], [1, 2]⟩
abbrev r446 : Place := ⟨62, 446, fn446, [5, 6, 7, 8, 9, 10, 11, 12, 13, 14, 15, 16, 17, 18, 19, 20, 21, 22, 23, 24, 25, 26, 27, 28, 29, 30, 31, 32], [3]⟩
abbrev r451 : Place := ⟨63, 451, fn451, [5, 6, 7, 8, 9, 10, 11, 12, 13], [3]⟩
abbrev r458 : Place := ⟨64, 458, fn458, [5, 6, 7, 8, 10, 11, 12, 13, 14, 15, 16, 17], [1, 2, 4]⟩
abbrev r455 : Place := ⟨65, 455, fn455, [7, 8, 10, 11, 12, 13, 14, 15, 16, 17, 18, 19, 21, 22, 23], []⟩
theorem p209 : PlaceOk seatA r209 := .inl ⟨Try.f3, Try.func3, by kernel_rfl⟩
theorem p291 : PlaceOk seatA r291 := .inl ⟨Try.f4, Try.func4, by kernel_rfl⟩
theorem p342 : PlaceOk seatA r342 := .inl ⟨Try.f5, Try.func5, by kernel_rfl⟩
theorem p298 : PlaceOk seatA r298 := .inl ⟨Try.f6, Try.func6, by kernel_rfl⟩
theorem p74 : PlaceOk seatA r74 := .inl ⟨Try.f7, Try.func7, by kernel_rfl⟩
theorem p259 : PlaceOk seatA r259 := .inl ⟨Try.f8, Try.func8, by kernel_rfl⟩
theorem p260 : PlaceOk seatA r260 := .inl ⟨Try.f9, Try.func9, by kernel_rfl⟩
theorem p283 : PlaceOk seatA r283 := .inl ⟨Try.f10, Try.func10, by kernel_rfl⟩
theorem p282 : PlaceOk seatA r282 := .inl ⟨Try.f11, Try.func11, by kernel_rfl⟩
theorem p275 : PlaceOk seatA r275 := .inl ⟨Try.f12, Try.func12, by kernel_rfl⟩
theorem p295 : PlaceOk seatA r295 := .inl ⟨Try.f13, Try.func13, by kernel_rfl⟩
theorem p292 : PlaceOk seatA r292 := .inl ⟨Try.f14, Try.func14, by kernel_rfl⟩
theorem p558 : PlaceOk seatA r558 := .inl ⟨Try.f15, Try.func15, by kernel_rfl⟩
theorem p561 : PlaceOk seatA r561 := .inl ⟨Try.f16, Try.func16, by kernel_rfl⟩
theorem p465 : PlaceOk seatA r465 := .inl ⟨Try.f17, Try.func17, by kernel_rfl⟩
theorem p303 : PlaceOk seatA r303 := .inl ⟨Try.f18, Try.func18, by kernel_rfl⟩
theorem p300 : PlaceOk seatA r300 := .inl ⟨Try.f19, Try.func19, by kernel_rfl⟩
theorem p138 : PlaceOk seatA r138 := .inl ⟨Try.f20, Try.func20, by kernel_rfl⟩
theorem p22 : PlaceOk seatA r22 := .inl ⟨Try.f21, Try.func21, by kernel_rfl⟩
theorem p154 : PlaceOk seatA r154 := .inl ⟨Try.f22, Try.func22, by kernel_rfl⟩
theorem p265 : PlaceOk seatA r265 := .inl ⟨Try.f23, Try.func23, by kernel_rfl⟩
theorem p262 : PlaceOk seatA r262 := .inl ⟨Try.f24, Try.func24, by kernel_rfl⟩
theorem p286 : PlaceOk seatA r286 := .inl ⟨Try.f25, Try.func25, by kernel_rfl⟩
theorem p284 : PlaceOk seatA r284 := .inl ⟨Try.f26, Try.func26, by kernel_rfl⟩
theorem p290 : PlaceOk seatA r290 := .inl ⟨Try.f27, Try.func27, by kernel_rfl⟩
theorem p452 : PlaceOk seatA r452 := .inl ⟨Try.f28, Try.func28, by kernel_rfl⟩
theorem p453 : PlaceOk seatA r453 := .inl ⟨Try.f29, Try.func29, by kernel_rfl⟩
theorem p562 : PlaceOk seatA r562 := .inl ⟨Try.f30, Try.func30, by kernel_rfl⟩
theorem p463 : PlaceOk seatA r463 := .inl ⟨Try.f31, Try.func31, by kernel_rfl⟩
theorem p297 : PlaceOk seatA r297 := .inl ⟨Try.f32, Try.func32, by kernel_rfl⟩
theorem p299 : PlaceOk seatA r299 := .inl ⟨Try.f33, Try.func33, by kernel_rfl⟩
theorem p140 : PlaceOk seatA r140 := .inl ⟨Try.f34, Try.func34, by kernel_rfl⟩
theorem p150 : PlaceOk seatA r150 := .inl ⟨Try.f35, Try.func35, by kernel_rfl⟩
theorem p199 : PlaceOk seatA r199 := .inl ⟨Try.f36, Try.func36, by kernel_rfl⟩
theorem p55 : PlaceOk seatA r55 := .inl ⟨Try.f37, Try.func37, by kernel_rfl⟩
theorem p261 : PlaceOk seatA r261 := .inl ⟨Try.f38, Try.func38, by kernel_rfl⟩
theorem p457 : PlaceOk seatA r457 := .inl ⟨Try.f39, Try.func39, by kernel_rfl⟩
theorem p448 : PlaceOk seatA r448 := .inl ⟨Try.f40, Try.func40, by kernel_rfl⟩
theorem p432 : PlaceOk seatA r432 := .inl ⟨Try.f41, Try.func41, by kernel_rfl⟩
theorem p435 : PlaceOk seatA r435 := .inl ⟨Try.f42, Try.func42, by kernel_rfl⟩
theorem p449 : PlaceOk seatA r449 := .inl ⟨Try.f43, Try.func43, by kernel_rfl⟩
theorem p466 : PlaceOk seatA r466 := .inl ⟨Try.f44, Try.func44, by kernel_rfl⟩
theorem p462 : PlaceOk seatA r462 := .inl ⟨Try.f45, Try.func45, by kernel_rfl⟩
theorem p198 : PlaceOk seatA r198 := .inl ⟨Try.f46, Try.func46, by kernel_rfl⟩
theorem p166 : PlaceOk seatA r166 := .inl ⟨Try.f47, Try.func47, by kernel_rfl⟩
theorem p196 : PlaceOk seatA r196 := .inl ⟨Try.f48, Try.func48, by kernel_rfl⟩
theorem p308 : PlaceOk seatA r308 := .inl ⟨Try.f49, Try.func49, by kernel_rfl⟩
theorem p163 : PlaceOk seatA r163 := .inl ⟨Try.f50, Try.func50, by kernel_rfl⟩
theorem p51 : PlaceOk seatA r51 := .inl ⟨Try.f51, Try.func51, by kernel_rfl⟩
theorem p56 : PlaceOk seatA r56 := .inl ⟨Try.f52, Try.func52, by kernel_rfl⟩
theorem p50 : PlaceOk seatA r50 := .inl ⟨Try.f53, Try.func53, by kernel_rfl⟩
theorem p54 : PlaceOk seatA r54 := .inl ⟨Try.f54, Try.func54, by kernel_rfl⟩
theorem p461 : PlaceOk seatA r461 := .inl ⟨Try.f55, Try.func55, by kernel_rfl⟩
theorem p460 : PlaceOk seatA r460 := .inl ⟨Try.f56, Try.func56, by kernel_rfl⟩
theorem p164 : PlaceOk seatA r164 := .inl ⟨Try.f57, Try.func57, by kernel_rfl⟩
theorem p58 : PlaceOk seatA r58 := .inl ⟨Try.f58, Try.func58, by kernel_rfl⟩
theorem p34 : PlaceOk seatA r34 := .inl ⟨Try.f59, Try.func59, by kernel_rfl⟩
theorem p40 : PlaceOk seatA r40 := .inl ⟨Try.f60, Try.func60, by kernel_rfl⟩
theorem p459 : PlaceOk seatA r459 := .inl ⟨Try.f61, Try.func61, by kernel_rfl⟩
theorem p446 : PlaceOk seatA r446 := .inl ⟨Try.f62, Try.func62, by kernel_rfl⟩
theorem p451 : PlaceOk seatA r451 := .inl ⟨Try.f63, Try.func63, by kernel_rfl⟩
theorem p458 : PlaceOk seatA r458 := .inl ⟨Try.f64, Try.func64, by kernel_rfl⟩
theorem p455 : PlaceOk seatA r455 := .inl ⟨Try.f65, Try.func65, by kernel_rfl⟩
def seatRows : List Place := [r209, r291, r342, r298, r74, r259, r260, r283, r282, r275, r295, r292, r558, r561, r465, r303, r300, r138, r22, r154, r265, r262, r286, r284, r290, r452, r453, r562, r463, r297, r299, r140, r150, r199, r55, r261, r457, r448, r432, r435, r449, r466, r462, r198, r166, r196, r308, r163, r51, r56, r50, r54, r461, r460, r164, r58, r34, r40, r459, r446, r451, r458, r455]
theorem seat_placed : placed seatA.ν seatRows = true := by kernel_rfl
theorem seat_rows : Forall (PlaceOk seatA) seatRows := ⟨p209, p291, p342, p298, p74, p259, p260, p283, p282, p275, p295, p292, p558, p561, p465, p303, p300, p138, p22, p154, p265, p262, p286, p284, p290, p452, p453, p562, p463, p297, p299, p140, p150, p199, p55, p261, p457, p448, p432, p435, p449, p466, p462, p198, p166, p196, p308, p163, p51, p56, p50, p54, p461, p460, p164, p58, p34, p40, p459, p446, p451, p458, p455, trivial⟩
theorem seat_tab : Forall (fun r => look tab r.f = some r.F) seatRows := ⟨g209, g291, g342, g298, g74, g259, g260, g283, g282, g275, g295, g292, g558, g561, g465, g303, g300, g138, g22, g154, g265, g262, g286, g284, g290, g452, g453, g562, g463, g297, g299, g140, g150, g199, g55, g261, g457, g448, g432, g435, g449, g466, g462, g198, g166, g196, g308, g163, g51, g56, g50, g54, g461, g460, g164, g58, g34, g40, g459, g446, g451, g458, g455, trivial⟩
theorem seat_part : (tab.all fun p => (seatRows.any fun r => r.f == p.1) || !(seatA.ν.contains (p.1 + 1))) = true := by kernel_rfl
theorem seat_link {base : Nat} : Link seatA base Gam := link_sub seat_placed seat_rows seat_tab seat_part
theorem seat_mix : seatA.P.follows .mixedOrders = true := by kernel_rfl
theorem seat_eq : EqOk seatA := eqOk_of (by kernel_rfl) (by kernel_rfl)
end Am
