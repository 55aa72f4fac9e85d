/- Where the seat's program has these functions; written by a program. -/
import Derived.Test.YtaifanhmihbilaaAmLink
import Derived.Test.YtaifanhmihbilaaAmTab
import Derived.Test.YtaifanhmihbilaaChecked
import Derived.KernelRfl
set_option linter.unusedVariables false
set_option maxRecDepth 1000000
namespace Am
open Go Go.Proofs
def seatNu : List Nat := [0, 0, 0, 218, 208, 232, 213, 236, 220, 381, 88, 334, 65, 400, 109, 346, 79, 269, 289, 282, 412, 121, 297, 383, 306, 90, 268, 288, 281, 574, 458, 573, 199, 182, 582, 290, 568, 184, 305, 267, 433, 449, 165, 167, 0, 0, 0, 0, 0, 0, 0, 0, 0, 0, 0, 0, 0, 0, 0, 0]
noncomputable def seatA : Seat := ⟨Try.prog, seatNu, []⟩
theorem p217 : PlaceOk seatA ⟨3, 217, fn217, [5, 6, 8, 9, 10, 11, 12, 13], []⟩ := ⟨Try.f3, Try.func3, by kernel_rfl⟩
theorem p207 : PlaceOk seatA ⟨4, 207, fn207, [5, 6, 8, 9, 10, 11, 12, 13], []⟩ := ⟨Try.f4, Try.func4, by kernel_rfl⟩
theorem p231 : PlaceOk seatA ⟨5, 231, fn231, [9, 10, 11, 12, 13, 14, 15, 16, 17, 18, 19, 20, 21, 22, 23, 24, 25, 26, 27], []⟩ := ⟨Try.f5, Try.func5, by kernel_rfl⟩
theorem p212 : PlaceOk seatA ⟨6, 212, fn212, [6, 7, 8, 9, 10, 12, 13, 14, 15, 16, 17, 18, 20, 21, 23, 24, 25, 26, 28, 29, 30, 31, 33, 34], []⟩ := ⟨Try.f6, Try.func6, by kernel_rfl⟩
theorem p235 : PlaceOk seatA ⟨7, 235, fn235, [7, 8, 10, 11, 12, 13, 14, 15, 16, 17, 18, 19, 20, 21, 22, 23, 24, 25, 26], []⟩ := ⟨Try.f7, Try.func7, by kernel_rfl⟩
theorem p219 : PlaceOk seatA ⟨8, 219, fn219, [11, 12, 13, 14, 16, 17, 18, 19, 20, 21, 22, 23, 24, 25, 27, 28, 29, 30, 32, 33, 34, 35, 36, 37, 38, 39, 40, 41, 43, 44, 45, 46, 47, 48, 49, 51, 52, 54, 55, 56, 57, 58, 59, 61, 62, 63, 64, 66, 67], []⟩ := ⟨Try.f8, Try.func8, by kernel_rfl⟩
theorem p380 : PlaceOk seatA ⟨9, 380, fn380, [6, 7, 8, 9, 11, 12, 13, 14, 15, 16, 17, 18, 19, 20, 21, 22, 23, 24, 25, 26, 27, 28, 29], []⟩ := ⟨Try.f9, Try.func9, by kernel_rfl⟩
theorem p87 : PlaceOk seatA ⟨10, 87, fn87, [5, 6, 10, 11, 12, 13, 14, 15, 16, 17, 18, 19, 20, 21, 22, 23, 24, 25, 26], []⟩ := ⟨Try.f10, Try.func10, by kernel_rfl⟩
theorem p333 : PlaceOk seatA ⟨11, 333, fn333, [3, 4], []⟩ := ⟨Try.f11, Try.func11, by kernel_rfl⟩
theorem p64 : PlaceOk seatA ⟨12, 64, fn64, [6, 10, 11, 12, 13, 14, 15, 16, 17, 18, 19, 20, 21, 22, 23, 24, 25, 26], []⟩ := ⟨Try.f12, Try.func12, by kernel_rfl⟩
theorem p399 : PlaceOk seatA ⟨13, 399, fn399, [6, 7, 8, 9, 10, 11, 12, 14, 15, 16], []⟩ := ⟨Try.f13, Try.func13, by kernel_rfl⟩
theorem p108 : PlaceOk seatA ⟨14, 108, fn108, [6, 7, 8, 10, 11, 12], []⟩ := ⟨Try.f14, Try.func14, by kernel_rfl⟩
theorem p345 : PlaceOk seatA ⟨15, 345, fn345, [1], []⟩ := ⟨Try.f15, Try.func15, by kernel_rfl⟩
theorem p78 : PlaceOk seatA ⟨16, 78, fn78, [1], []⟩ := ⟨Try.f16, Try.func16, by kernel_rfl⟩
theorem p268 : PlaceOk seatA ⟨17, 268, fn268, [6, 7, 8, 9, 11, 12, 13, 15, 16, 17, 18, 19, 20, 21, 22, 23, 24], []⟩ := ⟨Try.f17, Try.func17, by kernel_rfl⟩
theorem p288 : PlaceOk seatA ⟨18, 288, fn288, [6, 7, 8, 10, 11, 12, 13, 14, 15, 16, 17, 18, 19], []⟩ := ⟨Try.f18, Try.func18, by kernel_rfl⟩
theorem p281 : PlaceOk seatA ⟨19, 281, fn281, [6, 7, 8, 10, 11, 12, 13, 14, 15, 16, 17, 19, 20, 21], []⟩ := ⟨Try.f19, Try.func19, by kernel_rfl⟩
theorem p411 : PlaceOk seatA ⟨20, 411, fn411, [8, 9, 10, 12, 13, 14, 15, 17, 18, 19, 20, 21, 22, 23, 24, 25, 26, 27, 28, 29, 30, 31, 32, 34, 35, 36, 37, 38, 39, 40, 41, 42, 43], []⟩ := ⟨Try.f20, Try.func20, by kernel_rfl⟩
theorem p120 : PlaceOk seatA ⟨21, 120, fn120, [8, 9, 10, 12, 13, 14, 15, 17, 18, 19, 20, 21, 22, 23, 24, 25, 26, 27, 28, 29, 30, 31, 32, 34, 35, 36, 37, 38, 39, 40, 41, 42, 43], []⟩ := ⟨Try.f21, Try.func21, by kernel_rfl⟩
theorem p296 : PlaceOk seatA ⟨22, 296, fn296, [5, 6, 7, 8, 9, 11], []⟩ := ⟨Try.f22, Try.func22, by kernel_rfl⟩
theorem p382 : PlaceOk seatA ⟨23, 382, fn382, [5, 6, 7, 8, 9, 11, 12, 13, 14, 15, 16, 17, 18, 19, 20, 21, 22, 23, 24, 25, 26, 27, 28, 29, 30, 31, 32], []⟩ := ⟨Try.f23, Try.func23, by kernel_rfl⟩
theorem p305 : PlaceOk seatA ⟨24, 305, fn305, [5, 6, 7, 8, 9, 10, 12, 13, 14, 15, 16, 17, 18, 19, 20, 21, 22], []⟩ := ⟨Try.f24, Try.func24, by kernel_rfl⟩
theorem p89 : PlaceOk seatA ⟨25, 89, fn89, [5, 6, 7, 8, 9, 11, 12, 13, 14, 15, 16, 17, 18, 19, 20, 21, 22, 23, 24, 25, 26, 27, 28, 29, 30, 31, 32], []⟩ := ⟨Try.f25, Try.func25, by kernel_rfl⟩
theorem p267 : PlaceOk seatA ⟨26, 267, fn267, [6, 7, 8, 9, 11, 12, 13, 15, 16, 17, 18, 19, 20, 21, 22, 23, 24, 25], []⟩ := ⟨Try.f26, Try.func26, by kernel_rfl⟩
theorem p287 : PlaceOk seatA ⟨27, 287, fn287, [6, 7, 8, 10, 11, 12, 13, 14, 15, 16, 17, 18, 19, 20, 21, 22, 23, 24, 25, 26, 27, 28, 29, 30, 31, 32, 33], []⟩ := ⟨Try.f27, Try.func27, by kernel_rfl⟩
theorem p280 : PlaceOk seatA ⟨28, 280, fn280, [6, 7, 8, 10, 11, 12, 13, 14, 15, 16, 17, 19, 20, 21, 22, 23, 24, 25, 26, 28, 29, 30, 31, 32, 33, 34, 35, 37, 38, 39], []⟩ := ⟨Try.f28, Try.func28, by kernel_rfl⟩
theorem p573 : PlaceOk seatA ⟨29, 573, fn573, [6, 7, 8, 10, 11, 12, 13, 14, 15, 16, 17, 18, 19, 20, 21, 22, 23, 24, 25, 26], []⟩ := ⟨Try.f29, Try.func29, by kernel_rfl⟩
theorem p457 : PlaceOk seatA ⟨30, 457, fn457, [3, 4], []⟩ := ⟨Try.f30, Try.func30, by kernel_rfl⟩
theorem p572 : PlaceOk seatA ⟨31, 572, fn572, [5, 6, 7, 8, 9, 10, 11], []⟩ := ⟨Try.f31, Try.func31, by kernel_rfl⟩
theorem p198 : PlaceOk seatA ⟨32, 198, fn198, [5, 6, 7, 8, 9, 10], []⟩ := ⟨Try.f32, Try.func32, by kernel_rfl⟩
theorem p181 : PlaceOk seatA ⟨33, 181, fn181, [5, 6, 7, 8, 9, 10], []⟩ := ⟨Try.f33, Try.func33, by kernel_rfl⟩
theorem p581 : PlaceOk seatA ⟨34, 581, fn581, [1], []⟩ := ⟨Try.f34, Try.func34, by kernel_rfl⟩
theorem p289 : PlaceOk seatA ⟨35, 289, fn289, [4, 6, 8, 9, 10, 11, 12, 13, 14, 15, 16, 17, 18, 19], []⟩ := ⟨Try.f35, Try.func35, by kernel_rfl⟩
theorem p567 : PlaceOk seatA ⟨36, 567, fn567, [4, 5, 6, 7, 8, 9, 10, 11, 12, 14, 15, 16, 17, 18, 19, 20, 21, 22, 23], []⟩ := ⟨Try.f36, Try.func36, by kernel_rfl⟩
theorem p183 : PlaceOk seatA ⟨37, 183, fn183, [8, 9, 10, 11, 13, 14, 15, 16, 17, 18, 20], []⟩ := ⟨Try.f37, Try.func37, by kernel_rfl⟩
theorem p304 : PlaceOk seatA ⟨38, 304, fn304, [4, 5, 6, 7, 8, 9, 10, 11, 12, 13], [1, 2, 3]⟩ := ⟨Try.f38, Try.func38, by kernel_rfl⟩
theorem p266 : PlaceOk seatA ⟨39, 266, fn266, [5, 6, 7, 8, 10, 11, 12, 13, 15, 16, 17, 18], [2, 3]⟩ := ⟨Try.f39, Try.func39, by kernel_rfl⟩
theorem p432 : PlaceOk seatA ⟨40, 432, fn432, [7, 8, 9, 10, 11, 12, 13, 14], []⟩ := ⟨Try.f40, Try.func40, by kernel_rfl⟩
theorem p448 : PlaceOk seatA ⟨41, 448, fn448, [5, 6, 7, 8, 9, 10, 11, 12, 13], []⟩ := ⟨Try.f41, Try.func41, by kernel_rfl⟩
theorem p164 : PlaceOk seatA ⟨42, 164, fn164, [7, 8, 9, 10, 11, 12, 13, 14], []⟩ := ⟨Try.f42, Try.func42, by kernel_rfl⟩
theorem p166 : PlaceOk seatA ⟨43, 166, fn166, [5, 6, 7, 8, 9, 10, 11, 12, 13], []⟩ := ⟨Try.f43, Try.func43, by kernel_rfl⟩
def seatRows : List Place := [⟨3, 217, fn217, [5, 6, 8, 9, 10, 11, 12, 13], []⟩,
  ⟨4, 207, fn207, [5, 6, 8, 9, 10, 11, 12, 13], []⟩,
  ⟨5, 231, fn231, [9, 10, 11, 12, 13, 14, 15, 16, 17, 18, 19, 20, 21, 22, 23, 24, 25, 26, 27], []⟩,
  ⟨6, 212, fn212, [6, 7, 8, 9, 10, 12, 13, 14, 15, 16, 17, 18, 20, 21, 23, 24, 25, 26, 28, 29, 30, 31, 33, 34], []⟩,
  ⟨7, 235, fn235, [7, 8, 10, 11, 12, 13, 14, 15, 16, 17, 18, 19, 20, 21, 22, 23, 24, 25, 26], []⟩,
  ⟨8, 219, fn219, [11, 12, 13, 14, 16, 17, 18, 19, 20, 21, 22, 23, 24, 25, 27, 28, 29, 30, 32, 33, 34, 35, 36, 37, 38, 39, 40, 41, 43, 44, 45, 46, 47, 48, 49, 51, 52, 54, 55, 56, 57, 58, 59, 61, 62, 63, 64, 66, 67], []⟩,
  ⟨9, 380, fn380, [6, 7, 8, 9, 11, 12, 13, 14, 15, 16, 17, 18, 19, 20, 21, 22, 23, 24, 25, 26, 27, 28, 29], []⟩,
  ⟨10, 87, fn87, [5, 6, 10, 11, 12, 13, 14, 15, 16, 17, 18, 19, 20, 21, 22, 23, 24, 25, 26], []⟩,
  ⟨11, 333, fn333, [3, 4], []⟩,
  ⟨12, 64, fn64, [6, 10, 11, 12, 13, 14, 15, 16, 17, 18, 19, 20, 21, 22, 23, 24, 25, 26], []⟩,
  ⟨13, 399, fn399, [6, 7, 8, 9, 10, 11, 12, 14, 15, 16], []⟩,
  ⟨14, 108, fn108, [6, 7, 8, 10, 11, 12], []⟩,
  ⟨15, 345, fn345, [1], []⟩,
  ⟨16, 78, fn78, [1], []⟩,
  ⟨17, 268, fn268, [6, 7, 8, 9, 11, 12, 13, 15, 16, 17, 18, 19, 20, 21, 22, 23, 24], []⟩,
  ⟨18, 288, fn288, [6, 7, 8, 10, 11, 12, 13, 14, 15, 16, 17, 18, 19], []⟩,
  ⟨19, 281, fn281, [6, 7, 8, 10, 11, 12, 13, 14, 15, 16, 17, 19, 20, 21], []⟩,
  ⟨20, 411, fn411, [8, 9, 10, 12, 13, 14, 15, 17, 18, 19, 20, 21, 22, 23, 24, 25, 26, 27, 28, 29, 30, 31, 32, 34, 35, 36, 37, 38, 39, 40, 41, 42, 43], []⟩,
  ⟨21, 120, fn120, [8, 9, 10, 12, 13, 14, 15, 17, 18, 19, 20, 21, 22, 23, 24, 25, 26, 27, 28, 29, 30, 31, 32, 34, 35, 36, 37, 38, 39, 40, 41, 42, 43], []⟩,
  ⟨22, 296, fn296, [5, 6, 7, 8, 9, 11], []⟩,
  ⟨23, 382, fn382, [5, 6, 7, 8, 9, 11, 12, 13, 14, 15, 16, 17, 18, 19, 20, 21, 22, 23, 24, 25, 26, 27, 28, 29, 30, 31, 32], []⟩,
  ⟨24, 305, fn305, [5, 6, 7, 8, 9, 10, 12, 13, 14, 15, 16, 17, 18, 19, 20, 21, 22], []⟩,
  ⟨25, 89, fn89, [5, 6, 7, 8, 9, 11, 12, 13, 14, 15, 16, 17, 18, 19, 20, 21, 22, 23, 24, 25, 26, 27, 28, 29, 30, 31, 32], []⟩,
  ⟨26, 267, fn267, [6, 7, 8, 9, 11, 12, 13, 15, 16, 17, 18, 19, 20, 21, 22, 23, 24, 25], []⟩,
  ⟨27, 287, fn287, [6, 7, 8, 10, 11, 12, 13, 14, 15, 16, 17, 18, 19, 20, 21, 22, 23, 24, 25, 26, 27, 28, 29, 30, 31, 32, 33], []⟩,
  ⟨28, 280, fn280, [6, 7, 8, 10, 11, 12, 13, 14, 15, 16, 17, 19, 20, 21, 22, 23, 24, 25, 26, 28, 29, 30, 31, 32, 33, 34, 35, 37, 38, 39], []⟩,
  ⟨29, 573, fn573, [6, 7, 8, 10, 11, 12, 13, 14, 15, 16, 17, 18, 19, 20, 21, 22, 23, 24, 25, 26], []⟩,
  ⟨30, 457, fn457, [3, 4], []⟩,
  ⟨31, 572, fn572, [5, 6, 7, 8, 9, 10, 11], []⟩,
  ⟨32, 198, fn198, [5, 6, 7, 8, 9, 10], []⟩,
  ⟨33, 181, fn181, [5, 6, 7, 8, 9, 10], []⟩,
  ⟨34, 581, fn581, [1], []⟩,
  ⟨35, 289, fn289, [4, 6, 8, 9, 10, 11, 12, 13, 14, 15, 16, 17, 18, 19], []⟩,
  ⟨36, 567, fn567, [4, 5, 6, 7, 8, 9, 10, 11, 12, 14, 15, 16, 17, 18, 19, 20, 21, 22, 23], []⟩,
  ⟨37, 183, fn183, [8, 9, 10, 11, 13, 14, 15, 16, 17, 18, 20], []⟩,
  ⟨38, 304, fn304, [4, 5, 6, 7, 8, 9, 10, 11, 12, 13], [1, 2, 3]⟩,
  ⟨39, 266, fn266, [5, 6, 7, 8, 10, 11, 12, 13, 15, 16, 17, 18], [2, 3]⟩,
  ⟨40, 432, fn432, [7, 8, 9, 10, 11, 12, 13, 14], []⟩,
  ⟨41, 448, fn448, [5, 6, 7, 8, 9, 10, 11, 12, 13], []⟩,
  ⟨42, 164, fn164, [7, 8, 9, 10, 11, 12, 13, 14], []⟩,
  ⟨43, 166, fn166, [5, 6, 7, 8, 9, 10, 11, 12, 13], []⟩]
theorem seat_placed : placed seatA.ν seatRows = true := by kernel_rfl
theorem seat_rows : Forall (PlaceOk seatA) seatRows := ⟨p217, p207, p231, p212, p235, p219, p380, p87, p333, p64, p399, p108, p345, p78, p268, p288, p281, p411, p120, p296, p382, p305, p89, p267, p287, p280, p573, p457, p572, p198, p181, p581, p289, p567, p183, p304, p266, p432, p448, p164, p166, trivial⟩
theorem seat_tab : Forall (fun r => look tab r.f = some r.F) seatRows := ⟨g217, g207, g231, g212, g235, g219, g380, g87, g333, g64, g399, g108, g345, g78, g268, g288, g281, g411, g120, g296, g382, g305, g89, g267, g287, g280, g573, g457, g572, g198, g181, g581, g289, g567, g183, g304, g266, g432, g448, g164, g166, trivial⟩
theorem seat_part : (tab.all fun p => (seatRows.any fun r => r.f == p.1) || !(seatA.ν.contains (p.1 + 1))) = true := by kernel_rfl
theorem seat_link {base : Nat} : Link seatA base Gam := link_sub seat_placed seat_rows seat_tab seat_part
theorem seat_mix : seatA.P.follows .mixedOrders = true := by kernel_rfl
theorem seat_eq : EqOk seatA := eqOk_nil
end Am
