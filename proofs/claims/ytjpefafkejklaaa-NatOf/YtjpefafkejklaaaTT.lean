/- The types of the program: what of them the abstract logic wants to know. -/
import Derived.Test.YtjpefafkejklaaaProg
import Derived.Test.YtjpefafkejklaaaAL16
import Derived.KernelRfl
namespace Go.Proofs.Ytjpefafkejklaaa
open Go Go.AL

def TT : Nat → Option TI := findTI [
  (1, ⟨.func, 1, 8, [.nilFunc]⟩),
  (2, ⟨.int .i64, 1, 8, [.int .i64 0]⟩),
  (3, ⟨.int .i64, 1, 8, [.int .i64 0]⟩),
  (4, ⟨.bool, 1, 1, [.bool false]⟩),
  (5, ⟨.int .u8, 1, 1, [.int .u8 0]⟩),
  (9, ⟨.str, 1, 16, [.string ByteArray.empty]⟩),
  (12, ⟨.int .u64, 1, 8, [.int .u64 0]⟩),
  (21, ⟨.int .i32, 1, 4, [.int .i32 0]⟩),
  (22, ⟨.slice 9, 1, 24, [.slice none 0 0]⟩),
  (23, ⟨.func, 1, 8, [.nilFunc]⟩),
  (24, ⟨.slice 27, 1, 24, [.slice none 0 0]⟩),
  (25, ⟨.func, 1, 8, [.nilFunc]⟩),
  (26, ⟨.struct [(0, 9), (1, 3), (2, 3)], 3, 32, [.string ByteArray.empty, .int .i64 0, .int .i64 0]⟩),
  (27, ⟨.struct [(0, 9), (1, 3), (2, 3)], 3, 32, [.string ByteArray.empty, .int .i64 0, .int .i64 0]⟩),
  (28, ⟨.func, 1, 8, [.nilFunc]⟩),
  (29, ⟨.slice 21, 1, 24, [.slice none 0 0]⟩),
  (30, ⟨.struct [(0, 3), (1, 22)], 2, 32, [.int .i64 0, .slice none 0 0]⟩),
  (31, ⟨.struct [(0, 3), (1, 22)], 2, 32, [.int .i64 0, .slice none 0 0]⟩),
  (33, ⟨.func, 1, 8, [.nilFunc]⟩),
  (34, ⟨.func, 1, 8, [.nilFunc]⟩),
  (35, ⟨.func, 1, 8, [.nilFunc]⟩),
  (36, ⟨.func, 1, 8, [.nilFunc]⟩),
  (38, ⟨.func, 1, 8, [.nilFunc]⟩),
  (39, ⟨.slice 80, 1, 24, [.slice none 0 0]⟩),
  (40, ⟨.struct [(0, 39)], 1, 24, [.slice none 0 0]⟩),
  (41, ⟨.struct [(0, 39)], 1, 24, [.slice none 0 0]⟩),
  (43, ⟨.func, 1, 8, [.nilFunc]⟩),
  (45, ⟨.func, 1, 8, [.nilFunc]⟩),
  (46, ⟨.func, 1, 8, [.nilFunc]⟩),
  (48, ⟨.func, 1, 8, [.nilFunc]⟩),
  (49, ⟨.func, 1, 8, [.nilFunc]⟩),
  (50, ⟨.func, 1, 8, [.nilFunc]⟩),
  (51, ⟨.func, 1, 8, [.nilFunc]⟩),
  (52, ⟨.func, 1, 8, [.nilFunc]⟩),
  (53, ⟨.func, 1, 8, [.nilFunc]⟩),
  (54, ⟨.func, 1, 8, [.nilFunc]⟩),
  (55, ⟨.func, 1, 8, [.nilFunc]⟩),
  (56, ⟨.int .u64, 1, 8, [.int .u64 0]⟩),
  (57, ⟨.func, 1, 8, [.nilFunc]⟩),
  (59, ⟨.func, 1, 8, [.nilFunc]⟩),
  (60, ⟨.func, 1, 8, [.nilFunc]⟩),
  (61, ⟨.func, 1, 8, [.nilFunc]⟩),
  (63, ⟨.func, 1, 8, [.nilFunc]⟩),
  (64, ⟨.func, 1, 8, [.nilFunc]⟩),
  (65, ⟨.func, 1, 8, [.nilFunc]⟩),
  (66, ⟨.func, 1, 8, [.nilFunc]⟩),
  (67, ⟨.func, 1, 8, [.nilFunc]⟩),
  (68, ⟨.func, 1, 8, [.nilFunc]⟩),
  (69, ⟨.func, 1, 8, [.nilFunc]⟩),
  (70, ⟨.func, 1, 8, [.nilFunc]⟩),
  (71, ⟨.func, 1, 8, [.nilFunc]⟩),
  (73, ⟨.func, 1, 8, [.nilFunc]⟩),
  (74, ⟨.func, 1, 8, [.nilFunc]⟩),
  (75, ⟨.func, 1, 8, [.nilFunc]⟩),
  (76, ⟨.func, 1, 8, [.nilFunc]⟩),
  (78, ⟨.func, 1, 8, [.nilFunc]⟩),
  (79, ⟨.func, 1, 8, [.nilFunc]⟩),
  (80, ⟨.int .u32, 1, 4, [.int .u32 0]⟩),
  (82, ⟨.func, 1, 8, [.nilFunc]⟩),
  (84, ⟨.func, 1, 8, [.nilFunc]⟩),
  (85, ⟨.int .u64, 1, 8, [.int .u64 0]⟩),
  (86, ⟨.func, 1, 8, [.nilFunc]⟩),
  (87, ⟨.slice 5, 1, 24, [.slice none 0 0]⟩),
  (88, ⟨.slice 3, 1, 24, [.slice none 0 0]⟩),
  (89, ⟨.func, 1, 8, [.nilFunc]⟩),
  (90, ⟨.func, 1, 8, [.nilFunc]⟩),
  (92, ⟨.func, 1, 8, [.nilFunc]⟩),
  (93, ⟨.func, 1, 8, [.nilFunc]⟩),
  (94, ⟨.func, 1, 8, [.nilFunc]⟩),
  (95, ⟨.func, 1, 8, [.nilFunc]⟩),
  (96, ⟨.func, 1, 8, [.nilFunc]⟩),
  (97, ⟨.func, 1, 8, [.nilFunc]⟩),
  (98, ⟨.func, 1, 8, [.nilFunc]⟩),
  (106, ⟨.func, 1, 8, [.nilFunc]⟩),
  (107, ⟨.ptr 5, 1, 8, [.pointer none]⟩)]

theorem TT1 : TIok Try.prog 1 ⟨.func, 1, 8, [.nilFunc]⟩ := TIok.mk (z := .nilFunc) (by kernel_rfl) (by kernel_rfl) rfl (by rfl)
theorem TT2 : TIok Try.prog 2 ⟨.int .i64, 1, 8, [.int .i64 0]⟩ := TIok.mk (z := .int .i64 0) (by kernel_rfl) (by kernel_rfl) rfl (by rfl)
theorem TT3 : TIok Try.prog 3 ⟨.int .i64, 1, 8, [.int .i64 0]⟩ := TIok.mk (z := .int .i64 0) (by kernel_rfl) (by kernel_rfl) rfl (by rfl)
theorem TT4 : TIok Try.prog 4 ⟨.bool, 1, 1, [.bool false]⟩ := TIok.mk (z := .bool false) (by kernel_rfl) (by kernel_rfl) rfl (by rfl)
theorem TT5 : TIok Try.prog 5 ⟨.int .u8, 1, 1, [.int .u8 0]⟩ := TIok.mk (z := .int .u8 0) (by kernel_rfl) (by kernel_rfl) rfl (by rfl)
theorem TT9 : TIok Try.prog 9 ⟨.str, 1, 16, [.string ByteArray.empty]⟩ := TIok.mk (z := .string ByteArray.empty) (by kernel_rfl) (by kernel_rfl) rfl (by rfl)
theorem TT12 : TIok Try.prog 12 ⟨.int .u64, 1, 8, [.int .u64 0]⟩ := TIok.mk (z := .int .u64 0) (by kernel_rfl) (by kernel_rfl) rfl (by rfl)
theorem TT21 : TIok Try.prog 21 ⟨.int .i32, 1, 4, [.int .i32 0]⟩ := TIok.mk (z := .int .i32 0) (by kernel_rfl) (by kernel_rfl) rfl (by rfl)
theorem TT22 : TIok Try.prog 22 ⟨.slice 9, 1, 24, [.slice none 0 0]⟩ := TIok.mk (z := .slice none 0 0) (by kernel_rfl) (by kernel_rfl) rfl (by rfl)
theorem TT23 : TIok Try.prog 23 ⟨.func, 1, 8, [.nilFunc]⟩ := TIok.mk (z := .nilFunc) (by kernel_rfl) (by kernel_rfl) rfl (by rfl)
theorem TT24 : TIok Try.prog 24 ⟨.slice 27, 1, 24, [.slice none 0 0]⟩ := TIok.mk (z := .slice none 0 0) (by kernel_rfl) (by kernel_rfl) rfl (by rfl)
theorem TT25 : TIok Try.prog 25 ⟨.func, 1, 8, [.nilFunc]⟩ := TIok.mk (z := .nilFunc) (by kernel_rfl) (by kernel_rfl) rfl (by rfl)
theorem TT26 : TIok Try.prog 26 ⟨.struct [(0, 9), (1, 3), (2, 3)], 3, 32, [.string ByteArray.empty, .int .i64 0, .int .i64 0]⟩ := TIok.mk (z := .agg #[.string ByteArray.empty, .int .i64 0, .int .i64 0]) (by kernel_rfl) (by kernel_rfl) rfl (by rfl)
theorem TT27 : TIok Try.prog 27 ⟨.struct [(0, 9), (1, 3), (2, 3)], 3, 32, [.string ByteArray.empty, .int .i64 0, .int .i64 0]⟩ := TIok.mk (z := .agg #[.string ByteArray.empty, .int .i64 0, .int .i64 0]) (by kernel_rfl) (by kernel_rfl) rfl (by rfl)
theorem TT28 : TIok Try.prog 28 ⟨.func, 1, 8, [.nilFunc]⟩ := TIok.mk (z := .nilFunc) (by kernel_rfl) (by kernel_rfl) rfl (by rfl)
theorem TT29 : TIok Try.prog 29 ⟨.slice 21, 1, 24, [.slice none 0 0]⟩ := TIok.mk (z := .slice none 0 0) (by kernel_rfl) (by kernel_rfl) rfl (by rfl)
theorem TT30 : TIok Try.prog 30 ⟨.struct [(0, 3), (1, 22)], 2, 32, [.int .i64 0, .slice none 0 0]⟩ := TIok.mk (z := .agg #[.int .i64 0, .slice none 0 0]) (by kernel_rfl) (by kernel_rfl) rfl (by rfl)
theorem TT31 : TIok Try.prog 31 ⟨.struct [(0, 3), (1, 22)], 2, 32, [.int .i64 0, .slice none 0 0]⟩ := TIok.mk (z := .agg #[.int .i64 0, .slice none 0 0]) (by kernel_rfl) (by kernel_rfl) rfl (by rfl)
theorem TT33 : TIok Try.prog 33 ⟨.func, 1, 8, [.nilFunc]⟩ := TIok.mk (z := .nilFunc) (by kernel_rfl) (by kernel_rfl) rfl (by rfl)
theorem TT34 : TIok Try.prog 34 ⟨.func, 1, 8, [.nilFunc]⟩ := TIok.mk (z := .nilFunc) (by kernel_rfl) (by kernel_rfl) rfl (by rfl)
theorem TT35 : TIok Try.prog 35 ⟨.func, 1, 8, [.nilFunc]⟩ := TIok.mk (z := .nilFunc) (by kernel_rfl) (by kernel_rfl) rfl (by rfl)
theorem TT36 : TIok Try.prog 36 ⟨.func, 1, 8, [.nilFunc]⟩ := TIok.mk (z := .nilFunc) (by kernel_rfl) (by kernel_rfl) rfl (by rfl)
theorem TT38 : TIok Try.prog 38 ⟨.func, 1, 8, [.nilFunc]⟩ := TIok.mk (z := .nilFunc) (by kernel_rfl) (by kernel_rfl) rfl (by rfl)
theorem TT39 : TIok Try.prog 39 ⟨.slice 80, 1, 24, [.slice none 0 0]⟩ := TIok.mk (z := .slice none 0 0) (by kernel_rfl) (by kernel_rfl) rfl (by rfl)
theorem TT40 : TIok Try.prog 40 ⟨.struct [(0, 39)], 1, 24, [.slice none 0 0]⟩ := TIok.mk (z := .agg #[.slice none 0 0]) (by kernel_rfl) (by kernel_rfl) rfl (by rfl)
theorem TT41 : TIok Try.prog 41 ⟨.struct [(0, 39)], 1, 24, [.slice none 0 0]⟩ := TIok.mk (z := .agg #[.slice none 0 0]) (by kernel_rfl) (by kernel_rfl) rfl (by rfl)
theorem TT43 : TIok Try.prog 43 ⟨.func, 1, 8, [.nilFunc]⟩ := TIok.mk (z := .nilFunc) (by kernel_rfl) (by kernel_rfl) rfl (by rfl)
theorem TT45 : TIok Try.prog 45 ⟨.func, 1, 8, [.nilFunc]⟩ := TIok.mk (z := .nilFunc) (by kernel_rfl) (by kernel_rfl) rfl (by rfl)
theorem TT46 : TIok Try.prog 46 ⟨.func, 1, 8, [.nilFunc]⟩ := TIok.mk (z := .nilFunc) (by kernel_rfl) (by kernel_rfl) rfl (by rfl)
theorem TT48 : TIok Try.prog 48 ⟨.func, 1, 8, [.nilFunc]⟩ := TIok.mk (z := .nilFunc) (by kernel_rfl) (by kernel_rfl) rfl (by rfl)
theorem TT49 : TIok Try.prog 49 ⟨.func, 1, 8, [.nilFunc]⟩ := TIok.mk (z := .nilFunc) (by kernel_rfl) (by kernel_rfl) rfl (by rfl)
theorem TT50 : TIok Try.prog 50 ⟨.func, 1, 8, [.nilFunc]⟩ := TIok.mk (z := .nilFunc) (by kernel_rfl) (by kernel_rfl) rfl (by rfl)
theorem TT51 : TIok Try.prog 51 ⟨.func, 1, 8, [.nilFunc]⟩ := TIok.mk (z := .nilFunc) (by kernel_rfl) (by kernel_rfl) rfl (by rfl)
theorem TT52 : TIok Try.prog 52 ⟨.func, 1, 8, [.nilFunc]⟩ := TIok.mk (z := .nilFunc) (by kernel_rfl) (by kernel_rfl) rfl (by rfl)
theorem TT53 : TIok Try.prog 53 ⟨.func, 1, 8, [.nilFunc]⟩ := TIok.mk (z := .nilFunc) (by kernel_rfl) (by kernel_rfl) rfl (by rfl)
theorem TT54 : TIok Try.prog 54 ⟨.func, 1, 8, [.nilFunc]⟩ := TIok.mk (z := .nilFunc) (by kernel_rfl) (by kernel_rfl) rfl (by rfl)
theorem TT55 : TIok Try.prog 55 ⟨.func, 1, 8, [.nilFunc]⟩ := TIok.mk (z := .nilFunc) (by kernel_rfl) (by kernel_rfl) rfl (by rfl)
theorem TT56 : TIok Try.prog 56 ⟨.int .u64, 1, 8, [.int .u64 0]⟩ := TIok.mk (z := .int .u64 0) (by kernel_rfl) (by kernel_rfl) rfl (by rfl)
theorem TT57 : TIok Try.prog 57 ⟨.func, 1, 8, [.nilFunc]⟩ := TIok.mk (z := .nilFunc) (by kernel_rfl) (by kernel_rfl) rfl (by rfl)
theorem TT59 : TIok Try.prog 59 ⟨.func, 1, 8, [.nilFunc]⟩ := TIok.mk (z := .nilFunc) (by kernel_rfl) (by kernel_rfl) rfl (by rfl)
theorem TT60 : TIok Try.prog 60 ⟨.func, 1, 8, [.nilFunc]⟩ := TIok.mk (z := .nilFunc) (by kernel_rfl) (by kernel_rfl) rfl (by rfl)
theorem TT61 : TIok Try.prog 61 ⟨.func, 1, 8, [.nilFunc]⟩ := TIok.mk (z := .nilFunc) (by kernel_rfl) (by kernel_rfl) rfl (by rfl)
theorem TT63 : TIok Try.prog 63 ⟨.func, 1, 8, [.nilFunc]⟩ := TIok.mk (z := .nilFunc) (by kernel_rfl) (by kernel_rfl) rfl (by rfl)
theorem TT64 : TIok Try.prog 64 ⟨.func, 1, 8, [.nilFunc]⟩ := TIok.mk (z := .nilFunc) (by kernel_rfl) (by kernel_rfl) rfl (by rfl)
theorem TT65 : TIok Try.prog 65 ⟨.func, 1, 8, [.nilFunc]⟩ := TIok.mk (z := .nilFunc) (by kernel_rfl) (by kernel_rfl) rfl (by rfl)
theorem TT66 : TIok Try.prog 66 ⟨.func, 1, 8, [.nilFunc]⟩ := TIok.mk (z := .nilFunc) (by kernel_rfl) (by kernel_rfl) rfl (by rfl)
theorem TT67 : TIok Try.prog 67 ⟨.func, 1, 8, [.nilFunc]⟩ := TIok.mk (z := .nilFunc) (by kernel_rfl) (by kernel_rfl) rfl (by rfl)
theorem TT68 : TIok Try.prog 68 ⟨.func, 1, 8, [.nilFunc]⟩ := TIok.mk (z := .nilFunc) (by kernel_rfl) (by kernel_rfl) rfl (by rfl)
theorem TT69 : TIok Try.prog 69 ⟨.func, 1, 8, [.nilFunc]⟩ := TIok.mk (z := .nilFunc) (by kernel_rfl) (by kernel_rfl) rfl (by rfl)
theorem TT70 : TIok Try.prog 70 ⟨.func, 1, 8, [.nilFunc]⟩ := TIok.mk (z := .nilFunc) (by kernel_rfl) (by kernel_rfl) rfl (by rfl)
theorem TT71 : TIok Try.prog 71 ⟨.func, 1, 8, [.nilFunc]⟩ := TIok.mk (z := .nilFunc) (by kernel_rfl) (by kernel_rfl) rfl (by rfl)
theorem TT73 : TIok Try.prog 73 ⟨.func, 1, 8, [.nilFunc]⟩ := TIok.mk (z := .nilFunc) (by kernel_rfl) (by kernel_rfl) rfl (by rfl)
theorem TT74 : TIok Try.prog 74 ⟨.func, 1, 8, [.nilFunc]⟩ := TIok.mk (z := .nilFunc) (by kernel_rfl) (by kernel_rfl) rfl (by rfl)
theorem TT75 : TIok Try.prog 75 ⟨.func, 1, 8, [.nilFunc]⟩ := TIok.mk (z := .nilFunc) (by kernel_rfl) (by kernel_rfl) rfl (by rfl)
theorem TT76 : TIok Try.prog 76 ⟨.func, 1, 8, [.nilFunc]⟩ := TIok.mk (z := .nilFunc) (by kernel_rfl) (by kernel_rfl) rfl (by rfl)
theorem TT78 : TIok Try.prog 78 ⟨.func, 1, 8, [.nilFunc]⟩ := TIok.mk (z := .nilFunc) (by kernel_rfl) (by kernel_rfl) rfl (by rfl)
theorem TT79 : TIok Try.prog 79 ⟨.func, 1, 8, [.nilFunc]⟩ := TIok.mk (z := .nilFunc) (by kernel_rfl) (by kernel_rfl) rfl (by rfl)
theorem TT80 : TIok Try.prog 80 ⟨.int .u32, 1, 4, [.int .u32 0]⟩ := TIok.mk (z := .int .u32 0) (by kernel_rfl) (by kernel_rfl) rfl (by rfl)
theorem TT82 : TIok Try.prog 82 ⟨.func, 1, 8, [.nilFunc]⟩ := TIok.mk (z := .nilFunc) (by kernel_rfl) (by kernel_rfl) rfl (by rfl)
theorem TT84 : TIok Try.prog 84 ⟨.func, 1, 8, [.nilFunc]⟩ := TIok.mk (z := .nilFunc) (by kernel_rfl) (by kernel_rfl) rfl (by rfl)
theorem TT85 : TIok Try.prog 85 ⟨.int .u64, 1, 8, [.int .u64 0]⟩ := TIok.mk (z := .int .u64 0) (by kernel_rfl) (by kernel_rfl) rfl (by rfl)
theorem TT86 : TIok Try.prog 86 ⟨.func, 1, 8, [.nilFunc]⟩ := TIok.mk (z := .nilFunc) (by kernel_rfl) (by kernel_rfl) rfl (by rfl)
theorem TT87 : TIok Try.prog 87 ⟨.slice 5, 1, 24, [.slice none 0 0]⟩ := TIok.mk (z := .slice none 0 0) (by kernel_rfl) (by kernel_rfl) rfl (by rfl)
theorem TT88 : TIok Try.prog 88 ⟨.slice 3, 1, 24, [.slice none 0 0]⟩ := TIok.mk (z := .slice none 0 0) (by kernel_rfl) (by kernel_rfl) rfl (by rfl)
theorem TT89 : TIok Try.prog 89 ⟨.func, 1, 8, [.nilFunc]⟩ := TIok.mk (z := .nilFunc) (by kernel_rfl) (by kernel_rfl) rfl (by rfl)
theorem TT90 : TIok Try.prog 90 ⟨.func, 1, 8, [.nilFunc]⟩ := TIok.mk (z := .nilFunc) (by kernel_rfl) (by kernel_rfl) rfl (by rfl)
theorem TT92 : TIok Try.prog 92 ⟨.func, 1, 8, [.nilFunc]⟩ := TIok.mk (z := .nilFunc) (by kernel_rfl) (by kernel_rfl) rfl (by rfl)
theorem TT93 : TIok Try.prog 93 ⟨.func, 1, 8, [.nilFunc]⟩ := TIok.mk (z := .nilFunc) (by kernel_rfl) (by kernel_rfl) rfl (by rfl)
theorem TT94 : TIok Try.prog 94 ⟨.func, 1, 8, [.nilFunc]⟩ := TIok.mk (z := .nilFunc) (by kernel_rfl) (by kernel_rfl) rfl (by rfl)
theorem TT95 : TIok Try.prog 95 ⟨.func, 1, 8, [.nilFunc]⟩ := TIok.mk (z := .nilFunc) (by kernel_rfl) (by kernel_rfl) rfl (by rfl)
theorem TT96 : TIok Try.prog 96 ⟨.func, 1, 8, [.nilFunc]⟩ := TIok.mk (z := .nilFunc) (by kernel_rfl) (by kernel_rfl) rfl (by rfl)
theorem TT97 : TIok Try.prog 97 ⟨.func, 1, 8, [.nilFunc]⟩ := TIok.mk (z := .nilFunc) (by kernel_rfl) (by kernel_rfl) rfl (by rfl)
theorem TT98 : TIok Try.prog 98 ⟨.func, 1, 8, [.nilFunc]⟩ := TIok.mk (z := .nilFunc) (by kernel_rfl) (by kernel_rfl) rfl (by rfl)
theorem TT106 : TIok Try.prog 106 ⟨.func, 1, 8, [.nilFunc]⟩ := TIok.mk (z := .nilFunc) (by kernel_rfl) (by kernel_rfl) rfl (by rfl)
theorem TT107 : TIok Try.prog 107 ⟨.ptr 5, 1, 8, [.pointer none]⟩ := TIok.mk (z := .pointer none) (by kernel_rfl) (by kernel_rfl) rfl (by rfl)
theorem TTok : TTok Try.prog TT := TTok_of (List.forall_mem_cons.2 ⟨TT1, List.forall_mem_cons.2  ⟨TT2, List.forall_mem_cons.2  ⟨TT3, List.forall_mem_cons.2  ⟨TT4, List.forall_mem_cons.2  ⟨TT5, List.forall_mem_cons.2  ⟨TT9, List.forall_mem_cons.2  ⟨TT12, List.forall_mem_cons.2  ⟨TT21, List.forall_mem_cons.2  ⟨TT22, List.forall_mem_cons.2  ⟨TT23, List.forall_mem_cons.2  ⟨TT24, List.forall_mem_cons.2  ⟨TT25, List.forall_mem_cons.2  ⟨TT26, List.forall_mem_cons.2  ⟨TT27, List.forall_mem_cons.2  ⟨TT28, List.forall_mem_cons.2  ⟨TT29, List.forall_mem_cons.2  ⟨TT30, List.forall_mem_cons.2  ⟨TT31, List.forall_mem_cons.2  ⟨TT33, List.forall_mem_cons.2  ⟨TT34, List.forall_mem_cons.2  ⟨TT35, List.forall_mem_cons.2  ⟨TT36, List.forall_mem_cons.2  ⟨TT38, List.forall_mem_cons.2  ⟨TT39, List.forall_mem_cons.2  ⟨TT40, List.forall_mem_cons.2  ⟨TT41, List.forall_mem_cons.2  ⟨TT43, List.forall_mem_cons.2  ⟨TT45, List.forall_mem_cons.2  ⟨TT46, List.forall_mem_cons.2  ⟨TT48, List.forall_mem_cons.2  ⟨TT49, List.forall_mem_cons.2  ⟨TT50, List.forall_mem_cons.2  ⟨TT51, List.forall_mem_cons.2  ⟨TT52, List.forall_mem_cons.2  ⟨TT53, List.forall_mem_cons.2  ⟨TT54, List.forall_mem_cons.2  ⟨TT55, List.forall_mem_cons.2  ⟨TT56, List.forall_mem_cons.2  ⟨TT57, List.forall_mem_cons.2  ⟨TT59, List.forall_mem_cons.2  ⟨TT60, List.forall_mem_cons.2  ⟨TT61, List.forall_mem_cons.2  ⟨TT63, List.forall_mem_cons.2  ⟨TT64, List.forall_mem_cons.2  ⟨TT65, List.forall_mem_cons.2  ⟨TT66, List.forall_mem_cons.2  ⟨TT67, List.forall_mem_cons.2  ⟨TT68, List.forall_mem_cons.2  ⟨TT69, List.forall_mem_cons.2  ⟨TT70, List.forall_mem_cons.2  ⟨TT71, List.forall_mem_cons.2  ⟨TT73, List.forall_mem_cons.2  ⟨TT74, List.forall_mem_cons.2  ⟨TT75, List.forall_mem_cons.2  ⟨TT76, List.forall_mem_cons.2  ⟨TT78, List.forall_mem_cons.2  ⟨TT79, List.forall_mem_cons.2  ⟨TT80, List.forall_mem_cons.2  ⟨TT82, List.forall_mem_cons.2  ⟨TT84, List.forall_mem_cons.2  ⟨TT85, List.forall_mem_cons.2  ⟨TT86, List.forall_mem_cons.2  ⟨TT87, List.forall_mem_cons.2  ⟨TT88, List.forall_mem_cons.2  ⟨TT89, List.forall_mem_cons.2  ⟨TT90, List.forall_mem_cons.2  ⟨TT92, List.forall_mem_cons.2  ⟨TT93, List.forall_mem_cons.2  ⟨TT94, List.forall_mem_cons.2  ⟨TT95, List.forall_mem_cons.2  ⟨TT96, List.forall_mem_cons.2  ⟨TT97, List.forall_mem_cons.2  ⟨TT98, List.forall_mem_cons.2  ⟨TT106, List.forall_mem_cons.2 ⟨TT107, fun _ h => (List.not_mem_nil h).elim⟩⟩⟩⟩⟩⟩⟩⟩⟩⟩⟩⟩⟩⟩⟩⟩⟩⟩⟩⟩⟩⟩⟩⟩⟩⟩⟩⟩⟩⟩⟩⟩⟩⟩⟩⟩⟩⟩⟩⟩⟩⟩⟩⟩⟩⟩⟩⟩⟩⟩⟩⟩⟩⟩⟩⟩⟩⟩⟩⟩⟩⟩⟩⟩⟩⟩⟩⟩⟩⟩⟩⟩⟩⟩⟩)

end Go.Proofs.Ytjpefafkejklaaa
