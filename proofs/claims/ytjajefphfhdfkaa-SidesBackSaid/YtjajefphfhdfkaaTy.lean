/- THE TYPES OF THE PROGRAM, as the logic wants them. Written by types.py. -/
import Derived.Test.YtjajefphfhdfkaaKB23
import Derived.Test.YtjajefphfhdfkaaProg
namespace Go.Proofs.Ytjajefphfhdfkaa
open Go.PL
set_option maxRecDepth 100000

def T : Nat → TD
  | 1 => ⟨.other, false, 1, 8, [.nilFunc], true, []⟩
  | 2 => ⟨.int .i64, false, 1, 8, [.int .i64 0], true, []⟩
  | 3 => ⟨.int .i64, false, 1, 8, [.int .i64 0], true, []⟩
  | 4 => ⟨.bool, false, 1, 1, [.bool false], true, []⟩
  | 5 => ⟨.int .u8, false, 1, 1, [.int .u8 0], true, []⟩
  | 6 => ⟨.int .u8, false, 1, 1, [.int .u8 0], true, []⟩
  | 7 => ⟨.struct [(0, 1, 2), (1, 1, 3), (2, 1, 4), (3, 1, 6)], true, 4, 24, [.int .i64 0, .int .i64 0, .bool false, .int .u8 0], true, []⟩
  | 8 => ⟨.struct [(0, 1, 2), (1, 1, 3), (2, 1, 4), (3, 1, 6)], true, 4, 24, [.int .i64 0, .int .i64 0, .bool false, .int .u8 0], true, []⟩
  | 9 => ⟨.str, false, 1, 16, [.string ByteArray.empty], true, []⟩
  | 10 => ⟨.str, false, 1, 16, [.string ByteArray.empty], true, []⟩
  | 11 => ⟨.str, false, 1, 16, [.string ByteArray.empty], true, []⟩
  | 12 => ⟨.int .u64, false, 1, 8, [.int .u64 0], true, []⟩
  | 13 => ⟨.struct [(0, 1, 9), (1, 1, 12)], true, 2, 24, [.string ByteArray.empty, .int .u64 0], true, []⟩
  | 14 => ⟨.struct [(0, 1, 9), (1, 1, 12)], true, 2, 24, [.string ByteArray.empty, .int .u64 0], true, []⟩
  | 15 => ⟨.other, false, 1, 8, [.pointer none], true, []⟩
  | 16 => ⟨.other, false, 1, 8, [.pointer none], true, []⟩
  | 17 => ⟨.other, false, 1, 8, [.pointer none], true, []⟩
  | 18 => ⟨.struct [(0, 1, 17)], true, 1, 8, [.pointer none], true, []⟩
  | 19 => ⟨.struct [(0, 1, 17)], true, 1, 8, [.pointer none], true, []⟩
  | 20 => ⟨.other, false, 1, 16, [.nilIface], true, []⟩
  | 21 => ⟨.int .i32, false, 1, 4, [.int .i32 0], true, []⟩
  | 22 => ⟨.slice 57, false, 1, 24, [.slice none 0 0], true, []⟩
  | 23 => ⟨.slice 61, false, 1, 24, [.slice none 0 0], true, []⟩
  | 24 => ⟨.int .i64, false, 1, 8, [.int .i64 0], true, []⟩
  | 26 => ⟨.other, false, 1, 8, [.nilFunc], true, []⟩
  | 27 => ⟨.other, false, 1, 8, [.nilFunc], true, []⟩
  | 28 => ⟨.other, false, 1, 8, [.nilFunc], true, []⟩
  | 29 => ⟨.other, false, 1, 8, [.nilFunc], true, []⟩
  | 30 => ⟨.int .i16, false, 1, 2, [.int .i16 0], true, []⟩
  | 31 => ⟨.other, false, 1, 8, [.nilFunc], true, []⟩
  | 32 => ⟨.other, false, 1, 8, [.nilFunc], true, []⟩
  | 33 => ⟨.slice 5, false, 1, 24, [.slice none 0 0], true, []⟩
  | 35 => ⟨.other, false, 1, 8, [.nilFunc], true, []⟩
  | 36 => ⟨.slice 9, false, 1, 24, [.slice none 0 0], true, []⟩
  | 38 => ⟨.other, false, 1, 8, [.nilFunc], true, []⟩
  | 39 => ⟨.other, false, 1, 8, [.nilFunc], true, []⟩
  | 40 => ⟨.arr 4 3, true, 4, 32, [.int .i64 0, .int .i64 0, .int .i64 0, .int .i64 0], true, [.int, .int, .int, .int]⟩
  | 41 => ⟨.other, false, 1, 8, [.nilFunc], true, []⟩
  | 42 => ⟨.other, false, 1, 8, [.nilFunc], true, []⟩
  | 43 => ⟨.slice 47, false, 1, 24, [.slice none 0 0], true, []⟩
  | 45 => ⟨.other, false, 1, 8, [.nilFunc], true, []⟩
  | 46 => ⟨.struct [(0, 1, 9), (1, 1, 4)], true, 2, 24, [.string ByteArray.empty, .bool false], true, [.str, .bool]⟩
  | 47 => ⟨.struct [(0, 1, 9), (1, 1, 4)], true, 2, 24, [.string ByteArray.empty, .bool false], true, [.str, .bool]⟩
  | 48 => ⟨.other, false, 1, 8, [.nilFunc], true, []⟩
  | 49 => ⟨.other, false, 1, 8, [.nilFunc], true, []⟩
  | 51 => ⟨.other, false, 1, 8, [.nilFunc], true, []⟩
  | 52 => ⟨.other, false, 1, 8, [.pointer none], true, []⟩
  | 53 => ⟨.struct [(0, 1, 23), (1, 1, 36)], true, 2, 48, [.slice none 0 0, .slice none 0 0], true, []⟩
  | 54 => ⟨.struct [(0, 1, 23), (1, 1, 36)], true, 2, 48, [.slice none 0 0, .slice none 0 0], true, []⟩
  | 55 => ⟨.int .i64, false, 1, 8, [.int .i64 0], true, []⟩
  | 56 => ⟨.struct [(0, 1, 55), (1, 1, 43)], true, 2, 32, [.int .i64 0, .slice none 0 0], true, []⟩
  | 57 => ⟨.struct [(0, 1, 55), (1, 1, 43)], true, 2, 32, [.int .i64 0, .slice none 0 0], true, []⟩
  | 58 => ⟨.other, false, 1, 8, [.nilFunc], true, []⟩
  | 59 => ⟨.other, false, 1, 8, [.nilFunc], true, []⟩
  | 60 => ⟨.struct [(0, 1, 5), (1, 1, 9), (2, 1, 9)], true, 3, 40, [.int .u8 0, .string ByteArray.empty, .string ByteArray.empty], true, [.int, .str, .str]⟩
  | 61 => ⟨.struct [(0, 1, 5), (1, 1, 9), (2, 1, 9)], true, 3, 40, [.int .u8 0, .string ByteArray.empty, .string ByteArray.empty], true, [.int, .str, .str]⟩
  | 62 => ⟨.other, false, 1, 8, [.nilFunc], true, []⟩
  | 63 => ⟨.other, false, 1, 8, [.nilFunc], true, []⟩
  | 64 => ⟨.other, false, 1, 8, [.nilFunc], true, []⟩
  | 65 => ⟨.other, false, 1, 8, [.nilFunc], true, []⟩
  | 66 => ⟨.other, false, 1, 8, [.nilFunc], true, []⟩
  | 67 => ⟨.other, false, 1, 8, [.nilFunc], true, []⟩
  | 68 => ⟨.other, false, 1, 8, [.nilFunc], true, []⟩
  | 69 => ⟨.other, false, 1, 8, [.pointer none], true, []⟩
  | 70 => ⟨.struct [(0, 1, 22), (1, 1, 43)], true, 2, 48, [.slice none 0 0, .slice none 0 0], true, []⟩
  | 71 => ⟨.struct [(0, 1, 22), (1, 1, 43)], true, 2, 48, [.slice none 0 0, .slice none 0 0], true, []⟩
  | 72 => ⟨.other, false, 1, 8, [.nilFunc], true, []⟩
  | 73 => ⟨.other, false, 1, 8, [.nilFunc], true, []⟩
  | 74 => ⟨.other, false, 1, 8, [.nilFunc], true, []⟩
  | 75 => ⟨.struct [(0, 1, 17), (1, 1, 17), (2, 1, 17), (3, 1, 9)], true, 4, 40, [.pointer none, .pointer none, .pointer none, .string ByteArray.empty], true, []⟩
  | 76 => ⟨.struct [(0, 1, 17), (1, 1, 17), (2, 1, 17), (3, 1, 9)], true, 4, 40, [.pointer none, .pointer none, .pointer none, .string ByteArray.empty], true, []⟩
  | 80 => ⟨.other, false, 1, 8, [.nilFunc], true, []⟩
  | 81 => ⟨.int .u32, false, 1, 4, [.int .u32 0], true, []⟩
  | 82 => ⟨.int .u8, false, 1, 1, [.int .u8 0], true, []⟩
  | 83 => ⟨.int .u8, false, 1, 1, [.int .u8 0], true, []⟩
  | 84 => ⟨.other, false, 1, 8, [.nilFunc], true, []⟩
  | 85 => ⟨.other, false, 1, 8, [.pointer none], true, []⟩
  | 86 => ⟨.int .i32, false, 1, 4, [.int .i32 0], true, []⟩
  | 87 => ⟨.int .i32, false, 1, 4, [.int .i32 0], true, []⟩
  | 88 => ⟨.struct [(0, 1, 12), (1, 1, 12), (2, 1, 81), (3, 1, 82), (4, 1, 5), (5, 1, 5), (6, 1, 83), (7, 1, 84), (8, 1, 85), (9, 1, 86), (10, 1, 87)], true, 11, 48, [.int .u64 0, .int .u64 0, .int .u32 0, .int .u8 0, .int .u8 0, .int .u8 0, .int .u8 0, .nilFunc, .pointer none, .int .i32 0, .int .i32 0], true, []⟩
  | 89 => ⟨.struct [(0, 1, 12), (1, 1, 12), (2, 1, 81), (3, 1, 82), (4, 1, 5), (5, 1, 5), (6, 1, 83), (7, 1, 84), (8, 1, 85), (9, 1, 86), (10, 1, 87)], true, 11, 48, [.int .u64 0, .int .u64 0, .int .u32 0, .int .u8 0, .int .u8 0, .int .u8 0, .int .u8 0, .nilFunc, .pointer none, .int .i32 0, .int .i32 0], true, []⟩
  | _ => default
theorem T1 : T 1 = ⟨.other, false, 1, 8, [.nilFunc], true, []⟩ := rfl
theorem T2 : T 2 = ⟨.int .i64, false, 1, 8, [.int .i64 0], true, []⟩ := rfl
theorem T3 : T 3 = ⟨.int .i64, false, 1, 8, [.int .i64 0], true, []⟩ := rfl
theorem T4 : T 4 = ⟨.bool, false, 1, 1, [.bool false], true, []⟩ := rfl
theorem T5 : T 5 = ⟨.int .u8, false, 1, 1, [.int .u8 0], true, []⟩ := rfl
theorem T6 : T 6 = ⟨.int .u8, false, 1, 1, [.int .u8 0], true, []⟩ := rfl
theorem T7 : T 7 = ⟨.struct [(0, 1, 2), (1, 1, 3), (2, 1, 4), (3, 1, 6)], true, 4, 24, [.int .i64 0, .int .i64 0, .bool false, .int .u8 0], true, []⟩ := rfl
theorem T8 : T 8 = ⟨.struct [(0, 1, 2), (1, 1, 3), (2, 1, 4), (3, 1, 6)], true, 4, 24, [.int .i64 0, .int .i64 0, .bool false, .int .u8 0], true, []⟩ := rfl
theorem T9 : T 9 = ⟨.str, false, 1, 16, [.string ByteArray.empty], true, []⟩ := rfl
theorem T10 : T 10 = ⟨.str, false, 1, 16, [.string ByteArray.empty], true, []⟩ := rfl
theorem T11 : T 11 = ⟨.str, false, 1, 16, [.string ByteArray.empty], true, []⟩ := rfl
theorem T12 : T 12 = ⟨.int .u64, false, 1, 8, [.int .u64 0], true, []⟩ := rfl
theorem T13 : T 13 = ⟨.struct [(0, 1, 9), (1, 1, 12)], true, 2, 24, [.string ByteArray.empty, .int .u64 0], true, []⟩ := rfl
theorem T14 : T 14 = ⟨.struct [(0, 1, 9), (1, 1, 12)], true, 2, 24, [.string ByteArray.empty, .int .u64 0], true, []⟩ := rfl
theorem T15 : T 15 = ⟨.other, false, 1, 8, [.pointer none], true, []⟩ := rfl
theorem T16 : T 16 = ⟨.other, false, 1, 8, [.pointer none], true, []⟩ := rfl
theorem T17 : T 17 = ⟨.other, false, 1, 8, [.pointer none], true, []⟩ := rfl
theorem T18 : T 18 = ⟨.struct [(0, 1, 17)], true, 1, 8, [.pointer none], true, []⟩ := rfl
theorem T19 : T 19 = ⟨.struct [(0, 1, 17)], true, 1, 8, [.pointer none], true, []⟩ := rfl
theorem T20 : T 20 = ⟨.other, false, 1, 16, [.nilIface], true, []⟩ := rfl
theorem T21 : T 21 = ⟨.int .i32, false, 1, 4, [.int .i32 0], true, []⟩ := rfl
theorem T22 : T 22 = ⟨.slice 57, false, 1, 24, [.slice none 0 0], true, []⟩ := rfl
theorem T23 : T 23 = ⟨.slice 61, false, 1, 24, [.slice none 0 0], true, []⟩ := rfl
theorem T24 : T 24 = ⟨.int .i64, false, 1, 8, [.int .i64 0], true, []⟩ := rfl
theorem T26 : T 26 = ⟨.other, false, 1, 8, [.nilFunc], true, []⟩ := rfl
theorem T27 : T 27 = ⟨.other, false, 1, 8, [.nilFunc], true, []⟩ := rfl
theorem T28 : T 28 = ⟨.other, false, 1, 8, [.nilFunc], true, []⟩ := rfl
theorem T29 : T 29 = ⟨.other, false, 1, 8, [.nilFunc], true, []⟩ := rfl
theorem T30 : T 30 = ⟨.int .i16, false, 1, 2, [.int .i16 0], true, []⟩ := rfl
theorem T31 : T 31 = ⟨.other, false, 1, 8, [.nilFunc], true, []⟩ := rfl
theorem T32 : T 32 = ⟨.other, false, 1, 8, [.nilFunc], true, []⟩ := rfl
theorem T33 : T 33 = ⟨.slice 5, false, 1, 24, [.slice none 0 0], true, []⟩ := rfl
theorem T35 : T 35 = ⟨.other, false, 1, 8, [.nilFunc], true, []⟩ := rfl
theorem T36 : T 36 = ⟨.slice 9, false, 1, 24, [.slice none 0 0], true, []⟩ := rfl
theorem T38 : T 38 = ⟨.other, false, 1, 8, [.nilFunc], true, []⟩ := rfl
theorem T39 : T 39 = ⟨.other, false, 1, 8, [.nilFunc], true, []⟩ := rfl
theorem T40 : T 40 = ⟨.arr 4 3, true, 4, 32, [.int .i64 0, .int .i64 0, .int .i64 0, .int .i64 0], true, [.int, .int, .int, .int]⟩ := rfl
theorem T41 : T 41 = ⟨.other, false, 1, 8, [.nilFunc], true, []⟩ := rfl
theorem T42 : T 42 = ⟨.other, false, 1, 8, [.nilFunc], true, []⟩ := rfl
theorem T43 : T 43 = ⟨.slice 47, false, 1, 24, [.slice none 0 0], true, []⟩ := rfl
theorem T45 : T 45 = ⟨.other, false, 1, 8, [.nilFunc], true, []⟩ := rfl
theorem T46 : T 46 = ⟨.struct [(0, 1, 9), (1, 1, 4)], true, 2, 24, [.string ByteArray.empty, .bool false], true, [.str, .bool]⟩ := rfl
theorem T47 : T 47 = ⟨.struct [(0, 1, 9), (1, 1, 4)], true, 2, 24, [.string ByteArray.empty, .bool false], true, [.str, .bool]⟩ := rfl
theorem T48 : T 48 = ⟨.other, false, 1, 8, [.nilFunc], true, []⟩ := rfl
theorem T49 : T 49 = ⟨.other, false, 1, 8, [.nilFunc], true, []⟩ := rfl
theorem T51 : T 51 = ⟨.other, false, 1, 8, [.nilFunc], true, []⟩ := rfl
theorem T52 : T 52 = ⟨.other, false, 1, 8, [.pointer none], true, []⟩ := rfl
theorem T53 : T 53 = ⟨.struct [(0, 1, 23), (1, 1, 36)], true, 2, 48, [.slice none 0 0, .slice none 0 0], true, []⟩ := rfl
theorem T54 : T 54 = ⟨.struct [(0, 1, 23), (1, 1, 36)], true, 2, 48, [.slice none 0 0, .slice none 0 0], true, []⟩ := rfl
theorem T55 : T 55 = ⟨.int .i64, false, 1, 8, [.int .i64 0], true, []⟩ := rfl
theorem T56 : T 56 = ⟨.struct [(0, 1, 55), (1, 1, 43)], true, 2, 32, [.int .i64 0, .slice none 0 0], true, []⟩ := rfl
theorem T57 : T 57 = ⟨.struct [(0, 1, 55), (1, 1, 43)], true, 2, 32, [.int .i64 0, .slice none 0 0], true, []⟩ := rfl
theorem T58 : T 58 = ⟨.other, false, 1, 8, [.nilFunc], true, []⟩ := rfl
theorem T59 : T 59 = ⟨.other, false, 1, 8, [.nilFunc], true, []⟩ := rfl
theorem T60 : T 60 = ⟨.struct [(0, 1, 5), (1, 1, 9), (2, 1, 9)], true, 3, 40, [.int .u8 0, .string ByteArray.empty, .string ByteArray.empty], true, [.int, .str, .str]⟩ := rfl
theorem T61 : T 61 = ⟨.struct [(0, 1, 5), (1, 1, 9), (2, 1, 9)], true, 3, 40, [.int .u8 0, .string ByteArray.empty, .string ByteArray.empty], true, [.int, .str, .str]⟩ := rfl
theorem T62 : T 62 = ⟨.other, false, 1, 8, [.nilFunc], true, []⟩ := rfl
theorem T63 : T 63 = ⟨.other, false, 1, 8, [.nilFunc], true, []⟩ := rfl
theorem T64 : T 64 = ⟨.other, false, 1, 8, [.nilFunc], true, []⟩ := rfl
theorem T65 : T 65 = ⟨.other, false, 1, 8, [.nilFunc], true, []⟩ := rfl
theorem T66 : T 66 = ⟨.other, false, 1, 8, [.nilFunc], true, []⟩ := rfl
theorem T67 : T 67 = ⟨.other, false, 1, 8, [.nilFunc], true, []⟩ := rfl
theorem T68 : T 68 = ⟨.other, false, 1, 8, [.nilFunc], true, []⟩ := rfl
theorem T69 : T 69 = ⟨.other, false, 1, 8, [.pointer none], true, []⟩ := rfl
theorem T70 : T 70 = ⟨.struct [(0, 1, 22), (1, 1, 43)], true, 2, 48, [.slice none 0 0, .slice none 0 0], true, []⟩ := rfl
theorem T71 : T 71 = ⟨.struct [(0, 1, 22), (1, 1, 43)], true, 2, 48, [.slice none 0 0, .slice none 0 0], true, []⟩ := rfl
theorem T72 : T 72 = ⟨.other, false, 1, 8, [.nilFunc], true, []⟩ := rfl
theorem T73 : T 73 = ⟨.other, false, 1, 8, [.nilFunc], true, []⟩ := rfl
theorem T74 : T 74 = ⟨.other, false, 1, 8, [.nilFunc], true, []⟩ := rfl
theorem T75 : T 75 = ⟨.struct [(0, 1, 17), (1, 1, 17), (2, 1, 17), (3, 1, 9)], true, 4, 40, [.pointer none, .pointer none, .pointer none, .string ByteArray.empty], true, []⟩ := rfl
theorem T76 : T 76 = ⟨.struct [(0, 1, 17), (1, 1, 17), (2, 1, 17), (3, 1, 9)], true, 4, 40, [.pointer none, .pointer none, .pointer none, .string ByteArray.empty], true, []⟩ := rfl
theorem T80 : T 80 = ⟨.other, false, 1, 8, [.nilFunc], true, []⟩ := rfl
theorem T81 : T 81 = ⟨.int .u32, false, 1, 4, [.int .u32 0], true, []⟩ := rfl
theorem T82 : T 82 = ⟨.int .u8, false, 1, 1, [.int .u8 0], true, []⟩ := rfl
theorem T83 : T 83 = ⟨.int .u8, false, 1, 1, [.int .u8 0], true, []⟩ := rfl
theorem T84 : T 84 = ⟨.other, false, 1, 8, [.nilFunc], true, []⟩ := rfl
theorem T85 : T 85 = ⟨.other, false, 1, 8, [.pointer none], true, []⟩ := rfl
theorem T86 : T 86 = ⟨.int .i32, false, 1, 4, [.int .i32 0], true, []⟩ := rfl
theorem T87 : T 87 = ⟨.int .i32, false, 1, 4, [.int .i32 0], true, []⟩ := rfl
theorem T88 : T 88 = ⟨.struct [(0, 1, 12), (1, 1, 12), (2, 1, 81), (3, 1, 82), (4, 1, 5), (5, 1, 5), (6, 1, 83), (7, 1, 84), (8, 1, 85), (9, 1, 86), (10, 1, 87)], true, 11, 48, [.int .u64 0, .int .u64 0, .int .u32 0, .int .u8 0, .int .u8 0, .int .u8 0, .int .u8 0, .nilFunc, .pointer none, .int .i32 0, .int .i32 0], true, []⟩ := rfl
theorem T89 : T 89 = ⟨.struct [(0, 1, 12), (1, 1, 12), (2, 1, 81), (3, 1, 82), (4, 1, 5), (5, 1, 5), (6, 1, 83), (7, 1, 84), (8, 1, 85), (9, 1, 86), (10, 1, 87)], true, 11, 48, [.int .u64 0, .int .u64 0, .int .u32 0, .int .u8 0, .int .u8 0, .int .u8 0, .int .u8 0, .nilFunc, .pointer none, .int .i32 0, .int .i32 0], true, []⟩ := rfl
theorem D1 : DOK Try.prog 1 (T 1) := DOK.mk (z := .nilFunc) (by kernel_rfl) Try.underlying1 rfl (trivial) rfl (by decide) rfl (fun h => absurd rfl h) (fun _ => rfl)
theorem D2 : DOK Try.prog 2 (T 2) := DOK.mk (z := .int .i64 0) (by kernel_rfl) Try.underlying2 rfl (rfl) rfl (by decide) rfl (fun h => absurd rfl h) (fun _ => rfl)
theorem D3 : DOK Try.prog 3 (T 3) := DOK.mk (z := .int .i64 0) (by kernel_rfl) Try.underlying3 rfl (rfl) rfl (by decide) rfl (fun h => absurd rfl h) (fun _ => rfl)
theorem D4 : DOK Try.prog 4 (T 4) := DOK.mk (z := .bool false) (by kernel_rfl) Try.underlying4 rfl (rfl) rfl (by decide) rfl (fun h => absurd rfl h) (fun _ => rfl)
theorem D5 : DOK Try.prog 5 (T 5) := DOK.mk (z := .int .u8 0) (by kernel_rfl) Try.underlying5 rfl (rfl) rfl (by decide) rfl (fun h => absurd rfl h) (fun _ => rfl)
theorem D6 : DOK Try.prog 6 (T 6) := DOK.mk (z := .int .u8 0) (by kernel_rfl) Try.underlying6 rfl (rfl) rfl (by decide) rfl (fun h => absurd rfl h) (fun _ => rfl)
theorem D7 : DOK Try.prog 7 (T 7) := DOK.mk (z := .agg #[.int .i64 0, .int .i64 0, .bool false, .int .u8 0]) (by kernel_rfl) Try.underlying7 rfl (KOK.struct (by kernel_rfl)) rfl (by decide) rfl (fun h => absurd rfl h) (fun h => by cases h)
theorem D8 : DOK Try.prog 8 (T 8) := DOK.mk (z := .agg #[.int .i64 0, .int .i64 0, .bool false, .int .u8 0]) (by kernel_rfl) Try.underlying8 rfl (KOK.struct (by kernel_rfl)) rfl (by decide) rfl (fun h => absurd rfl h) (fun h => by cases h)
theorem D9 : DOK Try.prog 9 (T 9) := DOK.mk (z := .string ByteArray.empty) (by kernel_rfl) Try.underlying9 rfl (rfl) rfl (by decide) rfl (fun h => absurd rfl h) (fun _ => rfl)
theorem D10 : DOK Try.prog 10 (T 10) := DOK.mk (z := .string ByteArray.empty) (by kernel_rfl) Try.underlying10 rfl (rfl) rfl (by decide) rfl (fun h => absurd rfl h) (fun _ => rfl)
theorem D11 : DOK Try.prog 11 (T 11) := DOK.mk (z := .string ByteArray.empty) (by kernel_rfl) Try.underlying11 rfl (rfl) rfl (by decide) rfl (fun h => absurd rfl h) (fun _ => rfl)
theorem D12 : DOK Try.prog 12 (T 12) := DOK.mk (z := .int .u64 0) (by kernel_rfl) Try.underlying12 rfl (rfl) rfl (by decide) rfl (fun h => absurd rfl h) (fun _ => rfl)
theorem D13 : DOK Try.prog 13 (T 13) := DOK.mk (z := .agg #[.string ByteArray.empty, .int .u64 0]) (by kernel_rfl) Try.underlying13 rfl (KOK.struct (by kernel_rfl)) rfl (by decide) rfl (fun h => absurd rfl h) (fun h => by cases h)
theorem D14 : DOK Try.prog 14 (T 14) := DOK.mk (z := .agg #[.string ByteArray.empty, .int .u64 0]) (by kernel_rfl) Try.underlying14 rfl (KOK.struct (by kernel_rfl)) rfl (by decide) rfl (fun h => absurd rfl h) (fun h => by cases h)
theorem D15 : DOK Try.prog 15 (T 15) := DOK.mk (z := .pointer none) (by kernel_rfl) Try.underlying15 rfl (trivial) rfl (by decide) rfl (fun h => absurd rfl h) (fun _ => rfl)
theorem D16 : DOK Try.prog 16 (T 16) := DOK.mk (z := .pointer none) (by kernel_rfl) Try.underlying16 rfl (trivial) rfl (by decide) rfl (fun h => absurd rfl h) (fun _ => rfl)
theorem D17 : DOK Try.prog 17 (T 17) := DOK.mk (z := .pointer none) (by kernel_rfl) Try.underlying17 rfl (trivial) rfl (by decide) rfl (fun h => absurd rfl h) (fun _ => rfl)
theorem D18 : DOK Try.prog 18 (T 18) := DOK.mk (z := .agg #[.pointer none]) (by kernel_rfl) Try.underlying18 rfl (KOK.struct (by kernel_rfl)) rfl (by decide) rfl (fun h => absurd rfl h) (fun h => by cases h)
theorem D19 : DOK Try.prog 19 (T 19) := DOK.mk (z := .agg #[.pointer none]) (by kernel_rfl) Try.underlying19 rfl (KOK.struct (by kernel_rfl)) rfl (by decide) rfl (fun h => absurd rfl h) (fun h => by cases h)
theorem D20 : DOK Try.prog 20 (T 20) := DOK.mk (z := .nilIface) (by kernel_rfl) Try.underlying20 rfl (trivial) rfl (by decide) rfl (fun h => absurd rfl h) (fun _ => rfl)
theorem D21 : DOK Try.prog 21 (T 21) := DOK.mk (z := .int .i32 0) (by kernel_rfl) Try.underlying21 rfl (rfl) rfl (by decide) rfl (fun h => absurd rfl h) (fun _ => rfl)
theorem D22 : DOK Try.prog 22 (T 22) := DOK.mk (z := .slice none 0 0) (by kernel_rfl) Try.underlying22 rfl (rfl) rfl (by decide) rfl (fun h => absurd rfl h) (fun _ => rfl)
theorem D23 : DOK Try.prog 23 (T 23) := DOK.mk (z := .slice none 0 0) (by kernel_rfl) Try.underlying23 rfl (rfl) rfl (by decide) rfl (fun h => absurd rfl h) (fun _ => rfl)
theorem D24 : DOK Try.prog 24 (T 24) := DOK.mk (z := .int .i64 0) (by kernel_rfl) Try.underlying24 rfl (rfl) rfl (by decide) rfl (fun h => absurd rfl h) (fun _ => rfl)
theorem D26 : DOK Try.prog 26 (T 26) := DOK.mk (z := .nilFunc) (by kernel_rfl) Try.underlying26 rfl (trivial) rfl (by decide) rfl (fun h => absurd rfl h) (fun _ => rfl)
theorem D27 : DOK Try.prog 27 (T 27) := DOK.mk (z := .nilFunc) (by kernel_rfl) Try.underlying27 rfl (trivial) rfl (by decide) rfl (fun h => absurd rfl h) (fun _ => rfl)
theorem D28 : DOK Try.prog 28 (T 28) := DOK.mk (z := .nilFunc) (by kernel_rfl) Try.underlying28 rfl (trivial) rfl (by decide) rfl (fun h => absurd rfl h) (fun _ => rfl)
theorem D29 : DOK Try.prog 29 (T 29) := DOK.mk (z := .nilFunc) (by kernel_rfl) Try.underlying29 rfl (trivial) rfl (by decide) rfl (fun h => absurd rfl h) (fun _ => rfl)
theorem D30 : DOK Try.prog 30 (T 30) := DOK.mk (z := .int .i16 0) (by kernel_rfl) Try.underlying30 rfl (rfl) rfl (by decide) rfl (fun h => absurd rfl h) (fun _ => rfl)
theorem D31 : DOK Try.prog 31 (T 31) := DOK.mk (z := .nilFunc) (by kernel_rfl) Try.underlying31 rfl (trivial) rfl (by decide) rfl (fun h => absurd rfl h) (fun _ => rfl)
theorem D32 : DOK Try.prog 32 (T 32) := DOK.mk (z := .nilFunc) (by kernel_rfl) Try.underlying32 rfl (trivial) rfl (by decide) rfl (fun h => absurd rfl h) (fun _ => rfl)
theorem D33 : DOK Try.prog 33 (T 33) := DOK.mk (z := .slice none 0 0) (by kernel_rfl) Try.underlying33 rfl (rfl) rfl (by decide) rfl (fun h => absurd rfl h) (fun _ => rfl)
theorem D35 : DOK Try.prog 35 (T 35) := DOK.mk (z := .nilFunc) (by kernel_rfl) Try.underlying35 rfl (trivial) rfl (by decide) rfl (fun h => absurd rfl h) (fun _ => rfl)
theorem D36 : DOK Try.prog 36 (T 36) := DOK.mk (z := .slice none 0 0) (by kernel_rfl) Try.underlying36 rfl (rfl) rfl (by decide) rfl (fun h => absurd rfl h) (fun _ => rfl)
theorem D38 : DOK Try.prog 38 (T 38) := DOK.mk (z := .nilFunc) (by kernel_rfl) Try.underlying38 rfl (trivial) rfl (by decide) rfl (fun h => absurd rfl h) (fun _ => rfl)
theorem D39 : DOK Try.prog 39 (T 39) := DOK.mk (z := .nilFunc) (by kernel_rfl) Try.underlying39 rfl (trivial) rfl (by decide) rfl (fun h => absurd rfl h) (fun _ => rfl)
theorem D40 : DOK Try.prog 40 (T 40) := DOK.mk (z := .agg #[.int .i64 0, .int .i64 0, .int .i64 0, .int .i64 0]) (by kernel_rfl) Try.underlying40 rfl (rfl) rfl (by decide) rfl (fun _ => EqOK.mk (by kernel_rfl) (by kernel_rfl) (by kernel_rfl)) (fun h => by cases h)
theorem D41 : DOK Try.prog 41 (T 41) := DOK.mk (z := .nilFunc) (by kernel_rfl) Try.underlying41 rfl (trivial) rfl (by decide) rfl (fun h => absurd rfl h) (fun _ => rfl)
theorem D42 : DOK Try.prog 42 (T 42) := DOK.mk (z := .nilFunc) (by kernel_rfl) Try.underlying42 rfl (trivial) rfl (by decide) rfl (fun h => absurd rfl h) (fun _ => rfl)
theorem D43 : DOK Try.prog 43 (T 43) := DOK.mk (z := .slice none 0 0) (by kernel_rfl) Try.underlying43 rfl (rfl) rfl (by decide) rfl (fun h => absurd rfl h) (fun _ => rfl)
theorem D45 : DOK Try.prog 45 (T 45) := DOK.mk (z := .nilFunc) (by kernel_rfl) Try.underlying45 rfl (trivial) rfl (by decide) rfl (fun h => absurd rfl h) (fun _ => rfl)
theorem D46 : DOK Try.prog 46 (T 46) := DOK.mk (z := .agg #[.string ByteArray.empty, .bool false]) (by kernel_rfl) Try.underlying46 rfl (KOK.struct (by kernel_rfl)) rfl (by decide) rfl (fun _ => EqOK.mk (by kernel_rfl) (by kernel_rfl) (by kernel_rfl)) (fun h => by cases h)
theorem D47 : DOK Try.prog 47 (T 47) := DOK.mk (z := .agg #[.string ByteArray.empty, .bool false]) (by kernel_rfl) Try.underlying47 rfl (KOK.struct (by kernel_rfl)) rfl (by decide) rfl (fun _ => EqOK.mk (by kernel_rfl) (by kernel_rfl) (by kernel_rfl)) (fun h => by cases h)
theorem D48 : DOK Try.prog 48 (T 48) := DOK.mk (z := .nilFunc) (by kernel_rfl) Try.underlying48 rfl (trivial) rfl (by decide) rfl (fun h => absurd rfl h) (fun _ => rfl)
theorem D49 : DOK Try.prog 49 (T 49) := DOK.mk (z := .nilFunc) (by kernel_rfl) Try.underlying49 rfl (trivial) rfl (by decide) rfl (fun h => absurd rfl h) (fun _ => rfl)
theorem D51 : DOK Try.prog 51 (T 51) := DOK.mk (z := .nilFunc) (by kernel_rfl) Try.underlying51 rfl (trivial) rfl (by decide) rfl (fun h => absurd rfl h) (fun _ => rfl)
theorem D52 : DOK Try.prog 52 (T 52) := DOK.mk (z := .pointer none) (by kernel_rfl) Try.underlying52 rfl (trivial) rfl (by decide) rfl (fun h => absurd rfl h) (fun _ => rfl)
theorem D53 : DOK Try.prog 53 (T 53) := DOK.mk (z := .agg #[.slice none 0 0, .slice none 0 0]) (by kernel_rfl) Try.underlying53 rfl (KOK.struct (by kernel_rfl)) rfl (by decide) rfl (fun h => absurd rfl h) (fun h => by cases h)
theorem D54 : DOK Try.prog 54 (T 54) := DOK.mk (z := .agg #[.slice none 0 0, .slice none 0 0]) (by kernel_rfl) Try.underlying54 rfl (KOK.struct (by kernel_rfl)) rfl (by decide) rfl (fun h => absurd rfl h) (fun h => by cases h)
theorem D55 : DOK Try.prog 55 (T 55) := DOK.mk (z := .int .i64 0) (by kernel_rfl) Try.underlying55 rfl (rfl) rfl (by decide) rfl (fun h => absurd rfl h) (fun _ => rfl)
theorem D56 : DOK Try.prog 56 (T 56) := DOK.mk (z := .agg #[.int .i64 0, .slice none 0 0]) (by kernel_rfl) Try.underlying56 rfl (KOK.struct (by kernel_rfl)) rfl (by decide) rfl (fun h => absurd rfl h) (fun h => by cases h)
theorem D57 : DOK Try.prog 57 (T 57) := DOK.mk (z := .agg #[.int .i64 0, .slice none 0 0]) (by kernel_rfl) Try.underlying57 rfl (KOK.struct (by kernel_rfl)) rfl (by decide) rfl (fun h => absurd rfl h) (fun h => by cases h)
theorem D58 : DOK Try.prog 58 (T 58) := DOK.mk (z := .nilFunc) (by kernel_rfl) Try.underlying58 rfl (trivial) rfl (by decide) rfl (fun h => absurd rfl h) (fun _ => rfl)
theorem D59 : DOK Try.prog 59 (T 59) := DOK.mk (z := .nilFunc) (by kernel_rfl) Try.underlying59 rfl (trivial) rfl (by decide) rfl (fun h => absurd rfl h) (fun _ => rfl)
theorem D60 : DOK Try.prog 60 (T 60) := DOK.mk (z := .agg #[.int .u8 0, .string ByteArray.empty, .string ByteArray.empty]) (by kernel_rfl) Try.underlying60 rfl (KOK.struct (by kernel_rfl)) rfl (by decide) rfl (fun _ => EqOK.mk (by kernel_rfl) (by kernel_rfl) (by kernel_rfl)) (fun h => by cases h)
theorem D61 : DOK Try.prog 61 (T 61) := DOK.mk (z := .agg #[.int .u8 0, .string ByteArray.empty, .string ByteArray.empty]) (by kernel_rfl) Try.underlying61 rfl (KOK.struct (by kernel_rfl)) rfl (by decide) rfl (fun _ => EqOK.mk (by kernel_rfl) (by kernel_rfl) (by kernel_rfl)) (fun h => by cases h)
theorem D62 : DOK Try.prog 62 (T 62) := DOK.mk (z := .nilFunc) (by kernel_rfl) Try.underlying62 rfl (trivial) rfl (by decide) rfl (fun h => absurd rfl h) (fun _ => rfl)
theorem D63 : DOK Try.prog 63 (T 63) := DOK.mk (z := .nilFunc) (by kernel_rfl) Try.underlying63 rfl (trivial) rfl (by decide) rfl (fun h => absurd rfl h) (fun _ => rfl)
theorem D64 : DOK Try.prog 64 (T 64) := DOK.mk (z := .nilFunc) (by kernel_rfl) Try.underlying64 rfl (trivial) rfl (by decide) rfl (fun h => absurd rfl h) (fun _ => rfl)
theorem D65 : DOK Try.prog 65 (T 65) := DOK.mk (z := .nilFunc) (by kernel_rfl) Try.underlying65 rfl (trivial) rfl (by decide) rfl (fun h => absurd rfl h) (fun _ => rfl)
theorem D66 : DOK Try.prog 66 (T 66) := DOK.mk (z := .nilFunc) (by kernel_rfl) Try.underlying66 rfl (trivial) rfl (by decide) rfl (fun h => absurd rfl h) (fun _ => rfl)
theorem D67 : DOK Try.prog 67 (T 67) := DOK.mk (z := .nilFunc) (by kernel_rfl) Try.underlying67 rfl (trivial) rfl (by decide) rfl (fun h => absurd rfl h) (fun _ => rfl)
theorem D68 : DOK Try.prog 68 (T 68) := DOK.mk (z := .nilFunc) (by kernel_rfl) Try.underlying68 rfl (trivial) rfl (by decide) rfl (fun h => absurd rfl h) (fun _ => rfl)
theorem D69 : DOK Try.prog 69 (T 69) := DOK.mk (z := .pointer none) (by kernel_rfl) Try.underlying69 rfl (trivial) rfl (by decide) rfl (fun h => absurd rfl h) (fun _ => rfl)
theorem D70 : DOK Try.prog 70 (T 70) := DOK.mk (z := .agg #[.slice none 0 0, .slice none 0 0]) (by kernel_rfl) Try.underlying70 rfl (KOK.struct (by kernel_rfl)) rfl (by decide) rfl (fun h => absurd rfl h) (fun h => by cases h)
theorem D71 : DOK Try.prog 71 (T 71) := DOK.mk (z := .agg #[.slice none 0 0, .slice none 0 0]) (by kernel_rfl) Try.underlying71 rfl (KOK.struct (by kernel_rfl)) rfl (by decide) rfl (fun h => absurd rfl h) (fun h => by cases h)
theorem D72 : DOK Try.prog 72 (T 72) := DOK.mk (z := .nilFunc) (by kernel_rfl) Try.underlying72 rfl (trivial) rfl (by decide) rfl (fun h => absurd rfl h) (fun _ => rfl)
theorem D73 : DOK Try.prog 73 (T 73) := DOK.mk (z := .nilFunc) (by kernel_rfl) Try.underlying73 rfl (trivial) rfl (by decide) rfl (fun h => absurd rfl h) (fun _ => rfl)
theorem D74 : DOK Try.prog 74 (T 74) := DOK.mk (z := .nilFunc) (by kernel_rfl) Try.underlying74 rfl (trivial) rfl (by decide) rfl (fun h => absurd rfl h) (fun _ => rfl)
theorem D75 : DOK Try.prog 75 (T 75) := DOK.mk (z := .agg #[.pointer none, .pointer none, .pointer none, .string ByteArray.empty]) (by kernel_rfl) Try.underlying75 rfl (KOK.struct (by kernel_rfl)) rfl (by decide) rfl (fun h => absurd rfl h) (fun h => by cases h)
theorem D76 : DOK Try.prog 76 (T 76) := DOK.mk (z := .agg #[.pointer none, .pointer none, .pointer none, .string ByteArray.empty]) (by kernel_rfl) Try.underlying76 rfl (KOK.struct (by kernel_rfl)) rfl (by decide) rfl (fun h => absurd rfl h) (fun h => by cases h)
theorem D80 : DOK Try.prog 80 (T 80) := DOK.mk (z := .nilFunc) (by kernel_rfl) Try.underlying80 rfl (trivial) rfl (by decide) rfl (fun h => absurd rfl h) (fun _ => rfl)
theorem D81 : DOK Try.prog 81 (T 81) := DOK.mk (z := .int .u32 0) (by kernel_rfl) Try.underlying81 rfl (rfl) rfl (by decide) rfl (fun h => absurd rfl h) (fun _ => rfl)
theorem D82 : DOK Try.prog 82 (T 82) := DOK.mk (z := .int .u8 0) (by kernel_rfl) Try.underlying82 rfl (rfl) rfl (by decide) rfl (fun h => absurd rfl h) (fun _ => rfl)
theorem D83 : DOK Try.prog 83 (T 83) := DOK.mk (z := .int .u8 0) (by kernel_rfl) Try.underlying83 rfl (rfl) rfl (by decide) rfl (fun h => absurd rfl h) (fun _ => rfl)
theorem D84 : DOK Try.prog 84 (T 84) := DOK.mk (z := .nilFunc) (by kernel_rfl) Try.underlying84 rfl (trivial) rfl (by decide) rfl (fun h => absurd rfl h) (fun _ => rfl)
theorem D85 : DOK Try.prog 85 (T 85) := DOK.mk (z := .pointer none) (by kernel_rfl) Try.underlying85 rfl (trivial) rfl (by decide) rfl (fun h => absurd rfl h) (fun _ => rfl)
theorem D86 : DOK Try.prog 86 (T 86) := DOK.mk (z := .int .i32 0) (by kernel_rfl) Try.underlying86 rfl (rfl) rfl (by decide) rfl (fun h => absurd rfl h) (fun _ => rfl)
theorem D87 : DOK Try.prog 87 (T 87) := DOK.mk (z := .int .i32 0) (by kernel_rfl) Try.underlying87 rfl (rfl) rfl (by decide) rfl (fun h => absurd rfl h) (fun _ => rfl)
theorem D88 : DOK Try.prog 88 (T 88) := DOK.mk (z := .agg #[.int .u64 0, .int .u64 0, .int .u32 0, .int .u8 0, .int .u8 0, .int .u8 0, .int .u8 0, .nilFunc, .pointer none, .int .i32 0, .int .i32 0]) (by kernel_rfl) Try.underlying88 rfl (KOK.struct (by kernel_rfl)) rfl (by decide) rfl (fun h => absurd rfl h) (fun h => by cases h)
theorem D89 : DOK Try.prog 89 (T 89) := DOK.mk (z := .agg #[.int .u64 0, .int .u64 0, .int .u32 0, .int .u8 0, .int .u8 0, .int .u8 0, .int .u8 0, .nilFunc, .pointer none, .int .i32 0, .int .i32 0]) (by kernel_rfl) Try.underlying89 rfl (KOK.struct (by kernel_rfl)) rfl (by decide) rfl (fun h => absurd rfl h) (fun h => by cases h)
theorem TT : TOK Try.prog T := by
  intro t
  unfold T
  split
  · exact D1
  · exact D2
  · exact D3
  · exact D4
  · exact D5
  · exact D6
  · exact D7
  · exact D8
  · exact D9
  · exact D10
  · exact D11
  · exact D12
  · exact D13
  · exact D14
  · exact D15
  · exact D16
  · exact D17
  · exact D18
  · exact D19
  · exact D20
  · exact D21
  · exact D22
  · exact D23
  · exact D24
  · exact D26
  · exact D27
  · exact D28
  · exact D29
  · exact D30
  · exact D31
  · exact D32
  · exact D33
  · exact D35
  · exact D36
  · exact D38
  · exact D39
  · exact D40
  · exact D41
  · exact D42
  · exact D43
  · exact D45
  · exact D46
  · exact D47
  · exact D48
  · exact D49
  · exact D51
  · exact D52
  · exact D53
  · exact D54
  · exact D55
  · exact D56
  · exact D57
  · exact D58
  · exact D59
  · exact D60
  · exact D61
  · exact D62
  · exact D63
  · exact D64
  · exact D65
  · exact D66
  · exact D67
  · exact D68
  · exact D69
  · exact D70
  · exact D71
  · exact D72
  · exact D73
  · exact D74
  · exact D75
  · exact D76
  · exact D80
  · exact D81
  · exact D82
  · exact D83
  · exact D84
  · exact D85
  · exact D86
  · exact D87
  · exact D88
  · exact D89
  · intro h; cases h
attribute [push_cast] T1 T2 T3 T4 T5 T6 T7 T8 T9 T10 T11 T12 T13 T14 T15 T16 T17 T18 T19 T20 T21 T22 T23 T24 T26 T27 T28 T29 T30 T31 T32 T33 T35 T36 T38 T39 T40 T41 T42 T43 T45 T46 T47 T48 T49 T51 T52 T53 T54 T55 T56 T57 T58 T59 T60 T61 T62 T63 T64 T65 T66 T67 T68 T69 T70 T71 T72 T73 T74 T75 T76 T80 T81 T82 T83 T84 T85 T86 T87 T88 T89
attribute [push_cast] beq_self_eq_true Bool.not_true Bool.not_false Bool.false_eq_true false_implies forall_const Bool.true_beq Bool.false_beq beq_true beq_false implies_true decide_true decide_false
theorem sc {p q : Prop} (hq : q) (hp : p := by first | omega | trivial | exact id | (intro h; rw [h]; rfl) | (intro h; exact ⟨h, h⟩) | (intros; decide) | (intro h; simp only [Bool.and_eq_true, Bool.not_eq_true', Bool.or_eq_false_iff, Bool.not_eq_false'] at h; simp [h]; done) | (intros; simp_all; done) | (intros; simp_all; omega)) : p ∧ q := ⟨hp, hq⟩
theorem sk {p q : Prop} (hq : q) (hp : p := by clear hK; first | omega | trivial | exact id | (intro h; rw [h]; rfl) | (intro h; exact ⟨h, h⟩) | (intros; decide) | (intro h; simp only [Bool.and_eq_true, Bool.not_eq_true', Bool.or_eq_false_iff, Bool.not_eq_false'] at h; simp [h]; done) | (intros; simp_all; done) | (intros; simp_all; omega)) : p ∧ q := ⟨hp, hq⟩
end Go.Proofs.Ytjajefphfhdfkaa
