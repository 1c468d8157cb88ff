/- THE TYPES OF THE PROGRAM, as the logic wants them. Written by types.py. -/
import Derived.Test.YtmocgjimlhgejaaKB25
import Derived.Test.YtmocgjimlhgejaaProg
namespace Go.Proofs.Ytmocgjimlhgejaa
open Go.PL
set_option maxRecDepth 100000

def T : Nat → TD
  | 1 => ⟨.other, false, 1, 8, [.nilFunc], true, []⟩
  | 2 => ⟨.int .i64, false, 1, 8, [.int .i64 0], true, []⟩
  | 3 => ⟨.int .i64, false, 1, 8, [.int .i64 0], true, []⟩
  | 4 => ⟨.bool, false, 1, 1, [.bool false], true, []⟩
  | 5 => ⟨.int .u8, false, 1, 1, [.int .u8 0], true, []⟩
  | 6 => ⟨.int .u8, false, 1, 1, [.int .u8 0], true, []⟩
  | 7 => ⟨.struct [(0, 1, 2), (1, 1, 3), (2, 1, 4), (3, 1, 6)], true, 4, 24, [.int .i64 0, .int .i64 0, .bool false, .int .u8 0], true, []⟩
  | 8 => ⟨.struct [(0, 1, 2), (1, 1, 3), (2, 1, 4), (3, 1, 6)], true, 4, 24, [.int .i64 0, .int .i64 0, .bool false, .int .u8 0], true, []⟩
  | 9 => ⟨.str, false, 1, 16, [.string ByteArray.empty], true, []⟩
  | 10 => ⟨.str, false, 1, 16, [.string ByteArray.empty], true, []⟩
  | 11 => ⟨.str, false, 1, 16, [.string ByteArray.empty], true, []⟩
  | 12 => ⟨.int .u64, false, 1, 8, [.int .u64 0], true, []⟩
  | 13 => ⟨.struct [(0, 1, 9), (1, 1, 12)], true, 2, 24, [.string ByteArray.empty, .int .u64 0], true, []⟩
  | 14 => ⟨.struct [(0, 1, 9), (1, 1, 12)], true, 2, 24, [.string ByteArray.empty, .int .u64 0], true, []⟩
  | 15 => ⟨.other, false, 1, 8, [.pointer none], true, []⟩
  | 16 => ⟨.other, false, 1, 8, [.pointer none], true, []⟩
  | 17 => ⟨.other, false, 1, 8, [.pointer none], true, []⟩
  | 18 => ⟨.struct [(0, 1, 17)], true, 1, 8, [.pointer none], true, []⟩
  | 19 => ⟨.struct [(0, 1, 17)], true, 1, 8, [.pointer none], true, []⟩
  | 20 => ⟨.other, false, 1, 16, [.nilIface], true, []⟩
  | 21 => ⟨.int .i32, false, 1, 4, [.int .i32 0], true, []⟩
  | 22 => ⟨.slice 38, false, 1, 24, [.slice none 0 0], true, []⟩
  | 23 => ⟨.slice 59, false, 1, 24, [.slice none 0 0], true, []⟩
  | 24 => ⟨.int .i64, false, 1, 8, [.int .i64 0], true, []⟩
  | 26 => ⟨.other, false, 1, 8, [.nilFunc], true, []⟩
  | 27 => ⟨.other, false, 1, 8, [.nilFunc], true, []⟩
  | 28 => ⟨.other, false, 1, 8, [.nilFunc], true, []⟩
  | 29 => ⟨.other, false, 1, 8, [.nilFunc], true, []⟩
  | 30 => ⟨.slice 48, false, 1, 24, [.slice none 0 0], true, []⟩
  | 32 => ⟨.other, false, 1, 8, [.nilFunc], true, []⟩
  | 33 => ⟨.other, false, 1, 8, [.nilFunc], true, []⟩
  | 34 => ⟨.other, false, 1, 8, [.nilFunc], true, []⟩
  | 35 => ⟨.other, false, 1, 8, [.nilFunc], true, []⟩
  | 36 => ⟨.other, false, 1, 8, [.nilFunc], true, []⟩
  | 37 => ⟨.struct [(0, 1, 9), (1, 1, 4)], true, 2, 24, [.string ByteArray.empty, .bool false], true, [.str, .bool]⟩
  | 38 => ⟨.struct [(0, 1, 9), (1, 1, 4)], true, 2, 24, [.string ByteArray.empty, .bool false], true, [.str, .bool]⟩
  | 39 => ⟨.other, false, 1, 8, [.nilFunc], true, []⟩
  | 41 => ⟨.other, false, 1, 8, [.nilFunc], true, []⟩
  | 42 => ⟨.slice 54, false, 1, 24, [.slice none 0 0], true, []⟩
  | 44 => ⟨.other, false, 1, 8, [.nilFunc], true, []⟩
  | 45 => ⟨.slice 79, false, 1, 24, [.slice none 0 0], true, []⟩
  | 46 => ⟨.other, false, 1, 8, [.nilFunc], true, []⟩
  | 47 => ⟨.other, false, 1, 8, [.nilFunc], true, []⟩
  | 48 => ⟨.int .i64, false, 1, 8, [.int .i64 0], true, []⟩
  | 49 => ⟨.slice 9, false, 1, 24, [.slice none 0 0], true, []⟩
  | 50 => ⟨.int .i64, false, 1, 8, [.int .i64 0], true, []⟩
  | 51 => ⟨.struct [(0, 1, 4), (1, 1, 3), (2, 1, 3), (3, 1, 3), (4, 1, 3), (5, 1, 3), (6, 1, 3)], true, 7, 56, [.bool false, .int .i64 0, .int .i64 0, .int .i64 0, .int .i64 0, .int .i64 0, .int .i64 0], true, [.bool, .int, .int, .int, .int, .int, .int]⟩
  | 52 => ⟨.struct [(0, 1, 4), (1, 1, 3), (2, 1, 3), (3, 1, 3), (4, 1, 3), (5, 1, 3), (6, 1, 3)], true, 7, 56, [.bool false, .int .i64 0, .int .i64 0, .int .i64 0, .int .i64 0, .int .i64 0, .int .i64 0], true, [.bool, .int, .int, .int, .int, .int, .int]⟩
  | 53 => ⟨.struct [(0, 1, 50), (1, 7, 52)], true, 8, 64, [.int .i64 0, .bool false, .int .i64 0, .int .i64 0, .int .i64 0, .int .i64 0, .int .i64 0, .int .i64 0], true, [.int, .bool, .int, .int, .int, .int, .int, .int]⟩
  | 54 => ⟨.struct [(0, 1, 50), (1, 7, 52)], true, 8, 64, [.int .i64 0, .bool false, .int .i64 0, .int .i64 0, .int .i64 0, .int .i64 0, .int .i64 0, .int .i64 0], true, [.int, .bool, .int, .int, .int, .int, .int, .int]⟩
  | 55 => ⟨.other, false, 1, 8, [.nilFunc], true, []⟩
  | 56 => ⟨.other, false, 1, 8, [.nilFunc], true, []⟩
  | 57 => ⟨.other, false, 1, 8, [.pointer none], true, []⟩
  | 58 => ⟨.struct [(0, 1, 4), (1, 1, 22), (2, 1, 22), (3, 1, 22), (4, 1, 22)], true, 5, 104, [.bool false, .slice none 0 0, .slice none 0 0, .slice none 0 0, .slice none 0 0], true, []⟩
  | 59 => ⟨.struct [(0, 1, 4), (1, 1, 22), (2, 1, 22), (3, 1, 22), (4, 1, 22)], true, 5, 104, [.bool false, .slice none 0 0, .slice none 0 0, .slice none 0 0, .slice none 0 0], true, []⟩
  | 60 => ⟨.struct [(0, 1, 23), (1, 5, 59), (6, 1, 3), (7, 1, 3)], true, 8, 144, [.slice none 0 0, .bool false, .slice none 0 0, .slice none 0 0, .slice none 0 0, .slice none 0 0, .int .i64 0, .int .i64 0], true, []⟩
  | 61 => ⟨.struct [(0, 1, 23), (1, 5, 59), (6, 1, 3), (7, 1, 3)], true, 8, 144, [.slice none 0 0, .bool false, .slice none 0 0, .slice none 0 0, .slice none 0 0, .slice none 0 0, .int .i64 0, .int .i64 0], true, []⟩
  | 62 => ⟨.struct [], true, 0, 0, [], true, []⟩
  | 63 => ⟨.struct [], true, 0, 0, [], true, []⟩
  | 65 => ⟨.other, false, 1, 8, [.nilFunc], true, []⟩
  | 66 => ⟨.other, false, 1, 8, [.nilFunc], true, []⟩
  | 68 => ⟨.other, false, 1, 8, [.nilFunc], true, []⟩
  | 69 => ⟨.slice 22, false, 1, 24, [.slice none 0 0], true, []⟩
  | 70 => ⟨.other, false, 1, 8, [.nilFunc], true, []⟩
  | 71 => ⟨.other, false, 1, 8, [.nilFunc], true, []⟩
  | 72 => ⟨.other, false, 1, 8, [.nilFunc], true, []⟩
  | 73 => ⟨.other, false, 1, 8, [.nilFunc], true, []⟩
  | 74 => ⟨.other, false, 1, 8, [.nilFunc], true, []⟩
  | 75 => ⟨.arr 4 9, true, 4, 64, [.string ByteArray.empty, .string ByteArray.empty, .string ByteArray.empty, .string ByteArray.empty], true, [.str, .str, .str, .str]⟩
  | 76 => ⟨.slice 52, false, 1, 24, [.slice none 0 0], true, []⟩
  | 78 => ⟨.other, false, 1, 8, [.nilFunc], true, []⟩
  | 79 => ⟨.arr 2 3, true, 2, 16, [.int .i64 0, .int .i64 0], true, [.int, .int]⟩
  | 80 => ⟨.other, false, 1, 8, [.nilFunc], true, []⟩
  | 81 => ⟨.slice 84, false, 1, 24, [.slice none 0 0], true, []⟩
  | 82 => ⟨.other, false, 1, 8, [.nilFunc], true, []⟩
  | 83 => ⟨.other, false, 1, 8, [.nilFunc], true, []⟩
  | 84 => ⟨.slice 3, false, 1, 24, [.slice none 0 0], true, []⟩
  | 85 => ⟨.other, false, 1, 8, [.nilFunc], true, []⟩
  | 86 => ⟨.other, false, 1, 8, [.nilFunc], true, []⟩
  | 87 => ⟨.other, false, 1, 8, [.nilFunc], true, []⟩
  | 88 => ⟨.other, false, 1, 8, [.nilFunc], true, []⟩
  | 89 => ⟨.other, false, 1, 8, [.nilFunc], true, []⟩
  | 90 => ⟨.other, false, 1, 8, [.nilFunc], true, []⟩
  | 91 => ⟨.other, false, 1, 8, [.nilFunc], true, []⟩
  | 92 => ⟨.other, false, 1, 8, [.nilFunc], true, []⟩
  | 94 => ⟨.other, false, 1, 8, [.nilFunc], true, []⟩
  | 95 => ⟨.slice 97, false, 1, 24, [.slice none 0 0], true, []⟩
  | 96 => ⟨.other, false, 1, 8, [.nilFunc], true, []⟩
  | 97 => ⟨.int .i64, false, 1, 8, [.int .i64 0], true, []⟩
  | 98 => ⟨.other, false, 1, 8, [.nilFunc], true, []⟩
  | 100 => ⟨.other, false, 1, 8, [.nilFunc], true, []⟩
  | 101 => ⟨.other, false, 1, 8, [.nilFunc], true, []⟩
  | 102 => ⟨.other, false, 1, 8, [.nilFunc], true, []⟩
  | 103 => ⟨.struct [(0, 1, 17), (1, 1, 17), (2, 1, 17), (3, 1, 9)], true, 4, 40, [.pointer none, .pointer none, .pointer none, .string ByteArray.empty], true, []⟩
  | 104 => ⟨.struct [(0, 1, 17), (1, 1, 17), (2, 1, 17), (3, 1, 9)], true, 4, 40, [.pointer none, .pointer none, .pointer none, .string ByteArray.empty], true, []⟩
  | 106 => ⟨.struct [(0, 0, 105)], true, 0, 0, [], true, []⟩
  | 107 => ⟨.struct [(0, 0, 105)], true, 0, 0, [], true, []⟩
  | 108 => ⟨.other, false, 1, 8, [.nilFunc], true, []⟩
  | 109 => ⟨.int .u32, false, 1, 4, [.int .u32 0], true, []⟩
  | 110 => ⟨.int .u8, false, 1, 1, [.int .u8 0], true, []⟩
  | 111 => ⟨.int .u8, false, 1, 1, [.int .u8 0], true, []⟩
  | 112 => ⟨.other, false, 1, 8, [.nilFunc], true, []⟩
  | 113 => ⟨.other, false, 1, 8, [.pointer none], true, []⟩
  | 114 => ⟨.int .i32, false, 1, 4, [.int .i32 0], true, []⟩
  | 115 => ⟨.int .i32, false, 1, 4, [.int .i32 0], true, []⟩
  | 116 => ⟨.struct [(0, 1, 12), (1, 1, 12), (2, 1, 109), (3, 1, 110), (4, 1, 5), (5, 1, 5), (6, 1, 111), (7, 1, 112), (8, 1, 113), (9, 1, 114), (10, 1, 115)], true, 11, 48, [.int .u64 0, .int .u64 0, .int .u32 0, .int .u8 0, .int .u8 0, .int .u8 0, .int .u8 0, .nilFunc, .pointer none, .int .i32 0, .int .i32 0], true, []⟩
  | 117 => ⟨.struct [(0, 1, 12), (1, 1, 12), (2, 1, 109), (3, 1, 110), (4, 1, 5), (5, 1, 5), (6, 1, 111), (7, 1, 112), (8, 1, 113), (9, 1, 114), (10, 1, 115)], true, 11, 48, [.int .u64 0, .int .u64 0, .int .u32 0, .int .u8 0, .int .u8 0, .int .u8 0, .int .u8 0, .nilFunc, .pointer none, .int .i32 0, .int .i32 0], true, []⟩
  | _ => default
theorem T1 : T 1 = ⟨.other, false, 1, 8, [.nilFunc], true, []⟩ := rfl
theorem T2 : T 2 = ⟨.int .i64, false, 1, 8, [.int .i64 0], true, []⟩ := rfl
theorem T3 : T 3 = ⟨.int .i64, false, 1, 8, [.int .i64 0], true, []⟩ := rfl
theorem T4 : T 4 = ⟨.bool, false, 1, 1, [.bool false], true, []⟩ := rfl
theorem T5 : T 5 = ⟨.int .u8, false, 1, 1, [.int .u8 0], true, []⟩ := rfl
theorem T6 : T 6 = ⟨.int .u8, false, 1, 1, [.int .u8 0], true, []⟩ := rfl
theorem T7 : T 7 = ⟨.struct [(0, 1, 2), (1, 1, 3), (2, 1, 4), (3, 1, 6)], true, 4, 24, [.int .i64 0, .int .i64 0, .bool false, .int .u8 0], true, []⟩ := rfl
theorem T8 : T 8 = ⟨.struct [(0, 1, 2), (1, 1, 3), (2, 1, 4), (3, 1, 6)], true, 4, 24, [.int .i64 0, .int .i64 0, .bool false, .int .u8 0], true, []⟩ := rfl
theorem T9 : T 9 = ⟨.str, false, 1, 16, [.string ByteArray.empty], true, []⟩ := rfl
theorem T10 : T 10 = ⟨.str, false, 1, 16, [.string ByteArray.empty], true, []⟩ := rfl
theorem T11 : T 11 = ⟨.str, false, 1, 16, [.string ByteArray.empty], true, []⟩ := rfl
theorem T12 : T 12 = ⟨.int .u64, false, 1, 8, [.int .u64 0], true, []⟩ := rfl
theorem T13 : T 13 = ⟨.struct [(0, 1, 9), (1, 1, 12)], true, 2, 24, [.string ByteArray.empty, .int .u64 0], true, []⟩ := rfl
theorem T14 : T 14 = ⟨.struct [(0, 1, 9), (1, 1, 12)], true, 2, 24, [.string ByteArray.empty, .int .u64 0], true, []⟩ := rfl
theorem T15 : T 15 = ⟨.other, false, 1, 8, [.pointer none], true, []⟩ := rfl
theorem T16 : T 16 = ⟨.other, false, 1, 8, [.pointer none], true, []⟩ := rfl
theorem T17 : T 17 = ⟨.other, false, 1, 8, [.pointer none], true, []⟩ := rfl
theorem T18 : T 18 = ⟨.struct [(0, 1, 17)], true, 1, 8, [.pointer none], true, []⟩ := rfl
theorem T19 : T 19 = ⟨.struct [(0, 1, 17)], true, 1, 8, [.pointer none], true, []⟩ := rfl
theorem T20 : T 20 = ⟨.other, false, 1, 16, [.nilIface], true, []⟩ := rfl
theorem T21 : T 21 = ⟨.int .i32, false, 1, 4, [.int .i32 0], true, []⟩ := rfl
theorem T22 : T 22 = ⟨.slice 38, false, 1, 24, [.slice none 0 0], true, []⟩ := rfl
theorem T23 : T 23 = ⟨.slice 59, false, 1, 24, [.slice none 0 0], true, []⟩ := rfl
theorem T24 : T 24 = ⟨.int .i64, false, 1, 8, [.int .i64 0], true, []⟩ := rfl
theorem T26 : T 26 = ⟨.other, false, 1, 8, [.nilFunc], true, []⟩ := rfl
theorem T27 : T 27 = ⟨.other, false, 1, 8, [.nilFunc], true, []⟩ := rfl
theorem T28 : T 28 = ⟨.other, false, 1, 8, [.nilFunc], true, []⟩ := rfl
theorem T29 : T 29 = ⟨.other, false, 1, 8, [.nilFunc], true, []⟩ := rfl
theorem T30 : T 30 = ⟨.slice 48, false, 1, 24, [.slice none 0 0], true, []⟩ := rfl
theorem T32 : T 32 = ⟨.other, false, 1, 8, [.nilFunc], true, []⟩ := rfl
theorem T33 : T 33 = ⟨.other, false, 1, 8, [.nilFunc], true, []⟩ := rfl
theorem T34 : T 34 = ⟨.other, false, 1, 8, [.nilFunc], true, []⟩ := rfl
theorem T35 : T 35 = ⟨.other, false, 1, 8, [.nilFunc], true, []⟩ := rfl
theorem T36 : T 36 = ⟨.other, false, 1, 8, [.nilFunc], true, []⟩ := rfl
theorem T37 : T 37 = ⟨.struct [(0, 1, 9), (1, 1, 4)], true, 2, 24, [.string ByteArray.empty, .bool false], true, [.str, .bool]⟩ := rfl
theorem T38 : T 38 = ⟨.struct [(0, 1, 9), (1, 1, 4)], true, 2, 24, [.string ByteArray.empty, .bool false], true, [.str, .bool]⟩ := rfl
theorem T39 : T 39 = ⟨.other, false, 1, 8, [.nilFunc], true, []⟩ := rfl
theorem T41 : T 41 = ⟨.other, false, 1, 8, [.nilFunc], true, []⟩ := rfl
theorem T42 : T 42 = ⟨.slice 54, false, 1, 24, [.slice none 0 0], true, []⟩ := rfl
theorem T44 : T 44 = ⟨.other, false, 1, 8, [.nilFunc], true, []⟩ := rfl
theorem T45 : T 45 = ⟨.slice 79, false, 1, 24, [.slice none 0 0], true, []⟩ := rfl
theorem T46 : T 46 = ⟨.other, false, 1, 8, [.nilFunc], true, []⟩ := rfl
theorem T47 : T 47 = ⟨.other, false, 1, 8, [.nilFunc], true, []⟩ := rfl
theorem T48 : T 48 = ⟨.int .i64, false, 1, 8, [.int .i64 0], true, []⟩ := rfl
theorem T49 : T 49 = ⟨.slice 9, false, 1, 24, [.slice none 0 0], true, []⟩ := rfl
theorem T50 : T 50 = ⟨.int .i64, false, 1, 8, [.int .i64 0], true, []⟩ := rfl
theorem T51 : T 51 = ⟨.struct [(0, 1, 4), (1, 1, 3), (2, 1, 3), (3, 1, 3), (4, 1, 3), (5, 1, 3), (6, 1, 3)], true, 7, 56, [.bool false, .int .i64 0, .int .i64 0, .int .i64 0, .int .i64 0, .int .i64 0, .int .i64 0], true, [.bool, .int, .int, .int, .int, .int, .int]⟩ := rfl
theorem T52 : T 52 = ⟨.struct [(0, 1, 4), (1, 1, 3), (2, 1, 3), (3, 1, 3), (4, 1, 3), (5, 1, 3), (6, 1, 3)], true, 7, 56, [.bool false, .int .i64 0, .int .i64 0, .int .i64 0, .int .i64 0, .int .i64 0, .int .i64 0], true, [.bool, .int, .int, .int, .int, .int, .int]⟩ := rfl
theorem T53 : T 53 = ⟨.struct [(0, 1, 50), (1, 7, 52)], true, 8, 64, [.int .i64 0, .bool false, .int .i64 0, .int .i64 0, .int .i64 0, .int .i64 0, .int .i64 0, .int .i64 0], true, [.int, .bool, .int, .int, .int, .int, .int, .int]⟩ := rfl
theorem T54 : T 54 = ⟨.struct [(0, 1, 50), (1, 7, 52)], true, 8, 64, [.int .i64 0, .bool false, .int .i64 0, .int .i64 0, .int .i64 0, .int .i64 0, .int .i64 0, .int .i64 0], true, [.int, .bool, .int, .int, .int, .int, .int, .int]⟩ := rfl
theorem T55 : T 55 = ⟨.other, false, 1, 8, [.nilFunc], true, []⟩ := rfl
theorem T56 : T 56 = ⟨.other, false, 1, 8, [.nilFunc], true, []⟩ := rfl
theorem T57 : T 57 = ⟨.other, false, 1, 8, [.pointer none], true, []⟩ := rfl
theorem T58 : T 58 = ⟨.struct [(0, 1, 4), (1, 1, 22), (2, 1, 22), (3, 1, 22), (4, 1, 22)], true, 5, 104, [.bool false, .slice none 0 0, .slice none 0 0, .slice none 0 0, .slice none 0 0], true, []⟩ := rfl
theorem T59 : T 59 = ⟨.struct [(0, 1, 4), (1, 1, 22), (2, 1, 22), (3, 1, 22), (4, 1, 22)], true, 5, 104, [.bool false, .slice none 0 0, .slice none 0 0, .slice none 0 0, .slice none 0 0], true, []⟩ := rfl
theorem T60 : T 60 = ⟨.struct [(0, 1, 23), (1, 5, 59), (6, 1, 3), (7, 1, 3)], true, 8, 144, [.slice none 0 0, .bool false, .slice none 0 0, .slice none 0 0, .slice none 0 0, .slice none 0 0, .int .i64 0, .int .i64 0], true, []⟩ := rfl
theorem T61 : T 61 = ⟨.struct [(0, 1, 23), (1, 5, 59), (6, 1, 3), (7, 1, 3)], true, 8, 144, [.slice none 0 0, .bool false, .slice none 0 0, .slice none 0 0, .slice none 0 0, .slice none 0 0, .int .i64 0, .int .i64 0], true, []⟩ := rfl
theorem T62 : T 62 = ⟨.struct [], true, 0, 0, [], true, []⟩ := rfl
theorem T63 : T 63 = ⟨.struct [], true, 0, 0, [], true, []⟩ := rfl
theorem T65 : T 65 = ⟨.other, false, 1, 8, [.nilFunc], true, []⟩ := rfl
theorem T66 : T 66 = ⟨.other, false, 1, 8, [.nilFunc], true, []⟩ := rfl
theorem T68 : T 68 = ⟨.other, false, 1, 8, [.nilFunc], true, []⟩ := rfl
theorem T69 : T 69 = ⟨.slice 22, false, 1, 24, [.slice none 0 0], true, []⟩ := rfl
theorem T70 : T 70 = ⟨.other, false, 1, 8, [.nilFunc], true, []⟩ := rfl
theorem T71 : T 71 = ⟨.other, false, 1, 8, [.nilFunc], true, []⟩ := rfl
theorem T72 : T 72 = ⟨.other, false, 1, 8, [.nilFunc], true, []⟩ := rfl
theorem T73 : T 73 = ⟨.other, false, 1, 8, [.nilFunc], true, []⟩ := rfl
theorem T74 : T 74 = ⟨.other, false, 1, 8, [.nilFunc], true, []⟩ := rfl
theorem T75 : T 75 = ⟨.arr 4 9, true, 4, 64, [.string ByteArray.empty, .string ByteArray.empty, .string ByteArray.empty, .string ByteArray.empty], true, [.str, .str, .str, .str]⟩ := rfl
theorem T76 : T 76 = ⟨.slice 52, false, 1, 24, [.slice none 0 0], true, []⟩ := rfl
theorem T78 : T 78 = ⟨.other, false, 1, 8, [.nilFunc], true, []⟩ := rfl
theorem T79 : T 79 = ⟨.arr 2 3, true, 2, 16, [.int .i64 0, .int .i64 0], true, [.int, .int]⟩ := rfl
theorem T80 : T 80 = ⟨.other, false, 1, 8, [.nilFunc], true, []⟩ := rfl
theorem T81 : T 81 = ⟨.slice 84, false, 1, 24, [.slice none 0 0], true, []⟩ := rfl
theorem T82 : T 82 = ⟨.other, false, 1, 8, [.nilFunc], true, []⟩ := rfl
theorem T83 : T 83 = ⟨.other, false, 1, 8, [.nilFunc], true, []⟩ := rfl
theorem T84 : T 84 = ⟨.slice 3, false, 1, 24, [.slice none 0 0], true, []⟩ := rfl
theorem T85 : T 85 = ⟨.other, false, 1, 8, [.nilFunc], true, []⟩ := rfl
theorem T86 : T 86 = ⟨.other, false, 1, 8, [.nilFunc], true, []⟩ := rfl
theorem T87 : T 87 = ⟨.other, false, 1, 8, [.nilFunc], true, []⟩ := rfl
theorem T88 : T 88 = ⟨.other, false, 1, 8, [.nilFunc], true, []⟩ := rfl
theorem T89 : T 89 = ⟨.other, false, 1, 8, [.nilFunc], true, []⟩ := rfl
theorem T90 : T 90 = ⟨.other, false, 1, 8, [.nilFunc], true, []⟩ := rfl
theorem T91 : T 91 = ⟨.other, false, 1, 8, [.nilFunc], true, []⟩ := rfl
theorem T92 : T 92 = ⟨.other, false, 1, 8, [.nilFunc], true, []⟩ := rfl
theorem T94 : T 94 = ⟨.other, false, 1, 8, [.nilFunc], true, []⟩ := rfl
theorem T95 : T 95 = ⟨.slice 97, false, 1, 24, [.slice none 0 0], true, []⟩ := rfl
theorem T96 : T 96 = ⟨.other, false, 1, 8, [.nilFunc], true, []⟩ := rfl
theorem T97 : T 97 = ⟨.int .i64, false, 1, 8, [.int .i64 0], true, []⟩ := rfl
theorem T98 : T 98 = ⟨.other, false, 1, 8, [.nilFunc], true, []⟩ := rfl
theorem T100 : T 100 = ⟨.other, false, 1, 8, [.nilFunc], true, []⟩ := rfl
theorem T101 : T 101 = ⟨.other, false, 1, 8, [.nilFunc], true, []⟩ := rfl
theorem T102 : T 102 = ⟨.other, false, 1, 8, [.nilFunc], true, []⟩ := rfl
theorem T103 : T 103 = ⟨.struct [(0, 1, 17), (1, 1, 17), (2, 1, 17), (3, 1, 9)], true, 4, 40, [.pointer none, .pointer none, .pointer none, .string ByteArray.empty], true, []⟩ := rfl
theorem T104 : T 104 = ⟨.struct [(0, 1, 17), (1, 1, 17), (2, 1, 17), (3, 1, 9)], true, 4, 40, [.pointer none, .pointer none, .pointer none, .string ByteArray.empty], true, []⟩ := rfl
theorem T106 : T 106 = ⟨.struct [(0, 0, 105)], true, 0, 0, [], true, []⟩ := rfl
theorem T107 : T 107 = ⟨.struct [(0, 0, 105)], true, 0, 0, [], true, []⟩ := rfl
theorem T108 : T 108 = ⟨.other, false, 1, 8, [.nilFunc], true, []⟩ := rfl
theorem T109 : T 109 = ⟨.int .u32, false, 1, 4, [.int .u32 0], true, []⟩ := rfl
theorem T110 : T 110 = ⟨.int .u8, false, 1, 1, [.int .u8 0], true, []⟩ := rfl
theorem T111 : T 111 = ⟨.int .u8, false, 1, 1, [.int .u8 0], true, []⟩ := rfl
theorem T112 : T 112 = ⟨.other, false, 1, 8, [.nilFunc], true, []⟩ := rfl
theorem T113 : T 113 = ⟨.other, false, 1, 8, [.pointer none], true, []⟩ := rfl
theorem T114 : T 114 = ⟨.int .i32, false, 1, 4, [.int .i32 0], true, []⟩ := rfl
theorem T115 : T 115 = ⟨.int .i32, false, 1, 4, [.int .i32 0], true, []⟩ := rfl
theorem T116 : T 116 = ⟨.struct [(0, 1, 12), (1, 1, 12), (2, 1, 109), (3, 1, 110), (4, 1, 5), (5, 1, 5), (6, 1, 111), (7, 1, 112), (8, 1, 113), (9, 1, 114), (10, 1, 115)], true, 11, 48, [.int .u64 0, .int .u64 0, .int .u32 0, .int .u8 0, .int .u8 0, .int .u8 0, .int .u8 0, .nilFunc, .pointer none, .int .i32 0, .int .i32 0], true, []⟩ := rfl
theorem T117 : T 117 = ⟨.struct [(0, 1, 12), (1, 1, 12), (2, 1, 109), (3, 1, 110), (4, 1, 5), (5, 1, 5), (6, 1, 111), (7, 1, 112), (8, 1, 113), (9, 1, 114), (10, 1, 115)], true, 11, 48, [.int .u64 0, .int .u64 0, .int .u32 0, .int .u8 0, .int .u8 0, .int .u8 0, .int .u8 0, .nilFunc, .pointer none, .int .i32 0, .int .i32 0], true, []⟩ := rfl
theorem D1 : DOK Try.prog 1 (T 1) := DOK.mk (z := .nilFunc) (by kernel_rfl) Try.underlying1 rfl (trivial) rfl (by decide) rfl (fun h => absurd rfl h) (fun _ => rfl)
theorem D2 : DOK Try.prog 2 (T 2) := DOK.mk (z := .int .i64 0) (by kernel_rfl) Try.underlying2 rfl (rfl) rfl (by decide) rfl (fun h => absurd rfl h) (fun _ => rfl)
theorem D3 : DOK Try.prog 3 (T 3) := DOK.mk (z := .int .i64 0) (by kernel_rfl) Try.underlying3 rfl (rfl) rfl (by decide) rfl (fun h => absurd rfl h) (fun _ => rfl)
theorem D4 : DOK Try.prog 4 (T 4) := DOK.mk (z := .bool false) (by kernel_rfl) Try.underlying4 rfl (rfl) rfl (by decide) rfl (fun h => absurd rfl h) (fun _ => rfl)
theorem D5 : DOK Try.prog 5 (T 5) := DOK.mk (z := .int .u8 0) (by kernel_rfl) Try.underlying5 rfl (rfl) rfl (by decide) rfl (fun h => absurd rfl h) (fun _ => rfl)
theorem D6 : DOK Try.prog 6 (T 6) := DOK.mk (z := .int .u8 0) (by kernel_rfl) Try.underlying6 rfl (rfl) rfl (by decide) rfl (fun h => absurd rfl h) (fun _ => rfl)
theorem D7 : DOK Try.prog 7 (T 7) := DOK.mk (z := .agg #[.int .i64 0, .int .i64 0, .bool false, .int .u8 0]) (by kernel_rfl) Try.underlying7 rfl (KOK.struct (by kernel_rfl)) rfl (by decide) rfl (fun h => absurd rfl h) (fun h => by cases h)
theorem D8 : DOK Try.prog 8 (T 8) := DOK.mk (z := .agg #[.int .i64 0, .int .i64 0, .bool false, .int .u8 0]) (by kernel_rfl) Try.underlying8 rfl (KOK.struct (by kernel_rfl)) rfl (by decide) rfl (fun h => absurd rfl h) (fun h => by cases h)
theorem D9 : DOK Try.prog 9 (T 9) := DOK.mk (z := .string ByteArray.empty) (by kernel_rfl) Try.underlying9 rfl (rfl) rfl (by decide) rfl (fun h => absurd rfl h) (fun _ => rfl)
theorem D10 : DOK Try.prog 10 (T 10) := DOK.mk (z := .string ByteArray.empty) (by kernel_rfl) Try.underlying10 rfl (rfl) rfl (by decide) rfl (fun h => absurd rfl h) (fun _ => rfl)
theorem D11 : DOK Try.prog 11 (T 11) := DOK.mk (z := .string ByteArray.empty) (by kernel_rfl) Try.underlying11 rfl (rfl) rfl (by decide) rfl (fun h => absurd rfl h) (fun _ => rfl)
theorem D12 : DOK Try.prog 12 (T 12) := DOK.mk (z := .int .u64 0) (by kernel_rfl) Try.underlying12 rfl (rfl) rfl (by decide) rfl (fun h => absurd rfl h) (fun _ => rfl)
theorem D13 : DOK Try.prog 13 (T 13) := DOK.mk (z := .agg #[.string ByteArray.empty, .int .u64 0]) (by kernel_rfl) Try.underlying13 rfl (KOK.struct (by kernel_rfl)) rfl (by decide) rfl (fun h => absurd rfl h) (fun h => by cases h)
theorem D14 : DOK Try.prog 14 (T 14) := DOK.mk (z := .agg #[.string ByteArray.empty, .int .u64 0]) (by kernel_rfl) Try.underlying14 rfl (KOK.struct (by kernel_rfl)) rfl (by decide) rfl (fun h => absurd rfl h) (fun h => by cases h)
theorem D15 : DOK Try.prog 15 (T 15) := DOK.mk (z := .pointer none) (by kernel_rfl) Try.underlying15 rfl (trivial) rfl (by decide) rfl (fun h => absurd rfl h) (fun _ => rfl)
theorem D16 : DOK Try.prog 16 (T 16) := DOK.mk (z := .pointer none) (by kernel_rfl) Try.underlying16 rfl (trivial) rfl (by decide) rfl (fun h => absurd rfl h) (fun _ => rfl)
theorem D17 : DOK Try.prog 17 (T 17) := DOK.mk (z := .pointer none) (by kernel_rfl) Try.underlying17 rfl (trivial) rfl (by decide) rfl (fun h => absurd rfl h) (fun _ => rfl)
theorem D18 : DOK Try.prog 18 (T 18) := DOK.mk (z := .agg #[.pointer none]) (by kernel_rfl) Try.underlying18 rfl (KOK.struct (by kernel_rfl)) rfl (by decide) rfl (fun h => absurd rfl h) (fun h => by cases h)
theorem D19 : DOK Try.prog 19 (T 19) := DOK.mk (z := .agg #[.pointer none]) (by kernel_rfl) Try.underlying19 rfl (KOK.struct (by kernel_rfl)) rfl (by decide) rfl (fun h => absurd rfl h) (fun h => by cases h)
theorem D20 : DOK Try.prog 20 (T 20) := DOK.mk (z := .nilIface) (by kernel_rfl) Try.underlying20 rfl (trivial) rfl (by decide) rfl (fun h => absurd rfl h) (fun _ => rfl)
theorem D21 : DOK Try.prog 21 (T 21) := DOK.mk (z := .int .i32 0) (by kernel_rfl) Try.underlying21 rfl (rfl) rfl (by decide) rfl (fun h => absurd rfl h) (fun _ => rfl)
theorem D22 : DOK Try.prog 22 (T 22) := DOK.mk (z := .slice none 0 0) (by kernel_rfl) Try.underlying22 rfl (rfl) rfl (by decide) rfl (fun h => absurd rfl h) (fun _ => rfl)
theorem D23 : DOK Try.prog 23 (T 23) := DOK.mk (z := .slice none 0 0) (by kernel_rfl) Try.underlying23 rfl (rfl) rfl (by decide) rfl (fun h => absurd rfl h) (fun _ => rfl)
theorem D24 : DOK Try.prog 24 (T 24) := DOK.mk (z := .int .i64 0) (by kernel_rfl) Try.underlying24 rfl (rfl) rfl (by decide) rfl (fun h => absurd rfl h) (fun _ => rfl)
theorem D26 : DOK Try.prog 26 (T 26) := DOK.mk (z := .nilFunc) (by kernel_rfl) Try.underlying26 rfl (trivial) rfl (by decide) rfl (fun h => absurd rfl h) (fun _ => rfl)
theorem D27 : DOK Try.prog 27 (T 27) := DOK.mk (z := .nilFunc) (by kernel_rfl) Try.underlying27 rfl (trivial) rfl (by decide) rfl (fun h => absurd rfl h) (fun _ => rfl)
theorem D28 : DOK Try.prog 28 (T 28) := DOK.mk (z := .nilFunc) (by kernel_rfl) Try.underlying28 rfl (trivial) rfl (by decide) rfl (fun h => absurd rfl h) (fun _ => rfl)
theorem D29 : DOK Try.prog 29 (T 29) := DOK.mk (z := .nilFunc) (by kernel_rfl) Try.underlying29 rfl (trivial) rfl (by decide) rfl (fun h => absurd rfl h) (fun _ => rfl)
theorem D30 : DOK Try.prog 30 (T 30) := DOK.mk (z := .slice none 0 0) (by kernel_rfl) Try.underlying30 rfl (rfl) rfl (by decide) rfl (fun h => absurd rfl h) (fun _ => rfl)
theorem D32 : DOK Try.prog 32 (T 32) := DOK.mk (z := .nilFunc) (by kernel_rfl) Try.underlying32 rfl (trivial) rfl (by decide) rfl (fun h => absurd rfl h) (fun _ => rfl)
theorem D33 : DOK Try.prog 33 (T 33) := DOK.mk (z := .nilFunc) (by kernel_rfl) Try.underlying33 rfl (trivial) rfl (by decide) rfl (fun h => absurd rfl h) (fun _ => rfl)
theorem D34 : DOK Try.prog 34 (T 34) := DOK.mk (z := .nilFunc) (by kernel_rfl) Try.underlying34 rfl (trivial) rfl (by decide) rfl (fun h => absurd rfl h) (fun _ => rfl)
theorem D35 : DOK Try.prog 35 (T 35) := DOK.mk (z := .nilFunc) (by kernel_rfl) Try.underlying35 rfl (trivial) rfl (by decide) rfl (fun h => absurd rfl h) (fun _ => rfl)
theorem D36 : DOK Try.prog 36 (T 36) := DOK.mk (z := .nilFunc) (by kernel_rfl) Try.underlying36 rfl (trivial) rfl (by decide) rfl (fun h => absurd rfl h) (fun _ => rfl)
theorem D37 : DOK Try.prog 37 (T 37) := DOK.mk (z := .agg #[.string ByteArray.empty, .bool false]) (by kernel_rfl) Try.underlying37 rfl (KOK.struct (by kernel_rfl)) rfl (by decide) rfl (fun _ => EqOK.mk (by kernel_rfl) (by kernel_rfl) (by kernel_rfl)) (fun h => by cases h)
theorem D38 : DOK Try.prog 38 (T 38) := DOK.mk (z := .agg #[.string ByteArray.empty, .bool false]) (by kernel_rfl) Try.underlying38 rfl (KOK.struct (by kernel_rfl)) rfl (by decide) rfl (fun _ => EqOK.mk (by kernel_rfl) (by kernel_rfl) (by kernel_rfl)) (fun h => by cases h)
theorem D39 : DOK Try.prog 39 (T 39) := DOK.mk (z := .nilFunc) (by kernel_rfl) Try.underlying39 rfl (trivial) rfl (by decide) rfl (fun h => absurd rfl h) (fun _ => rfl)
theorem D41 : DOK Try.prog 41 (T 41) := DOK.mk (z := .nilFunc) (by kernel_rfl) Try.underlying41 rfl (trivial) rfl (by decide) rfl (fun h => absurd rfl h) (fun _ => rfl)
theorem D42 : DOK Try.prog 42 (T 42) := DOK.mk (z := .slice none 0 0) (by kernel_rfl) Try.underlying42 rfl (rfl) rfl (by decide) rfl (fun h => absurd rfl h) (fun _ => rfl)
theorem D44 : DOK Try.prog 44 (T 44) := DOK.mk (z := .nilFunc) (by kernel_rfl) Try.underlying44 rfl (trivial) rfl (by decide) rfl (fun h => absurd rfl h) (fun _ => rfl)
theorem D45 : DOK Try.prog 45 (T 45) := DOK.mk (z := .slice none 0 0) (by kernel_rfl) Try.underlying45 rfl (rfl) rfl (by decide) rfl (fun h => absurd rfl h) (fun _ => rfl)
theorem D46 : DOK Try.prog 46 (T 46) := DOK.mk (z := .nilFunc) (by kernel_rfl) Try.underlying46 rfl (trivial) rfl (by decide) rfl (fun h => absurd rfl h) (fun _ => rfl)
theorem D47 : DOK Try.prog 47 (T 47) := DOK.mk (z := .nilFunc) (by kernel_rfl) Try.underlying47 rfl (trivial) rfl (by decide) rfl (fun h => absurd rfl h) (fun _ => rfl)
theorem D48 : DOK Try.prog 48 (T 48) := DOK.mk (z := .int .i64 0) (by kernel_rfl) Try.underlying48 rfl (rfl) rfl (by decide) rfl (fun h => absurd rfl h) (fun _ => rfl)
theorem D49 : DOK Try.prog 49 (T 49) := DOK.mk (z := .slice none 0 0) (by kernel_rfl) Try.underlying49 rfl (rfl) rfl (by decide) rfl (fun h => absurd rfl h) (fun _ => rfl)
theorem D50 : DOK Try.prog 50 (T 50) := DOK.mk (z := .int .i64 0) (by kernel_rfl) Try.underlying50 rfl (rfl) rfl (by decide) rfl (fun h => absurd rfl h) (fun _ => rfl)
theorem D51 : DOK Try.prog 51 (T 51) := DOK.mk (z := .agg #[.bool false, .int .i64 0, .int .i64 0, .int .i64 0, .int .i64 0, .int .i64 0, .int .i64 0]) (by kernel_rfl) Try.underlying51 rfl (KOK.struct (by kernel_rfl)) rfl (by decide) rfl (fun _ => EqOK.mk (by kernel_rfl) (by kernel_rfl) (by kernel_rfl)) (fun h => by cases h)
theorem D52 : DOK Try.prog 52 (T 52) := DOK.mk (z := .agg #[.bool false, .int .i64 0, .int .i64 0, .int .i64 0, .int .i64 0, .int .i64 0, .int .i64 0]) (by kernel_rfl) Try.underlying52 rfl (KOK.struct (by kernel_rfl)) rfl (by decide) rfl (fun _ => EqOK.mk (by kernel_rfl) (by kernel_rfl) (by kernel_rfl)) (fun h => by cases h)
theorem D53 : DOK Try.prog 53 (T 53) := DOK.mk (z := .agg #[.int .i64 0, .bool false, .int .i64 0, .int .i64 0, .int .i64 0, .int .i64 0, .int .i64 0, .int .i64 0]) (by kernel_rfl) Try.underlying53 rfl (KOK.struct (by kernel_rfl)) rfl (by decide) rfl (fun _ => EqOK.mk (by kernel_rfl) (by kernel_rfl) (by kernel_rfl)) (fun h => by cases h)
theorem D54 : DOK Try.prog 54 (T 54) := DOK.mk (z := .agg #[.int .i64 0, .bool false, .int .i64 0, .int .i64 0, .int .i64 0, .int .i64 0, .int .i64 0, .int .i64 0]) (by kernel_rfl) Try.underlying54 rfl (KOK.struct (by kernel_rfl)) rfl (by decide) rfl (fun _ => EqOK.mk (by kernel_rfl) (by kernel_rfl) (by kernel_rfl)) (fun h => by cases h)
theorem D55 : DOK Try.prog 55 (T 55) := DOK.mk (z := .nilFunc) (by kernel_rfl) Try.underlying55 rfl (trivial) rfl (by decide) rfl (fun h => absurd rfl h) (fun _ => rfl)
theorem D56 : DOK Try.prog 56 (T 56) := DOK.mk (z := .nilFunc) (by kernel_rfl) Try.underlying56 rfl (trivial) rfl (by decide) rfl (fun h => absurd rfl h) (fun _ => rfl)
theorem D57 : DOK Try.prog 57 (T 57) := DOK.mk (z := .pointer none) (by kernel_rfl) Try.underlying57 rfl (trivial) rfl (by decide) rfl (fun h => absurd rfl h) (fun _ => rfl)
theorem D58 : DOK Try.prog 58 (T 58) := DOK.mk (z := .agg #[.bool false, .slice none 0 0, .slice none 0 0, .slice none 0 0, .slice none 0 0]) (by kernel_rfl) Try.underlying58 rfl (KOK.struct (by kernel_rfl)) rfl (by decide) rfl (fun h => absurd rfl h) (fun h => by cases h)
theorem D59 : DOK Try.prog 59 (T 59) := DOK.mk (z := .agg #[.bool false, .slice none 0 0, .slice none 0 0, .slice none 0 0, .slice none 0 0]) (by kernel_rfl) Try.underlying59 rfl (KOK.struct (by kernel_rfl)) rfl (by decide) rfl (fun h => absurd rfl h) (fun h => by cases h)
theorem D60 : DOK Try.prog 60 (T 60) := DOK.mk (z := .agg #[.slice none 0 0, .bool false, .slice none 0 0, .slice none 0 0, .slice none 0 0, .slice none 0 0, .int .i64 0, .int .i64 0]) (by kernel_rfl) Try.underlying60 rfl (KOK.struct (by kernel_rfl)) rfl (by decide) rfl (fun h => absurd rfl h) (fun h => by cases h)
theorem D61 : DOK Try.prog 61 (T 61) := DOK.mk (z := .agg #[.slice none 0 0, .bool false, .slice none 0 0, .slice none 0 0, .slice none 0 0, .slice none 0 0, .int .i64 0, .int .i64 0]) (by kernel_rfl) Try.underlying61 rfl (KOK.struct (by kernel_rfl)) rfl (by decide) rfl (fun h => absurd rfl h) (fun h => by cases h)
theorem D62 : DOK Try.prog 62 (T 62) := DOK.mk (z := .agg #[]) (by kernel_rfl) Try.underlying62 rfl (KOK.struct (by kernel_rfl)) rfl (by decide) rfl (fun h => absurd rfl h) (fun h => by cases h)
theorem D63 : DOK Try.prog 63 (T 63) := DOK.mk (z := .agg #[]) (by kernel_rfl) Try.underlying63 rfl (KOK.struct (by kernel_rfl)) rfl (by decide) rfl (fun h => absurd rfl h) (fun h => by cases h)
theorem D65 : DOK Try.prog 65 (T 65) := DOK.mk (z := .nilFunc) (by kernel_rfl) Try.underlying65 rfl (trivial) rfl (by decide) rfl (fun h => absurd rfl h) (fun _ => rfl)
theorem D66 : DOK Try.prog 66 (T 66) := DOK.mk (z := .nilFunc) (by kernel_rfl) Try.underlying66 rfl (trivial) rfl (by decide) rfl (fun h => absurd rfl h) (fun _ => rfl)
theorem D68 : DOK Try.prog 68 (T 68) := DOK.mk (z := .nilFunc) (by kernel_rfl) Try.underlying68 rfl (trivial) rfl (by decide) rfl (fun h => absurd rfl h) (fun _ => rfl)
theorem D69 : DOK Try.prog 69 (T 69) := DOK.mk (z := .slice none 0 0) (by kernel_rfl) Try.underlying69 rfl (rfl) rfl (by decide) rfl (fun h => absurd rfl h) (fun _ => rfl)
theorem D70 : DOK Try.prog 70 (T 70) := DOK.mk (z := .nilFunc) (by kernel_rfl) Try.underlying70 rfl (trivial) rfl (by decide) rfl (fun h => absurd rfl h) (fun _ => rfl)
theorem D71 : DOK Try.prog 71 (T 71) := DOK.mk (z := .nilFunc) (by kernel_rfl) Try.underlying71 rfl (trivial) rfl (by decide) rfl (fun h => absurd rfl h) (fun _ => rfl)
theorem D72 : DOK Try.prog 72 (T 72) := DOK.mk (z := .nilFunc) (by kernel_rfl) Try.underlying72 rfl (trivial) rfl (by decide) rfl (fun h => absurd rfl h) (fun _ => rfl)
theorem D73 : DOK Try.prog 73 (T 73) := DOK.mk (z := .nilFunc) (by kernel_rfl) Try.underlying73 rfl (trivial) rfl (by decide) rfl (fun h => absurd rfl h) (fun _ => rfl)
theorem D74 : DOK Try.prog 74 (T 74) := DOK.mk (z := .nilFunc) (by kernel_rfl) Try.underlying74 rfl (trivial) rfl (by decide) rfl (fun h => absurd rfl h) (fun _ => rfl)
theorem D75 : DOK Try.prog 75 (T 75) := DOK.mk (z := .agg #[.string ByteArray.empty, .string ByteArray.empty, .string ByteArray.empty, .string ByteArray.empty]) (by kernel_rfl) Try.underlying75 rfl (rfl) rfl (by decide) rfl (fun _ => EqOK.mk (by kernel_rfl) (by kernel_rfl) (by kernel_rfl)) (fun h => by cases h)
theorem D76 : DOK Try.prog 76 (T 76) := DOK.mk (z := .slice none 0 0) (by kernel_rfl) Try.underlying76 rfl (rfl) rfl (by decide) rfl (fun h => absurd rfl h) (fun _ => rfl)
theorem D78 : DOK Try.prog 78 (T 78) := DOK.mk (z := .nilFunc) (by kernel_rfl) Try.underlying78 rfl (trivial) rfl (by decide) rfl (fun h => absurd rfl h) (fun _ => rfl)
theorem D79 : DOK Try.prog 79 (T 79) := DOK.mk (z := .agg #[.int .i64 0, .int .i64 0]) (by kernel_rfl) Try.underlying79 rfl (rfl) rfl (by decide) rfl (fun _ => EqOK.mk (by kernel_rfl) (by kernel_rfl) (by kernel_rfl)) (fun h => by cases h)
theorem D80 : DOK Try.prog 80 (T 80) := DOK.mk (z := .nilFunc) (by kernel_rfl) Try.underlying80 rfl (trivial) rfl (by decide) rfl (fun h => absurd rfl h) (fun _ => rfl)
theorem D81 : DOK Try.prog 81 (T 81) := DOK.mk (z := .slice none 0 0) (by kernel_rfl) Try.underlying81 rfl (rfl) rfl (by decide) rfl (fun h => absurd rfl h) (fun _ => rfl)
theorem D82 : DOK Try.prog 82 (T 82) := DOK.mk (z := .nilFunc) (by kernel_rfl) Try.underlying82 rfl (trivial) rfl (by decide) rfl (fun h => absurd rfl h) (fun _ => rfl)
theorem D83 : DOK Try.prog 83 (T 83) := DOK.mk (z := .nilFunc) (by kernel_rfl) Try.underlying83 rfl (trivial) rfl (by decide) rfl (fun h => absurd rfl h) (fun _ => rfl)
theorem D84 : DOK Try.prog 84 (T 84) := DOK.mk (z := .slice none 0 0) (by kernel_rfl) Try.underlying84 rfl (rfl) rfl (by decide) rfl (fun h => absurd rfl h) (fun _ => rfl)
theorem D85 : DOK Try.prog 85 (T 85) := DOK.mk (z := .nilFunc) (by kernel_rfl) Try.underlying85 rfl (trivial) rfl (by decide) rfl (fun h => absurd rfl h) (fun _ => rfl)
theorem D86 : DOK Try.prog 86 (T 86) := DOK.mk (z := .nilFunc) (by kernel_rfl) Try.underlying86 rfl (trivial) rfl (by decide) rfl (fun h => absurd rfl h) (fun _ => rfl)
theorem D87 : DOK Try.prog 87 (T 87) := DOK.mk (z := .nilFunc) (by kernel_rfl) Try.underlying87 rfl (trivial) rfl (by decide) rfl (fun h => absurd rfl h) (fun _ => rfl)
theorem D88 : DOK Try.prog 88 (T 88) := DOK.mk (z := .nilFunc) (by kernel_rfl) Try.underlying88 rfl (trivial) rfl (by decide) rfl (fun h => absurd rfl h) (fun _ => rfl)
theorem D89 : DOK Try.prog 89 (T 89) := DOK.mk (z := .nilFunc) (by kernel_rfl) Try.underlying89 rfl (trivial) rfl (by decide) rfl (fun h => absurd rfl h) (fun _ => rfl)
theorem D90 : DOK Try.prog 90 (T 90) := DOK.mk (z := .nilFunc) (by kernel_rfl) Try.underlying90 rfl (trivial) rfl (by decide) rfl (fun h => absurd rfl h) (fun _ => rfl)
theorem D91 : DOK Try.prog 91 (T 91) := DOK.mk (z := .nilFunc) (by kernel_rfl) Try.underlying91 rfl (trivial) rfl (by decide) rfl (fun h => absurd rfl h) (fun _ => rfl)
theorem D92 : DOK Try.prog 92 (T 92) := DOK.mk (z := .nilFunc) (by kernel_rfl) Try.underlying92 rfl (trivial) rfl (by decide) rfl (fun h => absurd rfl h) (fun _ => rfl)
theorem D94 : DOK Try.prog 94 (T 94) := DOK.mk (z := .nilFunc) (by kernel_rfl) Try.underlying94 rfl (trivial) rfl (by decide) rfl (fun h => absurd rfl h) (fun _ => rfl)
theorem D95 : DOK Try.prog 95 (T 95) := DOK.mk (z := .slice none 0 0) (by kernel_rfl) Try.underlying95 rfl (rfl) rfl (by decide) rfl (fun h => absurd rfl h) (fun _ => rfl)
theorem D96 : DOK Try.prog 96 (T 96) := DOK.mk (z := .nilFunc) (by kernel_rfl) Try.underlying96 rfl (trivial) rfl (by decide) rfl (fun h => absurd rfl h) (fun _ => rfl)
theorem D97 : DOK Try.prog 97 (T 97) := DOK.mk (z := .int .i64 0) (by kernel_rfl) Try.underlying97 rfl (rfl) rfl (by decide) rfl (fun h => absurd rfl h) (fun _ => rfl)
theorem D98 : DOK Try.prog 98 (T 98) := DOK.mk (z := .nilFunc) (by kernel_rfl) Try.underlying98 rfl (trivial) rfl (by decide) rfl (fun h => absurd rfl h) (fun _ => rfl)
theorem D100 : DOK Try.prog 100 (T 100) := DOK.mk (z := .nilFunc) (by kernel_rfl) Try.underlying100 rfl (trivial) rfl (by decide) rfl (fun h => absurd rfl h) (fun _ => rfl)
theorem D101 : DOK Try.prog 101 (T 101) := DOK.mk (z := .nilFunc) (by kernel_rfl) Try.underlying101 rfl (trivial) rfl (by decide) rfl (fun h => absurd rfl h) (fun _ => rfl)
theorem D102 : DOK Try.prog 102 (T 102) := DOK.mk (z := .nilFunc) (by kernel_rfl) Try.underlying102 rfl (trivial) rfl (by decide) rfl (fun h => absurd rfl h) (fun _ => rfl)
theorem D103 : DOK Try.prog 103 (T 103) := DOK.mk (z := .agg #[.pointer none, .pointer none, .pointer none, .string ByteArray.empty]) (by kernel_rfl) Try.underlying103 rfl (KOK.struct (by kernel_rfl)) rfl (by decide) rfl (fun h => absurd rfl h) (fun h => by cases h)
theorem D104 : DOK Try.prog 104 (T 104) := DOK.mk (z := .agg #[.pointer none, .pointer none, .pointer none, .string ByteArray.empty]) (by kernel_rfl) Try.underlying104 rfl (KOK.struct (by kernel_rfl)) rfl (by decide) rfl (fun h => absurd rfl h) (fun h => by cases h)
theorem D106 : DOK Try.prog 106 (T 106) := DOK.mk (z := .agg #[]) (by kernel_rfl) Try.underlying106 rfl (KOK.struct (by kernel_rfl)) rfl (by decide) rfl (fun h => absurd rfl h) (fun h => by cases h)
theorem D107 : DOK Try.prog 107 (T 107) := DOK.mk (z := .agg #[]) (by kernel_rfl) Try.underlying107 rfl (KOK.struct (by kernel_rfl)) rfl (by decide) rfl (fun h => absurd rfl h) (fun h => by cases h)
theorem D108 : DOK Try.prog 108 (T 108) := DOK.mk (z := .nilFunc) (by kernel_rfl) Try.underlying108 rfl (trivial) rfl (by decide) rfl (fun h => absurd rfl h) (fun _ => rfl)
theorem D109 : DOK Try.prog 109 (T 109) := DOK.mk (z := .int .u32 0) (by kernel_rfl) Try.underlying109 rfl (rfl) rfl (by decide) rfl (fun h => absurd rfl h) (fun _ => rfl)
theorem D110 : DOK Try.prog 110 (T 110) := DOK.mk (z := .int .u8 0) (by kernel_rfl) Try.underlying110 rfl (rfl) rfl (by decide) rfl (fun h => absurd rfl h) (fun _ => rfl)
theorem D111 : DOK Try.prog 111 (T 111) := DOK.mk (z := .int .u8 0) (by kernel_rfl) Try.underlying111 rfl (rfl) rfl (by decide) rfl (fun h => absurd rfl h) (fun _ => rfl)
theorem D112 : DOK Try.prog 112 (T 112) := DOK.mk (z := .nilFunc) (by kernel_rfl) Try.underlying112 rfl (trivial) rfl (by decide) rfl (fun h => absurd rfl h) (fun _ => rfl)
theorem D113 : DOK Try.prog 113 (T 113) := DOK.mk (z := .pointer none) (by kernel_rfl) Try.underlying113 rfl (trivial) rfl (by decide) rfl (fun h => absurd rfl h) (fun _ => rfl)
theorem D114 : DOK Try.prog 114 (T 114) := DOK.mk (z := .int .i32 0) (by kernel_rfl) Try.underlying114 rfl (rfl) rfl (by decide) rfl (fun h => absurd rfl h) (fun _ => rfl)
theorem D115 : DOK Try.prog 115 (T 115) := DOK.mk (z := .int .i32 0) (by kernel_rfl) Try.underlying115 rfl (rfl) rfl (by decide) rfl (fun h => absurd rfl h) (fun _ => rfl)
theorem D116 : DOK Try.prog 116 (T 116) := DOK.mk (z := .agg #[.int .u64 0, .int .u64 0, .int .u32 0, .int .u8 0, .int .u8 0, .int .u8 0, .int .u8 0, .nilFunc, .pointer none, .int .i32 0, .int .i32 0]) (by kernel_rfl) Try.underlying116 rfl (KOK.struct (by kernel_rfl)) rfl (by decide) rfl (fun h => absurd rfl h) (fun h => by cases h)
theorem D117 : DOK Try.prog 117 (T 117) := DOK.mk (z := .agg #[.int .u64 0, .int .u64 0, .int .u32 0, .int .u8 0, .int .u8 0, .int .u8 0, .int .u8 0, .nilFunc, .pointer none, .int .i32 0, .int .i32 0]) (by kernel_rfl) Try.underlying117 rfl (KOK.struct (by kernel_rfl)) rfl (by decide) rfl (fun h => absurd rfl h) (fun h => by cases h)
theorem TT : TOK Try.prog T := by
  intro t
  unfold T
  split
  · exact D1
  · exact D2
  · exact D3
  · exact D4
  · exact D5
  · exact D6
  · exact D7
  · exact D8
  · exact D9
  · exact D10
  · exact D11
  · exact D12
  · exact D13
  · exact D14
  · exact D15
  · exact D16
  · exact D17
  · exact D18
  · exact D19
  · exact D20
  · exact D21
  · exact D22
  · exact D23
  · exact D24
  · exact D26
  · exact D27
  · exact D28
  · exact D29
  · exact D30
  · exact D32
  · exact D33
  · exact D34
  · exact D35
  · exact D36
  · exact D37
  · exact D38
  · exact D39
  · exact D41
  · exact D42
  · exact D44
  · exact D45
  · exact D46
  · exact D47
  · exact D48
  · exact D49
  · exact D50
  · exact D51
  · exact D52
  · exact D53
  · exact D54
  · exact D55
  · exact D56
  · exact D57
  · exact D58
  · exact D59
  · exact D60
  · exact D61
  · exact D62
  · exact D63
  · exact D65
  · exact D66
  · exact D68
  · exact D69
  · exact D70
  · exact D71
  · exact D72
  · exact D73
  · exact D74
  · exact D75
  · exact D76
  · exact D78
  · exact D79
  · exact D80
  · exact D81
  · exact D82
  · exact D83
  · exact D84
  · exact D85
  · exact D86
  · exact D87
  · exact D88
  · exact D89
  · exact D90
  · exact D91
  · exact D92
  · exact D94
  · exact D95
  · exact D96
  · exact D97
  · exact D98
  · exact D100
  · exact D101
  · exact D102
  · exact D103
  · exact D104
  · exact D106
  · exact D107
  · exact D108
  · exact D109
  · exact D110
  · exact D111
  · exact D112
  · exact D113
  · exact D114
  · exact D115
  · exact D116
  · exact D117
  · intro h; cases h
attribute [push_cast] T1 T2 T3 T4 T5 T6 T7 T8 T9 T10 T11 T12 T13 T14 T15 T16 T17 T18 T19 T20 T21 T22 T23 T24 T26 T27 T28 T29 T30 T32 T33 T34 T35 T36 T37 T38 T39 T41 T42 T44 T45 T46 T47 T48 T49 T50 T51 T52 T53 T54 T55 T56 T57 T58 T59 T60 T61 T62 T63 T65 T66 T68 T69 T70 T71 T72 T73 T74 T75 T76 T78 T79 T80 T81 T82 T83 T84 T85 T86 T87 T88 T89 T90 T91 T92 T94 T95 T96 T97 T98 T100 T101 T102 T103 T104 T106 T107 T108 T109 T110 T111 T112 T113 T114 T115 T116 T117
attribute [push_cast] beq_self_eq_true Bool.not_true Bool.not_false Bool.false_eq_true false_implies forall_const Bool.true_beq Bool.false_beq beq_true beq_false implies_true decide_true decide_false
theorem sc {p q : Prop} (hq : q) (hp : p := by first | omega | trivial | exact id | (intro h; rw [h]; rfl) | (intro h; exact ⟨h, h⟩) | (intros; decide) | (intro h; simp only [Bool.and_eq_true, Bool.not_eq_true', Bool.or_eq_false_iff, Bool.not_eq_false'] at h; simp [h]; done) | (intros; simp_all; done) | (intros; simp_all; omega)) : p ∧ q := ⟨hp, hq⟩
theorem sk {p q : Prop} (hq : q) (hp : p := by clear hK; first | omega | trivial | exact id | (intro h; rw [h]; rfl) | (intro h; exact ⟨h, h⟩) | (intros; decide) | (intro h; simp only [Bool.and_eq_true, Bool.not_eq_true', Bool.or_eq_false_iff, Bool.not_eq_false'] at h; simp [h]; done) | (intros; simp_all; done) | (intros; simp_all; omega)) : p ∧ q := ⟨hp, hq⟩
end Go.Proofs.Ytmocgjimlhgejaa
