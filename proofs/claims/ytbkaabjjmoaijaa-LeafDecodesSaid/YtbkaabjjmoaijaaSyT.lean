/- Of which Lean types this translation's things are; its structs' parts. -/
import Derived.Test.YtbkaabjjmoaijaaSyF
namespace Go.Sx
open Go Go.Proofs
instance : ElT Try.prog 3 Int := ⟨trivial⟩
instance : ZxT Try.prog 3 Int 0 := ⟨.int .i64 0, fun _ => by kernel_rfl, rfl⟩
instance : ElT Try.prog 5 UInt8 := ⟨trivial⟩
instance : ZxT Try.prog 5 UInt8 0 := ⟨.int .u8 0, fun _ => by kernel_rfl, rfl⟩
instance : BuT Try.prog 7 [.int .i64 0, .int .i64 0, .bool false, .int .u8 0] [(0, 1), (1, 1), (2, 1), (3, 1)] := ⟨by kernel_rfl⟩
instance : BuT Try.prog 8 [.int .i64 0, .int .i64 0, .bool false, .int .u8 0] [(0, 1), (1, 1), (2, 1), (3, 1)] := ⟨by kernel_rfl⟩
instance : BuT Try.prog 13 [.string ⟨#[]⟩, .int .u64 0] [(0, 1), (1, 1)] := ⟨by kernel_rfl⟩
instance : BuT Try.prog 14 [.string ⟨#[]⟩, .int .u64 0] [(0, 1), (1, 1)] := ⟨by kernel_rfl⟩
instance : BuT Try.prog 18 [.pointer none] [(0, 1)] := ⟨by kernel_rfl⟩
instance : BuT Try.prog 19 [.pointer none] [(0, 1)] := ⟨by kernel_rfl⟩
instance : BuT Try.prog 30 [.slice none 0 0, .slice none 0 0, .slice none 0 0] [(0, 1), (1, 1), (2, 1)] := ⟨by kernel_rfl⟩
instance : BuT Try.prog 31 [.slice none 0 0, .slice none 0 0, .slice none 0 0] [(0, 1), (1, 1), (2, 1)] := ⟨by kernel_rfl⟩
instance : BuT Try.prog 32 [.slice none 0 0, .slice none 0 0, .slice none 0 0] [(0, 1), (1, 1), (2, 1)] := ⟨by kernel_rfl⟩
instance : BuT Try.prog 33 [.slice none 0 0, .slice none 0 0, .slice none 0 0] [(0, 1), (1, 1), (2, 1)] := ⟨by kernel_rfl⟩
instance : ElT Try.prog 39 SB := ⟨trivial⟩
instance : ZxT Try.prog 39 SB ⟨none, 0, []⟩ := ⟨.slice none 0 0, fun _ => by kernel_rfl, rfl⟩
instance : BuT Try.prog 46 [.slice none 0 0, .slice none 0 0] [(0, 1), (1, 1)] := ⟨by kernel_rfl⟩
instance : ElT Try.prog 47 KV := ⟨trivial⟩
instance : ZxT Try.prog 47 KV ⟨none, 0, [], none, 0, []⟩ := ⟨.agg #[.slice none 0 0, .slice none 0 0], fun _ => by kernel_rfl, rfl⟩
instance : BuT Try.prog 47 [.slice none 0 0, .slice none 0 0] [(0, 1), (1, 1)] := ⟨by kernel_rfl⟩
instance : BuT Try.prog 48 [.slice none 0 0, .slice none 0 0, .bool false] [(0, 1), (1, 1), (2, 1)] := ⟨by kernel_rfl⟩
instance : BuT Try.prog 49 [.slice none 0 0, .slice none 0 0, .bool false] [(0, 1), (1, 1), (2, 1)] := ⟨by kernel_rfl⟩
instance : BuT Try.prog 50 [.int .i64 0, .int .i64 0, .slice none 0 0, .slice none 0 0, .slice none 0 0, .slice none 0 0, .slice none 0 0, .bool false, .slice none 0 0, .slice none 0 0, .slice none 0 0] [(0, 1), (1, 1), (2, 1), (3, 2), (5, 3), (8, 1), (9, 1), (10, 1)] := ⟨by kernel_rfl⟩
instance : BuT Try.prog 51 [.int .i64 0, .int .i64 0, .slice none 0 0, .slice none 0 0, .slice none 0 0, .slice none 0 0, .slice none 0 0, .bool false, .slice none 0 0, .slice none 0 0, .slice none 0 0] [(0, 1), (1, 1), (2, 1), (3, 2), (5, 3), (8, 1), (9, 1), (10, 1)] := ⟨by kernel_rfl⟩
instance : BuT Try.prog 80 [.slice none 0 0] [(0, 1)] := ⟨by kernel_rfl⟩
instance : BuT Try.prog 81 [.slice none 0 0] [(0, 1)] := ⟨by kernel_rfl⟩
instance : BuT Try.prog 98 [.pointer none, .pointer none, .pointer none, .string ⟨#[]⟩] [(0, 1), (1, 1), (2, 1), (3, 1)] := ⟨by kernel_rfl⟩
instance : BuT Try.prog 99 [.pointer none, .pointer none, .pointer none, .string ⟨#[]⟩] [(0, 1), (1, 1), (2, 1), (3, 1)] := ⟨by kernel_rfl⟩
instance : BuT Try.prog 110 [.int .u64 0, .int .u64 0, .int .u32 0, .int .u8 0, .int .u8 0, .int .u8 0, .int .u8 0, .nilFunc, .pointer none, .int .i32 0, .int .i32 0] [(0, 1), (1, 1), (2, 1), (3, 1), (4, 1), (5, 1), (6, 1), (7, 1), (8, 1), (9, 1), (10, 1)] := ⟨by kernel_rfl⟩
instance : BuT Try.prog 111 [.int .u64 0, .int .u64 0, .int .u32 0, .int .u8 0, .int .u8 0, .int .u8 0, .int .u8 0, .nilFunc, .pointer none, .int .i32 0, .int .i32 0] [(0, 1), (1, 1), (2, 1), (3, 1), (4, 1), (5, 1), (6, 1), (7, 1), (8, 1), (9, 1), (10, 1)] := ⟨by kernel_rfl⟩
end Go.Sx
