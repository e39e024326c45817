/- Closed facts on this translation's types and functions, printed by gentypes.py off the dump. -/
import Derived.Test.YtbkaabjjmoaijaaSxB
import Derived.Test.YtbkaabjjmoaijaaRows
namespace Go.Sx
open Go Go.Proofs
instance : ScT Try.prog 1 := ⟨fun _ => by kernel_rfl, fun _ => by kernel_rfl⟩
instance : ZeT Try.prog 1 (.nilFunc) := ⟨fun _ => by kernel_rfl⟩
instance : ScT Try.prog 2 := ⟨fun _ => by kernel_rfl, fun _ => by kernel_rfl⟩
instance : InT Try.prog 2 .i64 := ⟨by kernel_rfl⟩
instance : ZeT Try.prog 2 (.int .i64 0) := ⟨fun _ => by kernel_rfl⟩
instance : ScT Try.prog 3 := ⟨fun _ => by kernel_rfl, fun _ => by kernel_rfl⟩
instance : InT Try.prog 3 .i64 := ⟨by kernel_rfl⟩
instance : ZeT Try.prog 3 (.int .i64 0) := ⟨fun _ => by kernel_rfl⟩
instance : ScT Try.prog 4 := ⟨fun _ => by kernel_rfl, fun _ => by kernel_rfl⟩
instance : BoT Try.prog 4 := ⟨by kernel_rfl⟩
instance : ZeT Try.prog 4 (.bool false) := ⟨fun _ => by kernel_rfl⟩
instance : ScT Try.prog 5 := ⟨fun _ => by kernel_rfl, fun _ => by kernel_rfl⟩
instance : InT Try.prog 5 .u8 := ⟨by kernel_rfl⟩
instance : ZeT Try.prog 5 (.int .u8 0) := ⟨fun _ => by kernel_rfl⟩
instance : ScT Try.prog 6 := ⟨fun _ => by kernel_rfl, fun _ => by kernel_rfl⟩
instance : InT Try.prog 6 .u8 := ⟨by kernel_rfl⟩
instance : ZeT Try.prog 6 (.int .u8 0) := ⟨fun _ => by kernel_rfl⟩
instance : AgT Try.prog 7 4 := ⟨fun _ => by kernel_rfl, fun _ => by kernel_rfl⟩
instance : FdT Try.prog 7 0 0 := ⟨fun _ _ => by kernel_rfl⟩
instance : FdT Try.prog 7 1 1 := ⟨fun _ _ => by kernel_rfl⟩
instance : FdT Try.prog 7 2 2 := ⟨fun _ _ => by kernel_rfl⟩
instance : FdT Try.prog 7 3 3 := ⟨fun _ _ => by kernel_rfl⟩
instance : ZeT Try.prog 7 (.agg #[.int .i64 0, .int .i64 0, .bool false, .int .u8 0]) := ⟨fun _ => by kernel_rfl⟩
instance : AgT Try.prog 8 4 := ⟨fun _ => by kernel_rfl, fun _ => by kernel_rfl⟩
instance : FdT Try.prog 8 0 0 := ⟨fun _ _ => by kernel_rfl⟩
instance : FdT Try.prog 8 1 1 := ⟨fun _ _ => by kernel_rfl⟩
instance : FdT Try.prog 8 2 2 := ⟨fun _ _ => by kernel_rfl⟩
instance : FdT Try.prog 8 3 3 := ⟨fun _ _ => by kernel_rfl⟩
instance : ZeT Try.prog 8 (.agg #[.int .i64 0, .int .i64 0, .bool false, .int .u8 0]) := ⟨fun _ => by kernel_rfl⟩
instance : ScT Try.prog 9 := ⟨fun _ => by kernel_rfl, fun _ => by kernel_rfl⟩
instance : StT Try.prog 9 := ⟨by kernel_rfl⟩
instance : ZeT Try.prog 9 (.string ⟨#[]⟩) := ⟨fun _ => by kernel_rfl⟩
instance : ScT Try.prog 10 := ⟨fun _ => by kernel_rfl, fun _ => by kernel_rfl⟩
instance : StT Try.prog 10 := ⟨by kernel_rfl⟩
instance : ZeT Try.prog 10 (.string ⟨#[]⟩) := ⟨fun _ => by kernel_rfl⟩
instance : ScT Try.prog 11 := ⟨fun _ => by kernel_rfl, fun _ => by kernel_rfl⟩
instance : StT Try.prog 11 := ⟨by kernel_rfl⟩
instance : ZeT Try.prog 11 (.string ⟨#[]⟩) := ⟨fun _ => by kernel_rfl⟩
instance : ScT Try.prog 12 := ⟨fun _ => by kernel_rfl, fun _ => by kernel_rfl⟩
instance : InT Try.prog 12 .u64 := ⟨by kernel_rfl⟩
instance : ZeT Try.prog 12 (.int .u64 0) := ⟨fun _ => by kernel_rfl⟩
instance : AgT Try.prog 13 2 := ⟨fun _ => by kernel_rfl, fun _ => by kernel_rfl⟩
instance : FdT Try.prog 13 0 0 := ⟨fun _ _ => by kernel_rfl⟩
instance : FdT Try.prog 13 1 1 := ⟨fun _ _ => by kernel_rfl⟩
instance : ZeT Try.prog 13 (.agg #[.string ⟨#[]⟩, .int .u64 0]) := ⟨fun _ => by kernel_rfl⟩
instance : AgT Try.prog 14 2 := ⟨fun _ => by kernel_rfl, fun _ => by kernel_rfl⟩
instance : FdT Try.prog 14 0 0 := ⟨fun _ _ => by kernel_rfl⟩
instance : FdT Try.prog 14 1 1 := ⟨fun _ _ => by kernel_rfl⟩
instance : ZeT Try.prog 14 (.agg #[.string ⟨#[]⟩, .int .u64 0]) := ⟨fun _ => by kernel_rfl⟩
instance : ScT Try.prog 15 := ⟨fun _ => by kernel_rfl, fun _ => by kernel_rfl⟩
instance : ZeT Try.prog 15 (.pointer none) := ⟨fun _ => by kernel_rfl⟩
instance : ScT Try.prog 16 := ⟨fun _ => by kernel_rfl, fun _ => by kernel_rfl⟩
instance : ZeT Try.prog 16 (.pointer none) := ⟨fun _ => by kernel_rfl⟩
instance : ScT Try.prog 17 := ⟨fun _ => by kernel_rfl, fun _ => by kernel_rfl⟩
instance : ZeT Try.prog 17 (.pointer none) := ⟨fun _ => by kernel_rfl⟩
instance : AgT Try.prog 18 1 := ⟨fun _ => by kernel_rfl, fun _ => by kernel_rfl⟩
instance : FdT Try.prog 18 0 0 := ⟨fun _ _ => by kernel_rfl⟩
instance : ZeT Try.prog 18 (.agg #[.pointer none]) := ⟨fun _ => by kernel_rfl⟩
instance : AgT Try.prog 19 1 := ⟨fun _ => by kernel_rfl, fun _ => by kernel_rfl⟩
instance : FdT Try.prog 19 0 0 := ⟨fun _ _ => by kernel_rfl⟩
instance : ZeT Try.prog 19 (.agg #[.pointer none]) := ⟨fun _ => by kernel_rfl⟩
instance : ScT Try.prog 20 := ⟨fun _ => by kernel_rfl, fun _ => by kernel_rfl⟩
instance : ZeT Try.prog 20 (.nilIface) := ⟨fun _ => by kernel_rfl⟩
instance : ScT Try.prog 21 := ⟨fun _ => by kernel_rfl, fun _ => by kernel_rfl⟩
instance : InT Try.prog 21 .i32 := ⟨by kernel_rfl⟩
instance : ZeT Try.prog 21 (.int .i32 0) := ⟨fun _ => by kernel_rfl⟩
instance : ScT Try.prog 22 := ⟨fun _ => by kernel_rfl, fun _ => by kernel_rfl⟩
instance : ZeT Try.prog 22 (.nilFunc) := ⟨fun _ => by kernel_rfl⟩
instance : ScT Try.prog 23 := ⟨fun _ => by kernel_rfl, fun _ => by kernel_rfl⟩
instance : ZeT Try.prog 23 (.nilFunc) := ⟨fun _ => by kernel_rfl⟩
instance : ScT Try.prog 24 := ⟨fun _ => by kernel_rfl, fun _ => by kernel_rfl⟩
instance : InT Try.prog 24 .i64 := ⟨by kernel_rfl⟩
instance : ZeT Try.prog 24 (.int .i64 0) := ⟨fun _ => by kernel_rfl⟩
theorem ti25 : (Try.prog.info? 47).map (fun i => (i.zero, i.size, i.bytes)) = some (some (.agg #[.slice none 0 0, .slice none 0 0]), 2, 48) := by kernel_rfl
instance : SlT Try.prog 25 47 2 48 := ⟨by kernel_rfl, by obtain ⟨j, h1, h2, h3, h4⟩ := info_parts ti25; exact ⟨j, _, h1, h2, h3, h4, rfl⟩⟩
instance : ScT Try.prog 25 := ⟨fun _ => by kernel_rfl, fun _ => by kernel_rfl⟩
instance : ZeT Try.prog 25 (.slice none 0 0) := ⟨fun _ => by kernel_rfl⟩
instance : ScT Try.prog 26 := ⟨fun _ => by kernel_rfl, fun _ => by kernel_rfl⟩
instance : ZeT Try.prog 26 (.nilFunc) := ⟨fun _ => by kernel_rfl⟩
instance : ScT Try.prog 27 := ⟨fun _ => by kernel_rfl, fun _ => by kernel_rfl⟩
instance : ZeT Try.prog 27 (.pointer none) := ⟨fun _ => by kernel_rfl⟩
theorem ti28 : (Try.prog.info? 39).map (fun i => (i.zero, i.size, i.bytes)) = some (some (.slice none 0 0), 1, 24) := by kernel_rfl
instance : SlT Try.prog 28 39 1 24 := ⟨by kernel_rfl, by obtain ⟨j, h1, h2, h3, h4⟩ := info_parts ti28; exact ⟨j, _, h1, h2, h3, h4, rfl⟩⟩
instance : ScT Try.prog 28 := ⟨fun _ => by kernel_rfl, fun _ => by kernel_rfl⟩
instance : ZeT Try.prog 28 (.slice none 0 0) := ⟨fun _ => by kernel_rfl⟩
theorem ti29 : (Try.prog.info? 25).map (fun i => (i.zero, i.size, i.bytes)) = some (some (.slice none 0 0), 1, 24) := by kernel_rfl
instance : SlT Try.prog 29 25 1 24 := ⟨by kernel_rfl, by obtain ⟨j, h1, h2, h3, h4⟩ := info_parts ti29; exact ⟨j, _, h1, h2, h3, h4, rfl⟩⟩
instance : ScT Try.prog 29 := ⟨fun _ => by kernel_rfl, fun _ => by kernel_rfl⟩
instance : ZeT Try.prog 29 (.slice none 0 0) := ⟨fun _ => by kernel_rfl⟩
instance : AgT Try.prog 30 3 := ⟨fun _ => by kernel_rfl, fun _ => by kernel_rfl⟩
instance : FdT Try.prog 30 0 0 := ⟨fun _ _ => by kernel_rfl⟩
instance : FdT Try.prog 30 1 1 := ⟨fun _ _ => by kernel_rfl⟩
instance : FdT Try.prog 30 2 2 := ⟨fun _ _ => by kernel_rfl⟩
instance : ZeT Try.prog 30 (.agg #[.slice none 0 0, .slice none 0 0, .slice none 0 0]) := ⟨fun _ => by kernel_rfl⟩
instance : AgT Try.prog 31 3 := ⟨fun _ => by kernel_rfl, fun _ => by kernel_rfl⟩
instance : FdT Try.prog 31 0 0 := ⟨fun _ _ => by kernel_rfl⟩
instance : FdT Try.prog 31 1 1 := ⟨fun _ _ => by kernel_rfl⟩
instance : FdT Try.prog 31 2 2 := ⟨fun _ _ => by kernel_rfl⟩
instance : ZeT Try.prog 31 (.agg #[.slice none 0 0, .slice none 0 0, .slice none 0 0]) := ⟨fun _ => by kernel_rfl⟩
instance : AgT Try.prog 32 3 := ⟨fun _ => by kernel_rfl, fun _ => by kernel_rfl⟩
instance : FdT Try.prog 32 0 0 := ⟨fun _ _ => by kernel_rfl⟩
instance : FdT Try.prog 32 1 1 := ⟨fun _ _ => by kernel_rfl⟩
instance : FdT Try.prog 32 2 2 := ⟨fun _ _ => by kernel_rfl⟩
instance : ZeT Try.prog 32 (.agg #[.slice none 0 0, .slice none 0 0, .slice none 0 0]) := ⟨fun _ => by kernel_rfl⟩
instance : AgT Try.prog 33 3 := ⟨fun _ => by kernel_rfl, fun _ => by kernel_rfl⟩
instance : FdT Try.prog 33 0 0 := ⟨fun _ _ => by kernel_rfl⟩
instance : FdT Try.prog 33 1 1 := ⟨fun _ _ => by kernel_rfl⟩
instance : FdT Try.prog 33 2 2 := ⟨fun _ _ => by kernel_rfl⟩
instance : ZeT Try.prog 33 (.agg #[.slice none 0 0, .slice none 0 0, .slice none 0 0]) := ⟨fun _ => by kernel_rfl⟩
instance : ScT Try.prog 34 := ⟨fun _ => by kernel_rfl, fun _ => by kernel_rfl⟩
instance : ZeT Try.prog 34 (.nilFunc) := ⟨fun _ => by kernel_rfl⟩
instance : ScT Try.prog 35 := ⟨fun _ => by kernel_rfl, fun _ => by kernel_rfl⟩
instance : ZeT Try.prog 35 (.nilFunc) := ⟨fun _ => by kernel_rfl⟩
instance : ScT Try.prog 36 := ⟨fun _ => by kernel_rfl, fun _ => by kernel_rfl⟩
instance : ZeT Try.prog 36 (.nilFunc) := ⟨fun _ => by kernel_rfl⟩
instance : ScT Try.prog 37 := ⟨fun _ => by kernel_rfl, fun _ => by kernel_rfl⟩
instance : ZeT Try.prog 37 (.nilFunc) := ⟨fun _ => by kernel_rfl⟩
instance : ScT Try.prog 38 := ⟨fun _ => by kernel_rfl, fun _ => by kernel_rfl⟩
instance : ZeT Try.prog 38 (.nilFunc) := ⟨fun _ => by kernel_rfl⟩
instance : ByT Try.prog 39 := ⟨5, by kernel_rfl, by kernel_rfl⟩
theorem ti39 : (Try.prog.info? 5).map (fun i => (i.zero, i.size, i.bytes)) = some (some (.int .u8 0), 1, 1) := by kernel_rfl
instance : SlT Try.prog 39 5 1 1 := ⟨by kernel_rfl, by obtain ⟨j, h1, h2, h3, h4⟩ := info_parts ti39; exact ⟨j, _, h1, h2, h3, h4, rfl⟩⟩
instance : ScT Try.prog 39 := ⟨fun _ => by kernel_rfl, fun _ => by kernel_rfl⟩
instance : ZeT Try.prog 39 (.slice none 0 0) := ⟨fun _ => by kernel_rfl⟩
instance : ScT Try.prog 40 := ⟨fun _ => by kernel_rfl, fun _ => by kernel_rfl⟩
instance : ZeT Try.prog 40 (.nilFunc) := ⟨fun _ => by kernel_rfl⟩
instance : ScT Try.prog 42 := ⟨fun _ => by kernel_rfl, fun _ => by kernel_rfl⟩
instance : ZeT Try.prog 42 (.nilFunc) := ⟨fun _ => by kernel_rfl⟩
instance : ScT Try.prog 43 := ⟨fun _ => by kernel_rfl, fun _ => by kernel_rfl⟩
instance : ZeT Try.prog 43 (.nilFunc) := ⟨fun _ => by kernel_rfl⟩
instance : ScT Try.prog 44 := ⟨fun _ => by kernel_rfl, fun _ => by kernel_rfl⟩
instance : ZeT Try.prog 44 (.nilFunc) := ⟨fun _ => by kernel_rfl⟩
instance : ScT Try.prog 45 := ⟨fun _ => by kernel_rfl, fun _ => by kernel_rfl⟩
instance : ZeT Try.prog 45 (.nilFunc) := ⟨fun _ => by kernel_rfl⟩
instance : AgT Try.prog 46 2 := ⟨fun _ => by kernel_rfl, fun _ => by kernel_rfl⟩
instance : FdT Try.prog 46 0 0 := ⟨fun _ _ => by kernel_rfl⟩
instance : FdT Try.prog 46 1 1 := ⟨fun _ _ => by kernel_rfl⟩
instance : ZeT Try.prog 46 (.agg #[.slice none 0 0, .slice none 0 0]) := ⟨fun _ => by kernel_rfl⟩
instance : AgT Try.prog 47 2 := ⟨fun _ => by kernel_rfl, fun _ => by kernel_rfl⟩
instance : FdT Try.prog 47 0 0 := ⟨fun _ _ => by kernel_rfl⟩
instance : FdT Try.prog 47 1 1 := ⟨fun _ _ => by kernel_rfl⟩
instance : ZeT Try.prog 47 (.agg #[.slice none 0 0, .slice none 0 0]) := ⟨fun _ => by kernel_rfl⟩
instance : AgT Try.prog 48 3 := ⟨fun _ => by kernel_rfl, fun _ => by kernel_rfl⟩
instance : FdT Try.prog 48 0 0 := ⟨fun _ _ => by kernel_rfl⟩
instance : FdT Try.prog 48 1 1 := ⟨fun _ _ => by kernel_rfl⟩
instance : FdT Try.prog 48 2 2 := ⟨fun _ _ => by kernel_rfl⟩
instance : ZeT Try.prog 48 (.agg #[.slice none 0 0, .slice none 0 0, .bool false]) := ⟨fun _ => by kernel_rfl⟩
instance : AgT Try.prog 49 3 := ⟨fun _ => by kernel_rfl, fun _ => by kernel_rfl⟩
instance : FdT Try.prog 49 0 0 := ⟨fun _ _ => by kernel_rfl⟩
instance : FdT Try.prog 49 1 1 := ⟨fun _ _ => by kernel_rfl⟩
instance : FdT Try.prog 49 2 2 := ⟨fun _ _ => by kernel_rfl⟩
instance : ZeT Try.prog 49 (.agg #[.slice none 0 0, .slice none 0 0, .bool false]) := ⟨fun _ => by kernel_rfl⟩
instance : AgT Try.prog 50 11 := ⟨fun _ => by kernel_rfl, fun _ => by kernel_rfl⟩
instance : FdT Try.prog 50 0 0 := ⟨fun _ _ => by kernel_rfl⟩
instance : FdT Try.prog 50 1 1 := ⟨fun _ _ => by kernel_rfl⟩
instance : FdT Try.prog 50 2 2 := ⟨fun _ _ => by kernel_rfl⟩
instance : FdT Try.prog 50 3 3 := ⟨fun _ _ => by kernel_rfl⟩
instance : FdT Try.prog 50 4 5 := ⟨fun _ _ => by kernel_rfl⟩
instance : FdT Try.prog 50 5 8 := ⟨fun _ _ => by kernel_rfl⟩
instance : FdT Try.prog 50 6 9 := ⟨fun _ _ => by kernel_rfl⟩
instance : FdT Try.prog 50 7 10 := ⟨fun _ _ => by kernel_rfl⟩
instance : ZeT Try.prog 50 (.agg #[.int .i64 0, .int .i64 0, .slice none 0 0, .slice none 0 0, .slice none 0 0, .slice none 0 0, .slice none 0 0, .bool false, .slice none 0 0, .slice none 0 0, .slice none 0 0]) := ⟨fun _ => by kernel_rfl⟩
instance : AgT Try.prog 51 11 := ⟨fun _ => by kernel_rfl, fun _ => by kernel_rfl⟩
instance : FdT Try.prog 51 0 0 := ⟨fun _ _ => by kernel_rfl⟩
instance : FdT Try.prog 51 1 1 := ⟨fun _ _ => by kernel_rfl⟩
instance : FdT Try.prog 51 2 2 := ⟨fun _ _ => by kernel_rfl⟩
instance : FdT Try.prog 51 3 3 := ⟨fun _ _ => by kernel_rfl⟩
instance : FdT Try.prog 51 4 5 := ⟨fun _ _ => by kernel_rfl⟩
instance : FdT Try.prog 51 5 8 := ⟨fun _ _ => by kernel_rfl⟩
instance : FdT Try.prog 51 6 9 := ⟨fun _ _ => by kernel_rfl⟩
instance : FdT Try.prog 51 7 10 := ⟨fun _ _ => by kernel_rfl⟩
instance : ZeT Try.prog 51 (.agg #[.int .i64 0, .int .i64 0, .slice none 0 0, .slice none 0 0, .slice none 0 0, .slice none 0 0, .slice none 0 0, .bool false, .slice none 0 0, .slice none 0 0, .slice none 0 0]) := ⟨fun _ => by kernel_rfl⟩
instance : ScT Try.prog 52 := ⟨fun _ => by kernel_rfl, fun _ => by kernel_rfl⟩
instance : ZeT Try.prog 52 (.nilFunc) := ⟨fun _ => by kernel_rfl⟩
instance : ScT Try.prog 54 := ⟨fun _ => by kernel_rfl, fun _ => by kernel_rfl⟩
instance : ZeT Try.prog 54 (.nilFunc) := ⟨fun _ => by kernel_rfl⟩
instance : ScT Try.prog 55 := ⟨fun _ => by kernel_rfl, fun _ => by kernel_rfl⟩
instance : ZeT Try.prog 55 (.nilFunc) := ⟨fun _ => by kernel_rfl⟩
instance : ScT Try.prog 56 := ⟨fun _ => by kernel_rfl, fun _ => by kernel_rfl⟩
instance : ZeT Try.prog 56 (.nilFunc) := ⟨fun _ => by kernel_rfl⟩
instance : ScT Try.prog 58 := ⟨fun _ => by kernel_rfl, fun _ => by kernel_rfl⟩
instance : ZeT Try.prog 58 (.nilFunc) := ⟨fun _ => by kernel_rfl⟩
instance : ScT Try.prog 59 := ⟨fun _ => by kernel_rfl, fun _ => by kernel_rfl⟩
instance : ZeT Try.prog 59 (.nilFunc) := ⟨fun _ => by kernel_rfl⟩
instance : ScT Try.prog 61 := ⟨fun _ => by kernel_rfl, fun _ => by kernel_rfl⟩
instance : ZeT Try.prog 61 (.nilFunc) := ⟨fun _ => by kernel_rfl⟩
instance : ScT Try.prog 62 := ⟨fun _ => by kernel_rfl, fun _ => by kernel_rfl⟩
instance : ZeT Try.prog 62 (.nilFunc) := ⟨fun _ => by kernel_rfl⟩
instance : ScT Try.prog 63 := ⟨fun _ => by kernel_rfl, fun _ => by kernel_rfl⟩
instance : ZeT Try.prog 63 (.nilFunc) := ⟨fun _ => by kernel_rfl⟩
instance : ScT Try.prog 64 := ⟨fun _ => by kernel_rfl, fun _ => by kernel_rfl⟩
instance : ZeT Try.prog 64 (.nilFunc) := ⟨fun _ => by kernel_rfl⟩
instance : ScT Try.prog 65 := ⟨fun _ => by kernel_rfl, fun _ => by kernel_rfl⟩
instance : ZeT Try.prog 65 (.nilFunc) := ⟨fun _ => by kernel_rfl⟩
instance : ScT Try.prog 66 := ⟨fun _ => by kernel_rfl, fun _ => by kernel_rfl⟩
instance : ZeT Try.prog 66 (.nilFunc) := ⟨fun _ => by kernel_rfl⟩
instance : ScT Try.prog 68 := ⟨fun _ => by kernel_rfl, fun _ => by kernel_rfl⟩
instance : ZeT Try.prog 68 (.nilFunc) := ⟨fun _ => by kernel_rfl⟩
instance : ScT Try.prog 70 := ⟨fun _ => by kernel_rfl, fun _ => by kernel_rfl⟩
instance : ZeT Try.prog 70 (.nilFunc) := ⟨fun _ => by kernel_rfl⟩
instance : ScT Try.prog 71 := ⟨fun _ => by kernel_rfl, fun _ => by kernel_rfl⟩
instance : ZeT Try.prog 71 (.nilFunc) := ⟨fun _ => by kernel_rfl⟩
instance : ScT Try.prog 72 := ⟨fun _ => by kernel_rfl, fun _ => by kernel_rfl⟩
instance : ZeT Try.prog 72 (.nilFunc) := ⟨fun _ => by kernel_rfl⟩
instance : ScT Try.prog 73 := ⟨fun _ => by kernel_rfl, fun _ => by kernel_rfl⟩
instance : ZeT Try.prog 73 (.nilFunc) := ⟨fun _ => by kernel_rfl⟩
instance : ScT Try.prog 74 := ⟨fun _ => by kernel_rfl, fun _ => by kernel_rfl⟩
instance : ZeT Try.prog 74 (.nilFunc) := ⟨fun _ => by kernel_rfl⟩
instance : ScT Try.prog 75 := ⟨fun _ => by kernel_rfl, fun _ => by kernel_rfl⟩
instance : ZeT Try.prog 75 (.nilFunc) := ⟨fun _ => by kernel_rfl⟩
instance : AgT Try.prog 76 0 := ⟨fun _ => by kernel_rfl, fun _ => by kernel_rfl⟩
instance : ZeT Try.prog 76 (.agg #[]) := ⟨fun _ => by kernel_rfl⟩
instance : AgT Try.prog 77 0 := ⟨fun _ => by kernel_rfl, fun _ => by kernel_rfl⟩
instance : ZeT Try.prog 77 (.agg #[]) := ⟨fun _ => by kernel_rfl⟩
instance : ScT Try.prog 79 := ⟨fun _ => by kernel_rfl, fun _ => by kernel_rfl⟩
instance : ZeT Try.prog 79 (.pointer none) := ⟨fun _ => by kernel_rfl⟩
instance : AgT Try.prog 80 1 := ⟨fun _ => by kernel_rfl, fun _ => by kernel_rfl⟩
instance : FdT Try.prog 80 0 0 := ⟨fun _ _ => by kernel_rfl⟩
instance : ZeT Try.prog 80 (.agg #[.slice none 0 0]) := ⟨fun _ => by kernel_rfl⟩
instance : AgT Try.prog 81 1 := ⟨fun _ => by kernel_rfl, fun _ => by kernel_rfl⟩
instance : FdT Try.prog 81 0 0 := ⟨fun _ _ => by kernel_rfl⟩
instance : ZeT Try.prog 81 (.agg #[.slice none 0 0]) := ⟨fun _ => by kernel_rfl⟩
instance : ScT Try.prog 82 := ⟨fun _ => by kernel_rfl, fun _ => by kernel_rfl⟩
instance : ZeT Try.prog 82 (.nilFunc) := ⟨fun _ => by kernel_rfl⟩
instance : ScT Try.prog 83 := ⟨fun _ => by kernel_rfl, fun _ => by kernel_rfl⟩
instance : ZeT Try.prog 83 (.nilFunc) := ⟨fun _ => by kernel_rfl⟩
instance : ScT Try.prog 84 := ⟨fun _ => by kernel_rfl, fun _ => by kernel_rfl⟩
instance : ZeT Try.prog 84 (.nilFunc) := ⟨fun _ => by kernel_rfl⟩
instance : ScT Try.prog 85 := ⟨fun _ => by kernel_rfl, fun _ => by kernel_rfl⟩
instance : ZeT Try.prog 85 (.nilFunc) := ⟨fun _ => by kernel_rfl⟩
instance : ScT Try.prog 86 := ⟨fun _ => by kernel_rfl, fun _ => by kernel_rfl⟩
instance : ZeT Try.prog 86 (.nilFunc) := ⟨fun _ => by kernel_rfl⟩
instance : ScT Try.prog 87 := ⟨fun _ => by kernel_rfl, fun _ => by kernel_rfl⟩
instance : ZeT Try.prog 87 (.nilFunc) := ⟨fun _ => by kernel_rfl⟩
instance : ScT Try.prog 88 := ⟨fun _ => by kernel_rfl, fun _ => by kernel_rfl⟩
instance : ZeT Try.prog 88 (.nilFunc) := ⟨fun _ => by kernel_rfl⟩
instance : ScT Try.prog 89 := ⟨fun _ => by kernel_rfl, fun _ => by kernel_rfl⟩
instance : ZeT Try.prog 89 (.nilFunc) := ⟨fun _ => by kernel_rfl⟩
instance : ScT Try.prog 90 := ⟨fun _ => by kernel_rfl, fun _ => by kernel_rfl⟩
instance : ZeT Try.prog 90 (.nilFunc) := ⟨fun _ => by kernel_rfl⟩
instance : ScT Try.prog 91 := ⟨fun _ => by kernel_rfl, fun _ => by kernel_rfl⟩
instance : ZeT Try.prog 91 (.nilFunc) := ⟨fun _ => by kernel_rfl⟩
instance : ScT Try.prog 92 := ⟨fun _ => by kernel_rfl, fun _ => by kernel_rfl⟩
instance : ZeT Try.prog 92 (.nilFunc) := ⟨fun _ => by kernel_rfl⟩
instance : ScT Try.prog 93 := ⟨fun _ => by kernel_rfl, fun _ => by kernel_rfl⟩
instance : ZeT Try.prog 93 (.nilFunc) := ⟨fun _ => by kernel_rfl⟩
instance : ScT Try.prog 94 := ⟨fun _ => by kernel_rfl, fun _ => by kernel_rfl⟩
instance : InT Try.prog 94 .u64 := ⟨by kernel_rfl⟩
instance : ZeT Try.prog 94 (.int .u64 0) := ⟨fun _ => by kernel_rfl⟩
instance : ScT Try.prog 95 := ⟨fun _ => by kernel_rfl, fun _ => by kernel_rfl⟩
instance : ZeT Try.prog 95 (.nilFunc) := ⟨fun _ => by kernel_rfl⟩
instance : ScT Try.prog 96 := ⟨fun _ => by kernel_rfl, fun _ => by kernel_rfl⟩
instance : ZeT Try.prog 96 (.nilFunc) := ⟨fun _ => by kernel_rfl⟩
instance : ScT Try.prog 97 := ⟨fun _ => by kernel_rfl, fun _ => by kernel_rfl⟩
instance : ZeT Try.prog 97 (.nilFunc) := ⟨fun _ => by kernel_rfl⟩
instance : AgT Try.prog 98 4 := ⟨fun _ => by kernel_rfl, fun _ => by kernel_rfl⟩
instance : FdT Try.prog 98 0 0 := ⟨fun _ _ => by kernel_rfl⟩
instance : FdT Try.prog 98 1 1 := ⟨fun _ _ => by kernel_rfl⟩
instance : FdT Try.prog 98 2 2 := ⟨fun _ _ => by kernel_rfl⟩
instance : FdT Try.prog 98 3 3 := ⟨fun _ _ => by kernel_rfl⟩
instance : ZeT Try.prog 98 (.agg #[.pointer none, .pointer none, .pointer none, .string ⟨#[]⟩]) := ⟨fun _ => by kernel_rfl⟩
instance : AgT Try.prog 99 4 := ⟨fun _ => by kernel_rfl, fun _ => by kernel_rfl⟩
instance : FdT Try.prog 99 0 0 := ⟨fun _ _ => by kernel_rfl⟩
instance : FdT Try.prog 99 1 1 := ⟨fun _ _ => by kernel_rfl⟩
instance : FdT Try.prog 99 2 2 := ⟨fun _ _ => by kernel_rfl⟩
instance : FdT Try.prog 99 3 3 := ⟨fun _ _ => by kernel_rfl⟩
instance : ZeT Try.prog 99 (.agg #[.pointer none, .pointer none, .pointer none, .string ⟨#[]⟩]) := ⟨fun _ => by kernel_rfl⟩
instance : AgT Try.prog 100 0 := ⟨fun _ => by kernel_rfl, fun _ => by kernel_rfl⟩
instance : ZeT Try.prog 100 (.agg #[]) := ⟨fun _ => by kernel_rfl⟩
instance : AgT Try.prog 101 0 := ⟨fun _ => by kernel_rfl, fun _ => by kernel_rfl⟩
instance : ZeT Try.prog 101 (.agg #[]) := ⟨fun _ => by kernel_rfl⟩
instance : AgT Try.prog 102 0 := ⟨fun _ => by kernel_rfl, fun _ => by kernel_rfl⟩
instance : ZeT Try.prog 102 (.agg #[]) := ⟨fun _ => by kernel_rfl⟩
instance : ScT Try.prog 103 := ⟨fun _ => by kernel_rfl, fun _ => by kernel_rfl⟩
instance : InT Try.prog 103 .u32 := ⟨by kernel_rfl⟩
instance : ZeT Try.prog 103 (.int .u32 0) := ⟨fun _ => by kernel_rfl⟩
instance : ScT Try.prog 104 := ⟨fun _ => by kernel_rfl, fun _ => by kernel_rfl⟩
instance : InT Try.prog 104 .u8 := ⟨by kernel_rfl⟩
instance : ZeT Try.prog 104 (.int .u8 0) := ⟨fun _ => by kernel_rfl⟩
instance : ScT Try.prog 105 := ⟨fun _ => by kernel_rfl, fun _ => by kernel_rfl⟩
instance : InT Try.prog 105 .u8 := ⟨by kernel_rfl⟩
instance : ZeT Try.prog 105 (.int .u8 0) := ⟨fun _ => by kernel_rfl⟩
instance : ScT Try.prog 106 := ⟨fun _ => by kernel_rfl, fun _ => by kernel_rfl⟩
instance : ZeT Try.prog 106 (.nilFunc) := ⟨fun _ => by kernel_rfl⟩
instance : ScT Try.prog 107 := ⟨fun _ => by kernel_rfl, fun _ => by kernel_rfl⟩
instance : ZeT Try.prog 107 (.pointer none) := ⟨fun _ => by kernel_rfl⟩
instance : ScT Try.prog 108 := ⟨fun _ => by kernel_rfl, fun _ => by kernel_rfl⟩
instance : InT Try.prog 108 .i32 := ⟨by kernel_rfl⟩
instance : ZeT Try.prog 108 (.int .i32 0) := ⟨fun _ => by kernel_rfl⟩
instance : ScT Try.prog 109 := ⟨fun _ => by kernel_rfl, fun _ => by kernel_rfl⟩
instance : InT Try.prog 109 .i32 := ⟨by kernel_rfl⟩
instance : ZeT Try.prog 109 (.int .i32 0) := ⟨fun _ => by kernel_rfl⟩
instance : AgT Try.prog 110 11 := ⟨fun _ => by kernel_rfl, fun _ => by kernel_rfl⟩
instance : FdT Try.prog 110 0 0 := ⟨fun _ _ => by kernel_rfl⟩
instance : FdT Try.prog 110 1 1 := ⟨fun _ _ => by kernel_rfl⟩
instance : FdT Try.prog 110 2 2 := ⟨fun _ _ => by kernel_rfl⟩
instance : FdT Try.prog 110 3 3 := ⟨fun _ _ => by kernel_rfl⟩
instance : FdT Try.prog 110 4 4 := ⟨fun _ _ => by kernel_rfl⟩
instance : FdT Try.prog 110 5 5 := ⟨fun _ _ => by kernel_rfl⟩
instance : FdT Try.prog 110 6 6 := ⟨fun _ _ => by kernel_rfl⟩
instance : FdT Try.prog 110 7 7 := ⟨fun _ _ => by kernel_rfl⟩
instance : FdT Try.prog 110 8 8 := ⟨fun _ _ => by kernel_rfl⟩
instance : FdT Try.prog 110 9 9 := ⟨fun _ _ => by kernel_rfl⟩
instance : FdT Try.prog 110 10 10 := ⟨fun _ _ => by kernel_rfl⟩
instance : ZeT Try.prog 110 (.agg #[.int .u64 0, .int .u64 0, .int .u32 0, .int .u8 0, .int .u8 0, .int .u8 0, .int .u8 0, .nilFunc, .pointer none, .int .i32 0, .int .i32 0]) := ⟨fun _ => by kernel_rfl⟩
instance : AgT Try.prog 111 11 := ⟨fun _ => by kernel_rfl, fun _ => by kernel_rfl⟩
instance : FdT Try.prog 111 0 0 := ⟨fun _ _ => by kernel_rfl⟩
instance : FdT Try.prog 111 1 1 := ⟨fun _ _ => by kernel_rfl⟩
instance : FdT Try.prog 111 2 2 := ⟨fun _ _ => by kernel_rfl⟩
instance : FdT Try.prog 111 3 3 := ⟨fun _ _ => by kernel_rfl⟩
instance : FdT Try.prog 111 4 4 := ⟨fun _ _ => by kernel_rfl⟩
instance : FdT Try.prog 111 5 5 := ⟨fun _ _ => by kernel_rfl⟩
instance : FdT Try.prog 111 6 6 := ⟨fun _ _ => by kernel_rfl⟩
instance : FdT Try.prog 111 7 7 := ⟨fun _ _ => by kernel_rfl⟩
instance : FdT Try.prog 111 8 8 := ⟨fun _ _ => by kernel_rfl⟩
instance : FdT Try.prog 111 9 9 := ⟨fun _ _ => by kernel_rfl⟩
instance : FdT Try.prog 111 10 10 := ⟨fun _ _ => by kernel_rfl⟩
instance : ZeT Try.prog 111 (.agg #[.int .u64 0, .int .u64 0, .int .u32 0, .int .u8 0, .int .u8 0, .int .u8 0, .int .u8 0, .nilFunc, .pointer none, .int .i32 0, .int .i32 0]) := ⟨fun _ => by kernel_rfl⟩
instance : ScT Try.prog 112 := ⟨fun _ => by kernel_rfl, fun _ => by kernel_rfl⟩
instance : ZeT Try.prog 112 (.pointer none) := ⟨fun _ => by kernel_rfl⟩
instance : FnT Try.prog 2 := ⟨fun _ _ => by kernel_rfl⟩
instance : FnT Try.prog 3 := ⟨fun _ _ => by kernel_rfl⟩
instance : FnT Try.prog 4 := ⟨fun _ _ => by kernel_rfl⟩
instance : FnT Try.prog 5 := ⟨fun _ _ => by kernel_rfl⟩
instance : FnT Try.prog 6 := ⟨fun _ _ => by kernel_rfl⟩
instance : FnT Try.prog 7 := ⟨fun _ _ => by kernel_rfl⟩
instance : FnT Try.prog 8 := ⟨fun _ _ => by kernel_rfl⟩
instance : FnT Try.prog 9 := ⟨fun _ _ => by kernel_rfl⟩
instance : FnT Try.prog 10 := ⟨fun _ _ => by kernel_rfl⟩
instance : FnT Try.prog 11 := ⟨fun _ _ => by kernel_rfl⟩
instance : FnT Try.prog 12 := ⟨fun _ _ => by kernel_rfl⟩
instance : FnT Try.prog 13 := ⟨fun _ _ => by kernel_rfl⟩
instance : FnT Try.prog 14 := ⟨fun _ _ => by kernel_rfl⟩
instance : FnT Try.prog 15 := ⟨fun _ _ => by kernel_rfl⟩
instance : FnT Try.prog 16 := ⟨fun _ _ => by kernel_rfl⟩
instance : FnT Try.prog 17 := ⟨fun _ _ => by kernel_rfl⟩
instance : FnT Try.prog 18 := ⟨fun _ _ => by kernel_rfl⟩
instance : FnT Try.prog 19 := ⟨fun _ _ => by kernel_rfl⟩
instance : FnT Try.prog 20 := ⟨fun _ _ => by kernel_rfl⟩
instance : FnT Try.prog 21 := ⟨fun _ _ => by kernel_rfl⟩
instance : FnT Try.prog 22 := ⟨fun _ _ => by kernel_rfl⟩
instance : FnT Try.prog 23 := ⟨fun _ _ => by kernel_rfl⟩
instance : FnT Try.prog 24 := ⟨fun _ _ => by kernel_rfl⟩
instance : FnT Try.prog 25 := ⟨fun _ _ => by kernel_rfl⟩
instance : FnT Try.prog 26 := ⟨fun _ _ => by kernel_rfl⟩
instance : FnT Try.prog 27 := ⟨fun _ _ => by kernel_rfl⟩
instance : FnT Try.prog 28 := ⟨fun _ _ => by kernel_rfl⟩
instance : FnT Try.prog 29 := ⟨fun _ _ => by kernel_rfl⟩
instance : FnT Try.prog 30 := ⟨fun _ _ => by kernel_rfl⟩
instance : FnT Try.prog 31 := ⟨fun _ _ => by kernel_rfl⟩
instance : FnT Try.prog 32 := ⟨fun _ _ => by kernel_rfl⟩
instance : FnT Try.prog 33 := ⟨fun _ _ => by kernel_rfl⟩
instance : FnT Try.prog 34 := ⟨fun _ _ => by kernel_rfl⟩
instance : FnT Try.prog 35 := ⟨fun _ _ => by kernel_rfl⟩
instance : FnT Try.prog 36 := ⟨fun _ _ => by kernel_rfl⟩
instance : FnT Try.prog 37 := ⟨fun _ _ => by kernel_rfl⟩
instance : FnT Try.prog 38 := ⟨fun _ _ => by kernel_rfl⟩
instance : FnT Try.prog 39 := ⟨fun _ _ => by kernel_rfl⟩
instance : FnT Try.prog 40 := ⟨fun _ _ => by kernel_rfl⟩
instance : FnT Try.prog 41 := ⟨fun _ _ => by kernel_rfl⟩
instance : FnT Try.prog 42 := ⟨fun _ _ => by kernel_rfl⟩
instance : FnT Try.prog 43 := ⟨fun _ _ => by kernel_rfl⟩
instance : FnT Try.prog 44 := ⟨fun _ _ => by kernel_rfl⟩
instance : FnT Try.prog 45 := ⟨fun _ _ => by kernel_rfl⟩
instance : FnT Try.prog 46 := ⟨fun _ _ => by kernel_rfl⟩
instance : FnT Try.prog 47 := ⟨fun _ _ => by kernel_rfl⟩
instance : FnT Try.prog 48 := ⟨fun _ _ => by kernel_rfl⟩
instance : FnT Try.prog 49 := ⟨fun _ _ => by kernel_rfl⟩
instance : FnT Try.prog 50 := ⟨fun _ _ => by kernel_rfl⟩
instance : FnT Try.prog 51 := ⟨fun _ _ => by kernel_rfl⟩
instance : FnT Try.prog 52 := ⟨fun _ _ => by kernel_rfl⟩
instance : FnT Try.prog 53 := ⟨fun _ _ => by kernel_rfl⟩
instance : FnT Try.prog 54 := ⟨fun _ _ => by kernel_rfl⟩
instance : FnT Try.prog 55 := ⟨fun _ _ => by kernel_rfl⟩
instance : FnT Try.prog 56 := ⟨fun _ _ => by kernel_rfl⟩
instance : FnT Try.prog 57 := ⟨fun _ _ => by kernel_rfl⟩
instance : FnT Try.prog 58 := ⟨fun _ _ => by kernel_rfl⟩
instance : FnT Try.prog 59 := ⟨fun _ _ => by kernel_rfl⟩
instance : FnT Try.prog 60 := ⟨fun _ _ => by kernel_rfl⟩
instance : FnT Try.prog 61 := ⟨fun _ _ => by kernel_rfl⟩
instance : FnT Try.prog 62 := ⟨fun _ _ => by kernel_rfl⟩
instance : FnT Try.prog 63 := ⟨fun _ _ => by kernel_rfl⟩
instance : FnT Try.prog 64 := ⟨fun _ _ => by kernel_rfl⟩
instance : FnT Try.prog 65 := ⟨fun _ _ => by kernel_rfl⟩
instance : FnT Try.prog 66 := ⟨fun _ _ => by kernel_rfl⟩
instance : FnT Try.prog 67 := ⟨fun _ _ => by kernel_rfl⟩
instance : FnT Try.prog 68 := ⟨fun _ _ => by kernel_rfl⟩
instance : FnT Try.prog 69 := ⟨fun _ _ => by kernel_rfl⟩
instance : FnT Try.prog 70 := ⟨fun _ _ => by kernel_rfl⟩
instance : FnT Try.prog 71 := ⟨fun _ _ => by kernel_rfl⟩
instance : FnT Try.prog 72 := ⟨fun _ _ => by kernel_rfl⟩
instance : FnT Try.prog 73 := ⟨fun _ _ => by kernel_rfl⟩
instance : FnT Try.prog 74 := ⟨fun _ _ => by kernel_rfl⟩
instance : FnT Try.prog 75 := ⟨fun _ _ => by kernel_rfl⟩
instance : FnT Try.prog 76 := ⟨fun _ _ => by kernel_rfl⟩
theorem mixed : Try.prog.follows .mixedOrders = true := by kernel_rfl
end Go.Sx
