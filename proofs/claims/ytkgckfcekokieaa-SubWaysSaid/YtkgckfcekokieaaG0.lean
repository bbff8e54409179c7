/- Lifted by program off the elaborated code: each Go function, read as a proposition over typed variables and the heap. -/
import Derived.Test.YtkgckfcekokieaaLiftQ
import Derived.Test.YtkgckfcekokieaaLiftK
import Derived.Test.YtkgckfcekokieaaProg
namespace Go.Proofs.Ytkgckfcekokieaa
open Go Go.Lf
set_option linter.unusedVariables false
set_option maxRecDepth 100000

theorem ag25 : aggT Try.prog 25 = true := by kernel_rfl
theorem ag35 : aggT Try.prog 35 = true := by kernel_rfl
theorem fa25_0 : fieldT Try.prog 25 0 = some 0 := by kernel_rfl
theorem fa25_1 : fieldT Try.prog 25 1 = some 1 := by kernel_rfl
theorem fa25_2 : fieldT Try.prog 25 2 = some 2 := by kernel_rfl
theorem fa25_3 : fieldT Try.prog 25 3 = some 3 := by kernel_rfl
theorem fa25_4 : fieldT Try.prog 25 4 = some 4 := by kernel_rfl
theorem fa25_5 : fieldT Try.prog 25 5 = some 5 := by kernel_rfl
theorem fa39_0 : fieldT Try.prog 39 0 = some 0 := by kernel_rfl
theorem fa39_1 : fieldT Try.prog 39 1 = some 6 := by kernel_rfl
theorem fa39_2 : fieldT Try.prog 39 2 = some 7 := by kernel_rfl
theorem fa39_3 : fieldT Try.prog 39 3 = some 8 := by kernel_rfl
theorem fa39_4 : fieldT Try.prog 39 4 = some 9 := by kernel_rfl
theorem fa39_5 : fieldT Try.prog 39 5 = some 17 := by kernel_rfl
theorem fa49_0 : fieldT Try.prog 49 0 = some 0 := by kernel_rfl
theorem fa49_1 : fieldT Try.prog 49 1 = some 1 := by kernel_rfl
theorem fl22 : flatT Try.prog 22 = true := by kernel_rfl
theorem fl23 : flatT Try.prog 23 = true := by kernel_rfl
theorem fl26 : flatT Try.prog 26 = true := by kernel_rfl
theorem fl29 : flatT Try.prog 29 = true := by kernel_rfl
theorem fl3 : flatT Try.prog 3 = true := by kernel_rfl
theorem fl33 : flatT Try.prog 33 = true := by kernel_rfl
theorem fl4 : flatT Try.prog 4 = true := by kernel_rfl
theorem fl9 : flatT Try.prog 9 = true := by kernel_rfl
theorem isfn10 : IsFn Try.prog 10 := ⟨Try.f10, Try.func10, by kernel_rfl, by kernel_rfl⟩
theorem isfn11 : IsFn Try.prog 11 := ⟨Try.f11, Try.func11, by kernel_rfl, by kernel_rfl⟩
theorem isfn12 : IsFn Try.prog 12 := ⟨Try.f12, Try.func12, by kernel_rfl, by kernel_rfl⟩
theorem isfn13 : IsFn Try.prog 13 := ⟨Try.f13, Try.func13, by kernel_rfl, by kernel_rfl⟩
theorem isfn14 : IsFn Try.prog 14 := ⟨Try.f14, Try.func14, by kernel_rfl, by kernel_rfl⟩
theorem isfn15 : IsFn Try.prog 15 := ⟨Try.f15, Try.func15, by kernel_rfl, by kernel_rfl⟩
theorem isfn16 : IsFn Try.prog 16 := ⟨Try.f16, Try.func16, by kernel_rfl, by kernel_rfl⟩
theorem isfn17 : IsFn Try.prog 17 := ⟨Try.f17, Try.func17, by kernel_rfl, by kernel_rfl⟩
theorem isfn18 : IsFn Try.prog 18 := ⟨Try.f18, Try.func18, by kernel_rfl, by kernel_rfl⟩
theorem isfn19 : IsFn Try.prog 19 := ⟨Try.f19, Try.func19, by kernel_rfl, by kernel_rfl⟩
theorem isfn20 : IsFn Try.prog 20 := ⟨Try.f20, Try.func20, by kernel_rfl, by kernel_rfl⟩
theorem isfn21 : IsFn Try.prog 21 := ⟨Try.f21, Try.func21, by kernel_rfl, by kernel_rfl⟩
theorem isfn22 : IsFn Try.prog 22 := ⟨Try.f22, Try.func22, by kernel_rfl, by kernel_rfl⟩
theorem isfn23 : IsFn Try.prog 23 := ⟨Try.f23, Try.func23, by kernel_rfl, by kernel_rfl⟩
theorem isfn7 : IsFn Try.prog 7 := ⟨Try.f7, Try.func7, by kernel_rfl, by kernel_rfl⟩
theorem isfn8 : IsFn Try.prog 8 := ⟨Try.f8, Try.func8, by kernel_rfl, by kernel_rfl⟩
theorem isfn9 : IsFn Try.prog 9 := ⟨Try.f9, Try.func9, by kernel_rfl, by kernel_rfl⟩
theorem pl25 : placesT Try.prog 25 = some [(0, 1), (1, 1), (2, 1), (3, 1), (4, 1), (5, 1)] := by kernel_rfl
theorem pl49 : placesT Try.prog 49 = some [(0, 1), (1, 1)] := by kernel_rfl
theorem ti22 : tinfo Try.prog 22 = some (some (Value.slice (⟨none, 0, 0⟩ : Sv).a (⟨none, 0, 0⟩ : Sv).n (⟨none, 0, 0⟩ : Sv).c), 1, 24) := by kernel_rfl
theorem ti23 : tinfo Try.prog 23 = some (some (Value.slice (⟨none, 0, 0⟩ : Sv).a (⟨none, 0, 0⟩ : Sv).n (⟨none, 0, 0⟩ : Sv).c), 1, 24) := by kernel_rfl
theorem ti25 : tinfo Try.prog 25 = some (some (Value.agg #[Value.int .i64 0, Value.string (⟨#[]⟩ : ByteArray), Value.bool false, Value.int .i64 0, Value.slice (⟨none, 0, 0⟩ : Sv).a (⟨none, 0, 0⟩ : Sv).n (⟨none, 0, 0⟩ : Sv).c, Value.slice (⟨none, 0, 0⟩ : Sv).a (⟨none, 0, 0⟩ : Sv).n (⟨none, 0, 0⟩ : Sv).c]), 6, 88) := by kernel_rfl
theorem ti26 : tinfo Try.prog 26 = some (some (Value.int .u64 0), 1, 8) := by kernel_rfl
theorem ti29 : tinfo Try.prog 29 = some (some (Value.slice (⟨none, 0, 0⟩ : Sv).a (⟨none, 0, 0⟩ : Sv).n (⟨none, 0, 0⟩ : Sv).c), 1, 24) := by kernel_rfl
theorem ti3 : tinfo Try.prog 3 = some (some (Value.int .i64 0), 1, 8) := by kernel_rfl
theorem ti35 : tinfo Try.prog 35 = some (some (Value.agg #[Value.int .i64 0, Value.int .i64 0]), 2, 16) := by kernel_rfl
theorem ti49 : tinfo Try.prog 49 = some (some (Value.agg #[Value.map none, Value.slice (⟨none, 0, 0⟩ : Sv).a (⟨none, 0, 0⟩ : Sv).n (⟨none, 0, 0⟩ : Sv).c]), 2, 32) := by kernel_rfl
end Go.Proofs.Ytkgckfcekokieaa
