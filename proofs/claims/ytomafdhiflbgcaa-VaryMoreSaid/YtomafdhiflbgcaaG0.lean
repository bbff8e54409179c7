/- Lifted by program off the elaborated code: each Go function, read as a proposition over typed variables and the heap. -/
import Derived.Test.YtomafdhiflbgcaaLiftQ
import Derived.Test.YtomafdhiflbgcaaProg
namespace Go.Proofs.Ytomafdhiflbgcaa
open Go Go.Lf
set_option linter.unusedVariables false
set_option maxRecDepth 100000

theorem ag34 : aggT Try.prog 34 = true := by kernel_rfl
theorem ag39 : aggT Try.prog 39 = true := by kernel_rfl
theorem fa34_0 : fieldT Try.prog 34 0 = some 0 := by kernel_rfl
theorem fa34_1 : fieldT Try.prog 34 1 = some 1 := by kernel_rfl
theorem fa34_2 : fieldT Try.prog 34 2 = some 2 := by kernel_rfl
theorem fa34_3 : fieldT Try.prog 34 3 = some 3 := by kernel_rfl
theorem fa34_4 : fieldT Try.prog 34 4 = some 4 := by kernel_rfl
theorem fa34_5 : fieldT Try.prog 34 5 = some 5 := by kernel_rfl
theorem fa39_0 : fieldT Try.prog 39 0 = some 0 := by kernel_rfl
theorem fa39_1 : fieldT Try.prog 39 1 = some 1 := by kernel_rfl
theorem fa39_2 : fieldT Try.prog 39 2 = some 2 := by kernel_rfl
theorem fa39_3 : fieldT Try.prog 39 3 = some 3 := by kernel_rfl
theorem fa47_0 : fieldT Try.prog 47 0 = some 0 := by kernel_rfl
theorem fa47_1 : fieldT Try.prog 47 1 = some 4 := by kernel_rfl
theorem fa47_2 : fieldT Try.prog 47 2 = some 5 := by kernel_rfl
theorem fl26 : flatT Try.prog 26 = true := by kernel_rfl
theorem fl28 : flatT Try.prog 28 = true := by kernel_rfl
theorem fl3 : flatT Try.prog 3 = true := by kernel_rfl
theorem fl32 : flatT Try.prog 32 = true := by kernel_rfl
theorem fl37 : flatT Try.prog 37 = true := by kernel_rfl
theorem fl4 : flatT Try.prog 4 = true := by kernel_rfl
theorem fl9 : flatT Try.prog 9 = true := by kernel_rfl
theorem isfn10 : IsFn Try.prog 10 := ⟨Try.f10, Try.func10, by kernel_rfl, by kernel_rfl⟩
theorem isfn11 : IsFn Try.prog 11 := ⟨Try.f11, Try.func11, by kernel_rfl, by kernel_rfl⟩
theorem isfn12 : IsFn Try.prog 12 := ⟨Try.f12, Try.func12, by kernel_rfl, by kernel_rfl⟩
theorem isfn13 : IsFn Try.prog 13 := ⟨Try.f13, Try.func13, by kernel_rfl, by kernel_rfl⟩
theorem isfn14 : IsFn Try.prog 14 := ⟨Try.f14, Try.func14, by kernel_rfl, by kernel_rfl⟩
theorem isfn15 : IsFn Try.prog 15 := ⟨Try.f15, Try.func15, by kernel_rfl, by kernel_rfl⟩
theorem isfn17 : IsFn Try.prog 17 := ⟨Try.f17, Try.func17, by kernel_rfl, by kernel_rfl⟩
theorem isfn18 : IsFn Try.prog 18 := ⟨Try.f18, Try.func18, by kernel_rfl, by kernel_rfl⟩
theorem isfn19 : IsFn Try.prog 19 := ⟨Try.f19, Try.func19, by kernel_rfl, by kernel_rfl⟩
theorem isfn20 : IsFn Try.prog 20 := ⟨Try.f20, Try.func20, by kernel_rfl, by kernel_rfl⟩
theorem isfn6 : IsFn Try.prog 6 := ⟨Try.f6, Try.func6, by kernel_rfl, by kernel_rfl⟩
theorem isfn7 : IsFn Try.prog 7 := ⟨Try.f7, Try.func7, by kernel_rfl, by kernel_rfl⟩
theorem isfn8 : IsFn Try.prog 8 := ⟨Try.f8, Try.func8, by kernel_rfl, by kernel_rfl⟩
theorem isfn9 : IsFn Try.prog 9 := ⟨Try.f9, Try.func9, by kernel_rfl, by kernel_rfl⟩
theorem pl34 : placesT Try.prog 34 = some [(0, 1), (1, 1), (2, 1), (3, 1), (4, 1), (5, 1)] := by kernel_rfl
theorem pl39 : placesT Try.prog 39 = some [(0, 1), (1, 1), (2, 1), (3, 1)] := by kernel_rfl
theorem pl47 : placesT Try.prog 47 = some [(0, 4), (4, 1), (5, 1)] := by kernel_rfl
theorem ti26 : tinfo Try.prog 26 = some (some (Value.slice (⟨none, 0, 0⟩ : Sv).a (⟨none, 0, 0⟩ : Sv).n (⟨none, 0, 0⟩ : Sv).c), 1, 24) := by kernel_rfl
theorem ti3 : tinfo Try.prog 3 = some (some (Value.int .i64 0), 1, 8) := by kernel_rfl
theorem ti32 : tinfo Try.prog 32 = some (some (Value.slice (⟨none, 0, 0⟩ : Sv).a (⟨none, 0, 0⟩ : Sv).n (⟨none, 0, 0⟩ : Sv).c), 1, 24) := by kernel_rfl
theorem ti34 : tinfo Try.prog 34 = some (some (Value.agg #[Value.int .i64 0, Value.string (⟨#[]⟩ : ByteArray), Value.bool false, Value.int .i64 0, Value.slice (⟨none, 0, 0⟩ : Sv).a (⟨none, 0, 0⟩ : Sv).n (⟨none, 0, 0⟩ : Sv).c, Value.slice (⟨none, 0, 0⟩ : Sv).a (⟨none, 0, 0⟩ : Sv).n (⟨none, 0, 0⟩ : Sv).c]), 6, 88) := by kernel_rfl
theorem ti39 : tinfo Try.prog 39 = some (some (Value.agg #[Value.string (⟨#[]⟩ : ByteArray), Value.int .i64 0, Value.slice (⟨none, 0, 0⟩ : Sv).a (⟨none, 0, 0⟩ : Sv).n (⟨none, 0, 0⟩ : Sv).c, Value.slice (⟨none, 0, 0⟩ : Sv).a (⟨none, 0, 0⟩ : Sv).n (⟨none, 0, 0⟩ : Sv).c]), 4, 72) := by kernel_rfl
theorem ti47 : tinfo Try.prog 47 = some (some (Value.agg #[Value.string (⟨#[]⟩ : ByteArray), Value.int .i64 0, Value.slice (⟨none, 0, 0⟩ : Sv).a (⟨none, 0, 0⟩ : Sv).n (⟨none, 0, 0⟩ : Sv).c, Value.slice (⟨none, 0, 0⟩ : Sv).a (⟨none, 0, 0⟩ : Sv).n (⟨none, 0, 0⟩ : Sv).c, Value.map none, Value.slice (⟨none, 0, 0⟩ : Sv).a (⟨none, 0, 0⟩ : Sv).n (⟨none, 0, 0⟩ : Sv).c]), 6, 104) := by kernel_rfl
theorem ti9 : tinfo Try.prog 9 = some (some (Value.string (⟨#[]⟩ : ByteArray)), 1, 16) := by kernel_rfl
end Go.Proofs.Ytomafdhiflbgcaa
