/- Lifted by program off the elaborated code: each Go function, read as a proposition over typed variables and the heap. -/
import Derived.Test.YtgbmihnainbgiaaLiftG
import Derived.Test.YtgbmihnainbgiaaProg
namespace Go.Proofs.Ytgbmihnainbgiaa
open Go Go.Lf
set_option linter.unusedVariables false

theorem ag26 : aggT Try.prog 26 = true := by kernel_rfl
theorem fa26_0 : fieldT Try.prog 26 0 = some 0 := by kernel_rfl
theorem fa26_1 : fieldT Try.prog 26 1 = some 1 := by kernel_rfl
theorem fa26_2 : fieldT Try.prog 26 2 = some 2 := by kernel_rfl
theorem fa47_0 : fieldT Try.prog 47 0 = some 0 := by kernel_rfl
theorem fa47_1 : fieldT Try.prog 47 1 = some 1 := by kernel_rfl
theorem fa47_2 : fieldT Try.prog 47 2 = some 2 := by kernel_rfl
theorem fa47_3 : fieldT Try.prog 47 3 = some 3 := by kernel_rfl
theorem fa47_4 : fieldT Try.prog 47 4 = some 4 := by kernel_rfl
theorem fa47_5 : fieldT Try.prog 47 5 = some 5 := by kernel_rfl
theorem fl3 : flatT Try.prog 3 = true := by kernel_rfl
theorem fl32 : flatT Try.prog 32 = true := by kernel_rfl
theorem fl36 : flatT Try.prog 36 = true := by kernel_rfl
theorem fl4 : flatT Try.prog 4 = true := by kernel_rfl
theorem fl42 : flatT Try.prog 42 = true := by kernel_rfl
theorem fl43 : flatT Try.prog 43 = true := by kernel_rfl
theorem fl44 : flatT Try.prog 44 = true := by kernel_rfl
theorem fl45 : flatT Try.prog 45 = true := by kernel_rfl
theorem isfn10 : IsFn Try.prog 10 := ⟨Try.f10, Try.func10, by kernel_rfl, by kernel_rfl⟩
theorem isfn11 : IsFn Try.prog 11 := ⟨Try.f11, Try.func11, by kernel_rfl, by kernel_rfl⟩
theorem isfn12 : IsFn Try.prog 12 := ⟨Try.f12, Try.func12, by kernel_rfl, by kernel_rfl⟩
theorem isfn13 : IsFn Try.prog 13 := ⟨Try.f13, Try.func13, by kernel_rfl, by kernel_rfl⟩
theorem isfn14 : IsFn Try.prog 14 := ⟨Try.f14, Try.func14, by kernel_rfl, by kernel_rfl⟩
theorem isfn15 : IsFn Try.prog 15 := ⟨Try.f15, Try.func15, by kernel_rfl, by kernel_rfl⟩
theorem isfn16 : IsFn Try.prog 16 := ⟨Try.f16, Try.func16, by kernel_rfl, by kernel_rfl⟩
theorem isfn17 : IsFn Try.prog 17 := ⟨Try.f17, Try.func17, by kernel_rfl, by kernel_rfl⟩
theorem isfn18 : IsFn Try.prog 18 := ⟨Try.f18, Try.func18, by kernel_rfl, by kernel_rfl⟩
theorem isfn19 : IsFn Try.prog 19 := ⟨Try.f19, Try.func19, by kernel_rfl, by kernel_rfl⟩
theorem isfn6 : IsFn Try.prog 6 := ⟨Try.f6, Try.func6, by kernel_rfl, by kernel_rfl⟩
theorem isfn7 : IsFn Try.prog 7 := ⟨Try.f7, Try.func7, by kernel_rfl, by kernel_rfl⟩
theorem isfn8 : IsFn Try.prog 8 := ⟨Try.f8, Try.func8, by kernel_rfl, by kernel_rfl⟩
theorem isfn9 : IsFn Try.prog 9 := ⟨Try.f9, Try.func9, by kernel_rfl, by kernel_rfl⟩
theorem pl47 : placesT Try.prog 47 = some [(0, 1), (1, 1), (2, 1), (3, 1), (4, 1), (5, 1)] := by kernel_rfl
theorem ti26 : tinfo Try.prog 26 = some (some (Value.agg #[Value.bool false, Value.int .i64 0, Value.int .i64 0]), 3, 24) := by kernel_rfl
theorem ti3 : tinfo Try.prog 3 = some (some (Value.int .i64 0), 1, 8) := by kernel_rfl
theorem ti32 : tinfo Try.prog 32 = some (some (Value.int .u64 0), 1, 8) := by kernel_rfl
theorem ti36 : tinfo Try.prog 36 = some (some (Value.slice (⟨none, 0, 0⟩ : Sv).a (⟨none, 0, 0⟩ : Sv).n (⟨none, 0, 0⟩ : Sv).c), 1, 24) := by kernel_rfl
theorem ti37 : tinfo Try.prog 37 = some (some (Value.agg #[Value.int .i64 0, Value.int .i64 0]), 2, 16) := by kernel_rfl
theorem ti4 : tinfo Try.prog 4 = some (some (Value.bool false), 1, 1) := by kernel_rfl
theorem ti42 : tinfo Try.prog 42 = some (some (Value.slice (⟨none, 0, 0⟩ : Sv).a (⟨none, 0, 0⟩ : Sv).n (⟨none, 0, 0⟩ : Sv).c), 1, 24) := by kernel_rfl
theorem ti43 : tinfo Try.prog 43 = some (some (Value.slice (⟨none, 0, 0⟩ : Sv).a (⟨none, 0, 0⟩ : Sv).n (⟨none, 0, 0⟩ : Sv).c), 1, 24) := by kernel_rfl
theorem ti47 : tinfo Try.prog 47 = some (some (Value.agg #[Value.int .i64 0, Value.int .i64 0, Value.slice (⟨none, 0, 0⟩ : Sv).a (⟨none, 0, 0⟩ : Sv).n (⟨none, 0, 0⟩ : Sv).c, Value.slice (⟨none, 0, 0⟩ : Sv).a (⟨none, 0, 0⟩ : Sv).n (⟨none, 0, 0⟩ : Sv).c, Value.slice (⟨none, 0, 0⟩ : Sv).a (⟨none, 0, 0⟩ : Sv).n (⟨none, 0, 0⟩ : Sv).c, Value.slice (⟨none, 0, 0⟩ : Sv).a (⟨none, 0, 0⟩ : Sv).n (⟨none, 0, 0⟩ : Sv).c]), 6, 112) := by kernel_rfl
end Go.Proofs.Ytgbmihnainbgiaa
