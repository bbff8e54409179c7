/- Lifted by program off the elaborated code: each Go function, read as a proposition over typed variables and the heap. -/
import Derived.Test.YteaidgpiolakcaaLiftQ
import Derived.Test.YteaidgpiolakcaaLiftK
import Derived.Test.YteaidgpiolakcaaProg
namespace Go.Proofs.Yteaidgpiolakcaa
open Go Go.Lf
set_option linter.unusedVariables false
set_option maxRecDepth 100000

theorem ag32 : aggT Try.prog 32 = true := by kernel_rfl
theorem ag41 : aggT Try.prog 41 = true := by kernel_rfl
theorem ag50 : aggT Try.prog 50 = true := by kernel_rfl
theorem fa27_0 : fieldT Try.prog 27 0 = some 0 := by kernel_rfl
theorem fa27_1 : fieldT Try.prog 27 1 = some 1 := by kernel_rfl
theorem fa27_2 : fieldT Try.prog 27 2 = some 5 := by kernel_rfl
theorem fa27_3 : fieldT Try.prog 27 3 = some 9 := by kernel_rfl
theorem fa32_0 : fieldT Try.prog 32 0 = some 0 := by kernel_rfl
theorem fa32_1 : fieldT Try.prog 32 1 = some 1 := by kernel_rfl
theorem fa32_2 : fieldT Try.prog 32 2 = some 2 := by kernel_rfl
theorem fa32_3 : fieldT Try.prog 32 3 = some 3 := by kernel_rfl
theorem fa32_4 : fieldT Try.prog 32 4 = some 4 := by kernel_rfl
theorem fa32_5 : fieldT Try.prog 32 5 = some 5 := by kernel_rfl
theorem fa41_0 : fieldT Try.prog 41 0 = some 0 := by kernel_rfl
theorem fa41_1 : fieldT Try.prog 41 1 = some 1 := by kernel_rfl
theorem fa41_2 : fieldT Try.prog 41 2 = some 2 := by kernel_rfl
theorem fa41_3 : fieldT Try.prog 41 3 = some 3 := by kernel_rfl
theorem fa57_0 : fieldT Try.prog 57 0 = some 0 := by kernel_rfl
theorem fa57_1 : fieldT Try.prog 57 1 = some 1 := by kernel_rfl
theorem fa66_0 : fieldT Try.prog 66 0 = some 0 := by kernel_rfl
theorem fa66_1 : fieldT Try.prog 66 1 = some 4 := by kernel_rfl
theorem fa66_2 : fieldT Try.prog 66 2 = some 5 := by kernel_rfl
theorem fl22 : flatT Try.prog 22 = true := by kernel_rfl
theorem fl24 : flatT Try.prog 24 = true := by kernel_rfl
theorem fl3 : flatT Try.prog 3 = true := by kernel_rfl
theorem fl30 : flatT Try.prog 30 = true := by kernel_rfl
theorem fl37 : flatT Try.prog 37 = true := by kernel_rfl
theorem fl39 : flatT Try.prog 39 = true := by kernel_rfl
theorem fl4 : flatT Try.prog 4 = true := by kernel_rfl
theorem fl43 : flatT Try.prog 43 = true := by kernel_rfl
theorem fl9 : flatT Try.prog 9 = true := by kernel_rfl
theorem isfn10 : IsFn Try.prog 10 := ⟨Try.f10, Try.func10, by kernel_rfl, by kernel_rfl⟩
theorem isfn11 : IsFn Try.prog 11 := ⟨Try.f11, Try.func11, by kernel_rfl, by kernel_rfl⟩
theorem isfn12 : IsFn Try.prog 12 := ⟨Try.f12, Try.func12, by kernel_rfl, by kernel_rfl⟩
theorem isfn13 : IsFn Try.prog 13 := ⟨Try.f13, Try.func13, by kernel_rfl, by kernel_rfl⟩
theorem isfn14 : IsFn Try.prog 14 := ⟨Try.f14, Try.func14, by kernel_rfl, by kernel_rfl⟩
theorem isfn16 : IsFn Try.prog 16 := ⟨Try.f16, Try.func16, by kernel_rfl, by kernel_rfl⟩
theorem isfn17 : IsFn Try.prog 17 := ⟨Try.f17, Try.func17, by kernel_rfl, by kernel_rfl⟩
theorem isfn18 : IsFn Try.prog 18 := ⟨Try.f18, Try.func18, by kernel_rfl, by kernel_rfl⟩
theorem isfn20 : IsFn Try.prog 20 := ⟨Try.f20, Try.func20, by kernel_rfl, by kernel_rfl⟩
theorem isfn21 : IsFn Try.prog 21 := ⟨Try.f21, Try.func21, by kernel_rfl, by kernel_rfl⟩
theorem isfn22 : IsFn Try.prog 22 := ⟨Try.f22, Try.func22, by kernel_rfl, by kernel_rfl⟩
theorem isfn23 : IsFn Try.prog 23 := ⟨Try.f23, Try.func23, by kernel_rfl, by kernel_rfl⟩
theorem isfn24 : IsFn Try.prog 24 := ⟨Try.f24, Try.func24, by kernel_rfl, by kernel_rfl⟩
theorem isfn25 : IsFn Try.prog 25 := ⟨Try.f25, Try.func25, by kernel_rfl, by kernel_rfl⟩
theorem isfn26 : IsFn Try.prog 26 := ⟨Try.f26, Try.func26, by kernel_rfl, by kernel_rfl⟩
theorem isfn27 : IsFn Try.prog 27 := ⟨Try.f27, Try.func27, by kernel_rfl, by kernel_rfl⟩
theorem isfn28 : IsFn Try.prog 28 := ⟨Try.f28, Try.func28, by kernel_rfl, by kernel_rfl⟩
theorem isfn29 : IsFn Try.prog 29 := ⟨Try.f29, Try.func29, by kernel_rfl, by kernel_rfl⟩
theorem isfn4 : IsFn Try.prog 4 := ⟨Try.f4, Try.func4, by kernel_rfl, by kernel_rfl⟩
theorem isfn5 : IsFn Try.prog 5 := ⟨Try.f5, Try.func5, by kernel_rfl, by kernel_rfl⟩
theorem isfn6 : IsFn Try.prog 6 := ⟨Try.f6, Try.func6, by kernel_rfl, by kernel_rfl⟩
theorem isfn7 : IsFn Try.prog 7 := ⟨Try.f7, Try.func7, by kernel_rfl, by kernel_rfl⟩
theorem isfn8 : IsFn Try.prog 8 := ⟨Try.f8, Try.func8, by kernel_rfl, by kernel_rfl⟩
theorem isfn9 : IsFn Try.prog 9 := ⟨Try.f9, Try.func9, by kernel_rfl, by kernel_rfl⟩
theorem pl32 : placesT Try.prog 32 = some [(0, 1), (1, 1), (2, 1), (3, 1), (4, 1), (5, 1)] := by kernel_rfl
theorem pl41 : placesT Try.prog 41 = some [(0, 1), (1, 1), (2, 1), (3, 1)] := by kernel_rfl
theorem pl57 : placesT Try.prog 57 = some [(0, 1), (1, 1)] := by kernel_rfl
theorem pl66 : placesT Try.prog 66 = some [(0, 4), (4, 1), (5, 1)] := by kernel_rfl
theorem ti22 : tinfo Try.prog 22 = some (some (Value.slice (⟨none, 0, 0⟩ : Sv).a (⟨none, 0, 0⟩ : Sv).n (⟨none, 0, 0⟩ : Sv).c), 1, 24) := by kernel_rfl
theorem ti24 : tinfo Try.prog 24 = some (some (Value.int .u64 0), 1, 8) := by kernel_rfl
theorem ti3 : tinfo Try.prog 3 = some (some (Value.int .i64 0), 1, 8) := by kernel_rfl
theorem ti30 : tinfo Try.prog 30 = some (some (Value.slice (⟨none, 0, 0⟩ : Sv).a (⟨none, 0, 0⟩ : Sv).n (⟨none, 0, 0⟩ : Sv).c), 1, 24) := by kernel_rfl
theorem ti32 : tinfo Try.prog 32 = some (some (Value.agg #[Value.int .i64 0, Value.string (⟨#[]⟩ : ByteArray), Value.bool false, Value.int .i64 0, Value.slice (⟨none, 0, 0⟩ : Sv).a (⟨none, 0, 0⟩ : Sv).n (⟨none, 0, 0⟩ : Sv).c, Value.slice (⟨none, 0, 0⟩ : Sv).a (⟨none, 0, 0⟩ : Sv).n (⟨none, 0, 0⟩ : Sv).c]), 6, 88) := by kernel_rfl
theorem ti41 : tinfo Try.prog 41 = some (some (Value.agg #[Value.string (⟨#[]⟩ : ByteArray), Value.int .i64 0, Value.slice (⟨none, 0, 0⟩ : Sv).a (⟨none, 0, 0⟩ : Sv).n (⟨none, 0, 0⟩ : Sv).c, Value.slice (⟨none, 0, 0⟩ : Sv).a (⟨none, 0, 0⟩ : Sv).n (⟨none, 0, 0⟩ : Sv).c]), 4, 72) := by kernel_rfl
theorem ti43 : tinfo Try.prog 43 = some (some (Value.slice (⟨none, 0, 0⟩ : Sv).a (⟨none, 0, 0⟩ : Sv).n (⟨none, 0, 0⟩ : Sv).c), 1, 24) := by kernel_rfl
theorem ti50 : tinfo Try.prog 50 = some (some (Value.agg #[Value.int .i64 0, Value.int .i64 0]), 2, 16) := by kernel_rfl
theorem ti57 : tinfo Try.prog 57 = some (some (Value.agg #[Value.map none, Value.slice (⟨none, 0, 0⟩ : Sv).a (⟨none, 0, 0⟩ : Sv).n (⟨none, 0, 0⟩ : Sv).c]), 2, 32) := by kernel_rfl
theorem ti66 : tinfo Try.prog 66 = some (some (Value.agg #[Value.string (⟨#[]⟩ : ByteArray), Value.int .i64 0, Value.slice (⟨none, 0, 0⟩ : Sv).a (⟨none, 0, 0⟩ : Sv).n (⟨none, 0, 0⟩ : Sv).c, Value.slice (⟨none, 0, 0⟩ : Sv).a (⟨none, 0, 0⟩ : Sv).n (⟨none, 0, 0⟩ : Sv).c, Value.map none, Value.slice (⟨none, 0, 0⟩ : Sv).a (⟨none, 0, 0⟩ : Sv).n (⟨none, 0, 0⟩ : Sv).c]), 6, 104) := by kernel_rfl
theorem ti9 : tinfo Try.prog 9 = some (some (Value.string (⟨#[]⟩ : ByteArray)), 1, 16) := by kernel_rfl
end Go.Proofs.Yteaidgpiolakcaa
