/- Lifted by program off the elaborated code: each Go function, read as a proposition over typed variables and the heap. -/
import Derived.Test.YtgbmihnainbgiaaDoorLiftQ
import Derived.Test.YtgbmihnainbgiaaDoorProg
namespace Go.Proofs.YtgbmihnainbgiaaDoor
open Go Go.Lf
set_option linter.unusedVariables false
set_option maxRecDepth 100000

theorem ag42 : aggT Tryd.prog 42 = true := by kernel_rfl
theorem fa35_0 : fieldT Tryd.prog 35 0 = some 0 := by kernel_rfl
theorem fa35_1 : fieldT Tryd.prog 35 1 = some 1 := by kernel_rfl
theorem fa35_2 : fieldT Tryd.prog 35 2 = some 2 := by kernel_rfl
theorem fa35_3 : fieldT Tryd.prog 35 3 = some 3 := by kernel_rfl
theorem fa42_0 : fieldT Tryd.prog 42 0 = some 0 := by kernel_rfl
theorem fa42_1 : fieldT Tryd.prog 42 1 = some 1 := by kernel_rfl
theorem fa42_2 : fieldT Tryd.prog 42 2 = some 2 := by kernel_rfl
theorem fa50_0 : fieldT Tryd.prog 50 0 = some 0 := by kernel_rfl
theorem fa50_1 : fieldT Tryd.prog 50 1 = some 1 := by kernel_rfl
theorem fa50_2 : fieldT Tryd.prog 50 2 = some 2 := by kernel_rfl
theorem fa50_3 : fieldT Tryd.prog 50 3 = some 3 := by kernel_rfl
theorem fa50_4 : fieldT Tryd.prog 50 4 = some 4 := by kernel_rfl
theorem fa50_5 : fieldT Tryd.prog 50 5 = some 5 := by kernel_rfl
theorem fl29 : flatT Tryd.prog 29 = true := by kernel_rfl
theorem fl3 : flatT Tryd.prog 3 = true := by kernel_rfl
theorem fl4 : flatT Tryd.prog 4 = true := by kernel_rfl
theorem fl45 : flatT Tryd.prog 45 = true := by kernel_rfl
theorem fl46 : flatT Tryd.prog 46 = true := by kernel_rfl
theorem fl47 : flatT Tryd.prog 47 = true := by kernel_rfl
theorem fl48 : flatT Tryd.prog 48 = true := by kernel_rfl
theorem fl5 : flatT Tryd.prog 5 = true := by kernel_rfl
theorem fl51 : flatT Tryd.prog 51 = true := by kernel_rfl
theorem isfn10 : IsFn Tryd.prog 10 := ⟨Tryd.f10, Tryd.func10, by kernel_rfl, by kernel_rfl⟩
theorem isfn11 : IsFn Tryd.prog 11 := ⟨Tryd.f11, Tryd.func11, by kernel_rfl, by kernel_rfl⟩
theorem isfn12 : IsFn Tryd.prog 12 := ⟨Tryd.f12, Tryd.func12, by kernel_rfl, by kernel_rfl⟩
theorem isfn13 : IsFn Tryd.prog 13 := ⟨Tryd.f13, Tryd.func13, by kernel_rfl, by kernel_rfl⟩
theorem isfn14 : IsFn Tryd.prog 14 := ⟨Tryd.f14, Tryd.func14, by kernel_rfl, by kernel_rfl⟩
theorem isfn15 : IsFn Tryd.prog 15 := ⟨Tryd.f15, Tryd.func15, by kernel_rfl, by kernel_rfl⟩
theorem isfn16 : IsFn Tryd.prog 16 := ⟨Tryd.f16, Tryd.func16, by kernel_rfl, by kernel_rfl⟩
theorem isfn17 : IsFn Tryd.prog 17 := ⟨Tryd.f17, Tryd.func17, by kernel_rfl, by kernel_rfl⟩
theorem isfn18 : IsFn Tryd.prog 18 := ⟨Tryd.f18, Tryd.func18, by kernel_rfl, by kernel_rfl⟩
theorem isfn19 : IsFn Tryd.prog 19 := ⟨Tryd.f19, Tryd.func19, by kernel_rfl, by kernel_rfl⟩
theorem isfn20 : IsFn Tryd.prog 20 := ⟨Tryd.f20, Tryd.func20, by kernel_rfl, by kernel_rfl⟩
theorem isfn21 : IsFn Tryd.prog 21 := ⟨Tryd.f21, Tryd.func21, by kernel_rfl, by kernel_rfl⟩
theorem isfn5 : IsFn Tryd.prog 5 := ⟨Tryd.f5, Tryd.func5, by kernel_rfl, by kernel_rfl⟩
theorem isfn6 : IsFn Tryd.prog 6 := ⟨Tryd.f6, Tryd.func6, by kernel_rfl, by kernel_rfl⟩
theorem isfn7 : IsFn Tryd.prog 7 := ⟨Tryd.f7, Tryd.func7, by kernel_rfl, by kernel_rfl⟩
theorem isfn8 : IsFn Tryd.prog 8 := ⟨Tryd.f8, Tryd.func8, by kernel_rfl, by kernel_rfl⟩
theorem isfn9 : IsFn Tryd.prog 9 := ⟨Tryd.f9, Tryd.func9, by kernel_rfl, by kernel_rfl⟩
theorem pl50 : placesT Tryd.prog 50 = some [(0, 1), (1, 1), (2, 1), (3, 1), (4, 1), (5, 1)] := by kernel_rfl
theorem ti29 : tinfo Tryd.prog 29 = some (some (Value.slice (⟨none, 0, 0⟩ : Sv).a (⟨none, 0, 0⟩ : Sv).n (⟨none, 0, 0⟩ : Sv).c), 1, 24) := by kernel_rfl
theorem ti3 : tinfo Tryd.prog 3 = some (some (Value.int .i64 0), 1, 8) := by kernel_rfl
theorem ti4 : tinfo Tryd.prog 4 = some (some (Value.bool false), 1, 1) := by kernel_rfl
theorem ti42 : tinfo Tryd.prog 42 = some (some (Value.agg #[Value.bool false, Value.int .i64 0, Value.int .i64 0]), 3, 24) := by kernel_rfl
theorem ti43 : tinfo Tryd.prog 43 = some (some (Value.agg #[Value.int .i64 0, Value.int .i64 0]), 2, 16) := by kernel_rfl
theorem ti45 : tinfo Tryd.prog 45 = some (some (Value.slice (⟨none, 0, 0⟩ : Sv).a (⟨none, 0, 0⟩ : Sv).n (⟨none, 0, 0⟩ : Sv).c), 1, 24) := by kernel_rfl
theorem ti46 : tinfo Tryd.prog 46 = some (some (Value.slice (⟨none, 0, 0⟩ : Sv).a (⟨none, 0, 0⟩ : Sv).n (⟨none, 0, 0⟩ : Sv).c), 1, 24) := by kernel_rfl
theorem ti5 : tinfo Tryd.prog 5 = some (some (Value.int .u8 0), 1, 1) := by kernel_rfl
theorem ti50 : tinfo Tryd.prog 50 = some (some (Value.agg #[Value.int .i64 0, Value.int .i64 0, Value.slice (⟨none, 0, 0⟩ : Sv).a (⟨none, 0, 0⟩ : Sv).n (⟨none, 0, 0⟩ : Sv).c, Value.slice (⟨none, 0, 0⟩ : Sv).a (⟨none, 0, 0⟩ : Sv).n (⟨none, 0, 0⟩ : Sv).c, Value.slice (⟨none, 0, 0⟩ : Sv).a (⟨none, 0, 0⟩ : Sv).n (⟨none, 0, 0⟩ : Sv).c, Value.slice (⟨none, 0, 0⟩ : Sv).a (⟨none, 0, 0⟩ : Sv).n (⟨none, 0, 0⟩ : Sv).c]), 6, 112) := by kernel_rfl
theorem ti51 : tinfo Tryd.prog 51 = some (some (Value.int .u64 0), 1, 8) := by kernel_rfl
end Go.Proofs.YtgbmihnainbgiaaDoor
