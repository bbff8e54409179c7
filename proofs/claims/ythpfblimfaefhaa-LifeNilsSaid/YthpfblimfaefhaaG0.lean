/- Lifted by program off the elaborated code: each Go function, read as a proposition over typed variables and the heap. -/
import Derived.Test.YthpfblimfaefhaaLiftH
import Derived.Test.YthpfblimfaefhaaProg
namespace Go.Proofs.Ythpfblimfaefhaa
open Go Go.Lf
set_option linter.unusedVariables false

theorem ag33 : aggT Try.prog 33 = true := by kernel_rfl
theorem fa49_0 : fieldT Try.prog 49 0 = some 0 := by kernel_rfl
theorem fa49_1 : fieldT Try.prog 49 1 = some 1 := by kernel_rfl
theorem fa54_0 : fieldT Try.prog 54 0 = some 0 := by kernel_rfl
theorem fa54_1 : fieldT Try.prog 54 1 = some 1 := by kernel_rfl
theorem fl22 : flatT Try.prog 22 = true := by kernel_rfl
theorem fl3 : flatT Try.prog 3 = true := by kernel_rfl
theorem fl4 : flatT Try.prog 4 = true := by kernel_rfl
theorem fl51 : flatT Try.prog 51 = true := by kernel_rfl
theorem fl52 : flatT Try.prog 52 = true := by kernel_rfl
theorem isfn10 : IsFn Try.prog 10 := ⟨Try.f10, Try.func10, by kernel_rfl, by kernel_rfl⟩
theorem isfn11 : IsFn Try.prog 11 := ⟨Try.f11, Try.func11, by kernel_rfl, by kernel_rfl⟩
theorem isfn12 : IsFn Try.prog 12 := ⟨Try.f12, Try.func12, by kernel_rfl, by kernel_rfl⟩
theorem isfn13 : IsFn Try.prog 13 := ⟨Try.f13, Try.func13, by kernel_rfl, by kernel_rfl⟩
theorem isfn14 : IsFn Try.prog 14 := ⟨Try.f14, Try.func14, by kernel_rfl, by kernel_rfl⟩
theorem isfn15 : IsFn Try.prog 15 := ⟨Try.f15, Try.func15, by kernel_rfl, by kernel_rfl⟩
theorem isfn16 : IsFn Try.prog 16 := ⟨Try.f16, Try.func16, by kernel_rfl, by kernel_rfl⟩
theorem isfn17 : IsFn Try.prog 17 := ⟨Try.f17, Try.func17, by kernel_rfl, by kernel_rfl⟩
theorem isfn18 : IsFn Try.prog 18 := ⟨Try.f18, Try.func18, by kernel_rfl, by kernel_rfl⟩
theorem isfn19 : IsFn Try.prog 19 := ⟨Try.f19, Try.func19, by kernel_rfl, by kernel_rfl⟩
theorem isfn20 : IsFn Try.prog 20 := ⟨Try.f20, Try.func20, by kernel_rfl, by kernel_rfl⟩
theorem isfn21 : IsFn Try.prog 21 := ⟨Try.f21, Try.func21, by kernel_rfl, by kernel_rfl⟩
theorem isfn22 : IsFn Try.prog 22 := ⟨Try.f22, Try.func22, by kernel_rfl, by kernel_rfl⟩
theorem isfn23 : IsFn Try.prog 23 := ⟨Try.f23, Try.func23, by kernel_rfl, by kernel_rfl⟩
theorem isfn24 : IsFn Try.prog 24 := ⟨Try.f24, Try.func24, by kernel_rfl, by kernel_rfl⟩
theorem isfn9 : IsFn Try.prog 9 := ⟨Try.f9, Try.func9, by kernel_rfl, by kernel_rfl⟩
theorem pl49 : placesT Try.prog 49 = some [(0, 1), (1, 1)] := by kernel_rfl
theorem pl54 : placesT Try.prog 54 = some [(0, 1), (1, 1)] := by kernel_rfl
theorem ti22 : tinfo Try.prog 22 = some (some (Value.slice (⟨none, 0, 0⟩ : Sv).a (⟨none, 0, 0⟩ : Sv).n (⟨none, 0, 0⟩ : Sv).c), 1, 24) := by kernel_rfl
theorem ti3 : tinfo Try.prog 3 = some (some (Value.int .i64 0), 1, 8) := by kernel_rfl
theorem ti33 : tinfo Try.prog 33 = some (some (Value.agg #[Value.int .i64 0, Value.int .i64 0]), 2, 16) := by kernel_rfl
theorem ti4 : tinfo Try.prog 4 = some (some (Value.bool false), 1, 1) := by kernel_rfl
theorem ti49 : tinfo Try.prog 49 = some (some (Value.agg #[Value.int .i64 0, Value.slice (⟨none, 0, 0⟩ : Sv).a (⟨none, 0, 0⟩ : Sv).n (⟨none, 0, 0⟩ : Sv).c]), 2, 32) := by kernel_rfl
theorem ti51 : tinfo Try.prog 51 = some (some (Value.slice (⟨none, 0, 0⟩ : Sv).a (⟨none, 0, 0⟩ : Sv).n (⟨none, 0, 0⟩ : Sv).c), 1, 24) := by kernel_rfl
theorem ti52 : tinfo Try.prog 52 = some (some (Value.slice (⟨none, 0, 0⟩ : Sv).a (⟨none, 0, 0⟩ : Sv).n (⟨none, 0, 0⟩ : Sv).c), 1, 24) := by kernel_rfl
theorem ti54 : tinfo Try.prog 54 = some (some (Value.agg #[Value.int .i64 0, Value.slice (⟨none, 0, 0⟩ : Sv).a (⟨none, 0, 0⟩ : Sv).n (⟨none, 0, 0⟩ : Sv).c]), 2, 32) := by kernel_rfl
end Go.Proofs.Ythpfblimfaefhaa
