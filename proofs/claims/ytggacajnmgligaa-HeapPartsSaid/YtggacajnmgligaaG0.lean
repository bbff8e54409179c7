/- Lifted by program off the elaborated code: each Go function, read as a proposition over typed variables and the heap. -/
import Derived.Test.YtggacajnmgligaaLiftQ
import Derived.Test.YtggacajnmgligaaProg
namespace Go.Proofs.Ytggacajnmgligaa
open Go Go.Lf
set_option linter.unusedVariables false
set_option maxRecDepth 100000

theorem ag28 : aggT Try.prog 28 = true := by kernel_rfl
theorem ag33 : aggT Try.prog 33 = true := by kernel_rfl
theorem ag80 : aggT Try.prog 80 = true := by kernel_rfl
theorem fa28_0 : fieldT Try.prog 28 0 = some 0 := by kernel_rfl
theorem fa28_1 : fieldT Try.prog 28 1 = some 1 := by kernel_rfl
theorem fa28_2 : fieldT Try.prog 28 2 = some 2 := by kernel_rfl
theorem fa33_0 : fieldT Try.prog 33 0 = some 0 := by kernel_rfl
theorem fa33_1 : fieldT Try.prog 33 1 = some 1 := by kernel_rfl
theorem fa33_2 : fieldT Try.prog 33 2 = some 2 := by kernel_rfl
theorem fa33_3 : fieldT Try.prog 33 3 = some 3 := by kernel_rfl
theorem fa33_4 : fieldT Try.prog 33 4 = some 4 := by kernel_rfl
theorem fa44_0 : fieldT Try.prog 44 0 = some 0 := by kernel_rfl
theorem fa44_1 : fieldT Try.prog 44 1 = some 1 := by kernel_rfl
theorem fa44_2 : fieldT Try.prog 44 2 = some 2 := by kernel_rfl
theorem fa44_3 : fieldT Try.prog 44 3 = some 3 := by kernel_rfl
theorem fa44_4 : fieldT Try.prog 44 4 = some 4 := by kernel_rfl
theorem fa49_0 : fieldT Try.prog 49 0 = some 0 := by kernel_rfl
theorem fa49_1 : fieldT Try.prog 49 1 = some 1 := by kernel_rfl
theorem fa49_2 : fieldT Try.prog 49 2 = some 2 := by kernel_rfl
theorem fa49_3 : fieldT Try.prog 49 3 = some 3 := by kernel_rfl
theorem fa74_0 : fieldT Try.prog 74 0 = some 0 := by kernel_rfl
theorem fa74_1 : fieldT Try.prog 74 1 = some 1 := by kernel_rfl
theorem fa74_2 : fieldT Try.prog 74 2 = some 2 := by kernel_rfl
theorem fa74_3 : fieldT Try.prog 74 3 = some 3 := by kernel_rfl
theorem fa74_4 : fieldT Try.prog 74 4 = some 4 := by kernel_rfl
theorem fa78_0 : fieldT Try.prog 78 0 = some 0 := by kernel_rfl
theorem fa78_1 : fieldT Try.prog 78 1 = some 1 := by kernel_rfl
theorem fa78_2 : fieldT Try.prog 78 2 = some 8 := by kernel_rfl
theorem fa80_0 : fieldT Try.prog 80 0 = some 0 := by kernel_rfl
theorem fa80_1 : fieldT Try.prog 80 1 = some 1 := by kernel_rfl
theorem fa80_2 : fieldT Try.prog 80 2 = some 2 := by kernel_rfl
theorem fl22 : flatT Try.prog 22 = true := by kernel_rfl
theorem fl26 : flatT Try.prog 26 = true := by kernel_rfl
theorem fl3 : flatT Try.prog 3 = true := by kernel_rfl
theorem fl31 : flatT Try.prog 31 = true := by kernel_rfl
theorem fl4 : flatT Try.prog 4 = true := by kernel_rfl
theorem fl69 : flatT Try.prog 69 = true := by kernel_rfl
theorem fl72 : flatT Try.prog 72 = true := by kernel_rfl
theorem fl75 : flatT Try.prog 75 = true := by kernel_rfl
theorem fl9 : flatT Try.prog 9 = true := by kernel_rfl
theorem isfn10 : IsFn Try.prog 10 := ⟨Try.f10, Try.func10, by kernel_rfl, by kernel_rfl⟩
theorem isfn11 : IsFn Try.prog 11 := ⟨Try.f11, Try.func11, by kernel_rfl, by kernel_rfl⟩
theorem isfn12 : IsFn Try.prog 12 := ⟨Try.f12, Try.func12, by kernel_rfl, by kernel_rfl⟩
theorem isfn13 : IsFn Try.prog 13 := ⟨Try.f13, Try.func13, by kernel_rfl, by kernel_rfl⟩
theorem isfn14 : IsFn Try.prog 14 := ⟨Try.f14, Try.func14, by kernel_rfl, by kernel_rfl⟩
theorem isfn15 : IsFn Try.prog 15 := ⟨Try.f15, Try.func15, by kernel_rfl, by kernel_rfl⟩
theorem isfn16 : IsFn Try.prog 16 := ⟨Try.f16, Try.func16, by kernel_rfl, by kernel_rfl⟩
theorem isfn17 : IsFn Try.prog 17 := ⟨Try.f17, Try.func17, by kernel_rfl, by kernel_rfl⟩
theorem isfn18 : IsFn Try.prog 18 := ⟨Try.f18, Try.func18, by kernel_rfl, by kernel_rfl⟩
theorem isfn22 : IsFn Try.prog 22 := ⟨Try.f22, Try.func22, by kernel_rfl, by kernel_rfl⟩
theorem isfn23 : IsFn Try.prog 23 := ⟨Try.f23, Try.func23, by kernel_rfl, by kernel_rfl⟩
theorem isfn24 : IsFn Try.prog 24 := ⟨Try.f24, Try.func24, by kernel_rfl, by kernel_rfl⟩
theorem isfn25 : IsFn Try.prog 25 := ⟨Try.f25, Try.func25, by kernel_rfl, by kernel_rfl⟩
theorem isfn26 : IsFn Try.prog 26 := ⟨Try.f26, Try.func26, by kernel_rfl, by kernel_rfl⟩
theorem isfn27 : IsFn Try.prog 27 := ⟨Try.f27, Try.func27, by kernel_rfl, by kernel_rfl⟩
theorem isfn28 : IsFn Try.prog 28 := ⟨Try.f28, Try.func28, by kernel_rfl, by kernel_rfl⟩
theorem isfn29 : IsFn Try.prog 29 := ⟨Try.f29, Try.func29, by kernel_rfl, by kernel_rfl⟩
theorem isfn30 : IsFn Try.prog 30 := ⟨Try.f30, Try.func30, by kernel_rfl, by kernel_rfl⟩
theorem isfn31 : IsFn Try.prog 31 := ⟨Try.f31, Try.func31, by kernel_rfl, by kernel_rfl⟩
theorem isfn32 : IsFn Try.prog 32 := ⟨Try.f32, Try.func32, by kernel_rfl, by kernel_rfl⟩
theorem isfn43 : IsFn Try.prog 43 := ⟨Try.f43, Try.func43, by kernel_rfl, by kernel_rfl⟩
theorem isfn44 : IsFn Try.prog 44 := ⟨Try.f44, Try.func44, by kernel_rfl, by kernel_rfl⟩
theorem isfn45 : IsFn Try.prog 45 := ⟨Try.f45, Try.func45, by kernel_rfl, by kernel_rfl⟩
theorem isfn47 : IsFn Try.prog 47 := ⟨Try.f47, Try.func47, by kernel_rfl, by kernel_rfl⟩
theorem isfn48 : IsFn Try.prog 48 := ⟨Try.f48, Try.func48, by kernel_rfl, by kernel_rfl⟩
theorem isfn49 : IsFn Try.prog 49 := ⟨Try.f49, Try.func49, by kernel_rfl, by kernel_rfl⟩
theorem isfn58 : IsFn Try.prog 58 := ⟨Try.f58, Try.func58, by kernel_rfl, by kernel_rfl⟩
theorem isfn59 : IsFn Try.prog 59 := ⟨Try.f59, Try.func59, by kernel_rfl, by kernel_rfl⟩
theorem isfn63 : IsFn Try.prog 63 := ⟨Try.f63, Try.func63, by kernel_rfl, by kernel_rfl⟩
theorem isfn8 : IsFn Try.prog 8 := ⟨Try.f8, Try.func8, by kernel_rfl, by kernel_rfl⟩
theorem isfn9 : IsFn Try.prog 9 := ⟨Try.f9, Try.func9, by kernel_rfl, by kernel_rfl⟩
theorem pl28 : placesT Try.prog 28 = some [(0, 1), (1, 1), (2, 1)] := by kernel_rfl
theorem pl33 : placesT Try.prog 33 = some [(0, 1), (1, 1), (2, 1), (3, 1), (4, 3)] := by kernel_rfl
theorem pl74 : placesT Try.prog 74 = some [(0, 1), (1, 1), (2, 1), (3, 1), (4, 1)] := by kernel_rfl
theorem pl78 : placesT Try.prog 78 = some [(0, 1), (1, 7), (8, 1)] := by kernel_rfl
theorem pl80 : placesT Try.prog 80 = some [(0, 1), (1, 1), (2, 1)] := by kernel_rfl
theorem ti26 : tinfo Try.prog 26 = some (some (Value.slice (⟨none, 0, 0⟩ : Sv).a (⟨none, 0, 0⟩ : Sv).n (⟨none, 0, 0⟩ : Sv).c), 1, 24) := by kernel_rfl
theorem ti28 : tinfo Try.prog 28 = some (some (Value.agg #[Value.int .i64 0, Value.slice (⟨none, 0, 0⟩ : Sv).a (⟨none, 0, 0⟩ : Sv).n (⟨none, 0, 0⟩ : Sv).c, Value.int .i64 0]), 3, 40) := by kernel_rfl
theorem ti3 : tinfo Try.prog 3 = some (some (Value.int .i64 0), 1, 8) := by kernel_rfl
theorem ti31 : tinfo Try.prog 31 = some (some (Value.slice (⟨none, 0, 0⟩ : Sv).a (⟨none, 0, 0⟩ : Sv).n (⟨none, 0, 0⟩ : Sv).c), 1, 24) := by kernel_rfl
theorem ti33 : tinfo Try.prog 33 = some (some (Value.agg #[Value.int .i64 0, Value.int .u64 0, Value.string (⟨#[]⟩ : ByteArray), Value.slice (⟨none, 0, 0⟩ : Sv).a (⟨none, 0, 0⟩ : Sv).n (⟨none, 0, 0⟩ : Sv).c, Value.int .i64 0, Value.slice (⟨none, 0, 0⟩ : Sv).a (⟨none, 0, 0⟩ : Sv).n (⟨none, 0, 0⟩ : Sv).c, Value.int .i64 0]), 7, 96) := by kernel_rfl
theorem ti4 : tinfo Try.prog 4 = some (some (Value.bool false), 1, 1) := by kernel_rfl
theorem ti69 : tinfo Try.prog 69 = some (some (Value.slice (⟨none, 0, 0⟩ : Sv).a (⟨none, 0, 0⟩ : Sv).n (⟨none, 0, 0⟩ : Sv).c), 1, 24) := by kernel_rfl
theorem ti72 : tinfo Try.prog 72 = some (some (Value.slice (⟨none, 0, 0⟩ : Sv).a (⟨none, 0, 0⟩ : Sv).n (⟨none, 0, 0⟩ : Sv).c), 1, 24) := by kernel_rfl
theorem ti74 : tinfo Try.prog 74 = some (some (Value.agg #[Value.slice (⟨none, 0, 0⟩ : Sv).a (⟨none, 0, 0⟩ : Sv).n (⟨none, 0, 0⟩ : Sv).c, Value.int .i64 0, Value.int .i64 0, Value.int .i64 0, Value.bool false]), 5, 56) := by kernel_rfl
theorem ti75 : tinfo Try.prog 75 = some (some (Value.pointer none), 1, 8) := by kernel_rfl
theorem ti78 : tinfo Try.prog 78 = some (some (Value.agg #[Value.bool false, Value.int .i64 0, Value.int .u64 0, Value.string (⟨#[]⟩ : ByteArray), Value.slice (⟨none, 0, 0⟩ : Sv).a (⟨none, 0, 0⟩ : Sv).n (⟨none, 0, 0⟩ : Sv).c, Value.int .i64 0, Value.slice (⟨none, 0, 0⟩ : Sv).a (⟨none, 0, 0⟩ : Sv).n (⟨none, 0, 0⟩ : Sv).c, Value.int .i64 0, Value.slice (⟨none, 0, 0⟩ : Sv).a (⟨none, 0, 0⟩ : Sv).n (⟨none, 0, 0⟩ : Sv).c]), 9, 128) := by kernel_rfl
theorem ti80 : tinfo Try.prog 80 = some (some (Value.agg #[Value.int .i64 0, Value.slice (⟨none, 0, 0⟩ : Sv).a (⟨none, 0, 0⟩ : Sv).n (⟨none, 0, 0⟩ : Sv).c, Value.bool false]), 3, 40) := by kernel_rfl
end Go.Proofs.Ytggacajnmgligaa
