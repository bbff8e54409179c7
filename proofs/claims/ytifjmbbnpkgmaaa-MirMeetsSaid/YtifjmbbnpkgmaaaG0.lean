/- Lifted by program off the elaborated code: each Go function, read as a proposition over typed variables and the heap. -/
import Derived.Test.YtifjmbbnpkgmaaaLiftQ
import Derived.Test.YtifjmbbnpkgmaaaLiftK
import Derived.Test.YtifjmbbnpkgmaaaProg
namespace Go.Proofs.Ytifjmbbnpkgmaaa
open Go Go.Lf
set_option linter.unusedVariables false
set_option maxRecDepth 100000

theorem ag24 : aggT Try.prog 24 = true := by kernel_rfl
theorem ag33 : aggT Try.prog 33 = true := by kernel_rfl
theorem ag49 : aggT Try.prog 49 = true := by kernel_rfl
theorem ag53 : aggT Try.prog 53 = true := by kernel_rfl
theorem ag56 : aggT Try.prog 56 = true := by kernel_rfl
theorem ag59 : aggT Try.prog 59 = true := by kernel_rfl
theorem ag61 : aggT Try.prog 61 = true := by kernel_rfl
theorem ag67 : aggT Try.prog 67 = true := by kernel_rfl
theorem fa24_0 : fieldT Try.prog 24 0 = some 0 := by kernel_rfl
theorem fa24_1 : fieldT Try.prog 24 1 = some 1 := by kernel_rfl
theorem fa26_0 : fieldT Try.prog 26 0 = some 0 := by kernel_rfl
theorem fa26_1 : fieldT Try.prog 26 1 = some 2 := by kernel_rfl
theorem fa26_2 : fieldT Try.prog 26 2 = some 4 := by kernel_rfl
theorem fa26_3 : fieldT Try.prog 26 3 = some 5 := by kernel_rfl
theorem fa33_0 : fieldT Try.prog 33 0 = some 0 := by kernel_rfl
theorem fa33_1 : fieldT Try.prog 33 1 = some 1 := by kernel_rfl
theorem fa33_2 : fieldT Try.prog 33 2 = some 2 := by kernel_rfl
theorem fa33_3 : fieldT Try.prog 33 3 = some 3 := by kernel_rfl
theorem fa49_0 : fieldT Try.prog 49 0 = some 0 := by kernel_rfl
theorem fa49_1 : fieldT Try.prog 49 1 = some 1 := by kernel_rfl
theorem fa49_2 : fieldT Try.prog 49 2 = some 2 := by kernel_rfl
theorem fa49_3 : fieldT Try.prog 49 3 = some 3 := by kernel_rfl
theorem fa49_4 : fieldT Try.prog 49 4 = some 4 := by kernel_rfl
theorem fa49_5 : fieldT Try.prog 49 5 = some 5 := by kernel_rfl
theorem fa53_0 : fieldT Try.prog 53 0 = some 0 := by kernel_rfl
theorem fa53_1 : fieldT Try.prog 53 1 = some 1 := by kernel_rfl
theorem fa56_0 : fieldT Try.prog 56 0 = some 0 := by kernel_rfl
theorem fa56_1 : fieldT Try.prog 56 1 = some 1 := by kernel_rfl
theorem fa56_2 : fieldT Try.prog 56 2 = some 2 := by kernel_rfl
theorem fa56_3 : fieldT Try.prog 56 3 = some 4 := by kernel_rfl
theorem fa56_4 : fieldT Try.prog 56 4 = some 5 := by kernel_rfl
theorem fa56_5 : fieldT Try.prog 56 5 = some 6 := by kernel_rfl
theorem fa56_6 : fieldT Try.prog 56 6 = some 7 := by kernel_rfl
theorem fa59_0 : fieldT Try.prog 59 0 = some 0 := by kernel_rfl
theorem fa59_1 : fieldT Try.prog 59 1 = some 1 := by kernel_rfl
theorem fa59_2 : fieldT Try.prog 59 2 = some 3 := by kernel_rfl
theorem fa59_3 : fieldT Try.prog 59 3 = some 4 := by kernel_rfl
theorem fa61_0 : fieldT Try.prog 61 0 = some 0 := by kernel_rfl
theorem fa61_1 : fieldT Try.prog 61 1 = some 1 := by kernel_rfl
theorem fa61_2 : fieldT Try.prog 61 2 = some 2 := by kernel_rfl
theorem fa61_3 : fieldT Try.prog 61 3 = some 4 := by kernel_rfl
theorem fa61_4 : fieldT Try.prog 61 4 = some 12 := by kernel_rfl
theorem fa61_5 : fieldT Try.prog 61 5 = some 17 := by kernel_rfl
theorem fa61_6 : fieldT Try.prog 61 6 = some 18 := by kernel_rfl
theorem fl22 : flatT Try.prog 22 = true := by kernel_rfl
theorem fl3 : flatT Try.prog 3 = true := by kernel_rfl
theorem fl30 : flatT Try.prog 30 = true := by kernel_rfl
theorem fl31 : flatT Try.prog 31 = true := by kernel_rfl
theorem fl37 : flatT Try.prog 37 = true := by kernel_rfl
theorem fl4 : flatT Try.prog 4 = true := by kernel_rfl
theorem fl47 : flatT Try.prog 47 = true := by kernel_rfl
theorem fl54 : flatT Try.prog 54 = true := by kernel_rfl
theorem fl57 : flatT Try.prog 57 = true := by kernel_rfl
theorem fl9 : flatT Try.prog 9 = true := by kernel_rfl
theorem isfn10 : IsFn Try.prog 10 := ⟨Try.f10, Try.func10, by kernel_rfl, by kernel_rfl⟩
theorem isfn11 : IsFn Try.prog 11 := ⟨Try.f11, Try.func11, by kernel_rfl, by kernel_rfl⟩
theorem isfn12 : IsFn Try.prog 12 := ⟨Try.f12, Try.func12, by kernel_rfl, by kernel_rfl⟩
theorem isfn13 : IsFn Try.prog 13 := ⟨Try.f13, Try.func13, by kernel_rfl, by kernel_rfl⟩
theorem isfn14 : IsFn Try.prog 14 := ⟨Try.f14, Try.func14, by kernel_rfl, by kernel_rfl⟩
theorem isfn15 : IsFn Try.prog 15 := ⟨Try.f15, Try.func15, by kernel_rfl, by kernel_rfl⟩
theorem isfn16 : IsFn Try.prog 16 := ⟨Try.f16, Try.func16, by kernel_rfl, by kernel_rfl⟩
theorem isfn17 : IsFn Try.prog 17 := ⟨Try.f17, Try.func17, by kernel_rfl, by kernel_rfl⟩
theorem isfn18 : IsFn Try.prog 18 := ⟨Try.f18, Try.func18, by kernel_rfl, by kernel_rfl⟩
theorem isfn19 : IsFn Try.prog 19 := ⟨Try.f19, Try.func19, by kernel_rfl, by kernel_rfl⟩
theorem isfn20 : IsFn Try.prog 20 := ⟨Try.f20, Try.func20, by kernel_rfl, by kernel_rfl⟩
theorem isfn21 : IsFn Try.prog 21 := ⟨Try.f21, Try.func21, by kernel_rfl, by kernel_rfl⟩
theorem isfn22 : IsFn Try.prog 22 := ⟨Try.f22, Try.func22, by kernel_rfl, by kernel_rfl⟩
theorem isfn23 : IsFn Try.prog 23 := ⟨Try.f23, Try.func23, by kernel_rfl, by kernel_rfl⟩
theorem isfn24 : IsFn Try.prog 24 := ⟨Try.f24, Try.func24, by kernel_rfl, by kernel_rfl⟩
theorem isfn26 : IsFn Try.prog 26 := ⟨Try.f26, Try.func26, by kernel_rfl, by kernel_rfl⟩
theorem isfn27 : IsFn Try.prog 27 := ⟨Try.f27, Try.func27, by kernel_rfl, by kernel_rfl⟩
theorem isfn28 : IsFn Try.prog 28 := ⟨Try.f28, Try.func28, by kernel_rfl, by kernel_rfl⟩
theorem isfn29 : IsFn Try.prog 29 := ⟨Try.f29, Try.func29, by kernel_rfl, by kernel_rfl⟩
theorem isfn30 : IsFn Try.prog 30 := ⟨Try.f30, Try.func30, by kernel_rfl, by kernel_rfl⟩
theorem isfn31 : IsFn Try.prog 31 := ⟨Try.f31, Try.func31, by kernel_rfl, by kernel_rfl⟩
theorem isfn32 : IsFn Try.prog 32 := ⟨Try.f32, Try.func32, by kernel_rfl, by kernel_rfl⟩
theorem isfn33 : IsFn Try.prog 33 := ⟨Try.f33, Try.func33, by kernel_rfl, by kernel_rfl⟩
theorem isfn34 : IsFn Try.prog 34 := ⟨Try.f34, Try.func34, by kernel_rfl, by kernel_rfl⟩
theorem isfn35 : IsFn Try.prog 35 := ⟨Try.f35, Try.func35, by kernel_rfl, by kernel_rfl⟩
theorem isfn36 : IsFn Try.prog 36 := ⟨Try.f36, Try.func36, by kernel_rfl, by kernel_rfl⟩
theorem isfn37 : IsFn Try.prog 37 := ⟨Try.f37, Try.func37, by kernel_rfl, by kernel_rfl⟩
theorem isfn38 : IsFn Try.prog 38 := ⟨Try.f38, Try.func38, by kernel_rfl, by kernel_rfl⟩
theorem isfn39 : IsFn Try.prog 39 := ⟨Try.f39, Try.func39, by kernel_rfl, by kernel_rfl⟩
theorem isfn40 : IsFn Try.prog 40 := ⟨Try.f40, Try.func40, by kernel_rfl, by kernel_rfl⟩
theorem isfn41 : IsFn Try.prog 41 := ⟨Try.f41, Try.func41, by kernel_rfl, by kernel_rfl⟩
theorem isfn43 : IsFn Try.prog 43 := ⟨Try.f43, Try.func43, by kernel_rfl, by kernel_rfl⟩
theorem isfn44 : IsFn Try.prog 44 := ⟨Try.f44, Try.func44, by kernel_rfl, by kernel_rfl⟩
theorem isfn46 : IsFn Try.prog 46 := ⟨Try.f46, Try.func46, by kernel_rfl, by kernel_rfl⟩
theorem isfn47 : IsFn Try.prog 47 := ⟨Try.f47, Try.func47, by kernel_rfl, by kernel_rfl⟩
theorem isfn48 : IsFn Try.prog 48 := ⟨Try.f48, Try.func48, by kernel_rfl, by kernel_rfl⟩
theorem isfn49 : IsFn Try.prog 49 := ⟨Try.f49, Try.func49, by kernel_rfl, by kernel_rfl⟩
theorem isfn7 : IsFn Try.prog 7 := ⟨Try.f7, Try.func7, by kernel_rfl, by kernel_rfl⟩
theorem isfn8 : IsFn Try.prog 8 := ⟨Try.f8, Try.func8, by kernel_rfl, by kernel_rfl⟩
theorem isfn9 : IsFn Try.prog 9 := ⟨Try.f9, Try.func9, by kernel_rfl, by kernel_rfl⟩
theorem pl24 : placesT Try.prog 24 = some [(0, 1), (1, 1)] := by kernel_rfl
theorem pl33 : placesT Try.prog 33 = some [(0, 1), (1, 1), (2, 1), (3, 1)] := by kernel_rfl
theorem pl53 : placesT Try.prog 53 = some [(0, 1), (1, 6), (7, 2)] := by kernel_rfl
theorem pl56 : placesT Try.prog 56 = some [(0, 1), (1, 1), (2, 2), (4, 1), (5, 1), (6, 1), (7, 1)] := by kernel_rfl
theorem pl61 : placesT Try.prog 61 = some [(0, 1), (1, 1), (2, 2), (4, 8), (12, 5), (17, 1), (18, 1), (19, 2)] := by kernel_rfl
theorem pl67 : placesT Try.prog 67 = some [(0, 2), (2, 1)] := by kernel_rfl
theorem ti22 : tinfo Try.prog 22 = some (some (Value.slice (⟨none, 0, 0⟩ : Sv).a (⟨none, 0, 0⟩ : Sv).n (⟨none, 0, 0⟩ : Sv).c), 1, 24) := by kernel_rfl
theorem ti24 : tinfo Try.prog 24 = some (some (Value.agg #[Value.int .i64 0, Value.slice (⟨none, 0, 0⟩ : Sv).a (⟨none, 0, 0⟩ : Sv).n (⟨none, 0, 0⟩ : Sv).c]), 2, 32) := by kernel_rfl
theorem ti3 : tinfo Try.prog 3 = some (some (Value.int .i64 0), 1, 8) := by kernel_rfl
theorem ti33 : tinfo Try.prog 33 = some (some (Value.agg #[Value.string (⟨#[]⟩ : ByteArray), Value.int .i64 0, Value.slice (⟨none, 0, 0⟩ : Sv).a (⟨none, 0, 0⟩ : Sv).n (⟨none, 0, 0⟩ : Sv).c, Value.slice (⟨none, 0, 0⟩ : Sv).a (⟨none, 0, 0⟩ : Sv).n (⟨none, 0, 0⟩ : Sv).c]), 4, 72) := by kernel_rfl
theorem ti4 : tinfo Try.prog 4 = some (some (Value.bool false), 1, 1) := by kernel_rfl
theorem ti49 : tinfo Try.prog 49 = some (some (Value.agg #[Value.int .i64 0, Value.string (⟨#[]⟩ : ByteArray), Value.bool false, Value.int .i64 0, Value.slice (⟨none, 0, 0⟩ : Sv).a (⟨none, 0, 0⟩ : Sv).n (⟨none, 0, 0⟩ : Sv).c, Value.slice (⟨none, 0, 0⟩ : Sv).a (⟨none, 0, 0⟩ : Sv).n (⟨none, 0, 0⟩ : Sv).c]), 6, 88) := by kernel_rfl
theorem ti5 : tinfo Try.prog 5 = some (some (Value.int .u8 0), 1, 1) := by kernel_rfl
theorem ti53 : tinfo Try.prog 53 = some (some (Value.agg #[Value.string (⟨#[]⟩ : ByteArray), Value.int .i64 0, Value.string (⟨#[]⟩ : ByteArray), Value.bool false, Value.int .i64 0, Value.slice (⟨none, 0, 0⟩ : Sv).a (⟨none, 0, 0⟩ : Sv).n (⟨none, 0, 0⟩ : Sv).c, Value.slice (⟨none, 0, 0⟩ : Sv).a (⟨none, 0, 0⟩ : Sv).n (⟨none, 0, 0⟩ : Sv).c, Value.int .i64 0, Value.int .i64 0]), 9, 120) := by kernel_rfl
theorem ti56 : tinfo Try.prog 56 = some (some (Value.agg #[Value.int .i64 0, Value.slice (⟨none, 0, 0⟩ : Sv).a (⟨none, 0, 0⟩ : Sv).n (⟨none, 0, 0⟩ : Sv).c, Value.int .i64 0, Value.slice (⟨none, 0, 0⟩ : Sv).a (⟨none, 0, 0⟩ : Sv).n (⟨none, 0, 0⟩ : Sv).c, Value.bool false, Value.string (⟨#[]⟩ : ByteArray), Value.int .i64 0, Value.slice (⟨none, 0, 0⟩ : Sv).a (⟨none, 0, 0⟩ : Sv).n (⟨none, 0, 0⟩ : Sv).c]), 8, 120) := by kernel_rfl
theorem ti59 : tinfo Try.prog 59 = some (some (Value.agg #[Value.int .i64 0, Value.int .i64 0, Value.slice (⟨none, 0, 0⟩ : Sv).a (⟨none, 0, 0⟩ : Sv).n (⟨none, 0, 0⟩ : Sv).c, Value.int .i64 0, Value.int .u64 0]), 5, 56) := by kernel_rfl
theorem ti61 : tinfo Try.prog 61 = some (some (Value.agg #[Value.int .i64 0, Value.int .i64 0, Value.int .i64 0, Value.slice (⟨none, 0, 0⟩ : Sv).a (⟨none, 0, 0⟩ : Sv).n (⟨none, 0, 0⟩ : Sv).c, Value.int .i64 0, Value.slice (⟨none, 0, 0⟩ : Sv).a (⟨none, 0, 0⟩ : Sv).n (⟨none, 0, 0⟩ : Sv).c, Value.int .i64 0, Value.slice (⟨none, 0, 0⟩ : Sv).a (⟨none, 0, 0⟩ : Sv).n (⟨none, 0, 0⟩ : Sv).c, Value.bool false, Value.string (⟨#[]⟩ : ByteArray), Value.int .i64 0, Value.slice (⟨none, 0, 0⟩ : Sv).a (⟨none, 0, 0⟩ : Sv).n (⟨none, 0, 0⟩ : Sv).c, Value.int .i64 0, Value.int .i64 0, Value.slice (⟨none, 0, 0⟩ : Sv).a (⟨none, 0, 0⟩ : Sv).n (⟨none, 0, 0⟩ : Sv).c, Value.int .i64 0, Value.int .u64 0, Value.int .i64 0, Value.int .i64 0, Value.int .i64 0, Value.int .i64 0]), 21, 256) := by kernel_rfl
theorem ti67 : tinfo Try.prog 67 = some (some (Value.agg #[Value.int .i64 0, Value.slice (⟨none, 0, 0⟩ : Sv).a (⟨none, 0, 0⟩ : Sv).n (⟨none, 0, 0⟩ : Sv).c, Value.int .i64 0]), 3, 40) := by kernel_rfl
theorem ti89 : tinfo Try.prog 89 = some (some (Value.agg #[Value.int .u8 0, Value.int .u8 0, Value.int .u8 0, Value.int .u8 0, Value.int .u8 0, Value.int .u8 0, Value.int .u8 0, Value.int .u8 0, Value.int .u8 0, Value.int .u8 0, Value.int .u8 0, Value.int .u8 0, Value.int .u8 0, Value.int .u8 0, Value.int .u8 0, Value.int .u8 0, Value.int .u8 0, Value.int .u8 0, Value.int .u8 0, Value.int .u8 0]), 20, 20) := by kernel_rfl
end Go.Proofs.Ytifjmbbnpkgmaaa
