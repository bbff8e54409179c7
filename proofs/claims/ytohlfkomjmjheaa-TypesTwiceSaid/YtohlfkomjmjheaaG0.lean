/- Lifted by program off the elaborated code: each Go function, read as a proposition over typed variables and the heap. -/
import Derived.Test.YtohlfkomjmjheaaLiftQ
import Derived.Test.YtohlfkomjmjheaaLiftK
import Derived.Test.YtohlfkomjmjheaaProg
namespace Go.Proofs.Ytohlfkomjmjheaa
open Go Go.Lf
set_option linter.unusedVariables false
set_option maxRecDepth 100000

theorem ag25 : aggT Try.prog 25 = true := by kernel_rfl
theorem ag46 : aggT Try.prog 46 = true := by kernel_rfl
theorem fa25_0 : fieldT Try.prog 25 0 = some 0 := by kernel_rfl
theorem fa25_1 : fieldT Try.prog 25 1 = some 1 := by kernel_rfl
theorem fa25_2 : fieldT Try.prog 25 2 = some 2 := by kernel_rfl
theorem fa25_3 : fieldT Try.prog 25 3 = some 3 := by kernel_rfl
theorem fa25_4 : fieldT Try.prog 25 4 = some 4 := by kernel_rfl
theorem fa25_5 : fieldT Try.prog 25 5 = some 5 := by kernel_rfl
theorem fl22 : flatT Try.prog 22 = true := by kernel_rfl
theorem fl23 : flatT Try.prog 23 = true := by kernel_rfl
theorem fl3 : flatT Try.prog 3 = true := by kernel_rfl
theorem fl4 : flatT Try.prog 4 = true := by kernel_rfl
theorem fl9 : flatT Try.prog 9 = true := by kernel_rfl
theorem isfn10 : IsFn Try.prog 10 := ⟨Try.f10, Try.func10, by kernel_rfl, by kernel_rfl⟩
theorem isfn11 : IsFn Try.prog 11 := ⟨Try.f11, Try.func11, by kernel_rfl, by kernel_rfl⟩
theorem isfn12 : IsFn Try.prog 12 := ⟨Try.f12, Try.func12, by kernel_rfl, by kernel_rfl⟩
theorem isfn13 : IsFn Try.prog 13 := ⟨Try.f13, Try.func13, by kernel_rfl, by kernel_rfl⟩
theorem isfn14 : IsFn Try.prog 14 := ⟨Try.f14, Try.func14, by kernel_rfl, by kernel_rfl⟩
theorem isfn16 : IsFn Try.prog 16 := ⟨Try.f16, Try.func16, by kernel_rfl, by kernel_rfl⟩
theorem isfn17 : IsFn Try.prog 17 := ⟨Try.f17, Try.func17, by kernel_rfl, by kernel_rfl⟩
theorem isfn18 : IsFn Try.prog 18 := ⟨Try.f18, Try.func18, by kernel_rfl, by kernel_rfl⟩
theorem isfn19 : IsFn Try.prog 19 := ⟨Try.f19, Try.func19, by kernel_rfl, by kernel_rfl⟩
theorem isfn20 : IsFn Try.prog 20 := ⟨Try.f20, Try.func20, by kernel_rfl, by kernel_rfl⟩
theorem isfn21 : IsFn Try.prog 21 := ⟨Try.f21, Try.func21, by kernel_rfl, by kernel_rfl⟩
theorem isfn22 : IsFn Try.prog 22 := ⟨Try.f22, Try.func22, by kernel_rfl, by kernel_rfl⟩
theorem isfn23 : IsFn Try.prog 23 := ⟨Try.f23, Try.func23, by kernel_rfl, by kernel_rfl⟩
theorem isfn24 : IsFn Try.prog 24 := ⟨Try.f24, Try.func24, by kernel_rfl, by kernel_rfl⟩
theorem isfn25 : IsFn Try.prog 25 := ⟨Try.f25, Try.func25, by kernel_rfl, by kernel_rfl⟩
theorem isfn26 : IsFn Try.prog 26 := ⟨Try.f26, Try.func26, by kernel_rfl, by kernel_rfl⟩
theorem isfn27 : IsFn Try.prog 27 := ⟨Try.f27, Try.func27, by kernel_rfl, by kernel_rfl⟩
theorem isfn28 : IsFn Try.prog 28 := ⟨Try.f28, Try.func28, by kernel_rfl, by kernel_rfl⟩
theorem isfn29 : IsFn Try.prog 29 := ⟨Try.f29, Try.func29, by kernel_rfl, by kernel_rfl⟩
theorem isfn30 : IsFn Try.prog 30 := ⟨Try.f30, Try.func30, by kernel_rfl, by kernel_rfl⟩
theorem isfn31 : IsFn Try.prog 31 := ⟨Try.f31, Try.func31, by kernel_rfl, by kernel_rfl⟩
theorem isfn32 : IsFn Try.prog 32 := ⟨Try.f32, Try.func32, by kernel_rfl, by kernel_rfl⟩
theorem isfn33 : IsFn Try.prog 33 := ⟨Try.f33, Try.func33, by kernel_rfl, by kernel_rfl⟩
theorem isfn34 : IsFn Try.prog 34 := ⟨Try.f34, Try.func34, by kernel_rfl, by kernel_rfl⟩
theorem isfn35 : IsFn Try.prog 35 := ⟨Try.f35, Try.func35, by kernel_rfl, by kernel_rfl⟩
theorem isfn36 : IsFn Try.prog 36 := ⟨Try.f36, Try.func36, by kernel_rfl, by kernel_rfl⟩
theorem isfn38 : IsFn Try.prog 38 := ⟨Try.f38, Try.func38, by kernel_rfl, by kernel_rfl⟩
theorem isfn40 : IsFn Try.prog 40 := ⟨Try.f40, Try.func40, by kernel_rfl, by kernel_rfl⟩
theorem isfn41 : IsFn Try.prog 41 := ⟨Try.f41, Try.func41, by kernel_rfl, by kernel_rfl⟩
theorem isfn42 : IsFn Try.prog 42 := ⟨Try.f42, Try.func42, by kernel_rfl, by kernel_rfl⟩
theorem isfn43 : IsFn Try.prog 43 := ⟨Try.f43, Try.func43, by kernel_rfl, by kernel_rfl⟩
theorem isfn44 : IsFn Try.prog 44 := ⟨Try.f44, Try.func44, by kernel_rfl, by kernel_rfl⟩
theorem isfn45 : IsFn Try.prog 45 := ⟨Try.f45, Try.func45, by kernel_rfl, by kernel_rfl⟩
theorem isfn8 : IsFn Try.prog 8 := ⟨Try.f8, Try.func8, by kernel_rfl, by kernel_rfl⟩
theorem isfn9 : IsFn Try.prog 9 := ⟨Try.f9, Try.func9, by kernel_rfl, by kernel_rfl⟩
theorem pl25 : placesT Try.prog 25 = some [(0, 1), (1, 1), (2, 1), (3, 1), (4, 1), (5, 1)] := by kernel_rfl
theorem ti22 : tinfo Try.prog 22 = some (some (Value.slice (⟨none, 0, 0⟩ : Sv).a (⟨none, 0, 0⟩ : Sv).n (⟨none, 0, 0⟩ : Sv).c), 1, 24) := by kernel_rfl
theorem ti23 : tinfo Try.prog 23 = some (some (Value.slice (⟨none, 0, 0⟩ : Sv).a (⟨none, 0, 0⟩ : Sv).n (⟨none, 0, 0⟩ : Sv).c), 1, 24) := by kernel_rfl
theorem ti25 : tinfo Try.prog 25 = some (some (Value.agg #[Value.int .i64 0, Value.string (⟨#[]⟩ : ByteArray), Value.bool false, Value.int .i64 0, Value.slice (⟨none, 0, 0⟩ : Sv).a (⟨none, 0, 0⟩ : Sv).n (⟨none, 0, 0⟩ : Sv).c, Value.slice (⟨none, 0, 0⟩ : Sv).a (⟨none, 0, 0⟩ : Sv).n (⟨none, 0, 0⟩ : Sv).c]), 6, 88) := by kernel_rfl
theorem ti26 : tinfo Try.prog 26 = some (some (Value.slice (⟨none, 0, 0⟩ : Sv).a (⟨none, 0, 0⟩ : Sv).n (⟨none, 0, 0⟩ : Sv).c), 1, 24) := by kernel_rfl
theorem ti3 : tinfo Try.prog 3 = some (some (Value.int .i64 0), 1, 8) := by kernel_rfl
theorem ti46 : tinfo Try.prog 46 = some (some (Value.agg #[Value.int .i64 0, Value.int .i64 0]), 2, 16) := by kernel_rfl
theorem ti5 : tinfo Try.prog 5 = some (some (Value.int .u8 0), 1, 1) := by kernel_rfl
theorem ti62 : tinfo Try.prog 62 = some (some (Value.agg #[Value.int .u8 0, Value.int .u8 0, Value.int .u8 0, Value.int .u8 0, Value.int .u8 0, Value.int .u8 0, Value.int .u8 0, Value.int .u8 0, Value.int .u8 0, Value.int .u8 0, Value.int .u8 0, Value.int .u8 0, Value.int .u8 0, Value.int .u8 0, Value.int .u8 0, Value.int .u8 0, Value.int .u8 0, Value.int .u8 0, Value.int .u8 0, Value.int .u8 0]), 20, 20) := by kernel_rfl
theorem ti9 : tinfo Try.prog 9 = some (some (Value.string (⟨#[]⟩ : ByteArray)), 1, 16) := by kernel_rfl
end Go.Proofs.Ytohlfkomjmjheaa
