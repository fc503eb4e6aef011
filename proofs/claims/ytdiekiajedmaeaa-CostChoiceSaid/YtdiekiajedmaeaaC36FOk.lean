/- The printed functions are the program's. -/
import Derived.Test.YtdiekiajedmaeaaC36F
import Derived.Test.YtdiekiajedmaeaaChecked
import Derived.Test.YtdiekiajedmaeaaAbsSound
import Derived.KernelRfl
set_option linter.all false
namespace Go.Abs
open Go
open Go.Proofs
instance : Inhabited Glob := ⟨⟨fun g => none⟩⟩
instance : Lps := ⟨LpIs Try.prog⟩
theorem ok_Xq38 : FuncOk Try.prog 6 Xq38 := ⟨_, _, Try.func6, rfl, by kernel_rfl, by kernel_rfl, by kernel_rfl, ⟨by kernel_rfl, by kernel_rfl⟩, by kernel_rfl⟩
theorem ok_Xq30 : FuncOk Try.prog 8 Xq30 := ⟨_, _, Try.func8, rfl, by kernel_rfl, by kernel_rfl, by kernel_rfl, ⟨by kernel_rfl, by kernel_rfl⟩, by kernel_rfl⟩
theorem ok_Xq36 : FuncOk Try.prog 9 Xq36 := ⟨_, _, Try.func9, rfl, by kernel_rfl, by kernel_rfl, by kernel_rfl, ⟨by kernel_rfl, by kernel_rfl⟩, by kernel_rfl⟩
theorem ok_Xq64 : FuncOk Try.prog 10 Xq64 := ⟨_, _, Try.func10, rfl, by kernel_rfl, by kernel_rfl, by kernel_rfl, ⟨by kernel_rfl, by kernel_rfl⟩, by kernel_rfl⟩
theorem ok_Xq52 : FuncOk Try.prog 11 Xq52 := ⟨_, _, Try.func11, rfl, by kernel_rfl, by kernel_rfl, by kernel_rfl, ⟨by kernel_rfl, by kernel_rfl⟩, by kernel_rfl⟩
theorem ok_Xq48 : FuncOk Try.prog 12 Xq48 := ⟨_, _, Try.func12, rfl, by kernel_rfl, by kernel_rfl, by kernel_rfl, ⟨by kernel_rfl, by kernel_rfl⟩, by kernel_rfl⟩
theorem ok_Xq60 : FuncOk Try.prog 13 Xq60 := ⟨_, _, Try.func13, rfl, by kernel_rfl, by kernel_rfl, by kernel_rfl, ⟨by kernel_rfl, by kernel_rfl⟩, by kernel_rfl⟩
theorem ok_Xq56 : FuncOk Try.prog 14 Xq56 := ⟨_, _, Try.func14, rfl, by kernel_rfl, by kernel_rfl, by kernel_rfl, ⟨by kernel_rfl, by kernel_rfl⟩, by kernel_rfl⟩
theorem ok_Xq51 : FuncOk Try.prog 15 Xq51 := ⟨_, _, Try.func15, rfl, by kernel_rfl, by kernel_rfl, by kernel_rfl, ⟨by kernel_rfl, by kernel_rfl⟩, by kernel_rfl⟩
theorem ok_Xq65 : FuncOk Try.prog 17 Xq65 := ⟨_, _, Try.func17, rfl, by kernel_rfl, by kernel_rfl, by kernel_rfl, ⟨by kernel_rfl, by kernel_rfl⟩, by kernel_rfl⟩
theorem ok_Xq57 : FuncOk Try.prog 19 Xq57 := ⟨_, _, Try.func19, rfl, by kernel_rfl, by kernel_rfl, by kernel_rfl, ⟨by kernel_rfl, by kernel_rfl⟩, by kernel_rfl⟩
theorem ok_Xq58 : FuncOk Try.prog 21 Xq58 := ⟨_, _, Try.func21, rfl, by kernel_rfl, by kernel_rfl, by kernel_rfl, ⟨by kernel_rfl, by kernel_rfl⟩, by kernel_rfl⟩
theorem ok_Xq61 : FuncOk Try.prog 23 Xq61 := ⟨_, _, Try.func23, rfl, by kernel_rfl, by kernel_rfl, by kernel_rfl, ⟨by kernel_rfl, by kernel_rfl⟩, by kernel_rfl⟩
theorem ok_Xq45 : FuncOk Try.prog 25 Xq45 := ⟨_, _, Try.func25, rfl, by kernel_rfl, by kernel_rfl, by kernel_rfl, ⟨by kernel_rfl, by kernel_rfl⟩, by kernel_rfl⟩
theorem ok_Xq59 : FuncOk Try.prog 27 Xq59 := ⟨_, _, Try.func27, rfl, by kernel_rfl, by kernel_rfl, by kernel_rfl, ⟨by kernel_rfl, by kernel_rfl⟩, by kernel_rfl⟩
theorem ok_Xq28 : FuncOk Try.prog 28 Xq28 := ⟨_, _, Try.func28, rfl, by kernel_rfl, by kernel_rfl, by kernel_rfl, ⟨by kernel_rfl, by kernel_rfl⟩, by kernel_rfl⟩
theorem ok_Xq55 : FuncOk Try.prog 29 Xq55 := ⟨_, _, Try.func29, rfl, by kernel_rfl, by kernel_rfl, by kernel_rfl, ⟨by kernel_rfl, by kernel_rfl⟩, by kernel_rfl⟩
theorem ok_Xq31 : FuncOk Try.prog 30 Xq31 := ⟨_, _, Try.func30, rfl, by kernel_rfl, by kernel_rfl, by kernel_rfl, ⟨by kernel_rfl, by kernel_rfl⟩, by kernel_rfl⟩
theorem ok_Xq42 : FuncOk Try.prog 31 Xq42 := ⟨_, _, Try.func31, rfl, by kernel_rfl, by kernel_rfl, by kernel_rfl, ⟨by kernel_rfl, by kernel_rfl⟩, by kernel_rfl⟩
theorem ok_Xq10 : FuncOk Try.prog 32 Xq10 := ⟨_, _, Try.func32, rfl, by kernel_rfl, by kernel_rfl, by kernel_rfl, ⟨by kernel_rfl, by kernel_rfl⟩, by kernel_rfl⟩
theorem ok_Xq44 : FuncOk Try.prog 33 Xq44 := ⟨_, _, Try.func33, rfl, by kernel_rfl, by kernel_rfl, by kernel_rfl, ⟨by kernel_rfl, by kernel_rfl⟩, by kernel_rfl⟩
theorem ok_Xq62 : FuncOk Try.prog 35 Xq62 := ⟨_, _, Try.func35, rfl, by kernel_rfl, by kernel_rfl, by kernel_rfl, ⟨by kernel_rfl, by kernel_rfl⟩, by kernel_rfl⟩
theorem ok_Xq47 : FuncOk Try.prog 36 Xq47 := ⟨_, _, Try.func36, rfl, by kernel_rfl, by kernel_rfl, by kernel_rfl, ⟨by kernel_rfl, by kernel_rfl⟩, by kernel_rfl⟩
theorem ok_Xq53 : FuncOk Try.prog 39 Xq53 := ⟨_, _, Try.func39, rfl, by kernel_rfl, by kernel_rfl, by kernel_rfl, ⟨by kernel_rfl, by kernel_rfl⟩, by kernel_rfl⟩
theorem ok_Xq46 : FuncOk Try.prog 40 Xq46 := ⟨_, _, Try.func40, rfl, by kernel_rfl, by kernel_rfl, by kernel_rfl, ⟨by kernel_rfl, by kernel_rfl⟩, by kernel_rfl⟩
theorem ok_Xq66 : FuncOk Try.prog 41 Xq66 := ⟨_, _, Try.func41, rfl, by kernel_rfl, by kernel_rfl, by kernel_rfl, ⟨by kernel_rfl, by kernel_rfl⟩, by kernel_rfl⟩
theorem ok_Xq16 : FuncOk Try.prog 42 Xq16 := ⟨_, _, Try.func42, rfl, by kernel_rfl, by kernel_rfl, by kernel_rfl, ⟨by kernel_rfl, by kernel_rfl⟩, by kernel_rfl⟩
theorem ok_Xq49 : FuncOk Try.prog 43 Xq49 := ⟨_, _, Try.func43, rfl, by kernel_rfl, by kernel_rfl, by kernel_rfl, ⟨by kernel_rfl, by kernel_rfl⟩, by kernel_rfl⟩
theorem ok_Xq26 : FuncOk Try.prog 44 Xq26 := ⟨_, _, Try.func44, rfl, by kernel_rfl, by kernel_rfl, by kernel_rfl, ⟨by kernel_rfl, by kernel_rfl⟩, by kernel_rfl⟩
theorem ok_Xq27 : FuncOk Try.prog 45 Xq27 := ⟨_, _, Try.func45, rfl, by kernel_rfl, by kernel_rfl, by kernel_rfl, ⟨by kernel_rfl, by kernel_rfl⟩, by kernel_rfl⟩
theorem ok_Xq29 : FuncOk Try.prog 49 Xq29 := ⟨_, _, Try.func49, rfl, by kernel_rfl, by kernel_rfl, by kernel_rfl, ⟨by kernel_rfl, by kernel_rfl⟩, by kernel_rfl⟩
theorem ok_Xq43 : FuncOk Try.prog 50 Xq43 := ⟨_, _, Try.func50, rfl, by kernel_rfl, by kernel_rfl, by kernel_rfl, ⟨by kernel_rfl, by kernel_rfl⟩, by kernel_rfl⟩
theorem ok_Xq33 : FuncOk Try.prog 51 Xq33 := ⟨_, _, Try.func51, rfl, by kernel_rfl, by kernel_rfl, by kernel_rfl, ⟨by kernel_rfl, by kernel_rfl⟩, by kernel_rfl⟩
theorem ok_Xq39 : FuncOk Try.prog 52 Xq39 := ⟨_, _, Try.func52, rfl, by kernel_rfl, by kernel_rfl, by kernel_rfl, ⟨by kernel_rfl, by kernel_rfl⟩, by kernel_rfl⟩
theorem ok_Xq41 : FuncOk Try.prog 53 Xq41 := ⟨_, _, Try.func53, rfl, by kernel_rfl, by kernel_rfl, by kernel_rfl, ⟨by kernel_rfl, by kernel_rfl⟩, by kernel_rfl⟩
theorem ok_Xq35 : FuncOk Try.prog 54 Xq35 := ⟨_, _, Try.func54, rfl, by kernel_rfl, by kernel_rfl, by kernel_rfl, ⟨by kernel_rfl, by kernel_rfl⟩, by kernel_rfl⟩
theorem ok_Xq40 : FuncOk Try.prog 55 Xq40 := ⟨_, _, Try.func55, rfl, by kernel_rfl, by kernel_rfl, by kernel_rfl, ⟨by kernel_rfl, by kernel_rfl⟩, by kernel_rfl⟩
theorem ok_Xq37 : FuncOk Try.prog 56 Xq37 := ⟨_, _, Try.func56, rfl, by kernel_rfl, by kernel_rfl, by kernel_rfl, ⟨by kernel_rfl, by kernel_rfl⟩, by kernel_rfl⟩
theorem ok_Xq19 : FuncOk Try.prog 57 Xq19 := ⟨_, _, Try.func57, rfl, by kernel_rfl, by kernel_rfl, by kernel_rfl, ⟨by kernel_rfl, by kernel_rfl⟩, by kernel_rfl⟩
theorem ok_Xq17 : FuncOk Try.prog 58 Xq17 := ⟨_, _, Try.func58, rfl, by kernel_rfl, by kernel_rfl, by kernel_rfl, ⟨by kernel_rfl, by kernel_rfl⟩, by kernel_rfl⟩
theorem ok_Xq23 : FuncOk Try.prog 59 Xq23 := ⟨_, _, Try.func59, rfl, by kernel_rfl, by kernel_rfl, by kernel_rfl, ⟨by kernel_rfl, by kernel_rfl⟩, by kernel_rfl⟩
theorem ok_Xq21 : FuncOk Try.prog 60 Xq21 := ⟨_, _, Try.func60, rfl, by kernel_rfl, by kernel_rfl, by kernel_rfl, ⟨by kernel_rfl, by kernel_rfl⟩, by kernel_rfl⟩
theorem ok_Xq22 : FuncOk Try.prog 61 Xq22 := ⟨_, _, Try.func61, rfl, by kernel_rfl, by kernel_rfl, by kernel_rfl, ⟨by kernel_rfl, by kernel_rfl⟩, by kernel_rfl⟩
theorem ok_Xq24 : FuncOk Try.prog 62 Xq24 := ⟨_, _, Try.func62, rfl, by kernel_rfl, by kernel_rfl, by kernel_rfl, ⟨by kernel_rfl, by kernel_rfl⟩, by kernel_rfl⟩
theorem ok_Xq25 : FuncOk Try.prog 63 Xq25 := ⟨_, _, Try.func63, rfl, by kernel_rfl, by kernel_rfl, by kernel_rfl, ⟨by kernel_rfl, by kernel_rfl⟩, by kernel_rfl⟩
theorem ok_Xq11 : FuncOk Try.prog 64 Xq11 := ⟨_, _, Try.func64, rfl, by kernel_rfl, by kernel_rfl, by kernel_rfl, ⟨by kernel_rfl, by kernel_rfl⟩, by kernel_rfl⟩
theorem ok_Xq63 : FuncOk Try.prog 65 Xq63 := ⟨_, _, Try.func65, rfl, by kernel_rfl, by kernel_rfl, by kernel_rfl, ⟨by kernel_rfl, by kernel_rfl⟩, by kernel_rfl⟩
theorem ok_Xq15 : FuncOk Try.prog 66 Xq15 := ⟨_, _, Try.func66, rfl, by kernel_rfl, by kernel_rfl, by kernel_rfl, ⟨by kernel_rfl, by kernel_rfl⟩, by kernel_rfl⟩
theorem ok_Xq14 : FuncOk Try.prog 67 Xq14 := ⟨_, _, Try.func67, rfl, by kernel_rfl, by kernel_rfl, by kernel_rfl, ⟨by kernel_rfl, by kernel_rfl⟩, by kernel_rfl⟩
theorem ok_Xq3 : FuncOk Try.prog 68 Xq3 := ⟨_, _, Try.func68, rfl, by kernel_rfl, by kernel_rfl, by kernel_rfl, ⟨by kernel_rfl, by kernel_rfl⟩, by kernel_rfl⟩
theorem ok_Xq9 : FuncOk Try.prog 69 Xq9 := ⟨_, _, Try.func69, rfl, by kernel_rfl, by kernel_rfl, by kernel_rfl, ⟨by kernel_rfl, by kernel_rfl⟩, by kernel_rfl⟩
theorem ok_Xq4 : FuncOk Try.prog 70 Xq4 := ⟨_, _, Try.func70, rfl, by kernel_rfl, by kernel_rfl, by kernel_rfl, ⟨by kernel_rfl, by kernel_rfl⟩, by kernel_rfl⟩
theorem ok_Xq6 : FuncOk Try.prog 71 Xq6 := ⟨_, _, Try.func71, rfl, by kernel_rfl, by kernel_rfl, by kernel_rfl, ⟨by kernel_rfl, by kernel_rfl⟩, by kernel_rfl⟩
theorem ok_Xq5 : FuncOk Try.prog 72 Xq5 := ⟨_, _, Try.func72, rfl, by kernel_rfl, by kernel_rfl, by kernel_rfl, ⟨by kernel_rfl, by kernel_rfl⟩, by kernel_rfl⟩
theorem ok_Xq0 : FuncOk Try.prog 73 Xq0 := ⟨_, _, Try.func73, rfl, by kernel_rfl, by kernel_rfl, by kernel_rfl, ⟨by kernel_rfl, by kernel_rfl⟩, by kernel_rfl⟩
theorem ok_Xq34 : FuncOk Try.prog 74 Xq34 := ⟨_, _, Try.func74, rfl, by kernel_rfl, by kernel_rfl, by kernel_rfl, ⟨by kernel_rfl, by kernel_rfl⟩, by kernel_rfl⟩
theorem ok_Xq2 : FuncOk Try.prog 75 Xq2 := ⟨_, _, Try.func75, rfl, by kernel_rfl, by kernel_rfl, by kernel_rfl, ⟨by kernel_rfl, by kernel_rfl⟩, by kernel_rfl⟩
theorem ok_Xq7 : FuncOk Try.prog 76 Xq7 := ⟨_, _, Try.func76, rfl, by kernel_rfl, by kernel_rfl, by kernel_rfl, ⟨by kernel_rfl, by kernel_rfl⟩, by kernel_rfl⟩
theorem ok_Xq50 : FuncOk Try.prog 77 Xq50 := ⟨_, _, Try.func77, rfl, by kernel_rfl, by kernel_rfl, by kernel_rfl, ⟨by kernel_rfl, by kernel_rfl⟩, by kernel_rfl⟩
theorem ok_Xq54 : FuncOk Try.prog 78 Xq54 := ⟨_, _, Try.func78, rfl, by kernel_rfl, by kernel_rfl, by kernel_rfl, ⟨by kernel_rfl, by kernel_rfl⟩, by kernel_rfl⟩
theorem ok_Xq8 : FuncOk Try.prog 79 Xq8 := ⟨_, _, Try.func79, rfl, by kernel_rfl, by kernel_rfl, by kernel_rfl, ⟨by kernel_rfl, by kernel_rfl⟩, by kernel_rfl⟩
theorem ok_Xq18 : FuncOk Try.prog 80 Xq18 := ⟨_, _, Try.func80, rfl, by kernel_rfl, by kernel_rfl, by kernel_rfl, ⟨by kernel_rfl, by kernel_rfl⟩, by kernel_rfl⟩
theorem ok_Xq20 : FuncOk Try.prog 81 Xq20 := ⟨_, _, Try.func81, rfl, by kernel_rfl, by kernel_rfl, by kernel_rfl, ⟨by kernel_rfl, by kernel_rfl⟩, by kernel_rfl⟩
theorem ok_Xq1 : FuncOk Try.prog 82 Xq1 := ⟨_, _, Try.func82, rfl, by kernel_rfl, by kernel_rfl, by kernel_rfl, ⟨by kernel_rfl, by kernel_rfl⟩, by kernel_rfl⟩
theorem ok_Xq12 : FuncOk Try.prog 83 Xq12 := ⟨_, _, Try.func83, rfl, by kernel_rfl, by kernel_rfl, by kernel_rfl, ⟨by kernel_rfl, by kernel_rfl⟩, by kernel_rfl⟩
theorem ok_Xq32 : FuncOk Try.prog 84 Xq32 := ⟨_, _, Try.func84, rfl, by kernel_rfl, by kernel_rfl, by kernel_rfl, ⟨by kernel_rfl, by kernel_rfl⟩, by kernel_rfl⟩
theorem ok_Xq13 : FuncOk Try.prog 85 Xq13 := ⟨_, _, Try.func85, rfl, by kernel_rfl, by kernel_rfl, by kernel_rfl, ⟨by kernel_rfl, by kernel_rfl⟩, by kernel_rfl⟩
theorem T_ok : ∀ f af, T f = some af → FuncOk Try.prog f af := by
 intro f af h
 unfold T at h
 split at h
 ·cases h; exact ok_Xq38
 ·cases h; exact ok_Xq30
 ·cases h; exact ok_Xq36
 ·cases h; exact ok_Xq64
 ·cases h; exact ok_Xq52
 ·cases h; exact ok_Xq48
 ·cases h; exact ok_Xq60
 ·cases h; exact ok_Xq56
 ·cases h; exact ok_Xq51
 ·cases h; exact ok_Xq65
 ·cases h; exact ok_Xq57
 ·cases h; exact ok_Xq58
 ·cases h; exact ok_Xq61
 ·cases h; exact ok_Xq45
 ·cases h; exact ok_Xq59
 ·cases h; exact ok_Xq28
 ·cases h; exact ok_Xq55
 ·cases h; exact ok_Xq31
 ·cases h; exact ok_Xq42
 ·cases h; exact ok_Xq10
 ·cases h; exact ok_Xq44
 ·cases h; exact ok_Xq62
 ·cases h; exact ok_Xq47
 ·cases h; exact ok_Xq53
 ·cases h; exact ok_Xq46
 ·cases h; exact ok_Xq66
 ·cases h; exact ok_Xq16
 ·cases h; exact ok_Xq49
 ·cases h; exact ok_Xq26
 ·cases h; exact ok_Xq27
 ·cases h; exact ok_Xq29
 ·cases h; exact ok_Xq43
 ·cases h; exact ok_Xq33
 ·cases h; exact ok_Xq39
 ·cases h; exact ok_Xq41
 ·cases h; exact ok_Xq35
 ·cases h; exact ok_Xq40
 ·cases h; exact ok_Xq37
 ·cases h; exact ok_Xq19
 ·cases h; exact ok_Xq17
 ·cases h; exact ok_Xq23
 ·cases h; exact ok_Xq21
 ·cases h; exact ok_Xq22
 ·cases h; exact ok_Xq24
 ·cases h; exact ok_Xq25
 ·cases h; exact ok_Xq11
 ·cases h; exact ok_Xq63
 ·cases h; exact ok_Xq15
 ·cases h; exact ok_Xq14
 ·cases h; exact ok_Xq3
 ·cases h; exact ok_Xq9
 ·cases h; exact ok_Xq4
 ·cases h; exact ok_Xq6
 ·cases h; exact ok_Xq5
 ·cases h; exact ok_Xq0
 ·cases h; exact ok_Xq34
 ·cases h; exact ok_Xq2
 ·cases h; exact ok_Xq7
 ·cases h; exact ok_Xq50
 ·cases h; exact ok_Xq54
 ·cases h; exact ok_Xq8
 ·cases h; exact ok_Xq18
 ·cases h; exact ok_Xq20
 ·cases h; exact ok_Xq1
 ·cases h; exact ok_Xq12
 ·cases h; exact ok_Xq32
 ·cases h; exact ok_Xq13
 ·cases h
end Go.Abs
