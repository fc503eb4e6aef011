/- The printed functions are the program's. -/
import Derived.Test.YtdiekiajedmaeaaC36F
import Derived.Test.YtdiekiajedmaeaaChecked
import Derived.Test.YtdiekiajedmaeaaAbsSound
import Derived.KernelRfl
set_option linter.all false
namespace Go.Abs
open Go
open Go.Proofs
instance : Inhabited Glob := ⟨⟨fun g => none⟩⟩
instance : Lps := ⟨ZtP Try.prog⟩
theorem ok_Xq42 : Zo Try.prog 6 Xq42 := ⟨_, _, Try.func6, rfl, by kernel_rfl, by kernel_rfl, by kernel_rfl, ⟨by kernel_rfl, by kernel_rfl⟩, by kernel_rfl⟩
theorem ok_Xq32 : Zo Try.prog 7 Xq32 := ⟨_, _, Try.func7, rfl, by kernel_rfl, by kernel_rfl, by kernel_rfl, ⟨by kernel_rfl, by kernel_rfl⟩, by kernel_rfl⟩
theorem ok_Xq41 : Zo Try.prog 9 Xq41 := ⟨_, _, Try.func9, rfl, by kernel_rfl, by kernel_rfl, by kernel_rfl, ⟨by kernel_rfl, by kernel_rfl⟩, by kernel_rfl⟩
theorem ok_Xq64 : Zo Try.prog 10 Xq64 := ⟨_, _, Try.func10, rfl, by kernel_rfl, by kernel_rfl, by kernel_rfl, ⟨by kernel_rfl, by kernel_rfl⟩, by kernel_rfl⟩
theorem ok_Xq48 : Zo Try.prog 11 Xq48 := ⟨_, _, Try.func11, rfl, by kernel_rfl, by kernel_rfl, by kernel_rfl, ⟨by kernel_rfl, by kernel_rfl⟩, by kernel_rfl⟩
theorem ok_Xq45 : Zo Try.prog 12 Xq45 := ⟨_, _, Try.func12, rfl, by kernel_rfl, by kernel_rfl, by kernel_rfl, ⟨by kernel_rfl, by kernel_rfl⟩, by kernel_rfl⟩
theorem ok_Xq59 : Zo Try.prog 13 Xq59 := ⟨_, _, Try.func13, rfl, by kernel_rfl, by kernel_rfl, by kernel_rfl, ⟨by kernel_rfl, by kernel_rfl⟩, by kernel_rfl⟩
theorem ok_Xq57 : Zo Try.prog 14 Xq57 := ⟨_, _, Try.func14, rfl, by kernel_rfl, by kernel_rfl, by kernel_rfl, ⟨by kernel_rfl, by kernel_rfl⟩, by kernel_rfl⟩
theorem ok_Xq52 : Zo Try.prog 15 Xq52 := ⟨_, _, Try.func15, rfl, by kernel_rfl, by kernel_rfl, by kernel_rfl, ⟨by kernel_rfl, by kernel_rfl⟩, by kernel_rfl⟩
theorem ok_Xq65 : Zo Try.prog 17 Xq65 := ⟨_, _, Try.func17, rfl, by kernel_rfl, by kernel_rfl, by kernel_rfl, ⟨by kernel_rfl, by kernel_rfl⟩, by kernel_rfl⟩
theorem ok_Xq55 : Zo Try.prog 19 Xq55 := ⟨_, _, Try.func19, rfl, by kernel_rfl, by kernel_rfl, by kernel_rfl, ⟨by kernel_rfl, by kernel_rfl⟩, by kernel_rfl⟩
theorem ok_Xq62 : Zo Try.prog 21 Xq62 := ⟨_, _, Try.func21, rfl, by kernel_rfl, by kernel_rfl, by kernel_rfl, ⟨by kernel_rfl, by kernel_rfl⟩, by kernel_rfl⟩
theorem ok_Xq60 : Zo Try.prog 23 Xq60 := ⟨_, _, Try.func23, rfl, by kernel_rfl, by kernel_rfl, by kernel_rfl, ⟨by kernel_rfl, by kernel_rfl⟩, by kernel_rfl⟩
theorem ok_Xq47 : Zo Try.prog 25 Xq47 := ⟨_, _, Try.func25, rfl, by kernel_rfl, by kernel_rfl, by kernel_rfl, ⟨by kernel_rfl, by kernel_rfl⟩, by kernel_rfl⟩
theorem ok_Xq56 : Zo Try.prog 27 Xq56 := ⟨_, _, Try.func27, rfl, by kernel_rfl, by kernel_rfl, by kernel_rfl, ⟨by kernel_rfl, by kernel_rfl⟩, by kernel_rfl⟩
theorem ok_Xq28 : Zo Try.prog 28 Xq28 := ⟨_, _, Try.func28, rfl, by kernel_rfl, by kernel_rfl, by kernel_rfl, ⟨by kernel_rfl, by kernel_rfl⟩, by kernel_rfl⟩
theorem ok_Xq58 : Zo Try.prog 29 Xq58 := ⟨_, _, Try.func29, rfl, by kernel_rfl, by kernel_rfl, by kernel_rfl, ⟨by kernel_rfl, by kernel_rfl⟩, by kernel_rfl⟩
theorem ok_Xq29 : Zo Try.prog 30 Xq29 := ⟨_, _, Try.func30, rfl, by kernel_rfl, by kernel_rfl, by kernel_rfl, ⟨by kernel_rfl, by kernel_rfl⟩, by kernel_rfl⟩
theorem ok_Xq34 : Zo Try.prog 31 Xq34 := ⟨_, _, Try.func31, rfl, by kernel_rfl, by kernel_rfl, by kernel_rfl, ⟨by kernel_rfl, by kernel_rfl⟩, by kernel_rfl⟩
theorem ok_Xq10 : Zo Try.prog 32 Xq10 := ⟨_, _, Try.func32, rfl, by kernel_rfl, by kernel_rfl, by kernel_rfl, ⟨by kernel_rfl, by kernel_rfl⟩, by kernel_rfl⟩
theorem ok_Xq43 : Zo Try.prog 33 Xq43 := ⟨_, _, Try.func33, rfl, by kernel_rfl, by kernel_rfl, by kernel_rfl, ⟨by kernel_rfl, by kernel_rfl⟩, by kernel_rfl⟩
theorem ok_Xq61 : Zo Try.prog 35 Xq61 := ⟨_, _, Try.func35, rfl, by kernel_rfl, by kernel_rfl, by kernel_rfl, ⟨by kernel_rfl, by kernel_rfl⟩, by kernel_rfl⟩
theorem ok_Xq54 : Zo Try.prog 36 Xq54 := ⟨_, _, Try.func36, rfl, by kernel_rfl, by kernel_rfl, by kernel_rfl, ⟨by kernel_rfl, by kernel_rfl⟩, by kernel_rfl⟩
theorem ok_Xq50 : Zo Try.prog 39 Xq50 := ⟨_, _, Try.func39, rfl, by kernel_rfl, by kernel_rfl, by kernel_rfl, ⟨by kernel_rfl, by kernel_rfl⟩, by kernel_rfl⟩
theorem ok_Xq49 : Zo Try.prog 40 Xq49 := ⟨_, _, Try.func40, rfl, by kernel_rfl, by kernel_rfl, by kernel_rfl, ⟨by kernel_rfl, by kernel_rfl⟩, by kernel_rfl⟩
theorem ok_Xq66 : Zo Try.prog 41 Xq66 := ⟨_, _, Try.func41, rfl, by kernel_rfl, by kernel_rfl, by kernel_rfl, ⟨by kernel_rfl, by kernel_rfl⟩, by kernel_rfl⟩
theorem ok_Xq16 : Zo Try.prog 42 Xq16 := ⟨_, _, Try.func42, rfl, by kernel_rfl, by kernel_rfl, by kernel_rfl, ⟨by kernel_rfl, by kernel_rfl⟩, by kernel_rfl⟩
theorem ok_Xq46 : Zo Try.prog 43 Xq46 := ⟨_, _, Try.func43, rfl, by kernel_rfl, by kernel_rfl, by kernel_rfl, ⟨by kernel_rfl, by kernel_rfl⟩, by kernel_rfl⟩
theorem ok_Xq25 : Zo Try.prog 44 Xq25 := ⟨_, _, Try.func44, rfl, by kernel_rfl, by kernel_rfl, by kernel_rfl, ⟨by kernel_rfl, by kernel_rfl⟩, by kernel_rfl⟩
theorem ok_Xq27 : Zo Try.prog 45 Xq27 := ⟨_, _, Try.func45, rfl, by kernel_rfl, by kernel_rfl, by kernel_rfl, ⟨by kernel_rfl, by kernel_rfl⟩, by kernel_rfl⟩
theorem ok_Xq30 : Zo Try.prog 49 Xq30 := ⟨_, _, Try.func49, rfl, by kernel_rfl, by kernel_rfl, by kernel_rfl, ⟨by kernel_rfl, by kernel_rfl⟩, by kernel_rfl⟩
theorem ok_Xq44 : Zo Try.prog 50 Xq44 := ⟨_, _, Try.func50, rfl, by kernel_rfl, by kernel_rfl, by kernel_rfl, ⟨by kernel_rfl, by kernel_rfl⟩, by kernel_rfl⟩
theorem ok_Xq35 : Zo Try.prog 51 Xq35 := ⟨_, _, Try.func51, rfl, by kernel_rfl, by kernel_rfl, by kernel_rfl, ⟨by kernel_rfl, by kernel_rfl⟩, by kernel_rfl⟩
theorem ok_Xq33 : Zo Try.prog 52 Xq33 := ⟨_, _, Try.func52, rfl, by kernel_rfl, by kernel_rfl, by kernel_rfl, ⟨by kernel_rfl, by kernel_rfl⟩, by kernel_rfl⟩
theorem ok_Xq37 : Zo Try.prog 53 Xq37 := ⟨_, _, Try.func53, rfl, by kernel_rfl, by kernel_rfl, by kernel_rfl, ⟨by kernel_rfl, by kernel_rfl⟩, by kernel_rfl⟩
theorem ok_Xq39 : Zo Try.prog 54 Xq39 := ⟨_, _, Try.func54, rfl, by kernel_rfl, by kernel_rfl, by kernel_rfl, ⟨by kernel_rfl, by kernel_rfl⟩, by kernel_rfl⟩
theorem ok_Xq38 : Zo Try.prog 55 Xq38 := ⟨_, _, Try.func55, rfl, by kernel_rfl, by kernel_rfl, by kernel_rfl, ⟨by kernel_rfl, by kernel_rfl⟩, by kernel_rfl⟩
theorem ok_Xq36 : Zo Try.prog 56 Xq36 := ⟨_, _, Try.func56, rfl, by kernel_rfl, by kernel_rfl, by kernel_rfl, ⟨by kernel_rfl, by kernel_rfl⟩, by kernel_rfl⟩
theorem ok_Xq18 : Zo Try.prog 57 Xq18 := ⟨_, _, Try.func57, rfl, by kernel_rfl, by kernel_rfl, by kernel_rfl, ⟨by kernel_rfl, by kernel_rfl⟩, by kernel_rfl⟩
theorem ok_Xq19 : Zo Try.prog 58 Xq19 := ⟨_, _, Try.func58, rfl, by kernel_rfl, by kernel_rfl, by kernel_rfl, ⟨by kernel_rfl, by kernel_rfl⟩, by kernel_rfl⟩
theorem ok_Xq23 : Zo Try.prog 59 Xq23 := ⟨_, _, Try.func59, rfl, by kernel_rfl, by kernel_rfl, by kernel_rfl, ⟨by kernel_rfl, by kernel_rfl⟩, by kernel_rfl⟩
theorem ok_Xq20 : Zo Try.prog 60 Xq20 := ⟨_, _, Try.func60, rfl, by kernel_rfl, by kernel_rfl, by kernel_rfl, ⟨by kernel_rfl, by kernel_rfl⟩, by kernel_rfl⟩
theorem ok_Xq22 : Zo Try.prog 61 Xq22 := ⟨_, _, Try.func61, rfl, by kernel_rfl, by kernel_rfl, by kernel_rfl, ⟨by kernel_rfl, by kernel_rfl⟩, by kernel_rfl⟩
theorem ok_Xq24 : Zo Try.prog 62 Xq24 := ⟨_, _, Try.func62, rfl, by kernel_rfl, by kernel_rfl, by kernel_rfl, ⟨by kernel_rfl, by kernel_rfl⟩, by kernel_rfl⟩
theorem ok_Xq26 : Zo Try.prog 63 Xq26 := ⟨_, _, Try.func63, rfl, by kernel_rfl, by kernel_rfl, by kernel_rfl, ⟨by kernel_rfl, by kernel_rfl⟩, by kernel_rfl⟩
theorem ok_Xq11 : Zo Try.prog 64 Xq11 := ⟨_, _, Try.func64, rfl, by kernel_rfl, by kernel_rfl, by kernel_rfl, ⟨by kernel_rfl, by kernel_rfl⟩, by kernel_rfl⟩
theorem ok_Xq63 : Zo Try.prog 65 Xq63 := ⟨_, _, Try.func65, rfl, by kernel_rfl, by kernel_rfl, by kernel_rfl, ⟨by kernel_rfl, by kernel_rfl⟩, by kernel_rfl⟩
theorem ok_Xq15 : Zo Try.prog 66 Xq15 := ⟨_, _, Try.func66, rfl, by kernel_rfl, by kernel_rfl, by kernel_rfl, ⟨by kernel_rfl, by kernel_rfl⟩, by kernel_rfl⟩
theorem ok_Xq14 : Zo Try.prog 67 Xq14 := ⟨_, _, Try.func67, rfl, by kernel_rfl, by kernel_rfl, by kernel_rfl, ⟨by kernel_rfl, by kernel_rfl⟩, by kernel_rfl⟩
theorem ok_Xq4 : Zo Try.prog 68 Xq4 := ⟨_, _, Try.func68, rfl, by kernel_rfl, by kernel_rfl, by kernel_rfl, ⟨by kernel_rfl, by kernel_rfl⟩, by kernel_rfl⟩
theorem ok_Xq9 : Zo Try.prog 69 Xq9 := ⟨_, _, Try.func69, rfl, by kernel_rfl, by kernel_rfl, by kernel_rfl, ⟨by kernel_rfl, by kernel_rfl⟩, by kernel_rfl⟩
theorem ok_Xq3 : Zo Try.prog 70 Xq3 := ⟨_, _, Try.func70, rfl, by kernel_rfl, by kernel_rfl, by kernel_rfl, ⟨by kernel_rfl, by kernel_rfl⟩, by kernel_rfl⟩
theorem ok_Xq6 : Zo Try.prog 71 Xq6 := ⟨_, _, Try.func71, rfl, by kernel_rfl, by kernel_rfl, by kernel_rfl, ⟨by kernel_rfl, by kernel_rfl⟩, by kernel_rfl⟩
theorem ok_Xq5 : Zo Try.prog 72 Xq5 := ⟨_, _, Try.func72, rfl, by kernel_rfl, by kernel_rfl, by kernel_rfl, ⟨by kernel_rfl, by kernel_rfl⟩, by kernel_rfl⟩
theorem ok_Xq0 : Zo Try.prog 73 Xq0 := ⟨_, _, Try.func73, rfl, by kernel_rfl, by kernel_rfl, by kernel_rfl, ⟨by kernel_rfl, by kernel_rfl⟩, by kernel_rfl⟩
theorem ok_Xq40 : Zo Try.prog 74 Xq40 := ⟨_, _, Try.func74, rfl, by kernel_rfl, by kernel_rfl, by kernel_rfl, ⟨by kernel_rfl, by kernel_rfl⟩, by kernel_rfl⟩
theorem ok_Xq2 : Zo Try.prog 75 Xq2 := ⟨_, _, Try.func75, rfl, by kernel_rfl, by kernel_rfl, by kernel_rfl, ⟨by kernel_rfl, by kernel_rfl⟩, by kernel_rfl⟩
theorem ok_Xq7 : Zo Try.prog 76 Xq7 := ⟨_, _, Try.func76, rfl, by kernel_rfl, by kernel_rfl, by kernel_rfl, ⟨by kernel_rfl, by kernel_rfl⟩, by kernel_rfl⟩
theorem ok_Xq53 : Zo Try.prog 77 Xq53 := ⟨_, _, Try.func77, rfl, by kernel_rfl, by kernel_rfl, by kernel_rfl, ⟨by kernel_rfl, by kernel_rfl⟩, by kernel_rfl⟩
theorem ok_Xq51 : Zo Try.prog 78 Xq51 := ⟨_, _, Try.func78, rfl, by kernel_rfl, by kernel_rfl, by kernel_rfl, ⟨by kernel_rfl, by kernel_rfl⟩, by kernel_rfl⟩
theorem ok_Xq8 : Zo Try.prog 79 Xq8 := ⟨_, _, Try.func79, rfl, by kernel_rfl, by kernel_rfl, by kernel_rfl, ⟨by kernel_rfl, by kernel_rfl⟩, by kernel_rfl⟩
theorem ok_Xq17 : Zo Try.prog 80 Xq17 := ⟨_, _, Try.func80, rfl, by kernel_rfl, by kernel_rfl, by kernel_rfl, ⟨by kernel_rfl, by kernel_rfl⟩, by kernel_rfl⟩
theorem ok_Xq21 : Zo Try.prog 81 Xq21 := ⟨_, _, Try.func81, rfl, by kernel_rfl, by kernel_rfl, by kernel_rfl, ⟨by kernel_rfl, by kernel_rfl⟩, by kernel_rfl⟩
theorem ok_Xq1 : Zo Try.prog 82 Xq1 := ⟨_, _, Try.func82, rfl, by kernel_rfl, by kernel_rfl, by kernel_rfl, ⟨by kernel_rfl, by kernel_rfl⟩, by kernel_rfl⟩
theorem ok_Xq13 : Zo Try.prog 83 Xq13 := ⟨_, _, Try.func83, rfl, by kernel_rfl, by kernel_rfl, by kernel_rfl, ⟨by kernel_rfl, by kernel_rfl⟩, by kernel_rfl⟩
theorem ok_Xq31 : Zo Try.prog 84 Xq31 := ⟨_, _, Try.func84, rfl, by kernel_rfl, by kernel_rfl, by kernel_rfl, ⟨by kernel_rfl, by kernel_rfl⟩, by kernel_rfl⟩
theorem ok_Xq12 : Zo Try.prog 85 Xq12 := ⟨_, _, Try.func85, rfl, by kernel_rfl, by kernel_rfl, by kernel_rfl, ⟨by kernel_rfl, by kernel_rfl⟩, by kernel_rfl⟩
theorem T_ok : ∀ f af, T f = some af → Zo Try.prog f af := by
 intro f af h
 unfold T at h
 split at h
 ·cases h; exact ok_Xq42
 ·cases h; exact ok_Xq32
 ·cases h; exact ok_Xq41
 ·cases h; exact ok_Xq64
 ·cases h; exact ok_Xq48
 ·cases h; exact ok_Xq45
 ·cases h; exact ok_Xq59
 ·cases h; exact ok_Xq57
 ·cases h; exact ok_Xq52
 ·cases h; exact ok_Xq65
 ·cases h; exact ok_Xq55
 ·cases h; exact ok_Xq62
 ·cases h; exact ok_Xq60
 ·cases h; exact ok_Xq47
 ·cases h; exact ok_Xq56
 ·cases h; exact ok_Xq28
 ·cases h; exact ok_Xq58
 ·cases h; exact ok_Xq29
 ·cases h; exact ok_Xq34
 ·cases h; exact ok_Xq10
 ·cases h; exact ok_Xq43
 ·cases h; exact ok_Xq61
 ·cases h; exact ok_Xq54
 ·cases h; exact ok_Xq50
 ·cases h; exact ok_Xq49
 ·cases h; exact ok_Xq66
 ·cases h; exact ok_Xq16
 ·cases h; exact ok_Xq46
 ·cases h; exact ok_Xq25
 ·cases h; exact ok_Xq27
 ·cases h; exact ok_Xq30
 ·cases h; exact ok_Xq44
 ·cases h; exact ok_Xq35
 ·cases h; exact ok_Xq33
 ·cases h; exact ok_Xq37
 ·cases h; exact ok_Xq39
 ·cases h; exact ok_Xq38
 ·cases h; exact ok_Xq36
 ·cases h; exact ok_Xq18
 ·cases h; exact ok_Xq19
 ·cases h; exact ok_Xq23
 ·cases h; exact ok_Xq20
 ·cases h; exact ok_Xq22
 ·cases h; exact ok_Xq24
 ·cases h; exact ok_Xq26
 ·cases h; exact ok_Xq11
 ·cases h; exact ok_Xq63
 ·cases h; exact ok_Xq15
 ·cases h; exact ok_Xq14
 ·cases h; exact ok_Xq4
 ·cases h; exact ok_Xq9
 ·cases h; exact ok_Xq3
 ·cases h; exact ok_Xq6
 ·cases h; exact ok_Xq5
 ·cases h; exact ok_Xq0
 ·cases h; exact ok_Xq40
 ·cases h; exact ok_Xq2
 ·cases h; exact ok_Xq7
 ·cases h; exact ok_Xq53
 ·cases h; exact ok_Xq51
 ·cases h; exact ok_Xq8
 ·cases h; exact ok_Xq17
 ·cases h; exact ok_Xq21
 ·cases h; exact ok_Xq1
 ·cases h; exact ok_Xq13
 ·cases h; exact ok_Xq31
 ·cases h; exact ok_Xq12
 ·cases h
end Go.Abs
