/- The printed functions are the program's. -/
import Derived.Test.YtdiekiajedmaeaaC36F
import Derived.Test.YtdiekiajedmaeaaChecked
import Derived.Test.YtdiekiajedmaeaaAbsSound
import Derived.KernelRfl
set_option linter.all false
namespace Go.Abs
open Go
open Go.Proofs
instance : Inhabited Glob := ⟨⟨fun g => none⟩⟩
instance : Lps := ⟨LpIs Try.prog⟩
theorem ok_X36 : FuncOk Try.prog 6 X36 := ⟨_, _, Try.func6, rfl, by kernel_rfl, by kernel_rfl, by kernel_rfl, ⟨by kernel_rfl, by kernel_rfl⟩, by kernel_rfl⟩
theorem ok_X37 : FuncOk Try.prog 9 X37 := ⟨_, _, Try.func9, rfl, by kernel_rfl, by kernel_rfl, by kernel_rfl, ⟨by kernel_rfl, by kernel_rfl⟩, by kernel_rfl⟩
theorem ok_X65 : FuncOk Try.prog 10 X65 := ⟨_, _, Try.func10, rfl, by kernel_rfl, by kernel_rfl, by kernel_rfl, ⟨by kernel_rfl, by kernel_rfl⟩, by kernel_rfl⟩
theorem ok_X45 : FuncOk Try.prog 11 X45 := ⟨_, _, Try.func11, rfl, by kernel_rfl, by kernel_rfl, by kernel_rfl, ⟨by kernel_rfl, by kernel_rfl⟩, by kernel_rfl⟩
theorem ok_X48 : FuncOk Try.prog 12 X48 := ⟨_, _, Try.func12, rfl, by kernel_rfl, by kernel_rfl, by kernel_rfl, ⟨by kernel_rfl, by kernel_rfl⟩, by kernel_rfl⟩
theorem ok_X58 : FuncOk Try.prog 13 X58 := ⟨_, _, Try.func13, rfl, by kernel_rfl, by kernel_rfl, by kernel_rfl, ⟨by kernel_rfl, by kernel_rfl⟩, by kernel_rfl⟩
theorem ok_X55 : FuncOk Try.prog 14 X55 := ⟨_, _, Try.func14, rfl, by kernel_rfl, by kernel_rfl, by kernel_rfl, ⟨by kernel_rfl, by kernel_rfl⟩, by kernel_rfl⟩
theorem ok_X47 : FuncOk Try.prog 15 X47 := ⟨_, _, Try.func15, rfl, by kernel_rfl, by kernel_rfl, by kernel_rfl, ⟨by kernel_rfl, by kernel_rfl⟩, by kernel_rfl⟩
theorem ok_X63 : FuncOk Try.prog 17 X63 := ⟨_, _, Try.func17, rfl, by kernel_rfl, by kernel_rfl, by kernel_rfl, ⟨by kernel_rfl, by kernel_rfl⟩, by kernel_rfl⟩
theorem ok_X56 : FuncOk Try.prog 19 X56 := ⟨_, _, Try.func19, rfl, by kernel_rfl, by kernel_rfl, by kernel_rfl, ⟨by kernel_rfl, by kernel_rfl⟩, by kernel_rfl⟩
theorem ok_X54 : FuncOk Try.prog 21 X54 := ⟨_, _, Try.func21, rfl, by kernel_rfl, by kernel_rfl, by kernel_rfl, ⟨by kernel_rfl, by kernel_rfl⟩, by kernel_rfl⟩
theorem ok_X57 : FuncOk Try.prog 23 X57 := ⟨_, _, Try.func23, rfl, by kernel_rfl, by kernel_rfl, by kernel_rfl, ⟨by kernel_rfl, by kernel_rfl⟩, by kernel_rfl⟩
theorem ok_X50 : FuncOk Try.prog 25 X50 := ⟨_, _, Try.func25, rfl, by kernel_rfl, by kernel_rfl, by kernel_rfl, ⟨by kernel_rfl, by kernel_rfl⟩, by kernel_rfl⟩
theorem ok_X61 : FuncOk Try.prog 27 X61 := ⟨_, _, Try.func27, rfl, by kernel_rfl, by kernel_rfl, by kernel_rfl, ⟨by kernel_rfl, by kernel_rfl⟩, by kernel_rfl⟩
theorem ok_X29 : FuncOk Try.prog 28 X29 := ⟨_, _, Try.func28, rfl, by kernel_rfl, by kernel_rfl, by kernel_rfl, ⟨by kernel_rfl, by kernel_rfl⟩, by kernel_rfl⟩
theorem ok_X60 : FuncOk Try.prog 29 X60 := ⟨_, _, Try.func29, rfl, by kernel_rfl, by kernel_rfl, by kernel_rfl, ⟨by kernel_rfl, by kernel_rfl⟩, by kernel_rfl⟩
theorem ok_X30 : FuncOk Try.prog 30 X30 := ⟨_, _, Try.func30, rfl, by kernel_rfl, by kernel_rfl, by kernel_rfl, ⟨by kernel_rfl, by kernel_rfl⟩, by kernel_rfl⟩
theorem ok_X32 : FuncOk Try.prog 31 X32 := ⟨_, _, Try.func31, rfl, by kernel_rfl, by kernel_rfl, by kernel_rfl, ⟨by kernel_rfl, by kernel_rfl⟩, by kernel_rfl⟩
theorem ok_X11 : FuncOk Try.prog 32 X11 := ⟨_, _, Try.func32, rfl, by kernel_rfl, by kernel_rfl, by kernel_rfl, ⟨by kernel_rfl, by kernel_rfl⟩, by kernel_rfl⟩
theorem ok_X43 : FuncOk Try.prog 33 X43 := ⟨_, _, Try.func33, rfl, by kernel_rfl, by kernel_rfl, by kernel_rfl, ⟨by kernel_rfl, by kernel_rfl⟩, by kernel_rfl⟩
theorem ok_X59 : FuncOk Try.prog 35 X59 := ⟨_, _, Try.func35, rfl, by kernel_rfl, by kernel_rfl, by kernel_rfl, ⟨by kernel_rfl, by kernel_rfl⟩, by kernel_rfl⟩
theorem ok_X53 : FuncOk Try.prog 36 X53 := ⟨_, _, Try.func36, rfl, by kernel_rfl, by kernel_rfl, by kernel_rfl, ⟨by kernel_rfl, by kernel_rfl⟩, by kernel_rfl⟩
theorem ok_X52 : FuncOk Try.prog 39 X52 := ⟨_, _, Try.func39, rfl, by kernel_rfl, by kernel_rfl, by kernel_rfl, ⟨by kernel_rfl, by kernel_rfl⟩, by kernel_rfl⟩
theorem ok_X46 : FuncOk Try.prog 40 X46 := ⟨_, _, Try.func40, rfl, by kernel_rfl, by kernel_rfl, by kernel_rfl, ⟨by kernel_rfl, by kernel_rfl⟩, by kernel_rfl⟩
theorem ok_X62 : FuncOk Try.prog 41 X62 := ⟨_, _, Try.func41, rfl, by kernel_rfl, by kernel_rfl, by kernel_rfl, ⟨by kernel_rfl, by kernel_rfl⟩, by kernel_rfl⟩
theorem ok_X16 : FuncOk Try.prog 42 X16 := ⟨_, _, Try.func42, rfl, by kernel_rfl, by kernel_rfl, by kernel_rfl, ⟨by kernel_rfl, by kernel_rfl⟩, by kernel_rfl⟩
theorem ok_X44 : FuncOk Try.prog 43 X44 := ⟨_, _, Try.func43, rfl, by kernel_rfl, by kernel_rfl, by kernel_rfl, ⟨by kernel_rfl, by kernel_rfl⟩, by kernel_rfl⟩
theorem ok_X26 : FuncOk Try.prog 44 X26 := ⟨_, _, Try.func44, rfl, by kernel_rfl, by kernel_rfl, by kernel_rfl, ⟨by kernel_rfl, by kernel_rfl⟩, by kernel_rfl⟩
theorem ok_X27 : FuncOk Try.prog 45 X27 := ⟨_, _, Try.func45, rfl, by kernel_rfl, by kernel_rfl, by kernel_rfl, ⟨by kernel_rfl, by kernel_rfl⟩, by kernel_rfl⟩
theorem ok_X28 : FuncOk Try.prog 49 X28 := ⟨_, _, Try.func49, rfl, by kernel_rfl, by kernel_rfl, by kernel_rfl, ⟨by kernel_rfl, by kernel_rfl⟩, by kernel_rfl⟩
theorem ok_X42 : FuncOk Try.prog 50 X42 := ⟨_, _, Try.func50, rfl, by kernel_rfl, by kernel_rfl, by kernel_rfl, ⟨by kernel_rfl, by kernel_rfl⟩, by kernel_rfl⟩
theorem ok_X39 : FuncOk Try.prog 51 X39 := ⟨_, _, Try.func51, rfl, by kernel_rfl, by kernel_rfl, by kernel_rfl, ⟨by kernel_rfl, by kernel_rfl⟩, by kernel_rfl⟩
theorem ok_X35 : FuncOk Try.prog 52 X35 := ⟨_, _, Try.func52, rfl, by kernel_rfl, by kernel_rfl, by kernel_rfl, ⟨by kernel_rfl, by kernel_rfl⟩, by kernel_rfl⟩
theorem ok_X40 : FuncOk Try.prog 53 X40 := ⟨_, _, Try.func53, rfl, by kernel_rfl, by kernel_rfl, by kernel_rfl, ⟨by kernel_rfl, by kernel_rfl⟩, by kernel_rfl⟩
theorem ok_X41 : FuncOk Try.prog 54 X41 := ⟨_, _, Try.func54, rfl, by kernel_rfl, by kernel_rfl, by kernel_rfl, ⟨by kernel_rfl, by kernel_rfl⟩, by kernel_rfl⟩
theorem ok_X33 : FuncOk Try.prog 55 X33 := ⟨_, _, Try.func55, rfl, by kernel_rfl, by kernel_rfl, by kernel_rfl, ⟨by kernel_rfl, by kernel_rfl⟩, by kernel_rfl⟩
theorem ok_X38 : FuncOk Try.prog 56 X38 := ⟨_, _, Try.func56, rfl, by kernel_rfl, by kernel_rfl, by kernel_rfl, ⟨by kernel_rfl, by kernel_rfl⟩, by kernel_rfl⟩
theorem ok_X17 : FuncOk Try.prog 57 X17 := ⟨_, _, Try.func57, rfl, by kernel_rfl, by kernel_rfl, by kernel_rfl, ⟨by kernel_rfl, by kernel_rfl⟩, by kernel_rfl⟩
theorem ok_X18 : FuncOk Try.prog 58 X18 := ⟨_, _, Try.func58, rfl, by kernel_rfl, by kernel_rfl, by kernel_rfl, ⟨by kernel_rfl, by kernel_rfl⟩, by kernel_rfl⟩
theorem ok_X23 : FuncOk Try.prog 59 X23 := ⟨_, _, Try.func59, rfl, by kernel_rfl, by kernel_rfl, by kernel_rfl, ⟨by kernel_rfl, by kernel_rfl⟩, by kernel_rfl⟩
theorem ok_X21 : FuncOk Try.prog 60 X21 := ⟨_, _, Try.func60, rfl, by kernel_rfl, by kernel_rfl, by kernel_rfl, ⟨by kernel_rfl, by kernel_rfl⟩, by kernel_rfl⟩
theorem ok_X22 : FuncOk Try.prog 61 X22 := ⟨_, _, Try.func61, rfl, by kernel_rfl, by kernel_rfl, by kernel_rfl, ⟨by kernel_rfl, by kernel_rfl⟩, by kernel_rfl⟩
theorem ok_X24 : FuncOk Try.prog 62 X24 := ⟨_, _, Try.func62, rfl, by kernel_rfl, by kernel_rfl, by kernel_rfl, ⟨by kernel_rfl, by kernel_rfl⟩, by kernel_rfl⟩
theorem ok_X25 : FuncOk Try.prog 63 X25 := ⟨_, _, Try.func63, rfl, by kernel_rfl, by kernel_rfl, by kernel_rfl, ⟨by kernel_rfl, by kernel_rfl⟩, by kernel_rfl⟩
theorem ok_X10 : FuncOk Try.prog 64 X10 := ⟨_, _, Try.func64, rfl, by kernel_rfl, by kernel_rfl, by kernel_rfl, ⟨by kernel_rfl, by kernel_rfl⟩, by kernel_rfl⟩
theorem ok_X64 : FuncOk Try.prog 65 X64 := ⟨_, _, Try.func65, rfl, by kernel_rfl, by kernel_rfl, by kernel_rfl, ⟨by kernel_rfl, by kernel_rfl⟩, by kernel_rfl⟩
theorem ok_X15 : FuncOk Try.prog 66 X15 := ⟨_, _, Try.func66, rfl, by kernel_rfl, by kernel_rfl, by kernel_rfl, ⟨by kernel_rfl, by kernel_rfl⟩, by kernel_rfl⟩
theorem ok_X14 : FuncOk Try.prog 67 X14 := ⟨_, _, Try.func67, rfl, by kernel_rfl, by kernel_rfl, by kernel_rfl, ⟨by kernel_rfl, by kernel_rfl⟩, by kernel_rfl⟩
theorem ok_X4 : FuncOk Try.prog 68 X4 := ⟨_, _, Try.func68, rfl, by kernel_rfl, by kernel_rfl, by kernel_rfl, ⟨by kernel_rfl, by kernel_rfl⟩, by kernel_rfl⟩
theorem ok_X9 : FuncOk Try.prog 69 X9 := ⟨_, _, Try.func69, rfl, by kernel_rfl, by kernel_rfl, by kernel_rfl, ⟨by kernel_rfl, by kernel_rfl⟩, by kernel_rfl⟩
theorem ok_X3 : FuncOk Try.prog 70 X3 := ⟨_, _, Try.func70, rfl, by kernel_rfl, by kernel_rfl, by kernel_rfl, ⟨by kernel_rfl, by kernel_rfl⟩, by kernel_rfl⟩
theorem ok_X6 : FuncOk Try.prog 71 X6 := ⟨_, _, Try.func71, rfl, by kernel_rfl, by kernel_rfl, by kernel_rfl, ⟨by kernel_rfl, by kernel_rfl⟩, by kernel_rfl⟩
theorem ok_X5 : FuncOk Try.prog 72 X5 := ⟨_, _, Try.func72, rfl, by kernel_rfl, by kernel_rfl, by kernel_rfl, ⟨by kernel_rfl, by kernel_rfl⟩, by kernel_rfl⟩
theorem ok_X0 : FuncOk Try.prog 73 X0 := ⟨_, _, Try.func73, rfl, by kernel_rfl, by kernel_rfl, by kernel_rfl, ⟨by kernel_rfl, by kernel_rfl⟩, by kernel_rfl⟩
theorem ok_X34 : FuncOk Try.prog 74 X34 := ⟨_, _, Try.func74, rfl, by kernel_rfl, by kernel_rfl, by kernel_rfl, ⟨by kernel_rfl, by kernel_rfl⟩, by kernel_rfl⟩
theorem ok_X2 : FuncOk Try.prog 75 X2 := ⟨_, _, Try.func75, rfl, by kernel_rfl, by kernel_rfl, by kernel_rfl, ⟨by kernel_rfl, by kernel_rfl⟩, by kernel_rfl⟩
theorem ok_X7 : FuncOk Try.prog 76 X7 := ⟨_, _, Try.func76, rfl, by kernel_rfl, by kernel_rfl, by kernel_rfl, ⟨by kernel_rfl, by kernel_rfl⟩, by kernel_rfl⟩
theorem ok_X49 : FuncOk Try.prog 77 X49 := ⟨_, _, Try.func77, rfl, by kernel_rfl, by kernel_rfl, by kernel_rfl, ⟨by kernel_rfl, by kernel_rfl⟩, by kernel_rfl⟩
theorem ok_X51 : FuncOk Try.prog 78 X51 := ⟨_, _, Try.func78, rfl, by kernel_rfl, by kernel_rfl, by kernel_rfl, ⟨by kernel_rfl, by kernel_rfl⟩, by kernel_rfl⟩
theorem ok_X8 : FuncOk Try.prog 79 X8 := ⟨_, _, Try.func79, rfl, by kernel_rfl, by kernel_rfl, by kernel_rfl, ⟨by kernel_rfl, by kernel_rfl⟩, by kernel_rfl⟩
theorem ok_X19 : FuncOk Try.prog 80 X19 := ⟨_, _, Try.func80, rfl, by kernel_rfl, by kernel_rfl, by kernel_rfl, ⟨by kernel_rfl, by kernel_rfl⟩, by kernel_rfl⟩
theorem ok_X20 : FuncOk Try.prog 81 X20 := ⟨_, _, Try.func81, rfl, by kernel_rfl, by kernel_rfl, by kernel_rfl, ⟨by kernel_rfl, by kernel_rfl⟩, by kernel_rfl⟩
theorem ok_X1 : FuncOk Try.prog 82 X1 := ⟨_, _, Try.func82, rfl, by kernel_rfl, by kernel_rfl, by kernel_rfl, ⟨by kernel_rfl, by kernel_rfl⟩, by kernel_rfl⟩
theorem ok_X13 : FuncOk Try.prog 83 X13 := ⟨_, _, Try.func83, rfl, by kernel_rfl, by kernel_rfl, by kernel_rfl, ⟨by kernel_rfl, by kernel_rfl⟩, by kernel_rfl⟩
theorem ok_X31 : FuncOk Try.prog 84 X31 := ⟨_, _, Try.func84, rfl, by kernel_rfl, by kernel_rfl, by kernel_rfl, ⟨by kernel_rfl, by kernel_rfl⟩, by kernel_rfl⟩
theorem ok_X12 : FuncOk Try.prog 85 X12 := ⟨_, _, Try.func85, rfl, by kernel_rfl, by kernel_rfl, by kernel_rfl, ⟨by kernel_rfl, by kernel_rfl⟩, by kernel_rfl⟩
theorem T_ok : ∀ f af, T f = some af → FuncOk Try.prog f af := by
 intro f af h
 unfold T at h
 split at h
 ·cases h; exact ok_X36
 ·cases h; exact ok_X37
 ·cases h; exact ok_X65
 ·cases h; exact ok_X45
 ·cases h; exact ok_X48
 ·cases h; exact ok_X58
 ·cases h; exact ok_X55
 ·cases h; exact ok_X47
 ·cases h; exact ok_X63
 ·cases h; exact ok_X56
 ·cases h; exact ok_X54
 ·cases h; exact ok_X57
 ·cases h; exact ok_X50
 ·cases h; exact ok_X61
 ·cases h; exact ok_X29
 ·cases h; exact ok_X60
 ·cases h; exact ok_X30
 ·cases h; exact ok_X32
 ·cases h; exact ok_X11
 ·cases h; exact ok_X43
 ·cases h; exact ok_X59
 ·cases h; exact ok_X53
 ·cases h; exact ok_X52
 ·cases h; exact ok_X46
 ·cases h; exact ok_X62
 ·cases h; exact ok_X16
 ·cases h; exact ok_X44
 ·cases h; exact ok_X26
 ·cases h; exact ok_X27
 ·cases h; exact ok_X28
 ·cases h; exact ok_X42
 ·cases h; exact ok_X39
 ·cases h; exact ok_X35
 ·cases h; exact ok_X40
 ·cases h; exact ok_X41
 ·cases h; exact ok_X33
 ·cases h; exact ok_X38
 ·cases h; exact ok_X17
 ·cases h; exact ok_X18
 ·cases h; exact ok_X23
 ·cases h; exact ok_X21
 ·cases h; exact ok_X22
 ·cases h; exact ok_X24
 ·cases h; exact ok_X25
 ·cases h; exact ok_X10
 ·cases h; exact ok_X64
 ·cases h; exact ok_X15
 ·cases h; exact ok_X14
 ·cases h; exact ok_X4
 ·cases h; exact ok_X9
 ·cases h; exact ok_X3
 ·cases h; exact ok_X6
 ·cases h; exact ok_X5
 ·cases h; exact ok_X0
 ·cases h; exact ok_X34
 ·cases h; exact ok_X2
 ·cases h; exact ok_X7
 ·cases h; exact ok_X49
 ·cases h; exact ok_X51
 ·cases h; exact ok_X8
 ·cases h; exact ok_X19
 ·cases h; exact ok_X20
 ·cases h; exact ok_X1
 ·cases h; exact ok_X13
 ·cases h; exact ok_X31
 ·cases h; exact ok_X12
 ·cases h
end Go.Abs
