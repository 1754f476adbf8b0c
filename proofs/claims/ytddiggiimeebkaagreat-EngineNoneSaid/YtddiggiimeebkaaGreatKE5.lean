/- Pieces of a closed run: calls that are known by what they are told. Written by wip/known.py. -/
import Derived.Test.YtddiggiimeebkaaGreatKE4
set_option linter.unusedVariables false
noncomputable section
namespace Go.Proofs.YtddiggiimeebkaaGreat
/-- num.reckon -/
def KEc61 : Known := ⟨173, [.v (.int .u8 1), .v (.int .i64 1), .v (.int .i64 1)], false, .ret (.tuple [.v (.int .i64 2), .v (.bool true)])⟩
theorem KEc61_ok : Known.ok Tryz.prog KEc61 := Known.madeK (T := tab) (K := KE60) (n := 6000) KE60_ok mixed (by kernel_rfl)
def KE61 : KTab := KTab.add KE60 KEc61
theorem KE61_ok : KTab.ok Tryz.prog KE61 := KTab.ok_add KE60_ok KEc61_ok
/-- num.Do -/
def KEc62 : Known := ⟨115, [.v (.int .u8 1), .csl [.v (.int .i64 1), .v (.int .i64 1)] 0 2 1], false, .ret (.tuple [.v (.int .i64 2), .v (.int .i64 0)])⟩
theorem KEc62_ok : Known.ok Tryz.prog KEc62 := Known.madeK (T := tab) (K := KE61) (n := 6000) KE61_ok mixed (by kernel_rfl)
def KE62 : KTab := KTab.add KE61 KEc62
theorem KE62_ok : KTab.ok Tryz.prog KE62 := KTab.ok_add KE61_ok KEc62_ok
/-- perm.From -/
def KEc63 : Known := ⟨167, [.v (.int .i64 1), .v (.int .u64 5)], false, .ret (.tuple [.csl [.v (.int .i64 0)] 0 1 1, .v (.int .i64 0)])⟩
theorem KEc63_ok : Known.ok Tryz.prog KEc63 := Known.madeK (T := tab) (K := KE62) (n := 6000) KE62_ok mixed (by kernel_rfl)
def KE63 : KTab := KTab.add KE62 KEc63
theorem KE63_ok : KTab.ok Tryz.prog KE63 := KTab.ok_add KE62_ok KEc63_ok
end Go.Proofs.YtddiggiimeebkaaGreat
