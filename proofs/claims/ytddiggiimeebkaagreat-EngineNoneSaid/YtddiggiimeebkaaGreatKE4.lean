/- Pieces of a closed run: calls that are known by what they are told. Written by wip/known.py. -/
import Derived.Test.YtddiggiimeebkaaGreatKE3
set_option linter.unusedVariables false
noncomputable section
namespace Go.Proofs.YtddiggiimeebkaaGreat
/-- prog.Sound -/
def KEc46 : Known := ⟨140, [.agg [.csl [.v (.string ⟨#[97]⟩), .v (.int .u8 2), .v (.int .u8 1)] 0 1 3, .csl [.v (.int .u8 1), .v (.int .u8 1), .v (.int .u8 0), .v (.string ⟨#[]⟩), .v (.int .i64 1), .csl [] 0 0 1] 0 1 6, .csl [.v (.int .u8 3), .v (.string ⟨#[]⟩), .v (.int .u8 0), .v (.int .i64 (-1)), .v (.int .i64 (-1)), .csl [.v (.int .u8 2), .v (.string ⟨#[97]⟩), .v (.int .u8 1), .v (.bool false), .v (.int .i64 0), .v (.int .i64 (-1))] 0 1 6, .csl [] 0 0 1, .csl [] 0 0 1] 0 1 8, .csl [.v (.int .i64 0)] 0 1 1]], false, .ret (.v (.bool true))⟩
theorem KEc46_ok : Known.ok Tryz.prog KEc46 := Known.madeK (T := tab) (K := KE45) (n := 6000) KE45_ok mixed (by kernel_rfl)
def KE46 : KTab := KTab.add KE45 KEc46
theorem KE46_ok : KTab.ok Tryz.prog KE46 := KTab.ok_add KE45_ok KEc46_ok
/-- typed.Check -/
def KEc47 : Known := ⟨85, [.agg [.csl [.v (.string ⟨#[97]⟩), .v (.int .u8 2), .v (.int .u8 1)] 0 1 3, .csl [.v (.int .u8 1), .v (.int .u8 1), .v (.int .u8 0), .v (.string ⟨#[]⟩), .v (.int .i64 1), .csl [] 0 0 1] 0 1 6, .csl [.v (.int .u8 3), .v (.string ⟨#[]⟩), .v (.int .u8 0), .v (.int .i64 (-1)), .v (.int .i64 (-1)), .csl [.v (.int .u8 2), .v (.string ⟨#[97]⟩), .v (.int .u8 1), .v (.bool false), .v (.int .i64 0), .v (.int .i64 (-1))] 0 1 6, .csl [] 0 0 1, .csl [] 0 0 1] 0 1 8, .csl [.v (.int .i64 0)] 0 1 1]], false, .ret (.tuple [.v (.int .i64 0), .v (.int .i64 0)])⟩
theorem KEc47_ok : Known.ok Tryz.prog KEc47 := Known.madeK (T := tab) (K := KE46) (n := 6000) KE46_ok mixed (by kernel_rfl)
def KE47 : KTab := KTab.add KE46 KEc47
theorem KE47_ok : KTab.ok Tryz.prog KE47 := KTab.ok_add KE46_ok KEc47_ok
/-- clash.Check -/
def KEc48 : Known := ⟨86, [.agg [.csl [.v (.string ⟨#[97]⟩), .v (.int .u8 2), .v (.int .u8 1)] 0 1 3, .csl [.v (.int .u8 1), .v (.int .u8 1), .v (.int .u8 0), .v (.string ⟨#[]⟩), .v (.int .i64 1), .csl [] 0 0 1] 0 1 6, .csl [.v (.int .u8 3), .v (.string ⟨#[]⟩), .v (.int .u8 0), .v (.int .i64 (-1)), .v (.int .i64 (-1)), .csl [.v (.int .u8 2), .v (.string ⟨#[97]⟩), .v (.int .u8 1), .v (.bool false), .v (.int .i64 0), .v (.int .i64 (-1))] 0 1 6, .csl [] 0 0 1, .csl [] 0 0 1] 0 1 8, .csl [.v (.int .i64 0)] 0 1 1]], false, .ret (.tuple [.v (.int .i64 0), .v (.int .i64 0)])⟩
theorem KEc48_ok : Known.ok Tryz.prog KEc48 := Known.madeK (T := tab) (K := KE47) (n := 6000) KE47_ok mixed (by kernel_rfl)
def KE48 : KTab := KTab.add KE47 KEc48
theorem KE48_ok : KTab.ok Tryz.prog KE48 := KTab.ok_add KE47_ok KEc48_ok
/-- ir.Check -/
def KEc49 : Known := ⟨46, [.agg [.csl [.v (.string ⟨#[97]⟩), .v (.int .u8 2), .v (.int .u8 1)] 0 1 3, .csl [.v (.int .u8 1), .v (.int .u8 1), .v (.int .u8 0), .v (.string ⟨#[]⟩), .v (.int .i64 1), .csl [] 0 0 1] 0 1 6, .csl [.v (.int .u8 3), .v (.string ⟨#[]⟩), .v (.int .u8 0), .v (.int .i64 (-1)), .v (.int .i64 (-1)), .csl [.v (.int .u8 2), .v (.string ⟨#[97]⟩), .v (.int .u8 1), .v (.bool false), .v (.int .i64 0), .v (.int .i64 (-1))] 0 1 6, .csl [] 0 0 1, .csl [] 0 0 1] 0 1 8, .csl [.v (.int .i64 0)] 0 1 1, .csl [.v (.int .u8 3), .v (.int .i64 0), .v (.int .i64 0), .v (.int .u8 4), .v (.int .i64 0), .v (.int .i64 0), .v (.int .u8 7), .v (.int .i64 0), .v (.int .i64 0)] 0 3 3]], false, .ret (.tuple [.v (.int .i64 0), .v (.int .i64 0)])⟩
theorem KEc49_ok : Known.ok Tryz.prog KEc49 := Known.madeK (T := tab) (K := KE48) (n := 6000) KE48_ok mixed (by kernel_rfl)
def KE49 : KTab := KTab.add KE48 KEc49
theorem KE49_ok : KTab.ok Tryz.prog KE49 := KTab.ok_add KE48_ok KEc49_ok
/-- perm.From -/
def KEc50 : Known := ⟨167, [.v (.int .i64 2), .v (.int .u64 4)], false, .ret (.tuple [.csl [.v (.int .i64 0), .v (.int .i64 1)] 0 2 1, .v (.int .i64 0)])⟩
theorem KEc50_ok : Known.ok Tryz.prog KEc50 := Known.madeK (T := tab) (K := KE49) (n := 6000) KE49_ok mixed (by kernel_rfl)
def KE50 : KTab := KTab.add KE49 KEc50
theorem KE50_ok : KTab.ok Tryz.prog KE50 := KTab.ok_add KE49_ok KEc50_ok
/-- perm.From -/
def KEc51 : Known := ⟨167, [.v (.int .i64 1), .v (.int .u64 4)], false, .ret (.tuple [.csl [.v (.int .i64 0)] 0 1 1, .v (.int .i64 0)])⟩
theorem KEc51_ok : Known.ok Tryz.prog KEc51 := Known.madeK (T := tab) (K := KE50) (n := 6000) KE50_ok mixed (by kernel_rfl)
def KE51 : KTab := KTab.add KE50 KEc51
theorem KE51_ok : KTab.ok Tryz.prog KE51 := KTab.ok_add KE50_ok KEc51_ok
/-- perm.Turn -/
def KEc52 : Known := ⟨227, [.csl [.v (.int .i64 0)] 0 1 1, .csl [.v (.int .i64 0)] 0 1 1], false, .ret (.tuple [.csl [.v (.int .i64 0)] 0 1 1, .v (.int .i64 0)])⟩
theorem KEc52_ok : Known.ok Tryz.prog KEc52 := Known.madeK (T := tab) (K := KE51) (n := 6000) KE51_ok mixed (by kernel_rfl)
def KE52 : KTab := KTab.add KE51 KEc52
theorem KE52_ok : KTab.ok Tryz.prog KE52 := KTab.ok_add KE51_ok KEc52_ok
/-- perm.Turn -/
def KEc53 : Known := ⟨227, [.csl [.v (.int .i64 0), .v (.int .i64 1)] 0 2 1, .csl [.v (.int .i64 1), .v (.int .i64 2)] 0 2 1], false, .ret (.tuple [.csl [.v (.int .i64 1), .v (.int .i64 2)] 0 2 1, .v (.int .i64 0)])⟩
theorem KEc53_ok : Known.ok Tryz.prog KEc53 := Known.madeK (T := tab) (K := KE52) (n := 6000) KE52_ok mixed (by kernel_rfl)
def KE53 : KTab := KTab.add KE52 KEc53
theorem KE53_ok : KTab.ok Tryz.prog KE53 := KTab.ok_add KE52_ok KEc53_ok
/-- perm.Turn -/
def KEc54 : Known := ⟨227, [.csl [.v (.int .i64 0)] 0 1 1, .csl [.v (.int .i64 1)] 0 1 1], false, .ret (.tuple [.csl [.v (.int .i64 1)] 0 1 1, .v (.int .i64 0)])⟩
theorem KEc54_ok : Known.ok Tryz.prog KEc54 := Known.madeK (T := tab) (K := KE53) (n := 6000) KE53_ok mixed (by kernel_rfl)
def KE54 : KTab := KTab.add KE53 KEc54
theorem KE54_ok : KTab.ok Tryz.prog KE54 := KTab.ok_add KE53_ok KEc54_ok
/-- perm.From -/
def KEc55 : Known := ⟨167, [.v (.int .i64 0), .v (.int .u64 4)], false, .ret (.tuple [.csl [] 0 0 1, .v (.int .i64 0)])⟩
theorem KEc55_ok : Known.ok Tryz.prog KEc55 := Known.madeK (T := tab) (K := KE54) (n := 6000) KE54_ok mixed (by kernel_rfl)
def KE55 : KTab := KTab.add KE54 KEc55
theorem KE55_ok : KTab.ok Tryz.prog KE55 := KTab.ok_add KE54_ok KEc55_ok
/-- perm.Turn -/
def KEc56 : Known := ⟨227, [.csl [] 0 0 1, .v (.slice none 0 0)], false, .ret (.tuple [.csl [] 0 0 1, .v (.int .i64 0)])⟩
theorem KEc56_ok : Known.ok Tryz.prog KEc56 := Known.madeK (T := tab) (K := KE55) (n := 6000) KE55_ok mixed (by kernel_rfl)
def KE56 : KTab := KTab.add KE55 KEc56
theorem KE56_ok : KTab.ok Tryz.prog KE56 := KTab.ok_add KE55_ok KEc56_ok
/-- perm.From -/
def KEc57 : Known := ⟨167, [.v (.int .i64 2), .v (.int .u64 5)], false, .ret (.tuple [.csl [.v (.int .i64 1), .v (.int .i64 0)] 0 2 1, .v (.int .i64 0)])⟩
theorem KEc57_ok : Known.ok Tryz.prog KEc57 := Known.madeK (T := tab) (K := KE56) (n := 6000) KE56_ok mixed (by kernel_rfl)
def KE57 : KTab := KTab.add KE56 KEc57
theorem KE57_ok : KTab.ok Tryz.prog KE57 := KTab.ok_add KE56_ok KEc57_ok
/-- perm.Turn -/
def KEc58 : Known := ⟨227, [.csl [.v (.int .i64 1), .v (.int .i64 0)] 0 2 1, .csl [.v (.int .i64 1), .v (.int .i64 2)] 0 2 1], false, .ret (.tuple [.csl [.v (.int .i64 2), .v (.int .i64 1)] 0 2 1, .v (.int .i64 0)])⟩
theorem KEc58_ok : Known.ok Tryz.prog KEc58 := Known.madeK (T := tab) (K := KE57) (n := 6000) KE57_ok mixed (by kernel_rfl)
def KE58 : KTab := KTab.add KE57 KEc58
theorem KE58_ok : KTab.ok Tryz.prog KE58 := KTab.ok_add KE57_ok KEc58_ok
/-- num.reckon -/
def KEc59 : Known := ⟨173, [.v (.int .u8 1), .v (.int .i64 0), .v (.int .i64 1)], false, .ret (.tuple [.v (.int .i64 1), .v (.bool true)])⟩
theorem KEc59_ok : Known.ok Tryz.prog KEc59 := Known.madeK (T := tab) (K := KE58) (n := 6000) KE58_ok mixed (by kernel_rfl)
def KE59 : KTab := KTab.add KE58 KEc59
theorem KE59_ok : KTab.ok Tryz.prog KE59 := KTab.ok_add KE58_ok KEc59_ok
/-- num.Do -/
def KEc60 : Known := ⟨115, [.v (.int .u8 1), .csl [.v (.int .i64 0), .v (.int .i64 1)] 0 2 1], false, .ret (.tuple [.v (.int .i64 1), .v (.int .i64 0)])⟩
theorem KEc60_ok : Known.ok Tryz.prog KEc60 := Known.madeK (T := tab) (K := KE59) (n := 6000) KE59_ok mixed (by kernel_rfl)
def KE60 : KTab := KTab.add KE59 KEc60
theorem KE60_ok : KTab.ok Tryz.prog KE60 := KTab.ok_add KE59_ok KEc60_ok
end Go.Proofs.YtddiggiimeebkaaGreat
