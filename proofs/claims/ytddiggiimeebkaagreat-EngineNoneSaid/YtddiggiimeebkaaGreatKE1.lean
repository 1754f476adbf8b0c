/- Pieces of a closed run: calls that are known by what they are told. Written by wip/known.py. -/
import Derived.Test.YtddiggiimeebkaaGreatKE0
set_option linter.unusedVariables false
noncomputable section
namespace Go.Proofs.YtddiggiimeebkaaGreat
/-- reticuleref01.Parse -/
def KEc1 : Known := ⟨149, [.v (.string ⟨#[110, 105, 110, 116]⟩)], false, .ret (.tuple [.v (.int .i64 0), .v (.int .i64 3)])⟩
theorem KEc1_ok : Known.ok Tryz.prog KEc1 := Known.madeK (T := tab) (K := KE0) (n := 6000) KE0_ok mixed (by kernel_rfl)
def KE1 : KTab := KTab.add KE0 KEc1
theorem KE1_ok : KTab.ok Tryz.prog KE1 := KTab.ok_add KE0_ok KEc1_ok
/-- reticuleref06.WordKind -/
def KEc2 : Known := ⟨148, [.v (.string ⟨#[110, 105, 110, 116]⟩)], false, .ret (.v (.int .u8 3))⟩
theorem KEc2_ok : Known.ok Tryz.prog KEc2 := Known.madeK (T := tab) (K := KE1) (n := 6000) KE1_ok mixed (by kernel_rfl)
def KE2 : KTab := KTab.add KE1 KEc2
theorem KE2_ok : KTab.ok Tryz.prog KE2 := KTab.ok_add KE1_ok KEc2_ok
/-- reticuleref01.Parse -/
def KEc3 : Known := ⟨149, [.v (.string ⟨#[97]⟩)], false, .ret (.tuple [.v (.int .i64 0), .v (.int .i64 3)])⟩
theorem KEc3_ok : Known.ok Tryz.prog KEc3 := Known.madeK (T := tab) (K := KE2) (n := 6000) KE2_ok mixed (by kernel_rfl)
def KE3 : KTab := KTab.add KE2 KEc3
theorem KE3_ok : KTab.ok Tryz.prog KE3 := KTab.ok_add KE2_ok KEc3_ok
/-- reticuleref06.WordKind -/
def KEc4 : Known := ⟨148, [.v (.string ⟨#[97]⟩)], false, .ret (.v (.int .u8 3))⟩
theorem KEc4_ok : Known.ok Tryz.prog KEc4 := Known.madeK (T := tab) (K := KE3) (n := 6000) KE3_ok mixed (by kernel_rfl)
def KE4 : KTab := KTab.add KE3 KEc4
theorem KE4_ok : KTab.ok Tryz.prog KE4 := KTab.ok_add KE3_ok KEc4_ok
/-- reticuleref01.Parse -/
def KEc5 : Known := ⟨149, [.v (.string ⟨#[101, 97, 99, 104]⟩)], false, .ret (.tuple [.v (.int .i64 0), .v (.int .i64 3)])⟩
theorem KEc5_ok : Known.ok Tryz.prog KEc5 := Known.madeK (T := tab) (K := KE4) (n := 6000) KE4_ok mixed (by kernel_rfl)
def KE5 : KTab := KTab.add KE4 KEc5
theorem KE5_ok : KTab.ok Tryz.prog KE5 := KTab.ok_add KE4_ok KEc5_ok
/-- reticuleref06.WordKind -/
def KEc6 : Known := ⟨148, [.v (.string ⟨#[101, 97, 99, 104]⟩)], false, .ret (.v (.int .u8 3))⟩
theorem KEc6_ok : Known.ok Tryz.prog KEc6 := Known.madeK (T := tab) (K := KE5) (n := 6000) KE5_ok mixed (by kernel_rfl)
def KE6 : KTab := KTab.add KE5 KEc6
theorem KE6_ok : KTab.ok Tryz.prog KE6 := KTab.ok_add KE5_ok KEc6_ok
/-- reticuleref01.Parse -/
def KEc7 : Known := ⟨149, [.v (.string ⟨#[112, 117, 115, 104]⟩)], false, .ret (.tuple [.v (.int .i64 0), .v (.int .i64 3)])⟩
theorem KEc7_ok : Known.ok Tryz.prog KEc7 := Known.madeK (T := tab) (K := KE6) (n := 6000) KE6_ok mixed (by kernel_rfl)
def KE7 : KTab := KTab.add KE6 KEc7
theorem KE7_ok : KTab.ok Tryz.prog KE7 := KTab.ok_add KE6_ok KEc7_ok
/-- reticuleref06.WordKind -/
def KEc8 : Known := ⟨148, [.v (.string ⟨#[112, 117, 115, 104]⟩)], false, .ret (.v (.int .u8 3))⟩
theorem KEc8_ok : Known.ok Tryz.prog KEc8 := Known.madeK (T := tab) (K := KE7) (n := 6000) KE7_ok mixed (by kernel_rfl)
def KE8 : KTab := KTab.add KE7 KEc8
theorem KE8_ok : KTab.ok Tryz.prog KE8 := KTab.ok_add KE7_ok KEc8_ok
/-- reticuleref01.Parse -/
def KEc9 : Known := ⟨149, [.v (.string ⟨#[43]⟩)], false, .ret (.tuple [.v (.int .i64 0), .v (.int .i64 3)])⟩
theorem KEc9_ok : Known.ok Tryz.prog KEc9 := Known.madeK (T := tab) (K := KE8) (n := 6000) KE8_ok mixed (by kernel_rfl)
def KE9 : KTab := KTab.add KE8 KEc9
theorem KE9_ok : KTab.ok Tryz.prog KE9 := KTab.ok_add KE8_ok KEc9_ok
/-- reticuleref06.WordKind -/
def KEc10 : Known := ⟨148, [.v (.string ⟨#[43]⟩)], false, .ret (.v (.int .u8 3))⟩
theorem KEc10_ok : Known.ok Tryz.prog KEc10 := Known.madeK (T := tab) (K := KE9) (n := 6000) KE9_ok mixed (by kernel_rfl)
def KE10 : KTab := KTab.add KE9 KEc10
theorem KE10_ok : KTab.ok Tryz.prog KE10 := KTab.ok_add KE9_ok KEc10_ok
/-- reticuleref01.Parse -/
def KEc11 : Known := ⟨149, [.v (.string ⟨#[111, 117, 116]⟩)], false, .ret (.tuple [.v (.int .i64 0), .v (.int .i64 3)])⟩
theorem KEc11_ok : Known.ok Tryz.prog KEc11 := Known.madeK (T := tab) (K := KE10) (n := 6000) KE10_ok mixed (by kernel_rfl)
def KE11 : KTab := KTab.add KE10 KEc11
theorem KE11_ok : KTab.ok Tryz.prog KE11 := KTab.ok_add KE10_ok KEc11_ok
/-- reticuleref06.WordKind -/
def KEc12 : Known := ⟨148, [.v (.string ⟨#[111, 117, 116]⟩)], false, .ret (.v (.int .u8 3))⟩
theorem KEc12_ok : Known.ok Tryz.prog KEc12 := Known.madeK (T := tab) (K := KE11) (n := 6000) KE11_ok mixed (by kernel_rfl)
def KE12 : KTab := KTab.add KE11 KEc12
theorem KE12_ok : KTab.ok Tryz.prog KE12 := KTab.ok_add KE11_ok KEc12_ok
/-- reticuleref01.Parse -/
def KEc13 : Known := ⟨149, [.v (.string ⟨#[49]⟩)], false, .ret (.tuple [.v (.int .i64 1), .v (.int .i64 0)])⟩
theorem KEc13_ok : Known.ok Tryz.prog KEc13 := Known.madeK (T := tab) (K := KE12) (n := 6000) KE12_ok mixed (by kernel_rfl)
def KE13 : KTab := KTab.add KE12 KEc13
theorem KE13_ok : KTab.ok Tryz.prog KE13 := KTab.ok_add KE12_ok KEc13_ok
/-- reticuleref06.WordKind -/
def KEc14 : Known := ⟨148, [.v (.string ⟨#[49]⟩)], false, .ret (.v (.int .u8 4))⟩
theorem KEc14_ok : Known.ok Tryz.prog KEc14 := Known.madeK (T := tab) (K := KE13) (n := 6000) KE13_ok mixed (by kernel_rfl)
def KE14 : KTab := KTab.add KE13 KEc14
theorem KE14_ok : KTab.ok Tryz.prog KE14 := KTab.ok_add KE13_ok KEc14_ok
/-- reticuleref06.Tokens -/
def KEc15 : Known := ⟨91, [.v (.string ⟨#[40, 110, 105, 110, 116, 32, 97, 41, 32, 40, 101, 97, 99, 104, 32, 40, 112, 117, 115, 104, 32, 97, 32, 43, 32, 111, 117, 116, 32, 49, 41, 41]⟩)], false, .ret (.tuple [.csl [.v (.int .u8 1), .v (.string ⟨#[40]⟩), .v (.int .i64 0), .v (.int .i64 0), .v (.int .u8 3), .v (.string ⟨#[110, 105, 110, 116]⟩), .v (.int .i64 0), .v (.int .i64 1), .v (.int .u8 3), .v (.string ⟨#[97]⟩), .v (.int .i64 0), .v (.int .i64 6), .v (.int .u8 2), .v (.string ⟨#[41]⟩), .v (.int .i64 0), .v (.int .i64 7), .v (.int .u8 1), .v (.string ⟨#[40]⟩), .v (.int .i64 0), .v (.int .i64 9), .v (.int .u8 3), .v (.string ⟨#[101, 97, 99, 104]⟩), .v (.int .i64 0), .v (.int .i64 10), .v (.int .u8 1), .v (.string ⟨#[40]⟩), .v (.int .i64 0), .v (.int .i64 15), .v (.int .u8 3), .v (.string ⟨#[112, 117, 115, 104]⟩), .v (.int .i64 0), .v (.int .i64 16), .v (.int .u8 3), .v (.string ⟨#[97]⟩), .v (.int .i64 0), .v (.int .i64 21), .v (.int .u8 3), .v (.string ⟨#[43]⟩), .v (.int .i64 0), .v (.int .i64 23), .v (.int .u8 3), .v (.string ⟨#[111, 117, 116]⟩), .v (.int .i64 0), .v (.int .i64 25), .v (.int .u8 4), .v (.string ⟨#[49]⟩), .v (.int .i64 1), .v (.int .i64 29), .v (.int .u8 2), .v (.string ⟨#[41]⟩), .v (.int .i64 0), .v (.int .i64 30), .v (.int .u8 2), .v (.string ⟨#[41]⟩), .v (.int .i64 0), .v (.int .i64 31)] 0 14 4, .v (.int .i64 0), .v (.int .i64 0)])⟩
theorem KEc15_ok : Known.ok Tryz.prog KEc15 := Known.madeK (T := tab) (K := KE14) (n := 6000) KE14_ok mixed (by kernel_rfl)
def KE15 : KTab := KTab.add KE14 KEc15
theorem KE15_ok : KTab.ok Tryz.prog KE15 := KTab.ok_add KE14_ok KEc15_ok
end Go.Proofs.YtddiggiimeebkaaGreat
