/- Pieces of a closed run: calls that are known by what they are told. Written by wip/known.py. -/
import Derived.Test.YtddiggiimeebkaaGreatKE2
set_option linter.unusedVariables false
noncomputable section
namespace Go.Proofs.YtddiggiimeebkaaGreat
/-- lex.WordKind -/
def KEc31 : Known := ⟨267, [.v (.string ⟨#[110, 105, 110, 116]⟩)], false, .ret (.v (.int .u8 3))⟩
theorem KEc31_ok : Known.ok Tryz.prog KEc31 := Known.madeK (T := tab) (K := KE30) (n := 6000) KE30_ok mixed (by kernel_rfl)
def KE31 : KTab := KTab.add KE30 KEc31
theorem KE31_ok : KTab.ok Tryz.prog KE31 := KTab.ok_add KE30_ok KEc31_ok
/-- num.Parse -/
def KEc32 : Known := ⟨312, [.v (.string ⟨#[97]⟩)], false, .ret (.tuple [.v (.int .i64 0), .v (.int .i64 3)])⟩
theorem KEc32_ok : Known.ok Tryz.prog KEc32 := Known.madeK (T := tab) (K := KE31) (n := 6000) KE31_ok mixed (by kernel_rfl)
def KE32 : KTab := KTab.add KE31 KEc32
theorem KE32_ok : KTab.ok Tryz.prog KE32 := KTab.ok_add KE31_ok KEc32_ok
/-- lex.WordKind -/
def KEc33 : Known := ⟨267, [.v (.string ⟨#[97]⟩)], false, .ret (.v (.int .u8 3))⟩
theorem KEc33_ok : Known.ok Tryz.prog KEc33 := Known.madeK (T := tab) (K := KE32) (n := 6000) KE32_ok mixed (by kernel_rfl)
def KE33 : KTab := KTab.add KE32 KEc33
theorem KE33_ok : KTab.ok Tryz.prog KE33 := KTab.ok_add KE32_ok KEc33_ok
/-- num.Parse -/
def KEc34 : Known := ⟨312, [.v (.string ⟨#[101, 97, 99, 104]⟩)], false, .ret (.tuple [.v (.int .i64 0), .v (.int .i64 3)])⟩
theorem KEc34_ok : Known.ok Tryz.prog KEc34 := Known.madeK (T := tab) (K := KE33) (n := 6000) KE33_ok mixed (by kernel_rfl)
def KE34 : KTab := KTab.add KE33 KEc34
theorem KE34_ok : KTab.ok Tryz.prog KE34 := KTab.ok_add KE33_ok KEc34_ok
/-- lex.WordKind -/
def KEc35 : Known := ⟨267, [.v (.string ⟨#[101, 97, 99, 104]⟩)], false, .ret (.v (.int .u8 3))⟩
theorem KEc35_ok : Known.ok Tryz.prog KEc35 := Known.madeK (T := tab) (K := KE34) (n := 6000) KE34_ok mixed (by kernel_rfl)
def KE35 : KTab := KTab.add KE34 KEc35
theorem KE35_ok : KTab.ok Tryz.prog KE35 := KTab.ok_add KE34_ok KEc35_ok
/-- num.Parse -/
def KEc36 : Known := ⟨312, [.v (.string ⟨#[112, 117, 115, 104]⟩)], false, .ret (.tuple [.v (.int .i64 0), .v (.int .i64 3)])⟩
theorem KEc36_ok : Known.ok Tryz.prog KEc36 := Known.madeK (T := tab) (K := KE35) (n := 6000) KE35_ok mixed (by kernel_rfl)
def KE36 : KTab := KTab.add KE35 KEc36
theorem KE36_ok : KTab.ok Tryz.prog KE36 := KTab.ok_add KE35_ok KEc36_ok
/-- lex.WordKind -/
def KEc37 : Known := ⟨267, [.v (.string ⟨#[112, 117, 115, 104]⟩)], false, .ret (.v (.int .u8 3))⟩
theorem KEc37_ok : Known.ok Tryz.prog KEc37 := Known.madeK (T := tab) (K := KE36) (n := 6000) KE36_ok mixed (by kernel_rfl)
def KE37 : KTab := KTab.add KE36 KEc37
theorem KE37_ok : KTab.ok Tryz.prog KE37 := KTab.ok_add KE36_ok KEc37_ok
/-- num.Parse -/
def KEc38 : Known := ⟨312, [.v (.string ⟨#[43]⟩)], false, .ret (.tuple [.v (.int .i64 0), .v (.int .i64 3)])⟩
theorem KEc38_ok : Known.ok Tryz.prog KEc38 := Known.madeK (T := tab) (K := KE37) (n := 6000) KE37_ok mixed (by kernel_rfl)
def KE38 : KTab := KTab.add KE37 KEc38
theorem KE38_ok : KTab.ok Tryz.prog KE38 := KTab.ok_add KE37_ok KEc38_ok
/-- lex.WordKind -/
def KEc39 : Known := ⟨267, [.v (.string ⟨#[43]⟩)], false, .ret (.v (.int .u8 3))⟩
theorem KEc39_ok : Known.ok Tryz.prog KEc39 := Known.madeK (T := tab) (K := KE38) (n := 6000) KE38_ok mixed (by kernel_rfl)
def KE39 : KTab := KTab.add KE38 KEc39
theorem KE39_ok : KTab.ok Tryz.prog KE39 := KTab.ok_add KE38_ok KEc39_ok
/-- num.Parse -/
def KEc40 : Known := ⟨312, [.v (.string ⟨#[111, 117, 116]⟩)], false, .ret (.tuple [.v (.int .i64 0), .v (.int .i64 3)])⟩
theorem KEc40_ok : Known.ok Tryz.prog KEc40 := Known.madeK (T := tab) (K := KE39) (n := 6000) KE39_ok mixed (by kernel_rfl)
def KE40 : KTab := KTab.add KE39 KEc40
theorem KE40_ok : KTab.ok Tryz.prog KE40 := KTab.ok_add KE39_ok KEc40_ok
/-- lex.WordKind -/
def KEc41 : Known := ⟨267, [.v (.string ⟨#[111, 117, 116]⟩)], false, .ret (.v (.int .u8 3))⟩
theorem KEc41_ok : Known.ok Tryz.prog KEc41 := Known.madeK (T := tab) (K := KE40) (n := 6000) KE40_ok mixed (by kernel_rfl)
def KE41 : KTab := KTab.add KE40 KEc41
theorem KE41_ok : KTab.ok Tryz.prog KE41 := KTab.ok_add KE40_ok KEc41_ok
/-- tree.Right -/
def KEc42 : Known := ⟨302, [.csl [.v (.int .u8 1), .v (.string ⟨#[]⟩), .v (.int .i64 0), .csl [.v (.int .i64 1), .v (.int .i64 2)] 0 2 1, .v (.int .i64 0), .v (.int .u8 3), .v (.string ⟨#[110, 105, 110, 116]⟩), .v (.int .i64 0), .v (.slice none 0 0), .v (.int .i64 0), .v (.int .u8 3), .v (.string ⟨#[97]⟩), .v (.int .i64 0), .v (.slice none 0 0), .v (.int .i64 0), .v (.int .u8 1), .v (.string ⟨#[]⟩), .v (.int .i64 0), .csl [.v (.int .i64 4), .v (.int .i64 5)] 0 2 1, .v (.int .i64 0), .v (.int .u8 3), .v (.string ⟨#[101, 97, 99, 104]⟩), .v (.int .i64 0), .v (.slice none 0 0), .v (.int .i64 0), .v (.int .u8 1), .v (.string ⟨#[]⟩), .v (.int .i64 0), .csl [.v (.int .i64 6), .v (.int .i64 7), .v (.int .i64 8), .v (.int .i64 9), .v (.int .i64 10)] 0 5 1, .v (.int .i64 0), .v (.int .u8 3), .v (.string ⟨#[112, 117, 115, 104]⟩), .v (.int .i64 0), .v (.slice none 0 0), .v (.int .i64 0), .v (.int .u8 3), .v (.string ⟨#[97]⟩), .v (.int .i64 0), .v (.slice none 0 0), .v (.int .i64 0), .v (.int .u8 3), .v (.string ⟨#[43]⟩), .v (.int .i64 0), .v (.slice none 0 0), .v (.int .i64 0), .v (.int .u8 3), .v (.string ⟨#[111, 117, 116]⟩), .v (.int .i64 0), .v (.slice none 0 0), .v (.int .i64 0), .v (.int .u8 4), .v (.string ⟨#[]⟩), .v (.int .i64 1), .v (.slice none 0 0), .v (.int .i64 0)] 0 11 5, .csl [.v (.int .i64 0), .v (.int .i64 3)] 0 2 1], false, .ret (.v (.bool true))⟩
theorem KEc42_ok : Known.ok Tryz.prog KEc42 := Known.madeK (T := tab) (K := KE41) (n := 6000) KE41_ok mixed (by kernel_rfl)
def KE42 : KTab := KTab.add KE41 KEc42
theorem KE42_ok : KTab.ok Tryz.prog KE42 := KTab.ok_add KE41_ok KEc42_ok
/-- prog.ReadOp -/
def KEc43 : Known := ⟨361, [.v (.string ⟨#[43]⟩)], false, .ret (.tuple [.v (.int .u8 1), .v (.bool true)])⟩
theorem KEc43_ok : Known.ok Tryz.prog KEc43 := Known.madeK (T := tab) (K := KE42) (n := 6000) KE42_ok mixed (by kernel_rfl)
def KE43 : KTab := KTab.add KE42 KEc43
theorem KE43_ok : KTab.ok Tryz.prog KE43 := KTab.ok_add KE42_ok KEc43_ok
/-- prog.Read -/
def KEc44 : Known := ⟨265, [.csl [.v (.int .u8 1), .v (.string ⟨#[]⟩), .v (.int .i64 0), .csl [.v (.int .i64 1), .v (.int .i64 2)] 0 2 1, .v (.int .i64 0), .v (.int .u8 3), .v (.string ⟨#[110, 105, 110, 116]⟩), .v (.int .i64 0), .v (.slice none 0 0), .v (.int .i64 0), .v (.int .u8 3), .v (.string ⟨#[97]⟩), .v (.int .i64 0), .v (.slice none 0 0), .v (.int .i64 0), .v (.int .u8 1), .v (.string ⟨#[]⟩), .v (.int .i64 0), .csl [.v (.int .i64 4), .v (.int .i64 5)] 0 2 1, .v (.int .i64 0), .v (.int .u8 3), .v (.string ⟨#[101, 97, 99, 104]⟩), .v (.int .i64 0), .v (.slice none 0 0), .v (.int .i64 0), .v (.int .u8 1), .v (.string ⟨#[]⟩), .v (.int .i64 0), .csl [.v (.int .i64 6), .v (.int .i64 7), .v (.int .i64 8), .v (.int .i64 9), .v (.int .i64 10)] 0 5 1, .v (.int .i64 0), .v (.int .u8 3), .v (.string ⟨#[112, 117, 115, 104]⟩), .v (.int .i64 0), .v (.slice none 0 0), .v (.int .i64 0), .v (.int .u8 3), .v (.string ⟨#[97]⟩), .v (.int .i64 0), .v (.slice none 0 0), .v (.int .i64 0), .v (.int .u8 3), .v (.string ⟨#[43]⟩), .v (.int .i64 0), .v (.slice none 0 0), .v (.int .i64 0), .v (.int .u8 3), .v (.string ⟨#[111, 117, 116]⟩), .v (.int .i64 0), .v (.slice none 0 0), .v (.int .i64 0), .v (.int .u8 4), .v (.string ⟨#[]⟩), .v (.int .i64 1), .v (.slice none 0 0), .v (.int .i64 0)] 0 11 5, .csl [.v (.int .i64 0), .v (.int .i64 3)] 0 2 1], false, .ret (.tuple [.agg [.csl [.v (.string ⟨#[97]⟩), .v (.int .u8 2), .v (.int .u8 1)] 0 1 3, .csl [.v (.int .u8 1), .v (.int .u8 1), .v (.int .u8 0), .v (.string ⟨#[]⟩), .v (.int .i64 1), .v (.slice none 0 0)] 0 1 6, .csl [.v (.int .u8 3), .v (.string ⟨#[]⟩), .v (.int .u8 0), .v (.int .i64 (-1)), .v (.int .i64 (-1)), .csl [.v (.int .u8 2), .v (.string ⟨#[97]⟩), .v (.int .u8 1), .v (.bool false), .v (.int .i64 0), .v (.int .i64 (-1))] 0 1 6, .v (.slice none 0 0), .v (.slice none 0 0)] 0 1 8, .csl [.v (.int .i64 0)] 0 1 1], .v (.int .i64 0), .v (.int .i64 0)])⟩
theorem KEc44_ok : Known.ok Tryz.prog KEc44 := Known.madeK (T := tab) (K := KE43) (n := 6000) KE43_ok mixed (by kernel_rfl)
def KE44 : KTab := KTab.add KE43 KEc44
theorem KE44_ok : KTab.ok Tryz.prog KE44 := KTab.ok_add KE43_ok KEc44_ok
/-- prog.Write -/
def KEc45 : Known := ⟨200, [.agg [.csl [.v (.string ⟨#[97]⟩), .v (.int .u8 2), .v (.int .u8 1)] 0 1 3, .csl [.v (.int .u8 1), .v (.int .u8 1), .v (.int .u8 0), .v (.string ⟨#[]⟩), .v (.int .i64 1), .csl [] 0 0 1] 0 1 6, .csl [.v (.int .u8 3), .v (.string ⟨#[]⟩), .v (.int .u8 0), .v (.int .i64 (-1)), .v (.int .i64 (-1)), .csl [.v (.int .u8 2), .v (.string ⟨#[97]⟩), .v (.int .u8 1), .v (.bool false), .v (.int .i64 0), .v (.int .i64 (-1))] 0 1 6, .csl [] 0 0 1, .csl [] 0 0 1] 0 1 8, .csl [.v (.int .i64 0)] 0 1 1]], true, .ret (.tuple [.csl [.v (.int .u8 1), .v (.string ⟨#[]⟩), .v (.int .i64 0), .csl [.v (.int .i64 1), .v (.int .i64 2)] 0 2 1, .v (.int .i64 0), .v (.int .u8 3), .v (.string ⟨#[110, 105, 110, 116]⟩), .v (.int .i64 0), .v (.slice none 0 0), .v (.int .i64 0), .v (.int .u8 3), .v (.string ⟨#[97]⟩), .v (.int .i64 0), .v (.slice none 0 0), .v (.int .i64 0), .v (.int .u8 1), .v (.string ⟨#[]⟩), .v (.int .i64 0), .csl [.v (.int .i64 4), .v (.int .i64 5)] 0 2 1, .v (.int .i64 0), .v (.int .u8 3), .v (.string ⟨#[101, 97, 99, 104]⟩), .v (.int .i64 0), .v (.slice none 0 0), .v (.int .i64 0), .v (.int .u8 1), .v (.string ⟨#[]⟩), .v (.int .i64 0), .csl [.v (.int .i64 6), .v (.int .i64 7), .v (.int .i64 8), .v (.int .i64 9), .v (.int .i64 10)] 0 5 1, .v (.int .i64 0), .v (.int .u8 3), .v (.string ⟨#[112, 117, 115, 104]⟩), .v (.int .i64 0), .v (.slice none 0 0), .v (.int .i64 0), .v (.int .u8 3), .v (.string ⟨#[97]⟩), .v (.int .i64 0), .v (.slice none 0 0), .v (.int .i64 0), .v (.int .u8 3), .v (.string ⟨#[43]⟩), .v (.int .i64 0), .v (.slice none 0 0), .v (.int .i64 0), .v (.int .u8 3), .v (.string ⟨#[111, 117, 116]⟩), .v (.int .i64 0), .v (.slice none 0 0), .v (.int .i64 0), .v (.int .u8 4), .v (.string ⟨#[]⟩), .v (.int .i64 1), .v (.slice none 0 0), .v (.int .i64 0)] 0 11 5, .csl [.v (.int .i64 0), .v (.int .i64 3)] 0 2 1, .v (.int .i64 0)])⟩
theorem KEc45_ok : Known.ok Tryz.prog KEc45 := Known.madeK (T := tab) (K := KE44) (n := 6000) KE44_ok mixed (by kernel_rfl)
def KE45 : KTab := KTab.add KE44 KEc45
theorem KE45_ok : KTab.ok Tryz.prog KE45 := KTab.ok_add KE44_ok KEc45_ok
end Go.Proofs.YtddiggiimeebkaaGreat
