/- Pieces of a closed run: calls that are known by what they are told. Written by wip/known.py. -/
import Derived.Test.YtlajcmoiopaemaaKW0
set_option linter.unusedVariables false
noncomputable section
namespace Go.Proofs.Ytlajcmoiopaemaa
/-- num.Parse -/
def KWc1 : Known := ⟨47, [.v (.string ⟨#[105, 110, 116]⟩)], false, .ret (.tuple [.v (.int .i64 0), .v (.int .i64 3)])⟩
theorem KWc1_ok : Known.ok Try.prog KWc1 := Known.madeK (T := tab) (K := KW0) (n := 6000) KW0_ok mixed (by kernel_rfl)
def KW1 : KTab := KTab.add KW0 KWc1
theorem KW1_ok : KTab.ok Try.prog KW1 := KTab.ok_add KW0_ok KWc1_ok
/-- lex.WordKind -/
def KWc2 : Known := ⟨46, [.v (.string ⟨#[105, 110, 116]⟩)], false, .ret (.v (.int .u8 3))⟩
theorem KWc2_ok : Known.ok Try.prog KWc2 := Known.madeK (T := tab) (K := KW1) (n := 6000) KW1_ok mixed (by kernel_rfl)
def KW2 : KTab := KTab.add KW1 KWc2
theorem KW2_ok : KTab.ok Try.prog KW2 := KTab.ok_add KW1_ok KWc2_ok
/-- num.Parse -/
def KWc3 : Known := ⟨47, [.v (.string ⟨#[97]⟩)], false, .ret (.tuple [.v (.int .i64 0), .v (.int .i64 3)])⟩
theorem KWc3_ok : Known.ok Try.prog KWc3 := Known.madeK (T := tab) (K := KW2) (n := 6000) KW2_ok mixed (by kernel_rfl)
def KW3 : KTab := KTab.add KW2 KWc3
theorem KW3_ok : KTab.ok Try.prog KW3 := KTab.ok_add KW2_ok KWc3_ok
/-- lex.WordKind -/
def KWc4 : Known := ⟨46, [.v (.string ⟨#[97]⟩)], false, .ret (.v (.int .u8 3))⟩
theorem KWc4_ok : Known.ok Try.prog KWc4 := Known.madeK (T := tab) (K := KW3) (n := 6000) KW3_ok mixed (by kernel_rfl)
def KW4 : KTab := KTab.add KW3 KWc4
theorem KW4_ok : KTab.ok Try.prog KW4 := KTab.ok_add KW3_ok KWc4_ok
/-- num.Parse -/
def KWc5 : Known := ⟨47, [.v (.string ⟨#[115, 101, 116]⟩)], false, .ret (.tuple [.v (.int .i64 0), .v (.int .i64 3)])⟩
theorem KWc5_ok : Known.ok Try.prog KWc5 := Known.madeK (T := tab) (K := KW4) (n := 6000) KW4_ok mixed (by kernel_rfl)
def KW5 : KTab := KTab.add KW4 KWc5
theorem KW5_ok : KTab.ok Try.prog KW5 := KTab.ok_add KW4_ok KWc5_ok
/-- lex.WordKind -/
def KWc6 : Known := ⟨46, [.v (.string ⟨#[115, 101, 116]⟩)], false, .ret (.v (.int .u8 3))⟩
theorem KWc6_ok : Known.ok Try.prog KWc6 := Known.madeK (T := tab) (K := KW5) (n := 6000) KW5_ok mixed (by kernel_rfl)
def KW6 : KTab := KTab.add KW5 KWc6
theorem KW6_ok : KTab.ok Try.prog KW6 := KTab.ok_add KW5_ok KWc6_ok
/-- num.Parse -/
def KWc7 : Known := ⟨47, [.v (.string ⟨#[43]⟩)], false, .ret (.tuple [.v (.int .i64 0), .v (.int .i64 3)])⟩
theorem KWc7_ok : Known.ok Try.prog KWc7 := Known.madeK (T := tab) (K := KW6) (n := 6000) KW6_ok mixed (by kernel_rfl)
def KW7 : KTab := KTab.add KW6 KWc7
theorem KW7_ok : KTab.ok Try.prog KW7 := KTab.ok_add KW6_ok KWc7_ok
/-- lex.WordKind -/
def KWc8 : Known := ⟨46, [.v (.string ⟨#[43]⟩)], false, .ret (.v (.int .u8 3))⟩
theorem KWc8_ok : Known.ok Try.prog KWc8 := Known.madeK (T := tab) (K := KW7) (n := 6000) KW7_ok mixed (by kernel_rfl)
def KW8 : KTab := KTab.add KW7 KWc8
theorem KW8_ok : KTab.ok Try.prog KW8 := KTab.ok_add KW7_ok KWc8_ok
/-- num.Parse -/
def KWc9 : Known := ⟨47, [.v (.string ⟨#[49]⟩)], false, .ret (.tuple [.v (.int .i64 1), .v (.int .i64 0)])⟩
theorem KWc9_ok : Known.ok Try.prog KWc9 := Known.madeK (T := tab) (K := KW8) (n := 6000) KW8_ok mixed (by kernel_rfl)
def KW9 : KTab := KTab.add KW8 KWc9
theorem KW9_ok : KTab.ok Try.prog KW9 := KTab.ok_add KW8_ok KWc9_ok
/-- lex.WordKind -/
def KWc10 : Known := ⟨46, [.v (.string ⟨#[49]⟩)], false, .ret (.v (.int .u8 4))⟩
theorem KWc10_ok : Known.ok Try.prog KWc10 := Known.madeK (T := tab) (K := KW9) (n := 6000) KW9_ok mixed (by kernel_rfl)
def KW10 : KTab := KTab.add KW9 KWc10
theorem KW10_ok : KTab.ok Try.prog KW10 := KTab.ok_add KW9_ok KWc10_ok
/-- num.Parse -/
def KWc11 : Known := ⟨47, [.v (.string ⟨#[50]⟩)], false, .ret (.tuple [.v (.int .i64 2), .v (.int .i64 0)])⟩
theorem KWc11_ok : Known.ok Try.prog KWc11 := Known.madeK (T := tab) (K := KW10) (n := 6000) KW10_ok mixed (by kernel_rfl)
def KW11 : KTab := KTab.add KW10 KWc11
theorem KW11_ok : KTab.ok Try.prog KW11 := KTab.ok_add KW10_ok KWc11_ok
/-- lex.WordKind -/
def KWc12 : Known := ⟨46, [.v (.string ⟨#[50]⟩)], false, .ret (.v (.int .u8 4))⟩
theorem KWc12_ok : Known.ok Try.prog KWc12 := Known.madeK (T := tab) (K := KW11) (n := 6000) KW11_ok mixed (by kernel_rfl)
def KW12 : KTab := KTab.add KW11 KWc12
theorem KW12_ok : KTab.ok Try.prog KW12 := KTab.ok_add KW11_ok KWc12_ok
/-- lex.Tokens -/
def KWc13 : Known := ⟨23, [.v (.string ⟨#[40, 105, 110, 116, 32, 97, 41, 32, 40, 115, 101, 116, 32, 97, 32, 40, 43, 32, 49, 32, 50, 41, 41]⟩)], false, .ret (.tuple [.csl [.v (.int .u8 1), .v (.string ⟨#[40]⟩), .v (.int .i64 0), .v (.int .i64 0), .v (.int .u8 3), .v (.string ⟨#[105, 110, 116]⟩), .v (.int .i64 0), .v (.int .i64 1), .v (.int .u8 3), .v (.string ⟨#[97]⟩), .v (.int .i64 0), .v (.int .i64 5), .v (.int .u8 2), .v (.string ⟨#[41]⟩), .v (.int .i64 0), .v (.int .i64 6), .v (.int .u8 1), .v (.string ⟨#[40]⟩), .v (.int .i64 0), .v (.int .i64 8), .v (.int .u8 3), .v (.string ⟨#[115, 101, 116]⟩), .v (.int .i64 0), .v (.int .i64 9), .v (.int .u8 3), .v (.string ⟨#[97]⟩), .v (.int .i64 0), .v (.int .i64 13), .v (.int .u8 1), .v (.string ⟨#[40]⟩), .v (.int .i64 0), .v (.int .i64 15), .v (.int .u8 3), .v (.string ⟨#[43]⟩), .v (.int .i64 0), .v (.int .i64 16), .v (.int .u8 4), .v (.string ⟨#[49]⟩), .v (.int .i64 1), .v (.int .i64 18), .v (.int .u8 4), .v (.string ⟨#[50]⟩), .v (.int .i64 2), .v (.int .i64 20), .v (.int .u8 2), .v (.string ⟨#[41]⟩), .v (.int .i64 0), .v (.int .i64 21), .v (.int .u8 2), .v (.string ⟨#[41]⟩), .v (.int .i64 0), .v (.int .i64 22)] 0 13 4, .v (.int .i64 0), .v (.int .i64 0)])⟩
theorem KWc13_ok : Known.ok Try.prog KWc13 := Known.madeK (T := tab) (K := KW12) (n := 6000) KW12_ok mixed (by kernel_rfl)
def KW13 : KTab := KTab.add KW12 KWc13
theorem KW13_ok : KTab.ok Try.prog KW13 := KTab.ok_add KW12_ok KWc13_ok
/-- tree.Parse -/
def KWc14 : Known := ⟨24, [.csl [.v (.int .u8 1), .v (.string ⟨#[40]⟩), .v (.int .i64 0), .v (.int .i64 0), .v (.int .u8 3), .v (.string ⟨#[105, 110, 116]⟩), .v (.int .i64 0), .v (.int .i64 1), .v (.int .u8 3), .v (.string ⟨#[97]⟩), .v (.int .i64 0), .v (.int .i64 5), .v (.int .u8 2), .v (.string ⟨#[41]⟩), .v (.int .i64 0), .v (.int .i64 6), .v (.int .u8 1), .v (.string ⟨#[40]⟩), .v (.int .i64 0), .v (.int .i64 8), .v (.int .u8 3), .v (.string ⟨#[115, 101, 116]⟩), .v (.int .i64 0), .v (.int .i64 9), .v (.int .u8 3), .v (.string ⟨#[97]⟩), .v (.int .i64 0), .v (.int .i64 13), .v (.int .u8 1), .v (.string ⟨#[40]⟩), .v (.int .i64 0), .v (.int .i64 15), .v (.int .u8 3), .v (.string ⟨#[43]⟩), .v (.int .i64 0), .v (.int .i64 16), .v (.int .u8 4), .v (.string ⟨#[49]⟩), .v (.int .i64 1), .v (.int .i64 18), .v (.int .u8 4), .v (.string ⟨#[50]⟩), .v (.int .i64 2), .v (.int .i64 20), .v (.int .u8 2), .v (.string ⟨#[41]⟩), .v (.int .i64 0), .v (.int .i64 21), .v (.int .u8 2), .v (.string ⟨#[41]⟩), .v (.int .i64 0), .v (.int .i64 22)] 0 13 4], false, .ret (.tuple [.csl [.v (.int .u8 1), .v (.string ⟨#[]⟩), .v (.int .i64 0), .csl [.v (.int .i64 1), .v (.int .i64 2)] 0 2 1, .v (.int .i64 0), .v (.int .u8 3), .v (.string ⟨#[105, 110, 116]⟩), .v (.int .i64 0), .v (.slice none 0 0), .v (.int .i64 1), .v (.int .u8 3), .v (.string ⟨#[97]⟩), .v (.int .i64 0), .v (.slice none 0 0), .v (.int .i64 5), .v (.int .u8 1), .v (.string ⟨#[]⟩), .v (.int .i64 0), .csl [.v (.int .i64 4), .v (.int .i64 5), .v (.int .i64 6)] 0 3 1, .v (.int .i64 8), .v (.int .u8 3), .v (.string ⟨#[115, 101, 116]⟩), .v (.int .i64 0), .v (.slice none 0 0), .v (.int .i64 9), .v (.int .u8 3), .v (.string ⟨#[97]⟩), .v (.int .i64 0), .v (.slice none 0 0), .v (.int .i64 13), .v (.int .u8 1), .v (.string ⟨#[]⟩), .v (.int .i64 0), .csl [.v (.int .i64 7), .v (.int .i64 8), .v (.int .i64 9)] 0 3 1, .v (.int .i64 15), .v (.int .u8 3), .v (.string ⟨#[43]⟩), .v (.int .i64 0), .v (.slice none 0 0), .v (.int .i64 16), .v (.int .u8 4), .v (.string ⟨#[]⟩), .v (.int .i64 1), .v (.slice none 0 0), .v (.int .i64 18), .v (.int .u8 4), .v (.string ⟨#[]⟩), .v (.int .i64 2), .v (.slice none 0 0), .v (.int .i64 20)] 0 10 5, .csl [.v (.int .i64 0), .v (.int .i64 3)] 0 2 1, .v (.int .i64 0), .v (.int .i64 0)])⟩
theorem KWc14_ok : Known.ok Try.prog KWc14 := Known.madeK (T := tab) (K := KW13) (n := 6000) KW13_ok mixed (by kernel_rfl)
def KW14 : KTab := KTab.add KW13 KWc14
theorem KW14_ok : KTab.ok Try.prog KW14 := KTab.ok_add KW13_ok KWc14_ok
/-- tree.Right -/
def KWc15 : Known := ⟨36, [.csl [.v (.int .u8 1), .v (.string ⟨#[]⟩), .v (.int .i64 0), .csl [.v (.int .i64 1), .v (.int .i64 2)] 0 2 1, .v (.int .i64 0), .v (.int .u8 3), .v (.string ⟨#[105, 110, 116]⟩), .v (.int .i64 0), .v (.slice none 0 0), .v (.int .i64 1), .v (.int .u8 3), .v (.string ⟨#[97]⟩), .v (.int .i64 0), .v (.slice none 0 0), .v (.int .i64 5), .v (.int .u8 1), .v (.string ⟨#[]⟩), .v (.int .i64 0), .csl [.v (.int .i64 4), .v (.int .i64 5), .v (.int .i64 6)] 0 3 1, .v (.int .i64 8), .v (.int .u8 3), .v (.string ⟨#[115, 101, 116]⟩), .v (.int .i64 0), .v (.slice none 0 0), .v (.int .i64 9), .v (.int .u8 3), .v (.string ⟨#[97]⟩), .v (.int .i64 0), .v (.slice none 0 0), .v (.int .i64 13), .v (.int .u8 1), .v (.string ⟨#[]⟩), .v (.int .i64 0), .csl [.v (.int .i64 7), .v (.int .i64 8), .v (.int .i64 9)] 0 3 1, .v (.int .i64 15), .v (.int .u8 3), .v (.string ⟨#[43]⟩), .v (.int .i64 0), .v (.slice none 0 0), .v (.int .i64 16), .v (.int .u8 4), .v (.string ⟨#[]⟩), .v (.int .i64 1), .v (.slice none 0 0), .v (.int .i64 18), .v (.int .u8 4), .v (.string ⟨#[]⟩), .v (.int .i64 2), .v (.slice none 0 0), .v (.int .i64 20)] 0 10 5, .csl [.v (.int .i64 0), .v (.int .i64 3)] 0 2 1], false, .ret (.v (.bool true))⟩
theorem KWc15_ok : Known.ok Try.prog KWc15 := Known.madeK (T := tab) (K := KW14) (n := 6000) KW14_ok mixed (by kernel_rfl)
def KW15 : KTab := KTab.add KW14 KWc15
theorem KW15_ok : KTab.ok Try.prog KW15 := KTab.ok_add KW14_ok KWc15_ok
end Go.Proofs.Ytlajcmoiopaemaa
