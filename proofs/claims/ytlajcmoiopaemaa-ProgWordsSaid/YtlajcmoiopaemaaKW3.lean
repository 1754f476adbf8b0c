/- Pieces of a closed run: calls that are known by what they are told. Written by wip/known.py. -/
import Derived.Test.YtlajcmoiopaemaaKW2
set_option linter.unusedVariables false
noncomputable section
namespace Go.Proofs.Ytlajcmoiopaemaa
/-- tree.Right -/
def KWc31 : Known := ⟨36, [.csl [.v (.int .u8 1), .v (.string ⟨#[]⟩), .v (.int .i64 0), .csl [.v (.int .i64 1), .v (.int .i64 2), .v (.int .i64 3)] 0 3 1, .v (.int .i64 0), .v (.int .u8 3), .v (.string ⟨#[115, 101, 116]⟩), .v (.int .i64 0), .v (.slice none 0 0), .v (.int .i64 1), .v (.int .u8 3), .v (.string ⟨#[97]⟩), .v (.int .i64 0), .v (.slice none 0 0), .v (.int .i64 5), .v (.int .u8 1), .v (.string ⟨#[]⟩), .v (.int .i64 0), .csl [.v (.int .i64 4)] 0 1 1, .v (.int .i64 7), .v (.int .u8 3), .v (.string ⟨#[111, 119, 110]⟩), .v (.int .i64 0), .v (.slice none 0 0), .v (.int .i64 8)] 0 5 5, .csl [.v (.int .i64 0)] 0 1 1], false, .ret (.v (.bool true))⟩
theorem KWc31_ok : Known.ok Try.prog KWc31 := Known.madeK (T := tab) (K := KW30) (n := 6000) KW30_ok mixed (by kernel_rfl)
def KW31 : KTab := KTab.add KW30 KWc31
theorem KW31_ok : KTab.ok Try.prog KW31 := KTab.ok_add KW30_ok KWc31_ok
/-- prog.ReadOp -/
def KWc32 : Known := ⟨4, [.v (.string ⟨#[111, 119, 110]⟩)], false, .ret (.tuple [.v (.int .u8 0), .v (.bool false)])⟩
theorem KWc32_ok : Known.ok Try.prog KWc32 := Known.madeK (T := tab) (K := KW31) (n := 6000) KW31_ok mixed (by kernel_rfl)
def KW32 : KTab := KTab.add KW31 KWc32
theorem KW32_ok : KTab.ok Try.prog KW32 := KTab.ok_add KW31_ok KWc32_ok
/-- prog.Read -/
def KWc33 : Known := ⟨25, [.csl [.v (.int .u8 1), .v (.string ⟨#[]⟩), .v (.int .i64 0), .csl [.v (.int .i64 1), .v (.int .i64 2), .v (.int .i64 3)] 0 3 1, .v (.int .i64 0), .v (.int .u8 3), .v (.string ⟨#[115, 101, 116]⟩), .v (.int .i64 0), .v (.slice none 0 0), .v (.int .i64 1), .v (.int .u8 3), .v (.string ⟨#[97]⟩), .v (.int .i64 0), .v (.slice none 0 0), .v (.int .i64 5), .v (.int .u8 1), .v (.string ⟨#[]⟩), .v (.int .i64 0), .csl [.v (.int .i64 4)] 0 1 1, .v (.int .i64 7), .v (.int .u8 3), .v (.string ⟨#[111, 119, 110]⟩), .v (.int .i64 0), .v (.slice none 0 0), .v (.int .i64 8)] 0 5 5, .csl [.v (.int .i64 0)] 0 1 1], false, .ret (.tuple [.agg [.v (.slice none 0 0), .v (.slice none 0 0), .v (.slice none 0 0), .v (.slice none 0 0)], .v (.int .i64 7), .v (.int .i64 8)])⟩
theorem KWc33_ok : Known.ok Try.prog KWc33 := Known.madeK (T := tab) (K := KW32) (n := 6000) KW32_ok mixed (by kernel_rfl)
def KW33 : KTab := KTab.add KW32 KWc33
theorem KW33_ok : KTab.ok Try.prog KW33 := KTab.ok_add KW32_ok KWc33_ok
/-- prog.Source -/
def KWc34 : Known := ⟨13, [.v (.string ⟨#[40, 115, 101, 116, 32, 97, 32, 40, 111, 119, 110, 41, 41]⟩)], false, .ret (.tuple [.agg [.v (.slice none 0 0), .v (.slice none 0 0), .v (.slice none 0 0), .v (.slice none 0 0)], .v (.int .i64 7), .v (.int .i64 8)])⟩
theorem KWc34_ok : Known.ok Try.prog KWc34 := Known.madeK (T := tab) (K := KW33) (n := 6000) KW33_ok mixed (by kernel_rfl)
def KW34 : KTab := KTab.add KW33 KWc34
theorem KW34_ok : KTab.ok Try.prog KW34 := KTab.ok_add KW33_ok KWc34_ok
/-- prog.ReadOp -/
def KWc35 : Known := ⟨4, [.v (.string ⟨#[110, 97, 114, 114, 111, 119]⟩)], false, .ret (.tuple [.v (.int .u8 19), .v (.bool true)])⟩
theorem KWc35_ok : Known.ok Try.prog KWc35 := Known.madeK (T := tab) (K := KW34) (n := 6000) KW34_ok mixed (by kernel_rfl)
def KW35 : KTab := KTab.add KW34 KWc35
theorem KW35_ok : KTab.ok Try.prog KW35 := KTab.ok_add KW34_ok KWc35_ok
/-- prog.OpWord -/
def KWc36 : Known := ⟨8, [.v (.int .u8 13)], false, .ret (.v (.string ⟨#[61]⟩))⟩
theorem KWc36_ok : Known.ok Try.prog KWc36 := Known.madeK (T := tab) (K := KW35) (n := 6000) KW35_ok mixed (by kernel_rfl)
def KW36 : KTab := KTab.add KW35 KWc36
theorem KW36_ok : KTab.ok Try.prog KW36 := KTab.ok_add KW35_ok KWc36_ok
end Go.Proofs.Ytlajcmoiopaemaa
