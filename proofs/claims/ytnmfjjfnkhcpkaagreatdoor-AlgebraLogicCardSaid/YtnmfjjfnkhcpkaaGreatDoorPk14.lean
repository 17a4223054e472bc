/- lives(): the probe of the laws (printed by a program: calls that are proved by themselves, then the whole). -/
import Derived.Test.YtnmfjjfnkhcpkaaGreatDoorPk13
set_option linter.all false
namespace Go.Fw
theorem smallL {f : Nat} (h : Nat.blt f 1000000 = true) : f < yBase := by unfold yBase; exact Nat.le_of_ble_eq_true h
def lt0 : List (FuncId × List V × V) := []
theorem lt0_ok : TabOk C1 lt0 := TabOk.nil
def la1 : List V := [.str ⟨#[40, 102, 114, 111, 109, 32, 116, 32, 40, 103, 101, 116, 32, 40, 115, 117, 109, 32, 97, 41, 32, 40, 99, 111, 117, 110, 116, 41, 41, 41]⟩]
def lr1 : V := (.tup [.imm false 4 [.agg [.int .u8 (1), .str ⟨#[]⟩, .int .i64 (0), .int .i64 (0)], .agg [.int .u8 (3), .str ⟨#[102, 114, 111, 109]⟩, .int .i64 (0), .int .i64 (1)], .agg [.int .u8 (3), .str ⟨#[116]⟩, .int .i64 (0), .int .i64 (6)], .agg [.int .u8 (1), .str ⟨#[]⟩, .int .i64 (0), .int .i64 (8)], .agg [.int .u8 (3), .str ⟨#[103, 101, 116]⟩, .int .i64 (0), .int .i64 (9)], .agg [.int .u8 (1), .str ⟨#[]⟩, .int .i64 (0), .int .i64 (13)], .agg [.int .u8 (3), .str ⟨#[115, 117, 109]⟩, .int .i64 (0), .int .i64 (14)], .agg [.int .u8 (3), .str ⟨#[97]⟩, .int .i64 (0), .int .i64 (18)], .agg [.int .u8 (2), .str ⟨#[]⟩, .int .i64 (0), .int .i64 (19)], .agg [.int .u8 (1), .str ⟨#[]⟩, .int .i64 (0), .int .i64 (21)], .agg [.int .u8 (3), .str ⟨#[99, 111, 117, 110, 116]⟩, .int .i64 (0), .int .i64 (22)], .agg [.int .u8 (2), .str ⟨#[]⟩, .int .i64 (0), .int .i64 (27)], .agg [.int .u8 (2), .str ⟨#[]⟩, .int .i64 (0), .int .i64 (28)], .agg [.int .u8 (2), .str ⟨#[]⟩, .int .i64 (0), .int .i64 (29)]], .int .i64 (0), .int .i64 (0)])
theorem lc1 : Sp C1 134 la1 lr1 := Sp.ofVb (h' := []) (vcallT_sound c1_p draws.d lt0_ok 300) (by kernel_rfl) (smallL rfl) (by kernel_rfl)
def lt1 : List (FuncId × List V × V) := (134, la1, lr1) :: lt0
theorem lt1_ok : TabOk C1 lt1 := lt0_ok.cons lc1
def la2 : List V := [.str ⟨#[40, 102, 114, 111, 109, 32, 116, 32, 40, 103, 101, 116, 32, 40, 115, 117, 109, 32, 97, 41, 32, 40, 99, 111, 117, 110, 116, 41, 41, 41]⟩]
def lr2 : V := (.tup [.agg [.imm false 2 [.agg [.int .u8 (2), .imm false 3 [.agg [.int .u8 (6), .str ⟨#[97]⟩, .int .i64 (0)]]], .agg [.int .u8 (1), .nils]], .str ⟨#[116]⟩, .str ⟨#[]⟩, .str ⟨#[]⟩, .str ⟨#[]⟩, .nils, .nils], .int .i64 (0), .int .i64 (0)])
theorem lc2 : Sp C1 70 la2 lr2 := Sp.ofVb (h' := []) (vcallT_sound c1_p draws.d lt1_ok 300) (by kernel_rfl) (smallL rfl) (by kernel_rfl)
def lt2 : List (FuncId × List V × V) := (70, la2, lr2) :: lt1
theorem lt2_ok : TabOk C1 lt2 := lt1_ok.cons lc2
def la3 : List V := [.agg [.imm false 2 [.agg [.int .u8 (2), .imm false 3 [.agg [.int .u8 (6), .str ⟨#[97]⟩, .int .i64 (0)]]], .agg [.int .u8 (1), .nils]], .str ⟨#[116]⟩, .str ⟨#[]⟩, .str ⟨#[]⟩, .str ⟨#[]⟩, .nils, .nils], .imm true 3 [.agg [.str ⟨#[116]⟩, .imm true 2 [.agg [.str ⟨#[97]⟩, .int .u8 (2)]], .imm true 1 [.imm true 4 [.agg [.int .u8 (2), .bool false, .int .i64 (1), .str ⟨#[]⟩]], .imm true 4 [.agg [.int .u8 (0), .bool false, .int .i64 (0), .str ⟨#[]⟩]], .imm true 4 [.agg [.int .u8 (2), .bool false, .int .i64 (3), .str ⟨#[]⟩]]]]]]
def lr3 : V := (.tup [.agg [.str ⟨#[116]⟩, .str ⟨#[]⟩, .int .i64 (0), .int .i64 (0), .int .i64 (0), .nils, .nils, .imm false 2 [.agg [.int .u8 (2), .imm false 3 [.agg [.int .u8 (6), .str ⟨#[]⟩, .int .i64 (0)]]], .agg [.int .u8 (1), .nils]], .bool true, .imm false 1 [.str ⟨#[99, 49]⟩, .str ⟨#[99, 50]⟩], .imm false 1 [.int .u8 (2), .int .u8 (2)]], .int .i64 (0)])
theorem lc3 : Sp C1 71 la3 lr3 := Sp.ofVb (h' := []) (vcallT_sound c1_p draws.d lt2_ok 300) (by kernel_rfl) (smallL rfl) (by kernel_rfl)
def lt3 : List (FuncId × List V × V) := (71, la3, lr3) :: lt2
theorem lt3_ok : TabOk C1 lt3 := lt2_ok.cons lc3
def la4 : List V := [.agg [.str ⟨#[116]⟩, .str ⟨#[]⟩, .int .i64 (0), .int .i64 (0), .int .i64 (0), .nils, .nils, .imm false 2 [.agg [.int .u8 (2), .imm false 3 [.agg [.int .u8 (6), .str ⟨#[]⟩, .int .i64 (0)]]], .agg [.int .u8 (1), .nils]], .bool true, .imm false 1 [.str ⟨#[99, 49]⟩, .str ⟨#[99, 50]⟩], .imm false 1 [.int .u8 (2), .int .u8 (2)]], .imm true 3 [.agg [.str ⟨#[116]⟩, .imm true 2 [.agg [.str ⟨#[97]⟩, .int .u8 (2)]], .imm true 1 [.imm true 4 [.agg [.int .u8 (2), .bool false, .int .i64 (1), .str ⟨#[]⟩]], .imm true 4 [.agg [.int .u8 (0), .bool false, .int .i64 (0), .str ⟨#[]⟩]], .imm true 4 [.agg [.int .u8 (2), .bool false, .int .i64 (3), .str ⟨#[]⟩]]]]]]
def lr4 : V := (.bool true)
theorem lc4 : Sp C1 35 la4 lr4 := Sp.ofVb (h' := []) (vcallT_sound c1_p draws.d lt3_ok 300) (by kernel_rfl) (smallL rfl) (by kernel_rfl)
def lt4 : List (FuncId × List V × V) := (35, la4, lr4) :: lt3
theorem lt4_ok : TabOk C1 lt4 := lt3_ok.cons lc4
def la5 : List V := [.str ⟨#[40, 102, 114, 111, 109, 32, 116, 32, 40, 119, 104, 101, 114, 101, 32, 40, 62, 32, 97, 32, 53, 41, 41, 32, 40, 103, 101, 116, 32, 40, 115, 117, 109, 32, 97, 41, 32, 40, 99, 111, 117, 110, 116, 41, 41, 41]⟩]
def lr5 : V := (.tup [.imm false 4 [.agg [.int .u8 (1), .str ⟨#[]⟩, .int .i64 (0), .int .i64 (0)], .agg [.int .u8 (3), .str ⟨#[102, 114, 111, 109]⟩, .int .i64 (0), .int .i64 (1)], .agg [.int .u8 (3), .str ⟨#[116]⟩, .int .i64 (0), .int .i64 (6)], .agg [.int .u8 (1), .str ⟨#[]⟩, .int .i64 (0), .int .i64 (8)], .agg [.int .u8 (3), .str ⟨#[119, 104, 101, 114, 101]⟩, .int .i64 (0), .int .i64 (9)], .agg [.int .u8 (1), .str ⟨#[]⟩, .int .i64 (0), .int .i64 (15)], .agg [.int .u8 (3), .str ⟨#[62]⟩, .int .i64 (0), .int .i64 (16)], .agg [.int .u8 (3), .str ⟨#[97]⟩, .int .i64 (0), .int .i64 (18)], .agg [.int .u8 (4), .str ⟨#[]⟩, .int .i64 (5), .int .i64 (20)], .agg [.int .u8 (2), .str ⟨#[]⟩, .int .i64 (0), .int .i64 (21)], .agg [.int .u8 (2), .str ⟨#[]⟩, .int .i64 (0), .int .i64 (22)], .agg [.int .u8 (1), .str ⟨#[]⟩, .int .i64 (0), .int .i64 (24)], .agg [.int .u8 (3), .str ⟨#[103, 101, 116]⟩, .int .i64 (0), .int .i64 (25)], .agg [.int .u8 (1), .str ⟨#[]⟩, .int .i64 (0), .int .i64 (29)], .agg [.int .u8 (3), .str ⟨#[115, 117, 109]⟩, .int .i64 (0), .int .i64 (30)], .agg [.int .u8 (3), .str ⟨#[97]⟩, .int .i64 (0), .int .i64 (34)], .agg [.int .u8 (2), .str ⟨#[]⟩, .int .i64 (0), .int .i64 (35)], .agg [.int .u8 (1), .str ⟨#[]⟩, .int .i64 (0), .int .i64 (37)], .agg [.int .u8 (3), .str ⟨#[99, 111, 117, 110, 116]⟩, .int .i64 (0), .int .i64 (38)], .agg [.int .u8 (2), .str ⟨#[]⟩, .int .i64 (0), .int .i64 (43)], .agg [.int .u8 (2), .str ⟨#[]⟩, .int .i64 (0), .int .i64 (44)], .agg [.int .u8 (2), .str ⟨#[]⟩, .int .i64 (0), .int .i64 (45)]], .int .i64 (0), .int .i64 (0)])
theorem lc5 : Sp C1 134 la5 lr5 := Sp.ofVb (h' := []) (vcallT_sound c1_p draws.d lt4_ok 300) (by kernel_rfl) (smallL rfl) (by kernel_rfl)
def lt5 : List (FuncId × List V × V) := (134, la5, lr5) :: lt4
theorem lt5_ok : TabOk C1 lt5 := lt4_ok.cons lc5
def la6 : List V := [.str ⟨#[110, 101, 103, 32, 110, 111, 116, 32, 110, 117, 108, 108, 63, 32, 108, 101, 110, 103, 116, 104, 32, 43, 32, 45, 32, 42, 32, 61, 32, 60, 62, 32, 60, 32, 60, 61, 32, 62, 32, 62, 61, 32, 97, 110, 100, 32, 111, 114]⟩]
def lr6 : V := (.imm false 1 [.str ⟨#[110, 101, 103]⟩, .str ⟨#[110, 111, 116]⟩, .str ⟨#[110, 117, 108, 108, 63]⟩, .str ⟨#[108, 101, 110, 103, 116, 104]⟩, .str ⟨#[43]⟩, .str ⟨#[45]⟩, .str ⟨#[42]⟩, .str ⟨#[61]⟩, .str ⟨#[60, 62]⟩, .str ⟨#[60]⟩, .str ⟨#[60, 61]⟩, .str ⟨#[62]⟩, .str ⟨#[62, 61]⟩, .str ⟨#[97, 110, 100]⟩, .str ⟨#[111, 114]⟩])
theorem lc6 : Sp C1 282 la6 lr6 := Sp.ofVb (h' := []) (vcallT_sound c1_p draws.d lt5_ok 300) (by kernel_rfl) (smallL rfl) (by kernel_rfl)
def lt6 : List (FuncId × List V × V) := (282, la6, lr6) :: lt5
theorem lt6_ok : TabOk C1 lt6 := lt5_ok.cons lc6
def la7 : List V := [.agg [.imm false 2 [.agg [.int .u8 (2), .imm false 3 [.agg [.int .u8 (6), .str ⟨#[97]⟩, .int .i64 (0)]]], .agg [.int .u8 (1), .nils]], .str ⟨#[116]⟩, .str ⟨#[]⟩, .str ⟨#[]⟩, .str ⟨#[]⟩, .imm false 3 [.agg [.int .u8 (6), .str ⟨#[97]⟩, .int .i64 (0)], .agg [.int .u8 (4), .str ⟨#[]⟩, .int .i64 (5)], .agg [.int .u8 (18), .str ⟨#[]⟩, .int .i64 (0)]], .nils]]
def lr7 : V := (.int .i64 (0))
theorem lc7 : Sp C1 138 la7 lr7 := Sp.ofVb (h' := []) (vcallT_sound c1_p draws.d lt6_ok 300) (by kernel_rfl) (smallL rfl) (by kernel_rfl)
def lt7 : List (FuncId × List V × V) := (138, la7, lr7) :: lt6
theorem lt7_ok : TabOk C1 lt7 := lt6_ok.cons lc7
def la8 : List V := [.str ⟨#[40, 102, 114, 111, 109, 32, 116, 32, 40, 119, 104, 101, 114, 101, 32, 40, 62, 32, 97, 32, 53, 41, 41, 32, 40, 103, 101, 116, 32, 40, 115, 117, 109, 32, 97, 41, 32, 40, 99, 111, 117, 110, 116, 41, 41, 41]⟩]
def lr8 : V := (.tup [.agg [.imm false 2 [.agg [.int .u8 (2), .imm false 3 [.agg [.int .u8 (6), .str ⟨#[97]⟩, .int .i64 (0)]]], .agg [.int .u8 (1), .nils]], .str ⟨#[116]⟩, .str ⟨#[]⟩, .str ⟨#[]⟩, .str ⟨#[]⟩, .imm false 3 [.agg [.int .u8 (6), .str ⟨#[97]⟩, .int .i64 (0)], .agg [.int .u8 (4), .str ⟨#[]⟩, .int .i64 (5)], .agg [.int .u8 (18), .str ⟨#[]⟩, .int .i64 (0)]], .nils], .int .i64 (0), .int .i64 (0)])
theorem lc8 : Sp C1 70 la8 lr8 := Sp.ofVb (h' := []) (vcallT_sound c1_p draws.d lt7_ok 300) (by kernel_rfl) (smallL rfl) (by kernel_rfl)
def lt8 : List (FuncId × List V × V) := (70, la8, lr8) :: lt7
theorem lt8_ok : TabOk C1 lt8 := lt7_ok.cons lc8
def la9 : List V := [.agg [.imm false 2 [.agg [.int .u8 (2), .imm false 3 [.agg [.int .u8 (6), .str ⟨#[97]⟩, .int .i64 (0)]]], .agg [.int .u8 (1), .nils]], .str ⟨#[116]⟩, .str ⟨#[]⟩, .str ⟨#[]⟩, .str ⟨#[]⟩, .imm false 3 [.agg [.int .u8 (6), .str ⟨#[97]⟩, .int .i64 (0)], .agg [.int .u8 (4), .str ⟨#[]⟩, .int .i64 (5)], .agg [.int .u8 (18), .str ⟨#[]⟩, .int .i64 (0)]], .nils], .imm true 3 [.agg [.str ⟨#[116]⟩, .imm true 2 [.agg [.str ⟨#[97]⟩, .int .u8 (2)]], .imm true 1 [.imm true 4 [.agg [.int .u8 (2), .bool false, .int .i64 (1), .str ⟨#[]⟩]], .imm true 4 [.agg [.int .u8 (0), .bool false, .int .i64 (0), .str ⟨#[]⟩]], .imm true 4 [.agg [.int .u8 (2), .bool false, .int .i64 (3), .str ⟨#[]⟩]]]]]]
def lr9 : V := (.tup [.agg [.str ⟨#[116]⟩, .str ⟨#[]⟩, .int .i64 (0), .int .i64 (0), .int .i64 (0), .imm false 3 [.agg [.int .u8 (6), .str ⟨#[]⟩, .int .i64 (0)], .agg [.int .u8 (4), .str ⟨#[]⟩, .int .i64 (5)], .agg [.int .u8 (18), .str ⟨#[]⟩, .int .i64 (0)]], .nils, .imm false 2 [.agg [.int .u8 (2), .imm false 3 [.agg [.int .u8 (6), .str ⟨#[]⟩, .int .i64 (0)]]], .agg [.int .u8 (1), .nils]], .bool true, .imm false 1 [.str ⟨#[99, 49]⟩, .str ⟨#[99, 50]⟩], .imm false 1 [.int .u8 (2), .int .u8 (2)]], .int .i64 (0)])
theorem lc9 : Sp C1 71 la9 lr9 := Sp.ofVb (h' := []) (vcallT_sound c1_p draws.d lt8_ok 300) (by kernel_rfl) (smallL rfl) (by kernel_rfl)
def lt9 : List (FuncId × List V × V) := (71, la9, lr9) :: lt8
theorem lt9_ok : TabOk C1 lt9 := lt8_ok.cons lc9
def la10 : List V := [.agg [.str ⟨#[116]⟩, .str ⟨#[]⟩, .int .i64 (0), .int .i64 (0), .int .i64 (0), .imm false 3 [.agg [.int .u8 (6), .str ⟨#[]⟩, .int .i64 (0)], .agg [.int .u8 (4), .str ⟨#[]⟩, .int .i64 (5)], .agg [.int .u8 (18), .str ⟨#[]⟩, .int .i64 (0)]], .nils, .imm false 2 [.agg [.int .u8 (2), .imm false 3 [.agg [.int .u8 (6), .str ⟨#[]⟩, .int .i64 (0)]]], .agg [.int .u8 (1), .nils]], .bool true, .imm false 1 [.str ⟨#[99, 49]⟩, .str ⟨#[99, 50]⟩], .imm false 1 [.int .u8 (2), .int .u8 (2)]], .imm true 3 [.agg [.str ⟨#[116]⟩, .imm true 2 [.agg [.str ⟨#[97]⟩, .int .u8 (2)]], .imm true 1 [.imm true 4 [.agg [.int .u8 (2), .bool false, .int .i64 (1), .str ⟨#[]⟩]], .imm true 4 [.agg [.int .u8 (0), .bool false, .int .i64 (0), .str ⟨#[]⟩]], .imm true 4 [.agg [.int .u8 (2), .bool false, .int .i64 (3), .str ⟨#[]⟩]]]]]]
def lr10 : V := (.bool true)
theorem lc10 : Sp C1 35 la10 lr10 := Sp.ofVb (h' := []) (vcallT_sound c1_p draws.d lt9_ok 300) (by kernel_rfl) (smallL rfl) (by kernel_rfl)
def lt10 : List (FuncId × List V × V) := (35, la10, lr10) :: lt9
theorem lt10_ok : TabOk C1 lt10 := lt9_ok.cons lc10
def la11 : List V := [.imm true 3 [.agg [.int .u8 (4), .str ⟨#[]⟩, .int .i64 (9223372036854775807)], .agg [.int .u8 (4), .str ⟨#[]⟩, .int .i64 (1)], .agg [.int .u8 (11), .str ⟨#[]⟩, .int .i64 (0)]], .nils]
def lr11 : V := (.int .u8 (2))
theorem lc11 : Sp C1 50 la11 lr11 := Sp.ofVb (h' := []) (vcallT_sound c1_p draws.d lt10_ok 300) (by kernel_rfl) (smallL rfl) (by kernel_rfl)
def lt11 : List (FuncId × List V × V) := (50, la11, lr11) :: lt10
theorem lt11_ok : TabOk C1 lt11 := lt10_ok.cons lc11
theorem lives_sp : Sp C1 14 [] (.bool true) := Sp.ofVb (h' := []) (vcallT_sound c1_p draws.d lt11_ok 300) (by kernel_rfl) (smallL rfl) (by kernel_rfl)
end Go.Fw
