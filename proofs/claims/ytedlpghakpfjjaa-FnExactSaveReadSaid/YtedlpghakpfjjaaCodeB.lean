/- The code of some functions of the program, as the abstract layer has it, each with the equation that says so. No condition. -/
import Derived.Test.YtedlpghakpfjjaaBase
namespace Go.Proofs.Ytedlpghakpfjjaa
open Go Go.Ab
def impl_SaveSum.l0 : IC :=
  .seq (.reg [⟨some 9, .bin .lss (.t 8) (.t 7), none⟩]) <|
  .seq (.cond (.t 9) (.skip) (.exit 0)) <|
  .seq (.block 1 (.seq (.reg [⟨some 10, .mv (.t 8), none⟩,
      ⟨some 11, .iadr 1 (.t 6) (.t 8), none⟩,
      ⟨some 12, .load 1 false (.t 11), none⟩,
      ⟨some 4, .mv (.t 10), none⟩,
      ⟨some 5, .mv (.t 12), none⟩]) <|
    .reg [⟨some 13, .mv (.t 3), none⟩,
      ⟨some 14, .mv (.t 5), none⟩,
      ⟨some 15, .cvt .i64 (.t 14), none⟩,
      ⟨some 16, .mv (.t 4), none⟩,
      ⟨some 17, .bin .rem (.t 16) (.c (.int .i64 251)), none⟩,
      ⟨some 18, .bin .add (.t 17) (.c (.int .i64 1)), none⟩,
      ⟨some 19, .bin .mul (.t 15) (.t 18), none⟩,
      ⟨some 20, .bin .add (.t 13) (.t 19), none⟩,
      ⟨some 21, .bin .rem (.t 20) (.c (.int .i64 65521)), none⟩,
      ⟨some 3, .mv (.t 21), none⟩])) <|
  .reg [⟨some 22, .bin .add (.t 8) (.c (.int .i64 1)), none⟩,
    ⟨some 8, .mv (.t 22), none⟩]
def impl_SaveSum.g : Fun := ⟨24, [(2, none)], 
  .seq (.reg [⟨some 2, .mv (.c (.int .i64 0)), none⟩]) <|
  .seq (.reg [⟨some 3, .mv (.c (.int .i64 0)), none⟩]) <|
  .seq (.seq (.reg [⟨some 6, .mv (.t 0), none⟩,
    ⟨some 7, .len (.t 6) false, none⟩,
    ⟨some 8, .mv (.c (.int .i64 0)), none⟩]) <|
  .block 0 (.loop impl_SaveSum.l0)) <|
  .seq (.reg [⟨some 23, .mv (.t 3), none⟩,
    ⟨some 2, .mv (.t 23), none⟩]) <|
  .ret⟩
abbrev impl_SaveSum.id : FuncId := 14
theorem impl_SaveSum.tr : trFun Try.prog 14 = some impl_SaveSum.g := by kernel_rfl
def spec_SaveSum.l0 : IC :=
  .seq (.seq (.reg [⟨some 5, .mv (.t 4), none⟩,
    ⟨some 6, .mv (.t 0), none⟩,
    ⟨some 7, .len (.t 6) false, none⟩,
    ⟨some 8, .bin .lss (.t 5) (.t 7), none⟩]) <|
  .cond (.t 8) (.skip) (.exit 0)) <|
  .seq (.block 1 (.reg [⟨some 11, .mv (.t 3), none⟩,
      ⟨some 12, .mv (.t 4), none⟩,
      ⟨some 13, .bin .rem (.t 12) (.c (.int .i64 251)), none⟩,
      ⟨some 14, .bin .add (.t 13) (.c (.int .i64 1)), none⟩,
      ⟨some 15, .mv (.t 0), none⟩,
      ⟨some 16, .mv (.t 4), none⟩,
      ⟨some 17, .iadr 1 (.t 15) (.t 16), none⟩,
      ⟨some 18, .load 1 false (.t 17), none⟩,
      ⟨some 19, .cvt .i64 (.t 18), none⟩,
      ⟨some 20, .bin .mul (.t 14) (.t 19), none⟩,
      ⟨some 21, .bin .add (.t 11) (.t 20), none⟩,
      ⟨some 22, .bin .rem (.t 21) (.c (.int .i64 65521)), none⟩,
      ⟨some 3, .mv (.t 22), none⟩])) <|
  .reg [⟨some 9, .mv (.t 4), none⟩,
    ⟨some 10, .bin .add (.t 9) (.c (.int .i64 1)), none⟩,
    ⟨some 4, .mv (.t 10), none⟩]
def spec_SaveSum.g : Fun := ⟨24, [(2, none)], 
  .seq (.reg [⟨some 2, .mv (.c (.int .i64 0)), none⟩]) <|
  .seq (.reg [⟨some 3, .mv (.c (.int .i64 0)), none⟩]) <|
  .seq (.seq (.reg [⟨some 4, .mv (.c (.int .i64 0)), none⟩]) <|
  .block 0 (.loop spec_SaveSum.l0)) <|
  .seq (.reg [⟨some 23, .mv (.t 3), none⟩,
    ⟨some 2, .mv (.t 23), none⟩]) <|
  .ret⟩
abbrev spec_SaveSum.id : FuncId := 12
theorem spec_SaveSum.tr : trFun Try.prog 12 = some spec_SaveSum.g := by kernel_rfl
def impl_two.g : Fun := ⟨14, [(4, none)], 
  .seq (.reg [⟨some 4, .mv (.c (.slice none 0 0)), none⟩]) <|
  .seq (.reg [⟨some 5, .mv (.t 0), none⟩,
    ⟨some 6, .mv (.t 1), none⟩,
    ⟨some 7, .bin .quo (.t 6) (.c (.int .i64 256)), none⟩,
    ⟨some 8, .cvt .u8 (.t 7), none⟩,
    ⟨some 9, .mv (.t 1), none⟩,
    ⟨some 10, .bin .rem (.t 9) (.c (.int .i64 256)), none⟩,
    ⟨some 11, .cvt .u8 (.t 10), none⟩,
    ⟨some 12, .bslice 5 2 1 [.int .u8 0] [(0, (.t 8)), (1, (.t 11))], none⟩,
    ⟨some 13, .app 5 1 (.t 5) (.t 12), none⟩,
    ⟨some 4, .mv (.t 13), none⟩]) <|
  .ret⟩
abbrev impl_two.id : FuncId := 38
theorem impl_two.tr : trFun Try.prog 38 = some impl_two.g := by kernel_rfl
def spec_l41Two.g : Fun := ⟨14, [(4, none)], 
  .seq (.reg [⟨some 4, .mv (.c (.slice none 0 0)), none⟩]) <|
  .seq (.reg [⟨some 5, .mv (.t 0), none⟩,
    ⟨some 6, .mv (.t 1), none⟩,
    ⟨some 7, .bin .quo (.t 6) (.c (.int .i64 256)), none⟩,
    ⟨some 8, .cvt .u8 (.t 7), none⟩,
    ⟨some 9, .mv (.t 1), none⟩,
    ⟨some 10, .bin .rem (.t 9) (.c (.int .i64 256)), none⟩,
    ⟨some 11, .cvt .u8 (.t 10), none⟩,
    ⟨some 12, .bslice 5 2 1 [.int .u8 0] [(0, (.t 8)), (1, (.t 11))], none⟩,
    ⟨some 13, .app 5 1 (.t 5) (.t 12), none⟩,
    ⟨some 4, .mv (.t 13), none⟩]) <|
  .ret⟩
abbrev spec_l41Two.id : FuncId := 36
theorem spec_l41Two.tr : trFun Try.prog 36 = some spec_l41Two.g := by kernel_rfl
def impl_SaveWrite.l0 : IC :=
  .seq (.reg [⟨some 42, .bin .lss (.t 41) (.t 40), none⟩]) <|
  .seq (.cond (.t 42) (.skip) (.exit 2)) <|
  .seq (.block 3 (.seq (.reg [⟨some 43, .iadr 3 (.t 39) (.t 41), none⟩,
      ⟨some 44, .load 3 true (.t 43), none⟩,
      ⟨some 7, .alloc 47 [.int .i64 0, .int .i64 0, .int .i64 0], none⟩,
      ⟨none, .store 3 (.t 7) (.t 44), none⟩]) <|
    .seq (.reg [⟨some 45, .fadr 0 (.t 7), none⟩,
      ⟨some 46, .load 1 false (.t 45), none⟩,
      ⟨some 47, .bin .geq (.t 46) (.c (.int .i64 0)), none⟩]) <|
    .cond (.t 47) (.reg [⟨some 48, .mv (.t 3), none⟩,
        ⟨some 49, .fadr 0 (.t 7), none⟩,
        ⟨some 50, .load 1 false (.t 49), none⟩,
        ⟨some 51, .cvt .u8 (.t 50), none⟩,
        ⟨some 52, .bslice 5 2 1 [.int .u8 0] [(0, (.c (.int .u8 1))), (1, (.t 51))], none⟩,
        ⟨some 53, .app 5 1 (.t 48) (.t 52), none⟩,
        ⟨some 3, .mv (.t 53), none⟩]) (.reg [⟨some 54, .mv (.t 3), none⟩,
        ⟨some 55, .fadr 1 (.t 7), none⟩,
        ⟨some 56, .load 1 false (.t 55), none⟩,
        ⟨some 57, .cvt .u8 (.t 56), none⟩,
        ⟨some 58, .fadr 2 (.t 7), none⟩,
        ⟨some 59, .load 1 false (.t 58), none⟩,
        ⟨some 60, .cvt .u8 (.t 59), none⟩,
        ⟨some 61, .bslice 5 3 1 [.int .u8 0] [(0, (.c (.int .u8 0))), (1, (.t 57)), (2, (.t 60))], none⟩,
        ⟨some 62, .app 5 1 (.t 54) (.t 61), none⟩,
        ⟨some 3, .mv (.t 62), none⟩]))) <|
  .reg [⟨some 63, .bin .add (.t 41) (.c (.int .i64 1)), none⟩,
    ⟨some 41, .mv (.t 63), none⟩]
def impl_SaveWrite.l1 : IC :=
  .seq (.reg [⟨some 25, .bin .lss (.t 24) (.t 23), none⟩]) <|
  .seq (.cond (.t 25) (.skip) (.exit 0)) <|
  .seq (.block 1 (.seq (.reg [⟨some 26, .iadr 2 (.t 22) (.t 24), none⟩,
      ⟨some 27, .load 2 true (.t 26), none⟩,
      ⟨some 5, .alloc 45 [.int .i64 0, .slice none 0 0], none⟩,
      ⟨none, .store 2 (.t 5) (.t 27), none⟩]) <|
    .seq (.reg [⟨some 28, .mv (.t 3), none⟩,
      ⟨some 29, .fadr 0 (.t 5), none⟩,
      ⟨some 30, .load 1 false (.t 29), none⟩,
      ⟨some 31, .cvt .u8 (.t 30), none⟩,
      ⟨some 32, .fadr 1 (.t 5), none⟩,
      ⟨some 33, .load 1 false (.t 32), none⟩,
      ⟨some 34, .len (.t 33) false, none⟩,
      ⟨some 35, .cvt .u8 (.t 34), none⟩,
      ⟨some 36, .bslice 5 2 1 [.int .u8 0] [(0, (.t 31)), (1, (.t 35))], none⟩,
      ⟨some 37, .app 5 1 (.t 28) (.t 36), none⟩,
      ⟨some 3, .mv (.t 37), none⟩]) <|
    .seq (.reg [⟨some 38, .fadr 1 (.t 5), none⟩,
      ⟨some 39, .load 1 false (.t 38), none⟩,
      ⟨some 40, .len (.t 39) false, none⟩,
      ⟨some 41, .mv (.c (.int .i64 0)), none⟩]) <|
    .block 2 (.loop impl_SaveWrite.l0))) <|
  .reg [⟨some 64, .bin .add (.t 24) (.c (.int .i64 1)), none⟩,
    ⟨some 24, .mv (.t 64), none⟩]
def impl_SaveWrite.g : Fun := ⟨71, [(2, none)], 
  .seq (.reg [⟨some 1, .box 34 (.t 0), none⟩,
    ⟨some 2, .mv (.c (.slice none 0 0)), none⟩]) <|
  .seq (.seq (.reg [⟨some 8, .load 2 true (.t 1), none⟩,
    ⟨some 9, .call 32 [(.t 8)], none⟩,
    ⟨some 10, .un .not (.t 9), none⟩]) <|
  .cond (.t 10) (.seq (.reg [⟨some 11, .bslice 5 0 1 [.int .u8 0] [], none⟩,
      ⟨some 2, .mv (.t 11), none⟩]) <|
    .ret) (.skip)) <|
  .seq (.reg [⟨some 12, .fadr 0 (.t 1), none⟩,
    ⟨some 13, .load 1 false (.t 12), none⟩,
    ⟨some 14, .bin .sub (.t 13) (.c (.int .i64 1)), none⟩,
    ⟨some 15, .cvt .u8 (.t 14), none⟩,
    ⟨some 16, .bslice 5 2 1 [.int .u8 0] [(0, (.c (.int .u8 70))), (1, (.t 15))], none⟩,
    ⟨some 17, .fadr 1 (.t 1), none⟩,
    ⟨some 18, .load 1 false (.t 17), none⟩,
    ⟨some 19, .len (.t 18) false, none⟩,
    ⟨some 20, .call 38 [(.t 16), (.t 19)], none⟩,
    ⟨some 3, .mv (.t 20), none⟩]) <|
  .seq (.seq (.reg [⟨some 21, .fadr 1 (.t 1), none⟩,
    ⟨some 22, .load 1 false (.t 21), none⟩,
    ⟨some 23, .len (.t 22) false, none⟩,
    ⟨some 24, .mv (.c (.int .i64 0)), none⟩]) <|
  .block 0 (.loop impl_SaveWrite.l1)) <|
  .seq (.reg [⟨some 65, .bslice 5 0 1 [.int .u8 0] [], none⟩,
    ⟨some 66, .mv (.t 3), none⟩,
    ⟨some 67, .mv (.t 3), none⟩,
    ⟨some 68, .call 14 [(.t 67)], none⟩,
    ⟨some 69, .call 38 [(.t 66), (.t 68)], none⟩,
    ⟨some 70, .app 5 1 (.t 65) (.t 69), none⟩,
    ⟨some 2, .mv (.t 70), none⟩]) <|
  .ret⟩
abbrev impl_SaveWrite.id : FuncId := 20
theorem impl_SaveWrite.tr : trFun Try.prog 20 = some impl_SaveWrite.g := by kernel_rfl
def spec_SaveWrite.l0 : IC :=
  .seq (.seq (.reg [⟨some 46, .mv (.t 6), none⟩,
    ⟨some 47, .fadr 1 (.t 5), none⟩,
    ⟨some 48, .load 1 false (.t 47), none⟩,
    ⟨some 49, .len (.t 48) false, none⟩,
    ⟨some 50, .bin .lss (.t 46) (.t 49), none⟩]) <|
  .cond (.t 50) (.skip) (.exit 2)) <|
  .seq (.block 3 (.seq (.reg [⟨some 53, .fadr 1 (.t 5), none⟩,
      ⟨some 54, .load 1 false (.t 53), none⟩,
      ⟨some 55, .mv (.t 6), none⟩,
      ⟨some 56, .iadr 3 (.t 54) (.t 55), none⟩,
      ⟨some 57, .fadr 0 (.t 56), none⟩,
      ⟨some 58, .load 1 false (.t 57), none⟩,
      ⟨some 59, .bin .geq (.t 58) (.c (.int .i64 0)), none⟩]) <|
    .cond (.t 59) (.reg [⟨some 60, .mv (.t 3), none⟩,
        ⟨some 61, .fadr 1 (.t 5), none⟩,
        ⟨some 62, .load 1 false (.t 61), none⟩,
        ⟨some 63, .mv (.t 6), none⟩,
        ⟨some 64, .iadr 3 (.t 62) (.t 63), none⟩,
        ⟨some 65, .fadr 0 (.t 64), none⟩,
        ⟨some 66, .load 1 false (.t 65), none⟩,
        ⟨some 67, .cvt .u8 (.t 66), none⟩,
        ⟨some 68, .bslice 5 2 1 [.int .u8 0] [(0, (.c (.int .u8 1))), (1, (.t 67))], none⟩,
        ⟨some 69, .app 5 1 (.t 60) (.t 68), none⟩,
        ⟨some 3, .mv (.t 69), none⟩]) (.dreg (inOrder 18) [⟨some 70, .mv (.t 3), none⟩,
        ⟨some 71, .fadr 1 (.t 5), none⟩,
        ⟨some 72, .load 1 false (.t 71), none⟩,
        ⟨some 73, .mv (.t 6), none⟩,
        ⟨some 74, .iadr 3 (.t 72) (.t 73), none⟩,
        ⟨some 75, .fadr 1 (.t 74), none⟩,
        ⟨some 76, .load 1 false (.t 75), none⟩,
        ⟨some 77, .cvt .u8 (.t 76), none⟩,
        ⟨some 78, .fadr 1 (.t 5), none⟩,
        ⟨some 79, .load 1 false (.t 78), none⟩,
        ⟨some 80, .mv (.t 6), none⟩,
        ⟨some 81, .iadr 3 (.t 79) (.t 80), none⟩,
        ⟨some 82, .fadr 2 (.t 81), none⟩,
        ⟨some 83, .load 1 false (.t 82), none⟩,
        ⟨some 84, .cvt .u8 (.t 83), none⟩,
        ⟨some 85, .bslice 5 3 1 [.int .u8 0] [(0, (.c (.int .u8 0))), (1, (.t 77)), (2, (.t 84))], none⟩,
        ⟨some 86, .app 5 1 (.t 70) (.t 85), none⟩,
        ⟨some 3, .mv (.t 86), none⟩]))) <|
  .reg [⟨some 51, .mv (.t 6), none⟩,
    ⟨some 52, .bin .add (.t 51) (.c (.int .i64 1)), none⟩,
    ⟨some 6, .mv (.t 52), none⟩]
def spec_SaveWrite.l1 : IC :=
  .seq (.seq (.reg [⟨some 24, .mv (.t 4), none⟩,
    ⟨some 25, .fadr 1 (.t 1), none⟩,
    ⟨some 26, .load 1 false (.t 25), none⟩,
    ⟨some 27, .len (.t 26) false, none⟩,
    ⟨some 28, .bin .lss (.t 24) (.t 27), none⟩]) <|
  .cond (.t 28) (.skip) (.exit 0)) <|
  .seq (.block 1 (.seq (.reg [⟨some 31, .fadr 1 (.t 1), none⟩,
      ⟨some 32, .load 1 false (.t 31), none⟩,
      ⟨some 33, .mv (.t 4), none⟩,
      ⟨some 34, .iadr 2 (.t 32) (.t 33), none⟩,
      ⟨some 35, .load 2 true (.t 34), none⟩,
      ⟨some 5, .alloc 45 [.int .i64 0, .slice none 0 0], none⟩,
      ⟨none, .store 2 (.t 5) (.t 35), none⟩]) <|
    .seq (.reg [⟨some 36, .mv (.t 3), none⟩,
      ⟨some 37, .fadr 0 (.t 5), none⟩,
      ⟨some 38, .load 1 false (.t 37), none⟩,
      ⟨some 39, .cvt .u8 (.t 38), none⟩,
      ⟨some 40, .fadr 1 (.t 5), none⟩,
      ⟨some 41, .load 1 false (.t 40), none⟩,
      ⟨some 42, .len (.t 41) false, none⟩,
      ⟨some 43, .cvt .u8 (.t 42), none⟩,
      ⟨some 44, .bslice 5 2 1 [.int .u8 0] [(0, (.t 39)), (1, (.t 43))], none⟩,
      ⟨some 45, .app 5 1 (.t 36) (.t 44), none⟩,
      ⟨some 3, .mv (.t 45), none⟩]) <|
    .seq (.reg [⟨some 6, .mv (.c (.int .i64 0)), none⟩]) <|
    .block 2 (.loop spec_SaveWrite.l0))) <|
  .reg [⟨some 29, .mv (.t 4), none⟩,
    ⟨some 30, .bin .add (.t 29) (.c (.int .i64 1)), none⟩,
    ⟨some 4, .mv (.t 30), none⟩]
def spec_SaveWrite.g : Fun := ⟨91, [(2, none)], 
  .seq (.reg [⟨some 1, .box 34 (.t 0), none⟩,
    ⟨some 2, .mv (.c (.slice none 0 0)), none⟩]) <|
  .seq (.reg [⟨some 7, .bslice 5 0 1 [.int .u8 0] [], none⟩,
    ⟨some 3, .mv (.t 7), none⟩]) <|
  .seq (.seq (.reg [⟨some 8, .load 2 true (.t 1), none⟩,
    ⟨some 9, .call 29 [(.t 8)], none⟩,
    ⟨some 10, .un .not (.t 9), none⟩]) <|
  .cond (.t 10) (.seq (.reg [⟨some 11, .mv (.t 3), none⟩,
      ⟨some 2, .mv (.t 11), none⟩]) <|
    .ret) (.skip)) <|
  .seq (.reg [⟨some 12, .mv (.t 3), none⟩,
    ⟨some 13, .fadr 0 (.t 1), none⟩,
    ⟨some 14, .load 1 false (.t 13), none⟩,
    ⟨some 15, .bin .sub (.t 14) (.c (.int .i64 1)), none⟩,
    ⟨some 16, .cvt .u8 (.t 15), none⟩,
    ⟨some 17, .bslice 5 2 1 [.int .u8 0] [(0, (.c (.int .u8 70))), (1, (.t 16))], none⟩,
    ⟨some 18, .app 5 1 (.t 12) (.t 17), none⟩,
    ⟨some 3, .mv (.t 18), none⟩]) <|
  .seq (.reg [⟨some 19, .mv (.t 3), none⟩,
    ⟨some 20, .fadr 1 (.t 1), none⟩,
    ⟨some 21, .load 1 false (.t 20), none⟩,
    ⟨some 22, .len (.t 21) false, none⟩,
    ⟨some 23, .call 36 [(.t 19), (.t 22)], none⟩,
    ⟨some 3, .mv (.t 23), none⟩]) <|
  .seq (.seq (.reg [⟨some 4, .mv (.c (.int .i64 0)), none⟩]) <|
  .block 0 (.loop spec_SaveWrite.l1)) <|
  .seq (.reg [⟨some 87, .mv (.t 3), none⟩,
    ⟨some 88, .mv (.t 3), none⟩,
    ⟨some 89, .call 12 [(.t 88)], none⟩,
    ⟨some 90, .call 36 [(.t 87), (.t 89)], none⟩,
    ⟨some 2, .mv (.t 90), none⟩]) <|
  .ret⟩
abbrev spec_SaveWrite.id : FuncId := 18
theorem spec_SaveWrite.tr : trFun Try.prog 18 = some spec_SaveWrite.g := by kernel_rfl
end Go.Proofs.Ytedlpghakpfjjaa
