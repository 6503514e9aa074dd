/- The code of some functions of the program, as the abstract layer has it, each with the equation that says so. No condition. -/
import Derived.Test.YtabbipdkbdojiaaBase
namespace Go.Proofs.Ytabbipdkbdojiaa
open Go Go.Ab
def impl_within.g : Fun := ⟨15, [(6, none)], 
  .seq (.reg [⟨some 6, .mv (.c (.bool false)), none⟩]) <|
  .seq (.reg [⟨some 7, .mv (.t 0), none⟩,
    ⟨some 8, .mv (.t 1), none⟩,
    ⟨some 9, .bin .geq (.t 7) (.t 8), none⟩,
    ⟨some 10, .mv (.t 9), none⟩,
    ⟨some 11, .mv (.t 0), some (10, true)⟩,
    ⟨some 12, .mv (.t 2), some (10, true)⟩,
    ⟨some 13, .bin .leq (.t 11) (.t 12), some (10, true)⟩,
    ⟨some 14, .pick (.t 10) (.t 13) (.c (.bool false)), none⟩,
    ⟨some 6, .mv (.t 14), none⟩]) <|
  .ret⟩
abbrev impl_within.id : FuncId := 85
theorem impl_within.tr : trFun Try.prog 85 = some impl_within.g := by kernel_rfl
def spec_l6In.g : Fun := ⟨15, [(6, none)], 
  .seq (.reg [⟨some 6, .mv (.c (.bool false)), none⟩]) <|
  .seq (.reg [⟨some 7, .mv (.t 0), none⟩,
    ⟨some 8, .mv (.t 1), none⟩,
    ⟨some 9, .bin .geq (.t 7) (.t 8), none⟩,
    ⟨some 10, .mv (.t 9), none⟩,
    ⟨some 11, .mv (.t 0), some (10, true)⟩,
    ⟨some 12, .mv (.t 2), some (10, true)⟩,
    ⟨some 13, .bin .leq (.t 11) (.t 12), some (10, true)⟩,
    ⟨some 14, .pick (.t 10) (.t 13) (.c (.bool false)), none⟩,
    ⟨some 6, .mv (.t 14), none⟩]) <|
  .ret⟩
abbrev spec_l6In.id : FuncId := 71
theorem spec_l6In.tr : trFun Try.prog 71 = some spec_l6In.g := by kernel_rfl
def impl_CfgOk.l0 : IC :=
  .seq (.reg [⟨some 60, .bin .lss (.t 59) (.t 58), none⟩]) <|
  .seq (.cond (.t 60) (.skip) (.exit 2)) <|
  .seq (.block 3 (.seq (.reg [⟨some 61, .iadr 3 (.t 57) (.t 59), none⟩,
      ⟨some 62, .load 3 true (.t 61), none⟩,
      ⟨some 6, .alloc 94 [.int .i64 0, .int .i64 0, .int .i64 0], none⟩,
      ⟨none, .store 3 (.t 6) (.t 62), none⟩]) <|
    .seq (.reg [⟨some 63, .fadr 0 (.t 6), none⟩,
      ⟨some 64, .load 1 false (.t 63), none⟩,
      ⟨some 65, .fadr 0 (.t 1), none⟩,
      ⟨some 66, .load 1 false (.t 65), none⟩,
      ⟨some 67, .bin .sub (.t 66) (.c (.int .i64 1)), none⟩,
      ⟨some 68, .call 85 [(.t 64), (.c (.int .i64 0)), (.t 67)], none⟩,
      ⟨some 69, .mv (.t 68), none⟩,
      ⟨some 70, .fadr 1 (.t 6), some (69, true)⟩,
      ⟨some 71, .load 1 false (.t 70), some (69, true)⟩,
      ⟨some 72, .bin .eql (.t 71) (.c (.int .i64 0)), some (69, true)⟩,
      ⟨some 73, .pick (.t 69) (.t 72) (.c (.bool false)), none⟩,
      ⟨some 74, .mv (.t 73), none⟩,
      ⟨some 75, .fadr 2 (.t 6), some (74, true)⟩,
      ⟨some 76, .load 1 false (.t 75), some (74, true)⟩,
      ⟨some 77, .bin .eql (.t 76) (.c (.int .i64 0)), some (74, true)⟩,
      ⟨some 78, .pick (.t 74) (.t 77) (.c (.bool false)), none⟩,
      ⟨some 7, .mv (.t 78), none⟩]) <|
    .seq (.reg [⟨some 79, .fadr 0 (.t 6), none⟩,
      ⟨some 80, .load 1 false (.t 79), none⟩,
      ⟨some 81, .bin .eql (.t 80) (.c (.int .i64 (-1))), none⟩,
      ⟨some 82, .mv (.t 81), none⟩,
      ⟨some 83, .fadr 1 (.t 6), some (82, true)⟩,
      ⟨some 84, .load 1 false (.t 83), some (82, true)⟩,
      ⟨some 85, .bin .geq (.t 84) (.c (.int .i64 0)), some (82, true)⟩,
      ⟨some 86, .pick (.t 82) (.t 85) (.c (.bool false)), none⟩,
      ⟨some 87, .mv (.t 86), none⟩,
      ⟨some 88, .fadr 1 (.t 6), some (87, true)⟩,
      ⟨some 89, .load 1 false (.t 88), some (87, true)⟩,
      ⟨some 90, .fadr 2 (.t 6), some (87, true)⟩,
      ⟨some 91, .load 1 false (.t 90), some (87, true)⟩,
      ⟨some 92, .bin .leq (.t 89) (.t 91), some (87, true)⟩,
      ⟨some 93, .pick (.t 87) (.t 92) (.c (.bool false)), none⟩,
      ⟨some 94, .mv (.t 93), none⟩,
      ⟨some 95, .fadr 2 (.t 6), some (94, true)⟩,
      ⟨some 96, .load 1 false (.t 95), some (94, true)⟩,
      ⟨some 97, .bin .leq (.t 96) (.c (.int .i64 255)), some (94, true)⟩,
      ⟨some 98, .pick (.t 94) (.t 97) (.c (.bool false)), none⟩,
      ⟨some 8, .mv (.t 98), none⟩]) <|
    .seq (.reg [⟨some 99, .mv (.t 7), none⟩,
      ⟨some 100, .un .not (.t 99), none⟩,
      ⟨some 101, .mv (.t 100), none⟩,
      ⟨some 102, .mv (.t 8), some (101, true)⟩,
      ⟨some 103, .un .not (.t 102), some (101, true)⟩,
      ⟨some 104, .pick (.t 101) (.t 103) (.c (.bool false)), none⟩]) <|
    .cond (.t 104) (.seq (.reg [⟨some 2, .mv (.c (.bool false)), none⟩]) <|
      .ret) (.skip))) <|
  .reg [⟨some 105, .bin .add (.t 59) (.c (.int .i64 1)), none⟩,
    ⟨some 59, .mv (.t 105), none⟩]
def impl_CfgOk.l1 : IC :=
  .seq (.reg [⟨some 23, .bin .lss (.t 22) (.t 21), none⟩]) <|
  .seq (.cond (.t 23) (.skip) (.exit 0)) <|
  .seq (.block 1 (.seq (.reg [⟨some 24, .mv (.t 22), none⟩,
      ⟨some 25, .iadr 2 (.t 20) (.t 22), none⟩,
      ⟨some 26, .load 2 true (.t 25), none⟩,
      ⟨some 4, .alloc 85 [.int .i64 0, .slice none 0 0], none⟩,
      ⟨some 3, .mv (.t 24), none⟩,
      ⟨none, .store 2 (.t 4) (.t 26), none⟩]) <|
    .seq (.seq (.dreg (inOrder 29) [⟨some 27, .fadr 0 (.t 4), none⟩,
      ⟨some 28, .load 1 false (.t 27), none⟩,
      ⟨some 29, .fadr 0 (.t 1), none⟩,
      ⟨some 30, .load 1 false (.t 29), none⟩,
      ⟨some 31, .bin .sub (.t 30) (.c (.int .i64 1)), none⟩,
      ⟨some 32, .call 85 [(.t 28), (.c (.int .i64 0)), (.t 31)], none⟩,
      ⟨some 33, .un .not (.t 32), none⟩,
      ⟨some 34, .mv (.t 33), none⟩,
      ⟨some 35, .mv (.t 3), some (34, false)⟩,
      ⟨some 36, .bin .gtr (.t 35) (.c (.int .i64 0)), some (34, false)⟩,
      ⟨some 37, .mv (.t 36), some (34, false)⟩,
      ⟨some 38, .fadr 1 (.t 1), some (37, true)⟩,
      ⟨some 39, .load 1 false (.t 38), some (37, true)⟩,
      ⟨some 40, .mv (.t 3), some (37, true)⟩,
      ⟨some 41, .bin .sub (.t 40) (.c (.int .i64 1)), some (37, true)⟩,
      ⟨some 42, .iadr 2 (.t 39) (.t 41), some (37, true)⟩,
      ⟨some 43, .fadr 0 (.t 42), some (37, true)⟩,
      ⟨some 44, .load 1 false (.t 43), some (37, true)⟩,
      ⟨some 45, .fadr 0 (.t 4), some (37, true)⟩,
      ⟨some 46, .load 1 false (.t 45), some (37, true)⟩,
      ⟨some 47, .bin .gtr (.t 44) (.t 46), some (37, true)⟩,
      ⟨some 48, .pick (.t 37) (.t 47) (.c (.bool false)), some (34, false)⟩,
      ⟨some 49, .pick (.t 34) (.c (.bool true)) (.t 48), none⟩,
      ⟨some 50, .mv (.t 49), none⟩,
      ⟨some 51, .fadr 1 (.t 4), some (50, false)⟩,
      ⟨some 52, .load 1 false (.t 51), some (50, false)⟩,
      ⟨some 53, .len (.t 52) false, some (50, false)⟩,
      ⟨some 54, .bin .gtr (.t 53) (.c (.int .i64 160)), some (50, false)⟩,
      ⟨some 55, .pick (.t 50) (.c (.bool true)) (.t 54), none⟩]) <|
    .cond (.t 55) (.seq (.reg [⟨some 2, .mv (.c (.bool false)), none⟩]) <|
      .ret) (.skip)) <|
    .seq (.reg [⟨some 56, .fadr 1 (.t 4), none⟩,
      ⟨some 57, .load 1 false (.t 56), none⟩,
      ⟨some 58, .len (.t 57) false, none⟩,
      ⟨some 59, .mv (.c (.int .i64 0)), none⟩]) <|
    .block 2 (.loop impl_CfgOk.l0))) <|
  .reg [⟨some 106, .bin .add (.t 22) (.c (.int .i64 1)), none⟩,
    ⟨some 22, .mv (.t 106), none⟩]
def impl_CfgOk.g : Fun := ⟨107, [(2, none)], 
  .seq (.reg [⟨some 1, .box 33 (.t 0), none⟩,
    ⟨some 2, .mv (.c (.bool false)), none⟩]) <|
  .seq (.seq (.reg [⟨some 9, .fadr 0 (.t 1), none⟩,
    ⟨some 10, .load 1 false (.t 9), none⟩,
    ⟨some 11, .call 85 [(.t 10), (.c (.int .i64 1)), (.c (.int .i64 200))], none⟩,
    ⟨some 12, .un .not (.t 11), none⟩,
    ⟨some 13, .mv (.t 12), none⟩,
    ⟨some 14, .fadr 1 (.t 1), some (13, false)⟩,
    ⟨some 15, .load 1 false (.t 14), some (13, false)⟩,
    ⟨some 16, .len (.t 15) false, some (13, false)⟩,
    ⟨some 17, .bin .gtr (.t 16) (.c (.int .i64 400)), some (13, false)⟩,
    ⟨some 18, .pick (.t 13) (.c (.bool true)) (.t 17), none⟩]) <|
  .cond (.t 18) (.seq (.reg [⟨some 2, .mv (.c (.bool false)), none⟩]) <|
    .ret) (.skip)) <|
  .seq (.seq (.reg [⟨some 19, .fadr 1 (.t 1), none⟩,
    ⟨some 20, .load 1 false (.t 19), none⟩,
    ⟨some 21, .len (.t 20) false, none⟩,
    ⟨some 22, .mv (.c (.int .i64 0)), none⟩]) <|
  .block 0 (.loop impl_CfgOk.l1)) <|
  .seq (.reg [⟨some 2, .mv (.c (.bool true)), none⟩]) <|
  .ret⟩
abbrev impl_CfgOk.id : FuncId := 57
theorem impl_CfgOk.tr : trFun Try.prog 57 = some impl_CfgOk.g := by kernel_rfl
def spec_l3Sym.g : Fun := ⟨34, [(4, none)], 
  .seq (.reg [⟨some 2, .box 33 (.t 0), none⟩,
    ⟨some 3, .box 94 (.t 1), none⟩,
    ⟨some 4, .mv (.c (.bool false)), none⟩]) <|
  .seq (.seq (.reg [⟨some 5, .fadr 0 (.t 3), none⟩,
    ⟨some 6, .load 1 false (.t 5), none⟩,
    ⟨some 7, .bin .eql (.t 6) (.c (.int .i64 (-1))), none⟩]) <|
  .cond (.t 7) (.seq (.reg [⟨some 8, .fadr 1 (.t 3), none⟩,
      ⟨some 9, .load 1 false (.t 8), none⟩,
      ⟨some 10, .call 71 [(.t 9), (.c (.int .i64 0)), (.c (.int .i64 255))], none⟩,
      ⟨some 11, .mv (.t 10), none⟩,
      ⟨some 12, .fadr 2 (.t 3), some (11, true)⟩,
      ⟨some 13, .load 1 false (.t 12), some (11, true)⟩,
      ⟨some 14, .fadr 1 (.t 3), some (11, true)⟩,
      ⟨some 15, .load 1 false (.t 14), some (11, true)⟩,
      ⟨some 16, .call 71 [(.t 13), (.t 15), (.c (.int .i64 255))], some (11, true)⟩,
      ⟨some 17, .pick (.t 11) (.t 16) (.c (.bool false)), none⟩,
      ⟨some 4, .mv (.t 17), none⟩]) <|
    .ret) (.skip)) <|
  .seq (.reg [⟨some 18, .fadr 0 (.t 3), none⟩,
    ⟨some 19, .load 1 false (.t 18), none⟩,
    ⟨some 20, .fadr 0 (.t 2), none⟩,
    ⟨some 21, .load 1 false (.t 20), none⟩,
    ⟨some 22, .bin .sub (.t 21) (.c (.int .i64 1)), none⟩,
    ⟨some 23, .call 71 [(.t 19), (.c (.int .i64 0)), (.t 22)], none⟩,
    ⟨some 24, .mv (.t 23), none⟩,
    ⟨some 25, .fadr 1 (.t 3), some (24, true)⟩,
    ⟨some 26, .load 1 false (.t 25), some (24, true)⟩,
    ⟨some 27, .bin .eql (.t 26) (.c (.int .i64 0)), some (24, true)⟩,
    ⟨some 28, .pick (.t 24) (.t 27) (.c (.bool false)), none⟩,
    ⟨some 29, .mv (.t 28), none⟩,
    ⟨some 30, .fadr 2 (.t 3), some (29, true)⟩,
    ⟨some 31, .load 1 false (.t 30), some (29, true)⟩,
    ⟨some 32, .bin .eql (.t 31) (.c (.int .i64 0)), some (29, true)⟩,
    ⟨some 33, .pick (.t 29) (.t 32) (.c (.bool false)), none⟩,
    ⟨some 4, .mv (.t 33), none⟩]) <|
  .ret⟩
abbrev spec_l3Sym.id : FuncId := 90
theorem spec_l3Sym.tr : trFun Try.prog 90 = some spec_l3Sym.g := by kernel_rfl
def spec_CfgOk.l0 : IC :=
  .seq (.seq (.reg [⟨some 57, .mv (.t 5), none⟩,
    ⟨some 58, .fadr 1 (.t 4), none⟩,
    ⟨some 59, .load 1 false (.t 58), none⟩,
    ⟨some 60, .len (.t 59) false, none⟩,
    ⟨some 61, .bin .lss (.t 57) (.t 60), none⟩]) <|
  .cond (.t 61) (.skip) (.exit 2)) <|
  .seq (.block 3 (.seq (.dreg (inOrder 8) [⟨some 64, .load 2 true (.t 1), none⟩,
      ⟨some 65, .fadr 1 (.t 4), none⟩,
      ⟨some 66, .load 1 false (.t 65), none⟩,
      ⟨some 67, .mv (.t 5), none⟩,
      ⟨some 68, .iadr 3 (.t 66) (.t 67), none⟩,
      ⟨some 69, .load 3 true (.t 68), none⟩,
      ⟨some 70, .call 90 [(.t 64), (.t 69)], none⟩,
      ⟨some 71, .un .not (.t 70), none⟩]) <|
    .cond (.t 71) (.seq (.reg [⟨some 2, .mv (.c (.bool false)), none⟩]) <|
      .ret) (.skip))) <|
  .reg [⟨some 62, .mv (.t 5), none⟩,
    ⟨some 63, .bin .add (.t 62) (.c (.int .i64 1)), none⟩,
    ⟨some 5, .mv (.t 63), none⟩]
def spec_CfgOk.l1 : IC :=
  .seq (.seq (.reg [⟨some 16, .mv (.t 3), none⟩,
    ⟨some 17, .fadr 1 (.t 1), none⟩,
    ⟨some 18, .load 1 false (.t 17), none⟩,
    ⟨some 19, .len (.t 18) false, none⟩,
    ⟨some 20, .bin .lss (.t 16) (.t 19), none⟩]) <|
  .cond (.t 20) (.skip) (.exit 0)) <|
  .seq (.block 1 (.seq (.reg [⟨some 23, .fadr 1 (.t 1), none⟩,
      ⟨some 24, .load 1 false (.t 23), none⟩,
      ⟨some 25, .mv (.t 3), none⟩,
      ⟨some 26, .iadr 2 (.t 24) (.t 25), none⟩,
      ⟨some 27, .load 2 true (.t 26), none⟩,
      ⟨some 4, .alloc 85 [.int .i64 0, .slice none 0 0], none⟩,
      ⟨none, .store 2 (.t 4) (.t 27), none⟩]) <|
    .seq (.seq (.dreg (inOrder 29) [⟨some 28, .fadr 0 (.t 4), none⟩,
      ⟨some 29, .load 1 false (.t 28), none⟩,
      ⟨some 30, .fadr 0 (.t 1), none⟩,
      ⟨some 31, .load 1 false (.t 30), none⟩,
      ⟨some 32, .bin .sub (.t 31) (.c (.int .i64 1)), none⟩,
      ⟨some 33, .call 71 [(.t 29), (.c (.int .i64 0)), (.t 32)], none⟩,
      ⟨some 34, .un .not (.t 33), none⟩,
      ⟨some 35, .mv (.t 34), none⟩,
      ⟨some 36, .fadr 1 (.t 4), some (35, false)⟩,
      ⟨some 37, .load 1 false (.t 36), some (35, false)⟩,
      ⟨some 38, .len (.t 37) false, some (35, false)⟩,
      ⟨some 39, .bin .gtr (.t 38) (.c (.int .i64 160)), some (35, false)⟩,
      ⟨some 40, .pick (.t 35) (.c (.bool true)) (.t 39), none⟩,
      ⟨some 41, .mv (.t 40), none⟩,
      ⟨some 42, .mv (.t 3), some (41, false)⟩,
      ⟨some 43, .bin .gtr (.t 42) (.c (.int .i64 0)), some (41, false)⟩,
      ⟨some 44, .mv (.t 43), some (41, false)⟩,
      ⟨some 45, .fadr 1 (.t 1), some (44, true)⟩,
      ⟨some 46, .load 1 false (.t 45), some (44, true)⟩,
      ⟨some 47, .mv (.t 3), some (44, true)⟩,
      ⟨some 48, .bin .sub (.t 47) (.c (.int .i64 1)), some (44, true)⟩,
      ⟨some 49, .iadr 2 (.t 46) (.t 48), some (44, true)⟩,
      ⟨some 50, .fadr 0 (.t 49), some (44, true)⟩,
      ⟨some 51, .load 1 false (.t 50), some (44, true)⟩,
      ⟨some 52, .fadr 0 (.t 4), some (44, true)⟩,
      ⟨some 53, .load 1 false (.t 52), some (44, true)⟩,
      ⟨some 54, .bin .gtr (.t 51) (.t 53), some (44, true)⟩,
      ⟨some 55, .pick (.t 44) (.t 54) (.c (.bool false)), some (41, false)⟩,
      ⟨some 56, .pick (.t 41) (.c (.bool true)) (.t 55), none⟩]) <|
    .cond (.t 56) (.seq (.reg [⟨some 2, .mv (.c (.bool false)), none⟩]) <|
      .ret) (.skip)) <|
    .seq (.reg [⟨some 5, .mv (.c (.int .i64 0)), none⟩]) <|
    .block 2 (.loop spec_CfgOk.l0))) <|
  .reg [⟨some 21, .mv (.t 3), none⟩,
    ⟨some 22, .bin .add (.t 21) (.c (.int .i64 1)), none⟩,
    ⟨some 3, .mv (.t 22), none⟩]
def spec_CfgOk.g : Fun := ⟨72, [(2, none)], 
  .seq (.reg [⟨some 1, .box 33 (.t 0), none⟩,
    ⟨some 2, .mv (.c (.bool false)), none⟩]) <|
  .seq (.seq (.reg [⟨some 6, .fadr 0 (.t 1), none⟩,
    ⟨some 7, .load 1 false (.t 6), none⟩,
    ⟨some 8, .call 71 [(.t 7), (.c (.int .i64 1)), (.c (.int .i64 200))], none⟩,
    ⟨some 9, .un .not (.t 8), none⟩,
    ⟨some 10, .mv (.t 9), none⟩,
    ⟨some 11, .fadr 1 (.t 1), some (10, false)⟩,
    ⟨some 12, .load 1 false (.t 11), some (10, false)⟩,
    ⟨some 13, .len (.t 12) false, some (10, false)⟩,
    ⟨some 14, .bin .gtr (.t 13) (.c (.int .i64 400)), some (10, false)⟩,
    ⟨some 15, .pick (.t 10) (.c (.bool true)) (.t 14), none⟩]) <|
  .cond (.t 15) (.seq (.reg [⟨some 2, .mv (.c (.bool false)), none⟩]) <|
    .ret) (.skip)) <|
  .seq (.seq (.reg [⟨some 3, .mv (.c (.int .i64 0)), none⟩]) <|
  .block 0 (.loop spec_CfgOk.l1)) <|
  .seq (.reg [⟨some 2, .mv (.c (.bool true)), none⟩]) <|
  .ret⟩
abbrev spec_CfgOk.id : FuncId := 51
theorem spec_CfgOk.tr : trFun Try.prog 51 = some spec_CfgOk.g := by kernel_rfl
end Go.Proofs.Ytabbipdkbdojiaa
