/- The code of some functions of the program, as the abstract layer has it, each with the equation that says so. No condition. -/
import Derived.Test.YtabbipdkbdojiaaBase
namespace Go.Proofs.Ytabbipdkbdojiaa
open Go Go.Ab
def slices_Repeat_int_int.l0 : IC :=
  .seq (.seq (.reg [⟨some 34, .mv (.t 8), none⟩,
    ⟨some 35, .mv (.t 7), none⟩,
    ⟨some 36, .len (.t 35) false, none⟩,
    ⟨some 37, .bin .lss (.t 34) (.t 36), none⟩]) <|
  .cond (.t 37) (.skip) (.exit 0)) <|
  .block 1 (.dreg (inOrder 10) [⟨some 38, .mv (.t 8), none⟩,
      ⟨some 39, .mv (.t 7), none⟩,
      ⟨some 40, .mv (.t 8), none⟩,
      ⟨some 41, .sl 1 (.t 39) (some (.t 40)) none none, none⟩,
      ⟨some 42, .mv (.t 7), none⟩,
      ⟨some 43, .mv (.t 8), none⟩,
      ⟨some 44, .sl 1 (.t 42) none (some (.t 43)) none, none⟩,
      ⟨some 45, .copy 1 (.t 41) (.t 44), none⟩,
      ⟨some 46, .bin .add (.t 38) (.t 45), none⟩,
      ⟨some 8, .mv (.t 46), none⟩])
def slices_Repeat_int_int.g : Fun := ⟨48, [(4, none)], 
  .seq (.reg [⟨some 4, .mv (.c (.slice none 0 0)), none⟩]) <|
  .seq (.seq (.reg [⟨some 9, .mv (.t 1), none⟩,
    ⟨some 10, .bin .lss (.t 9) (.c (.int .i64 0)), none⟩]) <|
  .cond (.t 10) (.reg [⟨some 11, .bad, none⟩,
      ⟨none, .bad, none⟩]) (.skip)) <|
  .seq (.reg [⟨some 13, .mv (.t 0), none⟩,
    ⟨some 14, .len (.t 13) false, none⟩,
    ⟨some 15, .cvt .u64 (.t 14), none⟩,
    ⟨some 16, .mv (.t 1), none⟩,
    ⟨some 17, .cvt .u64 (.t 16), none⟩,
    ⟨some 18, .call 123 [(.t 15), (.t 17)], none⟩,
    ⟨some 12, .mv (.t 18), none⟩,
    ⟨some 19, .ext 0 (.t 12), none⟩,
    ⟨some 20, .ext 1 (.t 12), none⟩,
    ⟨some 5, .mv (.t 19), none⟩,
    ⟨some 6, .mv (.t 20), none⟩]) <|
  .seq (.seq (.reg [⟨some 21, .mv (.t 5), none⟩,
    ⟨some 22, .bin .gtr (.t 21) (.c (.int .u64 0)), none⟩,
    ⟨some 23, .mv (.t 22), none⟩,
    ⟨some 24, .mv (.t 6), some (23, false)⟩,
    ⟨some 25, .bin .gtr (.t 24) (.c (.int .u64 9223372036854775807)), some (23, false)⟩,
    ⟨some 26, .pick (.t 23) (.c (.bool true)) (.t 25), none⟩]) <|
  .cond (.t 26) (.reg [⟨some 27, .bad, none⟩,
      ⟨none, .bad, none⟩]) (.skip)) <|
  .seq (.reg [⟨some 28, .mv (.t 6), none⟩,
    ⟨some 29, .cvt .i64 (.t 28), none⟩,
    ⟨some 30, .mks 3 1 [.int .i64 0] (.t 29) (.t 29), none⟩,
    ⟨some 7, .mv (.t 30), none⟩]) <|
  .seq (.reg [⟨some 31, .mv (.t 7), none⟩,
    ⟨some 32, .mv (.t 0), none⟩,
    ⟨some 33, .copy 1 (.t 31) (.t 32), none⟩,
    ⟨some 8, .mv (.t 33), none⟩]) <|
  .seq (.block 0 (.loop slices_Repeat_int_int.l0)) <|
  .seq (.reg [⟨some 47, .mv (.t 7), none⟩,
    ⟨some 4, .mv (.t 47), none⟩]) <|
  .ret⟩
abbrev slices_Repeat_int_int.id : FuncId := 115
theorem slices_Repeat_int_int.tr : trFun Try.prog 115 = some slices_Repeat_int_int.g := by kernel_rfl
def math_bits_Mul.g : Fun := ⟨30, [(4, none), (5, none)], 
  .seq (.reg [⟨some 4, .mv (.c (.int .u64 0)), none⟩,
    ⟨some 5, .mv (.c (.int .u64 0)), none⟩]) <|
  .seq (.cond (.c (.bool false)) (.seq (.reg [⟨some 11, .mv (.t 0), none⟩,
      ⟨some 12, .cvt .u32 (.t 11), none⟩,
      ⟨some 13, .mv (.t 1), none⟩,
      ⟨some 14, .cvt .u32 (.t 13), none⟩,
      ⟨some 15, .call 128 [(.t 12), (.t 14)], none⟩,
      ⟨some 10, .mv (.t 15), none⟩,
      ⟨some 16, .ext 0 (.t 10), none⟩,
      ⟨some 17, .ext 1 (.t 10), none⟩,
      ⟨some 6, .mv (.t 16), none⟩,
      ⟨some 7, .mv (.t 17), none⟩]) <|
    .seq (.reg [⟨some 18, .mv (.t 6), none⟩,
      ⟨some 19, .cvt .u64 (.t 18), none⟩,
      ⟨some 20, .mv (.t 7), none⟩,
      ⟨some 21, .cvt .u64 (.t 20), none⟩,
      ⟨some 4, .mv (.t 19), none⟩,
      ⟨some 5, .mv (.t 21), none⟩]) <|
    .ret) (.skip)) <|
  .seq (.reg [⟨some 23, .mv (.t 0), none⟩,
    ⟨some 24, .mv (.t 1), none⟩,
    ⟨some 25, .call 129 [(.t 23), (.t 24)], none⟩,
    ⟨some 22, .mv (.t 25), none⟩,
    ⟨some 26, .ext 0 (.t 22), none⟩,
    ⟨some 27, .ext 1 (.t 22), none⟩,
    ⟨some 8, .mv (.t 26), none⟩,
    ⟨some 9, .mv (.t 27), none⟩]) <|
  .seq (.reg [⟨some 28, .mv (.t 8), none⟩,
    ⟨some 29, .mv (.t 9), none⟩,
    ⟨some 4, .mv (.t 28), none⟩,
    ⟨some 5, .mv (.t 29), none⟩]) <|
  .ret⟩
abbrev math_bits_Mul.id : FuncId := 123
theorem math_bits_Mul.tr : trFun Try.prog 123 = some math_bits_Mul.g := by kernel_rfl
def math_bits_Mul64.g : Fun := ⟨51, [(4, none), (5, none)], 
  .seq (.reg [⟨some 4, .mv (.c (.int .u64 0)), none⟩,
    ⟨some 5, .mv (.c (.int .u64 0)), none⟩]) <|
  .seq (.reg [⟨some 14, .mv (.t 0), none⟩,
    ⟨some 15, .bin .and (.t 14) (.c (.int .u64 4294967295)), none⟩,
    ⟨some 6, .mv (.t 15), none⟩]) <|
  .seq (.reg [⟨some 16, .mv (.t 0), none⟩,
    ⟨some 17, .bin .shr (.t 16) (.c (.int .u64 32)), none⟩,
    ⟨some 7, .mv (.t 17), none⟩]) <|
  .seq (.reg [⟨some 18, .mv (.t 1), none⟩,
    ⟨some 19, .bin .and (.t 18) (.c (.int .u64 4294967295)), none⟩,
    ⟨some 8, .mv (.t 19), none⟩]) <|
  .seq (.reg [⟨some 20, .mv (.t 1), none⟩,
    ⟨some 21, .bin .shr (.t 20) (.c (.int .u64 32)), none⟩,
    ⟨some 9, .mv (.t 21), none⟩]) <|
  .seq (.reg [⟨some 22, .mv (.t 6), none⟩,
    ⟨some 23, .mv (.t 8), none⟩,
    ⟨some 24, .bin .mul (.t 22) (.t 23), none⟩,
    ⟨some 10, .mv (.t 24), none⟩]) <|
  .seq (.reg [⟨some 25, .mv (.t 7), none⟩,
    ⟨some 26, .mv (.t 8), none⟩,
    ⟨some 27, .bin .mul (.t 25) (.t 26), none⟩,
    ⟨some 28, .mv (.t 10), none⟩,
    ⟨some 29, .bin .shr (.t 28) (.c (.int .u64 32)), none⟩,
    ⟨some 30, .bin .add (.t 27) (.t 29), none⟩,
    ⟨some 11, .mv (.t 30), none⟩]) <|
  .seq (.reg [⟨some 31, .mv (.t 11), none⟩,
    ⟨some 32, .bin .and (.t 31) (.c (.int .u64 4294967295)), none⟩,
    ⟨some 12, .mv (.t 32), none⟩]) <|
  .seq (.reg [⟨some 33, .mv (.t 11), none⟩,
    ⟨some 34, .bin .shr (.t 33) (.c (.int .u64 32)), none⟩,
    ⟨some 13, .mv (.t 34), none⟩]) <|
  .seq (.reg [⟨some 35, .mv (.t 12), none⟩,
    ⟨some 36, .mv (.t 6), none⟩,
    ⟨some 37, .mv (.t 9), none⟩,
    ⟨some 38, .bin .mul (.t 36) (.t 37), none⟩,
    ⟨some 39, .bin .add (.t 35) (.t 38), none⟩,
    ⟨some 12, .mv (.t 39), none⟩]) <|
  .seq (.reg [⟨some 40, .mv (.t 7), none⟩,
    ⟨some 41, .mv (.t 9), none⟩,
    ⟨some 42, .bin .mul (.t 40) (.t 41), none⟩,
    ⟨some 43, .mv (.t 13), none⟩,
    ⟨some 44, .bin .add (.t 42) (.t 43), none⟩,
    ⟨some 45, .mv (.t 12), none⟩,
    ⟨some 46, .bin .shr (.t 45) (.c (.int .u64 32)), none⟩,
    ⟨some 47, .bin .add (.t 44) (.t 46), none⟩,
    ⟨some 4, .mv (.t 47), none⟩]) <|
  .seq (.reg [⟨some 48, .mv (.t 0), none⟩,
    ⟨some 49, .mv (.t 1), none⟩,
    ⟨some 50, .bin .mul (.t 48) (.t 49), none⟩,
    ⟨some 5, .mv (.t 50), none⟩]) <|
  .ret⟩
abbrev math_bits_Mul64.id : FuncId := 129
theorem math_bits_Mul64.tr : trFun Try.prog 129 = some math_bits_Mul64.g := by kernel_rfl
def impl_sum.l0 : IC :=
  .seq (.reg [⟨some 11, .bin .lss (.t 10) (.t 9), none⟩]) <|
  .seq (.cond (.t 11) (.skip) (.exit 0)) <|
  .seq (.block 1 (.seq (.reg [⟨some 12, .iadr 3 (.t 8) (.t 10), none⟩,
      ⟨some 13, .load 3 true (.t 12), none⟩,
      ⟨some 7, .alloc 94 [.int .i64 0, .int .i64 0, .int .i64 0], none⟩,
      ⟨none, .store 3 (.t 7) (.t 13), none⟩]) <|
    .block 2 (.seq (.reg [⟨some 23, .fadr 0 (.t 7), none⟩,
        ⟨some 24, .load 1 false (.t 23), none⟩,
        ⟨some 25, .bin .lss (.t 24) (.c (.int .i64 0)), none⟩,
        ⟨some 22, .mv (.t 25), none⟩]) <|
      .cond (.t 22) (.reg [⟨some 26, .mv (.t 5), none⟩,
          ⟨some 27, .bin .add (.t 26) (.c (.int .i64 1)), none⟩,
          ⟨some 5, .mv (.t 27), none⟩]) (.seq (.reg [⟨some 29, .mv (.t 1), none⟩,
          ⟨some 30, .fadr 0 (.t 7), none⟩,
          ⟨some 31, .load 1 false (.t 30), none⟩,
          ⟨some 32, .iadr 1 (.t 29) (.t 31), none⟩,
          ⟨some 33, .load 1 false (.t 32), none⟩,
          ⟨some 34, .bin .lss (.t 33) (.c (.int .i64 0)), none⟩,
          ⟨some 28, .mv (.t 34), none⟩]) <|
        .cond (.t 28) (.seq (.reg [⟨some 4, .mv (.c (.int .i64 (-1))), none⟩]) <|
          .ret) (.reg [⟨some 14, .mv (.t 5), none⟩,
            ⟨some 15, .mv (.t 1), none⟩,
            ⟨some 16, .fadr 0 (.t 7), none⟩,
            ⟨some 17, .load 1 false (.t 16), none⟩,
            ⟨some 18, .iadr 1 (.t 15) (.t 17), none⟩,
            ⟨some 19, .load 1 false (.t 18), none⟩,
            ⟨some 20, .bin .add (.t 14) (.t 19), none⟩,
            ⟨some 21, .mm false (.t 20) (.c (.int .i64 9999)), none⟩,
            ⟨some 5, .mv (.t 21), none⟩]))))) <|
  .reg [⟨some 35, .bin .add (.t 10) (.c (.int .i64 1)), none⟩,
    ⟨some 10, .mv (.t 35), none⟩]
def impl_sum.g : Fun := ⟨37, [(4, none)], 
  .seq (.reg [⟨some 4, .mv (.c (.int .i64 0)), none⟩]) <|
  .seq (.reg [⟨some 5, .mv (.c (.int .i64 0)), none⟩]) <|
  .seq (.seq (.reg [⟨some 8, .mv (.t 0), none⟩,
    ⟨some 9, .len (.t 8) false, none⟩,
    ⟨some 10, .mv (.c (.int .i64 0)), none⟩]) <|
  .block 0 (.loop impl_sum.l0)) <|
  .seq (.reg [⟨some 36, .mv (.t 5), none⟩,
    ⟨some 4, .mv (.t 36), none⟩]) <|
  .ret⟩
abbrev impl_sum.id : FuncId := 97
theorem impl_sum.tr : trFun Try.prog 97 = some impl_sum.g := by kernel_rfl
def spec_l3Body.l0 : IC :=
  .seq (.seq (.reg [⟨some 7, .mv (.t 6), none⟩,
    ⟨some 8, .mv (.t 0), none⟩,
    ⟨some 9, .len (.t 8) false, none⟩,
    ⟨some 10, .bin .lss (.t 7) (.t 9), none⟩]) <|
  .cond (.t 10) (.skip) (.exit 0)) <|
  .seq (.block 1 (.seq (.seq (.reg [⟨some 13, .mv (.t 0), none⟩,
      ⟨some 14, .mv (.t 6), none⟩,
      ⟨some 15, .iadr 3 (.t 13) (.t 14), none⟩,
      ⟨some 16, .fadr 0 (.t 15), none⟩,
      ⟨some 17, .load 1 false (.t 16), none⟩,
      ⟨some 18, .bin .lss (.t 17) (.c (.int .i64 0)), none⟩]) <|
    .cond (.t 18) (.seq (.reg [⟨some 19, .mv (.t 5), none⟩,
        ⟨some 20, .bin .add (.t 19) (.c (.int .i64 1)), none⟩,
        ⟨some 5, .mv (.t 20), none⟩]) <|
      .exit 1) (.skip)) <|
    .seq (.seq (.reg [⟨some 21, .mv (.t 1), none⟩,
      ⟨some 22, .mv (.t 0), none⟩,
      ⟨some 23, .mv (.t 6), none⟩,
      ⟨some 24, .iadr 3 (.t 22) (.t 23), none⟩,
      ⟨some 25, .fadr 0 (.t 24), none⟩,
      ⟨some 26, .load 1 false (.t 25), none⟩,
      ⟨some 27, .iadr 1 (.t 21) (.t 26), none⟩,
      ⟨some 28, .load 1 false (.t 27), none⟩,
      ⟨some 29, .bin .lss (.t 28) (.c (.int .i64 0)), none⟩]) <|
    .cond (.t 29) (.seq (.reg [⟨some 4, .mv (.c (.int .i64 (-1))), none⟩]) <|
      .ret) (.skip)) <|
    .seq (.reg [⟨some 30, .mv (.t 5), none⟩,
      ⟨some 31, .mv (.t 1), none⟩,
      ⟨some 32, .mv (.t 0), none⟩,
      ⟨some 33, .mv (.t 6), none⟩,
      ⟨some 34, .iadr 3 (.t 32) (.t 33), none⟩,
      ⟨some 35, .fadr 0 (.t 34), none⟩,
      ⟨some 36, .load 1 false (.t 35), none⟩,
      ⟨some 37, .iadr 1 (.t 31) (.t 36), none⟩,
      ⟨some 38, .load 1 false (.t 37), none⟩,
      ⟨some 39, .bin .add (.t 30) (.t 38), none⟩,
      ⟨some 5, .mv (.t 39), none⟩]) <|
    .seq (.reg [⟨some 40, .mv (.t 5), none⟩,
      ⟨some 41, .bin .gtr (.t 40) (.c (.int .i64 9999)), none⟩]) <|
    .cond (.t 41) (.reg [⟨some 5, .mv (.c (.int .i64 9999)), none⟩]) (.skip))) <|
  .reg [⟨some 11, .mv (.t 6), none⟩,
    ⟨some 12, .bin .add (.t 11) (.c (.int .i64 1)), none⟩,
    ⟨some 6, .mv (.t 12), none⟩]
def spec_l3Body.g : Fun := ⟨43, [(4, none)], 
  .seq (.reg [⟨some 4, .mv (.c (.int .i64 0)), none⟩]) <|
  .seq (.reg [⟨some 5, .mv (.c (.int .i64 0)), none⟩]) <|
  .seq (.seq (.reg [⟨some 6, .mv (.c (.int .i64 0)), none⟩]) <|
  .block 0 (.loop spec_l3Body.l0)) <|
  .seq (.reg [⟨some 42, .mv (.t 5), none⟩,
    ⟨some 4, .mv (.t 42), none⟩]) <|
  .ret⟩
abbrev spec_l3Body.id : FuncId := 93
theorem spec_l3Body.tr : trFun Try.prog 93 = some spec_l3Body.g := by kernel_rfl
def impl_Cfg_least.l0 : IC :=
  .seq (.reg [⟨some 17, .bin .lss (.t 16) (.t 15), none⟩]) <|
  .seq (.cond (.t 17) (.skip) (.exit 2)) <|
  .seq (.block 3 (.seq (.reg [⟨some 18, .iadr 2 (.t 14) (.t 16), none⟩,
      ⟨some 19, .load 2 true (.t 18), none⟩,
      ⟨some 6, .alloc 85 [.int .i64 0, .slice none 0 0], none⟩,
      ⟨none, .store 2 (.t 6) (.t 19), none⟩]) <|
    .seq (.reg [⟨some 20, .fadr 1 (.t 6), none⟩,
      ⟨some 21, .load 1 false (.t 20), none⟩,
      ⟨some 22, .mv (.t 3), none⟩,
      ⟨some 23, .call 97 [(.t 21), (.t 22)], none⟩,
      ⟨some 7, .mv (.t 23), none⟩]) <|
    .seq (.reg [⟨some 24, .mv (.t 7), none⟩,
      ⟨some 25, .bin .geq (.t 24) (.c (.int .i64 0)), none⟩,
      ⟨some 26, .mv (.t 25), none⟩,
      ⟨some 27, .mv (.t 3), some (26, true)⟩,
      ⟨some 28, .fadr 0 (.t 6), some (26, true)⟩,
      ⟨some 29, .load 1 false (.t 28), some (26, true)⟩,
      ⟨some 30, .iadr 1 (.t 27) (.t 29), some (26, true)⟩,
      ⟨some 31, .load 1 false (.t 30), some (26, true)⟩,
      ⟨some 32, .bin .lss (.t 31) (.c (.int .i64 0)), some (26, true)⟩,
      ⟨some 33, .mv (.t 32), some (26, true)⟩,
      ⟨some 34, .mv (.t 7), some (33, false)⟩,
      ⟨some 35, .mv (.t 3), some (33, false)⟩,
      ⟨some 36, .fadr 0 (.t 6), some (33, false)⟩,
      ⟨some 37, .load 1 false (.t 36), some (33, false)⟩,
      ⟨some 38, .iadr 1 (.t 35) (.t 37), some (33, false)⟩,
      ⟨some 39, .load 1 false (.t 38), some (33, false)⟩,
      ⟨some 40, .bin .lss (.t 34) (.t 39), some (33, false)⟩,
      ⟨some 41, .pick (.t 33) (.c (.bool true)) (.t 40), some (26, true)⟩,
      ⟨some 42, .pick (.t 26) (.t 41) (.c (.bool false)), none⟩]) <|
    .cond (.t 42) (.seq (.reg [⟨some 43, .mv (.t 3), none⟩,
        ⟨some 44, .fadr 0 (.t 6), none⟩,
        ⟨some 45, .load 1 false (.t 44), none⟩,
        ⟨some 46, .mv (.t 7), none⟩,
        ⟨some 47, .iadr 1 (.t 43) (.t 45), none⟩,
        ⟨none, .store 1 (.t 47) (.t 46), none⟩]) <|
      .reg [⟨some 4, .mv (.c (.bool true)), none⟩]) (.skip))) <|
  .reg [⟨some 48, .bin .add (.t 16) (.c (.int .i64 1)), none⟩,
    ⟨some 16, .mv (.t 48), none⟩]
def impl_Cfg_least.l1 : IC :=
  .seq (.seq (.reg [⟨some 12, .mv (.t 4), none⟩]) <|
  .cond (.t 12) (.skip) (.exit 0)) <|
  .block 1 (.seq (.reg [⟨some 4, .mv (.c (.bool false)), none⟩]) <|
    .seq (.reg [⟨some 13, .fadr 1 (.t 1), none⟩,
      ⟨some 14, .load 1 false (.t 13), none⟩,
      ⟨some 15, .len (.t 14) false, none⟩,
      ⟨some 16, .mv (.c (.int .i64 0)), none⟩]) <|
    .block 2 (.loop impl_Cfg_least.l0))
def impl_Cfg_least.g : Fun := ⟨50, [(2, none)], 
  .seq (.reg [⟨some 1, .box 33 (.t 0), none⟩,
    ⟨some 2, .mv (.c (.slice none 0 0)), none⟩]) <|
  .seq (.reg [⟨some 8, .bslice 3 1 1 [.int .i64 0] [(0, (.c (.int .i64 (-1))))], none⟩,
    ⟨some 9, .fadr 0 (.t 1), none⟩,
    ⟨some 10, .load 1 false (.t 9), none⟩,
    ⟨some 11, .call 115 [(.t 8), (.t 10)], none⟩,
    ⟨some 3, .mv (.t 11), none⟩]) <|
  .seq (.seq (.reg [⟨some 4, .mv (.c (.bool true)), none⟩]) <|
  .block 0 (.loop impl_Cfg_least.l1)) <|
  .seq (.reg [⟨some 49, .mv (.t 3), none⟩,
    ⟨some 2, .mv (.t 49), none⟩]) <|
  .ret⟩
abbrev impl_Cfg_least.id : FuncId := 96
theorem impl_Cfg_least.tr : trFun Try.prog 96 = some impl_Cfg_least.g := by kernel_rfl
def spec_CfgLeast.l0 : IC :=
  .seq (.seq (.reg [⟨some 14, .mv (.t 4), none⟩,
    ⟨some 15, .fadr 0 (.t 1), none⟩,
    ⟨some 16, .load 1 false (.t 15), none⟩,
    ⟨some 17, .bin .lss (.t 14) (.t 16), none⟩]) <|
  .cond (.t 17) (.skip) (.exit 0)) <|
  .seq (.block 1 (.reg [⟨some 20, .mv (.t 3), none⟩,
      ⟨some 21, .bslice 3 1 1 [.int .i64 0] [(0, (.c (.int .i64 (-1))))], none⟩,
      ⟨some 22, .app 3 1 (.t 20) (.t 21), none⟩,
      ⟨some 3, .mv (.t 22), none⟩])) <|
  .reg [⟨some 18, .mv (.t 4), none⟩,
    ⟨some 19, .bin .add (.t 18) (.c (.int .i64 1)), none⟩,
    ⟨some 4, .mv (.t 19), none⟩]
def spec_CfgLeast.l1 : IC :=
  .seq (.seq (.reg [⟨some 24, .mv (.t 6), none⟩,
    ⟨some 25, .fadr 1 (.t 1), none⟩,
    ⟨some 26, .load 1 false (.t 25), none⟩,
    ⟨some 27, .len (.t 26) false, none⟩,
    ⟨some 28, .bin .lss (.t 24) (.t 27), none⟩]) <|
  .cond (.t 28) (.skip) (.exit 4)) <|
  .seq (.block 5 (.seq (.reg [⟨some 31, .fadr 1 (.t 1), none⟩,
      ⟨some 32, .load 1 false (.t 31), none⟩,
      ⟨some 33, .mv (.t 6), none⟩,
      ⟨some 34, .iadr 2 (.t 32) (.t 33), none⟩,
      ⟨some 35, .fadr 1 (.t 34), none⟩,
      ⟨some 36, .load 1 false (.t 35), none⟩,
      ⟨some 37, .mv (.t 3), none⟩,
      ⟨some 38, .call 93 [(.t 36), (.t 37)], none⟩,
      ⟨some 7, .mv (.t 38), none⟩]) <|
    .seq (.reg [⟨some 39, .fadr 1 (.t 1), none⟩,
      ⟨some 40, .load 1 false (.t 39), none⟩,
      ⟨some 41, .mv (.t 6), none⟩,
      ⟨some 42, .iadr 2 (.t 40) (.t 41), none⟩,
      ⟨some 43, .fadr 0 (.t 42), none⟩,
      ⟨some 44, .load 1 false (.t 43), none⟩,
      ⟨some 8, .mv (.t 44), none⟩]) <|
    .seq (.reg [⟨some 45, .mv (.t 7), none⟩,
      ⟨some 46, .bin .geq (.t 45) (.c (.int .i64 0)), none⟩,
      ⟨some 47, .mv (.t 46), none⟩,
      ⟨some 48, .mv (.t 3), some (47, true)⟩,
      ⟨some 49, .mv (.t 8), some (47, true)⟩,
      ⟨some 50, .iadr 1 (.t 48) (.t 49), some (47, true)⟩,
      ⟨some 51, .load 1 false (.t 50), some (47, true)⟩,
      ⟨some 52, .bin .lss (.t 51) (.c (.int .i64 0)), some (47, true)⟩,
      ⟨some 53, .mv (.t 52), some (47, true)⟩,
      ⟨some 54, .mv (.t 7), some (53, false)⟩,
      ⟨some 55, .mv (.t 3), some (53, false)⟩,
      ⟨some 56, .mv (.t 8), some (53, false)⟩,
      ⟨some 57, .iadr 1 (.t 55) (.t 56), some (53, false)⟩,
      ⟨some 58, .load 1 false (.t 57), some (53, false)⟩,
      ⟨some 59, .bin .lss (.t 54) (.t 58), some (53, false)⟩,
      ⟨some 60, .pick (.t 53) (.c (.bool true)) (.t 59), some (47, true)⟩,
      ⟨some 61, .pick (.t 47) (.t 60) (.c (.bool false)), none⟩]) <|
    .cond (.t 61) (.seq (.reg [⟨some 62, .mv (.t 3), none⟩,
        ⟨some 63, .mv (.t 8), none⟩,
        ⟨some 64, .mv (.t 7), none⟩,
        ⟨some 65, .iadr 1 (.t 62) (.t 63), none⟩,
        ⟨none, .store 1 (.t 65) (.t 64), none⟩]) <|
      .reg [⟨some 5, .mv (.c (.bool true)), none⟩]) (.skip))) <|
  .reg [⟨some 29, .mv (.t 6), none⟩,
    ⟨some 30, .bin .add (.t 29) (.c (.int .i64 1)), none⟩,
    ⟨some 6, .mv (.t 30), none⟩]
def spec_CfgLeast.l2 : IC :=
  .seq (.seq (.reg [⟨some 23, .mv (.t 5), none⟩]) <|
  .cond (.t 23) (.skip) (.exit 2)) <|
  .block 3 (.seq (.reg [⟨some 5, .mv (.c (.bool false)), none⟩]) <|
    .seq (.reg [⟨some 6, .mv (.c (.int .i64 0)), none⟩]) <|
    .block 4 (.loop spec_CfgLeast.l1))
def spec_CfgLeast.g : Fun := ⟨67, [(2, none)], 
  .seq (.reg [⟨some 1, .box 33 (.t 0), none⟩,
    ⟨some 2, .mv (.c (.slice none 0 0)), none⟩]) <|
  .seq (.reg [⟨some 9, .bslice 3 0 1 [.int .i64 0] [], none⟩,
    ⟨some 3, .mv (.t 9), none⟩]) <|
  .seq (.seq (.reg [⟨some 10, .load 2 true (.t 1), none⟩,
    ⟨some 11, .call 51 [(.t 10)], none⟩,
    ⟨some 12, .un .not (.t 11), none⟩]) <|
  .cond (.t 12) (.seq (.reg [⟨some 13, .mv (.t 3), none⟩,
      ⟨some 2, .mv (.t 13), none⟩]) <|
    .ret) (.skip)) <|
  .seq (.seq (.reg [⟨some 4, .mv (.c (.int .i64 0)), none⟩]) <|
  .block 0 (.loop spec_CfgLeast.l0)) <|
  .seq (.reg [⟨some 5, .mv (.c (.bool true)), none⟩]) <|
  .seq (.block 2 (.loop spec_CfgLeast.l2)) <|
  .seq (.reg [⟨some 66, .mv (.t 3), none⟩,
    ⟨some 2, .mv (.t 66), none⟩]) <|
  .ret⟩
abbrev spec_CfgLeast.id : FuncId := 92
theorem spec_CfgLeast.tr : trFun Try.prog 92 = some spec_CfgLeast.g := by kernel_rfl
def impl_Cfg_trim.l0 : IC :=
  .seq (.reg [⟨some 45, .bin .lss (.t 44) (.t 43), none⟩]) <|
  .seq (.cond (.t 45) (.skip) (.exit 4)) <|
  .seq (.block 5 (.seq (.reg [⟨some 46, .iadr 3 (.t 42) (.t 44), none⟩,
      ⟨some 47, .load 3 true (.t 46), none⟩,
      ⟨some 9, .alloc 94 [.int .i64 0, .int .i64 0, .int .i64 0], none⟩,
      ⟨none, .store 3 (.t 9) (.t 47), none⟩]) <|
    .seq (.reg [⟨some 48, .fadr 0 (.t 9), none⟩,
      ⟨some 49, .load 1 false (.t 48), none⟩,
      ⟨some 50, .bin .geq (.t 49) (.c (.int .i64 0)), none⟩,
      ⟨some 51, .mv (.t 50), none⟩,
      ⟨some 52, .mv (.t 4), some (51, true)⟩,
      ⟨some 53, .fadr 0 (.t 9), some (51, true)⟩,
      ⟨some 54, .load 1 false (.t 53), some (51, true)⟩,
      ⟨some 55, .iadr 1 (.t 52) (.t 54), some (51, true)⟩,
      ⟨some 56, .load 1 false (.t 55), some (51, true)⟩,
      ⟨some 57, .un .not (.t 56), some (51, true)⟩,
      ⟨some 58, .pick (.t 51) (.t 57) (.c (.bool false)), none⟩]) <|
    .cond (.t 58) (.seq (.reg [⟨some 59, .mv (.t 4), none⟩,
        ⟨some 60, .fadr 0 (.t 9), none⟩,
        ⟨some 61, .load 1 false (.t 60), none⟩,
        ⟨some 62, .iadr 1 (.t 59) (.t 61), none⟩,
        ⟨none, .store 1 (.t 62) (.c (.bool true)), none⟩]) <|
      .reg [⟨some 5, .mv (.c (.bool true)), none⟩]) (.skip))) <|
  .reg [⟨some 63, .bin .add (.t 44) (.c (.int .i64 1)), none⟩,
    ⟨some 44, .mv (.t 63), none⟩]
def impl_Cfg_trim.l1 : IC :=
  .seq (.reg [⟨some 25, .bin .lss (.t 24) (.t 23), none⟩]) <|
  .seq (.cond (.t 25) (.skip) (.exit 2)) <|
  .seq (.block 3 (.seq (.reg [⟨some 26, .iadr 2 (.t 22) (.t 24), none⟩,
      ⟨some 27, .load 2 true (.t 26), none⟩,
      ⟨some 7, .alloc 85 [.int .i64 0, .slice none 0 0], none⟩,
      ⟨none, .store 2 (.t 7) (.t 27), none⟩]) <|
    .seq (.seq (.reg [⟨some 28, .mv (.t 4), none⟩,
      ⟨some 29, .fadr 0 (.t 7), none⟩,
      ⟨some 30, .load 1 false (.t 29), none⟩,
      ⟨some 31, .iadr 1 (.t 28) (.t 30), none⟩,
      ⟨some 32, .load 1 false (.t 31), none⟩,
      ⟨some 33, .un .not (.t 32), none⟩,
      ⟨some 34, .mv (.t 33), none⟩,
      ⟨some 35, .fadr 1 (.t 7), some (34, false)⟩,
      ⟨some 36, .load 1 false (.t 35), some (34, false)⟩,
      ⟨some 37, .mv (.t 3), some (34, false)⟩,
      ⟨some 38, .call 97 [(.t 36), (.t 37)], some (34, false)⟩,
      ⟨some 39, .bin .lss (.t 38) (.c (.int .i64 0)), some (34, false)⟩,
      ⟨some 40, .pick (.t 34) (.c (.bool true)) (.t 39), none⟩]) <|
    .cond (.t 40) (.exit 3) (.skip)) <|
    .seq (.reg [⟨some 41, .fadr 1 (.t 7), none⟩,
      ⟨some 42, .load 1 false (.t 41), none⟩,
      ⟨some 43, .len (.t 42) false, none⟩,
      ⟨some 44, .mv (.c (.int .i64 0)), none⟩]) <|
    .block 4 (.loop impl_Cfg_trim.l0))) <|
  .reg [⟨some 64, .bin .add (.t 24) (.c (.int .i64 1)), none⟩,
    ⟨some 24, .mv (.t 64), none⟩]
def impl_Cfg_trim.l2 : IC :=
  .seq (.seq (.reg [⟨some 20, .mv (.t 5), none⟩]) <|
  .cond (.t 20) (.skip) (.exit 0)) <|
  .block 1 (.seq (.reg [⟨some 5, .mv (.c (.bool false)), none⟩]) <|
    .seq (.reg [⟨some 21, .fadr 1 (.t 1), none⟩,
      ⟨some 22, .load 1 false (.t 21), none⟩,
      ⟨some 23, .len (.t 22) false, none⟩,
      ⟨some 24, .mv (.c (.int .i64 0)), none⟩]) <|
    .block 2 (.loop impl_Cfg_trim.l1))
def impl_Cfg_trim.l3 : IC :=
  .seq (.reg [⟨some 73, .bin .lss (.t 72) (.t 71), none⟩]) <|
  .seq (.cond (.t 73) (.skip) (.exit 6)) <|
  .seq (.block 7 (.seq (.reg [⟨some 74, .iadr 2 (.t 70) (.t 72), none⟩,
      ⟨some 75, .load 2 true (.t 74), none⟩,
      ⟨some 12, .alloc 85 [.int .i64 0, .slice none 0 0], none⟩,
      ⟨none, .store 2 (.t 12) (.t 75), none⟩]) <|
    .seq (.reg [⟨some 76, .mv (.t 4), none⟩,
      ⟨some 77, .fadr 0 (.t 12), none⟩,
      ⟨some 78, .load 1 false (.t 77), none⟩,
      ⟨some 79, .iadr 1 (.t 76) (.t 78), none⟩,
      ⟨some 80, .load 1 false (.t 79), none⟩,
      ⟨some 81, .mv (.t 80), none⟩,
      ⟨some 82, .fadr 1 (.t 12), some (81, true)⟩,
      ⟨some 83, .load 1 false (.t 82), some (81, true)⟩,
      ⟨some 84, .mv (.t 3), some (81, true)⟩,
      ⟨some 85, .call 97 [(.t 83), (.t 84)], some (81, true)⟩,
      ⟨some 86, .bin .geq (.t 85) (.c (.int .i64 0)), some (81, true)⟩,
      ⟨some 87, .pick (.t 81) (.t 86) (.c (.bool false)), none⟩]) <|
    .cond (.t 87) (.dreg (.one 0 (.one 2 (.one 5 (.one 6 (.ld 1 (.ld 3 (.one 4 (.one 7 (.one 8 (.one 9 (.one 10 (.one 11 (.one 12 (.done)))))))) (.alt (.one 3 (.one 4 (.one 7 (.one 8 (.one 9 (.one 10 (.one 11 (.one 12 (.done))))))))) (.one 4 (.ld 3 (.one 7 (.one 8 (.one 9 (.one 10 (.one 11 (.one 12 (.done))))))) (.alt (.one 3 (.one 7 (.one 8 (.one 9 (.one 10 (.one 11 (.one 12 (.done)))))))) (.one 7 (.one 3 (.one 8 (.one 9 (.one 10 (.one 11 (.one 12 (.done))))))))))))) (.alt (.one 1 (.ld 3 (.one 4 (.one 7 (.one 8 (.one 9 (.one 10 (.one 11 (.one 12 (.done)))))))) (.alt (.one 3 (.one 4 (.one 7 (.one 8 (.one 9 (.one 10 (.one 11 (.one 12 (.done))))))))) (.one 4 (.ld 3 (.one 7 (.one 8 (.one 9 (.one 10 (.one 11 (.one 12 (.done))))))) (.alt (.one 3 (.one 7 (.one 8 (.one 9 (.one 10 (.one 11 (.one 12 (.done)))))))) (.one 7 (.one 3 (.one 8 (.one 9 (.one 10 (.one 11 (.one 12 (.done)))))))))))))) (.alt (.one 3 (.ld 1 (.one 4 (.one 7 (.one 8 (.one 9 (.one 10 (.one 11 (.one 12 (.done)))))))) (.alt (.one 1 (.one 4 (.one 7 (.one 8 (.one 9 (.one 10 (.one 11 (.one 12 (.done))))))))) (.one 4 (.ld 1 (.one 7 (.one 8 (.one 9 (.one 10 (.one 11 (.one 12 (.done))))))) (.alt (.one 1 (.one 7 (.one 8 (.one 9 (.one 10 (.one 11 (.one 12 (.done)))))))) (.one 7 (.one 1 (.one 8 (.one 9 (.one 10 (.one 11 (.one 12 (.done)))))))))))))) (.one 4 (.ld 1 (.ld 3 (.one 7 (.one 8 (.one 9 (.one 10 (.one 11 (.one 12 (.done))))))) (.alt (.one 3 (.one 7 (.one 8 (.one 9 (.one 10 (.one 11 (.one 12 (.done)))))))) (.one 7 (.one 3 (.one 8 (.one 9 (.one 10 (.one 11 (.one 12 (.done)))))))))) (.alt (.one 1 (.ld 3 (.one 7 (.one 8 (.one 9 (.one 10 (.one 11 (.one 12 (.done))))))) (.alt (.one 3 (.one 7 (.one 8 (.one 9 (.one 10 (.one 11 (.one 12 (.done)))))))) (.one 7 (.one 3 (.one 8 (.one 9 (.one 10 (.one 11 (.one 12 (.done))))))))))) (.alt (.one 3 (.ld 1 (.one 7 (.one 8 (.one 9 (.one 10 (.one 11 (.one 12 (.done))))))) (.alt (.one 1 (.one 7 (.one 8 (.one 9 (.one 10 (.one 11 (.one 12 (.done)))))))) (.one 7 (.one 1 (.one 8 (.one 9 (.one 10 (.one 11 (.one 12 (.done))))))))))) (.one 7 (.one 1 (.one 3 (.one 8 (.one 9 (.one 10 (.one 11 (.one 12 (.done)))))))))))))))))))) [⟨some 88, .fadr 1 (.t 10), none⟩,
        ⟨some 89, .load 1 false (.t 88), none⟩,
        ⟨some 90, .fadr 0 (.t 12), none⟩,
        ⟨some 91, .load 1 false (.t 90), none⟩,
        ⟨some 92, .bslice 94 0 3 [.int .i64 0, .int .i64 0, .int .i64 0] [], none⟩,
        ⟨some 93, .fadr 1 (.t 12), none⟩,
        ⟨some 94, .load 1 false (.t 93), none⟩,
        ⟨some 95, .app 94 3 (.t 92) (.t 94), none⟩,
        ⟨some 96, .build [.int .i64 0, .slice none 0 0] [(0, 1, (.t 91)), (1, 1, (.t 95))], none⟩,
        ⟨some 97, .bslice 85 1 2 [.int .i64 0, .slice none 0 0] [(0, (.t 96))], none⟩,
        ⟨some 98, .app 85 2 (.t 89) (.t 97), none⟩,
        ⟨some 99, .fadr 1 (.t 10), none⟩,
        ⟨none, .store 1 (.t 99) (.t 98), none⟩]) (.skip))) <|
  .reg [⟨some 100, .bin .add (.t 72) (.c (.int .i64 1)), none⟩,
    ⟨some 72, .mv (.t 100), none⟩]
def impl_Cfg_trim.g : Fun := ⟨102, [(2, some (2, true))], 
  .seq (.reg [⟨some 1, .box 33 (.t 0), none⟩,
    ⟨some 2, .alloc 33 [.int .i64 0, .slice none 0 0], none⟩]) <|
  .seq (.reg [⟨some 13, .load 2 true (.t 1), none⟩,
    ⟨some 14, .call 96 [(.t 13)], none⟩,
    ⟨some 3, .mv (.t 14), none⟩]) <|
  .seq (.reg [⟨some 15, .fadr 0 (.t 1), none⟩,
    ⟨some 16, .load 1 false (.t 15), none⟩,
    ⟨some 17, .mks 4 1 [.bool false] (.t 16) (.t 16), none⟩,
    ⟨some 4, .mv (.t 17), none⟩]) <|
  .seq (.reg [⟨some 18, .mv (.t 4), none⟩,
    ⟨some 19, .iadr 1 (.t 18) (.c (.int .i64 0)), none⟩,
    ⟨none, .store 1 (.t 19) (.c (.bool true)), none⟩]) <|
  .seq (.seq (.reg [⟨some 5, .mv (.c (.bool true)), none⟩]) <|
  .block 0 (.loop impl_Cfg_trim.l2)) <|
  .seq (.reg [⟨some 65, .fadr 0 (.t 1), none⟩,
    ⟨some 66, .load 1 false (.t 65), none⟩,
    ⟨some 67, .bslice 85 0 2 [.int .i64 0, .slice none 0 0] [], none⟩,
    ⟨some 68, .build [.int .i64 0, .slice none 0 0] [(0, 1, (.t 66)), (1, 1, (.t 67))], none⟩,
    ⟨some 10, .alloc 33 [.int .i64 0, .slice none 0 0], none⟩,
    ⟨none, .store 2 (.t 10) (.t 68), none⟩]) <|
  .seq (.seq (.reg [⟨some 69, .fadr 1 (.t 1), none⟩,
    ⟨some 70, .load 1 false (.t 69), none⟩,
    ⟨some 71, .len (.t 70) false, none⟩,
    ⟨some 72, .mv (.c (.int .i64 0)), none⟩]) <|
  .block 6 (.loop impl_Cfg_trim.l3)) <|
  .seq (.reg [⟨some 101, .load 2 true (.t 10), none⟩,
    ⟨none, .store 2 (.t 2) (.t 101), none⟩]) <|
  .ret⟩
abbrev impl_Cfg_trim.id : FuncId := 58
theorem impl_Cfg_trim.tr : trFun Try.prog 58 = some impl_Cfg_trim.g := by kernel_rfl
def spec_CfgTrim.l0 : IC :=
  .seq (.seq (.reg [⟨some 49, .mv (.t 8), none⟩,
    ⟨some 50, .fadr 1 (.t 7), none⟩,
    ⟨some 51, .load 1 false (.t 50), none⟩,
    ⟨some 52, .len (.t 51) false, none⟩,
    ⟨some 53, .bin .lss (.t 49) (.t 52), none⟩]) <|
  .cond (.t 53) (.skip) (.exit 4)) <|
  .seq (.block 5 (.seq (.reg [⟨some 56, .fadr 1 (.t 7), none⟩,
      ⟨some 57, .load 1 false (.t 56), none⟩,
      ⟨some 58, .mv (.t 8), none⟩,
      ⟨some 59, .iadr 3 (.t 57) (.t 58), none⟩,
      ⟨some 60, .fadr 0 (.t 59), none⟩,
      ⟨some 61, .load 1 false (.t 60), none⟩,
      ⟨some 62, .bin .geq (.t 61) (.c (.int .i64 0)), none⟩,
      ⟨some 63, .mv (.t 62), none⟩,
      ⟨some 64, .mv (.t 4), some (63, true)⟩,
      ⟨some 65, .fadr 1 (.t 7), some (63, true)⟩,
      ⟨some 66, .load 1 false (.t 65), some (63, true)⟩,
      ⟨some 67, .mv (.t 8), some (63, true)⟩,
      ⟨some 68, .iadr 3 (.t 66) (.t 67), some (63, true)⟩,
      ⟨some 69, .fadr 0 (.t 68), some (63, true)⟩,
      ⟨some 70, .load 1 false (.t 69), some (63, true)⟩,
      ⟨some 71, .iadr 1 (.t 64) (.t 70), some (63, true)⟩,
      ⟨some 72, .load 1 false (.t 71), some (63, true)⟩,
      ⟨some 73, .un .not (.t 72), some (63, true)⟩,
      ⟨some 74, .pick (.t 63) (.t 73) (.c (.bool false)), none⟩]) <|
    .cond (.t 74) (.seq (.reg [⟨some 75, .mv (.t 4), none⟩,
        ⟨some 76, .fadr 1 (.t 7), none⟩,
        ⟨some 77, .load 1 false (.t 76), none⟩,
        ⟨some 78, .mv (.t 8), none⟩,
        ⟨some 79, .iadr 3 (.t 77) (.t 78), none⟩,
        ⟨some 80, .fadr 0 (.t 79), none⟩,
        ⟨some 81, .load 1 false (.t 80), none⟩,
        ⟨some 82, .iadr 1 (.t 75) (.t 81), none⟩,
        ⟨none, .store 1 (.t 82) (.c (.bool true)), none⟩]) <|
      .reg [⟨some 5, .mv (.c (.bool true)), none⟩]) (.skip))) <|
  .reg [⟨some 54, .mv (.t 8), none⟩,
    ⟨some 55, .bin .add (.t 54) (.c (.int .i64 1)), none⟩,
    ⟨some 8, .mv (.t 55), none⟩]
def spec_CfgTrim.l1 : IC :=
  .seq (.seq (.reg [⟨some 24, .mv (.t 6), none⟩,
    ⟨some 25, .fadr 1 (.t 1), none⟩,
    ⟨some 26, .load 1 false (.t 25), none⟩,
    ⟨some 27, .len (.t 26) false, none⟩,
    ⟨some 28, .bin .lss (.t 24) (.t 27), none⟩]) <|
  .cond (.t 28) (.skip) (.exit 2)) <|
  .seq (.block 3 (.seq (.reg [⟨some 31, .fadr 1 (.t 1), none⟩,
      ⟨some 32, .load 1 false (.t 31), none⟩,
      ⟨some 33, .mv (.t 6), none⟩,
      ⟨some 34, .iadr 2 (.t 32) (.t 33), none⟩,
      ⟨some 35, .load 2 true (.t 34), none⟩,
      ⟨some 7, .alloc 85 [.int .i64 0, .slice none 0 0], none⟩,
      ⟨none, .store 2 (.t 7) (.t 35), none⟩]) <|
    .seq (.seq (.reg [⟨some 36, .mv (.t 4), none⟩,
      ⟨some 37, .fadr 0 (.t 7), none⟩,
      ⟨some 38, .load 1 false (.t 37), none⟩,
      ⟨some 39, .iadr 1 (.t 36) (.t 38), none⟩,
      ⟨some 40, .load 1 false (.t 39), none⟩,
      ⟨some 41, .un .not (.t 40), none⟩,
      ⟨some 42, .mv (.t 41), none⟩,
      ⟨some 43, .fadr 1 (.t 7), some (42, false)⟩,
      ⟨some 44, .load 1 false (.t 43), some (42, false)⟩,
      ⟨some 45, .mv (.t 3), some (42, false)⟩,
      ⟨some 46, .call 93 [(.t 44), (.t 45)], some (42, false)⟩,
      ⟨some 47, .bin .lss (.t 46) (.c (.int .i64 0)), some (42, false)⟩,
      ⟨some 48, .pick (.t 42) (.c (.bool true)) (.t 47), none⟩]) <|
    .cond (.t 48) (.exit 3) (.skip)) <|
    .seq (.reg [⟨some 8, .mv (.c (.int .i64 0)), none⟩]) <|
    .block 4 (.loop spec_CfgTrim.l0))) <|
  .reg [⟨some 29, .mv (.t 6), none⟩,
    ⟨some 30, .bin .add (.t 29) (.c (.int .i64 1)), none⟩,
    ⟨some 6, .mv (.t 30), none⟩]
def spec_CfgTrim.l2 : IC :=
  .seq (.seq (.reg [⟨some 23, .mv (.t 5), none⟩]) <|
  .cond (.t 23) (.skip) (.exit 0)) <|
  .block 1 (.seq (.reg [⟨some 5, .mv (.c (.bool false)), none⟩]) <|
    .seq (.reg [⟨some 6, .mv (.c (.int .i64 0)), none⟩]) <|
    .block 2 (.loop spec_CfgTrim.l1))
def spec_CfgTrim.l3 : IC :=
  .seq (.seq (.reg [⟨some 86, .mv (.t 10), none⟩,
    ⟨some 87, .fadr 1 (.t 1), none⟩,
    ⟨some 88, .load 1 false (.t 87), none⟩,
    ⟨some 89, .len (.t 88) false, none⟩,
    ⟨some 90, .bin .lss (.t 86) (.t 89), none⟩]) <|
  .cond (.t 90) (.skip) (.exit 6)) <|
  .seq (.block 7 (.seq (.reg [⟨some 93, .fadr 1 (.t 1), none⟩,
      ⟨some 94, .load 1 false (.t 93), none⟩,
      ⟨some 95, .mv (.t 10), none⟩,
      ⟨some 96, .iadr 2 (.t 94) (.t 95), none⟩,
      ⟨some 97, .load 2 true (.t 96), none⟩,
      ⟨some 11, .alloc 85 [.int .i64 0, .slice none 0 0], none⟩,
      ⟨none, .store 2 (.t 11) (.t 97), none⟩]) <|
    .seq (.reg [⟨some 98, .mv (.t 4), none⟩,
      ⟨some 99, .fadr 0 (.t 11), none⟩,
      ⟨some 100, .load 1 false (.t 99), none⟩,
      ⟨some 101, .iadr 1 (.t 98) (.t 100), none⟩,
      ⟨some 102, .load 1 false (.t 101), none⟩,
      ⟨some 103, .mv (.t 102), none⟩,
      ⟨some 104, .fadr 1 (.t 11), some (103, true)⟩,
      ⟨some 105, .load 1 false (.t 104), some (103, true)⟩,
      ⟨some 106, .mv (.t 3), some (103, true)⟩,
      ⟨some 107, .call 93 [(.t 105), (.t 106)], some (103, true)⟩,
      ⟨some 108, .bin .geq (.t 107) (.c (.int .i64 0)), some (103, true)⟩,
      ⟨some 109, .pick (.t 103) (.t 108) (.c (.bool false)), none⟩]) <|
    .cond (.t 109) (.dreg (.one 0 (.one 2 (.one 5 (.one 6 (.ld 1 (.ld 3 (.one 4 (.one 7 (.one 8 (.one 9 (.one 10 (.one 11 (.one 12 (.done)))))))) (.alt (.one 3 (.one 4 (.one 7 (.one 8 (.one 9 (.one 10 (.one 11 (.one 12 (.done))))))))) (.one 4 (.ld 3 (.one 7 (.one 8 (.one 9 (.one 10 (.one 11 (.one 12 (.done))))))) (.alt (.one 3 (.one 7 (.one 8 (.one 9 (.one 10 (.one 11 (.one 12 (.done)))))))) (.one 7 (.one 3 (.one 8 (.one 9 (.one 10 (.one 11 (.one 12 (.done))))))))))))) (.alt (.one 1 (.ld 3 (.one 4 (.one 7 (.one 8 (.one 9 (.one 10 (.one 11 (.one 12 (.done)))))))) (.alt (.one 3 (.one 4 (.one 7 (.one 8 (.one 9 (.one 10 (.one 11 (.one 12 (.done))))))))) (.one 4 (.ld 3 (.one 7 (.one 8 (.one 9 (.one 10 (.one 11 (.one 12 (.done))))))) (.alt (.one 3 (.one 7 (.one 8 (.one 9 (.one 10 (.one 11 (.one 12 (.done)))))))) (.one 7 (.one 3 (.one 8 (.one 9 (.one 10 (.one 11 (.one 12 (.done)))))))))))))) (.alt (.one 3 (.ld 1 (.one 4 (.one 7 (.one 8 (.one 9 (.one 10 (.one 11 (.one 12 (.done)))))))) (.alt (.one 1 (.one 4 (.one 7 (.one 8 (.one 9 (.one 10 (.one 11 (.one 12 (.done))))))))) (.one 4 (.ld 1 (.one 7 (.one 8 (.one 9 (.one 10 (.one 11 (.one 12 (.done))))))) (.alt (.one 1 (.one 7 (.one 8 (.one 9 (.one 10 (.one 11 (.one 12 (.done)))))))) (.one 7 (.one 1 (.one 8 (.one 9 (.one 10 (.one 11 (.one 12 (.done)))))))))))))) (.one 4 (.ld 1 (.ld 3 (.one 7 (.one 8 (.one 9 (.one 10 (.one 11 (.one 12 (.done))))))) (.alt (.one 3 (.one 7 (.one 8 (.one 9 (.one 10 (.one 11 (.one 12 (.done)))))))) (.one 7 (.one 3 (.one 8 (.one 9 (.one 10 (.one 11 (.one 12 (.done)))))))))) (.alt (.one 1 (.ld 3 (.one 7 (.one 8 (.one 9 (.one 10 (.one 11 (.one 12 (.done))))))) (.alt (.one 3 (.one 7 (.one 8 (.one 9 (.one 10 (.one 11 (.one 12 (.done)))))))) (.one 7 (.one 3 (.one 8 (.one 9 (.one 10 (.one 11 (.one 12 (.done))))))))))) (.alt (.one 3 (.ld 1 (.one 7 (.one 8 (.one 9 (.one 10 (.one 11 (.one 12 (.done))))))) (.alt (.one 1 (.one 7 (.one 8 (.one 9 (.one 10 (.one 11 (.one 12 (.done)))))))) (.one 7 (.one 1 (.one 8 (.one 9 (.one 10 (.one 11 (.one 12 (.done))))))))))) (.one 7 (.one 1 (.one 3 (.one 8 (.one 9 (.one 10 (.one 11 (.one 12 (.done)))))))))))))))))))) [⟨some 110, .fadr 1 (.t 9), none⟩,
        ⟨some 111, .load 1 false (.t 110), none⟩,
        ⟨some 112, .fadr 0 (.t 11), none⟩,
        ⟨some 113, .load 1 false (.t 112), none⟩,
        ⟨some 114, .bslice 94 0 3 [.int .i64 0, .int .i64 0, .int .i64 0] [], none⟩,
        ⟨some 115, .fadr 1 (.t 11), none⟩,
        ⟨some 116, .load 1 false (.t 115), none⟩,
        ⟨some 117, .app 94 3 (.t 114) (.t 116), none⟩,
        ⟨some 118, .build [.int .i64 0, .slice none 0 0] [(0, 1, (.t 113)), (1, 1, (.t 117))], none⟩,
        ⟨some 119, .bslice 85 1 2 [.int .i64 0, .slice none 0 0] [(0, (.t 118))], none⟩,
        ⟨some 120, .app 85 2 (.t 111) (.t 119), none⟩,
        ⟨some 121, .fadr 1 (.t 9), none⟩,
        ⟨none, .store 1 (.t 121) (.t 120), none⟩]) (.skip))) <|
  .reg [⟨some 91, .mv (.t 10), none⟩,
    ⟨some 92, .bin .add (.t 91) (.c (.int .i64 1)), none⟩,
    ⟨some 10, .mv (.t 92), none⟩]
def spec_CfgTrim.g : Fun := ⟨123, [(2, some (2, true))], 
  .seq (.reg [⟨some 1, .box 33 (.t 0), none⟩,
    ⟨some 2, .alloc 33 [.int .i64 0, .slice none 0 0], none⟩]) <|
  .seq (.seq (.reg [⟨some 12, .load 2 true (.t 1), none⟩,
    ⟨some 13, .call 51 [(.t 12)], none⟩,
    ⟨some 14, .un .not (.t 13), none⟩]) <|
  .cond (.t 14) (.seq (.reg [⟨some 15, .build [.int .i64 0, .slice none 0 0] [], none⟩,
      ⟨none, .store 2 (.t 2) (.t 15), none⟩]) <|
    .ret) (.skip)) <|
  .seq (.reg [⟨some 16, .load 2 true (.t 1), none⟩,
    ⟨some 17, .call 92 [(.t 16)], none⟩,
    ⟨some 3, .mv (.t 17), none⟩]) <|
  .seq (.reg [⟨some 18, .fadr 0 (.t 1), none⟩,
    ⟨some 19, .load 1 false (.t 18), none⟩,
    ⟨some 20, .mks 4 1 [.bool false] (.t 19) (.t 19), none⟩,
    ⟨some 4, .mv (.t 20), none⟩]) <|
  .seq (.reg [⟨some 21, .mv (.t 4), none⟩,
    ⟨some 22, .iadr 1 (.t 21) (.c (.int .i64 0)), none⟩,
    ⟨none, .store 1 (.t 22) (.c (.bool true)), none⟩]) <|
  .seq (.reg [⟨some 5, .mv (.c (.bool true)), none⟩]) <|
  .seq (.block 0 (.loop spec_CfgTrim.l2)) <|
  .seq (.reg [⟨some 83, .fadr 0 (.t 1), none⟩,
    ⟨some 84, .load 1 false (.t 83), none⟩,
    ⟨some 85, .build [.int .i64 0, .slice none 0 0] [(0, 1, (.t 84))], none⟩,
    ⟨some 9, .alloc 33 [.int .i64 0, .slice none 0 0], none⟩,
    ⟨none, .store 2 (.t 9) (.t 85), none⟩]) <|
  .seq (.seq (.reg [⟨some 10, .mv (.c (.int .i64 0)), none⟩]) <|
  .block 6 (.loop spec_CfgTrim.l3)) <|
  .seq (.reg [⟨some 122, .load 2 true (.t 9), none⟩,
    ⟨none, .store 2 (.t 2) (.t 122), none⟩]) <|
  .ret⟩
abbrev spec_CfgTrim.id : FuncId := 53
theorem spec_CfgTrim.tr : trFun Try.prog 53 = some spec_CfgTrim.g := by kernel_rfl
end Go.Proofs.Ytabbipdkbdojiaa
