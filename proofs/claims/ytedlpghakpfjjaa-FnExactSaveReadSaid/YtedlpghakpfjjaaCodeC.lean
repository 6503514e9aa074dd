/- The code of some functions of the program, as the abstract layer has it, each with the equation that says so. No condition. -/
import Derived.Test.YtedlpghakpfjjaaBase
namespace Go.Proofs.Ytedlpghakpfjjaa
open Go Go.Ab
def laws_markSymS.l0 : IC :=
  .seq (.seq (.reg [⟨some 6, .mv (.t 5), none⟩,
    ⟨some 7, .mv (.t 0), none⟩,
    ⟨some 8, .len (.t 7) false, none⟩,
    ⟨some 9, .bin .lss (.t 6) (.t 8), none⟩]) <|
  .cond (.t 9) (.skip) (.exit 0)) <|
  .seq (.block 1 (.seq (.reg [⟨some 12, .mv (.t 0), none⟩,
      ⟨some 13, .mv (.t 5), none⟩,
      ⟨some 14, .mv (.t 1), none⟩,
      ⟨some 15, .iadr 3 (.t 12) (.t 13), none⟩,
      ⟨some 16, .fadr 0 (.t 15), none⟩,
      ⟨none, .store 1 (.t 16) (.t 14), none⟩]) <|
    .seq (.reg [⟨some 17, .mv (.t 1), none⟩,
      ⟨some 18, .bin .add (.t 17) (.c (.int .i64 1)), none⟩,
      ⟨some 1, .mv (.t 18), none⟩]) <|
    .seq (.reg [⟨some 19, .mv (.t 0), none⟩,
      ⟨some 20, .mv (.t 5), none⟩,
      ⟨some 21, .mv (.t 1), none⟩,
      ⟨some 22, .iadr 3 (.t 19) (.t 20), none⟩,
      ⟨some 23, .fadr 1 (.t 22), none⟩,
      ⟨none, .store 1 (.t 23) (.t 21), none⟩]) <|
    .seq (.reg [⟨some 24, .mv (.t 1), none⟩,
      ⟨some 25, .bin .add (.t 24) (.c (.int .i64 1)), none⟩,
      ⟨some 1, .mv (.t 25), none⟩]) <|
    .seq (.reg [⟨some 26, .mv (.t 0), none⟩,
      ⟨some 27, .mv (.t 5), none⟩,
      ⟨some 28, .mv (.t 1), none⟩,
      ⟨some 29, .iadr 3 (.t 26) (.t 27), none⟩,
      ⟨some 30, .fadr 2 (.t 29), none⟩,
      ⟨none, .store 1 (.t 30) (.t 28), none⟩]) <|
    .reg [⟨some 31, .mv (.t 1), none⟩,
      ⟨some 32, .bin .add (.t 31) (.c (.int .i64 1)), none⟩,
      ⟨some 1, .mv (.t 32), none⟩])) <|
  .reg [⟨some 10, .mv (.t 5), none⟩,
    ⟨some 11, .bin .add (.t 10) (.c (.int .i64 1)), none⟩,
    ⟨some 5, .mv (.t 11), none⟩]
def laws_markSymS.g : Fun := ⟨34, [(4, none)], 
  .seq (.reg [⟨some 4, .mv (.c (.int .i64 0)), none⟩]) <|
  .seq (.seq (.reg [⟨some 5, .mv (.c (.int .i64 0)), none⟩]) <|
  .block 0 (.loop laws_markSymS.l0)) <|
  .seq (.reg [⟨some 33, .mv (.t 1), none⟩,
    ⟨some 4, .mv (.t 33), none⟩]) <|
  .ret⟩
abbrev laws_markSymS.id : FuncId := 53
theorem laws_markSymS.tr : trFun Try.prog 53 = some laws_markSymS.g := by kernel_rfl
def laws_heldSymS.l0 : IC :=
  .seq (.seq (.reg [⟨some 6, .mv (.t 5), none⟩,
    ⟨some 7, .mv (.t 0), none⟩,
    ⟨some 8, .len (.t 7) false, none⟩,
    ⟨some 9, .bin .lss (.t 6) (.t 8), none⟩]) <|
  .cond (.t 9) (.skip) (.exit 0)) <|
  .seq (.block 1 (.seq (.seq (.reg [⟨some 12, .mv (.t 0), none⟩,
      ⟨some 13, .mv (.t 5), none⟩,
      ⟨some 14, .iadr 3 (.t 12) (.t 13), none⟩,
      ⟨some 15, .fadr 0 (.t 14), none⟩,
      ⟨some 16, .load 1 false (.t 15), none⟩,
      ⟨some 17, .mv (.t 1), none⟩,
      ⟨some 18, .bin .neq (.t 16) (.t 17), none⟩]) <|
    .cond (.t 18) (.seq (.reg [⟨some 4, .mv (.c (.int .i64 (-1))), none⟩]) <|
      .ret) (.skip)) <|
    .seq (.reg [⟨some 19, .mv (.t 1), none⟩,
      ⟨some 20, .bin .add (.t 19) (.c (.int .i64 1)), none⟩,
      ⟨some 1, .mv (.t 20), none⟩]) <|
    .seq (.seq (.reg [⟨some 21, .mv (.t 0), none⟩,
      ⟨some 22, .mv (.t 5), none⟩,
      ⟨some 23, .iadr 3 (.t 21) (.t 22), none⟩,
      ⟨some 24, .fadr 1 (.t 23), none⟩,
      ⟨some 25, .load 1 false (.t 24), none⟩,
      ⟨some 26, .mv (.t 1), none⟩,
      ⟨some 27, .bin .neq (.t 25) (.t 26), none⟩]) <|
    .cond (.t 27) (.seq (.reg [⟨some 4, .mv (.c (.int .i64 (-1))), none⟩]) <|
      .ret) (.skip)) <|
    .seq (.reg [⟨some 28, .mv (.t 1), none⟩,
      ⟨some 29, .bin .add (.t 28) (.c (.int .i64 1)), none⟩,
      ⟨some 1, .mv (.t 29), none⟩]) <|
    .seq (.seq (.reg [⟨some 30, .mv (.t 0), none⟩,
      ⟨some 31, .mv (.t 5), none⟩,
      ⟨some 32, .iadr 3 (.t 30) (.t 31), none⟩,
      ⟨some 33, .fadr 2 (.t 32), none⟩,
      ⟨some 34, .load 1 false (.t 33), none⟩,
      ⟨some 35, .mv (.t 1), none⟩,
      ⟨some 36, .bin .neq (.t 34) (.t 35), none⟩]) <|
    .cond (.t 36) (.seq (.reg [⟨some 4, .mv (.c (.int .i64 (-1))), none⟩]) <|
      .ret) (.skip)) <|
    .reg [⟨some 37, .mv (.t 1), none⟩,
      ⟨some 38, .bin .add (.t 37) (.c (.int .i64 1)), none⟩,
      ⟨some 1, .mv (.t 38), none⟩])) <|
  .reg [⟨some 10, .mv (.t 5), none⟩,
    ⟨some 11, .bin .add (.t 10) (.c (.int .i64 1)), none⟩,
    ⟨some 5, .mv (.t 11), none⟩]
def laws_heldSymS.g : Fun := ⟨40, [(4, none)], 
  .seq (.reg [⟨some 4, .mv (.c (.int .i64 0)), none⟩]) <|
  .seq (.seq (.reg [⟨some 5, .mv (.c (.int .i64 0)), none⟩]) <|
  .block 0 (.loop laws_heldSymS.l0)) <|
  .seq (.reg [⟨some 39, .mv (.t 1), none⟩,
    ⟨some 4, .mv (.t 39), none⟩]) <|
  .ret⟩
abbrev laws_heldSymS.id : FuncId := 54
theorem laws_heldSymS.tr : trFun Try.prog 54 = some laws_heldSymS.g := by kernel_rfl
def laws_markProdS.l0 : IC :=
  .seq (.seq (.reg [⟨some 6, .mv (.t 5), none⟩,
    ⟨some 7, .mv (.t 0), none⟩,
    ⟨some 8, .len (.t 7) false, none⟩,
    ⟨some 9, .bin .lss (.t 6) (.t 8), none⟩]) <|
  .cond (.t 9) (.skip) (.exit 0)) <|
  .seq (.block 1 (.seq (.reg [⟨some 12, .mv (.t 0), none⟩,
      ⟨some 13, .mv (.t 5), none⟩,
      ⟨some 14, .mv (.t 1), none⟩,
      ⟨some 15, .iadr 2 (.t 12) (.t 13), none⟩,
      ⟨some 16, .fadr 0 (.t 15), none⟩,
      ⟨none, .store 1 (.t 16) (.t 14), none⟩]) <|
    .seq (.reg [⟨some 17, .mv (.t 1), none⟩,
      ⟨some 18, .bin .add (.t 17) (.c (.int .i64 1)), none⟩,
      ⟨some 1, .mv (.t 18), none⟩]) <|
    .reg [⟨some 19, .mv (.t 0), none⟩,
      ⟨some 20, .mv (.t 5), none⟩,
      ⟨some 21, .iadr 2 (.t 19) (.t 20), none⟩,
      ⟨some 22, .fadr 1 (.t 21), none⟩,
      ⟨some 23, .load 1 false (.t 22), none⟩,
      ⟨some 24, .mv (.t 1), none⟩,
      ⟨some 25, .call 53 [(.t 23), (.t 24)], none⟩,
      ⟨some 1, .mv (.t 25), none⟩])) <|
  .reg [⟨some 10, .mv (.t 5), none⟩,
    ⟨some 11, .bin .add (.t 10) (.c (.int .i64 1)), none⟩,
    ⟨some 5, .mv (.t 11), none⟩]
def laws_markProdS.g : Fun := ⟨27, [(4, none)], 
  .seq (.reg [⟨some 4, .mv (.c (.int .i64 0)), none⟩]) <|
  .seq (.seq (.reg [⟨some 5, .mv (.c (.int .i64 0)), none⟩]) <|
  .block 0 (.loop laws_markProdS.l0)) <|
  .seq (.reg [⟨some 26, .mv (.t 1), none⟩,
    ⟨some 4, .mv (.t 26), none⟩]) <|
  .ret⟩
abbrev laws_markProdS.id : FuncId := 40
theorem laws_markProdS.tr : trFun Try.prog 40 = some laws_markProdS.g := by kernel_rfl
def laws_heldProdS.l0 : IC :=
  .seq (.seq (.reg [⟨some 6, .mv (.t 5), none⟩,
    ⟨some 7, .mv (.t 0), none⟩,
    ⟨some 8, .len (.t 7) false, none⟩,
    ⟨some 9, .bin .lss (.t 6) (.t 8), none⟩]) <|
  .cond (.t 9) (.skip) (.exit 0)) <|
  .seq (.block 1 (.seq (.seq (.reg [⟨some 12, .mv (.t 0), none⟩,
      ⟨some 13, .mv (.t 5), none⟩,
      ⟨some 14, .iadr 2 (.t 12) (.t 13), none⟩,
      ⟨some 15, .fadr 0 (.t 14), none⟩,
      ⟨some 16, .load 1 false (.t 15), none⟩,
      ⟨some 17, .mv (.t 1), none⟩,
      ⟨some 18, .bin .neq (.t 16) (.t 17), none⟩]) <|
    .cond (.t 18) (.seq (.reg [⟨some 4, .mv (.c (.int .i64 (-1))), none⟩]) <|
      .ret) (.skip)) <|
    .seq (.reg [⟨some 19, .mv (.t 1), none⟩,
      ⟨some 20, .bin .add (.t 19) (.c (.int .i64 1)), none⟩,
      ⟨some 1, .mv (.t 20), none⟩]) <|
    .seq (.reg [⟨some 21, .mv (.t 0), none⟩,
      ⟨some 22, .mv (.t 5), none⟩,
      ⟨some 23, .iadr 2 (.t 21) (.t 22), none⟩,
      ⟨some 24, .fadr 1 (.t 23), none⟩,
      ⟨some 25, .load 1 false (.t 24), none⟩,
      ⟨some 26, .mv (.t 1), none⟩,
      ⟨some 27, .call 54 [(.t 25), (.t 26)], none⟩,
      ⟨some 1, .mv (.t 27), none⟩]) <|
    .seq (.reg [⟨some 28, .mv (.t 1), none⟩,
      ⟨some 29, .bin .lss (.t 28) (.c (.int .i64 0)), none⟩]) <|
    .cond (.t 29) (.seq (.reg [⟨some 4, .mv (.c (.int .i64 (-1))), none⟩]) <|
      .ret) (.skip))) <|
  .reg [⟨some 10, .mv (.t 5), none⟩,
    ⟨some 11, .bin .add (.t 10) (.c (.int .i64 1)), none⟩,
    ⟨some 5, .mv (.t 11), none⟩]
def laws_heldProdS.g : Fun := ⟨31, [(4, none)], 
  .seq (.reg [⟨some 4, .mv (.c (.int .i64 0)), none⟩]) <|
  .seq (.seq (.reg [⟨some 5, .mv (.c (.int .i64 0)), none⟩]) <|
  .block 0 (.loop laws_heldProdS.l0)) <|
  .seq (.reg [⟨some 30, .mv (.t 1), none⟩,
    ⟨some 4, .mv (.t 30), none⟩]) <|
  .ret⟩
abbrev laws_heldProdS.id : FuncId := 45
theorem laws_heldProdS.tr : trFun Try.prog 45 = some laws_heldProdS.g := by kernel_rfl
def laws_markCfg.g : Fun := ⟨10, [(4, none)], 
  .seq (.reg [⟨some 2, .box 34 (.t 0), none⟩,
    ⟨some 4, .mv (.c (.int .i64 0)), none⟩]) <|
  .seq (.reg [⟨some 5, .fadr 1 (.t 2), none⟩,
    ⟨some 6, .load 1 false (.t 5), none⟩,
    ⟨some 7, .mv (.t 1), none⟩,
    ⟨some 8, .call 40 [(.t 6), (.t 7)], none⟩,
    ⟨some 1, .mv (.t 8), none⟩]) <|
  .seq (.reg [⟨some 9, .mv (.t 1), none⟩,
    ⟨some 4, .mv (.t 9), none⟩]) <|
  .ret⟩
abbrev laws_markCfg.id : FuncId := 22
theorem laws_markCfg.tr : trFun Try.prog 22 = some laws_markCfg.g := by kernel_rfl
def laws_heldCfg.g : Fun := ⟨12, [(4, none)], 
  .seq (.reg [⟨some 2, .box 34 (.t 0), none⟩,
    ⟨some 4, .mv (.c (.int .i64 0)), none⟩]) <|
  .seq (.reg [⟨some 5, .fadr 1 (.t 2), none⟩,
    ⟨some 6, .load 1 false (.t 5), none⟩,
    ⟨some 7, .mv (.t 1), none⟩,
    ⟨some 8, .call 45 [(.t 6), (.t 7)], none⟩,
    ⟨some 1, .mv (.t 8), none⟩]) <|
  .seq (.seq (.reg [⟨some 9, .mv (.t 1), none⟩,
    ⟨some 10, .bin .lss (.t 9) (.c (.int .i64 0)), none⟩]) <|
  .cond (.t 10) (.seq (.reg [⟨some 4, .mv (.c (.int .i64 (-1))), none⟩]) <|
    .ret) (.skip)) <|
  .seq (.reg [⟨some 11, .mv (.t 1), none⟩,
    ⟨some 4, .mv (.t 11), none⟩]) <|
  .ret⟩
abbrev laws_heldCfg.id : FuncId := 27
theorem laws_heldCfg.tr : trFun Try.prog 27 = some laws_heldCfg.g := by kernel_rfl
def laws_markByteS.l0 : IC :=
  .seq (.seq (.reg [⟨some 6, .mv (.t 5), none⟩,
    ⟨some 7, .mv (.t 0), none⟩,
    ⟨some 8, .len (.t 7) false, none⟩,
    ⟨some 9, .bin .lss (.t 6) (.t 8), none⟩]) <|
  .cond (.t 9) (.skip) (.exit 0)) <|
  .seq (.block 1 (.seq (.reg [⟨some 12, .mv (.t 0), none⟩,
      ⟨some 13, .mv (.t 5), none⟩,
      ⟨some 14, .mv (.t 1), none⟩,
      ⟨some 15, .cvt .u8 (.t 14), none⟩,
      ⟨some 16, .iadr 1 (.t 12) (.t 13), none⟩,
      ⟨none, .store 1 (.t 16) (.t 15), none⟩]) <|
    .reg [⟨some 17, .mv (.t 1), none⟩,
      ⟨some 18, .bin .add (.t 17) (.c (.int .i64 1)), none⟩,
      ⟨some 1, .mv (.t 18), none⟩])) <|
  .reg [⟨some 10, .mv (.t 5), none⟩,
    ⟨some 11, .bin .add (.t 10) (.c (.int .i64 1)), none⟩,
    ⟨some 5, .mv (.t 11), none⟩]
def laws_markByteS.g : Fun := ⟨20, [(4, none)], 
  .seq (.reg [⟨some 4, .mv (.c (.int .i64 0)), none⟩]) <|
  .seq (.seq (.reg [⟨some 5, .mv (.c (.int .i64 0)), none⟩]) <|
  .block 0 (.loop laws_markByteS.l0)) <|
  .seq (.reg [⟨some 19, .mv (.t 1), none⟩,
    ⟨some 4, .mv (.t 19), none⟩]) <|
  .ret⟩
abbrev laws_markByteS.id : FuncId := 23
theorem laws_markByteS.tr : trFun Try.prog 23 = some laws_markByteS.g := by kernel_rfl
def laws_heldByteS.l0 : IC :=
  .seq (.seq (.reg [⟨some 6, .mv (.t 5), none⟩,
    ⟨some 7, .mv (.t 0), none⟩,
    ⟨some 8, .len (.t 7) false, none⟩,
    ⟨some 9, .bin .lss (.t 6) (.t 8), none⟩]) <|
  .cond (.t 9) (.skip) (.exit 0)) <|
  .seq (.block 1 (.seq (.seq (.reg [⟨some 12, .mv (.t 0), none⟩,
      ⟨some 13, .mv (.t 5), none⟩,
      ⟨some 14, .iadr 1 (.t 12) (.t 13), none⟩,
      ⟨some 15, .load 1 false (.t 14), none⟩,
      ⟨some 16, .mv (.t 1), none⟩,
      ⟨some 17, .cvt .u8 (.t 16), none⟩,
      ⟨some 18, .bin .neq (.t 15) (.t 17), none⟩]) <|
    .cond (.t 18) (.seq (.reg [⟨some 4, .mv (.c (.int .i64 (-1))), none⟩]) <|
      .ret) (.skip)) <|
    .reg [⟨some 19, .mv (.t 1), none⟩,
      ⟨some 20, .bin .add (.t 19) (.c (.int .i64 1)), none⟩,
      ⟨some 1, .mv (.t 20), none⟩])) <|
  .reg [⟨some 10, .mv (.t 5), none⟩,
    ⟨some 11, .bin .add (.t 10) (.c (.int .i64 1)), none⟩,
    ⟨some 5, .mv (.t 11), none⟩]
def laws_heldByteS.g : Fun := ⟨22, [(4, none)], 
  .seq (.reg [⟨some 4, .mv (.c (.int .i64 0)), none⟩]) <|
  .seq (.seq (.reg [⟨some 5, .mv (.c (.int .i64 0)), none⟩]) <|
  .block 0 (.loop laws_heldByteS.l0)) <|
  .seq (.reg [⟨some 21, .mv (.t 1), none⟩,
    ⟨some 4, .mv (.t 21), none⟩]) <|
  .ret⟩
abbrev laws_heldByteS.id : FuncId := 24
theorem laws_heldByteS.tr : trFun Try.prog 24 = some laws_heldByteS.g := by kernel_rfl
end Go.Proofs.Ytedlpghakpfjjaa
