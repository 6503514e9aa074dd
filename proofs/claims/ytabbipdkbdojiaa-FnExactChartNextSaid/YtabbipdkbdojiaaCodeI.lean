/- The code of some functions of the program, as the abstract layer has it, each with the equation that says so. No condition. -/
import Derived.Test.YtabbipdkbdojiaaBase
namespace Go.Proofs.Ytabbipdkbdojiaa
open Go Go.Ab
def laws_eqBoolS.l0 : IC :=
  .seq (.seq (.reg [⟨some 11, .mv (.t 5), none⟩,
    ⟨some 12, .mv (.t 0), none⟩,
    ⟨some 13, .len (.t 12) false, none⟩,
    ⟨some 14, .bin .lss (.t 11) (.t 13), none⟩]) <|
  .cond (.t 14) (.skip) (.exit 0)) <|
  .seq (.block 1 (.seq (.dreg (inOrder 9) [⟨some 17, .mv (.t 0), none⟩,
      ⟨some 18, .mv (.t 5), none⟩,
      ⟨some 19, .iadr 1 (.t 17) (.t 18), none⟩,
      ⟨some 20, .load 1 false (.t 19), none⟩,
      ⟨some 21, .mv (.t 1), none⟩,
      ⟨some 22, .mv (.t 5), none⟩,
      ⟨some 23, .iadr 1 (.t 21) (.t 22), none⟩,
      ⟨some 24, .load 1 false (.t 23), none⟩,
      ⟨some 25, .bbin .neq (.t 20) (.t 24), none⟩]) <|
    .cond (.t 25) (.seq (.reg [⟨some 4, .mv (.c (.bool false)), none⟩]) <|
      .ret) (.skip))) <|
  .reg [⟨some 15, .mv (.t 5), none⟩,
    ⟨some 16, .bin .add (.t 15) (.c (.int .i64 1)), none⟩,
    ⟨some 5, .mv (.t 16), none⟩]
def laws_eqBoolS.g : Fun := ⟨26, [(4, none)], 
  .seq (.reg [⟨some 4, .mv (.c (.bool false)), none⟩]) <|
  .seq (.seq (.reg [⟨some 6, .mv (.t 0), none⟩,
    ⟨some 7, .len (.t 6) false, none⟩,
    ⟨some 8, .mv (.t 1), none⟩,
    ⟨some 9, .len (.t 8) false, none⟩,
    ⟨some 10, .bin .neq (.t 7) (.t 9), none⟩]) <|
  .cond (.t 10) (.seq (.reg [⟨some 4, .mv (.c (.bool false)), none⟩]) <|
    .ret) (.skip)) <|
  .seq (.seq (.reg [⟨some 5, .mv (.c (.int .i64 0)), none⟩]) <|
  .block 0 (.loop laws_eqBoolS.l0)) <|
  .seq (.reg [⟨some 4, .mv (.c (.bool true)), none⟩]) <|
  .ret⟩
abbrev laws_eqBoolS.id : FuncId := 22
theorem laws_eqBoolS.tr : trFun Try.prog 22 = some laws_eqBoolS.g := by kernel_rfl
def laws_markItemS.l0 : IC :=
  .seq (.seq (.reg [⟨some 6, .mv (.t 5), none⟩,
    ⟨some 7, .mv (.t 0), none⟩,
    ⟨some 8, .len (.t 7) false, none⟩,
    ⟨some 9, .bin .lss (.t 6) (.t 8), none⟩]) <|
  .cond (.t 9) (.skip) (.exit 0)) <|
  .seq (.block 1 (.seq (.reg [⟨some 12, .mv (.t 0), none⟩,
      ⟨some 13, .mv (.t 5), none⟩,
      ⟨some 14, .mv (.t 1), none⟩,
      ⟨some 15, .iadr 3 (.t 12) (.t 13), none⟩,
      ⟨some 16, .fadr 0 (.t 15), none⟩,
      ⟨none, .store 1 (.t 16) (.t 14), none⟩]) <|
    .seq (.reg [⟨some 17, .mv (.t 1), none⟩,
      ⟨some 18, .bin .add (.t 17) (.c (.int .i64 1)), none⟩,
      ⟨some 1, .mv (.t 18), none⟩]) <|
    .seq (.reg [⟨some 19, .mv (.t 0), none⟩,
      ⟨some 20, .mv (.t 5), none⟩,
      ⟨some 21, .mv (.t 1), none⟩,
      ⟨some 22, .iadr 3 (.t 19) (.t 20), none⟩,
      ⟨some 23, .fadr 1 (.t 22), none⟩,
      ⟨none, .store 1 (.t 23) (.t 21), none⟩]) <|
    .seq (.reg [⟨some 24, .mv (.t 1), none⟩,
      ⟨some 25, .bin .add (.t 24) (.c (.int .i64 1)), none⟩,
      ⟨some 1, .mv (.t 25), none⟩]) <|
    .seq (.reg [⟨some 26, .mv (.t 0), none⟩,
      ⟨some 27, .mv (.t 5), none⟩,
      ⟨some 28, .mv (.t 1), none⟩,
      ⟨some 29, .iadr 3 (.t 26) (.t 27), none⟩,
      ⟨some 30, .fadr 2 (.t 29), none⟩,
      ⟨none, .store 1 (.t 30) (.t 28), none⟩]) <|
    .reg [⟨some 31, .mv (.t 1), none⟩,
      ⟨some 32, .bin .add (.t 31) (.c (.int .i64 1)), none⟩,
      ⟨some 1, .mv (.t 32), none⟩])) <|
  .reg [⟨some 10, .mv (.t 5), none⟩,
    ⟨some 11, .bin .add (.t 10) (.c (.int .i64 1)), none⟩,
    ⟨some 5, .mv (.t 11), none⟩]
def laws_markItemS.g : Fun := ⟨34, [(4, none)], 
  .seq (.reg [⟨some 4, .mv (.c (.int .i64 0)), none⟩]) <|
  .seq (.seq (.reg [⟨some 5, .mv (.c (.int .i64 0)), none⟩]) <|
  .block 0 (.loop laws_markItemS.l0)) <|
  .seq (.reg [⟨some 33, .mv (.t 1), none⟩,
    ⟨some 4, .mv (.t 33), none⟩]) <|
  .ret⟩
abbrev laws_markItemS.id : FuncId := 104
theorem laws_markItemS.tr : trFun Try.prog 104 = some laws_markItemS.g := by kernel_rfl
def laws_markItemSS.l0 : IC :=
  .seq (.seq (.reg [⟨some 6, .mv (.t 5), none⟩,
    ⟨some 7, .mv (.t 0), none⟩,
    ⟨some 8, .len (.t 7) false, none⟩,
    ⟨some 9, .bin .lss (.t 6) (.t 8), none⟩]) <|
  .cond (.t 9) (.skip) (.exit 0)) <|
  .seq (.block 1 (.reg [⟨some 12, .mv (.t 0), none⟩,
      ⟨some 13, .mv (.t 5), none⟩,
      ⟨some 14, .iadr 1 (.t 12) (.t 13), none⟩,
      ⟨some 15, .load 1 false (.t 14), none⟩,
      ⟨some 16, .mv (.t 1), none⟩,
      ⟨some 17, .call 104 [(.t 15), (.t 16)], none⟩,
      ⟨some 1, .mv (.t 17), none⟩])) <|
  .reg [⟨some 10, .mv (.t 5), none⟩,
    ⟨some 11, .bin .add (.t 10) (.c (.int .i64 1)), none⟩,
    ⟨some 5, .mv (.t 11), none⟩]
def laws_markItemSS.g : Fun := ⟨19, [(4, none)], 
  .seq (.reg [⟨some 4, .mv (.c (.int .i64 0)), none⟩]) <|
  .seq (.seq (.reg [⟨some 5, .mv (.c (.int .i64 0)), none⟩]) <|
  .block 0 (.loop laws_markItemSS.l0)) <|
  .seq (.reg [⟨some 18, .mv (.t 1), none⟩,
    ⟨some 4, .mv (.t 18), none⟩]) <|
  .ret⟩
abbrev laws_markItemSS.id : FuncId := 65
theorem laws_markItemSS.tr : trFun Try.prog 65 = some laws_markItemSS.g := by kernel_rfl
def laws_heldItemS.l0 : IC :=
  .seq (.seq (.reg [⟨some 6, .mv (.t 5), none⟩,
    ⟨some 7, .mv (.t 0), none⟩,
    ⟨some 8, .len (.t 7) false, none⟩,
    ⟨some 9, .bin .lss (.t 6) (.t 8), none⟩]) <|
  .cond (.t 9) (.skip) (.exit 0)) <|
  .seq (.block 1 (.seq (.seq (.reg [⟨some 12, .mv (.t 0), none⟩,
      ⟨some 13, .mv (.t 5), none⟩,
      ⟨some 14, .iadr 3 (.t 12) (.t 13), none⟩,
      ⟨some 15, .fadr 0 (.t 14), none⟩,
      ⟨some 16, .load 1 false (.t 15), none⟩,
      ⟨some 17, .mv (.t 1), none⟩,
      ⟨some 18, .bin .neq (.t 16) (.t 17), none⟩]) <|
    .cond (.t 18) (.seq (.reg [⟨some 4, .mv (.c (.int .i64 (-1))), none⟩]) <|
      .ret) (.skip)) <|
    .seq (.reg [⟨some 19, .mv (.t 1), none⟩,
      ⟨some 20, .bin .add (.t 19) (.c (.int .i64 1)), none⟩,
      ⟨some 1, .mv (.t 20), none⟩]) <|
    .seq (.seq (.reg [⟨some 21, .mv (.t 0), none⟩,
      ⟨some 22, .mv (.t 5), none⟩,
      ⟨some 23, .iadr 3 (.t 21) (.t 22), none⟩,
      ⟨some 24, .fadr 1 (.t 23), none⟩,
      ⟨some 25, .load 1 false (.t 24), none⟩,
      ⟨some 26, .mv (.t 1), none⟩,
      ⟨some 27, .bin .neq (.t 25) (.t 26), none⟩]) <|
    .cond (.t 27) (.seq (.reg [⟨some 4, .mv (.c (.int .i64 (-1))), none⟩]) <|
      .ret) (.skip)) <|
    .seq (.reg [⟨some 28, .mv (.t 1), none⟩,
      ⟨some 29, .bin .add (.t 28) (.c (.int .i64 1)), none⟩,
      ⟨some 1, .mv (.t 29), none⟩]) <|
    .seq (.seq (.reg [⟨some 30, .mv (.t 0), none⟩,
      ⟨some 31, .mv (.t 5), none⟩,
      ⟨some 32, .iadr 3 (.t 30) (.t 31), none⟩,
      ⟨some 33, .fadr 2 (.t 32), none⟩,
      ⟨some 34, .load 1 false (.t 33), none⟩,
      ⟨some 35, .mv (.t 1), none⟩,
      ⟨some 36, .bin .neq (.t 34) (.t 35), none⟩]) <|
    .cond (.t 36) (.seq (.reg [⟨some 4, .mv (.c (.int .i64 (-1))), none⟩]) <|
      .ret) (.skip)) <|
    .reg [⟨some 37, .mv (.t 1), none⟩,
      ⟨some 38, .bin .add (.t 37) (.c (.int .i64 1)), none⟩,
      ⟨some 1, .mv (.t 38), none⟩])) <|
  .reg [⟨some 10, .mv (.t 5), none⟩,
    ⟨some 11, .bin .add (.t 10) (.c (.int .i64 1)), none⟩,
    ⟨some 5, .mv (.t 11), none⟩]
def laws_heldItemS.g : Fun := ⟨40, [(4, none)], 
  .seq (.reg [⟨some 4, .mv (.c (.int .i64 0)), none⟩]) <|
  .seq (.seq (.reg [⟨some 5, .mv (.c (.int .i64 0)), none⟩]) <|
  .block 0 (.loop laws_heldItemS.l0)) <|
  .seq (.reg [⟨some 39, .mv (.t 1), none⟩,
    ⟨some 4, .mv (.t 39), none⟩]) <|
  .ret⟩
abbrev laws_heldItemS.id : FuncId := 110
theorem laws_heldItemS.tr : trFun Try.prog 110 = some laws_heldItemS.g := by kernel_rfl
def laws_heldItemSS.l0 : IC :=
  .seq (.seq (.reg [⟨some 6, .mv (.t 5), none⟩,
    ⟨some 7, .mv (.t 0), none⟩,
    ⟨some 8, .len (.t 7) false, none⟩,
    ⟨some 9, .bin .lss (.t 6) (.t 8), none⟩]) <|
  .cond (.t 9) (.skip) (.exit 0)) <|
  .seq (.block 1 (.seq (.reg [⟨some 12, .mv (.t 0), none⟩,
      ⟨some 13, .mv (.t 5), none⟩,
      ⟨some 14, .iadr 1 (.t 12) (.t 13), none⟩,
      ⟨some 15, .load 1 false (.t 14), none⟩,
      ⟨some 16, .mv (.t 1), none⟩,
      ⟨some 17, .call 110 [(.t 15), (.t 16)], none⟩,
      ⟨some 1, .mv (.t 17), none⟩]) <|
    .seq (.reg [⟨some 18, .mv (.t 1), none⟩,
      ⟨some 19, .bin .lss (.t 18) (.c (.int .i64 0)), none⟩]) <|
    .cond (.t 19) (.seq (.reg [⟨some 4, .mv (.c (.int .i64 (-1))), none⟩]) <|
      .ret) (.skip))) <|
  .reg [⟨some 10, .mv (.t 5), none⟩,
    ⟨some 11, .bin .add (.t 10) (.c (.int .i64 1)), none⟩,
    ⟨some 5, .mv (.t 11), none⟩]
def laws_heldItemSS.g : Fun := ⟨21, [(4, none)], 
  .seq (.reg [⟨some 4, .mv (.c (.int .i64 0)), none⟩]) <|
  .seq (.seq (.reg [⟨some 5, .mv (.c (.int .i64 0)), none⟩]) <|
  .block 0 (.loop laws_heldItemSS.l0)) <|
  .seq (.reg [⟨some 20, .mv (.t 1), none⟩,
    ⟨some 4, .mv (.t 20), none⟩]) <|
  .ret⟩
abbrev laws_heldItemSS.id : FuncId := 68
theorem laws_heldItemSS.tr : trFun Try.prog 68 = some laws_heldItemSS.g := by kernel_rfl
def laws_heldChart.g : Fun := ⟨12, [(4, none)], 
  .seq (.reg [⟨some 2, .box 37 (.t 0), none⟩,
    ⟨some 4, .mv (.c (.int .i64 0)), none⟩]) <|
  .seq (.reg [⟨some 5, .fadr 0 (.t 2), none⟩,
    ⟨some 6, .load 1 false (.t 5), none⟩,
    ⟨some 7, .mv (.t 1), none⟩,
    ⟨some 8, .call 68 [(.t 6), (.t 7)], none⟩,
    ⟨some 1, .mv (.t 8), none⟩]) <|
  .seq (.seq (.reg [⟨some 9, .mv (.t 1), none⟩,
    ⟨some 10, .bin .lss (.t 9) (.c (.int .i64 0)), none⟩]) <|
  .cond (.t 10) (.seq (.reg [⟨some 4, .mv (.c (.int .i64 (-1))), none⟩]) <|
    .ret) (.skip)) <|
  .seq (.reg [⟨some 11, .mv (.t 1), none⟩,
    ⟨some 4, .mv (.t 11), none⟩]) <|
  .ret⟩
abbrev laws_heldChart.id : FuncId := 29
theorem laws_heldChart.tr : trFun Try.prog 29 = some laws_heldChart.g := by kernel_rfl
def laws_markBoolS.l0 : IC :=
  .seq (.seq (.reg [⟨some 6, .mv (.t 5), none⟩,
    ⟨some 7, .mv (.t 0), none⟩,
    ⟨some 8, .len (.t 7) false, none⟩,
    ⟨some 9, .bin .lss (.t 6) (.t 8), none⟩]) <|
  .cond (.t 9) (.skip) (.exit 0)) <|
  .seq (.block 1 (.seq (.reg [⟨some 12, .mv (.t 0), none⟩,
      ⟨some 13, .mv (.t 5), none⟩,
      ⟨some 14, .mv (.t 1), none⟩,
      ⟨some 15, .bin .rem (.t 14) (.c (.int .i64 3)), none⟩,
      ⟨some 16, .bin .eql (.t 15) (.c (.int .i64 0)), none⟩,
      ⟨some 17, .iadr 1 (.t 12) (.t 13), none⟩,
      ⟨none, .store 1 (.t 17) (.t 16), none⟩]) <|
    .reg [⟨some 18, .mv (.t 1), none⟩,
      ⟨some 19, .bin .add (.t 18) (.c (.int .i64 1)), none⟩,
      ⟨some 1, .mv (.t 19), none⟩])) <|
  .reg [⟨some 10, .mv (.t 5), none⟩,
    ⟨some 11, .bin .add (.t 10) (.c (.int .i64 1)), none⟩,
    ⟨some 5, .mv (.t 11), none⟩]
def laws_markBoolS.g : Fun := ⟨21, [(4, none)], 
  .seq (.reg [⟨some 4, .mv (.c (.int .i64 0)), none⟩]) <|
  .seq (.seq (.reg [⟨some 5, .mv (.c (.int .i64 0)), none⟩]) <|
  .block 0 (.loop laws_markBoolS.l0)) <|
  .seq (.reg [⟨some 20, .mv (.t 1), none⟩,
    ⟨some 4, .mv (.t 20), none⟩]) <|
  .ret⟩
abbrev laws_markBoolS.id : FuncId := 25
theorem laws_markBoolS.tr : trFun Try.prog 25 = some laws_markBoolS.g := by kernel_rfl
def laws_heldBoolS.l0 : IC :=
  .seq (.seq (.reg [⟨some 6, .mv (.t 5), none⟩,
    ⟨some 7, .mv (.t 0), none⟩,
    ⟨some 8, .len (.t 7) false, none⟩,
    ⟨some 9, .bin .lss (.t 6) (.t 8), none⟩]) <|
  .cond (.t 9) (.skip) (.exit 0)) <|
  .seq (.block 1 (.seq (.seq (.reg [⟨some 12, .mv (.t 0), none⟩,
      ⟨some 13, .mv (.t 5), none⟩,
      ⟨some 14, .iadr 1 (.t 12) (.t 13), none⟩,
      ⟨some 15, .load 1 false (.t 14), none⟩,
      ⟨some 16, .mv (.t 1), none⟩,
      ⟨some 17, .bin .rem (.t 16) (.c (.int .i64 3)), none⟩,
      ⟨some 18, .bin .eql (.t 17) (.c (.int .i64 0)), none⟩,
      ⟨some 19, .bbin .neq (.t 15) (.t 18), none⟩]) <|
    .cond (.t 19) (.seq (.reg [⟨some 4, .mv (.c (.int .i64 (-1))), none⟩]) <|
      .ret) (.skip)) <|
    .reg [⟨some 20, .mv (.t 1), none⟩,
      ⟨some 21, .bin .add (.t 20) (.c (.int .i64 1)), none⟩,
      ⟨some 1, .mv (.t 21), none⟩])) <|
  .reg [⟨some 10, .mv (.t 5), none⟩,
    ⟨some 11, .bin .add (.t 10) (.c (.int .i64 1)), none⟩,
    ⟨some 5, .mv (.t 11), none⟩]
def laws_heldBoolS.g : Fun := ⟨23, [(4, none)], 
  .seq (.reg [⟨some 4, .mv (.c (.int .i64 0)), none⟩]) <|
  .seq (.seq (.reg [⟨some 5, .mv (.c (.int .i64 0)), none⟩]) <|
  .block 0 (.loop laws_heldBoolS.l0)) <|
  .seq (.reg [⟨some 22, .mv (.t 1), none⟩,
    ⟨some 4, .mv (.t 22), none⟩]) <|
  .ret⟩
abbrev laws_heldBoolS.id : FuncId := 26
theorem laws_heldBoolS.tr : trFun Try.prog 26 = some laws_heldBoolS.g := by kernel_rfl
end Go.Proofs.Ytabbipdkbdojiaa
