/- The code of some functions of the program, as the abstract layer has it, each with the equation that says so. No condition. -/
import Derived.Test.YtabbipdkbdojiaaBase
namespace Go.Proofs.Ytabbipdkbdojiaa
open Go Go.Ab
def laws_markSymS.l0 : IC :=
  .seq (.seq (.reg [⟨some 6, .mv (.t 5), none⟩,
    ⟨some 7, .mv (.t 0), none⟩,
    ⟨some 8, .len (.t 7) false, none⟩,
    ⟨some 9, .bin .lss (.t 6) (.t 8), none⟩]) <|
  .cond (.t 9) (.skip) (.exit 0)) <|
  .seq (.block 1 (.seq (.reg [⟨some 12, .mv (.t 0), none⟩,
      ⟨some 13, .mv (.t 5), none⟩,
      ⟨some 14, .mv (.t 1), none⟩,
      ⟨some 15, .iadr 3 (.t 12) (.t 13), none⟩,
      ⟨some 16, .fadr 0 (.t 15), none⟩,
      ⟨none, .store 1 (.t 16) (.t 14), none⟩]) <|
    .seq (.reg [⟨some 17, .mv (.t 1), none⟩,
      ⟨some 18, .bin .add (.t 17) (.c (.int .i64 1)), none⟩,
      ⟨some 1, .mv (.t 18), none⟩]) <|
    .seq (.reg [⟨some 19, .mv (.t 0), none⟩,
      ⟨some 20, .mv (.t 5), none⟩,
      ⟨some 21, .mv (.t 1), none⟩,
      ⟨some 22, .iadr 3 (.t 19) (.t 20), none⟩,
      ⟨some 23, .fadr 1 (.t 22), none⟩,
      ⟨none, .store 1 (.t 23) (.t 21), none⟩]) <|
    .seq (.reg [⟨some 24, .mv (.t 1), none⟩,
      ⟨some 25, .bin .add (.t 24) (.c (.int .i64 1)), none⟩,
      ⟨some 1, .mv (.t 25), none⟩]) <|
    .seq (.reg [⟨some 26, .mv (.t 0), none⟩,
      ⟨some 27, .mv (.t 5), none⟩,
      ⟨some 28, .mv (.t 1), none⟩,
      ⟨some 29, .iadr 3 (.t 26) (.t 27), none⟩,
      ⟨some 30, .fadr 2 (.t 29), none⟩,
      ⟨none, .store 1 (.t 30) (.t 28), none⟩]) <|
    .reg [⟨some 31, .mv (.t 1), none⟩,
      ⟨some 32, .bin .add (.t 31) (.c (.int .i64 1)), none⟩,
      ⟨some 1, .mv (.t 32), none⟩])) <|
  .reg [⟨some 10, .mv (.t 5), none⟩,
    ⟨some 11, .bin .add (.t 10) (.c (.int .i64 1)), none⟩,
    ⟨some 5, .mv (.t 11), none⟩]
def laws_markSymS.g : Fun := ⟨34, [(4, none)], 
  .seq (.reg [⟨some 4, .mv (.c (.int .i64 0)), none⟩]) <|
  .seq (.seq (.reg [⟨some 5, .mv (.c (.int .i64 0)), none⟩]) <|
  .block 0 (.loop laws_markSymS.l0)) <|
  .seq (.reg [⟨some 33, .mv (.t 1), none⟩,
    ⟨some 4, .mv (.t 33), none⟩]) <|
  .ret⟩
abbrev laws_markSymS.id : FuncId := 103
theorem laws_markSymS.tr : trFun Try.prog 103 = some laws_markSymS.g := by kernel_rfl
def laws_markProdS.l0 : IC :=
  .seq (.seq (.reg [⟨some 6, .mv (.t 5), none⟩,
    ⟨some 7, .mv (.t 0), none⟩,
    ⟨some 8, .len (.t 7) false, none⟩,
    ⟨some 9, .bin .lss (.t 6) (.t 8), none⟩]) <|
  .cond (.t 9) (.skip) (.exit 0)) <|
  .seq (.block 1 (.seq (.reg [⟨some 12, .mv (.t 0), none⟩,
      ⟨some 13, .mv (.t 5), none⟩,
      ⟨some 14, .mv (.t 1), none⟩,
      ⟨some 15, .iadr 2 (.t 12) (.t 13), none⟩,
      ⟨some 16, .fadr 0 (.t 15), none⟩,
      ⟨none, .store 1 (.t 16) (.t 14), none⟩]) <|
    .seq (.reg [⟨some 17, .mv (.t 1), none⟩,
      ⟨some 18, .bin .add (.t 17) (.c (.int .i64 1)), none⟩,
      ⟨some 1, .mv (.t 18), none⟩]) <|
    .reg [⟨some 19, .mv (.t 0), none⟩,
      ⟨some 20, .mv (.t 5), none⟩,
      ⟨some 21, .iadr 2 (.t 19) (.t 20), none⟩,
      ⟨some 22, .fadr 1 (.t 21), none⟩,
      ⟨some 23, .load 1 false (.t 22), none⟩,
      ⟨some 24, .mv (.t 1), none⟩,
      ⟨some 25, .call 103 [(.t 23), (.t 24)], none⟩,
      ⟨some 1, .mv (.t 25), none⟩])) <|
  .reg [⟨some 10, .mv (.t 5), none⟩,
    ⟨some 11, .bin .add (.t 10) (.c (.int .i64 1)), none⟩,
    ⟨some 5, .mv (.t 11), none⟩]
def laws_markProdS.g : Fun := ⟨27, [(4, none)], 
  .seq (.reg [⟨some 4, .mv (.c (.int .i64 0)), none⟩]) <|
  .seq (.seq (.reg [⟨some 5, .mv (.c (.int .i64 0)), none⟩]) <|
  .block 0 (.loop laws_markProdS.l0)) <|
  .seq (.reg [⟨some 26, .mv (.t 1), none⟩,
    ⟨some 4, .mv (.t 26), none⟩]) <|
  .ret⟩
abbrev laws_markProdS.id : FuncId := 64
theorem laws_markProdS.tr : trFun Try.prog 64 = some laws_markProdS.g := by kernel_rfl
def laws_markCfg.g : Fun := ⟨10, [(4, none)], 
  .seq (.reg [⟨some 2, .box 33 (.t 0), none⟩,
    ⟨some 4, .mv (.c (.int .i64 0)), none⟩]) <|
  .seq (.reg [⟨some 5, .fadr 1 (.t 2), none⟩,
    ⟨some 6, .load 1 false (.t 5), none⟩,
    ⟨some 7, .mv (.t 1), none⟩,
    ⟨some 8, .call 64 [(.t 6), (.t 7)], none⟩,
    ⟨some 1, .mv (.t 8), none⟩]) <|
  .seq (.reg [⟨some 9, .mv (.t 1), none⟩,
    ⟨some 4, .mv (.t 9), none⟩]) <|
  .ret⟩
abbrev laws_markCfg.id : FuncId := 23
theorem laws_markCfg.tr : trFun Try.prog 23 = some laws_markCfg.g := by kernel_rfl
end Go.Proofs.Ytabbipdkbdojiaa
