/- The code of some functions of the program, as the abstract layer has it, each with the equation that says so. No condition. -/
import Derived.Test.YtabbipdkbdojiaaBase
namespace Go.Proofs.Ytabbipdkbdojiaa
open Go Go.Ab
def laws_eqSym.g : Fun := ⟨20, [(4, none)], 
  .seq (.reg [⟨some 2, .box 94 (.t 0), none⟩,
    ⟨some 3, .box 94 (.t 1), none⟩,
    ⟨some 4, .mv (.c (.bool false)), none⟩]) <|
  .seq (.seq (.reg [⟨some 5, .fadr 0 (.t 2), none⟩,
    ⟨some 6, .load 1 false (.t 5), none⟩,
    ⟨some 7, .fadr 0 (.t 3), none⟩,
    ⟨some 8, .load 1 false (.t 7), none⟩,
    ⟨some 9, .bin .neq (.t 6) (.t 8), none⟩]) <|
  .cond (.t 9) (.seq (.reg [⟨some 4, .mv (.c (.bool false)), none⟩]) <|
    .ret) (.skip)) <|
  .seq (.seq (.reg [⟨some 10, .fadr 1 (.t 2), none⟩,
    ⟨some 11, .load 1 false (.t 10), none⟩,
    ⟨some 12, .fadr 1 (.t 3), none⟩,
    ⟨some 13, .load 1 false (.t 12), none⟩,
    ⟨some 14, .bin .neq (.t 11) (.t 13), none⟩]) <|
  .cond (.t 14) (.seq (.reg [⟨some 4, .mv (.c (.bool false)), none⟩]) <|
    .ret) (.skip)) <|
  .seq (.seq (.reg [⟨some 15, .fadr 2 (.t 2), none⟩,
    ⟨some 16, .load 1 false (.t 15), none⟩,
    ⟨some 17, .fadr 2 (.t 3), none⟩,
    ⟨some 18, .load 1 false (.t 17), none⟩,
    ⟨some 19, .bin .neq (.t 16) (.t 18), none⟩]) <|
  .cond (.t 19) (.seq (.reg [⟨some 4, .mv (.c (.bool false)), none⟩]) <|
    .ret) (.skip)) <|
  .seq (.reg [⟨some 4, .mv (.c (.bool true)), none⟩]) <|
  .ret⟩
abbrev laws_eqSym.id : FuncId := 125
theorem laws_eqSym.tr : trFun Try.prog 125 = some laws_eqSym.g := by kernel_rfl
def laws_eqProd.g : Fun := ⟨16, [(4, none)], 
  .seq (.reg [⟨some 2, .box 85 (.t 0), none⟩,
    ⟨some 3, .box 85 (.t 1), none⟩,
    ⟨some 4, .mv (.c (.bool false)), none⟩]) <|
  .seq (.seq (.reg [⟨some 5, .fadr 0 (.t 2), none⟩,
    ⟨some 6, .load 1 false (.t 5), none⟩,
    ⟨some 7, .fadr 0 (.t 3), none⟩,
    ⟨some 8, .load 1 false (.t 7), none⟩,
    ⟨some 9, .bin .neq (.t 6) (.t 8), none⟩]) <|
  .cond (.t 9) (.seq (.reg [⟨some 4, .mv (.c (.bool false)), none⟩]) <|
    .ret) (.skip)) <|
  .seq (.seq (.reg [⟨some 10, .fadr 1 (.t 2), none⟩,
    ⟨some 11, .load 1 false (.t 10), none⟩,
    ⟨some 12, .fadr 1 (.t 3), none⟩,
    ⟨some 13, .load 1 false (.t 12), none⟩,
    ⟨some 14, .call 118 [(.t 11), (.t 13)], none⟩,
    ⟨some 15, .un .not (.t 14), none⟩]) <|
  .cond (.t 15) (.seq (.reg [⟨some 4, .mv (.c (.bool false)), none⟩]) <|
    .ret) (.skip)) <|
  .seq (.reg [⟨some 4, .mv (.c (.bool true)), none⟩]) <|
  .ret⟩
abbrev laws_eqProd.id : FuncId := 101
theorem laws_eqProd.tr : trFun Try.prog 101 = some laws_eqProd.g := by kernel_rfl
def laws_eqCfg.g : Fun := ⟨16, [(4, none)], 
  .seq (.reg [⟨some 2, .box 33 (.t 0), none⟩,
    ⟨some 3, .box 33 (.t 1), none⟩,
    ⟨some 4, .mv (.c (.bool false)), none⟩]) <|
  .seq (.seq (.reg [⟨some 5, .fadr 0 (.t 2), none⟩,
    ⟨some 6, .load 1 false (.t 5), none⟩,
    ⟨some 7, .fadr 0 (.t 3), none⟩,
    ⟨some 8, .load 1 false (.t 7), none⟩,
    ⟨some 9, .bin .neq (.t 6) (.t 8), none⟩]) <|
  .cond (.t 9) (.seq (.reg [⟨some 4, .mv (.c (.bool false)), none⟩]) <|
    .ret) (.skip)) <|
  .seq (.seq (.reg [⟨some 10, .fadr 1 (.t 2), none⟩,
    ⟨some 11, .load 1 false (.t 10), none⟩,
    ⟨some 12, .fadr 1 (.t 3), none⟩,
    ⟨some 13, .load 1 false (.t 12), none⟩,
    ⟨some 14, .call 61 [(.t 11), (.t 13)], none⟩,
    ⟨some 15, .un .not (.t 14), none⟩]) <|
  .cond (.t 15) (.seq (.reg [⟨some 4, .mv (.c (.bool false)), none⟩]) <|
    .ret) (.skip)) <|
  .seq (.reg [⟨some 4, .mv (.c (.bool true)), none⟩]) <|
  .ret⟩
abbrev laws_eqCfg.id : FuncId := 18
theorem laws_eqCfg.tr : trFun Try.prog 18 = some laws_eqCfg.g := by kernel_rfl
def laws_szProd.g : Fun := ⟨12, [(4, none)], 
  .seq (.reg [⟨some 2, .box 119 (.t 0), none⟩,
    ⟨some 4, .mv (.c (.int .i64 0)), none⟩]) <|
  .seq (.reg [⟨some 5, .fadr 1 (.t 2), none⟩,
    ⟨some 6, .load 1 false (.t 5), none⟩,
    ⟨some 7, .mv (.t 1), none⟩,
    ⟨some 8, .call 112 [(.t 6), (.t 7)], none⟩,
    ⟨some 1, .mv (.t 8), none⟩]) <|
  .seq (.seq (.reg [⟨some 9, .mv (.t 1), none⟩,
    ⟨some 10, .bin .lss (.t 9) (.c (.int .i64 0)), none⟩]) <|
  .cond (.t 10) (.seq (.reg [⟨some 4, .mv (.c (.int .i64 (-1))), none⟩]) <|
    .ret) (.skip)) <|
  .seq (.reg [⟨some 11, .mv (.t 1), none⟩,
    ⟨some 4, .mv (.t 11), none⟩]) <|
  .ret⟩
abbrev laws_szProd.id : FuncId := 88
theorem laws_szProd.tr : trFun Try.prog 88 = some laws_szProd.g := by kernel_rfl
def laws_szCfg.g : Fun := ⟨12, [(4, none)], 
  .seq (.reg [⟨some 2, .box 24 (.t 0), none⟩,
    ⟨some 4, .mv (.c (.int .i64 0)), none⟩]) <|
  .seq (.reg [⟨some 5, .fadr 1 (.t 2), none⟩,
    ⟨some 6, .load 1 false (.t 5), none⟩,
    ⟨some 7, .mv (.t 1), none⟩,
    ⟨some 8, .call 49 [(.t 6), (.t 7)], none⟩,
    ⟨some 1, .mv (.t 8), none⟩]) <|
  .seq (.seq (.reg [⟨some 9, .mv (.t 1), none⟩,
    ⟨some 10, .bin .lss (.t 9) (.c (.int .i64 0)), none⟩]) <|
  .cond (.t 10) (.seq (.reg [⟨some 4, .mv (.c (.int .i64 (-1))), none⟩]) <|
    .ret) (.skip)) <|
  .seq (.reg [⟨some 11, .mv (.t 1), none⟩,
    ⟨some 4, .mv (.t 11), none⟩]) <|
  .ret⟩
abbrev laws_szCfg.id : FuncId := 12
theorem laws_szCfg.tr : trFun Try.prog 12 = some laws_szCfg.g := by kernel_rfl
def laws_toSym.g : Fun := ⟨14, [(2, some (3, true))], 
  .seq (.reg [⟨some 1, .box 155 (.t 0), none⟩,
    ⟨some 2, .alloc 94 [.int .i64 0, .int .i64 0, .int .i64 0], none⟩]) <|
  .seq (.reg [⟨some 3, .alloc 94 [.int .i64 0, .int .i64 0, .int .i64 0], none⟩]) <|
  .seq (.reg [⟨some 4, .fadr 0 (.t 1), none⟩,
    ⟨some 5, .load 1 false (.t 4), none⟩,
    ⟨some 6, .fadr 0 (.t 3), none⟩,
    ⟨none, .store 1 (.t 6) (.t 5), none⟩]) <|
  .seq (.reg [⟨some 7, .fadr 1 (.t 1), none⟩,
    ⟨some 8, .load 1 false (.t 7), none⟩,
    ⟨some 9, .fadr 1 (.t 3), none⟩,
    ⟨none, .store 1 (.t 9) (.t 8), none⟩]) <|
  .seq (.reg [⟨some 10, .fadr 2 (.t 1), none⟩,
    ⟨some 11, .load 1 false (.t 10), none⟩,
    ⟨some 12, .fadr 2 (.t 3), none⟩,
    ⟨none, .store 1 (.t 12) (.t 11), none⟩]) <|
  .seq (.reg [⟨some 13, .load 3 true (.t 3), none⟩,
    ⟨none, .store 3 (.t 2) (.t 13), none⟩]) <|
  .ret⟩
abbrev laws_toSym.id : FuncId := 122
theorem laws_toSym.tr : trFun Try.prog 122 = some laws_toSym.g := by kernel_rfl
def laws_toProd.g : Fun := ⟨12, [(2, some (2, true))], 
  .seq (.reg [⟨some 1, .box 119 (.t 0), none⟩,
    ⟨some 2, .alloc 85 [.int .i64 0, .slice none 0 0], none⟩]) <|
  .seq (.reg [⟨some 3, .alloc 85 [.int .i64 0, .slice none 0 0], none⟩]) <|
  .seq (.reg [⟨some 4, .fadr 0 (.t 1), none⟩,
    ⟨some 5, .load 1 false (.t 4), none⟩,
    ⟨some 6, .fadr 0 (.t 3), none⟩,
    ⟨none, .store 1 (.t 6) (.t 5), none⟩]) <|
  .seq (.reg [⟨some 7, .fadr 1 (.t 1), none⟩,
    ⟨some 8, .load 1 false (.t 7), none⟩,
    ⟨some 9, .call 113 [(.t 8)], none⟩,
    ⟨some 10, .fadr 1 (.t 3), none⟩,
    ⟨none, .store 1 (.t 10) (.t 9), none⟩]) <|
  .seq (.reg [⟨some 11, .load 2 true (.t 3), none⟩,
    ⟨none, .store 2 (.t 2) (.t 11), none⟩]) <|
  .ret⟩
abbrev laws_toProd.id : FuncId := 94
theorem laws_toProd.tr : trFun Try.prog 94 = some laws_toProd.g := by kernel_rfl
def laws_toCfg.g : Fun := ⟨12, [(2, some (2, true))], 
  .seq (.reg [⟨some 1, .box 24 (.t 0), none⟩,
    ⟨some 2, .alloc 33 [.int .i64 0, .slice none 0 0], none⟩]) <|
  .seq (.reg [⟨some 3, .alloc 33 [.int .i64 0, .slice none 0 0], none⟩]) <|
  .seq (.reg [⟨some 4, .fadr 0 (.t 1), none⟩,
    ⟨some 5, .load 1 false (.t 4), none⟩,
    ⟨some 6, .fadr 0 (.t 3), none⟩,
    ⟨none, .store 1 (.t 6) (.t 5), none⟩]) <|
  .seq (.reg [⟨some 7, .fadr 1 (.t 1), none⟩,
    ⟨some 8, .load 1 false (.t 7), none⟩,
    ⟨some 9, .call 55 [(.t 8)], none⟩,
    ⟨some 10, .fadr 1 (.t 3), none⟩,
    ⟨none, .store 1 (.t 10) (.t 9), none⟩]) <|
  .seq (.reg [⟨some 11, .load 2 true (.t 3), none⟩,
    ⟨none, .store 2 (.t 2) (.t 11), none⟩]) <|
  .ret⟩
abbrev laws_toCfg.id : FuncId := 15
theorem laws_toCfg.tr : trFun Try.prog 15 = some laws_toCfg.g := by kernel_rfl
end Go.Proofs.Ytabbipdkbdojiaa
