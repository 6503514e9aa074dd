/- The code of some functions of the program, as the abstract layer has it, each with the equation that says so. No condition. -/
import Derived.Test.YtabbipdkbdojiaaBase
namespace Go.Proofs.Ytabbipdkbdojiaa
open Go Go.Ab
def laws_eqItem.g : Fun := ⟨20, [(4, none)], 
  .seq (.reg [⟨some 2, .box 82 (.t 0), none⟩,
    ⟨some 3, .box 82 (.t 1), none⟩,
    ⟨some 4, .mv (.c (.bool false)), none⟩]) <|
  .seq (.seq (.reg [⟨some 5, .fadr 0 (.t 2), none⟩,
    ⟨some 6, .load 1 false (.t 5), none⟩,
    ⟨some 7, .fadr 0 (.t 3), none⟩,
    ⟨some 8, .load 1 false (.t 7), none⟩,
    ⟨some 9, .bin .neq (.t 6) (.t 8), none⟩]) <|
  .cond (.t 9) (.seq (.reg [⟨some 4, .mv (.c (.bool false)), none⟩]) <|
    .ret) (.skip)) <|
  .seq (.seq (.reg [⟨some 10, .fadr 1 (.t 2), none⟩,
    ⟨some 11, .load 1 false (.t 10), none⟩,
    ⟨some 12, .fadr 1 (.t 3), none⟩,
    ⟨some 13, .load 1 false (.t 12), none⟩,
    ⟨some 14, .bin .neq (.t 11) (.t 13), none⟩]) <|
  .cond (.t 14) (.seq (.reg [⟨some 4, .mv (.c (.bool false)), none⟩]) <|
    .ret) (.skip)) <|
  .seq (.seq (.reg [⟨some 15, .fadr 2 (.t 2), none⟩,
    ⟨some 16, .load 1 false (.t 15), none⟩,
    ⟨some 17, .fadr 2 (.t 3), none⟩,
    ⟨some 18, .load 1 false (.t 17), none⟩,
    ⟨some 19, .bin .neq (.t 16) (.t 18), none⟩]) <|
  .cond (.t 19) (.seq (.reg [⟨some 4, .mv (.c (.bool false)), none⟩]) <|
    .ret) (.skip)) <|
  .seq (.reg [⟨some 4, .mv (.c (.bool true)), none⟩]) <|
  .ret⟩
abbrev laws_eqItem.id : FuncId := 119
theorem laws_eqItem.tr : trFun Try.prog 119 = some laws_eqItem.g := by kernel_rfl
def laws_eqChart.g : Fun := ⟨11, [(4, none)], 
  .seq (.reg [⟨some 2, .box 37 (.t 0), none⟩,
    ⟨some 3, .box 37 (.t 1), none⟩,
    ⟨some 4, .mv (.c (.bool false)), none⟩]) <|
  .seq (.seq (.reg [⟨some 5, .fadr 0 (.t 2), none⟩,
    ⟨some 6, .load 1 false (.t 5), none⟩,
    ⟨some 7, .fadr 0 (.t 3), none⟩,
    ⟨some 8, .load 1 false (.t 7), none⟩,
    ⟨some 9, .call 62 [(.t 6), (.t 8)], none⟩,
    ⟨some 10, .un .not (.t 9), none⟩]) <|
  .cond (.t 10) (.seq (.reg [⟨some 4, .mv (.c (.bool false)), none⟩]) <|
    .ret) (.skip)) <|
  .seq (.reg [⟨some 4, .mv (.c (.bool true)), none⟩]) <|
  .ret⟩
abbrev laws_eqChart.id : FuncId := 19
theorem laws_eqChart.tr : trFun Try.prog 19 = some laws_eqChart.g := by kernel_rfl
def laws_szChart.g : Fun := ⟨12, [(4, none)], 
  .seq (.reg [⟨some 2, .box 27 (.t 0), none⟩,
    ⟨some 4, .mv (.c (.int .i64 0)), none⟩]) <|
  .seq (.reg [⟨some 5, .fadr 0 (.t 2), none⟩,
    ⟨some 6, .load 1 false (.t 5), none⟩,
    ⟨some 7, .mv (.t 1), none⟩,
    ⟨some 8, .call 50 [(.t 6), (.t 7)], none⟩,
    ⟨some 1, .mv (.t 8), none⟩]) <|
  .seq (.seq (.reg [⟨some 9, .mv (.t 1), none⟩,
    ⟨some 10, .bin .lss (.t 9) (.c (.int .i64 0)), none⟩]) <|
  .cond (.t 10) (.seq (.reg [⟨some 4, .mv (.c (.int .i64 (-1))), none⟩]) <|
    .ret) (.skip)) <|
  .seq (.reg [⟨some 11, .mv (.t 1), none⟩,
    ⟨some 4, .mv (.t 11), none⟩]) <|
  .ret⟩
abbrev laws_szChart.id : FuncId := 13
theorem laws_szChart.tr : trFun Try.prog 13 = some laws_szChart.g := by kernel_rfl
def laws_toItem.g : Fun := ⟨14, [(2, some (3, true))], 
  .seq (.reg [⟨some 1, .box 146 (.t 0), none⟩,
    ⟨some 2, .alloc 82 [.int .i64 0, .int .i64 0, .int .i64 0], none⟩]) <|
  .seq (.reg [⟨some 3, .alloc 82 [.int .i64 0, .int .i64 0, .int .i64 0], none⟩]) <|
  .seq (.reg [⟨some 4, .fadr 0 (.t 1), none⟩,
    ⟨some 5, .load 1 false (.t 4), none⟩,
    ⟨some 6, .fadr 0 (.t 3), none⟩,
    ⟨none, .store 1 (.t 6) (.t 5), none⟩]) <|
  .seq (.reg [⟨some 7, .fadr 1 (.t 1), none⟩,
    ⟨some 8, .load 1 false (.t 7), none⟩,
    ⟨some 9, .fadr 1 (.t 3), none⟩,
    ⟨none, .store 1 (.t 9) (.t 8), none⟩]) <|
  .seq (.reg [⟨some 10, .fadr 2 (.t 1), none⟩,
    ⟨some 11, .load 1 false (.t 10), none⟩,
    ⟨some 12, .fadr 2 (.t 3), none⟩,
    ⟨none, .store 1 (.t 12) (.t 11), none⟩]) <|
  .seq (.reg [⟨some 13, .load 3 true (.t 3), none⟩,
    ⟨none, .store 3 (.t 2) (.t 13), none⟩]) <|
  .ret⟩
abbrev laws_toItem.id : FuncId := 114
theorem laws_toItem.tr : trFun Try.prog 114 = some laws_toItem.g := by kernel_rfl
def laws_toChart.g : Fun := ⟨9, [(2, some (1, true))], 
  .seq (.reg [⟨some 1, .box 27 (.t 0), none⟩,
    ⟨some 2, .alloc 37 [.slice none 0 0], none⟩]) <|
  .seq (.reg [⟨some 3, .alloc 37 [.slice none 0 0], none⟩]) <|
  .seq (.reg [⟨some 4, .fadr 0 (.t 1), none⟩,
    ⟨some 5, .load 1 false (.t 4), none⟩,
    ⟨some 6, .call 56 [(.t 5)], none⟩,
    ⟨some 7, .fadr 0 (.t 3), none⟩,
    ⟨none, .store 1 (.t 7) (.t 6), none⟩]) <|
  .seq (.reg [⟨some 8, .load 1 true (.t 3), none⟩,
    ⟨none, .store 1 (.t 2) (.t 8), none⟩]) <|
  .ret⟩
abbrev laws_toChart.id : FuncId := 16
theorem laws_toChart.tr : trFun Try.prog 16 = some laws_toChart.g := by kernel_rfl
def laws_markChart.g : Fun := ⟨10, [(4, none)], 
  .seq (.reg [⟨some 2, .box 37 (.t 0), none⟩,
    ⟨some 4, .mv (.c (.int .i64 0)), none⟩]) <|
  .seq (.reg [⟨some 5, .fadr 0 (.t 2), none⟩,
    ⟨some 6, .load 1 false (.t 5), none⟩,
    ⟨some 7, .mv (.t 1), none⟩,
    ⟨some 8, .call 65 [(.t 6), (.t 7)], none⟩,
    ⟨some 1, .mv (.t 8), none⟩]) <|
  .seq (.reg [⟨some 9, .mv (.t 1), none⟩,
    ⟨some 4, .mv (.t 9), none⟩]) <|
  .ret⟩
abbrev laws_markChart.id : FuncId := 24
theorem laws_markChart.tr : trFun Try.prog 24 = some laws_markChart.g := by kernel_rfl
end Go.Proofs.Ytabbipdkbdojiaa
