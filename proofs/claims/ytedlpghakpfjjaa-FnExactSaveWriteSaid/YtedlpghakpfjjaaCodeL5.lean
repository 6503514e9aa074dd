/- The code of some functions of the program, as the abstract layer has it, each with the equation that says so. No condition. -/
import Derived.Test.YtedlpghakpfjjaaBase
namespace Go.Proofs.Ytedlpghakpfjjaa
open Go Go.Ab
def laws_FnExactSaveWrite.g : Fun := ⟨69, [(2, none)], 
  .seq (.reg [⟨some 1, .box 29 (.t 0), none⟩,
    ⟨some 2, .mv (.c (.bool false)), none⟩]) <|
  .seq (.reg [⟨some 3, .mv (.c (.int .i64 1048576)), none⟩]) <|
  .seq (.reg [⟨some 11, .load 2 true (.t 1), none⟩,
    ⟨some 12, .mv (.t 3), none⟩,
    ⟨some 13, .call 17 [(.t 11), (.t 12)], none⟩,
    ⟨some 3, .mv (.t 13), none⟩]) <|
  .seq (.seq (.reg [⟨some 14, .mv (.t 3), none⟩,
    ⟨some 15, .bin .lss (.t 14) (.c (.int .i64 0)), none⟩]) <|
  .cond (.t 15) (.seq (.reg [⟨some 2, .mv (.c (.bool true)), none⟩]) <|
    .ret) (.skip)) <|
  .seq (.reg [⟨some 16, .load 2 true (.t 1), none⟩,
    ⟨some 17, .call 19 [(.t 16)], none⟩,
    ⟨some 18, .call 18 [(.t 17)], none⟩,
    ⟨some 4, .mv (.t 18), none⟩]) <|
  .seq (.reg [⟨some 19, .load 2 true (.t 1), none⟩,
    ⟨some 20, .call 19 [(.t 19)], none⟩,
    ⟨some 5, .alloc 34 [.int .i64 0, .slice none 0 0], none⟩,
    ⟨none, .store 2 (.t 5) (.t 20), none⟩]) <|
  .seq (.reg [⟨some 21, .load 2 true (.t 5), none⟩,
    ⟨some 22, .call 20 [(.t 21)], none⟩,
    ⟨some 6, .mv (.t 22), none⟩]) <|
  .seq (.seq (.reg [⟨some 23, .mv (.t 6), none⟩,
    ⟨some 24, .mv (.t 4), none⟩,
    ⟨some 25, .call 15 [(.t 23), (.t 24)], none⟩,
    ⟨some 26, .un .not (.t 25), none⟩]) <|
  .cond (.t 26) (.seq (.reg [⟨some 2, .mv (.c (.bool false)), none⟩]) <|
    .ret) (.skip)) <|
  .seq (.seq (.dreg (.one 1 (.ld 0 (.one 2 (.one 3 (.one 4 (.done)))) (.alt (.one 0 (.one 2 (.one 3 (.one 4 (.done))))) (.one 2 (.one 0 (.one 3 (.one 4 (.done)))))))) [⟨some 27, .load 2 true (.t 5), none⟩,
    ⟨some 28, .load 2 true (.t 1), none⟩,
    ⟨some 29, .call 19 [(.t 28)], none⟩,
    ⟨some 30, .call 21 [(.t 27), (.t 29)], none⟩,
    ⟨some 31, .un .not (.t 30), none⟩]) <|
  .cond (.t 31) (.seq (.reg [⟨some 2, .mv (.c (.bool false)), none⟩]) <|
    .ret) (.skip)) <|
  .seq (.reg [⟨some 7, .mv (.c (.int .i64 1)), none⟩]) <|
  .seq (.reg [⟨some 32, .load 2 true (.t 5), none⟩,
    ⟨some 33, .mv (.t 7), none⟩,
    ⟨some 34, .call 22 [(.t 32), (.t 33)], none⟩,
    ⟨some 7, .mv (.t 34), none⟩]) <|
  .seq (.seq (.reg [⟨some 35, .mv (.t 7), none⟩,
    ⟨some 36, .bin .lss (.t 35) (.c (.int .i64 0)), none⟩,
    ⟨some 37, .mv (.t 36), none⟩,
    ⟨some 38, .mv (.t 6), some (37, false)⟩,
    ⟨some 39, .mv (.t 4), some (37, false)⟩,
    ⟨some 40, .call 15 [(.t 38), (.t 39)], some (37, false)⟩,
    ⟨some 41, .un .not (.t 40), some (37, false)⟩,
    ⟨some 42, .pick (.t 37) (.c (.bool true)) (.t 41), none⟩]) <|
  .cond (.t 42) (.seq (.reg [⟨some 2, .mv (.c (.bool false)), none⟩]) <|
    .ret) (.skip)) <|
  .seq (.reg [⟨some 8, .mv (.c (.int .i64 1)), none⟩]) <|
  .seq (.reg [⟨some 43, .mv (.t 6), none⟩,
    ⟨some 44, .mv (.t 8), none⟩,
    ⟨some 45, .call 23 [(.t 43), (.t 44)], none⟩,
    ⟨some 8, .mv (.t 45), none⟩]) <|
  .seq (.reg [⟨some 9, .mv (.c (.int .i64 1)), none⟩]) <|
  .seq (.reg [⟨some 46, .mv (.t 6), none⟩,
    ⟨some 47, .mv (.t 9), none⟩,
    ⟨some 48, .call 24 [(.t 46), (.t 47)], none⟩,
    ⟨some 9, .mv (.t 48), none⟩]) <|
  .seq (.seq (.reg [⟨some 49, .mv (.t 9), none⟩,
    ⟨some 50, .bin .lss (.t 49) (.c (.int .i64 0)), none⟩]) <|
  .cond (.t 50) (.seq (.reg [⟨some 2, .mv (.c (.bool false)), none⟩]) <|
    .ret) (.skip)) <|
  .seq (.seq (.reg [⟨some 51, .mv (.t 9), none⟩,
    ⟨some 52, .mv (.t 8), none⟩,
    ⟨some 53, .bin .neq (.t 51) (.t 52), none⟩]) <|
  .cond (.t 53) (.seq (.reg [⟨some 2, .mv (.c (.bool false)), none⟩]) <|
    .ret) (.skip)) <|
  .seq (.reg [⟨some 54, .load 2 true (.t 1), none⟩,
    ⟨some 55, .call 19 [(.t 54)], none⟩,
    ⟨some 56, .call 20 [(.t 55)], none⟩,
    ⟨some 10, .mv (.t 56), none⟩]) <|
  .seq (.seq (.reg [⟨some 57, .mv (.t 10), none⟩,
    ⟨some 58, .mv (.t 4), none⟩,
    ⟨some 59, .call 15 [(.t 57), (.t 58)], none⟩,
    ⟨some 60, .un .not (.t 59), none⟩]) <|
  .cond (.t 60) (.seq (.reg [⟨some 2, .mv (.c (.bool false)), none⟩]) <|
    .ret) (.skip)) <|
  .seq (.reg [⟨some 9, .mv (.c (.int .i64 1)), none⟩]) <|
  .seq (.reg [⟨some 61, .mv (.t 6), none⟩,
    ⟨some 62, .mv (.t 9), none⟩,
    ⟨some 63, .call 24 [(.t 61), (.t 62)], none⟩,
    ⟨some 9, .mv (.t 63), none⟩]) <|
  .seq (.seq (.reg [⟨some 64, .mv (.t 9), none⟩,
    ⟨some 65, .bin .lss (.t 64) (.c (.int .i64 0)), none⟩]) <|
  .cond (.t 65) (.seq (.reg [⟨some 2, .mv (.c (.bool false)), none⟩]) <|
    .ret) (.skip)) <|
  .seq (.seq (.reg [⟨some 66, .mv (.t 9), none⟩,
    ⟨some 67, .mv (.t 8), none⟩,
    ⟨some 68, .bin .neq (.t 66) (.t 67), none⟩]) <|
  .cond (.t 68) (.seq (.reg [⟨some 2, .mv (.c (.bool false)), none⟩]) <|
    .ret) (.skip)) <|
  .seq (.reg [⟨some 2, .mv (.c (.bool true)), none⟩]) <|
  .ret⟩
abbrev laws_FnExactSaveWrite.id : FuncId := 5
theorem laws_FnExactSaveWrite.tr : trFun Try.prog 5 = some laws_FnExactSaveWrite.g := by kernel_rfl
end Go.Proofs.Ytedlpghakpfjjaa
