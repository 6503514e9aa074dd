/- The code of some functions of the program, as the abstract layer has it, each with the equation that says so. No condition. -/
import Derived.Test.YtabbipdkbdojiaaBase
namespace Go.Proofs.Ytabbipdkbdojiaa
open Go Go.Ab
def laws_FnExactChartNext.g : Fun := ⟨92, [(4, none)], 
  .seq (.reg [⟨some 2, .box 24 (.t 0), none⟩,
    ⟨some 3, .box 27 (.t 1), none⟩,
    ⟨some 4, .mv (.c (.bool false)), none⟩]) <|
  .seq (.reg [⟨some 5, .mv (.c (.int .i64 1048576)), none⟩]) <|
  .seq (.reg [⟨some 14, .load 2 true (.t 2), none⟩,
    ⟨some 15, .mv (.t 5), none⟩,
    ⟨some 16, .call 12 [(.t 14), (.t 15)], none⟩,
    ⟨some 5, .mv (.t 16), none⟩]) <|
  .seq (.seq (.reg [⟨some 17, .mv (.t 5), none⟩,
    ⟨some 18, .bin .lss (.t 17) (.c (.int .i64 0)), none⟩]) <|
  .cond (.t 18) (.seq (.reg [⟨some 4, .mv (.c (.bool true)), none⟩]) <|
    .ret) (.skip)) <|
  .seq (.reg [⟨some 19, .load 1 true (.t 3), none⟩,
    ⟨some 20, .mv (.t 5), none⟩,
    ⟨some 21, .call 13 [(.t 19), (.t 20)], none⟩,
    ⟨some 5, .mv (.t 21), none⟩]) <|
  .seq (.seq (.reg [⟨some 22, .mv (.t 5), none⟩,
    ⟨some 23, .bin .lss (.t 22) (.c (.int .i64 0)), none⟩]) <|
  .cond (.t 23) (.seq (.reg [⟨some 4, .mv (.c (.bool true)), none⟩]) <|
    .ret) (.skip)) <|
  .seq (.dreg (.one 0 (.ld 2 (.one 1 (.one 3 (.one 4 (.one 5 (.done))))) (.alt (.one 1 (.one 2 (.one 3 (.one 4 (.one 5 (.done)))))) (.one 2 (.one 1 (.one 3 (.one 4 (.one 5 (.done))))))))) [⟨some 24, .load 2 true (.t 2), none⟩,
    ⟨some 25, .call 15 [(.t 24)], none⟩,
    ⟨some 26, .load 1 true (.t 3), none⟩,
    ⟨some 27, .call 16 [(.t 26)], none⟩,
    ⟨some 28, .call 20 [(.t 25), (.t 27)], none⟩,
    ⟨some 6, .mv (.t 28), none⟩]) <|
  .seq (.reg [⟨some 29, .load 2 true (.t 2), none⟩,
    ⟨some 30, .call 15 [(.t 29)], none⟩,
    ⟨some 7, .alloc 33 [.int .i64 0, .slice none 0 0], none⟩,
    ⟨none, .store 2 (.t 7) (.t 30), none⟩]) <|
  .seq (.reg [⟨some 31, .load 1 true (.t 3), none⟩,
    ⟨some 32, .call 16 [(.t 31)], none⟩,
    ⟨some 8, .alloc 37 [.slice none 0 0], none⟩,
    ⟨none, .store 1 (.t 8) (.t 32), none⟩]) <|
  .seq (.reg [⟨some 33, .load 2 true (.t 7), none⟩,
    ⟨some 34, .load 1 true (.t 8), none⟩,
    ⟨some 35, .call 21 [(.t 33), (.t 34)], none⟩,
    ⟨some 9, .mv (.t 35), none⟩]) <|
  .seq (.seq (.reg [⟨some 36, .mv (.t 9), none⟩,
    ⟨some 37, .mv (.t 6), none⟩,
    ⟨some 38, .call 22 [(.t 36), (.t 37)], none⟩,
    ⟨some 39, .un .not (.t 38), none⟩]) <|
  .cond (.t 39) (.seq (.reg [⟨some 4, .mv (.c (.bool false)), none⟩]) <|
    .ret) (.skip)) <|
  .seq (.seq (.dreg (.one 1 (.ld 0 (.one 2 (.one 3 (.one 4 (.done)))) (.alt (.one 0 (.one 2 (.one 3 (.one 4 (.done))))) (.one 2 (.one 0 (.one 3 (.one 4 (.done)))))))) [⟨some 40, .load 2 true (.t 7), none⟩,
    ⟨some 41, .load 2 true (.t 2), none⟩,
    ⟨some 42, .call 15 [(.t 41)], none⟩,
    ⟨some 43, .call 18 [(.t 40), (.t 42)], none⟩,
    ⟨some 44, .un .not (.t 43), none⟩]) <|
  .cond (.t 44) (.seq (.reg [⟨some 4, .mv (.c (.bool false)), none⟩]) <|
    .ret) (.skip)) <|
  .seq (.seq (.dreg (.one 1 (.ld 0 (.one 2 (.one 3 (.one 4 (.done)))) (.alt (.one 0 (.one 2 (.one 3 (.one 4 (.done))))) (.one 2 (.one 0 (.one 3 (.one 4 (.done)))))))) [⟨some 45, .load 1 true (.t 8), none⟩,
    ⟨some 46, .load 1 true (.t 3), none⟩,
    ⟨some 47, .call 16 [(.t 46)], none⟩,
    ⟨some 48, .call 19 [(.t 45), (.t 47)], none⟩,
    ⟨some 49, .un .not (.t 48), none⟩]) <|
  .cond (.t 49) (.seq (.reg [⟨some 4, .mv (.c (.bool false)), none⟩]) <|
    .ret) (.skip)) <|
  .seq (.reg [⟨some 10, .mv (.c (.int .i64 1)), none⟩]) <|
  .seq (.reg [⟨some 50, .load 2 true (.t 7), none⟩,
    ⟨some 51, .mv (.t 10), none⟩,
    ⟨some 52, .call 23 [(.t 50), (.t 51)], none⟩,
    ⟨some 10, .mv (.t 52), none⟩]) <|
  .seq (.reg [⟨some 53, .load 1 true (.t 8), none⟩,
    ⟨some 54, .mv (.t 10), none⟩,
    ⟨some 55, .call 24 [(.t 53), (.t 54)], none⟩,
    ⟨some 10, .mv (.t 55), none⟩]) <|
  .seq (.seq (.reg [⟨some 56, .mv (.t 10), none⟩,
    ⟨some 57, .bin .lss (.t 56) (.c (.int .i64 0)), none⟩,
    ⟨some 58, .mv (.t 57), none⟩,
    ⟨some 59, .mv (.t 9), some (58, false)⟩,
    ⟨some 60, .mv (.t 6), some (58, false)⟩,
    ⟨some 61, .call 22 [(.t 59), (.t 60)], some (58, false)⟩,
    ⟨some 62, .un .not (.t 61), some (58, false)⟩,
    ⟨some 63, .pick (.t 58) (.c (.bool true)) (.t 62), none⟩]) <|
  .cond (.t 63) (.seq (.reg [⟨some 4, .mv (.c (.bool false)), none⟩]) <|
    .ret) (.skip)) <|
  .seq (.reg [⟨some 11, .mv (.c (.int .i64 1)), none⟩]) <|
  .seq (.reg [⟨some 64, .mv (.t 9), none⟩,
    ⟨some 65, .mv (.t 11), none⟩,
    ⟨some 66, .call 25 [(.t 64), (.t 65)], none⟩,
    ⟨some 11, .mv (.t 66), none⟩]) <|
  .seq (.reg [⟨some 12, .mv (.c (.int .i64 1)), none⟩]) <|
  .seq (.reg [⟨some 67, .mv (.t 9), none⟩,
    ⟨some 68, .mv (.t 12), none⟩,
    ⟨some 69, .call 26 [(.t 67), (.t 68)], none⟩,
    ⟨some 12, .mv (.t 69), none⟩]) <|
  .seq (.seq (.reg [⟨some 70, .mv (.t 12), none⟩,
    ⟨some 71, .bin .lss (.t 70) (.c (.int .i64 0)), none⟩]) <|
  .cond (.t 71) (.seq (.reg [⟨some 4, .mv (.c (.bool false)), none⟩]) <|
    .ret) (.skip)) <|
  .seq (.seq (.reg [⟨some 72, .mv (.t 12), none⟩,
    ⟨some 73, .mv (.t 11), none⟩,
    ⟨some 74, .bin .neq (.t 72) (.t 73), none⟩]) <|
  .cond (.t 74) (.seq (.reg [⟨some 4, .mv (.c (.bool false)), none⟩]) <|
    .ret) (.skip)) <|
  .seq (.dreg (.one 0 (.ld 2 (.one 1 (.one 3 (.one 4 (.one 5 (.done))))) (.alt (.one 1 (.one 2 (.one 3 (.one 4 (.one 5 (.done)))))) (.one 2 (.one 1 (.one 3 (.one 4 (.one 5 (.done))))))))) [⟨some 75, .load 2 true (.t 2), none⟩,
    ⟨some 76, .call 15 [(.t 75)], none⟩,
    ⟨some 77, .load 1 true (.t 3), none⟩,
    ⟨some 78, .call 16 [(.t 77)], none⟩,
    ⟨some 79, .call 21 [(.t 76), (.t 78)], none⟩,
    ⟨some 13, .mv (.t 79), none⟩]) <|
  .seq (.seq (.reg [⟨some 80, .mv (.t 13), none⟩,
    ⟨some 81, .mv (.t 6), none⟩,
    ⟨some 82, .call 22 [(.t 80), (.t 81)], none⟩,
    ⟨some 83, .un .not (.t 82), none⟩]) <|
  .cond (.t 83) (.seq (.reg [⟨some 4, .mv (.c (.bool false)), none⟩]) <|
    .ret) (.skip)) <|
  .seq (.reg [⟨some 12, .mv (.c (.int .i64 1)), none⟩]) <|
  .seq (.reg [⟨some 84, .mv (.t 9), none⟩,
    ⟨some 85, .mv (.t 12), none⟩,
    ⟨some 86, .call 26 [(.t 84), (.t 85)], none⟩,
    ⟨some 12, .mv (.t 86), none⟩]) <|
  .seq (.seq (.reg [⟨some 87, .mv (.t 12), none⟩,
    ⟨some 88, .bin .lss (.t 87) (.c (.int .i64 0)), none⟩]) <|
  .cond (.t 88) (.seq (.reg [⟨some 4, .mv (.c (.bool false)), none⟩]) <|
    .ret) (.skip)) <|
  .seq (.seq (.reg [⟨some 89, .mv (.t 12), none⟩,
    ⟨some 90, .mv (.t 11), none⟩,
    ⟨some 91, .bin .neq (.t 89) (.t 90), none⟩]) <|
  .cond (.t 91) (.seq (.reg [⟨some 4, .mv (.c (.bool false)), none⟩]) <|
    .ret) (.skip)) <|
  .seq (.reg [⟨some 4, .mv (.c (.bool true)), none⟩]) <|
  .ret⟩
abbrev laws_FnExactChartNext.id : FuncId := 4
theorem laws_FnExactChartNext.tr : trFun Try.prog 4 = some laws_FnExactChartNext.g := by kernel_rfl
end Go.Proofs.Ytabbipdkbdojiaa
