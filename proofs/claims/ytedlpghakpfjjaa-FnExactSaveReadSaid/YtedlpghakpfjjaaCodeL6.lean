/- The code of some functions of the program, as the abstract layer has it, each with the equation that says so. No condition. -/
import Derived.Test.YtedlpghakpfjjaaBase
namespace Go.Proofs.Ytedlpghakpfjjaa
open Go Go.Ab
def laws_FnExactSaveRead.g : Fun := ⟨93, [(2, none)], 
  .seq (.reg [⟨some 2, .mv (.c (.bool false)), none⟩]) <|
  .seq (.seq (.reg [⟨some 13, .mv (.t 0), none⟩,
    ⟨some 14, .len (.t 13) false, none⟩,
    ⟨some 15, .bin .gtr (.t 14) (.c (.int .i64 1048576)), none⟩]) <|
  .cond (.t 15) (.seq (.reg [⟨some 2, .mv (.c (.bool true)), none⟩]) <|
    .ret) (.skip)) <|
  .seq (.reg [⟨some 17, .mv (.t 0), none⟩,
    ⟨some 18, .call 13 [(.t 17)], none⟩,
    ⟨some 19, .call 25 [(.t 18)], none⟩,
    ⟨some 16, .mv (.t 19), none⟩,
    ⟨some 20, .ext 0 (.t 16), none⟩,
    ⟨some 21, .ext 1 (.t 16), none⟩,
    ⟨some 3, .alloc 34 [.int .i64 0, .slice none 0 0], none⟩,
    ⟨none, .store 2 (.t 3) (.t 20), none⟩,
    ⟨some 4, .mv (.t 21), none⟩]) <|
  .seq (.reg [⟨some 22, .mv (.t 0), none⟩,
    ⟨some 23, .call 13 [(.t 22)], none⟩,
    ⟨some 5, .mv (.t 23), none⟩]) <|
  .seq (.reg [⟨some 25, .mv (.t 5), none⟩,
    ⟨some 26, .call 26 [(.t 25)], none⟩,
    ⟨some 24, .mv (.t 26), none⟩,
    ⟨some 27, .ext 0 (.t 24), none⟩,
    ⟨some 28, .ext 1 (.t 24), none⟩,
    ⟨some 6, .alloc 34 [.int .i64 0, .slice none 0 0], none⟩,
    ⟨none, .store 2 (.t 6) (.t 27), none⟩,
    ⟨some 7, .mv (.t 28), none⟩]) <|
  .seq (.seq (.reg [⟨some 29, .load 2 true (.t 6), none⟩,
    ⟨some 30, .load 2 true (.t 3), none⟩,
    ⟨some 31, .call 21 [(.t 29), (.t 30)], none⟩,
    ⟨some 32, .un .not (.t 31), none⟩,
    ⟨some 33, .mv (.t 32), none⟩,
    ⟨some 34, .mv (.t 7), some (33, false)⟩,
    ⟨some 35, .mv (.t 4), some (33, false)⟩,
    ⟨some 36, .bbin .neq (.t 34) (.t 35), some (33, false)⟩,
    ⟨some 37, .pick (.t 33) (.c (.bool true)) (.t 36), none⟩]) <|
  .cond (.t 37) (.seq (.reg [⟨some 2, .mv (.c (.bool false)), none⟩]) <|
    .ret) (.skip)) <|
  .seq (.seq (.reg [⟨some 38, .mv (.t 5), none⟩,
    ⟨some 39, .mv (.t 0), none⟩,
    ⟨some 40, .call 13 [(.t 39)], none⟩,
    ⟨some 41, .call 15 [(.t 38), (.t 40)], none⟩,
    ⟨some 42, .un .not (.t 41), none⟩]) <|
  .cond (.t 42) (.seq (.reg [⟨some 2, .mv (.c (.bool false)), none⟩]) <|
    .ret) (.skip)) <|
  .seq (.reg [⟨some 8, .mv (.c (.int .i64 1)), none⟩]) <|
  .seq (.reg [⟨some 43, .mv (.t 5), none⟩,
    ⟨some 44, .mv (.t 8), none⟩,
    ⟨some 45, .call 23 [(.t 43), (.t 44)], none⟩,
    ⟨some 8, .mv (.t 45), none⟩]) <|
  .seq (.seq (.reg [⟨some 46, .mv (.t 8), none⟩,
    ⟨some 47, .bin .lss (.t 46) (.c (.int .i64 0)), none⟩,
    ⟨some 48, .mv (.t 47), none⟩,
    ⟨some 49, .load 2 true (.t 6), some (48, false)⟩,
    ⟨some 50, .load 2 true (.t 3), some (48, false)⟩,
    ⟨some 51, .call 21 [(.t 49), (.t 50)], some (48, false)⟩,
    ⟨some 52, .un .not (.t 51), some (48, false)⟩,
    ⟨some 53, .pick (.t 48) (.c (.bool true)) (.t 52), none⟩,
    ⟨some 54, .mv (.t 53), none⟩,
    ⟨some 55, .mv (.t 7), some (54, false)⟩,
    ⟨some 56, .mv (.t 4), some (54, false)⟩,
    ⟨some 57, .bbin .neq (.t 55) (.t 56), some (54, false)⟩,
    ⟨some 58, .pick (.t 54) (.c (.bool true)) (.t 57), none⟩]) <|
  .cond (.t 58) (.seq (.reg [⟨some 2, .mv (.c (.bool false)), none⟩]) <|
    .ret) (.skip)) <|
  .seq (.reg [⟨some 9, .mv (.c (.int .i64 1)), none⟩]) <|
  .seq (.reg [⟨some 59, .load 2 true (.t 6), none⟩,
    ⟨some 60, .mv (.t 9), none⟩,
    ⟨some 61, .call 22 [(.t 59), (.t 60)], none⟩,
    ⟨some 9, .mv (.t 61), none⟩]) <|
  .seq (.reg [⟨some 10, .mv (.c (.int .i64 1)), none⟩]) <|
  .seq (.reg [⟨some 62, .load 2 true (.t 6), none⟩,
    ⟨some 63, .mv (.t 10), none⟩,
    ⟨some 64, .call 27 [(.t 62), (.t 63)], none⟩,
    ⟨some 10, .mv (.t 64), none⟩]) <|
  .seq (.seq (.reg [⟨some 65, .mv (.t 10), none⟩,
    ⟨some 66, .bin .lss (.t 65) (.c (.int .i64 0)), none⟩]) <|
  .cond (.t 66) (.seq (.reg [⟨some 2, .mv (.c (.bool false)), none⟩]) <|
    .ret) (.skip)) <|
  .seq (.seq (.reg [⟨some 67, .mv (.t 10), none⟩,
    ⟨some 68, .mv (.t 9), none⟩,
    ⟨some 69, .bin .neq (.t 67) (.t 68), none⟩]) <|
  .cond (.t 69) (.seq (.reg [⟨some 2, .mv (.c (.bool false)), none⟩]) <|
    .ret) (.skip)) <|
  .seq (.reg [⟨some 71, .mv (.t 0), none⟩,
    ⟨some 72, .call 13 [(.t 71)], none⟩,
    ⟨some 73, .call 26 [(.t 72)], none⟩,
    ⟨some 70, .mv (.t 73), none⟩,
    ⟨some 74, .ext 0 (.t 70), none⟩,
    ⟨some 75, .ext 1 (.t 70), none⟩,
    ⟨some 11, .alloc 34 [.int .i64 0, .slice none 0 0], none⟩,
    ⟨none, .store 2 (.t 11) (.t 74), none⟩,
    ⟨some 12, .mv (.t 75), none⟩]) <|
  .seq (.seq (.reg [⟨some 76, .load 2 true (.t 11), none⟩,
    ⟨some 77, .load 2 true (.t 3), none⟩,
    ⟨some 78, .call 21 [(.t 76), (.t 77)], none⟩,
    ⟨some 79, .un .not (.t 78), none⟩,
    ⟨some 80, .mv (.t 79), none⟩,
    ⟨some 81, .mv (.t 12), some (80, false)⟩,
    ⟨some 82, .mv (.t 4), some (80, false)⟩,
    ⟨some 83, .bbin .neq (.t 81) (.t 82), some (80, false)⟩,
    ⟨some 84, .pick (.t 80) (.c (.bool true)) (.t 83), none⟩]) <|
  .cond (.t 84) (.seq (.reg [⟨some 2, .mv (.c (.bool false)), none⟩]) <|
    .ret) (.skip)) <|
  .seq (.reg [⟨some 10, .mv (.c (.int .i64 1)), none⟩]) <|
  .seq (.reg [⟨some 85, .load 2 true (.t 6), none⟩,
    ⟨some 86, .mv (.t 10), none⟩,
    ⟨some 87, .call 27 [(.t 85), (.t 86)], none⟩,
    ⟨some 10, .mv (.t 87), none⟩]) <|
  .seq (.seq (.reg [⟨some 88, .mv (.t 10), none⟩,
    ⟨some 89, .bin .lss (.t 88) (.c (.int .i64 0)), none⟩]) <|
  .cond (.t 89) (.seq (.reg [⟨some 2, .mv (.c (.bool false)), none⟩]) <|
    .ret) (.skip)) <|
  .seq (.seq (.reg [⟨some 90, .mv (.t 10), none⟩,
    ⟨some 91, .mv (.t 9), none⟩,
    ⟨some 92, .bin .neq (.t 90) (.t 91), none⟩]) <|
  .cond (.t 92) (.seq (.reg [⟨some 2, .mv (.c (.bool false)), none⟩]) <|
    .ret) (.skip)) <|
  .seq (.reg [⟨some 2, .mv (.c (.bool true)), none⟩]) <|
  .ret⟩
abbrev laws_FnExactSaveRead.id : FuncId := 6
theorem laws_FnExactSaveRead.tr : trFun Try.prog 6 = some laws_FnExactSaveRead.g := by kernel_rfl
end Go.Proofs.Ytedlpghakpfjjaa
