/- The code of some functions of the program, as the abstract layer has it, each with the equation that says so. No condition. -/
import Derived.Test.YtabbipdkbdojiaaBase
namespace Go.Proofs.Ytabbipdkbdojiaa
open Go Go.Ab
def laws_FnExactChartEnds.g : Fun := ⟨45, [(4, none)], 
  .seq (.reg [⟨some 2, .box 24 (.t 0), none⟩,
    ⟨some 3, .box 27 (.t 1), none⟩,
    ⟨some 4, .mv (.c (.bool false)), none⟩]) <|
  .seq (.reg [⟨some 5, .mv (.c (.int .i64 1048576)), none⟩]) <|
  .seq (.reg [⟨some 10, .load 2 true (.t 2), none⟩,
    ⟨some 11, .mv (.t 5), none⟩,
    ⟨some 12, .call 12 [(.t 10), (.t 11)], none⟩,
    ⟨some 5, .mv (.t 12), none⟩]) <|
  .seq (.seq (.reg [⟨some 13, .mv (.t 5), none⟩,
    ⟨some 14, .bin .lss (.t 13) (.c (.int .i64 0)), none⟩]) <|
  .cond (.t 14) (.seq (.reg [⟨some 4, .mv (.c (.bool true)), none⟩]) <|
    .ret) (.skip)) <|
  .seq (.reg [⟨some 15, .load 1 true (.t 3), none⟩,
    ⟨some 16, .mv (.t 5), none⟩,
    ⟨some 17, .call 13 [(.t 15), (.t 16)], none⟩,
    ⟨some 5, .mv (.t 17), none⟩]) <|
  .seq (.seq (.reg [⟨some 18, .mv (.t 5), none⟩,
    ⟨some 19, .bin .lss (.t 18) (.c (.int .i64 0)), none⟩]) <|
  .cond (.t 19) (.seq (.reg [⟨some 4, .mv (.c (.bool true)), none⟩]) <|
    .ret) (.skip)) <|
  .seq (.dreg (.one 0 (.ld 2 (.one 1 (.one 3 (.one 4 (.one 5 (.done))))) (.alt (.one 1 (.one 2 (.one 3 (.one 4 (.one 5 (.done)))))) (.one 2 (.one 1 (.one 3 (.one 4 (.one 5 (.done))))))))) [⟨some 20, .load 2 true (.t 2), none⟩,
    ⟨some 21, .call 15 [(.t 20)], none⟩,
    ⟨some 22, .load 1 true (.t 3), none⟩,
    ⟨some 23, .call 16 [(.t 22)], none⟩,
    ⟨some 24, .call 14 [(.t 21), (.t 23)], none⟩,
    ⟨some 6, .mv (.t 24), none⟩]) <|
  .seq (.reg [⟨some 25, .load 2 true (.t 2), none⟩,
    ⟨some 26, .call 15 [(.t 25)], none⟩,
    ⟨some 7, .alloc 33 [.int .i64 0, .slice none 0 0], none⟩,
    ⟨none, .store 2 (.t 7) (.t 26), none⟩]) <|
  .seq (.reg [⟨some 27, .load 1 true (.t 3), none⟩,
    ⟨some 28, .call 16 [(.t 27)], none⟩,
    ⟨some 8, .alloc 37 [.slice none 0 0], none⟩,
    ⟨none, .store 1 (.t 8) (.t 28), none⟩]) <|
  .seq (.reg [⟨some 29, .load 2 true (.t 7), none⟩,
    ⟨some 30, .load 1 true (.t 8), none⟩,
    ⟨some 31, .call 17 [(.t 29), (.t 30)], none⟩,
    ⟨some 9, .mv (.t 31), none⟩]) <|
  .seq (.seq (.reg [⟨some 32, .mv (.t 9), none⟩,
    ⟨some 33, .mv (.t 6), none⟩,
    ⟨some 34, .bbin .neq (.t 32) (.t 33), none⟩]) <|
  .cond (.t 34) (.seq (.reg [⟨some 4, .mv (.c (.bool false)), none⟩]) <|
    .ret) (.skip)) <|
  .seq (.seq (.dreg (.one 1 (.ld 0 (.one 2 (.one 3 (.one 4 (.done)))) (.alt (.one 0 (.one 2 (.one 3 (.one 4 (.done))))) (.one 2 (.one 0 (.one 3 (.one 4 (.done)))))))) [⟨some 35, .load 2 true (.t 7), none⟩,
    ⟨some 36, .load 2 true (.t 2), none⟩,
    ⟨some 37, .call 15 [(.t 36)], none⟩,
    ⟨some 38, .call 18 [(.t 35), (.t 37)], none⟩,
    ⟨some 39, .un .not (.t 38), none⟩]) <|
  .cond (.t 39) (.seq (.reg [⟨some 4, .mv (.c (.bool false)), none⟩]) <|
    .ret) (.skip)) <|
  .seq (.seq (.dreg (.one 1 (.ld 0 (.one 2 (.one 3 (.one 4 (.done)))) (.alt (.one 0 (.one 2 (.one 3 (.one 4 (.done))))) (.one 2 (.one 0 (.one 3 (.one 4 (.done)))))))) [⟨some 40, .load 1 true (.t 8), none⟩,
    ⟨some 41, .load 1 true (.t 3), none⟩,
    ⟨some 42, .call 16 [(.t 41)], none⟩,
    ⟨some 43, .call 19 [(.t 40), (.t 42)], none⟩,
    ⟨some 44, .un .not (.t 43), none⟩]) <|
  .cond (.t 44) (.seq (.reg [⟨some 4, .mv (.c (.bool false)), none⟩]) <|
    .ret) (.skip)) <|
  .seq (.reg [⟨some 4, .mv (.c (.bool true)), none⟩]) <|
  .ret⟩
abbrev laws_FnExactChartEnds.id : FuncId := 3
theorem laws_FnExactChartEnds.tr : trFun Try.prog 3 = some laws_FnExactChartEnds.g := by kernel_rfl
end Go.Proofs.Ytabbipdkbdojiaa
