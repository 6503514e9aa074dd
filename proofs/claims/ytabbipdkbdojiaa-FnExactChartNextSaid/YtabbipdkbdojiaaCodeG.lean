/- The code of some functions of the program, as the abstract layer has it, each with the equation that says so. No condition. -/
import Derived.Test.YtabbipdkbdojiaaBase
namespace Go.Proofs.Ytabbipdkbdojiaa
open Go Go.Ab
def impl_Cfg_next.g : Fun := ⟨25, [(4, some (3, true)), (5, none)], 
  .seq (.reg [⟨some 2, .box 33 (.t 0), none⟩,
    ⟨some 3, .box 82 (.t 1), none⟩,
    ⟨some 4, .alloc 94 [.int .i64 0, .int .i64 0, .int .i64 0], none⟩,
    ⟨some 5, .mv (.c (.bool false)), none⟩]) <|
  .seq (.reg [⟨some 7, .fadr 1 (.t 2), none⟩,
    ⟨some 8, .load 1 false (.t 7), none⟩,
    ⟨some 9, .fadr 0 (.t 3), none⟩,
    ⟨some 10, .load 1 false (.t 9), none⟩,
    ⟨some 11, .iadr 2 (.t 8) (.t 10), none⟩,
    ⟨some 12, .fadr 1 (.t 11), none⟩,
    ⟨some 13, .load 1 false (.t 12), none⟩,
    ⟨some 6, .mv (.t 13), none⟩]) <|
  .seq (.seq (.reg [⟨some 14, .fadr 1 (.t 3), none⟩,
    ⟨some 15, .load 1 false (.t 14), none⟩,
    ⟨some 16, .mv (.t 6), none⟩,
    ⟨some 17, .len (.t 16) false, none⟩,
    ⟨some 18, .bin .eql (.t 15) (.t 17), none⟩]) <|
  .cond (.t 18) (.seq (.reg [⟨some 19, .build [.int .i64 0, .int .i64 0, .int .i64 0] [], none⟩,
      ⟨none, .store 3 (.t 4) (.t 19), none⟩,
      ⟨some 5, .mv (.c (.bool false)), none⟩]) <|
    .ret) (.skip)) <|
  .seq (.reg [⟨some 20, .mv (.t 6), none⟩,
    ⟨some 21, .fadr 1 (.t 3), none⟩,
    ⟨some 22, .load 1 false (.t 21), none⟩,
    ⟨some 23, .iadr 3 (.t 20) (.t 22), none⟩,
    ⟨some 24, .load 3 true (.t 23), none⟩,
    ⟨none, .store 3 (.t 4) (.t 24), none⟩,
    ⟨some 5, .mv (.c (.bool true)), none⟩]) <|
  .ret⟩
abbrev impl_Cfg_next.id : FuncId := 100
theorem impl_Cfg_next.tr : trFun Try.prog 100 = some impl_Cfg_next.g := by kernel_rfl
def impl_Cfg_chartOk.l0 : IC :=
  .seq (.reg [⟨some 25, .bin .lss (.t 24) (.t 23), none⟩]) <|
  .seq (.cond (.t 25) (.skip) (.exit 2)) <|
  .seq (.block 3 (.seq (.reg [⟨some 26, .mv (.t 24), none⟩,
      ⟨some 27, .iadr 3 (.t 22) (.t 24), none⟩,
      ⟨some 28, .load 3 true (.t 27), none⟩,
      ⟨some 8, .alloc 82 [.int .i64 0, .int .i64 0, .int .i64 0], none⟩,
      ⟨some 7, .mv (.t 26), none⟩,
      ⟨none, .store 3 (.t 8) (.t 28), none⟩]) <|
    .seq (.seq (.dreg (inOrder 29) [⟨some 29, .fadr 0 (.t 8), none⟩,
      ⟨some 30, .load 1 false (.t 29), none⟩,
      ⟨some 31, .fadr 1 (.t 2), none⟩,
      ⟨some 32, .load 1 false (.t 31), none⟩,
      ⟨some 33, .len (.t 32) false, none⟩,
      ⟨some 34, .bin .sub (.t 33) (.c (.int .i64 1)), none⟩,
      ⟨some 35, .call 85 [(.t 30), (.c (.int .i64 0)), (.t 34)], none⟩,
      ⟨some 36, .un .not (.t 35), none⟩,
      ⟨some 37, .mv (.t 36), none⟩,
      ⟨some 38, .fadr 1 (.t 8), some (37, false)⟩,
      ⟨some 39, .load 1 false (.t 38), some (37, false)⟩,
      ⟨some 40, .fadr 1 (.t 2), some (37, false)⟩,
      ⟨some 41, .load 1 false (.t 40), some (37, false)⟩,
      ⟨some 42, .fadr 0 (.t 8), some (37, false)⟩,
      ⟨some 43, .load 1 false (.t 42), some (37, false)⟩,
      ⟨some 44, .iadr 2 (.t 41) (.t 43), some (37, false)⟩,
      ⟨some 45, .fadr 1 (.t 44), some (37, false)⟩,
      ⟨some 46, .load 1 false (.t 45), some (37, false)⟩,
      ⟨some 47, .len (.t 46) false, some (37, false)⟩,
      ⟨some 48, .call 85 [(.t 39), (.c (.int .i64 0)), (.t 47)], some (37, false)⟩,
      ⟨some 49, .un .not (.t 48), some (37, false)⟩,
      ⟨some 50, .pick (.t 37) (.c (.bool true)) (.t 49), none⟩,
      ⟨some 51, .mv (.t 50), none⟩,
      ⟨some 52, .fadr 2 (.t 8), some (51, false)⟩,
      ⟨some 53, .load 1 false (.t 52), some (51, false)⟩,
      ⟨some 54, .mv (.t 5), some (51, false)⟩,
      ⟨some 55, .call 85 [(.t 53), (.c (.int .i64 0)), (.t 54)], some (51, false)⟩,
      ⟨some 56, .un .not (.t 55), some (51, false)⟩,
      ⟨some 57, .pick (.t 51) (.c (.bool true)) (.t 56), none⟩]) <|
    .cond (.t 57) (.seq (.reg [⟨some 4, .mv (.c (.bool false)), none⟩]) <|
      .ret) (.skip)) <|
    .seq (.dreg (inOrder 12) [⟨some 58, .mv (.t 7), none⟩,
      ⟨some 59, .bin .gtr (.t 58) (.c (.int .i64 0)), none⟩,
      ⟨some 60, .mv (.t 59), none⟩,
      ⟨some 61, .mv (.t 6), some (60, true)⟩,
      ⟨some 62, .mv (.t 7), some (60, true)⟩,
      ⟨some 63, .bin .sub (.t 62) (.c (.int .i64 1)), some (60, true)⟩,
      ⟨some 64, .iadr 3 (.t 61) (.t 63), some (60, true)⟩,
      ⟨some 65, .load 3 true (.t 64), some (60, true)⟩,
      ⟨some 66, .load 3 true (.t 8), some (60, true)⟩,
      ⟨some 67, .call 98 [(.t 65), (.t 66)], some (60, true)⟩,
      ⟨some 68, .bin .geq (.t 67) (.c (.int .i64 0)), some (60, true)⟩,
      ⟨some 69, .pick (.t 60) (.t 68) (.c (.bool false)), none⟩]) <|
    .cond (.t 69) (.seq (.reg [⟨some 4, .mv (.c (.bool false)), none⟩]) <|
      .ret) (.skip))) <|
  .reg [⟨some 70, .bin .add (.t 24) (.c (.int .i64 1)), none⟩,
    ⟨some 24, .mv (.t 70), none⟩]
def impl_Cfg_chartOk.l1 : IC :=
  .seq (.reg [⟨some 18, .bin .lss (.t 17) (.t 16), none⟩]) <|
  .seq (.cond (.t 18) (.skip) (.exit 0)) <|
  .seq (.block 1 (.seq (.reg [⟨some 19, .mv (.t 17), none⟩,
      ⟨some 20, .iadr 1 (.t 15) (.t 17), none⟩,
      ⟨some 21, .load 1 false (.t 20), none⟩,
      ⟨some 5, .mv (.t 19), none⟩,
      ⟨some 6, .mv (.t 21), none⟩]) <|
    .seq (.reg [⟨some 22, .mv (.t 6), none⟩,
      ⟨some 23, .len (.t 22) false, none⟩,
      ⟨some 24, .mv (.c (.int .i64 0)), none⟩]) <|
    .block 2 (.loop impl_Cfg_chartOk.l0))) <|
  .reg [⟨some 71, .bin .add (.t 17) (.c (.int .i64 1)), none⟩,
    ⟨some 17, .mv (.t 71), none⟩]
def impl_Cfg_chartOk.g : Fun := ⟨72, [(4, none)], 
  .seq (.reg [⟨some 2, .box 33 (.t 0), none⟩,
    ⟨some 3, .box 37 (.t 1), none⟩,
    ⟨some 4, .mv (.c (.bool false)), none⟩]) <|
  .seq (.seq (.reg [⟨some 9, .fadr 0 (.t 3), none⟩,
    ⟨some 10, .load 1 false (.t 9), none⟩,
    ⟨some 11, .len (.t 10) false, none⟩,
    ⟨some 12, .call 85 [(.t 11), (.c (.int .i64 1)), (.c (.int .i64 81))], none⟩,
    ⟨some 13, .un .not (.t 12), none⟩]) <|
  .cond (.t 13) (.seq (.reg [⟨some 4, .mv (.c (.bool false)), none⟩]) <|
    .ret) (.skip)) <|
  .seq (.seq (.reg [⟨some 14, .fadr 0 (.t 3), none⟩,
    ⟨some 15, .load 1 false (.t 14), none⟩,
    ⟨some 16, .len (.t 15) false, none⟩,
    ⟨some 17, .mv (.c (.int .i64 0)), none⟩]) <|
  .block 0 (.loop impl_Cfg_chartOk.l1)) <|
  .seq (.reg [⟨some 4, .mv (.c (.bool true)), none⟩]) <|
  .ret⟩
abbrev impl_Cfg_chartOk.id : FuncId := 59
theorem impl_Cfg_chartOk.tr : trFun Try.prog 59 = some impl_Cfg_chartOk.g := by kernel_rfl
def impl_itemOrder.g : Fun := ⟨22, [(4, none)], 
  .seq (.reg [⟨some 2, .box 82 (.t 0), none⟩,
    ⟨some 3, .box 82 (.t 1), none⟩,
    ⟨some 4, .mv (.c (.int .i64 0)), none⟩]) <|
  .seq (.dreg (.one 0 (.one 1 (.one 2 (.one 3 (.one 5 (.one 7 (.one 10 (.one 12 (.ld 6 (.ld 8 (.ld 11 (.ld 13 (.one 4 (.one 9 (.one 14 (.one 15 (.one 16 (.one 17 (.done))))))) (.alt (.one 4 (.ld 13 (.one 9 (.one 14 (.one 15 (.one 16 (.one 17 (.done)))))) (.alt (.one 9 (.one 13 (.one 14 (.one 15 (.one 16 (.one 17 (.done))))))) (.one 13 (.one 9 (.one 14 (.one 15 (.one 16 (.one 17 (.done)))))))))) (.one 13 (.one 4 (.one 9 (.one 14 (.one 15 (.one 16 (.one 17 (.done)))))))))) (.alt (.one 4 (.ld 11 (.ld 13 (.one 9 (.one 14 (.one 15 (.one 16 (.one 17 (.done)))))) (.alt (.one 9 (.one 13 (.one 14 (.one 15 (.one 16 (.one 17 (.done))))))) (.one 13 (.one 9 (.one 14 (.one 15 (.one 16 (.one 17 (.done))))))))) (.alt (.one 9 (.one 11 (.one 13 (.one 14 (.one 15 (.one 16 (.one 17 (.done)))))))) (.alt (.one 11 (.ld 13 (.one 9 (.one 14 (.one 15 (.one 16 (.one 17 (.done)))))) (.alt (.one 9 (.one 13 (.one 14 (.one 15 (.one 16 (.one 17 (.done))))))) (.one 13 (.one 9 (.one 14 (.one 15 (.one 16 (.one 17 (.done)))))))))) (.one 13 (.ld 11 (.one 9 (.one 14 (.one 15 (.one 16 (.one 17 (.done)))))) (.alt (.one 9 (.one 11 (.one 14 (.one 15 (.one 16 (.one 17 (.done))))))) (.one 11 (.one 9 (.one 14 (.one 15 (.one 16 (.one 17 (.done)))))))))))))) (.alt (.one 11 (.ld 13 (.one 4 (.one 9 (.one 14 (.one 15 (.one 16 (.one 17 (.done))))))) (.alt (.one 4 (.ld 13 (.one 9 (.one 14 (.one 15 (.one 16 (.one 17 (.done)))))) (.alt (.one 9 (.one 13 (.one 14 (.one 15 (.one 16 (.one 17 (.done))))))) (.one 13 (.one 9 (.one 14 (.one 15 (.one 16 (.one 17 (.done)))))))))) (.one 13 (.one 4 (.one 9 (.one 14 (.one 15 (.one 16 (.one 17 (.done))))))))))) (.one 13 (.ld 11 (.one 4 (.one 9 (.one 14 (.one 15 (.one 16 (.one 17 (.done))))))) (.alt (.one 4 (.ld 11 (.one 9 (.one 14 (.one 15 (.one 16 (.one 17 (.done)))))) (.alt (.one 9 (.one 11 (.one 14 (.one 15 (.one 16 (.one 17 (.done))))))) (.one 11 (.one 9 (.one 14 (.one 15 (.one 16 (.one 17 (.done)))))))))) (.one 11 (.one 4 (.one 9 (.one 14 (.one 15 (.one 16 (.one 17 (.done)))))))))))))) (.alt (.one 4 (.one 8 (.ld 11 (.ld 13 (.one 9 (.one 14 (.one 15 (.one 16 (.one 17 (.done)))))) (.alt (.one 9 (.one 13 (.one 14 (.one 15 (.one 16 (.one 17 (.done))))))) (.one 13 (.one 9 (.one 14 (.one 15 (.one 16 (.one 17 (.done))))))))) (.alt (.one 9 (.one 11 (.one 13 (.one 14 (.one 15 (.one 16 (.one 17 (.done)))))))) (.alt (.one 11 (.ld 13 (.one 9 (.one 14 (.one 15 (.one 16 (.one 17 (.done)))))) (.alt (.one 9 (.one 13 (.one 14 (.one 15 (.one 16 (.one 17 (.done))))))) (.one 13 (.one 9 (.one 14 (.one 15 (.one 16 (.one 17 (.done)))))))))) (.one 13 (.ld 11 (.one 9 (.one 14 (.one 15 (.one 16 (.one 17 (.done)))))) (.alt (.one 9 (.one 11 (.one 14 (.one 15 (.one 16 (.one 17 (.done))))))) (.one 11 (.one 9 (.one 14 (.one 15 (.one 16 (.one 17 (.done))))))))))))))) (.alt (.one 8 (.ld 11 (.ld 13 (.one 4 (.one 9 (.one 14 (.one 15 (.one 16 (.one 17 (.done))))))) (.alt (.one 4 (.ld 13 (.one 9 (.one 14 (.one 15 (.one 16 (.one 17 (.done)))))) (.alt (.one 9 (.one 13 (.one 14 (.one 15 (.one 16 (.one 17 (.done))))))) (.one 13 (.one 9 (.one 14 (.one 15 (.one 16 (.one 17 (.done)))))))))) (.one 13 (.one 4 (.one 9 (.one 14 (.one 15 (.one 16 (.one 17 (.done)))))))))) (.alt (.one 4 (.ld 11 (.ld 13 (.one 9 (.one 14 (.one 15 (.one 16 (.one 17 (.done)))))) (.alt (.one 9 (.one 13 (.one 14 (.one 15 (.one 16 (.one 17 (.done))))))) (.one 13 (.one 9 (.one 14 (.one 15 (.one 16 (.one 17 (.done))))))))) (.alt (.one 9 (.one 11 (.one 13 (.one 14 (.one 15 (.one 16 (.one 17 (.done)))))))) (.alt (.one 11 (.ld 13 (.one 9 (.one 14 (.one 15 (.one 16 (.one 17 (.done)))))) (.alt (.one 9 (.one 13 (.one 14 (.one 15 (.one 16 (.one 17 (.done))))))) (.one 13 (.one 9 (.one 14 (.one 15 (.one 16 (.one 17 (.done)))))))))) (.one 13 (.ld 11 (.one 9 (.one 14 (.one 15 (.one 16 (.one 17 (.done)))))) (.alt (.one 9 (.one 11 (.one 14 (.one 15 (.one 16 (.one 17 (.done))))))) (.one 11 (.one 9 (.one 14 (.one 15 (.one 16 (.one 17 (.done)))))))))))))) (.alt (.one 11 (.ld 13 (.one 4 (.one 9 (.one 14 (.one 15 (.one 16 (.one 17 (.done))))))) (.alt (.one 4 (.ld 13 (.one 9 (.one 14 (.one 15 (.one 16 (.one 17 (.done)))))) (.alt (.one 9 (.one 13 (.one 14 (.one 15 (.one 16 (.one 17 (.done))))))) (.one 13 (.one 9 (.one 14 (.one 15 (.one 16 (.one 17 (.done)))))))))) (.one 13 (.one 4 (.one 9 (.one 14 (.one 15 (.one 16 (.one 17 (.done))))))))))) (.one 13 (.ld 11 (.one 4 (.one 9 (.one 14 (.one 15 (.one 16 (.one 17 (.done))))))) (.alt (.one 4 (.ld 11 (.one 9 (.one 14 (.one 15 (.one 16 (.one 17 (.done)))))) (.alt (.one 9 (.one 11 (.one 14 (.one 15 (.one 16 (.one 17 (.done))))))) (.one 11 (.one 9 (.one 14 (.one 15 (.one 16 (.one 17 (.done)))))))))) (.one 11 (.one 4 (.one 9 (.one 14 (.one 15 (.one 16 (.one 17 (.done))))))))))))))) (.alt (.one 11 (.ld 8 (.ld 13 (.one 4 (.one 9 (.one 14 (.one 15 (.one 16 (.one 17 (.done))))))) (.alt (.one 4 (.ld 13 (.one 9 (.one 14 (.one 15 (.one 16 (.one 17 (.done)))))) (.alt (.one 9 (.one 13 (.one 14 (.one 15 (.one 16 (.one 17 (.done))))))) (.one 13 (.one 9 (.one 14 (.one 15 (.one 16 (.one 17 (.done)))))))))) (.one 13 (.one 4 (.one 9 (.one 14 (.one 15 (.one 16 (.one 17 (.done)))))))))) (.alt (.one 4 (.one 8 (.ld 13 (.one 9 (.one 14 (.one 15 (.one 16 (.one 17 (.done)))))) (.alt (.one 9 (.one 13 (.one 14 (.one 15 (.one 16 (.one 17 (.done))))))) (.one 13 (.one 9 (.one 14 (.one 15 (.one 16 (.one 17 (.done))))))))))) (.alt (.one 8 (.ld 13 (.one 4 (.one 9 (.one 14 (.one 15 (.one 16 (.one 17 (.done))))))) (.alt (.one 4 (.ld 13 (.one 9 (.one 14 (.one 15 (.one 16 (.one 17 (.done)))))) (.alt (.one 9 (.one 13 (.one 14 (.one 15 (.one 16 (.one 17 (.done))))))) (.one 13 (.one 9 (.one 14 (.one 15 (.one 16 (.one 17 (.done)))))))))) (.one 13 (.one 4 (.one 9 (.one 14 (.one 15 (.one 16 (.one 17 (.done))))))))))) (.one 13 (.ld 8 (.one 4 (.one 9 (.one 14 (.one 15 (.one 16 (.one 17 (.done))))))) (.alt (.one 4 (.one 8 (.one 9 (.one 14 (.one 15 (.one 16 (.one 17 (.done)))))))) (.one 8 (.one 4 (.one 9 (.one 14 (.one 15 (.one 16 (.one 17 (.done))))))))))))))) (.one 13 (.ld 8 (.ld 11 (.one 4 (.one 9 (.one 14 (.one 15 (.one 16 (.one 17 (.done))))))) (.alt (.one 4 (.ld 11 (.one 9 (.one 14 (.one 15 (.one 16 (.one 17 (.done)))))) (.alt (.one 9 (.one 11 (.one 14 (.one 15 (.one 16 (.one 17 (.done))))))) (.one 11 (.one 9 (.one 14 (.one 15 (.one 16 (.one 17 (.done)))))))))) (.one 11 (.one 4 (.one 9 (.one 14 (.one 15 (.one 16 (.one 17 (.done)))))))))) (.alt (.one 4 (.one 8 (.ld 11 (.one 9 (.one 14 (.one 15 (.one 16 (.one 17 (.done)))))) (.alt (.one 9 (.one 11 (.one 14 (.one 15 (.one 16 (.one 17 (.done))))))) (.one 11 (.one 9 (.one 14 (.one 15 (.one 16 (.one 17 (.done))))))))))) (.alt (.one 8 (.ld 11 (.one 4 (.one 9 (.one 14 (.one 15 (.one 16 (.one 17 (.done))))))) (.alt (.one 4 (.ld 11 (.one 9 (.one 14 (.one 15 (.one 16 (.one 17 (.done)))))) (.alt (.one 9 (.one 11 (.one 14 (.one 15 (.one 16 (.one 17 (.done))))))) (.one 11 (.one 9 (.one 14 (.one 15 (.one 16 (.one 17 (.done)))))))))) (.one 11 (.one 4 (.one 9 (.one 14 (.one 15 (.one 16 (.one 17 (.done))))))))))) (.one 11 (.ld 8 (.one 4 (.one 9 (.one 14 (.one 15 (.one 16 (.one 17 (.done))))))) (.alt (.one 4 (.one 8 (.one 9 (.one 14 (.one 15 (.one 16 (.one 17 (.done)))))))) (.one 8 (.one 4 (.one 9 (.one 14 (.one 15 (.one 16 (.one 17 (.done))))))))))))))))))) (.alt (.one 4 (.one 6 (.one 8 (.ld 11 (.ld 13 (.one 9 (.one 14 (.one 15 (.one 16 (.one 17 (.done)))))) (.alt (.one 9 (.one 13 (.one 14 (.one 15 (.one 16 (.one 17 (.done))))))) (.one 13 (.one 9 (.one 14 (.one 15 (.one 16 (.one 17 (.done))))))))) (.alt (.one 9 (.one 11 (.one 13 (.one 14 (.one 15 (.one 16 (.one 17 (.done)))))))) (.alt (.one 11 (.ld 13 (.one 9 (.one 14 (.one 15 (.one 16 (.one 17 (.done)))))) (.alt (.one 9 (.one 13 (.one 14 (.one 15 (.one 16 (.one 17 (.done))))))) (.one 13 (.one 9 (.one 14 (.one 15 (.one 16 (.one 17 (.done)))))))))) (.one 13 (.ld 11 (.one 9 (.one 14 (.one 15 (.one 16 (.one 17 (.done)))))) (.alt (.one 9 (.one 11 (.one 14 (.one 15 (.one 16 (.one 17 (.done))))))) (.one 11 (.one 9 (.one 14 (.one 15 (.one 16 (.one 17 (.done)))))))))))))))) (.alt (.one 6 (.ld 8 (.ld 11 (.ld 13 (.one 4 (.one 9 (.one 14 (.one 15 (.one 16 (.one 17 (.done))))))) (.alt (.one 4 (.ld 13 (.one 9 (.one 14 (.one 15 (.one 16 (.one 17 (.done)))))) (.alt (.one 9 (.one 13 (.one 14 (.one 15 (.one 16 (.one 17 (.done))))))) (.one 13 (.one 9 (.one 14 (.one 15 (.one 16 (.one 17 (.done)))))))))) (.one 13 (.one 4 (.one 9 (.one 14 (.one 15 (.one 16 (.one 17 (.done)))))))))) (.alt (.one 4 (.ld 11 (.ld 13 (.one 9 (.one 14 (.one 15 (.one 16 (.one 17 (.done)))))) (.alt (.one 9 (.one 13 (.one 14 (.one 15 (.one 16 (.one 17 (.done))))))) (.one 13 (.one 9 (.one 14 (.one 15 (.one 16 (.one 17 (.done))))))))) (.alt (.one 9 (.one 11 (.one 13 (.one 14 (.one 15 (.one 16 (.one 17 (.done)))))))) (.alt (.one 11 (.ld 13 (.one 9 (.one 14 (.one 15 (.one 16 (.one 17 (.done)))))) (.alt (.one 9 (.one 13 (.one 14 (.one 15 (.one 16 (.one 17 (.done))))))) (.one 13 (.one 9 (.one 14 (.one 15 (.one 16 (.one 17 (.done)))))))))) (.one 13 (.ld 11 (.one 9 (.one 14 (.one 15 (.one 16 (.one 17 (.done)))))) (.alt (.one 9 (.one 11 (.one 14 (.one 15 (.one 16 (.one 17 (.done))))))) (.one 11 (.one 9 (.one 14 (.one 15 (.one 16 (.one 17 (.done)))))))))))))) (.alt (.one 11 (.ld 13 (.one 4 (.one 9 (.one 14 (.one 15 (.one 16 (.one 17 (.done))))))) (.alt (.one 4 (.ld 13 (.one 9 (.one 14 (.one 15 (.one 16 (.one 17 (.done)))))) (.alt (.one 9 (.one 13 (.one 14 (.one 15 (.one 16 (.one 17 (.done))))))) (.one 13 (.one 9 (.one 14 (.one 15 (.one 16 (.one 17 (.done)))))))))) (.one 13 (.one 4 (.one 9 (.one 14 (.one 15 (.one 16 (.one 17 (.done))))))))))) (.one 13 (.ld 11 (.one 4 (.one 9 (.one 14 (.one 15 (.one 16 (.one 17 (.done))))))) (.alt (.one 4 (.ld 11 (.one 9 (.one 14 (.one 15 (.one 16 (.one 17 (.done)))))) (.alt (.one 9 (.one 11 (.one 14 (.one 15 (.one 16 (.one 17 (.done))))))) (.one 11 (.one 9 (.one 14 (.one 15 (.one 16 (.one 17 (.done)))))))))) (.one 11 (.one 4 (.one 9 (.one 14 (.one 15 (.one 16 (.one 17 (.done)))))))))))))) (.alt (.one 4 (.one 8 (.ld 11 (.ld 13 (.one 9 (.one 14 (.one 15 (.one 16 (.one 17 (.done)))))) (.alt (.one 9 (.one 13 (.one 14 (.one 15 (.one 16 (.one 17 (.done))))))) (.one 13 (.one 9 (.one 14 (.one 15 (.one 16 (.one 17 (.done))))))))) (.alt (.one 9 (.one 11 (.one 13 (.one 14 (.one 15 (.one 16 (.one 17 (.done)))))))) (.alt (.one 11 (.ld 13 (.one 9 (.one 14 (.one 15 (.one 16 (.one 17 (.done)))))) (.alt (.one 9 (.one 13 (.one 14 (.one 15 (.one 16 (.one 17 (.done))))))) (.one 13 (.one 9 (.one 14 (.one 15 (.one 16 (.one 17 (.done)))))))))) (.one 13 (.ld 11 (.one 9 (.one 14 (.one 15 (.one 16 (.one 17 (.done)))))) (.alt (.one 9 (.one 11 (.one 14 (.one 15 (.one 16 (.one 17 (.done))))))) (.one 11 (.one 9 (.one 14 (.one 15 (.one 16 (.one 17 (.done))))))))))))))) (.alt (.one 8 (.ld 11 (.ld 13 (.one 4 (.one 9 (.one 14 (.one 15 (.one 16 (.one 17 (.done))))))) (.alt (.one 4 (.ld 13 (.one 9 (.one 14 (.one 15 (.one 16 (.one 17 (.done)))))) (.alt (.one 9 (.one 13 (.one 14 (.one 15 (.one 16 (.one 17 (.done))))))) (.one 13 (.one 9 (.one 14 (.one 15 (.one 16 (.one 17 (.done)))))))))) (.one 13 (.one 4 (.one 9 (.one 14 (.one 15 (.one 16 (.one 17 (.done)))))))))) (.alt (.one 4 (.ld 11 (.ld 13 (.one 9 (.one 14 (.one 15 (.one 16 (.one 17 (.done)))))) (.alt (.one 9 (.one 13 (.one 14 (.one 15 (.one 16 (.one 17 (.done))))))) (.one 13 (.one 9 (.one 14 (.one 15 (.one 16 (.one 17 (.done))))))))) (.alt (.one 9 (.one 11 (.one 13 (.one 14 (.one 15 (.one 16 (.one 17 (.done)))))))) (.alt (.one 11 (.ld 13 (.one 9 (.one 14 (.one 15 (.one 16 (.one 17 (.done)))))) (.alt (.one 9 (.one 13 (.one 14 (.one 15 (.one 16 (.one 17 (.done))))))) (.one 13 (.one 9 (.one 14 (.one 15 (.one 16 (.one 17 (.done)))))))))) (.one 13 (.ld 11 (.one 9 (.one 14 (.one 15 (.one 16 (.one 17 (.done)))))) (.alt (.one 9 (.one 11 (.one 14 (.one 15 (.one 16 (.one 17 (.done))))))) (.one 11 (.one 9 (.one 14 (.one 15 (.one 16 (.one 17 (.done)))))))))))))) (.alt (.one 11 (.ld 13 (.one 4 (.one 9 (.one 14 (.one 15 (.one 16 (.one 17 (.done))))))) (.alt (.one 4 (.ld 13 (.one 9 (.one 14 (.one 15 (.one 16 (.one 17 (.done)))))) (.alt (.one 9 (.one 13 (.one 14 (.one 15 (.one 16 (.one 17 (.done))))))) (.one 13 (.one 9 (.one 14 (.one 15 (.one 16 (.one 17 (.done)))))))))) (.one 13 (.one 4 (.one 9 (.one 14 (.one 15 (.one 16 (.one 17 (.done))))))))))) (.one 13 (.ld 11 (.one 4 (.one 9 (.one 14 (.one 15 (.one 16 (.one 17 (.done))))))) (.alt (.one 4 (.ld 11 (.one 9 (.one 14 (.one 15 (.one 16 (.one 17 (.done)))))) (.alt (.one 9 (.one 11 (.one 14 (.one 15 (.one 16 (.one 17 (.done))))))) (.one 11 (.one 9 (.one 14 (.one 15 (.one 16 (.one 17 (.done)))))))))) (.one 11 (.one 4 (.one 9 (.one 14 (.one 15 (.one 16 (.one 17 (.done))))))))))))))) (.alt (.one 11 (.ld 8 (.ld 13 (.one 4 (.one 9 (.one 14 (.one 15 (.one 16 (.one 17 (.done))))))) (.alt (.one 4 (.ld 13 (.one 9 (.one 14 (.one 15 (.one 16 (.one 17 (.done)))))) (.alt (.one 9 (.one 13 (.one 14 (.one 15 (.one 16 (.one 17 (.done))))))) (.one 13 (.one 9 (.one 14 (.one 15 (.one 16 (.one 17 (.done)))))))))) (.one 13 (.one 4 (.one 9 (.one 14 (.one 15 (.one 16 (.one 17 (.done)))))))))) (.alt (.one 4 (.one 8 (.ld 13 (.one 9 (.one 14 (.one 15 (.one 16 (.one 17 (.done)))))) (.alt (.one 9 (.one 13 (.one 14 (.one 15 (.one 16 (.one 17 (.done))))))) (.one 13 (.one 9 (.one 14 (.one 15 (.one 16 (.one 17 (.done))))))))))) (.alt (.one 8 (.ld 13 (.one 4 (.one 9 (.one 14 (.one 15 (.one 16 (.one 17 (.done))))))) (.alt (.one 4 (.ld 13 (.one 9 (.one 14 (.one 15 (.one 16 (.one 17 (.done)))))) (.alt (.one 9 (.one 13 (.one 14 (.one 15 (.one 16 (.one 17 (.done))))))) (.one 13 (.one 9 (.one 14 (.one 15 (.one 16 (.one 17 (.done)))))))))) (.one 13 (.one 4 (.one 9 (.one 14 (.one 15 (.one 16 (.one 17 (.done))))))))))) (.one 13 (.ld 8 (.one 4 (.one 9 (.one 14 (.one 15 (.one 16 (.one 17 (.done))))))) (.alt (.one 4 (.one 8 (.one 9 (.one 14 (.one 15 (.one 16 (.one 17 (.done)))))))) (.one 8 (.one 4 (.one 9 (.one 14 (.one 15 (.one 16 (.one 17 (.done))))))))))))))) (.one 13 (.ld 8 (.ld 11 (.one 4 (.one 9 (.one 14 (.one 15 (.one 16 (.one 17 (.done))))))) (.alt (.one 4 (.ld 11 (.one 9 (.one 14 (.one 15 (.one 16 (.one 17 (.done)))))) (.alt (.one 9 (.one 11 (.one 14 (.one 15 (.one 16 (.one 17 (.done))))))) (.one 11 (.one 9 (.one 14 (.one 15 (.one 16 (.one 17 (.done)))))))))) (.one 11 (.one 4 (.one 9 (.one 14 (.one 15 (.one 16 (.one 17 (.done)))))))))) (.alt (.one 4 (.one 8 (.ld 11 (.one 9 (.one 14 (.one 15 (.one 16 (.one 17 (.done)))))) (.alt (.one 9 (.one 11 (.one 14 (.one 15 (.one 16 (.one 17 (.done))))))) (.one 11 (.one 9 (.one 14 (.one 15 (.one 16 (.one 17 (.done))))))))))) (.alt (.one 8 (.ld 11 (.one 4 (.one 9 (.one 14 (.one 15 (.one 16 (.one 17 (.done))))))) (.alt (.one 4 (.ld 11 (.one 9 (.one 14 (.one 15 (.one 16 (.one 17 (.done)))))) (.alt (.one 9 (.one 11 (.one 14 (.one 15 (.one 16 (.one 17 (.done))))))) (.one 11 (.one 9 (.one 14 (.one 15 (.one 16 (.one 17 (.done)))))))))) (.one 11 (.one 4 (.one 9 (.one 14 (.one 15 (.one 16 (.one 17 (.done))))))))))) (.one 11 (.ld 8 (.one 4 (.one 9 (.one 14 (.one 15 (.one 16 (.one 17 (.done))))))) (.alt (.one 4 (.one 8 (.one 9 (.one 14 (.one 15 (.one 16 (.one 17 (.done)))))))) (.one 8 (.one 4 (.one 9 (.one 14 (.one 15 (.one 16 (.one 17 (.done)))))))))))))))))))) (.alt (.one 8 (.ld 6 (.ld 11 (.ld 13 (.one 4 (.one 9 (.one 14 (.one 15 (.one 16 (.one 17 (.done))))))) (.alt (.one 4 (.ld 13 (.one 9 (.one 14 (.one 15 (.one 16 (.one 17 (.done)))))) (.alt (.one 9 (.one 13 (.one 14 (.one 15 (.one 16 (.one 17 (.done))))))) (.one 13 (.one 9 (.one 14 (.one 15 (.one 16 (.one 17 (.done)))))))))) (.one 13 (.one 4 (.one 9 (.one 14 (.one 15 (.one 16 (.one 17 (.done)))))))))) (.alt (.one 4 (.ld 11 (.ld 13 (.one 9 (.one 14 (.one 15 (.one 16 (.one 17 (.done)))))) (.alt (.one 9 (.one 13 (.one 14 (.one 15 (.one 16 (.one 17 (.done))))))) (.one 13 (.one 9 (.one 14 (.one 15 (.one 16 (.one 17 (.done))))))))) (.alt (.one 9 (.one 11 (.one 13 (.one 14 (.one 15 (.one 16 (.one 17 (.done)))))))) (.alt (.one 11 (.ld 13 (.one 9 (.one 14 (.one 15 (.one 16 (.one 17 (.done)))))) (.alt (.one 9 (.one 13 (.one 14 (.one 15 (.one 16 (.one 17 (.done))))))) (.one 13 (.one 9 (.one 14 (.one 15 (.one 16 (.one 17 (.done)))))))))) (.one 13 (.ld 11 (.one 9 (.one 14 (.one 15 (.one 16 (.one 17 (.done)))))) (.alt (.one 9 (.one 11 (.one 14 (.one 15 (.one 16 (.one 17 (.done))))))) (.one 11 (.one 9 (.one 14 (.one 15 (.one 16 (.one 17 (.done)))))))))))))) (.alt (.one 11 (.ld 13 (.one 4 (.one 9 (.one 14 (.one 15 (.one 16 (.one 17 (.done))))))) (.alt (.one 4 (.ld 13 (.one 9 (.one 14 (.one 15 (.one 16 (.one 17 (.done)))))) (.alt (.one 9 (.one 13 (.one 14 (.one 15 (.one 16 (.one 17 (.done))))))) (.one 13 (.one 9 (.one 14 (.one 15 (.one 16 (.one 17 (.done)))))))))) (.one 13 (.one 4 (.one 9 (.one 14 (.one 15 (.one 16 (.one 17 (.done))))))))))) (.one 13 (.ld 11 (.one 4 (.one 9 (.one 14 (.one 15 (.one 16 (.one 17 (.done))))))) (.alt (.one 4 (.ld 11 (.one 9 (.one 14 (.one 15 (.one 16 (.one 17 (.done)))))) (.alt (.one 9 (.one 11 (.one 14 (.one 15 (.one 16 (.one 17 (.done))))))) (.one 11 (.one 9 (.one 14 (.one 15 (.one 16 (.one 17 (.done)))))))))) (.one 11 (.one 4 (.one 9 (.one 14 (.one 15 (.one 16 (.one 17 (.done)))))))))))))) (.alt (.one 4 (.one 6 (.ld 11 (.ld 13 (.one 9 (.one 14 (.one 15 (.one 16 (.one 17 (.done)))))) (.alt (.one 9 (.one 13 (.one 14 (.one 15 (.one 16 (.one 17 (.done))))))) (.one 13 (.one 9 (.one 14 (.one 15 (.one 16 (.one 17 (.done))))))))) (.alt (.one 9 (.one 11 (.one 13 (.one 14 (.one 15 (.one 16 (.one 17 (.done)))))))) (.alt (.one 11 (.ld 13 (.one 9 (.one 14 (.one 15 (.one 16 (.one 17 (.done)))))) (.alt (.one 9 (.one 13 (.one 14 (.one 15 (.one 16 (.one 17 (.done))))))) (.one 13 (.one 9 (.one 14 (.one 15 (.one 16 (.one 17 (.done)))))))))) (.one 13 (.ld 11 (.one 9 (.one 14 (.one 15 (.one 16 (.one 17 (.done)))))) (.alt (.one 9 (.one 11 (.one 14 (.one 15 (.one 16 (.one 17 (.done))))))) (.one 11 (.one 9 (.one 14 (.one 15 (.one 16 (.one 17 (.done))))))))))))))) (.alt (.one 6 (.ld 11 (.ld 13 (.one 4 (.one 9 (.one 14 (.one 15 (.one 16 (.one 17 (.done))))))) (.alt (.one 4 (.ld 13 (.one 9 (.one 14 (.one 15 (.one 16 (.one 17 (.done)))))) (.alt (.one 9 (.one 13 (.one 14 (.one 15 (.one 16 (.one 17 (.done))))))) (.one 13 (.one 9 (.one 14 (.one 15 (.one 16 (.one 17 (.done)))))))))) (.one 13 (.one 4 (.one 9 (.one 14 (.one 15 (.one 16 (.one 17 (.done)))))))))) (.alt (.one 4 (.ld 11 (.ld 13 (.one 9 (.one 14 (.one 15 (.one 16 (.one 17 (.done)))))) (.alt (.one 9 (.one 13 (.one 14 (.one 15 (.one 16 (.one 17 (.done))))))) (.one 13 (.one 9 (.one 14 (.one 15 (.one 16 (.one 17 (.done))))))))) (.alt (.one 9 (.one 11 (.one 13 (.one 14 (.one 15 (.one 16 (.one 17 (.done)))))))) (.alt (.one 11 (.ld 13 (.one 9 (.one 14 (.one 15 (.one 16 (.one 17 (.done)))))) (.alt (.one 9 (.one 13 (.one 14 (.one 15 (.one 16 (.one 17 (.done))))))) (.one 13 (.one 9 (.one 14 (.one 15 (.one 16 (.one 17 (.done)))))))))) (.one 13 (.ld 11 (.one 9 (.one 14 (.one 15 (.one 16 (.one 17 (.done)))))) (.alt (.one 9 (.one 11 (.one 14 (.one 15 (.one 16 (.one 17 (.done))))))) (.one 11 (.one 9 (.one 14 (.one 15 (.one 16 (.one 17 (.done)))))))))))))) (.alt (.one 11 (.ld 13 (.one 4 (.one 9 (.one 14 (.one 15 (.one 16 (.one 17 (.done))))))) (.alt (.one 4 (.ld 13 (.one 9 (.one 14 (.one 15 (.one 16 (.one 17 (.done)))))) (.alt (.one 9 (.one 13 (.one 14 (.one 15 (.one 16 (.one 17 (.done))))))) (.one 13 (.one 9 (.one 14 (.one 15 (.one 16 (.one 17 (.done)))))))))) (.one 13 (.one 4 (.one 9 (.one 14 (.one 15 (.one 16 (.one 17 (.done))))))))))) (.one 13 (.ld 11 (.one 4 (.one 9 (.one 14 (.one 15 (.one 16 (.one 17 (.done))))))) (.alt (.one 4 (.ld 11 (.one 9 (.one 14 (.one 15 (.one 16 (.one 17 (.done)))))) (.alt (.one 9 (.one 11 (.one 14 (.one 15 (.one 16 (.one 17 (.done))))))) (.one 11 (.one 9 (.one 14 (.one 15 (.one 16 (.one 17 (.done)))))))))) (.one 11 (.one 4 (.one 9 (.one 14 (.one 15 (.one 16 (.one 17 (.done))))))))))))))) (.alt (.one 11 (.ld 6 (.ld 13 (.one 4 (.one 9 (.one 14 (.one 15 (.one 16 (.one 17 (.done))))))) (.alt (.one 4 (.ld 13 (.one 9 (.one 14 (.one 15 (.one 16 (.one 17 (.done)))))) (.alt (.one 9 (.one 13 (.one 14 (.one 15 (.one 16 (.one 17 (.done))))))) (.one 13 (.one 9 (.one 14 (.one 15 (.one 16 (.one 17 (.done)))))))))) (.one 13 (.one 4 (.one 9 (.one 14 (.one 15 (.one 16 (.one 17 (.done)))))))))) (.alt (.one 4 (.one 6 (.ld 13 (.one 9 (.one 14 (.one 15 (.one 16 (.one 17 (.done)))))) (.alt (.one 9 (.one 13 (.one 14 (.one 15 (.one 16 (.one 17 (.done))))))) (.one 13 (.one 9 (.one 14 (.one 15 (.one 16 (.one 17 (.done))))))))))) (.alt (.one 6 (.ld 13 (.one 4 (.one 9 (.one 14 (.one 15 (.one 16 (.one 17 (.done))))))) (.alt (.one 4 (.ld 13 (.one 9 (.one 14 (.one 15 (.one 16 (.one 17 (.done)))))) (.alt (.one 9 (.one 13 (.one 14 (.one 15 (.one 16 (.one 17 (.done))))))) (.one 13 (.one 9 (.one 14 (.one 15 (.one 16 (.one 17 (.done)))))))))) (.one 13 (.one 4 (.one 9 (.one 14 (.one 15 (.one 16 (.one 17 (.done))))))))))) (.one 13 (.ld 6 (.one 4 (.one 9 (.one 14 (.one 15 (.one 16 (.one 17 (.done))))))) (.alt (.one 4 (.one 6 (.one 9 (.one 14 (.one 15 (.one 16 (.one 17 (.done)))))))) (.one 6 (.one 4 (.one 9 (.one 14 (.one 15 (.one 16 (.one 17 (.done))))))))))))))) (.one 13 (.ld 6 (.ld 11 (.one 4 (.one 9 (.one 14 (.one 15 (.one 16 (.one 17 (.done))))))) (.alt (.one 4 (.ld 11 (.one 9 (.one 14 (.one 15 (.one 16 (.one 17 (.done)))))) (.alt (.one 9 (.one 11 (.one 14 (.one 15 (.one 16 (.one 17 (.done))))))) (.one 11 (.one 9 (.one 14 (.one 15 (.one 16 (.one 17 (.done)))))))))) (.one 11 (.one 4 (.one 9 (.one 14 (.one 15 (.one 16 (.one 17 (.done)))))))))) (.alt (.one 4 (.one 6 (.ld 11 (.one 9 (.one 14 (.one 15 (.one 16 (.one 17 (.done)))))) (.alt (.one 9 (.one 11 (.one 14 (.one 15 (.one 16 (.one 17 (.done))))))) (.one 11 (.one 9 (.one 14 (.one 15 (.one 16 (.one 17 (.done))))))))))) (.alt (.one 6 (.ld 11 (.one 4 (.one 9 (.one 14 (.one 15 (.one 16 (.one 17 (.done))))))) (.alt (.one 4 (.ld 11 (.one 9 (.one 14 (.one 15 (.one 16 (.one 17 (.done)))))) (.alt (.one 9 (.one 11 (.one 14 (.one 15 (.one 16 (.one 17 (.done))))))) (.one 11 (.one 9 (.one 14 (.one 15 (.one 16 (.one 17 (.done)))))))))) (.one 11 (.one 4 (.one 9 (.one 14 (.one 15 (.one 16 (.one 17 (.done))))))))))) (.one 11 (.ld 6 (.one 4 (.one 9 (.one 14 (.one 15 (.one 16 (.one 17 (.done))))))) (.alt (.one 4 (.one 6 (.one 9 (.one 14 (.one 15 (.one 16 (.one 17 (.done)))))))) (.one 6 (.one 4 (.one 9 (.one 14 (.one 15 (.one 16 (.one 17 (.done)))))))))))))))))))) (.alt (.one 11 (.ld 6 (.ld 8 (.ld 13 (.one 4 (.one 9 (.one 14 (.one 15 (.one 16 (.one 17 (.done))))))) (.alt (.one 4 (.ld 13 (.one 9 (.one 14 (.one 15 (.one 16 (.one 17 (.done)))))) (.alt (.one 9 (.one 13 (.one 14 (.one 15 (.one 16 (.one 17 (.done))))))) (.one 13 (.one 9 (.one 14 (.one 15 (.one 16 (.one 17 (.done)))))))))) (.one 13 (.one 4 (.one 9 (.one 14 (.one 15 (.one 16 (.one 17 (.done)))))))))) (.alt (.one 4 (.one 8 (.ld 13 (.one 9 (.one 14 (.one 15 (.one 16 (.one 17 (.done)))))) (.alt (.one 9 (.one 13 (.one 14 (.one 15 (.one 16 (.one 17 (.done))))))) (.one 13 (.one 9 (.one 14 (.one 15 (.one 16 (.one 17 (.done))))))))))) (.alt (.one 8 (.ld 13 (.one 4 (.one 9 (.one 14 (.one 15 (.one 16 (.one 17 (.done))))))) (.alt (.one 4 (.ld 13 (.one 9 (.one 14 (.one 15 (.one 16 (.one 17 (.done)))))) (.alt (.one 9 (.one 13 (.one 14 (.one 15 (.one 16 (.one 17 (.done))))))) (.one 13 (.one 9 (.one 14 (.one 15 (.one 16 (.one 17 (.done)))))))))) (.one 13 (.one 4 (.one 9 (.one 14 (.one 15 (.one 16 (.one 17 (.done))))))))))) (.one 13 (.ld 8 (.one 4 (.one 9 (.one 14 (.one 15 (.one 16 (.one 17 (.done))))))) (.alt (.one 4 (.one 8 (.one 9 (.one 14 (.one 15 (.one 16 (.one 17 (.done)))))))) (.one 8 (.one 4 (.one 9 (.one 14 (.one 15 (.one 16 (.one 17 (.done)))))))))))))) (.alt (.one 4 (.one 6 (.one 8 (.ld 13 (.one 9 (.one 14 (.one 15 (.one 16 (.one 17 (.done)))))) (.alt (.one 9 (.one 13 (.one 14 (.one 15 (.one 16 (.one 17 (.done))))))) (.one 13 (.one 9 (.one 14 (.one 15 (.one 16 (.one 17 (.done)))))))))))) (.alt (.one 6 (.ld 8 (.ld 13 (.one 4 (.one 9 (.one 14 (.one 15 (.one 16 (.one 17 (.done))))))) (.alt (.one 4 (.ld 13 (.one 9 (.one 14 (.one 15 (.one 16 (.one 17 (.done)))))) (.alt (.one 9 (.one 13 (.one 14 (.one 15 (.one 16 (.one 17 (.done))))))) (.one 13 (.one 9 (.one 14 (.one 15 (.one 16 (.one 17 (.done)))))))))) (.one 13 (.one 4 (.one 9 (.one 14 (.one 15 (.one 16 (.one 17 (.done)))))))))) (.alt (.one 4 (.one 8 (.ld 13 (.one 9 (.one 14 (.one 15 (.one 16 (.one 17 (.done)))))) (.alt (.one 9 (.one 13 (.one 14 (.one 15 (.one 16 (.one 17 (.done))))))) (.one 13 (.one 9 (.one 14 (.one 15 (.one 16 (.one 17 (.done))))))))))) (.alt (.one 8 (.ld 13 (.one 4 (.one 9 (.one 14 (.one 15 (.one 16 (.one 17 (.done))))))) (.alt (.one 4 (.ld 13 (.one 9 (.one 14 (.one 15 (.one 16 (.one 17 (.done)))))) (.alt (.one 9 (.one 13 (.one 14 (.one 15 (.one 16 (.one 17 (.done))))))) (.one 13 (.one 9 (.one 14 (.one 15 (.one 16 (.one 17 (.done)))))))))) (.one 13 (.one 4 (.one 9 (.one 14 (.one 15 (.one 16 (.one 17 (.done))))))))))) (.one 13 (.ld 8 (.one 4 (.one 9 (.one 14 (.one 15 (.one 16 (.one 17 (.done))))))) (.alt (.one 4 (.one 8 (.one 9 (.one 14 (.one 15 (.one 16 (.one 17 (.done)))))))) (.one 8 (.one 4 (.one 9 (.one 14 (.one 15 (.one 16 (.one 17 (.done))))))))))))))) (.alt (.one 8 (.ld 6 (.ld 13 (.one 4 (.one 9 (.one 14 (.one 15 (.one 16 (.one 17 (.done))))))) (.alt (.one 4 (.ld 13 (.one 9 (.one 14 (.one 15 (.one 16 (.one 17 (.done)))))) (.alt (.one 9 (.one 13 (.one 14 (.one 15 (.one 16 (.one 17 (.done))))))) (.one 13 (.one 9 (.one 14 (.one 15 (.one 16 (.one 17 (.done)))))))))) (.one 13 (.one 4 (.one 9 (.one 14 (.one 15 (.one 16 (.one 17 (.done)))))))))) (.alt (.one 4 (.one 6 (.ld 13 (.one 9 (.one 14 (.one 15 (.one 16 (.one 17 (.done)))))) (.alt (.one 9 (.one 13 (.one 14 (.one 15 (.one 16 (.one 17 (.done))))))) (.one 13 (.one 9 (.one 14 (.one 15 (.one 16 (.one 17 (.done))))))))))) (.alt (.one 6 (.ld 13 (.one 4 (.one 9 (.one 14 (.one 15 (.one 16 (.one 17 (.done))))))) (.alt (.one 4 (.ld 13 (.one 9 (.one 14 (.one 15 (.one 16 (.one 17 (.done)))))) (.alt (.one 9 (.one 13 (.one 14 (.one 15 (.one 16 (.one 17 (.done))))))) (.one 13 (.one 9 (.one 14 (.one 15 (.one 16 (.one 17 (.done)))))))))) (.one 13 (.one 4 (.one 9 (.one 14 (.one 15 (.one 16 (.one 17 (.done))))))))))) (.one 13 (.ld 6 (.one 4 (.one 9 (.one 14 (.one 15 (.one 16 (.one 17 (.done))))))) (.alt (.one 4 (.one 6 (.one 9 (.one 14 (.one 15 (.one 16 (.one 17 (.done)))))))) (.one 6 (.one 4 (.one 9 (.one 14 (.one 15 (.one 16 (.one 17 (.done))))))))))))))) (.one 13 (.ld 6 (.ld 8 (.one 4 (.one 9 (.one 14 (.one 15 (.one 16 (.one 17 (.done))))))) (.alt (.one 4 (.one 8 (.one 9 (.one 14 (.one 15 (.one 16 (.one 17 (.done)))))))) (.one 8 (.one 4 (.one 9 (.one 14 (.one 15 (.one 16 (.one 17 (.done)))))))))) (.alt (.one 4 (.one 6 (.one 8 (.one 9 (.one 14 (.one 15 (.one 16 (.one 17 (.done))))))))) (.alt (.one 6 (.ld 8 (.one 4 (.one 9 (.one 14 (.one 15 (.one 16 (.one 17 (.done))))))) (.alt (.one 4 (.one 8 (.one 9 (.one 14 (.one 15 (.one 16 (.one 17 (.done)))))))) (.one 8 (.one 4 (.one 9 (.one 14 (.one 15 (.one 16 (.one 17 (.done))))))))))) (.one 8 (.ld 6 (.one 4 (.one 9 (.one 14 (.one 15 (.one 16 (.one 17 (.done))))))) (.alt (.one 4 (.one 6 (.one 9 (.one 14 (.one 15 (.one 16 (.one 17 (.done)))))))) (.one 6 (.one 4 (.one 9 (.one 14 (.one 15 (.one 16 (.one 17 (.done)))))))))))))))))))) (.one 13 (.ld 6 (.ld 8 (.ld 11 (.one 4 (.one 9 (.one 14 (.one 15 (.one 16 (.one 17 (.done))))))) (.alt (.one 4 (.ld 11 (.one 9 (.one 14 (.one 15 (.one 16 (.one 17 (.done)))))) (.alt (.one 9 (.one 11 (.one 14 (.one 15 (.one 16 (.one 17 (.done))))))) (.one 11 (.one 9 (.one 14 (.one 15 (.one 16 (.one 17 (.done)))))))))) (.one 11 (.one 4 (.one 9 (.one 14 (.one 15 (.one 16 (.one 17 (.done)))))))))) (.alt (.one 4 (.one 8 (.ld 11 (.one 9 (.one 14 (.one 15 (.one 16 (.one 17 (.done)))))) (.alt (.one 9 (.one 11 (.one 14 (.one 15 (.one 16 (.one 17 (.done))))))) (.one 11 (.one 9 (.one 14 (.one 15 (.one 16 (.one 17 (.done))))))))))) (.alt (.one 8 (.ld 11 (.one 4 (.one 9 (.one 14 (.one 15 (.one 16 (.one 17 (.done))))))) (.alt (.one 4 (.ld 11 (.one 9 (.one 14 (.one 15 (.one 16 (.one 17 (.done)))))) (.alt (.one 9 (.one 11 (.one 14 (.one 15 (.one 16 (.one 17 (.done))))))) (.one 11 (.one 9 (.one 14 (.one 15 (.one 16 (.one 17 (.done)))))))))) (.one 11 (.one 4 (.one 9 (.one 14 (.one 15 (.one 16 (.one 17 (.done))))))))))) (.one 11 (.ld 8 (.one 4 (.one 9 (.one 14 (.one 15 (.one 16 (.one 17 (.done))))))) (.alt (.one 4 (.one 8 (.one 9 (.one 14 (.one 15 (.one 16 (.one 17 (.done)))))))) (.one 8 (.one 4 (.one 9 (.one 14 (.one 15 (.one 16 (.one 17 (.done)))))))))))))) (.alt (.one 4 (.one 6 (.one 8 (.ld 11 (.one 9 (.one 14 (.one 15 (.one 16 (.one 17 (.done)))))) (.alt (.one 9 (.one 11 (.one 14 (.one 15 (.one 16 (.one 17 (.done))))))) (.one 11 (.one 9 (.one 14 (.one 15 (.one 16 (.one 17 (.done)))))))))))) (.alt (.one 6 (.ld 8 (.ld 11 (.one 4 (.one 9 (.one 14 (.one 15 (.one 16 (.one 17 (.done))))))) (.alt (.one 4 (.ld 11 (.one 9 (.one 14 (.one 15 (.one 16 (.one 17 (.done)))))) (.alt (.one 9 (.one 11 (.one 14 (.one 15 (.one 16 (.one 17 (.done))))))) (.one 11 (.one 9 (.one 14 (.one 15 (.one 16 (.one 17 (.done)))))))))) (.one 11 (.one 4 (.one 9 (.one 14 (.one 15 (.one 16 (.one 17 (.done)))))))))) (.alt (.one 4 (.one 8 (.ld 11 (.one 9 (.one 14 (.one 15 (.one 16 (.one 17 (.done)))))) (.alt (.one 9 (.one 11 (.one 14 (.one 15 (.one 16 (.one 17 (.done))))))) (.one 11 (.one 9 (.one 14 (.one 15 (.one 16 (.one 17 (.done))))))))))) (.alt (.one 8 (.ld 11 (.one 4 (.one 9 (.one 14 (.one 15 (.one 16 (.one 17 (.done))))))) (.alt (.one 4 (.ld 11 (.one 9 (.one 14 (.one 15 (.one 16 (.one 17 (.done)))))) (.alt (.one 9 (.one 11 (.one 14 (.one 15 (.one 16 (.one 17 (.done))))))) (.one 11 (.one 9 (.one 14 (.one 15 (.one 16 (.one 17 (.done)))))))))) (.one 11 (.one 4 (.one 9 (.one 14 (.one 15 (.one 16 (.one 17 (.done))))))))))) (.one 11 (.ld 8 (.one 4 (.one 9 (.one 14 (.one 15 (.one 16 (.one 17 (.done))))))) (.alt (.one 4 (.one 8 (.one 9 (.one 14 (.one 15 (.one 16 (.one 17 (.done)))))))) (.one 8 (.one 4 (.one 9 (.one 14 (.one 15 (.one 16 (.one 17 (.done))))))))))))))) (.alt (.one 8 (.ld 6 (.ld 11 (.one 4 (.one 9 (.one 14 (.one 15 (.one 16 (.one 17 (.done))))))) (.alt (.one 4 (.ld 11 (.one 9 (.one 14 (.one 15 (.one 16 (.one 17 (.done)))))) (.alt (.one 9 (.one 11 (.one 14 (.one 15 (.one 16 (.one 17 (.done))))))) (.one 11 (.one 9 (.one 14 (.one 15 (.one 16 (.one 17 (.done)))))))))) (.one 11 (.one 4 (.one 9 (.one 14 (.one 15 (.one 16 (.one 17 (.done)))))))))) (.alt (.one 4 (.one 6 (.ld 11 (.one 9 (.one 14 (.one 15 (.one 16 (.one 17 (.done)))))) (.alt (.one 9 (.one 11 (.one 14 (.one 15 (.one 16 (.one 17 (.done))))))) (.one 11 (.one 9 (.one 14 (.one 15 (.one 16 (.one 17 (.done))))))))))) (.alt (.one 6 (.ld 11 (.one 4 (.one 9 (.one 14 (.one 15 (.one 16 (.one 17 (.done))))))) (.alt (.one 4 (.ld 11 (.one 9 (.one 14 (.one 15 (.one 16 (.one 17 (.done)))))) (.alt (.one 9 (.one 11 (.one 14 (.one 15 (.one 16 (.one 17 (.done))))))) (.one 11 (.one 9 (.one 14 (.one 15 (.one 16 (.one 17 (.done)))))))))) (.one 11 (.one 4 (.one 9 (.one 14 (.one 15 (.one 16 (.one 17 (.done))))))))))) (.one 11 (.ld 6 (.one 4 (.one 9 (.one 14 (.one 15 (.one 16 (.one 17 (.done))))))) (.alt (.one 4 (.one 6 (.one 9 (.one 14 (.one 15 (.one 16 (.one 17 (.done)))))))) (.one 6 (.one 4 (.one 9 (.one 14 (.one 15 (.one 16 (.one 17 (.done))))))))))))))) (.one 11 (.ld 6 (.ld 8 (.one 4 (.one 9 (.one 14 (.one 15 (.one 16 (.one 17 (.done))))))) (.alt (.one 4 (.one 8 (.one 9 (.one 14 (.one 15 (.one 16 (.one 17 (.done)))))))) (.one 8 (.one 4 (.one 9 (.one 14 (.one 15 (.one 16 (.one 17 (.done)))))))))) (.alt (.one 4 (.one 6 (.one 8 (.one 9 (.one 14 (.one 15 (.one 16 (.one 17 (.done))))))))) (.alt (.one 6 (.ld 8 (.one 4 (.one 9 (.one 14 (.one 15 (.one 16 (.one 17 (.done))))))) (.alt (.one 4 (.one 8 (.one 9 (.one 14 (.one 15 (.one 16 (.one 17 (.done)))))))) (.one 8 (.one 4 (.one 9 (.one 14 (.one 15 (.one 16 (.one 17 (.done))))))))))) (.one 8 (.ld 6 (.one 4 (.one 9 (.one 14 (.one 15 (.one 16 (.one 17 (.done))))))) (.alt (.one 4 (.one 6 (.one 9 (.one 14 (.one 15 (.one 16 (.one 17 (.done)))))))) (.one 6 (.one 4 (.one 9 (.one 14 (.one 15 (.one 16 (.one 17 (.done))))))))))))))))))))))))))))))))) [⟨some 5, .fadr 0 (.t 2), none⟩,
    ⟨some 6, .load 1 false (.t 5), none⟩,
    ⟨some 7, .fadr 0 (.t 3), none⟩,
    ⟨some 8, .load 1 false (.t 7), none⟩,
    ⟨some 9, .call 117 [(.t 6), (.t 8)], none⟩,
    ⟨some 10, .fadr 1 (.t 2), none⟩,
    ⟨some 11, .load 1 false (.t 10), none⟩,
    ⟨some 12, .fadr 1 (.t 3), none⟩,
    ⟨some 13, .load 1 false (.t 12), none⟩,
    ⟨some 14, .call 117 [(.t 11), (.t 13)], none⟩,
    ⟨some 15, .fadr 2 (.t 2), none⟩,
    ⟨some 16, .load 1 false (.t 15), none⟩,
    ⟨some 17, .fadr 2 (.t 3), none⟩,
    ⟨some 18, .load 1 false (.t 17), none⟩,
    ⟨some 19, .call 117 [(.t 16), (.t 18)], none⟩,
    ⟨some 20, .bslice 3 3 1 [.int .i64 0] [(0, (.t 9)), (1, (.t 14)), (2, (.t 19))], none⟩,
    ⟨some 21, .call 116 [(.t 20)], none⟩,
    ⟨some 4, .mv (.t 21), none⟩]) <|
  .ret⟩
abbrev impl_itemOrder.id : FuncId := 98
theorem impl_itemOrder.tr : trFun Try.prog 98 = some impl_itemOrder.g := by kernel_rfl
def cmp_Or_int.l0 : IC :=
  .seq (.reg [⟨some 9, .bin .lss (.t 8) (.t 7), none⟩]) <|
  .seq (.cond (.t 9) (.skip) (.exit 0)) <|
  .seq (.block 1 (.seq (.reg [⟨some 10, .iadr 1 (.t 6) (.t 8), none⟩,
      ⟨some 11, .load 1 false (.t 10), none⟩,
      ⟨some 5, .mv (.t 11), none⟩]) <|
    .seq (.reg [⟨some 12, .mv (.t 5), none⟩,
      ⟨some 13, .mv (.t 3), none⟩,
      ⟨some 14, .bin .neq (.t 12) (.t 13), none⟩]) <|
    .cond (.t 14) (.seq (.reg [⟨some 15, .mv (.t 5), none⟩,
        ⟨some 2, .mv (.t 15), none⟩]) <|
      .ret) (.skip))) <|
  .reg [⟨some 16, .bin .add (.t 8) (.c (.int .i64 1)), none⟩,
    ⟨some 8, .mv (.t 16), none⟩]
def cmp_Or_int.g : Fun := ⟨18, [(2, none)], 
  .seq (.reg [⟨some 2, .mv (.c (.int .i64 0)), none⟩]) <|
  .seq (.reg [⟨some 3, .mv (.c (.int .i64 0)), none⟩]) <|
  .seq (.seq (.reg [⟨some 6, .mv (.t 0), none⟩,
    ⟨some 7, .len (.t 6) false, none⟩,
    ⟨some 8, .mv (.c (.int .i64 0)), none⟩]) <|
  .block 0 (.loop cmp_Or_int.l0)) <|
  .seq (.reg [⟨some 17, .mv (.t 3), none⟩,
    ⟨some 2, .mv (.t 17), none⟩]) <|
  .ret⟩
abbrev cmp_Or_int.id : FuncId := 116
theorem cmp_Or_int.tr : trFun Try.prog 116 = some cmp_Or_int.g := by kernel_rfl
def cmp_Compare_int.g : Fun := ⟨20, [(4, none)], 
  .seq (.reg [⟨some 4, .mv (.c (.int .i64 0)), none⟩]) <|
  .seq (.reg [⟨some 7, .mv (.t 0), none⟩,
    ⟨some 8, .call 124 [(.t 7)], none⟩,
    ⟨some 5, .mv (.t 8), none⟩]) <|
  .seq (.reg [⟨some 9, .mv (.t 1), none⟩,
    ⟨some 10, .call 124 [(.t 9)], none⟩,
    ⟨some 6, .mv (.t 10), none⟩]) <|
  .seq (.seq (.reg [⟨some 11, .mv (.t 5), none⟩]) <|
  .cond (.t 11) (.seq (.seq (.reg [⟨some 12, .mv (.t 6), none⟩]) <|
    .cond (.t 12) (.seq (.reg [⟨some 4, .mv (.c (.int .i64 0)), none⟩]) <|
      .ret) (.skip)) <|
    .seq (.reg [⟨some 4, .mv (.c (.int .i64 (-1))), none⟩]) <|
    .ret) (.skip)) <|
  .seq (.seq (.reg [⟨some 13, .mv (.t 6), none⟩]) <|
  .cond (.t 13) (.seq (.reg [⟨some 4, .mv (.c (.int .i64 1)), none⟩]) <|
    .ret) (.skip)) <|
  .seq (.seq (.reg [⟨some 14, .mv (.t 0), none⟩,
    ⟨some 15, .mv (.t 1), none⟩,
    ⟨some 16, .bin .lss (.t 14) (.t 15), none⟩]) <|
  .cond (.t 16) (.seq (.reg [⟨some 4, .mv (.c (.int .i64 (-1))), none⟩]) <|
    .ret) (.skip)) <|
  .seq (.seq (.reg [⟨some 17, .mv (.t 0), none⟩,
    ⟨some 18, .mv (.t 1), none⟩,
    ⟨some 19, .bin .gtr (.t 17) (.t 18), none⟩]) <|
  .cond (.t 19) (.seq (.reg [⟨some 4, .mv (.c (.int .i64 1)), none⟩]) <|
    .ret) (.skip)) <|
  .seq (.reg [⟨some 4, .mv (.c (.int .i64 0)), none⟩]) <|
  .ret⟩
abbrev cmp_Compare_int.id : FuncId := 117
theorem cmp_Compare_int.tr : trFun Try.prog 117 = some cmp_Compare_int.g := by kernel_rfl
def cmp_isNaN_int.g : Fun := ⟨6, [(2, none)], 
  .seq (.reg [⟨some 2, .mv (.c (.bool false)), none⟩]) <|
  .seq (.reg [⟨some 3, .mv (.t 0), none⟩,
    ⟨some 4, .mv (.t 0), none⟩,
    ⟨some 5, .bin .neq (.t 3) (.t 4), none⟩,
    ⟨some 2, .mv (.t 5), none⟩]) <|
  .ret⟩
abbrev cmp_isNaN_int.id : FuncId := 124
theorem cmp_isNaN_int.tr : trFun Try.prog 124 = some cmp_isNaN_int.g := by kernel_rfl
def impl_lastSet.g : Fun := ⟨11, [(2, none)], 
  .seq (.reg [⟨some 1, .box 37 (.t 0), none⟩,
    ⟨some 2, .mv (.c (.slice none 0 0)), none⟩]) <|
  .seq (.reg [⟨some 3, .fadr 0 (.t 1), none⟩,
    ⟨some 4, .load 1 false (.t 3), none⟩,
    ⟨some 5, .fadr 0 (.t 1), none⟩,
    ⟨some 6, .load 1 false (.t 5), none⟩,
    ⟨some 7, .len (.t 6) false, none⟩,
    ⟨some 8, .bin .sub (.t 7) (.c (.int .i64 1)), none⟩,
    ⟨some 9, .iadr 1 (.t 4) (.t 8), none⟩,
    ⟨some 10, .load 1 false (.t 9), none⟩,
    ⟨some 2, .mv (.t 10), none⟩]) <|
  .ret⟩
abbrev impl_lastSet.id : FuncId := 99
theorem impl_lastSet.tr : trFun Try.prog 99 = some impl_lastSet.g := by kernel_rfl
def impl_Cfg_ends.l0 : IC :=
  .seq (.reg [⟨some 13, .bin .lss (.t 12) (.t 11), none⟩]) <|
  .seq (.cond (.t 13) (.skip) (.exit 0)) <|
  .seq (.block 1 (.seq (.reg [⟨some 14, .iadr 3 (.t 10) (.t 12), none⟩,
      ⟨some 15, .load 3 true (.t 14), none⟩,
      ⟨some 6, .alloc 82 [.int .i64 0, .int .i64 0, .int .i64 0], none⟩,
      ⟨none, .store 3 (.t 6) (.t 15), none⟩]) <|
    .seq (.reg [⟨some 17, .load 2 true (.t 2), none⟩,
      ⟨some 18, .load 3 true (.t 6), none⟩,
      ⟨some 19, .call 100 [(.t 17), (.t 18)], none⟩,
      ⟨some 16, .mv (.t 19), none⟩,
      ⟨some 20, .ext 0 (.t 16), none⟩,
      ⟨some 21, .ext 1 (.t 16), none⟩,
      ⟨some 7, .alloc 94 [.int .i64 0, .int .i64 0, .int .i64 0], none⟩,
      ⟨none, .store 3 (.t 7) (.t 20), none⟩,
      ⟨some 8, .mv (.t 21), none⟩]) <|
    .seq (.reg [⟨some 22, .mv (.t 8), none⟩,
      ⟨some 23, .un .not (.t 22), none⟩,
      ⟨some 24, .mv (.t 23), none⟩,
      ⟨some 25, .fadr 1 (.t 2), some (24, true)⟩,
      ⟨some 26, .load 1 false (.t 25), some (24, true)⟩,
      ⟨some 27, .fadr 0 (.t 6), some (24, true)⟩,
      ⟨some 28, .load 1 false (.t 27), some (24, true)⟩,
      ⟨some 29, .iadr 2 (.t 26) (.t 28), some (24, true)⟩,
      ⟨some 30, .fadr 0 (.t 29), some (24, true)⟩,
      ⟨some 31, .load 1 false (.t 30), some (24, true)⟩,
      ⟨some 32, .bin .eql (.t 31) (.c (.int .i64 0)), some (24, true)⟩,
      ⟨some 33, .pick (.t 24) (.t 32) (.c (.bool false)), none⟩,
      ⟨some 34, .mv (.t 33), none⟩,
      ⟨some 35, .fadr 2 (.t 6), some (34, true)⟩,
      ⟨some 36, .load 1 false (.t 35), some (34, true)⟩,
      ⟨some 37, .bin .eql (.t 36) (.c (.int .i64 0)), some (34, true)⟩,
      ⟨some 38, .pick (.t 34) (.t 37) (.c (.bool false)), none⟩]) <|
    .cond (.t 38) (.seq (.reg [⟨some 4, .mv (.c (.bool true)), none⟩]) <|
      .ret) (.skip))) <|
  .reg [⟨some 39, .bin .add (.t 12) (.c (.int .i64 1)), none⟩,
    ⟨some 12, .mv (.t 39), none⟩]
def impl_Cfg_ends.g : Fun := ⟨40, [(4, none)], 
  .seq (.reg [⟨some 2, .box 33 (.t 0), none⟩,
    ⟨some 3, .box 37 (.t 1), none⟩,
    ⟨some 4, .mv (.c (.bool false)), none⟩]) <|
  .seq (.seq (.reg [⟨some 9, .load 1 true (.t 3), none⟩,
    ⟨some 10, .call 99 [(.t 9)], none⟩,
    ⟨some 11, .len (.t 10) false, none⟩,
    ⟨some 12, .mv (.c (.int .i64 0)), none⟩]) <|
  .block 0 (.loop impl_Cfg_ends.l0)) <|
  .seq (.reg [⟨some 4, .mv (.c (.bool false)), none⟩]) <|
  .ret⟩
abbrev impl_Cfg_ends.id : FuncId := 60
theorem impl_Cfg_ends.tr : trFun Try.prog 60 = some impl_Cfg_ends.g := by kernel_rfl
def impl_ChartEnds.g : Fun := ⟨19, [(4, none)], 
  .seq (.reg [⟨some 2, .box 33 (.t 0), none⟩,
    ⟨some 3, .box 37 (.t 1), none⟩,
    ⟨some 4, .mv (.c (.bool false)), none⟩]) <|
  .seq (.seq (.reg [⟨some 6, .load 2 true (.t 2), none⟩,
    ⟨some 7, .call 57 [(.t 6)], none⟩,
    ⟨some 8, .un .not (.t 7), none⟩]) <|
  .cond (.t 8) (.seq (.reg [⟨some 4, .mv (.c (.bool false)), none⟩]) <|
    .ret) (.skip)) <|
  .seq (.reg [⟨some 9, .load 2 true (.t 2), none⟩,
    ⟨some 10, .call 58 [(.t 9)], none⟩,
    ⟨some 5, .alloc 33 [.int .i64 0, .slice none 0 0], none⟩,
    ⟨none, .store 2 (.t 5) (.t 10), none⟩]) <|
  .seq (.reg [⟨some 11, .load 2 true (.t 5), none⟩,
    ⟨some 12, .load 1 true (.t 3), none⟩,
    ⟨some 13, .call 59 [(.t 11), (.t 12)], none⟩,
    ⟨some 14, .mv (.t 13), none⟩,
    ⟨some 15, .load 2 true (.t 5), some (14, true)⟩,
    ⟨some 16, .load 1 true (.t 3), some (14, true)⟩,
    ⟨some 17, .call 60 [(.t 15), (.t 16)], some (14, true)⟩,
    ⟨some 18, .pick (.t 14) (.t 17) (.c (.bool false)), none⟩,
    ⟨some 4, .mv (.t 18), none⟩]) <|
  .ret⟩
abbrev impl_ChartEnds.id : FuncId := 17
theorem impl_ChartEnds.tr : trFun Try.prog 17 = some impl_ChartEnds.g := by kernel_rfl
def spec_l11Less.g : Fun := ⟨34, [(4, none)], 
  .seq (.reg [⟨some 2, .box 82 (.t 0), none⟩,
    ⟨some 3, .box 82 (.t 1), none⟩,
    ⟨some 4, .mv (.c (.bool false)), none⟩]) <|
  .seq (.seq (.reg [⟨some 5, .fadr 0 (.t 2), none⟩,
    ⟨some 6, .load 1 false (.t 5), none⟩,
    ⟨some 7, .fadr 0 (.t 3), none⟩,
    ⟨some 8, .load 1 false (.t 7), none⟩,
    ⟨some 9, .bin .neq (.t 6) (.t 8), none⟩]) <|
  .cond (.t 9) (.seq (.reg [⟨some 10, .fadr 0 (.t 2), none⟩,
      ⟨some 11, .load 1 false (.t 10), none⟩,
      ⟨some 12, .fadr 0 (.t 3), none⟩,
      ⟨some 13, .load 1 false (.t 12), none⟩,
      ⟨some 14, .bin .lss (.t 11) (.t 13), none⟩,
      ⟨some 4, .mv (.t 14), none⟩]) <|
    .ret) (.skip)) <|
  .seq (.reg [⟨some 15, .fadr 1 (.t 2), none⟩,
    ⟨some 16, .load 1 false (.t 15), none⟩,
    ⟨some 17, .fadr 1 (.t 3), none⟩,
    ⟨some 18, .load 1 false (.t 17), none⟩,
    ⟨some 19, .bin .lss (.t 16) (.t 18), none⟩,
    ⟨some 20, .mv (.t 19), none⟩,
    ⟨some 21, .fadr 1 (.t 2), some (20, false)⟩,
    ⟨some 22, .load 1 false (.t 21), some (20, false)⟩,
    ⟨some 23, .fadr 1 (.t 3), some (20, false)⟩,
    ⟨some 24, .load 1 false (.t 23), some (20, false)⟩,
    ⟨some 25, .bin .eql (.t 22) (.t 24), some (20, false)⟩,
    ⟨some 26, .mv (.t 25), some (20, false)⟩,
    ⟨some 27, .fadr 2 (.t 2), some (26, true)⟩,
    ⟨some 28, .load 1 false (.t 27), some (26, true)⟩,
    ⟨some 29, .fadr 2 (.t 3), some (26, true)⟩,
    ⟨some 30, .load 1 false (.t 29), some (26, true)⟩,
    ⟨some 31, .bin .lss (.t 28) (.t 30), some (26, true)⟩,
    ⟨some 32, .pick (.t 26) (.t 31) (.c (.bool false)), some (20, false)⟩,
    ⟨some 33, .pick (.t 20) (.c (.bool true)) (.t 32), none⟩,
    ⟨some 4, .mv (.t 33), none⟩]) <|
  .ret⟩
abbrev spec_l11Less.id : FuncId := 91
theorem spec_l11Less.tr : trFun Try.prog 91 = some spec_l11Less.g := by kernel_rfl
def spec_l11Ok.l0 : IC :=
  .seq (.seq (.reg [⟨some 30, .mv (.t 6), none⟩,
    ⟨some 31, .fadr 0 (.t 3), none⟩,
    ⟨some 32, .load 1 false (.t 31), none⟩,
    ⟨some 33, .mv (.t 5), none⟩,
    ⟨some 34, .iadr 1 (.t 32) (.t 33), none⟩,
    ⟨some 35, .load 1 false (.t 34), none⟩,
    ⟨some 36, .len (.t 35) false, none⟩,
    ⟨some 37, .bin .lss (.t 30) (.t 36), none⟩]) <|
  .cond (.t 37) (.skip) (.exit 2)) <|
  .seq (.block 3 (.seq (.reg [⟨some 40, .fadr 0 (.t 3), none⟩,
      ⟨some 41, .load 1 false (.t 40), none⟩,
      ⟨some 42, .mv (.t 5), none⟩,
      ⟨some 43, .iadr 1 (.t 41) (.t 42), none⟩,
      ⟨some 44, .load 1 false (.t 43), none⟩,
      ⟨some 45, .mv (.t 6), none⟩,
      ⟨some 46, .iadr 3 (.t 44) (.t 45), none⟩,
      ⟨some 47, .load 3 true (.t 46), none⟩,
      ⟨some 7, .alloc 82 [.int .i64 0, .int .i64 0, .int .i64 0], none⟩,
      ⟨none, .store 3 (.t 7) (.t 47), none⟩]) <|
    .seq (.dreg (inOrder 47) [⟨some 48, .fadr 0 (.t 7), none⟩,
      ⟨some 49, .load 1 false (.t 48), none⟩,
      ⟨some 50, .fadr 1 (.t 2), none⟩,
      ⟨some 51, .load 1 false (.t 50), none⟩,
      ⟨some 52, .len (.t 51) false, none⟩,
      ⟨some 53, .bin .sub (.t 52) (.c (.int .i64 1)), none⟩,
      ⟨some 54, .call 71 [(.t 49), (.c (.int .i64 0)), (.t 53)], none⟩,
      ⟨some 55, .un .not (.t 54), none⟩,
      ⟨some 56, .mv (.t 55), none⟩,
      ⟨some 57, .fadr 1 (.t 7), some (56, false)⟩,
      ⟨some 58, .load 1 false (.t 57), some (56, false)⟩,
      ⟨some 59, .fadr 1 (.t 2), some (56, false)⟩,
      ⟨some 60, .load 1 false (.t 59), some (56, false)⟩,
      ⟨some 61, .fadr 0 (.t 7), some (56, false)⟩,
      ⟨some 62, .load 1 false (.t 61), some (56, false)⟩,
      ⟨some 63, .iadr 2 (.t 60) (.t 62), some (56, false)⟩,
      ⟨some 64, .fadr 1 (.t 63), some (56, false)⟩,
      ⟨some 65, .load 1 false (.t 64), some (56, false)⟩,
      ⟨some 66, .len (.t 65) false, some (56, false)⟩,
      ⟨some 67, .call 71 [(.t 58), (.c (.int .i64 0)), (.t 66)], some (56, false)⟩,
      ⟨some 68, .un .not (.t 67), some (56, false)⟩,
      ⟨some 69, .pick (.t 56) (.c (.bool true)) (.t 68), none⟩,
      ⟨some 70, .mv (.t 69), none⟩,
      ⟨some 71, .fadr 2 (.t 7), some (70, false)⟩,
      ⟨some 72, .load 1 false (.t 71), some (70, false)⟩,
      ⟨some 73, .mv (.t 5), some (70, false)⟩,
      ⟨some 74, .call 71 [(.t 72), (.c (.int .i64 0)), (.t 73)], some (70, false)⟩,
      ⟨some 75, .un .not (.t 74), some (70, false)⟩,
      ⟨some 76, .pick (.t 70) (.c (.bool true)) (.t 75), none⟩,
      ⟨some 77, .mv (.t 76), none⟩,
      ⟨some 78, .mv (.t 6), some (77, false)⟩,
      ⟨some 79, .bin .gtr (.t 78) (.c (.int .i64 0)), some (77, false)⟩,
      ⟨some 80, .mv (.t 79), some (77, false)⟩,
      ⟨some 81, .fadr 0 (.t 3), some (80, true)⟩,
      ⟨some 82, .load 1 false (.t 81), some (80, true)⟩,
      ⟨some 83, .mv (.t 5), some (80, true)⟩,
      ⟨some 84, .iadr 1 (.t 82) (.t 83), some (80, true)⟩,
      ⟨some 85, .load 1 false (.t 84), some (80, true)⟩,
      ⟨some 86, .mv (.t 6), some (80, true)⟩,
      ⟨some 87, .bin .sub (.t 86) (.c (.int .i64 1)), some (80, true)⟩,
      ⟨some 88, .iadr 3 (.t 85) (.t 87), some (80, true)⟩,
      ⟨some 89, .load 3 true (.t 88), some (80, true)⟩,
      ⟨some 90, .load 3 true (.t 7), some (80, true)⟩,
      ⟨some 91, .call 91 [(.t 89), (.t 90)], some (80, true)⟩,
      ⟨some 92, .un .not (.t 91), some (80, true)⟩,
      ⟨some 93, .pick (.t 80) (.t 92) (.c (.bool false)), some (77, false)⟩,
      ⟨some 94, .pick (.t 77) (.c (.bool true)) (.t 93), none⟩]) <|
    .cond (.t 94) (.seq (.reg [⟨some 4, .mv (.c (.bool false)), none⟩]) <|
      .ret) (.skip))) <|
  .reg [⟨some 38, .mv (.t 6), none⟩,
    ⟨some 39, .bin .add (.t 38) (.c (.int .i64 1)), none⟩,
    ⟨some 6, .mv (.t 39), none⟩]
def spec_l11Ok.l1 : IC :=
  .seq (.seq (.reg [⟨some 23, .mv (.t 5), none⟩,
    ⟨some 24, .fadr 0 (.t 3), none⟩,
    ⟨some 25, .load 1 false (.t 24), none⟩,
    ⟨some 26, .len (.t 25) false, none⟩,
    ⟨some 27, .bin .lss (.t 23) (.t 26), none⟩]) <|
  .cond (.t 27) (.skip) (.exit 0)) <|
  .seq (.block 1 (.seq (.reg [⟨some 6, .mv (.c (.int .i64 0)), none⟩]) <|
    .block 2 (.loop spec_l11Ok.l0))) <|
  .reg [⟨some 28, .mv (.t 5), none⟩,
    ⟨some 29, .bin .add (.t 28) (.c (.int .i64 1)), none⟩,
    ⟨some 5, .mv (.t 29), none⟩]
def spec_l11Ok.g : Fun := ⟨95, [(4, none)], 
  .seq (.reg [⟨some 2, .box 33 (.t 0), none⟩,
    ⟨some 3, .box 37 (.t 1), none⟩,
    ⟨some 4, .mv (.c (.bool false)), none⟩]) <|
  .seq (.seq (.reg [⟨some 8, .load 2 true (.t 2), none⟩,
    ⟨some 9, .call 51 [(.t 8)], none⟩,
    ⟨some 10, .un .not (.t 9), none⟩,
    ⟨some 11, .mv (.t 10), none⟩,
    ⟨some 12, .fadr 0 (.t 3), some (11, false)⟩,
    ⟨some 13, .load 1 false (.t 12), some (11, false)⟩,
    ⟨some 14, .len (.t 13) false, some (11, false)⟩,
    ⟨some 15, .bin .lss (.t 14) (.c (.int .i64 1)), some (11, false)⟩,
    ⟨some 16, .pick (.t 11) (.c (.bool true)) (.t 15), none⟩,
    ⟨some 17, .mv (.t 16), none⟩,
    ⟨some 18, .fadr 0 (.t 3), some (17, false)⟩,
    ⟨some 19, .load 1 false (.t 18), some (17, false)⟩,
    ⟨some 20, .len (.t 19) false, some (17, false)⟩,
    ⟨some 21, .bin .gtr (.t 20) (.c (.int .i64 81)), some (17, false)⟩,
    ⟨some 22, .pick (.t 17) (.c (.bool true)) (.t 21), none⟩]) <|
  .cond (.t 22) (.seq (.reg [⟨some 4, .mv (.c (.bool false)), none⟩]) <|
    .ret) (.skip)) <|
  .seq (.seq (.reg [⟨some 5, .mv (.c (.int .i64 0)), none⟩]) <|
  .block 0 (.loop spec_l11Ok.l1)) <|
  .seq (.reg [⟨some 4, .mv (.c (.bool true)), none⟩]) <|
  .ret⟩
abbrev spec_l11Ok.id : FuncId := 52
theorem spec_l11Ok.tr : trFun Try.prog 52 = some spec_l11Ok.g := by kernel_rfl
def spec_l11Head.g : Fun := ⟨28, [(4, none)], 
  .seq (.reg [⟨some 2, .box 33 (.t 0), none⟩,
    ⟨some 3, .box 82 (.t 1), none⟩,
    ⟨some 4, .mv (.c (.int .i64 0)), none⟩]) <|
  .seq (.seq (.dreg (inOrder 11) [⟨some 5, .fadr 1 (.t 3), none⟩,
    ⟨some 6, .load 1 false (.t 5), none⟩,
    ⟨some 7, .fadr 1 (.t 2), none⟩,
    ⟨some 8, .load 1 false (.t 7), none⟩,
    ⟨some 9, .fadr 0 (.t 3), none⟩,
    ⟨some 10, .load 1 false (.t 9), none⟩,
    ⟨some 11, .iadr 2 (.t 8) (.t 10), none⟩,
    ⟨some 12, .fadr 1 (.t 11), none⟩,
    ⟨some 13, .load 1 false (.t 12), none⟩,
    ⟨some 14, .len (.t 13) false, none⟩,
    ⟨some 15, .bin .eql (.t 6) (.t 14), none⟩]) <|
  .cond (.t 15) (.seq (.reg [⟨some 4, .mv (.c (.int .i64 (-2))), none⟩]) <|
    .ret) (.skip)) <|
  .seq (.dreg (inOrder 13) [⟨some 16, .fadr 1 (.t 2), none⟩,
    ⟨some 17, .load 1 false (.t 16), none⟩,
    ⟨some 18, .fadr 0 (.t 3), none⟩,
    ⟨some 19, .load 1 false (.t 18), none⟩,
    ⟨some 20, .iadr 2 (.t 17) (.t 19), none⟩,
    ⟨some 21, .fadr 1 (.t 20), none⟩,
    ⟨some 22, .load 1 false (.t 21), none⟩,
    ⟨some 23, .fadr 1 (.t 3), none⟩,
    ⟨some 24, .load 1 false (.t 23), none⟩,
    ⟨some 25, .iadr 3 (.t 22) (.t 24), none⟩,
    ⟨some 26, .fadr 0 (.t 25), none⟩,
    ⟨some 27, .load 1 false (.t 26), none⟩,
    ⟨some 4, .mv (.t 27), none⟩]) <|
  .ret⟩
abbrev spec_l11Head.id : FuncId := 54
theorem spec_l11Head.tr : trFun Try.prog 54 = some spec_l11Head.g := by kernel_rfl
def spec_ChartEnds.l0 : IC :=
  .seq (.seq (.reg [⟨some 28, .mv (.t 7), none⟩,
    ⟨some 29, .mv (.t 6), none⟩,
    ⟨some 30, .len (.t 29) false, none⟩,
    ⟨some 31, .bin .lss (.t 28) (.t 30), none⟩]) <|
  .cond (.t 31) (.skip) (.exit 0)) <|
  .seq (.block 1 (.seq (.dreg (inOrder 28) [⟨some 34, .mv (.t 6), none⟩,
      ⟨some 35, .mv (.t 7), none⟩,
      ⟨some 36, .iadr 3 (.t 34) (.t 35), none⟩,
      ⟨some 37, .fadr 2 (.t 36), none⟩,
      ⟨some 38, .load 1 false (.t 37), none⟩,
      ⟨some 39, .bin .eql (.t 38) (.c (.int .i64 0)), none⟩,
      ⟨some 40, .mv (.t 39), none⟩,
      ⟨some 41, .fadr 1 (.t 5), some (40, true)⟩,
      ⟨some 42, .load 1 false (.t 41), some (40, true)⟩,
      ⟨some 43, .mv (.t 6), some (40, true)⟩,
      ⟨some 44, .mv (.t 7), some (40, true)⟩,
      ⟨some 45, .iadr 3 (.t 43) (.t 44), some (40, true)⟩,
      ⟨some 46, .fadr 0 (.t 45), some (40, true)⟩,
      ⟨some 47, .load 1 false (.t 46), some (40, true)⟩,
      ⟨some 48, .iadr 2 (.t 42) (.t 47), some (40, true)⟩,
      ⟨some 49, .fadr 0 (.t 48), some (40, true)⟩,
      ⟨some 50, .load 1 false (.t 49), some (40, true)⟩,
      ⟨some 51, .bin .eql (.t 50) (.c (.int .i64 0)), some (40, true)⟩,
      ⟨some 52, .pick (.t 40) (.t 51) (.c (.bool false)), none⟩,
      ⟨some 53, .mv (.t 52), none⟩,
      ⟨some 54, .load 2 true (.t 5), some (53, true)⟩,
      ⟨some 55, .mv (.t 6), some (53, true)⟩,
      ⟨some 56, .mv (.t 7), some (53, true)⟩,
      ⟨some 57, .iadr 3 (.t 55) (.t 56), some (53, true)⟩,
      ⟨some 58, .load 3 true (.t 57), some (53, true)⟩,
      ⟨some 59, .call 54 [(.t 54), (.t 58)], some (53, true)⟩,
      ⟨some 60, .bin .eql (.t 59) (.c (.int .i64 (-2))), some (53, true)⟩,
      ⟨some 61, .pick (.t 53) (.t 60) (.c (.bool false)), none⟩]) <|
    .cond (.t 61) (.seq (.reg [⟨some 4, .mv (.c (.bool true)), none⟩]) <|
      .ret) (.skip))) <|
  .reg [⟨some 32, .mv (.t 7), none⟩,
    ⟨some 33, .bin .add (.t 32) (.c (.int .i64 1)), none⟩,
    ⟨some 7, .mv (.t 33), none⟩]
def spec_ChartEnds.g : Fun := ⟨62, [(4, none)], 
  .seq (.reg [⟨some 2, .box 33 (.t 0), none⟩,
    ⟨some 3, .box 37 (.t 1), none⟩,
    ⟨some 4, .mv (.c (.bool false)), none⟩]) <|
  .seq (.seq (.dreg (.one 0 (.one 1 (.one 2 (.one 3 (.one 4 (.alt (.one 5 (.one 6 (.one 7 (.one 8 (.one 9 (.done)))))) (.one 6 (.one 5 (.one 7 (.one 8 (.one 9 (.done)))))))))))) [⟨some 8, .load 2 true (.t 2), none⟩,
    ⟨some 9, .call 51 [(.t 8)], none⟩,
    ⟨some 10, .un .not (.t 9), none⟩,
    ⟨some 11, .mv (.t 10), none⟩,
    ⟨some 12, .load 2 true (.t 2), some (11, false)⟩,
    ⟨some 13, .call 53 [(.t 12)], some (11, false)⟩,
    ⟨some 14, .load 1 true (.t 3), some (11, false)⟩,
    ⟨some 15, .call 52 [(.t 13), (.t 14)], some (11, false)⟩,
    ⟨some 16, .un .not (.t 15), some (11, false)⟩,
    ⟨some 17, .pick (.t 11) (.c (.bool true)) (.t 16), none⟩]) <|
  .cond (.t 17) (.seq (.reg [⟨some 4, .mv (.c (.bool false)), none⟩]) <|
    .ret) (.skip)) <|
  .seq (.reg [⟨some 18, .load 2 true (.t 2), none⟩,
    ⟨some 19, .call 53 [(.t 18)], none⟩,
    ⟨some 5, .alloc 33 [.int .i64 0, .slice none 0 0], none⟩,
    ⟨none, .store 2 (.t 5) (.t 19), none⟩]) <|
  .seq (.reg [⟨some 20, .fadr 0 (.t 3), none⟩,
    ⟨some 21, .load 1 false (.t 20), none⟩,
    ⟨some 22, .fadr 0 (.t 3), none⟩,
    ⟨some 23, .load 1 false (.t 22), none⟩,
    ⟨some 24, .len (.t 23) false, none⟩,
    ⟨some 25, .bin .sub (.t 24) (.c (.int .i64 1)), none⟩,
    ⟨some 26, .iadr 1 (.t 21) (.t 25), none⟩,
    ⟨some 27, .load 1 false (.t 26), none⟩,
    ⟨some 6, .mv (.t 27), none⟩]) <|
  .seq (.seq (.reg [⟨some 7, .mv (.c (.int .i64 0)), none⟩]) <|
  .block 0 (.loop spec_ChartEnds.l0)) <|
  .seq (.reg [⟨some 4, .mv (.c (.bool false)), none⟩]) <|
  .ret⟩
abbrev spec_ChartEnds.id : FuncId := 14
theorem spec_ChartEnds.tr : trFun Try.prog 14 = some spec_ChartEnds.g := by kernel_rfl
def impl_Cfg_expected.l0 : IC :=
  .seq (.seq (.reg [⟨some 38, .mv (.t 10), none⟩,
    ⟨some 39, .fadr 2 (.t 8), none⟩,
    ⟨some 40, .load 1 false (.t 39), none⟩,
    ⟨some 41, .bin .leq (.t 38) (.t 40), none⟩]) <|
  .cond (.t 41) (.skip) (.exit 2)) <|
  .seq (.block 3 (.reg [⟨some 44, .mv (.t 5), none⟩,
      ⟨some 45, .mv (.t 10), none⟩,
      ⟨some 46, .iadr 1 (.t 44) (.t 45), none⟩,
      ⟨none, .store 1 (.t 46) (.c (.bool true)), none⟩])) <|
  .reg [⟨some 42, .mv (.t 10), none⟩,
    ⟨some 43, .bin .add (.t 42) (.c (.int .i64 1)), none⟩,
    ⟨some 10, .mv (.t 43), none⟩]
def impl_Cfg_expected.l1 : IC :=
  .seq (.reg [⟨some 21, .bin .lss (.t 20) (.t 19), none⟩]) <|
  .seq (.cond (.t 21) (.skip) (.exit 0)) <|
  .seq (.block 1 (.seq (.reg [⟨some 22, .iadr 3 (.t 18) (.t 20), none⟩,
      ⟨some 23, .load 3 true (.t 22), none⟩,
      ⟨some 7, .alloc 82 [.int .i64 0, .int .i64 0, .int .i64 0], none⟩,
      ⟨none, .store 3 (.t 7) (.t 23), none⟩]) <|
    .seq (.reg [⟨some 25, .load 2 true (.t 2), none⟩,
      ⟨some 26, .load 3 true (.t 7), none⟩,
      ⟨some 27, .call 100 [(.t 25), (.t 26)], none⟩,
      ⟨some 24, .mv (.t 27), none⟩,
      ⟨some 28, .ext 0 (.t 24), none⟩,
      ⟨some 29, .ext 1 (.t 24), none⟩,
      ⟨some 8, .alloc 94 [.int .i64 0, .int .i64 0, .int .i64 0], none⟩,
      ⟨none, .store 3 (.t 8) (.t 28), none⟩,
      ⟨some 9, .mv (.t 29), none⟩]) <|
    .seq (.reg [⟨some 30, .mv (.t 9), none⟩,
      ⟨some 31, .mv (.t 30), none⟩,
      ⟨some 32, .fadr 0 (.t 8), some (31, true)⟩,
      ⟨some 33, .load 1 false (.t 32), some (31, true)⟩,
      ⟨some 34, .bin .lss (.t 33) (.c (.int .i64 0)), some (31, true)⟩,
      ⟨some 35, .pick (.t 31) (.t 34) (.c (.bool false)), none⟩]) <|
    .cond (.t 35) (.seq (.reg [⟨some 36, .fadr 1 (.t 8), none⟩,
        ⟨some 37, .load 1 false (.t 36), none⟩,
        ⟨some 10, .mv (.t 37), none⟩]) <|
      .block 2 (.loop impl_Cfg_expected.l0)) (.skip))) <|
  .reg [⟨some 47, .bin .add (.t 20) (.c (.int .i64 1)), none⟩,
    ⟨some 20, .mv (.t 47), none⟩]
def impl_Cfg_expected.g : Fun := ⟨49, [(4, none)], 
  .seq (.reg [⟨some 2, .box 33 (.t 0), none⟩,
    ⟨some 3, .box 37 (.t 1), none⟩,
    ⟨some 4, .mv (.c (.slice none 0 0)), none⟩]) <|
  .seq (.reg [⟨some 11, .mks 4 1 [.bool false] (.c (.int .i64 256)) (.c (.int .i64 256)), none⟩,
    ⟨some 5, .mv (.t 11), none⟩]) <|
  .seq (.seq (.reg [⟨some 12, .fadr 0 (.t 3), none⟩,
    ⟨some 13, .load 1 false (.t 12), none⟩,
    ⟨some 14, .len (.t 13) false, none⟩,
    ⟨some 15, .bin .eql (.t 14) (.c (.int .i64 81)), none⟩]) <|
  .cond (.t 15) (.seq (.reg [⟨some 16, .mv (.t 5), none⟩,
      ⟨some 4, .mv (.t 16), none⟩]) <|
    .ret) (.skip)) <|
  .seq (.seq (.reg [⟨some 17, .load 1 true (.t 3), none⟩,
    ⟨some 18, .call 99 [(.t 17)], none⟩,
    ⟨some 19, .len (.t 18) false, none⟩,
    ⟨some 20, .mv (.c (.int .i64 0)), none⟩]) <|
  .block 0 (.loop impl_Cfg_expected.l1)) <|
  .seq (.reg [⟨some 48, .mv (.t 5), none⟩,
    ⟨some 4, .mv (.t 48), none⟩]) <|
  .ret⟩
abbrev impl_Cfg_expected.id : FuncId := 63
theorem impl_Cfg_expected.tr : trFun Try.prog 63 = some impl_Cfg_expected.g := by kernel_rfl
def impl_ChartNext.g : Fun := ⟨20, [(4, none)], 
  .seq (.reg [⟨some 2, .box 33 (.t 0), none⟩,
    ⟨some 3, .box 37 (.t 1), none⟩,
    ⟨some 4, .mv (.c (.slice none 0 0)), none⟩]) <|
  .seq (.seq (.reg [⟨some 6, .load 2 true (.t 2), none⟩,
    ⟨some 7, .call 57 [(.t 6)], none⟩,
    ⟨some 8, .un .not (.t 7), none⟩]) <|
  .cond (.t 8) (.seq (.reg [⟨some 9, .mks 4 1 [.bool false] (.c (.int .i64 256)) (.c (.int .i64 256)), none⟩,
      ⟨some 4, .mv (.t 9), none⟩]) <|
    .ret) (.skip)) <|
  .seq (.reg [⟨some 10, .load 2 true (.t 2), none⟩,
    ⟨some 11, .call 58 [(.t 10)], none⟩,
    ⟨some 5, .alloc 33 [.int .i64 0, .slice none 0 0], none⟩,
    ⟨none, .store 2 (.t 5) (.t 11), none⟩]) <|
  .seq (.seq (.reg [⟨some 12, .load 2 true (.t 5), none⟩,
    ⟨some 13, .load 1 true (.t 3), none⟩,
    ⟨some 14, .call 59 [(.t 12), (.t 13)], none⟩,
    ⟨some 15, .un .not (.t 14), none⟩]) <|
  .cond (.t 15) (.seq (.reg [⟨some 16, .mks 4 1 [.bool false] (.c (.int .i64 256)) (.c (.int .i64 256)), none⟩,
      ⟨some 4, .mv (.t 16), none⟩]) <|
    .ret) (.skip)) <|
  .seq (.reg [⟨some 17, .load 2 true (.t 5), none⟩,
    ⟨some 18, .load 1 true (.t 3), none⟩,
    ⟨some 19, .call 63 [(.t 17), (.t 18)], none⟩,
    ⟨some 4, .mv (.t 19), none⟩]) <|
  .ret⟩
abbrev impl_ChartNext.id : FuncId := 21
theorem impl_ChartNext.tr : trFun Try.prog 21 = some impl_ChartNext.g := by kernel_rfl
def spec_ChartNext.l0 : IC :=
  .seq (.seq (.reg [⟨some 71, .mv (.t 10), none⟩,
    ⟨some 72, .fadr 2 (.t 9), none⟩,
    ⟨some 73, .load 1 false (.t 72), none⟩,
    ⟨some 74, .bin .leq (.t 71) (.t 73), none⟩]) <|
  .cond (.t 74) (.skip) (.exit 2)) <|
  .seq (.block 3 (.reg [⟨some 77, .mv (.t 5), none⟩,
      ⟨some 78, .mv (.t 10), none⟩,
      ⟨some 79, .iadr 1 (.t 77) (.t 78), none⟩,
      ⟨none, .store 1 (.t 79) (.c (.bool true)), none⟩])) <|
  .reg [⟨some 75, .mv (.t 10), none⟩,
    ⟨some 76, .bin .add (.t 75) (.c (.int .i64 1)), none⟩,
    ⟨some 10, .mv (.t 76), none⟩]
def spec_ChartNext.l1 : IC :=
  .seq (.seq (.reg [⟨some 39, .mv (.t 8), none⟩,
    ⟨some 40, .mv (.t 7), none⟩,
    ⟨some 41, .len (.t 40) false, none⟩,
    ⟨some 42, .bin .lss (.t 39) (.t 41), none⟩]) <|
  .cond (.t 42) (.skip) (.exit 0)) <|
  .seq (.block 1 (.seq (.seq (.dreg (inOrder 7) [⟨some 45, .load 2 true (.t 6), none⟩,
      ⟨some 46, .mv (.t 7), none⟩,
      ⟨some 47, .mv (.t 8), none⟩,
      ⟨some 48, .iadr 3 (.t 46) (.t 47), none⟩,
      ⟨some 49, .load 3 true (.t 48), none⟩,
      ⟨some 50, .call 54 [(.t 45), (.t 49)], none⟩,
      ⟨some 51, .bin .neq (.t 50) (.c (.int .i64 (-1))), none⟩]) <|
    .cond (.t 51) (.exit 1) (.skip)) <|
    .seq (.dreg (inOrder 19) [⟨some 52, .fadr 1 (.t 6), none⟩,
      ⟨some 53, .load 1 false (.t 52), none⟩,
      ⟨some 54, .mv (.t 7), none⟩,
      ⟨some 55, .mv (.t 8), none⟩,
      ⟨some 56, .iadr 3 (.t 54) (.t 55), none⟩,
      ⟨some 57, .fadr 0 (.t 56), none⟩,
      ⟨some 58, .load 1 false (.t 57), none⟩,
      ⟨some 59, .iadr 2 (.t 53) (.t 58), none⟩,
      ⟨some 60, .fadr 1 (.t 59), none⟩,
      ⟨some 61, .load 1 false (.t 60), none⟩,
      ⟨some 62, .mv (.t 7), none⟩,
      ⟨some 63, .mv (.t 8), none⟩,
      ⟨some 64, .iadr 3 (.t 62) (.t 63), none⟩,
      ⟨some 65, .fadr 1 (.t 64), none⟩,
      ⟨some 66, .load 1 false (.t 65), none⟩,
      ⟨some 67, .iadr 3 (.t 61) (.t 66), none⟩,
      ⟨some 68, .load 3 true (.t 67), none⟩,
      ⟨some 9, .alloc 94 [.int .i64 0, .int .i64 0, .int .i64 0], none⟩,
      ⟨none, .store 3 (.t 9) (.t 68), none⟩]) <|
    .seq (.reg [⟨some 69, .fadr 1 (.t 9), none⟩,
      ⟨some 70, .load 1 false (.t 69), none⟩,
      ⟨some 10, .mv (.t 70), none⟩]) <|
    .block 2 (.loop spec_ChartNext.l0))) <|
  .reg [⟨some 43, .mv (.t 8), none⟩,
    ⟨some 44, .bin .add (.t 43) (.c (.int .i64 1)), none⟩,
    ⟨some 8, .mv (.t 44), none⟩]
def spec_ChartNext.g : Fun := ⟨81, [(4, none)], 
  .seq (.reg [⟨some 2, .box 33 (.t 0), none⟩,
    ⟨some 3, .box 37 (.t 1), none⟩,
    ⟨some 4, .mv (.c (.slice none 0 0)), none⟩]) <|
  .seq (.reg [⟨some 11, .mks 4 1 [.bool false] (.c (.int .i64 256)) (.c (.int .i64 256)), none⟩,
    ⟨some 5, .mv (.t 11), none⟩]) <|
  .seq (.seq (.dreg (.one 0 (.one 1 (.one 2 (.one 3 (.one 4 (.alt (.one 5 (.one 6 (.one 7 (.one 8 (.one 9 (.one 10 (.one 11 (.one 12 (.one 13 (.one 14 (.one 15 (.done)))))))))))) (.one 6 (.one 5 (.one 7 (.one 8 (.one 9 (.one 10 (.one 11 (.one 12 (.one 13 (.one 14 (.one 15 (.done)))))))))))))))))) [⟨some 12, .load 2 true (.t 2), none⟩,
    ⟨some 13, .call 51 [(.t 12)], none⟩,
    ⟨some 14, .un .not (.t 13), none⟩,
    ⟨some 15, .mv (.t 14), none⟩,
    ⟨some 16, .load 2 true (.t 2), some (15, false)⟩,
    ⟨some 17, .call 53 [(.t 16)], some (15, false)⟩,
    ⟨some 18, .load 1 true (.t 3), some (15, false)⟩,
    ⟨some 19, .call 52 [(.t 17), (.t 18)], some (15, false)⟩,
    ⟨some 20, .un .not (.t 19), some (15, false)⟩,
    ⟨some 21, .pick (.t 15) (.c (.bool true)) (.t 20), none⟩,
    ⟨some 22, .mv (.t 21), none⟩,
    ⟨some 23, .fadr 0 (.t 3), some (22, false)⟩,
    ⟨some 24, .load 1 false (.t 23), some (22, false)⟩,
    ⟨some 25, .len (.t 24) false, some (22, false)⟩,
    ⟨some 26, .bin .gtr (.t 25) (.c (.int .i64 80)), some (22, false)⟩,
    ⟨some 27, .pick (.t 22) (.c (.bool true)) (.t 26), none⟩]) <|
  .cond (.t 27) (.seq (.reg [⟨some 28, .mv (.t 5), none⟩,
      ⟨some 4, .mv (.t 28), none⟩]) <|
    .ret) (.skip)) <|
  .seq (.reg [⟨some 29, .load 2 true (.t 2), none⟩,
    ⟨some 30, .call 53 [(.t 29)], none⟩,
    ⟨some 6, .alloc 33 [.int .i64 0, .slice none 0 0], none⟩,
    ⟨none, .store 2 (.t 6) (.t 30), none⟩]) <|
  .seq (.reg [⟨some 31, .fadr 0 (.t 3), none⟩,
    ⟨some 32, .load 1 false (.t 31), none⟩,
    ⟨some 33, .fadr 0 (.t 3), none⟩,
    ⟨some 34, .load 1 false (.t 33), none⟩,
    ⟨some 35, .len (.t 34) false, none⟩,
    ⟨some 36, .bin .sub (.t 35) (.c (.int .i64 1)), none⟩,
    ⟨some 37, .iadr 1 (.t 32) (.t 36), none⟩,
    ⟨some 38, .load 1 false (.t 37), none⟩,
    ⟨some 7, .mv (.t 38), none⟩]) <|
  .seq (.seq (.reg [⟨some 8, .mv (.c (.int .i64 0)), none⟩]) <|
  .block 0 (.loop spec_ChartNext.l1)) <|
  .seq (.reg [⟨some 80, .mv (.t 5), none⟩,
    ⟨some 4, .mv (.t 80), none⟩]) <|
  .ret⟩
abbrev spec_ChartNext.id : FuncId := 20
theorem spec_ChartNext.tr : trFun Try.prog 20 = some spec_ChartNext.g := by kernel_rfl
end Go.Proofs.Ytabbipdkbdojiaa
