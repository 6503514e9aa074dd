/- The code of some functions of the program, as the abstract layer has it, each with the equation that says so. No condition. -/
import Derived.Test.YtedlpghakpfjjaaBase
namespace Go.Proofs.Ytedlpghakpfjjaa
open Go Go.Ab
def impl_saveReader_next.g : Fun := ⟨32, [(2, none)], 
  .seq (.reg [⟨some 2, .mv (.c (.int .i64 0)), none⟩]) <|
  .seq (.seq (.dreg (inOrder 10) [⟨some 3, .mv (.t 0), none⟩,
    ⟨some 4, .nilc (.t 3), none⟩,
    ⟨some 5, .fadr 1 (.t 4), none⟩,
    ⟨some 6, .load 1 false (.t 5), none⟩,
    ⟨some 7, .mv (.t 0), none⟩,
    ⟨some 8, .nilc (.t 7), none⟩,
    ⟨some 9, .fadr 0 (.t 8), none⟩,
    ⟨some 10, .load 1 false (.t 9), none⟩,
    ⟨some 11, .len (.t 10) false, none⟩,
    ⟨some 12, .bin .geq (.t 6) (.t 11), none⟩]) <|
  .cond (.t 12) (.seq (.reg [⟨some 2, .mv (.c (.int .i64 0)), none⟩]) <|
    .ret) (.skip)) <|
  .seq (.reg [⟨some 13, .mv (.t 0), none⟩,
    ⟨some 14, .nilc (.t 13), none⟩,
    ⟨some 15, .fadr 1 (.t 14), none⟩,
    ⟨some 16, .load 1 false (.t 15), none⟩,
    ⟨some 17, .bin .add (.t 16) (.c (.int .i64 1)), none⟩,
    ⟨some 18, .nilc (.t 13), none⟩,
    ⟨some 19, .fadr 1 (.t 18), none⟩,
    ⟨none, .store 1 (.t 19) (.t 17), none⟩]) <|
  .seq (.dreg (inOrder 13) [⟨some 20, .mv (.t 0), none⟩,
    ⟨some 21, .nilc (.t 20), none⟩,
    ⟨some 22, .fadr 0 (.t 21), none⟩,
    ⟨some 23, .load 1 false (.t 22), none⟩,
    ⟨some 24, .mv (.t 0), none⟩,
    ⟨some 25, .nilc (.t 24), none⟩,
    ⟨some 26, .fadr 1 (.t 25), none⟩,
    ⟨some 27, .load 1 false (.t 26), none⟩,
    ⟨some 28, .bin .sub (.t 27) (.c (.int .i64 1)), none⟩,
    ⟨some 29, .iadr 1 (.t 23) (.t 28), none⟩,
    ⟨some 30, .load 1 false (.t 29), none⟩,
    ⟨some 31, .cvt .i64 (.t 30), none⟩,
    ⟨some 2, .mv (.t 31), none⟩]) <|
  .ret⟩
abbrev impl_saveReader_next.id : FuncId := 43
theorem impl_saveReader_next.tr : trFun Try.prog 43 = some impl_saveReader_next.g := by kernel_rfl
def spec_l41Rd_next.g : Fun := ⟨36, [(2, none)], 
  .seq (.reg [⟨some 2, .mv (.c (.int .i64 0)), none⟩]) <|
  .seq (.seq (.dreg (inOrder 10) [⟨some 3, .mv (.t 0), none⟩,
    ⟨some 4, .nilc (.t 3), none⟩,
    ⟨some 5, .fadr 1 (.t 4), none⟩,
    ⟨some 6, .load 1 false (.t 5), none⟩,
    ⟨some 7, .mv (.t 0), none⟩,
    ⟨some 8, .nilc (.t 7), none⟩,
    ⟨some 9, .fadr 0 (.t 8), none⟩,
    ⟨some 10, .load 1 false (.t 9), none⟩,
    ⟨some 11, .len (.t 10) false, none⟩,
    ⟨some 12, .bin .geq (.t 6) (.t 11), none⟩]) <|
  .cond (.t 12) (.seq (.reg [⟨some 13, .mv (.t 0), none⟩,
      ⟨some 14, .nilc (.t 13), none⟩,
      ⟨some 15, .fadr 2 (.t 14), none⟩,
      ⟨none, .store 1 (.t 15) (.c (.bool false)), none⟩]) <|
    .seq (.reg [⟨some 2, .mv (.c (.int .i64 0)), none⟩]) <|
    .ret) (.skip)) <|
  .seq (.reg [⟨some 16, .mv (.t 0), none⟩,
    ⟨some 17, .mv (.t 0), none⟩,
    ⟨some 18, .nilc (.t 17), none⟩,
    ⟨some 19, .fadr 1 (.t 18), none⟩,
    ⟨some 20, .load 1 false (.t 19), none⟩,
    ⟨some 21, .bin .add (.t 20) (.c (.int .i64 1)), none⟩,
    ⟨some 22, .nilc (.t 16), none⟩,
    ⟨some 23, .fadr 1 (.t 22), none⟩,
    ⟨none, .store 1 (.t 23) (.t 21), none⟩]) <|
  .seq (.dreg (inOrder 13) [⟨some 24, .mv (.t 0), none⟩,
    ⟨some 25, .nilc (.t 24), none⟩,
    ⟨some 26, .fadr 0 (.t 25), none⟩,
    ⟨some 27, .load 1 false (.t 26), none⟩,
    ⟨some 28, .mv (.t 0), none⟩,
    ⟨some 29, .nilc (.t 28), none⟩,
    ⟨some 30, .fadr 1 (.t 29), none⟩,
    ⟨some 31, .load 1 false (.t 30), none⟩,
    ⟨some 32, .bin .sub (.t 31) (.c (.int .i64 1)), none⟩,
    ⟨some 33, .iadr 1 (.t 27) (.t 32), none⟩,
    ⟨some 34, .load 1 false (.t 33), none⟩,
    ⟨some 35, .cvt .i64 (.t 34), none⟩,
    ⟨some 2, .mv (.t 35), none⟩]) <|
  .ret⟩
abbrev spec_l41Rd_next.id : FuncId := 41
theorem spec_l41Rd_next.tr : trFun Try.prog 41 = some spec_l41Rd_next.g := by kernel_rfl
def spec_l41Rd_sym.g : Fun := ⟨23, [(2, some (3, true))], 
  .seq (.reg [⟨some 2, .alloc 47 [.int .i64 0, .int .i64 0, .int .i64 0], none⟩]) <|
  .seq (.reg [⟨some 5, .mv (.t 0), none⟩,
    ⟨some 6, .call 41 [(.t 5)], none⟩,
    ⟨some 3, .mv (.t 6), none⟩]) <|
  .seq (.seq (.reg [⟨some 7, .mv (.t 3), none⟩,
    ⟨some 8, .bin .eql (.t 7) (.c (.int .i64 1)), none⟩]) <|
  .cond (.t 8) (.seq (.reg [⟨some 9, .mv (.t 0), none⟩,
      ⟨some 10, .call 41 [(.t 9)], none⟩,
      ⟨some 11, .build [.int .i64 0, .int .i64 0, .int .i64 0] [(0, 1, (.t 10))], none⟩,
      ⟨none, .store 3 (.t 2) (.t 11), none⟩]) <|
    .ret) (.skip)) <|
  .seq (.seq (.reg [⟨some 12, .mv (.t 3), none⟩,
    ⟨some 13, .bin .neq (.t 12) (.c (.int .i64 0)), none⟩]) <|
  .cond (.t 13) (.reg [⟨some 14, .mv (.t 0), none⟩,
      ⟨some 15, .nilc (.t 14), none⟩,
      ⟨some 16, .fadr 2 (.t 15), none⟩,
      ⟨none, .store 1 (.t 16) (.c (.bool false)), none⟩]) (.skip)) <|
  .seq (.reg [⟨some 17, .mv (.t 0), none⟩,
    ⟨some 18, .call 41 [(.t 17)], none⟩,
    ⟨some 4, .mv (.t 18), none⟩]) <|
  .seq (.reg [⟨some 19, .mv (.t 4), none⟩,
    ⟨some 20, .mv (.t 0), none⟩,
    ⟨some 21, .call 41 [(.t 20)], none⟩,
    ⟨some 22, .build [.int .i64 0, .int .i64 0, .int .i64 0] [(0, 1, (.c (.int .i64 (-1)))), (1, 1, (.t 19)), (2, 1, (.t 21))], none⟩,
    ⟨none, .store 3 (.t 2) (.t 22), none⟩]) <|
  .ret⟩
abbrev spec_l41Rd_sym.id : FuncId := 42
theorem spec_l41Rd_sym.tr : trFun Try.prog 42 = some spec_l41Rd_sym.g := by kernel_rfl
def impl_nonterminal.g : Fun := ⟨5, [(2, some (3, true))], 
  .seq (.reg [⟨some 2, .alloc 47 [.int .i64 0, .int .i64 0, .int .i64 0], none⟩]) <|
  .seq (.reg [⟨some 3, .mv (.t 0), none⟩,
    ⟨some 4, .build [.int .i64 0, .int .i64 0, .int .i64 0] [(0, 1, (.t 3))], none⟩,
    ⟨none, .store 3 (.t 2) (.t 4), none⟩]) <|
  .ret⟩
abbrev impl_nonterminal.id : FuncId := 44
theorem impl_nonterminal.tr : trFun Try.prog 44 = some impl_nonterminal.g := by kernel_rfl
def impl_SaveRead.l0 : IC :=
  .seq (.seq (.reg [⟨some 51, .mv (.t 9), none⟩,
    ⟨some 52, .bin .gtr (.t 51) (.c (.int .i64 0)), none⟩]) <|
  .cond (.t 52) (.skip) (.exit 2)) <|
  .seq (.block 3 (.seq (.reg [⟨some 55, .mv (.t 4), none⟩,
      ⟨some 56, .call 43 [(.t 55)], none⟩,
      ⟨some 57, .bin .eql (.t 56) (.c (.int .i64 1)), none⟩]) <|
    .cond (.t 57) (.dreg (.one 0 (.one 2 (.ld 1 (.one 3 (.one 4 (.one 5 (.one 6 (.one 7 (.one 8 (.done))))))) (.alt (.one 1 (.one 3 (.one 4 (.one 5 (.one 6 (.one 7 (.one 8 (.done)))))))) (.one 3 (.ld 1 (.one 4 (.one 5 (.one 6 (.one 7 (.one 8 (.done)))))) (.alt (.one 1 (.one 4 (.one 5 (.one 6 (.one 7 (.one 8 (.done))))))) (.one 4 (.one 1 (.one 5 (.one 6 (.one 7 (.one 8 (.done)))))))))))))) [⟨some 58, .fadr 1 (.t 8), none⟩,
        ⟨some 59, .load 1 false (.t 58), none⟩,
        ⟨some 60, .mv (.t 4), none⟩,
        ⟨some 61, .call 43 [(.t 60)], none⟩,
        ⟨some 62, .call 44 [(.t 61)], none⟩,
        ⟨some 63, .bslice 47 1 3 [.int .i64 0, .int .i64 0, .int .i64 0] [(0, (.t 62))], none⟩,
        ⟨some 64, .app 47 3 (.t 59) (.t 63), none⟩,
        ⟨some 65, .fadr 1 (.t 8), none⟩,
        ⟨none, .store 1 (.t 65) (.t 64), none⟩]) (.seq (.reg [⟨some 66, .mv (.t 4), none⟩,
        ⟨some 67, .call 43 [(.t 66)], none⟩,
        ⟨some 10, .mv (.t 67), none⟩]) <|
      .dreg (.one 0 (.one 2 (.one 3 (.ld 1 (.one 4 (.one 5 (.one 6 (.one 7 (.one 8 (.one 9 (.done))))))) (.alt (.one 1 (.one 4 (.one 5 (.one 6 (.one 7 (.one 8 (.one 9 (.done)))))))) (.one 4 (.one 1 (.one 5 (.one 6 (.one 7 (.one 8 (.one 9 (.done))))))))))))) [⟨some 68, .fadr 1 (.t 8), none⟩,
        ⟨some 69, .load 1 false (.t 68), none⟩,
        ⟨some 70, .mv (.t 10), none⟩,
        ⟨some 71, .mv (.t 4), none⟩,
        ⟨some 72, .call 43 [(.t 71)], none⟩,
        ⟨some 73, .build [.int .i64 0, .int .i64 0, .int .i64 0] [(0, 1, (.c (.int .i64 (-1)))), (1, 1, (.t 70)), (2, 1, (.t 72))], none⟩,
        ⟨some 74, .bslice 47 1 3 [.int .i64 0, .int .i64 0, .int .i64 0] [(0, (.t 73))], none⟩,
        ⟨some 75, .app 47 3 (.t 69) (.t 74), none⟩,
        ⟨some 76, .fadr 1 (.t 8), none⟩,
        ⟨none, .store 1 (.t 76) (.t 75), none⟩]))) <|
  .reg [⟨some 53, .mv (.t 9), none⟩,
    ⟨some 54, .bin .sub (.t 53) (.c (.int .i64 1)), none⟩,
    ⟨some 9, .mv (.t 54), none⟩]
def impl_SaveRead.l1 : IC :=
  .seq (.seq (.reg [⟨some 27, .mv (.t 7), none⟩,
    ⟨some 28, .mv (.t 6), none⟩,
    ⟨some 29, .bin .lss (.t 27) (.t 28), none⟩,
    ⟨some 30, .mv (.t 29), none⟩,
    ⟨some 31, .mv (.t 7), some (30, true)⟩,
    ⟨some 32, .bin .leq (.t 31) (.c (.int .i64 400)), some (30, true)⟩,
    ⟨some 33, .pick (.t 30) (.t 32) (.c (.bool false)), none⟩,
    ⟨some 34, .mv (.t 33), none⟩,
    ⟨some 35, .mv (.t 4), some (34, true)⟩,
    ⟨some 36, .nilc (.t 35), some (34, true)⟩,
    ⟨some 37, .fadr 1 (.t 36), some (34, true)⟩,
    ⟨some 38, .load 1 false (.t 37), some (34, true)⟩,
    ⟨some 39, .mv (.t 0), some (34, true)⟩,
    ⟨some 40, .len (.t 39) false, some (34, true)⟩,
    ⟨some 41, .bin .lss (.t 38) (.t 40), some (34, true)⟩,
    ⟨some 42, .pick (.t 34) (.t 41) (.c (.bool false)), none⟩]) <|
  .cond (.t 42) (.skip) (.exit 0)) <|
  .seq (.block 1 (.seq (.reg [⟨some 45, .mv (.t 4), none⟩,
      ⟨some 46, .call 43 [(.t 45)], none⟩,
      ⟨some 47, .bslice 47 0 3 [.int .i64 0, .int .i64 0, .int .i64 0] [], none⟩,
      ⟨some 48, .build [.int .i64 0, .slice none 0 0] [(0, 1, (.t 46)), (1, 1, (.t 47))], none⟩,
      ⟨some 8, .alloc 45 [.int .i64 0, .slice none 0 0], none⟩,
      ⟨none, .store 2 (.t 8) (.t 48), none⟩]) <|
    .seq (.seq (.reg [⟨some 49, .mv (.t 4), none⟩,
      ⟨some 50, .call 43 [(.t 49)], none⟩,
      ⟨some 9, .mv (.t 50), none⟩]) <|
    .block 2 (.loop impl_SaveRead.l0)) <|
    .reg [⟨some 77, .fadr 1 (.t 5), none⟩,
      ⟨some 78, .load 1 false (.t 77), none⟩,
      ⟨some 79, .load 2 true (.t 8), none⟩,
      ⟨some 80, .bslice 45 1 2 [.int .i64 0, .slice none 0 0] [(0, (.t 79))], none⟩,
      ⟨some 81, .app 45 2 (.t 78) (.t 80), none⟩,
      ⟨some 82, .fadr 1 (.t 5), none⟩,
      ⟨none, .store 1 (.t 82) (.t 81), none⟩])) <|
  .reg [⟨some 43, .mv (.t 7), none⟩,
    ⟨some 44, .bin .add (.t 43) (.c (.int .i64 1)), none⟩,
    ⟨some 7, .mv (.t 44), none⟩]
def impl_SaveRead.g : Fun := ⟨96, [(2, some (2, true)), (3, none)], 
  .seq (.reg [⟨some 2, .alloc 34 [.int .i64 0, .slice none 0 0], none⟩,
    ⟨some 3, .mv (.c (.bool false)), none⟩]) <|
  .seq (.reg [⟨some 11, .mv (.t 0), none⟩,
    ⟨some 12, .build [.slice none 0 0, .int .i64 0] [(0, 1, (.t 11))], none⟩,
    ⟨some 13, .box 64 (.t 12), none⟩,
    ⟨some 4, .mv (.t 13), none⟩]) <|
  .seq (.reg [⟨some 14, .mv (.t 4), none⟩,
    ⟨some 15, .call 43 [(.t 14)], none⟩]) <|
  .seq (.reg [⟨some 16, .mv (.t 4), none⟩,
    ⟨some 17, .call 43 [(.t 16)], none⟩,
    ⟨some 18, .bin .add (.t 17) (.c (.int .i64 1)), none⟩,
    ⟨some 19, .bslice 45 0 2 [.int .i64 0, .slice none 0 0] [], none⟩,
    ⟨some 20, .build [.int .i64 0, .slice none 0 0] [(0, 1, (.t 18)), (1, 1, (.t 19))], none⟩,
    ⟨some 5, .alloc 34 [.int .i64 0, .slice none 0 0], none⟩,
    ⟨none, .store 2 (.t 5) (.t 20), none⟩]) <|
  .seq (.reg [⟨some 21, .mv (.t 4), none⟩,
    ⟨some 22, .call 43 [(.t 21)], none⟩,
    ⟨some 23, .bin .mul (.c (.int .i64 256)) (.t 22), none⟩,
    ⟨some 24, .mv (.t 4), none⟩,
    ⟨some 25, .call 43 [(.t 24)], none⟩,
    ⟨some 26, .bin .add (.t 23) (.t 25), none⟩,
    ⟨some 6, .mv (.t 26), none⟩]) <|
  .seq (.seq (.reg [⟨some 7, .mv (.c (.int .i64 0)), none⟩]) <|
  .block 0 (.loop impl_SaveRead.l1)) <|
  .seq (.seq (.dreg (.one 0 (.one 1 (.one 2 (.one 3 (.one 7 (.alt (.one 4 (.alt (.one 5 (.alt (.one 6 (.one 8 (.one 9 (.one 10 (.done))))) (.one 8 (.one 6 (.one 9 (.one 10 (.done))))))) (.one 8 (.one 5 (.one 6 (.one 9 (.one 10 (.done)))))))) (.one 8 (.one 4 (.one 5 (.one 6 (.one 9 (.one 10 (.done))))))))))))) [⟨some 83, .mv (.t 0), none⟩,
    ⟨some 84, .len (.t 83) false, none⟩,
    ⟨some 85, .bin .eql (.t 84) (.c (.int .i64 0)), none⟩,
    ⟨some 86, .mv (.t 85), none⟩,
    ⟨some 87, .load 2 true (.t 5), some (86, false)⟩,
    ⟨some 88, .call 20 [(.t 87)], some (86, false)⟩,
    ⟨some 89, .b2s (.t 88), some (86, false)⟩,
    ⟨some 90, .mv (.t 0), some (86, false)⟩,
    ⟨some 91, .b2s (.t 90), some (86, false)⟩,
    ⟨some 92, .bin .neq (.t 89) (.t 91), some (86, false)⟩,
    ⟨some 93, .pick (.t 86) (.c (.bool true)) (.t 92), none⟩]) <|
  .cond (.t 93) (.seq (.reg [⟨some 94, .build [.int .i64 0, .slice none 0 0] [], none⟩,
      ⟨none, .store 2 (.t 2) (.t 94), none⟩,
      ⟨some 3, .mv (.c (.bool false)), none⟩]) <|
    .ret) (.skip)) <|
  .seq (.reg [⟨some 95, .load 2 true (.t 5), none⟩,
    ⟨none, .store 2 (.t 2) (.t 95), none⟩,
    ⟨some 3, .mv (.c (.bool true)), none⟩]) <|
  .ret⟩
abbrev impl_SaveRead.id : FuncId := 26
theorem impl_SaveRead.tr : trFun Try.prog 26 = some impl_SaveRead.g := by kernel_rfl
def spec_SaveRead.l0 : IC :=
  .seq (.seq (.reg [⟨some 45, .mv (.t 9), none⟩,
    ⟨some 46, .bin .gtr (.t 45) (.c (.int .i64 0)), none⟩,
    ⟨some 47, .mv (.t 46), none⟩,
    ⟨some 48, .mv (.t 4), some (47, true)⟩,
    ⟨some 49, .nilc (.t 48), some (47, true)⟩,
    ⟨some 50, .fadr 2 (.t 49), some (47, true)⟩,
    ⟨some 51, .load 1 false (.t 50), some (47, true)⟩,
    ⟨some 52, .pick (.t 47) (.t 51) (.c (.bool false)), none⟩]) <|
  .cond (.t 52) (.skip) (.exit 2)) <|
  .seq (.block 3 (.dreg (.one 0 (.one 2 (.ld 1 (.one 3 (.one 4 (.one 5 (.one 6 (.one 7 (.done)))))) (.alt (.one 1 (.one 3 (.one 4 (.one 5 (.one 6 (.one 7 (.done))))))) (.one 3 (.one 1 (.one 4 (.one 5 (.one 6 (.one 7 (.done))))))))))) [⟨some 55, .fadr 1 (.t 8), none⟩,
      ⟨some 56, .load 1 false (.t 55), none⟩,
      ⟨some 57, .mv (.t 4), none⟩,
      ⟨some 58, .call 42 [(.t 57)], none⟩,
      ⟨some 59, .bslice 47 1 3 [.int .i64 0, .int .i64 0, .int .i64 0] [(0, (.t 58))], none⟩,
      ⟨some 60, .app 47 3 (.t 56) (.t 59), none⟩,
      ⟨some 61, .fadr 1 (.t 8), none⟩,
      ⟨none, .store 1 (.t 61) (.t 60), none⟩])) <|
  .reg [⟨some 53, .mv (.t 9), none⟩,
    ⟨some 54, .bin .sub (.t 53) (.c (.int .i64 1)), none⟩,
    ⟨some 9, .mv (.t 54), none⟩]
def spec_SaveRead.l1 : IC :=
  .seq (.seq (.reg [⟨some 29, .mv (.t 7), none⟩,
    ⟨some 30, .mv (.t 6), none⟩,
    ⟨some 31, .bin .lss (.t 29) (.t 30), none⟩,
    ⟨some 32, .mv (.t 31), none⟩,
    ⟨some 33, .mv (.t 4), some (32, true)⟩,
    ⟨some 34, .nilc (.t 33), some (32, true)⟩,
    ⟨some 35, .fadr 2 (.t 34), some (32, true)⟩,
    ⟨some 36, .load 1 false (.t 35), some (32, true)⟩,
    ⟨some 37, .pick (.t 32) (.t 36) (.c (.bool false)), none⟩]) <|
  .cond (.t 37) (.skip) (.exit 0)) <|
  .seq (.block 1 (.seq (.reg [⟨some 40, .mv (.t 4), none⟩,
      ⟨some 41, .call 41 [(.t 40)], none⟩,
      ⟨some 42, .build [.int .i64 0, .slice none 0 0] [(0, 1, (.t 41))], none⟩,
      ⟨some 8, .alloc 45 [.int .i64 0, .slice none 0 0], none⟩,
      ⟨none, .store 2 (.t 8) (.t 42), none⟩]) <|
    .seq (.seq (.reg [⟨some 43, .mv (.t 4), none⟩,
      ⟨some 44, .call 41 [(.t 43)], none⟩,
      ⟨some 9, .mv (.t 44), none⟩]) <|
    .block 2 (.loop spec_SaveRead.l0)) <|
    .reg [⟨some 62, .fadr 1 (.t 5), none⟩,
      ⟨some 63, .load 1 false (.t 62), none⟩,
      ⟨some 64, .load 2 true (.t 8), none⟩,
      ⟨some 65, .bslice 45 1 2 [.int .i64 0, .slice none 0 0] [(0, (.t 64))], none⟩,
      ⟨some 66, .app 45 2 (.t 63) (.t 65), none⟩,
      ⟨some 67, .fadr 1 (.t 5), none⟩,
      ⟨none, .store 1 (.t 67) (.t 66), none⟩])) <|
  .reg [⟨some 38, .mv (.t 7), none⟩,
    ⟨some 39, .bin .add (.t 38) (.c (.int .i64 1)), none⟩,
    ⟨some 7, .mv (.t 39), none⟩]
def spec_SaveRead.g : Fun := ⟨88, [(2, some (2, true)), (3, none)], 
  .seq (.reg [⟨some 2, .alloc 34 [.int .i64 0, .slice none 0 0], none⟩,
    ⟨some 3, .mv (.c (.bool false)), none⟩]) <|
  .seq (.reg [⟨some 10, .mv (.t 0), none⟩,
    ⟨some 11, .build [.slice none 0 0, .int .i64 0, .bool false] [(0, 1, (.t 10)), (2, 1, (.c (.bool true)))], none⟩,
    ⟨some 12, .box 59 (.t 11), none⟩,
    ⟨some 4, .mv (.t 12), none⟩]) <|
  .seq (.reg [⟨some 13, .mv (.t 4), none⟩,
    ⟨some 14, .mv (.t 4), none⟩,
    ⟨some 15, .call 41 [(.t 14)], none⟩,
    ⟨some 16, .bin .eql (.t 15) (.c (.int .i64 70)), none⟩,
    ⟨some 17, .nilc (.t 13), none⟩,
    ⟨some 18, .fadr 2 (.t 17), none⟩,
    ⟨none, .store 1 (.t 18) (.t 16), none⟩]) <|
  .seq (.reg [⟨some 19, .mv (.t 4), none⟩,
    ⟨some 20, .call 41 [(.t 19)], none⟩,
    ⟨some 21, .bin .add (.t 20) (.c (.int .i64 1)), none⟩,
    ⟨some 22, .build [.int .i64 0, .slice none 0 0] [(0, 1, (.t 21))], none⟩,
    ⟨some 5, .alloc 34 [.int .i64 0, .slice none 0 0], none⟩,
    ⟨none, .store 2 (.t 5) (.t 22), none⟩]) <|
  .seq (.reg [⟨some 23, .mv (.t 4), none⟩,
    ⟨some 24, .call 41 [(.t 23)], none⟩,
    ⟨some 25, .bin .mul (.t 24) (.c (.int .i64 256)), none⟩,
    ⟨some 26, .mv (.t 4), none⟩,
    ⟨some 27, .call 41 [(.t 26)], none⟩,
    ⟨some 28, .bin .add (.t 25) (.t 27), none⟩,
    ⟨some 6, .mv (.t 28), none⟩]) <|
  .seq (.seq (.reg [⟨some 7, .mv (.c (.int .i64 0)), none⟩]) <|
  .block 0 (.loop spec_SaveRead.l1)) <|
  .seq (.seq (.dreg (.one 0 (.one 1 (.one 2 (.one 3 (.one 4 (.one 5 (.one 9 (.alt (.one 6 (.alt (.one 7 (.alt (.one 8 (.one 10 (.one 11 (.one 12 (.one 13 (.one 14 (.one 15 (.one 16 (.one 17 (.done)))))))))) (.one 10 (.one 8 (.one 11 (.one 12 (.one 13 (.one 14 (.one 15 (.one 16 (.one 17 (.done)))))))))))) (.one 10 (.one 7 (.one 8 (.one 11 (.one 12 (.one 13 (.one 14 (.one 15 (.one 16 (.one 17 (.done))))))))))))) (.one 10 (.one 6 (.one 7 (.one 8 (.one 11 (.one 12 (.one 13 (.one 14 (.one 15 (.one 16 (.one 17 (.done)))))))))))))))))))) [⟨some 68, .mv (.t 4), none⟩,
    ⟨some 69, .nilc (.t 68), none⟩,
    ⟨some 70, .fadr 2 (.t 69), none⟩,
    ⟨some 71, .load 1 false (.t 70), none⟩,
    ⟨some 72, .un .not (.t 71), none⟩,
    ⟨some 73, .mv (.t 72), none⟩,
    ⟨some 74, .load 2 true (.t 5), some (73, false)⟩,
    ⟨some 75, .call 18 [(.t 74)], some (73, false)⟩,
    ⟨some 76, .b2s (.t 75), some (73, false)⟩,
    ⟨some 77, .mv (.t 0), some (73, false)⟩,
    ⟨some 78, .b2s (.t 77), some (73, false)⟩,
    ⟨some 79, .bin .neq (.t 76) (.t 78), some (73, false)⟩,
    ⟨some 80, .pick (.t 73) (.c (.bool true)) (.t 79), none⟩,
    ⟨some 81, .mv (.t 80), none⟩,
    ⟨some 82, .mv (.t 0), some (81, false)⟩,
    ⟨some 83, .len (.t 82) false, some (81, false)⟩,
    ⟨some 84, .bin .eql (.t 83) (.c (.int .i64 0)), some (81, false)⟩,
    ⟨some 85, .pick (.t 81) (.c (.bool true)) (.t 84), none⟩]) <|
  .cond (.t 85) (.seq (.reg [⟨some 86, .build [.int .i64 0, .slice none 0 0] [], none⟩,
      ⟨none, .store 2 (.t 2) (.t 86), none⟩,
      ⟨some 3, .mv (.c (.bool false)), none⟩]) <|
    .ret) (.skip)) <|
  .seq (.reg [⟨some 87, .load 2 true (.t 5), none⟩,
    ⟨none, .store 2 (.t 2) (.t 87), none⟩,
    ⟨some 3, .mv (.c (.bool true)), none⟩]) <|
  .ret⟩
abbrev spec_SaveRead.id : FuncId := 25
theorem spec_SaveRead.tr : trFun Try.prog 25 = some spec_SaveRead.g := by kernel_rfl
end Go.Proofs.Ytedlpghakpfjjaa
