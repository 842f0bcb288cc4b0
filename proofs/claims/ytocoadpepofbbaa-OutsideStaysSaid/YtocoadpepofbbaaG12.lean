/-
  THE CODE of some functions for the abstract machine, by program out of the translation; each with the kernel's word that the translation gives just it.
-/
import Derived.Test.YtocoadpepofbbaaG10
import Derived.Test.YtocoadpepofbbaaProg
import Derived.KernelRfl
import Derived.Test.YtocoadpepofbbaaG11
set_option maxRecDepth 100000
namespace Go.Proofs.Ytocoadpepofbbaa.AM
open Go
noncomputable def PR : FuncId → Option AFunc := prOf Go.Proofs.Try.prog
def c272 : AFunc := ⟨.seq (.region [⟨.some 2, .box (.t 0), none⟩, ⟨.some 4, .mv (.c (.bool false)), none⟩] [] false) (.seq (.region [⟨.some 5, .mv (.t 1), none⟩, ⟨.some 6, .bin .eql (.t 5) (.c (.int .i64 2)), none⟩, ⟨.some 7, .mv (.t 6), none⟩, ⟨.some 8, .mv (.t 1), .some (7, false)⟩, ⟨.some 9, .fieldAddr 4 (.t 2), .some (7, false)⟩, ⟨.some 10, .load none (.t 9), .some (7, false)⟩, ⟨.some 11, .bin .sub (.c (.int .i64 2)) (.t 10), .some (7, false)⟩, ⟨.some 12, .bin .eql (.t 8) (.t 11), .some (7, false)⟩, ⟨.some 13, .pick (.t 7) (.c (.bool true)) (.t 12), none⟩, ⟨.some 4, .mv (.t 13), none⟩] [] false) .ret), [.tmp 4], 14⟩
theorem p272 : PR 272 = some c272 := by kernel_rfl
def c253 : AFunc := ⟨.seq (.region [⟨.some 4, .mv (.c (.int .i64 0)), none⟩] [] false) (.seq (.region [⟨.some 6, .mv (.t 0), none⟩, ⟨.some 7, .nilCheck (.t 6), none⟩, ⟨.some 8, .fieldAddr 2 (.t 7), none⟩, ⟨.some 9, .load none (.t 8), none⟩, ⟨.some 10, .mv (.t 1), none⟩, ⟨.some 11, .idxSl 4 (.t 9) (.t 10), none⟩, ⟨.some 12, .fieldAddr 2 (.t 11), none⟩, ⟨.some 13, .load (.some 2) (.t 12), none⟩, ⟨.some 5, .new [.int .i64 0, .int .i64 0], none⟩, ⟨none, .store 2 (.t 5) (.t 13), none⟩] [] false) (.seq (.region [⟨.some 14, .mv (.t 0), none⟩, ⟨.some 15, .nilCheck (.t 14), none⟩, ⟨.some 16, .fieldAddr 0 (.t 15), none⟩, ⟨.some 17, .fieldAddr 0 (.t 16), none⟩, ⟨.some 18, .load none (.t 17), none⟩, ⟨.some 19, .fieldAddr 0 (.t 5), none⟩, ⟨.some 20, .load none (.t 19), none⟩, ⟨.some 21, .fieldAddr 1 (.t 5), none⟩, ⟨.some 22, .load none (.t 21), none⟩, ⟨.some 23, .bin .add (.t 22) (.c (.int .i64 2)), none⟩, ⟨.some 24, .bin .rem (.t 23) (.c (.int .i64 4)), none⟩, ⟨.some 25, .idxSl 5 (.t 18) (.t 20), none⟩, ⟨.some 26, .fieldAddr 0 (.t 25), none⟩, ⟨.some 27, .idxArr 4 1 (.t 26) (.t 24), none⟩, ⟨.some 28, .load none (.t 27), none⟩, ⟨.some 4, .mv (.t 28), none⟩] [] true) .ret)), [.tmp 4], 29⟩
theorem p253 : PR 253 = some c253 := by kernel_rfl
def c273 : AFunc := ⟨.seq (.region [⟨.some 3, .box (.t 1), none⟩, ⟨.some 4, .new [.int .i64 0, .int .i64 0], none⟩] [] false) (.seq (.region [⟨.some 6, .mv (.t 0), none⟩, ⟨.some 7, .nilCheck (.t 6), none⟩, ⟨.some 8, .fieldAddr 2 (.t 7), none⟩, ⟨.some 9, .load none (.t 8), none⟩, ⟨.some 10, .mv (.t 0), none⟩, ⟨.some 11, .nilCheck (.t 10), none⟩, ⟨.some 12, .fieldAddr 0 (.t 11), none⟩, ⟨.some 13, .fieldAddr 0 (.t 12), none⟩, ⟨.some 14, .load none (.t 13), none⟩, ⟨.some 15, .fieldAddr 0 (.t 3), none⟩, ⟨.some 16, .load none (.t 15), none⟩, ⟨.some 17, .fieldAddr 1 (.t 3), none⟩, ⟨.some 18, .load none (.t 17), none⟩, ⟨.some 19, .idxSl 5 (.t 14) (.t 16), none⟩, ⟨.some 20, .fieldAddr 0 (.t 19), none⟩, ⟨.some 21, .idxArr 4 1 (.t 20) (.t 18), none⟩, ⟨.some 22, .load none (.t 21), none⟩, ⟨.some 23, .idxSl 4 (.t 9) (.t 22), none⟩, ⟨.some 24, .load (.some 4) (.t 23), none⟩, ⟨.some 5, .new [.int .i64 0, .int .i64 0, .int .i64 0, .int .i64 0], none⟩, ⟨none, .store 4 (.t 5) (.t 24), none⟩] [] true) (.seq (.seq (.region [⟨.some 25, .fieldAddr 0 (.t 5), none⟩, ⟨.some 26, .load (.some 2) (.t 25), none⟩, ⟨.some 27, .load (.some 2) (.t 3), none⟩, ⟨.some 28, .eqAgg [.some .i64, .some .i64] false (.t 26) (.t 27), none⟩] [] false) (.cond (.t 28) (.seq (.region [⟨.some 29, .fieldAddr 2 (.t 5), none⟩, ⟨.some 30, .load (.some 2) (.t 29), none⟩, ⟨none, .store 2 (.t 4) (.t 30), none⟩] [] false) .ret) .skip)) (.seq (.region [⟨.some 31, .fieldAddr 0 (.t 5), none⟩, ⟨.some 32, .load (.some 2) (.t 31), none⟩, ⟨none, .store 2 (.t 4) (.t 32), none⟩] [] false) .ret))), [.cell (.some 2) 4], 33⟩
theorem p273 : PR 273 = some c273 := by kernel_rfl
def c182_l0 : ACode := .seq (.region [⟨.some 18, .bin .lss (.t 17) (.t 16), none⟩] [] false) (.seq (.cond (.t 18) .skip (.exit 0)) (.seq (.block 1 (.seq (.region [⟨.some 19, .mv (.t 17), none⟩, ⟨.some 5, .mv (.t 19), none⟩] [] false) (.region [⟨.some 20, .mv (.t 4), none⟩, ⟨.some 21, .mv (.t 5), none⟩, ⟨.some 22, .idxSl 1 (.t 20) (.t 21), none⟩, ⟨none, .store 1 (.t 22) (.c (.int .i64 (-1))), none⟩] [] false))) (.region [⟨.some 23, .bin .add (.t 17) (.c (.int .i64 1)), none⟩, ⟨.some 17, .mv (.t 23), none⟩] [] false)))
def c182_l1 : ACode := .seq (.seq (.region [⟨.some 35, .mv (.t 4), none⟩, ⟨.some 36, .mv (.t 8), none⟩, ⟨.some 37, .idxSl 1 (.t 35) (.t 36), none⟩, ⟨.some 38, .load none (.t 37), none⟩, ⟨.some 39, .bin .lss (.t 38) (.c (.int .i64 0)), none⟩] [] false) (.cond (.t 39) .skip (.exit 4))) (.seq (.block 5 (.region [⟨.some 43, .mv (.t 4), none⟩, ⟨.some 44, .mv (.t 8), none⟩, ⟨.some 45, .mv (.t 6), none⟩, ⟨.some 46, .idxSl 1 (.t 43) (.t 44), none⟩, ⟨none, .store 1 (.t 46) (.t 45), none⟩] [] false)) (.region [⟨.some 40, .mv (.t 0), none⟩, ⟨.some 41, .mv (.t 8), none⟩, ⟨.some 42, .call 253 [.t 40, .t 41], none⟩, ⟨.some 8, .mv (.t 42), none⟩] [] false))
def c182_l2 : ACode := .seq (.region [⟨.some 27, .bin .lss (.t 26) (.t 25), none⟩] [] false) (.seq (.cond (.t 27) .skip (.exit 2)) (.seq (.block 3 (.seq (.region [⟨.some 28, .mv (.t 26), none⟩, ⟨.some 7, .mv (.t 28), none⟩] [] false) (.seq (.seq (.region [⟨.some 29, .mv (.t 4), none⟩, ⟨.some 30, .mv (.t 7), none⟩, ⟨.some 31, .idxSl 1 (.t 29) (.t 30), none⟩, ⟨.some 32, .load none (.t 31), none⟩, ⟨.some 33, .bin .geq (.t 32) (.c (.int .i64 0)), none⟩] [] false) (.cond (.t 33) (.exit 3) .skip)) (.seq (.seq (.region [⟨.some 34, .mv (.t 7), none⟩, ⟨.some 8, .mv (.t 34), none⟩] [] false) (.block 4 (.loop c182_l1))) (.region [⟨.some 47, .mv (.t 6), none⟩, ⟨.some 48, .bin .add (.t 47) (.c (.int .i64 1)), none⟩, ⟨.some 6, .mv (.t 48), none⟩] [] false))))) (.region [⟨.some 49, .bin .add (.t 26) (.c (.int .i64 1)), none⟩, ⟨.some 26, .mv (.t 49), none⟩] [] false)))
def c182 : AFunc := ⟨.seq (.region [⟨.some 2, .mv (.c (.sl none 0 (.k 0))), none⟩, ⟨.some 3, .mv (.c (.int .i64 0)), none⟩] [] false) (.seq (.region [⟨.some 9, .mv (.t 0), none⟩, ⟨.some 10, .nilCheck (.t 9), none⟩, ⟨.some 11, .fieldAddr 2 (.t 10), none⟩, ⟨.some 12, .load none (.t 11), none⟩, ⟨.some 13, .len (.t 12), none⟩, ⟨.some 14, .mkSl [.int .i64 0] 8 (.t 13) (.t 13), none⟩, ⟨.some 4, .mv (.t 14), none⟩] [] false) (.seq (.seq (.region [⟨.some 15, .mv (.t 4), none⟩, ⟨.some 16, .len (.t 15), none⟩, ⟨.some 17, .mv (.c (.int .i64 0)), none⟩] [] false) (.block 0 (.loop c182_l0))) (.seq (.region [⟨.some 6, .mv (.c (.int .i64 0)), none⟩] [] false) (.seq (.seq (.region [⟨.some 24, .mv (.t 4), none⟩, ⟨.some 25, .len (.t 24), none⟩, ⟨.some 26, .mv (.c (.int .i64 0)), none⟩] [] false) (.block 2 (.loop c182_l2))) (.seq (.region [⟨.some 50, .mv (.t 4), none⟩, ⟨.some 51, .mv (.t 6), none⟩, ⟨.some 2, .mv (.t 50), none⟩, ⟨.some 3, .mv (.t 51), none⟩] [] false) .ret))))), [.tmp 2, .tmp 3], 52⟩
theorem p182 : PR 182 = some c182 := by kernel_rfl
def c249_l0 : ACode := .seq (.region [⟨.some 48, .bin .lss (.t 47) (.c (.int .i64 4)), none⟩] [] false) (.seq (.cond (.t 48) .skip (.exit 2)) (.seq (.block 3 (.seq (.region [⟨.some 49, .mv (.t 47), none⟩, ⟨.some 50, .index 4 1 none (.t 46) (.t 47), none⟩, ⟨.some 7, .mv (.t 49), none⟩, ⟨.some 8, .mv (.t 50), none⟩] [] false) (.seq (.region [⟨.some 51, .mv (.t 8), none⟩, ⟨.some 52, .load (.some 5) (.t 6), none⟩, ⟨.some 53, .mv (.t 7), none⟩, ⟨.some 54, .call 272 [.t 52, .t 53], none⟩, ⟨.some 55, .build [.int .i64 0, .bool false] [(0, (1, .t 51)), (1, (1, .t 54))], none⟩, ⟨.some 9, .new [.int .i64 0, .bool false], none⟩, ⟨none, .store 2 (.t 9) (.t 55), none⟩] [] false) (.seq (.seq (.region [⟨.some 57, .mv (.t 4), none⟩, ⟨.some 58, .load (.some 2) (.t 9), none⟩, ⟨.some 59, .lookup true [.some .i64, none] (.agg [.int .i64 0, .int .i64 0]) (.t 57) (.t 58) true, none⟩, ⟨.some 56, .mv (.t 59), none⟩, ⟨.some 60, .extract (.t 56) 0, none⟩, ⟨.some 61, .extract (.t 56) 1, none⟩, ⟨.some 10, .new [.int .i64 0, .int .i64 0], none⟩, ⟨none, .store 2 (.t 10) (.t 60), none⟩, ⟨.some 11, .mv (.t 61), none⟩] [] false) (.seq (.region [⟨.some 62, .mv (.t 11), none⟩, ⟨.some 63, .mv (.t 62), none⟩, ⟨.some 64, .mv (.t 8), .some (63, false)⟩, ⟨.some 65, .bin .lss (.t 64) (.c (.int .i64 0)), .some (63, false)⟩, ⟨.some 66, .pick (.t 63) (.c (.bool true)) (.t 65), none⟩, ⟨.some 67, .mv (.t 66), none⟩, ⟨.some 68, .mv (.t 8), .some (67, false)⟩, ⟨.some 69, .fieldAddr 0 (.t 1), .some (67, false)⟩, ⟨.some 70, .load none (.t 69), .some (67, false)⟩, ⟨.some 71, .len (.t 70), .some (67, false)⟩, ⟨.some 72, .bin .mul (.c (.int .i64 2)) (.t 71), .some (67, false)⟩, ⟨.some 73, .bin .geq (.t 68) (.t 72), .some (67, false)⟩, ⟨.some 74, .pick (.t 67) (.c (.bool true)) (.t 73), none⟩] [] false) (.cond (.t 74) (.seq (.region [⟨.some 2, .mv (.c (.sl none 0 (.k 0))), none⟩, ⟨.some 3, .mv (.c (.bool false)), none⟩] [] false) .ret) .skip))) (.region [⟨.some 75, .mv (.t 4), none⟩, ⟨.some 76, .load (.some 2) (.t 9), none⟩, ⟨.some 77, .mv (.t 5), none⟩, ⟨.some 78, .mv (.t 7), none⟩, ⟨.some 79, .build [.int .i64 0, .int .i64 0] [(0, (1, .t 77)), (1, (1, .t 78))], none⟩, ⟨none, .mapUpd true [.some .i64, none] (.t 75) (.t 76) (.t 79), none⟩] [] false))))) (.region [⟨.some 80, .bin .add (.t 47) (.c (.int .i64 1)), none⟩, ⟨.some 47, .mv (.t 80), none⟩] [] false)))
def c249_l1 : ACode := .seq (.region [⟨.some 33, .bin .lss (.t 32) (.t 31), none⟩] [] false) (.seq (.cond (.t 33) .skip (.exit 0)) (.seq (.block 1 (.seq (.region [⟨.some 34, .mv (.t 32), none⟩, ⟨.some 35, .idxSl 5 (.t 30) (.t 32), none⟩, ⟨.some 36, .load (.some 5) (.t 35), none⟩, ⟨.some 6, .new [.int .i64 0, .int .i64 0, .int .i64 0, .int .i64 0, .int .i64 0], none⟩, ⟨.some 5, .mv (.t 34), none⟩, ⟨none, .store 5 (.t 6) (.t 36), none⟩] [] false) (.seq (.seq (.region [⟨.some 37, .fieldAddr 4 (.t 6), none⟩, ⟨.some 38, .load none (.t 37), none⟩, ⟨.some 39, .bin .neq (.t 38) (.c (.int .i64 1)), none⟩, ⟨.some 40, .mv (.t 39), none⟩, ⟨.some 41, .fieldAddr 4 (.t 6), .some (40, true)⟩, ⟨.some 42, .load none (.t 41), .some (40, true)⟩, ⟨.some 43, .bin .neq (.t 42) (.c (.int .i64 (-1))), .some (40, true)⟩, ⟨.some 44, .pick (.t 40) (.t 43) (.c (.bool false)), none⟩] [] false) (.cond (.t 44) (.seq (.region [⟨.some 2, .mv (.c (.sl none 0 (.k 0))), none⟩, ⟨.some 3, .mv (.c (.bool false)), none⟩] [] false) .ret) .skip)) (.seq (.region [⟨.some 45, .fieldAddr 0 (.t 6), none⟩, ⟨.some 46, .load (.some 4) (.t 45), none⟩, ⟨.some 47, .mv (.c (.int .i64 0)), none⟩] [] false) (.block 2 (.loop c249_l0)))))) (.region [⟨.some 81, .bin .add (.t 32) (.c (.int .i64 1)), none⟩, ⟨.some 32, .mv (.t 81), none⟩] [] false)))
def c249_l2 : ACode := .seq (.region [⟨.some 90, .bin .lss (.t 89) (.t 88), none⟩] [] false) (.seq (.cond (.t 90) .skip (.exit 4)) (.seq (.block 5 (.seq (.region [⟨.some 91, .mv (.t 89), none⟩, ⟨.some 13, .mv (.t 91), none⟩] [] false) (.region [⟨.some 92, .mv (.t 12), none⟩, ⟨.some 93, .mv (.t 13), none⟩, ⟨.some 94, .mv (.t 4), none⟩, ⟨.some 95, .mv (.t 13), none⟩, ⟨.some 96, .build [.int .i64 0, .bool false] [(0, (1, .t 95)), (1, (1, .c (.bool true)))], none⟩, ⟨.some 97, .lookup true [.some .i64, none] (.agg [.int .i64 0, .int .i64 0]) (.t 94) (.t 96) false, none⟩, ⟨.some 98, .mv (.t 4), none⟩, ⟨.some 99, .mv (.t 13), none⟩, ⟨.some 100, .build [.int .i64 0, .bool false] [(0, (1, .t 99)), (1, (1, .c (.bool false)))], none⟩, ⟨.some 101, .lookup true [.some .i64, none] (.agg [.int .i64 0, .int .i64 0]) (.t 98) (.t 100) false, none⟩, ⟨.some 102, .build [.int .i64 0, .int .i64 0, .int .i64 0, .int .i64 0] [(0, (2, .t 97)), (2, (2, .t 101))], none⟩, ⟨.some 103, .idxSl 4 (.t 92) (.t 93), none⟩, ⟨none, .store 4 (.t 103) (.t 102), none⟩] [] true))) (.region [⟨.some 104, .bin .add (.t 89) (.c (.int .i64 1)), none⟩, ⟨.some 89, .mv (.t 104), none⟩] [] false)))
def c249 : AFunc := ⟨.seq (.region [⟨.some 1, .box (.t 0), none⟩, ⟨.some 2, .mv (.c (.sl none 0 (.k 0))), none⟩, ⟨.some 3, .mv (.c (.bool false)), none⟩] [] false) (.seq (.seq (.region [⟨.some 14, .fieldAddr 0 (.t 1), none⟩, ⟨.some 15, .load none (.t 14), none⟩, ⟨.some 16, .len (.t 15), none⟩, ⟨.some 17, .bin .gtr (.t 16) (.c (.int .i64 200)), none⟩, ⟨.some 18, .mv (.t 17), none⟩, ⟨.some 19, .fieldAddr 1 (.t 1), .some (18, false)⟩, ⟨.some 20, .load none (.t 19), .some (18, false)⟩, ⟨.some 21, .bin .lss (.t 20) (.c (.int .i64 0)), .some (18, false)⟩, ⟨.some 22, .pick (.t 18) (.c (.bool true)) (.t 21), none⟩, ⟨.some 23, .mv (.t 22), none⟩, ⟨.some 24, .fieldAddr 1 (.t 1), .some (23, false)⟩, ⟨.some 25, .load none (.t 24), .some (23, false)⟩, ⟨.some 26, .bin .gtr (.t 25) (.c (.int .i64 200)), .some (23, false)⟩, ⟨.some 27, .pick (.t 23) (.c (.bool true)) (.t 26), none⟩] [] false) (.cond (.t 27) (.seq (.region [⟨.some 2, .mv (.c (.sl none 0 (.k 0))), none⟩, ⟨.some 3, .mv (.c (.bool false)), none⟩] [] false) .ret) .skip)) (.seq (.region [⟨.some 28, .mkMap true [.some .i64, none], none⟩, ⟨.some 4, .mv (.t 28), none⟩] [] false) (.seq (.seq (.region [⟨.some 29, .fieldAddr 0 (.t 1), none⟩, ⟨.some 30, .load none (.t 29), none⟩, ⟨.some 31, .len (.t 30), none⟩, ⟨.some 32, .mv (.c (.int .i64 0)), none⟩] [] false) (.block 0 (.loop c249_l1))) (.seq (.region [⟨.some 82, .fieldAddr 0 (.t 1), none⟩, ⟨.some 83, .load none (.t 82), none⟩, ⟨.some 84, .len (.t 83), none⟩, ⟨.some 85, .bin .mul (.c (.int .i64 2)) (.t 84), none⟩, ⟨.some 86, .mkSl [.int .i64 0, .int .i64 0, .int .i64 0, .int .i64 0] 32 (.t 85) (.t 85), none⟩, ⟨.some 12, .mv (.t 86), none⟩] [] false) (.seq (.seq (.region [⟨.some 87, .mv (.t 12), none⟩, ⟨.some 88, .len (.t 87), none⟩, ⟨.some 89, .mv (.c (.int .i64 0)), none⟩] [] false) (.block 4 (.loop c249_l2))) (.seq (.region [⟨.some 105, .mv (.t 12), none⟩, ⟨.some 2, .mv (.t 105), none⟩, ⟨.some 3, .mv (.c (.bool true)), none⟩] [] false) .ret)))))), [.tmp 2, .tmp 3], 106⟩
theorem p249 : PR 249 = some c249 := by kernel_rfl
def c250_l0 : ACode := .seq (.region [⟨.some 22, .bin .lss (.t 21) (.t 20), none⟩] [] false) (.seq (.cond (.t 22) .skip (.exit 0)) (.seq (.block 1 (.seq (.region [⟨.some 23, .mv (.t 21), none⟩, ⟨.some 5, .mv (.t 23), none⟩] [] false) (.region [⟨.some 24, .mv (.t 4), none⟩, ⟨.some 25, .mv (.t 5), none⟩, ⟨.some 26, .idxSl 1 (.t 24) (.t 25), none⟩, ⟨none, .store 1 (.t 26) (.c (.int .i64 (-1))), none⟩] [] false))) (.region [⟨.some 27, .bin .add (.t 21) (.c (.int .i64 1)), none⟩, ⟨.some 21, .mv (.t 27), none⟩] [] false)))
def c250_l1 : ACode := .seq (.region [⟨.some 51, .bin .lss (.t 50) (.c (.int .i64 4)), none⟩] [] false) (.seq (.cond (.t 51) .skip (.exit 6)) (.seq (.block 7 (.seq (.region [⟨.some 52, .mv (.t 50), none⟩, ⟨.some 10, .mv (.t 52), none⟩] [] false) (.seq (.region [⟨.some 53, .mv (.t 0), none⟩, ⟨.some 54, .mv (.t 8), none⟩, ⟨.some 55, .mv (.t 9), none⟩, ⟨.some 56, .idxSl 1 (.t 54) (.t 55), none⟩, ⟨.some 57, .load none (.t 56), none⟩, ⟨.some 58, .mv (.t 10), none⟩, ⟨.some 59, .build [.int .i64 0, .int .i64 0] [(0, (1, .t 57)), (1, (1, .t 58))], none⟩, ⟨.some 60, .call 273 [.t 53, .t 59], none⟩, ⟨.some 61, .field none 0 (.t 60), none⟩, ⟨.some 11, .mv (.t 61), none⟩] [] false) (.seq (.region [⟨.some 62, .mv (.t 4), none⟩, ⟨.some 63, .mv (.t 11), none⟩, ⟨.some 64, .idxSl 1 (.t 62) (.t 63), none⟩, ⟨.some 65, .load none (.t 64), none⟩, ⟨.some 66, .bin .lss (.t 65) (.c (.int .i64 0)), none⟩] [] false) (.cond (.t 66) (.seq (.region [⟨.some 67, .mv (.t 4), none⟩, ⟨.some 68, .mv (.t 11), none⟩, ⟨.some 69, .mv (.t 6), none⟩, ⟨.some 70, .idxSl 1 (.t 67) (.t 68), none⟩, ⟨none, .store 1 (.t 70) (.t 69), none⟩] [] false) (.region [⟨.some 71, .mv (.t 8), none⟩, ⟨.some 72, .mv (.t 11), none⟩, ⟨.some 73, .buildSl [.int .i64 0] 1 [(0, (1, .t 72))], none⟩, ⟨.some 74, .append 1 8 (.t 71) (.t 73), none⟩, ⟨.some 8, .mv (.t 74), none⟩] [] false)) .skip))))) (.region [⟨.some 75, .bin .add (.t 50) (.c (.int .i64 1)), none⟩, ⟨.some 50, .mv (.t 75), none⟩] [] false)))
def c250_l2 : ACode := .seq (.seq (.region [⟨.some 44, .mv (.t 9), none⟩, ⟨.some 45, .mv (.t 8), none⟩, ⟨.some 46, .len (.t 45), none⟩, ⟨.some 47, .bin .lss (.t 44) (.t 46), none⟩] [] false) (.cond (.t 47) .skip (.exit 4))) (.seq (.block 5 (.seq (.region [⟨.some 50, .mv (.c (.int .i64 0)), none⟩] [] false) (.block 6 (.loop c250_l1)))) (.region [⟨.some 48, .mv (.t 9), none⟩, ⟨.some 49, .bin .add (.t 48) (.c (.int .i64 1)), none⟩, ⟨.some 9, .mv (.t 49), none⟩] [] false))
def c250_l3 : ACode := .seq (.region [⟨.some 31, .bin .lss (.t 30) (.t 29), none⟩] [] false) (.seq (.cond (.t 31) .skip (.exit 2)) (.seq (.block 3 (.seq (.region [⟨.some 32, .mv (.t 30), none⟩, ⟨.some 7, .mv (.t 32), none⟩] [] false) (.seq (.seq (.region [⟨.some 33, .mv (.t 4), none⟩, ⟨.some 34, .mv (.t 7), none⟩, ⟨.some 35, .idxSl 1 (.t 33) (.t 34), none⟩, ⟨.some 36, .load none (.t 35), none⟩, ⟨.some 37, .bin .geq (.t 36) (.c (.int .i64 0)), none⟩] [] false) (.cond (.t 37) (.exit 3) .skip)) (.seq (.region [⟨.some 38, .mv (.t 4), none⟩, ⟨.some 39, .mv (.t 7), none⟩, ⟨.some 40, .mv (.t 6), none⟩, ⟨.some 41, .idxSl 1 (.t 38) (.t 39), none⟩, ⟨none, .store 1 (.t 41) (.t 40), none⟩] [] false) (.seq (.region [⟨.some 42, .mv (.t 7), none⟩, ⟨.some 43, .buildSl [.int .i64 0] 1 [(0, (1, .t 42))], none⟩, ⟨.some 8, .mv (.t 43), none⟩] [] false) (.seq (.seq (.region [⟨.some 9, .mv (.c (.int .i64 0)), none⟩] [] false) (.block 4 (.loop c250_l2))) (.region [⟨.some 76, .mv (.t 6), none⟩, ⟨.some 77, .bin .add (.t 76) (.c (.int .i64 1)), none⟩, ⟨.some 6, .mv (.t 77), none⟩] [] false))))))) (.region [⟨.some 78, .bin .add (.t 30) (.c (.int .i64 1)), none⟩, ⟨.some 30, .mv (.t 78), none⟩] [] false)))
def c250 : AFunc := ⟨.seq (.region [⟨.some 2, .mv (.c (.sl none 0 (.k 0))), none⟩, ⟨.some 3, .mv (.c (.int .i64 0)), none⟩] [] false) (.seq (.region [⟨.some 12, .mv (.t 0), none⟩, ⟨.some 13, .nilCheck (.t 12), none⟩, ⟨.some 14, .fieldAddr 0 (.t 13), none⟩, ⟨.some 15, .fieldAddr 0 (.t 14), none⟩, ⟨.some 16, .load none (.t 15), none⟩, ⟨.some 17, .len (.t 16), none⟩, ⟨.some 18, .mkSl [.int .i64 0] 8 (.t 17) (.t 17), none⟩, ⟨.some 4, .mv (.t 18), none⟩] [] false) (.seq (.seq (.region [⟨.some 19, .mv (.t 4), none⟩, ⟨.some 20, .len (.t 19), none⟩, ⟨.some 21, .mv (.c (.int .i64 0)), none⟩] [] false) (.block 0 (.loop c250_l0))) (.seq (.region [⟨.some 6, .mv (.c (.int .i64 0)), none⟩] [] false) (.seq (.seq (.region [⟨.some 28, .mv (.t 4), none⟩, ⟨.some 29, .len (.t 28), none⟩, ⟨.some 30, .mv (.c (.int .i64 0)), none⟩] [] false) (.block 2 (.loop c250_l3))) (.seq (.region [⟨.some 79, .mv (.t 4), none⟩, ⟨.some 80, .mv (.t 6), none⟩, ⟨.some 2, .mv (.t 79), none⟩, ⟨.some 3, .mv (.t 80), none⟩] [] false) .ret))))), [.tmp 2, .tmp 3], 81⟩
theorem p250 : PR 250 = some c250 := by kernel_rfl
def c251_l0 : ACode := .seq (.region [⟨.some 21, .bin .lss (.t 20) (.c (.int .i64 4)), none⟩] [] false) (.seq (.cond (.t 21) .skip (.exit 2)) (.seq (.block 3 (.seq (.region [⟨.some 22, .mv (.t 20), none⟩, ⟨.some 6, .mv (.t 22), none⟩] [] false) (.seq (.region [⟨.some 23, .mv (.t 5), none⟩, ⟨.some 24, .mv (.t 6), none⟩, ⟨.some 25, .build [.int .i64 0, .int .i64 0] [(0, (1, .t 23)), (1, (1, .t 24))], none⟩, ⟨.some 7, .new [.int .i64 0, .int .i64 0], none⟩, ⟨none, .store 2 (.t 7) (.t 25), none⟩] [] false) (.seq (.seq (.region [⟨.some 26, .load none (.t 3), none⟩, ⟨.some 27, .load (.some 2) (.t 7), none⟩, ⟨.some 28, .lookup true [.some .i64, .some .i64] (.bool false) (.t 26) (.t 27) false, none⟩] [] false) (.cond (.t 28) (.exit 3) .skip)) (.seq (.region [⟨.some 8, .new [.sl none 0 (.k 0)], none⟩] [] false) (.seq (.seq (.region [⟨.some 29, .mv (.t 0), none⟩, ⟨.some 30, .load (.some 2) (.t 7), none⟩, ⟨.some 31, .call 274 [.t 29, .t 30], none⟩] [] false) (.block 4 (.rangeF (.t 31) [32] (.region [⟨.some 9, .new [.int .i64 0, .int .i64 0], none⟩, ⟨none, .store 2 (.t 9) (.t 32), none⟩] [] false) (.block 5 (.seq (.region [⟨.some 33, .load none (.t 3), none⟩, ⟨.some 34, .load (.some 2) (.t 9), none⟩, ⟨none, .mapUpd true [.some .i64, .some .i64] (.t 33) (.t 34) (.c (.bool true)), none⟩] [] false) (.region [⟨.some 35, .load none (.t 8), none⟩, ⟨.some 36, .load (.some 2) (.t 9), none⟩, ⟨.some 37, .buildSl [.int .i64 0, .int .i64 0] 1 [(0, (2, .t 36))], none⟩, ⟨.some 38, .append 2 16 (.t 35) (.t 37), none⟩, ⟨none, .store 1 (.t 8) (.t 38), none⟩] [] false)))))) (.region [⟨.some 39, .mv (.t 4), none⟩, ⟨.some 40, .load none (.t 8), none⟩, ⟨.some 41, .buildSl [.sl none 0 (.k 0)] 1 [(0, (1, .t 40))], none⟩, ⟨.some 42, .append 1 24 (.t 39) (.t 41), none⟩, ⟨.some 4, .mv (.t 42), none⟩] [] false))))))) (.region [⟨.some 43, .bin .add (.t 20) (.c (.int .i64 1)), none⟩, ⟨.some 20, .mv (.t 43), none⟩] [] false)))
def c251_l1 : ACode := .seq (.region [⟨.some 18, .bin .lss (.t 17) (.t 16), none⟩] [] false) (.seq (.cond (.t 18) .skip (.exit 0)) (.seq (.block 1 (.seq (.region [⟨.some 19, .mv (.t 17), none⟩, ⟨.some 5, .mv (.t 19), none⟩] [] false) (.seq (.region [⟨.some 20, .mv (.c (.int .i64 0)), none⟩] [] false) (.block 2 (.loop c251_l0))))) (.region [⟨.some 44, .bin .add (.t 17) (.c (.int .i64 1)), none⟩, ⟨.some 17, .mv (.t 44), none⟩] [] false)))
def c251 : AFunc := ⟨.seq (.region [⟨.some 2, .mv (.c (.sl none 0 (.k 0))), none⟩] [] false) (.seq (.region [⟨.some 10, .mkMap true [.some .i64, .some .i64], none⟩, ⟨.some 3, .new [.map none], none⟩, ⟨none, .store 1 (.t 3) (.t 10), none⟩] [] false) (.seq (.region [⟨.some 4, .mv (.c (.sl none 0 (.k 0))), none⟩] [] false) (.seq (.seq (.region [⟨.some 11, .mv (.t 0), none⟩, ⟨.some 12, .nilCheck (.t 11), none⟩, ⟨.some 13, .fieldAddr 0 (.t 12), none⟩, ⟨.some 14, .fieldAddr 0 (.t 13), none⟩, ⟨.some 15, .load none (.t 14), none⟩, ⟨.some 16, .len (.t 15), none⟩, ⟨.some 17, .mv (.c (.int .i64 0)), none⟩] [] false) (.block 0 (.loop c251_l1))) (.seq (.region [⟨.some 45, .mv (.t 4), none⟩, ⟨.some 2, .mv (.t 45), none⟩] [] false) .ret)))), [.tmp 2], 46⟩
theorem p251 : PR 251 = some c251 := by kernel_rfl
def c274 : AFunc := ⟨.seq (.region [⟨.some 2, .box (.t 0), none⟩, ⟨.some 3, .box (.t 1), none⟩, ⟨.some 4, .mv (.c .nilFn), none⟩] [] false) (.seq (.region [⟨.some 5, .mkFn 279 [.t 3, .t 2], none⟩, ⟨.some 4, .mv (.t 5), none⟩] [] false) .ret), [.tmp 4], 6⟩
theorem p274 : PR 274 = some c274 := by kernel_rfl
def c279_l0 : ACode := .seq (.seq (.region [⟨.some 6, .mv (.t 0), none⟩, ⟨.some 7, .load (.some 2) (.t 4), none⟩, ⟨.some 8, .callV (.t 6) [.t 7], none⟩] [] false) (.cond (.t 8) .skip (.exit 0))) (.seq (.block 1 (.seq (.region [⟨.some 9, .load none (.t 2), none⟩, ⟨.some 10, .load (.some 2) (.t 4), none⟩, ⟨.some 11, .call 273 [.t 9, .t 10], none⟩, ⟨none, .store 2 (.t 4) (.t 11), none⟩] [] false) (.seq (.region [⟨.some 12, .fieldAddr 1 (.t 4), none⟩, ⟨.some 13, .load none (.t 12), none⟩, ⟨.some 14, .bin .add (.t 13) (.c (.int .i64 3)), none⟩, ⟨.some 15, .bin .rem (.t 14) (.c (.int .i64 4)), none⟩, ⟨.some 16, .fieldAddr 1 (.t 4), none⟩, ⟨none, .store 1 (.t 16) (.t 15), none⟩] [] false) (.seq (.region [⟨.some 17, .load (.some 2) (.t 4), none⟩, ⟨.some 18, .load (.some 2) (.t 1), none⟩, ⟨.some 19, .eqAgg [.some .i64, .some .i64] false (.t 17) (.t 18), none⟩] [] false) (.cond (.t 19) .ret .skip))))) (.seq (.region [⟨.some 20, .load (.some 2) (.t 4), none⟩] [] false) (.region [⟨.some 4, .new [.int .i64 0, .int .i64 0], none⟩, ⟨none, .store 2 (.t 4) (.t 20), none⟩] [] false)))
def c279 : AFunc := ⟨.seq (.region [⟨.some 5, .load (.some 2) (.t 1), none⟩, ⟨.some 4, .new [.int .i64 0, .int .i64 0], none⟩, ⟨none, .store 2 (.t 4) (.t 5), none⟩] [] false) (.block 0 (.loop c279_l0)), [], 21⟩
theorem p279 : PR 279 = some c279 := by kernel_rfl
def c179_l0 : ACode := .seq (.region [⟨.some 38, .bin .lss (.t 37) (.t 36), none⟩] [] false) (.seq (.cond (.t 38) .skip (.exit 0)) (.seq (.block 1 (.seq (.region [⟨.some 39, .mv (.t 37), none⟩, ⟨.some 10, .mv (.t 39), none⟩] [] false) (.region [⟨.some 40, .mv (.t 9), none⟩, ⟨.some 41, .mv (.t 10), none⟩, ⟨.some 42, .idxSl 1 (.t 40) (.t 41), none⟩, ⟨none, .store 1 (.t 42) (.c (.int .i64 2)), none⟩] [] false))) (.region [⟨.some 43, .bin .add (.t 37) (.c (.int .i64 1)), none⟩, ⟨.some 37, .mv (.t 43), none⟩] [] false)))
def c179_l1 : ACode := .seq (.region [⟨.some 47, .bin .lss (.t 46) (.t 45), none⟩] [] false) (.seq (.cond (.t 47) .skip (.exit 2)) (.seq (.block 3 (.seq (.region [⟨.some 48, .idxSl 1 (.t 44) (.t 46), none⟩, ⟨.some 49, .load none (.t 48), none⟩, ⟨.some 12, .mv (.t 49), none⟩] [] false) (.region [⟨.some 50, .mv (.t 9), none⟩, ⟨.some 51, .mv (.t 12), none⟩, ⟨.some 52, .idxSl 1 (.t 50) (.t 51), none⟩, ⟨.some 53, .load none (.t 52), none⟩, ⟨.some 54, .bin .add (.t 53) (.c (.int .i64 1)), none⟩, ⟨.some 55, .idxSl 1 (.t 50) (.t 51), none⟩, ⟨none, .store 1 (.t 55) (.t 54), none⟩] [] false))) (.region [⟨.some 56, .bin .add (.t 46) (.c (.int .i64 1)), none⟩, ⟨.some 46, .mv (.t 56), none⟩] [] false)))
def c179_l2 : ACode := .seq (.region [⟨.some 61, .bin .lss (.t 60) (.t 59), none⟩] [] false) (.seq (.cond (.t 61) .skip (.exit 4)) (.seq (.block 5 (.seq (.region [⟨.some 62, .idxSl 1 (.t 58) (.t 60), none⟩, ⟨.some 63, .load none (.t 62), none⟩, ⟨.some 14, .mv (.t 63), none⟩] [] false) (.region [⟨.some 64, .mv (.t 9), none⟩, ⟨.some 65, .mv (.t 7), none⟩, ⟨.some 66, .mv (.t 14), none⟩, ⟨.some 67, .idxSl 2 (.t 66) (.c (.int .i64 0)), none⟩, ⟨.some 68, .fieldAddr 0 (.t 67), none⟩, ⟨.some 69, .load none (.t 68), none⟩, ⟨.some 70, .idxSl 1 (.t 65) (.t 69), none⟩, ⟨.some 71, .load none (.t 70), none⟩, ⟨.some 72, .idxSl 1 (.t 64) (.t 71), none⟩, ⟨.some 73, .load none (.t 72), none⟩, ⟨.some 74, .bin .sub (.t 73) (.c (.int .i64 1)), none⟩, ⟨.some 75, .idxSl 1 (.t 64) (.t 71), none⟩, ⟨none, .store 1 (.t 75) (.t 74), none⟩] [] false))) (.region [⟨.some 76, .bin .add (.t 60) (.c (.int .i64 1)), none⟩, ⟨.some 60, .mv (.t 76), none⟩] [] false)))
def c179_l3 : ACode := .seq (.region [⟨.some 80, .bin .lss (.t 79) (.t 78), none⟩] [] false) (.seq (.cond (.t 80) .skip (.exit 6)) (.seq (.block 7 (.seq (.region [⟨.some 81, .idxSl 1 (.t 77) (.t 79), none⟩, ⟨.some 82, .load none (.t 81), none⟩, ⟨.some 16, .mv (.t 82), none⟩] [] false) (.seq (.region [⟨.some 83, .mv (.t 16), none⟩, ⟨.some 84, .bin .neq (.t 83) (.c (.int .i64 0)), none⟩] [] false) (.cond (.t 84) (.seq (.region [⟨.some 2, .mv (.c (.ptr none)), none⟩, ⟨.some 3, .mv (.c (.int .i64 221)), none⟩] [] false) .ret) .skip)))) (.region [⟨.some 85, .bin .add (.t 79) (.c (.int .i64 1)), none⟩, ⟨.some 79, .mv (.t 85), none⟩] [] false)))
def c179 : AFunc := ⟨.seq (.region [⟨.some 1, .box (.t 0), none⟩, ⟨.some 2, .mv (.c (.ptr none)), none⟩, ⟨.some 3, .mv (.c (.int .i64 0)), none⟩] [] false) (.seq (.region [⟨.some 18, .load (.some 2) (.t 1), none⟩, ⟨.some 19, .call 249 [.t 18], none⟩, ⟨.some 17, .mv (.t 19), none⟩, ⟨.some 20, .extract (.t 17) 0, none⟩, ⟨.some 21, .extract (.t 17) 1, none⟩, ⟨.some 4, .mv (.t 20), none⟩, ⟨.some 5, .mv (.t 21), none⟩] [] false) (.seq (.seq (.region [⟨.some 22, .mv (.t 5), none⟩, ⟨.some 23, .un .not (.t 22), none⟩] [] false) (.cond (.t 23) (.seq (.region [⟨.some 2, .mv (.c (.ptr none)), none⟩, ⟨.some 3, .mv (.c (.int .i64 220)), none⟩] [] false) .ret) .skip)) (.seq (.region [⟨.some 24, .load (.some 2) (.t 1), none⟩, ⟨.some 25, .mv (.t 4), none⟩, ⟨.some 26, .build [.sl none 0 (.k 0), .int .i64 0, .sl none 0 (.k 0)] [(0, (2, .t 24)), (2, (1, .t 25))], none⟩, ⟨.some 27, .box (.t 26), none⟩, ⟨.some 6, .mv (.t 27), none⟩] [] false) (.seq (.region [⟨.some 29, .mv (.t 6), none⟩, ⟨.some 30, .call 250 [.t 29], none⟩, ⟨.some 28, .mv (.t 30), none⟩, ⟨.some 31, .extract (.t 28) 0, none⟩, ⟨.some 32, .extract (.t 28) 1, none⟩, ⟨.some 7, .mv (.t 31), none⟩, ⟨.some 8, .mv (.t 32), none⟩] [] false) (.seq (.region [⟨.some 33, .mv (.t 8), none⟩, ⟨.some 34, .mkSl [.int .i64 0] 8 (.t 33) (.t 33), none⟩, ⟨.some 9, .mv (.t 34), none⟩] [] false) (.seq (.seq (.region [⟨.some 35, .mv (.t 9), none⟩, ⟨.some 36, .len (.t 35), none⟩, ⟨.some 37, .mv (.c (.int .i64 0)), none⟩] [] false) (.block 0 (.loop c179_l0))) (.seq (.seq (.region [⟨.some 44, .mv (.t 7), none⟩, ⟨.some 45, .len (.t 44), none⟩, ⟨.some 46, .mv (.c (.int .i64 0)), none⟩] [] false) (.block 2 (.loop c179_l1))) (.seq (.seq (.region [⟨.some 57, .mv (.t 6), none⟩, ⟨.some 58, .call 251 [.t 57], none⟩, ⟨.some 59, .len (.t 58), none⟩, ⟨.some 60, .mv (.c (.int .i64 0)), none⟩] [] false) (.block 4 (.loop c179_l2))) (.seq (.seq (.region [⟨.some 77, .mv (.t 9), none⟩, ⟨.some 78, .len (.t 77), none⟩, ⟨.some 79, .mv (.c (.int .i64 0)), none⟩] [] false) (.block 6 (.loop c179_l3))) (.seq (.region [⟨.some 86, .mv (.t 6), none⟩, ⟨.some 2, .mv (.t 86), none⟩, ⟨.some 3, .mv (.c (.int .i64 0)), none⟩] [] false) .ret)))))))))), [.tmp 2, .tmp 3], 87⟩
theorem p179 : PR 179 = some c179 := by kernel_rfl
def c101 : AFunc := ⟨.seq (.region [⟨.some 1, .box (.t 0), none⟩, ⟨.some 2, .mv (.c (.int .i64 0)), none⟩] [] false) (.seq (.region [⟨.some 6, .load (.some 2) (.t 1), none⟩, ⟨.some 7, .call 179 [.t 6], none⟩, ⟨.some 5, .mv (.t 7), none⟩, ⟨.some 8, .extract (.t 5) 0, none⟩, ⟨.some 9, .extract (.t 5) 1, none⟩, ⟨.some 3, .mv (.t 8), none⟩, ⟨.some 4, .mv (.t 9), none⟩] [] false) (.seq (.region [⟨.some 10, .mv (.t 4), none⟩, ⟨.some 2, .mv (.t 10), none⟩] [] false) .ret)), [.tmp 2], 11⟩
theorem p101 : PR 101 = some c101 := by kernel_rfl
def c104 : AFunc := ⟨.seq (.region [⟨.some 1, .box (.t 0), none⟩, ⟨.some 2, .mv (.c (.sl none 0 (.k 0))), none⟩, ⟨.some 3, .mv (.c (.int .i64 0)), none⟩, ⟨.some 4, .mv (.c (.int .i64 0)), none⟩] [] false) (.seq (.region [⟨.some 8, .load (.some 2) (.t 1), none⟩, ⟨.some 9, .call 179 [.t 8], none⟩, ⟨.some 7, .mv (.t 9), none⟩, ⟨.some 10, .extract (.t 7) 0, none⟩, ⟨.some 11, .extract (.t 7) 1, none⟩, ⟨.some 5, .mv (.t 10), none⟩, ⟨.some 6, .mv (.t 11), none⟩] [] false) (.seq (.seq (.region [⟨.some 12, .mv (.t 6), none⟩, ⟨.some 13, .bin .neq (.t 12) (.c (.int .i64 0)), none⟩] [] false) (.cond (.t 13) (.seq (.region [⟨.some 14, .mv (.t 6), none⟩, ⟨.some 2, .mv (.c (.sl none 0 (.k 0))), none⟩, ⟨.some 3, .mv (.c (.int .i64 0)), none⟩, ⟨.some 4, .mv (.t 14), none⟩] [] false) .ret) .skip)) (.seq (.region [⟨.some 16, .mv (.t 5), none⟩, ⟨.some 17, .call 182 [.t 16], none⟩, ⟨.some 15, .mv (.t 17), none⟩, ⟨.some 18, .extract (.t 15) 0, none⟩, ⟨.some 19, .extract (.t 15) 1, none⟩, ⟨.some 2, .mv (.t 18), none⟩, ⟨.some 3, .mv (.t 19), none⟩] [] false) (.seq (.region [⟨.some 20, .mv (.t 2), none⟩, ⟨.some 21, .mv (.t 3), none⟩, ⟨.some 22, .mv (.t 5), none⟩, ⟨.some 23, .nilCheck (.t 22), none⟩, ⟨.some 24, .fieldAddr 0 (.t 23), none⟩, ⟨.some 25, .fieldAddr 1 (.t 24), none⟩, ⟨.some 26, .load none (.t 25), none⟩, ⟨.some 27, .bin .add (.t 21) (.t 26), none⟩, ⟨.some 2, .mv (.t 20), none⟩, ⟨.some 3, .mv (.t 27), none⟩, ⟨.some 4, .mv (.c (.int .i64 0)), none⟩] [] true) .ret)))), [.tmp 2, .tmp 3, .tmp 4], 28⟩
theorem p104 : PR 104 = some c104 := by kernel_rfl
def c180 : AFunc := ⟨.seq (.region [⟨.some 1, .box (.t 0), none⟩, ⟨.some 2, .mv (.c (.sl none 0 (.k 0))), none⟩, ⟨.some 3, .mv (.c (.int .i64 0)), none⟩] [] false) (.seq (.region [⟨.some 7, .load (.some 2) (.t 1), none⟩, ⟨.some 8, .call 179 [.t 7], none⟩, ⟨.some 6, .mv (.t 8), none⟩, ⟨.some 9, .extract (.t 6) 0, none⟩, ⟨.some 10, .extract (.t 6) 1, none⟩, ⟨.some 4, .mv (.t 9), none⟩, ⟨.some 5, .mv (.t 10), none⟩] [] false) (.seq (.seq (.region [⟨.some 11, .mv (.t 5), none⟩, ⟨.some 12, .bin .neq (.t 11) (.c (.int .i64 0)), none⟩] [] false) (.cond (.t 12) (.seq (.region [⟨.some 13, .mv (.t 5), none⟩, ⟨.some 2, .mv (.c (.sl none 0 (.k 0))), none⟩, ⟨.some 3, .mv (.t 13), none⟩] [] false) .ret) .skip)) (.seq (.region [⟨.some 14, .mv (.t 4), none⟩, ⟨.some 15, .call 251 [.t 14], none⟩, ⟨.some 2, .mv (.t 15), none⟩, ⟨.some 3, .mv (.c (.int .i64 0)), none⟩] [] false) .ret))), [.tmp 2, .tmp 3], 16⟩
theorem p180 : PR 180 = some c180 := by kernel_rfl
end Go.Proofs.Ytocoadpepofbbaa.AM

/-
  THE PACKAGE diag, part 1: what its small functions return.
-/
set_option linter.unusedVariables false
set_option linter.unusedSimpArgs false
set_option maxRecDepth 10000
namespace Go.Proofs.Ytocoadpepofbbaa.AM
open Go

structure X where
  a0 : Int
  a1 : Int
  a2 : Int
  a3 : Int
  s : Int
  deriving DecidableEq, Inhabited
def X.cells (x : X) : List AV := [I x.a0, I x.a1, I x.a2, I x.a3, I x.s]
def X.arc (x : X) : Nat → Int
  | 0 => x.a0
  | 1 => x.a1
  | 2 => x.a2
  | _ => x.a3
@[simp] theorem X.cells_length (x : X) : x.cells.length = 5 := (rfl)
@[simp] theorem X.cells_take (x : X) : x.cells.take 5 = x.cells := (rfl)
@[simp] theorem X.cells_4 (x : X) : x.cells[4]? = some (I x.s) := (rfl)
@[simp] theorem X.cells_take4 (x : X) : x.cells.take 4 = [I x.a0, I x.a1, I x.a2, I x.a3] := (rfl)
theorem X.cells_one (x : X) : x.cells.all AV.one = true := (rfl)
theorem X.cells_refs (x : X) : refsL x.cells = [] := by simp [X.cells]
/-- Whether a strand goes out at a place. -/
def X.out (x : X) (p : Nat) : Bool := (p : Int) == 2 || (p : Int) == IntKind.i64.wrap (2 - x.s)
structure E where
  bc : Nat
  bp : Nat
  ec : Nat
  ep : Nat
  deriving DecidableEq, Inhabited
def E.cells (x : E) : List AV := [I x.bc, I x.bp, I x.ec, I x.ep]
@[simp] theorem E.cells_length (x : E) : x.cells.length = 4 := (rfl)
theorem E.cells_refs (x : E) : refsL x.cells = [] := by simp [E.cells]

/-- A pointer to a diagram with the places of its arcs. -/
def DP (h : List ABlk) (v : AV) (xs : List X) (loops : Int) (es : List E) : Prop :=
  ∃ b ro ac cc ae ce, v = .ptr (some ⟨b, 3, 0⟩) ∧ h[b]? = some (.row ro [.sl ac xs.length cc, I loops, .sl ae es.length ce]) ∧
    SlAt h ac xs.length 5 (xs.flatMap X.cells) ∧ SlAt h ae es.length 4 (es.flatMap E.cells)
theorem DP.ext {h l : List ABlk} {v : AV} {xs : List X} {loops : Int} {es : List E} (H : DP h v xs loops es) : DP (h ++ l) v xs loops es := by
  obtain ⟨b, ro, ac, cc, ae, ce, hv, hb, h1, h2⟩ := H
  exact ⟨b, ro, ac, cc, ae, ce, hv, hget_some hb, h1.ext, h2.ext⟩

theorem lt_get {α : Type} {l : List α} {i : Nat} {x : α} (h : l[i]? = some x) : i < l.length := (List.getElem?_eq_some_iff.mp h).1

theorem out_c (h : List ABlk) (x : X) (p : Nat) : Ends PR (.f 272) [.agg x.cells, I p] h ⟨.bool (x.out p), h, [], none⟩ := by
  unfold X.out
  generalize (p : Int) = p
  refine ends_of p272 (by simp [c272]) ?_
  simp +contextual [c272, X.cells, gc_none]

theorem arc_get (x : X) {p : Nat} (hp : p < 4) : x.cells[p]? = some (I (x.arc p)) := by
  match p, hp with
  | 0, _ => rfl
  | 1, _ => rfl
  | 2, _ => rfl
  | 3, _ => rfl

theorem next_c {h : List ABlk} {v : AV} {xs : List X} {loops : Int} {es : List E} (H : DP h v xs loops es) {a : Nat} {E0 : E} {X0 : X}
    (hE : es[a]? = some E0) (hX : xs[E0.ec]? = some X0) (hp : E0.ep < 4) : Ends PR (.f 253) [v, I a] h ⟨I (X0.arc ((E0.ep + 2) % 4)), h, [], none⟩ := by
  obtain ⟨b, ro, ac, cc, ae, ce, rfl, hb, hC, hA⟩ := H
  have ha := lt_get hE
  have hx := lt_get hX
  obtain ⟨ba, roa, rfl, hA', hA, lA⟩ := hA.get ha
  obtain ⟨bc, roc, rfl, hC', hC, lC⟩ := hC.get hx
  have hb' := fun l => hget_some (l := l) hb
  have hT : List.take 2 (List.drop (a * 4 + 2) (es.flatMap E.cells)) = [I E0.ec, I E0.ep] := flatMap_at' (k := 4) (fun _ => rfl) hE (by omega)
  have hw : IntKind.i64.wrap ((E0.ep : Int) + 2) = (E0.ep : Int) + 2 := wrap64 (by omega) (by omega)
  have hm : ((E0.ep : Int) + 2).tmod 4 = ((E0.ep + 2) % 4 : Nat) := by
    rw [show ((E0.ep : Int) + 2) = ((E0.ep + 2 : Nat) : Int) by omega]; rfl
  have hg : (xs.flatMap X.cells)[E0.ec * 5 + (E0.ep + 2) % 4]? = some (I (X0.arc ((E0.ep + 2) % 4))) := by
    rw [flatMap_get (k := 5) (fun _ => rfl) hX (by omega)]; exact arc_get _ (by omega)
  have e3 : a * 4 + 2 + 2 ≤ es.length * 4 := by omega
  have e4 : ((E0.ep + 2) % 4 : Int) < 4 := by omega
  have e5 : (0:Int) ≤ ((E0.ep : Int) + 2) % 4 := by omega
  have e6 : (((E0.ep : Int) + 2) % 4).toNat = (E0.ep + 2) % 4 := by omega
  refine ends_of p253 (by simp [c253]) ?_
  simp [c253, hb', hb, hA, hA', hC', hT, ha, lA, e3, hw, hm, hx, e4, hg, lC, gc_none, e5, e6]

/-- The other place of the arc at a place. -/
def otherS (es : List E) (a : Nat) (c p : Nat) : Nat × Nat :=
  match es[a]? with
  | some E0 => if E0.bc = c ∧ E0.bp = p then (E0.ec, E0.ep) else (E0.bc, E0.bp)
  | none => (c, p)

theorem other_c {h : List ABlk} {v : AV} {xs : List X} {loops : Int} {es : List E} (H : DP h v xs loops es) {c p a : Nat} {E0 : E} {X0 : X}
    (hX : xs[c]? = some X0) (hp : p < 4) (hXa : X0.arc p = a) (hE : es[a]? = some E0) : Ends PR (.f 273) [v, .agg [I c, I p]] h ⟨.agg [I (otherS es a c p).1, I (otherS es a c p).2], h, [], none⟩ := by
  obtain ⟨b, ro, ac, cc, ae, ce, rfl, hb, hC, hA⟩ := H
  have ha := lt_get hE
  have hx := lt_get hX
  obtain ⟨ba, roa, rfl, hA', hA, lA⟩ := hA.get ha
  obtain ⟨bc, roc, rfl, hC', hC, lC⟩ := hC.get hx
  have hb' := fun l => hget_some (l := l) hb
  have hT : List.take 4 (List.drop (a * 4) (es.flatMap E.cells)) = [I E0.bc, I E0.bp, I E0.ec, I E0.ep] := flatMap_at (k := 4) (fun _ => rfl) hE
  have hg : (xs.flatMap X.cells)[c * 5 + p]? = some (I a) := by
    rw [flatMap_get (k := 5) (fun _ => rfl) hX (by omega), ← hXa]; exact arc_get _ (by omega)
  have e3 : a * 4 + 4 ≤ es.length * 4 := by omega
  have e4 : (p : Int) < 4 := by omega
  simp only [otherS, hE]
  refine ends_of p273 (by simp [c273]) ?_
  simp [c273, hb', hb, hA, hA', hC, hC', hT, ha, lA, e3, hp, hx, e4, hg, lC, gc_none]
  by_cases h1 : E0.bc = c <;> by_cases h2 : E0.bp = p <;> simp [h1, h2] <;> omega

def walkSet (nxt : Nat → Nat) (n : Int) : Nat → List Int → Nat → List Int
  | 0, of, _ => of
  | f + 1, of, b => if (of[b]?).getD 0 < 0 then walkSet nxt n f (of.set b n) (nxt b) else of
def compStep (nxt : Nat → Nat) (m : Nat) (s : List Int × Int) (a : Nat) : List Int × Int :=
  if 0 ≤ (s.1[a]?).getD 0 then s else (walkSet nxt s.2 (m + 1) s.1 a, s.2 + 1)
def comps (nxt : Nat → Nat) (m i : Nat) : List Int × Int := (List.range i).foldl (compStep nxt m) (List.replicate m (-1), 0)



theorem c182_l0_wp {Q : ExK} {M : Nat} {h : List ABlk} {mt : Mt} {e : List AV} {p0 : AV} (hM : M ≤ 1000) (hb : mt = ⟨h.length, [], none⟩)
    (e0 : eget e 0 = p0) (e4 : eget e 4 = .sl (some ⟨h.length, M, 0⟩) M (.k M)) (e16 : eget e 16 = I M) (e17 : eget e 17 = I 0)
    (hQ : ∀ e', eget e' 0 = p0 → eget e' 4 = .sl (some ⟨h.length, M, 0⟩) M (.k M) → Q .normal e' (h ++ [.row false (List.replicate M (I (-1)))]) mt) :
    wp PR h.length false (.loop c182_l0) e (h ++ [.row false (List.replicate M (I 0))]) mt (onBlk 0 Q) := by
  subst hb
  refine wp_range (n := M) (fun i e h' m => eget e 0 = p0 ∧ eget e 4 = .sl (some ⟨h.length, M, 0⟩) M (.k M) ∧ eget e 16 = I M ∧
    h' = h ++ [.row false (fillS M i (I (-1)) (I 0))] ∧ m = ⟨h.length, [], none⟩) (by omega) (by simp) ?_ ?_ (by simp [e0, e4, e16]) e17 ?_ ?_
  · rintro i e h m t v (rfl | rfl | rfl) hJ <;> simpa using hJ
  · rintro i e h m ⟨e0, e4, e16, rfl, rfl⟩; exact e16
  · rintro i e _ _ hi ⟨e0, e4, e16, rfl, rfl⟩ e17
    have hl : (fillS M i (I (-1)) (I 0)).length = M := fillS_len (by omega)
    simp [e0, e4, e16, e17, hi, fillS_set hi, hl]; omega
  · rintro e h m ⟨e0, e4, e16, rfl, rfl⟩
    simpa using hQ _ e0 e4

def negs (l : List Int) : Nat := l.countP (fun x => decide (x < 0))
theorem negs_set : ∀ {l : List Int} {b : Nat} {x n : Int}, l[b]? = some x → x < 0 → 0 ≤ n → negs (l.set b n) < negs l
  | [], _, _, _, h, _, _ => by simp at h
  | y :: l, 0, x, n, h, hx, hn => by
    simp at h; subst h
    have : ¬ n < 0 := by omega
    simp [negs, hx, this]
  | y :: l, b + 1, x, n, h, hx, hn => by
    have := negs_set (l := l) (b := b) (by simpa using h) hx hn
    simp only [negs, List.set_cons_succ, List.countP_cons] at *
    omega
theorem negs_le (l : List Int) : negs l ≤ l.length := List.countP_le_length

/-- What is known of the arcs of a diagram: the next one. -/
def NextOk (xs : List X) (es : List E) (nxt : Nat → Nat) : Prop :=
  ∀ a, a < es.length → ∃ E0 X0, es[a]? = some E0 ∧ xs[E0.ec]? = some X0 ∧ E0.ep < 4 ∧ X0.arc ((E0.ep + 2) % 4) = nxt a ∧ nxt a < es.length

theorem c182_l1_wp {Q : ExK} {h : List ABlk} {v : AV} {xs : List X} {loops : Int} {es : List E} (H : DP h v xs loops es) {nxt : Nat → Nat} (hn : NextOk xs es nxt) (hM : es.length ≤ 1000)
    {e : List AV} {n : Int} (hn0 : 0 ≤ n) {L : List Int} {b : Nat} (hL : L.length = es.length) (hb : b < es.length) {x25 x26 x7 : AV}
    (e0 : eget e 0 = v) (e4 : eget e 4 = SL h.length es.length) (e6 : eget e 6 = I n) (e7 : eget e 7 = x7) (e8 : eget e 8 = I b) (e25 : eget e 25 = x25) (e26 : eget e 26 = x26)
    (hQ : ∀ e', eget e' 0 = v → eget e' 4 = SL h.length es.length → eget e' 6 = I n → eget e' 7 = x7 → eget e' 25 = x25 → eget e' 26 = x26 →
      Q .normal e' (h ++ [.row false ((walkSet nxt n (es.length + 1) L b).map I)]) (M0 h)) :
    wp PR h.length false (.loop c182_l1) e (h ++ [.row false (L.map I)]) (M0 h) (onBlk 4 Q) := by
  generalize hR : walkSet nxt n (es.length + 1) L b = R at hQ
  refine wp_loopN (α := Nat × List Int × Nat) (fun a e h' m => eget e 0 = v ∧ eget e 4 = SL h.length es.length ∧ eget e 6 = I n ∧ eget e 7 = x7 ∧ eget e 25 = x25 ∧ eget e 26 = x26 ∧
    eget e 8 = I a.2.2 ∧ h' = h ++ [.row false (a.2.1.map I)] ∧ m = M0 h ∧ a.2.1.length = es.length ∧ a.2.2 < es.length ∧ negs a.2.1 < a.1 ∧
    walkSet nxt n a.1 a.2.1 a.2.2 = R) (fun a => a.1) (fun a => (a.1 - 1, a.2.1.set a.2.2 n, nxt a.2.2)) ?_ (a := (es.length + 1, L, b)) ?_
  · rintro ⟨f, L', b'⟩ e _ _ ⟨e0, e4, e6, e7, e25, e26, e8, rfl, rfl, hL', hb', hf, hw⟩
    dsimp only at e8 hL' hb' hf hw
    obtain ⟨E0, X0, hE, hX, hp, ha, hlt⟩ := hn b' hb'
    obtain ⟨x, hx⟩ : ∃ x, L'[b']? = some x := ⟨L'[b'], List.getElem?_eq_getElem (by omega)⟩
    have hc := fun l => next_c (H.ext (l := l)) hE hX hp
    rw [ha] at hc
    obtain ⟨f, rfl⟩ : ∃ g, f = g + 1 := ⟨f - 1, by omega⟩
    simp [c182_l1, e0, e4, e6, e7, e8, e25, e26, hb', hL', hx, ends_eq (hc _), List.map_set, hlt, -getElem?_pos]
    refine ⟨fun h0 => ?_, fun h0 => ?_⟩
    · have hs := negs_set hx h0 hn0
      simp only [walkSet, hx, Option.getD_some, if_pos h0] at hw
      exact ⟨by omega, by omega, hw⟩
    · have : ¬ x < 0 := by omega
      simp only [walkSet, hx, Option.getD_some, if_neg this] at hw
      rw [hw]
      exact hQ _ (by simp [e0]) (by simp [e4]) (by simp [e6]) (by simp [e7]) (by simp [e25]) (by simp [e26])
  · refine ⟨e0, e4, e6, e7, e25, e26, e8, rfl, rfl, hL, hb, ?_, hR⟩
    have := negs_le L
    dsimp only; omega

theorem walkSet_len (nxt : Nat → Nat) (n : Int) : ∀ (f : Nat) (L : List Int) (b : Nat), (walkSet nxt n f L b).length = L.length
  | 0, _, _ => rfl
  | f + 1, L, b => by
    simp only [walkSet]
    split
    · rw [walkSet_len nxt n f]; simp
    · rfl
theorem comps_succ (nxt : Nat → Nat) (m i : Nat) : comps nxt m (i + 1) = compStep nxt m (comps nxt m i) i := by
  simp [comps, List.range_succ]
theorem comps_len (nxt : Nat → Nat) (m : Nat) : ∀ i, (comps nxt m i).1.length = m
  | 0 => by simp [comps]
  | i + 1 => by
    rw [comps_succ, compStep]
    split
    · exact comps_len nxt m i
    · rw [walkSet_len]; exact comps_len nxt m i
theorem comps_n (nxt : Nat → Nat) (m : Nat) : ∀ i, 0 ≤ (comps nxt m i).2 ∧ (comps nxt m i).2 ≤ i
  | 0 => by simp [comps]
  | i + 1 => by
    have := comps_n nxt m i
    rw [comps_succ, compStep]
    split
    · omega
    · dsimp only; omega

theorem c182_l2_wp {Q : ExK} {h : List ABlk} {v : AV} {xs : List X} {loops : Int} {es : List E} (H : DP h v xs loops es) {nxt : Nat → Nat} (hn : NextOk xs es nxt) (hM : es.length ≤ 1000)
    {e : List AV} (e0 : eget e 0 = v) (e4 : eget e 4 = SL h.length es.length) (e6 : eget e 6 = I 0) (e25 : eget e 25 = I es.length) (e26 : eget e 26 = I 0)
    (hQ : ∀ e', eget e' 4 = SL h.length es.length → eget e' 6 = I (comps nxt es.length es.length).2 →
      Q .normal e' (h ++ [.row false ((comps nxt es.length es.length).1.map I)]) (M0 h)) :
    wp PR h.length false (.loop c182_l2) e (h ++ [.row false (List.replicate es.length (I (-1)))]) (M0 h) (onBlk 2 Q) := by
  refine wp_range (n := es.length) (fun i e h' m => eget e 0 = v ∧ eget e 4 = SL h.length es.length ∧ eget e 6 = I (comps nxt es.length i).2 ∧ eget e 25 = I es.length ∧
    h' = h ++ [.row false ((comps nxt es.length i).1.map I)] ∧ m = M0 h) (by omega) (by simp) ?_ ?_ (by simp [e0, e4, e6, e25, comps]) e26 ?_ ?_
  · rintro i e h m t v (rfl | rfl | rfl) hJ <;> simpa using hJ
  · rintro i e h m ⟨e0, e4, e6, e25, rfl, rfl⟩; exact e25
  · rintro i e _ _ hi ⟨e0, e4, e6, e25, rfl, rfl⟩ e26
    have hl := comps_len nxt es.length i
    have hn2 := comps_n nxt es.length i
    obtain ⟨x, hx⟩ : ∃ x, (comps nxt es.length i).1[i]? = some x := ⟨(comps nxt es.length i).1[i], List.getElem?_eq_getElem (by omega)⟩
    have hw : IntKind.i64.wrap ((comps nxt es.length i).2 + 1) = (comps nxt es.length i).2 + 1 := wrap64 (by omega) (by omega)
    simp [e0, e4, e6, e25, e26, hi, hl, hx, comps_succ, compStep, -getElem?_pos]
    refine ⟨fun h0 => ?_, fun h0 => ?_⟩
    · simp [h0, e0, e4, e6, e25, e26]
    · have : ¬ 0 ≤ x := by omega
      refine c182_l1_wp H hn hM hn2.1 hl hi (x7 := I i) (x25 := I es.length) (x26 := I i) (by simp [e0]) (by simp [e4]) (by simp [e6]) (by simp) (by simp) (by simp [e25]) (by simp [e26]) ?_
      intro e' f0 f4 f6 f7 f25 f26
      simp [f0, f4, f6, f7, f25, f26, this, hw, comps_succ, compStep, hx]
  · rintro e h m ⟨e0, e4, e6, e25, rfl, rfl⟩
    simpa using hQ _ e4 e6

theorem components_c {h : List ABlk} {v : AV} {xs : List X} {loops : Int} {es : List E} (H : DP h v xs loops es) (hM : es.length ≤ 1000) {nxt : Nat → Nat} (hn : NextOk xs es nxt) :
    Ends PR (.f 182) [v] h ⟨.tup [SL h.length es.length, I (comps nxt es.length es.length).2], h ++ [.row false ((comps nxt es.length es.length).1.map I)], [], none⟩ := by
  have H0 := H
  obtain ⟨b, ro, ac, cc, ae, ce, rfl, hb, hC, hA⟩ := H
  have w1 : IntKind.i64.wrap (es.length : Int) = es.length := wrap64 (by omega) (by omega)
  have e1 : (8 : Int) * es.length ≤ 281474976710656 := by omega
  refine ends_of p182 (by simp [c182]) ?_
  simp [c182, hb, w1, e1]
  refine c182_l0_wp (p0 := .ptr (some ⟨b, 3, 0⟩)) hM rfl rfl rfl rfl rfl ?_
  intro e f0 f4
  simp [f4]
  refine c182_l2_wp H0 hn hM (by simp [f0]) (by simp [f4]) (by simp) (by simp) (by simp) ?_
  intro e f4 f6
  simp [f4, f6]
  exact gc_row (j := 0) (ro := false) (by simp) (by simp) refsL_ints (by simp)

end Go.Proofs.Ytocoadpepofbbaa.AM
