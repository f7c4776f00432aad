/- The code of the functions that the claim reaches, as the engine reads it: each is the given one (fnK). -/
import Derived.Test.YtjnencdmejhmjaaProg
import Derived.Test.YtjnencdmejhmjaaEB
namespace Go.Proofs.Ytjnencdmejhmjaa.Eng
open Go
def ir5_l1 : IR :=
  .loop (.seq (.seq (.ins [
    ⟨some 43, .mov (.t 11), none⟩,
    ⟨some 44, .mov (.t 1), none⟩,
    ⟨some 45, .bin .lss (.t 43) (.t 44), none⟩])
  (.cond (.t 45)
    (.skip)
    (.exit 2)))
  (.seq (.block 3 (.seq (.seq (.drawn [
      ⟨some 48, .faddr 1 (.t 3), none⟩,
      ⟨some 49, .load none (.t 48), none⟩,
      ⟨some 50, .mov (.t 9), none⟩,
      ⟨some 51, .iaddr 2 (.t 49) (.t 50), none⟩,
      ⟨some 52, .faddr 1 (.t 51), none⟩,
      ⟨some 53, .load none (.t 52), none⟩,
      ⟨some 54, .load (some 4) (.t 3), none⟩,
      ⟨some 55, .mov (.t 11), none⟩,
      ⟨some 56, .mov (.t 2), none⟩,
      ⟨some 57, .call 24 [.t 54, .t 55, .t 56], none⟩,
      ⟨some 58, .call 23 [.t 53, .t 57], none⟩]
    (.still 0 (.still 1 (.still 2 (.still 3 (.still 4 (.still 5 (.still 6 (.still 7 (.still 8 (.eff 9 [5, 4, 3, 2, 1, 0] (.eff 10 [] (.done) (.none)) (.none))))))))))))
    (.cond (.t 58)
      (.ins [
        ⟨some 59, .mov (.t 10), none⟩,
        ⟨some 60, .bin .add (.t 59) (.c (.int .i64 1)), none⟩,
        ⟨some 10, .asg (.t 60), none⟩])
      (.ins [
        ⟨some 10, .asg (.c (.int .i64 0)), none⟩])))
    (.seq (.drawn [
      ⟨some 61, .mov (.t 10), none⟩,
      ⟨some 62, .faddr 2 (.t 3), none⟩,
      ⟨some 63, .load none (.t 62), none⟩,
      ⟨some 64, .faddr 1 (.t 3), none⟩,
      ⟨some 65, .load none (.t 64), none⟩,
      ⟨some 66, .mov (.t 9), none⟩,
      ⟨some 67, .iaddr 2 (.t 65) (.t 66), none⟩,
      ⟨some 68, .faddr 0 (.t 67), none⟩,
      ⟨some 69, .load none (.t 68), none⟩,
      ⟨some 70, .bin .add (.t 63) (.t 69), none⟩,
      ⟨some 71, .bin .sub (.t 70) (.c (.int .i64 1)), none⟩,
      ⟨some 72, .bin .geq (.t 61) (.t 71), none⟩,
      ⟨some 73, .mov (.t 72), none⟩,
      ⟨some 74, .mov (.t 7), some (73, true)⟩,
      ⟨some 75, .mov (.t 11), some (73, true)⟩,
      ⟨some 76, .iaddr 1 (.t 74) (.t 75), some (73, true)⟩,
      ⟨some 77, .load none (.t 76), some (73, true)⟩,
      ⟨some 78, .mov (.t 9), some (73, true)⟩,
      ⟨some 79, .call 19 [.t 77, .t 78], some (73, true)⟩,
      ⟨some 80, .pick (.t 73) (.t 79) (.c (.bool false)), none⟩]
    (.still 0 (.still 1 (.still 2 (.still 3 (.still 4 (.still 5 (.still 6 (.still 7 (.still 8 (.still 9 (.still 10 (.still 11 (.still 12 (.still 13 (.still 14 (.still 15 (.still 16 (.still 17 (.eff 18 [] (.still 19 (.done)) (.none)))))))))))))))))))))
    (.cond (.t 80)
      (.seq (.ins [
        ⟨some 6, .asg (.c (.bool false)), none⟩])
      (.ret))
      (.skip)))))
  (.ins [
    ⟨some 46, .mov (.t 11), none⟩,
    ⟨some 47, .bin .add (.t 46) (.c (.int .i64 1)), none⟩,
    ⟨some 11, .asg (.t 47), none⟩])))
def ir5_l0 : IR :=
  .loop (.seq (.seq (.ins [
    ⟨some 36, .mov (.t 9), none⟩,
    ⟨some 37, .faddr 1 (.t 3), none⟩,
    ⟨some 38, .load none (.t 37), none⟩,
    ⟨some 39, .len (.t 38), none⟩,
    ⟨some 40, .bin .lss (.t 36) (.t 39), none⟩])
  (.cond (.t 40)
    (.skip)
    (.exit 0)))
  (.seq (.block 1 (.seq (.ins [
      ⟨some 10, .asg (.c (.int .i64 0)), none⟩])
    (.seq (.ins [
      ⟨some 11, .asg (.c (.int .i64 0)), none⟩])
    (.block 2 (ir5_l1)))))
  (.ins [
    ⟨some 41, .mov (.t 9), none⟩,
    ⟨some 42, .bin .add (.t 41) (.c (.int .i64 1)), none⟩,
    ⟨some 9, .asg (.t 42), none⟩])))
/-- padlock/padlocklaw08.ControlOpens -/
def ir5 : IR :=
  .seq (.ins [
    ⟨some 3, .box (.t 0), none⟩,
    ⟨some 6, .asg (.c (.bool false)), none⟩])
  (.seq (.seq (.ins [
    ⟨some 12, .mov (.t 1), none⟩,
    ⟨some 13, .call 20 [.t 12], none⟩,
    ⟨some 14, .mov (.t 13), none⟩,
    ⟨some 15, .load (some 4) (.t 3), some (14, false)⟩,
    ⟨some 16, .mov (.t 1), some (14, false)⟩,
    ⟨some 17, .mov (.t 2), some (14, false)⟩,
    ⟨some 18, .call 22 [.t 15, .t 16, .t 17], some (14, false)⟩,
    ⟨some 19, .un .not (.t 18), some (14, false)⟩,
    ⟨some 20, .pick (.t 14) (.c (.bool true)) (.t 19), none⟩])
  (.cond (.t 20)
    (.seq (.ins [
      ⟨some 21, .call 16 [], none⟩,
      ⟨some 6, .asg (.t 21), none⟩])
    (.ret))
    (.skip)))
  (.seq (.ins [
    ⟨some 23, .load (some 4) (.t 3), none⟩,
    ⟨some 24, .mov (.t 1), none⟩,
    ⟨some 25, .mov (.t 2), none⟩,
    ⟨some 26, .call 17 [.t 23, .t 24, .t 25], none⟩,
    ⟨some 22, .mov (.t 26), none⟩,
    ⟨some 27, .ext 0 (.t 22), none⟩,
    ⟨some 28, .ext 1 (.t 22), none⟩,
    ⟨some 7, .asg (.t 27), none⟩,
    ⟨some 8, .asg (.t 28), none⟩])
  (.seq (.seq (.ins [
    ⟨some 29, .mov (.t 8), none⟩,
    ⟨some 30, .bin .neq (.t 29) (.c (.int .i64 0)), none⟩])
  (.cond (.t 30)
    (.seq (.ins [
      ⟨some 31, .call 16 [], none⟩,
      ⟨some 6, .asg (.t 31), none⟩])
    (.ret))
    (.skip)))
  (.seq (.seq (.ins [
    ⟨some 32, .mov (.t 7), none⟩,
    ⟨some 33, .len (.t 32), none⟩,
    ⟨some 34, .mov (.t 1), none⟩,
    ⟨some 35, .bin .neq (.t 33) (.t 34), none⟩])
  (.cond (.t 35)
    (.seq (.ins [
      ⟨some 6, .asg (.c (.bool false)), none⟩])
    (.ret))
    (.skip)))
  (.seq (.seq (.ins [
    ⟨some 9, .asg (.c (.int .i64 0)), none⟩])
  (.block 0 (ir5_l0)))
  (.seq (.ins [
    ⟨some 81, .call 16 [], none⟩,
    ⟨some 6, .asg (.t 81), none⟩])
  (.ret)))))))
def rs5 : List RV := [.t 6]
theorem fn5 : FnIR Try.prog 5 82 ir5 rs5 := ⟨Try.f5, (Try.f5.body).getD .skip, Try.func5, by kernel_rfl, by kernel_rfl, by kernel_rfl, by kernel_rfl, by kernel_rfl⟩
def ir6_l1 : IR :=
  .loop (.seq (.seq (.ins [
    ⟨some 59, .mov (.t 12), none⟩,
    ⟨some 60, .faddr 1 (.t 3), none⟩,
    ⟨some 61, .load none (.t 60), none⟩,
    ⟨some 62, .len (.t 61), none⟩,
    ⟨some 63, .bin .lss (.t 59) (.t 62), none⟩])
  (.cond (.t 63)
    (.skip)
    (.exit 2)))
  (.seq (.block 3 (.seq (.ins [
      ⟨some 66, .faddr 1 (.t 3), none⟩,
      ⟨some 67, .load none (.t 66), none⟩,
      ⟨some 68, .mov (.t 12), none⟩,
      ⟨some 69, .iaddr 2 (.t 67) (.t 68), none⟩,
      ⟨some 70, .faddr 1 (.t 69), none⟩,
      ⟨some 71, .load none (.t 70), none⟩,
      ⟨some 72, .mov (.t 11), none⟩,
      ⟨some 73, .call 23 [.t 71, .t 72], none⟩,
      ⟨some 13, .asg (.t 73), none⟩])
    (.seq (.ins [
      ⟨some 74, .mov (.t 13), none⟩,
      ⟨some 75, .mov (.t 74), none⟩,
      ⟨some 76, .mov (.t 8), some (75, true)⟩,
      ⟨some 77, .mov (.t 10), some (75, true)⟩,
      ⟨some 78, .iaddr 1 (.t 76) (.t 77), some (75, true)⟩,
      ⟨some 79, .load none (.t 78), some (75, true)⟩,
      ⟨some 80, .mov (.t 12), some (75, true)⟩,
      ⟨some 81, .call 19 [.t 79, .t 80], some (75, true)⟩,
      ⟨some 82, .pick (.t 75) (.t 81) (.c (.bool false)), none⟩,
      ⟨some 83, .mov (.t 82), none⟩,
      ⟨some 84, .mov (.t 13), some (83, false)⟩,
      ⟨some 85, .un .not (.t 84), some (83, false)⟩,
      ⟨some 86, .mov (.t 85), some (83, false)⟩,
      ⟨some 87, .mov (.t 7), some (86, true)⟩,
      ⟨some 88, .mov (.t 10), some (86, true)⟩,
      ⟨some 89, .mov (.t 12), some (86, true)⟩,
      ⟨some 90, .call 26 [.t 87, .t 88, .t 89], some (86, true)⟩,
      ⟨some 91, .un .not (.t 90), some (86, true)⟩,
      ⟨some 92, .pick (.t 86) (.t 91) (.c (.bool false)), some (83, false)⟩,
      ⟨some 93, .mov (.t 92), some (83, false)⟩,
      ⟨some 94, .mov (.t 8), some (93, true)⟩,
      ⟨some 95, .mov (.t 10), some (93, true)⟩,
      ⟨some 96, .iaddr 1 (.t 94) (.t 95), some (93, true)⟩,
      ⟨some 97, .load none (.t 96), some (93, true)⟩,
      ⟨some 98, .mov (.t 12), some (93, true)⟩,
      ⟨some 99, .call 19 [.t 97, .t 98], some (93, true)⟩,
      ⟨some 100, .un .not (.t 99), some (93, true)⟩,
      ⟨some 101, .pick (.t 93) (.t 100) (.c (.bool false)), some (83, false)⟩,
      ⟨some 102, .pick (.t 83) (.c (.bool true)) (.t 101), none⟩])
    (.cond (.t 102)
      (.seq (.ins [
        ⟨some 6, .asg (.c (.bool false)), none⟩])
      (.ret))
      (.skip)))))
  (.ins [
    ⟨some 64, .mov (.t 12), none⟩,
    ⟨some 65, .bin .add (.t 64) (.c (.int .i64 1)), none⟩,
    ⟨some 12, .asg (.t 65), none⟩])))
def ir6_l0 : IR :=
  .loop (.seq (.seq (.ins [
    ⟨some 44, .mov (.t 10), none⟩,
    ⟨some 45, .mov (.t 1), none⟩,
    ⟨some 46, .bin .lss (.t 44) (.t 45), none⟩,
    ⟨some 47, .mov (.t 46), none⟩,
    ⟨some 48, .mov (.t 10), some (47, true)⟩,
    ⟨some 49, .faddr 3 (.t 3), some (47, true)⟩,
    ⟨some 50, .load none (.t 49), some (47, true)⟩,
    ⟨some 51, .bin .lss (.t 48) (.t 50), some (47, true)⟩,
    ⟨some 52, .pick (.t 47) (.t 51) (.c (.bool false)), none⟩])
  (.cond (.t 52)
    (.skip)
    (.exit 0)))
  (.seq (.block 1 (.seq (.ins [
      ⟨some 55, .load (some 4) (.t 3), none⟩,
      ⟨some 56, .mov (.t 10), none⟩,
      ⟨some 57, .mov (.t 7), none⟩,
      ⟨some 58, .call 24 [.t 55, .t 56, .t 57], none⟩,
      ⟨some 11, .asg (.t 58), none⟩])
    (.seq (.ins [
      ⟨some 12, .asg (.c (.int .i64 0)), none⟩])
    (.block 2 (ir6_l1)))))
  (.ins [
    ⟨some 53, .mov (.t 10), none⟩,
    ⟨some 54, .bin .add (.t 53) (.c (.int .i64 1)), none⟩,
    ⟨some 10, .asg (.t 54), none⟩])))
/-- padlock/padlocklaw08.ControlWorks -/
def ir6 : IR :=
  .seq (.ins [
    ⟨some 3, .box (.t 0), none⟩,
    ⟨some 6, .asg (.c (.bool false)), none⟩])
  (.seq (.seq (.ins [
    ⟨some 14, .mov (.t 1), none⟩,
    ⟨some 15, .call 20 [.t 14], none⟩,
    ⟨some 16, .mov (.t 15), none⟩,
    ⟨some 17, .mov (.t 2), some (16, false)⟩,
    ⟨some 18, .len (.t 17), some (16, false)⟩,
    ⟨some 19, .bin .gtr (.t 18) (.c (.int .i64 200)), some (16, false)⟩,
    ⟨some 20, .pick (.t 16) (.c (.bool true)) (.t 19), none⟩])
  (.cond (.t 20)
    (.seq (.ins [
      ⟨some 21, .call 16 [], none⟩,
      ⟨some 6, .asg (.t 21), none⟩])
    (.ret))
    (.skip)))
  (.seq (.ins [
    ⟨some 22, .mov (.t 2), none⟩,
    ⟨some 23, .bsl 1 (.int .i64 0) 2 [(0, .c (.int .i64 1)), (1, .c (.int .i64 6))], none⟩,
    ⟨some 24, .call 25 [.t 22, .t 23], none⟩,
    ⟨some 7, .asg (.t 24), none⟩])
  (.seq (.seq (.ins [
    ⟨some 25, .load (some 4) (.t 3), none⟩,
    ⟨some 26, .mov (.t 1), none⟩,
    ⟨some 27, .mov (.t 7), none⟩,
    ⟨some 28, .call 22 [.t 25, .t 26, .t 27], none⟩,
    ⟨some 29, .un .not (.t 28), none⟩])
  (.cond (.t 29)
    (.seq (.ins [
      ⟨some 30, .call 16 [], none⟩,
      ⟨some 6, .asg (.t 30), none⟩])
    (.ret))
    (.skip)))
  (.seq (.ins [
    ⟨some 32, .load (some 4) (.t 3), none⟩,
    ⟨some 33, .mov (.t 1), none⟩,
    ⟨some 34, .mov (.t 7), none⟩,
    ⟨some 35, .call 17 [.t 32, .t 33, .t 34], none⟩,
    ⟨some 31, .mov (.t 35), none⟩,
    ⟨some 36, .ext 0 (.t 31), none⟩,
    ⟨some 37, .ext 1 (.t 31), none⟩,
    ⟨some 8, .asg (.t 36), none⟩,
    ⟨some 9, .asg (.t 37), none⟩])
  (.seq (.seq (.ins [
    ⟨some 38, .mov (.t 9), none⟩,
    ⟨some 39, .bin .neq (.t 38) (.c (.int .i64 0)), none⟩])
  (.cond (.t 39)
    (.seq (.ins [
      ⟨some 6, .asg (.c (.bool false)), none⟩])
    (.ret))
    (.skip)))
  (.seq (.seq (.ins [
    ⟨some 40, .mov (.t 8), none⟩,
    ⟨some 41, .len (.t 40), none⟩,
    ⟨some 42, .mov (.t 1), none⟩,
    ⟨some 43, .bin .neq (.t 41) (.t 42), none⟩])
  (.cond (.t 43)
    (.seq (.ins [
      ⟨some 6, .asg (.c (.bool false)), none⟩])
    (.ret))
    (.skip)))
  (.seq (.seq (.ins [
    ⟨some 10, .asg (.c (.int .i64 0)), none⟩])
  (.block 0 (ir6_l0)))
  (.seq (.ins [
    ⟨some 103, .call 16 [], none⟩,
    ⟨some 6, .asg (.t 103), none⟩])
  (.ret)))))))))
def rs6 : List RV := [.t 6]
theorem fn6 : FnIR Try.prog 6 104 ir6 rs6 := ⟨Try.f6, (Try.f6.body).getD .skip, Try.func6, by kernel_rfl, by kernel_rfl, by kernel_rfl, by kernel_rfl, by kernel_rfl⟩
def ir7_l2 : IR :=
  .loop (.seq (.seq (.ins [
    ⟨some 81, .mov (.t 14), none⟩,
    ⟨some 82, .faddr 1 (.t 3), none⟩,
    ⟨some 83, .load none (.t 82), none⟩,
    ⟨some 84, .len (.t 83), none⟩,
    ⟨some 85, .bin .lss (.t 81) (.t 84), none⟩])
  (.cond (.t 85)
    (.skip)
    (.exit 4)))
  (.seq (.block 5 (.seq (.ins [
      ⟨some 88, .mov (.t 13), none⟩,
      ⟨some 89, .bin .gtr (.t 88) (.c (.int .i64 0)), none⟩,
      ⟨some 90, .mov (.t 89), none⟩,
      ⟨some 91, .mov (.t 7), some (90, true)⟩,
      ⟨some 92, .mov (.t 13), some (90, true)⟩,
      ⟨some 93, .bin .sub (.t 92) (.c (.int .i64 1)), some (90, true)⟩,
      ⟨some 94, .iaddr 1 (.t 91) (.t 93), some (90, true)⟩,
      ⟨some 95, .load none (.t 94), some (90, true)⟩,
      ⟨some 96, .mov (.t 14), some (90, true)⟩,
      ⟨some 97, .call 19 [.t 95, .t 96], some (90, true)⟩,
      ⟨some 98, .pick (.t 90) (.t 97) (.c (.bool false)), none⟩,
      ⟨some 15, .asg (.t 98), none⟩])
    (.seq (.seq (.ins [
      ⟨some 99, .mov (.t 2), none⟩,
      ⟨some 100, .mov (.t 13), none⟩,
      ⟨some 101, .mov (.t 14), none⟩,
      ⟨some 102, .call 26 [.t 99, .t 100, .t 101], none⟩,
      ⟨some 103, .mov (.t 102), none⟩,
      ⟨some 104, .mov (.t 15), some (103, true)⟩,
      ⟨some 105, .un .not (.t 104), some (103, true)⟩,
      ⟨some 106, .pick (.t 103) (.t 105) (.c (.bool false)), none⟩,
      ⟨some 107, .mov (.t 106), none⟩,
      ⟨some 108, .mov (.t 7), some (107, true)⟩,
      ⟨some 109, .mov (.t 13), some (107, true)⟩,
      ⟨some 110, .iaddr 1 (.t 108) (.t 109), some (107, true)⟩,
      ⟨some 111, .load none (.t 110), some (107, true)⟩,
      ⟨some 112, .mov (.t 14), some (107, true)⟩,
      ⟨some 113, .call 19 [.t 111, .t 112], some (107, true)⟩,
      ⟨some 114, .pick (.t 107) (.t 113) (.c (.bool false)), none⟩])
    (.cond (.t 114)
      (.seq (.ins [
        ⟨some 6, .asg (.c (.bool false)), none⟩])
      (.ret))
      (.skip)))
    (.seq (.drawn [
      ⟨some 115, .mov (.t 7), none⟩,
      ⟨some 116, .mov (.t 13), none⟩,
      ⟨some 117, .iaddr 1 (.t 115) (.t 116), none⟩,
      ⟨some 118, .load none (.t 117), none⟩,
      ⟨some 119, .mov (.t 14), none⟩,
      ⟨some 120, .call 19 [.t 118, .t 119], none⟩,
      ⟨some 121, .mov (.t 120), none⟩,
      ⟨some 122, .mov (.t 11), some (121, true)⟩,
      ⟨some 123, .mov (.t 13), some (121, true)⟩,
      ⟨some 124, .iaddr 1 (.t 122) (.t 123), some (121, true)⟩,
      ⟨some 125, .load none (.t 124), some (121, true)⟩,
      ⟨some 126, .mov (.t 14), some (121, true)⟩,
      ⟨some 127, .call 19 [.t 125, .t 126], some (121, true)⟩,
      ⟨some 128, .un .not (.t 127), some (121, true)⟩,
      ⟨some 129, .pick (.t 121) (.t 128) (.c (.bool false)), none⟩,
      ⟨some 130, .mov (.t 129), none⟩,
      ⟨some 131, .mov (.t 15), some (130, false)⟩,
      ⟨some 132, .mov (.t 131), some (130, false)⟩,
      ⟨some 133, .mov (.t 2), some (132, false)⟩,
      ⟨some 134, .mov (.t 13), some (132, false)⟩,
      ⟨some 135, .mov (.t 14), some (132, false)⟩,
      ⟨some 136, .call 26 [.t 133, .t 134, .t 135], some (132, false)⟩,
      ⟨some 137, .un .not (.t 136), some (132, false)⟩,
      ⟨some 138, .pick (.t 132) (.c (.bool true)) (.t 137), some (130, false)⟩,
      ⟨some 139, .mov (.t 138), some (130, false)⟩,
      ⟨some 140, .mov (.t 7), some (139, true)⟩,
      ⟨some 141, .mov (.t 13), some (139, true)⟩,
      ⟨some 142, .iaddr 1 (.t 140) (.t 141), some (139, true)⟩,
      ⟨some 143, .load none (.t 142), some (139, true)⟩,
      ⟨some 144, .mov (.t 14), some (139, true)⟩,
      ⟨some 145, .call 19 [.t 143, .t 144], some (139, true)⟩,
      ⟨some 146, .mov (.t 11), some (139, true)⟩,
      ⟨some 147, .mov (.t 13), some (139, true)⟩,
      ⟨some 148, .iaddr 1 (.t 146) (.t 147), some (139, true)⟩,
      ⟨some 149, .load none (.t 148), some (139, true)⟩,
      ⟨some 150, .mov (.t 14), some (139, true)⟩,
      ⟨some 151, .call 19 [.t 149, .t 150], some (139, true)⟩,
      ⟨some 152, .boolq true (.t 145) (.t 151), some (139, true)⟩,
      ⟨some 153, .pick (.t 139) (.t 152) (.c (.bool false)), some (130, false)⟩,
      ⟨some 154, .pick (.t 130) (.c (.bool true)) (.t 153), none⟩]
    (.still 0 (.still 1 (.still 2 (.still 3 (.still 4 (.eff 5 [] (.still 6 (.still 7 (.still 8 (.still 9 (.still 10 (.still 11 (.eff 12 [] (.still 13 (.still 14 (.still 15 (.still 16 (.still 17 (.still 18 (.still 19 (.still 20 (.eff 21 [] (.still 22 (.still 23 (.still 24 (.still 25 (.still 26 (.still 27 (.still 28 (.still 29 (.still 31 (.still 32 (.still 33 (.still 34 (.still 35 (.eff 30 [35, 34, 33, 32, 31] (.eff 36 [] (.still 37 (.still 38 (.still 39 (.done)))) (.none)) (.none))))))))))))))) (.none)))))))))) (.none)))))))) (.none))))))))
    (.cond (.t 154)
      (.seq (.ins [
        ⟨some 6, .asg (.c (.bool false)), none⟩])
      (.ret))
      (.skip))))))
  (.ins [
    ⟨some 86, .mov (.t 14), none⟩,
    ⟨some 87, .bin .add (.t 86) (.c (.int .i64 1)), none⟩,
    ⟨some 14, .asg (.t 87), none⟩])))
def ir7_l1 : IR :=
  .loop (.seq (.seq (.ins [
    ⟨some 76, .mov (.t 13), none⟩,
    ⟨some 77, .mov (.t 1), none⟩,
    ⟨some 78, .bin .lss (.t 76) (.t 77), none⟩])
  (.cond (.t 78)
    (.skip)
    (.exit 2)))
  (.seq (.block 3 (.seq (.ins [
      ⟨some 14, .asg (.c (.int .i64 0)), none⟩])
    (.block 4 (ir7_l2))))
  (.ins [
    ⟨some 79, .mov (.t 13), none⟩,
    ⟨some 80, .bin .add (.t 79) (.c (.int .i64 1)), none⟩,
    ⟨some 13, .asg (.t 80), none⟩])))
def ir7_l0 : IR :=
  .loop (.seq (.seq (.ins [
    ⟨some 36, .mov (.t 10), none⟩,
    ⟨some 37, .mov (.t 2), none⟩,
    ⟨some 38, .len (.t 37), none⟩,
    ⟨some 39, .bin .lss (.t 36) (.t 38), none⟩])
  (.cond (.t 39)
    (.skip)
    (.exit 0)))
  (.seq (.block 1 (.seq (.ins [
      ⟨some 42, .mov (.t 2), none⟩,
      ⟨some 43, .mov (.t 10), none⟩,
      ⟨some 44, .iaddr 4 (.t 42) (.t 43), none⟩,
      ⟨some 45, .faddr 1 (.t 44), none⟩,
      ⟨some 46, .load none (.t 45), none⟩,
      ⟨some 47, .bin .neq (.t 46) (.c (.int .i64 6)), none⟩])
    (.cond (.t 47)
      (.ins [
        ⟨some 48, .mov (.t 9), none⟩,
        ⟨some 49, .mov (.t 2), none⟩,
        ⟨some 50, .mov (.t 10), none⟩,
        ⟨some 51, .iaddr 4 (.t 49) (.t 50), none⟩,
        ⟨some 52, .load (some 4) (.t 51), none⟩,
        ⟨some 53, .bsl 4 (.agg #[.int .i64 0, .int .i64 0, .int .i64 0, .int .i64 0]) 1 [(0, .t 52)], none⟩,
        ⟨some 54, .app 4 32 (.t 48) (.t 53), none⟩,
        ⟨some 9, .asg (.t 54), none⟩])
      (.skip))))
  (.ins [
    ⟨some 40, .mov (.t 10), none⟩,
    ⟨some 41, .bin .add (.t 40) (.c (.int .i64 1)), none⟩,
    ⟨some 10, .asg (.t 41), none⟩])))
/-- padlock/padlocklaw08.ControlStands -/
def ir7 : IR :=
  .seq (.ins [
    ⟨some 3, .box (.t 0), none⟩,
    ⟨some 6, .asg (.c (.bool false)), none⟩])
  (.seq (.seq (.ins [
    ⟨some 16, .mov (.t 1), none⟩,
    ⟨some 17, .call 20 [.t 16], none⟩,
    ⟨some 18, .mov (.t 17), none⟩,
    ⟨some 19, .load (some 4) (.t 3), some (18, false)⟩,
    ⟨some 20, .mov (.t 1), some (18, false)⟩,
    ⟨some 21, .mov (.t 2), some (18, false)⟩,
    ⟨some 22, .call 22 [.t 19, .t 20, .t 21], some (18, false)⟩,
    ⟨some 23, .un .not (.t 22), some (18, false)⟩,
    ⟨some 24, .pick (.t 18) (.c (.bool true)) (.t 23), none⟩])
  (.cond (.t 24)
    (.seq (.ins [
      ⟨some 25, .call 16 [], none⟩,
      ⟨some 6, .asg (.t 25), none⟩])
    (.ret))
    (.skip)))
  (.seq (.ins [
    ⟨some 27, .load (some 4) (.t 3), none⟩,
    ⟨some 28, .mov (.t 1), none⟩,
    ⟨some 29, .mov (.t 2), none⟩,
    ⟨some 30, .call 17 [.t 27, .t 28, .t 29], none⟩,
    ⟨some 26, .mov (.t 30), none⟩,
    ⟨some 31, .ext 0 (.t 26), none⟩,
    ⟨some 32, .ext 1 (.t 26), none⟩,
    ⟨some 7, .asg (.t 31), none⟩,
    ⟨some 8, .asg (.t 32), none⟩])
  (.seq (.seq (.ins [
    ⟨some 33, .mov (.t 8), none⟩,
    ⟨some 34, .bin .neq (.t 33) (.c (.int .i64 0)), none⟩])
  (.cond (.t 34)
    (.seq (.ins [
      ⟨some 35, .call 16 [], none⟩,
      ⟨some 6, .asg (.t 35), none⟩])
    (.ret))
    (.skip)))
  (.seq (.ins [
    ⟨some 9, .asg (.c (.slice none 0 0)), none⟩])
  (.seq (.seq (.ins [
    ⟨some 10, .asg (.c (.int .i64 0)), none⟩])
  (.block 0 (ir7_l0)))
  (.seq (.ins [
    ⟨some 56, .load (some 4) (.t 3), none⟩,
    ⟨some 57, .mov (.t 1), none⟩,
    ⟨some 58, .mov (.t 9), none⟩,
    ⟨some 59, .call 17 [.t 56, .t 57, .t 58], none⟩,
    ⟨some 55, .mov (.t 59), none⟩,
    ⟨some 60, .ext 0 (.t 55), none⟩,
    ⟨some 61, .ext 1 (.t 55), none⟩,
    ⟨some 11, .asg (.t 60), none⟩,
    ⟨some 12, .asg (.t 61), none⟩])
  (.seq (.seq (.ins [
    ⟨some 62, .mov (.t 12), none⟩,
    ⟨some 63, .bin .neq (.t 62) (.c (.int .i64 0)), none⟩,
    ⟨some 64, .mov (.t 63), none⟩,
    ⟨some 65, .mov (.t 7), some (64, false)⟩,
    ⟨some 66, .len (.t 65), some (64, false)⟩,
    ⟨some 67, .mov (.t 1), some (64, false)⟩,
    ⟨some 68, .bin .neq (.t 66) (.t 67), some (64, false)⟩,
    ⟨some 69, .pick (.t 64) (.c (.bool true)) (.t 68), none⟩,
    ⟨some 70, .mov (.t 69), none⟩,
    ⟨some 71, .mov (.t 11), some (70, false)⟩,
    ⟨some 72, .len (.t 71), some (70, false)⟩,
    ⟨some 73, .mov (.t 1), some (70, false)⟩,
    ⟨some 74, .bin .neq (.t 72) (.t 73), some (70, false)⟩,
    ⟨some 75, .pick (.t 70) (.c (.bool true)) (.t 74), none⟩])
  (.cond (.t 75)
    (.seq (.ins [
      ⟨some 6, .asg (.c (.bool false)), none⟩])
    (.ret))
    (.skip)))
  (.seq (.seq (.ins [
    ⟨some 13, .asg (.c (.int .i64 0)), none⟩])
  (.block 2 (ir7_l1)))
  (.seq (.ins [
    ⟨some 155, .call 16 [], none⟩,
    ⟨some 6, .asg (.t 155), none⟩])
  (.ret))))))))))
def rs7 : List RV := [.t 6]
theorem fn7 : FnIR Try.prog 7 156 ir7 rs7 := ⟨Try.f7, (Try.f7.body).getD .skip, Try.func7, by kernel_rfl, by kernel_rfl, by kernel_rfl, by kernel_rfl, by kernel_rfl⟩
/-- padlock/padlocklaw08.ControlPlays -/
def ir8 : IR :=
  .seq (.ins [
    ⟨some 3, .box (.t 0), none⟩,
    ⟨some 6, .asg (.c (.bool false)), none⟩])
  (.seq (.seq (.ins [
    ⟨some 15, .mov (.t 1), none⟩,
    ⟨some 16, .call 20 [.t 15], none⟩])
  (.cond (.t 16)
    (.seq (.ins [
      ⟨some 17, .call 16 [], none⟩,
      ⟨some 6, .asg (.t 17), none⟩])
    (.ret))
    (.skip)))
  (.seq (.seq (.drawn [
    ⟨some 18, .load (some 4) (.t 3), none⟩,
    ⟨some 19, .call 27 [.t 18], none⟩,
    ⟨some 20, .load (some 4) (.t 3), none⟩,
    ⟨some 21, .call 15 [.t 20], none⟩,
    ⟨some 22, .bin .neq (.t 19) (.t 21), none⟩]
  (.still 0 (.still 2 (.eff 1 [2] (.eff 3 [] (.still 4 (.done)) (.none)) (.none)))))
  (.cond (.t 22)
    (.seq (.ins [
      ⟨some 6, .asg (.c (.bool false)), none⟩])
    (.ret))
    (.skip)))
  (.seq (.ins [
    ⟨some 24, .load (some 4) (.t 3), none⟩,
    ⟨some 25, .mov (.t 1), none⟩,
    ⟨some 26, .mov (.t 2), none⟩,
    ⟨some 27, .call 17 [.t 24, .t 25, .t 26], none⟩,
    ⟨some 23, .mov (.t 27), none⟩,
    ⟨some 28, .ext 0 (.t 23), none⟩,
    ⟨some 29, .ext 1 (.t 23), none⟩,
    ⟨some 7, .asg (.t 28), none⟩,
    ⟨some 8, .asg (.t 29), none⟩])
  (.seq (.ins [
    ⟨some 31, .load (some 4) (.t 3), none⟩,
    ⟨some 32, .mov (.t 1), none⟩,
    ⟨some 33, .mov (.t 2), none⟩,
    ⟨some 34, .call 28 [.t 31, .t 32, .t 33], none⟩,
    ⟨some 30, .mov (.t 34), none⟩,
    ⟨some 35, .ext 0 (.t 30), none⟩,
    ⟨some 36, .ext 1 (.t 30), none⟩,
    ⟨some 9, .asg (.t 35), none⟩,
    ⟨some 10, .asg (.t 36), none⟩])
  (.seq (.seq (.ins [
    ⟨some 37, .mov (.t 8), none⟩,
    ⟨some 38, .mov (.t 10), none⟩,
    ⟨some 39, .bin .neq (.t 37) (.t 38), none⟩,
    ⟨some 40, .mov (.t 39), none⟩,
    ⟨some 41, .mov (.t 7), some (40, false)⟩,
    ⟨some 42, .mov (.t 9), some (40, false)⟩,
    ⟨some 43, .call 29 [.t 41, .t 42], some (40, false)⟩,
    ⟨some 44, .un .not (.t 43), some (40, false)⟩,
    ⟨some 45, .pick (.t 40) (.c (.bool true)) (.t 44), none⟩])
  (.cond (.t 45)
    (.seq (.ins [
      ⟨some 6, .asg (.c (.bool false)), none⟩])
    (.ret))
    (.skip)))
  (.seq (.ins [
    ⟨some 47, .load (some 4) (.t 3), none⟩,
    ⟨some 48, .mov (.t 1), none⟩,
    ⟨some 49, .mov (.t 2), none⟩,
    ⟨some 50, .call 30 [.t 47, .t 48, .t 49], none⟩,
    ⟨some 46, .mov (.t 50), none⟩,
    ⟨some 51, .ext 0 (.t 46), none⟩,
    ⟨some 52, .ext 1 (.t 46), none⟩,
    ⟨some 53, .ext 2 (.t 46), none⟩,
    ⟨some 11, .asg (.t 51), none⟩,
    ⟨some 12, .asg (.t 52), none⟩,
    ⟨some 8, .asg (.t 53), none⟩])
  (.seq (.ins [
    ⟨some 55, .load (some 4) (.t 3), none⟩,
    ⟨some 56, .mov (.t 1), none⟩,
    ⟨some 57, .mov (.t 2), none⟩,
    ⟨some 58, .call 31 [.t 55, .t 56, .t 57], none⟩,
    ⟨some 54, .mov (.t 58), none⟩,
    ⟨some 59, .ext 0 (.t 54), none⟩,
    ⟨some 60, .ext 1 (.t 54), none⟩,
    ⟨some 61, .ext 2 (.t 54), none⟩,
    ⟨some 13, .asg (.t 59), none⟩,
    ⟨some 14, .asg (.t 60), none⟩,
    ⟨some 10, .asg (.t 61), none⟩])
  (.seq (.ins [
    ⟨some 62, .mov (.t 8), none⟩,
    ⟨some 63, .mov (.t 10), none⟩,
    ⟨some 64, .bin .eql (.t 62) (.t 63), none⟩,
    ⟨some 65, .mov (.t 64), none⟩,
    ⟨some 66, .mov (.t 11), some (65, true)⟩,
    ⟨some 67, .mov (.t 13), some (65, true)⟩,
    ⟨some 68, .call 32 [.t 66, .t 67], some (65, true)⟩,
    ⟨some 69, .pick (.t 65) (.t 68) (.c (.bool false)), none⟩,
    ⟨some 70, .mov (.t 69), none⟩,
    ⟨some 71, .mov (.t 12), some (70, true)⟩,
    ⟨some 72, .mov (.t 14), some (70, true)⟩,
    ⟨some 73, .call 32 [.t 71, .t 72], some (70, true)⟩,
    ⟨some 74, .pick (.t 70) (.t 73) (.c (.bool false)), none⟩,
    ⟨some 75, .mov (.t 74), none⟩,
    ⟨some 76, .call 16 [], some (75, true)⟩,
    ⟨some 77, .pick (.t 75) (.t 76) (.c (.bool false)), none⟩,
    ⟨some 6, .asg (.t 77), none⟩])
  (.ret)))))))))
def rs8 : List RV := [.t 6]
theorem fn8 : FnIR Try.prog 8 78 ir8 rs8 := ⟨Try.f8, (Try.f8.body).getD .skip, Try.func8, by kernel_rfl, by kernel_rfl, by kernel_rfl, by kernel_rfl, by kernel_rfl⟩
def ir9_l2 : IR :=
  .loop (.seq (.seq (.ins [
    ⟨some 101, .mov (.t 15), none⟩,
    ⟨some 102, .mov (.t 2), none⟩,
    ⟨some 103, .len (.t 102), none⟩,
    ⟨some 104, .bin .lss (.t 101) (.t 103), none⟩])
  (.cond (.t 104)
    (.skip)
    (.exit 4)))
  (.seq (.block 5 (.ins [
      ⟨some 107, .mov (.t 14), none⟩,
      ⟨some 108, .mov (.t 107), none⟩,
      ⟨some 109, .mov (.t 2), some (108, false)⟩,
      ⟨some 110, .mov (.t 15), some (108, false)⟩,
      ⟨some 111, .iaddr 4 (.t 109) (.t 110), some (108, false)⟩,
      ⟨some 112, .faddr 1 (.t 111), some (108, false)⟩,
      ⟨some 113, .load none (.t 112), some (108, false)⟩,
      ⟨some 114, .bin .eql (.t 113) (.c (.int .i64 2)), some (108, false)⟩,
      ⟨some 115, .mov (.t 114), some (108, false)⟩,
      ⟨some 116, .mov (.t 2), some (115, true)⟩,
      ⟨some 117, .mov (.t 15), some (115, true)⟩,
      ⟨some 118, .iaddr 4 (.t 116) (.t 117), some (115, true)⟩,
      ⟨some 119, .faddr 0 (.t 118), some (115, true)⟩,
      ⟨some 120, .load none (.t 119), some (115, true)⟩,
      ⟨some 121, .mov (.t 10), some (115, true)⟩,
      ⟨some 122, .bin .eql (.t 120) (.t 121), some (115, true)⟩,
      ⟨some 123, .pick (.t 115) (.t 122) (.c (.bool false)), some (108, false)⟩,
      ⟨some 124, .mov (.t 123), some (108, false)⟩,
      ⟨some 125, .mov (.t 2), some (124, true)⟩,
      ⟨some 126, .mov (.t 15), some (124, true)⟩,
      ⟨some 127, .iaddr 4 (.t 125) (.t 126), some (124, true)⟩,
      ⟨some 128, .faddr 2 (.t 127), some (124, true)⟩,
      ⟨some 129, .load none (.t 128), some (124, true)⟩,
      ⟨some 130, .mov (.t 11), some (124, true)⟩,
      ⟨some 131, .bin .eql (.t 129) (.t 130), some (124, true)⟩,
      ⟨some 132, .pick (.t 124) (.t 131) (.c (.bool false)), some (108, false)⟩,
      ⟨some 133, .pick (.t 108) (.c (.bool true)) (.t 132), none⟩,
      ⟨some 14, .asg (.t 133), none⟩]))
  (.ins [
    ⟨some 105, .mov (.t 15), none⟩,
    ⟨some 106, .bin .add (.t 105) (.c (.int .i64 1)), none⟩,
    ⟨some 15, .asg (.t 106), none⟩])))
def ir9_l1 : IR :=
  .loop (.seq (.seq (.ins [
    ⟨some 70, .mov (.t 11), none⟩,
    ⟨some 71, .faddr 0 (.t 3), none⟩,
    ⟨some 72, .load none (.t 71), none⟩,
    ⟨some 73, .bin .lss (.t 70) (.t 72), none⟩])
  (.cond (.t 73)
    (.skip)
    (.exit 2)))
  (.seq (.block 3 (.seq (.ins [
      ⟨some 76, .mov (.t 10), none⟩,
      ⟨some 77, .mov (.t 8), none⟩,
      ⟨some 78, .mov (.t 10), none⟩,
      ⟨some 79, .iaddr 1 (.t 77) (.t 78), none⟩,
      ⟨some 80, .load none (.t 79), none⟩,
      ⟨some 81, .mov (.t 11), none⟩,
      ⟨some 82, .iaddr 1 (.t 80) (.t 81), none⟩,
      ⟨some 83, .load none (.t 82), none⟩,
      ⟨some 84, .bin .sub (.t 76) (.t 83), none⟩,
      ⟨some 12, .asg (.t 84), none⟩])
    (.seq (.seq (.ins [
      ⟨some 85, .mov (.t 12), none⟩,
      ⟨some 86, .bin .lss (.t 85) (.c (.int .i64 (-1))), none⟩,
      ⟨some 87, .mov (.t 86), none⟩,
      ⟨some 88, .mov (.t 12), some (87, false)⟩,
      ⟨some 89, .mov (.t 10), some (87, false)⟩,
      ⟨some 90, .bin .gtr (.t 88) (.t 89), some (87, false)⟩,
      ⟨some 91, .pick (.t 87) (.c (.bool true)) (.t 90), none⟩])
    (.cond (.t 91)
      (.seq (.ins [
        ⟨some 6, .asg (.c (.bool false)), none⟩])
      (.ret))
      (.skip)))
    (.seq (.ins [
      ⟨some 13, .asg (.c (.int .i64 0)), none⟩])
    (.seq (.seq (.ins [
      ⟨some 92, .mov (.t 12), none⟩,
      ⟨some 93, .bin .geq (.t 92) (.c (.int .i64 0)), none⟩])
    (.cond (.t 93)
      (.ins [
        ⟨some 94, .load (some 4) (.t 3), none⟩,
        ⟨some 95, .mov (.t 12), none⟩,
        ⟨some 96, .mov (.t 2), none⟩,
        ⟨some 97, .call 24 [.t 94, .t 95, .t 96], none⟩,
        ⟨some 98, .mov (.t 11), none⟩,
        ⟨some 99, .iaddr 1 (.t 97) (.t 98), none⟩,
        ⟨some 100, .load none (.t 99), none⟩,
        ⟨some 13, .asg (.t 100), none⟩])
      (.skip)))
    (.seq (.ins [
      ⟨some 14, .asg (.c (.bool false)), none⟩])
    (.seq (.seq (.ins [
      ⟨some 15, .asg (.c (.int .i64 0)), none⟩])
    (.block 4 (ir9_l2)))
    (.seq (.drawn [
      ⟨some 134, .mov (.t 7), none⟩,
      ⟨some 135, .mov (.t 10), none⟩,
      ⟨some 136, .iaddr 1 (.t 134) (.t 135), none⟩,
      ⟨some 137, .load none (.t 136), none⟩,
      ⟨some 138, .mov (.t 11), none⟩,
      ⟨some 139, .iaddr 1 (.t 137) (.t 138), none⟩,
      ⟨some 140, .load none (.t 139), none⟩,
      ⟨some 141, .mov (.t 13), none⟩,
      ⟨some 142, .bin .neq (.t 140) (.t 141), none⟩,
      ⟨some 143, .mov (.t 142), none⟩,
      ⟨some 144, .mov (.t 8), some (143, false)⟩,
      ⟨some 145, .mov (.t 10), some (143, false)⟩,
      ⟨some 146, .iaddr 1 (.t 144) (.t 145), some (143, false)⟩,
      ⟨some 147, .load none (.t 146), some (143, false)⟩,
      ⟨some 148, .mov (.t 11), some (143, false)⟩,
      ⟨some 149, .iaddr 1 (.t 147) (.t 148), some (143, false)⟩,
      ⟨some 150, .load none (.t 149), some (143, false)⟩,
      ⟨some 151, .bin .eql (.t 150) (.c (.int .i64 0)), some (143, false)⟩,
      ⟨some 152, .mov (.t 10), some (143, false)⟩,
      ⟨some 153, .mov (.t 2), some (143, false)⟩,
      ⟨some 154, .call 33 [.t 152, .t 153], some (143, false)⟩,
      ⟨some 155, .mov (.t 154), some (143, false)⟩,
      ⟨some 156, .mov (.t 14), some (155, true)⟩,
      ⟨some 157, .un .not (.t 156), some (155, true)⟩,
      ⟨some 158, .pick (.t 155) (.t 157) (.c (.bool false)), some (143, false)⟩,
      ⟨some 159, .boolq true (.t 151) (.t 158), some (143, false)⟩,
      ⟨some 160, .pick (.t 143) (.c (.bool true)) (.t 159), none⟩]
    (.still 0 (.still 1 (.still 2 (.still 3 (.still 4 (.still 5 (.still 6 (.still 7 (.still 8 (.still 9 (.still 10 (.still 11 (.still 12 (.still 13 (.still 14 (.still 15 (.still 16 (.still 17 (.still 18 (.still 19 (.eff 20 [17, 16, 15, 14, 13, 12, 11, 10] (.still 21 (.still 22 (.still 23 (.still 24 (.still 25 (.still 26 (.done))))))) (.none)))))))))))))))))))))))
    (.cond (.t 160)
      (.seq (.ins [
        ⟨some 6, .asg (.c (.bool false)), none⟩])
      (.ret))
      (.skip))))))))))
  (.ins [
    ⟨some 74, .mov (.t 11), none⟩,
    ⟨some 75, .bin .add (.t 74) (.c (.int .i64 1)), none⟩,
    ⟨some 11, .asg (.t 75), none⟩])))
def ir9_l0 : IR :=
  .loop (.seq (.seq (.ins [
    ⟨some 47, .mov (.t 10), none⟩,
    ⟨some 48, .mov (.t 1), none⟩,
    ⟨some 49, .bin .lss (.t 47) (.t 48), none⟩])
  (.cond (.t 49)
    (.skip)
    (.exit 0)))
  (.seq (.block 1 (.seq (.seq (.drawn [
      ⟨some 52, .mov (.t 7), none⟩,
      ⟨some 53, .mov (.t 10), none⟩,
      ⟨some 54, .iaddr 1 (.t 52) (.t 53), none⟩,
      ⟨some 55, .load none (.t 54), none⟩,
      ⟨some 56, .len (.t 55), none⟩,
      ⟨some 57, .faddr 0 (.t 3), none⟩,
      ⟨some 58, .load none (.t 57), none⟩,
      ⟨some 59, .bin .neq (.t 56) (.t 58), none⟩,
      ⟨some 60, .mov (.t 59), none⟩,
      ⟨some 61, .mov (.t 8), some (60, false)⟩,
      ⟨some 62, .mov (.t 10), some (60, false)⟩,
      ⟨some 63, .iaddr 1 (.t 61) (.t 62), some (60, false)⟩,
      ⟨some 64, .load none (.t 63), some (60, false)⟩,
      ⟨some 65, .len (.t 64), some (60, false)⟩,
      ⟨some 66, .faddr 0 (.t 3), some (60, false)⟩,
      ⟨some 67, .load none (.t 66), some (60, false)⟩,
      ⟨some 68, .bin .neq (.t 65) (.t 67), some (60, false)⟩,
      ⟨some 69, .pick (.t 60) (.c (.bool true)) (.t 68), none⟩]
    (.still 0 (.still 1 (.still 2 (.still 3 (.still 4 (.still 5 (.still 6 (.still 7 (.still 8 (.still 9 (.still 10 (.still 11 (.still 12 (.still 13 (.still 14 (.still 15 (.still 16 (.still 17 (.done))))))))))))))))))))
    (.cond (.t 69)
      (.seq (.ins [
        ⟨some 6, .asg (.c (.bool false)), none⟩])
      (.ret))
      (.skip)))
    (.seq (.ins [
      ⟨some 11, .asg (.c (.int .i64 0)), none⟩])
    (.block 2 (ir9_l1)))))
  (.ins [
    ⟨some 50, .mov (.t 10), none⟩,
    ⟨some 51, .bin .add (.t 50) (.c (.int .i64 1)), none⟩,
    ⟨some 10, .asg (.t 51), none⟩])))
/-- padlock/padlocklaw08.ControlKnows -/
def ir9 : IR :=
  .seq (.ins [
    ⟨some 3, .box (.t 0), none⟩,
    ⟨some 6, .asg (.c (.bool false)), none⟩])
  (.seq (.seq (.ins [
    ⟨some 16, .mov (.t 1), none⟩,
    ⟨some 17, .call 20 [.t 16], none⟩,
    ⟨some 18, .mov (.t 17), none⟩,
    ⟨some 19, .load (some 4) (.t 3), some (18, false)⟩,
    ⟨some 20, .mov (.t 1), some (18, false)⟩,
    ⟨some 21, .mov (.t 2), some (18, false)⟩,
    ⟨some 22, .call 22 [.t 19, .t 20, .t 21], some (18, false)⟩,
    ⟨some 23, .un .not (.t 22), some (18, false)⟩,
    ⟨some 24, .pick (.t 18) (.c (.bool true)) (.t 23), none⟩])
  (.cond (.t 24)
    (.seq (.ins [
      ⟨some 25, .call 16 [], none⟩,
      ⟨some 6, .asg (.t 25), none⟩])
    (.ret))
    (.skip)))
  (.seq (.ins [
    ⟨some 27, .load (some 4) (.t 3), none⟩,
    ⟨some 28, .mov (.t 1), none⟩,
    ⟨some 29, .mov (.t 2), none⟩,
    ⟨some 30, .call 30 [.t 27, .t 28, .t 29], none⟩,
    ⟨some 26, .mov (.t 30), none⟩,
    ⟨some 31, .ext 0 (.t 26), none⟩,
    ⟨some 32, .ext 1 (.t 26), none⟩,
    ⟨some 33, .ext 2 (.t 26), none⟩,
    ⟨some 7, .asg (.t 31), none⟩,
    ⟨some 8, .asg (.t 32), none⟩,
    ⟨some 9, .asg (.t 33), none⟩])
  (.seq (.seq (.ins [
    ⟨some 34, .mov (.t 9), none⟩,
    ⟨some 35, .bin .neq (.t 34) (.c (.int .i64 0)), none⟩])
  (.cond (.t 35)
    (.seq (.ins [
      ⟨some 36, .call 16 [], none⟩,
      ⟨some 6, .asg (.t 36), none⟩])
    (.ret))
    (.skip)))
  (.seq (.seq (.ins [
    ⟨some 37, .mov (.t 7), none⟩,
    ⟨some 38, .len (.t 37), none⟩,
    ⟨some 39, .mov (.t 1), none⟩,
    ⟨some 40, .bin .neq (.t 38) (.t 39), none⟩,
    ⟨some 41, .mov (.t 40), none⟩,
    ⟨some 42, .mov (.t 8), some (41, false)⟩,
    ⟨some 43, .len (.t 42), some (41, false)⟩,
    ⟨some 44, .mov (.t 1), some (41, false)⟩,
    ⟨some 45, .bin .neq (.t 43) (.t 44), some (41, false)⟩,
    ⟨some 46, .pick (.t 41) (.c (.bool true)) (.t 45), none⟩])
  (.cond (.t 46)
    (.seq (.ins [
      ⟨some 6, .asg (.c (.bool false)), none⟩])
    (.ret))
    (.skip)))
  (.seq (.seq (.ins [
    ⟨some 10, .asg (.c (.int .i64 0)), none⟩])
  (.block 0 (ir9_l0)))
  (.seq (.ins [
    ⟨some 161, .call 16 [], none⟩,
    ⟨some 6, .asg (.t 161), none⟩])
  (.ret)))))))
def rs9 : List RV := [.t 6]
theorem fn9 : FnIR Try.prog 9 162 ir9 rs9 := ⟨Try.f9, (Try.f9.body).getD .skip, Try.func9, by kernel_rfl, by kernel_rfl, by kernel_rfl, by kernel_rfl, by kernel_rfl⟩
/-- padlock/padlocklaw08.ControlSafes -/
def ir10 : IR :=
  .seq (.ins [
    ⟨some 3, .box (.t 0), none⟩,
    ⟨some 5, .box (.t 2), none⟩,
    ⟨some 6, .asg (.c (.bool false)), none⟩])
  (.seq (.seq (.ins [
    ⟨some 13, .faddr 0 (.t 5), none⟩,
    ⟨some 14, .load none (.t 13), none⟩,
    ⟨some 15, .call 20 [.t 14], none⟩])
  (.cond (.t 15)
    (.seq (.ins [
      ⟨some 16, .call 16 [], none⟩,
      ⟨some 6, .asg (.t 16), none⟩])
    (.ret))
    (.skip)))
  (.seq (.ins [
    ⟨some 18, .load (some 4) (.t 3), none⟩,
    ⟨some 19, .faddr 0 (.t 5), none⟩,
    ⟨some 20, .load none (.t 19), none⟩,
    ⟨some 21, .mov (.t 1), none⟩,
    ⟨some 22, .faddr 1 (.t 5), none⟩,
    ⟨some 23, .load none (.t 22), none⟩,
    ⟨some 24, .call 34 [.t 18, .t 20, .t 21, .t 23], none⟩,
    ⟨some 17, .mov (.t 24), none⟩,
    ⟨some 25, .ext 0 (.t 17), none⟩,
    ⟨some 26, .ext 1 (.t 17), none⟩,
    ⟨some 27, .ext 2 (.t 17), none⟩,
    ⟨some 7, .asg (.t 25), none⟩,
    ⟨some 8, .asg (.t 26), none⟩,
    ⟨some 9, .asg (.t 27), none⟩])
  (.seq (.ins [
    ⟨some 29, .load (some 4) (.t 3), none⟩,
    ⟨some 30, .faddr 0 (.t 5), none⟩,
    ⟨some 31, .load none (.t 30), none⟩,
    ⟨some 32, .mov (.t 1), none⟩,
    ⟨some 33, .faddr 1 (.t 5), none⟩,
    ⟨some 34, .load none (.t 33), none⟩,
    ⟨some 35, .call 35 [.t 29, .t 31, .t 32, .t 34], none⟩,
    ⟨some 28, .mov (.t 35), none⟩,
    ⟨some 36, .ext 0 (.t 28), none⟩,
    ⟨some 37, .ext 1 (.t 28), none⟩,
    ⟨some 38, .ext 2 (.t 28), none⟩,
    ⟨some 10, .asg (.t 36), none⟩,
    ⟨some 11, .asg (.t 37), none⟩,
    ⟨some 12, .asg (.t 38), none⟩])
  (.seq (.ins [
    ⟨some 39, .mov (.t 7), none⟩,
    ⟨some 40, .mov (.t 10), none⟩,
    ⟨some 41, .bin .eql (.t 39) (.t 40), none⟩,
    ⟨some 42, .mov (.t 41), none⟩,
    ⟨some 43, .mov (.t 8), some (42, true)⟩,
    ⟨some 44, .mov (.t 11), some (42, true)⟩,
    ⟨some 45, .bin .eql (.t 43) (.t 44), some (42, true)⟩,
    ⟨some 46, .pick (.t 42) (.t 45) (.c (.bool false)), none⟩,
    ⟨some 47, .mov (.t 46), none⟩,
    ⟨some 48, .mov (.t 9), some (47, true)⟩,
    ⟨some 49, .mov (.t 12), some (47, true)⟩,
    ⟨some 50, .bin .eql (.t 48) (.t 49), some (47, true)⟩,
    ⟨some 51, .pick (.t 47) (.t 50) (.c (.bool false)), none⟩,
    ⟨some 52, .mov (.t 51), none⟩,
    ⟨some 53, .call 16 [], some (52, true)⟩,
    ⟨some 54, .pick (.t 52) (.t 53) (.c (.bool false)), none⟩,
    ⟨some 6, .asg (.t 54), none⟩])
  (.ret)))))
def rs10 : List RV := [.t 6]
theorem fn10 : FnIR Try.prog 10 55 ir10 rs10 := ⟨Try.f10, (Try.f10.body).getD .skip, Try.func10, by kernel_rfl, by kernel_rfl, by kernel_rfl, by kernel_rfl, by kernel_rfl⟩
def ir11_l0 : IR :=
  .loop (.seq (.seq (.ins [
    ⟨some 29, .mov (.t 9), none⟩,
    ⟨some 30, .mov (.t 1), none⟩,
    ⟨some 31, .bin .lss (.t 29) (.t 30), none⟩])
  (.cond (.t 31)
    (.skip)
    (.exit 0)))
  (.seq (.block 1 (.seq (.drawn [
      ⟨some 34, .mov (.t 7), none⟩,
      ⟨some 35, .mov (.t 9), none⟩,
      ⟨some 36, .iaddr 1 (.t 34) (.t 35), none⟩,
      ⟨some 37, .load none (.t 36), none⟩,
      ⟨some 38, .bin .lss (.t 37) (.c (.int .i64 0)), none⟩,
      ⟨some 39, .mov (.t 38), none⟩,
      ⟨some 40, .mov (.t 7), some (39, false)⟩,
      ⟨some 41, .mov (.t 9), some (39, false)⟩,
      ⟨some 42, .iaddr 1 (.t 40) (.t 41), some (39, false)⟩,
      ⟨some 43, .load none (.t 42), some (39, false)⟩,
      ⟨some 44, .faddr 1 (.t 3), some (39, false)⟩,
      ⟨some 45, .load none (.t 44), some (39, false)⟩,
      ⟨some 46, .len (.t 45), some (39, false)⟩,
      ⟨some 47, .conv .u64 (.t 46), some (39, false)⟩,
      ⟨some 48, .bin .shl (.c (.int .i64 1)) (.t 47), some (39, false)⟩,
      ⟨some 49, .bin .geq (.t 43) (.t 48), some (39, false)⟩,
      ⟨some 50, .pick (.t 39) (.c (.bool true)) (.t 49), none⟩,
      ⟨some 51, .mov (.t 50), none⟩,
      ⟨some 52, .mov (.t 7), some (51, false)⟩,
      ⟨some 53, .mov (.t 9), some (51, false)⟩,
      ⟨some 54, .iaddr 1 (.t 52) (.t 53), some (51, false)⟩,
      ⟨some 55, .load none (.t 54), some (51, false)⟩,
      ⟨some 56, .bin .gtr (.t 55) (.c (.int .i64 0)), some (51, false)⟩,
      ⟨some 57, .mov (.t 56), some (51, false)⟩,
      ⟨some 58, .mov (.t 9), some (57, true)⟩,
      ⟨some 59, .mov (.t 2), some (57, true)⟩,
      ⟨some 60, .call 33 [.t 58, .t 59], some (57, true)⟩,
      ⟨some 61, .un .not (.t 60), some (57, true)⟩,
      ⟨some 62, .pick (.t 57) (.t 61) (.c (.bool false)), some (51, false)⟩,
      ⟨some 63, .pick (.t 51) (.c (.bool true)) (.t 62), none⟩]
    (.still 0 (.still 1 (.still 2 (.still 3 (.still 4 (.still 5 (.still 6 (.still 7 (.still 8 (.still 9 (.still 10 (.still 11 (.still 12 (.still 13 (.still 14 (.still 15 (.still 16 (.still 17 (.still 18 (.still 19 (.still 20 (.still 21 (.still 22 (.still 23 (.still 24 (.still 25 (.eff 26 [] (.still 27 (.still 28 (.still 29 (.done)))) (.none)))))))))))))))))))))))))))))
    (.cond (.t 63)
      (.seq (.ins [
        ⟨some 6, .asg (.c (.bool false)), none⟩])
      (.ret))
      (.skip))))
  (.ins [
    ⟨some 32, .mov (.t 9), none⟩,
    ⟨some 33, .bin .add (.t 32) (.c (.int .i64 1)), none⟩,
    ⟨some 9, .asg (.t 33), none⟩])))
/-- padlock/padlocklaw08.ControlPower -/
def ir11 : IR :=
  .seq (.ins [
    ⟨some 3, .box (.t 0), none⟩,
    ⟨some 6, .asg (.c (.bool false)), none⟩])
  (.seq (.seq (.ins [
    ⟨some 12, .mov (.t 1), none⟩,
    ⟨some 13, .call 20 [.t 12], none⟩])
  (.cond (.t 13)
    (.seq (.ins [
      ⟨some 14, .call 16 [], none⟩,
      ⟨some 6, .asg (.t 14), none⟩])
    (.ret))
    (.skip)))
  (.seq (.ins [
    ⟨some 16, .load (some 4) (.t 3), none⟩,
    ⟨some 17, .mov (.t 1), none⟩,
    ⟨some 18, .mov (.t 2), none⟩,
    ⟨some 19, .call 17 [.t 16, .t 17, .t 18], none⟩,
    ⟨some 15, .mov (.t 19), none⟩,
    ⟨some 20, .ext 0 (.t 15), none⟩,
    ⟨some 21, .ext 1 (.t 15), none⟩,
    ⟨some 7, .asg (.t 20), none⟩,
    ⟨some 8, .asg (.t 21), none⟩])
  (.seq (.seq (.ins [
    ⟨some 22, .mov (.t 8), none⟩,
    ⟨some 23, .bin .neq (.t 22) (.c (.int .i64 0)), none⟩])
  (.cond (.t 23)
    (.seq (.ins [
      ⟨some 24, .call 16 [], none⟩,
      ⟨some 6, .asg (.t 24), none⟩])
    (.ret))
    (.skip)))
  (.seq (.seq (.ins [
    ⟨some 25, .mov (.t 7), none⟩,
    ⟨some 26, .len (.t 25), none⟩,
    ⟨some 27, .mov (.t 1), none⟩,
    ⟨some 28, .bin .neq (.t 26) (.t 27), none⟩])
  (.cond (.t 28)
    (.seq (.ins [
      ⟨some 6, .asg (.c (.bool false)), none⟩])
    (.ret))
    (.skip)))
  (.seq (.seq (.ins [
    ⟨some 9, .asg (.c (.int .i64 0)), none⟩])
  (.block 0 (ir11_l0)))
  (.seq (.ins [
    ⟨some 65, .load (some 4) (.t 3), none⟩,
    ⟨some 66, .mov (.t 1), none⟩,
    ⟨some 67, .mov (.t 2), none⟩,
    ⟨some 68, .mov (.t 7), none⟩,
    ⟨some 69, .call 34 [.t 65, .t 66, .t 67, .t 68], none⟩,
    ⟨some 64, .mov (.t 69), none⟩,
    ⟨some 70, .ext 0 (.t 64), none⟩,
    ⟨some 71, .ext 1 (.t 64), none⟩,
    ⟨some 72, .ext 2 (.t 64), none⟩,
    ⟨some 10, .asg (.t 70), none⟩,
    ⟨some 11, .asg (.t 71), none⟩,
    ⟨some 8, .asg (.t 72), none⟩])
  (.seq (.ins [
    ⟨some 73, .mov (.t 8), none⟩,
    ⟨some 74, .bin .eql (.t 73) (.c (.int .i64 0)), none⟩,
    ⟨some 75, .mov (.t 74), none⟩,
    ⟨some 76, .mov (.t 10), some (75, true)⟩,
    ⟨some 77, .bin .eql (.t 76) (.c (.int .i64 (-1))), some (75, true)⟩,
    ⟨some 78, .pick (.t 75) (.t 77) (.c (.bool false)), none⟩,
    ⟨some 79, .mov (.t 78), none⟩,
    ⟨some 80, .mov (.t 11), some (79, true)⟩,
    ⟨some 81, .bin .eql (.t 80) (.c (.int .i64 (-1))), some (79, true)⟩,
    ⟨some 82, .pick (.t 79) (.t 81) (.c (.bool false)), none⟩,
    ⟨some 83, .mov (.t 82), none⟩,
    ⟨some 84, .call 16 [], some (83, true)⟩,
    ⟨some 85, .pick (.t 83) (.t 84) (.c (.bool false)), none⟩,
    ⟨some 6, .asg (.t 85), none⟩])
  (.ret))))))))
def rs11 : List RV := [.t 6]
theorem fn11 : FnIR Try.prog 11 86 ir11 rs11 := ⟨Try.f11, (Try.f11.body).getD .skip, Try.func11, by kernel_rfl, by kernel_rfl, by kernel_rfl, by kernel_rfl, by kernel_rfl⟩
/-- padlock/padlocklaw08.ControlShuts -/
def ir12 : IR :=
  .seq (.ins [
    ⟨some 3, .box (.t 0), none⟩,
    ⟨some 5, .box (.t 2), none⟩,
    ⟨some 6, .asg (.c (.bool false)), none⟩])
  (.seq (.seq (.ins [
    ⟨some 15, .faddr 0 (.t 5), none⟩,
    ⟨some 16, .load none (.t 15), none⟩,
    ⟨some 17, .call 20 [.t 16], none⟩])
  (.cond (.t 17)
    (.seq (.ins [
      ⟨some 18, .call 16 [], none⟩,
      ⟨some 6, .asg (.t 18), none⟩])
    (.ret))
    (.skip)))
  (.seq (.ins [
    ⟨some 20, .load (some 4) (.t 3), none⟩,
    ⟨some 21, .faddr 0 (.t 5), none⟩,
    ⟨some 22, .load none (.t 21), none⟩,
    ⟨some 23, .mov (.t 1), none⟩,
    ⟨some 24, .faddr 1 (.t 5), none⟩,
    ⟨some 25, .load none (.t 24), none⟩,
    ⟨some 26, .call 36 [.t 20, .t 22, .t 23, .t 25], none⟩,
    ⟨some 19, .mov (.t 26), none⟩,
    ⟨some 27, .ext 0 (.t 19), none⟩,
    ⟨some 28, .ext 1 (.t 19), none⟩,
    ⟨some 29, .ext 2 (.t 19), none⟩,
    ⟨some 7, .asg (.t 27), none⟩,
    ⟨some 8, .asg (.t 28), none⟩,
    ⟨some 9, .asg (.t 29), none⟩])
  (.seq (.ins [
    ⟨some 31, .load (some 4) (.t 3), none⟩,
    ⟨some 32, .faddr 0 (.t 5), none⟩,
    ⟨some 33, .load none (.t 32), none⟩,
    ⟨some 34, .mov (.t 1), none⟩,
    ⟨some 35, .faddr 1 (.t 5), none⟩,
    ⟨some 36, .load none (.t 35), none⟩,
    ⟨some 37, .call 37 [.t 31, .t 33, .t 34, .t 36], none⟩,
    ⟨some 30, .mov (.t 37), none⟩,
    ⟨some 38, .ext 0 (.t 30), none⟩,
    ⟨some 39, .ext 1 (.t 30), none⟩,
    ⟨some 40, .ext 2 (.t 30), none⟩,
    ⟨some 10, .asg (.t 38), none⟩,
    ⟨some 11, .asg (.t 39), none⟩,
    ⟨some 12, .asg (.t 40), none⟩])
  (.seq (.seq (.ins [
    ⟨some 41, .mov (.t 7), none⟩,
    ⟨some 42, .mov (.t 10), none⟩,
    ⟨some 43, .bin .neq (.t 41) (.t 42), none⟩,
    ⟨some 44, .mov (.t 43), none⟩,
    ⟨some 45, .mov (.t 8), some (44, false)⟩,
    ⟨some 46, .mov (.t 11), some (44, false)⟩,
    ⟨some 47, .bin .neq (.t 45) (.t 46), some (44, false)⟩,
    ⟨some 48, .pick (.t 44) (.c (.bool true)) (.t 47), none⟩,
    ⟨some 49, .mov (.t 48), none⟩,
    ⟨some 50, .mov (.t 9), some (49, false)⟩,
    ⟨some 51, .mov (.t 12), some (49, false)⟩,
    ⟨some 52, .bin .neq (.t 50) (.t 51), some (49, false)⟩,
    ⟨some 53, .pick (.t 49) (.c (.bool true)) (.t 52), none⟩])
  (.cond (.t 53)
    (.seq (.ins [
      ⟨some 6, .asg (.c (.bool false)), none⟩])
    (.ret))
    (.skip)))
  (.seq (.ins [
    ⟨some 55, .load (some 4) (.t 3), none⟩,
    ⟨some 56, .call 21 [.t 55], none⟩,
    ⟨some 54, .mov (.t 56), none⟩,
    ⟨some 57, .ext 0 (.t 54), none⟩,
    ⟨some 58, .ext 1 (.t 54), none⟩,
    ⟨some 13, .asg (.t 57), none⟩,
    ⟨some 9, .asg (.t 58), none⟩])
  (.seq (.ins [
    ⟨some 60, .load (some 4) (.t 3), none⟩,
    ⟨some 61, .call 38 [.t 60], none⟩,
    ⟨some 59, .mov (.t 61), none⟩,
    ⟨some 62, .ext 0 (.t 59), none⟩,
    ⟨some 63, .ext 1 (.t 59), none⟩,
    ⟨some 14, .asg (.t 62), none⟩,
    ⟨some 12, .asg (.t 63), none⟩])
  (.seq (.seq (.ins [
    ⟨some 64, .mov (.t 13), none⟩,
    ⟨some 65, .mov (.t 14), none⟩,
    ⟨some 66, .bin .neq (.t 64) (.t 65), none⟩,
    ⟨some 67, .mov (.t 66), none⟩,
    ⟨some 68, .mov (.t 9), some (67, false)⟩,
    ⟨some 69, .mov (.t 12), some (67, false)⟩,
    ⟨some 70, .bin .neq (.t 68) (.t 69), some (67, false)⟩,
    ⟨some 71, .pick (.t 67) (.c (.bool true)) (.t 70), none⟩])
  (.cond (.t 71)
    (.seq (.ins [
      ⟨some 6, .asg (.c (.bool false)), none⟩])
    (.ret))
    (.skip)))
  (.seq (.ins [
    ⟨some 73, .load (some 4) (.t 3), none⟩,
    ⟨some 74, .faddr 1 (.t 5), none⟩,
    ⟨some 75, .load none (.t 74), none⟩,
    ⟨some 76, .call 39 [.t 73, .t 75], none⟩,
    ⟨some 72, .mov (.t 76), none⟩,
    ⟨some 77, .ext 0 (.t 72), none⟩,
    ⟨some 78, .ext 1 (.t 72), none⟩,
    ⟨some 13, .asg (.t 77), none⟩,
    ⟨some 9, .asg (.t 78), none⟩])
  (.seq (.ins [
    ⟨some 80, .load (some 4) (.t 3), none⟩,
    ⟨some 81, .faddr 1 (.t 5), none⟩,
    ⟨some 82, .load none (.t 81), none⟩,
    ⟨some 83, .call 40 [.t 80, .t 82], none⟩,
    ⟨some 79, .mov (.t 83), none⟩,
    ⟨some 84, .ext 0 (.t 79), none⟩,
    ⟨some 85, .ext 1 (.t 79), none⟩,
    ⟨some 14, .asg (.t 84), none⟩,
    ⟨some 12, .asg (.t 85), none⟩])
  (.seq (.ins [
    ⟨some 86, .mov (.t 13), none⟩,
    ⟨some 87, .mov (.t 14), none⟩,
    ⟨some 88, .bin .eql (.t 86) (.t 87), none⟩,
    ⟨some 89, .mov (.t 88), none⟩,
    ⟨some 90, .mov (.t 9), some (89, true)⟩,
    ⟨some 91, .mov (.t 12), some (89, true)⟩,
    ⟨some 92, .bin .eql (.t 90) (.t 91), some (89, true)⟩,
    ⟨some 93, .pick (.t 89) (.t 92) (.c (.bool false)), none⟩,
    ⟨some 94, .mov (.t 93), none⟩,
    ⟨some 95, .call 16 [], some (94, true)⟩,
    ⟨some 96, .pick (.t 94) (.t 95) (.c (.bool false)), none⟩,
    ⟨some 6, .asg (.t 96), none⟩])
  (.ret)))))))))))
def rs12 : List RV := [.t 6]
theorem fn12 : FnIR Try.prog 12 97 ir12 rs12 := ⟨Try.f12, (Try.f12.body).getD .skip, Try.func12, by kernel_rfl, by kernel_rfl, by kernel_rfl, by kernel_rfl, by kernel_rfl⟩
/-- padlock/padlocklaw08.valid -/
def ir22 : IR :=
  .seq (.ins [
    ⟨some 3, .box (.t 0), none⟩,
    ⟨some 6, .asg (.c (.bool false)), none⟩])
  (.seq (.ins [
    ⟨some 10, .load (some 4) (.t 3), none⟩,
    ⟨some 11, .mov (.t 1), none⟩,
    ⟨some 12, .mov (.t 2), none⟩,
    ⟨some 13, .call 28 [.t 10, .t 11, .t 12], none⟩,
    ⟨some 9, .mov (.t 13), none⟩,
    ⟨some 14, .ext 0 (.t 9), none⟩,
    ⟨some 15, .ext 1 (.t 9), none⟩,
    ⟨some 7, .asg (.t 14), none⟩,
    ⟨some 8, .asg (.t 15), none⟩])
  (.seq (.ins [
    ⟨some 16, .mov (.t 8), none⟩,
    ⟨some 17, .bin .eql (.t 16) (.c (.int .i64 0)), none⟩,
    ⟨some 6, .asg (.t 17), none⟩])
  (.ret)))
def rs22 : List RV := [.t 6]
theorem fn22 : FnIR Try.prog 22 18 ir22 rs22 := ⟨Try.f22, (Try.f22.body).getD .skip, Try.func22, by kernel_rfl, by kernel_rfl, by kernel_rfl, by kernel_rfl, by kernel_rfl⟩
def ir23_l0 : IR :=
  .loop (.seq (.seq (.ins [
    ⟨some 6, .mov (.t 5), none⟩,
    ⟨some 7, .mov (.t 0), none⟩,
    ⟨some 8, .len (.t 7), none⟩,
    ⟨some 9, .bin .lss (.t 6) (.t 8), none⟩])
  (.cond (.t 9)
    (.skip)
    (.exit 0)))
  (.seq (.block 1 (.seq (.drawn [
      ⟨some 12, .mov (.t 1), none⟩,
      ⟨some 13, .mov (.t 0), none⟩,
      ⟨some 14, .mov (.t 5), none⟩,
      ⟨some 15, .iaddr 3 (.t 13) (.t 14), none⟩,
      ⟨some 16, .faddr 0 (.t 15), none⟩,
      ⟨some 17, .load none (.t 16), none⟩,
      ⟨some 18, .iaddr 1 (.t 12) (.t 17), none⟩,
      ⟨some 19, .load none (.t 18), none⟩,
      ⟨some 20, .mov (.t 0), none⟩,
      ⟨some 21, .mov (.t 5), none⟩,
      ⟨some 22, .iaddr 3 (.t 20) (.t 21), none⟩,
      ⟨some 23, .faddr 1 (.t 22), none⟩,
      ⟨some 24, .load none (.t 23), none⟩,
      ⟨some 25, .bin .eql (.t 19) (.t 24), none⟩,
      ⟨some 26, .mov (.t 0), none⟩,
      ⟨some 27, .mov (.t 5), none⟩,
      ⟨some 28, .iaddr 3 (.t 26) (.t 27), none⟩,
      ⟨some 29, .faddr 2 (.t 28), none⟩,
      ⟨some 30, .load none (.t 29), none⟩,
      ⟨some 31, .boolq false (.t 25) (.t 30), none⟩]
    (.still 0 (.still 1 (.still 2 (.still 3 (.still 4 (.still 5 (.still 6 (.still 7 (.still 8 (.still 9 (.still 10 (.still 11 (.still 12 (.still 13 (.still 14 (.still 15 (.still 16 (.still 17 (.still 18 (.still 19 (.done))))))))))))))))))))))
    (.cond (.t 31)
      (.seq (.ins [
        ⟨some 4, .asg (.c (.bool false)), none⟩])
      (.ret))
      (.skip))))
  (.ins [
    ⟨some 10, .mov (.t 5), none⟩,
    ⟨some 11, .bin .add (.t 10) (.c (.int .i64 1)), none⟩,
    ⟨some 5, .asg (.t 11), none⟩])))
/-- padlock/padlockref08.True -/
def ir23 : IR :=
  .seq (.ins [
    ⟨some 4, .asg (.c (.bool false)), none⟩])
  (.seq (.seq (.ins [
    ⟨some 5, .asg (.c (.int .i64 0)), none⟩])
  (.block 0 (ir23_l0)))
  (.seq (.ins [
    ⟨some 4, .asg (.c (.bool true)), none⟩])
  (.ret)))
def rs23 : List RV := [.t 4]
theorem fn23 : FnIR Try.prog 23 32 ir23 rs23 := ⟨Try.f23, (Try.f23.body).getD .skip, Try.func23, by kernel_rfl, by kernel_rfl, by kernel_rfl, by kernel_rfl, by kernel_rfl⟩
def ir24_l1 : IR :=
  .loop (.seq (.seq (.ins [
    ⟨some 18, .mov (.t 9), none⟩,
    ⟨some 19, .mov (.t 2), none⟩,
    ⟨some 20, .len (.t 19), none⟩,
    ⟨some 21, .bin .lss (.t 18) (.t 20), none⟩])
  (.cond (.t 21)
    (.skip)
    (.exit 2)))
  (.seq (.block 3 (.seq (.ins [
      ⟨some 24, .mov (.t 2), none⟩,
      ⟨some 25, .mov (.t 9), none⟩,
      ⟨some 26, .iaddr 4 (.t 24) (.t 25), none⟩,
      ⟨some 27, .faddr 0 (.t 26), none⟩,
      ⟨some 28, .load none (.t 27), none⟩,
      ⟨some 29, .mov (.t 8), none⟩,
      ⟨some 30, .bin .eql (.t 28) (.t 29), none⟩,
      ⟨some 31, .mov (.t 30), none⟩,
      ⟨some 32, .mov (.t 2), some (31, true)⟩,
      ⟨some 33, .mov (.t 9), some (31, true)⟩,
      ⟨some 34, .iaddr 4 (.t 32) (.t 33), some (31, true)⟩,
      ⟨some 35, .faddr 1 (.t 34), some (31, true)⟩,
      ⟨some 36, .load none (.t 35), some (31, true)⟩,
      ⟨some 37, .bin .eql (.t 36) (.c (.int .i64 1)), some (31, true)⟩,
      ⟨some 38, .pick (.t 31) (.t 37) (.c (.bool false)), none⟩])
    (.cond (.t 38)
      (.drawn [
        ⟨some 39, .mov (.t 7), none⟩,
        ⟨some 40, .mov (.t 2), none⟩,
        ⟨some 41, .mov (.t 9), none⟩,
        ⟨some 42, .iaddr 4 (.t 40) (.t 41), none⟩,
        ⟨some 43, .faddr 2 (.t 42), none⟩,
        ⟨some 44, .load none (.t 43), none⟩,
        ⟨some 45, .mov (.t 2), none⟩,
        ⟨some 46, .mov (.t 9), none⟩,
        ⟨some 47, .iaddr 4 (.t 45) (.t 46), none⟩,
        ⟨some 48, .faddr 3 (.t 47), none⟩,
        ⟨some 49, .load none (.t 48), none⟩,
        ⟨some 50, .iaddr 1 (.t 39) (.t 44), none⟩,
        ⟨none, .store 1 (.t 50) (.t 49), none⟩]
      (.still 0 (.still 1 (.still 2 (.still 3 (.still 4 (.still 5 (.still 6 (.still 7 (.still 8 (.still 9 (.still 10 (.still 11 (.eff 12 [] (.done) (.none)))))))))))))))
      (.skip))))
  (.ins [
    ⟨some 22, .mov (.t 9), none⟩,
    ⟨some 23, .bin .add (.t 22) (.c (.int .i64 1)), none⟩,
    ⟨some 9, .asg (.t 23), none⟩])))
def ir24_l0 : IR :=
  .loop (.seq (.seq (.ins [
    ⟨some 13, .mov (.t 8), none⟩,
    ⟨some 14, .mov (.t 1), none⟩,
    ⟨some 15, .bin .leq (.t 13) (.t 14), none⟩])
  (.cond (.t 15)
    (.skip)
    (.exit 0)))
  (.seq (.block 1 (.seq (.ins [
      ⟨some 9, .asg (.c (.int .i64 0)), none⟩])
    (.block 2 (ir24_l1))))
  (.ins [
    ⟨some 16, .mov (.t 8), none⟩,
    ⟨some 17, .bin .add (.t 16) (.c (.int .i64 1)), none⟩,
    ⟨some 8, .asg (.t 17), none⟩])))
/-- padlock/padlockref08.Senses -/
def ir24 : IR :=
  .seq (.ins [
    ⟨some 3, .box (.t 0), none⟩,
    ⟨some 6, .asg (.c (.slice none 0 0)), none⟩])
  (.seq (.ins [
    ⟨some 10, .faddr 0 (.t 3), none⟩,
    ⟨some 11, .load none (.t 10), none⟩,
    ⟨some 12, .mks 1 (.int .i64 0) 8 (.t 11) (.t 11), none⟩,
    ⟨some 7, .asg (.t 12), none⟩])
  (.seq (.seq (.ins [
    ⟨some 8, .asg (.c (.int .i64 0)), none⟩])
  (.block 0 (ir24_l0)))
  (.seq (.ins [
    ⟨some 51, .mov (.t 7), none⟩,
    ⟨some 6, .asg (.t 51), none⟩])
  (.ret))))
def rs24 : List RV := [.t 6]
theorem fn24 : FnIR Try.prog 24 52 ir24 rs24 := ⟨Try.f24, (Try.f24.body).getD .skip, Try.func24, by kernel_rfl, by kernel_rfl, by kernel_rfl, by kernel_rfl, by kernel_rfl⟩
def ir25_l1 : IR :=
  .loop (.seq (.seq (.ins [
    ⟨some 14, .mov (.t 7), none⟩,
    ⟨some 15, .mov (.t 1), none⟩,
    ⟨some 16, .len (.t 15), none⟩,
    ⟨some 17, .bin .lss (.t 14) (.t 16), none⟩])
  (.cond (.t 17)
    (.skip)
    (.exit 2)))
  (.seq (.block 3 (.seq (.drawn [
      ⟨some 20, .mov (.t 0), none⟩,
      ⟨some 21, .mov (.t 6), none⟩,
      ⟨some 22, .iaddr 4 (.t 20) (.t 21), none⟩,
      ⟨some 23, .faddr 1 (.t 22), none⟩,
      ⟨some 24, .load none (.t 23), none⟩,
      ⟨some 25, .mov (.t 1), none⟩,
      ⟨some 26, .mov (.t 7), none⟩,
      ⟨some 27, .iaddr 1 (.t 25) (.t 26), none⟩,
      ⟨some 28, .load none (.t 27), none⟩,
      ⟨some 29, .bin .eql (.t 24) (.t 28), none⟩]
    (.still 0 (.still 1 (.still 2 (.still 3 (.still 4 (.still 5 (.still 6 (.still 7 (.still 8 (.still 9 (.done))))))))))))
    (.cond (.t 29)
      (.ins [
        ⟨some 30, .mov (.t 5), none⟩,
        ⟨some 31, .mov (.t 0), none⟩,
        ⟨some 32, .mov (.t 6), none⟩,
        ⟨some 33, .iaddr 4 (.t 31) (.t 32), none⟩,
        ⟨some 34, .load (some 4) (.t 33), none⟩,
        ⟨some 35, .bsl 4 (.agg #[.int .i64 0, .int .i64 0, .int .i64 0, .int .i64 0]) 1 [(0, .t 34)], none⟩,
        ⟨some 36, .app 4 32 (.t 30) (.t 35), none⟩,
        ⟨some 5, .asg (.t 36), none⟩])
      (.skip))))
  (.ins [
    ⟨some 18, .mov (.t 7), none⟩,
    ⟨some 19, .bin .add (.t 18) (.c (.int .i64 1)), none⟩,
    ⟨some 7, .asg (.t 19), none⟩])))
def ir25_l0 : IR :=
  .loop (.seq (.seq (.ins [
    ⟨some 8, .mov (.t 6), none⟩,
    ⟨some 9, .mov (.t 0), none⟩,
    ⟨some 10, .len (.t 9), none⟩,
    ⟨some 11, .bin .lss (.t 8) (.t 10), none⟩])
  (.cond (.t 11)
    (.skip)
    (.exit 0)))
  (.seq (.block 1 (.seq (.ins [
      ⟨some 7, .asg (.c (.int .i64 0)), none⟩])
    (.block 2 (ir25_l1))))
  (.ins [
    ⟨some 12, .mov (.t 6), none⟩,
    ⟨some 13, .bin .add (.t 12) (.c (.int .i64 1)), none⟩,
    ⟨some 6, .asg (.t 13), none⟩])))
/-- padlock/padlocklaw08.only -/
def ir25 : IR :=
  .seq (.ins [
    ⟨some 4, .asg (.c (.slice none 0 0)), none⟩])
  (.seq (.ins [
    ⟨some 5, .asg (.c (.slice none 0 0)), none⟩])
  (.seq (.seq (.ins [
    ⟨some 6, .asg (.c (.int .i64 0)), none⟩])
  (.block 0 (ir25_l0)))
  (.seq (.ins [
    ⟨some 37, .mov (.t 5), none⟩,
    ⟨some 4, .asg (.t 37), none⟩])
  (.ret))))
def rs25 : List RV := [.t 4]
theorem fn25 : FnIR Try.prog 25 38 ir25 rs25 := ⟨Try.f25, (Try.f25.body).getD .skip, Try.func25, by kernel_rfl, by kernel_rfl, by kernel_rfl, by kernel_rfl, by kernel_rfl⟩
def ir26_l0 : IR :=
  .loop (.seq (.seq (.ins [
    ⟨some 8, .mov (.t 7), none⟩,
    ⟨some 9, .mov (.t 0), none⟩,
    ⟨some 10, .len (.t 9), none⟩,
    ⟨some 11, .bin .lss (.t 8) (.t 10), none⟩])
  (.cond (.t 11)
    (.skip)
    (.exit 0)))
  (.seq (.block 1 (.seq (.ins [
      ⟨some 14, .mov (.t 0), none⟩,
      ⟨some 15, .mov (.t 7), none⟩,
      ⟨some 16, .iaddr 4 (.t 14) (.t 15), none⟩,
      ⟨some 17, .faddr 1 (.t 16), none⟩,
      ⟨some 18, .load none (.t 17), none⟩,
      ⟨some 19, .bin .eql (.t 18) (.c (.int .i64 6)), none⟩,
      ⟨some 20, .mov (.t 19), none⟩,
      ⟨some 21, .mov (.t 0), some (20, true)⟩,
      ⟨some 22, .mov (.t 7), some (20, true)⟩,
      ⟨some 23, .iaddr 4 (.t 21) (.t 22), some (20, true)⟩,
      ⟨some 24, .faddr 0 (.t 23), some (20, true)⟩,
      ⟨some 25, .load none (.t 24), some (20, true)⟩,
      ⟨some 26, .mov (.t 1), some (20, true)⟩,
      ⟨some 27, .bin .eql (.t 25) (.t 26), some (20, true)⟩,
      ⟨some 28, .pick (.t 20) (.t 27) (.c (.bool false)), none⟩,
      ⟨some 29, .mov (.t 28), none⟩,
      ⟨some 30, .mov (.t 0), some (29, true)⟩,
      ⟨some 31, .mov (.t 7), some (29, true)⟩,
      ⟨some 32, .iaddr 4 (.t 30) (.t 31), some (29, true)⟩,
      ⟨some 33, .faddr 2 (.t 32), some (29, true)⟩,
      ⟨some 34, .load none (.t 33), some (29, true)⟩,
      ⟨some 35, .mov (.t 2), some (29, true)⟩,
      ⟨some 36, .bin .eql (.t 34) (.t 35), some (29, true)⟩,
      ⟨some 37, .pick (.t 29) (.t 36) (.c (.bool false)), none⟩])
    (.cond (.t 37)
      (.seq (.ins [
        ⟨some 6, .asg (.c (.bool true)), none⟩])
      (.ret))
      (.skip))))
  (.ins [
    ⟨some 12, .mov (.t 7), none⟩,
    ⟨some 13, .bin .add (.t 12) (.c (.int .i64 1)), none⟩,
    ⟨some 7, .asg (.t 13), none⟩])))
/-- padlock/padlocklaw08.stands -/
def ir26 : IR :=
  .seq (.ins [
    ⟨some 6, .asg (.c (.bool false)), none⟩])
  (.seq (.seq (.ins [
    ⟨some 7, .asg (.c (.int .i64 0)), none⟩])
  (.block 0 (ir26_l0)))
  (.seq (.ins [
    ⟨some 6, .asg (.c (.bool false)), none⟩])
  (.ret)))
def rs26 : List RV := [.t 6]
theorem fn26 : FnIR Try.prog 26 38 ir26 rs26 := ⟨Try.f26, (Try.f26.body).getD .skip, Try.func26, by kernel_rfl, by kernel_rfl, by kernel_rfl, by kernel_rfl, by kernel_rfl⟩
def ir28_l0 : IR :=
  .loop (.seq (.seq (.ins [
    ⟨some 23, .mov (.t 11), none⟩,
    ⟨some 24, .mov (.t 1), none⟩,
    ⟨some 25, .bin .lss (.t 23) (.t 24), none⟩])
  (.cond (.t 25)
    (.skip)
    (.exit 0)))
  (.seq (.block 1 (.ins [
      ⟨some 28, .mov (.t 10), none⟩,
      ⟨some 29, .mov (.t 9), none⟩,
      ⟨some 30, .mov (.t 11), none⟩,
      ⟨some 31, .iaddr 5 (.t 29) (.t 30), none⟩,
      ⟨some 32, .load (some 5) (.t 31), none⟩,
      ⟨some 33, .call 53 [.t 32], none⟩,
      ⟨some 34, .bsl 1 (.int .i64 0) 1 [(0, .t 33)], none⟩,
      ⟨some 35, .app 1 8 (.t 28) (.t 34), none⟩,
      ⟨some 10, .asg (.t 35), none⟩]))
  (.ins [
    ⟨some 26, .mov (.t 11), none⟩,
    ⟨some 27, .bin .add (.t 26) (.c (.int .i64 1)), none⟩,
    ⟨some 11, .asg (.t 27), none⟩])))
/-- padlock/padlockref08.Play -/
def ir28 : IR :=
  .seq (.ins [
    ⟨some 3, .box (.t 0), none⟩,
    ⟨some 6, .asg (.c (.slice none 0 0)), none⟩,
    ⟨some 7, .asg (.c (.int .i64 0)), none⟩])
  (.seq (.seq (.ins [
    ⟨some 12, .load (some 4) (.t 3), none⟩,
    ⟨some 13, .mov (.t 1), none⟩,
    ⟨some 14, .mov (.t 2), none⟩,
    ⟨some 15, .call 51 [.t 12, .t 13, .t 14], none⟩,
    ⟨some 8, .asg (.t 15), none⟩])
  (.seq (.ins [
    ⟨some 16, .mov (.t 8), none⟩,
    ⟨some 17, .bin .neq (.t 16) (.c (.int .i64 0)), none⟩])
  (.cond (.t 17)
    (.seq (.ins [
      ⟨some 18, .mov (.t 8), none⟩,
      ⟨some 6, .asg (.c (.slice none 0 0)), none⟩,
      ⟨some 7, .asg (.t 18), none⟩])
    (.ret))
    (.skip))))
  (.seq (.ins [
    ⟨some 19, .load (some 4) (.t 3), none⟩,
    ⟨some 20, .mov (.t 1), none⟩,
    ⟨some 21, .mov (.t 2), none⟩,
    ⟨some 22, .call 52 [.t 19, .t 20, .t 21], none⟩,
    ⟨some 9, .asg (.t 22), none⟩])
  (.seq (.ins [
    ⟨some 10, .asg (.c (.slice none 0 0)), none⟩])
  (.seq (.seq (.ins [
    ⟨some 11, .asg (.c (.int .i64 0)), none⟩])
  (.block 0 (ir28_l0)))
  (.seq (.ins [
    ⟨some 36, .mov (.t 10), none⟩,
    ⟨some 6, .asg (.t 36), none⟩,
    ⟨some 7, .asg (.c (.int .i64 0)), none⟩])
  (.ret))))))
def rs28 : List RV := [.t 6, .t 7]
theorem fn28 : FnIR Try.prog 28 37 ir28 rs28 := ⟨Try.f28, (Try.f28.body).getD .skip, Try.func28, by kernel_rfl, by kernel_rfl, by kernel_rfl, by kernel_rfl, by kernel_rfl⟩
def ir30_d0 : IR :=
  .drawn [
      ⟨some 28, .mov (.t 6), none⟩,
      ⟨some 29, .faddr 1 (.t 11), none⟩,
      ⟨some 30, .load none (.t 29), none⟩,
      ⟨some 31, .bsl 1 (.slice none 0 0) 1 [(0, .t 30)], none⟩,
      ⟨some 32, .app 1 24 (.t 28) (.t 31), none⟩,
      ⟨some 33, .mov (.t 7), none⟩,
      ⟨some 34, .faddr 2 (.t 11), none⟩,
      ⟨some 35, .load none (.t 34), none⟩,
      ⟨some 36, .bsl 1 (.slice none 0 0) 1 [(0, .t 35)], none⟩,
      ⟨some 37, .app 1 24 (.t 33) (.t 36), none⟩,
      ⟨some 6, .asg (.t 32), none⟩,
      ⟨some 7, .asg (.t 37), none⟩]
    (.still 0 (.still 1 (.still 2 (.still 5 (.still 6 (.still 7 (.eff 3 [7, 6, 5, 0] (.eff 4 [7, 6, 5] (.eff 8 [5, 2, 1, 0] (.eff 9 [] (.eff 10 [] (.eff 11 [] (.done) (.none)) (.none)) (.none)) (.none)) (.eff 8 [5, 2, 1, 0] (.eff 4 [7, 6, 5] (.eff 9 [] (.eff 10 [] (.eff 11 [] (.done) (.none)) (.none)) (.none)) (.none)) (.none))) (.eff 8 [5, 2, 1, 0] (.eff 3 [7, 6, 5, 0] (.eff 4 [7, 6, 5] (.eff 9 [] (.eff 10 [] (.eff 11 [] (.done) (.none)) (.none)) (.none)) (.none)) (.none)) (.none)))))))))
def ir30_l0 : IR :=
  .loop (.seq (.ins [
    ⟨some 25, .bin .lss (.t 24) (.t 23), none⟩])
  (.seq (.cond (.t 25)
    (.skip)
    (.exit 0))
  (.seq (.block 1 (.seq (.ins [
      ⟨some 26, .iaddr 6 (.t 22) (.t 24), none⟩,
      ⟨some 27, .load (some 6) (.t 26), none⟩,
      ⟨some 11, .alloc (.agg #[.bool false, .slice none 0 0, .slice none 0 0, .slice none 0 0, .slice none 0 0, .slice none 0 0]), none⟩,
      ⟨none, .store 6 (.t 11) (.t 27), none⟩])
    (ir30_d0)))
  (.ins [
    ⟨some 38, .bin .add (.t 24) (.c (.int .i64 1)), none⟩,
    ⟨some 24, .mov (.t 38), none⟩]))))
/-- padlock/control.Knows -/
def ir30 : IR :=
  .seq (.ins [
    ⟨some 3, .box (.t 0), none⟩,
    ⟨some 6, .asg (.c (.slice none 0 0)), none⟩,
    ⟨some 7, .asg (.c (.slice none 0 0)), none⟩,
    ⟨some 8, .asg (.c (.int .i64 0)), none⟩])
  (.seq (.ins [
    ⟨some 13, .load (some 4) (.t 3), none⟩,
    ⟨some 14, .mov (.t 1), none⟩,
    ⟨some 15, .mov (.t 2), none⟩,
    ⟨some 16, .call 45 [.t 13, .t 14, .t 15], none⟩,
    ⟨some 12, .mov (.t 16), none⟩,
    ⟨some 17, .ext 0 (.t 12), none⟩,
    ⟨some 18, .ext 1 (.t 12), none⟩,
    ⟨some 9, .asg (.t 17), none⟩,
    ⟨some 8, .asg (.t 18), none⟩])
  (.seq (.seq (.ins [
    ⟨some 19, .mov (.t 8), none⟩,
    ⟨some 20, .bin .neq (.t 19) (.c (.int .i64 0)), none⟩])
  (.cond (.t 20)
    (.seq (.ins [
      ⟨some 21, .mov (.t 8), none⟩,
      ⟨some 6, .asg (.c (.slice none 0 0)), none⟩,
      ⟨some 7, .asg (.c (.slice none 0 0)), none⟩,
      ⟨some 8, .asg (.t 21), none⟩])
    (.ret))
    (.skip)))
  (.seq (.seq (.ins [
    ⟨some 22, .mov (.t 9), none⟩,
    ⟨some 23, .len (.t 22), none⟩,
    ⟨some 24, .mov (.c (.int .i64 0)), none⟩])
  (.block 0 (ir30_l0)))
  (.seq (.ins [
    ⟨some 39, .mov (.t 6), none⟩,
    ⟨some 40, .mov (.t 7), none⟩,
    ⟨some 6, .asg (.t 39), none⟩,
    ⟨some 7, .asg (.t 40), none⟩,
    ⟨some 8, .asg (.c (.int .i64 0)), none⟩])
  (.ret)))))
def rs30 : List RV := [.t 6, .t 7, .t 8]
theorem fn30 : FnIR Try.prog 30 41 ir30 rs30 := ⟨Try.f30, (Try.f30.body).getD .skip, Try.func30, by kernel_rfl, by kernel_rfl, by kernel_rfl, by kernel_rfl, by kernel_rfl⟩
def ir31_l0 : IR :=
  .loop (.seq (.seq (.ins [
    ⟨some 25, .mov (.t 13), none⟩,
    ⟨some 26, .mov (.t 1), none⟩,
    ⟨some 27, .bin .lss (.t 25) (.t 26), none⟩])
  (.cond (.t 27)
    (.skip)
    (.exit 0)))
  (.seq (.block 1 (.seq (.ins [
      ⟨some 30, .mov (.t 11), none⟩,
      ⟨some 31, .mov (.t 10), none⟩,
      ⟨some 32, .mov (.t 13), none⟩,
      ⟨some 33, .iaddr 5 (.t 31) (.t 32), none⟩,
      ⟨some 34, .faddr 1 (.t 33), none⟩,
      ⟨some 35, .load none (.t 34), none⟩,
      ⟨some 36, .bsl 1 (.slice none 0 0) 1 [(0, .t 35)], none⟩,
      ⟨some 37, .app 1 24 (.t 30) (.t 36), none⟩,
      ⟨some 11, .asg (.t 37), none⟩])
    (.ins [
      ⟨some 38, .mov (.t 12), none⟩,
      ⟨some 39, .mov (.t 10), none⟩,
      ⟨some 40, .mov (.t 13), none⟩,
      ⟨some 41, .iaddr 5 (.t 39) (.t 40), none⟩,
      ⟨some 42, .faddr 2 (.t 41), none⟩,
      ⟨some 43, .load none (.t 42), none⟩,
      ⟨some 44, .bsl 1 (.slice none 0 0) 1 [(0, .t 43)], none⟩,
      ⟨some 45, .app 1 24 (.t 38) (.t 44), none⟩,
      ⟨some 12, .asg (.t 45), none⟩])))
  (.ins [
    ⟨some 28, .mov (.t 13), none⟩,
    ⟨some 29, .bin .add (.t 28) (.c (.int .i64 1)), none⟩,
    ⟨some 13, .asg (.t 29), none⟩])))
/-- padlock/padlockref08.Knows -/
def ir31 : IR :=
  .seq (.ins [
    ⟨some 3, .box (.t 0), none⟩,
    ⟨some 6, .asg (.c (.slice none 0 0)), none⟩,
    ⟨some 7, .asg (.c (.slice none 0 0)), none⟩,
    ⟨some 8, .asg (.c (.int .i64 0)), none⟩])
  (.seq (.seq (.ins [
    ⟨some 14, .load (some 4) (.t 3), none⟩,
    ⟨some 15, .mov (.t 1), none⟩,
    ⟨some 16, .mov (.t 2), none⟩,
    ⟨some 17, .call 51 [.t 14, .t 15, .t 16], none⟩,
    ⟨some 9, .asg (.t 17), none⟩])
  (.seq (.ins [
    ⟨some 18, .mov (.t 9), none⟩,
    ⟨some 19, .bin .neq (.t 18) (.c (.int .i64 0)), none⟩])
  (.cond (.t 19)
    (.seq (.ins [
      ⟨some 20, .mov (.t 9), none⟩,
      ⟨some 6, .asg (.c (.slice none 0 0)), none⟩,
      ⟨some 7, .asg (.c (.slice none 0 0)), none⟩,
      ⟨some 8, .asg (.t 20), none⟩])
    (.ret))
    (.skip))))
  (.seq (.ins [
    ⟨some 21, .load (some 4) (.t 3), none⟩,
    ⟨some 22, .mov (.t 1), none⟩,
    ⟨some 23, .mov (.t 2), none⟩,
    ⟨some 24, .call 52 [.t 21, .t 22, .t 23], none⟩,
    ⟨some 10, .asg (.t 24), none⟩])
  (.seq (.ins [
    ⟨some 11, .asg (.c (.slice none 0 0)), none⟩,
    ⟨some 12, .asg (.c (.slice none 0 0)), none⟩])
  (.seq (.seq (.ins [
    ⟨some 13, .asg (.c (.int .i64 0)), none⟩])
  (.block 0 (ir31_l0)))
  (.seq (.ins [
    ⟨some 46, .mov (.t 11), none⟩,
    ⟨some 47, .mov (.t 12), none⟩,
    ⟨some 6, .asg (.t 46), none⟩,
    ⟨some 7, .asg (.t 47), none⟩,
    ⟨some 8, .asg (.c (.int .i64 0)), none⟩])
  (.ret))))))
def rs31 : List RV := [.t 6, .t 7, .t 8]
theorem fn31 : FnIR Try.prog 31 48 ir31 rs31 := ⟨Try.f31, (Try.f31.body).getD .skip, Try.func31, by kernel_rfl, by kernel_rfl, by kernel_rfl, by kernel_rfl, by kernel_rfl⟩
def ir32_l0 : IR :=
  .loop (.seq (.seq (.ins [
    ⟨some 11, .mov (.t 5), none⟩,
    ⟨some 12, .mov (.t 0), none⟩,
    ⟨some 13, .len (.t 12), none⟩,
    ⟨some 14, .bin .lss (.t 11) (.t 13), none⟩])
  (.cond (.t 14)
    (.skip)
    (.exit 0)))
  (.seq (.block 1 (.seq (.drawn [
      ⟨some 17, .mov (.t 0), none⟩,
      ⟨some 18, .mov (.t 5), none⟩,
      ⟨some 19, .iaddr 1 (.t 17) (.t 18), none⟩,
      ⟨some 20, .load none (.t 19), none⟩,
      ⟨some 21, .mov (.t 1), none⟩,
      ⟨some 22, .mov (.t 5), none⟩,
      ⟨some 23, .iaddr 1 (.t 21) (.t 22), none⟩,
      ⟨some 24, .load none (.t 23), none⟩,
      ⟨some 25, .call 29 [.t 20, .t 24], none⟩,
      ⟨some 26, .un .not (.t 25), none⟩]
    (.still 0 (.still 1 (.still 2 (.still 3 (.still 4 (.still 5 (.still 6 (.still 7 (.eff 8 [] (.still 9 (.done)) (.none)))))))))))
    (.cond (.t 26)
      (.seq (.ins [
        ⟨some 4, .asg (.c (.bool false)), none⟩])
      (.ret))
      (.skip))))
  (.ins [
    ⟨some 15, .mov (.t 5), none⟩,
    ⟨some 16, .bin .add (.t 15) (.c (.int .i64 1)), none⟩,
    ⟨some 5, .asg (.t 16), none⟩])))
/-- padlock/padlocklaw08.sameLists -/
def ir32 : IR :=
  .seq (.ins [
    ⟨some 4, .asg (.c (.bool false)), none⟩])
  (.seq (.seq (.ins [
    ⟨some 6, .mov (.t 0), none⟩,
    ⟨some 7, .len (.t 6), none⟩,
    ⟨some 8, .mov (.t 1), none⟩,
    ⟨some 9, .len (.t 8), none⟩,
    ⟨some 10, .bin .neq (.t 7) (.t 9), none⟩])
  (.cond (.t 10)
    (.seq (.ins [
      ⟨some 4, .asg (.c (.bool false)), none⟩])
    (.ret))
    (.skip)))
  (.seq (.seq (.ins [
    ⟨some 5, .asg (.c (.int .i64 0)), none⟩])
  (.block 0 (ir32_l0)))
  (.seq (.ins [
    ⟨some 4, .asg (.c (.bool true)), none⟩])
  (.ret))))
def rs32 : List RV := [.t 4]
theorem fn32 : FnIR Try.prog 32 27 ir32 rs32 := ⟨Try.f32, (Try.f32.body).getD .skip, Try.func32, by kernel_rfl, by kernel_rfl, by kernel_rfl, by kernel_rfl, by kernel_rfl⟩
def ir33_l1 : IR :=
  .loop (.seq (.seq (.ins [
    ⟨some 13, .mov (.t 7), none⟩,
    ⟨some 14, .mov (.t 1), none⟩,
    ⟨some 15, .len (.t 14), none⟩,
    ⟨some 16, .bin .lss (.t 13) (.t 15), none⟩])
  (.cond (.t 16)
    (.skip)
    (.exit 2)))
  (.seq (.block 3 (.seq (.ins [
      ⟨some 19, .mov (.t 1), none⟩,
      ⟨some 20, .mov (.t 7), none⟩,
      ⟨some 21, .iaddr 4 (.t 19) (.t 20), none⟩,
      ⟨some 22, .faddr 0 (.t 21), none⟩,
      ⟨some 23, .load none (.t 22), none⟩,
      ⟨some 24, .mov (.t 6), none⟩,
      ⟨some 25, .bin .eql (.t 23) (.t 24), none⟩,
      ⟨some 26, .mov (.t 25), none⟩,
      ⟨some 27, .mov (.t 1), some (26, true)⟩,
      ⟨some 28, .mov (.t 7), some (26, true)⟩,
      ⟨some 29, .iaddr 4 (.t 27) (.t 28), some (26, true)⟩,
      ⟨some 30, .faddr 1 (.t 29), some (26, true)⟩,
      ⟨some 31, .load none (.t 30), some (26, true)⟩,
      ⟨some 32, .bin .eql (.t 31) (.c (.int .i64 4)), some (26, true)⟩,
      ⟨some 33, .mov (.t 32), some (26, true)⟩,
      ⟨some 34, .mov (.t 1), some (33, false)⟩,
      ⟨some 35, .mov (.t 7), some (33, false)⟩,
      ⟨some 36, .iaddr 4 (.t 34) (.t 35), some (33, false)⟩,
      ⟨some 37, .faddr 1 (.t 36), some (33, false)⟩,
      ⟨some 38, .load none (.t 37), some (33, false)⟩,
      ⟨some 39, .bin .eql (.t 38) (.c (.int .i64 5)), some (33, false)⟩,
      ⟨some 40, .pick (.t 33) (.c (.bool true)) (.t 39), some (26, true)⟩,
      ⟨some 41, .pick (.t 26) (.t 40) (.c (.bool false)), none⟩])
    (.cond (.t 41)
      (.ins [
        ⟨some 42, .mov (.t 1), none⟩,
        ⟨some 43, .mov (.t 7), none⟩,
        ⟨some 44, .iaddr 4 (.t 42) (.t 43), none⟩,
        ⟨some 45, .faddr 1 (.t 44), none⟩,
        ⟨some 46, .load none (.t 45), none⟩,
        ⟨some 47, .bin .eql (.t 46) (.c (.int .i64 5)), none⟩,
        ⟨some 5, .asg (.t 47), none⟩])
      (.skip))))
  (.ins [
    ⟨some 17, .mov (.t 7), none⟩,
    ⟨some 18, .bin .add (.t 17) (.c (.int .i64 1)), none⟩,
    ⟨some 7, .asg (.t 18), none⟩])))
def ir33_l0 : IR :=
  .loop (.seq (.seq (.ins [
    ⟨some 8, .mov (.t 6), none⟩,
    ⟨some 9, .mov (.t 0), none⟩,
    ⟨some 10, .bin .leq (.t 8) (.t 9), none⟩])
  (.cond (.t 10)
    (.skip)
    (.exit 0)))
  (.seq (.block 1 (.seq (.ins [
      ⟨some 7, .asg (.c (.int .i64 0)), none⟩])
    (.block 2 (ir33_l1))))
  (.ins [
    ⟨some 11, .mov (.t 6), none⟩,
    ⟨some 12, .bin .add (.t 11) (.c (.int .i64 1)), none⟩,
    ⟨some 6, .asg (.t 12), none⟩])))
/-- padlock/padlockref08.Powered -/
def ir33 : IR :=
  .seq (.ins [
    ⟨some 4, .asg (.c (.bool false)), none⟩])
  (.seq (.ins [
    ⟨some 5, .asg (.c (.bool true)), none⟩])
  (.seq (.seq (.ins [
    ⟨some 6, .asg (.c (.int .i64 0)), none⟩])
  (.block 0 (ir33_l0)))
  (.seq (.ins [
    ⟨some 48, .mov (.t 5), none⟩,
    ⟨some 4, .asg (.t 48), none⟩])
  (.ret))))
def rs33 : List RV := [.t 4]
theorem fn33 : FnIR Try.prog 33 49 ir33 rs33 := ⟨Try.f33, (Try.f33.body).getD .skip, Try.func33, by kernel_rfl, by kernel_rfl, by kernel_rfl, by kernel_rfl, by kernel_rfl⟩
def ir34_l1 : IR :=
  .loop (.seq (.ins [
    ⟨some 47, .bin .lss (.t 46) (.t 45), none⟩])
  (.seq (.cond (.t 47)
    (.skip)
    (.exit 2))
  (.seq (.block 3 (.seq (.ins [
      ⟨some 48, .mov (.t 46), none⟩,
      ⟨some 49, .iaddr 2 (.t 44) (.t 46), none⟩,
      ⟨some 50, .load (some 2) (.t 49), none⟩,
      ⟨some 14, .alloc (.int .i64 0), none⟩,
      ⟨some 15, .alloc (.agg #[.int .i64 0, .slice none 0 0]), none⟩,
      ⟨none, .store 1 (.t 14) (.t 48), none⟩,
      ⟨none, .store 2 (.t 15) (.t 50), none⟩])
    (.seq (.ins [
      ⟨some 51, .mov (.t 11), none⟩,
      ⟨some 52, .mov (.t 12), none⟩,
      ⟨some 53, .faddr 0 (.t 15), none⟩,
      ⟨some 54, .load none (.t 53), none⟩,
      ⟨some 55, .bin .sub (.t 52) (.t 54), none⟩,
      ⟨some 56, .bin .add (.t 55) (.c (.int .i64 1)), none⟩,
      ⟨some 57, .maxx (.c (.int .i64 0)) [.t 56], none⟩,
      ⟨some 58, .mov (.t 12), none⟩,
      ⟨some 59, .bin .add (.t 58) (.c (.int .i64 1)), none⟩,
      ⟨some 60, .slc 6 (.t 51) (some (.t 57)) (some (.t 59)), none⟩,
      ⟨some 61, .mkf 57 [.t 14], none⟩,
      ⟨some 62, .call 56 [.t 60, .t 61], none⟩,
      ⟨some 16, .asg (.t 62), none⟩])
    (.seq (.ins [
      ⟨some 63, .mov (.t 13), none⟩,
      ⟨some 64, .load none (.t 14), none⟩,
      ⟨some 65, .bin .shr (.t 63) (.t 64), none⟩,
      ⟨some 66, .bin .and (.t 65) (.c (.int .i64 1)), none⟩,
      ⟨some 67, .bin .eql (.t 66) (.c (.int .i64 1)), none⟩,
      ⟨some 68, .mov (.t 67), none⟩,
      ⟨some 69, .mov (.t 11), some (68, true)⟩,
      ⟨some 70, .mov (.t 12), some (68, true)⟩,
      ⟨some 71, .iaddr 6 (.t 69) (.t 70), some (68, true)⟩,
      ⟨some 72, .faddr 0 (.t 71), some (68, true)⟩,
      ⟨some 73, .load none (.t 72), some (68, true)⟩,
      ⟨some 74, .un .not (.t 73), some (68, true)⟩,
      ⟨some 75, .mov (.t 74), some (68, true)⟩,
      ⟨some 76, .mov (.t 12), some (75, false)⟩,
      ⟨some 77, .load (some 4) (.t 4), some (75, false)⟩,
      ⟨some 78, .call 47 [.t 77], some (75, false)⟩,
      ⟨some 79, .bin .geq (.t 76) (.t 78), some (75, false)⟩,
      ⟨some 80, .pick (.t 75) (.c (.bool true)) (.t 79), some (68, true)⟩,
      ⟨some 81, .mov (.t 80), some (68, true)⟩,
      ⟨some 82, .mov (.t 16), some (81, false)⟩,
      ⟨some 83, .un .not (.t 82), some (81, false)⟩,
      ⟨some 84, .pick (.t 81) (.c (.bool true)) (.t 83), some (68, true)⟩,
      ⟨some 85, .pick (.t 68) (.t 84) (.c (.bool false)), none⟩])
    (.cond (.t 85)
      (.seq (.drawn [
        ⟨some 86, .mov (.t 12), none⟩,
        ⟨some 87, .load none (.t 14), none⟩,
        ⟨some 8, .asg (.t 86), none⟩,
        ⟨some 9, .asg (.t 87), none⟩,
        ⟨some 10, .asg (.c (.int .i64 0)), none⟩]
      (.still 0 (.still 1 (.eff 2 [1] (.eff 3 [] (.eff 4 [] (.done) (.none)) (.none)) (.none)))))
      (.ret))
      (.skip))))))
  (.ins [
    ⟨some 88, .bin .add (.t 46) (.c (.int .i64 1)), none⟩,
    ⟨some 46, .mov (.t 88), none⟩]))))
def ir34_l0 : IR :=
  .loop (.seq (.ins [
    ⟨some 39, .bin .lss (.t 38) (.t 37), none⟩])
  (.seq (.cond (.t 39)
    (.skip)
    (.exit 0))
  (.seq (.block 1 (.seq (.ins [
      ⟨some 40, .mov (.t 38), none⟩,
      ⟨some 41, .iaddr 1 (.t 36) (.t 38), none⟩,
      ⟨some 42, .load none (.t 41), none⟩,
      ⟨some 12, .asg (.t 40), none⟩,
      ⟨some 13, .asg (.t 42), none⟩])
    (.seq (.ins [
      ⟨some 43, .faddr 1 (.t 4), none⟩,
      ⟨some 44, .load none (.t 43), none⟩,
      ⟨some 45, .len (.t 44), none⟩,
      ⟨some 46, .mov (.c (.int .i64 0)), none⟩])
    (.block 2 (ir34_l1)))))
  (.ins [
    ⟨some 89, .bin .add (.t 38) (.c (.int .i64 1)), none⟩,
    ⟨some 38, .mov (.t 89), none⟩]))))
/-- padlock/control.Safe -/
def ir34 : IR :=
  .seq (.ins [
    ⟨some 4, .box (.t 0), none⟩,
    ⟨some 8, .asg (.c (.int .i64 0)), none⟩,
    ⟨some 9, .asg (.c (.int .i64 0)), none⟩,
    ⟨some 10, .asg (.c (.int .i64 0)), none⟩])
  (.seq (.ins [
    ⟨some 18, .load (some 4) (.t 4), none⟩,
    ⟨some 19, .mov (.t 1), none⟩,
    ⟨some 20, .mov (.t 2), none⟩,
    ⟨some 21, .call 45 [.t 18, .t 19, .t 20], none⟩,
    ⟨some 17, .mov (.t 21), none⟩,
    ⟨some 22, .ext 0 (.t 17), none⟩,
    ⟨some 23, .ext 1 (.t 17), none⟩,
    ⟨some 11, .asg (.t 22), none⟩,
    ⟨some 10, .asg (.t 23), none⟩])
  (.seq (.seq (.ins [
    ⟨some 24, .mov (.t 10), none⟩,
    ⟨some 25, .bin .neq (.t 24) (.c (.int .i64 0)), none⟩])
  (.cond (.t 25)
    (.seq (.ins [
      ⟨some 26, .mov (.t 10), none⟩,
      ⟨some 8, .asg (.c (.int .i64 0)), none⟩,
      ⟨some 9, .asg (.c (.int .i64 0)), none⟩,
      ⟨some 10, .asg (.t 26), none⟩])
    (.ret))
    (.skip)))
  (.seq (.seq (.ins [
    ⟨some 27, .mov (.t 3), none⟩,
    ⟨some 28, .len (.t 27), none⟩,
    ⟨some 29, .mov (.t 1), none⟩,
    ⟨some 30, .bin .neq (.t 28) (.t 29), none⟩,
    ⟨some 31, .mov (.t 30), none⟩,
    ⟨some 32, .mov (.t 3), some (31, false)⟩,
    ⟨some 33, .mkf 55 [.t 4], some (31, false)⟩,
    ⟨some 34, .call 54 [.t 32, .t 33], some (31, false)⟩,
    ⟨some 35, .pick (.t 31) (.c (.bool true)) (.t 34), none⟩])
  (.cond (.t 35)
    (.seq (.ins [
      ⟨some 8, .asg (.c (.int .i64 0)), none⟩,
      ⟨some 9, .asg (.c (.int .i64 0)), none⟩,
      ⟨some 10, .asg (.c (.int .i64 1)), none⟩])
    (.ret))
    (.skip)))
  (.seq (.seq (.ins [
    ⟨some 36, .mov (.t 3), none⟩,
    ⟨some 37, .len (.t 36), none⟩,
    ⟨some 38, .mov (.c (.int .i64 0)), none⟩])
  (.block 0 (ir34_l0)))
  (.seq (.ins [
    ⟨some 8, .asg (.c (.int .i64 (-1))), none⟩,
    ⟨some 9, .asg (.c (.int .i64 (-1))), none⟩,
    ⟨some 10, .asg (.c (.int .i64 0)), none⟩])
  (.ret))))))
def rs34 : List RV := [.t 8, .t 9, .t 10]
theorem fn34 : FnIR Try.prog 34 90 ir34 rs34 := ⟨Try.f34, (Try.f34.body).getD .skip, Try.func34, by kernel_rfl, by kernel_rfl, by kernel_rfl, by kernel_rfl, by kernel_rfl⟩
def ir35_l3 : IR :=
  .loop (.seq (.seq (.ins [
    ⟨some 79, .mov (.t 19), none⟩,
    ⟨some 80, .mov (.t 16), none⟩,
    ⟨some 81, .bin .leq (.t 79) (.t 80), none⟩])
  (.cond (.t 81)
    (.skip)
    (.exit 6)))
  (.seq (.block 7 (.ins [
      ⟨some 84, .mov (.t 18), none⟩,
      ⟨some 85, .mov (.t 84), none⟩,
      ⟨some 86, .mov (.t 13), some (85, false)⟩,
      ⟨some 87, .mov (.t 19), some (85, false)⟩,
      ⟨some 88, .iaddr 5 (.t 86) (.t 87), some (85, false)⟩,
      ⟨some 89, .faddr 3 (.t 88), some (85, false)⟩,
      ⟨some 90, .load none (.t 89), some (85, false)⟩,
      ⟨some 91, .mov (.t 17), some (85, false)⟩,
      ⟨some 92, .iaddr 1 (.t 90) (.t 91), some (85, false)⟩,
      ⟨some 93, .load none (.t 92), some (85, false)⟩,
      ⟨some 94, .bin .eql (.t 93) (.c (.int .i64 1)), some (85, false)⟩,
      ⟨some 95, .pick (.t 85) (.c (.bool true)) (.t 94), none⟩,
      ⟨some 18, .asg (.t 95), none⟩]))
  (.ins [
    ⟨some 82, .mov (.t 19), none⟩,
    ⟨some 83, .bin .add (.t 82) (.c (.int .i64 1)), none⟩,
    ⟨some 19, .asg (.t 83), none⟩])))
def ir35_l2 : IR :=
  .loop (.seq (.seq (.ins [
    ⟨some 62, .mov (.t 17), none⟩,
    ⟨some 63, .faddr 1 (.t 4), none⟩,
    ⟨some 64, .load none (.t 63), none⟩,
    ⟨some 65, .len (.t 64), none⟩,
    ⟨some 66, .bin .lss (.t 62) (.t 65), none⟩])
  (.cond (.t 66)
    (.skip)
    (.exit 4)))
  (.seq (.block 5 (.seq (.ins [
      ⟨some 18, .asg (.c (.bool false)), none⟩])
    (.seq (.seq (.ins [
      ⟨some 69, .mov (.t 16), none⟩,
      ⟨some 70, .faddr 1 (.t 4), none⟩,
      ⟨some 71, .load none (.t 70), none⟩,
      ⟨some 72, .mov (.t 17), none⟩,
      ⟨some 73, .iaddr 2 (.t 71) (.t 72), none⟩,
      ⟨some 74, .faddr 0 (.t 73), none⟩,
      ⟨some 75, .load none (.t 74), none⟩,
      ⟨some 76, .bin .sub (.t 69) (.t 75), none⟩,
      ⟨some 77, .bin .add (.t 76) (.c (.int .i64 1)), none⟩,
      ⟨some 78, .maxx (.c (.int .i64 0)) [.t 77], none⟩,
      ⟨some 19, .asg (.t 78), none⟩])
    (.block 6 (ir35_l3)))
    (.seq (.ins [
      ⟨some 96, .mov (.t 3), none⟩,
      ⟨some 97, .mov (.t 16), none⟩,
      ⟨some 98, .iaddr 1 (.t 96) (.t 97), none⟩,
      ⟨some 99, .load none (.t 98), none⟩,
      ⟨some 100, .mov (.t 17), none⟩,
      ⟨some 101, .conv .u64 (.t 100), none⟩,
      ⟨some 102, .bin .shr (.t 99) (.t 101), none⟩,
      ⟨some 103, .bin .and (.t 102) (.c (.int .i64 1)), none⟩,
      ⟨some 104, .bin .eql (.t 103) (.c (.int .i64 1)), none⟩,
      ⟨some 105, .mov (.t 104), none⟩,
      ⟨some 106, .mov (.t 13), some (105, true)⟩,
      ⟨some 107, .mov (.t 16), some (105, true)⟩,
      ⟨some 108, .iaddr 5 (.t 106) (.t 107), some (105, true)⟩,
      ⟨some 109, .faddr 0 (.t 108), some (105, true)⟩,
      ⟨some 110, .load none (.t 109), some (105, true)⟩,
      ⟨some 111, .un .not (.t 110), some (105, true)⟩,
      ⟨some 112, .mov (.t 111), some (105, true)⟩,
      ⟨some 113, .mov (.t 16), some (112, false)⟩,
      ⟨some 114, .mov (.t 14), some (112, false)⟩,
      ⟨some 115, .bin .geq (.t 113) (.t 114), some (112, false)⟩,
      ⟨some 116, .pick (.t 112) (.c (.bool true)) (.t 115), some (105, true)⟩,
      ⟨some 117, .mov (.t 116), some (105, true)⟩,
      ⟨some 118, .mov (.t 18), some (117, false)⟩,
      ⟨some 119, .un .not (.t 118), some (117, false)⟩,
      ⟨some 120, .pick (.t 117) (.c (.bool true)) (.t 119), some (105, true)⟩,
      ⟨some 121, .pick (.t 105) (.t 120) (.c (.bool false)), none⟩])
    (.cond (.t 121)
      (.seq (.ins [
        ⟨some 122, .mov (.t 16), none⟩,
        ⟨some 123, .mov (.t 17), none⟩,
        ⟨some 8, .asg (.t 122), none⟩,
        ⟨some 9, .asg (.t 123), none⟩,
        ⟨some 10, .asg (.c (.int .i64 0)), none⟩])
      (.ret))
      (.skip))))))
  (.ins [
    ⟨some 67, .mov (.t 17), none⟩,
    ⟨some 68, .bin .add (.t 67) (.c (.int .i64 1)), none⟩,
    ⟨some 17, .asg (.t 68), none⟩])))
def ir35_l1 : IR :=
  .loop (.seq (.seq (.ins [
    ⟨some 57, .mov (.t 16), none⟩,
    ⟨some 58, .mov (.t 1), none⟩,
    ⟨some 59, .bin .lss (.t 57) (.t 58), none⟩])
  (.cond (.t 59)
    (.skip)
    (.exit 2)))
  (.seq (.block 3 (.seq (.ins [
      ⟨some 17, .asg (.c (.int .i64 0)), none⟩])
    (.block 4 (ir35_l2))))
  (.ins [
    ⟨some 60, .mov (.t 16), none⟩,
    ⟨some 61, .bin .add (.t 60) (.c (.int .i64 1)), none⟩,
    ⟨some 16, .asg (.t 61), none⟩])))
def ir35_l0 : IR :=
  .loop (.seq (.seq (.ins [
    ⟨some 31, .mov (.t 12), none⟩,
    ⟨some 32, .mov (.t 1), none⟩,
    ⟨some 33, .bin .lss (.t 31) (.t 32), none⟩])
  (.cond (.t 33)
    (.skip)
    (.exit 0)))
  (.seq (.block 1 (.seq (.drawn [
      ⟨some 36, .mov (.t 3), none⟩,
      ⟨some 37, .mov (.t 12), none⟩,
      ⟨some 38, .iaddr 1 (.t 36) (.t 37), none⟩,
      ⟨some 39, .load none (.t 38), none⟩,
      ⟨some 40, .faddr 1 (.t 4), none⟩,
      ⟨some 41, .load none (.t 40), none⟩,
      ⟨some 42, .len (.t 41), none⟩,
      ⟨some 43, .conv .u64 (.t 42), none⟩,
      ⟨some 44, .bin .shl (.c (.int .i64 1)) (.t 43), none⟩,
      ⟨some 45, .bin .sub (.t 44) (.c (.int .i64 1)), none⟩,
      ⟨some 46, .call 43 [.t 39, .c (.int .i64 0), .t 45], none⟩,
      ⟨some 47, .un .not (.t 46), none⟩]
    (.still 0 (.still 1 (.still 2 (.still 3 (.still 4 (.still 5 (.still 6 (.still 7 (.still 8 (.still 9 (.eff 10 [] (.still 11 (.done)) (.none)))))))))))))
    (.cond (.t 47)
      (.seq (.ins [
        ⟨some 8, .asg (.c (.int .i64 0)), none⟩,
        ⟨some 9, .asg (.c (.int .i64 0)), none⟩,
        ⟨some 10, .asg (.c (.int .i64 1)), none⟩])
      (.ret))
      (.skip))))
  (.ins [
    ⟨some 34, .mov (.t 12), none⟩,
    ⟨some 35, .bin .add (.t 34) (.c (.int .i64 1)), none⟩,
    ⟨some 12, .asg (.t 35), none⟩])))
/-- padlock/padlockref08.Safe -/
def ir35 : IR :=
  .seq (.ins [
    ⟨some 4, .box (.t 0), none⟩,
    ⟨some 8, .asg (.c (.int .i64 0)), none⟩,
    ⟨some 9, .asg (.c (.int .i64 0)), none⟩,
    ⟨some 10, .asg (.c (.int .i64 0)), none⟩])
  (.seq (.seq (.ins [
    ⟨some 20, .load (some 4) (.t 4), none⟩,
    ⟨some 21, .mov (.t 1), none⟩,
    ⟨some 22, .mov (.t 2), none⟩,
    ⟨some 23, .call 51 [.t 20, .t 21, .t 22], none⟩,
    ⟨some 11, .asg (.t 23), none⟩])
  (.seq (.ins [
    ⟨some 24, .mov (.t 11), none⟩,
    ⟨some 25, .bin .neq (.t 24) (.c (.int .i64 0)), none⟩])
  (.cond (.t 25)
    (.seq (.ins [
      ⟨some 26, .mov (.t 11), none⟩,
      ⟨some 8, .asg (.c (.int .i64 0)), none⟩,
      ⟨some 9, .asg (.c (.int .i64 0)), none⟩,
      ⟨some 10, .asg (.t 26), none⟩])
    (.ret))
    (.skip))))
  (.seq (.seq (.ins [
    ⟨some 27, .mov (.t 3), none⟩,
    ⟨some 28, .len (.t 27), none⟩,
    ⟨some 29, .mov (.t 1), none⟩,
    ⟨some 30, .bin .neq (.t 28) (.t 29), none⟩])
  (.cond (.t 30)
    (.seq (.ins [
      ⟨some 8, .asg (.c (.int .i64 0)), none⟩,
      ⟨some 9, .asg (.c (.int .i64 0)), none⟩,
      ⟨some 10, .asg (.c (.int .i64 1)), none⟩])
    (.ret))
    (.skip)))
  (.seq (.seq (.ins [
    ⟨some 12, .asg (.c (.int .i64 0)), none⟩])
  (.block 0 (ir35_l0)))
  (.seq (.ins [
    ⟨some 48, .load (some 4) (.t 4), none⟩,
    ⟨some 49, .mov (.t 1), none⟩,
    ⟨some 50, .mov (.t 2), none⟩,
    ⟨some 51, .call 52 [.t 48, .t 49, .t 50], none⟩,
    ⟨some 13, .asg (.t 51), none⟩])
  (.seq (.ins [
    ⟨some 53, .load (some 4) (.t 4), none⟩,
    ⟨some 54, .call 38 [.t 53], none⟩,
    ⟨some 52, .mov (.t 54), none⟩,
    ⟨some 55, .ext 0 (.t 52), none⟩,
    ⟨some 56, .ext 1 (.t 52), none⟩,
    ⟨some 14, .asg (.t 55), none⟩,
    ⟨some 15, .asg (.t 56), none⟩])
  (.seq (.seq (.ins [
    ⟨some 16, .asg (.c (.int .i64 0)), none⟩])
  (.block 2 (ir35_l1)))
  (.seq (.ins [
    ⟨some 8, .asg (.c (.int .i64 (-1))), none⟩,
    ⟨some 9, .asg (.c (.int .i64 (-1))), none⟩,
    ⟨some 10, .asg (.c (.int .i64 0)), none⟩])
  (.ret))))))))
def rs35 : List RV := [.t 8, .t 9, .t 10]
theorem fn35 : FnIR Try.prog 35 124 ir35 rs35 := ⟨Try.f35, (Try.f35.body).getD .skip, Try.func35, by kernel_rfl, by kernel_rfl, by kernel_rfl, by kernel_rfl, by kernel_rfl⟩
def ir36_l0 : IR :=
  .loop (.seq (.ins [
    ⟨some 37, .bin .lss (.t 36) (.t 35), none⟩])
  (.seq (.cond (.t 37)
    (.skip)
    (.exit 0))
  (.seq (.block 1 (.seq (.ins [
      ⟨some 38, .mov (.t 36), none⟩,
      ⟨some 39, .iaddr 1 (.t 34) (.t 36), none⟩,
      ⟨some 40, .load none (.t 39), none⟩,
      ⟨some 13, .asg (.t 38), none⟩,
      ⟨some 14, .asg (.t 40), none⟩])
    (.seq (.ins [
      ⟨some 41, .mov (.t 12), none⟩,
      ⟨some 42, .bin .add (.t 41) (.c (.int .i64 1)), none⟩,
      ⟨some 12, .asg (.t 42), none⟩])
    (.seq (.seq (.ins [
      ⟨some 43, .mov (.t 14), none⟩,
      ⟨some 44, .mov (.t 3), none⟩,
      ⟨some 45, .bin .shr (.t 43) (.t 44), none⟩,
      ⟨some 46, .bin .and (.t 45) (.c (.int .i64 1)), none⟩,
      ⟨some 47, .bin .eql (.t 46) (.c (.int .i64 0)), none⟩])
    (.cond (.t 47)
      (.seq (.ins [
        ⟨some 12, .asg (.c (.int .i64 0)), none⟩])
      (.exit 1))
      (.skip)))
    (.seq (.seq (.ins [
      ⟨some 48, .mov (.t 8), none⟩,
      ⟨some 49, .bin .lss (.t 48) (.c (.int .i64 0)), none⟩])
    (.cond (.t 49)
      (.ins [
        ⟨some 50, .mov (.t 13), none⟩,
        ⟨some 8, .asg (.t 50), none⟩])
      (.skip)))
    (.ins [
      ⟨some 51, .mov (.t 9), none⟩,
      ⟨some 52, .mov (.t 12), none⟩,
      ⟨some 53, .maxx (.t 51) [.t 52], none⟩,
      ⟨some 9, .asg (.t 53), none⟩]))))))
  (.ins [
    ⟨some 54, .bin .add (.t 36) (.c (.int .i64 1)), none⟩,
    ⟨some 36, .mov (.t 54), none⟩]))))
/-- padlock/control.Shuts -/
def ir36 : IR :=
  .seq (.ins [
    ⟨some 4, .box (.t 0), none⟩,
    ⟨some 8, .asg (.c (.int .i64 0)), none⟩,
    ⟨some 9, .asg (.c (.int .i64 0)), none⟩,
    ⟨some 10, .asg (.c (.int .i64 0)), none⟩])
  (.seq (.ins [
    ⟨some 16, .load (some 4) (.t 4), none⟩,
    ⟨some 17, .mov (.t 1), none⟩,
    ⟨some 18, .mov (.t 2), none⟩,
    ⟨some 19, .call 45 [.t 16, .t 17, .t 18], none⟩,
    ⟨some 15, .mov (.t 19), none⟩,
    ⟨some 20, .ext 0 (.t 15), none⟩,
    ⟨some 21, .ext 1 (.t 15), none⟩,
    ⟨some 11, .asg (.t 20), none⟩,
    ⟨some 10, .asg (.t 21), none⟩])
  (.seq (.seq (.ins [
    ⟨some 22, .mov (.t 10), none⟩,
    ⟨some 23, .bin .neq (.t 22) (.c (.int .i64 0)), none⟩])
  (.cond (.t 23)
    (.seq (.ins [
      ⟨some 24, .mov (.t 10), none⟩,
      ⟨some 8, .asg (.c (.int .i64 0)), none⟩,
      ⟨some 9, .asg (.c (.int .i64 0)), none⟩,
      ⟨some 10, .asg (.t 24), none⟩])
    (.ret))
    (.skip)))
  (.seq (.seq (.ins [
    ⟨some 25, .mov (.t 3), none⟩,
    ⟨some 26, .faddr 1 (.t 4), none⟩,
    ⟨some 27, .load none (.t 26), none⟩,
    ⟨some 28, .len (.t 27), none⟩,
    ⟨some 29, .bin .sub (.t 28) (.c (.int .i64 1)), none⟩,
    ⟨some 30, .call 48 [.t 25, .c (.int .i64 0), .t 29], none⟩,
    ⟨some 31, .un .not (.t 30), none⟩])
  (.cond (.t 31)
    (.seq (.ins [
      ⟨some 8, .asg (.c (.int .i64 0)), none⟩,
      ⟨some 9, .asg (.c (.int .i64 0)), none⟩,
      ⟨some 10, .asg (.c (.int .i64 1)), none⟩])
    (.ret))
    (.skip)))
  (.seq (.ins [
    ⟨some 8, .asg (.c (.int .i64 (-1))), none⟩])
  (.seq (.ins [
    ⟨some 12, .asg (.c (.int .i64 0)), none⟩])
  (.seq (.seq (.ins [
    ⟨some 32, .load (some 4) (.t 4), none⟩,
    ⟨some 33, .mov (.t 11), none⟩,
    ⟨some 34, .call 46 [.t 32, .t 33], none⟩,
    ⟨some 35, .len (.t 34), none⟩,
    ⟨some 36, .mov (.c (.int .i64 0)), none⟩])
  (.block 0 (ir36_l0)))
  (.seq (.ins [
    ⟨some 55, .mov (.t 8), none⟩,
    ⟨some 56, .mov (.t 9), none⟩,
    ⟨some 8, .asg (.t 55), none⟩,
    ⟨some 9, .asg (.t 56), none⟩,
    ⟨some 10, .asg (.c (.int .i64 0)), none⟩])
  (.ret))))))))
def rs36 : List RV := [.t 8, .t 9, .t 10]
theorem fn36 : FnIR Try.prog 36 57 ir36 rs36 := ⟨Try.f36, (Try.f36.body).getD .skip, Try.func36, by kernel_rfl, by kernel_rfl, by kernel_rfl, by kernel_rfl, by kernel_rfl⟩
def ir37_l0 : IR :=
  .loop (.seq (.seq (.ins [
    ⟨some 29, .mov (.t 16), none⟩,
    ⟨some 30, .mov (.t 1), none⟩,
    ⟨some 31, .bin .lss (.t 29) (.t 30), none⟩])
  (.cond (.t 31)
    (.skip)
    (.exit 0)))
  (.seq (.block 1 (.seq (.seq (.ins [
      ⟨some 34, .mov (.t 12), none⟩,
      ⟨some 35, .mov (.t 16), none⟩,
      ⟨some 36, .iaddr 5 (.t 34) (.t 35), none⟩,
      ⟨some 37, .faddr 4 (.t 36), none⟩,
      ⟨some 38, .load none (.t 37), none⟩,
      ⟨some 39, .mov (.t 3), none⟩,
      ⟨some 40, .iaddr 1 (.t 38) (.t 39), none⟩,
      ⟨some 41, .load none (.t 40), none⟩,
      ⟨some 42, .un .not (.t 41), none⟩])
    (.cond (.t 42)
      (.seq (.ins [
        ⟨some 15, .asg (.c (.int .i64 0)), none⟩])
      (.exit 1))
      (.skip)))
    (.seq (.seq (.ins [
      ⟨some 43, .mov (.t 13), none⟩,
      ⟨some 44, .bin .lss (.t 43) (.c (.int .i64 0)), none⟩])
    (.cond (.t 44)
      (.ins [
        ⟨some 45, .mov (.t 16), none⟩,
        ⟨some 13, .asg (.t 45), none⟩])
      (.skip)))
    (.seq (.ins [
      ⟨some 46, .mov (.t 15), none⟩,
      ⟨some 47, .bin .add (.t 46) (.c (.int .i64 1)), none⟩,
      ⟨some 15, .asg (.t 47), none⟩])
    (.ins [
      ⟨some 48, .mov (.t 14), none⟩,
      ⟨some 49, .mov (.t 15), none⟩,
      ⟨some 50, .maxx (.t 48) [.t 49], none⟩,
      ⟨some 14, .asg (.t 50), none⟩])))))
  (.ins [
    ⟨some 32, .mov (.t 16), none⟩,
    ⟨some 33, .bin .add (.t 32) (.c (.int .i64 1)), none⟩,
    ⟨some 16, .asg (.t 33), none⟩])))
/-- padlock/padlockref08.Shuts -/
def ir37 : IR :=
  .seq (.ins [
    ⟨some 4, .box (.t 0), none⟩,
    ⟨some 8, .asg (.c (.int .i64 0)), none⟩,
    ⟨some 9, .asg (.c (.int .i64 0)), none⟩,
    ⟨some 10, .asg (.c (.int .i64 0)), none⟩])
  (.seq (.seq (.ins [
    ⟨some 17, .load (some 4) (.t 4), none⟩,
    ⟨some 18, .mov (.t 1), none⟩,
    ⟨some 19, .mov (.t 2), none⟩,
    ⟨some 20, .mov (.t 3), none⟩,
    ⟨some 21, .call 58 [.t 17, .t 18, .t 19, .t 20], none⟩,
    ⟨some 11, .asg (.t 21), none⟩])
  (.seq (.ins [
    ⟨some 22, .mov (.t 11), none⟩,
    ⟨some 23, .bin .neq (.t 22) (.c (.int .i64 0)), none⟩])
  (.cond (.t 23)
    (.seq (.ins [
      ⟨some 24, .mov (.t 11), none⟩,
      ⟨some 8, .asg (.c (.int .i64 0)), none⟩,
      ⟨some 9, .asg (.c (.int .i64 0)), none⟩,
      ⟨some 10, .asg (.t 24), none⟩])
    (.ret))
    (.skip))))
  (.seq (.ins [
    ⟨some 25, .load (some 4) (.t 4), none⟩,
    ⟨some 26, .mov (.t 1), none⟩,
    ⟨some 27, .mov (.t 2), none⟩,
    ⟨some 28, .call 52 [.t 25, .t 26, .t 27], none⟩,
    ⟨some 12, .asg (.t 28), none⟩])
  (.seq (.ins [
    ⟨some 13, .asg (.c (.int .i64 (-1))), none⟩,
    ⟨some 14, .asg (.c (.int .i64 0)), none⟩,
    ⟨some 15, .asg (.c (.int .i64 0)), none⟩])
  (.seq (.seq (.ins [
    ⟨some 16, .asg (.c (.int .i64 0)), none⟩])
  (.block 0 (ir37_l0)))
  (.seq (.ins [
    ⟨some 51, .mov (.t 13), none⟩,
    ⟨some 52, .mov (.t 14), none⟩,
    ⟨some 8, .asg (.t 51), none⟩,
    ⟨some 9, .asg (.t 52), none⟩,
    ⟨some 10, .asg (.c (.int .i64 0)), none⟩])
  (.ret))))))
def rs37 : List RV := [.t 8, .t 9, .t 10]
theorem fn37 : FnIR Try.prog 37 53 ir37 rs37 := ⟨Try.f37, (Try.f37.body).getD .skip, Try.func37, by kernel_rfl, by kernel_rfl, by kernel_rfl, by kernel_rfl, by kernel_rfl⟩
def ir38_l0 : IR :=
  .loop (.seq (.seq (.ins [
    ⟨some 12, .mov (.t 6), none⟩,
    ⟨some 13, .faddr 1 (.t 1), none⟩,
    ⟨some 14, .load none (.t 13), none⟩,
    ⟨some 15, .len (.t 14), none⟩,
    ⟨some 16, .bin .lss (.t 12) (.t 15), none⟩])
  (.cond (.t 16)
    (.skip)
    (.exit 0)))
  (.seq (.block 1 (.seq (.ins [
      ⟨some 19, .faddr 1 (.t 1), none⟩,
      ⟨some 20, .load none (.t 19), none⟩,
      ⟨some 21, .mov (.t 6), none⟩,
      ⟨some 22, .iaddr 2 (.t 20) (.t 21), none⟩,
      ⟨some 23, .faddr 1 (.t 22), none⟩,
      ⟨some 24, .load none (.t 23), none⟩,
      ⟨some 25, .len (.t 24), none⟩,
      ⟨some 26, .bin .gtr (.t 25) (.c (.int .i64 0)), none⟩])
    (.cond (.t 26)
      (.drawn [
        ⟨some 27, .mov (.t 5), none⟩,
        ⟨some 28, .faddr 3 (.t 1), none⟩,
        ⟨some 29, .load none (.t 28), none⟩,
        ⟨some 30, .faddr 1 (.t 1), none⟩,
        ⟨some 31, .load none (.t 30), none⟩,
        ⟨some 32, .mov (.t 6), none⟩,
        ⟨some 33, .iaddr 2 (.t 31) (.t 32), none⟩,
        ⟨some 34, .faddr 0 (.t 33), none⟩,
        ⟨some 35, .load none (.t 34), none⟩,
        ⟨some 36, .bin .add (.t 29) (.t 35), none⟩,
        ⟨some 37, .bin .sub (.t 36) (.c (.int .i64 1)), none⟩,
        ⟨some 38, .maxx (.t 27) [.t 37], none⟩,
        ⟨some 5, .asg (.t 38), none⟩]
      (.still 0 (.still 1 (.still 2 (.still 3 (.still 4 (.still 5 (.still 6 (.still 7 (.still 8 (.still 9 (.still 10 (.still 11 (.eff 12 [] (.done) (.none)))))))))))))))
      (.skip))))
  (.ins [
    ⟨some 17, .mov (.t 6), none⟩,
    ⟨some 18, .bin .add (.t 17) (.c (.int .i64 1)), none⟩,
    ⟨some 6, .asg (.t 18), none⟩])))
/-- padlock/padlockref08.Frees -/
def ir38 : IR :=
  .seq (.ins [
    ⟨some 1, .box (.t 0), none⟩,
    ⟨some 2, .asg (.c (.int .i64 0)), none⟩,
    ⟨some 3, .asg (.c (.int .i64 0)), none⟩])
  (.seq (.seq (.ins [
    ⟨some 7, .load (some 4) (.t 1), none⟩,
    ⟨some 8, .call 15 [.t 7], none⟩,
    ⟨some 4, .asg (.t 8), none⟩])
  (.seq (.ins [
    ⟨some 9, .mov (.t 4), none⟩,
    ⟨some 10, .bin .neq (.t 9) (.c (.int .i64 0)), none⟩])
  (.cond (.t 10)
    (.seq (.ins [
      ⟨some 11, .mov (.t 4), none⟩,
      ⟨some 2, .asg (.c (.int .i64 0)), none⟩,
      ⟨some 3, .asg (.t 11), none⟩])
    (.ret))
    (.skip))))
  (.seq (.ins [
    ⟨some 5, .asg (.c (.int .i64 0)), none⟩])
  (.seq (.seq (.ins [
    ⟨some 6, .asg (.c (.int .i64 0)), none⟩])
  (.block 0 (ir38_l0)))
  (.seq (.ins [
    ⟨some 39, .mov (.t 5), none⟩,
    ⟨some 2, .asg (.t 39), none⟩,
    ⟨some 3, .asg (.c (.int .i64 0)), none⟩])
  (.ret)))))
def rs38 : List RV := [.t 2, .t 3]
theorem fn38 : FnIR Try.prog 38 40 ir38 rs38 := ⟨Try.f38, (Try.f38.body).getD .skip, Try.func38, by kernel_rfl, by kernel_rfl, by kernel_rfl, by kernel_rfl, by kernel_rfl⟩
/-- padlock/control.Tolerates -/
def ir39 : IR :=
  .seq (.ins [
    ⟨some 2, .box (.t 0), none⟩,
    ⟨some 4, .asg (.c (.int .i64 0)), none⟩,
    ⟨some 5, .asg (.c (.int .i64 0)), none⟩])
  (.seq (.seq (.ins [
    ⟨some 7, .load (some 4) (.t 2), none⟩,
    ⟨some 8, .call 27 [.t 7], none⟩,
    ⟨some 6, .asg (.t 8), none⟩])
  (.seq (.ins [
    ⟨some 9, .mov (.t 6), none⟩,
    ⟨some 10, .bin .neq (.t 9) (.c (.int .i64 0)), none⟩])
  (.cond (.t 10)
    (.seq (.ins [
      ⟨some 11, .mov (.t 6), none⟩,
      ⟨some 4, .asg (.c (.int .i64 0)), none⟩,
      ⟨some 5, .asg (.t 11), none⟩])
    (.ret))
    (.skip))))
  (.seq (.seq (.ins [
    ⟨some 12, .mov (.t 1), none⟩,
    ⟨some 13, .faddr 1 (.t 2), none⟩,
    ⟨some 14, .load none (.t 13), none⟩,
    ⟨some 15, .len (.t 14), none⟩,
    ⟨some 16, .bin .sub (.t 15) (.c (.int .i64 1)), none⟩,
    ⟨some 17, .call 48 [.t 12, .c (.int .i64 0), .t 16], none⟩,
    ⟨some 18, .un .not (.t 17), none⟩])
  (.cond (.t 18)
    (.seq (.ins [
      ⟨some 4, .asg (.c (.int .i64 0)), none⟩,
      ⟨some 5, .asg (.c (.int .i64 1)), none⟩])
    (.ret))
    (.skip)))
  (.seq (.ins [
    ⟨some 19, .faddr 1 (.t 2), none⟩,
    ⟨some 20, .load none (.t 19), none⟩,
    ⟨some 21, .mov (.t 1), none⟩,
    ⟨some 22, .iaddr 2 (.t 20) (.t 21), none⟩,
    ⟨some 23, .faddr 0 (.t 22), none⟩,
    ⟨some 24, .load none (.t 23), none⟩,
    ⟨some 25, .bin .sub (.t 24) (.c (.int .i64 1)), none⟩,
    ⟨some 4, .asg (.t 25), none⟩,
    ⟨some 5, .asg (.c (.int .i64 0)), none⟩])
  (.ret))))
def rs39 : List RV := [.t 4, .t 5]
theorem fn39 : FnIR Try.prog 39 26 ir39 rs39 := ⟨Try.f39, (Try.f39.body).getD .skip, Try.func39, by kernel_rfl, by kernel_rfl, by kernel_rfl, by kernel_rfl, by kernel_rfl⟩
/-- padlock/padlockref08.Tolerates -/
def ir40 : IR :=
  .seq (.ins [
    ⟨some 2, .box (.t 0), none⟩,
    ⟨some 4, .asg (.c (.int .i64 0)), none⟩,
    ⟨some 5, .asg (.c (.int .i64 0)), none⟩])
  (.seq (.seq (.ins [
    ⟨some 7, .load (some 4) (.t 2), none⟩,
    ⟨some 8, .call 15 [.t 7], none⟩,
    ⟨some 6, .asg (.t 8), none⟩])
  (.seq (.ins [
    ⟨some 9, .mov (.t 6), none⟩,
    ⟨some 10, .bin .neq (.t 9) (.c (.int .i64 0)), none⟩])
  (.cond (.t 10)
    (.seq (.ins [
      ⟨some 11, .mov (.t 6), none⟩,
      ⟨some 4, .asg (.c (.int .i64 0)), none⟩,
      ⟨some 5, .asg (.t 11), none⟩])
    (.ret))
    (.skip))))
  (.seq (.seq (.ins [
    ⟨some 12, .mov (.t 1), none⟩,
    ⟨some 13, .faddr 1 (.t 2), none⟩,
    ⟨some 14, .load none (.t 13), none⟩,
    ⟨some 15, .len (.t 14), none⟩,
    ⟨some 16, .bin .sub (.t 15) (.c (.int .i64 1)), none⟩,
    ⟨some 17, .call 43 [.t 12, .c (.int .i64 0), .t 16], none⟩,
    ⟨some 18, .un .not (.t 17), none⟩])
  (.cond (.t 18)
    (.seq (.ins [
      ⟨some 4, .asg (.c (.int .i64 0)), none⟩,
      ⟨some 5, .asg (.c (.int .i64 1)), none⟩])
    (.ret))
    (.skip)))
  (.seq (.ins [
    ⟨some 19, .faddr 1 (.t 2), none⟩,
    ⟨some 20, .load none (.t 19), none⟩,
    ⟨some 21, .mov (.t 1), none⟩,
    ⟨some 22, .iaddr 2 (.t 20) (.t 21), none⟩,
    ⟨some 23, .faddr 0 (.t 22), none⟩,
    ⟨some 24, .load none (.t 23), none⟩,
    ⟨some 25, .bin .sub (.t 24) (.c (.int .i64 1)), none⟩,
    ⟨some 4, .asg (.t 25), none⟩,
    ⟨some 5, .asg (.c (.int .i64 0)), none⟩])
  (.ret))))
def rs40 : List RV := [.t 4, .t 5]
theorem fn40 : FnIR Try.prog 40 26 ir40 rs40 := ⟨Try.f40, (Try.f40.body).getD .skip, Try.func40, by kernel_rfl, by kernel_rfl, by kernel_rfl, by kernel_rfl, by kernel_rfl⟩
def ir51_l0 : IR :=
  .loop (.seq (.seq (.ins [
    ⟨some 20, .mov (.t 8), none⟩,
    ⟨some 21, .mov (.t 2), none⟩,
    ⟨some 22, .len (.t 21), none⟩,
    ⟨some 23, .bin .lss (.t 20) (.t 22), none⟩])
  (.cond (.t 23)
    (.skip)
    (.exit 0)))
  (.seq (.block 1 (.seq (.ins [
      ⟨some 26, .mov (.t 2), none⟩,
      ⟨some 27, .mov (.t 8), none⟩,
      ⟨some 28, .iaddr 4 (.t 26) (.t 27), none⟩,
      ⟨some 29, .load (some 4) (.t 28), none⟩,
      ⟨some 9, .alloc (.agg #[.int .i64 0, .int .i64 0, .int .i64 0, .int .i64 0]), none⟩,
      ⟨none, .store 4 (.t 9) (.t 29), none⟩])
    (.seq (.ins [
      ⟨some 10, .asg (.c (.bool false)), none⟩])
    (.seq (.seq (.ins [
      ⟨some 30, .faddr 1 (.t 9), none⟩,
      ⟨some 31, .load none (.t 30), none⟩])
    (.block 2 (.seq (.ins [
        ⟨some 33, .bin .eql (.t 31) (.c (.int .i64 1)), none⟩,
        ⟨some 32, .asg (.t 33), none⟩])
      (.cond (.t 32)
        (.ins [
          ⟨some 34, .faddr 2 (.t 9), none⟩,
          ⟨some 35, .load none (.t 34), none⟩,
          ⟨some 36, .faddr 0 (.t 3), none⟩,
          ⟨some 37, .load none (.t 36), none⟩,
          ⟨some 38, .bin .sub (.t 37) (.c (.int .i64 1)), none⟩,
          ⟨some 39, .call 43 [.t 35, .c (.int .i64 0), .t 38], none⟩,
          ⟨some 40, .mov (.t 39), none⟩,
          ⟨some 41, .faddr 3 (.t 9), some (40, true)⟩,
          ⟨some 42, .load none (.t 41), some (40, true)⟩,
          ⟨some 43, .call 43 [.t 42, .c (.int .i64 0), .c (.int .i64 9)], some (40, true)⟩,
          ⟨some 44, .pick (.t 40) (.t 43) (.c (.bool false)), none⟩,
          ⟨some 10, .asg (.t 44), none⟩])
        (.seq (.ins [
          ⟨some 46, .bin .eql (.t 31) (.c (.int .i64 2)), none⟩,
          ⟨some 45, .asg (.t 46), none⟩])
        (.cond (.t 45)
          (.ins [
            ⟨some 47, .faddr 2 (.t 9), none⟩,
            ⟨some 48, .load none (.t 47), none⟩,
            ⟨some 49, .faddr 0 (.t 3), none⟩,
            ⟨some 50, .load none (.t 49), none⟩,
            ⟨some 51, .bin .sub (.t 50) (.c (.int .i64 1)), none⟩,
            ⟨some 52, .call 43 [.t 48, .c (.int .i64 0), .t 51], none⟩,
            ⟨some 53, .mov (.t 52), none⟩,
            ⟨some 54, .faddr 3 (.t 9), some (53, true)⟩,
            ⟨some 55, .load none (.t 54), some (53, true)⟩,
            ⟨some 56, .bin .eql (.t 55) (.c (.int .i64 0)), some (53, true)⟩,
            ⟨some 57, .pick (.t 53) (.t 56) (.c (.bool false)), none⟩,
            ⟨some 10, .asg (.t 57), none⟩])
          (.seq (.seq (.ins [
            ⟨some 59, .bin .eql (.t 31) (.c (.int .i64 3)), none⟩,
            ⟨some 58, .asg (.t 59), none⟩])
          (.cond (.t 58)
            (.skip)
            (.ins [
              ⟨some 60, .bin .eql (.t 31) (.c (.int .i64 6)), none⟩,
              ⟨some 58, .asg (.t 60), none⟩])))
          (.cond (.t 58)
            (.ins [
              ⟨some 61, .faddr 2 (.t 9), none⟩,
              ⟨some 62, .load none (.t 61), none⟩,
              ⟨some 63, .faddr 1 (.t 3), none⟩,
              ⟨some 64, .load none (.t 63), none⟩,
              ⟨some 65, .len (.t 64), none⟩,
              ⟨some 66, .bin .sub (.t 65) (.c (.int .i64 1)), none⟩,
              ⟨some 67, .call 43 [.t 62, .c (.int .i64 0), .t 66], none⟩,
              ⟨some 68, .mov (.t 67), none⟩,
              ⟨some 69, .faddr 3 (.t 9), some (68, true)⟩,
              ⟨some 70, .load none (.t 69), some (68, true)⟩,
              ⟨some 71, .bin .eql (.t 70) (.c (.int .i64 0)), some (68, true)⟩,
              ⟨some 72, .pick (.t 68) (.t 71) (.c (.bool false)), none⟩,
              ⟨some 10, .asg (.t 72), none⟩])
            (.seq (.seq (.ins [
              ⟨some 74, .bin .eql (.t 31) (.c (.int .i64 4)), none⟩,
              ⟨some 73, .asg (.t 74), none⟩])
            (.cond (.t 73)
              (.skip)
              (.ins [
                ⟨some 75, .bin .eql (.t 31) (.c (.int .i64 5)), none⟩,
                ⟨some 73, .asg (.t 75), none⟩])))
            (.cond (.t 73)
              (.ins [
                ⟨some 76, .faddr 2 (.t 9), none⟩,
                ⟨some 77, .load none (.t 76), none⟩,
                ⟨some 78, .bin .eql (.t 77) (.c (.int .i64 0)), none⟩,
                ⟨some 79, .mov (.t 78), none⟩,
                ⟨some 80, .faddr 3 (.t 9), some (79, true)⟩,
                ⟨some 81, .load none (.t 80), some (79, true)⟩,
                ⟨some 82, .bin .eql (.t 81) (.c (.int .i64 0)), some (79, true)⟩,
                ⟨some 83, .pick (.t 79) (.t 82) (.c (.bool false)), none⟩,
                ⟨some 10, .asg (.t 83), none⟩])
              (.skip)))))))))))
    (.seq (.ins [
      ⟨some 84, .mov (.t 10), none⟩,
      ⟨some 85, .un .not (.t 84), none⟩,
      ⟨some 86, .mov (.t 85), none⟩,
      ⟨some 87, .faddr 0 (.t 9), some (86, false)⟩,
      ⟨some 88, .load none (.t 87), some (86, false)⟩,
      ⟨some 89, .mov (.t 1), some (86, false)⟩,
      ⟨some 90, .bin .sub (.t 89) (.c (.int .i64 1)), some (86, false)⟩,
      ⟨some 91, .call 43 [.t 88, .c (.int .i64 0), .t 90], some (86, false)⟩,
      ⟨some 92, .un .not (.t 91), some (86, false)⟩,
      ⟨some 93, .pick (.t 86) (.c (.bool true)) (.t 92), none⟩])
    (.cond (.t 93)
      (.seq (.ins [
        ⟨some 6, .asg (.c (.int .i64 81)), none⟩])
      (.ret))
      (.skip)))))))
  (.ins [
    ⟨some 24, .mov (.t 8), none⟩,
    ⟨some 25, .bin .add (.t 24) (.c (.int .i64 1)), none⟩,
    ⟨some 8, .asg (.t 25), none⟩])))
/-- padlock/padlockref08.CheckSignals -/
def ir51 : IR :=
  .seq (.ins [
    ⟨some 3, .box (.t 0), none⟩,
    ⟨some 6, .asg (.c (.int .i64 0)), none⟩])
  (.seq (.seq (.ins [
    ⟨some 11, .load (some 4) (.t 3), none⟩,
    ⟨some 12, .mov (.t 1), none⟩,
    ⟨some 13, .call 69 [.t 11, .t 12], none⟩,
    ⟨some 7, .asg (.t 13), none⟩])
  (.seq (.ins [
    ⟨some 14, .mov (.t 7), none⟩,
    ⟨some 15, .bin .neq (.t 14) (.c (.int .i64 0)), none⟩])
  (.cond (.t 15)
    (.seq (.ins [
      ⟨some 16, .mov (.t 7), none⟩,
      ⟨some 6, .asg (.t 16), none⟩])
    (.ret))
    (.skip))))
  (.seq (.seq (.ins [
    ⟨some 17, .mov (.t 2), none⟩,
    ⟨some 18, .len (.t 17), none⟩,
    ⟨some 19, .bin .gtr (.t 18) (.c (.int .i64 200)), none⟩])
  (.cond (.t 19)
    (.seq (.ins [
      ⟨some 6, .asg (.c (.int .i64 81)), none⟩])
    (.ret))
    (.skip)))
  (.seq (.seq (.ins [
    ⟨some 8, .asg (.c (.int .i64 0)), none⟩])
  (.block 0 (ir51_l0)))
  (.seq (.ins [
    ⟨some 6, .asg (.c (.int .i64 0)), none⟩])
  (.ret)))))
def rs51 : List RV := [.t 6]
theorem fn51 : FnIR Try.prog 51 94 ir51 rs51 := ⟨Try.f51, (Try.f51.body).getD .skip, Try.func51, by kernel_rfl, by kernel_rfl, by kernel_rfl, by kernel_rfl, by kernel_rfl⟩
def ir52_d0 : IR :=
  .drawn [
    ⟨some 17, .faddr 0 (.t 3), none⟩,
    ⟨some 18, .load none (.t 17), none⟩,
    ⟨some 19, .mks 1 (.int .i64 0) 8 (.t 18) (.t 18), none⟩,
    ⟨some 20, .faddr 0 (.t 3), none⟩,
    ⟨some 21, .load none (.t 20), none⟩,
    ⟨some 22, .mks 1 (.int .i64 0) 8 (.t 21) (.t 21), none⟩,
    ⟨some 8, .asg (.t 19), none⟩,
    ⟨some 9, .asg (.t 22), none⟩]
  (.still 0 (.still 1 (.still 3 (.still 4 (.eff 2 [4, 3] (.eff 5 [1, 0] (.eff 6 [4, 3] (.eff 7 [] (.done) (.none)) (.none)) (.eff 6 [4, 3] (.eff 5 [1, 0] (.eff 7 [] (.done) (.none)) (.none)) (.none))) (.eff 5 [1, 0] (.eff 2 [4, 3] (.eff 6 [4, 3] (.eff 7 [] (.done) (.none)) (.none)) (.none)) (.none)))))))
def ir52_d1 : IR :=
  .drawn [
      ⟨some 28, .mov (.t 10), none⟩,
      ⟨some 29, .mov (.t 2), none⟩,
      ⟨some 30, .call 33 [.t 28, .t 29], none⟩,
      ⟨some 31, .faddr 1 (.t 3), none⟩,
      ⟨some 32, .load none (.t 31), none⟩,
      ⟨some 33, .len (.t 32), none⟩,
      ⟨some 34, .mks 1 (.int .i64 0) 8 (.t 33) (.t 33), none⟩,
      ⟨some 35, .faddr 1 (.t 3), none⟩,
      ⟨some 36, .load none (.t 35), none⟩,
      ⟨some 37, .len (.t 36), none⟩,
      ⟨some 38, .mks 1 (.bool false) 1 (.t 37) (.t 37), none⟩,
      ⟨some 39, .build [.bool false, .slice none 0 0, .slice none 0 0, .slice none 0 0, .slice none 0 0] [(0, 1, .t 30), (3, 1, .t 34), (4, 1, .t 38)], none⟩,
      ⟨some 11, .alloc (.agg #[.bool false, .slice none 0 0, .slice none 0 0, .slice none 0 0, .slice none 0 0]), none⟩,
      ⟨none, .store 5 (.t 11) (.t 39), none⟩]
    (.still 0 (.still 1 (.still 3 (.still 4 (.still 5 (.still 7 (.still 8 (.still 9 (.eff 2 [9, 8, 7, 5, 4, 3] (.eff 6 [9, 8, 7, 1, 0] (.eff 10 [5, 4, 3, 1, 0] (.still 11 (.eff 12 [11, 9, 8, 7, 5, 4, 3, 1, 0] (.eff 13 [] (.done) (.none)) (.none))) (.eff 12 [9, 8, 7, 5, 4, 3, 1, 0] (.eff 10 [5, 4, 3, 1, 0] (.still 11 (.eff 13 [] (.done) (.none))) (.none)) (.none))) (.eff 10 [5, 4, 3, 1, 0] (.eff 6 [9, 8, 7, 1, 0] (.still 11 (.eff 12 [11, 9, 8, 7, 5, 4, 3, 1, 0] (.eff 13 [] (.done) (.none)) (.none))) (.eff 12 [9, 8, 7, 5, 4, 3, 1, 0] (.eff 6 [9, 8, 7, 1, 0] (.still 11 (.eff 13 [] (.done) (.none))) (.none)) (.none))) (.eff 12 [9, 8, 7, 5, 4, 3, 1, 0] (.eff 6 [9, 8, 7, 1, 0] (.eff 10 [5, 4, 3, 1, 0] (.still 11 (.eff 13 [] (.done) (.none))) (.none)) (.eff 10 [5, 4, 3, 1, 0] (.eff 6 [9, 8, 7, 1, 0] (.still 11 (.eff 13 [] (.done) (.none))) (.none)) (.none))) (.none)))) (.eff 6 [9, 8, 7, 1, 0] (.eff 2 [9, 8, 7, 5, 4, 3] (.eff 10 [5, 4, 3, 1, 0] (.still 11 (.eff 12 [11, 9, 8, 7, 5, 4, 3, 1, 0] (.eff 13 [] (.done) (.none)) (.none))) (.eff 12 [9, 8, 7, 5, 4, 3, 1, 0] (.eff 10 [5, 4, 3, 1, 0] (.still 11 (.eff 13 [] (.done) (.none))) (.none)) (.none))) (.eff 10 [5, 4, 3, 1, 0] (.eff 2 [9, 8, 7, 5, 4, 3] (.still 11 (.eff 12 [11, 9, 8, 7, 5, 4, 3, 1, 0] (.eff 13 [] (.done) (.none)) (.none))) (.eff 12 [9, 8, 7, 5, 4, 3, 1, 0] (.eff 2 [9, 8, 7, 5, 4, 3] (.still 11 (.eff 13 [] (.done) (.none))) (.none)) (.none))) (.eff 12 [9, 8, 7, 5, 4, 3, 1, 0] (.eff 2 [9, 8, 7, 5, 4, 3] (.eff 10 [5, 4, 3, 1, 0] (.still 11 (.eff 13 [] (.done) (.none))) (.none)) (.eff 10 [5, 4, 3, 1, 0] (.eff 2 [9, 8, 7, 5, 4, 3] (.still 11 (.eff 13 [] (.done) (.none))) (.none)) (.none))) (.none)))) (.eff 10 [5, 4, 3, 1, 0] (.eff 2 [9, 8, 7, 5, 4, 3] (.eff 6 [9, 8, 7, 1, 0] (.still 11 (.eff 12 [11, 9, 8, 7, 5, 4, 3, 1, 0] (.eff 13 [] (.done) (.none)) (.none))) (.eff 12 [9, 8, 7, 5, 4, 3, 1, 0] (.eff 6 [9, 8, 7, 1, 0] (.still 11 (.eff 13 [] (.done) (.none))) (.none)) (.none))) (.eff 6 [9, 8, 7, 1, 0] (.eff 2 [9, 8, 7, 5, 4, 3] (.still 11 (.eff 12 [11, 9, 8, 7, 5, 4, 3, 1, 0] (.eff 13 [] (.done) (.none)) (.none))) (.eff 12 [9, 8, 7, 5, 4, 3, 1, 0] (.eff 2 [9, 8, 7, 5, 4, 3] (.still 11 (.eff 13 [] (.done) (.none))) (.none)) (.none))) (.eff 12 [9, 8, 7, 5, 4, 3, 1, 0] (.eff 2 [9, 8, 7, 5, 4, 3] (.eff 6 [9, 8, 7, 1, 0] (.still 11 (.eff 13 [] (.done) (.none))) (.none)) (.eff 6 [9, 8, 7, 1, 0] (.eff 2 [9, 8, 7, 5, 4, 3] (.still 11 (.eff 13 [] (.done) (.none))) (.none)) (.none))) (.none)))) (.eff 12 [9, 8, 7, 5, 4, 3, 1, 0] (.eff 2 [9, 8, 7, 5, 4, 3] (.eff 6 [9, 8, 7, 1, 0] (.eff 10 [5, 4, 3, 1, 0] (.still 11 (.eff 13 [] (.done) (.none))) (.none)) (.eff 10 [5, 4, 3, 1, 0] (.eff 6 [9, 8, 7, 1, 0] (.still 11 (.eff 13 [] (.done) (.none))) (.none)) (.none))) (.eff 6 [9, 8, 7, 1, 0] (.eff 2 [9, 8, 7, 5, 4, 3] (.eff 10 [5, 4, 3, 1, 0] (.still 11 (.eff 13 [] (.done) (.none))) (.none)) (.eff 10 [5, 4, 3, 1, 0] (.eff 2 [9, 8, 7, 5, 4, 3] (.still 11 (.eff 13 [] (.done) (.none))) (.none)) (.none))) (.eff 10 [5, 4, 3, 1, 0] (.eff 2 [9, 8, 7, 5, 4, 3] (.eff 6 [9, 8, 7, 1, 0] (.still 11 (.eff 13 [] (.done) (.none))) (.none)) (.eff 6 [9, 8, 7, 1, 0] (.eff 2 [9, 8, 7, 5, 4, 3] (.still 11 (.eff 13 [] (.done) (.none))) (.none)) (.none))) (.none)))) (.none)))))))))))))
def ir52_l3 : IR :=
  .loop (.seq (.seq (.ins [
    ⟨some 109, .mov (.t 15), none⟩,
    ⟨some 110, .faddr 1 (.t 3), none⟩,
    ⟨some 111, .load none (.t 110), none⟩,
    ⟨some 112, .len (.t 111), none⟩,
    ⟨some 113, .bin .lss (.t 109) (.t 112), none⟩])
  (.cond (.t 113)
    (.skip)
    (.exit 6)))
  (.seq (.block 7 (.seq (.ins [
      ⟨some 116, .mov (.t 10), none⟩,
      ⟨some 117, .bin .gtr (.t 116) (.c (.int .i64 0)), none⟩,
      ⟨some 118, .mov (.t 117), none⟩,
      ⟨some 119, .mov (.t 7), some (118, true)⟩,
      ⟨some 120, .mov (.t 10), some (118, true)⟩,
      ⟨some 121, .bin .sub (.t 120) (.c (.int .i64 1)), some (118, true)⟩,
      ⟨some 122, .iaddr 5 (.t 119) (.t 121), some (118, true)⟩,
      ⟨some 123, .faddr 4 (.t 122), some (118, true)⟩,
      ⟨some 124, .load none (.t 123), some (118, true)⟩,
      ⟨some 125, .mov (.t 15), some (118, true)⟩,
      ⟨some 126, .iaddr 1 (.t 124) (.t 125), some (118, true)⟩,
      ⟨some 127, .load none (.t 126), some (118, true)⟩,
      ⟨some 128, .pick (.t 118) (.t 127) (.c (.bool false)), none⟩,
      ⟨some 16, .asg (.t 128), none⟩])
    (.drawn [
      ⟨some 129, .faddr 4 (.t 11), none⟩,
      ⟨some 130, .load none (.t 129), none⟩,
      ⟨some 131, .mov (.t 15), none⟩,
      ⟨some 132, .faddr 0 (.t 11), none⟩,
      ⟨some 133, .load none (.t 132), none⟩,
      ⟨some 134, .mov (.t 133), none⟩,
      ⟨some 135, .load (some 4) (.t 3), some (134, true)⟩,
      ⟨some 136, .mov (.t 2), some (134, true)⟩,
      ⟨some 137, .mov (.t 15), some (134, true)⟩,
      ⟨some 138, .mov (.t 7), some (134, true)⟩,
      ⟨some 139, .call 72 [.t 135, .t 136, .t 137, .t 138], some (134, true)⟩,
      ⟨some 140, .pick (.t 134) (.t 139) (.c (.bool false)), none⟩,
      ⟨some 141, .mov (.t 140), none⟩,
      ⟨some 142, .mov (.t 2), some (141, true)⟩,
      ⟨some 143, .mov (.t 10), some (141, true)⟩,
      ⟨some 144, .mov (.t 15), some (141, true)⟩,
      ⟨some 145, .call 70 [.t 142, .t 143, .c (.int .i64 6), .t 144], some (141, true)⟩,
      ⟨some 146, .un .not (.t 145), some (141, true)⟩,
      ⟨some 147, .mov (.t 146), some (141, true)⟩,
      ⟨some 148, .mov (.t 16), some (147, false)⟩,
      ⟨some 149, .pick (.t 147) (.c (.bool true)) (.t 148), some (141, true)⟩,
      ⟨some 150, .pick (.t 141) (.t 149) (.c (.bool false)), none⟩,
      ⟨some 151, .iaddr 1 (.t 130) (.t 131), none⟩,
      ⟨none, .store 1 (.t 151) (.t 150), none⟩]
    (.still 0 (.still 1 (.still 2 (.still 3 (.still 4 (.still 5 (.still 6 (.still 7 (.still 8 (.still 9 (.eff 10 [2, 1, 0] (.still 11 (.still 12 (.still 13 (.still 14 (.still 15 (.eff 16 [2, 1, 0] (.still 17 (.still 18 (.still 19 (.still 20 (.still 21 (.still 22 (.eff 23 [] (.done) (.none)))))))) (.none))))))) (.none)))))))))))))))
  (.ins [
    ⟨some 114, .mov (.t 15), none⟩,
    ⟨some 115, .bin .add (.t 114) (.c (.int .i64 1)), none⟩,
    ⟨some 15, .asg (.t 115), none⟩])))
def ir52_l2 : IR :=
  .loop (.seq (.seq (.ins [
    ⟨some 85, .mov (.t 14), none⟩,
    ⟨some 86, .faddr 1 (.t 3), none⟩,
    ⟨some 87, .load none (.t 86), none⟩,
    ⟨some 88, .len (.t 87), none⟩,
    ⟨some 89, .bin .lss (.t 85) (.t 88), none⟩,
    ⟨some 90, .mov (.t 89), none⟩,
    ⟨some 91, .faddr 0 (.t 11), some (90, true)⟩,
    ⟨some 92, .load none (.t 91), some (90, true)⟩,
    ⟨some 93, .pick (.t 90) (.t 92) (.c (.bool false)), none⟩])
  (.cond (.t 93)
    (.skip)
    (.exit 4)))
  (.seq (.block 5 (.drawn [
      ⟨some 96, .faddr 3 (.t 11), none⟩,
      ⟨some 97, .load none (.t 96), none⟩,
      ⟨some 98, .mov (.t 14), none⟩,
      ⟨some 99, .load (some 4) (.t 3), none⟩,
      ⟨some 100, .mov (.t 10), none⟩,
      ⟨some 101, .mov (.t 14), none⟩,
      ⟨some 102, .load (some 5) (.t 11), none⟩,
      ⟨some 103, .call 71 [.t 99, .t 100, .t 101, .t 102], none⟩,
      ⟨some 104, .iaddr 1 (.t 97) (.t 98), none⟩,
      ⟨none, .store 1 (.t 104) (.t 103), none⟩]
    (.still 0 (.still 1 (.still 2 (.still 3 (.still 4 (.still 5 (.still 6 (.eff 7 [2, 1, 0] (.still 8 (.eff 9 [] (.done) (.none))) (.none)))))))))))
  (.ins [
    ⟨some 94, .mov (.t 14), none⟩,
    ⟨some 95, .bin .add (.t 94) (.c (.int .i64 1)), none⟩,
    ⟨some 14, .asg (.t 95), none⟩])))
def ir52_l1 : IR :=
  .loop (.seq (.seq (.ins [
    ⟨some 44, .mov (.t 13), none⟩,
    ⟨some 45, .faddr 0 (.t 3), none⟩,
    ⟨some 46, .load none (.t 45), none⟩,
    ⟨some 47, .bin .lss (.t 44) (.t 46), none⟩])
  (.cond (.t 47)
    (.skip)
    (.exit 2)))
  (.seq (.block 3 (.seq (.ins [
      ⟨some 50, .mov (.t 9), none⟩,
      ⟨some 51, .mov (.t 13), none⟩,
      ⟨some 52, .iaddr 1 (.t 50) (.t 51), none⟩,
      ⟨some 53, .load none (.t 52), none⟩,
      ⟨some 54, .bin .add (.t 53) (.c (.int .i64 1)), none⟩,
      ⟨some 55, .iaddr 1 (.t 50) (.t 51), none⟩,
      ⟨none, .store 1 (.t 55) (.t 54), none⟩])
    (.seq (.ins [
      ⟨some 56, .faddr 0 (.t 11), none⟩,
      ⟨some 57, .load none (.t 56), none⟩,
      ⟨some 58, .mov (.t 57), none⟩,
      ⟨some 59, .mov (.t 2), some (58, true)⟩,
      ⟨some 60, .mov (.t 10), some (58, true)⟩,
      ⟨some 61, .mov (.t 13), some (58, true)⟩,
      ⟨some 62, .call 70 [.t 59, .t 60, .c (.int .i64 2), .t 61], some (58, true)⟩,
      ⟨some 63, .un .not (.t 62), some (58, true)⟩,
      ⟨some 64, .pick (.t 58) (.t 63) (.c (.bool false)), none⟩])
    (.cond (.t 64)
      (.seq (.ins [
        ⟨some 65, .mov (.t 8), none⟩,
        ⟨some 66, .mov (.t 13), none⟩,
        ⟨some 67, .mov (.t 12), none⟩,
        ⟨some 68, .mov (.t 13), none⟩,
        ⟨some 69, .iaddr 1 (.t 67) (.t 68), none⟩,
        ⟨some 70, .load none (.t 69), none⟩,
        ⟨some 71, .iaddr 1 (.t 65) (.t 66), none⟩,
        ⟨none, .store 1 (.t 71) (.t 70), none⟩])
      (.ins [
        ⟨some 72, .mov (.t 9), none⟩,
        ⟨some 73, .mov (.t 13), none⟩,
        ⟨some 74, .iaddr 1 (.t 72) (.t 73), none⟩,
        ⟨none, .store 1 (.t 74) (.c (.int .i64 0)), none⟩]))
      (.skip)))))
  (.ins [
    ⟨some 48, .mov (.t 13), none⟩,
    ⟨some 49, .bin .add (.t 48) (.c (.int .i64 1)), none⟩,
    ⟨some 13, .asg (.t 49), none⟩])))
def ir52_l0 : IR :=
  .loop (.seq (.seq (.ins [
    ⟨some 23, .mov (.t 10), none⟩,
    ⟨some 24, .mov (.t 1), none⟩,
    ⟨some 25, .bin .lss (.t 23) (.t 24), none⟩])
  (.cond (.t 25)
    (.skip)
    (.exit 0)))
  (.seq (.block 1 (.seq (ir52_d1)
    (.seq (.ins [
      ⟨some 40, .load (some 4) (.t 3), none⟩,
      ⟨some 41, .mov (.t 10), none⟩,
      ⟨some 42, .mov (.t 2), none⟩,
      ⟨some 43, .call 24 [.t 40, .t 41, .t 42], none⟩,
      ⟨some 12, .asg (.t 43), none⟩])
    (.seq (.seq (.ins [
      ⟨some 13, .asg (.c (.int .i64 0)), none⟩])
    (.block 2 (ir52_l1)))
    (.seq (.ins [
      ⟨some 75, .faddr 1 (.t 11), none⟩,
      ⟨some 76, .load none (.t 75), none⟩,
      ⟨some 77, .mov (.t 8), none⟩,
      ⟨some 78, .app 1 8 (.t 76) (.t 77), none⟩,
      ⟨some 79, .faddr 1 (.t 11), none⟩,
      ⟨none, .store 1 (.t 79) (.t 78), none⟩])
    (.seq (.ins [
      ⟨some 80, .faddr 2 (.t 11), none⟩,
      ⟨some 81, .load none (.t 80), none⟩,
      ⟨some 82, .mov (.t 9), none⟩,
      ⟨some 83, .app 1 8 (.t 81) (.t 82), none⟩,
      ⟨some 84, .faddr 2 (.t 11), none⟩,
      ⟨none, .store 1 (.t 84) (.t 83), none⟩])
    (.seq (.seq (.ins [
      ⟨some 14, .asg (.c (.int .i64 0)), none⟩])
    (.block 4 (ir52_l2)))
    (.seq (.ins [
      ⟨some 105, .mov (.t 7), none⟩,
      ⟨some 106, .load (some 5) (.t 11), none⟩,
      ⟨some 107, .bsl 5 (.agg #[.bool false, .slice none 0 0, .slice none 0 0, .slice none 0 0, .slice none 0 0]) 1 [(0, .t 106)], none⟩,
      ⟨some 108, .app 5 104 (.t 105) (.t 107), none⟩,
      ⟨some 7, .asg (.t 108), none⟩])
    (.seq (.ins [
      ⟨some 15, .asg (.c (.int .i64 0)), none⟩])
    (.block 6 (ir52_l3)))))))))))
  (.ins [
    ⟨some 26, .mov (.t 10), none⟩,
    ⟨some 27, .bin .add (.t 26) (.c (.int .i64 1)), none⟩,
    ⟨some 10, .asg (.t 27), none⟩])))
/-- padlock/padlockref08.Frames -/
def ir52 : IR :=
  .seq (.ins [
    ⟨some 3, .box (.t 0), none⟩,
    ⟨some 6, .asg (.c (.slice none 0 0)), none⟩])
  (.seq (.ins [
    ⟨some 7, .asg (.c (.slice none 0 0)), none⟩])
  (.seq (ir52_d0)
  (.seq (.seq (.ins [
    ⟨some 10, .asg (.c (.int .i64 0)), none⟩])
  (.block 0 (ir52_l0)))
  (.seq (.ins [
    ⟨some 152, .mov (.t 7), none⟩,
    ⟨some 6, .asg (.t 152), none⟩])
  (.ret)))))
def rs52 : List RV := [.t 6]
theorem fn52 : FnIR Try.prog 52 153 ir52 rs52 := ⟨Try.f52, (Try.f52.body).getD .skip, Try.func52, by kernel_rfl, by kernel_rfl, by kernel_rfl, by kernel_rfl, by kernel_rfl⟩
def ir53_l0 : IR :=
  .loop (.seq (.seq (.ins [
    ⟨some 5, .mov (.t 4), none⟩,
    ⟨some 6, .faddr 4 (.t 1), none⟩,
    ⟨some 7, .load none (.t 6), none⟩,
    ⟨some 8, .len (.t 7), none⟩,
    ⟨some 9, .bin .lss (.t 5) (.t 8), none⟩])
  (.cond (.t 9)
    (.skip)
    (.exit 0)))
  (.seq (.block 1 (.seq (.ins [
      ⟨some 12, .faddr 4 (.t 1), none⟩,
      ⟨some 13, .load none (.t 12), none⟩,
      ⟨some 14, .mov (.t 4), none⟩,
      ⟨some 15, .iaddr 1 (.t 13) (.t 14), none⟩,
      ⟨some 16, .load none (.t 15), none⟩])
    (.cond (.t 16)
      (.ins [
        ⟨some 17, .mov (.t 3), none⟩,
        ⟨some 18, .mov (.t 4), none⟩,
        ⟨some 19, .conv .u64 (.t 18), none⟩,
        ⟨some 20, .bin .shl (.c (.int .i64 1)) (.t 19), none⟩,
        ⟨some 21, .bin .or (.t 17) (.t 20), none⟩,
        ⟨some 3, .asg (.t 21), none⟩])
      (.skip))))
  (.ins [
    ⟨some 10, .mov (.t 4), none⟩,
    ⟨some 11, .bin .add (.t 10) (.c (.int .i64 1)), none⟩,
    ⟨some 4, .asg (.t 11), none⟩])))
/-- padlock/padlockref08.Row -/
def ir53 : IR :=
  .seq (.ins [
    ⟨some 1, .box (.t 0), none⟩,
    ⟨some 2, .asg (.c (.int .i64 0)), none⟩])
  (.seq (.ins [
    ⟨some 3, .asg (.c (.int .i64 0)), none⟩])
  (.seq (.seq (.ins [
    ⟨some 4, .asg (.c (.int .i64 0)), none⟩])
  (.block 0 (ir53_l0)))
  (.seq (.ins [
    ⟨some 22, .mov (.t 3), none⟩,
    ⟨some 2, .asg (.t 22), none⟩])
  (.ret))))
def rs53 : List RV := [.t 2]
theorem fn53 : FnIR Try.prog 53 23 ir53 rs53 := ⟨Try.f53, (Try.f53.body).getD .skip, Try.func53, by kernel_rfl, by kernel_rfl, by kernel_rfl, by kernel_rfl, by kernel_rfl⟩
/-- slices.ContainsFunc[[]int,int] -/
def ir54 : IR :=
  .seq (.ins [
    ⟨some 4, .asg (.c (.bool false)), none⟩])
  (.seq (.ins [
    ⟨some 5, .mov (.t 0), none⟩,
    ⟨some 6, .mov (.t 1), none⟩,
    ⟨some 7, .call 73 [.t 5, .t 6], none⟩,
    ⟨some 8, .bin .geq (.t 7) (.c (.int .i64 0)), none⟩,
    ⟨some 4, .asg (.t 8), none⟩])
  (.ret))
def rs54 : List RV := [.t 4]
theorem fn54 : FnIR Try.prog 54 9 ir54 rs54 := ⟨Try.f54, (Try.f54.body).getD .skip, Try.func54, by kernel_rfl, by kernel_rfl, by kernel_rfl, by kernel_rfl, by kernel_rfl⟩
/-- padlock/control.Safe$1 -/
def ir55 : IR :=
  .seq (.ins [
    ⟨some 3, .asg (.c (.bool false)), none⟩])
  (.seq (.ins [
    ⟨some 4, .mov (.t 0), none⟩,
    ⟨some 5, .faddr 1 (.t 1), none⟩,
    ⟨some 6, .load none (.t 5), none⟩,
    ⟨some 7, .len (.t 6), none⟩,
    ⟨some 8, .bin .shl (.c (.int .i64 1)) (.t 7), none⟩,
    ⟨some 9, .bin .sub (.t 8) (.c (.int .i64 1)), none⟩,
    ⟨some 10, .call 48 [.t 4, .c (.int .i64 0), .t 9], none⟩,
    ⟨some 11, .un .not (.t 10), none⟩,
    ⟨some 3, .asg (.t 11), none⟩])
  (.ret))
def rs55 : List RV := [.t 3]
theorem fn55 : FnIR Try.prog 55 12 ir55 rs55 := ⟨Try.f55, (Try.f55.body).getD .skip, Try.func55, by kernel_rfl, by kernel_rfl, by kernel_rfl, by kernel_rfl, by kernel_rfl⟩
/-- slices.ContainsFunc[[]padlock/control.tick,padlock/control.tick] -/
def ir56 : IR :=
  .seq (.ins [
    ⟨some 4, .asg (.c (.bool false)), none⟩])
  (.seq (.ins [
    ⟨some 5, .mov (.t 0), none⟩,
    ⟨some 6, .mov (.t 1), none⟩,
    ⟨some 7, .call 74 [.t 5, .t 6], none⟩,
    ⟨some 8, .bin .geq (.t 7) (.c (.int .i64 0)), none⟩,
    ⟨some 4, .asg (.t 8), none⟩])
  (.ret))
def rs56 : List RV := [.t 4]
theorem fn56 : FnIR Try.prog 56 9 ir56 rs56 := ⟨Try.f56, (Try.f56.body).getD .skip, Try.func56, by kernel_rfl, by kernel_rfl, by kernel_rfl, by kernel_rfl, by kernel_rfl⟩
/-- padlock/control.Safe$2 -/
def ir57 : IR :=
  .seq (.ins [
    ⟨some 2, .box (.t 0), none⟩,
    ⟨some 3, .asg (.c (.bool false)), none⟩])
  (.seq (.ins [
    ⟨some 4, .faddr 3 (.t 2), none⟩,
    ⟨some 5, .load none (.t 4), none⟩,
    ⟨some 6, .load none (.t 1), none⟩,
    ⟨some 7, .iaddr 1 (.t 5) (.t 6), none⟩,
    ⟨some 8, .load none (.t 7), none⟩,
    ⟨some 9, .bin .eql (.t 8) (.c (.int .i64 1)), none⟩,
    ⟨some 3, .asg (.t 9), none⟩])
  (.ret))
def rs57 : List RV := [.t 3]
theorem fn57 : FnIR Try.prog 57 10 ir57 rs57 := ⟨Try.f57, (Try.f57.body).getD .skip, Try.func57, by kernel_rfl, by kernel_rfl, by kernel_rfl, by kernel_rfl, by kernel_rfl⟩
/-- padlock/padlockref08.checkDoor -/
def ir58 : IR :=
  .seq (.ins [
    ⟨some 4, .box (.t 0), none⟩,
    ⟨some 8, .asg (.c (.int .i64 0)), none⟩])
  (.seq (.seq (.ins [
    ⟨some 10, .load (some 4) (.t 4), none⟩,
    ⟨some 11, .mov (.t 1), none⟩,
    ⟨some 12, .mov (.t 2), none⟩,
    ⟨some 13, .call 51 [.t 10, .t 11, .t 12], none⟩,
    ⟨some 9, .asg (.t 13), none⟩])
  (.seq (.ins [
    ⟨some 14, .mov (.t 9), none⟩,
    ⟨some 15, .bin .neq (.t 14) (.c (.int .i64 0)), none⟩])
  (.cond (.t 15)
    (.seq (.ins [
      ⟨some 16, .mov (.t 9), none⟩,
      ⟨some 8, .asg (.t 16), none⟩])
    (.ret))
    (.skip))))
  (.seq (.seq (.ins [
    ⟨some 17, .mov (.t 3), none⟩,
    ⟨some 18, .faddr 1 (.t 4), none⟩,
    ⟨some 19, .load none (.t 18), none⟩,
    ⟨some 20, .len (.t 19), none⟩,
    ⟨some 21, .bin .sub (.t 20) (.c (.int .i64 1)), none⟩,
    ⟨some 22, .call 43 [.t 17, .c (.int .i64 0), .t 21], none⟩,
    ⟨some 23, .un .not (.t 22), none⟩])
  (.cond (.t 23)
    (.seq (.ins [
      ⟨some 8, .asg (.c (.int .i64 1)), none⟩])
    (.ret))
    (.skip)))
  (.seq (.ins [
    ⟨some 8, .asg (.c (.int .i64 0)), none⟩])
  (.ret))))
def rs58 : List RV := [.t 8]
theorem fn58 : FnIR Try.prog 58 24 ir58 rs58 := ⟨Try.f58, (Try.f58.body).getD .skip, Try.func58, by kernel_rfl, by kernel_rfl, by kernel_rfl, by kernel_rfl, by kernel_rfl⟩
/-- padlock/padlockref08.checkTicks -/
def ir69 : IR :=
  .seq (.ins [
    ⟨some 2, .box (.t 0), none⟩,
    ⟨some 4, .asg (.c (.int .i64 0)), none⟩])
  (.seq (.seq (.ins [
    ⟨some 6, .load (some 4) (.t 2), none⟩,
    ⟨some 7, .call 15 [.t 6], none⟩,
    ⟨some 5, .asg (.t 7), none⟩])
  (.seq (.ins [
    ⟨some 8, .mov (.t 5), none⟩,
    ⟨some 9, .bin .neq (.t 8) (.c (.int .i64 0)), none⟩])
  (.cond (.t 9)
    (.seq (.ins [
      ⟨some 10, .mov (.t 5), none⟩,
      ⟨some 4, .asg (.t 10), none⟩])
    (.ret))
    (.skip))))
  (.seq (.seq (.ins [
    ⟨some 11, .mov (.t 1), none⟩,
    ⟨some 12, .call 43 [.t 11, .c (.int .i64 0), .c (.int .i64 1000)], none⟩,
    ⟨some 13, .un .not (.t 12), none⟩])
  (.cond (.t 13)
    (.seq (.ins [
      ⟨some 4, .asg (.c (.int .i64 1)), none⟩])
    (.ret))
    (.skip)))
  (.seq (.ins [
    ⟨some 4, .asg (.c (.int .i64 0)), none⟩])
  (.ret))))
def rs69 : List RV := [.t 4]
theorem fn69 : FnIR Try.prog 69 14 ir69 rs69 := ⟨Try.f69, (Try.f69.body).getD .skip, Try.func69, by kernel_rfl, by kernel_rfl, by kernel_rfl, by kernel_rfl, by kernel_rfl⟩
def ir71_l0 : IR :=
  .loop (.seq (.seq (.ins [
    ⟨some 21, .mov (.t 10), none⟩,
    ⟨some 22, .mov (.t 9), none⟩,
    ⟨some 23, .len (.t 22), none⟩,
    ⟨some 24, .bin .lss (.t 21) (.t 23), none⟩])
  (.cond (.t 24)
    (.skip)
    (.exit 0)))
  (.seq (.block 1 (.seq (.drawn [
      ⟨some 27, .faddr 2 (.t 7), none⟩,
      ⟨some 28, .load none (.t 27), none⟩,
      ⟨some 29, .mov (.t 9), none⟩,
      ⟨some 30, .mov (.t 10), none⟩,
      ⟨some 31, .iaddr 3 (.t 29) (.t 30), none⟩,
      ⟨some 32, .faddr 0 (.t 31), none⟩,
      ⟨some 33, .load none (.t 32), none⟩,
      ⟨some 34, .iaddr 1 (.t 28) (.t 33), none⟩,
      ⟨some 35, .load none (.t 34), none⟩,
      ⟨some 36, .faddr 2 (.t 4), none⟩,
      ⟨some 37, .load none (.t 36), none⟩,
      ⟨some 38, .bin .geq (.t 35) (.t 37), none⟩]
    (.still 0 (.still 1 (.still 2 (.still 3 (.still 4 (.still 5 (.still 6 (.still 7 (.still 8 (.still 9 (.still 10 (.still 11 (.done))))))))))))))
    (.cond (.t 38)
      (.seq (.ins [
        ⟨some 8, .asg (.c (.int .i64 2)), none⟩])
      (.ret))
      (.skip))))
  (.ins [
    ⟨some 25, .mov (.t 10), none⟩,
    ⟨some 26, .bin .add (.t 25) (.c (.int .i64 1)), none⟩,
    ⟨some 10, .asg (.t 26), none⟩])))
/-- padlock/padlockref08.decide -/
def ir71 : IR :=
  .seq (.ins [
    ⟨some 4, .box (.t 0), none⟩,
    ⟨some 7, .box (.t 3), none⟩,
    ⟨some 8, .asg (.c (.int .i64 0)), none⟩])
  (.seq (.ins [
    ⟨some 11, .faddr 1 (.t 4), none⟩,
    ⟨some 12, .load none (.t 11), none⟩,
    ⟨some 13, .mov (.t 2), none⟩,
    ⟨some 14, .iaddr 2 (.t 12) (.t 13), none⟩,
    ⟨some 15, .faddr 1 (.t 14), none⟩,
    ⟨some 16, .load none (.t 15), none⟩,
    ⟨some 9, .asg (.t 16), none⟩])
  (.seq (.seq (.ins [
    ⟨some 17, .mov (.t 1), none⟩,
    ⟨some 18, .faddr 3 (.t 4), none⟩,
    ⟨some 19, .load none (.t 18), none⟩,
    ⟨some 20, .bin .geq (.t 17) (.t 19), none⟩])
  (.cond (.t 20)
    (.seq (.ins [
      ⟨some 8, .asg (.c (.int .i64 2)), none⟩])
    (.ret))
    (.skip)))
  (.seq (.seq (.ins [
    ⟨some 10, .asg (.c (.int .i64 0)), none⟩])
  (.block 0 (ir71_l0)))
  (.seq (.seq (.ins [
    ⟨some 39, .mov (.t 9), none⟩,
    ⟨some 40, .faddr 1 (.t 7), none⟩,
    ⟨some 41, .load none (.t 40), none⟩,
    ⟨some 42, .call 23 [.t 39, .t 41], none⟩])
  (.cond (.t 42)
    (.seq (.ins [
      ⟨some 8, .asg (.c (.int .i64 2)), none⟩])
    (.ret))
    (.skip)))
  (.seq (.ins [
    ⟨some 8, .asg (.c (.int .i64 1)), none⟩])
  (.ret))))))
def rs71 : List RV := [.t 8]
theorem fn71 : FnIR Try.prog 71 43 ir71 rs71 := ⟨Try.f71, (Try.f71.body).getD .skip, Try.func71, by kernel_rfl, by kernel_rfl, by kernel_rfl, by kernel_rfl, by kernel_rfl⟩
def ir72_l0 : IR :=
  .loop (.seq (.seq (.ins [
    ⟨some 16, .mov (.t 10), none⟩,
    ⟨some 17, .bin .geq (.t 16) (.c (.int .i64 0)), none⟩,
    ⟨some 18, .mov (.t 17), none⟩,
    ⟨some 19, .mov (.t 10), some (18, true)⟩,
    ⟨some 20, .mov (.t 9), some (18, true)⟩,
    ⟨some 21, .faddr 1 (.t 4), some (18, true)⟩,
    ⟨some 22, .load none (.t 21), some (18, true)⟩,
    ⟨some 23, .mov (.t 2), some (18, true)⟩,
    ⟨some 24, .iaddr 2 (.t 22) (.t 23), some (18, true)⟩,
    ⟨some 25, .faddr 0 (.t 24), some (18, true)⟩,
    ⟨some 26, .load none (.t 25), some (18, true)⟩,
    ⟨some 27, .bin .sub (.t 20) (.t 26), some (18, true)⟩,
    ⟨some 28, .bin .gtr (.t 19) (.t 27), some (18, true)⟩,
    ⟨some 29, .pick (.t 18) (.t 28) (.c (.bool false)), none⟩])
  (.cond (.t 29)
    (.skip)
    (.exit 0)))
  (.seq (.block 1 (.seq (.ins [
      ⟨some 32, .mov (.t 3), none⟩,
      ⟨some 33, .mov (.t 10), none⟩,
      ⟨some 34, .iaddr 5 (.t 32) (.t 33), none⟩,
      ⟨some 35, .load (some 5) (.t 34), none⟩,
      ⟨some 11, .alloc (.agg #[.bool false, .slice none 0 0, .slice none 0 0, .slice none 0 0, .slice none 0 0]), none⟩,
      ⟨none, .store 5 (.t 11) (.t 35), none⟩])
    (.seq (.seq (.ins [
      ⟨some 36, .faddr 0 (.t 11), none⟩,
      ⟨some 37, .load none (.t 36), none⟩,
      ⟨some 38, .un .not (.t 37), none⟩])
    (.cond (.t 38)
      (.seq (.ins [
        ⟨some 8, .asg (.c (.bool false)), none⟩])
      (.ret))
      (.skip)))
    (.seq (.seq (.ins [
      ⟨some 39, .mov (.t 1), none⟩,
      ⟨some 40, .mov (.t 10), none⟩,
      ⟨some 41, .mov (.t 2), none⟩,
      ⟨some 42, .call 70 [.t 39, .t 40, .c (.int .i64 3), .t 41], none⟩])
    (.cond (.t 42)
      (.exit 1)
      (.skip)))
    (.seq (.seq (.ins [
      ⟨some 43, .faddr 3 (.t 11), none⟩,
      ⟨some 44, .load none (.t 43), none⟩,
      ⟨some 45, .mov (.t 2), none⟩,
      ⟨some 46, .iaddr 1 (.t 44) (.t 45), none⟩,
      ⟨some 47, .load none (.t 46), none⟩,
      ⟨some 48, .bin .eql (.t 47) (.c (.int .i64 2)), none⟩])
    (.cond (.t 48)
      (.seq (.ins [
        ⟨some 8, .asg (.c (.bool false)), none⟩])
      (.ret))
      (.skip)))
    (.seq (.ins [
      ⟨some 49, .faddr 3 (.t 11), none⟩,
      ⟨some 50, .load none (.t 49), none⟩,
      ⟨some 51, .mov (.t 2), none⟩,
      ⟨some 52, .iaddr 1 (.t 50) (.t 51), none⟩,
      ⟨some 53, .load none (.t 52), none⟩,
      ⟨some 54, .bin .eql (.t 53) (.c (.int .i64 1)), none⟩])
    (.cond (.t 54)
      (.seq (.ins [
        ⟨some 8, .asg (.c (.bool true)), none⟩])
      (.ret))
      (.skip))))))))
  (.ins [
    ⟨some 30, .mov (.t 10), none⟩,
    ⟨some 31, .bin .sub (.t 30) (.c (.int .i64 1)), none⟩,
    ⟨some 10, .asg (.t 31), none⟩])))
/-- padlock/padlockref08.wants -/
def ir72 : IR :=
  .seq (.ins [
    ⟨some 4, .box (.t 0), none⟩,
    ⟨some 8, .asg (.c (.bool false)), none⟩])
  (.seq (.ins [
    ⟨some 12, .mov (.t 3), none⟩,
    ⟨some 13, .len (.t 12), none⟩,
    ⟨some 14, .bin .sub (.t 13) (.c (.int .i64 1)), none⟩,
    ⟨some 9, .asg (.t 14), none⟩])
  (.seq (.seq (.ins [
    ⟨some 15, .mov (.t 9), none⟩,
    ⟨some 10, .asg (.t 15), none⟩])
  (.block 0 (ir72_l0)))
  (.seq (.ins [
    ⟨some 8, .asg (.c (.bool false)), none⟩])
  (.ret))))
def rs72 : List RV := [.t 8]
theorem fn72 : FnIR Try.prog 72 55 ir72 rs72 := ⟨Try.f72, (Try.f72.body).getD .skip, Try.func72, by kernel_rfl, by kernel_rfl, by kernel_rfl, by kernel_rfl, by kernel_rfl⟩
def ir73_l0 : IR :=
  .loop (.seq (.ins [
    ⟨some 9, .bin .lss (.t 8) (.t 7), none⟩])
  (.seq (.cond (.t 9)
    (.skip)
    (.exit 0))
  (.seq (.block 1 (.seq (.ins [
      ⟨some 10, .mov (.t 8), none⟩,
      ⟨some 5, .asg (.t 10), none⟩])
    (.seq (.ins [
      ⟨some 11, .mov (.t 1), none⟩,
      ⟨some 12, .mov (.t 0), none⟩,
      ⟨some 13, .mov (.t 5), none⟩,
      ⟨some 14, .iaddr 1 (.t 12) (.t 13), none⟩,
      ⟨some 15, .load none (.t 14), none⟩,
      ⟨some 16, .callv (.t 11) [.t 15], none⟩])
    (.cond (.t 16)
      (.seq (.ins [
        ⟨some 17, .mov (.t 5), none⟩,
        ⟨some 4, .asg (.t 17), none⟩])
      (.ret))
      (.skip)))))
  (.ins [
    ⟨some 18, .bin .add (.t 8) (.c (.int .i64 1)), none⟩,
    ⟨some 8, .mov (.t 18), none⟩]))))
/-- slices.IndexFunc[[]int,int] -/
def ir73 : IR :=
  .seq (.ins [
    ⟨some 4, .asg (.c (.int .i64 0)), none⟩])
  (.seq (.seq (.ins [
    ⟨some 6, .mov (.t 0), none⟩,
    ⟨some 7, .len (.t 6), none⟩,
    ⟨some 8, .mov (.c (.int .i64 0)), none⟩])
  (.block 0 (ir73_l0)))
  (.seq (.ins [
    ⟨some 4, .asg (.c (.int .i64 (-1))), none⟩])
  (.ret)))
def rs73 : List RV := [.t 4]
theorem fn73 : FnIR Try.prog 73 19 ir73 rs73 := ⟨Try.f73, (Try.f73.body).getD .skip, Try.func73, by kernel_rfl, by kernel_rfl, by kernel_rfl, by kernel_rfl, by kernel_rfl⟩
def ir74_l0 : IR :=
  .loop (.seq (.ins [
    ⟨some 9, .bin .lss (.t 8) (.t 7), none⟩])
  (.seq (.cond (.t 9)
    (.skip)
    (.exit 0))
  (.seq (.block 1 (.seq (.ins [
      ⟨some 10, .mov (.t 8), none⟩,
      ⟨some 5, .asg (.t 10), none⟩])
    (.seq (.ins [
      ⟨some 11, .mov (.t 1), none⟩,
      ⟨some 12, .mov (.t 0), none⟩,
      ⟨some 13, .mov (.t 5), none⟩,
      ⟨some 14, .iaddr 6 (.t 12) (.t 13), none⟩,
      ⟨some 15, .load (some 6) (.t 14), none⟩,
      ⟨some 16, .callv (.t 11) [.t 15], none⟩])
    (.cond (.t 16)
      (.seq (.ins [
        ⟨some 17, .mov (.t 5), none⟩,
        ⟨some 4, .asg (.t 17), none⟩])
      (.ret))
      (.skip)))))
  (.ins [
    ⟨some 18, .bin .add (.t 8) (.c (.int .i64 1)), none⟩,
    ⟨some 8, .mov (.t 18), none⟩]))))
/-- slices.IndexFunc[[]padlock/control.tick,padlock/control.tick] -/
def ir74 : IR :=
  .seq (.ins [
    ⟨some 4, .asg (.c (.int .i64 0)), none⟩])
  (.seq (.seq (.ins [
    ⟨some 6, .mov (.t 0), none⟩,
    ⟨some 7, .len (.t 6), none⟩,
    ⟨some 8, .mov (.c (.int .i64 0)), none⟩])
  (.block 0 (ir74_l0)))
  (.seq (.ins [
    ⟨some 4, .asg (.c (.int .i64 (-1))), none⟩])
  (.ret)))
def rs74 : List RV := [.t 4]
theorem fn74 : FnIR Try.prog 74 19 ir74 rs74 := ⟨Try.f74, (Try.f74.body).getD .skip, Try.func74, by kernel_rfl, by kernel_rfl, by kernel_rfl, by kernel_rfl, by kernel_rfl⟩
end Go.Proofs.Ytjnencdmejhmjaa.Eng
