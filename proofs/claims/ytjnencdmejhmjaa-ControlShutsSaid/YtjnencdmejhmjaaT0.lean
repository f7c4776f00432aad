/- The code of the functions that the claim reaches, as the engine reads it: each is the given one (fnK). -/
import Derived.Test.YtjnencdmejhmjaaProg
import Derived.Test.YtjnencdmejhmjaaEB
namespace Go.Proofs.Ytjnencdmejhmjaa.Eng
open Go
def ir3_l0 : IR :=
  .loop (.seq (.seq (.ins [
    ⟨some 56, .mov (.t 11), none⟩,
    ⟨some 57, .mov (.t 8), none⟩,
    ⟨some 58, .mov (.t 9), none⟩,
    ⟨some 59, .bin .add (.t 57) (.t 58), none⟩,
    ⟨some 60, .bin .lss (.t 56) (.t 59), none⟩])
  (.cond (.t 60)
    (.skip)
    (.exit 0)))
  (.seq (.block 1 (.ins [
      ⟨some 63, .mov (.t 10), none⟩,
      ⟨some 64, .mov (.t 11), none⟩,
      ⟨some 65, .bsl 1 (.int .i64 0) 1 [(0, .t 64)], none⟩,
      ⟨some 66, .app 1 8 (.t 63) (.t 65), none⟩,
      ⟨some 10, .asg (.t 66), none⟩]))
  (.ins [
    ⟨some 61, .mov (.t 11), none⟩,
    ⟨some 62, .bin .add (.t 61) (.c (.int .i64 1)), none⟩,
    ⟨some 11, .asg (.t 62), none⟩])))
/-- padlock/padlocklaw08.ControlSilence -/
def ir3 : IR :=
  .seq (.ins [
    ⟨some 3, .box (.t 0), none⟩,
    ⟨some 5, .box (.t 2), none⟩,
    ⟨some 6, .asg (.c (.bool false)), none⟩])
  (.seq (.seq (.ins [
    ⟨some 15, .load (some 4) (.t 3), none⟩,
    ⟨some 16, .call 15 [.t 15], none⟩,
    ⟨some 17, .bin .neq (.t 16) (.c (.int .i64 0)), none⟩,
    ⟨some 18, .mov (.t 17), none⟩,
    ⟨some 19, .faddr 1 (.t 3), some (18, false)⟩,
    ⟨some 20, .load none (.t 19), some (18, false)⟩,
    ⟨some 21, .len (.t 20), some (18, false)⟩,
    ⟨some 22, .bin .eql (.t 21) (.c (.int .i64 0)), some (18, false)⟩,
    ⟨some 23, .pick (.t 18) (.c (.bool true)) (.t 22), none⟩,
    ⟨some 24, .mov (.t 23), none⟩,
    ⟨some 25, .mov (.t 1), some (24, false)⟩,
    ⟨some 26, .len (.t 25), some (24, false)⟩,
    ⟨some 27, .bin .gtr (.t 26) (.c (.int .i64 150)), some (24, false)⟩,
    ⟨some 28, .pick (.t 24) (.c (.bool true)) (.t 27), none⟩])
  (.cond (.t 28)
    (.seq (.ins [
      ⟨some 29, .call 16 [], none⟩,
      ⟨some 6, .asg (.t 29), none⟩])
    (.ret))
    (.skip)))
  (.seq (.drawn [
    ⟨some 30, .faddr 1 (.t 5), none⟩,
    ⟨some 31, .load none (.t 30), none⟩,
    ⟨some 32, .faddr 1 (.t 3), none⟩,
    ⟨some 33, .load none (.t 32), none⟩,
    ⟨some 34, .len (.t 33), none⟩,
    ⟨some 35, .bin .rem (.t 31) (.t 34), none⟩,
    ⟨some 36, .faddr 1 (.t 3), none⟩,
    ⟨some 37, .load none (.t 36), none⟩,
    ⟨some 38, .len (.t 37), none⟩,
    ⟨some 39, .bin .add (.t 35) (.t 38), none⟩,
    ⟨some 40, .faddr 1 (.t 3), none⟩,
    ⟨some 41, .load none (.t 40), none⟩,
    ⟨some 42, .len (.t 41), none⟩,
    ⟨some 43, .bin .rem (.t 39) (.t 42), none⟩,
    ⟨some 7, .asg (.t 43), none⟩]
  (.still 0 (.still 1 (.still 2 (.still 3 (.still 4 (.still 5 (.still 6 (.still 7 (.still 8 (.still 9 (.still 10 (.still 11 (.still 12 (.still 13 (.eff 14 [] (.done) (.none)))))))))))))))))
  (.seq (.ins [
    ⟨some 44, .faddr 0 (.t 5), none⟩,
    ⟨some 45, .load none (.t 44), none⟩,
    ⟨some 46, .bin .rem (.t 45) (.c (.int .i64 10)), none⟩,
    ⟨some 47, .bin .add (.t 46) (.c (.int .i64 10)), none⟩,
    ⟨some 48, .bin .rem (.t 47) (.c (.int .i64 10)), none⟩,
    ⟨some 8, .asg (.t 48), none⟩])
  (.seq (.ins [
    ⟨some 49, .faddr 1 (.t 3), none⟩,
    ⟨some 50, .load none (.t 49), none⟩,
    ⟨some 51, .mov (.t 7), none⟩,
    ⟨some 52, .iaddr 2 (.t 50) (.t 51), none⟩,
    ⟨some 53, .faddr 0 (.t 52), none⟩,
    ⟨some 54, .load none (.t 53), none⟩,
    ⟨some 9, .asg (.t 54), none⟩])
  (.seq (.ins [
    ⟨some 10, .asg (.c (.slice none 0 0)), none⟩])
  (.seq (.seq (.ins [
    ⟨some 55, .mov (.t 8), none⟩,
    ⟨some 11, .asg (.t 55), none⟩])
  (.block 0 (ir3_l0)))
  (.seq (.ins [
    ⟨some 67, .mov (.t 8), none⟩,
    ⟨some 68, .mov (.t 9), none⟩,
    ⟨some 69, .bin .add (.t 67) (.t 68), none⟩,
    ⟨some 12, .asg (.t 69), none⟩])
  (.seq (.drawn [
    ⟨some 71, .load (some 4) (.t 3), none⟩,
    ⟨some 72, .mov (.t 12), none⟩,
    ⟨some 73, .mov (.t 1), none⟩,
    ⟨some 74, .mov (.t 7), none⟩,
    ⟨some 75, .mov (.t 10), none⟩,
    ⟨some 76, .call 18 [.t 73, .t 74, .t 75], none⟩,
    ⟨some 77, .call 17 [.t 71, .t 72, .t 76], none⟩,
    ⟨some 70, .mov (.t 77), none⟩,
    ⟨some 78, .ext 0 (.t 70), none⟩,
    ⟨some 79, .ext 1 (.t 70), none⟩,
    ⟨some 13, .asg (.t 78), none⟩,
    ⟨some 14, .asg (.t 79), none⟩]
  (.still 0 (.still 1 (.still 2 (.still 3 (.still 4 (.eff 5 [1, 0] (.eff 6 [] (.still 7 (.still 8 (.still 9 (.eff 10 [9] (.eff 11 [] (.done) (.none)) (.none))))) (.none)) (.none))))))))
  (.seq (.seq (.ins [
    ⟨some 80, .mov (.t 14), none⟩,
    ⟨some 81, .bin .neq (.t 80) (.c (.int .i64 0)), none⟩])
  (.cond (.t 81)
    (.seq (.ins [
      ⟨some 82, .call 16 [], none⟩,
      ⟨some 6, .asg (.t 82), none⟩])
    (.ret))
    (.skip)))
  (.seq (.ins [
    ⟨some 83, .mov (.t 13), none⟩,
    ⟨some 84, .len (.t 83), none⟩,
    ⟨some 85, .mov (.t 12), none⟩,
    ⟨some 86, .bin .eql (.t 84) (.t 85), none⟩,
    ⟨some 87, .mov (.t 86), none⟩,
    ⟨some 88, .mov (.t 13), some (87, true)⟩,
    ⟨some 89, .mov (.t 12), some (87, true)⟩,
    ⟨some 90, .bin .sub (.t 89) (.c (.int .i64 1)), some (87, true)⟩,
    ⟨some 91, .iaddr 1 (.t 88) (.t 90), some (87, true)⟩,
    ⟨some 92, .load none (.t 91), some (87, true)⟩,
    ⟨some 93, .mov (.t 7), some (87, true)⟩,
    ⟨some 94, .call 19 [.t 92, .t 93], some (87, true)⟩,
    ⟨some 95, .un .not (.t 94), some (87, true)⟩,
    ⟨some 96, .pick (.t 87) (.t 95) (.c (.bool false)), none⟩,
    ⟨some 97, .mov (.t 96), none⟩,
    ⟨some 98, .call 16 [], some (97, true)⟩,
    ⟨some 99, .pick (.t 97) (.t 98) (.c (.bool false)), none⟩,
    ⟨some 6, .asg (.t 99), none⟩])
  (.ret)))))))))))
def rs3 : List RV := [.t 6]
theorem fn3 : FnIR Try.prog 3 100 ir3 rs3 := ⟨Try.f3, (Try.f3.body).getD .skip, Try.func3, by kernel_rfl, by kernel_rfl, by kernel_rfl, by kernel_rfl, by kernel_rfl⟩
def ir4_l2 : IR :=
  .loop (.seq (.seq (.ins [
    ⟨some 127, .mov (.t 16), none⟩,
    ⟨some 128, .mov (.t 7), none⟩,
    ⟨some 129, .bin .lss (.t 127) (.t 128), none⟩])
  (.cond (.t 129)
    (.skip)
    (.exit 4)))
  (.seq (.block 5 (.ins [
      ⟨some 132, .mov (.t 15), none⟩,
      ⟨some 133, .mov (.t 16), none⟩,
      ⟨some 134, .mov (.t 11), none⟩,
      ⟨some 135, .build [.int .i64 0, .int .i64 0, .int .i64 0, .int .i64 0] [(0, 1, .t 133), (1, 1, .c (.int .i64 3)), (2, 1, .t 134)], none⟩,
      ⟨some 136, .bsl 4 (.agg #[.int .i64 0, .int .i64 0, .int .i64 0, .int .i64 0]) 1 [(0, .t 135)], none⟩,
      ⟨some 137, .app 4 32 (.t 132) (.t 136), none⟩,
      ⟨some 15, .asg (.t 137), none⟩]))
  (.ins [
    ⟨some 130, .mov (.t 16), none⟩,
    ⟨some 131, .bin .add (.t 130) (.c (.int .i64 1)), none⟩,
    ⟨some 16, .asg (.t 131), none⟩])))
def ir4_l1 : IR :=
  .loop (.seq (.seq (.ins [
    ⟨some 66, .mov (.t 12), none⟩,
    ⟨some 67, .faddr 1 (.t 3), none⟩,
    ⟨some 68, .load none (.t 67), none⟩,
    ⟨some 69, .len (.t 68), none⟩,
    ⟨some 70, .bin .lss (.t 66) (.t 69), none⟩])
  (.cond (.t 70)
    (.skip)
    (.exit 2)))
  (.seq (.block 3 (.seq (.drawn [
      ⟨some 73, .faddr 1 (.t 3), none⟩,
      ⟨some 74, .load none (.t 73), none⟩,
      ⟨some 75, .mov (.t 12), none⟩,
      ⟨some 76, .iaddr 2 (.t 74) (.t 75), none⟩,
      ⟨some 77, .faddr 1 (.t 76), none⟩,
      ⟨some 78, .load none (.t 77), none⟩,
      ⟨some 79, .len (.t 78), none⟩,
      ⟨some 80, .bin .gtr (.t 79) (.c (.int .i64 0)), none⟩,
      ⟨some 81, .mov (.t 80), none⟩,
      ⟨some 82, .mov (.t 11), some (81, true)⟩,
      ⟨some 83, .bin .lss (.t 82) (.c (.int .i64 0)), some (81, true)⟩,
      ⟨some 84, .mov (.t 83), some (81, true)⟩,
      ⟨some 85, .faddr 1 (.t 3), some (84, false)⟩,
      ⟨some 86, .load none (.t 85), some (84, false)⟩,
      ⟨some 87, .mov (.t 12), some (84, false)⟩,
      ⟨some 88, .iaddr 2 (.t 86) (.t 87), some (84, false)⟩,
      ⟨some 89, .faddr 0 (.t 88), some (84, false)⟩,
      ⟨some 90, .load none (.t 89), some (84, false)⟩,
      ⟨some 91, .faddr 1 (.t 3), some (84, false)⟩,
      ⟨some 92, .load none (.t 91), some (84, false)⟩,
      ⟨some 93, .mov (.t 11), some (84, false)⟩,
      ⟨some 94, .iaddr 2 (.t 92) (.t 93), some (84, false)⟩,
      ⟨some 95, .faddr 0 (.t 94), some (84, false)⟩,
      ⟨some 96, .load none (.t 95), some (84, false)⟩,
      ⟨some 97, .bin .gtr (.t 90) (.t 96), some (84, false)⟩,
      ⟨some 98, .pick (.t 84) (.c (.bool true)) (.t 97), some (81, true)⟩,
      ⟨some 99, .pick (.t 81) (.t 98) (.c (.bool false)), none⟩]
    (.still 0 (.still 1 (.still 2 (.still 3 (.still 4 (.still 5 (.still 6 (.still 7 (.still 8 (.still 9 (.still 10 (.still 11 (.still 12 (.still 13 (.still 14 (.still 15 (.still 16 (.still 17 (.still 18 (.still 19 (.still 20 (.still 21 (.still 22 (.still 23 (.still 24 (.still 25 (.still 26 (.done)))))))))))))))))))))))))))))
    (.cond (.t 99)
      (.ins [
        ⟨some 100, .mov (.t 12), none⟩,
        ⟨some 11, .asg (.t 100), none⟩])
      (.skip))))
  (.ins [
    ⟨some 71, .mov (.t 12), none⟩,
    ⟨some 72, .bin .add (.t 71) (.c (.int .i64 1)), none⟩,
    ⟨some 12, .asg (.t 72), none⟩])))
def ir4_l0 : IR :=
  .loop (.seq (.seq (.ins [
    ⟨some 35, .mov (.t 8), none⟩,
    ⟨some 36, .bin .eql (.t 35) (.c (.int .i64 0)), none⟩,
    ⟨some 37, .mov (.t 36), none⟩,
    ⟨some 38, .mov (.t 10), some (37, true)⟩,
    ⟨some 39, .mov (.t 9), some (37, true)⟩,
    ⟨some 40, .len (.t 39), some (37, true)⟩,
    ⟨some 41, .bin .lss (.t 38) (.t 40), some (37, true)⟩,
    ⟨some 42, .pick (.t 37) (.t 41) (.c (.bool false)), none⟩])
  (.cond (.t 42)
    (.skip)
    (.exit 0)))
  (.seq (.block 1 (.seq (.ins [
      ⟨some 45, .mov (.t 10), none⟩,
      ⟨some 46, .mov (.t 7), none⟩,
      ⟨some 47, .bin .geq (.t 45) (.t 46), none⟩,
      ⟨some 48, .mov (.t 47), none⟩,
      ⟨some 49, .mov (.t 9), some (48, true)⟩,
      ⟨some 50, .mov (.t 10), some (48, true)⟩,
      ⟨some 51, .iaddr 1 (.t 49) (.t 50), some (48, true)⟩,
      ⟨some 52, .load none (.t 51), some (48, true)⟩,
      ⟨some 53, .bin .neq (.t 52) (.c (.int .i64 0)), some (48, true)⟩,
      ⟨some 54, .pick (.t 48) (.t 53) (.c (.bool false)), none⟩])
    (.cond (.t 54)
      (.seq (.ins [
        ⟨some 6, .asg (.c (.bool false)), none⟩])
      (.ret))
      (.skip))))
  (.ins [
    ⟨some 43, .mov (.t 10), none⟩,
    ⟨some 44, .bin .add (.t 43) (.c (.int .i64 1)), none⟩,
    ⟨some 10, .asg (.t 44), none⟩])))
/-- padlock/padlocklaw08.ControlTime -/
def ir4 : IR :=
  .seq (.ins [
    ⟨some 3, .box (.t 0), none⟩,
    ⟨some 6, .asg (.c (.bool false)), none⟩])
  (.seq (.seq (.ins [
    ⟨some 17, .mov (.t 1), none⟩,
    ⟨some 18, .call 20 [.t 17], none⟩])
  (.cond (.t 18)
    (.seq (.ins [
      ⟨some 19, .call 16 [], none⟩,
      ⟨some 6, .asg (.t 19), none⟩])
    (.ret))
    (.skip)))
  (.seq (.ins [
    ⟨some 21, .load (some 4) (.t 3), none⟩,
    ⟨some 22, .call 21 [.t 21], none⟩,
    ⟨some 20, .mov (.t 22), none⟩,
    ⟨some 23, .ext 0 (.t 20), none⟩,
    ⟨some 24, .ext 1 (.t 20), none⟩,
    ⟨some 7, .asg (.t 23), none⟩,
    ⟨some 8, .asg (.t 24), none⟩])
  (.seq (.seq (.ins [
    ⟨some 25, .mov (.t 8), none⟩,
    ⟨some 26, .bin .neq (.t 25) (.c (.int .i64 0)), none⟩])
  (.cond (.t 26)
    (.seq (.ins [
      ⟨some 27, .call 16 [], none⟩,
      ⟨some 6, .asg (.t 27), none⟩])
    (.ret))
    (.skip)))
  (.seq (.ins [
    ⟨some 29, .load (some 4) (.t 3), none⟩,
    ⟨some 30, .mov (.t 1), none⟩,
    ⟨some 31, .mov (.t 2), none⟩,
    ⟨some 32, .call 17 [.t 29, .t 30, .t 31], none⟩,
    ⟨some 28, .mov (.t 32), none⟩,
    ⟨some 33, .ext 0 (.t 28), none⟩,
    ⟨some 34, .ext 1 (.t 28), none⟩,
    ⟨some 9, .asg (.t 33), none⟩,
    ⟨some 8, .asg (.t 34), none⟩])
  (.seq (.seq (.ins [
    ⟨some 10, .asg (.c (.int .i64 0)), none⟩])
  (.block 0 (ir4_l0)))
  (.seq (.seq (.ins [
    ⟨some 55, .mov (.t 7), none⟩,
    ⟨some 56, .bin .leq (.t 55) (.c (.int .i64 0)), none⟩,
    ⟨some 57, .mov (.t 56), none⟩,
    ⟨some 58, .mov (.t 7), some (57, false)⟩,
    ⟨some 59, .bin .gtr (.t 58) (.c (.int .i64 60)), some (57, false)⟩,
    ⟨some 60, .pick (.t 57) (.c (.bool true)) (.t 59), none⟩])
  (.cond (.t 60)
    (.seq (.ins [
      ⟨some 61, .mov (.t 7), none⟩,
      ⟨some 62, .bin .geq (.t 61) (.c (.int .i64 0)), none⟩,
      ⟨some 63, .mov (.t 62), none⟩,
      ⟨some 64, .call 16 [], some (63, true)⟩,
      ⟨some 65, .pick (.t 63) (.t 64) (.c (.bool false)), none⟩,
      ⟨some 6, .asg (.t 65), none⟩])
    (.ret))
    (.skip)))
  (.seq (.ins [
    ⟨some 11, .asg (.c (.int .i64 (-1))), none⟩])
  (.seq (.seq (.ins [
    ⟨some 12, .asg (.c (.int .i64 0)), none⟩])
  (.block 2 (ir4_l1)))
  (.seq (.seq (.ins [
    ⟨some 101, .mov (.t 11), none⟩,
    ⟨some 102, .bin .lss (.t 101) (.c (.int .i64 0)), none⟩])
  (.cond (.t 102)
    (.seq (.ins [
      ⟨some 6, .asg (.c (.bool false)), none⟩])
    (.ret))
    (.skip)))
  (.seq (.ins [
    ⟨some 103, .faddr 1 (.t 3), none⟩,
    ⟨some 104, .load none (.t 103), none⟩,
    ⟨some 105, .mov (.t 11), none⟩,
    ⟨some 106, .iaddr 2 (.t 104) (.t 105), none⟩,
    ⟨some 107, .faddr 1 (.t 106), none⟩,
    ⟨some 108, .load none (.t 107), none⟩,
    ⟨some 109, .iaddr 3 (.t 108) (.c (.int .i64 0)), none⟩,
    ⟨some 110, .load (some 3) (.t 109), none⟩,
    ⟨some 13, .alloc (.agg #[.int .i64 0, .int .i64 0, .bool false]), none⟩,
    ⟨none, .store 3 (.t 13) (.t 110), none⟩])
  (.seq (.ins [
    ⟨some 111, .faddr 1 (.t 13), none⟩,
    ⟨some 112, .load none (.t 111), none⟩,
    ⟨some 14, .asg (.t 112), none⟩])
  (.seq (.seq (.ins [
    ⟨some 113, .faddr 2 (.t 13), none⟩,
    ⟨some 114, .load none (.t 113), none⟩,
    ⟨some 115, .un .not (.t 114), none⟩])
  (.cond (.t 115)
    (.ins [
      ⟨some 116, .faddr 1 (.t 13), none⟩,
      ⟨some 117, .load none (.t 116), none⟩,
      ⟨some 118, .bin .add (.t 117) (.c (.int .i64 1)), none⟩,
      ⟨some 119, .bin .rem (.t 118) (.c (.int .i64 10)), none⟩,
      ⟨some 14, .asg (.t 119), none⟩])
    (.skip)))
  (.seq (.ins [
    ⟨some 120, .faddr 0 (.t 13), none⟩,
    ⟨some 121, .load none (.t 120), none⟩,
    ⟨some 122, .mov (.t 14), none⟩,
    ⟨some 123, .build [.int .i64 0, .int .i64 0, .int .i64 0, .int .i64 0] [(1, 1, .c (.int .i64 1)), (2, 1, .t 121), (3, 1, .t 122)], none⟩,
    ⟨some 124, .bsl 4 (.agg #[.int .i64 0, .int .i64 0, .int .i64 0, .int .i64 0]) 1 [(0, .t 123)], none⟩,
    ⟨some 15, .asg (.t 124), none⟩])
  (.seq (.seq (.ins [
    ⟨some 125, .faddr 3 (.t 3), none⟩,
    ⟨some 126, .load none (.t 125), none⟩,
    ⟨some 16, .asg (.t 126), none⟩])
  (.block 4 (ir4_l2)))
  (.seq (.ins [
    ⟨some 139, .load (some 4) (.t 3), none⟩,
    ⟨some 140, .mov (.t 7), none⟩,
    ⟨some 141, .mov (.t 15), none⟩,
    ⟨some 142, .call 17 [.t 139, .t 140, .t 141], none⟩,
    ⟨some 138, .mov (.t 142), none⟩,
    ⟨some 143, .ext 0 (.t 138), none⟩,
    ⟨some 144, .ext 1 (.t 138), none⟩,
    ⟨some 9, .asg (.t 143), none⟩,
    ⟨some 8, .asg (.t 144), none⟩])
  (.seq (.ins [
    ⟨some 145, .mov (.t 8), none⟩,
    ⟨some 146, .bin .eql (.t 145) (.c (.int .i64 0)), none⟩,
    ⟨some 147, .mov (.t 146), none⟩,
    ⟨some 148, .mov (.t 9), some (147, true)⟩,
    ⟨some 149, .len (.t 148), some (147, true)⟩,
    ⟨some 150, .mov (.t 7), some (147, true)⟩,
    ⟨some 151, .bin .eql (.t 149) (.t 150), some (147, true)⟩,
    ⟨some 152, .pick (.t 147) (.t 151) (.c (.bool false)), none⟩,
    ⟨some 153, .mov (.t 152), none⟩,
    ⟨some 154, .mov (.t 9), some (153, true)⟩,
    ⟨some 155, .mov (.t 7), some (153, true)⟩,
    ⟨some 156, .bin .sub (.t 155) (.c (.int .i64 1)), some (153, true)⟩,
    ⟨some 157, .iaddr 1 (.t 154) (.t 156), some (153, true)⟩,
    ⟨some 158, .load none (.t 157), some (153, true)⟩,
    ⟨some 159, .mov (.t 11), some (153, true)⟩,
    ⟨some 160, .call 19 [.t 158, .t 159], some (153, true)⟩,
    ⟨some 161, .pick (.t 153) (.t 160) (.c (.bool false)), none⟩,
    ⟨some 162, .mov (.t 161), none⟩,
    ⟨some 163, .call 16 [], some (162, true)⟩,
    ⟨some 164, .pick (.t 162) (.t 163) (.c (.bool false)), none⟩,
    ⟨some 6, .asg (.t 164), none⟩])
  (.ret)))))))))))))))))
def rs4 : List RV := [.t 6]
theorem fn4 : FnIR Try.prog 4 165 ir4 rs4 := ⟨Try.f4, (Try.f4.body).getD .skip, Try.func4, by kernel_rfl, by kernel_rfl, by kernel_rfl, by kernel_rfl, by kernel_rfl⟩
def ir15_l1 : IR :=
  .loop (.seq (.seq (.ins [
    ⟨some 50, .mov (.t 5), none⟩,
    ⟨some 51, .faddr 1 (.t 4), none⟩,
    ⟨some 52, .load none (.t 51), none⟩,
    ⟨some 53, .len (.t 52), none⟩,
    ⟨some 54, .bin .lss (.t 50) (.t 53), none⟩])
  (.cond (.t 54)
    (.skip)
    (.exit 2)))
  (.seq (.block 3 (.seq (.drawn [
      ⟨some 57, .faddr 1 (.t 4), none⟩,
      ⟨some 58, .load none (.t 57), none⟩,
      ⟨some 59, .mov (.t 5), none⟩,
      ⟨some 60, .iaddr 3 (.t 58) (.t 59), none⟩,
      ⟨some 61, .faddr 0 (.t 60), none⟩,
      ⟨some 62, .load none (.t 61), none⟩,
      ⟨some 63, .faddr 0 (.t 1), none⟩,
      ⟨some 64, .load none (.t 63), none⟩,
      ⟨some 65, .bin .sub (.t 64) (.c (.int .i64 1)), none⟩,
      ⟨some 66, .call 43 [.t 62, .c (.int .i64 0), .t 65], none⟩,
      ⟨some 67, .un .not (.t 66), none⟩,
      ⟨some 68, .mov (.t 67), none⟩,
      ⟨some 69, .faddr 1 (.t 4), some (68, false)⟩,
      ⟨some 70, .load none (.t 69), some (68, false)⟩,
      ⟨some 71, .mov (.t 5), some (68, false)⟩,
      ⟨some 72, .iaddr 3 (.t 70) (.t 71), some (68, false)⟩,
      ⟨some 73, .faddr 1 (.t 72), some (68, false)⟩,
      ⟨some 74, .load none (.t 73), some (68, false)⟩,
      ⟨some 75, .call 43 [.t 74, .c (.int .i64 0), .c (.int .i64 9)], some (68, false)⟩,
      ⟨some 76, .un .not (.t 75), some (68, false)⟩,
      ⟨some 77, .pick (.t 68) (.c (.bool true)) (.t 76), none⟩]
    (.still 0 (.still 1 (.still 2 (.still 3 (.still 4 (.still 5 (.still 6 (.still 7 (.still 8 (.eff 9 [] (.still 10 (.still 11 (.still 12 (.still 13 (.still 14 (.still 15 (.still 16 (.still 17 (.eff 18 [] (.still 19 (.still 20 (.done))) (.none)))))))))) (.none))))))))))))
    (.cond (.t 77)
      (.seq (.ins [
        ⟨some 2, .asg (.c (.int .i64 80)), none⟩])
      (.ret))
      (.skip))))
  (.ins [
    ⟨some 55, .mov (.t 5), none⟩,
    ⟨some 56, .bin .add (.t 55) (.c (.int .i64 1)), none⟩,
    ⟨some 5, .asg (.t 56), none⟩])))
def ir15_l0 : IR :=
  .loop (.seq (.seq (.ins [
    ⟨some 28, .mov (.t 3), none⟩,
    ⟨some 29, .faddr 1 (.t 1), none⟩,
    ⟨some 30, .load none (.t 29), none⟩,
    ⟨some 31, .len (.t 30), none⟩,
    ⟨some 32, .bin .lss (.t 28) (.t 31), none⟩])
  (.cond (.t 32)
    (.skip)
    (.exit 0)))
  (.seq (.block 1 (.seq (.ins [
      ⟨some 35, .faddr 1 (.t 1), none⟩,
      ⟨some 36, .load none (.t 35), none⟩,
      ⟨some 37, .mov (.t 3), none⟩,
      ⟨some 38, .iaddr 2 (.t 36) (.t 37), none⟩,
      ⟨some 39, .load (some 2) (.t 38), none⟩,
      ⟨some 4, .alloc (.agg #[.int .i64 0, .slice none 0 0]), none⟩,
      ⟨none, .store 2 (.t 4) (.t 39), none⟩])
    (.seq (.seq (.ins [
      ⟨some 40, .faddr 0 (.t 4), none⟩,
      ⟨some 41, .load none (.t 40), none⟩,
      ⟨some 42, .call 43 [.t 41, .c (.int .i64 1), .c (.int .i64 50)], none⟩,
      ⟨some 43, .un .not (.t 42), none⟩,
      ⟨some 44, .mov (.t 43), none⟩,
      ⟨some 45, .faddr 1 (.t 4), some (44, false)⟩,
      ⟨some 46, .load none (.t 45), some (44, false)⟩,
      ⟨some 47, .len (.t 46), some (44, false)⟩,
      ⟨some 48, .bin .gtr (.t 47) (.c (.int .i64 8)), some (44, false)⟩,
      ⟨some 49, .pick (.t 44) (.c (.bool true)) (.t 48), none⟩])
    (.cond (.t 49)
      (.seq (.ins [
        ⟨some 2, .asg (.c (.int .i64 80)), none⟩])
      (.ret))
      (.skip)))
    (.seq (.ins [
      ⟨some 5, .asg (.c (.int .i64 0)), none⟩])
    (.block 2 (ir15_l1))))))
  (.ins [
    ⟨some 33, .mov (.t 3), none⟩,
    ⟨some 34, .bin .add (.t 33) (.c (.int .i64 1)), none⟩,
    ⟨some 3, .asg (.t 34), none⟩])))
/-- padlock/padlockref08.Check -/
def ir15 : IR :=
  .seq (.ins [
    ⟨some 1, .box (.t 0), none⟩,
    ⟨some 2, .asg (.c (.int .i64 0)), none⟩])
  (.seq (.seq (.ins [
    ⟨some 6, .faddr 0 (.t 1), none⟩,
    ⟨some 7, .load none (.t 6), none⟩,
    ⟨some 8, .call 43 [.t 7, .c (.int .i64 0), .c (.int .i64 12)], none⟩,
    ⟨some 9, .un .not (.t 8), none⟩,
    ⟨some 10, .mov (.t 9), none⟩,
    ⟨some 11, .faddr 1 (.t 1), some (10, false)⟩,
    ⟨some 12, .load none (.t 11), some (10, false)⟩,
    ⟨some 13, .len (.t 12), some (10, false)⟩,
    ⟨some 14, .bin .gtr (.t 13) (.c (.int .i64 8)), some (10, false)⟩,
    ⟨some 15, .pick (.t 10) (.c (.bool true)) (.t 14), none⟩,
    ⟨some 16, .mov (.t 15), none⟩,
    ⟨some 17, .faddr 2 (.t 1), some (16, false)⟩,
    ⟨some 18, .load none (.t 17), some (16, false)⟩,
    ⟨some 19, .call 43 [.t 18, .c (.int .i64 1), .c (.int .i64 50)], some (16, false)⟩,
    ⟨some 20, .un .not (.t 19), some (16, false)⟩,
    ⟨some 21, .pick (.t 16) (.c (.bool true)) (.t 20), none⟩,
    ⟨some 22, .mov (.t 21), none⟩,
    ⟨some 23, .faddr 3 (.t 1), some (22, false)⟩,
    ⟨some 24, .load none (.t 23), some (22, false)⟩,
    ⟨some 25, .call 43 [.t 24, .c (.int .i64 1), .c (.int .i64 1000)], some (22, false)⟩,
    ⟨some 26, .un .not (.t 25), some (22, false)⟩,
    ⟨some 27, .pick (.t 22) (.c (.bool true)) (.t 26), none⟩])
  (.cond (.t 27)
    (.seq (.ins [
      ⟨some 2, .asg (.c (.int .i64 80)), none⟩])
    (.ret))
    (.skip)))
  (.seq (.seq (.ins [
    ⟨some 3, .asg (.c (.int .i64 0)), none⟩])
  (.block 0 (ir15_l0)))
  (.seq (.ins [
    ⟨some 2, .asg (.c (.int .i64 0)), none⟩])
  (.ret))))
def rs15 : List RV := [.t 2]
theorem fn15 : FnIR Try.prog 15 78 ir15 rs15 := ⟨Try.f15, (Try.f15.body).getD .skip, Try.func15, by kernel_rfl, by kernel_rfl, by kernel_rfl, by kernel_rfl, by kernel_rfl⟩
/-- padlock/padlocklaw08.works -/
def ir16 : IR :=
  .seq (.ins [
    ⟨some 0, .asg (.c (.bool false)), none⟩])
  (.seq (.ins [
    ⟨some 6, .call 44 [], none⟩,
    ⟨some 7, .build [.int .i64 0, .int .i64 0, .int .i64 0, .int .i64 0] [(0, 1, .c (.int .i64 2)), (1, 1, .c (.int .i64 1)), (3, 1, .c (.int .i64 1))], none⟩,
    ⟨some 8, .bsl 4 (.agg #[.int .i64 0, .int .i64 0, .int .i64 0, .int .i64 0]) 1 [(0, .t 7)], none⟩,
    ⟨some 9, .call 17 [.t 6, .c (.int .i64 4), .t 8], none⟩,
    ⟨some 5, .mov (.t 9), none⟩,
    ⟨some 10, .ext 0 (.t 5), none⟩,
    ⟨some 11, .ext 1 (.t 5), none⟩,
    ⟨some 1, .asg (.t 10), none⟩,
    ⟨some 2, .asg (.t 11), none⟩])
  (.seq (.ins [
    ⟨some 13, .call 44 [], none⟩,
    ⟨some 14, .call 21 [.t 13], none⟩,
    ⟨some 12, .mov (.t 14), none⟩,
    ⟨some 15, .ext 0 (.t 12), none⟩,
    ⟨some 16, .ext 1 (.t 12), none⟩,
    ⟨some 3, .asg (.t 15), none⟩,
    ⟨some 4, .asg (.t 16), none⟩])
  (.seq (.ins [
    ⟨some 17, .mov (.t 2), none⟩,
    ⟨some 18, .bin .eql (.t 17) (.c (.int .i64 0)), none⟩,
    ⟨some 19, .mov (.t 18), none⟩,
    ⟨some 20, .mov (.t 4), some (19, true)⟩,
    ⟨some 21, .bin .eql (.t 20) (.c (.int .i64 0)), some (19, true)⟩,
    ⟨some 22, .pick (.t 19) (.t 21) (.c (.bool false)), none⟩,
    ⟨some 23, .mov (.t 22), none⟩,
    ⟨some 24, .mov (.t 1), some (23, true)⟩,
    ⟨some 25, .bsl 1 (.int .i64 0) 4 [(0, .c (.int .i64 1)), (1, .c (.int .i64 1)), (2, .c (.int .i64 0)), (3, .c (.int .i64 0))], some (23, true)⟩,
    ⟨some 26, .call 29 [.t 24, .t 25], some (23, true)⟩,
    ⟨some 27, .pick (.t 23) (.t 26) (.c (.bool false)), none⟩,
    ⟨some 28, .mov (.t 27), none⟩,
    ⟨some 29, .mov (.t 3), some (28, true)⟩,
    ⟨some 30, .bin .eql (.t 29) (.c (.int .i64 10)), some (28, true)⟩,
    ⟨some 31, .pick (.t 28) (.t 30) (.c (.bool false)), none⟩,
    ⟨some 0, .asg (.t 31), none⟩])
  (.ret))))
def rs16 : List RV := [.t 0]
theorem fn16 : FnIR Try.prog 16 32 ir16 rs16 := ⟨Try.f16, (Try.f16.body).getD .skip, Try.func16, by kernel_rfl, by kernel_rfl, by kernel_rfl, by kernel_rfl, by kernel_rfl⟩
/-- padlock/control.Play -/
def ir17 : IR :=
  .seq (.ins [
    ⟨some 3, .box (.t 0), none⟩,
    ⟨some 6, .asg (.c (.slice none 0 0)), none⟩,
    ⟨some 7, .asg (.c (.int .i64 0)), none⟩])
  (.seq (.ins [
    ⟨some 11, .load (some 4) (.t 3), none⟩,
    ⟨some 12, .mov (.t 1), none⟩,
    ⟨some 13, .mov (.t 2), none⟩,
    ⟨some 14, .call 45 [.t 11, .t 12, .t 13], none⟩,
    ⟨some 10, .mov (.t 14), none⟩,
    ⟨some 15, .ext 0 (.t 10), none⟩,
    ⟨some 16, .ext 1 (.t 10), none⟩,
    ⟨some 8, .asg (.t 15), none⟩,
    ⟨some 9, .asg (.t 16), none⟩])
  (.seq (.seq (.ins [
    ⟨some 17, .mov (.t 9), none⟩,
    ⟨some 18, .bin .neq (.t 17) (.c (.int .i64 0)), none⟩])
  (.cond (.t 18)
    (.seq (.ins [
      ⟨some 19, .mov (.t 9), none⟩,
      ⟨some 6, .asg (.c (.slice none 0 0)), none⟩,
      ⟨some 7, .asg (.t 19), none⟩])
    (.ret))
    (.skip)))
  (.seq (.ins [
    ⟨some 20, .load (some 4) (.t 3), none⟩,
    ⟨some 21, .mov (.t 8), none⟩,
    ⟨some 22, .call 46 [.t 20, .t 21], none⟩,
    ⟨some 6, .asg (.t 22), none⟩,
    ⟨some 7, .asg (.c (.int .i64 0)), none⟩])
  (.ret))))
def rs17 : List RV := [.t 6, .t 7]
theorem fn17 : FnIR Try.prog 17 23 ir17 rs17 := ⟨Try.f17, (Try.f17.body).getD .skip, Try.func17, by kernel_rfl, by kernel_rfl, by kernel_rfl, by kernel_rfl, by kernel_rfl⟩
def ir18_l0 : IR :=
  .loop (.seq (.seq (.ins [
    ⟨some 11, .mov (.t 8), none⟩,
    ⟨some 12, .mov (.t 2), none⟩,
    ⟨some 13, .len (.t 12), none⟩,
    ⟨some 14, .bin .lss (.t 11) (.t 13), none⟩])
  (.cond (.t 14)
    (.skip)
    (.exit 0)))
  (.seq (.block 1 (.ins [
      ⟨some 17, .mov (.t 7), none⟩,
      ⟨some 18, .mov (.t 2), none⟩,
      ⟨some 19, .mov (.t 8), none⟩,
      ⟨some 20, .iaddr 1 (.t 18) (.t 19), none⟩,
      ⟨some 21, .load none (.t 20), none⟩,
      ⟨some 22, .mov (.t 1), none⟩,
      ⟨some 23, .build [.int .i64 0, .int .i64 0, .int .i64 0, .int .i64 0] [(0, 1, .t 21), (1, 1, .c (.int .i64 3)), (2, 1, .t 22)], none⟩,
      ⟨some 24, .bsl 4 (.agg #[.int .i64 0, .int .i64 0, .int .i64 0, .int .i64 0]) 1 [(0, .t 23)], none⟩,
      ⟨some 25, .app 4 32 (.t 17) (.t 24), none⟩,
      ⟨some 7, .asg (.t 25), none⟩]))
  (.ins [
    ⟨some 15, .mov (.t 8), none⟩,
    ⟨some 16, .bin .add (.t 15) (.c (.int .i64 1)), none⟩,
    ⟨some 8, .asg (.t 16), none⟩])))
/-- padlock/padlockref08.With -/
def ir18 : IR :=
  .seq (.ins [
    ⟨some 6, .asg (.c (.slice none 0 0)), none⟩])
  (.seq (.ins [
    ⟨some 9, .mov (.t 0), none⟩,
    ⟨some 10, .app 4 32 (.c (.slice none 0 0)) (.t 9), none⟩,
    ⟨some 7, .asg (.t 10), none⟩])
  (.seq (.seq (.ins [
    ⟨some 8, .asg (.c (.int .i64 0)), none⟩])
  (.block 0 (ir18_l0)))
  (.seq (.ins [
    ⟨some 26, .mov (.t 7), none⟩,
    ⟨some 6, .asg (.t 26), none⟩])
  (.ret))))
def rs18 : List RV := [.t 6]
theorem fn18 : FnIR Try.prog 18 27 ir18 rs18 := ⟨Try.f18, (Try.f18.body).getD .skip, Try.func18, by kernel_rfl, by kernel_rfl, by kernel_rfl, by kernel_rfl, by kernel_rfl⟩
/-- padlock/padlocklaw08.bit -/
def ir19 : IR :=
  .seq (.ins [
    ⟨some 4, .asg (.c (.bool false)), none⟩])
  (.seq (.ins [
    ⟨some 5, .mov (.t 0), none⟩,
    ⟨some 6, .mov (.t 1), none⟩,
    ⟨some 7, .conv .u64 (.t 6), none⟩,
    ⟨some 8, .bin .shr (.t 5) (.t 7), none⟩,
    ⟨some 9, .bin .and (.t 8) (.c (.int .i64 1)), none⟩,
    ⟨some 10, .bin .eql (.t 9) (.c (.int .i64 1)), none⟩,
    ⟨some 4, .asg (.t 10), none⟩])
  (.ret))
def rs19 : List RV := [.t 4]
theorem fn19 : FnIR Try.prog 19 11 ir19 rs19 := ⟨Try.f19, (Try.f19.body).getD .skip, Try.func19, by kernel_rfl, by kernel_rfl, by kernel_rfl, by kernel_rfl, by kernel_rfl⟩
/-- padlock/padlocklaw08.long -/
def ir20 : IR :=
  .seq (.ins [
    ⟨some 2, .asg (.c (.bool false)), none⟩])
  (.seq (.ins [
    ⟨some 3, .mov (.t 0), none⟩,
    ⟨some 4, .bin .gtr (.t 3) (.c (.int .i64 60)), none⟩,
    ⟨some 5, .mov (.t 4), none⟩,
    ⟨some 6, .mov (.t 0), some (5, true)⟩,
    ⟨some 7, .bin .leq (.t 6) (.c (.int .i64 1000)), some (5, true)⟩,
    ⟨some 8, .pick (.t 5) (.t 7) (.c (.bool false)), none⟩,
    ⟨some 2, .asg (.t 8), none⟩])
  (.ret))
def rs20 : List RV := [.t 2]
theorem fn20 : FnIR Try.prog 20 9 ir20 rs20 := ⟨Try.f20, (Try.f20.body).getD .skip, Try.func20, by kernel_rfl, by kernel_rfl, by kernel_rfl, by kernel_rfl, by kernel_rfl⟩
/-- padlock/control.Frees -/
def ir21 : IR :=
  .seq (.ins [
    ⟨some 1, .box (.t 0), none⟩,
    ⟨some 2, .asg (.c (.int .i64 0)), none⟩,
    ⟨some 3, .asg (.c (.int .i64 0)), none⟩])
  (.seq (.seq (.ins [
    ⟨some 5, .load (some 4) (.t 1), none⟩,
    ⟨some 6, .call 27 [.t 5], none⟩,
    ⟨some 4, .asg (.t 6), none⟩])
  (.seq (.ins [
    ⟨some 7, .mov (.t 4), none⟩,
    ⟨some 8, .bin .neq (.t 7) (.c (.int .i64 0)), none⟩])
  (.cond (.t 8)
    (.seq (.ins [
      ⟨some 9, .mov (.t 4), none⟩,
      ⟨some 2, .asg (.c (.int .i64 0)), none⟩,
      ⟨some 3, .asg (.t 9), none⟩])
    (.ret))
    (.skip))))
  (.seq (.ins [
    ⟨some 10, .load (some 4) (.t 1), none⟩,
    ⟨some 11, .call 47 [.t 10], none⟩,
    ⟨some 2, .asg (.t 11), none⟩,
    ⟨some 3, .asg (.c (.int .i64 0)), none⟩])
  (.ret)))
def rs21 : List RV := [.t 2, .t 3]
theorem fn21 : FnIR Try.prog 21 12 ir21 rs21 := ⟨Try.f21, (Try.f21.body).getD .skip, Try.func21, by kernel_rfl, by kernel_rfl, by kernel_rfl, by kernel_rfl, by kernel_rfl⟩
def ir27_l0 : IR :=
  .loop (.seq (.ins [
    ⟨some 32, .bin .lss (.t 31) (.t 30), none⟩])
  (.seq (.cond (.t 32)
    (.skip)
    (.exit 0))
  (.seq (.block 1 (.seq (.ins [
      ⟨some 33, .iaddr 2 (.t 29) (.t 31), none⟩,
      ⟨some 34, .load (some 2) (.t 33), none⟩,
      ⟨some 4, .alloc (.agg #[.int .i64 0, .slice none 0 0]), none⟩,
      ⟨none, .store 2 (.t 4) (.t 34), none⟩])
    (.seq (.ins [
      ⟨some 35, .mkf 49 [.t 1], none⟩,
      ⟨some 5, .asg (.t 35), none⟩])
    (.seq (.ins [
      ⟨some 36, .faddr 0 (.t 4), none⟩,
      ⟨some 37, .load none (.t 36), none⟩,
      ⟨some 38, .call 48 [.t 37, .c (.int .i64 1), .c (.int .i64 50)], none⟩,
      ⟨some 39, .un .not (.t 38), none⟩,
      ⟨some 40, .mov (.t 39), none⟩,
      ⟨some 41, .faddr 1 (.t 4), some (40, false)⟩,
      ⟨some 42, .load none (.t 41), some (40, false)⟩,
      ⟨some 43, .len (.t 42), some (40, false)⟩,
      ⟨some 44, .bin .gtr (.t 43) (.c (.int .i64 8)), some (40, false)⟩,
      ⟨some 45, .pick (.t 40) (.c (.bool true)) (.t 44), none⟩,
      ⟨some 46, .mov (.t 45), none⟩,
      ⟨some 47, .faddr 1 (.t 4), some (46, false)⟩,
      ⟨some 48, .load none (.t 47), some (46, false)⟩,
      ⟨some 49, .mov (.t 5), some (46, false)⟩,
      ⟨some 50, .call 50 [.t 48, .t 49], some (46, false)⟩,
      ⟨some 51, .pick (.t 46) (.c (.bool true)) (.t 50), none⟩])
    (.cond (.t 51)
      (.seq (.ins [
        ⟨some 2, .asg (.c (.int .i64 80)), none⟩])
      (.ret))
      (.skip))))))
  (.ins [
    ⟨some 52, .bin .add (.t 31) (.c (.int .i64 1)), none⟩,
    ⟨some 31, .mov (.t 52), none⟩]))))
/-- padlock/control.Check -/
def ir27 : IR :=
  .seq (.ins [
    ⟨some 1, .box (.t 0), none⟩,
    ⟨some 2, .asg (.c (.int .i64 0)), none⟩])
  (.seq (.seq (.ins [
    ⟨some 6, .faddr 0 (.t 1), none⟩,
    ⟨some 7, .load none (.t 6), none⟩,
    ⟨some 8, .call 48 [.t 7, .c (.int .i64 0), .c (.int .i64 12)], none⟩,
    ⟨some 9, .un .not (.t 8), none⟩,
    ⟨some 10, .mov (.t 9), none⟩,
    ⟨some 11, .faddr 1 (.t 1), some (10, false)⟩,
    ⟨some 12, .load none (.t 11), some (10, false)⟩,
    ⟨some 13, .len (.t 12), some (10, false)⟩,
    ⟨some 14, .bin .gtr (.t 13) (.c (.int .i64 8)), some (10, false)⟩,
    ⟨some 15, .pick (.t 10) (.c (.bool true)) (.t 14), none⟩,
    ⟨some 16, .mov (.t 15), none⟩,
    ⟨some 17, .faddr 2 (.t 1), some (16, false)⟩,
    ⟨some 18, .load none (.t 17), some (16, false)⟩,
    ⟨some 19, .call 48 [.t 18, .c (.int .i64 1), .c (.int .i64 50)], some (16, false)⟩,
    ⟨some 20, .un .not (.t 19), some (16, false)⟩,
    ⟨some 21, .pick (.t 16) (.c (.bool true)) (.t 20), none⟩,
    ⟨some 22, .mov (.t 21), none⟩,
    ⟨some 23, .faddr 3 (.t 1), some (22, false)⟩,
    ⟨some 24, .load none (.t 23), some (22, false)⟩,
    ⟨some 25, .call 48 [.t 24, .c (.int .i64 1), .c (.int .i64 1000)], some (22, false)⟩,
    ⟨some 26, .un .not (.t 25), some (22, false)⟩,
    ⟨some 27, .pick (.t 22) (.c (.bool true)) (.t 26), none⟩])
  (.cond (.t 27)
    (.seq (.ins [
      ⟨some 2, .asg (.c (.int .i64 80)), none⟩])
    (.ret))
    (.skip)))
  (.seq (.seq (.ins [
    ⟨some 28, .faddr 1 (.t 1), none⟩,
    ⟨some 29, .load none (.t 28), none⟩,
    ⟨some 30, .len (.t 29), none⟩,
    ⟨some 31, .mov (.c (.int .i64 0)), none⟩])
  (.block 0 (ir27_l0)))
  (.seq (.ins [
    ⟨some 2, .asg (.c (.int .i64 0)), none⟩])
  (.ret))))
def rs27 : List RV := [.t 2]
theorem fn27 : FnIR Try.prog 27 53 ir27 rs27 := ⟨Try.f27, (Try.f27.body).getD .skip, Try.func27, by kernel_rfl, by kernel_rfl, by kernel_rfl, by kernel_rfl, by kernel_rfl⟩
def ir29_l0 : IR :=
  .loop (.seq (.seq (.ins [
    ⟨some 11, .mov (.t 5), none⟩,
    ⟨some 12, .mov (.t 0), none⟩,
    ⟨some 13, .len (.t 12), none⟩,
    ⟨some 14, .bin .lss (.t 11) (.t 13), none⟩])
  (.cond (.t 14)
    (.skip)
    (.exit 0)))
  (.seq (.block 1 (.seq (.drawn [
      ⟨some 17, .mov (.t 0), none⟩,
      ⟨some 18, .mov (.t 5), none⟩,
      ⟨some 19, .iaddr 1 (.t 17) (.t 18), none⟩,
      ⟨some 20, .load none (.t 19), none⟩,
      ⟨some 21, .mov (.t 1), none⟩,
      ⟨some 22, .mov (.t 5), none⟩,
      ⟨some 23, .iaddr 1 (.t 21) (.t 22), none⟩,
      ⟨some 24, .load none (.t 23), none⟩,
      ⟨some 25, .bin .neq (.t 20) (.t 24), none⟩]
    (.still 0 (.still 1 (.still 2 (.still 3 (.still 4 (.still 5 (.still 6 (.still 7 (.still 8 (.done)))))))))))
    (.cond (.t 25)
      (.seq (.ins [
        ⟨some 4, .asg (.c (.bool false)), none⟩])
      (.ret))
      (.skip))))
  (.ins [
    ⟨some 15, .mov (.t 5), none⟩,
    ⟨some 16, .bin .add (.t 15) (.c (.int .i64 1)), none⟩,
    ⟨some 5, .asg (.t 16), none⟩])))
/-- padlock/padlocklaw08.sameInts -/
def ir29 : IR :=
  .seq (.ins [
    ⟨some 4, .asg (.c (.bool false)), none⟩])
  (.seq (.seq (.ins [
    ⟨some 6, .mov (.t 0), none⟩,
    ⟨some 7, .len (.t 6), none⟩,
    ⟨some 8, .mov (.t 1), none⟩,
    ⟨some 9, .len (.t 8), none⟩,
    ⟨some 10, .bin .neq (.t 7) (.t 9), none⟩])
  (.cond (.t 10)
    (.seq (.ins [
      ⟨some 4, .asg (.c (.bool false)), none⟩])
    (.ret))
    (.skip)))
  (.seq (.seq (.ins [
    ⟨some 5, .asg (.c (.int .i64 0)), none⟩])
  (.block 0 (ir29_l0)))
  (.seq (.ins [
    ⟨some 4, .asg (.c (.bool true)), none⟩])
  (.ret))))
def rs29 : List RV := [.t 4]
theorem fn29 : FnIR Try.prog 29 26 ir29 rs29 := ⟨Try.f29, (Try.f29.body).getD .skip, Try.func29, by kernel_rfl, by kernel_rfl, by kernel_rfl, by kernel_rfl, by kernel_rfl⟩
/-- padlock/padlockref08.within -/
def ir43 : IR :=
  .seq (.ins [
    ⟨some 6, .asg (.c (.bool false)), none⟩])
  (.seq (.ins [
    ⟨some 7, .mov (.t 0), none⟩,
    ⟨some 8, .mov (.t 1), none⟩,
    ⟨some 9, .bin .geq (.t 7) (.t 8), none⟩,
    ⟨some 10, .mov (.t 9), none⟩,
    ⟨some 11, .mov (.t 0), some (10, true)⟩,
    ⟨some 12, .mov (.t 2), some (10, true)⟩,
    ⟨some 13, .bin .leq (.t 11) (.t 12), some (10, true)⟩,
    ⟨some 14, .pick (.t 10) (.t 13) (.c (.bool false)), none⟩,
    ⟨some 6, .asg (.t 14), none⟩])
  (.ret))
def rs43 : List RV := [.t 6]
theorem fn43 : FnIR Try.prog 43 15 ir43 rs43 := ⟨Try.f43, (Try.f43.body).getD .skip, Try.func43, by kernel_rfl, by kernel_rfl, by kernel_rfl, by kernel_rfl, by kernel_rfl⟩
/-- padlock/padlocklaw08.Example -/
def ir44 : IR :=
  .seq (.ins [
    ⟨some 0, .alloc (.agg #[.int .i64 0, .slice none 0 0, .int .i64 0, .int .i64 0]), none⟩])
  (.seq (.ins [
    ⟨some 1, .build [.int .i64 0, .int .i64 0, .bool false] [(1, 1, .c (.int .i64 1))], none⟩,
    ⟨some 2, .bsl 3 (.agg #[.int .i64 0, .int .i64 0, .bool false]) 1 [(0, .t 1)], none⟩,
    ⟨some 3, .build [.int .i64 0, .slice none 0 0] [(0, 1, .c (.int .i64 3)), (1, 1, .t 2)], none⟩,
    ⟨some 4, .build [.int .i64 0, .slice none 0 0] [(0, 1, .c (.int .i64 1))], none⟩,
    ⟨some 5, .bsl 2 (.agg #[.int .i64 0, .slice none 0 0]) 2 [(0, .t 3), (1, .t 4)], none⟩,
    ⟨some 6, .build [.int .i64 0, .slice none 0 0, .int .i64 0, .int .i64 0] [(0, 1, .c (.int .i64 2)), (1, 1, .t 5), (2, 1, .c (.int .i64 2)), (3, 1, .c (.int .i64 8))], none⟩,
    ⟨none, .store 4 (.t 0) (.t 6), none⟩])
  (.ret))
def rs44 : List RV := [.cell (some 4) 0]
theorem fn44 : FnIR Try.prog 44 7 ir44 rs44 := ⟨Try.f44, (Try.f44.body).getD .skip, Try.func44, by kernel_rfl, by kernel_rfl, by kernel_rfl, by kernel_rfl, by kernel_rfl⟩
def ir45_d0 : IR :=
  .drawn [
    ⟨some 39, .faddr 0 (.t 3), none⟩,
    ⟨some 40, .load none (.t 39), none⟩,
    ⟨some 41, .mks 1 (.int .i64 0) 8 (.t 40) (.t 40), none⟩,
    ⟨some 42, .faddr 0 (.t 3), none⟩,
    ⟨some 43, .load none (.t 42), none⟩,
    ⟨some 44, .mks 1 (.int .i64 0) 8 (.t 43) (.t 43), none⟩,
    ⟨some 45, .faddr 0 (.t 3), none⟩,
    ⟨some 46, .load none (.t 45), none⟩,
    ⟨some 47, .mks 1 (.int .i64 0) 8 (.t 46) (.t 46), none⟩,
    ⟨some 11, .asg (.t 41), none⟩,
    ⟨some 12, .asg (.t 44), none⟩,
    ⟨some 13, .asg (.t 47), none⟩]
  (.still 0 (.still 1 (.still 3 (.still 4 (.still 6 (.still 7 (.eff 2 [7, 6, 4, 3] (.eff 5 [7, 6, 1, 0] (.eff 8 [4, 3, 1, 0] (.eff 9 [7, 6, 4, 3] (.eff 10 [7, 6] (.eff 11 [] (.done) (.none)) (.none)) (.none)) (.eff 9 [7, 6, 4, 3] (.eff 8 [4, 3, 1, 0] (.eff 10 [7, 6] (.eff 11 [] (.done) (.none)) (.none)) (.eff 10 [7, 6] (.eff 8 [4, 3, 1, 0] (.eff 11 [] (.done) (.none)) (.none)) (.none))) (.none))) (.eff 8 [4, 3, 1, 0] (.eff 5 [7, 6, 1, 0] (.eff 9 [7, 6, 4, 3] (.eff 10 [7, 6] (.eff 11 [] (.done) (.none)) (.none)) (.none)) (.eff 9 [7, 6, 4, 3] (.eff 5 [7, 6, 1, 0] (.eff 10 [7, 6] (.eff 11 [] (.done) (.none)) (.none)) (.none)) (.none))) (.eff 9 [7, 6, 4, 3] (.eff 5 [7, 6, 1, 0] (.eff 8 [4, 3, 1, 0] (.eff 10 [7, 6] (.eff 11 [] (.done) (.none)) (.none)) (.eff 10 [7, 6] (.eff 8 [4, 3, 1, 0] (.eff 11 [] (.done) (.none)) (.none)) (.none))) (.eff 8 [4, 3, 1, 0] (.eff 5 [7, 6, 1, 0] (.eff 10 [7, 6] (.eff 11 [] (.done) (.none)) (.none)) (.none)) (.none))) (.none)))) (.eff 5 [7, 6, 1, 0] (.eff 2 [7, 6, 4, 3] (.eff 8 [4, 3, 1, 0] (.eff 9 [7, 6, 4, 3] (.eff 10 [7, 6] (.eff 11 [] (.done) (.none)) (.none)) (.none)) (.eff 9 [7, 6, 4, 3] (.eff 8 [4, 3, 1, 0] (.eff 10 [7, 6] (.eff 11 [] (.done) (.none)) (.none)) (.eff 10 [7, 6] (.eff 8 [4, 3, 1, 0] (.eff 11 [] (.done) (.none)) (.none)) (.none))) (.none))) (.eff 8 [4, 3, 1, 0] (.eff 2 [7, 6, 4, 3] (.eff 9 [7, 6, 4, 3] (.eff 10 [7, 6] (.eff 11 [] (.done) (.none)) (.none)) (.none)) (.none)) (.none))) (.eff 8 [4, 3, 1, 0] (.eff 2 [7, 6, 4, 3] (.eff 5 [7, 6, 1, 0] (.eff 9 [7, 6, 4, 3] (.eff 10 [7, 6] (.eff 11 [] (.done) (.none)) (.none)) (.none)) (.eff 9 [7, 6, 4, 3] (.eff 5 [7, 6, 1, 0] (.eff 10 [7, 6] (.eff 11 [] (.done) (.none)) (.none)) (.none)) (.none))) (.eff 5 [7, 6, 1, 0] (.eff 2 [7, 6, 4, 3] (.eff 9 [7, 6, 4, 3] (.eff 10 [7, 6] (.eff 11 [] (.done) (.none)) (.none)) (.none)) (.none)) (.none))) (.none))))))))))
def ir45_d1 : IR :=
  .drawn [
      ⟨some 55, .faddr 1 (.t 3), none⟩,
      ⟨some 56, .load none (.t 55), none⟩,
      ⟨some 57, .len (.t 56), none⟩,
      ⟨some 58, .mks 1 (.int .i64 0) 8 (.t 57) (.t 57), none⟩,
      ⟨some 59, .faddr 1 (.t 3), none⟩,
      ⟨some 60, .load none (.t 59), none⟩,
      ⟨some 61, .len (.t 60), none⟩,
      ⟨some 62, .mks 1 (.int .i64 0) 8 (.t 61) (.t 61), none⟩,
      ⟨some 63, .faddr 1 (.t 3), none⟩,
      ⟨some 64, .load none (.t 63), none⟩,
      ⟨some 65, .len (.t 64), none⟩,
      ⟨some 66, .mks 1 (.bool false) 1 (.t 65) (.t 65), none⟩,
      ⟨some 67, .build [.bool false, .slice none 0 0, .slice none 0 0, .slice none 0 0, .slice none 0 0, .slice none 0 0] [(3, 1, .t 58), (4, 1, .t 62), (5, 1, .t 66)], none⟩,
      ⟨some 16, .alloc (.agg #[.bool false, .slice none 0 0, .slice none 0 0, .slice none 0 0, .slice none 0 0, .slice none 0 0]), none⟩,
      ⟨none, .store 6 (.t 16) (.t 67), none⟩]
    (.still 0 (.still 1 (.still 2 (.still 4 (.still 5 (.still 6 (.still 8 (.still 9 (.still 10 (.eff 3 [10, 9, 8, 6, 5, 4] (.eff 7 [10, 9, 8, 2, 1, 0] (.eff 11 [6, 5, 4, 2, 1, 0] (.still 12 (.eff 13 [12, 10, 9, 8, 6, 5, 4, 2, 1, 0] (.eff 14 [] (.done) (.none)) (.none))) (.eff 13 [10, 9, 8, 6, 5, 4, 2, 1, 0] (.eff 11 [6, 5, 4, 2, 1, 0] (.still 12 (.eff 14 [] (.done) (.none))) (.none)) (.none))) (.eff 11 [6, 5, 4, 2, 1, 0] (.eff 7 [10, 9, 8, 2, 1, 0] (.still 12 (.eff 13 [12, 10, 9, 8, 6, 5, 4, 2, 1, 0] (.eff 14 [] (.done) (.none)) (.none))) (.eff 13 [10, 9, 8, 6, 5, 4, 2, 1, 0] (.eff 7 [10, 9, 8, 2, 1, 0] (.still 12 (.eff 14 [] (.done) (.none))) (.none)) (.none))) (.eff 13 [10, 9, 8, 6, 5, 4, 2, 1, 0] (.eff 7 [10, 9, 8, 2, 1, 0] (.eff 11 [6, 5, 4, 2, 1, 0] (.still 12 (.eff 14 [] (.done) (.none))) (.none)) (.eff 11 [6, 5, 4, 2, 1, 0] (.eff 7 [10, 9, 8, 2, 1, 0] (.still 12 (.eff 14 [] (.done) (.none))) (.none)) (.none))) (.none)))) (.eff 7 [10, 9, 8, 2, 1, 0] (.eff 3 [10, 9, 8, 6, 5, 4] (.eff 11 [6, 5, 4, 2, 1, 0] (.still 12 (.eff 13 [12, 10, 9, 8, 6, 5, 4, 2, 1, 0] (.eff 14 [] (.done) (.none)) (.none))) (.eff 13 [10, 9, 8, 6, 5, 4, 2, 1, 0] (.eff 11 [6, 5, 4, 2, 1, 0] (.still 12 (.eff 14 [] (.done) (.none))) (.none)) (.none))) (.eff 11 [6, 5, 4, 2, 1, 0] (.eff 3 [10, 9, 8, 6, 5, 4] (.still 12 (.eff 13 [12, 10, 9, 8, 6, 5, 4, 2, 1, 0] (.eff 14 [] (.done) (.none)) (.none))) (.eff 13 [10, 9, 8, 6, 5, 4, 2, 1, 0] (.eff 3 [10, 9, 8, 6, 5, 4] (.still 12 (.eff 14 [] (.done) (.none))) (.none)) (.none))) (.eff 13 [10, 9, 8, 6, 5, 4, 2, 1, 0] (.eff 3 [10, 9, 8, 6, 5, 4] (.eff 11 [6, 5, 4, 2, 1, 0] (.still 12 (.eff 14 [] (.done) (.none))) (.none)) (.eff 11 [6, 5, 4, 2, 1, 0] (.eff 3 [10, 9, 8, 6, 5, 4] (.still 12 (.eff 14 [] (.done) (.none))) (.none)) (.none))) (.none)))) (.eff 11 [6, 5, 4, 2, 1, 0] (.eff 3 [10, 9, 8, 6, 5, 4] (.eff 7 [10, 9, 8, 2, 1, 0] (.still 12 (.eff 13 [12, 10, 9, 8, 6, 5, 4, 2, 1, 0] (.eff 14 [] (.done) (.none)) (.none))) (.eff 13 [10, 9, 8, 6, 5, 4, 2, 1, 0] (.eff 7 [10, 9, 8, 2, 1, 0] (.still 12 (.eff 14 [] (.done) (.none))) (.none)) (.none))) (.eff 7 [10, 9, 8, 2, 1, 0] (.eff 3 [10, 9, 8, 6, 5, 4] (.still 12 (.eff 13 [12, 10, 9, 8, 6, 5, 4, 2, 1, 0] (.eff 14 [] (.done) (.none)) (.none))) (.eff 13 [10, 9, 8, 6, 5, 4, 2, 1, 0] (.eff 3 [10, 9, 8, 6, 5, 4] (.still 12 (.eff 14 [] (.done) (.none))) (.none)) (.none))) (.eff 13 [10, 9, 8, 6, 5, 4, 2, 1, 0] (.eff 3 [10, 9, 8, 6, 5, 4] (.eff 7 [10, 9, 8, 2, 1, 0] (.still 12 (.eff 14 [] (.done) (.none))) (.none)) (.eff 7 [10, 9, 8, 2, 1, 0] (.eff 3 [10, 9, 8, 6, 5, 4] (.still 12 (.eff 14 [] (.done) (.none))) (.none)) (.none))) (.none)))) (.eff 13 [10, 9, 8, 6, 5, 4, 2, 1, 0] (.eff 3 [10, 9, 8, 6, 5, 4] (.eff 7 [10, 9, 8, 2, 1, 0] (.eff 11 [6, 5, 4, 2, 1, 0] (.still 12 (.eff 14 [] (.done) (.none))) (.none)) (.eff 11 [6, 5, 4, 2, 1, 0] (.eff 7 [10, 9, 8, 2, 1, 0] (.still 12 (.eff 14 [] (.done) (.none))) (.none)) (.none))) (.eff 7 [10, 9, 8, 2, 1, 0] (.eff 3 [10, 9, 8, 6, 5, 4] (.eff 11 [6, 5, 4, 2, 1, 0] (.still 12 (.eff 14 [] (.done) (.none))) (.none)) (.eff 11 [6, 5, 4, 2, 1, 0] (.eff 3 [10, 9, 8, 6, 5, 4] (.still 12 (.eff 14 [] (.done) (.none))) (.none)) (.none))) (.eff 11 [6, 5, 4, 2, 1, 0] (.eff 3 [10, 9, 8, 6, 5, 4] (.eff 7 [10, 9, 8, 2, 1, 0] (.still 12 (.eff 14 [] (.done) (.none))) (.none)) (.eff 7 [10, 9, 8, 2, 1, 0] (.eff 3 [10, 9, 8, 6, 5, 4] (.still 12 (.eff 14 [] (.done) (.none))) (.none)) (.none))) (.none)))) (.none))))))))))))))
def ir45_l3 : IR :=
  .loop (.seq (.ins [
    ⟨some 158, .bin .lss (.t 157) (.t 156), none⟩])
  (.seq (.cond (.t 158)
    (.skip)
    (.exit 7))
  (.seq (.block 8 (.seq (.ins [
      ⟨some 159, .mov (.t 157), none⟩,
      ⟨some 160, .iaddr 2 (.t 155) (.t 157), none⟩,
      ⟨some 161, .load (some 2) (.t 160), none⟩,
      ⟨some 22, .alloc (.agg #[.int .i64 0, .slice none 0 0]), none⟩,
      ⟨some 21, .asg (.t 159), none⟩,
      ⟨none, .store 2 (.t 22) (.t 161), none⟩])
    (.seq (.seq (.ins [
      ⟨some 162, .mov (.t 10), none⟩])
    (.cond (.t 162)
      (.drawn [
        ⟨some 163, .faddr 3 (.t 16), none⟩,
        ⟨some 164, .load none (.t 163), none⟩,
        ⟨some 165, .mov (.t 21), none⟩,
        ⟨some 166, .load (some 6) (.t 16), none⟩,
        ⟨some 167, .load (some 4) (.t 3), none⟩,
        ⟨some 168, .mov (.t 14), none⟩,
        ⟨some 169, .load (some 2) (.t 22), none⟩,
        ⟨some 170, .call 66 [.t 166, .t 167, .t 168, .t 169], none⟩,
        ⟨some 171, .iaddr 1 (.t 164) (.t 165), none⟩,
        ⟨none, .store 1 (.t 171) (.t 170), none⟩]
      (.still 0 (.still 1 (.still 2 (.still 3 (.still 4 (.still 5 (.still 6 (.eff 7 [2, 1, 0] (.still 8 (.eff 9 [] (.done) (.none))) (.none))))))))))
      (.skip)))
    (.seq (.ins [
      ⟨some 172, .mov (.t 17), none⟩,
      ⟨some 173, .mov (.t 21), none⟩,
      ⟨some 174, .iaddr 1 (.t 172) (.t 173), none⟩,
      ⟨some 175, .load none (.t 174), none⟩,
      ⟨some 176, .un .not (.t 175), none⟩])
    (.cond (.t 176)
      (.drawn [
        ⟨some 177, .faddr 4 (.t 16), none⟩,
        ⟨some 178, .load none (.t 177), none⟩,
        ⟨some 179, .mov (.t 21), none⟩,
        ⟨some 180, .faddr 3 (.t 16), none⟩,
        ⟨some 181, .load none (.t 180), none⟩,
        ⟨some 182, .mov (.t 21), none⟩,
        ⟨some 183, .iaddr 1 (.t 181) (.t 182), none⟩,
        ⟨some 184, .load none (.t 183), none⟩,
        ⟨some 185, .iaddr 1 (.t 178) (.t 179), none⟩,
        ⟨none, .store 1 (.t 185) (.t 184), none⟩]
      (.still 0 (.still 1 (.still 2 (.still 3 (.still 4 (.still 5 (.still 6 (.still 7 (.still 8 (.eff 9 [] (.done) (.none))))))))))))
      (.skip))))))
  (.ins [
    ⟨some 186, .bin .add (.t 157) (.c (.int .i64 1)), none⟩,
    ⟨some 157, .mov (.t 186), none⟩]))))
def ir45_l2 : IR :=
  .loop (.seq (.ins [
    ⟨some 119, .bin .lss (.t 118) (.t 117), none⟩])
  (.seq (.cond (.t 119)
    (.skip)
    (.exit 5))
  (.seq (.block 6 (.seq (.ins [
      ⟨some 120, .mov (.t 118), none⟩,
      ⟨some 20, .asg (.t 120), none⟩])
    (.seq (.ins [
      ⟨some 121, .mov (.t 13), none⟩,
      ⟨some 122, .mov (.t 20), none⟩,
      ⟨some 123, .iaddr 1 (.t 121) (.t 122), none⟩,
      ⟨some 124, .load none (.t 123), none⟩,
      ⟨some 125, .bin .add (.t 124) (.c (.int .i64 1)), none⟩,
      ⟨some 126, .iaddr 1 (.t 121) (.t 122), none⟩,
      ⟨none, .store 1 (.t 126) (.t 125), none⟩])
    (.seq (.ins [
      ⟨some 127, .mov (.t 10), none⟩,
      ⟨some 128, .mov (.t 127), none⟩,
      ⟨some 129, .mov (.t 15), some (128, true)⟩,
      ⟨some 130, .mov (.t 20), some (128, true)⟩,
      ⟨some 131, .iaddr 1 (.t 129) (.t 130), some (128, true)⟩,
      ⟨some 132, .load none (.t 131), some (128, true)⟩,
      ⟨some 133, .un .not (.t 132), some (128, true)⟩,
      ⟨some 134, .pick (.t 128) (.t 133) (.c (.bool false)), none⟩])
    (.cond (.t 134)
      (.ins [
        ⟨some 135, .mov (.t 12), none⟩,
        ⟨some 136, .mov (.t 20), none⟩,
        ⟨some 137, .mov (.t 13), none⟩,
        ⟨some 138, .mov (.t 20), none⟩,
        ⟨some 139, .mov (.t 11), none⟩,
        ⟨some 140, .mov (.t 20), none⟩,
        ⟨some 141, .iaddr 1 (.t 139) (.t 140), none⟩,
        ⟨some 142, .load none (.t 141), none⟩,
        ⟨some 143, .iaddr 1 (.t 135) (.t 136), none⟩,
        ⟨none, .store 1 (.t 143) (.t 142), none⟩,
        ⟨some 144, .iaddr 1 (.t 137) (.t 138), none⟩,
        ⟨none, .store 1 (.t 144) (.c (.int .i64 0)), none⟩])
      (.skip))))))
  (.ins [
    ⟨some 145, .bin .add (.t 118) (.c (.int .i64 1)), none⟩,
    ⟨some 118, .mov (.t 145), none⟩]))))
def ir45_l1 : IR :=
  .loop (.seq (.ins [
    ⟨some 75, .bin .lss (.t 74) (.t 73), none⟩])
  (.seq (.cond (.t 75)
    (.skip)
    (.exit 2))
  (.seq (.block 3 (.seq (.ins [
      ⟨some 76, .iaddr 4 (.t 72) (.t 74), none⟩,
      ⟨some 77, .load (some 4) (.t 76), none⟩,
      ⟨some 19, .alloc (.agg #[.int .i64 0, .int .i64 0, .int .i64 0, .int .i64 0]), none⟩,
      ⟨none, .store 4 (.t 19) (.t 77), none⟩])
    (.seq (.seq (.ins [
      ⟨some 78, .faddr 0 (.t 19), none⟩,
      ⟨some 79, .load none (.t 78), none⟩,
      ⟨some 80, .mov (.t 14), none⟩,
      ⟨some 81, .bin .neq (.t 79) (.t 80), none⟩])
    (.cond (.t 81)
      (.exit 3)
      (.skip)))
    (.seq (.ins [
      ⟨some 82, .faddr 1 (.t 19), none⟩,
      ⟨some 83, .load none (.t 82), none⟩])
    (.block 4 (.seq (.ins [
        ⟨some 85, .bin .eql (.t 83) (.c (.int .i64 1)), none⟩,
        ⟨some 84, .asg (.t 85), none⟩])
      (.cond (.t 84)
        (.ins [
          ⟨some 86, .mov (.t 11), none⟩,
          ⟨some 87, .faddr 2 (.t 19), none⟩,
          ⟨some 88, .load none (.t 87), none⟩,
          ⟨some 89, .faddr 3 (.t 19), none⟩,
          ⟨some 90, .load none (.t 89), none⟩,
          ⟨some 91, .iaddr 1 (.t 86) (.t 88), none⟩,
          ⟨none, .store 1 (.t 91) (.t 90), none⟩])
        (.seq (.ins [
          ⟨some 93, .bin .eql (.t 83) (.c (.int .i64 2)), none⟩,
          ⟨some 92, .asg (.t 93), none⟩])
        (.cond (.t 92)
          (.ins [
            ⟨some 94, .mov (.t 15), none⟩,
            ⟨some 95, .faddr 2 (.t 19), none⟩,
            ⟨some 96, .load none (.t 95), none⟩,
            ⟨some 97, .iaddr 1 (.t 94) (.t 96), none⟩,
            ⟨none, .store 1 (.t 97) (.c (.bool true)), none⟩])
          (.seq (.ins [
            ⟨some 99, .bin .eql (.t 83) (.c (.int .i64 3)), none⟩,
            ⟨some 98, .asg (.t 99), none⟩])
          (.cond (.t 98)
            (.ins [
              ⟨some 100, .mov (.t 17), none⟩,
              ⟨some 101, .faddr 2 (.t 19), none⟩,
              ⟨some 102, .load none (.t 101), none⟩,
              ⟨some 103, .iaddr 1 (.t 100) (.t 102), none⟩,
              ⟨none, .store 1 (.t 103) (.c (.bool true)), none⟩])
            (.seq (.ins [
              ⟨some 105, .bin .eql (.t 83) (.c (.int .i64 4)), none⟩,
              ⟨some 104, .asg (.t 105), none⟩])
            (.cond (.t 104)
              (.ins [
                ⟨some 10, .asg (.c (.bool false)), none⟩])
              (.seq (.ins [
                ⟨some 107, .bin .eql (.t 83) (.c (.int .i64 5)), none⟩,
                ⟨some 106, .asg (.t 107), none⟩])
              (.cond (.t 106)
                (.ins [
                  ⟨some 10, .asg (.c (.bool true)), none⟩])
                (.seq (.ins [
                  ⟨some 109, .bin .eql (.t 83) (.c (.int .i64 6)), none⟩,
                  ⟨some 108, .asg (.t 109), none⟩])
                (.cond (.t 108)
                  (.ins [
                    ⟨some 110, .faddr 5 (.t 16), none⟩,
                    ⟨some 111, .load none (.t 110), none⟩,
                    ⟨some 112, .faddr 2 (.t 19), none⟩,
                    ⟨some 113, .load none (.t 112), none⟩,
                    ⟨some 114, .iaddr 1 (.t 111) (.t 113), none⟩,
                    ⟨none, .store 1 (.t 114) (.c (.bool true)), none⟩])
                  (.skip))))))))))))))))))
  (.ins [
    ⟨some 115, .bin .add (.t 74) (.c (.int .i64 1)), none⟩,
    ⟨some 74, .mov (.t 115), none⟩]))))
def ir45_l0 : IR :=
  .loop (.seq (.ins [
    ⟨some 50, .bin .lss (.t 49) (.t 48), none⟩])
  (.seq (.cond (.t 50)
    (.skip)
    (.exit 0))
  (.seq (.block 1 (.seq (.ins [
      ⟨some 51, .mov (.t 49), none⟩,
      ⟨some 14, .asg (.t 51), none⟩])
    (.seq (.ins [
      ⟨some 52, .faddr 0 (.t 3), none⟩,
      ⟨some 53, .load none (.t 52), none⟩,
      ⟨some 54, .mks 1 (.bool false) 1 (.t 53) (.t 53), none⟩,
      ⟨some 15, .asg (.t 54), none⟩])
    (.seq (ir45_d1)
    (.seq (.ins [
      ⟨some 68, .faddr 1 (.t 3), none⟩,
      ⟨some 69, .load none (.t 68), none⟩,
      ⟨some 70, .len (.t 69), none⟩,
      ⟨some 71, .mks 1 (.bool false) 1 (.t 70) (.t 70), none⟩,
      ⟨some 17, .asg (.t 71), none⟩])
    (.seq (.seq (.ins [
      ⟨some 72, .mov (.t 2), none⟩,
      ⟨some 73, .len (.t 72), none⟩,
      ⟨some 74, .mov (.c (.int .i64 0)), none⟩])
    (.block 2 (ir45_l1)))
    (.seq (.seq (.ins [
      ⟨some 116, .mov (.t 11), none⟩,
      ⟨some 117, .len (.t 116), none⟩,
      ⟨some 118, .mov (.c (.int .i64 0)), none⟩])
    (.block 5 (ir45_l2)))
    (.seq (.ins [
      ⟨some 146, .mov (.t 10), none⟩,
      ⟨some 147, .mov (.t 12), none⟩,
      ⟨some 148, .call 65 [.t 147], none⟩,
      ⟨some 149, .mov (.t 13), none⟩,
      ⟨some 150, .call 65 [.t 149], none⟩,
      ⟨some 151, .faddr 0 (.t 16), none⟩,
      ⟨none, .store 1 (.t 151) (.t 146), none⟩,
      ⟨some 152, .faddr 1 (.t 16), none⟩,
      ⟨none, .store 1 (.t 152) (.t 148), none⟩,
      ⟨some 153, .faddr 2 (.t 16), none⟩,
      ⟨none, .store 1 (.t 153) (.t 150), none⟩])
    (.seq (.seq (.ins [
      ⟨some 154, .faddr 1 (.t 3), none⟩,
      ⟨some 155, .load none (.t 154), none⟩,
      ⟨some 156, .len (.t 155), none⟩,
      ⟨some 157, .mov (.c (.int .i64 0)), none⟩])
    (.block 7 (ir45_l3)))
    (.ins [
      ⟨some 187, .mov (.t 9), none⟩,
      ⟨some 188, .load (some 6) (.t 16), none⟩,
      ⟨some 189, .bsl 6 (.agg #[.bool false, .slice none 0 0, .slice none 0 0, .slice none 0 0, .slice none 0 0, .slice none 0 0]) 1 [(0, .t 188)], none⟩,
      ⟨some 190, .app 6 128 (.t 187) (.t 189), none⟩,
      ⟨some 9, .asg (.t 190), none⟩]))))))))))
  (.ins [
    ⟨some 191, .bin .add (.t 49) (.c (.int .i64 1)), none⟩,
    ⟨some 49, .mov (.t 191), none⟩]))))
/-- padlock/control.begin -/
def ir45 : IR :=
  .seq (.ins [
    ⟨some 3, .box (.t 0), none⟩,
    ⟨some 4, .box (.t 1), none⟩,
    ⟨some 6, .asg (.c (.slice none 0 0)), none⟩,
    ⟨some 7, .asg (.c (.int .i64 0)), none⟩])
  (.seq (.seq (.ins [
    ⟨some 23, .load (some 4) (.t 3), none⟩,
    ⟨some 24, .call 27 [.t 23], none⟩,
    ⟨some 8, .asg (.t 24), none⟩])
  (.seq (.ins [
    ⟨some 25, .mov (.t 8), none⟩,
    ⟨some 26, .bin .neq (.t 25) (.c (.int .i64 0)), none⟩])
  (.cond (.t 26)
    (.seq (.ins [
      ⟨some 27, .mov (.t 8), none⟩,
      ⟨some 6, .asg (.c (.slice none 0 0)), none⟩,
      ⟨some 7, .asg (.t 27), none⟩])
    (.ret))
    (.skip))))
  (.seq (.seq (.ins [
    ⟨some 28, .load none (.t 4), none⟩,
    ⟨some 29, .call 48 [.t 28, .c (.int .i64 0), .c (.int .i64 1000)], none⟩,
    ⟨some 30, .un .not (.t 29), none⟩])
  (.cond (.t 30)
    (.seq (.ins [
      ⟨some 6, .asg (.c (.slice none 0 0)), none⟩,
      ⟨some 7, .asg (.c (.int .i64 1)), none⟩])
    (.ret))
    (.skip)))
  (.seq (.seq (.ins [
    ⟨some 31, .mov (.t 2), none⟩,
    ⟨some 32, .len (.t 31), none⟩,
    ⟨some 33, .bin .gtr (.t 32) (.c (.int .i64 200)), none⟩,
    ⟨some 34, .mov (.t 33), none⟩,
    ⟨some 35, .mov (.t 2), some (34, false)⟩,
    ⟨some 36, .mkf 63 [.t 3, .t 4], some (34, false)⟩,
    ⟨some 37, .call 62 [.t 35, .t 36], some (34, false)⟩,
    ⟨some 38, .pick (.t 34) (.c (.bool true)) (.t 37), none⟩])
  (.cond (.t 38)
    (.seq (.ins [
      ⟨some 6, .asg (.c (.slice none 0 0)), none⟩,
      ⟨some 7, .asg (.c (.int .i64 81)), none⟩])
    (.ret))
    (.skip)))
  (.seq (.ins [
    ⟨some 9, .asg (.c (.slice none 0 0)), none⟩])
  (.seq (.ins [
    ⟨some 10, .asg (.c (.bool true)), none⟩])
  (.seq (ir45_d0)
  (.seq (.seq (.ins [
    ⟨some 48, .load none (.t 4), none⟩,
    ⟨some 49, .mov (.c (.int .i64 0)), none⟩])
  (.block 0 (ir45_l0)))
  (.seq (.ins [
    ⟨some 192, .mov (.t 9), none⟩,
    ⟨some 6, .asg (.t 192), none⟩,
    ⟨some 7, .asg (.c (.int .i64 0)), none⟩])
  (.ret)))))))))
def rs45 : List RV := [.t 6, .t 7]
theorem fn45 : FnIR Try.prog 45 193 ir45 rs45 := ⟨Try.f45, (Try.f45.body).getD .skip, Try.func45, by kernel_rfl, by kernel_rfl, by kernel_rfl, by kernel_rfl, by kernel_rfl⟩
def ir46_l1 : IR :=
  .loop (.seq (.ins [
    ⟨some 23, .bin .lss (.t 22) (.t 21), none⟩])
  (.seq (.cond (.t 23)
    (.skip)
    (.exit 2))
  (.seq (.block 3 (.seq (.ins [
      ⟨some 24, .mov (.t 22), none⟩,
      ⟨some 9, .asg (.t 24), none⟩])
    (.seq (.drawn [
      ⟨some 25, .mov (.t 5), none⟩,
      ⟨some 26, .mov (.t 9), none⟩,
      ⟨some 27, .mov (.t 5), none⟩,
      ⟨some 28, .mov (.t 9), none⟩,
      ⟨some 29, .iaddr 2 (.t 27) (.t 28), none⟩,
      ⟨some 30, .load (some 2) (.t 29), none⟩,
      ⟨some 31, .faddr 1 (.t 2), none⟩,
      ⟨some 32, .load none (.t 31), none⟩,
      ⟨some 33, .mov (.t 9), none⟩,
      ⟨some 34, .iaddr 2 (.t 32) (.t 33), none⟩,
      ⟨some 35, .faddr 0 (.t 34), none⟩,
      ⟨some 36, .load none (.t 35), none⟩,
      ⟨some 37, .faddr 0 (.t 7), none⟩,
      ⟨some 38, .load none (.t 37), none⟩,
      ⟨some 39, .faddr 5 (.t 7), none⟩,
      ⟨some 40, .load none (.t 39), none⟩,
      ⟨some 41, .mov (.t 9), none⟩,
      ⟨some 42, .iaddr 1 (.t 40) (.t 41), none⟩,
      ⟨some 43, .load none (.t 42), none⟩,
      ⟨some 44, .faddr 4 (.t 7), none⟩,
      ⟨some 45, .load none (.t 44), none⟩,
      ⟨some 46, .mov (.t 9), none⟩,
      ⟨some 47, .iaddr 1 (.t 45) (.t 46), none⟩,
      ⟨some 48, .load none (.t 47), none⟩,
      ⟨some 49, .call 67 [.t 30, .t 36, .t 38, .t 43, .t 48], none⟩,
      ⟨some 50, .iaddr 2 (.t 25) (.t 26), none⟩,
      ⟨none, .store 2 (.t 50) (.t 49), none⟩]
    (.still 0 (.still 1 (.still 2 (.still 3 (.still 4 (.still 5 (.still 6 (.still 7 (.still 8 (.still 9 (.still 10 (.still 11 (.still 12 (.still 13 (.still 14 (.still 15 (.still 16 (.still 17 (.still 18 (.still 19 (.still 20 (.still 21 (.still 22 (.still 23 (.eff 24 [1, 0] (.still 25 (.eff 26 [] (.done) (.none))) (.none)))))))))))))))))))))))))))
    (.seq (.ins [
      ⟨some 51, .mov (.t 5), none⟩,
      ⟨some 52, .mov (.t 9), none⟩,
      ⟨some 53, .iaddr 2 (.t 51) (.t 52), none⟩,
      ⟨some 54, .faddr 1 (.t 53), none⟩,
      ⟨some 55, .load none (.t 54), none⟩])
    (.cond (.t 55)
      (.ins [
        ⟨some 56, .mov (.t 8), none⟩,
        ⟨some 57, .mov (.t 9), none⟩,
        ⟨some 58, .bin .shl (.c (.int .i64 1)) (.t 57), none⟩,
        ⟨some 59, .bin .or (.t 56) (.t 58), none⟩,
        ⟨some 8, .asg (.t 59), none⟩])
      (.skip))))))
  (.ins [
    ⟨some 60, .bin .add (.t 22) (.c (.int .i64 1)), none⟩,
    ⟨some 22, .mov (.t 60), none⟩]))))
def ir46_l0 : IR :=
  .loop (.seq (.ins [
    ⟨some 17, .bin .lss (.t 16) (.t 15), none⟩])
  (.seq (.cond (.t 17)
    (.skip)
    (.exit 0))
  (.seq (.block 1 (.seq (.ins [
      ⟨some 18, .iaddr 6 (.t 14) (.t 16), none⟩,
      ⟨some 19, .load (some 6) (.t 18), none⟩,
      ⟨some 7, .alloc (.agg #[.bool false, .slice none 0 0, .slice none 0 0, .slice none 0 0, .slice none 0 0, .slice none 0 0]), none⟩,
      ⟨none, .store 6 (.t 7) (.t 19), none⟩])
    (.seq (.ins [
      ⟨some 8, .asg (.c (.int .i64 0)), none⟩])
    (.seq (.seq (.ins [
      ⟨some 20, .mov (.t 5), none⟩,
      ⟨some 21, .len (.t 20), none⟩,
      ⟨some 22, .mov (.c (.int .i64 0)), none⟩])
    (.block 2 (ir46_l1)))
    (.ins [
      ⟨some 61, .mov (.t 4), none⟩,
      ⟨some 62, .mov (.t 8), none⟩,
      ⟨some 63, .bsl 1 (.int .i64 0) 1 [(0, .t 62)], none⟩,
      ⟨some 64, .app 1 8 (.t 61) (.t 63), none⟩,
      ⟨some 4, .asg (.t 64), none⟩])))))
  (.ins [
    ⟨some 65, .bin .add (.t 16) (.c (.int .i64 1)), none⟩,
    ⟨some 16, .mov (.t 65), none⟩]))))
/-- padlock/control.rows -/
def ir46 : IR :=
  .seq (.ins [
    ⟨some 2, .box (.t 0), none⟩,
    ⟨some 4, .asg (.c (.slice none 0 0)), none⟩])
  (.seq (.ins [
    ⟨some 10, .faddr 1 (.t 2), none⟩,
    ⟨some 11, .load none (.t 10), none⟩,
    ⟨some 12, .len (.t 11), none⟩,
    ⟨some 13, .mks 2 (.agg #[.int .i64 0, .bool false]) 16 (.t 12) (.t 12), none⟩,
    ⟨some 5, .asg (.t 13), none⟩])
  (.seq (.seq (.ins [
    ⟨some 14, .mov (.t 1), none⟩,
    ⟨some 15, .len (.t 14), none⟩,
    ⟨some 16, .mov (.c (.int .i64 0)), none⟩])
  (.block 0 (ir46_l0)))
  (.seq (.ins [
    ⟨some 66, .mov (.t 4), none⟩,
    ⟨some 4, .asg (.t 66), none⟩])
  (.ret))))
def rs46 : List RV := [.t 4]
theorem fn46 : FnIR Try.prog 46 67 ir46 rs46 := ⟨Try.f46, (Try.f46.body).getD .skip, Try.func46, by kernel_rfl, by kernel_rfl, by kernel_rfl, by kernel_rfl, by kernel_rfl⟩
def ir47_l0 : IR :=
  .loop (.seq (.ins [
    ⟨some 10, .bin .lss (.t 9) (.t 8), none⟩])
  (.seq (.cond (.t 10)
    (.skip)
    (.exit 0))
  (.seq (.block 1 (.seq (.ins [
      ⟨some 11, .iaddr 2 (.t 7) (.t 9), none⟩,
      ⟨some 12, .load (some 2) (.t 11), none⟩,
      ⟨some 5, .alloc (.agg #[.int .i64 0, .slice none 0 0]), none⟩,
      ⟨none, .store 2 (.t 5) (.t 12), none⟩])
    (.seq (.ins [
      ⟨some 13, .faddr 1 (.t 5), none⟩,
      ⟨some 14, .load none (.t 13), none⟩,
      ⟨some 15, .len (.t 14), none⟩,
      ⟨some 16, .bin .gtr (.t 15) (.c (.int .i64 0)), none⟩])
    (.cond (.t 16)
      (.ins [
        ⟨some 17, .mov (.t 3), none⟩,
        ⟨some 18, .faddr 0 (.t 5), none⟩,
        ⟨some 19, .load none (.t 18), none⟩,
        ⟨some 20, .maxx (.t 17) [.t 19], none⟩,
        ⟨some 3, .asg (.t 20), none⟩])
      (.skip)))))
  (.ins [
    ⟨some 21, .bin .add (.t 9) (.c (.int .i64 1)), none⟩,
    ⟨some 9, .mov (.t 21), none⟩]))))
/-- padlock/control.frees -/
def ir47 : IR :=
  .seq (.ins [
    ⟨some 1, .box (.t 0), none⟩,
    ⟨some 2, .asg (.c (.int .i64 0)), none⟩])
  (.seq (.ins [
    ⟨some 3, .asg (.c (.int .i64 0)), none⟩])
  (.seq (.seq (.ins [
    ⟨some 6, .faddr 1 (.t 1), none⟩,
    ⟨some 7, .load none (.t 6), none⟩,
    ⟨some 8, .len (.t 7), none⟩,
    ⟨some 9, .mov (.c (.int .i64 0)), none⟩])
  (.block 0 (ir47_l0)))
  (.seq (.seq (.ins [
    ⟨some 22, .mov (.t 3), none⟩,
    ⟨some 23, .bin .eql (.t 22) (.c (.int .i64 0)), none⟩])
  (.cond (.t 23)
    (.seq (.ins [
      ⟨some 2, .asg (.c (.int .i64 0)), none⟩])
    (.ret))
    (.skip)))
  (.seq (.ins [
    ⟨some 24, .faddr 3 (.t 1), none⟩,
    ⟨some 25, .load none (.t 24), none⟩,
    ⟨some 26, .mov (.t 3), none⟩,
    ⟨some 27, .bin .add (.t 25) (.t 26), none⟩,
    ⟨some 28, .bin .sub (.t 27) (.c (.int .i64 1)), none⟩,
    ⟨some 2, .asg (.t 28), none⟩])
  (.ret)))))
def rs47 : List RV := [.t 2]
theorem fn47 : FnIR Try.prog 47 29 ir47 rs47 := ⟨Try.f47, (Try.f47.body).getD .skip, Try.func47, by kernel_rfl, by kernel_rfl, by kernel_rfl, by kernel_rfl, by kernel_rfl⟩
/-- padlock/control.within -/
def ir48 : IR :=
  .seq (.ins [
    ⟨some 6, .asg (.c (.bool false)), none⟩])
  (.seq (.ins [
    ⟨some 7, .mov (.t 0), none⟩,
    ⟨some 8, .mov (.t 1), none⟩,
    ⟨some 9, .bin .geq (.t 7) (.t 8), none⟩,
    ⟨some 10, .mov (.t 9), none⟩,
    ⟨some 11, .mov (.t 0), some (10, true)⟩,
    ⟨some 12, .mov (.t 2), some (10, true)⟩,
    ⟨some 13, .bin .leq (.t 11) (.t 12), some (10, true)⟩,
    ⟨some 14, .pick (.t 10) (.t 13) (.c (.bool false)), none⟩,
    ⟨some 6, .asg (.t 14), none⟩])
  (.ret))
def rs48 : List RV := [.t 6]
theorem fn48 : FnIR Try.prog 48 15 ir48 rs48 := ⟨Try.f48, (Try.f48.body).getD .skip, Try.func48, by kernel_rfl, by kernel_rfl, by kernel_rfl, by kernel_rfl, by kernel_rfl⟩
/-- padlock/control.Check$1 -/
def ir49 : IR :=
  .seq (.ins [
    ⟨some 2, .box (.t 0), none⟩,
    ⟨some 3, .asg (.c (.bool false)), none⟩])
  (.seq (.ins [
    ⟨some 4, .faddr 0 (.t 2), none⟩,
    ⟨some 5, .load none (.t 4), none⟩,
    ⟨some 6, .faddr 0 (.t 1), none⟩,
    ⟨some 7, .load none (.t 6), none⟩,
    ⟨some 8, .bin .sub (.t 7) (.c (.int .i64 1)), none⟩,
    ⟨some 9, .call 48 [.t 5, .c (.int .i64 0), .t 8], none⟩,
    ⟨some 10, .un .not (.t 9), none⟩,
    ⟨some 11, .mov (.t 10), none⟩,
    ⟨some 12, .faddr 1 (.t 2), some (11, false)⟩,
    ⟨some 13, .load none (.t 12), some (11, false)⟩,
    ⟨some 14, .call 48 [.t 13, .c (.int .i64 0), .c (.int .i64 9)], some (11, false)⟩,
    ⟨some 15, .un .not (.t 14), some (11, false)⟩,
    ⟨some 16, .pick (.t 11) (.c (.bool true)) (.t 15), none⟩,
    ⟨some 3, .asg (.t 16), none⟩])
  (.ret))
def rs49 : List RV := [.t 3]
theorem fn49 : FnIR Try.prog 49 17 ir49 rs49 := ⟨Try.f49, (Try.f49.body).getD .skip, Try.func49, by kernel_rfl, by kernel_rfl, by kernel_rfl, by kernel_rfl, by kernel_rfl⟩
/-- slices.ContainsFunc[[]padlock/api.Sense,padlock/api.Sense] -/
def ir50 : IR :=
  .seq (.ins [
    ⟨some 4, .asg (.c (.bool false)), none⟩])
  (.seq (.ins [
    ⟨some 5, .mov (.t 0), none⟩,
    ⟨some 6, .mov (.t 1), none⟩,
    ⟨some 7, .call 68 [.t 5, .t 6], none⟩,
    ⟨some 8, .bin .geq (.t 7) (.c (.int .i64 0)), none⟩,
    ⟨some 4, .asg (.t 8), none⟩])
  (.ret))
def rs50 : List RV := [.t 4]
theorem fn50 : FnIR Try.prog 50 9 ir50 rs50 := ⟨Try.f50, (Try.f50.body).getD .skip, Try.func50, by kernel_rfl, by kernel_rfl, by kernel_rfl, by kernel_rfl, by kernel_rfl⟩
/-- slices.ContainsFunc[[]padlock/api.Signal,padlock/api.Signal] -/
def ir62 : IR :=
  .seq (.ins [
    ⟨some 4, .asg (.c (.bool false)), none⟩])
  (.seq (.ins [
    ⟨some 5, .mov (.t 0), none⟩,
    ⟨some 6, .mov (.t 1), none⟩,
    ⟨some 7, .call 75 [.t 5, .t 6], none⟩,
    ⟨some 8, .bin .geq (.t 7) (.c (.int .i64 0)), none⟩,
    ⟨some 4, .asg (.t 8), none⟩])
  (.ret))
def rs62 : List RV := [.t 4]
theorem fn62 : FnIR Try.prog 62 9 ir62 rs62 := ⟨Try.f62, (Try.f62.body).getD .skip, Try.func62, by kernel_rfl, by kernel_rfl, by kernel_rfl, by kernel_rfl, by kernel_rfl⟩
/-- padlock/control.begin$1 -/
def ir63 : IR :=
  .seq (.ins [
    ⟨some 3, .box (.t 0), none⟩,
    ⟨some 4, .asg (.c (.bool false)), none⟩])
  (.seq (.ins [
    ⟨some 5, .load (some 4) (.t 1), none⟩,
    ⟨some 6, .load none (.t 2), none⟩,
    ⟨some 7, .load (some 4) (.t 3), none⟩,
    ⟨some 8, .call 64 [.t 5, .t 6, .t 7], none⟩,
    ⟨some 9, .un .not (.t 8), none⟩,
    ⟨some 4, .asg (.t 9), none⟩])
  (.ret))
def rs63 : List RV := [.t 4]
theorem fn63 : FnIR Try.prog 63 10 ir63 rs63 := ⟨Try.f63, (Try.f63.body).getD .skip, Try.func63, by kernel_rfl, by kernel_rfl, by kernel_rfl, by kernel_rfl, by kernel_rfl⟩
/-- padlock/control.right -/
def ir64 : IR :=
  .seq (.ins [
    ⟨some 3, .box (.t 0), none⟩,
    ⟨some 5, .box (.t 2), none⟩,
    ⟨some 6, .asg (.c (.bool false)), none⟩])
  (.seq (.seq (.ins [
    ⟨some 7, .faddr 0 (.t 5), none⟩,
    ⟨some 8, .load none (.t 7), none⟩,
    ⟨some 9, .mov (.t 1), none⟩,
    ⟨some 10, .bin .sub (.t 9) (.c (.int .i64 1)), none⟩,
    ⟨some 11, .call 48 [.t 8, .c (.int .i64 0), .t 10], none⟩,
    ⟨some 12, .un .not (.t 11), none⟩])
  (.cond (.t 12)
    (.seq (.ins [
      ⟨some 6, .asg (.c (.bool false)), none⟩])
    (.ret))
    (.skip)))
  (.seq (.seq (.ins [
    ⟨some 13, .faddr 1 (.t 5), none⟩,
    ⟨some 14, .load none (.t 13), none⟩])
  (.block 0 (.seq (.ins [
      ⟨some 16, .bin .eql (.t 14) (.c (.int .i64 1)), none⟩,
      ⟨some 15, .asg (.t 16), none⟩])
    (.cond (.t 15)
      (.seq (.ins [
        ⟨some 17, .faddr 2 (.t 5), none⟩,
        ⟨some 18, .load none (.t 17), none⟩,
        ⟨some 19, .faddr 0 (.t 3), none⟩,
        ⟨some 20, .load none (.t 19), none⟩,
        ⟨some 21, .bin .sub (.t 20) (.c (.int .i64 1)), none⟩,
        ⟨some 22, .call 48 [.t 18, .c (.int .i64 0), .t 21], none⟩,
        ⟨some 23, .mov (.t 22), none⟩,
        ⟨some 24, .faddr 3 (.t 5), some (23, true)⟩,
        ⟨some 25, .load none (.t 24), some (23, true)⟩,
        ⟨some 26, .call 48 [.t 25, .c (.int .i64 0), .c (.int .i64 9)], some (23, true)⟩,
        ⟨some 27, .pick (.t 23) (.t 26) (.c (.bool false)), none⟩,
        ⟨some 6, .asg (.t 27), none⟩])
      (.ret))
      (.seq (.ins [
        ⟨some 29, .bin .eql (.t 14) (.c (.int .i64 2)), none⟩,
        ⟨some 28, .asg (.t 29), none⟩])
      (.cond (.t 28)
        (.seq (.ins [
          ⟨some 30, .faddr 2 (.t 5), none⟩,
          ⟨some 31, .load none (.t 30), none⟩,
          ⟨some 32, .faddr 0 (.t 3), none⟩,
          ⟨some 33, .load none (.t 32), none⟩,
          ⟨some 34, .bin .sub (.t 33) (.c (.int .i64 1)), none⟩,
          ⟨some 35, .call 48 [.t 31, .c (.int .i64 0), .t 34], none⟩,
          ⟨some 36, .mov (.t 35), none⟩,
          ⟨some 37, .faddr 3 (.t 5), some (36, true)⟩,
          ⟨some 38, .load none (.t 37), some (36, true)⟩,
          ⟨some 39, .bin .eql (.t 38) (.c (.int .i64 0)), some (36, true)⟩,
          ⟨some 40, .pick (.t 36) (.t 39) (.c (.bool false)), none⟩,
          ⟨some 6, .asg (.t 40), none⟩])
        (.ret))
        (.seq (.seq (.ins [
          ⟨some 42, .bin .eql (.t 14) (.c (.int .i64 3)), none⟩,
          ⟨some 41, .asg (.t 42), none⟩])
        (.cond (.t 41)
          (.skip)
          (.ins [
            ⟨some 43, .bin .eql (.t 14) (.c (.int .i64 6)), none⟩,
            ⟨some 41, .asg (.t 43), none⟩])))
        (.cond (.t 41)
          (.seq (.ins [
            ⟨some 44, .faddr 2 (.t 5), none⟩,
            ⟨some 45, .load none (.t 44), none⟩,
            ⟨some 46, .faddr 1 (.t 3), none⟩,
            ⟨some 47, .load none (.t 46), none⟩,
            ⟨some 48, .len (.t 47), none⟩,
            ⟨some 49, .bin .sub (.t 48) (.c (.int .i64 1)), none⟩,
            ⟨some 50, .call 48 [.t 45, .c (.int .i64 0), .t 49], none⟩,
            ⟨some 51, .mov (.t 50), none⟩,
            ⟨some 52, .faddr 3 (.t 5), some (51, true)⟩,
            ⟨some 53, .load none (.t 52), some (51, true)⟩,
            ⟨some 54, .bin .eql (.t 53) (.c (.int .i64 0)), some (51, true)⟩,
            ⟨some 55, .pick (.t 51) (.t 54) (.c (.bool false)), none⟩,
            ⟨some 6, .asg (.t 55), none⟩])
          (.ret))
          (.seq (.seq (.ins [
            ⟨some 57, .bin .eql (.t 14) (.c (.int .i64 4)), none⟩,
            ⟨some 56, .asg (.t 57), none⟩])
          (.cond (.t 56)
            (.skip)
            (.ins [
              ⟨some 58, .bin .eql (.t 14) (.c (.int .i64 5)), none⟩,
              ⟨some 56, .asg (.t 58), none⟩])))
          (.cond (.t 56)
            (.seq (.ins [
              ⟨some 59, .faddr 2 (.t 5), none⟩,
              ⟨some 60, .load none (.t 59), none⟩,
              ⟨some 61, .bin .eql (.t 60) (.c (.int .i64 0)), none⟩,
              ⟨some 62, .mov (.t 61), none⟩,
              ⟨some 63, .faddr 3 (.t 5), some (62, true)⟩,
              ⟨some 64, .load none (.t 63), some (62, true)⟩,
              ⟨some 65, .bin .eql (.t 64) (.c (.int .i64 0)), some (62, true)⟩,
              ⟨some 66, .pick (.t 62) (.t 65) (.c (.bool false)), none⟩,
              ⟨some 6, .asg (.t 66), none⟩])
            (.ret))
            (.skip)))))))))))
  (.seq (.ins [
    ⟨some 6, .asg (.c (.bool false)), none⟩])
  (.ret))))
def rs64 : List RV := [.t 6]
theorem fn64 : FnIR Try.prog 64 67 ir64 rs64 := ⟨Try.f64, (Try.f64.body).getD .skip, Try.func64, by kernel_rfl, by kernel_rfl, by kernel_rfl, by kernel_rfl, by kernel_rfl⟩
/-- slices.Clone[[]int,int] -/
def ir65 : IR :=
  .seq (.ins [
    ⟨some 2, .asg (.c (.slice none 0 0)), none⟩])
  (.seq (.seq (.ins [
    ⟨some 3, .mov (.t 0), none⟩,
    ⟨some 4, .eqnil false (.t 3), none⟩])
  (.cond (.t 4)
    (.seq (.ins [
      ⟨some 2, .asg (.c (.slice none 0 0)), none⟩])
    (.ret))
    (.skip)))
  (.seq (.ins [
    ⟨some 5, .bsl 1 (.int .i64 0) 0 [], none⟩,
    ⟨some 6, .mov (.t 0), none⟩,
    ⟨some 7, .app 1 8 (.t 5) (.t 6), none⟩,
    ⟨some 2, .asg (.t 7), none⟩])
  (.ret)))
def rs65 : List RV := [.t 2]
theorem fn65 : FnIR Try.prog 65 8 ir65 rs65 := ⟨Try.f65, (Try.f65.body).getD .skip, Try.func65, by kernel_rfl, by kernel_rfl, by kernel_rfl, by kernel_rfl, by kernel_rfl⟩
/-- (padlock/control.tick).decide -/
def ir66 : IR :=
  .seq (.ins [
    ⟨some 4, .box (.t 0), none⟩,
    ⟨some 5, .box (.t 1), none⟩,
    ⟨some 7, .box (.t 3), none⟩,
    ⟨some 8, .asg (.c (.int .i64 0)), none⟩])
  (.seq (.ins [
    ⟨some 11, .mkf 76 [.t 4, .t 5], none⟩,
    ⟨some 9, .asg (.t 11), none⟩])
  (.seq (.ins [
    ⟨some 12, .mkf 77 [.t 4], none⟩,
    ⟨some 10, .asg (.t 12), none⟩])
  (.seq (.seq (.ins [
    ⟨some 13, .mov (.t 2), none⟩,
    ⟨some 14, .faddr 3 (.t 5), none⟩,
    ⟨some 15, .load none (.t 14), none⟩,
    ⟨some 16, .bin .geq (.t 13) (.t 15), none⟩,
    ⟨some 17, .mov (.t 16), none⟩,
    ⟨some 18, .faddr 1 (.t 7), some (17, false)⟩,
    ⟨some 19, .load none (.t 18), some (17, false)⟩,
    ⟨some 20, .mov (.t 9), some (17, false)⟩,
    ⟨some 21, .call 50 [.t 19, .t 20], some (17, false)⟩,
    ⟨some 22, .pick (.t 17) (.c (.bool true)) (.t 21), none⟩,
    ⟨some 23, .mov (.t 22), none⟩,
    ⟨some 24, .faddr 1 (.t 7), some (23, false)⟩,
    ⟨some 25, .load none (.t 24), some (23, false)⟩,
    ⟨some 26, .mov (.t 10), some (23, false)⟩,
    ⟨some 27, .call 50 [.t 25, .t 26], some (23, false)⟩,
    ⟨some 28, .un .not (.t 27), some (23, false)⟩,
    ⟨some 29, .pick (.t 23) (.c (.bool true)) (.t 28), none⟩])
  (.cond (.t 29)
    (.seq (.ins [
      ⟨some 8, .asg (.c (.int .i64 2)), none⟩])
    (.ret))
    (.skip)))
  (.seq (.ins [
    ⟨some 8, .asg (.c (.int .i64 1)), none⟩])
  (.ret)))))
def rs66 : List RV := [.t 8]
theorem fn66 : FnIR Try.prog 66 30 ir66 rs66 := ⟨Try.f66, (Try.f66.body).getD .skip, Try.func66, by kernel_rfl, by kernel_rfl, by kernel_rfl, by kernel_rfl, by kernel_rfl⟩
/-- (padlock/control.door).next -/
def ir67 : IR :=
  .seq (.ins [
    ⟨some 5, .box (.t 0), none⟩,
    ⟨some 10, .alloc (.agg #[.int .i64 0, .bool false]), none⟩])
  (.seq (.ins [
    ⟨some 11, .faddr 0 (.t 5), none⟩,
    ⟨some 12, .load none (.t 11), none⟩,
    ⟨some 13, .bin .sub (.t 12) (.c (.int .i64 1)), none⟩,
    ⟨some 14, .maxx (.c (.int .i64 0)) [.t 13], none⟩,
    ⟨some 15, .faddr 0 (.t 5), none⟩,
    ⟨none, .store 1 (.t 15) (.t 14), none⟩])
  (.seq (.block 0 (.seq (.seq (.ins [
      ⟨some 17, .mov (.t 2), none⟩,
      ⟨some 18, .un .not (.t 17), none⟩,
      ⟨some 16, .asg (.t 18), none⟩])
    (.cond (.t 16)
      (.skip)
      (.ins [
        ⟨some 19, .mov (.t 4), none⟩,
        ⟨some 20, .bin .eql (.t 19) (.c (.int .i64 2)), none⟩,
        ⟨some 16, .asg (.t 20), none⟩])))
    (.cond (.t 16)
      (.ins [
        ⟨some 21, .faddr 0 (.t 5), none⟩,
        ⟨none, .store 1 (.t 21) (.c (.int .i64 0)), none⟩])
      (.seq (.ins [
        ⟨some 23, .mov (.t 4), none⟩,
        ⟨some 24, .bin .eql (.t 23) (.c (.int .i64 1)), none⟩,
        ⟨some 22, .asg (.t 24), none⟩])
      (.cond (.t 22)
        (.ins [
          ⟨some 25, .mov (.t 1), none⟩,
          ⟨some 26, .faddr 0 (.t 5), none⟩,
          ⟨none, .store 1 (.t 26) (.t 25), none⟩])
        (.skip))))))
  (.seq (.ins [
    ⟨some 27, .mov (.t 2), none⟩,
    ⟨some 28, .mov (.t 27), none⟩,
    ⟨some 29, .faddr 0 (.t 5), some (28, true)⟩,
    ⟨some 30, .load none (.t 29), some (28, true)⟩,
    ⟨some 31, .bin .gtr (.t 30) (.c (.int .i64 0)), some (28, true)⟩,
    ⟨some 32, .pick (.t 28) (.t 31) (.c (.bool false)), none⟩,
    ⟨some 33, .mov (.t 32), none⟩,
    ⟨some 34, .mov (.t 3), some (33, true)⟩,
    ⟨some 35, .un .not (.t 34), some (33, true)⟩,
    ⟨some 36, .mov (.t 35), some (33, true)⟩,
    ⟨some 37, .faddr 1 (.t 5), some (36, false)⟩,
    ⟨some 38, .load none (.t 37), some (36, false)⟩,
    ⟨some 39, .pick (.t 36) (.c (.bool true)) (.t 38), some (33, true)⟩,
    ⟨some 40, .pick (.t 33) (.t 39) (.c (.bool false)), none⟩,
    ⟨some 41, .faddr 1 (.t 5), none⟩,
    ⟨none, .store 1 (.t 41) (.t 40), none⟩])
  (.seq (.ins [
    ⟨some 42, .load (some 2) (.t 5), none⟩,
    ⟨none, .store 2 (.t 10) (.t 42), none⟩])
  (.ret)))))
def rs67 : List RV := [.cell (some 2) 10]
theorem fn67 : FnIR Try.prog 67 43 ir67 rs67 := ⟨Try.f67, (Try.f67.body).getD .skip, Try.func67, by kernel_rfl, by kernel_rfl, by kernel_rfl, by kernel_rfl, by kernel_rfl⟩
def ir68_l0 : IR :=
  .loop (.seq (.ins [
    ⟨some 9, .bin .lss (.t 8) (.t 7), none⟩])
  (.seq (.cond (.t 9)
    (.skip)
    (.exit 0))
  (.seq (.block 1 (.seq (.ins [
      ⟨some 10, .mov (.t 8), none⟩,
      ⟨some 5, .asg (.t 10), none⟩])
    (.seq (.ins [
      ⟨some 11, .mov (.t 1), none⟩,
      ⟨some 12, .mov (.t 0), none⟩,
      ⟨some 13, .mov (.t 5), none⟩,
      ⟨some 14, .iaddr 3 (.t 12) (.t 13), none⟩,
      ⟨some 15, .load (some 3) (.t 14), none⟩,
      ⟨some 16, .callv (.t 11) [.t 15], none⟩])
    (.cond (.t 16)
      (.seq (.ins [
        ⟨some 17, .mov (.t 5), none⟩,
        ⟨some 4, .asg (.t 17), none⟩])
      (.ret))
      (.skip)))))
  (.ins [
    ⟨some 18, .bin .add (.t 8) (.c (.int .i64 1)), none⟩,
    ⟨some 8, .mov (.t 18), none⟩]))))
/-- slices.IndexFunc[[]padlock/api.Sense,padlock/api.Sense] -/
def ir68 : IR :=
  .seq (.ins [
    ⟨some 4, .asg (.c (.int .i64 0)), none⟩])
  (.seq (.seq (.ins [
    ⟨some 6, .mov (.t 0), none⟩,
    ⟨some 7, .len (.t 6), none⟩,
    ⟨some 8, .mov (.c (.int .i64 0)), none⟩])
  (.block 0 (ir68_l0)))
  (.seq (.ins [
    ⟨some 4, .asg (.c (.int .i64 (-1))), none⟩])
  (.ret)))
def rs68 : List RV := [.t 4]
theorem fn68 : FnIR Try.prog 68 19 ir68 rs68 := ⟨Try.f68, (Try.f68.body).getD .skip, Try.func68, by kernel_rfl, by kernel_rfl, by kernel_rfl, by kernel_rfl, by kernel_rfl⟩
def ir70_l0 : IR :=
  .loop (.seq (.seq (.ins [
    ⟨some 10, .mov (.t 9), none⟩,
    ⟨some 11, .mov (.t 0), none⟩,
    ⟨some 12, .len (.t 11), none⟩,
    ⟨some 13, .bin .lss (.t 10) (.t 12), none⟩])
  (.cond (.t 13)
    (.skip)
    (.exit 0)))
  (.seq (.block 1 (.seq (.ins [
      ⟨some 16, .mov (.t 0), none⟩,
      ⟨some 17, .mov (.t 9), none⟩,
      ⟨some 18, .iaddr 4 (.t 16) (.t 17), none⟩,
      ⟨some 19, .faddr 0 (.t 18), none⟩,
      ⟨some 20, .load none (.t 19), none⟩,
      ⟨some 21, .mov (.t 1), none⟩,
      ⟨some 22, .bin .eql (.t 20) (.t 21), none⟩,
      ⟨some 23, .mov (.t 22), none⟩,
      ⟨some 24, .mov (.t 0), some (23, true)⟩,
      ⟨some 25, .mov (.t 9), some (23, true)⟩,
      ⟨some 26, .iaddr 4 (.t 24) (.t 25), some (23, true)⟩,
      ⟨some 27, .faddr 1 (.t 26), some (23, true)⟩,
      ⟨some 28, .load none (.t 27), some (23, true)⟩,
      ⟨some 29, .mov (.t 2), some (23, true)⟩,
      ⟨some 30, .bin .eql (.t 28) (.t 29), some (23, true)⟩,
      ⟨some 31, .pick (.t 23) (.t 30) (.c (.bool false)), none⟩,
      ⟨some 32, .mov (.t 31), none⟩,
      ⟨some 33, .mov (.t 0), some (32, true)⟩,
      ⟨some 34, .mov (.t 9), some (32, true)⟩,
      ⟨some 35, .iaddr 4 (.t 33) (.t 34), some (32, true)⟩,
      ⟨some 36, .faddr 2 (.t 35), some (32, true)⟩,
      ⟨some 37, .load none (.t 36), some (32, true)⟩,
      ⟨some 38, .mov (.t 3), some (32, true)⟩,
      ⟨some 39, .bin .eql (.t 37) (.t 38), some (32, true)⟩,
      ⟨some 40, .pick (.t 32) (.t 39) (.c (.bool false)), none⟩])
    (.cond (.t 40)
      (.seq (.ins [
        ⟨some 8, .asg (.c (.bool true)), none⟩])
      (.ret))
      (.skip))))
  (.ins [
    ⟨some 14, .mov (.t 9), none⟩,
    ⟨some 15, .bin .add (.t 14) (.c (.int .i64 1)), none⟩,
    ⟨some 9, .asg (.t 15), none⟩])))
/-- padlock/padlockref08.has -/
def ir70 : IR :=
  .seq (.ins [
    ⟨some 8, .asg (.c (.bool false)), none⟩])
  (.seq (.seq (.ins [
    ⟨some 9, .asg (.c (.int .i64 0)), none⟩])
  (.block 0 (ir70_l0)))
  (.seq (.ins [
    ⟨some 8, .asg (.c (.bool false)), none⟩])
  (.ret)))
def rs70 : List RV := [.t 8]
theorem fn70 : FnIR Try.prog 70 41 ir70 rs70 := ⟨Try.f70, (Try.f70.body).getD .skip, Try.func70, by kernel_rfl, by kernel_rfl, by kernel_rfl, by kernel_rfl, by kernel_rfl⟩
def ir75_l0 : IR :=
  .loop (.seq (.ins [
    ⟨some 9, .bin .lss (.t 8) (.t 7), none⟩])
  (.seq (.cond (.t 9)
    (.skip)
    (.exit 0))
  (.seq (.block 1 (.seq (.ins [
      ⟨some 10, .mov (.t 8), none⟩,
      ⟨some 5, .asg (.t 10), none⟩])
    (.seq (.ins [
      ⟨some 11, .mov (.t 1), none⟩,
      ⟨some 12, .mov (.t 0), none⟩,
      ⟨some 13, .mov (.t 5), none⟩,
      ⟨some 14, .iaddr 4 (.t 12) (.t 13), none⟩,
      ⟨some 15, .load (some 4) (.t 14), none⟩,
      ⟨some 16, .callv (.t 11) [.t 15], none⟩])
    (.cond (.t 16)
      (.seq (.ins [
        ⟨some 17, .mov (.t 5), none⟩,
        ⟨some 4, .asg (.t 17), none⟩])
      (.ret))
      (.skip)))))
  (.ins [
    ⟨some 18, .bin .add (.t 8) (.c (.int .i64 1)), none⟩,
    ⟨some 8, .mov (.t 18), none⟩]))))
/-- slices.IndexFunc[[]padlock/api.Signal,padlock/api.Signal] -/
def ir75 : IR :=
  .seq (.ins [
    ⟨some 4, .asg (.c (.int .i64 0)), none⟩])
  (.seq (.seq (.ins [
    ⟨some 6, .mov (.t 0), none⟩,
    ⟨some 7, .len (.t 6), none⟩,
    ⟨some 8, .mov (.c (.int .i64 0)), none⟩])
  (.block 0 (ir75_l0)))
  (.seq (.ins [
    ⟨some 4, .asg (.c (.int .i64 (-1))), none⟩])
  (.ret)))
def rs75 : List RV := [.t 4]
theorem fn75 : FnIR Try.prog 75 19 ir75 rs75 := ⟨Try.f75, (Try.f75.body).getD .skip, Try.func75, by kernel_rfl, by kernel_rfl, by kernel_rfl, by kernel_rfl, by kernel_rfl⟩
/-- (padlock/control.tick).decide$1 -/
def ir76 : IR :=
  .seq (.ins [
    ⟨some 3, .box (.t 0), none⟩,
    ⟨some 4, .asg (.c (.bool false)), none⟩])
  (.seq (.drawn [
    ⟨some 5, .faddr 2 (.t 1), none⟩,
    ⟨some 6, .load none (.t 5), none⟩,
    ⟨some 7, .faddr 0 (.t 3), none⟩,
    ⟨some 8, .load none (.t 7), none⟩,
    ⟨some 9, .iaddr 1 (.t 6) (.t 8), none⟩,
    ⟨some 10, .load none (.t 9), none⟩,
    ⟨some 11, .faddr 2 (.t 2), none⟩,
    ⟨some 12, .load none (.t 11), none⟩,
    ⟨some 13, .bin .geq (.t 10) (.t 12), none⟩,
    ⟨some 4, .asg (.t 13), none⟩]
  (.still 0 (.still 1 (.still 2 (.still 3 (.still 4 (.still 5 (.still 6 (.still 7 (.still 8 (.eff 9 [] (.done) (.none))))))))))))
  (.ret))
def rs76 : List RV := [.t 4]
theorem fn76 : FnIR Try.prog 76 14 ir76 rs76 := ⟨Try.f76, (Try.f76.body).getD .skip, Try.func76, by kernel_rfl, by kernel_rfl, by kernel_rfl, by kernel_rfl, by kernel_rfl⟩
/-- (padlock/control.tick).decide$2 -/
def ir77 : IR :=
  .seq (.ins [
    ⟨some 2, .box (.t 0), none⟩,
    ⟨some 3, .asg (.c (.bool false)), none⟩])
  (.seq (.drawn [
    ⟨some 4, .faddr 1 (.t 1), none⟩,
    ⟨some 5, .load none (.t 4), none⟩,
    ⟨some 6, .faddr 0 (.t 2), none⟩,
    ⟨some 7, .load none (.t 6), none⟩,
    ⟨some 8, .iaddr 1 (.t 5) (.t 7), none⟩,
    ⟨some 9, .load none (.t 8), none⟩,
    ⟨some 10, .faddr 1 (.t 2), none⟩,
    ⟨some 11, .load none (.t 10), none⟩,
    ⟨some 12, .bin .eql (.t 9) (.t 11), none⟩,
    ⟨some 13, .faddr 2 (.t 2), none⟩,
    ⟨some 14, .load none (.t 13), none⟩,
    ⟨some 15, .boolq false (.t 12) (.t 14), none⟩,
    ⟨some 3, .asg (.t 15), none⟩]
  (.still 0 (.still 1 (.still 2 (.still 3 (.still 4 (.still 5 (.still 6 (.still 7 (.still 8 (.still 9 (.still 10 (.still 11 (.eff 12 [] (.done) (.none)))))))))))))))
  (.ret))
def rs77 : List RV := [.t 3]
theorem fn77 : FnIR Try.prog 77 16 ir77 rs77 := ⟨Try.f77, (Try.f77.body).getD .skip, Try.func77, by kernel_rfl, by kernel_rfl, by kernel_rfl, by kernel_rfl, by kernel_rfl⟩
end Go.Proofs.Ytjnencdmejhmjaa.Eng
