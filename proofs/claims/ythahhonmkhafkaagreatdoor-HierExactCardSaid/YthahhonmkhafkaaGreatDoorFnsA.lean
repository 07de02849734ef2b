/- The abstract code of the functions, each checked against the loaded program. Printed by wip/tools/gen.py. -/
import Derived.Test.YthahhonmkhafkaaGreatDoorMachF
import Derived.Test.YthahhonmkhafkaaGreatDoorProg
import Derived.KernelRfl
namespace Go.Proofs.YthahhonmkhafkaaGreatDoor.Am
open Go
set_option maxRecDepth 100000
def f9_b0 : ACode := (.wrap true [1, 3, 4, 5] [2] [(2, [1, 3, 4])]
  (.seq (.seq (.region false [
    ⟨some 56, .mov .cp (.t 5), none⟩,
    ⟨some 57, .fa 4 (.t 4), none⟩,
    ⟨some 58, .ld .cp none (.t 57), none⟩,
    ⟨some 59, .len 0 (.t 58), none⟩,
    ⟨some 60, .bin .lss (.t 56) (.t 59), none⟩] [1, 3, 4, 5, 60])
  (.cond (.t 60)
    .skip
    (.exit 2)))
  (.seq (.block 3 (.seq (.region false [
    ⟨some 63, .fa 4 (.t 4), none⟩,
    ⟨some 64, .ld .cp none (.t 63), none⟩,
    ⟨some 65, .mov .cp (.t 5), none⟩,
    ⟨some 66, .ia 4 (.t 64) (.t 65), none⟩,
    ⟨some 67, .fa 0 (.t 66), none⟩,
    ⟨some 68, .ld .cp none (.t 67), none⟩,
    ⟨some 69, .len 1 (.t 68), none⟩,
    ⟨some 70, .bin .gtr (.t 69) (.k (.c (.b (.d (.int .i64 60))))), none⟩,
    ⟨some 71, .mov .cp (.t 70), none⟩,
    ⟨some 72, .fa 4 (.t 4), (some (71, false))⟩,
    ⟨some 73, .ld .cp none (.t 72), (some (71, false))⟩,
    ⟨some 74, .mov .cp (.t 5), (some (71, false))⟩,
    ⟨some 75, .ia 4 (.t 73) (.t 74), (some (71, false))⟩,
    ⟨some 76, .fa 1 (.t 75), (some (71, false))⟩,
    ⟨some 77, .fa 1 (.t 76), (some (71, false))⟩,
    ⟨some 78, .ld .cp none (.t 77), (some (71, false))⟩,
    ⟨some 79, .len 1 (.t 78), (some (71, false))⟩,
    ⟨some 80, .bin .gtr (.t 79) (.k (.c (.b (.d (.int .i64 60))))), (some (71, false))⟩,
    ⟨some 81, .pick (.t 71) (.k (.c (.b (.d (.bool true))))) (.t 80), none⟩] [1, 3, 4, 5, 81])
  (.cond (.t 81)
    (.seq (.region false [
      ⟨some 2, .mov .own (.k (.c (.b (.d (.bool true))))), none⟩] [2])
    .ret)
    .skip)))
  (.region false [
    ⟨some 61, .mov .cp (.t 5), none⟩,
    ⟨some 62, .bin .add (.t 61) (.k (.c (.b (.d (.int .i64 1))))), none⟩,
    ⟨some 5, .mov .cp (.t 62), none⟩] [1, 3, 4, 5]))))
def f9_l0 : ACode := .loop f9_b0
theorem u9_l0 {bd : Bd} {s : St} {β : Type} {k : AExit → St → Option β} {fns : Nat → Option AFun} : K fns bd f9_l0 s k = K fns bd f9_b0 s (fun e s' => match e with | .normal => K fns bd f9_l0 s' k | e => k e s') := K_loop
def f9_b1 : ACode := (.wrap true [1, 3, 4, 6] [2] [(4, [1, 3, 4])]
  (.seq (.seq (.region false [
    ⟨some 82, .mov .cp (.t 6), none⟩,
    ⟨some 83, .fa 3 (.t 4), none⟩,
    ⟨some 84, .ld .cp none (.t 83), none⟩,
    ⟨some 85, .len 0 (.t 84), none⟩,
    ⟨some 86, .bin .lss (.t 82) (.t 85), none⟩] [1, 3, 4, 6, 86])
  (.cond (.t 86)
    .skip
    (.exit 4)))
  (.seq (.block 5 (.seq (.region false [
    ⟨some 89, .fa 3 (.t 4), none⟩,
    ⟨some 90, .ld .cp none (.t 89), none⟩,
    ⟨some 91, .mov .cp (.t 6), none⟩,
    ⟨some 92, .ia 1 (.t 90) (.t 91), none⟩,
    ⟨some 93, .ld .cp none (.t 92), none⟩,
    ⟨some 94, .len 1 (.t 93), none⟩,
    ⟨some 95, .bin .gtr (.t 94) (.k (.c (.b (.d (.int .i64 60))))), none⟩] [1, 3, 4, 6, 95])
  (.cond (.t 95)
    (.seq (.region false [
      ⟨some 2, .mov .own (.k (.c (.b (.d (.bool true))))), none⟩] [2])
    .ret)
    .skip)))
  (.region false [
    ⟨some 87, .mov .cp (.t 6), none⟩,
    ⟨some 88, .bin .add (.t 87) (.k (.c (.b (.d (.int .i64 1))))), none⟩,
    ⟨some 6, .mov .cp (.t 88), none⟩] [1, 3, 4, 6]))))
def f9_l1 : ACode := .loop f9_b1
theorem u9_l1 {bd : Bd} {s : St} {β : Type} {k : AExit → St → Option β} {fns : Nat → Option AFun} : K fns bd f9_l1 s k = K fns bd f9_b1 s (fun e s' => match e with | .normal => K fns bd f9_l1 s' k | e => k e s') := K_loop
def f9_b2 : ACode := (.wrap true [1, 3, 4, 7, 8, 9] [2] [(8, [1, 3, 4, 7, 8])]
  (.seq (.seq (.region false [
    ⟨some 137, .mov .cp (.t 9), none⟩,
    ⟨some 138, .fa 7 (.t 8), none⟩,
    ⟨some 139, .ld .cp none (.t 138), none⟩,
    ⟨some 140, .len 0 (.t 139), none⟩,
    ⟨some 141, .bin .lss (.t 137) (.t 140), none⟩] [1, 3, 4, 7, 8, 9, 141])
  (.cond (.t 141)
    .skip
    (.exit 8)))
  (.seq (.block 9 (.seq (.region false [
    ⟨some 144, .fa 7 (.t 8), none⟩,
    ⟨some 145, .ld .cp none (.t 144), none⟩,
    ⟨some 146, .mov .cp (.t 9), none⟩,
    ⟨some 147, .ia 4 (.t 145) (.t 146), none⟩,
    ⟨some 148, .fa 2 (.t 147), none⟩,
    ⟨some 149, .ld .cp none (.t 148), none⟩,
    ⟨some 150, .len 1 (.t 149), none⟩,
    ⟨some 151, .bin .gtr (.t 150) (.k (.c (.b (.d (.int .i64 60))))), none⟩,
    ⟨some 152, .mov .cp (.t 151), none⟩,
    ⟨some 153, .fa 7 (.t 8), (some (152, false))⟩,
    ⟨some 154, .ld .cp none (.t 153), (some (152, false))⟩,
    ⟨some 155, .mov .cp (.t 9), (some (152, false))⟩,
    ⟨some 156, .ia 4 (.t 154) (.t 155), (some (152, false))⟩,
    ⟨some 157, .fa 3 (.t 156), (some (152, false))⟩,
    ⟨some 158, .ld .cp none (.t 157), (some (152, false))⟩,
    ⟨some 159, .len 1 (.t 158), (some (152, false))⟩,
    ⟨some 160, .bin .gtr (.t 159) (.k (.c (.b (.d (.int .i64 60))))), (some (152, false))⟩,
    ⟨some 161, .pick (.t 152) (.k (.c (.b (.d (.bool true))))) (.t 160), none⟩] [1, 3, 4, 7, 8, 9, 161])
  (.cond (.t 161)
    (.seq (.region false [
      ⟨some 2, .mov .own (.k (.c (.b (.d (.bool true))))), none⟩] [2])
    .ret)
    .skip)))
  (.region false [
    ⟨some 142, .mov .cp (.t 9), none⟩,
    ⟨some 143, .bin .add (.t 142) (.k (.c (.b (.d (.int .i64 1))))), none⟩,
    ⟨some 9, .mov .cp (.t 143), none⟩] [1, 3, 4, 7, 8, 9]))))
def f9_l2 : ACode := .loop f9_b2
theorem u9_l2 {bd : Bd} {s : St} {β : Type} {k : AExit → St → Option β} {fns : Nat → Option AFun} : K fns bd f9_l2 s k = K fns bd f9_b2 s (fun e s' => match e with | .normal => K fns bd f9_l2 s' k | e => k e s') := K_loop
def f9_b3 : ACode := (.wrap true [1, 3, 4, 7, 8, 10] [2] [(10, [1, 3, 4, 7, 8])]
  (.seq (.seq (.region false [
    ⟨some 162, .mov .cp (.t 10), none⟩,
    ⟨some 163, .fa 3 (.t 8), none⟩,
    ⟨some 164, .ld .cp none (.t 163), none⟩,
    ⟨some 165, .len 0 (.t 164), none⟩,
    ⟨some 166, .bin .lss (.t 162) (.t 165), none⟩] [1, 3, 4, 7, 8, 10, 166])
  (.cond (.t 166)
    .skip
    (.exit 10)))
  (.seq (.block 11 (.seq (.region false [
    ⟨some 169, .fa 3 (.t 8), none⟩,
    ⟨some 170, .ld .cp none (.t 169), none⟩,
    ⟨some 171, .mov .cp (.t 10), none⟩,
    ⟨some 172, .ia 2 (.t 170) (.t 171), none⟩,
    ⟨some 173, .fa 1 (.t 172), none⟩,
    ⟨some 174, .ld .cp none (.t 173), none⟩,
    ⟨some 175, .len 1 (.t 174), none⟩,
    ⟨some 176, .bin .gtr (.t 175) (.k (.c (.b (.d (.int .i64 60))))), none⟩] [1, 3, 4, 7, 8, 10, 176])
  (.cond (.t 176)
    (.seq (.region false [
      ⟨some 2, .mov .own (.k (.c (.b (.d (.bool true))))), none⟩] [2])
    .ret)
    .skip)))
  (.region false [
    ⟨some 167, .mov .cp (.t 10), none⟩,
    ⟨some 168, .bin .add (.t 167) (.k (.c (.b (.d (.int .i64 1))))), none⟩,
    ⟨some 10, .mov .cp (.t 168), none⟩] [1, 3, 4, 7, 8, 10]))))
def f9_l3 : ACode := .loop f9_b3
theorem u9_l3 {bd : Bd} {s : St} {β : Type} {k : AExit → St → Option β} {fns : Nat → Option AFun} : K fns bd f9_l3 s k = K fns bd f9_b3 s (fun e s' => match e with | .normal => K fns bd f9_l3 s' k | e => k e s') := K_loop
def f9_b4 : ACode := (.wrap true [1, 3, 4, 7, 8, 11] [2] [(12, [1, 3, 4, 7])]
  (.seq (.seq (.region false [
    ⟨some 177, .mov .cp (.t 11), none⟩,
    ⟨some 178, .fa 8 (.t 8), none⟩,
    ⟨some 179, .ld .cp none (.t 178), none⟩,
    ⟨some 180, .len 0 (.t 179), none⟩,
    ⟨some 181, .bin .lss (.t 177) (.t 180), none⟩] [1, 3, 4, 7, 8, 11, 181])
  (.cond (.t 181)
    .skip
    (.exit 12)))
  (.seq (.block 13 (.seq (.region false [
    ⟨some 184, .fa 8 (.t 8), none⟩,
    ⟨some 185, .ld .cp none (.t 184), none⟩,
    ⟨some 186, .mov .cp (.t 11), none⟩,
    ⟨some 187, .ia 4 (.t 185) (.t 186), none⟩,
    ⟨some 188, .fa 0 (.t 187), none⟩,
    ⟨some 189, .ld .cp none (.t 188), none⟩,
    ⟨some 190, .len 1 (.t 189), none⟩,
    ⟨some 191, .bin .gtr (.t 190) (.k (.c (.b (.d (.int .i64 60))))), none⟩] [1, 3, 4, 7, 8, 11, 191])
  (.cond (.t 191)
    (.seq (.region false [
      ⟨some 2, .mov .own (.k (.c (.b (.d (.bool true))))), none⟩] [2])
    .ret)
    .skip)))
  (.region false [
    ⟨some 182, .mov .cp (.t 11), none⟩,
    ⟨some 183, .bin .add (.t 182) (.k (.c (.b (.d (.int .i64 1))))), none⟩,
    ⟨some 11, .mov .cp (.t 183), none⟩] [1, 3, 4, 7, 8, 11]))))
def f9_l4 : ACode := .loop f9_b4
theorem u9_l4 {bd : Bd} {s : St} {β : Type} {k : AExit → St → Option β} {fns : Nat → Option AFun} : K fns bd f9_l4 s k = K fns bd f9_b4 s (fun e s' => match e with | .normal => K fns bd f9_l4 s' k | e => k e s') := K_loop
def f9_b5 : ACode := (.wrap true [1, 3, 4, 7] [2] [(6, [1, 3])]
  (.seq (.seq (.region false [
    ⟨some 96, .mov .cp (.t 7), none⟩,
    ⟨some 97, .fa 5 (.t 4), none⟩,
    ⟨some 98, .ld .cp none (.t 97), none⟩,
    ⟨some 99, .len 0 (.t 98), none⟩,
    ⟨some 100, .bin .lss (.t 96) (.t 99), none⟩] [1, 3, 4, 7, 100])
  (.cond (.t 100)
    .skip
    (.exit 6)))
  (.seq (.block 7 (.seq (.region false [
    ⟨some 103, .fa 5 (.t 4), none⟩,
    ⟨some 104, .ld .cp none (.t 103), none⟩,
    ⟨some 105, .mov .cp (.t 7), none⟩,
    ⟨some 106, .ia 9 (.t 104) (.t 105), none⟩,
    ⟨some 107, .ld .cp (some 9) (.t 106), none⟩,
    ⟨some 8, .alloc [(.b (.d (.str ⟨#[]⟩))), (.b (.d (.bool false))), (.b (.d (.bool false))), (.osl 2 []), (.b (.d (.int .i64 0))), (.b (.d (.str ⟨#[]⟩))), (.b (.d (.int .i64 0))), (.osl 4 []), (.osl 4 [])], none⟩,
    ⟨none, .st 9 (.t 8) (.t 107), none⟩] [1, 3, 4, 7, 8])
  (.seq (.seq (.region false [
    ⟨some 108, .fa 0 (.t 8), none⟩,
    ⟨some 109, .ld .cp none (.t 108), none⟩,
    ⟨some 110, .len 1 (.t 109), none⟩,
    ⟨some 111, .bin .gtr (.t 110) (.k (.c (.b (.d (.int .i64 60))))), none⟩,
    ⟨some 112, .mov .cp (.t 111), none⟩,
    ⟨some 113, .fa 3 (.t 8), (some (112, false))⟩,
    ⟨some 114, .ld .cp none (.t 113), (some (112, false))⟩,
    ⟨some 115, .len 0 (.t 114), (some (112, false))⟩,
    ⟨some 116, .bin .gtr (.t 115) (.k (.c (.b (.d (.int .i64 10))))), (some (112, false))⟩,
    ⟨some 117, .pick (.t 112) (.k (.c (.b (.d (.bool true))))) (.t 116), none⟩,
    ⟨some 118, .mov .cp (.t 117), none⟩,
    ⟨some 119, .fa 7 (.t 8), (some (118, false))⟩,
    ⟨some 120, .ld .cp none (.t 119), (some (118, false))⟩,
    ⟨some 121, .len 0 (.t 120), (some (118, false))⟩,
    ⟨some 122, .bin .gtr (.t 121) (.k (.c (.b (.d (.int .i64 60))))), (some (118, false))⟩,
    ⟨some 123, .pick (.t 118) (.k (.c (.b (.d (.bool true))))) (.t 122), none⟩,
    ⟨some 124, .mov .cp (.t 123), none⟩,
    ⟨some 125, .fa 8 (.t 8), (some (124, false))⟩,
    ⟨some 126, .ld .cp none (.t 125), (some (124, false))⟩,
    ⟨some 127, .len 0 (.t 126), (some (124, false))⟩,
    ⟨some 128, .bin .gtr (.t 127) (.k (.c (.b (.d (.int .i64 10))))), (some (124, false))⟩,
    ⟨some 129, .pick (.t 124) (.k (.c (.b (.d (.bool true))))) (.t 128), none⟩,
    ⟨some 130, .mov .cp (.t 129), none⟩,
    ⟨some 131, .fa 4 (.t 8), (some (130, false))⟩,
    ⟨some 132, .fa 1 (.t 131), (some (130, false))⟩,
    ⟨some 133, .ld .cp none (.t 132), (some (130, false))⟩,
    ⟨some 134, .len 1 (.t 133), (some (130, false))⟩,
    ⟨some 135, .bin .gtr (.t 134) (.k (.c (.b (.d (.int .i64 60))))), (some (130, false))⟩,
    ⟨some 136, .pick (.t 130) (.k (.c (.b (.d (.bool true))))) (.t 135), none⟩] [1, 3, 4, 7, 8, 136])
  (.cond (.t 136)
    (.seq (.region false [
      ⟨some 2, .mov .own (.k (.c (.b (.d (.bool true))))), none⟩] [2])
    .ret)
    .skip))
  (.seq (.seq (.region false [
    ⟨some 9, .mov .cp (.k (.c (.b (.d (.int .i64 0))))), none⟩] [1, 3, 4, 7, 8, 9])
  (.block 8 f9_l2))
  (.seq (.seq (.region false [
    ⟨some 10, .mov .cp (.k (.c (.b (.d (.int .i64 0))))), none⟩] [1, 3, 4, 7, 8, 10])
  (.block 10 f9_l3))
  (.seq (.region false [
    ⟨some 11, .mov .cp (.k (.c (.b (.d (.int .i64 0))))), none⟩] [1, 3, 4, 7, 8, 11])
  (.block 12 f9_l4)))))))
  (.region false [
    ⟨some 101, .mov .cp (.t 7), none⟩,
    ⟨some 102, .bin .add (.t 101) (.k (.c (.b (.d (.int .i64 1))))), none⟩,
    ⟨some 7, .mov .cp (.t 102), none⟩] [1, 3, 4, 7]))))
def f9_l5 : ACode := .loop f9_b5
theorem u9_l5 {bd : Bd} {s : St} {β : Type} {k : AExit → St → Option β} {fns : Nat → Option AFun} : K fns bd f9_l5 s k = K fns bd f9_b5 s (fun e s' => match e with | .normal => K fns bd f9_l5 s' k | e => k e s') := K_loop
def f9_b6 : ACode := (.wrap true [1, 3] [2] [(0, [])]
  (.seq (.seq (.region false [
    ⟨some 16, .mov .cp (.t 3), none⟩,
    ⟨some 17, .fa 0 (.t 1), none⟩,
    ⟨some 18, .ld .cp none (.t 17), none⟩,
    ⟨some 19, .len 0 (.t 18), none⟩,
    ⟨some 20, .bin .lss (.t 16) (.t 19), none⟩] [1, 3, 20])
  (.cond (.t 20)
    .skip
    (.exit 0)))
  (.seq (.block 1 (.seq (.region false [
    ⟨some 23, .fa 0 (.t 1), none⟩,
    ⟨some 24, .ld .cp none (.t 23), none⟩,
    ⟨some 25, .mov .cp (.t 3), none⟩,
    ⟨some 26, .ia 6 (.t 24) (.t 25), none⟩,
    ⟨some 27, .ld .cp (some 6) (.t 26), none⟩,
    ⟨some 4, .alloc [(.b (.d (.str ⟨#[]⟩))), (.b (.d (.bool false))), (.b (.d (.str ⟨#[]⟩))), (.osl 1 []), (.osl 4 []), (.osl 9 [])], none⟩,
    ⟨none, .st 6 (.t 4) (.t 27), none⟩] [1, 3, 4])
  (.seq (.seq (.region false [
    ⟨some 28, .fa 4 (.t 4), none⟩,
    ⟨some 29, .ld .cp none (.t 28), none⟩,
    ⟨some 30, .len 0 (.t 29), none⟩,
    ⟨some 31, .bin .gtr (.t 30) (.k (.c (.b (.d (.int .i64 14))))), none⟩,
    ⟨some 32, .mov .cp (.t 31), none⟩,
    ⟨some 33, .fa 5 (.t 4), (some (32, false))⟩,
    ⟨some 34, .ld .cp none (.t 33), (some (32, false))⟩,
    ⟨some 35, .len 0 (.t 34), (some (32, false))⟩,
    ⟨some 36, .bin .gtr (.t 35) (.k (.c (.b (.d (.int .i64 14))))), (some (32, false))⟩,
    ⟨some 37, .pick (.t 32) (.k (.c (.b (.d (.bool true))))) (.t 36), none⟩,
    ⟨some 38, .mov .cp (.t 37), none⟩,
    ⟨some 39, .fa 3 (.t 4), (some (38, false))⟩,
    ⟨some 40, .ld .cp none (.t 39), (some (38, false))⟩,
    ⟨some 41, .len 0 (.t 40), (some (38, false))⟩,
    ⟨some 42, .bin .gtr (.t 41) (.k (.c (.b (.d (.int .i64 10))))), (some (38, false))⟩,
    ⟨some 43, .pick (.t 38) (.k (.c (.b (.d (.bool true))))) (.t 42), none⟩,
    ⟨some 44, .mov .cp (.t 43), none⟩,
    ⟨some 45, .fa 0 (.t 4), (some (44, false))⟩,
    ⟨some 46, .ld .cp none (.t 45), (some (44, false))⟩,
    ⟨some 47, .len 1 (.t 46), (some (44, false))⟩,
    ⟨some 48, .bin .gtr (.t 47) (.k (.c (.b (.d (.int .i64 60))))), (some (44, false))⟩,
    ⟨some 49, .pick (.t 44) (.k (.c (.b (.d (.bool true))))) (.t 48), none⟩,
    ⟨some 50, .mov .cp (.t 49), none⟩,
    ⟨some 51, .fa 2 (.t 4), (some (50, false))⟩,
    ⟨some 52, .ld .cp none (.t 51), (some (50, false))⟩,
    ⟨some 53, .len 1 (.t 52), (some (50, false))⟩,
    ⟨some 54, .bin .gtr (.t 53) (.k (.c (.b (.d (.int .i64 60))))), (some (50, false))⟩,
    ⟨some 55, .pick (.t 50) (.k (.c (.b (.d (.bool true))))) (.t 54), none⟩] [1, 3, 4, 55])
  (.cond (.t 55)
    (.seq (.region false [
      ⟨some 2, .mov .own (.k (.c (.b (.d (.bool true))))), none⟩] [2])
    .ret)
    .skip))
  (.seq (.seq (.region false [
    ⟨some 5, .mov .cp (.k (.c (.b (.d (.int .i64 0))))), none⟩] [1, 3, 4, 5])
  (.block 2 f9_l0))
  (.seq (.seq (.region false [
    ⟨some 6, .mov .cp (.k (.c (.b (.d (.int .i64 0))))), none⟩] [1, 3, 4, 6])
  (.block 4 f9_l1))
  (.seq (.region false [
    ⟨some 7, .mov .cp (.k (.c (.b (.d (.int .i64 0))))), none⟩] [1, 3, 4, 7])
  (.block 6 f9_l5)))))))
  (.region false [
    ⟨some 21, .mov .cp (.t 3), none⟩,
    ⟨some 22, .bin .add (.t 21) (.k (.c (.b (.d (.int .i64 1))))), none⟩,
    ⟨some 3, .mov .cp (.t 22), none⟩] [1, 3]))))
def f9_l6 : ACode := .loop f9_b6
theorem u9_l6 {bd : Bd} {s : St} {β : Type} {k : AExit → St → Option β} {fns : Nat → Option AFun} : K fns bd f9_l6 s k = K fns bd f9_b6 s (fun e s' => match e with | .normal => K fns bd f9_l6 s' k | e => k e s') := K_loop
/-- delver/delverlaw02.Heavy -/
def f9 : AFun := ⟨1,
  (.seq (.region false [
    ⟨some 1, .box (.t 0), none⟩,
    ⟨some 2, .mov .own (.k (.c (.b (.d (.bool false))))), none⟩] [1])
  (.seq (.seq (.region false [
    ⟨some 12, .fa 0 (.t 1), none⟩,
    ⟨some 13, .ld .cp none (.t 12), none⟩,
    ⟨some 14, .len 0 (.t 13), none⟩,
    ⟨some 15, .bin .gtr (.t 14) (.k (.c (.b (.d (.int .i64 14))))), none⟩] [1, 15])
  (.cond (.t 15)
    (.seq (.region false [
      ⟨some 2, .mov .own (.k (.c (.b (.d (.bool true))))), none⟩] [2])
    .ret)
    .skip))
  (.seq (.seq (.region false [
    ⟨some 3, .mov .cp (.k (.c (.b (.d (.int .i64 0))))), none⟩] [1, 3])
  (.block 0 f9_l6))
  (.seq (.region false [
    ⟨some 2, .mov .own (.k (.c (.b (.d (.bool false))))), none⟩] [2])
  .ret)))), [(.tmp 2)], .pure, false⟩
def f16_b0 : ACode := (.wrap true [0, 1, 5] [4] [(0, [])]
  (.seq (.seq (.region false [
    ⟨some 6, .mov .cp (.t 5), none⟩,
    ⟨some 7, .mov .cp (.t 0), none⟩,
    ⟨some 8, .len 0 (.t 7), none⟩,
    ⟨some 9, .bin .lss (.t 6) (.t 8), none⟩] [0, 1, 5, 9])
  (.cond (.t 9)
    .skip
    (.exit 0)))
  (.seq (.block 1 (.seq (.region false [
    ⟨some 12, .mov .cp (.t 0), none⟩,
    ⟨some 13, .mov .cp (.t 5), none⟩,
    ⟨some 14, .ia 6 (.t 12) (.t 13), none⟩,
    ⟨some 15, .fa 0 (.t 14), none⟩,
    ⟨some 16, .ld .cp none (.t 15), none⟩,
    ⟨some 17, .mov .cp (.t 1), none⟩,
    ⟨some 18, .bin .eql (.t 16) (.t 17), none⟩] [0, 1, 5, 18])
  (.cond (.t 18)
    (.seq (.region false [
      ⟨some 19, .mov .own (.t 5), none⟩,
      ⟨some 4, .mov .own (.t 19), none⟩] [4])
    .ret)
    .skip)))
  (.region false [
    ⟨some 10, .mov .cp (.t 5), none⟩,
    ⟨some 11, .bin .add (.t 10) (.k (.c (.b (.d (.int .i64 1))))), none⟩,
    ⟨some 5, .mov .own (.t 11), none⟩] [0, 1, 5]))))
def f16_l0 : ACode := .loop f16_b0
theorem u16_l0 {bd : Bd} {s : St} {β : Type} {k : AExit → St → Option β} {fns : Nat → Option AFun} : K fns bd f16_l0 s k = K fns bd f16_b0 s (fun e s' => match e with | .normal => K fns bd f16_l0 s' k | e => k e s') := K_loop
/-- delver/delverref04.At -/
def f16 : AFun := ⟨2,
  (.seq (.region false [
    ⟨some 4, .mov .own (.k (.c (.b (.d (.int .i64 0))))), none⟩] [0, 1])
  (.seq (.seq (.region false [
    ⟨some 5, .mov .own (.k (.c (.b (.d (.int .i64 0))))), none⟩] [0, 1, 5])
  (.block 0 f16_l0))
  (.seq (.region false [
    ⟨some 4, .mov .own (.k (.c (.b (.d (.int .i64 (-1)))))), none⟩] [4])
  .ret))), [(.tmp 4)], .pure, false⟩
/-- delver/delverkeep.TwinTypes -/
def f69 : AFun := ⟨1,
  (.seq (.region false [
    ⟨some 2, .mov .own (.k (.c (.osl 2 []))), none⟩] [0])
  (.seq (.region false [
    ⟨some 3, .mov .own (.k (.c (.osl 2 []))), none⟩] [0, 3])
  (.seq (.region false [
    ⟨some 4, .mov .own (.t 3), none⟩,
    ⟨some 5, .mov .cp (.t 0), none⟩,
    ⟨some 6, .app 2 24 (.t 4) (.t 5), none⟩,
    ⟨some 2, .mov .own (.t 6), none⟩] [2])
  .ret))), [(.tmp 2)], .pure, false⟩
/-- delver/delverkeep.TwinMethod -/
def f52 : AFun := ⟨1,
  (.seq (.region false [
    ⟨some 1, .box (.t 0), none⟩,
    ⟨some 2, .alloc [(.b (.d (.str ⟨#[]⟩))), (.b (.d (.bool false))), (.b (.d (.bool false))), (.osl 2 []), (.b (.d (.int .i64 0))), (.b (.d (.str ⟨#[]⟩))), (.b (.d (.int .i64 0))), (.osl 4 []), (.osl 4 [])], none⟩] [1, 2])
  (.seq (.region false [
    ⟨some 3, .mov .cp (.k (.c (.b .nils))), none⟩] [1, 2, 3])
  (.seq (.region false [
    ⟨some 4, .mov .cp (.k (.c (.b .nils))), none⟩] [1, 2, 3, 4])
  (.seq (.region true [
    ⟨some 5, .fa 3 (.t 1), none⟩,
    ⟨some 6, .ld .cp none (.t 5), none⟩,
    ⟨some 7, .callb 69 [(.t 6)], none⟩,
    ⟨some 8, .mov .cp (.t 3), none⟩,
    ⟨some 9, .fa 7 (.t 1), none⟩,
    ⟨some 10, .ld .cp none (.t 9), none⟩,
    ⟨some 11, .appn 4 48 (.t 8) (.t 10), none⟩,
    ⟨some 12, .mov .cp (.t 4), none⟩,
    ⟨some 13, .fa 8 (.t 1), none⟩,
    ⟨some 14, .ld .cp none (.t 13), none⟩,
    ⟨some 15, .appn 4 40 (.t 12) (.t 14), none⟩,
    ⟨some 16, .fa 3 (.t 1), none⟩,
    ⟨none, .st 1 (.t 16) (.t 7), none⟩,
    ⟨some 17, .fa 7 (.t 1), none⟩,
    ⟨none, .st 1 (.t 17) (.t 11), none⟩,
    ⟨some 18, .fa 8 (.t 1), none⟩,
    ⟨none, .st 1 (.t 18) (.t 15), none⟩] [1, 2])
  (.seq (.region false [
    ⟨some 19, .ld .cp (some 9) (.t 1), none⟩,
    ⟨none, .st 9 (.t 2) (.t 19), none⟩] [2])
  .ret))))), [(.cell 2 (some 9))], .pure, false⟩
def f36_b0 : ACode := (.wrap true [1, 2, 5, 6] [2] [(0, [1, 2, 5])]
  (.seq (.seq (.region false [
    ⟨some 17, .mov .cp (.t 6), none⟩,
    ⟨some 18, .fa 5 (.t 1), none⟩,
    ⟨some 19, .ld .cp none (.t 18), none⟩,
    ⟨some 20, .len 0 (.t 19), none⟩,
    ⟨some 21, .bin .lss (.t 17) (.t 20), none⟩] [1, 2, 5, 6, 21])
  (.cond (.t 21)
    .skip
    (.exit 0)))
  (.seq (.block 1 (.region false [
    ⟨some 24, .mov .own (.t 5), none⟩,
    ⟨some 25, .fa 5 (.t 1), none⟩,
    ⟨some 26, .ld .cp none (.t 25), none⟩,
    ⟨some 27, .mov .cp (.t 6), none⟩,
    ⟨some 28, .ia 9 (.t 26) (.t 27), none⟩,
    ⟨some 29, .ld .cp (some 9) (.t 28), none⟩,
    ⟨some 30, .callb 52 [(.t 29)], none⟩,
    ⟨some 31, .bsl .own 9 1 [(.b (.d (.str ⟨#[]⟩))), (.b (.d (.bool false))), (.b (.d (.bool false))), (.osl 2 []), (.b (.d (.int .i64 0))), (.b (.d (.str ⟨#[]⟩))), (.b (.d (.int .i64 0))), (.osl 4 []), (.osl 4 [])] [(0, (.t 30))], none⟩,
    ⟨some 32, .app 9 128 (.t 24) (.t 31), none⟩,
    ⟨some 5, .mov .own (.t 32), none⟩] [1, 2, 5, 6]))
  (.region false [
    ⟨some 22, .mov .cp (.t 6), none⟩,
    ⟨some 23, .bin .add (.t 22) (.k (.c (.b (.d (.int .i64 1))))), none⟩,
    ⟨some 6, .mov .cp (.t 23), none⟩] [1, 2, 5, 6]))))
def f36_l0 : ACode := .loop f36_b0
theorem u36_l0 {bd : Bd} {s : St} {β : Type} {k : AExit → St → Option β} {fns : Nat → Option AFun} : K fns bd f36_l0 s k = K fns bd f36_b0 s (fun e s' => match e with | .normal => K fns bd f36_l0 s' k | e => k e s') := K_loop
/-- delver/delverkeep.TwinClass -/
def f36 : AFun := ⟨1,
  (.seq (.region false [
    ⟨some 1, .box (.t 0), none⟩,
    ⟨some 2, .alloc [(.b (.d (.str ⟨#[]⟩))), (.b (.d (.bool false))), (.b (.d (.str ⟨#[]⟩))), (.osl 1 []), (.osl 4 []), (.osl 9 [])], none⟩] [1, 2])
  (.seq (.region false [
    ⟨some 3, .mov .cp (.k (.c (.b .nils))), none⟩] [1, 2, 3])
  (.seq (.region false [
    ⟨some 4, .mov .cp (.k (.c (.b .nils))), none⟩] [1, 2, 3, 4])
  (.seq (.region false [
    ⟨some 5, .mov .own (.k (.c (.osl 9 []))), none⟩] [1, 2, 3, 4, 5])
  (.seq (.region true [
    ⟨some 7, .mov .cp (.t 3), none⟩,
    ⟨some 8, .fa 3 (.t 1), none⟩,
    ⟨some 9, .ld .cp none (.t 8), none⟩,
    ⟨some 10, .appn 1 16 (.t 7) (.t 9), none⟩,
    ⟨some 11, .mov .cp (.t 4), none⟩,
    ⟨some 12, .fa 4 (.t 1), none⟩,
    ⟨some 13, .ld .cp none (.t 12), none⟩,
    ⟨some 14, .appn 4 48 (.t 11) (.t 13), none⟩,
    ⟨some 15, .fa 3 (.t 1), none⟩,
    ⟨none, .st 1 (.t 15) (.t 10), none⟩,
    ⟨some 16, .fa 4 (.t 1), none⟩,
    ⟨none, .st 1 (.t 16) (.t 14), none⟩] [1, 2, 5])
  (.seq (.seq (.region false [
    ⟨some 6, .mov .cp (.k (.c (.b (.d (.int .i64 0))))), none⟩] [1, 2, 5, 6])
  (.block 0 f36_l0))
  (.seq (.region false [
    ⟨some 33, .mov .cp (.t 5), none⟩,
    ⟨some 34, .fa 5 (.t 1), none⟩,
    ⟨none, .st 1 (.t 34) (.t 33), none⟩] [1, 2])
  (.seq (.region false [
    ⟨some 35, .ld .cp (some 6) (.t 1), none⟩,
    ⟨none, .st 6 (.t 2) (.t 35), none⟩] [2])
  .ret)))))))), [(.cell 2 (some 6))], .pure, false⟩
def f17_b0 : ACode := (.wrap true [1, 2, 3, 4] [2] [(0, [2, 3])]
  (.seq (.seq (.region false [
    ⟨some 5, .mov .cp (.t 4), none⟩,
    ⟨some 6, .fa 0 (.t 1), none⟩,
    ⟨some 7, .ld .cp none (.t 6), none⟩,
    ⟨some 8, .len 0 (.t 7), none⟩,
    ⟨some 9, .bin .lss (.t 5) (.t 8), none⟩] [1, 2, 3, 4, 9])
  (.cond (.t 9)
    .skip
    (.exit 0)))
  (.seq (.block 1 (.region true [
    ⟨some 12, .fa 0 (.t 3), none⟩,
    ⟨some 13, .ld .own none (.t 12), none⟩,
    ⟨some 14, .fa 0 (.t 1), none⟩,
    ⟨some 15, .ld .cp none (.t 14), none⟩,
    ⟨some 16, .mov .cp (.t 4), none⟩,
    ⟨some 17, .ia 6 (.t 15) (.t 16), none⟩,
    ⟨some 18, .ld .cp (some 6) (.t 17), none⟩,
    ⟨some 19, .callb 36 [(.t 18)], none⟩,
    ⟨some 20, .bsl .own 6 1 [(.b (.d (.str ⟨#[]⟩))), (.b (.d (.bool false))), (.b (.d (.str ⟨#[]⟩))), (.osl 1 []), (.osl 4 []), (.osl 9 [])] [(0, (.t 19))], none⟩,
    ⟨some 21, .app 6 112 (.t 13) (.t 20), none⟩,
    ⟨some 22, .fa 0 (.t 3), none⟩,
    ⟨none, .st 1 (.t 22) (.t 21), none⟩] [1, 2, 3, 4]))
  (.region false [
    ⟨some 10, .mov .cp (.t 4), none⟩,
    ⟨some 11, .bin .add (.t 10) (.k (.c (.b (.d (.int .i64 1))))), none⟩,
    ⟨some 4, .mov .cp (.t 11), none⟩] [1, 2, 3, 4]))))
def f17_l0 : ACode := .loop f17_b0
theorem u17_l0 {bd : Bd} {s : St} {β : Type} {k : AExit → St → Option β} {fns : Nat → Option AFun} : K fns bd f17_l0 s k = K fns bd f17_b0 s (fun e s' => match e with | .normal => K fns bd f17_l0 s' k | e => k e s') := K_loop
/-- delver/delverkeep.TwinProgram -/
def f17 : AFun := ⟨1,
  (.seq (.region false [
    ⟨some 1, .box (.t 0), none⟩,
    ⟨some 2, .alloc [(.osl 6 [])], none⟩] [1, 2])
  (.seq (.region false [
    ⟨some 3, .alloc [(.osl 6 [])], none⟩] [1, 2, 3])
  (.seq (.seq (.region false [
    ⟨some 4, .mov .cp (.k (.c (.b (.d (.int .i64 0))))), none⟩] [1, 2, 3, 4])
  (.block 0 f17_l0))
  (.seq (.region false [
    ⟨some 23, .ld .cp (some 1) (.t 3), none⟩,
    ⟨none, .st 1 (.t 2) (.t 23), none⟩] [2])
  .ret)))), [(.cell 2 (some 1))], .pure, false⟩
def f41_b0 : ACode := (.wrap true [1, 2, 3] [0] [(0, [1])]
  (.seq (.seq (.region false [
    ⟨some 8, .mov .cp (.t 3), none⟩,
    ⟨some 9, .mov .cp (.t 2), none⟩,
    ⟨some 10, .len 0 (.t 9), none⟩,
    ⟨some 11, .bin .lss (.t 8) (.t 10), none⟩] [1, 2, 3, 11])
  (.cond (.t 11)
    .skip
    (.exit 0)))
  (.seq (.block 1 (.region false [
    ⟨some 14, .mov .own (.t 1), none⟩,
    ⟨some 15, .mov .cp (.t 2), none⟩,
    ⟨some 16, .mov .cp (.t 3), none⟩,
    ⟨some 17, .ia 1 (.t 15) (.t 16), none⟩,
    ⟨some 18, .ld .cp none (.t 17), none⟩,
    ⟨some 19, .build [(.b (.d (.str ⟨#[]⟩))), (.b (.d (.bool false))), (.b (.d (.str ⟨#[]⟩))), (.osl 1 []), (.osl 4 []), (.osl 9 [])] [(0, 1, (.t 18)), (2, 1, (.k (.c (.b (.d (.str ⟨#[69, 114, 114, 111, 114]⟩))))))], none⟩,
    ⟨some 20, .bsl .own 6 1 [(.b (.d (.str ⟨#[]⟩))), (.b (.d (.bool false))), (.b (.d (.str ⟨#[]⟩))), (.osl 1 []), (.osl 4 []), (.osl 9 [])] [(0, (.t 19))], none⟩,
    ⟨some 21, .app 6 112 (.t 14) (.t 20), none⟩,
    ⟨some 1, .mov .own (.t 21), none⟩] [1, 2, 3]))
  (.region false [
    ⟨some 12, .mov .cp (.t 3), none⟩,
    ⟨some 13, .bin .add (.t 12) (.k (.c (.b (.d (.int .i64 1))))), none⟩,
    ⟨some 3, .mov .cp (.t 13), none⟩] [1, 2, 3]))))
def f41_l0 : ACode := .loop f41_b0
theorem u41_l0 {bd : Bd} {s : St} {β : Type} {k : AExit → St → Option β} {fns : Nat → Option AFun} : K fns bd f41_l0 s k = K fns bd f41_b0 s (fun e s' => match e with | .normal => K fns bd f41_l0 s' k | e => k e s') := K_loop
/-- delver/delverref04.Base -/
def f41 : AFun := ⟨0,
  (.seq (.region false [
    ⟨some 0, .mov .own (.k (.c (.osl 6 []))), none⟩] [])
  (.seq (.region false [
    ⟨some 4, .build [(.b (.d (.str ⟨#[]⟩))), (.b (.d (.bool false))), (.b (.d (.str ⟨#[]⟩))), (.osl 1 []), (.osl 4 []), (.osl 9 [])] [(0, 1, (.k (.c (.b (.d (.str ⟨#[79, 98, 106, 101, 99, 116]⟩))))))], none⟩,
    ⟨some 5, .build [(.b (.d (.str ⟨#[]⟩))), (.b (.d (.bool false))), (.b (.d (.str ⟨#[]⟩))), (.osl 1 []), (.osl 4 []), (.osl 9 [])] [(0, 1, (.k (.c (.b (.d (.str ⟨#[69, 114, 114, 111, 114]⟩)))))), (2, 1, (.k (.c (.b (.d (.str ⟨#[79, 98, 106, 101, 99, 116]⟩))))))], none⟩,
    ⟨some 6, .bsl .own 6 2 [(.b (.d (.str ⟨#[]⟩))), (.b (.d (.bool false))), (.b (.d (.str ⟨#[]⟩))), (.osl 1 []), (.osl 4 []), (.osl 9 [])] [(0, (.t 4)), (1, (.t 5))], none⟩,
    ⟨some 1, .mov .own (.t 6), none⟩] [1])
  (.seq (.region false [
    ⟨some 7, .bsl .own 1 6 [(.b (.d (.str ⟨#[]⟩)))] [(0, (.k (.c (.b (.d (.str ⟨#[78, 117, 108, 108, 69, 114, 114, 111, 114]⟩)))))), (1, (.k (.c (.b (.d (.str ⟨#[82, 97, 110, 103, 101, 69, 114, 114, 111, 114]⟩)))))), (2, (.k (.c (.b (.d (.str ⟨#[67, 97, 115, 116, 69, 114, 114, 111, 114]⟩)))))), (3, (.k (.c (.b (.d (.str ⟨#[78, 117, 109, 69, 114, 114, 111, 114]⟩)))))), (4, (.k (.c (.b (.d (.str ⟨#[83, 105, 122, 101, 69, 114, 114, 111, 114]⟩)))))), (5, (.k (.c (.b (.d (.str ⟨#[68, 101, 112, 116, 104, 69, 114, 114, 111, 114]⟩))))))], none⟩,
    ⟨some 2, .mov .cp (.t 7), none⟩] [1, 2])
  (.seq (.seq (.region false [
    ⟨some 3, .mov .cp (.k (.c (.b (.d (.int .i64 0))))), none⟩] [1, 2, 3])
  (.block 0 f41_l0))
  (.seq (.region false [
    ⟨some 22, .mov .own (.t 1), none⟩,
    ⟨some 0, .mov .own (.t 22), none⟩] [0])
  .ret))))), [(.tmp 0)], .pure, false⟩
/-- delver/delverref04.All -/
def f23 : AFun := ⟨1,
  (.seq (.region false [
    ⟨some 1, .box (.t 0), none⟩,
    ⟨some 2, .mov .own (.k (.c (.osl 6 []))), none⟩] [1])
  (.seq (.region true [
    ⟨some 3, .callb 41 [], none⟩,
    ⟨some 4, .ld .cp (some 1) (.t 1), none⟩,
    ⟨some 5, .callb 17 [(.t 4)], none⟩,
    ⟨some 6, .fld 0 none (.t 5), none⟩,
    ⟨some 7, .app 6 112 (.t 3) (.t 6), none⟩,
    ⟨some 2, .mov .own (.t 7), none⟩] [2])
  .ret)), [(.tmp 2)], .pure, false⟩
/-- delver/delverref04.SuperOf -/
def f27 : AFun := ⟨1,
  (.seq (.region false [
    ⟨some 1, .box (.t 0), none⟩,
    ⟨some 2, .mov .own (.k (.c (.b (.d (.str ⟨#[]⟩))))), none⟩] [1])
  (.seq (.seq (.region false [
    ⟨some 3, .fa 1 (.t 1), none⟩,
    ⟨some 4, .ld .cp none (.t 3), none⟩,
    ⟨some 5, .mov .cp (.t 4), none⟩,
    ⟨some 6, .fa 0 (.t 1), (some (5, false))⟩,
    ⟨some 7, .ld .cp none (.t 6), (some (5, false))⟩,
    ⟨some 8, .bin .eql (.t 7) (.k (.c (.b (.d (.str ⟨#[79, 98, 106, 101, 99, 116]⟩))))), (some (5, false))⟩,
    ⟨some 9, .pick (.t 5) (.k (.c (.b (.d (.bool true))))) (.t 8), none⟩] [1, 9])
  (.cond (.t 9)
    (.seq (.region false [
      ⟨some 2, .mov .own (.k (.c (.b (.d (.str ⟨#[]⟩))))), none⟩] [2])
    .ret)
    .skip))
  (.seq (.seq (.region false [
    ⟨some 10, .fa 2 (.t 1), none⟩,
    ⟨some 11, .ld .cp none (.t 10), none⟩,
    ⟨some 12, .bin .eql (.t 11) (.k (.c (.b (.d (.str ⟨#[]⟩))))), none⟩] [1, 12])
  (.cond (.t 12)
    (.seq (.region false [
      ⟨some 2, .mov .own (.k (.c (.b (.d (.str ⟨#[79, 98, 106, 101, 99, 116]⟩))))), none⟩] [2])
    .ret)
    .skip))
  (.seq (.region false [
    ⟨some 13, .fa 2 (.t 1), none⟩,
    ⟨some 14, .ld .own none (.t 13), none⟩,
    ⟨some 2, .mov .own (.t 14), none⟩] [2])
  .ret)))), [(.tmp 2)], .pure, false⟩
/-- delver/delverref01.letter -/
def f75 : AFun := ⟨1,
  (.seq (.region false [
    ⟨some 2, .mov .own (.k (.c (.b (.d (.bool false))))), none⟩] [0])
  (.seq (.region false [
    ⟨some 3, .mov .cp (.t 0), none⟩,
    ⟨some 4, .bin .geq (.t 3) (.k (.c (.b (.d (.int .u8 97))))), none⟩,
    ⟨some 5, .mov .cp (.t 4), none⟩,
    ⟨some 6, .mov .cp (.t 0), (some (5, true))⟩,
    ⟨some 7, .bin .leq (.t 6) (.k (.c (.b (.d (.int .u8 122))))), (some (5, true))⟩,
    ⟨some 8, .pick (.t 5) (.t 7) (.k (.c (.b (.d (.bool false))))), none⟩,
    ⟨some 9, .mov .cp (.t 8), none⟩,
    ⟨some 10, .mov .cp (.t 0), (some (9, false))⟩,
    ⟨some 11, .bin .geq (.t 10) (.k (.c (.b (.d (.int .u8 65))))), (some (9, false))⟩,
    ⟨some 12, .mov .cp (.t 11), (some (9, false))⟩,
    ⟨some 13, .mov .cp (.t 0), (some (12, true))⟩,
    ⟨some 14, .bin .leq (.t 13) (.k (.c (.b (.d (.int .u8 90))))), (some (12, true))⟩,
    ⟨some 15, .pick (.t 12) (.t 14) (.k (.c (.b (.d (.bool false))))), (some (9, false))⟩,
    ⟨some 16, .pick (.t 9) (.k (.c (.b (.d (.bool true))))) (.t 15), none⟩,
    ⟨some 17, .mov .cp (.t 16), none⟩,
    ⟨some 18, .mov .cp (.t 0), (some (17, false))⟩,
    ⟨some 19, .bin .eql (.t 18) (.k (.c (.b (.d (.int .u8 95))))), (some (17, false))⟩,
    ⟨some 20, .pick (.t 17) (.k (.c (.b (.d (.bool true))))) (.t 19), none⟩,
    ⟨some 2, .mov .own (.t 20), none⟩] [2])
  .ret)), [(.tmp 2)], .pure, false⟩
/-- delver/delverref01.digit -/
def f76 : AFun := ⟨1,
  (.seq (.region false [
    ⟨some 2, .mov .own (.k (.c (.b (.d (.bool false))))), none⟩] [0])
  (.seq (.region false [
    ⟨some 3, .mov .cp (.t 0), none⟩,
    ⟨some 4, .bin .geq (.t 3) (.k (.c (.b (.d (.int .u8 48))))), none⟩,
    ⟨some 5, .mov .cp (.t 4), none⟩,
    ⟨some 6, .mov .cp (.t 0), (some (5, true))⟩,
    ⟨some 7, .bin .leq (.t 6) (.k (.c (.b (.d (.int .u8 57))))), (some (5, true))⟩,
    ⟨some 8, .pick (.t 5) (.t 7) (.k (.c (.b (.d (.bool false))))), none⟩,
    ⟨some 2, .mov .own (.t 8), none⟩] [2])
  .ret)), [(.tmp 2)], .pure, false⟩
def f59_b0 : ACode := (.wrap true [0, 3] [2] [(0, [])]
  (.seq (.seq (.region false [
    ⟨some 18, .mov .cp (.t 3), none⟩,
    ⟨some 19, .mov .cp (.t 0), none⟩,
    ⟨some 20, .len 1 (.t 19), none⟩,
    ⟨some 21, .bin .lss (.t 18) (.t 20), none⟩] [0, 3, 21])
  (.cond (.t 21)
    .skip
    (.exit 0)))
  (.seq (.block 1 (.seq (.region false [
    ⟨some 24, .mov .cp (.t 0), none⟩,
    ⟨some 25, .mov .cp (.t 3), none⟩,
    ⟨some 26, .ixs (.t 24) (.t 25), none⟩,
    ⟨some 27, .callb 75 [(.t 26)], none⟩,
    ⟨some 28, .un .not (.t 27), none⟩,
    ⟨some 29, .mov .cp (.t 28), none⟩,
    ⟨some 30, .mov .cp (.t 0), (some (29, true))⟩,
    ⟨some 31, .mov .cp (.t 3), (some (29, true))⟩,
    ⟨some 32, .ixs (.t 30) (.t 31), (some (29, true))⟩,
    ⟨some 33, .callb 76 [(.t 32)], (some (29, true))⟩,
    ⟨some 34, .un .not (.t 33), (some (29, true))⟩,
    ⟨some 35, .pick (.t 29) (.t 34) (.k (.c (.b (.d (.bool false))))), none⟩] [0, 3, 35])
  (.cond (.t 35)
    (.seq (.region false [
      ⟨some 2, .mov .own (.k (.c (.b (.d (.bool false))))), none⟩] [2])
    .ret)
    .skip)))
  (.region false [
    ⟨some 22, .mov .cp (.t 3), none⟩,
    ⟨some 23, .bin .add (.t 22) (.k (.c (.b (.d (.int .i64 1))))), none⟩,
    ⟨some 3, .mov .cp (.t 23), none⟩] [0, 3]))))
def f59_l0 : ACode := .loop f59_b0
theorem u59_l0 {bd : Bd} {s : St} {β : Type} {k : AExit → St → Option β} {fns : Nat → Option AFun} : K fns bd f59_l0 s k = K fns bd f59_b0 s (fun e s' => match e with | .normal => K fns bd f59_l0 s' k | e => k e s') := K_loop
/-- delver/delverref01.Name -/
def f59 : AFun := ⟨1,
  (.seq (.region false [
    ⟨some 2, .mov .own (.k (.c (.b (.d (.bool false))))), none⟩] [0])
  (.seq (.seq (.region false [
    ⟨some 4, .mov .cp (.t 0), none⟩,
    ⟨some 5, .len 1 (.t 4), none⟩,
    ⟨some 6, .bin .lss (.t 5) (.k (.c (.b (.d (.int .i64 1))))), none⟩,
    ⟨some 7, .mov .cp (.t 6), none⟩,
    ⟨some 8, .mov .cp (.t 0), (some (7, false))⟩,
    ⟨some 9, .len 1 (.t 8), (some (7, false))⟩,
    ⟨some 10, .bin .gtr (.t 9) (.k (.c (.b (.d (.int .i64 20))))), (some (7, false))⟩,
    ⟨some 11, .pick (.t 7) (.k (.c (.b (.d (.bool true))))) (.t 10), none⟩,
    ⟨some 12, .mov .cp (.t 11), none⟩,
    ⟨some 13, .mov .cp (.t 0), (some (12, false))⟩,
    ⟨some 14, .ixs (.t 13) (.k (.c (.b (.d (.int .i64 0))))), (some (12, false))⟩,
    ⟨some 15, .callb 75 [(.t 14)], (some (12, false))⟩,
    ⟨some 16, .un .not (.t 15), (some (12, false))⟩,
    ⟨some 17, .pick (.t 12) (.k (.c (.b (.d (.bool true))))) (.t 16), none⟩] [0, 17])
  (.cond (.t 17)
    (.seq (.region false [
      ⟨some 2, .mov .own (.k (.c (.b (.d (.bool false))))), none⟩] [2])
    .ret)
    .skip))
  (.seq (.seq (.region false [
    ⟨some 3, .mov .cp (.k (.c (.b (.d (.int .i64 1))))), none⟩] [0, 3])
  (.block 0 f59_l0))
  (.seq (.region false [
    ⟨some 2, .mov .own (.k (.c (.b (.d (.bool true))))), none⟩] [2])
  .ret)))), [(.tmp 2)], .pure, false⟩
def f60_b0 : ACode := (.wrap true [0, 3, 4] [2] [(0, [])]
  (.seq (.seq (.region false [
    ⟨some 6, .mov .cp (.t 4), none⟩,
    ⟨some 7, .mov .cp (.t 3), none⟩,
    ⟨some 8, .len 0 (.t 7), none⟩,
    ⟨some 9, .bin .lss (.t 6) (.t 8), none⟩] [0, 3, 4, 9])
  (.cond (.t 9)
    .skip
    (.exit 0)))
  (.seq (.block 1 (.seq (.region false [
    ⟨some 12, .mov .cp (.t 3), none⟩,
    ⟨some 13, .mov .cp (.t 4), none⟩,
    ⟨some 14, .ia 1 (.t 12) (.t 13), none⟩,
    ⟨some 15, .ld .cp none (.t 14), none⟩,
    ⟨some 16, .mov .cp (.t 0), none⟩,
    ⟨some 17, .bin .eql (.t 15) (.t 16), none⟩] [0, 3, 4, 17])
  (.cond (.t 17)
    (.seq (.region false [
      ⟨some 2, .mov .own (.k (.c (.b (.d (.bool true))))), none⟩] [2])
    .ret)
    .skip)))
  (.region false [
    ⟨some 10, .mov .cp (.t 4), none⟩,
    ⟨some 11, .bin .add (.t 10) (.k (.c (.b (.d (.int .i64 1))))), none⟩,
    ⟨some 4, .mov .cp (.t 11), none⟩] [0, 3, 4]))))
def f60_l0 : ACode := .loop f60_b0
theorem u60_l0 {bd : Bd} {s : St} {β : Type} {k : AExit → St → Option β} {fns : Nat → Option AFun} : K fns bd f60_l0 s k = K fns bd f60_b0 s (fun e s' => match e with | .normal => K fns bd f60_l0 s' k | e => k e s') := K_loop
/-- delver/delverref01.Kept -/
def f60 : AFun := ⟨1,
  (.seq (.region false [
    ⟨some 2, .mov .own (.k (.c (.b (.d (.bool false))))), none⟩] [0])
  (.seq (.region false [
    ⟨some 5, .bsl .own 1 12 [(.b (.d (.str ⟨#[]⟩)))] [(0, (.k (.c (.b (.d (.str ⟨#[99, 108, 97, 115, 115]⟩)))))), (1, (.k (.c (.b (.d (.str ⟨#[105, 110, 116, 101, 114, 102, 97, 99, 101]⟩)))))), (2, (.k (.c (.b (.d (.str ⟨#[101, 120, 116, 101, 110, 100, 115]⟩)))))), (3, (.k (.c (.b (.d (.str ⟨#[105, 109, 112, 108, 101, 109, 101, 110, 116, 115]⟩)))))), (4, (.k (.c (.b (.d (.str ⟨#[102, 105, 101, 108, 100]⟩)))))), (5, (.k (.c (.b (.d (.str ⟨#[115, 116, 97, 116, 105, 99]⟩)))))), (6, (.k (.c (.b (.d (.str ⟨#[109, 101, 116, 104, 111, 100]⟩)))))), (7, (.k (.c (.b (.d (.str ⟨#[102, 117, 110, 99, 116, 105, 111, 110]⟩)))))), (8, (.k (.c (.b (.d (.str ⟨#[108, 111, 99, 97, 108, 115]⟩)))))), (9, (.k (.c (.b (.d (.str ⟨#[99, 97, 116, 99, 104]⟩)))))), (10, (.k (.c (.b (.d (.str ⟨#[105, 110, 116]⟩)))))), (11, (.k (.c (.b (.d (.str ⟨#[118, 111, 105, 100]⟩))))))], none⟩,
    ⟨some 3, .mov .cp (.t 5), none⟩] [0, 3])
  (.seq (.seq (.region false [
    ⟨some 4, .mov .cp (.k (.c (.b (.d (.int .i64 0))))), none⟩] [0, 3, 4])
  (.block 0 f60_l0))
  (.seq (.region false [
    ⟨some 2, .mov .own (.k (.c (.b (.d (.bool false))))), none⟩] [2])
  .ret)))), [(.tmp 2)], .pure, false⟩
/-- delver/delverref01.freshName -/
def f43 : AFun := ⟨1,
  (.seq (.region false [
    ⟨some 2, .mov .own (.k (.c (.b (.d (.bool false))))), none⟩] [0])
  (.seq (.region false [
    ⟨some 3, .mov .cp (.t 0), none⟩,
    ⟨some 4, .callb 59 [(.t 3)], none⟩,
    ⟨some 5, .mov .cp (.t 4), none⟩,
    ⟨some 6, .mov .cp (.t 0), (some (5, true))⟩,
    ⟨some 7, .callb 60 [(.t 6)], (some (5, true))⟩,
    ⟨some 8, .un .not (.t 7), (some (5, true))⟩,
    ⟨some 9, .pick (.t 5) (.t 8) (.k (.c (.b (.d (.bool false))))), none⟩,
    ⟨some 2, .mov .own (.t 9), none⟩] [2])
  .ret)), [(.tmp 2)], .pure, false⟩
/-- delver/delverref01.TypeText -/
def f44 : AFun := ⟨1,
  (.seq (.region false [
    ⟨some 1, .box (.t 0), none⟩,
    ⟨some 2, .mov .own (.k (.c (.b (.d (.str ⟨#[]⟩))))), none⟩] [1])
  (.seq (.block 0 (.seq (.region false [
    ⟨some 4, .fa 0 (.t 1), none⟩,
    ⟨some 5, .ld .cp none (.t 4), none⟩,
    ⟨some 6, .bin .eql (.t 5) (.k (.c (.b (.d (.int .i64 1))))), none⟩,
    ⟨some 7, .mov .cp (.t 6), none⟩,
    ⟨some 8, .fa 1 (.t 1), (some (7, true))⟩,
    ⟨some 9, .ld .cp none (.t 8), (some (7, true))⟩,
    ⟨some 10, .bin .eql (.t 9) (.k (.c (.b (.d (.str ⟨#[]⟩))))), (some (7, true))⟩,
    ⟨some 11, .pick (.t 7) (.t 10) (.k (.c (.b (.d (.bool false))))), none⟩,
    ⟨some 3, .mov .cp (.t 11), none⟩] [1, 3])
  (.cond (.t 3)
    (.seq (.region false [
      ⟨some 2, .mov .own (.k (.c (.b (.d (.str ⟨#[118, 111, 105, 100]⟩))))), none⟩] [2])
    .ret)
    (.seq (.region false [
      ⟨some 13, .fa 0 (.t 1), none⟩,
      ⟨some 14, .ld .cp none (.t 13), none⟩,
      ⟨some 15, .bin .eql (.t 14) (.k (.c (.b (.d (.int .i64 2))))), none⟩,
      ⟨some 16, .mov .cp (.t 15), none⟩,
      ⟨some 17, .fa 1 (.t 1), (some (16, true))⟩,
      ⟨some 18, .ld .cp none (.t 17), (some (16, true))⟩,
      ⟨some 19, .bin .eql (.t 18) (.k (.c (.b (.d (.str ⟨#[]⟩))))), (some (16, true))⟩,
      ⟨some 20, .pick (.t 16) (.t 19) (.k (.c (.b (.d (.bool false))))), none⟩,
      ⟨some 12, .mov .cp (.t 20), none⟩] [1, 12])
    (.cond (.t 12)
      (.seq (.region false [
        ⟨some 2, .mov .own (.k (.c (.b (.d (.str ⟨#[105, 110, 116]⟩))))), none⟩] [2])
      .ret)
      (.seq (.region false [
        ⟨some 22, .fa 0 (.t 1), none⟩,
        ⟨some 23, .ld .cp none (.t 22), none⟩,
        ⟨some 24, .bin .eql (.t 23) (.k (.c (.b (.d (.int .i64 4))))), none⟩,
        ⟨some 25, .mov .cp (.t 24), none⟩,
        ⟨some 26, .fa 1 (.t 1), (some (25, true))⟩,
        ⟨some 27, .ld .cp none (.t 26), (some (25, true))⟩,
        ⟨some 28, .bin .eql (.t 27) (.k (.c (.b (.d (.str ⟨#[]⟩))))), (some (25, true))⟩,
        ⟨some 29, .pick (.t 25) (.t 28) (.k (.c (.b (.d (.bool false))))), none⟩,
        ⟨some 21, .mov .cp (.t 29), none⟩] [1, 21])
      (.cond (.t 21)
        (.seq (.region false [
          ⟨some 2, .mov .own (.k (.c (.b (.d (.str ⟨#[105, 110, 116, 91, 93]⟩))))), none⟩] [2])
        .ret)
        (.seq (.region false [
          ⟨some 31, .fa 0 (.t 1), none⟩,
          ⟨some 32, .ld .cp none (.t 31), none⟩,
          ⟨some 33, .bin .eql (.t 32) (.k (.c (.b (.d (.int .i64 3))))), none⟩,
          ⟨some 34, .mov .cp (.t 33), none⟩,
          ⟨some 35, .fa 1 (.t 1), (some (34, true))⟩,
          ⟨some 36, .ld .cp none (.t 35), (some (34, true))⟩,
          ⟨some 37, .callb 43 [(.t 36)], (some (34, true))⟩,
          ⟨some 38, .pick (.t 34) (.t 37) (.k (.c (.b (.d (.bool false))))), none⟩,
          ⟨some 30, .mov .cp (.t 38), none⟩] [1, 30])
        (.cond (.t 30)
          (.seq (.region false [
            ⟨some 39, .fa 1 (.t 1), none⟩,
            ⟨some 40, .ld .own none (.t 39), none⟩,
            ⟨some 2, .mov .own (.t 40), none⟩] [2])
          .ret)
          (.seq (.region false [
            ⟨some 42, .fa 0 (.t 1), none⟩,
            ⟨some 43, .ld .cp none (.t 42), none⟩,
            ⟨some 44, .bin .eql (.t 43) (.k (.c (.b (.d (.int .i64 5))))), none⟩,
            ⟨some 45, .mov .cp (.t 44), none⟩,
            ⟨some 46, .fa 1 (.t 1), (some (45, true))⟩,
            ⟨some 47, .ld .cp none (.t 46), (some (45, true))⟩,
            ⟨some 48, .callb 43 [(.t 47)], (some (45, true))⟩,
            ⟨some 49, .pick (.t 45) (.t 48) (.k (.c (.b (.d (.bool false))))), none⟩,
            ⟨some 41, .mov .cp (.t 49), none⟩] [1, 41])
          (.cond (.t 41)
            (.seq (.region false [
              ⟨some 50, .fa 1 (.t 1), none⟩,
              ⟨some 51, .ld .cp none (.t 50), none⟩,
              ⟨some 52, .bin .add (.t 51) (.k (.c (.b (.d (.str ⟨#[91, 93]⟩))))), none⟩,
              ⟨some 2, .mov .own (.t 52), none⟩] [2])
            .ret)
            .skip)))))))))))
  (.seq (.region false [
    ⟨some 2, .mov .own (.k (.c (.b (.d (.str ⟨#[]⟩))))), none⟩] [2])
  .ret))), [(.tmp 2)], .pure, false⟩
/-- delver/delverref01.in -/
def f61 : AFun := ⟨3,
  (.seq (.region false [
    ⟨some 6, .mov .own (.k (.c (.b (.d (.bool false))))), none⟩] [0, 1, 2])
  (.seq (.region false [
    ⟨some 7, .mov .cp (.t 0), none⟩,
    ⟨some 8, .mov .cp (.t 1), none⟩,
    ⟨some 9, .bin .geq (.t 7) (.t 8), none⟩,
    ⟨some 10, .mov .cp (.t 9), none⟩,
    ⟨some 11, .mov .cp (.t 0), (some (10, true))⟩,
    ⟨some 12, .mov .cp (.t 2), (some (10, true))⟩,
    ⟨some 13, .bin .leq (.t 11) (.t 12), (some (10, true))⟩,
    ⟨some 14, .pick (.t 10) (.t 13) (.k (.c (.b (.d (.bool false))))), none⟩,
    ⟨some 6, .mov .own (.t 14), none⟩] [6])
  .ret)), [(.tmp 6)], .pure, false⟩
/-- delver/delverref01.Shape -/
def f77 : AFun := ⟨1,
  (.seq (.region false [
    ⟨some 2, .mov .own (.k (.c (.b (.d (.int .i64 0))))), none⟩] [0])
  (.seq (.block 0 (.seq (.region false [
    ⟨some 4, .mov .cp (.t 0), none⟩,
    ⟨some 5, .bin .eql (.t 4) (.k (.c (.b (.d (.int .i64 1))))), none⟩,
    ⟨some 3, .mov .cp (.t 5), none⟩] [0, 3])
  (.cond (.t 3)
    (.seq (.region false [
      ⟨some 2, .mov .own (.k (.c (.b (.d (.int .i64 1))))), none⟩] [2])
    .ret)
    (.seq (.region false [
      ⟨some 7, .mov .cp (.t 0), none⟩,
      ⟨some 8, .bin .eql (.t 7) (.k (.c (.b (.d (.int .i64 3))))), none⟩,
      ⟨some 9, .mov .cp (.t 8), none⟩,
      ⟨some 10, .mov .cp (.t 0), (some (9, false))⟩,
      ⟨some 11, .bin .eql (.t 10) (.k (.c (.b (.d (.int .i64 4))))), (some (9, false))⟩,
      ⟨some 12, .pick (.t 9) (.k (.c (.b (.d (.bool true))))) (.t 11), none⟩,
      ⟨some 6, .mov .cp (.t 12), none⟩] [0, 6])
    (.cond (.t 6)
      (.seq (.region false [
        ⟨some 2, .mov .own (.k (.c (.b (.d (.int .i64 2))))), none⟩] [2])
      .ret)
      (.seq (.region false [
        ⟨some 14, .mov .cp (.t 0), none⟩,
        ⟨some 15, .bin .geq (.t 14) (.k (.c (.b (.d (.int .i64 14))))), none⟩,
        ⟨some 16, .mov .cp (.t 15), none⟩,
        ⟨some 17, .mov .cp (.t 0), (some (16, true))⟩,
        ⟨some 18, .bin .leq (.t 17) (.k (.c (.b (.d (.int .i64 26))))), (some (16, true))⟩,
        ⟨some 19, .pick (.t 16) (.t 18) (.k (.c (.b (.d (.bool false))))), none⟩,
        ⟨some 13, .mov .cp (.t 19), none⟩] [0, 13])
      (.cond (.t 13)
        (.seq (.region false [
          ⟨some 2, .mov .own (.k (.c (.b (.d (.int .i64 3))))), none⟩] [2])
        .ret)
        (.seq (.region false [
          ⟨some 21, .mov .cp (.t 0), none⟩,
          ⟨some 22, .bin .eql (.t 21) (.k (.c (.b (.d (.int .i64 27))))), none⟩,
          ⟨some 23, .mov .cp (.t 22), none⟩,
          ⟨some 24, .mov .cp (.t 0), (some (23, false))⟩,
          ⟨some 25, .bin .eql (.t 24) (.k (.c (.b (.d (.int .i64 33))))), (some (23, false))⟩,
          ⟨some 26, .pick (.t 23) (.k (.c (.b (.d (.bool true))))) (.t 25), none⟩,
          ⟨some 27, .mov .cp (.t 26), none⟩,
          ⟨some 28, .mov .cp (.t 0), (some (27, false))⟩,
          ⟨some 29, .bin .eql (.t 28) (.k (.c (.b (.d (.int .i64 37))))), (some (27, false))⟩,
          ⟨some 30, .pick (.t 27) (.k (.c (.b (.d (.bool true))))) (.t 29), none⟩,
          ⟨some 31, .mov .cp (.t 30), none⟩,
          ⟨some 32, .mov .cp (.t 0), (some (31, false))⟩,
          ⟨some 33, .bin .eql (.t 32) (.k (.c (.b (.d (.int .i64 38))))), (some (31, false))⟩,
          ⟨some 34, .pick (.t 31) (.k (.c (.b (.d (.bool true))))) (.t 33), none⟩,
          ⟨some 20, .mov .cp (.t 34), none⟩] [0, 20])
        (.cond (.t 20)
          (.seq (.region false [
            ⟨some 2, .mov .own (.k (.c (.b (.d (.int .i64 4))))), none⟩] [2])
          .ret)
          (.seq (.region false [
            ⟨some 36, .mov .cp (.t 0), none⟩,
            ⟨some 37, .bin .geq (.t 36) (.k (.c (.b (.d (.int .i64 28))))), none⟩,
            ⟨some 38, .mov .cp (.t 37), none⟩,
            ⟨some 39, .mov .cp (.t 0), (some (38, true))⟩,
            ⟨some 40, .bin .leq (.t 39) (.k (.c (.b (.d (.int .i64 31))))), (some (38, true))⟩,
            ⟨some 41, .pick (.t 38) (.t 40) (.k (.c (.b (.d (.bool false))))), none⟩,
            ⟨some 42, .mov .cp (.t 41), none⟩,
            ⟨some 43, .mov .cp (.t 0), (some (42, false))⟩,
            ⟨some 44, .bin .eql (.t 43) (.k (.c (.b (.d (.int .i64 39))))), (some (42, false))⟩,
            ⟨some 45, .pick (.t 42) (.k (.c (.b (.d (.bool true))))) (.t 44), none⟩,
            ⟨some 46, .mov .cp (.t 45), none⟩,
            ⟨some 47, .mov .cp (.t 0), (some (46, false))⟩,
            ⟨some 48, .bin .eql (.t 47) (.k (.c (.b (.d (.int .i64 40))))), (some (46, false))⟩,
            ⟨some 49, .pick (.t 46) (.k (.c (.b (.d (.bool true))))) (.t 48), none⟩,
            ⟨some 35, .mov .cp (.t 49), none⟩] [35])
          (.cond (.t 35)
            (.seq (.region false [
              ⟨some 2, .mov .own (.k (.c (.b (.d (.int .i64 5))))), none⟩] [2])
            .ret)
            .skip)))))))))))
  (.seq (.region false [
    ⟨some 2, .mov .own (.k (.c (.b (.d (.int .i64 0))))), none⟩] [2])
  .ret))), [(.tmp 2)], .pure, false⟩
/-- delver/delverref01.showInstr -/
def f62 : AFun := ⟨1,
  (.seq (.region false [
    ⟨some 1, .box (.t 0), none⟩,
    ⟨some 2, .mov .own (.k (.c (.b (.d (.bool false))))), none⟩] [1])
  (.seq (.seq (.region false [
    ⟨some 3, .fa 0 (.t 1), none⟩,
    ⟨some 4, .ld .cp none (.t 3), none⟩,
    ⟨some 5, .callb 61 [(.t 4), (.k (.c (.b (.d (.int .i64 0))))), (.k (.c (.b (.d (.int .i64 43)))))], none⟩,
    ⟨some 6, .un .not (.t 5), none⟩] [1, 6])
  (.cond (.t 6)
    (.seq (.region false [
      ⟨some 2, .mov .own (.k (.c (.b (.d (.bool false))))), none⟩] [2])
    .ret)
    .skip))
  (.seq (.seq (.region false [
    ⟨some 7, .fa 0 (.t 1), none⟩,
    ⟨some 8, .ld .cp none (.t 7), none⟩,
    ⟨some 9, .callb 77 [(.t 8)], none⟩] [1, 9])
  (.block 0 (.seq (.region false [
    ⟨some 11, .bin .eql (.t 9) (.k (.c (.b (.d (.int .i64 1))))), none⟩,
    ⟨some 10, .mov .cp (.t 11), none⟩] [1, 9, 10])
  (.cond (.t 10)
    (.seq (.region false [
      ⟨some 12, .fa 1 (.t 1), none⟩,
      ⟨some 13, .ld .cp none (.t 12), none⟩,
      ⟨some 14, .callb 61 [(.t 13), (.k (.c (.b (.d (.int .i64 (-2147483648)))))), (.k (.c (.b (.d (.int .i64 2147483647)))))], none⟩,
      ⟨some 15, .mov .cp (.t 14), none⟩,
      ⟨some 16, .fa 2 (.t 1), (some (15, true))⟩,
      ⟨some 17, .ld .cp none (.t 16), (some (15, true))⟩,
      ⟨some 18, .bin .eql (.t 17) (.k (.c (.b (.d (.str ⟨#[]⟩))))), (some (15, true))⟩,
      ⟨some 19, .pick (.t 15) (.t 18) (.k (.c (.b (.d (.bool false))))), none⟩,
      ⟨some 20, .mov .cp (.t 19), none⟩,
      ⟨some 21, .fa 3 (.t 1), (some (20, true))⟩,
      ⟨some 22, .ld .cp none (.t 21), (some (20, true))⟩,
      ⟨some 23, .bin .eql (.t 22) (.k (.c (.b (.d (.str ⟨#[]⟩))))), (some (20, true))⟩,
      ⟨some 24, .pick (.t 20) (.t 23) (.k (.c (.b (.d (.bool false))))), none⟩,
      ⟨some 2, .mov .own (.t 24), none⟩] [2])
    .ret)
    (.seq (.region false [
      ⟨some 26, .bin .eql (.t 9) (.k (.c (.b (.d (.int .i64 2))))), none⟩,
      ⟨some 25, .mov .cp (.t 26), none⟩] [1, 9, 25])
    (.cond (.t 25)
      (.seq (.region false [
        ⟨some 27, .fa 1 (.t 1), none⟩,
        ⟨some 28, .ld .cp none (.t 27), none⟩,
        ⟨some 29, .callb 61 [(.t 28), (.k (.c (.b (.d (.int .i64 0))))), (.k (.c (.b (.d (.int .i64 7)))))], none⟩,
        ⟨some 30, .mov .cp (.t 29), none⟩,
        ⟨some 31, .fa 2 (.t 1), (some (30, true))⟩,
        ⟨some 32, .ld .cp none (.t 31), (some (30, true))⟩,
        ⟨some 33, .bin .eql (.t 32) (.k (.c (.b (.d (.str ⟨#[]⟩))))), (some (30, true))⟩,
        ⟨some 34, .pick (.t 30) (.t 33) (.k (.c (.b (.d (.bool false))))), none⟩,
        ⟨some 35, .mov .cp (.t 34), none⟩,
        ⟨some 36, .fa 3 (.t 1), (some (35, true))⟩,
        ⟨some 37, .ld .cp none (.t 36), (some (35, true))⟩,
        ⟨some 38, .bin .eql (.t 37) (.k (.c (.b (.d (.str ⟨#[]⟩))))), (some (35, true))⟩,
        ⟨some 39, .pick (.t 35) (.t 38) (.k (.c (.b (.d (.bool false))))), none⟩,
        ⟨some 2, .mov .own (.t 39), none⟩] [2])
      .ret)
      (.seq (.region false [
        ⟨some 41, .bin .eql (.t 9) (.k (.c (.b (.d (.int .i64 3))))), none⟩,
        ⟨some 40, .mov .cp (.t 41), none⟩] [1, 9, 40])
      (.cond (.t 40)
        (.seq (.region false [
          ⟨some 42, .fa 1 (.t 1), none⟩,
          ⟨some 43, .ld .cp none (.t 42), none⟩,
          ⟨some 44, .callb 61 [(.t 43), (.k (.c (.b (.d (.int .i64 0))))), (.k (.c (.b (.d (.int .i64 47)))))], none⟩,
          ⟨some 45, .mov .cp (.t 44), none⟩,
          ⟨some 46, .fa 2 (.t 1), (some (45, true))⟩,
          ⟨some 47, .ld .cp none (.t 46), (some (45, true))⟩,
          ⟨some 48, .bin .eql (.t 47) (.k (.c (.b (.d (.str ⟨#[]⟩))))), (some (45, true))⟩,
          ⟨some 49, .pick (.t 45) (.t 48) (.k (.c (.b (.d (.bool false))))), none⟩,
          ⟨some 50, .mov .cp (.t 49), none⟩,
          ⟨some 51, .fa 3 (.t 1), (some (50, true))⟩,
          ⟨some 52, .ld .cp none (.t 51), (some (50, true))⟩,
          ⟨some 53, .bin .eql (.t 52) (.k (.c (.b (.d (.str ⟨#[]⟩))))), (some (50, true))⟩,
          ⟨some 54, .pick (.t 50) (.t 53) (.k (.c (.b (.d (.bool false))))), none⟩,
          ⟨some 2, .mov .own (.t 54), none⟩] [2])
        .ret)
        (.seq (.region false [
          ⟨some 56, .bin .eql (.t 9) (.k (.c (.b (.d (.int .i64 4))))), none⟩,
          ⟨some 55, .mov .cp (.t 56), none⟩] [1, 9, 55])
        (.cond (.t 55)
          (.seq (.region false [
            ⟨some 57, .fa 1 (.t 1), none⟩,
            ⟨some 58, .ld .cp none (.t 57), none⟩,
            ⟨some 59, .bin .eql (.t 58) (.k (.c (.b (.d (.int .i64 0))))), none⟩,
            ⟨some 60, .mov .cp (.t 59), none⟩,
            ⟨some 61, .fa 2 (.t 1), (some (60, true))⟩,
            ⟨some 62, .ld .cp none (.t 61), (some (60, true))⟩,
            ⟨some 63, .callb 43 [(.t 62)], (some (60, true))⟩,
            ⟨some 64, .pick (.t 60) (.t 63) (.k (.c (.b (.d (.bool false))))), none⟩,
            ⟨some 65, .mov .cp (.t 64), none⟩,
            ⟨some 66, .fa 3 (.t 1), (some (65, true))⟩,
            ⟨some 67, .ld .cp none (.t 66), (some (65, true))⟩,
            ⟨some 68, .bin .eql (.t 67) (.k (.c (.b (.d (.str ⟨#[]⟩))))), (some (65, true))⟩,
            ⟨some 69, .pick (.t 65) (.t 68) (.k (.c (.b (.d (.bool false))))), none⟩,
            ⟨some 2, .mov .own (.t 69), none⟩] [2])
          .ret)
          (.seq (.region false [
            ⟨some 71, .bin .eql (.t 9) (.k (.c (.b (.d (.int .i64 5))))), none⟩,
            ⟨some 70, .mov .cp (.t 71), none⟩] [1, 70])
          (.cond (.t 70)
            (.seq (.region false [
              ⟨some 72, .fa 1 (.t 1), none⟩,
              ⟨some 73, .ld .cp none (.t 72), none⟩,
              ⟨some 74, .bin .eql (.t 73) (.k (.c (.b (.d (.int .i64 0))))), none⟩,
              ⟨some 75, .mov .cp (.t 74), none⟩,
              ⟨some 76, .fa 2 (.t 1), (some (75, true))⟩,
              ⟨some 77, .ld .cp none (.t 76), (some (75, true))⟩,
              ⟨some 78, .callb 43 [(.t 77)], (some (75, true))⟩,
              ⟨some 79, .pick (.t 75) (.t 78) (.k (.c (.b (.d (.bool false))))), none⟩,
              ⟨some 80, .mov .cp (.t 79), none⟩,
              ⟨some 81, .fa 3 (.t 1), (some (80, true))⟩,
              ⟨some 82, .ld .cp none (.t 81), (some (80, true))⟩,
              ⟨some 83, .callb 43 [(.t 82)], (some (80, true))⟩,
              ⟨some 84, .pick (.t 80) (.t 83) (.k (.c (.b (.d (.bool false))))), none⟩,
              ⟨some 2, .mov .own (.t 84), none⟩] [2])
            .ret)
            .skip))))))))))))
  (.seq (.region false [
    ⟨some 85, .fa 1 (.t 1), none⟩,
    ⟨some 86, .ld .cp none (.t 85), none⟩,
    ⟨some 87, .bin .eql (.t 86) (.k (.c (.b (.d (.int .i64 0))))), none⟩,
    ⟨some 88, .mov .cp (.t 87), none⟩,
    ⟨some 89, .fa 2 (.t 1), (some (88, true))⟩,
    ⟨some 90, .ld .cp none (.t 89), (some (88, true))⟩,
    ⟨some 91, .bin .eql (.t 90) (.k (.c (.b (.d (.str ⟨#[]⟩))))), (some (88, true))⟩,
    ⟨some 92, .pick (.t 88) (.t 91) (.k (.c (.b (.d (.bool false))))), none⟩,
    ⟨some 93, .mov .cp (.t 92), none⟩,
    ⟨some 94, .fa 3 (.t 1), (some (93, true))⟩,
    ⟨some 95, .ld .cp none (.t 94), (some (93, true))⟩,
    ⟨some 96, .bin .eql (.t 95) (.k (.c (.b (.d (.str ⟨#[]⟩))))), (some (93, true))⟩,
    ⟨some 97, .pick (.t 93) (.t 96) (.k (.c (.b (.d (.bool false))))), none⟩,
    ⟨some 2, .mov .own (.t 97), none⟩] [2])
  .ret)))), [(.tmp 2)], .pure, false⟩
def f45_b0 : ACode := (.wrap true [1, 3] [2] [(0, [1])]
  (.seq (.seq (.region false [
    ⟨some 56, .mov .cp (.t 3), none⟩,
    ⟨some 57, .fa 3 (.t 1), none⟩,
    ⟨some 58, .ld .cp none (.t 57), none⟩,
    ⟨some 59, .len 0 (.t 58), none⟩,
    ⟨some 60, .bin .lss (.t 56) (.t 59), none⟩] [1, 3, 60])
  (.cond (.t 60)
    .skip
    (.exit 0)))
  (.seq (.block 1 (.seq (.region false [
    ⟨some 63, .fa 3 (.t 1), none⟩,
    ⟨some 64, .ld .cp none (.t 63), none⟩,
    ⟨some 65, .mov .cp (.t 3), none⟩,
    ⟨some 66, .ia 2 (.t 64) (.t 65), none⟩,
    ⟨some 67, .ld .cp (some 2) (.t 66), none⟩,
    ⟨some 68, .callb 44 [(.t 67)], none⟩,
    ⟨some 69, .bin .eql (.t 68) (.k (.c (.b (.d (.str ⟨#[]⟩))))), none⟩] [1, 3, 69])
  (.cond (.t 69)
    (.seq (.region false [
      ⟨some 2, .mov .own (.k (.c (.b (.d (.bool false))))), none⟩] [2])
    .ret)
    .skip)))
  (.region false [
    ⟨some 61, .mov .cp (.t 3), none⟩,
    ⟨some 62, .bin .add (.t 61) (.k (.c (.b (.d (.int .i64 1))))), none⟩,
    ⟨some 3, .mov .cp (.t 62), none⟩] [1, 3]))))
def f45_l0 : ACode := .loop f45_b0
theorem u45_l0 {bd : Bd} {s : St} {β : Type} {k : AExit → St → Option β} {fns : Nat → Option AFun} : K fns bd f45_l0 s k = K fns bd f45_b0 s (fun e s' => match e with | .normal => K fns bd f45_l0 s' k | e => k e s') := K_loop
def f45_b1 : ACode := (.wrap true [1, 4] [2] [(2, [1])]
  (.seq (.seq (.region false [
    ⟨some 70, .mov .cp (.t 4), none⟩,
    ⟨some 71, .fa 7 (.t 1), none⟩,
    ⟨some 72, .ld .cp none (.t 71), none⟩,
    ⟨some 73, .len 0 (.t 72), none⟩,
    ⟨some 74, .bin .lss (.t 70) (.t 73), none⟩] [1, 4, 74])
  (.cond (.t 74)
    .skip
    (.exit 2)))
  (.seq (.block 3 (.seq (.region false [
    ⟨some 77, .fa 7 (.t 1), none⟩,
    ⟨some 78, .ld .cp none (.t 77), none⟩,
    ⟨some 79, .mov .cp (.t 4), none⟩,
    ⟨some 80, .ia 4 (.t 78) (.t 79), none⟩,
    ⟨some 81, .ld .cp (some 4) (.t 80), none⟩,
    ⟨some 82, .callb 62 [(.t 81)], none⟩,
    ⟨some 83, .un .not (.t 82), none⟩] [1, 4, 83])
  (.cond (.t 83)
    (.seq (.region false [
      ⟨some 2, .mov .own (.k (.c (.b (.d (.bool false))))), none⟩] [2])
    .ret)
    .skip)))
  (.region false [
    ⟨some 75, .mov .cp (.t 4), none⟩,
    ⟨some 76, .bin .add (.t 75) (.k (.c (.b (.d (.int .i64 1))))), none⟩,
    ⟨some 4, .mov .cp (.t 76), none⟩] [1, 4]))))
def f45_l1 : ACode := .loop f45_b1
theorem u45_l1 {bd : Bd} {s : St} {β : Type} {k : AExit → St → Option β} {fns : Nat → Option AFun} : K fns bd f45_l1 s k = K fns bd f45_b1 s (fun e s' => match e with | .normal => K fns bd f45_l1 s' k | e => k e s') := K_loop
def f45_b2 : ACode := (.wrap true [1, 5] [2] [(4, [])]
  (.seq (.seq (.region false [
    ⟨some 84, .mov .cp (.t 5), none⟩,
    ⟨some 85, .fa 8 (.t 1), none⟩,
    ⟨some 86, .ld .cp none (.t 85), none⟩,
    ⟨some 87, .len 0 (.t 86), none⟩,
    ⟨some 88, .bin .lss (.t 84) (.t 87), none⟩] [1, 5, 88])
  (.cond (.t 88)
    .skip
    (.exit 4)))
  (.seq (.block 5 (.seq (.region false [
    ⟨some 91, .fa 8 (.t 1), none⟩,
    ⟨some 92, .ld .cp none (.t 91), none⟩,
    ⟨some 93, .mov .cp (.t 5), none⟩,
    ⟨some 94, .ia 4 (.t 92) (.t 93), none⟩,
    ⟨some 95, .ld .cp (some 4) (.t 94), none⟩,
    ⟨some 6, .alloc [(.b (.d (.str ⟨#[]⟩))), (.b (.d (.int .i64 0))), (.b (.d (.int .i64 0))), (.b (.d (.int .i64 0)))], none⟩,
    ⟨none, .st 4 (.t 6) (.t 95), none⟩] [1, 5, 6])
  (.seq (.region false [
    ⟨some 96, .fa 0 (.t 6), none⟩,
    ⟨some 97, .ld .cp none (.t 96), none⟩,
    ⟨some 98, .callb 43 [(.t 97)], none⟩,
    ⟨some 99, .un .not (.t 98), none⟩,
    ⟨some 100, .mov .cp (.t 99), none⟩,
    ⟨some 101, .fa 1 (.t 6), (some (100, false))⟩,
    ⟨some 102, .ld .cp none (.t 101), (some (100, false))⟩,
    ⟨some 103, .callb 61 [(.t 102), (.k (.c (.b (.d (.int .i64 0))))), (.k (.c (.b (.d (.int .i64 48)))))], (some (100, false))⟩,
    ⟨some 104, .un .not (.t 103), (some (100, false))⟩,
    ⟨some 105, .pick (.t 100) (.k (.c (.b (.d (.bool true))))) (.t 104), none⟩,
    ⟨some 106, .mov .cp (.t 105), none⟩,
    ⟨some 107, .fa 2 (.t 6), (some (106, false))⟩,
    ⟨some 108, .ld .cp none (.t 107), (some (106, false))⟩,
    ⟨some 109, .callb 61 [(.t 108), (.k (.c (.b (.d (.int .i64 0))))), (.k (.c (.b (.d (.int .i64 48)))))], (some (106, false))⟩,
    ⟨some 110, .un .not (.t 109), (some (106, false))⟩,
    ⟨some 111, .pick (.t 106) (.k (.c (.b (.d (.bool true))))) (.t 110), none⟩,
    ⟨some 112, .mov .cp (.t 111), none⟩,
    ⟨some 113, .fa 3 (.t 6), (some (112, false))⟩,
    ⟨some 114, .ld .cp none (.t 113), (some (112, false))⟩,
    ⟨some 115, .callb 61 [(.t 114), (.k (.c (.b (.d (.int .i64 0))))), (.k (.c (.b (.d (.int .i64 48)))))], (some (112, false))⟩,
    ⟨some 116, .un .not (.t 115), (some (112, false))⟩,
    ⟨some 117, .pick (.t 112) (.k (.c (.b (.d (.bool true))))) (.t 116), none⟩] [1, 5, 117])
  (.cond (.t 117)
    (.seq (.region false [
      ⟨some 2, .mov .own (.k (.c (.b (.d (.bool false))))), none⟩] [2])
    .ret)
    .skip))))
  (.region false [
    ⟨some 89, .mov .cp (.t 5), none⟩,
    ⟨some 90, .bin .add (.t 89) (.k (.c (.b (.d (.int .i64 1))))), none⟩,
    ⟨some 5, .mov .cp (.t 90), none⟩] [1, 5]))))
def f45_l2 : ACode := .loop f45_b2
theorem u45_l2 {bd : Bd} {s : St} {β : Type} {k : AExit → St → Option β} {fns : Nat → Option AFun} : K fns bd f45_l2 s k = K fns bd f45_b2 s (fun e s' => match e with | .normal => K fns bd f45_l2 s' k | e => k e s') := K_loop
/-- delver/delverref01.showMethod -/
def f45 : AFun := ⟨1,
  (.seq (.region false [
    ⟨some 1, .box (.t 0), none⟩,
    ⟨some 2, .mov .own (.k (.c (.b (.d (.bool false))))), none⟩] [1])
  (.seq (.seq (.region false [
    ⟨some 7, .fa 0 (.t 1), none⟩,
    ⟨some 8, .ld .cp none (.t 7), none⟩,
    ⟨some 9, .callb 43 [(.t 8)], none⟩,
    ⟨some 10, .un .not (.t 9), none⟩,
    ⟨some 11, .mov .cp (.t 10), none⟩,
    ⟨some 12, .fa 3 (.t 1), (some (11, false))⟩,
    ⟨some 13, .ld .cp none (.t 12), (some (11, false))⟩,
    ⟨some 14, .len 0 (.t 13), (some (11, false))⟩,
    ⟨some 15, .bin .gtr (.t 14) (.k (.c (.b (.d (.int .i64 4))))), (some (11, false))⟩,
    ⟨some 16, .pick (.t 11) (.k (.c (.b (.d (.bool true))))) (.t 15), none⟩,
    ⟨some 17, .mov .cp (.t 16), none⟩,
    ⟨some 18, .fa 4 (.t 1), (some (17, false))⟩,
    ⟨some 19, .ld .cp (some 2) (.t 18), (some (17, false))⟩,
    ⟨some 20, .callb 44 [(.t 19)], (some (17, false))⟩,
    ⟨some 21, .bin .eql (.t 20) (.k (.c (.b (.d (.str ⟨#[]⟩))))), (some (17, false))⟩,
    ⟨some 22, .pick (.t 17) (.k (.c (.b (.d (.bool true))))) (.t 21), none⟩,
    ⟨some 23, .mov .cp (.t 22), none⟩,
    ⟨some 24, .fa 7 (.t 1), (some (23, false))⟩,
    ⟨some 25, .ld .cp none (.t 24), (some (23, false))⟩,
    ⟨some 26, .len 0 (.t 25), (some (23, false))⟩,
    ⟨some 27, .bin .gtr (.t 26) (.k (.c (.b (.d (.int .i64 48))))), (some (23, false))⟩,
    ⟨some 28, .pick (.t 23) (.k (.c (.b (.d (.bool true))))) (.t 27), none⟩,
    ⟨some 29, .mov .cp (.t 28), none⟩,
    ⟨some 30, .fa 8 (.t 1), (some (29, false))⟩,
    ⟨some 31, .ld .cp none (.t 30), (some (29, false))⟩,
    ⟨some 32, .len 0 (.t 31), (some (29, false))⟩,
    ⟨some 33, .bin .gtr (.t 32) (.k (.c (.b (.d (.int .i64 4))))), (some (29, false))⟩,
    ⟨some 34, .pick (.t 29) (.k (.c (.b (.d (.bool true))))) (.t 33), none⟩,
    ⟨some 35, .mov .cp (.t 34), none⟩,
    ⟨some 36, .fa 6 (.t 1), (some (35, false))⟩,
    ⟨some 37, .ld .cp none (.t 36), (some (35, false))⟩,
    ⟨some 38, .callb 61 [(.t 37), (.k (.c (.b (.d (.int .i64 0))))), (.k (.c (.b (.d (.int .i64 8)))))], (some (35, false))⟩,
    ⟨some 39, .un .not (.t 38), (some (35, false))⟩,
    ⟨some 40, .pick (.t 35) (.k (.c (.b (.d (.bool true))))) (.t 39), none⟩] [1, 40])
  (.cond (.t 40)
    (.seq (.region false [
      ⟨some 2, .mov .own (.k (.c (.b (.d (.bool false))))), none⟩] [2])
    .ret)
    .skip))
  (.seq (.seq (.region false [
    ⟨some 41, .fa 2 (.t 1), none⟩,
    ⟨some 42, .ld .cp none (.t 41), none⟩,
    ⟨some 43, .mov .cp (.t 42), none⟩,
    ⟨some 44, .fa 6 (.t 1), (some (43, true))⟩,
    ⟨some 45, .ld .cp none (.t 44), (some (43, true))⟩,
    ⟨some 46, .fa 7 (.t 1), (some (43, true))⟩,
    ⟨some 47, .ld .cp none (.t 46), (some (43, true))⟩,
    ⟨some 48, .len 0 (.t 47), (some (43, true))⟩,
    ⟨some 49, .bin .add (.t 45) (.t 48), (some (43, true))⟩,
    ⟨some 50, .fa 8 (.t 1), (some (43, true))⟩,
    ⟨some 51, .ld .cp none (.t 50), (some (43, true))⟩,
    ⟨some 52, .len 0 (.t 51), (some (43, true))⟩,
    ⟨some 53, .bin .add (.t 49) (.t 52), (some (43, true))⟩,
    ⟨some 54, .bin .gtr (.t 53) (.k (.c (.b (.d (.int .i64 0))))), (some (43, true))⟩,
    ⟨some 55, .pick (.t 43) (.t 54) (.k (.c (.b (.d (.bool false))))), none⟩] [1, 55])
  (.cond (.t 55)
    (.seq (.region false [
      ⟨some 2, .mov .own (.k (.c (.b (.d (.bool false))))), none⟩] [2])
    .ret)
    .skip))
  (.seq (.seq (.region false [
    ⟨some 3, .mov .cp (.k (.c (.b (.d (.int .i64 0))))), none⟩] [1, 3])
  (.block 0 f45_l0))
  (.seq (.seq (.region false [
    ⟨some 4, .mov .cp (.k (.c (.b (.d (.int .i64 0))))), none⟩] [1, 4])
  (.block 2 f45_l1))
  (.seq (.seq (.region false [
    ⟨some 5, .mov .cp (.k (.c (.b (.d (.int .i64 0))))), none⟩] [1, 5])
  (.block 4 f45_l2))
  (.seq (.region false [
    ⟨some 2, .mov .own (.k (.c (.b (.d (.bool true))))), none⟩] [2])
  .ret))))))), [(.tmp 2)], .pure, false⟩
def f29_b0 : ACode := (.wrap true [1, 3, 4, 5] [2] [(2, [1, 3, 4])]
  (.seq (.seq (.region false [
    ⟨some 61, .mov .cp (.t 5), none⟩,
    ⟨some 62, .fa 3 (.t 4), none⟩,
    ⟨some 63, .ld .cp none (.t 62), none⟩,
    ⟨some 64, .len 0 (.t 63), none⟩,
    ⟨some 65, .bin .lss (.t 61) (.t 64), none⟩] [1, 3, 4, 5, 65])
  (.cond (.t 65)
    .skip
    (.exit 2)))
  (.seq (.block 3 (.seq (.region false [
    ⟨some 68, .fa 3 (.t 4), none⟩,
    ⟨some 69, .ld .cp none (.t 68), none⟩,
    ⟨some 70, .mov .cp (.t 5), none⟩,
    ⟨some 71, .ia 1 (.t 69) (.t 70), none⟩,
    ⟨some 72, .ld .cp none (.t 71), none⟩,
    ⟨some 73, .callb 43 [(.t 72)], none⟩,
    ⟨some 74, .un .not (.t 73), none⟩] [1, 3, 4, 5, 74])
  (.cond (.t 74)
    (.seq (.region false [
      ⟨some 2, .mov .own (.k (.c (.b (.d (.bool false))))), none⟩] [2])
    .ret)
    .skip)))
  (.region false [
    ⟨some 66, .mov .cp (.t 5), none⟩,
    ⟨some 67, .bin .add (.t 66) (.k (.c (.b (.d (.int .i64 1))))), none⟩,
    ⟨some 5, .mov .cp (.t 67), none⟩] [1, 3, 4, 5]))))
def f29_l0 : ACode := .loop f29_b0
theorem u29_l0 {bd : Bd} {s : St} {β : Type} {k : AExit → St → Option β} {fns : Nat → Option AFun} : K fns bd f29_l0 s k = K fns bd f29_b0 s (fun e s' => match e with | .normal => K fns bd f29_l0 s' k | e => k e s') := K_loop
def f29_b1 : ACode := (.wrap true [1, 3, 4, 6] [2] [(4, [1, 3, 4])]
  (.seq (.seq (.region false [
    ⟨some 75, .mov .cp (.t 6), none⟩,
    ⟨some 76, .fa 4 (.t 4), none⟩,
    ⟨some 77, .ld .cp none (.t 76), none⟩,
    ⟨some 78, .len 0 (.t 77), none⟩,
    ⟨some 79, .bin .lss (.t 75) (.t 78), none⟩] [1, 3, 4, 6, 79])
  (.cond (.t 79)
    .skip
    (.exit 4)))
  (.seq (.block 5 (.seq (.region false [
    ⟨some 82, .fa 4 (.t 4), none⟩,
    ⟨some 83, .ld .cp none (.t 82), none⟩,
    ⟨some 84, .mov .cp (.t 6), none⟩,
    ⟨some 85, .ia 4 (.t 83) (.t 84), none⟩,
    ⟨some 86, .fa 0 (.t 85), none⟩,
    ⟨some 87, .ld .cp none (.t 86), none⟩,
    ⟨some 88, .callb 43 [(.t 87)], none⟩,
    ⟨some 89, .un .not (.t 88), none⟩,
    ⟨some 90, .mov .cp (.t 89), none⟩,
    ⟨some 91, .fa 4 (.t 4), (some (90, false))⟩,
    ⟨some 92, .ld .cp none (.t 91), (some (90, false))⟩,
    ⟨some 93, .mov .cp (.t 6), (some (90, false))⟩,
    ⟨some 94, .ia 4 (.t 92) (.t 93), (some (90, false))⟩,
    ⟨some 95, .fa 1 (.t 94), (some (90, false))⟩,
    ⟨some 96, .ld .cp (some 2) (.t 95), (some (90, false))⟩,
    ⟨some 97, .callb 44 [(.t 96)], (some (90, false))⟩,
    ⟨some 98, .bin .eql (.t 97) (.k (.c (.b (.d (.str ⟨#[]⟩))))), (some (90, false))⟩,
    ⟨some 99, .pick (.t 90) (.k (.c (.b (.d (.bool true))))) (.t 98), none⟩] [1, 3, 4, 6, 99])
  (.cond (.t 99)
    (.seq (.region false [
      ⟨some 2, .mov .own (.k (.c (.b (.d (.bool false))))), none⟩] [2])
    .ret)
    .skip)))
  (.region false [
    ⟨some 80, .mov .cp (.t 6), none⟩,
    ⟨some 81, .bin .add (.t 80) (.k (.c (.b (.d (.int .i64 1))))), none⟩,
    ⟨some 6, .mov .cp (.t 81), none⟩] [1, 3, 4, 6]))))
def f29_l1 : ACode := .loop f29_b1
theorem u29_l1 {bd : Bd} {s : St} {β : Type} {k : AExit → St → Option β} {fns : Nat → Option AFun} : K fns bd f29_l1 s k = K fns bd f29_b1 s (fun e s' => match e with | .normal => K fns bd f29_l1 s' k | e => k e s') := K_loop
def f29_b2 : ACode := (.wrap true [1, 3, 4, 7] [2] [(6, [1, 3])]
  (.seq (.seq (.region false [
    ⟨some 100, .mov .cp (.t 7), none⟩,
    ⟨some 101, .fa 5 (.t 4), none⟩,
    ⟨some 102, .ld .cp none (.t 101), none⟩,
    ⟨some 103, .len 0 (.t 102), none⟩,
    ⟨some 104, .bin .lss (.t 100) (.t 103), none⟩] [1, 3, 4, 7, 104])
  (.cond (.t 104)
    .skip
    (.exit 6)))
  (.seq (.block 7 (.seq (.region false [
    ⟨some 107, .fa 5 (.t 4), none⟩,
    ⟨some 108, .ld .cp none (.t 107), none⟩,
    ⟨some 109, .mov .cp (.t 7), none⟩,
    ⟨some 110, .ia 9 (.t 108) (.t 109), none⟩,
    ⟨some 111, .ld .cp (some 9) (.t 110), none⟩,
    ⟨some 112, .callb 45 [(.t 111)], none⟩,
    ⟨some 113, .un .not (.t 112), none⟩] [1, 3, 4, 7, 113])
  (.cond (.t 113)
    (.seq (.region false [
      ⟨some 2, .mov .own (.k (.c (.b (.d (.bool false))))), none⟩] [2])
    .ret)
    .skip)))
  (.region false [
    ⟨some 105, .mov .cp (.t 7), none⟩,
    ⟨some 106, .bin .add (.t 105) (.k (.c (.b (.d (.int .i64 1))))), none⟩,
    ⟨some 7, .mov .cp (.t 106), none⟩] [1, 3, 4, 7]))))
def f29_l2 : ACode := .loop f29_b2
theorem u29_l2 {bd : Bd} {s : St} {β : Type} {k : AExit → St → Option β} {fns : Nat → Option AFun} : K fns bd f29_l2 s k = K fns bd f29_b2 s (fun e s' => match e with | .normal => K fns bd f29_l2 s' k | e => k e s') := K_loop
def f29_b3 : ACode := (.wrap true [1, 3] [2] [(0, [])]
  (.seq (.seq (.region false [
    ⟨some 12, .mov .cp (.t 3), none⟩,
    ⟨some 13, .fa 0 (.t 1), none⟩,
    ⟨some 14, .ld .cp none (.t 13), none⟩,
    ⟨some 15, .len 0 (.t 14), none⟩,
    ⟨some 16, .bin .lss (.t 12) (.t 15), none⟩] [1, 3, 16])
  (.cond (.t 16)
    .skip
    (.exit 0)))
  (.seq (.block 1 (.seq (.region false [
    ⟨some 19, .fa 0 (.t 1), none⟩,
    ⟨some 20, .ld .cp none (.t 19), none⟩,
    ⟨some 21, .mov .cp (.t 3), none⟩,
    ⟨some 22, .ia 6 (.t 20) (.t 21), none⟩,
    ⟨some 23, .ld .cp (some 6) (.t 22), none⟩,
    ⟨some 4, .alloc [(.b (.d (.str ⟨#[]⟩))), (.b (.d (.bool false))), (.b (.d (.str ⟨#[]⟩))), (.osl 1 []), (.osl 4 []), (.osl 9 [])], none⟩,
    ⟨none, .st 6 (.t 4) (.t 23), none⟩] [1, 3, 4])
  (.seq (.seq (.region false [
    ⟨some 24, .fa 0 (.t 4), none⟩,
    ⟨some 25, .ld .cp none (.t 24), none⟩,
    ⟨some 26, .callb 43 [(.t 25)], none⟩,
    ⟨some 27, .un .not (.t 26), none⟩,
    ⟨some 28, .mov .cp (.t 27), none⟩,
    ⟨some 29, .fa 2 (.t 4), (some (28, false))⟩,
    ⟨some 30, .ld .cp none (.t 29), (some (28, false))⟩,
    ⟨some 31, .bin .neq (.t 30) (.k (.c (.b (.d (.str ⟨#[]⟩))))), (some (28, false))⟩,
    ⟨some 32, .mov .cp (.t 31), (some (28, false))⟩,
    ⟨some 33, .fa 1 (.t 4), (some (32, true))⟩,
    ⟨some 34, .ld .cp none (.t 33), (some (32, true))⟩,
    ⟨some 35, .mov .cp (.t 34), (some (32, true))⟩,
    ⟨some 36, .fa 2 (.t 4), (some (35, false))⟩,
    ⟨some 37, .ld .cp none (.t 36), (some (35, false))⟩,
    ⟨some 38, .callb 43 [(.t 37)], (some (35, false))⟩,
    ⟨some 39, .un .not (.t 38), (some (35, false))⟩,
    ⟨some 40, .pick (.t 35) (.k (.c (.b (.d (.bool true))))) (.t 39), (some (32, true))⟩,
    ⟨some 41, .pick (.t 32) (.t 40) (.k (.c (.b (.d (.bool false))))), (some (28, false))⟩,
    ⟨some 42, .pick (.t 28) (.k (.c (.b (.d (.bool true))))) (.t 41), none⟩,
    ⟨some 43, .mov .cp (.t 42), none⟩,
    ⟨some 44, .fa 3 (.t 4), (some (43, false))⟩,
    ⟨some 45, .ld .cp none (.t 44), (some (43, false))⟩,
    ⟨some 46, .len 0 (.t 45), (some (43, false))⟩,
    ⟨some 47, .bin .gtr (.t 46) (.k (.c (.b (.d (.int .i64 4))))), (some (43, false))⟩,
    ⟨some 48, .pick (.t 43) (.k (.c (.b (.d (.bool true))))) (.t 47), none⟩,
    ⟨some 49, .mov .cp (.t 48), none⟩,
    ⟨some 50, .fa 4 (.t 4), (some (49, false))⟩,
    ⟨some 51, .ld .cp none (.t 50), (some (49, false))⟩,
    ⟨some 52, .len 0 (.t 51), (some (49, false))⟩,
    ⟨some 53, .bin .gtr (.t 52) (.k (.c (.b (.d (.int .i64 6))))), (some (49, false))⟩,
    ⟨some 54, .pick (.t 49) (.k (.c (.b (.d (.bool true))))) (.t 53), none⟩,
    ⟨some 55, .mov .cp (.t 54), none⟩,
    ⟨some 56, .fa 5 (.t 4), (some (55, false))⟩,
    ⟨some 57, .ld .cp none (.t 56), (some (55, false))⟩,
    ⟨some 58, .len 0 (.t 57), (some (55, false))⟩,
    ⟨some 59, .bin .gtr (.t 58) (.k (.c (.b (.d (.int .i64 6))))), (some (55, false))⟩,
    ⟨some 60, .pick (.t 55) (.k (.c (.b (.d (.bool true))))) (.t 59), none⟩] [1, 3, 4, 60])
  (.cond (.t 60)
    (.seq (.region false [
      ⟨some 2, .mov .own (.k (.c (.b (.d (.bool false))))), none⟩] [2])
    .ret)
    .skip))
  (.seq (.seq (.region false [
    ⟨some 5, .mov .cp (.k (.c (.b (.d (.int .i64 0))))), none⟩] [1, 3, 4, 5])
  (.block 2 f29_l0))
  (.seq (.seq (.region false [
    ⟨some 6, .mov .cp (.k (.c (.b (.d (.int .i64 0))))), none⟩] [1, 3, 4, 6])
  (.block 4 f29_l1))
  (.seq (.region false [
    ⟨some 7, .mov .cp (.k (.c (.b (.d (.int .i64 0))))), none⟩] [1, 3, 4, 7])
  (.block 6 f29_l2)))))))
  (.region false [
    ⟨some 17, .mov .cp (.t 3), none⟩,
    ⟨some 18, .bin .add (.t 17) (.k (.c (.b (.d (.int .i64 1))))), none⟩,
    ⟨some 3, .mov .cp (.t 18), none⟩] [1, 3]))))
def f29_l3 : ACode := .loop f29_b3
theorem u29_l3 {bd : Bd} {s : St} {β : Type} {k : AExit → St → Option β} {fns : Nat → Option AFun} : K fns bd f29_l3 s k = K fns bd f29_b3 s (fun e s' => match e with | .normal => K fns bd f29_l3 s' k | e => k e s') := K_loop
/-- delver/delverref01.Shown -/
def f29 : AFun := ⟨1,
  (.seq (.region false [
    ⟨some 1, .box (.t 0), none⟩,
    ⟨some 2, .mov .own (.k (.c (.b (.d (.bool false))))), none⟩] [1])
  (.seq (.seq (.region false [
    ⟨some 8, .fa 0 (.t 1), none⟩,
    ⟨some 9, .ld .cp none (.t 8), none⟩,
    ⟨some 10, .len 0 (.t 9), none⟩,
    ⟨some 11, .bin .gtr (.t 10) (.k (.c (.b (.d (.int .i64 10))))), none⟩] [1, 11])
  (.cond (.t 11)
    (.seq (.region false [
      ⟨some 2, .mov .own (.k (.c (.b (.d (.bool false))))), none⟩] [2])
    .ret)
    .skip))
  (.seq (.seq (.region false [
    ⟨some 3, .mov .cp (.k (.c (.b (.d (.int .i64 0))))), none⟩] [1, 3])
  (.block 0 f29_l3))
  (.seq (.region false [
    ⟨some 2, .mov .own (.k (.c (.b (.d (.bool true))))), none⟩] [2])
  .ret)))), [(.tmp 2)], .pure, false⟩
/-- delver/delverref04.above -/
def f30 : AFun := ⟨1,
  (.seq (.region false [
    ⟨some 1, .box (.t 0), none⟩,
    ⟨some 2, .mov .own (.k (.c (.osl 1 []))), none⟩] [1])
  (.seq (.region false [
    ⟨some 3, .mov .own (.k (.c (.osl 1 []))), none⟩] [1, 3])
  (.seq (.seq (.region false [
    ⟨some 5, .ld .cp (some 6) (.t 1), none⟩,
    ⟨some 6, .callb 27 [(.t 5)], none⟩,
    ⟨some 4, .mov .cp (.t 6), none⟩] [1, 3, 4])
  (.seq (.region false [
    ⟨some 7, .mov .cp (.t 4), none⟩,
    ⟨some 8, .bin .neq (.t 7) (.k (.c (.b (.d (.str ⟨#[]⟩))))), none⟩] [1, 3, 4, 8])
  (.cond (.t 8)
    (.region false [
      ⟨some 9, .mov .own (.t 3), none⟩,
      ⟨some 10, .mov .cp (.t 4), none⟩,
      ⟨some 11, .bsl .own 1 1 [(.b (.d (.str ⟨#[]⟩)))] [(0, (.t 10))], none⟩,
      ⟨some 12, .app 1 16 (.t 9) (.t 11), none⟩,
      ⟨some 3, .mov .own (.t 12), none⟩] [1, 3])
    .skip)))
  (.seq (.region false [
    ⟨some 13, .mov .own (.t 3), none⟩,
    ⟨some 14, .fa 3 (.t 1), none⟩,
    ⟨some 15, .ld .cp none (.t 14), none⟩,
    ⟨some 16, .app 1 16 (.t 13) (.t 15), none⟩,
    ⟨some 2, .mov .own (.t 16), none⟩] [2])
  .ret)))), [(.tmp 2)], .pure, false⟩
def f31_b0 : ACode := (.wrap true [0, 1, 5] [4] [(0, [])]
  (.seq (.seq (.region false [
    ⟨some 6, .mov .cp (.t 5), none⟩,
    ⟨some 7, .mov .cp (.t 0), none⟩,
    ⟨some 8, .len 0 (.t 7), none⟩,
    ⟨some 9, .bin .lss (.t 6) (.t 8), none⟩] [0, 1, 5, 9])
  (.cond (.t 9)
    .skip
    (.exit 0)))
  (.seq (.block 1 (.seq (.region false [
    ⟨some 12, .mov .cp (.t 0), none⟩,
    ⟨some 13, .mov .cp (.t 5), none⟩,
    ⟨some 14, .ia 1 (.t 12) (.t 13), none⟩,
    ⟨some 15, .ld .cp none (.t 14), none⟩,
    ⟨some 16, .mov .cp (.t 1), none⟩,
    ⟨some 17, .bin .eql (.t 15) (.t 16), none⟩] [0, 1, 5, 17])
  (.cond (.t 17)
    (.seq (.region false [
      ⟨some 4, .mov .own (.k (.c (.b (.d (.bool true))))), none⟩] [4])
    .ret)
    .skip)))
  (.region false [
    ⟨some 10, .mov .cp (.t 5), none⟩,
    ⟨some 11, .bin .add (.t 10) (.k (.c (.b (.d (.int .i64 1))))), none⟩,
    ⟨some 5, .mov .cp (.t 11), none⟩] [0, 1, 5]))))
def f31_l0 : ACode := .loop f31_b0
theorem u31_l0 {bd : Bd} {s : St} {β : Type} {k : AExit → St → Option β} {fns : Nat → Option AFun} : K fns bd f31_l0 s k = K fns bd f31_b0 s (fun e s' => match e with | .normal => K fns bd f31_l0 s' k | e => k e s') := K_loop
/-- delver/delverref04.has -/
def f31 : AFun := ⟨2,
  (.seq (.region false [
    ⟨some 4, .mov .own (.k (.c (.b (.d (.bool false))))), none⟩] [0, 1])
  (.seq (.seq (.region false [
    ⟨some 5, .mov .cp (.k (.c (.b (.d (.int .i64 0))))), none⟩] [0, 1, 5])
  (.block 0 f31_l0))
  (.seq (.region false [
    ⟨some 4, .mov .own (.k (.c (.b (.d (.bool false))))), none⟩] [4])
  .ret))), [(.tmp 4)], .pure, false⟩
def f32_b0 : ACode := (.wrap true [0, 5, 6, 8, 9] [4] [(2, [0, 5, 6])]
  (.seq (.seq (.region false [
    ⟨some 31, .mov .cp (.t 9), none⟩,
    ⟨some 32, .mov .cp (.t 8), none⟩,
    ⟨some 33, .len 0 (.t 32), none⟩,
    ⟨some 34, .bin .lss (.t 31) (.t 33), none⟩] [0, 5, 6, 8, 9, 34])
  (.cond (.t 34)
    .skip
    (.exit 2)))
  (.seq (.block 3 (.seq (.region false [
    ⟨some 37, .mov .cp (.t 5), none⟩,
    ⟨some 38, .mov .cp (.t 8), none⟩,
    ⟨some 39, .mov .cp (.t 9), none⟩,
    ⟨some 40, .ia 1 (.t 38) (.t 39), none⟩,
    ⟨some 41, .ld .cp none (.t 40), none⟩,
    ⟨some 42, .callb 31 [(.t 37), (.t 41)], none⟩,
    ⟨some 43, .un .not (.t 42), none⟩] [0, 5, 6, 8, 9, 43])
  (.cond (.t 43)
    (.region false [
      ⟨some 44, .mov .own (.t 5), none⟩,
      ⟨some 45, .mov .cp (.t 8), none⟩,
      ⟨some 46, .mov .cp (.t 9), none⟩,
      ⟨some 47, .ia 1 (.t 45) (.t 46), none⟩,
      ⟨some 48, .ld .cp none (.t 47), none⟩,
      ⟨some 49, .bsl .own 1 1 [(.b (.d (.str ⟨#[]⟩)))] [(0, (.t 48))], none⟩,
      ⟨some 50, .app 1 16 (.t 44) (.t 49), none⟩,
      ⟨some 5, .mov .own (.t 50), none⟩] [0, 5, 6, 8, 9])
    .skip)))
  (.region false [
    ⟨some 35, .mov .cp (.t 9), none⟩,
    ⟨some 36, .bin .add (.t 35) (.k (.c (.b (.d (.int .i64 1))))), none⟩,
    ⟨some 9, .mov .cp (.t 36), none⟩] [0, 5, 6, 8, 9]))))
def f32_l0 : ACode := .loop f32_b0
theorem u32_l0 {bd : Bd} {s : St} {β : Type} {k : AExit → St → Option β} {fns : Nat → Option AFun} : K fns bd f32_l0 s k = K fns bd f32_b0 s (fun e s' => match e with | .normal => K fns bd f32_l0 s' k | e => k e s') := K_loop
def f32_b1 : ACode := (.wrap true [0, 5, 6] [4] [(0, [5])]
  (.seq (.seq (.region false [
    ⟨some 12, .mov .cp (.t 6), none⟩,
    ⟨some 13, .mov .cp (.t 5), none⟩,
    ⟨some 14, .len 0 (.t 13), none⟩,
    ⟨some 15, .bin .lss (.t 12) (.t 14), none⟩] [0, 5, 6, 15])
  (.cond (.t 15)
    .skip
    (.exit 0)))
  (.seq (.block 1 (.seq (.region false [
    ⟨some 18, .mov .cp (.t 0), none⟩,
    ⟨some 19, .mov .cp (.t 5), none⟩,
    ⟨some 20, .mov .cp (.t 6), none⟩,
    ⟨some 21, .ia 1 (.t 19) (.t 20), none⟩,
    ⟨some 22, .ld .cp none (.t 21), none⟩,
    ⟨some 23, .callb 16 [(.t 18), (.t 22)], none⟩,
    ⟨some 7, .mov .cp (.t 23), none⟩] [0, 5, 6, 7])
  (.seq (.seq (.region false [
    ⟨some 24, .mov .cp (.t 7), none⟩,
    ⟨some 25, .bin .lss (.t 24) (.k (.c (.b (.d (.int .i64 0))))), none⟩] [0, 5, 6, 7, 25])
  (.cond (.t 25)
    (.exit 1)
    .skip))
  (.seq (.region false [
    ⟨some 26, .mov .cp (.t 0), none⟩,
    ⟨some 27, .mov .cp (.t 7), none⟩,
    ⟨some 28, .ia 6 (.t 26) (.t 27), none⟩,
    ⟨some 29, .ld .cp (some 6) (.t 28), none⟩,
    ⟨some 30, .callb 30 [(.t 29)], none⟩,
    ⟨some 8, .mov .cp (.t 30), none⟩] [0, 5, 6, 8])
  (.seq (.region false [
    ⟨some 9, .mov .cp (.k (.c (.b (.d (.int .i64 0))))), none⟩] [0, 5, 6, 8, 9])
  (.block 2 f32_l0))))))
  (.region false [
    ⟨some 16, .mov .cp (.t 6), none⟩,
    ⟨some 17, .bin .add (.t 16) (.k (.c (.b (.d (.int .i64 1))))), none⟩,
    ⟨some 6, .mov .cp (.t 17), none⟩] [0, 5, 6]))))
def f32_l1 : ACode := .loop f32_b1
theorem u32_l1 {bd : Bd} {s : St} {β : Type} {k : AExit → St → Option β} {fns : Nat → Option AFun} : K fns bd f32_l1 s k = K fns bd f32_b1 s (fun e s' => match e with | .normal => K fns bd f32_l1 s' k | e => k e s') := K_loop
/-- delver/delverref04.reach -/
def f32 : AFun := ⟨2,
  (.seq (.region false [
    ⟨some 4, .mov .own (.k (.c (.osl 1 []))), none⟩] [0, 1])
  (.seq (.region false [
    ⟨some 10, .mov .cp (.t 1), none⟩,
    ⟨some 11, .bsl .own 1 1 [(.b (.d (.str ⟨#[]⟩)))] [(0, (.t 10))], none⟩,
    ⟨some 5, .mov .own (.t 11), none⟩] [0, 5])
  (.seq (.seq (.region false [
    ⟨some 6, .mov .cp (.k (.c (.b (.d (.int .i64 0))))), none⟩] [0, 5, 6])
  (.block 0 f32_l1))
  (.seq (.region false [
    ⟨some 51, .mov .own (.t 5), none⟩,
    ⟨some 4, .mov .own (.t 51), none⟩] [4])
  .ret)))), [(.tmp 4)], .pure, false⟩
def f10_b0 : ACode := (.wrap true [3, 4] [2] [(0, [3])]
  (.seq (.seq (.region false [
    ⟨some 17, .mov .cp (.t 4), none⟩,
    ⟨some 18, .mov .cp (.t 3), none⟩,
    ⟨some 19, .len 0 (.t 18), none⟩,
    ⟨some 20, .bin .lss (.t 17) (.t 19), none⟩] [3, 4, 20])
  (.cond (.t 20)
    .skip
    (.exit 0)))
  (.seq (.block 1 (.seq (.region false [
    ⟨some 23, .mov .cp (.t 3), none⟩,
    ⟨some 24, .mov .cp (.t 3), none⟩,
    ⟨some 25, .mov .cp (.t 4), none⟩,
    ⟨some 26, .ia 6 (.t 24) (.t 25), none⟩,
    ⟨some 27, .fa 0 (.t 26), none⟩,
    ⟨some 28, .ld .cp none (.t 27), none⟩,
    ⟨some 29, .callb 16 [(.t 23), (.t 28)], none⟩,
    ⟨some 30, .mov .cp (.t 4), none⟩,
    ⟨some 31, .bin .neq (.t 29) (.t 30), none⟩] [3, 4, 31])
  (.cond (.t 31)
    (.seq (.region false [
      ⟨some 2, .mov .own (.k (.c (.b (.d (.int .i64 6))))), none⟩] [2])
    .ret)
    .skip)))
  (.region false [
    ⟨some 21, .mov .cp (.t 4), none⟩,
    ⟨some 22, .bin .add (.t 21) (.k (.c (.b (.d (.int .i64 1))))), none⟩,
    ⟨some 4, .mov .cp (.t 22), none⟩] [3, 4]))))
def f10_l0 : ACode := .loop f10_b0
theorem u10_l0 {bd : Bd} {s : St} {β : Type} {k : AExit → St → Option β} {fns : Nat → Option AFun} : K fns bd f10_l0 s k = K fns bd f10_b0 s (fun e s' => match e with | .normal => K fns bd f10_l0 s' k | e => k e s') := K_loop
def f10_b1 : ACode := (.wrap true [3, 5, 7] [2] [(4, [3, 5])]
  (.seq (.seq (.region false [
    ⟨some 60, .mov .cp (.t 7), none⟩,
    ⟨some 61, .mov .cp (.t 3), none⟩,
    ⟨some 62, .mov .cp (.t 5), none⟩,
    ⟨some 63, .ia 6 (.t 61) (.t 62), none⟩,
    ⟨some 64, .fa 3 (.t 63), none⟩,
    ⟨some 65, .ld .cp none (.t 64), none⟩,
    ⟨some 66, .len 0 (.t 65), none⟩,
    ⟨some 67, .bin .lss (.t 60) (.t 66), none⟩] [3, 5, 7, 67])
  (.cond (.t 67)
    .skip
    (.exit 4)))
  (.seq (.block 5 (.seq (.region false [
    ⟨some 70, .mov .cp (.t 3), none⟩,
    ⟨some 71, .mov .cp (.t 3), none⟩,
    ⟨some 72, .mov .cp (.t 5), none⟩,
    ⟨some 73, .ia 6 (.t 71) (.t 72), none⟩,
    ⟨some 74, .fa 3 (.t 73), none⟩,
    ⟨some 75, .ld .cp none (.t 74), none⟩,
    ⟨some 76, .mov .cp (.t 7), none⟩,
    ⟨some 77, .ia 1 (.t 75) (.t 76), none⟩,
    ⟨some 78, .ld .cp none (.t 77), none⟩,
    ⟨some 79, .callb 16 [(.t 70), (.t 78)], none⟩,
    ⟨some 8, .mov .cp (.t 79), none⟩] [3, 5, 7, 8])
  (.seq (.region false [
    ⟨some 80, .mov .cp (.t 8), none⟩,
    ⟨some 81, .bin .lss (.t 80) (.k (.c (.b (.d (.int .i64 0))))), none⟩,
    ⟨some 82, .mov .cp (.t 81), none⟩,
    ⟨some 83, .mov .cp (.t 3), (some (82, false))⟩,
    ⟨some 84, .mov .cp (.t 8), (some (82, false))⟩,
    ⟨some 85, .ia 6 (.t 83) (.t 84), (some (82, false))⟩,
    ⟨some 86, .fa 1 (.t 85), (some (82, false))⟩,
    ⟨some 87, .ld .cp none (.t 86), (some (82, false))⟩,
    ⟨some 88, .un .not (.t 87), (some (82, false))⟩,
    ⟨some 89, .pick (.t 82) (.k (.c (.b (.d (.bool true))))) (.t 88), none⟩] [3, 5, 7, 89])
  (.cond (.t 89)
    (.seq (.region false [
      ⟨some 2, .mov .own (.k (.c (.b (.d (.int .i64 5))))), none⟩] [2])
    .ret)
    .skip))))
  (.region false [
    ⟨some 68, .mov .cp (.t 7), none⟩,
    ⟨some 69, .bin .add (.t 68) (.k (.c (.b (.d (.int .i64 1))))), none⟩,
    ⟨some 7, .mov .cp (.t 69), none⟩] [3, 5, 7]))))
def f10_l1 : ACode := .loop f10_b1
theorem u10_l1 {bd : Bd} {s : St} {β : Type} {k : AExit → St → Option β} {fns : Nat → Option AFun} : K fns bd f10_l1 s k = K fns bd f10_b1 s (fun e s' => match e with | .normal => K fns bd f10_l1 s' k | e => k e s') := K_loop
def f10_b2 : ACode := (.wrap true [3, 5] [2] [(2, [3])]
  (.seq (.seq (.region false [
    ⟨some 32, .mov .cp (.t 5), none⟩,
    ⟨some 33, .mov .cp (.t 3), none⟩,
    ⟨some 34, .len 0 (.t 33), none⟩,
    ⟨some 35, .bin .lss (.t 32) (.t 34), none⟩] [3, 5, 35])
  (.cond (.t 35)
    .skip
    (.exit 2)))
  (.seq (.block 3 (.seq (.seq (.region false [
    ⟨some 38, .mov .cp (.t 3), none⟩,
    ⟨some 39, .mov .cp (.t 5), none⟩,
    ⟨some 40, .ia 6 (.t 38) (.t 39), none⟩,
    ⟨some 41, .ld .cp (some 6) (.t 40), none⟩,
    ⟨some 42, .callb 27 [(.t 41)], none⟩,
    ⟨some 6, .mov .cp (.t 42), none⟩] [3, 5, 6])
  (.seq (.region false [
    ⟨some 43, .mov .cp (.t 6), none⟩,
    ⟨some 44, .bin .neq (.t 43) (.k (.c (.b (.d (.str ⟨#[]⟩))))), none⟩,
    ⟨some 45, .mov .cp (.t 44), none⟩,
    ⟨some 46, .mov .cp (.t 3), (some (45, true))⟩,
    ⟨some 47, .mov .cp (.t 6), (some (45, true))⟩,
    ⟨some 48, .callb 16 [(.t 46), (.t 47)], (some (45, true))⟩,
    ⟨some 49, .bin .lss (.t 48) (.k (.c (.b (.d (.int .i64 0))))), (some (45, true))⟩,
    ⟨some 50, .mov .cp (.t 49), (some (45, true))⟩,
    ⟨some 51, .mov .cp (.t 3), (some (50, false))⟩,
    ⟨some 52, .mov .cp (.t 3), (some (50, false))⟩,
    ⟨some 53, .mov .cp (.t 6), (some (50, false))⟩,
    ⟨some 54, .callb 16 [(.t 52), (.t 53)], (some (50, false))⟩,
    ⟨some 55, .ia 6 (.t 51) (.t 54), (some (50, false))⟩,
    ⟨some 56, .fa 1 (.t 55), (some (50, false))⟩,
    ⟨some 57, .ld .cp none (.t 56), (some (50, false))⟩,
    ⟨some 58, .pick (.t 50) (.k (.c (.b (.d (.bool true))))) (.t 57), (some (45, true))⟩,
    ⟨some 59, .pick (.t 45) (.t 58) (.k (.c (.b (.d (.bool false))))), none⟩] [3, 5, 59])
  (.cond (.t 59)
    (.seq (.region false [
      ⟨some 2, .mov .own (.k (.c (.b (.d (.int .i64 5))))), none⟩] [2])
    .ret)
    .skip)))
  (.seq (.region false [
    ⟨some 7, .mov .cp (.k (.c (.b (.d (.int .i64 0))))), none⟩] [3, 5, 7])
  (.block 4 f10_l1))))
  (.region false [
    ⟨some 36, .mov .cp (.t 5), none⟩,
    ⟨some 37, .bin .add (.t 36) (.k (.c (.b (.d (.int .i64 1))))), none⟩,
    ⟨some 5, .mov .cp (.t 37), none⟩] [3, 5]))))
def f10_l2 : ACode := .loop f10_b2
theorem u10_l2 {bd : Bd} {s : St} {β : Type} {k : AExit → St → Option β} {fns : Nat → Option AFun} : K fns bd f10_l2 s k = K fns bd f10_b2 s (fun e s' => match e with | .normal => K fns bd f10_l2 s' k | e => k e s') := K_loop
def f10_b3 : ACode := (.wrap true [3, 9, 10, 11] [2] [(8, [3, 9])]
  (.seq (.seq (.region false [
    ⟨some 101, .mov .cp (.t 11), none⟩,
    ⟨some 102, .mov .cp (.t 10), none⟩,
    ⟨some 103, .len 0 (.t 102), none⟩,
    ⟨some 104, .bin .lss (.t 101) (.t 103), none⟩] [3, 9, 10, 11, 104])
  (.cond (.t 104)
    .skip
    (.exit 8)))
  (.seq (.block 9 (.seq (.region true [
    ⟨some 107, .mov .cp (.t 3), none⟩,
    ⟨some 108, .mov .cp (.t 10), none⟩,
    ⟨some 109, .mov .cp (.t 11), none⟩,
    ⟨some 110, .ia 1 (.t 108) (.t 109), none⟩,
    ⟨some 111, .ld .cp none (.t 110), none⟩,
    ⟨some 112, .callb 32 [(.t 107), (.t 111)], none⟩,
    ⟨some 113, .mov .cp (.t 3), none⟩,
    ⟨some 114, .mov .cp (.t 9), none⟩,
    ⟨some 115, .ia 6 (.t 113) (.t 114), none⟩,
    ⟨some 116, .fa 0 (.t 115), none⟩,
    ⟨some 117, .ld .cp none (.t 116), none⟩,
    ⟨some 118, .callb 31 [(.t 112), (.t 117)], none⟩] [3, 9, 10, 11, 118])
  (.cond (.t 118)
    (.seq (.region false [
      ⟨some 2, .mov .own (.k (.c (.b (.d (.int .i64 7))))), none⟩] [2])
    .ret)
    .skip)))
  (.region false [
    ⟨some 105, .mov .cp (.t 11), none⟩,
    ⟨some 106, .bin .add (.t 105) (.k (.c (.b (.d (.int .i64 1))))), none⟩,
    ⟨some 11, .mov .cp (.t 106), none⟩] [3, 9, 10, 11]))))
def f10_l3 : ACode := .loop f10_b3
theorem u10_l3 {bd : Bd} {s : St} {β : Type} {k : AExit → St → Option β} {fns : Nat → Option AFun} : K fns bd f10_l3 s k = K fns bd f10_b3 s (fun e s' => match e with | .normal => K fns bd f10_l3 s' k | e => k e s') := K_loop
def f10_b4 : ACode := (.wrap true [3, 9] [2] [(6, [])]
  (.seq (.seq (.region false [
    ⟨some 90, .mov .cp (.t 9), none⟩,
    ⟨some 91, .mov .cp (.t 3), none⟩,
    ⟨some 92, .len 0 (.t 91), none⟩,
    ⟨some 93, .bin .lss (.t 90) (.t 92), none⟩] [3, 9, 93])
  (.cond (.t 93)
    .skip
    (.exit 6)))
  (.seq (.block 7 (.seq (.region false [
    ⟨some 96, .mov .cp (.t 3), none⟩,
    ⟨some 97, .mov .cp (.t 9), none⟩,
    ⟨some 98, .ia 6 (.t 96) (.t 97), none⟩,
    ⟨some 99, .ld .cp (some 6) (.t 98), none⟩,
    ⟨some 100, .callb 30 [(.t 99)], none⟩,
    ⟨some 10, .mov .cp (.t 100), none⟩] [3, 9, 10])
  (.seq (.region false [
    ⟨some 11, .mov .cp (.k (.c (.b (.d (.int .i64 0))))), none⟩] [3, 9, 10, 11])
  (.block 8 f10_l3))))
  (.region false [
    ⟨some 94, .mov .cp (.t 9), none⟩,
    ⟨some 95, .bin .add (.t 94) (.k (.c (.b (.d (.int .i64 1))))), none⟩,
    ⟨some 9, .mov .cp (.t 95), none⟩] [3, 9]))))
def f10_l4 : ACode := .loop f10_b4
theorem u10_l4 {bd : Bd} {s : St} {β : Type} {k : AExit → St → Option β} {fns : Nat → Option AFun} : K fns bd f10_l4 s k = K fns bd f10_b4 s (fun e s' => match e with | .normal => K fns bd f10_l4 s' k | e => k e s') := K_loop
/-- delver/delverref04.Hier -/
def f10 : AFun := ⟨1,
  (.seq (.region false [
    ⟨some 1, .box (.t 0), none⟩,
    ⟨some 2, .mov .own (.k (.c (.b (.d (.int .i64 0))))), none⟩] [1])
  (.seq (.seq (.region false [
    ⟨some 12, .ld .cp (some 1) (.t 1), none⟩,
    ⟨some 13, .callb 29 [(.t 12)], none⟩,
    ⟨some 14, .un .not (.t 13), none⟩] [1, 14])
  (.cond (.t 14)
    (.seq (.region false [
      ⟨some 2, .mov .own (.k (.c (.b (.d (.int .i64 4))))), none⟩] [2])
    .ret)
    .skip))
  (.seq (.region false [
    ⟨some 15, .ld .cp (some 1) (.t 1), none⟩,
    ⟨some 16, .callb 23 [(.t 15)], none⟩,
    ⟨some 3, .mov .cp (.t 16), none⟩] [3])
  (.seq (.seq (.region false [
    ⟨some 4, .mov .cp (.k (.c (.b (.d (.int .i64 0))))), none⟩] [3, 4])
  (.block 0 f10_l0))
  (.seq (.seq (.region false [
    ⟨some 5, .mov .cp (.k (.c (.b (.d (.int .i64 0))))), none⟩] [3, 5])
  (.block 2 f10_l2))
  (.seq (.seq (.region false [
    ⟨some 9, .mov .cp (.k (.c (.b (.d (.int .i64 0))))), none⟩] [3, 9])
  (.block 6 f10_l4))
  (.seq (.region false [
    ⟨some 2, .mov .own (.k (.c (.b (.d (.int .i64 0))))), none⟩] [2])
  .ret))))))), [(.tmp 2)], .pure, false⟩
/-- slices.Clone[[]string,string] -/
def f53 : AFun := ⟨1,
  (.seq (.region false [
    ⟨some 2, .mov .own (.k (.c (.osl 1 []))), none⟩] [0])
  (.seq (.seq (.region false [
    ⟨some 3, .mov .cp (.t 0), none⟩,
    ⟨some 4, .eq false 4 [] (.t 3) (.k (.c (.b .nils))), none⟩] [0, 4])
  (.cond (.t 4)
    (.seq (.region false [
      ⟨some 2, .mov .own (.k (.c (.osl 1 []))), none⟩] [2])
    .ret)
    .skip))
  (.seq (.region false [
    ⟨some 5, .bsl .own 1 0 [(.b (.d (.str ⟨#[]⟩)))] [], none⟩,
    ⟨some 6, .mov .cp (.t 0), none⟩,
    ⟨some 7, .app 1 16 (.t 5) (.t 6), none⟩,
    ⟨some 2, .mov .own (.t 7), none⟩] [2])
  .ret))), [(.tmp 2)], .pure, true⟩
/-- slices.Clone[[]delver/api.Field,delver/api.Field] -/
def f54 : AFun := ⟨1,
  (.seq (.region false [
    ⟨some 2, .mov .own (.k (.c (.osl 4 []))), none⟩] [0])
  (.seq (.seq (.region false [
    ⟨some 3, .mov .cp (.t 0), none⟩,
    ⟨some 4, .eq false 4 [] (.t 3) (.k (.c (.b .nils))), none⟩] [0, 4])
  (.cond (.t 4)
    (.seq (.region false [
      ⟨some 2, .mov .own (.k (.c (.osl 4 []))), none⟩] [2])
    .ret)
    .skip))
  (.seq (.region false [
    ⟨some 5, .bsl .own 4 0 [(.b (.d (.str ⟨#[]⟩))), (.b (.d (.int .i64 0))), (.b (.d (.str ⟨#[]⟩))), (.b (.d (.bool false)))] [], none⟩,
    ⟨some 6, .mov .cp (.t 0), none⟩,
    ⟨some 7, .app 4 48 (.t 5) (.t 6), none⟩,
    ⟨some 2, .mov .own (.t 7), none⟩] [2])
  .ret))), [(.tmp 2)], .pure, true⟩
/-- slices.Clone[[]delver/api.Type,delver/api.Type] -/
def f70 : AFun := ⟨1,
  (.seq (.region false [
    ⟨some 2, .mov .own (.k (.c (.osl 2 []))), none⟩] [0])
  (.seq (.seq (.region false [
    ⟨some 3, .mov .cp (.t 0), none⟩,
    ⟨some 4, .eq false 4 [] (.t 3) (.k (.c (.b .nils))), none⟩] [0, 4])
  (.cond (.t 4)
    (.seq (.region false [
      ⟨some 2, .mov .own (.k (.c (.osl 2 []))), none⟩] [2])
    .ret)
    .skip))
  (.seq (.region false [
    ⟨some 5, .bsl .own 2 0 [(.b (.d (.int .i64 0))), (.b (.d (.str ⟨#[]⟩)))] [], none⟩,
    ⟨some 6, .mov .cp (.t 0), none⟩,
    ⟨some 7, .app 2 24 (.t 5) (.t 6), none⟩,
    ⟨some 2, .mov .own (.t 7), none⟩] [2])
  .ret))), [(.tmp 2)], .pure, true⟩
/-- slices.Clone[[]delver/api.Instr,delver/api.Instr] -/
def f71 : AFun := ⟨1,
  (.seq (.region false [
    ⟨some 2, .mov .own (.k (.c (.osl 4 []))), none⟩] [0])
  (.seq (.seq (.region false [
    ⟨some 3, .mov .cp (.t 0), none⟩,
    ⟨some 4, .eq false 4 [] (.t 3) (.k (.c (.b .nils))), none⟩] [0, 4])
  (.cond (.t 4)
    (.seq (.region false [
      ⟨some 2, .mov .own (.k (.c (.osl 4 []))), none⟩] [2])
    .ret)
    .skip))
  (.seq (.region false [
    ⟨some 5, .bsl .own 4 0 [(.b (.d (.int .i64 0))), (.b (.d (.int .i64 0))), (.b (.d (.str ⟨#[]⟩))), (.b (.d (.str ⟨#[]⟩)))] [], none⟩,
    ⟨some 6, .mov .cp (.t 0), none⟩,
    ⟨some 7, .app 4 48 (.t 5) (.t 6), none⟩,
    ⟨some 2, .mov .own (.t 7), none⟩] [2])
  .ret))), [(.tmp 2)], .pure, true⟩
/-- slices.Clone[[]delver/api.Catch,delver/api.Catch] -/
def f72 : AFun := ⟨1,
  (.seq (.region false [
    ⟨some 2, .mov .own (.k (.c (.osl 4 []))), none⟩] [0])
  (.seq (.seq (.region false [
    ⟨some 3, .mov .cp (.t 0), none⟩,
    ⟨some 4, .eq false 4 [] (.t 3) (.k (.c (.b .nils))), none⟩] [0, 4])
  (.cond (.t 4)
    (.seq (.region false [
      ⟨some 2, .mov .own (.k (.c (.osl 4 []))), none⟩] [2])
    .ret)
    .skip))
  (.seq (.region false [
    ⟨some 5, .bsl .own 4 0 [(.b (.d (.str ⟨#[]⟩))), (.b (.d (.int .i64 0))), (.b (.d (.int .i64 0))), (.b (.d (.int .i64 0)))] [], none⟩,
    ⟨some 6, .mov .cp (.t 0), none⟩,
    ⟨some 7, .app 4 40 (.t 5) (.t 6), none⟩,
    ⟨some 2, .mov .own (.t 7), none⟩] [2])
  .ret))), [(.tmp 2)], .pure, true⟩
/-- delver/hier.TwinMethod -/
def f55 : AFun := ⟨1,
  (.seq (.region false [
    ⟨some 1, .box (.t 0), none⟩,
    ⟨some 2, .alloc [(.b (.d (.str ⟨#[]⟩))), (.b (.d (.bool false))), (.b (.d (.bool false))), (.osl 2 []), (.b (.d (.int .i64 0))), (.b (.d (.str ⟨#[]⟩))), (.b (.d (.int .i64 0))), (.osl 4 []), (.osl 4 [])], none⟩] [1, 2])
  (.seq (.region true [
    ⟨some 3, .fa 3 (.t 1), none⟩,
    ⟨some 4, .ld .cp none (.t 3), none⟩,
    ⟨some 5, .callb 70 [(.t 4)], none⟩,
    ⟨some 6, .fa 7 (.t 1), none⟩,
    ⟨some 7, .ld .cp none (.t 6), none⟩,
    ⟨some 8, .callb 71 [(.t 7)], none⟩,
    ⟨some 9, .fa 8 (.t 1), none⟩,
    ⟨some 10, .ld .cp none (.t 9), none⟩,
    ⟨some 11, .callb 72 [(.t 10)], none⟩,
    ⟨some 12, .fa 3 (.t 1), none⟩,
    ⟨none, .st 1 (.t 12) (.t 5), none⟩,
    ⟨some 13, .fa 7 (.t 1), none⟩,
    ⟨none, .st 1 (.t 13) (.t 8), none⟩,
    ⟨some 14, .fa 8 (.t 1), none⟩,
    ⟨none, .st 1 (.t 14) (.t 11), none⟩] [1, 2])
  (.seq (.region false [
    ⟨some 15, .ld .cp (some 9) (.t 1), none⟩,
    ⟨none, .st 9 (.t 2) (.t 15), none⟩] [2])
  .ret))), [(.cell 2 (some 9))], .pure, false⟩
def f38_b0 : ACode := (.wrap true [1, 2, 3, 15, 16, 17] [2] [(0, [1, 2, 3])]
  (.seq (.region false [
    ⟨some 18, .bin .lss (.t 17) (.t 16), none⟩] [1, 2, 3, 15, 16, 17, 18])
  (.seq (.cond (.t 18)
    .skip
    (.exit 0))
  (.seq (.block 1 (.seq (.region false [
    ⟨some 19, .ia 9 (.t 15) (.t 17), none⟩,
    ⟨some 20, .ld .cp (some 9) (.t 19), none⟩,
    ⟨some 5, .alloc [(.b (.d (.str ⟨#[]⟩))), (.b (.d (.bool false))), (.b (.d (.bool false))), (.osl 2 []), (.b (.d (.int .i64 0))), (.b (.d (.str ⟨#[]⟩))), (.b (.d (.int .i64 0))), (.osl 4 []), (.osl 4 [])], none⟩,
    ⟨none, .st 9 (.t 5) (.t 20), none⟩] [1, 2, 3, 5, 15, 16, 17])
  (.region false [
    ⟨some 21, .mov .own (.t 3), none⟩,
    ⟨some 22, .ld .cp (some 9) (.t 5), none⟩,
    ⟨some 23, .callb 55 [(.t 22)], none⟩,
    ⟨some 24, .bsl .own 9 1 [(.b (.d (.str ⟨#[]⟩))), (.b (.d (.bool false))), (.b (.d (.bool false))), (.osl 2 []), (.b (.d (.int .i64 0))), (.b (.d (.str ⟨#[]⟩))), (.b (.d (.int .i64 0))), (.osl 4 []), (.osl 4 [])] [(0, (.t 23))], none⟩,
    ⟨some 25, .app 9 128 (.t 21) (.t 24), none⟩,
    ⟨some 3, .mov .own (.t 25), none⟩] [1, 2, 3, 15, 16, 17])))
  (.region false [
    ⟨some 26, .bin .add (.t 17) (.k (.c (.b (.d (.int .i64 1))))), none⟩,
    ⟨some 17, .mov .cp (.t 26), none⟩] [1, 2, 3, 15, 16, 17])))))
def f38_l0 : ACode := .loop f38_b0
theorem u38_l0 {bd : Bd} {s : St} {β : Type} {k : AExit → St → Option β} {fns : Nat → Option AFun} : K fns bd f38_l0 s k = K fns bd f38_b0 s (fun e s' => match e with | .normal => K fns bd f38_l0 s' k | e => k e s') := K_loop
/-- delver/hier.twin -/
def f38 : AFun := ⟨1,
  (.seq (.region false [
    ⟨some 1, .box (.t 0), none⟩,
    ⟨some 2, .alloc [(.b (.d (.str ⟨#[]⟩))), (.b (.d (.bool false))), (.b (.d (.str ⟨#[]⟩))), (.osl 1 []), (.osl 4 []), (.osl 9 [])], none⟩] [1, 2])
  (.seq (.region true [
    ⟨some 6, .fa 3 (.t 1), none⟩,
    ⟨some 7, .ld .cp none (.t 6), none⟩,
    ⟨some 8, .callb 53 [(.t 7)], none⟩,
    ⟨some 9, .fa 4 (.t 1), none⟩,
    ⟨some 10, .ld .cp none (.t 9), none⟩,
    ⟨some 11, .callb 54 [(.t 10)], none⟩,
    ⟨some 12, .fa 3 (.t 1), none⟩,
    ⟨none, .st 1 (.t 12) (.t 8), none⟩,
    ⟨some 13, .fa 4 (.t 1), none⟩,
    ⟨none, .st 1 (.t 13) (.t 11), none⟩] [1, 2])
  (.seq (.region false [
    ⟨some 3, .mov .own (.k (.c (.osl 9 []))), none⟩] [1, 2, 3])
  (.seq (.seq (.region false [
    ⟨some 14, .fa 5 (.t 1), none⟩,
    ⟨some 15, .ld .cp none (.t 14), none⟩,
    ⟨some 16, .len 0 (.t 15), none⟩,
    ⟨some 17, .mov .cp (.k (.c (.b (.d (.int .i64 0))))), none⟩] [1, 2, 3, 15, 16, 17])
  (.block 0 f38_l0))
  (.seq (.region false [
    ⟨some 27, .mov .cp (.t 3), none⟩,
    ⟨some 28, .fa 5 (.t 1), none⟩,
    ⟨none, .st 1 (.t 28) (.t 27), none⟩] [1, 2])
  (.seq (.region false [
    ⟨some 29, .ld .cp (some 6) (.t 1), none⟩,
    ⟨none, .st 6 (.t 2) (.t 29), none⟩] [2])
  .ret)))))), [(.cell 2 (some 6))], .pure, false⟩
def f73_b0 : ACode := (.wrap true [0, 1, 5, 6, 14] [4] [(0, [0, 5, 6])]
  (.seq (.region false [
    ⟨some 15, .bad, none⟩,
    ⟨some 16, .ext 0 (.t 15), none⟩] [0, 1, 5, 6, 14, 15, 16])
  (.seq (.cond (.t 16)
    .skip
    (.exit 0))
  (.block 1 (.seq (.region false [
    ⟨some 17, .ext 1 (.t 15), none⟩,
    ⟨some 18, .ext 2 (.t 15), none⟩,
    ⟨some 7, .mov .cp (.t 17), none⟩,
    ⟨some 8, .mov .cp (.t 18), none⟩] [0, 1, 5, 6, 7, 8, 14])
  (.seq (.region false [
    ⟨some 19, .mov .cp (.t 1), none⟩,
    ⟨some 20, .mov .cp (.t 8), none⟩,
    ⟨some 21, .callv (.t 19) [(.t 20)], none⟩] [0, 1, 5, 6, 7, 14, 21])
  (.cond (.t 21)
    (.seq (.region false [
      ⟨some 22, .mov .cp (.t 6), none⟩,
      ⟨some 23, .bin .geq (.t 22) (.k (.c (.b (.d (.int .i64 0))))), none⟩] [0, 1, 5, 6, 7, 14, 23])
    (.cond (.t 23)
      (.seq (.region false [
        ⟨some 24, .mov .own (.t 5), none⟩,
        ⟨some 25, .mov .cp (.t 6), none⟩,
        ⟨some 26, .mov .cp (.t 7), none⟩,
        ⟨some 27, .build [(.b (.d (.int .i64 0))), (.b (.d (.int .i64 0)))] [(0, 1, (.t 25)), (1, 1, (.t 26))], none⟩,
        ⟨some 28, .bsl .own 2 1 [(.b (.d (.int .i64 0))), (.b (.d (.int .i64 0)))] [(0, (.t 27))], none⟩,
        ⟨some 29, .app 2 16 (.t 24) (.t 28), none⟩,
        ⟨some 5, .mov .own (.t 29), none⟩] [0, 1, 5, 6, 14])
      (.region false [
        ⟨some 30, .mov .cp (.t 6), none⟩,
        ⟨some 31, .un .xor (.t 30), none⟩,
        ⟨some 6, .mov .cp (.t 31), none⟩] [0, 1, 5, 6, 14]))
      .skip))
    (.seq (.region false [
      ⟨some 32, .mov .cp (.t 6), none⟩,
      ⟨some 33, .bin .lss (.t 32) (.k (.c (.b (.d (.int .i64 0))))), none⟩] [0, 1, 5, 6, 7, 14, 33])
    (.cond (.t 33)
      (.region false [
        ⟨some 34, .mov .cp (.t 7), none⟩,
        ⟨some 6, .mov .cp (.t 34), none⟩] [0, 1, 5, 6, 14])
      .skip)))))))))
def f73_l0 : ACode := .loop f73_b0
theorem u73_l0 {bd : Bd} {s : St} {β : Type} {k : AExit → St → Option β} {fns : Nat → Option AFun} : K fns bd f73_l0 s k = K fns bd f73_b0 s (fun e s' => match e with | .normal => K fns bd f73_l0 s' k | e => k e s') := K_loop
def f73_b1 : ACode := (.wrap true [0, 9, 47, 48, 49] [4] [(2, [9])]
  (.seq (.region false [
    ⟨some 50, .bin .lss (.t 49) (.t 48), none⟩] [0, 9, 47, 48, 49, 50])
  (.seq (.cond (.t 50)
    .skip
    (.exit 2))
  (.seq (.block 3 (.seq (.region false [
    ⟨some 51, .mov .cp (.t 49), none⟩,
    ⟨some 52, .ia 2 (.t 47) (.t 49), none⟩,
    ⟨some 53, .ld .cp (some 2) (.t 52), none⟩,
    ⟨some 11, .alloc [(.b (.d (.int .i64 0))), (.b (.d (.int .i64 0)))], none⟩,
    ⟨some 10, .mov .cp (.t 51), none⟩,
    ⟨none, .st 2 (.t 11) (.t 53), none⟩] [0, 9, 10, 11, 47, 48, 49])
  (.region false [
    ⟨some 54, .mov .cp (.t 9), none⟩,
    ⟨some 55, .mov .cp (.t 10), none⟩,
    ⟨some 56, .mov .cp (.t 0), none⟩,
    ⟨some 57, .fa 0 (.t 11), none⟩,
    ⟨some 58, .ld .cp none (.t 57), none⟩,
    ⟨some 59, .fa 1 (.t 11), none⟩,
    ⟨some 60, .ld .cp none (.t 59), none⟩,
    ⟨some 61, .slcs (.t 56) (some (.t 58)) (some (.t 60)), none⟩,
    ⟨some 62, .ia 1 (.t 54) (.t 55), none⟩,
    ⟨none, .st 1 (.t 62) (.t 61), none⟩] [0, 9, 47, 48, 49])))
  (.region false [
    ⟨some 63, .bin .add (.t 49) (.k (.c (.b (.d (.int .i64 1))))), none⟩,
    ⟨some 49, .mov .cp (.t 63), none⟩] [0, 9, 47, 48, 49])))))
def f73_l1 : ACode := .loop f73_b1
theorem u73_l1 {bd : Bd} {s : St} {β : Type} {k : AExit → St → Option β} {fns : Nat → Option AFun} : K fns bd f73_l1 s k = K fns bd f73_b1 s (fun e s' => match e with | .normal => K fns bd f73_l1 s' k | e => k e s') := K_loop
/-- strings.FieldsFunc -/
def f73 : AFun := ⟨2,
  (.seq (.region false [
    ⟨some 4, .mov .own (.k (.c (.osl 1 []))), none⟩] [0, 1])
  (.seq (.region false [
    ⟨some 12, .mks .own 2 16 [(.b (.d (.int .i64 0))), (.b (.d (.int .i64 0)))] (.k (.c (.b (.d (.int .i64 0))))) (.k (.c (.b (.d (.int .i64 32))))), none⟩,
    ⟨some 5, .mov .own (.t 12), none⟩] [0, 1, 5])
  (.seq (.region false [
    ⟨some 6, .mov .cp (.k (.c (.b (.d (.int .i64 (-1)))))), none⟩] [0, 1, 5, 6])
  (.seq (.seq (.region false [
    ⟨some 13, .mov .cp (.t 0), none⟩,
    ⟨some 14, .bad, none⟩] [0, 1, 5, 6, 14])
  (.block 0 f73_l0))
  (.seq (.seq (.region false [
    ⟨some 35, .mov .cp (.t 6), none⟩,
    ⟨some 36, .bin .geq (.t 35) (.k (.c (.b (.d (.int .i64 0))))), none⟩] [0, 5, 6, 36])
  (.cond (.t 36)
    (.region false [
      ⟨some 37, .mov .own (.t 5), none⟩,
      ⟨some 38, .mov .cp (.t 6), none⟩,
      ⟨some 39, .mov .cp (.t 0), none⟩,
      ⟨some 40, .len 1 (.t 39), none⟩,
      ⟨some 41, .build [(.b (.d (.int .i64 0))), (.b (.d (.int .i64 0)))] [(0, 1, (.t 38)), (1, 1, (.t 40))], none⟩,
      ⟨some 42, .bsl .own 2 1 [(.b (.d (.int .i64 0))), (.b (.d (.int .i64 0)))] [(0, (.t 41))], none⟩,
      ⟨some 43, .app 2 16 (.t 37) (.t 42), none⟩,
      ⟨some 5, .mov .own (.t 43), none⟩] [0, 5])
    .skip))
  (.seq (.region false [
    ⟨some 44, .mov .cp (.t 5), none⟩,
    ⟨some 45, .len 0 (.t 44), none⟩,
    ⟨some 46, .mks .own 1 16 [(.b (.d (.str ⟨#[]⟩)))] (.t 45) (.t 45), none⟩,
    ⟨some 9, .mov .own (.t 46), none⟩] [0, 5, 9])
  (.seq (.seq (.region false [
    ⟨some 47, .mov .cp (.t 5), none⟩,
    ⟨some 48, .len 0 (.t 47), none⟩,
    ⟨some 49, .mov .cp (.k (.c (.b (.d (.int .i64 0))))), none⟩] [0, 9, 47, 48, 49])
  (.block 2 f73_l1))
  (.seq (.region false [
    ⟨some 64, .mov .own (.t 9), none⟩,
    ⟨some 4, .mov .own (.t 64), none⟩] [4])
  .ret)))))))), [(.tmp 4)], .pure, false⟩
def f100_b0 : ACode := (.wrap true [0, 1, 19, 20] [4] [(0, [])]
  (.seq (.region false [
    ⟨some 21, .bin .lss (.t 20) (.t 19), none⟩] [0, 1, 19, 20, 21])
  (.seq (.cond (.t 21)
    .skip
    (.exit 0))
  (.seq (.block 1 (.seq (.region false [
    ⟨some 22, .mov .cp (.t 20), none⟩,
    ⟨some 5, .mov .cp (.t 22), none⟩] [0, 1, 5, 19, 20])
  (.seq (.region false [
    ⟨some 23, .mov .cp (.t 0), none⟩,
    ⟨some 24, .mov .cp (.t 5), none⟩,
    ⟨some 25, .ia 3 (.t 23) (.t 24), none⟩,
    ⟨some 6, .mov .cp (.t 25), none⟩] [0, 1, 6, 19, 20])
  (.seq (.seq (.region false [
    ⟨some 26, .mov .cp (.t 1), none⟩,
    ⟨some 27, .mov .cp (.t 6), none⟩,
    ⟨some 28, .nilc (.t 27), none⟩,
    ⟨some 29, .fa 0 (.t 28), none⟩,
    ⟨some 30, .ld .cp none (.t 29), none⟩,
    ⟨some 31, .bin .lss (.t 26) (.t 30), none⟩] [0, 1, 6, 19, 20, 31])
  (.cond (.t 31)
    (.seq (.region false [
      ⟨some 4, .mov .own (.k (.c (.b (.d (.bool false))))), none⟩] [4])
    .ret)
    .skip))
  (.seq (.region false [
    ⟨some 32, .mov .cp (.t 1), none⟩,
    ⟨some 33, .mov .cp (.t 6), none⟩,
    ⟨some 34, .nilc (.t 33), none⟩,
    ⟨some 35, .fa 1 (.t 34), none⟩,
    ⟨some 36, .ld .cp none (.t 35), none⟩,
    ⟨some 37, .bin .leq (.t 32) (.t 36), none⟩] [0, 1, 6, 19, 20, 37])
  (.cond (.t 37)
    (.seq (.region true [
      ⟨some 38, .mov .cp (.t 6), none⟩,
      ⟨some 39, .nilc (.t 38), none⟩,
      ⟨some 40, .fa 2 (.t 39), none⟩,
      ⟨some 41, .ld .cp none (.t 40), none⟩,
      ⟨some 42, .bin .eql (.t 41) (.k (.c (.b (.d (.int .u16 1))))), none⟩,
      ⟨some 43, .mov .cp (.t 42), none⟩,
      ⟨some 44, .mov .cp (.t 1), (some (43, false))⟩,
      ⟨some 45, .mov .cp (.t 6), (some (43, false))⟩,
      ⟨some 46, .nilc (.t 45), (some (43, false))⟩,
      ⟨some 47, .fa 0 (.t 46), (some (43, false))⟩,
      ⟨some 48, .ld .cp none (.t 47), (some (43, false))⟩,
      ⟨some 49, .bin .sub (.t 44) (.t 48), (some (43, false))⟩,
      ⟨some 50, .mov .cp (.t 6), (some (43, false))⟩,
      ⟨some 51, .nilc (.t 50), (some (43, false))⟩,
      ⟨some 52, .fa 2 (.t 51), (some (43, false))⟩,
      ⟨some 53, .ld .cp none (.t 52), (some (43, false))⟩,
      ⟨some 54, .bin .rem (.t 49) (.t 53), (some (43, false))⟩,
      ⟨some 55, .bin .eql (.t 54) (.k (.c (.b (.d (.int .u16 0))))), (some (43, false))⟩,
      ⟨some 56, .pick (.t 43) (.k (.c (.b (.d (.bool true))))) (.t 55), none⟩,
      ⟨some 4, .mov .own (.t 56), none⟩] [4])
    .ret)
    .skip))))))
  (.region false [
    ⟨some 57, .bin .add (.t 20) (.k (.c (.b (.d (.int .i64 1))))), none⟩,
    ⟨some 20, .mov .cp (.t 57), none⟩] [0, 1, 19, 20])))))
def f100_l0 : ACode := .loop f100_b0
theorem u100_l0 {bd : Bd} {s : St} {β : Type} {k : AExit → St → Option β} {fns : Nat → Option AFun} : K fns bd f100_l0 s k = K fns bd f100_b0 s (fun e s' => match e with | .normal => K fns bd f100_l0 s' k | e => k e s') := K_loop
def f100_b1 : ACode := (.wrap true [0, 1, 7, 8] [4] [(2, [])]
  (.seq (.seq (.region false [
    ⟨some 60, .mov .cp (.t 7), none⟩,
    ⟨some 61, .mov .cp (.t 8), none⟩,
    ⟨some 62, .bin .lss (.t 60) (.t 61), none⟩] [0, 1, 7, 8, 62])
  (.cond (.t 62)
    .skip
    (.exit 2)))
  (.block 3 (.seq (.region false [
    ⟨some 63, .mov .cp (.t 7), none⟩,
    ⟨some 64, .mov .cp (.t 8), none⟩,
    ⟨some 65, .bin .add (.t 63) (.t 64), none⟩,
    ⟨some 66, .conv .u64 (.t 65), none⟩,
    ⟨some 67, .bin .shr (.t 66) (.k (.c (.b (.d (.int .u64 1))))), none⟩,
    ⟨some 68, .conv .i64 (.t 67), none⟩,
    ⟨some 9, .mov .cp (.t 68), none⟩] [0, 1, 7, 8, 9])
  (.seq (.region false [
    ⟨some 69, .mov .cp (.t 0), none⟩,
    ⟨some 70, .mov .cp (.t 9), none⟩,
    ⟨some 71, .ia 3 (.t 69) (.t 70), none⟩,
    ⟨some 10, .mov .cp (.t 71), none⟩] [0, 1, 7, 8, 9, 10])
  (.seq (.seq (.region false [
    ⟨some 72, .mov .cp (.t 10), none⟩,
    ⟨some 73, .nilc (.t 72), none⟩,
    ⟨some 74, .fa 0 (.t 73), none⟩,
    ⟨some 75, .ld .cp none (.t 74), none⟩,
    ⟨some 76, .mov .cp (.t 1), none⟩,
    ⟨some 77, .bin .leq (.t 75) (.t 76), none⟩,
    ⟨some 78, .mov .cp (.t 77), none⟩,
    ⟨some 79, .mov .cp (.t 1), (some (78, true))⟩,
    ⟨some 80, .mov .cp (.t 10), (some (78, true))⟩,
    ⟨some 81, .nilc (.t 80), (some (78, true))⟩,
    ⟨some 82, .fa 1 (.t 81), (some (78, true))⟩,
    ⟨some 83, .ld .cp none (.t 82), (some (78, true))⟩,
    ⟨some 84, .bin .leq (.t 79) (.t 83), (some (78, true))⟩,
    ⟨some 85, .pick (.t 78) (.t 84) (.k (.c (.b (.d (.bool false))))), none⟩] [0, 1, 7, 8, 9, 10, 85])
  (.cond (.t 85)
    (.seq (.region true [
      ⟨some 86, .mov .cp (.t 10), none⟩,
      ⟨some 87, .nilc (.t 86), none⟩,
      ⟨some 88, .fa 2 (.t 87), none⟩,
      ⟨some 89, .ld .cp none (.t 88), none⟩,
      ⟨some 90, .bin .eql (.t 89) (.k (.c (.b (.d (.int .u16 1))))), none⟩,
      ⟨some 91, .mov .cp (.t 90), none⟩,
      ⟨some 92, .mov .cp (.t 1), (some (91, false))⟩,
      ⟨some 93, .mov .cp (.t 10), (some (91, false))⟩,
      ⟨some 94, .nilc (.t 93), (some (91, false))⟩,
      ⟨some 95, .fa 0 (.t 94), (some (91, false))⟩,
      ⟨some 96, .ld .cp none (.t 95), (some (91, false))⟩,
      ⟨some 97, .bin .sub (.t 92) (.t 96), (some (91, false))⟩,
      ⟨some 98, .mov .cp (.t 10), (some (91, false))⟩,
      ⟨some 99, .nilc (.t 98), (some (91, false))⟩,
      ⟨some 100, .fa 2 (.t 99), (some (91, false))⟩,
      ⟨some 101, .ld .cp none (.t 100), (some (91, false))⟩,
      ⟨some 102, .bin .rem (.t 97) (.t 101), (some (91, false))⟩,
      ⟨some 103, .bin .eql (.t 102) (.k (.c (.b (.d (.int .u16 0))))), (some (91, false))⟩,
      ⟨some 104, .pick (.t 91) (.k (.c (.b (.d (.bool true))))) (.t 103), none⟩,
      ⟨some 4, .mov .own (.t 104), none⟩] [4])
    .ret)
    .skip))
  (.seq (.region false [
    ⟨some 105, .mov .cp (.t 1), none⟩,
    ⟨some 106, .mov .cp (.t 10), none⟩,
    ⟨some 107, .nilc (.t 106), none⟩,
    ⟨some 108, .fa 0 (.t 107), none⟩,
    ⟨some 109, .ld .cp none (.t 108), none⟩,
    ⟨some 110, .bin .lss (.t 105) (.t 109), none⟩] [0, 1, 7, 8, 9, 110])
  (.cond (.t 110)
    (.region false [
      ⟨some 111, .mov .cp (.t 9), none⟩,
      ⟨some 8, .mov .cp (.t 111), none⟩] [0, 1, 7, 8])
    (.region false [
      ⟨some 112, .mov .cp (.t 9), none⟩,
      ⟨some 113, .bin .add (.t 112) (.k (.c (.b (.d (.int .i64 1))))), none⟩,
      ⟨some 7, .mov .cp (.t 113), none⟩] [0, 1, 7, 8])))))))))
def f100_l1 : ACode := .loop f100_b1
theorem u100_l1 {bd : Bd} {s : St} {β : Type} {k : AExit → St → Option β} {fns : Nat → Option AFun} : K fns bd f100_l1 s k = K fns bd f100_b1 s (fun e s' => match e with | .normal => K fns bd f100_l1 s' k | e => k e s') := K_loop
/-- unicode.is16 -/
def f100 : AFun := ⟨2,
  (.seq (.region false [
    ⟨some 4, .mov .own (.k (.c (.b (.d (.bool false))))), none⟩] [0, 1])
  (.seq (.seq (.region false [
    ⟨some 11, .mov .cp (.t 0), none⟩,
    ⟨some 12, .len 0 (.t 11), none⟩,
    ⟨some 13, .bin .leq (.t 12) (.k (.c (.b (.d (.int .i64 18))))), none⟩,
    ⟨some 14, .mov .cp (.t 13), none⟩,
    ⟨some 15, .mov .cp (.t 1), (some (14, false))⟩,
    ⟨some 16, .bin .leq (.t 15) (.k (.c (.b (.d (.int .u16 255))))), (some (14, false))⟩,
    ⟨some 17, .pick (.t 14) (.k (.c (.b (.d (.bool true))))) (.t 16), none⟩] [0, 1, 17])
  (.cond (.t 17)
    (.seq (.seq (.region false [
      ⟨some 18, .mov .cp (.t 0), none⟩,
      ⟨some 19, .len 0 (.t 18), none⟩,
      ⟨some 20, .mov .cp (.k (.c (.b (.d (.int .i64 0))))), none⟩] [0, 1, 19, 20])
    (.block 0 f100_l0))
    (.seq (.region false [
      ⟨some 4, .mov .own (.k (.c (.b (.d (.bool false))))), none⟩] [4])
    .ret))
    .skip))
  (.seq (.region false [
    ⟨some 7, .mov .cp (.k (.c (.b (.d (.int .i64 0))))), none⟩] [0, 1, 7])
  (.seq (.region false [
    ⟨some 58, .mov .cp (.t 0), none⟩,
    ⟨some 59, .len 0 (.t 58), none⟩,
    ⟨some 8, .mov .cp (.t 59), none⟩] [0, 1, 7, 8])
  (.seq (.block 2 f100_l1)
  (.seq (.region false [
    ⟨some 4, .mov .own (.k (.c (.b (.d (.bool false))))), none⟩] [4])
  .ret)))))), [(.tmp 4)], .pure, false⟩
def f101_b0 : ACode := (.wrap true [0, 1, 15, 16] [4] [(0, [])]
  (.seq (.region false [
    ⟨some 17, .bin .lss (.t 16) (.t 15), none⟩] [0, 1, 15, 16, 17])
  (.seq (.cond (.t 17)
    .skip
    (.exit 0))
  (.seq (.block 1 (.seq (.region false [
    ⟨some 18, .mov .cp (.t 16), none⟩,
    ⟨some 5, .mov .cp (.t 18), none⟩] [0, 1, 5, 15, 16])
  (.seq (.region false [
    ⟨some 19, .mov .cp (.t 0), none⟩,
    ⟨some 20, .mov .cp (.t 5), none⟩,
    ⟨some 21, .ia 3 (.t 19) (.t 20), none⟩,
    ⟨some 6, .mov .cp (.t 21), none⟩] [0, 1, 6, 15, 16])
  (.seq (.seq (.region false [
    ⟨some 22, .mov .cp (.t 1), none⟩,
    ⟨some 23, .mov .cp (.t 6), none⟩,
    ⟨some 24, .nilc (.t 23), none⟩,
    ⟨some 25, .fa 0 (.t 24), none⟩,
    ⟨some 26, .ld .cp none (.t 25), none⟩,
    ⟨some 27, .bin .lss (.t 22) (.t 26), none⟩] [0, 1, 6, 15, 16, 27])
  (.cond (.t 27)
    (.seq (.region false [
      ⟨some 4, .mov .own (.k (.c (.b (.d (.bool false))))), none⟩] [4])
    .ret)
    .skip))
  (.seq (.region false [
    ⟨some 28, .mov .cp (.t 1), none⟩,
    ⟨some 29, .mov .cp (.t 6), none⟩,
    ⟨some 30, .nilc (.t 29), none⟩,
    ⟨some 31, .fa 1 (.t 30), none⟩,
    ⟨some 32, .ld .cp none (.t 31), none⟩,
    ⟨some 33, .bin .leq (.t 28) (.t 32), none⟩] [0, 1, 6, 15, 16, 33])
  (.cond (.t 33)
    (.seq (.region true [
      ⟨some 34, .mov .cp (.t 6), none⟩,
      ⟨some 35, .nilc (.t 34), none⟩,
      ⟨some 36, .fa 2 (.t 35), none⟩,
      ⟨some 37, .ld .cp none (.t 36), none⟩,
      ⟨some 38, .bin .eql (.t 37) (.k (.c (.b (.d (.int .u32 1))))), none⟩,
      ⟨some 39, .mov .cp (.t 38), none⟩,
      ⟨some 40, .mov .cp (.t 1), (some (39, false))⟩,
      ⟨some 41, .mov .cp (.t 6), (some (39, false))⟩,
      ⟨some 42, .nilc (.t 41), (some (39, false))⟩,
      ⟨some 43, .fa 0 (.t 42), (some (39, false))⟩,
      ⟨some 44, .ld .cp none (.t 43), (some (39, false))⟩,
      ⟨some 45, .bin .sub (.t 40) (.t 44), (some (39, false))⟩,
      ⟨some 46, .mov .cp (.t 6), (some (39, false))⟩,
      ⟨some 47, .nilc (.t 46), (some (39, false))⟩,
      ⟨some 48, .fa 2 (.t 47), (some (39, false))⟩,
      ⟨some 49, .ld .cp none (.t 48), (some (39, false))⟩,
      ⟨some 50, .bin .rem (.t 45) (.t 49), (some (39, false))⟩,
      ⟨some 51, .bin .eql (.t 50) (.k (.c (.b (.d (.int .u32 0))))), (some (39, false))⟩,
      ⟨some 52, .pick (.t 39) (.k (.c (.b (.d (.bool true))))) (.t 51), none⟩,
      ⟨some 4, .mov .own (.t 52), none⟩] [4])
    .ret)
    .skip))))))
  (.region false [
    ⟨some 53, .bin .add (.t 16) (.k (.c (.b (.d (.int .i64 1))))), none⟩,
    ⟨some 16, .mov .cp (.t 53), none⟩] [0, 1, 15, 16])))))
def f101_l0 : ACode := .loop f101_b0
theorem u101_l0 {bd : Bd} {s : St} {β : Type} {k : AExit → St → Option β} {fns : Nat → Option AFun} : K fns bd f101_l0 s k = K fns bd f101_b0 s (fun e s' => match e with | .normal => K fns bd f101_l0 s' k | e => k e s') := K_loop
def f101_b1 : ACode := (.wrap true [0, 1, 7, 8] [4] [(2, [])]
  (.seq (.seq (.region false [
    ⟨some 56, .mov .cp (.t 7), none⟩,
    ⟨some 57, .mov .cp (.t 8), none⟩,
    ⟨some 58, .bin .lss (.t 56) (.t 57), none⟩] [0, 1, 7, 8, 58])
  (.cond (.t 58)
    .skip
    (.exit 2)))
  (.block 3 (.seq (.region false [
    ⟨some 59, .mov .cp (.t 7), none⟩,
    ⟨some 60, .mov .cp (.t 8), none⟩,
    ⟨some 61, .bin .add (.t 59) (.t 60), none⟩,
    ⟨some 62, .conv .u64 (.t 61), none⟩,
    ⟨some 63, .bin .shr (.t 62) (.k (.c (.b (.d (.int .u64 1))))), none⟩,
    ⟨some 64, .conv .i64 (.t 63), none⟩,
    ⟨some 9, .mov .cp (.t 64), none⟩] [0, 1, 7, 8, 9])
  (.seq (.region false [
    ⟨some 65, .mov .cp (.t 0), none⟩,
    ⟨some 66, .mov .cp (.t 9), none⟩,
    ⟨some 67, .ia 3 (.t 65) (.t 66), none⟩,
    ⟨some 68, .ld .cp (some 3) (.t 67), none⟩,
    ⟨some 10, .alloc [(.b (.d (.int .u32 0))), (.b (.d (.int .u32 0))), (.b (.d (.int .u32 0)))], none⟩,
    ⟨none, .st 3 (.t 10) (.t 68), none⟩] [0, 1, 7, 8, 9, 10])
  (.seq (.seq (.region false [
    ⟨some 69, .fa 0 (.t 10), none⟩,
    ⟨some 70, .ld .cp none (.t 69), none⟩,
    ⟨some 71, .mov .cp (.t 1), none⟩,
    ⟨some 72, .bin .leq (.t 70) (.t 71), none⟩,
    ⟨some 73, .mov .cp (.t 72), none⟩,
    ⟨some 74, .mov .cp (.t 1), (some (73, true))⟩,
    ⟨some 75, .fa 1 (.t 10), (some (73, true))⟩,
    ⟨some 76, .ld .cp none (.t 75), (some (73, true))⟩,
    ⟨some 77, .bin .leq (.t 74) (.t 76), (some (73, true))⟩,
    ⟨some 78, .pick (.t 73) (.t 77) (.k (.c (.b (.d (.bool false))))), none⟩] [0, 1, 7, 8, 9, 10, 78])
  (.cond (.t 78)
    (.seq (.region false [
      ⟨some 79, .fa 2 (.t 10), none⟩,
      ⟨some 80, .ld .cp none (.t 79), none⟩,
      ⟨some 81, .bin .eql (.t 80) (.k (.c (.b (.d (.int .u32 1))))), none⟩,
      ⟨some 82, .mov .cp (.t 81), none⟩,
      ⟨some 83, .mov .cp (.t 1), (some (82, false))⟩,
      ⟨some 84, .fa 0 (.t 10), (some (82, false))⟩,
      ⟨some 85, .ld .cp none (.t 84), (some (82, false))⟩,
      ⟨some 86, .bin .sub (.t 83) (.t 85), (some (82, false))⟩,
      ⟨some 87, .fa 2 (.t 10), (some (82, false))⟩,
      ⟨some 88, .ld .cp none (.t 87), (some (82, false))⟩,
      ⟨some 89, .bin .rem (.t 86) (.t 88), (some (82, false))⟩,
      ⟨some 90, .bin .eql (.t 89) (.k (.c (.b (.d (.int .u32 0))))), (some (82, false))⟩,
      ⟨some 91, .pick (.t 82) (.k (.c (.b (.d (.bool true))))) (.t 90), none⟩,
      ⟨some 4, .mov .own (.t 91), none⟩] [4])
    .ret)
    .skip))
  (.seq (.region false [
    ⟨some 92, .mov .cp (.t 1), none⟩,
    ⟨some 93, .fa 0 (.t 10), none⟩,
    ⟨some 94, .ld .cp none (.t 93), none⟩,
    ⟨some 95, .bin .lss (.t 92) (.t 94), none⟩] [0, 1, 7, 8, 9, 95])
  (.cond (.t 95)
    (.region false [
      ⟨some 96, .mov .cp (.t 9), none⟩,
      ⟨some 8, .mov .cp (.t 96), none⟩] [0, 1, 7, 8])
    (.region false [
      ⟨some 97, .mov .cp (.t 9), none⟩,
      ⟨some 98, .bin .add (.t 97) (.k (.c (.b (.d (.int .i64 1))))), none⟩,
      ⟨some 7, .mov .cp (.t 98), none⟩] [0, 1, 7, 8])))))))))
def f101_l1 : ACode := .loop f101_b1
theorem u101_l1 {bd : Bd} {s : St} {β : Type} {k : AExit → St → Option β} {fns : Nat → Option AFun} : K fns bd f101_l1 s k = K fns bd f101_b1 s (fun e s' => match e with | .normal => K fns bd f101_l1 s' k | e => k e s') := K_loop
/-- unicode.is32 -/
def f101 : AFun := ⟨2,
  (.seq (.region false [
    ⟨some 4, .mov .own (.k (.c (.b (.d (.bool false))))), none⟩] [0, 1])
  (.seq (.seq (.region false [
    ⟨some 11, .mov .cp (.t 0), none⟩,
    ⟨some 12, .len 0 (.t 11), none⟩,
    ⟨some 13, .bin .leq (.t 12) (.k (.c (.b (.d (.int .i64 18))))), none⟩] [0, 1, 13])
  (.cond (.t 13)
    (.seq (.seq (.region false [
      ⟨some 14, .mov .cp (.t 0), none⟩,
      ⟨some 15, .len 0 (.t 14), none⟩,
      ⟨some 16, .mov .cp (.k (.c (.b (.d (.int .i64 0))))), none⟩] [0, 1, 15, 16])
    (.block 0 f101_l0))
    (.seq (.region false [
      ⟨some 4, .mov .own (.k (.c (.b (.d (.bool false))))), none⟩] [4])
    .ret))
    .skip))
  (.seq (.region false [
    ⟨some 7, .mov .cp (.k (.c (.b (.d (.int .i64 0))))), none⟩] [0, 1, 7])
  (.seq (.region false [
    ⟨some 54, .mov .cp (.t 0), none⟩,
    ⟨some 55, .len 0 (.t 54), none⟩,
    ⟨some 8, .mov .cp (.t 55), none⟩] [0, 1, 7, 8])
  (.seq (.block 2 f101_l1)
  (.seq (.region false [
    ⟨some 4, .mov .own (.k (.c (.b (.d (.bool false))))), none⟩] [4])
  .ret)))))), [(.tmp 4)], .pure, false⟩
/-- unicode.isExcludingLatin -/
def f85 : AFun := ⟨2,
  (.seq (.region false [
    ⟨some 4, .mov .own (.k (.c (.b (.d (.bool false))))), none⟩] [0, 1])
  (.seq (.region false [
    ⟨some 8, .mov .cp (.t 0), none⟩,
    ⟨some 9, .nilc (.t 8), none⟩,
    ⟨some 10, .fa 0 (.t 9), none⟩,
    ⟨some 11, .ld .cp none (.t 10), none⟩,
    ⟨some 5, .mov .cp (.t 11), none⟩] [0, 1, 5])
  (.seq (.seq (.region false [
    ⟨some 12, .mov .cp (.t 0), none⟩,
    ⟨some 13, .nilc (.t 12), none⟩,
    ⟨some 14, .fa 2 (.t 13), none⟩,
    ⟨some 15, .ld .cp none (.t 14), none⟩,
    ⟨some 6, .mov .cp (.t 15), none⟩] [0, 1, 5, 6])
  (.seq (.region false [
    ⟨some 16, .mov .cp (.t 5), none⟩,
    ⟨some 17, .len 0 (.t 16), none⟩,
    ⟨some 18, .mov .cp (.t 6), none⟩,
    ⟨some 19, .bin .gtr (.t 17) (.t 18), none⟩,
    ⟨some 20, .mov .cp (.t 19), none⟩,
    ⟨some 21, .mov .cp (.t 1), (some (20, true))⟩,
    ⟨some 22, .conv .u32 (.t 21), (some (20, true))⟩,
    ⟨some 23, .mov .cp (.t 5), (some (20, true))⟩,
    ⟨some 24, .mov .cp (.t 5), (some (20, true))⟩,
    ⟨some 25, .len 0 (.t 24), (some (20, true))⟩,
    ⟨some 26, .bin .sub (.t 25) (.k (.c (.b (.d (.int .i64 1))))), (some (20, true))⟩,
    ⟨some 27, .ia 3 (.t 23) (.t 26), (some (20, true))⟩,
    ⟨some 28, .fa 1 (.t 27), (some (20, true))⟩,
    ⟨some 29, .ld .cp none (.t 28), (some (20, true))⟩,
    ⟨some 30, .conv .u32 (.t 29), (some (20, true))⟩,
    ⟨some 31, .bin .leq (.t 22) (.t 30), (some (20, true))⟩,
    ⟨some 32, .pick (.t 20) (.t 31) (.k (.c (.b (.d (.bool false))))), none⟩] [0, 1, 5, 6, 32])
  (.cond (.t 32)
    (.seq (.region false [
      ⟨some 33, .mov .cp (.t 5), none⟩,
      ⟨some 34, .mov .cp (.t 6), none⟩,
      ⟨some 35, .slc .cp 3 (.t 33) (some (.t 34)) none, none⟩,
      ⟨some 36, .mov .cp (.t 1), none⟩,
      ⟨some 37, .conv .u16 (.t 36), none⟩,
      ⟨some 38, .callb 100 [(.t 35), (.t 37)], none⟩,
      ⟨some 4, .mov .own (.t 38), none⟩] [4])
    .ret)
    .skip)))
  (.seq (.region false [
    ⟨some 39, .mov .cp (.t 0), none⟩,
    ⟨some 40, .nilc (.t 39), none⟩,
    ⟨some 41, .fa 1 (.t 40), none⟩,
    ⟨some 42, .ld .cp none (.t 41), none⟩,
    ⟨some 7, .mov .cp (.t 42), none⟩] [1, 7])
  (.seq (.seq (.region false [
    ⟨some 43, .mov .cp (.t 7), none⟩,
    ⟨some 44, .len 0 (.t 43), none⟩,
    ⟨some 45, .bin .gtr (.t 44) (.k (.c (.b (.d (.int .i64 0))))), none⟩,
    ⟨some 46, .mov .cp (.t 45), none⟩,
    ⟨some 47, .mov .cp (.t 1), (some (46, true))⟩,
    ⟨some 48, .mov .cp (.t 7), (some (46, true))⟩,
    ⟨some 49, .ia 3 (.t 48) (.k (.c (.b (.d (.int .i64 0))))), (some (46, true))⟩,
    ⟨some 50, .fa 0 (.t 49), (some (46, true))⟩,
    ⟨some 51, .ld .cp none (.t 50), (some (46, true))⟩,
    ⟨some 52, .conv .i32 (.t 51), (some (46, true))⟩,
    ⟨some 53, .bin .geq (.t 47) (.t 52), (some (46, true))⟩,
    ⟨some 54, .pick (.t 46) (.t 53) (.k (.c (.b (.d (.bool false))))), none⟩] [1, 7, 54])
  (.cond (.t 54)
    (.seq (.region false [
      ⟨some 55, .mov .cp (.t 7), none⟩,
      ⟨some 56, .mov .cp (.t 1), none⟩,
      ⟨some 57, .conv .u32 (.t 56), none⟩,
      ⟨some 58, .callb 101 [(.t 55), (.t 57)], none⟩,
      ⟨some 4, .mov .own (.t 58), none⟩] [4])
    .ret)
    .skip))
  (.seq (.region false [
    ⟨some 4, .mov .own (.k (.c (.b (.d (.bool false))))), none⟩] [4])
  .ret)))))), [(.tmp 4)], .pure, false⟩
/-- unicode.IsSpace -/
def f74 : AFun := ⟨1,
  (.seq (.region false [
    ⟨some 2, .mov .own (.k (.c (.b (.d (.bool false))))), none⟩] [0])
  (.seq (.seq (.region false [
    ⟨some 3, .mov .cp (.t 0), none⟩,
    ⟨some 4, .conv .u32 (.t 3), none⟩,
    ⟨some 5, .bin .leq (.t 4) (.k (.c (.b (.d (.int .u32 255))))), none⟩] [0, 5])
  (.cond (.t 5)
    (.seq (.seq (.region false [
      ⟨some 6, .mov .cp (.t 0), none⟩] [6])
    (.block 0 (.seq (.seq (.region false [
      ⟨some 8, .bin .eql (.t 6) (.k (.c (.b (.d (.int .i32 9))))), none⟩,
      ⟨some 7, .mov .cp (.t 8), none⟩] [6, 7])
    (.cond (.t 7)
      .skip
      (.seq (.region false [
        ⟨some 9, .bin .eql (.t 6) (.k (.c (.b (.d (.int .i32 10))))), none⟩,
        ⟨some 7, .mov .cp (.t 9), none⟩] [6, 7])
      (.cond (.t 7)
        .skip
        (.seq (.region false [
          ⟨some 10, .bin .eql (.t 6) (.k (.c (.b (.d (.int .i32 11))))), none⟩,
          ⟨some 7, .mov .cp (.t 10), none⟩] [6, 7])
        (.cond (.t 7)
          .skip
          (.seq (.region false [
            ⟨some 11, .bin .eql (.t 6) (.k (.c (.b (.d (.int .i32 12))))), none⟩,
            ⟨some 7, .mov .cp (.t 11), none⟩] [6, 7])
          (.cond (.t 7)
            .skip
            (.seq (.region false [
              ⟨some 12, .bin .eql (.t 6) (.k (.c (.b (.d (.int .i32 13))))), none⟩,
              ⟨some 7, .mov .cp (.t 12), none⟩] [6, 7])
            (.cond (.t 7)
              .skip
              (.seq (.region false [
                ⟨some 13, .bin .eql (.t 6) (.k (.c (.b (.d (.int .i32 32))))), none⟩,
                ⟨some 7, .mov .cp (.t 13), none⟩] [6, 7])
              (.cond (.t 7)
                .skip
                (.seq (.region false [
                  ⟨some 14, .bin .eql (.t 6) (.k (.c (.b (.d (.int .i32 133))))), none⟩,
                  ⟨some 7, .mov .cp (.t 14), none⟩] [6, 7])
                (.cond (.t 7)
                  .skip
                  (.region false [
                    ⟨some 15, .bin .eql (.t 6) (.k (.c (.b (.d (.int .i32 160))))), none⟩,
                    ⟨some 7, .mov .cp (.t 15), none⟩] [7])))))))))))))))
    (.cond (.t 7)
      (.seq (.region false [
        ⟨some 2, .mov .own (.k (.c (.b (.d (.bool true))))), none⟩] [2])
      .ret)
      .skip))))
    (.seq (.region false [
      ⟨some 2, .mov .own (.k (.c (.b (.d (.bool false))))), none⟩] [2])
    .ret))
    .skip))
  (.seq (.region false [
    ⟨some 16, .bad, none⟩,
    ⟨some 17, .mov .cp (.t 0), none⟩,
    ⟨some 18, .call 85 [(.t 16), (.t 17)], none⟩,
    ⟨some 2, .mov .own (.t 18), none⟩] [2])
  .ret))), [(.tmp 2)], .pure, false⟩
def f57_b0 : ACode := (.wrap true [0, 3, 4, 5, 6] [2] [(0, [0, 3, 5])]
  (.seq (.seq (.region false [
    ⟨some 13, .mov .cp (.t 6), none⟩,
    ⟨some 14, .mov .cp (.t 0), none⟩,
    ⟨some 15, .len 1 (.t 14), none⟩,
    ⟨some 16, .bin .lss (.t 13) (.t 15), none⟩] [0, 3, 4, 5, 6, 16])
  (.cond (.t 16)
    .skip
    (.exit 0)))
  (.seq (.block 1 (.seq (.region false [
    ⟨some 19, .mov .cp (.t 0), none⟩,
    ⟨some 20, .mov .cp (.t 6), none⟩,
    ⟨some 21, .ixs (.t 19) (.t 20), none⟩,
    ⟨some 7, .mov .cp (.t 21), none⟩] [0, 3, 4, 5, 6, 7])
  (.seq (.region false [
    ⟨some 22, .mov .cp (.t 5), none⟩,
    ⟨some 23, .mov .cp (.t 7), none⟩,
    ⟨some 24, .bin .or (.t 22) (.t 23), none⟩,
    ⟨some 5, .mov .cp (.t 24), none⟩] [0, 3, 4, 5, 6, 7])
  (.seq (.region false [
    ⟨some 25, .mov .cp (.t 7), none⟩,
    ⟨some 26, .ga 0 1 (.t 25), none⟩,
    ⟨some 27, .ld .cp none (.t 26), none⟩,
    ⟨some 28, .conv .i64 (.t 27), none⟩,
    ⟨some 8, .mov .cp (.t 28), none⟩] [0, 3, 4, 5, 6, 8])
  (.seq (.region false [
    ⟨some 29, .mov .cp (.t 3), none⟩,
    ⟨some 30, .mov .cp (.t 4), none⟩,
    ⟨some 31, .mov .cp (.t 8), none⟩,
    ⟨some 32, .un .xor (.t 31), none⟩,
    ⟨some 33, .bin .and (.t 30) (.t 32), none⟩,
    ⟨some 34, .bin .add (.t 29) (.t 33), none⟩,
    ⟨some 3, .mov .cp (.t 34), none⟩] [0, 3, 5, 6, 8])
  (.region false [
    ⟨some 35, .mov .cp (.t 8), none⟩,
    ⟨some 4, .mov .cp (.t 35), none⟩] [0, 3, 4, 5, 6]))))))
  (.region false [
    ⟨some 17, .mov .cp (.t 6), none⟩,
    ⟨some 18, .bin .add (.t 17) (.k (.c (.b (.d (.int .i64 1))))), none⟩,
    ⟨some 6, .mov .cp (.t 18), none⟩] [0, 3, 4, 5, 6]))))
def f57_l0 : ACode := .loop f57_b0
theorem u57_l0 {bd : Bd} {s : St} {β : Type} {k : AExit → St → Option β} {fns : Nat → Option AFun} : K fns bd f57_l0 s k = K fns bd f57_b0 s (fun e s' => match e with | .normal => K fns bd f57_l0 s' k | e => k e s') := K_loop
def f57_b1 : ACode := (.wrap true [0, 9, 10, 12] [2] [(2, [0, 9, 10, 12])]
  (.seq (.seq (.region false [
    ⟨some 42, .mov .cp (.t 12), none⟩,
    ⟨some 43, .mov .cp (.t 0), none⟩,
    ⟨some 44, .len 1 (.t 43), none⟩,
    ⟨some 45, .bin .lss (.t 42) (.t 44), none⟩,
    ⟨some 46, .mov .cp (.t 45), none⟩,
    ⟨some 47, .mov .cp (.t 0), (some (46, true))⟩,
    ⟨some 48, .mov .cp (.t 12), (some (46, true))⟩,
    ⟨some 49, .ixs (.t 47) (.t 48), (some (46, true))⟩,
    ⟨some 50, .ga 0 1 (.t 49), (some (46, true))⟩,
    ⟨some 51, .ld .cp none (.t 50), (some (46, true))⟩,
    ⟨some 52, .bin .neq (.t 51) (.k (.c (.b (.d (.int .u8 0))))), (some (46, true))⟩,
    ⟨some 53, .pick (.t 46) (.t 52) (.k (.c (.b (.d (.bool false))))), none⟩] [0, 9, 10, 12, 53])
  (.cond (.t 53)
    .skip
    (.exit 2)))
  (.block 3 (.region false [
    ⟨some 54, .mov .cp (.t 12), none⟩,
    ⟨some 55, .bin .add (.t 54) (.k (.c (.b (.d (.int .i64 1))))), none⟩,
    ⟨some 12, .mov .cp (.t 55), none⟩] [0, 9, 10, 12]))))
def f57_l1 : ACode := .loop f57_b1
theorem u57_l1 {bd : Bd} {s : St} {β : Type} {k : AExit → St → Option β} {fns : Nat → Option AFun} : K fns bd f57_l1 s k = K fns bd f57_b1 s (fun e s' => match e with | .normal => K fns bd f57_l1 s' k | e => k e s') := K_loop
def f57_b2 : ACode := (.wrap true [0, 9, 10, 12] [2] [(6, [0, 9, 10, 12])]
  (.seq (.seq (.region false [
    ⟨some 80, .mov .cp (.t 12), none⟩,
    ⟨some 81, .mov .cp (.t 0), none⟩,
    ⟨some 82, .len 1 (.t 81), none⟩,
    ⟨some 83, .bin .lss (.t 80) (.t 82), none⟩,
    ⟨some 84, .mov .cp (.t 83), none⟩,
    ⟨some 85, .mov .cp (.t 0), (some (84, true))⟩,
    ⟨some 86, .mov .cp (.t 12), (some (84, true))⟩,
    ⟨some 87, .ixs (.t 85) (.t 86), (some (84, true))⟩,
    ⟨some 88, .ga 0 1 (.t 87), (some (84, true))⟩,
    ⟨some 89, .ld .cp none (.t 88), (some (84, true))⟩,
    ⟨some 90, .bin .neq (.t 89) (.k (.c (.b (.d (.int .u8 0))))), (some (84, true))⟩,
    ⟨some 91, .pick (.t 84) (.t 90) (.k (.c (.b (.d (.bool false))))), none⟩] [0, 9, 10, 12, 91])
  (.cond (.t 91)
    .skip
    (.exit 6)))
  (.block 7 (.region false [
    ⟨some 92, .mov .cp (.t 12), none⟩,
    ⟨some 93, .bin .add (.t 92) (.k (.c (.b (.d (.int .i64 1))))), none⟩,
    ⟨some 12, .mov .cp (.t 93), none⟩] [0, 9, 10, 12]))))
def f57_l2 : ACode := .loop f57_b2
theorem u57_l2 {bd : Bd} {s : St} {β : Type} {k : AExit → St → Option β} {fns : Nat → Option AFun} : K fns bd f57_l2 s k = K fns bd f57_b2 s (fun e s' => match e with | .normal => K fns bd f57_l2 s' k | e => k e s') := K_loop
def f57_b3 : ACode := (.wrap true [0, 9, 10, 11, 12] [2] [(4, [0, 9, 10, 11])]
  (.seq (.seq (.region false [
    ⟨some 57, .mov .cp (.t 12), none⟩,
    ⟨some 58, .mov .cp (.t 0), none⟩,
    ⟨some 59, .len 1 (.t 58), none⟩,
    ⟨some 60, .bin .lss (.t 57) (.t 59), none⟩] [0, 9, 10, 11, 12, 60])
  (.cond (.t 60)
    .skip
    (.exit 4)))
  (.block 5 (.seq (.seq (.region false [
    ⟨some 61, .mov .cp (.t 0), none⟩,
    ⟨some 62, .mov .cp (.t 12), none⟩,
    ⟨some 63, .ixs (.t 61) (.t 62), none⟩,
    ⟨some 64, .ga 0 1 (.t 63), none⟩,
    ⟨some 65, .ld .cp none (.t 64), none⟩,
    ⟨some 66, .bin .eql (.t 65) (.k (.c (.b (.d (.int .u8 0))))), none⟩] [0, 9, 10, 11, 12, 66])
  (.cond (.t 66)
    (.seq (.region false [
      ⟨some 67, .mov .cp (.t 12), none⟩,
      ⟨some 68, .bin .add (.t 67) (.k (.c (.b (.d (.int .i64 1))))), none⟩,
      ⟨some 12, .mov .cp (.t 68), none⟩] [0, 9, 10, 11, 12])
    (.exit 5))
    .skip))
  (.seq (.region false [
    ⟨some 69, .mov .cp (.t 9), none⟩,
    ⟨some 70, .mov .cp (.t 10), none⟩,
    ⟨some 71, .mov .cp (.t 0), none⟩,
    ⟨some 72, .mov .cp (.t 11), none⟩,
    ⟨some 73, .mov .cp (.t 12), none⟩,
    ⟨some 74, .slcs (.t 71) (some (.t 72)) (some (.t 73)), none⟩,
    ⟨some 75, .ia 1 (.t 69) (.t 70), none⟩,
    ⟨none, .st 1 (.t 75) (.t 74), none⟩] [0, 9, 10, 12])
  (.seq (.region false [
    ⟨some 76, .mov .cp (.t 10), none⟩,
    ⟨some 77, .bin .add (.t 76) (.k (.c (.b (.d (.int .i64 1))))), none⟩,
    ⟨some 10, .mov .cp (.t 77), none⟩] [0, 9, 10, 12])
  (.seq (.region false [
    ⟨some 78, .mov .cp (.t 12), none⟩,
    ⟨some 79, .bin .add (.t 78) (.k (.c (.b (.d (.int .i64 1))))), none⟩,
    ⟨some 12, .mov .cp (.t 79), none⟩] [0, 9, 10, 12])
  (.seq (.block 6 f57_l2)
  (.region false [
    ⟨some 94, .mov .cp (.t 12), none⟩,
    ⟨some 11, .mov .cp (.t 94), none⟩] [0, 9, 10, 11, 12])))))))))
def f57_l3 : ACode := .loop f57_b3
theorem u57_l3 {bd : Bd} {s : St} {β : Type} {k : AExit → St → Option β} {fns : Nat → Option AFun} : K fns bd f57_l3 s k = K fns bd f57_b3 s (fun e s' => match e with | .normal => K fns bd f57_l3 s' k | e => k e s') := K_loop
/-- strings.Fields -/
def f57 : AFun := ⟨1,
  (.seq (.region false [
    ⟨some 2, .mov .own (.k (.c (.osl 1 []))), none⟩] [0])
  (.seq (.region false [
    ⟨some 3, .mov .cp (.k (.c (.b (.d (.int .i64 0))))), none⟩] [0, 3])
  (.seq (.region false [
    ⟨some 4, .mov .cp (.k (.c (.b (.d (.int .i64 1))))), none⟩] [0, 3, 4])
  (.seq (.region false [
    ⟨some 5, .mov .cp (.k (.c (.b (.d (.int .u8 0))))), none⟩] [0, 3, 4, 5])
  (.seq (.seq (.region false [
    ⟨some 6, .mov .cp (.k (.c (.b (.d (.int .i64 0))))), none⟩] [0, 3, 4, 5, 6])
  (.block 0 f57_l0))
  (.seq (.seq (.region false [
    ⟨some 36, .mov .cp (.t 5), none⟩,
    ⟨some 37, .bin .geq (.t 36) (.k (.c (.b (.d (.int .u8 128))))), none⟩] [0, 3, 37])
  (.cond (.t 37)
    (.seq (.region false [
      ⟨some 38, .mov .cp (.t 0), none⟩,
      ⟨some 39, .call 73 [(.t 38), (.k (.c (.fn 74 [] [])))], none⟩,
      ⟨some 2, .mov .own (.t 39), none⟩] [2])
    .ret)
    .skip))
  (.seq (.region false [
    ⟨some 40, .mov .cp (.t 3), none⟩,
    ⟨some 41, .mks .arr 1 16 [(.b (.d (.str ⟨#[]⟩)))] (.t 40) (.t 40), none⟩,
    ⟨some 9, .mov .cp (.t 41), none⟩] [0, 9])
  (.seq (.region false [
    ⟨some 10, .mov .cp (.k (.c (.b (.d (.int .i64 0))))), none⟩] [0, 9, 10])
  (.seq (.region false [
    ⟨some 11, .mov .cp (.k (.c (.b (.d (.int .i64 0))))), none⟩] [0, 9, 10])
  (.seq (.region false [
    ⟨some 12, .mov .cp (.k (.c (.b (.d (.int .i64 0))))), none⟩] [0, 9, 10, 12])
  (.seq (.block 2 f57_l1)
  (.seq (.region false [
    ⟨some 56, .mov .cp (.t 12), none⟩,
    ⟨some 11, .mov .cp (.t 56), none⟩] [0, 9, 10, 11, 12])
  (.seq (.block 4 f57_l3)
  (.seq (.seq (.region false [
    ⟨some 95, .mov .cp (.t 11), none⟩,
    ⟨some 96, .mov .cp (.t 0), none⟩,
    ⟨some 97, .len 1 (.t 96), none⟩,
    ⟨some 98, .bin .lss (.t 95) (.t 97), none⟩] [0, 9, 10, 11, 98])
  (.cond (.t 98)
    (.region false [
      ⟨some 99, .mov .cp (.t 9), none⟩,
      ⟨some 100, .mov .cp (.t 10), none⟩,
      ⟨some 101, .mov .cp (.t 0), none⟩,
      ⟨some 102, .mov .cp (.t 11), none⟩,
      ⟨some 103, .slcs (.t 101) (some (.t 102)) none, none⟩,
      ⟨some 104, .ia 1 (.t 99) (.t 100), none⟩,
      ⟨none, .st 1 (.t 104) (.t 103), none⟩] [9])
    .skip))
  (.seq (.region false [
    ⟨some 105, .mov .cp (.t 9), none⟩,
    ⟨some 2, .mov .own (.t 105), none⟩] [2])
  .ret))))))))))))))), [(.tmp 2)], .pure, false⟩
def f40_b0 : ACode := (.wrap true [1, 7, 8, 9] [0] [(0, [1])]
  (.seq (.region false [
    ⟨some 10, .bin .lss (.t 9) (.t 8), none⟩] [1, 7, 8, 9, 10])
  (.seq (.cond (.t 10)
    .skip
    (.exit 0))
  (.seq (.block 1 (.seq (.region false [
    ⟨some 11, .ia 1 (.t 7) (.t 9), none⟩,
    ⟨some 12, .ld .cp none (.t 11), none⟩,
    ⟨some 3, .mov .cp (.t 12), none⟩] [1, 3, 7, 8, 9])
  (.region false [
    ⟨some 13, .mov .own (.t 1), none⟩,
    ⟨some 14, .mov .cp (.t 3), none⟩,
    ⟨some 15, .build [(.b (.d (.str ⟨#[]⟩))), (.b (.d (.bool false))), (.b (.d (.str ⟨#[]⟩))), (.osl 1 []), (.osl 4 []), (.osl 9 [])] [(0, 1, (.t 14)), (2, 1, (.k (.c (.b (.d (.str ⟨#[69, 114, 114, 111, 114]⟩))))))], none⟩,
    ⟨some 16, .bsl .own 6 1 [(.b (.d (.str ⟨#[]⟩))), (.b (.d (.bool false))), (.b (.d (.str ⟨#[]⟩))), (.osl 1 []), (.osl 4 []), (.osl 9 [])] [(0, (.t 15))], none⟩,
    ⟨some 17, .app 6 112 (.t 13) (.t 16), none⟩,
    ⟨some 1, .mov .own (.t 17), none⟩] [1, 7, 8, 9])))
  (.region false [
    ⟨some 18, .bin .add (.t 9) (.k (.c (.b (.d (.int .i64 1))))), none⟩,
    ⟨some 9, .mov .cp (.t 18), none⟩] [1, 7, 8, 9])))))
def f40_l0 : ACode := .loop f40_b0
theorem u40_l0 {bd : Bd} {s : St} {β : Type} {k : AExit → St → Option β} {fns : Nat → Option AFun} : K fns bd f40_l0 s k = K fns bd f40_b0 s (fun e s' => match e with | .normal => K fns bd f40_l0 s' k | e => k e s') := K_loop
/-- delver/hier.always -/
def f40 : AFun := ⟨0,
  (.seq (.region false [
    ⟨some 0, .mov .own (.k (.c (.osl 6 []))), none⟩] [])
  (.seq (.region false [
    ⟨some 4, .build [(.b (.d (.str ⟨#[]⟩))), (.b (.d (.bool false))), (.b (.d (.str ⟨#[]⟩))), (.osl 1 []), (.osl 4 []), (.osl 9 [])] [(0, 1, (.k (.c (.b (.d (.str ⟨#[79, 98, 106, 101, 99, 116]⟩))))))], none⟩,
    ⟨some 5, .build [(.b (.d (.str ⟨#[]⟩))), (.b (.d (.bool false))), (.b (.d (.str ⟨#[]⟩))), (.osl 1 []), (.osl 4 []), (.osl 9 [])] [(0, 1, (.k (.c (.b (.d (.str ⟨#[69, 114, 114, 111, 114]⟩)))))), (2, 1, (.k (.c (.b (.d (.str ⟨#[79, 98, 106, 101, 99, 116]⟩))))))], none⟩,
    ⟨some 6, .bsl .own 6 2 [(.b (.d (.str ⟨#[]⟩))), (.b (.d (.bool false))), (.b (.d (.str ⟨#[]⟩))), (.osl 1 []), (.osl 4 []), (.osl 9 [])] [(0, (.t 4)), (1, (.t 5))], none⟩,
    ⟨some 1, .mov .own (.t 6), none⟩] [1])
  (.seq (.seq (.region false [
    ⟨some 7, .callb 57 [(.k (.c (.b (.d (.str ⟨#[78, 117, 108, 108, 69, 114, 114, 111, 114, 32, 82, 97, 110, 103, 101, 69, 114, 114, 111, 114, 32, 67, 97, 115, 116, 69, 114, 114, 111, 114, 32, 78, 117, 109, 69, 114, 114, 111, 114, 32, 83, 105, 122, 101, 69, 114, 114, 111, 114, 32, 68, 101, 112, 116, 104, 69, 114, 114, 111, 114]⟩)))))], none⟩,
    ⟨some 8, .len 0 (.t 7), none⟩,
    ⟨some 9, .mov .cp (.k (.c (.b (.d (.int .i64 0))))), none⟩] [1, 7, 8, 9])
  (.block 0 f40_l0))
  (.seq (.region false [
    ⟨some 19, .mov .own (.t 1), none⟩,
    ⟨some 0, .mov .own (.t 19), none⟩] [0])
  .ret)))), [(.tmp 0)], .pure, false⟩
def f22_b0 : ACode := (.wrap true [3, 8, 9, 10] [2] [(0, [3])]
  (.seq (.region false [
    ⟨some 11, .bin .lss (.t 10) (.t 9), none⟩] [3, 8, 9, 10, 11])
  (.seq (.cond (.t 11)
    .skip
    (.exit 0))
  (.seq (.block 1 (.seq (.region false [
    ⟨some 12, .ia 6 (.t 8) (.t 10), none⟩,
    ⟨some 13, .ld .cp (some 6) (.t 12), none⟩,
    ⟨some 5, .alloc [(.b (.d (.str ⟨#[]⟩))), (.b (.d (.bool false))), (.b (.d (.str ⟨#[]⟩))), (.osl 1 []), (.osl 4 []), (.osl 9 [])], none⟩,
    ⟨none, .st 6 (.t 5) (.t 13), none⟩] [3, 5, 8, 9, 10])
  (.region false [
    ⟨some 14, .mov .own (.t 3), none⟩,
    ⟨some 15, .ld .cp (some 6) (.t 5), none⟩,
    ⟨some 16, .callb 38 [(.t 15)], none⟩,
    ⟨some 17, .bsl .own 6 1 [(.b (.d (.str ⟨#[]⟩))), (.b (.d (.bool false))), (.b (.d (.str ⟨#[]⟩))), (.osl 1 []), (.osl 4 []), (.osl 9 [])] [(0, (.t 16))], none⟩,
    ⟨some 18, .app 6 112 (.t 14) (.t 17), none⟩,
    ⟨some 3, .mov .own (.t 18), none⟩] [3, 8, 9, 10])))
  (.region false [
    ⟨some 19, .bin .add (.t 10) (.k (.c (.b (.d (.int .i64 1))))), none⟩,
    ⟨some 10, .mov .cp (.t 19), none⟩] [3, 8, 9, 10])))))
def f22_l0 : ACode := .loop f22_b0
theorem u22_l0 {bd : Bd} {s : St} {β : Type} {k : AExit → St → Option β} {fns : Nat → Option AFun} : K fns bd f22_l0 s k = K fns bd f22_b0 s (fun e s' => match e with | .normal => K fns bd f22_l0 s' k | e => k e s') := K_loop
/-- delver/hier.All -/
def f22 : AFun := ⟨1,
  (.seq (.region false [
    ⟨some 1, .box (.t 0), none⟩,
    ⟨some 2, .mov .own (.k (.c (.osl 6 []))), none⟩] [1])
  (.seq (.region false [
    ⟨some 6, .callb 40 [], none⟩,
    ⟨some 3, .mov .own (.t 6), none⟩] [1, 3])
  (.seq (.seq (.region false [
    ⟨some 7, .fa 0 (.t 1), none⟩,
    ⟨some 8, .ld .cp none (.t 7), none⟩,
    ⟨some 9, .len 0 (.t 8), none⟩,
    ⟨some 10, .mov .cp (.k (.c (.b (.d (.int .i64 0))))), none⟩] [3, 8, 9, 10])
  (.block 0 f22_l0))
  (.seq (.region false [
    ⟨some 20, .mov .own (.t 3), none⟩,
    ⟨some 2, .mov .own (.t 20), none⟩] [2])
  .ret)))), [(.tmp 2)], .pure, false⟩
def f11_b0 : ACode := (.wrap true [3, 4, 5] [2] [(0, [4])]
  (.seq (.seq (.region false [
    ⟨some 8, .mov .cp (.t 5), none⟩,
    ⟨some 9, .mov .cp (.t 3), none⟩,
    ⟨some 10, .len 0 (.t 9), none⟩,
    ⟨some 11, .bin .lss (.t 8) (.t 10), none⟩] [3, 4, 5, 11])
  (.cond (.t 11)
    .skip
    (.exit 0)))
  (.seq (.block 1 (.region false [
    ⟨some 14, .mov .own (.t 4), none⟩,
    ⟨some 15, .mov .cp (.t 3), none⟩,
    ⟨some 16, .mov .cp (.t 5), none⟩,
    ⟨some 17, .ia 6 (.t 15) (.t 16), none⟩,
    ⟨some 18, .fa 0 (.t 17), none⟩,
    ⟨some 19, .ld .cp none (.t 18), none⟩,
    ⟨some 20, .bsl .own 1 1 [(.b (.d (.str ⟨#[]⟩)))] [(0, (.t 19))], none⟩,
    ⟨some 21, .app 1 16 (.t 14) (.t 20), none⟩,
    ⟨some 4, .mov .own (.t 21), none⟩] [3, 4, 5]))
  (.region false [
    ⟨some 12, .mov .cp (.t 5), none⟩,
    ⟨some 13, .bin .add (.t 12) (.k (.c (.b (.d (.int .i64 1))))), none⟩,
    ⟨some 5, .mov .cp (.t 13), none⟩] [3, 4, 5]))))
def f11_l0 : ACode := .loop f11_b0
theorem u11_l0 {bd : Bd} {s : St} {β : Type} {k : AExit → St → Option β} {fns : Nat → Option AFun} : K fns bd f11_l0 s k = K fns bd f11_b0 s (fun e s' => match e with | .normal => K fns bd f11_l0 s' k | e => k e s') := K_loop
/-- delver/delverlaw04.names -/
def f11 : AFun := ⟨1,
  (.seq (.region false [
    ⟨some 1, .box (.t 0), none⟩,
    ⟨some 2, .mov .own (.k (.c (.osl 1 []))), none⟩] [1])
  (.seq (.region false [
    ⟨some 6, .ld .cp (some 1) (.t 1), none⟩,
    ⟨some 7, .callb 22 [(.t 6)], none⟩,
    ⟨some 3, .mov .cp (.t 7), none⟩] [3])
  (.seq (.region false [
    ⟨some 4, .mov .own (.k (.c (.osl 1 []))), none⟩] [3, 4])
  (.seq (.seq (.region false [
    ⟨some 5, .mov .cp (.k (.c (.b (.d (.int .i64 0))))), none⟩] [3, 4, 5])
  (.block 0 f11_l0))
  (.seq (.region false [
    ⟨some 22, .mov .own (.t 4), none⟩,
    ⟨some 2, .mov .own (.t 22), none⟩] [2])
  .ret))))), [(.tmp 2)], .pure, false⟩
def f65_b0 : ACode := (.wrap true [0, 1, 7, 8] [4] [(0, [])]
  (.seq (.region false [
    ⟨some 9, .bin .lss (.t 8) (.t 7), none⟩] [0, 1, 7, 8, 9])
  (.seq (.cond (.t 9)
    .skip
    (.exit 0))
  (.seq (.block 1 (.seq (.region false [
    ⟨some 10, .mov .own (.t 8), none⟩,
    ⟨some 5, .mov .own (.t 10), none⟩] [0, 1, 5, 7, 8])
  (.seq (.region false [
    ⟨some 11, .mov .cp (.t 1), none⟩,
    ⟨some 12, .mov .cp (.t 0), none⟩,
    ⟨some 13, .mov .cp (.t 5), none⟩,
    ⟨some 14, .ia 6 (.t 12) (.t 13), none⟩,
    ⟨some 15, .ld .cp (some 6) (.t 14), none⟩,
    ⟨some 16, .callv (.t 11) [(.t 15)], none⟩] [0, 1, 5, 7, 8, 16])
  (.cond (.t 16)
    (.seq (.region false [
      ⟨some 17, .mov .own (.t 5), none⟩,
      ⟨some 4, .mov .own (.t 17), none⟩] [4])
    .ret)
    .skip))))
  (.region false [
    ⟨some 18, .bin .add (.t 8) (.k (.c (.b (.d (.int .i64 1))))), none⟩,
    ⟨some 8, .mov .own (.t 18), none⟩] [0, 1, 7, 8])))))
def f65_l0 : ACode := .loop f65_b0
theorem u65_l0 {bd : Bd} {s : St} {β : Type} {k : AExit → St → Option β} {fns : Nat → Option AFun} : K fns bd f65_l0 s k = K fns bd f65_b0 s (fun e s' => match e with | .normal => K fns bd f65_l0 s' k | e => k e s') := K_loop
/-- slices.IndexFunc[[]delver/api.Class,delver/api.Class] -/
def f65 : AFun := ⟨2,
  (.seq (.region false [
    ⟨some 4, .mov .own (.k (.c (.b (.d (.int .i64 0))))), none⟩] [0, 1])
  (.seq (.seq (.region false [
    ⟨some 6, .mov .cp (.t 0), none⟩,
    ⟨some 7, .len 0 (.t 6), none⟩,
    ⟨some 8, .mov .own (.k (.c (.b (.d (.int .i64 0))))), none⟩] [0, 1, 7, 8])
  (.block 0 f65_l0))
  (.seq (.region false [
    ⟨some 4, .mov .own (.k (.c (.b (.d (.int .i64 (-1)))))), none⟩] [4])
  .ret))), [(.tmp 4)], .pure, false⟩
/-- slices.ContainsFunc[[]delver/api.Class,delver/api.Class] -/
def f47 : AFun := ⟨2,
  (.seq (.region false [
    ⟨some 4, .mov .own (.k (.c (.b (.d (.bool false))))), none⟩] [0, 1])
  (.seq (.region false [
    ⟨some 5, .mov .cp (.t 0), none⟩,
    ⟨some 6, .mov .cp (.t 1), none⟩,
    ⟨some 7, .call 65 [(.t 5), (.t 6)], none⟩,
    ⟨some 8, .bin .geq (.t 7) (.k (.c (.b (.d (.int .i64 0))))), none⟩,
    ⟨some 4, .mov .own (.t 8), none⟩] [4])
  .ret)), [(.tmp 4)], .pure, false⟩
/-- delver/show.each[delver/api.Class]$1 -/
def f78 : AFun := ⟨2,
  (.seq (.region false [
    ⟨some 2, .box (.t 0), none⟩,
    ⟨some 3, .mov .own (.k (.c (.b (.d (.bool false))))), none⟩] [1, 2])
  (.seq (.region false [
    ⟨some 4, .ld .cp none (.t 1), none⟩,
    ⟨some 5, .ld .cp (some 6) (.t 2), none⟩,
    ⟨some 6, .callv (.t 4) [(.t 5)], none⟩,
    ⟨some 7, .un .not (.t 6), none⟩,
    ⟨some 3, .mov .own (.t 7), none⟩] [3])
  .ret)), [(.tmp 3)], .pure, false⟩
/-- delver/show.each[delver/api.Class] -/
def f63 : AFun := ⟨3,
  (.seq (.region false [
    ⟨some 5, .box (.t 2), none⟩,
    ⟨some 6, .mov .own (.k (.c (.b (.d (.bool false))))), none⟩] [0, 1, 5])
  (.seq (.region false [
    ⟨some 7, .mov .cp (.t 0), none⟩,
    ⟨some 8, .len 0 (.t 7), none⟩,
    ⟨some 9, .mov .cp (.t 1), none⟩,
    ⟨some 10, .bin .leq (.t 8) (.t 9), none⟩,
    ⟨some 11, .mov .cp (.t 10), none⟩,
    ⟨some 12, .mov .cp (.t 0), (some (11, true))⟩,
    ⟨some 13, .mkf 78 [] [(.t 5)], (some (11, true))⟩,
    ⟨some 14, .call 47 [(.t 12), (.t 13)], (some (11, true))⟩,
    ⟨some 15, .un .not (.t 14), (some (11, true))⟩,
    ⟨some 16, .pick (.t 11) (.t 15) (.k (.c (.b (.d (.bool false))))), none⟩,
    ⟨some 6, .mov .own (.t 16), none⟩] [6])
  .ret)), [(.tmp 6)], .pure, false⟩
/-- delver/lex.letter -/
def f102 : AFun := ⟨1,
  (.seq (.region false [
    ⟨some 2, .mov .own (.k (.c (.b (.d (.bool false))))), none⟩] [0])
  (.seq (.region false [
    ⟨some 3, .mov .cp (.t 0), none⟩,
    ⟨some 4, .bin .geq (.t 3) (.k (.c (.b (.d (.int .u8 97))))), none⟩,
    ⟨some 5, .mov .cp (.t 4), none⟩,
    ⟨some 6, .mov .cp (.t 0), (some (5, true))⟩,
    ⟨some 7, .bin .leq (.t 6) (.k (.c (.b (.d (.int .u8 122))))), (some (5, true))⟩,
    ⟨some 8, .pick (.t 5) (.t 7) (.k (.c (.b (.d (.bool false))))), none⟩,
    ⟨some 9, .mov .cp (.t 8), none⟩,
    ⟨some 10, .mov .cp (.t 0), (some (9, false))⟩,
    ⟨some 11, .bin .geq (.t 10) (.k (.c (.b (.d (.int .u8 65))))), (some (9, false))⟩,
    ⟨some 12, .mov .cp (.t 11), (some (9, false))⟩,
    ⟨some 13, .mov .cp (.t 0), (some (12, true))⟩,
    ⟨some 14, .bin .leq (.t 13) (.k (.c (.b (.d (.int .u8 90))))), (some (12, true))⟩,
    ⟨some 15, .pick (.t 12) (.t 14) (.k (.c (.b (.d (.bool false))))), (some (9, false))⟩,
    ⟨some 16, .pick (.t 9) (.k (.c (.b (.d (.bool true))))) (.t 15), none⟩,
    ⟨some 17, .mov .cp (.t 16), none⟩,
    ⟨some 18, .mov .cp (.t 0), (some (17, false))⟩,
    ⟨some 19, .bin .eql (.t 18) (.k (.c (.b (.d (.int .u8 95))))), (some (17, false))⟩,
    ⟨some 20, .pick (.t 17) (.k (.c (.b (.d (.bool true))))) (.t 19), none⟩,
    ⟨some 2, .mov .own (.t 20), none⟩] [2])
  .ret)), [(.tmp 2)], .pure, false⟩
/-- delver/lex.digit -/
def f103 : AFun := ⟨1,
  (.seq (.region false [
    ⟨some 2, .mov .own (.k (.c (.b (.d (.bool false))))), none⟩] [0])
  (.seq (.region false [
    ⟨some 3, .mov .cp (.t 0), none⟩,
    ⟨some 4, .bin .geq (.t 3) (.k (.c (.b (.d (.int .u8 48))))), none⟩,
    ⟨some 5, .mov .cp (.t 4), none⟩,
    ⟨some 6, .mov .cp (.t 0), (some (5, true))⟩,
    ⟨some 7, .bin .leq (.t 6) (.k (.c (.b (.d (.int .u8 57))))), (some (5, true))⟩,
    ⟨some 8, .pick (.t 5) (.t 7) (.k (.c (.b (.d (.bool false))))), none⟩,
    ⟨some 2, .mov .own (.t 8), none⟩] [2])
  .ret)), [(.tmp 2)], .pure, false⟩
def f86_b0 : ACode := (.wrap true [0, 18, 19] [2] [(0, [])]
  (.seq (.region false [
    ⟨some 20, .bin .lss (.t 19) (.t 18), none⟩] [0, 18, 19, 20])
  (.seq (.cond (.t 20)
    .skip
    (.exit 0))
  (.seq (.block 1 (.seq (.region false [
    ⟨some 21, .mov .cp (.t 19), none⟩,
    ⟨some 3, .mov .cp (.t 21), none⟩] [0, 3, 18, 19])
  (.seq (.region false [
    ⟨some 22, .mov .cp (.t 0), none⟩,
    ⟨some 23, .mov .cp (.t 3), none⟩,
    ⟨some 24, .ixs (.t 22) (.t 23), none⟩,
    ⟨some 25, .callb 102 [(.t 24)], none⟩,
    ⟨some 26, .un .not (.t 25), none⟩,
    ⟨some 27, .mov .cp (.t 26), none⟩,
    ⟨some 28, .mov .cp (.t 0), (some (27, true))⟩,
    ⟨some 29, .mov .cp (.t 3), (some (27, true))⟩,
    ⟨some 30, .ixs (.t 28) (.t 29), (some (27, true))⟩,
    ⟨some 31, .callb 103 [(.t 30)], (some (27, true))⟩,
    ⟨some 32, .un .not (.t 31), (some (27, true))⟩,
    ⟨some 33, .pick (.t 27) (.t 32) (.k (.c (.b (.d (.bool false))))), none⟩] [0, 18, 19, 33])
  (.cond (.t 33)
    (.seq (.region false [
      ⟨some 2, .mov .own (.k (.c (.b (.d (.bool false))))), none⟩] [2])
    .ret)
    .skip))))
  (.region false [
    ⟨some 34, .bin .add (.t 19) (.k (.c (.b (.d (.int .i64 1))))), none⟩,
    ⟨some 19, .mov .cp (.t 34), none⟩] [0, 18, 19])))))
def f86_l0 : ACode := .loop f86_b0
theorem u86_l0 {bd : Bd} {s : St} {β : Type} {k : AExit → St → Option β} {fns : Nat → Option AFun} : K fns bd f86_l0 s k = K fns bd f86_b0 s (fun e s' => match e with | .normal => K fns bd f86_l0 s' k | e => k e s') := K_loop
/-- delver/lex.Name -/
def f86 : AFun := ⟨1,
  (.seq (.region false [
    ⟨some 2, .mov .own (.k (.c (.b (.d (.bool false))))), none⟩] [0])
  (.seq (.seq (.region false [
    ⟨some 4, .mov .cp (.t 0), none⟩,
    ⟨some 5, .bin .eql (.t 4) (.k (.c (.b (.d (.str ⟨#[]⟩))))), none⟩,
    ⟨some 6, .mov .cp (.t 5), none⟩,
    ⟨some 7, .mov .cp (.t 0), (some (6, false))⟩,
    ⟨some 8, .len 1 (.t 7), (some (6, false))⟩,
    ⟨some 9, .bin .gtr (.t 8) (.k (.c (.b (.d (.int .i64 20))))), (some (6, false))⟩,
    ⟨some 10, .pick (.t 6) (.k (.c (.b (.d (.bool true))))) (.t 9), none⟩,
    ⟨some 11, .mov .cp (.t 10), none⟩,
    ⟨some 12, .mov .cp (.t 0), (some (11, false))⟩,
    ⟨some 13, .ixs (.t 12) (.k (.c (.b (.d (.int .i64 0))))), (some (11, false))⟩,
    ⟨some 14, .callb 102 [(.t 13)], (some (11, false))⟩,
    ⟨some 15, .un .not (.t 14), (some (11, false))⟩,
    ⟨some 16, .pick (.t 11) (.k (.c (.b (.d (.bool true))))) (.t 15), none⟩] [0, 16])
  (.cond (.t 16)
    (.seq (.region false [
      ⟨some 2, .mov .own (.k (.c (.b (.d (.bool false))))), none⟩] [2])
    .ret)
    .skip))
  (.seq (.seq (.region false [
    ⟨some 17, .mov .cp (.t 0), none⟩,
    ⟨some 18, .len 1 (.t 17), none⟩,
    ⟨some 19, .mov .cp (.k (.c (.b (.d (.int .i64 0))))), none⟩] [0, 18, 19])
  (.block 0 f86_l0))
  (.seq (.region false [
    ⟨some 2, .mov .own (.k (.c (.b (.d (.bool true))))), none⟩] [2])
  .ret)))), [(.tmp 2)], .pure, false⟩
def f116_b0 : ACode := (.wrap true [0, 1, 7, 8] [4] [(0, [])]
  (.seq (.region false [
    ⟨some 9, .bin .lss (.t 8) (.t 7), none⟩] [0, 1, 7, 8, 9])
  (.seq (.cond (.t 9)
    .skip
    (.exit 0))
  (.seq (.block 1 (.seq (.region false [
    ⟨some 10, .mov .own (.t 8), none⟩,
    ⟨some 5, .mov .own (.t 10), none⟩] [0, 1, 5, 7, 8])
  (.seq (.region false [
    ⟨some 11, .mov .cp (.t 1), none⟩,
    ⟨some 12, .mov .cp (.t 0), none⟩,
    ⟨some 13, .mov .cp (.t 5), none⟩,
    ⟨some 14, .ia 1 (.t 12) (.t 13), none⟩,
    ⟨some 15, .ld .cp none (.t 14), none⟩,
    ⟨some 16, .bin .eql (.t 11) (.t 15), none⟩] [0, 1, 5, 7, 8, 16])
  (.cond (.t 16)
    (.seq (.region false [
      ⟨some 17, .mov .own (.t 5), none⟩,
      ⟨some 4, .mov .own (.t 17), none⟩] [4])
    .ret)
    .skip))))
  (.region false [
    ⟨some 18, .bin .add (.t 8) (.k (.c (.b (.d (.int .i64 1))))), none⟩,
    ⟨some 8, .mov .own (.t 18), none⟩] [0, 1, 7, 8])))))
def f116_l0 : ACode := .loop f116_b0
theorem u116_l0 {bd : Bd} {s : St} {β : Type} {k : AExit → St → Option β} {fns : Nat → Option AFun} : K fns bd f116_l0 s k = K fns bd f116_b0 s (fun e s' => match e with | .normal => K fns bd f116_l0 s' k | e => k e s') := K_loop
/-- slices.Index[[]string,string] -/
def f116 : AFun := ⟨2,
  (.seq (.region false [
    ⟨some 4, .mov .own (.k (.c (.b (.d (.int .i64 0))))), none⟩] [0, 1])
  (.seq (.seq (.region false [
    ⟨some 6, .mov .cp (.t 0), none⟩,
    ⟨some 7, .len 0 (.t 6), none⟩,
    ⟨some 8, .mov .own (.k (.c (.b (.d (.int .i64 0))))), none⟩] [0, 1, 7, 8])
  (.block 0 f116_l0))
  (.seq (.region false [
    ⟨some 4, .mov .own (.k (.c (.b (.d (.int .i64 (-1)))))), none⟩] [4])
  .ret))), [(.tmp 4)], .pure, false⟩
/-- slices.Contains[[]string,string] -/
def f104 : AFun := ⟨2,
  (.seq (.region false [
    ⟨some 4, .mov .own (.k (.c (.b (.d (.bool false))))), none⟩] [0, 1])
  (.seq (.region false [
    ⟨some 5, .mov .cp (.t 0), none⟩,
    ⟨some 6, .mov .cp (.t 1), none⟩,
    ⟨some 7, .callb 116 [(.t 5), (.t 6)], none⟩,
    ⟨some 8, .bin .geq (.t 7) (.k (.c (.b (.d (.int .i64 0))))), none⟩,
    ⟨some 4, .mov .own (.t 8), none⟩] [4])
  .ret)), [(.tmp 4)], .pure, false⟩
/-- delver/parse.Kept -/
def f87 : AFun := ⟨1,
  (.seq (.region false [
    ⟨some 2, .mov .own (.k (.c (.b (.d (.bool false))))), none⟩] [0])
  (.seq (.region false [
    ⟨some 3, .callb 57 [(.k (.c (.b (.d (.str ⟨#[99, 108, 97, 115, 115, 32, 105, 110, 116, 101, 114, 102, 97, 99, 101, 32, 101, 120, 116, 101, 110, 100, 115, 32, 105, 109, 112, 108, 101, 109, 101, 110, 116, 115, 32, 102, 105, 101, 108, 100, 32, 115, 116, 97, 116, 105, 99, 32, 109, 101, 116, 104, 111, 100, 32, 102, 117, 110, 99, 116, 105, 111, 110, 32, 108, 111, 99, 97, 108, 115, 32, 99, 97, 116, 99, 104, 32, 105, 110, 116, 32, 118, 111, 105, 100]⟩)))))], none⟩,
    ⟨some 4, .mov .cp (.t 0), none⟩,
    ⟨some 5, .callb 104 [(.t 3), (.t 4)], none⟩,
    ⟨some 2, .mov .own (.t 5), none⟩] [2])
  .ret)), [(.tmp 2)], .pure, false⟩
/-- delver/parse.Fresh -/
def f79 : AFun := ⟨1,
  (.seq (.region false [
    ⟨some 2, .mov .own (.k (.c (.b (.d (.bool false))))), none⟩] [0])
  (.seq (.region false [
    ⟨some 3, .mov .cp (.t 0), none⟩,
    ⟨some 4, .callb 86 [(.t 3)], none⟩,
    ⟨some 5, .mov .cp (.t 4), none⟩,
    ⟨some 6, .mov .cp (.t 0), (some (5, true))⟩,
    ⟨some 7, .callb 87 [(.t 6)], (some (5, true))⟩,
    ⟨some 8, .un .not (.t 7), (some (5, true))⟩,
    ⟨some 9, .pick (.t 5) (.t 8) (.k (.c (.b (.d (.bool false))))), none⟩,
    ⟨some 2, .mov .own (.t 9), none⟩] [2])
  .ret)), [(.tmp 2)], .pure, false⟩
def f67_b0 : ACode := (.wrap true [0, 1, 7, 8] [4] [(0, [])]
  (.seq (.region false [
    ⟨some 9, .bin .lss (.t 8) (.t 7), none⟩] [0, 1, 7, 8, 9])
  (.seq (.cond (.t 9)
    .skip
    (.exit 0))
  (.seq (.block 1 (.seq (.region false [
    ⟨some 10, .mov .own (.t 8), none⟩,
    ⟨some 5, .mov .own (.t 10), none⟩] [0, 1, 5, 7, 8])
  (.seq (.region false [
    ⟨some 11, .mov .cp (.t 1), none⟩,
    ⟨some 12, .mov .cp (.t 0), none⟩,
    ⟨some 13, .mov .cp (.t 5), none⟩,
    ⟨some 14, .ia 1 (.t 12) (.t 13), none⟩,
    ⟨some 15, .ld .cp none (.t 14), none⟩,
    ⟨some 16, .callv (.t 11) [(.t 15)], none⟩] [0, 1, 5, 7, 8, 16])
  (.cond (.t 16)
    (.seq (.region false [
      ⟨some 17, .mov .own (.t 5), none⟩,
      ⟨some 4, .mov .own (.t 17), none⟩] [4])
    .ret)
    .skip))))
  (.region false [
    ⟨some 18, .bin .add (.t 8) (.k (.c (.b (.d (.int .i64 1))))), none⟩,
    ⟨some 8, .mov .own (.t 18), none⟩] [0, 1, 7, 8])))))
def f67_l0 : ACode := .loop f67_b0
theorem u67_l0 {bd : Bd} {s : St} {β : Type} {k : AExit → St → Option β} {fns : Nat → Option AFun} : K fns bd f67_l0 s k = K fns bd f67_b0 s (fun e s' => match e with | .normal => K fns bd f67_l0 s' k | e => k e s') := K_loop
/-- slices.IndexFunc[[]string,string] -/
def f67 : AFun := ⟨2,
  (.seq (.region false [
    ⟨some 4, .mov .own (.k (.c (.b (.d (.int .i64 0))))), none⟩] [0, 1])
  (.seq (.seq (.region false [
    ⟨some 6, .mov .cp (.t 0), none⟩,
    ⟨some 7, .len 0 (.t 6), none⟩,
    ⟨some 8, .mov .own (.k (.c (.b (.d (.int .i64 0))))), none⟩] [0, 1, 7, 8])
  (.block 0 f67_l0))
  (.seq (.region false [
    ⟨some 4, .mov .own (.k (.c (.b (.d (.int .i64 (-1)))))), none⟩] [4])
  .ret))), [(.tmp 4)], .pure, false⟩
/-- slices.ContainsFunc[[]string,string] -/
def f49 : AFun := ⟨2,
  (.seq (.region false [
    ⟨some 4, .mov .own (.k (.c (.b (.d (.bool false))))), none⟩] [0, 1])
  (.seq (.region false [
    ⟨some 5, .mov .cp (.t 0), none⟩,
    ⟨some 6, .mov .cp (.t 1), none⟩,
    ⟨some 7, .call 67 [(.t 5), (.t 6)], none⟩,
    ⟨some 8, .bin .geq (.t 7) (.k (.c (.b (.d (.int .i64 0))))), none⟩,
    ⟨some 4, .mov .own (.t 8), none⟩] [4])
  .ret)), [(.tmp 4)], .pure, false⟩
/-- delver/show.each[string]$1 -/
def f88 : AFun := ⟨2,
  (.seq (.region false [
    ⟨some 3, .mov .own (.k (.c (.b (.d (.bool false))))), none⟩] [0, 1])
  (.seq (.region false [
    ⟨some 4, .ld .cp none (.t 1), none⟩,
    ⟨some 5, .mov .cp (.t 0), none⟩,
    ⟨some 6, .callv (.t 4) [(.t 5)], none⟩,
    ⟨some 7, .un .not (.t 6), none⟩,
    ⟨some 3, .mov .own (.t 7), none⟩] [3])
  .ret)), [(.tmp 3)], .pure, false⟩
/-- delver/show.each[string] -/
def f80 : AFun := ⟨3,
  (.seq (.region false [
    ⟨some 5, .box (.t 2), none⟩,
    ⟨some 6, .mov .own (.k (.c (.b (.d (.bool false))))), none⟩] [0, 1, 5])
  (.seq (.region false [
    ⟨some 7, .mov .cp (.t 0), none⟩,
    ⟨some 8, .len 0 (.t 7), none⟩,
    ⟨some 9, .mov .cp (.t 1), none⟩,
    ⟨some 10, .bin .leq (.t 8) (.t 9), none⟩,
    ⟨some 11, .mov .cp (.t 10), none⟩,
    ⟨some 12, .mov .cp (.t 0), (some (11, true))⟩,
    ⟨some 13, .mkf 88 [] [(.t 5)], (some (11, true))⟩,
    ⟨some 14, .call 49 [(.t 12), (.t 13)], (some (11, true))⟩,
    ⟨some 15, .un .not (.t 14), (some (11, true))⟩,
    ⟨some 16, .pick (.t 11) (.t 15) (.k (.c (.b (.d (.bool false))))), none⟩,
    ⟨some 6, .mov .own (.t 16), none⟩] [6])
  .ret)), [(.tmp 6)], .pure, false⟩
def f105_b0 : ACode := (.wrap true [0, 1, 7, 8] [4] [(0, [])]
  (.seq (.region false [
    ⟨some 9, .bin .lss (.t 8) (.t 7), none⟩] [0, 1, 7, 8, 9])
  (.seq (.cond (.t 9)
    .skip
    (.exit 0))
  (.seq (.block 1 (.seq (.region false [
    ⟨some 10, .mov .own (.t 8), none⟩,
    ⟨some 5, .mov .own (.t 10), none⟩] [0, 1, 5, 7, 8])
  (.seq (.region false [
    ⟨some 11, .mov .cp (.t 1), none⟩,
    ⟨some 12, .mov .cp (.t 0), none⟩,
    ⟨some 13, .mov .cp (.t 5), none⟩,
    ⟨some 14, .ia 4 (.t 12) (.t 13), none⟩,
    ⟨some 15, .ld .cp (some 4) (.t 14), none⟩,
    ⟨some 16, .callv (.t 11) [(.t 15)], none⟩] [0, 1, 5, 7, 8, 16])
  (.cond (.t 16)
    (.seq (.region false [
      ⟨some 17, .mov .own (.t 5), none⟩,
      ⟨some 4, .mov .own (.t 17), none⟩] [4])
    .ret)
    .skip))))
  (.region false [
    ⟨some 18, .bin .add (.t 8) (.k (.c (.b (.d (.int .i64 1))))), none⟩,
    ⟨some 8, .mov .own (.t 18), none⟩] [0, 1, 7, 8])))))
def f105_l0 : ACode := .loop f105_b0
theorem u105_l0 {bd : Bd} {s : St} {β : Type} {k : AExit → St → Option β} {fns : Nat → Option AFun} : K fns bd f105_l0 s k = K fns bd f105_b0 s (fun e s' => match e with | .normal => K fns bd f105_l0 s' k | e => k e s') := K_loop
/-- slices.IndexFunc[[]delver/api.Field,delver/api.Field] -/
def f105 : AFun := ⟨2,
  (.seq (.region false [
    ⟨some 4, .mov .own (.k (.c (.b (.d (.int .i64 0))))), none⟩] [0, 1])
  (.seq (.seq (.region false [
    ⟨some 6, .mov .cp (.t 0), none⟩,
    ⟨some 7, .len 0 (.t 6), none⟩,
    ⟨some 8, .mov .own (.k (.c (.b (.d (.int .i64 0))))), none⟩] [0, 1, 7, 8])
  (.block 0 f105_l0))
  (.seq (.region false [
    ⟨some 4, .mov .own (.k (.c (.b (.d (.int .i64 (-1)))))), none⟩] [4])
  .ret))), [(.tmp 4)], .pure, false⟩
/-- slices.ContainsFunc[[]delver/api.Field,delver/api.Field] -/
def f89 : AFun := ⟨2,
  (.seq (.region false [
    ⟨some 4, .mov .own (.k (.c (.b (.d (.bool false))))), none⟩] [0, 1])
  (.seq (.region false [
    ⟨some 5, .mov .cp (.t 0), none⟩,
    ⟨some 6, .mov .cp (.t 1), none⟩,
    ⟨some 7, .call 105 [(.t 5), (.t 6)], none⟩,
    ⟨some 8, .bin .geq (.t 7) (.k (.c (.b (.d (.int .i64 0))))), none⟩,
    ⟨some 4, .mov .own (.t 8), none⟩] [4])
  .ret)), [(.tmp 4)], .pure, false⟩
/-- delver/show.each[delver/api.Field]$1 -/
def f90 : AFun := ⟨2,
  (.seq (.region false [
    ⟨some 2, .box (.t 0), none⟩,
    ⟨some 3, .mov .own (.k (.c (.b (.d (.bool false))))), none⟩] [1, 2])
  (.seq (.region false [
    ⟨some 4, .ld .cp none (.t 1), none⟩,
    ⟨some 5, .ld .cp (some 4) (.t 2), none⟩,
    ⟨some 6, .callv (.t 4) [(.t 5)], none⟩,
    ⟨some 7, .un .not (.t 6), none⟩,
    ⟨some 3, .mov .own (.t 7), none⟩] [3])
  .ret)), [(.tmp 3)], .pure, false⟩
/-- delver/show.each[delver/api.Field] -/
def f81 : AFun := ⟨3,
  (.seq (.region false [
    ⟨some 5, .box (.t 2), none⟩,
    ⟨some 6, .mov .own (.k (.c (.b (.d (.bool false))))), none⟩] [0, 1, 5])
  (.seq (.region false [
    ⟨some 7, .mov .cp (.t 0), none⟩,
    ⟨some 8, .len 0 (.t 7), none⟩,
    ⟨some 9, .mov .cp (.t 1), none⟩,
    ⟨some 10, .bin .leq (.t 8) (.t 9), none⟩,
    ⟨some 11, .mov .cp (.t 10), none⟩,
    ⟨some 12, .mov .cp (.t 0), (some (11, true))⟩,
    ⟨some 13, .mkf 90 [] [(.t 5)], (some (11, true))⟩,
    ⟨some 14, .call 89 [(.t 12), (.t 13)], (some (11, true))⟩,
    ⟨some 15, .un .not (.t 14), (some (11, true))⟩,
    ⟨some 16, .pick (.t 11) (.t 15) (.k (.c (.b (.d (.bool false))))), none⟩,
    ⟨some 6, .mov .own (.t 16), none⟩] [6])
  .ret)), [(.tmp 6)], .pure, false⟩
/-- delver/show.typed -/
def f91 : AFun := ⟨1,
  (.seq (.region false [
    ⟨some 1, .box (.t 0), none⟩,
    ⟨some 2, .mov .own (.k (.c (.b (.d (.bool false))))), none⟩] [1])
  (.seq (.seq (.region false [
    ⟨some 3, .fa 0 (.t 1), none⟩,
    ⟨some 4, .ld .cp none (.t 3), none⟩] [1, 4])
  (.block 0 (.seq (.seq (.region false [
    ⟨some 6, .bin .eql (.t 4) (.k (.c (.b (.d (.int .i64 1))))), none⟩,
    ⟨some 5, .mov .cp (.t 6), none⟩] [1, 4, 5])
  (.cond (.t 5)
    .skip
    (.seq (.region false [
      ⟨some 7, .bin .eql (.t 4) (.k (.c (.b (.d (.int .i64 2))))), none⟩,
      ⟨some 5, .mov .cp (.t 7), none⟩] [1, 4, 5])
    (.cond (.t 5)
      .skip
      (.region false [
        ⟨some 8, .bin .eql (.t 4) (.k (.c (.b (.d (.int .i64 4))))), none⟩,
        ⟨some 5, .mov .cp (.t 8), none⟩] [1, 4, 5])))))
  (.cond (.t 5)
    (.seq (.region false [
      ⟨some 9, .fa 1 (.t 1), none⟩,
      ⟨some 10, .ld .cp none (.t 9), none⟩,
      ⟨some 11, .bin .eql (.t 10) (.k (.c (.b (.d (.str ⟨#[]⟩))))), none⟩,
      ⟨some 2, .mov .own (.t 11), none⟩] [2])
    .ret)
    (.seq (.seq (.region false [
      ⟨some 13, .bin .eql (.t 4) (.k (.c (.b (.d (.int .i64 3))))), none⟩,
      ⟨some 12, .mov .cp (.t 13), none⟩] [1, 4, 12])
    (.cond (.t 12)
      .skip
      (.region false [
        ⟨some 14, .bin .eql (.t 4) (.k (.c (.b (.d (.int .i64 5))))), none⟩,
        ⟨some 12, .mov .cp (.t 14), none⟩] [1, 12])))
    (.cond (.t 12)
      (.seq (.region false [
        ⟨some 15, .fa 1 (.t 1), none⟩,
        ⟨some 16, .ld .cp none (.t 15), none⟩,
        ⟨some 17, .callb 79 [(.t 16)], none⟩,
        ⟨some 2, .mov .own (.t 17), none⟩] [2])
      .ret)
      .skip))))))
  (.seq (.region false [
    ⟨some 2, .mov .own (.k (.c (.b (.d (.bool false))))), none⟩] [2])
  .ret))), [(.tmp 2)], .pure, false⟩
/-- delver/show.field -/
def f82 : AFun := ⟨1,
  (.seq (.region false [
    ⟨some 1, .box (.t 0), none⟩,
    ⟨some 2, .mov .own (.k (.c (.b (.d (.bool false))))), none⟩] [1])
  (.seq (.region false [
    ⟨some 3, .fa 0 (.t 1), none⟩,
    ⟨some 4, .ld .cp none (.t 3), none⟩,
    ⟨some 5, .callb 79 [(.t 4)], none⟩,
    ⟨some 6, .mov .cp (.t 5), none⟩,
    ⟨some 7, .fa 1 (.t 1), (some (6, true))⟩,
    ⟨some 8, .ld .cp (some 2) (.t 7), (some (6, true))⟩,
    ⟨some 9, .callb 91 [(.t 8)], (some (6, true))⟩,
    ⟨some 10, .pick (.t 6) (.t 9) (.k (.c (.b (.d (.bool false))))), none⟩,
    ⟨some 2, .mov .own (.t 10), none⟩] [2])
  .ret)), [(.tmp 2)], .pure, false⟩
def f106_b0 : ACode := (.wrap true [0, 1, 7, 8] [4] [(0, [])]
  (.seq (.region false [
    ⟨some 9, .bin .lss (.t 8) (.t 7), none⟩] [0, 1, 7, 8, 9])
  (.seq (.cond (.t 9)
    .skip
    (.exit 0))
  (.seq (.block 1 (.seq (.region false [
    ⟨some 10, .mov .own (.t 8), none⟩,
    ⟨some 5, .mov .own (.t 10), none⟩] [0, 1, 5, 7, 8])
  (.seq (.region false [
    ⟨some 11, .mov .cp (.t 1), none⟩,
    ⟨some 12, .mov .cp (.t 0), none⟩,
    ⟨some 13, .mov .cp (.t 5), none⟩,
    ⟨some 14, .ia 9 (.t 12) (.t 13), none⟩,
    ⟨some 15, .ld .cp (some 9) (.t 14), none⟩,
    ⟨some 16, .callv (.t 11) [(.t 15)], none⟩] [0, 1, 5, 7, 8, 16])
  (.cond (.t 16)
    (.seq (.region false [
      ⟨some 17, .mov .own (.t 5), none⟩,
      ⟨some 4, .mov .own (.t 17), none⟩] [4])
    .ret)
    .skip))))
  (.region false [
    ⟨some 18, .bin .add (.t 8) (.k (.c (.b (.d (.int .i64 1))))), none⟩,
    ⟨some 8, .mov .own (.t 18), none⟩] [0, 1, 7, 8])))))
def f106_l0 : ACode := .loop f106_b0
theorem u106_l0 {bd : Bd} {s : St} {β : Type} {k : AExit → St → Option β} {fns : Nat → Option AFun} : K fns bd f106_l0 s k = K fns bd f106_b0 s (fun e s' => match e with | .normal => K fns bd f106_l0 s' k | e => k e s') := K_loop
/-- slices.IndexFunc[[]delver/api.Method,delver/api.Method] -/
def f106 : AFun := ⟨2,
  (.seq (.region false [
    ⟨some 4, .mov .own (.k (.c (.b (.d (.int .i64 0))))), none⟩] [0, 1])
  (.seq (.seq (.region false [
    ⟨some 6, .mov .cp (.t 0), none⟩,
    ⟨some 7, .len 0 (.t 6), none⟩,
    ⟨some 8, .mov .own (.k (.c (.b (.d (.int .i64 0))))), none⟩] [0, 1, 7, 8])
  (.block 0 f106_l0))
  (.seq (.region false [
    ⟨some 4, .mov .own (.k (.c (.b (.d (.int .i64 (-1)))))), none⟩] [4])
  .ret))), [(.tmp 4)], .pure, false⟩
/-- slices.ContainsFunc[[]delver/api.Method,delver/api.Method] -/
def f92 : AFun := ⟨2,
  (.seq (.region false [
    ⟨some 4, .mov .own (.k (.c (.b (.d (.bool false))))), none⟩] [0, 1])
  (.seq (.region false [
    ⟨some 5, .mov .cp (.t 0), none⟩,
    ⟨some 6, .mov .cp (.t 1), none⟩,
    ⟨some 7, .call 106 [(.t 5), (.t 6)], none⟩,
    ⟨some 8, .bin .geq (.t 7) (.k (.c (.b (.d (.int .i64 0))))), none⟩,
    ⟨some 4, .mov .own (.t 8), none⟩] [4])
  .ret)), [(.tmp 4)], .pure, false⟩
/-- delver/show.each[delver/api.Method]$1 -/
def f93 : AFun := ⟨2,
  (.seq (.region false [
    ⟨some 2, .box (.t 0), none⟩,
    ⟨some 3, .mov .own (.k (.c (.b (.d (.bool false))))), none⟩] [1, 2])
  (.seq (.region false [
    ⟨some 4, .ld .cp none (.t 1), none⟩,
    ⟨some 5, .ld .cp (some 9) (.t 2), none⟩,
    ⟨some 6, .callv (.t 4) [(.t 5)], none⟩,
    ⟨some 7, .un .not (.t 6), none⟩,
    ⟨some 3, .mov .own (.t 7), none⟩] [3])
  .ret)), [(.tmp 3)], .pure, false⟩
/-- delver/show.each[delver/api.Method] -/
def f83 : AFun := ⟨3,
  (.seq (.region false [
    ⟨some 5, .box (.t 2), none⟩,
    ⟨some 6, .mov .own (.k (.c (.b (.d (.bool false))))), none⟩] [0, 1, 5])
  (.seq (.region false [
    ⟨some 7, .mov .cp (.t 0), none⟩,
    ⟨some 8, .len 0 (.t 7), none⟩,
    ⟨some 9, .mov .cp (.t 1), none⟩,
    ⟨some 10, .bin .leq (.t 8) (.t 9), none⟩,
    ⟨some 11, .mov .cp (.t 10), none⟩,
    ⟨some 12, .mov .cp (.t 0), (some (11, true))⟩,
    ⟨some 13, .mkf 93 [] [(.t 5)], (some (11, true))⟩,
    ⟨some 14, .call 92 [(.t 12), (.t 13)], (some (11, true))⟩,
    ⟨some 15, .un .not (.t 14), (some (11, true))⟩,
    ⟨some 16, .pick (.t 11) (.t 15) (.k (.c (.b (.d (.bool false))))), none⟩,
    ⟨some 6, .mov .own (.t 16), none⟩] [6])
  .ret)), [(.tmp 6)], .pure, false⟩
def f117_b0 : ACode := (.wrap true [0, 1, 7, 8] [4] [(0, [])]
  (.seq (.region false [
    ⟨some 9, .bin .lss (.t 8) (.t 7), none⟩] [0, 1, 7, 8, 9])
  (.seq (.cond (.t 9)
    .skip
    (.exit 0))
  (.seq (.block 1 (.seq (.region false [
    ⟨some 10, .mov .own (.t 8), none⟩,
    ⟨some 5, .mov .own (.t 10), none⟩] [0, 1, 5, 7, 8])
  (.seq (.region false [
    ⟨some 11, .mov .cp (.t 1), none⟩,
    ⟨some 12, .mov .cp (.t 0), none⟩,
    ⟨some 13, .mov .cp (.t 5), none⟩,
    ⟨some 14, .ia 2 (.t 12) (.t 13), none⟩,
    ⟨some 15, .ld .cp (some 2) (.t 14), none⟩,
    ⟨some 16, .callv (.t 11) [(.t 15)], none⟩] [0, 1, 5, 7, 8, 16])
  (.cond (.t 16)
    (.seq (.region false [
      ⟨some 17, .mov .own (.t 5), none⟩,
      ⟨some 4, .mov .own (.t 17), none⟩] [4])
    .ret)
    .skip))))
  (.region false [
    ⟨some 18, .bin .add (.t 8) (.k (.c (.b (.d (.int .i64 1))))), none⟩,
    ⟨some 8, .mov .own (.t 18), none⟩] [0, 1, 7, 8])))))
def f117_l0 : ACode := .loop f117_b0
theorem u117_l0 {bd : Bd} {s : St} {β : Type} {k : AExit → St → Option β} {fns : Nat → Option AFun} : K fns bd f117_l0 s k = K fns bd f117_b0 s (fun e s' => match e with | .normal => K fns bd f117_l0 s' k | e => k e s') := K_loop
/-- slices.IndexFunc[[]delver/api.Type,delver/api.Type] -/
def f117 : AFun := ⟨2,
  (.seq (.region false [
    ⟨some 4, .mov .own (.k (.c (.b (.d (.int .i64 0))))), none⟩] [0, 1])
  (.seq (.seq (.region false [
    ⟨some 6, .mov .cp (.t 0), none⟩,
    ⟨some 7, .len 0 (.t 6), none⟩,
    ⟨some 8, .mov .own (.k (.c (.b (.d (.int .i64 0))))), none⟩] [0, 1, 7, 8])
  (.block 0 f117_l0))
  (.seq (.region false [
    ⟨some 4, .mov .own (.k (.c (.b (.d (.int .i64 (-1)))))), none⟩] [4])
  .ret))), [(.tmp 4)], .pure, false⟩
/-- slices.ContainsFunc[[]delver/api.Type,delver/api.Type] -/
def f107 : AFun := ⟨2,
  (.seq (.region false [
    ⟨some 4, .mov .own (.k (.c (.b (.d (.bool false))))), none⟩] [0, 1])
  (.seq (.region false [
    ⟨some 5, .mov .cp (.t 0), none⟩,
    ⟨some 6, .mov .cp (.t 1), none⟩,
    ⟨some 7, .call 117 [(.t 5), (.t 6)], none⟩,
    ⟨some 8, .bin .geq (.t 7) (.k (.c (.b (.d (.int .i64 0))))), none⟩,
    ⟨some 4, .mov .own (.t 8), none⟩] [4])
  .ret)), [(.tmp 4)], .pure, false⟩
/-- delver/show.each[delver/api.Type]$1 -/
def f108 : AFun := ⟨2,
  (.seq (.region false [
    ⟨some 2, .box (.t 0), none⟩,
    ⟨some 3, .mov .own (.k (.c (.b (.d (.bool false))))), none⟩] [1, 2])
  (.seq (.region false [
    ⟨some 4, .ld .cp none (.t 1), none⟩,
    ⟨some 5, .ld .cp (some 2) (.t 2), none⟩,
    ⟨some 6, .callv (.t 4) [(.t 5)], none⟩,
    ⟨some 7, .un .not (.t 6), none⟩,
    ⟨some 3, .mov .own (.t 7), none⟩] [3])
  .ret)), [(.tmp 3)], .pure, false⟩
/-- delver/show.each[delver/api.Type] -/
def f94 : AFun := ⟨3,
  (.seq (.region false [
    ⟨some 5, .box (.t 2), none⟩,
    ⟨some 6, .mov .own (.k (.c (.b (.d (.bool false))))), none⟩] [0, 1, 5])
  (.seq (.region false [
    ⟨some 7, .mov .cp (.t 0), none⟩,
    ⟨some 8, .len 0 (.t 7), none⟩,
    ⟨some 9, .mov .cp (.t 1), none⟩,
    ⟨some 10, .bin .leq (.t 8) (.t 9), none⟩,
    ⟨some 11, .mov .cp (.t 10), none⟩,
    ⟨some 12, .mov .cp (.t 0), (some (11, true))⟩,
    ⟨some 13, .mkf 108 [] [(.t 5)], (some (11, true))⟩,
    ⟨some 14, .call 107 [(.t 12), (.t 13)], (some (11, true))⟩,
    ⟨some 15, .un .not (.t 14), (some (11, true))⟩,
    ⟨some 16, .pick (.t 11) (.t 15) (.k (.c (.b (.d (.bool false))))), none⟩,
    ⟨some 6, .mov .own (.t 16), none⟩] [6])
  .ret)), [(.tmp 6)], .pure, false⟩
/-- delver/show.in -/
def f95 : AFun := ⟨3,
  (.seq (.region false [
    ⟨some 6, .mov .own (.k (.c (.b (.d (.bool false))))), none⟩] [0, 1, 2])
  (.seq (.region false [
    ⟨some 7, .mov .cp (.t 0), none⟩,
    ⟨some 8, .mov .cp (.t 1), none⟩,
    ⟨some 9, .bin .geq (.t 7) (.t 8), none⟩,
    ⟨some 10, .mov .cp (.t 9), none⟩,
    ⟨some 11, .mov .cp (.t 0), (some (10, true))⟩,
    ⟨some 12, .mov .cp (.t 2), (some (10, true))⟩,
    ⟨some 13, .bin .leq (.t 11) (.t 12), (some (10, true))⟩,
    ⟨some 14, .pick (.t 10) (.t 13) (.k (.c (.b (.d (.bool false))))), none⟩,
    ⟨some 6, .mov .own (.t 14), none⟩] [6])
  .ret)), [(.tmp 6)], .pure, false⟩
def f118_b0 : ACode := (.wrap true [0, 1, 7, 8] [4] [(0, [])]
  (.seq (.region false [
    ⟨some 9, .bin .lss (.t 8) (.t 7), none⟩] [0, 1, 7, 8, 9])
  (.seq (.cond (.t 9)
    .skip
    (.exit 0))
  (.seq (.block 1 (.seq (.region false [
    ⟨some 10, .mov .own (.t 8), none⟩,
    ⟨some 5, .mov .own (.t 10), none⟩] [0, 1, 5, 7, 8])
  (.seq (.region false [
    ⟨some 11, .mov .cp (.t 1), none⟩,
    ⟨some 12, .mov .cp (.t 0), none⟩,
    ⟨some 13, .mov .cp (.t 5), none⟩,
    ⟨some 14, .ia 4 (.t 12) (.t 13), none⟩,
    ⟨some 15, .ld .cp (some 4) (.t 14), none⟩,
    ⟨some 16, .callv (.t 11) [(.t 15)], none⟩] [0, 1, 5, 7, 8, 16])
  (.cond (.t 16)
    (.seq (.region false [
      ⟨some 17, .mov .own (.t 5), none⟩,
      ⟨some 4, .mov .own (.t 17), none⟩] [4])
    .ret)
    .skip))))
  (.region false [
    ⟨some 18, .bin .add (.t 8) (.k (.c (.b (.d (.int .i64 1))))), none⟩,
    ⟨some 8, .mov .own (.t 18), none⟩] [0, 1, 7, 8])))))
def f118_l0 : ACode := .loop f118_b0
theorem u118_l0 {bd : Bd} {s : St} {β : Type} {k : AExit → St → Option β} {fns : Nat → Option AFun} : K fns bd f118_l0 s k = K fns bd f118_b0 s (fun e s' => match e with | .normal => K fns bd f118_l0 s' k | e => k e s') := K_loop
/-- slices.IndexFunc[[]delver/api.Instr,delver/api.Instr] -/
def f118 : AFun := ⟨2,
  (.seq (.region false [
    ⟨some 4, .mov .own (.k (.c (.b (.d (.int .i64 0))))), none⟩] [0, 1])
  (.seq (.seq (.region false [
    ⟨some 6, .mov .cp (.t 0), none⟩,
    ⟨some 7, .len 0 (.t 6), none⟩,
    ⟨some 8, .mov .own (.k (.c (.b (.d (.int .i64 0))))), none⟩] [0, 1, 7, 8])
  (.block 0 f118_l0))
  (.seq (.region false [
    ⟨some 4, .mov .own (.k (.c (.b (.d (.int .i64 (-1)))))), none⟩] [4])
  .ret))), [(.tmp 4)], .pure, false⟩
/-- slices.ContainsFunc[[]delver/api.Instr,delver/api.Instr] -/
def f109 : AFun := ⟨2,
  (.seq (.region false [
    ⟨some 4, .mov .own (.k (.c (.b (.d (.bool false))))), none⟩] [0, 1])
  (.seq (.region false [
    ⟨some 5, .mov .cp (.t 0), none⟩,
    ⟨some 6, .mov .cp (.t 1), none⟩,
    ⟨some 7, .call 118 [(.t 5), (.t 6)], none⟩,
    ⟨some 8, .bin .geq (.t 7) (.k (.c (.b (.d (.int .i64 0))))), none⟩,
    ⟨some 4, .mov .own (.t 8), none⟩] [4])
  .ret)), [(.tmp 4)], .pure, false⟩
/-- delver/show.each[delver/api.Instr]$1 -/
def f110 : AFun := ⟨2,
  (.seq (.region false [
    ⟨some 2, .box (.t 0), none⟩,
    ⟨some 3, .mov .own (.k (.c (.b (.d (.bool false))))), none⟩] [1, 2])
  (.seq (.region false [
    ⟨some 4, .ld .cp none (.t 1), none⟩,
    ⟨some 5, .ld .cp (some 4) (.t 2), none⟩,
    ⟨some 6, .callv (.t 4) [(.t 5)], none⟩,
    ⟨some 7, .un .not (.t 6), none⟩,
    ⟨some 3, .mov .own (.t 7), none⟩] [3])
  .ret)), [(.tmp 3)], .pure, false⟩
/-- delver/show.each[delver/api.Instr] -/
def f96 : AFun := ⟨3,
  (.seq (.region false [
    ⟨some 5, .box (.t 2), none⟩,
    ⟨some 6, .mov .own (.k (.c (.b (.d (.bool false))))), none⟩] [0, 1, 5])
  (.seq (.region false [
    ⟨some 7, .mov .cp (.t 0), none⟩,
    ⟨some 8, .len 0 (.t 7), none⟩,
    ⟨some 9, .mov .cp (.t 1), none⟩,
    ⟨some 10, .bin .leq (.t 8) (.t 9), none⟩,
    ⟨some 11, .mov .cp (.t 10), none⟩,
    ⟨some 12, .mov .cp (.t 0), (some (11, true))⟩,
    ⟨some 13, .mkf 110 [] [(.t 5)], (some (11, true))⟩,
    ⟨some 14, .call 109 [(.t 12), (.t 13)], (some (11, true))⟩,
    ⟨some 15, .un .not (.t 14), (some (11, true))⟩,
    ⟨some 16, .pick (.t 11) (.t 15) (.k (.c (.b (.d (.bool false))))), none⟩,
    ⟨some 6, .mov .own (.t 16), none⟩] [6])
  .ret)), [(.tmp 6)], .pure, false⟩
/-- delver/parse.Jump -/
def f119 : AFun := ⟨1,
  (.seq (.region false [
    ⟨some 2, .mov .own (.k (.c (.b (.d (.bool false))))), none⟩] [0])
  (.seq (.region false [
    ⟨some 3, .mov .cp (.t 0), none⟩,
    ⟨some 4, .bin .geq (.t 3) (.k (.c (.b (.d (.int .i64 14))))), none⟩,
    ⟨some 5, .mov .cp (.t 4), none⟩,
    ⟨some 6, .mov .cp (.t 0), (some (5, true))⟩,
    ⟨some 7, .bin .leq (.t 6) (.k (.c (.b (.d (.int .i64 26))))), (some (5, true))⟩,
    ⟨some 8, .pick (.t 5) (.t 7) (.k (.c (.b (.d (.bool false))))), none⟩,
    ⟨some 2, .mov .own (.t 8), none⟩] [2])
  .ret)), [(.tmp 2)], .pure, false⟩
/-- delver/parse.Num -/
def f111 : AFun := ⟨1,
  (.seq (.region false [
    ⟨some 2, .mov .own (.k (.c (.b (.d (.int .i64 0))))), none⟩,
    ⟨some 3, .mov .own (.k (.c (.b (.d (.int .i64 0))))), none⟩,
    ⟨some 4, .mov .own (.k (.c (.b (.d (.bool false))))), none⟩] [0])
  (.seq (.block 0 (.seq (.region false [
    ⟨some 6, .mov .cp (.t 0), none⟩,
    ⟨some 7, .bin .eql (.t 6) (.k (.c (.b (.d (.int .i64 1))))), none⟩,
    ⟨some 5, .mov .cp (.t 7), none⟩] [0, 5])
  (.cond (.t 5)
    (.seq (.region false [
      ⟨some 2, .mov .own (.k (.c (.b (.d (.int .i64 (-2147483648)))))), none⟩,
      ⟨some 3, .mov .own (.k (.c (.b (.d (.int .i64 2147483647))))), none⟩,
      ⟨some 4, .mov .own (.k (.c (.b (.d (.bool true))))), none⟩] [2, 3, 4])
    .ret)
    (.seq (.region false [
      ⟨some 9, .mov .cp (.t 0), none⟩,
      ⟨some 10, .bin .eql (.t 9) (.k (.c (.b (.d (.int .i64 3))))), none⟩,
      ⟨some 11, .mov .cp (.t 10), none⟩,
      ⟨some 12, .mov .cp (.t 0), (some (11, false))⟩,
      ⟨some 13, .bin .eql (.t 12) (.k (.c (.b (.d (.int .i64 4))))), (some (11, false))⟩,
      ⟨some 14, .pick (.t 11) (.k (.c (.b (.d (.bool true))))) (.t 13), none⟩,
      ⟨some 8, .mov .cp (.t 14), none⟩] [0, 8])
    (.cond (.t 8)
      (.seq (.region false [
        ⟨some 2, .mov .own (.k (.c (.b (.d (.int .i64 0))))), none⟩,
        ⟨some 3, .mov .own (.k (.c (.b (.d (.int .i64 7))))), none⟩,
        ⟨some 4, .mov .own (.k (.c (.b (.d (.bool true))))), none⟩] [2, 3, 4])
      .ret)
      (.seq (.region false [
        ⟨some 16, .mov .cp (.t 0), none⟩,
        ⟨some 17, .callb 119 [(.t 16)], none⟩,
        ⟨some 15, .mov .cp (.t 17), none⟩] [15])
      (.cond (.t 15)
        (.seq (.region false [
          ⟨some 2, .mov .own (.k (.c (.b (.d (.int .i64 0))))), none⟩,
          ⟨some 3, .mov .own (.k (.c (.b (.d (.int .i64 47))))), none⟩,
          ⟨some 4, .mov .own (.k (.c (.b (.d (.bool true))))), none⟩] [2, 3, 4])
        .ret)
        .skip)))))))
  (.seq (.region false [
    ⟨some 2, .mov .own (.k (.c (.b (.d (.int .i64 0))))), none⟩,
    ⟨some 3, .mov .own (.k (.c (.b (.d (.int .i64 0))))), none⟩,
    ⟨some 4, .mov .own (.k (.c (.b (.d (.bool false))))), none⟩] [2, 3, 4])
  .ret))), [(.tmp 2), (.tmp 3), (.tmp 4)], .pure, false⟩
/-- delver/show.named -/
def f112 : AFun := ⟨2,
  (.seq (.region false [
    ⟨some 4, .mov .own (.k (.c (.b (.d (.bool false))))), none⟩] [0, 1])
  (.seq (.region false [
    ⟨some 5, .mov .cp (.t 1), none⟩,
    ⟨some 6, .mov .cp (.t 5), none⟩,
    ⟨some 7, .mov .cp (.t 0), (some (6, true))⟩,
    ⟨some 8, .callb 79 [(.t 7)], (some (6, true))⟩,
    ⟨some 9, .pick (.t 6) (.t 8) (.k (.c (.b (.d (.bool false))))), none⟩,
    ⟨some 10, .mov .cp (.t 9), none⟩,
    ⟨some 11, .mov .cp (.t 1), (some (10, false))⟩,
    ⟨some 12, .un .not (.t 11), (some (10, false))⟩,
    ⟨some 13, .mov .cp (.t 12), (some (10, false))⟩,
    ⟨some 14, .mov .cp (.t 0), (some (13, true))⟩,
    ⟨some 15, .bin .eql (.t 14) (.k (.c (.b (.d (.str ⟨#[]⟩))))), (some (13, true))⟩,
    ⟨some 16, .pick (.t 13) (.t 15) (.k (.c (.b (.d (.bool false))))), (some (10, false))⟩,
    ⟨some 17, .pick (.t 10) (.k (.c (.b (.d (.bool true))))) (.t 16), none⟩,
    ⟨some 4, .mov .own (.t 17), none⟩] [4])
  .ret)), [(.tmp 4)], .pure, false⟩
/-- delver/parse.Names -/
def f113 : AFun := ⟨1,
  (.seq (.region false [
    ⟨some 2, .mov .own (.k (.c (.b (.d (.int .i64 0))))), none⟩] [0])
  (.seq (.seq (.region false [
    ⟨some 3, .mov .cp (.t 0), none⟩] [3])
  (.block 0 (.seq (.seq (.region false [
    ⟨some 5, .bin .eql (.t 3) (.k (.c (.b (.d (.int .i64 27))))), none⟩,
    ⟨some 4, .mov .cp (.t 5), none⟩] [3, 4])
  (.cond (.t 4)
    .skip
    (.seq (.region false [
      ⟨some 6, .bin .eql (.t 3) (.k (.c (.b (.d (.int .i64 33))))), none⟩,
      ⟨some 4, .mov .cp (.t 6), none⟩] [3, 4])
    (.cond (.t 4)
      .skip
      (.seq (.region false [
        ⟨some 7, .bin .eql (.t 3) (.k (.c (.b (.d (.int .i64 37))))), none⟩,
        ⟨some 4, .mov .cp (.t 7), none⟩] [3, 4])
      (.cond (.t 4)
        .skip
        (.region false [
          ⟨some 8, .bin .eql (.t 3) (.k (.c (.b (.d (.int .i64 38))))), none⟩,
          ⟨some 4, .mov .cp (.t 8), none⟩] [3, 4])))))))
  (.cond (.t 4)
    (.seq (.region false [
      ⟨some 2, .mov .own (.k (.c (.b (.d (.int .i64 1))))), none⟩] [2])
    .ret)
    (.seq (.seq (.region false [
      ⟨some 10, .bin .eql (.t 3) (.k (.c (.b (.d (.int .i64 28))))), none⟩,
      ⟨some 9, .mov .cp (.t 10), none⟩] [3, 9])
    (.cond (.t 9)
      .skip
      (.seq (.region false [
        ⟨some 11, .bin .eql (.t 3) (.k (.c (.b (.d (.int .i64 29))))), none⟩,
        ⟨some 9, .mov .cp (.t 11), none⟩] [3, 9])
      (.cond (.t 9)
        .skip
        (.seq (.region false [
          ⟨some 12, .bin .eql (.t 3) (.k (.c (.b (.d (.int .i64 30))))), none⟩,
          ⟨some 9, .mov .cp (.t 12), none⟩] [3, 9])
        (.cond (.t 9)
          .skip
          (.seq (.region false [
            ⟨some 13, .bin .eql (.t 3) (.k (.c (.b (.d (.int .i64 31))))), none⟩,
            ⟨some 9, .mov .cp (.t 13), none⟩] [3, 9])
          (.cond (.t 9)
            .skip
            (.seq (.region false [
              ⟨some 14, .bin .eql (.t 3) (.k (.c (.b (.d (.int .i64 39))))), none⟩,
              ⟨some 9, .mov .cp (.t 14), none⟩] [3, 9])
            (.cond (.t 9)
              .skip
              (.region false [
                ⟨some 15, .bin .eql (.t 3) (.k (.c (.b (.d (.int .i64 40))))), none⟩,
                ⟨some 9, .mov .cp (.t 15), none⟩] [9])))))))))))
    (.cond (.t 9)
      (.seq (.region false [
        ⟨some 2, .mov .own (.k (.c (.b (.d (.int .i64 2))))), none⟩] [2])
      .ret)
      .skip))))))
  (.seq (.region false [
    ⟨some 2, .mov .own (.k (.c (.b (.d (.int .i64 0))))), none⟩] [2])
  .ret))), [(.tmp 2)], .pure, false⟩
/-- delver/show.instr -/
def f97 : AFun := ⟨1,
  (.seq (.region false [
    ⟨some 1, .box (.t 0), none⟩,
    ⟨some 2, .mov .own (.k (.c (.b (.d (.bool false))))), none⟩] [1])
  (.seq (.region false [
    ⟨some 7, .fa 0 (.t 1), none⟩,
    ⟨some 8, .ld .cp none (.t 7), none⟩,
    ⟨some 9, .callb 111 [(.t 8)], none⟩,
    ⟨some 6, .mov .own (.t 9), none⟩,
    ⟨some 10, .ext 0 (.t 6), none⟩,
    ⟨some 11, .ext 1 (.t 6), none⟩,
    ⟨some 12, .ext 2 (.t 6), none⟩,
    ⟨some 3, .mov .cp (.t 10), none⟩,
    ⟨some 4, .mov .cp (.t 11), none⟩,
    ⟨some 5, .mov .cp (.t 12), none⟩] [1, 3, 4])
  (.seq (.region true [
    ⟨some 13, .fa 0 (.t 1), none⟩,
    ⟨some 14, .ld .cp none (.t 13), none⟩,
    ⟨some 15, .callb 95 [(.t 14), (.k (.c (.b (.d (.int .i64 0))))), (.k (.c (.b (.d (.int .i64 43)))))], none⟩,
    ⟨some 16, .mov .cp (.t 15), none⟩,
    ⟨some 17, .fa 1 (.t 1), (some (16, true))⟩,
    ⟨some 18, .ld .cp none (.t 17), (some (16, true))⟩,
    ⟨some 19, .mov .cp (.t 3), (some (16, true))⟩,
    ⟨some 20, .mov .cp (.t 4), (some (16, true))⟩,
    ⟨some 21, .callb 95 [(.t 18), (.t 19), (.t 20)], (some (16, true))⟩,
    ⟨some 22, .pick (.t 16) (.t 21) (.k (.c (.b (.d (.bool false))))), none⟩,
    ⟨some 23, .mov .cp (.t 22), none⟩,
    ⟨some 24, .fa 2 (.t 1), (some (23, true))⟩,
    ⟨some 25, .ld .cp none (.t 24), (some (23, true))⟩,
    ⟨some 26, .fa 0 (.t 1), (some (23, true))⟩,
    ⟨some 27, .ld .cp none (.t 26), (some (23, true))⟩,
    ⟨some 28, .callb 113 [(.t 27)], (some (23, true))⟩,
    ⟨some 29, .bin .gtr (.t 28) (.k (.c (.b (.d (.int .i64 0))))), (some (23, true))⟩,
    ⟨some 30, .callb 112 [(.t 25), (.t 29)], (some (23, true))⟩,
    ⟨some 31, .pick (.t 23) (.t 30) (.k (.c (.b (.d (.bool false))))), none⟩,
    ⟨some 32, .mov .cp (.t 31), none⟩,
    ⟨some 33, .fa 3 (.t 1), (some (32, true))⟩,
    ⟨some 34, .ld .cp none (.t 33), (some (32, true))⟩,
    ⟨some 35, .fa 0 (.t 1), (some (32, true))⟩,
    ⟨some 36, .ld .cp none (.t 35), (some (32, true))⟩,
    ⟨some 37, .callb 113 [(.t 36)], (some (32, true))⟩,
    ⟨some 38, .bin .gtr (.t 37) (.k (.c (.b (.d (.int .i64 1))))), (some (32, true))⟩,
    ⟨some 39, .callb 112 [(.t 34), (.t 38)], (some (32, true))⟩,
    ⟨some 40, .pick (.t 32) (.t 39) (.k (.c (.b (.d (.bool false))))), none⟩,
    ⟨some 2, .mov .own (.t 40), none⟩] [2])
  .ret))), [(.tmp 2)], .pure, false⟩
def f120_b0 : ACode := (.wrap true [0, 1, 7, 8] [4] [(0, [])]
  (.seq (.region false [
    ⟨some 9, .bin .lss (.t 8) (.t 7), none⟩] [0, 1, 7, 8, 9])
  (.seq (.cond (.t 9)
    .skip
    (.exit 0))
  (.seq (.block 1 (.seq (.region false [
    ⟨some 10, .mov .own (.t 8), none⟩,
    ⟨some 5, .mov .own (.t 10), none⟩] [0, 1, 5, 7, 8])
  (.seq (.region false [
    ⟨some 11, .mov .cp (.t 1), none⟩,
    ⟨some 12, .mov .cp (.t 0), none⟩,
    ⟨some 13, .mov .cp (.t 5), none⟩,
    ⟨some 14, .ia 4 (.t 12) (.t 13), none⟩,
    ⟨some 15, .ld .cp (some 4) (.t 14), none⟩,
    ⟨some 16, .callv (.t 11) [(.t 15)], none⟩] [0, 1, 5, 7, 8, 16])
  (.cond (.t 16)
    (.seq (.region false [
      ⟨some 17, .mov .own (.t 5), none⟩,
      ⟨some 4, .mov .own (.t 17), none⟩] [4])
    .ret)
    .skip))))
  (.region false [
    ⟨some 18, .bin .add (.t 8) (.k (.c (.b (.d (.int .i64 1))))), none⟩,
    ⟨some 8, .mov .own (.t 18), none⟩] [0, 1, 7, 8])))))
def f120_l0 : ACode := .loop f120_b0
theorem u120_l0 {bd : Bd} {s : St} {β : Type} {k : AExit → St → Option β} {fns : Nat → Option AFun} : K fns bd f120_l0 s k = K fns bd f120_b0 s (fun e s' => match e with | .normal => K fns bd f120_l0 s' k | e => k e s') := K_loop
/-- slices.IndexFunc[[]delver/api.Catch,delver/api.Catch] -/
def f120 : AFun := ⟨2,
  (.seq (.region false [
    ⟨some 4, .mov .own (.k (.c (.b (.d (.int .i64 0))))), none⟩] [0, 1])
  (.seq (.seq (.region false [
    ⟨some 6, .mov .cp (.t 0), none⟩,
    ⟨some 7, .len 0 (.t 6), none⟩,
    ⟨some 8, .mov .own (.k (.c (.b (.d (.int .i64 0))))), none⟩] [0, 1, 7, 8])
  (.block 0 f120_l0))
  (.seq (.region false [
    ⟨some 4, .mov .own (.k (.c (.b (.d (.int .i64 (-1)))))), none⟩] [4])
  .ret))), [(.tmp 4)], .pure, false⟩
/-- slices.ContainsFunc[[]delver/api.Catch,delver/api.Catch] -/
def f114 : AFun := ⟨2,
  (.seq (.region false [
    ⟨some 4, .mov .own (.k (.c (.b (.d (.bool false))))), none⟩] [0, 1])
  (.seq (.region false [
    ⟨some 5, .mov .cp (.t 0), none⟩,
    ⟨some 6, .mov .cp (.t 1), none⟩,
    ⟨some 7, .call 120 [(.t 5), (.t 6)], none⟩,
    ⟨some 8, .bin .geq (.t 7) (.k (.c (.b (.d (.int .i64 0))))), none⟩,
    ⟨some 4, .mov .own (.t 8), none⟩] [4])
  .ret)), [(.tmp 4)], .pure, false⟩
/-- delver/show.each[delver/api.Catch]$1 -/
def f115 : AFun := ⟨2,
  (.seq (.region false [
    ⟨some 2, .box (.t 0), none⟩,
    ⟨some 3, .mov .own (.k (.c (.b (.d (.bool false))))), none⟩] [1, 2])
  (.seq (.region false [
    ⟨some 4, .ld .cp none (.t 1), none⟩,
    ⟨some 5, .ld .cp (some 4) (.t 2), none⟩,
    ⟨some 6, .callv (.t 4) [(.t 5)], none⟩,
    ⟨some 7, .un .not (.t 6), none⟩,
    ⟨some 3, .mov .own (.t 7), none⟩] [3])
  .ret)), [(.tmp 3)], .pure, false⟩
/-- delver/show.each[delver/api.Catch] -/
def f98 : AFun := ⟨3,
  (.seq (.region false [
    ⟨some 5, .box (.t 2), none⟩,
    ⟨some 6, .mov .own (.k (.c (.b (.d (.bool false))))), none⟩] [0, 1, 5])
  (.seq (.region false [
    ⟨some 7, .mov .cp (.t 0), none⟩,
    ⟨some 8, .len 0 (.t 7), none⟩,
    ⟨some 9, .mov .cp (.t 1), none⟩,
    ⟨some 10, .bin .leq (.t 8) (.t 9), none⟩,
    ⟨some 11, .mov .cp (.t 10), none⟩,
    ⟨some 12, .mov .cp (.t 0), (some (11, true))⟩,
    ⟨some 13, .mkf 115 [] [(.t 5)], (some (11, true))⟩,
    ⟨some 14, .call 114 [(.t 12), (.t 13)], (some (11, true))⟩,
    ⟨some 15, .un .not (.t 14), (some (11, true))⟩,
    ⟨some 16, .pick (.t 11) (.t 15) (.k (.c (.b (.d (.bool false))))), none⟩,
    ⟨some 6, .mov .own (.t 16), none⟩] [6])
  .ret)), [(.tmp 6)], .pure, false⟩
/-- delver/show.catch -/
def f99 : AFun := ⟨1,
  (.seq (.region false [
    ⟨some 1, .box (.t 0), none⟩,
    ⟨some 2, .mov .own (.k (.c (.b (.d (.bool false))))), none⟩] [1])
  (.seq (.region false [
    ⟨some 3, .fa 0 (.t 1), none⟩,
    ⟨some 4, .ld .cp none (.t 3), none⟩,
    ⟨some 5, .callb 79 [(.t 4)], none⟩,
    ⟨some 6, .mov .cp (.t 5), none⟩,
    ⟨some 7, .fa 1 (.t 1), (some (6, true))⟩,
    ⟨some 8, .ld .cp none (.t 7), (some (6, true))⟩,
    ⟨some 9, .callb 95 [(.t 8), (.k (.c (.b (.d (.int .i64 0))))), (.k (.c (.b (.d (.int .i64 48)))))], (some (6, true))⟩,
    ⟨some 10, .pick (.t 6) (.t 9) (.k (.c (.b (.d (.bool false))))), none⟩,
    ⟨some 11, .mov .cp (.t 10), none⟩,
    ⟨some 12, .fa 2 (.t 1), (some (11, true))⟩,
    ⟨some 13, .ld .cp none (.t 12), (some (11, true))⟩,
    ⟨some 14, .callb 95 [(.t 13), (.k (.c (.b (.d (.int .i64 0))))), (.k (.c (.b (.d (.int .i64 48)))))], (some (11, true))⟩,
    ⟨some 15, .pick (.t 11) (.t 14) (.k (.c (.b (.d (.bool false))))), none⟩,
    ⟨some 16, .mov .cp (.t 15), none⟩,
    ⟨some 17, .fa 3 (.t 1), (some (16, true))⟩,
    ⟨some 18, .ld .cp none (.t 17), (some (16, true))⟩,
    ⟨some 19, .callb 95 [(.t 18), (.k (.c (.b (.d (.int .i64 0))))), (.k (.c (.b (.d (.int .i64 48)))))], (some (16, true))⟩,
    ⟨some 20, .pick (.t 16) (.t 19) (.k (.c (.b (.d (.bool false))))), none⟩,
    ⟨some 2, .mov .own (.t 20), none⟩] [2])
  .ret)), [(.tmp 2)], .pure, false⟩
/-- delver/show.method -/
def f84 : AFun := ⟨1,
  (.seq (.region false [
    ⟨some 1, .box (.t 0), none⟩,
    ⟨some 2, .mov .own (.k (.c (.b (.d (.bool false))))), none⟩] [1])
  (.seq (.seq (.region false [
    ⟨some 3, .fa 2 (.t 1), none⟩,
    ⟨some 4, .ld .cp none (.t 3), none⟩,
    ⟨some 5, .mov .cp (.t 4), none⟩,
    ⟨some 6, .fa 6 (.t 1), (some (5, true))⟩,
    ⟨some 7, .ld .cp none (.t 6), (some (5, true))⟩,
    ⟨some 8, .bin .neq (.t 7) (.k (.c (.b (.d (.int .i64 0))))), (some (5, true))⟩,
    ⟨some 9, .mov .cp (.t 8), (some (5, true))⟩,
    ⟨some 10, .fa 7 (.t 1), (some (9, false))⟩,
    ⟨some 11, .ld .cp none (.t 10), (some (9, false))⟩,
    ⟨some 12, .len 0 (.t 11), (some (9, false))⟩,
    ⟨some 13, .fa 8 (.t 1), (some (9, false))⟩,
    ⟨some 14, .ld .cp none (.t 13), (some (9, false))⟩,
    ⟨some 15, .len 0 (.t 14), (some (9, false))⟩,
    ⟨some 16, .bin .add (.t 12) (.t 15), (some (9, false))⟩,
    ⟨some 17, .bin .gtr (.t 16) (.k (.c (.b (.d (.int .i64 0))))), (some (9, false))⟩,
    ⟨some 18, .pick (.t 9) (.k (.c (.b (.d (.bool true))))) (.t 17), (some (5, true))⟩,
    ⟨some 19, .pick (.t 5) (.t 18) (.k (.c (.b (.d (.bool false))))), none⟩] [1, 19])
  (.cond (.t 19)
    (.seq (.region false [
      ⟨some 2, .mov .own (.k (.c (.b (.d (.bool false))))), none⟩] [2])
    .ret)
    .skip))
  (.seq (.region false [
    ⟨some 20, .fa 0 (.t 1), none⟩,
    ⟨some 21, .ld .cp none (.t 20), none⟩,
    ⟨some 22, .callb 79 [(.t 21)], none⟩,
    ⟨some 23, .mov .cp (.t 22), none⟩,
    ⟨some 24, .fa 3 (.t 1), (some (23, true))⟩,
    ⟨some 25, .ld .cp none (.t 24), (some (23, true))⟩,
    ⟨some 26, .call 94 [(.t 25), (.k (.c (.b (.d (.int .i64 4))))), (.k (.c (.fn 91 [] [])))], (some (23, true))⟩,
    ⟨some 27, .pick (.t 23) (.t 26) (.k (.c (.b (.d (.bool false))))), none⟩,
    ⟨some 28, .mov .cp (.t 27), none⟩,
    ⟨some 29, .fa 4 (.t 1), (some (28, true))⟩,
    ⟨some 30, .ld .cp (some 2) (.t 29), (some (28, true))⟩,
    ⟨some 31, .callb 91 [(.t 30)], (some (28, true))⟩,
    ⟨some 32, .pick (.t 28) (.t 31) (.k (.c (.b (.d (.bool false))))), none⟩,
    ⟨some 33, .mov .cp (.t 32), none⟩,
    ⟨some 34, .fa 6 (.t 1), (some (33, true))⟩,
    ⟨some 35, .ld .cp none (.t 34), (some (33, true))⟩,
    ⟨some 36, .callb 95 [(.t 35), (.k (.c (.b (.d (.int .i64 0))))), (.k (.c (.b (.d (.int .i64 8)))))], (some (33, true))⟩,
    ⟨some 37, .pick (.t 33) (.t 36) (.k (.c (.b (.d (.bool false))))), none⟩,
    ⟨some 38, .mov .cp (.t 37), none⟩,
    ⟨some 39, .fa 7 (.t 1), (some (38, true))⟩,
    ⟨some 40, .ld .cp none (.t 39), (some (38, true))⟩,
    ⟨some 41, .call 96 [(.t 40), (.k (.c (.b (.d (.int .i64 48))))), (.k (.c (.fn 97 [] [])))], (some (38, true))⟩,
    ⟨some 42, .pick (.t 38) (.t 41) (.k (.c (.b (.d (.bool false))))), none⟩,
    ⟨some 43, .mov .cp (.t 42), none⟩,
    ⟨some 44, .fa 8 (.t 1), (some (43, true))⟩,
    ⟨some 45, .ld .cp none (.t 44), (some (43, true))⟩,
    ⟨some 46, .call 98 [(.t 45), (.k (.c (.b (.d (.int .i64 4))))), (.k (.c (.fn 99 [] [])))], (some (43, true))⟩,
    ⟨some 47, .pick (.t 43) (.t 46) (.k (.c (.b (.d (.bool false))))), none⟩,
    ⟨some 2, .mov .own (.t 47), none⟩] [2])
  .ret))), [(.tmp 2)], .pure, false⟩
end Go.Proofs.YthahhonmkhafkaaGreatDoor.Am
