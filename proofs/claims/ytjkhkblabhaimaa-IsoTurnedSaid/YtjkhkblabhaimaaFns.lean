/- The abstract code of the functions, each checked against the loaded program. Printed by wip/tools/gen.py. -/
import Derived.Test.YtjkhkblabhaimaaMachF
import Derived.Test.YtjkhkblabhaimaaProg
import Derived.KernelRfl
namespace Go.Proofs.Ytjkhkblabhaimaa.Am
open Go
set_option maxRecDepth 100000
def f9_b0 : ACode := (.wrap true [1, 3] [2] [(0, [])]
  (.seq (.seq (.region false [
    ⟨some 14, .mov .cp (.t 3), none⟩,
    ⟨some 15, .fa 1 (.t 1), none⟩,
    ⟨some 16, .ld .cp none (.t 15), none⟩,
    ⟨some 17, .len 0 (.t 16), none⟩,
    ⟨some 18, .bin .lss (.t 14) (.t 17), none⟩] [1, 3, 18])
  (.cond (.t 18)
    .skip
    (.exit 0)))
  (.seq (.block 1 (.seq (.region false [
    ⟨some 21, .fa 1 (.t 1), none⟩,
    ⟨some 22, .ld .cp none (.t 21), none⟩,
    ⟨some 23, .mov .cp (.t 3), none⟩,
    ⟨some 24, .ia 3 (.t 22) (.t 23), none⟩,
    ⟨some 25, .fa 2 (.t 24), none⟩,
    ⟨some 26, .ld .cp none (.t 25), none⟩,
    ⟨some 27, .len 0 (.t 26), none⟩,
    ⟨some 28, .bin .gtr (.t 27) (.k (.c (.b (.d (.int .i64 80))))), none⟩,
    ⟨some 29, .mov .cp (.t 28), none⟩,
    ⟨some 30, .fa 1 (.t 1), (some (29, false))⟩,
    ⟨some 31, .ld .cp none (.t 30), (some (29, false))⟩,
    ⟨some 32, .mov .cp (.t 3), (some (29, false))⟩,
    ⟨some 33, .ia 3 (.t 31) (.t 32), (some (29, false))⟩,
    ⟨some 34, .fa 0 (.t 33), (some (29, false))⟩,
    ⟨some 35, .fa 1 (.t 34), (some (29, false))⟩,
    ⟨some 36, .ld .cp none (.t 35), (some (29, false))⟩,
    ⟨some 37, .len 1 (.t 36), (some (29, false))⟩,
    ⟨some 38, .bin .gtr (.t 37) (.k (.c (.b (.d (.int .i64 60))))), (some (29, false))⟩,
    ⟨some 39, .pick (.t 29) (.k (.c (.b (.d (.bool true))))) (.t 38), none⟩] [1, 3, 39])
  (.cond (.t 39)
    (.seq (.region false [
      ⟨some 2, .mov .own (.k (.c (.b (.d (.bool true))))), none⟩] [2])
    .ret)
    .skip)))
  (.region false [
    ⟨some 19, .mov .cp (.t 3), none⟩,
    ⟨some 20, .bin .add (.t 19) (.k (.c (.b (.d (.int .i64 1))))), none⟩,
    ⟨some 3, .mov .cp (.t 20), none⟩] [1, 3]))))
def f9_l0 : ACode := .loop f9_b0
theorem u9_l0 {bd : Bd} {s : St} {β : Type} {k : AExit → St → Option β} {fns : Nat → Option AFun} : K fns bd f9_l0 s k = K fns bd f9_b0 s (fun e s' => match e with | .normal => K fns bd f9_l0 s' k | e => k e s') := K_loop
/-- delver/delverlaw09.Heavy -/
def f9 : AFun := ⟨1,
  (.seq (.region false [
    ⟨some 1, .box (.t 0), none⟩,
    ⟨some 2, .mov .own (.k (.c (.b (.d (.bool false))))), none⟩] [1])
  (.seq (.seq (.region false [
    ⟨some 4, .fa 0 (.t 1), none⟩,
    ⟨some 5, .ld .cp none (.t 4), none⟩,
    ⟨some 6, .len 0 (.t 5), none⟩,
    ⟨some 7, .bin .gtr (.t 6) (.k (.c (.b (.d (.int .i64 20))))), none⟩,
    ⟨some 8, .mov .cp (.t 7), none⟩,
    ⟨some 9, .fa 1 (.t 1), (some (8, false))⟩,
    ⟨some 10, .ld .cp none (.t 9), (some (8, false))⟩,
    ⟨some 11, .len 0 (.t 10), (some (8, false))⟩,
    ⟨some 12, .bin .gtr (.t 11) (.k (.c (.b (.d (.int .i64 20))))), (some (8, false))⟩,
    ⟨some 13, .pick (.t 8) (.k (.c (.b (.d (.bool true))))) (.t 12), none⟩] [1, 13])
  (.cond (.t 13)
    (.seq (.region false [
      ⟨some 2, .mov .own (.k (.c (.b (.d (.bool true))))), none⟩] [2])
    .ret)
    .skip))
  (.seq (.seq (.region false [
    ⟨some 3, .mov .cp (.k (.c (.b (.d (.int .i64 0))))), none⟩] [1, 3])
  (.block 0 f9_l0))
  (.seq (.region false [
    ⟨some 2, .mov .own (.k (.c (.b (.d (.bool false))))), none⟩] [2])
  .ret)))), [(.tmp 2)], .pure, false⟩
/-- delver/delverkeep.TwinVals -/
def f25 : AFun := ⟨1,
  (.seq (.region false [
    ⟨some 2, .mov .own (.k (.c (.osl 2 []))), none⟩] [0])
  (.seq (.region false [
    ⟨some 3, .mov .own (.k (.c (.osl 2 []))), none⟩] [0, 3])
  (.seq (.region false [
    ⟨some 4, .mov .own (.t 3), none⟩,
    ⟨some 5, .mov .cp (.t 0), none⟩,
    ⟨some 6, .app 2 16 (.t 4) (.t 5), none⟩,
    ⟨some 2, .mov .own (.t 6), none⟩] [2])
  .ret))), [(.tmp 2)], .pure, false⟩
/-- delver/delverkeep.TwinVals -/
def f25v1 : AFun := ⟨1,
  (.seq (.region false [
    ⟨some 2, .mov .cp (.k (.c (.b .nils))), none⟩] [0])
  (.seq (.region false [
    ⟨some 3, .mov .cp (.k (.c (.b .nils))), none⟩] [0, 3])
  (.seq (.region false [
    ⟨some 4, .mov .cp (.t 3), none⟩,
    ⟨some 5, .mov .cp (.t 0), none⟩,
    ⟨some 6, .appa 2 16 (.t 4) (.t 5), none⟩,
    ⟨some 2, .mov .cp (.t 6), none⟩] [2])
  .ret))), [(.tmp 2)], .free, false⟩
def f26_b0 : ACode := (.wrap true [0, 3, 4] [2] [(0, [3])]
  (.seq (.seq (.region false [
    ⟨some 5, .mov .cp (.t 4), none⟩,
    ⟨some 6, .mov .cp (.t 0), none⟩,
    ⟨some 7, .len 0 (.t 6), none⟩,
    ⟨some 8, .bin .lss (.t 5) (.t 7), none⟩] [0, 3, 4, 8])
  (.cond (.t 8)
    .skip
    (.exit 0)))
  (.seq (.block 1 (.region true [
    ⟨some 11, .mov .own (.t 3), none⟩,
    ⟨some 12, .mov .cp (.t 0), none⟩,
    ⟨some 13, .mov .cp (.t 4), none⟩,
    ⟨some 14, .ia 3 (.t 12) (.t 13), none⟩,
    ⟨some 15, .fa 0 (.t 14), none⟩,
    ⟨some 16, .ld .cp (some 2) (.t 15), none⟩,
    ⟨some 17, .mov .cp (.t 0), none⟩,
    ⟨some 18, .mov .cp (.t 4), none⟩,
    ⟨some 19, .ia 3 (.t 17) (.t 18), none⟩,
    ⟨some 20, .fa 2 (.t 19), none⟩,
    ⟨some 21, .ld .cp none (.t 20), none⟩,
    ⟨some 22, .callb 25 [(.t 21)], none⟩,
    ⟨some 23, .build [(.b (.d (.int .i64 0))), (.b (.d (.str ⟨#[]⟩))), (.osl 2 [])] [(0, 2, (.t 16)), (2, 1, (.t 22))], none⟩,
    ⟨some 24, .bsl .own 3 1 [(.b (.d (.int .i64 0))), (.b (.d (.str ⟨#[]⟩))), (.osl 2 [])] [(0, (.t 23))], none⟩,
    ⟨some 25, .app 3 48 (.t 11) (.t 24), none⟩,
    ⟨some 3, .mov .own (.t 25), none⟩] [0, 3, 4]))
  (.region false [
    ⟨some 9, .mov .cp (.t 4), none⟩,
    ⟨some 10, .bin .add (.t 9) (.k (.c (.b (.d (.int .i64 1))))), none⟩,
    ⟨some 4, .mov .cp (.t 10), none⟩] [0, 3, 4]))))
def f26_l0 : ACode := .loop f26_b0
theorem u26_l0 {bd : Bd} {s : St} {β : Type} {k : AExit → St → Option β} {fns : Nat → Option AFun} : K fns bd f26_l0 s k = K fns bd f26_b0 s (fun e s' => match e with | .normal => K fns bd f26_l0 s' k | e => k e s') := K_loop
/-- delver/delverkeep.TwinHeap -/
def f26 : AFun := ⟨1,
  (.seq (.region false [
    ⟨some 2, .mov .own (.k (.c (.osl 3 []))), none⟩] [0])
  (.seq (.region false [
    ⟨some 3, .mov .own (.k (.c (.osl 3 []))), none⟩] [0, 3])
  (.seq (.seq (.region false [
    ⟨some 4, .mov .cp (.k (.c (.b (.d (.int .i64 0))))), none⟩] [0, 3, 4])
  (.block 0 f26_l0))
  (.seq (.region false [
    ⟨some 26, .mov .own (.t 3), none⟩,
    ⟨some 2, .mov .own (.t 26), none⟩] [2])
  .ret)))), [(.tmp 2)], .pure, false⟩
def f26v1_b0 : ACode := (.wrap false [0, 3, 4] [2] [(0, [3])]
  (.seq (.seq (.region false [
    ⟨some 5, .mov .cp (.t 4), none⟩,
    ⟨some 6, .mov .cp (.t 0), none⟩,
    ⟨some 7, .len 0 (.t 6), none⟩,
    ⟨some 8, .bin .lss (.t 5) (.t 7), none⟩] [0, 3, 4, 8])
  (.cond (.t 8)
    .skip
    (.exit 0)))
  (.seq (.block 1 (.region true [
    ⟨some 11, .mov .cp (.t 3), none⟩,
    ⟨some 12, .mov .cp (.t 0), none⟩,
    ⟨some 13, .mov .cp (.t 4), none⟩,
    ⟨some 14, .ia 3 (.t 12) (.t 13), none⟩,
    ⟨some 15, .fa 0 (.t 14), none⟩,
    ⟨some 16, .ld .cp (some 2) (.t 15), none⟩,
    ⟨some 17, .mov .cp (.t 0), none⟩,
    ⟨some 18, .mov .cp (.t 4), none⟩,
    ⟨some 19, .ia 3 (.t 17) (.t 18), none⟩,
    ⟨some 20, .fa 2 (.t 19), none⟩,
    ⟨some 21, .ld .cp none (.t 20), none⟩,
    ⟨some 22, .callb 25 [(.t 21)], none⟩,
    ⟨some 23, .build [(.b (.d (.int .i64 0))), (.b (.d (.str ⟨#[]⟩))), (.osl 2 [])] [(0, 2, (.t 16)), (2, 1, (.t 22))], none⟩,
    ⟨some 24, .bsl .own 3 1 [(.b (.d (.int .i64 0))), (.b (.d (.str ⟨#[]⟩))), (.osl 2 [])] [(0, (.t 23))], none⟩,
    ⟨some 25, .appa 3 48 (.t 11) (.t 24), none⟩,
    ⟨some 3, .mov .cp (.t 25), none⟩] [0, 3, 4]))
  (.region false [
    ⟨some 9, .mov .cp (.t 4), none⟩,
    ⟨some 10, .bin .add (.t 9) (.k (.c (.b (.d (.int .i64 1))))), none⟩,
    ⟨some 4, .mov .cp (.t 10), none⟩] [0, 3, 4]))))
def f26v1_l0 : ACode := .loop f26v1_b0
theorem u26v1_l0 {bd : Bd} {s : St} {β : Type} {k : AExit → St → Option β} {fns : Nat → Option AFun} : K fns bd f26v1_l0 s k = K fns bd f26v1_b0 s (fun e s' => match e with | .normal => K fns bd f26v1_l0 s' k | e => k e s') := K_loop
/-- delver/delverkeep.TwinHeap -/
def f26v1 : AFun := ⟨1,
  (.seq (.region false [
    ⟨some 2, .mov .cp (.k (.c (.b .nils))), none⟩] [0])
  (.seq (.region false [
    ⟨some 3, .mov .cp (.k (.c (.b .nils))), none⟩] [0, 3])
  (.seq (.seq (.region false [
    ⟨some 4, .mov .cp (.k (.c (.b (.d (.int .i64 0))))), none⟩] [0, 3, 4])
  (.block 0 f26v1_l0))
  (.seq (.region false [
    ⟨some 26, .mov .cp (.t 3), none⟩,
    ⟨some 2, .mov .cp (.t 26), none⟩] [2])
  .ret)))), [(.tmp 2)], .free, false⟩
/-- delver/delverkeep.TwinInput -/
def f10 : AFun := ⟨1,
  (.seq (.region false [
    ⟨some 1, .box (.t 0), none⟩,
    ⟨some 2, .alloc [(.osl 2 []), (.osl 3 [])], none⟩] [1, 2])
  (.seq (.region true [
    ⟨some 3, .fa 0 (.t 1), none⟩,
    ⟨some 4, .ld .cp none (.t 3), none⟩,
    ⟨some 5, .callb 25 [(.t 4)], none⟩,
    ⟨some 6, .fa 1 (.t 1), none⟩,
    ⟨some 7, .ld .cp none (.t 6), none⟩,
    ⟨some 8, .callb 26 [(.t 7)], none⟩,
    ⟨some 9, .build [(.osl 2 []), (.osl 3 [])] [(0, 1, (.t 5)), (1, 1, (.t 8))], none⟩,
    ⟨none, .st 2 (.t 2) (.t 9), none⟩] [2])
  .ret)), [(.cell 2 (some 2))], .pure, false⟩
/-- delver/delverkeep.TwinInput -/
def f10v1 : AFun := ⟨1,
  (.seq (.region false [
    ⟨some 1, .box (.t 0), none⟩,
    ⟨some 2, .alloc [(.osl 2 []), (.osl 3 [])], none⟩] [1, 2])
  (.seq (.region true [
    ⟨some 3, .fa 0 (.t 1), none⟩,
    ⟨some 4, .ld .cp none (.t 3), none⟩,
    ⟨some 5, .callb 25 [(.t 4)], none⟩,
    ⟨some 6, .fa 1 (.t 1), none⟩,
    ⟨some 7, .ld .cp none (.t 6), none⟩,
    ⟨some 8, .call 4122 [(.t 7)], none⟩,
    ⟨some 9, .build [(.osl 2 []), (.osl 3 [])] [(0, 1, (.t 5)), (1, 1, (.t 8))], none⟩,
    ⟨none, .st 2 (.t 2) (.t 9), none⟩] [2])
  .ret)), [(.cell 2 (some 2))], .free, false⟩
/-- math/bits.Mul32 -/
def f38 : AFun := ⟨2,
  (.seq (.region false [
    ⟨some 4, .mov .own (.k (.c (.b (.d (.int .u32 0))))), none⟩,
    ⟨some 5, .mov .own (.k (.c (.b (.d (.int .u32 0))))), none⟩] [0, 1])
  (.seq (.region false [
    ⟨some 7, .mov .cp (.t 0), none⟩,
    ⟨some 8, .conv .u64 (.t 7), none⟩,
    ⟨some 9, .mov .cp (.t 1), none⟩,
    ⟨some 10, .conv .u64 (.t 9), none⟩,
    ⟨some 11, .bin .mul (.t 8) (.t 10), none⟩,
    ⟨some 6, .mov .cp (.t 11), none⟩] [6])
  (.seq (.region false [
    ⟨some 12, .mov .cp (.t 6), none⟩,
    ⟨some 13, .bin .shr (.t 12) (.k (.c (.b (.d (.int .u64 32))))), none⟩,
    ⟨some 14, .conv .u32 (.t 13), none⟩,
    ⟨some 15, .mov .cp (.t 6), none⟩,
    ⟨some 16, .conv .u32 (.t 15), none⟩,
    ⟨some 4, .mov .own (.t 14), none⟩,
    ⟨some 5, .mov .own (.t 16), none⟩] [4, 5])
  .ret))), [(.tmp 4), (.tmp 5)], .pure, false⟩
/-- math/bits.Mul64 -/
def f39 : AFun := ⟨2,
  (.seq (.region false [
    ⟨some 4, .mov .own (.k (.c (.b (.d (.int .u64 0))))), none⟩,
    ⟨some 5, .mov .own (.k (.c (.b (.d (.int .u64 0))))), none⟩] [0, 1])
  (.seq (.region false [
    ⟨some 14, .mov .cp (.t 0), none⟩,
    ⟨some 15, .bin .and (.t 14) (.k (.c (.b (.d (.int .u64 4294967295))))), none⟩,
    ⟨some 6, .mov .cp (.t 15), none⟩] [0, 1, 6])
  (.seq (.region false [
    ⟨some 16, .mov .cp (.t 0), none⟩,
    ⟨some 17, .bin .shr (.t 16) (.k (.c (.b (.d (.int .u64 32))))), none⟩,
    ⟨some 7, .mov .cp (.t 17), none⟩] [0, 1, 6, 7])
  (.seq (.region false [
    ⟨some 18, .mov .cp (.t 1), none⟩,
    ⟨some 19, .bin .and (.t 18) (.k (.c (.b (.d (.int .u64 4294967295))))), none⟩,
    ⟨some 8, .mov .cp (.t 19), none⟩] [0, 1, 6, 7, 8])
  (.seq (.region false [
    ⟨some 20, .mov .cp (.t 1), none⟩,
    ⟨some 21, .bin .shr (.t 20) (.k (.c (.b (.d (.int .u64 32))))), none⟩,
    ⟨some 9, .mov .cp (.t 21), none⟩] [0, 1, 6, 7, 8, 9])
  (.seq (.region false [
    ⟨some 22, .mov .cp (.t 6), none⟩,
    ⟨some 23, .mov .cp (.t 8), none⟩,
    ⟨some 24, .bin .mul (.t 22) (.t 23), none⟩,
    ⟨some 10, .mov .cp (.t 24), none⟩] [0, 1, 6, 7, 8, 9, 10])
  (.seq (.region false [
    ⟨some 25, .mov .cp (.t 7), none⟩,
    ⟨some 26, .mov .cp (.t 8), none⟩,
    ⟨some 27, .bin .mul (.t 25) (.t 26), none⟩,
    ⟨some 28, .mov .cp (.t 10), none⟩,
    ⟨some 29, .bin .shr (.t 28) (.k (.c (.b (.d (.int .u64 32))))), none⟩,
    ⟨some 30, .bin .add (.t 27) (.t 29), none⟩,
    ⟨some 11, .mov .cp (.t 30), none⟩] [0, 1, 6, 7, 9, 11])
  (.seq (.region false [
    ⟨some 31, .mov .cp (.t 11), none⟩,
    ⟨some 32, .bin .and (.t 31) (.k (.c (.b (.d (.int .u64 4294967295))))), none⟩,
    ⟨some 12, .mov .cp (.t 32), none⟩] [0, 1, 6, 7, 9, 11, 12])
  (.seq (.region false [
    ⟨some 33, .mov .cp (.t 11), none⟩,
    ⟨some 34, .bin .shr (.t 33) (.k (.c (.b (.d (.int .u64 32))))), none⟩,
    ⟨some 13, .mov .cp (.t 34), none⟩] [0, 1, 6, 7, 9, 12, 13])
  (.seq (.region false [
    ⟨some 35, .mov .cp (.t 12), none⟩,
    ⟨some 36, .mov .cp (.t 6), none⟩,
    ⟨some 37, .mov .cp (.t 9), none⟩,
    ⟨some 38, .bin .mul (.t 36) (.t 37), none⟩,
    ⟨some 39, .bin .add (.t 35) (.t 38), none⟩,
    ⟨some 12, .mov .cp (.t 39), none⟩] [0, 1, 7, 9, 12, 13])
  (.seq (.region false [
    ⟨some 40, .mov .cp (.t 7), none⟩,
    ⟨some 41, .mov .cp (.t 9), none⟩,
    ⟨some 42, .bin .mul (.t 40) (.t 41), none⟩,
    ⟨some 43, .mov .cp (.t 13), none⟩,
    ⟨some 44, .bin .add (.t 42) (.t 43), none⟩,
    ⟨some 45, .mov .cp (.t 12), none⟩,
    ⟨some 46, .bin .shr (.t 45) (.k (.c (.b (.d (.int .u64 32))))), none⟩,
    ⟨some 47, .bin .add (.t 44) (.t 46), none⟩,
    ⟨some 4, .mov .own (.t 47), none⟩] [0, 1, 4])
  (.seq (.region false [
    ⟨some 48, .mov .cp (.t 0), none⟩,
    ⟨some 49, .mov .cp (.t 1), none⟩,
    ⟨some 50, .bin .mul (.t 48) (.t 49), none⟩,
    ⟨some 5, .mov .own (.t 50), none⟩] [4, 5])
  .ret)))))))))))), [(.tmp 4), (.tmp 5)], .pure, false⟩
/-- math/bits.Mul -/
def f37 : AFun := ⟨2,
  (.seq (.region false [
    ⟨some 4, .mov .own (.k (.c (.b (.d (.int .u64 0))))), none⟩,
    ⟨some 5, .mov .own (.k (.c (.b (.d (.int .u64 0))))), none⟩] [0, 1])
  (.seq (.cond (.k (.c (.b (.d (.bool false)))))
    (.seq (.region false [
      ⟨some 11, .mov .cp (.t 0), none⟩,
      ⟨some 12, .conv .u32 (.t 11), none⟩,
      ⟨some 13, .mov .cp (.t 1), none⟩,
      ⟨some 14, .conv .u32 (.t 13), none⟩,
      ⟨some 15, .callb 38 [(.t 12), (.t 14)], none⟩,
      ⟨some 10, .mov .own (.t 15), none⟩,
      ⟨some 16, .ext 0 (.t 10), none⟩,
      ⟨some 17, .ext 1 (.t 10), none⟩,
      ⟨some 6, .mov .cp (.t 16), none⟩,
      ⟨some 7, .mov .cp (.t 17), none⟩] [6, 7])
    (.seq (.region false [
      ⟨some 18, .mov .cp (.t 6), none⟩,
      ⟨some 19, .conv .u64 (.t 18), none⟩,
      ⟨some 20, .mov .cp (.t 7), none⟩,
      ⟨some 21, .conv .u64 (.t 20), none⟩,
      ⟨some 4, .mov .own (.t 19), none⟩,
      ⟨some 5, .mov .own (.t 21), none⟩] [4, 5])
    .ret))
    .skip)
  (.seq (.region false [
    ⟨some 23, .mov .cp (.t 0), none⟩,
    ⟨some 24, .mov .cp (.t 1), none⟩,
    ⟨some 25, .callb 39 [(.t 23), (.t 24)], none⟩,
    ⟨some 22, .mov .own (.t 25), none⟩,
    ⟨some 26, .ext 0 (.t 22), none⟩,
    ⟨some 27, .ext 1 (.t 22), none⟩,
    ⟨some 8, .mov .own (.t 26), none⟩,
    ⟨some 9, .mov .own (.t 27), none⟩] [8, 9])
  (.seq (.region false [
    ⟨some 28, .mov .own (.t 8), none⟩,
    ⟨some 29, .mov .own (.t 9), none⟩,
    ⟨some 4, .mov .own (.t 28), none⟩,
    ⟨some 5, .mov .own (.t 29), none⟩] [4, 5])
  .ret)))), [(.tmp 4), (.tmp 5)], .pure, false⟩
def f35_b0 : ACode := (.wrap true [7, 8] [4] [(0, [7])]
  (.seq (.seq (.region false [
    ⟨some 34, .mov .cp (.t 8), none⟩,
    ⟨some 35, .mov .cp (.t 7), none⟩,
    ⟨some 36, .len 0 (.t 35), none⟩,
    ⟨some 37, .bin .lss (.t 34) (.t 36), none⟩] [7, 8, 37])
  (.cond (.t 37)
    .skip
    (.exit 0)))
  (.block 1 (.region true [
    ⟨some 38, .mov .cp (.t 8), none⟩,
    ⟨some 39, .mov .cp (.t 7), none⟩,
    ⟨some 40, .mov .cp (.t 8), none⟩,
    ⟨some 41, .slc .cp 1 (.t 39) (some (.t 40)) none, none⟩,
    ⟨some 42, .mov .cp (.t 7), none⟩,
    ⟨some 43, .mov .cp (.t 8), none⟩,
    ⟨some 44, .slc .cp 1 (.t 42) none (some (.t 43)), none⟩,
    ⟨some 45, .cpy 1 (.t 41) (.t 44), none⟩,
    ⟨some 46, .bin .add (.t 38) (.t 45), none⟩,
    ⟨some 8, .mov .cp (.t 46), none⟩] [7, 8]))))
def f35_l0 : ACode := .loop f35_b0
theorem u35_l0 {bd : Bd} {s : St} {β : Type} {k : AExit → St → Option β} {fns : Nat → Option AFun} : K fns bd f35_l0 s k = K fns bd f35_b0 s (fun e s' => match e with | .normal => K fns bd f35_l0 s' k | e => k e s') := K_loop
/-- slices.Repeat[[]int,int] -/
def f35 : AFun := ⟨2,
  (.seq (.region false [
    ⟨some 4, .mov .cp (.k (.c (.b .nils))), none⟩] [0, 1])
  (.seq (.seq (.region false [
    ⟨some 9, .mov .cp (.t 1), none⟩,
    ⟨some 10, .bin .lss (.t 9) (.k (.c (.b (.d (.int .i64 0))))), none⟩] [0, 1, 10])
  (.cond (.t 10)
    (.region false [
      ⟨some 11, .bad, none⟩,
      ⟨none, .bad, none⟩] [0, 1])
    .skip))
  (.seq (.region false [
    ⟨some 13, .mov .cp (.t 0), none⟩,
    ⟨some 14, .len 0 (.t 13), none⟩,
    ⟨some 15, .conv .u64 (.t 14), none⟩,
    ⟨some 16, .mov .cp (.t 1), none⟩,
    ⟨some 17, .conv .u64 (.t 16), none⟩,
    ⟨some 18, .callb 37 [(.t 15), (.t 17)], none⟩,
    ⟨some 12, .mov .own (.t 18), none⟩,
    ⟨some 19, .ext 0 (.t 12), none⟩,
    ⟨some 20, .ext 1 (.t 12), none⟩,
    ⟨some 5, .mov .cp (.t 19), none⟩,
    ⟨some 6, .mov .cp (.t 20), none⟩] [0, 5, 6])
  (.seq (.seq (.region false [
    ⟨some 21, .mov .cp (.t 5), none⟩,
    ⟨some 22, .bin .gtr (.t 21) (.k (.c (.b (.d (.int .u64 0))))), none⟩,
    ⟨some 23, .mov .cp (.t 22), none⟩,
    ⟨some 24, .mov .cp (.t 6), (some (23, false))⟩,
    ⟨some 25, .bin .gtr (.t 24) (.k (.c (.b (.d (.int .u64 9223372036854775807))))), (some (23, false))⟩,
    ⟨some 26, .pick (.t 23) (.k (.c (.b (.d (.bool true))))) (.t 25), none⟩] [0, 6, 26])
  (.cond (.t 26)
    (.region false [
      ⟨some 27, .bad, none⟩,
      ⟨none, .bad, none⟩] [0, 6])
    .skip))
  (.seq (.region false [
    ⟨some 28, .mov .cp (.t 6), none⟩,
    ⟨some 29, .conv .i64 (.t 28), none⟩,
    ⟨some 30, .mks .arr 1 8 [(.b (.d (.int .i64 0)))] (.t 29) (.t 29), none⟩,
    ⟨some 7, .mov .own (.t 30), none⟩] [0, 7])
  (.seq (.region false [
    ⟨some 31, .mov .cp (.t 7), none⟩,
    ⟨some 32, .mov .cp (.t 0), none⟩,
    ⟨some 33, .cpy 1 (.t 31) (.t 32), none⟩,
    ⟨some 8, .mov .cp (.t 33), none⟩] [7, 8])
  (.seq (.block 0 f35_l0)
  (.seq (.region false [
    ⟨some 47, .mov .own (.t 7), none⟩,
    ⟨some 4, .mov .cp (.t 47), none⟩] [4])
  .ret)))))))), [(.tmp 4)], .free, false⟩
/-- slices.Clone[[]delver/api.Val,delver/api.Val] -/
def f36 : AFun := ⟨1,
  (.seq (.region false [
    ⟨some 2, .mov .own (.k (.c (.osl 2 []))), none⟩] [0])
  (.seq (.seq (.region false [
    ⟨some 3, .mov .cp (.t 0), none⟩,
    ⟨some 4, .eq false 4 [] (.t 3) (.k (.c (.b .nils))), none⟩] [0, 4])
  (.cond (.t 4)
    (.seq (.region false [
      ⟨some 2, .mov .own (.k (.c (.osl 2 []))), none⟩] [2])
    .ret)
    .skip))
  (.seq (.region false [
    ⟨some 5, .bsl .own 2 0 [(.b (.d (.bool false))), (.b (.d (.int .i64 0)))] [], none⟩,
    ⟨some 6, .mov .cp (.t 0), none⟩,
    ⟨some 7, .app 2 16 (.t 5) (.t 6), none⟩,
    ⟨some 2, .mov .own (.t 7), none⟩] [2])
  .ret))), [(.tmp 2)], .pure, true⟩
/-- slices.Clone[[]delver/api.Val,delver/api.Val] -/
def f36v1 : AFun := ⟨1,
  (.seq (.region false [
    ⟨some 2, .mov .arr (.k (.c (.b .nils))), none⟩] [0])
  (.seq (.seq (.region false [
    ⟨some 3, .mov .cp (.t 0), none⟩,
    ⟨some 4, .eq false 4 [] (.t 3) (.k (.c (.b .nils))), none⟩] [0, 4])
  (.cond (.t 4)
    (.seq (.region false [
      ⟨some 2, .mov .arr (.k (.c (.b .nils))), none⟩] [2])
    .ret)
    .skip))
  (.seq (.region false [
    ⟨some 5, .bsl .arr 2 0 [(.b (.d (.bool false))), (.b (.d (.int .i64 0)))] [], none⟩,
    ⟨some 6, .mov .cp (.t 0), none⟩,
    ⟨some 7, .appa 2 16 (.t 5) (.t 6), none⟩,
    ⟨some 2, .mov .arr (.t 7), none⟩] [2])
  .ret))), [(.tmp 2)], .free, true⟩
def f27_b0 : ACode := (.wrap true [0, 4, 5, 6] [4, 5] [(0, [4, 5])]
  (.seq (.seq (.region false [
    ⟨some 14, .mov .cp (.t 6), none⟩,
    ⟨some 15, .len 0 (.t 14), none⟩,
    ⟨some 16, .bin .gtr (.t 15) (.k (.c (.b (.d (.int .i64 0))))), none⟩] [0, 4, 5, 6, 16])
  (.cond (.t 16)
    .skip
    (.exit 0)))
  (.block 1 (.seq (.region false [
    ⟨some 17, .mov .cp (.t 6), none⟩,
    ⟨some 18, .ia 2 (.t 17) (.k (.c (.b (.d (.int .i64 0))))), none⟩,
    ⟨some 19, .ld .cp (some 2) (.t 18), none⟩,
    ⟨some 7, .alloc [(.b (.d (.bool false))), (.b (.d (.int .i64 0)))], none⟩,
    ⟨none, .st 2 (.t 7) (.t 19), none⟩] [0, 4, 5, 6, 7])
  (.seq (.region false [
    ⟨some 20, .mov .own (.t 6), none⟩,
    ⟨some 21, .slc .own 2 (.t 20) (some (.k (.c (.b (.d (.int .i64 1)))))) none, none⟩,
    ⟨some 6, .mov .own (.t 21), none⟩] [0, 4, 5, 6, 7])
  (.seq (.seq (.region false [
    ⟨some 22, .fa 0 (.t 7), none⟩,
    ⟨some 23, .ld .cp none (.t 22), none⟩,
    ⟨some 24, .un .not (.t 23), none⟩,
    ⟨some 25, .mov .cp (.t 24), none⟩,
    ⟨some 26, .fa 1 (.t 7), (some (25, false))⟩,
    ⟨some 27, .ld .cp none (.t 26), (some (25, false))⟩,
    ⟨some 28, .bin .lss (.t 27) (.k (.c (.b (.d (.int .i64 0))))), (some (25, false))⟩,
    ⟨some 29, .pick (.t 25) (.k (.c (.b (.d (.bool true))))) (.t 28), none⟩,
    ⟨some 30, .mov .cp (.t 29), none⟩,
    ⟨some 31, .fa 1 (.t 7), (some (30, false))⟩,
    ⟨some 32, .ld .cp none (.t 31), (some (30, false))⟩,
    ⟨some 33, .mov .cp (.t 0), (some (30, false))⟩,
    ⟨some 34, .len 0 (.t 33), (some (30, false))⟩,
    ⟨some 35, .bin .geq (.t 32) (.t 34), (some (30, false))⟩,
    ⟨some 36, .pick (.t 30) (.k (.c (.b (.d (.bool true))))) (.t 35), none⟩,
    ⟨some 37, .mov .cp (.t 36), none⟩,
    ⟨some 38, .mov .cp (.t 5), (some (37, false))⟩,
    ⟨some 39, .fa 1 (.t 7), (some (37, false))⟩,
    ⟨some 40, .ld .cp none (.t 39), (some (37, false))⟩,
    ⟨some 41, .ia 1 (.t 38) (.t 40), (some (37, false))⟩,
    ⟨some 42, .ld .cp none (.t 41), (some (37, false))⟩,
    ⟨some 43, .bin .geq (.t 42) (.k (.c (.b (.d (.int .i64 0))))), (some (37, false))⟩,
    ⟨some 44, .pick (.t 37) (.k (.c (.b (.d (.bool true))))) (.t 43), none⟩] [0, 4, 5, 6, 7, 44])
  (.cond (.t 44)
    (.exit 1)
    .skip))
  (.seq (.region false [
    ⟨some 45, .mov .cp (.t 5), none⟩,
    ⟨some 46, .fa 1 (.t 7), none⟩,
    ⟨some 47, .ld .cp none (.t 46), none⟩,
    ⟨some 48, .mov .cp (.t 4), none⟩,
    ⟨some 49, .len 0 (.t 48), none⟩,
    ⟨some 50, .ia 1 (.t 45) (.t 47), none⟩,
    ⟨none, .st 1 (.t 50) (.t 49), none⟩] [0, 4, 5, 6, 7])
  (.seq (.region false [
    ⟨some 51, .mov .own (.t 4), none⟩,
    ⟨some 52, .fa 1 (.t 7), none⟩,
    ⟨some 53, .ld .cp none (.t 52), none⟩,
    ⟨some 54, .bsl .own 1 1 [(.b (.d (.int .i64 0)))] [(0, (.t 53))], none⟩,
    ⟨some 55, .app 1 8 (.t 51) (.t 54), none⟩,
    ⟨some 4, .mov .own (.t 55), none⟩] [0, 4, 5, 6, 7])
  (.region false [
    ⟨some 56, .mov .own (.t 6), none⟩,
    ⟨some 57, .mov .cp (.t 0), none⟩,
    ⟨some 58, .fa 1 (.t 7), none⟩,
    ⟨some 59, .ld .cp none (.t 58), none⟩,
    ⟨some 60, .ia 3 (.t 57) (.t 59), none⟩,
    ⟨some 61, .fa 2 (.t 60), none⟩,
    ⟨some 62, .ld .cp none (.t 61), none⟩,
    ⟨some 63, .app 2 16 (.t 56) (.t 62), none⟩,
    ⟨some 6, .mov .own (.t 63), none⟩] [0, 4, 5, 6])))))))))
def f27_l0 : ACode := .loop f27_b0
theorem u27_l0 {bd : Bd} {s : St} {β : Type} {k : AExit → St → Option β} {fns : Nat → Option AFun} : K fns bd f27_l0 s k = K fns bd f27_b0 s (fun e s' => match e with | .normal => K fns bd f27_l0 s' k | e => k e s') := K_loop
/-- delver/iso.met -/
def f27 : AFun := ⟨2,
  (.seq (.region false [
    ⟨some 4, .mov .own (.k (.c (.osl 1 []))), none⟩,
    ⟨some 5, .mov .cp (.k (.c (.b .nils))), none⟩] [0, 1, 4])
  (.seq (.region false [
    ⟨some 8, .bsl .own 1 1 [(.b (.d (.int .i64 0)))] [(0, (.k (.c (.b (.d (.int .i64 (-1)))))))], none⟩,
    ⟨some 9, .mov .cp (.t 0), none⟩,
    ⟨some 10, .len 0 (.t 9), none⟩,
    ⟨some 11, .call 35 [(.t 8), (.t 10)], none⟩,
    ⟨some 5, .mov .cp (.t 11), none⟩] [0, 1, 4, 5])
  (.seq (.region false [
    ⟨some 12, .mov .cp (.t 1), none⟩,
    ⟨some 13, .callb 36 [(.t 12)], none⟩,
    ⟨some 6, .mov .own (.t 13), none⟩] [0, 4, 5, 6])
  (.seq (.block 0 f27_l0)
  (.seq (.region false [
    ⟨some 64, .mov .own (.t 4), none⟩,
    ⟨some 65, .mov .own (.t 5), none⟩,
    ⟨some 4, .mov .own (.t 64), none⟩,
    ⟨some 5, .mov .frz (.t 65), none⟩] [4, 5])
  .ret))))), [(.tmp 4), (.tmp 5)], .pure, false⟩
def f28_b0 : ACode := (.wrap true [1, 5, 10, 11, 12] [4] [(0, [5])]
  (.seq (.region false [
    ⟨some 13, .bin .lss (.t 12) (.t 11), none⟩] [1, 5, 10, 11, 12, 13])
  (.seq (.cond (.t 13)
    .skip
    (.exit 0))
  (.seq (.block 1 (.seq (.region false [
    ⟨some 14, .mov .cp (.t 12), none⟩,
    ⟨some 15, .ia 2 (.t 10) (.t 12), none⟩,
    ⟨some 16, .ld .cp (some 2) (.t 15), none⟩,
    ⟨some 7, .alloc [(.b (.d (.bool false))), (.b (.d (.int .i64 0)))], none⟩,
    ⟨some 6, .mov .cp (.t 14), none⟩,
    ⟨none, .st 2 (.t 7) (.t 16), none⟩] [1, 5, 6, 7, 10, 11, 12])
  (.seq (.region false [
    ⟨some 17, .fa 0 (.t 7), none⟩,
    ⟨some 18, .ld .cp none (.t 17), none⟩] [1, 5, 6, 7, 10, 11, 12, 18])
  (.cond (.t 18)
    (.seq (.region false [
      ⟨some 19, .mov .cp (.t 5), none⟩,
      ⟨some 20, .mov .cp (.t 6), none⟩,
      ⟨some 21, .ia 2 (.t 19) (.t 20), none⟩,
      ⟨some 22, .fa 1 (.t 21), none⟩,
      ⟨none, .st 1 (.t 22) (.k (.c (.b (.d (.int .i64 (-1)))))), none⟩] [1, 5, 6, 7, 10, 11, 12])
    (.seq (.region false [
      ⟨some 23, .fa 1 (.t 7), none⟩,
      ⟨some 24, .ld .cp none (.t 23), none⟩,
      ⟨some 25, .bin .geq (.t 24) (.k (.c (.b (.d (.int .i64 0))))), none⟩,
      ⟨some 26, .mov .cp (.t 25), none⟩,
      ⟨some 27, .fa 1 (.t 7), (some (26, true))⟩,
      ⟨some 28, .ld .cp none (.t 27), (some (26, true))⟩,
      ⟨some 29, .mov .cp (.t 1), (some (26, true))⟩,
      ⟨some 30, .len 0 (.t 29), (some (26, true))⟩,
      ⟨some 31, .bin .lss (.t 28) (.t 30), (some (26, true))⟩,
      ⟨some 32, .pick (.t 26) (.t 31) (.k (.c (.b (.d (.bool false))))), none⟩] [1, 5, 6, 7, 10, 11, 12, 32])
    (.cond (.t 32)
      (.region false [
        ⟨some 33, .mov .cp (.t 5), none⟩,
        ⟨some 34, .mov .cp (.t 6), none⟩,
        ⟨some 35, .mov .cp (.t 1), none⟩,
        ⟨some 36, .fa 1 (.t 7), none⟩,
        ⟨some 37, .ld .cp none (.t 36), none⟩,
        ⟨some 38, .ia 1 (.t 35) (.t 37), none⟩,
        ⟨some 39, .ld .cp none (.t 38), none⟩,
        ⟨some 40, .ia 2 (.t 33) (.t 34), none⟩,
        ⟨some 41, .fa 1 (.t 40), none⟩,
        ⟨none, .st 1 (.t 41) (.t 39), none⟩] [1, 5, 10, 11, 12])
      .skip)))
    .skip))))
  (.region false [
    ⟨some 42, .bin .add (.t 12) (.k (.c (.b (.d (.int .i64 1))))), none⟩,
    ⟨some 12, .mov .cp (.t 42), none⟩] [1, 5, 10, 11, 12])))))
def f28_l0 : ACode := .loop f28_b0
theorem u28_l0 {bd : Bd} {s : St} {β : Type} {k : AExit → St → Option β} {fns : Nat → Option AFun} : K fns bd f28_l0 s k = K fns bd f28_b0 s (fun e s' => match e with | .normal => K fns bd f28_l0 s' k | e => k e s') := K_loop
/-- delver/iso.moved -/
def f28 : AFun := ⟨2,
  (.seq (.region false [
    ⟨some 4, .mov .own (.k (.c (.osl 2 []))), none⟩] [0, 1])
  (.seq (.region false [
    ⟨some 8, .mov .cp (.t 0), none⟩,
    ⟨some 9, .call 4132 [(.t 8)], none⟩,
    ⟨some 5, .mov .own (.t 9), none⟩] [1, 5])
  (.seq (.seq (.region false [
    ⟨some 10, .mov .cp (.t 5), none⟩,
    ⟨some 11, .len 0 (.t 10), none⟩,
    ⟨some 12, .mov .cp (.k (.c (.b (.d (.int .i64 0))))), none⟩] [1, 5, 10, 11, 12])
  (.block 0 f28_l0))
  (.seq (.region false [
    ⟨some 43, .mov .own (.t 5), none⟩,
    ⟨some 4, .mov .frz (.t 43), none⟩] [4])
  .ret)))), [(.tmp 4)], .pure, false⟩
def f28v1_b0 : ACode := (.wrap false [1, 5, 10, 11, 12] [4] [(0, [5])]
  (.seq (.region false [
    ⟨some 13, .bin .lss (.t 12) (.t 11), none⟩] [1, 5, 10, 11, 12, 13])
  (.seq (.cond (.t 13)
    .skip
    (.exit 0))
  (.seq (.block 1 (.seq (.region false [
    ⟨some 14, .mov .cp (.t 12), none⟩,
    ⟨some 15, .ia 2 (.t 10) (.t 12), none⟩,
    ⟨some 16, .ld .cp (some 2) (.t 15), none⟩,
    ⟨some 7, .alloc [(.b (.d (.bool false))), (.b (.d (.int .i64 0)))], none⟩,
    ⟨some 6, .mov .cp (.t 14), none⟩,
    ⟨none, .st 2 (.t 7) (.t 16), none⟩] [1, 5, 6, 7, 10, 11, 12])
  (.seq (.region false [
    ⟨some 17, .fa 0 (.t 7), none⟩,
    ⟨some 18, .ld .cp none (.t 17), none⟩] [1, 5, 6, 7, 10, 11, 12, 18])
  (.cond (.t 18)
    (.seq (.region false [
      ⟨some 19, .mov .cp (.t 5), none⟩,
      ⟨some 20, .mov .cp (.t 6), none⟩,
      ⟨some 21, .ia 2 (.t 19) (.t 20), none⟩,
      ⟨some 22, .fa 1 (.t 21), none⟩,
      ⟨none, .st 1 (.t 22) (.k (.c (.b (.d (.int .i64 (-1)))))), none⟩] [1, 5, 6, 7, 10, 11, 12])
    (.seq (.region false [
      ⟨some 23, .fa 1 (.t 7), none⟩,
      ⟨some 24, .ld .cp none (.t 23), none⟩,
      ⟨some 25, .bin .geq (.t 24) (.k (.c (.b (.d (.int .i64 0))))), none⟩,
      ⟨some 26, .mov .cp (.t 25), none⟩,
      ⟨some 27, .fa 1 (.t 7), (some (26, true))⟩,
      ⟨some 28, .ld .cp none (.t 27), (some (26, true))⟩,
      ⟨some 29, .mov .cp (.t 1), (some (26, true))⟩,
      ⟨some 30, .len 0 (.t 29), (some (26, true))⟩,
      ⟨some 31, .bin .lss (.t 28) (.t 30), (some (26, true))⟩,
      ⟨some 32, .pick (.t 26) (.t 31) (.k (.c (.b (.d (.bool false))))), none⟩] [1, 5, 6, 7, 10, 11, 12, 32])
    (.cond (.t 32)
      (.region false [
        ⟨some 33, .mov .cp (.t 5), none⟩,
        ⟨some 34, .mov .cp (.t 6), none⟩,
        ⟨some 35, .mov .cp (.t 1), none⟩,
        ⟨some 36, .fa 1 (.t 7), none⟩,
        ⟨some 37, .ld .cp none (.t 36), none⟩,
        ⟨some 38, .ia 1 (.t 35) (.t 37), none⟩,
        ⟨some 39, .ld .cp none (.t 38), none⟩,
        ⟨some 40, .ia 2 (.t 33) (.t 34), none⟩,
        ⟨some 41, .fa 1 (.t 40), none⟩,
        ⟨none, .st 1 (.t 41) (.t 39), none⟩] [1, 5, 10, 11, 12])
      .skip)))
    .skip))))
  (.region false [
    ⟨some 42, .bin .add (.t 12) (.k (.c (.b (.d (.int .i64 1))))), none⟩,
    ⟨some 12, .mov .cp (.t 42), none⟩] [1, 5, 10, 11, 12])))))
def f28v1_l0 : ACode := .loop f28v1_b0
theorem u28v1_l0 {bd : Bd} {s : St} {β : Type} {k : AExit → St → Option β} {fns : Nat → Option AFun} : K fns bd f28v1_l0 s k = K fns bd f28v1_b0 s (fun e s' => match e with | .normal => K fns bd f28v1_l0 s' k | e => k e s') := K_loop
/-- delver/iso.moved -/
def f28v1 : AFun := ⟨2,
  (.seq (.region false [
    ⟨some 4, .mov .cp (.k (.c (.b .nils))), none⟩] [0, 1])
  (.seq (.region false [
    ⟨some 8, .mov .cp (.t 0), none⟩,
    ⟨some 9, .call 4132 [(.t 8)], none⟩,
    ⟨some 5, .mov .cp (.t 9), none⟩] [1, 5])
  (.seq (.seq (.region false [
    ⟨some 10, .mov .cp (.t 5), none⟩,
    ⟨some 11, .len 0 (.t 10), none⟩,
    ⟨some 12, .mov .cp (.k (.c (.b (.d (.int .i64 0))))), none⟩] [1, 5, 10, 11, 12])
  (.block 0 f28v1_l0))
  (.seq (.region false [
    ⟨some 43, .mov .cp (.t 5), none⟩,
    ⟨some 4, .mov .cp (.t 43), none⟩] [4])
  .ret)))), [(.tmp 4)], .free, false⟩
def f11_b0 : ACode := (.wrap true [0, 1, 7, 8, 17, 18, 19] [4, 5] [(0, [1, 7, 8])]
  (.seq (.region false [
    ⟨some 20, .bin .lss (.t 19) (.t 18), none⟩] [0, 1, 7, 8, 17, 18, 19, 20])
  (.seq (.cond (.t 20)
    .skip
    (.exit 0))
  (.seq (.block 1 (.seq (.region false [
    ⟨some 21, .ia 1 (.t 17) (.t 19), none⟩,
    ⟨some 22, .ld .cp none (.t 21), none⟩,
    ⟨some 10, .mov .cp (.t 22), none⟩] [0, 1, 7, 8, 10, 17, 18, 19])
  (.region true [
    ⟨some 23, .mov .own (.t 8), none⟩,
    ⟨some 24, .mov .cp (.t 0), none⟩,
    ⟨some 25, .mov .cp (.t 10), none⟩,
    ⟨some 26, .ia 3 (.t 24) (.t 25), none⟩,
    ⟨some 27, .fa 0 (.t 26), none⟩,
    ⟨some 28, .ld .cp (some 2) (.t 27), none⟩,
    ⟨some 29, .mov .cp (.t 0), none⟩,
    ⟨some 30, .mov .cp (.t 10), none⟩,
    ⟨some 31, .ia 3 (.t 29) (.t 30), none⟩,
    ⟨some 32, .fa 2 (.t 31), none⟩,
    ⟨some 33, .ld .cp none (.t 32), none⟩,
    ⟨some 34, .mov .cp (.t 7), none⟩,
    ⟨some 35, .callb 28 [(.t 33), (.t 34)], none⟩,
    ⟨some 36, .build [(.b (.d (.int .i64 0))), (.b (.d (.str ⟨#[]⟩))), (.osl 2 [])] [(0, 2, (.t 28)), (2, 1, (.t 35))], none⟩,
    ⟨some 37, .bsl .own 3 1 [(.b (.d (.int .i64 0))), (.b (.d (.str ⟨#[]⟩))), (.osl 2 [])] [(0, (.t 36))], none⟩,
    ⟨some 38, .app 3 48 (.t 23) (.t 37), none⟩,
    ⟨some 8, .mov .own (.t 38), none⟩] [0, 1, 7, 8, 17, 18, 19])))
  (.region false [
    ⟨some 39, .bin .add (.t 19) (.k (.c (.b (.d (.int .i64 1))))), none⟩,
    ⟨some 19, .mov .cp (.t 39), none⟩] [0, 1, 7, 8, 17, 18, 19])))))
def f11_l0 : ACode := .loop f11_b0
theorem u11_l0 {bd : Bd} {s : St} {β : Type} {k : AExit → St → Option β} {fns : Nat → Option AFun} : K fns bd f11_l0 s k = K fns bd f11_b0 s (fun e s' => match e with | .normal => K fns bd f11_l0 s' k | e => k e s') := K_loop
/-- delver/iso.Canon -/
def f11 : AFun := ⟨2,
  (.seq (.region false [
    ⟨some 4, .mov .own (.k (.c (.osl 3 []))), none⟩,
    ⟨some 5, .mov .own (.k (.c (.osl 2 []))), none⟩] [0, 1])
  (.seq (.region false [
    ⟨some 12, .mov .cp (.t 0), none⟩,
    ⟨some 13, .mov .cp (.t 1), none⟩,
    ⟨some 14, .callb 27 [(.t 12), (.t 13)], none⟩,
    ⟨some 11, .mov .own (.t 14), none⟩,
    ⟨some 15, .ext 0 (.t 11), none⟩,
    ⟨some 16, .ext 1 (.t 11), none⟩,
    ⟨some 6, .mov .cp (.t 15), none⟩,
    ⟨some 7, .mov .cp (.t 16), none⟩] [0, 1, 6, 7])
  (.seq (.region false [
    ⟨some 8, .mov .own (.k (.c (.osl 3 []))), none⟩] [0, 1, 6, 7, 8])
  (.seq (.seq (.region false [
    ⟨some 17, .mov .cp (.t 6), none⟩,
    ⟨some 18, .len 0 (.t 17), none⟩,
    ⟨some 19, .mov .cp (.k (.c (.b (.d (.int .i64 0))))), none⟩] [0, 1, 7, 8, 17, 18, 19])
  (.block 0 f11_l0))
  (.seq (.region false [
    ⟨some 40, .mov .own (.t 8), none⟩,
    ⟨some 41, .mov .cp (.t 1), none⟩,
    ⟨some 42, .mov .cp (.t 7), none⟩,
    ⟨some 43, .callb 28 [(.t 41), (.t 42)], none⟩,
    ⟨some 4, .mov .own (.t 40), none⟩,
    ⟨some 5, .mov .own (.t 43), none⟩] [4, 5])
  .ret))))), [(.tmp 4), (.tmp 5)], .pure, false⟩
def f11v1_b0 : ACode := (.wrap false [0, 1, 7, 8, 17, 18, 19] [4, 5] [(0, [1, 7, 8])]
  (.seq (.region false [
    ⟨some 20, .bin .lss (.t 19) (.t 18), none⟩] [0, 1, 7, 8, 17, 18, 19, 20])
  (.seq (.cond (.t 20)
    .skip
    (.exit 0))
  (.seq (.block 1 (.seq (.region false [
    ⟨some 21, .ia 1 (.t 17) (.t 19), none⟩,
    ⟨some 22, .ld .cp none (.t 21), none⟩,
    ⟨some 10, .mov .cp (.t 22), none⟩] [0, 1, 7, 8, 10, 17, 18, 19])
  (.region true [
    ⟨some 23, .mov .cp (.t 8), none⟩,
    ⟨some 24, .mov .cp (.t 0), none⟩,
    ⟨some 25, .mov .cp (.t 10), none⟩,
    ⟨some 26, .ia 3 (.t 24) (.t 25), none⟩,
    ⟨some 27, .fa 0 (.t 26), none⟩,
    ⟨some 28, .ld .cp (some 2) (.t 27), none⟩,
    ⟨some 29, .mov .cp (.t 0), none⟩,
    ⟨some 30, .mov .cp (.t 10), none⟩,
    ⟨some 31, .ia 3 (.t 29) (.t 30), none⟩,
    ⟨some 32, .fa 2 (.t 31), none⟩,
    ⟨some 33, .ld .cp none (.t 32), none⟩,
    ⟨some 34, .mov .cp (.t 7), none⟩,
    ⟨some 35, .callp 4124 [(.t 33), (.t 34)], none⟩,
    ⟨some 36, .build [(.b (.d (.int .i64 0))), (.b (.d (.str ⟨#[]⟩))), (.osl 2 [])] [(0, 2, (.t 28)), (2, 1, (.t 35))], none⟩,
    ⟨some 37, .bsl .arr 3 1 [(.b (.d (.int .i64 0))), (.b (.d (.str ⟨#[]⟩))), (.osl 2 [])] [(0, (.t 36))], none⟩,
    ⟨some 38, .appa 3 48 (.t 23) (.t 37), none⟩,
    ⟨some 8, .mov .cp (.t 38), none⟩] [0, 1, 7, 8, 17, 18, 19])))
  (.region false [
    ⟨some 39, .bin .add (.t 19) (.k (.c (.b (.d (.int .i64 1))))), none⟩,
    ⟨some 19, .mov .cp (.t 39), none⟩] [0, 1, 7, 8, 17, 18, 19])))))
def f11v1_l0 : ACode := .loop f11v1_b0
theorem u11v1_l0 {bd : Bd} {s : St} {β : Type} {k : AExit → St → Option β} {fns : Nat → Option AFun} : K fns bd f11v1_l0 s k = K fns bd f11v1_b0 s (fun e s' => match e with | .normal => K fns bd f11v1_l0 s' k | e => k e s') := K_loop
/-- delver/iso.Canon -/
def f11v1 : AFun := ⟨2,
  (.seq (.region false [
    ⟨some 4, .mov .cp (.k (.c (.b .nils))), none⟩,
    ⟨some 5, .mov .own (.k (.c (.osl 2 []))), none⟩] [0, 1])
  (.seq (.region false [
    ⟨some 12, .mov .cp (.t 0), none⟩,
    ⟨some 13, .mov .cp (.t 1), none⟩,
    ⟨some 14, .callb 27 [(.t 12), (.t 13)], none⟩,
    ⟨some 11, .mov .own (.t 14), none⟩,
    ⟨some 15, .ext 0 (.t 11), none⟩,
    ⟨some 16, .ext 1 (.t 11), none⟩,
    ⟨some 6, .mov .cp (.t 15), none⟩,
    ⟨some 7, .mov .cp (.t 16), none⟩] [0, 1, 6, 7])
  (.seq (.region false [
    ⟨some 8, .mov .cp (.k (.c (.b .nils))), none⟩] [0, 1, 6, 7, 8])
  (.seq (.seq (.region false [
    ⟨some 17, .mov .cp (.t 6), none⟩,
    ⟨some 18, .len 0 (.t 17), none⟩,
    ⟨some 19, .mov .cp (.k (.c (.b (.d (.int .i64 0))))), none⟩] [0, 1, 7, 8, 17, 18, 19])
  (.block 0 f11v1_l0))
  (.seq (.region false [
    ⟨some 40, .mov .cp (.t 8), none⟩,
    ⟨some 41, .mov .cp (.t 1), none⟩,
    ⟨some 42, .mov .cp (.t 7), none⟩,
    ⟨some 43, .callb 28 [(.t 41), (.t 42)], none⟩,
    ⟨some 4, .mov .cp (.t 40), none⟩,
    ⟨some 5, .mov .own (.t 43), none⟩] [4, 5])
  .ret))))), [(.tmp 4), (.tmp 5)], .free, false⟩
/-- delver/delverref10.in -/
def f33 : AFun := ⟨3,
  (.seq (.region false [
    ⟨some 6, .mov .own (.k (.c (.b (.d (.bool false))))), none⟩] [0, 1, 2])
  (.seq (.region false [
    ⟨some 7, .mov .cp (.t 0), none⟩,
    ⟨some 8, .mov .cp (.t 1), none⟩,
    ⟨some 9, .bin .geq (.t 7) (.t 8), none⟩,
    ⟨some 10, .mov .cp (.t 9), none⟩,
    ⟨some 11, .mov .cp (.t 0), (some (10, true))⟩,
    ⟨some 12, .mov .cp (.t 2), (some (10, true))⟩,
    ⟨some 13, .bin .leq (.t 11) (.t 12), (some (10, true))⟩,
    ⟨some 14, .pick (.t 10) (.t 13) (.k (.c (.b (.d (.bool false))))), none⟩,
    ⟨some 6, .mov .own (.t 14), none⟩] [6])
  .ret)), [(.tmp 6)], .pure, false⟩
def f16_b0 : ACode := (.wrap true [0, 5, 6, 7, 8] [4] [(0, [7])]
  (.seq (.seq (.region false [
    ⟨some 14, .mov .cp (.t 8), none⟩,
    ⟨some 15, .mov .cp (.t 6), none⟩,
    ⟨some 16, .len 0 (.t 15), none⟩,
    ⟨some 17, .bin .lss (.t 14) (.t 16), none⟩] [0, 5, 6, 7, 8, 17])
  (.cond (.t 17)
    .skip
    (.exit 0)))
  (.seq (.block 1 (.seq (.region false [
    ⟨some 20, .mov .cp (.t 6), none⟩,
    ⟨some 21, .mov .cp (.t 8), none⟩,
    ⟨some 22, .ia 2 (.t 20) (.t 21), none⟩,
    ⟨some 23, .fa 0 (.t 22), none⟩,
    ⟨some 24, .ld .cp none (.t 23), none⟩,
    ⟨some 25, .mov .cp (.t 24), none⟩,
    ⟨some 26, .mov .cp (.t 6), (some (25, true))⟩,
    ⟨some 27, .mov .cp (.t 8), (some (25, true))⟩,
    ⟨some 28, .ia 2 (.t 26) (.t 27), (some (25, true))⟩,
    ⟨some 29, .fa 1 (.t 28), (some (25, true))⟩,
    ⟨some 30, .ld .cp none (.t 29), (some (25, true))⟩,
    ⟨some 31, .mov .cp (.t 0), (some (25, true))⟩,
    ⟨some 32, .len 0 (.t 31), (some (25, true))⟩,
    ⟨some 33, .bin .sub (.t 32) (.k (.c (.b (.d (.int .i64 1))))), (some (25, true))⟩,
    ⟨some 34, .callb 33 [(.t 30), (.k (.c (.b (.d (.int .i64 0))))), (.t 33)], (some (25, true))⟩,
    ⟨some 35, .pick (.t 25) (.t 34) (.k (.c (.b (.d (.bool false))))), none⟩,
    ⟨some 36, .mov .cp (.t 35), none⟩,
    ⟨some 37, .mov .cp (.t 5), (some (36, true))⟩,
    ⟨some 38, .mov .cp (.t 6), (some (36, true))⟩,
    ⟨some 39, .mov .cp (.t 8), (some (36, true))⟩,
    ⟨some 40, .ia 2 (.t 38) (.t 39), (some (36, true))⟩,
    ⟨some 41, .fa 1 (.t 40), (some (36, true))⟩,
    ⟨some 42, .ld .cp none (.t 41), (some (36, true))⟩,
    ⟨some 43, .ia 1 (.t 37) (.t 42), (some (36, true))⟩,
    ⟨some 44, .ld .cp none (.t 43), (some (36, true))⟩,
    ⟨some 45, .un .not (.t 44), (some (36, true))⟩,
    ⟨some 46, .pick (.t 36) (.t 45) (.k (.c (.b (.d (.bool false))))), none⟩] [0, 5, 6, 7, 8, 46])
  (.cond (.t 46)
    (.seq (.region false [
      ⟨some 47, .mov .cp (.t 5), none⟩,
      ⟨some 48, .mov .cp (.t 6), none⟩,
      ⟨some 49, .mov .cp (.t 8), none⟩,
      ⟨some 50, .ia 2 (.t 48) (.t 49), none⟩,
      ⟨some 51, .fa 1 (.t 50), none⟩,
      ⟨some 52, .ld .cp none (.t 51), none⟩,
      ⟨some 53, .ia 1 (.t 47) (.t 52), none⟩,
      ⟨none, .st 1 (.t 53) (.k (.c (.b (.d (.bool true))))), none⟩] [0, 5, 6, 7, 8])
    (.seq (.region false [
      ⟨some 54, .mov .own (.t 7), none⟩,
      ⟨some 55, .mov .cp (.t 6), none⟩,
      ⟨some 56, .mov .cp (.t 8), none⟩,
      ⟨some 57, .ia 2 (.t 55) (.t 56), none⟩,
      ⟨some 58, .fa 1 (.t 57), none⟩,
      ⟨some 59, .ld .cp none (.t 58), none⟩,
      ⟨some 60, .bsl .own 1 1 [(.b (.d (.int .i64 0)))] [(0, (.t 59))], none⟩,
      ⟨some 61, .app 1 8 (.t 54) (.t 60), none⟩,
      ⟨some 7, .mov .own (.t 61), none⟩] [0, 5, 6, 7, 8])
    (.region false [
      ⟨some 62, .mov .own (.t 6), none⟩,
      ⟨some 63, .mov .cp (.t 0), none⟩,
      ⟨some 64, .mov .cp (.t 6), none⟩,
      ⟨some 65, .mov .cp (.t 8), none⟩,
      ⟨some 66, .ia 2 (.t 64) (.t 65), none⟩,
      ⟨some 67, .fa 1 (.t 66), none⟩,
      ⟨some 68, .ld .cp none (.t 67), none⟩,
      ⟨some 69, .ia 3 (.t 63) (.t 68), none⟩,
      ⟨some 70, .fa 2 (.t 69), none⟩,
      ⟨some 71, .ld .cp none (.t 70), none⟩,
      ⟨some 72, .app 2 16 (.t 62) (.t 71), none⟩,
      ⟨some 6, .mov .own (.t 72), none⟩] [0, 5, 6, 7, 8])))
    .skip)))
  (.region false [
    ⟨some 18, .mov .cp (.t 8), none⟩,
    ⟨some 19, .bin .add (.t 18) (.k (.c (.b (.d (.int .i64 1))))), none⟩,
    ⟨some 8, .mov .cp (.t 19), none⟩] [0, 5, 6, 7, 8]))))
def f16_l0 : ACode := .loop f16_b0
theorem u16_l0 {bd : Bd} {s : St} {β : Type} {k : AExit → St → Option β} {fns : Nat → Option AFun} : K fns bd f16_l0 s k = K fns bd f16_b0 s (fun e s' => match e with | .normal => K fns bd f16_l0 s' k | e => k e s') := K_loop
/-- delver/delverref10.Order -/
def f16 : AFun := ⟨2,
  (.seq (.region false [
    ⟨some 4, .mov .own (.k (.c (.osl 1 []))), none⟩] [0, 1])
  (.seq (.region false [
    ⟨some 9, .mov .cp (.t 0), none⟩,
    ⟨some 10, .len 0 (.t 9), none⟩,
    ⟨some 11, .mks .arr 1 1 [(.b (.d (.bool false)))] (.t 10) (.t 10), none⟩,
    ⟨some 5, .mov .cp (.t 11), none⟩] [0, 1, 5])
  (.seq (.region false [
    ⟨some 12, .mov .cp (.t 1), none⟩,
    ⟨some 13, .callb 25 [(.t 12)], none⟩,
    ⟨some 6, .mov .own (.t 13), none⟩] [0, 5, 6])
  (.seq (.region false [
    ⟨some 7, .mov .own (.k (.c (.osl 1 []))), none⟩] [0, 5, 6, 7])
  (.seq (.seq (.region false [
    ⟨some 8, .mov .cp (.k (.c (.b (.d (.int .i64 0))))), none⟩] [0, 5, 6, 7, 8])
  (.block 0 f16_l0))
  (.seq (.region false [
    ⟨some 73, .mov .own (.t 7), none⟩,
    ⟨some 4, .mov .own (.t 73), none⟩] [4])
  .ret)))))), [(.tmp 4)], .pure, false⟩
def f29_b0 : ACode := (.wrap true [0, 3, 4, 5] [4] [(0, [4])]
  (.seq (.seq (.region false [
    ⟨some 10, .mov .cp (.t 5), none⟩,
    ⟨some 11, .mov .cp (.t 0), none⟩,
    ⟨some 12, .len 0 (.t 11), none⟩,
    ⟨some 13, .bin .lss (.t 10) (.t 12), none⟩] [0, 3, 4, 5, 13])
  (.cond (.t 13)
    .skip
    (.exit 0)))
  (.seq (.block 1 (.seq (.region true [
    ⟨some 16, .mov .cp (.t 0), none⟩,
    ⟨some 17, .mov .cp (.t 5), none⟩,
    ⟨some 18, .ia 1 (.t 16) (.t 17), none⟩,
    ⟨some 19, .ld .cp none (.t 18), none⟩,
    ⟨some 20, .fa 1 (.t 3), none⟩,
    ⟨some 21, .ld .cp none (.t 20), none⟩,
    ⟨some 22, .bin .eql (.t 19) (.t 21), none⟩] [0, 3, 4, 5, 22])
  (.cond (.t 22)
    (.seq (.region false [
      ⟨some 23, .mov .cp (.t 5), none⟩,
      ⟨some 24, .build [(.b (.d (.bool false))), (.b (.d (.int .i64 0)))] [(0, 1, (.k (.c (.b (.d (.bool true)))))), (1, 1, (.t 23))], none⟩,
      ⟨none, .st 2 (.t 4) (.t 24), none⟩] [4])
    .ret)
    .skip)))
  (.region false [
    ⟨some 14, .mov .cp (.t 5), none⟩,
    ⟨some 15, .bin .add (.t 14) (.k (.c (.b (.d (.int .i64 1))))), none⟩,
    ⟨some 5, .mov .cp (.t 15), none⟩] [0, 3, 4, 5]))))
def f29_l0 : ACode := .loop f29_b0
theorem u29_l0 {bd : Bd} {s : St} {β : Type} {k : AExit → St → Option β} {fns : Nat → Option AFun} : K fns bd f29_l0 s k = K fns bd f29_b0 s (fun e s' => match e with | .normal => K fns bd f29_l0 s' k | e => k e s') := K_loop
/-- delver/delverref10.place -/
def f29 : AFun := ⟨2,
  (.seq (.region false [
    ⟨some 3, .box (.t 1), none⟩,
    ⟨some 4, .alloc [(.b (.d (.bool false))), (.b (.d (.int .i64 0)))], none⟩] [0, 3, 4])
  (.seq (.seq (.region false [
    ⟨some 6, .fa 0 (.t 3), none⟩,
    ⟨some 7, .ld .cp none (.t 6), none⟩,
    ⟨some 8, .un .not (.t 7), none⟩] [0, 3, 4, 8])
  (.cond (.t 8)
    (.seq (.region false [
      ⟨some 9, .ld .cp (some 2) (.t 3), none⟩,
      ⟨none, .st 2 (.t 4) (.t 9), none⟩] [4])
    .ret)
    .skip))
  (.seq (.seq (.region false [
    ⟨some 5, .mov .cp (.k (.c (.b (.d (.int .i64 0))))), none⟩] [0, 3, 4, 5])
  (.block 0 f29_l0))
  (.seq (.region false [
    ⟨some 25, .build [(.b (.d (.bool false))), (.b (.d (.int .i64 0)))] [(0, 1, (.k (.c (.b (.d (.bool true)))))), (1, 1, (.k (.c (.b (.d (.int .i64 (-1)))))))], none⟩,
    ⟨none, .st 2 (.t 4) (.t 25), none⟩] [4])
  .ret)))), [(.cell 4 (some 2))], .pure, false⟩
def f12_b0 : ACode := (.wrap false [0, 1, 6, 7, 8, 9, 10] [4, 5] [(2, [0, 1, 6, 7, 8, 9])]
  (.seq (.seq (.region false [
    ⟨some 31, .mov .cp (.t 10), none⟩,
    ⟨some 32, .mov .cp (.t 0), none⟩,
    ⟨some 33, .mov .cp (.t 6), none⟩,
    ⟨some 34, .mov .cp (.t 8), none⟩,
    ⟨some 35, .ia 1 (.t 33) (.t 34), none⟩,
    ⟨some 36, .ld .cp none (.t 35), none⟩,
    ⟨some 37, .ia 3 (.t 32) (.t 36), none⟩,
    ⟨some 38, .fa 2 (.t 37), none⟩,
    ⟨some 39, .ld .cp none (.t 38), none⟩,
    ⟨some 40, .len 0 (.t 39), none⟩,
    ⟨some 41, .bin .lss (.t 31) (.t 40), none⟩] [0, 1, 6, 7, 8, 9, 10, 41])
  (.cond (.t 41)
    .skip
    (.exit 2)))
  (.seq (.block 3 (.region true [
    ⟨some 44, .fa 2 (.t 9), none⟩,
    ⟨some 45, .ld .cp none (.t 44), none⟩,
    ⟨some 46, .mov .cp (.t 6), none⟩,
    ⟨some 47, .mov .cp (.t 0), none⟩,
    ⟨some 48, .mov .cp (.t 6), none⟩,
    ⟨some 49, .mov .cp (.t 8), none⟩,
    ⟨some 50, .ia 1 (.t 48) (.t 49), none⟩,
    ⟨some 51, .ld .cp none (.t 50), none⟩,
    ⟨some 52, .ia 3 (.t 47) (.t 51), none⟩,
    ⟨some 53, .fa 2 (.t 52), none⟩,
    ⟨some 54, .ld .cp none (.t 53), none⟩,
    ⟨some 55, .mov .cp (.t 10), none⟩,
    ⟨some 56, .ia 2 (.t 54) (.t 55), none⟩,
    ⟨some 57, .ld .cp (some 2) (.t 56), none⟩,
    ⟨some 58, .callb 29 [(.t 46), (.t 57)], none⟩,
    ⟨some 59, .bsl .own 2 1 [(.b (.d (.bool false))), (.b (.d (.int .i64 0)))] [(0, (.t 58))], none⟩,
    ⟨some 60, .appa 2 16 (.t 45) (.t 59), none⟩,
    ⟨some 61, .fa 2 (.t 9), none⟩,
    ⟨none, .st 1 (.t 61) (.t 60), none⟩] [0, 1, 6, 7, 8, 9, 10]))
  (.region false [
    ⟨some 42, .mov .cp (.t 10), none⟩,
    ⟨some 43, .bin .add (.t 42) (.k (.c (.b (.d (.int .i64 1))))), none⟩,
    ⟨some 10, .mov .cp (.t 43), none⟩] [0, 1, 6, 7, 8, 9, 10]))))
def f12_l0 : ACode := .loop f12_b0
theorem u12_l0 {bd : Bd} {s : St} {β : Type} {k : AExit → St → Option β} {fns : Nat → Option AFun} : K fns bd f12_l0 s k = K fns bd f12_b0 s (fun e s' => match e with | .normal => K fns bd f12_l0 s' k | e => k e s') := K_loop
def f12_b1 : ACode := (.wrap false [0, 1, 6, 7, 8] [4, 5] [(0, [1, 6, 7])]
  (.seq (.seq (.region false [
    ⟨some 16, .mov .cp (.t 8), none⟩,
    ⟨some 17, .mov .cp (.t 6), none⟩,
    ⟨some 18, .len 0 (.t 17), none⟩,
    ⟨some 19, .bin .lss (.t 16) (.t 18), none⟩] [0, 1, 6, 7, 8, 19])
  (.cond (.t 19)
    .skip
    (.exit 0)))
  (.seq (.block 1 (.seq (.region false [
    ⟨some 22, .mov .cp (.t 0), none⟩,
    ⟨some 23, .mov .cp (.t 6), none⟩,
    ⟨some 24, .mov .cp (.t 8), none⟩,
    ⟨some 25, .ia 1 (.t 23) (.t 24), none⟩,
    ⟨some 26, .ld .cp none (.t 25), none⟩,
    ⟨some 27, .ia 3 (.t 22) (.t 26), none⟩,
    ⟨some 28, .fa 0 (.t 27), none⟩,
    ⟨some 29, .ld .cp (some 2) (.t 28), none⟩,
    ⟨some 30, .build [(.b (.d (.int .i64 0))), (.b (.d (.str ⟨#[]⟩))), (.b .nils)] [(0, 2, (.t 29))], none⟩,
    ⟨some 9, .alloc [(.b (.d (.int .i64 0))), (.b (.d (.str ⟨#[]⟩))), (.b .nils)], none⟩,
    ⟨none, .st 3 (.t 9) (.t 30), none⟩] [0, 1, 6, 7, 8, 9])
  (.seq (.seq (.region false [
    ⟨some 10, .mov .cp (.k (.c (.b (.d (.int .i64 0))))), none⟩] [0, 1, 6, 7, 8, 9, 10])
  (.block 2 f12_l0))
  (.region false [
    ⟨some 62, .mov .cp (.t 7), none⟩,
    ⟨some 63, .ld .cp (some 3) (.t 9), none⟩,
    ⟨some 64, .bsl .arr 3 1 [(.b (.d (.int .i64 0))), (.b (.d (.str ⟨#[]⟩))), (.osl 2 [])] [(0, (.t 63))], none⟩,
    ⟨some 65, .appa 3 48 (.t 62) (.t 64), none⟩,
    ⟨some 7, .mov .cp (.t 65), none⟩] [0, 1, 6, 7, 8]))))
  (.region false [
    ⟨some 20, .mov .cp (.t 8), none⟩,
    ⟨some 21, .bin .add (.t 20) (.k (.c (.b (.d (.int .i64 1))))), none⟩,
    ⟨some 8, .mov .cp (.t 21), none⟩] [0, 1, 6, 7, 8]))))
def f12_l1 : ACode := .loop f12_b1
theorem u12_l1 {bd : Bd} {s : St} {β : Type} {k : AExit → St → Option β} {fns : Nat → Option AFun} : K fns bd f12_l1 s k = K fns bd f12_b1 s (fun e s' => match e with | .normal => K fns bd f12_l1 s' k | e => k e s') := K_loop
def f12_b2 : ACode := (.wrap false [1, 6, 7, 11, 12] [4, 5] [(4, [7, 11])]
  (.seq (.seq (.region false [
    ⟨some 66, .mov .cp (.t 12), none⟩,
    ⟨some 67, .mov .cp (.t 1), none⟩,
    ⟨some 68, .len 0 (.t 67), none⟩,
    ⟨some 69, .bin .lss (.t 66) (.t 68), none⟩] [1, 6, 7, 11, 12, 69])
  (.cond (.t 69)
    .skip
    (.exit 4)))
  (.seq (.block 5 (.region false [
    ⟨some 72, .mov .own (.t 11), none⟩,
    ⟨some 73, .mov .cp (.t 6), none⟩,
    ⟨some 74, .mov .cp (.t 1), none⟩,
    ⟨some 75, .mov .cp (.t 12), none⟩,
    ⟨some 76, .ia 2 (.t 74) (.t 75), none⟩,
    ⟨some 77, .ld .cp (some 2) (.t 76), none⟩,
    ⟨some 78, .callb 29 [(.t 73), (.t 77)], none⟩,
    ⟨some 79, .bsl .own 2 1 [(.b (.d (.bool false))), (.b (.d (.int .i64 0)))] [(0, (.t 78))], none⟩,
    ⟨some 80, .app 2 16 (.t 72) (.t 79), none⟩,
    ⟨some 11, .mov .own (.t 80), none⟩] [1, 6, 7, 11, 12]))
  (.region false [
    ⟨some 70, .mov .cp (.t 12), none⟩,
    ⟨some 71, .bin .add (.t 70) (.k (.c (.b (.d (.int .i64 1))))), none⟩,
    ⟨some 12, .mov .cp (.t 71), none⟩] [1, 6, 7, 11, 12]))))
def f12_l2 : ACode := .loop f12_b2
theorem u12_l2 {bd : Bd} {s : St} {β : Type} {k : AExit → St → Option β} {fns : Nat → Option AFun} : K fns bd f12_l2 s k = K fns bd f12_b2 s (fun e s' => match e with | .normal => K fns bd f12_l2 s' k | e => k e s') := K_loop
/-- delver/delverref10.Canon -/
def f12 : AFun := ⟨2,
  (.seq (.region false [
    ⟨some 4, .mov .cp (.k (.c (.b .nils))), none⟩,
    ⟨some 5, .mov .own (.k (.c (.osl 2 []))), none⟩] [0, 1])
  (.seq (.region false [
    ⟨some 13, .mov .cp (.t 0), none⟩,
    ⟨some 14, .mov .cp (.t 1), none⟩,
    ⟨some 15, .callb 16 [(.t 13), (.t 14)], none⟩,
    ⟨some 6, .mov .cp (.t 15), none⟩] [0, 1, 6])
  (.seq (.region false [
    ⟨some 7, .mov .cp (.k (.c (.b .nils))), none⟩] [0, 1, 6, 7])
  (.seq (.seq (.region false [
    ⟨some 8, .mov .cp (.k (.c (.b (.d (.int .i64 0))))), none⟩] [0, 1, 6, 7, 8])
  (.block 0 f12_l1))
  (.seq (.region false [
    ⟨some 11, .mov .own (.k (.c (.osl 2 []))), none⟩] [1, 6, 7, 11])
  (.seq (.seq (.region false [
    ⟨some 12, .mov .cp (.k (.c (.b (.d (.int .i64 0))))), none⟩] [1, 6, 7, 11, 12])
  (.block 4 f12_l2))
  (.seq (.region false [
    ⟨some 81, .mov .cp (.t 7), none⟩,
    ⟨some 82, .mov .own (.t 11), none⟩,
    ⟨some 4, .mov .cp (.t 81), none⟩,
    ⟨some 5, .mov .own (.t 82), none⟩] [4, 5])
  .ret))))))), [(.tmp 4), (.tmp 5)], .pure, false⟩
def f30_b0 : ACode := (.wrap true [0, 1, 12, 13] [4] [(0, [])]
  (.seq (.region false [
    ⟨some 14, .bin .lss (.t 13) (.t 12), none⟩] [0, 1, 12, 13, 14])
  (.seq (.cond (.t 14)
    .skip
    (.exit 0))
  (.seq (.block 1 (.seq (.region false [
    ⟨some 15, .mov .cp (.t 13), none⟩,
    ⟨some 5, .mov .cp (.t 15), none⟩] [0, 1, 5, 12, 13])
  (.seq (.region true [
    ⟨some 16, .mov .cp (.t 0), none⟩,
    ⟨some 17, .mov .cp (.t 5), none⟩,
    ⟨some 18, .ia 2 (.t 16) (.t 17), none⟩,
    ⟨some 19, .ld .cp (some 2) (.t 18), none⟩,
    ⟨some 20, .mov .cp (.t 1), none⟩,
    ⟨some 21, .mov .cp (.t 5), none⟩,
    ⟨some 22, .ia 2 (.t 20) (.t 21), none⟩,
    ⟨some 23, .ld .cp (some 2) (.t 22), none⟩,
    ⟨some 24, .eq true 2 [0, 1] (.t 19) (.t 23), none⟩] [0, 1, 12, 13, 24])
  (.cond (.t 24)
    (.seq (.region false [
      ⟨some 4, .mov .own (.k (.c (.b (.d (.bool false))))), none⟩] [4])
    .ret)
    .skip))))
  (.region false [
    ⟨some 25, .bin .add (.t 13) (.k (.c (.b (.d (.int .i64 1))))), none⟩,
    ⟨some 13, .mov .cp (.t 25), none⟩] [0, 1, 12, 13])))))
def f30_l0 : ACode := .loop f30_b0
theorem u30_l0 {bd : Bd} {s : St} {β : Type} {k : AExit → St → Option β} {fns : Nat → Option AFun} : K fns bd f30_l0 s k = K fns bd f30_b0 s (fun e s' => match e with | .normal => K fns bd f30_l0 s' k | e => k e s') := K_loop
/-- slices.Equal[[]delver/api.Val,delver/api.Val] -/
def f30 : AFun := ⟨2,
  (.seq (.region false [
    ⟨some 4, .mov .own (.k (.c (.b (.d (.bool false))))), none⟩] [0, 1])
  (.seq (.seq (.region false [
    ⟨some 6, .mov .cp (.t 0), none⟩,
    ⟨some 7, .len 0 (.t 6), none⟩,
    ⟨some 8, .mov .cp (.t 1), none⟩,
    ⟨some 9, .len 0 (.t 8), none⟩,
    ⟨some 10, .bin .neq (.t 7) (.t 9), none⟩] [0, 1, 10])
  (.cond (.t 10)
    (.seq (.region false [
      ⟨some 4, .mov .own (.k (.c (.b (.d (.bool false))))), none⟩] [4])
    .ret)
    .skip))
  (.seq (.seq (.region false [
    ⟨some 11, .mov .cp (.t 0), none⟩,
    ⟨some 12, .len 0 (.t 11), none⟩,
    ⟨some 13, .mov .cp (.k (.c (.b (.d (.int .i64 0))))), none⟩] [0, 1, 12, 13])
  (.block 0 f30_l0))
  (.seq (.region false [
    ⟨some 4, .mov .own (.k (.c (.b (.d (.bool true))))), none⟩] [4])
  .ret)))), [(.tmp 4)], .pure, false⟩
def f31_b0 : ACode := (.wrap true [1, 2, 15, 16, 17] [6] [(0, [])]
  (.seq (.region false [
    ⟨some 18, .bin .lss (.t 17) (.t 16), none⟩] [1, 2, 15, 16, 17, 18])
  (.seq (.cond (.t 18)
    .skip
    (.exit 0))
  (.seq (.block 1 (.seq (.region false [
    ⟨some 19, .mov .cp (.t 17), none⟩,
    ⟨some 20, .ia 3 (.t 15) (.t 17), none⟩,
    ⟨some 21, .ld .cp (some 3) (.t 20), none⟩,
    ⟨some 8, .alloc [(.b (.d (.int .i64 0))), (.b (.d (.str ⟨#[]⟩))), (.osl 2 [])], none⟩,
    ⟨some 7, .mov .cp (.t 19), none⟩,
    ⟨none, .st 3 (.t 8) (.t 21), none⟩] [1, 2, 7, 8, 15, 16, 17])
  (.seq (.region false [
    ⟨some 22, .mov .cp (.t 1), none⟩,
    ⟨some 23, .mov .cp (.t 7), none⟩,
    ⟨some 24, .ia 3 (.t 22) (.t 23), none⟩,
    ⟨some 25, .ld .cp (some 3) (.t 24), none⟩,
    ⟨some 9, .alloc [(.b (.d (.int .i64 0))), (.b (.d (.str ⟨#[]⟩))), (.osl 2 [])], none⟩,
    ⟨none, .st 3 (.t 9) (.t 25), none⟩] [1, 2, 8, 9, 15, 16, 17])
  (.seq (.region false [
    ⟨some 26, .mov .cp (.t 2), none⟩,
    ⟨some 27, .ld .cp (some 3) (.t 8), none⟩,
    ⟨some 28, .ld .cp (some 3) (.t 9), none⟩,
    ⟨some 29, .callv (.t 26) [(.t 27), (.t 28)], none⟩,
    ⟨some 30, .un .not (.t 29), none⟩] [1, 2, 15, 16, 17, 30])
  (.cond (.t 30)
    (.seq (.region false [
      ⟨some 6, .mov .own (.k (.c (.b (.d (.bool false))))), none⟩] [6])
    .ret)
    .skip)))))
  (.region false [
    ⟨some 31, .bin .add (.t 17) (.k (.c (.b (.d (.int .i64 1))))), none⟩,
    ⟨some 17, .mov .cp (.t 31), none⟩] [1, 2, 15, 16, 17])))))
def f31_l0 : ACode := .loop f31_b0
theorem u31_l0 {bd : Bd} {s : St} {β : Type} {k : AExit → St → Option β} {fns : Nat → Option AFun} : K fns bd f31_l0 s k = K fns bd f31_b0 s (fun e s' => match e with | .normal => K fns bd f31_l0 s' k | e => k e s') := K_loop
/-- slices.EqualFunc[[]delver/api.Obj,[]delver/api.Obj,delver/api.Obj,delver/api.Obj] -/
def f31 : AFun := ⟨3,
  (.seq (.region false [
    ⟨some 6, .mov .own (.k (.c (.b (.d (.bool false))))), none⟩] [0, 1, 2])
  (.seq (.seq (.region false [
    ⟨some 10, .mov .cp (.t 0), none⟩,
    ⟨some 11, .len 0 (.t 10), none⟩,
    ⟨some 12, .mov .cp (.t 1), none⟩,
    ⟨some 13, .len 0 (.t 12), none⟩,
    ⟨some 14, .bin .neq (.t 11) (.t 13), none⟩] [0, 1, 2, 14])
  (.cond (.t 14)
    (.seq (.region false [
      ⟨some 6, .mov .own (.k (.c (.b (.d (.bool false))))), none⟩] [6])
    .ret)
    .skip))
  (.seq (.seq (.region false [
    ⟨some 15, .mov .cp (.t 0), none⟩,
    ⟨some 16, .len 0 (.t 15), none⟩,
    ⟨some 17, .mov .cp (.k (.c (.b (.d (.int .i64 0))))), none⟩] [1, 2, 15, 16, 17])
  (.block 0 f31_l0))
  (.seq (.region false [
    ⟨some 6, .mov .own (.k (.c (.b (.d (.bool true))))), none⟩] [6])
  .ret)))), [(.tmp 6)], .pure, false⟩
/-- delver/iso.Same$1 -/
def f32 : AFun := ⟨2,
  (.seq (.region false [
    ⟨some 2, .box (.t 0), none⟩,
    ⟨some 3, .box (.t 1), none⟩,
    ⟨some 4, .mov .own (.k (.c (.b (.d (.bool false))))), none⟩] [2, 3])
  (.seq (.region false [
    ⟨some 5, .fa 0 (.t 2), none⟩,
    ⟨some 6, .ld .cp (some 2) (.t 5), none⟩,
    ⟨some 7, .fa 0 (.t 3), none⟩,
    ⟨some 8, .ld .cp (some 2) (.t 7), none⟩,
    ⟨some 9, .eq false 2 [1, 2] (.t 6) (.t 8), none⟩,
    ⟨some 10, .mov .cp (.t 9), none⟩,
    ⟨some 11, .fa 2 (.t 2), (some (10, true))⟩,
    ⟨some 12, .ld .cp none (.t 11), (some (10, true))⟩,
    ⟨some 13, .fa 2 (.t 3), (some (10, true))⟩,
    ⟨some 14, .ld .cp none (.t 13), (some (10, true))⟩,
    ⟨some 15, .callb 30 [(.t 12), (.t 14)], (some (10, true))⟩,
    ⟨some 16, .pick (.t 10) (.t 15) (.k (.c (.b (.d (.bool false))))), none⟩,
    ⟨some 4, .mov .own (.t 16), none⟩] [4])
  .ret)), [(.tmp 4)], .pure, false⟩
/-- delver/iso.Same -/
def f13 : AFun := ⟨4,
  (.seq (.region false [
    ⟨some 8, .mov .own (.k (.c (.b (.d (.bool false))))), none⟩] [0, 1, 2, 3])
  (.seq (.region false [
    ⟨some 14, .mov .cp (.t 0), none⟩,
    ⟨some 15, .mov .cp (.t 1), none⟩,
    ⟨some 16, .callb 11 [(.t 14), (.t 15)], none⟩,
    ⟨some 13, .mov .own (.t 16), none⟩,
    ⟨some 17, .ext 0 (.t 13), none⟩,
    ⟨some 18, .ext 1 (.t 13), none⟩,
    ⟨some 9, .mov .cp (.t 17), none⟩,
    ⟨some 10, .mov .cp (.t 18), none⟩] [2, 3, 9, 10])
  (.seq (.region false [
    ⟨some 20, .mov .cp (.t 2), none⟩,
    ⟨some 21, .mov .cp (.t 3), none⟩,
    ⟨some 22, .callb 11 [(.t 20), (.t 21)], none⟩,
    ⟨some 19, .mov .own (.t 22), none⟩,
    ⟨some 23, .ext 0 (.t 19), none⟩,
    ⟨some 24, .ext 1 (.t 19), none⟩,
    ⟨some 11, .mov .cp (.t 23), none⟩,
    ⟨some 12, .mov .cp (.t 24), none⟩] [9, 10, 11, 12])
  (.seq (.region false [
    ⟨some 25, .mov .cp (.t 10), none⟩,
    ⟨some 26, .mov .cp (.t 12), none⟩,
    ⟨some 27, .callb 30 [(.t 25), (.t 26)], none⟩,
    ⟨some 28, .mov .cp (.t 27), none⟩,
    ⟨some 29, .mov .cp (.t 9), (some (28, true))⟩,
    ⟨some 30, .mov .cp (.t 11), (some (28, true))⟩,
    ⟨some 31, .callb 31 [(.t 29), (.t 30), (.k (.c (.fn 32 [] [])))], (some (28, true))⟩,
    ⟨some 32, .pick (.t 28) (.t 31) (.k (.c (.b (.d (.bool false))))), none⟩,
    ⟨some 8, .mov .own (.t 32), none⟩] [8])
  .ret)))), [(.tmp 8)], .pure, false⟩
def f14_b0 : ACode := (.wrap true [0, 1, 5] [4] [(0, [])]
  (.seq (.seq (.region false [
    ⟨some 11, .mov .cp (.t 5), none⟩,
    ⟨some 12, .mov .cp (.t 0), none⟩,
    ⟨some 13, .len 0 (.t 12), none⟩,
    ⟨some 14, .bin .lss (.t 11) (.t 13), none⟩] [0, 1, 5, 14])
  (.cond (.t 14)
    .skip
    (.exit 0)))
  (.seq (.block 1 (.seq (.region true [
    ⟨some 17, .mov .cp (.t 0), none⟩,
    ⟨some 18, .mov .cp (.t 5), none⟩,
    ⟨some 19, .ia 1 (.t 17) (.t 18), none⟩,
    ⟨some 20, .ld .cp none (.t 19), none⟩,
    ⟨some 21, .mov .cp (.t 1), none⟩,
    ⟨some 22, .mov .cp (.t 5), none⟩,
    ⟨some 23, .ia 1 (.t 21) (.t 22), none⟩,
    ⟨some 24, .ld .cp none (.t 23), none⟩,
    ⟨some 25, .bin .neq (.t 20) (.t 24), none⟩] [0, 1, 5, 25])
  (.cond (.t 25)
    (.seq (.region false [
      ⟨some 4, .mov .own (.k (.c (.b (.d (.bool false))))), none⟩] [4])
    .ret)
    .skip)))
  (.region false [
    ⟨some 15, .mov .cp (.t 5), none⟩,
    ⟨some 16, .bin .add (.t 15) (.k (.c (.b (.d (.int .i64 1))))), none⟩,
    ⟨some 5, .mov .cp (.t 16), none⟩] [0, 1, 5]))))
def f14_l0 : ACode := .loop f14_b0
theorem u14_l0 {bd : Bd} {s : St} {β : Type} {k : AExit → St → Option β} {fns : Nat → Option AFun} : K fns bd f14_l0 s k = K fns bd f14_b0 s (fun e s' => match e with | .normal => K fns bd f14_l0 s' k | e => k e s') := K_loop
/-- delver/delverkeep.Ints -/
def f14 : AFun := ⟨2,
  (.seq (.region false [
    ⟨some 4, .mov .own (.k (.c (.b (.d (.bool false))))), none⟩] [0, 1])
  (.seq (.seq (.region false [
    ⟨some 6, .mov .cp (.t 0), none⟩,
    ⟨some 7, .len 0 (.t 6), none⟩,
    ⟨some 8, .mov .cp (.t 1), none⟩,
    ⟨some 9, .len 0 (.t 8), none⟩,
    ⟨some 10, .bin .neq (.t 7) (.t 9), none⟩] [0, 1, 10])
  (.cond (.t 10)
    (.seq (.region false [
      ⟨some 4, .mov .own (.k (.c (.b (.d (.bool false))))), none⟩] [4])
    .ret)
    .skip))
  (.seq (.seq (.region false [
    ⟨some 5, .mov .cp (.k (.c (.b (.d (.int .i64 0))))), none⟩] [0, 1, 5])
  (.block 0 f14_l0))
  (.seq (.region false [
    ⟨some 4, .mov .own (.k (.c (.b (.d (.bool true))))), none⟩] [4])
  .ret)))), [(.tmp 4)], .pure, false⟩
/-- delver/iso.Order -/
def f15 : AFun := ⟨2,
  (.seq (.region false [
    ⟨some 4, .mov .own (.k (.c (.osl 1 []))), none⟩] [0, 1])
  (.seq (.region false [
    ⟨some 8, .mov .cp (.t 0), none⟩,
    ⟨some 9, .mov .cp (.t 1), none⟩,
    ⟨some 10, .callb 27 [(.t 8), (.t 9)], none⟩,
    ⟨some 7, .mov .own (.t 10), none⟩,
    ⟨some 11, .ext 0 (.t 7), none⟩,
    ⟨some 12, .ext 1 (.t 7), none⟩,
    ⟨some 5, .mov .own (.t 11), none⟩,
    ⟨some 6, .mov .cp (.t 12), none⟩] [5])
  (.seq (.region false [
    ⟨some 13, .mov .own (.t 5), none⟩,
    ⟨some 4, .mov .own (.t 13), none⟩] [4])
  .ret))), [(.tmp 4)], .pure, false⟩
def f18_b0 : ACode := (.wrap true [0, 1, 5] [4] [(0, [])]
  (.seq (.seq (.region false [
    ⟨some 11, .mov .cp (.t 5), none⟩,
    ⟨some 12, .mov .cp (.t 0), none⟩,
    ⟨some 13, .len 0 (.t 12), none⟩,
    ⟨some 14, .bin .lss (.t 11) (.t 13), none⟩] [0, 1, 5, 14])
  (.cond (.t 14)
    .skip
    (.exit 0)))
  (.seq (.block 1 (.seq (.region true [
    ⟨some 17, .mov .cp (.t 0), none⟩,
    ⟨some 18, .mov .cp (.t 5), none⟩,
    ⟨some 19, .ia 2 (.t 17) (.t 18), none⟩,
    ⟨some 20, .ld .cp (some 2) (.t 19), none⟩,
    ⟨some 21, .mov .cp (.t 1), none⟩,
    ⟨some 22, .mov .cp (.t 5), none⟩,
    ⟨some 23, .ia 2 (.t 21) (.t 22), none⟩,
    ⟨some 24, .ld .cp (some 2) (.t 23), none⟩,
    ⟨some 25, .eq true 2 [0, 1] (.t 20) (.t 24), none⟩] [0, 1, 5, 25])
  (.cond (.t 25)
    (.seq (.region false [
      ⟨some 4, .mov .own (.k (.c (.b (.d (.bool false))))), none⟩] [4])
    .ret)
    .skip)))
  (.region false [
    ⟨some 15, .mov .cp (.t 5), none⟩,
    ⟨some 16, .bin .add (.t 15) (.k (.c (.b (.d (.int .i64 1))))), none⟩,
    ⟨some 5, .mov .cp (.t 16), none⟩] [0, 1, 5]))))
def f18_l0 : ACode := .loop f18_b0
theorem u18_l0 {bd : Bd} {s : St} {β : Type} {k : AExit → St → Option β} {fns : Nat → Option AFun} : K fns bd f18_l0 s k = K fns bd f18_b0 s (fun e s' => match e with | .normal => K fns bd f18_l0 s' k | e => k e s') := K_loop
/-- delver/delverkeep.Vals -/
def f18 : AFun := ⟨2,
  (.seq (.region false [
    ⟨some 4, .mov .own (.k (.c (.b (.d (.bool false))))), none⟩] [0, 1])
  (.seq (.seq (.region false [
    ⟨some 6, .mov .cp (.t 0), none⟩,
    ⟨some 7, .len 0 (.t 6), none⟩,
    ⟨some 8, .mov .cp (.t 1), none⟩,
    ⟨some 9, .len 0 (.t 8), none⟩,
    ⟨some 10, .bin .neq (.t 7) (.t 9), none⟩] [0, 1, 10])
  (.cond (.t 10)
    (.seq (.region false [
      ⟨some 4, .mov .own (.k (.c (.b (.d (.bool false))))), none⟩] [4])
    .ret)
    .skip))
  (.seq (.seq (.region false [
    ⟨some 5, .mov .cp (.k (.c (.b (.d (.int .i64 0))))), none⟩] [0, 1, 5])
  (.block 0 f18_l0))
  (.seq (.region false [
    ⟨some 4, .mov .own (.k (.c (.b (.d (.bool true))))), none⟩] [4])
  .ret)))), [(.tmp 4)], .pure, false⟩
def f18v1_b0 : ACode := (.wrap false [0, 1, 5] [4] [(0, [])]
  (.seq (.seq (.region false [
    ⟨some 11, .mov .cp (.t 5), none⟩,
    ⟨some 12, .mov .cp (.t 0), none⟩,
    ⟨some 13, .len 0 (.t 12), none⟩,
    ⟨some 14, .bin .lss (.t 11) (.t 13), none⟩] [0, 1, 5, 14])
  (.cond (.t 14)
    .skip
    (.exit 0)))
  (.seq (.block 1 (.seq (.region true [
    ⟨some 17, .mov .cp (.t 0), none⟩,
    ⟨some 18, .mov .cp (.t 5), none⟩,
    ⟨some 19, .ia 2 (.t 17) (.t 18), none⟩,
    ⟨some 20, .ld .cp (some 2) (.t 19), none⟩,
    ⟨some 21, .mov .cp (.t 1), none⟩,
    ⟨some 22, .mov .cp (.t 5), none⟩,
    ⟨some 23, .ia 2 (.t 21) (.t 22), none⟩,
    ⟨some 24, .ld .cp (some 2) (.t 23), none⟩,
    ⟨some 25, .eq true 2 [0, 1] (.t 20) (.t 24), none⟩] [0, 1, 5, 25])
  (.cond (.t 25)
    (.seq (.region false [
      ⟨some 4, .mov .own (.k (.c (.b (.d (.bool false))))), none⟩] [4])
    .ret)
    .skip)))
  (.region false [
    ⟨some 15, .mov .cp (.t 5), none⟩,
    ⟨some 16, .bin .add (.t 15) (.k (.c (.b (.d (.int .i64 1))))), none⟩,
    ⟨some 5, .mov .cp (.t 16), none⟩] [0, 1, 5]))))
def f18v1_l0 : ACode := .loop f18v1_b0
theorem u18v1_l0 {bd : Bd} {s : St} {β : Type} {k : AExit → St → Option β} {fns : Nat → Option AFun} : K fns bd f18v1_l0 s k = K fns bd f18v1_b0 s (fun e s' => match e with | .normal => K fns bd f18v1_l0 s' k | e => k e s') := K_loop
/-- delver/delverkeep.Vals -/
def f18v1 : AFun := ⟨2,
  (.seq (.region false [
    ⟨some 4, .mov .own (.k (.c (.b (.d (.bool false))))), none⟩] [0, 1])
  (.seq (.seq (.region false [
    ⟨some 6, .mov .cp (.t 0), none⟩,
    ⟨some 7, .len 0 (.t 6), none⟩,
    ⟨some 8, .mov .cp (.t 1), none⟩,
    ⟨some 9, .len 0 (.t 8), none⟩,
    ⟨some 10, .bin .neq (.t 7) (.t 9), none⟩] [0, 1, 10])
  (.cond (.t 10)
    (.seq (.region false [
      ⟨some 4, .mov .own (.k (.c (.b (.d (.bool false))))), none⟩] [4])
    .ret)
    .skip))
  (.seq (.seq (.region false [
    ⟨some 5, .mov .cp (.k (.c (.b (.d (.int .i64 0))))), none⟩] [0, 1, 5])
  (.block 0 f18v1_l0))
  (.seq (.region false [
    ⟨some 4, .mov .own (.k (.c (.b (.d (.bool true))))), none⟩] [4])
  .ret)))), [(.tmp 4)], .pure, false⟩
def f17_b0 : ACode := (.wrap true [0, 1, 5] [4] [(0, [])]
  (.seq (.seq (.region false [
    ⟨some 11, .mov .cp (.t 5), none⟩,
    ⟨some 12, .mov .cp (.t 0), none⟩,
    ⟨some 13, .len 0 (.t 12), none⟩,
    ⟨some 14, .bin .lss (.t 11) (.t 13), none⟩] [0, 1, 5, 14])
  (.cond (.t 14)
    .skip
    (.exit 0)))
  (.seq (.block 1 (.seq (.region true [
    ⟨some 17, .mov .cp (.t 0), none⟩,
    ⟨some 18, .mov .cp (.t 5), none⟩,
    ⟨some 19, .ia 3 (.t 17) (.t 18), none⟩,
    ⟨some 20, .fa 0 (.t 19), none⟩,
    ⟨some 21, .ld .cp (some 2) (.t 20), none⟩,
    ⟨some 22, .mov .cp (.t 1), none⟩,
    ⟨some 23, .mov .cp (.t 5), none⟩,
    ⟨some 24, .ia 3 (.t 22) (.t 23), none⟩,
    ⟨some 25, .fa 0 (.t 24), none⟩,
    ⟨some 26, .ld .cp (some 2) (.t 25), none⟩,
    ⟨some 27, .eq true 2 [1, 2] (.t 21) (.t 26), none⟩,
    ⟨some 28, .mov .cp (.t 27), none⟩,
    ⟨some 29, .mov .cp (.t 0), (some (28, false))⟩,
    ⟨some 30, .mov .cp (.t 5), (some (28, false))⟩,
    ⟨some 31, .ia 3 (.t 29) (.t 30), (some (28, false))⟩,
    ⟨some 32, .fa 2 (.t 31), (some (28, false))⟩,
    ⟨some 33, .ld .cp none (.t 32), (some (28, false))⟩,
    ⟨some 34, .mov .cp (.t 1), (some (28, false))⟩,
    ⟨some 35, .mov .cp (.t 5), (some (28, false))⟩,
    ⟨some 36, .ia 3 (.t 34) (.t 35), (some (28, false))⟩,
    ⟨some 37, .fa 2 (.t 36), (some (28, false))⟩,
    ⟨some 38, .ld .cp none (.t 37), (some (28, false))⟩,
    ⟨some 39, .callb 18 [(.t 33), (.t 38)], (some (28, false))⟩,
    ⟨some 40, .un .not (.t 39), (some (28, false))⟩,
    ⟨some 41, .pick (.t 28) (.k (.c (.b (.d (.bool true))))) (.t 40), none⟩] [0, 1, 5, 41])
  (.cond (.t 41)
    (.seq (.region false [
      ⟨some 4, .mov .own (.k (.c (.b (.d (.bool false))))), none⟩] [4])
    .ret)
    .skip)))
  (.region false [
    ⟨some 15, .mov .cp (.t 5), none⟩,
    ⟨some 16, .bin .add (.t 15) (.k (.c (.b (.d (.int .i64 1))))), none⟩,
    ⟨some 5, .mov .cp (.t 16), none⟩] [0, 1, 5]))))
def f17_l0 : ACode := .loop f17_b0
theorem u17_l0 {bd : Bd} {s : St} {β : Type} {k : AExit → St → Option β} {fns : Nat → Option AFun} : K fns bd f17_l0 s k = K fns bd f17_b0 s (fun e s' => match e with | .normal => K fns bd f17_l0 s' k | e => k e s') := K_loop
/-- delver/delverkeep.Heap -/
def f17 : AFun := ⟨2,
  (.seq (.region false [
    ⟨some 4, .mov .own (.k (.c (.b (.d (.bool false))))), none⟩] [0, 1])
  (.seq (.seq (.region false [
    ⟨some 6, .mov .cp (.t 0), none⟩,
    ⟨some 7, .len 0 (.t 6), none⟩,
    ⟨some 8, .mov .cp (.t 1), none⟩,
    ⟨some 9, .len 0 (.t 8), none⟩,
    ⟨some 10, .bin .neq (.t 7) (.t 9), none⟩] [0, 1, 10])
  (.cond (.t 10)
    (.seq (.region false [
      ⟨some 4, .mov .own (.k (.c (.b (.d (.bool false))))), none⟩] [4])
    .ret)
    .skip))
  (.seq (.seq (.region false [
    ⟨some 5, .mov .cp (.k (.c (.b (.d (.int .i64 0))))), none⟩] [0, 1, 5])
  (.block 0 f17_l0))
  (.seq (.region false [
    ⟨some 4, .mov .own (.k (.c (.b (.d (.bool true))))), none⟩] [4])
  .ret)))), [(.tmp 4)], .pure, false⟩
def f17v1_b0 : ACode := (.wrap false [0, 1, 5] [4] [(0, [])]
  (.seq (.seq (.region false [
    ⟨some 11, .mov .cp (.t 5), none⟩,
    ⟨some 12, .mov .cp (.t 0), none⟩,
    ⟨some 13, .len 0 (.t 12), none⟩,
    ⟨some 14, .bin .lss (.t 11) (.t 13), none⟩] [0, 1, 5, 14])
  (.cond (.t 14)
    .skip
    (.exit 0)))
  (.seq (.block 1 (.seq (.region true [
    ⟨some 17, .mov .cp (.t 0), none⟩,
    ⟨some 18, .mov .cp (.t 5), none⟩,
    ⟨some 19, .ia 3 (.t 17) (.t 18), none⟩,
    ⟨some 20, .fa 0 (.t 19), none⟩,
    ⟨some 21, .ld .cp (some 2) (.t 20), none⟩,
    ⟨some 22, .mov .cp (.t 1), none⟩,
    ⟨some 23, .mov .cp (.t 5), none⟩,
    ⟨some 24, .ia 3 (.t 22) (.t 23), none⟩,
    ⟨some 25, .fa 0 (.t 24), none⟩,
    ⟨some 26, .ld .cp (some 2) (.t 25), none⟩,
    ⟨some 27, .eq true 2 [1, 2] (.t 21) (.t 26), none⟩,
    ⟨some 28, .mov .cp (.t 27), none⟩,
    ⟨some 29, .mov .cp (.t 0), (some (28, false))⟩,
    ⟨some 30, .mov .cp (.t 5), (some (28, false))⟩,
    ⟨some 31, .ia 3 (.t 29) (.t 30), (some (28, false))⟩,
    ⟨some 32, .fa 2 (.t 31), (some (28, false))⟩,
    ⟨some 33, .ld .cp none (.t 32), (some (28, false))⟩,
    ⟨some 34, .mov .cp (.t 1), (some (28, false))⟩,
    ⟨some 35, .mov .cp (.t 5), (some (28, false))⟩,
    ⟨some 36, .ia 3 (.t 34) (.t 35), (some (28, false))⟩,
    ⟨some 37, .fa 2 (.t 36), (some (28, false))⟩,
    ⟨some 38, .ld .cp none (.t 37), (some (28, false))⟩,
    ⟨some 39, .callp 4114 [(.t 33), (.t 38)], (some (28, false))⟩,
    ⟨some 40, .un .not (.t 39), (some (28, false))⟩,
    ⟨some 41, .pick (.t 28) (.k (.c (.b (.d (.bool true))))) (.t 40), none⟩] [0, 1, 5, 41])
  (.cond (.t 41)
    (.seq (.region false [
      ⟨some 4, .mov .own (.k (.c (.b (.d (.bool false))))), none⟩] [4])
    .ret)
    .skip)))
  (.region false [
    ⟨some 15, .mov .cp (.t 5), none⟩,
    ⟨some 16, .bin .add (.t 15) (.k (.c (.b (.d (.int .i64 1))))), none⟩,
    ⟨some 5, .mov .cp (.t 16), none⟩] [0, 1, 5]))))
def f17v1_l0 : ACode := .loop f17v1_b0
theorem u17v1_l0 {bd : Bd} {s : St} {β : Type} {k : AExit → St → Option β} {fns : Nat → Option AFun} : K fns bd f17v1_l0 s k = K fns bd f17v1_b0 s (fun e s' => match e with | .normal => K fns bd f17v1_l0 s' k | e => k e s') := K_loop
/-- delver/delverkeep.Heap -/
def f17v1 : AFun := ⟨2,
  (.seq (.region false [
    ⟨some 4, .mov .own (.k (.c (.b (.d (.bool false))))), none⟩] [0, 1])
  (.seq (.seq (.region false [
    ⟨some 6, .mov .cp (.t 0), none⟩,
    ⟨some 7, .len 0 (.t 6), none⟩,
    ⟨some 8, .mov .cp (.t 1), none⟩,
    ⟨some 9, .len 0 (.t 8), none⟩,
    ⟨some 10, .bin .neq (.t 7) (.t 9), none⟩] [0, 1, 10])
  (.cond (.t 10)
    (.seq (.region false [
      ⟨some 4, .mov .own (.k (.c (.b (.d (.bool false))))), none⟩] [4])
    .ret)
    .skip))
  (.seq (.seq (.region false [
    ⟨some 5, .mov .cp (.k (.c (.b (.d (.int .i64 0))))), none⟩] [0, 1, 5])
  (.block 0 f17v1_l0))
  (.seq (.region false [
    ⟨some 4, .mov .own (.k (.c (.b (.d (.bool true))))), none⟩] [4])
  .ret)))), [(.tmp 4)], .pure, false⟩
/-- delver/delverref10.Same -/
def f19 : AFun := ⟨4,
  (.seq (.region false [
    ⟨some 8, .mov .own (.k (.c (.b (.d (.bool false))))), none⟩] [0, 1, 2, 3])
  (.seq (.region false [
    ⟨some 14, .mov .cp (.t 0), none⟩,
    ⟨some 15, .mov .cp (.t 1), none⟩,
    ⟨some 16, .callb 12 [(.t 14), (.t 15)], none⟩,
    ⟨some 13, .mov .own (.t 16), none⟩,
    ⟨some 17, .ext 0 (.t 13), none⟩,
    ⟨some 18, .ext 1 (.t 13), none⟩,
    ⟨some 9, .mov .cp (.t 17), none⟩,
    ⟨some 10, .mov .cp (.t 18), none⟩] [2, 3, 9, 10])
  (.seq (.region false [
    ⟨some 20, .mov .cp (.t 2), none⟩,
    ⟨some 21, .mov .cp (.t 3), none⟩,
    ⟨some 22, .callb 12 [(.t 20), (.t 21)], none⟩,
    ⟨some 19, .mov .own (.t 22), none⟩,
    ⟨some 23, .ext 0 (.t 19), none⟩,
    ⟨some 24, .ext 1 (.t 19), none⟩,
    ⟨some 11, .mov .cp (.t 23), none⟩,
    ⟨some 12, .mov .cp (.t 24), none⟩] [9, 10, 11, 12])
  (.seq (.region false [
    ⟨some 25, .mov .cp (.t 9), none⟩,
    ⟨some 26, .mov .cp (.t 11), none⟩,
    ⟨some 27, .callb 17 [(.t 25), (.t 26)], none⟩,
    ⟨some 28, .mov .cp (.t 27), none⟩,
    ⟨some 29, .mov .cp (.t 10), (some (28, true))⟩,
    ⟨some 30, .mov .cp (.t 12), (some (28, true))⟩,
    ⟨some 31, .callb 18 [(.t 29), (.t 30)], (some (28, true))⟩,
    ⟨some 32, .pick (.t 28) (.t 31) (.k (.c (.b (.d (.bool false))))), none⟩,
    ⟨some 8, .mov .own (.t 32), none⟩] [8])
  .ret)))), [(.tmp 8)], .pure, false⟩
/-- delver/delverkeep.Input -/
def f20 : AFun := ⟨2,
  (.seq (.region false [
    ⟨some 2, .box (.t 0), none⟩,
    ⟨some 3, .box (.t 1), none⟩,
    ⟨some 4, .mov .own (.k (.c (.b (.d (.bool false))))), none⟩] [2, 3])
  (.seq (.region false [
    ⟨some 5, .fa 0 (.t 2), none⟩,
    ⟨some 6, .ld .cp none (.t 5), none⟩,
    ⟨some 7, .fa 0 (.t 3), none⟩,
    ⟨some 8, .ld .cp none (.t 7), none⟩,
    ⟨some 9, .callb 18 [(.t 6), (.t 8)], none⟩,
    ⟨some 10, .mov .cp (.t 9), none⟩,
    ⟨some 11, .fa 1 (.t 2), (some (10, true))⟩,
    ⟨some 12, .ld .cp none (.t 11), (some (10, true))⟩,
    ⟨some 13, .fa 1 (.t 3), (some (10, true))⟩,
    ⟨some 14, .ld .cp none (.t 13), (some (10, true))⟩,
    ⟨some 15, .callb 17 [(.t 12), (.t 14)], (some (10, true))⟩,
    ⟨some 16, .pick (.t 10) (.t 15) (.k (.c (.b (.d (.bool false))))), none⟩,
    ⟨some 4, .mov .own (.t 16), none⟩] [4])
  .ret)), [(.tmp 4)], .pure, false⟩
/-- delver/delverlaw12.wakes -/
def f21 : AFun := ⟨0,
  (.seq (.region false [
    ⟨some 0, .mov .own (.k (.c (.b (.d (.bool false))))), none⟩] [])
  (.seq (.region false [
    ⟨some 7, .build [(.b (.d (.int .i64 0))), (.b (.d (.str ⟨#[]⟩)))] [(0, 1, (.k (.c (.b (.d (.int .i64 3)))))), (1, 1, (.k (.c (.b (.d (.str ⟨#[78]⟩))))))], none⟩,
    ⟨some 1, .alloc [(.b (.d (.int .i64 0))), (.b (.d (.str ⟨#[]⟩)))], none⟩,
    ⟨none, .st 2 (.t 1) (.t 7), none⟩] [1])
  (.seq (.region false [
    ⟨some 8, .ld .cp (some 2) (.t 1), none⟩,
    ⟨some 9, .build [(.b (.d (.bool false))), (.b (.d (.int .i64 0)))] [(0, 1, (.k (.c (.b (.d (.bool true)))))), (1, 1, (.k (.c (.b (.d (.int .i64 1))))))], none⟩,
    ⟨some 10, .bsl .own 2 1 [(.b (.d (.bool false))), (.b (.d (.int .i64 0)))] [(0, (.t 9))], none⟩,
    ⟨some 11, .build [(.b (.d (.int .i64 0))), (.b (.d (.str ⟨#[]⟩))), (.osl 2 [])] [(0, 2, (.t 8)), (2, 1, (.t 10))], none⟩,
    ⟨some 12, .ld .cp (some 2) (.t 1), none⟩,
    ⟨some 13, .build [(.b (.d (.bool false))), (.b (.d (.int .i64 0)))] [(0, 1, (.k (.c (.b (.d (.bool true)))))), (1, 1, (.k (.c (.b (.d (.int .i64 0))))))], none⟩,
    ⟨some 14, .bsl .own 2 1 [(.b (.d (.bool false))), (.b (.d (.int .i64 0)))] [(0, (.t 13))], none⟩,
    ⟨some 15, .build [(.b (.d (.int .i64 0))), (.b (.d (.str ⟨#[]⟩))), (.osl 2 [])] [(0, 2, (.t 12)), (2, 1, (.t 14))], none⟩,
    ⟨some 16, .bsl .own 3 2 [(.b (.d (.int .i64 0))), (.b (.d (.str ⟨#[]⟩))), (.osl 2 [])] [(0, (.t 11)), (1, (.t 15))], none⟩,
    ⟨some 2, .mov .cp (.t 16), none⟩] [2])
  (.seq (.region false [
    ⟨some 17, .build [(.b (.d (.bool false))), (.b (.d (.int .i64 0)))] [(0, 1, (.k (.c (.b (.d (.bool true))))))], none⟩,
    ⟨some 18, .bsl .own 2 1 [(.b (.d (.bool false))), (.b (.d (.int .i64 0)))] [(0, (.t 17))], none⟩,
    ⟨some 19, .build [(.b (.d (.bool false))), (.b (.d (.int .i64 0)))] [(0, 1, (.k (.c (.b (.d (.bool true)))))), (1, 1, (.k (.c (.b (.d (.int .i64 1))))))], none⟩,
    ⟨some 20, .bsl .own 2 1 [(.b (.d (.bool false))), (.b (.d (.int .i64 0)))] [(0, (.t 19))], none⟩,
    ⟨some 3, .mov .cp (.t 18), none⟩,
    ⟨some 4, .mov .cp (.t 20), none⟩] [2, 3, 4])
  (.seq (.region false [
    ⟨some 22, .mov .cp (.t 2), none⟩,
    ⟨some 23, .mov .cp (.t 4), none⟩,
    ⟨some 24, .callb 11 [(.t 22), (.t 23)], none⟩,
    ⟨some 21, .mov .own (.t 24), none⟩,
    ⟨some 25, .ext 0 (.t 21), none⟩,
    ⟨some 26, .ext 1 (.t 21), none⟩,
    ⟨some 5, .mov .cp (.t 25), none⟩,
    ⟨some 6, .mov .cp (.t 26), none⟩] [2, 3, 4, 5, 6])
  (.seq (.region false [
    ⟨some 27, .mov .cp (.t 2), none⟩,
    ⟨some 28, .mov .cp (.t 3), none⟩,
    ⟨some 29, .mov .cp (.t 2), none⟩,
    ⟨some 30, .mov .cp (.t 4), none⟩,
    ⟨some 31, .callb 13 [(.t 27), (.t 28), (.t 29), (.t 30)], none⟩,
    ⟨some 32, .mov .cp (.t 31), none⟩,
    ⟨some 33, .mov .cp (.t 5), (some (32, true))⟩,
    ⟨some 34, .len 0 (.t 33), (some (32, true))⟩,
    ⟨some 35, .bin .eql (.t 34) (.k (.c (.b (.d (.int .i64 2))))), (some (32, true))⟩,
    ⟨some 36, .pick (.t 32) (.t 35) (.k (.c (.b (.d (.bool false))))), none⟩,
    ⟨some 37, .mov .cp (.t 36), none⟩,
    ⟨some 38, .mov .cp (.t 6), (some (37, true))⟩,
    ⟨some 39, .len 0 (.t 38), (some (37, true))⟩,
    ⟨some 40, .bin .eql (.t 39) (.k (.c (.b (.d (.int .i64 1))))), (some (37, true))⟩,
    ⟨some 41, .pick (.t 37) (.t 40) (.k (.c (.b (.d (.bool false))))), none⟩,
    ⟨some 42, .mov .cp (.t 41), none⟩,
    ⟨some 43, .mov .cp (.t 6), (some (42, true))⟩,
    ⟨some 44, .ia 2 (.t 43) (.k (.c (.b (.d (.int .i64 0))))), (some (42, true))⟩,
    ⟨some 45, .fa 1 (.t 44), (some (42, true))⟩,
    ⟨some 46, .ld .cp none (.t 45), (some (42, true))⟩,
    ⟨some 47, .bin .eql (.t 46) (.k (.c (.b (.d (.int .i64 0))))), (some (42, true))⟩,
    ⟨some 48, .pick (.t 42) (.t 47) (.k (.c (.b (.d (.bool false))))), none⟩,
    ⟨some 49, .mov .cp (.t 48), none⟩,
    ⟨some 50, .mov .cp (.t 2), (some (49, true))⟩,
    ⟨some 51, .mov .cp (.t 4), (some (49, true))⟩,
    ⟨some 52, .callb 15 [(.t 50), (.t 51)], (some (49, true))⟩,
    ⟨some 53, .bsl .own 1 2 [(.b (.d (.int .i64 0)))] [(0, (.k (.c (.b (.d (.int .i64 1)))))), (1, (.k (.c (.b (.d (.int .i64 0))))))], (some (49, true))⟩,
    ⟨some 54, .callb 14 [(.t 52), (.t 53)], (some (49, true))⟩,
    ⟨some 55, .pick (.t 49) (.t 54) (.k (.c (.b (.d (.bool false))))), none⟩,
    ⟨some 56, .mov .cp (.t 55), none⟩,
    ⟨some 57, .mov .cp (.t 2), (some (56, true))⟩,
    ⟨some 58, .mov .cp (.t 3), (some (56, true))⟩,
    ⟨some 59, .mov .cp (.t 2), (some (56, true))⟩,
    ⟨some 60, .callb 13 [(.t 57), (.t 58), (.t 59), (.k (.c (.osl 2 [])))], (some (56, true))⟩,
    ⟨some 61, .un .not (.t 60), (some (56, true))⟩,
    ⟨some 62, .pick (.t 56) (.t 61) (.k (.c (.b (.d (.bool false))))), none⟩,
    ⟨some 0, .mov .own (.t 62), none⟩] [0])
  .ret)))))), [(.tmp 0)], .pure, false⟩
def f3_b0 : ACode := (.wrap false [2, 3, 5, 6, 7, 12, 13] [4] [(2, [2, 3, 5, 6, 7, 12])]
  (.seq (.seq (.region false [
    ⟨some 92, .mov .cp (.t 13), none⟩,
    ⟨some 93, .mov .cp (.t 7), none⟩,
    ⟨some 94, .mov .cp (.t 12), none⟩,
    ⟨some 95, .ia 3 (.t 93) (.t 94), none⟩,
    ⟨some 96, .fa 2 (.t 95), none⟩,
    ⟨some 97, .ld .cp none (.t 96), none⟩,
    ⟨some 98, .len 0 (.t 97), none⟩,
    ⟨some 99, .bin .lss (.t 92) (.t 98), none⟩] [2, 3, 5, 6, 7, 12, 13, 99])
  (.cond (.t 99)
    .skip
    (.exit 2)))
  (.seq (.block 3 (.region true [
    ⟨some 102, .mov .cp (.t 7), none⟩,
    ⟨some 103, .mov .cp (.t 12), none⟩,
    ⟨some 104, .ia 3 (.t 102) (.t 103), none⟩,
    ⟨some 105, .fa 2 (.t 104), none⟩,
    ⟨some 106, .ld .cp none (.t 105), none⟩,
    ⟨some 107, .mov .cp (.t 13), none⟩,
    ⟨some 108, .mov .cp (.t 7), none⟩,
    ⟨some 109, .mov .cp (.t 12), none⟩,
    ⟨some 110, .ia 3 (.t 108) (.t 109), none⟩,
    ⟨some 111, .fa 2 (.t 110), none⟩,
    ⟨some 112, .ld .cp none (.t 111), none⟩,
    ⟨some 113, .mov .cp (.t 13), none⟩,
    ⟨some 114, .ia 2 (.t 112) (.t 113), none⟩,
    ⟨some 115, .fa 1 (.t 114), none⟩,
    ⟨some 116, .ld .cp none (.t 115), none⟩,
    ⟨some 117, .bin .add (.t 116) (.k (.c (.b (.d (.int .i64 1))))), none⟩,
    ⟨some 118, .ia 2 (.t 106) (.t 107), none⟩,
    ⟨some 119, .fa 1 (.t 118), none⟩,
    ⟨none, .st 1 (.t 119) (.t 117), none⟩] [2, 3, 5, 6, 7, 12, 13]))
  (.region false [
    ⟨some 100, .mov .cp (.t 13), none⟩,
    ⟨some 101, .bin .add (.t 100) (.k (.c (.b (.d (.int .i64 1))))), none⟩,
    ⟨some 13, .mov .cp (.t 101), none⟩] [2, 3, 5, 6, 7, 12, 13]))))
def f3_l0 : ACode := .loop f3_b0
theorem u3_l0 {bd : Bd} {s : St} {β : Type} {k : AExit → St → Option β} {fns : Nat → Option AFun} : K fns bd f3_l0 s k = K fns bd f3_b0 s (fun e s' => match e with | .normal => K fns bd f3_l0 s' k | e => k e s') := K_loop
def f3_b1 : ACode := (.wrap false [2, 3, 5, 6, 7, 12] [4] [(0, [2, 3, 5, 6])]
  (.seq (.seq (.region false [
    ⟨some 86, .mov .cp (.t 12), none⟩,
    ⟨some 87, .mov .cp (.t 7), none⟩,
    ⟨some 88, .len 0 (.t 87), none⟩,
    ⟨some 89, .bin .lss (.t 86) (.t 88), none⟩] [2, 3, 5, 6, 7, 12, 89])
  (.cond (.t 89)
    .skip
    (.exit 0)))
  (.seq (.block 1 (.seq (.region false [
    ⟨some 13, .mov .cp (.k (.c (.b (.d (.int .i64 0))))), none⟩] [2, 3, 5, 6, 7, 12, 13])
  (.block 2 f3_l0)))
  (.region false [
    ⟨some 90, .mov .cp (.t 12), none⟩,
    ⟨some 91, .bin .add (.t 90) (.k (.c (.b (.d (.int .i64 1))))), none⟩,
    ⟨some 12, .mov .cp (.t 91), none⟩] [2, 3, 5, 6, 7, 12]))))
def f3_l1 : ACode := .loop f3_b1
theorem u3_l1 {bd : Bd} {s : St} {β : Type} {k : AExit → St → Option β} {fns : Nat → Option AFun} : K fns bd f3_l1 s k = K fns bd f3_b1 s (fun e s' => match e with | .normal => K fns bd f3_l1 s' k | e => k e s') := K_loop
/-- delver/delverlaw12.IsoExact -/
def f3 : AFun := ⟨2,
  (.seq (.region false [
    ⟨some 2, .box (.t 0), none⟩,
    ⟨some 3, .box (.t 1), none⟩,
    ⟨some 4, .mov .own (.k (.c (.b (.d (.bool false))))), none⟩] [2, 3])
  (.seq (.seq (.region false [
    ⟨some 14, .ld .cp (some 2) (.t 2), none⟩,
    ⟨some 15, .callb 9 [(.t 14)], none⟩,
    ⟨some 16, .mov .cp (.t 15), none⟩,
    ⟨some 17, .ld .cp (some 2) (.t 3), (some (16, false))⟩,
    ⟨some 18, .callb 9 [(.t 17)], (some (16, false))⟩,
    ⟨some 19, .pick (.t 16) (.k (.c (.b (.d (.bool true))))) (.t 18), none⟩] [2, 3, 19])
  (.cond (.t 19)
    (.seq (.region false [
      ⟨some 4, .mov .own (.k (.c (.b (.d (.bool true))))), none⟩] [4])
    .ret)
    .skip))
  (.seq (.region true [
    ⟨some 20, .ld .cp (some 2) (.t 2), none⟩,
    ⟨some 21, .callb 10 [(.t 20)], none⟩,
    ⟨some 22, .ld .cp (some 2) (.t 3), none⟩,
    ⟨some 23, .callb 10 [(.t 22)], none⟩,
    ⟨some 5, .alloc [(.osl 2 []), (.osl 3 [])], none⟩,
    ⟨some 6, .alloc [(.osl 2 []), (.osl 3 [])], none⟩,
    ⟨none, .st 2 (.t 5) (.t 21), none⟩,
    ⟨none, .st 2 (.t 6) (.t 23), none⟩] [2, 3, 5, 6])
  (.seq (.region false [
    ⟨some 25, .fa 1 (.t 5), none⟩,
    ⟨some 26, .ld .cp none (.t 25), none⟩,
    ⟨some 27, .fa 0 (.t 5), none⟩,
    ⟨some 28, .ld .cp none (.t 27), none⟩,
    ⟨some 29, .call 4107 [(.t 26), (.t 28)], none⟩,
    ⟨some 24, .mov .own (.t 29), none⟩,
    ⟨some 30, .ext 0 (.t 24), none⟩,
    ⟨some 31, .ext 1 (.t 24), none⟩,
    ⟨some 7, .mov .cp (.t 30), none⟩,
    ⟨some 8, .mov .cp (.t 31), none⟩] [2, 3, 5, 6, 7, 8])
  (.seq (.region false [
    ⟨some 33, .fa 1 (.t 2), none⟩,
    ⟨some 34, .ld .cp none (.t 33), none⟩,
    ⟨some 35, .fa 0 (.t 2), none⟩,
    ⟨some 36, .ld .cp none (.t 35), none⟩,
    ⟨some 37, .callb 12 [(.t 34), (.t 36)], none⟩,
    ⟨some 32, .mov .own (.t 37), none⟩,
    ⟨some 38, .ext 0 (.t 32), none⟩,
    ⟨some 39, .ext 1 (.t 32), none⟩,
    ⟨some 9, .mov .cp (.t 38), none⟩,
    ⟨some 10, .mov .cp (.t 39), none⟩] [2, 3, 5, 6, 7, 8, 9, 10])
  (.seq (.region false [
    ⟨some 40, .fa 1 (.t 5), none⟩,
    ⟨some 41, .ld .cp none (.t 40), none⟩,
    ⟨some 42, .fa 0 (.t 5), none⟩,
    ⟨some 43, .ld .cp none (.t 42), none⟩,
    ⟨some 44, .fa 1 (.t 6), none⟩,
    ⟨some 45, .ld .cp none (.t 44), none⟩,
    ⟨some 46, .fa 0 (.t 6), none⟩,
    ⟨some 47, .ld .cp none (.t 46), none⟩,
    ⟨some 48, .callb 13 [(.t 41), (.t 43), (.t 45), (.t 47)], none⟩,
    ⟨some 11, .mov .cp (.t 48), none⟩] [2, 3, 5, 6, 7, 8, 9, 10, 11])
  (.seq (.seq (.region true [
    ⟨some 49, .fa 1 (.t 5), none⟩,
    ⟨some 50, .ld .cp none (.t 49), none⟩,
    ⟨some 51, .fa 0 (.t 5), none⟩,
    ⟨some 52, .ld .cp none (.t 51), none⟩,
    ⟨some 53, .callb 15 [(.t 50), (.t 52)], none⟩,
    ⟨some 54, .fa 1 (.t 2), none⟩,
    ⟨some 55, .ld .cp none (.t 54), none⟩,
    ⟨some 56, .fa 0 (.t 2), none⟩,
    ⟨some 57, .ld .cp none (.t 56), none⟩,
    ⟨some 58, .callb 16 [(.t 55), (.t 57)], none⟩,
    ⟨some 59, .callb 14 [(.t 53), (.t 58)], none⟩,
    ⟨some 60, .un .not (.t 59), none⟩,
    ⟨some 61, .mov .cp (.t 60), none⟩,
    ⟨some 62, .mov .cp (.t 7), (some (61, false))⟩,
    ⟨some 63, .mov .cp (.t 9), (some (61, false))⟩,
    ⟨some 64, .callp 4113 [(.t 62), (.t 63)], (some (61, false))⟩,
    ⟨some 65, .un .not (.t 64), (some (61, false))⟩,
    ⟨some 66, .pick (.t 61) (.k (.c (.b (.d (.bool true))))) (.t 65), none⟩,
    ⟨some 67, .mov .cp (.t 66), none⟩,
    ⟨some 68, .mov .cp (.t 8), (some (67, false))⟩,
    ⟨some 69, .mov .cp (.t 10), (some (67, false))⟩,
    ⟨some 70, .callb 18 [(.t 68), (.t 69)], (some (67, false))⟩,
    ⟨some 71, .un .not (.t 70), (some (67, false))⟩,
    ⟨some 72, .pick (.t 67) (.k (.c (.b (.d (.bool true))))) (.t 71), none⟩,
    ⟨some 73, .mov .cp (.t 72), none⟩,
    ⟨some 74, .mov .cp (.t 11), (some (73, false))⟩,
    ⟨some 75, .fa 1 (.t 2), (some (73, false))⟩,
    ⟨some 76, .ld .cp none (.t 75), (some (73, false))⟩,
    ⟨some 77, .fa 0 (.t 2), (some (73, false))⟩,
    ⟨some 78, .ld .cp none (.t 77), (some (73, false))⟩,
    ⟨some 79, .fa 1 (.t 3), (some (73, false))⟩,
    ⟨some 80, .ld .cp none (.t 79), (some (73, false))⟩,
    ⟨some 81, .fa 0 (.t 3), (some (73, false))⟩,
    ⟨some 82, .ld .cp none (.t 81), (some (73, false))⟩,
    ⟨some 83, .callb 19 [(.t 76), (.t 78), (.t 80), (.t 82)], (some (73, false))⟩,
    ⟨some 84, .eq true 0 [] (.t 74) (.t 83), (some (73, false))⟩,
    ⟨some 85, .pick (.t 73) (.k (.c (.b (.d (.bool true))))) (.t 84), none⟩] [2, 3, 5, 6, 7, 85])
  (.cond (.t 85)
    (.seq (.region false [
      ⟨some 4, .mov .own (.k (.c (.b (.d (.bool false))))), none⟩] [4])
    .ret)
    .skip))
  (.seq (.seq (.region false [
    ⟨some 12, .mov .cp (.k (.c (.b (.d (.int .i64 0))))), none⟩] [2, 3, 5, 6, 7, 12])
  (.block 0 f3_l1))
  (.seq (.region false [
    ⟨some 120, .ld .cp (some 2) (.t 5), none⟩,
    ⟨some 121, .ld .cp (some 2) (.t 2), none⟩,
    ⟨some 122, .callb 20 [(.t 120), (.t 121)], none⟩,
    ⟨some 123, .mov .cp (.t 122), none⟩,
    ⟨some 124, .ld .cp (some 2) (.t 6), (some (123, true))⟩,
    ⟨some 125, .ld .cp (some 2) (.t 3), (some (123, true))⟩,
    ⟨some 126, .callb 20 [(.t 124), (.t 125)], (some (123, true))⟩,
    ⟨some 127, .pick (.t 123) (.t 126) (.k (.c (.b (.d (.bool false))))), none⟩,
    ⟨some 128, .mov .cp (.t 127), none⟩,
    ⟨some 129, .callb 21 [], (some (128, true))⟩,
    ⟨some 130, .pick (.t 128) (.t 129) (.k (.c (.b (.d (.bool false))))), none⟩,
    ⟨some 4, .mov .own (.t 130), none⟩] [4])
  .ret))))))))), [(.tmp 4)], .pure, false⟩
def f22_b0 : ACode := (.wrap true [0, 1, 5] [4] [(0, [])]
  (.seq (.seq (.region false [
    ⟨some 6, .mov .cp (.t 5), none⟩,
    ⟨some 7, .mov .cp (.t 0), none⟩,
    ⟨some 8, .len 0 (.t 7), none⟩,
    ⟨some 9, .bin .lss (.t 6) (.t 8), none⟩] [0, 1, 5, 9])
  (.cond (.t 9)
    .skip
    (.exit 0)))
  (.seq (.block 1 (.seq (.region false [
    ⟨some 12, .mov .cp (.t 0), none⟩,
    ⟨some 13, .mov .cp (.t 5), none⟩,
    ⟨some 14, .ia 2 (.t 12) (.t 13), none⟩,
    ⟨some 15, .fa 0 (.t 14), none⟩,
    ⟨some 16, .ld .cp none (.t 15), none⟩,
    ⟨some 17, .mov .cp (.t 16), none⟩,
    ⟨some 18, .mov .cp (.t 0), (some (17, true))⟩,
    ⟨some 19, .mov .cp (.t 5), (some (17, true))⟩,
    ⟨some 20, .ia 2 (.t 18) (.t 19), (some (17, true))⟩,
    ⟨some 21, .fa 1 (.t 20), (some (17, true))⟩,
    ⟨some 22, .ld .cp none (.t 21), (some (17, true))⟩,
    ⟨some 23, .bin .lss (.t 22) (.k (.c (.b (.d (.int .i64 (-1)))))), (some (17, true))⟩,
    ⟨some 24, .mov .cp (.t 23), (some (17, true))⟩,
    ⟨some 25, .mov .cp (.t 0), (some (24, false))⟩,
    ⟨some 26, .mov .cp (.t 5), (some (24, false))⟩,
    ⟨some 27, .ia 2 (.t 25) (.t 26), (some (24, false))⟩,
    ⟨some 28, .fa 1 (.t 27), (some (24, false))⟩,
    ⟨some 29, .ld .cp none (.t 28), (some (24, false))⟩,
    ⟨some 30, .mov .cp (.t 1), (some (24, false))⟩,
    ⟨some 31, .bin .geq (.t 29) (.t 30), (some (24, false))⟩,
    ⟨some 32, .pick (.t 24) (.k (.c (.b (.d (.bool true))))) (.t 31), (some (17, true))⟩,
    ⟨some 33, .pick (.t 17) (.t 32) (.k (.c (.b (.d (.bool false))))), none⟩] [0, 1, 5, 33])
  (.cond (.t 33)
    (.seq (.region false [
      ⟨some 4, .mov .own (.k (.c (.b (.d (.bool false))))), none⟩] [4])
    .ret)
    .skip)))
  (.region false [
    ⟨some 10, .mov .cp (.t 5), none⟩,
    ⟨some 11, .bin .add (.t 10) (.k (.c (.b (.d (.int .i64 1))))), none⟩,
    ⟨some 5, .mov .cp (.t 11), none⟩] [0, 1, 5]))))
def f22_l0 : ACode := .loop f22_b0
theorem u22_l0 {bd : Bd} {s : St} {β : Type} {k : AExit → St → Option β} {fns : Nat → Option AFun} : K fns bd f22_l0 s k = K fns bd f22_b0 s (fun e s' => match e with | .normal => K fns bd f22_l0 s' k | e => k e s') := K_loop
/-- delver/delverlaw12.there -/
def f22 : AFun := ⟨2,
  (.seq (.region false [
    ⟨some 4, .mov .own (.k (.c (.b (.d (.bool false))))), none⟩] [0, 1])
  (.seq (.seq (.region false [
    ⟨some 5, .mov .cp (.k (.c (.b (.d (.int .i64 0))))), none⟩] [0, 1, 5])
  (.block 0 f22_l0))
  (.seq (.region false [
    ⟨some 4, .mov .own (.k (.c (.b (.d (.bool true))))), none⟩] [4])
  .ret))), [(.tmp 4)], .pure, false⟩
def f34_b0 : ACode := (.wrap false [0, 1, 2, 6] [] [(0, [])]
  (.seq (.seq (.region false [
    ⟨some 7, .mov .cp (.t 6), none⟩,
    ⟨some 8, .mov .cp (.t 0), none⟩,
    ⟨some 9, .len 0 (.t 8), none⟩,
    ⟨some 10, .bin .lss (.t 7) (.t 9), none⟩] [0, 1, 2, 6, 10])
  (.cond (.t 10)
    .skip
    (.exit 0)))
  (.seq (.block 1 (.seq (.region false [
    ⟨some 13, .mov .cp (.t 0), none⟩,
    ⟨some 14, .mov .cp (.t 6), none⟩,
    ⟨some 15, .ia 2 (.t 13) (.t 14), none⟩,
    ⟨some 16, .fa 0 (.t 15), none⟩,
    ⟨some 17, .ld .cp none (.t 16), none⟩,
    ⟨some 18, .mov .cp (.t 17), none⟩,
    ⟨some 19, .mov .cp (.t 0), (some (18, true))⟩,
    ⟨some 20, .mov .cp (.t 6), (some (18, true))⟩,
    ⟨some 21, .ia 2 (.t 19) (.t 20), (some (18, true))⟩,
    ⟨some 22, .fa 1 (.t 21), (some (18, true))⟩,
    ⟨some 23, .ld .cp none (.t 22), (some (18, true))⟩,
    ⟨some 24, .bin .geq (.t 23) (.k (.c (.b (.d (.int .i64 0))))), (some (18, true))⟩,
    ⟨some 25, .pick (.t 18) (.t 24) (.k (.c (.b (.d (.bool false))))), none⟩,
    ⟨some 26, .mov .cp (.t 25), none⟩,
    ⟨some 27, .mov .cp (.t 0), (some (26, true))⟩,
    ⟨some 28, .mov .cp (.t 6), (some (26, true))⟩,
    ⟨some 29, .ia 2 (.t 27) (.t 28), (some (26, true))⟩,
    ⟨some 30, .fa 1 (.t 29), (some (26, true))⟩,
    ⟨some 31, .ld .cp none (.t 30), (some (26, true))⟩,
    ⟨some 32, .mov .cp (.t 1), (some (26, true))⟩,
    ⟨some 33, .bin .lss (.t 31) (.t 32), (some (26, true))⟩,
    ⟨some 34, .pick (.t 26) (.t 33) (.k (.c (.b (.d (.bool false))))), none⟩] [0, 1, 2, 6, 34])
  (.cond (.t 34)
    (.region false [
      ⟨some 35, .mov .cp (.t 0), none⟩,
      ⟨some 36, .mov .cp (.t 6), none⟩,
      ⟨some 37, .mov .cp (.t 0), none⟩,
      ⟨some 38, .mov .cp (.t 6), none⟩,
      ⟨some 39, .ia 2 (.t 37) (.t 38), none⟩,
      ⟨some 40, .fa 1 (.t 39), none⟩,
      ⟨some 41, .ld .cp none (.t 40), none⟩,
      ⟨some 42, .mov .cp (.t 2), none⟩,
      ⟨some 43, .bin .sub (.t 41) (.t 42), none⟩,
      ⟨some 44, .mov .cp (.t 1), none⟩,
      ⟨some 45, .bin .add (.t 43) (.t 44), none⟩,
      ⟨some 46, .mov .cp (.t 1), none⟩,
      ⟨some 47, .bin .rem (.t 45) (.t 46), none⟩,
      ⟨some 48, .ia 2 (.t 35) (.t 36), none⟩,
      ⟨some 49, .fa 1 (.t 48), none⟩,
      ⟨none, .st 1 (.t 49) (.t 47), none⟩] [0, 1, 2, 6])
    .skip)))
  (.region false [
    ⟨some 11, .mov .cp (.t 6), none⟩,
    ⟨some 12, .bin .add (.t 11) (.k (.c (.b (.d (.int .i64 1))))), none⟩,
    ⟨some 6, .mov .cp (.t 12), none⟩] [0, 1, 2, 6]))))
def f34_l0 : ACode := .loop f34_b0
theorem u34_l0 {bd : Bd} {s : St} {β : Type} {k : AExit → St → Option β} {fns : Nat → Option AFun} : K fns bd f34_l0 s k = K fns bd f34_b0 s (fun e s' => match e with | .normal => K fns bd f34_l0 s' k | e => k e s') := K_loop
/-- delver/delverlaw12.turned -/
def f34 : AFun := ⟨3,
  (.seq (.region false [
    ⟨some 6, .mov .cp (.k (.c (.b (.d (.int .i64 0))))), none⟩] [0, 1, 2, 6])
  (.block 0 f34_l0)), [], .trim, false⟩
def f23_b0 : ACode := (.wrap false [1, 2, 3, 6, 7, 8, 9] [6] [(0, [1, 2, 6, 7, 8])]
  (.seq (.seq (.region false [
    ⟨some 29, .mov .cp (.t 9), none⟩,
    ⟨some 30, .mov .cp (.t 7), none⟩,
    ⟨some 31, .bin .lss (.t 29) (.t 30), none⟩] [1, 2, 3, 6, 7, 8, 9, 31])
  (.cond (.t 31)
    .skip
    (.exit 0)))
  (.seq (.block 1 (.seq (.region true [
    ⟨some 34, .fa 1 (.t 3), none⟩,
    ⟨some 35, .ld .cp none (.t 34), none⟩,
    ⟨some 36, .mov .cp (.t 9), none⟩,
    ⟨some 37, .mov .cp (.t 1), none⟩,
    ⟨some 38, .bin .add (.t 36) (.t 37), none⟩,
    ⟨some 39, .mov .cp (.t 7), none⟩,
    ⟨some 40, .bin .rem (.t 38) (.t 39), none⟩,
    ⟨some 41, .ia 3 (.t 35) (.t 40), none⟩,
    ⟨some 42, .ld .cp (some 3) (.t 41), none⟩,
    ⟨some 10, .alloc [(.b (.d (.int .i64 0))), (.b (.d (.str ⟨#[]⟩))), (.osl 2 [])], none⟩,
    ⟨none, .st 3 (.t 10) (.t 42), none⟩] [1, 2, 3, 6, 7, 8, 9, 10])
  (.region true [
    ⟨some 43, .fa 1 (.t 8), none⟩,
    ⟨some 44, .ld .cp none (.t 43), none⟩,
    ⟨some 45, .fa 0 (.t 10), none⟩,
    ⟨some 46, .ld .cp (some 2) (.t 45), none⟩,
    ⟨some 47, .fa 2 (.t 10), none⟩,
    ⟨some 48, .ld .cp none (.t 47), none⟩,
    ⟨some 49, .callp 4121 [(.t 48)], none⟩,
    ⟨some 50, .build [(.b (.d (.int .i64 0))), (.b (.d (.str ⟨#[]⟩))), (.b .nils)] [(0, 2, (.t 46)), (2, 1, (.t 49))], none⟩,
    ⟨some 51, .bsl .arr 3 1 [(.b (.d (.int .i64 0))), (.b (.d (.str ⟨#[]⟩))), (.osl 2 [])] [(0, (.t 50))], none⟩,
    ⟨some 52, .appa 3 48 (.t 44) (.t 51), none⟩,
    ⟨some 53, .fa 1 (.t 8), none⟩,
    ⟨none, .st 1 (.t 53) (.t 52), none⟩] [1, 2, 3, 6, 7, 8, 9])))
  (.region false [
    ⟨some 32, .mov .cp (.t 9), none⟩,
    ⟨some 33, .bin .add (.t 32) (.k (.c (.b (.d (.int .i64 1))))), none⟩,
    ⟨some 9, .mov .cp (.t 33), none⟩] [1, 2, 3, 6, 7, 8, 9]))))
def f23_l0 : ACode := .loop f23_b0
theorem u23_l0 {bd : Bd} {s : St} {β : Type} {k : AExit → St → Option β} {fns : Nat → Option AFun} : K fns bd f23_l0 s k = K fns bd f23_b0 s (fun e s' => match e with | .normal => K fns bd f23_l0 s' k | e => k e s') := K_loop
def f23_b1 : ACode := (.wrap false [1, 2, 6, 7, 8, 11] [6] [(2, [2, 6, 8])]
  (.seq (.seq (.region false [
    ⟨some 59, .mov .cp (.t 11), none⟩,
    ⟨some 60, .mov .cp (.t 7), none⟩,
    ⟨some 61, .bin .lss (.t 59) (.t 60), none⟩] [1, 2, 6, 7, 8, 11, 61])
  (.cond (.t 61)
    .skip
    (.exit 2)))
  (.seq (.block 3 (.region false [
    ⟨some 64, .fa 1 (.t 8), none⟩,
    ⟨some 65, .ld .cp none (.t 64), none⟩,
    ⟨some 66, .mov .cp (.t 11), none⟩,
    ⟨some 67, .ia 3 (.t 65) (.t 66), none⟩,
    ⟨some 68, .fa 2 (.t 67), none⟩,
    ⟨some 69, .ld .cp none (.t 68), none⟩,
    ⟨some 70, .mov .cp (.t 7), none⟩,
    ⟨some 71, .mov .cp (.t 1), none⟩,
    ⟨some 72, .call 34 [(.t 69), (.t 70), (.t 71)], none⟩] [1, 2, 6, 7, 8, 11]))
  (.region false [
    ⟨some 62, .mov .cp (.t 11), none⟩,
    ⟨some 63, .bin .add (.t 62) (.k (.c (.b (.d (.int .i64 1))))), none⟩,
    ⟨some 11, .mov .cp (.t 63), none⟩] [1, 2, 6, 7, 8, 11]))))
def f23_l1 : ACode := .loop f23_b1
theorem u23_l1 {bd : Bd} {s : St} {β : Type} {k : AExit → St → Option β} {fns : Nat → Option AFun} : K fns bd f23_l1 s k = K fns bd f23_b1 s (fun e s' => match e with | .normal => K fns bd f23_l1 s' k | e => k e s') := K_loop
/-- delver/delverlaw12.Turn -/
def f23 : AFun := ⟨3,
  (.seq (.region false [
    ⟨some 3, .box (.t 0), none⟩,
    ⟨some 6, .alloc [(.osl 2 []), (.osl 3 [])], none⟩] [1, 2, 3, 6])
  (.seq (.region false [
    ⟨some 12, .fa 1 (.t 3), none⟩,
    ⟨some 13, .ld .cp none (.t 12), none⟩,
    ⟨some 14, .len 0 (.t 13), none⟩,
    ⟨some 7, .mov .cp (.t 14), none⟩] [1, 2, 3, 6, 7])
  (.seq (.seq (.region false [
    ⟨some 15, .mov .cp (.t 7), none⟩,
    ⟨some 16, .bin .eql (.t 15) (.k (.c (.b (.d (.int .i64 0))))), none⟩] [1, 2, 3, 6, 7, 16])
  (.cond (.t 16)
    (.seq (.region false [
      ⟨some 17, .ld .cp (some 2) (.t 3), none⟩,
      ⟨some 18, .callb 10 [(.t 17)], none⟩,
      ⟨none, .st 2 (.t 6) (.t 18), none⟩] [6])
    .ret)
    .skip))
  (.seq (.region false [
    ⟨some 19, .mov .cp (.t 1), none⟩,
    ⟨some 20, .conv .u64 (.t 19), none⟩,
    ⟨some 21, .mov .cp (.t 7), none⟩,
    ⟨some 22, .conv .u64 (.t 21), none⟩,
    ⟨some 23, .bin .rem (.t 20) (.t 22), none⟩,
    ⟨some 24, .conv .i64 (.t 23), none⟩,
    ⟨some 1, .mov .cp (.t 24), none⟩] [1, 2, 3, 6, 7])
  (.seq (.region false [
    ⟨some 25, .fa 0 (.t 3), none⟩,
    ⟨some 26, .ld .cp none (.t 25), none⟩,
    ⟨some 27, .call 4121 [(.t 26)], none⟩,
    ⟨some 28, .build [(.b .nils), (.b .nils)] [(0, 1, (.t 27))], none⟩,
    ⟨some 8, .alloc [(.b .nils), (.b .nils)], none⟩,
    ⟨none, .st 2 (.t 8) (.t 28), none⟩] [1, 2, 3, 6, 7, 8])
  (.seq (.seq (.region false [
    ⟨some 9, .mov .cp (.k (.c (.b (.d (.int .i64 0))))), none⟩] [1, 2, 3, 6, 7, 8, 9])
  (.block 0 f23_l0))
  (.seq (.region false [
    ⟨some 54, .fa 0 (.t 8), none⟩,
    ⟨some 55, .ld .cp none (.t 54), none⟩,
    ⟨some 56, .mov .cp (.t 7), none⟩,
    ⟨some 57, .mov .cp (.t 1), none⟩,
    ⟨some 58, .call 34 [(.t 55), (.t 56), (.t 57)], none⟩] [1, 2, 6, 7, 8])
  (.seq (.seq (.region false [
    ⟨some 11, .mov .cp (.k (.c (.b (.d (.int .i64 0))))), none⟩] [1, 2, 6, 7, 8, 11])
  (.block 2 f23_l1))
  (.seq (.seq (.region false [
    ⟨some 73, .mov .cp (.t 2), none⟩] [6, 8, 73])
  (.cond (.t 73)
    (.region false [
      ⟨some 74, .fa 1 (.t 8), none⟩,
      ⟨some 75, .ld .cp none (.t 74), none⟩,
      ⟨some 76, .build [(.b (.d (.int .i64 0))), (.b (.d (.str ⟨#[]⟩)))] [(0, 1, (.k (.c (.b (.d (.int .i64 4))))))], none⟩,
      ⟨some 77, .build [(.b (.d (.int .i64 0))), (.b (.d (.str ⟨#[]⟩))), (.b .nils)] [(0, 2, (.t 76))], none⟩,
      ⟨some 78, .bsl .arr 3 1 [(.b (.d (.int .i64 0))), (.b (.d (.str ⟨#[]⟩))), (.osl 2 [])] [(0, (.t 77))], none⟩,
      ⟨some 79, .appa 3 48 (.t 75) (.t 78), none⟩,
      ⟨some 80, .fa 1 (.t 8), none⟩,
      ⟨none, .st 1 (.t 80) (.t 79), none⟩] [6, 8])
    .skip))
  (.seq (.region false [
    ⟨some 81, .ld .cp (some 2) (.t 8), none⟩,
    ⟨none, .st 2 (.t 6) (.t 81), none⟩] [6])
  .ret)))))))))), [(.cell 6 (some 2))], .pure, false⟩
def f4_b0 : ACode := (.wrap true [1, 2, 3, 7] [6] [(0, [1, 2, 3])]
  (.seq (.seq (.region false [
    ⟨some 24, .mov .cp (.t 7), none⟩,
    ⟨some 25, .fa 1 (.t 3), none⟩,
    ⟨some 26, .ld .cp none (.t 25), none⟩,
    ⟨some 27, .len 0 (.t 26), none⟩,
    ⟨some 28, .bin .lss (.t 24) (.t 27), none⟩] [1, 2, 3, 7, 28])
  (.cond (.t 28)
    .skip
    (.exit 0)))
  (.seq (.block 1 (.seq (.region true [
    ⟨some 31, .fa 1 (.t 3), none⟩,
    ⟨some 32, .ld .cp none (.t 31), none⟩,
    ⟨some 33, .mov .cp (.t 7), none⟩,
    ⟨some 34, .ia 3 (.t 32) (.t 33), none⟩,
    ⟨some 35, .fa 2 (.t 34), none⟩,
    ⟨some 36, .ld .cp none (.t 35), none⟩,
    ⟨some 37, .fa 1 (.t 3), none⟩,
    ⟨some 38, .ld .cp none (.t 37), none⟩,
    ⟨some 39, .len 0 (.t 38), none⟩,
    ⟨some 40, .callb 22 [(.t 36), (.t 39)], none⟩,
    ⟨some 41, .un .not (.t 40), none⟩] [1, 2, 3, 7, 41])
  (.cond (.t 41)
    (.seq (.region false [
      ⟨some 6, .mov .own (.k (.c (.b (.d (.bool true))))), none⟩] [6])
    .ret)
    .skip)))
  (.region false [
    ⟨some 29, .mov .cp (.t 7), none⟩,
    ⟨some 30, .bin .add (.t 29) (.k (.c (.b (.d (.int .i64 1))))), none⟩,
    ⟨some 7, .mov .cp (.t 30), none⟩] [1, 2, 3, 7]))))
def f4_l0 : ACode := .loop f4_b0
theorem u4_l0 {bd : Bd} {s : St} {β : Type} {k : AExit → St → Option β} {fns : Nat → Option AFun} : K fns bd f4_l0 s k = K fns bd f4_b0 s (fun e s' => match e with | .normal => K fns bd f4_l0 s' k | e => k e s') := K_loop
/-- delver/delverlaw12.IsoTurned -/
def f4 : AFun := ⟨3,
  (.seq (.region false [
    ⟨some 3, .box (.t 0), none⟩,
    ⟨some 6, .mov .own (.k (.c (.b (.d (.bool false))))), none⟩] [1, 2, 3])
  (.seq (.seq (.region false [
    ⟨some 13, .ld .cp (some 2) (.t 3), none⟩,
    ⟨some 14, .callb 9 [(.t 13)], none⟩,
    ⟨some 15, .mov .cp (.t 14), none⟩,
    ⟨some 16, .fa 0 (.t 3), (some (15, false))⟩,
    ⟨some 17, .ld .cp none (.t 16), (some (15, false))⟩,
    ⟨some 18, .fa 1 (.t 3), (some (15, false))⟩,
    ⟨some 19, .ld .cp none (.t 18), (some (15, false))⟩,
    ⟨some 20, .len 0 (.t 19), (some (15, false))⟩,
    ⟨some 21, .callb 22 [(.t 17), (.t 20)], (some (15, false))⟩,
    ⟨some 22, .un .not (.t 21), (some (15, false))⟩,
    ⟨some 23, .pick (.t 15) (.k (.c (.b (.d (.bool true))))) (.t 22), none⟩] [1, 2, 3, 23])
  (.cond (.t 23)
    (.seq (.region false [
      ⟨some 6, .mov .own (.k (.c (.b (.d (.bool true))))), none⟩] [6])
    .ret)
    .skip))
  (.seq (.seq (.region false [
    ⟨some 7, .mov .cp (.k (.c (.b (.d (.int .i64 0))))), none⟩] [1, 2, 3, 7])
  (.block 0 f4_l0))
  (.seq (.region false [
    ⟨some 42, .ld .cp (some 2) (.t 3), none⟩,
    ⟨some 43, .mov .cp (.t 1), none⟩,
    ⟨some 44, .mov .cp (.t 2), none⟩,
    ⟨some 45, .callb 23 [(.t 42), (.t 43), (.t 44)], none⟩,
    ⟨some 8, .alloc [(.osl 2 []), (.osl 3 [])], none⟩,
    ⟨none, .st 2 (.t 8) (.t 45), none⟩] [3, 8])
  (.seq (.region false [
    ⟨some 47, .fa 1 (.t 3), none⟩,
    ⟨some 48, .ld .cp none (.t 47), none⟩,
    ⟨some 49, .fa 0 (.t 3), none⟩,
    ⟨some 50, .ld .cp none (.t 49), none⟩,
    ⟨some 51, .callb 11 [(.t 48), (.t 50)], none⟩,
    ⟨some 46, .mov .own (.t 51), none⟩,
    ⟨some 52, .ext 0 (.t 46), none⟩,
    ⟨some 53, .ext 1 (.t 46), none⟩,
    ⟨some 9, .mov .cp (.t 52), none⟩,
    ⟨some 10, .mov .cp (.t 53), none⟩] [3, 8, 9, 10])
  (.seq (.region false [
    ⟨some 55, .fa 1 (.t 8), none⟩,
    ⟨some 56, .ld .cp none (.t 55), none⟩,
    ⟨some 57, .fa 0 (.t 8), none⟩,
    ⟨some 58, .ld .cp none (.t 57), none⟩,
    ⟨some 59, .callb 11 [(.t 56), (.t 58)], none⟩,
    ⟨some 54, .mov .own (.t 59), none⟩,
    ⟨some 60, .ext 0 (.t 54), none⟩,
    ⟨some 61, .ext 1 (.t 54), none⟩,
    ⟨some 11, .mov .cp (.t 60), none⟩,
    ⟨some 12, .mov .cp (.t 61), none⟩] [3, 8, 9, 10, 11, 12])
  (.seq (.region false [
    ⟨some 62, .fa 1 (.t 3), none⟩,
    ⟨some 63, .ld .cp none (.t 62), none⟩,
    ⟨some 64, .fa 0 (.t 3), none⟩,
    ⟨some 65, .ld .cp none (.t 64), none⟩,
    ⟨some 66, .fa 1 (.t 8), none⟩,
    ⟨some 67, .ld .cp none (.t 66), none⟩,
    ⟨some 68, .fa 0 (.t 8), none⟩,
    ⟨some 69, .ld .cp none (.t 68), none⟩,
    ⟨some 70, .callb 13 [(.t 63), (.t 65), (.t 67), (.t 69)], none⟩,
    ⟨some 71, .mov .cp (.t 70), none⟩,
    ⟨some 72, .mov .cp (.t 9), (some (71, true))⟩,
    ⟨some 73, .mov .cp (.t 11), (some (71, true))⟩,
    ⟨some 74, .callb 17 [(.t 72), (.t 73)], (some (71, true))⟩,
    ⟨some 75, .pick (.t 71) (.t 74) (.k (.c (.b (.d (.bool false))))), none⟩,
    ⟨some 76, .mov .cp (.t 75), none⟩,
    ⟨some 77, .mov .cp (.t 10), (some (76, true))⟩,
    ⟨some 78, .mov .cp (.t 12), (some (76, true))⟩,
    ⟨some 79, .callb 18 [(.t 77), (.t 78)], (some (76, true))⟩,
    ⟨some 80, .pick (.t 76) (.t 79) (.k (.c (.b (.d (.bool false))))), none⟩,
    ⟨some 81, .mov .cp (.t 80), none⟩,
    ⟨some 82, .callb 21 [], (some (81, true))⟩,
    ⟨some 83, .pick (.t 81) (.t 82) (.k (.c (.b (.d (.bool false))))), none⟩,
    ⟨some 6, .mov .own (.t 83), none⟩] [6])
  .ret))))))), [(.tmp 6)], .pure, false⟩
def f5_b0 : ACode := (.wrap true [1, 3, 7, 8, 9] [2] [(2, [1, 3, 7, 8])]
  (.seq (.seq (.region false [
    ⟨some 123, .mov .cp (.t 9), none⟩,
    ⟨some 124, .mov .cp (.t 8), none⟩,
    ⟨some 125, .bin .lss (.t 123) (.t 124), none⟩] [1, 3, 7, 8, 9, 125])
  (.cond (.t 125)
    .skip
    (.exit 2)))
  (.seq (.block 3 (.seq (.region true [
    ⟨some 128, .mov .cp (.t 7), none⟩,
    ⟨some 129, .mov .cp (.t 9), none⟩,
    ⟨some 130, .ia 1 (.t 128) (.t 129), none⟩,
    ⟨some 131, .ld .cp none (.t 130), none⟩,
    ⟨some 132, .mov .cp (.t 7), none⟩,
    ⟨some 133, .mov .cp (.t 8), none⟩,
    ⟨some 134, .ia 1 (.t 132) (.t 133), none⟩,
    ⟨some 135, .ld .cp none (.t 134), none⟩,
    ⟨some 136, .bin .eql (.t 131) (.t 135), none⟩] [1, 3, 7, 8, 9, 136])
  (.cond (.t 136)
    (.seq (.region false [
      ⟨some 2, .mov .own (.k (.c (.b (.d (.bool false))))), none⟩] [2])
    .ret)
    .skip)))
  (.region false [
    ⟨some 126, .mov .cp (.t 9), none⟩,
    ⟨some 127, .bin .add (.t 126) (.k (.c (.b (.d (.int .i64 1))))), none⟩,
    ⟨some 9, .mov .cp (.t 127), none⟩] [1, 3, 7, 8, 9]))))
def f5_l0 : ACode := .loop f5_b0
theorem u5_l0 {bd : Bd} {s : St} {β : Type} {k : AExit → St → Option β} {fns : Nat → Option AFun} : K fns bd f5_l0 s k = K fns bd f5_b0 s (fun e s' => match e with | .normal => K fns bd f5_l0 s' k | e => k e s') := K_loop
def f5_b1 : ACode := (.wrap true [1, 3, 7, 8] [2] [(0, [])]
  (.seq (.seq (.region false [
    ⟨some 66, .mov .cp (.t 8), none⟩,
    ⟨some 67, .mov .cp (.t 7), none⟩,
    ⟨some 68, .len 0 (.t 67), none⟩,
    ⟨some 69, .bin .lss (.t 66) (.t 68), none⟩] [1, 3, 7, 8, 69])
  (.cond (.t 69)
    .skip
    (.exit 0)))
  (.seq (.block 1 (.seq (.seq (.region true [
    ⟨some 72, .mov .cp (.t 7), none⟩,
    ⟨some 73, .mov .cp (.t 8), none⟩,
    ⟨some 74, .ia 1 (.t 72) (.t 73), none⟩,
    ⟨some 75, .ld .cp none (.t 74), none⟩,
    ⟨some 76, .bin .lss (.t 75) (.k (.c (.b (.d (.int .i64 0))))), none⟩,
    ⟨some 77, .mov .cp (.t 76), none⟩,
    ⟨some 78, .mov .cp (.t 7), (some (77, false))⟩,
    ⟨some 79, .mov .cp (.t 8), (some (77, false))⟩,
    ⟨some 80, .ia 1 (.t 78) (.t 79), (some (77, false))⟩,
    ⟨some 81, .ld .cp none (.t 80), (some (77, false))⟩,
    ⟨some 82, .fa 1 (.t 1), (some (77, false))⟩,
    ⟨some 83, .ld .cp none (.t 82), (some (77, false))⟩,
    ⟨some 84, .len 0 (.t 83), (some (77, false))⟩,
    ⟨some 85, .bin .geq (.t 81) (.t 84), (some (77, false))⟩,
    ⟨some 86, .pick (.t 77) (.k (.c (.b (.d (.bool true))))) (.t 85), none⟩,
    ⟨some 87, .mov .cp (.t 86), none⟩,
    ⟨some 88, .mov .cp (.t 3), (some (87, false))⟩,
    ⟨some 89, .mov .cp (.t 8), (some (87, false))⟩,
    ⟨some 90, .ia 3 (.t 88) (.t 89), (some (87, false))⟩,
    ⟨some 91, .fa 0 (.t 90), (some (87, false))⟩,
    ⟨some 92, .ld .cp (some 2) (.t 91), (some (87, false))⟩,
    ⟨some 93, .fa 1 (.t 1), (some (87, false))⟩,
    ⟨some 94, .ld .cp none (.t 93), (some (87, false))⟩,
    ⟨some 95, .mov .cp (.t 7), (some (87, false))⟩,
    ⟨some 96, .mov .cp (.t 8), (some (87, false))⟩,
    ⟨some 97, .ia 1 (.t 95) (.t 96), (some (87, false))⟩,
    ⟨some 98, .ld .cp none (.t 97), (some (87, false))⟩,
    ⟨some 99, .ia 3 (.t 94) (.t 98), (some (87, false))⟩,
    ⟨some 100, .fa 0 (.t 99), (some (87, false))⟩,
    ⟨some 101, .ld .cp (some 2) (.t 100), (some (87, false))⟩,
    ⟨some 102, .eq true 2 [1, 2] (.t 92) (.t 101), (some (87, false))⟩,
    ⟨some 103, .pick (.t 87) (.k (.c (.b (.d (.bool true))))) (.t 102), none⟩,
    ⟨some 104, .mov .cp (.t 103), none⟩,
    ⟨some 105, .mov .cp (.t 3), (some (104, false))⟩,
    ⟨some 106, .mov .cp (.t 8), (some (104, false))⟩,
    ⟨some 107, .ia 3 (.t 105) (.t 106), (some (104, false))⟩,
    ⟨some 108, .fa 2 (.t 107), (some (104, false))⟩,
    ⟨some 109, .ld .cp none (.t 108), (some (104, false))⟩,
    ⟨some 110, .len 0 (.t 109), (some (104, false))⟩,
    ⟨some 111, .fa 1 (.t 1), (some (104, false))⟩,
    ⟨some 112, .ld .cp none (.t 111), (some (104, false))⟩,
    ⟨some 113, .mov .cp (.t 7), (some (104, false))⟩,
    ⟨some 114, .mov .cp (.t 8), (some (104, false))⟩,
    ⟨some 115, .ia 1 (.t 113) (.t 114), (some (104, false))⟩,
    ⟨some 116, .ld .cp none (.t 115), (some (104, false))⟩,
    ⟨some 117, .ia 3 (.t 112) (.t 116), (some (104, false))⟩,
    ⟨some 118, .fa 2 (.t 117), (some (104, false))⟩,
    ⟨some 119, .ld .cp none (.t 118), (some (104, false))⟩,
    ⟨some 120, .len 0 (.t 119), (some (104, false))⟩,
    ⟨some 121, .bin .neq (.t 110) (.t 120), (some (104, false))⟩,
    ⟨some 122, .pick (.t 104) (.k (.c (.b (.d (.bool true))))) (.t 121), none⟩] [1, 3, 7, 8, 122])
  (.cond (.t 122)
    (.seq (.region false [
      ⟨some 2, .mov .own (.k (.c (.b (.d (.bool false))))), none⟩] [2])
    .ret)
    .skip))
  (.seq (.region false [
    ⟨some 9, .mov .cp (.k (.c (.b (.d (.int .i64 0))))), none⟩] [1, 3, 7, 8, 9])
  (.block 2 f5_l0))))
  (.region false [
    ⟨some 70, .mov .cp (.t 8), none⟩,
    ⟨some 71, .bin .add (.t 70) (.k (.c (.b (.d (.int .i64 1))))), none⟩,
    ⟨some 8, .mov .cp (.t 71), none⟩] [1, 3, 7, 8]))))
def f5_l1 : ACode := .loop f5_b1
theorem u5_l1 {bd : Bd} {s : St} {β : Type} {k : AExit → St → Option β} {fns : Nat → Option AFun} : K fns bd f5_l1 s k = K fns bd f5_b1 s (fun e s' => match e with | .normal => K fns bd f5_l1 s' k | e => k e s') := K_loop
/-- delver/delverlaw12.IsoCanon -/
def f5 : AFun := ⟨1,
  (.seq (.region false [
    ⟨some 1, .box (.t 0), none⟩,
    ⟨some 2, .mov .own (.k (.c (.b (.d (.bool false))))), none⟩] [1])
  (.seq (.seq (.region false [
    ⟨some 10, .ld .cp (some 2) (.t 1), none⟩,
    ⟨some 11, .callb 9 [(.t 10)], none⟩] [1, 11])
  (.cond (.t 11)
    (.seq (.region false [
      ⟨some 2, .mov .own (.k (.c (.b (.d (.bool true))))), none⟩] [2])
    .ret)
    .skip))
  (.seq (.region false [
    ⟨some 13, .fa 1 (.t 1), none⟩,
    ⟨some 14, .ld .cp none (.t 13), none⟩,
    ⟨some 15, .fa 0 (.t 1), none⟩,
    ⟨some 16, .ld .cp none (.t 15), none⟩,
    ⟨some 17, .callb 11 [(.t 14), (.t 16)], none⟩,
    ⟨some 12, .mov .own (.t 17), none⟩,
    ⟨some 18, .ext 0 (.t 12), none⟩,
    ⟨some 19, .ext 1 (.t 12), none⟩,
    ⟨some 3, .mov .cp (.t 18), none⟩,
    ⟨some 4, .mov .cp (.t 19), none⟩] [1, 3, 4])
  (.seq (.region false [
    ⟨some 21, .mov .cp (.t 3), none⟩,
    ⟨some 22, .mov .cp (.t 4), none⟩,
    ⟨some 23, .callb 11 [(.t 21), (.t 22)], none⟩,
    ⟨some 20, .mov .own (.t 23), none⟩,
    ⟨some 24, .ext 0 (.t 20), none⟩,
    ⟨some 25, .ext 1 (.t 20), none⟩,
    ⟨some 5, .mov .cp (.t 24), none⟩,
    ⟨some 6, .mov .cp (.t 25), none⟩] [1, 3, 4, 5, 6])
  (.seq (.region false [
    ⟨some 26, .fa 1 (.t 1), none⟩,
    ⟨some 27, .ld .cp none (.t 26), none⟩,
    ⟨some 28, .fa 0 (.t 1), none⟩,
    ⟨some 29, .ld .cp none (.t 28), none⟩,
    ⟨some 30, .callb 15 [(.t 27), (.t 29)], none⟩,
    ⟨some 7, .mov .cp (.t 30), none⟩] [1, 3, 4, 5, 6, 7])
  (.seq (.seq (.region false [
    ⟨some 31, .mov .cp (.t 3), none⟩,
    ⟨some 32, .mov .cp (.t 5), none⟩,
    ⟨some 33, .callb 17 [(.t 31), (.t 32)], none⟩,
    ⟨some 34, .un .not (.t 33), none⟩,
    ⟨some 35, .mov .cp (.t 34), none⟩,
    ⟨some 36, .mov .cp (.t 4), (some (35, false))⟩,
    ⟨some 37, .mov .cp (.t 6), (some (35, false))⟩,
    ⟨some 38, .callb 18 [(.t 36), (.t 37)], (some (35, false))⟩,
    ⟨some 39, .un .not (.t 38), (some (35, false))⟩,
    ⟨some 40, .pick (.t 35) (.k (.c (.b (.d (.bool true))))) (.t 39), none⟩,
    ⟨some 41, .mov .cp (.t 40), none⟩,
    ⟨some 42, .mov .cp (.t 7), (some (41, false))⟩,
    ⟨some 43, .len 0 (.t 42), (some (41, false))⟩,
    ⟨some 44, .mov .cp (.t 3), (some (41, false))⟩,
    ⟨some 45, .len 0 (.t 44), (some (41, false))⟩,
    ⟨some 46, .bin .neq (.t 43) (.t 45), (some (41, false))⟩,
    ⟨some 47, .pick (.t 41) (.k (.c (.b (.d (.bool true))))) (.t 46), none⟩,
    ⟨some 48, .mov .cp (.t 47), none⟩,
    ⟨some 49, .mov .cp (.t 4), (some (48, false))⟩,
    ⟨some 50, .len 0 (.t 49), (some (48, false))⟩,
    ⟨some 51, .fa 0 (.t 1), (some (48, false))⟩,
    ⟨some 52, .ld .cp none (.t 51), (some (48, false))⟩,
    ⟨some 53, .len 0 (.t 52), (some (48, false))⟩,
    ⟨some 54, .bin .neq (.t 50) (.t 53), (some (48, false))⟩,
    ⟨some 55, .pick (.t 48) (.k (.c (.b (.d (.bool true))))) (.t 54), none⟩,
    ⟨some 56, .mov .cp (.t 55), none⟩,
    ⟨some 57, .fa 1 (.t 1), (some (56, false))⟩,
    ⟨some 58, .ld .cp none (.t 57), (some (56, false))⟩,
    ⟨some 59, .fa 0 (.t 1), (some (56, false))⟩,
    ⟨some 60, .ld .cp none (.t 59), (some (56, false))⟩,
    ⟨some 61, .mov .cp (.t 3), (some (56, false))⟩,
    ⟨some 62, .mov .cp (.t 4), (some (56, false))⟩,
    ⟨some 63, .callb 13 [(.t 58), (.t 60), (.t 61), (.t 62)], (some (56, false))⟩,
    ⟨some 64, .un .not (.t 63), (some (56, false))⟩,
    ⟨some 65, .pick (.t 56) (.k (.c (.b (.d (.bool true))))) (.t 64), none⟩] [1, 3, 7, 65])
  (.cond (.t 65)
    (.seq (.region false [
      ⟨some 2, .mov .own (.k (.c (.b (.d (.bool false))))), none⟩] [2])
    .ret)
    .skip))
  (.seq (.seq (.region false [
    ⟨some 8, .mov .cp (.k (.c (.b (.d (.int .i64 0))))), none⟩] [1, 3, 7, 8])
  (.block 0 f5_l1))
  (.seq (.region false [
    ⟨some 137, .callb 21 [], none⟩,
    ⟨some 2, .mov .own (.t 137), none⟩] [2])
  .ret)))))))), [(.tmp 2)], .pure, false⟩
/-- delver/delverlaw12.IsoSame -/
def f6 : AFun := ⟨4,
  (.seq (.region false [
    ⟨some 4, .box (.t 0), none⟩,
    ⟨some 5, .box (.t 1), none⟩,
    ⟨some 6, .box (.t 2), none⟩,
    ⟨some 8, .mov .own (.k (.c (.b (.d (.bool false))))), none⟩] [3, 4, 5, 6])
  (.seq (.seq (.region false [
    ⟨some 14, .ld .cp (some 2) (.t 4), none⟩,
    ⟨some 15, .callb 9 [(.t 14)], none⟩,
    ⟨some 16, .mov .cp (.t 15), none⟩,
    ⟨some 17, .ld .cp (some 2) (.t 5), (some (16, false))⟩,
    ⟨some 18, .callb 9 [(.t 17)], (some (16, false))⟩,
    ⟨some 19, .pick (.t 16) (.k (.c (.b (.d (.bool true))))) (.t 18), none⟩,
    ⟨some 20, .mov .cp (.t 19), none⟩,
    ⟨some 21, .ld .cp (some 2) (.t 6), (some (20, false))⟩,
    ⟨some 22, .callb 9 [(.t 21)], (some (20, false))⟩,
    ⟨some 23, .pick (.t 20) (.k (.c (.b (.d (.bool true))))) (.t 22), none⟩] [3, 4, 5, 6, 23])
  (.cond (.t 23)
    (.seq (.region false [
      ⟨some 8, .mov .own (.k (.c (.b (.d (.bool true))))), none⟩] [8])
    .ret)
    .skip))
  (.seq (.region false [
    ⟨some 24, .fa 1 (.t 4), none⟩,
    ⟨some 25, .ld .cp none (.t 24), none⟩,
    ⟨some 26, .fa 0 (.t 4), none⟩,
    ⟨some 27, .ld .cp none (.t 26), none⟩,
    ⟨some 28, .fa 1 (.t 5), none⟩,
    ⟨some 29, .ld .cp none (.t 28), none⟩,
    ⟨some 30, .fa 0 (.t 5), none⟩,
    ⟨some 31, .ld .cp none (.t 30), none⟩,
    ⟨some 32, .callb 13 [(.t 25), (.t 27), (.t 29), (.t 31)], none⟩,
    ⟨some 9, .mov .cp (.t 32), none⟩] [3, 4, 5, 6, 9])
  (.seq (.region false [
    ⟨some 33, .fa 1 (.t 5), none⟩,
    ⟨some 34, .ld .cp none (.t 33), none⟩,
    ⟨some 35, .fa 0 (.t 5), none⟩,
    ⟨some 36, .ld .cp none (.t 35), none⟩,
    ⟨some 37, .fa 1 (.t 6), none⟩,
    ⟨some 38, .ld .cp none (.t 37), none⟩,
    ⟨some 39, .fa 0 (.t 6), none⟩,
    ⟨some 40, .ld .cp none (.t 39), none⟩,
    ⟨some 41, .callb 13 [(.t 34), (.t 36), (.t 38), (.t 40)], none⟩,
    ⟨some 10, .mov .cp (.t 41), none⟩] [3, 4, 5, 6, 9, 10])
  (.seq (.seq (.region false [
    ⟨some 42, .mov .cp (.t 9), none⟩,
    ⟨some 43, .fa 1 (.t 5), none⟩,
    ⟨some 44, .ld .cp none (.t 43), none⟩,
    ⟨some 45, .fa 0 (.t 5), none⟩,
    ⟨some 46, .ld .cp none (.t 45), none⟩,
    ⟨some 47, .fa 1 (.t 4), none⟩,
    ⟨some 48, .ld .cp none (.t 47), none⟩,
    ⟨some 49, .fa 0 (.t 4), none⟩,
    ⟨some 50, .ld .cp none (.t 49), none⟩,
    ⟨some 51, .callb 13 [(.t 44), (.t 46), (.t 48), (.t 50)], none⟩,
    ⟨some 52, .eq true 0 [] (.t 42) (.t 51), none⟩,
    ⟨some 53, .mov .cp (.t 52), none⟩,
    ⟨some 54, .mov .cp (.t 9), (some (53, false))⟩,
    ⟨some 55, .mov .cp (.t 54), (some (53, false))⟩,
    ⟨some 56, .mov .cp (.t 10), (some (55, true))⟩,
    ⟨some 57, .pick (.t 55) (.t 56) (.k (.c (.b (.d (.bool false))))), (some (53, false))⟩,
    ⟨some 58, .mov .cp (.t 57), (some (53, false))⟩,
    ⟨some 59, .fa 1 (.t 4), (some (58, true))⟩,
    ⟨some 60, .ld .cp none (.t 59), (some (58, true))⟩,
    ⟨some 61, .fa 0 (.t 4), (some (58, true))⟩,
    ⟨some 62, .ld .cp none (.t 61), (some (58, true))⟩,
    ⟨some 63, .fa 1 (.t 6), (some (58, true))⟩,
    ⟨some 64, .ld .cp none (.t 63), (some (58, true))⟩,
    ⟨some 65, .fa 0 (.t 6), (some (58, true))⟩,
    ⟨some 66, .ld .cp none (.t 65), (some (58, true))⟩,
    ⟨some 67, .callb 13 [(.t 60), (.t 62), (.t 64), (.t 66)], (some (58, true))⟩,
    ⟨some 68, .un .not (.t 67), (some (58, true))⟩,
    ⟨some 69, .pick (.t 58) (.t 68) (.k (.c (.b (.d (.bool false))))), (some (53, false))⟩,
    ⟨some 70, .pick (.t 53) (.k (.c (.b (.d (.bool true))))) (.t 69), none⟩,
    ⟨some 71, .mov .cp (.t 70), none⟩,
    ⟨some 72, .fa 1 (.t 4), (some (71, false))⟩,
    ⟨some 73, .ld .cp none (.t 72), (some (71, false))⟩,
    ⟨some 74, .fa 0 (.t 4), (some (71, false))⟩,
    ⟨some 75, .ld .cp none (.t 74), (some (71, false))⟩,
    ⟨some 76, .fa 1 (.t 4), (some (71, false))⟩,
    ⟨some 77, .ld .cp none (.t 76), (some (71, false))⟩,
    ⟨some 78, .fa 0 (.t 4), (some (71, false))⟩,
    ⟨some 79, .ld .cp none (.t 78), (some (71, false))⟩,
    ⟨some 80, .callb 13 [(.t 73), (.t 75), (.t 77), (.t 79)], (some (71, false))⟩,
    ⟨some 81, .un .not (.t 80), (some (71, false))⟩,
    ⟨some 82, .pick (.t 71) (.k (.c (.b (.d (.bool true))))) (.t 81), none⟩] [3, 4, 82])
  (.cond (.t 82)
    (.seq (.region false [
      ⟨some 8, .mov .own (.k (.c (.b (.d (.bool false))))), none⟩] [8])
    .ret)
    .skip))
  (.seq (.region false [
    ⟨some 83, .fa 1 (.t 4), none⟩,
    ⟨some 84, .ld .cp none (.t 83), none⟩,
    ⟨some 85, .fa 0 (.t 4), none⟩,
    ⟨some 86, .ld .cp none (.t 85), none⟩,
    ⟨some 87, .callb 15 [(.t 84), (.t 86)], none⟩,
    ⟨some 11, .mov .cp (.t 87), none⟩] [3, 4, 11])
  (.seq (.seq (.region false [
    ⟨some 88, .mov .cp (.t 11), none⟩,
    ⟨some 89, .len 0 (.t 88), none⟩,
    ⟨some 90, .bin .eql (.t 89) (.k (.c (.b (.d (.int .i64 0))))), none⟩] [3, 4, 11, 90])
  (.cond (.t 90)
    (.seq (.region false [
      ⟨some 91, .callb 21 [], none⟩,
      ⟨some 8, .mov .own (.t 91), none⟩] [8])
    .ret)
    .skip))
  (.seq (.region false [
    ⟨some 92, .ld .cp (some 2) (.t 4), none⟩,
    ⟨some 93, .call 4106 [(.t 92)], none⟩,
    ⟨some 12, .alloc [(.osl 2 []), (.osl 3 [])], none⟩,
    ⟨none, .st 2 (.t 12) (.t 93), none⟩] [3, 4, 11, 12])
  (.seq (.region false [
    ⟨some 94, .mov .cp (.t 11), none⟩,
    ⟨some 95, .mov .cp (.t 3), none⟩,
    ⟨some 96, .conv .u64 (.t 95), none⟩,
    ⟨some 97, .mov .cp (.t 11), none⟩,
    ⟨some 98, .len 0 (.t 97), none⟩,
    ⟨some 99, .conv .u64 (.t 98), none⟩,
    ⟨some 100, .bin .rem (.t 96) (.t 99), none⟩,
    ⟨some 101, .conv .i64 (.t 100), none⟩,
    ⟨some 102, .ia 1 (.t 94) (.t 101), none⟩,
    ⟨some 103, .ld .cp none (.t 102), none⟩,
    ⟨some 13, .mov .cp (.t 103), none⟩] [4, 12, 13])
  (.seq (.seq (.region false [
    ⟨some 104, .mov .cp (.t 13), none⟩,
    ⟨some 105, .bin .lss (.t 104) (.k (.c (.b (.d (.int .i64 0))))), none⟩,
    ⟨some 106, .mov .cp (.t 105), none⟩,
    ⟨some 107, .mov .cp (.t 13), (some (106, false))⟩,
    ⟨some 108, .fa 1 (.t 12), (some (106, false))⟩,
    ⟨some 109, .ld .cp none (.t 108), (some (106, false))⟩,
    ⟨some 110, .len 0 (.t 109), (some (106, false))⟩,
    ⟨some 111, .bin .geq (.t 107) (.t 110), (some (106, false))⟩,
    ⟨some 112, .pick (.t 106) (.k (.c (.b (.d (.bool true))))) (.t 111), none⟩] [4, 12, 13, 112])
  (.cond (.t 112)
    (.seq (.region false [
      ⟨some 8, .mov .own (.k (.c (.b (.d (.bool false))))), none⟩] [8])
    .ret)
    .skip))
  (.seq (.region true [
    ⟨some 113, .fa 1 (.t 12), none⟩,
    ⟨some 114, .ld .cp none (.t 113), none⟩,
    ⟨some 115, .mov .cp (.t 13), none⟩,
    ⟨some 116, .fa 1 (.t 12), none⟩,
    ⟨some 117, .ld .cp none (.t 116), none⟩,
    ⟨some 118, .mov .cp (.t 13), none⟩,
    ⟨some 119, .ia 3 (.t 117) (.t 118), none⟩,
    ⟨some 120, .fa 0 (.t 119), none⟩,
    ⟨some 121, .fa 0 (.t 120), none⟩,
    ⟨some 122, .ld .cp none (.t 121), none⟩,
    ⟨some 123, .bin .add (.t 122) (.k (.c (.b (.d (.int .i64 1))))), none⟩,
    ⟨some 124, .ia 3 (.t 114) (.t 115), none⟩,
    ⟨some 125, .fa 0 (.t 124), none⟩,
    ⟨some 126, .fa 0 (.t 125), none⟩,
    ⟨none, .st 1 (.t 126) (.t 123), none⟩] [4, 12])
  (.seq (.region false [
    ⟨some 127, .fa 1 (.t 4), none⟩,
    ⟨some 128, .ld .cp none (.t 127), none⟩,
    ⟨some 129, .fa 0 (.t 4), none⟩,
    ⟨some 130, .ld .cp none (.t 129), none⟩,
    ⟨some 131, .fa 1 (.t 12), none⟩,
    ⟨some 132, .ld .frz none (.t 131), none⟩,
    ⟨some 133, .fa 0 (.t 12), none⟩,
    ⟨some 134, .ld .cp none (.t 133), none⟩,
    ⟨some 135, .callb 13 [(.t 128), (.t 130), (.t 132), (.t 134)], none⟩,
    ⟨some 136, .un .not (.t 135), none⟩,
    ⟨some 137, .mov .cp (.t 136), none⟩,
    ⟨some 138, .callb 21 [], (some (137, true))⟩,
    ⟨some 139, .pick (.t 137) (.t 138) (.k (.c (.b (.d (.bool false))))), none⟩,
    ⟨some 8, .mov .own (.t 139), none⟩] [8])
  .ret)))))))))))), [(.tmp 8)], .pure, false⟩
def f24_b0 : ACode := (.wrap true [0, 1, 6, 7] [4, 5] [(0, [0, 6])]
  (.seq (.seq (.region false [
    ⟨some 10, .mov .cp (.t 7), none⟩,
    ⟨some 11, .mov .cp (.t 0), none⟩,
    ⟨some 12, .bin .lss (.t 10) (.t 11), none⟩] [0, 1, 6, 7, 12])
  (.cond (.t 12)
    .skip
    (.exit 0)))
  (.seq (.block 1 (.seq (.region false [
    ⟨some 15, .mov .cp (.t 7), none⟩,
    ⟨some 16, .bin .add (.t 15) (.k (.c (.b (.d (.int .i64 1))))), none⟩,
    ⟨some 8, .mov .cp (.t 16), none⟩] [0, 1, 6, 7, 8])
  (.seq (.seq (.region false [
    ⟨some 17, .mov .cp (.t 8), none⟩,
    ⟨some 18, .mov .cp (.t 0), none⟩,
    ⟨some 19, .bin .eql (.t 17) (.t 18), none⟩] [0, 1, 6, 7, 8, 19])
  (.cond (.t 19)
    (.region false [
      ⟨some 20, .mov .cp (.t 1), none⟩,
      ⟨some 8, .mov .cp (.t 20), none⟩] [0, 1, 6, 7, 8])
    .skip))
  (.region false [
    ⟨some 21, .mov .own (.t 6), none⟩,
    ⟨some 22, .build [(.b (.d (.int .i64 0))), (.b (.d (.str ⟨#[]⟩)))] [(0, 1, (.k (.c (.b (.d (.int .i64 3)))))), (1, 1, (.k (.c (.b (.d (.str ⟨#[78]⟩))))))], none⟩,
    ⟨some 23, .mov .cp (.t 8), none⟩,
    ⟨some 24, .build [(.b (.d (.bool false))), (.b (.d (.int .i64 0)))] [(0, 1, (.k (.c (.b (.d (.bool true)))))), (1, 1, (.t 23))], none⟩,
    ⟨some 25, .bsl .own 2 1 [(.b (.d (.bool false))), (.b (.d (.int .i64 0)))] [(0, (.t 24))], none⟩,
    ⟨some 26, .build [(.b (.d (.int .i64 0))), (.b (.d (.str ⟨#[]⟩))), (.osl 2 [])] [(0, 2, (.t 22)), (2, 1, (.t 25))], none⟩,
    ⟨some 27, .bsl .own 3 1 [(.b (.d (.int .i64 0))), (.b (.d (.str ⟨#[]⟩))), (.osl 2 [])] [(0, (.t 26))], none⟩,
    ⟨some 28, .app 3 48 (.t 21) (.t 27), none⟩,
    ⟨some 6, .mov .own (.t 28), none⟩] [0, 1, 6, 7]))))
  (.region false [
    ⟨some 13, .mov .cp (.t 7), none⟩,
    ⟨some 14, .bin .add (.t 13) (.k (.c (.b (.d (.int .i64 1))))), none⟩,
    ⟨some 7, .mov .cp (.t 14), none⟩] [0, 1, 6, 7]))))
def f24_l0 : ACode := .loop f24_b0
theorem u24_l0 {bd : Bd} {s : St} {β : Type} {k : AExit → St → Option β} {fns : Nat → Option AFun} : K fns bd f24_l0 s k = K fns bd f24_b0 s (fun e s' => match e with | .normal => K fns bd f24_l0 s' k | e => k e s') := K_loop
/-- delver/delverlaw12.chain -/
def f24 : AFun := ⟨2,
  (.seq (.region false [
    ⟨some 4, .mov .own (.k (.c (.osl 3 []))), none⟩,
    ⟨some 5, .mov .own (.k (.c (.osl 2 []))), none⟩] [0, 1])
  (.seq (.region false [
    ⟨some 6, .mov .own (.k (.c (.osl 3 []))), none⟩] [0, 1, 6])
  (.seq (.seq (.region false [
    ⟨some 7, .mov .cp (.k (.c (.b (.d (.int .i64 0))))), none⟩] [0, 1, 6, 7])
  (.block 0 f24_l0))
  (.seq (.region false [
    ⟨some 9, .mov .cp (.k (.c (.b (.d (.int .i64 0))))), none⟩] [0, 6, 9])
  (.seq (.seq (.region false [
    ⟨some 29, .mov .cp (.t 0), none⟩,
    ⟨some 30, .bin .eql (.t 29) (.k (.c (.b (.d (.int .i64 0))))), none⟩] [6, 9, 30])
  (.cond (.t 30)
    (.region false [
      ⟨some 9, .mov .cp (.k (.c (.b (.d (.int .i64 (-1)))))), none⟩] [6, 9])
    .skip))
  (.seq (.region false [
    ⟨some 31, .mov .own (.t 6), none⟩,
    ⟨some 32, .mov .cp (.t 9), none⟩,
    ⟨some 33, .build [(.b (.d (.bool false))), (.b (.d (.int .i64 0)))] [(0, 1, (.k (.c (.b (.d (.bool true)))))), (1, 1, (.t 32))], none⟩,
    ⟨some 34, .bsl .own 2 1 [(.b (.d (.bool false))), (.b (.d (.int .i64 0)))] [(0, (.t 33))], none⟩,
    ⟨some 4, .mov .own (.t 31), none⟩,
    ⟨some 5, .mov .own (.t 34), none⟩] [4, 5])
  .ret)))))), [(.tmp 4), (.tmp 5)], .pure, false⟩
/-- delver/delverlaw12.IsoRows -/
def f7 : AFun := ⟨2,
  (.seq (.region false [
    ⟨some 4, .mov .own (.k (.c (.b (.d (.bool false))))), none⟩] [0, 1])
  (.seq (.region false [
    ⟨some 11, .mov .cp (.t 0), none⟩,
    ⟨some 12, .conv .u64 (.t 11), none⟩,
    ⟨some 13, .bin .rem (.t 12) (.k (.c (.b (.d (.int .u64 8))))), none⟩,
    ⟨some 14, .conv .i64 (.t 13), none⟩,
    ⟨some 15, .mov .cp (.t 1), none⟩,
    ⟨some 16, .conv .u64 (.t 15), none⟩,
    ⟨some 17, .bin .rem (.t 16) (.k (.c (.b (.d (.int .u64 8))))), none⟩,
    ⟨some 18, .conv .i64 (.t 17), none⟩,
    ⟨some 0, .mov .cp (.t 14), none⟩,
    ⟨some 1, .mov .cp (.t 18), none⟩] [0, 1])
  (.seq (.region false [
    ⟨some 20, .mov .cp (.t 0), none⟩,
    ⟨some 21, .callb 24 [(.t 20), (.k (.c (.b (.d (.int .i64 (-1))))))], none⟩,
    ⟨some 19, .mov .own (.t 21), none⟩,
    ⟨some 22, .ext 0 (.t 19), none⟩,
    ⟨some 23, .ext 1 (.t 19), none⟩,
    ⟨some 5, .mov .cp (.t 22), none⟩,
    ⟨some 6, .mov .cp (.t 23), none⟩] [0, 1, 5, 6])
  (.seq (.region false [
    ⟨some 25, .mov .cp (.t 1), none⟩,
    ⟨some 26, .callb 24 [(.t 25), (.k (.c (.b (.d (.int .i64 (-1))))))], none⟩,
    ⟨some 24, .mov .own (.t 26), none⟩,
    ⟨some 27, .ext 0 (.t 24), none⟩,
    ⟨some 28, .ext 1 (.t 24), none⟩,
    ⟨some 7, .mov .cp (.t 27), none⟩,
    ⟨some 8, .mov .cp (.t 28), none⟩] [0, 1, 5, 6, 7, 8])
  (.seq (.region false [
    ⟨some 30, .mov .cp (.t 0), none⟩,
    ⟨some 31, .mm true (.t 30) (.k (.c (.b (.d (.int .i64 1))))), none⟩,
    ⟨some 32, .callb 24 [(.t 31), (.k (.c (.b (.d (.int .i64 0)))))], none⟩,
    ⟨some 29, .mov .own (.t 32), none⟩,
    ⟨some 33, .ext 0 (.t 29), none⟩,
    ⟨some 34, .ext 1 (.t 29), none⟩,
    ⟨some 9, .mov .cp (.t 33), none⟩,
    ⟨some 10, .mov .cp (.t 34), none⟩] [0, 1, 5, 6, 7, 8, 9, 10])
  (.seq (.region false [
    ⟨some 35, .mov .cp (.t 5), none⟩,
    ⟨some 36, .mov .cp (.t 6), none⟩,
    ⟨some 37, .mov .cp (.t 7), none⟩,
    ⟨some 38, .mov .cp (.t 8), none⟩,
    ⟨some 39, .callb 13 [(.t 35), (.t 36), (.t 37), (.t 38)], none⟩,
    ⟨some 40, .mov .cp (.t 0), none⟩,
    ⟨some 41, .mov .cp (.t 1), none⟩,
    ⟨some 42, .bin .eql (.t 40) (.t 41), none⟩,
    ⟨some 43, .eq false 0 [] (.t 39) (.t 42), none⟩,
    ⟨some 44, .mov .cp (.t 43), none⟩,
    ⟨some 45, .mov .cp (.t 5), (some (44, true))⟩,
    ⟨some 46, .mov .cp (.t 6), (some (44, true))⟩,
    ⟨some 47, .mov .cp (.t 9), (some (44, true))⟩,
    ⟨some 48, .mov .cp (.t 10), (some (44, true))⟩,
    ⟨some 49, .callb 13 [(.t 45), (.t 46), (.t 47), (.t 48)], (some (44, true))⟩,
    ⟨some 50, .un .not (.t 49), (some (44, true))⟩,
    ⟨some 51, .pick (.t 44) (.t 50) (.k (.c (.b (.d (.bool false))))), none⟩,
    ⟨some 52, .mov .cp (.t 51), none⟩,
    ⟨some 53, .mov .cp (.t 5), (some (52, true))⟩,
    ⟨some 54, .mov .cp (.t 6), (some (52, true))⟩,
    ⟨some 55, .callb 15 [(.t 53), (.t 54)], (some (52, true))⟩,
    ⟨some 56, .len 0 (.t 55), (some (52, true))⟩,
    ⟨some 57, .mov .cp (.t 0), (some (52, true))⟩,
    ⟨some 58, .bin .eql (.t 56) (.t 57), (some (52, true))⟩,
    ⟨some 59, .pick (.t 52) (.t 58) (.k (.c (.b (.d (.bool false))))), none⟩,
    ⟨some 60, .mov .cp (.t 59), none⟩,
    ⟨some 61, .callb 21 [], (some (60, true))⟩,
    ⟨some 62, .pick (.t 60) (.t 61) (.k (.c (.b (.d (.bool false))))), none⟩,
    ⟨some 4, .mov .own (.t 62), none⟩] [4])
  .ret)))))), [(.tmp 4)], .pure, false⟩
def f8_b0 : ACode := (.wrap true [1, 2, 5, 6, 7, 8, 9] [4] [(2, [1, 2, 5, 6, 7, 8])]
  (.seq (.seq (.region false [
    ⟨some 40, .mov .cp (.t 9), none⟩,
    ⟨some 41, .mov .cp (.t 6), none⟩,
    ⟨some 42, .len 0 (.t 41), none⟩,
    ⟨some 43, .bin .lss (.t 40) (.t 42), none⟩] [1, 2, 5, 6, 7, 8, 9, 43])
  (.cond (.t 43)
    .skip
    (.exit 2)))
  (.seq (.block 3 (.region true [
    ⟨some 46, .mov .cp (.t 8), none⟩,
    ⟨some 47, .mov .cp (.t 46), none⟩,
    ⟨some 48, .mov .cp (.t 5), (some (47, false))⟩,
    ⟨some 49, .mov .cp (.t 7), (some (47, false))⟩,
    ⟨some 50, .ia 1 (.t 48) (.t 49), (some (47, false))⟩,
    ⟨some 51, .ld .cp none (.t 50), (some (47, false))⟩,
    ⟨some 52, .mov .cp (.t 6), (some (47, false))⟩,
    ⟨some 53, .mov .cp (.t 9), (some (47, false))⟩,
    ⟨some 54, .ia 1 (.t 52) (.t 53), (some (47, false))⟩,
    ⟨some 55, .ld .cp none (.t 54), (some (47, false))⟩,
    ⟨some 56, .bin .eql (.t 51) (.t 55), (some (47, false))⟩,
    ⟨some 57, .pick (.t 47) (.k (.c (.b (.d (.bool true))))) (.t 56), none⟩,
    ⟨some 8, .mov .cp (.t 57), none⟩] [1, 2, 5, 6, 7, 8, 9]))
  (.region false [
    ⟨some 44, .mov .cp (.t 9), none⟩,
    ⟨some 45, .bin .add (.t 44) (.k (.c (.b (.d (.int .i64 1))))), none⟩,
    ⟨some 9, .mov .cp (.t 45), none⟩] [1, 2, 5, 6, 7, 8, 9]))))
def f8_l0 : ACode := .loop f8_b0
theorem u8_l0 {bd : Bd} {s : St} {β : Type} {k : AExit → St → Option β} {fns : Nat → Option AFun} : K fns bd f8_l0 s k = K fns bd f8_b0 s (fun e s' => match e with | .normal => K fns bd f8_l0 s' k | e => k e s') := K_loop
def f8_b1 : ACode := (.wrap true [1, 2, 5, 6, 7] [4] [(0, [1, 2, 6])]
  (.seq (.seq (.region false [
    ⟨some 34, .mov .cp (.t 7), none⟩,
    ⟨some 35, .mov .cp (.t 5), none⟩,
    ⟨some 36, .len 0 (.t 35), none⟩,
    ⟨some 37, .bin .lss (.t 34) (.t 36), none⟩] [1, 2, 5, 6, 7, 37])
  (.cond (.t 37)
    .skip
    (.exit 0)))
  (.seq (.block 1 (.seq (.region false [
    ⟨some 8, .mov .cp (.k (.c (.b (.d (.bool false))))), none⟩] [1, 2, 5, 6, 7, 8])
  (.seq (.seq (.region false [
    ⟨some 9, .mov .cp (.k (.c (.b (.d (.int .i64 0))))), none⟩] [1, 2, 5, 6, 7, 8, 9])
  (.block 2 f8_l0))
  (.seq (.region false [
    ⟨some 58, .mov .cp (.t 8), none⟩,
    ⟨some 59, .un .not (.t 58), none⟩] [1, 2, 5, 6, 7, 59])
  (.cond (.t 59)
    (.seq (.region false [
      ⟨some 4, .mov .own (.k (.c (.b (.d (.bool false))))), none⟩] [4])
    .ret)
    .skip)))))
  (.region false [
    ⟨some 38, .mov .cp (.t 7), none⟩,
    ⟨some 39, .bin .add (.t 38) (.k (.c (.b (.d (.int .i64 1))))), none⟩,
    ⟨some 7, .mov .cp (.t 39), none⟩] [1, 2, 5, 6, 7]))))
def f8_l1 : ACode := .loop f8_b1
theorem u8_l1 {bd : Bd} {s : St} {β : Type} {k : AExit → St → Option β} {fns : Nat → Option AFun} : K fns bd f8_l1 s k = K fns bd f8_b1 s (fun e s' => match e with | .normal => K fns bd f8_l1 s' k | e => k e s') := K_loop
/-- delver/delverlaw12.IsoRoots -/
def f8 : AFun := ⟨2,
  (.seq (.region false [
    ⟨some 2, .box (.t 0), none⟩,
    ⟨some 4, .mov .own (.k (.c (.b (.d (.bool false))))), none⟩] [1, 2])
  (.seq (.seq (.region false [
    ⟨some 11, .ld .cp (some 2) (.t 2), none⟩,
    ⟨some 12, .callb 9 [(.t 11)], none⟩] [1, 2, 12])
  (.cond (.t 12)
    (.seq (.region false [
      ⟨some 4, .mov .own (.k (.c (.b (.d (.bool true))))), none⟩] [4])
    .ret)
    .skip))
  (.seq (.region false [
    ⟨some 13, .mov .cp (.t 1), none⟩,
    ⟨some 14, .conv .u64 (.t 13), none⟩,
    ⟨some 15, .fa 0 (.t 2), none⟩,
    ⟨some 16, .ld .cp none (.t 15), none⟩,
    ⟨some 17, .len 0 (.t 16), none⟩,
    ⟨some 18, .bin .add (.t 17) (.k (.c (.b (.d (.int .i64 1))))), none⟩,
    ⟨some 19, .conv .u64 (.t 18), none⟩,
    ⟨some 20, .bin .rem (.t 14) (.t 19), none⟩,
    ⟨some 21, .conv .i64 (.t 20), none⟩,
    ⟨some 1, .mov .cp (.t 21), none⟩] [1, 2])
  (.seq (.region true [
    ⟨some 22, .fa 1 (.t 2), none⟩,
    ⟨some 23, .ld .cp none (.t 22), none⟩,
    ⟨some 24, .fa 0 (.t 2), none⟩,
    ⟨some 25, .ld .cp none (.t 24), none⟩,
    ⟨some 26, .mov .cp (.t 1), none⟩,
    ⟨some 27, .slc .cp 2 (.t 25) none (some (.t 26)), none⟩,
    ⟨some 28, .callb 15 [(.t 23), (.t 27)], none⟩,
    ⟨some 29, .fa 1 (.t 2), none⟩,
    ⟨some 30, .ld .cp none (.t 29), none⟩,
    ⟨some 31, .fa 0 (.t 2), none⟩,
    ⟨some 32, .ld .cp none (.t 31), none⟩,
    ⟨some 33, .callb 15 [(.t 30), (.t 32)], none⟩,
    ⟨some 5, .mov .cp (.t 28), none⟩,
    ⟨some 6, .mov .cp (.t 33), none⟩] [1, 2, 5, 6])
  (.seq (.seq (.region false [
    ⟨some 7, .mov .cp (.k (.c (.b (.d (.int .i64 0))))), none⟩] [1, 2, 5, 6, 7])
  (.block 0 f8_l1))
  (.seq (.region true [
    ⟨some 60, .fa 0 (.t 2), none⟩,
    ⟨some 61, .ld .cp none (.t 60), none⟩,
    ⟨some 62, .callb 25 [(.t 61)], none⟩,
    ⟨some 63, .fa 0 (.t 2), none⟩,
    ⟨some 64, .ld .cp none (.t 63), none⟩,
    ⟨some 65, .mov .cp (.t 1), none⟩,
    ⟨some 66, .slc .cp 2 (.t 64) none (some (.t 65)), none⟩,
    ⟨some 67, .app 2 16 (.t 62) (.t 66), none⟩,
    ⟨some 10, .mov .cp (.t 67), none⟩] [2, 6, 10])
  (.seq (.region false [
    ⟨some 68, .fa 1 (.t 2), none⟩,
    ⟨some 69, .ld .cp none (.t 68), none⟩,
    ⟨some 70, .mov .cp (.t 10), none⟩,
    ⟨some 71, .callb 15 [(.t 69), (.t 70)], none⟩,
    ⟨some 72, .mov .cp (.t 6), none⟩,
    ⟨some 73, .callb 14 [(.t 71), (.t 72)], none⟩,
    ⟨some 74, .mov .cp (.t 73), none⟩,
    ⟨some 75, .fa 1 (.t 2), (some (74, true))⟩,
    ⟨some 76, .ld .cp none (.t 75), (some (74, true))⟩,
    ⟨some 77, .callb 15 [(.t 76), (.k (.c (.osl 2 [])))], (some (74, true))⟩,
    ⟨some 78, .len 0 (.t 77), (some (74, true))⟩,
    ⟨some 79, .bin .eql (.t 78) (.k (.c (.b (.d (.int .i64 0))))), (some (74, true))⟩,
    ⟨some 80, .pick (.t 74) (.t 79) (.k (.c (.b (.d (.bool false))))), none⟩,
    ⟨some 81, .mov .cp (.t 80), none⟩,
    ⟨some 82, .callb 21 [], (some (81, true))⟩,
    ⟨some 83, .pick (.t 81) (.t 82) (.k (.c (.b (.d (.bool false))))), none⟩,
    ⟨some 4, .mov .own (.t 83), none⟩] [4])
  .ret))))))), [(.tmp 4)], .pure, false⟩
theorem c9 : chkFun Try.prog 9 f9 = true := by kernel_rfl
theorem c25 : chkFun Try.prog 25 f25 = true := by kernel_rfl
theorem c25v1 : chkFun Try.prog 4121 f25v1 = true := by kernel_rfl
theorem c26 : chkFun Try.prog 26 f26 = true := by kernel_rfl
theorem c26v1 : chkFun Try.prog 4122 f26v1 = true := by kernel_rfl
theorem c10 : chkFun Try.prog 10 f10 = true := by kernel_rfl
theorem c10v1 : chkFun Try.prog 4106 f10v1 = true := by kernel_rfl
theorem c38 : chkFun Try.prog 38 f38 = true := by kernel_rfl
theorem c39 : chkFun Try.prog 39 f39 = true := by kernel_rfl
theorem c37 : chkFun Try.prog 37 f37 = true := by kernel_rfl
theorem c35 : chkFun Try.prog 35 f35 = true := by kernel_rfl
theorem c36 : chkFun Try.prog 36 f36 = true := by kernel_rfl
theorem c36v1 : chkFun Try.prog 4132 f36v1 = true := by kernel_rfl
theorem c27 : chkFun Try.prog 27 f27 = true := by kernel_rfl
theorem c28 : chkFun Try.prog 28 f28 = true := by kernel_rfl
theorem c28v1 : chkFun Try.prog 4124 f28v1 = true := by kernel_rfl
theorem c11 : chkFun Try.prog 11 f11 = true := by kernel_rfl
theorem c11v1 : chkFun Try.prog 4107 f11v1 = true := by kernel_rfl
theorem c33 : chkFun Try.prog 33 f33 = true := by kernel_rfl
theorem c16 : chkFun Try.prog 16 f16 = true := by kernel_rfl
theorem c29 : chkFun Try.prog 29 f29 = true := by kernel_rfl
theorem c12 : chkFun Try.prog 12 f12 = true := by kernel_rfl
theorem c30 : chkFun Try.prog 30 f30 = true := by kernel_rfl
theorem c31 : chkFun Try.prog 31 f31 = true := by kernel_rfl
theorem c32 : chkFun Try.prog 32 f32 = true := by kernel_rfl
theorem c13 : chkFun Try.prog 13 f13 = true := by kernel_rfl
theorem c14 : chkFun Try.prog 14 f14 = true := by kernel_rfl
theorem c15 : chkFun Try.prog 15 f15 = true := by kernel_rfl
theorem c18 : chkFun Try.prog 18 f18 = true := by kernel_rfl
theorem c18v1 : chkFun Try.prog 4114 f18v1 = true := by kernel_rfl
theorem c17 : chkFun Try.prog 17 f17 = true := by kernel_rfl
theorem c17v1 : chkFun Try.prog 4113 f17v1 = true := by kernel_rfl
theorem c19 : chkFun Try.prog 19 f19 = true := by kernel_rfl
theorem c20 : chkFun Try.prog 20 f20 = true := by kernel_rfl
theorem c21 : chkFun Try.prog 21 f21 = true := by kernel_rfl
theorem c3 : chkFun Try.prog 3 f3 = true := by kernel_rfl
theorem c22 : chkFun Try.prog 22 f22 = true := by kernel_rfl
theorem c34 : chkFun Try.prog 34 f34 = true := by kernel_rfl
theorem c23 : chkFun Try.prog 23 f23 = true := by kernel_rfl
theorem c4 : chkFun Try.prog 4 f4 = true := by kernel_rfl
theorem c5 : chkFun Try.prog 5 f5 = true := by kernel_rfl
theorem c6 : chkFun Try.prog 6 f6 = true := by kernel_rfl
theorem c24 : chkFun Try.prog 24 f24 = true := by kernel_rfl
theorem c7 : chkFun Try.prog 7 f7 = true := by kernel_rfl
theorem c8 : chkFun Try.prog 8 f8 = true := by kernel_rfl
def tab : List (Nat × AFun) := [(9, f9), (25, f25), (4121, f25v1), (26, f26), (4122, f26v1), (10, f10), (4106, f10v1), (38, f38), (39, f39), (37, f37), (35, f35), (36, f36), (4132, f36v1), (27, f27), (28, f28), (4124, f28v1), (11, f11), (4107, f11v1), (33, f33), (16, f16), (29, f29), (12, f12), (30, f30), (31, f31), (32, f32), (13, f13), (14, f14), (15, f15), (18, f18), (4114, f18v1), (17, f17), (4113, f17v1), (19, f19), (20, f20), (21, f21), (3, f3), (22, f22), (34, f34), (23, f23), (4, f4), (5, f5), (6, f6), (24, f24), (7, f7), (8, f8)]
def look (f : Nat) : List (Nat × AFun) → Option AFun
  | [] => none
  | (g, a) :: l => bif Nat.beq f g then some a else look f l
theorem look_mem {f : Nat} {a : AFun} : ∀ {l : List (Nat × AFun)}, look f l = some a → (f, a) ∈ l
  | [], h => by simp [look] at h
  | (g, b) :: l, h => by
    simp only [look] at h
    cases hb : Nat.beq f g with
    | true => rw [hb] at h; have := Nat.eq_of_beq_eq_true hb; subst this; simp only [cond_true, Option.some.injEq] at h; subst h; exact List.mem_cons_self
    | false => rw [hb] at h; exact List.mem_cons_of_mem _ (look_mem h)
def fns (f : Nat) : Option AFun := look f tab
theorem t9 : fns 9 = some f9 := rfl
theorem t25 : fns 25 = some f25 := rfl
theorem t25v1 : fns 4121 = some f25v1 := rfl
theorem t26 : fns 26 = some f26 := rfl
theorem t26v1 : fns 4122 = some f26v1 := rfl
theorem t10 : fns 10 = some f10 := rfl
theorem t10v1 : fns 4106 = some f10v1 := rfl
theorem t38 : fns 38 = some f38 := rfl
theorem t39 : fns 39 = some f39 := rfl
theorem t37 : fns 37 = some f37 := rfl
theorem t35 : fns 35 = some f35 := rfl
theorem t36 : fns 36 = some f36 := rfl
theorem t36v1 : fns 4132 = some f36v1 := rfl
theorem t27 : fns 27 = some f27 := rfl
theorem t28 : fns 28 = some f28 := rfl
theorem t28v1 : fns 4124 = some f28v1 := rfl
theorem t11 : fns 11 = some f11 := rfl
theorem t11v1 : fns 4107 = some f11v1 := rfl
theorem t33 : fns 33 = some f33 := rfl
theorem t16 : fns 16 = some f16 := rfl
theorem t29 : fns 29 = some f29 := rfl
theorem t12 : fns 12 = some f12 := rfl
theorem t30 : fns 30 = some f30 := rfl
theorem t31 : fns 31 = some f31 := rfl
theorem t32 : fns 32 = some f32 := rfl
theorem t13 : fns 13 = some f13 := rfl
theorem t14 : fns 14 = some f14 := rfl
theorem t15 : fns 15 = some f15 := rfl
theorem t18 : fns 18 = some f18 := rfl
theorem t18v1 : fns 4114 = some f18v1 := rfl
theorem t17 : fns 17 = some f17 := rfl
theorem t17v1 : fns 4113 = some f17v1 := rfl
theorem t19 : fns 19 = some f19 := rfl
theorem t20 : fns 20 = some f20 := rfl
theorem t21 : fns 21 = some f21 := rfl
theorem t3 : fns 3 = some f3 := rfl
theorem t22 : fns 22 = some f22 := rfl
theorem t34 : fns 34 = some f34 := rfl
theorem t23 : fns 23 = some f23 := rfl
theorem t4 : fns 4 = some f4 := rfl
theorem t5 : fns 5 = some f5 := rfl
theorem t6 : fns 6 = some f6 := rfl
theorem t24 : fns 24 = some f24 := rfl
theorem t7 : fns 7 = some f7 := rfl
theorem t8 : fns 8 = some f8 := rfl
theorem tab_ok : ∀ p ∈ tab, chkFun Try.prog p.1 p.2 = true := by
  simp only [tab, List.forall_mem_cons]
  exact ⟨c9, c25, c25v1, c26, c26v1, c10, c10v1, c38, c39, c37, c35, c36, c36v1, c27, c28, c28v1, c11, c11v1, c33, c16, c29, c12, c30, c31, c32, c13, c14, c15, c18, c18v1, c17, c17v1, c19, c20, c21, c3, c22, c34, c23, c4, c5, c6, c24, c7, c8, by simp⟩
theorem fns_ok (f : Nat) (af : AFun) (h : fns f = some af) : chkFun Try.prog f af = true := tab_ok _ (look_mem h)
theorem run_ok (n : Nat) : Sound Try.prog (evf fns n) := evf_sound rfl fns_ok n
end Go.Proofs.Ytjkhkblabhaimaa.Am
