/- The abstract code of the functions, each checked against the loaded program. Printed by wip/tools/gen.py. -/
import Derived.Test.YthahhonmkhafkaaGreatDoorFnsA
import Derived.Test.YthahhonmkhafkaaGreatDoorMachF
import Derived.Test.YthahhonmkhafkaaGreatDoorProg
import Derived.KernelRfl
namespace Go.Proofs.YthahhonmkhafkaaGreatDoor.Am
open Go
set_option maxRecDepth 100000
/-- delver/show.class -/
def f64 : AFun := ⟨1,
  (.seq (.region false [
    ⟨some 1, .box (.t 0), none⟩,
    ⟨some 2, .mov .own (.k (.c (.b (.d (.bool false))))), none⟩] [1])
  (.seq (.region false [
    ⟨some 4, .fa 2 (.t 1), none⟩,
    ⟨some 5, .ld .cp none (.t 4), none⟩,
    ⟨some 6, .bin .eql (.t 5) (.k (.c (.b (.d (.str ⟨#[]⟩))))), none⟩,
    ⟨some 7, .mov .cp (.t 6), none⟩,
    ⟨some 8, .fa 1 (.t 1), (some (7, false))⟩,
    ⟨some 9, .ld .cp none (.t 8), (some (7, false))⟩,
    ⟨some 10, .un .not (.t 9), (some (7, false))⟩,
    ⟨some 11, .mov .cp (.t 10), (some (7, false))⟩,
    ⟨some 12, .fa 2 (.t 1), (some (11, true))⟩,
    ⟨some 13, .ld .cp none (.t 12), (some (11, true))⟩,
    ⟨some 14, .callb 79 [(.t 13)], (some (11, true))⟩,
    ⟨some 15, .pick (.t 11) (.t 14) (.k (.c (.b (.d (.bool false))))), (some (7, false))⟩,
    ⟨some 16, .pick (.t 7) (.k (.c (.b (.d (.bool true))))) (.t 15), none⟩,
    ⟨some 3, .mov .cp (.t 16), none⟩] [1, 3])
  (.seq (.region false [
    ⟨some 17, .fa 0 (.t 1), none⟩,
    ⟨some 18, .ld .cp none (.t 17), none⟩,
    ⟨some 19, .callb 79 [(.t 18)], none⟩,
    ⟨some 20, .mov .cp (.t 19), none⟩,
    ⟨some 21, .mov .cp (.t 3), (some (20, true))⟩,
    ⟨some 22, .pick (.t 20) (.t 21) (.k (.c (.b (.d (.bool false))))), none⟩,
    ⟨some 23, .mov .cp (.t 22), none⟩,
    ⟨some 24, .fa 3 (.t 1), (some (23, true))⟩,
    ⟨some 25, .ld .cp none (.t 24), (some (23, true))⟩,
    ⟨some 26, .call 80 [(.t 25), (.k (.c (.b (.d (.int .i64 4))))), (.k (.c (.fn 79 [] [])))], (some (23, true))⟩,
    ⟨some 27, .pick (.t 23) (.t 26) (.k (.c (.b (.d (.bool false))))), none⟩,
    ⟨some 28, .mov .cp (.t 27), none⟩,
    ⟨some 29, .fa 4 (.t 1), (some (28, true))⟩,
    ⟨some 30, .ld .cp none (.t 29), (some (28, true))⟩,
    ⟨some 31, .call 81 [(.t 30), (.k (.c (.b (.d (.int .i64 6))))), (.k (.c (.fn 82 [] [])))], (some (28, true))⟩,
    ⟨some 32, .pick (.t 28) (.t 31) (.k (.c (.b (.d (.bool false))))), none⟩,
    ⟨some 33, .mov .cp (.t 32), none⟩,
    ⟨some 34, .fa 5 (.t 1), (some (33, true))⟩,
    ⟨some 35, .ld .cp none (.t 34), (some (33, true))⟩,
    ⟨some 36, .call 83 [(.t 35), (.k (.c (.b (.d (.int .i64 6))))), (.k (.c (.fn 84 [] [])))], (some (33, true))⟩,
    ⟨some 37, .pick (.t 33) (.t 36) (.k (.c (.b (.d (.bool false))))), none⟩,
    ⟨some 2, .mov .own (.t 37), none⟩] [2])
  .ret))), [(.tmp 2)], .pure, false⟩
/-- delver/show.Check -/
def f46 : AFun := ⟨1,
  (.seq (.region false [
    ⟨some 1, .box (.t 0), none⟩,
    ⟨some 2, .mov .own (.k (.c (.b (.d (.int .i64 0))))), none⟩] [1])
  (.seq (.seq (.region false [
    ⟨some 3, .fa 0 (.t 1), none⟩,
    ⟨some 4, .ld .cp none (.t 3), none⟩,
    ⟨some 5, .call 63 [(.t 4), (.k (.c (.b (.d (.int .i64 10))))), (.k (.c (.fn 64 [] [])))], none⟩,
    ⟨some 6, .un .not (.t 5), none⟩] [6])
  (.cond (.t 6)
    (.seq (.region false [
      ⟨some 2, .mov .own (.k (.c (.b (.d (.int .i64 4))))), none⟩] [2])
    .ret)
    .skip))
  (.seq (.region false [
    ⟨some 2, .mov .own (.k (.c (.b (.d (.int .i64 0))))), none⟩] [2])
  .ret))), [(.tmp 2)], .pure, false⟩
/-- (*delver/hier.Tree).super -/
def f56 : AFun := ⟨2,
  (.seq (.region false [
    ⟨some 3, .box (.t 1), none⟩,
    ⟨some 4, .mov .own (.k (.c (.b (.d (.str ⟨#[]⟩))))), none⟩,
    ⟨some 5, .mov .own (.k (.c (.b (.d (.bool false))))), none⟩] [3])
  (.seq (.block 0 (.seq (.region false [
    ⟨some 7, .fa 1 (.t 3), none⟩,
    ⟨some 8, .ld .cp none (.t 7), none⟩,
    ⟨some 9, .mov .cp (.t 8), none⟩,
    ⟨some 10, .fa 0 (.t 3), (some (9, false))⟩,
    ⟨some 11, .ld .cp none (.t 10), (some (9, false))⟩,
    ⟨some 12, .bin .eql (.t 11) (.k (.c (.b (.d (.str ⟨#[79, 98, 106, 101, 99, 116]⟩))))), (some (9, false))⟩,
    ⟨some 13, .pick (.t 9) (.k (.c (.b (.d (.bool true))))) (.t 12), none⟩,
    ⟨some 6, .mov .cp (.t 13), none⟩] [3, 6])
  (.cond (.t 6)
    (.seq (.region false [
      ⟨some 4, .mov .own (.k (.c (.b (.d (.str ⟨#[]⟩))))), none⟩,
      ⟨some 5, .mov .own (.k (.c (.b (.d (.bool false))))), none⟩] [4, 5])
    .ret)
    (.seq (.region false [
      ⟨some 15, .fa 2 (.t 3), none⟩,
      ⟨some 16, .ld .cp none (.t 15), none⟩,
      ⟨some 17, .bin .eql (.t 16) (.k (.c (.b (.d (.str ⟨#[]⟩))))), none⟩,
      ⟨some 14, .mov .cp (.t 17), none⟩] [3, 14])
    (.cond (.t 14)
      (.seq (.region false [
        ⟨some 4, .mov .own (.k (.c (.b (.d (.str ⟨#[79, 98, 106, 101, 99, 116]⟩))))), none⟩,
        ⟨some 5, .mov .own (.k (.c (.b (.d (.bool true))))), none⟩] [4, 5])
      .ret)
      .skip)))))
  (.seq (.region false [
    ⟨some 18, .fa 2 (.t 3), none⟩,
    ⟨some 19, .ld .own none (.t 18), none⟩,
    ⟨some 4, .mov .own (.t 19), none⟩,
    ⟨some 5, .mov .own (.k (.c (.b (.d (.bool true))))), none⟩] [4, 5])
  .ret))), [(.tmp 4), (.tmp 5)], .pure, false⟩
/-- (*delver/hier.Tree).lost$1 -/
def f66 : AFun := ⟨2,
  (.seq (.region false [
    ⟨some 3, .mov .own (.k (.c (.b (.d (.bool false))))), none⟩] [0, 1])
  (.seq (.region false [
    ⟨some 7, .ld .cp none (.t 1), none⟩,
    ⟨some 8, .nilc (.t 7), none⟩,
    ⟨some 9, .fa 3 (.t 8), none⟩,
    ⟨some 10, .ld .cp none (.t 9), none⟩,
    ⟨some 11, .mov .cp (.t 0), none⟩,
    ⟨some 12, .lkp [2] (.agg [(.b (.d (.str ⟨#[]⟩))), (.b (.d (.bool false))), (.b (.d (.str ⟨#[]⟩))), (.b (.d (.sl []))), (.b (.d (.sl []))), (.b (.d (.sl [])))]) true (.t 10) (.t 11), none⟩,
    ⟨some 6, .mov .own (.t 12), none⟩,
    ⟨some 13, .ext 0 (.t 6), none⟩,
    ⟨some 14, .ext 1 (.t 6), none⟩,
    ⟨some 4, .alloc [(.b (.d (.str ⟨#[]⟩))), (.b (.d (.bool false))), (.b (.d (.str ⟨#[]⟩))), (.osl 1 []), (.osl 4 []), (.osl 9 [])], none⟩,
    ⟨none, .st 6 (.t 4) (.t 13), none⟩,
    ⟨some 5, .mov .cp (.t 14), none⟩] [4, 5])
  (.seq (.region false [
    ⟨some 15, .mov .cp (.t 5), none⟩,
    ⟨some 16, .un .not (.t 15), none⟩,
    ⟨some 17, .mov .cp (.t 16), none⟩,
    ⟨some 18, .fa 1 (.t 4), (some (17, false))⟩,
    ⟨some 19, .ld .cp none (.t 18), (some (17, false))⟩,
    ⟨some 20, .un .not (.t 19), (some (17, false))⟩,
    ⟨some 21, .pick (.t 17) (.k (.c (.b (.d (.bool true))))) (.t 20), none⟩,
    ⟨some 3, .mov .own (.t 21), none⟩] [3])
  .ret))), [(.tmp 3)], .pure, false⟩
/-- (*delver/hier.Tree).lost -/
def f48 : AFun := ⟨2,
  (.seq (.region false [
    ⟨some 2, .box (.t 0), none⟩,
    ⟨some 3, .box (.t 1), none⟩,
    ⟨some 4, .mov .own (.k (.c (.b (.d (.bool false))))), none⟩] [2, 3])
  (.seq (.seq (.region false [
    ⟨some 10, .ld .cp none (.t 2), none⟩,
    ⟨some 11, .ld .cp (some 6) (.t 3), none⟩,
    ⟨some 12, .call 56 [(.t 10), (.t 11)], none⟩,
    ⟨some 9, .mov .own (.t 12), none⟩,
    ⟨some 13, .ext 0 (.t 9), none⟩,
    ⟨some 14, .ext 1 (.t 9), none⟩,
    ⟨some 5, .mov .cp (.t 13), none⟩,
    ⟨some 6, .mov .cp (.t 14), none⟩] [2, 3, 5, 6])
  (.seq (.region false [
    ⟨some 15, .mov .cp (.t 6), none⟩] [2, 3, 5, 15])
  (.cond (.t 15)
    (.seq (.region false [
      ⟨some 17, .ld .cp none (.t 2), none⟩,
      ⟨some 18, .nilc (.t 17), none⟩,
      ⟨some 19, .fa 3 (.t 18), none⟩,
      ⟨some 20, .ld .cp none (.t 19), none⟩,
      ⟨some 21, .mov .cp (.t 5), none⟩,
      ⟨some 22, .lkp [2] (.agg [(.b (.d (.str ⟨#[]⟩))), (.b (.d (.bool false))), (.b (.d (.str ⟨#[]⟩))), (.b (.d (.sl []))), (.b (.d (.sl []))), (.b (.d (.sl [])))]) true (.t 20) (.t 21), none⟩,
      ⟨some 16, .mov .own (.t 22), none⟩,
      ⟨some 23, .ext 0 (.t 16), none⟩,
      ⟨some 24, .ext 1 (.t 16), none⟩,
      ⟨some 7, .alloc [(.b (.d (.str ⟨#[]⟩))), (.b (.d (.bool false))), (.b (.d (.str ⟨#[]⟩))), (.osl 1 []), (.osl 4 []), (.osl 9 [])], none⟩,
      ⟨none, .st 6 (.t 7) (.t 23), none⟩,
      ⟨some 8, .mov .cp (.t 24), none⟩] [2, 3, 7, 8])
    (.seq (.region false [
      ⟨some 25, .mov .cp (.t 8), none⟩,
      ⟨some 26, .un .not (.t 25), none⟩,
      ⟨some 27, .mov .cp (.t 26), none⟩,
      ⟨some 28, .fa 1 (.t 7), (some (27, false))⟩,
      ⟨some 29, .ld .cp none (.t 28), (some (27, false))⟩,
      ⟨some 30, .pick (.t 27) (.k (.c (.b (.d (.bool true))))) (.t 29), none⟩] [2, 3, 30])
    (.cond (.t 30)
      (.seq (.region false [
        ⟨some 4, .mov .own (.k (.c (.b (.d (.bool true))))), none⟩] [4])
      .ret)
      .skip)))
    .skip)))
  (.seq (.region false [
    ⟨some 31, .fa 3 (.t 3), none⟩,
    ⟨some 32, .ld .cp none (.t 31), none⟩,
    ⟨some 33, .mkf 66 [] [(.t 2)], none⟩,
    ⟨some 34, .call 49 [(.t 32), (.t 33)], none⟩,
    ⟨some 4, .mov .own (.t 34), none⟩] [4])
  .ret))), [(.tmp 4)], .pure, false⟩
/-- (*delver/hier.Tree).next -/
def f68 : AFun := ⟨2,
  (.seq (.region false [
    ⟨some 4, .mov .own (.k (.c (.osl 1 []))), none⟩] [0, 1])
  (.seq (.region false [
    ⟨some 9, .mov .cp (.t 0), none⟩,
    ⟨some 10, .nilc (.t 9), none⟩,
    ⟨some 11, .fa 3 (.t 10), none⟩,
    ⟨some 12, .ld .cp none (.t 11), none⟩,
    ⟨some 13, .mov .cp (.t 1), none⟩,
    ⟨some 14, .lkp [2] (.agg [(.b (.d (.str ⟨#[]⟩))), (.b (.d (.bool false))), (.b (.d (.str ⟨#[]⟩))), (.b (.d (.sl []))), (.b (.d (.sl []))), (.b (.d (.sl [])))]) false (.t 12) (.t 13), none⟩,
    ⟨some 5, .alloc [(.b (.d (.str ⟨#[]⟩))), (.b (.d (.bool false))), (.b (.d (.str ⟨#[]⟩))), (.osl 1 []), (.osl 4 []), (.osl 9 [])], none⟩,
    ⟨none, .st 6 (.t 5) (.t 14), none⟩] [0, 5])
  (.seq (.region false [
    ⟨some 15, .fa 3 (.t 5), none⟩,
    ⟨some 16, .ld .cp none (.t 15), none⟩,
    ⟨some 17, .callb 53 [(.t 16)], none⟩,
    ⟨some 6, .mov .own (.t 17), none⟩] [0, 5, 6])
  (.seq (.seq (.region false [
    ⟨some 19, .mov .cp (.t 0), none⟩,
    ⟨some 20, .ld .cp (some 6) (.t 5), none⟩,
    ⟨some 21, .call 56 [(.t 19), (.t 20)], none⟩,
    ⟨some 18, .mov .own (.t 21), none⟩,
    ⟨some 22, .ext 0 (.t 18), none⟩,
    ⟨some 23, .ext 1 (.t 18), none⟩,
    ⟨some 7, .mov .cp (.t 22), none⟩,
    ⟨some 8, .mov .cp (.t 23), none⟩] [6, 7, 8])
  (.seq (.region false [
    ⟨some 24, .mov .cp (.t 8), none⟩] [6, 7, 24])
  (.cond (.t 24)
    (.region false [
      ⟨some 25, .mov .own (.t 6), none⟩,
      ⟨some 26, .mov .cp (.t 7), none⟩,
      ⟨some 27, .bsl .own 1 1 [(.b (.d (.str ⟨#[]⟩)))] [(0, (.t 26))], none⟩,
      ⟨some 28, .app 1 16 (.t 25) (.t 27), none⟩,
      ⟨some 6, .mov .own (.t 28), none⟩] [6])
    .skip)))
  (.seq (.region false [
    ⟨some 29, .mov .own (.t 6), none⟩,
    ⟨some 4, .mov .own (.t 29), none⟩] [4])
  .ret))))), [(.tmp 4)], .pure, false⟩
def f51_b0 : ACode := (.wrap true [0, 2, 12, 13, 14] [] [(0, [])]
  (.seq (.region false [
    ⟨some 15, .bin .lss (.t 14) (.t 13), none⟩] [0, 2, 12, 13, 14, 15])
  (.seq (.cond (.t 15)
    .skip
    (.exit 0))
  (.seq (.block 1 (.seq (.region false [
    ⟨some 16, .ia 1 (.t 12) (.t 14), none⟩,
    ⟨some 17, .ld .cp none (.t 16), none⟩,
    ⟨some 7, .mov .cp (.t 17), none⟩] [0, 2, 7, 12, 13, 14])
  (.seq (.region false [
    ⟨some 18, .mov .cp (.t 2), none⟩,
    ⟨some 19, .mov .cp (.t 7), none⟩,
    ⟨some 20, .lkp [2] (.c (.b (.d (.bool false)))) false (.t 18) (.t 19), none⟩,
    ⟨some 21, .un .not (.t 20), none⟩] [0, 2, 7, 12, 13, 14, 21])
  (.cond (.t 21)
    (.region false [
      ⟨some 22, .mov .cp (.t 0), none⟩,
      ⟨some 23, .mov .cp (.t 7), none⟩,
      ⟨some 24, .mov .cp (.t 2), none⟩,
      ⟨some 25, .call 51 [(.t 22), (.t 23), (.t 24)], none⟩] [0, 2, 12, 13, 14])
    .skip))))
  (.region false [
    ⟨some 26, .bin .add (.t 14) (.k (.c (.b (.d (.int .i64 1))))), none⟩,
    ⟨some 14, .mov .cp (.t 26), none⟩] [0, 2, 12, 13, 14])))))
def f51_l0 : ACode := .loop f51_b0
theorem u51_l0 {bd : Bd} {s : St} {β : Type} {k : AExit → St → Option β} {fns : Nat → Option AFun} : K fns bd f51_l0 s k = K fns bd f51_b0 s (fun e s' => match e with | .normal => K fns bd f51_l0 s' k | e => k e s') := K_loop
/-- (*delver/hier.Tree).climb -/
def f51 : AFun := ⟨3,
  (.seq (.region false [
    ⟨some 8, .mov .cp (.t 2), none⟩,
    ⟨some 9, .mov .cp (.t 1), none⟩,
    ⟨none, .upd [2] (.t 8) (.t 9) (.k (.c (.b (.d (.bool true))))), none⟩] [0, 1, 2])
  (.seq (.region false [
    ⟨some 10, .mov .cp (.t 0), none⟩,
    ⟨some 11, .mov .cp (.t 1), none⟩,
    ⟨some 12, .call 68 [(.t 10), (.t 11)], none⟩,
    ⟨some 13, .len 0 (.t 12), none⟩,
    ⟨some 14, .mov .cp (.k (.c (.b (.d (.int .i64 0))))), none⟩] [0, 2, 12, 13, 14])
  (.block 0 f51_l0))), [], .trim, false⟩
def f50_b0 : ACode := (.wrap true [0, 1, 5, 11, 12, 13] [4] [(0, [1, 5])]
  (.seq (.region false [
    ⟨some 14, .bin .lss (.t 13) (.t 12), none⟩] [0, 1, 5, 11, 12, 13, 14])
  (.seq (.cond (.t 14)
    .skip
    (.exit 0))
  (.seq (.block 1 (.seq (.region false [
    ⟨some 15, .ia 1 (.t 11) (.t 13), none⟩,
    ⟨some 16, .ld .cp none (.t 15), none⟩,
    ⟨some 7, .mov .cp (.t 16), none⟩] [0, 1, 5, 7, 11, 12, 13])
  (.seq (.region false [
    ⟨some 17, .mov .cp (.t 5), none⟩,
    ⟨some 18, .mov .cp (.t 7), none⟩,
    ⟨some 19, .lkp [2] (.c (.b (.d (.bool false)))) false (.t 17) (.t 18), none⟩,
    ⟨some 20, .un .not (.t 19), none⟩] [0, 1, 5, 7, 11, 12, 13, 20])
  (.cond (.t 20)
    (.region false [
      ⟨some 21, .mov .cp (.t 0), none⟩,
      ⟨some 22, .mov .cp (.t 7), none⟩,
      ⟨some 23, .mov .cp (.t 5), none⟩,
      ⟨some 24, .call 51 [(.t 21), (.t 22), (.t 23)], none⟩] [0, 1, 5, 11, 12, 13])
    .skip))))
  (.region false [
    ⟨some 25, .bin .add (.t 13) (.k (.c (.b (.d (.int .i64 1))))), none⟩,
    ⟨some 13, .mov .cp (.t 25), none⟩] [0, 1, 5, 11, 12, 13])))))
def f50_l0 : ACode := .loop f50_b0
theorem u50_l0 {bd : Bd} {s : St} {β : Type} {k : AExit → St → Option β} {fns : Nat → Option AFun} : K fns bd f50_l0 s k = K fns bd f50_b0 s (fun e s' => match e with | .normal => K fns bd f50_l0 s' k | e => k e s') := K_loop
/-- (*delver/hier.Tree).ring -/
def f50 : AFun := ⟨2,
  (.seq (.region false [
    ⟨some 4, .mov .own (.k (.c (.b (.d (.bool false))))), none⟩] [0, 1])
  (.seq (.region false [
    ⟨some 8, .mkm, none⟩,
    ⟨some 5, .mov .cp (.t 8), none⟩] [0, 1, 5])
  (.seq (.seq (.region false [
    ⟨some 9, .mov .cp (.t 0), none⟩,
    ⟨some 10, .mov .cp (.t 1), none⟩,
    ⟨some 11, .call 68 [(.t 9), (.t 10)], none⟩,
    ⟨some 12, .len 0 (.t 11), none⟩,
    ⟨some 13, .mov .cp (.k (.c (.b (.d (.int .i64 0))))), none⟩] [0, 1, 5, 11, 12, 13])
  (.block 0 f50_l0))
  (.seq (.region false [
    ⟨some 26, .mov .cp (.t 5), none⟩,
    ⟨some 27, .mov .cp (.t 1), none⟩,
    ⟨some 28, .lkp [2] (.c (.b (.d (.bool false)))) false (.t 26) (.t 27), none⟩,
    ⟨some 4, .mov .own (.t 28), none⟩] [4])
  .ret)))), [(.tmp 4)], .pure, false⟩
def f33_b0 : ACode := (.wrap false [3, 4, 34, 35, 36] [2] [(0, [3, 4])]
  (.seq (.region false [
    ⟨some 37, .bin .lss (.t 36) (.t 35), none⟩] [3, 4, 34, 35, 36, 37])
  (.seq (.cond (.t 37)
    .skip
    (.exit 0))
  (.seq (.block 1 (.seq (.region false [
    ⟨some 38, .ia 6 (.t 34) (.t 36), none⟩,
    ⟨some 39, .ld .cp (some 6) (.t 38), none⟩,
    ⟨some 6, .alloc [(.b (.d (.str ⟨#[]⟩))), (.b (.d (.bool false))), (.b (.d (.str ⟨#[]⟩))), (.osl 1 []), (.osl 4 []), (.osl 9 [])], none⟩,
    ⟨none, .st 6 (.t 6) (.t 39), none⟩] [3, 4, 6, 34, 35, 36])
  (.seq (.region true [
    ⟨some 40, .mov .cp (.t 3), none⟩,
    ⟨some 41, .mov .cp (.t 3), none⟩,
    ⟨some 42, .nilc (.t 41), none⟩,
    ⟨some 43, .fa 1 (.t 42), none⟩,
    ⟨some 44, .ld .own none (.t 43), none⟩,
    ⟨some 45, .fa 0 (.t 6), none⟩,
    ⟨some 46, .ld .cp none (.t 45), none⟩,
    ⟨some 47, .bsl .own 1 1 [(.b (.d (.str ⟨#[]⟩)))] [(0, (.t 46))], none⟩,
    ⟨some 48, .app 1 16 (.t 44) (.t 47), none⟩,
    ⟨some 49, .nilc (.t 40), none⟩,
    ⟨some 50, .fa 1 (.t 49), none⟩,
    ⟨none, .st 1 (.t 50) (.t 48), none⟩] [3, 4, 6, 34, 35, 36])
  (.region true [
    ⟨some 51, .mov .cp (.t 3), none⟩,
    ⟨some 52, .nilc (.t 51), none⟩,
    ⟨some 53, .fa 3 (.t 52), none⟩,
    ⟨some 54, .ld .cp none (.t 53), none⟩,
    ⟨some 55, .fa 0 (.t 6), none⟩,
    ⟨some 56, .ld .cp none (.t 55), none⟩,
    ⟨some 57, .ld .cp (some 6) (.t 6), none⟩,
    ⟨none, .upd [2] (.t 54) (.t 56) (.t 57), none⟩] [3, 4, 34, 35, 36]))))
  (.region false [
    ⟨some 58, .bin .add (.t 36) (.k (.c (.b (.d (.int .i64 1))))), none⟩,
    ⟨some 36, .mov .cp (.t 58), none⟩] [3, 4, 34, 35, 36])))))
def f33_l0 : ACode := .loop f33_b0
theorem u33_l0 {bd : Bd} {s : St} {β : Type} {k : AExit → St → Option β} {fns : Nat → Option AFun} : K fns bd f33_l0 s k = K fns bd f33_b0 s (fun e s' => match e with | .normal => K fns bd f33_l0 s' k | e => k e s') := K_loop
def f33_b1 : ACode := (.wrap false [3, 99, 100, 101] [2] [(3, [3])]
  (.seq (.region false [
    ⟨some 102, .bin .lss (.t 101) (.t 100), none⟩] [3, 99, 100, 101, 102])
  (.seq (.cond (.t 102)
    .skip
    (.exit 3))
  (.seq (.block 4 (.seq (.region false [
    ⟨some 103, .ia 1 (.t 99) (.t 101), none⟩,
    ⟨some 104, .ld .cp none (.t 103), none⟩,
    ⟨some 8, .mov .cp (.t 104), none⟩] [3, 8, 99, 100, 101])
  (.seq (.region false [
    ⟨some 105, .mov .cp (.t 3), none⟩,
    ⟨some 106, .nilc (.t 105), none⟩,
    ⟨some 107, .fa 4 (.t 106), none⟩,
    ⟨some 108, .ld .cp none (.t 107), none⟩,
    ⟨some 109, .mov .cp (.t 8), none⟩,
    ⟨some 110, .mkm, none⟩,
    ⟨none, .upd [2] (.t 110) (.k (.c (.b (.d (.str ⟨#[79, 98, 106, 101, 99, 116]⟩))))) (.k (.c (.b (.d (.bool true))))), none⟩,
    ⟨some 111, .mov .cp (.t 110), none⟩,
    ⟨none, .upd [2] (.t 108) (.t 109) (.t 111), none⟩] [3, 8, 99, 100, 101])
  (.region false [
    ⟨some 112, .mov .cp (.t 3), none⟩,
    ⟨some 113, .mov .cp (.t 8), none⟩,
    ⟨some 114, .mov .cp (.t 3), none⟩,
    ⟨some 115, .nilc (.t 114), none⟩,
    ⟨some 116, .fa 4 (.t 115), none⟩,
    ⟨some 117, .ld .cp none (.t 116), none⟩,
    ⟨some 118, .mov .cp (.t 8), none⟩,
    ⟨some 119, .lkp [2] (.c (.b .nilm)) false (.t 117) (.t 118), none⟩,
    ⟨some 120, .call 51 [(.t 112), (.t 113), (.t 119)], none⟩] [3, 99, 100, 101]))))
  (.region false [
    ⟨some 121, .bin .add (.t 101) (.k (.c (.b (.d (.int .i64 1))))), none⟩,
    ⟨some 101, .mov .cp (.t 121), none⟩] [3, 99, 100, 101])))))
def f33_l1 : ACode := .loop f33_b1
theorem u33_l1 {bd : Bd} {s : St} {β : Type} {k : AExit → St → Option β} {fns : Nat → Option AFun} : K fns bd f33_l1 s k = K fns bd f33_b1 s (fun e s' => match e with | .normal => K fns bd f33_l1 s' k | e => k e s') := K_loop
/-- delver/hier.Of -/
def f33 : AFun := ⟨1,
  (.seq (.region false [
    ⟨some 1, .box (.t 0), none⟩,
    ⟨some 2, .mov .own (.k (.c (.b .nilp))), none⟩] [1])
  (.seq (.region false [
    ⟨some 9, .ld .cp (some 1) (.t 1), none⟩,
    ⟨some 10, .callb 46 [(.t 9)], none⟩,
    ⟨some 11, .mkm, none⟩,
    ⟨some 12, .mkm, none⟩,
    ⟨some 13, .build [(.b (.d (.int .i64 0))), (.osl 1 []), (.b (.d (.int .i64 0))), (.b .nilm), (.b .nilm)] [(2, 1, (.t 10)), (3, 1, (.t 11)), (4, 1, (.t 12))], none⟩,
    ⟨some 14, .box (.t 13), none⟩,
    ⟨some 3, .mov .own (.t 14), none⟩] [1, 3])
  (.seq (.seq (.region false [
    ⟨some 15, .mov .cp (.t 3), none⟩,
    ⟨some 16, .nilc (.t 15), none⟩,
    ⟨some 17, .fa 2 (.t 16), none⟩,
    ⟨some 18, .ld .cp none (.t 17), none⟩,
    ⟨some 19, .bin .neq (.t 18) (.k (.c (.b (.d (.int .i64 0))))), none⟩] [1, 3, 19])
  (.cond (.t 19)
    (.seq (.region false [
      ⟨some 20, .mov .own (.t 3), none⟩,
      ⟨some 2, .mov .own (.t 20), none⟩] [2])
    .ret)
    .skip))
  (.seq (.region true [
    ⟨some 21, .callb 40 [], none⟩,
    ⟨some 22, .fa 0 (.t 1), none⟩,
    ⟨some 23, .ld .cp none (.t 22), none⟩,
    ⟨some 24, .app 6 112 (.t 21) (.t 23), none⟩,
    ⟨some 4, .mov .cp (.t 24), none⟩] [1, 3, 4])
  (.seq (.region false [
    ⟨some 25, .mov .cp (.t 3), none⟩,
    ⟨some 26, .mov .cp (.t 4), none⟩,
    ⟨some 27, .len 0 (.t 26), none⟩,
    ⟨some 28, .fa 0 (.t 1), none⟩,
    ⟨some 29, .ld .cp none (.t 28), none⟩,
    ⟨some 30, .len 0 (.t 29), none⟩,
    ⟨some 31, .bin .sub (.t 27) (.t 30), none⟩,
    ⟨some 32, .nilc (.t 25), none⟩,
    ⟨some 33, .fa 0 (.t 32), none⟩,
    ⟨none, .st 1 (.t 33) (.t 31), none⟩] [3, 4])
  (.seq (.seq (.region false [
    ⟨some 34, .mov .cp (.t 4), none⟩,
    ⟨some 35, .len 0 (.t 34), none⟩,
    ⟨some 36, .mov .cp (.k (.c (.b (.d (.int .i64 0))))), none⟩] [3, 4, 34, 35, 36])
  (.block 0 f33_l0))
  (.seq (.block 2 (.seq (.region false [
    ⟨some 60, .mov .cp (.t 3), none⟩,
    ⟨some 61, .nilc (.t 60), none⟩,
    ⟨some 62, .fa 3 (.t 61), none⟩,
    ⟨some 63, .ld .cp none (.t 62), none⟩,
    ⟨some 64, .len 2 (.t 63), none⟩,
    ⟨some 65, .mov .cp (.t 4), none⟩,
    ⟨some 66, .len 0 (.t 65), none⟩,
    ⟨some 67, .bin .lss (.t 64) (.t 66), none⟩,
    ⟨some 59, .mov .cp (.t 67), none⟩] [3, 4, 59])
  (.cond (.t 59)
    (.region false [
      ⟨some 68, .mov .cp (.t 3), none⟩,
      ⟨some 69, .nilc (.t 68), none⟩,
      ⟨some 70, .fa 2 (.t 69), none⟩,
      ⟨none, .st 1 (.t 70) (.k (.c (.b (.d (.int .i64 6))))), none⟩] [3])
    (.seq (.region false [
      ⟨some 72, .mov .cp (.t 4), none⟩,
      ⟨some 73, .mov .cp (.t 3), none⟩,
      ⟨some 74, .mkf 48 [(.t 73)] [], none⟩,
      ⟨some 75, .call 47 [(.t 72), (.t 74)], none⟩,
      ⟨some 71, .mov .cp (.t 75), none⟩] [3, 71])
    (.cond (.t 71)
      (.region false [
        ⟨some 76, .mov .cp (.t 3), none⟩,
        ⟨some 77, .nilc (.t 76), none⟩,
        ⟨some 78, .fa 2 (.t 77), none⟩,
        ⟨none, .st 1 (.t 78) (.k (.c (.b (.d (.int .i64 5))))), none⟩] [3])
      (.seq (.region false [
        ⟨some 80, .mov .cp (.t 3), none⟩,
        ⟨some 81, .nilc (.t 80), none⟩,
        ⟨some 82, .fa 1 (.t 81), none⟩,
        ⟨some 83, .ld .cp none (.t 82), none⟩,
        ⟨some 84, .mov .cp (.t 3), none⟩,
        ⟨some 85, .mkf 50 [(.t 84)] [], none⟩,
        ⟨some 86, .call 49 [(.t 83), (.t 85)], none⟩,
        ⟨some 79, .mov .cp (.t 86), none⟩] [3, 79])
      (.cond (.t 79)
        (.region false [
          ⟨some 87, .mov .cp (.t 3), none⟩,
          ⟨some 88, .nilc (.t 87), none⟩,
          ⟨some 89, .fa 2 (.t 88), none⟩,
          ⟨none, .st 1 (.t 89) (.k (.c (.b (.d (.int .i64 7))))), none⟩] [3])
        .skip)))))))
  (.seq (.seq (.region false [
    ⟨some 90, .mov .cp (.t 3), none⟩,
    ⟨some 91, .nilc (.t 90), none⟩,
    ⟨some 92, .fa 2 (.t 91), none⟩,
    ⟨some 93, .ld .cp none (.t 92), none⟩,
    ⟨some 94, .bin .neq (.t 93) (.k (.c (.b (.d (.int .i64 0))))), none⟩] [3, 94])
  (.cond (.t 94)
    (.seq (.region false [
      ⟨some 95, .mov .own (.t 3), none⟩,
      ⟨some 2, .mov .own (.t 95), none⟩] [2])
    .ret)
    .skip))
  (.seq (.seq (.region false [
    ⟨some 96, .mov .cp (.t 3), none⟩,
    ⟨some 97, .nilc (.t 96), none⟩,
    ⟨some 98, .fa 1 (.t 97), none⟩,
    ⟨some 99, .ld .cp none (.t 98), none⟩,
    ⟨some 100, .len 0 (.t 99), none⟩,
    ⟨some 101, .mov .cp (.k (.c (.b (.d (.int .i64 0))))), none⟩] [3, 99, 100, 101])
  (.block 3 f33_l1))
  (.seq (.region false [
    ⟨some 122, .mov .own (.t 3), none⟩,
    ⟨some 2, .mov .own (.t 122), none⟩] [2])
  .ret)))))))))), [(.tmp 2)], .free, false⟩
/-- (*delver/hier.Tree).Under -/
def f34 : AFun := ⟨3,
  (.seq (.region false [
    ⟨some 6, .mov .own (.k (.c (.b (.d (.bool false))))), none⟩] [0, 1, 2])
  (.seq (.region false [
    ⟨some 7, .mov .cp (.t 0), none⟩,
    ⟨some 8, .nilc (.t 7), none⟩,
    ⟨some 9, .fa 2 (.t 8), none⟩,
    ⟨some 10, .ld .cp none (.t 9), none⟩,
    ⟨some 11, .bin .eql (.t 10) (.k (.c (.b (.d (.int .i64 0))))), none⟩,
    ⟨some 12, .mov .cp (.t 11), none⟩,
    ⟨some 13, .mov .cp (.t 0), (some (12, true))⟩,
    ⟨some 14, .nilc (.t 13), (some (12, true))⟩,
    ⟨some 15, .fa 4 (.t 14), (some (12, true))⟩,
    ⟨some 16, .ld .cp none (.t 15), (some (12, true))⟩,
    ⟨some 17, .mov .cp (.t 1), (some (12, true))⟩,
    ⟨some 18, .lkp [2] (.c (.b .nilm)) false (.t 16) (.t 17), (some (12, true))⟩,
    ⟨some 19, .mov .cp (.t 2), (some (12, true))⟩,
    ⟨some 20, .lkp [2] (.c (.b (.d (.bool false)))) false (.t 18) (.t 19), (some (12, true))⟩,
    ⟨some 21, .pick (.t 12) (.t 20) (.k (.c (.b (.d (.bool false))))), none⟩,
    ⟨some 6, .mov .own (.t 21), none⟩] [6])
  .ret)), [(.tmp 6)], .pure, false⟩
/-- delver/hier.Under -/
def f12 : AFun := ⟨3,
  (.seq (.region false [
    ⟨some 3, .box (.t 0), none⟩,
    ⟨some 6, .mov .own (.k (.c (.b (.d (.bool false))))), none⟩] [1, 2, 3])
  (.seq (.region false [
    ⟨some 7, .ld .cp (some 1) (.t 3), none⟩,
    ⟨some 8, .call 33 [(.t 7)], none⟩,
    ⟨some 9, .mov .cp (.t 1), none⟩,
    ⟨some 10, .mov .cp (.t 2), none⟩,
    ⟨some 11, .call 34 [(.t 8), (.t 9), (.t 10)], none⟩,
    ⟨some 6, .mov .own (.t 11), none⟩] [6])
  .ret)), [(.tmp 6)], .pure, false⟩
def f14_b0 : ACode := (.wrap true [0, 1, 5] [4] [(0, [])]
  (.seq (.seq (.region false [
    ⟨some 11, .mov .cp (.t 5), none⟩,
    ⟨some 12, .mov .cp (.t 0), none⟩,
    ⟨some 13, .len 0 (.t 12), none⟩,
    ⟨some 14, .bin .lss (.t 11) (.t 13), none⟩] [0, 1, 5, 14])
  (.cond (.t 14)
    .skip
    (.exit 0)))
  (.seq (.block 1 (.seq (.region true [
    ⟨some 17, .mov .cp (.t 0), none⟩,
    ⟨some 18, .mov .cp (.t 5), none⟩,
    ⟨some 19, .ia 1 (.t 17) (.t 18), none⟩,
    ⟨some 20, .ld .cp none (.t 19), none⟩,
    ⟨some 21, .mov .cp (.t 1), none⟩,
    ⟨some 22, .mov .cp (.t 5), none⟩,
    ⟨some 23, .ia 1 (.t 21) (.t 22), none⟩,
    ⟨some 24, .ld .cp none (.t 23), none⟩,
    ⟨some 25, .bin .neq (.t 20) (.t 24), none⟩] [0, 1, 5, 25])
  (.cond (.t 25)
    (.seq (.region false [
      ⟨some 4, .mov .own (.k (.c (.b (.d (.bool false))))), none⟩] [4])
    .ret)
    .skip)))
  (.region false [
    ⟨some 15, .mov .cp (.t 5), none⟩,
    ⟨some 16, .bin .add (.t 15) (.k (.c (.b (.d (.int .i64 1))))), none⟩,
    ⟨some 5, .mov .cp (.t 16), none⟩] [0, 1, 5]))))
def f14_l0 : ACode := .loop f14_b0
theorem u14_l0 {bd : Bd} {s : St} {β : Type} {k : AExit → St → Option β} {fns : Nat → Option AFun} : K fns bd f14_l0 s k = K fns bd f14_b0 s (fun e s' => match e with | .normal => K fns bd f14_l0 s' k | e => k e s') := K_loop
/-- delver/delverkeep.Strings -/
def f14 : AFun := ⟨2,
  (.seq (.region false [
    ⟨some 4, .mov .own (.k (.c (.b (.d (.bool false))))), none⟩] [0, 1])
  (.seq (.seq (.region false [
    ⟨some 6, .mov .cp (.t 0), none⟩,
    ⟨some 7, .len 0 (.t 6), none⟩,
    ⟨some 8, .mov .cp (.t 1), none⟩,
    ⟨some 9, .len 0 (.t 8), none⟩,
    ⟨some 10, .bin .neq (.t 7) (.t 9), none⟩] [0, 1, 10])
  (.cond (.t 10)
    (.seq (.region false [
      ⟨some 4, .mov .own (.k (.c (.b (.d (.bool false))))), none⟩] [4])
    .ret)
    .skip))
  (.seq (.seq (.region false [
    ⟨some 5, .mov .cp (.k (.c (.b (.d (.int .i64 0))))), none⟩] [0, 1, 5])
  (.block 0 f14_l0))
  (.seq (.region false [
    ⟨some 4, .mov .own (.k (.c (.b (.d (.bool true))))), none⟩] [4])
  .ret)))), [(.tmp 4)], .pure, false⟩
def f35_b0 : ACode := (.wrap true [0, 1, 5, 21, 22, 23] [4] [(0, [5])]
  (.seq (.region false [
    ⟨some 24, .bin .lss (.t 23) (.t 22), none⟩] [0, 1, 5, 21, 22, 23, 24])
  (.seq (.cond (.t 24)
    .skip
    (.exit 0))
  (.seq (.block 1 (.seq (.region false [
    ⟨some 25, .ia 1 (.t 21) (.t 23), none⟩,
    ⟨some 26, .ld .cp none (.t 25), none⟩,
    ⟨some 7, .mov .cp (.t 26), none⟩] [0, 1, 5, 7, 21, 22, 23])
  (.seq (.region false [
    ⟨some 27, .mov .cp (.t 0), none⟩,
    ⟨some 28, .nilc (.t 27), none⟩,
    ⟨some 29, .fa 3 (.t 28), none⟩,
    ⟨some 30, .ld .cp none (.t 29), none⟩,
    ⟨some 31, .mov .cp (.t 7), none⟩,
    ⟨some 32, .lkp [2] (.agg [(.b (.d (.str ⟨#[]⟩))), (.b (.d (.bool false))), (.b (.d (.str ⟨#[]⟩))), (.b (.d (.sl []))), (.b (.d (.sl []))), (.b (.d (.sl [])))]) false (.t 30) (.t 31), none⟩,
    ⟨some 33, .fld 1 none (.t 32), none⟩,
    ⟨some 34, .un .not (.t 33), none⟩,
    ⟨some 35, .mov .cp (.t 34), none⟩,
    ⟨some 36, .mov .cp (.t 0), (some (35, true))⟩,
    ⟨some 37, .mov .cp (.t 7), (some (35, true))⟩,
    ⟨some 38, .mov .cp (.t 1), (some (35, true))⟩,
    ⟨some 39, .call 34 [(.t 36), (.t 37), (.t 38)], (some (35, true))⟩,
    ⟨some 40, .pick (.t 35) (.t 39) (.k (.c (.b (.d (.bool false))))), none⟩] [0, 1, 5, 7, 21, 22, 23, 40])
  (.cond (.t 40)
    (.region false [
      ⟨some 41, .mov .own (.t 5), none⟩,
      ⟨some 42, .mov .cp (.t 7), none⟩,
      ⟨some 43, .bsl .own 1 1 [(.b (.d (.str ⟨#[]⟩)))] [(0, (.t 42))], none⟩,
      ⟨some 44, .app 1 16 (.t 41) (.t 43), none⟩,
      ⟨some 5, .mov .own (.t 44), none⟩] [0, 1, 5, 21, 22, 23])
    .skip))))
  (.region false [
    ⟨some 45, .bin .add (.t 23) (.k (.c (.b (.d (.int .i64 1))))), none⟩,
    ⟨some 23, .mov .cp (.t 45), none⟩] [0, 1, 5, 21, 22, 23])))))
def f35_l0 : ACode := .loop f35_b0
theorem u35_l0 {bd : Bd} {s : St} {β : Type} {k : AExit → St → Option β} {fns : Nat → Option AFun} : K fns bd f35_l0 s k = K fns bd f35_b0 s (fun e s' => match e with | .normal => K fns bd f35_l0 s' k | e => k e s') := K_loop
/-- (*delver/hier.Tree).Kinds -/
def f35 : AFun := ⟨2,
  (.seq (.region false [
    ⟨some 4, .mov .own (.k (.c (.osl 1 []))), none⟩] [0, 1])
  (.seq (.region false [
    ⟨some 5, .mov .own (.k (.c (.osl 1 []))), none⟩] [0, 1, 5])
  (.seq (.seq (.region false [
    ⟨some 8, .mov .cp (.t 0), none⟩,
    ⟨some 9, .nilc (.t 8), none⟩,
    ⟨some 10, .fa 2 (.t 9), none⟩,
    ⟨some 11, .ld .cp none (.t 10), none⟩,
    ⟨some 12, .bin .neq (.t 11) (.k (.c (.b (.d (.int .i64 0))))), none⟩] [0, 1, 5, 12])
  (.cond (.t 12)
    (.seq (.region false [
      ⟨some 4, .mov .own (.k (.c (.osl 1 []))), none⟩] [4])
    .ret)
    .skip))
  (.seq (.seq (.region true [
    ⟨some 13, .mov .cp (.t 0), none⟩,
    ⟨some 14, .nilc (.t 13), none⟩,
    ⟨some 15, .fa 1 (.t 14), none⟩,
    ⟨some 16, .ld .cp none (.t 15), none⟩,
    ⟨some 17, .mov .cp (.t 0), none⟩,
    ⟨some 18, .nilc (.t 17), none⟩,
    ⟨some 19, .fa 0 (.t 18), none⟩,
    ⟨some 20, .ld .cp none (.t 19), none⟩,
    ⟨some 21, .slc .cp 1 (.t 16) (some (.t 20)) none, none⟩,
    ⟨some 22, .len 0 (.t 21), none⟩,
    ⟨some 23, .mov .cp (.k (.c (.b (.d (.int .i64 0))))), none⟩] [0, 1, 5, 21, 22, 23])
  (.block 0 f35_l0))
  (.seq (.region false [
    ⟨some 46, .mov .own (.t 5), none⟩,
    ⟨some 4, .mov .own (.t 46), none⟩] [4])
  .ret))))), [(.tmp 4)], .pure, false⟩
/-- delver/hier.Kinds -/
def f15 : AFun := ⟨2,
  (.seq (.region false [
    ⟨some 2, .box (.t 0), none⟩,
    ⟨some 4, .mov .own (.k (.c (.osl 1 []))), none⟩] [1, 2])
  (.seq (.region false [
    ⟨some 5, .ld .cp (some 1) (.t 2), none⟩,
    ⟨some 6, .call 33 [(.t 5)], none⟩,
    ⟨some 7, .mov .cp (.t 1), none⟩,
    ⟨some 8, .call 35 [(.t 6), (.t 7)], none⟩,
    ⟨some 4, .mov .own (.t 8), none⟩] [4])
  .ret)), [(.tmp 4)], .pure, false⟩
/-- delver/hier.Check -/
def f18 : AFun := ⟨1,
  (.seq (.region false [
    ⟨some 1, .box (.t 0), none⟩,
    ⟨some 2, .mov .own (.k (.c (.b (.d (.int .i64 0))))), none⟩] [1])
  (.seq (.region false [
    ⟨some 3, .ld .cp (some 1) (.t 1), none⟩,
    ⟨some 4, .call 33 [(.t 3)], none⟩,
    ⟨some 5, .nilc (.t 4), none⟩,
    ⟨some 6, .fa 2 (.t 5), none⟩,
    ⟨some 7, .ld .own none (.t 6), none⟩,
    ⟨some 2, .mov .own (.t 7), none⟩] [2])
  .ret)), [(.tmp 2)], .pure, false⟩
/-- (*delver/hier.Tree).Class -/
def f37 : AFun := ⟨2,
  (.seq (.region false [
    ⟨some 4, .alloc [(.b (.d (.str ⟨#[]⟩))), (.b (.d (.bool false))), (.b (.d (.str ⟨#[]⟩))), (.osl 1 []), (.osl 4 []), (.osl 9 [])], none⟩,
    ⟨some 5, .mov .own (.k (.c (.b (.d (.bool false))))), none⟩] [0, 1, 4])
  (.seq (.region false [
    ⟨some 9, .mov .cp (.t 0), none⟩,
    ⟨some 10, .nilc (.t 9), none⟩,
    ⟨some 11, .fa 3 (.t 10), none⟩,
    ⟨some 12, .ld .cp none (.t 11), none⟩,
    ⟨some 13, .mov .cp (.t 1), none⟩,
    ⟨some 14, .lkp [2] (.agg [(.b (.d (.str ⟨#[]⟩))), (.b (.d (.bool false))), (.b (.d (.str ⟨#[]⟩))), (.b (.d (.sl []))), (.b (.d (.sl []))), (.b (.d (.sl [])))]) true (.t 12) (.t 13), none⟩,
    ⟨some 8, .mov .own (.t 14), none⟩,
    ⟨some 15, .ext 0 (.t 8), none⟩,
    ⟨some 16, .ext 1 (.t 8), none⟩,
    ⟨some 6, .alloc [(.b (.d (.str ⟨#[]⟩))), (.b (.d (.bool false))), (.b (.d (.str ⟨#[]⟩))), (.osl 1 []), (.osl 4 []), (.osl 9 [])], none⟩,
    ⟨none, .st 6 (.t 6) (.t 15), none⟩,
    ⟨some 7, .mov .cp (.t 16), none⟩] [0, 4, 6, 7])
  (.seq (.region true [
    ⟨some 17, .ld .cp (some 6) (.t 6), none⟩,
    ⟨some 18, .mov .cp (.t 7), none⟩,
    ⟨some 19, .mov .cp (.t 18), none⟩,
    ⟨some 20, .mov .cp (.t 0), (some (19, true))⟩,
    ⟨some 21, .nilc (.t 20), (some (19, true))⟩,
    ⟨some 22, .fa 2 (.t 21), (some (19, true))⟩,
    ⟨some 23, .ld .cp none (.t 22), (some (19, true))⟩,
    ⟨some 24, .bin .eql (.t 23) (.k (.c (.b (.d (.int .i64 0))))), (some (19, true))⟩,
    ⟨some 25, .pick (.t 19) (.t 24) (.k (.c (.b (.d (.bool false))))), none⟩,
    ⟨none, .stl 6 (.t 4) (.t 17) [6, 22], none⟩,
    ⟨some 5, .mov .own (.t 25), none⟩] [4, 5])
  .ret))), [(.cell 4 (some 6)), (.tmp 5)], .pure, false⟩
/-- (*delver/hier.Tree).Super -/
def f39 : AFun := ⟨2,
  (.seq (.region false [
    ⟨some 4, .mov .own (.k (.c (.b (.d (.str ⟨#[]⟩))))), none⟩,
    ⟨some 5, .mov .own (.k (.c (.b (.d (.bool false))))), none⟩] [0, 1])
  (.seq (.region false [
    ⟨some 9, .mov .cp (.t 0), none⟩,
    ⟨some 10, .mov .cp (.t 1), none⟩,
    ⟨some 11, .call 37 [(.t 9), (.t 10)], none⟩,
    ⟨some 8, .mov .own (.t 11), none⟩,
    ⟨some 12, .ext 0 (.t 8), none⟩,
    ⟨some 13, .ext 1 (.t 8), none⟩,
    ⟨some 6, .alloc [(.b (.d (.str ⟨#[]⟩))), (.b (.d (.bool false))), (.b (.d (.str ⟨#[]⟩))), (.osl 1 []), (.osl 4 []), (.osl 9 [])], none⟩,
    ⟨none, .st 6 (.t 6) (.t 12), none⟩,
    ⟨some 7, .mov .cp (.t 13), none⟩] [0, 6, 7])
  (.seq (.seq (.region false [
    ⟨some 14, .mov .cp (.t 7), none⟩,
    ⟨some 15, .un .not (.t 14), none⟩] [0, 6, 15])
  (.cond (.t 15)
    (.seq (.region false [
      ⟨some 4, .mov .own (.k (.c (.b (.d (.str ⟨#[]⟩))))), none⟩,
      ⟨some 5, .mov .own (.k (.c (.b (.d (.bool false))))), none⟩] [4, 5])
    .ret)
    .skip))
  (.seq (.region false [
    ⟨some 16, .mov .cp (.t 0), none⟩,
    ⟨some 17, .ld .cp (some 6) (.t 6), none⟩,
    ⟨some 18, .call 56 [(.t 16), (.t 17)], none⟩,
    ⟨some 19, .ext 0 (.t 18), none⟩,
    ⟨some 20, .ext 1 (.t 18), none⟩,
    ⟨some 4, .mov .own (.t 19), none⟩,
    ⟨some 5, .mov .own (.t 20), none⟩] [4, 5])
  .ret)))), [(.tmp 4), (.tmp 5)], .pure, false⟩
/-- delver/hier.Super -/
def f20 : AFun := ⟨2,
  (.seq (.region false [
    ⟨some 2, .box (.t 0), none⟩,
    ⟨some 4, .mov .own (.k (.c (.b (.d (.str ⟨#[]⟩))))), none⟩,
    ⟨some 5, .mov .own (.k (.c (.b (.d (.bool false))))), none⟩] [1, 2])
  (.seq (.region false [
    ⟨some 6, .ld .cp (some 1) (.t 2), none⟩,
    ⟨some 7, .call 33 [(.t 6)], none⟩,
    ⟨some 8, .mov .cp (.t 1), none⟩,
    ⟨some 9, .call 39 [(.t 7), (.t 8)], none⟩,
    ⟨some 10, .ext 0 (.t 9), none⟩,
    ⟨some 11, .ext 1 (.t 9), none⟩,
    ⟨some 4, .mov .own (.t 10), none⟩,
    ⟨some 5, .mov .own (.t 11), none⟩] [4, 5])
  .ret)), [(.tmp 4), (.tmp 5)], .pure, false⟩
/-- delver/delverlaw04.wakes -/
def f13 : AFun := ⟨0,
  (.seq (.region false [
    ⟨some 0, .mov .own (.k (.c (.b (.d (.bool false))))), none⟩] [])
  (.seq (.region false [
    ⟨some 5, .build [(.b (.d (.str ⟨#[]⟩))), (.b (.d (.bool false))), (.b (.d (.str ⟨#[]⟩))), (.osl 1 []), (.osl 4 []), (.osl 9 [])] [(0, 1, (.k (.c (.b (.d (.str ⟨#[65]⟩))))))], none⟩,
    ⟨some 6, .build [(.b (.d (.str ⟨#[]⟩))), (.b (.d (.bool false))), (.b (.d (.str ⟨#[]⟩))), (.osl 1 []), (.osl 4 []), (.osl 9 [])] [(0, 1, (.k (.c (.b (.d (.str ⟨#[66]⟩)))))), (2, 1, (.k (.c (.b (.d (.str ⟨#[65]⟩))))))], none⟩,
    ⟨some 7, .bsl .own 6 2 [(.b (.d (.str ⟨#[]⟩))), (.b (.d (.bool false))), (.b (.d (.str ⟨#[]⟩))), (.osl 1 []), (.osl 4 []), (.osl 9 [])] [(0, (.t 5)), (1, (.t 6))], none⟩,
    ⟨some 8, .build [(.osl 6 [])] [(0, 1, (.t 7))], none⟩,
    ⟨some 1, .alloc [(.osl 6 [])], none⟩,
    ⟨none, .st 1 (.t 1) (.t 8), none⟩] [1])
  (.seq (.region false [
    ⟨some 10, .ld .cp (some 1) (.t 1), none⟩,
    ⟨some 11, .callb 20 [(.t 10), (.k (.c (.b (.d (.str ⟨#[65]⟩)))))], none⟩,
    ⟨some 9, .mov .own (.t 11), none⟩,
    ⟨some 12, .ext 0 (.t 9), none⟩,
    ⟨some 13, .ext 1 (.t 9), none⟩,
    ⟨some 2, .mov .cp (.t 12), none⟩,
    ⟨some 3, .mov .cp (.t 13), none⟩] [1, 2, 3])
  (.seq (.region false [
    ⟨some 14, .ld .cp (some 1) (.t 1), none⟩,
    ⟨some 15, .callb 15 [(.t 14), (.k (.c (.b (.d (.str ⟨#[65]⟩)))))], none⟩,
    ⟨some 4, .mov .cp (.t 15), none⟩] [1, 2, 3, 4])
  (.seq (.region false [
    ⟨some 16, .ld .cp (some 1) (.t 1), none⟩,
    ⟨some 17, .callb 22 [(.t 16)], none⟩,
    ⟨some 18, .len 0 (.t 17), none⟩,
    ⟨some 19, .bin .eql (.t 18) (.k (.c (.b (.d (.int .i64 10))))), none⟩,
    ⟨some 20, .mov .cp (.t 19), none⟩,
    ⟨some 21, .ld .cp (some 1) (.t 1), (some (20, true))⟩,
    ⟨some 22, .callb 18 [(.t 21)], (some (20, true))⟩,
    ⟨some 23, .bin .eql (.t 22) (.k (.c (.b (.d (.int .i64 0))))), (some (20, true))⟩,
    ⟨some 24, .pick (.t 20) (.t 23) (.k (.c (.b (.d (.bool false))))), none⟩,
    ⟨some 25, .mov .cp (.t 24), none⟩,
    ⟨some 26, .ld .cp (some 1) (.t 1), (some (25, true))⟩,
    ⟨some 27, .callb 12 [(.t 26), (.k (.c (.b (.d (.str ⟨#[78, 117, 108, 108, 69, 114, 114, 111, 114]⟩))))), (.k (.c (.b (.d (.str ⟨#[69, 114, 114, 111, 114]⟩)))))], (some (25, true))⟩,
    ⟨some 28, .pick (.t 25) (.t 27) (.k (.c (.b (.d (.bool false))))), none⟩,
    ⟨some 29, .mov .cp (.t 28), none⟩,
    ⟨some 30, .ld .cp (some 1) (.t 1), (some (29, true))⟩,
    ⟨some 31, .callb 12 [(.t 30), (.k (.c (.b (.d (.str ⟨#[65]⟩))))), (.k (.c (.b (.d (.str ⟨#[66]⟩)))))], (some (29, true))⟩,
    ⟨some 32, .un .not (.t 31), (some (29, true))⟩,
    ⟨some 33, .pick (.t 29) (.t 32) (.k (.c (.b (.d (.bool false))))), none⟩,
    ⟨some 34, .mov .cp (.t 33), none⟩,
    ⟨some 35, .mov .cp (.t 3), (some (34, true))⟩,
    ⟨some 36, .pick (.t 34) (.t 35) (.k (.c (.b (.d (.bool false))))), none⟩,
    ⟨some 37, .mov .cp (.t 36), none⟩,
    ⟨some 38, .mov .cp (.t 2), (some (37, true))⟩,
    ⟨some 39, .bin .eql (.t 38) (.k (.c (.b (.d (.str ⟨#[79, 98, 106, 101, 99, 116]⟩))))), (some (37, true))⟩,
    ⟨some 40, .pick (.t 37) (.t 39) (.k (.c (.b (.d (.bool false))))), none⟩,
    ⟨some 41, .mov .cp (.t 40), none⟩,
    ⟨some 42, .mov .cp (.t 4), (some (41, true))⟩,
    ⟨some 43, .bsl .own 1 2 [(.b (.d (.str ⟨#[]⟩)))] [(0, (.k (.c (.b (.d (.str ⟨#[65]⟩)))))), (1, (.k (.c (.b (.d (.str ⟨#[66]⟩))))))], (some (41, true))⟩,
    ⟨some 44, .callb 14 [(.t 42), (.t 43)], (some (41, true))⟩,
    ⟨some 45, .pick (.t 41) (.t 44) (.k (.c (.b (.d (.bool false))))), none⟩,
    ⟨some 46, .mov .cp (.t 45), none⟩,
    ⟨some 47, .build [(.b (.d (.str ⟨#[]⟩))), (.b (.d (.bool false))), (.b (.d (.str ⟨#[]⟩))), (.osl 1 []), (.osl 4 []), (.osl 9 [])] [(0, 1, (.k (.c (.b (.d (.str ⟨#[69, 114, 114, 111, 114]⟩))))))], (some (46, true))⟩,
    ⟨some 48, .bsl .own 6 1 [(.b (.d (.str ⟨#[]⟩))), (.b (.d (.bool false))), (.b (.d (.str ⟨#[]⟩))), (.osl 1 []), (.osl 4 []), (.osl 9 [])] [(0, (.t 47))], (some (46, true))⟩,
    ⟨some 49, .build [(.osl 6 [])] [(0, 1, (.t 48))], (some (46, true))⟩,
    ⟨some 50, .callb 18 [(.t 49)], (some (46, true))⟩,
    ⟨some 51, .bin .eql (.t 50) (.k (.c (.b (.d (.int .i64 6))))), (some (46, true))⟩,
    ⟨some 52, .pick (.t 46) (.t 51) (.k (.c (.b (.d (.bool false))))), none⟩,
    ⟨some 0, .mov .own (.t 52), none⟩] [0])
  .ret))))), [(.tmp 0)], .pure, false⟩
/-- delver/delverlaw04.HierOrder -/
def f3 : AFun := ⟨4,
  (.seq (.region false [
    ⟨some 4, .box (.t 0), none⟩,
    ⟨some 8, .mov .own (.k (.c (.b (.d (.bool false))))), none⟩] [1, 2, 3, 4])
  (.seq (.seq (.region false [
    ⟨some 13, .ld .cp (some 1) (.t 4), none⟩,
    ⟨some 14, .callb 9 [(.t 13)], none⟩,
    ⟨some 15, .mov .cp (.t 14), none⟩,
    ⟨some 16, .ld .cp (some 1) (.t 4), (some (15, false))⟩,
    ⟨some 17, .callb 10 [(.t 16)], (some (15, false))⟩,
    ⟨some 18, .bin .neq (.t 17) (.k (.c (.b (.d (.int .i64 0))))), (some (15, false))⟩,
    ⟨some 19, .pick (.t 15) (.k (.c (.b (.d (.bool true))))) (.t 18), none⟩] [1, 2, 3, 4, 19])
  (.cond (.t 19)
    (.seq (.region false [
      ⟨some 8, .mov .own (.k (.c (.b (.d (.bool true))))), none⟩] [8])
    .ret)
    .skip))
  (.seq (.region false [
    ⟨some 20, .ld .cp (some 1) (.t 4), none⟩,
    ⟨some 21, .callb 11 [(.t 20)], none⟩,
    ⟨some 9, .mov .cp (.t 21), none⟩] [1, 2, 3, 4, 9])
  (.seq (.seq (.region false [
    ⟨some 22, .mov .cp (.t 9), none⟩,
    ⟨some 23, .len 0 (.t 22), none⟩,
    ⟨some 24, .bin .eql (.t 23) (.k (.c (.b (.d (.int .i64 0))))), none⟩] [1, 2, 3, 4, 9, 24])
  (.cond (.t 24)
    (.seq (.region false [
      ⟨some 8, .mov .own (.k (.c (.b (.d (.bool false))))), none⟩] [8])
    .ret)
    .skip))
  (.seq (.region true [
    ⟨some 25, .mov .cp (.t 9), none⟩,
    ⟨some 26, .mov .cp (.t 1), none⟩,
    ⟨some 27, .conv .u64 (.t 26), none⟩,
    ⟨some 28, .mov .cp (.t 9), none⟩,
    ⟨some 29, .len 0 (.t 28), none⟩,
    ⟨some 30, .conv .u64 (.t 29), none⟩,
    ⟨some 31, .bin .rem (.t 27) (.t 30), none⟩,
    ⟨some 32, .conv .i64 (.t 31), none⟩,
    ⟨some 33, .ia 1 (.t 25) (.t 32), none⟩,
    ⟨some 34, .ld .cp none (.t 33), none⟩,
    ⟨some 35, .mov .cp (.t 9), none⟩,
    ⟨some 36, .mov .cp (.t 2), none⟩,
    ⟨some 37, .conv .u64 (.t 36), none⟩,
    ⟨some 38, .mov .cp (.t 9), none⟩,
    ⟨some 39, .len 0 (.t 38), none⟩,
    ⟨some 40, .conv .u64 (.t 39), none⟩,
    ⟨some 41, .bin .rem (.t 37) (.t 40), none⟩,
    ⟨some 42, .conv .i64 (.t 41), none⟩,
    ⟨some 43, .ia 1 (.t 35) (.t 42), none⟩,
    ⟨some 44, .ld .cp none (.t 43), none⟩,
    ⟨some 45, .mov .cp (.t 9), none⟩,
    ⟨some 46, .mov .cp (.t 3), none⟩,
    ⟨some 47, .conv .u64 (.t 46), none⟩,
    ⟨some 48, .mov .cp (.t 9), none⟩,
    ⟨some 49, .len 0 (.t 48), none⟩,
    ⟨some 50, .conv .u64 (.t 49), none⟩,
    ⟨some 51, .bin .rem (.t 47) (.t 50), none⟩,
    ⟨some 52, .conv .i64 (.t 51), none⟩,
    ⟨some 53, .ia 1 (.t 45) (.t 52), none⟩,
    ⟨some 54, .ld .cp none (.t 53), none⟩,
    ⟨some 10, .mov .cp (.t 34), none⟩,
    ⟨some 11, .mov .cp (.t 44), none⟩,
    ⟨some 12, .mov .cp (.t 54), none⟩] [4, 10, 11, 12])
  (.seq (.seq (.region false [
    ⟨some 55, .ld .cp (some 1) (.t 4), none⟩,
    ⟨some 56, .mov .cp (.t 10), none⟩,
    ⟨some 57, .mov .cp (.t 10), none⟩,
    ⟨some 58, .callb 12 [(.t 55), (.t 56), (.t 57)], none⟩,
    ⟨some 59, .un .not (.t 58), none⟩,
    ⟨some 60, .mov .cp (.t 59), none⟩,
    ⟨some 61, .ld .cp (some 1) (.t 4), (some (60, false))⟩,
    ⟨some 62, .mov .cp (.t 10), (some (60, false))⟩,
    ⟨some 63, .callb 12 [(.t 61), (.t 62), (.k (.c (.b (.d (.str ⟨#[79, 98, 106, 101, 99, 116]⟩)))))], (some (60, false))⟩,
    ⟨some 64, .un .not (.t 63), (some (60, false))⟩,
    ⟨some 65, .pick (.t 60) (.k (.c (.b (.d (.bool true))))) (.t 64), none⟩] [4, 10, 11, 12, 65])
  (.cond (.t 65)
    (.seq (.region false [
      ⟨some 8, .mov .own (.k (.c (.b (.d (.bool false))))), none⟩] [8])
    .ret)
    .skip))
  (.seq (.seq (.region false [
    ⟨some 66, .ld .cp (some 1) (.t 4), none⟩,
    ⟨some 67, .mov .cp (.t 10), none⟩,
    ⟨some 68, .mov .cp (.t 11), none⟩,
    ⟨some 69, .callb 12 [(.t 66), (.t 67), (.t 68)], none⟩,
    ⟨some 70, .mov .cp (.t 69), none⟩,
    ⟨some 71, .ld .cp (some 1) (.t 4), (some (70, true))⟩,
    ⟨some 72, .mov .cp (.t 11), (some (70, true))⟩,
    ⟨some 73, .mov .cp (.t 12), (some (70, true))⟩,
    ⟨some 74, .callb 12 [(.t 71), (.t 72), (.t 73)], (some (70, true))⟩,
    ⟨some 75, .pick (.t 70) (.t 74) (.k (.c (.b (.d (.bool false))))), none⟩,
    ⟨some 76, .mov .cp (.t 75), none⟩,
    ⟨some 77, .ld .cp (some 1) (.t 4), (some (76, true))⟩,
    ⟨some 78, .mov .cp (.t 10), (some (76, true))⟩,
    ⟨some 79, .mov .cp (.t 12), (some (76, true))⟩,
    ⟨some 80, .callb 12 [(.t 77), (.t 78), (.t 79)], (some (76, true))⟩,
    ⟨some 81, .un .not (.t 80), (some (76, true))⟩,
    ⟨some 82, .pick (.t 76) (.t 81) (.k (.c (.b (.d (.bool false))))), none⟩] [4, 10, 11, 82])
  (.cond (.t 82)
    (.seq (.region false [
      ⟨some 8, .mov .own (.k (.c (.b (.d (.bool false))))), none⟩] [8])
    .ret)
    .skip))
  (.seq (.region false [
    ⟨some 83, .mov .cp (.t 10), none⟩,
    ⟨some 84, .mov .cp (.t 11), none⟩,
    ⟨some 85, .bin .eql (.t 83) (.t 84), none⟩,
    ⟨some 86, .mov .cp (.t 85), none⟩,
    ⟨some 87, .ld .cp (some 1) (.t 4), (some (86, false))⟩,
    ⟨some 88, .mov .cp (.t 10), (some (86, false))⟩,
    ⟨some 89, .mov .cp (.t 11), (some (86, false))⟩,
    ⟨some 90, .callb 12 [(.t 87), (.t 88), (.t 89)], (some (86, false))⟩,
    ⟨some 91, .un .not (.t 90), (some (86, false))⟩,
    ⟨some 92, .pick (.t 86) (.k (.c (.b (.d (.bool true))))) (.t 91), none⟩,
    ⟨some 93, .mov .cp (.t 92), none⟩,
    ⟨some 94, .ld .cp (some 1) (.t 4), (some (93, false))⟩,
    ⟨some 95, .mov .cp (.t 11), (some (93, false))⟩,
    ⟨some 96, .mov .cp (.t 10), (some (93, false))⟩,
    ⟨some 97, .callb 12 [(.t 94), (.t 95), (.t 96)], (some (93, false))⟩,
    ⟨some 98, .un .not (.t 97), (some (93, false))⟩,
    ⟨some 99, .pick (.t 93) (.k (.c (.b (.d (.bool true))))) (.t 98), none⟩,
    ⟨some 100, .mov .cp (.t 99), none⟩,
    ⟨some 101, .callb 13 [], (some (100, true))⟩,
    ⟨some 102, .pick (.t 100) (.t 101) (.k (.c (.b (.d (.bool false))))), none⟩,
    ⟨some 8, .mov .own (.t 102), none⟩] [8])
  .ret)))))))), [(.tmp 8)], .pure, false⟩
def f4_b0 : ACode := (.wrap true [3, 8, 9, 10, 11] [6] [(0, [3, 8, 9, 10])]
  (.seq (.seq (.region false [
    ⟨some 48, .mov .cp (.t 11), none⟩,
    ⟨some 49, .fa 0 (.t 3), none⟩,
    ⟨some 50, .ld .cp none (.t 49), none⟩,
    ⟨some 51, .len 0 (.t 50), none⟩,
    ⟨some 52, .bin .lss (.t 48) (.t 51), none⟩] [3, 8, 9, 10, 11, 52])
  (.cond (.t 52)
    .skip
    (.exit 0)))
  (.seq (.block 1 (.seq (.region true [
    ⟨some 55, .fa 0 (.t 3), none⟩,
    ⟨some 56, .ld .cp none (.t 55), none⟩,
    ⟨some 57, .mov .cp (.t 11), none⟩,
    ⟨some 58, .ia 6 (.t 56) (.t 57), none⟩,
    ⟨some 59, .fa 1 (.t 58), none⟩,
    ⟨some 60, .ld .cp none (.t 59), none⟩,
    ⟨some 61, .un .not (.t 60), none⟩,
    ⟨some 62, .mov .cp (.t 61), none⟩,
    ⟨some 63, .ld .cp (some 1) (.t 3), (some (62, true))⟩,
    ⟨some 64, .fa 0 (.t 3), (some (62, true))⟩,
    ⟨some 65, .ld .cp none (.t 64), (some (62, true))⟩,
    ⟨some 66, .mov .cp (.t 11), (some (62, true))⟩,
    ⟨some 67, .ia 6 (.t 65) (.t 66), (some (62, true))⟩,
    ⟨some 68, .fa 0 (.t 67), (some (62, true))⟩,
    ⟨some 69, .ld .cp none (.t 68), (some (62, true))⟩,
    ⟨some 70, .mov .cp (.t 8), (some (62, true))⟩,
    ⟨some 71, .callb 12 [(.t 63), (.t 69), (.t 70)], (some (62, true))⟩,
    ⟨some 72, .pick (.t 62) (.t 71) (.k (.c (.b (.d (.bool false))))), none⟩] [3, 8, 9, 10, 11, 72])
  (.cond (.t 72)
    (.region false [
      ⟨some 73, .mov .own (.t 10), none⟩,
      ⟨some 74, .fa 0 (.t 3), none⟩,
      ⟨some 75, .ld .cp none (.t 74), none⟩,
      ⟨some 76, .mov .cp (.t 11), none⟩,
      ⟨some 77, .ia 6 (.t 75) (.t 76), none⟩,
      ⟨some 78, .fa 0 (.t 77), none⟩,
      ⟨some 79, .ld .cp none (.t 78), none⟩,
      ⟨some 80, .bsl .own 1 1 [(.b (.d (.str ⟨#[]⟩)))] [(0, (.t 79))], none⟩,
      ⟨some 81, .app 1 16 (.t 73) (.t 80), none⟩,
      ⟨some 10, .mov .own (.t 81), none⟩] [3, 8, 9, 10, 11])
    .skip)))
  (.region false [
    ⟨some 53, .mov .cp (.t 11), none⟩,
    ⟨some 54, .bin .add (.t 53) (.k (.c (.b (.d (.int .i64 1))))), none⟩,
    ⟨some 11, .mov .cp (.t 54), none⟩] [3, 8, 9, 10, 11]))))
def f4_l0 : ACode := .loop f4_b0
theorem u4_l0 {bd : Bd} {s : St} {β : Type} {k : AExit → St → Option β} {fns : Nat → Option AFun} : K fns bd f4_l0 s k = K fns bd f4_b0 s (fun e s' => match e with | .normal => K fns bd f4_l0 s' k | e => k e s') := K_loop
def f4_b1 : ACode := (.wrap true [10, 12, 13, 14, 15] [6] [(4, [10, 12, 13, 14])]
  (.seq (.seq (.region false [
    ⟨some 103, .mov .cp (.t 15), none⟩,
    ⟨some 104, .mov .cp (.t 10), none⟩,
    ⟨some 105, .len 0 (.t 104), none⟩,
    ⟨some 106, .bin .lss (.t 103) (.t 105), none⟩] [10, 12, 13, 14, 15, 106])
  (.cond (.t 106)
    .skip
    (.exit 4)))
  (.seq (.block 5 (.region true [
    ⟨some 109, .mov .cp (.t 14), none⟩,
    ⟨some 110, .mov .cp (.t 109), none⟩,
    ⟨some 111, .mov .cp (.t 10), (some (110, false))⟩,
    ⟨some 112, .mov .cp (.t 15), (some (110, false))⟩,
    ⟨some 113, .ia 1 (.t 111) (.t 112), (some (110, false))⟩,
    ⟨some 114, .ld .cp none (.t 113), (some (110, false))⟩,
    ⟨some 115, .mov .cp (.t 12), (some (110, false))⟩,
    ⟨some 116, .mov .cp (.t 13), (some (110, false))⟩,
    ⟨some 117, .ia 1 (.t 115) (.t 116), (some (110, false))⟩,
    ⟨some 118, .ld .cp none (.t 117), (some (110, false))⟩,
    ⟨some 119, .bin .eql (.t 114) (.t 118), (some (110, false))⟩,
    ⟨some 120, .pick (.t 110) (.k (.c (.b (.d (.bool true))))) (.t 119), none⟩,
    ⟨some 14, .mov .cp (.t 120), none⟩] [10, 12, 13, 14, 15]))
  (.region false [
    ⟨some 107, .mov .cp (.t 15), none⟩,
    ⟨some 108, .bin .add (.t 107) (.k (.c (.b (.d (.int .i64 1))))), none⟩,
    ⟨some 15, .mov .cp (.t 108), none⟩] [10, 12, 13, 14, 15]))))
def f4_l1 : ACode := .loop f4_b1
theorem u4_l1 {bd : Bd} {s : St} {β : Type} {k : AExit → St → Option β} {fns : Nat → Option AFun} : K fns bd f4_l1 s k = K fns bd f4_b1 s (fun e s' => match e with | .normal => K fns bd f4_l1 s' k | e => k e s') := K_loop
def f4_b2 : ACode := (.wrap true [10, 12, 13] [6] [(2, [])]
  (.seq (.seq (.region false [
    ⟨some 97, .mov .cp (.t 13), none⟩,
    ⟨some 98, .mov .cp (.t 12), none⟩,
    ⟨some 99, .len 0 (.t 98), none⟩,
    ⟨some 100, .bin .lss (.t 97) (.t 99), none⟩] [10, 12, 13, 100])
  (.cond (.t 100)
    .skip
    (.exit 2)))
  (.seq (.block 3 (.seq (.region false [
    ⟨some 14, .mov .cp (.k (.c (.b (.d (.bool false))))), none⟩] [10, 12, 13, 14])
  (.seq (.seq (.region false [
    ⟨some 15, .mov .cp (.k (.c (.b (.d (.int .i64 0))))), none⟩] [10, 12, 13, 14, 15])
  (.block 4 f4_l1))
  (.seq (.region false [
    ⟨some 121, .mov .cp (.t 14), none⟩,
    ⟨some 122, .un .not (.t 121), none⟩] [10, 12, 13, 122])
  (.cond (.t 122)
    (.seq (.region false [
      ⟨some 6, .mov .own (.k (.c (.b (.d (.bool false))))), none⟩] [6])
    .ret)
    .skip)))))
  (.region false [
    ⟨some 101, .mov .cp (.t 13), none⟩,
    ⟨some 102, .bin .add (.t 101) (.k (.c (.b (.d (.int .i64 1))))), none⟩,
    ⟨some 13, .mov .cp (.t 102), none⟩] [10, 12, 13]))))
def f4_l2 : ACode := .loop f4_b2
theorem u4_l2 {bd : Bd} {s : St} {β : Type} {k : AExit → St → Option β} {fns : Nat → Option AFun} : K fns bd f4_l2 s k = K fns bd f4_b2 s (fun e s' => match e with | .normal => K fns bd f4_l2 s' k | e => k e s') := K_loop
/-- delver/delverlaw04.HierKinds -/
def f4 : AFun := ⟨3,
  (.seq (.region false [
    ⟨some 3, .box (.t 0), none⟩,
    ⟨some 6, .mov .own (.k (.c (.b (.d (.bool false))))), none⟩] [1, 2, 3])
  (.seq (.seq (.region false [
    ⟨some 16, .ld .cp (some 1) (.t 3), none⟩,
    ⟨some 17, .callb 9 [(.t 16)], none⟩,
    ⟨some 18, .mov .cp (.t 17), none⟩,
    ⟨some 19, .ld .cp (some 1) (.t 3), (some (18, false))⟩,
    ⟨some 20, .callb 10 [(.t 19)], (some (18, false))⟩,
    ⟨some 21, .bin .neq (.t 20) (.k (.c (.b (.d (.int .i64 0))))), (some (18, false))⟩,
    ⟨some 22, .pick (.t 18) (.k (.c (.b (.d (.bool true))))) (.t 21), none⟩] [1, 2, 3, 22])
  (.cond (.t 22)
    (.seq (.region false [
      ⟨some 6, .mov .own (.k (.c (.b (.d (.bool true))))), none⟩] [6])
    .ret)
    .skip))
  (.seq (.region false [
    ⟨some 23, .ld .cp (some 1) (.t 3), none⟩,
    ⟨some 24, .callb 11 [(.t 23)], none⟩,
    ⟨some 7, .mov .cp (.t 24), none⟩] [1, 2, 3, 7])
  (.seq (.seq (.region false [
    ⟨some 25, .mov .cp (.t 7), none⟩,
    ⟨some 26, .len 0 (.t 25), none⟩,
    ⟨some 27, .bin .eql (.t 26) (.k (.c (.b (.d (.int .i64 0))))), none⟩] [1, 2, 3, 7, 27])
  (.cond (.t 27)
    (.seq (.region false [
      ⟨some 6, .mov .own (.k (.c (.b (.d (.bool false))))), none⟩] [6])
    .ret)
    .skip))
  (.seq (.region true [
    ⟨some 28, .mov .cp (.t 7), none⟩,
    ⟨some 29, .mov .cp (.t 1), none⟩,
    ⟨some 30, .conv .u64 (.t 29), none⟩,
    ⟨some 31, .mov .cp (.t 7), none⟩,
    ⟨some 32, .len 0 (.t 31), none⟩,
    ⟨some 33, .conv .u64 (.t 32), none⟩,
    ⟨some 34, .bin .rem (.t 30) (.t 33), none⟩,
    ⟨some 35, .conv .i64 (.t 34), none⟩,
    ⟨some 36, .ia 1 (.t 28) (.t 35), none⟩,
    ⟨some 37, .ld .cp none (.t 36), none⟩,
    ⟨some 38, .mov .cp (.t 7), none⟩,
    ⟨some 39, .mov .cp (.t 2), none⟩,
    ⟨some 40, .conv .u64 (.t 39), none⟩,
    ⟨some 41, .mov .cp (.t 7), none⟩,
    ⟨some 42, .len 0 (.t 41), none⟩,
    ⟨some 43, .conv .u64 (.t 42), none⟩,
    ⟨some 44, .bin .rem (.t 40) (.t 43), none⟩,
    ⟨some 45, .conv .i64 (.t 44), none⟩,
    ⟨some 46, .ia 1 (.t 38) (.t 45), none⟩,
    ⟨some 47, .ld .cp none (.t 46), none⟩,
    ⟨some 8, .mov .cp (.t 37), none⟩,
    ⟨some 9, .mov .cp (.t 47), none⟩] [3, 8, 9])
  (.seq (.region false [
    ⟨some 10, .mov .own (.k (.c (.osl 1 []))), none⟩] [3, 8, 9, 10])
  (.seq (.seq (.region false [
    ⟨some 11, .mov .cp (.k (.c (.b (.d (.int .i64 0))))), none⟩] [3, 8, 9, 10, 11])
  (.block 0 f4_l0))
  (.seq (.seq (.region false [
    ⟨some 82, .ld .cp (some 1) (.t 3), none⟩,
    ⟨some 83, .mov .cp (.t 8), none⟩,
    ⟨some 84, .callb 15 [(.t 82), (.t 83)], none⟩,
    ⟨some 85, .mov .cp (.t 10), none⟩,
    ⟨some 86, .callb 14 [(.t 84), (.t 85)], none⟩,
    ⟨some 87, .un .not (.t 86), none⟩] [3, 8, 9, 10, 87])
  (.cond (.t 87)
    (.seq (.region false [
      ⟨some 6, .mov .own (.k (.c (.b (.d (.bool false))))), none⟩] [6])
    .ret)
    .skip))
  (.seq (.seq (.region false [
    ⟨some 88, .ld .cp (some 1) (.t 3), none⟩,
    ⟨some 89, .mov .cp (.t 9), none⟩,
    ⟨some 90, .mov .cp (.t 8), none⟩,
    ⟨some 91, .callb 12 [(.t 88), (.t 89), (.t 90)], none⟩,
    ⟨some 92, .un .not (.t 91), none⟩] [3, 9, 10, 92])
  (.cond (.t 92)
    (.seq (.region false [
      ⟨some 93, .callb 13 [], none⟩,
      ⟨some 6, .mov .own (.t 93), none⟩] [6])
    .ret)
    .skip))
  (.seq (.region false [
    ⟨some 94, .ld .cp (some 1) (.t 3), none⟩,
    ⟨some 95, .mov .cp (.t 9), none⟩,
    ⟨some 96, .callb 15 [(.t 94), (.t 95)], none⟩,
    ⟨some 12, .mov .cp (.t 96), none⟩] [10, 12])
  (.seq (.seq (.region false [
    ⟨some 13, .mov .cp (.k (.c (.b (.d (.int .i64 0))))), none⟩] [10, 12, 13])
  (.block 2 f4_l2))
  (.seq (.region false [
    ⟨some 123, .callb 13 [], none⟩,
    ⟨some 6, .mov .own (.t 123), none⟩] [6])
  .ret)))))))))))), [(.tmp 6)], .pure, false⟩
/-- delver/delverlaw04.HierMore -/
def f5 : AFun := ⟨3,
  (.seq (.region false [
    ⟨some 3, .box (.t 0), none⟩,
    ⟨some 6, .mov .own (.k (.c (.b (.d (.bool false))))), none⟩] [1, 2, 3])
  (.seq (.seq (.region false [
    ⟨some 12, .ld .cp (some 1) (.t 3), none⟩,
    ⟨some 13, .callb 9 [(.t 12)], none⟩,
    ⟨some 14, .mov .cp (.t 13), none⟩,
    ⟨some 15, .ld .cp (some 1) (.t 3), (some (14, false))⟩,
    ⟨some 16, .callb 10 [(.t 15)], (some (14, false))⟩,
    ⟨some 17, .bin .neq (.t 16) (.k (.c (.b (.d (.int .i64 0))))), (some (14, false))⟩,
    ⟨some 18, .pick (.t 14) (.k (.c (.b (.d (.bool true))))) (.t 17), none⟩,
    ⟨some 19, .mov .cp (.t 18), none⟩,
    ⟨some 20, .fa 0 (.t 3), (some (19, false))⟩,
    ⟨some 21, .ld .cp none (.t 20), (some (19, false))⟩,
    ⟨some 22, .len 0 (.t 21), (some (19, false))⟩,
    ⟨some 23, .bin .geq (.t 22) (.k (.c (.b (.d (.int .i64 10))))), (some (19, false))⟩,
    ⟨some 24, .pick (.t 19) (.k (.c (.b (.d (.bool true))))) (.t 23), none⟩,
    ⟨some 25, .mov .cp (.t 24), none⟩,
    ⟨some 26, .fa 0 (.t 3), (some (25, false))⟩,
    ⟨some 27, .ld .cp none (.t 26), (some (25, false))⟩,
    ⟨some 28, .callb 16 [(.t 27), (.k (.c (.b (.d (.str ⟨#[90, 122, 95, 110, 101, 119]⟩)))))], (some (25, false))⟩,
    ⟨some 29, .bin .geq (.t 28) (.k (.c (.b (.d (.int .i64 0))))), (some (25, false))⟩,
    ⟨some 30, .pick (.t 25) (.k (.c (.b (.d (.bool true))))) (.t 29), none⟩] [1, 2, 3, 30])
  (.cond (.t 30)
    (.seq (.region false [
      ⟨some 6, .mov .own (.k (.c (.b (.d (.bool true))))), none⟩] [6])
    .ret)
    .skip))
  (.seq (.region false [
    ⟨some 31, .ld .cp (some 1) (.t 3), none⟩,
    ⟨some 32, .callb 17 [(.t 31)], none⟩,
    ⟨some 7, .alloc [(.osl 6 [])], none⟩,
    ⟨none, .st 1 (.t 7) (.t 32), none⟩] [1, 2, 3, 7])
  (.seq (.region false [
    ⟨some 33, .fa 0 (.t 7), none⟩,
    ⟨some 34, .ld .own none (.t 33), none⟩,
    ⟨some 35, .build [(.b (.d (.str ⟨#[]⟩))), (.b (.d (.bool false))), (.b (.d (.str ⟨#[]⟩))), (.osl 1 []), (.osl 4 []), (.osl 9 [])] [(0, 1, (.k (.c (.b (.d (.str ⟨#[90, 122, 95, 110, 101, 119]⟩))))))], none⟩,
    ⟨some 36, .bsl .own 6 1 [(.b (.d (.str ⟨#[]⟩))), (.b (.d (.bool false))), (.b (.d (.str ⟨#[]⟩))), (.osl 1 []), (.osl 4 []), (.osl 9 [])] [(0, (.t 35))], none⟩,
    ⟨some 37, .app 6 112 (.t 34) (.t 36), none⟩,
    ⟨some 38, .fa 0 (.t 7), none⟩,
    ⟨none, .st 1 (.t 38) (.t 37), none⟩] [1, 2, 3, 7])
  (.seq (.region false [
    ⟨some 39, .ld .cp (some 1) (.t 3), none⟩,
    ⟨some 40, .callb 11 [(.t 39)], none⟩,
    ⟨some 8, .mov .cp (.t 40), none⟩] [1, 2, 3, 7, 8])
  (.seq (.seq (.region false [
    ⟨some 41, .mov .cp (.t 8), none⟩,
    ⟨some 42, .len 0 (.t 41), none⟩,
    ⟨some 43, .bin .eql (.t 42) (.k (.c (.b (.d (.int .i64 0))))), none⟩] [1, 2, 3, 7, 8, 43])
  (.cond (.t 43)
    (.seq (.region false [
      ⟨some 6, .mov .own (.k (.c (.b (.d (.bool false))))), none⟩] [6])
    .ret)
    .skip))
  (.seq (.region true [
    ⟨some 44, .mov .cp (.t 8), none⟩,
    ⟨some 45, .mov .cp (.t 1), none⟩,
    ⟨some 46, .conv .u64 (.t 45), none⟩,
    ⟨some 47, .mov .cp (.t 8), none⟩,
    ⟨some 48, .len 0 (.t 47), none⟩,
    ⟨some 49, .conv .u64 (.t 48), none⟩,
    ⟨some 50, .bin .rem (.t 46) (.t 49), none⟩,
    ⟨some 51, .conv .i64 (.t 50), none⟩,
    ⟨some 52, .ia 1 (.t 44) (.t 51), none⟩,
    ⟨some 53, .ld .cp none (.t 52), none⟩,
    ⟨some 54, .mov .cp (.t 8), none⟩,
    ⟨some 55, .mov .cp (.t 2), none⟩,
    ⟨some 56, .conv .u64 (.t 55), none⟩,
    ⟨some 57, .mov .cp (.t 8), none⟩,
    ⟨some 58, .len 0 (.t 57), none⟩,
    ⟨some 59, .conv .u64 (.t 58), none⟩,
    ⟨some 60, .bin .rem (.t 56) (.t 59), none⟩,
    ⟨some 61, .conv .i64 (.t 60), none⟩,
    ⟨some 62, .ia 1 (.t 54) (.t 61), none⟩,
    ⟨some 63, .ld .cp none (.t 62), none⟩,
    ⟨some 9, .mov .cp (.t 53), none⟩,
    ⟨some 10, .mov .cp (.t 63), none⟩] [3, 7, 9, 10])
  (.seq (.region false [
    ⟨some 64, .ld .cp (some 1) (.t 3), none⟩,
    ⟨some 65, .mov .cp (.t 9), none⟩,
    ⟨some 66, .callb 15 [(.t 64), (.t 65)], none⟩,
    ⟨some 11, .mov .own (.t 66), none⟩] [3, 7, 9, 10, 11])
  (.seq (.seq (.region false [
    ⟨some 67, .mov .cp (.t 9), none⟩,
    ⟨some 68, .bin .eql (.t 67) (.k (.c (.b (.d (.str ⟨#[79, 98, 106, 101, 99, 116]⟩))))), none⟩] [3, 7, 9, 10, 11, 68])
  (.cond (.t 68)
    (.region false [
      ⟨some 69, .mov .own (.t 11), none⟩,
      ⟨some 70, .bsl .own 1 1 [(.b (.d (.str ⟨#[]⟩)))] [(0, (.k (.c (.b (.d (.str ⟨#[90, 122, 95, 110, 101, 119]⟩))))))], none⟩,
      ⟨some 71, .app 1 16 (.t 69) (.t 70), none⟩,
      ⟨some 11, .mov .own (.t 71), none⟩] [3, 7, 9, 10, 11])
    .skip))
  (.seq (.region true [
    ⟨some 72, .ld .cp (some 1) (.t 7), none⟩,
    ⟨some 73, .callb 18 [(.t 72)], none⟩,
    ⟨some 74, .bin .eql (.t 73) (.k (.c (.b (.d (.int .i64 0))))), none⟩,
    ⟨some 75, .mov .cp (.t 74), none⟩,
    ⟨some 76, .ld .cp (some 1) (.t 3), (some (75, true))⟩,
    ⟨some 77, .mov .cp (.t 9), (some (75, true))⟩,
    ⟨some 78, .mov .cp (.t 10), (some (75, true))⟩,
    ⟨some 79, .callb 12 [(.t 76), (.t 77), (.t 78)], (some (75, true))⟩,
    ⟨some 80, .ld .cp (some 1) (.t 7), (some (75, true))⟩,
    ⟨some 81, .mov .cp (.t 9), (some (75, true))⟩,
    ⟨some 82, .mov .cp (.t 10), (some (75, true))⟩,
    ⟨some 83, .callb 12 [(.t 80), (.t 81), (.t 82)], (some (75, true))⟩,
    ⟨some 84, .eq false 0 [] (.t 79) (.t 83), (some (75, true))⟩,
    ⟨some 85, .pick (.t 75) (.t 84) (.k (.c (.b (.d (.bool false))))), none⟩,
    ⟨some 86, .mov .cp (.t 85), none⟩,
    ⟨some 87, .ld .cp (some 1) (.t 7), (some (86, true))⟩,
    ⟨some 88, .mov .cp (.t 9), (some (86, true))⟩,
    ⟨some 89, .callb 15 [(.t 87), (.t 88)], (some (86, true))⟩,
    ⟨some 90, .mov .cp (.t 11), (some (86, true))⟩,
    ⟨some 91, .callb 14 [(.t 89), (.t 90)], (some (86, true))⟩,
    ⟨some 92, .pick (.t 86) (.t 91) (.k (.c (.b (.d (.bool false))))), none⟩,
    ⟨some 93, .mov .cp (.t 92), none⟩,
    ⟨some 94, .ld .cp (some 1) (.t 7), (some (93, true))⟩,
    ⟨some 95, .mov .cp (.t 9), (some (93, true))⟩,
    ⟨some 96, .callb 12 [(.t 94), (.k (.c (.b (.d (.str ⟨#[90, 122, 95, 110, 101, 119]⟩))))), (.t 95)], (some (93, true))⟩,
    ⟨some 97, .mov .cp (.t 9), (some (93, true))⟩,
    ⟨some 98, .bin .eql (.t 97) (.k (.c (.b (.d (.str ⟨#[79, 98, 106, 101, 99, 116]⟩))))), (some (93, true))⟩,
    ⟨some 99, .eq false 0 [] (.t 96) (.t 98), (some (93, true))⟩,
    ⟨some 100, .pick (.t 93) (.t 99) (.k (.c (.b (.d (.bool false))))), none⟩,
    ⟨some 101, .mov .cp (.t 100), none⟩,
    ⟨some 102, .ld .cp (some 1) (.t 7), (some (101, true))⟩,
    ⟨some 103, .mov .cp (.t 9), (some (101, true))⟩,
    ⟨some 104, .callb 12 [(.t 102), (.t 103), (.k (.c (.b (.d (.str ⟨#[90, 122, 95, 110, 101, 119]⟩)))))], (some (101, true))⟩,
    ⟨some 105, .un .not (.t 104), (some (101, true))⟩,
    ⟨some 106, .pick (.t 101) (.t 105) (.k (.c (.b (.d (.bool false))))), none⟩,
    ⟨some 107, .mov .cp (.t 106), none⟩,
    ⟨some 108, .callb 13 [], (some (107, true))⟩,
    ⟨some 109, .pick (.t 107) (.t 108) (.k (.c (.b (.d (.bool false))))), none⟩,
    ⟨some 6, .mov .own (.t 109), none⟩] [6])
  .ret)))))))))), [(.tmp 6)], .pure, false⟩
/-- delver/hier.Find -/
def f19 : AFun := ⟨2,
  (.seq (.region false [
    ⟨some 2, .box (.t 0), none⟩,
    ⟨some 4, .alloc [(.b (.d (.str ⟨#[]⟩))), (.b (.d (.bool false))), (.b (.d (.str ⟨#[]⟩))), (.osl 1 []), (.osl 4 []), (.osl 9 [])], none⟩,
    ⟨some 5, .mov .own (.k (.c (.b (.d (.bool false))))), none⟩] [1, 2, 4])
  (.seq (.region false [
    ⟨some 9, .ld .cp (some 1) (.t 2), none⟩,
    ⟨some 10, .call 33 [(.t 9)], none⟩,
    ⟨some 11, .mov .cp (.t 1), none⟩,
    ⟨some 12, .call 37 [(.t 10), (.t 11)], none⟩,
    ⟨some 8, .mov .own (.t 12), none⟩,
    ⟨some 13, .ext 0 (.t 8), none⟩,
    ⟨some 14, .ext 1 (.t 8), none⟩,
    ⟨some 6, .alloc [(.b (.d (.str ⟨#[]⟩))), (.b (.d (.bool false))), (.b (.d (.str ⟨#[]⟩))), (.osl 1 []), (.osl 4 []), (.osl 9 [])], none⟩,
    ⟨none, .st 6 (.t 6) (.t 13), none⟩,
    ⟨some 7, .mov .cp (.t 14), none⟩] [4, 6, 7])
  (.seq (.seq (.region false [
    ⟨some 15, .mov .cp (.t 7), none⟩,
    ⟨some 16, .un .not (.t 15), none⟩] [4, 6, 16])
  (.cond (.t 16)
    (.seq (.region false [
      ⟨some 17, .build [(.b (.d (.str ⟨#[]⟩))), (.b (.d (.bool false))), (.b (.d (.str ⟨#[]⟩))), (.osl 1 []), (.osl 4 []), (.osl 9 [])] [], none⟩,
      ⟨none, .st 6 (.t 4) (.t 17), none⟩,
      ⟨some 5, .mov .own (.k (.c (.b (.d (.bool false))))), none⟩] [4, 5])
    .ret)
    .skip))
  (.seq (.region false [
    ⟨some 18, .ld .cp (some 6) (.t 6), none⟩,
    ⟨some 19, .callb 38 [(.t 18)], none⟩,
    ⟨none, .st 6 (.t 4) (.t 19), none⟩,
    ⟨some 5, .mov .own (.k (.c (.b (.d (.bool true))))), none⟩] [4, 5])
  .ret)))), [(.cell 4 (some 6)), (.tmp 5)], .pure, false⟩
def f58_b0 : ACode := (.wrap true [0, 1, 5] [4] [(0, [])]
  (.seq (.seq (.region false [
    ⟨some 11, .mov .cp (.t 5), none⟩,
    ⟨some 12, .mov .cp (.t 0), none⟩,
    ⟨some 13, .len 0 (.t 12), none⟩,
    ⟨some 14, .bin .lss (.t 11) (.t 13), none⟩] [0, 1, 5, 14])
  (.cond (.t 14)
    .skip
    (.exit 0)))
  (.seq (.block 1 (.seq (.region true [
    ⟨some 17, .mov .cp (.t 0), none⟩,
    ⟨some 18, .mov .cp (.t 5), none⟩,
    ⟨some 19, .ia 2 (.t 17) (.t 18), none⟩,
    ⟨some 20, .ld .cp (some 2) (.t 19), none⟩,
    ⟨some 21, .mov .cp (.t 1), none⟩,
    ⟨some 22, .mov .cp (.t 5), none⟩,
    ⟨some 23, .ia 2 (.t 21) (.t 22), none⟩,
    ⟨some 24, .ld .cp (some 2) (.t 23), none⟩,
    ⟨some 25, .eq true 2 [1, 2] (.t 20) (.t 24), none⟩] [0, 1, 5, 25])
  (.cond (.t 25)
    (.seq (.region false [
      ⟨some 4, .mov .own (.k (.c (.b (.d (.bool false))))), none⟩] [4])
    .ret)
    .skip)))
  (.region false [
    ⟨some 15, .mov .cp (.t 5), none⟩,
    ⟨some 16, .bin .add (.t 15) (.k (.c (.b (.d (.int .i64 1))))), none⟩,
    ⟨some 5, .mov .cp (.t 16), none⟩] [0, 1, 5]))))
def f58_l0 : ACode := .loop f58_b0
theorem u58_l0 {bd : Bd} {s : St} {β : Type} {k : AExit → St → Option β} {fns : Nat → Option AFun} : K fns bd f58_l0 s k = K fns bd f58_b0 s (fun e s' => match e with | .normal => K fns bd f58_l0 s' k | e => k e s') := K_loop
/-- delver/delverkeep.Types -/
def f58 : AFun := ⟨2,
  (.seq (.region false [
    ⟨some 4, .mov .own (.k (.c (.b (.d (.bool false))))), none⟩] [0, 1])
  (.seq (.seq (.region false [
    ⟨some 6, .mov .cp (.t 0), none⟩,
    ⟨some 7, .len 0 (.t 6), none⟩,
    ⟨some 8, .mov .cp (.t 1), none⟩,
    ⟨some 9, .len 0 (.t 8), none⟩,
    ⟨some 10, .bin .neq (.t 7) (.t 9), none⟩] [0, 1, 10])
  (.cond (.t 10)
    (.seq (.region false [
      ⟨some 4, .mov .own (.k (.c (.b (.d (.bool false))))), none⟩] [4])
    .ret)
    .skip))
  (.seq (.seq (.region false [
    ⟨some 5, .mov .cp (.k (.c (.b (.d (.int .i64 0))))), none⟩] [0, 1, 5])
  (.block 0 f58_l0))
  (.seq (.region false [
    ⟨some 4, .mov .own (.k (.c (.b (.d (.bool true))))), none⟩] [4])
  .ret)))), [(.tmp 4)], .pure, false⟩
def f42_b0 : ACode := (.wrap true [2, 3, 5] [4] [(0, [2, 3])]
  (.seq (.seq (.region false [
    ⟨some 66, .mov .cp (.t 5), none⟩,
    ⟨some 67, .fa 7 (.t 2), none⟩,
    ⟨some 68, .ld .cp none (.t 67), none⟩,
    ⟨some 69, .len 0 (.t 68), none⟩,
    ⟨some 70, .bin .lss (.t 66) (.t 69), none⟩] [2, 3, 5, 70])
  (.cond (.t 70)
    .skip
    (.exit 0)))
  (.seq (.block 1 (.seq (.region true [
    ⟨some 73, .fa 7 (.t 2), none⟩,
    ⟨some 74, .ld .cp none (.t 73), none⟩,
    ⟨some 75, .mov .cp (.t 5), none⟩,
    ⟨some 76, .ia 4 (.t 74) (.t 75), none⟩,
    ⟨some 77, .ld .cp (some 4) (.t 76), none⟩,
    ⟨some 78, .fa 7 (.t 3), none⟩,
    ⟨some 79, .ld .cp none (.t 78), none⟩,
    ⟨some 80, .mov .cp (.t 5), none⟩,
    ⟨some 81, .ia 4 (.t 79) (.t 80), none⟩,
    ⟨some 82, .ld .cp (some 4) (.t 81), none⟩,
    ⟨some 83, .eq true 2 [1, 1, 2, 2] (.t 77) (.t 82), none⟩] [2, 3, 5, 83])
  (.cond (.t 83)
    (.seq (.region false [
      ⟨some 4, .mov .own (.k (.c (.b (.d (.bool false))))), none⟩] [4])
    .ret)
    .skip)))
  (.region false [
    ⟨some 71, .mov .cp (.t 5), none⟩,
    ⟨some 72, .bin .add (.t 71) (.k (.c (.b (.d (.int .i64 1))))), none⟩,
    ⟨some 5, .mov .cp (.t 72), none⟩] [2, 3, 5]))))
def f42_l0 : ACode := .loop f42_b0
theorem u42_l0 {bd : Bd} {s : St} {β : Type} {k : AExit → St → Option β} {fns : Nat → Option AFun} : K fns bd f42_l0 s k = K fns bd f42_b0 s (fun e s' => match e with | .normal => K fns bd f42_l0 s' k | e => k e s') := K_loop
def f42_b1 : ACode := (.wrap true [2, 3, 6] [4] [(2, [])]
  (.seq (.seq (.region false [
    ⟨some 84, .mov .cp (.t 6), none⟩,
    ⟨some 85, .fa 8 (.t 2), none⟩,
    ⟨some 86, .ld .cp none (.t 85), none⟩,
    ⟨some 87, .len 0 (.t 86), none⟩,
    ⟨some 88, .bin .lss (.t 84) (.t 87), none⟩] [2, 3, 6, 88])
  (.cond (.t 88)
    .skip
    (.exit 2)))
  (.seq (.block 3 (.seq (.region true [
    ⟨some 91, .fa 8 (.t 2), none⟩,
    ⟨some 92, .ld .cp none (.t 91), none⟩,
    ⟨some 93, .mov .cp (.t 6), none⟩,
    ⟨some 94, .ia 4 (.t 92) (.t 93), none⟩,
    ⟨some 95, .ld .cp (some 4) (.t 94), none⟩,
    ⟨some 96, .fa 8 (.t 3), none⟩,
    ⟨some 97, .ld .cp none (.t 96), none⟩,
    ⟨some 98, .mov .cp (.t 6), none⟩,
    ⟨some 99, .ia 4 (.t 97) (.t 98), none⟩,
    ⟨some 100, .ld .cp (some 4) (.t 99), none⟩,
    ⟨some 101, .eq true 2 [2, 1, 1, 1] (.t 95) (.t 100), none⟩] [2, 3, 6, 101])
  (.cond (.t 101)
    (.seq (.region false [
      ⟨some 4, .mov .own (.k (.c (.b (.d (.bool false))))), none⟩] [4])
    .ret)
    .skip)))
  (.region false [
    ⟨some 89, .mov .cp (.t 6), none⟩,
    ⟨some 90, .bin .add (.t 89) (.k (.c (.b (.d (.int .i64 1))))), none⟩,
    ⟨some 6, .mov .cp (.t 90), none⟩] [2, 3, 6]))))
def f42_l1 : ACode := .loop f42_b1
theorem u42_l1 {bd : Bd} {s : St} {β : Type} {k : AExit → St → Option β} {fns : Nat → Option AFun} : K fns bd f42_l1 s k = K fns bd f42_b1 s (fun e s' => match e with | .normal => K fns bd f42_l1 s' k | e => k e s') := K_loop
/-- delver/delverkeep.Method -/
def f42 : AFun := ⟨2,
  (.seq (.region false [
    ⟨some 2, .box (.t 0), none⟩,
    ⟨some 3, .box (.t 1), none⟩,
    ⟨some 4, .mov .own (.k (.c (.b (.d (.bool false))))), none⟩] [2, 3])
  (.seq (.seq (.region false [
    ⟨some 7, .fa 0 (.t 2), none⟩,
    ⟨some 8, .ld .cp none (.t 7), none⟩,
    ⟨some 9, .fa 0 (.t 3), none⟩,
    ⟨some 10, .ld .cp none (.t 9), none⟩,
    ⟨some 11, .bin .neq (.t 8) (.t 10), none⟩,
    ⟨some 12, .mov .cp (.t 11), none⟩,
    ⟨some 13, .fa 1 (.t 2), (some (12, false))⟩,
    ⟨some 14, .ld .cp none (.t 13), (some (12, false))⟩,
    ⟨some 15, .fa 1 (.t 3), (some (12, false))⟩,
    ⟨some 16, .ld .cp none (.t 15), (some (12, false))⟩,
    ⟨some 17, .eq true 0 [] (.t 14) (.t 16), (some (12, false))⟩,
    ⟨some 18, .pick (.t 12) (.k (.c (.b (.d (.bool true))))) (.t 17), none⟩,
    ⟨some 19, .mov .cp (.t 18), none⟩,
    ⟨some 20, .fa 2 (.t 2), (some (19, false))⟩,
    ⟨some 21, .ld .cp none (.t 20), (some (19, false))⟩,
    ⟨some 22, .fa 2 (.t 3), (some (19, false))⟩,
    ⟨some 23, .ld .cp none (.t 22), (some (19, false))⟩,
    ⟨some 24, .eq true 0 [] (.t 21) (.t 23), (some (19, false))⟩,
    ⟨some 25, .pick (.t 19) (.k (.c (.b (.d (.bool true))))) (.t 24), none⟩,
    ⟨some 26, .mov .cp (.t 25), none⟩,
    ⟨some 27, .fa 3 (.t 2), (some (26, false))⟩,
    ⟨some 28, .ld .cp none (.t 27), (some (26, false))⟩,
    ⟨some 29, .fa 3 (.t 3), (some (26, false))⟩,
    ⟨some 30, .ld .cp none (.t 29), (some (26, false))⟩,
    ⟨some 31, .callb 58 [(.t 28), (.t 30)], (some (26, false))⟩,
    ⟨some 32, .un .not (.t 31), (some (26, false))⟩,
    ⟨some 33, .pick (.t 26) (.k (.c (.b (.d (.bool true))))) (.t 32), none⟩,
    ⟨some 34, .mov .cp (.t 33), none⟩,
    ⟨some 35, .fa 4 (.t 2), (some (34, false))⟩,
    ⟨some 36, .ld .cp (some 2) (.t 35), (some (34, false))⟩,
    ⟨some 37, .fa 4 (.t 3), (some (34, false))⟩,
    ⟨some 38, .ld .cp (some 2) (.t 37), (some (34, false))⟩,
    ⟨some 39, .eq true 2 [1, 2] (.t 36) (.t 38), (some (34, false))⟩,
    ⟨some 40, .pick (.t 34) (.k (.c (.b (.d (.bool true))))) (.t 39), none⟩,
    ⟨some 41, .mov .cp (.t 40), none⟩,
    ⟨some 42, .fa 6 (.t 2), (some (41, false))⟩,
    ⟨some 43, .ld .cp none (.t 42), (some (41, false))⟩,
    ⟨some 44, .fa 6 (.t 3), (some (41, false))⟩,
    ⟨some 45, .ld .cp none (.t 44), (some (41, false))⟩,
    ⟨some 46, .bin .neq (.t 43) (.t 45), (some (41, false))⟩,
    ⟨some 47, .pick (.t 41) (.k (.c (.b (.d (.bool true))))) (.t 46), none⟩,
    ⟨some 48, .mov .cp (.t 47), none⟩,
    ⟨some 49, .fa 7 (.t 2), (some (48, false))⟩,
    ⟨some 50, .ld .cp none (.t 49), (some (48, false))⟩,
    ⟨some 51, .len 0 (.t 50), (some (48, false))⟩,
    ⟨some 52, .fa 7 (.t 3), (some (48, false))⟩,
    ⟨some 53, .ld .cp none (.t 52), (some (48, false))⟩,
    ⟨some 54, .len 0 (.t 53), (some (48, false))⟩,
    ⟨some 55, .bin .neq (.t 51) (.t 54), (some (48, false))⟩,
    ⟨some 56, .pick (.t 48) (.k (.c (.b (.d (.bool true))))) (.t 55), none⟩,
    ⟨some 57, .mov .cp (.t 56), none⟩,
    ⟨some 58, .fa 8 (.t 2), (some (57, false))⟩,
    ⟨some 59, .ld .cp none (.t 58), (some (57, false))⟩,
    ⟨some 60, .len 0 (.t 59), (some (57, false))⟩,
    ⟨some 61, .fa 8 (.t 3), (some (57, false))⟩,
    ⟨some 62, .ld .cp none (.t 61), (some (57, false))⟩,
    ⟨some 63, .len 0 (.t 62), (some (57, false))⟩,
    ⟨some 64, .bin .neq (.t 60) (.t 63), (some (57, false))⟩,
    ⟨some 65, .pick (.t 57) (.k (.c (.b (.d (.bool true))))) (.t 64), none⟩] [2, 3, 65])
  (.cond (.t 65)
    (.seq (.region false [
      ⟨some 4, .mov .own (.k (.c (.b (.d (.bool false))))), none⟩] [4])
    .ret)
    .skip))
  (.seq (.seq (.region false [
    ⟨some 5, .mov .cp (.k (.c (.b (.d (.int .i64 0))))), none⟩] [2, 3, 5])
  (.block 0 f42_l0))
  (.seq (.seq (.region false [
    ⟨some 6, .mov .cp (.k (.c (.b (.d (.int .i64 0))))), none⟩] [2, 3, 6])
  (.block 2 f42_l1))
  (.seq (.region false [
    ⟨some 4, .mov .own (.k (.c (.b (.d (.bool true))))), none⟩] [4])
  .ret))))), [(.tmp 4)], .pure, false⟩
def f25_b0 : ACode := (.wrap true [2, 3, 5] [4] [(0, [2, 3])]
  (.seq (.seq (.region false [
    ⟨some 52, .mov .cp (.t 5), none⟩,
    ⟨some 53, .fa 4 (.t 2), none⟩,
    ⟨some 54, .ld .cp none (.t 53), none⟩,
    ⟨some 55, .len 0 (.t 54), none⟩,
    ⟨some 56, .bin .lss (.t 52) (.t 55), none⟩] [2, 3, 5, 56])
  (.cond (.t 56)
    .skip
    (.exit 0)))
  (.seq (.block 1 (.seq (.region true [
    ⟨some 59, .fa 4 (.t 2), none⟩,
    ⟨some 60, .ld .cp none (.t 59), none⟩,
    ⟨some 61, .mov .cp (.t 5), none⟩,
    ⟨some 62, .ia 4 (.t 60) (.t 61), none⟩,
    ⟨some 63, .ld .cp (some 4) (.t 62), none⟩,
    ⟨some 64, .fa 4 (.t 3), none⟩,
    ⟨some 65, .ld .cp none (.t 64), none⟩,
    ⟨some 66, .mov .cp (.t 5), none⟩,
    ⟨some 67, .ia 4 (.t 65) (.t 66), none⟩,
    ⟨some 68, .ld .cp (some 4) (.t 67), none⟩,
    ⟨some 69, .eq true 2 [2, 1, 2, 0] (.t 63) (.t 68), none⟩] [2, 3, 5, 69])
  (.cond (.t 69)
    (.seq (.region false [
      ⟨some 4, .mov .own (.k (.c (.b (.d (.bool false))))), none⟩] [4])
    .ret)
    .skip)))
  (.region false [
    ⟨some 57, .mov .cp (.t 5), none⟩,
    ⟨some 58, .bin .add (.t 57) (.k (.c (.b (.d (.int .i64 1))))), none⟩,
    ⟨some 5, .mov .cp (.t 58), none⟩] [2, 3, 5]))))
def f25_l0 : ACode := .loop f25_b0
theorem u25_l0 {bd : Bd} {s : St} {β : Type} {k : AExit → St → Option β} {fns : Nat → Option AFun} : K fns bd f25_l0 s k = K fns bd f25_b0 s (fun e s' => match e with | .normal => K fns bd f25_l0 s' k | e => k e s') := K_loop
def f25_b1 : ACode := (.wrap true [2, 3, 6] [4] [(2, [])]
  (.seq (.seq (.region false [
    ⟨some 70, .mov .cp (.t 6), none⟩,
    ⟨some 71, .fa 5 (.t 2), none⟩,
    ⟨some 72, .ld .cp none (.t 71), none⟩,
    ⟨some 73, .len 0 (.t 72), none⟩,
    ⟨some 74, .bin .lss (.t 70) (.t 73), none⟩] [2, 3, 6, 74])
  (.cond (.t 74)
    .skip
    (.exit 2)))
  (.seq (.block 3 (.seq (.region true [
    ⟨some 77, .fa 5 (.t 2), none⟩,
    ⟨some 78, .ld .cp none (.t 77), none⟩,
    ⟨some 79, .mov .cp (.t 6), none⟩,
    ⟨some 80, .ia 9 (.t 78) (.t 79), none⟩,
    ⟨some 81, .ld .cp (some 9) (.t 80), none⟩,
    ⟨some 82, .fa 5 (.t 3), none⟩,
    ⟨some 83, .ld .cp none (.t 82), none⟩,
    ⟨some 84, .mov .cp (.t 6), none⟩,
    ⟨some 85, .ia 9 (.t 83) (.t 84), none⟩,
    ⟨some 86, .ld .cp (some 9) (.t 85), none⟩,
    ⟨some 87, .callb 42 [(.t 81), (.t 86)], none⟩,
    ⟨some 88, .un .not (.t 87), none⟩] [2, 3, 6, 88])
  (.cond (.t 88)
    (.seq (.region false [
      ⟨some 4, .mov .own (.k (.c (.b (.d (.bool false))))), none⟩] [4])
    .ret)
    .skip)))
  (.region false [
    ⟨some 75, .mov .cp (.t 6), none⟩,
    ⟨some 76, .bin .add (.t 75) (.k (.c (.b (.d (.int .i64 1))))), none⟩,
    ⟨some 6, .mov .cp (.t 76), none⟩] [2, 3, 6]))))
def f25_l1 : ACode := .loop f25_b1
theorem u25_l1 {bd : Bd} {s : St} {β : Type} {k : AExit → St → Option β} {fns : Nat → Option AFun} : K fns bd f25_l1 s k = K fns bd f25_b1 s (fun e s' => match e with | .normal => K fns bd f25_l1 s' k | e => k e s') := K_loop
/-- delver/delverkeep.Class -/
def f25 : AFun := ⟨2,
  (.seq (.region false [
    ⟨some 2, .box (.t 0), none⟩,
    ⟨some 3, .box (.t 1), none⟩,
    ⟨some 4, .mov .own (.k (.c (.b (.d (.bool false))))), none⟩] [2, 3])
  (.seq (.seq (.region false [
    ⟨some 7, .fa 0 (.t 2), none⟩,
    ⟨some 8, .ld .cp none (.t 7), none⟩,
    ⟨some 9, .fa 0 (.t 3), none⟩,
    ⟨some 10, .ld .cp none (.t 9), none⟩,
    ⟨some 11, .bin .neq (.t 8) (.t 10), none⟩,
    ⟨some 12, .mov .cp (.t 11), none⟩,
    ⟨some 13, .fa 1 (.t 2), (some (12, false))⟩,
    ⟨some 14, .ld .cp none (.t 13), (some (12, false))⟩,
    ⟨some 15, .fa 1 (.t 3), (some (12, false))⟩,
    ⟨some 16, .ld .cp none (.t 15), (some (12, false))⟩,
    ⟨some 17, .eq true 0 [] (.t 14) (.t 16), (some (12, false))⟩,
    ⟨some 18, .pick (.t 12) (.k (.c (.b (.d (.bool true))))) (.t 17), none⟩,
    ⟨some 19, .mov .cp (.t 18), none⟩,
    ⟨some 20, .fa 2 (.t 2), (some (19, false))⟩,
    ⟨some 21, .ld .cp none (.t 20), (some (19, false))⟩,
    ⟨some 22, .fa 2 (.t 3), (some (19, false))⟩,
    ⟨some 23, .ld .cp none (.t 22), (some (19, false))⟩,
    ⟨some 24, .bin .neq (.t 21) (.t 23), (some (19, false))⟩,
    ⟨some 25, .pick (.t 19) (.k (.c (.b (.d (.bool true))))) (.t 24), none⟩,
    ⟨some 26, .mov .cp (.t 25), none⟩,
    ⟨some 27, .fa 3 (.t 2), (some (26, false))⟩,
    ⟨some 28, .ld .cp none (.t 27), (some (26, false))⟩,
    ⟨some 29, .fa 3 (.t 3), (some (26, false))⟩,
    ⟨some 30, .ld .cp none (.t 29), (some (26, false))⟩,
    ⟨some 31, .callb 14 [(.t 28), (.t 30)], (some (26, false))⟩,
    ⟨some 32, .un .not (.t 31), (some (26, false))⟩,
    ⟨some 33, .pick (.t 26) (.k (.c (.b (.d (.bool true))))) (.t 32), none⟩,
    ⟨some 34, .mov .cp (.t 33), none⟩,
    ⟨some 35, .fa 4 (.t 2), (some (34, false))⟩,
    ⟨some 36, .ld .cp none (.t 35), (some (34, false))⟩,
    ⟨some 37, .len 0 (.t 36), (some (34, false))⟩,
    ⟨some 38, .fa 4 (.t 3), (some (34, false))⟩,
    ⟨some 39, .ld .cp none (.t 38), (some (34, false))⟩,
    ⟨some 40, .len 0 (.t 39), (some (34, false))⟩,
    ⟨some 41, .bin .neq (.t 37) (.t 40), (some (34, false))⟩,
    ⟨some 42, .pick (.t 34) (.k (.c (.b (.d (.bool true))))) (.t 41), none⟩,
    ⟨some 43, .mov .cp (.t 42), none⟩,
    ⟨some 44, .fa 5 (.t 2), (some (43, false))⟩,
    ⟨some 45, .ld .cp none (.t 44), (some (43, false))⟩,
    ⟨some 46, .len 0 (.t 45), (some (43, false))⟩,
    ⟨some 47, .fa 5 (.t 3), (some (43, false))⟩,
    ⟨some 48, .ld .cp none (.t 47), (some (43, false))⟩,
    ⟨some 49, .len 0 (.t 48), (some (43, false))⟩,
    ⟨some 50, .bin .neq (.t 46) (.t 49), (some (43, false))⟩,
    ⟨some 51, .pick (.t 43) (.k (.c (.b (.d (.bool true))))) (.t 50), none⟩] [2, 3, 51])
  (.cond (.t 51)
    (.seq (.region false [
      ⟨some 4, .mov .own (.k (.c (.b (.d (.bool false))))), none⟩] [4])
    .ret)
    .skip))
  (.seq (.seq (.region false [
    ⟨some 5, .mov .cp (.k (.c (.b (.d (.int .i64 0))))), none⟩] [2, 3, 5])
  (.block 0 f25_l0))
  (.seq (.seq (.region false [
    ⟨some 6, .mov .cp (.k (.c (.b (.d (.int .i64 0))))), none⟩] [2, 3, 6])
  (.block 2 f25_l1))
  (.seq (.region false [
    ⟨some 4, .mov .own (.k (.c (.b (.d (.bool true))))), none⟩] [4])
  .ret))))), [(.tmp 4)], .pure, false⟩
def f21_b0 : ACode := (.wrap true [0, 1, 5] [4] [(0, [])]
  (.seq (.seq (.region false [
    ⟨some 11, .mov .cp (.t 5), none⟩,
    ⟨some 12, .mov .cp (.t 0), none⟩,
    ⟨some 13, .len 0 (.t 12), none⟩,
    ⟨some 14, .bin .lss (.t 11) (.t 13), none⟩] [0, 1, 5, 14])
  (.cond (.t 14)
    .skip
    (.exit 0)))
  (.seq (.block 1 (.seq (.region true [
    ⟨some 17, .mov .cp (.t 0), none⟩,
    ⟨some 18, .mov .cp (.t 5), none⟩,
    ⟨some 19, .ia 6 (.t 17) (.t 18), none⟩,
    ⟨some 20, .ld .cp (some 6) (.t 19), none⟩,
    ⟨some 21, .mov .cp (.t 1), none⟩,
    ⟨some 22, .mov .cp (.t 5), none⟩,
    ⟨some 23, .ia 6 (.t 21) (.t 22), none⟩,
    ⟨some 24, .ld .cp (some 6) (.t 23), none⟩,
    ⟨some 25, .callb 25 [(.t 20), (.t 24)], none⟩,
    ⟨some 26, .un .not (.t 25), none⟩] [0, 1, 5, 26])
  (.cond (.t 26)
    (.seq (.region false [
      ⟨some 4, .mov .own (.k (.c (.b (.d (.bool false))))), none⟩] [4])
    .ret)
    .skip)))
  (.region false [
    ⟨some 15, .mov .cp (.t 5), none⟩,
    ⟨some 16, .bin .add (.t 15) (.k (.c (.b (.d (.int .i64 1))))), none⟩,
    ⟨some 5, .mov .cp (.t 16), none⟩] [0, 1, 5]))))
def f21_l0 : ACode := .loop f21_b0
theorem u21_l0 {bd : Bd} {s : St} {β : Type} {k : AExit → St → Option β} {fns : Nat → Option AFun} : K fns bd f21_l0 s k = K fns bd f21_b0 s (fun e s' => match e with | .normal => K fns bd f21_l0 s' k | e => k e s') := K_loop
/-- delver/delverkeep.Classes -/
def f21 : AFun := ⟨2,
  (.seq (.region false [
    ⟨some 4, .mov .own (.k (.c (.b (.d (.bool false))))), none⟩] [0, 1])
  (.seq (.seq (.region false [
    ⟨some 6, .mov .cp (.t 0), none⟩,
    ⟨some 7, .len 0 (.t 6), none⟩,
    ⟨some 8, .mov .cp (.t 1), none⟩,
    ⟨some 9, .len 0 (.t 8), none⟩,
    ⟨some 10, .bin .neq (.t 7) (.t 9), none⟩] [0, 1, 10])
  (.cond (.t 10)
    (.seq (.region false [
      ⟨some 4, .mov .own (.k (.c (.b (.d (.bool false))))), none⟩] [4])
    .ret)
    .skip))
  (.seq (.seq (.region false [
    ⟨some 5, .mov .cp (.k (.c (.b (.d (.int .i64 0))))), none⟩] [0, 1, 5])
  (.block 0 f21_l0))
  (.seq (.region false [
    ⟨some 4, .mov .own (.k (.c (.b (.d (.bool true))))), none⟩] [4])
  .ret)))), [(.tmp 4)], .pure, false⟩
/-- delver/delverkeep.Program -/
def f24 : AFun := ⟨2,
  (.seq (.region false [
    ⟨some 2, .box (.t 0), none⟩,
    ⟨some 3, .box (.t 1), none⟩,
    ⟨some 4, .mov .own (.k (.c (.b (.d (.bool false))))), none⟩] [2, 3])
  (.seq (.region false [
    ⟨some 5, .fa 0 (.t 2), none⟩,
    ⟨some 6, .ld .cp none (.t 5), none⟩,
    ⟨some 7, .fa 0 (.t 3), none⟩,
    ⟨some 8, .ld .cp none (.t 7), none⟩,
    ⟨some 9, .callb 21 [(.t 6), (.t 8)], none⟩,
    ⟨some 4, .mov .own (.t 9), none⟩] [4])
  .ret)), [(.tmp 4)], .pure, false⟩
/-- delver/delverref04.Under -/
def f28 : AFun := ⟨3,
  (.seq (.region false [
    ⟨some 3, .box (.t 0), none⟩,
    ⟨some 6, .mov .own (.k (.c (.b (.d (.bool false))))), none⟩] [1, 2, 3])
  (.seq (.region false [
    ⟨some 8, .ld .cp (some 1) (.t 3), none⟩,
    ⟨some 9, .callb 23 [(.t 8)], none⟩,
    ⟨some 7, .mov .cp (.t 9), none⟩] [1, 2, 7])
  (.seq (.seq (.region false [
    ⟨some 10, .mov .cp (.t 7), none⟩,
    ⟨some 11, .mov .cp (.t 1), none⟩,
    ⟨some 12, .callb 16 [(.t 10), (.t 11)], none⟩,
    ⟨some 13, .bin .lss (.t 12) (.k (.c (.b (.d (.int .i64 0))))), none⟩,
    ⟨some 14, .mov .cp (.t 13), none⟩,
    ⟨some 15, .mov .cp (.t 7), (some (14, false))⟩,
    ⟨some 16, .mov .cp (.t 2), (some (14, false))⟩,
    ⟨some 17, .callb 16 [(.t 15), (.t 16)], (some (14, false))⟩,
    ⟨some 18, .bin .lss (.t 17) (.k (.c (.b (.d (.int .i64 0))))), (some (14, false))⟩,
    ⟨some 19, .pick (.t 14) (.k (.c (.b (.d (.bool true))))) (.t 18), none⟩] [1, 2, 7, 19])
  (.cond (.t 19)
    (.seq (.region false [
      ⟨some 6, .mov .own (.k (.c (.b (.d (.bool false))))), none⟩] [6])
    .ret)
    .skip))
  (.seq (.region false [
    ⟨some 20, .mov .cp (.t 2), none⟩,
    ⟨some 21, .bin .eql (.t 20) (.k (.c (.b (.d (.str ⟨#[79, 98, 106, 101, 99, 116]⟩))))), none⟩,
    ⟨some 22, .mov .cp (.t 21), none⟩,
    ⟨some 23, .mov .cp (.t 7), (some (22, false))⟩,
    ⟨some 24, .mov .cp (.t 1), (some (22, false))⟩,
    ⟨some 25, .callb 32 [(.t 23), (.t 24)], (some (22, false))⟩,
    ⟨some 26, .mov .cp (.t 2), (some (22, false))⟩,
    ⟨some 27, .callb 31 [(.t 25), (.t 26)], (some (22, false))⟩,
    ⟨some 28, .pick (.t 22) (.k (.c (.b (.d (.bool true))))) (.t 27), none⟩,
    ⟨some 6, .mov .own (.t 28), none⟩] [6])
  .ret)))), [(.tmp 6)], .pure, false⟩
def f26_b0 : ACode := (.wrap true [1, 2, 5, 6] [4] [(0, [5])]
  (.seq (.seq (.region false [
    ⟨some 8, .mov .cp (.t 6), none⟩,
    ⟨some 9, .fa 0 (.t 2), none⟩,
    ⟨some 10, .ld .cp none (.t 9), none⟩,
    ⟨some 11, .len 0 (.t 10), none⟩,
    ⟨some 12, .bin .lss (.t 8) (.t 11), none⟩] [1, 2, 5, 6, 12])
  (.cond (.t 12)
    .skip
    (.exit 0)))
  (.seq (.block 1 (.seq (.region false [
    ⟨some 15, .fa 0 (.t 2), none⟩,
    ⟨some 16, .ld .cp none (.t 15), none⟩,
    ⟨some 17, .mov .cp (.t 6), none⟩,
    ⟨some 18, .ia 6 (.t 16) (.t 17), none⟩,
    ⟨some 19, .ld .cp (some 6) (.t 18), none⟩,
    ⟨some 7, .alloc [(.b (.d (.str ⟨#[]⟩))), (.b (.d (.bool false))), (.b (.d (.str ⟨#[]⟩))), (.osl 1 []), (.osl 4 []), (.osl 9 [])], none⟩,
    ⟨none, .st 6 (.t 7) (.t 19), none⟩] [1, 2, 5, 6, 7])
  (.seq (.region false [
    ⟨some 20, .fa 1 (.t 7), none⟩,
    ⟨some 21, .ld .cp none (.t 20), none⟩,
    ⟨some 22, .un .not (.t 21), none⟩,
    ⟨some 23, .mov .cp (.t 22), none⟩,
    ⟨some 24, .ld .cp (some 1) (.t 2), (some (23, true))⟩,
    ⟨some 25, .fa 0 (.t 7), (some (23, true))⟩,
    ⟨some 26, .ld .cp none (.t 25), (some (23, true))⟩,
    ⟨some 27, .mov .cp (.t 1), (some (23, true))⟩,
    ⟨some 28, .callb 28 [(.t 24), (.t 26), (.t 27)], (some (23, true))⟩,
    ⟨some 29, .pick (.t 23) (.t 28) (.k (.c (.b (.d (.bool false))))), none⟩] [1, 2, 5, 6, 7, 29])
  (.cond (.t 29)
    (.region false [
      ⟨some 30, .mov .own (.t 5), none⟩,
      ⟨some 31, .fa 0 (.t 7), none⟩,
      ⟨some 32, .ld .cp none (.t 31), none⟩,
      ⟨some 33, .bsl .own 1 1 [(.b (.d (.str ⟨#[]⟩)))] [(0, (.t 32))], none⟩,
      ⟨some 34, .app 1 16 (.t 30) (.t 33), none⟩,
      ⟨some 5, .mov .own (.t 34), none⟩] [1, 2, 5, 6])
    .skip))))
  (.region false [
    ⟨some 13, .mov .cp (.t 6), none⟩,
    ⟨some 14, .bin .add (.t 13) (.k (.c (.b (.d (.int .i64 1))))), none⟩,
    ⟨some 6, .mov .cp (.t 14), none⟩] [1, 2, 5, 6]))))
def f26_l0 : ACode := .loop f26_b0
theorem u26_l0 {bd : Bd} {s : St} {β : Type} {k : AExit → St → Option β} {fns : Nat → Option AFun} : K fns bd f26_l0 s k = K fns bd f26_b0 s (fun e s' => match e with | .normal => K fns bd f26_l0 s' k | e => k e s') := K_loop
/-- delver/delverref04.Kinds -/
def f26 : AFun := ⟨2,
  (.seq (.region false [
    ⟨some 2, .box (.t 0), none⟩,
    ⟨some 4, .mov .own (.k (.c (.osl 1 []))), none⟩] [1, 2])
  (.seq (.region false [
    ⟨some 5, .mov .own (.k (.c (.osl 1 []))), none⟩] [1, 2, 5])
  (.seq (.seq (.region false [
    ⟨some 6, .mov .cp (.k (.c (.b (.d (.int .i64 0))))), none⟩] [1, 2, 5, 6])
  (.block 0 f26_l0))
  (.seq (.region false [
    ⟨some 35, .mov .own (.t 5), none⟩,
    ⟨some 4, .mov .own (.t 35), none⟩] [4])
  .ret)))), [(.tmp 4)], .pure, false⟩
/-- delver/delverlaw04.HierExact -/
def f6 : AFun := ⟨3,
  (.seq (.region false [
    ⟨some 3, .box (.t 0), none⟩,
    ⟨some 6, .mov .own (.k (.c (.b (.d (.bool false))))), none⟩] [1, 2, 3])
  (.seq (.seq (.region false [
    ⟨some 18, .ld .cp (some 1) (.t 3), none⟩,
    ⟨some 19, .callb 9 [(.t 18)], none⟩,
    ⟨some 20, .mov .cp (.t 19), none⟩,
    ⟨some 21, .mov .cp (.t 1), (some (20, false))⟩,
    ⟨some 22, .len 1 (.t 21), (some (20, false))⟩,
    ⟨some 23, .bin .gtr (.t 22) (.k (.c (.b (.d (.int .i64 60))))), (some (20, false))⟩,
    ⟨some 24, .pick (.t 20) (.k (.c (.b (.d (.bool true))))) (.t 23), none⟩,
    ⟨some 25, .mov .cp (.t 24), none⟩,
    ⟨some 26, .mov .cp (.t 2), (some (25, false))⟩,
    ⟨some 27, .len 1 (.t 26), (some (25, false))⟩,
    ⟨some 28, .bin .gtr (.t 27) (.k (.c (.b (.d (.int .i64 60))))), (some (25, false))⟩,
    ⟨some 29, .pick (.t 25) (.k (.c (.b (.d (.bool true))))) (.t 28), none⟩] [1, 2, 3, 29])
  (.cond (.t 29)
    (.seq (.region false [
      ⟨some 6, .mov .own (.k (.c (.b (.d (.bool true))))), none⟩] [6])
    .ret)
    .skip))
  (.seq (.region false [
    ⟨some 30, .ld .cp (some 1) (.t 3), none⟩,
    ⟨some 31, .callb 17 [(.t 30)], none⟩,
    ⟨some 7, .alloc [(.osl 6 [])], none⟩,
    ⟨none, .st 1 (.t 7) (.t 31), none⟩] [1, 2, 3, 7])
  (.seq (.region false [
    ⟨some 32, .ld .cp (some 1) (.t 3), none⟩,
    ⟨some 33, .callb 10 [(.t 32)], none⟩,
    ⟨some 8, .mov .cp (.t 33), none⟩] [1, 2, 3, 7, 8])
  (.seq (.region false [
    ⟨some 35, .ld .cp (some 1) (.t 7), none⟩,
    ⟨some 36, .mov .cp (.t 1), none⟩,
    ⟨some 37, .callb 19 [(.t 35), (.t 36)], none⟩,
    ⟨some 34, .mov .own (.t 37), none⟩,
    ⟨some 38, .ext 0 (.t 34), none⟩,
    ⟨some 39, .ext 1 (.t 34), none⟩,
    ⟨some 9, .alloc [(.b (.d (.str ⟨#[]⟩))), (.b (.d (.bool false))), (.b (.d (.str ⟨#[]⟩))), (.osl 1 []), (.osl 4 []), (.osl 9 [])], none⟩,
    ⟨none, .st 6 (.t 9) (.t 38), none⟩,
    ⟨some 10, .mov .cp (.t 39), none⟩] [1, 2, 3, 7, 8, 9, 10])
  (.seq (.region false [
    ⟨some 41, .ld .cp (some 1) (.t 7), none⟩,
    ⟨some 42, .mov .cp (.t 1), none⟩,
    ⟨some 43, .callb 20 [(.t 41), (.t 42)], none⟩,
    ⟨some 40, .mov .own (.t 43), none⟩,
    ⟨some 44, .ext 0 (.t 40), none⟩,
    ⟨some 45, .ext 1 (.t 40), none⟩,
    ⟨some 11, .mov .cp (.t 44), none⟩,
    ⟨some 12, .mov .cp (.t 45), none⟩] [1, 2, 3, 7, 8, 9, 10, 11, 12])
  (.seq (.region true [
    ⟨some 46, .ld .cp (some 1) (.t 7), none⟩,
    ⟨some 47, .mov .cp (.t 1), none⟩,
    ⟨some 48, .mov .cp (.t 2), none⟩,
    ⟨some 49, .callb 12 [(.t 46), (.t 47), (.t 48)], none⟩,
    ⟨some 50, .ld .cp (some 1) (.t 7), none⟩,
    ⟨some 51, .mov .cp (.t 1), none⟩,
    ⟨some 52, .callb 15 [(.t 50), (.t 51)], none⟩,
    ⟨some 13, .mov .cp (.t 49), none⟩,
    ⟨some 14, .mov .cp (.t 52), none⟩] [1, 2, 3, 7, 8, 9, 10, 11, 12, 13, 14])
  (.seq (.seq (.region true [
    ⟨some 53, .ld .cp (some 1) (.t 7), none⟩,
    ⟨some 54, .callb 18 [(.t 53)], none⟩,
    ⟨some 55, .mov .cp (.t 8), none⟩,
    ⟨some 56, .bin .neq (.t 54) (.t 55), none⟩,
    ⟨some 57, .mov .cp (.t 56), none⟩,
    ⟨some 58, .ld .cp (some 1) (.t 7), (some (57, false))⟩,
    ⟨some 59, .callb 22 [(.t 58)], (some (57, false))⟩,
    ⟨some 60, .ld .cp (some 1) (.t 3), (some (57, false))⟩,
    ⟨some 61, .callb 23 [(.t 60)], (some (57, false))⟩,
    ⟨some 62, .callb 21 [(.t 59), (.t 61)], (some (57, false))⟩,
    ⟨some 63, .un .not (.t 62), (some (57, false))⟩,
    ⟨some 64, .pick (.t 57) (.k (.c (.b (.d (.bool true))))) (.t 63), none⟩,
    ⟨some 65, .mov .cp (.t 64), none⟩,
    ⟨some 66, .ld .cp (some 1) (.t 7), (some (65, false))⟩,
    ⟨some 67, .ld .cp (some 1) (.t 3), (some (65, false))⟩,
    ⟨some 68, .callb 24 [(.t 66), (.t 67)], (some (65, false))⟩,
    ⟨some 69, .un .not (.t 68), (some (65, false))⟩,
    ⟨some 70, .pick (.t 65) (.k (.c (.b (.d (.bool true))))) (.t 69), none⟩] [1, 2, 3, 8, 9, 10, 11, 12, 13, 14, 70])
  (.cond (.t 70)
    (.seq (.region false [
      ⟨some 6, .mov .own (.k (.c (.b (.d (.bool false))))), none⟩] [6])
    .ret)
    .skip))
  (.seq (.region false [
    ⟨some 71, .ld .cp (some 1) (.t 3), none⟩,
    ⟨some 72, .callb 23 [(.t 71)], none⟩,
    ⟨some 15, .mov .cp (.t 72), none⟩] [1, 2, 3, 8, 9, 10, 11, 12, 13, 14, 15])
  (.seq (.region false [
    ⟨some 73, .mov .cp (.t 15), none⟩,
    ⟨some 74, .mov .cp (.t 1), none⟩,
    ⟨some 75, .callb 16 [(.t 73), (.t 74)], none⟩,
    ⟨some 16, .mov .cp (.t 75), none⟩] [1, 2, 3, 8, 9, 10, 11, 12, 13, 14, 15, 16])
  (.seq (.seq (.region false [
    ⟨some 76, .mov .cp (.t 8), none⟩,
    ⟨some 77, .bin .neq (.t 76) (.k (.c (.b (.d (.int .i64 0))))), none⟩,
    ⟨some 78, .mov .cp (.t 77), none⟩,
    ⟨some 79, .mov .cp (.t 16), (some (78, false))⟩,
    ⟨some 80, .bin .lss (.t 79) (.k (.c (.b (.d (.int .i64 0))))), (some (78, false))⟩,
    ⟨some 81, .pick (.t 78) (.k (.c (.b (.d (.bool true))))) (.t 80), none⟩] [1, 2, 3, 8, 9, 10, 11, 12, 13, 14, 15, 16, 81])
  (.cond (.t 81)
    (.seq (.region false [
      ⟨some 82, .mov .cp (.t 10), none⟩,
      ⟨some 83, .un .not (.t 82), none⟩,
      ⟨some 84, .mov .cp (.t 83), none⟩,
      ⟨some 85, .mov .cp (.t 12), (some (84, true))⟩,
      ⟨some 86, .un .not (.t 85), (some (84, true))⟩,
      ⟨some 87, .pick (.t 84) (.t 86) (.k (.c (.b (.d (.bool false))))), none⟩,
      ⟨some 88, .mov .cp (.t 87), none⟩,
      ⟨some 89, .mov .cp (.t 13), (some (88, true))⟩,
      ⟨some 90, .un .not (.t 89), (some (88, true))⟩,
      ⟨some 91, .pick (.t 88) (.t 90) (.k (.c (.b (.d (.bool false))))), none⟩,
      ⟨some 92, .mov .cp (.t 91), none⟩,
      ⟨some 93, .mov .cp (.t 11), (some (92, true))⟩,
      ⟨some 94, .bin .eql (.t 93) (.k (.c (.b (.d (.str ⟨#[]⟩))))), (some (92, true))⟩,
      ⟨some 95, .pick (.t 92) (.t 94) (.k (.c (.b (.d (.bool false))))), none⟩,
      ⟨some 96, .mov .cp (.t 95), none⟩,
      ⟨some 97, .ld .cp (some 6) (.t 9), (some (96, true))⟩,
      ⟨some 98, .build [(.b (.d (.str ⟨#[]⟩))), (.b (.d (.bool false))), (.b (.d (.str ⟨#[]⟩))), (.osl 1 []), (.osl 4 []), (.osl 9 [])] [], (some (96, true))⟩,
      ⟨some 99, .callb 25 [(.t 97), (.t 98)], (some (96, true))⟩,
      ⟨some 100, .pick (.t 96) (.t 99) (.k (.c (.b (.d (.bool false))))), none⟩,
      ⟨some 101, .mov .cp (.t 100), none⟩,
      ⟨some 102, .mov .cp (.t 8), (some (101, true))⟩,
      ⟨some 103, .bin .eql (.t 102) (.k (.c (.b (.d (.int .i64 0))))), (some (101, true))⟩,
      ⟨some 104, .mov .cp (.t 103), (some (101, true))⟩,
      ⟨some 105, .mov .cp (.t 14), (some (104, false))⟩,
      ⟨some 106, .len 0 (.t 105), (some (104, false))⟩,
      ⟨some 107, .bin .eql (.t 106) (.k (.c (.b (.d (.int .i64 0))))), (some (104, false))⟩,
      ⟨some 108, .pick (.t 104) (.k (.c (.b (.d (.bool true))))) (.t 107), (some (101, true))⟩,
      ⟨some 109, .pick (.t 101) (.t 108) (.k (.c (.b (.d (.bool false))))), none⟩,
      ⟨some 110, .mov .cp (.t 109), none⟩,
      ⟨some 111, .mov .cp (.t 8), (some (110, true))⟩,
      ⟨some 112, .bin .neq (.t 111) (.k (.c (.b (.d (.int .i64 0))))), (some (110, true))⟩,
      ⟨some 113, .mov .cp (.t 112), (some (110, true))⟩,
      ⟨some 114, .mov .cp (.t 14), (some (113, false))⟩,
      ⟨some 115, .ld .cp (some 1) (.t 3), (some (113, false))⟩,
      ⟨some 116, .mov .cp (.t 1), (some (113, false))⟩,
      ⟨some 117, .callb 26 [(.t 115), (.t 116)], (some (113, false))⟩,
      ⟨some 118, .callb 14 [(.t 114), (.t 117)], (some (113, false))⟩,
      ⟨some 119, .pick (.t 113) (.k (.c (.b (.d (.bool true))))) (.t 118), (some (110, true))⟩,
      ⟨some 120, .pick (.t 110) (.t 119) (.k (.c (.b (.d (.bool false))))), none⟩,
      ⟨some 121, .mov .cp (.t 120), none⟩,
      ⟨some 122, .callb 13 [], (some (121, true))⟩,
      ⟨some 123, .pick (.t 121) (.t 122) (.k (.c (.b (.d (.bool false))))), none⟩,
      ⟨some 6, .mov .own (.t 123), none⟩] [6])
    .ret)
    .skip))
  (.seq (.region false [
    ⟨some 124, .mov .cp (.t 15), none⟩,
    ⟨some 125, .mov .cp (.t 16), none⟩,
    ⟨some 126, .ia 6 (.t 124) (.t 125), none⟩,
    ⟨some 127, .ld .cp (some 6) (.t 126), none⟩,
    ⟨some 128, .callb 27 [(.t 127)], none⟩,
    ⟨some 17, .mov .cp (.t 128), none⟩] [1, 2, 3, 9, 10, 11, 12, 13, 14, 15, 16, 17])
  (.seq (.region true [
    ⟨some 129, .mov .cp (.t 10), none⟩,
    ⟨some 130, .mov .cp (.t 129), none⟩,
    ⟨some 131, .ld .cp (some 6) (.t 9), (some (130, true))⟩,
    ⟨some 132, .mov .cp (.t 15), (some (130, true))⟩,
    ⟨some 133, .mov .cp (.t 16), (some (130, true))⟩,
    ⟨some 134, .ia 6 (.t 132) (.t 133), (some (130, true))⟩,
    ⟨some 135, .ld .cp (some 6) (.t 134), (some (130, true))⟩,
    ⟨some 136, .callb 25 [(.t 131), (.t 135)], (some (130, true))⟩,
    ⟨some 137, .pick (.t 130) (.t 136) (.k (.c (.b (.d (.bool false))))), none⟩,
    ⟨some 138, .mov .cp (.t 137), none⟩,
    ⟨some 139, .mov .cp (.t 12), (some (138, true))⟩,
    ⟨some 140, .mov .cp (.t 17), (some (138, true))⟩,
    ⟨some 141, .bin .neq (.t 140) (.k (.c (.b (.d (.str ⟨#[]⟩))))), (some (138, true))⟩,
    ⟨some 142, .eq false 0 [] (.t 139) (.t 141), (some (138, true))⟩,
    ⟨some 143, .pick (.t 138) (.t 142) (.k (.c (.b (.d (.bool false))))), none⟩,
    ⟨some 144, .mov .cp (.t 143), none⟩,
    ⟨some 145, .mov .cp (.t 11), (some (144, true))⟩,
    ⟨some 146, .mov .cp (.t 17), (some (144, true))⟩,
    ⟨some 147, .bin .eql (.t 145) (.t 146), (some (144, true))⟩,
    ⟨some 148, .pick (.t 144) (.t 147) (.k (.c (.b (.d (.bool false))))), none⟩,
    ⟨some 149, .mov .cp (.t 148), none⟩,
    ⟨some 150, .mov .cp (.t 13), (some (149, true))⟩,
    ⟨some 151, .ld .cp (some 1) (.t 3), (some (149, true))⟩,
    ⟨some 152, .mov .cp (.t 1), (some (149, true))⟩,
    ⟨some 153, .mov .cp (.t 2), (some (149, true))⟩,
    ⟨some 154, .callb 28 [(.t 151), (.t 152), (.t 153)], (some (149, true))⟩,
    ⟨some 155, .eq false 0 [] (.t 150) (.t 154), (some (149, true))⟩,
    ⟨some 156, .pick (.t 149) (.t 155) (.k (.c (.b (.d (.bool false))))), none⟩,
    ⟨some 157, .mov .cp (.t 156), none⟩,
    ⟨some 158, .mov .cp (.t 14), (some (157, true))⟩,
    ⟨some 159, .ld .cp (some 1) (.t 3), (some (157, true))⟩,
    ⟨some 160, .mov .cp (.t 1), (some (157, true))⟩,
    ⟨some 161, .callb 26 [(.t 159), (.t 160)], (some (157, true))⟩,
    ⟨some 162, .callb 14 [(.t 158), (.t 161)], (some (157, true))⟩,
    ⟨some 163, .pick (.t 157) (.t 162) (.k (.c (.b (.d (.bool false))))), none⟩,
    ⟨some 164, .mov .cp (.t 163), none⟩,
    ⟨some 165, .callb 13 [], (some (164, true))⟩,
    ⟨some 166, .pick (.t 164) (.t 165) (.k (.c (.b (.d (.bool false))))), none⟩,
    ⟨some 6, .mov .own (.t 166), none⟩] [6])
  .ret))))))))))))), [(.tmp 6)], .pure, false⟩
def f7_b0 : ACode := (.wrap true [2, 5, 6, 7, 9, 10] [4] [(0, [])]
  (.seq (.seq (.region false [
    ⟨some 44, .mov .cp (.t 10), none⟩,
    ⟨some 45, .mov .cp (.t 5), none⟩,
    ⟨some 46, .len 0 (.t 45), none⟩,
    ⟨some 47, .bin .lss (.t 44) (.t 46), none⟩] [2, 5, 6, 7, 9, 10, 47])
  (.cond (.t 47)
    .skip
    (.exit 0)))
  (.seq (.block 1 (.seq (.seq (.region false [
    ⟨some 50, .ld .cp (some 1) (.t 2), none⟩,
    ⟨some 51, .mov .cp (.t 6), none⟩,
    ⟨some 52, .mov .cp (.t 9), none⟩,
    ⟨some 53, .callb 12 [(.t 50), (.t 51), (.t 52)], none⟩,
    ⟨some 54, .un .not (.t 53), none⟩] [2, 5, 6, 7, 9, 10, 54])
  (.cond (.t 54)
    (.seq (.region false [
      ⟨some 4, .mov .own (.k (.c (.b (.d (.bool false))))), none⟩] [4])
    .ret)
    .skip))
  (.seq (.region false [
    ⟨some 56, .ld .cp (some 1) (.t 2), none⟩,
    ⟨some 57, .mov .cp (.t 9), none⟩,
    ⟨some 58, .callb 20 [(.t 56), (.t 57)], none⟩,
    ⟨some 55, .mov .own (.t 58), none⟩,
    ⟨some 59, .ext 0 (.t 55), none⟩,
    ⟨some 60, .ext 1 (.t 55), none⟩,
    ⟨some 11, .mov .cp (.t 59), none⟩,
    ⟨some 12, .mov .cp (.t 60), none⟩] [2, 5, 6, 7, 9, 10, 11, 12])
  (.seq (.seq (.region false [
    ⟨some 61, .mov .cp (.t 12), none⟩,
    ⟨some 62, .un .not (.t 61), none⟩] [2, 5, 6, 7, 9, 10, 11, 62])
  (.cond (.t 62)
    (.seq (.region false [
      ⟨some 63, .mov .cp (.t 9), none⟩,
      ⟨some 64, .bin .eql (.t 63) (.k (.c (.b (.d (.str ⟨#[79, 98, 106, 101, 99, 116]⟩))))), none⟩,
      ⟨some 65, .mov .cp (.t 64), none⟩,
      ⟨some 66, .fa 1 (.t 7), (some (65, false))⟩,
      ⟨some 67, .ld .cp none (.t 66), (some (65, false))⟩,
      ⟨some 68, .mov .cp (.t 67), (some (65, false))⟩,
      ⟨some 69, .mov .cp (.t 9), (some (68, true))⟩,
      ⟨some 70, .mov .cp (.t 6), (some (68, true))⟩,
      ⟨some 71, .bin .eql (.t 69) (.t 70), (some (68, true))⟩,
      ⟨some 72, .pick (.t 68) (.t 71) (.k (.c (.b (.d (.bool false))))), (some (65, false))⟩,
      ⟨some 73, .pick (.t 65) (.k (.c (.b (.d (.bool true))))) (.t 72), none⟩,
      ⟨some 74, .mov .cp (.t 73), none⟩,
      ⟨some 75, .callb 13 [], (some (74, true))⟩,
      ⟨some 76, .pick (.t 74) (.t 75) (.k (.c (.b (.d (.bool false))))), none⟩,
      ⟨some 4, .mov .own (.t 76), none⟩] [4])
    .ret)
    .skip))
  (.region false [
    ⟨some 77, .mov .cp (.t 11), none⟩,
    ⟨some 9, .mov .cp (.t 77), none⟩] [2, 5, 6, 7, 9, 10])))))
  (.region false [
    ⟨some 48, .mov .cp (.t 10), none⟩,
    ⟨some 49, .bin .add (.t 48) (.k (.c (.b (.d (.int .i64 1))))), none⟩,
    ⟨some 10, .mov .cp (.t 49), none⟩] [2, 5, 6, 7, 9, 10]))))
def f7_l0 : ACode := .loop f7_b0
theorem u7_l0 {bd : Bd} {s : St} {β : Type} {k : AExit → St → Option β} {fns : Nat → Option AFun} : K fns bd f7_l0 s k = K fns bd f7_b0 s (fun e s' => match e with | .normal => K fns bd f7_l0 s' k | e => k e s') := K_loop
/-- delver/delverlaw04.HierSupers -/
def f7 : AFun := ⟨2,
  (.seq (.region false [
    ⟨some 2, .box (.t 0), none⟩,
    ⟨some 4, .mov .own (.k (.c (.b (.d (.bool false))))), none⟩] [1, 2])
  (.seq (.seq (.region false [
    ⟨some 13, .ld .cp (some 1) (.t 2), none⟩,
    ⟨some 14, .callb 9 [(.t 13)], none⟩,
    ⟨some 15, .mov .cp (.t 14), none⟩,
    ⟨some 16, .ld .cp (some 1) (.t 2), (some (15, false))⟩,
    ⟨some 17, .callb 10 [(.t 16)], (some (15, false))⟩,
    ⟨some 18, .bin .neq (.t 17) (.k (.c (.b (.d (.int .i64 0))))), (some (15, false))⟩,
    ⟨some 19, .pick (.t 15) (.k (.c (.b (.d (.bool true))))) (.t 18), none⟩] [1, 2, 19])
  (.cond (.t 19)
    (.seq (.region false [
      ⟨some 4, .mov .own (.k (.c (.b (.d (.bool true))))), none⟩] [4])
    .ret)
    .skip))
  (.seq (.region false [
    ⟨some 20, .ld .cp (some 1) (.t 2), none⟩,
    ⟨some 21, .callb 11 [(.t 20)], none⟩,
    ⟨some 5, .mov .cp (.t 21), none⟩] [1, 2, 5])
  (.seq (.seq (.region false [
    ⟨some 22, .mov .cp (.t 5), none⟩,
    ⟨some 23, .len 0 (.t 22), none⟩,
    ⟨some 24, .bin .eql (.t 23) (.k (.c (.b (.d (.int .i64 0))))), none⟩] [1, 2, 5, 24])
  (.cond (.t 24)
    (.seq (.region false [
      ⟨some 4, .mov .own (.k (.c (.b (.d (.bool false))))), none⟩] [4])
    .ret)
    .skip))
  (.seq (.region false [
    ⟨some 25, .mov .cp (.t 5), none⟩,
    ⟨some 26, .mov .cp (.t 1), none⟩,
    ⟨some 27, .conv .u64 (.t 26), none⟩,
    ⟨some 28, .mov .cp (.t 5), none⟩,
    ⟨some 29, .len 0 (.t 28), none⟩,
    ⟨some 30, .conv .u64 (.t 29), none⟩,
    ⟨some 31, .bin .rem (.t 27) (.t 30), none⟩,
    ⟨some 32, .conv .i64 (.t 31), none⟩,
    ⟨some 33, .ia 1 (.t 25) (.t 32), none⟩,
    ⟨some 34, .ld .cp none (.t 33), none⟩,
    ⟨some 6, .mov .cp (.t 34), none⟩] [2, 5, 6])
  (.seq (.region false [
    ⟨some 36, .ld .cp (some 1) (.t 2), none⟩,
    ⟨some 37, .mov .cp (.t 6), none⟩,
    ⟨some 38, .callb 19 [(.t 36), (.t 37)], none⟩,
    ⟨some 35, .mov .own (.t 38), none⟩,
    ⟨some 39, .ext 0 (.t 35), none⟩,
    ⟨some 40, .ext 1 (.t 35), none⟩,
    ⟨some 7, .alloc [(.b (.d (.str ⟨#[]⟩))), (.b (.d (.bool false))), (.b (.d (.str ⟨#[]⟩))), (.osl 1 []), (.osl 4 []), (.osl 9 [])], none⟩,
    ⟨none, .st 6 (.t 7) (.t 39), none⟩,
    ⟨some 8, .mov .cp (.t 40), none⟩] [2, 5, 6, 7, 8])
  (.seq (.seq (.region false [
    ⟨some 41, .mov .cp (.t 8), none⟩,
    ⟨some 42, .un .not (.t 41), none⟩] [2, 5, 6, 7, 42])
  (.cond (.t 42)
    (.seq (.region false [
      ⟨some 4, .mov .own (.k (.c (.b (.d (.bool false))))), none⟩] [4])
    .ret)
    .skip))
  (.seq (.region false [
    ⟨some 43, .mov .cp (.t 6), none⟩,
    ⟨some 9, .mov .cp (.t 43), none⟩] [2, 5, 6, 7, 9])
  (.seq (.seq (.region false [
    ⟨some 10, .mov .cp (.k (.c (.b (.d (.int .i64 0))))), none⟩] [2, 5, 6, 7, 9, 10])
  (.block 0 f7_l0))
  (.seq (.region false [
    ⟨some 4, .mov .own (.k (.c (.b (.d (.bool false))))), none⟩] [4])
  .ret)))))))))), [(.tmp 4)], .pure, false⟩
/-- delver/delverlaw04.HierBent -/
def f8 : AFun := ⟨3,
  (.seq (.region false [
    ⟨some 3, .box (.t 0), none⟩,
    ⟨some 6, .mov .own (.k (.c (.b (.d (.bool false))))), none⟩] [1, 2, 3])
  (.seq (.seq (.region false [
    ⟨some 12, .ld .cp (some 1) (.t 3), none⟩,
    ⟨some 13, .callb 9 [(.t 12)], none⟩,
    ⟨some 14, .mov .cp (.t 13), none⟩,
    ⟨some 15, .ld .cp (some 1) (.t 3), (some (14, false))⟩,
    ⟨some 16, .callb 10 [(.t 15)], (some (14, false))⟩,
    ⟨some 17, .bin .neq (.t 16) (.k (.c (.b (.d (.int .i64 0))))), (some (14, false))⟩,
    ⟨some 18, .pick (.t 14) (.k (.c (.b (.d (.bool true))))) (.t 17), none⟩,
    ⟨some 19, .mov .cp (.t 18), none⟩,
    ⟨some 20, .fa 0 (.t 3), (some (19, false))⟩,
    ⟨some 21, .ld .cp none (.t 20), (some (19, false))⟩,
    ⟨some 22, .len 0 (.t 21), (some (19, false))⟩,
    ⟨some 23, .bin .eql (.t 22) (.k (.c (.b (.d (.int .i64 0))))), (some (19, false))⟩,
    ⟨some 24, .pick (.t 19) (.k (.c (.b (.d (.bool true))))) (.t 23), none⟩,
    ⟨some 25, .mov .cp (.t 24), none⟩,
    ⟨some 26, .fa 0 (.t 3), (some (25, false))⟩,
    ⟨some 27, .ld .cp none (.t 26), (some (25, false))⟩,
    ⟨some 28, .len 0 (.t 27), (some (25, false))⟩,
    ⟨some 29, .bin .geq (.t 28) (.k (.c (.b (.d (.int .i64 10))))), (some (25, false))⟩,
    ⟨some 30, .pick (.t 25) (.k (.c (.b (.d (.bool true))))) (.t 29), none⟩] [1, 2, 3, 30])
  (.cond (.t 30)
    (.seq (.region false [
      ⟨some 6, .mov .own (.k (.c (.b (.d (.bool true))))), none⟩] [6])
    .ret)
    .skip))
  (.seq (.region false [
    ⟨some 31, .ld .cp (some 1) (.t 3), none⟩,
    ⟨some 32, .callb 17 [(.t 31)], none⟩,
    ⟨some 7, .alloc [(.osl 6 [])], none⟩,
    ⟨none, .st 1 (.t 7) (.t 32), none⟩] [1, 2, 3, 7])
  (.seq (.region false [
    ⟨some 33, .mov .cp (.t 1), none⟩,
    ⟨some 34, .conv .u64 (.t 33), none⟩,
    ⟨some 35, .fa 0 (.t 7), none⟩,
    ⟨some 36, .ld .cp none (.t 35), none⟩,
    ⟨some 37, .len 0 (.t 36), none⟩,
    ⟨some 38, .conv .u64 (.t 37), none⟩,
    ⟨some 39, .bin .rem (.t 34) (.t 38), none⟩,
    ⟨some 40, .conv .i64 (.t 39), none⟩,
    ⟨some 1, .mov .cp (.t 40), none⟩] [1, 2, 3, 7])
  (.seq (.region false [
    ⟨some 41, .fa 0 (.t 7), none⟩,
    ⟨some 42, .ld .cp none (.t 41), none⟩,
    ⟨some 43, .mov .cp (.t 1), none⟩,
    ⟨some 44, .ia 6 (.t 42) (.t 43), none⟩,
    ⟨some 8, .mov .cp (.t 44), none⟩] [2, 3, 7, 8])
  (.seq (.region false [
    ⟨some 9, .mov .cp (.k (.c (.b (.d (.int .i64 5))))), none⟩] [2, 3, 7, 8, 9])
  (.seq (.seq (.region false [
    ⟨some 45, .mov .cp (.t 2), none⟩,
    ⟨some 46, .conv .u64 (.t 45), none⟩,
    ⟨some 47, .bin .rem (.t 46) (.k (.c (.b (.d (.int .u64 5))))), none⟩] [3, 7, 8, 9, 47])
  (.block 0 (.seq (.region false [
    ⟨some 52, .bin .eql (.t 47) (.k (.c (.b (.d (.int .u64 0))))), none⟩,
    ⟨some 51, .mov .cp (.t 52), none⟩] [3, 7, 8, 9, 47, 51])
  (.cond (.t 51)
    (.seq (.region true [
      ⟨some 53, .fa 0 (.t 7), none⟩,
      ⟨some 54, .ld .own none (.t 53), none⟩,
      ⟨some 55, .mov .cp (.t 8), none⟩,
      ⟨some 56, .nilc (.t 55), none⟩,
      ⟨some 57, .fa 0 (.t 56), none⟩,
      ⟨some 58, .ld .cp none (.t 57), none⟩,
      ⟨some 59, .build [(.b (.d (.str ⟨#[]⟩))), (.b (.d (.bool false))), (.b (.d (.str ⟨#[]⟩))), (.osl 1 []), (.osl 4 []), (.osl 9 [])] [(0, 1, (.t 58))], none⟩,
      ⟨some 60, .bsl .own 6 1 [(.b (.d (.str ⟨#[]⟩))), (.b (.d (.bool false))), (.b (.d (.str ⟨#[]⟩))), (.osl 1 []), (.osl 4 []), (.osl 9 [])] [(0, (.t 59))], none⟩,
      ⟨some 61, .app 6 112 (.t 54) (.t 60), none⟩,
      ⟨some 62, .fa 0 (.t 7), none⟩,
      ⟨none, .st 1 (.t 62) (.t 61), none⟩] [3, 7])
    (.region false [
      ⟨some 9, .mov .cp (.k (.c (.b (.d (.int .i64 6))))), none⟩] [3, 7, 9]))
    (.seq (.region false [
      ⟨some 64, .bin .eql (.t 47) (.k (.c (.b (.d (.int .u64 1))))), none⟩,
      ⟨some 63, .mov .cp (.t 64), none⟩] [3, 7, 8, 9, 47, 63])
    (.cond (.t 63)
      (.seq (.seq (.region false [
        ⟨some 66, .ld .cp (some 1) (.t 3), none⟩,
        ⟨some 67, .callb 19 [(.t 66), (.k (.c (.b (.d (.str ⟨#[78, 111, 110, 101, 95, 115, 117, 99, 104]⟩)))))], none⟩,
        ⟨some 65, .mov .own (.t 67), none⟩,
        ⟨some 68, .ext 0 (.t 65), none⟩,
        ⟨some 69, .ext 1 (.t 65), none⟩,
        ⟨some 10, .alloc [(.b (.d (.str ⟨#[]⟩))), (.b (.d (.bool false))), (.b (.d (.str ⟨#[]⟩))), (.osl 1 []), (.osl 4 []), (.osl 9 [])], none⟩,
        ⟨none, .st 6 (.t 10) (.t 68), none⟩,
        ⟨some 11, .mov .cp (.t 69), none⟩] [3, 7, 8, 9, 11])
      (.seq (.region false [
        ⟨some 70, .mov .cp (.t 8), none⟩,
        ⟨some 71, .nilc (.t 70), none⟩,
        ⟨some 72, .fa 1 (.t 71), none⟩,
        ⟨some 73, .ld .cp none (.t 72), none⟩,
        ⟨some 74, .mov .cp (.t 73), none⟩,
        ⟨some 75, .mov .cp (.t 11), (some (74, false))⟩,
        ⟨some 76, .pick (.t 74) (.k (.c (.b (.d (.bool true))))) (.t 75), none⟩,
        ⟨some 77, .mov .cp (.t 76), none⟩,
        ⟨some 78, .fa 0 (.t 3), (some (77, false))⟩,
        ⟨some 79, .ld .cp none (.t 78), (some (77, false))⟩,
        ⟨some 80, .callb 16 [(.t 79), (.k (.c (.b (.d (.str ⟨#[78, 111, 110, 101, 95, 115, 117, 99, 104]⟩)))))], (some (77, false))⟩,
        ⟨some 81, .bin .geq (.t 80) (.k (.c (.b (.d (.int .i64 0))))), (some (77, false))⟩,
        ⟨some 82, .pick (.t 77) (.k (.c (.b (.d (.bool true))))) (.t 81), none⟩] [3, 7, 8, 9, 82])
      (.cond (.t 82)
        (.seq (.region false [
          ⟨some 83, .callb 13 [], none⟩,
          ⟨some 6, .mov .own (.t 83), none⟩] [6])
        .ret)
        .skip)))
      (.region false [
        ⟨some 84, .mov .cp (.t 8), none⟩,
        ⟨some 85, .nilc (.t 84), none⟩,
        ⟨some 86, .fa 2 (.t 85), none⟩,
        ⟨none, .st 1 (.t 86) (.k (.c (.b (.d (.str ⟨#[78, 111, 110, 101, 95, 115, 117, 99, 104]⟩))))), none⟩] [3, 7, 9]))
      (.seq (.region false [
        ⟨some 88, .bin .eql (.t 47) (.k (.c (.b (.d (.int .u64 2))))), none⟩,
        ⟨some 87, .mov .cp (.t 88), none⟩] [3, 7, 8, 9, 47, 87])
      (.cond (.t 87)
        (.region false [
          ⟨some 89, .mov .cp (.t 8), none⟩,
          ⟨some 90, .bsl .own 1 1 [(.b (.d (.str ⟨#[]⟩)))] [(0, (.k (.c (.b (.d (.str ⟨#[79, 98, 106, 101, 99, 116]⟩))))))], none⟩,
          ⟨some 91, .nilc (.t 89), none⟩,
          ⟨some 92, .fa 3 (.t 91), none⟩,
          ⟨none, .st 1 (.t 92) (.t 90), none⟩] [3, 7, 9])
        (.seq (.region false [
          ⟨some 94, .bin .eql (.t 47) (.k (.c (.b (.d (.int .u64 3))))), none⟩,
          ⟨some 93, .mov .cp (.t 94), none⟩] [3, 7, 8, 93])
        (.cond (.t 93)
          (.seq (.seq (.region false [
            ⟨some 95, .mov .cp (.t 8), none⟩,
            ⟨some 96, .nilc (.t 95), none⟩,
            ⟨some 97, .fa 1 (.t 96), none⟩,
            ⟨some 98, .ld .cp none (.t 97), none⟩] [3, 7, 8, 98])
          (.cond (.t 98)
            (.region false [
              ⟨some 99, .mov .cp (.t 8), none⟩,
              ⟨some 100, .mov .cp (.t 8), none⟩,
              ⟨some 101, .nilc (.t 100), none⟩,
              ⟨some 102, .fa 0 (.t 101), none⟩,
              ⟨some 103, .ld .cp none (.t 102), none⟩,
              ⟨some 104, .bsl .own 1 1 [(.b (.d (.str ⟨#[]⟩)))] [(0, (.t 103))], none⟩,
              ⟨some 105, .nilc (.t 99), none⟩,
              ⟨some 106, .fa 3 (.t 105), none⟩,
              ⟨none, .st 1 (.t 106) (.t 104), none⟩] [3, 7])
            (.region false [
              ⟨some 107, .mov .cp (.t 8), none⟩,
              ⟨some 108, .mov .cp (.t 8), none⟩,
              ⟨some 109, .nilc (.t 108), none⟩,
              ⟨some 110, .fa 0 (.t 109), none⟩,
              ⟨some 111, .ld .cp none (.t 110), none⟩,
              ⟨some 112, .nilc (.t 107), none⟩,
              ⟨some 113, .fa 2 (.t 112), none⟩,
              ⟨none, .st 1 (.t 113) (.t 111), none⟩] [3, 7])))
          (.region false [
            ⟨some 9, .mov .cp (.k (.c (.b (.d (.int .i64 7))))), none⟩] [3, 7, 9]))
          (.seq (.region false [
            ⟨some 48, .mov .cp (.t 8), none⟩,
            ⟨some 49, .nilc (.t 48), none⟩,
            ⟨some 50, .fa 0 (.t 49), none⟩,
            ⟨none, .st 1 (.t 50) (.k (.c (.b (.d (.str ⟨#[79, 98, 106, 101, 99, 116]⟩))))), none⟩] [3, 7])
          (.region false [
            ⟨some 9, .mov .cp (.k (.c (.b (.d (.int .i64 6))))), none⟩] [3, 7, 9]))))))))))))
  (.seq (.region false [
    ⟨some 114, .ld .cp (some 1) (.t 3), none⟩,
    ⟨some 115, .callb 18 [(.t 114)], none⟩,
    ⟨some 116, .bin .eql (.t 115) (.k (.c (.b (.d (.int .i64 0))))), none⟩,
    ⟨some 117, .mov .cp (.t 116), none⟩,
    ⟨some 118, .ld .cp (some 1) (.t 7), (some (117, true))⟩,
    ⟨some 119, .callb 18 [(.t 118)], (some (117, true))⟩,
    ⟨some 120, .mov .cp (.t 9), (some (117, true))⟩,
    ⟨some 121, .bin .eql (.t 119) (.t 120), (some (117, true))⟩,
    ⟨some 122, .pick (.t 117) (.t 121) (.k (.c (.b (.d (.bool false))))), none⟩,
    ⟨some 123, .mov .cp (.t 122), none⟩,
    ⟨some 124, .ld .cp (some 1) (.t 7), (some (123, true))⟩,
    ⟨some 125, .callb 15 [(.t 124), (.k (.c (.b (.d (.str ⟨#[79, 98, 106, 101, 99, 116]⟩)))))], (some (123, true))⟩,
    ⟨some 126, .len 0 (.t 125), (some (123, true))⟩,
    ⟨some 127, .bin .eql (.t 126) (.k (.c (.b (.d (.int .i64 0))))), (some (123, true))⟩,
    ⟨some 128, .pick (.t 123) (.t 127) (.k (.c (.b (.d (.bool false))))), none⟩,
    ⟨some 129, .mov .cp (.t 128), none⟩,
    ⟨some 130, .ld .cp (some 1) (.t 7), (some (129, true))⟩,
    ⟨some 131, .callb 12 [(.t 130), (.k (.c (.b (.d (.str ⟨#[69, 114, 114, 111, 114]⟩))))), (.k (.c (.b (.d (.str ⟨#[79, 98, 106, 101, 99, 116]⟩)))))], (some (129, true))⟩,
    ⟨some 132, .un .not (.t 131), (some (129, true))⟩,
    ⟨some 133, .pick (.t 129) (.t 132) (.k (.c (.b (.d (.bool false))))), none⟩,
    ⟨some 134, .mov .cp (.t 133), none⟩,
    ⟨some 135, .callb 13 [], (some (134, true))⟩,
    ⟨some 136, .pick (.t 134) (.t 135) (.k (.c (.b (.d (.bool false))))), none⟩,
    ⟨some 6, .mov .own (.t 136), none⟩] [6])
  .ret)))))))), [(.tmp 6)], .pure, false⟩
theorem c9 : chkFun Tryz.prog 9 f9 = true := by kernel_rfl
theorem c16 : chkFun Tryz.prog 16 f16 = true := by kernel_rfl
theorem c69 : chkFun Tryz.prog 69 f69 = true := by kernel_rfl
theorem c52 : chkFun Tryz.prog 52 f52 = true := by kernel_rfl
theorem c36 : chkFun Tryz.prog 36 f36 = true := by kernel_rfl
theorem c17 : chkFun Tryz.prog 17 f17 = true := by kernel_rfl
theorem c41 : chkFun Tryz.prog 41 f41 = true := by kernel_rfl
theorem c23 : chkFun Tryz.prog 23 f23 = true := by kernel_rfl
theorem c27 : chkFun Tryz.prog 27 f27 = true := by kernel_rfl
theorem c75 : chkFun Tryz.prog 75 f75 = true := by kernel_rfl
theorem c76 : chkFun Tryz.prog 76 f76 = true := by kernel_rfl
theorem c59 : chkFun Tryz.prog 59 f59 = true := by kernel_rfl
theorem c60 : chkFun Tryz.prog 60 f60 = true := by kernel_rfl
theorem c43 : chkFun Tryz.prog 43 f43 = true := by kernel_rfl
theorem c44 : chkFun Tryz.prog 44 f44 = true := by kernel_rfl
theorem c61 : chkFun Tryz.prog 61 f61 = true := by kernel_rfl
theorem c77 : chkFun Tryz.prog 77 f77 = true := by kernel_rfl
theorem c62 : chkFun Tryz.prog 62 f62 = true := by kernel_rfl
theorem c45 : chkFun Tryz.prog 45 f45 = true := by kernel_rfl
theorem c29 : chkFun Tryz.prog 29 f29 = true := by kernel_rfl
theorem c30 : chkFun Tryz.prog 30 f30 = true := by kernel_rfl
theorem c31 : chkFun Tryz.prog 31 f31 = true := by kernel_rfl
theorem c32 : chkFun Tryz.prog 32 f32 = true := by kernel_rfl
theorem c10 : chkFun Tryz.prog 10 f10 = true := by kernel_rfl
theorem c53 : chkFun Tryz.prog 53 f53 = true := by kernel_rfl
theorem c54 : chkFun Tryz.prog 54 f54 = true := by kernel_rfl
theorem c70 : chkFun Tryz.prog 70 f70 = true := by kernel_rfl
theorem c71 : chkFun Tryz.prog 71 f71 = true := by kernel_rfl
theorem c72 : chkFun Tryz.prog 72 f72 = true := by kernel_rfl
theorem c55 : chkFun Tryz.prog 55 f55 = true := by kernel_rfl
theorem c38 : chkFun Tryz.prog 38 f38 = true := by kernel_rfl
theorem c73 : chkFun Tryz.prog 73 f73 = true := by kernel_rfl
theorem c100 : chkFun Tryz.prog 100 f100 = true := by kernel_rfl
theorem c101 : chkFun Tryz.prog 101 f101 = true := by kernel_rfl
theorem c85 : chkFun Tryz.prog 85 f85 = true := by kernel_rfl
theorem c74 : chkFun Tryz.prog 74 f74 = true := by kernel_rfl
theorem c57 : chkFun Tryz.prog 57 f57 = true := by kernel_rfl
theorem c40 : chkFun Tryz.prog 40 f40 = true := by kernel_rfl
theorem c22 : chkFun Tryz.prog 22 f22 = true := by kernel_rfl
theorem c11 : chkFun Tryz.prog 11 f11 = true := by kernel_rfl
theorem c65 : chkFun Tryz.prog 65 f65 = true := by kernel_rfl
theorem c47 : chkFun Tryz.prog 47 f47 = true := by kernel_rfl
theorem c78 : chkFun Tryz.prog 78 f78 = true := by kernel_rfl
theorem c63 : chkFun Tryz.prog 63 f63 = true := by kernel_rfl
theorem c102 : chkFun Tryz.prog 102 f102 = true := by kernel_rfl
theorem c103 : chkFun Tryz.prog 103 f103 = true := by kernel_rfl
theorem c86 : chkFun Tryz.prog 86 f86 = true := by kernel_rfl
theorem c116 : chkFun Tryz.prog 116 f116 = true := by kernel_rfl
theorem c104 : chkFun Tryz.prog 104 f104 = true := by kernel_rfl
theorem c87 : chkFun Tryz.prog 87 f87 = true := by kernel_rfl
theorem c79 : chkFun Tryz.prog 79 f79 = true := by kernel_rfl
theorem c67 : chkFun Tryz.prog 67 f67 = true := by kernel_rfl
theorem c49 : chkFun Tryz.prog 49 f49 = true := by kernel_rfl
theorem c88 : chkFun Tryz.prog 88 f88 = true := by kernel_rfl
theorem c80 : chkFun Tryz.prog 80 f80 = true := by kernel_rfl
theorem c105 : chkFun Tryz.prog 105 f105 = true := by kernel_rfl
theorem c89 : chkFun Tryz.prog 89 f89 = true := by kernel_rfl
theorem c90 : chkFun Tryz.prog 90 f90 = true := by kernel_rfl
theorem c81 : chkFun Tryz.prog 81 f81 = true := by kernel_rfl
theorem c91 : chkFun Tryz.prog 91 f91 = true := by kernel_rfl
theorem c82 : chkFun Tryz.prog 82 f82 = true := by kernel_rfl
theorem c106 : chkFun Tryz.prog 106 f106 = true := by kernel_rfl
theorem c92 : chkFun Tryz.prog 92 f92 = true := by kernel_rfl
theorem c93 : chkFun Tryz.prog 93 f93 = true := by kernel_rfl
theorem c83 : chkFun Tryz.prog 83 f83 = true := by kernel_rfl
theorem c117 : chkFun Tryz.prog 117 f117 = true := by kernel_rfl
theorem c107 : chkFun Tryz.prog 107 f107 = true := by kernel_rfl
theorem c108 : chkFun Tryz.prog 108 f108 = true := by kernel_rfl
theorem c94 : chkFun Tryz.prog 94 f94 = true := by kernel_rfl
theorem c95 : chkFun Tryz.prog 95 f95 = true := by kernel_rfl
theorem c118 : chkFun Tryz.prog 118 f118 = true := by kernel_rfl
theorem c109 : chkFun Tryz.prog 109 f109 = true := by kernel_rfl
theorem c110 : chkFun Tryz.prog 110 f110 = true := by kernel_rfl
theorem c96 : chkFun Tryz.prog 96 f96 = true := by kernel_rfl
theorem c119 : chkFun Tryz.prog 119 f119 = true := by kernel_rfl
theorem c111 : chkFun Tryz.prog 111 f111 = true := by kernel_rfl
theorem c112 : chkFun Tryz.prog 112 f112 = true := by kernel_rfl
theorem c113 : chkFun Tryz.prog 113 f113 = true := by kernel_rfl
theorem c97 : chkFun Tryz.prog 97 f97 = true := by kernel_rfl
theorem c120 : chkFun Tryz.prog 120 f120 = true := by kernel_rfl
theorem c114 : chkFun Tryz.prog 114 f114 = true := by kernel_rfl
theorem c115 : chkFun Tryz.prog 115 f115 = true := by kernel_rfl
theorem c98 : chkFun Tryz.prog 98 f98 = true := by kernel_rfl
theorem c99 : chkFun Tryz.prog 99 f99 = true := by kernel_rfl
theorem c84 : chkFun Tryz.prog 84 f84 = true := by kernel_rfl
theorem c64 : chkFun Tryz.prog 64 f64 = true := by kernel_rfl
theorem c46 : chkFun Tryz.prog 46 f46 = true := by kernel_rfl
theorem c56 : chkFun Tryz.prog 56 f56 = true := by kernel_rfl
theorem c66 : chkFun Tryz.prog 66 f66 = true := by kernel_rfl
theorem c48 : chkFun Tryz.prog 48 f48 = true := by kernel_rfl
theorem c68 : chkFun Tryz.prog 68 f68 = true := by kernel_rfl
theorem c51 : chkFun Tryz.prog 51 f51 = true := by kernel_rfl
theorem c50 : chkFun Tryz.prog 50 f50 = true := by kernel_rfl
theorem c33 : chkFun Tryz.prog 33 f33 = true := by kernel_rfl
theorem c34 : chkFun Tryz.prog 34 f34 = true := by kernel_rfl
theorem c12 : chkFun Tryz.prog 12 f12 = true := by kernel_rfl
theorem c14 : chkFun Tryz.prog 14 f14 = true := by kernel_rfl
theorem c35 : chkFun Tryz.prog 35 f35 = true := by kernel_rfl
theorem c15 : chkFun Tryz.prog 15 f15 = true := by kernel_rfl
theorem c18 : chkFun Tryz.prog 18 f18 = true := by kernel_rfl
theorem c37 : chkFun Tryz.prog 37 f37 = true := by kernel_rfl
theorem c39 : chkFun Tryz.prog 39 f39 = true := by kernel_rfl
theorem c20 : chkFun Tryz.prog 20 f20 = true := by kernel_rfl
theorem c13 : chkFun Tryz.prog 13 f13 = true := by kernel_rfl
theorem c3 : chkFun Tryz.prog 3 f3 = true := by kernel_rfl
theorem c4 : chkFun Tryz.prog 4 f4 = true := by kernel_rfl
theorem c5 : chkFun Tryz.prog 5 f5 = true := by kernel_rfl
theorem c19 : chkFun Tryz.prog 19 f19 = true := by kernel_rfl
theorem c58 : chkFun Tryz.prog 58 f58 = true := by kernel_rfl
theorem c42 : chkFun Tryz.prog 42 f42 = true := by kernel_rfl
theorem c25 : chkFun Tryz.prog 25 f25 = true := by kernel_rfl
theorem c21 : chkFun Tryz.prog 21 f21 = true := by kernel_rfl
theorem c24 : chkFun Tryz.prog 24 f24 = true := by kernel_rfl
theorem c28 : chkFun Tryz.prog 28 f28 = true := by kernel_rfl
theorem c26 : chkFun Tryz.prog 26 f26 = true := by kernel_rfl
theorem c6 : chkFun Tryz.prog 6 f6 = true := by kernel_rfl
theorem c7 : chkFun Tryz.prog 7 f7 = true := by kernel_rfl
theorem c8 : chkFun Tryz.prog 8 f8 = true := by kernel_rfl
def tab : List (Nat × AFun) := [(9, f9), (16, f16), (69, f69), (52, f52), (36, f36), (17, f17), (41, f41), (23, f23), (27, f27), (75, f75), (76, f76), (59, f59), (60, f60), (43, f43), (44, f44), (61, f61), (77, f77), (62, f62), (45, f45), (29, f29), (30, f30), (31, f31), (32, f32), (10, f10), (53, f53), (54, f54), (70, f70), (71, f71), (72, f72), (55, f55), (38, f38), (73, f73), (100, f100), (101, f101), (85, f85), (74, f74), (57, f57), (40, f40), (22, f22), (11, f11), (65, f65), (47, f47), (78, f78), (63, f63), (102, f102), (103, f103), (86, f86), (116, f116), (104, f104), (87, f87), (79, f79), (67, f67), (49, f49), (88, f88), (80, f80), (105, f105), (89, f89), (90, f90), (81, f81), (91, f91), (82, f82), (106, f106), (92, f92), (93, f93), (83, f83), (117, f117), (107, f107), (108, f108), (94, f94), (95, f95), (118, f118), (109, f109), (110, f110), (96, f96), (119, f119), (111, f111), (112, f112), (113, f113), (97, f97), (120, f120), (114, f114), (115, f115), (98, f98), (99, f99), (84, f84), (64, f64), (46, f46), (56, f56), (66, f66), (48, f48), (68, f68), (51, f51), (50, f50), (33, f33), (34, f34), (12, f12), (14, f14), (35, f35), (15, f15), (18, f18), (37, f37), (39, f39), (20, f20), (13, f13), (3, f3), (4, f4), (5, f5), (19, f19), (58, f58), (42, f42), (25, f25), (21, f21), (24, f24), (28, f28), (26, f26), (6, f6), (7, f7), (8, f8)]
def look (f : Nat) : List (Nat × AFun) → Option AFun
  | [] => none
  | (g, a) :: l => bif Nat.beq f g then some a else look f l
theorem look_mem {f : Nat} {a : AFun} : ∀ {l : List (Nat × AFun)}, look f l = some a → (f, a) ∈ l
  | [], h => by simp [look] at h
  | (g, b) :: l, h => by
    simp only [look] at h
    cases hb : Nat.beq f g with
    | true => rw [hb] at h; have := Nat.eq_of_beq_eq_true hb; subst this; simp only [cond_true, Option.some.injEq] at h; subst h; exact List.mem_cons_self
    | false => rw [hb] at h; exact List.mem_cons_of_mem _ (look_mem h)
def fns (f : Nat) : Option AFun := look f tab
theorem t9 : fns 9 = some f9 := rfl
theorem t16 : fns 16 = some f16 := rfl
theorem t69 : fns 69 = some f69 := rfl
theorem t52 : fns 52 = some f52 := rfl
theorem t36 : fns 36 = some f36 := rfl
theorem t17 : fns 17 = some f17 := rfl
theorem t41 : fns 41 = some f41 := rfl
theorem t23 : fns 23 = some f23 := rfl
theorem t27 : fns 27 = some f27 := rfl
theorem t75 : fns 75 = some f75 := rfl
theorem t76 : fns 76 = some f76 := rfl
theorem t59 : fns 59 = some f59 := rfl
theorem t60 : fns 60 = some f60 := rfl
theorem t43 : fns 43 = some f43 := rfl
theorem t44 : fns 44 = some f44 := rfl
theorem t61 : fns 61 = some f61 := rfl
theorem t77 : fns 77 = some f77 := rfl
theorem t62 : fns 62 = some f62 := rfl
theorem t45 : fns 45 = some f45 := rfl
theorem t29 : fns 29 = some f29 := rfl
theorem t30 : fns 30 = some f30 := rfl
theorem t31 : fns 31 = some f31 := rfl
theorem t32 : fns 32 = some f32 := rfl
theorem t10 : fns 10 = some f10 := rfl
theorem t53 : fns 53 = some f53 := rfl
theorem t54 : fns 54 = some f54 := rfl
theorem t70 : fns 70 = some f70 := rfl
theorem t71 : fns 71 = some f71 := rfl
theorem t72 : fns 72 = some f72 := rfl
theorem t55 : fns 55 = some f55 := rfl
theorem t38 : fns 38 = some f38 := rfl
theorem t73 : fns 73 = some f73 := rfl
theorem t100 : fns 100 = some f100 := rfl
theorem t101 : fns 101 = some f101 := rfl
theorem t85 : fns 85 = some f85 := rfl
theorem t74 : fns 74 = some f74 := rfl
theorem t57 : fns 57 = some f57 := rfl
theorem t40 : fns 40 = some f40 := rfl
theorem t22 : fns 22 = some f22 := rfl
theorem t11 : fns 11 = some f11 := rfl
theorem t65 : fns 65 = some f65 := rfl
theorem t47 : fns 47 = some f47 := rfl
theorem t78 : fns 78 = some f78 := rfl
theorem t63 : fns 63 = some f63 := rfl
theorem t102 : fns 102 = some f102 := rfl
theorem t103 : fns 103 = some f103 := rfl
theorem t86 : fns 86 = some f86 := rfl
theorem t116 : fns 116 = some f116 := rfl
theorem t104 : fns 104 = some f104 := rfl
theorem t87 : fns 87 = some f87 := rfl
theorem t79 : fns 79 = some f79 := rfl
theorem t67 : fns 67 = some f67 := rfl
theorem t49 : fns 49 = some f49 := rfl
theorem t88 : fns 88 = some f88 := rfl
theorem t80 : fns 80 = some f80 := rfl
theorem t105 : fns 105 = some f105 := rfl
theorem t89 : fns 89 = some f89 := rfl
theorem t90 : fns 90 = some f90 := rfl
theorem t81 : fns 81 = some f81 := rfl
theorem t91 : fns 91 = some f91 := rfl
theorem t82 : fns 82 = some f82 := rfl
theorem t106 : fns 106 = some f106 := rfl
theorem t92 : fns 92 = some f92 := rfl
theorem t93 : fns 93 = some f93 := rfl
theorem t83 : fns 83 = some f83 := rfl
theorem t117 : fns 117 = some f117 := rfl
theorem t107 : fns 107 = some f107 := rfl
theorem t108 : fns 108 = some f108 := rfl
theorem t94 : fns 94 = some f94 := rfl
theorem t95 : fns 95 = some f95 := rfl
theorem t118 : fns 118 = some f118 := rfl
theorem t109 : fns 109 = some f109 := rfl
theorem t110 : fns 110 = some f110 := rfl
theorem t96 : fns 96 = some f96 := rfl
theorem t119 : fns 119 = some f119 := rfl
theorem t111 : fns 111 = some f111 := rfl
theorem t112 : fns 112 = some f112 := rfl
theorem t113 : fns 113 = some f113 := rfl
theorem t97 : fns 97 = some f97 := rfl
theorem t120 : fns 120 = some f120 := rfl
theorem t114 : fns 114 = some f114 := rfl
theorem t115 : fns 115 = some f115 := rfl
theorem t98 : fns 98 = some f98 := rfl
theorem t99 : fns 99 = some f99 := rfl
theorem t84 : fns 84 = some f84 := rfl
theorem t64 : fns 64 = some f64 := rfl
theorem t46 : fns 46 = some f46 := rfl
theorem t56 : fns 56 = some f56 := rfl
theorem t66 : fns 66 = some f66 := rfl
theorem t48 : fns 48 = some f48 := rfl
theorem t68 : fns 68 = some f68 := rfl
theorem t51 : fns 51 = some f51 := rfl
theorem t50 : fns 50 = some f50 := rfl
theorem t33 : fns 33 = some f33 := rfl
theorem t34 : fns 34 = some f34 := rfl
theorem t12 : fns 12 = some f12 := rfl
theorem t14 : fns 14 = some f14 := rfl
theorem t35 : fns 35 = some f35 := rfl
theorem t15 : fns 15 = some f15 := rfl
theorem t18 : fns 18 = some f18 := rfl
theorem t37 : fns 37 = some f37 := rfl
theorem t39 : fns 39 = some f39 := rfl
theorem t20 : fns 20 = some f20 := rfl
theorem t13 : fns 13 = some f13 := rfl
theorem t3 : fns 3 = some f3 := rfl
theorem t4 : fns 4 = some f4 := rfl
theorem t5 : fns 5 = some f5 := rfl
theorem t19 : fns 19 = some f19 := rfl
theorem t58 : fns 58 = some f58 := rfl
theorem t42 : fns 42 = some f42 := rfl
theorem t25 : fns 25 = some f25 := rfl
theorem t21 : fns 21 = some f21 := rfl
theorem t24 : fns 24 = some f24 := rfl
theorem t28 : fns 28 = some f28 := rfl
theorem t26 : fns 26 = some f26 := rfl
theorem t6 : fns 6 = some f6 := rfl
theorem t7 : fns 7 = some f7 := rfl
theorem t8 : fns 8 = some f8 := rfl
theorem tab_ok : ∀ p ∈ tab, chkFun Tryz.prog p.1 p.2 = true := by
  simp only [tab, List.forall_mem_cons]
  exact ⟨c9, c16, c69, c52, c36, c17, c41, c23, c27, c75, c76, c59, c60, c43, c44, c61, c77, c62, c45, c29, c30, c31, c32, c10, c53, c54, c70, c71, c72, c55, c38, c73, c100, c101, c85, c74, c57, c40, c22, c11, c65, c47, c78, c63, c102, c103, c86, c116, c104, c87, c79, c67, c49, c88, c80, c105, c89, c90, c81, c91, c82, c106, c92, c93, c83, c117, c107, c108, c94, c95, c118, c109, c110, c96, c119, c111, c112, c113, c97, c120, c114, c115, c98, c99, c84, c64, c46, c56, c66, c48, c68, c51, c50, c33, c34, c12, c14, c35, c15, c18, c37, c39, c20, c13, c3, c4, c5, c19, c58, c42, c25, c21, c24, c28, c26, c6, c7, c8, by simp⟩
theorem fns_ok (f : Nat) (af : AFun) (h : fns f = some af) : chkFun Tryz.prog f af = true := tab_ok _ (look_mem h)
theorem run_ok (n : Nat) : Sound Tryz.prog (evf fns n) := evf_sound rfl fns_ok n
end Go.Proofs.YthahhonmkhafkaaGreatDoor.Am
