/-
  The code of the functions that the script laws reach, in the symbolic machine's form.
-/
import Derived.Test.YtalhhkjdlnamdaaDoorSi
import Derived.Test.YtalhhkjdlnamdaaDoorProg
import Derived.KernelRfl
/- The functions of the program, as the symbolic machine takes them. -/
namespace Go.Proofs
open Go Go.SX
set_option maxRecDepth 100000
-- quorate/quoratelaw23.ScriptJoins
def i3 : IF_ := ⟨108,
 .seq (.reg 0 [⟨(some 4), .mov (.const (.bool false)), none⟩])
 (.keep 324518553658426726783156020576243 (
 .seq (.seq (.reg 1 [⟨(some 18), .cal (.func 7) [], none⟩,
   ⟨(some 19), .un .not (.tmp 18), none⟩])
 (.keep 324518553658426726783156020314099 (
 .cnd (.tmp 19)
   (.seq (.reg 2 [⟨(some 4), .mov (.const (.bool false)), none⟩])
   (.keep 324518553658426726783156019789811 (
   .ret)))
   (.skip))))
 (.keep 324518553658426726783156019789811 (
 .seq (.seq (.reg 3 [⟨(some 20), .mov (.tmp 0), none⟩,
   ⟨(some 21), .blt .lenS [.tmp 20], none⟩,
   ⟨(some 22), .bin .gtr .scal 3 (.tmp 21) (.const (.int .i64 1000)), none⟩,
   ⟨(some 23), .mov (.tmp 22), none⟩,
   ⟨(some 24), .mov (.tmp 1), (some (23, false))⟩,
   ⟨(some 25), .blt .lenS [.tmp 24], (some (23, false))⟩,
   ⟨(some 26), .bin .gtr .scal 3 (.tmp 25) (.const (.int .i64 1000)), (some (23, false))⟩,
   ⟨(some 27), .pck (.tmp 23) (.const (.bool true)) (.tmp 26), none⟩])
 (.keep 324518553658426726783155886620659 (
 .cnd (.tmp 27)
   (.seq (.reg 4 [⟨(some 4), .mov (.const (.bool true)), none⟩])
   (.keep 324518553658426726783155752402931 (
   .ret)))
   (.skip))))
 (.keep 324518553658426726783155752402931 (
 .seq (.reg 5 [⟨(some 29), .mov (.tmp 0), none⟩,
   ⟨(some 30), .cal (.func 8) [.tmp 29], none⟩,
   ⟨(some 28), .mov (.tmp 30), none⟩,
   ⟨(some 31), .ext (.tmp 28) 0, none⟩,
   ⟨(some 32), .ext (.tmp 28) 1, none⟩,
   ⟨(some 5), .mov (.tmp 31), none⟩,
   ⟨(some 6), .mov (.tmp 32), none⟩])
 (.keep 324518553658426726783147430903795 (
 .seq (.reg 6 [⟨(some 34), .mov (.tmp 1), none⟩,
   ⟨(some 35), .cal (.func 8) [.tmp 34], none⟩,
   ⟨(some 33), .mov (.tmp 35), none⟩,
   ⟨(some 36), .ext (.tmp 33) 0, none⟩,
   ⟨(some 37), .ext (.tmp 33) 1, none⟩,
   ⟨(some 7), .mov (.tmp 36), none⟩,
   ⟨(some 8), .mov (.tmp 37), none⟩])
 (.keep 324518553658426726782881142931443 (
 .seq (.seq (.reg 7 [⟨(some 38), .mov (.tmp 6), none⟩,
   ⟨(some 39), .bin .neq .err 25 (.tmp 38) (.const (.nilIface)), none⟩,
   ⟨(some 40), .mov (.tmp 39), none⟩,
   ⟨(some 41), .mov (.tmp 8), (some (40, false))⟩,
   ⟨(some 42), .bin .neq .err 25 (.tmp 41) (.const (.nilIface)), (some (40, false))⟩,
   ⟨(some 43), .pck (.tmp 40) (.const (.bool true)) (.tmp 42), none⟩])
 (.keep 324518553658426726774359927815859 (
 .cnd (.tmp 43)
   (.seq (.reg 8 [⟨(some 4), .mov (.const (.bool true)), none⟩])
   (.keep 324518553658426726765563834793651 (
   .ret)))
   (.skip))))
 (.keep 324518553658426726765563834793651 (
 .seq (.reg 9 [⟨(some 45), .mov (.tmp 0), none⟩,
   ⟨(some 46), .mov (.tmp 1), none⟩,
   ⟨(some 47), .bin .add .scal 9 (.tmp 45) (.tmp 46), none⟩,
   ⟨(some 48), .cal (.func 8) [.tmp 47], none⟩,
   ⟨(some 44), .mov (.tmp 48), none⟩,
   ⟨(some 49), .ext (.tmp 44) 0, none⟩,
   ⟨(some 50), .ext (.tmp 44) 1, none⟩,
   ⟨(some 9), .mov (.tmp 49), none⟩,
   ⟨(some 10), .mov (.tmp 50), none⟩])
 (.keep 324518553658426724531356207152816 (
 .seq (.seq (.reg 10 [⟨(some 51), .mov (.tmp 10), none⟩,
   ⟨(some 52), .bin .neq .err 25 (.tmp 51) (.const (.nilIface)), none⟩,
   ⟨(some 53), .mov (.tmp 52), none⟩,
   ⟨(some 54), .mov (.tmp 9), (some (53, false))⟩,
   ⟨(some 55), .blt .lenSl [.tmp 54], (some (53, false))⟩,
   ⟨(some 56), .mov (.tmp 5), (some (53, false))⟩,
   ⟨(some 57), .blt .lenSl [.tmp 56], (some (53, false))⟩,
   ⟨(some 58), .mov (.tmp 7), (some (53, false))⟩,
   ⟨(some 59), .blt .lenSl [.tmp 58], (some (53, false))⟩,
   ⟨(some 60), .bin .add .scal 3 (.tmp 57) (.tmp 59), (some (53, false))⟩,
   ⟨(some 61), .bin .neq .scal 3 (.tmp 55) (.tmp 60), (some (53, false))⟩,
   ⟨(some 62), .pck (.tmp 53) (.const (.bool true)) (.tmp 61), none⟩])
 (.keep 324518553658422115097137593449136 (
 .cnd (.tmp 62)
   (.seq (.reg 11 [⟨(some 4), .mov (.const (.bool false)), none⟩])
   (.keep 324518553658417503411119166061232 (
   .ret)))
   (.skip))))
 (.keep 324518553658417503411119166061232 (
 .seq (.seq (.reg 12 [⟨(some 63), .mov (.tmp 9), none⟩,
   ⟨(some 64), .blt .lenSl [.tmp 63], none⟩,
   ⟨(some 65), .mov (.const (.int .i64 0)), none⟩])
 (.keep 324518553658417503411119166060720 (
 .block 0 (.loop 324518553658417503411119166060720 (
   .seq (.reg 13 [⟨(some 66), .bin .lss .scal 3 (.tmp 65) (.tmp 64), none⟩])
   (.keep 324518553658417503411119166060720 (
   .seq (.cnd (.tmp 66)
     (.skip)
     (.exit 0))
   (.keep 324518553658417503411119166060720 (
   .seq (.block 1 (.seq (.reg 14 [⟨(some 67), .mov (.tmp 65), none⟩,
     ⟨(some 68), .iad (.sl 6) (.tmp 63) (.tmp 65), none⟩,
     ⟨(some 69), .ld (.ag 6 [1, 1, 1, 1, 1, 1]) (.tmp 68), none⟩,
     ⟨(some 12), .alc (.cons 1 (.raw (.int .i64 0)) (.cons 1 (.raw (.int .i64 0)) (.cons 1 (.raw (.int .i64 0)) (.cons 1 (.raw (.slice none 0 0)) (.cons 1 (.raw (.slice none 0 0)) (.cons 1 (.raw (.slice none 0 0)) .nil)))))) 32, none⟩,
     ⟨(some 11), .mov (.tmp 67), none⟩,
     ⟨none, .st (.ag 6 [1, 1, 1, 1, 1, 1]) (.tmp 12) (.tmp 69), none⟩])
   (.keep 324518553658417503411119166060720 (
   .seq (.reg 15 [⟨(some 70), .bld (.cons 1 (.raw (.int .i64 0)) (.cons 1 (.raw (.int .i64 0)) (.cons 1 (.raw (.int .i64 0)) (.cons 1 (.raw (.slice none 0 0)) (.cons 1 (.raw (.slice none 0 0)) (.cons 1 (.raw (.slice none 0 0)) .nil)))))) [], none⟩,
     ⟨(some 13), .alc (.cons 1 (.raw (.int .i64 0)) (.cons 1 (.raw (.int .i64 0)) (.cons 1 (.raw (.int .i64 0)) (.cons 1 (.raw (.slice none 0 0)) (.cons 1 (.raw (.slice none 0 0)) (.cons 1 (.raw (.slice none 0 0)) .nil)))))) 32, none⟩,
     ⟨none, .st (.ag 6 [1, 1, 1, 1, 1, 1]) (.tmp 13) (.tmp 70), none⟩])
   (.keep 324518553658417503411119166060720 (
   .seq (.seq (.reg 16 [⟨(some 71), .mov (.tmp 11), none⟩,
     ⟨(some 72), .mov (.tmp 5), none⟩,
     ⟨(some 73), .blt .lenSl [.tmp 72], none⟩,
     ⟨(some 74), .bin .lss .scal 3 (.tmp 71) (.tmp 73), none⟩])
   (.keep 324518553658417503411119166060720 (
   .cnd (.tmp 74)
     (.reg 17 [⟨(some 75), .mov (.tmp 5), none⟩,
       ⟨(some 76), .mov (.tmp 11), none⟩,
       ⟨(some 77), .iad (.sl 6) (.tmp 75) (.tmp 76), none⟩,
       ⟨(some 78), .ld (.ag 6 [1, 1, 1, 1, 1, 1]) (.tmp 77), none⟩,
       ⟨none, .st (.ag 6 [1, 1, 1, 1, 1, 1]) (.tmp 13) (.tmp 78), none⟩])
     (.reg 18 [⟨(some 79), .mov (.tmp 7), none⟩,
       ⟨(some 80), .mov (.tmp 11), none⟩,
       ⟨(some 81), .mov (.tmp 5), none⟩,
       ⟨(some 82), .blt .lenSl [.tmp 81], none⟩,
       ⟨(some 83), .bin .sub .scal 3 (.tmp 80) (.tmp 82), none⟩,
       ⟨(some 84), .iad (.sl 6) (.tmp 79) (.tmp 83), none⟩,
       ⟨(some 85), .ld (.ag 6 [1, 1, 1, 1, 1, 1]) (.tmp 84), none⟩,
       ⟨none, .st (.ag 6 [1, 1, 1, 1, 1, 1]) (.tmp 13) (.tmp 85), none⟩]))))
   (.keep 324518553658417503411119166060720 (
   .seq (.reg 19 [⟨(some 87), .ld (.ag 6 [1, 1, 1, 1, 1, 1]) (.tmp 12), none⟩,
     ⟨(some 88), .cal (.func 9) [.tmp 87], none⟩,
     ⟨(some 86), .mov (.tmp 88), none⟩,
     ⟨(some 89), .ext (.tmp 86) 0, none⟩,
     ⟨(some 90), .ext (.tmp 86) 1, none⟩,
     ⟨(some 14), .mov (.tmp 89), none⟩,
     ⟨(some 15), .mov (.tmp 90), none⟩])
   (.keep 324518553658417503411119166060720 (
   .seq (.reg 20 [⟨(some 92), .ld (.ag 6 [1, 1, 1, 1, 1, 1]) (.tmp 13), none⟩,
     ⟨(some 93), .cal (.func 9) [.tmp 92], none⟩,
     ⟨(some 91), .mov (.tmp 93), none⟩,
     ⟨(some 94), .ext (.tmp 91) 0, none⟩,
     ⟨(some 95), .ext (.tmp 91) 1, none⟩,
     ⟨(some 16), .mov (.tmp 94), none⟩,
     ⟨(some 17), .mov (.tmp 95), none⟩])
   (.keep 324518553658417503411119166060720 (
   .seq (.reg 21 [⟨(some 96), .mov (.tmp 15), none⟩,
     ⟨(some 97), .bin .neq .err 25 (.tmp 96) (.const (.nilIface)), none⟩,
     ⟨(some 98), .mov (.tmp 97), none⟩,
     ⟨(some 99), .mov (.tmp 17), (some (98, false))⟩,
     ⟨(some 100), .bin .neq .err 25 (.tmp 99) (.const (.nilIface)), (some (98, false))⟩,
     ⟨(some 101), .pck (.tmp 98) (.const (.bool true)) (.tmp 100), none⟩,
     ⟨(some 102), .mov (.tmp 101), none⟩,
     ⟨(some 103), .mov (.tmp 14), (some (102, false))⟩,
     ⟨(some 104), .mov (.tmp 16), (some (102, false))⟩,
     ⟨(some 105), .bin .neq .scal 9 (.tmp 103) (.tmp 104), (some (102, false))⟩,
     ⟨(some 106), .pck (.tmp 102) (.const (.bool true)) (.tmp 105), none⟩])
   (.keep 324518553658417503411119166060720 (
   .cnd (.tmp 106)
     (.seq (.reg 22 [⟨(some 4), .mov (.const (.bool false)), none⟩])
     (.keep 324518553658417503411119166060720 (
     .ret)))
     (.skip)))))))))))))))
   (.keep 324518553658417503411119166060720 (
   .reg 23 [⟨(some 107), .bin .add .scal 3 (.tmp 65) (.const (.int .i64 1)), none⟩,
     ⟨(some 65), .mov (.tmp 107), none⟩])))))))))))
 (.keep 16 (
 .seq (.reg 24 [⟨(some 4), .mov (.const (.bool true)), none⟩])
 (.keep 16 (
 .ret)))))))))))))))))))),
 [.t 4]⟩
theorem c3 : trF Tryd.prog Tryd.f3 = some i3 := by kernel_rfl
theorem e3 : Ent Tryd.prog 3 := ent_of Tryd.func3 (by kernel_rfl) (by kernel_rfl)
-- quorate/quoratelaw23.ScriptAgain
def i4 : IF_ := ⟨33,
 .seq (.reg 0 [⟨(some 2), .mov (.const (.bool false)), none⟩])
 (.keep 8589934589 (
 .seq (.seq (.reg 1 [⟨(some 6), .cal (.func 7) [], none⟩,
   ⟨(some 7), .un .not (.tmp 6), none⟩])
 (.keep 8589934525 (
 .cnd (.tmp 7)
   (.seq (.reg 2 [⟨(some 2), .mov (.const (.bool false)), none⟩])
   (.keep 8589934397 (
   .ret)))
   (.skip))))
 (.keep 8589934397 (
 .seq (.seq (.reg 3 [⟨(some 8), .mov (.tmp 0), none⟩,
   ⟨(some 9), .blt .lenS [.tmp 8], none⟩,
   ⟨(some 10), .bin .gtr .scal 3 (.tmp 9) (.const (.int .i64 2000)), none⟩])
 (.keep 8589933629 (
 .cnd (.tmp 10)
   (.seq (.reg 4 [⟨(some 2), .mov (.const (.bool true)), none⟩])
   (.keep 8589932605 (
   .ret)))
   (.skip))))
 (.keep 8589932605 (
 .seq (.reg 5 [⟨(some 12), .mov (.tmp 0), none⟩,
   ⟨(some 13), .cal (.func 8) [.tmp 12], none⟩,
   ⟨(some 11), .mov (.tmp 13), none⟩,
   ⟨(some 14), .ext (.tmp 11) 0, none⟩,
   ⟨(some 15), .ext (.tmp 11) 1, none⟩,
   ⟨(some 3), .mov (.tmp 14), none⟩,
   ⟨(some 4), .mov (.tmp 15), none⟩])
 (.keep 8589869117 (
 .seq (.seq (.reg 6 [⟨(some 16), .mov (.tmp 4), none⟩,
   ⟨(some 17), .bin .neq .err 25 (.tmp 16) (.const (.nilIface)), none⟩])
 (.keep 8589803581 (
 .cnd (.tmp 17)
   (.seq (.reg 7 [⟨(some 18), .mov (.tmp 3), none⟩,
     ⟨(some 19), .blt .lenSl [.tmp 18], none⟩,
     ⟨(some 20), .bin .eql .scal 3 (.tmp 19) (.const (.int .i64 0)), none⟩,
     ⟨(some 2), .mov (.tmp 20), none⟩])
   (.keep 8587837501 (
   .ret)))
   (.skip))))
 (.keep 8587837501 (
 .seq (.reg 8 [⟨(some 22), .mov (.tmp 3), none⟩,
   ⟨(some 23), .cal (.func 10) [.tmp 22], none⟩,
   ⟨(some 21), .mov (.tmp 23), none⟩,
   ⟨(some 24), .ext (.tmp 21) 0, none⟩,
   ⟨(some 25), .ext (.tmp 21) 1, none⟩,
   ⟨(some 5), .mov (.tmp 24), none⟩,
   ⟨(some 4), .mov (.tmp 25), none⟩])
 (.keep 8522825781 (
 .seq (.reg 9 [⟨(some 26), .mov (.tmp 4), none⟩,
   ⟨(some 27), .bin .eql .err 25 (.tmp 26) (.const (.nilIface)), none⟩,
   ⟨(some 28), .mov (.tmp 27), none⟩,
   ⟨(some 29), .mov (.tmp 5), (some (28, true))⟩,
   ⟨(some 30), .mov (.tmp 0), (some (28, true))⟩,
   ⟨(some 31), .bin .eql .scal 9 (.tmp 29) (.tmp 30), (some (28, true))⟩,
   ⟨(some 32), .pck (.tmp 28) (.tmp 31) (.const (.bool false)), none⟩,
   ⟨(some 2), .mov (.tmp 32), none⟩])
 (.keep 4 (
 .ret)))))))))))))),
 [.t 2]⟩
theorem c4 : trF Tryd.prog Tryd.f4 = some i4 := by kernel_rfl
theorem e4 : Ent Tryd.prog 4 := ent_of Tryd.func4 (by kernel_rfl) (by kernel_rfl)
-- quorate/quoratelaw23.ScriptTexts
def i5 : IF_ := ⟨127,
 .seq (.reg 0 [⟨(some 2), .mov (.const (.bool false)), none⟩])
 (.keep 170141183460469231731687303715884105693 (
 .seq (.seq (.reg 1 [⟨(some 16), .cal (.func 7) [], none⟩,
   ⟨(some 17), .un .not (.tmp 16), none⟩])
 (.keep 170141183460469231731687303715884040157 (
 .cnd (.tmp 17)
   (.seq (.reg 2 [⟨(some 2), .mov (.const (.bool false)), none⟩])
   (.keep 170141183460469231731687303715883909085 (
   .ret)))
   (.skip))))
 (.keep 170141183460469231731687303715883909085 (
 .seq (.seq (.reg 3 [⟨(some 18), .mov (.tmp 0), none⟩,
   ⟨(some 19), .blt .lenSl [.tmp 18], none⟩,
   ⟨(some 20), .bin .gtr .scal 3 (.tmp 19) (.const (.int .i64 30)), none⟩])
 (.keep 170141183460469231731687303715883122653 (
 .cnd (.tmp 20)
   (.seq (.reg 4 [⟨(some 2), .mov (.const (.bool true)), none⟩])
   (.keep 170141183460469231731687303715882074077 (
   .ret)))
   (.skip))))
 (.keep 170141183460469231731687303715882074077 (
 .seq (.reg 5 [⟨(some 21), .bsl 40 (.ag 6 [1, 1, 1, 1, 1, 1]) 0 (.agg #[.int .i64 0, .int .i64 0, .int .i64 0, .slice none 0 0, .slice none 0 0, .slice none 0 0]) [], none⟩,
   ⟨(some 3), .mov (.tmp 21), none⟩])
 (.keep 170141183460469231731687303715879976925 (
 .seq (.reg 6 [⟨(some 4), .mov (.const (.bool true)), none⟩])
 (.keep 170141183460469231731687303715879976925 (
 .seq (.seq (.reg 7 [⟨(some 22), .mov (.tmp 0), none⟩,
   ⟨(some 23), .blt .lenSl [.tmp 22], none⟩,
   ⟨(some 24), .mov (.const (.int .i64 0)), none⟩])
 (.keep 170141183460469231731687303715879976925 (
 .block 0 (.loop 170141183460469231731687303715879976925 (
   .seq (.reg 8 [⟨(some 25), .bin .lss .scal 3 (.tmp 24) (.tmp 23), none⟩])
   (.keep 170141183460469231731687303715879976925 (
   .seq (.cnd (.tmp 25)
     (.skip)
     (.exit 0))
   (.keep 170141183460469231731687303715879976925 (
   .seq (.block 1 (.seq (.reg 9 [⟨(some 26), .iad (.sl 6) (.tmp 22) (.tmp 24), none⟩,
     ⟨(some 27), .ld (.ag 6 [1, 1, 1, 1, 1, 1]) (.tmp 26), none⟩,
     ⟨(some 6), .alc (.cons 1 (.raw (.int .i64 0)) (.cons 1 (.raw (.int .i64 0)) (.cons 1 (.raw (.int .i64 0)) (.cons 1 (.raw (.slice none 0 0)) (.cons 1 (.raw (.slice none 0 0)) (.cons 1 (.raw (.slice none 0 0)) .nil)))))) 32, none⟩,
     ⟨none, .st (.ag 6 [1, 1, 1, 1, 1, 1]) (.tmp 6) (.tmp 27), none⟩])
   (.keep 170141183460469231731687303715879976925 (
   .seq (.seq (.reg 10 [⟨(some 28), .fad 5 (.tmp 6), none⟩,
     ⟨(some 29), .ld .sc (.tmp 28), none⟩,
     ⟨(some 30), .blt .lenSl [.tmp 29], none⟩,
     ⟨(some 31), .bin .gtr .scal 3 (.tmp 30) (.const (.int .i64 200)), none⟩,
     ⟨(some 32), .mov (.tmp 31), none⟩,
     ⟨(some 33), .fad 3 (.tmp 6), (some (32, false))⟩,
     ⟨(some 34), .ld .sc (.tmp 33), (some (32, false))⟩,
     ⟨(some 35), .blt .lenSl [.tmp 34], (some (32, false))⟩,
     ⟨(some 36), .bin .gtr .scal 3 (.tmp 35) (.const (.int .i64 50)), (some (32, false))⟩,
     ⟨(some 37), .pck (.tmp 32) (.const (.bool true)) (.tmp 36), none⟩,
     ⟨(some 38), .mov (.tmp 37), none⟩,
     ⟨(some 39), .fad 4 (.tmp 6), (some (38, false))⟩,
     ⟨(some 40), .ld .sc (.tmp 39), (some (38, false))⟩,
     ⟨(some 41), .blt .lenSl [.tmp 40], (some (38, false))⟩,
     ⟨(some 42), .bin .gtr .scal 3 (.tmp 41) (.const (.int .i64 200)), (some (38, false))⟩,
     ⟨(some 43), .pck (.tmp 38) (.const (.bool true)) (.tmp 42), none⟩])
   (.keep 170141183460469231731687303715879976925 (
   .cnd (.tmp 43)
     (.seq (.reg 11 [⟨(some 2), .mov (.const (.bool true)), none⟩])
     (.keep 170141183460469231731687303715879976925 (
     .ret)))
     (.skip))))
   (.keep 170141183460469231731687303715879976925 (
   .seq (.reg 12 [⟨(some 44), .ld (.ag 6 [1, 1, 1, 1, 1, 1]) (.tmp 6), none⟩,
     ⟨(some 45), .cal (.func 11) [.tmp 44], none⟩,
     ⟨(some 7), .mov (.tmp 45), none⟩])
   (.keep 170141183460469231731687303715879976925 (
   .seq (.reg 13 [⟨(some 46), .mov (.tmp 4), none⟩,
     ⟨(some 47), .mov (.tmp 46), none⟩,
     ⟨(some 48), .mov (.tmp 7), (some (47, true))⟩,
     ⟨(some 49), .pck (.tmp 47) (.tmp 48) (.const (.bool false)), none⟩,
     ⟨(some 4), .mov (.tmp 49), none⟩])
   (.keep 170141183460469231731687303715879976925 (
   .seq (.reg 14 [⟨(some 50), .mov (.tmp 3), none⟩,
     ⟨(some 51), .ld (.ag 6 [1, 1, 1, 1, 1, 1]) (.tmp 6), none⟩,
     ⟨(some 52), .cal (.func 12) [.tmp 51], none⟩,
     ⟨(some 53), .bsl 40 (.ag 6 [1, 1, 1, 1, 1, 1]) 1 (.agg #[.int .i64 0, .int .i64 0, .int .i64 0, .slice none 0 0, .slice none 0 0, .slice none 0 0]) [(0, .tmp 52)], none⟩,
     ⟨(some 54), .blt (.app 6 40 96) [.tmp 50, .tmp 53], none⟩,
     ⟨(some 3), .mov (.tmp 54), none⟩])
   (.keep 170141183460469231731687303715879976925 (
   .seq (.reg 15 [⟨(some 56), .ld (.ag 6 [1, 1, 1, 1, 1, 1]) (.tmp 6), none⟩,
     ⟨(some 57), .cal (.func 9) [.tmp 56], none⟩,
     ⟨(some 55), .mov (.tmp 57), none⟩,
     ⟨(some 58), .ext (.tmp 55) 0, none⟩,
     ⟨(some 59), .ext (.tmp 55) 1, none⟩,
     ⟨(some 8), .mov (.tmp 58), none⟩,
     ⟨(some 9), .mov (.tmp 59), none⟩])
   (.keep 170141183460469231731687303715879976925 (
   .seq (.seq (.reg 16 [⟨(some 60), .mov (.tmp 7), none⟩,
     ⟨(some 61), .mov (.tmp 9), none⟩,
     ⟨(some 62), .bin .eql .err 25 (.tmp 61) (.const (.nilIface)), none⟩,
     ⟨(some 63), .bin .neq .bool 4 (.tmp 60) (.tmp 62), none⟩,
     ⟨(some 64), .mov (.tmp 63), none⟩,
     ⟨(some 65), .mov (.tmp 7), (some (64, false))⟩,
     ⟨(some 66), .un .not (.tmp 65), (some (64, false))⟩,
     ⟨(some 67), .mov (.tmp 66), (some (64, false))⟩,
     ⟨(some 68), .mov (.tmp 8), (some (67, true))⟩,
     ⟨(some 69), .bin .neq .scal 9 (.tmp 68) (.const (.string ⟨#[]⟩)), (some (67, true))⟩,
     ⟨(some 70), .mov (.tmp 69), (some (67, true))⟩,
     ⟨(some 71), .mov (.tmp 9), (some (70, false))⟩,
     ⟨(some 72), .cal (.func 13) [.tmp 71], (some (70, false))⟩,
     ⟨(some 73), .bin .neq .scal 3 (.tmp 72) (.const (.int .i64 4)), (some (70, false))⟩,
     ⟨(some 74), .pck (.tmp 70) (.const (.bool true)) (.tmp 73), (some (67, true))⟩,
     ⟨(some 75), .pck (.tmp 67) (.tmp 74) (.const (.bool false)), (some (64, false))⟩,
     ⟨(some 76), .pck (.tmp 64) (.const (.bool true)) (.tmp 75), none⟩])
   (.keep 170141183460469231731687303715879976925 (
   .cnd (.tmp 76)
     (.seq (.reg 17 [⟨(some 2), .mov (.const (.bool false)), none⟩])
     (.keep 170141183460469231731687303715879976925 (
     .ret)))
     (.skip))))
   (.keep 170141183460469231731687303715879976925 (
   .seq (.reg 18 [⟨(some 77), .mov (.tmp 7), none⟩])
   (.keep 170141183460469231731687303715879976925 (
   .cnd (.tmp 77)
     (.seq (.reg 19 [⟨(some 79), .mov (.tmp 8), none⟩,
       ⟨(some 80), .bin .add .scal 9 (.tmp 79) (.const (.string ⟨#[10]⟩)), none⟩,
       ⟨(some 81), .cal (.func 8) [.tmp 80], none⟩,
       ⟨(some 78), .mov (.tmp 81), none⟩,
       ⟨(some 82), .ext (.tmp 78) 0, none⟩,
       ⟨(some 83), .ext (.tmp 78) 1, none⟩,
       ⟨(some 10), .mov (.tmp 82), none⟩,
       ⟨(some 11), .mov (.tmp 83), none⟩])
     (.keep 170141183460469231731687303715879976925 (
     .seq (.reg 20 [⟨(some 84), .mov (.tmp 11), none⟩,
       ⟨(some 85), .bin .neq .err 25 (.tmp 84) (.const (.nilIface)), none⟩,
       ⟨(some 86), .mov (.tmp 85), none⟩,
       ⟨(some 87), .mov (.tmp 10), (some (86, false))⟩,
       ⟨(some 88), .mov (.tmp 3), (some (86, false))⟩,
       ⟨(some 89), .mov (.tmp 3), (some (86, false))⟩,
       ⟨(some 90), .blt .lenSl [.tmp 89], (some (86, false))⟩,
       ⟨(some 91), .bin .sub .scal 3 (.tmp 90) (.const (.int .i64 1)), (some (86, false))⟩,
       ⟨(some 92), .slc (.sl 6) (.tmp 88) (some (.tmp 91)) none none, (some (86, false))⟩,
       ⟨(some 93), .cal (.func 14) [.tmp 87, .tmp 92], (some (86, false))⟩,
       ⟨(some 94), .un .not (.tmp 93), (some (86, false))⟩,
       ⟨(some 95), .pck (.tmp 86) (.const (.bool true)) (.tmp 94), none⟩])
     (.keep 170141183460469231731687303715879976925 (
     .cnd (.tmp 95)
       (.seq (.reg 21 [⟨(some 2), .mov (.const (.bool false)), none⟩])
       (.keep 170141183460469231731687303715879976925 (
       .ret)))
       (.skip))))))
     (.skip)))))))))))))))))))
   (.keep 170141183460469231731687303715879976925 (
   .reg 22 [⟨(some 96), .bin .add .scal 3 (.tmp 24) (.const (.int .i64 1)), none⟩,
     ⟨(some 24), .mov (.tmp 96), none⟩])))))))))))
 (.keep 170141183302012906703158628528796266525 (
 .seq (.reg 23 [⟨(some 98), .mov (.tmp 0), none⟩,
   ⟨(some 99), .cal (.func 10) [.tmp 98], none⟩,
   ⟨(some 97), .mov (.tmp 99), none⟩,
   ⟨(some 100), .ext (.tmp 97) 0, none⟩,
   ⟨(some 101), .ext (.tmp 97) 1, none⟩,
   ⟨(some 12), .mov (.tmp 100), none⟩,
   ⟨(some 13), .mov (.tmp 101), none⟩])
 (.keep 170141178389866830818769697729071345692 (
 .seq (.seq (.reg 24 [⟨(some 102), .mov (.tmp 4), none⟩,
   ⟨(some 103), .un .not (.tmp 102), none⟩])
 (.keep 170141173319264429905852091742258524172 (
 .cnd (.tmp 103)
   (.seq (.reg 25 [⟨(some 104), .mov (.tmp 12), none⟩,
     ⟨(some 105), .bin .eql .scal 9 (.tmp 104) (.const (.string ⟨#[]⟩)), none⟩,
     ⟨(some 106), .mov (.tmp 105), none⟩,
     ⟨(some 107), .mov (.tmp 13), (some (106, true))⟩,
     ⟨(some 108), .cal (.func 13) [.tmp 107], (some (106, true))⟩,
     ⟨(some 109), .bin .eql .scal 3 (.tmp 108) (.const (.int .i64 4)), (some (106, true))⟩,
     ⟨(some 110), .pck (.tmp 106) (.tmp 109) (.const (.bool false)), none⟩,
     ⟨(some 2), .mov (.tmp 110), none⟩])
   (.keep 170138587312039964317873038467719557132 (
   .ret)))
   (.skip))))
 (.keep 170138587312039964317873038467719557132 (
 .seq (.reg 26 [⟨(some 112), .mov (.tmp 12), none⟩,
   ⟨(some 113), .cal (.func 8) [.tmp 112], none⟩,
   ⟨(some 111), .mov (.tmp 113), none⟩,
   ⟨(some 114), .ext (.tmp 111) 0, none⟩,
   ⟨(some 115), .ext (.tmp 111) 1, none⟩,
   ⟨(some 14), .mov (.tmp 114), none⟩,
   ⟨(some 15), .mov (.tmp 115), none⟩])
 (.keep 170058106710732674489630815774616641548 (
 .seq (.reg 27 [⟨(some 116), .mov (.tmp 13), none⟩,
   ⟨(some 117), .bin .eql .err 25 (.tmp 116) (.const (.nilIface)), none⟩,
   ⟨(some 118), .mov (.tmp 117), none⟩,
   ⟨(some 119), .mov (.tmp 15), (some (118, true))⟩,
   ⟨(some 120), .bin .eql .err 25 (.tmp 119) (.const (.nilIface)), (some (118, true))⟩,
   ⟨(some 121), .pck (.tmp 118) (.tmp 120) (.const (.bool false)), none⟩,
   ⟨(some 122), .mov (.tmp 121), none⟩,
   ⟨(some 123), .mov (.tmp 14), (some (122, true))⟩,
   ⟨(some 124), .mov (.tmp 3), (some (122, true))⟩,
   ⟨(some 125), .cal (.func 14) [.tmp 123, .tmp 124], (some (122, true))⟩,
   ⟨(some 126), .pck (.tmp 122) (.tmp 125) (.const (.bool false)), none⟩,
   ⟨(some 2), .mov (.tmp 126), none⟩])
 (.keep 4 (
 .ret)))))))))))))))))))),
 [.t 2]⟩
theorem c5 : trF Tryd.prog Tryd.f5 = some i5 := by kernel_rfl
theorem e5 : Ent Tryd.prog 5 := ent_of Tryd.func5 (by kernel_rfl) (by kernel_rfl)
-- quorate/quoratelaw23.ScriptLong
def i6 : IF_ := ⟨109,
 .seq (.reg 0 [⟨(some 2), .mov (.const (.bool false)), none⟩])
 (.keep 649037107316853453566312041150461 (
 .seq (.seq (.reg 1 [⟨(some 13), .cal (.func 7) [], none⟩,
   ⟨(some 14), .un .not (.tmp 13), none⟩])
 (.keep 649037107316853453566312041142269 (
 .cnd (.tmp 14)
   (.seq (.reg 2 [⟨(some 2), .mov (.const (.bool false)), none⟩])
   (.keep 649037107316853453566312041125885 (
   .ret)))
   (.skip))))
 (.keep 649037107316853453566312041125885 (
 .seq (.reg 3 [⟨(some 15), .mov (.tmp 0), none⟩,
   ⟨(some 16), .cvt (.int .u64) (.tmp 15), none⟩,
   ⟨(some 17), .bin .rem .scal 45 (.tmp 16) (.const (.int .u64 9)), none⟩,
   ⟨(some 18), .cvt (.int .i64) (.tmp 17), none⟩,
   ⟨(some 19), .bin .sub .scal 3 (.tmp 18) (.const (.int .i64 4)), none⟩,
   ⟨(some 0), .mov (.tmp 19), none⟩])
 (.keep 649037107316853453566312040110077 (
 .seq (.reg 4 [⟨(some 20), .bsl 32 (.ag 6 [1, 1, 1, 1, 1, 1]) 0 (.agg #[.int .i64 0, .int .i64 0, .int .i64 0, .slice none 0 0, .slice none 0 0, .slice none 0 0]) [], none⟩,
   ⟨(some 3), .mov (.tmp 20), none⟩])
 (.keep 649037107316853453566312039061501 (
 .seq (.reg 5 [⟨(some 4), .mov (.const (.int .i64 0)), none⟩])
 (.keep 649037107316853453566312039061501 (
 .seq (.block 0 (.loop 649037107316853453566312039061501 (
   .seq (.seq (.reg 6 [⟨(some 21), .mov (.tmp 4), none⟩,
     ⟨(some 22), .bin .add .scal 3 (.tmp 21) (.const (.int .i64 14)), none⟩,
     ⟨(some 23), .mov (.tmp 0), none⟩,
     ⟨(some 24), .bin .add .scal 3 (.const (.int .i64 65535)) (.tmp 23), none⟩,
     ⟨(some 25), .bin .lss .scal 3 (.tmp 22) (.tmp 24), none⟩])
   (.keep 649037107316853453566312039061501 (
   .cnd (.tmp 25)
     (.skip)
     (.exit 0))))
   (.keep 649037107316853453566312039061501 (
   .block 1 (.seq (.reg 7 [⟨(some 26), .mov (.tmp 3), none⟩,
     ⟨(some 27), .bld (.cons 1 (.raw (.int .i64 0)) (.cons 1 (.raw (.int .i64 0)) (.cons 1 (.raw (.int .i64 0)) (.cons 1 (.raw (.slice none 0 0)) (.cons 1 (.raw (.slice none 0 0)) (.cons 1 (.raw (.slice none 0 0)) .nil)))))) [(0, .sc, .const (.int .i64 4))], none⟩,
     ⟨(some 28), .bsl 32 (.ag 6 [1, 1, 1, 1, 1, 1]) 1 (.agg #[.int .i64 0, .int .i64 0, .int .i64 0, .slice none 0 0, .slice none 0 0, .slice none 0 0]) [(0, .tmp 27)], none⟩,
     ⟨(some 29), .blt (.app 6 32 96) [.tmp 26, .tmp 28], none⟩,
     ⟨(some 3), .mov (.tmp 29), none⟩])
   (.keep 649037107316853453566312039061501 (
   .reg 8 [⟨(some 30), .mov (.tmp 4), none⟩,
     ⟨(some 31), .bin .add .scal 3 (.tmp 30) (.const (.int .i64 7)), none⟩,
     ⟨(some 4), .mov (.tmp 31), none⟩]))))))))
 (.keep 649037107316853453566307746191357 (
 .seq (.reg 9 [⟨(some 32), .bld (.cons 1 (.raw (.int .i64 0)) (.cons 1 (.raw (.int .i64 0)) (.cons 1 (.raw (.int .i64 0)) (.cons 1 (.raw (.slice none 0 0)) (.cons 1 (.raw (.slice none 0 0)) (.cons 1 (.raw (.slice none 0 0)) .nil)))))) [(0, .sc, .const (.int .i64 2))], none⟩,
   ⟨(some 5), .alc (.cons 1 (.raw (.int .i64 0)) (.cons 1 (.raw (.int .i64 0)) (.cons 1 (.raw (.int .i64 0)) (.cons 1 (.raw (.slice none 0 0)) (.cons 1 (.raw (.slice none 0 0)) (.cons 1 (.raw (.slice none 0 0)) .nil)))))) 32, none⟩,
   ⟨none, .st (.ag 6 [1, 1, 1, 1, 1, 1]) (.tmp 5) (.tmp 32), none⟩])
 (.keep 649037107316853453566303451224061 (
 .seq (.reg 10 [⟨(some 33), .mov (.tmp 0), none⟩,
   ⟨(some 34), .bin .add .scal 3 (.const (.int .i64 65535)) (.tmp 33), none⟩,
   ⟨(some 35), .mov (.tmp 4), none⟩,
   ⟨(some 36), .bin .sub .scal 3 (.tmp 34) (.tmp 35), none⟩,
   ⟨(some 37), .bin .sub .scal 3 (.tmp 36) (.const (.int .i64 6)), none⟩,
   ⟨(some 6), .mov (.tmp 37), none⟩])
 (.keep 649037107316853453566037163251693 (
 .seq (.seq (.reg 11 [⟨(some 38), .mov (.tmp 6), none⟩,
   ⟨(some 39), .bin .lss .scal 3 (.tmp 38) (.const (.int .i64 1)), none⟩,
   ⟨(some 40), .mov (.tmp 39), none⟩,
   ⟨(some 41), .mov (.tmp 6), (some (40, false))⟩,
   ⟨(some 42), .bin .gtr .scal 3 (.tmp 41) (.const (.int .i64 8)), (some (40, false))⟩,
   ⟨(some 43), .pck (.tmp 40) (.const (.bool true)) (.tmp 42), none⟩])
 (.keep 649037107316853453557515948136429 (
 .cnd (.tmp 43)
   (.seq (.reg 12 [⟨(some 2), .mov (.const (.bool false)), none⟩])
   (.keep 649037107316853453548719855114221 (
   .ret)))
   (.skip))))
 (.keep 649037107316853453548719855114221 (
 .seq (.seq (.reg 13 [⟨(some 44), .mov (.tmp 6), none⟩,
   ⟨(some 45), .bin .gtr .scal 3 (.tmp 44) (.const (.int .i64 6)), none⟩])
 (.keep 649037107316853453531127669069805 (
 .cnd (.tmp 45)
   (.seq (.reg 14 [⟨(some 2), .mov (.const (.bool true)), none⟩])
   (.keep 649037107316853453495943296980973 (
   .ret)))
   (.skip))))
 (.keep 649037107316853453495943296980973 (
 .seq (.seq (.reg 15 [⟨(some 46), .mov (.tmp 6), none⟩,
   ⟨(some 47), .mov (.const (.int .i64 0)), none⟩])
 (.keep 649037107316853453495943296980909 (
 .block 2 (.loop 649037107316853453495943296980909 (
   .seq (.reg 16 [⟨(some 48), .bin .lss .scal 3 (.tmp 47) (.tmp 46), none⟩])
   (.keep 649037107316853453495943296980909 (
   .seq (.cnd (.tmp 48)
     (.skip)
     (.exit 2))
   (.keep 649037107316853453495943296980909 (
   .seq (.block 3 (.reg 17 [⟨(some 49), .fad 2 (.tmp 5), none⟩,
     ⟨(some 50), .ld .sc (.tmp 49), none⟩,
     ⟨(some 51), .bin .mul .scal 3 (.const (.int .i64 10)) (.tmp 50), none⟩,
     ⟨(some 52), .bin .add .scal 3 (.tmp 51) (.const (.int .i64 1)), none⟩,
     ⟨(some 53), .fad 2 (.tmp 5), none⟩,
     ⟨none, .st .sc (.tmp 53) (.tmp 52), none⟩]))
   (.keep 649037107316853453495943296980909 (
   .reg 18 [⟨(some 54), .bin .add .scal 3 (.tmp 47) (.const (.int .i64 1)), none⟩,
     ⟨(some 47), .mov (.tmp 54), none⟩])))))))))))
 (.keep 649037107316853417537515022194605 (
 .seq (.reg 19 [⟨(some 55), .mov (.tmp 3), none⟩,
   ⟨(some 56), .ld (.ag 6 [1, 1, 1, 1, 1, 1]) (.tmp 5), none⟩,
   ⟨(some 57), .bsl 32 (.ag 6 [1, 1, 1, 1, 1, 1]) 1 (.agg #[.int .i64 0, .int .i64 0, .int .i64 0, .slice none 0 0, .slice none 0 0, .slice none 0 0]) [(0, .tmp 56)], none⟩,
   ⟨(some 58), .blt (.app 6 32 96) [.tmp 55, .tmp 57], none⟩,
   ⟨(some 3), .mov (.tmp 58), none⟩])
 (.keep 649037107316852877105559737735053 (
 .seq (.reg 20 [⟨(some 60), .mov (.tmp 3), none⟩,
   ⟨(some 61), .cal (.func 10) [.tmp 60], none⟩,
   ⟨(some 59), .mov (.tmp 61), none⟩,
   ⟨(some 62), .ext (.tmp 59) 0, none⟩,
   ⟨(some 63), .ext (.tmp 59) 1, none⟩,
   ⟨(some 7), .mov (.tmp 62), none⟩,
   ⟨(some 8), .mov (.tmp 63), none⟩])
 (.keep 649037107316835006822238331606925 (
 .seq (.seq (.reg 21 [⟨(some 64), .mov (.tmp 0), none⟩,
   ⟨(some 65), .bin .gtr .scal 3 (.tmp 64) (.const (.int .i64 0)), none⟩])
 (.keep 649037107316816560078164622055309 (
 .cnd (.tmp 65)
   (.seq (.reg 22 [⟨(some 66), .mov (.tmp 7), none⟩,
     ⟨(some 67), .bin .eql .scal 9 (.tmp 66) (.const (.string ⟨#[]⟩)), none⟩,
     ⟨(some 68), .mov (.tmp 67), none⟩,
     ⟨(some 69), .mov (.tmp 8), (some (68, true))⟩,
     ⟨(some 70), .cal (.func 13) [.tmp 69], (some (68, true))⟩,
     ⟨(some 71), .bin .eql .scal 3 (.tmp 70) (.const (.int .i64 3)), (some (68, true))⟩,
     ⟨(some 72), .pck (.tmp 68) (.tmp 71) (.const (.bool false)), none⟩,
     ⟨(some 2), .mov (.tmp 72), none⟩])
   (.keep 649037107307408720600572750731149 (
   .ret)))
   (.skip))))
 (.keep 649037107307408720600572750731149 (
 .seq (.reg 23 [⟨(some 74), .mov (.tmp 7), none⟩,
   ⟨(some 75), .cal (.func 8) [.tmp 74], none⟩,
   ⟨(some 73), .mov (.tmp 75), none⟩,
   ⟨(some 76), .ext (.tmp 73) 0, none⟩,
   ⟨(some 77), .ext (.tmp 73) 1, none⟩,
   ⟨(some 9), .mov (.tmp 76), none⟩,
   ⟨(some 10), .mov (.tmp 77), none⟩])
 (.keep 649037107014621998662654747481997 (
 .seq (.reg 24 [⟨(some 79), .mov (.tmp 7), none⟩,
   ⟨(some 80), .bin .add .scal 9 (.tmp 79) (.const (.string ⟨#[116, 105, 99, 107, 32, 48, 10]⟩)), none⟩,
   ⟨(some 81), .cal (.func 8) [.tmp 80], none⟩,
   ⟨(some 78), .mov (.tmp 81), none⟩,
   ⟨(some 82), .ext (.tmp 78) 0, none⟩,
   ⟨(some 83), .ext (.tmp 78) 1, none⟩,
   ⟨(some 11), .mov (.tmp 82), none⟩,
   ⟨(some 12), .mov (.tmp 83), none⟩])
 (.keep 649037087974040339732245245859725 (
 .seq (.reg 25 [⟨(some 84), .mov (.tmp 8), none⟩,
   ⟨(some 85), .bin .eql .err 25 (.tmp 84) (.const (.nilIface)), none⟩,
   ⟨(some 86), .mov (.tmp 85), none⟩,
   ⟨(some 87), .mov (.tmp 10), (some (86, true))⟩,
   ⟨(some 88), .bin .eql .err 25 (.tmp 87) (.const (.nilIface)), (some (86, true))⟩,
   ⟨(some 89), .pck (.tmp 86) (.tmp 88) (.const (.bool false)), none⟩,
   ⟨(some 90), .mov (.tmp 89), none⟩,
   ⟨(some 91), .mov (.tmp 7), (some (90, true))⟩,
   ⟨(some 92), .blt .lenS [.tmp 91], (some (90, true))⟩,
   ⟨(some 93), .mov (.tmp 0), (some (90, true))⟩,
   ⟨(some 94), .bin .add .scal 3 (.const (.int .i64 65535)) (.tmp 93), (some (90, true))⟩,
   ⟨(some 95), .bin .eql .scal 3 (.tmp 92) (.tmp 94), (some (90, true))⟩,
   ⟨(some 96), .pck (.tmp 90) (.tmp 95) (.const (.bool false)), none⟩,
   ⟨(some 97), .mov (.tmp 96), none⟩,
   ⟨(some 98), .mov (.tmp 9), (some (97, true))⟩,
   ⟨(some 99), .blt .lenSl [.tmp 98], (some (97, true))⟩,
   ⟨(some 100), .mov (.tmp 3), (some (97, true))⟩,
   ⟨(some 101), .blt .lenSl [.tmp 100], (some (97, true))⟩,
   ⟨(some 102), .bin .eql .scal 3 (.tmp 99) (.tmp 101), (some (97, true))⟩,
   ⟨(some 103), .pck (.tmp 97) (.tmp 102) (.const (.bool false)), none⟩,
   ⟨(some 104), .mov (.tmp 103), none⟩,
   ⟨(some 105), .mov (.tmp 12), (some (104, true))⟩,
   ⟨(some 106), .cal (.func 13) [.tmp 105], (some (104, true))⟩,
   ⟨(some 107), .bin .eql .scal 3 (.tmp 106) (.const (.int .i64 3)), (some (104, true))⟩,
   ⟨(some 108), .pck (.tmp 104) (.tmp 107) (.const (.bool false)), none⟩,
   ⟨(some 2), .mov (.tmp 108), none⟩])
 (.keep 4 (
 .ret)))))))))))))))))))))))))))))))))),
 [.t 2]⟩
theorem c6 : trF Tryd.prog Tryd.f6 = some i6 := by kernel_rfl
theorem e6 : Ent Tryd.prog 6 := ent_of Tryd.func6 (by kernel_rfl) (by kernel_rfl)
-- quorate/quoratelaw23.alive
def i7 : IF_ := ⟨28,
 .seq (.reg 0 [⟨(some 0), .mov (.const (.bool false)), none⟩])
 (.keep 268435455 (
 .seq (.reg 1 [⟨(some 4), .cal (.func 8) [.const (.string ⟨#[116, 105, 99, 107, 32, 48, 10, 100, 101, 108, 105, 118, 101, 114, 32, 48, 10]⟩)], none⟩,
   ⟨(some 3), .mov (.tmp 4), none⟩,
   ⟨(some 5), .ext (.tmp 3) 0, none⟩,
   ⟨(some 6), .ext (.tmp 3) 1, none⟩,
   ⟨(some 1), .mov (.tmp 5), none⟩,
   ⟨(some 2), .mov (.tmp 6), none⟩])
 (.keep 268435335 (
 .seq (.reg 2 [⟨(some 7), .mov (.tmp 2), none⟩,
   ⟨(some 8), .bin .eql .err 25 (.tmp 7) (.const (.nilIface)), none⟩,
   ⟨(some 9), .mov (.tmp 8), none⟩,
   ⟨(some 10), .mov (.tmp 1), (some (9, true))⟩,
   ⟨(some 11), .blt .lenSl [.tmp 10], (some (9, true))⟩,
   ⟨(some 12), .bin .eql .scal 3 (.tmp 11) (.const (.int .i64 2)), (some (9, true))⟩,
   ⟨(some 13), .pck (.tmp 9) (.tmp 12) (.const (.bool false)), none⟩,
   ⟨(some 14), .mov (.tmp 13), none⟩,
   ⟨(some 15), .mov (.tmp 1), (some (14, true))⟩,
   ⟨(some 16), .iad (.sl 6) (.tmp 15) (.const (.int .i64 0)), (some (14, true))⟩,
   ⟨(some 17), .fad 0 (.tmp 16), (some (14, true))⟩,
   ⟨(some 18), .ld .sc (.tmp 17), (some (14, true))⟩,
   ⟨(some 19), .bin .eql .scal 3 (.tmp 18) (.const (.int .i64 4)), (some (14, true))⟩,
   ⟨(some 20), .pck (.tmp 14) (.tmp 19) (.const (.bool false)), none⟩,
   ⟨(some 21), .mov (.tmp 20), none⟩,
   ⟨(some 22), .mov (.tmp 1), (some (21, true))⟩,
   ⟨(some 23), .iad (.sl 6) (.tmp 22) (.const (.int .i64 1)), (some (21, true))⟩,
   ⟨(some 24), .fad 0 (.tmp 23), (some (21, true))⟩,
   ⟨(some 25), .ld .sc (.tmp 24), (some (21, true))⟩,
   ⟨(some 26), .bin .eql .scal 3 (.tmp 25) (.const (.int .i64 1)), (some (21, true))⟩,
   ⟨(some 27), .pck (.tmp 21) (.tmp 26) (.const (.bool false)), none⟩,
   ⟨(some 0), .mov (.tmp 27), none⟩])
 (.keep 1 (
 .ret)))))),
 [.t 0]⟩
theorem c7 : trF Tryd.prog Tryd.f7 = some i7 := by kernel_rfl
theorem e7 : Ent Tryd.prog 7 := ent_of Tryd.func7 (by kernel_rfl) (by kernel_rfl)
-- quorate/script.Parse
def i8 : IF_ := ⟨39,
 .seq (.reg 0 [⟨(some 2), .alc (.cons 1 (.raw (.slice none 0 0)) .nil) 23, none⟩,
   ⟨(some 3), .alc (.cons 1 (.raw (.nilIface)) .nil) 25, none⟩])
 (.keep 549755813885 (
 .seq (.seq (.reg 1 [⟨(some 10), .mov (.tmp 0), none⟩,
   ⟨(some 11), .blt .lenS [.tmp 10], none⟩,
   ⟨(some 12), .bin .gtr .scal 3 (.tmp 11) (.const (.int .i64 65535)), none⟩])
 (.keep 549755810813 (
 .cnd (.tmp 12)
   (.seq (.draw 2 [⟨(some 13), .ld .sc (.global 0), none⟩,
     ⟨none, .st .sc (.tmp 2) (.const (.slice none 0 0)), none⟩,
     ⟨none, .st .sc (.tmp 3) (.tmp 13), none⟩] [[], [], [0, 1, 0, 1]])
   (.keep 549755798525 (
   .ret)))
   (.skip))))
 (.keep 549755798525 (
 .seq (.reg 3 [⟨(some 4), .alc (.cons 1 (.raw (.slice none 0 0)) .nil) 23, none⟩])
 (.keep 549755798525 (
 .seq (.seq (.reg 4 [⟨(some 14), .mov (.tmp 0), none⟩,
   ⟨(some 15), .cal (.func 15) [.tmp 14], none⟩])
 (.keep 549755782140 (
 .block 0 (.rng (.tmp 15) [16] (.reg 5 [⟨(some 5), .mov (.tmp 16), none⟩]) (
   .block 1 (.seq (.reg 6 [⟨(some 18), .mov (.tmp 5), none⟩,
     ⟨(some 19), .cal (.func 16) [.tmp 18, .const (.string ⟨#[10]⟩)], none⟩,
     ⟨(some 17), .mov (.tmp 19), none⟩,
     ⟨(some 20), .ext (.tmp 17) 0, none⟩,
     ⟨(some 21), .ext (.tmp 17) 1, none⟩,
     ⟨(some 6), .mov (.tmp 20), none⟩,
     ⟨(some 7), .mov (.tmp 21), none⟩])
   (.keep 549755749372 (
   .seq (.reg 7 [⟨(some 23), .mov (.tmp 6), none⟩,
     ⟨(some 24), .cal (.func 17) [.tmp 23], none⟩,
     ⟨(some 22), .mov (.tmp 24), none⟩,
     ⟨(some 25), .ext (.tmp 22) 0, none⟩,
     ⟨(some 26), .ext (.tmp 22) 1, none⟩,
     ⟨(some 8), .alc (.cons 1 (.raw (.int .i64 0)) (.cons 1 (.raw (.int .i64 0)) (.cons 1 (.raw (.int .i64 0)) (.cons 1 (.raw (.slice none 0 0)) (.cons 1 (.raw (.slice none 0 0)) (.cons 1 (.raw (.slice none 0 0)) .nil)))))) 32, none⟩,
     ⟨none, .st (.ag 6 [1, 1, 1, 1, 1, 1]) (.tmp 8) (.tmp 25), none⟩,
     ⟨(some 9), .mov (.tmp 26), none⟩])
   (.keep 549755749372 (
   .seq (.seq (.reg 8 [⟨(some 27), .mov (.tmp 7), none⟩,
     ⟨(some 28), .un .not (.tmp 27), none⟩,
     ⟨(some 29), .mov (.tmp 28), none⟩,
     ⟨(some 30), .mov (.tmp 9), (some (29, false))⟩,
     ⟨(some 31), .un .not (.tmp 30), (some (29, false))⟩,
     ⟨(some 32), .pck (.tmp 29) (.const (.bool true)) (.tmp 31), none⟩])
   (.keep 549755749372 (
   .cnd (.tmp 32)
     (.seq (.draw 9 [⟨(some 33), .ld .sc (.global 1), none⟩,
       ⟨none, .st .sc (.tmp 2) (.const (.slice none 0 0)), none⟩,
       ⟨none, .st .sc (.tmp 3) (.tmp 33), none⟩] [[], [], [0, 1, 0, 1]])
     (.keep 549755749372 (
     .ret)))
     (.skip))))
   (.keep 549755749372 (
   .reg 10 [⟨(some 34), .ld .sc (.tmp 4), none⟩,
     ⟨(some 35), .ld (.ag 6 [1, 1, 1, 1, 1, 1]) (.tmp 8), none⟩,
     ⟨(some 36), .bsl 32 (.ag 6 [1, 1, 1, 1, 1, 1]) 1 (.agg #[.int .i64 0, .int .i64 0, .int .i64 0, .slice none 0 0, .slice none 0 0, .slice none 0 0]) [(0, .tmp 35)], none⟩,
     ⟨(some 37), .blt (.app 6 32 96) [.tmp 34, .tmp 36], none⟩,
     ⟨none, .st .sc (.tmp 4) (.tmp 37), none⟩]))))))))))))
 (.keep 274877906972 (
 .seq (.reg 11 [⟨(some 38), .ld .sc (.tmp 4), none⟩,
   ⟨none, .st .sc (.tmp 2) (.tmp 38), none⟩,
   ⟨none, .st .sc (.tmp 3) (.const (.nilIface)), none⟩])
 (.keep 12 (
 .ret)))))))))),
 [.c 2 .sc, .c 3 .sc]⟩
theorem c8 : trF Tryd.prog Tryd.f8 = some i8 := by kernel_rfl
theorem e8 : Ent Tryd.prog 8 := ent_of Tryd.func8 (by kernel_rfl) (by kernel_rfl)
-- quorate/script.Line
def i9 : IF_ := ⟨46,
 .seq (.reg 0 [⟨(some 1), .box (.ag 6 [1, 1, 1, 1, 1, 1]) 32 (.tmp 0), none⟩,
   ⟨(some 2), .mov (.const (.string ⟨#[]⟩)), none⟩,
   ⟨(some 3), .mov (.const (.nilIface)), none⟩])
 (.keep 70368744177662 (
 .seq (.reg 1 [⟨(some 10), .cal (.func 19) [], none⟩,
   ⟨(some 11), .mkf (.func 20) [] [.tmp 1], none⟩,
   ⟨(some 12), .cal (.func 18) [.tmp 10, .tmp 11], none⟩,
   ⟨(some 4), .mov (.tmp 12), none⟩])
 (.keep 70368744170494 (
 .seq (.seq (.reg 2 [⟨(some 13), .mov (.tmp 4), none⟩,
   ⟨(some 14), .bin .lss .scal 3 (.tmp 13) (.const (.int .i64 0)), none⟩])
 (.keep 70368744162302 (
 .cnd (.tmp 14)
   (.seq (.draw 3 [⟨(some 15), .ld .sc (.global 1), none⟩,
     ⟨(some 2), .mov (.const (.string ⟨#[]⟩)), none⟩,
     ⟨(some 3), .mov (.tmp 15), none⟩] [[], [], [0, 1, 0, 1]])
   (.keep 70368744113150 (
   .ret)))
   (.skip))))
 (.keep 70368744113150 (
 .seq (.reg 4 [⟨(some 16), .cal (.func 19) [], none⟩,
   ⟨(some 17), .mov (.tmp 4), none⟩,
   ⟨(some 18), .iad (.sl 3) (.tmp 16) (.tmp 17), none⟩,
   ⟨(some 19), .ld (.ag 3 [1, 1, 1]) (.tmp 18), none⟩,
   ⟨(some 5), .alc (.cons 1 (.raw (.int .i64 0)) (.cons 1 (.raw (.string ⟨#[]⟩)) (.cons 1 (.raw (.string ⟨#[]⟩)) .nil))) 57, none⟩,
   ⟨none, .st (.ag 3 [1, 1, 1]) (.tmp 5) (.tmp 19), none⟩])
 (.keep 70368743130094 (
 .seq (.reg 5 [⟨(some 20), .fad 1 (.tmp 5), none⟩,
   ⟨(some 21), .ld .sc (.tmp 20), none⟩,
   ⟨(some 6), .mov (.tmp 21), none⟩])
 (.keep 70368739984366 (
 .seq (.seq (.reg 6 [⟨(some 22), .fad 2 (.tmp 5), none⟩,
   ⟨(some 23), .ld .sc (.tmp 22), none⟩,
   ⟨(some 24), .blt .lenS [.tmp 23], none⟩,
   ⟨(some 25), .mov (.const (.int .i64 0)), none⟩])
 (.keep 70368727401454 (
 .block 0 (.loop 70368727401454 (
   .seq (.reg 7 [⟨(some 26), .bin .lss .scal 3 (.tmp 25) (.tmp 24), none⟩])
   (.keep 70368727401454 (
   .seq (.cnd (.tmp 26)
     (.skip)
     (.exit 0))
   (.keep 70368727401454 (
   .seq (.block 1 (.seq (.reg 8 [⟨(some 27), .mov (.tmp 25), none⟩,
     ⟨(some 7), .mov (.tmp 27), none⟩])
   (.keep 70368727401454 (
   .seq (.draw 9 [⟨(some 29), .ld (.ag 6 [1, 1, 1, 1, 1, 1]) (.tmp 1), none⟩,
     ⟨(some 30), .fad 2 (.tmp 5), none⟩,
     ⟨(some 31), .ld .sc (.tmp 30), none⟩,
     ⟨(some 32), .mov (.tmp 7), none⟩,
     ⟨(some 33), .idx .str (.tmp 31) (.tmp 32), none⟩,
     ⟨(some 34), .cal (.func 21) [.tmp 29, .tmp 33], none⟩,
     ⟨(some 28), .mov (.tmp 34), none⟩,
     ⟨(some 35), .ext (.tmp 28) 0, none⟩,
     ⟨(some 36), .ext (.tmp 28) 1, none⟩,
     ⟨(some 8), .mov (.tmp 35), none⟩,
     ⟨(some 9), .mov (.tmp 36), none⟩] [[], [], [1], [], [2, 3], [0, 4], [5], [6], [6], [7, 5, 0, 1, 2, 3, 4, 5, 6, 7], [8, 9, 0, 1, 2, 3, 4, 5, 6, 7, 8, 9]])
   (.keep 70368727401454 (
   .seq (.seq (.reg 10 [⟨(some 37), .mov (.tmp 9), none⟩,
     ⟨(some 38), .un .not (.tmp 37), none⟩])
   (.keep 70368727401454 (
   .cnd (.tmp 38)
     (.seq (.draw 11 [⟨(some 39), .ld .sc (.global 1), none⟩,
       ⟨(some 2), .mov (.const (.string ⟨#[]⟩)), none⟩,
       ⟨(some 3), .mov (.tmp 39), none⟩] [[], [], [0, 1, 0, 1]])
     (.keep 70368727401454 (
     .ret)))
     (.skip))))
   (.keep 70368727401454 (
   .reg 12 [⟨(some 40), .mov (.tmp 6), none⟩,
     ⟨(some 41), .mov (.tmp 8), none⟩,
     ⟨(some 42), .bin .add .scal 9 (.const (.string ⟨#[32]⟩)) (.tmp 41), none⟩,
     ⟨(some 43), .bin .add .scal 9 (.tmp 40) (.tmp 42), none⟩,
     ⟨(some 6), .mov (.tmp 43), none⟩]))))))))
   (.keep 70368727401454 (
   .reg 13 [⟨(some 44), .bin .add .scal 3 (.tmp 25) (.const (.int .i64 1)), none⟩,
     ⟨(some 25), .mov (.tmp 44), none⟩])))))))))))
 (.keep 35184372088908 (
 .seq (.reg 14 [⟨(some 45), .mov (.tmp 6), none⟩,
   ⟨(some 2), .mov (.tmp 45), none⟩,
   ⟨(some 3), .mov (.const (.nilIface)), none⟩])
 (.keep 12 (
 .ret)))))))))))))),
 [.t 2, .t 3]⟩
theorem c9 : trF Tryd.prog Tryd.f9 = some i9 := by kernel_rfl
theorem e9 : Ent Tryd.prog 9 := ent_of Tryd.func9 (by kernel_rfl) (by kernel_rfl)
-- quorate/script.Text
def i10 : IF_ := ⟨41,
 .seq (.reg 0 [⟨(some 2), .mov (.const (.string ⟨#[]⟩)), none⟩,
   ⟨(some 3), .mov (.const (.nilIface)), none⟩])
 (.keep 2130303778749 (
 .seq (.reg 1 [⟨(some 4), .alc (.cons 1 (.raw (.pointer none)) (.cons 1 (.raw (.slice none 0 0)) .nil)) 63, none⟩])
 (.keep 2130303778749 (
 .seq (.reg 2 [⟨(some 5), .mov (.const (.bool false)), none⟩])
 (.keep 2130303778749 (
 .seq (.seq (.reg 3 [⟨(some 10), .mov (.tmp 0), none⟩,
   ⟨(some 11), .blt .lenSl [.tmp 10], none⟩,
   ⟨(some 12), .mov (.const (.int .i64 0)), none⟩])
 (.keep 2130303778748 (
 .block 0 (.loop 2130303778748 (
   .seq (.reg 4 [⟨(some 13), .bin .lss .scal 3 (.tmp 12) (.tmp 11), none⟩])
   (.keep 2130303778748 (
   .seq (.cnd (.tmp 13)
     (.skip)
     (.exit 0))
   (.keep 2130303778748 (
   .seq (.block 1 (.seq (.reg 5 [⟨(some 14), .iad (.sl 6) (.tmp 10) (.tmp 12), none⟩,
     ⟨(some 15), .ld (.ag 6 [1, 1, 1, 1, 1, 1]) (.tmp 14), none⟩,
     ⟨(some 7), .alc (.cons 1 (.raw (.int .i64 0)) (.cons 1 (.raw (.int .i64 0)) (.cons 1 (.raw (.int .i64 0)) (.cons 1 (.raw (.slice none 0 0)) (.cons 1 (.raw (.slice none 0 0)) (.cons 1 (.raw (.slice none 0 0)) .nil)))))) 32, none⟩,
     ⟨none, .st (.ag 6 [1, 1, 1, 1, 1, 1]) (.tmp 7) (.tmp 15), none⟩])
   (.keep 2130303778748 (
   .seq (.reg 6 [⟨(some 17), .ld (.ag 6 [1, 1, 1, 1, 1, 1]) (.tmp 7), none⟩,
     ⟨(some 18), .cal (.func 9) [.tmp 17], none⟩,
     ⟨(some 16), .mov (.tmp 18), none⟩,
     ⟨(some 19), .ext (.tmp 16) 0, none⟩,
     ⟨(some 20), .ext (.tmp 16) 1, none⟩,
     ⟨(some 8), .mov (.tmp 19), none⟩,
     ⟨(some 9), .mov (.tmp 20), none⟩])
   (.keep 2130303778748 (
   .seq (.seq (.reg 7 [⟨(some 21), .mov (.tmp 9), none⟩,
     ⟨(some 22), .bin .neq .err 25 (.tmp 21) (.const (.nilIface)), none⟩])
   (.keep 2130303778748 (
   .cnd (.tmp 22)
     (.seq (.reg 8 [⟨(some 23), .mov (.tmp 9), none⟩,
       ⟨(some 2), .mov (.const (.string ⟨#[]⟩)), none⟩,
       ⟨(some 3), .mov (.tmp 23), none⟩])
     (.keep 2130303778748 (
     .ret)))
     (.skip))))
   (.keep 2130303778748 (
   .seq (.reg 9 [⟨(some 24), .mov (.tmp 5), none⟩,
     ⟨(some 25), .mov (.tmp 24), none⟩,
     ⟨(some 26), .mov (.tmp 8), (some (25, false))⟩,
     ⟨(some 27), .blt .lenS [.tmp 26], (some (25, false))⟩,
     ⟨(some 28), .cal (.func 22) [.tmp 4], (some (25, false))⟩,
     ⟨(some 29), .bin .sub .scal 3 (.const (.int .i64 65535)) (.tmp 28), (some (25, false))⟩,
     ⟨(some 30), .bin .geq .scal 3 (.tmp 27) (.tmp 29), (some (25, false))⟩,
     ⟨(some 31), .pck (.tmp 25) (.const (.bool true)) (.tmp 30), none⟩,
     ⟨(some 5), .mov (.tmp 31), none⟩])
   (.keep 2130303778748 (
   .seq (.reg 10 [⟨(some 32), .mov (.tmp 5), none⟩,
     ⟨(some 33), .un .not (.tmp 32), none⟩])
   (.keep 2130303778748 (
   .cnd (.tmp 33)
     (.reg 11 [⟨(some 34), .mov (.tmp 8), none⟩,
       ⟨(some 35), .bin .add .scal 9 (.tmp 34) (.const (.string ⟨#[10]⟩)), none⟩,
       ⟨(some 36), .cal (.func 23) [.tmp 4, .tmp 35], none⟩])
     (.skip)))))))))))))
   (.keep 2130303778748 (
   .reg 12 [⟨(some 37), .bin .add .scal 3 (.tmp 12) (.const (.int .i64 1)), none⟩,
     ⟨(some 12), .mov (.tmp 37), none⟩])))))))))))
 (.keep 1924145348668 (
 .seq (.seq (.reg 13 [⟨(some 38), .mov (.tmp 5), none⟩])
 (.keep 1924145348636 (
 .cnd (.tmp 38)
   (.seq (.draw 14 [⟨(some 39), .ld .sc (.global 0), none⟩,
     ⟨(some 2), .mov (.const (.string ⟨#[]⟩)), none⟩,
     ⟨(some 3), .mov (.tmp 39), none⟩] [[], [], [0, 1, 0, 1]])
   (.keep 1099511627804 (
   .ret)))
   (.skip))))
 (.keep 1099511627804 (
 .seq (.reg 15 [⟨(some 40), .cal (.func 24) [.tmp 4], none⟩,
   ⟨(some 2), .mov (.tmp 40), none⟩,
   ⟨(some 3), .mov (.const (.nilIface)), none⟩])
 (.keep 12 (
 .ret)))))))))))),
 [.t 2, .t 3]⟩
theorem c10 : trF Tryd.prog Tryd.f10 = some i10 := by kernel_rfl
theorem e10 : Ent Tryd.prog 10 := ent_of Tryd.func10 (by kernel_rfl) (by kernel_rfl)
-- quorate/quorateref23.Right
def i11 : IF_ := ⟨61,
 .seq (.reg 0 [⟨(some 1), .box (.ag 6 [1, 1, 1, 1, 1, 1]) 40 (.tmp 0), none⟩,
   ⟨(some 2), .mov (.const (.bool false)), none⟩])
 (.keep 2305843009213693942 (
 .seq (.reg 1 [⟨(some 5), .ld (.ag 6 [1, 1, 1, 1, 1, 1]) (.tmp 1), none⟩,
   ⟨(some 6), .cal (.func 12) [.tmp 5], none⟩,
   ⟨none, .st (.ag 6 [1, 1, 1, 1, 1, 1]) (.tmp 1) (.tmp 6), none⟩])
 (.keep 2305843009213693846 (
 .seq (.seq (.reg 2 [⟨(some 7), .fad 0 (.tmp 1), none⟩,
   ⟨(some 8), .ld .sc (.tmp 7), none⟩,
   ⟨(some 9), .bin .lss .scal 3 (.tmp 8) (.const (.int .i64 1)), none⟩,
   ⟨(some 10), .mov (.tmp 9), none⟩,
   ⟨(some 11), .fad 0 (.tmp 1), (some (10, false))⟩,
   ⟨(some 12), .ld .sc (.tmp 11), (some (10, false))⟩,
   ⟨(some 13), .bin .gtr .scal 3 (.tmp 12) (.const (.int .i64 10)), (some (10, false))⟩,
   ⟨(some 14), .pck (.tmp 10) (.const (.bool true)) (.tmp 13), none⟩,
   ⟨(some 15), .mov (.tmp 14), none⟩,
   ⟨(some 16), .fad 2 (.tmp 1), (some (15, false))⟩,
   ⟨(some 17), .ld .sc (.tmp 16), (some (15, false))⟩,
   ⟨(some 18), .bin .lss .scal 3 (.tmp 17) (.const (.int .i64 0)), (some (15, false))⟩,
   ⟨(some 19), .pck (.tmp 15) (.const (.bool true)) (.tmp 18), none⟩,
   ⟨(some 20), .mov (.tmp 19), none⟩,
   ⟨(some 21), .fad 2 (.tmp 1), (some (20, false))⟩,
   ⟨(some 22), .ld .sc (.tmp 21), (some (20, false))⟩,
   ⟨(some 23), .bin .gtr .scal 3 (.tmp 22) (.const (.int .i64 999999)), (some (20, false))⟩,
   ⟨(some 24), .pck (.tmp 20) (.const (.bool true)) (.tmp 23), none⟩,
   ⟨(some 25), .mov (.tmp 24), none⟩,
   ⟨(some 26), .fad 1 (.tmp 1), (some (25, false))⟩,
   ⟨(some 27), .ld .sc (.tmp 26), (some (25, false))⟩,
   ⟨(some 28), .bin .lss .scal 3 (.tmp 27) (.const (.int .i64 0)), (some (25, false))⟩,
   ⟨(some 29), .pck (.tmp 25) (.const (.bool true)) (.tmp 28), none⟩,
   ⟨(some 30), .mov (.tmp 29), none⟩,
   ⟨(some 31), .fad 1 (.tmp 1), (some (30, false))⟩,
   ⟨(some 32), .ld .sc (.tmp 31), (some (30, false))⟩,
   ⟨(some 33), .bin .gtr .scal 3 (.tmp 32) (.const (.int .i64 999999)), (some (30, false))⟩,
   ⟨(some 34), .pck (.tmp 30) (.const (.bool true)) (.tmp 33), none⟩,
   ⟨(some 35), .mov (.tmp 34), none⟩,
   ⟨(some 36), .fad 3 (.tmp 1), (some (35, false))⟩,
   ⟨(some 37), .ld .sc (.tmp 36), (some (35, false))⟩,
   ⟨(some 38), .blt .lenSl [.tmp 37], (some (35, false))⟩,
   ⟨(some 39), .bin .gtr .scal 3 (.tmp 38) (.const (.int .i64 7)), (some (35, false))⟩,
   ⟨(some 40), .pck (.tmp 35) (.const (.bool true)) (.tmp 39), none⟩,
   ⟨(some 41), .mov (.tmp 40), none⟩,
   ⟨(some 42), .fad 4 (.tmp 1), (some (41, false))⟩,
   ⟨(some 43), .ld .sc (.tmp 42), (some (41, false))⟩,
   ⟨(some 44), .blt .lenSl [.tmp 43], (some (41, false))⟩,
   ⟨(some 45), .bin .gtr .scal 3 (.tmp 44) (.const (.int .i64 64)), (some (41, false))⟩,
   ⟨(some 46), .pck (.tmp 41) (.const (.bool true)) (.tmp 45), none⟩])
 (.keep 2305772640469516310 (
 .cnd (.tmp 46)
   (.seq (.reg 3 [⟨(some 2), .mov (.const (.bool false)), none⟩])
   (.keep 2305702271725338646 (
   .ret)))
   (.skip))))
 (.keep 2305702271725338646 (
 .seq (.seq (.reg 4 [⟨(some 47), .fad 3 (.tmp 1), none⟩,
   ⟨(some 48), .ld .sc (.tmp 47), none⟩,
   ⟨(some 49), .blt .lenSl [.tmp 48], none⟩,
   ⟨(some 50), .mov (.const (.int .i64 0)), none⟩])
 (.keep 2305561534236983316 (
 .block 0 (.loop 2305561534236983316 (
   .seq (.reg 5 [⟨(some 51), .bin .lss .scal 3 (.tmp 50) (.tmp 49), none⟩])
   (.keep 2305561534236983316 (
   .seq (.cnd (.tmp 51)
     (.skip)
     (.exit 0))
   (.keep 2305561534236983316 (
   .seq (.block 1 (.seq (.reg 6 [⟨(some 52), .iad (.sl 1) (.tmp 48) (.tmp 50), none⟩,
     ⟨(some 53), .ld .sc (.tmp 52), none⟩,
     ⟨(some 4), .mov (.tmp 53), none⟩])
   (.keep 2305561534236983316 (
   .seq (.reg 7 [⟨(some 54), .mov (.tmp 4), none⟩,
     ⟨(some 55), .bin .lss .scal 3 (.tmp 54) (.const (.int .i64 0)), none⟩,
     ⟨(some 56), .mov (.tmp 55), none⟩,
     ⟨(some 57), .mov (.tmp 4), (some (56, false))⟩,
     ⟨(some 58), .bin .gtr .scal 3 (.tmp 57) (.const (.int .i64 999999)), (some (56, false))⟩,
     ⟨(some 59), .pck (.tmp 56) (.const (.bool true)) (.tmp 58), none⟩])
   (.keep 2305561534236983316 (
   .cnd (.tmp 59)
     (.seq (.reg 8 [⟨(some 2), .mov (.const (.bool false)), none⟩])
     (.keep 2305561534236983316 (
     .ret)))
     (.skip)))))))
   (.keep 2305561534236983316 (
   .reg 9 [⟨(some 60), .bin .add .scal 3 (.tmp 50) (.const (.int .i64 1)), none⟩,
     ⟨(some 50), .mov (.tmp 60), none⟩])))))))))))
 (.keep 4 (
 .seq (.reg 10 [⟨(some 2), .mov (.const (.bool true)), none⟩])
 (.keep 4 (
 .ret)))))))))),
 [.t 2]⟩
theorem c11 : trF Tryd.prog Tryd.f11 = some i11 := by kernel_rfl
theorem e11 : Ent Tryd.prog 11 := ent_of Tryd.func11 (by kernel_rfl) (by kernel_rfl)
-- quorate/quorateref23.Plain
def i12 : IF_ := ⟨66,
 .seq (.reg 0 [⟨(some 1), .box (.ag 6 [1, 1, 1, 1, 1, 1]) 40 (.tmp 0), none⟩,
   ⟨(some 2), .alc (.cons 1 (.raw (.int .i64 0)) (.cons 1 (.raw (.int .i64 0)) (.cons 1 (.raw (.int .i64 0)) (.cons 1 (.raw (.slice none 0 0)) (.cons 1 (.raw (.slice none 0 0)) (.cons 1 (.raw (.slice none 0 0)) .nil)))))) 40, none⟩])
 (.keep 73786976294838206462 (
 .seq (.reg 1 [⟨(some 4), .fad 0 (.tmp 1), none⟩,
   ⟨(some 5), .ld .sc (.tmp 4), none⟩,
   ⟨(some 6), .bld (.cons 1 (.raw (.int .i64 0)) (.cons 1 (.raw (.int .i64 0)) (.cons 1 (.raw (.int .i64 0)) (.cons 1 (.raw (.slice none 0 0)) (.cons 1 (.raw (.slice none 0 0)) (.cons 1 (.raw (.slice none 0 0)) .nil)))))) [(0, .sc, .tmp 5)], none⟩,
   ⟨(some 3), .alc (.cons 1 (.raw (.int .i64 0)) (.cons 1 (.raw (.int .i64 0)) (.cons 1 (.raw (.int .i64 0)) (.cons 1 (.raw (.slice none 0 0)) (.cons 1 (.raw (.slice none 0 0)) (.cons 1 (.raw (.slice none 0 0)) .nil)))))) 40, none⟩,
   ⟨none, .st (.ag 6 [1, 1, 1, 1, 1, 1]) (.tmp 3) (.tmp 6), none⟩])
 (.keep 73786976294838206350 (
 .seq (.seq (.reg 2 [⟨(some 7), .fad 0 (.tmp 1), none⟩,
   ⟨(some 8), .ld .sc (.tmp 7), none⟩])
 (.keep 73786976294838206222 (
 .block 0 (.seq (.seq (.reg 3 [⟨(some 10), .bin .eql .scal 3 (.tmp 8) (.const (.int .i64 1)), none⟩,
   ⟨(some 9), .mov (.tmp 10), none⟩])
 (.keep 73786976294838205198 (
 .cnd (.tmp 9)
   (.skip)
   (.seq (.reg 4 [⟨(some 11), .bin .eql .scal 3 (.tmp 8) (.const (.int .i64 2)), none⟩,
     ⟨(some 9), .mov (.tmp 11), none⟩])
   (.keep 73786976294838203150 (
   .cnd (.tmp 9)
     (.skip)
     (.reg 5 [⟨(some 12), .bin .eql .scal 3 (.tmp 8) (.const (.int .i64 3)), none⟩,
       ⟨(some 9), .mov (.tmp 12), none⟩])))))))
 (.keep 73786976294838199054 (
 .cnd (.tmp 9)
   (.reg 6 [⟨(some 13), .fad 2 (.tmp 1), none⟩,
     ⟨(some 14), .ld .sc (.tmp 13), none⟩,
     ⟨(some 15), .fad 2 (.tmp 3), none⟩,
     ⟨none, .st .sc (.tmp 15) (.tmp 14), none⟩])
   (.seq (.reg 7 [⟨(some 17), .bin .eql .scal 3 (.tmp 8) (.const (.int .i64 4)), none⟩,
     ⟨(some 16), .mov (.tmp 17), none⟩])
   (.keep 73786976294838010126 (
   .cnd (.tmp 16)
     (.reg 8 [⟨(some 18), .fad 1 (.tmp 1), none⟩,
       ⟨(some 19), .ld .sc (.tmp 18), none⟩,
       ⟨(some 20), .fad 1 (.tmp 3), none⟩,
       ⟨none, .st .sc (.tmp 20) (.tmp 19), none⟩])
     (.seq (.seq (.reg 9 [⟨(some 22), .bin .eql .scal 3 (.tmp 8) (.const (.int .i64 5)), none⟩,
       ⟨(some 21), .mov (.tmp 22), none⟩])
     (.keep 73786976294831915278 (
     .cnd (.tmp 21)
       (.skip)
       (.reg 10 [⟨(some 23), .bin .eql .scal 3 (.tmp 8) (.const (.int .i64 9)), none⟩,
         ⟨(some 21), .mov (.tmp 23), none⟩]))))
     (.keep 73786976294823526670 (
     .cnd (.tmp 21)
       (.draw 11 [⟨(some 24), .fad 1 (.tmp 1), none⟩,
         ⟨(some 25), .ld .sc (.tmp 24), none⟩,
         ⟨(some 26), .fad 5 (.tmp 1), none⟩,
         ⟨(some 27), .ld .sc (.tmp 26), none⟩,
         ⟨(some 28), .fad 1 (.tmp 3), none⟩,
         ⟨none, .st .sc (.tmp 28) (.tmp 25), none⟩,
         ⟨(some 29), .fad 5 (.tmp 3), none⟩,
         ⟨none, .st .sc (.tmp 29) (.tmp 27), none⟩] [[], [0], [], [2], [0, 1], [4, 1, 0, 1], [0, 1, 2, 3, 4, 5], [6, 3, 5, 0, 1, 2, 3, 4, 5]])
       (.seq (.reg 12 [⟨(some 31), .bin .eql .scal 3 (.tmp 8) (.const (.int .i64 6)), none⟩,
         ⟨(some 30), .mov (.tmp 31), none⟩])
       (.keep 73786976291616981262 (
       .cnd (.tmp 30)
         (.draw 13 [⟨(some 32), .fad 1 (.tmp 1), none⟩,
           ⟨(some 33), .ld .sc (.tmp 32), none⟩,
           ⟨(some 34), .fad 3 (.tmp 1), none⟩,
           ⟨(some 35), .ld .sc (.tmp 34), none⟩,
           ⟨(some 36), .fad 1 (.tmp 3), none⟩,
           ⟨none, .st .sc (.tmp 36) (.tmp 33), none⟩,
           ⟨(some 37), .fad 3 (.tmp 3), none⟩,
           ⟨none, .st .sc (.tmp 37) (.tmp 35), none⟩] [[], [0], [], [2], [0, 1], [4, 1, 0, 1], [0, 1, 2, 3, 4, 5], [6, 3, 5, 0, 1, 2, 3, 4, 5]])
         (.seq (.reg 14 [⟨(some 39), .bin .eql .scal 3 (.tmp 8) (.const (.int .i64 7)), none⟩,
           ⟨(some 38), .mov (.tmp 39), none⟩])
         (.keep 73786975470204485902 (
         .cnd (.tmp 38)
           (.draw 15 [⟨(some 40), .fad 1 (.tmp 1), none⟩,
             ⟨(some 41), .ld .sc (.tmp 40), none⟩,
             ⟨(some 42), .fad 2 (.tmp 1), none⟩,
             ⟨(some 43), .ld .sc (.tmp 42), none⟩,
             ⟨(some 44), .fad 1 (.tmp 3), none⟩,
             ⟨none, .st .sc (.tmp 44) (.tmp 41), none⟩,
             ⟨(some 45), .fad 2 (.tmp 3), none⟩,
             ⟨none, .st .sc (.tmp 45) (.tmp 43), none⟩] [[], [0], [], [2], [0, 1], [4, 1, 0, 1], [0, 1, 2, 3, 4, 5], [6, 3, 5, 0, 1, 2, 3, 4, 5]])
           (.seq (.reg 16 [⟨(some 47), .bin .eql .scal 3 (.tmp 8) (.const (.int .i64 8)), none⟩,
             ⟨(some 46), .mov (.tmp 47), none⟩])
           (.keep 73786765188605673742 (
           .cnd (.tmp 46)
             (.draw 17 [⟨(some 48), .fad 1 (.tmp 1), none⟩,
               ⟨(some 49), .ld .sc (.tmp 48), none⟩,
               ⟨(some 50), .fad 4 (.tmp 1), none⟩,
               ⟨(some 51), .ld .sc (.tmp 50), none⟩,
               ⟨(some 52), .fad 1 (.tmp 3), none⟩,
               ⟨none, .st .sc (.tmp 52) (.tmp 49), none⟩,
               ⟨(some 53), .fad 4 (.tmp 3), none⟩,
               ⟨none, .st .sc (.tmp 53) (.tmp 51), none⟩] [[], [0], [], [2], [0, 1], [4, 1, 0, 1], [0, 1, 2, 3, 4, 5], [6, 3, 5, 0, 1, 2, 3, 4, 5]])
             (.seq (.reg 18 [⟨(some 55), .bin .eql .scal 3 (.tmp 8) (.const (.int .i64 10)), none⟩,
               ⟨(some 54), .mov (.tmp 55), none⟩])
             (.keep 73732933099309760526 (
             .cnd (.tmp 54)
               (.draw 19 [⟨(some 56), .fad 1 (.tmp 1), none⟩,
                 ⟨(some 57), .ld .sc (.tmp 56), none⟩,
                 ⟨(some 58), .fad 2 (.tmp 1), none⟩,
                 ⟨(some 59), .ld .sc (.tmp 58), none⟩,
                 ⟨(some 60), .fad 5 (.tmp 1), none⟩,
                 ⟨(some 61), .ld .sc (.tmp 60), none⟩,
                 ⟨(some 62), .fad 1 (.tmp 3), none⟩,
                 ⟨none, .st .sc (.tmp 62) (.tmp 57), none⟩,
                 ⟨(some 63), .fad 2 (.tmp 3), none⟩,
                 ⟨none, .st .sc (.tmp 63) (.tmp 59), none⟩,
                 ⟨(some 64), .fad 5 (.tmp 3), none⟩,
                 ⟨none, .st .sc (.tmp 64) (.tmp 61), none⟩] [[], [0], [], [2], [], [4], [0, 1], [6, 1, 0, 1], [0, 1, 2, 3, 6, 7], [8, 3, 7, 0, 1, 2, 3, 6, 7], [0, 1, 2, 3, 4, 5, 6, 7, 8, 9], [10, 5, 9, 0, 1, 2, 3, 4, 5, 6, 7, 8, 9]])
               (.skip)))))))))))))))))))))))))
 (.keep 36893488147419103244 (
 .seq (.reg 20 [⟨(some 65), .ld (.ag 6 [1, 1, 1, 1, 1, 1]) (.tmp 3), none⟩,
   ⟨none, .st (.ag 6 [1, 1, 1, 1, 1, 1]) (.tmp 2) (.tmp 65), none⟩])
 (.keep 4 (
 .ret)))))))),
 [.c 2 (.ag 6 [1, 1, 1, 1, 1, 1])]⟩
theorem c12 : trF Tryd.prog Tryd.f12 = some i12 := by kernel_rfl
theorem e12 : Ent Tryd.prog 12 := ent_of Tryd.func12 (by kernel_rfl) (by kernel_rfl)
-- quorate/quoratenum.Num
def i13 : IF_ := ⟨40,
 .seq (.reg 0 [⟨(some 2), .mov (.const (.int .i64 0)), none⟩])
 (.keep 1099511627773 (
 .seq (.seq (.reg 1 [⟨(some 6), .mov (.tmp 0), none⟩,
   ⟨(some 7), .bin .eql .err 25 (.tmp 6) (.const (.nilIface)), none⟩])
 (.keep 1099511627709 (
 .cnd (.tmp 7)
   (.seq (.reg 2 [⟨(some 2), .mov (.const (.int .i64 0)), none⟩])
   (.keep 1099511627581 (
   .ret)))
   (.skip))))
 (.keep 1099511627581 (
 .seq (.reg 3 [⟨(some 8), .ld .sc (.global 2), none⟩,
   ⟨(some 9), .ld .sc (.global 3), none⟩,
   ⟨(some 10), .ld .sc (.global 0), none⟩,
   ⟨(some 11), .ld .sc (.global 1), none⟩,
   ⟨(some 12), .ld .sc (.global 4), none⟩,
   ⟨(some 13), .ld .sc (.global 5), none⟩,
   ⟨(some 14), .ld .sc (.global 6), none⟩,
   ⟨(some 15), .ld .sc (.global 7), none⟩,
   ⟨(some 16), .ld .sc (.global 8), none⟩,
   ⟨(some 17), .ld .sc (.global 9), none⟩,
   ⟨(some 18), .ld .sc (.global 10), none⟩,
   ⟨(some 19), .ld .sc (.global 11), none⟩,
   ⟨(some 20), .ld .sc (.global 12), none⟩,
   ⟨(some 21), .ld .sc (.global 13), none⟩,
   ⟨(some 22), .ld .sc (.global 14), none⟩,
   ⟨(some 23), .ld .sc (.global 15), none⟩,
   ⟨(some 24), .ld .sc (.global 16), none⟩,
   ⟨(some 25), .ld .sc (.global 17), none⟩,
   ⟨(some 26), .bsl 25 .sc 18 (.nilIface) [(0, .tmp 8), (1, .tmp 9), (2, .tmp 10), (3, .tmp 11), (4, .tmp 12), (5, .tmp 13), (6, .tmp 14), (7, .tmp 15), (8, .tmp 16), (9, .tmp 17), (10, .tmp 18), (11, .tmp 19), (12, .tmp 20), (13, .tmp 21), (14, .tmp 22), (15, .tmp 23), (16, .tmp 24), (17, .tmp 25)], none⟩,
   ⟨(some 3), .mov (.tmp 26), none⟩])
 (.keep 1099377410109 (
 .seq (.seq (.reg 4 [⟨(some 27), .mov (.tmp 3), none⟩,
   ⟨(some 28), .blt .lenSl [.tmp 27], none⟩,
   ⟨(some 29), .mov (.const (.int .i64 0)), none⟩])
 (.keep 1099377410101 (
 .block 0 (.loop 1099377410101 (
   .seq (.reg 5 [⟨(some 30), .bin .lss .scal 3 (.tmp 29) (.tmp 28), none⟩])
   (.keep 1099377410101 (
   .seq (.cnd (.tmp 30)
     (.skip)
     (.exit 0))
   (.keep 1099377410101 (
   .seq (.block 1 (.seq (.reg 6 [⟨(some 31), .mov (.tmp 29), none⟩,
     ⟨(some 32), .iad (.sl 1) (.tmp 27) (.tmp 29), none⟩,
     ⟨(some 33), .ld .sc (.tmp 32), none⟩,
     ⟨(some 4), .mov (.tmp 31), none⟩,
     ⟨(some 5), .mov (.tmp 33), none⟩])
   (.keep 1099377410101 (
   .seq (.reg 7 [⟨(some 34), .mov (.tmp 0), none⟩,
     ⟨(some 35), .mov (.tmp 5), none⟩,
     ⟨(some 36), .cal (.func 25) [.tmp 34, .tmp 35], none⟩])
   (.keep 1099377410101 (
   .cnd (.tmp 36)
     (.seq (.reg 8 [⟨(some 37), .mov (.tmp 4), none⟩,
       ⟨(some 38), .bin .add .scal 3 (.tmp 37) (.const (.int .i64 1)), none⟩,
       ⟨(some 2), .mov (.tmp 38), none⟩])
     (.keep 1099377410101 (
     .ret)))
     (.skip)))))))
   (.keep 1099377410101 (
   .reg 9 [⟨(some 39), .bin .add .scal 3 (.tmp 29) (.const (.int .i64 1)), none⟩,
     ⟨(some 29), .mov (.tmp 39), none⟩])))))))))))
 (.keep 4 (
 .seq (.reg 10 [⟨(some 2), .mov (.const (.int .i64 (-1))), none⟩])
 (.keep 4 (
 .ret)))))))))),
 [.t 2]⟩
theorem c13 : trF Tryd.prog Tryd.f13 = some i13 := by kernel_rfl
theorem e13 : Ent Tryd.prog 13 := ent_of Tryd.func13 (by kernel_rfl) (by kernel_rfl)
-- quorate/quoratelaw23.same
def i14 : IF_ := ⟨27,
 .seq (.reg 0 [⟨(some 4), .mov (.const (.bool false)), none⟩])
 (.keep 134217715 (
 .seq (.seq (.reg 1 [⟨(some 6), .mov (.tmp 0), none⟩,
   ⟨(some 7), .blt .lenSl [.tmp 6], none⟩,
   ⟨(some 8), .mov (.tmp 1), none⟩,
   ⟨(some 9), .blt .lenSl [.tmp 8], none⟩,
   ⟨(some 10), .bin .neq .scal 3 (.tmp 7) (.tmp 9), none⟩])
 (.keep 134216755 (
 .cnd (.tmp 10)
   (.seq (.reg 2 [⟨(some 4), .mov (.const (.bool false)), none⟩])
   (.keep 134215731 (
   .ret)))
   (.skip))))
 (.keep 134215731 (
 .seq (.seq (.reg 3 [⟨(some 11), .mov (.tmp 0), none⟩,
   ⟨(some 12), .blt .lenSl [.tmp 11], none⟩,
   ⟨(some 13), .mov (.const (.int .i64 0)), none⟩])
 (.keep 134213683 (
 .block 0 (.loop 134213683 (
   .seq (.reg 4 [⟨(some 14), .bin .lss .scal 3 (.tmp 13) (.tmp 12), none⟩])
   (.keep 134213683 (
   .seq (.cnd (.tmp 14)
     (.skip)
     (.exit 0))
   (.keep 134213683 (
   .seq (.block 1 (.seq (.reg 5 [⟨(some 15), .mov (.tmp 13), none⟩,
     ⟨(some 5), .mov (.tmp 15), none⟩])
   (.keep 134213683 (
   .seq (.draw 6 [⟨(some 16), .mov (.tmp 0), none⟩,
     ⟨(some 17), .mov (.tmp 5), none⟩,
     ⟨(some 18), .iad (.sl 6) (.tmp 16) (.tmp 17), none⟩,
     ⟨(some 19), .ld (.ag 6 [1, 1, 1, 1, 1, 1]) (.tmp 18), none⟩,
     ⟨(some 20), .mov (.tmp 1), none⟩,
     ⟨(some 21), .mov (.tmp 5), none⟩,
     ⟨(some 22), .iad (.sl 6) (.tmp 20) (.tmp 21), none⟩,
     ⟨(some 23), .ld (.ag 6 [1, 1, 1, 1, 1, 1]) (.tmp 22), none⟩,
     ⟨(some 24), .cal (.func 26) [.tmp 19, .tmp 23], none⟩,
     ⟨(some 25), .un .not (.tmp 24), none⟩] [[], [], [0, 1], [2], [], [], [4, 5], [6], [3, 7], [8]])
   (.keep 134213683 (
   .cnd (.tmp 25)
     (.seq (.reg 7 [⟨(some 4), .mov (.const (.bool false)), none⟩])
     (.keep 134213683 (
     .ret)))
     (.skip)))))))
   (.keep 134213683 (
   .reg 8 [⟨(some 26), .bin .add .scal 3 (.tmp 13) (.const (.int .i64 1)), none⟩,
     ⟨(some 13), .mov (.tmp 26), none⟩])))))))))))
 (.keep 16 (
 .seq (.reg 9 [⟨(some 4), .mov (.const (.bool true)), none⟩])
 (.keep 16 (
 .ret)))))))),
 [.t 4]⟩
theorem c14 : trF Tryd.prog Tryd.f14 = some i14 := by kernel_rfl
theorem e14 : Ent Tryd.prog 14 := ent_of Tryd.func14 (by kernel_rfl) (by kernel_rfl)
-- strings.Lines
def i15 : IF_ := ⟨4,
 .seq (.reg 0 [⟨(some 1), .box .sc 9 (.tmp 0), none⟩,
   ⟨(some 2), .mov (.const (.nilFunc)), none⟩])
 (.keep 14 (
 .seq (.reg 1 [⟨(some 3), .mkf (.func 27) [] [.tmp 1], none⟩,
   ⟨(some 2), .mov (.tmp 3), none⟩])
 (.keep 4 (
 .ret)))),
 [.t 2]⟩
theorem c15 : trF Tryd.prog Tryd.f15 = some i15 := by kernel_rfl
theorem e15 : Ent Tryd.prog 15 := ent_of Tryd.func15 (by kernel_rfl) (by kernel_rfl)
-- quorate/script.op
def i17 : IF_ := ⟨57,
 .seq (.reg 0 [⟨(some 2), .alc (.cons 1 (.raw (.int .i64 0)) (.cons 1 (.raw (.int .i64 0)) (.cons 1 (.raw (.int .i64 0)) (.cons 1 (.raw (.slice none 0 0)) (.cons 1 (.raw (.slice none 0 0)) (.cons 1 (.raw (.slice none 0 0)) .nil)))))) 32, none⟩,
   ⟨(some 3), .mov (.const (.bool false)), none⟩])
 (.keep 144115188075855837 (
 .seq (.reg 1 [⟨(some 9), .mov (.tmp 0), none⟩,
   ⟨(some 10), .cal (.func 30) [.tmp 9, .const (.string ⟨#[32]⟩)], none⟩,
   ⟨(some 4), .mov (.tmp 10), none⟩])
 (.keep 144115188075854300 (
 .seq (.seq (.reg 2 [⟨(some 11), .cal (.func 19) [], none⟩,
   ⟨(some 12), .blt .lenSl [.tmp 11], none⟩,
   ⟨(some 13), .mov (.const (.int .i64 0)), none⟩])
 (.keep 144115188075854300 (
 .block 0 (.loop 144115188075854300 (
   .seq (.reg 3 [⟨(some 14), .bin .lss .scal 3 (.tmp 13) (.tmp 12), none⟩])
   (.keep 144115188075854300 (
   .seq (.cnd (.tmp 14)
     (.skip)
     (.exit 0))
   (.keep 144115188075854300 (
   .seq (.block 1 (.seq (.reg 4 [⟨(some 15), .iad (.sl 3) (.tmp 11) (.tmp 13), none⟩,
     ⟨(some 16), .ld (.ag 3 [1, 1, 1]) (.tmp 15), none⟩,
     ⟨(some 6), .alc (.cons 1 (.raw (.int .i64 0)) (.cons 1 (.raw (.string ⟨#[]⟩)) (.cons 1 (.raw (.string ⟨#[]⟩)) .nil))) 57, none⟩,
     ⟨none, .st (.ag 3 [1, 1, 1]) (.tmp 6) (.tmp 16), none⟩])
   (.keep 144115188075854300 (
   .seq (.seq (.draw 5 [⟨(some 17), .mov (.tmp 4), none⟩,
     ⟨(some 18), .iad (.sl 1) (.tmp 17) (.const (.int .i64 0)), none⟩,
     ⟨(some 19), .ld .sc (.tmp 18), none⟩,
     ⟨(some 20), .fad 1 (.tmp 6), none⟩,
     ⟨(some 21), .ld .sc (.tmp 20), none⟩,
     ⟨(some 22), .bin .neq .scal 9 (.tmp 19) (.tmp 21), none⟩,
     ⟨(some 23), .mov (.tmp 22), none⟩,
     ⟨(some 24), .mov (.tmp 4), (some (23, false))⟩,
     ⟨(some 25), .blt .lenSl [.tmp 24], (some (23, false))⟩,
     ⟨(some 26), .fad 2 (.tmp 6), (some (23, false))⟩,
     ⟨(some 27), .ld .sc (.tmp 26), (some (23, false))⟩,
     ⟨(some 28), .blt .lenS [.tmp 27], (some (23, false))⟩,
     ⟨(some 29), .bin .add .scal 3 (.const (.int .i64 1)) (.tmp 28), (some (23, false))⟩,
     ⟨(some 30), .bin .neq .scal 3 (.tmp 25) (.tmp 29), (some (23, false))⟩,
     ⟨(some 31), .pck (.tmp 23) (.const (.bool true)) (.tmp 30), none⟩] [[], [0], [1], [], [3], [2, 4], [5], [6], [7, 6], [6], [9, 6], [10, 6], [11, 6], [8, 12, 6], [6, 13]])
   (.keep 144115188075854300 (
   .cnd (.tmp 31)
     (.exit 1)
     (.skip))))
   (.keep 144115188075854300 (
   .seq (.reg 6 [⟨(some 32), .fad 0 (.tmp 6), none⟩,
     ⟨(some 33), .ld .sc (.tmp 32), none⟩,
     ⟨(some 34), .bld (.cons 1 (.raw (.int .i64 0)) (.cons 1 (.raw (.int .i64 0)) (.cons 1 (.raw (.int .i64 0)) (.cons 1 (.raw (.slice none 0 0)) (.cons 1 (.raw (.slice none 0 0)) (.cons 1 (.raw (.slice none 0 0)) .nil)))))) [(0, .sc, .tmp 33)], none⟩,
     ⟨(some 7), .alc (.cons 1 (.raw (.int .i64 0)) (.cons 1 (.raw (.int .i64 0)) (.cons 1 (.raw (.int .i64 0)) (.cons 1 (.raw (.slice none 0 0)) (.cons 1 (.raw (.slice none 0 0)) (.cons 1 (.raw (.slice none 0 0)) .nil)))))) 32, none⟩,
     ⟨none, .st (.ag 6 [1, 1, 1, 1, 1, 1]) (.tmp 7) (.tmp 34), none⟩])
   (.keep 144115188075854300 (
   .seq (.seq (.reg 7 [⟨(some 35), .fad 2 (.tmp 6), none⟩,
     ⟨(some 36), .ld .sc (.tmp 35), none⟩,
     ⟨(some 37), .blt .lenS [.tmp 36], none⟩,
     ⟨(some 38), .mov (.const (.int .i64 0)), none⟩])
   (.keep 144115188075854300 (
   .block 2 (.loop 144115188075854300 (
     .seq (.reg 8 [⟨(some 39), .bin .lss .scal 3 (.tmp 38) (.tmp 37), none⟩])
     (.keep 144115188075854300 (
     .seq (.cnd (.tmp 39)
       (.skip)
       (.exit 2))
     (.keep 144115188075854300 (
     .seq (.block 3 (.seq (.reg 9 [⟨(some 40), .mov (.tmp 38), none⟩,
       ⟨(some 8), .mov (.tmp 40), none⟩])
     (.keep 144115188075854300 (
     .seq (.draw 10 [⟨(some 41), .fad 2 (.tmp 6), none⟩,
       ⟨(some 42), .ld .sc (.tmp 41), none⟩,
       ⟨(some 43), .mov (.tmp 8), none⟩,
       ⟨(some 44), .idx .str (.tmp 42) (.tmp 43), none⟩,
       ⟨(some 45), .mov (.tmp 4), none⟩,
       ⟨(some 46), .mov (.tmp 8), none⟩,
       ⟨(some 47), .bin .add .scal 3 (.tmp 46) (.const (.int .i64 1)), none⟩,
       ⟨(some 48), .iad (.sl 1) (.tmp 45) (.tmp 47), none⟩,
       ⟨(some 49), .ld .sc (.tmp 48), none⟩,
       ⟨(some 50), .cal (.func 31) [.tmp 7, .tmp 44, .tmp 49], none⟩,
       ⟨(some 51), .un .not (.tmp 50), none⟩] [[], [0], [], [1, 2], [], [], [5], [4, 6], [7], [3, 8], [9]])
     (.keep 144115188075854300 (
     .cnd (.tmp 51)
       (.seq (.reg 11 [⟨(some 52), .ld (.ag 6 [1, 1, 1, 1, 1, 1]) (.tmp 7), none⟩,
         ⟨none, .st (.ag 6 [1, 1, 1, 1, 1, 1]) (.tmp 2) (.tmp 52), none⟩,
         ⟨(some 3), .mov (.const (.bool false)), none⟩])
       (.keep 144115188075854300 (
       .ret)))
       (.skip)))))))
     (.keep 144115188075854300 (
     .reg 12 [⟨(some 53), .bin .add .scal 3 (.tmp 38) (.const (.int .i64 1)), none⟩,
       ⟨(some 38), .mov (.tmp 53), none⟩])))))))))))
   (.keep 144115188075854300 (
   .seq (.reg 13 [⟨(some 54), .ld (.ag 6 [1, 1, 1, 1, 1, 1]) (.tmp 7), none⟩,
     ⟨none, .st (.ag 6 [1, 1, 1, 1, 1, 1]) (.tmp 2) (.tmp 54), none⟩,
     ⟨(some 3), .mov (.const (.bool true)), none⟩])
   (.keep 144115188075854300 (
   .ret))))))))))))
   (.keep 144115188075854300 (
   .reg 14 [⟨(some 55), .bin .add .scal 3 (.tmp 13) (.const (.int .i64 1)), none⟩,
     ⟨(some 13), .mov (.tmp 55), none⟩])))))))))))
 (.keep 72057594037927948 (
 .seq (.reg 15 [⟨(some 56), .bld (.cons 1 (.raw (.int .i64 0)) (.cons 1 (.raw (.int .i64 0)) (.cons 1 (.raw (.int .i64 0)) (.cons 1 (.raw (.slice none 0 0)) (.cons 1 (.raw (.slice none 0 0)) (.cons 1 (.raw (.slice none 0 0)) .nil)))))) [], none⟩,
   ⟨none, .st (.ag 6 [1, 1, 1, 1, 1, 1]) (.tmp 2) (.tmp 56), none⟩,
   ⟨(some 3), .mov (.const (.bool false)), none⟩])
 (.keep 12 (
 .ret)))))))),
 [.c 2 (.ag 6 [1, 1, 1, 1, 1, 1]), .t 3]⟩
theorem c17 : trF Tryd.prog Tryd.f17 = some i17 := by kernel_rfl
theorem e17 : Ent Tryd.prog 17 := ent_of Tryd.func17 (by kernel_rfl) (by kernel_rfl)
-- slices.IndexFunc[[]quorate/script.form,quorate/script.form]
def i18 : IF_ := ⟨19,
 .seq (.reg 0 [⟨(some 4), .mov (.const (.int .i64 0)), none⟩])
 (.keep 524275 (
 .seq (.seq (.reg 1 [⟨(some 6), .mov (.tmp 0), none⟩,
   ⟨(some 7), .blt .lenSl [.tmp 6], none⟩,
   ⟨(some 8), .mov (.const (.int .i64 0)), none⟩])
 (.keep 524211 (
 .block 0 (.loop 524211 (
   .seq (.reg 2 [⟨(some 9), .bin .lss .scal 3 (.tmp 8) (.tmp 7), none⟩])
   (.keep 524211 (
   .seq (.cnd (.tmp 9)
     (.skip)
     (.exit 0))
   (.keep 524211 (
   .seq (.block 1 (.seq (.reg 3 [⟨(some 10), .mov (.tmp 8), none⟩,
     ⟨(some 5), .mov (.tmp 10), none⟩])
   (.keep 524211 (
   .seq (.reg 4 [⟨(some 11), .mov (.tmp 1), none⟩,
     ⟨(some 12), .mov (.tmp 0), none⟩,
     ⟨(some 13), .mov (.tmp 5), none⟩,
     ⟨(some 14), .iad (.sl 3) (.tmp 12) (.tmp 13), none⟩,
     ⟨(some 15), .ld (.ag 3 [1, 1, 1]) (.tmp 14), none⟩,
     ⟨(some 16), .cal (.tmp 11) [.tmp 15], none⟩])
   (.keep 524211 (
   .cnd (.tmp 16)
     (.seq (.reg 5 [⟨(some 17), .mov (.tmp 5), none⟩,
       ⟨(some 4), .mov (.tmp 17), none⟩])
     (.keep 524211 (
     .ret)))
     (.skip)))))))
   (.keep 524211 (
   .reg 6 [⟨(some 18), .bin .add .scal 3 (.tmp 8) (.const (.int .i64 1)), none⟩,
     ⟨(some 8), .mov (.tmp 18), none⟩])))))))))))
 (.keep 16 (
 .seq (.reg 7 [⟨(some 4), .mov (.const (.int .i64 (-1))), none⟩])
 (.keep 16 (
 .ret)))))),
 [.t 4]⟩
theorem c18 : trF Tryd.prog Tryd.f18 = some i18 := by kernel_rfl
theorem e18 : Ent Tryd.prog 18 := ent_of Tryd.func18 (by kernel_rfl) (by kernel_rfl)
-- quorate/script.forms
def i19 : IF_ := ⟨12,
 .seq (.reg 0 [⟨(some 0), .mov (.const (.slice none 0 0)), none⟩])
 (.keep 4095 (
 .seq (.reg 1 [⟨(some 1), .bld (.cons 1 (.raw (.int .i64 0)) (.cons 1 (.raw (.string ⟨#[]⟩)) (.cons 1 (.raw (.string ⟨#[]⟩)) .nil))) [(0, .sc, .const (.int .i64 1)), (1, .sc, .const (.string ⟨#[100, 101, 108, 105, 118, 101, 114]⟩)), (2, .sc, .const (.string ⟨#[110]⟩))], none⟩,
   ⟨(some 2), .bld (.cons 1 (.raw (.int .i64 0)) (.cons 1 (.raw (.string ⟨#[]⟩)) (.cons 1 (.raw (.string ⟨#[]⟩)) .nil))) [(0, .sc, .const (.int .i64 2)), (1, .sc, .const (.string ⟨#[100, 114, 111, 112]⟩)), (2, .sc, .const (.string ⟨#[110]⟩))], none⟩,
   ⟨(some 3), .bld (.cons 1 (.raw (.int .i64 0)) (.cons 1 (.raw (.string ⟨#[]⟩)) (.cons 1 (.raw (.string ⟨#[]⟩)) .nil))) [(0, .sc, .const (.int .i64 3)), (1, .sc, .const (.string ⟨#[99, 111, 112, 121]⟩)), (2, .sc, .const (.string ⟨#[110]⟩))], none⟩,
   ⟨(some 4), .bld (.cons 1 (.raw (.int .i64 0)) (.cons 1 (.raw (.string ⟨#[]⟩)) (.cons 1 (.raw (.string ⟨#[]⟩)) .nil))) [(0, .sc, .const (.int .i64 4)), (1, .sc, .const (.string ⟨#[116, 105, 99, 107]⟩)), (2, .sc, .const (.string ⟨#[105]⟩))], none⟩,
   ⟨(some 5), .bld (.cons 1 (.raw (.int .i64 0)) (.cons 1 (.raw (.string ⟨#[]⟩)) (.cons 1 (.raw (.string ⟨#[]⟩)) .nil))) [(0, .sc, .const (.int .i64 5)), (1, .sc, .const (.string ⟨#[115, 117, 98, 109, 105, 116]⟩)), (2, .sc, .const (.string ⟨#[105, 104]⟩))], none⟩,
   ⟨(some 6), .bld (.cons 1 (.raw (.int .i64 0)) (.cons 1 (.raw (.string ⟨#[]⟩)) (.cons 1 (.raw (.string ⟨#[]⟩)) .nil))) [(0, .sc, .const (.int .i64 6)), (1, .sc, .const (.string ⟨#[114, 101, 99, 111, 110, 102]⟩)), (2, .sc, .const (.string ⟨#[105, 112]⟩))], none⟩,
   ⟨(some 7), .bld (.cons 1 (.raw (.int .i64 0)) (.cons 1 (.raw (.string ⟨#[]⟩)) (.cons 1 (.raw (.string ⟨#[]⟩)) .nil))) [(0, .sc, .const (.int .i64 7)), (1, .sc, .const (.string ⟨#[97, 114, 109]⟩)), (2, .sc, .const (.string ⟨#[105, 110]⟩))], none⟩,
   ⟨(some 8), .bld (.cons 1 (.raw (.int .i64 0)) (.cons 1 (.raw (.string ⟨#[]⟩)) (.cons 1 (.raw (.string ⟨#[]⟩)) .nil))) [(0, .sc, .const (.int .i64 8)), (1, .sc, .const (.string ⟨#[99, 114, 97, 115, 104]⟩)), (2, .sc, .const (.string ⟨#[105, 98]⟩))], none⟩,
   ⟨(some 9), .bld (.cons 1 (.raw (.int .i64 0)) (.cons 1 (.raw (.string ⟨#[]⟩)) (.cons 1 (.raw (.string ⟨#[]⟩)) .nil))) [(0, .sc, .const (.int .i64 9)), (1, .sc, .const (.string ⟨#[114, 97, 119]⟩)), (2, .sc, .const (.string ⟨#[105, 104]⟩))], none⟩,
   ⟨(some 10), .bld (.cons 1 (.raw (.int .i64 0)) (.cons 1 (.raw (.string ⟨#[]⟩)) (.cons 1 (.raw (.string ⟨#[]⟩)) .nil))) [(0, .sc, .const (.int .i64 10)), (1, .sc, .const (.string ⟨#[102, 111, 114, 103, 101]⟩)), (2, .sc, .const (.string ⟨#[105, 110, 104]⟩))], none⟩,
   ⟨(some 11), .bsl 57 (.ag 3 [1, 1, 1]) 10 (.agg #[.int .i64 0, .string ⟨#[]⟩, .string ⟨#[]⟩]) [(0, .tmp 1), (1, .tmp 2), (2, .tmp 3), (3, .tmp 4), (4, .tmp 5), (5, .tmp 6), (6, .tmp 7), (7, .tmp 8), (8, .tmp 9), (9, .tmp 10)], none⟩,
   ⟨(some 0), .mov (.tmp 11), none⟩])
 (.keep 1 (
 .ret)))),
 [.t 0]⟩
theorem c19 : trF Tryd.prog Tryd.f19 = some i19 := by kernel_rfl
theorem e19 : Ent Tryd.prog 19 := ent_of Tryd.func19 (by kernel_rfl) (by kernel_rfl)
-- quorate/script.Line$1
def i20 : IF_ := ⟨9,
 .seq (.reg 0 [⟨(some 2), .box (.ag 3 [1, 1, 1]) 57 (.tmp 0), none⟩,
   ⟨(some 3), .mov (.const (.bool false)), none⟩])
 (.keep 510 (
 .seq (.reg 1 [⟨(some 4), .fad 0 (.tmp 2), none⟩,
   ⟨(some 5), .ld .sc (.tmp 4), none⟩,
   ⟨(some 6), .fad 0 (.tmp 1), none⟩,
   ⟨(some 7), .ld .sc (.tmp 6), none⟩,
   ⟨(some 8), .bin .eql .scal 3 (.tmp 5) (.tmp 7), none⟩,
   ⟨(some 3), .mov (.tmp 8), none⟩])
 (.keep 8 (
 .ret)))),
 [.t 3]⟩
theorem c20 : trF Tryd.prog Tryd.f20 = some i20 := by kernel_rfl
theorem e20 : Ent Tryd.prog 20 := ent_of Tryd.func20 (by kernel_rfl) (by kernel_rfl)
-- quorate/script.get
def i21 : IF_ := ⟨44,
 .seq (.reg 0 [⟨(some 2), .box (.ag 6 [1, 1, 1, 1, 1, 1]) 32 (.tmp 0), none⟩,
   ⟨(some 4), .mov (.const (.string ⟨#[]⟩)), none⟩,
   ⟨(some 5), .mov (.const (.bool false)), none⟩])
 (.keep 17592186044406 (
 .seq (.seq (.reg 1 [⟨(some 6), .mov (.tmp 1), none⟩])
 (.keep 17592186044404 (
 .block 0 (.seq (.reg 2 [⟨(some 8), .bin .eql .scal 5 (.tmp 6) (.const (.int .u8 110)), none⟩,
   ⟨(some 7), .mov (.tmp 8), none⟩])
 (.keep 17592186044148 (
 .cnd (.tmp 7)
   (.seq (.reg 3 [⟨(some 9), .fad 2 (.tmp 2), none⟩,
     ⟨(some 10), .ld .sc (.tmp 9), none⟩,
     ⟨(some 11), .cal (.func 32) [.tmp 10], none⟩,
     ⟨(some 12), .ext (.tmp 11) 0, none⟩,
     ⟨(some 13), .ext (.tmp 11) 1, none⟩,
     ⟨(some 4), .mov (.tmp 12), none⟩,
     ⟨(some 5), .mov (.tmp 13), none⟩])
   (.keep 17454747090996 (
   .ret)))
   (.seq (.reg 4 [⟨(some 15), .bin .eql .scal 5 (.tmp 6) (.const (.int .u8 105)), none⟩,
     ⟨(some 14), .mov (.tmp 15), none⟩])
   (.keep 17592185995380 (
   .cnd (.tmp 14)
     (.seq (.reg 5 [⟨(some 16), .fad 1 (.tmp 2), none⟩,
       ⟨(some 17), .ld .sc (.tmp 16), none⟩,
       ⟨(some 18), .cal (.func 32) [.tmp 17], none⟩,
       ⟨(some 19), .ext (.tmp 18) 0, none⟩,
       ⟨(some 20), .ext (.tmp 18) 1, none⟩,
       ⟨(some 4), .mov (.tmp 19), none⟩,
       ⟨(some 5), .mov (.tmp 20), none⟩])
     (.keep 17454747090996 (
     .ret)))
     (.seq (.reg 6 [⟨(some 22), .bin .eql .scal 5 (.tmp 6) (.const (.int .u8 104)), none⟩,
       ⟨(some 21), .mov (.tmp 22), none⟩])
     (.keep 17592179753076 (
     .cnd (.tmp 21)
       (.seq (.draw 7 [⟨(some 23), .fad 5 (.tmp 2), none⟩,
         ⟨(some 24), .ld .sc (.tmp 23), none⟩,
         ⟨(some 25), .cal (.func 33) [.tmp 24], none⟩,
         ⟨(some 26), .fad 5 (.tmp 2), none⟩,
         ⟨(some 27), .ld .sc (.tmp 26), none⟩,
         ⟨(some 28), .blt .lenSl [.tmp 27], none⟩,
         ⟨(some 29), .bin .leq .scal 3 (.tmp 28) (.const (.int .i64 65535)), none⟩,
         ⟨(some 4), .mov (.tmp 25), none⟩,
         ⟨(some 5), .mov (.tmp 29), none⟩] [[], [0], [1], [], [3], [4], [5], [2, 2, 0, 1, 2], [6, 7, 0, 1, 2, 3, 4, 5, 6, 7]])
       (.keep 17454747090996 (
       .ret)))
       (.seq (.reg 8 [⟨(some 31), .bin .eql .scal 5 (.tmp 6) (.const (.int .u8 112)), none⟩,
         ⟨(some 30), .mov (.tmp 31), none⟩])
       (.keep 17588964818996 (
       .cnd (.tmp 30)
         (.seq (.reg 9 [⟨(some 32), .fad 3 (.tmp 2), none⟩,
           ⟨(some 33), .ld .sc (.tmp 32), none⟩,
           ⟨(some 34), .cal (.func 34) [.tmp 33], none⟩,
           ⟨(some 35), .ext (.tmp 34) 0, none⟩,
           ⟨(some 36), .ext (.tmp 34) 1, none⟩,
           ⟨(some 4), .mov (.tmp 35), none⟩,
           ⟨(some 5), .mov (.tmp 36), none⟩])
         (.keep 17454747090996 (
         .ret)))
         (.skip))))))))))))))))
 (.keep 17454747090996 (
 .seq (.draw 10 [⟨(some 37), .fad 4 (.tmp 2), none⟩,
   ⟨(some 38), .ld .sc (.tmp 37), none⟩,
   ⟨(some 39), .cal (.func 35) [.tmp 38], none⟩,
   ⟨(some 40), .fad 4 (.tmp 2), none⟩,
   ⟨(some 41), .ld .sc (.tmp 40), none⟩,
   ⟨(some 42), .blt .lenSl [.tmp 41], none⟩,
   ⟨(some 43), .bin .leq .scal 3 (.tmp 42) (.const (.int .i64 64)), none⟩,
   ⟨(some 4), .mov (.tmp 39), none⟩,
   ⟨(some 5), .mov (.tmp 43), none⟩] [[], [0], [1], [], [3], [4], [5], [2, 2, 0, 1, 2], [6, 7, 0, 1, 2, 3, 4, 5, 6, 7]])
 (.keep 48 (
 .ret)))))),
 [.t 4, .t 5]⟩
theorem c21 : trF Tryd.prog Tryd.f21 = some i21 := by kernel_rfl
theorem e21 : Ent Tryd.prog 21 := ent_of Tryd.func21 (by kernel_rfl) (by kernel_rfl)
-- (*strings.Builder).WriteString
def i23 : IF_ := ⟨19,
 .seq (.reg 0 [⟨(some 4), .mov (.const (.int .i64 0)), none⟩,
   ⟨(some 5), .mov (.const (.nilIface)), none⟩])
 (.keep 524147 (
 .seq (.reg 1 [⟨(some 6), .mov (.tmp 0), none⟩,
   ⟨(some 7), .cal (.func 36) [.tmp 6], none⟩])
 (.keep 524083 (
 .seq (.reg 2 [⟨(some 8), .mov (.tmp 0), none⟩,
   ⟨(some 9), .mov (.tmp 0), none⟩,
   ⟨(some 10), .nck (.tmp 9), none⟩,
   ⟨(some 11), .fad 1 (.tmp 10), none⟩,
   ⟨(some 12), .ld .sc (.tmp 11), none⟩,
   ⟨(some 13), .mov (.tmp 1), none⟩,
   ⟨(some 14), .blt (.appS 1 5 1) [.tmp 12, .tmp 13], none⟩,
   ⟨(some 15), .nck (.tmp 8), none⟩,
   ⟨(some 16), .fad 1 (.tmp 15), none⟩,
   ⟨none, .st .sc (.tmp 16) (.tmp 14), none⟩])
 (.keep 393266 (
 .seq (.reg 3 [⟨(some 17), .mov (.tmp 1), none⟩,
   ⟨(some 18), .blt .lenS [.tmp 17], none⟩,
   ⟨(some 4), .mov (.tmp 18), none⟩,
   ⟨(some 5), .mov (.const (.nilIface)), none⟩])
 (.keep 48 (
 .ret)))))))),
 [.t 4, .t 5]⟩
theorem c23 : trF Tryd.prog Tryd.f23 = some i23 := by kernel_rfl
theorem e23 : Ent Tryd.prog 23 := ent_of Tryd.func23 (by kernel_rfl) (by kernel_rfl)
-- (*strings.Builder).String
def i24 : IF_ := ⟨14,
 .seq (.reg 0 [⟨(some 2), .mov (.const (.string ⟨#[]⟩)), none⟩])
 (.keep 16381 (
 .seq (.draw 1 [⟨(some 3), .mov (.tmp 0), none⟩,
   ⟨(some 4), .nck (.tmp 3), none⟩,
   ⟨(some 5), .fad 1 (.tmp 4), none⟩,
   ⟨(some 6), .ld .sc (.tmp 5), none⟩,
   ⟨(some 7), .blt .other [.tmp 6], none⟩,
   ⟨(some 8), .mov (.tmp 0), none⟩,
   ⟨(some 9), .nck (.tmp 8), none⟩,
   ⟨(some 10), .fad 1 (.tmp 9), none⟩,
   ⟨(some 11), .ld .sc (.tmp 10), none⟩,
   ⟨(some 12), .blt .lenSl [.tmp 11], none⟩,
   ⟨(some 13), .blt .other [.tmp 7, .tmp 12], none⟩,
   ⟨(some 2), .mov (.tmp 13), none⟩] [[], [0], [1], [2], [3], [], [5], [6], [7], [8], [4, 9], [10, 0, 1, 2, 3, 4, 5, 6, 7, 8, 9, 10]])
 (.keep 4 (
 .ret)))),
 [.t 2]⟩
theorem c24 : trF Tryd.prog Tryd.f24 = some i24 := by kernel_rfl
theorem e24 : Ent Tryd.prog 24 := ent_of Tryd.func24 (by kernel_rfl) (by kernel_rfl)
-- quorate/quorateref23.Same
def i26 : IF_ := ⟨69,
 .seq (.reg 0 [⟨(some 2), .box (.ag 6 [1, 1, 1, 1, 1, 1]) 40 (.tmp 0), none⟩,
   ⟨(some 3), .box (.ag 6 [1, 1, 1, 1, 1, 1]) 40 (.tmp 1), none⟩,
   ⟨(some 4), .mov (.const (.bool false)), none⟩])
 (.keep 590295810358705651708 (
 .seq (.seq (.reg 1 [⟨(some 6), .fad 0 (.tmp 2), none⟩,
   ⟨(some 7), .ld .sc (.tmp 6), none⟩,
   ⟨(some 8), .fad 0 (.tmp 3), none⟩,
   ⟨(some 9), .ld .sc (.tmp 8), none⟩,
   ⟨(some 10), .bin .neq .scal 3 (.tmp 7) (.tmp 9), none⟩,
   ⟨(some 11), .mov (.tmp 10), none⟩,
   ⟨(some 12), .fad 1 (.tmp 2), (some (11, false))⟩,
   ⟨(some 13), .ld .sc (.tmp 12), (some (11, false))⟩,
   ⟨(some 14), .fad 1 (.tmp 3), (some (11, false))⟩,
   ⟨(some 15), .ld .sc (.tmp 14), (some (11, false))⟩,
   ⟨(some 16), .bin .neq .scal 3 (.tmp 13) (.tmp 15), (some (11, false))⟩,
   ⟨(some 17), .pck (.tmp 11) (.const (.bool true)) (.tmp 16), none⟩,
   ⟨(some 18), .mov (.tmp 17), none⟩,
   ⟨(some 19), .fad 2 (.tmp 2), (some (18, false))⟩,
   ⟨(some 20), .ld .sc (.tmp 19), (some (18, false))⟩,
   ⟨(some 21), .fad 2 (.tmp 3), (some (18, false))⟩,
   ⟨(some 22), .ld .sc (.tmp 21), (some (18, false))⟩,
   ⟨(some 23), .bin .neq .scal 3 (.tmp 20) (.tmp 22), (some (18, false))⟩,
   ⟨(some 24), .pck (.tmp 18) (.const (.bool true)) (.tmp 23), none⟩,
   ⟨(some 25), .mov (.tmp 24), none⟩,
   ⟨(some 26), .fad 3 (.tmp 2), (some (25, false))⟩,
   ⟨(some 27), .ld .sc (.tmp 26), (some (25, false))⟩,
   ⟨(some 28), .fad 3 (.tmp 3), (some (25, false))⟩,
   ⟨(some 29), .ld .sc (.tmp 28), (some (25, false))⟩,
   ⟨(some 30), .cal (.func 39) [.tmp 27, .tmp 29], (some (25, false))⟩,
   ⟨(some 31), .un .not (.tmp 30), (some (25, false))⟩,
   ⟨(some 32), .pck (.tmp 25) (.const (.bool true)) (.tmp 31), none⟩,
   ⟨(some 33), .mov (.tmp 32), none⟩,
   ⟨(some 34), .fad 5 (.tmp 2), (some (33, false))⟩,
   ⟨(some 35), .ld .sc (.tmp 34), (some (33, false))⟩,
   ⟨(some 36), .cvt .b2s (.tmp 35), (some (33, false))⟩,
   ⟨(some 37), .fad 5 (.tmp 3), (some (33, false))⟩,
   ⟨(some 38), .ld .sc (.tmp 37), (some (33, false))⟩,
   ⟨(some 39), .cvt .b2s (.tmp 38), (some (33, false))⟩,
   ⟨(some 40), .bin .neq .scal 9 (.tmp 36) (.tmp 39), (some (33, false))⟩,
   ⟨(some 41), .pck (.tmp 33) (.const (.bool true)) (.tmp 40), none⟩,
   ⟨(some 42), .mov (.tmp 41), none⟩,
   ⟨(some 43), .fad 4 (.tmp 2), (some (42, false))⟩,
   ⟨(some 44), .ld .sc (.tmp 43), (some (42, false))⟩,
   ⟨(some 45), .blt .lenSl [.tmp 44], (some (42, false))⟩,
   ⟨(some 46), .fad 4 (.tmp 3), (some (42, false))⟩,
   ⟨(some 47), .ld .sc (.tmp 46), (some (42, false))⟩,
   ⟨(some 48), .blt .lenSl [.tmp 47], (some (42, false))⟩,
   ⟨(some 49), .bin .neq .scal 3 (.tmp 45) (.tmp 48), (some (42, false))⟩,
   ⟨(some 50), .pck (.tmp 42) (.const (.bool true)) (.tmp 49), none⟩])
 (.keep 590294684458798809148 (
 .cnd (.tmp 50)
   (.seq (.reg 2 [⟨(some 4), .mov (.const (.bool false)), none⟩])
   (.keep 590293558558891966524 (
   .ret)))
   (.skip))))
 (.keep 590293558558891966524 (
 .seq (.seq (.reg 3 [⟨(some 51), .fad 4 (.tmp 2), none⟩,
   ⟨(some 52), .ld .sc (.tmp 51), none⟩,
   ⟨(some 53), .blt .lenSl [.tmp 52], none⟩,
   ⟨(some 54), .mov (.const (.int .i64 0)), none⟩])
 (.keep 590286803159450910780 (
 .block 0 (.loop 590286803159450910780 (
   .seq (.reg 4 [⟨(some 55), .bin .lss .scal 3 (.tmp 54) (.tmp 53), none⟩])
   (.keep 590286803159450910780 (
   .seq (.cnd (.tmp 55)
     (.skip)
     (.exit 0))
   (.keep 590286803159450910780 (
   .seq (.block 1 (.seq (.reg 5 [⟨(some 56), .mov (.tmp 54), none⟩,
     ⟨(some 5), .mov (.tmp 56), none⟩])
   (.keep 590286803159450910780 (
   .seq (.draw 6 [⟨(some 57), .fad 4 (.tmp 2), none⟩,
     ⟨(some 58), .ld .sc (.tmp 57), none⟩,
     ⟨(some 59), .mov (.tmp 5), none⟩,
     ⟨(some 60), .iad (.sl 1) (.tmp 58) (.tmp 59), none⟩,
     ⟨(some 61), .ld .sc (.tmp 60), none⟩,
     ⟨(some 62), .fad 4 (.tmp 3), none⟩,
     ⟨(some 63), .ld .sc (.tmp 62), none⟩,
     ⟨(some 64), .mov (.tmp 5), none⟩,
     ⟨(some 65), .iad (.sl 1) (.tmp 63) (.tmp 64), none⟩,
     ⟨(some 66), .ld .sc (.tmp 65), none⟩,
     ⟨(some 67), .bin .neq .bool 4 (.tmp 61) (.tmp 66), none⟩] [[], [0], [], [1, 2], [3], [], [5], [], [6, 7], [8], [4, 9]])
   (.keep 590286803159450910780 (
   .cnd (.tmp 67)
     (.seq (.reg 7 [⟨(some 4), .mov (.const (.bool false)), none⟩])
     (.keep 590286803159450910780 (
     .ret)))
     (.skip)))))))
   (.keep 590286803159450910780 (
   .reg 8 [⟨(some 68), .bin .add .scal 3 (.tmp 54) (.const (.int .i64 1)), none⟩,
     ⟨(some 54), .mov (.tmp 68), none⟩])))))))))))
 (.keep 16 (
 .seq (.reg 9 [⟨(some 4), .mov (.const (.bool true)), none⟩])
 (.keep 16 (
 .ret)))))))),
 [.t 4]⟩
theorem c26 : trF Tryd.prog Tryd.f26 = some i26 := by kernel_rfl
theorem e26 : Ent Tryd.prog 26 := ent_of Tryd.func26 (by kernel_rfl) (by kernel_rfl)
-- strings.Lines$1
def i27 : IF_ := ⟨25,
 .block 0 (.loop 33554427 (
   .seq (.seq (.reg 0 [⟨(some 5), .ld .sc (.tmp 1), none⟩,
     ⟨(some 6), .blt .lenS [.tmp 5], none⟩,
     ⟨(some 7), .bin .gtr .scal 3 (.tmp 6) (.const (.int .i64 0)), none⟩])
   (.keep 33554427 (
   .cnd (.tmp 7)
     (.skip)
     (.exit 0))))
   (.keep 33554427 (
   .block 1 (.seq (.reg 1 [⟨(some 3), .mov (.const (.string ⟨#[]⟩)), none⟩])
   (.keep 33554427 (
   .seq (.seq (.reg 2 [⟨(some 8), .ld .sc (.tmp 1), none⟩,
     ⟨(some 9), .cal (.func 28) [.tmp 8, .const (.int .u8 10)], none⟩,
     ⟨(some 4), .mov (.tmp 9), none⟩])
   (.keep 33554427 (
   .seq (.reg 3 [⟨(some 10), .mov (.tmp 4), none⟩,
     ⟨(some 11), .bin .geq .scal 3 (.tmp 10) (.const (.int .i64 0)), none⟩])
   (.keep 33554427 (
   .cnd (.tmp 11)
     (.draw 4 [⟨(some 12), .ld .sc (.tmp 1), none⟩,
       ⟨(some 13), .mov (.tmp 4), none⟩,
       ⟨(some 14), .bin .add .scal 3 (.tmp 13) (.const (.int .i64 1)), none⟩,
       ⟨(some 15), .slc .str (.tmp 12) none (some (.tmp 14)) none, none⟩,
       ⟨(some 16), .ld .sc (.tmp 1), none⟩,
       ⟨(some 17), .mov (.tmp 4), none⟩,
       ⟨(some 18), .bin .add .scal 3 (.tmp 17) (.const (.int .i64 1)), none⟩,
       ⟨(some 19), .slc .str (.tmp 16) (some (.tmp 18)) none none, none⟩,
       ⟨(some 3), .mov (.tmp 15), none⟩,
       ⟨none, .st .sc (.tmp 1) (.tmp 19), none⟩] [[], [], [1], [0, 2], [], [], [5], [4, 6], [3, 0, 1, 2, 3], [7, 8, 0, 1, 2, 3, 4, 5, 6, 7, 8]])
     (.reg 5 [⟨(some 20), .ld .sc (.tmp 1), none⟩,
       ⟨(some 3), .mov (.tmp 20), none⟩,
       ⟨none, .st .sc (.tmp 1) (.const (.string ⟨#[]⟩)), none⟩]))))))
   (.keep 33554427 (
   .seq (.reg 6 [⟨(some 21), .mov (.tmp 0), none⟩,
     ⟨(some 22), .mov (.tmp 3), none⟩,
     ⟨(some 23), .cal (.tmp 21) [.tmp 22], none⟩,
     ⟨(some 24), .un .not (.tmp 23), none⟩])
   (.keep 33554427 (
   .cnd (.tmp 24)
     (.ret)
     (.skip)))))))))))),
 []⟩
theorem c27 : trF Tryd.prog Tryd.f27 = some i27 := by kernel_rfl
theorem e27 : Ent Tryd.prog 27 := ent_of Tryd.func27 (by kernel_rfl) (by kernel_rfl)
-- quorate/script.set
def i31 : IF_ := ⟨59,
 .seq (.reg 0 [⟨(some 6), .mov (.const (.bool false)), none⟩])
 (.keep 576460752303423431 (
 .seq (.seq (.reg 1 [⟨(some 7), .mov (.tmp 1), none⟩])
 (.keep 576460752303423429 (
 .block 0 (.seq (.reg 2 [⟨(some 9), .bin .eql .scal 5 (.tmp 7) (.const (.int .u8 110)), none⟩,
   ⟨(some 8), .mov (.tmp 9), none⟩])
 (.keep 576460752303422917 (
 .cnd (.tmp 8)
   (.reg 3 [⟨(some 11), .mov (.tmp 0), none⟩,
     ⟨(some 12), .mov (.tmp 2), none⟩,
     ⟨(some 13), .cal (.func 43) [.tmp 12], none⟩,
     ⟨(some 10), .mov (.tmp 13), none⟩,
     ⟨(some 14), .ext (.tmp 10) 0, none⟩,
     ⟨(some 15), .ext (.tmp 10) 1, none⟩,
     ⟨(some 16), .nck (.tmp 11), none⟩,
     ⟨(some 17), .fad 2 (.tmp 16), none⟩,
     ⟨none, .st .sc (.tmp 17) (.tmp 14), none⟩,
     ⟨(some 6), .mov (.tmp 15), none⟩])
   (.seq (.reg 4 [⟨(some 19), .bin .eql .scal 5 (.tmp 7) (.const (.int .u8 105)), none⟩,
     ⟨(some 18), .mov (.tmp 19), none⟩])
   (.keep 576460752302637253 (
   .cnd (.tmp 18)
     (.reg 5 [⟨(some 21), .mov (.tmp 0), none⟩,
       ⟨(some 22), .mov (.tmp 2), none⟩,
       ⟨(some 23), .cal (.func 43) [.tmp 22], none⟩,
       ⟨(some 20), .mov (.tmp 23), none⟩,
       ⟨(some 24), .ext (.tmp 20) 0, none⟩,
       ⟨(some 25), .ext (.tmp 20) 1, none⟩,
       ⟨(some 26), .nck (.tmp 21), none⟩,
       ⟨(some 27), .fad 1 (.tmp 26), none⟩,
       ⟨none, .st .sc (.tmp 27) (.tmp 24), none⟩,
       ⟨(some 6), .mov (.tmp 25), none⟩])
     (.seq (.reg 6 [⟨(some 29), .bin .eql .scal 5 (.tmp 7) (.const (.int .u8 104)), none⟩,
       ⟨(some 28), .mov (.tmp 29), none⟩])
     (.keep 576460751498117317 (
     .cnd (.tmp 28)
       (.reg 7 [⟨(some 31), .mov (.tmp 0), none⟩,
         ⟨(some 32), .mov (.tmp 2), none⟩,
         ⟨(some 33), .cal (.func 44) [.tmp 32], none⟩,
         ⟨(some 30), .mov (.tmp 33), none⟩,
         ⟨(some 34), .ext (.tmp 30) 0, none⟩,
         ⟨(some 35), .ext (.tmp 30) 1, none⟩,
         ⟨(some 36), .nck (.tmp 31), none⟩,
         ⟨(some 37), .fad 5 (.tmp 36), none⟩,
         ⟨none, .st .sc (.tmp 37) (.tmp 34), none⟩,
         ⟨(some 6), .mov (.tmp 35), none⟩])
       (.seq (.reg 8 [⟨(some 39), .bin .eql .scal 5 (.tmp 7) (.const (.int .u8 112)), none⟩,
         ⟨(some 38), .mov (.tmp 39), none⟩])
       (.keep 576459927669702853 (
       .cnd (.tmp 38)
         (.reg 9 [⟨(some 41), .mov (.tmp 0), none⟩,
           ⟨(some 42), .mov (.tmp 2), none⟩,
           ⟨(some 43), .cal (.func 45) [.tmp 42], none⟩,
           ⟨(some 40), .mov (.tmp 43), none⟩,
           ⟨(some 44), .ext (.tmp 40) 0, none⟩,
           ⟨(some 45), .ext (.tmp 40) 1, none⟩,
           ⟨(some 46), .nck (.tmp 41), none⟩,
           ⟨(some 47), .fad 3 (.tmp 46), none⟩,
           ⟨none, .st .sc (.tmp 47) (.tmp 44), none⟩,
           ⟨(some 6), .mov (.tmp 45), none⟩])
         (.seq (.reg 10 [⟨(some 49), .bin .eql .scal 5 (.tmp 7) (.const (.int .u8 98)), none⟩,
           ⟨(some 48), .mov (.tmp 49), none⟩])
         (.keep 575616327373291589 (
         .cnd (.tmp 48)
           (.reg 11 [⟨(some 51), .mov (.tmp 0), none⟩,
             ⟨(some 52), .mov (.tmp 2), none⟩,
             ⟨(some 53), .cal (.func 46) [.tmp 52], none⟩,
             ⟨(some 50), .mov (.tmp 53), none⟩,
             ⟨(some 54), .ext (.tmp 50) 0, none⟩,
             ⟨(some 55), .ext (.tmp 50) 1, none⟩,
             ⟨(some 56), .nck (.tmp 51), none⟩,
             ⟨(some 57), .fad 4 (.tmp 56), none⟩,
             ⟨none, .st .sc (.tmp 57) (.tmp 54), none⟩,
             ⟨(some 6), .mov (.tmp 55), none⟩])
           (.skip)))))))))))))))))))
 (.keep 288230376151711808 (
 .seq (.reg 12 [⟨(some 58), .mov (.tmp 6), none⟩,
   ⟨(some 6), .mov (.tmp 58), none⟩])
 (.keep 64 (
 .ret)))))),
 [.t 6]⟩
theorem c31 : trF Tryd.prog Tryd.f31 = some i31 := by kernel_rfl
theorem e31 : Ent Tryd.prog 31 := ent_of Tryd.func31 (by kernel_rfl) (by kernel_rfl)
-- quorate/script.digits
def i32 : IF_ := ⟨12,
 .seq (.reg 0 [⟨(some 2), .mov (.const (.string ⟨#[]⟩)), none⟩,
   ⟨(some 3), .mov (.const (.bool false)), none⟩])
 (.keep 4093 (
 .seq (.reg 1 [⟨(some 4), .mov (.tmp 0), none⟩,
   ⟨(some 5), .cal (.func 47) [.tmp 4], none⟩,
   ⟨(some 6), .mov (.tmp 0), none⟩,
   ⟨(some 7), .bin .geq .scal 3 (.tmp 6) (.const (.int .i64 0)), none⟩,
   ⟨(some 8), .mov (.tmp 7), none⟩,
   ⟨(some 9), .mov (.tmp 0), (some (8, true))⟩,
   ⟨(some 10), .bin .leq .scal 3 (.tmp 9) (.const (.int .i64 999999)), (some (8, true))⟩,
   ⟨(some 11), .pck (.tmp 8) (.tmp 10) (.const (.bool false)), none⟩,
   ⟨(some 2), .mov (.tmp 5), none⟩,
   ⟨(some 3), .mov (.tmp 11), none⟩])
 (.keep 12 (
 .ret)))),
 [.t 2, .t 3]⟩
theorem c32 : trF Tryd.prog Tryd.f32 = some i32 := by kernel_rfl
theorem e32 : Ent Tryd.prog 32 := ent_of Tryd.func32 (by kernel_rfl) (by kernel_rfl)
-- quorate/script.unhexed
def i33 : IF_ := ⟨29,
 .seq (.reg 0 [⟨(some 2), .mov (.const (.string ⟨#[]⟩)), none⟩])
 (.keep 465567725 (
 .seq (.seq (.reg 1 [⟨(some 6), .mov (.tmp 0), none⟩,
   ⟨(some 7), .blt .lenSl [.tmp 6], none⟩,
   ⟨(some 8), .bin .eql .scal 3 (.tmp 7) (.const (.int .i64 0)), none⟩])
 (.keep 465567533 (
 .cnd (.tmp 8)
   (.seq (.reg 2 [⟨(some 2), .mov (.const (.string ⟨#[45]⟩)), none⟩])
   (.keep 465567277 (
   .ret)))
   (.skip))))
 (.keep 465567277 (
 .seq (.reg 3 [⟨(some 3), .alc (.cons 1 (.raw (.pointer none)) (.cons 1 (.raw (.slice none 0 0)) .nil)) 63, none⟩])
 (.keep 465567277 (
 .seq (.seq (.reg 4 [⟨(some 9), .mov (.tmp 0), none⟩,
   ⟨(some 10), .mov (.tmp 0), none⟩,
   ⟨(some 11), .blt .lenSl [.tmp 10], none⟩,
   ⟨(some 12), .blt .min [.tmp 11, .const (.int .i64 65535)], none⟩,
   ⟨(some 13), .slc (.sl 1) (.tmp 9) none (some (.tmp 12)) none, none⟩,
   ⟨(some 14), .blt .lenSl [.tmp 13], none⟩,
   ⟨(some 15), .mov (.const (.int .i64 0)), none⟩])
 (.keep 465559596 (
 .block 0 (.loop 465559596 (
   .seq (.reg 5 [⟨(some 16), .bin .lss .scal 3 (.tmp 15) (.tmp 14), none⟩])
   (.keep 465559596 (
   .seq (.cnd (.tmp 16)
     (.skip)
     (.exit 0))
   (.keep 465559596 (
   .seq (.block 1 (.seq (.reg 6 [⟨(some 17), .iad (.sl 1) (.tmp 13) (.tmp 15), none⟩,
     ⟨(some 18), .ld .sc (.tmp 17), none⟩,
     ⟨(some 5), .mov (.tmp 18), none⟩])
   (.keep 465559596 (
   .seq (.reg 7 [⟨(some 19), .mov (.tmp 5), none⟩,
     ⟨(some 20), .bin .shr .scal 5 (.tmp 19) (.const (.int .u64 4)), none⟩,
     ⟨(some 21), .idx .str (.const (.string ⟨#[48, 49, 50, 51, 52, 53, 54, 55, 56, 57, 97, 98, 99, 100, 101, 102]⟩)) (.tmp 20), none⟩,
     ⟨(some 22), .cal (.func 48) [.tmp 3, .tmp 21], none⟩])
   (.keep 465559596 (
   .reg 8 [⟨(some 23), .mov (.tmp 5), none⟩,
     ⟨(some 24), .bin .and .scal 5 (.tmp 23) (.const (.int .u8 15)), none⟩,
     ⟨(some 25), .idx .str (.const (.string ⟨#[48, 49, 50, 51, 52, 53, 54, 55, 56, 57, 97, 98, 99, 100, 101, 102]⟩)) (.tmp 24), none⟩,
     ⟨(some 26), .cal (.func 48) [.tmp 3, .tmp 25], none⟩]))))))
   (.keep 465559596 (
   .reg 9 [⟨(some 27), .bin .add .scal 3 (.tmp 15) (.const (.int .i64 1)), none⟩,
     ⟨(some 15), .mov (.tmp 27), none⟩])))))))))))
 (.keep 268435468 (
 .seq (.reg 10 [⟨(some 28), .cal (.func 24) [.tmp 3], none⟩,
   ⟨(some 2), .mov (.tmp 28), none⟩])
 (.keep 4 (
 .ret)))))))))),
 [.t 2]⟩
theorem c33 : trF Tryd.prog Tryd.f33 = some i33 := by kernel_rfl
theorem e33 : Ent Tryd.prog 33 := ent_of Tryd.func33 (by kernel_rfl) (by kernel_rfl)
-- quorate/script.unpowered
def i34 : IF_ := ⟨35,
 .seq (.reg 0 [⟨(some 2), .mov (.const (.string ⟨#[]⟩)), none⟩,
   ⟨(some 3), .mov (.const (.bool false)), none⟩])
 (.keep 34359738333 (
 .seq (.seq (.reg 1 [⟨(some 9), .mov (.tmp 0), none⟩,
   ⟨(some 10), .blt .lenSl [.tmp 9], none⟩,
   ⟨(some 11), .bin .eql .scal 3 (.tmp 10) (.const (.int .i64 0)), none⟩])
 (.keep 34359736797 (
 .cnd (.tmp 11)
   (.seq (.reg 2 [⟨(some 2), .mov (.const (.string ⟨#[45]⟩)), none⟩,
     ⟨(some 3), .mov (.const (.bool true)), none⟩])
   (.keep 34359734749 (
   .ret)))
   (.skip))))
 (.keep 34359734749 (
 .seq (.seq (.reg 3 [⟨(some 12), .mov (.tmp 0), none⟩,
   ⟨(some 13), .blt .lenSl [.tmp 12], none⟩,
   ⟨(some 14), .bin .gtr .scal 3 (.tmp 13) (.const (.int .i64 7)), none⟩])
 (.keep 34359722461 (
 .cnd (.tmp 14)
   (.seq (.reg 4 [⟨(some 2), .mov (.const (.string ⟨#[]⟩)), none⟩,
     ⟨(some 3), .mov (.const (.bool false)), none⟩])
   (.keep 34359706077 (
   .ret)))
   (.skip))))
 (.keep 34359706077 (
 .seq (.reg 5 [⟨(some 4), .mov (.const (.slice none 0 0)), none⟩])
 (.keep 34359706077 (
 .seq (.seq (.reg 6 [⟨(some 15), .mov (.tmp 0), none⟩,
   ⟨(some 16), .blt .lenSl [.tmp 15], none⟩,
   ⟨(some 17), .mov (.const (.int .i64 0)), none⟩])
 (.keep 34359706076 (
 .block 0 (.loop 34359706076 (
   .seq (.reg 7 [⟨(some 18), .bin .lss .scal 3 (.tmp 17) (.tmp 16), none⟩])
   (.keep 34359706076 (
   .seq (.cnd (.tmp 18)
     (.skip)
     (.exit 0))
   (.keep 34359706076 (
   .seq (.block 1 (.seq (.reg 8 [⟨(some 19), .iad (.sl 1) (.tmp 15) (.tmp 17), none⟩,
     ⟨(some 20), .ld .sc (.tmp 19), none⟩,
     ⟨(some 6), .mov (.tmp 20), none⟩])
   (.keep 34359706076 (
   .seq (.reg 9 [⟨(some 22), .mov (.tmp 6), none⟩,
     ⟨(some 23), .cal (.func 32) [.tmp 22], none⟩,
     ⟨(some 21), .mov (.tmp 23), none⟩,
     ⟨(some 24), .ext (.tmp 21) 0, none⟩,
     ⟨(some 25), .ext (.tmp 21) 1, none⟩,
     ⟨(some 7), .mov (.tmp 24), none⟩,
     ⟨(some 8), .mov (.tmp 25), none⟩])
   (.keep 34359706076 (
   .seq (.seq (.reg 10 [⟨(some 26), .mov (.tmp 8), none⟩,
     ⟨(some 27), .un .not (.tmp 26), none⟩])
   (.keep 34359706076 (
   .cnd (.tmp 27)
     (.seq (.reg 11 [⟨(some 2), .mov (.const (.string ⟨#[]⟩)), none⟩,
       ⟨(some 3), .mov (.const (.bool false)), none⟩])
     (.keep 34359706076 (
     .ret)))
     (.skip))))
   (.keep 34359706076 (
   .reg 12 [⟨(some 28), .mov (.tmp 4), none⟩,
     ⟨(some 29), .mov (.tmp 7), none⟩,
     ⟨(some 30), .bsl 9 .sc 1 (.string ⟨#[]⟩) [(0, .tmp 29)], none⟩,
     ⟨(some 31), .blt (.app 1 9 16) [.tmp 28, .tmp 30], none⟩,
     ⟨(some 4), .mov (.tmp 31), none⟩]))))))))
   (.keep 34359706076 (
   .reg 13 [⟨(some 32), .bin .add .scal 3 (.tmp 17) (.const (.int .i64 1)), none⟩,
     ⟨(some 17), .mov (.tmp 32), none⟩])))))))))))
 (.keep 25769803804 (
 .seq (.reg 14 [⟨(some 33), .mov (.tmp 4), none⟩,
   ⟨(some 34), .cal (.func 49) [.tmp 33, .const (.string ⟨#[44]⟩)], none⟩,
   ⟨(some 2), .mov (.tmp 34), none⟩,
   ⟨(some 3), .mov (.const (.bool true)), none⟩])
 (.keep 12 (
 .ret)))))))))))),
 [.t 2, .t 3]⟩
theorem c34 : trF Tryd.prog Tryd.f34 = some i34 := by kernel_rfl
theorem e34 : Ent Tryd.prog 34 := ent_of Tryd.func34 (by kernel_rfl) (by kernel_rfl)
-- quorate/script.unbitted
def i35 : IF_ := ⟨26,
 .seq (.reg 0 [⟨(some 2), .mov (.const (.string ⟨#[]⟩)), none⟩])
 (.keep 67108845 (
 .seq (.seq (.reg 1 [⟨(some 6), .mov (.tmp 0), none⟩,
   ⟨(some 7), .blt .lenSl [.tmp 6], none⟩,
   ⟨(some 8), .bin .eql .scal 3 (.tmp 7) (.const (.int .i64 0)), none⟩])
 (.keep 67108653 (
 .cnd (.tmp 8)
   (.seq (.reg 2 [⟨(some 2), .mov (.const (.string ⟨#[45]⟩)), none⟩])
   (.keep 67108397 (
   .ret)))
   (.skip))))
 (.keep 67108397 (
 .seq (.reg 3 [⟨(some 3), .mov (.const (.string ⟨#[]⟩)), none⟩])
 (.keep 67108397 (
 .seq (.seq (.reg 4 [⟨(some 9), .mov (.tmp 0), none⟩,
   ⟨(some 10), .mov (.tmp 0), none⟩,
   ⟨(some 11), .blt .lenSl [.tmp 10], none⟩,
   ⟨(some 12), .blt .min [.tmp 11, .const (.int .i64 64)], none⟩,
   ⟨(some 13), .slc (.sl 1) (.tmp 9) none (some (.tmp 12)) none, none⟩,
   ⟨(some 14), .blt .lenSl [.tmp 13], none⟩,
   ⟨(some 15), .mov (.const (.int .i64 0)), none⟩])
 (.keep 67100716 (
 .block 0 (.loop 67100716 (
   .seq (.reg 5 [⟨(some 16), .bin .lss .scal 3 (.tmp 15) (.tmp 14), none⟩])
   (.keep 67100716 (
   .seq (.cnd (.tmp 16)
     (.skip)
     (.exit 0))
   (.keep 67100716 (
   .seq (.block 1 (.seq (.reg 6 [⟨(some 17), .iad (.sl 1) (.tmp 13) (.tmp 15), none⟩,
     ⟨(some 18), .ld .sc (.tmp 17), none⟩,
     ⟨(some 5), .mov (.tmp 18), none⟩])
   (.keep 67100716 (
   .seq (.reg 7 [⟨(some 19), .mov (.tmp 5), none⟩])
   (.keep 67100716 (
   .cnd (.tmp 19)
     (.reg 8 [⟨(some 20), .mov (.tmp 3), none⟩,
       ⟨(some 21), .bin .add .scal 9 (.tmp 20) (.const (.string ⟨#[49]⟩)), none⟩,
       ⟨(some 3), .mov (.tmp 21), none⟩])
     (.reg 9 [⟨(some 22), .mov (.tmp 3), none⟩,
       ⟨(some 23), .bin .add .scal 9 (.tmp 22) (.const (.string ⟨#[48]⟩)), none⟩,
       ⟨(some 3), .mov (.tmp 23), none⟩])))))))
   (.keep 67100716 (
   .reg 10 [⟨(some 24), .bin .add .scal 3 (.tmp 15) (.const (.int .i64 1)), none⟩,
     ⟨(some 15), .mov (.tmp 24), none⟩])))))))))))
 (.keep 33554444 (
 .seq (.reg 11 [⟨(some 25), .mov (.tmp 3), none⟩,
   ⟨(some 2), .mov (.tmp 25), none⟩])
 (.keep 4 (
 .ret)))))))))),
 [.t 2]⟩
theorem c35 : trF Tryd.prog Tryd.f35 = some i35 := by kernel_rfl
theorem e35 : Ent Tryd.prog 35 := ent_of Tryd.func35 (by kernel_rfl) (by kernel_rfl)
-- quorate/quoratenum.SameInts
def i39 : IF_ := ⟨26,
 .seq (.reg 0 [⟨(some 4), .mov (.const (.bool false)), none⟩])
 (.keep 67108851 (
 .seq (.seq (.reg 1 [⟨(some 6), .mov (.tmp 0), none⟩,
   ⟨(some 7), .blt .lenSl [.tmp 6], none⟩,
   ⟨(some 8), .mov (.tmp 1), none⟩,
   ⟨(some 9), .blt .lenSl [.tmp 8], none⟩,
   ⟨(some 10), .bin .neq .scal 3 (.tmp 7) (.tmp 9), none⟩])
 (.keep 67107891 (
 .cnd (.tmp 10)
   (.seq (.reg 2 [⟨(some 4), .mov (.const (.bool false)), none⟩])
   (.keep 67106867 (
   .ret)))
   (.skip))))
 (.keep 67106867 (
 .seq (.seq (.reg 3 [⟨(some 11), .mov (.tmp 0), none⟩,
   ⟨(some 12), .blt .lenSl [.tmp 11], none⟩,
   ⟨(some 13), .mov (.const (.int .i64 0)), none⟩])
 (.keep 67104819 (
 .block 0 (.loop 67104819 (
   .seq (.reg 4 [⟨(some 14), .bin .lss .scal 3 (.tmp 13) (.tmp 12), none⟩])
   (.keep 67104819 (
   .seq (.cnd (.tmp 14)
     (.skip)
     (.exit 0))
   (.keep 67104819 (
   .seq (.block 1 (.seq (.reg 5 [⟨(some 15), .mov (.tmp 13), none⟩,
     ⟨(some 5), .mov (.tmp 15), none⟩])
   (.keep 67104819 (
   .seq (.draw 6 [⟨(some 16), .mov (.tmp 0), none⟩,
     ⟨(some 17), .mov (.tmp 5), none⟩,
     ⟨(some 18), .iad (.sl 1) (.tmp 16) (.tmp 17), none⟩,
     ⟨(some 19), .ld .sc (.tmp 18), none⟩,
     ⟨(some 20), .mov (.tmp 1), none⟩,
     ⟨(some 21), .mov (.tmp 5), none⟩,
     ⟨(some 22), .iad (.sl 1) (.tmp 20) (.tmp 21), none⟩,
     ⟨(some 23), .ld .sc (.tmp 22), none⟩,
     ⟨(some 24), .bin .neq .scal 3 (.tmp 19) (.tmp 23), none⟩] [[], [], [0, 1], [2], [], [], [4, 5], [6], [3, 7]])
   (.keep 67104819 (
   .cnd (.tmp 24)
     (.seq (.reg 7 [⟨(some 4), .mov (.const (.bool false)), none⟩])
     (.keep 67104819 (
     .ret)))
     (.skip)))))))
   (.keep 67104819 (
   .reg 8 [⟨(some 25), .bin .add .scal 3 (.tmp 13) (.const (.int .i64 1)), none⟩,
     ⟨(some 13), .mov (.tmp 25), none⟩])))))))))))
 (.keep 16 (
 .seq (.reg 9 [⟨(some 4), .mov (.const (.bool true)), none⟩])
 (.keep 16 (
 .ret)))))))),
 [.t 4]⟩
theorem c39 : trF Tryd.prog Tryd.f39 = some i39 := by kernel_rfl
theorem e39 : Ent Tryd.prog 39 := ent_of Tryd.func39 (by kernel_rfl) (by kernel_rfl)
-- quorate/script.number
def i43 : IF_ := ⟨45,
 .seq (.reg 0 [⟨(some 2), .mov (.const (.int .i64 0)), none⟩,
   ⟨(some 3), .mov (.const (.bool false)), none⟩])
 (.keep 35184372088797 (
 .seq (.seq (.reg 1 [⟨(some 7), .mov (.tmp 0), none⟩,
   ⟨(some 8), .bin .eql .scal 9 (.tmp 7) (.const (.string ⟨#[]⟩)), none⟩,
   ⟨(some 9), .mov (.tmp 8), none⟩,
   ⟨(some 10), .mov (.tmp 0), (some (9, false))⟩,
   ⟨(some 11), .blt .lenS [.tmp 10], (some (9, false))⟩,
   ⟨(some 12), .bin .gtr .scal 3 (.tmp 11) (.const (.int .i64 6)), (some (9, false))⟩,
   ⟨(some 13), .pck (.tmp 9) (.const (.bool true)) (.tmp 12), none⟩,
   ⟨(some 14), .mov (.tmp 13), none⟩,
   ⟨(some 15), .mov (.tmp 0), (some (14, false))⟩,
   ⟨(some 16), .blt .lenS [.tmp 15], (some (14, false))⟩,
   ⟨(some 17), .bin .gtr .scal 3 (.tmp 16) (.const (.int .i64 1)), (some (14, false))⟩,
   ⟨(some 18), .mov (.tmp 17), (some (14, false))⟩,
   ⟨(some 19), .mov (.tmp 0), (some (18, true))⟩,
   ⟨(some 20), .idx .str (.tmp 19) (.const (.int .i64 0)), (some (18, true))⟩,
   ⟨(some 21), .bin .eql .scal 5 (.tmp 20) (.const (.int .u8 48)), (some (18, true))⟩,
   ⟨(some 22), .pck (.tmp 18) (.tmp 21) (.const (.bool false)), (some (14, false))⟩,
   ⟨(some 23), .pck (.tmp 14) (.const (.bool true)) (.tmp 22), none⟩])
 (.keep 35184363700317 (
 .cnd (.tmp 23)
   (.seq (.reg 2 [⟨(some 2), .mov (.const (.int .i64 0)), none⟩,
     ⟨(some 3), .mov (.const (.bool false)), none⟩])
   (.keep 35184355311709 (
   .ret)))
   (.skip))))
 (.keep 35184355311709 (
 .seq (.reg 3 [⟨(some 4), .mov (.const (.int .i64 0)), none⟩])
 (.keep 35184355311709 (
 .seq (.seq (.reg 4 [⟨(some 24), .mov (.tmp 0), none⟩,
   ⟨(some 25), .cvt (.s2b 5) (.tmp 24), none⟩,
   ⟨(some 26), .blt .lenSl [.tmp 25], none⟩,
   ⟨(some 27), .mov (.const (.int .i64 0)), none⟩])
 (.keep 35184338534492 (
 .block 0 (.loop 35184338534492 (
   .seq (.reg 5 [⟨(some 28), .bin .lss .scal 3 (.tmp 27) (.tmp 26), none⟩])
   (.keep 35184338534492 (
   .seq (.cnd (.tmp 28)
     (.skip)
     (.exit 0))
   (.keep 35184338534492 (
   .seq (.block 1 (.seq (.reg 6 [⟨(some 29), .iad (.sl 1) (.tmp 25) (.tmp 27), none⟩,
     ⟨(some 30), .ld .sc (.tmp 29), none⟩,
     ⟨(some 6), .mov (.tmp 30), none⟩])
   (.keep 35184338534492 (
   .seq (.seq (.reg 7 [⟨(some 31), .mov (.tmp 6), none⟩,
     ⟨(some 32), .bin .lss .scal 5 (.tmp 31) (.const (.int .u8 48)), none⟩,
     ⟨(some 33), .mov (.tmp 32), none⟩,
     ⟨(some 34), .mov (.tmp 6), (some (33, false))⟩,
     ⟨(some 35), .bin .gtr .scal 5 (.tmp 34) (.const (.int .u8 57)), (some (33, false))⟩,
     ⟨(some 36), .pck (.tmp 33) (.const (.bool true)) (.tmp 35), none⟩])
   (.keep 35184338534492 (
   .cnd (.tmp 36)
     (.seq (.reg 8 [⟨(some 2), .mov (.const (.int .i64 0)), none⟩,
       ⟨(some 3), .mov (.const (.bool false)), none⟩])
     (.keep 35184338534492 (
     .ret)))
     (.skip))))
   (.keep 35184338534492 (
   .reg 9 [⟨(some 37), .mov (.tmp 4), none⟩,
     ⟨(some 38), .bin .mul .scal 3 (.const (.int .i64 10)) (.tmp 37), none⟩,
     ⟨(some 39), .mov (.tmp 6), none⟩,
     ⟨(some 40), .bin .sub .scal 5 (.tmp 39) (.const (.int .u8 48)), none⟩,
     ⟨(some 41), .cvt (.int .i64) (.tmp 40), none⟩,
     ⟨(some 42), .bin .add .scal 3 (.tmp 38) (.tmp 41), none⟩,
     ⟨(some 4), .mov (.tmp 42), none⟩]))))))
   (.keep 35184338534492 (
   .reg 10 [⟨(some 43), .bin .add .scal 3 (.tmp 27) (.const (.int .i64 1)), none⟩,
     ⟨(some 27), .mov (.tmp 43), none⟩])))))))))))
 (.keep 17592186044444 (
 .seq (.reg 11 [⟨(some 44), .mov (.tmp 4), none⟩,
   ⟨(some 2), .mov (.tmp 44), none⟩,
   ⟨(some 3), .mov (.const (.bool true)), none⟩])
 (.keep 12 (
 .ret)))))))))),
 [.t 2, .t 3]⟩
theorem c43 : trF Tryd.prog Tryd.f43 = some i43 := by kernel_rfl
theorem e43 : Ent Tryd.prog 43 := ent_of Tryd.func43 (by kernel_rfl) (by kernel_rfl)
-- quorate/script.hexed
def i44 : IF_ := ⟨45,
 .seq (.reg 0 [⟨(some 2), .alc (.cons 1 (.raw (.slice none 0 0)) .nil) 30, none⟩,
   ⟨(some 3), .alc (.cons 1 (.raw (.bool false)) .nil) 4, none⟩])
 (.keep 35184372088829 (
 .seq (.seq (.reg 1 [⟨(some 8), .mov (.tmp 0), none⟩,
   ⟨(some 9), .bin .eql .scal 9 (.tmp 8) (.const (.string ⟨#[45]⟩)), none⟩])
 (.keep 35184372088573 (
 .cnd (.tmp 9)
   (.seq (.reg 2 [⟨none, .st .sc (.tmp 2) (.const (.slice none 0 0)), none⟩,
     ⟨none, .st .sc (.tmp 3) (.const (.bool true)), none⟩])
   (.keep 35184372088061 (
   .ret)))
   (.skip))))
 (.keep 35184372088061 (
 .seq (.seq (.reg 3 [⟨(some 10), .mov (.tmp 0), none⟩,
   ⟨(some 11), .bin .eql .scal 9 (.tmp 10) (.const (.string ⟨#[]⟩)), none⟩,
   ⟨(some 12), .mov (.tmp 11), none⟩,
   ⟨(some 13), .mov (.tmp 0), (some (12, false))⟩,
   ⟨(some 14), .blt .lenS [.tmp 13], (some (12, false))⟩,
   ⟨(some 15), .bin .rem .scal 3 (.tmp 14) (.const (.int .i64 2)), (some (12, false))⟩,
   ⟨(some 16), .bin .neq .scal 3 (.tmp 15) (.const (.int .i64 0)), (some (12, false))⟩,
   ⟨(some 17), .pck (.tmp 12) (.const (.bool true)) (.tmp 16), none⟩])
 (.keep 35184371958013 (
 .cnd (.tmp 17)
   (.seq (.reg 4 [⟨none, .st .sc (.tmp 2) (.const (.slice none 0 0)), none⟩,
     ⟨none, .st .sc (.tmp 3) (.const (.bool false)), none⟩])
   (.keep 35184371826941 (
   .ret)))
   (.skip))))
 (.keep 35184371826941 (
 .seq (.reg 5 [⟨(some 4), .alc (.cons 1 (.raw (.slice none 0 0)) .nil) 30, none⟩])
 (.keep 35184371826941 (
 .seq (.seq (.reg 6 [⟨(some 18), .mov (.tmp 0), none⟩,
   ⟨(some 19), .cvt (.s2b 5) (.tmp 18), none⟩,
   ⟨(some 20), .cal (.func 55) [.tmp 19, .const (.int .i64 2)], none⟩])
 (.keep 35184371040508 (
 .block 0 (.rng (.tmp 20) [21] (.reg 7 [⟨(some 5), .mov (.tmp 21), none⟩]) (
   .block 1 (.seq (.draw 8 [⟨(some 22), .mov (.tmp 5), none⟩,
     ⟨(some 23), .iad (.sl 1) (.tmp 22) (.const (.int .i64 0)), none⟩,
     ⟨(some 24), .ld .sc (.tmp 23), none⟩,
     ⟨(some 25), .cal (.func 28) [.const (.string ⟨#[48, 49, 50, 51, 52, 53, 54, 55, 56, 57, 97, 98, 99, 100, 101, 102]⟩), .tmp 24], none⟩,
     ⟨(some 26), .mov (.tmp 5), none⟩,
     ⟨(some 27), .iad (.sl 1) (.tmp 26) (.const (.int .i64 1)), none⟩,
     ⟨(some 28), .ld .sc (.tmp 27), none⟩,
     ⟨(some 29), .cal (.func 28) [.const (.string ⟨#[48, 49, 50, 51, 52, 53, 54, 55, 56, 57, 97, 98, 99, 100, 101, 102]⟩), .tmp 28], none⟩,
     ⟨(some 6), .mov (.tmp 25), none⟩,
     ⟨(some 7), .mov (.tmp 29), none⟩] [[], [0], [1], [2], [], [4], [5], [6, 3], [3, 7, 0, 1, 2, 3], [7, 8, 0, 1, 2, 3, 4, 5, 6, 7, 8]])
   (.keep 35184369991932 (
   .seq (.seq (.reg 9 [⟨(some 30), .mov (.tmp 6), none⟩,
     ⟨(some 31), .bin .lss .scal 3 (.tmp 30) (.const (.int .i64 0)), none⟩,
     ⟨(some 32), .mov (.tmp 31), none⟩,
     ⟨(some 33), .mov (.tmp 7), (some (32, false))⟩,
     ⟨(some 34), .bin .lss .scal 3 (.tmp 33) (.const (.int .i64 0)), (some (32, false))⟩,
     ⟨(some 35), .pck (.tmp 32) (.const (.bool true)) (.tmp 34), none⟩])
   (.keep 35184369991932 (
   .cnd (.tmp 35)
     (.seq (.reg 10 [⟨none, .st .sc (.tmp 2) (.const (.slice none 0 0)), none⟩,
       ⟨none, .st .sc (.tmp 3) (.const (.bool false)), none⟩])
     (.keep 35184369991932 (
     .ret)))
     (.skip))))
   (.keep 35184369991932 (
   .reg 11 [⟨(some 36), .ld .sc (.tmp 4), none⟩,
     ⟨(some 37), .mov (.tmp 6), none⟩,
     ⟨(some 38), .bin .mul .scal 3 (.const (.int .i64 16)) (.tmp 37), none⟩,
     ⟨(some 39), .mov (.tmp 7), none⟩,
     ⟨(some 40), .bin .add .scal 3 (.tmp 38) (.tmp 39), none⟩,
     ⟨(some 41), .cvt (.int .u8) (.tmp 40), none⟩,
     ⟨(some 42), .bsl 5 .sc 1 (.int .u8 0) [(0, .tmp 41)], none⟩,
     ⟨(some 43), .blt (.app 1 5 1) [.tmp 36, .tmp 42], none⟩,
     ⟨none, .st .sc (.tmp 4) (.tmp 43), none⟩]))))))))))
 (.keep 17592186044444 (
 .seq (.reg 12 [⟨(some 44), .ld .sc (.tmp 4), none⟩,
   ⟨none, .st .sc (.tmp 2) (.tmp 44), none⟩,
   ⟨none, .st .sc (.tmp 3) (.const (.bool true)), none⟩])
 (.keep 12 (
 .ret)))))))))))),
 [.c 2 .sc, .c 3 .sc]⟩
theorem c44 : trF Tryd.prog Tryd.f44 = some i44 := by kernel_rfl
theorem e44 : Ent Tryd.prog 44 := ent_of Tryd.func44 (by kernel_rfl) (by kernel_rfl)
-- quorate/script.powers
def i45 : IF_ := ⟨28,
 .seq (.reg 0 [⟨(some 2), .alc (.cons 1 (.raw (.slice none 0 0)) .nil) 28, none⟩,
   ⟨(some 3), .alc (.cons 1 (.raw (.bool false)) .nil) 4, none⟩])
 (.keep 268435453 (
 .seq (.seq (.reg 1 [⟨(some 8), .mov (.tmp 0), none⟩,
   ⟨(some 9), .bin .eql .scal 9 (.tmp 8) (.const (.string ⟨#[45]⟩)), none⟩])
 (.keep 268435197 (
 .cnd (.tmp 9)
   (.seq (.reg 2 [⟨none, .st .sc (.tmp 2) (.const (.slice none 0 0)), none⟩,
     ⟨none, .st .sc (.tmp 3) (.const (.bool true)), none⟩])
   (.keep 268434685 (
   .ret)))
   (.skip))))
 (.keep 268434685 (
 .seq (.reg 3 [⟨(some 4), .alc (.cons 1 (.raw (.slice none 0 0)) .nil) 28, none⟩])
 (.keep 268434685 (
 .seq (.seq (.reg 4 [⟨(some 10), .mov (.tmp 0), none⟩,
   ⟨(some 11), .cal (.func 56) [.tmp 10, .const (.string ⟨#[44]⟩)], none⟩])
 (.keep 268433660 (
 .block 0 (.rng (.tmp 11) [12] (.reg 5 [⟨(some 5), .mov (.tmp 12), none⟩]) (
   .block 1 (.seq (.reg 6 [⟨(some 14), .mov (.tmp 5), none⟩,
     ⟨(some 15), .cal (.func 43) [.tmp 14], none⟩,
     ⟨(some 13), .mov (.tmp 15), none⟩,
     ⟨(some 16), .ext (.tmp 13) 0, none⟩,
     ⟨(some 17), .ext (.tmp 13) 1, none⟩,
     ⟨(some 6), .mov (.tmp 16), none⟩,
     ⟨(some 7), .mov (.tmp 17), none⟩])
   (.keep 268431612 (
   .seq (.seq (.reg 7 [⟨(some 18), .mov (.tmp 7), none⟩,
     ⟨(some 19), .un .not (.tmp 18), none⟩])
   (.keep 268431612 (
   .cnd (.tmp 19)
     (.seq (.reg 8 [⟨none, .st .sc (.tmp 2) (.const (.slice none 0 0)), none⟩,
       ⟨none, .st .sc (.tmp 3) (.const (.bool false)), none⟩])
     (.keep 268431612 (
     .ret)))
     (.skip))))
   (.keep 268431612 (
   .reg 9 [⟨(some 20), .ld .sc (.tmp 4), none⟩,
     ⟨(some 21), .mov (.tmp 6), none⟩,
     ⟨(some 22), .bsl 3 .sc 1 (.int .i64 0) [(0, .tmp 21)], none⟩,
     ⟨(some 23), .blt (.app 1 3 8) [.tmp 20, .tmp 22], none⟩,
     ⟨none, .st .sc (.tmp 4) (.tmp 23), none⟩]))))))))))
 (.keep 251658268 (
 .seq (.draw 10 [⟨(some 24), .ld .sc (.tmp 4), none⟩,
   ⟨(some 25), .ld .sc (.tmp 4), none⟩,
   ⟨(some 26), .blt .lenSl [.tmp 25], none⟩,
   ⟨(some 27), .bin .leq .scal 3 (.tmp 26) (.const (.int .i64 7)), none⟩,
   ⟨none, .st .sc (.tmp 2) (.tmp 24), none⟩,
   ⟨none, .st .sc (.tmp 3) (.tmp 27), none⟩] [[], [], [1], [2], [0, 0], [3, 4, 0, 1, 2, 3, 4]])
 (.keep 12 (
 .ret)))))))))),
 [.c 2 .sc, .c 3 .sc]⟩
theorem c45 : trF Tryd.prog Tryd.f45 = some i45 := by kernel_rfl
theorem e45 : Ent Tryd.prog 45 := ent_of Tryd.func45 (by kernel_rfl) (by kernel_rfl)
-- quorate/script.bitted
def i46 : IF_ := ⟨37,
 .seq (.reg 0 [⟨(some 2), .mov (.const (.slice none 0 0)), none⟩,
   ⟨(some 3), .mov (.const (.bool false)), none⟩])
 (.keep 137438953437 (
 .seq (.seq (.reg 1 [⟨(some 7), .mov (.tmp 0), none⟩,
   ⟨(some 8), .bin .eql .scal 9 (.tmp 7) (.const (.string ⟨#[45]⟩)), none⟩])
 (.keep 137438953309 (
 .cnd (.tmp 8)
   (.seq (.reg 2 [⟨(some 2), .mov (.const (.slice none 0 0)), none⟩,
     ⟨(some 3), .mov (.const (.bool true)), none⟩])
   (.keep 137438953053 (
   .ret)))
   (.skip))))
 (.keep 137438953053 (
 .seq (.reg 3 [⟨(some 4), .mov (.const (.slice none 0 0)), none⟩])
 (.keep 137438953053 (
 .seq (.seq (.reg 4 [⟨(some 9), .mov (.tmp 0), none⟩,
   ⟨(some 10), .cvt (.s2b 5) (.tmp 9), none⟩,
   ⟨(some 11), .blt .lenSl [.tmp 10], none⟩,
   ⟨(some 12), .mov (.const (.int .i64 0)), none⟩])
 (.keep 137438952540 (
 .block 0 (.loop 137438952540 (
   .seq (.reg 5 [⟨(some 13), .bin .lss .scal 3 (.tmp 12) (.tmp 11), none⟩])
   (.keep 137438952540 (
   .seq (.cnd (.tmp 13)
     (.skip)
     (.exit 0))
   (.keep 137438952540 (
   .seq (.block 1 (.seq (.reg 6 [⟨(some 14), .iad (.sl 1) (.tmp 10) (.tmp 12), none⟩,
     ⟨(some 15), .ld .sc (.tmp 14), none⟩,
     ⟨(some 6), .mov (.tmp 15), none⟩])
   (.keep 137438952540 (
   .seq (.seq (.reg 7 [⟨(some 16), .mov (.tmp 6), none⟩,
     ⟨(some 17), .bin .neq .scal 5 (.tmp 16) (.const (.int .u8 48)), none⟩,
     ⟨(some 18), .mov (.tmp 17), none⟩,
     ⟨(some 19), .mov (.tmp 6), (some (18, true))⟩,
     ⟨(some 20), .bin .neq .scal 5 (.tmp 19) (.const (.int .u8 49)), (some (18, true))⟩,
     ⟨(some 21), .pck (.tmp 18) (.tmp 20) (.const (.bool false)), none⟩])
   (.keep 137438952540 (
   .cnd (.tmp 21)
     (.seq (.reg 8 [⟨(some 2), .mov (.const (.slice none 0 0)), none⟩,
       ⟨(some 3), .mov (.const (.bool false)), none⟩])
     (.keep 137438952540 (
     .ret)))
     (.skip))))
   (.keep 137438952540 (
   .reg 9 [⟨(some 22), .mov (.tmp 4), none⟩,
     ⟨(some 23), .mov (.tmp 6), none⟩,
     ⟨(some 24), .bin .eql .scal 5 (.tmp 23) (.const (.int .u8 49)), none⟩,
     ⟨(some 25), .bsl 4 .sc 1 (.bool false) [(0, .tmp 24)], none⟩,
     ⟨(some 26), .blt (.app 1 4 1) [.tmp 22, .tmp 25], none⟩,
     ⟨(some 4), .mov (.tmp 26), none⟩]))))))
   (.keep 137438952540 (
   .reg 10 [⟨(some 27), .bin .add .scal 3 (.tmp 12) (.const (.int .i64 1)), none⟩,
     ⟨(some 12), .mov (.tmp 27), none⟩])))))))))))
 (.keep 137170518044 (
 .seq (.reg 11 [⟨(some 28), .mov (.tmp 4), none⟩,
   ⟨(some 29), .mov (.tmp 4), none⟩,
   ⟨(some 30), .blt .lenSl [.tmp 29], none⟩,
   ⟨(some 31), .bin .gtr .scal 3 (.tmp 30) (.const (.int .i64 0)), none⟩,
   ⟨(some 32), .mov (.tmp 31), none⟩,
   ⟨(some 33), .mov (.tmp 4), (some (32, true))⟩,
   ⟨(some 34), .blt .lenSl [.tmp 33], (some (32, true))⟩,
   ⟨(some 35), .bin .leq .scal 3 (.tmp 34) (.const (.int .i64 64)), (some (32, true))⟩,
   ⟨(some 36), .pck (.tmp 32) (.tmp 35) (.const (.bool false)), none⟩,
   ⟨(some 2), .mov (.tmp 28), none⟩,
   ⟨(some 3), .mov (.tmp 36), none⟩])
 (.keep 12 (
 .ret)))))))))),
 [.t 2, .t 3]⟩
theorem c46 : trF Tryd.prog Tryd.f46 = some i46 := by kernel_rfl
theorem e46 : Ent Tryd.prog 46 := ent_of Tryd.func46 (by kernel_rfl) (by kernel_rfl)
-- (*strings.Builder).WriteByte
def i48 : IF_ := ⟨17,
 .seq (.reg 0 [⟨(some 4), .mov (.const (.nilIface)), none⟩])
 (.keep 130995 (
 .seq (.reg 1 [⟨(some 5), .mov (.tmp 0), none⟩,
   ⟨(some 6), .cal (.func 36) [.tmp 5], none⟩])
 (.keep 130963 (
 .seq (.reg 2 [⟨(some 7), .mov (.tmp 0), none⟩,
   ⟨(some 8), .mov (.tmp 0), none⟩,
   ⟨(some 9), .nck (.tmp 8), none⟩,
   ⟨(some 10), .fad 1 (.tmp 9), none⟩,
   ⟨(some 11), .ld .sc (.tmp 10), none⟩,
   ⟨(some 12), .mov (.tmp 1), none⟩,
   ⟨(some 13), .bsl 5 .sc 1 (.int .u8 0) [(0, .tmp 12)], none⟩,
   ⟨(some 14), .blt (.app 1 5 1) [.tmp 11, .tmp 13], none⟩,
   ⟨(some 15), .nck (.tmp 7), none⟩,
   ⟨(some 16), .fad 1 (.tmp 15), none⟩,
   ⟨none, .st .sc (.tmp 16) (.tmp 14), none⟩])
 (.keep 16 (
 .seq (.reg 3 [⟨(some 4), .mov (.const (.nilIface)), none⟩])
 (.keep 16 (
 .ret)))))))),
 [.t 4]⟩
theorem c48 : trF Tryd.prog Tryd.f48 = some i48 := by kernel_rfl
theorem e48 : Ent Tryd.prog 48 := ent_of Tryd.func48 (by kernel_rfl) (by kernel_rfl)
-- slices.Chunk[[]byte,byte]
def i55 : IF_ := ⟨9,
 .seq (.reg 0 [⟨(some 2), .box .sc 30 (.tmp 0), none⟩,
   ⟨(some 3), .box .sc 3 (.tmp 1), none⟩,
   ⟨(some 4), .mov (.const (.nilFunc)), none⟩])
 (.keep 508 (
 .seq (.seq (.reg 1 [⟨(some 5), .ld .sc (.tmp 3), none⟩,
   ⟨(some 6), .bin .lss .scal 3 (.tmp 5) (.const (.int .i64 1)), none⟩])
 (.keep 476 (
 .cnd (.tmp 6)
   (.reg 2 [⟨(some 7), .mki 9 (.const (.string ⟨#[99, 97, 110, 110, 111, 116, 32, 98, 101, 32, 108, 101, 115, 115, 32, 116, 104, 97, 110, 32, 49]⟩)), none⟩,
     ⟨none, .oth, none⟩])
   (.skip))))
 (.keep 284 (
 .seq (.reg 3 [⟨(some 8), .mkf (.func 63) [] [.tmp 2, .tmp 3], none⟩,
   ⟨(some 4), .mov (.tmp 8), none⟩])
 (.keep 16 (
 .ret)))))),
 [.t 4]⟩
theorem c55 : trF Tryd.prog Tryd.f55 = some i55 := by kernel_rfl
theorem e55 : Ent Tryd.prog 55 := ent_of Tryd.func55 (by kernel_rfl) (by kernel_rfl)
-- strings.SplitSeq
def i56 : IF_ := ⟨8,
 .seq (.reg 0 [⟨(some 4), .mov (.const (.nilFunc)), none⟩])
 (.keep 243 (
 .seq (.reg 1 [⟨(some 5), .mov (.tmp 0), none⟩,
   ⟨(some 6), .mov (.tmp 1), none⟩,
   ⟨(some 7), .cal (.func 64) [.tmp 5, .tmp 6, .const (.int .i64 0)], none⟩,
   ⟨(some 4), .mov (.tmp 7), none⟩])
 (.keep 16 (
 .ret)))),
 [.t 4]⟩
theorem c56 : trF Tryd.prog Tryd.f56 = some i56 := by kernel_rfl
theorem e56 : Ent Tryd.prog 56 := ent_of Tryd.func56 (by kernel_rfl) (by kernel_rfl)
-- slices.Chunk[[]byte,byte]$1
def i63 : IF_ := ⟨31,
 .seq (.reg 0 [⟨(some 4), .mov (.const (.int .i64 0)), none⟩])
 (.keep 2147483639 (
 .block 0 (.loop 2147483639 (
   .seq (.seq (.reg 1 [⟨(some 6), .mov (.tmp 4), none⟩,
     ⟨(some 7), .ld .sc (.tmp 1), none⟩,
     ⟨(some 8), .blt .lenSl [.tmp 7], none⟩,
     ⟨(some 9), .bin .lss .scal 3 (.tmp 6) (.tmp 8), none⟩])
   (.keep 2147483639 (
   .cnd (.tmp 9)
     (.skip)
     (.exit 0))))
   (.keep 2147483639 (
   .seq (.block 1 (.seq (.draw 3 [⟨(some 13), .ld .sc (.tmp 2), none⟩,
     ⟨(some 14), .ld .sc (.tmp 1), none⟩,
     ⟨(some 15), .mov (.tmp 4), none⟩,
     ⟨(some 16), .slc (.sl 1) (.tmp 14) (some (.tmp 15)) none none, none⟩,
     ⟨(some 17), .blt .lenSl [.tmp 16], none⟩,
     ⟨(some 18), .blt .min [.tmp 13, .tmp 17], none⟩,
     ⟨(some 5), .mov (.tmp 18), none⟩] [[], [], [], [1, 2], [3], [0, 4], [5, 0, 1, 2, 3, 4, 5]])
   (.keep 2147483639 (
   .seq (.reg 4 [⟨(some 19), .mov (.tmp 0), none⟩,
     ⟨(some 20), .ld .sc (.tmp 1), none⟩,
     ⟨(some 21), .mov (.tmp 4), none⟩,
     ⟨(some 22), .mov (.tmp 4), none⟩,
     ⟨(some 23), .mov (.tmp 5), none⟩,
     ⟨(some 24), .bin .add .scal 3 (.tmp 22) (.tmp 23), none⟩,
     ⟨(some 25), .mov (.tmp 4), none⟩,
     ⟨(some 26), .mov (.tmp 5), none⟩,
     ⟨(some 27), .bin .add .scal 3 (.tmp 25) (.tmp 26), none⟩,
     ⟨(some 28), .slc (.sl 1) (.tmp 20) (some (.tmp 21)) (some (.tmp 24)) (some (.tmp 27)), none⟩,
     ⟨(some 29), .cal (.tmp 19) [.tmp 28], none⟩,
     ⟨(some 30), .un .not (.tmp 29), none⟩])
   (.keep 2147483639 (
   .cnd (.tmp 30)
     (.ret)
     (.skip)))))))
   (.keep 2147483639 (
   .reg 2 [⟨(some 10), .mov (.tmp 4), none⟩,
     ⟨(some 11), .ld .sc (.tmp 2), none⟩,
     ⟨(some 12), .bin .add .scal 3 (.tmp 10) (.tmp 11), none⟩,
     ⟨(some 4), .mov (.tmp 12), none⟩])))))))),
 []⟩
theorem c63 : trF Tryd.prog Tryd.f63 = some i63 := by kernel_rfl
theorem e63 : Ent Tryd.prog 63 := ent_of Tryd.func63 (by kernel_rfl) (by kernel_rfl)
-- strings.splitSeq
def i64 : IF_ := ⟨8,
 .seq (.reg 0 [⟨(some 3), .box .sc 9 (.tmp 0), none⟩,
   ⟨(some 4), .box .sc 9 (.tmp 1), none⟩,
   ⟨(some 5), .box .sc 3 (.tmp 2), none⟩,
   ⟨(some 6), .mov (.const (.nilFunc)), none⟩])
 (.keep 248 (
 .seq (.reg 1 [⟨(some 7), .mkf (.func 71) [] [.tmp 4, .tmp 3, .tmp 5], none⟩,
   ⟨(some 6), .mov (.tmp 7), none⟩])
 (.keep 64 (
 .ret)))),
 [.t 6]⟩
theorem c64 : trF Tryd.prog Tryd.f64 = some i64 := by kernel_rfl
theorem e64 : Ent Tryd.prog 64 := ent_of Tryd.func64 (by kernel_rfl) (by kernel_rfl)
-- strings.splitSeq$1
def i71 : IF_ := ⟨52,
 .seq (.seq (.reg 0 [⟨(some 9), .ld .sc (.tmp 1), none⟩,
   ⟨(some 10), .blt .lenS [.tmp 9], none⟩,
   ⟨(some 11), .bin .eql .scal 3 (.tmp 10) (.const (.int .i64 0)), none⟩])
 (.keep 2251799813683663 (
 .cnd (.tmp 11)
   (.seq (.block 0 (.loop 2251799813681615 (
     .seq (.seq (.reg 1 [⟨(some 12), .ld .sc (.tmp 2), none⟩,
       ⟨(some 13), .blt .lenS [.tmp 12], none⟩,
       ⟨(some 14), .bin .gtr .scal 3 (.tmp 13) (.const (.int .i64 0)), none⟩])
     (.keep 2251799813681615 (
     .cnd (.tmp 14)
       (.skip)
       (.exit 0))))
     (.keep 2251799813681615 (
     .block 1 (.seq (.reg 2 [⟨(some 16), .ld .sc (.tmp 2), none⟩,
       ⟨(some 17), .cal (.func 60) [.tmp 16], none⟩,
       ⟨(some 15), .mov (.tmp 17), none⟩,
       ⟨(some 18), .ext (.tmp 15) 0, none⟩,
       ⟨(some 19), .ext (.tmp 15) 1, none⟩,
       ⟨(some 5), .mov (.tmp 18), none⟩,
       ⟨(some 6), .mov (.tmp 19), none⟩])
     (.keep 2251799813681615 (
     .seq (.seq (.reg 3 [⟨(some 20), .mov (.tmp 0), none⟩,
       ⟨(some 21), .ld .sc (.tmp 2), none⟩,
       ⟨(some 22), .mov (.tmp 6), none⟩,
       ⟨(some 23), .slc .str (.tmp 21) none (some (.tmp 22)) none, none⟩,
       ⟨(some 24), .cal (.tmp 20) [.tmp 23], none⟩,
       ⟨(some 25), .un .not (.tmp 24), none⟩])
     (.keep 2251799813681615 (
     .cnd (.tmp 25)
       (.ret)
       (.skip))))
     (.keep 2251799813681615 (
     .reg 4 [⟨(some 26), .ld .sc (.tmp 2), none⟩,
       ⟨(some 27), .mov (.tmp 6), none⟩,
       ⟨(some 28), .slc .str (.tmp 26) (some (.tmp 27)) none none, none⟩,
       ⟨none, .st .sc (.tmp 2) (.tmp 28), none⟩]))))))))))
   (.keep 2251799276814735 (
   .ret)))
   (.skip))))
 (.keep 2251799276814735 (
 .seq (.block 2 (.loop 2251799276814735 (
   .block 3 (.seq (.reg 5 [⟨(some 29), .ld .sc (.tmp 2), none⟩,
     ⟨(some 30), .ld .sc (.tmp 1), none⟩,
     ⟨(some 31), .cal (.func 54) [.tmp 29, .tmp 30], none⟩,
     ⟨(some 7), .mov (.tmp 31), none⟩])
   (.keep 2251799276814735 (
   .seq (.seq (.reg 6 [⟨(some 32), .mov (.tmp 7), none⟩,
     ⟨(some 33), .bin .lss .scal 3 (.tmp 32) (.const (.int .i64 0)), none⟩])
   (.keep 2251799276814735 (
   .cnd (.tmp 33)
     (.exit 2)
     (.skip))))
   (.keep 2251799276814735 (
   .seq (.reg 7 [⟨(some 34), .ld .sc (.tmp 2), none⟩,
     ⟨(some 35), .mov (.tmp 7), none⟩,
     ⟨(some 36), .ld .sc (.tmp 3), none⟩,
     ⟨(some 37), .bin .add .scal 3 (.tmp 35) (.tmp 36), none⟩,
     ⟨(some 38), .slc .str (.tmp 34) none (some (.tmp 37)) none, none⟩,
     ⟨(some 8), .mov (.tmp 38), none⟩])
   (.keep 2251799276814735 (
   .seq (.seq (.reg 8 [⟨(some 39), .mov (.tmp 0), none⟩,
     ⟨(some 40), .mov (.tmp 8), none⟩,
     ⟨(some 41), .cal (.tmp 39) [.tmp 40], none⟩,
     ⟨(some 42), .un .not (.tmp 41), none⟩])
   (.keep 2251799276814735 (
   .cnd (.tmp 42)
     (.ret)
     (.skip))))
   (.keep 2251799276814735 (
   .reg 9 [⟨(some 43), .ld .sc (.tmp 2), none⟩,
     ⟨(some 44), .mov (.tmp 7), none⟩,
     ⟨(some 45), .ld .sc (.tmp 1), none⟩,
     ⟨(some 46), .blt .lenS [.tmp 45], none⟩,
     ⟨(some 47), .bin .add .scal 3 (.tmp 44) (.tmp 46), none⟩,
     ⟨(some 48), .slc .str (.tmp 43) (some (.tmp 47)) none none, none⟩,
     ⟨none, .st .sc (.tmp 2) (.tmp 48), none⟩]))))))))))))
 (.keep 1688849860263941 (
 .reg 10 [⟨(some 49), .mov (.tmp 0), none⟩,
   ⟨(some 50), .ld .sc (.tmp 2), none⟩,
   ⟨(some 51), .cal (.tmp 49) [.tmp 50], none⟩])))),
 []⟩
theorem c71 : trF Tryd.prog Tryd.f71 = some i71 := by kernel_rfl
theorem e71 : Ent Tryd.prog 71 := ent_of Tryd.func71 (by kernel_rfl) (by kernel_rfl)
end Go.Proofs
