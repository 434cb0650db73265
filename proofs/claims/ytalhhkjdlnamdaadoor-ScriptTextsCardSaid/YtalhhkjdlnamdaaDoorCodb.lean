/-
  The code of further functions, in the symbolic machine's form.
-/
import Derived.Test.YtalhhkjdlnamdaaDoorCode
/- The functions of the program, as the symbolic machine takes them. -/
namespace Go.Proofs
open Go Go.SX
set_option maxRecDepth 100000
-- (*strings.Builder).Len
def i22 : IF_ := ⟨8,
 .seq (.reg 0 [⟨(some 2), .mov (.const (.int .i64 0)), none⟩])
 (.keep 253 (
 .seq (.reg 1 [⟨(some 3), .mov (.tmp 0), none⟩,
   ⟨(some 4), .nck (.tmp 3), none⟩,
   ⟨(some 5), .fad 1 (.tmp 4), none⟩,
   ⟨(some 6), .ld .sc (.tmp 5), none⟩,
   ⟨(some 7), .blt .lenSl [.tmp 6], none⟩,
   ⟨(some 2), .mov (.tmp 7), none⟩])
 (.keep 4 (
 .ret)))),
 [.t 2]⟩
theorem c22 : trF Tryd.prog Tryd.f22 = some i22 := by kernel_rfl
theorem e22 : Ent Tryd.prog 22 := ent_of Tryd.func22 (by kernel_rfl) (by kernel_rfl)
-- errors.Is
def i25 : IF_ := ⟨22,
 .seq (.reg 0 [⟨(some 4), .mov (.const (.bool false)), none⟩])
 (.keep 4194291 (
 .seq (.seq (.reg 1 [⟨(some 6), .mov (.tmp 0), none⟩,
   ⟨(some 7), .bin .eql .err 25 (.tmp 6) (.const (.nilIface)), none⟩,
   ⟨(some 8), .mov (.tmp 7), none⟩,
   ⟨(some 9), .mov (.tmp 1), (some (8, false))⟩,
   ⟨(some 10), .bin .eql .err 25 (.tmp 9) (.const (.nilIface)), (some (8, false))⟩,
   ⟨(some 11), .pck (.tmp 8) (.const (.bool true)) (.tmp 10), none⟩])
 (.keep 4192307 (
 .cnd (.tmp 11)
   (.seq (.reg 2 [⟨(some 12), .mov (.tmp 0), none⟩,
     ⟨(some 13), .mov (.tmp 1), none⟩,
     ⟨(some 14), .bin .eql .err 25 (.tmp 12) (.tmp 13), none⟩,
     ⟨(some 4), .mov (.tmp 14), none⟩])
   (.keep 4161587 (
   .ret)))
   (.skip))))
 (.keep 4161587 (
 .seq (.reg 3 [⟨(some 15), .mov (.tmp 1), none⟩,
   ⟨(some 16), .cal (.func 37) [.tmp 15], none⟩,
   ⟨(some 17), .oth, none⟩,
   ⟨(some 5), .mov (.tmp 17), none⟩])
 (.keep 3932211 (
 .seq (.reg 4 [⟨(some 18), .mov (.tmp 0), none⟩,
   ⟨(some 19), .mov (.tmp 1), none⟩,
   ⟨(some 20), .mov (.tmp 5), none⟩,
   ⟨(some 21), .cal (.func 38) [.tmp 18, .tmp 19, .tmp 20], none⟩,
   ⟨(some 4), .mov (.tmp 21), none⟩])
 (.keep 16 (
 .ret)))))))),
 [.t 4]⟩
theorem c25 : trF Tryd.prog Tryd.f25 = some i25 := by kernel_rfl
theorem e25 : Ent Tryd.prog 25 := ent_of Tryd.func25 (by kernel_rfl) (by kernel_rfl)
-- errors.is
def i38 : IF_ := ⟨54,
 .seq (.reg 0 [⟨(some 6), .mov (.const (.bool false)), none⟩])
 (.keep 18014398509471687 (
 .block 0 (.loop 18014398509471687 (
   .block 1 (.seq (.seq (.reg 1 [⟨(some 14), .mov (.tmp 2), none⟩,
     ⟨(some 15), .mov (.tmp 14), none⟩,
     ⟨(some 16), .mov (.tmp 0), (some (15, true))⟩,
     ⟨(some 17), .mov (.tmp 1), (some (15, true))⟩,
     ⟨(some 18), .bin .eql .err 25 (.tmp 16) (.tmp 17), (some (15, true))⟩,
     ⟨(some 19), .pck (.tmp 15) (.tmp 18) (.const (.bool false)), none⟩])
   (.keep 18014398509471687 (
   .cnd (.tmp 19)
     (.seq (.reg 2 [⟨(some 6), .mov (.const (.bool true)), none⟩])
     (.keep 18014398509471687 (
     .ret)))
     (.skip))))
   (.keep 18014398509471687 (
   .seq (.seq (.reg 3 [⟨(some 21), .mov (.tmp 0), none⟩,
     ⟨(some 22), .oth, none⟩,
     ⟨(some 20), .mov (.tmp 22), none⟩,
     ⟨(some 23), .ext (.tmp 20) 0, none⟩,
     ⟨(some 24), .ext (.tmp 20) 1, none⟩,
     ⟨(some 7), .mov (.tmp 23), none⟩,
     ⟨(some 8), .mov (.tmp 24), none⟩])
   (.keep 18014398509471687 (
   .seq (.reg 4 [⟨(some 25), .mov (.tmp 8), none⟩,
     ⟨(some 26), .mov (.tmp 25), none⟩,
     ⟨(some 27), .mov (.tmp 7), (some (26, true))⟩,
     ⟨(some 28), .mov (.tmp 1), (some (26, true))⟩,
     ⟨(some 29), .oth, (some (26, true))⟩,
     ⟨(some 30), .pck (.tmp 26) (.tmp 29) (.const (.bool false)), none⟩])
   (.keep 18014398509471687 (
   .cnd (.tmp 30)
     (.seq (.reg 5 [⟨(some 6), .mov (.const (.bool true)), none⟩])
     (.keep 18014398509471687 (
     .ret)))
     (.skip))))))
   (.keep 18014398509471687 (
   .seq (.reg 6 [⟨(some 31), .mov (.tmp 0), none⟩])
   (.keep 18014398509471687 (
   .block 2 (.seq (.reg 9 [⟨(some 32), .oth, none⟩,
     ⟨(some 33), .ext (.tmp 32) 1, none⟩,
     ⟨(some 34), .ext (.tmp 32) 0, none⟩])
   (.keep 18014398509471687 (
   .cnd (.tmp 33)
     (.seq (.reg 10 [⟨(some 9), .mov (.tmp 34), none⟩])
     (.keep 18014398509471687 (
     .seq (.reg 11 [⟨(some 35), .mov (.tmp 9), none⟩,
       ⟨(some 36), .oth, none⟩,
       ⟨(some 0), .mov (.tmp 36), none⟩])
     (.keep 18014398509471687 (
     .seq (.reg 12 [⟨(some 37), .mov (.tmp 0), none⟩,
       ⟨(some 38), .bin .eql .err 25 (.tmp 37) (.const (.nilIface)), none⟩])
     (.keep 18014398509471687 (
     .cnd (.tmp 38)
       (.seq (.reg 13 [⟨(some 6), .mov (.const (.bool false)), none⟩])
       (.keep 18014398509471687 (
       .ret)))
       (.skip))))))))
     (.seq (.reg 14 [⟨(some 39), .oth, none⟩,
       ⟨(some 40), .ext (.tmp 39) 1, none⟩,
       ⟨(some 41), .ext (.tmp 39) 0, none⟩])
     (.keep 18014398509471687 (
     .cnd (.tmp 40)
       (.seq (.reg 15 [⟨(some 10), .mov (.tmp 41), none⟩])
       (.keep 18014398509471687 (
       .seq (.seq (.reg 16 [⟨(some 42), .mov (.tmp 10), none⟩,
         ⟨(some 43), .oth, none⟩,
         ⟨(some 44), .blt .lenSl [.tmp 43], none⟩,
         ⟨(some 45), .mov (.const (.int .i64 0)), none⟩])
       (.keep 18014398509471687 (
       .block 3 (.loop 18014398509471687 (
         .seq (.reg 17 [⟨(some 46), .bin .lss .scal 3 (.tmp 45) (.tmp 44), none⟩])
         (.keep 18014398509471687 (
         .seq (.cnd (.tmp 46)
           (.skip)
           (.exit 3))
         (.keep 18014398509471687 (
         .seq (.block 4 (.seq (.reg 18 [⟨(some 47), .iad (.sl 1) (.tmp 43) (.tmp 45), none⟩,
           ⟨(some 48), .ld .sc (.tmp 47), none⟩,
           ⟨(some 12), .mov (.tmp 48), none⟩])
         (.keep 18014398509471687 (
         .seq (.reg 19 [⟨(some 49), .mov (.tmp 12), none⟩,
           ⟨(some 50), .mov (.tmp 1), none⟩,
           ⟨(some 51), .mov (.tmp 2), none⟩,
           ⟨(some 52), .cal (.func 38) [.tmp 49, .tmp 50, .tmp 51], none⟩])
         (.keep 18014398509471687 (
         .cnd (.tmp 52)
           (.seq (.reg 20 [⟨(some 6), .mov (.const (.bool true)), none⟩])
           (.keep 18014398509471687 (
           .ret)))
           (.skip)))))))
         (.keep 18014398509471687 (
         .reg 21 [⟨(some 53), .bin .add .scal 3 (.tmp 45) (.const (.int .i64 1)), none⟩,
           ⟨(some 45), .mov (.tmp 53), none⟩])))))))))))
       (.keep 18014398509471687 (
       .seq (.reg 22 [⟨(some 6), .mov (.const (.bool false)), none⟩])
       (.keep 18014398509471687 (
       .ret)))))))
       (.seq (.reg 7 [⟨(some 13), .mov (.tmp 31), none⟩])
       (.keep 18014398509471687 (
       .seq (.reg 8 [⟨(some 6), .mov (.const (.bool false)), none⟩])
       (.keep 18014398509471687 (
       .ret)))))))))))))))))))))),
 [.t 6]⟩
theorem c38 : trF Tryd.prog Tryd.f38 = some i38 := by kernel_rfl
theorem e38 : Ent Tryd.prog 38 := ent_of Tryd.func38 (by kernel_rfl) (by kernel_rfl)
end Go.Proofs
