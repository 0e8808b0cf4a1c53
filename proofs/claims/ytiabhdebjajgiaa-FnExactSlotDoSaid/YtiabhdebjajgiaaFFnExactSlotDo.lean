/- What each function of the program answers: one step of the plain machine, by the kernel. -/
import Derived.Test.YtiabhdebjajgiaaEFnExactSlotDo
set_option linter.unusedVariables false
set_option maxRecDepth 1000000
set_option maxHeartbeats 0
namespace Go.Proofs.Ytiabhdebjajgiaa.SFnExactSlotDo
open Go Go.Sx Go.Proofs
noncomputable def laws_szIntS (k : Nat) (a0 : V_sl_int) (a1 : V_int) : Option V_int := evalT E k 81 t_int [inp t_sl_int a0, inp t_int a1] []
theorem laws_szIntS_eq (k : Nat) (a0 : V_sl_int) (a1 : V_int) : laws_szIntS (k + 1) a0 a1 = 
 cond (decide (IntKind.i64.wrap (a1 - (↑(List.length a0) : Int)) < 0)) (some (-1)) (some (IntKind.i64.wrap (a1 - (↑(List.length a0) : Int)))) := by kernel_rfl

noncomputable def laws_szIntSS (k : Nat) (a0 : V_sl_sl_int) (a1 : V_int) : Option V_int := evalT E k 72 t_int [inp t_sl_sl_int a0, inp t_int a1] []
noncomputable def laws_szIntSS_5 (k : Nat) (j : Nat) (y0 : List V_sl_int) (y1 : Int) (y2 : Int) : Option V_int := loopAt E 72 t_int [true, true, true, false, true, false] [] [] k [] j (mkS 27 [(0, .c (.sl 38 t_sl_int y0)), (1, .c (.int .i64 y1)), (5, .c (.int .i64 y2))]) []
theorem laws_szIntSS_eq (k : Nat) (a0 : V_sl_sl_int) (a1 : V_int) : laws_szIntSS (k + 1) a0 a1 = 
 cond (decide (IntKind.i64.wrap (a1 - (↑(List.length a0) : Int)) < 0)) (some (-1)) (laws_szIntSS_5 k k a0 (IntKind.i64.wrap (a1 - (↑(List.length a0) : Int))) 0) := by kernel_rfl
theorem laws_szIntSS_5_eq (k : Nat) (j : Nat) (y0 : List V_sl_int) (y1 : Int) (y2 : Int) : laws_szIntSS_5 k (j + 1) y0 y1 y2 = 
 cond (decide (y2 < (↑y0.length : Int))) (
  cond (decide (0 ≤ y2)) (
   cond (decide (y2 < (↑y0.length : Int))) (
    (laws_szIntS k (y0.getD y2.toNat (dflt t_sl_int)) y1).bind fun x0 => 
     cond (decide (x0 < 0)) (some (-1)) (laws_szIntSS_5 k j y0 x0 (IntKind.i64.wrap (y2 + 1)))) (none)) (none)) (some y1) := by kernel_rfl

noncomputable def laws_szSlot (k : Nat) (a0 : V_laws_Slot) (a1 : V_int) : Option V_int := evalT E k 44 t_int [inp t_laws_Slot a0, inp t_int a1] []
theorem laws_szSlot_eq (k : Nat) (a0 : V_laws_Slot) (a1 : V_int) : laws_szSlot (k + 1) a0 a1 = 
 (laws_szIntSS k a0.2.2 a1).bind fun x0 => 
  cond (decide (x0 < 0)) (some (-1)) (some x0) := by kernel_rfl

noncomputable def laws_szSlotDisk (k : Nat) (a0 : V_laws_SlotDisk) (a1 : V_int) : Option V_int := evalT E k 17 t_int [inp t_laws_SlotDisk a0, inp t_int a1] []
theorem laws_szSlotDisk_eq (k : Nat) (a0 : V_laws_SlotDisk) (a1 : V_int) : laws_szSlotDisk (k + 1) a0 a1 = 
 (laws_szSlot k a0.1 a1).bind fun x0 => 
  cond (decide (x0 < 0)) (some (-1)) (
   (laws_szSlot k a0.2 x0).bind fun x1 => 
    cond (decide (x1 < 0)) (some (-1)) (some x1)) := by kernel_rfl

noncomputable def laws_szSlotStep (k : Nat) (a0 : V_laws_SlotStep) (a1 : V_int) : Option V_int := evalT E k 59 t_int [inp t_laws_SlotStep a0, inp t_int a1] []
theorem laws_szSlotStep_eq (k : Nat) (a0 : V_laws_SlotStep) (a1 : V_int) : laws_szSlotStep (k + 1) a0 a1 = 
 (laws_szIntS k a0.2.2.2.2 a1).bind fun x0 => 
  cond (decide (x0 < 0)) (some (-1)) (some x0) := by kernel_rfl

noncomputable def laws_szSlotStepS (k : Nat) (a0 : V_sl_laws_SlotStep) (a1 : V_int) : Option V_int := evalT E k 32 t_int [inp t_sl_laws_SlotStep a0, inp t_int a1] []
noncomputable def laws_szSlotStepS_5 (k : Nat) (j : Nat) (y0 : List V_laws_SlotStep) (y1 : Int) (y2 : Int) : Option V_int := loopAt E 32 t_int [true, true, true, false, true, false] [] [] k [] j (mkS 27 [(0, .c (.sl 80 t_laws_SlotStep y0)), (1, .c (.int .i64 y1)), (5, .c (.int .i64 y2))]) []
theorem laws_szSlotStepS_eq (k : Nat) (a0 : V_sl_laws_SlotStep) (a1 : V_int) : laws_szSlotStepS (k + 1) a0 a1 = 
 cond (decide (IntKind.i64.wrap (a1 - (↑(List.length a0) : Int)) < 0)) (some (-1)) (laws_szSlotStepS_5 k k a0 (IntKind.i64.wrap (a1 - (↑(List.length a0) : Int))) 0) := by kernel_rfl
theorem laws_szSlotStepS_5_eq (k : Nat) (j : Nat) (y0 : List V_laws_SlotStep) (y1 : Int) (y2 : Int) : laws_szSlotStepS_5 k (j + 1) y0 y1 y2 = 
 cond (decide (y2 < (↑y0.length : Int))) (
  cond (decide (0 ≤ y2)) (
   cond (decide (y2 < (↑y0.length : Int))) (
    (laws_szSlotStep k (y0.getD y2.toNat (dflt t_laws_SlotStep)) y1).bind fun x0 => 
     cond (decide (x0 < 0)) (some (-1)) (laws_szSlotStepS_5 k j y0 x0 (IntKind.i64.wrap (y2 + 1)))) (none)) (none)) (some y1) := by kernel_rfl

noncomputable def laws_toIntS (k : Nat) (a0 : V_sl_int) : Option (List V_int) := evalT E k 27 (.ow 3 t_int) [inp t_sl_int a0] []
noncomputable def laws_toIntS_3 (k : Nat) (j : Nat) (y0 : List V_int) (y1 : Int) (y2 : List V_int) : Option (List V_int) := loopAt E 27 (.ow 3 t_int) [true, true, false, true, false] [] [] k [] j (mkS 22 [(0, .c (.sl 3 t_int y0)), (3, .c (.o 0)), (4, .c (.int .i64 y1))]) [some (.own 3 t_int y2)]
theorem laws_toIntS_eq (k : Nat) (a0 : V_sl_int) : laws_toIntS (k + 1) a0 = 
 cond (decide ((↑(List.length a0) : Int) ≤ (↑(List.length a0) : Int))) (
  cond (decide ((↑(List.length a0) : Int).toNat * 8 ≤ 140737488351232)) (laws_toIntS_3 k k a0 0 (List.replicate (↑(List.length a0) : Int).toNat (dflt t_int))) (none)) (none) := by kernel_rfl
theorem laws_toIntS_3_eq (k : Nat) (j : Nat) (y0 : List V_int) (y1 : Int) (y2 : List V_int) : laws_toIntS_3 k (j + 1) y0 y1 y2 = 
 cond (decide (y1 < (↑y0.length : Int))) (
  cond (decide (0 ≤ y1)) (
   cond (decide (y1 < (↑y0.length : Int))) (
    cond (decide (0 ≤ y1)) (
     cond (decide (y1 < (↑y2.length : Int))) (
      cond (decide (y1.toNat < y2.length)) (laws_toIntS_3 k j y0 (IntKind.i64.wrap (y1 + 1)) (y2.set y1.toNat (y0.getD y1.toNat (dflt t_int)))) (none)) (none)) (none)) (none)) (none)) (some y2) := by kernel_rfl

noncomputable def laws_toIntSS (k : Nat) (a0 : V_sl_sl_int) : Option (List V_sl_int) := evalT E k 74 (.dw 38 t_sl_int) [inp t_sl_sl_int a0] []
noncomputable def laws_toIntSS_3 (k : Nat) (j : Nat) (y0 : List V_sl_int) (y1 : Int) (y2 : List V_sl_int) : Option (List V_sl_int) := loopAt E 74 (.dw 38 t_sl_int) [true, true, false, true, false] [] [] k [] j (mkS 23 [(0, .c (.sl 38 t_sl_int y0)), (3, .c (.o 0)), (4, .c (.int .i64 y1))]) [some (.dp 38 t_sl_int y2)]
theorem laws_toIntSS_eq (k : Nat) (a0 : V_sl_sl_int) : laws_toIntSS (k + 1) a0 = 
 cond (decide ((↑(List.length a0) : Int) ≤ (↑(List.length a0) : Int))) (
  cond (decide ((↑(List.length a0) : Int).toNat * 24 ≤ 140737488351232)) (laws_toIntSS_3 k k a0 0 (List.replicate (↑(List.length a0) : Int).toNat (dflt t_sl_int))) (none)) (none) := by kernel_rfl
theorem laws_toIntSS_3_eq (k : Nat) (j : Nat) (y0 : List V_sl_int) (y1 : Int) (y2 : List V_sl_int) : laws_toIntSS_3 k (j + 1) y0 y1 y2 = 
 cond (decide (y1 < (↑y0.length : Int))) (
  cond (decide (0 ≤ y1)) (
   cond (decide (y1 < (↑y0.length : Int))) (
    (laws_toIntS k (y0.getD y1.toNat (dflt t_sl_int))).bind fun x0 => 
     cond (decide (0 ≤ y1)) (
      cond (decide (y1 < (↑y2.length : Int))) (
       cond (decide (y1.toNat < y2.length)) (laws_toIntSS_3 k j y0 (IntKind.i64.wrap (y1 + 1)) (y2.set y1.toNat x0)) (none)) (none)) (none)) (none)) (none)) (some y2) := by kernel_rfl

noncomputable def laws_toSlot (k : Nat) (a0 : V_laws_Slot) : Option ((V_int × (V_int × List V_sl_int))) := evalT E k 46 (.pair t_int (.pair t_int (.dw 38 t_sl_int))) [inp t_laws_Slot a0] []
theorem laws_toSlot_eq (k : Nat) (a0 : V_laws_Slot) : laws_toSlot (k + 1) a0 = 
 (laws_toIntSS k a0.2.2).bind fun x0 => some (a0.1, a0.2.1, x0) := by kernel_rfl

noncomputable def laws_toSlotDisk (k : Nat) (a0 : V_laws_SlotDisk) : Option (((V_int × (V_int × List V_sl_int)) × (V_int × (V_int × List V_sl_int)))) := evalT E k 19 (.pair (.pair t_int (.pair t_int (.dw 38 t_sl_int))) (.pair t_int (.pair t_int (.dw 38 t_sl_int)))) [inp t_laws_SlotDisk a0] []
theorem laws_toSlotDisk_eq (k : Nat) (a0 : V_laws_SlotDisk) : laws_toSlotDisk (k + 1) a0 = 
 (laws_toSlot k a0.1).bind fun x0 => 
  (laws_toSlot k a0.2).bind fun x1 => some (((x0.1, x0.2.1, x0.2.2), x1.1, x1.2.1, x1.2.2)) := by kernel_rfl

noncomputable def laws_toSlotStep (k : Nat) (a0 : V_laws_SlotStep) : Option ((V_bool × (V_int × (V_int × (V_int × List V_int))))) := evalT E k 62 (.pair t_bool (.pair t_int (.pair t_int (.pair t_int (.ow 3 t_int))))) [inp t_laws_SlotStep a0] []
theorem laws_toSlotStep_eq (k : Nat) (a0 : V_laws_SlotStep) : laws_toSlotStep (k + 1) a0 = 
 (laws_toIntS k a0.2.2.2.2).bind fun x0 => some (a0.1, a0.2.1, a0.2.2.1, a0.2.2.2.1, x0) := by kernel_rfl

noncomputable def laws_toSlotStepS (k : Nat) (a0 : V_sl_laws_SlotStep) : Option (List V_impl_SlotStep) := evalT E k 34 (.dw 59 t_impl_SlotStep) [inp t_sl_laws_SlotStep a0] []
noncomputable def laws_toSlotStepS_3 (k : Nat) (j : Nat) (y0 : List V_laws_SlotStep) (y1 : Int) (y2 : List V_impl_SlotStep) : Option (List V_impl_SlotStep) := loopAt E 34 (.dw 59 t_impl_SlotStep) [true, true, false, true, false] [] [] k [] j (mkS 23 [(0, .c (.sl 80 t_laws_SlotStep y0)), (3, .c (.o 0)), (4, .c (.int .i64 y1))]) [some (.dp 59 t_impl_SlotStep y2)]
theorem laws_toSlotStepS_eq (k : Nat) (a0 : V_sl_laws_SlotStep) : laws_toSlotStepS (k + 1) a0 = 
 cond (decide ((↑(List.length a0) : Int) ≤ (↑(List.length a0) : Int))) (
  cond (decide ((↑(List.length a0) : Int).toNat * 56 ≤ 140737488351232)) (laws_toSlotStepS_3 k k a0 0 (List.replicate (↑(List.length a0) : Int).toNat (dflt t_impl_SlotStep))) (none)) (none) := by kernel_rfl
theorem laws_toSlotStepS_3_eq (k : Nat) (j : Nat) (y0 : List V_laws_SlotStep) (y1 : Int) (y2 : List V_impl_SlotStep) : laws_toSlotStepS_3 k (j + 1) y0 y1 y2 = 
 cond (decide (y1 < (↑y0.length : Int))) (
  cond (decide (0 ≤ y1)) (
   cond (decide (y1 < (↑y0.length : Int))) (
    (laws_toSlotStep k (y0.getD y1.toNat (dflt t_laws_SlotStep))).bind fun x0 => 
     cond (decide (0 ≤ y1)) (
      cond (decide (y1 < (↑y2.length : Int))) (
       cond (decide (y1.toNat < y2.length)) (laws_toSlotStepS_3 k j y0 (IntKind.i64.wrap (y1 + 1)) (y2.set y1.toNat (x0.1, x0.2.1, x0.2.2.1, x0.2.2.2.1, x0.2.2.2.2))) (none)) (none)) (none)) (none)) (none)) (some y2) := by kernel_rfl

noncomputable def spec_l22Max (k : Nat) : Option V_int := evalT E k 54 t_int [] []
theorem spec_l22Max_eq (k : Nat) : spec_l22Max (k + 1) = some 9999 := by kernel_rfl

noncomputable def spec_l6In (k : Nat) (a0 : V_int) (a1 : V_int) (a2 : V_int) : Option V_bool := evalT E k 73 t_bool [inp t_int a0, inp t_int a1, inp t_int a2] []
theorem spec_l6In_eq (k : Nat) (a0 : V_int) (a1 : V_int) (a2 : V_int) : spec_l6In (k + 1) a0 a1 a2 = 
 cond (decide (a0 ≥ a1)) (some (decide (a0 ≤ a2))) (some false) := by kernel_rfl

noncomputable def spec_l31Nums (k : Nat) (a0 : V_sl_int) : Option V_bool := evalT E k 53 t_bool [inp t_sl_int a0] []
noncomputable def spec_l31Nums_2 (k : Nat) (j : Nat) (y0 : List V_int) (y1 : Int) : Option V_bool := loopAt E 53 t_bool [true, false, true, false] [] [] k [] j (mkS 17 [(0, .c (.sl 3 t_int y0)), (3, .c (.int .i64 y1))]) []
theorem spec_l31Nums_eq (k : Nat) (a0 : V_sl_int) : spec_l31Nums (k + 1) a0 = spec_l31Nums_2 k k a0 0 := by kernel_rfl
theorem spec_l31Nums_2_eq (k : Nat) (j : Nat) (y0 : List V_int) (y1 : Int) : spec_l31Nums_2 k (j + 1) y0 y1 = 
 cond (decide (y1 < (↑y0.length : Int))) (
  cond (decide (0 ≤ y1)) (
   cond (decide (y1 < (↑y0.length : Int))) (
    (spec_l22Max k ).bind fun x0 => 
     (spec_l6In k (y0.getD y1.toNat (dflt t_int)) (-1) x0).bind fun x1 => 
      cond (!x1) (some false) (spec_l31Nums_2 k j y0 (IntKind.i64.wrap (y1 + 1)))) (none)) (none)) (some true) := by kernel_rfl

noncomputable def spec_l31SlotOk (k : Nat) (a0 : V_impl_Slot) : Option V_bool := evalT E k 45 t_bool [inp t_impl_Slot a0] []
noncomputable def spec_l31SlotOk_4 (k : Nat) (j : Nat) (y0 : Int) (y1 : V_impl_Slot) : Option V_bool := loopAt E 45 t_bool [true, true, false, true, false] [] [] k [] j (mkS 41 [(1, .c (.p 0 0)), (3, .c (.int .i64 y0))]) [some (.box 24 (cells t_impl_Slot y1))]
theorem spec_l31SlotOk_eq (k : Nat) (a0 : V_impl_Slot) : spec_l31SlotOk (k + 1) a0 = 
 (spec_l22Max k ).bind fun x0 => 
  (spec_l6In k a0.1 0 x0).bind fun x1 => 
   cond (!x1) (some false) (
    cond ((↑(List.length a0.2.2) : Int) != 160) (some false) (spec_l31SlotOk_4 k k 0 a0)) := by kernel_rfl
theorem spec_l31SlotOk_4_eq (k : Nat) (j : Nat) (y0 : Int) (y1 : V_impl_Slot) : spec_l31SlotOk_4 k (j + 1) y0 y1 = 
 cond (decide (y0 < (↑(List.length y1.2.2) : Int))) (
  cond (decide (0 ≤ y0)) (
   cond (decide (y0 < (↑(List.length y1.2.2) : Int))) (
    cond (decide ((↑(List.length (List.getD y1.2.2 y0.toNat (dflt t_sl_int))) : Int) > 8)) (some false) (
     cond (decide (0 ≤ y0)) (
      cond (decide (y0 < (↑(List.length y1.2.2) : Int))) (
       (spec_l31Nums k (List.getD y1.2.2 y0.toNat (dflt t_sl_int))).bind fun x0 => 
        cond (!x0) (some false) (spec_l31SlotOk_4 k j (IntKind.i64.wrap (y0 + 1)) y1)) (none)) (none))) (none)) (none)) (
  (spec_l6In k y1.2.1 0 1280).bind fun x1 => some x1) := by kernel_rfl

noncomputable def spec_SlotOk (k : Nat) (a0 : V_impl_SlotDisk) : Option V_bool := evalT E k 18 t_bool [inp t_impl_SlotDisk a0] []
theorem spec_SlotOk_eq (k : Nat) (a0 : V_impl_SlotDisk) : spec_SlotOk (k + 1) a0 = 
 (spec_l31SlotOk k a0.1).bind fun x0 => 
  cond (x0) (
   (spec_l31SlotOk k a0.2).bind fun x1 => 
    cond (x1) (
     cond (a0.1.1 != a0.2.1) (some true) (some (a0.1.1 == 0))) (some false)) (some false) := by kernel_rfl

noncomputable def spec_l31Copy (k : Nat) (a0 : V_impl_Slot) : Option ((V_int × (V_int × List V_sl_int))) := evalT E k 60 (.pair t_int (.pair t_int (.ow 38 t_sl_int))) [inp t_impl_Slot a0] []
noncomputable def spec_l31Copy_3 (k : Nat) (j : Nat) (y0 : Int) (y1 : V_impl_Slot) (y2 : Int) (y3 : Int) (y4 : Int) (y5 : Int) (y6 : List V_sl_int) (y7 : List V_sl_int) : Option ((V_int × (V_int × List V_sl_int))) := loopAt E 60 (.pair t_int (.pair t_int (.ow 38 t_sl_int))) [true, true, false, true, false] [] [] k [] j (mkS 30 [(1, .c (.p 0 0)), (2, .c (.p 1 0)), (3, .c (.p 2 0)), (4, .c (.int .i64 y0))]) [some (.box 24 (cells t_impl_Slot y1)), some (.box 24 [.int .i64 y2, .int .i64 y3, .o 3]), some (.box 24 [.int .i64 y4, .int .i64 y5, .o 4]), some (.own 38 t_sl_int y6), some (.own 38 t_sl_int y7)]
theorem spec_l31Copy_eq (k : Nat) (a0 : V_impl_Slot) : spec_l31Copy (k + 1) a0 = spec_l31Copy_3 k k 0 a0 0 0 a0.1 a0.2.1 [] [] := by kernel_rfl
theorem spec_l31Copy_3_eq (k : Nat) (j : Nat) (y0 : Int) (y1 : V_impl_Slot) (y2 : Int) (y3 : Int) (y4 : Int) (y5 : Int) (y6 : List V_sl_int) (y7 : List V_sl_int) : spec_l31Copy_3 k (j + 1) y0 y1 y2 y3 y4 y5 y6 y7 = 
 cond (decide (y0 < (↑(List.length y1.2.2) : Int))) (
  cond (decide (0 ≤ y0)) (
   cond (decide (y0 < (↑(List.length y1.2.2) : Int))) (
    cond (decide ((0 + List.length (List.getD y1.2.2 y0.toNat (dflt t_sl_int))) * 8 ≤ 140737488351232)) (
     cond (decide ((y7.length + 1) * 24 ≤ 140737488351232)) (spec_l31Copy_3 k j (IntKind.i64.wrap (y0 + 1)) y1 y2 y3 y4 y5 y6 (y7 ++ [[] ++ List.getD y1.2.2 y0.toNat (dflt t_sl_int)])) (none)) (none)) (none)) (none)) (some (y4, y5, y7)) := by kernel_rfl

noncomputable def spec_l31Step_h0 (k : Nat) (y0 : Int) (y1 : Int) (y2 : V_impl_SlotStep) (y3 : List V_sl_int) : Option ((V_int × (V_int × List V_sl_int))) := evalT E k 61 (.pair t_int (.pair t_int (.ow 38 t_sl_int))) [.v (.agg [.int .i64 y0, .int .i64 y1, .o 0]), inp t_impl_SlotStep y2] [some (.own 38 t_sl_int y3)]
theorem spec_l31Step_h0_eq (k : Nat) (y0 : Int) (y1 : Int) (y2 : V_impl_SlotStep) (y3 : List V_sl_int) : spec_l31Step_h0 (k + 1) y0 y1 y2 y3 = 
 cond (y2.2.1 == -1) (some (y2.2.2.1, y2.2.2.2.1, y3)) (
  (spec_l6In k y2.2.1 0 (IntKind.i64.wrap ((↑y3.length : Int) - 1))).bind fun x0 => 
   cond (x0) (
    cond (decide ((0 + List.length y2.2.2.2.2) * 8 ≤ 140737488351232)) (
     cond (decide (0 ≤ y2.2.1)) (
      cond (decide (y2.2.1 < (↑y3.length : Int))) (
       cond (decide (Int.toNat y2.2.1 < y3.length)) (some ((y0, y1, y3.set (Int.toNat y2.2.1) ([] ++ y2.2.2.2.2)))) (none)) (none)) (none)) (none)) (some (y0, y1, y3))) := by kernel_rfl

noncomputable def spec_SlotDo (k : Nat) (a0 : V_impl_SlotDisk) (a1 : V_sl_impl_SlotStep) (a2 : V_int) : Option V_impl_SlotDisk := evalT E k 33 t_impl_SlotDisk [inp t_impl_SlotDisk a0, inp t_sl_impl_SlotStep a1, inp t_int a2] []
noncomputable def spec_SlotDo_5 (k : Nat) (j : Nat) (y0 : List V_impl_SlotStep) (y1 : Int) (y2 : Int) (y3 : Int) (y4 : Int) (y5 : Int) (y6 : Int) (y7 : Int) (y8 : Int) (y9 : Int) (y10 : Int) (y11 : List V_sl_int) (y12 : List V_sl_int) (y13 : List V_sl_int) (y14 : List V_sl_int) : Option V_impl_SlotDisk := loopAt E 33 t_impl_SlotDisk [true, true, true, false, true, false] [] [] k [] j (mkS 64 [(1, .c (.sl 59 t_impl_SlotStep y0)), (2, .c (.int .i64 y1)), (6, .c (.p 0 0)), (7, .c (.p 1 0)), (8, .c (.int .i64 y2))]) [some (.box 26 [.int .i64 y3, .int .i64 y4, .o 2, .int .i64 y5, .int .i64 y6, .o 3]), some (.box 26 [.int .i64 y7, .int .i64 y8, .o 4, .int .i64 y9, .int .i64 y10, .o 5]), some (.own 38 t_sl_int y11), some (.own 38 t_sl_int y12), some (.fro 38 t_sl_int y13), some (.fro 38 t_sl_int y14)]
theorem spec_SlotDo_eq (k : Nat) (a0 : V_impl_SlotDisk) (a1 : V_sl_impl_SlotStep) (a2 : V_int) : spec_SlotDo (k + 1) a0 a1 a2 = 
 (spec_SlotOk k a0).bind fun x0 => 
  cond (!x0) (some (((0, 0, []), 0, 0, []))) (
   (spec_l31Copy k a0.1).bind fun x1 => 
    (spec_l31Copy k a0.2).bind fun x2 => spec_SlotDo_5 k k a1 a2 0 0 0 0 0 x1.1 x1.2.1 x2.1 x2.2.1 [] [] x1.2.2 x2.2.2) := by kernel_rfl
theorem spec_SlotDo_5_eq (k : Nat) (j : Nat) (y0 : List V_impl_SlotStep) (y1 : Int) (y2 : Int) (y3 : Int) (y4 : Int) (y5 : Int) (y6 : Int) (y7 : Int) (y8 : Int) (y9 : Int) (y10 : Int) (y11 : List V_sl_int) (y12 : List V_sl_int) (y13 : List V_sl_int) (y14 : List V_sl_int) : spec_SlotDo_5 k (j + 1) y0 y1 y2 y3 y4 y5 y6 y7 y8 y9 y10 y11 y12 y13 y14 = 
 cond (decide (y2 < (↑y0.length : Int))) (
  cond (decide (y2 < y1)) (
   (spec_l31Copy k ((y7, (y8, y13)))).bind fun x0 => 
    (spec_l31Copy k ((y9, (y10, y14)))).bind fun x1 => 
     cond (decide (0 ≤ y2)) (
      cond (decide (y2 < (↑y0.length : Int))) (
       cond ((y0.getD y2.toNat (dflt t_impl_SlotStep)).1) (
        cond (decide (0 ≤ y2)) (
         cond (decide (y2 < (↑y0.length : Int))) (
          (spec_l31Step_h0 k x1.1 x1.2.1 (y0.getD y2.toNat (dflt t_impl_SlotStep)) x1.2.2).bind fun x2 => 
           (spec_SlotOk k (x0, x2)).bind fun x3 => 
            cond (x3) (spec_SlotDo_5 k j y0 y1 (IntKind.i64.wrap (y2 + 1)) y3 y4 y5 y6 x0.1 x0.2.1 x2.1 x2.2.1 y11 y12 x0.2.2 x2.2.2) (spec_SlotDo_5 k j y0 y1 (IntKind.i64.wrap (y2 + 1)) y3 y4 y5 y6 y7 y8 y9 y10 y11 y12 y13 y14)) (none)) (none)) (
        cond (decide (0 ≤ y2)) (
         cond (decide (y2 < (↑y0.length : Int))) (
          (spec_l31Step_h0 k x0.1 x0.2.1 (y0.getD y2.toNat (dflt t_impl_SlotStep)) x0.2.2).bind fun x4 => 
           (spec_SlotOk k (x4, x1)).bind fun x5 => 
            cond (x5) (spec_SlotDo_5 k j y0 y1 (IntKind.i64.wrap (y2 + 1)) y3 y4 y5 y6 x4.1 x4.2.1 x1.1 x1.2.1 y11 y12 x4.2.2 x1.2.2) (spec_SlotDo_5 k j y0 y1 (IntKind.i64.wrap (y2 + 1)) y3 y4 y5 y6 y7 y8 y9 y10 y11 y12 y13 y14)) (none)) (none))) (none)) (none)) (some (((y7, y8, y13), y9, y10, y14)))) (some (((y7, y8, y13), y9, y10, y14))) := by kernel_rfl

noncomputable def impl_within (k : Nat) (a0 : V_int) (a1 : V_int) (a2 : V_int) : Option V_bool := evalT E k 75 t_bool [inp t_int a0, inp t_int a1, inp t_int a2] []
theorem impl_within_eq (k : Nat) (a0 : V_int) (a1 : V_int) (a2 : V_int) : impl_within (k + 1) a0 a1 a2 = 
 cond (decide (a0 ≥ a1)) (some (decide (a0 ≤ a2))) (some false) := by kernel_rfl

noncomputable def impl_slotNum (k : Nat) (a0 : V_int) : Option V_bool := evalT E k 77 t_bool [inp t_int a0] []
theorem impl_slotNum_eq (k : Nat) (a0 : V_int) : impl_slotNum (k + 1) a0 = 
 (impl_within k a0 (-1) 9999).bind fun x0 => some x0 := by kernel_rfl

noncomputable def impl_slotNums (k : Nat) (a0 : V_sl_int) : Option V_bool := evalT E k 55 t_bool [inp t_sl_int a0] []
noncomputable def impl_slotNums_2 (k : Nat) (j : Nat) (y0 : List V_int) (y1 : Int) (y2 : Int) : Option V_bool := loopAt E 55 t_bool [true, false, true, false] [] [] k [] j (mkS 15 [(5, .c (.sl 3 t_int y0)), (6, .c (.int .i64 y1)), (7, .c (.int .i64 y2))]) []
theorem impl_slotNums_eq (k : Nat) (a0 : V_sl_int) : impl_slotNums (k + 1) a0 = impl_slotNums_2 k k a0 ((↑(List.length a0) : Int)) 0 := by kernel_rfl
theorem impl_slotNums_2_eq (k : Nat) (j : Nat) (y0 : List V_int) (y1 : Int) (y2 : Int) : impl_slotNums_2 k (j + 1) y0 y1 y2 = 
 cond (decide (y2 < y1)) (
  cond (decide (0 ≤ y2)) (
   cond (decide (y2 < (↑y0.length : Int))) (
    (impl_slotNum k (y0.getD y2.toNat (dflt t_int))).bind fun x0 => 
     cond (!x0) (some false) (impl_slotNums_2 k j y0 y1 (IntKind.i64.wrap (y2 + 1)))) (none)) (none)) (some true) := by kernel_rfl

noncomputable def impl_slotOk (k : Nat) (a0 : V_impl_Slot) : Option V_bool := evalT E k 47 t_bool [inp t_impl_Slot a0] []
noncomputable def impl_slotOk_4 (k : Nat) (j : Nat) (y0 : List V_sl_int) (y1 : Int) (y2 : Int) : Option V_bool := loopAt E 47 t_bool [true, true, false, true, false] [] [] k [] j (mkS 37 [(22, .c (.sl 38 t_sl_int y0)), (23, .c (.int .i64 y1)), (24, .c (.int .i64 y2))]) []
theorem impl_slotOk_eq (k : Nat) (a0 : V_impl_Slot) : impl_slotOk (k + 1) a0 = 
 (impl_within k a0.1 0 9999).bind fun x0 => 
  cond (!x0) (some false) (
   (impl_within k a0.2.1 0 1280).bind fun x1 => 
    cond (!x1) (some false) (
     cond ((↑(List.length a0.2.2) : Int) != 160) (some false) (impl_slotOk_4 k k a0.2.2 ((↑(List.length a0.2.2) : Int)) 0))) := by kernel_rfl
theorem impl_slotOk_4_eq (k : Nat) (j : Nat) (y0 : List V_sl_int) (y1 : Int) (y2 : Int) : impl_slotOk_4 k (j + 1) y0 y1 y2 = 
 cond (decide (y2 < y1)) (
  cond (decide (0 ≤ y2)) (
   cond (decide (y2 < (↑y0.length : Int))) (
    cond (decide ((↑(List.length (y0.getD y2.toNat (dflt t_sl_int))) : Int) > 8)) (some false) (
     (impl_slotNums k (y0.getD y2.toNat (dflt t_sl_int))).bind fun x0 => 
      cond (!x0) (some false) (impl_slotOk_4 k j y0 y1 (IntKind.i64.wrap (y2 + 1))))) (none)) (none)) (some true) := by kernel_rfl

noncomputable def impl_SlotOk (k : Nat) (a0 : V_impl_SlotDisk) : Option V_bool := evalT E k 20 t_bool [inp t_impl_SlotDisk a0] []
theorem impl_SlotOk_eq (k : Nat) (a0 : V_impl_SlotDisk) : impl_SlotOk (k + 1) a0 = 
 (impl_slotOk k a0.1).bind fun x0 => 
  cond (x0) (
   (impl_slotOk k a0.2).bind fun x1 => 
    cond (x1) (
     cond (a0.1.1 != a0.2.1) (some true) (some (a0.1.1 == 0))) (some false)) (some false) := by kernel_rfl

noncomputable def slices_Clone_int_int (k : Nat) (a0 : V_sl_int) : Option (List V_int) := evalT E k 52 (.ow 3 t_int) [inp t_sl_int a0] []
theorem slices_Clone_int_int_eq (k : Nat) (a0 : V_sl_int) : slices_Clone_int_int (k + 1) a0 = 
 cond (decide ((0 + List.length a0) * 8 ≤ 140737488351232)) (some a0) (none) := by kernel_rfl

noncomputable def impl_copyEach_int_h0 (k : Nat) (y0 : V_sl_sl_int) : Option (List V_sl_int) := evalT E k 84 (.dw 38 t_sl_int) [inp t_sl_sl_int y0, .c (.fn 52 [])] []
noncomputable def impl_copyEach_int_h0_5 (k : Nat) (j : Nat) (y0 : List V_sl_int) (y1 : Int) (y2 : Int) (y3 : List V_sl_int) : Option (List V_sl_int) := loopAt E 84 (.dw 38 t_sl_int) [true, true, true, false, true, false] [] [] k [] j (mkS 29 [(1, .c (.fn 52 [])), (5, .c (.o 0)), (14, .c (.sl 38 t_sl_int y0)), (15, .c (.int .i64 y1)), (16, .c (.int .i64 y2))]) [some (.dp 38 t_sl_int y3)]
theorem impl_copyEach_int_h0_eq (k : Nat) (y0 : V_sl_sl_int) : impl_copyEach_int_h0 (k + 1) y0 = 
 cond ((↑(List.length y0) : Int) == 0) (some []) (
  cond (decide ((↑(List.length y0) : Int) ≤ (↑(List.length y0) : Int))) (
   cond (decide ((↑(List.length y0) : Int).toNat * 24 ≤ 140737488351232)) (impl_copyEach_int_h0_5 k k y0 ((↑(List.length y0) : Int)) 0 (List.replicate (↑(List.length y0) : Int).toNat (dflt t_sl_int))) (none)) (none)) := by kernel_rfl
theorem impl_copyEach_int_h0_5_eq (k : Nat) (j : Nat) (y0 : List V_sl_int) (y1 : Int) (y2 : Int) (y3 : List V_sl_int) : impl_copyEach_int_h0_5 k (j + 1) y0 y1 y2 y3 = 
 cond (decide (y2 < y1)) (
  cond (decide (0 ≤ y2)) (
   cond (decide (y2 < (↑y0.length : Int))) (
    (slices_Clone_int_int k (y0.getD y2.toNat (dflt t_sl_int))).bind fun x0 => 
     cond (decide (0 ≤ y2)) (
      cond (decide (y2 < (↑y3.length : Int))) (
       cond (decide (y2.toNat < y3.length)) (impl_copyEach_int_h0_5 k j y0 y1 (IntKind.i64.wrap (y2 + 1)) (y3.set y2.toNat x0)) (none)) (none)) (none)) (none)) (none)) (some y3) := by kernel_rfl

noncomputable def impl_copySlot (k : Nat) (a0 : V_impl_Slot) : Option ((V_int × (V_int × List V_sl_int))) := evalT E k 64 (.pair t_int (.pair t_int (.dw 38 t_sl_int))) [inp t_impl_Slot a0] []
theorem impl_copySlot_eq (k : Nat) (a0 : V_impl_Slot) : impl_copySlot (k + 1) a0 = 
 (impl_copyEach_int_h0 k a0.2.2).bind fun x0 => some (a0.1, a0.2.1, x0) := by kernel_rfl

noncomputable def impl_platter_head_1_h0 (k : Nat) (y0 : V_impl_Slot) (y1 : V_impl_SlotStep) : Option ((V_impl_Slot × ((Bool × (Int × (Int × (Int × (List V_int × Unit))))) × Unit))) := evalT E k 90 (.pair t_impl_Slot (.pair (.pair .bool (.pair (.int .i64) (.pair (.int .i64) (.pair (.int .i64) (.pair (.sl 3 t_int) .unit))))) .unit)) [inp t_impl_Slot y0, .c (.p 0 0)] [some (.box 59 (cells t_impl_SlotStep y1))]
theorem impl_platter_head_1_h0_eq (k : Nat) (y0 : V_impl_Slot) (y1 : V_impl_SlotStep) : impl_platter_head_1_h0 (k + 1) y0 y1 = some (((y1.2.2.1, y1.2.2.2.1, y0.2.2),
  (y1.1, y1.2.1, y1.2.2.1, y1.2.2.2.1, y1.2.2.2.2, ()), ())) := by kernel_rfl

noncomputable def impl_platter_with_h0 (k : Nat) (y0 : V_bool) (y1 : V_impl_platter) (y2 : V_impl_SlotStep) : Option ((V_impl_SlotDisk × ((Int × (Int × (List V_sl_int × (Int × (Int × (List V_sl_int × Unit)))))) × ((Bool × (Int × (Int × (Int × (List V_int × Unit))))) × Unit)))) := evalT E k 87 (.pair t_impl_SlotDisk (.pair (.pair (.int .i64) (.pair (.int .i64) (.pair (.sl 38 t_sl_int) (.pair (.int .i64) (.pair (.int .i64) (.pair (.sl 38 t_sl_int) .unit)))))) (.pair (.pair .bool (.pair (.int .i64) (.pair (.int .i64) (.pair (.int .i64) (.pair (.sl 3 t_int) .unit))))) .unit))) [.c (.p 0 0), inp t_bool y0, .c (.fn 90 [.p 1 0])] [some (.box 86 (cells t_impl_platter y1)), some (.box 59 (cells t_impl_SlotStep y2))]
theorem impl_platter_with_h0_eq (k : Nat) (y0 : V_bool) (y1 : V_impl_platter) (y2 : V_impl_SlotStep) : impl_platter_with_h0 (k + 1) y0 y1 y2 = 
 cond (y0) (
  (impl_platter_head_1_h0 k y1.2 y2).bind fun x0 => some ((((y1.1.1, y1.1.2.1, y1.1.2.2), x0.1.1, x0.1.2.1, x0.1.2.2),
  (y1.1.1, y1.1.2.1, y1.1.2.2, y1.2.1, y1.2.2.1, y1.2.2.2, ()),
  (x0.2.1.1, x0.2.1.2.1, x0.2.1.2.2.1, x0.2.1.2.2.2.1,
    x0.2.1.2.2.2.2.1, ()),
  ()))) (
  (impl_platter_head_1_h0 k y1.1 y2).bind fun x1 => some ((((x1.1.1, x1.1.2.1, x1.1.2.2), y1.2.1, y1.2.2.1, y1.2.2.2),
  (y1.1.1, y1.1.2.1, y1.1.2.2, y1.2.1, y1.2.2.1, y1.2.2.2, ()),
  (x1.2.1.1, x1.2.1.2.1, x1.2.1.2.2.1, x1.2.1.2.2.2.1,
    x1.2.1.2.2.2.2.1, ()),
  ()))) := by kernel_rfl

noncomputable def impl_platter_head_h0 (k : Nat) (y0 : V_impl_SlotStep) (y1 : V_impl_platter) : Option ((V_impl_SlotDisk × ((Int × (Int × (List V_sl_int × (Int × (Int × (List V_sl_int × Unit)))))) × Unit))) := evalT E k 83 (.pair t_impl_SlotDisk (.pair (.pair (.int .i64) (.pair (.int .i64) (.pair (.sl 38 t_sl_int) (.pair (.int .i64) (.pair (.int .i64) (.pair (.sl 38 t_sl_int) .unit)))))) .unit)) [.c (.p 0 0), inp t_impl_SlotStep y0] [some (.box 86 (cells t_impl_platter y1))]
theorem impl_platter_head_h0_eq (k : Nat) (y0 : V_impl_SlotStep) (y1 : V_impl_platter) : impl_platter_head_h0 (k + 1) y0 y1 = 
 (impl_platter_with_h0 k y0.1 y1 y0).bind fun x0 => some ((((x0.1.1.1, x0.1.1.2.1, x0.1.1.2.2), x0.1.2.1, x0.1.2.2.1, x0.1.2.2.2),
  (x0.2.1.1, x0.2.1.2.1, x0.2.1.2.2.1, x0.2.1.2.2.2.1,
    x0.2.1.2.2.2.2.1, x0.2.1.2.2.2.2.2.1, ()),
  ())) := by kernel_rfl

noncomputable def slices_Clone_int_int_n89 (k : Nat) (a0 : V_sl_sl_int) : Option (List V_sl_int) := evalT E k 89 (.ow 38 t_sl_int) [inp t_sl_sl_int a0] []
theorem slices_Clone_int_int_n89_eq (k : Nat) (a0 : V_sl_sl_int) : slices_Clone_int_int_n89 (k + 1) a0 = 
 cond (decide ((0 + List.length a0) * 24 ≤ 140737488351232)) (some a0) (none) := by kernel_rfl

noncomputable def impl_platter_sector_1_h0 (k : Nat) (y0 : V_impl_Slot) (y1 : V_impl_SlotStep) : Option ((V_impl_Slot × ((Bool × (Int × (Int × (Int × (List V_int × Unit))))) × Unit))) := evalT E k 88 (.pair t_impl_Slot (.pair (.pair .bool (.pair (.int .i64) (.pair (.int .i64) (.pair (.int .i64) (.pair (.sl 3 t_int) .unit))))) .unit)) [inp t_impl_Slot y0, .c (.p 0 0)] [some (.box 59 (cells t_impl_SlotStep y1))]
theorem impl_platter_sector_1_h0_eq (k : Nat) (y0 : V_impl_Slot) (y1 : V_impl_SlotStep) : impl_platter_sector_1_h0 (k + 1) y0 y1 = 
 (slices_Clone_int_int_n89 k y0.2.2).bind fun x0 => 
  (slices_Clone_int_int k y1.2.2.2.2).bind fun x1 => 
   cond (decide (0 ≤ y1.2.1)) (
    cond (decide (y1.2.1 < (↑(List.length x0) : Int))) (
     cond (decide (Int.toNat y1.2.1 < List.length x0)) (some (((y0.1, y0.2.1, List.set x0 (Int.toNat y1.2.1) x1),
  (y1.1, y1.2.1, y1.2.2.1, y1.2.2.2.1, y1.2.2.2.2, ()), ()))) (none)) (none)) (none) := by kernel_rfl

noncomputable def impl_platter_with_h1 (k : Nat) (y0 : V_bool) (y1 : V_impl_platter) (y2 : V_impl_SlotStep) : Option ((V_impl_SlotDisk × ((Int × (Int × (List V_sl_int × (Int × (Int × (List V_sl_int × Unit)))))) × ((Bool × (Int × (Int × (Int × (List V_int × Unit))))) × Unit)))) := evalT E k 87 (.pair t_impl_SlotDisk (.pair (.pair (.int .i64) (.pair (.int .i64) (.pair (.sl 38 t_sl_int) (.pair (.int .i64) (.pair (.int .i64) (.pair (.sl 38 t_sl_int) .unit)))))) (.pair (.pair .bool (.pair (.int .i64) (.pair (.int .i64) (.pair (.int .i64) (.pair (.sl 3 t_int) .unit))))) .unit))) [.c (.p 0 0), inp t_bool y0, .c (.fn 88 [.p 1 0])] [some (.box 86 (cells t_impl_platter y1)), some (.box 59 (cells t_impl_SlotStep y2))]
theorem impl_platter_with_h1_eq (k : Nat) (y0 : V_bool) (y1 : V_impl_platter) (y2 : V_impl_SlotStep) : impl_platter_with_h1 (k + 1) y0 y1 y2 = 
 cond (y0) (
  (impl_platter_sector_1_h0 k y1.2 y2).bind fun x0 => some ((((y1.1.1, y1.1.2.1, y1.1.2.2), x0.1.1, x0.1.2.1, x0.1.2.2),
  (y1.1.1, y1.1.2.1, y1.1.2.2, y1.2.1, y1.2.2.1, y1.2.2.2, ()),
  (x0.2.1.1, x0.2.1.2.1, x0.2.1.2.2.1, x0.2.1.2.2.2.1,
    x0.2.1.2.2.2.2.1, ()),
  ()))) (
  (impl_platter_sector_1_h0 k y1.1 y2).bind fun x1 => some ((((x1.1.1, x1.1.2.1, x1.1.2.2), y1.2.1, y1.2.2.1, y1.2.2.2),
  (y1.1.1, y1.1.2.1, y1.1.2.2, y1.2.1, y1.2.2.1, y1.2.2.2, ()),
  (x1.2.1.1, x1.2.1.2.1, x1.2.1.2.2.1, x1.2.1.2.2.2.1,
    x1.2.1.2.2.2.2.1, ()),
  ()))) := by kernel_rfl

noncomputable def impl_platter_sector_h0 (k : Nat) (y0 : V_impl_SlotStep) (y1 : V_impl_platter) : Option ((V_impl_SlotDisk × ((Int × (Int × (List V_sl_int × (Int × (Int × (List V_sl_int × Unit)))))) × Unit))) := evalT E k 82 (.pair t_impl_SlotDisk (.pair (.pair (.int .i64) (.pair (.int .i64) (.pair (.sl 38 t_sl_int) (.pair (.int .i64) (.pair (.int .i64) (.pair (.sl 38 t_sl_int) .unit)))))) .unit)) [.c (.p 0 0), inp t_impl_SlotStep y0] [some (.box 86 (cells t_impl_platter y1))]
theorem impl_platter_sector_h0_eq (k : Nat) (y0 : V_impl_SlotStep) (y1 : V_impl_platter) : impl_platter_sector_h0 (k + 1) y0 y1 = 
 (impl_platter_with_h1 k y0.1 y1 y0).bind fun x0 => some ((((x0.1.1.1, x0.1.1.2.1, x0.1.1.2.2), x0.1.2.1, x0.1.2.2.1, x0.1.2.2.2),
  (x0.2.1.1, x0.2.1.2.1, x0.2.1.2.2.1, x0.2.1.2.2.2.1,
    x0.2.1.2.2.2.2.1, x0.2.1.2.2.2.2.2.1, ()),
  ())) := by kernel_rfl

noncomputable def impl_platter_write_h0 (k : Nat) (y0 : V_impl_SlotStep) (y1 : V_impl_platter) : Option ((Unit × ((Int × (Int × (List V_sl_int × (Int × (Int × (List V_sl_int × Unit)))))) × Unit))) := evalT E k 63 (.pair .unit (.pair (.pair (.int .i64) (.pair (.int .i64) (.pair (.sl 38 t_sl_int) (.pair (.int .i64) (.pair (.int .i64) (.pair (.sl 38 t_sl_int) .unit)))))) .unit)) [.c (.p 0 0), inp t_impl_SlotStep y0] [some (.box 86 (cells t_impl_platter y1))]
theorem impl_platter_write_h0_eq (k : Nat) (y0 : V_impl_SlotStep) (y1 : V_impl_platter) : impl_platter_write_h0 (k + 1) y0 y1 = 
 (impl_within k y0.2.1 (-1) 159).bind fun x0 => 
  cond (!x0) (some (((), (y1.1.1, y1.1.2.1, y1.1.2.2, y1.2.1, y1.2.2.1, y1.2.2.2, ()), ()))) (
   cond (y0.2.1 == -1) (
    (impl_platter_head_h0 k y0 y1).bind fun x1 => 
     (impl_SlotOk k x1.1).bind fun x2 => 
      cond (x2) (some (((),
  (x1.1.1.1, x1.1.1.2.1, x1.1.1.2.2, x1.1.2.1, x1.1.2.2.1, x1.1.2.2.2, ()),
  ()))) (some (((),
  (x1.2.1.1, x1.2.1.2.1, x1.2.1.2.2.1, x1.2.1.2.2.2.1,
    x1.2.1.2.2.2.2.1, x1.2.1.2.2.2.2.2.1, ()),
  ())))) (
    (impl_platter_sector_h0 k y0 y1).bind fun x3 => 
     (impl_SlotOk k x3.1).bind fun x4 => 
      cond (x4) (some (((),
  (x3.1.1.1, x3.1.1.2.1, x3.1.1.2.2, x3.1.2.1, x3.1.2.2.1, x3.1.2.2.2, ()),
  ()))) (some (((),
  (x3.2.1.1, x3.2.1.2.1, x3.2.1.2.2.1, x3.2.1.2.2.2.1,
    x3.2.1.2.2.2.2.1, x3.2.1.2.2.2.2.2.1, ()),
  ()))))) := by kernel_rfl

noncomputable def impl_SlotDo (k : Nat) (a0 : V_impl_SlotDisk) (a1 : V_sl_impl_SlotStep) (a2 : V_int) : Option (((V_int × (V_int × List V_sl_int)) × (V_int × (V_int × List V_sl_int)))) := evalT E k 35 (.pair (.pair t_int (.pair t_int (.dw 38 t_sl_int))) (.pair t_int (.pair t_int (.dw 38 t_sl_int)))) [inp t_impl_SlotDisk a0, inp t_sl_impl_SlotStep a1, inp t_int a2] []
noncomputable def impl_SlotDo_5 (k : Nat) (j : Nat) (y0 : Int) (y1 : List V_impl_SlotStep) (y2 : Int) (y3 : Int) (y4 : Int) (y5 : Int) (y6 : Int) (y7 : Int) (y8 : V_impl_platter) (y9 : List V_sl_int) (y10 : List V_sl_int) : Option (((V_int × (V_int × List V_sl_int)) × (V_int × (V_int × List V_sl_int)))) := loopAt E 35 (.pair (.pair t_int (.pair t_int (.dw 38 t_sl_int))) (.pair t_int (.pair t_int (.dw 38 t_sl_int)))) [true, true, true, false, true, false] [] [] k [] j (mkS 44 [(2, .c (.int .i64 y0)), (6, .c (.p 0 0)), (7, .c (.p 1 0)), (17, .c (.sl 59 t_impl_SlotStep y1)), (18, .c (.int .i64 y2)), (19, .c (.int .i64 y3))]) [some (.box 26 [.int .i64 y4, .int .i64 y5, .o 2, .int .i64 y6, .int .i64 y7, .o 3]), some (.box 86 (cells t_impl_platter y8)), some (.own 38 t_sl_int y9), some (.own 38 t_sl_int y10)]
theorem impl_SlotDo_eq (k : Nat) (a0 : V_impl_SlotDisk) (a1 : V_sl_impl_SlotStep) (a2 : V_int) : impl_SlotDo (k + 1) a0 a1 a2 = 
 (impl_SlotOk k a0).bind fun x0 => 
  cond (!x0) (some (((0, 0, []), 0, 0, []))) (impl_SlotDo_5 k k a2 a1 ((↑(List.length a1) : Int)) 0 0 0 0 0 a0 [] []) := by kernel_rfl
theorem impl_SlotDo_5_eq (k : Nat) (j : Nat) (y0 : Int) (y1 : List V_impl_SlotStep) (y2 : Int) (y3 : Int) (y4 : Int) (y5 : Int) (y6 : Int) (y7 : Int) (y8 : V_impl_platter) (y9 : List V_sl_int) (y10 : List V_sl_int) : impl_SlotDo_5 k (j + 1) y0 y1 y2 y3 y4 y5 y6 y7 y8 y9 y10 = 
 cond (decide (y3 < y2)) (
  cond (decide (0 ≤ y3)) (
   cond (decide (y3 < (↑y1.length : Int))) (
    cond (decide (y3 ≥ y0)) (
     (impl_copySlot k y8.1).bind fun x0 => 
      (impl_copySlot k y8.2).bind fun x1 => some (((x0.1, x0.2.1, x0.2.2), x1.1, x1.2.1, x1.2.2))) (
     (impl_platter_write_h0 k (y1.getD y3.toNat (dflt t_impl_SlotStep)) y8).bind fun x2 => impl_SlotDo_5 k j y0 y1 y2 (IntKind.i64.wrap (y3 + 1)) y4 y5 y6 y7 (((x2.2.1.1, (x2.2.1.2.1, x2.2.1.2.2.1)), (x2.2.1.2.2.2.1, (x2.2.1.2.2.2.2.1, x2.2.1.2.2.2.2.2.1)))) y9 y10)) (none)) (none)) (
  (impl_copySlot k y8.1).bind fun x3 => 
   (impl_copySlot k y8.2).bind fun x4 => some (((x3.1, x3.2.1, x3.2.2), x4.1, x4.2.1, x4.2.2))) := by kernel_rfl

noncomputable def laws_eqIntS (k : Nat) (a0 : V_sl_int) (a1 : V_sl_int) : Option V_bool := evalT E k 23 t_bool [inp t_sl_int a0, inp t_sl_int a1] []
noncomputable def laws_eqIntS_4 (k : Nat) (j : Nat) (y0 : List V_int) (y1 : List V_int) (y2 : Int) : Option V_bool := loopAt E 23 t_bool [true, true, false, true, false] [] [] k [] j (mkS 26 [(0, .c (.sl 3 t_int y0)), (1, .c (.sl 3 t_int y1)), (5, .c (.int .i64 y2))]) []
theorem laws_eqIntS_eq (k : Nat) (a0 : V_sl_int) (a1 : V_sl_int) : laws_eqIntS (k + 1) a0 a1 = 
 cond ((↑(List.length a0) : Int) != (↑(List.length a1) : Int)) (some false) (laws_eqIntS_4 k k a0 a1 0) := by kernel_rfl
theorem laws_eqIntS_4_eq (k : Nat) (j : Nat) (y0 : List V_int) (y1 : List V_int) (y2 : Int) : laws_eqIntS_4 k (j + 1) y0 y1 y2 = 
 cond (decide (y2 < (↑y0.length : Int))) (
  cond (decide (0 ≤ y2)) (
   cond (decide (y2 < (↑y0.length : Int))) (
    cond (decide (0 ≤ y2)) (
     cond (decide (y2 < (↑y1.length : Int))) (
      cond (y0.getD y2.toNat (dflt t_int) != y1.getD y2.toNat (dflt t_int)) (some false) (laws_eqIntS_4 k j y0 y1 (IntKind.i64.wrap (y2 + 1)))) (none)) (none)) (none)) (none)) (some true) := by kernel_rfl

noncomputable def laws_eqIntSS (k : Nat) (a0 : V_sl_sl_int) (a1 : V_sl_sl_int) : Option V_bool := evalT E k 69 t_bool [inp t_sl_sl_int a0, inp t_sl_sl_int a1] []
noncomputable def laws_eqIntSS_4 (k : Nat) (j : Nat) (y0 : List V_sl_int) (y1 : List V_sl_int) (y2 : Int) : Option V_bool := loopAt E 69 t_bool [true, true, false, true, false] [] [] k [] j (mkS 27 [(0, .c (.sl 38 t_sl_int y0)), (1, .c (.sl 38 t_sl_int y1)), (5, .c (.int .i64 y2))]) []
theorem laws_eqIntSS_eq (k : Nat) (a0 : V_sl_sl_int) (a1 : V_sl_sl_int) : laws_eqIntSS (k + 1) a0 a1 = 
 cond ((↑(List.length a0) : Int) != (↑(List.length a1) : Int)) (some false) (laws_eqIntSS_4 k k a0 a1 0) := by kernel_rfl
theorem laws_eqIntSS_4_eq (k : Nat) (j : Nat) (y0 : List V_sl_int) (y1 : List V_sl_int) (y2 : Int) : laws_eqIntSS_4 k (j + 1) y0 y1 y2 = 
 cond (decide (y2 < (↑y0.length : Int))) (
  cond (decide (0 ≤ y2)) (
   cond (decide (y2 < (↑y0.length : Int))) (
    cond (decide (0 ≤ y2)) (
     cond (decide (y2 < (↑y1.length : Int))) (
      (laws_eqIntS k (y0.getD y2.toNat (dflt t_sl_int)) (y1.getD y2.toNat (dflt t_sl_int))).bind fun x0 => 
       cond (!x0) (some false) (laws_eqIntSS_4 k j y0 y1 (IntKind.i64.wrap (y2 + 1)))) (none)) (none)) (none)) (none)) (some true) := by kernel_rfl

noncomputable def laws_eqSlot (k : Nat) (a0 : V_impl_Slot) (a1 : V_impl_Slot) : Option V_bool := evalT E k 41 t_bool [inp t_impl_Slot a0, inp t_impl_Slot a1] []
theorem laws_eqSlot_eq (k : Nat) (a0 : V_impl_Slot) (a1 : V_impl_Slot) : laws_eqSlot (k + 1) a0 a1 = 
 cond (a0.1 != a1.1) (some false) (
  cond (a0.2.1 != a1.2.1) (some false) (
   (laws_eqIntSS k a0.2.2 a1.2.2).bind fun x0 => 
    cond (!x0) (some false) (some true))) := by kernel_rfl

noncomputable def laws_eqSlotDisk (k : Nat) (a0 : V_impl_SlotDisk) (a1 : V_impl_SlotDisk) : Option V_bool := evalT E k 14 t_bool [inp t_impl_SlotDisk a0, inp t_impl_SlotDisk a1] []
theorem laws_eqSlotDisk_eq (k : Nat) (a0 : V_impl_SlotDisk) (a1 : V_impl_SlotDisk) : laws_eqSlotDisk (k + 1) a0 a1 = 
 (laws_eqSlot k a0.1 a1.1).bind fun x0 => 
  cond (!x0) (some false) (
   (laws_eqSlot k a0.2 a1.2).bind fun x1 => 
    cond (!x1) (some false) (some true)) := by kernel_rfl

noncomputable def laws_eqSlotStep (k : Nat) (a0 : V_impl_SlotStep) (a1 : V_impl_SlotStep) : Option V_bool := evalT E k 58 t_bool [inp t_impl_SlotStep a0, inp t_impl_SlotStep a1] []
theorem laws_eqSlotStep_eq (k : Nat) (a0 : V_impl_SlotStep) (a1 : V_impl_SlotStep) : laws_eqSlotStep (k + 1) a0 a1 = 
 cond (!a0.1 == a1.1) (some false) (
  cond (a0.2.1 != a1.2.1) (some false) (
   cond (a0.2.2.1 != a1.2.2.1) (some false) (
    cond (a0.2.2.2.1 != a1.2.2.2.1) (some false) (
     (laws_eqIntS k a0.2.2.2.2 a1.2.2.2.2).bind fun x0 => 
      cond (!x0) (some false) (some true))))) := by kernel_rfl

noncomputable def laws_eqSlotStepS (k : Nat) (a0 : V_sl_impl_SlotStep) (a1 : V_sl_impl_SlotStep) : Option V_bool := evalT E k 29 t_bool [inp t_sl_impl_SlotStep a0, inp t_sl_impl_SlotStep a1] []
noncomputable def laws_eqSlotStepS_4 (k : Nat) (j : Nat) (y0 : List V_impl_SlotStep) (y1 : List V_impl_SlotStep) (y2 : Int) : Option V_bool := loopAt E 29 t_bool [true, true, false, true, false] [] [] k [] j (mkS 27 [(0, .c (.sl 59 t_impl_SlotStep y0)), (1, .c (.sl 59 t_impl_SlotStep y1)), (5, .c (.int .i64 y2))]) []
theorem laws_eqSlotStepS_eq (k : Nat) (a0 : V_sl_impl_SlotStep) (a1 : V_sl_impl_SlotStep) : laws_eqSlotStepS (k + 1) a0 a1 = 
 cond ((↑(List.length a0) : Int) != (↑(List.length a1) : Int)) (some false) (laws_eqSlotStepS_4 k k a0 a1 0) := by kernel_rfl
theorem laws_eqSlotStepS_4_eq (k : Nat) (j : Nat) (y0 : List V_impl_SlotStep) (y1 : List V_impl_SlotStep) (y2 : Int) : laws_eqSlotStepS_4 k (j + 1) y0 y1 y2 = 
 cond (decide (y2 < (↑y0.length : Int))) (
  cond (decide (0 ≤ y2)) (
   cond (decide (y2 < (↑y0.length : Int))) (
    cond (decide (0 ≤ y2)) (
     cond (decide (y2 < (↑y1.length : Int))) (
      (laws_eqSlotStep k (y0.getD y2.toNat (dflt t_impl_SlotStep)) (y1.getD y2.toNat (dflt t_impl_SlotStep))).bind fun x0 => 
       cond (!x0) (some false) (laws_eqSlotStepS_4 k j y0 y1 (IntKind.i64.wrap (y2 + 1)))) (none)) (none)) (none)) (none)) (some true) := by kernel_rfl

noncomputable def laws_markIntS_h0 (k : Nat) (y0 : V_int) (y1 : List V_int) : Option ((V_int × (List V_int × Unit))) := evalT E k 24 (.pair t_int (.pair (.ow 3 t_int) .unit)) [.c (.o 0), inp t_int y0] [some (.own 3 t_int y1)]
noncomputable def laws_markIntS_h0_2 (k : Nat) (j : Nat) (y0 : Int) (y1 : Int) (y2 : List V_int) : Option ((V_int × (List V_int × Unit))) := loopAt E 24 (.pair t_int (.pair (.ow 3 t_int) .unit)) [true, false, true, false] [none] [0] k [] j (mkS 19 [(0, .c (.o 0)), (1, .c (.int .i64 y0)), (5, .c (.int .i64 y1))]) [some (.own 3 t_int y2)]
theorem laws_markIntS_h0_eq (k : Nat) (y0 : V_int) (y1 : List V_int) : laws_markIntS_h0 (k + 1) y0 y1 = laws_markIntS_h0_2 k k y0 0 y1 := by kernel_rfl
theorem laws_markIntS_h0_2_eq (k : Nat) (j : Nat) (y0 : Int) (y1 : Int) (y2 : List V_int) : laws_markIntS_h0_2 k (j + 1) y0 y1 y2 = 
 cond (decide (y1 < (↑y2.length : Int))) (
  cond (decide (0 ≤ y1)) (
   cond (decide (y1 < (↑y2.length : Int))) (
    cond (decide (y1.toNat < y2.length)) (laws_markIntS_h0_2 k j (IntKind.i64.wrap (y0 + 1)) (IntKind.i64.wrap (y1 + 1)) (y2.set y1.toNat y0)) (none)) (none)) (none)) (some ((y0, y2, ()))) := by kernel_rfl

noncomputable def laws_markIntSS_h0 (k : Nat) (y0 : V_int) (y1 : List V_sl_int) : Option ((V_int × (List V_sl_int × Unit))) := evalT E k 70 (.pair t_int (.pair (.dw 38 t_sl_int) .unit)) [.c (.o 0), inp t_int y0] [some (.dp 38 t_sl_int y1)]
noncomputable def laws_markIntSS_h0_2 (k : Nat) (j : Nat) (y0 : Int) (y1 : Int) (y2 : List V_sl_int) : Option ((V_int × (List V_sl_int × Unit))) := loopAt E 70 (.pair t_int (.pair (.dw 38 t_sl_int) .unit)) [true, false, true, false] [none] [0] k [] j (mkS 19 [(0, .c (.o 0)), (1, .c (.int .i64 y0)), (5, .c (.int .i64 y1))]) [some (.dp 38 t_sl_int y2)]
theorem laws_markIntSS_h0_eq (k : Nat) (y0 : V_int) (y1 : List V_sl_int) : laws_markIntSS_h0 (k + 1) y0 y1 = laws_markIntSS_h0_2 k k y0 0 y1 := by kernel_rfl
theorem laws_markIntSS_h0_2_eq (k : Nat) (j : Nat) (y0 : Int) (y1 : Int) (y2 : List V_sl_int) : laws_markIntSS_h0_2 k (j + 1) y0 y1 y2 = 
 cond (decide (y1 < (↑y2.length : Int))) (
  cond (decide (0 ≤ y1)) (
   cond (decide (y1 < (↑y2.length : Int))) (
    cond (decide (y1.toNat < y2.length)) (
     (laws_markIntS_h0 k y0 (y2.getD y1.toNat (dflt t_sl_int))).bind fun x0 => laws_markIntSS_h0_2 k j x0.1 (IntKind.i64.wrap (y1 + 1)) (y2.modify y1.toNat fun x => x0.2.1)) (none)) (none)) (none)) (some ((y0, y2, ()))) := by kernel_rfl

noncomputable def laws_markSlot_h0 (k : Nat) (y0 : Int) (y1 : Int) (y2 : V_int) (y3 : List V_sl_int) : Option ((V_int × (List V_sl_int × Unit))) := evalT E k 42 (.pair t_int (.pair (.dw 38 t_sl_int) .unit)) [.v (.agg [.int .i64 y0, .int .i64 y1, .o 0]), inp t_int y2] [some (.dp 38 t_sl_int y3)]
theorem laws_markSlot_h0_eq (k : Nat) (y0 : Int) (y1 : Int) (y2 : V_int) (y3 : List V_sl_int) : laws_markSlot_h0 (k + 1) y0 y1 y2 y3 = 
 (laws_markIntSS_h0 k y2 y3).bind fun x0 => some ((x0.1, x0.2.1, ())) := by kernel_rfl

noncomputable def laws_markSlotDisk_h0 (k : Nat) (y0 : Int) (y1 : Int) (y2 : Int) (y3 : Int) (y4 : V_int) (y5 : List V_sl_int) (y6 : List V_sl_int) : Option ((V_int × (List V_sl_int × (List V_sl_int × Unit)))) := evalT E k 15 (.pair t_int (.pair (.dw 38 t_sl_int) (.pair (.dw 38 t_sl_int) .unit))) [.v (.agg [.int .i64 y0, .int .i64 y1, .o 0, .int .i64 y2, .int .i64 y3, .o 1]), inp t_int y4] [some (.dp 38 t_sl_int y5), some (.dp 38 t_sl_int y6)]
theorem laws_markSlotDisk_h0_eq (k : Nat) (y0 : Int) (y1 : Int) (y2 : Int) (y3 : Int) (y4 : V_int) (y5 : List V_sl_int) (y6 : List V_sl_int) : laws_markSlotDisk_h0 (k + 1) y0 y1 y2 y3 y4 y5 y6 = 
 (laws_markSlot_h0 k y0 y1 y4 y5).bind fun x0 => 
  (laws_markSlot_h0 k y2 y3 x0.1 y6).bind fun x1 => some ((x1.1, x0.2.1, x1.2.1, ())) := by kernel_rfl

noncomputable def laws_markSlotStepS_h0 (k : Nat) (y0 : V_int) (y1 : List V_impl_SlotStep) : Option ((V_int × (List V_impl_SlotStep × Unit))) := evalT E k 30 (.pair t_int (.pair (.dw 59 t_impl_SlotStep) .unit)) [.c (.o 0), inp t_int y0] [some (.dp 59 t_impl_SlotStep y1)]
noncomputable def laws_markSlotStepS_h0_2 (k : Nat) (j : Nat) (y0 : Int) (y1 : Int) (y2 : List V_impl_SlotStep) : Option ((V_int × (List V_impl_SlotStep × Unit))) := loopAt E 30 (.pair t_int (.pair (.dw 59 t_impl_SlotStep) .unit)) [true, false, true, false] [none] [0] k [] j (mkS 50 [(0, .c (.o 0)), (1, .c (.int .i64 y0)), (5, .c (.int .i64 y1))]) [some (.dp 59 t_impl_SlotStep y2)]
theorem laws_markSlotStepS_h0_eq (k : Nat) (y0 : V_int) (y1 : List V_impl_SlotStep) : laws_markSlotStepS_h0 (k + 1) y0 y1 = laws_markSlotStepS_h0_2 k k y0 0 y1 := by kernel_rfl
theorem laws_markSlotStepS_h0_2_eq (k : Nat) (j : Nat) (y0 : Int) (y1 : Int) (y2 : List V_impl_SlotStep) : laws_markSlotStepS_h0_2 k (j + 1) y0 y1 y2 = 
 cond (decide (y1 < (↑y2.length : Int))) (
  cond (decide (0 ≤ y1)) (
   cond (decide (y1 < (↑y2.length : Int))) (
    cond (decide (y1.toNat < y2.length)) (
     cond (decide (0 ≤ y1)) (
      cond (decide
  (y1 <
    (↑(y2.modify y1.toNat fun x =>
            (Decidable.rec (fun h => false) (fun h => true) ((y0.tmod 3).instDecidableEq 0), x.2.1, x.2.2.1,
              x.2.2.2.1, x.2.2.2.2)).length :
      Int))) (
       cond (decide
  (y1.toNat <
    (y2.modify y1.toNat fun x =>
        (Decidable.rec (fun h => false) (fun h => true) ((y0.tmod 3).instDecidableEq 0), x.2.1, x.2.2.1,
          x.2.2.2.1, x.2.2.2.2)).length)) (
        cond (decide (0 ≤ y1)) (
         cond (decide
  (y1 <
    (↑((y2.modify y1.toNat fun x =>
                (Decidable.rec (fun h => false) (fun h => true) ((y0.tmod 3).instDecidableEq 0), x.2.1,
                  x.2.2.1, x.2.2.2.1, x.2.2.2.2)).modify
            y1.toNat fun x =>
            (x.1, IntKind.i64.wrap (y0 + 1), x.2.2.1, x.2.2.2.1, x.2.2.2.2)).length :
      Int))) (
          cond (decide
  (y1.toNat <
    ((y2.modify y1.toNat fun x =>
            (Decidable.rec (fun h => false) (fun h => true) ((y0.tmod 3).instDecidableEq 0), x.2.1, x.2.2.1,
              x.2.2.2.1, x.2.2.2.2)).modify
        y1.toNat fun x =>
        (x.1, IntKind.i64.wrap (y0 + 1), x.2.2.1, x.2.2.2.1, x.2.2.2.2)).length)) (
           cond (decide (0 ≤ y1)) (
            cond (decide
  (y1 <
    (↑(((y2.modify y1.toNat fun x =>
                    (Decidable.rec (fun h => false) (fun h => true) ((y0.tmod 3).instDecidableEq 0), x.2.1,
                      x.2.2.1, x.2.2.2.1, x.2.2.2.2)).modify
                y1.toNat fun x =>
                (x.1, IntKind.i64.wrap (y0 + 1), x.2.2.1, x.2.2.2.1, x.2.2.2.2)).modify
            y1.toNat fun x =>
            (x.1, x.2.1, IntKind.i64.wrap (IntKind.i64.wrap (y0 + 1) + 1), x.2.2.2.1,
              x.2.2.2.2)).length :
      Int))) (
             cond (decide
  (y1.toNat <
    (((y2.modify y1.toNat fun x =>
                (Decidable.rec (fun h => false) (fun h => true) ((y0.tmod 3).instDecidableEq 0), x.2.1,
                  x.2.2.1, x.2.2.2.1, x.2.2.2.2)).modify
            y1.toNat fun x =>
            (x.1, IntKind.i64.wrap (y0 + 1), x.2.2.1, x.2.2.2.1, x.2.2.2.2)).modify
        y1.toNat fun x =>
        (x.1, x.2.1, IntKind.i64.wrap (IntKind.i64.wrap (y0 + 1) + 1), x.2.2.2.1,
          x.2.2.2.2)).length)) (
              cond (decide (0 ≤ y1)) (
               cond (decide
  (y1 <
    (↑((((y2.modify y1.toNat fun x =>
                        (Decidable.rec (fun h => false) (fun h => true) ((y0.tmod 3).instDecidableEq 0), x.2.1,
                          x.2.2.1, x.2.2.2.1, x.2.2.2.2)).modify
                    y1.toNat fun x =>
                    (x.1, IntKind.i64.wrap (y0 + 1), x.2.2.1, x.2.2.2.1, x.2.2.2.2)).modify
                y1.toNat fun x =>
                (x.1, x.2.1, IntKind.i64.wrap (IntKind.i64.wrap (y0 + 1) + 1), x.2.2.2.1,
                  x.2.2.2.2)).modify
            y1.toNat fun x =>
            (x.1, x.2.1, x.2.2.1, IntKind.i64.wrap (IntKind.i64.wrap (IntKind.i64.wrap (y0 + 1) + 1) + 1),
              x.2.2.2.2)).length :
      Int))) (
                cond (decide
  (y1.toNat <
    ((((y2.modify y1.toNat fun x =>
                    (Decidable.rec (fun h => false) (fun h => true) ((y0.tmod 3).instDecidableEq 0), x.2.1,
                      x.2.2.1, x.2.2.2.1, x.2.2.2.2)).modify
                y1.toNat fun x =>
                (x.1, IntKind.i64.wrap (y0 + 1), x.2.2.1, x.2.2.2.1, x.2.2.2.2)).modify
            y1.toNat fun x =>
            (x.1, x.2.1, IntKind.i64.wrap (IntKind.i64.wrap (y0 + 1) + 1), x.2.2.2.1,
              x.2.2.2.2)).modify
        y1.toNat fun x =>
        (x.1, x.2.1, x.2.2.1, IntKind.i64.wrap (IntKind.i64.wrap (IntKind.i64.wrap (y0 + 1) + 1) + 1),
          x.2.2.2.2)).length)) (
                 (laws_markIntS_h0 k (IntKind.i64.wrap (IntKind.i64.wrap (IntKind.i64.wrap (IntKind.i64.wrap (y0 + 1) + 1) + 1) + 1)) ((((((y2.modify y1.toNat fun x =>
                          (Decidable.rec (fun h => false) (fun h => true) ((y0.tmod 3).instDecidableEq 0), x.2.1,
                            x.2.2.1, x.2.2.2.1, x.2.2.2.2)).modify
                      y1.toNat fun x =>
                      (x.1, IntKind.i64.wrap (y0 + 1), x.2.2.1, x.2.2.2.1, x.2.2.2.2)).modify
                  y1.toNat fun x =>
                  (x.1, x.2.1, IntKind.i64.wrap (IntKind.i64.wrap (y0 + 1) + 1), x.2.2.2.1,
                    x.2.2.2.2)).modify
              y1.toNat fun x =>
              (x.1, x.2.1, x.2.2.1, IntKind.i64.wrap (IntKind.i64.wrap (IntKind.i64.wrap (y0 + 1) + 1) + 1),
                x.2.2.2.2)).getD
          y1.toNat (dflt t_impl_SlotStep)).2.2.2.2)).bind fun x0 => laws_markSlotStepS_h0_2 k j x0.1 (IntKind.i64.wrap (y1 + 1)) (((((y2.modify y1.toNat fun x =>
                  (Decidable.rec (fun h => false) (fun h => true) ((y0.tmod 3).instDecidableEq 0), x.2.1,
                    x.2.2.1, x.2.2.2.1, x.2.2.2.2)).modify
              y1.toNat fun x =>
              (x.1, IntKind.i64.wrap (y0 + 1), x.2.2.1, x.2.2.2.1, x.2.2.2.2)).modify
          y1.toNat fun x =>
          (x.1, x.2.1, IntKind.i64.wrap (IntKind.i64.wrap (y0 + 1) + 1), x.2.2.2.1,
            x.2.2.2.2)).modify
      y1.toNat fun x =>
      (x.1, x.2.1, x.2.2.1, IntKind.i64.wrap (IntKind.i64.wrap (IntKind.i64.wrap (y0 + 1) + 1) + 1),
        x.2.2.2.2)).modify
  y1.toNat fun x => (x.1, x.2.1, x.2.2.1, x.2.2.2.1, x0.2.1))) (none)) (none)) (none)) (none)) (none)) (none)) (none)) (none)) (none)) (none)) (none)) (none)) (none)) (none)) (none)) (some ((y0, y2, ()))) := by kernel_rfl

noncomputable def laws_heldIntS (k : Nat) (a0 : V_sl_int) (a1 : V_int) : Option V_int := evalT E k 25 t_int [inp t_sl_int a0, inp t_int a1] []
noncomputable def laws_heldIntS_2 (k : Nat) (j : Nat) (y0 : List V_int) (y1 : Int) (y2 : Int) : Option V_int := loopAt E 25 t_int [true, false, true, false] [] [] k [] j (mkS 21 [(0, .c (.sl 3 t_int y0)), (1, .c (.int .i64 y1)), (5, .c (.int .i64 y2))]) []
theorem laws_heldIntS_eq (k : Nat) (a0 : V_sl_int) (a1 : V_int) : laws_heldIntS (k + 1) a0 a1 = laws_heldIntS_2 k k a0 a1 0 := by kernel_rfl
theorem laws_heldIntS_2_eq (k : Nat) (j : Nat) (y0 : List V_int) (y1 : Int) (y2 : Int) : laws_heldIntS_2 k (j + 1) y0 y1 y2 = 
 cond (decide (y2 < (↑y0.length : Int))) (
  cond (decide (0 ≤ y2)) (
   cond (decide (y2 < (↑y0.length : Int))) (
    cond (y0.getD y2.toNat (dflt t_int) != y1) (some (-1)) (laws_heldIntS_2 k j y0 (IntKind.i64.wrap (y1 + 1)) (IntKind.i64.wrap (y2 + 1)))) (none)) (none)) (some y1) := by kernel_rfl

noncomputable def laws_heldIntSS (k : Nat) (a0 : V_sl_sl_int) (a1 : V_int) : Option V_int := evalT E k 71 t_int [inp t_sl_sl_int a0, inp t_int a1] []
noncomputable def laws_heldIntSS_2 (k : Nat) (j : Nat) (y0 : List V_sl_int) (y1 : Int) (y2 : Int) : Option V_int := loopAt E 71 t_int [true, false, true, false] [] [] k [] j (mkS 21 [(0, .c (.sl 38 t_sl_int y0)), (1, .c (.int .i64 y1)), (5, .c (.int .i64 y2))]) []
theorem laws_heldIntSS_eq (k : Nat) (a0 : V_sl_sl_int) (a1 : V_int) : laws_heldIntSS (k + 1) a0 a1 = laws_heldIntSS_2 k k a0 a1 0 := by kernel_rfl
theorem laws_heldIntSS_2_eq (k : Nat) (j : Nat) (y0 : List V_sl_int) (y1 : Int) (y2 : Int) : laws_heldIntSS_2 k (j + 1) y0 y1 y2 = 
 cond (decide (y2 < (↑y0.length : Int))) (
  cond (decide (0 ≤ y2)) (
   cond (decide (y2 < (↑y0.length : Int))) (
    (laws_heldIntS k (y0.getD y2.toNat (dflt t_sl_int)) y1).bind fun x0 => 
     cond (decide (x0 < 0)) (some (-1)) (laws_heldIntSS_2 k j y0 x0 (IntKind.i64.wrap (y2 + 1)))) (none)) (none)) (some y1) := by kernel_rfl

noncomputable def laws_heldSlot (k : Nat) (a0 : V_impl_Slot) (a1 : V_int) : Option V_int := evalT E k 43 t_int [inp t_impl_Slot a0, inp t_int a1] []
theorem laws_heldSlot_eq (k : Nat) (a0 : V_impl_Slot) (a1 : V_int) : laws_heldSlot (k + 1) a0 a1 = 
 (laws_heldIntSS k a0.2.2 a1).bind fun x0 => 
  cond (decide (x0 < 0)) (some (-1)) (some x0) := by kernel_rfl

noncomputable def laws_heldSlotDisk (k : Nat) (a0 : V_impl_SlotDisk) (a1 : V_int) : Option V_int := evalT E k 16 t_int [inp t_impl_SlotDisk a0, inp t_int a1] []
theorem laws_heldSlotDisk_eq (k : Nat) (a0 : V_impl_SlotDisk) (a1 : V_int) : laws_heldSlotDisk (k + 1) a0 a1 = 
 (laws_heldSlot k a0.1 a1).bind fun x0 => 
  cond (decide (x0 < 0)) (some (-1)) (
   (laws_heldSlot k a0.2 x0).bind fun x1 => 
    cond (decide (x1 < 0)) (some (-1)) (some x1)) := by kernel_rfl

noncomputable def laws_FnExactSlotDo (k : Nat) (a0 : V_laws_SlotDisk) (a1 : V_sl_laws_SlotStep) (a2 : V_int) : Option V_bool := evalT E k 7 t_bool [inp t_laws_SlotDisk a0, inp t_sl_laws_SlotStep a1, inp t_int a2] []
theorem laws_FnExactSlotDo_eq (k : Nat) (a0 : V_laws_SlotDisk) (a1 : V_sl_laws_SlotStep) (a2 : V_int) : laws_FnExactSlotDo (k + 1) a0 a1 a2 = 
 (laws_szSlotDisk k a0 1048576).bind fun x0 => 
  cond (decide (x0 < 0)) (some true) (
   (laws_szSlotStepS k a1 x0).bind fun x1 => 
    cond (decide (x1 < 0)) (some true) (
     (laws_toSlotDisk k a0).bind fun x2 => 
      (laws_toSlotStepS k a1).bind fun x3 => 
       (spec_SlotDo k x2 x3 a2).bind fun x4 => 
        (laws_toSlotDisk k a0).bind fun x5 => 
         (laws_toSlotStepS k a1).bind fun x6 => 
          (impl_SlotDo k x5 x6 a2).bind fun x7 => 
           (laws_eqSlotDisk k x7 x4).bind fun x8 => 
            cond (!x8) (some false) (
             (laws_toSlotDisk k a0).bind fun x9 => 
              (laws_eqSlotDisk k x5 x9).bind fun x10 => 
               cond (!x10) (some false) (
                (laws_toSlotStepS k a1).bind fun x11 => 
                 (laws_eqSlotStepS k x6 x11).bind fun x12 => 
                  cond (!x12) (some false) (
                   (laws_markSlotDisk_h0 k x5.1.1 x5.1.2.1 x5.2.1 x5.2.2.1 1 x5.1.2.2 x5.2.2.2).bind fun x13 => 
                    (laws_markSlotStepS_h0 k x13.1 x6).bind fun x14 => 
                     cond (decide (x14.1 < 0)) (some false) (
                      (laws_eqSlotDisk k x7 x4).bind fun x15 => 
                       cond (!x15) (some false) (
                        (laws_markSlotDisk_h0 k x7.1.1 x7.1.2.1 x7.2.1 x7.2.2.1 1 x7.1.2.2 x7.2.2.2).bind fun x16 => 
                         (laws_heldSlotDisk k (((x7.1.1, (x7.1.2.1, x16.2.1)), (x7.2.1, (x7.2.2.1, x16.2.2.1)))) 1).bind fun x17 => 
                          cond (decide (x17 < 0)) (some false) (
                           cond (x17 != x16.1) (some false) (
                            (laws_toSlotDisk k a0).bind fun x18 => 
                             (laws_toSlotStepS k a1).bind fun x19 => 
                              (impl_SlotDo k x18 x19 a2).bind fun x20 => 
                               (laws_eqSlotDisk k x20 x4).bind fun x21 => 
                                cond (!x21) (some false) (
                                 (laws_heldSlotDisk k (((x7.1.1, (x7.1.2.1, x16.2.1)), (x7.2.1, (x7.2.2.1, x16.2.2.1)))) 1).bind fun x22 => 
                                  cond (decide (x22 < 0)) (some false) (
                                   cond (x22 != x16.1) (some false) (some true)))))))))))) := by kernel_rfl

def Goal : Prop := ∀ (a0 : V_laws_SlotDisk) (a1 : V_sl_laws_SlotStep) (a2 : V_int), Go.Sx.Good t_laws_SlotDisk a0 → Go.Sx.Good t_sl_laws_SlotStep a1 → Go.Sx.Good t_int a2 → ∃ k, laws_FnExactSlotDo k a0 a1 a2 = some true
end Go.Proofs.Ytiabhdebjajgiaa.SFnExactSlotDo
