/- What each function of the program answers: one step of the plain machine, by the kernel. -/
import Derived.Test.YtiabhdebjajgiaaEFnExactSlotRead
set_option linter.unusedVariables false
set_option maxRecDepth 1000000
set_option maxHeartbeats 0
namespace Go.Proofs.Ytiabhdebjajgiaa.SFnExactSlotRead
open Go Go.Sx Go.Proofs
noncomputable def laws_szIntS (k : Nat) (a0 : V_sl_int) (a1 : V_int) : Option V_int := evalT E k 81 t_int [inp t_sl_int a0, inp t_int a1] []
theorem laws_szIntS_eq (k : Nat) (a0 : V_sl_int) (a1 : V_int) : laws_szIntS (k + 1) a0 a1 = 
 cond (decide (IntKind.i64.wrap (a1 - (↑(List.length a0) : Int)) < 0)) (some (-1)) (some (IntKind.i64.wrap (a1 - (↑(List.length a0) : Int)))) := by kernel_rfl

noncomputable def laws_szIntSS (k : Nat) (a0 : V_sl_sl_int) (a1 : V_int) : Option V_int := evalT E k 72 t_int [inp t_sl_sl_int a0, inp t_int a1] []
noncomputable def laws_szIntSS_5 (k : Nat) (j : Nat) (y0 : List V_sl_int) (y1 : Int) (y2 : Int) : Option V_int := loopAt E 72 t_int [true, true, true, false, true, false] [] [] k [] j (mkS 27 [(0, .c (.sl 38 t_sl_int y0)), (1, .c (.int .i64 y1)), (5, .c (.int .i64 y2))]) []
theorem laws_szIntSS_eq (k : Nat) (a0 : V_sl_sl_int) (a1 : V_int) : laws_szIntSS (k + 1) a0 a1 = 
 cond (decide (IntKind.i64.wrap (a1 - (↑(List.length a0) : Int)) < 0)) (some (-1)) (laws_szIntSS_5 k k a0 (IntKind.i64.wrap (a1 - (↑(List.length a0) : Int))) 0) := by kernel_rfl
theorem laws_szIntSS_5_eq (k : Nat) (j : Nat) (y0 : List V_sl_int) (y1 : Int) (y2 : Int) : laws_szIntSS_5 k (j + 1) y0 y1 y2 = 
 cond (decide (y2 < (↑y0.length : Int))) (
  cond (decide (0 ≤ y2)) (
   cond (decide (y2 < (↑y0.length : Int))) (
    (laws_szIntS k (y0.getD y2.toNat (dflt t_sl_int)) y1).bind fun x0 => 
     cond (decide (x0 < 0)) (some (-1)) (laws_szIntSS_5 k j y0 x0 (IntKind.i64.wrap (y2 + 1)))) (none)) (none)) (some y1) := by kernel_rfl

noncomputable def laws_szSlot (k : Nat) (a0 : V_laws_Slot) (a1 : V_int) : Option V_int := evalT E k 44 t_int [inp t_laws_Slot a0, inp t_int a1] []
theorem laws_szSlot_eq (k : Nat) (a0 : V_laws_Slot) (a1 : V_int) : laws_szSlot (k + 1) a0 a1 = 
 (laws_szIntSS k a0.2.2 a1).bind fun x0 => 
  cond (decide (x0 < 0)) (some (-1)) (some x0) := by kernel_rfl

noncomputable def laws_szSlotDisk (k : Nat) (a0 : V_laws_SlotDisk) (a1 : V_int) : Option V_int := evalT E k 17 t_int [inp t_laws_SlotDisk a0, inp t_int a1] []
theorem laws_szSlotDisk_eq (k : Nat) (a0 : V_laws_SlotDisk) (a1 : V_int) : laws_szSlotDisk (k + 1) a0 a1 = 
 (laws_szSlot k a0.1 a1).bind fun x0 => 
  cond (decide (x0 < 0)) (some (-1)) (
   (laws_szSlot k a0.2 x0).bind fun x1 => 
    cond (decide (x1 < 0)) (some (-1)) (some x1)) := by kernel_rfl

noncomputable def laws_toIntS (k : Nat) (a0 : V_sl_int) : Option (List V_int) := evalT E k 27 (.ow 3 t_int) [inp t_sl_int a0] []
noncomputable def laws_toIntS_3 (k : Nat) (j : Nat) (y0 : List V_int) (y1 : Int) (y2 : List V_int) : Option (List V_int) := loopAt E 27 (.ow 3 t_int) [true, true, false, true, false] [] [] k [] j (mkS 22 [(0, .c (.sl 3 t_int y0)), (3, .c (.o 0)), (4, .c (.int .i64 y1))]) [some (.own 3 t_int y2)]
theorem laws_toIntS_eq (k : Nat) (a0 : V_sl_int) : laws_toIntS (k + 1) a0 = 
 cond (decide ((↑(List.length a0) : Int) ≤ (↑(List.length a0) : Int))) (
  cond (decide ((↑(List.length a0) : Int).toNat * 8 ≤ 140737488351232)) (laws_toIntS_3 k k a0 0 (List.replicate (↑(List.length a0) : Int).toNat (dflt t_int))) (none)) (none) := by kernel_rfl
theorem laws_toIntS_3_eq (k : Nat) (j : Nat) (y0 : List V_int) (y1 : Int) (y2 : List V_int) : laws_toIntS_3 k (j + 1) y0 y1 y2 = 
 cond (decide (y1 < (↑y0.length : Int))) (
  cond (decide (0 ≤ y1)) (
   cond (decide (y1 < (↑y0.length : Int))) (
    cond (decide (0 ≤ y1)) (
     cond (decide (y1 < (↑y2.length : Int))) (
      cond (decide (y1.toNat < y2.length)) (laws_toIntS_3 k j y0 (IntKind.i64.wrap (y1 + 1)) (y2.set y1.toNat (y0.getD y1.toNat (dflt t_int)))) (none)) (none)) (none)) (none)) (none)) (some y2) := by kernel_rfl

noncomputable def laws_toIntSS (k : Nat) (a0 : V_sl_sl_int) : Option (List V_sl_int) := evalT E k 74 (.dw 38 t_sl_int) [inp t_sl_sl_int a0] []
noncomputable def laws_toIntSS_3 (k : Nat) (j : Nat) (y0 : List V_sl_int) (y1 : Int) (y2 : List V_sl_int) : Option (List V_sl_int) := loopAt E 74 (.dw 38 t_sl_int) [true, true, false, true, false] [] [] k [] j (mkS 23 [(0, .c (.sl 38 t_sl_int y0)), (3, .c (.o 0)), (4, .c (.int .i64 y1))]) [some (.dp 38 t_sl_int y2)]
theorem laws_toIntSS_eq (k : Nat) (a0 : V_sl_sl_int) : laws_toIntSS (k + 1) a0 = 
 cond (decide ((↑(List.length a0) : Int) ≤ (↑(List.length a0) : Int))) (
  cond (decide ((↑(List.length a0) : Int).toNat * 24 ≤ 140737488351232)) (laws_toIntSS_3 k k a0 0 (List.replicate (↑(List.length a0) : Int).toNat (dflt t_sl_int))) (none)) (none) := by kernel_rfl
theorem laws_toIntSS_3_eq (k : Nat) (j : Nat) (y0 : List V_sl_int) (y1 : Int) (y2 : List V_sl_int) : laws_toIntSS_3 k (j + 1) y0 y1 y2 = 
 cond (decide (y1 < (↑y0.length : Int))) (
  cond (decide (0 ≤ y1)) (
   cond (decide (y1 < (↑y0.length : Int))) (
    (laws_toIntS k (y0.getD y1.toNat (dflt t_sl_int))).bind fun x0 => 
     cond (decide (0 ≤ y1)) (
      cond (decide (y1 < (↑y2.length : Int))) (
       cond (decide (y1.toNat < y2.length)) (laws_toIntSS_3 k j y0 (IntKind.i64.wrap (y1 + 1)) (y2.set y1.toNat x0)) (none)) (none)) (none)) (none)) (none)) (some y2) := by kernel_rfl

noncomputable def laws_toSlot (k : Nat) (a0 : V_laws_Slot) : Option ((V_int × (V_int × List V_sl_int))) := evalT E k 46 (.pair t_int (.pair t_int (.dw 38 t_sl_int))) [inp t_laws_Slot a0] []
theorem laws_toSlot_eq (k : Nat) (a0 : V_laws_Slot) : laws_toSlot (k + 1) a0 = 
 (laws_toIntSS k a0.2.2).bind fun x0 => some (a0.1, a0.2.1, x0) := by kernel_rfl

noncomputable def laws_toSlotDisk (k : Nat) (a0 : V_laws_SlotDisk) : Option (((V_int × (V_int × List V_sl_int)) × (V_int × (V_int × List V_sl_int)))) := evalT E k 19 (.pair (.pair t_int (.pair t_int (.dw 38 t_sl_int))) (.pair t_int (.pair t_int (.dw 38 t_sl_int)))) [inp t_laws_SlotDisk a0] []
theorem laws_toSlotDisk_eq (k : Nat) (a0 : V_laws_SlotDisk) : laws_toSlotDisk (k + 1) a0 = 
 (laws_toSlot k a0.1).bind fun x0 => 
  (laws_toSlot k a0.2).bind fun x1 => some (((x0.1, x0.2.1, x0.2.2), x1.1, x1.2.1, x1.2.2)) := by kernel_rfl

noncomputable def spec_l22Max (k : Nat) : Option V_int := evalT E k 54 t_int [] []
theorem spec_l22Max_eq (k : Nat) : spec_l22Max (k + 1) = some 9999 := by kernel_rfl

noncomputable def spec_l6In (k : Nat) (a0 : V_int) (a1 : V_int) (a2 : V_int) : Option V_bool := evalT E k 73 t_bool [inp t_int a0, inp t_int a1, inp t_int a2] []
theorem spec_l6In_eq (k : Nat) (a0 : V_int) (a1 : V_int) (a2 : V_int) : spec_l6In (k + 1) a0 a1 a2 = 
 cond (decide (a0 ≥ a1)) (some (decide (a0 ≤ a2))) (some false) := by kernel_rfl

noncomputable def spec_l31Nums (k : Nat) (a0 : V_sl_int) : Option V_bool := evalT E k 53 t_bool [inp t_sl_int a0] []
noncomputable def spec_l31Nums_2 (k : Nat) (j : Nat) (y0 : List V_int) (y1 : Int) : Option V_bool := loopAt E 53 t_bool [true, false, true, false] [] [] k [] j (mkS 17 [(0, .c (.sl 3 t_int y0)), (3, .c (.int .i64 y1))]) []
theorem spec_l31Nums_eq (k : Nat) (a0 : V_sl_int) : spec_l31Nums (k + 1) a0 = spec_l31Nums_2 k k a0 0 := by kernel_rfl
theorem spec_l31Nums_2_eq (k : Nat) (j : Nat) (y0 : List V_int) (y1 : Int) : spec_l31Nums_2 k (j + 1) y0 y1 = 
 cond (decide (y1 < (↑y0.length : Int))) (
  cond (decide (0 ≤ y1)) (
   cond (decide (y1 < (↑y0.length : Int))) (
    (spec_l22Max k ).bind fun x0 => 
     (spec_l6In k (y0.getD y1.toNat (dflt t_int)) (-1) x0).bind fun x1 => 
      cond (!x1) (some false) (spec_l31Nums_2 k j y0 (IntKind.i64.wrap (y1 + 1)))) (none)) (none)) (some true) := by kernel_rfl

noncomputable def spec_l31SlotOk (k : Nat) (a0 : V_impl_Slot) : Option V_bool := evalT E k 45 t_bool [inp t_impl_Slot a0] []
noncomputable def spec_l31SlotOk_4 (k : Nat) (j : Nat) (y0 : Int) (y1 : V_impl_Slot) : Option V_bool := loopAt E 45 t_bool [true, true, false, true, false] [] [] k [] j (mkS 41 [(1, .c (.p 0 0)), (3, .c (.int .i64 y0))]) [some (.box 24 (cells t_impl_Slot y1))]
theorem spec_l31SlotOk_eq (k : Nat) (a0 : V_impl_Slot) : spec_l31SlotOk (k + 1) a0 = 
 (spec_l22Max k ).bind fun x0 => 
  (spec_l6In k a0.1 0 x0).bind fun x1 => 
   cond (!x1) (some false) (
    cond ((↑(List.length a0.2.2) : Int) != 160) (some false) (spec_l31SlotOk_4 k k 0 a0)) := by kernel_rfl
theorem spec_l31SlotOk_4_eq (k : Nat) (j : Nat) (y0 : Int) (y1 : V_impl_Slot) : spec_l31SlotOk_4 k (j + 1) y0 y1 = 
 cond (decide (y0 < (↑(List.length y1.2.2) : Int))) (
  cond (decide (0 ≤ y0)) (
   cond (decide (y0 < (↑(List.length y1.2.2) : Int))) (
    cond (decide ((↑(List.length (List.getD y1.2.2 y0.toNat (dflt t_sl_int))) : Int) > 8)) (some false) (
     cond (decide (0 ≤ y0)) (
      cond (decide (y0 < (↑(List.length y1.2.2) : Int))) (
       (spec_l31Nums k (List.getD y1.2.2 y0.toNat (dflt t_sl_int))).bind fun x0 => 
        cond (!x0) (some false) (spec_l31SlotOk_4 k j (IntKind.i64.wrap (y0 + 1)) y1)) (none)) (none))) (none)) (none)) (
  (spec_l6In k y1.2.1 0 1280).bind fun x1 => some x1) := by kernel_rfl

noncomputable def spec_SlotOk (k : Nat) (a0 : V_impl_SlotDisk) : Option V_bool := evalT E k 18 t_bool [inp t_impl_SlotDisk a0] []
theorem spec_SlotOk_eq (k : Nat) (a0 : V_impl_SlotDisk) : spec_SlotOk (k + 1) a0 = 
 (spec_l31SlotOk k a0.1).bind fun x0 => 
  cond (x0) (
   (spec_l31SlotOk k a0.2).bind fun x1 => 
    cond (x1) (
     cond (a0.1.1 != a0.2.1) (some true) (some (a0.1.1 == 0))) (some false)) (some false) := by kernel_rfl

noncomputable def spec_l31Later (k : Nat) (a0 : V_impl_SlotDisk) : Option V_impl_Slot := evalT E k 49 t_impl_Slot [inp t_impl_SlotDisk a0] []
theorem spec_l31Later_eq (k : Nat) (a0 : V_impl_SlotDisk) : spec_l31Later (k + 1) a0 = 
 cond (decide (a0.2.1 > a0.1.1)) (some (a0.2.1, a0.2.2.1, a0.2.2.2)) (some (a0.1.1, a0.1.2.1, a0.1.2.2)) := by kernel_rfl

noncomputable def spec_l31Said (k : Nat) (a0 : V_impl_Slot) : Option (List V_int × V_bool) := evalT E k 48 (.pair (.ow 3 t_int) t_bool) [inp t_impl_Slot a0] []
noncomputable def spec_l31Said_3 (k : Nat) (j : Nat) (y0 : Int) (y1 : V_impl_Slot) (y2 : List V_int) : Option (List V_int × V_bool) := loopAt E 48 (.pair (.ow 3 t_int) t_bool) [true, true, false, true, false] [] [] k [] j (mkS 61 [(1, .c (.p 0 0)), (4, .c (.o 1)), (5, .c (.int .i64 y0))]) [some (.box 24 (cells t_impl_Slot y1)), some (.own 3 t_int y2)]
noncomputable def spec_l31Said_6 (k : Nat) (j0 : Nat) (j : Nat) (y0 : Int) (y1 : Int) (y2 : V_impl_Slot) (y3 : List V_int) : Option (List V_int × V_bool) := loopAt E 48 (.pair (.ow 3 t_int) t_bool) [true, true, false, true, false, false, true, false, false, true, false] [] [] k [j0] j (mkS 61 [(1, .c (.p 0 0)), (4, .c (.o 1)), (5, .c (.int .i64 y0)), (6, .c (.int .i64 y1))]) [some (.box 24 (cells t_impl_Slot y2)), some (.own 3 t_int y3)]
theorem spec_l31Said_eq (k : Nat) (a0 : V_impl_Slot) : spec_l31Said (k + 1) a0 = spec_l31Said_3 k k 0 a0 [] := by kernel_rfl
theorem spec_l31Said_3_eq (k : Nat) (j : Nat) (y0 : Int) (y1 : V_impl_Slot) (y2 : List V_int) : spec_l31Said_3 k (j + 1) y0 y1 y2 = 
 cond (decide (y0 < (↑(List.length y1.2.2) : Int))) (
  cond (decide ((↑y2.length : Int) < y1.2.1)) (spec_l31Said_6 k j k y0 0 y1 y2) (
   cond (decide (y1.1 > 0)) (some ((y2, (↑y2.length : Int) == y1.2.1))) (some (y2, false)))) (
  cond (decide (y1.1 > 0)) (some ((y2, (↑y2.length : Int) == y1.2.1))) (some (y2, false))) := by kernel_rfl
theorem spec_l31Said_6_eq (k : Nat) (j0 : Nat) (j : Nat) (y0 : Int) (y1 : Int) (y2 : V_impl_Slot) (y3 : List V_int) : spec_l31Said_6 k j0 (j + 1) y0 y1 y2 y3 = 
 cond (decide (0 ≤ y0)) (
  cond (decide (y0 < (↑(List.length y2.2.2) : Int))) (
   cond (decide (y1 < (↑(List.length (List.getD y2.2.2 y0.toNat (dflt t_sl_int))) : Int))) (
    cond (decide ((↑y3.length : Int) < y2.2.1)) (
     cond (decide (0 ≤ y0)) (
      cond (decide (y0 < (↑(List.length y2.2.2) : Int))) (
       cond (decide (0 ≤ y1)) (
        cond (decide (y1 < (↑(List.length (List.getD y2.2.2 y0.toNat (dflt t_sl_int))) : Int))) (
         cond (decide
  ((y3.length + [List.getD (List.getD y2.2.2 y0.toNat (dflt t_sl_int)) y1.toNat (dflt t_int)].length) * 8 ≤
    140737488351232)) (spec_l31Said_6 k j0 j y0 (IntKind.i64.wrap (y1 + 1)) y2 (y3 ++ [List.getD (List.getD y2.2.2 y0.toNat (dflt t_sl_int)) y1.toNat (dflt t_int)])) (none)) (none)) (none)) (none)) (none)) (spec_l31Said_3 k j0 (IntKind.i64.wrap (y0 + 1)) y2 y3)) (spec_l31Said_3 k j0 (IntKind.i64.wrap (y0 + 1)) y2 y3)) (none)) (none) := by kernel_rfl

noncomputable def spec_SlotRead (k : Nat) (a0 : V_impl_SlotDisk) : Option (List V_int × V_bool) := evalT E k 21 (.pair (.ow 3 t_int) t_bool) [inp t_impl_SlotDisk a0] []
theorem spec_SlotRead_eq (k : Nat) (a0 : V_impl_SlotDisk) : spec_SlotRead (k + 1) a0 = 
 (spec_SlotOk k a0).bind fun x0 => 
  cond (!x0) (some ([], false)) (
   (spec_l31Later k a0).bind fun x1 => 
    (spec_l31Said k x1).bind fun x2 => 
     cond (!x2.2) (some ([], false)) (some (x2.1, true))) := by kernel_rfl

noncomputable def impl_within (k : Nat) (a0 : V_int) (a1 : V_int) (a2 : V_int) : Option V_bool := evalT E k 75 t_bool [inp t_int a0, inp t_int a1, inp t_int a2] []
theorem impl_within_eq (k : Nat) (a0 : V_int) (a1 : V_int) (a2 : V_int) : impl_within (k + 1) a0 a1 a2 = 
 cond (decide (a0 ≥ a1)) (some (decide (a0 ≤ a2))) (some false) := by kernel_rfl

noncomputable def impl_slotNum (k : Nat) (a0 : V_int) : Option V_bool := evalT E k 77 t_bool [inp t_int a0] []
theorem impl_slotNum_eq (k : Nat) (a0 : V_int) : impl_slotNum (k + 1) a0 = 
 (impl_within k a0 (-1) 9999).bind fun x0 => some x0 := by kernel_rfl

noncomputable def impl_slotNums (k : Nat) (a0 : V_sl_int) : Option V_bool := evalT E k 55 t_bool [inp t_sl_int a0] []
noncomputable def impl_slotNums_2 (k : Nat) (j : Nat) (y0 : List V_int) (y1 : Int) (y2 : Int) : Option V_bool := loopAt E 55 t_bool [true, false, true, false] [] [] k [] j (mkS 15 [(5, .c (.sl 3 t_int y0)), (6, .c (.int .i64 y1)), (7, .c (.int .i64 y2))]) []
theorem impl_slotNums_eq (k : Nat) (a0 : V_sl_int) : impl_slotNums (k + 1) a0 = impl_slotNums_2 k k a0 ((↑(List.length a0) : Int)) 0 := by kernel_rfl
theorem impl_slotNums_2_eq (k : Nat) (j : Nat) (y0 : List V_int) (y1 : Int) (y2 : Int) : impl_slotNums_2 k (j + 1) y0 y1 y2 = 
 cond (decide (y2 < y1)) (
  cond (decide (0 ≤ y2)) (
   cond (decide (y2 < (↑y0.length : Int))) (
    (impl_slotNum k (y0.getD y2.toNat (dflt t_int))).bind fun x0 => 
     cond (!x0) (some false) (impl_slotNums_2 k j y0 y1 (IntKind.i64.wrap (y2 + 1)))) (none)) (none)) (some true) := by kernel_rfl

noncomputable def impl_slotOk (k : Nat) (a0 : V_impl_Slot) : Option V_bool := evalT E k 47 t_bool [inp t_impl_Slot a0] []
noncomputable def impl_slotOk_4 (k : Nat) (j : Nat) (y0 : List V_sl_int) (y1 : Int) (y2 : Int) : Option V_bool := loopAt E 47 t_bool [true, true, false, true, false] [] [] k [] j (mkS 37 [(22, .c (.sl 38 t_sl_int y0)), (23, .c (.int .i64 y1)), (24, .c (.int .i64 y2))]) []
theorem impl_slotOk_eq (k : Nat) (a0 : V_impl_Slot) : impl_slotOk (k + 1) a0 = 
 (impl_within k a0.1 0 9999).bind fun x0 => 
  cond (!x0) (some false) (
   (impl_within k a0.2.1 0 1280).bind fun x1 => 
    cond (!x1) (some false) (
     cond ((↑(List.length a0.2.2) : Int) != 160) (some false) (impl_slotOk_4 k k a0.2.2 ((↑(List.length a0.2.2) : Int)) 0))) := by kernel_rfl
theorem impl_slotOk_4_eq (k : Nat) (j : Nat) (y0 : List V_sl_int) (y1 : Int) (y2 : Int) : impl_slotOk_4 k (j + 1) y0 y1 y2 = 
 cond (decide (y2 < y1)) (
  cond (decide (0 ≤ y2)) (
   cond (decide (y2 < (↑y0.length : Int))) (
    cond (decide ((↑(List.length (y0.getD y2.toNat (dflt t_sl_int))) : Int) > 8)) (some false) (
     (impl_slotNums k (y0.getD y2.toNat (dflt t_sl_int))).bind fun x0 => 
      cond (!x0) (some false) (impl_slotOk_4 k j y0 y1 (IntKind.i64.wrap (y2 + 1))))) (none)) (none)) (some true) := by kernel_rfl

noncomputable def impl_SlotOk (k : Nat) (a0 : V_impl_SlotDisk) : Option V_bool := evalT E k 20 t_bool [inp t_impl_SlotDisk a0] []
theorem impl_SlotOk_eq (k : Nat) (a0 : V_impl_SlotDisk) : impl_SlotOk (k + 1) a0 = 
 (impl_slotOk k a0.1).bind fun x0 => 
  cond (x0) (
   (impl_slotOk k a0.2).bind fun x1 => 
    cond (x1) (
     cond (a0.1.1 != a0.2.1) (some true) (some (a0.1.1 == 0))) (some false)) (some false) := by kernel_rfl

noncomputable def impl_later (k : Nat) (a0 : V_impl_SlotDisk) : Option (V_impl_Slot × V_bool) := evalT E k 50 (.pair t_impl_Slot t_bool) [inp t_impl_SlotDisk a0] []
theorem impl_later_eq (k : Nat) (a0 : V_impl_SlotDisk) : impl_later (k + 1) a0 = 
 cond (decide (a0.2.1 > a0.1.1)) (some (((a0.2.1, a0.2.2.1, a0.2.2.2), true))) (some (((a0.1.1, a0.1.2.1, a0.1.2.2), false))) := by kernel_rfl

noncomputable def slices_Grow_int_int_h0 (k : Nat) (y0 : V_int) : Option (List V_int) := evalT E k 76 (.ow 3 t_int) [.c (.nilsl), inp t_int y0] []
theorem slices_Grow_int_int_h0_eq (k : Nat) (y0 : V_int) : slices_Grow_int_int_h0 (k + 1) y0 = 
 cond (decide (y0 < 0)) (none) (
  cond (decide (IntKind.i64.wrap (y0 - IntKind.i64.wrap (0 - (↑0 : Int))) > 0)) (
   cond (decide (1 ≤ IntKind.i64.wrap (y0 - IntKind.i64.wrap (0 - (↑0 : Int))))) (
    cond (decide ((IntKind.i64.wrap (y0 - IntKind.i64.wrap (0 - (↑0 : Int)))).toNat * 8 ≤ 140737488351232)) (some (List.take (↑0 : Int).toNat (List.replicate (IntKind.i64.wrap (y0 - IntKind.i64.wrap (0 - (↑0 : Int)))).toNat (dflt t_int)))) (none)) (none)) (some [])) := by kernel_rfl

noncomputable def slices_Concat_int_int (k : Nat) (a0 : V_sl_sl_int) : Option (List V_int) := evalT E k 51 (.ow 3 t_int) [inp t_sl_sl_int a0] []
noncomputable def slices_Concat_int_int_3 (k : Nat) (j : Nat) (y0 : List V_sl_int) (y1 : Int) (y2 : List V_sl_int) (y3 : Int) (y4 : Int) : Option (List V_int) := loopAt E 51 (.ow 3 t_int) [true, true, false, true, false] [] [] k [] j (mkS 36 [(0, .c (.sl 38 t_sl_int y0)), (3, .c (.int .i64 y1)), (9, .c (.sl 38 t_sl_int y2)), (10, .c (.int .i64 y3)), (11, .c (.int .i64 y4))]) []
noncomputable def slices_Concat_int_int_11 (k : Nat) (j : Nat) (y0 : List V_sl_int) (y1 : Int) (y2 : Int) (y3 : List V_int) : Option (List V_int) := loopAt E 51 (.ow 3 t_int) [true, true, true, true, false, true, false] [] [] k [] j (mkS 36 [(6, .c (.o 0)), (25, .c (.sl 38 t_sl_int y0)), (26, .c (.int .i64 y1)), (27, .c (.int .i64 y2))]) [some (.own 3 t_int y3)]
theorem slices_Concat_int_int_eq (k : Nat) (a0 : V_sl_sl_int) : slices_Concat_int_int (k + 1) a0 = slices_Concat_int_int_3 k k a0 0 a0 ((↑(List.length a0) : Int)) 0 := by kernel_rfl
theorem slices_Concat_int_int_3_eq (k : Nat) (j : Nat) (y0 : List V_sl_int) (y1 : Int) (y2 : List V_sl_int) (y3 : Int) (y4 : Int) : slices_Concat_int_int_3 k (j + 1) y0 y1 y2 y3 y4 = 
 cond (decide (y4 < y3)) (
  cond (decide (0 ≤ y4)) (
   cond (decide (y4 < (↑y2.length : Int))) (
    cond (decide (IntKind.i64.wrap (y1 + (↑(List.length (y2.getD y4.toNat (dflt t_sl_int))) : Int)) < 0)) (none) (slices_Concat_int_int_3 k j y0 (IntKind.i64.wrap (y1 + (↑(List.length (y2.getD y4.toNat (dflt t_sl_int))) : Int))) y2 y3 (IntKind.i64.wrap (y4 + 1)))) (none)) (none)) (
  (slices_Grow_int_int_h0 k y1).bind fun x0 => slices_Concat_int_int_11 k k y0 (↑y0.length : Int) 0 x0) := by kernel_rfl
theorem slices_Concat_int_int_11_eq (k : Nat) (j : Nat) (y0 : List V_sl_int) (y1 : Int) (y2 : Int) (y3 : List V_int) : slices_Concat_int_int_11 k (j + 1) y0 y1 y2 y3 = 
 cond (decide (y2 < y1)) (
  cond (decide (0 ≤ y2)) (
   cond (decide (y2 < (↑y0.length : Int))) (
    cond (decide ((y3.length + List.length (y0.getD y2.toNat (dflt t_sl_int))) * 8 ≤ 140737488351232)) (slices_Concat_int_int_11 k j y0 y1 (IntKind.i64.wrap (y2 + 1)) (y3 ++ y0.getD y2.toNat (dflt t_sl_int))) (none)) (none)) (none)) (some y3) := by kernel_rfl

noncomputable def slices_Clone_int_int (k : Nat) (a0 : V_sl_int) : Option (List V_int) := evalT E k 52 (.ow 3 t_int) [inp t_sl_int a0] []
theorem slices_Clone_int_int_eq (k : Nat) (a0 : V_sl_int) : slices_Clone_int_int (k + 1) a0 = 
 cond (decide ((0 + List.length a0) * 8 ≤ 140737488351232)) (some a0) (none) := by kernel_rfl

noncomputable def impl_SlotRead (k : Nat) (a0 : V_impl_SlotDisk) : Option (List V_int × V_bool) := evalT E k 22 (.pair (.ow 3 t_int) t_bool) [inp t_impl_SlotDisk a0] []
theorem impl_SlotRead_eq (k : Nat) (a0 : V_impl_SlotDisk) : impl_SlotRead (k + 1) a0 = 
 (impl_SlotOk k a0).bind fun x0 => 
  cond (!x0) (some ([], false)) (
   (impl_later k a0).bind fun x1 => 
    (slices_Concat_int_int k x1.1.2.2).bind fun x2 => 
     cond (x1.1.1 == 0) (some ([], false)) (
      cond (decide ((↑(List.length x2) : Int) < x1.1.2.1)) (some ([], false)) (
       cond (decide (0 ≤ x1.1.2.1)) (
        cond (decide (x1.1.2.1 ≤ (↑(List.length x2) : Int))) (
         (slices_Clone_int_int k (List.drop (Int.toNat 0) (List.take (Int.toNat x1.1.2.1) x2))).bind fun x3 => some (x3, true)) (none)) (none)))) := by kernel_rfl

noncomputable def laws_eqIntS (k : Nat) (a0 : V_sl_int) (a1 : V_sl_int) : Option V_bool := evalT E k 23 t_bool [inp t_sl_int a0, inp t_sl_int a1] []
noncomputable def laws_eqIntS_4 (k : Nat) (j : Nat) (y0 : List V_int) (y1 : List V_int) (y2 : Int) : Option V_bool := loopAt E 23 t_bool [true, true, false, true, false] [] [] k [] j (mkS 26 [(0, .c (.sl 3 t_int y0)), (1, .c (.sl 3 t_int y1)), (5, .c (.int .i64 y2))]) []
theorem laws_eqIntS_eq (k : Nat) (a0 : V_sl_int) (a1 : V_sl_int) : laws_eqIntS (k + 1) a0 a1 = 
 cond ((↑(List.length a0) : Int) != (↑(List.length a1) : Int)) (some false) (laws_eqIntS_4 k k a0 a1 0) := by kernel_rfl
theorem laws_eqIntS_4_eq (k : Nat) (j : Nat) (y0 : List V_int) (y1 : List V_int) (y2 : Int) : laws_eqIntS_4 k (j + 1) y0 y1 y2 = 
 cond (decide (y2 < (↑y0.length : Int))) (
  cond (decide (0 ≤ y2)) (
   cond (decide (y2 < (↑y0.length : Int))) (
    cond (decide (0 ≤ y2)) (
     cond (decide (y2 < (↑y1.length : Int))) (
      cond (y0.getD y2.toNat (dflt t_int) != y1.getD y2.toNat (dflt t_int)) (some false) (laws_eqIntS_4 k j y0 y1 (IntKind.i64.wrap (y2 + 1)))) (none)) (none)) (none)) (none)) (some true) := by kernel_rfl

noncomputable def laws_eqIntSS (k : Nat) (a0 : V_sl_sl_int) (a1 : V_sl_sl_int) : Option V_bool := evalT E k 69 t_bool [inp t_sl_sl_int a0, inp t_sl_sl_int a1] []
noncomputable def laws_eqIntSS_4 (k : Nat) (j : Nat) (y0 : List V_sl_int) (y1 : List V_sl_int) (y2 : Int) : Option V_bool := loopAt E 69 t_bool [true, true, false, true, false] [] [] k [] j (mkS 27 [(0, .c (.sl 38 t_sl_int y0)), (1, .c (.sl 38 t_sl_int y1)), (5, .c (.int .i64 y2))]) []
theorem laws_eqIntSS_eq (k : Nat) (a0 : V_sl_sl_int) (a1 : V_sl_sl_int) : laws_eqIntSS (k + 1) a0 a1 = 
 cond ((↑(List.length a0) : Int) != (↑(List.length a1) : Int)) (some false) (laws_eqIntSS_4 k k a0 a1 0) := by kernel_rfl
theorem laws_eqIntSS_4_eq (k : Nat) (j : Nat) (y0 : List V_sl_int) (y1 : List V_sl_int) (y2 : Int) : laws_eqIntSS_4 k (j + 1) y0 y1 y2 = 
 cond (decide (y2 < (↑y0.length : Int))) (
  cond (decide (0 ≤ y2)) (
   cond (decide (y2 < (↑y0.length : Int))) (
    cond (decide (0 ≤ y2)) (
     cond (decide (y2 < (↑y1.length : Int))) (
      (laws_eqIntS k (y0.getD y2.toNat (dflt t_sl_int)) (y1.getD y2.toNat (dflt t_sl_int))).bind fun x0 => 
       cond (!x0) (some false) (laws_eqIntSS_4 k j y0 y1 (IntKind.i64.wrap (y2 + 1)))) (none)) (none)) (none)) (none)) (some true) := by kernel_rfl

noncomputable def laws_eqSlot (k : Nat) (a0 : V_impl_Slot) (a1 : V_impl_Slot) : Option V_bool := evalT E k 41 t_bool [inp t_impl_Slot a0, inp t_impl_Slot a1] []
theorem laws_eqSlot_eq (k : Nat) (a0 : V_impl_Slot) (a1 : V_impl_Slot) : laws_eqSlot (k + 1) a0 a1 = 
 cond (a0.1 != a1.1) (some false) (
  cond (a0.2.1 != a1.2.1) (some false) (
   (laws_eqIntSS k a0.2.2 a1.2.2).bind fun x0 => 
    cond (!x0) (some false) (some true))) := by kernel_rfl

noncomputable def laws_eqSlotDisk (k : Nat) (a0 : V_impl_SlotDisk) (a1 : V_impl_SlotDisk) : Option V_bool := evalT E k 14 t_bool [inp t_impl_SlotDisk a0, inp t_impl_SlotDisk a1] []
theorem laws_eqSlotDisk_eq (k : Nat) (a0 : V_impl_SlotDisk) (a1 : V_impl_SlotDisk) : laws_eqSlotDisk (k + 1) a0 a1 = 
 (laws_eqSlot k a0.1 a1.1).bind fun x0 => 
  cond (!x0) (some false) (
   (laws_eqSlot k a0.2 a1.2).bind fun x1 => 
    cond (!x1) (some false) (some true)) := by kernel_rfl

noncomputable def laws_markIntS_h0 (k : Nat) (y0 : V_int) (y1 : List V_int) : Option ((V_int × (List V_int × Unit))) := evalT E k 24 (.pair t_int (.pair (.ow 3 t_int) .unit)) [.c (.o 0), inp t_int y0] [some (.own 3 t_int y1)]
noncomputable def laws_markIntS_h0_2 (k : Nat) (j : Nat) (y0 : Int) (y1 : Int) (y2 : List V_int) : Option ((V_int × (List V_int × Unit))) := loopAt E 24 (.pair t_int (.pair (.ow 3 t_int) .unit)) [true, false, true, false] [none] [0] k [] j (mkS 19 [(0, .c (.o 0)), (1, .c (.int .i64 y0)), (5, .c (.int .i64 y1))]) [some (.own 3 t_int y2)]
theorem laws_markIntS_h0_eq (k : Nat) (y0 : V_int) (y1 : List V_int) : laws_markIntS_h0 (k + 1) y0 y1 = laws_markIntS_h0_2 k k y0 0 y1 := by kernel_rfl
theorem laws_markIntS_h0_2_eq (k : Nat) (j : Nat) (y0 : Int) (y1 : Int) (y2 : List V_int) : laws_markIntS_h0_2 k (j + 1) y0 y1 y2 = 
 cond (decide (y1 < (↑y2.length : Int))) (
  cond (decide (0 ≤ y1)) (
   cond (decide (y1 < (↑y2.length : Int))) (
    cond (decide (y1.toNat < y2.length)) (laws_markIntS_h0_2 k j (IntKind.i64.wrap (y0 + 1)) (IntKind.i64.wrap (y1 + 1)) (y2.set y1.toNat y0)) (none)) (none)) (none)) (some ((y0, y2, ()))) := by kernel_rfl

noncomputable def laws_markIntSS_h0 (k : Nat) (y0 : V_int) (y1 : List V_sl_int) : Option ((V_int × (List V_sl_int × Unit))) := evalT E k 70 (.pair t_int (.pair (.dw 38 t_sl_int) .unit)) [.c (.o 0), inp t_int y0] [some (.dp 38 t_sl_int y1)]
noncomputable def laws_markIntSS_h0_2 (k : Nat) (j : Nat) (y0 : Int) (y1 : Int) (y2 : List V_sl_int) : Option ((V_int × (List V_sl_int × Unit))) := loopAt E 70 (.pair t_int (.pair (.dw 38 t_sl_int) .unit)) [true, false, true, false] [none] [0] k [] j (mkS 19 [(0, .c (.o 0)), (1, .c (.int .i64 y0)), (5, .c (.int .i64 y1))]) [some (.dp 38 t_sl_int y2)]
theorem laws_markIntSS_h0_eq (k : Nat) (y0 : V_int) (y1 : List V_sl_int) : laws_markIntSS_h0 (k + 1) y0 y1 = laws_markIntSS_h0_2 k k y0 0 y1 := by kernel_rfl
theorem laws_markIntSS_h0_2_eq (k : Nat) (j : Nat) (y0 : Int) (y1 : Int) (y2 : List V_sl_int) : laws_markIntSS_h0_2 k (j + 1) y0 y1 y2 = 
 cond (decide (y1 < (↑y2.length : Int))) (
  cond (decide (0 ≤ y1)) (
   cond (decide (y1 < (↑y2.length : Int))) (
    cond (decide (y1.toNat < y2.length)) (
     (laws_markIntS_h0 k y0 (y2.getD y1.toNat (dflt t_sl_int))).bind fun x0 => laws_markIntSS_h0_2 k j x0.1 (IntKind.i64.wrap (y1 + 1)) (y2.modify y1.toNat fun x => x0.2.1)) (none)) (none)) (none)) (some ((y0, y2, ()))) := by kernel_rfl

noncomputable def laws_markSlot_h0 (k : Nat) (y0 : Int) (y1 : Int) (y2 : V_int) (y3 : List V_sl_int) : Option ((V_int × (List V_sl_int × Unit))) := evalT E k 42 (.pair t_int (.pair (.dw 38 t_sl_int) .unit)) [.v (.agg [.int .i64 y0, .int .i64 y1, .o 0]), inp t_int y2] [some (.dp 38 t_sl_int y3)]
theorem laws_markSlot_h0_eq (k : Nat) (y0 : Int) (y1 : Int) (y2 : V_int) (y3 : List V_sl_int) : laws_markSlot_h0 (k + 1) y0 y1 y2 y3 = 
 (laws_markIntSS_h0 k y2 y3).bind fun x0 => some ((x0.1, x0.2.1, ())) := by kernel_rfl

noncomputable def laws_markSlotDisk_h0 (k : Nat) (y0 : Int) (y1 : Int) (y2 : Int) (y3 : Int) (y4 : V_int) (y5 : List V_sl_int) (y6 : List V_sl_int) : Option ((V_int × (List V_sl_int × (List V_sl_int × Unit)))) := evalT E k 15 (.pair t_int (.pair (.dw 38 t_sl_int) (.pair (.dw 38 t_sl_int) .unit))) [.v (.agg [.int .i64 y0, .int .i64 y1, .o 0, .int .i64 y2, .int .i64 y3, .o 1]), inp t_int y4] [some (.dp 38 t_sl_int y5), some (.dp 38 t_sl_int y6)]
theorem laws_markSlotDisk_h0_eq (k : Nat) (y0 : Int) (y1 : Int) (y2 : Int) (y3 : Int) (y4 : V_int) (y5 : List V_sl_int) (y6 : List V_sl_int) : laws_markSlotDisk_h0 (k + 1) y0 y1 y2 y3 y4 y5 y6 = 
 (laws_markSlot_h0 k y0 y1 y4 y5).bind fun x0 => 
  (laws_markSlot_h0 k y2 y3 x0.1 y6).bind fun x1 => some ((x1.1, x0.2.1, x1.2.1, ())) := by kernel_rfl

noncomputable def laws_heldIntS (k : Nat) (a0 : V_sl_int) (a1 : V_int) : Option V_int := evalT E k 25 t_int [inp t_sl_int a0, inp t_int a1] []
noncomputable def laws_heldIntS_2 (k : Nat) (j : Nat) (y0 : List V_int) (y1 : Int) (y2 : Int) : Option V_int := loopAt E 25 t_int [true, false, true, false] [] [] k [] j (mkS 21 [(0, .c (.sl 3 t_int y0)), (1, .c (.int .i64 y1)), (5, .c (.int .i64 y2))]) []
theorem laws_heldIntS_eq (k : Nat) (a0 : V_sl_int) (a1 : V_int) : laws_heldIntS (k + 1) a0 a1 = laws_heldIntS_2 k k a0 a1 0 := by kernel_rfl
theorem laws_heldIntS_2_eq (k : Nat) (j : Nat) (y0 : List V_int) (y1 : Int) (y2 : Int) : laws_heldIntS_2 k (j + 1) y0 y1 y2 = 
 cond (decide (y2 < (↑y0.length : Int))) (
  cond (decide (0 ≤ y2)) (
   cond (decide (y2 < (↑y0.length : Int))) (
    cond (y0.getD y2.toNat (dflt t_int) != y1) (some (-1)) (laws_heldIntS_2 k j y0 (IntKind.i64.wrap (y1 + 1)) (IntKind.i64.wrap (y2 + 1)))) (none)) (none)) (some y1) := by kernel_rfl

noncomputable def laws_FnExactSlotRead (k : Nat) (a0 : V_laws_SlotDisk) : Option V_bool := evalT E k 5 t_bool [inp t_laws_SlotDisk a0] []
theorem laws_FnExactSlotRead_eq (k : Nat) (a0 : V_laws_SlotDisk) : laws_FnExactSlotRead (k + 1) a0 = 
 (laws_szSlotDisk k a0 1048576).bind fun x0 => 
  cond (decide (x0 < 0)) (some true) (
   (laws_toSlotDisk k a0).bind fun x1 => 
    (spec_SlotRead k x1).bind fun x2 => 
     (laws_toSlotDisk k a0).bind fun x3 => 
      (impl_SlotRead k x3).bind fun x4 => 
       (laws_eqIntS k x4.1 x2.1).bind fun x5 => 
        cond (!x5) (some false) (
         cond (!x4.2 == x2.2) (some false) (
          (laws_toSlotDisk k a0).bind fun x6 => 
           (laws_eqSlotDisk k x3 x6).bind fun x7 => 
            cond (!x7) (some false) (
             (laws_markSlotDisk_h0 k x3.1.1 x3.1.2.1 x3.2.1 x3.2.2.1 1 x3.1.2.2 x3.2.2.2).bind fun x8 => 
              cond (decide (x8.1 < 0)) (some false) (
               (laws_eqIntS k x4.1 x2.1).bind fun x9 => 
                cond (!x9) (some false) (
                 cond (!x4.2 == x2.2) (some false) (
                  (laws_markIntS_h0 k 1 x4.1).bind fun x10 => 
                   (laws_heldIntS k x10.2.1 1).bind fun x11 => 
                    cond (decide (x11 < 0)) (some false) (
                     cond (x11 != x10.1) (some false) (
                      (laws_toSlotDisk k a0).bind fun x12 => 
                       (impl_SlotRead k x12).bind fun x13 => 
                        (laws_eqIntS k x13.1 x2.1).bind fun x14 => 
                         cond (!x14) (some false) (
                          cond (!x13.2 == x2.2) (some false) (
                           (laws_heldIntS k x10.2.1 1).bind fun x15 => 
                            cond (decide (x15 < 0)) (some false) (
                             cond (x15 != x10.1) (some false) (some true))))))))))))) := by kernel_rfl

def Goal : Prop := ∀ (a0 : V_laws_SlotDisk), Go.Sx.Good t_laws_SlotDisk a0 → ∃ k, laws_FnExactSlotRead k a0 = some true
end Go.Proofs.Ytiabhdebjajgiaa.SFnExactSlotRead
