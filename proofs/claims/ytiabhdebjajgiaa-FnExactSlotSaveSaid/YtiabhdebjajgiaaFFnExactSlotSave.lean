/- What each function of the program answers: one step of the plain machine, by the kernel. -/
import Derived.Test.YtiabhdebjajgiaaEFnExactSlotSave
set_option linter.unusedVariables false
set_option maxRecDepth 1000000
set_option maxHeartbeats 0
namespace Go.Proofs.Ytiabhdebjajgiaa.SFnExactSlotSave
open Go Go.Sx Go.Proofs
noncomputable def laws_szIntS (k : Nat) (a0 : V_sl_int) (a1 : V_int) : Option V_int := evalT E k 81 t_int [inp t_sl_int a0, inp t_int a1] []
theorem laws_szIntS_eq (k : Nat) (a0 : V_sl_int) (a1 : V_int) : laws_szIntS (k + 1) a0 a1 = 
 cond (decide (IntKind.i64.wrap (a1 - (↑(List.length a0) : Int)) < 0)) (some (-1)) (some (IntKind.i64.wrap (a1 - (↑(List.length a0) : Int)))) := by kernel_rfl

noncomputable def laws_szIntSS (k : Nat) (a0 : V_sl_sl_int) (a1 : V_int) : Option V_int := evalT E k 72 t_int [inp t_sl_sl_int a0, inp t_int a1] []
noncomputable def laws_szIntSS_5 (k : Nat) (j : Nat) (y0 : List V_sl_int) (y1 : Int) (y2 : Int) : Option V_int := loopAt E 72 t_int [true, true, true, false, true, false] [] [] k [] j (mkS 27 [(0, .c (.sl 38 t_sl_int y0)), (1, .c (.int .i64 y1)), (5, .c (.int .i64 y2))]) []
theorem laws_szIntSS_eq (k : Nat) (a0 : V_sl_sl_int) (a1 : V_int) : laws_szIntSS (k + 1) a0 a1 = 
 cond (decide (IntKind.i64.wrap (a1 - (↑(List.length a0) : Int)) < 0)) (some (-1)) (laws_szIntSS_5 k k a0 (IntKind.i64.wrap (a1 - (↑(List.length a0) : Int))) 0) := by kernel_rfl
theorem laws_szIntSS_5_eq (k : Nat) (j : Nat) (y0 : List V_sl_int) (y1 : Int) (y2 : Int) : laws_szIntSS_5 k (j + 1) y0 y1 y2 = 
 cond (decide (y2 < (↑y0.length : Int))) (
  cond (decide (0 ≤ y2)) (
   cond (decide (y2 < (↑y0.length : Int))) (
    (laws_szIntS k (y0.getD y2.toNat (dflt t_sl_int)) y1).bind fun x0 => 
     cond (decide (x0 < 0)) (some (-1)) (laws_szIntSS_5 k j y0 x0 (IntKind.i64.wrap (y2 + 1)))) (none)) (none)) (some y1) := by kernel_rfl

noncomputable def laws_szSlot (k : Nat) (a0 : V_laws_Slot) (a1 : V_int) : Option V_int := evalT E k 44 t_int [inp t_laws_Slot a0, inp t_int a1] []
theorem laws_szSlot_eq (k : Nat) (a0 : V_laws_Slot) (a1 : V_int) : laws_szSlot (k + 1) a0 a1 = 
 (laws_szIntSS k a0.2.2 a1).bind fun x0 => 
  cond (decide (x0 < 0)) (some (-1)) (some x0) := by kernel_rfl

noncomputable def laws_szSlotDisk (k : Nat) (a0 : V_laws_SlotDisk) (a1 : V_int) : Option V_int := evalT E k 17 t_int [inp t_laws_SlotDisk a0, inp t_int a1] []
theorem laws_szSlotDisk_eq (k : Nat) (a0 : V_laws_SlotDisk) (a1 : V_int) : laws_szSlotDisk (k + 1) a0 a1 = 
 (laws_szSlot k a0.1 a1).bind fun x0 => 
  cond (decide (x0 < 0)) (some (-1)) (
   (laws_szSlot k a0.2 x0).bind fun x1 => 
    cond (decide (x1 < 0)) (some (-1)) (some x1)) := by kernel_rfl

noncomputable def laws_toIntS (k : Nat) (a0 : V_sl_int) : Option (List V_int) := evalT E k 27 (.ow 3 t_int) [inp t_sl_int a0] []
noncomputable def laws_toIntS_3 (k : Nat) (j : Nat) (y0 : List V_int) (y1 : Int) (y2 : List V_int) : Option (List V_int) := loopAt E 27 (.ow 3 t_int) [true, true, false, true, false] [] [] k [] j (mkS 22 [(0, .c (.sl 3 t_int y0)), (3, .c (.o 0)), (4, .c (.int .i64 y1))]) [some (.own 3 t_int y2)]
theorem laws_toIntS_eq (k : Nat) (a0 : V_sl_int) : laws_toIntS (k + 1) a0 = 
 cond (decide ((↑(List.length a0) : Int) ≤ (↑(List.length a0) : Int))) (
  cond (decide ((↑(List.length a0) : Int).toNat * 8 ≤ 140737488351232)) (laws_toIntS_3 k k a0 0 (List.replicate (↑(List.length a0) : Int).toNat (dflt t_int))) (none)) (none) := by kernel_rfl
theorem laws_toIntS_3_eq (k : Nat) (j : Nat) (y0 : List V_int) (y1 : Int) (y2 : List V_int) : laws_toIntS_3 k (j + 1) y0 y1 y2 = 
 cond (decide (y1 < (↑y0.length : Int))) (
  cond (decide (0 ≤ y1)) (
   cond (decide (y1 < (↑y0.length : Int))) (
    cond (decide (0 ≤ y1)) (
     cond (decide (y1 < (↑y2.length : Int))) (
      cond (decide (y1.toNat < y2.length)) (laws_toIntS_3 k j y0 (IntKind.i64.wrap (y1 + 1)) (y2.set y1.toNat (y0.getD y1.toNat (dflt t_int)))) (none)) (none)) (none)) (none)) (none)) (some y2) := by kernel_rfl

noncomputable def laws_toIntSS (k : Nat) (a0 : V_sl_sl_int) : Option (List V_sl_int) := evalT E k 74 (.dw 38 t_sl_int) [inp t_sl_sl_int a0] []
noncomputable def laws_toIntSS_3 (k : Nat) (j : Nat) (y0 : List V_sl_int) (y1 : Int) (y2 : List V_sl_int) : Option (List V_sl_int) := loopAt E 74 (.dw 38 t_sl_int) [true, true, false, true, false] [] [] k [] j (mkS 23 [(0, .c (.sl 38 t_sl_int y0)), (3, .c (.o 0)), (4, .c (.int .i64 y1))]) [some (.dp 38 t_sl_int y2)]
theorem laws_toIntSS_eq (k : Nat) (a0 : V_sl_sl_int) : laws_toIntSS (k + 1) a0 = 
 cond (decide ((↑(List.length a0) : Int) ≤ (↑(List.length a0) : Int))) (
  cond (decide ((↑(List.length a0) : Int).toNat * 24 ≤ 140737488351232)) (laws_toIntSS_3 k k a0 0 (List.replicate (↑(List.length a0) : Int).toNat (dflt t_sl_int))) (none)) (none) := by kernel_rfl
theorem laws_toIntSS_3_eq (k : Nat) (j : Nat) (y0 : List V_sl_int) (y1 : Int) (y2 : List V_sl_int) : laws_toIntSS_3 k (j + 1) y0 y1 y2 = 
 cond (decide (y1 < (↑y0.length : Int))) (
  cond (decide (0 ≤ y1)) (
   cond (decide (y1 < (↑y0.length : Int))) (
    (laws_toIntS k (y0.getD y1.toNat (dflt t_sl_int))).bind fun x0 => 
     cond (decide (0 ≤ y1)) (
      cond (decide (y1 < (↑y2.length : Int))) (
       cond (decide (y1.toNat < y2.length)) (laws_toIntSS_3 k j y0 (IntKind.i64.wrap (y1 + 1)) (y2.set y1.toNat x0)) (none)) (none)) (none)) (none)) (none)) (some y2) := by kernel_rfl

noncomputable def laws_toSlot (k : Nat) (a0 : V_laws_Slot) : Option ((V_int × (V_int × List V_sl_int))) := evalT E k 46 (.pair t_int (.pair t_int (.dw 38 t_sl_int))) [inp t_laws_Slot a0] []
theorem laws_toSlot_eq (k : Nat) (a0 : V_laws_Slot) : laws_toSlot (k + 1) a0 = 
 (laws_toIntSS k a0.2.2).bind fun x0 => some (a0.1, a0.2.1, x0) := by kernel_rfl

noncomputable def laws_toSlotDisk (k : Nat) (a0 : V_laws_SlotDisk) : Option (((V_int × (V_int × List V_sl_int)) × (V_int × (V_int × List V_sl_int)))) := evalT E k 19 (.pair (.pair t_int (.pair t_int (.dw 38 t_sl_int))) (.pair t_int (.pair t_int (.dw 38 t_sl_int)))) [inp t_laws_SlotDisk a0] []
theorem laws_toSlotDisk_eq (k : Nat) (a0 : V_laws_SlotDisk) : laws_toSlotDisk (k + 1) a0 = 
 (laws_toSlot k a0.1).bind fun x0 => 
  (laws_toSlot k a0.2).bind fun x1 => some (((x0.1, x0.2.1, x0.2.2), x1.1, x1.2.1, x1.2.2)) := by kernel_rfl

noncomputable def spec_l31Later (k : Nat) (a0 : V_impl_SlotDisk) : Option V_impl_Slot := evalT E k 49 t_impl_Slot [inp t_impl_SlotDisk a0] []
theorem spec_l31Later_eq (k : Nat) (a0 : V_impl_SlotDisk) : spec_l31Later (k + 1) a0 = 
 cond (decide (a0.2.1 > a0.1.1)) (some (a0.2.1, a0.2.2.1, a0.2.2.2)) (some (a0.1.1, a0.1.2.1, a0.1.2.2)) := by kernel_rfl

noncomputable def spec_l22Max (k : Nat) : Option V_int := evalT E k 54 t_int [] []
theorem spec_l22Max_eq (k : Nat) : spec_l22Max (k + 1) = some 9999 := by kernel_rfl

noncomputable def spec_l6In (k : Nat) (a0 : V_int) (a1 : V_int) (a2 : V_int) : Option V_bool := evalT E k 73 t_bool [inp t_int a0, inp t_int a1, inp t_int a2] []
theorem spec_l6In_eq (k : Nat) (a0 : V_int) (a1 : V_int) (a2 : V_int) : spec_l6In (k + 1) a0 a1 a2 = 
 cond (decide (a0 ≥ a1)) (some (decide (a0 ≤ a2))) (some false) := by kernel_rfl

noncomputable def spec_l31Nums (k : Nat) (a0 : V_sl_int) : Option V_bool := evalT E k 53 t_bool [inp t_sl_int a0] []
noncomputable def spec_l31Nums_2 (k : Nat) (j : Nat) (y0 : List V_int) (y1 : Int) : Option V_bool := loopAt E 53 t_bool [true, false, true, false] [] [] k [] j (mkS 17 [(0, .c (.sl 3 t_int y0)), (3, .c (.int .i64 y1))]) []
theorem spec_l31Nums_eq (k : Nat) (a0 : V_sl_int) : spec_l31Nums (k + 1) a0 = spec_l31Nums_2 k k a0 0 := by kernel_rfl
theorem spec_l31Nums_2_eq (k : Nat) (j : Nat) (y0 : List V_int) (y1 : Int) : spec_l31Nums_2 k (j + 1) y0 y1 = 
 cond (decide (y1 < (↑y0.length : Int))) (
  cond (decide (0 ≤ y1)) (
   cond (decide (y1 < (↑y0.length : Int))) (
    (spec_l22Max k ).bind fun x0 => 
     (spec_l6In k (y0.getD y1.toNat (dflt t_int)) (-1) x0).bind fun x1 => 
      cond (!x1) (some false) (spec_l31Nums_2 k j y0 (IntKind.i64.wrap (y1 + 1)))) (none)) (none)) (some true) := by kernel_rfl

noncomputable def spec_l31SlotOk (k : Nat) (a0 : V_impl_Slot) : Option V_bool := evalT E k 45 t_bool [inp t_impl_Slot a0] []
noncomputable def spec_l31SlotOk_4 (k : Nat) (j : Nat) (y0 : Int) (y1 : V_impl_Slot) : Option V_bool := loopAt E 45 t_bool [true, true, false, true, false] [] [] k [] j (mkS 41 [(1, .c (.p 0 0)), (3, .c (.int .i64 y0))]) [some (.box 24 (cells t_impl_Slot y1))]
theorem spec_l31SlotOk_eq (k : Nat) (a0 : V_impl_Slot) : spec_l31SlotOk (k + 1) a0 = 
 (spec_l22Max k ).bind fun x0 => 
  (spec_l6In k a0.1 0 x0).bind fun x1 => 
   cond (!x1) (some false) (
    cond ((↑(List.length a0.2.2) : Int) != 160) (some false) (spec_l31SlotOk_4 k k 0 a0)) := by kernel_rfl
theorem spec_l31SlotOk_4_eq (k : Nat) (j : Nat) (y0 : Int) (y1 : V_impl_Slot) : spec_l31SlotOk_4 k (j + 1) y0 y1 = 
 cond (decide (y0 < (↑(List.length y1.2.2) : Int))) (
  cond (decide (0 ≤ y0)) (
   cond (decide (y0 < (↑(List.length y1.2.2) : Int))) (
    cond (decide ((↑(List.length (List.getD y1.2.2 y0.toNat (dflt t_sl_int))) : Int) > 8)) (some false) (
     cond (decide (0 ≤ y0)) (
      cond (decide (y0 < (↑(List.length y1.2.2) : Int))) (
       (spec_l31Nums k (List.getD y1.2.2 y0.toNat (dflt t_sl_int))).bind fun x0 => 
        cond (!x0) (some false) (spec_l31SlotOk_4 k j (IntKind.i64.wrap (y0 + 1)) y1)) (none)) (none))) (none)) (none)) (
  (spec_l6In k y1.2.1 0 1280).bind fun x1 => some x1) := by kernel_rfl

noncomputable def spec_SlotOk (k : Nat) (a0 : V_impl_SlotDisk) : Option V_bool := evalT E k 18 t_bool [inp t_impl_SlotDisk a0] []
theorem spec_SlotOk_eq (k : Nat) (a0 : V_impl_SlotDisk) : spec_SlotOk (k + 1) a0 = 
 (spec_l31SlotOk k a0.1).bind fun x0 => 
  cond (x0) (
   (spec_l31SlotOk k a0.2).bind fun x1 => 
    cond (x1) (
     cond (a0.1.1 != a0.2.1) (some true) (some (a0.1.1 == 0))) (some false)) (some false) := by kernel_rfl

noncomputable def spec_SlotSave (k : Nat) (a0 : V_impl_SlotDisk) (a1 : V_sl_int) : Option (List V_impl_SlotStep × V_bool) := evalT E k 26 (.pair (.ow 59 t_impl_SlotStep) t_bool) [inp t_impl_SlotDisk a0, inp t_sl_int a1] []
noncomputable def spec_SlotSave_8 (k : Nat) (j : Nat) (y0 : List V_int) (y1 : Int) (y2 : Bool) (y3 : Int) (y4 : List V_impl_SlotStep) : Option (List V_impl_SlotStep × V_bool) := loopAt E 26 (.pair (.ow 59 t_impl_SlotStep) t_bool) [true, true, true, true, true, true, false, true, false] [] [] k [] j (mkS 84 [(1, .c (.sl 3 t_int y0)), (6, .c (.o 0)), (7, .c (.int .i64 y1)), (8, .c (.bool y2)), (9, .c (.int .i64 y3))]) [some (.own 59 t_impl_SlotStep y4)]
theorem spec_SlotSave_eq (k : Nat) (a0 : V_impl_SlotDisk) (a1 : V_sl_int) : spec_SlotSave (k + 1) a0 a1 = 
 (spec_l31Later k a0).bind fun x0 => 
  (spec_SlotOk k a0).bind fun x1 => 
   cond (!x1) (some ([], false)) (
    (spec_l31Nums k a1).bind fun x2 => 
     cond (!x2) (some ([], false)) (
      cond (decide ((↑(List.length a1) : Int) > 1280)) (some ([], false)) (
       (spec_l22Max k ).bind fun x3 => 
        cond (decide (x0.1 ≥ x3)) (some ([], false)) (spec_SlotSave_8 k k a1 x0.1 (decide (a0.2.1 ≤ a0.1.1)) 0 [(decide (a0.2.1 ≤ a0.1.1), -1, 0, 0, [])])))) := by kernel_rfl
theorem spec_SlotSave_8_eq (k : Nat) (j : Nat) (y0 : List V_int) (y1 : Int) (y2 : Bool) (y3 : Int) (y4 : List V_impl_SlotStep) : spec_SlotSave_8 k (j + 1) y0 y1 y2 y3 y4 = 
 cond (decide (IntKind.i64.wrap (y3 * 8) < (↑y0.length : Int))) (
  cond (decide (IntKind.i64.wrap (IntKind.i64.wrap (y3 + 1) * 8) > (↑y0.length : Int))) (
   cond (decide (0 ≤ IntKind.i64.wrap (y3 * 8))) (
    cond (decide (IntKind.i64.wrap (y3 * 8) ≤ (↑y0.length : Int))) (
     cond (decide ((↑y0.length : Int) ≤ (↑y0.length : Int))) (
      cond (decide
  ((0 + (List.drop (IntKind.i64.wrap (y3 * 8)).toNat (List.take (↑y0.length : Int).toNat y0)).length) *
      8 ≤
    140737488351232)) (
       cond (decide
  ((y4.length +
        1) *
      56 ≤
    140737488351232)) (spec_SlotSave_8 k j y0 y1 y2 (IntKind.i64.wrap (y3 + 1)) (y4 ++ [(y2, y3, 0, 0, [] ++ List.drop (IntKind.i64.wrap (y3 * 8)).toNat (List.take (↑y0.length : Int).toNat y0))])) (none)) (none)) (none)) (none)) (none)) (
   cond (decide (0 ≤ IntKind.i64.wrap (y3 * 8))) (
    cond (decide (IntKind.i64.wrap (y3 * 8) ≤ IntKind.i64.wrap (IntKind.i64.wrap (y3 + 1) * 8))) (
     cond (decide (IntKind.i64.wrap (IntKind.i64.wrap (y3 + 1) * 8) ≤ (↑y0.length : Int))) (
      cond (decide
  ((0 +
        (List.drop (IntKind.i64.wrap (y3 * 8)).toNat
            (List.take (IntKind.i64.wrap (IntKind.i64.wrap (y3 + 1) * 8)).toNat y0)).length) *
      8 ≤
    140737488351232)) (
       cond (decide
  ((y4.length +
        1) *
      56 ≤
    140737488351232)) (spec_SlotSave_8 k j y0 y1 y2 (IntKind.i64.wrap (y3 + 1)) (y4 ++
  [(y2, y3, 0, 0,
      [] ++
        List.drop (IntKind.i64.wrap (y3 * 8)).toNat
          (List.take (IntKind.i64.wrap (IntKind.i64.wrap (y3 + 1) * 8)).toNat y0))])) (none)) (none)) (none)) (none)) (none))) (
  cond (decide
  ((y4.length + 1) * 56 ≤
    140737488351232)) (some ((y4 ++ [(y2, -1, IntKind.i64.wrap (y1 + 1), (↑y0.length : Int), [])], true))) (none)) := by kernel_rfl

noncomputable def impl_SlotSave (k : Nat) (a0 : V_impl_SlotDisk) (a1 : V_sl_int) : Option (List V_impl_SlotStep × Bool) := evalT E k 28 (.pair (.dw 59 t_impl_SlotStep) .bool) [inp t_impl_SlotDisk a0, inp t_sl_int a1] []
theorem impl_SlotSave_eq (k : Nat) (a0 : V_impl_SlotDisk) (a1 : V_sl_int) : impl_SlotSave (k + 1) a0 a1 = some (saveF a0.1.1 a0.1.2.1 a0.1.2.2 a0.2.1 a0.2.2.1 a0.2.2.2 a1) := by kernel_rfl

noncomputable def laws_eqIntS (k : Nat) (a0 : V_sl_int) (a1 : V_sl_int) : Option V_bool := evalT E k 23 t_bool [inp t_sl_int a0, inp t_sl_int a1] []
noncomputable def laws_eqIntS_4 (k : Nat) (j : Nat) (y0 : List V_int) (y1 : List V_int) (y2 : Int) : Option V_bool := loopAt E 23 t_bool [true, true, false, true, false] [] [] k [] j (mkS 26 [(0, .c (.sl 3 t_int y0)), (1, .c (.sl 3 t_int y1)), (5, .c (.int .i64 y2))]) []
theorem laws_eqIntS_eq (k : Nat) (a0 : V_sl_int) (a1 : V_sl_int) : laws_eqIntS (k + 1) a0 a1 = 
 cond ((↑(List.length a0) : Int) != (↑(List.length a1) : Int)) (some false) (laws_eqIntS_4 k k a0 a1 0) := by kernel_rfl
theorem laws_eqIntS_4_eq (k : Nat) (j : Nat) (y0 : List V_int) (y1 : List V_int) (y2 : Int) : laws_eqIntS_4 k (j + 1) y0 y1 y2 = 
 cond (decide (y2 < (↑y0.length : Int))) (
  cond (decide (0 ≤ y2)) (
   cond (decide (y2 < (↑y0.length : Int))) (
    cond (decide (0 ≤ y2)) (
     cond (decide (y2 < (↑y1.length : Int))) (
      cond (y0.getD y2.toNat (dflt t_int) != y1.getD y2.toNat (dflt t_int)) (some false) (laws_eqIntS_4 k j y0 y1 (IntKind.i64.wrap (y2 + 1)))) (none)) (none)) (none)) (none)) (some true) := by kernel_rfl

noncomputable def laws_eqSlotStep (k : Nat) (a0 : V_impl_SlotStep) (a1 : V_impl_SlotStep) : Option V_bool := evalT E k 58 t_bool [inp t_impl_SlotStep a0, inp t_impl_SlotStep a1] []
theorem laws_eqSlotStep_eq (k : Nat) (a0 : V_impl_SlotStep) (a1 : V_impl_SlotStep) : laws_eqSlotStep (k + 1) a0 a1 = 
 cond (!a0.1 == a1.1) (some false) (
  cond (a0.2.1 != a1.2.1) (some false) (
   cond (a0.2.2.1 != a1.2.2.1) (some false) (
    cond (a0.2.2.2.1 != a1.2.2.2.1) (some false) (
     (laws_eqIntS k a0.2.2.2.2 a1.2.2.2.2).bind fun x0 => 
      cond (!x0) (some false) (some true))))) := by kernel_rfl

noncomputable def laws_eqSlotStepS (k : Nat) (a0 : V_sl_impl_SlotStep) (a1 : V_sl_impl_SlotStep) : Option V_bool := evalT E k 29 t_bool [inp t_sl_impl_SlotStep a0, inp t_sl_impl_SlotStep a1] []
noncomputable def laws_eqSlotStepS_4 (k : Nat) (j : Nat) (y0 : List V_impl_SlotStep) (y1 : List V_impl_SlotStep) (y2 : Int) : Option V_bool := loopAt E 29 t_bool [true, true, false, true, false] [] [] k [] j (mkS 27 [(0, .c (.sl 59 t_impl_SlotStep y0)), (1, .c (.sl 59 t_impl_SlotStep y1)), (5, .c (.int .i64 y2))]) []
theorem laws_eqSlotStepS_eq (k : Nat) (a0 : V_sl_impl_SlotStep) (a1 : V_sl_impl_SlotStep) : laws_eqSlotStepS (k + 1) a0 a1 = 
 cond ((↑(List.length a0) : Int) != (↑(List.length a1) : Int)) (some false) (laws_eqSlotStepS_4 k k a0 a1 0) := by kernel_rfl
theorem laws_eqSlotStepS_4_eq (k : Nat) (j : Nat) (y0 : List V_impl_SlotStep) (y1 : List V_impl_SlotStep) (y2 : Int) : laws_eqSlotStepS_4 k (j + 1) y0 y1 y2 = 
 cond (decide (y2 < (↑y0.length : Int))) (
  cond (decide (0 ≤ y2)) (
   cond (decide (y2 < (↑y0.length : Int))) (
    cond (decide (0 ≤ y2)) (
     cond (decide (y2 < (↑y1.length : Int))) (
      (laws_eqSlotStep k (y0.getD y2.toNat (dflt t_impl_SlotStep)) (y1.getD y2.toNat (dflt t_impl_SlotStep))).bind fun x0 => 
       cond (!x0) (some false) (laws_eqSlotStepS_4 k j y0 y1 (IntKind.i64.wrap (y2 + 1)))) (none)) (none)) (none)) (none)) (some true) := by kernel_rfl

noncomputable def laws_eqIntSS (k : Nat) (a0 : V_sl_sl_int) (a1 : V_sl_sl_int) : Option V_bool := evalT E k 69 t_bool [inp t_sl_sl_int a0, inp t_sl_sl_int a1] []
noncomputable def laws_eqIntSS_4 (k : Nat) (j : Nat) (y0 : List V_sl_int) (y1 : List V_sl_int) (y2 : Int) : Option V_bool := loopAt E 69 t_bool [true, true, false, true, false] [] [] k [] j (mkS 27 [(0, .c (.sl 38 t_sl_int y0)), (1, .c (.sl 38 t_sl_int y1)), (5, .c (.int .i64 y2))]) []
theorem laws_eqIntSS_eq (k : Nat) (a0 : V_sl_sl_int) (a1 : V_sl_sl_int) : laws_eqIntSS (k + 1) a0 a1 = 
 cond ((↑(List.length a0) : Int) != (↑(List.length a1) : Int)) (some false) (laws_eqIntSS_4 k k a0 a1 0) := by kernel_rfl
theorem laws_eqIntSS_4_eq (k : Nat) (j : Nat) (y0 : List V_sl_int) (y1 : List V_sl_int) (y2 : Int) : laws_eqIntSS_4 k (j + 1) y0 y1 y2 = 
 cond (decide (y2 < (↑y0.length : Int))) (
  cond (decide (0 ≤ y2)) (
   cond (decide (y2 < (↑y0.length : Int))) (
    cond (decide (0 ≤ y2)) (
     cond (decide (y2 < (↑y1.length : Int))) (
      (laws_eqIntS k (y0.getD y2.toNat (dflt t_sl_int)) (y1.getD y2.toNat (dflt t_sl_int))).bind fun x0 => 
       cond (!x0) (some false) (laws_eqIntSS_4 k j y0 y1 (IntKind.i64.wrap (y2 + 1)))) (none)) (none)) (none)) (none)) (some true) := by kernel_rfl

noncomputable def laws_eqSlot (k : Nat) (a0 : V_impl_Slot) (a1 : V_impl_Slot) : Option V_bool := evalT E k 41 t_bool [inp t_impl_Slot a0, inp t_impl_Slot a1] []
theorem laws_eqSlot_eq (k : Nat) (a0 : V_impl_Slot) (a1 : V_impl_Slot) : laws_eqSlot (k + 1) a0 a1 = 
 cond (a0.1 != a1.1) (some false) (
  cond (a0.2.1 != a1.2.1) (some false) (
   (laws_eqIntSS k a0.2.2 a1.2.2).bind fun x0 => 
    cond (!x0) (some false) (some true))) := by kernel_rfl

noncomputable def laws_eqSlotDisk (k : Nat) (a0 : V_impl_SlotDisk) (a1 : V_impl_SlotDisk) : Option V_bool := evalT E k 14 t_bool [inp t_impl_SlotDisk a0, inp t_impl_SlotDisk a1] []
theorem laws_eqSlotDisk_eq (k : Nat) (a0 : V_impl_SlotDisk) (a1 : V_impl_SlotDisk) : laws_eqSlotDisk (k + 1) a0 a1 = 
 (laws_eqSlot k a0.1 a1.1).bind fun x0 => 
  cond (!x0) (some false) (
   (laws_eqSlot k a0.2 a1.2).bind fun x1 => 
    cond (!x1) (some false) (some true)) := by kernel_rfl

noncomputable def laws_markIntS_h0 (k : Nat) (y0 : V_int) (y1 : List V_int) : Option ((V_int × (List V_int × Unit))) := evalT E k 24 (.pair t_int (.pair (.ow 3 t_int) .unit)) [.c (.o 0), inp t_int y0] [some (.own 3 t_int y1)]
noncomputable def laws_markIntS_h0_2 (k : Nat) (j : Nat) (y0 : Int) (y1 : Int) (y2 : List V_int) : Option ((V_int × (List V_int × Unit))) := loopAt E 24 (.pair t_int (.pair (.ow 3 t_int) .unit)) [true, false, true, false] [none] [0] k [] j (mkS 19 [(0, .c (.o 0)), (1, .c (.int .i64 y0)), (5, .c (.int .i64 y1))]) [some (.own 3 t_int y2)]
theorem laws_markIntS_h0_eq (k : Nat) (y0 : V_int) (y1 : List V_int) : laws_markIntS_h0 (k + 1) y0 y1 = laws_markIntS_h0_2 k k y0 0 y1 := by kernel_rfl
theorem laws_markIntS_h0_2_eq (k : Nat) (j : Nat) (y0 : Int) (y1 : Int) (y2 : List V_int) : laws_markIntS_h0_2 k (j + 1) y0 y1 y2 = 
 cond (decide (y1 < (↑y2.length : Int))) (
  cond (decide (0 ≤ y1)) (
   cond (decide (y1 < (↑y2.length : Int))) (
    cond (decide (y1.toNat < y2.length)) (laws_markIntS_h0_2 k j (IntKind.i64.wrap (y0 + 1)) (IntKind.i64.wrap (y1 + 1)) (y2.set y1.toNat y0)) (none)) (none)) (none)) (some ((y0, y2, ()))) := by kernel_rfl

noncomputable def laws_markIntSS_h0 (k : Nat) (y0 : V_int) (y1 : List V_sl_int) : Option ((V_int × (List V_sl_int × Unit))) := evalT E k 70 (.pair t_int (.pair (.dw 38 t_sl_int) .unit)) [.c (.o 0), inp t_int y0] [some (.dp 38 t_sl_int y1)]
noncomputable def laws_markIntSS_h0_2 (k : Nat) (j : Nat) (y0 : Int) (y1 : Int) (y2 : List V_sl_int) : Option ((V_int × (List V_sl_int × Unit))) := loopAt E 70 (.pair t_int (.pair (.dw 38 t_sl_int) .unit)) [true, false, true, false] [none] [0] k [] j (mkS 19 [(0, .c (.o 0)), (1, .c (.int .i64 y0)), (5, .c (.int .i64 y1))]) [some (.dp 38 t_sl_int y2)]
theorem laws_markIntSS_h0_eq (k : Nat) (y0 : V_int) (y1 : List V_sl_int) : laws_markIntSS_h0 (k + 1) y0 y1 = laws_markIntSS_h0_2 k k y0 0 y1 := by kernel_rfl
theorem laws_markIntSS_h0_2_eq (k : Nat) (j : Nat) (y0 : Int) (y1 : Int) (y2 : List V_sl_int) : laws_markIntSS_h0_2 k (j + 1) y0 y1 y2 = 
 cond (decide (y1 < (↑y2.length : Int))) (
  cond (decide (0 ≤ y1)) (
   cond (decide (y1 < (↑y2.length : Int))) (
    cond (decide (y1.toNat < y2.length)) (
     (laws_markIntS_h0 k y0 (y2.getD y1.toNat (dflt t_sl_int))).bind fun x0 => laws_markIntSS_h0_2 k j x0.1 (IntKind.i64.wrap (y1 + 1)) (y2.modify y1.toNat fun x => x0.2.1)) (none)) (none)) (none)) (some ((y0, y2, ()))) := by kernel_rfl

noncomputable def laws_markSlot_h0 (k : Nat) (y0 : Int) (y1 : Int) (y2 : V_int) (y3 : List V_sl_int) : Option ((V_int × (List V_sl_int × Unit))) := evalT E k 42 (.pair t_int (.pair (.dw 38 t_sl_int) .unit)) [.v (.agg [.int .i64 y0, .int .i64 y1, .o 0]), inp t_int y2] [some (.dp 38 t_sl_int y3)]
theorem laws_markSlot_h0_eq (k : Nat) (y0 : Int) (y1 : Int) (y2 : V_int) (y3 : List V_sl_int) : laws_markSlot_h0 (k + 1) y0 y1 y2 y3 = 
 (laws_markIntSS_h0 k y2 y3).bind fun x0 => some ((x0.1, x0.2.1, ())) := by kernel_rfl

noncomputable def laws_markSlotDisk_h0 (k : Nat) (y0 : Int) (y1 : Int) (y2 : Int) (y3 : Int) (y4 : V_int) (y5 : List V_sl_int) (y6 : List V_sl_int) : Option ((V_int × (List V_sl_int × (List V_sl_int × Unit)))) := evalT E k 15 (.pair t_int (.pair (.dw 38 t_sl_int) (.pair (.dw 38 t_sl_int) .unit))) [.v (.agg [.int .i64 y0, .int .i64 y1, .o 0, .int .i64 y2, .int .i64 y3, .o 1]), inp t_int y4] [some (.dp 38 t_sl_int y5), some (.dp 38 t_sl_int y6)]
theorem laws_markSlotDisk_h0_eq (k : Nat) (y0 : Int) (y1 : Int) (y2 : Int) (y3 : Int) (y4 : V_int) (y5 : List V_sl_int) (y6 : List V_sl_int) : laws_markSlotDisk_h0 (k + 1) y0 y1 y2 y3 y4 y5 y6 = 
 (laws_markSlot_h0 k y0 y1 y4 y5).bind fun x0 => 
  (laws_markSlot_h0 k y2 y3 x0.1 y6).bind fun x1 => some ((x1.1, x0.2.1, x1.2.1, ())) := by kernel_rfl

noncomputable def laws_markSlotStepS_h0 (k : Nat) (y0 : V_int) (y1 : List V_impl_SlotStep) : Option ((V_int × (List V_impl_SlotStep × Unit))) := evalT E k 30 (.pair t_int (.pair (.dw 59 t_impl_SlotStep) .unit)) [.c (.o 0), inp t_int y0] [some (.dp 59 t_impl_SlotStep y1)]
noncomputable def laws_markSlotStepS_h0_2 (k : Nat) (j : Nat) (y0 : Int) (y1 : Int) (y2 : List V_impl_SlotStep) : Option ((V_int × (List V_impl_SlotStep × Unit))) := loopAt E 30 (.pair t_int (.pair (.dw 59 t_impl_SlotStep) .unit)) [true, false, true, false] [none] [0] k [] j (mkS 50 [(0, .c (.o 0)), (1, .c (.int .i64 y0)), (5, .c (.int .i64 y1))]) [some (.dp 59 t_impl_SlotStep y2)]
theorem laws_markSlotStepS_h0_eq (k : Nat) (y0 : V_int) (y1 : List V_impl_SlotStep) : laws_markSlotStepS_h0 (k + 1) y0 y1 = laws_markSlotStepS_h0_2 k k y0 0 y1 := by kernel_rfl
theorem laws_markSlotStepS_h0_2_eq (k : Nat) (j : Nat) (y0 : Int) (y1 : Int) (y2 : List V_impl_SlotStep) : laws_markSlotStepS_h0_2 k (j + 1) y0 y1 y2 = 
 cond (decide (y1 < (↑y2.length : Int))) (
  cond (decide (0 ≤ y1)) (
   cond (decide (y1 < (↑y2.length : Int))) (
    cond (decide (y1.toNat < y2.length)) (
     cond (decide (0 ≤ y1)) (
      cond (decide
  (y1 <
    (↑(y2.modify y1.toNat fun x =>
            (Decidable.rec (fun h => false) (fun h => true) ((y0.tmod 3).instDecidableEq 0), x.2.1, x.2.2.1,
              x.2.2.2.1, x.2.2.2.2)).length :
      Int))) (
       cond (decide
  (y1.toNat <
    (y2.modify y1.toNat fun x =>
        (Decidable.rec (fun h => false) (fun h => true) ((y0.tmod 3).instDecidableEq 0), x.2.1, x.2.2.1,
          x.2.2.2.1, x.2.2.2.2)).length)) (
        cond (decide (0 ≤ y1)) (
         cond (decide
  (y1 <
    (↑((y2.modify y1.toNat fun x =>
                (Decidable.rec (fun h => false) (fun h => true) ((y0.tmod 3).instDecidableEq 0), x.2.1,
                  x.2.2.1, x.2.2.2.1, x.2.2.2.2)).modify
            y1.toNat fun x =>
            (x.1, IntKind.i64.wrap (y0 + 1), x.2.2.1, x.2.2.2.1, x.2.2.2.2)).length :
      Int))) (
          cond (decide
  (y1.toNat <
    ((y2.modify y1.toNat fun x =>
            (Decidable.rec (fun h => false) (fun h => true) ((y0.tmod 3).instDecidableEq 0), x.2.1, x.2.2.1,
              x.2.2.2.1, x.2.2.2.2)).modify
        y1.toNat fun x =>
        (x.1, IntKind.i64.wrap (y0 + 1), x.2.2.1, x.2.2.2.1, x.2.2.2.2)).length)) (
           cond (decide (0 ≤ y1)) (
            cond (decide
  (y1 <
    (↑(((y2.modify y1.toNat fun x =>
                    (Decidable.rec (fun h => false) (fun h => true) ((y0.tmod 3).instDecidableEq 0), x.2.1,
                      x.2.2.1, x.2.2.2.1, x.2.2.2.2)).modify
                y1.toNat fun x =>
                (x.1, IntKind.i64.wrap (y0 + 1), x.2.2.1, x.2.2.2.1, x.2.2.2.2)).modify
            y1.toNat fun x =>
            (x.1, x.2.1, IntKind.i64.wrap (IntKind.i64.wrap (y0 + 1) + 1), x.2.2.2.1,
              x.2.2.2.2)).length :
      Int))) (
             cond (decide
  (y1.toNat <
    (((y2.modify y1.toNat fun x =>
                (Decidable.rec (fun h => false) (fun h => true) ((y0.tmod 3).instDecidableEq 0), x.2.1,
                  x.2.2.1, x.2.2.2.1, x.2.2.2.2)).modify
            y1.toNat fun x =>
            (x.1, IntKind.i64.wrap (y0 + 1), x.2.2.1, x.2.2.2.1, x.2.2.2.2)).modify
        y1.toNat fun x =>
        (x.1, x.2.1, IntKind.i64.wrap (IntKind.i64.wrap (y0 + 1) + 1), x.2.2.2.1,
          x.2.2.2.2)).length)) (
              cond (decide (0 ≤ y1)) (
               cond (decide
  (y1 <
    (↑((((y2.modify y1.toNat fun x =>
                        (Decidable.rec (fun h => false) (fun h => true) ((y0.tmod 3).instDecidableEq 0), x.2.1,
                          x.2.2.1, x.2.2.2.1, x.2.2.2.2)).modify
                    y1.toNat fun x =>
                    (x.1, IntKind.i64.wrap (y0 + 1), x.2.2.1, x.2.2.2.1, x.2.2.2.2)).modify
                y1.toNat fun x =>
                (x.1, x.2.1, IntKind.i64.wrap (IntKind.i64.wrap (y0 + 1) + 1), x.2.2.2.1,
                  x.2.2.2.2)).modify
            y1.toNat fun x =>
            (x.1, x.2.1, x.2.2.1, IntKind.i64.wrap (IntKind.i64.wrap (IntKind.i64.wrap (y0 + 1) + 1) + 1),
              x.2.2.2.2)).length :
      Int))) (
                cond (decide
  (y1.toNat <
    ((((y2.modify y1.toNat fun x =>
                    (Decidable.rec (fun h => false) (fun h => true) ((y0.tmod 3).instDecidableEq 0), x.2.1,
                      x.2.2.1, x.2.2.2.1, x.2.2.2.2)).modify
                y1.toNat fun x =>
                (x.1, IntKind.i64.wrap (y0 + 1), x.2.2.1, x.2.2.2.1, x.2.2.2.2)).modify
            y1.toNat fun x =>
            (x.1, x.2.1, IntKind.i64.wrap (IntKind.i64.wrap (y0 + 1) + 1), x.2.2.2.1,
              x.2.2.2.2)).modify
        y1.toNat fun x =>
        (x.1, x.2.1, x.2.2.1, IntKind.i64.wrap (IntKind.i64.wrap (IntKind.i64.wrap (y0 + 1) + 1) + 1),
          x.2.2.2.2)).length)) (
                 (laws_markIntS_h0 k (IntKind.i64.wrap (IntKind.i64.wrap (IntKind.i64.wrap (IntKind.i64.wrap (y0 + 1) + 1) + 1) + 1)) ((((((y2.modify y1.toNat fun x =>
                          (Decidable.rec (fun h => false) (fun h => true) ((y0.tmod 3).instDecidableEq 0), x.2.1,
                            x.2.2.1, x.2.2.2.1, x.2.2.2.2)).modify
                      y1.toNat fun x =>
                      (x.1, IntKind.i64.wrap (y0 + 1), x.2.2.1, x.2.2.2.1, x.2.2.2.2)).modify
                  y1.toNat fun x =>
                  (x.1, x.2.1, IntKind.i64.wrap (IntKind.i64.wrap (y0 + 1) + 1), x.2.2.2.1,
                    x.2.2.2.2)).modify
              y1.toNat fun x =>
              (x.1, x.2.1, x.2.2.1, IntKind.i64.wrap (IntKind.i64.wrap (IntKind.i64.wrap (y0 + 1) + 1) + 1),
                x.2.2.2.2)).getD
          y1.toNat (dflt t_impl_SlotStep)).2.2.2.2)).bind fun x0 => laws_markSlotStepS_h0_2 k j x0.1 (IntKind.i64.wrap (y1 + 1)) (((((y2.modify y1.toNat fun x =>
                  (Decidable.rec (fun h => false) (fun h => true) ((y0.tmod 3).instDecidableEq 0), x.2.1,
                    x.2.2.1, x.2.2.2.1, x.2.2.2.2)).modify
              y1.toNat fun x =>
              (x.1, IntKind.i64.wrap (y0 + 1), x.2.2.1, x.2.2.2.1, x.2.2.2.2)).modify
          y1.toNat fun x =>
          (x.1, x.2.1, IntKind.i64.wrap (IntKind.i64.wrap (y0 + 1) + 1), x.2.2.2.1,
            x.2.2.2.2)).modify
      y1.toNat fun x =>
      (x.1, x.2.1, x.2.2.1, IntKind.i64.wrap (IntKind.i64.wrap (IntKind.i64.wrap (y0 + 1) + 1) + 1),
        x.2.2.2.2)).modify
  y1.toNat fun x => (x.1, x.2.1, x.2.2.1, x.2.2.2.1, x0.2.1))) (none)) (none)) (none)) (none)) (none)) (none)) (none)) (none)) (none)) (none)) (none)) (none)) (none)) (none)) (none)) (some ((y0, y2, ()))) := by kernel_rfl

noncomputable def laws_heldIntS (k : Nat) (a0 : V_sl_int) (a1 : V_int) : Option V_int := evalT E k 25 t_int [inp t_sl_int a0, inp t_int a1] []
noncomputable def laws_heldIntS_2 (k : Nat) (j : Nat) (y0 : List V_int) (y1 : Int) (y2 : Int) : Option V_int := loopAt E 25 t_int [true, false, true, false] [] [] k [] j (mkS 21 [(0, .c (.sl 3 t_int y0)), (1, .c (.int .i64 y1)), (5, .c (.int .i64 y2))]) []
theorem laws_heldIntS_eq (k : Nat) (a0 : V_sl_int) (a1 : V_int) : laws_heldIntS (k + 1) a0 a1 = laws_heldIntS_2 k k a0 a1 0 := by kernel_rfl
theorem laws_heldIntS_2_eq (k : Nat) (j : Nat) (y0 : List V_int) (y1 : Int) (y2 : Int) : laws_heldIntS_2 k (j + 1) y0 y1 y2 = 
 cond (decide (y2 < (↑y0.length : Int))) (
  cond (decide (0 ≤ y2)) (
   cond (decide (y2 < (↑y0.length : Int))) (
    cond (y0.getD y2.toNat (dflt t_int) != y1) (some (-1)) (laws_heldIntS_2 k j y0 (IntKind.i64.wrap (y1 + 1)) (IntKind.i64.wrap (y2 + 1)))) (none)) (none)) (some y1) := by kernel_rfl

noncomputable def laws_heldSlotStepS (k : Nat) (a0 : V_sl_impl_SlotStep) (a1 : V_int) : Option V_int := evalT E k 31 t_int [inp t_sl_impl_SlotStep a0, inp t_int a1] []
noncomputable def laws_heldSlotStepS_2 (k : Nat) (j : Nat) (y0 : List V_impl_SlotStep) (y1 : Int) (y2 : Int) : Option V_int := loopAt E 31 t_int [true, false, true, false] [] [] k [] j (mkS 60 [(0, .c (.sl 59 t_impl_SlotStep y0)), (1, .c (.int .i64 y1)), (5, .c (.int .i64 y2))]) []
theorem laws_heldSlotStepS_eq (k : Nat) (a0 : V_sl_impl_SlotStep) (a1 : V_int) : laws_heldSlotStepS (k + 1) a0 a1 = laws_heldSlotStepS_2 k k a0 a1 0 := by kernel_rfl
theorem laws_heldSlotStepS_2_eq (k : Nat) (j : Nat) (y0 : List V_impl_SlotStep) (y1 : Int) (y2 : Int) : laws_heldSlotStepS_2 k (j + 1) y0 y1 y2 = 
 cond (decide (y2 < (↑y0.length : Int))) (
  cond (decide (0 ≤ y2)) (
   cond (decide (y2 < (↑y0.length : Int))) (
    cond (!(y0.getD y2.toNat (dflt t_impl_SlotStep)).1 == (y1.tmod 3 == 0)) (some (-1)) (
     cond (decide (0 ≤ y2)) (
      cond (decide (y2 < (↑y0.length : Int))) (
       cond ((y0.getD y2.toNat (dflt t_impl_SlotStep)).2.1 != IntKind.i64.wrap (y1 + 1)) (some (-1)) (
        cond (decide (0 ≤ y2)) (
         cond (decide (y2 < (↑y0.length : Int))) (
          cond ((y0.getD y2.toNat (dflt t_impl_SlotStep)).2.2.1 != IntKind.i64.wrap (IntKind.i64.wrap (y1 + 1) + 1)) (some (-1)) (
           cond (decide (0 ≤ y2)) (
            cond (decide (y2 < (↑y0.length : Int))) (
             cond ((y0.getD y2.toNat (dflt t_impl_SlotStep)).2.2.2.1 != IntKind.i64.wrap (IntKind.i64.wrap (IntKind.i64.wrap (y1 + 1) + 1) + 1)) (some (-1)) (
              cond (decide (0 ≤ y2)) (
               cond (decide (y2 < (↑y0.length : Int))) (
                (laws_heldIntS k ((y0.getD y2.toNat (dflt t_impl_SlotStep)).2.2.2.2) (IntKind.i64.wrap (IntKind.i64.wrap (IntKind.i64.wrap (IntKind.i64.wrap (y1 + 1) + 1) + 1) + 1))).bind fun x0 => 
                 cond (decide (x0 < 0)) (some (-1)) (laws_heldSlotStepS_2 k j y0 x0 (IntKind.i64.wrap (y2 + 1)))) (none)) (none))) (none)) (none))) (none)) (none))) (none)) (none))) (none)) (none)) (some y1) := by kernel_rfl

noncomputable def laws_FnExactSlotSave (k : Nat) (a0 : V_laws_SlotDisk) (a1 : V_sl_int) : Option V_bool := evalT E k 6 t_bool [inp t_laws_SlotDisk a0, inp t_sl_int a1] []
theorem laws_FnExactSlotSave_eq (k : Nat) (a0 : V_laws_SlotDisk) (a1 : V_sl_int) : laws_FnExactSlotSave (k + 1) a0 a1 = 
 cond (decide ((↑(List.length a1) : Int) > 1048576)) (some true) (
  (laws_szSlotDisk k a0 1048576).bind fun x0 => 
   cond (decide (x0 < 0)) (some true) (
    (laws_toSlotDisk k a0).bind fun x1 => 
     (laws_toIntS k a1).bind fun x2 => 
      (spec_SlotSave k x1 x2).bind fun x3 => 
       (laws_toSlotDisk k a0).bind fun x4 => 
        (laws_toIntS k a1).bind fun x5 => 
         (impl_SlotSave k x4 x5).bind fun x6 => 
          (laws_eqSlotStepS k x6.1 x3.1).bind fun x7 => 
           cond (!x7) (some false) (
            cond (!x6.2 == x3.2) (some false) (
             (laws_toSlotDisk k a0).bind fun x8 => 
              (laws_eqSlotDisk k x4 x8).bind fun x9 => 
               cond (!x9) (some false) (
                (laws_toIntS k a1).bind fun x10 => 
                 (laws_eqIntS k x5 x10).bind fun x11 => 
                  cond (!x11) (some false) (
                   (laws_markSlotDisk_h0 k x4.1.1 x4.1.2.1 x4.2.1 x4.2.2.1 1 x4.1.2.2 x4.2.2.2).bind fun x12 => 
                    (laws_markIntS_h0 k x12.1 x5).bind fun x13 => 
                     cond (decide (x13.1 < 0)) (some false) (
                      (laws_eqSlotStepS k x6.1 x3.1).bind fun x14 => 
                       cond (!x14) (some false) (
                        cond (!x6.2 == x3.2) (some false) (
                         (laws_markSlotStepS_h0 k 1 x6.1).bind fun x15 => 
                          (laws_heldSlotStepS k x15.2.1 1).bind fun x16 => 
                           cond (decide (x16 < 0)) (some false) (
                            cond (x16 != x15.1) (some false) (
                             (laws_toSlotDisk k a0).bind fun x17 => 
                              (laws_toIntS k a1).bind fun x18 => 
                               (impl_SlotSave k x17 x18).bind fun x19 => 
                                (laws_eqSlotStepS k x19.1 x3.1).bind fun x20 => 
                                 cond (!x20) (some false) (
                                  cond (!x19.2 == x3.2) (some false) (
                                   (laws_heldSlotStepS k x15.2.1 1).bind fun x21 => 
                                    cond (decide (x21 < 0)) (some false) (
                                     cond (x21 != x15.1) (some false) (some true))))))))))))))) := by kernel_rfl

def Goal : Prop := ∀ (a0 : V_laws_SlotDisk) (a1 : V_sl_int), Go.Sx.Good t_laws_SlotDisk a0 → Go.Sx.Good t_sl_int a1 → ∃ k, laws_FnExactSlotSave k a0 a1 = some true
end Go.Proofs.Ytiabhdebjajgiaa.SFnExactSlotSave
