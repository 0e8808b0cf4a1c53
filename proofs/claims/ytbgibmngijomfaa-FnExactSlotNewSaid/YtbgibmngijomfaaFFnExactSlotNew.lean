/- What each function of the program answers: one step of the plain machine, by the kernel. -/
import Derived.Test.YtbgibmngijomfaaEFnExactSlotNew
set_option linter.unusedVariables false
set_option maxRecDepth 1000000
set_option maxHeartbeats 0
namespace Go.Proofs.Ytbgibmngijomfaa.SFnExactSlotNew
open Go Go.Sx Go.Proofs
noncomputable def spec_SlotNew (k : Nat) : Option (((V_int × (V_int × List V_sl_int)) × (V_int × (V_int × List V_sl_int)))) := evalT E k 28 (.pair (.pair t_int (.pair t_int (.ow 73 t_sl_int))) (.pair t_int (.pair t_int (.ow 73 t_sl_int)))) [] []
noncomputable def spec_SlotNew_3 (k : Nat) (j : Nat) (y0 : Int) (y1 : Int) (y2 : Int) (y3 : Int) (y4 : Int) (y5 : Int) (y6 : Int) (y7 : Int) (y8 : Int) (y9 : List V_sl_int) (y10 : List V_sl_int) (y11 : List V_sl_int) (y12 : List V_sl_int) : Option (((V_int × (V_int × List V_sl_int)) × (V_int × (V_int × List V_sl_int)))) := loopAt E 28 (.pair (.pair t_int (.pair t_int (.ow 73 t_sl_int))) (.pair t_int (.pair t_int (.ow 73 t_sl_int)))) [true, true, false, true, false] [] [] k [] j (mkS 25 [(0, .c (.p 0 0)), (1, .c (.p 1 0)), (2, .c (.int .i64 y0))]) [some (.box 47 [.int .i64 y1, .int .i64 y2, .o 2, .int .i64 y3, .int .i64 y4, .o 3]), some (.box 47 [.int .i64 y5, .int .i64 y6, .o 4, .int .i64 y7, .int .i64 y8, .o 5]), some (.own 73 t_sl_int y9), some (.own 73 t_sl_int y10), some (.own 73 t_sl_int y11), some (.own 73 t_sl_int y12)]
theorem spec_SlotNew_eq (k : Nat) : spec_SlotNew (k + 1) = spec_SlotNew_3 k k 0 0 0 0 0 0 0 0 0 [] [] [] [] := by kernel_rfl
theorem spec_SlotNew_3_eq (k : Nat) (j : Nat) (y0 : Int) (y1 : Int) (y2 : Int) (y3 : Int) (y4 : Int) (y5 : Int) (y6 : Int) (y7 : Int) (y8 : Int) (y9 : List V_sl_int) (y10 : List V_sl_int) (y11 : List V_sl_int) (y12 : List V_sl_int) : spec_SlotNew_3 k (j + 1) y0 y1 y2 y3 y4 y5 y6 y7 y8 y9 y10 y11 y12 = 
 cond (decide (y0 < 160)) (
  cond (decide ((y11.length + 1) * 24 ≤ 140737488351232)) (
   cond (decide ((y12.length + 1) * 24 ≤ 140737488351232)) (spec_SlotNew_3 k j (IntKind.i64.wrap (y0 + 1)) y1 y2 y3 y4 y5 y6 y7 y8 y9 y10 (y11 ++ [[]]) (y12 ++ [[]])) (none)) (none)) (some (((y5, y6, y11), y7, y8, y12))) := by kernel_rfl

noncomputable def impl_SlotNew (k : Nat) : Option (((V_int × (V_int × List V_sl_int)) × (V_int × (V_int × List V_sl_int)))) := evalT E k 29 (.pair (.pair t_int (.pair t_int (.ow 73 t_sl_int))) (.pair t_int (.pair t_int (.ow 73 t_sl_int)))) [] []
theorem impl_SlotNew_eq (k : Nat) : impl_SlotNew (k + 1) = some (((0, 0, List.replicate (Int.toNat 160) (dflt t_sl_int)), 0, 0, List.replicate (Int.toNat 160) (dflt t_sl_int))) := by kernel_rfl

noncomputable def laws_eqIntS (k : Nat) (a0 : V_sl_int) (a1 : V_sl_int) : Option V_bool := evalT E k 82 t_bool [inp t_sl_int a0, inp t_sl_int a1] []
noncomputable def laws_eqIntS_4 (k : Nat) (j : Nat) (y0 : List V_int) (y1 : List V_int) (y2 : Int) : Option V_bool := loopAt E 82 t_bool [true, true, false, true, false] [] [] k [] j (mkS 26 [(0, .c (.sl 3 t_int y0)), (1, .c (.sl 3 t_int y1)), (5, .c (.int .i64 y2))]) []
theorem laws_eqIntS_eq (k : Nat) (a0 : V_sl_int) (a1 : V_sl_int) : laws_eqIntS (k + 1) a0 a1 = 
 cond ((↑(List.length a0) : Int) != (↑(List.length a1) : Int)) (some false) (laws_eqIntS_4 k k a0 a1 0) := by kernel_rfl
theorem laws_eqIntS_4_eq (k : Nat) (j : Nat) (y0 : List V_int) (y1 : List V_int) (y2 : Int) : laws_eqIntS_4 k (j + 1) y0 y1 y2 = 
 cond (decide (y2 < (↑y0.length : Int))) (
  cond (decide (0 ≤ y2)) (
   cond (decide (y2 < (↑y0.length : Int))) (
    cond (decide (0 ≤ y2)) (
     cond (decide (y2 < (↑y1.length : Int))) (
      cond (y0.getD y2.toNat (dflt t_int) != y1.getD y2.toNat (dflt t_int)) (some false) (laws_eqIntS_4 k j y0 y1 (IntKind.i64.wrap (y2 + 1)))) (none)) (none)) (none)) (none)) (some true) := by kernel_rfl

noncomputable def laws_eqIntSS (k : Nat) (a0 : V_sl_sl_int) (a1 : V_sl_sl_int) : Option V_bool := evalT E k 71 t_bool [inp t_sl_sl_int a0, inp t_sl_sl_int a1] []
noncomputable def laws_eqIntSS_4 (k : Nat) (j : Nat) (y0 : List V_sl_int) (y1 : List V_sl_int) (y2 : Int) : Option V_bool := loopAt E 71 t_bool [true, true, false, true, false] [] [] k [] j (mkS 27 [(0, .c (.sl 73 t_sl_int y0)), (1, .c (.sl 73 t_sl_int y1)), (5, .c (.int .i64 y2))]) []
theorem laws_eqIntSS_eq (k : Nat) (a0 : V_sl_sl_int) (a1 : V_sl_sl_int) : laws_eqIntSS (k + 1) a0 a1 = 
 cond ((↑(List.length a0) : Int) != (↑(List.length a1) : Int)) (some false) (laws_eqIntSS_4 k k a0 a1 0) := by kernel_rfl
theorem laws_eqIntSS_4_eq (k : Nat) (j : Nat) (y0 : List V_sl_int) (y1 : List V_sl_int) (y2 : Int) : laws_eqIntSS_4 k (j + 1) y0 y1 y2 = 
 cond (decide (y2 < (↑y0.length : Int))) (
  cond (decide (0 ≤ y2)) (
   cond (decide (y2 < (↑y0.length : Int))) (
    cond (decide (0 ≤ y2)) (
     cond (decide (y2 < (↑y1.length : Int))) (
      (laws_eqIntS k (y0.getD y2.toNat (dflt t_sl_int)) (y1.getD y2.toNat (dflt t_sl_int))).bind fun x0 => 
       cond (!x0) (some false) (laws_eqIntSS_4 k j y0 y1 (IntKind.i64.wrap (y2 + 1)))) (none)) (none)) (none)) (none)) (some true) := by kernel_rfl

noncomputable def laws_eqSlot (k : Nat) (a0 : V_impl_Slot) (a1 : V_impl_Slot) : Option V_bool := evalT E k 54 t_bool [inp t_impl_Slot a0, inp t_impl_Slot a1] []
theorem laws_eqSlot_eq (k : Nat) (a0 : V_impl_Slot) (a1 : V_impl_Slot) : laws_eqSlot (k + 1) a0 a1 = 
 cond (a0.1 != a1.1) (some false) (
  cond (a0.2.1 != a1.2.1) (some false) (
   (laws_eqIntSS k a0.2.2 a1.2.2).bind fun x0 => 
    cond (!x0) (some false) (some true))) := by kernel_rfl

noncomputable def laws_eqSlotDisk (k : Nat) (a0 : V_impl_SlotDisk) (a1 : V_impl_SlotDisk) : Option V_bool := evalT E k 30 t_bool [inp t_impl_SlotDisk a0, inp t_impl_SlotDisk a1] []
theorem laws_eqSlotDisk_eq (k : Nat) (a0 : V_impl_SlotDisk) (a1 : V_impl_SlotDisk) : laws_eqSlotDisk (k + 1) a0 a1 = 
 (laws_eqSlot k a0.1 a1.1).bind fun x0 => 
  cond (!x0) (some false) (
   (laws_eqSlot k a0.2 a1.2).bind fun x1 => 
    cond (!x1) (some false) (some true)) := by kernel_rfl

noncomputable def laws_markIntS (k : Nat) (a0 : V_sl_int) (a1 : V_int) : Option V_int := evalT E k 83 t_int [inp t_sl_int a0, inp t_int a1] []
noncomputable def laws_markIntS_2 (k : Nat) (j : Nat) (y0 : List V_int) (y1 : Int) (y2 : Int) : Option V_int := loopAt E 83 t_int [true, false, true, false] [] [] k [] j (mkS 19 [(0, .c (.sl 3 t_int y0)), (1, .c (.int .i64 y1)), (5, .c (.int .i64 y2))]) []
theorem laws_markIntS_eq (k : Nat) (a0 : V_sl_int) (a1 : V_int) : laws_markIntS (k + 1) a0 a1 = laws_markIntS_2 k k a0 a1 0 := by kernel_rfl
theorem laws_markIntS_2_eq (k : Nat) (j : Nat) (y0 : List V_int) (y1 : Int) (y2 : Int) : laws_markIntS_2 k (j + 1) y0 y1 y2 = 
 cond (decide (y2 < (↑y0.length : Int))) (
  cond (decide (0 ≤ y2)) (
   cond (decide (y2 < (↑y0.length : Int))) (none) (none)) (none)) (some y1) := by kernel_rfl

noncomputable def laws_markIntSS (k : Nat) (a0 : V_sl_sl_int) (a1 : V_int) : Option V_int := evalT E k 72 t_int [inp t_sl_sl_int a0, inp t_int a1] []
noncomputable def laws_markIntSS_2 (k : Nat) (j : Nat) (y0 : List V_sl_int) (y1 : Int) (y2 : Int) : Option V_int := loopAt E 72 t_int [true, false, true, false] [] [] k [] j (mkS 19 [(0, .c (.sl 73 t_sl_int y0)), (1, .c (.int .i64 y1)), (5, .c (.int .i64 y2))]) []
theorem laws_markIntSS_eq (k : Nat) (a0 : V_sl_sl_int) (a1 : V_int) : laws_markIntSS (k + 1) a0 a1 = laws_markIntSS_2 k k a0 a1 0 := by kernel_rfl
theorem laws_markIntSS_2_eq (k : Nat) (j : Nat) (y0 : List V_sl_int) (y1 : Int) (y2 : Int) : laws_markIntSS_2 k (j + 1) y0 y1 y2 = 
 cond (decide (y2 < (↑y0.length : Int))) (
  cond (decide (0 ≤ y2)) (
   cond (decide (y2 < (↑y0.length : Int))) (
    (laws_markIntS k (y0.getD y2.toNat (dflt t_sl_int)) y1).bind fun x0 => laws_markIntSS_2 k j y0 x0 (IntKind.i64.wrap (y2 + 1))) (none)) (none)) (some y1) := by kernel_rfl

noncomputable def laws_markSlot (k : Nat) (a0 : V_impl_Slot) (a1 : V_int) : Option V_int := evalT E k 55 t_int [inp t_impl_Slot a0, inp t_int a1] []
theorem laws_markSlot_eq (k : Nat) (a0 : V_impl_Slot) (a1 : V_int) : laws_markSlot (k + 1) a0 a1 = 
 (laws_markIntSS k a0.2.2 a1).bind fun x0 => some x0 := by kernel_rfl

noncomputable def laws_markSlotDisk (k : Nat) (a0 : V_impl_SlotDisk) (a1 : V_int) : Option V_int := evalT E k 31 t_int [inp t_impl_SlotDisk a0, inp t_int a1] []
theorem laws_markSlotDisk_eq (k : Nat) (a0 : V_impl_SlotDisk) (a1 : V_int) : laws_markSlotDisk (k + 1) a0 a1 = 
 (laws_markSlot k a0.1 a1).bind fun x0 => 
  (laws_markSlot k a0.2 x0).bind fun x1 => some x1 := by kernel_rfl

noncomputable def laws_heldIntS (k : Nat) (a0 : V_sl_int) (a1 : V_int) : Option V_int := evalT E k 84 t_int [inp t_sl_int a0, inp t_int a1] []
noncomputable def laws_heldIntS_2 (k : Nat) (j : Nat) (y0 : List V_int) (y1 : Int) (y2 : Int) : Option V_int := loopAt E 84 t_int [true, false, true, false] [] [] k [] j (mkS 21 [(0, .c (.sl 3 t_int y0)), (1, .c (.int .i64 y1)), (5, .c (.int .i64 y2))]) []
theorem laws_heldIntS_eq (k : Nat) (a0 : V_sl_int) (a1 : V_int) : laws_heldIntS (k + 1) a0 a1 = laws_heldIntS_2 k k a0 a1 0 := by kernel_rfl
theorem laws_heldIntS_2_eq (k : Nat) (j : Nat) (y0 : List V_int) (y1 : Int) (y2 : Int) : laws_heldIntS_2 k (j + 1) y0 y1 y2 = 
 cond (decide (y2 < (↑y0.length : Int))) (
  cond (decide (0 ≤ y2)) (
   cond (decide (y2 < (↑y0.length : Int))) (
    cond (y0.getD y2.toNat (dflt t_int) != y1) (some (-1)) (laws_heldIntS_2 k j y0 (IntKind.i64.wrap (y1 + 1)) (IntKind.i64.wrap (y2 + 1)))) (none)) (none)) (some y1) := by kernel_rfl

noncomputable def laws_heldIntSS (k : Nat) (a0 : V_sl_sl_int) (a1 : V_int) : Option V_int := evalT E k 73 t_int [inp t_sl_sl_int a0, inp t_int a1] []
noncomputable def laws_heldIntSS_2 (k : Nat) (j : Nat) (y0 : List V_sl_int) (y1 : Int) (y2 : Int) : Option V_int := loopAt E 73 t_int [true, false, true, false] [] [] k [] j (mkS 21 [(0, .c (.sl 73 t_sl_int y0)), (1, .c (.int .i64 y1)), (5, .c (.int .i64 y2))]) []
theorem laws_heldIntSS_eq (k : Nat) (a0 : V_sl_sl_int) (a1 : V_int) : laws_heldIntSS (k + 1) a0 a1 = laws_heldIntSS_2 k k a0 a1 0 := by kernel_rfl
theorem laws_heldIntSS_2_eq (k : Nat) (j : Nat) (y0 : List V_sl_int) (y1 : Int) (y2 : Int) : laws_heldIntSS_2 k (j + 1) y0 y1 y2 = 
 cond (decide (y2 < (↑y0.length : Int))) (
  cond (decide (0 ≤ y2)) (
   cond (decide (y2 < (↑y0.length : Int))) (
    (laws_heldIntS k (y0.getD y2.toNat (dflt t_sl_int)) y1).bind fun x0 => 
     cond (decide (x0 < 0)) (some (-1)) (laws_heldIntSS_2 k j y0 x0 (IntKind.i64.wrap (y2 + 1)))) (none)) (none)) (some y1) := by kernel_rfl

noncomputable def laws_heldSlot (k : Nat) (a0 : V_impl_Slot) (a1 : V_int) : Option V_int := evalT E k 56 t_int [inp t_impl_Slot a0, inp t_int a1] []
theorem laws_heldSlot_eq (k : Nat) (a0 : V_impl_Slot) (a1 : V_int) : laws_heldSlot (k + 1) a0 a1 = 
 (laws_heldIntSS k a0.2.2 a1).bind fun x0 => 
  cond (decide (x0 < 0)) (some (-1)) (some x0) := by kernel_rfl

noncomputable def laws_heldSlotDisk (k : Nat) (a0 : V_impl_SlotDisk) (a1 : V_int) : Option V_int := evalT E k 32 t_int [inp t_impl_SlotDisk a0, inp t_int a1] []
theorem laws_heldSlotDisk_eq (k : Nat) (a0 : V_impl_SlotDisk) (a1 : V_int) : laws_heldSlotDisk (k + 1) a0 a1 = 
 (laws_heldSlot k a0.1 a1).bind fun x0 => 
  cond (decide (x0 < 0)) (some (-1)) (
   (laws_heldSlot k a0.2 x0).bind fun x1 => 
    cond (decide (x1 < 0)) (some (-1)) (some x1)) := by kernel_rfl

noncomputable def laws_FnExactSlotNew (k : Nat) : Option V_bool := evalT E k 10 t_bool [] []
theorem laws_FnExactSlotNew_eq (k : Nat) : laws_FnExactSlotNew (k + 1) = 
 (spec_SlotNew k ).bind fun x0 => 
  (impl_SlotNew k ).bind fun x1 => 
   (laws_eqSlotDisk k x1 x0).bind fun x2 => 
    cond (!x2) (some false) (
     (laws_markSlotDisk k x1 1).bind fun x3 => 
      (laws_heldSlotDisk k x1 1).bind fun x4 => 
       cond (decide (x4 < 0)) (some false) (
        cond (x4 != x3) (some false) (
         (impl_SlotNew k ).bind fun x5 => 
          (laws_eqSlotDisk k x5 x0).bind fun x6 => 
           cond (!x6) (some false) (
            (laws_heldSlotDisk k x1 1).bind fun x7 => 
             cond (decide (x7 < 0)) (some false) (
              cond (x7 != x3) (some false) (some true)))))) := by kernel_rfl
def Goal : Prop := ∃ k, laws_FnExactSlotNew k  = some true
end Go.Proofs.Ytbgibmngijomfaa.SFnExactSlotNew
