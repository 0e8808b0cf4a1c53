/- What each function of the program answers: one step of the plain machine, by the kernel. -/
import Derived.Test.YtiabhdebjajgiaaEFnSlotOther
set_option linter.unusedVariables false
set_option maxRecDepth 1000000
set_option maxHeartbeats 0
namespace Go.Proofs.Ytiabhdebjajgiaa.SFnSlotOther
open Go Go.Sx Go.Proofs
noncomputable def spec_l6Open (k : Nat) (a0 : V_sl_uint8) : Option V_spec_l6Rd := evalT E k 65 (.bx 107 t_spec_l6Rd) [inp t_sl_uint8 a0] []
theorem spec_l6Open_eq (k : Nat) (a0 : V_sl_uint8) : spec_l6Open (k + 1) a0 = 
 cond (decide ((↑(List.length a0) : Int) > 2000)) (
  cond (decide (2000 ≤ (↑(List.length a0) : Int))) (some ((List.drop (Int.toNat 0) (List.take (Int.toNat 2000) a0), 0))) (none)) (some (a0, 0)) := by kernel_rfl

noncomputable def spec_SlotNew (k : Nat) : Option (((V_int × (V_int × List V_sl_int)) × (V_int × (V_int × List V_sl_int)))) := evalT E k 12 (.pair (.pair t_int (.pair t_int (.dw 38 t_sl_int))) (.pair t_int (.pair t_int (.dw 38 t_sl_int)))) [] []
noncomputable def spec_SlotNew_3 (k : Nat) (j : Nat) (y0 : Int) (y1 : Int) (y2 : Int) (y3 : Int) (y4 : Int) (y5 : Int) (y6 : Int) (y7 : Int) (y8 : Int) (y9 : List V_sl_int) (y10 : List V_sl_int) (y11 : List V_sl_int) (y12 : List V_sl_int) : Option (((V_int × (V_int × List V_sl_int)) × (V_int × (V_int × List V_sl_int)))) := loopAt E 12 (.pair (.pair t_int (.pair t_int (.dw 38 t_sl_int))) (.pair t_int (.pair t_int (.dw 38 t_sl_int)))) [true, true, false, true, false] [] [] k [] j (mkS 25 [(0, .c (.p 0 0)), (1, .c (.p 1 0)), (2, .c (.int .i64 y0))]) [some (.box 26 [.int .i64 y1, .int .i64 y2, .o 2, .int .i64 y3, .int .i64 y4, .o 3]), some (.box 26 [.int .i64 y5, .int .i64 y6, .o 4, .int .i64 y7, .int .i64 y8, .o 5]), some (.dp 38 t_sl_int y9), some (.dp 38 t_sl_int y10), some (.dp 38 t_sl_int y11), some (.dp 38 t_sl_int y12)]
theorem spec_SlotNew_eq (k : Nat) : spec_SlotNew (k + 1) = spec_SlotNew_3 k k 0 0 0 0 0 0 0 0 0 [] [] [] [] := by kernel_rfl
theorem spec_SlotNew_3_eq (k : Nat) (j : Nat) (y0 : Int) (y1 : Int) (y2 : Int) (y3 : Int) (y4 : Int) (y5 : Int) (y6 : Int) (y7 : Int) (y8 : Int) (y9 : List V_sl_int) (y10 : List V_sl_int) (y11 : List V_sl_int) (y12 : List V_sl_int) : spec_SlotNew_3 k (j + 1) y0 y1 y2 y3 y4 y5 y6 y7 y8 y9 y10 y11 y12 = 
 cond (decide (y0 < 160)) (
  cond (decide ((y11.length + 1) * 24 ≤ 140737488351232)) (
   cond (decide ((y12.length + 1) * 24 ≤ 140737488351232)) (spec_SlotNew_3 k j (IntKind.i64.wrap (y0 + 1)) y1 y2 y3 y4 y5 y6 y7 y8 y9 y10 (y11 ++ [[]]) (y12 ++ [[]])) (none)) (none)) (some (((y5, y6, y11), y7, y8, y12))) := by kernel_rfl

noncomputable def spec_l6Rd_pick_h0 (k : Nat) (y0 : V_int) (y1 : V_spec_l6Rd) : Option ((V_int × ((List V_uint8 × (Int × Unit)) × Unit))) := evalT E k 68 (.pair t_int (.pair (.pair (.sl 5 t_uint8) (.pair (.int .i64) .unit)) .unit)) [.c (.p 0 0), inp t_int y0] [some (.box 107 (cells t_spec_l6Rd y1))]
theorem spec_l6Rd_pick_h0_eq (k : Nat) (y0 : V_int) (y1 : V_spec_l6Rd) : spec_l6Rd_pick_h0 (k + 1) y0 y1 = 
 cond (decide (y0 < 1)) (some ((0, (y1.1, IntKind.i64.wrap (y1.2 + 1), ()), ()))) (
  cond ((↑(List.length y1.1) : Int) == 0) (some ((0, (y1.1, IntKind.i64.wrap (y1.2 + 1), ()), ()))) (
   cond (decide (IntKind.i64.wrap (IntKind.i64.wrap (y1.2 + 1) - 1) < (↑(List.length y1.1) : Int))) (
    cond (decide (0 ≤ IntKind.i64.wrap (IntKind.i64.wrap (y1.2 + 1) - 1))) (
     cond (decide (IntKind.i64.wrap (IntKind.i64.wrap (y1.2 + 1) - 1) < (↑(List.length y1.1) : Int))) (
      cond (!decide (y0 = 0)) (some (((IntKind.i64.wrap (List.getD y1.1 (IntKind.i64.wrap (IntKind.i64.wrap (y1.2 + 1) - 1)).toNat (dflt t_uint8))).tmod y0,
  (y1.1, IntKind.i64.wrap (y1.2 + 1), ()), ()))) (none)) (none)) (none)) (
    cond (!decide ((↑(List.length y1.1) : Int) = 0)) (
     cond (decide (0 ≤ (IntKind.i64.wrap (IntKind.i64.wrap (y1.2 + 1) - 1)).tmod (↑(List.length y1.1) : Int))) (
      cond (decide
  ((IntKind.i64.wrap (IntKind.i64.wrap (y1.2 + 1) - 1)).tmod (↑(List.length y1.1) : Int) <
    (↑(List.length y1.1) : Int))) (
       cond (!decide ((↑(List.length y1.1) : Int) = 0)) (
        cond (decide
  (0 ≤
    (IntKind.i64.wrap (IntKind.i64.wrap (IntKind.i64.wrap (IntKind.i64.wrap (y1.2 + 1) - 1) * 7) + 3)).tmod
      (↑(List.length y1.1) : Int))) (
         cond (decide
  ((IntKind.i64.wrap (IntKind.i64.wrap (IntKind.i64.wrap (IntKind.i64.wrap (y1.2 + 1) - 1) * 7) + 3)).tmod
      (↑(List.length y1.1) : Int) <
    (↑(List.length y1.1) : Int))) (
          cond (!decide ((↑(List.length y1.1) : Int) = 0)) (
           cond (!decide (y0 = 0)) (some (((IntKind.i64.wrap
        (↑(BitVec.ofInt IntKind.i64.bits
                  (IntKind.i64.wrap
                    (IntKind.i64.wrap
                        (IntKind.i64.wrap
                            (IntKind.i64.wrap
                                (IntKind.i64.wrap
                                    (List.getD y1.1
                                      ((IntKind.i64.wrap (IntKind.i64.wrap (y1.2 + 1) - 1)).tmod
                                          (↑(List.length y1.1) : Int)).toNat
                                      (dflt t_uint8)) *
                                  131) +
                              IntKind.i64.wrap
                                (IntKind.i64.wrap
                                    (List.getD y1.1
                                      ((IntKind.i64.wrap
                                              (IntKind.i64.wrap
                                                  (IntKind.i64.wrap (IntKind.i64.wrap (y1.2 + 1) - 1) * 7) +
                                                3)).tmod
                                          (↑(List.length y1.1) : Int)).toNat
                                      (dflt t_uint8)) *
                                  1117)) +
                          IntKind.i64.wrap (IntKind.i64.wrap (IntKind.i64.wrap (y1.2 + 1) - 1) * 29)) +
                      IntKind.i64.wrap
                        (IntKind.i64.wrap
                            ((IntKind.i64.wrap (IntKind.i64.wrap (y1.2 + 1) - 1)).tdiv
                              (↑(List.length y1.1) : Int)) *
                          53))) ^^^
                BitVec.ofInt IntKind.i64.bits
                  (IntKind.i64.wrap
                    ((IntKind.i64.wrap
                          (IntKind.i64.wrap
                              (IntKind.i64.wrap
                                  (IntKind.i64.wrap
                                      (IntKind.i64.wrap
                                          (List.getD y1.1
                                            ((IntKind.i64.wrap (IntKind.i64.wrap (y1.2 + 1) - 1)).tmod
                                                (↑(List.length y1.1) : Int)).toNat
                                            (dflt t_uint8)) *
                                        131) +
                                    IntKind.i64.wrap
                                      (IntKind.i64.wrap
                                          (List.getD y1.1
                                            ((IntKind.i64.wrap
                                                    (IntKind.i64.wrap
                                                        (IntKind.i64.wrap (IntKind.i64.wrap (y1.2 + 1) - 1) * 7) +
                                                      3)).tmod
                                                (↑(List.length y1.1) : Int)).toNat
                                            (dflt t_uint8)) *
                                        1117)) +
                                IntKind.i64.wrap (IntKind.i64.wrap (IntKind.i64.wrap (y1.2 + 1) - 1) * 29)) +
                            IntKind.i64.wrap
                              (IntKind.i64.wrap
                                  ((IntKind.i64.wrap (IntKind.i64.wrap (y1.2 + 1) - 1)).tdiv
                                    (↑(List.length y1.1) : Int)) *
                                53))).tdiv
                      64))).toNat :
          Int)).tmod
    y0,
  (y1.1, IntKind.i64.wrap (y1.2 + 1), ()), ()))) (none)) (none)) (none)) (none)) (none)) (none)) (none)) (none)))) := by kernel_rfl

noncomputable def spec_l22Max (k : Nat) : Option V_int := evalT E k 54 t_int [] []
theorem spec_l22Max_eq (k : Nat) : spec_l22Max (k + 1) = some 9999 := by kernel_rfl

noncomputable def spec_l73Nums_h0 (k : Nat) (y0 : V_int) (y1 : V_spec_l6Rd) : Option ((List V_int × ((List V_uint8 × (Int × Unit)) × Unit))) := evalT E k 67 (.pair (.ow 3 t_int) (.pair (.pair (.sl 5 t_uint8) (.pair (.int .i64) .unit)) .unit)) [.c (.p 0 0), inp t_int y0] [some (.box 107 (cells t_spec_l6Rd y1))]
noncomputable def spec_l73Nums_h0_3 (k : Nat) (j : Nat) (y0 : Int) (y1 : V_spec_l6Rd) (y2 : List V_int) : Option ((List V_int × ((List V_uint8 × (Int × Unit)) × Unit))) := loopAt E 67 (.pair (.ow 3 t_int) (.pair (.pair (.sl 5 t_uint8) (.pair (.int .i64) .unit)) .unit)) [true, true, false, true, false] [some (.box 107 [.undef, .undef])] [] k [] j (mkS 31 [(0, .c (.p 0 0)), (5, .c (.o 1)), (6, .c (.int .i64 y0))]) [some (.box 107 (cells t_spec_l6Rd y1)), some (.own 3 t_int y2)]
theorem spec_l73Nums_h0_eq (k : Nat) (y0 : V_int) (y1 : V_spec_l6Rd) : spec_l73Nums_h0 (k + 1) y0 y1 = 
 (spec_l6Rd_pick_h0 k y0 y1).bind fun x0 => spec_l73Nums_h0_3 k k x0.1 (x0.2.1.1, x0.2.1.2.1) [] := by kernel_rfl
theorem spec_l73Nums_h0_3_eq (k : Nat) (j : Nat) (y0 : Int) (y1 : V_spec_l6Rd) (y2 : List V_int) : spec_l73Nums_h0_3 k (j + 1) y0 y1 y2 = 
 cond (decide (y0 > 0)) (
  (spec_l6Rd_pick_h0 k 40 y1).bind fun x0 => 
   (spec_l6Rd_pick_h0 k 40 (x0.2.1.1, x0.2.1.2.1)).bind fun x1 => 
    (spec_l22Max k ).bind fun x2 => 
     (spec_l6Rd_pick_h0 k 5 (x1.2.1.1, x1.2.1.2.1)).bind fun x3 => 
      cond (decide (0 ≤ IntKind.i64.wrap (Int.tdiv x3.1 2))) (
       cond (decide (IntKind.i64.wrap (Int.tdiv x3.1 2) < (↑[IntKind.i64.wrap (x0.1 - 1), x1.1, x2].length : Int))) (
        cond (decide ((IntKind.i64.wrap (Int.tdiv x3.1 2)).toNat < [IntKind.i64.wrap (x0.1 - 1), x1.1, x2].length)) (
         cond (decide
  ((y2.length +
        [[IntKind.i64.wrap (x0.1 - 1), x1.1, x2].getD (IntKind.i64.wrap (Int.tdiv x3.1 2)).toNat
              (dflt t_int)].length) *
      8 ≤
    140737488351232)) (spec_l73Nums_h0_3 k j (IntKind.i64.wrap (y0 - 1)) (x3.2.1.1, x3.2.1.2.1) (y2 ++ [[IntKind.i64.wrap (x0.1 - 1), x1.1, x2].getD (IntKind.i64.wrap (Int.tdiv x3.1 2)).toNat (dflt t_int)])) (none)) (none)) (none)) (none)) (some ((y2, (y1.1, y1.2, ()), ()))) := by kernel_rfl

noncomputable def spec_l31Later (k : Nat) (a0 : V_impl_SlotDisk) : Option V_impl_Slot := evalT E k 49 t_impl_Slot [inp t_impl_SlotDisk a0] []
theorem spec_l31Later_eq (k : Nat) (a0 : V_impl_SlotDisk) : spec_l31Later (k + 1) a0 = 
 cond (decide (a0.2.1 > a0.1.1)) (some (a0.2.1, a0.2.2.1, a0.2.2.2)) (some (a0.1.1, a0.1.2.1, a0.1.2.2)) := by kernel_rfl

noncomputable def spec_l6In (k : Nat) (a0 : V_int) (a1 : V_int) (a2 : V_int) : Option V_bool := evalT E k 73 t_bool [inp t_int a0, inp t_int a1, inp t_int a2] []
theorem spec_l6In_eq (k : Nat) (a0 : V_int) (a1 : V_int) (a2 : V_int) : spec_l6In (k + 1) a0 a1 a2 = 
 cond (decide (a0 ≥ a1)) (some (decide (a0 ≤ a2))) (some false) := by kernel_rfl

noncomputable def spec_l31Nums (k : Nat) (a0 : V_sl_int) : Option V_bool := evalT E k 53 t_bool [inp t_sl_int a0] []
noncomputable def spec_l31Nums_2 (k : Nat) (j : Nat) (y0 : List V_int) (y1 : Int) : Option V_bool := loopAt E 53 t_bool [true, false, true, false] [] [] k [] j (mkS 17 [(0, .c (.sl 3 t_int y0)), (3, .c (.int .i64 y1))]) []
theorem spec_l31Nums_eq (k : Nat) (a0 : V_sl_int) : spec_l31Nums (k + 1) a0 = spec_l31Nums_2 k k a0 0 := by kernel_rfl
theorem spec_l31Nums_2_eq (k : Nat) (j : Nat) (y0 : List V_int) (y1 : Int) : spec_l31Nums_2 k (j + 1) y0 y1 = 
 cond (decide (y1 < (↑y0.length : Int))) (
  cond (decide (0 ≤ y1)) (
   cond (decide (y1 < (↑y0.length : Int))) (
    (spec_l22Max k ).bind fun x0 => 
     (spec_l6In k (y0.getD y1.toNat (dflt t_int)) (-1) x0).bind fun x1 => 
      cond (!x1) (some false) (spec_l31Nums_2 k j y0 (IntKind.i64.wrap (y1 + 1)))) (none)) (none)) (some true) := by kernel_rfl

noncomputable def spec_l31SlotOk (k : Nat) (a0 : V_impl_Slot) : Option V_bool := evalT E k 45 t_bool [inp t_impl_Slot a0] []
noncomputable def spec_l31SlotOk_4 (k : Nat) (j : Nat) (y0 : Int) (y1 : V_impl_Slot) : Option V_bool := loopAt E 45 t_bool [true, true, false, true, false] [] [] k [] j (mkS 41 [(1, .c (.p 0 0)), (3, .c (.int .i64 y0))]) [some (.box 24 (cells t_impl_Slot y1))]
theorem spec_l31SlotOk_eq (k : Nat) (a0 : V_impl_Slot) : spec_l31SlotOk (k + 1) a0 = 
 (spec_l22Max k ).bind fun x0 => 
  (spec_l6In k a0.1 0 x0).bind fun x1 => 
   cond (!x1) (some false) (
    cond ((↑(List.length a0.2.2) : Int) != 160) (some false) (spec_l31SlotOk_4 k k 0 a0)) := by kernel_rfl
theorem spec_l31SlotOk_4_eq (k : Nat) (j : Nat) (y0 : Int) (y1 : V_impl_Slot) : spec_l31SlotOk_4 k (j + 1) y0 y1 = 
 cond (decide (y0 < (↑(List.length y1.2.2) : Int))) (
  cond (decide (0 ≤ y0)) (
   cond (decide (y0 < (↑(List.length y1.2.2) : Int))) (
    cond (decide ((↑(List.length (List.getD y1.2.2 y0.toNat (dflt t_sl_int))) : Int) > 8)) (some false) (
     cond (decide (0 ≤ y0)) (
      cond (decide (y0 < (↑(List.length y1.2.2) : Int))) (
       (spec_l31Nums k (List.getD y1.2.2 y0.toNat (dflt t_sl_int))).bind fun x0 => 
        cond (!x0) (some false) (spec_l31SlotOk_4 k j (IntKind.i64.wrap (y0 + 1)) y1)) (none)) (none))) (none)) (none)) (
  (spec_l6In k y1.2.1 0 1280).bind fun x1 => some x1) := by kernel_rfl

noncomputable def spec_SlotOk (k : Nat) (a0 : V_impl_SlotDisk) : Option V_bool := evalT E k 18 t_bool [inp t_impl_SlotDisk a0] []
theorem spec_SlotOk_eq (k : Nat) (a0 : V_impl_SlotDisk) : spec_SlotOk (k + 1) a0 = 
 (spec_l31SlotOk k a0.1).bind fun x0 => 
  cond (x0) (
   (spec_l31SlotOk k a0.2).bind fun x1 => 
    cond (x1) (
     cond (a0.1.1 != a0.2.1) (some true) (some (a0.1.1 == 0))) (some false)) (some false) := by kernel_rfl

noncomputable def spec_SlotSave (k : Nat) (a0 : V_impl_SlotDisk) (a1 : V_sl_int) : Option (List V_impl_SlotStep × V_bool) := evalT E k 26 (.pair (.dw 59 t_impl_SlotStep) t_bool) [inp t_impl_SlotDisk a0, inp t_sl_int a1] []
noncomputable def spec_SlotSave_8 (k : Nat) (j : Nat) (y0 : List V_int) (y1 : Int) (y2 : Bool) (y3 : Int) (y4 : List V_impl_SlotStep) : Option (List V_impl_SlotStep × V_bool) := loopAt E 26 (.pair (.dw 59 t_impl_SlotStep) t_bool) [true, true, true, true, true, true, false, true, false] [] [] k [] j (mkS 84 [(1, .c (.sl 3 t_int y0)), (6, .c (.o 0)), (7, .c (.int .i64 y1)), (8, .c (.bool y2)), (9, .c (.int .i64 y3))]) [some (.dp 59 t_impl_SlotStep y4)]
theorem spec_SlotSave_eq (k : Nat) (a0 : V_impl_SlotDisk) (a1 : V_sl_int) : spec_SlotSave (k + 1) a0 a1 = 
 (spec_l31Later k a0).bind fun x0 => 
  (spec_SlotOk k a0).bind fun x1 => 
   cond (!x1) (some ([], false)) (
    (spec_l31Nums k a1).bind fun x2 => 
     cond (!x2) (some ([], false)) (
      cond (decide ((↑(List.length a1) : Int) > 1280)) (some ([], false)) (
       (spec_l22Max k ).bind fun x3 => 
        cond (decide (x0.1 ≥ x3)) (some ([], false)) (spec_SlotSave_8 k k a1 x0.1 (decide (a0.2.1 ≤ a0.1.1)) 0 [(decide (a0.2.1 ≤ a0.1.1), -1, 0, 0, [])])))) := by kernel_rfl
theorem spec_SlotSave_8_eq (k : Nat) (j : Nat) (y0 : List V_int) (y1 : Int) (y2 : Bool) (y3 : Int) (y4 : List V_impl_SlotStep) : spec_SlotSave_8 k (j + 1) y0 y1 y2 y3 y4 = 
 cond (decide (IntKind.i64.wrap (y3 * 8) < (↑y0.length : Int))) (
  cond (decide (IntKind.i64.wrap (IntKind.i64.wrap (y3 + 1) * 8) > (↑y0.length : Int))) (
   cond (decide (0 ≤ IntKind.i64.wrap (y3 * 8))) (
    cond (decide (IntKind.i64.wrap (y3 * 8) ≤ (↑y0.length : Int))) (
     cond (decide ((↑y0.length : Int) ≤ (↑y0.length : Int))) (
      cond (decide
  ((0 + (List.drop (IntKind.i64.wrap (y3 * 8)).toNat (List.take (↑y0.length : Int).toNat y0)).length) *
      8 ≤
    140737488351232)) (
       cond (decide
  ((y4.length +
        1) *
      56 ≤
    140737488351232)) (spec_SlotSave_8 k j y0 y1 y2 (IntKind.i64.wrap (y3 + 1)) (y4 ++ [(y2, y3, 0, 0, [] ++ List.drop (IntKind.i64.wrap (y3 * 8)).toNat (List.take (↑y0.length : Int).toNat y0))])) (none)) (none)) (none)) (none)) (none)) (
   cond (decide (0 ≤ IntKind.i64.wrap (y3 * 8))) (
    cond (decide (IntKind.i64.wrap (y3 * 8) ≤ IntKind.i64.wrap (IntKind.i64.wrap (y3 + 1) * 8))) (
     cond (decide (IntKind.i64.wrap (IntKind.i64.wrap (y3 + 1) * 8) ≤ (↑y0.length : Int))) (
      cond (decide
  ((0 +
        (List.drop (IntKind.i64.wrap (y3 * 8)).toNat
            (List.take (IntKind.i64.wrap (IntKind.i64.wrap (y3 + 1) * 8)).toNat y0)).length) *
      8 ≤
    140737488351232)) (
       cond (decide
  ((y4.length +
        1) *
      56 ≤
    140737488351232)) (spec_SlotSave_8 k j y0 y1 y2 (IntKind.i64.wrap (y3 + 1)) (y4 ++
  [(y2, y3, 0, 0,
      [] ++
        List.drop (IntKind.i64.wrap (y3 * 8)).toNat
          (List.take (IntKind.i64.wrap (IntKind.i64.wrap (y3 + 1) * 8)).toNat y0))])) (none)) (none)) (none)) (none)) (none))) (
  cond (decide
  ((y4.length + 1) * 56 ≤
    140737488351232)) (some ((y4 ++ [(y2, -1, IntKind.i64.wrap (y1 + 1), (↑y0.length : Int), [])], true))) (none)) := by kernel_rfl

noncomputable def spec_l31Copy (k : Nat) (a0 : V_impl_Slot) : Option ((V_int × (V_int × List V_sl_int))) := evalT E k 60 (.pair t_int (.pair t_int (.dw 38 t_sl_int))) [inp t_impl_Slot a0] []
noncomputable def spec_l31Copy_3 (k : Nat) (j : Nat) (y0 : Int) (y1 : V_impl_Slot) (y2 : Int) (y3 : Int) (y4 : Int) (y5 : Int) (y6 : List V_sl_int) (y7 : List V_sl_int) : Option ((V_int × (V_int × List V_sl_int))) := loopAt E 60 (.pair t_int (.pair t_int (.dw 38 t_sl_int))) [true, true, false, true, false] [] [] k [] j (mkS 30 [(1, .c (.p 0 0)), (2, .c (.p 1 0)), (3, .c (.p 2 0)), (4, .c (.int .i64 y0))]) [some (.box 24 (cells t_impl_Slot y1)), some (.box 24 [.int .i64 y2, .int .i64 y3, .o 3]), some (.box 24 [.int .i64 y4, .int .i64 y5, .o 4]), some (.dp 38 t_sl_int y6), some (.dp 38 t_sl_int y7)]
theorem spec_l31Copy_eq (k : Nat) (a0 : V_impl_Slot) : spec_l31Copy (k + 1) a0 = spec_l31Copy_3 k k 0 a0 0 0 a0.1 a0.2.1 [] [] := by kernel_rfl
theorem spec_l31Copy_3_eq (k : Nat) (j : Nat) (y0 : Int) (y1 : V_impl_Slot) (y2 : Int) (y3 : Int) (y4 : Int) (y5 : Int) (y6 : List V_sl_int) (y7 : List V_sl_int) : spec_l31Copy_3 k (j + 1) y0 y1 y2 y3 y4 y5 y6 y7 = 
 cond (decide (y0 < (↑(List.length y1.2.2) : Int))) (
  cond (decide (0 ≤ y0)) (
   cond (decide (y0 < (↑(List.length y1.2.2) : Int))) (
    cond (decide ((0 + List.length (List.getD y1.2.2 y0.toNat (dflt t_sl_int))) * 8 ≤ 140737488351232)) (
     cond (decide ((y7.length + 1) * 24 ≤ 140737488351232)) (spec_l31Copy_3 k j (IntKind.i64.wrap (y0 + 1)) y1 y2 y3 y4 y5 y6 (y7 ++ [[] ++ List.getD y1.2.2 y0.toNat (dflt t_sl_int)])) (none)) (none)) (none)) (none)) (some (y4, y5, y7)) := by kernel_rfl

noncomputable def spec_l31Step_h0 (k : Nat) (y0 : Int) (y1 : Int) (y2 : V_impl_SlotStep) (y3 : List V_sl_int) : Option ((V_int × (V_int × List V_sl_int))) := evalT E k 61 (.pair t_int (.pair t_int (.dw 38 t_sl_int))) [.v (.agg [.int .i64 y0, .int .i64 y1, .o 0]), inp t_impl_SlotStep y2] [some (.dp 38 t_sl_int y3)]
theorem spec_l31Step_h0_eq (k : Nat) (y0 : Int) (y1 : Int) (y2 : V_impl_SlotStep) (y3 : List V_sl_int) : spec_l31Step_h0 (k + 1) y0 y1 y2 y3 = 
 cond (y2.2.1 == -1) (some (y2.2.2.1, y2.2.2.2.1, y3)) (
  (spec_l6In k y2.2.1 0 (IntKind.i64.wrap ((↑y3.length : Int) - 1))).bind fun x0 => 
   cond (x0) (
    cond (decide ((0 + List.length y2.2.2.2.2) * 8 ≤ 140737488351232)) (
     cond (decide (0 ≤ y2.2.1)) (
      cond (decide (y2.2.1 < (↑y3.length : Int))) (
       cond (decide (Int.toNat y2.2.1 < y3.length)) (some ((y0, y1, y3.set (Int.toNat y2.2.1) ([] ++ y2.2.2.2.2)))) (none)) (none)) (none)) (none)) (some (y0, y1, y3))) := by kernel_rfl

noncomputable def spec_SlotDo (k : Nat) (a0 : V_impl_SlotDisk) (a1 : V_sl_impl_SlotStep) (a2 : V_int) : Option (((V_int × (V_int × List V_sl_int)) × (V_int × (V_int × List V_sl_int)))) := evalT E k 33 (.pair (.pair t_int (.pair t_int (.dw 38 t_sl_int))) (.pair t_int (.pair t_int (.dw 38 t_sl_int)))) [inp t_impl_SlotDisk a0, inp t_sl_impl_SlotStep a1, inp t_int a2] []
noncomputable def spec_SlotDo_5 (k : Nat) (j : Nat) (y0 : List V_impl_SlotStep) (y1 : Int) (y2 : Int) (y3 : Int) (y4 : Int) (y5 : Int) (y6 : Int) (y7 : Int) (y8 : Int) (y9 : Int) (y10 : Int) (y11 : List V_sl_int) (y12 : List V_sl_int) (y13 : List V_sl_int) (y14 : List V_sl_int) : Option (((V_int × (V_int × List V_sl_int)) × (V_int × (V_int × List V_sl_int)))) := loopAt E 33 (.pair (.pair t_int (.pair t_int (.dw 38 t_sl_int))) (.pair t_int (.pair t_int (.dw 38 t_sl_int)))) [true, true, true, false, true, false] [] [] k [] j (mkS 64 [(1, .c (.sl 59 t_impl_SlotStep y0)), (2, .c (.int .i64 y1)), (6, .c (.p 0 0)), (7, .c (.p 1 0)), (8, .c (.int .i64 y2))]) [some (.box 26 [.int .i64 y3, .int .i64 y4, .o 2, .int .i64 y5, .int .i64 y6, .o 3]), some (.box 26 [.int .i64 y7, .int .i64 y8, .o 4, .int .i64 y9, .int .i64 y10, .o 5]), some (.dp 38 t_sl_int y11), some (.dp 38 t_sl_int y12), some (.dp 38 t_sl_int y13), some (.dp 38 t_sl_int y14)]
theorem spec_SlotDo_eq (k : Nat) (a0 : V_impl_SlotDisk) (a1 : V_sl_impl_SlotStep) (a2 : V_int) : spec_SlotDo (k + 1) a0 a1 a2 = 
 (spec_SlotOk k a0).bind fun x0 => 
  cond (!x0) (some (((0, 0, []), 0, 0, []))) (
   (spec_l31Copy k a0.1).bind fun x1 => 
    (spec_l31Copy k a0.2).bind fun x2 => spec_SlotDo_5 k k a1 a2 0 0 0 0 0 x1.1 x1.2.1 x2.1 x2.2.1 [] [] x1.2.2 x2.2.2) := by kernel_rfl
theorem spec_SlotDo_5_eq (k : Nat) (j : Nat) (y0 : List V_impl_SlotStep) (y1 : Int) (y2 : Int) (y3 : Int) (y4 : Int) (y5 : Int) (y6 : Int) (y7 : Int) (y8 : Int) (y9 : Int) (y10 : Int) (y11 : List V_sl_int) (y12 : List V_sl_int) (y13 : List V_sl_int) (y14 : List V_sl_int) : spec_SlotDo_5 k (j + 1) y0 y1 y2 y3 y4 y5 y6 y7 y8 y9 y10 y11 y12 y13 y14 = 
 cond (decide (y2 < (↑y0.length : Int))) (
  cond (decide (y2 < y1)) (
   (spec_l31Copy k ((y7, (y8, y13)))).bind fun x0 => 
    (spec_l31Copy k ((y9, (y10, y14)))).bind fun x1 => 
     cond (decide (0 ≤ y2)) (
      cond (decide (y2 < (↑y0.length : Int))) (
       cond ((y0.getD y2.toNat (dflt t_impl_SlotStep)).1) (
        cond (decide (0 ≤ y2)) (
         cond (decide (y2 < (↑y0.length : Int))) (
          (spec_l31Step_h0 k x1.1 x1.2.1 (y0.getD y2.toNat (dflt t_impl_SlotStep)) x1.2.2).bind fun x2 => 
           (spec_SlotOk k (x0, x2)).bind fun x3 => 
            cond (x3) (spec_SlotDo_5 k j y0 y1 (IntKind.i64.wrap (y2 + 1)) y3 y4 y5 y6 x0.1 x0.2.1 x2.1 x2.2.1 y11 y12 x0.2.2 x2.2.2) (spec_SlotDo_5 k j y0 y1 (IntKind.i64.wrap (y2 + 1)) y3 y4 y5 y6 y7 y8 y9 y10 y11 y12 y13 y14)) (none)) (none)) (
        cond (decide (0 ≤ y2)) (
         cond (decide (y2 < (↑y0.length : Int))) (
          (spec_l31Step_h0 k x0.1 x0.2.1 (y0.getD y2.toNat (dflt t_impl_SlotStep)) x0.2.2).bind fun x4 => 
           (spec_SlotOk k (x4, x1)).bind fun x5 => 
            cond (x5) (spec_SlotDo_5 k j y0 y1 (IntKind.i64.wrap (y2 + 1)) y3 y4 y5 y6 x4.1 x4.2.1 x1.1 x1.2.1 y11 y12 x4.2.2 x1.2.2) (spec_SlotDo_5 k j y0 y1 (IntKind.i64.wrap (y2 + 1)) y3 y4 y5 y6 y7 y8 y9 y10 y11 y12 y13 y14)) (none)) (none))) (none)) (none)) (some (((y7, y8, y13), y9, y10, y14)))) (some (((y7, y8, y13), y9, y10, y14))) := by kernel_rfl

noncomputable def spec_l73Disk_h0 (k : Nat) (y0 : V_spec_l6Rd) : Option ((((V_int × (V_int × List V_sl_int)) × (V_int × (V_int × List V_sl_int))) × ((List V_uint8 × (Int × Unit)) × Unit))) := evalT E k 85 (.pair (.pair (.pair t_int (.pair t_int (.dw 38 t_sl_int))) (.pair t_int (.pair t_int (.dw 38 t_sl_int)))) (.pair (.pair (.sl 5 t_uint8) (.pair (.int .i64) .unit)) .unit)) [.c (.p 0 0)] [some (.box 107 (cells t_spec_l6Rd y0))]
noncomputable def spec_l73Disk_h0_3 (k : Nat) (j : Nat) (y0 : Int) (y1 : V_spec_l6Rd) (y2 : Int) (y3 : Int) (y4 : Int) (y5 : Int) (y6 : Int) (y7 : Int) (y8 : Int) (y9 : Int) (y10 : List V_sl_int) (y11 : List V_sl_int) (y12 : List V_sl_int) (y13 : List V_sl_int) : Option ((((V_int × (V_int × List V_sl_int)) × (V_int × (V_int × List V_sl_int))) × ((List V_uint8 × (Int × Unit)) × Unit))) := loopAt E 85 (.pair (.pair (.pair t_int (.pair t_int (.dw 38 t_sl_int))) (.pair t_int (.pair t_int (.dw 38 t_sl_int)))) (.pair (.pair (.sl 5 t_uint8) (.pair (.int .i64) .unit)) .unit)) [true, true, false, true, false] [some (.box 107 [.undef, .undef])] [] k [] j (mkS 38 [(0, .c (.p 0 0)), (2, .c (.p 1 0)), (3, .c (.p 2 0)), (4, .c (.int .i64 y0))]) [some (.box 107 (cells t_spec_l6Rd y1)), some (.box 26 [.int .i64 y2, .int .i64 y3, .o 3, .int .i64 y4, .int .i64 y5, .o 4]), some (.box 26 [.int .i64 y6, .int .i64 y7, .o 5, .int .i64 y8, .int .i64 y9, .o 6]), some (.dp 38 t_sl_int y10), some (.dp 38 t_sl_int y11), some (.dp 38 t_sl_int y12), some (.dp 38 t_sl_int y13)]
theorem spec_l73Disk_h0_eq (k : Nat) (y0 : V_spec_l6Rd) : spec_l73Disk_h0 (k + 1) y0 = 
 (spec_SlotNew k ).bind fun x0 => 
  (spec_l6Rd_pick_h0 k 5 y0).bind fun x1 => spec_l73Disk_h0_3 k k x1.1 (x1.2.1.1, x1.2.1.2.1) 0 0 0 0 x0.1.1 x0.1.2.1 x0.2.1 x0.2.2.1 [] [] x0.1.2.2 x0.2.2.2 := by kernel_rfl
theorem spec_l73Disk_h0_3_eq (k : Nat) (j : Nat) (y0 : Int) (y1 : V_spec_l6Rd) (y2 : Int) (y3 : Int) (y4 : Int) (y5 : Int) (y6 : Int) (y7 : Int) (y8 : Int) (y9 : Int) (y10 : List V_sl_int) (y11 : List V_sl_int) (y12 : List V_sl_int) (y13 : List V_sl_int) : spec_l73Disk_h0_3 k (j + 1) y0 y1 y2 y3 y4 y5 y6 y7 y8 y9 y10 y11 y12 y13 = 
 cond (decide (y0 > 0)) (
  (spec_l73Nums_h0 k 30 y1).bind fun x0 => 
   (spec_SlotSave k (((y6, (y7, y12)), (y8, (y9, y13)))) x0.1).bind fun x1 => 
    cond (x1.2) (
     (spec_l6Rd_pick_h0 k 3 (x0.2.1.1, x0.2.1.2.1)).bind fun x2 => 
      cond (x2.1 == 0) (
       (spec_l6Rd_pick_h0 k (IntKind.i64.wrap ((↑(List.length x1.1) : Int) + 1)) (x2.2.1.1, x2.2.1.2.1)).bind fun x3 => 
        (spec_SlotDo k (((y6, (y7, y12)), (y8, (y9, y13)))) x1.1 x3.1).bind fun x4 => spec_l73Disk_h0_3 k j (IntKind.i64.wrap (y0 - 1)) (x3.2.1.1, x3.2.1.2.1) y2 y3 y4 y5 x4.1.1 x4.1.2.1 x4.2.1 x4.2.2.1 y10 y11 x4.1.2.2 x4.2.2.2) (
       (spec_SlotDo k (((y6, (y7, y12)), (y8, (y9, y13)))) x1.1 ((↑(List.length x1.1) : Int))).bind fun x5 => spec_l73Disk_h0_3 k j (IntKind.i64.wrap (y0 - 1)) (x2.2.1.1, x2.2.1.2.1) y2 y3 y4 y5 x5.1.1 x5.1.2.1 x5.2.1 x5.2.2.1 y10 y11 x5.1.2.2 x5.2.2.2)) (spec_l73Disk_h0_3 k j (IntKind.i64.wrap (y0 - 1)) (x0.2.1.1, x0.2.1.2.1) y2 y3 y4 y5 y6 y7 y8 y9 y10 y11 y12 y13)) (some ((((y6, y7, y12), y8, y9, y13), (y1.1, y1.2, ()), ()))) := by kernel_rfl

noncomputable def spec_l73Spoil_h0 (k : Nat) (y0 : V_spec_l6Rd) : Option ((V_impl_SlotDisk × ((List V_uint8 × (Int × Unit)) × Unit))) := evalT E k 66 (.pair t_impl_SlotDisk (.pair (.pair (.sl 5 t_uint8) (.pair (.int .i64) .unit)) .unit)) [.c (.p 0 0)] [some (.box 107 (cells t_spec_l6Rd y0))]
theorem spec_l73Spoil_h0_eq (k : Nat) (y0 : V_spec_l6Rd) : spec_l73Spoil_h0 (k + 1) y0 = 
 (spec_l73Disk_h0 k y0).bind fun x0 => 
  (spec_l6Rd_pick_h0 k 14 (x0.2.1.1, x0.2.1.2.1)).bind fun x1 => 
   cond (x1.1 == 0) (
    (spec_l22Max k ).bind fun x2 => 
     (spec_l22Max k ).bind fun x3 => 
      (spec_l6Rd_pick_h0 k 4 (x1.2.1.1, x1.2.1.2.1)).bind fun x4 => 
       cond (decide (0 ≤ x4.1)) (
        cond (decide (x4.1 < (↑[-1, x2, IntKind.i64.wrap (x3 + 1), x0.1.2.1].length : Int))) (
         cond (decide (Int.toNat x4.1 < [-1, x2, IntKind.i64.wrap (x3 + 1), x0.1.2.1].length)) (some (((([-1, x2, IntKind.i64.wrap (x3 + 1), x0.1.2.1].getD (Int.toNat x4.1) (dflt t_int), x0.1.1.2.1,
      x0.1.1.2.2),
    x0.1.2.1, x0.1.2.2.1, x0.1.2.2.2),
  (x4.2.1.1, x4.2.1.2.1, ()), ()))) (none)) (none)) (none)) (
    cond (x1.1 == 1) (
     (spec_l6Rd_pick_h0 k 3 (x1.2.1.1, x1.2.1.2.1)).bind fun x5 => 
      cond (decide (0 ≤ x5.1)) (
       cond (decide (x5.1 < (↑[-1, 500, 1281].length : Int))) (
        cond (decide (Int.toNat x5.1 < [-1, 500, 1281].length)) (some ((((x0.1.1.1, x0.1.1.2.1, x0.1.1.2.2), x0.1.2.1,
    ([-1, 500, 1281] : List Int).getD (Int.toNat x5.1) (dflt t_int), x0.1.2.2.2),
  (x5.2.1.1, x5.2.1.2.1, ()), ()))) (none)) (none)) (none)) (
     cond (x1.1 == 2) (
      cond (decide (1 ≤ (↑(List.length x0.1.1.2.2) : Int))) (
       cond (decide ((↑(List.length x0.1.1.2.2) : Int) ≤ (↑(List.length x0.1.1.2.2) : Int))) (some ((((x0.1.1.1, x0.1.1.2.1,
      List.drop (Int.toNat 1) (List.take (↑(List.length x0.1.1.2.2) : Int).toNat x0.1.1.2.2)),
    x0.1.2.1, x0.1.2.2.1, x0.1.2.2.2),
  (x1.2.1.1, x1.2.1.2.1, ()), ()))) (none)) (none)) (
      cond (x1.1 == 3) (
       (spec_l6Rd_pick_h0 k 5 (x1.2.1.1, x1.2.1.2.1)).bind fun x6 => 
        (spec_l6Rd_pick_h0 k 2 (x6.2.1.1, x6.2.1.2.1)).bind fun x7 => 
         cond (decide (0 ≤ IntKind.i64.wrap (8 + x7.1))) (
          cond (decide (IntKind.i64.wrap (8 + x7.1) ≤ IntKind.i64.wrap (8 + x7.1))) (
           cond (decide ((IntKind.i64.wrap (8 + x7.1)).toNat * 8 ≤ 140737488351232)) (
            cond (decide (0 ≤ x6.1)) (
             cond (decide (x6.1 < (↑(List.length x0.1.2.2.2) : Int))) (
              cond (decide (Int.toNat x6.1 < List.length x0.1.2.2.2)) (some ((((x0.1.1.1, x0.1.1.2.1, x0.1.1.2.2), x0.1.2.1, x0.1.2.2.1,
    List.set x0.1.2.2.2 (Int.toNat x6.1) (List.replicate (IntKind.i64.wrap (8 + x7.1)).toNat (dflt t_int))),
  (x7.2.1.1, x7.2.1.2.1, ()), ()))) (none)) (none)) (none)) (none)) (none)) (none)) (
       cond (x1.1 == 4) (
        (spec_l6Rd_pick_h0 k 5 (x1.2.1.1, x1.2.1.2.1)).bind fun x8 => 
         cond (decide (0 ≤ x8.1)) (
          cond (decide (x8.1 < (↑(List.length x0.1.1.2.2) : Int))) (
           cond (decide (Int.toNat x8.1 < List.length x0.1.1.2.2)) (some ((((x0.1.1.1, x0.1.1.2.1, List.set x0.1.1.2.2 (Int.toNat x8.1) [-2]), x0.1.2.1,
    x0.1.2.2.1, x0.1.2.2.2),
  (x8.2.1.1, x8.2.1.2.1, ()), ()))) (none)) (none)) (none)) (some ((((x0.1.1.1, x0.1.1.2.1, x0.1.1.2.2), x0.1.2.1, x0.1.2.2.1, x0.1.2.2.2),
  (x1.2.1.1, x1.2.1.2.1, ()), ()))))))) := by kernel_rfl

noncomputable def spec_DrawSlotSave (k : Nat) (a0 : V_sl_uint8) : Option (V_impl_SlotDisk × V_sl_int) := evalT E k 36 (.pair t_impl_SlotDisk t_sl_int) [inp t_sl_uint8 a0] []
theorem spec_DrawSlotSave_eq (k : Nat) (a0 : V_sl_uint8) : spec_DrawSlotSave (k + 1) a0 = 
 (spec_l6Open k a0).bind fun x0 => 
  (spec_l73Spoil_h0 k x0).bind fun x1 => 
   (spec_l73Nums_h0 k 60 (x1.2.1.1, x1.2.1.2.1)).bind fun x2 => 
    (spec_l6Rd_pick_h0 k 14 (x2.2.1.1, x2.2.1.2.1)).bind fun x3 => 
     cond (x3.1 == 0) (
      (spec_l22Max k ).bind fun x4 => 
       (spec_l6Rd_pick_h0 k 2 (x3.2.1.1, x3.2.1.2.1)).bind fun x5 => 
        cond (decide (0 ≤ x5.1)) (
         cond (decide (x5.1 < (↑[-2, IntKind.i64.wrap (x4 + 1)].length : Int))) (
          cond (decide (Int.toNat x5.1 < [-2, IntKind.i64.wrap (x4 + 1)].length)) (
           cond (decide
  ((List.length x2.1 + [([-2, IntKind.i64.wrap (x4 + 1)] : List Int).getD (Int.toNat x5.1) (dflt t_int)].length) * 8 ≤
    140737488351232)) (some ((((x1.1.1.1, x1.1.1.2.1, x1.1.1.2.2), x1.1.2.1, x1.1.2.2.1, x1.1.2.2.2),
  x2.1 ++ [([-2, IntKind.i64.wrap (x4 + 1)] : List Int).getD (Int.toNat x5.1) (dflt t_int)]))) (none)) (none)) (none)) (none)) (
      cond (x3.1 == 1) (
       (spec_l6Rd_pick_h0 k 2 (x3.2.1.1, x3.2.1.2.1)).bind fun x6 => 
        cond (decide (0 ≤ IntKind.i64.wrap (1280 + x6.1))) (
         cond (decide (IntKind.i64.wrap (1280 + x6.1) ≤ IntKind.i64.wrap (1280 + x6.1))) (
          cond (decide ((IntKind.i64.wrap (1280 + x6.1)).toNat * 8 ≤ 140737488351232)) (some ((((x1.1.1.1, x1.1.1.2.1, x1.1.1.2.2), x1.1.2.1, x1.1.2.2.1, x1.1.2.2.2),
  List.replicate (IntKind.i64.wrap (1280 + x6.1)).toNat (dflt t_int)))) (none)) (none)) (none)) (some ((((x1.1.1.1, x1.1.1.2.1, x1.1.1.2.2), x1.1.2.1, x1.1.2.2.1, x1.1.2.2.2),
  x2.1)))) := by kernel_rfl

noncomputable def impl_SlotSave (k : Nat) (a0 : V_impl_SlotDisk) (a1 : V_sl_int) : Option (List V_impl_SlotStep × Bool) := evalT E k 28 (.pair (.dw 59 t_impl_SlotStep) .bool) [inp t_impl_SlotDisk a0, inp t_sl_int a1] []
theorem impl_SlotSave_eq (k : Nat) (a0 : V_impl_SlotDisk) (a1 : V_sl_int) : impl_SlotSave (k + 1) a0 a1 = some (saveF a0.1.1 a0.1.2.1 a0.1.2.2 a0.2.1 a0.2.2.1 a0.2.2.2 a1) := by kernel_rfl

noncomputable def laws_ltInts (k : Nat) (a0 : V_sl_int) (a1 : V_sl_int) : Option V_bool := evalT E k 39 t_bool [inp t_sl_int a0, inp t_sl_int a1] []
noncomputable def laws_ltInts_4 (k : Nat) (j : Nat) (y0 : List V_int) (y1 : List V_int) (y2 : Int) : Option V_bool := loopAt E 39 t_bool [true, true, false, true, false] [] [] k [] j (mkS 26 [(0, .c (.sl 3 t_int y0)), (1, .c (.sl 3 t_int y1)), (5, .c (.int .i64 y2))]) []
theorem laws_ltInts_eq (k : Nat) (a0 : V_sl_int) (a1 : V_sl_int) : laws_ltInts (k + 1) a0 a1 = 
 cond ((↑(List.length a0) : Int) != (↑(List.length a1) : Int)) (some false) (laws_ltInts_4 k k a0 a1 0) := by kernel_rfl
theorem laws_ltInts_4_eq (k : Nat) (j : Nat) (y0 : List V_int) (y1 : List V_int) (y2 : Int) : laws_ltInts_4 k (j + 1) y0 y1 y2 = 
 cond (decide (y2 < (↑y0.length : Int))) (
  cond (decide (0 ≤ y2)) (
   cond (decide (y2 < (↑y0.length : Int))) (
    cond (decide (0 ≤ y2)) (
     cond (decide (y2 < (↑y1.length : Int))) (
      cond (y0.getD y2.toNat (dflt t_int) != y1.getD y2.toNat (dflt t_int)) (some false) (laws_ltInts_4 k j y0 y1 (IntKind.i64.wrap (y2 + 1)))) (none)) (none)) (none)) (none)) (some true) := by kernel_rfl

noncomputable def laws_ltSteps (k : Nat) (a0 : V_sl_impl_SlotStep) (a1 : V_sl_impl_SlotStep) : Option V_bool := evalT E k 37 t_bool [inp t_sl_impl_SlotStep a0, inp t_sl_impl_SlotStep a1] []
noncomputable def laws_ltSteps_4 (k : Nat) (j : Nat) (y0 : List V_impl_SlotStep) (y1 : List V_impl_SlotStep) (y2 : Int) : Option V_bool := loopAt E 37 t_bool [true, true, false, true, false] [] [] k [] j (mkS 81 [(0, .c (.sl 59 t_impl_SlotStep y0)), (1, .c (.sl 59 t_impl_SlotStep y1)), (5, .c (.int .i64 y2))]) []
theorem laws_ltSteps_eq (k : Nat) (a0 : V_sl_impl_SlotStep) (a1 : V_sl_impl_SlotStep) : laws_ltSteps (k + 1) a0 a1 = 
 cond ((↑(List.length a0) : Int) != (↑(List.length a1) : Int)) (some false) (laws_ltSteps_4 k k a0 a1 0) := by kernel_rfl
theorem laws_ltSteps_4_eq (k : Nat) (j : Nat) (y0 : List V_impl_SlotStep) (y1 : List V_impl_SlotStep) (y2 : Int) : laws_ltSteps_4 k (j + 1) y0 y1 y2 = 
 cond (decide (y2 < (↑y0.length : Int))) (
  cond (decide (0 ≤ y2)) (
   cond (decide (y2 < (↑y0.length : Int))) (
    cond (decide (0 ≤ y2)) (
     cond (decide (y2 < (↑y1.length : Int))) (
      cond (!(y0.getD y2.toNat (dflt t_impl_SlotStep)).1 == (y1.getD y2.toNat (dflt t_impl_SlotStep)).1) (some false) (
       cond (decide (0 ≤ y2)) (
        cond (decide (y2 < (↑y0.length : Int))) (
         cond (decide (0 ≤ y2)) (
          cond (decide (y2 < (↑y1.length : Int))) (
           cond ((y0.getD y2.toNat (dflt t_impl_SlotStep)).2.1 != (y1.getD y2.toNat (dflt t_impl_SlotStep)).2.1) (some false) (
            cond (decide (0 ≤ y2)) (
             cond (decide (y2 < (↑y0.length : Int))) (
              cond (decide (0 ≤ y2)) (
               cond (decide (y2 < (↑y1.length : Int))) (
                cond ((y0.getD y2.toNat (dflt t_impl_SlotStep)).2.2.1 != (y1.getD y2.toNat (dflt t_impl_SlotStep)).2.2.1) (some false) (
                 cond (decide (0 ≤ y2)) (
                  cond (decide (y2 < (↑y0.length : Int))) (
                   cond (decide (0 ≤ y2)) (
                    cond (decide (y2 < (↑y1.length : Int))) (
                     cond ((y0.getD y2.toNat (dflt t_impl_SlotStep)).2.2.2.1 != (y1.getD y2.toNat (dflt t_impl_SlotStep)).2.2.2.1) (some false) (
                      cond (decide (0 ≤ y2)) (
                       cond (decide (y2 < (↑y0.length : Int))) (
                        cond (decide (0 ≤ y2)) (
                         cond (decide (y2 < (↑y1.length : Int))) (
                          (laws_ltInts k ((y0.getD y2.toNat (dflt t_impl_SlotStep)).2.2.2.2) ((y1.getD y2.toNat (dflt t_impl_SlotStep)).2.2.2.2)).bind fun x0 => 
                           cond (!x0) (some false) (laws_ltSteps_4 k j y0 y1 (IntKind.i64.wrap (y2 + 1)))) (none)) (none)) (none)) (none))) (none)) (none)) (none)) (none))) (none)) (none)) (none)) (none))) (none)) (none)) (none)) (none))) (none)) (none)) (none)) (none)) (some true) := by kernel_rfl

noncomputable def impl_within (k : Nat) (a0 : V_int) (a1 : V_int) (a2 : V_int) : Option V_bool := evalT E k 75 t_bool [inp t_int a0, inp t_int a1, inp t_int a2] []
theorem impl_within_eq (k : Nat) (a0 : V_int) (a1 : V_int) (a2 : V_int) : impl_within (k + 1) a0 a1 a2 = 
 cond (decide (a0 ≥ a1)) (some (decide (a0 ≤ a2))) (some false) := by kernel_rfl

noncomputable def impl_slotNum (k : Nat) (a0 : V_int) : Option V_bool := evalT E k 77 t_bool [inp t_int a0] []
theorem impl_slotNum_eq (k : Nat) (a0 : V_int) : impl_slotNum (k + 1) a0 = 
 (impl_within k a0 (-1) 9999).bind fun x0 => some x0 := by kernel_rfl

noncomputable def impl_slotNums (k : Nat) (a0 : V_sl_int) : Option V_bool := evalT E k 55 t_bool [inp t_sl_int a0] []
noncomputable def impl_slotNums_2 (k : Nat) (j : Nat) (y0 : List V_int) (y1 : Int) (y2 : Int) : Option V_bool := loopAt E 55 t_bool [true, false, true, false] [] [] k [] j (mkS 15 [(5, .c (.sl 3 t_int y0)), (6, .c (.int .i64 y1)), (7, .c (.int .i64 y2))]) []
theorem impl_slotNums_eq (k : Nat) (a0 : V_sl_int) : impl_slotNums (k + 1) a0 = impl_slotNums_2 k k a0 ((↑(List.length a0) : Int)) 0 := by kernel_rfl
theorem impl_slotNums_2_eq (k : Nat) (j : Nat) (y0 : List V_int) (y1 : Int) (y2 : Int) : impl_slotNums_2 k (j + 1) y0 y1 y2 = 
 cond (decide (y2 < y1)) (
  cond (decide (0 ≤ y2)) (
   cond (decide (y2 < (↑y0.length : Int))) (
    (impl_slotNum k (y0.getD y2.toNat (dflt t_int))).bind fun x0 => 
     cond (!x0) (some false) (impl_slotNums_2 k j y0 y1 (IntKind.i64.wrap (y2 + 1)))) (none)) (none)) (some true) := by kernel_rfl

noncomputable def impl_slotOk (k : Nat) (a0 : V_impl_Slot) : Option V_bool := evalT E k 47 t_bool [inp t_impl_Slot a0] []
noncomputable def impl_slotOk_4 (k : Nat) (j : Nat) (y0 : List V_sl_int) (y1 : Int) (y2 : Int) : Option V_bool := loopAt E 47 t_bool [true, true, false, true, false] [] [] k [] j (mkS 37 [(22, .c (.sl 38 t_sl_int y0)), (23, .c (.int .i64 y1)), (24, .c (.int .i64 y2))]) []
theorem impl_slotOk_eq (k : Nat) (a0 : V_impl_Slot) : impl_slotOk (k + 1) a0 = 
 (impl_within k a0.1 0 9999).bind fun x0 => 
  cond (!x0) (some false) (
   (impl_within k a0.2.1 0 1280).bind fun x1 => 
    cond (!x1) (some false) (
     cond ((↑(List.length a0.2.2) : Int) != 160) (some false) (impl_slotOk_4 k k a0.2.2 ((↑(List.length a0.2.2) : Int)) 0))) := by kernel_rfl
theorem impl_slotOk_4_eq (k : Nat) (j : Nat) (y0 : List V_sl_int) (y1 : Int) (y2 : Int) : impl_slotOk_4 k (j + 1) y0 y1 y2 = 
 cond (decide (y2 < y1)) (
  cond (decide (0 ≤ y2)) (
   cond (decide (y2 < (↑y0.length : Int))) (
    cond (decide ((↑(List.length (y0.getD y2.toNat (dflt t_sl_int))) : Int) > 8)) (some false) (
     (impl_slotNums k (y0.getD y2.toNat (dflt t_sl_int))).bind fun x0 => 
      cond (!x0) (some false) (impl_slotOk_4 k j y0 y1 (IntKind.i64.wrap (y2 + 1))))) (none)) (none)) (some true) := by kernel_rfl

noncomputable def impl_SlotOk (k : Nat) (a0 : V_impl_SlotDisk) : Option V_bool := evalT E k 20 t_bool [inp t_impl_SlotDisk a0] []
theorem impl_SlotOk_eq (k : Nat) (a0 : V_impl_SlotDisk) : impl_SlotOk (k + 1) a0 = 
 (impl_slotOk k a0.1).bind fun x0 => 
  cond (x0) (
   (impl_slotOk k a0.2).bind fun x1 => 
    cond (x1) (
     cond (a0.1.1 != a0.2.1) (some true) (some (a0.1.1 == 0))) (some false)) (some false) := by kernel_rfl

noncomputable def slices_Clone_int_int (k : Nat) (a0 : V_sl_int) : Option (List V_int) := evalT E k 52 (.ow 3 t_int) [inp t_sl_int a0] []
theorem slices_Clone_int_int_eq (k : Nat) (a0 : V_sl_int) : slices_Clone_int_int (k + 1) a0 = 
 cond (decide ((0 + List.length a0) * 8 ≤ 140737488351232)) (some a0) (none) := by kernel_rfl

noncomputable def impl_copyEach_int_h0 (k : Nat) (y0 : V_sl_sl_int) : Option (List V_sl_int) := evalT E k 84 (.dw 38 t_sl_int) [inp t_sl_sl_int y0, .c (.fn 52 [])] []
noncomputable def impl_copyEach_int_h0_5 (k : Nat) (j : Nat) (y0 : List V_sl_int) (y1 : Int) (y2 : Int) (y3 : List V_sl_int) : Option (List V_sl_int) := loopAt E 84 (.dw 38 t_sl_int) [true, true, true, false, true, false] [] [] k [] j (mkS 29 [(1, .c (.fn 52 [])), (5, .c (.o 0)), (14, .c (.sl 38 t_sl_int y0)), (15, .c (.int .i64 y1)), (16, .c (.int .i64 y2))]) [some (.dp 38 t_sl_int y3)]
theorem impl_copyEach_int_h0_eq (k : Nat) (y0 : V_sl_sl_int) : impl_copyEach_int_h0 (k + 1) y0 = 
 cond ((↑(List.length y0) : Int) == 0) (some []) (
  cond (decide ((↑(List.length y0) : Int) ≤ (↑(List.length y0) : Int))) (
   cond (decide ((↑(List.length y0) : Int).toNat * 24 ≤ 140737488351232)) (impl_copyEach_int_h0_5 k k y0 ((↑(List.length y0) : Int)) 0 (List.replicate (↑(List.length y0) : Int).toNat (dflt t_sl_int))) (none)) (none)) := by kernel_rfl
theorem impl_copyEach_int_h0_5_eq (k : Nat) (j : Nat) (y0 : List V_sl_int) (y1 : Int) (y2 : Int) (y3 : List V_sl_int) : impl_copyEach_int_h0_5 k (j + 1) y0 y1 y2 y3 = 
 cond (decide (y2 < y1)) (
  cond (decide (0 ≤ y2)) (
   cond (decide (y2 < (↑y0.length : Int))) (
    (slices_Clone_int_int k (y0.getD y2.toNat (dflt t_sl_int))).bind fun x0 => 
     cond (decide (0 ≤ y2)) (
      cond (decide (y2 < (↑y3.length : Int))) (
       cond (decide (y2.toNat < y3.length)) (impl_copyEach_int_h0_5 k j y0 y1 (IntKind.i64.wrap (y2 + 1)) (y3.set y2.toNat x0)) (none)) (none)) (none)) (none)) (none)) (some y3) := by kernel_rfl

noncomputable def impl_copySlot (k : Nat) (a0 : V_impl_Slot) : Option ((V_int × (V_int × List V_sl_int))) := evalT E k 64 (.pair t_int (.pair t_int (.dw 38 t_sl_int))) [inp t_impl_Slot a0] []
theorem impl_copySlot_eq (k : Nat) (a0 : V_impl_Slot) : impl_copySlot (k + 1) a0 = 
 (impl_copyEach_int_h0 k a0.2.2).bind fun x0 => some (a0.1, a0.2.1, x0) := by kernel_rfl

noncomputable def impl_platter_head_1_h0 (k : Nat) (y0 : V_impl_Slot) (y1 : V_impl_SlotStep) : Option ((V_impl_Slot × ((Bool × (Int × (Int × (Int × (List V_int × Unit))))) × Unit))) := evalT E k 90 (.pair t_impl_Slot (.pair (.pair .bool (.pair (.int .i64) (.pair (.int .i64) (.pair (.int .i64) (.pair (.sl 3 t_int) .unit))))) .unit)) [inp t_impl_Slot y0, .c (.p 0 0)] [some (.box 59 (cells t_impl_SlotStep y1))]
theorem impl_platter_head_1_h0_eq (k : Nat) (y0 : V_impl_Slot) (y1 : V_impl_SlotStep) : impl_platter_head_1_h0 (k + 1) y0 y1 = some (((y1.2.2.1, y1.2.2.2.1, y0.2.2),
  (y1.1, y1.2.1, y1.2.2.1, y1.2.2.2.1, y1.2.2.2.2, ()), ())) := by kernel_rfl

noncomputable def impl_platter_with_h0 (k : Nat) (y0 : V_bool) (y1 : V_impl_platter) (y2 : V_impl_SlotStep) : Option ((V_impl_SlotDisk × ((Int × (Int × (List V_sl_int × (Int × (Int × (List V_sl_int × Unit)))))) × ((Bool × (Int × (Int × (Int × (List V_int × Unit))))) × Unit)))) := evalT E k 87 (.pair t_impl_SlotDisk (.pair (.pair (.int .i64) (.pair (.int .i64) (.pair (.sl 38 t_sl_int) (.pair (.int .i64) (.pair (.int .i64) (.pair (.sl 38 t_sl_int) .unit)))))) (.pair (.pair .bool (.pair (.int .i64) (.pair (.int .i64) (.pair (.int .i64) (.pair (.sl 3 t_int) .unit))))) .unit))) [.c (.p 0 0), inp t_bool y0, .c (.fn 90 [.p 1 0])] [some (.box 86 (cells t_impl_platter y1)), some (.box 59 (cells t_impl_SlotStep y2))]
theorem impl_platter_with_h0_eq (k : Nat) (y0 : V_bool) (y1 : V_impl_platter) (y2 : V_impl_SlotStep) : impl_platter_with_h0 (k + 1) y0 y1 y2 = 
 cond (y0) (
  (impl_platter_head_1_h0 k y1.2 y2).bind fun x0 => some ((((y1.1.1, y1.1.2.1, y1.1.2.2), x0.1.1, x0.1.2.1, x0.1.2.2),
  (y1.1.1, y1.1.2.1, y1.1.2.2, y1.2.1, y1.2.2.1, y1.2.2.2, ()),
  (x0.2.1.1, x0.2.1.2.1, x0.2.1.2.2.1, x0.2.1.2.2.2.1,
    x0.2.1.2.2.2.2.1, ()),
  ()))) (
  (impl_platter_head_1_h0 k y1.1 y2).bind fun x1 => some ((((x1.1.1, x1.1.2.1, x1.1.2.2), y1.2.1, y1.2.2.1, y1.2.2.2),
  (y1.1.1, y1.1.2.1, y1.1.2.2, y1.2.1, y1.2.2.1, y1.2.2.2, ()),
  (x1.2.1.1, x1.2.1.2.1, x1.2.1.2.2.1, x1.2.1.2.2.2.1,
    x1.2.1.2.2.2.2.1, ()),
  ()))) := by kernel_rfl

noncomputable def impl_platter_head_h0 (k : Nat) (y0 : V_impl_SlotStep) (y1 : V_impl_platter) : Option ((V_impl_SlotDisk × ((Int × (Int × (List V_sl_int × (Int × (Int × (List V_sl_int × Unit)))))) × Unit))) := evalT E k 83 (.pair t_impl_SlotDisk (.pair (.pair (.int .i64) (.pair (.int .i64) (.pair (.sl 38 t_sl_int) (.pair (.int .i64) (.pair (.int .i64) (.pair (.sl 38 t_sl_int) .unit)))))) .unit)) [.c (.p 0 0), inp t_impl_SlotStep y0] [some (.box 86 (cells t_impl_platter y1))]
theorem impl_platter_head_h0_eq (k : Nat) (y0 : V_impl_SlotStep) (y1 : V_impl_platter) : impl_platter_head_h0 (k + 1) y0 y1 = 
 (impl_platter_with_h0 k y0.1 y1 y0).bind fun x0 => some ((((x0.1.1.1, x0.1.1.2.1, x0.1.1.2.2), x0.1.2.1, x0.1.2.2.1, x0.1.2.2.2),
  (x0.2.1.1, x0.2.1.2.1, x0.2.1.2.2.1, x0.2.1.2.2.2.1,
    x0.2.1.2.2.2.2.1, x0.2.1.2.2.2.2.2.1, ()),
  ())) := by kernel_rfl

noncomputable def slices_Clone_int_int_n89 (k : Nat) (a0 : V_sl_sl_int) : Option (List V_sl_int) := evalT E k 89 (.ow 38 t_sl_int) [inp t_sl_sl_int a0] []
theorem slices_Clone_int_int_n89_eq (k : Nat) (a0 : V_sl_sl_int) : slices_Clone_int_int_n89 (k + 1) a0 = 
 cond (decide ((0 + List.length a0) * 24 ≤ 140737488351232)) (some a0) (none) := by kernel_rfl

noncomputable def impl_platter_sector_1_h0 (k : Nat) (y0 : V_impl_Slot) (y1 : V_impl_SlotStep) : Option ((V_impl_Slot × ((Bool × (Int × (Int × (Int × (List V_int × Unit))))) × Unit))) := evalT E k 88 (.pair t_impl_Slot (.pair (.pair .bool (.pair (.int .i64) (.pair (.int .i64) (.pair (.int .i64) (.pair (.sl 3 t_int) .unit))))) .unit)) [inp t_impl_Slot y0, .c (.p 0 0)] [some (.box 59 (cells t_impl_SlotStep y1))]
theorem impl_platter_sector_1_h0_eq (k : Nat) (y0 : V_impl_Slot) (y1 : V_impl_SlotStep) : impl_platter_sector_1_h0 (k + 1) y0 y1 = 
 (slices_Clone_int_int_n89 k y0.2.2).bind fun x0 => 
  (slices_Clone_int_int k y1.2.2.2.2).bind fun x1 => 
   cond (decide (0 ≤ y1.2.1)) (
    cond (decide (y1.2.1 < (↑(List.length x0) : Int))) (
     cond (decide (Int.toNat y1.2.1 < List.length x0)) (some (((y0.1, y0.2.1, List.set x0 (Int.toNat y1.2.1) x1),
  (y1.1, y1.2.1, y1.2.2.1, y1.2.2.2.1, y1.2.2.2.2, ()), ()))) (none)) (none)) (none) := by kernel_rfl

noncomputable def impl_platter_with_h1 (k : Nat) (y0 : V_bool) (y1 : V_impl_platter) (y2 : V_impl_SlotStep) : Option ((V_impl_SlotDisk × ((Int × (Int × (List V_sl_int × (Int × (Int × (List V_sl_int × Unit)))))) × ((Bool × (Int × (Int × (Int × (List V_int × Unit))))) × Unit)))) := evalT E k 87 (.pair t_impl_SlotDisk (.pair (.pair (.int .i64) (.pair (.int .i64) (.pair (.sl 38 t_sl_int) (.pair (.int .i64) (.pair (.int .i64) (.pair (.sl 38 t_sl_int) .unit)))))) (.pair (.pair .bool (.pair (.int .i64) (.pair (.int .i64) (.pair (.int .i64) (.pair (.sl 3 t_int) .unit))))) .unit))) [.c (.p 0 0), inp t_bool y0, .c (.fn 88 [.p 1 0])] [some (.box 86 (cells t_impl_platter y1)), some (.box 59 (cells t_impl_SlotStep y2))]
theorem impl_platter_with_h1_eq (k : Nat) (y0 : V_bool) (y1 : V_impl_platter) (y2 : V_impl_SlotStep) : impl_platter_with_h1 (k + 1) y0 y1 y2 = 
 cond (y0) (
  (impl_platter_sector_1_h0 k y1.2 y2).bind fun x0 => some ((((y1.1.1, y1.1.2.1, y1.1.2.2), x0.1.1, x0.1.2.1, x0.1.2.2),
  (y1.1.1, y1.1.2.1, y1.1.2.2, y1.2.1, y1.2.2.1, y1.2.2.2, ()),
  (x0.2.1.1, x0.2.1.2.1, x0.2.1.2.2.1, x0.2.1.2.2.2.1,
    x0.2.1.2.2.2.2.1, ()),
  ()))) (
  (impl_platter_sector_1_h0 k y1.1 y2).bind fun x1 => some ((((x1.1.1, x1.1.2.1, x1.1.2.2), y1.2.1, y1.2.2.1, y1.2.2.2),
  (y1.1.1, y1.1.2.1, y1.1.2.2, y1.2.1, y1.2.2.1, y1.2.2.2, ()),
  (x1.2.1.1, x1.2.1.2.1, x1.2.1.2.2.1, x1.2.1.2.2.2.1,
    x1.2.1.2.2.2.2.1, ()),
  ()))) := by kernel_rfl

noncomputable def impl_platter_sector_h0 (k : Nat) (y0 : V_impl_SlotStep) (y1 : V_impl_platter) : Option ((V_impl_SlotDisk × ((Int × (Int × (List V_sl_int × (Int × (Int × (List V_sl_int × Unit)))))) × Unit))) := evalT E k 82 (.pair t_impl_SlotDisk (.pair (.pair (.int .i64) (.pair (.int .i64) (.pair (.sl 38 t_sl_int) (.pair (.int .i64) (.pair (.int .i64) (.pair (.sl 38 t_sl_int) .unit)))))) .unit)) [.c (.p 0 0), inp t_impl_SlotStep y0] [some (.box 86 (cells t_impl_platter y1))]
theorem impl_platter_sector_h0_eq (k : Nat) (y0 : V_impl_SlotStep) (y1 : V_impl_platter) : impl_platter_sector_h0 (k + 1) y0 y1 = 
 (impl_platter_with_h1 k y0.1 y1 y0).bind fun x0 => some ((((x0.1.1.1, x0.1.1.2.1, x0.1.1.2.2), x0.1.2.1, x0.1.2.2.1, x0.1.2.2.2),
  (x0.2.1.1, x0.2.1.2.1, x0.2.1.2.2.1, x0.2.1.2.2.2.1,
    x0.2.1.2.2.2.2.1, x0.2.1.2.2.2.2.2.1, ()),
  ())) := by kernel_rfl

noncomputable def impl_platter_write_h0 (k : Nat) (y0 : V_impl_SlotStep) (y1 : V_impl_platter) : Option ((Unit × ((Int × (Int × (List V_sl_int × (Int × (Int × (List V_sl_int × Unit)))))) × Unit))) := evalT E k 63 (.pair .unit (.pair (.pair (.int .i64) (.pair (.int .i64) (.pair (.sl 38 t_sl_int) (.pair (.int .i64) (.pair (.int .i64) (.pair (.sl 38 t_sl_int) .unit)))))) .unit)) [.c (.p 0 0), inp t_impl_SlotStep y0] [some (.box 86 (cells t_impl_platter y1))]
theorem impl_platter_write_h0_eq (k : Nat) (y0 : V_impl_SlotStep) (y1 : V_impl_platter) : impl_platter_write_h0 (k + 1) y0 y1 = 
 (impl_within k y0.2.1 (-1) 159).bind fun x0 => 
  cond (!x0) (some (((), (y1.1.1, y1.1.2.1, y1.1.2.2, y1.2.1, y1.2.2.1, y1.2.2.2, ()), ()))) (
   cond (y0.2.1 == -1) (
    (impl_platter_head_h0 k y0 y1).bind fun x1 => 
     (impl_SlotOk k x1.1).bind fun x2 => 
      cond (x2) (some (((),
  (x1.1.1.1, x1.1.1.2.1, x1.1.1.2.2, x1.1.2.1, x1.1.2.2.1, x1.1.2.2.2, ()),
  ()))) (some (((),
  (x1.2.1.1, x1.2.1.2.1, x1.2.1.2.2.1, x1.2.1.2.2.2.1,
    x1.2.1.2.2.2.2.1, x1.2.1.2.2.2.2.2.1, ()),
  ())))) (
    (impl_platter_sector_h0 k y0 y1).bind fun x3 => 
     (impl_SlotOk k x3.1).bind fun x4 => 
      cond (x4) (some (((),
  (x3.1.1.1, x3.1.1.2.1, x3.1.1.2.2, x3.1.2.1, x3.1.2.2.1, x3.1.2.2.2, ()),
  ()))) (some (((),
  (x3.2.1.1, x3.2.1.2.1, x3.2.1.2.2.1, x3.2.1.2.2.2.1,
    x3.2.1.2.2.2.2.1, x3.2.1.2.2.2.2.2.1, ()),
  ()))))) := by kernel_rfl

noncomputable def impl_SlotDo (k : Nat) (a0 : V_impl_SlotDisk) (a1 : V_sl_impl_SlotStep) (a2 : V_int) : Option (((V_int × (V_int × List V_sl_int)) × (V_int × (V_int × List V_sl_int)))) := evalT E k 35 (.pair (.pair t_int (.pair t_int (.dw 38 t_sl_int))) (.pair t_int (.pair t_int (.dw 38 t_sl_int)))) [inp t_impl_SlotDisk a0, inp t_sl_impl_SlotStep a1, inp t_int a2] []
noncomputable def impl_SlotDo_5 (k : Nat) (j : Nat) (y0 : Int) (y1 : List V_impl_SlotStep) (y2 : Int) (y3 : Int) (y4 : Int) (y5 : Int) (y6 : Int) (y7 : Int) (y8 : V_impl_platter) (y9 : List V_sl_int) (y10 : List V_sl_int) : Option (((V_int × (V_int × List V_sl_int)) × (V_int × (V_int × List V_sl_int)))) := loopAt E 35 (.pair (.pair t_int (.pair t_int (.dw 38 t_sl_int))) (.pair t_int (.pair t_int (.dw 38 t_sl_int)))) [true, true, true, false, true, false] [] [] k [] j (mkS 44 [(2, .c (.int .i64 y0)), (6, .c (.p 0 0)), (7, .c (.p 1 0)), (17, .c (.sl 59 t_impl_SlotStep y1)), (18, .c (.int .i64 y2)), (19, .c (.int .i64 y3))]) [some (.box 26 [.int .i64 y4, .int .i64 y5, .o 2, .int .i64 y6, .int .i64 y7, .o 3]), some (.box 86 (cells t_impl_platter y8)), some (.dp 38 t_sl_int y9), some (.dp 38 t_sl_int y10)]
theorem impl_SlotDo_eq (k : Nat) (a0 : V_impl_SlotDisk) (a1 : V_sl_impl_SlotStep) (a2 : V_int) : impl_SlotDo (k + 1) a0 a1 a2 = 
 (impl_SlotOk k a0).bind fun x0 => 
  cond (!x0) (some (((0, 0, []), 0, 0, []))) (impl_SlotDo_5 k k a2 a1 ((↑(List.length a1) : Int)) 0 0 0 0 0 a0 [] []) := by kernel_rfl
theorem impl_SlotDo_5_eq (k : Nat) (j : Nat) (y0 : Int) (y1 : List V_impl_SlotStep) (y2 : Int) (y3 : Int) (y4 : Int) (y5 : Int) (y6 : Int) (y7 : Int) (y8 : V_impl_platter) (y9 : List V_sl_int) (y10 : List V_sl_int) : impl_SlotDo_5 k (j + 1) y0 y1 y2 y3 y4 y5 y6 y7 y8 y9 y10 = 
 cond (decide (y3 < y2)) (
  cond (decide (0 ≤ y3)) (
   cond (decide (y3 < (↑y1.length : Int))) (
    cond (decide (y3 ≥ y0)) (
     (impl_copySlot k y8.1).bind fun x0 => 
      (impl_copySlot k y8.2).bind fun x1 => some (((x0.1, x0.2.1, x0.2.2), x1.1, x1.2.1, x1.2.2))) (
     (impl_platter_write_h0 k (y1.getD y3.toNat (dflt t_impl_SlotStep)) y8).bind fun x2 => impl_SlotDo_5 k j y0 y1 y2 (IntKind.i64.wrap (y3 + 1)) y4 y5 y6 y7 (((x2.2.1.1, (x2.2.1.2.1, x2.2.1.2.2.1)), (x2.2.1.2.2.2.1, (x2.2.1.2.2.2.2.1, x2.2.1.2.2.2.2.2.1)))) y9 y10)) (none)) (none)) (
  (impl_copySlot k y8.1).bind fun x3 => 
   (impl_copySlot k y8.2).bind fun x4 => some (((x3.1, x3.2.1, x3.2.2), x4.1, x4.2.1, x4.2.2))) := by kernel_rfl

noncomputable def laws_ltSlot (k : Nat) (a0 : V_impl_Slot) (a1 : V_impl_Slot) : Option V_bool := evalT E k 38 t_bool [inp t_impl_Slot a0, inp t_impl_Slot a1] []
noncomputable def laws_ltSlot_4 (k : Nat) (j : Nat) (y0 : Int) (y1 : V_impl_Slot) (y2 : V_impl_Slot) : Option V_bool := loopAt E 38 t_bool [true, true, false, true, false] [] [] k [] j (mkS 46 [(2, .c (.p 0 0)), (3, .c (.p 1 0)), (5, .c (.int .i64 y0))]) [some (.box 24 (cells t_impl_Slot y1)), some (.box 24 (cells t_impl_Slot y2))]
theorem laws_ltSlot_eq (k : Nat) (a0 : V_impl_Slot) (a1 : V_impl_Slot) : laws_ltSlot (k + 1) a0 a1 = 
 cond (a0.1 != a1.1) (some false) (
  cond (a0.2.1 != a1.2.1) (some false) (
   cond ((↑(List.length a0.2.2) : Int) != (↑(List.length a1.2.2) : Int)) (some false) (laws_ltSlot_4 k k 0 a0 a1))) := by kernel_rfl
theorem laws_ltSlot_4_eq (k : Nat) (j : Nat) (y0 : Int) (y1 : V_impl_Slot) (y2 : V_impl_Slot) : laws_ltSlot_4 k (j + 1) y0 y1 y2 = 
 cond (decide (y0 < (↑(List.length y1.2.2) : Int))) (
  cond (decide (0 ≤ y0)) (
   cond (decide (y0 < (↑(List.length y1.2.2) : Int))) (
    cond (decide (0 ≤ y0)) (
     cond (decide (y0 < (↑(List.length y2.2.2) : Int))) (
      (laws_ltInts k (List.getD y1.2.2 y0.toNat (dflt t_sl_int)) (List.getD y2.2.2 y0.toNat (dflt t_sl_int))).bind fun x0 => 
       cond (!x0) (some false) (laws_ltSlot_4 k j (IntKind.i64.wrap (y0 + 1)) y1 y2)) (none)) (none)) (none)) (none)) (some true) := by kernel_rfl

noncomputable def laws_FnSlotOther (k : Nat) (a0 : V_sl_uint8) : Option V_bool := evalT E k 8 t_bool [inp t_sl_uint8 a0] []
noncomputable def laws_FnSlotOther_9 (k : Nat) (j : Nat) (y0 : Int) (y1 : V_impl_SlotDisk) (y2 : List V_impl_SlotStep) : Option V_bool := loopAt E 8 t_bool [true, true, true, true, true, true, false, true, false] [] [] k [] j (mkS 88 [(3, .c (.p 0 0)), (7, .c (.o 1)), (9, .c (.int .i64 y0))]) [some (.box 26 (cells t_impl_SlotDisk y1)), some (.dp 59 t_impl_SlotStep y2)]
theorem laws_FnSlotOther_eq (k : Nat) (a0 : V_sl_uint8) : laws_FnSlotOther (k + 1) a0 = 
 cond (decide ((↑(List.length a0) : Int) > 1048576)) (some true) (
  (spec_DrawSlotSave k a0).bind fun x0 => 
   (spec_SlotSave k x0.1 x0.2).bind fun x1 => 
    (impl_SlotSave k x0.1 x0.2).bind fun x2 => 
     cond (!x2.2 == x1.2) (some (x2.2 == x1.2)) (
      (laws_ltSteps k x2.1 x1.1).bind fun x3 => 
       cond (!x3) (some (x2.2 == x1.2)) (
        cond (!x2.2) (some (x2.2 == x1.2)) (laws_FnSlotOther_9 k k 0 x0.1 x2.1)))) := by kernel_rfl
theorem laws_FnSlotOther_9_eq (k : Nat) (j : Nat) (y0 : Int) (y1 : V_impl_SlotDisk) (y2 : List V_impl_SlotStep) : laws_FnSlotOther_9 k (j + 1) y0 y1 y2 = 
 cond (decide (y0 < (↑y2.length : Int))) (
  cond (decide (0 ≤ y0)) (
   cond (decide (y0 < (↑y2.length : Int))) (
    cond (decide (y0.toNat < y2.length)) (
     cond ((y2.getD y0.toNat (dflt t_impl_SlotStep)).1 == decide (y1.2.1 > y1.1.1)) (some false) (laws_FnSlotOther_9 k j (IntKind.i64.wrap (y0 + 1)) y1 y2)) (none)) (none)) (none)) (
  (impl_SlotDo k y1 y2 (↑y2.length : Int)).bind fun x0 => 
   cond (decide (y1.2.1 > y1.1.1)) (
    (laws_ltSlot k x0.2 y1.2).bind fun x1 => some x1) (
    (laws_ltSlot k x0.1 y1.1).bind fun x2 => some x2)) := by kernel_rfl

def Goal : Prop := ∀ (a0 : V_sl_uint8), Go.Sx.Good t_sl_uint8 a0 → ∃ k, laws_FnSlotOther k a0 = some true
end Go.Proofs.Ytiabhdebjajgiaa.SFnSlotOther
