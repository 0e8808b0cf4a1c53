/- What each function of the program answers: one step of the plain machine, by the kernel. -/
import Derived.Test.YtbgibmngijomfaaEFnOutSort
set_option linter.unusedVariables false
set_option maxRecDepth 1000000
set_option maxHeartbeats 0
namespace Go.Proofs.Ytbgibmngijomfaa.SFnOutSort
open Go Go.Sx Go.Proofs
noncomputable def spec_l6Open (k : Nat) (a0 : V_sl_uint8) : Option V_spec_l6Rd := evalT E k 48 (.bx 99 t_spec_l6Rd) [inp t_sl_uint8 a0] []
theorem spec_l6Open_eq (k : Nat) (a0 : V_sl_uint8) : spec_l6Open (k + 1) a0 = 
 cond (decide ((↑(List.length a0) : Int) > 2000)) (
  cond (decide (2000 ≤ (↑(List.length a0) : Int))) (some ((List.drop (Int.toNat 0) (List.take (Int.toNat 2000) a0), 0))) (none)) (some (a0, 0)) := by kernel_rfl

noncomputable def spec_l6Rd_pick_h0 (k : Nat) (y0 : V_int) (y1 : V_spec_l6Rd) : Option ((V_int × ((List V_uint8 × (Int × Unit)) × Unit))) := evalT E k 49 (.pair t_int (.pair (.pair (.sl 5 t_uint8) (.pair (.int .i64) .unit)) .unit)) [.c (.p 0 0), inp t_int y0] [some (.box 99 (cells t_spec_l6Rd y1))]
theorem spec_l6Rd_pick_h0_eq (k : Nat) (y0 : V_int) (y1 : V_spec_l6Rd) : spec_l6Rd_pick_h0 (k + 1) y0 y1 = 
 cond (decide (y0 < 1)) (some ((0, (y1.1, IntKind.i64.wrap (y1.2 + 1), ()), ()))) (
  cond ((↑(List.length y1.1) : Int) == 0) (some ((0, (y1.1, IntKind.i64.wrap (y1.2 + 1), ()), ()))) (
   cond (decide (IntKind.i64.wrap (IntKind.i64.wrap (y1.2 + 1) - 1) < (↑(List.length y1.1) : Int))) (
    cond (decide (0 ≤ IntKind.i64.wrap (IntKind.i64.wrap (y1.2 + 1) - 1))) (
     cond (decide (IntKind.i64.wrap (IntKind.i64.wrap (y1.2 + 1) - 1) < (↑(List.length y1.1) : Int))) (
      cond (!decide (y0 = 0)) (some (((IntKind.i64.wrap (List.getD y1.1 (IntKind.i64.wrap (IntKind.i64.wrap (y1.2 + 1) - 1)).toNat (dflt t_uint8))).tmod y0,
  (y1.1, IntKind.i64.wrap (y1.2 + 1), ()), ()))) (none)) (none)) (none)) (
    cond (!decide ((↑(List.length y1.1) : Int) = 0)) (
     cond (decide (0 ≤ (IntKind.i64.wrap (IntKind.i64.wrap (y1.2 + 1) - 1)).tmod (↑(List.length y1.1) : Int))) (
      cond (decide
  ((IntKind.i64.wrap (IntKind.i64.wrap (y1.2 + 1) - 1)).tmod (↑(List.length y1.1) : Int) <
    (↑(List.length y1.1) : Int))) (
       cond (!decide ((↑(List.length y1.1) : Int) = 0)) (
        cond (decide
  (0 ≤
    (IntKind.i64.wrap (IntKind.i64.wrap (IntKind.i64.wrap (IntKind.i64.wrap (y1.2 + 1) - 1) * 7) + 3)).tmod
      (↑(List.length y1.1) : Int))) (
         cond (decide
  ((IntKind.i64.wrap (IntKind.i64.wrap (IntKind.i64.wrap (IntKind.i64.wrap (y1.2 + 1) - 1) * 7) + 3)).tmod
      (↑(List.length y1.1) : Int) <
    (↑(List.length y1.1) : Int))) (
          cond (!decide ((↑(List.length y1.1) : Int) = 0)) (
           cond (!decide (y0 = 0)) (some (((IntKind.i64.wrap
        (↑(BitVec.ofInt IntKind.i64.bits
                  (IntKind.i64.wrap
                    (IntKind.i64.wrap
                        (IntKind.i64.wrap
                            (IntKind.i64.wrap
                                (IntKind.i64.wrap
                                    (List.getD y1.1
                                      ((IntKind.i64.wrap (IntKind.i64.wrap (y1.2 + 1) - 1)).tmod
                                          (↑(List.length y1.1) : Int)).toNat
                                      (dflt t_uint8)) *
                                  131) +
                              IntKind.i64.wrap
                                (IntKind.i64.wrap
                                    (List.getD y1.1
                                      ((IntKind.i64.wrap
                                              (IntKind.i64.wrap
                                                  (IntKind.i64.wrap (IntKind.i64.wrap (y1.2 + 1) - 1) * 7) +
                                                3)).tmod
                                          (↑(List.length y1.1) : Int)).toNat
                                      (dflt t_uint8)) *
                                  1117)) +
                          IntKind.i64.wrap (IntKind.i64.wrap (IntKind.i64.wrap (y1.2 + 1) - 1) * 29)) +
                      IntKind.i64.wrap
                        (IntKind.i64.wrap
                            ((IntKind.i64.wrap (IntKind.i64.wrap (y1.2 + 1) - 1)).tdiv
                              (↑(List.length y1.1) : Int)) *
                          53))) ^^^
                BitVec.ofInt IntKind.i64.bits
                  (IntKind.i64.wrap
                    ((IntKind.i64.wrap
                          (IntKind.i64.wrap
                              (IntKind.i64.wrap
                                  (IntKind.i64.wrap
                                      (IntKind.i64.wrap
                                          (List.getD y1.1
                                            ((IntKind.i64.wrap (IntKind.i64.wrap (y1.2 + 1) - 1)).tmod
                                                (↑(List.length y1.1) : Int)).toNat
                                            (dflt t_uint8)) *
                                        131) +
                                    IntKind.i64.wrap
                                      (IntKind.i64.wrap
                                          (List.getD y1.1
                                            ((IntKind.i64.wrap
                                                    (IntKind.i64.wrap
                                                        (IntKind.i64.wrap (IntKind.i64.wrap (y1.2 + 1) - 1) * 7) +
                                                      3)).tmod
                                                (↑(List.length y1.1) : Int)).toNat
                                            (dflt t_uint8)) *
                                        1117)) +
                                IntKind.i64.wrap (IntKind.i64.wrap (IntKind.i64.wrap (y1.2 + 1) - 1) * 29)) +
                            IntKind.i64.wrap
                              (IntKind.i64.wrap
                                  ((IntKind.i64.wrap (IntKind.i64.wrap (y1.2 + 1) - 1)).tdiv
                                    (↑(List.length y1.1) : Int)) *
                                53))).tdiv
                      64))).toNat :
          Int)).tmod
    y0,
  (y1.1, IntKind.i64.wrap (y1.2 + 1), ()), ()))) (none)) (none)) (none)) (none)) (none)) (none)) (none)) (none)))) := by kernel_rfl

noncomputable def spec_l72Out_h0 (k : Nat) (y0 : V_spec_l6Rd) : Option (((V_int × (V_int × (V_int × (V_int × V_int)))) × ((List V_uint8 × (Int × Unit)) × Unit))) := evalT E k 53 (.pair (.pair t_int (.pair t_int (.pair t_int (.pair t_int t_int)))) (.pair (.pair (.sl 5 t_uint8) (.pair (.int .i64) .unit)) .unit)) [.c (.p 0 0)] [some (.box 99 (cells t_spec_l6Rd y0))]
theorem spec_l72Out_h0_eq (k : Nat) (y0 : V_spec_l6Rd) : spec_l72Out_h0 (k + 1) y0 = 
 (spec_l6Rd_pick_h0 k 6 y0).bind fun x0 => 
  (spec_l6Rd_pick_h0 k 4 (x0.2.1.1, x0.2.1.2.1)).bind fun x1 => 
   (spec_l6Rd_pick_h0 k 3 (x1.2.1.1, x1.2.1.2.1)).bind fun x2 => 
    (spec_l6Rd_pick_h0 k 2 (x2.2.1.1, x2.2.1.2.1)).bind fun x3 => 
     (spec_l6Rd_pick_h0 k 4 (x3.2.1.1, x3.2.1.2.1)).bind fun x4 => some (((x0.1, x1.1, x2.1, x3.1, x4.1), (x4.2.1.1, x4.2.1.2.1, ()), ())) := by kernel_rfl

noncomputable def spec_DrawOutSort (k : Nat) (a0 : V_sl_uint8) : Option (List V_impl_Out) := evalT E k 34 (.ow 35 t_impl_Out) [inp t_sl_uint8 a0] []
noncomputable def spec_DrawOutSort_4 (k : Nat) (j : Nat) (y0 : Int) (y1 : V_spec_l6Rd) (y2 : List V_impl_Out) : Option (List V_impl_Out) := loopAt E 34 (.ow 35 t_impl_Out) [true, true, true, false, true, false] [] [] k [] j (mkS 21 [(3, .c (.p 0 0)), (4, .c (.o 1)), (5, .c (.int .i64 y0))]) [some (.box 99 (cells t_spec_l6Rd y1)), some (.own 35 t_impl_Out y2)]
theorem spec_DrawOutSort_eq (k : Nat) (a0 : V_sl_uint8) : spec_DrawOutSort (k + 1) a0 = 
 (spec_l6Open k a0).bind fun x0 => 
  (spec_l6Rd_pick_h0 k 14 x0).bind fun x1 => spec_DrawOutSort_4 k k x1.1 (x1.2.1.1, x1.2.1.2.1) [] := by kernel_rfl
theorem spec_DrawOutSort_4_eq (k : Nat) (j : Nat) (y0 : Int) (y1 : V_spec_l6Rd) (y2 : List V_impl_Out) : spec_DrawOutSort_4 k (j + 1) y0 y1 y2 = 
 cond (decide (y0 > 0)) (
  (spec_l72Out_h0 k y1).bind fun x0 => 
   cond (decide
  ((y2.length +
        [(x0.1.1, x0.1.2.1, x0.1.2.2.1, x0.1.2.2.2.1, x0.1.2.2.2.2)].length) *
      40 ≤
    140737488351232)) (spec_DrawOutSort_4 k j (IntKind.i64.wrap (y0 - 1)) (x0.2.1.1, x0.2.1.2.1) (y2 ++ [(x0.1.1, x0.1.2.1, x0.1.2.2.1, x0.1.2.2.2.1, x0.1.2.2.2.2)])) (none)) (some y2) := by kernel_rfl

noncomputable def spec_OutLess (k : Nat) (a0 : V_impl_Out) (a1 : V_impl_Out) : Option V_bool := evalT E k 21 t_bool [inp t_impl_Out a0, inp t_impl_Out a1] []
theorem spec_OutLess_eq (k : Nat) (a0 : V_impl_Out) (a1 : V_impl_Out) : spec_OutLess (k + 1) a0 a1 = 
 cond (a0.1 != a1.1) (some (decide (a0.1 < a1.1))) (
  cond (a0.2.1 != a1.2.1) (some (decide (a0.2.1 < a1.2.1))) (
   cond (a0.2.2.1 != a1.2.2.1) (some (decide (a0.2.2.1 < a1.2.2.1))) (
    cond (a0.2.2.2.1 != a1.2.2.2.1) (some (decide (a0.2.2.2.1 < a1.2.2.2.1))) (some (decide (a0.2.2.2.2 < a1.2.2.2.2)))))) := by kernel_rfl

noncomputable def spec_OutSort (k : Nat) (a0 : V_sl_impl_Out) : Option (List V_impl_Out) := evalT E k 35 (.ow 35 t_impl_Out) [inp t_sl_impl_Out a0] []
noncomputable def spec_OutSort_3 (k : Nat) (j : Nat) (y0 : List V_impl_Out) (y1 : Int) (y2 : List V_impl_Out) : Option (List V_impl_Out) := loopAt E 35 (.ow 35 t_impl_Out) [true, true, false, true, false] [] [] k [] j (mkS 47 [(0, .c (.sl 35 t_impl_Out y0)), (3, .c (.o 0)), (4, .c (.int .i64 y1))]) [some (.own 35 t_impl_Out y2)]
noncomputable def spec_OutSort_6 (k : Nat) (j0 : Nat) (j : Nat) (y0 : List V_impl_Out) (y1 : Int) (y2 : Int) (y3 : List V_impl_Out) : Option (List V_impl_Out) := loopAt E 35 (.ow 35 t_impl_Out) [true, true, false, true, false, false, true, false, false, true, false, false] [] [] k [j0] j (mkS 47 [(0, .c (.sl 35 t_impl_Out y0)), (3, .c (.o 0)), (4, .c (.int .i64 y1)), (5, .c (.int .i64 y2))]) [some (.own 35 t_impl_Out y3)]
theorem spec_OutSort_eq (k : Nat) (a0 : V_sl_impl_Out) : spec_OutSort (k + 1) a0 = spec_OutSort_3 k k a0 0 [] := by kernel_rfl
theorem spec_OutSort_3_eq (k : Nat) (j : Nat) (y0 : List V_impl_Out) (y1 : Int) (y2 : List V_impl_Out) : spec_OutSort_3 k (j + 1) y0 y1 y2 = 
 cond (decide (y1 < (↑y0.length : Int))) (spec_OutSort_6 k j k y0 y1 (↑y2.length : Int) y2) (some y2) := by kernel_rfl
theorem spec_OutSort_6_eq (k : Nat) (j0 : Nat) (j : Nat) (y0 : List V_impl_Out) (y1 : Int) (y2 : Int) (y3 : List V_impl_Out) : spec_OutSort_6 k j0 (j + 1) y0 y1 y2 y3 = 
 cond (decide (y2 > 0)) (
  cond (decide (0 ≤ y1)) (
   cond (decide (y1 < (↑y0.length : Int))) (
    cond (decide (0 ≤ IntKind.i64.wrap (y2 - 1))) (
     cond (decide (IntKind.i64.wrap (y2 - 1) < (↑y3.length : Int))) (
      cond (decide ((IntKind.i64.wrap (y2 - 1)).toNat < y3.length)) (
       (spec_OutLess k (y0.getD y1.toNat (dflt t_impl_Out)) (y3.getD (IntKind.i64.wrap (y2 - 1)).toNat (dflt t_impl_Out))).bind fun x0 => 
        cond (x0) (spec_OutSort_6 k j0 j y0 y1 (IntKind.i64.wrap (y2 - 1)) y3) (
         cond (decide (0 ≤ y2)) (
          cond (decide (y2 ≤ (↑y3.length : Int))) (
           cond (decide ((0 + (List.drop (Int.toNat 0) (List.take y2.toNat y3)).length) * 40 ≤ 140737488351232)) (
            cond (decide (0 ≤ y1)) (
             cond (decide (y1 < (↑y0.length : Int))) (
              cond (decide
  ((([] ++ List.drop (Int.toNat 0) (List.take y2.toNat y3)).length +
        [((y0.getD y1.toNat (dflt t_impl_Out)).1, (y0.getD y1.toNat (dflt t_impl_Out)).2.1,
              (y0.getD y1.toNat (dflt t_impl_Out)).2.2.1, (y0.getD y1.toNat (dflt t_impl_Out)).2.2.2.1,
              (y0.getD y1.toNat (dflt t_impl_Out)).2.2.2.2)].length) *
      40 ≤
    140737488351232)) (
               cond (decide (0 ≤ y2)) (
                cond (decide (y2 ≤ (↑y3.length : Int))) (
                 cond (decide ((↑y3.length : Int) ≤ (↑y3.length : Int))) (
                  cond (decide
  ((([] ++ List.drop (Int.toNat 0) (List.take y2.toNat y3) ++
            [((y0.getD y1.toNat (dflt t_impl_Out)).1, (y0.getD y1.toNat (dflt t_impl_Out)).2.1,
                (y0.getD y1.toNat (dflt t_impl_Out)).2.2.1, (y0.getD y1.toNat (dflt t_impl_Out)).2.2.2.1,
                (y0.getD y1.toNat (dflt t_impl_Out)).2.2.2.2)]).length +
        (List.drop y2.toNat (List.take (↑y3.length : Int).toNat y3)).length) *
      40 ≤
    140737488351232)) (spec_OutSort_3 k j0 y0 (IntKind.i64.wrap (y1 + 1)) ([] ++ List.drop (Int.toNat 0) (List.take y2.toNat y3) ++
    [((y0.getD y1.toNat (dflt t_impl_Out)).1, (y0.getD y1.toNat (dflt t_impl_Out)).2.1,
        (y0.getD y1.toNat (dflt t_impl_Out)).2.2.1, (y0.getD y1.toNat (dflt t_impl_Out)).2.2.2.1,
        (y0.getD y1.toNat (dflt t_impl_Out)).2.2.2.2)] ++
  List.drop y2.toNat (List.take (↑y3.length : Int).toNat y3))) (none)) (none)) (none)) (none)) (none)) (none)) (none)) (none)) (none)) (none))) (none)) (none)) (none)) (none)) (none)) (
  cond (decide (0 ≤ y2)) (
   cond (decide (y2 ≤ (↑y3.length : Int))) (
    cond (decide ((0 + (List.drop (Int.toNat 0) (List.take y2.toNat y3)).length) * 40 ≤ 140737488351232)) (
     cond (decide (0 ≤ y1)) (
      cond (decide (y1 < (↑y0.length : Int))) (
       cond (decide
  ((([] ++ List.drop (Int.toNat 0) (List.take y2.toNat y3)).length +
        [((y0.getD y1.toNat (dflt t_impl_Out)).1, (y0.getD y1.toNat (dflt t_impl_Out)).2.1,
              (y0.getD y1.toNat (dflt t_impl_Out)).2.2.1, (y0.getD y1.toNat (dflt t_impl_Out)).2.2.2.1,
              (y0.getD y1.toNat (dflt t_impl_Out)).2.2.2.2)].length) *
      40 ≤
    140737488351232)) (
        cond (decide (0 ≤ y2)) (
         cond (decide (y2 ≤ (↑y3.length : Int))) (
          cond (decide ((↑y3.length : Int) ≤ (↑y3.length : Int))) (
           cond (decide
  ((([] ++ List.drop (Int.toNat 0) (List.take y2.toNat y3) ++
            [((y0.getD y1.toNat (dflt t_impl_Out)).1, (y0.getD y1.toNat (dflt t_impl_Out)).2.1,
                (y0.getD y1.toNat (dflt t_impl_Out)).2.2.1, (y0.getD y1.toNat (dflt t_impl_Out)).2.2.2.1,
                (y0.getD y1.toNat (dflt t_impl_Out)).2.2.2.2)]).length +
        (List.drop y2.toNat (List.take (↑y3.length : Int).toNat y3)).length) *
      40 ≤
    140737488351232)) (spec_OutSort_3 k j0 y0 (IntKind.i64.wrap (y1 + 1)) ([] ++ List.drop (Int.toNat 0) (List.take y2.toNat y3) ++
    [((y0.getD y1.toNat (dflt t_impl_Out)).1, (y0.getD y1.toNat (dflt t_impl_Out)).2.1,
        (y0.getD y1.toNat (dflt t_impl_Out)).2.2.1, (y0.getD y1.toNat (dflt t_impl_Out)).2.2.2.1,
        (y0.getD y1.toNat (dflt t_impl_Out)).2.2.2.2)] ++
  List.drop y2.toNat (List.take (↑y3.length : Int).toNat y3))) (none)) (none)) (none)) (none)) (none)) (none)) (none)) (none)) (none)) (none)) := by kernel_rfl

noncomputable def cmp_isNaN_int (k : Nat) (a0 : V_int) : Option V_bool := evalT E k 81 t_bool [inp t_int a0] []
theorem cmp_isNaN_int_eq (k : Nat) (a0 : V_int) : cmp_isNaN_int (k + 1) a0 = some (a0 != a0) := by kernel_rfl

noncomputable def cmp_Compare_int (k : Nat) (a0 : V_int) (a1 : V_int) : Option V_int := evalT E k 70 t_int [inp t_int a0, inp t_int a1] []
theorem cmp_Compare_int_eq (k : Nat) (a0 : V_int) (a1 : V_int) : cmp_Compare_int (k + 1) a0 a1 = 
 (cmp_isNaN_int k a0).bind fun x0 => 
  (cmp_isNaN_int k a1).bind fun x1 => 
   cond (x0) (
    cond (x1) (some 0) (some (-1))) (
    cond (x1) (some 1) (
     cond (decide (a0 < a1)) (some (-1)) (
      cond (decide (a0 > a1)) (some 1) (some 0)))) := by kernel_rfl

noncomputable def slices_Compare_int_int (k : Nat) (a0 : V_sl_int) (a1 : V_sl_int) : Option V_int := evalT E k 50 t_int [inp t_sl_int a0, inp t_sl_int a1] []
noncomputable def slices_Compare_int_int_2 (k : Nat) (j : Nat) (y0 : List V_int) (y1 : List V_int) (y2 : List V_int) (y3 : Int) (y4 : Int) : Option V_int := loopAt E 50 t_int [true, false, true, false] [] [] k [] j (mkS 36 [(0, .c (.sl 3 t_int y0)), (1, .c (.sl 3 t_int y1)), (9, .c (.sl 3 t_int y2)), (10, .c (.int .i64 y3)), (11, .c (.int .i64 y4))]) []
theorem slices_Compare_int_int_eq (k : Nat) (a0 : V_sl_int) (a1 : V_sl_int) : slices_Compare_int_int (k + 1) a0 a1 = slices_Compare_int_int_2 k k a0 a1 a0 ((↑(List.length a0) : Int)) 0 := by kernel_rfl
theorem slices_Compare_int_int_2_eq (k : Nat) (j : Nat) (y0 : List V_int) (y1 : List V_int) (y2 : List V_int) (y3 : Int) (y4 : Int) : slices_Compare_int_int_2 k (j + 1) y0 y1 y2 y3 y4 = 
 cond (decide (y4 < y3)) (
  cond (decide (0 ≤ y4)) (
   cond (decide (y4 < (↑y2.length : Int))) (
    cond (decide (y4 ≥ (↑y1.length : Int))) (some 1) (
     cond (decide (0 ≤ y4)) (
      cond (decide (y4 < (↑y1.length : Int))) (
       (cmp_Compare_int k (y2.getD y4.toNat (dflt t_int)) (y1.getD y4.toNat (dflt t_int))).bind fun x0 => 
        cond (x0 != 0) (some x0) (slices_Compare_int_int_2 k j y0 y1 y2 y3 (IntKind.i64.wrap (y4 + 1)))) (none)) (none))) (none)) (none)) (
  cond (decide ((↑y0.length : Int) < (↑y1.length : Int))) (some (-1)) (some 0)) := by kernel_rfl

noncomputable def impl_OutLess (k : Nat) (a0 : V_impl_Out) (a1 : V_impl_Out) : Option V_bool := evalT E k 23 t_bool [inp t_impl_Out a0, inp t_impl_Out a1] []
theorem impl_OutLess_eq (k : Nat) (a0 : V_impl_Out) (a1 : V_impl_Out) : impl_OutLess (k + 1) a0 a1 = 
 (slices_Compare_int_int k [a0.1, a0.2.1, a0.2.2.1, a0.2.2.2.1, a0.2.2.2.2] [a1.1, a1.2.1, a1.2.2.1, a1.2.2.2.1, a1.2.2.2.2]).bind fun x0 => some (decide (x0 < 0)) := by kernel_rfl

noncomputable def impl_heap_impl_Out_push_h0 (k : Nat) (y0 : V_impl_Out) (y1 : List V_impl_Out) : Option ((Unit × ((List V_impl_Out × (Unit × Unit)) × Unit))) := evalT E k 58 (.pair .unit (.pair (.pair (.ow 35 t_impl_Out) (.pair (.fnc 23) .unit)) .unit)) [.c (.p 0 0), inp t_impl_Out y0] [some (.box 83 [.o 1, .fn 23 []]), some (.own 35 t_impl_Out y1)]
noncomputable def impl_heap_impl_Out_push_h0_3 (k : Nat) (j : Nat) (y0 : Int) (y1 : List V_impl_Out) : Option ((Unit × ((List V_impl_Out × (Unit × Unit)) × Unit))) := loopAt E 58 (.pair .unit (.pair (.pair (.ow 35 t_impl_Out) (.pair (.fnc 23) .unit)) .unit)) [true, true, true, false] [some (.box 83 [.undef, .undef]), none] [] k [] j (mkS 74 [(0, .c (.p 0 0)), (4, .c (.int .i64 y0))]) [some (.box 83 [.o 1, .fn 23 []]), some (.own 35 t_impl_Out y1)]
theorem impl_heap_impl_Out_push_h0_eq (k : Nat) (y0 : V_impl_Out) (y1 : List V_impl_Out) : impl_heap_impl_Out_push_h0 (k + 1) y0 y1 = 
 cond (decide
  ((y1.length + [(y0.1, y0.2.1, y0.2.2.1, y0.2.2.2.1, y0.2.2.2.2)].length) *
      40 ≤
    140737488351232)) (impl_heap_impl_Out_push_h0_3 k k (IntKind.i64.wrap
  ((↑(y1 ++ [(y0.1, y0.2.1, y0.2.2.1, y0.2.2.2.1, y0.2.2.2.2)]).length : Int) - 1)) (y1 ++ [(y0.1, y0.2.1, y0.2.2.1, y0.2.2.2.1, y0.2.2.2.2)])) (none) := by kernel_rfl
theorem impl_heap_impl_Out_push_h0_3_eq (k : Nat) (j : Nat) (y0 : Int) (y1 : List V_impl_Out) : impl_heap_impl_Out_push_h0_3 k (j + 1) y0 y1 = 
 cond (decide (y0 > 0)) (
  cond (decide (0 ≤ y0)) (
   cond (decide (y0 < (↑y1.length : Int))) (
    cond (decide (y0.toNat < y1.length)) (
     cond (decide (0 ≤ IntKind.i64.wrap ((IntKind.i64.wrap (y0 - 1)).tdiv 2))) (
      cond (decide (IntKind.i64.wrap ((IntKind.i64.wrap (y0 - 1)).tdiv 2) < (↑y1.length : Int))) (
       cond (decide ((IntKind.i64.wrap ((IntKind.i64.wrap (y0 - 1)).tdiv 2)).toNat < y1.length)) (
        (impl_OutLess k (y1.getD y0.toNat (dflt t_impl_Out)) (y1.getD (IntKind.i64.wrap ((IntKind.i64.wrap (y0 - 1)).tdiv 2)).toNat (dflt t_impl_Out))).bind fun x0 => 
         cond (!x0) (some (((), (y1, (), ()), ()))) (
          cond (decide (0 ≤ IntKind.i64.wrap ((IntKind.i64.wrap (y0 - 1)).tdiv 2))) (
           cond (decide (IntKind.i64.wrap ((IntKind.i64.wrap (y0 - 1)).tdiv 2) < (↑y1.length : Int))) (
            cond (decide ((IntKind.i64.wrap ((IntKind.i64.wrap (y0 - 1)).tdiv 2)).toNat < y1.length)) (
             cond (decide (0 ≤ y0)) (
              cond (decide (y0 < (↑y1.length : Int))) (
               cond (decide (y0.toNat < y1.length)) (
                cond (decide (0 ≤ y0)) (
                 cond (decide (y0 < (↑y1.length : Int))) (
                  cond (decide (y0.toNat < y1.length)) (
                   cond (decide (0 ≤ IntKind.i64.wrap ((IntKind.i64.wrap (y0 - 1)).tdiv 2))) (
                    cond (decide
  (IntKind.i64.wrap ((IntKind.i64.wrap (y0 - 1)).tdiv 2) <
    (↑(y1.set y0.toNat
            ((y1.getD (IntKind.i64.wrap ((IntKind.i64.wrap (y0 - 1)).tdiv 2)).toNat (dflt t_impl_Out)).1,
              (y1.getD (IntKind.i64.wrap ((IntKind.i64.wrap (y0 - 1)).tdiv 2)).toNat (dflt t_impl_Out)).2.1,
              (y1.getD (IntKind.i64.wrap ((IntKind.i64.wrap (y0 - 1)).tdiv 2)).toNat (dflt t_impl_Out)).2.2.1,
              (y1.getD (IntKind.i64.wrap ((IntKind.i64.wrap (y0 - 1)).tdiv 2)).toNat (dflt t_impl_Out)).2.2.2.1,
              (y1.getD (IntKind.i64.wrap ((IntKind.i64.wrap (y0 - 1)).tdiv 2)).toNat
                        (dflt t_impl_Out)).2.2.2.2)).length :
      Int))) (
                     cond (decide
  ((IntKind.i64.wrap ((IntKind.i64.wrap (y0 - 1)).tdiv 2)).toNat <
    (y1.set y0.toNat
        ((y1.getD (IntKind.i64.wrap ((IntKind.i64.wrap (y0 - 1)).tdiv 2)).toNat (dflt t_impl_Out)).1,
          (y1.getD (IntKind.i64.wrap ((IntKind.i64.wrap (y0 - 1)).tdiv 2)).toNat (dflt t_impl_Out)).2.1,
          (y1.getD (IntKind.i64.wrap ((IntKind.i64.wrap (y0 - 1)).tdiv 2)).toNat (dflt t_impl_Out)).2.2.1,
          (y1.getD (IntKind.i64.wrap ((IntKind.i64.wrap (y0 - 1)).tdiv 2)).toNat (dflt t_impl_Out)).2.2.2.1,
          (y1.getD (IntKind.i64.wrap ((IntKind.i64.wrap (y0 - 1)).tdiv 2)).toNat (dflt t_impl_Out)).2.2.2.2)).length)) (impl_heap_impl_Out_push_h0_3 k j (IntKind.i64.wrap ((IntKind.i64.wrap (y0 - 1)).tdiv 2)) ((y1.set y0.toNat
      ((y1.getD (IntKind.i64.wrap ((IntKind.i64.wrap (y0 - 1)).tdiv 2)).toNat (dflt t_impl_Out)).1,
        (y1.getD (IntKind.i64.wrap ((IntKind.i64.wrap (y0 - 1)).tdiv 2)).toNat (dflt t_impl_Out)).2.1,
        (y1.getD (IntKind.i64.wrap ((IntKind.i64.wrap (y0 - 1)).tdiv 2)).toNat (dflt t_impl_Out)).2.2.1,
        (y1.getD (IntKind.i64.wrap ((IntKind.i64.wrap (y0 - 1)).tdiv 2)).toNat (dflt t_impl_Out)).2.2.2.1,
        (y1.getD (IntKind.i64.wrap ((IntKind.i64.wrap (y0 - 1)).tdiv 2)).toNat (dflt t_impl_Out)).2.2.2.2)).set
  (IntKind.i64.wrap ((IntKind.i64.wrap (y0 - 1)).tdiv 2)).toNat
  ((y1.getD y0.toNat (dflt t_impl_Out)).1, (y1.getD y0.toNat (dflt t_impl_Out)).2.1, (y1.getD y0.toNat (dflt t_impl_Out)).2.2.1,
    (y1.getD y0.toNat (dflt t_impl_Out)).2.2.2.1, (y1.getD y0.toNat (dflt t_impl_Out)).2.2.2.2))) (none)) (none)) (none)) (none)) (none)) (none)) (none)) (none)) (none)) (none)) (none)) (none))) (none)) (none)) (none)) (none)) (none)) (none)) (some (((), (y1, (), ()), ()))) := by kernel_rfl

noncomputable def impl_heap_impl_Out_pop_h0 (k : Nat) (y0 : List V_impl_Out) : Option (((V_int × (V_int × (V_int × (V_int × V_int)))) × ((List V_impl_Out × (Unit × Unit)) × Unit))) := evalT E k 74 (.pair (.pair t_int (.pair t_int (.pair t_int (.pair t_int t_int)))) (.pair (.pair (.ow 35 t_impl_Out) (.pair (.fnc 23) .unit)) .unit)) [.c (.p 0 0)] [some (.box 83 [.o 1, .fn 23 []]), some (.own 35 t_impl_Out y0)]
noncomputable def impl_heap_impl_Out_pop_h0_6 (k : Nat) (j : Nat) (y0 : Int) (y1 : Int) (y2 : V_impl_Out) (y3 : V_impl_Out) (y4 : List V_impl_Out) : Option (((V_int × (V_int × (V_int × (V_int × V_int)))) × ((List V_impl_Out × (Unit × Unit)) × Unit))) := loopAt E 74 (.pair (.pair t_int (.pair t_int (.pair t_int (.pair t_int t_int)))) (.pair (.pair (.ow 35 t_impl_Out) (.pair (.fnc 23) .unit)) .unit)) [true, true, true, true, true, true, false] [some (.box 83 [.undef, .undef]), none] [] k [] j (mkS 123 [(0, .c (.p 0 0)), (2, .c (.p 1 0)), (3, .c (.p 2 0)), (4, .c (.int .i64 y0)), (5, .c (.int .i64 y1))]) [some (.box 83 [.o 3, .fn 23 []]), some (.box 35 (cells t_impl_Out y2)), some (.box 35 (cells t_impl_Out y3)), some (.own 35 t_impl_Out y4)]
theorem impl_heap_impl_Out_pop_h0_eq (k : Nat) (y0 : List V_impl_Out) : impl_heap_impl_Out_pop_h0 (k + 1) y0 = 
 cond (decide (0 < (↑y0.length : Int))) (
  cond (decide (Int.toNat 0 < y0.length)) (
   cond (decide (0 ≤ IntKind.i64.wrap ((↑y0.length : Int) - 1))) (
    cond (decide (IntKind.i64.wrap ((↑y0.length : Int) - 1) < (↑y0.length : Int))) (
     cond (decide ((IntKind.i64.wrap ((↑y0.length : Int) - 1)).toNat < y0.length)) (
      cond (decide (0 < (↑y0.length : Int))) (
       cond (decide (Int.toNat 0 < y0.length)) (
        cond (decide (0 ≤ IntKind.i64.wrap ((↑y0.length : Int) - 1))) (
         cond (decide
  (IntKind.i64.wrap ((↑y0.length : Int) - 1) ≤
    (↑(y0.set (Int.toNat 0)
            ((y0.getD (IntKind.i64.wrap ((↑y0.length : Int) - 1)).toNat (dflt t_impl_Out)).1,
              (y0.getD (IntKind.i64.wrap ((↑y0.length : Int) - 1)).toNat (dflt t_impl_Out)).2.1,
              (y0.getD (IntKind.i64.wrap ((↑y0.length : Int) - 1)).toNat (dflt t_impl_Out)).2.2.1,
              (y0.getD (IntKind.i64.wrap ((↑y0.length : Int) - 1)).toNat (dflt t_impl_Out)).2.2.2.1,
              (y0.getD (IntKind.i64.wrap ((↑y0.length : Int) - 1)).toNat (dflt t_impl_Out)).2.2.2.2)).length :
      Int))) (impl_heap_impl_Out_pop_h0_6 k k (IntKind.i64.wrap ((↑y0.length : Int) - 1)) 0 ((0, (0, (0, (0, 0))))) (y0.getD (Int.toNat 0) (dflt t_impl_Out)) (List.take (IntKind.i64.wrap ((↑y0.length : Int) - 1)).toNat
  (y0.set (Int.toNat 0)
    ((y0.getD (IntKind.i64.wrap ((↑y0.length : Int) - 1)).toNat (dflt t_impl_Out)).1,
      (y0.getD (IntKind.i64.wrap ((↑y0.length : Int) - 1)).toNat (dflt t_impl_Out)).2.1,
      (y0.getD (IntKind.i64.wrap ((↑y0.length : Int) - 1)).toNat (dflt t_impl_Out)).2.2.1,
      (y0.getD (IntKind.i64.wrap ((↑y0.length : Int) - 1)).toNat (dflt t_impl_Out)).2.2.2.1,
      (y0.getD (IntKind.i64.wrap ((↑y0.length : Int) - 1)).toNat (dflt t_impl_Out)).2.2.2.2)))) (none)) (none)) (none)) (none)) (none)) (none)) (none)) (none)) (none) := by kernel_rfl
theorem impl_heap_impl_Out_pop_h0_6_eq (k : Nat) (j : Nat) (y0 : Int) (y1 : Int) (y2 : V_impl_Out) (y3 : V_impl_Out) (y4 : List V_impl_Out) : impl_heap_impl_Out_pop_h0_6 k (j + 1) y0 y1 y2 y3 y4 = 
 cond (decide (IntKind.i64.wrap (IntKind.i64.wrap (2 * y1) + 1) ≥ y0)) (some (((y3.1, y3.2.1, y3.2.2.1, y3.2.2.2.1, y3.2.2.2.2), (y4, (), ()), ()))) (
  cond (decide (IntKind.i64.wrap (IntKind.i64.wrap (IntKind.i64.wrap (2 * y1) + 1) + 1) < y0)) (
   cond (decide (0 ≤ IntKind.i64.wrap (IntKind.i64.wrap (IntKind.i64.wrap (2 * y1) + 1) + 1))) (
    cond (decide (IntKind.i64.wrap (IntKind.i64.wrap (IntKind.i64.wrap (2 * y1) + 1) + 1) < (↑y4.length : Int))) (
     cond (decide ((IntKind.i64.wrap (IntKind.i64.wrap (IntKind.i64.wrap (2 * y1) + 1) + 1)).toNat < y4.length)) (
      cond (decide (0 ≤ IntKind.i64.wrap (IntKind.i64.wrap (2 * y1) + 1))) (
       cond (decide (IntKind.i64.wrap (IntKind.i64.wrap (2 * y1) + 1) < (↑y4.length : Int))) (
        cond (decide ((IntKind.i64.wrap (IntKind.i64.wrap (2 * y1) + 1)).toNat < y4.length)) (
         (impl_OutLess k (y4.getD (IntKind.i64.wrap (IntKind.i64.wrap (IntKind.i64.wrap (2 * y1) + 1) + 1)).toNat (dflt t_impl_Out)) (y4.getD (IntKind.i64.wrap (IntKind.i64.wrap (2 * y1) + 1)).toNat (dflt t_impl_Out))).bind fun x0 => 
          cond (x0) (
           cond (decide (0 ≤ IntKind.i64.wrap (IntKind.i64.wrap (IntKind.i64.wrap (2 * y1) + 1) + 1))) (
            cond (decide (IntKind.i64.wrap (IntKind.i64.wrap (IntKind.i64.wrap (2 * y1) + 1) + 1) < (↑y4.length : Int))) (
             cond (decide ((IntKind.i64.wrap (IntKind.i64.wrap (IntKind.i64.wrap (2 * y1) + 1) + 1)).toNat < y4.length)) (
              cond (decide (0 ≤ y1)) (
               cond (decide (y1 < (↑y4.length : Int))) (
                cond (decide (y1.toNat < y4.length)) (
                 (impl_OutLess k (y4.getD (IntKind.i64.wrap (IntKind.i64.wrap (IntKind.i64.wrap (2 * y1) + 1) + 1)).toNat (dflt t_impl_Out)) (y4.getD y1.toNat (dflt t_impl_Out))).bind fun x1 => 
                  cond (!x1) (some (((y3.1, y3.2.1, y3.2.2.1, y3.2.2.2.1, y3.2.2.2.2), (y4, (), ()), ()))) (
                   cond (decide (0 ≤ IntKind.i64.wrap (IntKind.i64.wrap (IntKind.i64.wrap (2 * y1) + 1) + 1))) (
                    cond (decide (IntKind.i64.wrap (IntKind.i64.wrap (IntKind.i64.wrap (2 * y1) + 1) + 1) < (↑y4.length : Int))) (
                     cond (decide ((IntKind.i64.wrap (IntKind.i64.wrap (IntKind.i64.wrap (2 * y1) + 1) + 1)).toNat < y4.length)) (
                      cond (decide (0 ≤ y1)) (
                       cond (decide (y1 < (↑y4.length : Int))) (
                        cond (decide (y1.toNat < y4.length)) (
                         cond (decide (0 ≤ y1)) (
                          cond (decide (y1 < (↑y4.length : Int))) (
                           cond (decide (y1.toNat < y4.length)) (
                            cond (decide (0 ≤ IntKind.i64.wrap (IntKind.i64.wrap (IntKind.i64.wrap (2 * y1) + 1) + 1))) (
                             cond (decide
  (IntKind.i64.wrap (IntKind.i64.wrap (IntKind.i64.wrap (2 * y1) + 1) + 1) <
    (↑(y4.set y1.toNat
            ((y4.getD (IntKind.i64.wrap (IntKind.i64.wrap (IntKind.i64.wrap (2 * y1) + 1) + 1)).toNat (dflt t_impl_Out)).1,
              (y4.getD (IntKind.i64.wrap (IntKind.i64.wrap (IntKind.i64.wrap (2 * y1) + 1) + 1)).toNat
                    (dflt t_impl_Out)).2.1,
              (y4.getD (IntKind.i64.wrap (IntKind.i64.wrap (IntKind.i64.wrap (2 * y1) + 1) + 1)).toNat
                      (dflt t_impl_Out)).2.2.1,
              (y4.getD (IntKind.i64.wrap (IntKind.i64.wrap (IntKind.i64.wrap (2 * y1) + 1) + 1)).toNat
                        (dflt t_impl_Out)).2.2.2.1,
              (y4.getD (IntKind.i64.wrap (IntKind.i64.wrap (IntKind.i64.wrap (2 * y1) + 1) + 1)).toNat
                        (dflt t_impl_Out)).2.2.2.2)).length :
      Int))) (
                              cond (decide
  ((IntKind.i64.wrap (IntKind.i64.wrap (IntKind.i64.wrap (2 * y1) + 1) + 1)).toNat <
    (y4.set y1.toNat
        ((y4.getD (IntKind.i64.wrap (IntKind.i64.wrap (IntKind.i64.wrap (2 * y1) + 1) + 1)).toNat (dflt t_impl_Out)).1,
          (y4.getD (IntKind.i64.wrap (IntKind.i64.wrap (IntKind.i64.wrap (2 * y1) + 1) + 1)).toNat (dflt t_impl_Out)).2.1,
          (y4.getD (IntKind.i64.wrap (IntKind.i64.wrap (IntKind.i64.wrap (2 * y1) + 1) + 1)).toNat
                  (dflt t_impl_Out)).2.2.1,
          (y4.getD (IntKind.i64.wrap (IntKind.i64.wrap (IntKind.i64.wrap (2 * y1) + 1) + 1)).toNat
                    (dflt t_impl_Out)).2.2.2.1,
          (y4.getD (IntKind.i64.wrap (IntKind.i64.wrap (IntKind.i64.wrap (2 * y1) + 1) + 1)).toNat
                    (dflt t_impl_Out)).2.2.2.2)).length)) (impl_heap_impl_Out_pop_h0_6 k j y0 (IntKind.i64.wrap (IntKind.i64.wrap (IntKind.i64.wrap (2 * y1) + 1) + 1)) y2 y3 ((y4.set y1.toNat
      ((y4.getD (IntKind.i64.wrap (IntKind.i64.wrap (IntKind.i64.wrap (2 * y1) + 1) + 1)).toNat (dflt t_impl_Out)).1,
        (y4.getD (IntKind.i64.wrap (IntKind.i64.wrap (IntKind.i64.wrap (2 * y1) + 1) + 1)).toNat (dflt t_impl_Out)).2.1,
        (y4.getD (IntKind.i64.wrap (IntKind.i64.wrap (IntKind.i64.wrap (2 * y1) + 1) + 1)).toNat
                (dflt t_impl_Out)).2.2.1,
        (y4.getD (IntKind.i64.wrap (IntKind.i64.wrap (IntKind.i64.wrap (2 * y1) + 1) + 1)).toNat
                  (dflt t_impl_Out)).2.2.2.1,
        (y4.getD (IntKind.i64.wrap (IntKind.i64.wrap (IntKind.i64.wrap (2 * y1) + 1) + 1)).toNat
                  (dflt t_impl_Out)).2.2.2.2)).set
  (IntKind.i64.wrap (IntKind.i64.wrap (IntKind.i64.wrap (2 * y1) + 1) + 1)).toNat
  ((y4.getD y1.toNat (dflt t_impl_Out)).1, (y4.getD y1.toNat (dflt t_impl_Out)).2.1, (y4.getD y1.toNat (dflt t_impl_Out)).2.2.1,
    (y4.getD y1.toNat (dflt t_impl_Out)).2.2.2.1, (y4.getD y1.toNat (dflt t_impl_Out)).2.2.2.2))) (none)) (none)) (none)) (none)) (none)) (none)) (none)) (none)) (none)) (none)) (none)) (none))) (none)) (none)) (none)) (none)) (none)) (none)) (
           cond (decide (0 ≤ IntKind.i64.wrap (IntKind.i64.wrap (2 * y1) + 1))) (
            cond (decide (IntKind.i64.wrap (IntKind.i64.wrap (2 * y1) + 1) < (↑y4.length : Int))) (
             cond (decide ((IntKind.i64.wrap (IntKind.i64.wrap (2 * y1) + 1)).toNat < y4.length)) (
              cond (decide (0 ≤ y1)) (
               cond (decide (y1 < (↑y4.length : Int))) (
                cond (decide (y1.toNat < y4.length)) (
                 (impl_OutLess k (y4.getD (IntKind.i64.wrap (IntKind.i64.wrap (2 * y1) + 1)).toNat (dflt t_impl_Out)) (y4.getD y1.toNat (dflt t_impl_Out))).bind fun x2 => 
                  cond (!x2) (some (((y3.1, y3.2.1, y3.2.2.1, y3.2.2.2.1, y3.2.2.2.2), (y4, (), ()), ()))) (
                   cond (decide (0 ≤ IntKind.i64.wrap (IntKind.i64.wrap (2 * y1) + 1))) (
                    cond (decide (IntKind.i64.wrap (IntKind.i64.wrap (2 * y1) + 1) < (↑y4.length : Int))) (
                     cond (decide ((IntKind.i64.wrap (IntKind.i64.wrap (2 * y1) + 1)).toNat < y4.length)) (
                      cond (decide (0 ≤ y1)) (
                       cond (decide (y1 < (↑y4.length : Int))) (
                        cond (decide (y1.toNat < y4.length)) (
                         cond (decide (0 ≤ y1)) (
                          cond (decide (y1 < (↑y4.length : Int))) (
                           cond (decide (y1.toNat < y4.length)) (
                            cond (decide (0 ≤ IntKind.i64.wrap (IntKind.i64.wrap (2 * y1) + 1))) (
                             cond (decide
  (IntKind.i64.wrap (IntKind.i64.wrap (2 * y1) + 1) <
    (↑(y4.set y1.toNat
            ((y4.getD (IntKind.i64.wrap (IntKind.i64.wrap (2 * y1) + 1)).toNat (dflt t_impl_Out)).1,
              (y4.getD (IntKind.i64.wrap (IntKind.i64.wrap (2 * y1) + 1)).toNat (dflt t_impl_Out)).2.1,
              (y4.getD (IntKind.i64.wrap (IntKind.i64.wrap (2 * y1) + 1)).toNat (dflt t_impl_Out)).2.2.1,
              (y4.getD (IntKind.i64.wrap (IntKind.i64.wrap (2 * y1) + 1)).toNat (dflt t_impl_Out)).2.2.2.1,
              (y4.getD (IntKind.i64.wrap (IntKind.i64.wrap (2 * y1) + 1)).toNat (dflt t_impl_Out)).2.2.2.2)).length :
      Int))) (
                              cond (decide
  ((IntKind.i64.wrap (IntKind.i64.wrap (2 * y1) + 1)).toNat <
    (y4.set y1.toNat
        ((y4.getD (IntKind.i64.wrap (IntKind.i64.wrap (2 * y1) + 1)).toNat (dflt t_impl_Out)).1,
          (y4.getD (IntKind.i64.wrap (IntKind.i64.wrap (2 * y1) + 1)).toNat (dflt t_impl_Out)).2.1,
          (y4.getD (IntKind.i64.wrap (IntKind.i64.wrap (2 * y1) + 1)).toNat (dflt t_impl_Out)).2.2.1,
          (y4.getD (IntKind.i64.wrap (IntKind.i64.wrap (2 * y1) + 1)).toNat (dflt t_impl_Out)).2.2.2.1,
          (y4.getD (IntKind.i64.wrap (IntKind.i64.wrap (2 * y1) + 1)).toNat (dflt t_impl_Out)).2.2.2.2)).length)) (impl_heap_impl_Out_pop_h0_6 k j y0 (IntKind.i64.wrap (IntKind.i64.wrap (2 * y1) + 1)) y2 y3 ((y4.set y1.toNat
      ((y4.getD (IntKind.i64.wrap (IntKind.i64.wrap (2 * y1) + 1)).toNat (dflt t_impl_Out)).1,
        (y4.getD (IntKind.i64.wrap (IntKind.i64.wrap (2 * y1) + 1)).toNat (dflt t_impl_Out)).2.1,
        (y4.getD (IntKind.i64.wrap (IntKind.i64.wrap (2 * y1) + 1)).toNat (dflt t_impl_Out)).2.2.1,
        (y4.getD (IntKind.i64.wrap (IntKind.i64.wrap (2 * y1) + 1)).toNat (dflt t_impl_Out)).2.2.2.1,
        (y4.getD (IntKind.i64.wrap (IntKind.i64.wrap (2 * y1) + 1)).toNat (dflt t_impl_Out)).2.2.2.2)).set
  (IntKind.i64.wrap (IntKind.i64.wrap (2 * y1) + 1)).toNat
  ((y4.getD y1.toNat (dflt t_impl_Out)).1, (y4.getD y1.toNat (dflt t_impl_Out)).2.1, (y4.getD y1.toNat (dflt t_impl_Out)).2.2.1,
    (y4.getD y1.toNat (dflt t_impl_Out)).2.2.2.1, (y4.getD y1.toNat (dflt t_impl_Out)).2.2.2.2))) (none)) (none)) (none)) (none)) (none)) (none)) (none)) (none)) (none)) (none)) (none)) (none))) (none)) (none)) (none)) (none)) (none)) (none))) (none)) (none)) (none)) (none)) (none)) (none)) (
   cond (decide (0 ≤ IntKind.i64.wrap (IntKind.i64.wrap (2 * y1) + 1))) (
    cond (decide (IntKind.i64.wrap (IntKind.i64.wrap (2 * y1) + 1) < (↑y4.length : Int))) (
     cond (decide ((IntKind.i64.wrap (IntKind.i64.wrap (2 * y1) + 1)).toNat < y4.length)) (
      cond (decide (0 ≤ y1)) (
       cond (decide (y1 < (↑y4.length : Int))) (
        cond (decide (y1.toNat < y4.length)) (
         (impl_OutLess k (y4.getD (IntKind.i64.wrap (IntKind.i64.wrap (2 * y1) + 1)).toNat (dflt t_impl_Out)) (y4.getD y1.toNat (dflt t_impl_Out))).bind fun x3 => 
          cond (!x3) (some (((y3.1, y3.2.1, y3.2.2.1, y3.2.2.2.1, y3.2.2.2.2), (y4, (), ()), ()))) (
           cond (decide (0 ≤ IntKind.i64.wrap (IntKind.i64.wrap (2 * y1) + 1))) (
            cond (decide (IntKind.i64.wrap (IntKind.i64.wrap (2 * y1) + 1) < (↑y4.length : Int))) (
             cond (decide ((IntKind.i64.wrap (IntKind.i64.wrap (2 * y1) + 1)).toNat < y4.length)) (
              cond (decide (0 ≤ y1)) (
               cond (decide (y1 < (↑y4.length : Int))) (
                cond (decide (y1.toNat < y4.length)) (
                 cond (decide (0 ≤ y1)) (
                  cond (decide (y1 < (↑y4.length : Int))) (
                   cond (decide (y1.toNat < y4.length)) (
                    cond (decide (0 ≤ IntKind.i64.wrap (IntKind.i64.wrap (2 * y1) + 1))) (
                     cond (decide
  (IntKind.i64.wrap (IntKind.i64.wrap (2 * y1) + 1) <
    (↑(y4.set y1.toNat
            ((y4.getD (IntKind.i64.wrap (IntKind.i64.wrap (2 * y1) + 1)).toNat (dflt t_impl_Out)).1,
              (y4.getD (IntKind.i64.wrap (IntKind.i64.wrap (2 * y1) + 1)).toNat (dflt t_impl_Out)).2.1,
              (y4.getD (IntKind.i64.wrap (IntKind.i64.wrap (2 * y1) + 1)).toNat (dflt t_impl_Out)).2.2.1,
              (y4.getD (IntKind.i64.wrap (IntKind.i64.wrap (2 * y1) + 1)).toNat (dflt t_impl_Out)).2.2.2.1,
              (y4.getD (IntKind.i64.wrap (IntKind.i64.wrap (2 * y1) + 1)).toNat (dflt t_impl_Out)).2.2.2.2)).length :
      Int))) (
                      cond (decide
  ((IntKind.i64.wrap (IntKind.i64.wrap (2 * y1) + 1)).toNat <
    (y4.set y1.toNat
        ((y4.getD (IntKind.i64.wrap (IntKind.i64.wrap (2 * y1) + 1)).toNat (dflt t_impl_Out)).1,
          (y4.getD (IntKind.i64.wrap (IntKind.i64.wrap (2 * y1) + 1)).toNat (dflt t_impl_Out)).2.1,
          (y4.getD (IntKind.i64.wrap (IntKind.i64.wrap (2 * y1) + 1)).toNat (dflt t_impl_Out)).2.2.1,
          (y4.getD (IntKind.i64.wrap (IntKind.i64.wrap (2 * y1) + 1)).toNat (dflt t_impl_Out)).2.2.2.1,
          (y4.getD (IntKind.i64.wrap (IntKind.i64.wrap (2 * y1) + 1)).toNat (dflt t_impl_Out)).2.2.2.2)).length)) (impl_heap_impl_Out_pop_h0_6 k j y0 (IntKind.i64.wrap (IntKind.i64.wrap (2 * y1) + 1)) y2 y3 ((y4.set y1.toNat
      ((y4.getD (IntKind.i64.wrap (IntKind.i64.wrap (2 * y1) + 1)).toNat (dflt t_impl_Out)).1,
        (y4.getD (IntKind.i64.wrap (IntKind.i64.wrap (2 * y1) + 1)).toNat (dflt t_impl_Out)).2.1,
        (y4.getD (IntKind.i64.wrap (IntKind.i64.wrap (2 * y1) + 1)).toNat (dflt t_impl_Out)).2.2.1,
        (y4.getD (IntKind.i64.wrap (IntKind.i64.wrap (2 * y1) + 1)).toNat (dflt t_impl_Out)).2.2.2.1,
        (y4.getD (IntKind.i64.wrap (IntKind.i64.wrap (2 * y1) + 1)).toNat (dflt t_impl_Out)).2.2.2.2)).set
  (IntKind.i64.wrap (IntKind.i64.wrap (2 * y1) + 1)).toNat
  ((y4.getD y1.toNat (dflt t_impl_Out)).1, (y4.getD y1.toNat (dflt t_impl_Out)).2.1, (y4.getD y1.toNat (dflt t_impl_Out)).2.2.1,
    (y4.getD y1.toNat (dflt t_impl_Out)).2.2.2.1, (y4.getD y1.toNat (dflt t_impl_Out)).2.2.2.2))) (none)) (none)) (none)) (none)) (none)) (none)) (none)) (none)) (none)) (none)) (none)) (none))) (none)) (none)) (none)) (none)) (none)) (none))) := by kernel_rfl

noncomputable def impl_heap_impl_Out_drain_h0 (k : Nat) (y0 : List V_impl_Out) : Option ((List V_impl_Out × ((List V_impl_Out × (Unit × Unit)) × Unit))) := evalT E k 59 (.pair (.ow 35 t_impl_Out) (.pair (.pair (.ow 35 t_impl_Out) (.pair (.fnc 23) .unit)) .unit)) [.c (.p 0 0)] [some (.box 83 [.o 1, .fn 23 []]), some (.own 35 t_impl_Out y0)]
noncomputable def impl_heap_impl_Out_drain_h0_2 (k : Nat) (j : Nat) (y0 : List V_impl_Out) (y1 : List V_impl_Out) : Option ((List V_impl_Out × ((List V_impl_Out × (Unit × Unit)) × Unit))) := loopAt E 59 (.pair (.ow 35 t_impl_Out) (.pair (.pair (.ow 35 t_impl_Out) (.pair (.fnc 23) .unit)) .unit)) [true, true, false, false] [some (.box 83 [.undef, .undef]), none] [] k [] j (mkS 22 [(0, .c (.p 0 0)), (3, .c (.o 1))]) [some (.box 83 [.o 2, .fn 23 []]), some (.own 35 t_impl_Out y0), some (.own 35 t_impl_Out y1)]
theorem impl_heap_impl_Out_drain_h0_eq (k : Nat) (y0 : List V_impl_Out) : impl_heap_impl_Out_drain_h0 (k + 1) y0 = 
 cond (decide ((↑y0.length : Int).toNat * 40 ≤ 140737488351232)) (impl_heap_impl_Out_drain_h0_2 k k (List.replicate (Int.toNat 0) (dflt t_impl_Out)) y0) (none) := by kernel_rfl
theorem impl_heap_impl_Out_drain_h0_2_eq (k : Nat) (j : Nat) (y0 : List V_impl_Out) (y1 : List V_impl_Out) : impl_heap_impl_Out_drain_h0_2 k (j + 1) y0 y1 = 
 cond (decide ((↑y1.length : Int) > 0)) (
  (impl_heap_impl_Out_pop_h0 k y1).bind fun x0 => 
   cond (decide
  ((y0.length +
        [(x0.1.1, x0.1.2.1, x0.1.2.2.1, x0.1.2.2.2.1, x0.1.2.2.2.2)].length) *
      40 ≤
    140737488351232)) (impl_heap_impl_Out_drain_h0_2 k j (y0 ++ [(x0.1.1, x0.1.2.1, x0.1.2.2.1, x0.1.2.2.2.1, x0.1.2.2.2.2)]) x0.2.1.1) (none)) (some ((y0, (y1, (), ()), ()))) := by kernel_rfl

noncomputable def impl_OutSort (k : Nat) (a0 : V_sl_impl_Out) : Option (List V_impl_Out) := evalT E k 36 (.ow 35 t_impl_Out) [inp t_sl_impl_Out a0] []
noncomputable def impl_OutSort_3 (k : Nat) (j : Nat) (y0 : List V_impl_Out) (y1 : Int) (y2 : Int) (y3 : List V_impl_Out) : Option (List V_impl_Out) := loopAt E 36 (.ow 35 t_impl_Out) [true, true, false, true, false] [] [] k [] j (mkS 17 [(3, .c (.p 0 0)), (7, .c (.sl 35 t_impl_Out y0)), (8, .c (.int .i64 y1)), (9, .c (.int .i64 y2))]) [some (.box 83 [.o 1, .fn 23 []]), some (.own 35 t_impl_Out y3)]
theorem impl_OutSort_eq (k : Nat) (a0 : V_sl_impl_Out) : impl_OutSort (k + 1) a0 = impl_OutSort_3 k k a0 ((↑(List.length a0) : Int)) 0 [] := by kernel_rfl
theorem impl_OutSort_3_eq (k : Nat) (j : Nat) (y0 : List V_impl_Out) (y1 : Int) (y2 : Int) (y3 : List V_impl_Out) : impl_OutSort_3 k (j + 1) y0 y1 y2 y3 = 
 cond (decide (y2 < y1)) (
  cond (decide (0 ≤ y2)) (
   cond (decide (y2 < (↑y0.length : Int))) (
    (impl_heap_impl_Out_push_h0 k (y0.getD y2.toNat (dflt t_impl_Out)) y3).bind fun x0 => impl_OutSort_3 k j y0 y1 (IntKind.i64.wrap (y2 + 1)) x0.2.1.1) (none)) (none)) (
  (impl_heap_impl_Out_drain_h0 k y3).bind fun x1 => some x1.1) := by kernel_rfl

noncomputable def laws_ltOuts (k : Nat) (a0 : V_sl_impl_Out) (a1 : V_sl_impl_Out) : Option V_bool := evalT E k 37 t_bool [inp t_sl_impl_Out a0, inp t_sl_impl_Out a1] []
noncomputable def laws_ltOuts_4 (k : Nat) (j : Nat) (y0 : List V_impl_Out) (y1 : List V_impl_Out) (y2 : Int) : Option V_bool := loopAt E 37 t_bool [true, true, false, true, false] [] [] k [] j (mkS 26 [(0, .c (.sl 35 t_impl_Out y0)), (1, .c (.sl 35 t_impl_Out y1)), (5, .c (.int .i64 y2))]) []
theorem laws_ltOuts_eq (k : Nat) (a0 : V_sl_impl_Out) (a1 : V_sl_impl_Out) : laws_ltOuts (k + 1) a0 a1 = 
 cond ((↑(List.length a0) : Int) != (↑(List.length a1) : Int)) (some false) (laws_ltOuts_4 k k a0 a1 0) := by kernel_rfl
theorem laws_ltOuts_4_eq (k : Nat) (j : Nat) (y0 : List V_impl_Out) (y1 : List V_impl_Out) (y2 : Int) : laws_ltOuts_4 k (j + 1) y0 y1 y2 = 
 cond (decide (y2 < (↑y0.length : Int))) (
  cond (decide (0 ≤ y2)) (
   cond (decide (y2 < (↑y0.length : Int))) (
    cond (decide (0 ≤ y2)) (
     cond (decide (y2 < (↑y1.length : Int))) (
      cond (!((y0.getD y2.toNat (dflt t_impl_Out)).1 == (y1.getD y2.toNat (dflt t_impl_Out)).1 &&
    ((y0.getD y2.toNat (dflt t_impl_Out)).2.1 == (y1.getD y2.toNat (dflt t_impl_Out)).2.1 &&
      ((y0.getD y2.toNat (dflt t_impl_Out)).2.2.1 == (y1.getD y2.toNat (dflt t_impl_Out)).2.2.1 &&
        ((y0.getD y2.toNat (dflt t_impl_Out)).2.2.2.1 == (y1.getD y2.toNat (dflt t_impl_Out)).2.2.2.1 &&
          ((y0.getD y2.toNat (dflt t_impl_Out)).2.2.2.2 == (y1.getD y2.toNat (dflt t_impl_Out)).2.2.2.2 && true)))))) (some false) (laws_ltOuts_4 k j y0 y1 (IntKind.i64.wrap (y2 + 1)))) (none)) (none)) (none)) (none)) (some true) := by kernel_rfl

noncomputable def laws_FnOutSort (k : Nat) (a0 : V_sl_uint8) : Option V_bool := evalT E k 12 t_bool [inp t_sl_uint8 a0] []
noncomputable def laws_FnOutSort_10 (k : Nat) (j : Nat) (y0 : Int) (y1 : List V_impl_Out) (y2 : List V_impl_Out) (y3 : List V_impl_Out) : Option V_bool := loopAt E 12 t_bool [true, true, true, true, true, true, true, false, true, false] [] [] k [] j (mkS 64 [(3, .c (.o 0)), (5, .c (.o 1)), (6, .c (.o 2)), (7, .c (.int .i64 y0))]) [some (.own 35 t_impl_Out y1), some (.own 35 t_impl_Out y2), some (.own 35 t_impl_Out y3)]
noncomputable def laws_FnOutSort_14 (k : Nat) (j : Nat) (y0 : Int) (y1 : List V_impl_Out) (y2 : List V_impl_Out) : Option V_bool := loopAt E 12 t_bool [true, true, true, true, true, true, true, true, false, true, false] [] [] k [] j (mkS 64 [(5, .c (.o 0)), (6, .c (.o 1)), (8, .c (.int .i64 y0))]) [some (.own 35 t_impl_Out y1), some (.own 35 t_impl_Out y2)]
theorem laws_FnOutSort_eq (k : Nat) (a0 : V_sl_uint8) : laws_FnOutSort (k + 1) a0 = 
 cond (decide ((↑(List.length a0) : Int) > 1048576)) (some true) (
  (spec_DrawOutSort k a0).bind fun x0 => 
   (spec_OutSort k x0).bind fun x1 => 
    (impl_OutSort k x0).bind fun x2 => 
     (laws_ltOuts k x2 x1).bind fun x3 => 
      cond (!x3) (some false) (
       cond ((↑(List.length x2) : Int) != (↑(List.length x0) : Int)) (some false) (laws_FnOutSort_10 k k (IntKind.i64.wrap ((↑(List.length x0) : Int) - 1)) x0 x2 []))) := by kernel_rfl
theorem laws_FnOutSort_10_eq (k : Nat) (j : Nat) (y0 : Int) (y1 : List V_impl_Out) (y2 : List V_impl_Out) (y3 : List V_impl_Out) : laws_FnOutSort_10 k (j + 1) y0 y1 y2 y3 = 
 cond (decide (y0 ≥ 0)) (
  cond (decide (0 ≤ y0)) (
   cond (decide (y0 < (↑y1.length : Int))) (
    cond (decide (y0.toNat < y1.length)) (
     cond (decide
  ((y3.length +
        [((y1.getD y0.toNat (dflt t_impl_Out)).1, (y1.getD y0.toNat (dflt t_impl_Out)).2.1,
              (y1.getD y0.toNat (dflt t_impl_Out)).2.2.1, (y1.getD y0.toNat (dflt t_impl_Out)).2.2.2.1,
              (y1.getD y0.toNat (dflt t_impl_Out)).2.2.2.2)].length) *
      40 ≤
    140737488351232)) (laws_FnOutSort_10 k j (IntKind.i64.wrap (y0 - 1)) y1 y2 (y3 ++
  [((y1.getD y0.toNat (dflt t_impl_Out)).1, (y1.getD y0.toNat (dflt t_impl_Out)).2.1, (y1.getD y0.toNat (dflt t_impl_Out)).2.2.1,
      (y1.getD y0.toNat (dflt t_impl_Out)).2.2.2.1, (y1.getD y0.toNat (dflt t_impl_Out)).2.2.2.2)])) (none)) (none)) (none)) (none)) (laws_FnOutSort_14 k k 1 y2 y3) := by kernel_rfl
theorem laws_FnOutSort_14_eq (k : Nat) (j : Nat) (y0 : Int) (y1 : List V_impl_Out) (y2 : List V_impl_Out) : laws_FnOutSort_14 k (j + 1) y0 y1 y2 = 
 cond (decide (y0 < (↑y1.length : Int))) (
  cond (decide (0 ≤ y0)) (
   cond (decide (y0 < (↑y1.length : Int))) (
    cond (decide (y0.toNat < y1.length)) (
     cond (decide (0 ≤ IntKind.i64.wrap (y0 - 1))) (
      cond (decide (IntKind.i64.wrap (y0 - 1) < (↑y1.length : Int))) (
       cond (decide ((IntKind.i64.wrap (y0 - 1)).toNat < y1.length)) (
        (impl_OutLess k (y1.getD y0.toNat (dflt t_impl_Out)) (y1.getD (IntKind.i64.wrap (y0 - 1)).toNat (dflt t_impl_Out))).bind fun x0 => 
         cond (x0) (some false) (laws_FnOutSort_14 k j (IntKind.i64.wrap (y0 + 1)) y1 y2)) (none)) (none)) (none)) (none)) (none)) (none)) (
  (impl_OutSort k y2).bind fun x1 => 
   (laws_ltOuts k x1 y1).bind fun x2 => some x2) := by kernel_rfl
def Goal : Prop := ∀ (a0 : V_sl_uint8), Go.Sx.Good t_sl_uint8 a0 → ∃ k, laws_FnOutSort k a0 = some true
end Go.Proofs.Ytbgibmngijomfaa.SFnOutSort
