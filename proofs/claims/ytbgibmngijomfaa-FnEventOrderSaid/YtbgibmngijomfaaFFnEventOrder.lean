/- What each function of the program answers: one step of the plain machine, by the kernel. -/
import Derived.Test.YtbgibmngijomfaaEFnEventOrder
set_option linter.unusedVariables false
set_option maxRecDepth 1000000
set_option maxHeartbeats 0
namespace Go.Proofs.Ytbgibmngijomfaa.SFnEventOrder
open Go Go.Sx Go.Proofs
noncomputable def spec_l6Open (k : Nat) (a0 : V_sl_uint8) : Option V_spec_l6Rd := evalT E k 48 (.bx 99 t_spec_l6Rd) [inp t_sl_uint8 a0] []
theorem spec_l6Open_eq (k : Nat) (a0 : V_sl_uint8) : spec_l6Open (k + 1) a0 = 
 cond (decide ((↑(List.length a0) : Int) > 2000)) (
  cond (decide (2000 ≤ (↑(List.length a0) : Int))) (some ((List.drop (Int.toNat 0) (List.take (Int.toNat 2000) a0), 0))) (none)) (some (a0, 0)) := by kernel_rfl

noncomputable def spec_l6Rd_pick_h0 (k : Nat) (y0 : V_int) (y1 : V_spec_l6Rd) : Option ((V_int × ((List V_uint8 × (Int × Unit)) × Unit))) := evalT E k 49 (.pair t_int (.pair (.pair (.sl 5 t_uint8) (.pair (.int .i64) .unit)) .unit)) [.c (.p 0 0), inp t_int y0] [some (.box 99 (cells t_spec_l6Rd y1))]
theorem spec_l6Rd_pick_h0_eq (k : Nat) (y0 : V_int) (y1 : V_spec_l6Rd) : spec_l6Rd_pick_h0 (k + 1) y0 y1 = 
 cond (decide (y0 < 1)) (some ((0, (y1.1, IntKind.i64.wrap (y1.2 + 1), ()), ()))) (
  cond ((↑(List.length y1.1) : Int) == 0) (some ((0, (y1.1, IntKind.i64.wrap (y1.2 + 1), ()), ()))) (
   cond (decide (IntKind.i64.wrap (IntKind.i64.wrap (y1.2 + 1) - 1) < (↑(List.length y1.1) : Int))) (
    cond (decide (0 ≤ IntKind.i64.wrap (IntKind.i64.wrap (y1.2 + 1) - 1))) (
     cond (decide (IntKind.i64.wrap (IntKind.i64.wrap (y1.2 + 1) - 1) < (↑(List.length y1.1) : Int))) (
      cond (!decide (y0 = 0)) (some (((IntKind.i64.wrap (List.getD y1.1 (IntKind.i64.wrap (IntKind.i64.wrap (y1.2 + 1) - 1)).toNat (dflt t_uint8))).tmod y0,
  (y1.1, IntKind.i64.wrap (y1.2 + 1), ()), ()))) (none)) (none)) (none)) (
    cond (!decide ((↑(List.length y1.1) : Int) = 0)) (
     cond (decide (0 ≤ (IntKind.i64.wrap (IntKind.i64.wrap (y1.2 + 1) - 1)).tmod (↑(List.length y1.1) : Int))) (
      cond (decide
  ((IntKind.i64.wrap (IntKind.i64.wrap (y1.2 + 1) - 1)).tmod (↑(List.length y1.1) : Int) <
    (↑(List.length y1.1) : Int))) (
       cond (!decide ((↑(List.length y1.1) : Int) = 0)) (
        cond (decide
  (0 ≤
    (IntKind.i64.wrap (IntKind.i64.wrap (IntKind.i64.wrap (IntKind.i64.wrap (y1.2 + 1) - 1) * 7) + 3)).tmod
      (↑(List.length y1.1) : Int))) (
         cond (decide
  ((IntKind.i64.wrap (IntKind.i64.wrap (IntKind.i64.wrap (IntKind.i64.wrap (y1.2 + 1) - 1) * 7) + 3)).tmod
      (↑(List.length y1.1) : Int) <
    (↑(List.length y1.1) : Int))) (
          cond (!decide ((↑(List.length y1.1) : Int) = 0)) (
           cond (!decide (y0 = 0)) (some (((IntKind.i64.wrap
        (↑(BitVec.ofInt IntKind.i64.bits
                  (IntKind.i64.wrap
                    (IntKind.i64.wrap
                        (IntKind.i64.wrap
                            (IntKind.i64.wrap
                                (IntKind.i64.wrap
                                    (List.getD y1.1
                                      ((IntKind.i64.wrap (IntKind.i64.wrap (y1.2 + 1) - 1)).tmod
                                          (↑(List.length y1.1) : Int)).toNat
                                      (dflt t_uint8)) *
                                  131) +
                              IntKind.i64.wrap
                                (IntKind.i64.wrap
                                    (List.getD y1.1
                                      ((IntKind.i64.wrap
                                              (IntKind.i64.wrap
                                                  (IntKind.i64.wrap (IntKind.i64.wrap (y1.2 + 1) - 1) * 7) +
                                                3)).tmod
                                          (↑(List.length y1.1) : Int)).toNat
                                      (dflt t_uint8)) *
                                  1117)) +
                          IntKind.i64.wrap (IntKind.i64.wrap (IntKind.i64.wrap (y1.2 + 1) - 1) * 29)) +
                      IntKind.i64.wrap
                        (IntKind.i64.wrap
                            ((IntKind.i64.wrap (IntKind.i64.wrap (y1.2 + 1) - 1)).tdiv
                              (↑(List.length y1.1) : Int)) *
                          53))) ^^^
                BitVec.ofInt IntKind.i64.bits
                  (IntKind.i64.wrap
                    ((IntKind.i64.wrap
                          (IntKind.i64.wrap
                              (IntKind.i64.wrap
                                  (IntKind.i64.wrap
                                      (IntKind.i64.wrap
                                          (List.getD y1.1
                                            ((IntKind.i64.wrap (IntKind.i64.wrap (y1.2 + 1) - 1)).tmod
                                                (↑(List.length y1.1) : Int)).toNat
                                            (dflt t_uint8)) *
                                        131) +
                                    IntKind.i64.wrap
                                      (IntKind.i64.wrap
                                          (List.getD y1.1
                                            ((IntKind.i64.wrap
                                                    (IntKind.i64.wrap
                                                        (IntKind.i64.wrap (IntKind.i64.wrap (y1.2 + 1) - 1) * 7) +
                                                      3)).tmod
                                                (↑(List.length y1.1) : Int)).toNat
                                            (dflt t_uint8)) *
                                        1117)) +
                                IntKind.i64.wrap (IntKind.i64.wrap (IntKind.i64.wrap (y1.2 + 1) - 1) * 29)) +
                            IntKind.i64.wrap
                              (IntKind.i64.wrap
                                  ((IntKind.i64.wrap (IntKind.i64.wrap (y1.2 + 1) - 1)).tdiv
                                    (↑(List.length y1.1) : Int)) *
                                53))).tdiv
                      64))).toNat :
          Int)).tmod
    y0,
  (y1.1, IntKind.i64.wrap (y1.2 + 1), ()), ()))) (none)) (none)) (none)) (none)) (none)) (none)) (none)) (none)))) := by kernel_rfl

noncomputable def spec_l72Event_h0 (k : Nat) (y0 : V_spec_l6Rd) : Option (((V_int × (V_int × (V_int × (V_int × (V_int × (V_int × V_int)))))) × ((List V_uint8 × (Int × Unit)) × Unit))) := evalT E k 57 (.pair (.pair t_int (.pair t_int (.pair t_int (.pair t_int (.pair t_int (.pair t_int t_int)))))) (.pair (.pair (.sl 5 t_uint8) (.pair (.int .i64) .unit)) .unit)) [.c (.p 0 0)] [some (.box 99 (cells t_spec_l6Rd y0))]
theorem spec_l72Event_h0_eq (k : Nat) (y0 : V_spec_l6Rd) : spec_l72Event_h0 (k + 1) y0 = 
 (spec_l6Rd_pick_h0 k 41 y0).bind fun x0 => 
  (spec_l6Rd_pick_h0 k 4 (x0.2.1.1, x0.2.1.2.1)).bind fun x1 => 
   (spec_l6Rd_pick_h0 k 5 (x1.2.1.1, x1.2.1.2.1)).bind fun x2 => 
    (spec_l6Rd_pick_h0 k 13 (x2.2.1.1, x2.2.1.2.1)).bind fun x3 => 
     (spec_l6Rd_pick_h0 k 3 (x3.2.1.1, x3.2.1.2.1)).bind fun x4 => 
      (spec_l6Rd_pick_h0 k 3 (x4.2.1.1, x4.2.1.2.1)).bind fun x5 => 
       (spec_l6Rd_pick_h0 k 40 (x5.2.1.1, x5.2.1.2.1)).bind fun x6 => 
        (spec_l6Rd_pick_h0 k 20 (x6.2.1.1, x6.2.1.2.1)).bind fun x7 => 
         cond (x7.1 == 0) (
          (spec_l6Rd_pick_h0 k 3 (x7.2.1.1, x7.2.1.2.1)).bind fun x8 => 
           cond (decide (0 ≤ x8.1)) (
            cond (decide (x8.1 < (↑[-1, 40, 41].length : Int))) (
             cond (decide (Int.toNat x8.1 < [-1, 40, 41].length)) (some (((([-1, 40, 41] : List Int).getD (Int.toNat x8.1) (dflt t_int), x1.1, IntKind.i64.wrap (x2.1 - 1), x3.1, x4.1, x5.1,
    x6.1),
  (x8.2.1.1, x8.2.1.2.1, ()), ()))) (none)) (none)) (none)) (
          cond (x7.1 == 1) (
           (spec_l6Rd_pick_h0 k 2 (x7.2.1.1, x7.2.1.2.1)).bind fun x9 => 
            cond (decide (0 ≤ x9.1)) (
             cond (decide (x9.1 < (↑[-1, 4].length : Int))) (
              cond (decide (Int.toNat x9.1 < [-1, 4].length)) (some (((x0.1, ([-1, 4] : List Int).getD (Int.toNat x9.1) (dflt t_int), IntKind.i64.wrap (x2.1 - 1), x3.1, x4.1, x5.1, x6.1),
  (x9.2.1.1, x9.2.1.2.1, ()), ()))) (none)) (none)) (none)) (
           cond (x7.1 == 2) (
            (spec_l6Rd_pick_h0 k 3 (x7.2.1.1, x7.2.1.2.1)).bind fun x10 => 
             cond (decide (0 ≤ x10.1)) (
              cond (decide (x10.1 < (↑[-1, 999, 1000].length : Int))) (
               cond (decide (Int.toNat x10.1 < [-1, 999, 1000].length)) (some (((x0.1, x1.1, IntKind.i64.wrap (x2.1 - 1), x3.1, x4.1, x5.1,
    ([-1, 999, 1000] : List Int).getD (Int.toNat x10.1) (dflt t_int)),
  (x10.2.1.1, x10.2.1.2.1, ()), ()))) (none)) (none)) (none)) (some (((x0.1, x1.1, IntKind.i64.wrap (x2.1 - 1), x3.1, x4.1, x5.1, x6.1),
  (x7.2.1.1, x7.2.1.2.1, ()), ()))))) := by kernel_rfl

noncomputable def spec_DrawEventLess (k : Nat) (a0 : V_sl_uint8) : Option (((V_int × (V_int × (V_int × (V_int × (V_int × (V_int × V_int)))))) × (V_int × (V_int × (V_int × (V_int × (V_int × (V_int × V_int)))))))) := evalT E k 33 (.pair (.pair t_int (.pair t_int (.pair t_int (.pair t_int (.pair t_int (.pair t_int t_int)))))) (.pair t_int (.pair t_int (.pair t_int (.pair t_int (.pair t_int (.pair t_int t_int))))))) [inp t_sl_uint8 a0] []
theorem spec_DrawEventLess_eq (k : Nat) (a0 : V_sl_uint8) : spec_DrawEventLess (k + 1) a0 = 
 (spec_l6Open k a0).bind fun x0 => 
  (spec_l72Event_h0 k x0).bind fun x1 => 
   (spec_l72Event_h0 k (x1.2.1.1, x1.2.1.2.1)).bind fun x2 => 
    (spec_l6Rd_pick_h0 k 3 (x2.2.1.1, x2.2.1.2.1)).bind fun x3 => 
     cond (decide (x3.1 > 0)) (
      (spec_l6Rd_pick_h0 k 8 (x3.2.1.1, x3.2.1.2.1)).bind fun x4 => 
       cond (x4.1 == 0) (
        (spec_l6Rd_pick_h0 k 4 (x4.2.1.1, x4.2.1.2.1)).bind fun x5 => some (((x1.1.1, x1.1.2.1, x1.1.2.2.1, x1.1.2.2.2.1, x1.1.2.2.2.2.1,
    x1.1.2.2.2.2.2.1, x1.1.2.2.2.2.2.2),
  x1.1.1, x5.1, x1.1.2.2.1, x1.1.2.2.2.1, x1.1.2.2.2.2.1,
  x1.1.2.2.2.2.2.1, x1.1.2.2.2.2.2.2))) (
        cond (x4.1 == 1) (
         (spec_l6Rd_pick_h0 k 4 (x4.2.1.1, x4.2.1.2.1)).bind fun x6 => some (((x1.1.1, x1.1.2.1, x1.1.2.2.1, x1.1.2.2.2.1, x1.1.2.2.2.2.1,
    x1.1.2.2.2.2.2.1, x1.1.2.2.2.2.2.2),
  x1.1.1, x1.1.2.1, x6.1, x1.1.2.2.2.1, x1.1.2.2.2.2.1,
  x1.1.2.2.2.2.2.1, x1.1.2.2.2.2.2.2))) (
         cond (x4.1 == 2) (
          (spec_l6Rd_pick_h0 k 9 (x4.2.1.1, x4.2.1.2.1)).bind fun x7 => some (((x1.1.1, x1.1.2.1, x1.1.2.2.1, x1.1.2.2.2.1, x1.1.2.2.2.2.1,
    x1.1.2.2.2.2.2.1, x1.1.2.2.2.2.2.2),
  x1.1.1, x1.1.2.1, x1.1.2.2.1, x7.1, x1.1.2.2.2.2.1, x1.1.2.2.2.2.2.1,
  x1.1.2.2.2.2.2.2))) (
          cond (x4.1 == 3) (
           (spec_l6Rd_pick_h0 k 3 (x4.2.1.1, x4.2.1.2.1)).bind fun x8 => some (((x1.1.1, x1.1.2.1, x1.1.2.2.1, x1.1.2.2.2.1, x1.1.2.2.2.2.1,
    x1.1.2.2.2.2.2.1, x1.1.2.2.2.2.2.2),
  x1.1.1, x1.1.2.1, x1.1.2.2.1, x1.1.2.2.2.1, x8.1, x1.1.2.2.2.2.2.1,
  x1.1.2.2.2.2.2.2))) (
           cond (x4.1 == 4) (
            (spec_l6Rd_pick_h0 k 3 (x4.2.1.1, x4.2.1.2.1)).bind fun x9 => some (((x1.1.1, x1.1.2.1, x1.1.2.2.1, x1.1.2.2.2.1, x1.1.2.2.2.2.1,
    x1.1.2.2.2.2.2.1, x1.1.2.2.2.2.2.2),
  x1.1.1, x1.1.2.1, x1.1.2.2.1, x1.1.2.2.2.1, x1.1.2.2.2.2.1, x9.1,
  x1.1.2.2.2.2.2.2))) (
            cond (x4.1 == 5) (
             (spec_l6Rd_pick_h0 k 9 (x4.2.1.1, x4.2.1.2.1)).bind fun x10 => some (((x1.1.1, x1.1.2.1, x1.1.2.2.1, x1.1.2.2.2.1, x1.1.2.2.2.2.1,
    x1.1.2.2.2.2.2.1, x1.1.2.2.2.2.2.2),
  x1.1.1, x1.1.2.1, x1.1.2.2.1, x1.1.2.2.2.1, x1.1.2.2.2.2.1,
  x1.1.2.2.2.2.2.1, x10.1))) (
             cond (x4.1 == 6) (some (((x1.1.1, x1.1.2.1, x1.1.2.2.1, x1.1.2.2.2.1, x1.1.2.2.2.2.1,
    x1.1.2.2.2.2.2.1, x1.1.2.2.2.2.2.2),
  IntKind.i64.wrap (x1.1.1 + 1), x1.1.2.1, x1.1.2.2.1, x1.1.2.2.2.1,
  x1.1.2.2.2.2.1, x1.1.2.2.2.2.2.1, x1.1.2.2.2.2.2.2))) (some (((x1.1.1, x1.1.2.1, x1.1.2.2.1, x1.1.2.2.2.1, x1.1.2.2.2.2.1,
    x1.1.2.2.2.2.2.1, x1.1.2.2.2.2.2.2),
  x1.1.1, x1.1.2.1, x1.1.2.2.1, x1.1.2.2.2.1, x1.1.2.2.2.2.1,
  x1.1.2.2.2.2.2.1, x1.1.2.2.2.2.2.2)))))))))) (some (((x1.1.1, x1.1.2.1, x1.1.2.2.1, x1.1.2.2.2.1, x1.1.2.2.2.2.1,
    x1.1.2.2.2.2.2.1, x1.1.2.2.2.2.2.2),
  x2.1.1, x2.1.2.1, x2.1.2.2.1, x2.1.2.2.2.1, x2.1.2.2.2.2.1,
  x2.1.2.2.2.2.2.1, x2.1.2.2.2.2.2.2))) := by kernel_rfl

noncomputable def impl_keyOf (k : Nat) (a0 : V_impl_Event) : Option ((V_int × (V_int × (V_int × (V_int × (V_int × (V_int × V_int))))))) := evalT E k 52 (.pair t_int (.pair t_int (.pair t_int (.pair t_int (.pair t_int (.pair t_int t_int)))))) [inp t_impl_Event a0] []
theorem impl_keyOf_eq (k : Nat) (a0 : V_impl_Event) : impl_keyOf (k + 1) a0 = some (a0.1, a0.2.1, a0.2.2.1, a0.2.2.2.1, a0.2.2.2.2.1, a0.2.2.2.2.2.1,
  a0.2.2.2.2.2.2) := by kernel_rfl

noncomputable def cmp_isNaN_int (k : Nat) (a0 : V_int) : Option V_bool := evalT E k 81 t_bool [inp t_int a0] []
theorem cmp_isNaN_int_eq (k : Nat) (a0 : V_int) : cmp_isNaN_int (k + 1) a0 = some (a0 != a0) := by kernel_rfl

noncomputable def cmp_Compare_int (k : Nat) (a0 : V_int) (a1 : V_int) : Option V_int := evalT E k 70 t_int [inp t_int a0, inp t_int a1] []
theorem cmp_Compare_int_eq (k : Nat) (a0 : V_int) (a1 : V_int) : cmp_Compare_int (k + 1) a0 a1 = 
 (cmp_isNaN_int k a0).bind fun x0 => 
  (cmp_isNaN_int k a1).bind fun x1 => 
   cond (x0) (
    cond (x1) (some 0) (some (-1))) (
    cond (x1) (some 1) (
     cond (decide (a0 < a1)) (some (-1)) (
      cond (decide (a0 > a1)) (some 1) (some 0)))) := by kernel_rfl

noncomputable def slices_Compare_int_int (k : Nat) (a0 : V_sl_int) (a1 : V_sl_int) : Option V_int := evalT E k 50 t_int [inp t_sl_int a0, inp t_sl_int a1] []
noncomputable def slices_Compare_int_int_2 (k : Nat) (j : Nat) (y0 : List V_int) (y1 : List V_int) (y2 : List V_int) (y3 : Int) (y4 : Int) : Option V_int := loopAt E 50 t_int [true, false, true, false] [] [] k [] j (mkS 36 [(0, .c (.sl 3 t_int y0)), (1, .c (.sl 3 t_int y1)), (9, .c (.sl 3 t_int y2)), (10, .c (.int .i64 y3)), (11, .c (.int .i64 y4))]) []
theorem slices_Compare_int_int_eq (k : Nat) (a0 : V_sl_int) (a1 : V_sl_int) : slices_Compare_int_int (k + 1) a0 a1 = slices_Compare_int_int_2 k k a0 a1 a0 ((↑(List.length a0) : Int)) 0 := by kernel_rfl
theorem slices_Compare_int_int_2_eq (k : Nat) (j : Nat) (y0 : List V_int) (y1 : List V_int) (y2 : List V_int) (y3 : Int) (y4 : Int) : slices_Compare_int_int_2 k (j + 1) y0 y1 y2 y3 y4 = 
 cond (decide (y4 < y3)) (
  cond (decide (0 ≤ y4)) (
   cond (decide (y4 < (↑y2.length : Int))) (
    cond (decide (y4 ≥ (↑y1.length : Int))) (some 1) (
     cond (decide (0 ≤ y4)) (
      cond (decide (y4 < (↑y1.length : Int))) (
       (cmp_Compare_int k (y2.getD y4.toNat (dflt t_int)) (y1.getD y4.toNat (dflt t_int))).bind fun x0 => 
        cond (x0 != 0) (some x0) (slices_Compare_int_int_2 k j y0 y1 y2 y3 (IntKind.i64.wrap (y4 + 1)))) (none)) (none))) (none)) (none)) (
  cond (decide ((↑y0.length : Int) < (↑y1.length : Int))) (some (-1)) (some 0)) := by kernel_rfl

noncomputable def impl_keyLess (k : Nat) (a0 : V_impl_eventKey) (a1 : V_impl_eventKey) : Option V_bool := evalT E k 51 t_bool [inp t_impl_eventKey a0, inp t_impl_eventKey a1] []
theorem impl_keyLess_eq (k : Nat) (a0 : V_impl_eventKey) (a1 : V_impl_eventKey) : impl_keyLess (k + 1) a0 a1 = 
 (slices_Compare_int_int k [a0.1, a0.2.1, a0.2.2.1, a0.2.2.2.1, a0.2.2.2.2.1, a0.2.2.2.2.2.1,
  a0.2.2.2.2.2.2] [a1.1, a1.2.1, a1.2.2.1, a1.2.2.2.1, a1.2.2.2.2.1, a1.2.2.2.2.2.1,
  a1.2.2.2.2.2.2]).bind fun x0 => some (decide (x0 < 0)) := by kernel_rfl

noncomputable def impl_EventLess (k : Nat) (a0 : V_impl_Event) (a1 : V_impl_Event) : Option V_bool := evalT E k 26 t_bool [inp t_impl_Event a0, inp t_impl_Event a1] []
theorem impl_EventLess_eq (k : Nat) (a0 : V_impl_Event) (a1 : V_impl_Event) : impl_EventLess (k + 1) a0 a1 = 
 (impl_keyOf k a0).bind fun x0 => 
  (impl_keyOf k a1).bind fun x1 => 
   (impl_keyLess k x0 x1).bind fun x2 => some x2 := by kernel_rfl

noncomputable def spec_EventLess (k : Nat) (a0 : V_impl_Event) (a1 : V_impl_Event) : Option V_bool := evalT E k 24 t_bool [inp t_impl_Event a0, inp t_impl_Event a1] []
theorem spec_EventLess_eq (k : Nat) (a0 : V_impl_Event) (a1 : V_impl_Event) : spec_EventLess (k + 1) a0 a1 = 
 cond (a0.1 != a1.1) (some (decide (a0.1 < a1.1))) (
  cond (a0.2.1 != a1.2.1) (some (decide (a0.2.1 < a1.2.1))) (
   cond (a0.2.2.1 != a1.2.2.1) (some (decide (a0.2.2.1 < a1.2.2.1))) (
    cond (a0.2.2.2.1 != a1.2.2.2.1) (some (decide (a0.2.2.2.1 < a1.2.2.2.1))) (
     cond (a0.2.2.2.2.1 != a1.2.2.2.2.1) (some (decide (a0.2.2.2.2.1 < a1.2.2.2.2.1))) (
      cond (a0.2.2.2.2.2.1 != a1.2.2.2.2.2.1) (some (decide (a0.2.2.2.2.2.1 < a1.2.2.2.2.2.1))) (some (decide (a0.2.2.2.2.2.2 < a1.2.2.2.2.2.2)))))))) := by kernel_rfl

noncomputable def laws_FnEventOrder (k : Nat) (a0 : V_sl_uint8) (a1 : V_sl_uint8) : Option V_bool := evalT E k 11 t_bool [inp t_sl_uint8 a0, inp t_sl_uint8 a1] []
theorem laws_FnEventOrder_eq (k : Nat) (a0 : V_sl_uint8) (a1 : V_sl_uint8) : laws_FnEventOrder (k + 1) a0 a1 = 
 cond (decide ((↑(List.length a0) : Int) > 1048576)) (some true) (
  cond (decide ((↑(List.length a1) : Int) > 1048576)) (some true) (
   (spec_DrawEventLess k a0).bind fun x0 => 
    (spec_DrawEventLess k a1).bind fun x1 => 
     (impl_EventLess k x0.1 x0.2).bind fun x2 => 
      (impl_EventLess k x0.2 x0.1).bind fun x3 => 
       (spec_EventLess k x0.1 x0.2).bind fun x4 => 
        cond (!x2 == x4) (some false) (
         (spec_EventLess k x0.2 x0.1).bind fun x5 => 
          cond (!x3 == x5) (some false) (
           (impl_EventLess k x0.1 x0.1).bind fun x6 => 
            cond (x6) (some false) (
             (impl_EventLess k x0.2 x1.1).bind fun x7 => 
              cond (x7) (
               cond (x2) (
                (impl_EventLess k x0.1 x1.1).bind fun x8 => 
                 cond (!x8) (some false) (
                  cond (!x2 == x3) (some true) (some (x0.1.1 == x0.2.1 &&
  (x0.1.2.1 == x0.2.2.1 &&
    (x0.1.2.2.1 == x0.2.2.2.1 &&
      (x0.1.2.2.2.1 == x0.2.2.2.2.1 &&
        (x0.1.2.2.2.2.1 == x0.2.2.2.2.2.1 &&
          (x0.1.2.2.2.2.2.1 == x0.2.2.2.2.2.2.1 &&
            (x0.1.2.2.2.2.2.2 == x0.2.2.2.2.2.2.2 && true)))))))))) (
                cond (!x2 == x3) (some true) (some (x0.1.1 == x0.2.1 &&
  (x0.1.2.1 == x0.2.2.1 &&
    (x0.1.2.2.1 == x0.2.2.2.1 &&
      (x0.1.2.2.2.1 == x0.2.2.2.2.1 &&
        (x0.1.2.2.2.2.1 == x0.2.2.2.2.2.1 &&
          (x0.1.2.2.2.2.2.1 == x0.2.2.2.2.2.2.1 &&
            (x0.1.2.2.2.2.2.2 == x0.2.2.2.2.2.2.2 && true)))))))))) (
               cond (!x2 == x3) (some true) (some (x0.1.1 == x0.2.1 &&
  (x0.1.2.1 == x0.2.2.1 &&
    (x0.1.2.2.1 == x0.2.2.2.1 &&
      (x0.1.2.2.2.1 == x0.2.2.2.2.1 &&
        (x0.1.2.2.2.2.1 == x0.2.2.2.2.2.1 &&
          (x0.1.2.2.2.2.2.1 == x0.2.2.2.2.2.2.1 &&
            (x0.1.2.2.2.2.2.2 == x0.2.2.2.2.2.2.2 && true)))))))))))))) := by kernel_rfl
def Goal : Prop := ∀ (a0 : V_sl_uint8) (a1 : V_sl_uint8), Go.Sx.Good t_sl_uint8 a0 → Go.Sx.Good t_sl_uint8 a1 → ∃ k, laws_FnEventOrder k a0 a1 = some true
end Go.Proofs.Ytbgibmngijomfaa.SFnEventOrder
