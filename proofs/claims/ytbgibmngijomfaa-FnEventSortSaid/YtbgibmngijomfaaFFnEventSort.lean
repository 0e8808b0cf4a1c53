/- What each function of the program answers: one step of the plain machine, by the kernel. -/
import Derived.Test.YtbgibmngijomfaaEFnEventSort
set_option linter.unusedVariables false
set_option maxRecDepth 1000000
set_option maxHeartbeats 0
namespace Go.Proofs.Ytbgibmngijomfaa.SFnEventSort
open Go Go.Sx Go.Proofs
noncomputable def spec_l6Open (k : Nat) (a0 : V_sl_uint8) : Option V_spec_l6Rd := evalT E k 48 (.bx 99 t_spec_l6Rd) [inp t_sl_uint8 a0] []
theorem spec_l6Open_eq (k : Nat) (a0 : V_sl_uint8) : spec_l6Open (k + 1) a0 = 
 cond (decide ((↑(List.length a0) : Int) > 2000)) (
  cond (decide (2000 ≤ (↑(List.length a0) : Int))) (some ((List.drop (Int.toNat 0) (List.take (Int.toNat 2000) a0), 0))) (none)) (some (a0, 0)) := by kernel_rfl

noncomputable def spec_l6Rd_pick_h0 (k : Nat) (y0 : V_int) (y1 : V_spec_l6Rd) : Option ((V_int × ((List V_uint8 × (Int × Unit)) × Unit))) := evalT E k 49 (.pair t_int (.pair (.pair (.sl 5 t_uint8) (.pair (.int .i64) .unit)) .unit)) [.c (.p 0 0), inp t_int y0] [some (.box 99 (cells t_spec_l6Rd y1))]
theorem spec_l6Rd_pick_h0_eq (k : Nat) (y0 : V_int) (y1 : V_spec_l6Rd) : spec_l6Rd_pick_h0 (k + 1) y0 y1 = 
 cond (decide (y0 < 1)) (some ((0, (y1.1, IntKind.i64.wrap (y1.2 + 1), ()), ()))) (
  cond ((↑(List.length y1.1) : Int) == 0) (some ((0, (y1.1, IntKind.i64.wrap (y1.2 + 1), ()), ()))) (
   cond (decide (IntKind.i64.wrap (IntKind.i64.wrap (y1.2 + 1) - 1) < (↑(List.length y1.1) : Int))) (
    cond (decide (0 ≤ IntKind.i64.wrap (IntKind.i64.wrap (y1.2 + 1) - 1))) (
     cond (decide (IntKind.i64.wrap (IntKind.i64.wrap (y1.2 + 1) - 1) < (↑(List.length y1.1) : Int))) (
      cond (!decide (y0 = 0)) (some (((IntKind.i64.wrap (List.getD y1.1 (IntKind.i64.wrap (IntKind.i64.wrap (y1.2 + 1) - 1)).toNat (dflt t_uint8))).tmod y0,
  (y1.1, IntKind.i64.wrap (y1.2 + 1), ()), ()))) (none)) (none)) (none)) (
    cond (!decide ((↑(List.length y1.1) : Int) = 0)) (
     cond (decide (0 ≤ (IntKind.i64.wrap (IntKind.i64.wrap (y1.2 + 1) - 1)).tmod (↑(List.length y1.1) : Int))) (
      cond (decide
  ((IntKind.i64.wrap (IntKind.i64.wrap (y1.2 + 1) - 1)).tmod (↑(List.length y1.1) : Int) <
    (↑(List.length y1.1) : Int))) (
       cond (!decide ((↑(List.length y1.1) : Int) = 0)) (
        cond (decide
  (0 ≤
    (IntKind.i64.wrap (IntKind.i64.wrap (IntKind.i64.wrap (IntKind.i64.wrap (y1.2 + 1) - 1) * 7) + 3)).tmod
      (↑(List.length y1.1) : Int))) (
         cond (decide
  ((IntKind.i64.wrap (IntKind.i64.wrap (IntKind.i64.wrap (IntKind.i64.wrap (y1.2 + 1) - 1) * 7) + 3)).tmod
      (↑(List.length y1.1) : Int) <
    (↑(List.length y1.1) : Int))) (
          cond (!decide ((↑(List.length y1.1) : Int) = 0)) (
           cond (!decide (y0 = 0)) (some (((IntKind.i64.wrap
        (↑(BitVec.ofInt IntKind.i64.bits
                  (IntKind.i64.wrap
                    (IntKind.i64.wrap
                        (IntKind.i64.wrap
                            (IntKind.i64.wrap
                                (IntKind.i64.wrap
                                    (List.getD y1.1
                                      ((IntKind.i64.wrap (IntKind.i64.wrap (y1.2 + 1) - 1)).tmod
                                          (↑(List.length y1.1) : Int)).toNat
                                      (dflt t_uint8)) *
                                  131) +
                              IntKind.i64.wrap
                                (IntKind.i64.wrap
                                    (List.getD y1.1
                                      ((IntKind.i64.wrap
                                              (IntKind.i64.wrap
                                                  (IntKind.i64.wrap (IntKind.i64.wrap (y1.2 + 1) - 1) * 7) +
                                                3)).tmod
                                          (↑(List.length y1.1) : Int)).toNat
                                      (dflt t_uint8)) *
                                  1117)) +
                          IntKind.i64.wrap (IntKind.i64.wrap (IntKind.i64.wrap (y1.2 + 1) - 1) * 29)) +
                      IntKind.i64.wrap
                        (IntKind.i64.wrap
                            ((IntKind.i64.wrap (IntKind.i64.wrap (y1.2 + 1) - 1)).tdiv
                              (↑(List.length y1.1) : Int)) *
                          53))) ^^^
                BitVec.ofInt IntKind.i64.bits
                  (IntKind.i64.wrap
                    ((IntKind.i64.wrap
                          (IntKind.i64.wrap
                              (IntKind.i64.wrap
                                  (IntKind.i64.wrap
                                      (IntKind.i64.wrap
                                          (List.getD y1.1
                                            ((IntKind.i64.wrap (IntKind.i64.wrap (y1.2 + 1) - 1)).tmod
                                                (↑(List.length y1.1) : Int)).toNat
                                            (dflt t_uint8)) *
                                        131) +
                                    IntKind.i64.wrap
                                      (IntKind.i64.wrap
                                          (List.getD y1.1
                                            ((IntKind.i64.wrap
                                                    (IntKind.i64.wrap
                                                        (IntKind.i64.wrap (IntKind.i64.wrap (y1.2 + 1) - 1) * 7) +
                                                      3)).tmod
                                                (↑(List.length y1.1) : Int)).toNat
                                            (dflt t_uint8)) *
                                        1117)) +
                                IntKind.i64.wrap (IntKind.i64.wrap (IntKind.i64.wrap (y1.2 + 1) - 1) * 29)) +
                            IntKind.i64.wrap
                              (IntKind.i64.wrap
                                  ((IntKind.i64.wrap (IntKind.i64.wrap (y1.2 + 1) - 1)).tdiv
                                    (↑(List.length y1.1) : Int)) *
                                53))).tdiv
                      64))).toNat :
          Int)).tmod
    y0,
  (y1.1, IntKind.i64.wrap (y1.2 + 1), ()), ()))) (none)) (none)) (none)) (none)) (none)) (none)) (none)) (none)))) := by kernel_rfl

noncomputable def spec_l72Event_h0 (k : Nat) (y0 : V_spec_l6Rd) : Option (((V_int × (V_int × (V_int × (V_int × (V_int × (V_int × V_int)))))) × ((List V_uint8 × (Int × Unit)) × Unit))) := evalT E k 57 (.pair (.pair t_int (.pair t_int (.pair t_int (.pair t_int (.pair t_int (.pair t_int t_int)))))) (.pair (.pair (.sl 5 t_uint8) (.pair (.int .i64) .unit)) .unit)) [.c (.p 0 0)] [some (.box 99 (cells t_spec_l6Rd y0))]
theorem spec_l72Event_h0_eq (k : Nat) (y0 : V_spec_l6Rd) : spec_l72Event_h0 (k + 1) y0 = 
 (spec_l6Rd_pick_h0 k 41 y0).bind fun x0 => 
  (spec_l6Rd_pick_h0 k 4 (x0.2.1.1, x0.2.1.2.1)).bind fun x1 => 
   (spec_l6Rd_pick_h0 k 5 (x1.2.1.1, x1.2.1.2.1)).bind fun x2 => 
    (spec_l6Rd_pick_h0 k 13 (x2.2.1.1, x2.2.1.2.1)).bind fun x3 => 
     (spec_l6Rd_pick_h0 k 3 (x3.2.1.1, x3.2.1.2.1)).bind fun x4 => 
      (spec_l6Rd_pick_h0 k 3 (x4.2.1.1, x4.2.1.2.1)).bind fun x5 => 
       (spec_l6Rd_pick_h0 k 40 (x5.2.1.1, x5.2.1.2.1)).bind fun x6 => 
        (spec_l6Rd_pick_h0 k 20 (x6.2.1.1, x6.2.1.2.1)).bind fun x7 => 
         cond (x7.1 == 0) (
          (spec_l6Rd_pick_h0 k 3 (x7.2.1.1, x7.2.1.2.1)).bind fun x8 => 
           cond (decide (0 ≤ x8.1)) (
            cond (decide (x8.1 < (↑[-1, 40, 41].length : Int))) (
             cond (decide (Int.toNat x8.1 < [-1, 40, 41].length)) (some (((([-1, 40, 41] : List Int).getD (Int.toNat x8.1) (dflt t_int), x1.1, IntKind.i64.wrap (x2.1 - 1), x3.1, x4.1, x5.1,
    x6.1),
  (x8.2.1.1, x8.2.1.2.1, ()), ()))) (none)) (none)) (none)) (
          cond (x7.1 == 1) (
           (spec_l6Rd_pick_h0 k 2 (x7.2.1.1, x7.2.1.2.1)).bind fun x9 => 
            cond (decide (0 ≤ x9.1)) (
             cond (decide (x9.1 < (↑[-1, 4].length : Int))) (
              cond (decide (Int.toNat x9.1 < [-1, 4].length)) (some (((x0.1, ([-1, 4] : List Int).getD (Int.toNat x9.1) (dflt t_int), IntKind.i64.wrap (x2.1 - 1), x3.1, x4.1, x5.1, x6.1),
  (x9.2.1.1, x9.2.1.2.1, ()), ()))) (none)) (none)) (none)) (
           cond (x7.1 == 2) (
            (spec_l6Rd_pick_h0 k 3 (x7.2.1.1, x7.2.1.2.1)).bind fun x10 => 
             cond (decide (0 ≤ x10.1)) (
              cond (decide (x10.1 < (↑[-1, 999, 1000].length : Int))) (
               cond (decide (Int.toNat x10.1 < [-1, 999, 1000].length)) (some (((x0.1, x1.1, IntKind.i64.wrap (x2.1 - 1), x3.1, x4.1, x5.1,
    ([-1, 999, 1000] : List Int).getD (Int.toNat x10.1) (dflt t_int)),
  (x10.2.1.1, x10.2.1.2.1, ()), ()))) (none)) (none)) (none)) (some (((x0.1, x1.1, IntKind.i64.wrap (x2.1 - 1), x3.1, x4.1, x5.1, x6.1),
  (x7.2.1.1, x7.2.1.2.1, ()), ()))))) := by kernel_rfl

noncomputable def spec_l72Events_h0 (k : Nat) (y0 : V_int) (y1 : V_spec_l6Rd) : Option ((List V_impl_Event × ((List V_uint8 × (Int × Unit)) × Unit))) := evalT E k 64 (.pair (.ow 28 t_impl_Event) (.pair (.pair (.sl 5 t_uint8) (.pair (.int .i64) .unit)) .unit)) [.c (.p 0 0), inp t_int y0] [some (.box 99 (cells t_spec_l6Rd y1))]
noncomputable def spec_l72Events_h0_3 (k : Nat) (j : Nat) (y0 : Int) (y1 : V_spec_l6Rd) (y2 : List V_impl_Event) : Option ((List V_impl_Event × ((List V_uint8 × (Int × Unit)) × Unit))) := loopAt E 64 (.pair (.ow 28 t_impl_Event) (.pair (.pair (.sl 5 t_uint8) (.pair (.int .i64) .unit)) .unit)) [true, true, false, true, false] [some (.box 99 [.undef, .undef])] [] k [] j (mkS 41 [(0, .c (.p 0 0)), (5, .c (.o 1)), (6, .c (.int .i64 y0))]) [some (.box 99 (cells t_spec_l6Rd y1)), some (.own 28 t_impl_Event y2)]
theorem spec_l72Events_h0_eq (k : Nat) (y0 : V_int) (y1 : V_spec_l6Rd) : spec_l72Events_h0 (k + 1) y0 y1 = 
 (spec_l6Rd_pick_h0 k y0 y1).bind fun x0 => spec_l72Events_h0_3 k k x0.1 (x0.2.1.1, x0.2.1.2.1) [] := by kernel_rfl
theorem spec_l72Events_h0_3_eq (k : Nat) (j : Nat) (y0 : Int) (y1 : V_spec_l6Rd) (y2 : List V_impl_Event) : spec_l72Events_h0_3 k (j + 1) y0 y1 y2 = 
 cond (decide (y0 > 0)) (
  (spec_l72Event_h0 k y1).bind fun x0 => 
   cond (decide ((↑y2.length : Int) > 0)) (
    (spec_l6Rd_pick_h0 k 4 (x0.2.1.1, x0.2.1.2.1)).bind fun x1 => 
     cond (x1.1 == 0) (
      (spec_l6Rd_pick_h0 k (↑y2.length : Int) (x1.2.1.1, x1.2.1.2.1)).bind fun x2 => 
       cond (decide (0 ≤ x2.1)) (
        cond (decide (x2.1 < (↑y2.length : Int))) (
         cond (decide (Int.toNat x2.1 < y2.length)) (
          (spec_l6Rd_pick_h0 k 3 (x2.2.1.1, x2.2.1.2.1)).bind fun x3 => 
           cond (decide
  ((y2.length +
        [((y2.getD (Int.toNat x2.1) (dflt t_impl_Event)).1, (y2.getD (Int.toNat x2.1) (dflt t_impl_Event)).2.1,
              (y2.getD (Int.toNat x2.1) (dflt t_impl_Event)).2.2.1,
              (y2.getD (Int.toNat x2.1) (dflt t_impl_Event)).2.2.2.1, x3.1,
              (y2.getD (Int.toNat x2.1) (dflt t_impl_Event)).2.2.2.2.2.1,
              (y2.getD (Int.toNat x2.1) (dflt t_impl_Event)).2.2.2.2.2.2)].length) *
      56 ≤
    140737488351232)) (spec_l72Events_h0_3 k j (IntKind.i64.wrap (y0 - 1)) (x3.2.1.1, x3.2.1.2.1) (y2 ++
  [((y2.getD (Int.toNat x2.1) (dflt t_impl_Event)).1, (y2.getD (Int.toNat x2.1) (dflt t_impl_Event)).2.1,
      (y2.getD (Int.toNat x2.1) (dflt t_impl_Event)).2.2.1, (y2.getD (Int.toNat x2.1) (dflt t_impl_Event)).2.2.2.1,
      x3.1, (y2.getD (Int.toNat x2.1) (dflt t_impl_Event)).2.2.2.2.2.1,
      (y2.getD (Int.toNat x2.1) (dflt t_impl_Event)).2.2.2.2.2.2)])) (none)) (none)) (none)) (none)) (
      cond (decide
  ((y2.length +
        [(x0.1.1, x0.1.2.1, x0.1.2.2.1, x0.1.2.2.2.1, x0.1.2.2.2.2.1,
              x0.1.2.2.2.2.2.1, x0.1.2.2.2.2.2.2)].length) *
      56 ≤
    140737488351232)) (spec_l72Events_h0_3 k j (IntKind.i64.wrap (y0 - 1)) (x1.2.1.1, x1.2.1.2.1) (y2 ++
  [(x0.1.1, x0.1.2.1, x0.1.2.2.1, x0.1.2.2.2.1, x0.1.2.2.2.2.1,
      x0.1.2.2.2.2.2.1, x0.1.2.2.2.2.2.2)])) (none))) (
    cond (decide
  ((y2.length +
        [(x0.1.1, x0.1.2.1, x0.1.2.2.1, x0.1.2.2.2.1, x0.1.2.2.2.2.1,
              x0.1.2.2.2.2.2.1, x0.1.2.2.2.2.2.2)].length) *
      56 ≤
    140737488351232)) (spec_l72Events_h0_3 k j (IntKind.i64.wrap (y0 - 1)) (x0.2.1.1, x0.2.1.2.1) (y2 ++
  [(x0.1.1, x0.1.2.1, x0.1.2.2.1, x0.1.2.2.2.1, x0.1.2.2.2.2.1,
      x0.1.2.2.2.2.2.1, x0.1.2.2.2.2.2.2)])) (none))) (some ((y2, (y1.1, y1.2, ()), ()))) := by kernel_rfl

noncomputable def spec_DrawEventSort (k : Nat) (a0 : V_sl_uint8) : Option (List V_impl_Event) := evalT E k 42 (.ow 28 t_impl_Event) [inp t_sl_uint8 a0] []
theorem spec_DrawEventSort_eq (k : Nat) (a0 : V_sl_uint8) : spec_DrawEventSort (k + 1) a0 = 
 (spec_l6Open k a0).bind fun x0 => 
  (spec_l72Events_h0 k 14 x0).bind fun x1 => some x1.1 := by kernel_rfl

noncomputable def spec_EventLess (k : Nat) (a0 : V_impl_Event) (a1 : V_impl_Event) : Option V_bool := evalT E k 24 t_bool [inp t_impl_Event a0, inp t_impl_Event a1] []
theorem spec_EventLess_eq (k : Nat) (a0 : V_impl_Event) (a1 : V_impl_Event) : spec_EventLess (k + 1) a0 a1 = 
 cond (a0.1 != a1.1) (some (decide (a0.1 < a1.1))) (
  cond (a0.2.1 != a1.2.1) (some (decide (a0.2.1 < a1.2.1))) (
   cond (a0.2.2.1 != a1.2.2.1) (some (decide (a0.2.2.1 < a1.2.2.1))) (
    cond (a0.2.2.2.1 != a1.2.2.2.1) (some (decide (a0.2.2.2.1 < a1.2.2.2.1))) (
     cond (a0.2.2.2.2.1 != a1.2.2.2.2.1) (some (decide (a0.2.2.2.2.1 < a1.2.2.2.2.1))) (
      cond (a0.2.2.2.2.2.1 != a1.2.2.2.2.2.1) (some (decide (a0.2.2.2.2.2.1 < a1.2.2.2.2.2.1))) (some (decide (a0.2.2.2.2.2.2 < a1.2.2.2.2.2.2)))))))) := by kernel_rfl

noncomputable def spec_EventSort (k : Nat) (a0 : V_sl_impl_Event) : Option (List V_impl_Event) := evalT E k 43 (.ow 28 t_impl_Event) [inp t_sl_impl_Event a0] []
noncomputable def spec_EventSort_3 (k : Nat) (j : Nat) (y0 : List V_impl_Event) (y1 : Int) (y2 : List V_impl_Event) : Option (List V_impl_Event) := loopAt E 43 (.ow 28 t_impl_Event) [true, true, false, true, false] [] [] k [] j (mkS 77 [(0, .c (.sl 28 t_impl_Event y0)), (3, .c (.o 0)), (4, .c (.int .i64 y1))]) [some (.own 28 t_impl_Event y2)]
noncomputable def spec_EventSort_6 (k : Nat) (j0 : Nat) (j : Nat) (y0 : List V_impl_Event) (y1 : Int) (y2 : Int) (y3 : List V_impl_Event) : Option (List V_impl_Event) := loopAt E 43 (.ow 28 t_impl_Event) [true, true, false, true, false, false, true, false, false, true, false, false] [] [] k [j0] j (mkS 77 [(0, .c (.sl 28 t_impl_Event y0)), (3, .c (.o 0)), (4, .c (.int .i64 y1)), (5, .c (.int .i64 y2))]) [some (.own 28 t_impl_Event y3)]
noncomputable def spec_EventSort_11 (k : Nat) (j0 : Nat) (j : Nat) (y0 : List V_impl_Event) (y1 : Int) (y2 : Int) (y3 : Int) (y4 : List V_impl_Event) : Option (List V_impl_Event) := loopAt E 43 (.ow 28 t_impl_Event) [true, true, false, true, false, false, true, false, false, true, true, true, true, false, true, false] [] [] k [j0] j (mkS 77 [(0, .c (.sl 28 t_impl_Event y0)), (3, .c (.o 0)), (4, .c (.int .i64 y1)), (5, .c (.int .i64 y2)), (6, .c (.int .i64 y3))]) [some (.own 28 t_impl_Event y4)]
theorem spec_EventSort_eq (k : Nat) (a0 : V_sl_impl_Event) : spec_EventSort (k + 1) a0 = spec_EventSort_3 k k a0 0 [] := by kernel_rfl
theorem spec_EventSort_3_eq (k : Nat) (j : Nat) (y0 : List V_impl_Event) (y1 : Int) (y2 : List V_impl_Event) : spec_EventSort_3 k (j + 1) y0 y1 y2 = 
 cond (decide (y1 < (↑y0.length : Int))) (spec_EventSort_6 k j k y0 y1 (↑y2.length : Int) y2) (some y2) := by kernel_rfl
theorem spec_EventSort_6_eq (k : Nat) (j0 : Nat) (j : Nat) (y0 : List V_impl_Event) (y1 : Int) (y2 : Int) (y3 : List V_impl_Event) : spec_EventSort_6 k j0 (j + 1) y0 y1 y2 y3 = 
 cond (decide (y2 > 0)) (
  cond (decide (0 ≤ y1)) (
   cond (decide (y1 < (↑y0.length : Int))) (
    cond (decide (0 ≤ IntKind.i64.wrap (y2 - 1))) (
     cond (decide (IntKind.i64.wrap (y2 - 1) < (↑y3.length : Int))) (
      cond (decide ((IntKind.i64.wrap (y2 - 1)).toNat < y3.length)) (
       (spec_EventLess k (y0.getD y1.toNat (dflt t_impl_Event)) (y3.getD (IntKind.i64.wrap (y2 - 1)).toNat (dflt t_impl_Event))).bind fun x0 => 
        cond (x0) (spec_EventSort_6 k j0 j y0 y1 (IntKind.i64.wrap (y2 - 1)) y3) (
         cond (decide (y2 > 0)) (
          cond (decide (0 ≤ IntKind.i64.wrap (y2 - 1))) (
           cond (decide (IntKind.i64.wrap (y2 - 1) < (↑y3.length : Int))) (
            cond (decide ((IntKind.i64.wrap (y2 - 1)).toNat < y3.length)) (
             cond (decide (0 ≤ y1)) (
              cond (decide (y1 < (↑y0.length : Int))) (
               cond ((y3.getD (IntKind.i64.wrap (y2 - 1)).toNat (dflt t_impl_Event)).1 == (y0.getD y1.toNat (dflt t_impl_Event)).1 &&
  ((y3.getD (IntKind.i64.wrap (y2 - 1)).toNat (dflt t_impl_Event)).2.1 == (y0.getD y1.toNat (dflt t_impl_Event)).2.1 &&
    ((y3.getD (IntKind.i64.wrap (y2 - 1)).toNat (dflt t_impl_Event)).2.2.1 == (y0.getD y1.toNat (dflt t_impl_Event)).2.2.1 &&
      ((y3.getD (IntKind.i64.wrap (y2 - 1)).toNat (dflt t_impl_Event)).2.2.2.1 ==
          (y0.getD y1.toNat (dflt t_impl_Event)).2.2.2.1 &&
        ((y3.getD (IntKind.i64.wrap (y2 - 1)).toNat (dflt t_impl_Event)).2.2.2.2.1 ==
            (y0.getD y1.toNat (dflt t_impl_Event)).2.2.2.2.1 &&
          ((y3.getD (IntKind.i64.wrap (y2 - 1)).toNat (dflt t_impl_Event)).2.2.2.2.2.1 ==
              (y0.getD y1.toNat (dflt t_impl_Event)).2.2.2.2.2.1 &&
            ((y3.getD (IntKind.i64.wrap (y2 - 1)).toNat (dflt t_impl_Event)).2.2.2.2.2.2 ==
                (y0.getD y1.toNat (dflt t_impl_Event)).2.2.2.2.2.2 &&
              true))))))) (spec_EventSort_3 k j0 y0 (IntKind.i64.wrap (y1 + 1)) y3) (
                cond (decide (0 ≤ y1)) (
                 cond (decide (y1 < (↑y0.length : Int))) (
                  cond (decide
  ((y3.length +
        [((y0.getD y1.toNat (dflt t_impl_Event)).1, (y0.getD y1.toNat (dflt t_impl_Event)).2.1,
              (y0.getD y1.toNat (dflt t_impl_Event)).2.2.1, (y0.getD y1.toNat (dflt t_impl_Event)).2.2.2.1,
              (y0.getD y1.toNat (dflt t_impl_Event)).2.2.2.2.1, (y0.getD y1.toNat (dflt t_impl_Event)).2.2.2.2.2.1,
              (y0.getD y1.toNat (dflt t_impl_Event)).2.2.2.2.2.2)].length) *
      56 ≤
    140737488351232)) (spec_EventSort_11 k j0 k y0 y1 y2 (IntKind.i64.wrap
  ((↑(y3 ++
            [((y0.getD y1.toNat (dflt t_impl_Event)).1, (y0.getD y1.toNat (dflt t_impl_Event)).2.1,
                (y0.getD y1.toNat (dflt t_impl_Event)).2.2.1, (y0.getD y1.toNat (dflt t_impl_Event)).2.2.2.1,
                (y0.getD y1.toNat (dflt t_impl_Event)).2.2.2.2.1,
                (y0.getD y1.toNat (dflt t_impl_Event)).2.2.2.2.2.1,
                (y0.getD y1.toNat (dflt t_impl_Event)).2.2.2.2.2.2)]).length :
      Int) -
    1)) (y3 ++
  [((y0.getD y1.toNat (dflt t_impl_Event)).1, (y0.getD y1.toNat (dflt t_impl_Event)).2.1, (y0.getD y1.toNat (dflt t_impl_Event)).2.2.1,
      (y0.getD y1.toNat (dflt t_impl_Event)).2.2.2.1, (y0.getD y1.toNat (dflt t_impl_Event)).2.2.2.2.1,
      (y0.getD y1.toNat (dflt t_impl_Event)).2.2.2.2.2.1, (y0.getD y1.toNat (dflt t_impl_Event)).2.2.2.2.2.2)])) (none)) (none)) (none))) (none)) (none)) (none)) (none)) (none)) (
          cond (decide (0 ≤ y1)) (
           cond (decide (y1 < (↑y0.length : Int))) (
            cond (decide
  ((y3.length +
        [((y0.getD y1.toNat (dflt t_impl_Event)).1, (y0.getD y1.toNat (dflt t_impl_Event)).2.1,
              (y0.getD y1.toNat (dflt t_impl_Event)).2.2.1, (y0.getD y1.toNat (dflt t_impl_Event)).2.2.2.1,
              (y0.getD y1.toNat (dflt t_impl_Event)).2.2.2.2.1, (y0.getD y1.toNat (dflt t_impl_Event)).2.2.2.2.2.1,
              (y0.getD y1.toNat (dflt t_impl_Event)).2.2.2.2.2.2)].length) *
      56 ≤
    140737488351232)) (spec_EventSort_11 k j0 k y0 y1 y2 (IntKind.i64.wrap
  ((↑(y3 ++
            [((y0.getD y1.toNat (dflt t_impl_Event)).1, (y0.getD y1.toNat (dflt t_impl_Event)).2.1,
                (y0.getD y1.toNat (dflt t_impl_Event)).2.2.1, (y0.getD y1.toNat (dflt t_impl_Event)).2.2.2.1,
                (y0.getD y1.toNat (dflt t_impl_Event)).2.2.2.2.1,
                (y0.getD y1.toNat (dflt t_impl_Event)).2.2.2.2.2.1,
                (y0.getD y1.toNat (dflt t_impl_Event)).2.2.2.2.2.2)]).length :
      Int) -
    1)) (y3 ++
  [((y0.getD y1.toNat (dflt t_impl_Event)).1, (y0.getD y1.toNat (dflt t_impl_Event)).2.1, (y0.getD y1.toNat (dflt t_impl_Event)).2.2.1,
      (y0.getD y1.toNat (dflt t_impl_Event)).2.2.2.1, (y0.getD y1.toNat (dflt t_impl_Event)).2.2.2.2.1,
      (y0.getD y1.toNat (dflt t_impl_Event)).2.2.2.2.2.1, (y0.getD y1.toNat (dflt t_impl_Event)).2.2.2.2.2.2)])) (none)) (none)) (none)))) (none)) (none)) (none)) (none)) (none)) (
  cond (decide (y2 > 0)) (
   cond (decide (0 ≤ IntKind.i64.wrap (y2 - 1))) (
    cond (decide (IntKind.i64.wrap (y2 - 1) < (↑y3.length : Int))) (
     cond (decide ((IntKind.i64.wrap (y2 - 1)).toNat < y3.length)) (
      cond (decide (0 ≤ y1)) (
       cond (decide (y1 < (↑y0.length : Int))) (
        cond ((y3.getD (IntKind.i64.wrap (y2 - 1)).toNat (dflt t_impl_Event)).1 == (y0.getD y1.toNat (dflt t_impl_Event)).1 &&
  ((y3.getD (IntKind.i64.wrap (y2 - 1)).toNat (dflt t_impl_Event)).2.1 == (y0.getD y1.toNat (dflt t_impl_Event)).2.1 &&
    ((y3.getD (IntKind.i64.wrap (y2 - 1)).toNat (dflt t_impl_Event)).2.2.1 == (y0.getD y1.toNat (dflt t_impl_Event)).2.2.1 &&
      ((y3.getD (IntKind.i64.wrap (y2 - 1)).toNat (dflt t_impl_Event)).2.2.2.1 ==
          (y0.getD y1.toNat (dflt t_impl_Event)).2.2.2.1 &&
        ((y3.getD (IntKind.i64.wrap (y2 - 1)).toNat (dflt t_impl_Event)).2.2.2.2.1 ==
            (y0.getD y1.toNat (dflt t_impl_Event)).2.2.2.2.1 &&
          ((y3.getD (IntKind.i64.wrap (y2 - 1)).toNat (dflt t_impl_Event)).2.2.2.2.2.1 ==
              (y0.getD y1.toNat (dflt t_impl_Event)).2.2.2.2.2.1 &&
            ((y3.getD (IntKind.i64.wrap (y2 - 1)).toNat (dflt t_impl_Event)).2.2.2.2.2.2 ==
                (y0.getD y1.toNat (dflt t_impl_Event)).2.2.2.2.2.2 &&
              true))))))) (spec_EventSort_3 k j0 y0 (IntKind.i64.wrap (y1 + 1)) y3) (
         cond (decide (0 ≤ y1)) (
          cond (decide (y1 < (↑y0.length : Int))) (
           cond (decide
  ((y3.length +
        [((y0.getD y1.toNat (dflt t_impl_Event)).1, (y0.getD y1.toNat (dflt t_impl_Event)).2.1,
              (y0.getD y1.toNat (dflt t_impl_Event)).2.2.1, (y0.getD y1.toNat (dflt t_impl_Event)).2.2.2.1,
              (y0.getD y1.toNat (dflt t_impl_Event)).2.2.2.2.1, (y0.getD y1.toNat (dflt t_impl_Event)).2.2.2.2.2.1,
              (y0.getD y1.toNat (dflt t_impl_Event)).2.2.2.2.2.2)].length) *
      56 ≤
    140737488351232)) (spec_EventSort_11 k j0 k y0 y1 y2 (IntKind.i64.wrap
  ((↑(y3 ++
            [((y0.getD y1.toNat (dflt t_impl_Event)).1, (y0.getD y1.toNat (dflt t_impl_Event)).2.1,
                (y0.getD y1.toNat (dflt t_impl_Event)).2.2.1, (y0.getD y1.toNat (dflt t_impl_Event)).2.2.2.1,
                (y0.getD y1.toNat (dflt t_impl_Event)).2.2.2.2.1,
                (y0.getD y1.toNat (dflt t_impl_Event)).2.2.2.2.2.1,
                (y0.getD y1.toNat (dflt t_impl_Event)).2.2.2.2.2.2)]).length :
      Int) -
    1)) (y3 ++
  [((y0.getD y1.toNat (dflt t_impl_Event)).1, (y0.getD y1.toNat (dflt t_impl_Event)).2.1, (y0.getD y1.toNat (dflt t_impl_Event)).2.2.1,
      (y0.getD y1.toNat (dflt t_impl_Event)).2.2.2.1, (y0.getD y1.toNat (dflt t_impl_Event)).2.2.2.2.1,
      (y0.getD y1.toNat (dflt t_impl_Event)).2.2.2.2.2.1, (y0.getD y1.toNat (dflt t_impl_Event)).2.2.2.2.2.2)])) (none)) (none)) (none))) (none)) (none)) (none)) (none)) (none)) (
   cond (decide (0 ≤ y1)) (
    cond (decide (y1 < (↑y0.length : Int))) (
     cond (decide
  ((y3.length +
        [((y0.getD y1.toNat (dflt t_impl_Event)).1, (y0.getD y1.toNat (dflt t_impl_Event)).2.1,
              (y0.getD y1.toNat (dflt t_impl_Event)).2.2.1, (y0.getD y1.toNat (dflt t_impl_Event)).2.2.2.1,
              (y0.getD y1.toNat (dflt t_impl_Event)).2.2.2.2.1, (y0.getD y1.toNat (dflt t_impl_Event)).2.2.2.2.2.1,
              (y0.getD y1.toNat (dflt t_impl_Event)).2.2.2.2.2.2)].length) *
      56 ≤
    140737488351232)) (spec_EventSort_11 k j0 k y0 y1 y2 (IntKind.i64.wrap
  ((↑(y3 ++
            [((y0.getD y1.toNat (dflt t_impl_Event)).1, (y0.getD y1.toNat (dflt t_impl_Event)).2.1,
                (y0.getD y1.toNat (dflt t_impl_Event)).2.2.1, (y0.getD y1.toNat (dflt t_impl_Event)).2.2.2.1,
                (y0.getD y1.toNat (dflt t_impl_Event)).2.2.2.2.1,
                (y0.getD y1.toNat (dflt t_impl_Event)).2.2.2.2.2.1,
                (y0.getD y1.toNat (dflt t_impl_Event)).2.2.2.2.2.2)]).length :
      Int) -
    1)) (y3 ++
  [((y0.getD y1.toNat (dflt t_impl_Event)).1, (y0.getD y1.toNat (dflt t_impl_Event)).2.1, (y0.getD y1.toNat (dflt t_impl_Event)).2.2.1,
      (y0.getD y1.toNat (dflt t_impl_Event)).2.2.2.1, (y0.getD y1.toNat (dflt t_impl_Event)).2.2.2.2.1,
      (y0.getD y1.toNat (dflt t_impl_Event)).2.2.2.2.2.1, (y0.getD y1.toNat (dflt t_impl_Event)).2.2.2.2.2.2)])) (none)) (none)) (none))) := by kernel_rfl
theorem spec_EventSort_11_eq (k : Nat) (j0 : Nat) (j : Nat) (y0 : List V_impl_Event) (y1 : Int) (y2 : Int) (y3 : Int) (y4 : List V_impl_Event) : spec_EventSort_11 k j0 (j + 1) y0 y1 y2 y3 y4 = 
 cond (decide (y3 > y2)) (
  cond (decide (0 ≤ IntKind.i64.wrap (y3 - 1))) (
   cond (decide (IntKind.i64.wrap (y3 - 1) < (↑y4.length : Int))) (
    cond (decide ((IntKind.i64.wrap (y3 - 1)).toNat < y4.length)) (
     cond (decide (0 ≤ y3)) (
      cond (decide (y3 < (↑y4.length : Int))) (
       cond (decide (y3.toNat < y4.length)) (spec_EventSort_11 k j0 j y0 y1 y2 (IntKind.i64.wrap (y3 - 1)) (y4.set y3.toNat
  ((y4.getD (IntKind.i64.wrap (y3 - 1)).toNat (dflt t_impl_Event)).1,
    (y4.getD (IntKind.i64.wrap (y3 - 1)).toNat (dflt t_impl_Event)).2.1,
    (y4.getD (IntKind.i64.wrap (y3 - 1)).toNat (dflt t_impl_Event)).2.2.1,
    (y4.getD (IntKind.i64.wrap (y3 - 1)).toNat (dflt t_impl_Event)).2.2.2.1,
    (y4.getD (IntKind.i64.wrap (y3 - 1)).toNat (dflt t_impl_Event)).2.2.2.2.1,
    (y4.getD (IntKind.i64.wrap (y3 - 1)).toNat (dflt t_impl_Event)).2.2.2.2.2.1,
    (y4.getD (IntKind.i64.wrap (y3 - 1)).toNat (dflt t_impl_Event)).2.2.2.2.2.2))) (none)) (none)) (none)) (none)) (none)) (none)) (
  cond (decide (0 ≤ y1)) (
   cond (decide (y1 < (↑y0.length : Int))) (
    cond (decide (0 ≤ y2)) (
     cond (decide (y2 < (↑y4.length : Int))) (
      cond (decide (y2.toNat < y4.length)) (spec_EventSort_3 k j0 y0 (IntKind.i64.wrap (y1 + 1)) (y4.set y2.toNat
  ((y0.getD y1.toNat (dflt t_impl_Event)).1, (y0.getD y1.toNat (dflt t_impl_Event)).2.1, (y0.getD y1.toNat (dflt t_impl_Event)).2.2.1,
    (y0.getD y1.toNat (dflt t_impl_Event)).2.2.2.1, (y0.getD y1.toNat (dflt t_impl_Event)).2.2.2.2.1,
    (y0.getD y1.toNat (dflt t_impl_Event)).2.2.2.2.2.1, (y0.getD y1.toNat (dflt t_impl_Event)).2.2.2.2.2.2))) (none)) (none)) (none)) (none)) (none)) := by kernel_rfl

noncomputable def impl_keyOf (k : Nat) (a0 : V_impl_Event) : Option ((V_int × (V_int × (V_int × (V_int × (V_int × (V_int × V_int))))))) := evalT E k 52 (.pair t_int (.pair t_int (.pair t_int (.pair t_int (.pair t_int (.pair t_int t_int)))))) [inp t_impl_Event a0] []
theorem impl_keyOf_eq (k : Nat) (a0 : V_impl_Event) : impl_keyOf (k + 1) a0 = some (a0.1, a0.2.1, a0.2.2.1, a0.2.2.2.1, a0.2.2.2.2.1, a0.2.2.2.2.2.1,
  a0.2.2.2.2.2.2) := by kernel_rfl

noncomputable def cmp_isNaN_int (k : Nat) (a0 : V_int) : Option V_bool := evalT E k 81 t_bool [inp t_int a0] []
theorem cmp_isNaN_int_eq (k : Nat) (a0 : V_int) : cmp_isNaN_int (k + 1) a0 = some (a0 != a0) := by kernel_rfl

noncomputable def cmp_Compare_int (k : Nat) (a0 : V_int) (a1 : V_int) : Option V_int := evalT E k 70 t_int [inp t_int a0, inp t_int a1] []
theorem cmp_Compare_int_eq (k : Nat) (a0 : V_int) (a1 : V_int) : cmp_Compare_int (k + 1) a0 a1 = 
 (cmp_isNaN_int k a0).bind fun x0 => 
  (cmp_isNaN_int k a1).bind fun x1 => 
   cond (x0) (
    cond (x1) (some 0) (some (-1))) (
    cond (x1) (some 1) (
     cond (decide (a0 < a1)) (some (-1)) (
      cond (decide (a0 > a1)) (some 1) (some 0)))) := by kernel_rfl

noncomputable def slices_Compare_int_int (k : Nat) (a0 : V_sl_int) (a1 : V_sl_int) : Option V_int := evalT E k 50 t_int [inp t_sl_int a0, inp t_sl_int a1] []
noncomputable def slices_Compare_int_int_2 (k : Nat) (j : Nat) (y0 : List V_int) (y1 : List V_int) (y2 : List V_int) (y3 : Int) (y4 : Int) : Option V_int := loopAt E 50 t_int [true, false, true, false] [] [] k [] j (mkS 36 [(0, .c (.sl 3 t_int y0)), (1, .c (.sl 3 t_int y1)), (9, .c (.sl 3 t_int y2)), (10, .c (.int .i64 y3)), (11, .c (.int .i64 y4))]) []
theorem slices_Compare_int_int_eq (k : Nat) (a0 : V_sl_int) (a1 : V_sl_int) : slices_Compare_int_int (k + 1) a0 a1 = slices_Compare_int_int_2 k k a0 a1 a0 ((↑(List.length a0) : Int)) 0 := by kernel_rfl
theorem slices_Compare_int_int_2_eq (k : Nat) (j : Nat) (y0 : List V_int) (y1 : List V_int) (y2 : List V_int) (y3 : Int) (y4 : Int) : slices_Compare_int_int_2 k (j + 1) y0 y1 y2 y3 y4 = 
 cond (decide (y4 < y3)) (
  cond (decide (0 ≤ y4)) (
   cond (decide (y4 < (↑y2.length : Int))) (
    cond (decide (y4 ≥ (↑y1.length : Int))) (some 1) (
     cond (decide (0 ≤ y4)) (
      cond (decide (y4 < (↑y1.length : Int))) (
       (cmp_Compare_int k (y2.getD y4.toNat (dflt t_int)) (y1.getD y4.toNat (dflt t_int))).bind fun x0 => 
        cond (x0 != 0) (some x0) (slices_Compare_int_int_2 k j y0 y1 y2 y3 (IntKind.i64.wrap (y4 + 1)))) (none)) (none))) (none)) (none)) (
  cond (decide ((↑y0.length : Int) < (↑y1.length : Int))) (some (-1)) (some 0)) := by kernel_rfl

noncomputable def impl_keyLess (k : Nat) (a0 : V_impl_eventKey) (a1 : V_impl_eventKey) : Option V_bool := evalT E k 51 t_bool [inp t_impl_eventKey a0, inp t_impl_eventKey a1] []
theorem impl_keyLess_eq (k : Nat) (a0 : V_impl_eventKey) (a1 : V_impl_eventKey) : impl_keyLess (k + 1) a0 a1 = 
 (slices_Compare_int_int k [a0.1, a0.2.1, a0.2.2.1, a0.2.2.2.1, a0.2.2.2.2.1, a0.2.2.2.2.2.1,
  a0.2.2.2.2.2.2] [a1.1, a1.2.1, a1.2.2.1, a1.2.2.2.1, a1.2.2.2.2.1, a1.2.2.2.2.2.1,
  a1.2.2.2.2.2.2]).bind fun x0 => some (decide (x0 < 0)) := by kernel_rfl

noncomputable def impl_heap_impl_eventKey_push_h0 (k : Nat) (y0 : V_impl_eventKey) (y1 : List V_impl_eventKey) : Option ((Unit × ((List V_impl_eventKey × (Unit × Unit)) × Unit))) := evalT E k 65 (.pair .unit (.pair (.pair (.ow 76 t_impl_eventKey) (.pair (.fnc 51) .unit)) .unit)) [.c (.p 0 0), inp t_impl_eventKey y0] [some (.box 92 [.o 1, .fn 51 []]), some (.own 76 t_impl_eventKey y1)]
noncomputable def impl_heap_impl_eventKey_push_h0_3 (k : Nat) (j : Nat) (y0 : Int) (y1 : List V_impl_eventKey) : Option ((Unit × ((List V_impl_eventKey × (Unit × Unit)) × Unit))) := loopAt E 65 (.pair .unit (.pair (.pair (.ow 76 t_impl_eventKey) (.pair (.fnc 51) .unit)) .unit)) [true, true, true, false] [some (.box 92 [.undef, .undef]), none] [] k [] j (mkS 74 [(0, .c (.p 0 0)), (4, .c (.int .i64 y0))]) [some (.box 92 [.o 1, .fn 51 []]), some (.own 76 t_impl_eventKey y1)]
theorem impl_heap_impl_eventKey_push_h0_eq (k : Nat) (y0 : V_impl_eventKey) (y1 : List V_impl_eventKey) : impl_heap_impl_eventKey_push_h0 (k + 1) y0 y1 = 
 cond (decide
  ((y1.length +
        [(y0.1, y0.2.1, y0.2.2.1, y0.2.2.2.1, y0.2.2.2.2.1, y0.2.2.2.2.2.1,
              y0.2.2.2.2.2.2)].length) *
      56 ≤
    140737488351232)) (impl_heap_impl_eventKey_push_h0_3 k k (IntKind.i64.wrap
  ((↑(y1 ++
            [(y0.1, y0.2.1, y0.2.2.1, y0.2.2.2.1, y0.2.2.2.2.1,
                y0.2.2.2.2.2.1, y0.2.2.2.2.2.2)]).length :
      Int) -
    1)) (y1 ++
  [(y0.1, y0.2.1, y0.2.2.1, y0.2.2.2.1, y0.2.2.2.2.1, y0.2.2.2.2.2.1,
      y0.2.2.2.2.2.2)])) (none) := by kernel_rfl
theorem impl_heap_impl_eventKey_push_h0_3_eq (k : Nat) (j : Nat) (y0 : Int) (y1 : List V_impl_eventKey) : impl_heap_impl_eventKey_push_h0_3 k (j + 1) y0 y1 = 
 cond (decide (y0 > 0)) (
  cond (decide (0 ≤ y0)) (
   cond (decide (y0 < (↑y1.length : Int))) (
    cond (decide (y0.toNat < y1.length)) (
     cond (decide (0 ≤ IntKind.i64.wrap ((IntKind.i64.wrap (y0 - 1)).tdiv 2))) (
      cond (decide (IntKind.i64.wrap ((IntKind.i64.wrap (y0 - 1)).tdiv 2) < (↑y1.length : Int))) (
       cond (decide ((IntKind.i64.wrap ((IntKind.i64.wrap (y0 - 1)).tdiv 2)).toNat < y1.length)) (
        (impl_keyLess k (y1.getD y0.toNat (dflt t_impl_eventKey)) (y1.getD (IntKind.i64.wrap ((IntKind.i64.wrap (y0 - 1)).tdiv 2)).toNat (dflt t_impl_eventKey))).bind fun x0 => 
         cond (!x0) (some (((), (y1, (), ()), ()))) (
          cond (decide (0 ≤ IntKind.i64.wrap ((IntKind.i64.wrap (y0 - 1)).tdiv 2))) (
           cond (decide (IntKind.i64.wrap ((IntKind.i64.wrap (y0 - 1)).tdiv 2) < (↑y1.length : Int))) (
            cond (decide ((IntKind.i64.wrap ((IntKind.i64.wrap (y0 - 1)).tdiv 2)).toNat < y1.length)) (
             cond (decide (0 ≤ y0)) (
              cond (decide (y0 < (↑y1.length : Int))) (
               cond (decide (y0.toNat < y1.length)) (
                cond (decide (0 ≤ y0)) (
                 cond (decide (y0 < (↑y1.length : Int))) (
                  cond (decide (y0.toNat < y1.length)) (
                   cond (decide (0 ≤ IntKind.i64.wrap ((IntKind.i64.wrap (y0 - 1)).tdiv 2))) (
                    cond (decide
  (IntKind.i64.wrap ((IntKind.i64.wrap (y0 - 1)).tdiv 2) <
    (↑(y1.set y0.toNat
            ((y1.getD (IntKind.i64.wrap ((IntKind.i64.wrap (y0 - 1)).tdiv 2)).toNat (dflt t_impl_eventKey)).1,
              (y1.getD (IntKind.i64.wrap ((IntKind.i64.wrap (y0 - 1)).tdiv 2)).toNat (dflt t_impl_eventKey)).2.1,
              (y1.getD (IntKind.i64.wrap ((IntKind.i64.wrap (y0 - 1)).tdiv 2)).toNat (dflt t_impl_eventKey)).2.2.1,
              (y1.getD (IntKind.i64.wrap ((IntKind.i64.wrap (y0 - 1)).tdiv 2)).toNat (dflt t_impl_eventKey)).2.2.2.1,
              (y1.getD (IntKind.i64.wrap ((IntKind.i64.wrap (y0 - 1)).tdiv 2)).toNat (dflt t_impl_eventKey)).2.2.2.2.1,
              (y1.getD (IntKind.i64.wrap ((IntKind.i64.wrap (y0 - 1)).tdiv 2)).toNat
                            (dflt t_impl_eventKey)).2.2.2.2.2.1,
              (y1.getD (IntKind.i64.wrap ((IntKind.i64.wrap (y0 - 1)).tdiv 2)).toNat
                            (dflt t_impl_eventKey)).2.2.2.2.2.2)).length :
      Int))) (
                     cond (decide
  ((IntKind.i64.wrap ((IntKind.i64.wrap (y0 - 1)).tdiv 2)).toNat <
    (y1.set y0.toNat
        ((y1.getD (IntKind.i64.wrap ((IntKind.i64.wrap (y0 - 1)).tdiv 2)).toNat (dflt t_impl_eventKey)).1,
          (y1.getD (IntKind.i64.wrap ((IntKind.i64.wrap (y0 - 1)).tdiv 2)).toNat (dflt t_impl_eventKey)).2.1,
          (y1.getD (IntKind.i64.wrap ((IntKind.i64.wrap (y0 - 1)).tdiv 2)).toNat (dflt t_impl_eventKey)).2.2.1,
          (y1.getD (IntKind.i64.wrap ((IntKind.i64.wrap (y0 - 1)).tdiv 2)).toNat (dflt t_impl_eventKey)).2.2.2.1,
          (y1.getD (IntKind.i64.wrap ((IntKind.i64.wrap (y0 - 1)).tdiv 2)).toNat (dflt t_impl_eventKey)).2.2.2.2.1,
          (y1.getD (IntKind.i64.wrap ((IntKind.i64.wrap (y0 - 1)).tdiv 2)).toNat (dflt t_impl_eventKey)).2.2.2.2.2.1,
          (y1.getD (IntKind.i64.wrap ((IntKind.i64.wrap (y0 - 1)).tdiv 2)).toNat
                        (dflt t_impl_eventKey)).2.2.2.2.2.2)).length)) (impl_heap_impl_eventKey_push_h0_3 k j (IntKind.i64.wrap ((IntKind.i64.wrap (y0 - 1)).tdiv 2)) ((y1.set y0.toNat
      ((y1.getD (IntKind.i64.wrap ((IntKind.i64.wrap (y0 - 1)).tdiv 2)).toNat (dflt t_impl_eventKey)).1,
        (y1.getD (IntKind.i64.wrap ((IntKind.i64.wrap (y0 - 1)).tdiv 2)).toNat (dflt t_impl_eventKey)).2.1,
        (y1.getD (IntKind.i64.wrap ((IntKind.i64.wrap (y0 - 1)).tdiv 2)).toNat (dflt t_impl_eventKey)).2.2.1,
        (y1.getD (IntKind.i64.wrap ((IntKind.i64.wrap (y0 - 1)).tdiv 2)).toNat (dflt t_impl_eventKey)).2.2.2.1,
        (y1.getD (IntKind.i64.wrap ((IntKind.i64.wrap (y0 - 1)).tdiv 2)).toNat (dflt t_impl_eventKey)).2.2.2.2.1,
        (y1.getD (IntKind.i64.wrap ((IntKind.i64.wrap (y0 - 1)).tdiv 2)).toNat (dflt t_impl_eventKey)).2.2.2.2.2.1,
        (y1.getD (IntKind.i64.wrap ((IntKind.i64.wrap (y0 - 1)).tdiv 2)).toNat (dflt t_impl_eventKey)).2.2.2.2.2.2)).set
  (IntKind.i64.wrap ((IntKind.i64.wrap (y0 - 1)).tdiv 2)).toNat
  ((y1.getD y0.toNat (dflt t_impl_eventKey)).1, (y1.getD y0.toNat (dflt t_impl_eventKey)).2.1, (y1.getD y0.toNat (dflt t_impl_eventKey)).2.2.1,
    (y1.getD y0.toNat (dflt t_impl_eventKey)).2.2.2.1, (y1.getD y0.toNat (dflt t_impl_eventKey)).2.2.2.2.1,
    (y1.getD y0.toNat (dflt t_impl_eventKey)).2.2.2.2.2.1, (y1.getD y0.toNat (dflt t_impl_eventKey)).2.2.2.2.2.2))) (none)) (none)) (none)) (none)) (none)) (none)) (none)) (none)) (none)) (none)) (none)) (none))) (none)) (none)) (none)) (none)) (none)) (none)) (some (((), (y1, (), ()), ()))) := by kernel_rfl

noncomputable def impl_heap_impl_eventKey_pop_h0 (k : Nat) (y0 : List V_impl_eventKey) : Option (((V_int × (V_int × (V_int × (V_int × (V_int × (V_int × V_int)))))) × ((List V_impl_eventKey × (Unit × Unit)) × Unit))) := evalT E k 80 (.pair (.pair t_int (.pair t_int (.pair t_int (.pair t_int (.pair t_int (.pair t_int t_int)))))) (.pair (.pair (.ow 76 t_impl_eventKey) (.pair (.fnc 51) .unit)) .unit)) [.c (.p 0 0)] [some (.box 92 [.o 1, .fn 51 []]), some (.own 76 t_impl_eventKey y0)]
noncomputable def impl_heap_impl_eventKey_pop_h0_6 (k : Nat) (j : Nat) (y0 : Int) (y1 : Int) (y2 : V_impl_eventKey) (y3 : V_impl_eventKey) (y4 : List V_impl_eventKey) : Option (((V_int × (V_int × (V_int × (V_int × (V_int × (V_int × V_int)))))) × ((List V_impl_eventKey × (Unit × Unit)) × Unit))) := loopAt E 80 (.pair (.pair t_int (.pair t_int (.pair t_int (.pair t_int (.pair t_int (.pair t_int t_int)))))) (.pair (.pair (.ow 76 t_impl_eventKey) (.pair (.fnc 51) .unit)) .unit)) [true, true, true, true, true, true, false] [some (.box 92 [.undef, .undef]), none] [] k [] j (mkS 123 [(0, .c (.p 0 0)), (2, .c (.p 1 0)), (3, .c (.p 2 0)), (4, .c (.int .i64 y0)), (5, .c (.int .i64 y1))]) [some (.box 92 [.o 3, .fn 51 []]), some (.box 76 (cells t_impl_eventKey y2)), some (.box 76 (cells t_impl_eventKey y3)), some (.own 76 t_impl_eventKey y4)]
theorem impl_heap_impl_eventKey_pop_h0_eq (k : Nat) (y0 : List V_impl_eventKey) : impl_heap_impl_eventKey_pop_h0 (k + 1) y0 = 
 cond (decide (0 < (↑y0.length : Int))) (
  cond (decide (Int.toNat 0 < y0.length)) (
   cond (decide (0 ≤ IntKind.i64.wrap ((↑y0.length : Int) - 1))) (
    cond (decide (IntKind.i64.wrap ((↑y0.length : Int) - 1) < (↑y0.length : Int))) (
     cond (decide ((IntKind.i64.wrap ((↑y0.length : Int) - 1)).toNat < y0.length)) (
      cond (decide (0 < (↑y0.length : Int))) (
       cond (decide (Int.toNat 0 < y0.length)) (
        cond (decide (0 ≤ IntKind.i64.wrap ((↑y0.length : Int) - 1))) (
         cond (decide
  (IntKind.i64.wrap ((↑y0.length : Int) - 1) ≤
    (↑(y0.set (Int.toNat 0)
            ((y0.getD (IntKind.i64.wrap ((↑y0.length : Int) - 1)).toNat (dflt t_impl_eventKey)).1,
              (y0.getD (IntKind.i64.wrap ((↑y0.length : Int) - 1)).toNat (dflt t_impl_eventKey)).2.1,
              (y0.getD (IntKind.i64.wrap ((↑y0.length : Int) - 1)).toNat (dflt t_impl_eventKey)).2.2.1,
              (y0.getD (IntKind.i64.wrap ((↑y0.length : Int) - 1)).toNat (dflt t_impl_eventKey)).2.2.2.1,
              (y0.getD (IntKind.i64.wrap ((↑y0.length : Int) - 1)).toNat (dflt t_impl_eventKey)).2.2.2.2.1,
              (y0.getD (IntKind.i64.wrap ((↑y0.length : Int) - 1)).toNat (dflt t_impl_eventKey)).2.2.2.2.2.1,
              (y0.getD (IntKind.i64.wrap ((↑y0.length : Int) - 1)).toNat (dflt t_impl_eventKey)).2.2.2.2.2.2)).length :
      Int))) (impl_heap_impl_eventKey_pop_h0_6 k k (IntKind.i64.wrap ((↑y0.length : Int) - 1)) 0 ((0, (0, (0, (0, (0, (0, 0))))))) (y0.getD (Int.toNat 0) (dflt t_impl_eventKey)) (List.take (IntKind.i64.wrap ((↑y0.length : Int) - 1)).toNat
  (y0.set (Int.toNat 0)
    ((y0.getD (IntKind.i64.wrap ((↑y0.length : Int) - 1)).toNat (dflt t_impl_eventKey)).1,
      (y0.getD (IntKind.i64.wrap ((↑y0.length : Int) - 1)).toNat (dflt t_impl_eventKey)).2.1,
      (y0.getD (IntKind.i64.wrap ((↑y0.length : Int) - 1)).toNat (dflt t_impl_eventKey)).2.2.1,
      (y0.getD (IntKind.i64.wrap ((↑y0.length : Int) - 1)).toNat (dflt t_impl_eventKey)).2.2.2.1,
      (y0.getD (IntKind.i64.wrap ((↑y0.length : Int) - 1)).toNat (dflt t_impl_eventKey)).2.2.2.2.1,
      (y0.getD (IntKind.i64.wrap ((↑y0.length : Int) - 1)).toNat (dflt t_impl_eventKey)).2.2.2.2.2.1,
      (y0.getD (IntKind.i64.wrap ((↑y0.length : Int) - 1)).toNat (dflt t_impl_eventKey)).2.2.2.2.2.2)))) (none)) (none)) (none)) (none)) (none)) (none)) (none)) (none)) (none) := by kernel_rfl
theorem impl_heap_impl_eventKey_pop_h0_6_eq (k : Nat) (j : Nat) (y0 : Int) (y1 : Int) (y2 : V_impl_eventKey) (y3 : V_impl_eventKey) (y4 : List V_impl_eventKey) : impl_heap_impl_eventKey_pop_h0_6 k (j + 1) y0 y1 y2 y3 y4 = 
 cond (decide (IntKind.i64.wrap (IntKind.i64.wrap (2 * y1) + 1) ≥ y0)) (some (((y3.1, y3.2.1, y3.2.2.1, y3.2.2.2.1, y3.2.2.2.2.1, y3.2.2.2.2.2.1,
    y3.2.2.2.2.2.2),
  (y4, (), ()), ()))) (
  cond (decide (IntKind.i64.wrap (IntKind.i64.wrap (IntKind.i64.wrap (2 * y1) + 1) + 1) < y0)) (
   cond (decide (0 ≤ IntKind.i64.wrap (IntKind.i64.wrap (IntKind.i64.wrap (2 * y1) + 1) + 1))) (
    cond (decide (IntKind.i64.wrap (IntKind.i64.wrap (IntKind.i64.wrap (2 * y1) + 1) + 1) < (↑y4.length : Int))) (
     cond (decide ((IntKind.i64.wrap (IntKind.i64.wrap (IntKind.i64.wrap (2 * y1) + 1) + 1)).toNat < y4.length)) (
      cond (decide (0 ≤ IntKind.i64.wrap (IntKind.i64.wrap (2 * y1) + 1))) (
       cond (decide (IntKind.i64.wrap (IntKind.i64.wrap (2 * y1) + 1) < (↑y4.length : Int))) (
        cond (decide ((IntKind.i64.wrap (IntKind.i64.wrap (2 * y1) + 1)).toNat < y4.length)) (
         (impl_keyLess k (y4.getD (IntKind.i64.wrap (IntKind.i64.wrap (IntKind.i64.wrap (2 * y1) + 1) + 1)).toNat (dflt t_impl_eventKey)) (y4.getD (IntKind.i64.wrap (IntKind.i64.wrap (2 * y1) + 1)).toNat (dflt t_impl_eventKey))).bind fun x0 => 
          cond (x0) (
           cond (decide (0 ≤ IntKind.i64.wrap (IntKind.i64.wrap (IntKind.i64.wrap (2 * y1) + 1) + 1))) (
            cond (decide (IntKind.i64.wrap (IntKind.i64.wrap (IntKind.i64.wrap (2 * y1) + 1) + 1) < (↑y4.length : Int))) (
             cond (decide ((IntKind.i64.wrap (IntKind.i64.wrap (IntKind.i64.wrap (2 * y1) + 1) + 1)).toNat < y4.length)) (
              cond (decide (0 ≤ y1)) (
               cond (decide (y1 < (↑y4.length : Int))) (
                cond (decide (y1.toNat < y4.length)) (
                 (impl_keyLess k (y4.getD (IntKind.i64.wrap (IntKind.i64.wrap (IntKind.i64.wrap (2 * y1) + 1) + 1)).toNat (dflt t_impl_eventKey)) (y4.getD y1.toNat (dflt t_impl_eventKey))).bind fun x1 => 
                  cond (!x1) (some (((y3.1, y3.2.1, y3.2.2.1, y3.2.2.2.1, y3.2.2.2.2.1, y3.2.2.2.2.2.1,
    y3.2.2.2.2.2.2),
  (y4, (), ()), ()))) (
                   cond (decide (0 ≤ IntKind.i64.wrap (IntKind.i64.wrap (IntKind.i64.wrap (2 * y1) + 1) + 1))) (
                    cond (decide (IntKind.i64.wrap (IntKind.i64.wrap (IntKind.i64.wrap (2 * y1) + 1) + 1) < (↑y4.length : Int))) (
                     cond (decide ((IntKind.i64.wrap (IntKind.i64.wrap (IntKind.i64.wrap (2 * y1) + 1) + 1)).toNat < y4.length)) (
                      cond (decide (0 ≤ y1)) (
                       cond (decide (y1 < (↑y4.length : Int))) (
                        cond (decide (y1.toNat < y4.length)) (
                         cond (decide (0 ≤ y1)) (
                          cond (decide (y1 < (↑y4.length : Int))) (
                           cond (decide (y1.toNat < y4.length)) (
                            cond (decide (0 ≤ IntKind.i64.wrap (IntKind.i64.wrap (IntKind.i64.wrap (2 * y1) + 1) + 1))) (
                             cond (decide
  (IntKind.i64.wrap (IntKind.i64.wrap (IntKind.i64.wrap (2 * y1) + 1) + 1) <
    (↑(y4.set y1.toNat
            ((y4.getD (IntKind.i64.wrap (IntKind.i64.wrap (IntKind.i64.wrap (2 * y1) + 1) + 1)).toNat (dflt t_impl_eventKey)).1,
              (y4.getD (IntKind.i64.wrap (IntKind.i64.wrap (IntKind.i64.wrap (2 * y1) + 1) + 1)).toNat
                    (dflt t_impl_eventKey)).2.1,
              (y4.getD (IntKind.i64.wrap (IntKind.i64.wrap (IntKind.i64.wrap (2 * y1) + 1) + 1)).toNat
                      (dflt t_impl_eventKey)).2.2.1,
              (y4.getD (IntKind.i64.wrap (IntKind.i64.wrap (IntKind.i64.wrap (2 * y1) + 1) + 1)).toNat
                        (dflt t_impl_eventKey)).2.2.2.1,
              (y4.getD (IntKind.i64.wrap (IntKind.i64.wrap (IntKind.i64.wrap (2 * y1) + 1) + 1)).toNat
                          (dflt t_impl_eventKey)).2.2.2.2.1,
              (y4.getD (IntKind.i64.wrap (IntKind.i64.wrap (IntKind.i64.wrap (2 * y1) + 1) + 1)).toNat
                            (dflt t_impl_eventKey)).2.2.2.2.2.1,
              (y4.getD (IntKind.i64.wrap (IntKind.i64.wrap (IntKind.i64.wrap (2 * y1) + 1) + 1)).toNat
                            (dflt t_impl_eventKey)).2.2.2.2.2.2)).length :
      Int))) (
                              cond (decide
  ((IntKind.i64.wrap (IntKind.i64.wrap (IntKind.i64.wrap (2 * y1) + 1) + 1)).toNat <
    (y4.set y1.toNat
        ((y4.getD (IntKind.i64.wrap (IntKind.i64.wrap (IntKind.i64.wrap (2 * y1) + 1) + 1)).toNat (dflt t_impl_eventKey)).1,
          (y4.getD (IntKind.i64.wrap (IntKind.i64.wrap (IntKind.i64.wrap (2 * y1) + 1) + 1)).toNat (dflt t_impl_eventKey)).2.1,
          (y4.getD (IntKind.i64.wrap (IntKind.i64.wrap (IntKind.i64.wrap (2 * y1) + 1) + 1)).toNat
                  (dflt t_impl_eventKey)).2.2.1,
          (y4.getD (IntKind.i64.wrap (IntKind.i64.wrap (IntKind.i64.wrap (2 * y1) + 1) + 1)).toNat
                    (dflt t_impl_eventKey)).2.2.2.1,
          (y4.getD (IntKind.i64.wrap (IntKind.i64.wrap (IntKind.i64.wrap (2 * y1) + 1) + 1)).toNat
                      (dflt t_impl_eventKey)).2.2.2.2.1,
          (y4.getD (IntKind.i64.wrap (IntKind.i64.wrap (IntKind.i64.wrap (2 * y1) + 1) + 1)).toNat
                        (dflt t_impl_eventKey)).2.2.2.2.2.1,
          (y4.getD (IntKind.i64.wrap (IntKind.i64.wrap (IntKind.i64.wrap (2 * y1) + 1) + 1)).toNat
                        (dflt t_impl_eventKey)).2.2.2.2.2.2)).length)) (impl_heap_impl_eventKey_pop_h0_6 k j y0 (IntKind.i64.wrap (IntKind.i64.wrap (IntKind.i64.wrap (2 * y1) + 1) + 1)) y2 y3 ((y4.set y1.toNat
      ((y4.getD (IntKind.i64.wrap (IntKind.i64.wrap (IntKind.i64.wrap (2 * y1) + 1) + 1)).toNat (dflt t_impl_eventKey)).1,
        (y4.getD (IntKind.i64.wrap (IntKind.i64.wrap (IntKind.i64.wrap (2 * y1) + 1) + 1)).toNat (dflt t_impl_eventKey)).2.1,
        (y4.getD (IntKind.i64.wrap (IntKind.i64.wrap (IntKind.i64.wrap (2 * y1) + 1) + 1)).toNat
                (dflt t_impl_eventKey)).2.2.1,
        (y4.getD (IntKind.i64.wrap (IntKind.i64.wrap (IntKind.i64.wrap (2 * y1) + 1) + 1)).toNat
                  (dflt t_impl_eventKey)).2.2.2.1,
        (y4.getD (IntKind.i64.wrap (IntKind.i64.wrap (IntKind.i64.wrap (2 * y1) + 1) + 1)).toNat
                    (dflt t_impl_eventKey)).2.2.2.2.1,
        (y4.getD (IntKind.i64.wrap (IntKind.i64.wrap (IntKind.i64.wrap (2 * y1) + 1) + 1)).toNat
                      (dflt t_impl_eventKey)).2.2.2.2.2.1,
        (y4.getD (IntKind.i64.wrap (IntKind.i64.wrap (IntKind.i64.wrap (2 * y1) + 1) + 1)).toNat
                      (dflt t_impl_eventKey)).2.2.2.2.2.2)).set
  (IntKind.i64.wrap (IntKind.i64.wrap (IntKind.i64.wrap (2 * y1) + 1) + 1)).toNat
  ((y4.getD y1.toNat (dflt t_impl_eventKey)).1, (y4.getD y1.toNat (dflt t_impl_eventKey)).2.1, (y4.getD y1.toNat (dflt t_impl_eventKey)).2.2.1,
    (y4.getD y1.toNat (dflt t_impl_eventKey)).2.2.2.1, (y4.getD y1.toNat (dflt t_impl_eventKey)).2.2.2.2.1,
    (y4.getD y1.toNat (dflt t_impl_eventKey)).2.2.2.2.2.1, (y4.getD y1.toNat (dflt t_impl_eventKey)).2.2.2.2.2.2))) (none)) (none)) (none)) (none)) (none)) (none)) (none)) (none)) (none)) (none)) (none)) (none))) (none)) (none)) (none)) (none)) (none)) (none)) (
           cond (decide (0 ≤ IntKind.i64.wrap (IntKind.i64.wrap (2 * y1) + 1))) (
            cond (decide (IntKind.i64.wrap (IntKind.i64.wrap (2 * y1) + 1) < (↑y4.length : Int))) (
             cond (decide ((IntKind.i64.wrap (IntKind.i64.wrap (2 * y1) + 1)).toNat < y4.length)) (
              cond (decide (0 ≤ y1)) (
               cond (decide (y1 < (↑y4.length : Int))) (
                cond (decide (y1.toNat < y4.length)) (
                 (impl_keyLess k (y4.getD (IntKind.i64.wrap (IntKind.i64.wrap (2 * y1) + 1)).toNat (dflt t_impl_eventKey)) (y4.getD y1.toNat (dflt t_impl_eventKey))).bind fun x2 => 
                  cond (!x2) (some (((y3.1, y3.2.1, y3.2.2.1, y3.2.2.2.1, y3.2.2.2.2.1, y3.2.2.2.2.2.1,
    y3.2.2.2.2.2.2),
  (y4, (), ()), ()))) (
                   cond (decide (0 ≤ IntKind.i64.wrap (IntKind.i64.wrap (2 * y1) + 1))) (
                    cond (decide (IntKind.i64.wrap (IntKind.i64.wrap (2 * y1) + 1) < (↑y4.length : Int))) (
                     cond (decide ((IntKind.i64.wrap (IntKind.i64.wrap (2 * y1) + 1)).toNat < y4.length)) (
                      cond (decide (0 ≤ y1)) (
                       cond (decide (y1 < (↑y4.length : Int))) (
                        cond (decide (y1.toNat < y4.length)) (
                         cond (decide (0 ≤ y1)) (
                          cond (decide (y1 < (↑y4.length : Int))) (
                           cond (decide (y1.toNat < y4.length)) (
                            cond (decide (0 ≤ IntKind.i64.wrap (IntKind.i64.wrap (2 * y1) + 1))) (
                             cond (decide
  (IntKind.i64.wrap (IntKind.i64.wrap (2 * y1) + 1) <
    (↑(y4.set y1.toNat
            ((y4.getD (IntKind.i64.wrap (IntKind.i64.wrap (2 * y1) + 1)).toNat (dflt t_impl_eventKey)).1,
              (y4.getD (IntKind.i64.wrap (IntKind.i64.wrap (2 * y1) + 1)).toNat (dflt t_impl_eventKey)).2.1,
              (y4.getD (IntKind.i64.wrap (IntKind.i64.wrap (2 * y1) + 1)).toNat (dflt t_impl_eventKey)).2.2.1,
              (y4.getD (IntKind.i64.wrap (IntKind.i64.wrap (2 * y1) + 1)).toNat (dflt t_impl_eventKey)).2.2.2.1,
              (y4.getD (IntKind.i64.wrap (IntKind.i64.wrap (2 * y1) + 1)).toNat (dflt t_impl_eventKey)).2.2.2.2.1,
              (y4.getD (IntKind.i64.wrap (IntKind.i64.wrap (2 * y1) + 1)).toNat (dflt t_impl_eventKey)).2.2.2.2.2.1,
              (y4.getD (IntKind.i64.wrap (IntKind.i64.wrap (2 * y1) + 1)).toNat
                            (dflt t_impl_eventKey)).2.2.2.2.2.2)).length :
      Int))) (
                              cond (decide
  ((IntKind.i64.wrap (IntKind.i64.wrap (2 * y1) + 1)).toNat <
    (y4.set y1.toNat
        ((y4.getD (IntKind.i64.wrap (IntKind.i64.wrap (2 * y1) + 1)).toNat (dflt t_impl_eventKey)).1,
          (y4.getD (IntKind.i64.wrap (IntKind.i64.wrap (2 * y1) + 1)).toNat (dflt t_impl_eventKey)).2.1,
          (y4.getD (IntKind.i64.wrap (IntKind.i64.wrap (2 * y1) + 1)).toNat (dflt t_impl_eventKey)).2.2.1,
          (y4.getD (IntKind.i64.wrap (IntKind.i64.wrap (2 * y1) + 1)).toNat (dflt t_impl_eventKey)).2.2.2.1,
          (y4.getD (IntKind.i64.wrap (IntKind.i64.wrap (2 * y1) + 1)).toNat (dflt t_impl_eventKey)).2.2.2.2.1,
          (y4.getD (IntKind.i64.wrap (IntKind.i64.wrap (2 * y1) + 1)).toNat (dflt t_impl_eventKey)).2.2.2.2.2.1,
          (y4.getD (IntKind.i64.wrap (IntKind.i64.wrap (2 * y1) + 1)).toNat
                        (dflt t_impl_eventKey)).2.2.2.2.2.2)).length)) (impl_heap_impl_eventKey_pop_h0_6 k j y0 (IntKind.i64.wrap (IntKind.i64.wrap (2 * y1) + 1)) y2 y3 ((y4.set y1.toNat
      ((y4.getD (IntKind.i64.wrap (IntKind.i64.wrap (2 * y1) + 1)).toNat (dflt t_impl_eventKey)).1,
        (y4.getD (IntKind.i64.wrap (IntKind.i64.wrap (2 * y1) + 1)).toNat (dflt t_impl_eventKey)).2.1,
        (y4.getD (IntKind.i64.wrap (IntKind.i64.wrap (2 * y1) + 1)).toNat (dflt t_impl_eventKey)).2.2.1,
        (y4.getD (IntKind.i64.wrap (IntKind.i64.wrap (2 * y1) + 1)).toNat (dflt t_impl_eventKey)).2.2.2.1,
        (y4.getD (IntKind.i64.wrap (IntKind.i64.wrap (2 * y1) + 1)).toNat (dflt t_impl_eventKey)).2.2.2.2.1,
        (y4.getD (IntKind.i64.wrap (IntKind.i64.wrap (2 * y1) + 1)).toNat (dflt t_impl_eventKey)).2.2.2.2.2.1,
        (y4.getD (IntKind.i64.wrap (IntKind.i64.wrap (2 * y1) + 1)).toNat (dflt t_impl_eventKey)).2.2.2.2.2.2)).set
  (IntKind.i64.wrap (IntKind.i64.wrap (2 * y1) + 1)).toNat
  ((y4.getD y1.toNat (dflt t_impl_eventKey)).1, (y4.getD y1.toNat (dflt t_impl_eventKey)).2.1, (y4.getD y1.toNat (dflt t_impl_eventKey)).2.2.1,
    (y4.getD y1.toNat (dflt t_impl_eventKey)).2.2.2.1, (y4.getD y1.toNat (dflt t_impl_eventKey)).2.2.2.2.1,
    (y4.getD y1.toNat (dflt t_impl_eventKey)).2.2.2.2.2.1, (y4.getD y1.toNat (dflt t_impl_eventKey)).2.2.2.2.2.2))) (none)) (none)) (none)) (none)) (none)) (none)) (none)) (none)) (none)) (none)) (none)) (none))) (none)) (none)) (none)) (none)) (none)) (none))) (none)) (none)) (none)) (none)) (none)) (none)) (
   cond (decide (0 ≤ IntKind.i64.wrap (IntKind.i64.wrap (2 * y1) + 1))) (
    cond (decide (IntKind.i64.wrap (IntKind.i64.wrap (2 * y1) + 1) < (↑y4.length : Int))) (
     cond (decide ((IntKind.i64.wrap (IntKind.i64.wrap (2 * y1) + 1)).toNat < y4.length)) (
      cond (decide (0 ≤ y1)) (
       cond (decide (y1 < (↑y4.length : Int))) (
        cond (decide (y1.toNat < y4.length)) (
         (impl_keyLess k (y4.getD (IntKind.i64.wrap (IntKind.i64.wrap (2 * y1) + 1)).toNat (dflt t_impl_eventKey)) (y4.getD y1.toNat (dflt t_impl_eventKey))).bind fun x3 => 
          cond (!x3) (some (((y3.1, y3.2.1, y3.2.2.1, y3.2.2.2.1, y3.2.2.2.2.1, y3.2.2.2.2.2.1,
    y3.2.2.2.2.2.2),
  (y4, (), ()), ()))) (
           cond (decide (0 ≤ IntKind.i64.wrap (IntKind.i64.wrap (2 * y1) + 1))) (
            cond (decide (IntKind.i64.wrap (IntKind.i64.wrap (2 * y1) + 1) < (↑y4.length : Int))) (
             cond (decide ((IntKind.i64.wrap (IntKind.i64.wrap (2 * y1) + 1)).toNat < y4.length)) (
              cond (decide (0 ≤ y1)) (
               cond (decide (y1 < (↑y4.length : Int))) (
                cond (decide (y1.toNat < y4.length)) (
                 cond (decide (0 ≤ y1)) (
                  cond (decide (y1 < (↑y4.length : Int))) (
                   cond (decide (y1.toNat < y4.length)) (
                    cond (decide (0 ≤ IntKind.i64.wrap (IntKind.i64.wrap (2 * y1) + 1))) (
                     cond (decide
  (IntKind.i64.wrap (IntKind.i64.wrap (2 * y1) + 1) <
    (↑(y4.set y1.toNat
            ((y4.getD (IntKind.i64.wrap (IntKind.i64.wrap (2 * y1) + 1)).toNat (dflt t_impl_eventKey)).1,
              (y4.getD (IntKind.i64.wrap (IntKind.i64.wrap (2 * y1) + 1)).toNat (dflt t_impl_eventKey)).2.1,
              (y4.getD (IntKind.i64.wrap (IntKind.i64.wrap (2 * y1) + 1)).toNat (dflt t_impl_eventKey)).2.2.1,
              (y4.getD (IntKind.i64.wrap (IntKind.i64.wrap (2 * y1) + 1)).toNat (dflt t_impl_eventKey)).2.2.2.1,
              (y4.getD (IntKind.i64.wrap (IntKind.i64.wrap (2 * y1) + 1)).toNat (dflt t_impl_eventKey)).2.2.2.2.1,
              (y4.getD (IntKind.i64.wrap (IntKind.i64.wrap (2 * y1) + 1)).toNat (dflt t_impl_eventKey)).2.2.2.2.2.1,
              (y4.getD (IntKind.i64.wrap (IntKind.i64.wrap (2 * y1) + 1)).toNat
                            (dflt t_impl_eventKey)).2.2.2.2.2.2)).length :
      Int))) (
                      cond (decide
  ((IntKind.i64.wrap (IntKind.i64.wrap (2 * y1) + 1)).toNat <
    (y4.set y1.toNat
        ((y4.getD (IntKind.i64.wrap (IntKind.i64.wrap (2 * y1) + 1)).toNat (dflt t_impl_eventKey)).1,
          (y4.getD (IntKind.i64.wrap (IntKind.i64.wrap (2 * y1) + 1)).toNat (dflt t_impl_eventKey)).2.1,
          (y4.getD (IntKind.i64.wrap (IntKind.i64.wrap (2 * y1) + 1)).toNat (dflt t_impl_eventKey)).2.2.1,
          (y4.getD (IntKind.i64.wrap (IntKind.i64.wrap (2 * y1) + 1)).toNat (dflt t_impl_eventKey)).2.2.2.1,
          (y4.getD (IntKind.i64.wrap (IntKind.i64.wrap (2 * y1) + 1)).toNat (dflt t_impl_eventKey)).2.2.2.2.1,
          (y4.getD (IntKind.i64.wrap (IntKind.i64.wrap (2 * y1) + 1)).toNat (dflt t_impl_eventKey)).2.2.2.2.2.1,
          (y4.getD (IntKind.i64.wrap (IntKind.i64.wrap (2 * y1) + 1)).toNat
                        (dflt t_impl_eventKey)).2.2.2.2.2.2)).length)) (impl_heap_impl_eventKey_pop_h0_6 k j y0 (IntKind.i64.wrap (IntKind.i64.wrap (2 * y1) + 1)) y2 y3 ((y4.set y1.toNat
      ((y4.getD (IntKind.i64.wrap (IntKind.i64.wrap (2 * y1) + 1)).toNat (dflt t_impl_eventKey)).1,
        (y4.getD (IntKind.i64.wrap (IntKind.i64.wrap (2 * y1) + 1)).toNat (dflt t_impl_eventKey)).2.1,
        (y4.getD (IntKind.i64.wrap (IntKind.i64.wrap (2 * y1) + 1)).toNat (dflt t_impl_eventKey)).2.2.1,
        (y4.getD (IntKind.i64.wrap (IntKind.i64.wrap (2 * y1) + 1)).toNat (dflt t_impl_eventKey)).2.2.2.1,
        (y4.getD (IntKind.i64.wrap (IntKind.i64.wrap (2 * y1) + 1)).toNat (dflt t_impl_eventKey)).2.2.2.2.1,
        (y4.getD (IntKind.i64.wrap (IntKind.i64.wrap (2 * y1) + 1)).toNat (dflt t_impl_eventKey)).2.2.2.2.2.1,
        (y4.getD (IntKind.i64.wrap (IntKind.i64.wrap (2 * y1) + 1)).toNat (dflt t_impl_eventKey)).2.2.2.2.2.2)).set
  (IntKind.i64.wrap (IntKind.i64.wrap (2 * y1) + 1)).toNat
  ((y4.getD y1.toNat (dflt t_impl_eventKey)).1, (y4.getD y1.toNat (dflt t_impl_eventKey)).2.1, (y4.getD y1.toNat (dflt t_impl_eventKey)).2.2.1,
    (y4.getD y1.toNat (dflt t_impl_eventKey)).2.2.2.1, (y4.getD y1.toNat (dflt t_impl_eventKey)).2.2.2.2.1,
    (y4.getD y1.toNat (dflt t_impl_eventKey)).2.2.2.2.2.1, (y4.getD y1.toNat (dflt t_impl_eventKey)).2.2.2.2.2.2))) (none)) (none)) (none)) (none)) (none)) (none)) (none)) (none)) (none)) (none)) (none)) (none))) (none)) (none)) (none)) (none)) (none)) (none))) := by kernel_rfl

noncomputable def impl_heap_impl_eventKey_drain_h0 (k : Nat) (y0 : List V_impl_eventKey) : Option ((List V_impl_eventKey × ((List V_impl_eventKey × (Unit × Unit)) × Unit))) := evalT E k 66 (.pair (.ow 76 t_impl_eventKey) (.pair (.pair (.ow 76 t_impl_eventKey) (.pair (.fnc 51) .unit)) .unit)) [.c (.p 0 0)] [some (.box 92 [.o 1, .fn 51 []]), some (.own 76 t_impl_eventKey y0)]
noncomputable def impl_heap_impl_eventKey_drain_h0_2 (k : Nat) (j : Nat) (y0 : List V_impl_eventKey) (y1 : List V_impl_eventKey) : Option ((List V_impl_eventKey × ((List V_impl_eventKey × (Unit × Unit)) × Unit))) := loopAt E 66 (.pair (.ow 76 t_impl_eventKey) (.pair (.pair (.ow 76 t_impl_eventKey) (.pair (.fnc 51) .unit)) .unit)) [true, true, false, false] [some (.box 92 [.undef, .undef]), none] [] k [] j (mkS 22 [(0, .c (.p 0 0)), (3, .c (.o 1))]) [some (.box 92 [.o 2, .fn 51 []]), some (.own 76 t_impl_eventKey y0), some (.own 76 t_impl_eventKey y1)]
theorem impl_heap_impl_eventKey_drain_h0_eq (k : Nat) (y0 : List V_impl_eventKey) : impl_heap_impl_eventKey_drain_h0 (k + 1) y0 = 
 cond (decide ((↑y0.length : Int).toNat * 56 ≤ 140737488351232)) (impl_heap_impl_eventKey_drain_h0_2 k k (List.replicate (Int.toNat 0) (dflt t_impl_eventKey)) y0) (none) := by kernel_rfl
theorem impl_heap_impl_eventKey_drain_h0_2_eq (k : Nat) (j : Nat) (y0 : List V_impl_eventKey) (y1 : List V_impl_eventKey) : impl_heap_impl_eventKey_drain_h0_2 k (j + 1) y0 y1 = 
 cond (decide ((↑y1.length : Int) > 0)) (
  (impl_heap_impl_eventKey_pop_h0 k y1).bind fun x0 => 
   cond (decide
  ((y0.length +
        [(x0.1.1, x0.1.2.1, x0.1.2.2.1, x0.1.2.2.2.1, x0.1.2.2.2.2.1,
              x0.1.2.2.2.2.2.1, x0.1.2.2.2.2.2.2)].length) *
      56 ≤
    140737488351232)) (impl_heap_impl_eventKey_drain_h0_2 k j (y0 ++
  [(x0.1.1, x0.1.2.1, x0.1.2.2.1, x0.1.2.2.2.1, x0.1.2.2.2.2.1,
      x0.1.2.2.2.2.2.1, x0.1.2.2.2.2.2.2)]) x0.2.1.1) (none)) (some ((y0, (y1, (), ()), ()))) := by kernel_rfl

noncomputable def impl_eventKey_event (k : Nat) (a0 : V_impl_eventKey) : Option ((V_int × (V_int × (V_int × (V_int × (V_int × (V_int × V_int))))))) := evalT E k 67 (.pair t_int (.pair t_int (.pair t_int (.pair t_int (.pair t_int (.pair t_int t_int)))))) [inp t_impl_eventKey a0] []
theorem impl_eventKey_event_eq (k : Nat) (a0 : V_impl_eventKey) : impl_eventKey_event (k + 1) a0 = some (a0.1, a0.2.1, a0.2.2.1, a0.2.2.2.1, a0.2.2.2.2.1, a0.2.2.2.2.2.1,
  a0.2.2.2.2.2.2) := by kernel_rfl

noncomputable def impl_EventSort (k : Nat) (a0 : V_sl_impl_Event) : Option (List V_impl_Event) := evalT E k 44 (.ow 28 t_impl_Event) [inp t_sl_impl_Event a0] []
noncomputable def impl_EventSort_4 (k : Nat) (j : Nat) (y0 : List V_impl_Event) (y1 : Int) (y2 : Int) (y3 : List (List Int × Int)) (y4 : List V_impl_eventKey) : Option (List V_impl_Event) := loopAt E 44 (.ow 28 t_impl_Event) [true, true, true, false, true, false] [] [] k [] j (mkS 51 [(3, .c (.p 0 0)), (4, .c (.o 1)), (13, .c (.sl 28 t_impl_Event y0)), (14, .c (.int .i64 y1)), (15, .c (.int .i64 y2))]) [some (.box 92 [.o 2, .fn 51 []]), some (.mp 93 7 y3), some (.own 76 t_impl_eventKey y4)]
noncomputable def impl_EventSort_13 (k : Nat) (j : Nat) (y0 : Int) (y1 : Int) (y2 : List V_impl_Event) (y3 : List V_impl_eventKey) : Option (List V_impl_Event) := loopAt E 44 (.ow 28 t_impl_Event) [true, true, true, true, true, false, true, false] [] [] k [] j (mkS 51 [(8, .c (.o 0)), (38, .c (.o 1)), (39, .c (.int .i64 y0)), (40, .c (.int .i64 y1))]) [some (.own 28 t_impl_Event y2), some (.own 76 t_impl_eventKey y3)]
theorem impl_EventSort_eq (k : Nat) (a0 : V_sl_impl_Event) : impl_EventSort (k + 1) a0 = impl_EventSort_4 k k a0 ((↑(List.length a0) : Int)) 0 [] [] := by kernel_rfl
theorem impl_EventSort_4_eq (k : Nat) (j : Nat) (y0 : List V_impl_Event) (y1 : Int) (y2 : Int) (y3 : List (List Int × Int)) (y4 : List V_impl_eventKey) : impl_EventSort_4 k (j + 1) y0 y1 y2 y3 y4 = 
 cond (decide (y2 < y1)) (
  cond (decide (0 ≤ y2)) (
   cond (decide (y2 < (↑y0.length : Int))) (
    (impl_keyOf k (y0.getD y2.toNat (dflt t_impl_Event))).bind fun x0 => 
     cond ((Lit.int IntKind.i64 x0.1).wf) (
      cond ((Lit.int IntKind.i64 x0.2.1).wf) (
       cond ((Lit.int IntKind.i64 x0.2.2.1).wf) (
        cond ((Lit.int IntKind.i64 x0.2.2.2.1).wf) (
         cond ((Lit.int IntKind.i64 x0.2.2.2.2.1).wf) (
          cond ((Lit.int IntKind.i64 x0.2.2.2.2.2.1).wf) (
           cond ((Lit.int IntKind.i64 x0.2.2.2.2.2.2).wf) (
            cond ((Lit.int IntKind.i64 x0.1).wf) (
             cond ((Lit.int IntKind.i64 x0.2.1).wf) (
              cond ((Lit.int IntKind.i64 x0.2.2.1).wf) (
               cond ((Lit.int IntKind.i64 x0.2.2.2.1).wf) (
                cond ((Lit.int IntKind.i64 x0.2.2.2.2.1).wf) (
                 cond ((Lit.int IntKind.i64 x0.2.2.2.2.2.1).wf) (
                  cond ((Lit.int IntKind.i64 x0.2.2.2.2.2.2).wf) (
                   cond (decide
  ((↑(mix y3
            [x0.1, x0.2.1, x0.2.2.1, x0.2.2.2.1, x0.2.2.2.2.1, x0.2.2.2.2.2.1,
              x0.2.2.2.2.2.2]) :
        Int).toNat <
    (madd y3
        [x0.1, x0.2.1, x0.2.2.1, x0.2.2.2.1, x0.2.2.2.2.1, x0.2.2.2.2.2.1,
          x0.2.2.2.2.2.2]).length)) (
                    cond ((Lit.int IntKind.i64 x0.1).wf) (
                     cond ((Lit.int IntKind.i64 x0.2.1).wf) (
                      cond ((Lit.int IntKind.i64 x0.2.2.1).wf) (
                       cond ((Lit.int IntKind.i64 x0.2.2.2.1).wf) (
                        cond ((Lit.int IntKind.i64 x0.2.2.2.2.1).wf) (
                         cond ((Lit.int IntKind.i64 x0.2.2.2.2.2.1).wf) (
                          cond ((Lit.int IntKind.i64 x0.2.2.2.2.2.2).wf) (
                           cond (mval
    (mput
      (madd y3
        [x0.1, x0.2.1, x0.2.2.1, x0.2.2.2.1, x0.2.2.2.2.1, x0.2.2.2.2.2.1,
          x0.2.2.2.2.2.2])
      (↑(mix y3
              [x0.1, x0.2.1, x0.2.2.1, x0.2.2.2.1, x0.2.2.2.2.1,
                x0.2.2.2.2.2.1, x0.2.2.2.2.2.2]) :
          Int).toNat
      (IntKind.i64.wrap
        (mval y3
            [x0.1, x0.2.1, x0.2.2.1, x0.2.2.2.1, x0.2.2.2.2.1, x0.2.2.2.2.2.1,
              x0.2.2.2.2.2.2] +
          1)))
    [x0.1, x0.2.1, x0.2.2.1, x0.2.2.2.1, x0.2.2.2.2.1, x0.2.2.2.2.2.1,
      x0.2.2.2.2.2.2] ==
  1) (
                            (impl_heap_impl_eventKey_push_h0 k x0 y4).bind fun x1 => impl_EventSort_4 k j y0 y1 (IntKind.i64.wrap (y2 + 1)) (mput
  (madd y3
    [x0.1, x0.2.1, x0.2.2.1, x0.2.2.2.1, x0.2.2.2.2.1, x0.2.2.2.2.2.1,
      x0.2.2.2.2.2.2])
  (↑(mix y3
          [x0.1, x0.2.1, x0.2.2.1, x0.2.2.2.1, x0.2.2.2.2.1, x0.2.2.2.2.2.1,
            x0.2.2.2.2.2.2]) :
      Int).toNat
  (IntKind.i64.wrap
    (mval y3
        [x0.1, x0.2.1, x0.2.2.1, x0.2.2.2.1, x0.2.2.2.2.1, x0.2.2.2.2.2.1,
          x0.2.2.2.2.2.2] +
      1))) x1.2.1.1) (impl_EventSort_4 k j y0 y1 (IntKind.i64.wrap (y2 + 1)) (mput
  (madd y3
    [x0.1, x0.2.1, x0.2.2.1, x0.2.2.2.1, x0.2.2.2.2.1, x0.2.2.2.2.2.1,
      x0.2.2.2.2.2.2])
  (↑(mix y3
          [x0.1, x0.2.1, x0.2.2.1, x0.2.2.2.1, x0.2.2.2.2.1, x0.2.2.2.2.2.1,
            x0.2.2.2.2.2.2]) :
      Int).toNat
  (IntKind.i64.wrap
    (mval y3
        [x0.1, x0.2.1, x0.2.2.1, x0.2.2.2.1, x0.2.2.2.2.1, x0.2.2.2.2.2.1,
          x0.2.2.2.2.2.2] +
      1))) y4)) (none)) (none)) (none)) (none)) (none)) (none)) (none)) (none)) (none)) (none)) (none)) (none)) (none)) (none)) (none)) (none)) (none)) (none)) (none)) (none)) (none)) (none)) (none)) (none)) (
  cond (decide ((↑y4.length : Int).toNat * 56 ≤ 140737488351232)) (
   (impl_heap_impl_eventKey_drain_h0 k y4).bind fun x2 => impl_EventSort_13 k k ((↑(List.length x2.1) : Int)) 0 (List.replicate (Int.toNat 0) (dflt t_impl_Event)) x2.1) (none)) := by kernel_rfl
theorem impl_EventSort_13_eq (k : Nat) (j : Nat) (y0 : Int) (y1 : Int) (y2 : List V_impl_Event) (y3 : List V_impl_eventKey) : impl_EventSort_13 k (j + 1) y0 y1 y2 y3 = 
 cond (decide (y1 < y0)) (
  cond (decide (0 ≤ y1)) (
   cond (decide (y1 < (↑y3.length : Int))) (
    cond (decide (y1.toNat < y3.length)) (
     (impl_eventKey_event k (y3.getD y1.toNat (dflt t_impl_eventKey))).bind fun x0 => 
      cond (decide
  ((y2.length +
        [(x0.1, x0.2.1, x0.2.2.1, x0.2.2.2.1, x0.2.2.2.2.1, x0.2.2.2.2.2.1,
              x0.2.2.2.2.2.2)].length) *
      56 ≤
    140737488351232)) (impl_EventSort_13 k j y0 (IntKind.i64.wrap (y1 + 1)) (y2 ++
  [(x0.1, x0.2.1, x0.2.2.1, x0.2.2.2.1, x0.2.2.2.2.1, x0.2.2.2.2.2.1,
      x0.2.2.2.2.2.2)]) y3) (none)) (none)) (none)) (none)) (some y2) := by kernel_rfl

noncomputable def laws_ltEvents (k : Nat) (a0 : V_sl_impl_Event) (a1 : V_sl_impl_Event) : Option V_bool := evalT E k 45 t_bool [inp t_sl_impl_Event a0, inp t_sl_impl_Event a1] []
noncomputable def laws_ltEvents_4 (k : Nat) (j : Nat) (y0 : List V_impl_Event) (y1 : List V_impl_Event) (y2 : Int) : Option V_bool := loopAt E 45 t_bool [true, true, false, true, false] [] [] k [] j (mkS 26 [(0, .c (.sl 28 t_impl_Event y0)), (1, .c (.sl 28 t_impl_Event y1)), (5, .c (.int .i64 y2))]) []
theorem laws_ltEvents_eq (k : Nat) (a0 : V_sl_impl_Event) (a1 : V_sl_impl_Event) : laws_ltEvents (k + 1) a0 a1 = 
 cond ((↑(List.length a0) : Int) != (↑(List.length a1) : Int)) (some false) (laws_ltEvents_4 k k a0 a1 0) := by kernel_rfl
theorem laws_ltEvents_4_eq (k : Nat) (j : Nat) (y0 : List V_impl_Event) (y1 : List V_impl_Event) (y2 : Int) : laws_ltEvents_4 k (j + 1) y0 y1 y2 = 
 cond (decide (y2 < (↑y0.length : Int))) (
  cond (decide (0 ≤ y2)) (
   cond (decide (y2 < (↑y0.length : Int))) (
    cond (decide (0 ≤ y2)) (
     cond (decide (y2 < (↑y1.length : Int))) (
      cond (!((y0.getD y2.toNat (dflt t_impl_Event)).1 == (y1.getD y2.toNat (dflt t_impl_Event)).1 &&
    ((y0.getD y2.toNat (dflt t_impl_Event)).2.1 == (y1.getD y2.toNat (dflt t_impl_Event)).2.1 &&
      ((y0.getD y2.toNat (dflt t_impl_Event)).2.2.1 == (y1.getD y2.toNat (dflt t_impl_Event)).2.2.1 &&
        ((y0.getD y2.toNat (dflt t_impl_Event)).2.2.2.1 == (y1.getD y2.toNat (dflt t_impl_Event)).2.2.2.1 &&
          ((y0.getD y2.toNat (dflt t_impl_Event)).2.2.2.2.1 == (y1.getD y2.toNat (dflt t_impl_Event)).2.2.2.2.1 &&
            ((y0.getD y2.toNat (dflt t_impl_Event)).2.2.2.2.2.1 ==
                (y1.getD y2.toNat (dflt t_impl_Event)).2.2.2.2.2.1 &&
              ((y0.getD y2.toNat (dflt t_impl_Event)).2.2.2.2.2.2 ==
                  (y1.getD y2.toNat (dflt t_impl_Event)).2.2.2.2.2.2 &&
                true)))))))) (some false) (laws_ltEvents_4 k j y0 y1 (IntKind.i64.wrap (y2 + 1)))) (none)) (none)) (none)) (none)) (some true) := by kernel_rfl

noncomputable def impl_EventLess (k : Nat) (a0 : V_impl_Event) (a1 : V_impl_Event) : Option V_bool := evalT E k 26 t_bool [inp t_impl_Event a0, inp t_impl_Event a1] []
theorem impl_EventLess_eq (k : Nat) (a0 : V_impl_Event) (a1 : V_impl_Event) : impl_EventLess (k + 1) a0 a1 = 
 (impl_keyOf k a0).bind fun x0 => 
  (impl_keyOf k a1).bind fun x1 => 
   (impl_keyLess k x0 x1).bind fun x2 => some x2 := by kernel_rfl

noncomputable def laws_FnEventSort (k : Nat) (a0 : V_sl_uint8) : Option V_bool := evalT E k 14 t_bool [inp t_sl_uint8 a0] []
noncomputable def laws_FnEventSort_10 (k : Nat) (j : Nat) (y0 : Int) (y1 : List V_impl_Event) (y2 : List V_impl_Event) (y3 : List V_impl_Event) : Option V_bool := loopAt E 14 t_bool [true, true, true, true, true, true, true, false, true, false] [] [] k [] j (mkS 86 [(3, .c (.o 0)), (5, .c (.o 1)), (6, .c (.o 2)), (7, .c (.int .i64 y0))]) [some (.own 28 t_impl_Event y1), some (.own 28 t_impl_Event y2), some (.own 28 t_impl_Event y3)]
noncomputable def laws_FnEventSort_15 (k : Nat) (j0 : Nat) (j : Nat) (y0 : Int) (y1 : Bool) (y2 : Int) (y3 : List V_impl_Event) (y4 : List V_impl_Event) (y5 : List V_impl_Event) : Option V_bool := loopAt E 14 t_bool [true, true, true, true, true, true, true, false, true, false, false, true, false, false, true, true, false, true, false] [] [] k [j0] j (mkS 86 [(3, .c (.o 0)), (5, .c (.o 1)), (6, .c (.o 2)), (7, .c (.int .i64 y0)), (8, .c (.bool y1)), (9, .c (.int .i64 y2))]) [some (.own 28 t_impl_Event y3), some (.own 28 t_impl_Event y4), some (.own 28 t_impl_Event y5)]
noncomputable def laws_FnEventSort_21 (k : Nat) (j : Nat) (y0 : Int) (y1 : List V_impl_Event) (y2 : List V_impl_Event) : Option V_bool := loopAt E 14 t_bool [true, true, true, true, true, true, true, true, false, true, false] [] [] k [] j (mkS 86 [(5, .c (.o 0)), (6, .c (.o 1)), (10, .c (.int .i64 y0))]) [some (.own 28 t_impl_Event y1), some (.own 28 t_impl_Event y2)]
theorem laws_FnEventSort_eq (k : Nat) (a0 : V_sl_uint8) : laws_FnEventSort (k + 1) a0 = 
 cond (decide ((↑(List.length a0) : Int) > 1048576)) (some true) (
  (spec_DrawEventSort k a0).bind fun x0 => 
   (spec_EventSort k x0).bind fun x1 => 
    (impl_EventSort k x0).bind fun x2 => 
     (laws_ltEvents k x2 x1).bind fun x3 => 
      cond (!x3) (some false) (laws_FnEventSort_10 k k (IntKind.i64.wrap ((↑(List.length x0) : Int) - 1)) x0 x2 [])) := by kernel_rfl
theorem laws_FnEventSort_10_eq (k : Nat) (j : Nat) (y0 : Int) (y1 : List V_impl_Event) (y2 : List V_impl_Event) (y3 : List V_impl_Event) : laws_FnEventSort_10 k (j + 1) y0 y1 y2 y3 = 
 cond (decide (y0 ≥ 0)) (
  cond (decide (0 ≤ y0)) (
   cond (decide (y0 < (↑y1.length : Int))) (
    cond (decide (y0.toNat < y1.length)) (
     cond (decide
  ((y3.length +
        [((y1.getD y0.toNat (dflt t_impl_Event)).1, (y1.getD y0.toNat (dflt t_impl_Event)).2.1,
              (y1.getD y0.toNat (dflt t_impl_Event)).2.2.1, (y1.getD y0.toNat (dflt t_impl_Event)).2.2.2.1,
              (y1.getD y0.toNat (dflt t_impl_Event)).2.2.2.2.1, (y1.getD y0.toNat (dflt t_impl_Event)).2.2.2.2.2.1,
              (y1.getD y0.toNat (dflt t_impl_Event)).2.2.2.2.2.2)].length) *
      56 ≤
    140737488351232)) (laws_FnEventSort_15 k j k y0 false 0 y1 y2 (y3 ++
  [((y1.getD y0.toNat (dflt t_impl_Event)).1, (y1.getD y0.toNat (dflt t_impl_Event)).2.1, (y1.getD y0.toNat (dflt t_impl_Event)).2.2.1,
      (y1.getD y0.toNat (dflt t_impl_Event)).2.2.2.1, (y1.getD y0.toNat (dflt t_impl_Event)).2.2.2.2.1,
      (y1.getD y0.toNat (dflt t_impl_Event)).2.2.2.2.2.1, (y1.getD y0.toNat (dflt t_impl_Event)).2.2.2.2.2.2)])) (none)) (none)) (none)) (none)) (laws_FnEventSort_21 k k 1 y2 y3) := by kernel_rfl
theorem laws_FnEventSort_15_eq (k : Nat) (j0 : Nat) (j : Nat) (y0 : Int) (y1 : Bool) (y2 : Int) (y3 : List V_impl_Event) (y4 : List V_impl_Event) (y5 : List V_impl_Event) : laws_FnEventSort_15 k j0 (j + 1) y0 y1 y2 y3 y4 y5 = 
 cond (decide (y2 < (↑y4.length : Int))) (
  cond (y1) (laws_FnEventSort_15 k j0 j y0 true (IntKind.i64.wrap (y2 + 1)) y3 y4 y5) (
   cond (decide (0 ≤ y2)) (
    cond (decide (y2 < (↑y4.length : Int))) (
     cond (decide (y2.toNat < y4.length)) (
      cond (decide (0 ≤ y0)) (
       cond (decide (y0 < (↑y3.length : Int))) (
        cond (decide (y0.toNat < y3.length)) (laws_FnEventSort_15 k j0 j y0 ((y4.getD y2.toNat (dflt t_impl_Event)).1 == (y3.getD y0.toNat (dflt t_impl_Event)).1 &&
  ((y4.getD y2.toNat (dflt t_impl_Event)).2.1 == (y3.getD y0.toNat (dflt t_impl_Event)).2.1 &&
    ((y4.getD y2.toNat (dflt t_impl_Event)).2.2.1 == (y3.getD y0.toNat (dflt t_impl_Event)).2.2.1 &&
      ((y4.getD y2.toNat (dflt t_impl_Event)).2.2.2.1 == (y3.getD y0.toNat (dflt t_impl_Event)).2.2.2.1 &&
        ((y4.getD y2.toNat (dflt t_impl_Event)).2.2.2.2.1 == (y3.getD y0.toNat (dflt t_impl_Event)).2.2.2.2.1 &&
          ((y4.getD y2.toNat (dflt t_impl_Event)).2.2.2.2.2.1 ==
              (y3.getD y0.toNat (dflt t_impl_Event)).2.2.2.2.2.1 &&
            ((y4.getD y2.toNat (dflt t_impl_Event)).2.2.2.2.2.2 ==
                (y3.getD y0.toNat (dflt t_impl_Event)).2.2.2.2.2.2 &&
              true))))))) (IntKind.i64.wrap (y2 + 1)) y3 y4 y5) (none)) (none)) (none)) (none)) (none)) (none))) (
  cond (!y1) (some false) (laws_FnEventSort_10 k j0 (IntKind.i64.wrap (y0 - 1)) y3 y4 y5)) := by kernel_rfl
theorem laws_FnEventSort_21_eq (k : Nat) (j : Nat) (y0 : Int) (y1 : List V_impl_Event) (y2 : List V_impl_Event) : laws_FnEventSort_21 k (j + 1) y0 y1 y2 = 
 cond (decide (y0 < (↑y1.length : Int))) (
  cond (decide (0 ≤ IntKind.i64.wrap (y0 - 1))) (
   cond (decide (IntKind.i64.wrap (y0 - 1) < (↑y1.length : Int))) (
    cond (decide ((IntKind.i64.wrap (y0 - 1)).toNat < y1.length)) (
     cond (decide (0 ≤ y0)) (
      cond (decide (y0 < (↑y1.length : Int))) (
       cond (decide (y0.toNat < y1.length)) (
        (impl_EventLess k (y1.getD (IntKind.i64.wrap (y0 - 1)).toNat (dflt t_impl_Event)) (y1.getD y0.toNat (dflt t_impl_Event))).bind fun x0 => 
         cond (!x0) (some false) (laws_FnEventSort_21 k j (IntKind.i64.wrap (y0 + 1)) y1 y2)) (none)) (none)) (none)) (none)) (none)) (none)) (
  (impl_EventSort k y2).bind fun x1 => 
   (laws_ltEvents k x1 y1).bind fun x2 => 
    cond (x2) (
     (impl_EventSort k y1).bind fun x3 => 
      (laws_ltEvents k x3 y1).bind fun x4 => some x4) (some false)) := by kernel_rfl
def Goal : Prop := ∀ (a0 : V_sl_uint8), Go.Sx.Good t_sl_uint8 a0 → ∃ k, laws_FnEventSort k a0 = some true
end Go.Proofs.Ytbgibmngijomfaa.SFnEventSort
