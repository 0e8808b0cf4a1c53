/- What each function of the program answers: one step of the plain machine, by the kernel. -/
import Derived.Test.YtjgpacfhokpfdaaEFnWordOk
set_option linter.unusedVariables false
set_option maxRecDepth 1000000
set_option maxHeartbeats 0
namespace Go.Proofs.Ytjgpacfhokpfdaa.SFnWordOk
open Go Go.Sx Go.Proofs
noncomputable def spec_l6Open (k : Nat) (a0 : V_sl_uint8) : Option V_spec_l6Rd := evalT E k 87 (.bx 170 t_spec_l6Rd) [inp t_sl_uint8 a0] []
theorem spec_l6Open_eq (k : Nat) (a0 : V_sl_uint8) : spec_l6Open (k + 1) a0 = 
 cond (decide ((↑(List.length a0) : Int) > 2000)) (
  cond (decide (2000 ≤ (↑(List.length a0) : Int))) (some ((List.drop (Int.toNat 0) (List.take (Int.toNat 2000) a0), 0))) (none)) (some (a0, 0)) := by kernel_rfl

noncomputable def spec_l6Rd_pick_h0 (k : Nat) (y0 : V_int) (y1 : V_spec_l6Rd) : Option ((V_int × ((List V_uint8 × (Int × Unit)) × Unit))) := evalT E k 145 (.pair t_int (.pair (.pair (.sl 5 t_uint8) (.pair (.int .i64) .unit)) .unit)) [.c (.p 0 0), inp t_int y0] [some (.box 170 (cells t_spec_l6Rd y1))]
theorem spec_l6Rd_pick_h0_eq (k : Nat) (y0 : V_int) (y1 : V_spec_l6Rd) : spec_l6Rd_pick_h0 (k + 1) y0 y1 = 
 cond (decide (y0 < 1)) (some ((0, (y1.1, IntKind.i64.wrap (y1.2 + 1), ()), ()))) (
  cond ((↑(List.length y1.1) : Int) == 0) (some ((0, (y1.1, IntKind.i64.wrap (y1.2 + 1), ()), ()))) (
   cond (decide (IntKind.i64.wrap (IntKind.i64.wrap (y1.2 + 1) - 1) < (↑(List.length y1.1) : Int))) (
    cond (decide (0 ≤ IntKind.i64.wrap (IntKind.i64.wrap (y1.2 + 1) - 1))) (
     cond (decide (IntKind.i64.wrap (IntKind.i64.wrap (y1.2 + 1) - 1) < (↑(List.length y1.1) : Int))) (
      cond (!decide (y0 = 0)) (some (((IntKind.i64.wrap (List.getD y1.1 (IntKind.i64.wrap (IntKind.i64.wrap (y1.2 + 1) - 1)).toNat (dflt t_uint8))).tmod y0,
  (y1.1, IntKind.i64.wrap (y1.2 + 1), ()), ()))) (none)) (none)) (none)) (
    cond (!decide ((↑(List.length y1.1) : Int) = 0)) (
     cond (decide (0 ≤ (IntKind.i64.wrap (IntKind.i64.wrap (y1.2 + 1) - 1)).tmod (↑(List.length y1.1) : Int))) (
      cond (decide
  ((IntKind.i64.wrap (IntKind.i64.wrap (y1.2 + 1) - 1)).tmod (↑(List.length y1.1) : Int) <
    (↑(List.length y1.1) : Int))) (
       cond (!decide ((↑(List.length y1.1) : Int) = 0)) (
        cond (decide
  (0 ≤
    (IntKind.i64.wrap (IntKind.i64.wrap (IntKind.i64.wrap (IntKind.i64.wrap (y1.2 + 1) - 1) * 7) + 3)).tmod
      (↑(List.length y1.1) : Int))) (
         cond (decide
  ((IntKind.i64.wrap (IntKind.i64.wrap (IntKind.i64.wrap (IntKind.i64.wrap (y1.2 + 1) - 1) * 7) + 3)).tmod
      (↑(List.length y1.1) : Int) <
    (↑(List.length y1.1) : Int))) (
          cond (!decide ((↑(List.length y1.1) : Int) = 0)) (
           cond (!decide (y0 = 0)) (some (((IntKind.i64.wrap
        (↑(BitVec.ofInt IntKind.i64.bits
                  (IntKind.i64.wrap
                    (IntKind.i64.wrap
                        (IntKind.i64.wrap
                            (IntKind.i64.wrap
                                (IntKind.i64.wrap
                                    (List.getD y1.1
                                      ((IntKind.i64.wrap (IntKind.i64.wrap (y1.2 + 1) - 1)).tmod
                                          (↑(List.length y1.1) : Int)).toNat
                                      (dflt t_uint8)) *
                                  131) +
                              IntKind.i64.wrap
                                (IntKind.i64.wrap
                                    (List.getD y1.1
                                      ((IntKind.i64.wrap
                                              (IntKind.i64.wrap
                                                  (IntKind.i64.wrap (IntKind.i64.wrap (y1.2 + 1) - 1) * 7) +
                                                3)).tmod
                                          (↑(List.length y1.1) : Int)).toNat
                                      (dflt t_uint8)) *
                                  1117)) +
                          IntKind.i64.wrap (IntKind.i64.wrap (IntKind.i64.wrap (y1.2 + 1) - 1) * 29)) +
                      IntKind.i64.wrap
                        (IntKind.i64.wrap
                            ((IntKind.i64.wrap (IntKind.i64.wrap (y1.2 + 1) - 1)).tdiv
                              (↑(List.length y1.1) : Int)) *
                          53))) ^^^
                BitVec.ofInt IntKind.i64.bits
                  (IntKind.i64.wrap
                    ((IntKind.i64.wrap
                          (IntKind.i64.wrap
                              (IntKind.i64.wrap
                                  (IntKind.i64.wrap
                                      (IntKind.i64.wrap
                                          (List.getD y1.1
                                            ((IntKind.i64.wrap (IntKind.i64.wrap (y1.2 + 1) - 1)).tmod
                                                (↑(List.length y1.1) : Int)).toNat
                                            (dflt t_uint8)) *
                                        131) +
                                    IntKind.i64.wrap
                                      (IntKind.i64.wrap
                                          (List.getD y1.1
                                            ((IntKind.i64.wrap
                                                    (IntKind.i64.wrap
                                                        (IntKind.i64.wrap (IntKind.i64.wrap (y1.2 + 1) - 1) * 7) +
                                                      3)).tmod
                                                (↑(List.length y1.1) : Int)).toNat
                                            (dflt t_uint8)) *
                                        1117)) +
                                IntKind.i64.wrap (IntKind.i64.wrap (IntKind.i64.wrap (y1.2 + 1) - 1) * 29)) +
                            IntKind.i64.wrap
                              (IntKind.i64.wrap
                                  ((IntKind.i64.wrap (IntKind.i64.wrap (y1.2 + 1) - 1)).tdiv
                                    (↑(List.length y1.1) : Int)) *
                                53))).tdiv
                      64))).toNat :
          Int)).tmod
    y0,
  (y1.1, IntKind.i64.wrap (y1.2 + 1), ()), ()))) (none)) (none)) (none)) (none)) (none)) (none)) (none)) (none)))) := by kernel_rfl

noncomputable def spec_l22Max (k : Nat) : Option V_int := evalT E k 89 t_int [] []
theorem spec_l22Max_eq (k : Nat) : spec_l22Max (k + 1) = some 9999 := by kernel_rfl

noncomputable def spec_l72Event_h0 (k : Nat) (y0 : V_spec_l6Rd) : Option (((V_int × (V_int × (V_int × (V_int × (V_int × (V_int × V_int)))))) × ((List V_uint8 × (Int × Unit)) × Unit))) := evalT E k 165 (.pair (.pair t_int (.pair t_int (.pair t_int (.pair t_int (.pair t_int (.pair t_int t_int)))))) (.pair (.pair (.sl 5 t_uint8) (.pair (.int .i64) .unit)) .unit)) [.c (.p 0 0)] [some (.box 170 (cells t_spec_l6Rd y0))]
theorem spec_l72Event_h0_eq (k : Nat) (y0 : V_spec_l6Rd) : spec_l72Event_h0 (k + 1) y0 = 
 (spec_l6Rd_pick_h0 k 41 y0).bind fun x0 => 
  (spec_l6Rd_pick_h0 k 4 (x0.2.1.1, x0.2.1.2.1)).bind fun x1 => 
   (spec_l6Rd_pick_h0 k 5 (x1.2.1.1, x1.2.1.2.1)).bind fun x2 => 
    (spec_l6Rd_pick_h0 k 13 (x2.2.1.1, x2.2.1.2.1)).bind fun x3 => 
     (spec_l6Rd_pick_h0 k 3 (x3.2.1.1, x3.2.1.2.1)).bind fun x4 => 
      (spec_l6Rd_pick_h0 k 3 (x4.2.1.1, x4.2.1.2.1)).bind fun x5 => 
       (spec_l6Rd_pick_h0 k 40 (x5.2.1.1, x5.2.1.2.1)).bind fun x6 => 
        (spec_l6Rd_pick_h0 k 20 (x6.2.1.1, x6.2.1.2.1)).bind fun x7 => 
         cond (x7.1 == 0) (
          (spec_l6Rd_pick_h0 k 3 (x7.2.1.1, x7.2.1.2.1)).bind fun x8 => 
           cond (decide (0 ≤ x8.1)) (
            cond (decide (x8.1 < (↑[-1, 40, 41].length : Int))) (
             cond (decide (Int.toNat x8.1 < [-1, 40, 41].length)) (some (((([-1, 40, 41] : List Int).getD (Int.toNat x8.1) (dflt t_int), x1.1, IntKind.i64.wrap (x2.1 - 1), x3.1, x4.1, x5.1,
    x6.1),
  (x8.2.1.1, x8.2.1.2.1, ()), ()))) (none)) (none)) (none)) (
          cond (x7.1 == 1) (
           (spec_l6Rd_pick_h0 k 2 (x7.2.1.1, x7.2.1.2.1)).bind fun x9 => 
            cond (decide (0 ≤ x9.1)) (
             cond (decide (x9.1 < (↑[-1, 4].length : Int))) (
              cond (decide (Int.toNat x9.1 < [-1, 4].length)) (some (((x0.1, ([-1, 4] : List Int).getD (Int.toNat x9.1) (dflt t_int), IntKind.i64.wrap (x2.1 - 1), x3.1, x4.1, x5.1, x6.1),
  (x9.2.1.1, x9.2.1.2.1, ()), ()))) (none)) (none)) (none)) (
           cond (x7.1 == 2) (
            (spec_l6Rd_pick_h0 k 3 (x7.2.1.1, x7.2.1.2.1)).bind fun x10 => 
             cond (decide (0 ≤ x10.1)) (
              cond (decide (x10.1 < (↑[-1, 999, 1000].length : Int))) (
               cond (decide (Int.toNat x10.1 < [-1, 999, 1000].length)) (some (((x0.1, x1.1, IntKind.i64.wrap (x2.1 - 1), x3.1, x4.1, x5.1,
    ([-1, 999, 1000] : List Int).getD (Int.toNat x10.1) (dflt t_int)),
  (x10.2.1.1, x10.2.1.2.1, ()), ()))) (none)) (none)) (none)) (some (((x0.1, x1.1, IntKind.i64.wrap (x2.1 - 1), x3.1, x4.1, x5.1, x6.1),
  (x7.2.1.1, x7.2.1.2.1, ()), ()))))) := by kernel_rfl

noncomputable def spec_l72Events_h0 (k : Nat) (y0 : V_int) (y1 : V_spec_l6Rd) : Option ((List V_impl_Event × ((List V_uint8 × (Int × Unit)) × Unit))) := evalT E k 146 (.pair (.ow 41 t_impl_Event) (.pair (.pair (.sl 5 t_uint8) (.pair (.int .i64) .unit)) .unit)) [.c (.p 0 0), inp t_int y0] [some (.box 170 (cells t_spec_l6Rd y1))]
noncomputable def spec_l72Events_h0_3 (k : Nat) (j : Nat) (y0 : Int) (y1 : V_spec_l6Rd) (y2 : List V_impl_Event) : Option ((List V_impl_Event × ((List V_uint8 × (Int × Unit)) × Unit))) := loopAt E 146 (.pair (.ow 41 t_impl_Event) (.pair (.pair (.sl 5 t_uint8) (.pair (.int .i64) .unit)) .unit)) [true, true, false, true, false] [some (.box 170 [.undef, .undef])] [] k [] j (mkS 41 [(0, .c (.p 0 0)), (5, .c (.o 1)), (6, .c (.int .i64 y0))]) [some (.box 170 (cells t_spec_l6Rd y1)), some (.own 41 t_impl_Event y2)]
theorem spec_l72Events_h0_eq (k : Nat) (y0 : V_int) (y1 : V_spec_l6Rd) : spec_l72Events_h0 (k + 1) y0 y1 = 
 (spec_l6Rd_pick_h0 k y0 y1).bind fun x0 => spec_l72Events_h0_3 k k x0.1 (x0.2.1.1, x0.2.1.2.1) [] := by kernel_rfl
theorem spec_l72Events_h0_3_eq (k : Nat) (j : Nat) (y0 : Int) (y1 : V_spec_l6Rd) (y2 : List V_impl_Event) : spec_l72Events_h0_3 k (j + 1) y0 y1 y2 = 
 cond (decide (y0 > 0)) (
  (spec_l72Event_h0 k y1).bind fun x0 => 
   cond (decide ((↑y2.length : Int) > 0)) (
    (spec_l6Rd_pick_h0 k 4 (x0.2.1.1, x0.2.1.2.1)).bind fun x1 => 
     cond (x1.1 == 0) (
      (spec_l6Rd_pick_h0 k (↑y2.length : Int) (x1.2.1.1, x1.2.1.2.1)).bind fun x2 => 
       cond (decide (0 ≤ x2.1)) (
        cond (decide (x2.1 < (↑y2.length : Int))) (
         cond (decide (Int.toNat x2.1 < y2.length)) (
          (spec_l6Rd_pick_h0 k 3 (x2.2.1.1, x2.2.1.2.1)).bind fun x3 => 
           cond (decide
  ((y2.length +
        [((y2.getD (Int.toNat x2.1) (dflt t_impl_Event)).1, (y2.getD (Int.toNat x2.1) (dflt t_impl_Event)).2.1,
              (y2.getD (Int.toNat x2.1) (dflt t_impl_Event)).2.2.1,
              (y2.getD (Int.toNat x2.1) (dflt t_impl_Event)).2.2.2.1, x3.1,
              (y2.getD (Int.toNat x2.1) (dflt t_impl_Event)).2.2.2.2.2.1,
              (y2.getD (Int.toNat x2.1) (dflt t_impl_Event)).2.2.2.2.2.2)].length) *
      56 ≤
    140737488351232)) (spec_l72Events_h0_3 k j (IntKind.i64.wrap (y0 - 1)) (x3.2.1.1, x3.2.1.2.1) (y2 ++
  [((y2.getD (Int.toNat x2.1) (dflt t_impl_Event)).1, (y2.getD (Int.toNat x2.1) (dflt t_impl_Event)).2.1,
      (y2.getD (Int.toNat x2.1) (dflt t_impl_Event)).2.2.1, (y2.getD (Int.toNat x2.1) (dflt t_impl_Event)).2.2.2.1,
      x3.1, (y2.getD (Int.toNat x2.1) (dflt t_impl_Event)).2.2.2.2.2.1,
      (y2.getD (Int.toNat x2.1) (dflt t_impl_Event)).2.2.2.2.2.2)])) (none)) (none)) (none)) (none)) (
      cond (decide
  ((y2.length +
        [(x0.1.1, x0.1.2.1, x0.1.2.2.1, x0.1.2.2.2.1, x0.1.2.2.2.2.1,
              x0.1.2.2.2.2.2.1, x0.1.2.2.2.2.2.2)].length) *
      56 ≤
    140737488351232)) (spec_l72Events_h0_3 k j (IntKind.i64.wrap (y0 - 1)) (x1.2.1.1, x1.2.1.2.1) (y2 ++
  [(x0.1.1, x0.1.2.1, x0.1.2.2.1, x0.1.2.2.2.1, x0.1.2.2.2.2.1,
      x0.1.2.2.2.2.2.1, x0.1.2.2.2.2.2.2)])) (none))) (
    cond (decide
  ((y2.length +
        [(x0.1.1, x0.1.2.1, x0.1.2.2.1, x0.1.2.2.2.1, x0.1.2.2.2.2.1,
              x0.1.2.2.2.2.2.1, x0.1.2.2.2.2.2.2)].length) *
      56 ≤
    140737488351232)) (spec_l72Events_h0_3 k j (IntKind.i64.wrap (y0 - 1)) (x0.2.1.1, x0.2.1.2.1) (y2 ++
  [(x0.1.1, x0.1.2.1, x0.1.2.2.1, x0.1.2.2.2.1, x0.1.2.2.2.2.1,
      x0.1.2.2.2.2.2.1, x0.1.2.2.2.2.2.2)])) (none))) (some ((y2, (y1.1, y1.2, ()), ()))) := by kernel_rfl

noncomputable def spec_EventLess (k : Nat) (a0 : V_impl_Event) (a1 : V_impl_Event) : Option V_bool := evalT E k 63 t_bool [inp t_impl_Event a0, inp t_impl_Event a1] []
theorem spec_EventLess_eq (k : Nat) (a0 : V_impl_Event) (a1 : V_impl_Event) : spec_EventLess (k + 1) a0 a1 = 
 cond (a0.1 != a1.1) (some (decide (a0.1 < a1.1))) (
  cond (a0.2.1 != a1.2.1) (some (decide (a0.2.1 < a1.2.1))) (
   cond (a0.2.2.1 != a1.2.2.1) (some (decide (a0.2.2.1 < a1.2.2.1))) (
    cond (a0.2.2.2.1 != a1.2.2.2.1) (some (decide (a0.2.2.2.1 < a1.2.2.2.1))) (
     cond (a0.2.2.2.2.1 != a1.2.2.2.2.1) (some (decide (a0.2.2.2.2.1 < a1.2.2.2.2.1))) (
      cond (a0.2.2.2.2.2.1 != a1.2.2.2.2.2.1) (some (decide (a0.2.2.2.2.2.1 < a1.2.2.2.2.2.1))) (some (decide (a0.2.2.2.2.2.2 < a1.2.2.2.2.2.2)))))))) := by kernel_rfl

noncomputable def spec_EventSort (k : Nat) (a0 : V_sl_impl_Event) : Option (List V_impl_Event) := evalT E k 82 (.ow 41 t_impl_Event) [inp t_sl_impl_Event a0] []
noncomputable def spec_EventSort_3 (k : Nat) (j : Nat) (y0 : List V_impl_Event) (y1 : Int) (y2 : List V_impl_Event) : Option (List V_impl_Event) := loopAt E 82 (.ow 41 t_impl_Event) [true, true, false, true, false] [] [] k [] j (mkS 77 [(0, .c (.sl 41 t_impl_Event y0)), (3, .c (.o 0)), (4, .c (.int .i64 y1))]) [some (.own 41 t_impl_Event y2)]
noncomputable def spec_EventSort_6 (k : Nat) (j0 : Nat) (j : Nat) (y0 : List V_impl_Event) (y1 : Int) (y2 : Int) (y3 : List V_impl_Event) : Option (List V_impl_Event) := loopAt E 82 (.ow 41 t_impl_Event) [true, true, false, true, false, false, true, false, false, true, false, false] [] [] k [j0] j (mkS 77 [(0, .c (.sl 41 t_impl_Event y0)), (3, .c (.o 0)), (4, .c (.int .i64 y1)), (5, .c (.int .i64 y2))]) [some (.own 41 t_impl_Event y3)]
noncomputable def spec_EventSort_11 (k : Nat) (j0 : Nat) (j : Nat) (y0 : List V_impl_Event) (y1 : Int) (y2 : Int) (y3 : Int) (y4 : List V_impl_Event) : Option (List V_impl_Event) := loopAt E 82 (.ow 41 t_impl_Event) [true, true, false, true, false, false, true, false, false, true, true, true, true, false, true, false] [] [] k [j0] j (mkS 77 [(0, .c (.sl 41 t_impl_Event y0)), (3, .c (.o 0)), (4, .c (.int .i64 y1)), (5, .c (.int .i64 y2)), (6, .c (.int .i64 y3))]) [some (.own 41 t_impl_Event y4)]
theorem spec_EventSort_eq (k : Nat) (a0 : V_sl_impl_Event) : spec_EventSort (k + 1) a0 = spec_EventSort_3 k k a0 0 [] := by kernel_rfl
theorem spec_EventSort_3_eq (k : Nat) (j : Nat) (y0 : List V_impl_Event) (y1 : Int) (y2 : List V_impl_Event) : spec_EventSort_3 k (j + 1) y0 y1 y2 = 
 cond (decide (y1 < (↑y0.length : Int))) (spec_EventSort_6 k j k y0 y1 (↑y2.length : Int) y2) (some y2) := by kernel_rfl
theorem spec_EventSort_6_eq (k : Nat) (j0 : Nat) (j : Nat) (y0 : List V_impl_Event) (y1 : Int) (y2 : Int) (y3 : List V_impl_Event) : spec_EventSort_6 k j0 (j + 1) y0 y1 y2 y3 = 
 cond (decide (y2 > 0)) (
  cond (decide (0 ≤ y1)) (
   cond (decide (y1 < (↑y0.length : Int))) (
    cond (decide (0 ≤ IntKind.i64.wrap (y2 - 1))) (
     cond (decide (IntKind.i64.wrap (y2 - 1) < (↑y3.length : Int))) (
      cond (decide ((IntKind.i64.wrap (y2 - 1)).toNat < y3.length)) (
       (spec_EventLess k (y0.getD y1.toNat (dflt t_impl_Event)) (y3.getD (IntKind.i64.wrap (y2 - 1)).toNat (dflt t_impl_Event))).bind fun x0 => 
        cond (x0) (spec_EventSort_6 k j0 j y0 y1 (IntKind.i64.wrap (y2 - 1)) y3) (
         cond (decide (y2 > 0)) (
          cond (decide (0 ≤ IntKind.i64.wrap (y2 - 1))) (
           cond (decide (IntKind.i64.wrap (y2 - 1) < (↑y3.length : Int))) (
            cond (decide ((IntKind.i64.wrap (y2 - 1)).toNat < y3.length)) (
             cond (decide (0 ≤ y1)) (
              cond (decide (y1 < (↑y0.length : Int))) (
               cond ((y3.getD (IntKind.i64.wrap (y2 - 1)).toNat (dflt t_impl_Event)).1 == (y0.getD y1.toNat (dflt t_impl_Event)).1 &&
  ((y3.getD (IntKind.i64.wrap (y2 - 1)).toNat (dflt t_impl_Event)).2.1 == (y0.getD y1.toNat (dflt t_impl_Event)).2.1 &&
    ((y3.getD (IntKind.i64.wrap (y2 - 1)).toNat (dflt t_impl_Event)).2.2.1 == (y0.getD y1.toNat (dflt t_impl_Event)).2.2.1 &&
      ((y3.getD (IntKind.i64.wrap (y2 - 1)).toNat (dflt t_impl_Event)).2.2.2.1 ==
          (y0.getD y1.toNat (dflt t_impl_Event)).2.2.2.1 &&
        ((y3.getD (IntKind.i64.wrap (y2 - 1)).toNat (dflt t_impl_Event)).2.2.2.2.1 ==
            (y0.getD y1.toNat (dflt t_impl_Event)).2.2.2.2.1 &&
          ((y3.getD (IntKind.i64.wrap (y2 - 1)).toNat (dflt t_impl_Event)).2.2.2.2.2.1 ==
              (y0.getD y1.toNat (dflt t_impl_Event)).2.2.2.2.2.1 &&
            ((y3.getD (IntKind.i64.wrap (y2 - 1)).toNat (dflt t_impl_Event)).2.2.2.2.2.2 ==
                (y0.getD y1.toNat (dflt t_impl_Event)).2.2.2.2.2.2 &&
              true))))))) (spec_EventSort_3 k j0 y0 (IntKind.i64.wrap (y1 + 1)) y3) (
                cond (decide (0 ≤ y1)) (
                 cond (decide (y1 < (↑y0.length : Int))) (
                  cond (decide
  ((y3.length +
        [((y0.getD y1.toNat (dflt t_impl_Event)).1, (y0.getD y1.toNat (dflt t_impl_Event)).2.1,
              (y0.getD y1.toNat (dflt t_impl_Event)).2.2.1, (y0.getD y1.toNat (dflt t_impl_Event)).2.2.2.1,
              (y0.getD y1.toNat (dflt t_impl_Event)).2.2.2.2.1, (y0.getD y1.toNat (dflt t_impl_Event)).2.2.2.2.2.1,
              (y0.getD y1.toNat (dflt t_impl_Event)).2.2.2.2.2.2)].length) *
      56 ≤
    140737488351232)) (spec_EventSort_11 k j0 k y0 y1 y2 (IntKind.i64.wrap
  ((↑(y3 ++
            [((y0.getD y1.toNat (dflt t_impl_Event)).1, (y0.getD y1.toNat (dflt t_impl_Event)).2.1,
                (y0.getD y1.toNat (dflt t_impl_Event)).2.2.1, (y0.getD y1.toNat (dflt t_impl_Event)).2.2.2.1,
                (y0.getD y1.toNat (dflt t_impl_Event)).2.2.2.2.1,
                (y0.getD y1.toNat (dflt t_impl_Event)).2.2.2.2.2.1,
                (y0.getD y1.toNat (dflt t_impl_Event)).2.2.2.2.2.2)]).length :
      Int) -
    1)) (y3 ++
  [((y0.getD y1.toNat (dflt t_impl_Event)).1, (y0.getD y1.toNat (dflt t_impl_Event)).2.1, (y0.getD y1.toNat (dflt t_impl_Event)).2.2.1,
      (y0.getD y1.toNat (dflt t_impl_Event)).2.2.2.1, (y0.getD y1.toNat (dflt t_impl_Event)).2.2.2.2.1,
      (y0.getD y1.toNat (dflt t_impl_Event)).2.2.2.2.2.1, (y0.getD y1.toNat (dflt t_impl_Event)).2.2.2.2.2.2)])) (none)) (none)) (none))) (none)) (none)) (none)) (none)) (none)) (
          cond (decide (0 ≤ y1)) (
           cond (decide (y1 < (↑y0.length : Int))) (
            cond (decide
  ((y3.length +
        [((y0.getD y1.toNat (dflt t_impl_Event)).1, (y0.getD y1.toNat (dflt t_impl_Event)).2.1,
              (y0.getD y1.toNat (dflt t_impl_Event)).2.2.1, (y0.getD y1.toNat (dflt t_impl_Event)).2.2.2.1,
              (y0.getD y1.toNat (dflt t_impl_Event)).2.2.2.2.1, (y0.getD y1.toNat (dflt t_impl_Event)).2.2.2.2.2.1,
              (y0.getD y1.toNat (dflt t_impl_Event)).2.2.2.2.2.2)].length) *
      56 ≤
    140737488351232)) (spec_EventSort_11 k j0 k y0 y1 y2 (IntKind.i64.wrap
  ((↑(y3 ++
            [((y0.getD y1.toNat (dflt t_impl_Event)).1, (y0.getD y1.toNat (dflt t_impl_Event)).2.1,
                (y0.getD y1.toNat (dflt t_impl_Event)).2.2.1, (y0.getD y1.toNat (dflt t_impl_Event)).2.2.2.1,
                (y0.getD y1.toNat (dflt t_impl_Event)).2.2.2.2.1,
                (y0.getD y1.toNat (dflt t_impl_Event)).2.2.2.2.2.1,
                (y0.getD y1.toNat (dflt t_impl_Event)).2.2.2.2.2.2)]).length :
      Int) -
    1)) (y3 ++
  [((y0.getD y1.toNat (dflt t_impl_Event)).1, (y0.getD y1.toNat (dflt t_impl_Event)).2.1, (y0.getD y1.toNat (dflt t_impl_Event)).2.2.1,
      (y0.getD y1.toNat (dflt t_impl_Event)).2.2.2.1, (y0.getD y1.toNat (dflt t_impl_Event)).2.2.2.2.1,
      (y0.getD y1.toNat (dflt t_impl_Event)).2.2.2.2.2.1, (y0.getD y1.toNat (dflt t_impl_Event)).2.2.2.2.2.2)])) (none)) (none)) (none)))) (none)) (none)) (none)) (none)) (none)) (
  cond (decide (y2 > 0)) (
   cond (decide (0 ≤ IntKind.i64.wrap (y2 - 1))) (
    cond (decide (IntKind.i64.wrap (y2 - 1) < (↑y3.length : Int))) (
     cond (decide ((IntKind.i64.wrap (y2 - 1)).toNat < y3.length)) (
      cond (decide (0 ≤ y1)) (
       cond (decide (y1 < (↑y0.length : Int))) (
        cond ((y3.getD (IntKind.i64.wrap (y2 - 1)).toNat (dflt t_impl_Event)).1 == (y0.getD y1.toNat (dflt t_impl_Event)).1 &&
  ((y3.getD (IntKind.i64.wrap (y2 - 1)).toNat (dflt t_impl_Event)).2.1 == (y0.getD y1.toNat (dflt t_impl_Event)).2.1 &&
    ((y3.getD (IntKind.i64.wrap (y2 - 1)).toNat (dflt t_impl_Event)).2.2.1 == (y0.getD y1.toNat (dflt t_impl_Event)).2.2.1 &&
      ((y3.getD (IntKind.i64.wrap (y2 - 1)).toNat (dflt t_impl_Event)).2.2.2.1 ==
          (y0.getD y1.toNat (dflt t_impl_Event)).2.2.2.1 &&
        ((y3.getD (IntKind.i64.wrap (y2 - 1)).toNat (dflt t_impl_Event)).2.2.2.2.1 ==
            (y0.getD y1.toNat (dflt t_impl_Event)).2.2.2.2.1 &&
          ((y3.getD (IntKind.i64.wrap (y2 - 1)).toNat (dflt t_impl_Event)).2.2.2.2.2.1 ==
              (y0.getD y1.toNat (dflt t_impl_Event)).2.2.2.2.2.1 &&
            ((y3.getD (IntKind.i64.wrap (y2 - 1)).toNat (dflt t_impl_Event)).2.2.2.2.2.2 ==
                (y0.getD y1.toNat (dflt t_impl_Event)).2.2.2.2.2.2 &&
              true))))))) (spec_EventSort_3 k j0 y0 (IntKind.i64.wrap (y1 + 1)) y3) (
         cond (decide (0 ≤ y1)) (
          cond (decide (y1 < (↑y0.length : Int))) (
           cond (decide
  ((y3.length +
        [((y0.getD y1.toNat (dflt t_impl_Event)).1, (y0.getD y1.toNat (dflt t_impl_Event)).2.1,
              (y0.getD y1.toNat (dflt t_impl_Event)).2.2.1, (y0.getD y1.toNat (dflt t_impl_Event)).2.2.2.1,
              (y0.getD y1.toNat (dflt t_impl_Event)).2.2.2.2.1, (y0.getD y1.toNat (dflt t_impl_Event)).2.2.2.2.2.1,
              (y0.getD y1.toNat (dflt t_impl_Event)).2.2.2.2.2.2)].length) *
      56 ≤
    140737488351232)) (spec_EventSort_11 k j0 k y0 y1 y2 (IntKind.i64.wrap
  ((↑(y3 ++
            [((y0.getD y1.toNat (dflt t_impl_Event)).1, (y0.getD y1.toNat (dflt t_impl_Event)).2.1,
                (y0.getD y1.toNat (dflt t_impl_Event)).2.2.1, (y0.getD y1.toNat (dflt t_impl_Event)).2.2.2.1,
                (y0.getD y1.toNat (dflt t_impl_Event)).2.2.2.2.1,
                (y0.getD y1.toNat (dflt t_impl_Event)).2.2.2.2.2.1,
                (y0.getD y1.toNat (dflt t_impl_Event)).2.2.2.2.2.2)]).length :
      Int) -
    1)) (y3 ++
  [((y0.getD y1.toNat (dflt t_impl_Event)).1, (y0.getD y1.toNat (dflt t_impl_Event)).2.1, (y0.getD y1.toNat (dflt t_impl_Event)).2.2.1,
      (y0.getD y1.toNat (dflt t_impl_Event)).2.2.2.1, (y0.getD y1.toNat (dflt t_impl_Event)).2.2.2.2.1,
      (y0.getD y1.toNat (dflt t_impl_Event)).2.2.2.2.2.1, (y0.getD y1.toNat (dflt t_impl_Event)).2.2.2.2.2.2)])) (none)) (none)) (none))) (none)) (none)) (none)) (none)) (none)) (
   cond (decide (0 ≤ y1)) (
    cond (decide (y1 < (↑y0.length : Int))) (
     cond (decide
  ((y3.length +
        [((y0.getD y1.toNat (dflt t_impl_Event)).1, (y0.getD y1.toNat (dflt t_impl_Event)).2.1,
              (y0.getD y1.toNat (dflt t_impl_Event)).2.2.1, (y0.getD y1.toNat (dflt t_impl_Event)).2.2.2.1,
              (y0.getD y1.toNat (dflt t_impl_Event)).2.2.2.2.1, (y0.getD y1.toNat (dflt t_impl_Event)).2.2.2.2.2.1,
              (y0.getD y1.toNat (dflt t_impl_Event)).2.2.2.2.2.2)].length) *
      56 ≤
    140737488351232)) (spec_EventSort_11 k j0 k y0 y1 y2 (IntKind.i64.wrap
  ((↑(y3 ++
            [((y0.getD y1.toNat (dflt t_impl_Event)).1, (y0.getD y1.toNat (dflt t_impl_Event)).2.1,
                (y0.getD y1.toNat (dflt t_impl_Event)).2.2.1, (y0.getD y1.toNat (dflt t_impl_Event)).2.2.2.1,
                (y0.getD y1.toNat (dflt t_impl_Event)).2.2.2.2.1,
                (y0.getD y1.toNat (dflt t_impl_Event)).2.2.2.2.2.1,
                (y0.getD y1.toNat (dflt t_impl_Event)).2.2.2.2.2.2)]).length :
      Int) -
    1)) (y3 ++
  [((y0.getD y1.toNat (dflt t_impl_Event)).1, (y0.getD y1.toNat (dflt t_impl_Event)).2.1, (y0.getD y1.toNat (dflt t_impl_Event)).2.2.1,
      (y0.getD y1.toNat (dflt t_impl_Event)).2.2.2.1, (y0.getD y1.toNat (dflt t_impl_Event)).2.2.2.2.1,
      (y0.getD y1.toNat (dflt t_impl_Event)).2.2.2.2.2.1, (y0.getD y1.toNat (dflt t_impl_Event)).2.2.2.2.2.2)])) (none)) (none)) (none))) := by kernel_rfl
theorem spec_EventSort_11_eq (k : Nat) (j0 : Nat) (j : Nat) (y0 : List V_impl_Event) (y1 : Int) (y2 : Int) (y3 : Int) (y4 : List V_impl_Event) : spec_EventSort_11 k j0 (j + 1) y0 y1 y2 y3 y4 = 
 cond (decide (y3 > y2)) (
  cond (decide (0 ≤ IntKind.i64.wrap (y3 - 1))) (
   cond (decide (IntKind.i64.wrap (y3 - 1) < (↑y4.length : Int))) (
    cond (decide ((IntKind.i64.wrap (y3 - 1)).toNat < y4.length)) (
     cond (decide (0 ≤ y3)) (
      cond (decide (y3 < (↑y4.length : Int))) (
       cond (decide (y3.toNat < y4.length)) (spec_EventSort_11 k j0 j y0 y1 y2 (IntKind.i64.wrap (y3 - 1)) (y4.set y3.toNat
  ((y4.getD (IntKind.i64.wrap (y3 - 1)).toNat (dflt t_impl_Event)).1,
    (y4.getD (IntKind.i64.wrap (y3 - 1)).toNat (dflt t_impl_Event)).2.1,
    (y4.getD (IntKind.i64.wrap (y3 - 1)).toNat (dflt t_impl_Event)).2.2.1,
    (y4.getD (IntKind.i64.wrap (y3 - 1)).toNat (dflt t_impl_Event)).2.2.2.1,
    (y4.getD (IntKind.i64.wrap (y3 - 1)).toNat (dflt t_impl_Event)).2.2.2.2.1,
    (y4.getD (IntKind.i64.wrap (y3 - 1)).toNat (dflt t_impl_Event)).2.2.2.2.2.1,
    (y4.getD (IntKind.i64.wrap (y3 - 1)).toNat (dflt t_impl_Event)).2.2.2.2.2.2))) (none)) (none)) (none)) (none)) (none)) (none)) (
  cond (decide (0 ≤ y1)) (
   cond (decide (y1 < (↑y0.length : Int))) (
    cond (decide (0 ≤ y2)) (
     cond (decide (y2 < (↑y4.length : Int))) (
      cond (decide (y2.toNat < y4.length)) (spec_EventSort_3 k j0 y0 (IntKind.i64.wrap (y1 + 1)) (y4.set y2.toNat
  ((y0.getD y1.toNat (dflt t_impl_Event)).1, (y0.getD y1.toNat (dflt t_impl_Event)).2.1, (y0.getD y1.toNat (dflt t_impl_Event)).2.2.1,
    (y0.getD y1.toNat (dflt t_impl_Event)).2.2.2.1, (y0.getD y1.toNat (dflt t_impl_Event)).2.2.2.2.1,
    (y0.getD y1.toNat (dflt t_impl_Event)).2.2.2.2.2.1, (y0.getD y1.toNat (dflt t_impl_Event)).2.2.2.2.2.2))) (none)) (none)) (none)) (none)) (none)) := by kernel_rfl

noncomputable def spec_l72Out_h0 (k : Nat) (y0 : V_spec_l6Rd) : Option (((V_int × (V_int × (V_int × (V_int × V_int)))) × ((List V_uint8 × (Int × Unit)) × Unit))) := evalT E k 147 (.pair (.pair t_int (.pair t_int (.pair t_int (.pair t_int t_int)))) (.pair (.pair (.sl 5 t_uint8) (.pair (.int .i64) .unit)) .unit)) [.c (.p 0 0)] [some (.box 170 (cells t_spec_l6Rd y0))]
theorem spec_l72Out_h0_eq (k : Nat) (y0 : V_spec_l6Rd) : spec_l72Out_h0 (k + 1) y0 = 
 (spec_l6Rd_pick_h0 k 6 y0).bind fun x0 => 
  (spec_l6Rd_pick_h0 k 4 (x0.2.1.1, x0.2.1.2.1)).bind fun x1 => 
   (spec_l6Rd_pick_h0 k 3 (x1.2.1.1, x1.2.1.2.1)).bind fun x2 => 
    (spec_l6Rd_pick_h0 k 2 (x2.2.1.1, x2.2.1.2.1)).bind fun x3 => 
     (spec_l6Rd_pick_h0 k 4 (x3.2.1.1, x3.2.1.2.1)).bind fun x4 => some (((x0.1, x1.1, x2.1, x3.1, x4.1), (x4.2.1.1, x4.2.1.2.1, ()), ())) := by kernel_rfl

noncomputable def spec_OutLess (k : Nat) (a0 : V_impl_Out) (a1 : V_impl_Out) : Option V_bool := evalT E k 142 t_bool [inp t_impl_Out a0, inp t_impl_Out a1] []
theorem spec_OutLess_eq (k : Nat) (a0 : V_impl_Out) (a1 : V_impl_Out) : spec_OutLess (k + 1) a0 a1 = 
 cond (a0.1 != a1.1) (some (decide (a0.1 < a1.1))) (
  cond (a0.2.1 != a1.2.1) (some (decide (a0.2.1 < a1.2.1))) (
   cond (a0.2.2.1 != a1.2.2.1) (some (decide (a0.2.2.1 < a1.2.2.1))) (
    cond (a0.2.2.2.1 != a1.2.2.2.1) (some (decide (a0.2.2.2.1 < a1.2.2.2.1))) (some (decide (a0.2.2.2.2 < a1.2.2.2.2)))))) := by kernel_rfl

noncomputable def spec_OutSort (k : Nat) (a0 : V_sl_impl_Out) : Option (List V_impl_Out) := evalT E k 83 (.ow 111 t_impl_Out) [inp t_sl_impl_Out a0] []
noncomputable def spec_OutSort_3 (k : Nat) (j : Nat) (y0 : List V_impl_Out) (y1 : Int) (y2 : List V_impl_Out) : Option (List V_impl_Out) := loopAt E 83 (.ow 111 t_impl_Out) [true, true, false, true, false] [] [] k [] j (mkS 47 [(0, .c (.sl 111 t_impl_Out y0)), (3, .c (.o 0)), (4, .c (.int .i64 y1))]) [some (.own 111 t_impl_Out y2)]
noncomputable def spec_OutSort_6 (k : Nat) (j0 : Nat) (j : Nat) (y0 : List V_impl_Out) (y1 : Int) (y2 : Int) (y3 : List V_impl_Out) : Option (List V_impl_Out) := loopAt E 83 (.ow 111 t_impl_Out) [true, true, false, true, false, false, true, false, false, true, false, false] [] [] k [j0] j (mkS 47 [(0, .c (.sl 111 t_impl_Out y0)), (3, .c (.o 0)), (4, .c (.int .i64 y1)), (5, .c (.int .i64 y2))]) [some (.own 111 t_impl_Out y3)]
theorem spec_OutSort_eq (k : Nat) (a0 : V_sl_impl_Out) : spec_OutSort (k + 1) a0 = spec_OutSort_3 k k a0 0 [] := by kernel_rfl
theorem spec_OutSort_3_eq (k : Nat) (j : Nat) (y0 : List V_impl_Out) (y1 : Int) (y2 : List V_impl_Out) : spec_OutSort_3 k (j + 1) y0 y1 y2 = 
 cond (decide (y1 < (↑y0.length : Int))) (spec_OutSort_6 k j k y0 y1 (↑y2.length : Int) y2) (some y2) := by kernel_rfl
theorem spec_OutSort_6_eq (k : Nat) (j0 : Nat) (j : Nat) (y0 : List V_impl_Out) (y1 : Int) (y2 : Int) (y3 : List V_impl_Out) : spec_OutSort_6 k j0 (j + 1) y0 y1 y2 y3 = 
 cond (decide (y2 > 0)) (
  cond (decide (0 ≤ y1)) (
   cond (decide (y1 < (↑y0.length : Int))) (
    cond (decide (0 ≤ IntKind.i64.wrap (y2 - 1))) (
     cond (decide (IntKind.i64.wrap (y2 - 1) < (↑y3.length : Int))) (
      cond (decide ((IntKind.i64.wrap (y2 - 1)).toNat < y3.length)) (
       (spec_OutLess k (y0.getD y1.toNat (dflt t_impl_Out)) (y3.getD (IntKind.i64.wrap (y2 - 1)).toNat (dflt t_impl_Out))).bind fun x0 => 
        cond (x0) (spec_OutSort_6 k j0 j y0 y1 (IntKind.i64.wrap (y2 - 1)) y3) (
         cond (decide (0 ≤ y2)) (
          cond (decide (y2 ≤ (↑y3.length : Int))) (
           cond (decide ((0 + (List.drop (Int.toNat 0) (List.take y2.toNat y3)).length) * 40 ≤ 140737488351232)) (
            cond (decide (0 ≤ y1)) (
             cond (decide (y1 < (↑y0.length : Int))) (
              cond (decide
  ((([] ++ List.drop (Int.toNat 0) (List.take y2.toNat y3)).length +
        [((y0.getD y1.toNat (dflt t_impl_Out)).1, (y0.getD y1.toNat (dflt t_impl_Out)).2.1,
              (y0.getD y1.toNat (dflt t_impl_Out)).2.2.1, (y0.getD y1.toNat (dflt t_impl_Out)).2.2.2.1,
              (y0.getD y1.toNat (dflt t_impl_Out)).2.2.2.2)].length) *
      40 ≤
    140737488351232)) (
               cond (decide (0 ≤ y2)) (
                cond (decide (y2 ≤ (↑y3.length : Int))) (
                 cond (decide ((↑y3.length : Int) ≤ (↑y3.length : Int))) (
                  cond (decide
  ((([] ++ List.drop (Int.toNat 0) (List.take y2.toNat y3) ++
            [((y0.getD y1.toNat (dflt t_impl_Out)).1, (y0.getD y1.toNat (dflt t_impl_Out)).2.1,
                (y0.getD y1.toNat (dflt t_impl_Out)).2.2.1, (y0.getD y1.toNat (dflt t_impl_Out)).2.2.2.1,
                (y0.getD y1.toNat (dflt t_impl_Out)).2.2.2.2)]).length +
        (List.drop y2.toNat (List.take (↑y3.length : Int).toNat y3)).length) *
      40 ≤
    140737488351232)) (spec_OutSort_3 k j0 y0 (IntKind.i64.wrap (y1 + 1)) ([] ++ List.drop (Int.toNat 0) (List.take y2.toNat y3) ++
    [((y0.getD y1.toNat (dflt t_impl_Out)).1, (y0.getD y1.toNat (dflt t_impl_Out)).2.1,
        (y0.getD y1.toNat (dflt t_impl_Out)).2.2.1, (y0.getD y1.toNat (dflt t_impl_Out)).2.2.2.1,
        (y0.getD y1.toNat (dflt t_impl_Out)).2.2.2.2)] ++
  List.drop y2.toNat (List.take (↑y3.length : Int).toNat y3))) (none)) (none)) (none)) (none)) (none)) (none)) (none)) (none)) (none)) (none))) (none)) (none)) (none)) (none)) (none)) (
  cond (decide (0 ≤ y2)) (
   cond (decide (y2 ≤ (↑y3.length : Int))) (
    cond (decide ((0 + (List.drop (Int.toNat 0) (List.take y2.toNat y3)).length) * 40 ≤ 140737488351232)) (
     cond (decide (0 ≤ y1)) (
      cond (decide (y1 < (↑y0.length : Int))) (
       cond (decide
  ((([] ++ List.drop (Int.toNat 0) (List.take y2.toNat y3)).length +
        [((y0.getD y1.toNat (dflt t_impl_Out)).1, (y0.getD y1.toNat (dflt t_impl_Out)).2.1,
              (y0.getD y1.toNat (dflt t_impl_Out)).2.2.1, (y0.getD y1.toNat (dflt t_impl_Out)).2.2.2.1,
              (y0.getD y1.toNat (dflt t_impl_Out)).2.2.2.2)].length) *
      40 ≤
    140737488351232)) (
        cond (decide (0 ≤ y2)) (
         cond (decide (y2 ≤ (↑y3.length : Int))) (
          cond (decide ((↑y3.length : Int) ≤ (↑y3.length : Int))) (
           cond (decide
  ((([] ++ List.drop (Int.toNat 0) (List.take y2.toNat y3) ++
            [((y0.getD y1.toNat (dflt t_impl_Out)).1, (y0.getD y1.toNat (dflt t_impl_Out)).2.1,
                (y0.getD y1.toNat (dflt t_impl_Out)).2.2.1, (y0.getD y1.toNat (dflt t_impl_Out)).2.2.2.1,
                (y0.getD y1.toNat (dflt t_impl_Out)).2.2.2.2)]).length +
        (List.drop y2.toNat (List.take (↑y3.length : Int).toNat y3)).length) *
      40 ≤
    140737488351232)) (spec_OutSort_3 k j0 y0 (IntKind.i64.wrap (y1 + 1)) ([] ++ List.drop (Int.toNat 0) (List.take y2.toNat y3) ++
    [((y0.getD y1.toNat (dflt t_impl_Out)).1, (y0.getD y1.toNat (dflt t_impl_Out)).2.1,
        (y0.getD y1.toNat (dflt t_impl_Out)).2.2.1, (y0.getD y1.toNat (dflt t_impl_Out)).2.2.2.1,
        (y0.getD y1.toNat (dflt t_impl_Out)).2.2.2.2)] ++
  List.drop y2.toNat (List.take (↑y3.length : Int).toNat y3))) (none)) (none)) (none)) (none)) (none)) (none)) (none)) (none)) (none)) (none)) := by kernel_rfl

noncomputable def spec_l72Word_h0 (k : Nat) (y0 : V_spec_l6Rd) : Option (((V_int × (V_int × (V_int × (V_int × (V_int × (V_int × (V_int × (List V_int × (List V_int × (List V_impl_Event × List V_impl_Out)))))))))) × ((List V_uint8 × (Int × Unit)) × Unit))) := evalT E k 86 (.pair (.pair t_int (.pair t_int (.pair t_int (.pair t_int (.pair t_int (.pair t_int (.pair t_int (.pair (.ow 3 t_int) (.pair (.ow 3 t_int) (.pair (.ow 41 t_impl_Event) (.ow 111 t_impl_Out))))))))))) (.pair (.pair (.sl 5 t_uint8) (.pair (.int .i64) .unit)) .unit)) [.c (.p 0 0)] [some (.box 170 (cells t_spec_l6Rd y0))]
theorem spec_l72Word_h0_eq (k : Nat) (y0 : V_spec_l6Rd) : spec_l72Word_h0 (k + 1) y0 = 
 (spec_l6Rd_pick_h0 k 7 y0).bind fun x0 => 
  (spec_l6Rd_pick_h0 k 3 (x0.2.1.1, x0.2.1.2.1)).bind fun x1 => 
   (spec_l6Rd_pick_h0 k 3 (x1.2.1.1, x1.2.1.2.1)).bind fun x2 => 
    (spec_l6Rd_pick_h0 k 3 (x2.2.1.1, x2.2.1.2.1)).bind fun x3 => 
     (spec_l6Rd_pick_h0 k 6 (x3.2.1.1, x3.2.1.2.1)).bind fun x4 => 
      (spec_l6Rd_pick_h0 k 3 (x4.2.1.1, x4.2.1.2.1)).bind fun x5 => 
       (spec_l6Rd_pick_h0 k 12 (x5.2.1.1, x5.2.1.2.1)).bind fun x6 => 
        (spec_l6Rd_pick_h0 k 5 (x6.2.1.1, x6.2.1.2.1)).bind fun x7 => 
         cond (x7.1 == 0) (
          (spec_l6Rd_pick_h0 k 2 (x7.2.1.1, x7.2.1.2.1)).bind fun x8 => 
           (spec_l6Rd_pick_h0 k 3 (x8.2.1.1, x8.2.1.2.1)).bind fun x9 => 
            (spec_l6Rd_pick_h0 k 20 (x9.2.1.1, x9.2.1.2.1)).bind fun x10 => 
             cond (x10.1 == 0) (
              (spec_l6Rd_pick_h0 k 2 (x10.2.1.1, x10.2.1.2.1)).bind fun x11 => 
               cond (decide (0 ≤ x11.1)) (
                cond (decide (x11.1 < (↑[0, 8].length : Int))) (
                 cond (decide (Int.toNat x11.1 < [0, 8].length)) (some (((([0, 8] : List Int).getD (Int.toNat x11.1) (dflt t_int), x1.1, x2.1, IntKind.i64.wrap (1 + x3.1), x4.1,
    IntKind.i64.wrap (1 + x5.1), x6.1, [x8.1, 1, 1], [1, x9.1, 1], [], []),
  (x11.2.1.1, x11.2.1.2.1, ()), ()))) (none)) (none)) (none)) (
              cond (x10.1 == 1) (
               (spec_l6Rd_pick_h0 k 2 (x10.2.1.1, x10.2.1.2.1)).bind fun x12 => 
                cond (decide (0 ≤ x12.1)) (
                 cond (decide (x12.1 < (↑[-1, 3].length : Int))) (
                  cond (decide (Int.toNat x12.1 < [-1, 3].length)) (some (((IntKind.i64.wrap (1 + x0.1), ([-1, 3] : List Int).getD (Int.toNat x12.1) (dflt t_int), x2.1, IntKind.i64.wrap (1 + x3.1),
    x4.1, IntKind.i64.wrap (1 + x5.1), x6.1, [x8.1, 1, 1], [1, x9.1, 1], [], []),
  (x12.2.1.1, x12.2.1.2.1, ()), ()))) (none)) (none)) (none)) (
               cond (x10.1 == 2) (
                (spec_l6Rd_pick_h0 k 3 (x10.2.1.1, x10.2.1.2.1)).bind fun x13 => 
                 cond (decide (0 ≤ x13.1)) (
                  cond (decide (x13.1 < (↑[-1, 41, 42].length : Int))) (
                   cond (decide (Int.toNat x13.1 < [-1, 41, 42].length)) (some (((IntKind.i64.wrap (1 + x0.1), x1.1, x2.1, IntKind.i64.wrap (1 + x3.1), x4.1, IntKind.i64.wrap (1 + x5.1),
    ([-1, 41, 42] : List Int).getD (Int.toNat x13.1) (dflt t_int), [x8.1, 1, 1], [1, x9.1, 1], [], []),
  (x13.2.1.1, x13.2.1.2.1, ()), ()))) (none)) (none)) (none)) (
                cond (x10.1 == 3) (some (((IntKind.i64.wrap (1 + x0.1), x1.1, x2.1, IntKind.i64.wrap (1 + x3.1), x4.1, IntKind.i64.wrap (1 + x5.1),
    x6.1, [1, 2], [1, x9.1, 1], [], []),
  (x10.2.1.1, x10.2.1.2.1, ()), ()))) (
                 cond (x10.1 == 4) (
                  (spec_l22Max k ).bind fun x14 => 
                   (spec_l22Max k ).bind fun x15 => 
                    (spec_l6Rd_pick_h0 k 3 (x10.2.1.1, x10.2.1.2.1)).bind fun x16 => 
                     cond (decide (0 ≤ x16.1)) (
                      cond (decide (x16.1 < (↑[-1, x14, IntKind.i64.wrap (x15 + 1)].length : Int))) (
                       cond (decide (Int.toNat x16.1 < [-1, x14, IntKind.i64.wrap (x15 + 1)].length)) (some (((IntKind.i64.wrap (1 + x0.1), x1.1, x2.1, IntKind.i64.wrap (1 + x3.1),
    ([-1, x14, IntKind.i64.wrap (x15 + 1)] : List Int).getD (Int.toNat x16.1) (dflt t_int), IntKind.i64.wrap (1 + x5.1), x6.1,
    [x8.1, 1, 1], [1, x9.1, 1], [], []),
  (x16.2.1.1, x16.2.1.2.1, ()), ()))) (none)) (none)) (none)) (some (((IntKind.i64.wrap (1 + x0.1), x1.1, x2.1, IntKind.i64.wrap (1 + x3.1), x4.1, IntKind.i64.wrap (1 + x5.1),
    x6.1, [x8.1, 1, 1], [1, x9.1, 1], [], []),
  (x10.2.1.1, x10.2.1.2.1, ()), ())))))))) (
          cond (x7.1 == 1) (
           (spec_l72Events_h0 k 4 (x7.2.1.1, x7.2.1.2.1)).bind fun x17 => 
            (spec_EventSort k x17.1).bind fun x18 => 
             (spec_l6Rd_pick_h0 k 20 (x17.2.1.1, x17.2.1.2.1)).bind fun x19 => 
              cond (x19.1 == 0) (
               (spec_l6Rd_pick_h0 k 2 (x19.2.1.1, x19.2.1.2.1)).bind fun x20 => 
                cond (decide (0 ≤ x20.1)) (
                 cond (decide (x20.1 < (↑[0, 8].length : Int))) (
                  cond (decide (Int.toNat x20.1 < [0, 8].length)) (some (((([0, 8] : List Int).getD (Int.toNat x20.1) (dflt t_int), x1.1, x2.1, IntKind.i64.wrap (1 + x3.1), x4.1,
    IntKind.i64.wrap (1 + x5.1), x6.1, [], [], x18, []),
  (x20.2.1.1, x20.2.1.2.1, ()), ()))) (none)) (none)) (none)) (
               cond (x19.1 == 1) (
                (spec_l6Rd_pick_h0 k 2 (x19.2.1.1, x19.2.1.2.1)).bind fun x21 => 
                 cond (decide (0 ≤ x21.1)) (
                  cond (decide (x21.1 < (↑[-1, 3].length : Int))) (
                   cond (decide (Int.toNat x21.1 < [-1, 3].length)) (some (((IntKind.i64.wrap (1 + x0.1), ([-1, 3] : List Int).getD (Int.toNat x21.1) (dflt t_int), x2.1, IntKind.i64.wrap (1 + x3.1),
    x4.1, IntKind.i64.wrap (1 + x5.1), x6.1, [], [], x18, []),
  (x21.2.1.1, x21.2.1.2.1, ()), ()))) (none)) (none)) (none)) (
                cond (x19.1 == 2) (
                 (spec_l6Rd_pick_h0 k 3 (x19.2.1.1, x19.2.1.2.1)).bind fun x22 => 
                  cond (decide (0 ≤ x22.1)) (
                   cond (decide (x22.1 < (↑[-1, 41, 42].length : Int))) (
                    cond (decide (Int.toNat x22.1 < [-1, 41, 42].length)) (some (((IntKind.i64.wrap (1 + x0.1), x1.1, x2.1, IntKind.i64.wrap (1 + x3.1), x4.1, IntKind.i64.wrap (1 + x5.1),
    ([-1, 41, 42] : List Int).getD (Int.toNat x22.1) (dflt t_int), [], [], x18, []),
  (x22.2.1.1, x22.2.1.2.1, ()), ()))) (none)) (none)) (none)) (
                 cond (x19.1 == 3) (some (((IntKind.i64.wrap (1 + x0.1), x1.1, x2.1, IntKind.i64.wrap (1 + x3.1), x4.1, IntKind.i64.wrap (1 + x5.1),
    x6.1, [1, 2], [], x18, []),
  (x19.2.1.1, x19.2.1.2.1, ()), ()))) (
                  cond (x19.1 == 4) (
                   (spec_l22Max k ).bind fun x23 => 
                    (spec_l22Max k ).bind fun x24 => 
                     (spec_l6Rd_pick_h0 k 3 (x19.2.1.1, x19.2.1.2.1)).bind fun x25 => 
                      cond (decide (0 ≤ x25.1)) (
                       cond (decide (x25.1 < (↑[-1, x23, IntKind.i64.wrap (x24 + 1)].length : Int))) (
                        cond (decide (Int.toNat x25.1 < [-1, x23, IntKind.i64.wrap (x24 + 1)].length)) (some (((IntKind.i64.wrap (1 + x0.1), x1.1, x2.1, IntKind.i64.wrap (1 + x3.1),
    ([-1, x23, IntKind.i64.wrap (x24 + 1)] : List Int).getD (Int.toNat x25.1) (dflt t_int), IntKind.i64.wrap (1 + x5.1), x6.1, [],
    [], x18, []),
  (x25.2.1.1, x25.2.1.2.1, ()), ()))) (none)) (none)) (none)) (some (((IntKind.i64.wrap (1 + x0.1), x1.1, x2.1, IntKind.i64.wrap (1 + x3.1), x4.1, IntKind.i64.wrap (1 + x5.1),
    x6.1, [], [], x18, []),
  (x19.2.1.1, x19.2.1.2.1, ()), ())))))))) (
           cond (x7.1 == 2) (
            (spec_l72Out_h0 k (x7.2.1.1, x7.2.1.2.1)).bind fun x26 => 
             (spec_l72Out_h0 k (x26.2.1.1, x26.2.1.2.1)).bind fun x27 => 
              (spec_OutSort k [(x26.1.1, x26.1.2.1, x26.1.2.2.1, x26.1.2.2.2.1, x26.1.2.2.2.2),
  (x27.1.1, x27.1.2.1, x27.1.2.2.1, x27.1.2.2.2.1, x27.1.2.2.2.2)]).bind fun x28 => 
               (spec_l6Rd_pick_h0 k 20 (x27.2.1.1, x27.2.1.2.1)).bind fun x29 => 
                cond (x29.1 == 0) (
                 (spec_l6Rd_pick_h0 k 2 (x29.2.1.1, x29.2.1.2.1)).bind fun x30 => 
                  cond (decide (0 ≤ x30.1)) (
                   cond (decide (x30.1 < (↑[0, 8].length : Int))) (
                    cond (decide (Int.toNat x30.1 < [0, 8].length)) (some (((([0, 8] : List Int).getD (Int.toNat x30.1) (dflt t_int), x1.1, x2.1, IntKind.i64.wrap (1 + x3.1), x4.1,
    IntKind.i64.wrap (1 + x5.1), x6.1, [], [], [], x28),
  (x30.2.1.1, x30.2.1.2.1, ()), ()))) (none)) (none)) (none)) (
                 cond (x29.1 == 1) (
                  (spec_l6Rd_pick_h0 k 2 (x29.2.1.1, x29.2.1.2.1)).bind fun x31 => 
                   cond (decide (0 ≤ x31.1)) (
                    cond (decide (x31.1 < (↑[-1, 3].length : Int))) (
                     cond (decide (Int.toNat x31.1 < [-1, 3].length)) (some (((IntKind.i64.wrap (1 + x0.1), ([-1, 3] : List Int).getD (Int.toNat x31.1) (dflt t_int), x2.1, IntKind.i64.wrap (1 + x3.1),
    x4.1, IntKind.i64.wrap (1 + x5.1), x6.1, [], [], [], x28),
  (x31.2.1.1, x31.2.1.2.1, ()), ()))) (none)) (none)) (none)) (
                  cond (x29.1 == 2) (
                   (spec_l6Rd_pick_h0 k 3 (x29.2.1.1, x29.2.1.2.1)).bind fun x32 => 
                    cond (decide (0 ≤ x32.1)) (
                     cond (decide (x32.1 < (↑[-1, 41, 42].length : Int))) (
                      cond (decide (Int.toNat x32.1 < [-1, 41, 42].length)) (some (((IntKind.i64.wrap (1 + x0.1), x1.1, x2.1, IntKind.i64.wrap (1 + x3.1), x4.1, IntKind.i64.wrap (1 + x5.1),
    ([-1, 41, 42] : List Int).getD (Int.toNat x32.1) (dflt t_int), [], [], [], x28),
  (x32.2.1.1, x32.2.1.2.1, ()), ()))) (none)) (none)) (none)) (
                   cond (x29.1 == 3) (some (((IntKind.i64.wrap (1 + x0.1), x1.1, x2.1, IntKind.i64.wrap (1 + x3.1), x4.1, IntKind.i64.wrap (1 + x5.1),
    x6.1, [1, 2], [], [], x28),
  (x29.2.1.1, x29.2.1.2.1, ()), ()))) (
                    cond (x29.1 == 4) (
                     (spec_l22Max k ).bind fun x33 => 
                      (spec_l22Max k ).bind fun x34 => 
                       (spec_l6Rd_pick_h0 k 3 (x29.2.1.1, x29.2.1.2.1)).bind fun x35 => 
                        cond (decide (0 ≤ x35.1)) (
                         cond (decide (x35.1 < (↑[-1, x33, IntKind.i64.wrap (x34 + 1)].length : Int))) (
                          cond (decide (Int.toNat x35.1 < [-1, x33, IntKind.i64.wrap (x34 + 1)].length)) (some (((IntKind.i64.wrap (1 + x0.1), x1.1, x2.1, IntKind.i64.wrap (1 + x3.1),
    ([-1, x33, IntKind.i64.wrap (x34 + 1)] : List Int).getD (Int.toNat x35.1) (dflt t_int), IntKind.i64.wrap (1 + x5.1), x6.1, [],
    [], [], x28),
  (x35.2.1.1, x35.2.1.2.1, ()), ()))) (none)) (none)) (none)) (some (((IntKind.i64.wrap (1 + x0.1), x1.1, x2.1, IntKind.i64.wrap (1 + x3.1), x4.1, IntKind.i64.wrap (1 + x5.1),
    x6.1, [], [], [], x28),
  (x29.2.1.1, x29.2.1.2.1, ()), ())))))))) (
            (spec_l6Rd_pick_h0 k 20 (x7.2.1.1, x7.2.1.2.1)).bind fun x36 => 
             cond (x36.1 == 0) (
              (spec_l6Rd_pick_h0 k 2 (x36.2.1.1, x36.2.1.2.1)).bind fun x37 => 
               cond (decide (0 ≤ x37.1)) (
                cond (decide (x37.1 < (↑[0, 8].length : Int))) (
                 cond (decide (Int.toNat x37.1 < [0, 8].length)) (some (((([0, 8] : List Int).getD (Int.toNat x37.1) (dflt t_int), x1.1, x2.1, IntKind.i64.wrap (1 + x3.1), x4.1,
    IntKind.i64.wrap (1 + x5.1), x6.1, [], [], [], []),
  (x37.2.1.1, x37.2.1.2.1, ()), ()))) (none)) (none)) (none)) (
              cond (x36.1 == 1) (
               (spec_l6Rd_pick_h0 k 2 (x36.2.1.1, x36.2.1.2.1)).bind fun x38 => 
                cond (decide (0 ≤ x38.1)) (
                 cond (decide (x38.1 < (↑[-1, 3].length : Int))) (
                  cond (decide (Int.toNat x38.1 < [-1, 3].length)) (some (((IntKind.i64.wrap (1 + x0.1), ([-1, 3] : List Int).getD (Int.toNat x38.1) (dflt t_int), x2.1, IntKind.i64.wrap (1 + x3.1),
    x4.1, IntKind.i64.wrap (1 + x5.1), x6.1, [], [], [], []),
  (x38.2.1.1, x38.2.1.2.1, ()), ()))) (none)) (none)) (none)) (
               cond (x36.1 == 2) (
                (spec_l6Rd_pick_h0 k 3 (x36.2.1.1, x36.2.1.2.1)).bind fun x39 => 
                 cond (decide (0 ≤ x39.1)) (
                  cond (decide (x39.1 < (↑[-1, 41, 42].length : Int))) (
                   cond (decide (Int.toNat x39.1 < [-1, 41, 42].length)) (some (((IntKind.i64.wrap (1 + x0.1), x1.1, x2.1, IntKind.i64.wrap (1 + x3.1), x4.1, IntKind.i64.wrap (1 + x5.1),
    ([-1, 41, 42] : List Int).getD (Int.toNat x39.1) (dflt t_int), [], [], [], []),
  (x39.2.1.1, x39.2.1.2.1, ()), ()))) (none)) (none)) (none)) (
                cond (x36.1 == 3) (some (((IntKind.i64.wrap (1 + x0.1), x1.1, x2.1, IntKind.i64.wrap (1 + x3.1), x4.1, IntKind.i64.wrap (1 + x5.1),
    x6.1, [1, 2], [], [], []),
  (x36.2.1.1, x36.2.1.2.1, ()), ()))) (
                 cond (x36.1 == 4) (
                  (spec_l22Max k ).bind fun x40 => 
                   (spec_l22Max k ).bind fun x41 => 
                    (spec_l6Rd_pick_h0 k 3 (x36.2.1.1, x36.2.1.2.1)).bind fun x42 => 
                     cond (decide (0 ≤ x42.1)) (
                      cond (decide (x42.1 < (↑[-1, x40, IntKind.i64.wrap (x41 + 1)].length : Int))) (
                       cond (decide (Int.toNat x42.1 < [-1, x40, IntKind.i64.wrap (x41 + 1)].length)) (some (((IntKind.i64.wrap (1 + x0.1), x1.1, x2.1, IntKind.i64.wrap (1 + x3.1),
    ([-1, x40, IntKind.i64.wrap (x41 + 1)] : List Int).getD (Int.toNat x42.1) (dflt t_int), IntKind.i64.wrap (1 + x5.1), x6.1, [],
    [], [], []),
  (x42.2.1.1, x42.2.1.2.1, ()), ()))) (none)) (none)) (none)) (some (((IntKind.i64.wrap (1 + x0.1), x1.1, x2.1, IntKind.i64.wrap (1 + x3.1), x4.1, IntKind.i64.wrap (1 + x5.1),
    x6.1, [], [], [], []),
  (x36.2.1.1, x36.2.1.2.1, ()), ())))))))))) := by kernel_rfl

noncomputable def spec_DrawWordOk (k : Nat) (a0 : V_sl_uint8) : Option ((V_int × (V_int × (V_int × (V_int × (V_int × (V_int × (V_int × (List V_int × (List V_int × (List V_impl_Event × List V_impl_Out))))))))))) := evalT E k 38 (.pair t_int (.pair t_int (.pair t_int (.pair t_int (.pair t_int (.pair t_int (.pair t_int (.pair (.ow 3 t_int) (.pair (.ow 3 t_int) (.pair (.ow 41 t_impl_Event) (.ow 111 t_impl_Out))))))))))) [inp t_sl_uint8 a0] []
theorem spec_DrawWordOk_eq (k : Nat) (a0 : V_sl_uint8) : spec_DrawWordOk (k + 1) a0 = 
 (spec_l6Open k a0).bind fun x0 => 
  (spec_l72Word_h0 k x0).bind fun x1 => some (x1.1.1, x1.1.2.1, x1.1.2.2.1, x1.1.2.2.2.1, x1.1.2.2.2.2.1,
  x1.1.2.2.2.2.2.1, x1.1.2.2.2.2.2.2.1, x1.1.2.2.2.2.2.2.2.1,
  x1.1.2.2.2.2.2.2.2.2.1, x1.1.2.2.2.2.2.2.2.2.2.1,
  x1.1.2.2.2.2.2.2.2.2.2.2) := by kernel_rfl

noncomputable def spec_l6In (k : Nat) (a0 : V_int) (a1 : V_int) (a2 : V_int) : Option V_bool := evalT E k 88 t_bool [inp t_int a0, inp t_int a1, inp t_int a2] []
theorem spec_l6In_eq (k : Nat) (a0 : V_int) (a1 : V_int) (a2 : V_int) : spec_l6In (k + 1) a0 a1 a2 = 
 cond (decide (a0 ≥ a1)) (some (decide (a0 ≤ a2))) (some false) := by kernel_rfl

noncomputable def spec_l23List (k : Nat) (a0 : V_sl_int) : Option V_bool := evalT E k 90 t_bool [inp t_sl_int a0] []
noncomputable def spec_l23List_4 (k : Nat) (j : Nat) (y0 : List V_int) (y1 : Int) : Option V_bool := loopAt E 90 t_bool [true, true, false, true, false] [] [] k [] j (mkS 25 [(0, .c (.sl 3 t_int y0)), (3, .c (.int .i64 y1))]) []
theorem spec_l23List_eq (k : Nat) (a0 : V_sl_int) : spec_l23List (k + 1) a0 = 
 cond ((↑(List.length a0) : Int) != 0) (
  cond ((↑(List.length a0) : Int) != 3) (some false) (spec_l23List_4 k k a0 0)) (spec_l23List_4 k k a0 0) := by kernel_rfl
theorem spec_l23List_4_eq (k : Nat) (j : Nat) (y0 : List V_int) (y1 : Int) : spec_l23List_4 k (j + 1) y0 y1 = 
 cond (decide (y1 < (↑y0.length : Int))) (
  cond (decide (0 ≤ y1)) (
   cond (decide (y1 < (↑y0.length : Int))) (
    (spec_l22Max k ).bind fun x0 => 
     (spec_l6In k (y0.getD y1.toNat (dflt t_int)) 0 x0).bind fun x1 => 
      cond (!x1) (some false) (spec_l23List_4 k j y0 (IntKind.i64.wrap (y1 + 1)))) (none)) (none)) (some true) := by kernel_rfl

noncomputable def spec_l2Most (k : Nat) : Option V_int := evalT E k 61 t_int [] []
theorem spec_l2Most_eq (k : Nat) : spec_l2Most (k + 1) = some 100 := by kernel_rfl

noncomputable def spec_l1Proc (k : Nat) (a0 : V_int) : Option V_bool := evalT E k 59 t_bool [inp t_int a0] []
theorem spec_l1Proc_eq (k : Nat) (a0 : V_int) : spec_l1Proc (k + 1) a0 = 
 (spec_l6In k a0 0 3).bind fun x0 => some x0 := by kernel_rfl

noncomputable def spec_l1Num (k : Nat) (a0 : V_int) : Option V_bool := evalT E k 128 t_bool [inp t_int a0] []
theorem spec_l1Num_eq (k : Nat) (a0 : V_int) : spec_l1Num (k + 1) a0 = 
 (spec_l6In k a0 0 999).bind fun x0 => some x0 := by kernel_rfl

noncomputable def spec_l1EventOk (k : Nat) (a0 : V_impl_Event) : Option V_bool := evalT E k 129 t_bool [inp t_impl_Event a0] []
theorem spec_l1EventOk_eq (k : Nat) (a0 : V_impl_Event) : spec_l1EventOk (k + 1) a0 = 
 (spec_l6In k a0.1 0 40).bind fun x0 => 
  cond (x0) (
   (spec_l1Proc k a0.2.1).bind fun x1 => 
    cond (x1) (
     (spec_l6In k a0.2.2.1 (-1) 3).bind fun x2 => 
      cond (x2) (
       (spec_l6In k a0.2.2.2.1 0 12).bind fun x3 => 
        cond (x3) (
         (spec_l6In k a0.2.2.2.2.1 0 3).bind fun x4 => 
          cond (x4) (
           (spec_l6In k a0.2.2.2.2.2.1 0 3).bind fun x5 => 
            cond (x5) (
             (spec_l1Num k a0.2.2.2.2.2.2).bind fun x6 => some x6) (some false)) (some false)) (some false)) (some false)) (some false)) (some false) := by kernel_rfl

noncomputable def spec_l2Events (k : Nat) (a0 : V_sl_impl_Event) (a1 : V_int) : Option V_bool := evalT E k 91 t_bool [inp t_sl_impl_Event a0, inp t_int a1] []
noncomputable def spec_l2Events_4 (k : Nat) (j : Nat) (y0 : List V_impl_Event) (y1 : Int) : Option V_bool := loopAt E 91 t_bool [true, true, false, true, false] [] [] k [] j (mkS 39 [(0, .c (.sl 41 t_impl_Event y0)), (5, .c (.int .i64 y1))]) []
theorem spec_l2Events_eq (k : Nat) (a0 : V_sl_impl_Event) (a1 : V_int) : spec_l2Events (k + 1) a0 a1 = 
 cond (decide ((↑(List.length a0) : Int) > a1)) (some false) (spec_l2Events_4 k k a0 0) := by kernel_rfl
theorem spec_l2Events_4_eq (k : Nat) (j : Nat) (y0 : List V_impl_Event) (y1 : Int) : spec_l2Events_4 k (j + 1) y0 y1 = 
 cond (decide (y1 < (↑y0.length : Int))) (
  cond (decide (0 ≤ y1)) (
   cond (decide (y1 < (↑y0.length : Int))) (
    (spec_l1EventOk k (y0.getD y1.toNat (dflt t_impl_Event))).bind fun x0 => 
     cond (!x0) (some false) (
      cond (decide (y1 > 0)) (
       cond (decide (0 ≤ IntKind.i64.wrap (y1 - 1))) (
        cond (decide (IntKind.i64.wrap (y1 - 1) < (↑y0.length : Int))) (
         cond (decide (0 ≤ y1)) (
          cond (decide (y1 < (↑y0.length : Int))) (
           (spec_EventLess k (y0.getD (IntKind.i64.wrap (y1 - 1)).toNat (dflt t_impl_Event)) (y0.getD y1.toNat (dflt t_impl_Event))).bind fun x1 => 
            cond (!x1) (some false) (spec_l2Events_4 k j y0 (IntKind.i64.wrap (y1 + 1)))) (none)) (none)) (none)) (none)) (spec_l2Events_4 k j y0 (IntKind.i64.wrap (y1 + 1))))) (none)) (none)) (some true) := by kernel_rfl

noncomputable def spec_l2Outs (k : Nat) (a0 : V_sl_impl_Out) (a1 : V_int) : Option V_bool := evalT E k 92 t_bool [inp t_sl_impl_Out a0, inp t_int a1] []
noncomputable def spec_l2Outs_4 (k : Nat) (j : Nat) (y0 : List V_impl_Out) (y1 : Int) : Option V_bool := loopAt E 92 t_bool [true, true, false, true, false] [] [] k [] j (mkS 63 [(0, .c (.sl 111 t_impl_Out y0)), (5, .c (.int .i64 y1))]) []
theorem spec_l2Outs_eq (k : Nat) (a0 : V_sl_impl_Out) (a1 : V_int) : spec_l2Outs (k + 1) a0 a1 = 
 cond (decide ((↑(List.length a0) : Int) > a1)) (some false) (spec_l2Outs_4 k k a0 0) := by kernel_rfl
theorem spec_l2Outs_4_eq (k : Nat) (j : Nat) (y0 : List V_impl_Out) (y1 : Int) : spec_l2Outs_4 k (j + 1) y0 y1 = 
 cond (decide (y1 < (↑y0.length : Int))) (
  cond (decide (0 ≤ y1)) (
   cond (decide (y1 < (↑y0.length : Int))) (
    (spec_l6In k ((y0.getD y1.toNat (dflt t_impl_Out)).1) 0 40).bind fun x0 => 
     cond (!x0) (some false) (
      (spec_l1Proc k ((y0.getD y1.toNat (dflt t_impl_Out)).2.1)).bind fun x1 => 
       cond (!x1) (some false) (
        (spec_l6In k ((y0.getD y1.toNat (dflt t_impl_Out)).2.2.1) 0 11).bind fun x2 => 
         cond (!x2) (some false) (
          (spec_l6In k ((y0.getD y1.toNat (dflt t_impl_Out)).2.2.2.1) 0 1).bind fun x3 => 
           cond (!x3) (some false) (
            (spec_l1Num k ((y0.getD y1.toNat (dflt t_impl_Out)).2.2.2.2)).bind fun x4 => 
             cond (!x4) (some false) (
              cond (decide (y1 > 0)) (
               cond (decide (0 ≤ IntKind.i64.wrap (y1 - 1))) (
                cond (decide (IntKind.i64.wrap (y1 - 1) < (↑y0.length : Int))) (
                 (spec_OutLess k (y0.getD (IntKind.i64.wrap (y1 - 1)).toNat (dflt t_impl_Out)) (y0.getD y1.toNat (dflt t_impl_Out))).bind fun x5 => 
                  cond (!x5) (some false) (spec_l2Outs_4 k j y0 (IntKind.i64.wrap (y1 + 1)))) (none)) (none)) (spec_l2Outs_4 k j y0 (IntKind.i64.wrap (y1 + 1))))))))) (none)) (none)) (some true) := by kernel_rfl

noncomputable def spec_WordOk (k : Nat) (a0 : V_impl_Word) : Option V_bool := evalT E k 39 t_bool [inp t_impl_Word a0] []
theorem spec_WordOk_eq (k : Nat) (a0 : V_impl_Word) : spec_WordOk (k + 1) a0 = 
 (spec_l6In k a0.1 1 7).bind fun x0 => 
  cond (x0) (
   (spec_l6In k a0.2.1 0 2).bind fun x1 => 
    cond (x1) (
     (spec_l6In k a0.2.2.1 0 2).bind fun x2 => 
      cond (x2) (
       (spec_l22Max k ).bind fun x3 => 
        (spec_l6In k a0.2.2.2.1 0 x3).bind fun x4 => 
         cond (x4) (
          (spec_l22Max k ).bind fun x5 => 
           (spec_l6In k a0.2.2.2.2.1 0 x5).bind fun x6 => 
            cond (x6) (
             (spec_l22Max k ).bind fun x7 => 
              (spec_l6In k a0.2.2.2.2.2.1 0 x7).bind fun x8 => 
               cond (x8) (
                (spec_l6In k a0.2.2.2.2.2.2.1 0 41).bind fun x9 => 
                 cond (x9) (
                  (spec_l23List k a0.2.2.2.2.2.2.2.1).bind fun x10 => 
                   cond (x10) (
                    (spec_l23List k a0.2.2.2.2.2.2.2.2.1).bind fun x11 => 
                     cond (x11) (
                      (spec_l2Most k ).bind fun x12 => 
                       (spec_l2Events k a0.2.2.2.2.2.2.2.2.2.1 x12).bind fun x13 => 
                        cond (x13) (
                         (spec_l2Outs k a0.2.2.2.2.2.2.2.2.2.2 96).bind fun x14 => some x14) (some false)) (some false)) (some false)) (some false)) (some false)) (some false)) (some false)) (some false)) (some false)) (some false) := by kernel_rfl

noncomputable def impl_within (k : Nat) (a0 : V_int) (a1 : V_int) (a2 : V_int) : Option V_bool := evalT E k 93 t_bool [inp t_int a0, inp t_int a1, inp t_int a2] []
theorem impl_within_eq (k : Nat) (a0 : V_int) (a1 : V_int) (a2 : V_int) : impl_within (k + 1) a0 a1 a2 = 
 cond (decide (a0 ≥ a1)) (some (decide (a0 ≤ a2))) (some false) := by kernel_rfl

noncomputable def impl_isNode (k : Nat) (a0 : V_int) : Option V_bool := evalT E k 94 t_bool [inp t_int a0] []
theorem impl_isNode_eq (k : Nat) (a0 : V_int) : impl_isNode (k + 1) a0 = 
 (impl_within k a0 0 2).bind fun x0 => some x0 := by kernel_rfl

noncomputable def impl_countsOk (k : Nat) (a0 : V_sl_int) : Option V_bool := evalT E k 95 t_bool [inp t_sl_int a0] []
noncomputable def impl_countsOk_2 (k : Nat) (j : Nat) (y0 : List V_int) (y1 : List V_int) (y2 : Int) (y3 : Int) : Option V_bool := loopAt E 95 t_bool [true, false, true, false] [] [] k [] j (mkS 23 [(0, .c (.sl 3 t_int y0)), (5, .c (.sl 3 t_int y1)), (6, .c (.int .i64 y2)), (7, .c (.int .i64 y3))]) []
theorem impl_countsOk_eq (k : Nat) (a0 : V_sl_int) : impl_countsOk (k + 1) a0 = impl_countsOk_2 k k a0 a0 ((↑(List.length a0) : Int)) 0 := by kernel_rfl
theorem impl_countsOk_2_eq (k : Nat) (j : Nat) (y0 : List V_int) (y1 : List V_int) (y2 : Int) (y3 : Int) : impl_countsOk_2 k (j + 1) y0 y1 y2 y3 = 
 cond (decide (y3 < y2)) (
  cond (decide (0 ≤ y3)) (
   cond (decide (y3 < (↑y1.length : Int))) (
    (impl_within k (y1.getD y3.toNat (dflt t_int)) 0 9999).bind fun x0 => 
     cond (!x0) (some false) (impl_countsOk_2 k j y0 y1 y2 (IntKind.i64.wrap (y3 + 1)))) (none)) (none)) (
  cond ((↑y0.length : Int) == 0) (some true) (some ((↑y0.length : Int) == 3))) := by kernel_rfl

noncomputable def impl_isProc (k : Nat) (a0 : V_int) : Option V_bool := evalT E k 66 t_bool [inp t_int a0] []
theorem impl_isProc_eq (k : Nat) (a0 : V_int) : impl_isProc (k + 1) a0 = 
 (impl_within k a0 0 3).bind fun x0 => some x0 := by kernel_rfl

noncomputable def impl_isKind (k : Nat) (a0 : V_int) : Option V_bool := evalT E k 155 t_bool [inp t_int a0] []
theorem impl_isKind_eq (k : Nat) (a0 : V_int) : impl_isKind (k + 1) a0 = 
 (impl_within k a0 0 3).bind fun x0 => some x0 := by kernel_rfl

noncomputable def impl_isNum (k : Nat) (a0 : V_int) : Option V_bool := evalT E k 131 t_bool [inp t_int a0] []
theorem impl_isNum_eq (k : Nat) (a0 : V_int) : impl_isNum (k + 1) a0 = 
 (impl_within k a0 0 999).bind fun x0 => some x0 := by kernel_rfl

noncomputable def impl_eventOk (k : Nat) (a0 : V_impl_Event) : Option V_bool := evalT E k 132 t_bool [inp t_impl_Event a0] []
theorem impl_eventOk_eq (k : Nat) (a0 : V_impl_Event) : impl_eventOk (k + 1) a0 = 
 (impl_within k a0.1 0 40).bind fun x0 => 
  cond (x0) (
   (impl_isProc k a0.2.1).bind fun x1 => 
    cond (x1) (
     (impl_within k a0.2.2.1 (-1) 3).bind fun x2 => 
      cond (x2) (
       (impl_within k a0.2.2.2.1 0 12).bind fun x3 => 
        cond (x3) (
         (impl_within k a0.2.2.2.2.1 0 3).bind fun x4 => 
          cond (x4) (
           (impl_isKind k a0.2.2.2.2.2.1).bind fun x5 => 
            cond (x5) (
             (impl_isNum k a0.2.2.2.2.2.2).bind fun x6 => some x6) (some false)) (some false)) (some false)) (some false)) (some false)) (some false) := by kernel_rfl

noncomputable def impl_keyOf (k : Nat) (a0 : V_impl_Event) : Option ((V_int × (V_int × (V_int × (V_int × (V_int × (V_int × V_int))))))) := evalT E k 134 (.pair t_int (.pair t_int (.pair t_int (.pair t_int (.pair t_int (.pair t_int t_int)))))) [inp t_impl_Event a0] []
theorem impl_keyOf_eq (k : Nat) (a0 : V_impl_Event) : impl_keyOf (k + 1) a0 = some (a0.1, a0.2.1, a0.2.2.1, a0.2.2.2.1, a0.2.2.2.2.1, a0.2.2.2.2.2.1,
  a0.2.2.2.2.2.2) := by kernel_rfl

noncomputable def cmp_isNaN_int (k : Nat) (a0 : V_int) : Option V_bool := evalT E k 169 t_bool [inp t_int a0] []
theorem cmp_isNaN_int_eq (k : Nat) (a0 : V_int) : cmp_isNaN_int (k + 1) a0 = some (a0 != a0) := by kernel_rfl

noncomputable def cmp_Compare_int (k : Nat) (a0 : V_int) (a1 : V_int) : Option V_int := evalT E k 166 t_int [inp t_int a0, inp t_int a1] []
theorem cmp_Compare_int_eq (k : Nat) (a0 : V_int) (a1 : V_int) : cmp_Compare_int (k + 1) a0 a1 = 
 (cmp_isNaN_int k a0).bind fun x0 => 
  (cmp_isNaN_int k a1).bind fun x1 => 
   cond (x0) (
    cond (x1) (some 0) (some (-1))) (
    cond (x1) (some 1) (
     cond (decide (a0 < a1)) (some (-1)) (
      cond (decide (a0 > a1)) (some 1) (some 0)))) := by kernel_rfl

noncomputable def slices_Compare_int_int (k : Nat) (a0 : V_sl_int) (a1 : V_sl_int) : Option V_int := evalT E k 156 t_int [inp t_sl_int a0, inp t_sl_int a1] []
noncomputable def slices_Compare_int_int_2 (k : Nat) (j : Nat) (y0 : List V_int) (y1 : List V_int) (y2 : List V_int) (y3 : Int) (y4 : Int) : Option V_int := loopAt E 156 t_int [true, false, true, false] [] [] k [] j (mkS 36 [(0, .c (.sl 3 t_int y0)), (1, .c (.sl 3 t_int y1)), (9, .c (.sl 3 t_int y2)), (10, .c (.int .i64 y3)), (11, .c (.int .i64 y4))]) []
theorem slices_Compare_int_int_eq (k : Nat) (a0 : V_sl_int) (a1 : V_sl_int) : slices_Compare_int_int (k + 1) a0 a1 = slices_Compare_int_int_2 k k a0 a1 a0 ((↑(List.length a0) : Int)) 0 := by kernel_rfl
theorem slices_Compare_int_int_2_eq (k : Nat) (j : Nat) (y0 : List V_int) (y1 : List V_int) (y2 : List V_int) (y3 : Int) (y4 : Int) : slices_Compare_int_int_2 k (j + 1) y0 y1 y2 y3 y4 = 
 cond (decide (y4 < y3)) (
  cond (decide (0 ≤ y4)) (
   cond (decide (y4 < (↑y2.length : Int))) (
    cond (decide (y4 ≥ (↑y1.length : Int))) (some 1) (
     cond (decide (0 ≤ y4)) (
      cond (decide (y4 < (↑y1.length : Int))) (
       (cmp_Compare_int k (y2.getD y4.toNat (dflt t_int)) (y1.getD y4.toNat (dflt t_int))).bind fun x0 => 
        cond (x0 != 0) (some x0) (slices_Compare_int_int_2 k j y0 y1 y2 y3 (IntKind.i64.wrap (y4 + 1)))) (none)) (none))) (none)) (none)) (
  cond (decide ((↑y0.length : Int) < (↑y1.length : Int))) (some (-1)) (some 0)) := by kernel_rfl

noncomputable def impl_keyLess (k : Nat) (a0 : V_impl_eventKey) (a1 : V_impl_eventKey) : Option V_bool := evalT E k 133 t_bool [inp t_impl_eventKey a0, inp t_impl_eventKey a1] []
theorem impl_keyLess_eq (k : Nat) (a0 : V_impl_eventKey) (a1 : V_impl_eventKey) : impl_keyLess (k + 1) a0 a1 = 
 (slices_Compare_int_int k [a0.1, a0.2.1, a0.2.2.1, a0.2.2.2.1, a0.2.2.2.2.1, a0.2.2.2.2.2.1,
  a0.2.2.2.2.2.2] [a1.1, a1.2.1, a1.2.2.1, a1.2.2.2.1, a1.2.2.2.2.1, a1.2.2.2.2.2.1,
  a1.2.2.2.2.2.2]).bind fun x0 => some (decide (x0 < 0)) := by kernel_rfl

noncomputable def impl_EventLess (k : Nat) (a0 : V_impl_Event) (a1 : V_impl_Event) : Option V_bool := evalT E k 69 t_bool [inp t_impl_Event a0, inp t_impl_Event a1] []
theorem impl_EventLess_eq (k : Nat) (a0 : V_impl_Event) (a1 : V_impl_Event) : impl_EventLess (k + 1) a0 a1 = 
 (impl_keyOf k a0).bind fun x0 => 
  (impl_keyOf k a1).bind fun x1 => 
   (impl_keyLess k x0 x1).bind fun x2 => some x2 := by kernel_rfl

noncomputable def impl_eventsOk (k : Nat) (a0 : V_sl_impl_Event) (a1 : V_int) : Option V_bool := evalT E k 96 t_bool [inp t_sl_impl_Event a0, inp t_int a1] []
noncomputable def impl_eventsOk_4 (k : Nat) (j : Nat) (y0 : List V_impl_Event) (y1 : List V_impl_Event) (y2 : Int) (y3 : Int) : Option V_bool := loopAt E 96 t_bool [true, true, false, true, false] [] [] k [] j (mkS 36 [(0, .c (.sl 41 t_impl_Event y0)), (11, .c (.sl 41 t_impl_Event y1)), (12, .c (.int .i64 y2)), (13, .c (.int .i64 y3))]) []
theorem impl_eventsOk_eq (k : Nat) (a0 : V_sl_impl_Event) (a1 : V_int) : impl_eventsOk (k + 1) a0 a1 = 
 cond (decide ((↑(List.length a0) : Int) > a1)) (some false) (impl_eventsOk_4 k k a0 a0 ((↑(List.length a0) : Int)) 0) := by kernel_rfl
theorem impl_eventsOk_4_eq (k : Nat) (j : Nat) (y0 : List V_impl_Event) (y1 : List V_impl_Event) (y2 : Int) (y3 : Int) : impl_eventsOk_4 k (j + 1) y0 y1 y2 y3 = 
 cond (decide (y3 < y2)) (
  cond (decide (0 ≤ y3)) (
   cond (decide (y3 < (↑y1.length : Int))) (
    (impl_eventOk k (y1.getD y3.toNat (dflt t_impl_Event))).bind fun x0 => 
     cond (!x0) (some false) (
      cond (decide (y3 > 0)) (
       cond (decide (0 ≤ IntKind.i64.wrap (y3 - 1))) (
        cond (decide (IntKind.i64.wrap (y3 - 1) < (↑y0.length : Int))) (
         (impl_EventLess k (y0.getD (IntKind.i64.wrap (y3 - 1)).toNat (dflt t_impl_Event)) (y1.getD y3.toNat (dflt t_impl_Event))).bind fun x1 => 
          cond (!x1) (some false) (impl_eventsOk_4 k j y0 y1 y2 (IntKind.i64.wrap (y3 + 1)))) (none)) (none)) (impl_eventsOk_4 k j y0 y1 y2 (IntKind.i64.wrap (y3 + 1))))) (none)) (none)) (some true) := by kernel_rfl

noncomputable def impl_OutLess (k : Nat) (a0 : V_impl_Out) (a1 : V_impl_Out) : Option V_bool := evalT E k 148 t_bool [inp t_impl_Out a0, inp t_impl_Out a1] []
theorem impl_OutLess_eq (k : Nat) (a0 : V_impl_Out) (a1 : V_impl_Out) : impl_OutLess (k + 1) a0 a1 = 
 (slices_Compare_int_int k [a0.1, a0.2.1, a0.2.2.1, a0.2.2.2.1, a0.2.2.2.2] [a1.1, a1.2.1, a1.2.2.1, a1.2.2.2.1, a1.2.2.2.2]).bind fun x0 => some (decide (x0 < 0)) := by kernel_rfl

noncomputable def impl_outsOk (k : Nat) (a0 : V_sl_impl_Out) (a1 : V_int) : Option V_bool := evalT E k 97 t_bool [inp t_sl_impl_Out a0, inp t_int a1] []
noncomputable def impl_outsOk_4 (k : Nat) (j : Nat) (y0 : List V_impl_Out) (y1 : List V_impl_Out) (y2 : Int) (y3 : Int) : Option V_bool := loopAt E 97 t_bool [true, true, false, true, false] [] [] k [] j (mkS 59 [(0, .c (.sl 111 t_impl_Out y0)), (12, .c (.sl 111 t_impl_Out y1)), (13, .c (.int .i64 y2)), (14, .c (.int .i64 y3))]) []
theorem impl_outsOk_eq (k : Nat) (a0 : V_sl_impl_Out) (a1 : V_int) : impl_outsOk (k + 1) a0 a1 = 
 cond (decide ((↑(List.length a0) : Int) > a1)) (some false) (impl_outsOk_4 k k a0 a0 ((↑(List.length a0) : Int)) 0) := by kernel_rfl
theorem impl_outsOk_4_eq (k : Nat) (j : Nat) (y0 : List V_impl_Out) (y1 : List V_impl_Out) (y2 : Int) (y3 : Int) : impl_outsOk_4 k (j + 1) y0 y1 y2 y3 = 
 cond (decide (y3 < y2)) (
  cond (decide (0 ≤ y3)) (
   cond (decide (y3 < (↑y1.length : Int))) (
    (impl_within k ((y1.getD y3.toNat (dflt t_impl_Out)).1) 0 40).bind fun x0 => 
     cond (x0) (
      (impl_isProc k ((y1.getD y3.toNat (dflt t_impl_Out)).2.1)).bind fun x1 => 
       cond (x1) (
        (impl_within k ((y1.getD y3.toNat (dflt t_impl_Out)).2.2.1) 0 11).bind fun x2 => 
         cond (x2) (
          (impl_within k ((y1.getD y3.toNat (dflt t_impl_Out)).2.2.2.1) 0 1).bind fun x3 => 
           cond (x3) (
            (impl_isNum k ((y1.getD y3.toNat (dflt t_impl_Out)).2.2.2.2)).bind fun x4 => 
             cond (!x4) (some false) (
              cond (decide (y3 > 0)) (
               cond (decide (0 ≤ IntKind.i64.wrap (y3 - 1))) (
                cond (decide (IntKind.i64.wrap (y3 - 1) < (↑y0.length : Int))) (
                 (impl_OutLess k (y0.getD (IntKind.i64.wrap (y3 - 1)).toNat (dflt t_impl_Out)) (y1.getD y3.toNat (dflt t_impl_Out))).bind fun x5 => 
                  cond (!x5) (some false) (impl_outsOk_4 k j y0 y1 y2 (IntKind.i64.wrap (y3 + 1)))) (none)) (none)) (impl_outsOk_4 k j y0 y1 y2 (IntKind.i64.wrap (y3 + 1))))) (some false)) (some false)) (some false)) (some false)) (none)) (none)) (some true) := by kernel_rfl

noncomputable def impl_WordOk (k : Nat) (a0 : V_impl_Word) : Option V_bool := evalT E k 40 t_bool [inp t_impl_Word a0] []
theorem impl_WordOk_eq (k : Nat) (a0 : V_impl_Word) : impl_WordOk (k + 1) a0 = 
 (impl_within k a0.1 1 7).bind fun x0 => 
  cond (x0) (
   (impl_isNode k a0.2.1).bind fun x1 => 
    cond (x1) (
     (impl_isNode k a0.2.2.1).bind fun x2 => 
      cond (x2) (
       (impl_within k a0.2.2.2.1 0 9999).bind fun x3 => 
        cond (x3) (
         (impl_within k a0.2.2.2.2.1 0 9999).bind fun x4 => 
          cond (x4) (
           (impl_within k a0.2.2.2.2.2.1 0 9999).bind fun x5 => 
            cond (x5) (
             (impl_within k a0.2.2.2.2.2.2.1 0 41).bind fun x6 => 
              cond (x6) (
               (impl_countsOk k a0.2.2.2.2.2.2.2.1).bind fun x7 => 
                cond (x7) (
                 (impl_countsOk k a0.2.2.2.2.2.2.2.2.1).bind fun x8 => 
                  cond (x8) (
                   (impl_eventsOk k a0.2.2.2.2.2.2.2.2.2.1 100).bind fun x9 => 
                    cond (x9) (
                     (impl_outsOk k a0.2.2.2.2.2.2.2.2.2.2 96).bind fun x10 => some x10) (some false)) (some false)) (some false)) (some false)) (some false)) (some false)) (some false)) (some false)) (some false)) (some false) := by kernel_rfl

noncomputable def laws_FnWordOk (k : Nat) (a0 : V_sl_uint8) : Option V_bool := evalT E k 8 t_bool [inp t_sl_uint8 a0] []
theorem laws_FnWordOk_eq (k : Nat) (a0 : V_sl_uint8) : laws_FnWordOk (k + 1) a0 = 
 cond (decide ((↑(List.length a0) : Int) > 1048576)) (some true) (
  (spec_DrawWordOk k a0).bind fun x0 => 
   (spec_WordOk k x0).bind fun x1 => 
    (impl_WordOk k x0).bind fun x2 => 
     cond (!x2 == x1) (some (x2 == x1)) (
      cond (!x2) (some (x2 == x1)) (
       cond (decide (0 ≤ IntKind.i64.wrap ((↑(List.length x0.2.2.2.2.2.2.2.2.2.1) : Int).tdiv 2))) (
        cond (decide
  (IntKind.i64.wrap ((↑(List.length x0.2.2.2.2.2.2.2.2.2.1) : Int).tdiv 2) ≤
    (↑(List.length x0.2.2.2.2.2.2.2.2.2.1) : Int))) (
         (impl_WordOk k ((x0.1, (x0.2.1, (x0.2.2.1, (x0.2.2.2.1, (x0.2.2.2.2.1, (x0.2.2.2.2.2.1, (x0.2.2.2.2.2.2.1, (x0.2.2.2.2.2.2.2.1, (x0.2.2.2.2.2.2.2.2.1, (List.drop (Int.toNat 0)
  (List.take (IntKind.i64.wrap ((↑(List.length x0.2.2.2.2.2.2.2.2.2.1) : Int).tdiv 2)).toNat
    x0.2.2.2.2.2.2.2.2.2.1), [])))))))))))).bind fun x3 => 
          cond (x3) (
           (impl_WordOk k ((x0.1, (x0.2.1, (x0.2.2.1, (x0.2.2.2.1, (x0.2.2.2.2.1, (-1, x0.2.2.2.2.2.2)))))))).bind fun x4 => some !x4) (some false)) (none)) (none)))) := by kernel_rfl
def Goal : Prop := ∀ (a0 : V_sl_uint8), Go.Sx.Good t_sl_uint8 a0 → ∃ k, laws_FnWordOk k a0 = some true
end Go.Proofs.Ytjgpacfhokpfdaa.SFnWordOk
