/- What each function of the program answers: one step of the plain machine, by the kernel. -/
import Derived.Test.YtjgpacfhokpfdaaEFnWordBack
set_option linter.unusedVariables false
set_option maxRecDepth 1000000
set_option maxHeartbeats 0
namespace Go.Proofs.Ytjgpacfhokpfdaa.SFnWordBack
open Go Go.Sx Go.Proofs
noncomputable def spec_l6Open (k : Nat) (a0 : V_sl_uint8) : Option V_spec_l6Rd := evalT E k 87 (.bx 170 t_spec_l6Rd) [inp t_sl_uint8 a0] []
theorem spec_l6Open_eq (k : Nat) (a0 : V_sl_uint8) : spec_l6Open (k + 1) a0 = 
 cond (decide ((↑(List.length a0) : Int) > 2000)) (
  cond (decide (2000 ≤ (↑(List.length a0) : Int))) (some ((List.drop (Int.toNat 0) (List.take (Int.toNat 2000) a0), 0))) (none)) (some (a0, 0)) := by kernel_rfl

noncomputable def spec_l6Rd_pick_h0 (k : Nat) (y0 : V_int) (y1 : V_spec_l6Rd) : Option ((V_int × ((List V_uint8 × (Int × Unit)) × Unit))) := evalT E k 145 (.pair t_int (.pair (.pair (.sl 5 t_uint8) (.pair (.int .i64) .unit)) .unit)) [.c (.p 0 0), inp t_int y0] [some (.box 170 (cells t_spec_l6Rd y1))]
theorem spec_l6Rd_pick_h0_eq (k : Nat) (y0 : V_int) (y1 : V_spec_l6Rd) : spec_l6Rd_pick_h0 (k + 1) y0 y1 = 
 cond (decide (y0 < 1)) (some ((0, (y1.1, IntKind.i64.wrap (y1.2 + 1), ()), ()))) (
  cond ((↑(List.length y1.1) : Int) == 0) (some ((0, (y1.1, IntKind.i64.wrap (y1.2 + 1), ()), ()))) (
   cond (decide (IntKind.i64.wrap (IntKind.i64.wrap (y1.2 + 1) - 1) < (↑(List.length y1.1) : Int))) (
    cond (decide (0 ≤ IntKind.i64.wrap (IntKind.i64.wrap (y1.2 + 1) - 1))) (
     cond (decide (IntKind.i64.wrap (IntKind.i64.wrap (y1.2 + 1) - 1) < (↑(List.length y1.1) : Int))) (
      cond (!decide (y0 = 0)) (some (((IntKind.i64.wrap (List.getD y1.1 (IntKind.i64.wrap (IntKind.i64.wrap (y1.2 + 1) - 1)).toNat (dflt t_uint8))).tmod y0,
  (y1.1, IntKind.i64.wrap (y1.2 + 1), ()), ()))) (none)) (none)) (none)) (
    cond (!decide ((↑(List.length y1.1) : Int) = 0)) (
     cond (decide (0 ≤ (IntKind.i64.wrap (IntKind.i64.wrap (y1.2 + 1) - 1)).tmod (↑(List.length y1.1) : Int))) (
      cond (decide
  ((IntKind.i64.wrap (IntKind.i64.wrap (y1.2 + 1) - 1)).tmod (↑(List.length y1.1) : Int) <
    (↑(List.length y1.1) : Int))) (
       cond (!decide ((↑(List.length y1.1) : Int) = 0)) (
        cond (decide
  (0 ≤
    (IntKind.i64.wrap (IntKind.i64.wrap (IntKind.i64.wrap (IntKind.i64.wrap (y1.2 + 1) - 1) * 7) + 3)).tmod
      (↑(List.length y1.1) : Int))) (
         cond (decide
  ((IntKind.i64.wrap (IntKind.i64.wrap (IntKind.i64.wrap (IntKind.i64.wrap (y1.2 + 1) - 1) * 7) + 3)).tmod
      (↑(List.length y1.1) : Int) <
    (↑(List.length y1.1) : Int))) (
          cond (!decide ((↑(List.length y1.1) : Int) = 0)) (
           cond (!decide (y0 = 0)) (some (((IntKind.i64.wrap
        (↑(BitVec.ofInt IntKind.i64.bits
                  (IntKind.i64.wrap
                    (IntKind.i64.wrap
                        (IntKind.i64.wrap
                            (IntKind.i64.wrap
                                (IntKind.i64.wrap
                                    (List.getD y1.1
                                      ((IntKind.i64.wrap (IntKind.i64.wrap (y1.2 + 1) - 1)).tmod
                                          (↑(List.length y1.1) : Int)).toNat
                                      (dflt t_uint8)) *
                                  131) +
                              IntKind.i64.wrap
                                (IntKind.i64.wrap
                                    (List.getD y1.1
                                      ((IntKind.i64.wrap
                                              (IntKind.i64.wrap
                                                  (IntKind.i64.wrap (IntKind.i64.wrap (y1.2 + 1) - 1) * 7) +
                                                3)).tmod
                                          (↑(List.length y1.1) : Int)).toNat
                                      (dflt t_uint8)) *
                                  1117)) +
                          IntKind.i64.wrap (IntKind.i64.wrap (IntKind.i64.wrap (y1.2 + 1) - 1) * 29)) +
                      IntKind.i64.wrap
                        (IntKind.i64.wrap
                            ((IntKind.i64.wrap (IntKind.i64.wrap (y1.2 + 1) - 1)).tdiv
                              (↑(List.length y1.1) : Int)) *
                          53))) ^^^
                BitVec.ofInt IntKind.i64.bits
                  (IntKind.i64.wrap
                    ((IntKind.i64.wrap
                          (IntKind.i64.wrap
                              (IntKind.i64.wrap
                                  (IntKind.i64.wrap
                                      (IntKind.i64.wrap
                                          (List.getD y1.1
                                            ((IntKind.i64.wrap (IntKind.i64.wrap (y1.2 + 1) - 1)).tmod
                                                (↑(List.length y1.1) : Int)).toNat
                                            (dflt t_uint8)) *
                                        131) +
                                    IntKind.i64.wrap
                                      (IntKind.i64.wrap
                                          (List.getD y1.1
                                            ((IntKind.i64.wrap
                                                    (IntKind.i64.wrap
                                                        (IntKind.i64.wrap (IntKind.i64.wrap (y1.2 + 1) - 1) * 7) +
                                                      3)).tmod
                                                (↑(List.length y1.1) : Int)).toNat
                                            (dflt t_uint8)) *
                                        1117)) +
                                IntKind.i64.wrap (IntKind.i64.wrap (IntKind.i64.wrap (y1.2 + 1) - 1) * 29)) +
                            IntKind.i64.wrap
                              (IntKind.i64.wrap
                                  ((IntKind.i64.wrap (IntKind.i64.wrap (y1.2 + 1) - 1)).tdiv
                                    (↑(List.length y1.1) : Int)) *
                                53))).tdiv
                      64))).toNat :
          Int)).tmod
    y0,
  (y1.1, IntKind.i64.wrap (y1.2 + 1), ()), ()))) (none)) (none)) (none)) (none)) (none)) (none)) (none)) (none)))) := by kernel_rfl

noncomputable def spec_l22Max (k : Nat) : Option V_int := evalT E k 89 t_int [] []
theorem spec_l22Max_eq (k : Nat) : spec_l22Max (k + 1) = some 9999 := by kernel_rfl

noncomputable def spec_l72Event_h0 (k : Nat) (y0 : V_spec_l6Rd) : Option (((V_int × (V_int × (V_int × (V_int × (V_int × (V_int × V_int)))))) × ((List V_uint8 × (Int × Unit)) × Unit))) := evalT E k 165 (.pair (.pair t_int (.pair t_int (.pair t_int (.pair t_int (.pair t_int (.pair t_int t_int)))))) (.pair (.pair (.sl 5 t_uint8) (.pair (.int .i64) .unit)) .unit)) [.c (.p 0 0)] [some (.box 170 (cells t_spec_l6Rd y0))]
theorem spec_l72Event_h0_eq (k : Nat) (y0 : V_spec_l6Rd) : spec_l72Event_h0 (k + 1) y0 = 
 (spec_l6Rd_pick_h0 k 41 y0).bind fun x0 => 
  (spec_l6Rd_pick_h0 k 4 (x0.2.1.1, x0.2.1.2.1)).bind fun x1 => 
   (spec_l6Rd_pick_h0 k 5 (x1.2.1.1, x1.2.1.2.1)).bind fun x2 => 
    (spec_l6Rd_pick_h0 k 13 (x2.2.1.1, x2.2.1.2.1)).bind fun x3 => 
     (spec_l6Rd_pick_h0 k 3 (x3.2.1.1, x3.2.1.2.1)).bind fun x4 => 
      (spec_l6Rd_pick_h0 k 3 (x4.2.1.1, x4.2.1.2.1)).bind fun x5 => 
       (spec_l6Rd_pick_h0 k 40 (x5.2.1.1, x5.2.1.2.1)).bind fun x6 => 
        (spec_l6Rd_pick_h0 k 20 (x6.2.1.1, x6.2.1.2.1)).bind fun x7 => 
         cond (x7.1 == 0) (
          (spec_l6Rd_pick_h0 k 3 (x7.2.1.1, x7.2.1.2.1)).bind fun x8 => 
           cond (decide (0 ≤ x8.1)) (
            cond (decide (x8.1 < (↑[-1, 40, 41].length : Int))) (
             cond (decide (Int.toNat x8.1 < [-1, 40, 41].length)) (some (((([-1, 40, 41] : List Int).getD (Int.toNat x8.1) (dflt t_int), x1.1, IntKind.i64.wrap (x2.1 - 1), x3.1, x4.1, x5.1,
    x6.1),
  (x8.2.1.1, x8.2.1.2.1, ()), ()))) (none)) (none)) (none)) (
          cond (x7.1 == 1) (
           (spec_l6Rd_pick_h0 k 2 (x7.2.1.1, x7.2.1.2.1)).bind fun x9 => 
            cond (decide (0 ≤ x9.1)) (
             cond (decide (x9.1 < (↑[-1, 4].length : Int))) (
              cond (decide (Int.toNat x9.1 < [-1, 4].length)) (some (((x0.1, ([-1, 4] : List Int).getD (Int.toNat x9.1) (dflt t_int), IntKind.i64.wrap (x2.1 - 1), x3.1, x4.1, x5.1, x6.1),
  (x9.2.1.1, x9.2.1.2.1, ()), ()))) (none)) (none)) (none)) (
           cond (x7.1 == 2) (
            (spec_l6Rd_pick_h0 k 3 (x7.2.1.1, x7.2.1.2.1)).bind fun x10 => 
             cond (decide (0 ≤ x10.1)) (
              cond (decide (x10.1 < (↑[-1, 999, 1000].length : Int))) (
               cond (decide (Int.toNat x10.1 < [-1, 999, 1000].length)) (some (((x0.1, x1.1, IntKind.i64.wrap (x2.1 - 1), x3.1, x4.1, x5.1,
    ([-1, 999, 1000] : List Int).getD (Int.toNat x10.1) (dflt t_int)),
  (x10.2.1.1, x10.2.1.2.1, ()), ()))) (none)) (none)) (none)) (some (((x0.1, x1.1, IntKind.i64.wrap (x2.1 - 1), x3.1, x4.1, x5.1, x6.1),
  (x7.2.1.1, x7.2.1.2.1, ()), ()))))) := by kernel_rfl

noncomputable def spec_l72Events_h0 (k : Nat) (y0 : V_int) (y1 : V_spec_l6Rd) : Option ((List V_impl_Event × ((List V_uint8 × (Int × Unit)) × Unit))) := evalT E k 146 (.pair (.ow 41 t_impl_Event) (.pair (.pair (.sl 5 t_uint8) (.pair (.int .i64) .unit)) .unit)) [.c (.p 0 0), inp t_int y0] [some (.box 170 (cells t_spec_l6Rd y1))]
noncomputable def spec_l72Events_h0_3 (k : Nat) (j : Nat) (y0 : Int) (y1 : V_spec_l6Rd) (y2 : List V_impl_Event) : Option ((List V_impl_Event × ((List V_uint8 × (Int × Unit)) × Unit))) := loopAt E 146 (.pair (.ow 41 t_impl_Event) (.pair (.pair (.sl 5 t_uint8) (.pair (.int .i64) .unit)) .unit)) [true, true, false, true, false] [some (.box 170 [.undef, .undef])] [] k [] j (mkS 41 [(0, .c (.p 0 0)), (5, .c (.o 1)), (6, .c (.int .i64 y0))]) [some (.box 170 (cells t_spec_l6Rd y1)), some (.own 41 t_impl_Event y2)]
theorem spec_l72Events_h0_eq (k : Nat) (y0 : V_int) (y1 : V_spec_l6Rd) : spec_l72Events_h0 (k + 1) y0 y1 = 
 (spec_l6Rd_pick_h0 k y0 y1).bind fun x0 => spec_l72Events_h0_3 k k x0.1 (x0.2.1.1, x0.2.1.2.1) [] := by kernel_rfl
theorem spec_l72Events_h0_3_eq (k : Nat) (j : Nat) (y0 : Int) (y1 : V_spec_l6Rd) (y2 : List V_impl_Event) : spec_l72Events_h0_3 k (j + 1) y0 y1 y2 = 
 cond (decide (y0 > 0)) (
  (spec_l72Event_h0 k y1).bind fun x0 => 
   cond (decide ((↑y2.length : Int) > 0)) (
    (spec_l6Rd_pick_h0 k 4 (x0.2.1.1, x0.2.1.2.1)).bind fun x1 => 
     cond (x1.1 == 0) (
      (spec_l6Rd_pick_h0 k (↑y2.length : Int) (x1.2.1.1, x1.2.1.2.1)).bind fun x2 => 
       cond (decide (0 ≤ x2.1)) (
        cond (decide (x2.1 < (↑y2.length : Int))) (
         cond (decide (Int.toNat x2.1 < y2.length)) (
          (spec_l6Rd_pick_h0 k 3 (x2.2.1.1, x2.2.1.2.1)).bind fun x3 => 
           cond (decide
  ((y2.length +
        [((y2.getD (Int.toNat x2.1) (dflt t_impl_Event)).1, (y2.getD (Int.toNat x2.1) (dflt t_impl_Event)).2.1,
              (y2.getD (Int.toNat x2.1) (dflt t_impl_Event)).2.2.1,
              (y2.getD (Int.toNat x2.1) (dflt t_impl_Event)).2.2.2.1, x3.1,
              (y2.getD (Int.toNat x2.1) (dflt t_impl_Event)).2.2.2.2.2.1,
              (y2.getD (Int.toNat x2.1) (dflt t_impl_Event)).2.2.2.2.2.2)].length) *
      56 ≤
    140737488351232)) (spec_l72Events_h0_3 k j (IntKind.i64.wrap (y0 - 1)) (x3.2.1.1, x3.2.1.2.1) (y2 ++
  [((y2.getD (Int.toNat x2.1) (dflt t_impl_Event)).1, (y2.getD (Int.toNat x2.1) (dflt t_impl_Event)).2.1,
      (y2.getD (Int.toNat x2.1) (dflt t_impl_Event)).2.2.1, (y2.getD (Int.toNat x2.1) (dflt t_impl_Event)).2.2.2.1,
      x3.1, (y2.getD (Int.toNat x2.1) (dflt t_impl_Event)).2.2.2.2.2.1,
      (y2.getD (Int.toNat x2.1) (dflt t_impl_Event)).2.2.2.2.2.2)])) (none)) (none)) (none)) (none)) (
      cond (decide
  ((y2.length +
        [(x0.1.1, x0.1.2.1, x0.1.2.2.1, x0.1.2.2.2.1, x0.1.2.2.2.2.1,
              x0.1.2.2.2.2.2.1, x0.1.2.2.2.2.2.2)].length) *
      56 ≤
    140737488351232)) (spec_l72Events_h0_3 k j (IntKind.i64.wrap (y0 - 1)) (x1.2.1.1, x1.2.1.2.1) (y2 ++
  [(x0.1.1, x0.1.2.1, x0.1.2.2.1, x0.1.2.2.2.1, x0.1.2.2.2.2.1,
      x0.1.2.2.2.2.2.1, x0.1.2.2.2.2.2.2)])) (none))) (
    cond (decide
  ((y2.length +
        [(x0.1.1, x0.1.2.1, x0.1.2.2.1, x0.1.2.2.2.1, x0.1.2.2.2.2.1,
              x0.1.2.2.2.2.2.1, x0.1.2.2.2.2.2.2)].length) *
      56 ≤
    140737488351232)) (spec_l72Events_h0_3 k j (IntKind.i64.wrap (y0 - 1)) (x0.2.1.1, x0.2.1.2.1) (y2 ++
  [(x0.1.1, x0.1.2.1, x0.1.2.2.1, x0.1.2.2.2.1, x0.1.2.2.2.2.1,
      x0.1.2.2.2.2.2.1, x0.1.2.2.2.2.2.2)])) (none))) (some ((y2, (y1.1, y1.2, ()), ()))) := by kernel_rfl

noncomputable def spec_EventLess (k : Nat) (a0 : V_impl_Event) (a1 : V_impl_Event) : Option V_bool := evalT E k 63 t_bool [inp t_impl_Event a0, inp t_impl_Event a1] []
theorem spec_EventLess_eq (k : Nat) (a0 : V_impl_Event) (a1 : V_impl_Event) : spec_EventLess (k + 1) a0 a1 = 
 cond (a0.1 != a1.1) (some (decide (a0.1 < a1.1))) (
  cond (a0.2.1 != a1.2.1) (some (decide (a0.2.1 < a1.2.1))) (
   cond (a0.2.2.1 != a1.2.2.1) (some (decide (a0.2.2.1 < a1.2.2.1))) (
    cond (a0.2.2.2.1 != a1.2.2.2.1) (some (decide (a0.2.2.2.1 < a1.2.2.2.1))) (
     cond (a0.2.2.2.2.1 != a1.2.2.2.2.1) (some (decide (a0.2.2.2.2.1 < a1.2.2.2.2.1))) (
      cond (a0.2.2.2.2.2.1 != a1.2.2.2.2.2.1) (some (decide (a0.2.2.2.2.2.1 < a1.2.2.2.2.2.1))) (some (decide (a0.2.2.2.2.2.2 < a1.2.2.2.2.2.2)))))))) := by kernel_rfl

noncomputable def spec_EventSort (k : Nat) (a0 : V_sl_impl_Event) : Option (List V_impl_Event) := evalT E k 82 (.ow 41 t_impl_Event) [inp t_sl_impl_Event a0] []
noncomputable def spec_EventSort_3 (k : Nat) (j : Nat) (y0 : List V_impl_Event) (y1 : Int) (y2 : List V_impl_Event) : Option (List V_impl_Event) := loopAt E 82 (.ow 41 t_impl_Event) [true, true, false, true, false] [] [] k [] j (mkS 77 [(0, .c (.sl 41 t_impl_Event y0)), (3, .c (.o 0)), (4, .c (.int .i64 y1))]) [some (.own 41 t_impl_Event y2)]
noncomputable def spec_EventSort_6 (k : Nat) (j0 : Nat) (j : Nat) (y0 : List V_impl_Event) (y1 : Int) (y2 : Int) (y3 : List V_impl_Event) : Option (List V_impl_Event) := loopAt E 82 (.ow 41 t_impl_Event) [true, true, false, true, false, false, true, false, false, true, false, false] [] [] k [j0] j (mkS 77 [(0, .c (.sl 41 t_impl_Event y0)), (3, .c (.o 0)), (4, .c (.int .i64 y1)), (5, .c (.int .i64 y2))]) [some (.own 41 t_impl_Event y3)]
noncomputable def spec_EventSort_11 (k : Nat) (j0 : Nat) (j : Nat) (y0 : List V_impl_Event) (y1 : Int) (y2 : Int) (y3 : Int) (y4 : List V_impl_Event) : Option (List V_impl_Event) := loopAt E 82 (.ow 41 t_impl_Event) [true, true, false, true, false, false, true, false, false, true, true, true, true, false, true, false] [] [] k [j0] j (mkS 77 [(0, .c (.sl 41 t_impl_Event y0)), (3, .c (.o 0)), (4, .c (.int .i64 y1)), (5, .c (.int .i64 y2)), (6, .c (.int .i64 y3))]) [some (.own 41 t_impl_Event y4)]
theorem spec_EventSort_eq (k : Nat) (a0 : V_sl_impl_Event) : spec_EventSort (k + 1) a0 = spec_EventSort_3 k k a0 0 [] := by kernel_rfl
theorem spec_EventSort_3_eq (k : Nat) (j : Nat) (y0 : List V_impl_Event) (y1 : Int) (y2 : List V_impl_Event) : spec_EventSort_3 k (j + 1) y0 y1 y2 = 
 cond (decide (y1 < (↑y0.length : Int))) (spec_EventSort_6 k j k y0 y1 (↑y2.length : Int) y2) (some y2) := by kernel_rfl
theorem spec_EventSort_6_eq (k : Nat) (j0 : Nat) (j : Nat) (y0 : List V_impl_Event) (y1 : Int) (y2 : Int) (y3 : List V_impl_Event) : spec_EventSort_6 k j0 (j + 1) y0 y1 y2 y3 = 
 cond (decide (y2 > 0)) (
  cond (decide (0 ≤ y1)) (
   cond (decide (y1 < (↑y0.length : Int))) (
    cond (decide (0 ≤ IntKind.i64.wrap (y2 - 1))) (
     cond (decide (IntKind.i64.wrap (y2 - 1) < (↑y3.length : Int))) (
      cond (decide ((IntKind.i64.wrap (y2 - 1)).toNat < y3.length)) (
       (spec_EventLess k (y0.getD y1.toNat (dflt t_impl_Event)) (y3.getD (IntKind.i64.wrap (y2 - 1)).toNat (dflt t_impl_Event))).bind fun x0 => 
        cond (x0) (spec_EventSort_6 k j0 j y0 y1 (IntKind.i64.wrap (y2 - 1)) y3) (
         cond (decide (y2 > 0)) (
          cond (decide (0 ≤ IntKind.i64.wrap (y2 - 1))) (
           cond (decide (IntKind.i64.wrap (y2 - 1) < (↑y3.length : Int))) (
            cond (decide ((IntKind.i64.wrap (y2 - 1)).toNat < y3.length)) (
             cond (decide (0 ≤ y1)) (
              cond (decide (y1 < (↑y0.length : Int))) (
               cond ((y3.getD (IntKind.i64.wrap (y2 - 1)).toNat (dflt t_impl_Event)).1 == (y0.getD y1.toNat (dflt t_impl_Event)).1 &&
  ((y3.getD (IntKind.i64.wrap (y2 - 1)).toNat (dflt t_impl_Event)).2.1 == (y0.getD y1.toNat (dflt t_impl_Event)).2.1 &&
    ((y3.getD (IntKind.i64.wrap (y2 - 1)).toNat (dflt t_impl_Event)).2.2.1 == (y0.getD y1.toNat (dflt t_impl_Event)).2.2.1 &&
      ((y3.getD (IntKind.i64.wrap (y2 - 1)).toNat (dflt t_impl_Event)).2.2.2.1 ==
          (y0.getD y1.toNat (dflt t_impl_Event)).2.2.2.1 &&
        ((y3.getD (IntKind.i64.wrap (y2 - 1)).toNat (dflt t_impl_Event)).2.2.2.2.1 ==
            (y0.getD y1.toNat (dflt t_impl_Event)).2.2.2.2.1 &&
          ((y3.getD (IntKind.i64.wrap (y2 - 1)).toNat (dflt t_impl_Event)).2.2.2.2.2.1 ==
              (y0.getD y1.toNat (dflt t_impl_Event)).2.2.2.2.2.1 &&
            ((y3.getD (IntKind.i64.wrap (y2 - 1)).toNat (dflt t_impl_Event)).2.2.2.2.2.2 ==
                (y0.getD y1.toNat (dflt t_impl_Event)).2.2.2.2.2.2 &&
              true))))))) (spec_EventSort_3 k j0 y0 (IntKind.i64.wrap (y1 + 1)) y3) (
                cond (decide (0 ≤ y1)) (
                 cond (decide (y1 < (↑y0.length : Int))) (
                  cond (decide
  ((y3.length +
        [((y0.getD y1.toNat (dflt t_impl_Event)).1, (y0.getD y1.toNat (dflt t_impl_Event)).2.1,
              (y0.getD y1.toNat (dflt t_impl_Event)).2.2.1, (y0.getD y1.toNat (dflt t_impl_Event)).2.2.2.1,
              (y0.getD y1.toNat (dflt t_impl_Event)).2.2.2.2.1, (y0.getD y1.toNat (dflt t_impl_Event)).2.2.2.2.2.1,
              (y0.getD y1.toNat (dflt t_impl_Event)).2.2.2.2.2.2)].length) *
      56 ≤
    140737488351232)) (spec_EventSort_11 k j0 k y0 y1 y2 (IntKind.i64.wrap
  ((↑(y3 ++
            [((y0.getD y1.toNat (dflt t_impl_Event)).1, (y0.getD y1.toNat (dflt t_impl_Event)).2.1,
                (y0.getD y1.toNat (dflt t_impl_Event)).2.2.1, (y0.getD y1.toNat (dflt t_impl_Event)).2.2.2.1,
                (y0.getD y1.toNat (dflt t_impl_Event)).2.2.2.2.1,
                (y0.getD y1.toNat (dflt t_impl_Event)).2.2.2.2.2.1,
                (y0.getD y1.toNat (dflt t_impl_Event)).2.2.2.2.2.2)]).length :
      Int) -
    1)) (y3 ++
  [((y0.getD y1.toNat (dflt t_impl_Event)).1, (y0.getD y1.toNat (dflt t_impl_Event)).2.1, (y0.getD y1.toNat (dflt t_impl_Event)).2.2.1,
      (y0.getD y1.toNat (dflt t_impl_Event)).2.2.2.1, (y0.getD y1.toNat (dflt t_impl_Event)).2.2.2.2.1,
      (y0.getD y1.toNat (dflt t_impl_Event)).2.2.2.2.2.1, (y0.getD y1.toNat (dflt t_impl_Event)).2.2.2.2.2.2)])) (none)) (none)) (none))) (none)) (none)) (none)) (none)) (none)) (
          cond (decide (0 ≤ y1)) (
           cond (decide (y1 < (↑y0.length : Int))) (
            cond (decide
  ((y3.length +
        [((y0.getD y1.toNat (dflt t_impl_Event)).1, (y0.getD y1.toNat (dflt t_impl_Event)).2.1,
              (y0.getD y1.toNat (dflt t_impl_Event)).2.2.1, (y0.getD y1.toNat (dflt t_impl_Event)).2.2.2.1,
              (y0.getD y1.toNat (dflt t_impl_Event)).2.2.2.2.1, (y0.getD y1.toNat (dflt t_impl_Event)).2.2.2.2.2.1,
              (y0.getD y1.toNat (dflt t_impl_Event)).2.2.2.2.2.2)].length) *
      56 ≤
    140737488351232)) (spec_EventSort_11 k j0 k y0 y1 y2 (IntKind.i64.wrap
  ((↑(y3 ++
            [((y0.getD y1.toNat (dflt t_impl_Event)).1, (y0.getD y1.toNat (dflt t_impl_Event)).2.1,
                (y0.getD y1.toNat (dflt t_impl_Event)).2.2.1, (y0.getD y1.toNat (dflt t_impl_Event)).2.2.2.1,
                (y0.getD y1.toNat (dflt t_impl_Event)).2.2.2.2.1,
                (y0.getD y1.toNat (dflt t_impl_Event)).2.2.2.2.2.1,
                (y0.getD y1.toNat (dflt t_impl_Event)).2.2.2.2.2.2)]).length :
      Int) -
    1)) (y3 ++
  [((y0.getD y1.toNat (dflt t_impl_Event)).1, (y0.getD y1.toNat (dflt t_impl_Event)).2.1, (y0.getD y1.toNat (dflt t_impl_Event)).2.2.1,
      (y0.getD y1.toNat (dflt t_impl_Event)).2.2.2.1, (y0.getD y1.toNat (dflt t_impl_Event)).2.2.2.2.1,
      (y0.getD y1.toNat (dflt t_impl_Event)).2.2.2.2.2.1, (y0.getD y1.toNat (dflt t_impl_Event)).2.2.2.2.2.2)])) (none)) (none)) (none)))) (none)) (none)) (none)) (none)) (none)) (
  cond (decide (y2 > 0)) (
   cond (decide (0 ≤ IntKind.i64.wrap (y2 - 1))) (
    cond (decide (IntKind.i64.wrap (y2 - 1) < (↑y3.length : Int))) (
     cond (decide ((IntKind.i64.wrap (y2 - 1)).toNat < y3.length)) (
      cond (decide (0 ≤ y1)) (
       cond (decide (y1 < (↑y0.length : Int))) (
        cond ((y3.getD (IntKind.i64.wrap (y2 - 1)).toNat (dflt t_impl_Event)).1 == (y0.getD y1.toNat (dflt t_impl_Event)).1 &&
  ((y3.getD (IntKind.i64.wrap (y2 - 1)).toNat (dflt t_impl_Event)).2.1 == (y0.getD y1.toNat (dflt t_impl_Event)).2.1 &&
    ((y3.getD (IntKind.i64.wrap (y2 - 1)).toNat (dflt t_impl_Event)).2.2.1 == (y0.getD y1.toNat (dflt t_impl_Event)).2.2.1 &&
      ((y3.getD (IntKind.i64.wrap (y2 - 1)).toNat (dflt t_impl_Event)).2.2.2.1 ==
          (y0.getD y1.toNat (dflt t_impl_Event)).2.2.2.1 &&
        ((y3.getD (IntKind.i64.wrap (y2 - 1)).toNat (dflt t_impl_Event)).2.2.2.2.1 ==
            (y0.getD y1.toNat (dflt t_impl_Event)).2.2.2.2.1 &&
          ((y3.getD (IntKind.i64.wrap (y2 - 1)).toNat (dflt t_impl_Event)).2.2.2.2.2.1 ==
              (y0.getD y1.toNat (dflt t_impl_Event)).2.2.2.2.2.1 &&
            ((y3.getD (IntKind.i64.wrap (y2 - 1)).toNat (dflt t_impl_Event)).2.2.2.2.2.2 ==
                (y0.getD y1.toNat (dflt t_impl_Event)).2.2.2.2.2.2 &&
              true))))))) (spec_EventSort_3 k j0 y0 (IntKind.i64.wrap (y1 + 1)) y3) (
         cond (decide (0 ≤ y1)) (
          cond (decide (y1 < (↑y0.length : Int))) (
           cond (decide
  ((y3.length +
        [((y0.getD y1.toNat (dflt t_impl_Event)).1, (y0.getD y1.toNat (dflt t_impl_Event)).2.1,
              (y0.getD y1.toNat (dflt t_impl_Event)).2.2.1, (y0.getD y1.toNat (dflt t_impl_Event)).2.2.2.1,
              (y0.getD y1.toNat (dflt t_impl_Event)).2.2.2.2.1, (y0.getD y1.toNat (dflt t_impl_Event)).2.2.2.2.2.1,
              (y0.getD y1.toNat (dflt t_impl_Event)).2.2.2.2.2.2)].length) *
      56 ≤
    140737488351232)) (spec_EventSort_11 k j0 k y0 y1 y2 (IntKind.i64.wrap
  ((↑(y3 ++
            [((y0.getD y1.toNat (dflt t_impl_Event)).1, (y0.getD y1.toNat (dflt t_impl_Event)).2.1,
                (y0.getD y1.toNat (dflt t_impl_Event)).2.2.1, (y0.getD y1.toNat (dflt t_impl_Event)).2.2.2.1,
                (y0.getD y1.toNat (dflt t_impl_Event)).2.2.2.2.1,
                (y0.getD y1.toNat (dflt t_impl_Event)).2.2.2.2.2.1,
                (y0.getD y1.toNat (dflt t_impl_Event)).2.2.2.2.2.2)]).length :
      Int) -
    1)) (y3 ++
  [((y0.getD y1.toNat (dflt t_impl_Event)).1, (y0.getD y1.toNat (dflt t_impl_Event)).2.1, (y0.getD y1.toNat (dflt t_impl_Event)).2.2.1,
      (y0.getD y1.toNat (dflt t_impl_Event)).2.2.2.1, (y0.getD y1.toNat (dflt t_impl_Event)).2.2.2.2.1,
      (y0.getD y1.toNat (dflt t_impl_Event)).2.2.2.2.2.1, (y0.getD y1.toNat (dflt t_impl_Event)).2.2.2.2.2.2)])) (none)) (none)) (none))) (none)) (none)) (none)) (none)) (none)) (
   cond (decide (0 ≤ y1)) (
    cond (decide (y1 < (↑y0.length : Int))) (
     cond (decide
  ((y3.length +
        [((y0.getD y1.toNat (dflt t_impl_Event)).1, (y0.getD y1.toNat (dflt t_impl_Event)).2.1,
              (y0.getD y1.toNat (dflt t_impl_Event)).2.2.1, (y0.getD y1.toNat (dflt t_impl_Event)).2.2.2.1,
              (y0.getD y1.toNat (dflt t_impl_Event)).2.2.2.2.1, (y0.getD y1.toNat (dflt t_impl_Event)).2.2.2.2.2.1,
              (y0.getD y1.toNat (dflt t_impl_Event)).2.2.2.2.2.2)].length) *
      56 ≤
    140737488351232)) (spec_EventSort_11 k j0 k y0 y1 y2 (IntKind.i64.wrap
  ((↑(y3 ++
            [((y0.getD y1.toNat (dflt t_impl_Event)).1, (y0.getD y1.toNat (dflt t_impl_Event)).2.1,
                (y0.getD y1.toNat (dflt t_impl_Event)).2.2.1, (y0.getD y1.toNat (dflt t_impl_Event)).2.2.2.1,
                (y0.getD y1.toNat (dflt t_impl_Event)).2.2.2.2.1,
                (y0.getD y1.toNat (dflt t_impl_Event)).2.2.2.2.2.1,
                (y0.getD y1.toNat (dflt t_impl_Event)).2.2.2.2.2.2)]).length :
      Int) -
    1)) (y3 ++
  [((y0.getD y1.toNat (dflt t_impl_Event)).1, (y0.getD y1.toNat (dflt t_impl_Event)).2.1, (y0.getD y1.toNat (dflt t_impl_Event)).2.2.1,
      (y0.getD y1.toNat (dflt t_impl_Event)).2.2.2.1, (y0.getD y1.toNat (dflt t_impl_Event)).2.2.2.2.1,
      (y0.getD y1.toNat (dflt t_impl_Event)).2.2.2.2.2.1, (y0.getD y1.toNat (dflt t_impl_Event)).2.2.2.2.2.2)])) (none)) (none)) (none))) := by kernel_rfl
theorem spec_EventSort_11_eq (k : Nat) (j0 : Nat) (j : Nat) (y0 : List V_impl_Event) (y1 : Int) (y2 : Int) (y3 : Int) (y4 : List V_impl_Event) : spec_EventSort_11 k j0 (j + 1) y0 y1 y2 y3 y4 = 
 cond (decide (y3 > y2)) (
  cond (decide (0 ≤ IntKind.i64.wrap (y3 - 1))) (
   cond (decide (IntKind.i64.wrap (y3 - 1) < (↑y4.length : Int))) (
    cond (decide ((IntKind.i64.wrap (y3 - 1)).toNat < y4.length)) (
     cond (decide (0 ≤ y3)) (
      cond (decide (y3 < (↑y4.length : Int))) (
       cond (decide (y3.toNat < y4.length)) (spec_EventSort_11 k j0 j y0 y1 y2 (IntKind.i64.wrap (y3 - 1)) (y4.set y3.toNat
  ((y4.getD (IntKind.i64.wrap (y3 - 1)).toNat (dflt t_impl_Event)).1,
    (y4.getD (IntKind.i64.wrap (y3 - 1)).toNat (dflt t_impl_Event)).2.1,
    (y4.getD (IntKind.i64.wrap (y3 - 1)).toNat (dflt t_impl_Event)).2.2.1,
    (y4.getD (IntKind.i64.wrap (y3 - 1)).toNat (dflt t_impl_Event)).2.2.2.1,
    (y4.getD (IntKind.i64.wrap (y3 - 1)).toNat (dflt t_impl_Event)).2.2.2.2.1,
    (y4.getD (IntKind.i64.wrap (y3 - 1)).toNat (dflt t_impl_Event)).2.2.2.2.2.1,
    (y4.getD (IntKind.i64.wrap (y3 - 1)).toNat (dflt t_impl_Event)).2.2.2.2.2.2))) (none)) (none)) (none)) (none)) (none)) (none)) (
  cond (decide (0 ≤ y1)) (
   cond (decide (y1 < (↑y0.length : Int))) (
    cond (decide (0 ≤ y2)) (
     cond (decide (y2 < (↑y4.length : Int))) (
      cond (decide (y2.toNat < y4.length)) (spec_EventSort_3 k j0 y0 (IntKind.i64.wrap (y1 + 1)) (y4.set y2.toNat
  ((y0.getD y1.toNat (dflt t_impl_Event)).1, (y0.getD y1.toNat (dflt t_impl_Event)).2.1, (y0.getD y1.toNat (dflt t_impl_Event)).2.2.1,
    (y0.getD y1.toNat (dflt t_impl_Event)).2.2.2.1, (y0.getD y1.toNat (dflt t_impl_Event)).2.2.2.2.1,
    (y0.getD y1.toNat (dflt t_impl_Event)).2.2.2.2.2.1, (y0.getD y1.toNat (dflt t_impl_Event)).2.2.2.2.2.2))) (none)) (none)) (none)) (none)) (none)) := by kernel_rfl

noncomputable def spec_l72Out_h0 (k : Nat) (y0 : V_spec_l6Rd) : Option (((V_int × (V_int × (V_int × (V_int × V_int)))) × ((List V_uint8 × (Int × Unit)) × Unit))) := evalT E k 147 (.pair (.pair t_int (.pair t_int (.pair t_int (.pair t_int t_int)))) (.pair (.pair (.sl 5 t_uint8) (.pair (.int .i64) .unit)) .unit)) [.c (.p 0 0)] [some (.box 170 (cells t_spec_l6Rd y0))]
theorem spec_l72Out_h0_eq (k : Nat) (y0 : V_spec_l6Rd) : spec_l72Out_h0 (k + 1) y0 = 
 (spec_l6Rd_pick_h0 k 6 y0).bind fun x0 => 
  (spec_l6Rd_pick_h0 k 4 (x0.2.1.1, x0.2.1.2.1)).bind fun x1 => 
   (spec_l6Rd_pick_h0 k 3 (x1.2.1.1, x1.2.1.2.1)).bind fun x2 => 
    (spec_l6Rd_pick_h0 k 2 (x2.2.1.1, x2.2.1.2.1)).bind fun x3 => 
     (spec_l6Rd_pick_h0 k 4 (x3.2.1.1, x3.2.1.2.1)).bind fun x4 => some (((x0.1, x1.1, x2.1, x3.1, x4.1), (x4.2.1.1, x4.2.1.2.1, ()), ())) := by kernel_rfl

noncomputable def spec_OutLess (k : Nat) (a0 : V_impl_Out) (a1 : V_impl_Out) : Option V_bool := evalT E k 142 t_bool [inp t_impl_Out a0, inp t_impl_Out a1] []
theorem spec_OutLess_eq (k : Nat) (a0 : V_impl_Out) (a1 : V_impl_Out) : spec_OutLess (k + 1) a0 a1 = 
 cond (a0.1 != a1.1) (some (decide (a0.1 < a1.1))) (
  cond (a0.2.1 != a1.2.1) (some (decide (a0.2.1 < a1.2.1))) (
   cond (a0.2.2.1 != a1.2.2.1) (some (decide (a0.2.2.1 < a1.2.2.1))) (
    cond (a0.2.2.2.1 != a1.2.2.2.1) (some (decide (a0.2.2.2.1 < a1.2.2.2.1))) (some (decide (a0.2.2.2.2 < a1.2.2.2.2)))))) := by kernel_rfl

noncomputable def spec_OutSort (k : Nat) (a0 : V_sl_impl_Out) : Option (List V_impl_Out) := evalT E k 83 (.ow 111 t_impl_Out) [inp t_sl_impl_Out a0] []
noncomputable def spec_OutSort_3 (k : Nat) (j : Nat) (y0 : List V_impl_Out) (y1 : Int) (y2 : List V_impl_Out) : Option (List V_impl_Out) := loopAt E 83 (.ow 111 t_impl_Out) [true, true, false, true, false] [] [] k [] j (mkS 47 [(0, .c (.sl 111 t_impl_Out y0)), (3, .c (.o 0)), (4, .c (.int .i64 y1))]) [some (.own 111 t_impl_Out y2)]
noncomputable def spec_OutSort_6 (k : Nat) (j0 : Nat) (j : Nat) (y0 : List V_impl_Out) (y1 : Int) (y2 : Int) (y3 : List V_impl_Out) : Option (List V_impl_Out) := loopAt E 83 (.ow 111 t_impl_Out) [true, true, false, true, false, false, true, false, false, true, false, false] [] [] k [j0] j (mkS 47 [(0, .c (.sl 111 t_impl_Out y0)), (3, .c (.o 0)), (4, .c (.int .i64 y1)), (5, .c (.int .i64 y2))]) [some (.own 111 t_impl_Out y3)]
theorem spec_OutSort_eq (k : Nat) (a0 : V_sl_impl_Out) : spec_OutSort (k + 1) a0 = spec_OutSort_3 k k a0 0 [] := by kernel_rfl
theorem spec_OutSort_3_eq (k : Nat) (j : Nat) (y0 : List V_impl_Out) (y1 : Int) (y2 : List V_impl_Out) : spec_OutSort_3 k (j + 1) y0 y1 y2 = 
 cond (decide (y1 < (↑y0.length : Int))) (spec_OutSort_6 k j k y0 y1 (↑y2.length : Int) y2) (some y2) := by kernel_rfl
theorem spec_OutSort_6_eq (k : Nat) (j0 : Nat) (j : Nat) (y0 : List V_impl_Out) (y1 : Int) (y2 : Int) (y3 : List V_impl_Out) : spec_OutSort_6 k j0 (j + 1) y0 y1 y2 y3 = 
 cond (decide (y2 > 0)) (
  cond (decide (0 ≤ y1)) (
   cond (decide (y1 < (↑y0.length : Int))) (
    cond (decide (0 ≤ IntKind.i64.wrap (y2 - 1))) (
     cond (decide (IntKind.i64.wrap (y2 - 1) < (↑y3.length : Int))) (
      cond (decide ((IntKind.i64.wrap (y2 - 1)).toNat < y3.length)) (
       (spec_OutLess k (y0.getD y1.toNat (dflt t_impl_Out)) (y3.getD (IntKind.i64.wrap (y2 - 1)).toNat (dflt t_impl_Out))).bind fun x0 => 
        cond (x0) (spec_OutSort_6 k j0 j y0 y1 (IntKind.i64.wrap (y2 - 1)) y3) (
         cond (decide (0 ≤ y2)) (
          cond (decide (y2 ≤ (↑y3.length : Int))) (
           cond (decide ((0 + (List.drop (Int.toNat 0) (List.take y2.toNat y3)).length) * 40 ≤ 140737488351232)) (
            cond (decide (0 ≤ y1)) (
             cond (decide (y1 < (↑y0.length : Int))) (
              cond (decide
  ((([] ++ List.drop (Int.toNat 0) (List.take y2.toNat y3)).length +
        [((y0.getD y1.toNat (dflt t_impl_Out)).1, (y0.getD y1.toNat (dflt t_impl_Out)).2.1,
              (y0.getD y1.toNat (dflt t_impl_Out)).2.2.1, (y0.getD y1.toNat (dflt t_impl_Out)).2.2.2.1,
              (y0.getD y1.toNat (dflt t_impl_Out)).2.2.2.2)].length) *
      40 ≤
    140737488351232)) (
               cond (decide (0 ≤ y2)) (
                cond (decide (y2 ≤ (↑y3.length : Int))) (
                 cond (decide ((↑y3.length : Int) ≤ (↑y3.length : Int))) (
                  cond (decide
  ((([] ++ List.drop (Int.toNat 0) (List.take y2.toNat y3) ++
            [((y0.getD y1.toNat (dflt t_impl_Out)).1, (y0.getD y1.toNat (dflt t_impl_Out)).2.1,
                (y0.getD y1.toNat (dflt t_impl_Out)).2.2.1, (y0.getD y1.toNat (dflt t_impl_Out)).2.2.2.1,
                (y0.getD y1.toNat (dflt t_impl_Out)).2.2.2.2)]).length +
        (List.drop y2.toNat (List.take (↑y3.length : Int).toNat y3)).length) *
      40 ≤
    140737488351232)) (spec_OutSort_3 k j0 y0 (IntKind.i64.wrap (y1 + 1)) ([] ++ List.drop (Int.toNat 0) (List.take y2.toNat y3) ++
    [((y0.getD y1.toNat (dflt t_impl_Out)).1, (y0.getD y1.toNat (dflt t_impl_Out)).2.1,
        (y0.getD y1.toNat (dflt t_impl_Out)).2.2.1, (y0.getD y1.toNat (dflt t_impl_Out)).2.2.2.1,
        (y0.getD y1.toNat (dflt t_impl_Out)).2.2.2.2)] ++
  List.drop y2.toNat (List.take (↑y3.length : Int).toNat y3))) (none)) (none)) (none)) (none)) (none)) (none)) (none)) (none)) (none)) (none))) (none)) (none)) (none)) (none)) (none)) (
  cond (decide (0 ≤ y2)) (
   cond (decide (y2 ≤ (↑y3.length : Int))) (
    cond (decide ((0 + (List.drop (Int.toNat 0) (List.take y2.toNat y3)).length) * 40 ≤ 140737488351232)) (
     cond (decide (0 ≤ y1)) (
      cond (decide (y1 < (↑y0.length : Int))) (
       cond (decide
  ((([] ++ List.drop (Int.toNat 0) (List.take y2.toNat y3)).length +
        [((y0.getD y1.toNat (dflt t_impl_Out)).1, (y0.getD y1.toNat (dflt t_impl_Out)).2.1,
              (y0.getD y1.toNat (dflt t_impl_Out)).2.2.1, (y0.getD y1.toNat (dflt t_impl_Out)).2.2.2.1,
              (y0.getD y1.toNat (dflt t_impl_Out)).2.2.2.2)].length) *
      40 ≤
    140737488351232)) (
        cond (decide (0 ≤ y2)) (
         cond (decide (y2 ≤ (↑y3.length : Int))) (
          cond (decide ((↑y3.length : Int) ≤ (↑y3.length : Int))) (
           cond (decide
  ((([] ++ List.drop (Int.toNat 0) (List.take y2.toNat y3) ++
            [((y0.getD y1.toNat (dflt t_impl_Out)).1, (y0.getD y1.toNat (dflt t_impl_Out)).2.1,
                (y0.getD y1.toNat (dflt t_impl_Out)).2.2.1, (y0.getD y1.toNat (dflt t_impl_Out)).2.2.2.1,
                (y0.getD y1.toNat (dflt t_impl_Out)).2.2.2.2)]).length +
        (List.drop y2.toNat (List.take (↑y3.length : Int).toNat y3)).length) *
      40 ≤
    140737488351232)) (spec_OutSort_3 k j0 y0 (IntKind.i64.wrap (y1 + 1)) ([] ++ List.drop (Int.toNat 0) (List.take y2.toNat y3) ++
    [((y0.getD y1.toNat (dflt t_impl_Out)).1, (y0.getD y1.toNat (dflt t_impl_Out)).2.1,
        (y0.getD y1.toNat (dflt t_impl_Out)).2.2.1, (y0.getD y1.toNat (dflt t_impl_Out)).2.2.2.1,
        (y0.getD y1.toNat (dflt t_impl_Out)).2.2.2.2)] ++
  List.drop y2.toNat (List.take (↑y3.length : Int).toNat y3))) (none)) (none)) (none)) (none)) (none)) (none)) (none)) (none)) (none)) (none)) := by kernel_rfl

noncomputable def spec_l72Word_h0 (k : Nat) (y0 : V_spec_l6Rd) : Option (((V_int × (V_int × (V_int × (V_int × (V_int × (V_int × (V_int × (List V_int × (List V_int × (List V_impl_Event × List V_impl_Out)))))))))) × ((List V_uint8 × (Int × Unit)) × Unit))) := evalT E k 86 (.pair (.pair t_int (.pair t_int (.pair t_int (.pair t_int (.pair t_int (.pair t_int (.pair t_int (.pair (.ow 3 t_int) (.pair (.ow 3 t_int) (.pair (.ow 41 t_impl_Event) (.ow 111 t_impl_Out))))))))))) (.pair (.pair (.sl 5 t_uint8) (.pair (.int .i64) .unit)) .unit)) [.c (.p 0 0)] [some (.box 170 (cells t_spec_l6Rd y0))]
theorem spec_l72Word_h0_eq (k : Nat) (y0 : V_spec_l6Rd) : spec_l72Word_h0 (k + 1) y0 = 
 (spec_l6Rd_pick_h0 k 7 y0).bind fun x0 => 
  (spec_l6Rd_pick_h0 k 3 (x0.2.1.1, x0.2.1.2.1)).bind fun x1 => 
   (spec_l6Rd_pick_h0 k 3 (x1.2.1.1, x1.2.1.2.1)).bind fun x2 => 
    (spec_l6Rd_pick_h0 k 3 (x2.2.1.1, x2.2.1.2.1)).bind fun x3 => 
     (spec_l6Rd_pick_h0 k 6 (x3.2.1.1, x3.2.1.2.1)).bind fun x4 => 
      (spec_l6Rd_pick_h0 k 3 (x4.2.1.1, x4.2.1.2.1)).bind fun x5 => 
       (spec_l6Rd_pick_h0 k 12 (x5.2.1.1, x5.2.1.2.1)).bind fun x6 => 
        (spec_l6Rd_pick_h0 k 5 (x6.2.1.1, x6.2.1.2.1)).bind fun x7 => 
         cond (x7.1 == 0) (
          (spec_l6Rd_pick_h0 k 2 (x7.2.1.1, x7.2.1.2.1)).bind fun x8 => 
           (spec_l6Rd_pick_h0 k 3 (x8.2.1.1, x8.2.1.2.1)).bind fun x9 => 
            (spec_l6Rd_pick_h0 k 20 (x9.2.1.1, x9.2.1.2.1)).bind fun x10 => 
             cond (x10.1 == 0) (
              (spec_l6Rd_pick_h0 k 2 (x10.2.1.1, x10.2.1.2.1)).bind fun x11 => 
               cond (decide (0 ≤ x11.1)) (
                cond (decide (x11.1 < (↑[0, 8].length : Int))) (
                 cond (decide (Int.toNat x11.1 < [0, 8].length)) (some (((([0, 8] : List Int).getD (Int.toNat x11.1) (dflt t_int), x1.1, x2.1, IntKind.i64.wrap (1 + x3.1), x4.1,
    IntKind.i64.wrap (1 + x5.1), x6.1, [x8.1, 1, 1], [1, x9.1, 1], [], []),
  (x11.2.1.1, x11.2.1.2.1, ()), ()))) (none)) (none)) (none)) (
              cond (x10.1 == 1) (
               (spec_l6Rd_pick_h0 k 2 (x10.2.1.1, x10.2.1.2.1)).bind fun x12 => 
                cond (decide (0 ≤ x12.1)) (
                 cond (decide (x12.1 < (↑[-1, 3].length : Int))) (
                  cond (decide (Int.toNat x12.1 < [-1, 3].length)) (some (((IntKind.i64.wrap (1 + x0.1), ([-1, 3] : List Int).getD (Int.toNat x12.1) (dflt t_int), x2.1, IntKind.i64.wrap (1 + x3.1),
    x4.1, IntKind.i64.wrap (1 + x5.1), x6.1, [x8.1, 1, 1], [1, x9.1, 1], [], []),
  (x12.2.1.1, x12.2.1.2.1, ()), ()))) (none)) (none)) (none)) (
               cond (x10.1 == 2) (
                (spec_l6Rd_pick_h0 k 3 (x10.2.1.1, x10.2.1.2.1)).bind fun x13 => 
                 cond (decide (0 ≤ x13.1)) (
                  cond (decide (x13.1 < (↑[-1, 41, 42].length : Int))) (
                   cond (decide (Int.toNat x13.1 < [-1, 41, 42].length)) (some (((IntKind.i64.wrap (1 + x0.1), x1.1, x2.1, IntKind.i64.wrap (1 + x3.1), x4.1, IntKind.i64.wrap (1 + x5.1),
    ([-1, 41, 42] : List Int).getD (Int.toNat x13.1) (dflt t_int), [x8.1, 1, 1], [1, x9.1, 1], [], []),
  (x13.2.1.1, x13.2.1.2.1, ()), ()))) (none)) (none)) (none)) (
                cond (x10.1 == 3) (some (((IntKind.i64.wrap (1 + x0.1), x1.1, x2.1, IntKind.i64.wrap (1 + x3.1), x4.1, IntKind.i64.wrap (1 + x5.1),
    x6.1, [1, 2], [1, x9.1, 1], [], []),
  (x10.2.1.1, x10.2.1.2.1, ()), ()))) (
                 cond (x10.1 == 4) (
                  (spec_l22Max k ).bind fun x14 => 
                   (spec_l22Max k ).bind fun x15 => 
                    (spec_l6Rd_pick_h0 k 3 (x10.2.1.1, x10.2.1.2.1)).bind fun x16 => 
                     cond (decide (0 ≤ x16.1)) (
                      cond (decide (x16.1 < (↑[-1, x14, IntKind.i64.wrap (x15 + 1)].length : Int))) (
                       cond (decide (Int.toNat x16.1 < [-1, x14, IntKind.i64.wrap (x15 + 1)].length)) (some (((IntKind.i64.wrap (1 + x0.1), x1.1, x2.1, IntKind.i64.wrap (1 + x3.1),
    ([-1, x14, IntKind.i64.wrap (x15 + 1)] : List Int).getD (Int.toNat x16.1) (dflt t_int), IntKind.i64.wrap (1 + x5.1), x6.1,
    [x8.1, 1, 1], [1, x9.1, 1], [], []),
  (x16.2.1.1, x16.2.1.2.1, ()), ()))) (none)) (none)) (none)) (some (((IntKind.i64.wrap (1 + x0.1), x1.1, x2.1, IntKind.i64.wrap (1 + x3.1), x4.1, IntKind.i64.wrap (1 + x5.1),
    x6.1, [x8.1, 1, 1], [1, x9.1, 1], [], []),
  (x10.2.1.1, x10.2.1.2.1, ()), ())))))))) (
          cond (x7.1 == 1) (
           (spec_l72Events_h0 k 4 (x7.2.1.1, x7.2.1.2.1)).bind fun x17 => 
            (spec_EventSort k x17.1).bind fun x18 => 
             (spec_l6Rd_pick_h0 k 20 (x17.2.1.1, x17.2.1.2.1)).bind fun x19 => 
              cond (x19.1 == 0) (
               (spec_l6Rd_pick_h0 k 2 (x19.2.1.1, x19.2.1.2.1)).bind fun x20 => 
                cond (decide (0 ≤ x20.1)) (
                 cond (decide (x20.1 < (↑[0, 8].length : Int))) (
                  cond (decide (Int.toNat x20.1 < [0, 8].length)) (some (((([0, 8] : List Int).getD (Int.toNat x20.1) (dflt t_int), x1.1, x2.1, IntKind.i64.wrap (1 + x3.1), x4.1,
    IntKind.i64.wrap (1 + x5.1), x6.1, [], [], x18, []),
  (x20.2.1.1, x20.2.1.2.1, ()), ()))) (none)) (none)) (none)) (
               cond (x19.1 == 1) (
                (spec_l6Rd_pick_h0 k 2 (x19.2.1.1, x19.2.1.2.1)).bind fun x21 => 
                 cond (decide (0 ≤ x21.1)) (
                  cond (decide (x21.1 < (↑[-1, 3].length : Int))) (
                   cond (decide (Int.toNat x21.1 < [-1, 3].length)) (some (((IntKind.i64.wrap (1 + x0.1), ([-1, 3] : List Int).getD (Int.toNat x21.1) (dflt t_int), x2.1, IntKind.i64.wrap (1 + x3.1),
    x4.1, IntKind.i64.wrap (1 + x5.1), x6.1, [], [], x18, []),
  (x21.2.1.1, x21.2.1.2.1, ()), ()))) (none)) (none)) (none)) (
                cond (x19.1 == 2) (
                 (spec_l6Rd_pick_h0 k 3 (x19.2.1.1, x19.2.1.2.1)).bind fun x22 => 
                  cond (decide (0 ≤ x22.1)) (
                   cond (decide (x22.1 < (↑[-1, 41, 42].length : Int))) (
                    cond (decide (Int.toNat x22.1 < [-1, 41, 42].length)) (some (((IntKind.i64.wrap (1 + x0.1), x1.1, x2.1, IntKind.i64.wrap (1 + x3.1), x4.1, IntKind.i64.wrap (1 + x5.1),
    ([-1, 41, 42] : List Int).getD (Int.toNat x22.1) (dflt t_int), [], [], x18, []),
  (x22.2.1.1, x22.2.1.2.1, ()), ()))) (none)) (none)) (none)) (
                 cond (x19.1 == 3) (some (((IntKind.i64.wrap (1 + x0.1), x1.1, x2.1, IntKind.i64.wrap (1 + x3.1), x4.1, IntKind.i64.wrap (1 + x5.1),
    x6.1, [1, 2], [], x18, []),
  (x19.2.1.1, x19.2.1.2.1, ()), ()))) (
                  cond (x19.1 == 4) (
                   (spec_l22Max k ).bind fun x23 => 
                    (spec_l22Max k ).bind fun x24 => 
                     (spec_l6Rd_pick_h0 k 3 (x19.2.1.1, x19.2.1.2.1)).bind fun x25 => 
                      cond (decide (0 ≤ x25.1)) (
                       cond (decide (x25.1 < (↑[-1, x23, IntKind.i64.wrap (x24 + 1)].length : Int))) (
                        cond (decide (Int.toNat x25.1 < [-1, x23, IntKind.i64.wrap (x24 + 1)].length)) (some (((IntKind.i64.wrap (1 + x0.1), x1.1, x2.1, IntKind.i64.wrap (1 + x3.1),
    ([-1, x23, IntKind.i64.wrap (x24 + 1)] : List Int).getD (Int.toNat x25.1) (dflt t_int), IntKind.i64.wrap (1 + x5.1), x6.1, [],
    [], x18, []),
  (x25.2.1.1, x25.2.1.2.1, ()), ()))) (none)) (none)) (none)) (some (((IntKind.i64.wrap (1 + x0.1), x1.1, x2.1, IntKind.i64.wrap (1 + x3.1), x4.1, IntKind.i64.wrap (1 + x5.1),
    x6.1, [], [], x18, []),
  (x19.2.1.1, x19.2.1.2.1, ()), ())))))))) (
           cond (x7.1 == 2) (
            (spec_l72Out_h0 k (x7.2.1.1, x7.2.1.2.1)).bind fun x26 => 
             (spec_l72Out_h0 k (x26.2.1.1, x26.2.1.2.1)).bind fun x27 => 
              (spec_OutSort k [(x26.1.1, x26.1.2.1, x26.1.2.2.1, x26.1.2.2.2.1, x26.1.2.2.2.2),
  (x27.1.1, x27.1.2.1, x27.1.2.2.1, x27.1.2.2.2.1, x27.1.2.2.2.2)]).bind fun x28 => 
               (spec_l6Rd_pick_h0 k 20 (x27.2.1.1, x27.2.1.2.1)).bind fun x29 => 
                cond (x29.1 == 0) (
                 (spec_l6Rd_pick_h0 k 2 (x29.2.1.1, x29.2.1.2.1)).bind fun x30 => 
                  cond (decide (0 ≤ x30.1)) (
                   cond (decide (x30.1 < (↑[0, 8].length : Int))) (
                    cond (decide (Int.toNat x30.1 < [0, 8].length)) (some (((([0, 8] : List Int).getD (Int.toNat x30.1) (dflt t_int), x1.1, x2.1, IntKind.i64.wrap (1 + x3.1), x4.1,
    IntKind.i64.wrap (1 + x5.1), x6.1, [], [], [], x28),
  (x30.2.1.1, x30.2.1.2.1, ()), ()))) (none)) (none)) (none)) (
                 cond (x29.1 == 1) (
                  (spec_l6Rd_pick_h0 k 2 (x29.2.1.1, x29.2.1.2.1)).bind fun x31 => 
                   cond (decide (0 ≤ x31.1)) (
                    cond (decide (x31.1 < (↑[-1, 3].length : Int))) (
                     cond (decide (Int.toNat x31.1 < [-1, 3].length)) (some (((IntKind.i64.wrap (1 + x0.1), ([-1, 3] : List Int).getD (Int.toNat x31.1) (dflt t_int), x2.1, IntKind.i64.wrap (1 + x3.1),
    x4.1, IntKind.i64.wrap (1 + x5.1), x6.1, [], [], [], x28),
  (x31.2.1.1, x31.2.1.2.1, ()), ()))) (none)) (none)) (none)) (
                  cond (x29.1 == 2) (
                   (spec_l6Rd_pick_h0 k 3 (x29.2.1.1, x29.2.1.2.1)).bind fun x32 => 
                    cond (decide (0 ≤ x32.1)) (
                     cond (decide (x32.1 < (↑[-1, 41, 42].length : Int))) (
                      cond (decide (Int.toNat x32.1 < [-1, 41, 42].length)) (some (((IntKind.i64.wrap (1 + x0.1), x1.1, x2.1, IntKind.i64.wrap (1 + x3.1), x4.1, IntKind.i64.wrap (1 + x5.1),
    ([-1, 41, 42] : List Int).getD (Int.toNat x32.1) (dflt t_int), [], [], [], x28),
  (x32.2.1.1, x32.2.1.2.1, ()), ()))) (none)) (none)) (none)) (
                   cond (x29.1 == 3) (some (((IntKind.i64.wrap (1 + x0.1), x1.1, x2.1, IntKind.i64.wrap (1 + x3.1), x4.1, IntKind.i64.wrap (1 + x5.1),
    x6.1, [1, 2], [], [], x28),
  (x29.2.1.1, x29.2.1.2.1, ()), ()))) (
                    cond (x29.1 == 4) (
                     (spec_l22Max k ).bind fun x33 => 
                      (spec_l22Max k ).bind fun x34 => 
                       (spec_l6Rd_pick_h0 k 3 (x29.2.1.1, x29.2.1.2.1)).bind fun x35 => 
                        cond (decide (0 ≤ x35.1)) (
                         cond (decide (x35.1 < (↑[-1, x33, IntKind.i64.wrap (x34 + 1)].length : Int))) (
                          cond (decide (Int.toNat x35.1 < [-1, x33, IntKind.i64.wrap (x34 + 1)].length)) (some (((IntKind.i64.wrap (1 + x0.1), x1.1, x2.1, IntKind.i64.wrap (1 + x3.1),
    ([-1, x33, IntKind.i64.wrap (x34 + 1)] : List Int).getD (Int.toNat x35.1) (dflt t_int), IntKind.i64.wrap (1 + x5.1), x6.1, [],
    [], [], x28),
  (x35.2.1.1, x35.2.1.2.1, ()), ()))) (none)) (none)) (none)) (some (((IntKind.i64.wrap (1 + x0.1), x1.1, x2.1, IntKind.i64.wrap (1 + x3.1), x4.1, IntKind.i64.wrap (1 + x5.1),
    x6.1, [], [], [], x28),
  (x29.2.1.1, x29.2.1.2.1, ()), ())))))))) (
            (spec_l6Rd_pick_h0 k 20 (x7.2.1.1, x7.2.1.2.1)).bind fun x36 => 
             cond (x36.1 == 0) (
              (spec_l6Rd_pick_h0 k 2 (x36.2.1.1, x36.2.1.2.1)).bind fun x37 => 
               cond (decide (0 ≤ x37.1)) (
                cond (decide (x37.1 < (↑[0, 8].length : Int))) (
                 cond (decide (Int.toNat x37.1 < [0, 8].length)) (some (((([0, 8] : List Int).getD (Int.toNat x37.1) (dflt t_int), x1.1, x2.1, IntKind.i64.wrap (1 + x3.1), x4.1,
    IntKind.i64.wrap (1 + x5.1), x6.1, [], [], [], []),
  (x37.2.1.1, x37.2.1.2.1, ()), ()))) (none)) (none)) (none)) (
              cond (x36.1 == 1) (
               (spec_l6Rd_pick_h0 k 2 (x36.2.1.1, x36.2.1.2.1)).bind fun x38 => 
                cond (decide (0 ≤ x38.1)) (
                 cond (decide (x38.1 < (↑[-1, 3].length : Int))) (
                  cond (decide (Int.toNat x38.1 < [-1, 3].length)) (some (((IntKind.i64.wrap (1 + x0.1), ([-1, 3] : List Int).getD (Int.toNat x38.1) (dflt t_int), x2.1, IntKind.i64.wrap (1 + x3.1),
    x4.1, IntKind.i64.wrap (1 + x5.1), x6.1, [], [], [], []),
  (x38.2.1.1, x38.2.1.2.1, ()), ()))) (none)) (none)) (none)) (
               cond (x36.1 == 2) (
                (spec_l6Rd_pick_h0 k 3 (x36.2.1.1, x36.2.1.2.1)).bind fun x39 => 
                 cond (decide (0 ≤ x39.1)) (
                  cond (decide (x39.1 < (↑[-1, 41, 42].length : Int))) (
                   cond (decide (Int.toNat x39.1 < [-1, 41, 42].length)) (some (((IntKind.i64.wrap (1 + x0.1), x1.1, x2.1, IntKind.i64.wrap (1 + x3.1), x4.1, IntKind.i64.wrap (1 + x5.1),
    ([-1, 41, 42] : List Int).getD (Int.toNat x39.1) (dflt t_int), [], [], [], []),
  (x39.2.1.1, x39.2.1.2.1, ()), ()))) (none)) (none)) (none)) (
                cond (x36.1 == 3) (some (((IntKind.i64.wrap (1 + x0.1), x1.1, x2.1, IntKind.i64.wrap (1 + x3.1), x4.1, IntKind.i64.wrap (1 + x5.1),
    x6.1, [1, 2], [], [], []),
  (x36.2.1.1, x36.2.1.2.1, ()), ()))) (
                 cond (x36.1 == 4) (
                  (spec_l22Max k ).bind fun x40 => 
                   (spec_l22Max k ).bind fun x41 => 
                    (spec_l6Rd_pick_h0 k 3 (x36.2.1.1, x36.2.1.2.1)).bind fun x42 => 
                     cond (decide (0 ≤ x42.1)) (
                      cond (decide (x42.1 < (↑[-1, x40, IntKind.i64.wrap (x41 + 1)].length : Int))) (
                       cond (decide (Int.toNat x42.1 < [-1, x40, IntKind.i64.wrap (x41 + 1)].length)) (some (((IntKind.i64.wrap (1 + x0.1), x1.1, x2.1, IntKind.i64.wrap (1 + x3.1),
    ([-1, x40, IntKind.i64.wrap (x41 + 1)] : List Int).getD (Int.toNat x42.1) (dflt t_int), IntKind.i64.wrap (1 + x5.1), x6.1, [],
    [], [], []),
  (x42.2.1.1, x42.2.1.2.1, ()), ()))) (none)) (none)) (none)) (some (((IntKind.i64.wrap (1 + x0.1), x1.1, x2.1, IntKind.i64.wrap (1 + x3.1), x4.1, IntKind.i64.wrap (1 + x5.1),
    x6.1, [], [], [], []),
  (x36.2.1.1, x36.2.1.2.1, ()), ())))))))))) := by kernel_rfl

noncomputable def spec_DrawWordPack (k : Nat) (a0 : V_sl_uint8) : Option ((V_int × (V_int × (V_int × (V_int × (V_int × (V_int × (V_int × (List V_int × (List V_int × (List V_impl_Event × List V_impl_Out))))))))))) := evalT E k 50 (.pair t_int (.pair t_int (.pair t_int (.pair t_int (.pair t_int (.pair t_int (.pair t_int (.pair (.ow 3 t_int) (.pair (.ow 3 t_int) (.pair (.ow 41 t_impl_Event) (.ow 111 t_impl_Out))))))))))) [inp t_sl_uint8 a0] []
theorem spec_DrawWordPack_eq (k : Nat) (a0 : V_sl_uint8) : spec_DrawWordPack (k + 1) a0 = 
 (spec_l6Open k a0).bind fun x0 => 
  (spec_l72Word_h0 k x0).bind fun x1 => some (x1.1.1, x1.1.2.1, x1.1.2.2.1, x1.1.2.2.2.1, x1.1.2.2.2.2.1,
  x1.1.2.2.2.2.2.1, x1.1.2.2.2.2.2.2.1, x1.1.2.2.2.2.2.2.2.1,
  x1.1.2.2.2.2.2.2.2.2.1, x1.1.2.2.2.2.2.2.2.2.2.1,
  x1.1.2.2.2.2.2.2.2.2.2.2) := by kernel_rfl

noncomputable def spec_l6In (k : Nat) (a0 : V_int) (a1 : V_int) (a2 : V_int) : Option V_bool := evalT E k 88 t_bool [inp t_int a0, inp t_int a1, inp t_int a2] []
theorem spec_l6In_eq (k : Nat) (a0 : V_int) (a1 : V_int) (a2 : V_int) : spec_l6In (k + 1) a0 a1 a2 = 
 cond (decide (a0 ≥ a1)) (some (decide (a0 ≤ a2))) (some false) := by kernel_rfl

noncomputable def spec_l23List (k : Nat) (a0 : V_sl_int) : Option V_bool := evalT E k 90 t_bool [inp t_sl_int a0] []
noncomputable def spec_l23List_4 (k : Nat) (j : Nat) (y0 : List V_int) (y1 : Int) : Option V_bool := loopAt E 90 t_bool [true, true, false, true, false] [] [] k [] j (mkS 25 [(0, .c (.sl 3 t_int y0)), (3, .c (.int .i64 y1))]) []
theorem spec_l23List_eq (k : Nat) (a0 : V_sl_int) : spec_l23List (k + 1) a0 = 
 cond ((↑(List.length a0) : Int) != 0) (
  cond ((↑(List.length a0) : Int) != 3) (some false) (spec_l23List_4 k k a0 0)) (spec_l23List_4 k k a0 0) := by kernel_rfl
theorem spec_l23List_4_eq (k : Nat) (j : Nat) (y0 : List V_int) (y1 : Int) : spec_l23List_4 k (j + 1) y0 y1 = 
 cond (decide (y1 < (↑y0.length : Int))) (
  cond (decide (0 ≤ y1)) (
   cond (decide (y1 < (↑y0.length : Int))) (
    (spec_l22Max k ).bind fun x0 => 
     (spec_l6In k (y0.getD y1.toNat (dflt t_int)) 0 x0).bind fun x1 => 
      cond (!x1) (some false) (spec_l23List_4 k j y0 (IntKind.i64.wrap (y1 + 1)))) (none)) (none)) (some true) := by kernel_rfl

noncomputable def spec_l2Most (k : Nat) : Option V_int := evalT E k 61 t_int [] []
theorem spec_l2Most_eq (k : Nat) : spec_l2Most (k + 1) = some 100 := by kernel_rfl

noncomputable def spec_l1Proc (k : Nat) (a0 : V_int) : Option V_bool := evalT E k 59 t_bool [inp t_int a0] []
theorem spec_l1Proc_eq (k : Nat) (a0 : V_int) : spec_l1Proc (k + 1) a0 = 
 (spec_l6In k a0 0 3).bind fun x0 => some x0 := by kernel_rfl

noncomputable def spec_l1Num (k : Nat) (a0 : V_int) : Option V_bool := evalT E k 128 t_bool [inp t_int a0] []
theorem spec_l1Num_eq (k : Nat) (a0 : V_int) : spec_l1Num (k + 1) a0 = 
 (spec_l6In k a0 0 999).bind fun x0 => some x0 := by kernel_rfl

noncomputable def spec_l1EventOk (k : Nat) (a0 : V_impl_Event) : Option V_bool := evalT E k 129 t_bool [inp t_impl_Event a0] []
theorem spec_l1EventOk_eq (k : Nat) (a0 : V_impl_Event) : spec_l1EventOk (k + 1) a0 = 
 (spec_l6In k a0.1 0 40).bind fun x0 => 
  cond (x0) (
   (spec_l1Proc k a0.2.1).bind fun x1 => 
    cond (x1) (
     (spec_l6In k a0.2.2.1 (-1) 3).bind fun x2 => 
      cond (x2) (
       (spec_l6In k a0.2.2.2.1 0 12).bind fun x3 => 
        cond (x3) (
         (spec_l6In k a0.2.2.2.2.1 0 3).bind fun x4 => 
          cond (x4) (
           (spec_l6In k a0.2.2.2.2.2.1 0 3).bind fun x5 => 
            cond (x5) (
             (spec_l1Num k a0.2.2.2.2.2.2).bind fun x6 => some x6) (some false)) (some false)) (some false)) (some false)) (some false)) (some false) := by kernel_rfl

noncomputable def spec_l2Events (k : Nat) (a0 : V_sl_impl_Event) (a1 : V_int) : Option V_bool := evalT E k 91 t_bool [inp t_sl_impl_Event a0, inp t_int a1] []
noncomputable def spec_l2Events_4 (k : Nat) (j : Nat) (y0 : List V_impl_Event) (y1 : Int) : Option V_bool := loopAt E 91 t_bool [true, true, false, true, false] [] [] k [] j (mkS 39 [(0, .c (.sl 41 t_impl_Event y0)), (5, .c (.int .i64 y1))]) []
theorem spec_l2Events_eq (k : Nat) (a0 : V_sl_impl_Event) (a1 : V_int) : spec_l2Events (k + 1) a0 a1 = 
 cond (decide ((↑(List.length a0) : Int) > a1)) (some false) (spec_l2Events_4 k k a0 0) := by kernel_rfl
theorem spec_l2Events_4_eq (k : Nat) (j : Nat) (y0 : List V_impl_Event) (y1 : Int) : spec_l2Events_4 k (j + 1) y0 y1 = 
 cond (decide (y1 < (↑y0.length : Int))) (
  cond (decide (0 ≤ y1)) (
   cond (decide (y1 < (↑y0.length : Int))) (
    (spec_l1EventOk k (y0.getD y1.toNat (dflt t_impl_Event))).bind fun x0 => 
     cond (!x0) (some false) (
      cond (decide (y1 > 0)) (
       cond (decide (0 ≤ IntKind.i64.wrap (y1 - 1))) (
        cond (decide (IntKind.i64.wrap (y1 - 1) < (↑y0.length : Int))) (
         cond (decide (0 ≤ y1)) (
          cond (decide (y1 < (↑y0.length : Int))) (
           (spec_EventLess k (y0.getD (IntKind.i64.wrap (y1 - 1)).toNat (dflt t_impl_Event)) (y0.getD y1.toNat (dflt t_impl_Event))).bind fun x1 => 
            cond (!x1) (some false) (spec_l2Events_4 k j y0 (IntKind.i64.wrap (y1 + 1)))) (none)) (none)) (none)) (none)) (spec_l2Events_4 k j y0 (IntKind.i64.wrap (y1 + 1))))) (none)) (none)) (some true) := by kernel_rfl

noncomputable def spec_l2Outs (k : Nat) (a0 : V_sl_impl_Out) (a1 : V_int) : Option V_bool := evalT E k 92 t_bool [inp t_sl_impl_Out a0, inp t_int a1] []
noncomputable def spec_l2Outs_4 (k : Nat) (j : Nat) (y0 : List V_impl_Out) (y1 : Int) : Option V_bool := loopAt E 92 t_bool [true, true, false, true, false] [] [] k [] j (mkS 63 [(0, .c (.sl 111 t_impl_Out y0)), (5, .c (.int .i64 y1))]) []
theorem spec_l2Outs_eq (k : Nat) (a0 : V_sl_impl_Out) (a1 : V_int) : spec_l2Outs (k + 1) a0 a1 = 
 cond (decide ((↑(List.length a0) : Int) > a1)) (some false) (spec_l2Outs_4 k k a0 0) := by kernel_rfl
theorem spec_l2Outs_4_eq (k : Nat) (j : Nat) (y0 : List V_impl_Out) (y1 : Int) : spec_l2Outs_4 k (j + 1) y0 y1 = 
 cond (decide (y1 < (↑y0.length : Int))) (
  cond (decide (0 ≤ y1)) (
   cond (decide (y1 < (↑y0.length : Int))) (
    (spec_l6In k ((y0.getD y1.toNat (dflt t_impl_Out)).1) 0 40).bind fun x0 => 
     cond (!x0) (some false) (
      (spec_l1Proc k ((y0.getD y1.toNat (dflt t_impl_Out)).2.1)).bind fun x1 => 
       cond (!x1) (some false) (
        (spec_l6In k ((y0.getD y1.toNat (dflt t_impl_Out)).2.2.1) 0 11).bind fun x2 => 
         cond (!x2) (some false) (
          (spec_l6In k ((y0.getD y1.toNat (dflt t_impl_Out)).2.2.2.1) 0 1).bind fun x3 => 
           cond (!x3) (some false) (
            (spec_l1Num k ((y0.getD y1.toNat (dflt t_impl_Out)).2.2.2.2)).bind fun x4 => 
             cond (!x4) (some false) (
              cond (decide (y1 > 0)) (
               cond (decide (0 ≤ IntKind.i64.wrap (y1 - 1))) (
                cond (decide (IntKind.i64.wrap (y1 - 1) < (↑y0.length : Int))) (
                 (spec_OutLess k (y0.getD (IntKind.i64.wrap (y1 - 1)).toNat (dflt t_impl_Out)) (y0.getD y1.toNat (dflt t_impl_Out))).bind fun x5 => 
                  cond (!x5) (some false) (spec_l2Outs_4 k j y0 (IntKind.i64.wrap (y1 + 1)))) (none)) (none)) (spec_l2Outs_4 k j y0 (IntKind.i64.wrap (y1 + 1))))))))) (none)) (none)) (some true) := by kernel_rfl

noncomputable def spec_WordOk (k : Nat) (a0 : V_impl_Word) : Option V_bool := evalT E k 39 t_bool [inp t_impl_Word a0] []
theorem spec_WordOk_eq (k : Nat) (a0 : V_impl_Word) : spec_WordOk (k + 1) a0 = 
 (spec_l6In k a0.1 1 7).bind fun x0 => 
  cond (x0) (
   (spec_l6In k a0.2.1 0 2).bind fun x1 => 
    cond (x1) (
     (spec_l6In k a0.2.2.1 0 2).bind fun x2 => 
      cond (x2) (
       (spec_l22Max k ).bind fun x3 => 
        (spec_l6In k a0.2.2.2.1 0 x3).bind fun x4 => 
         cond (x4) (
          (spec_l22Max k ).bind fun x5 => 
           (spec_l6In k a0.2.2.2.2.1 0 x5).bind fun x6 => 
            cond (x6) (
             (spec_l22Max k ).bind fun x7 => 
              (spec_l6In k a0.2.2.2.2.2.1 0 x7).bind fun x8 => 
               cond (x8) (
                (spec_l6In k a0.2.2.2.2.2.2.1 0 41).bind fun x9 => 
                 cond (x9) (
                  (spec_l23List k a0.2.2.2.2.2.2.2.1).bind fun x10 => 
                   cond (x10) (
                    (spec_l23List k a0.2.2.2.2.2.2.2.2.1).bind fun x11 => 
                     cond (x11) (
                      (spec_l2Most k ).bind fun x12 => 
                       (spec_l2Events k a0.2.2.2.2.2.2.2.2.2.1 x12).bind fun x13 => 
                        cond (x13) (
                         (spec_l2Outs k a0.2.2.2.2.2.2.2.2.2.2 96).bind fun x14 => some x14) (some false)) (some false)) (some false)) (some false)) (some false)) (some false)) (some false)) (some false)) (some false)) (some false) := by kernel_rfl

noncomputable def spec_l26Num_h0 (k : Nat) (y0 : V_int) (y1 : List V_uint8) : Option (List V_uint8) := evalT E k 103 (.ow 5 t_uint8) [.c (.o 0), inp t_int y0] [some (.own 5 t_uint8 y1)]
noncomputable def spec_l26Num_h0_2 (k : Nat) (j : Nat) (y0 : Int) (y1 : List V_uint8) : Option (List V_uint8) := loopAt E 103 (.ow 5 t_uint8) [true, true, false, false] [none] [] k [] j (mkS 23 [(0, .c (.o 0)), (1, .c (.int .i64 y0))]) [some (.own 5 t_uint8 y1)]
theorem spec_l26Num_h0_eq (k : Nat) (y0 : V_int) (y1 : List V_uint8) : spec_l26Num_h0 (k + 1) y0 y1 = spec_l26Num_h0_2 k k (IntKind.i64.wrap (y0 + 1)) y1 := by kernel_rfl
theorem spec_l26Num_h0_2_eq (k : Nat) (j : Nat) (y0 : Int) (y1 : List V_uint8) : spec_l26Num_h0_2 k (j + 1) y0 y1 = 
 cond (decide (y0 > 127)) (
  cond (decide ((y1.length + [IntKind.u8.wrap (IntKind.i64.wrap (128 + y0.tmod 128))].length) * 1 ≤ 140737488351232)) (spec_l26Num_h0_2 k j (IntKind.i64.wrap (y0.tdiv 128)) (y1 ++ [IntKind.u8.wrap (IntKind.i64.wrap (128 + y0.tmod 128))])) (none)) (
  cond (decide ((y1.length + [IntKind.u8.wrap y0].length) * 1 ≤ 140737488351232)) (some (y1 ++ [IntKind.u8.wrap y0])) (none)) := by kernel_rfl

noncomputable def spec_l26Nums_h0 (k : Nat) (y0 : V_sl_int) (y1 : List V_uint8) : Option (List V_uint8) := evalT E k 104 (.ow 5 t_uint8) [.c (.o 0), inp t_sl_int y0] [some (.own 5 t_uint8 y1)]
noncomputable def spec_l26Nums_h0_3 (k : Nat) (j : Nat) (y0 : List V_int) (y1 : Int) (y2 : List V_uint8) : Option (List V_uint8) := loopAt E 104 (.ow 5 t_uint8) [true, true, false, true, false] [none] [] k [] j (mkS 23 [(0, .c (.o 0)), (1, .c (.sl 3 t_int y0)), (5, .c (.int .i64 y1))]) [some (.own 5 t_uint8 y2)]
theorem spec_l26Nums_h0_eq (k : Nat) (y0 : V_sl_int) (y1 : List V_uint8) : spec_l26Nums_h0 (k + 1) y0 y1 = 
 (spec_l26Num_h0 k ((↑(List.length y0) : Int)) y1).bind fun x0 => spec_l26Nums_h0_3 k k y0 0 x0 := by kernel_rfl
theorem spec_l26Nums_h0_3_eq (k : Nat) (j : Nat) (y0 : List V_int) (y1 : Int) (y2 : List V_uint8) : spec_l26Nums_h0_3 k (j + 1) y0 y1 y2 = 
 cond (decide (y1 < (↑y0.length : Int))) (
  cond (decide (0 ≤ y1)) (
   cond (decide (y1 < (↑y0.length : Int))) (
    (spec_l26Num_h0 k (y0.getD y1.toNat (dflt t_int)) y2).bind fun x0 => spec_l26Nums_h0_3 k j y0 (IntKind.i64.wrap (y1 + 1)) x0) (none)) (none)) (some y2) := by kernel_rfl

noncomputable def spec_l26Event (k : Nat) (a0 : V_impl_Event) : Option (List V_int) := evalT E k 105 (.ow 3 t_int) [inp t_impl_Event a0] []
theorem spec_l26Event_eq (k : Nat) (a0 : V_impl_Event) : spec_l26Event (k + 1) a0 = some [a0.1, a0.2.1, a0.2.2.1, a0.2.2.2.1, a0.2.2.2.2.1, a0.2.2.2.2.2.1,
  a0.2.2.2.2.2.2] := by kernel_rfl

noncomputable def spec_l26Out (k : Nat) (a0 : V_impl_Out) : Option (List V_int) := evalT E k 106 (.ow 3 t_int) [inp t_impl_Out a0] []
theorem spec_l26Out_eq (k : Nat) (a0 : V_impl_Out) : spec_l26Out (k + 1) a0 = some [a0.1, a0.2.1, a0.2.2.1, a0.2.2.2.1, a0.2.2.2.2] := by kernel_rfl

noncomputable def spec_WordPack (k : Nat) (a0 : V_impl_Word) : Option (List V_uint8) := evalT E k 44 (.ow 5 t_uint8) [inp t_impl_Word a0] []
noncomputable def spec_WordPack_6 (k : Nat) (j : Nat) (y0 : Int) (y1 : V_impl_Word) (y2 : List V_uint8) (y3 : List V_int) : Option (List V_uint8) := loopAt E 44 (.ow 5 t_uint8) [true, true, true, true, false, true, false] [] [] k [] j (mkS 112 [(1, .c (.p 0 0)), (3, .c (.o 1)), (4, .c (.o 2)), (5, .c (.int .i64 y0))]) [some (.box 62 (cells t_impl_Word y1)), some (.own 5 t_uint8 y2), some (.own 3 t_int y3)]
noncomputable def spec_WordPack_12 (k : Nat) (j : Nat) (y0 : Int) (y1 : V_impl_Word) (y2 : List V_uint8) : Option (List V_uint8) := loopAt E 44 (.ow 5 t_uint8) [true, true, true, true, true, true, true, false, true, false] [] [] k [] j (mkS 112 [(1, .c (.p 0 0)), (3, .c (.o 1)), (6, .c (.int .i64 y0))]) [some (.box 62 (cells t_impl_Word y1)), some (.own 5 t_uint8 y2)]
noncomputable def spec_WordPack_16 (k : Nat) (j0 : Nat) (j : Nat) (y0 : Int) (y1 : Int) (y2 : V_impl_Word) (y3 : List V_uint8) (y4 : List V_int) : Option (List V_uint8) := loopAt E 44 (.ow 5 t_uint8) [true, true, true, true, true, true, true, false, true, false, false, true, false, false, true, true, false] [] [] k [j0] j (mkS 112 [(1, .c (.p 0 0)), (3, .c (.o 1)), (6, .c (.int .i64 y0)), (7, .c (.o 2)), (8, .c (.int .i64 y1))]) [some (.box 62 (cells t_impl_Word y2)), some (.own 5 t_uint8 y3), some (.own 3 t_int y4)]
noncomputable def spec_WordPack_21 (k : Nat) (j : Nat) (y0 : Int) (y1 : V_impl_Word) (y2 : List V_uint8) : Option (List V_uint8) := loopAt E 44 (.ow 5 t_uint8) [true, true, true, true, true, true, true, true, true, false, true, false] [] [] k [] j (mkS 112 [(1, .c (.p 0 0)), (3, .c (.o 1)), (9, .c (.int .i64 y0))]) [some (.box 62 (cells t_impl_Word y1)), some (.own 5 t_uint8 y2)]
noncomputable def spec_WordPack_25 (k : Nat) (j0 : Nat) (j : Nat) (y0 : Int) (y1 : Int) (y2 : V_impl_Word) (y3 : List V_uint8) (y4 : List V_int) : Option (List V_uint8) := loopAt E 44 (.ow 5 t_uint8) [true, true, true, true, true, true, true, true, true, false, true, false, false, true, false, false, true, true, false] [] [] k [j0] j (mkS 112 [(1, .c (.p 0 0)), (3, .c (.o 1)), (9, .c (.int .i64 y0)), (10, .c (.o 2)), (11, .c (.int .i64 y1))]) [some (.box 62 (cells t_impl_Word y2)), some (.own 5 t_uint8 y3), some (.own 3 t_int y4)]
theorem spec_WordPack_eq (k : Nat) (a0 : V_impl_Word) : spec_WordPack (k + 1) a0 = 
 (spec_WordOk k a0).bind fun x0 => 
  cond (!x0) (some []) (spec_WordPack_6 k k 0 a0 [] [a0.1, a0.2.1, a0.2.2.1, a0.2.2.2.1, a0.2.2.2.2.1, a0.2.2.2.2.2.1,
  a0.2.2.2.2.2.2.1]) := by kernel_rfl
theorem spec_WordPack_6_eq (k : Nat) (j : Nat) (y0 : Int) (y1 : V_impl_Word) (y2 : List V_uint8) (y3 : List V_int) : spec_WordPack_6 k (j + 1) y0 y1 y2 y3 = 
 cond (decide (y0 < (↑y3.length : Int))) (
  cond (decide (0 ≤ y0)) (
   cond (decide (y0 < (↑y3.length : Int))) (
    cond (decide (y0.toNat < y3.length)) (
     (spec_l26Num_h0 k (y3.getD y0.toNat (dflt t_int)) y2).bind fun x0 => spec_WordPack_6 k j (IntKind.i64.wrap (y0 + 1)) y1 x0 y3) (none)) (none)) (none)) (
  (spec_l26Nums_h0 k y1.2.2.2.2.2.2.2.1 y2).bind fun x1 => 
   (spec_l26Nums_h0 k y1.2.2.2.2.2.2.2.2.1 x1).bind fun x2 => 
    (spec_l26Num_h0 k ((↑(List.length y1.2.2.2.2.2.2.2.2.2.1) : Int)) x2).bind fun x3 => spec_WordPack_12 k k 0 y1 x3) := by kernel_rfl
theorem spec_WordPack_12_eq (k : Nat) (j : Nat) (y0 : Int) (y1 : V_impl_Word) (y2 : List V_uint8) : spec_WordPack_12 k (j + 1) y0 y1 y2 = 
 cond (decide (y0 < (↑(List.length y1.2.2.2.2.2.2.2.2.2.1) : Int))) (
  cond (decide (0 ≤ y0)) (
   cond (decide (y0 < (↑(List.length y1.2.2.2.2.2.2.2.2.2.1) : Int))) (
    (spec_l26Event k (List.getD y1.2.2.2.2.2.2.2.2.2.1 y0.toNat (dflt t_impl_Event))).bind fun x0 => spec_WordPack_16 k j k y0 0 y1 y2 x0) (none)) (none)) (
  (spec_l26Num_h0 k ((↑(List.length y1.2.2.2.2.2.2.2.2.2.2) : Int)) y2).bind fun x1 => spec_WordPack_21 k k 0 y1 x1) := by kernel_rfl
theorem spec_WordPack_16_eq (k : Nat) (j0 : Nat) (j : Nat) (y0 : Int) (y1 : Int) (y2 : V_impl_Word) (y3 : List V_uint8) (y4 : List V_int) : spec_WordPack_16 k j0 (j + 1) y0 y1 y2 y3 y4 = 
 cond (decide (y1 < (↑y4.length : Int))) (
  cond (decide (0 ≤ y1)) (
   cond (decide (y1 < (↑y4.length : Int))) (
    cond (decide (y1.toNat < y4.length)) (
     (spec_l26Num_h0 k (y4.getD y1.toNat (dflt t_int)) y3).bind fun x0 => spec_WordPack_16 k j0 j y0 (IntKind.i64.wrap (y1 + 1)) y2 x0 y4) (none)) (none)) (none)) (spec_WordPack_12 k j0 (IntKind.i64.wrap (y0 + 1)) y2 y3) := by kernel_rfl
theorem spec_WordPack_21_eq (k : Nat) (j : Nat) (y0 : Int) (y1 : V_impl_Word) (y2 : List V_uint8) : spec_WordPack_21 k (j + 1) y0 y1 y2 = 
 cond (decide (y0 < (↑(List.length y1.2.2.2.2.2.2.2.2.2.2) : Int))) (
  cond (decide (0 ≤ y0)) (
   cond (decide (y0 < (↑(List.length y1.2.2.2.2.2.2.2.2.2.2) : Int))) (
    (spec_l26Out k (List.getD y1.2.2.2.2.2.2.2.2.2.2 y0.toNat (dflt t_impl_Out))).bind fun x0 => spec_WordPack_25 k j k y0 0 y1 y2 x0) (none)) (none)) (some y2) := by kernel_rfl
theorem spec_WordPack_25_eq (k : Nat) (j0 : Nat) (j : Nat) (y0 : Int) (y1 : Int) (y2 : V_impl_Word) (y3 : List V_uint8) (y4 : List V_int) : spec_WordPack_25 k j0 (j + 1) y0 y1 y2 y3 y4 = 
 cond (decide (y1 < (↑y4.length : Int))) (
  cond (decide (0 ≤ y1)) (
   cond (decide (y1 < (↑y4.length : Int))) (
    cond (decide (y1.toNat < y4.length)) (
     (spec_l26Num_h0 k (y4.getD y1.toNat (dflt t_int)) y3).bind fun x0 => spec_WordPack_25 k j0 j y0 (IntKind.i64.wrap (y1 + 1)) y2 x0 y4) (none)) (none)) (none)) (spec_WordPack_21 k j0 (IntKind.i64.wrap (y0 + 1)) y2 y3) := by kernel_rfl

noncomputable def impl_within (k : Nat) (a0 : V_int) (a1 : V_int) (a2 : V_int) : Option V_bool := evalT E k 93 t_bool [inp t_int a0, inp t_int a1, inp t_int a2] []
theorem impl_within_eq (k : Nat) (a0 : V_int) (a1 : V_int) (a2 : V_int) : impl_within (k + 1) a0 a1 a2 = 
 cond (decide (a0 ≥ a1)) (some (decide (a0 ≤ a2))) (some false) := by kernel_rfl

noncomputable def impl_isNode (k : Nat) (a0 : V_int) : Option V_bool := evalT E k 94 t_bool [inp t_int a0] []
theorem impl_isNode_eq (k : Nat) (a0 : V_int) : impl_isNode (k + 1) a0 = 
 (impl_within k a0 0 2).bind fun x0 => some x0 := by kernel_rfl

noncomputable def impl_countsOk (k : Nat) (a0 : V_sl_int) : Option V_bool := evalT E k 95 t_bool [inp t_sl_int a0] []
noncomputable def impl_countsOk_2 (k : Nat) (j : Nat) (y0 : List V_int) (y1 : List V_int) (y2 : Int) (y3 : Int) : Option V_bool := loopAt E 95 t_bool [true, false, true, false] [] [] k [] j (mkS 23 [(0, .c (.sl 3 t_int y0)), (5, .c (.sl 3 t_int y1)), (6, .c (.int .i64 y2)), (7, .c (.int .i64 y3))]) []
theorem impl_countsOk_eq (k : Nat) (a0 : V_sl_int) : impl_countsOk (k + 1) a0 = impl_countsOk_2 k k a0 a0 ((↑(List.length a0) : Int)) 0 := by kernel_rfl
theorem impl_countsOk_2_eq (k : Nat) (j : Nat) (y0 : List V_int) (y1 : List V_int) (y2 : Int) (y3 : Int) : impl_countsOk_2 k (j + 1) y0 y1 y2 y3 = 
 cond (decide (y3 < y2)) (
  cond (decide (0 ≤ y3)) (
   cond (decide (y3 < (↑y1.length : Int))) (
    (impl_within k (y1.getD y3.toNat (dflt t_int)) 0 9999).bind fun x0 => 
     cond (!x0) (some false) (impl_countsOk_2 k j y0 y1 y2 (IntKind.i64.wrap (y3 + 1)))) (none)) (none)) (
  cond ((↑y0.length : Int) == 0) (some true) (some ((↑y0.length : Int) == 3))) := by kernel_rfl

noncomputable def impl_isProc (k : Nat) (a0 : V_int) : Option V_bool := evalT E k 66 t_bool [inp t_int a0] []
theorem impl_isProc_eq (k : Nat) (a0 : V_int) : impl_isProc (k + 1) a0 = 
 (impl_within k a0 0 3).bind fun x0 => some x0 := by kernel_rfl

noncomputable def impl_isKind (k : Nat) (a0 : V_int) : Option V_bool := evalT E k 155 t_bool [inp t_int a0] []
theorem impl_isKind_eq (k : Nat) (a0 : V_int) : impl_isKind (k + 1) a0 = 
 (impl_within k a0 0 3).bind fun x0 => some x0 := by kernel_rfl

noncomputable def impl_isNum (k : Nat) (a0 : V_int) : Option V_bool := evalT E k 131 t_bool [inp t_int a0] []
theorem impl_isNum_eq (k : Nat) (a0 : V_int) : impl_isNum (k + 1) a0 = 
 (impl_within k a0 0 999).bind fun x0 => some x0 := by kernel_rfl

noncomputable def impl_eventOk (k : Nat) (a0 : V_impl_Event) : Option V_bool := evalT E k 132 t_bool [inp t_impl_Event a0] []
theorem impl_eventOk_eq (k : Nat) (a0 : V_impl_Event) : impl_eventOk (k + 1) a0 = 
 (impl_within k a0.1 0 40).bind fun x0 => 
  cond (x0) (
   (impl_isProc k a0.2.1).bind fun x1 => 
    cond (x1) (
     (impl_within k a0.2.2.1 (-1) 3).bind fun x2 => 
      cond (x2) (
       (impl_within k a0.2.2.2.1 0 12).bind fun x3 => 
        cond (x3) (
         (impl_within k a0.2.2.2.2.1 0 3).bind fun x4 => 
          cond (x4) (
           (impl_isKind k a0.2.2.2.2.2.1).bind fun x5 => 
            cond (x5) (
             (impl_isNum k a0.2.2.2.2.2.2).bind fun x6 => some x6) (some false)) (some false)) (some false)) (some false)) (some false)) (some false) := by kernel_rfl

noncomputable def impl_keyOf (k : Nat) (a0 : V_impl_Event) : Option ((V_int × (V_int × (V_int × (V_int × (V_int × (V_int × V_int))))))) := evalT E k 134 (.pair t_int (.pair t_int (.pair t_int (.pair t_int (.pair t_int (.pair t_int t_int)))))) [inp t_impl_Event a0] []
theorem impl_keyOf_eq (k : Nat) (a0 : V_impl_Event) : impl_keyOf (k + 1) a0 = some (a0.1, a0.2.1, a0.2.2.1, a0.2.2.2.1, a0.2.2.2.2.1, a0.2.2.2.2.2.1,
  a0.2.2.2.2.2.2) := by kernel_rfl

noncomputable def cmp_isNaN_int (k : Nat) (a0 : V_int) : Option V_bool := evalT E k 169 t_bool [inp t_int a0] []
theorem cmp_isNaN_int_eq (k : Nat) (a0 : V_int) : cmp_isNaN_int (k + 1) a0 = some (a0 != a0) := by kernel_rfl

noncomputable def cmp_Compare_int (k : Nat) (a0 : V_int) (a1 : V_int) : Option V_int := evalT E k 166 t_int [inp t_int a0, inp t_int a1] []
theorem cmp_Compare_int_eq (k : Nat) (a0 : V_int) (a1 : V_int) : cmp_Compare_int (k + 1) a0 a1 = 
 (cmp_isNaN_int k a0).bind fun x0 => 
  (cmp_isNaN_int k a1).bind fun x1 => 
   cond (x0) (
    cond (x1) (some 0) (some (-1))) (
    cond (x1) (some 1) (
     cond (decide (a0 < a1)) (some (-1)) (
      cond (decide (a0 > a1)) (some 1) (some 0)))) := by kernel_rfl

noncomputable def slices_Compare_int_int (k : Nat) (a0 : V_sl_int) (a1 : V_sl_int) : Option V_int := evalT E k 156 t_int [inp t_sl_int a0, inp t_sl_int a1] []
noncomputable def slices_Compare_int_int_2 (k : Nat) (j : Nat) (y0 : List V_int) (y1 : List V_int) (y2 : List V_int) (y3 : Int) (y4 : Int) : Option V_int := loopAt E 156 t_int [true, false, true, false] [] [] k [] j (mkS 36 [(0, .c (.sl 3 t_int y0)), (1, .c (.sl 3 t_int y1)), (9, .c (.sl 3 t_int y2)), (10, .c (.int .i64 y3)), (11, .c (.int .i64 y4))]) []
theorem slices_Compare_int_int_eq (k : Nat) (a0 : V_sl_int) (a1 : V_sl_int) : slices_Compare_int_int (k + 1) a0 a1 = slices_Compare_int_int_2 k k a0 a1 a0 ((↑(List.length a0) : Int)) 0 := by kernel_rfl
theorem slices_Compare_int_int_2_eq (k : Nat) (j : Nat) (y0 : List V_int) (y1 : List V_int) (y2 : List V_int) (y3 : Int) (y4 : Int) : slices_Compare_int_int_2 k (j + 1) y0 y1 y2 y3 y4 = 
 cond (decide (y4 < y3)) (
  cond (decide (0 ≤ y4)) (
   cond (decide (y4 < (↑y2.length : Int))) (
    cond (decide (y4 ≥ (↑y1.length : Int))) (some 1) (
     cond (decide (0 ≤ y4)) (
      cond (decide (y4 < (↑y1.length : Int))) (
       (cmp_Compare_int k (y2.getD y4.toNat (dflt t_int)) (y1.getD y4.toNat (dflt t_int))).bind fun x0 => 
        cond (x0 != 0) (some x0) (slices_Compare_int_int_2 k j y0 y1 y2 y3 (IntKind.i64.wrap (y4 + 1)))) (none)) (none))) (none)) (none)) (
  cond (decide ((↑y0.length : Int) < (↑y1.length : Int))) (some (-1)) (some 0)) := by kernel_rfl

noncomputable def impl_keyLess (k : Nat) (a0 : V_impl_eventKey) (a1 : V_impl_eventKey) : Option V_bool := evalT E k 133 t_bool [inp t_impl_eventKey a0, inp t_impl_eventKey a1] []
theorem impl_keyLess_eq (k : Nat) (a0 : V_impl_eventKey) (a1 : V_impl_eventKey) : impl_keyLess (k + 1) a0 a1 = 
 (slices_Compare_int_int k [a0.1, a0.2.1, a0.2.2.1, a0.2.2.2.1, a0.2.2.2.2.1, a0.2.2.2.2.2.1,
  a0.2.2.2.2.2.2] [a1.1, a1.2.1, a1.2.2.1, a1.2.2.2.1, a1.2.2.2.2.1, a1.2.2.2.2.2.1,
  a1.2.2.2.2.2.2]).bind fun x0 => some (decide (x0 < 0)) := by kernel_rfl

noncomputable def impl_EventLess (k : Nat) (a0 : V_impl_Event) (a1 : V_impl_Event) : Option V_bool := evalT E k 69 t_bool [inp t_impl_Event a0, inp t_impl_Event a1] []
theorem impl_EventLess_eq (k : Nat) (a0 : V_impl_Event) (a1 : V_impl_Event) : impl_EventLess (k + 1) a0 a1 = 
 (impl_keyOf k a0).bind fun x0 => 
  (impl_keyOf k a1).bind fun x1 => 
   (impl_keyLess k x0 x1).bind fun x2 => some x2 := by kernel_rfl

noncomputable def impl_eventsOk (k : Nat) (a0 : V_sl_impl_Event) (a1 : V_int) : Option V_bool := evalT E k 96 t_bool [inp t_sl_impl_Event a0, inp t_int a1] []
noncomputable def impl_eventsOk_4 (k : Nat) (j : Nat) (y0 : List V_impl_Event) (y1 : List V_impl_Event) (y2 : Int) (y3 : Int) : Option V_bool := loopAt E 96 t_bool [true, true, false, true, false] [] [] k [] j (mkS 36 [(0, .c (.sl 41 t_impl_Event y0)), (11, .c (.sl 41 t_impl_Event y1)), (12, .c (.int .i64 y2)), (13, .c (.int .i64 y3))]) []
theorem impl_eventsOk_eq (k : Nat) (a0 : V_sl_impl_Event) (a1 : V_int) : impl_eventsOk (k + 1) a0 a1 = 
 cond (decide ((↑(List.length a0) : Int) > a1)) (some false) (impl_eventsOk_4 k k a0 a0 ((↑(List.length a0) : Int)) 0) := by kernel_rfl
theorem impl_eventsOk_4_eq (k : Nat) (j : Nat) (y0 : List V_impl_Event) (y1 : List V_impl_Event) (y2 : Int) (y3 : Int) : impl_eventsOk_4 k (j + 1) y0 y1 y2 y3 = 
 cond (decide (y3 < y2)) (
  cond (decide (0 ≤ y3)) (
   cond (decide (y3 < (↑y1.length : Int))) (
    (impl_eventOk k (y1.getD y3.toNat (dflt t_impl_Event))).bind fun x0 => 
     cond (!x0) (some false) (
      cond (decide (y3 > 0)) (
       cond (decide (0 ≤ IntKind.i64.wrap (y3 - 1))) (
        cond (decide (IntKind.i64.wrap (y3 - 1) < (↑y0.length : Int))) (
         (impl_EventLess k (y0.getD (IntKind.i64.wrap (y3 - 1)).toNat (dflt t_impl_Event)) (y1.getD y3.toNat (dflt t_impl_Event))).bind fun x1 => 
          cond (!x1) (some false) (impl_eventsOk_4 k j y0 y1 y2 (IntKind.i64.wrap (y3 + 1)))) (none)) (none)) (impl_eventsOk_4 k j y0 y1 y2 (IntKind.i64.wrap (y3 + 1))))) (none)) (none)) (some true) := by kernel_rfl

noncomputable def impl_OutLess (k : Nat) (a0 : V_impl_Out) (a1 : V_impl_Out) : Option V_bool := evalT E k 148 t_bool [inp t_impl_Out a0, inp t_impl_Out a1] []
theorem impl_OutLess_eq (k : Nat) (a0 : V_impl_Out) (a1 : V_impl_Out) : impl_OutLess (k + 1) a0 a1 = 
 (slices_Compare_int_int k [a0.1, a0.2.1, a0.2.2.1, a0.2.2.2.1, a0.2.2.2.2] [a1.1, a1.2.1, a1.2.2.1, a1.2.2.2.1, a1.2.2.2.2]).bind fun x0 => some (decide (x0 < 0)) := by kernel_rfl

noncomputable def impl_outsOk (k : Nat) (a0 : V_sl_impl_Out) (a1 : V_int) : Option V_bool := evalT E k 97 t_bool [inp t_sl_impl_Out a0, inp t_int a1] []
noncomputable def impl_outsOk_4 (k : Nat) (j : Nat) (y0 : List V_impl_Out) (y1 : List V_impl_Out) (y2 : Int) (y3 : Int) : Option V_bool := loopAt E 97 t_bool [true, true, false, true, false] [] [] k [] j (mkS 59 [(0, .c (.sl 111 t_impl_Out y0)), (12, .c (.sl 111 t_impl_Out y1)), (13, .c (.int .i64 y2)), (14, .c (.int .i64 y3))]) []
theorem impl_outsOk_eq (k : Nat) (a0 : V_sl_impl_Out) (a1 : V_int) : impl_outsOk (k + 1) a0 a1 = 
 cond (decide ((↑(List.length a0) : Int) > a1)) (some false) (impl_outsOk_4 k k a0 a0 ((↑(List.length a0) : Int)) 0) := by kernel_rfl
theorem impl_outsOk_4_eq (k : Nat) (j : Nat) (y0 : List V_impl_Out) (y1 : List V_impl_Out) (y2 : Int) (y3 : Int) : impl_outsOk_4 k (j + 1) y0 y1 y2 y3 = 
 cond (decide (y3 < y2)) (
  cond (decide (0 ≤ y3)) (
   cond (decide (y3 < (↑y1.length : Int))) (
    (impl_within k ((y1.getD y3.toNat (dflt t_impl_Out)).1) 0 40).bind fun x0 => 
     cond (x0) (
      (impl_isProc k ((y1.getD y3.toNat (dflt t_impl_Out)).2.1)).bind fun x1 => 
       cond (x1) (
        (impl_within k ((y1.getD y3.toNat (dflt t_impl_Out)).2.2.1) 0 11).bind fun x2 => 
         cond (x2) (
          (impl_within k ((y1.getD y3.toNat (dflt t_impl_Out)).2.2.2.1) 0 1).bind fun x3 => 
           cond (x3) (
            (impl_isNum k ((y1.getD y3.toNat (dflt t_impl_Out)).2.2.2.2)).bind fun x4 => 
             cond (!x4) (some false) (
              cond (decide (y3 > 0)) (
               cond (decide (0 ≤ IntKind.i64.wrap (y3 - 1))) (
                cond (decide (IntKind.i64.wrap (y3 - 1) < (↑y0.length : Int))) (
                 (impl_OutLess k (y0.getD (IntKind.i64.wrap (y3 - 1)).toNat (dflt t_impl_Out)) (y1.getD y3.toNat (dflt t_impl_Out))).bind fun x5 => 
                  cond (!x5) (some false) (impl_outsOk_4 k j y0 y1 y2 (IntKind.i64.wrap (y3 + 1)))) (none)) (none)) (impl_outsOk_4 k j y0 y1 y2 (IntKind.i64.wrap (y3 + 1))))) (some false)) (some false)) (some false)) (some false)) (none)) (none)) (some true) := by kernel_rfl

noncomputable def impl_WordOk (k : Nat) (a0 : V_impl_Word) : Option V_bool := evalT E k 40 t_bool [inp t_impl_Word a0] []
theorem impl_WordOk_eq (k : Nat) (a0 : V_impl_Word) : impl_WordOk (k + 1) a0 = 
 (impl_within k a0.1 1 7).bind fun x0 => 
  cond (x0) (
   (impl_isNode k a0.2.1).bind fun x1 => 
    cond (x1) (
     (impl_isNode k a0.2.2.1).bind fun x2 => 
      cond (x2) (
       (impl_within k a0.2.2.2.1 0 9999).bind fun x3 => 
        cond (x3) (
         (impl_within k a0.2.2.2.2.1 0 9999).bind fun x4 => 
          cond (x4) (
           (impl_within k a0.2.2.2.2.2.1 0 9999).bind fun x5 => 
            cond (x5) (
             (impl_within k a0.2.2.2.2.2.2.1 0 41).bind fun x6 => 
              cond (x6) (
               (impl_countsOk k a0.2.2.2.2.2.2.2.1).bind fun x7 => 
                cond (x7) (
                 (impl_countsOk k a0.2.2.2.2.2.2.2.2.1).bind fun x8 => 
                  cond (x8) (
                   (impl_eventsOk k a0.2.2.2.2.2.2.2.2.2.1 100).bind fun x9 => 
                    cond (x9) (
                     (impl_outsOk k a0.2.2.2.2.2.2.2.2.2.2 96).bind fun x10 => some x10) (some false)) (some false)) (some false)) (some false)) (some false)) (some false)) (some false)) (some false)) (some false)) (some false) := by kernel_rfl

noncomputable def impl_packer_num_h0 (k : Nat) (y0 : V_int) (y1 : List V_uint8) : Option ((Unit × ((List V_uint8 × Unit) × Unit))) := evalT E k 108 (.pair .unit (.pair (.pair (.ow 5 t_uint8) .unit) .unit)) [.c (.p 0 0), inp t_int y0] [some (.box 128 [.o 1]), some (.own 5 t_uint8 y1)]
noncomputable def impl_packer_num_h0_1 (k : Nat) (j : Nat) (y0 : Int) (y1 : List V_uint8) : Option ((Unit × ((List V_uint8 × Unit) × Unit))) := loopAt E 108 (.pair .unit (.pair (.pair (.ow 5 t_uint8) .unit) .unit)) [true, false, false] [some (.box 128 [.undef]), none] [] k [] j (mkS 32 [(0, .c (.p 0 0)), (4, .c (.int .u64 y0))]) [some (.box 128 [.o 1]), some (.own 5 t_uint8 y1)]
theorem impl_packer_num_h0_eq (k : Nat) (y0 : V_int) (y1 : List V_uint8) : impl_packer_num_h0 (k + 1) y0 y1 = impl_packer_num_h0_1 k k (IntKind.u64.wrap (IntKind.i64.wrap (y0 + 1))) y1 := by kernel_rfl
theorem impl_packer_num_h0_1_eq (k : Nat) (j : Nat) (y0 : Int) (y1 : List V_uint8) : impl_packer_num_h0_1 k (j + 1) y0 y1 = 
 cond (decide (y0 ≥ 128)) (
  cond (decide
  ((y1.length +
        [IntKind.u8.wrap
              (↑(BitVec.ofInt IntKind.u8.bits
                        (IntKind.u8.wrap
                          (IntKind.u64.wrap
                            (↑(BitVec.ofInt IntKind.u64.bits y0 &&& BitVec.ofInt IntKind.u64.bits 127).toNat :
                              Int))) |||
                      BitVec.ofInt IntKind.u8.bits 128).toNat :
                Int)].length) *
      1 ≤
    140737488351232)) (impl_packer_num_h0_1 k j (y0.fdiv (2 ^ min (Int.toNat 7) IntKind.u64.bits)) (y1 ++
  [IntKind.u8.wrap
      (↑(BitVec.ofInt IntKind.u8.bits
                (IntKind.u8.wrap
                  (IntKind.u64.wrap
                    (↑(BitVec.ofInt IntKind.u64.bits y0 &&& BitVec.ofInt IntKind.u64.bits 127).toNat : Int))) |||
              BitVec.ofInt IntKind.u8.bits 128).toNat :
        Int)])) (none)) (
  cond (decide ((y1.length + [IntKind.u8.wrap y0].length) * 1 ≤ 140737488351232)) (some (((), (y1 ++ [IntKind.u8.wrap y0], ()), ()))) (none)) := by kernel_rfl

noncomputable def impl_packer_nums_h0 (k : Nat) (y0 : V_sl_int) : Option ((Unit × ((List V_uint8 × Unit) × Unit))) := evalT E k 107 (.pair .unit (.pair (.pair (.ow 5 t_uint8) .unit) .unit)) [.c (.p 0 0), inp t_sl_int y0] [some (.box 128 [.nilsl])]
noncomputable def impl_packer_nums_h0_1 (k : Nat) (j : Nat) (y0 : List V_int) (y1 : Int) (y2 : Int) (y3 : List V_uint8) : Option ((Unit × ((List V_uint8 × Unit) × Unit))) := loopAt E 107 (.pair .unit (.pair (.pair (.ow 5 t_uint8) .unit) .unit)) [true, false] [some (.box 128 [.undef])] [] k [] j (mkS 16 [(0, .c (.p 0 0)), (6, .c (.sl 3 t_int y0)), (7, .c (.int .i64 y1)), (8, .c (.int .i64 y2))]) [some (.box 128 [.o 1]), some (.own 5 t_uint8 y3)]
theorem impl_packer_nums_h0_eq (k : Nat) (y0 : V_sl_int) : impl_packer_nums_h0 (k + 1) y0 = impl_packer_nums_h0_1 k k y0 ((↑(List.length y0) : Int)) 0 [] := by kernel_rfl
theorem impl_packer_nums_h0_1_eq (k : Nat) (j : Nat) (y0 : List V_int) (y1 : Int) (y2 : Int) (y3 : List V_uint8) : impl_packer_nums_h0_1 k (j + 1) y0 y1 y2 y3 = 
 cond (decide (y2 < y1)) (
  cond (decide (0 ≤ y2)) (
   cond (decide (y2 < (↑y0.length : Int))) (
    (impl_packer_num_h0 k (y0.getD y2.toNat (dflt t_int)) y3).bind fun x0 => impl_packer_nums_h0_1 k j y0 y1 (IntKind.i64.wrap (y2 + 1)) x0.2.1.1) (none)) (none)) (some (((), (y3, ()), ()))) := by kernel_rfl

noncomputable def impl_packer_nums_h1 (k : Nat) (y0 : V_sl_int) (y1 : List V_uint8) : Option ((Unit × ((List V_uint8 × Unit) × Unit))) := evalT E k 107 (.pair .unit (.pair (.pair (.ow 5 t_uint8) .unit) .unit)) [.c (.p 0 0), inp t_sl_int y0] [some (.box 128 [.o 1]), some (.own 5 t_uint8 y1)]
noncomputable def impl_packer_nums_h1_1 (k : Nat) (j : Nat) (y0 : List V_int) (y1 : Int) (y2 : Int) (y3 : List V_uint8) : Option ((Unit × ((List V_uint8 × Unit) × Unit))) := loopAt E 107 (.pair .unit (.pair (.pair (.ow 5 t_uint8) .unit) .unit)) [true, false] [some (.box 128 [.undef]), none] [] k [] j (mkS 16 [(0, .c (.p 0 0)), (6, .c (.sl 3 t_int y0)), (7, .c (.int .i64 y1)), (8, .c (.int .i64 y2))]) [some (.box 128 [.o 1]), some (.own 5 t_uint8 y3)]
theorem impl_packer_nums_h1_eq (k : Nat) (y0 : V_sl_int) (y1 : List V_uint8) : impl_packer_nums_h1 (k + 1) y0 y1 = impl_packer_nums_h1_1 k k y0 ((↑(List.length y0) : Int)) 0 y1 := by kernel_rfl
theorem impl_packer_nums_h1_1_eq (k : Nat) (j : Nat) (y0 : List V_int) (y1 : Int) (y2 : Int) (y3 : List V_uint8) : impl_packer_nums_h1_1 k (j + 1) y0 y1 y2 y3 = 
 cond (decide (y2 < y1)) (
  cond (decide (0 ≤ y2)) (
   cond (decide (y2 < (↑y0.length : Int))) (
    (impl_packer_num_h0 k (y0.getD y2.toNat (dflt t_int)) y3).bind fun x0 => impl_packer_nums_h1_1 k j y0 y1 (IntKind.i64.wrap (y2 + 1)) x0.2.1.1) (none)) (none)) (some (((), (y3, ()), ()))) := by kernel_rfl

noncomputable def impl_packer_events_h0 (k : Nat) (y0 : V_sl_impl_Event) (y1 : List V_uint8) : Option ((Unit × ((List V_uint8 × Unit) × Unit))) := evalT E k 109 (.pair .unit (.pair (.pair (.ow 5 t_uint8) .unit) .unit)) [.c (.p 0 0), inp t_sl_impl_Event y0] [some (.box 128 [.o 1]), some (.own 5 t_uint8 y1)]
noncomputable def impl_packer_events_h0_2 (k : Nat) (j : Nat) (y0 : List V_impl_Event) (y1 : Int) (y2 : Int) (y3 : List V_uint8) : Option ((Unit × ((List V_uint8 × Unit) × Unit))) := loopAt E 109 (.pair .unit (.pair (.pair (.ow 5 t_uint8) .unit) .unit)) [true, true, false] [some (.box 128 [.undef]), none] [] k [] j (mkS 37 [(0, .c (.p 0 0)), (11, .c (.sl 41 t_impl_Event y0)), (12, .c (.int .i64 y1)), (13, .c (.int .i64 y2))]) [some (.box 128 [.o 1]), some (.own 5 t_uint8 y3)]
theorem impl_packer_events_h0_eq (k : Nat) (y0 : V_sl_impl_Event) (y1 : List V_uint8) : impl_packer_events_h0 (k + 1) y0 y1 = 
 (impl_packer_num_h0 k ((↑(List.length y0) : Int)) y1).bind fun x0 => impl_packer_events_h0_2 k k y0 ((↑(List.length y0) : Int)) 0 x0.2.1.1 := by kernel_rfl
theorem impl_packer_events_h0_2_eq (k : Nat) (j : Nat) (y0 : List V_impl_Event) (y1 : Int) (y2 : Int) (y3 : List V_uint8) : impl_packer_events_h0_2 k (j + 1) y0 y1 y2 y3 = 
 cond (decide (y2 < y1)) (
  cond (decide (0 ≤ y2)) (
   cond (decide (y2 < (↑y0.length : Int))) (
    (impl_keyOf k (y0.getD y2.toNat (dflt t_impl_Event))).bind fun x0 => 
     (impl_packer_nums_h1 k [x0.1, x0.2.1, x0.2.2.1, x0.2.2.2.1, x0.2.2.2.2.1, x0.2.2.2.2.2.1,
  x0.2.2.2.2.2.2] y3).bind fun x1 => impl_packer_events_h0_2 k j y0 y1 (IntKind.i64.wrap (y2 + 1)) x1.2.1.1) (none)) (none)) (some (((), (y3, ()), ()))) := by kernel_rfl

noncomputable def impl_packer_outs_h0 (k : Nat) (y0 : V_sl_impl_Out) (y1 : List V_uint8) : Option ((Unit × ((List V_uint8 × Unit) × Unit))) := evalT E k 110 (.pair .unit (.pair (.pair (.ow 5 t_uint8) .unit) .unit)) [.c (.p 0 0), inp t_sl_impl_Out y0] [some (.box 128 [.o 1]), some (.own 5 t_uint8 y1)]
noncomputable def impl_packer_outs_h0_2 (k : Nat) (j : Nat) (y0 : List V_impl_Out) (y1 : Int) (y2 : Int) (y3 : List V_uint8) : Option ((Unit × ((List V_uint8 × Unit) × Unit))) := loopAt E 110 (.pair .unit (.pair (.pair (.ow 5 t_uint8) .unit) .unit)) [true, true, false] [some (.box 128 [.undef]), none] [] k [] j (mkS 30 [(0, .c (.p 0 0)), (10, .c (.sl 111 t_impl_Out y0)), (11, .c (.int .i64 y1)), (12, .c (.int .i64 y2))]) [some (.box 128 [.o 1]), some (.own 5 t_uint8 y3)]
theorem impl_packer_outs_h0_eq (k : Nat) (y0 : V_sl_impl_Out) (y1 : List V_uint8) : impl_packer_outs_h0 (k + 1) y0 y1 = 
 (impl_packer_num_h0 k ((↑(List.length y0) : Int)) y1).bind fun x0 => impl_packer_outs_h0_2 k k y0 ((↑(List.length y0) : Int)) 0 x0.2.1.1 := by kernel_rfl
theorem impl_packer_outs_h0_2_eq (k : Nat) (j : Nat) (y0 : List V_impl_Out) (y1 : Int) (y2 : Int) (y3 : List V_uint8) : impl_packer_outs_h0_2 k (j + 1) y0 y1 y2 y3 = 
 cond (decide (y2 < y1)) (
  cond (decide (0 ≤ y2)) (
   cond (decide (y2 < (↑y0.length : Int))) (
    (impl_packer_nums_h1 k [(y0.getD y2.toNat (dflt t_impl_Out)).1, (y0.getD y2.toNat (dflt t_impl_Out)).2.1, (y0.getD y2.toNat (dflt t_impl_Out)).2.2.1,
  (y0.getD y2.toNat (dflt t_impl_Out)).2.2.2.1, (y0.getD y2.toNat (dflt t_impl_Out)).2.2.2.2] y3).bind fun x0 => impl_packer_outs_h0_2 k j y0 y1 (IntKind.i64.wrap (y2 + 1)) x0.2.1.1) (none)) (none)) (some (((), (y3, ()), ()))) := by kernel_rfl

noncomputable def impl_WordPack (k : Nat) (a0 : V_impl_Word) : Option (List V_uint8) := evalT E k 45 (.ow 5 t_uint8) [inp t_impl_Word a0] []
theorem impl_WordPack_eq (k : Nat) (a0 : V_impl_Word) : impl_WordPack (k + 1) a0 = 
 (impl_WordOk k a0).bind fun x0 => 
  cond (!x0) (some []) (
   (impl_packer_nums_h0 k [a0.1, a0.2.1, a0.2.2.1, a0.2.2.2.1, a0.2.2.2.2.1, a0.2.2.2.2.2.1,
  a0.2.2.2.2.2.2.1]).bind fun x1 => 
    (impl_packer_num_h0 k ((↑(List.length a0.2.2.2.2.2.2.2.1) : Int)) x1.2.1.1).bind fun x2 => 
     (impl_packer_nums_h1 k a0.2.2.2.2.2.2.2.1 x2.2.1.1).bind fun x3 => 
      (impl_packer_num_h0 k ((↑(List.length a0.2.2.2.2.2.2.2.2.1) : Int)) x3.2.1.1).bind fun x4 => 
       (impl_packer_nums_h1 k a0.2.2.2.2.2.2.2.2.1 x4.2.1.1).bind fun x5 => 
        (impl_packer_events_h0 k a0.2.2.2.2.2.2.2.2.2.1 x5.2.1.1).bind fun x6 => 
         (impl_packer_outs_h0 k a0.2.2.2.2.2.2.2.2.2.2 x6.2.1.1).bind fun x7 => some x7.2.1.1) := by kernel_rfl

noncomputable def impl_unpacker_fail_h0 (k : Nat) (y0 : V_impl_packFault) (y1 : List V_uint8) (y2 : Int) : Option ((Unit × ((List V_uint8 × (Int × (Unit × Unit))) × Unit))) := evalT E k 150 (.pair .unit (.pair (.pair (.sl 5 t_uint8) (.pair (.int .i64) (.pair (.fnc 1000000) .unit))) .unit)) [.c (.p 0 0), inp t_impl_packFault y0] [some (.box 137 [.sl 5 t_uint8 y1, .int .i64 y2, .fn 1000000 [.bool true]])]
theorem impl_unpacker_fail_h0_eq (k : Nat) (y0 : V_impl_packFault) (y1 : List V_uint8) (y2 : Int) : impl_unpacker_fail_h0 (k + 1) y0 y1 y2 = none := by kernel_rfl

noncomputable def impl_unpacker_num_h0 (k : Nat) (y0 : List V_uint8) (y1 : Int) : Option ((V_int × ((List V_uint8 × (Int × (Unit × Unit))) × Unit))) := evalT E k 112 (.pair t_int (.pair (.pair (.sl 5 t_uint8) (.pair (.int .i64) (.pair (.fnc 1000000) .unit))) .unit)) [.c (.p 0 0)] [some (.box 137 [.sl 5 t_uint8 y0, .int .i64 y1, .fn 1000000 [.bool true]])]
noncomputable def impl_unpacker_num_h0_3 (k : Nat) (j : Nat) (y0 : Int) (y1 : Int) (y2 : List V_uint8) (y3 : Int) : Option ((V_int × ((List V_uint8 × (Int × (Unit × Unit))) × Unit))) := loopAt E 112 (.pair t_int (.pair (.pair (.sl 5 t_uint8) (.pair (.int .i64) (.pair (.fnc 1000000) .unit))) .unit)) [true, true, false, true, false] [some (.box 137 [.undef, .undef, .undef])] [] k [] j (mkS 60 [(0, .c (.p 0 0)), (3, .c (.int .u64 y0)), (4, .c (.int .i64 y1))]) [some (.box 137 [.sl 5 t_uint8 y2, .int .i64 y3, .fn 1000000 [.bool true]])]
theorem impl_unpacker_num_h0_eq (k : Nat) (y0 : List V_uint8) (y1 : Int) : impl_unpacker_num_h0 (k + 1) y0 y1 = impl_unpacker_num_h0_3 k k 0 0 y0 y1 := by kernel_rfl
theorem impl_unpacker_num_h0_3_eq (k : Nat) (j : Nat) (y0 : Int) (y1 : Int) (y2 : List V_uint8) (y3 : Int) : impl_unpacker_num_h0_3 k (j + 1) y0 y1 y2 y3 = 
 cond (decide (y3 ≥ (↑y2.length : Int))) (
  (impl_unpacker_fail_h0 k 1 y2 y3).bind fun x0 => some ((0, (x0.2.1.1, x0.2.1.2.1, (), ()), ()))) (
  cond (decide (y1 > 28)) (
   (impl_unpacker_fail_h0 k 2 y2 y3).bind fun x1 => some ((0, (x1.2.1.1, x1.2.1.2.1, (), ()), ()))) (
   cond (decide (0 ≤ y3)) (
    cond (decide (y3 < (↑y2.length : Int))) (
     cond (!decide (y1 < 0)) (
      cond (decide (y2.getD y3.toNat (dflt t_uint8) < 128)) (some ((IntKind.i64.wrap
    (IntKind.i64.wrap
        (IntKind.u64.wrap
          (↑(BitVec.ofInt IntKind.u64.bits y0 |||
                  BitVec.ofInt IntKind.u64.bits
                    (IntKind.u64.wrap
                      (IntKind.u64.wrap
                          (IntKind.u8.wrap
                            (↑(BitVec.ofInt IntKind.u8.bits (y2.getD y3.toNat (dflt t_uint8)) &&&
                                    BitVec.ofInt IntKind.u8.bits 127).toNat :
                              Int)) *
                        2 ^ min y1.toNat IntKind.u64.bits))).toNat :
            Int)) -
      1),
  (y2, IntKind.i64.wrap (y3 + 1), (), ()), ()))) (impl_unpacker_num_h0_3 k j (IntKind.u64.wrap
  (↑(BitVec.ofInt IntKind.u64.bits y0 |||
          BitVec.ofInt IntKind.u64.bits
            (IntKind.u64.wrap
              (IntKind.u64.wrap
                  (IntKind.u8.wrap
                    (↑(BitVec.ofInt IntKind.u8.bits (y2.getD y3.toNat (dflt t_uint8)) &&&
                            BitVec.ofInt IntKind.u8.bits 127).toNat :
                      Int)) *
                2 ^ min y1.toNat IntKind.u64.bits))).toNat :
    Int)) (IntKind.i64.wrap (y1 + 7)) y2 (IntKind.i64.wrap (y3 + 1)))) (none)) (none)) (none))) := by kernel_rfl

noncomputable def impl_unpacker_count_h0 (k : Nat) (y0 : V_int) (y1 : List V_uint8) (y2 : Int) : Option ((V_int × ((List V_uint8 × (Int × (Unit × Unit))) × Unit))) := evalT E k 151 (.pair t_int (.pair (.pair (.sl 5 t_uint8) (.pair (.int .i64) (.pair (.fnc 1000000) .unit))) .unit)) [.c (.p 0 0), inp t_int y0] [some (.box 137 [.sl 5 t_uint8 y1, .int .i64 y2, .fn 1000000 [.bool true]])]
theorem impl_unpacker_count_h0_eq (k : Nat) (y0 : V_int) (y1 : List V_uint8) (y2 : Int) : impl_unpacker_count_h0 (k + 1) y0 y1 y2 = 
 (impl_unpacker_num_h0 k y1 y2).bind fun x0 => 
  (impl_within k x0.1 0 y0).bind fun x1 => 
   cond (!x1) (
    (impl_unpacker_fail_h0 k 2 x0.2.1.1 x0.2.1.2.1).bind fun x2 => some ((0, (x2.2.1.1, x2.2.1.2.1, (), ()), ()))) (some ((x0.1, (x0.2.1.1, x0.2.1.2.1, (), ()), ()))) := by kernel_rfl

noncomputable def impl_unpacker_nums_h0 (k : Nat) (y0 : V_int) (y1 : List V_uint8) (y2 : Int) : Option ((List V_int × ((List V_uint8 × (Int × (Unit × Unit))) × Unit))) := evalT E k 113 (.pair (.ow 3 t_int) (.pair (.pair (.sl 5 t_uint8) (.pair (.int .i64) (.pair (.fnc 1000000) .unit))) .unit)) [.c (.p 0 0), inp t_int y0] [some (.box 137 [.sl 5 t_uint8 y1, .int .i64 y2, .fn 1000000 [.bool true]])]
noncomputable def impl_unpacker_nums_h0_3 (k : Nat) (j : Nat) (y0 : Int) (y1 : Int) (y2 : List V_uint8) (y3 : Int) (y4 : List V_int) : Option ((List V_int × ((List V_uint8 × (Int × (Unit × Unit))) × Unit))) := loopAt E 113 (.pair (.ow 3 t_int) (.pair (.pair (.sl 5 t_uint8) (.pair (.int .i64) (.pair (.fnc 1000000) .unit))) .unit)) [true, true, false, true, false] [some (.box 137 [.undef, .undef, .undef])] [] k [] j (mkS 18 [(0, .c (.p 0 0)), (5, .c (.o 1)), (8, .c (.int .i64 y0)), (9, .c (.int .i64 y1))]) [some (.box 137 [.sl 5 t_uint8 y2, .int .i64 y3, .fn 1000000 [.bool true]]), some (.own 3 t_int y4)]
theorem impl_unpacker_nums_h0_eq (k : Nat) (y0 : V_int) (y1 : List V_uint8) (y2 : Int) : impl_unpacker_nums_h0 (k + 1) y0 y1 y2 = 
 (impl_unpacker_count_h0 k y0 y1 y2).bind fun x0 => impl_unpacker_nums_h0_3 k k x0.1 0 x0.2.1.1 x0.2.1.2.1 [] := by kernel_rfl
theorem impl_unpacker_nums_h0_3_eq (k : Nat) (j : Nat) (y0 : Int) (y1 : Int) (y2 : List V_uint8) (y3 : Int) (y4 : List V_int) : impl_unpacker_nums_h0_3 k (j + 1) y0 y1 y2 y3 y4 = 
 cond (decide (y1 < y0)) (
  (impl_unpacker_num_h0 k y2 y3).bind fun x0 => 
   cond (decide ((y4.length + [x0.1].length) * 8 ≤ 140737488351232)) (impl_unpacker_nums_h0_3 k j y0 (IntKind.i64.wrap (y1 + 1)) x0.2.1.1 x0.2.1.2.1 (y4 ++ [x0.1])) (none)) (some ((y4, (y2, y3, (), ()), ()))) := by kernel_rfl

noncomputable def impl_eventKey_event (k : Nat) (a0 : V_impl_eventKey) : Option ((V_int × (V_int × (V_int × (V_int × (V_int × (V_int × V_int))))))) := evalT E k 152 (.pair t_int (.pair t_int (.pair t_int (.pair t_int (.pair t_int (.pair t_int t_int)))))) [inp t_impl_eventKey a0] []
theorem impl_eventKey_event_eq (k : Nat) (a0 : V_impl_eventKey) : impl_eventKey_event (k + 1) a0 = some (a0.1, a0.2.1, a0.2.2.1, a0.2.2.2.1, a0.2.2.2.2.1, a0.2.2.2.2.2.1,
  a0.2.2.2.2.2.2) := by kernel_rfl

noncomputable def impl_unpacker_events_h0 (k : Nat) (y0 : List V_uint8) (y1 : Int) : Option ((List V_impl_Event × ((List V_uint8 × (Int × (Unit × Unit))) × Unit))) := evalT E k 114 (.pair (.ow 41 t_impl_Event) (.pair (.pair (.sl 5 t_uint8) (.pair (.int .i64) (.pair (.fnc 1000000) .unit))) .unit)) [.c (.p 0 0)] [some (.box 137 [.sl 5 t_uint8 y0, .int .i64 y1, .fn 1000000 [.bool true]])]
noncomputable def impl_unpacker_events_h0_3 (k : Nat) (j : Nat) (y0 : Int) (y1 : Int) (y2 : List V_uint8) (y3 : Int) (y4 : List V_impl_Event) : Option ((List V_impl_Event × ((List V_uint8 × (Int × (Unit × Unit))) × Unit))) := loopAt E 114 (.pair (.ow 41 t_impl_Event) (.pair (.pair (.sl 5 t_uint8) (.pair (.int .i64) (.pair (.fnc 1000000) .unit))) .unit)) [true, true, false, true, false] [some (.box 137 [.undef, .undef, .undef])] [] k [] j (mkS 25 [(0, .c (.p 0 0)), (3, .c (.o 1)), (7, .c (.int .i64 y0)), (8, .c (.int .i64 y1))]) [some (.box 137 [.sl 5 t_uint8 y2, .int .i64 y3, .fn 1000000 [.bool true]]), some (.own 41 t_impl_Event y4)]
theorem impl_unpacker_events_h0_eq (k : Nat) (y0 : List V_uint8) (y1 : Int) : impl_unpacker_events_h0 (k + 1) y0 y1 = 
 (impl_unpacker_count_h0 k 100 y0 y1).bind fun x0 => impl_unpacker_events_h0_3 k k x0.1 0 x0.2.1.1 x0.2.1.2.1 [] := by kernel_rfl
theorem impl_unpacker_events_h0_3_eq (k : Nat) (j : Nat) (y0 : Int) (y1 : Int) (y2 : List V_uint8) (y3 : Int) (y4 : List V_impl_Event) : impl_unpacker_events_h0_3 k (j + 1) y0 y1 y2 y3 y4 = 
 cond (decide (y1 < y0)) (
  (impl_unpacker_num_h0 k y2 y3).bind fun x0 => 
   (impl_unpacker_num_h0 k x0.2.1.1 x0.2.1.2.1).bind fun x1 => 
    (impl_unpacker_num_h0 k x1.2.1.1 x1.2.1.2.1).bind fun x2 => 
     (impl_unpacker_num_h0 k x2.2.1.1 x2.2.1.2.1).bind fun x3 => 
      (impl_unpacker_num_h0 k x3.2.1.1 x3.2.1.2.1).bind fun x4 => 
       (impl_unpacker_num_h0 k x4.2.1.1 x4.2.1.2.1).bind fun x5 => 
        (impl_unpacker_num_h0 k x5.2.1.1 x5.2.1.2.1).bind fun x6 => 
         (impl_eventKey_event k ((x0.1, (x1.1, (x2.1, (x3.1, (x4.1, (x5.1, x6.1)))))))).bind fun x7 => 
          cond (decide
  ((y4.length +
        [(x7.1, x7.2.1, x7.2.2.1, x7.2.2.2.1, x7.2.2.2.2.1, x7.2.2.2.2.2.1,
              x7.2.2.2.2.2.2)].length) *
      56 ≤
    140737488351232)) (impl_unpacker_events_h0_3 k j y0 (IntKind.i64.wrap (y1 + 1)) x6.2.1.1 x6.2.1.2.1 (y4 ++
  [(x7.1, x7.2.1, x7.2.2.1, x7.2.2.2.1, x7.2.2.2.2.1, x7.2.2.2.2.2.1,
      x7.2.2.2.2.2.2)])) (none)) (some ((y4, (y2, y3, (), ()), ()))) := by kernel_rfl

noncomputable def impl_unpacker_outs_h0 (k : Nat) (y0 : List V_uint8) (y1 : Int) : Option ((List V_impl_Out × ((List V_uint8 × (Int × (Unit × Unit))) × Unit))) := evalT E k 115 (.pair (.ow 111 t_impl_Out) (.pair (.pair (.sl 5 t_uint8) (.pair (.int .i64) (.pair (.fnc 1000000) .unit))) .unit)) [.c (.p 0 0)] [some (.box 137 [.sl 5 t_uint8 y0, .int .i64 y1, .fn 1000000 [.bool true]])]
noncomputable def impl_unpacker_outs_h0_3 (k : Nat) (j : Nat) (y0 : Int) (y1 : Int) (y2 : List V_uint8) (y3 : Int) (y4 : List V_impl_Out) : Option ((List V_impl_Out × ((List V_uint8 × (Int × (Unit × Unit))) × Unit))) := loopAt E 115 (.pair (.ow 111 t_impl_Out) (.pair (.pair (.sl 5 t_uint8) (.pair (.int .i64) (.pair (.fnc 1000000) .unit))) .unit)) [true, true, false, true, false] [some (.box 137 [.undef, .undef, .undef])] [] k [] j (mkS 33 [(0, .c (.p 0 0)), (3, .c (.o 1)), (8, .c (.int .i64 y0)), (9, .c (.int .i64 y1))]) [some (.box 137 [.sl 5 t_uint8 y2, .int .i64 y3, .fn 1000000 [.bool true]]), some (.own 111 t_impl_Out y4)]
theorem impl_unpacker_outs_h0_eq (k : Nat) (y0 : List V_uint8) (y1 : Int) : impl_unpacker_outs_h0 (k + 1) y0 y1 = 
 (impl_unpacker_count_h0 k 96 y0 y1).bind fun x0 => impl_unpacker_outs_h0_3 k k x0.1 0 x0.2.1.1 x0.2.1.2.1 [] := by kernel_rfl
theorem impl_unpacker_outs_h0_3_eq (k : Nat) (j : Nat) (y0 : Int) (y1 : Int) (y2 : List V_uint8) (y3 : Int) (y4 : List V_impl_Out) : impl_unpacker_outs_h0_3 k (j + 1) y0 y1 y2 y3 y4 = 
 cond (decide (y1 < y0)) (
  (impl_unpacker_num_h0 k y2 y3).bind fun x0 => 
   (impl_unpacker_num_h0 k x0.2.1.1 x0.2.1.2.1).bind fun x1 => 
    (impl_unpacker_num_h0 k x1.2.1.1 x1.2.1.2.1).bind fun x2 => 
     (impl_unpacker_num_h0 k x2.2.1.1 x2.2.1.2.1).bind fun x3 => 
      (impl_unpacker_num_h0 k x3.2.1.1 x3.2.1.2.1).bind fun x4 => 
       cond (decide ((y4.length + [(x0.1, x1.1, x2.1, x3.1, x4.1)].length) * 40 ≤ 140737488351232)) (impl_unpacker_outs_h0_3 k j y0 (IntKind.i64.wrap (y1 + 1)) x4.2.1.1 x4.2.1.2.1 (y4 ++ [(x0.1, x1.1, x2.1, x3.1, x4.1)])) (none)) (some ((y4, (y2, y3, (), ()), ()))) := by kernel_rfl

noncomputable def errors_Is_h0 (k : Nat) (y0 : Int) : Option V_bool := evalT E k 116 t_bool [.c (.fn 1000000 [.bool true]), .c (.fn 1000146 [.int .i64 y0])] []
theorem errors_Is_h0_eq (k : Nat) (y0 : Int) : errors_Is_h0 (k + 1) y0 = some false := by kernel_rfl

noncomputable def slices_Equal_byte_byte (k : Nat) (a0 : V_sl_uint8) (a1 : V_sl_uint8) : Option V_bool := evalT E k 117 t_bool [inp t_sl_uint8 a0, inp t_sl_uint8 a1] []
noncomputable def slices_Equal_byte_byte_4 (k : Nat) (j : Nat) (y0 : List V_uint8) (y1 : List V_uint8) (y2 : Int) (y3 : Int) : Option V_bool := loopAt E 117 t_bool [true, true, false, true, false] [] [] k [] j (mkS 26 [(0, .c (.sl 5 t_uint8 y0)), (1, .c (.sl 5 t_uint8 y1)), (12, .c (.int .i64 y2)), (13, .c (.int .i64 y3))]) []
theorem slices_Equal_byte_byte_eq (k : Nat) (a0 : V_sl_uint8) (a1 : V_sl_uint8) : slices_Equal_byte_byte (k + 1) a0 a1 = 
 cond ((↑(List.length a0) : Int) != (↑(List.length a1) : Int)) (some false) (slices_Equal_byte_byte_4 k k a0 a1 ((↑(List.length a0) : Int)) 0) := by kernel_rfl
theorem slices_Equal_byte_byte_4_eq (k : Nat) (j : Nat) (y0 : List V_uint8) (y1 : List V_uint8) (y2 : Int) (y3 : Int) : slices_Equal_byte_byte_4 k (j + 1) y0 y1 y2 y3 = 
 cond (decide (y3 < y2)) (
  cond (decide (0 ≤ y3)) (
   cond (decide (y3 < (↑y0.length : Int))) (
    cond (decide (0 ≤ y3)) (
     cond (decide (y3 < (↑y1.length : Int))) (
      cond (y0.getD y3.toNat (dflt t_uint8) != y1.getD y3.toNat (dflt t_uint8)) (some false) (slices_Equal_byte_byte_4 k j y0 y1 y2 (IntKind.i64.wrap (y3 + 1)))) (none)) (none)) (none)) (none)) (some true) := by kernel_rfl

noncomputable def impl_WordUnpack (k : Nat) (a0 : V_sl_uint8) : Option (((V_int × (V_int × (V_int × (V_int × (V_int × (V_int × (V_int × (List V_int × (List V_int × (List V_impl_Event × List V_impl_Out)))))))))) × V_bool)) := evalT E k 51 (.pair (.pair t_int (.pair t_int (.pair t_int (.pair t_int (.pair t_int (.pair t_int (.pair t_int (.pair (.ow 3 t_int) (.pair (.ow 3 t_int) (.pair (.ow 41 t_impl_Event) (.ow 111 t_impl_Out))))))))))) t_bool) [inp t_sl_uint8 a0] []
theorem impl_WordUnpack_eq (k : Nat) (a0 : V_sl_uint8) : impl_WordUnpack (k + 1) a0 = 
 (impl_unpacker_num_h0 k a0 0).bind fun x0 => 
  (impl_unpacker_num_h0 k x0.2.1.1 x0.2.1.2.1).bind fun x1 => 
   (impl_unpacker_num_h0 k x1.2.1.1 x1.2.1.2.1).bind fun x2 => 
    (impl_unpacker_num_h0 k x2.2.1.1 x2.2.1.2.1).bind fun x3 => 
     (impl_unpacker_num_h0 k x3.2.1.1 x3.2.1.2.1).bind fun x4 => 
      (impl_unpacker_num_h0 k x4.2.1.1 x4.2.1.2.1).bind fun x5 => 
       (impl_unpacker_num_h0 k x5.2.1.1 x5.2.1.2.1).bind fun x6 => 
        (impl_unpacker_nums_h0 k 3 x6.2.1.1 x6.2.1.2.1).bind fun x7 => 
         (impl_unpacker_nums_h0 k 3 x7.2.1.1 x7.2.1.2.1).bind fun x8 => 
          (impl_unpacker_events_h0 k x8.2.1.1 x8.2.1.2.1).bind fun x9 => 
           (impl_unpacker_outs_h0 k x9.2.1.1 x9.2.1.2.1).bind fun x10 => 
            (errors_Is_h0 k 1).bind fun x11 => 
             cond (x11) (some (((0, 0, 0, 0, 0, 0, 0, [], [], [], []), false))) (
              (errors_Is_h0 k 2).bind fun x12 => 
               cond (x12) (some (((0, 0, 0, 0, 0, 0, 0, [], [], [], []), false))) (
                cond (x10.2.1.2.1 != (↑(List.length a0) : Int)) (some (((0, 0, 0, 0, 0, 0, 0, [], [], [], []), false))) (
                 (impl_WordOk k ((x0.1, (x1.1, (x2.1, (x3.1, (x4.1, (x5.1, (x6.1, (x7.1, (x8.1, (x9.1, x10.1)))))))))))).bind fun x13 => 
                  cond (!x13) (some (((0, 0, 0, 0, 0, 0, 0, [], [], [], []), false))) (
                   (impl_WordPack k ((x0.1, (x1.1, (x2.1, (x3.1, (x4.1, (x5.1, (x6.1, (x7.1, (x8.1, (x9.1, x10.1)))))))))))).bind fun x14 => 
                    (slices_Equal_byte_byte k x14 a0).bind fun x15 => 
                     cond (!x15) (some (((0, 0, 0, 0, 0, 0, 0, [], [], [], []), false))) (some (((x0.1, x1.1, x2.1, x3.1, x4.1, x5.1, x6.1, x7.1, x8.1, x9.1, x10.1), true))))))) := by kernel_rfl

noncomputable def laws_ltInts (k : Nat) (a0 : V_sl_int) (a1 : V_sl_int) : Option V_bool := evalT E k 118 t_bool [inp t_sl_int a0, inp t_sl_int a1] []
noncomputable def laws_ltInts_4 (k : Nat) (j : Nat) (y0 : List V_int) (y1 : List V_int) (y2 : Int) : Option V_bool := loopAt E 118 t_bool [true, true, false, true, false] [] [] k [] j (mkS 26 [(0, .c (.sl 3 t_int y0)), (1, .c (.sl 3 t_int y1)), (5, .c (.int .i64 y2))]) []
theorem laws_ltInts_eq (k : Nat) (a0 : V_sl_int) (a1 : V_sl_int) : laws_ltInts (k + 1) a0 a1 = 
 cond ((↑(List.length a0) : Int) != (↑(List.length a1) : Int)) (some false) (laws_ltInts_4 k k a0 a1 0) := by kernel_rfl
theorem laws_ltInts_4_eq (k : Nat) (j : Nat) (y0 : List V_int) (y1 : List V_int) (y2 : Int) : laws_ltInts_4 k (j + 1) y0 y1 y2 = 
 cond (decide (y2 < (↑y0.length : Int))) (
  cond (decide (0 ≤ y2)) (
   cond (decide (y2 < (↑y0.length : Int))) (
    cond (decide (0 ≤ y2)) (
     cond (decide (y2 < (↑y1.length : Int))) (
      cond (y0.getD y2.toNat (dflt t_int) != y1.getD y2.toNat (dflt t_int)) (some false) (laws_ltInts_4 k j y0 y1 (IntKind.i64.wrap (y2 + 1)))) (none)) (none)) (none)) (none)) (some true) := by kernel_rfl

noncomputable def laws_ltEvents (k : Nat) (a0 : V_sl_impl_Event) (a1 : V_sl_impl_Event) : Option V_bool := evalT E k 119 t_bool [inp t_sl_impl_Event a0, inp t_sl_impl_Event a1] []
noncomputable def laws_ltEvents_4 (k : Nat) (j : Nat) (y0 : List V_impl_Event) (y1 : List V_impl_Event) (y2 : Int) : Option V_bool := loopAt E 119 t_bool [true, true, false, true, false] [] [] k [] j (mkS 26 [(0, .c (.sl 41 t_impl_Event y0)), (1, .c (.sl 41 t_impl_Event y1)), (5, .c (.int .i64 y2))]) []
theorem laws_ltEvents_eq (k : Nat) (a0 : V_sl_impl_Event) (a1 : V_sl_impl_Event) : laws_ltEvents (k + 1) a0 a1 = 
 cond ((↑(List.length a0) : Int) != (↑(List.length a1) : Int)) (some false) (laws_ltEvents_4 k k a0 a1 0) := by kernel_rfl
theorem laws_ltEvents_4_eq (k : Nat) (j : Nat) (y0 : List V_impl_Event) (y1 : List V_impl_Event) (y2 : Int) : laws_ltEvents_4 k (j + 1) y0 y1 y2 = 
 cond (decide (y2 < (↑y0.length : Int))) (
  cond (decide (0 ≤ y2)) (
   cond (decide (y2 < (↑y0.length : Int))) (
    cond (decide (0 ≤ y2)) (
     cond (decide (y2 < (↑y1.length : Int))) (
      cond (!((y0.getD y2.toNat (dflt t_impl_Event)).1 == (y1.getD y2.toNat (dflt t_impl_Event)).1 &&
    ((y0.getD y2.toNat (dflt t_impl_Event)).2.1 == (y1.getD y2.toNat (dflt t_impl_Event)).2.1 &&
      ((y0.getD y2.toNat (dflt t_impl_Event)).2.2.1 == (y1.getD y2.toNat (dflt t_impl_Event)).2.2.1 &&
        ((y0.getD y2.toNat (dflt t_impl_Event)).2.2.2.1 == (y1.getD y2.toNat (dflt t_impl_Event)).2.2.2.1 &&
          ((y0.getD y2.toNat (dflt t_impl_Event)).2.2.2.2.1 == (y1.getD y2.toNat (dflt t_impl_Event)).2.2.2.2.1 &&
            ((y0.getD y2.toNat (dflt t_impl_Event)).2.2.2.2.2.1 ==
                (y1.getD y2.toNat (dflt t_impl_Event)).2.2.2.2.2.1 &&
              ((y0.getD y2.toNat (dflt t_impl_Event)).2.2.2.2.2.2 ==
                  (y1.getD y2.toNat (dflt t_impl_Event)).2.2.2.2.2.2 &&
                true)))))))) (some false) (laws_ltEvents_4 k j y0 y1 (IntKind.i64.wrap (y2 + 1)))) (none)) (none)) (none)) (none)) (some true) := by kernel_rfl

noncomputable def laws_ltOuts (k : Nat) (a0 : V_sl_impl_Out) (a1 : V_sl_impl_Out) : Option V_bool := evalT E k 120 t_bool [inp t_sl_impl_Out a0, inp t_sl_impl_Out a1] []
noncomputable def laws_ltOuts_4 (k : Nat) (j : Nat) (y0 : List V_impl_Out) (y1 : List V_impl_Out) (y2 : Int) : Option V_bool := loopAt E 120 t_bool [true, true, false, true, false] [] [] k [] j (mkS 26 [(0, .c (.sl 111 t_impl_Out y0)), (1, .c (.sl 111 t_impl_Out y1)), (5, .c (.int .i64 y2))]) []
theorem laws_ltOuts_eq (k : Nat) (a0 : V_sl_impl_Out) (a1 : V_sl_impl_Out) : laws_ltOuts (k + 1) a0 a1 = 
 cond ((↑(List.length a0) : Int) != (↑(List.length a1) : Int)) (some false) (laws_ltOuts_4 k k a0 a1 0) := by kernel_rfl
theorem laws_ltOuts_4_eq (k : Nat) (j : Nat) (y0 : List V_impl_Out) (y1 : List V_impl_Out) (y2 : Int) : laws_ltOuts_4 k (j + 1) y0 y1 y2 = 
 cond (decide (y2 < (↑y0.length : Int))) (
  cond (decide (0 ≤ y2)) (
   cond (decide (y2 < (↑y0.length : Int))) (
    cond (decide (0 ≤ y2)) (
     cond (decide (y2 < (↑y1.length : Int))) (
      cond (!((y0.getD y2.toNat (dflt t_impl_Out)).1 == (y1.getD y2.toNat (dflt t_impl_Out)).1 &&
    ((y0.getD y2.toNat (dflt t_impl_Out)).2.1 == (y1.getD y2.toNat (dflt t_impl_Out)).2.1 &&
      ((y0.getD y2.toNat (dflt t_impl_Out)).2.2.1 == (y1.getD y2.toNat (dflt t_impl_Out)).2.2.1 &&
        ((y0.getD y2.toNat (dflt t_impl_Out)).2.2.2.1 == (y1.getD y2.toNat (dflt t_impl_Out)).2.2.2.1 &&
          ((y0.getD y2.toNat (dflt t_impl_Out)).2.2.2.2 == (y1.getD y2.toNat (dflt t_impl_Out)).2.2.2.2 && true)))))) (some false) (laws_ltOuts_4 k j y0 y1 (IntKind.i64.wrap (y2 + 1)))) (none)) (none)) (none)) (none)) (some true) := by kernel_rfl

noncomputable def laws_ltWord (k : Nat) (a0 : V_impl_Word) (a1 : V_impl_Word) : Option V_bool := evalT E k 52 t_bool [inp t_impl_Word a0, inp t_impl_Word a1] []
theorem laws_ltWord_eq (k : Nat) (a0 : V_impl_Word) (a1 : V_impl_Word) : laws_ltWord (k + 1) a0 a1 = 
 cond (a0.1 == a1.1) (
  cond (a0.2.1 == a1.2.1) (
   cond (a0.2.2.1 == a1.2.2.1) (
    cond (a0.2.2.2.1 == a1.2.2.2.1) (
     cond (a0.2.2.2.2.1 == a1.2.2.2.2.1) (
      cond (a0.2.2.2.2.2.1 == a1.2.2.2.2.2.1) (
       cond (a0.2.2.2.2.2.2.1 == a1.2.2.2.2.2.2.1) (
        (laws_ltInts k a0.2.2.2.2.2.2.2.1 a1.2.2.2.2.2.2.2.1).bind fun x0 => 
         cond (x0) (
          (laws_ltInts k a0.2.2.2.2.2.2.2.2.1 a1.2.2.2.2.2.2.2.2.1).bind fun x1 => 
           cond (x1) (
            (laws_ltEvents k a0.2.2.2.2.2.2.2.2.2.1 a1.2.2.2.2.2.2.2.2.2.1).bind fun x2 => 
             cond (x2) (
              (laws_ltOuts k a0.2.2.2.2.2.2.2.2.2.2 a1.2.2.2.2.2.2.2.2.2.2).bind fun x3 => some x3) (some false)) (some false)) (some false)) (some false)) (some false)) (some false)) (some false)) (some false)) (some false)) (some false) := by kernel_rfl

noncomputable def laws_FnWordBack (k : Nat) (a0 : V_sl_uint8) : Option V_bool := evalT E k 11 t_bool [inp t_sl_uint8 a0] []
theorem laws_FnWordBack_eq (k : Nat) (a0 : V_sl_uint8) : laws_FnWordBack (k + 1) a0 = 
 cond (decide ((↑(List.length a0) : Int) > 1048576)) (some true) (
  (spec_DrawWordPack k a0).bind fun x0 => 
   (spec_WordPack k x0).bind fun x1 => 
    (spec_WordOk k x0).bind fun x2 => 
     (impl_WordPack k x0).bind fun x3 => 
      cond (strN x3 != strN x1) (some false) (
       (impl_WordOk k x0).bind fun x4 => 
        cond (!x4 == x2) (some false) (
         cond (!x2) (some ((↑(List.length x3) : Int) == 0)) (
          (impl_WordUnpack k x3).bind fun x5 => 
           cond (x5.2) (
            (laws_ltWord k x5.1 x0).bind fun x6 => some x6) (some false))))) := by kernel_rfl

def Goal : Prop := ∀ (a0 : V_sl_uint8), Go.Sx.Good t_sl_uint8 a0 → ∃ k, laws_FnWordBack k a0 = some true
end Go.Proofs.Ytjgpacfhokpfdaa.SFnWordBack
