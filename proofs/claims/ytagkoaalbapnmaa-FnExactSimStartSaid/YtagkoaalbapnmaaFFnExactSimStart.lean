/- What each function of the program answers: one step of the plain machine, by the kernel. -/
import Derived.Test.YtagkoaalbapnmaaEFnExactSimStart
set_option linter.unusedVariables false
set_option maxRecDepth 1000000
set_option maxHeartbeats 0
namespace Go.Proofs.Ytagkoaalbapnmaa.SFnExactSimStart
open Go Go.Sx Go.Proofs
noncomputable def spec_l6In (k : Nat) (a0 : V_int) (a1 : V_int) (a2 : V_int) : Option V_bool := evalT E k 51 t_bool [inp t_int a0, inp t_int a1, inp t_int a2] []
theorem spec_l6In_eq (k : Nat) (a0 : V_int) (a1 : V_int) (a2 : V_int) : spec_l6In (k + 1) a0 a1 a2 = 
 cond (decide (a0 ≥ a1)) (some (decide (a0 ≤ a2))) (some false) := by kernel_rfl

noncomputable def spec_l1Proc (k : Nat) (a0 : V_int) : Option V_bool := evalT E k 79 t_bool [inp t_int a0] []
theorem spec_l1Proc_eq (k : Nat) (a0 : V_int) : spec_l1Proc (k + 1) a0 = 
 (spec_l6In k a0 0 3).bind fun x0 => some x0 := by kernel_rfl

noncomputable def spec_AppFirst (k : Nat) (a0 : V_int) : Option ((V_int × (V_int × (V_int × (V_int × (V_int × (V_int × V_int))))))) := evalT E k 66 (.pair t_int (.pair t_int (.pair t_int (.pair t_int (.pair t_int (.pair t_int t_int)))))) [inp t_int a0] []
theorem spec_AppFirst_eq (k : Nat) (a0 : V_int) : spec_AppFirst (k + 1) a0 = 
 (spec_l1Proc k a0).bind fun x0 => 
  cond (!x0) (some (0, 0, 0, 0, 0, 0, 0)) (some (0, a0, -1, 0, a0, 0, a0)) := by kernel_rfl

noncomputable def spec_SimStart (k : Nat) : Option ((List V_impl_State × (List V_impl_Event × List V_impl_Out))) := evalT E k 32 (.pair (.ow 105 t_impl_State) (.pair (.ow 70 t_impl_Event) (.ow 61 t_impl_Out))) [] []
noncomputable def spec_SimStart_3 (k : Nat) (j : Nat) (y0 : Int) (y1 : List V_impl_State) (y2 : List V_impl_Event) (y3 : List V_impl_Out) (y4 : List V_impl_State) (y5 : List V_impl_Event) (y6 : List V_impl_Out) : Option ((List V_impl_State × (List V_impl_Event × List V_impl_Out))) := loopAt E 32 (.pair (.ow 105 t_impl_State) (.pair (.ow 70 t_impl_Event) (.ow 61 t_impl_Out))) [true, true, false, true, false] [] [] k [] j (mkS 22 [(0, .c (.p 0 0)), (1, .c (.p 1 0)), (2, .c (.int .i64 y0))]) [some (.box 52 [.o 2, .o 3, .o 4]), some (.box 52 [.o 5, .o 6, .o 7]), some (.own 105 t_impl_State y1), some (.own 70 t_impl_Event y2), some (.own 61 t_impl_Out y3), some (.own 105 t_impl_State y4), some (.own 70 t_impl_Event y5), some (.own 61 t_impl_Out y6)]
theorem spec_SimStart_eq (k : Nat) : spec_SimStart (k + 1) = spec_SimStart_3 k k 0 [] [] [] [] [] [] := by kernel_rfl
theorem spec_SimStart_3_eq (k : Nat) (j : Nat) (y0 : Int) (y1 : List V_impl_State) (y2 : List V_impl_Event) (y3 : List V_impl_Out) (y4 : List V_impl_State) (y5 : List V_impl_Event) (y6 : List V_impl_Out) : spec_SimStart_3 k (j + 1) y0 y1 y2 y3 y4 y5 y6 = 
 cond (decide (y0 < 4)) (
  cond (decide ((y4.length + [(0, 0, 0)].length) * 24 ≤ 140737488351232)) (
   (spec_AppFirst k y0).bind fun x0 => 
    cond (decide
  ((y5.length +
        [(x0.1, x0.2.1, x0.2.2.1, x0.2.2.2.1, x0.2.2.2.2.1, x0.2.2.2.2.2.1,
              x0.2.2.2.2.2.2)].length) *
      56 ≤
    140737488351232)) (spec_SimStart_3 k j (IntKind.i64.wrap (y0 + 1)) y1 y2 y3 (y4 ++ [(0, 0, 0)]) (y5 ++
  [(x0.1, x0.2.1, x0.2.2.1, x0.2.2.2.1, x0.2.2.2.2.1, x0.2.2.2.2.2.1,
      x0.2.2.2.2.2.2)]) y6) (none)) (none)) (some (y4, y5, y6)) := by kernel_rfl

noncomputable def impl_within (k : Nat) (a0 : V_int) (a1 : V_int) (a2 : V_int) : Option V_bool := evalT E k 83 t_bool [inp t_int a0, inp t_int a1, inp t_int a2] []
theorem impl_within_eq (k : Nat) (a0 : V_int) (a1 : V_int) (a2 : V_int) : impl_within (k + 1) a0 a1 a2 = 
 cond (decide (a0 ≥ a1)) (some (decide (a0 ≤ a2))) (some false) := by kernel_rfl

noncomputable def impl_isProc (k : Nat) (a0 : V_int) : Option V_bool := evalT E k 86 t_bool [inp t_int a0] []
theorem impl_isProc_eq (k : Nat) (a0 : V_int) : impl_isProc (k + 1) a0 = 
 (impl_within k a0 0 3).bind fun x0 => some x0 := by kernel_rfl

noncomputable def impl_AppFirst (k : Nat) (a0 : V_int) : Option ((V_int × (V_int × (V_int × (V_int × (V_int × (V_int × V_int))))))) := evalT E k 88 (.pair t_int (.pair t_int (.pair t_int (.pair t_int (.pair t_int (.pair t_int t_int)))))) [inp t_int a0] []
theorem impl_AppFirst_eq (k : Nat) (a0 : V_int) : impl_AppFirst (k + 1) a0 = 
 (impl_isProc k a0).bind fun x0 => 
  cond (!x0) (some (0, 0, 0, 0, 0, 0, 0)) (some (0, a0, -1, 0, a0, 0, a0)) := by kernel_rfl

noncomputable def impl_keyOf (k : Nat) (a0 : V_impl_Event) : Option ((V_int × (V_int × (V_int × (V_int × (V_int × (V_int × V_int))))))) := evalT E k 45 (.pair t_int (.pair t_int (.pair t_int (.pair t_int (.pair t_int (.pair t_int t_int)))))) [inp t_impl_Event a0] []
theorem impl_keyOf_eq (k : Nat) (a0 : V_impl_Event) : impl_keyOf (k + 1) a0 = some (a0.1, a0.2.1, a0.2.2.1, a0.2.2.2.1, a0.2.2.2.2.1, a0.2.2.2.2.2.1,
  a0.2.2.2.2.2.2) := by kernel_rfl

noncomputable def cmp_isNaN_int (k : Nat) (a0 : V_int) : Option V_bool := evalT E k 96 t_bool [inp t_int a0] []
theorem cmp_isNaN_int_eq (k : Nat) (a0 : V_int) : cmp_isNaN_int (k + 1) a0 = some (a0 != a0) := by kernel_rfl

noncomputable def cmp_Compare_int (k : Nat) (a0 : V_int) (a1 : V_int) : Option V_int := evalT E k 89 t_int [inp t_int a0, inp t_int a1] []
theorem cmp_Compare_int_eq (k : Nat) (a0 : V_int) (a1 : V_int) : cmp_Compare_int (k + 1) a0 a1 = 
 (cmp_isNaN_int k a0).bind fun x0 => 
  (cmp_isNaN_int k a1).bind fun x1 => 
   cond (x0) (
    cond (x1) (some 0) (some (-1))) (
    cond (x1) (some 1) (
     cond (decide (a0 < a1)) (some (-1)) (
      cond (decide (a0 > a1)) (some 1) (some 0)))) := by kernel_rfl

noncomputable def slices_Compare_int_int (k : Nat) (a0 : V_sl_int) (a1 : V_sl_int) : Option V_int := evalT E k 70 t_int [inp t_sl_int a0, inp t_sl_int a1] []
noncomputable def slices_Compare_int_int_2 (k : Nat) (j : Nat) (y0 : List V_int) (y1 : List V_int) (y2 : List V_int) (y3 : Int) (y4 : Int) : Option V_int := loopAt E 70 t_int [true, false, true, false] [] [] k [] j (mkS 36 [(0, .c (.sl 3 t_int y0)), (1, .c (.sl 3 t_int y1)), (9, .c (.sl 3 t_int y2)), (10, .c (.int .i64 y3)), (11, .c (.int .i64 y4))]) []
theorem slices_Compare_int_int_eq (k : Nat) (a0 : V_sl_int) (a1 : V_sl_int) : slices_Compare_int_int (k + 1) a0 a1 = slices_Compare_int_int_2 k k a0 a1 a0 ((↑(List.length a0) : Int)) 0 := by kernel_rfl
theorem slices_Compare_int_int_2_eq (k : Nat) (j : Nat) (y0 : List V_int) (y1 : List V_int) (y2 : List V_int) (y3 : Int) (y4 : Int) : slices_Compare_int_int_2 k (j + 1) y0 y1 y2 y3 y4 = 
 cond (decide (y4 < y3)) (
  cond (decide (0 ≤ y4)) (
   cond (decide (y4 < (↑y2.length : Int))) (
    cond (decide (y4 ≥ (↑y1.length : Int))) (some 1) (
     cond (decide (0 ≤ y4)) (
      cond (decide (y4 < (↑y1.length : Int))) (
       (cmp_Compare_int k (y2.getD y4.toNat (dflt t_int)) (y1.getD y4.toNat (dflt t_int))).bind fun x0 => 
        cond (x0 != 0) (some x0) (slices_Compare_int_int_2 k j y0 y1 y2 y3 (IntKind.i64.wrap (y4 + 1)))) (none)) (none))) (none)) (none)) (
  cond (decide ((↑y0.length : Int) < (↑y1.length : Int))) (some (-1)) (some 0)) := by kernel_rfl

noncomputable def impl_keyLess (k : Nat) (a0 : V_impl_eventKey) (a1 : V_impl_eventKey) : Option V_bool := evalT E k 44 t_bool [inp t_impl_eventKey a0, inp t_impl_eventKey a1] []
theorem impl_keyLess_eq (k : Nat) (a0 : V_impl_eventKey) (a1 : V_impl_eventKey) : impl_keyLess (k + 1) a0 a1 = 
 (slices_Compare_int_int k [a0.1, a0.2.1, a0.2.2.1, a0.2.2.2.1, a0.2.2.2.2.1, a0.2.2.2.2.2.1,
  a0.2.2.2.2.2.2] [a1.1, a1.2.1, a1.2.2.1, a1.2.2.2.1, a1.2.2.2.2.1, a1.2.2.2.2.2.1,
  a1.2.2.2.2.2.2]).bind fun x0 => some (decide (x0 < 0)) := by kernel_rfl

noncomputable def impl_heap_impl_eventKey_push_h0 (k : Nat) (y0 : V_impl_eventKey) (y1 : List V_impl_eventKey) : Option ((Unit × ((List V_impl_eventKey × (Unit × Unit)) × Unit))) := evalT E k 46 (.pair .unit (.pair (.pair (.ow 79 t_impl_eventKey) (.pair (.fnc 44) .unit)) .unit)) [.c (.p 0 0), inp t_impl_eventKey y0] [some (.box 76 [.o 1, .fn 44 []]), some (.own 79 t_impl_eventKey y1)]
noncomputable def impl_heap_impl_eventKey_push_h0_3 (k : Nat) (j : Nat) (y0 : Int) (y1 : List V_impl_eventKey) : Option ((Unit × ((List V_impl_eventKey × (Unit × Unit)) × Unit))) := loopAt E 46 (.pair .unit (.pair (.pair (.ow 79 t_impl_eventKey) (.pair (.fnc 44) .unit)) .unit)) [true, true, true, false] [some (.box 76 [.undef, .undef]), none] [] k [] j (mkS 74 [(0, .c (.p 0 0)), (4, .c (.int .i64 y0))]) [some (.box 76 [.o 1, .fn 44 []]), some (.own 79 t_impl_eventKey y1)]
theorem impl_heap_impl_eventKey_push_h0_eq (k : Nat) (y0 : V_impl_eventKey) (y1 : List V_impl_eventKey) : impl_heap_impl_eventKey_push_h0 (k + 1) y0 y1 = 
 cond (decide
  ((y1.length +
        [(y0.1, y0.2.1, y0.2.2.1, y0.2.2.2.1, y0.2.2.2.2.1, y0.2.2.2.2.2.1,
              y0.2.2.2.2.2.2)].length) *
      56 ≤
    140737488351232)) (impl_heap_impl_eventKey_push_h0_3 k k (IntKind.i64.wrap
  ((↑(y1 ++
            [(y0.1, y0.2.1, y0.2.2.1, y0.2.2.2.1, y0.2.2.2.2.1,
                y0.2.2.2.2.2.1, y0.2.2.2.2.2.2)]).length :
      Int) -
    1)) (y1 ++
  [(y0.1, y0.2.1, y0.2.2.1, y0.2.2.2.1, y0.2.2.2.2.1, y0.2.2.2.2.2.1,
      y0.2.2.2.2.2.2)])) (none) := by kernel_rfl
theorem impl_heap_impl_eventKey_push_h0_3_eq (k : Nat) (j : Nat) (y0 : Int) (y1 : List V_impl_eventKey) : impl_heap_impl_eventKey_push_h0_3 k (j + 1) y0 y1 = 
 cond (decide (y0 > 0)) (
  cond (decide (0 ≤ y0)) (
   cond (decide (y0 < (↑y1.length : Int))) (
    cond (decide (y0.toNat < y1.length)) (
     cond (decide (0 ≤ IntKind.i64.wrap ((IntKind.i64.wrap (y0 - 1)).tdiv 2))) (
      cond (decide (IntKind.i64.wrap ((IntKind.i64.wrap (y0 - 1)).tdiv 2) < (↑y1.length : Int))) (
       cond (decide ((IntKind.i64.wrap ((IntKind.i64.wrap (y0 - 1)).tdiv 2)).toNat < y1.length)) (
        (impl_keyLess k (y1.getD y0.toNat (dflt t_impl_eventKey)) (y1.getD (IntKind.i64.wrap ((IntKind.i64.wrap (y0 - 1)).tdiv 2)).toNat (dflt t_impl_eventKey))).bind fun x0 => 
         cond (!x0) (some (((), (y1, (), ()), ()))) (
          cond (decide (0 ≤ IntKind.i64.wrap ((IntKind.i64.wrap (y0 - 1)).tdiv 2))) (
           cond (decide (IntKind.i64.wrap ((IntKind.i64.wrap (y0 - 1)).tdiv 2) < (↑y1.length : Int))) (
            cond (decide ((IntKind.i64.wrap ((IntKind.i64.wrap (y0 - 1)).tdiv 2)).toNat < y1.length)) (
             cond (decide (0 ≤ y0)) (
              cond (decide (y0 < (↑y1.length : Int))) (
               cond (decide (y0.toNat < y1.length)) (
                cond (decide (0 ≤ y0)) (
                 cond (decide (y0 < (↑y1.length : Int))) (
                  cond (decide (y0.toNat < y1.length)) (
                   cond (decide (0 ≤ IntKind.i64.wrap ((IntKind.i64.wrap (y0 - 1)).tdiv 2))) (
                    cond (decide
  (IntKind.i64.wrap ((IntKind.i64.wrap (y0 - 1)).tdiv 2) <
    (↑(y1.set y0.toNat
            ((y1.getD (IntKind.i64.wrap ((IntKind.i64.wrap (y0 - 1)).tdiv 2)).toNat (dflt t_impl_eventKey)).1,
              (y1.getD (IntKind.i64.wrap ((IntKind.i64.wrap (y0 - 1)).tdiv 2)).toNat (dflt t_impl_eventKey)).2.1,
              (y1.getD (IntKind.i64.wrap ((IntKind.i64.wrap (y0 - 1)).tdiv 2)).toNat (dflt t_impl_eventKey)).2.2.1,
              (y1.getD (IntKind.i64.wrap ((IntKind.i64.wrap (y0 - 1)).tdiv 2)).toNat (dflt t_impl_eventKey)).2.2.2.1,
              (y1.getD (IntKind.i64.wrap ((IntKind.i64.wrap (y0 - 1)).tdiv 2)).toNat (dflt t_impl_eventKey)).2.2.2.2.1,
              (y1.getD (IntKind.i64.wrap ((IntKind.i64.wrap (y0 - 1)).tdiv 2)).toNat
                            (dflt t_impl_eventKey)).2.2.2.2.2.1,
              (y1.getD (IntKind.i64.wrap ((IntKind.i64.wrap (y0 - 1)).tdiv 2)).toNat
                            (dflt t_impl_eventKey)).2.2.2.2.2.2)).length :
      Int))) (
                     cond (decide
  ((IntKind.i64.wrap ((IntKind.i64.wrap (y0 - 1)).tdiv 2)).toNat <
    (y1.set y0.toNat
        ((y1.getD (IntKind.i64.wrap ((IntKind.i64.wrap (y0 - 1)).tdiv 2)).toNat (dflt t_impl_eventKey)).1,
          (y1.getD (IntKind.i64.wrap ((IntKind.i64.wrap (y0 - 1)).tdiv 2)).toNat (dflt t_impl_eventKey)).2.1,
          (y1.getD (IntKind.i64.wrap ((IntKind.i64.wrap (y0 - 1)).tdiv 2)).toNat (dflt t_impl_eventKey)).2.2.1,
          (y1.getD (IntKind.i64.wrap ((IntKind.i64.wrap (y0 - 1)).tdiv 2)).toNat (dflt t_impl_eventKey)).2.2.2.1,
          (y1.getD (IntKind.i64.wrap ((IntKind.i64.wrap (y0 - 1)).tdiv 2)).toNat (dflt t_impl_eventKey)).2.2.2.2.1,
          (y1.getD (IntKind.i64.wrap ((IntKind.i64.wrap (y0 - 1)).tdiv 2)).toNat (dflt t_impl_eventKey)).2.2.2.2.2.1,
          (y1.getD (IntKind.i64.wrap ((IntKind.i64.wrap (y0 - 1)).tdiv 2)).toNat
                        (dflt t_impl_eventKey)).2.2.2.2.2.2)).length)) (impl_heap_impl_eventKey_push_h0_3 k j (IntKind.i64.wrap ((IntKind.i64.wrap (y0 - 1)).tdiv 2)) ((y1.set y0.toNat
      ((y1.getD (IntKind.i64.wrap ((IntKind.i64.wrap (y0 - 1)).tdiv 2)).toNat (dflt t_impl_eventKey)).1,
        (y1.getD (IntKind.i64.wrap ((IntKind.i64.wrap (y0 - 1)).tdiv 2)).toNat (dflt t_impl_eventKey)).2.1,
        (y1.getD (IntKind.i64.wrap ((IntKind.i64.wrap (y0 - 1)).tdiv 2)).toNat (dflt t_impl_eventKey)).2.2.1,
        (y1.getD (IntKind.i64.wrap ((IntKind.i64.wrap (y0 - 1)).tdiv 2)).toNat (dflt t_impl_eventKey)).2.2.2.1,
        (y1.getD (IntKind.i64.wrap ((IntKind.i64.wrap (y0 - 1)).tdiv 2)).toNat (dflt t_impl_eventKey)).2.2.2.2.1,
        (y1.getD (IntKind.i64.wrap ((IntKind.i64.wrap (y0 - 1)).tdiv 2)).toNat (dflt t_impl_eventKey)).2.2.2.2.2.1,
        (y1.getD (IntKind.i64.wrap ((IntKind.i64.wrap (y0 - 1)).tdiv 2)).toNat (dflt t_impl_eventKey)).2.2.2.2.2.2)).set
  (IntKind.i64.wrap ((IntKind.i64.wrap (y0 - 1)).tdiv 2)).toNat
  ((y1.getD y0.toNat (dflt t_impl_eventKey)).1, (y1.getD y0.toNat (dflt t_impl_eventKey)).2.1, (y1.getD y0.toNat (dflt t_impl_eventKey)).2.2.1,
    (y1.getD y0.toNat (dflt t_impl_eventKey)).2.2.2.1, (y1.getD y0.toNat (dflt t_impl_eventKey)).2.2.2.2.1,
    (y1.getD y0.toNat (dflt t_impl_eventKey)).2.2.2.2.2.1, (y1.getD y0.toNat (dflt t_impl_eventKey)).2.2.2.2.2.2))) (none)) (none)) (none)) (none)) (none)) (none)) (none)) (none)) (none)) (none)) (none)) (none))) (none)) (none)) (none)) (none)) (none)) (none)) (some (((), (y1, (), ()), ()))) := by kernel_rfl

noncomputable def impl_heap_impl_eventKey_pop_h0 (k : Nat) (y0 : List V_impl_eventKey) : Option (((V_int × (V_int × (V_int × (V_int × (V_int × (V_int × V_int)))))) × ((List V_impl_eventKey × (Unit × Unit)) × Unit))) := evalT E k 72 (.pair (.pair t_int (.pair t_int (.pair t_int (.pair t_int (.pair t_int (.pair t_int t_int)))))) (.pair (.pair (.ow 79 t_impl_eventKey) (.pair (.fnc 44) .unit)) .unit)) [.c (.p 0 0)] [some (.box 76 [.o 1, .fn 44 []]), some (.own 79 t_impl_eventKey y0)]
noncomputable def impl_heap_impl_eventKey_pop_h0_6 (k : Nat) (j : Nat) (y0 : Int) (y1 : Int) (y2 : V_impl_eventKey) (y3 : V_impl_eventKey) (y4 : List V_impl_eventKey) : Option (((V_int × (V_int × (V_int × (V_int × (V_int × (V_int × V_int)))))) × ((List V_impl_eventKey × (Unit × Unit)) × Unit))) := loopAt E 72 (.pair (.pair t_int (.pair t_int (.pair t_int (.pair t_int (.pair t_int (.pair t_int t_int)))))) (.pair (.pair (.ow 79 t_impl_eventKey) (.pair (.fnc 44) .unit)) .unit)) [true, true, true, true, true, true, false] [some (.box 76 [.undef, .undef]), none] [] k [] j (mkS 123 [(0, .c (.p 0 0)), (2, .c (.p 1 0)), (3, .c (.p 2 0)), (4, .c (.int .i64 y0)), (5, .c (.int .i64 y1))]) [some (.box 76 [.o 3, .fn 44 []]), some (.box 79 (cells t_impl_eventKey y2)), some (.box 79 (cells t_impl_eventKey y3)), some (.own 79 t_impl_eventKey y4)]
theorem impl_heap_impl_eventKey_pop_h0_eq (k : Nat) (y0 : List V_impl_eventKey) : impl_heap_impl_eventKey_pop_h0 (k + 1) y0 = 
 cond (decide (0 < (↑y0.length : Int))) (
  cond (decide (Int.toNat 0 < y0.length)) (
   cond (decide (0 ≤ IntKind.i64.wrap ((↑y0.length : Int) - 1))) (
    cond (decide (IntKind.i64.wrap ((↑y0.length : Int) - 1) < (↑y0.length : Int))) (
     cond (decide ((IntKind.i64.wrap ((↑y0.length : Int) - 1)).toNat < y0.length)) (
      cond (decide (0 < (↑y0.length : Int))) (
       cond (decide (Int.toNat 0 < y0.length)) (
        cond (decide (0 ≤ IntKind.i64.wrap ((↑y0.length : Int) - 1))) (
         cond (decide
  (IntKind.i64.wrap ((↑y0.length : Int) - 1) ≤
    (↑(y0.set (Int.toNat 0)
            ((y0.getD (IntKind.i64.wrap ((↑y0.length : Int) - 1)).toNat (dflt t_impl_eventKey)).1,
              (y0.getD (IntKind.i64.wrap ((↑y0.length : Int) - 1)).toNat (dflt t_impl_eventKey)).2.1,
              (y0.getD (IntKind.i64.wrap ((↑y0.length : Int) - 1)).toNat (dflt t_impl_eventKey)).2.2.1,
              (y0.getD (IntKind.i64.wrap ((↑y0.length : Int) - 1)).toNat (dflt t_impl_eventKey)).2.2.2.1,
              (y0.getD (IntKind.i64.wrap ((↑y0.length : Int) - 1)).toNat (dflt t_impl_eventKey)).2.2.2.2.1,
              (y0.getD (IntKind.i64.wrap ((↑y0.length : Int) - 1)).toNat (dflt t_impl_eventKey)).2.2.2.2.2.1,
              (y0.getD (IntKind.i64.wrap ((↑y0.length : Int) - 1)).toNat (dflt t_impl_eventKey)).2.2.2.2.2.2)).length :
      Int))) (impl_heap_impl_eventKey_pop_h0_6 k k (IntKind.i64.wrap ((↑y0.length : Int) - 1)) 0 ((0, (0, (0, (0, (0, (0, 0))))))) (y0.getD (Int.toNat 0) (dflt t_impl_eventKey)) (List.take (IntKind.i64.wrap ((↑y0.length : Int) - 1)).toNat
  (y0.set (Int.toNat 0)
    ((y0.getD (IntKind.i64.wrap ((↑y0.length : Int) - 1)).toNat (dflt t_impl_eventKey)).1,
      (y0.getD (IntKind.i64.wrap ((↑y0.length : Int) - 1)).toNat (dflt t_impl_eventKey)).2.1,
      (y0.getD (IntKind.i64.wrap ((↑y0.length : Int) - 1)).toNat (dflt t_impl_eventKey)).2.2.1,
      (y0.getD (IntKind.i64.wrap ((↑y0.length : Int) - 1)).toNat (dflt t_impl_eventKey)).2.2.2.1,
      (y0.getD (IntKind.i64.wrap ((↑y0.length : Int) - 1)).toNat (dflt t_impl_eventKey)).2.2.2.2.1,
      (y0.getD (IntKind.i64.wrap ((↑y0.length : Int) - 1)).toNat (dflt t_impl_eventKey)).2.2.2.2.2.1,
      (y0.getD (IntKind.i64.wrap ((↑y0.length : Int) - 1)).toNat (dflt t_impl_eventKey)).2.2.2.2.2.2)))) (none)) (none)) (none)) (none)) (none)) (none)) (none)) (none)) (none) := by kernel_rfl
theorem impl_heap_impl_eventKey_pop_h0_6_eq (k : Nat) (j : Nat) (y0 : Int) (y1 : Int) (y2 : V_impl_eventKey) (y3 : V_impl_eventKey) (y4 : List V_impl_eventKey) : impl_heap_impl_eventKey_pop_h0_6 k (j + 1) y0 y1 y2 y3 y4 = 
 cond (decide (IntKind.i64.wrap (IntKind.i64.wrap (2 * y1) + 1) ≥ y0)) (some (((y3.1, y3.2.1, y3.2.2.1, y3.2.2.2.1, y3.2.2.2.2.1, y3.2.2.2.2.2.1,
    y3.2.2.2.2.2.2),
  (y4, (), ()), ()))) (
  cond (decide (IntKind.i64.wrap (IntKind.i64.wrap (IntKind.i64.wrap (2 * y1) + 1) + 1) < y0)) (
   cond (decide (0 ≤ IntKind.i64.wrap (IntKind.i64.wrap (IntKind.i64.wrap (2 * y1) + 1) + 1))) (
    cond (decide (IntKind.i64.wrap (IntKind.i64.wrap (IntKind.i64.wrap (2 * y1) + 1) + 1) < (↑y4.length : Int))) (
     cond (decide ((IntKind.i64.wrap (IntKind.i64.wrap (IntKind.i64.wrap (2 * y1) + 1) + 1)).toNat < y4.length)) (
      cond (decide (0 ≤ IntKind.i64.wrap (IntKind.i64.wrap (2 * y1) + 1))) (
       cond (decide (IntKind.i64.wrap (IntKind.i64.wrap (2 * y1) + 1) < (↑y4.length : Int))) (
        cond (decide ((IntKind.i64.wrap (IntKind.i64.wrap (2 * y1) + 1)).toNat < y4.length)) (
         (impl_keyLess k (y4.getD (IntKind.i64.wrap (IntKind.i64.wrap (IntKind.i64.wrap (2 * y1) + 1) + 1)).toNat (dflt t_impl_eventKey)) (y4.getD (IntKind.i64.wrap (IntKind.i64.wrap (2 * y1) + 1)).toNat (dflt t_impl_eventKey))).bind fun x0 => 
          cond (x0) (
           cond (decide (0 ≤ IntKind.i64.wrap (IntKind.i64.wrap (IntKind.i64.wrap (2 * y1) + 1) + 1))) (
            cond (decide (IntKind.i64.wrap (IntKind.i64.wrap (IntKind.i64.wrap (2 * y1) + 1) + 1) < (↑y4.length : Int))) (
             cond (decide ((IntKind.i64.wrap (IntKind.i64.wrap (IntKind.i64.wrap (2 * y1) + 1) + 1)).toNat < y4.length)) (
              cond (decide (0 ≤ y1)) (
               cond (decide (y1 < (↑y4.length : Int))) (
                cond (decide (y1.toNat < y4.length)) (
                 (impl_keyLess k (y4.getD (IntKind.i64.wrap (IntKind.i64.wrap (IntKind.i64.wrap (2 * y1) + 1) + 1)).toNat (dflt t_impl_eventKey)) (y4.getD y1.toNat (dflt t_impl_eventKey))).bind fun x1 => 
                  cond (!x1) (some (((y3.1, y3.2.1, y3.2.2.1, y3.2.2.2.1, y3.2.2.2.2.1, y3.2.2.2.2.2.1,
    y3.2.2.2.2.2.2),
  (y4, (), ()), ()))) (
                   cond (decide (0 ≤ IntKind.i64.wrap (IntKind.i64.wrap (IntKind.i64.wrap (2 * y1) + 1) + 1))) (
                    cond (decide (IntKind.i64.wrap (IntKind.i64.wrap (IntKind.i64.wrap (2 * y1) + 1) + 1) < (↑y4.length : Int))) (
                     cond (decide ((IntKind.i64.wrap (IntKind.i64.wrap (IntKind.i64.wrap (2 * y1) + 1) + 1)).toNat < y4.length)) (
                      cond (decide (0 ≤ y1)) (
                       cond (decide (y1 < (↑y4.length : Int))) (
                        cond (decide (y1.toNat < y4.length)) (
                         cond (decide (0 ≤ y1)) (
                          cond (decide (y1 < (↑y4.length : Int))) (
                           cond (decide (y1.toNat < y4.length)) (
                            cond (decide (0 ≤ IntKind.i64.wrap (IntKind.i64.wrap (IntKind.i64.wrap (2 * y1) + 1) + 1))) (
                             cond (decide
  (IntKind.i64.wrap (IntKind.i64.wrap (IntKind.i64.wrap (2 * y1) + 1) + 1) <
    (↑(y4.set y1.toNat
            ((y4.getD (IntKind.i64.wrap (IntKind.i64.wrap (IntKind.i64.wrap (2 * y1) + 1) + 1)).toNat (dflt t_impl_eventKey)).1,
              (y4.getD (IntKind.i64.wrap (IntKind.i64.wrap (IntKind.i64.wrap (2 * y1) + 1) + 1)).toNat
                    (dflt t_impl_eventKey)).2.1,
              (y4.getD (IntKind.i64.wrap (IntKind.i64.wrap (IntKind.i64.wrap (2 * y1) + 1) + 1)).toNat
                      (dflt t_impl_eventKey)).2.2.1,
              (y4.getD (IntKind.i64.wrap (IntKind.i64.wrap (IntKind.i64.wrap (2 * y1) + 1) + 1)).toNat
                        (dflt t_impl_eventKey)).2.2.2.1,
              (y4.getD (IntKind.i64.wrap (IntKind.i64.wrap (IntKind.i64.wrap (2 * y1) + 1) + 1)).toNat
                          (dflt t_impl_eventKey)).2.2.2.2.1,
              (y4.getD (IntKind.i64.wrap (IntKind.i64.wrap (IntKind.i64.wrap (2 * y1) + 1) + 1)).toNat
                            (dflt t_impl_eventKey)).2.2.2.2.2.1,
              (y4.getD (IntKind.i64.wrap (IntKind.i64.wrap (IntKind.i64.wrap (2 * y1) + 1) + 1)).toNat
                            (dflt t_impl_eventKey)).2.2.2.2.2.2)).length :
      Int))) (
                              cond (decide
  ((IntKind.i64.wrap (IntKind.i64.wrap (IntKind.i64.wrap (2 * y1) + 1) + 1)).toNat <
    (y4.set y1.toNat
        ((y4.getD (IntKind.i64.wrap (IntKind.i64.wrap (IntKind.i64.wrap (2 * y1) + 1) + 1)).toNat (dflt t_impl_eventKey)).1,
          (y4.getD (IntKind.i64.wrap (IntKind.i64.wrap (IntKind.i64.wrap (2 * y1) + 1) + 1)).toNat (dflt t_impl_eventKey)).2.1,
          (y4.getD (IntKind.i64.wrap (IntKind.i64.wrap (IntKind.i64.wrap (2 * y1) + 1) + 1)).toNat
                  (dflt t_impl_eventKey)).2.2.1,
          (y4.getD (IntKind.i64.wrap (IntKind.i64.wrap (IntKind.i64.wrap (2 * y1) + 1) + 1)).toNat
                    (dflt t_impl_eventKey)).2.2.2.1,
          (y4.getD (IntKind.i64.wrap (IntKind.i64.wrap (IntKind.i64.wrap (2 * y1) + 1) + 1)).toNat
                      (dflt t_impl_eventKey)).2.2.2.2.1,
          (y4.getD (IntKind.i64.wrap (IntKind.i64.wrap (IntKind.i64.wrap (2 * y1) + 1) + 1)).toNat
                        (dflt t_impl_eventKey)).2.2.2.2.2.1,
          (y4.getD (IntKind.i64.wrap (IntKind.i64.wrap (IntKind.i64.wrap (2 * y1) + 1) + 1)).toNat
                        (dflt t_impl_eventKey)).2.2.2.2.2.2)).length)) (impl_heap_impl_eventKey_pop_h0_6 k j y0 (IntKind.i64.wrap (IntKind.i64.wrap (IntKind.i64.wrap (2 * y1) + 1) + 1)) y2 y3 ((y4.set y1.toNat
      ((y4.getD (IntKind.i64.wrap (IntKind.i64.wrap (IntKind.i64.wrap (2 * y1) + 1) + 1)).toNat (dflt t_impl_eventKey)).1,
        (y4.getD (IntKind.i64.wrap (IntKind.i64.wrap (IntKind.i64.wrap (2 * y1) + 1) + 1)).toNat (dflt t_impl_eventKey)).2.1,
        (y4.getD (IntKind.i64.wrap (IntKind.i64.wrap (IntKind.i64.wrap (2 * y1) + 1) + 1)).toNat
                (dflt t_impl_eventKey)).2.2.1,
        (y4.getD (IntKind.i64.wrap (IntKind.i64.wrap (IntKind.i64.wrap (2 * y1) + 1) + 1)).toNat
                  (dflt t_impl_eventKey)).2.2.2.1,
        (y4.getD (IntKind.i64.wrap (IntKind.i64.wrap (IntKind.i64.wrap (2 * y1) + 1) + 1)).toNat
                    (dflt t_impl_eventKey)).2.2.2.2.1,
        (y4.getD (IntKind.i64.wrap (IntKind.i64.wrap (IntKind.i64.wrap (2 * y1) + 1) + 1)).toNat
                      (dflt t_impl_eventKey)).2.2.2.2.2.1,
        (y4.getD (IntKind.i64.wrap (IntKind.i64.wrap (IntKind.i64.wrap (2 * y1) + 1) + 1)).toNat
                      (dflt t_impl_eventKey)).2.2.2.2.2.2)).set
  (IntKind.i64.wrap (IntKind.i64.wrap (IntKind.i64.wrap (2 * y1) + 1) + 1)).toNat
  ((y4.getD y1.toNat (dflt t_impl_eventKey)).1, (y4.getD y1.toNat (dflt t_impl_eventKey)).2.1, (y4.getD y1.toNat (dflt t_impl_eventKey)).2.2.1,
    (y4.getD y1.toNat (dflt t_impl_eventKey)).2.2.2.1, (y4.getD y1.toNat (dflt t_impl_eventKey)).2.2.2.2.1,
    (y4.getD y1.toNat (dflt t_impl_eventKey)).2.2.2.2.2.1, (y4.getD y1.toNat (dflt t_impl_eventKey)).2.2.2.2.2.2))) (none)) (none)) (none)) (none)) (none)) (none)) (none)) (none)) (none)) (none)) (none)) (none))) (none)) (none)) (none)) (none)) (none)) (none)) (
           cond (decide (0 ≤ IntKind.i64.wrap (IntKind.i64.wrap (2 * y1) + 1))) (
            cond (decide (IntKind.i64.wrap (IntKind.i64.wrap (2 * y1) + 1) < (↑y4.length : Int))) (
             cond (decide ((IntKind.i64.wrap (IntKind.i64.wrap (2 * y1) + 1)).toNat < y4.length)) (
              cond (decide (0 ≤ y1)) (
               cond (decide (y1 < (↑y4.length : Int))) (
                cond (decide (y1.toNat < y4.length)) (
                 (impl_keyLess k (y4.getD (IntKind.i64.wrap (IntKind.i64.wrap (2 * y1) + 1)).toNat (dflt t_impl_eventKey)) (y4.getD y1.toNat (dflt t_impl_eventKey))).bind fun x2 => 
                  cond (!x2) (some (((y3.1, y3.2.1, y3.2.2.1, y3.2.2.2.1, y3.2.2.2.2.1, y3.2.2.2.2.2.1,
    y3.2.2.2.2.2.2),
  (y4, (), ()), ()))) (
                   cond (decide (0 ≤ IntKind.i64.wrap (IntKind.i64.wrap (2 * y1) + 1))) (
                    cond (decide (IntKind.i64.wrap (IntKind.i64.wrap (2 * y1) + 1) < (↑y4.length : Int))) (
                     cond (decide ((IntKind.i64.wrap (IntKind.i64.wrap (2 * y1) + 1)).toNat < y4.length)) (
                      cond (decide (0 ≤ y1)) (
                       cond (decide (y1 < (↑y4.length : Int))) (
                        cond (decide (y1.toNat < y4.length)) (
                         cond (decide (0 ≤ y1)) (
                          cond (decide (y1 < (↑y4.length : Int))) (
                           cond (decide (y1.toNat < y4.length)) (
                            cond (decide (0 ≤ IntKind.i64.wrap (IntKind.i64.wrap (2 * y1) + 1))) (
                             cond (decide
  (IntKind.i64.wrap (IntKind.i64.wrap (2 * y1) + 1) <
    (↑(y4.set y1.toNat
            ((y4.getD (IntKind.i64.wrap (IntKind.i64.wrap (2 * y1) + 1)).toNat (dflt t_impl_eventKey)).1,
              (y4.getD (IntKind.i64.wrap (IntKind.i64.wrap (2 * y1) + 1)).toNat (dflt t_impl_eventKey)).2.1,
              (y4.getD (IntKind.i64.wrap (IntKind.i64.wrap (2 * y1) + 1)).toNat (dflt t_impl_eventKey)).2.2.1,
              (y4.getD (IntKind.i64.wrap (IntKind.i64.wrap (2 * y1) + 1)).toNat (dflt t_impl_eventKey)).2.2.2.1,
              (y4.getD (IntKind.i64.wrap (IntKind.i64.wrap (2 * y1) + 1)).toNat (dflt t_impl_eventKey)).2.2.2.2.1,
              (y4.getD (IntKind.i64.wrap (IntKind.i64.wrap (2 * y1) + 1)).toNat (dflt t_impl_eventKey)).2.2.2.2.2.1,
              (y4.getD (IntKind.i64.wrap (IntKind.i64.wrap (2 * y1) + 1)).toNat
                            (dflt t_impl_eventKey)).2.2.2.2.2.2)).length :
      Int))) (
                              cond (decide
  ((IntKind.i64.wrap (IntKind.i64.wrap (2 * y1) + 1)).toNat <
    (y4.set y1.toNat
        ((y4.getD (IntKind.i64.wrap (IntKind.i64.wrap (2 * y1) + 1)).toNat (dflt t_impl_eventKey)).1,
          (y4.getD (IntKind.i64.wrap (IntKind.i64.wrap (2 * y1) + 1)).toNat (dflt t_impl_eventKey)).2.1,
          (y4.getD (IntKind.i64.wrap (IntKind.i64.wrap (2 * y1) + 1)).toNat (dflt t_impl_eventKey)).2.2.1,
          (y4.getD (IntKind.i64.wrap (IntKind.i64.wrap (2 * y1) + 1)).toNat (dflt t_impl_eventKey)).2.2.2.1,
          (y4.getD (IntKind.i64.wrap (IntKind.i64.wrap (2 * y1) + 1)).toNat (dflt t_impl_eventKey)).2.2.2.2.1,
          (y4.getD (IntKind.i64.wrap (IntKind.i64.wrap (2 * y1) + 1)).toNat (dflt t_impl_eventKey)).2.2.2.2.2.1,
          (y4.getD (IntKind.i64.wrap (IntKind.i64.wrap (2 * y1) + 1)).toNat
                        (dflt t_impl_eventKey)).2.2.2.2.2.2)).length)) (impl_heap_impl_eventKey_pop_h0_6 k j y0 (IntKind.i64.wrap (IntKind.i64.wrap (2 * y1) + 1)) y2 y3 ((y4.set y1.toNat
      ((y4.getD (IntKind.i64.wrap (IntKind.i64.wrap (2 * y1) + 1)).toNat (dflt t_impl_eventKey)).1,
        (y4.getD (IntKind.i64.wrap (IntKind.i64.wrap (2 * y1) + 1)).toNat (dflt t_impl_eventKey)).2.1,
        (y4.getD (IntKind.i64.wrap (IntKind.i64.wrap (2 * y1) + 1)).toNat (dflt t_impl_eventKey)).2.2.1,
        (y4.getD (IntKind.i64.wrap (IntKind.i64.wrap (2 * y1) + 1)).toNat (dflt t_impl_eventKey)).2.2.2.1,
        (y4.getD (IntKind.i64.wrap (IntKind.i64.wrap (2 * y1) + 1)).toNat (dflt t_impl_eventKey)).2.2.2.2.1,
        (y4.getD (IntKind.i64.wrap (IntKind.i64.wrap (2 * y1) + 1)).toNat (dflt t_impl_eventKey)).2.2.2.2.2.1,
        (y4.getD (IntKind.i64.wrap (IntKind.i64.wrap (2 * y1) + 1)).toNat (dflt t_impl_eventKey)).2.2.2.2.2.2)).set
  (IntKind.i64.wrap (IntKind.i64.wrap (2 * y1) + 1)).toNat
  ((y4.getD y1.toNat (dflt t_impl_eventKey)).1, (y4.getD y1.toNat (dflt t_impl_eventKey)).2.1, (y4.getD y1.toNat (dflt t_impl_eventKey)).2.2.1,
    (y4.getD y1.toNat (dflt t_impl_eventKey)).2.2.2.1, (y4.getD y1.toNat (dflt t_impl_eventKey)).2.2.2.2.1,
    (y4.getD y1.toNat (dflt t_impl_eventKey)).2.2.2.2.2.1, (y4.getD y1.toNat (dflt t_impl_eventKey)).2.2.2.2.2.2))) (none)) (none)) (none)) (none)) (none)) (none)) (none)) (none)) (none)) (none)) (none)) (none))) (none)) (none)) (none)) (none)) (none)) (none))) (none)) (none)) (none)) (none)) (none)) (none)) (
   cond (decide (0 ≤ IntKind.i64.wrap (IntKind.i64.wrap (2 * y1) + 1))) (
    cond (decide (IntKind.i64.wrap (IntKind.i64.wrap (2 * y1) + 1) < (↑y4.length : Int))) (
     cond (decide ((IntKind.i64.wrap (IntKind.i64.wrap (2 * y1) + 1)).toNat < y4.length)) (
      cond (decide (0 ≤ y1)) (
       cond (decide (y1 < (↑y4.length : Int))) (
        cond (decide (y1.toNat < y4.length)) (
         (impl_keyLess k (y4.getD (IntKind.i64.wrap (IntKind.i64.wrap (2 * y1) + 1)).toNat (dflt t_impl_eventKey)) (y4.getD y1.toNat (dflt t_impl_eventKey))).bind fun x3 => 
          cond (!x3) (some (((y3.1, y3.2.1, y3.2.2.1, y3.2.2.2.1, y3.2.2.2.2.1, y3.2.2.2.2.2.1,
    y3.2.2.2.2.2.2),
  (y4, (), ()), ()))) (
           cond (decide (0 ≤ IntKind.i64.wrap (IntKind.i64.wrap (2 * y1) + 1))) (
            cond (decide (IntKind.i64.wrap (IntKind.i64.wrap (2 * y1) + 1) < (↑y4.length : Int))) (
             cond (decide ((IntKind.i64.wrap (IntKind.i64.wrap (2 * y1) + 1)).toNat < y4.length)) (
              cond (decide (0 ≤ y1)) (
               cond (decide (y1 < (↑y4.length : Int))) (
                cond (decide (y1.toNat < y4.length)) (
                 cond (decide (0 ≤ y1)) (
                  cond (decide (y1 < (↑y4.length : Int))) (
                   cond (decide (y1.toNat < y4.length)) (
                    cond (decide (0 ≤ IntKind.i64.wrap (IntKind.i64.wrap (2 * y1) + 1))) (
                     cond (decide
  (IntKind.i64.wrap (IntKind.i64.wrap (2 * y1) + 1) <
    (↑(y4.set y1.toNat
            ((y4.getD (IntKind.i64.wrap (IntKind.i64.wrap (2 * y1) + 1)).toNat (dflt t_impl_eventKey)).1,
              (y4.getD (IntKind.i64.wrap (IntKind.i64.wrap (2 * y1) + 1)).toNat (dflt t_impl_eventKey)).2.1,
              (y4.getD (IntKind.i64.wrap (IntKind.i64.wrap (2 * y1) + 1)).toNat (dflt t_impl_eventKey)).2.2.1,
              (y4.getD (IntKind.i64.wrap (IntKind.i64.wrap (2 * y1) + 1)).toNat (dflt t_impl_eventKey)).2.2.2.1,
              (y4.getD (IntKind.i64.wrap (IntKind.i64.wrap (2 * y1) + 1)).toNat (dflt t_impl_eventKey)).2.2.2.2.1,
              (y4.getD (IntKind.i64.wrap (IntKind.i64.wrap (2 * y1) + 1)).toNat (dflt t_impl_eventKey)).2.2.2.2.2.1,
              (y4.getD (IntKind.i64.wrap (IntKind.i64.wrap (2 * y1) + 1)).toNat
                            (dflt t_impl_eventKey)).2.2.2.2.2.2)).length :
      Int))) (
                      cond (decide
  ((IntKind.i64.wrap (IntKind.i64.wrap (2 * y1) + 1)).toNat <
    (y4.set y1.toNat
        ((y4.getD (IntKind.i64.wrap (IntKind.i64.wrap (2 * y1) + 1)).toNat (dflt t_impl_eventKey)).1,
          (y4.getD (IntKind.i64.wrap (IntKind.i64.wrap (2 * y1) + 1)).toNat (dflt t_impl_eventKey)).2.1,
          (y4.getD (IntKind.i64.wrap (IntKind.i64.wrap (2 * y1) + 1)).toNat (dflt t_impl_eventKey)).2.2.1,
          (y4.getD (IntKind.i64.wrap (IntKind.i64.wrap (2 * y1) + 1)).toNat (dflt t_impl_eventKey)).2.2.2.1,
          (y4.getD (IntKind.i64.wrap (IntKind.i64.wrap (2 * y1) + 1)).toNat (dflt t_impl_eventKey)).2.2.2.2.1,
          (y4.getD (IntKind.i64.wrap (IntKind.i64.wrap (2 * y1) + 1)).toNat (dflt t_impl_eventKey)).2.2.2.2.2.1,
          (y4.getD (IntKind.i64.wrap (IntKind.i64.wrap (2 * y1) + 1)).toNat
                        (dflt t_impl_eventKey)).2.2.2.2.2.2)).length)) (impl_heap_impl_eventKey_pop_h0_6 k j y0 (IntKind.i64.wrap (IntKind.i64.wrap (2 * y1) + 1)) y2 y3 ((y4.set y1.toNat
      ((y4.getD (IntKind.i64.wrap (IntKind.i64.wrap (2 * y1) + 1)).toNat (dflt t_impl_eventKey)).1,
        (y4.getD (IntKind.i64.wrap (IntKind.i64.wrap (2 * y1) + 1)).toNat (dflt t_impl_eventKey)).2.1,
        (y4.getD (IntKind.i64.wrap (IntKind.i64.wrap (2 * y1) + 1)).toNat (dflt t_impl_eventKey)).2.2.1,
        (y4.getD (IntKind.i64.wrap (IntKind.i64.wrap (2 * y1) + 1)).toNat (dflt t_impl_eventKey)).2.2.2.1,
        (y4.getD (IntKind.i64.wrap (IntKind.i64.wrap (2 * y1) + 1)).toNat (dflt t_impl_eventKey)).2.2.2.2.1,
        (y4.getD (IntKind.i64.wrap (IntKind.i64.wrap (2 * y1) + 1)).toNat (dflt t_impl_eventKey)).2.2.2.2.2.1,
        (y4.getD (IntKind.i64.wrap (IntKind.i64.wrap (2 * y1) + 1)).toNat (dflt t_impl_eventKey)).2.2.2.2.2.2)).set
  (IntKind.i64.wrap (IntKind.i64.wrap (2 * y1) + 1)).toNat
  ((y4.getD y1.toNat (dflt t_impl_eventKey)).1, (y4.getD y1.toNat (dflt t_impl_eventKey)).2.1, (y4.getD y1.toNat (dflt t_impl_eventKey)).2.2.1,
    (y4.getD y1.toNat (dflt t_impl_eventKey)).2.2.2.1, (y4.getD y1.toNat (dflt t_impl_eventKey)).2.2.2.2.1,
    (y4.getD y1.toNat (dflt t_impl_eventKey)).2.2.2.2.2.1, (y4.getD y1.toNat (dflt t_impl_eventKey)).2.2.2.2.2.2))) (none)) (none)) (none)) (none)) (none)) (none)) (none)) (none)) (none)) (none)) (none)) (none))) (none)) (none)) (none)) (none)) (none)) (none))) := by kernel_rfl

noncomputable def impl_heap_impl_eventKey_drain_h0 (k : Nat) (y0 : List V_impl_eventKey) : Option ((List V_impl_eventKey × ((List V_impl_eventKey × (Unit × Unit)) × Unit))) := evalT E k 47 (.pair (.ow 79 t_impl_eventKey) (.pair (.pair (.ow 79 t_impl_eventKey) (.pair (.fnc 44) .unit)) .unit)) [.c (.p 0 0)] [some (.box 76 [.o 1, .fn 44 []]), some (.own 79 t_impl_eventKey y0)]
noncomputable def impl_heap_impl_eventKey_drain_h0_2 (k : Nat) (j : Nat) (y0 : List V_impl_eventKey) (y1 : List V_impl_eventKey) : Option ((List V_impl_eventKey × ((List V_impl_eventKey × (Unit × Unit)) × Unit))) := loopAt E 47 (.pair (.ow 79 t_impl_eventKey) (.pair (.pair (.ow 79 t_impl_eventKey) (.pair (.fnc 44) .unit)) .unit)) [true, true, false, false] [some (.box 76 [.undef, .undef]), none] [] k [] j (mkS 22 [(0, .c (.p 0 0)), (3, .c (.o 1))]) [some (.box 76 [.o 2, .fn 44 []]), some (.own 79 t_impl_eventKey y0), some (.own 79 t_impl_eventKey y1)]
theorem impl_heap_impl_eventKey_drain_h0_eq (k : Nat) (y0 : List V_impl_eventKey) : impl_heap_impl_eventKey_drain_h0 (k + 1) y0 = 
 cond (decide ((↑y0.length : Int).toNat * 56 ≤ 140737488351232)) (impl_heap_impl_eventKey_drain_h0_2 k k (List.replicate (Int.toNat 0) (dflt t_impl_eventKey)) y0) (none) := by kernel_rfl
theorem impl_heap_impl_eventKey_drain_h0_2_eq (k : Nat) (j : Nat) (y0 : List V_impl_eventKey) (y1 : List V_impl_eventKey) : impl_heap_impl_eventKey_drain_h0_2 k (j + 1) y0 y1 = 
 cond (decide ((↑y1.length : Int) > 0)) (
  (impl_heap_impl_eventKey_pop_h0 k y1).bind fun x0 => 
   cond (decide
  ((y0.length +
        [(x0.1.1, x0.1.2.1, x0.1.2.2.1, x0.1.2.2.2.1, x0.1.2.2.2.2.1,
              x0.1.2.2.2.2.2.1, x0.1.2.2.2.2.2.2)].length) *
      56 ≤
    140737488351232)) (impl_heap_impl_eventKey_drain_h0_2 k j (y0 ++
  [(x0.1.1, x0.1.2.1, x0.1.2.2.1, x0.1.2.2.2.1, x0.1.2.2.2.2.1,
      x0.1.2.2.2.2.2.1, x0.1.2.2.2.2.2.2)]) x0.2.1.1) (none)) (some ((y0, (y1, (), ()), ()))) := by kernel_rfl

noncomputable def impl_eventKey_event (k : Nat) (a0 : V_impl_eventKey) : Option ((V_int × (V_int × (V_int × (V_int × (V_int × (V_int × V_int))))))) := evalT E k 48 (.pair t_int (.pair t_int (.pair t_int (.pair t_int (.pair t_int (.pair t_int t_int)))))) [inp t_impl_eventKey a0] []
theorem impl_eventKey_event_eq (k : Nat) (a0 : V_impl_eventKey) : impl_eventKey_event (k + 1) a0 = some (a0.1, a0.2.1, a0.2.2.1, a0.2.2.2.1, a0.2.2.2.2.1, a0.2.2.2.2.2.1,
  a0.2.2.2.2.2.2) := by kernel_rfl

noncomputable def impl_EventSort (k : Nat) (a0 : V_sl_impl_Event) : Option (List V_impl_Event) := evalT E k 18 (.ow 70 t_impl_Event) [inp t_sl_impl_Event a0] []
noncomputable def impl_EventSort_4 (k : Nat) (j : Nat) (y0 : List V_impl_Event) (y1 : Int) (y2 : Int) (y3 : List (List Int × Int)) (y4 : List V_impl_eventKey) : Option (List V_impl_Event) := loopAt E 18 (.ow 70 t_impl_Event) [true, true, true, false, true, false] [] [] k [] j (mkS 51 [(3, .c (.p 0 0)), (4, .c (.o 1)), (13, .c (.sl 70 t_impl_Event y0)), (14, .c (.int .i64 y1)), (15, .c (.int .i64 y2))]) [some (.box 76 [.o 2, .fn 44 []]), some (.mp 77 7 y3), some (.own 79 t_impl_eventKey y4)]
noncomputable def impl_EventSort_13 (k : Nat) (j : Nat) (y0 : Int) (y1 : Int) (y2 : List V_impl_Event) (y3 : List V_impl_eventKey) : Option (List V_impl_Event) := loopAt E 18 (.ow 70 t_impl_Event) [true, true, true, true, true, false, true, false] [] [] k [] j (mkS 51 [(8, .c (.o 0)), (38, .c (.o 1)), (39, .c (.int .i64 y0)), (40, .c (.int .i64 y1))]) [some (.own 70 t_impl_Event y2), some (.own 79 t_impl_eventKey y3)]
theorem impl_EventSort_eq (k : Nat) (a0 : V_sl_impl_Event) : impl_EventSort (k + 1) a0 = impl_EventSort_4 k k a0 ((↑(List.length a0) : Int)) 0 [] [] := by kernel_rfl
theorem impl_EventSort_4_eq (k : Nat) (j : Nat) (y0 : List V_impl_Event) (y1 : Int) (y2 : Int) (y3 : List (List Int × Int)) (y4 : List V_impl_eventKey) : impl_EventSort_4 k (j + 1) y0 y1 y2 y3 y4 = 
 cond (decide (y2 < y1)) (
  cond (decide (0 ≤ y2)) (
   cond (decide (y2 < (↑y0.length : Int))) (
    (impl_keyOf k (y0.getD y2.toNat (dflt t_impl_Event))).bind fun x0 => 
     cond ((Lit.int IntKind.i64 x0.1).wf) (
      cond ((Lit.int IntKind.i64 x0.2.1).wf) (
       cond ((Lit.int IntKind.i64 x0.2.2.1).wf) (
        cond ((Lit.int IntKind.i64 x0.2.2.2.1).wf) (
         cond ((Lit.int IntKind.i64 x0.2.2.2.2.1).wf) (
          cond ((Lit.int IntKind.i64 x0.2.2.2.2.2.1).wf) (
           cond ((Lit.int IntKind.i64 x0.2.2.2.2.2.2).wf) (
            cond ((Lit.int IntKind.i64 x0.1).wf) (
             cond ((Lit.int IntKind.i64 x0.2.1).wf) (
              cond ((Lit.int IntKind.i64 x0.2.2.1).wf) (
               cond ((Lit.int IntKind.i64 x0.2.2.2.1).wf) (
                cond ((Lit.int IntKind.i64 x0.2.2.2.2.1).wf) (
                 cond ((Lit.int IntKind.i64 x0.2.2.2.2.2.1).wf) (
                  cond ((Lit.int IntKind.i64 x0.2.2.2.2.2.2).wf) (
                   cond (decide
  ((↑(mix y3
            [x0.1, x0.2.1, x0.2.2.1, x0.2.2.2.1, x0.2.2.2.2.1, x0.2.2.2.2.2.1,
              x0.2.2.2.2.2.2]) :
        Int).toNat <
    (madd y3
        [x0.1, x0.2.1, x0.2.2.1, x0.2.2.2.1, x0.2.2.2.2.1, x0.2.2.2.2.2.1,
          x0.2.2.2.2.2.2]).length)) (
                    cond ((Lit.int IntKind.i64 x0.1).wf) (
                     cond ((Lit.int IntKind.i64 x0.2.1).wf) (
                      cond ((Lit.int IntKind.i64 x0.2.2.1).wf) (
                       cond ((Lit.int IntKind.i64 x0.2.2.2.1).wf) (
                        cond ((Lit.int IntKind.i64 x0.2.2.2.2.1).wf) (
                         cond ((Lit.int IntKind.i64 x0.2.2.2.2.2.1).wf) (
                          cond ((Lit.int IntKind.i64 x0.2.2.2.2.2.2).wf) (
                           cond (mval
    (mput
      (madd y3
        [x0.1, x0.2.1, x0.2.2.1, x0.2.2.2.1, x0.2.2.2.2.1, x0.2.2.2.2.2.1,
          x0.2.2.2.2.2.2])
      (↑(mix y3
              [x0.1, x0.2.1, x0.2.2.1, x0.2.2.2.1, x0.2.2.2.2.1,
                x0.2.2.2.2.2.1, x0.2.2.2.2.2.2]) :
          Int).toNat
      (IntKind.i64.wrap
        (mval y3
            [x0.1, x0.2.1, x0.2.2.1, x0.2.2.2.1, x0.2.2.2.2.1, x0.2.2.2.2.2.1,
              x0.2.2.2.2.2.2] +
          1)))
    [x0.1, x0.2.1, x0.2.2.1, x0.2.2.2.1, x0.2.2.2.2.1, x0.2.2.2.2.2.1,
      x0.2.2.2.2.2.2] ==
  1) (
                            (impl_heap_impl_eventKey_push_h0 k x0 y4).bind fun x1 => impl_EventSort_4 k j y0 y1 (IntKind.i64.wrap (y2 + 1)) (mput
  (madd y3
    [x0.1, x0.2.1, x0.2.2.1, x0.2.2.2.1, x0.2.2.2.2.1, x0.2.2.2.2.2.1,
      x0.2.2.2.2.2.2])
  (↑(mix y3
          [x0.1, x0.2.1, x0.2.2.1, x0.2.2.2.1, x0.2.2.2.2.1, x0.2.2.2.2.2.1,
            x0.2.2.2.2.2.2]) :
      Int).toNat
  (IntKind.i64.wrap
    (mval y3
        [x0.1, x0.2.1, x0.2.2.1, x0.2.2.2.1, x0.2.2.2.2.1, x0.2.2.2.2.2.1,
          x0.2.2.2.2.2.2] +
      1))) x1.2.1.1) (impl_EventSort_4 k j y0 y1 (IntKind.i64.wrap (y2 + 1)) (mput
  (madd y3
    [x0.1, x0.2.1, x0.2.2.1, x0.2.2.2.1, x0.2.2.2.2.1, x0.2.2.2.2.2.1,
      x0.2.2.2.2.2.2])
  (↑(mix y3
          [x0.1, x0.2.1, x0.2.2.1, x0.2.2.2.1, x0.2.2.2.2.1, x0.2.2.2.2.2.1,
            x0.2.2.2.2.2.2]) :
      Int).toNat
  (IntKind.i64.wrap
    (mval y3
        [x0.1, x0.2.1, x0.2.2.1, x0.2.2.2.1, x0.2.2.2.2.1, x0.2.2.2.2.2.1,
          x0.2.2.2.2.2.2] +
      1))) y4)) (none)) (none)) (none)) (none)) (none)) (none)) (none)) (none)) (none)) (none)) (none)) (none)) (none)) (none)) (none)) (none)) (none)) (none)) (none)) (none)) (none)) (none)) (none)) (none)) (
  cond (decide ((↑y4.length : Int).toNat * 56 ≤ 140737488351232)) (
   (impl_heap_impl_eventKey_drain_h0 k y4).bind fun x2 => impl_EventSort_13 k k ((↑(List.length x2.1) : Int)) 0 (List.replicate (Int.toNat 0) (dflt t_impl_Event)) x2.1) (none)) := by kernel_rfl
theorem impl_EventSort_13_eq (k : Nat) (j : Nat) (y0 : Int) (y1 : Int) (y2 : List V_impl_Event) (y3 : List V_impl_eventKey) : impl_EventSort_13 k (j + 1) y0 y1 y2 y3 = 
 cond (decide (y1 < y0)) (
  cond (decide (0 ≤ y1)) (
   cond (decide (y1 < (↑y3.length : Int))) (
    cond (decide (y1.toNat < y3.length)) (
     (impl_eventKey_event k (y3.getD y1.toNat (dflt t_impl_eventKey))).bind fun x0 => 
      cond (decide
  ((y2.length +
        [(x0.1, x0.2.1, x0.2.2.1, x0.2.2.2.1, x0.2.2.2.2.1, x0.2.2.2.2.2.1,
              x0.2.2.2.2.2.2)].length) *
      56 ≤
    140737488351232)) (impl_EventSort_13 k j y0 (IntKind.i64.wrap (y1 + 1)) (y2 ++
  [(x0.1, x0.2.1, x0.2.2.1, x0.2.2.2.1, x0.2.2.2.2.1, x0.2.2.2.2.2.1,
      x0.2.2.2.2.2.2)]) y3) (none)) (none)) (none)) (none)) (some y2) := by kernel_rfl

noncomputable def impl_firstEvents (k : Nat) : Option (List V_impl_Event) := evalT E k 67 (.ow 70 t_impl_Event) [] []
noncomputable def impl_firstEvents_3 (k : Nat) (j : Nat) (y0 : Int) (y1 : List V_impl_Event) : Option (List V_impl_Event) := loopAt E 67 (.ow 70 t_impl_Event) [true, true, false, true, false] [] [] k [] j (mkS 14 [(1, .c (.o 0)), (3, .c (.int .i64 y0))]) [some (.own 70 t_impl_Event y1)]
theorem impl_firstEvents_eq (k : Nat) : impl_firstEvents (k + 1) = impl_firstEvents_3 k k 0 [] := by kernel_rfl
theorem impl_firstEvents_3_eq (k : Nat) (j : Nat) (y0 : Int) (y1 : List V_impl_Event) : impl_firstEvents_3 k (j + 1) y0 y1 = 
 cond (decide (y0 < 4)) (
  (impl_AppFirst k y0).bind fun x0 => 
   cond (decide
  ((y1.length +
        [(x0.1, x0.2.1, x0.2.2.1, x0.2.2.2.1, x0.2.2.2.2.1, x0.2.2.2.2.2.1,
              x0.2.2.2.2.2.2)].length) *
      56 ≤
    140737488351232)) (impl_firstEvents_3 k j (IntKind.i64.wrap (y0 + 1)) (y1 ++
  [(x0.1, x0.2.1, x0.2.2.1, x0.2.2.2.1, x0.2.2.2.2.1, x0.2.2.2.2.2.1,
      x0.2.2.2.2.2.2)])) (none)) (
  (impl_EventSort k y1).bind fun x1 => some x1) := by kernel_rfl

noncomputable def impl_SimStart (k : Nat) : Option ((List V_impl_State × (List V_impl_Event × List V_impl_Out))) := evalT E k 33 (.pair (.ow 105 t_impl_State) (.pair (.ow 70 t_impl_Event) (.ow 61 t_impl_Out))) [] []
theorem impl_SimStart_eq (k : Nat) : impl_SimStart (k + 1) = 
 (impl_firstEvents k ).bind fun x0 => some ((List.replicate (Int.toNat 4) (dflt t_impl_State), x0, [])) := by kernel_rfl

noncomputable def laws_eqState (k : Nat) (a0 : V_impl_State) (a1 : V_impl_State) : Option V_bool := evalT E k 87 t_bool [inp t_impl_State a0, inp t_impl_State a1] []
theorem laws_eqState_eq (k : Nat) (a0 : V_impl_State) (a1 : V_impl_State) : laws_eqState (k + 1) a0 a1 = 
 cond (a0.1 != a1.1) (some false) (
  cond (a0.2.1 != a1.2.1) (some false) (
   cond (a0.2.2 != a1.2.2) (some false) (some true))) := by kernel_rfl

noncomputable def laws_eqStateS (k : Nat) (a0 : V_sl_impl_State) (a1 : V_sl_impl_State) : Option V_bool := evalT E k 65 t_bool [inp t_sl_impl_State a0, inp t_sl_impl_State a1] []
noncomputable def laws_eqStateS_4 (k : Nat) (j : Nat) (y0 : List V_impl_State) (y1 : List V_impl_State) (y2 : Int) : Option V_bool := loopAt E 65 t_bool [true, true, false, true, false] [] [] k [] j (mkS 27 [(0, .c (.sl 105 t_impl_State y0)), (1, .c (.sl 105 t_impl_State y1)), (5, .c (.int .i64 y2))]) []
theorem laws_eqStateS_eq (k : Nat) (a0 : V_sl_impl_State) (a1 : V_sl_impl_State) : laws_eqStateS (k + 1) a0 a1 = 
 cond ((↑(List.length a0) : Int) != (↑(List.length a1) : Int)) (some false) (laws_eqStateS_4 k k a0 a1 0) := by kernel_rfl
theorem laws_eqStateS_4_eq (k : Nat) (j : Nat) (y0 : List V_impl_State) (y1 : List V_impl_State) (y2 : Int) : laws_eqStateS_4 k (j + 1) y0 y1 y2 = 
 cond (decide (y2 < (↑y0.length : Int))) (
  cond (decide (0 ≤ y2)) (
   cond (decide (y2 < (↑y0.length : Int))) (
    cond (decide (0 ≤ y2)) (
     cond (decide (y2 < (↑y1.length : Int))) (
      (laws_eqState k (y0.getD y2.toNat (dflt t_impl_State)) (y1.getD y2.toNat (dflt t_impl_State))).bind fun x0 => 
       cond (!x0) (some false) (laws_eqStateS_4 k j y0 y1 (IntKind.i64.wrap (y2 + 1)))) (none)) (none)) (none)) (none)) (some true) := by kernel_rfl

noncomputable def laws_eqEvent (k : Nat) (a0 : V_impl_Event) (a1 : V_impl_Event) : Option V_bool := evalT E k 49 t_bool [inp t_impl_Event a0, inp t_impl_Event a1] []
theorem laws_eqEvent_eq (k : Nat) (a0 : V_impl_Event) (a1 : V_impl_Event) : laws_eqEvent (k + 1) a0 a1 = 
 cond (a0.1 != a1.1) (some false) (
  cond (a0.2.1 != a1.2.1) (some false) (
   cond (a0.2.2.1 != a1.2.2.1) (some false) (
    cond (a0.2.2.2.1 != a1.2.2.2.1) (some false) (
     cond (a0.2.2.2.2.1 != a1.2.2.2.2.1) (some false) (
      cond (a0.2.2.2.2.2.1 != a1.2.2.2.2.2.1) (some false) (
       cond (a0.2.2.2.2.2.2 != a1.2.2.2.2.2.2) (some false) (some true))))))) := by kernel_rfl

noncomputable def laws_eqEventS (k : Nat) (a0 : V_sl_impl_Event) (a1 : V_sl_impl_Event) : Option V_bool := evalT E k 19 t_bool [inp t_sl_impl_Event a0, inp t_sl_impl_Event a1] []
noncomputable def laws_eqEventS_4 (k : Nat) (j : Nat) (y0 : List V_impl_Event) (y1 : List V_impl_Event) (y2 : Int) : Option V_bool := loopAt E 19 t_bool [true, true, false, true, false] [] [] k [] j (mkS 27 [(0, .c (.sl 70 t_impl_Event y0)), (1, .c (.sl 70 t_impl_Event y1)), (5, .c (.int .i64 y2))]) []
theorem laws_eqEventS_eq (k : Nat) (a0 : V_sl_impl_Event) (a1 : V_sl_impl_Event) : laws_eqEventS (k + 1) a0 a1 = 
 cond ((↑(List.length a0) : Int) != (↑(List.length a1) : Int)) (some false) (laws_eqEventS_4 k k a0 a1 0) := by kernel_rfl
theorem laws_eqEventS_4_eq (k : Nat) (j : Nat) (y0 : List V_impl_Event) (y1 : List V_impl_Event) (y2 : Int) : laws_eqEventS_4 k (j + 1) y0 y1 y2 = 
 cond (decide (y2 < (↑y0.length : Int))) (
  cond (decide (0 ≤ y2)) (
   cond (decide (y2 < (↑y0.length : Int))) (
    cond (decide (0 ≤ y2)) (
     cond (decide (y2 < (↑y1.length : Int))) (
      (laws_eqEvent k (y0.getD y2.toNat (dflt t_impl_Event)) (y1.getD y2.toNat (dflt t_impl_Event))).bind fun x0 => 
       cond (!x0) (some false) (laws_eqEventS_4 k j y0 y1 (IntKind.i64.wrap (y2 + 1)))) (none)) (none)) (none)) (none)) (some true) := by kernel_rfl

noncomputable def laws_eqOut (k : Nat) (a0 : V_impl_Out) (a1 : V_impl_Out) : Option V_bool := evalT E k 41 t_bool [inp t_impl_Out a0, inp t_impl_Out a1] []
theorem laws_eqOut_eq (k : Nat) (a0 : V_impl_Out) (a1 : V_impl_Out) : laws_eqOut (k + 1) a0 a1 = 
 cond (a0.1 != a1.1) (some false) (
  cond (a0.2.1 != a1.2.1) (some false) (
   cond (a0.2.2.1 != a1.2.2.1) (some false) (
    cond (a0.2.2.2.1 != a1.2.2.2.1) (some false) (
     cond (a0.2.2.2.2 != a1.2.2.2.2) (some false) (some true))))) := by kernel_rfl

noncomputable def laws_eqOutS (k : Nat) (a0 : V_sl_impl_Out) (a1 : V_sl_impl_Out) : Option V_bool := evalT E k 12 t_bool [inp t_sl_impl_Out a0, inp t_sl_impl_Out a1] []
noncomputable def laws_eqOutS_4 (k : Nat) (j : Nat) (y0 : List V_impl_Out) (y1 : List V_impl_Out) (y2 : Int) : Option V_bool := loopAt E 12 t_bool [true, true, false, true, false] [] [] k [] j (mkS 27 [(0, .c (.sl 61 t_impl_Out y0)), (1, .c (.sl 61 t_impl_Out y1)), (5, .c (.int .i64 y2))]) []
theorem laws_eqOutS_eq (k : Nat) (a0 : V_sl_impl_Out) (a1 : V_sl_impl_Out) : laws_eqOutS (k + 1) a0 a1 = 
 cond ((↑(List.length a0) : Int) != (↑(List.length a1) : Int)) (some false) (laws_eqOutS_4 k k a0 a1 0) := by kernel_rfl
theorem laws_eqOutS_4_eq (k : Nat) (j : Nat) (y0 : List V_impl_Out) (y1 : List V_impl_Out) (y2 : Int) : laws_eqOutS_4 k (j + 1) y0 y1 y2 = 
 cond (decide (y2 < (↑y0.length : Int))) (
  cond (decide (0 ≤ y2)) (
   cond (decide (y2 < (↑y0.length : Int))) (
    cond (decide (0 ≤ y2)) (
     cond (decide (y2 < (↑y1.length : Int))) (
      (laws_eqOut k (y0.getD y2.toNat (dflt t_impl_Out)) (y1.getD y2.toNat (dflt t_impl_Out))).bind fun x0 => 
       cond (!x0) (some false) (laws_eqOutS_4 k j y0 y1 (IntKind.i64.wrap (y2 + 1)))) (none)) (none)) (none)) (none)) (some true) := by kernel_rfl

noncomputable def laws_eqSim (k : Nat) (a0 : V_impl_Sim) (a1 : V_impl_Sim) : Option V_bool := evalT E k 31 t_bool [inp t_impl_Sim a0, inp t_impl_Sim a1] []
theorem laws_eqSim_eq (k : Nat) (a0 : V_impl_Sim) (a1 : V_impl_Sim) : laws_eqSim (k + 1) a0 a1 = 
 (laws_eqStateS k a0.1 a1.1).bind fun x0 => 
  cond (!x0) (some false) (
   (laws_eqEventS k a0.2.1 a1.2.1).bind fun x1 => 
    cond (!x1) (some false) (
     (laws_eqOutS k a0.2.2 a1.2.2).bind fun x2 => 
      cond (!x2) (some false) (some true))) := by kernel_rfl

noncomputable def laws_markStateS_h0 (k : Nat) (y0 : V_int) (y1 : List V_impl_State) : Option ((V_int × (List V_impl_State × Unit))) := evalT E k 68 (.pair t_int (.pair (.ow 105 t_impl_State) .unit)) [.c (.o 0), inp t_int y0] [some (.own 105 t_impl_State y1)]
noncomputable def laws_markStateS_h0_2 (k : Nat) (j : Nat) (y0 : Int) (y1 : Int) (y2 : List V_impl_State) : Option ((V_int × (List V_impl_State × Unit))) := loopAt E 68 (.pair t_int (.pair (.ow 105 t_impl_State) .unit)) [true, false, true, false] [none] [0] k [] j (mkS 34 [(0, .c (.o 0)), (1, .c (.int .i64 y0)), (5, .c (.int .i64 y1))]) [some (.own 105 t_impl_State y2)]
theorem laws_markStateS_h0_eq (k : Nat) (y0 : V_int) (y1 : List V_impl_State) : laws_markStateS_h0 (k + 1) y0 y1 = laws_markStateS_h0_2 k k y0 0 y1 := by kernel_rfl
theorem laws_markStateS_h0_2_eq (k : Nat) (j : Nat) (y0 : Int) (y1 : Int) (y2 : List V_impl_State) : laws_markStateS_h0_2 k (j + 1) y0 y1 y2 = 
 cond (decide (y1 < (↑y2.length : Int))) (
  cond (decide (0 ≤ y1)) (
   cond (decide (y1 < (↑y2.length : Int))) (
    cond (decide (y1.toNat < y2.length)) (
     cond (decide (0 ≤ y1)) (
      cond (decide (y1 < (↑(y2.modify y1.toNat fun x => (y0, x.2.1, x.2.2)).length : Int))) (
       cond (decide (y1.toNat < (y2.modify y1.toNat fun x => (y0, x.2.1, x.2.2)).length)) (
        cond (decide (0 ≤ y1)) (
         cond (decide
  (y1 <
    (↑((y2.modify y1.toNat fun x => (y0, x.2.1, x.2.2)).modify y1.toNat fun x =>
            (x.1, IntKind.i64.wrap (y0 + 1), x.2.2)).length :
      Int))) (
          cond (decide
  (y1.toNat <
    ((y2.modify y1.toNat fun x => (y0, x.2.1, x.2.2)).modify y1.toNat fun x =>
        (x.1, IntKind.i64.wrap (y0 + 1), x.2.2)).length)) (laws_markStateS_h0_2 k j (IntKind.i64.wrap (IntKind.i64.wrap (IntKind.i64.wrap (y0 + 1) + 1) + 1)) (IntKind.i64.wrap (y1 + 1)) (((y2.modify y1.toNat fun x => (y0, x.2.1, x.2.2)).modify y1.toNat fun x =>
      (x.1, IntKind.i64.wrap (y0 + 1), x.2.2)).modify
  y1.toNat fun x => (x.1, x.2.1, IntKind.i64.wrap (IntKind.i64.wrap (y0 + 1) + 1)))) (none)) (none)) (none)) (none)) (none)) (none)) (none)) (none)) (none)) (some ((y0, y2, ()))) := by kernel_rfl

noncomputable def laws_markEventS_h0 (k : Nat) (y0 : V_int) (y1 : List V_impl_Event) : Option ((V_int × (List V_impl_Event × Unit))) := evalT E k 20 (.pair t_int (.pair (.ow 70 t_impl_Event) .unit)) [.c (.o 0), inp t_int y0] [some (.own 70 t_impl_Event y1)]
noncomputable def laws_markEventS_h0_2 (k : Nat) (j : Nat) (y0 : Int) (y1 : Int) (y2 : List V_impl_Event) : Option ((V_int × (List V_impl_Event × Unit))) := loopAt E 20 (.pair t_int (.pair (.ow 70 t_impl_Event) .unit)) [true, false, true, false] [none] [0] k [] j (mkS 62 [(0, .c (.o 0)), (1, .c (.int .i64 y0)), (5, .c (.int .i64 y1))]) [some (.own 70 t_impl_Event y2)]
theorem laws_markEventS_h0_eq (k : Nat) (y0 : V_int) (y1 : List V_impl_Event) : laws_markEventS_h0 (k + 1) y0 y1 = laws_markEventS_h0_2 k k y0 0 y1 := by kernel_rfl
theorem laws_markEventS_h0_2_eq (k : Nat) (j : Nat) (y0 : Int) (y1 : Int) (y2 : List V_impl_Event) : laws_markEventS_h0_2 k (j + 1) y0 y1 y2 = 
 cond (decide (y1 < (↑y2.length : Int))) (
  cond (decide (0 ≤ y1)) (
   cond (decide (y1 < (↑y2.length : Int))) (
    cond (decide (y1.toNat < y2.length)) (
     cond (decide (0 ≤ y1)) (
      cond (decide
  (y1 <
    (↑(y2.modify y1.toNat fun x =>
            (y0, x.2.1, x.2.2.1, x.2.2.2.1, x.2.2.2.2.1, x.2.2.2.2.2.1,
              x.2.2.2.2.2.2)).length :
      Int))) (
       cond (decide
  (y1.toNat <
    (y2.modify y1.toNat fun x =>
        (y0, x.2.1, x.2.2.1, x.2.2.2.1, x.2.2.2.2.1, x.2.2.2.2.2.1,
          x.2.2.2.2.2.2)).length)) (
        cond (decide (0 ≤ y1)) (
         cond (decide
  (y1 <
    (↑((y2.modify y1.toNat fun x =>
                (y0, x.2.1, x.2.2.1, x.2.2.2.1, x.2.2.2.2.1, x.2.2.2.2.2.1,
                  x.2.2.2.2.2.2)).modify
            y1.toNat fun x =>
            (x.1, IntKind.i64.wrap (y0 + 1), x.2.2.1, x.2.2.2.1, x.2.2.2.2.1,
              x.2.2.2.2.2.1, x.2.2.2.2.2.2)).length :
      Int))) (
          cond (decide
  (y1.toNat <
    ((y2.modify y1.toNat fun x =>
            (y0, x.2.1, x.2.2.1, x.2.2.2.1, x.2.2.2.2.1, x.2.2.2.2.2.1,
              x.2.2.2.2.2.2)).modify
        y1.toNat fun x =>
        (x.1, IntKind.i64.wrap (y0 + 1), x.2.2.1, x.2.2.2.1, x.2.2.2.2.1,
          x.2.2.2.2.2.1, x.2.2.2.2.2.2)).length)) (
           cond (decide (0 ≤ y1)) (
            cond (decide
  (y1 <
    (↑(((y2.modify y1.toNat fun x =>
                    (y0, x.2.1, x.2.2.1, x.2.2.2.1, x.2.2.2.2.1, x.2.2.2.2.2.1,
                      x.2.2.2.2.2.2)).modify
                y1.toNat fun x =>
                (x.1, IntKind.i64.wrap (y0 + 1), x.2.2.1, x.2.2.2.1, x.2.2.2.2.1,
                  x.2.2.2.2.2.1, x.2.2.2.2.2.2)).modify
            y1.toNat fun x =>
            (x.1, x.2.1, IntKind.i64.wrap (IntKind.i64.wrap (y0 + 1) + 1), x.2.2.2.1,
              x.2.2.2.2.1, x.2.2.2.2.2.1, x.2.2.2.2.2.2)).length :
      Int))) (
             cond (decide
  (y1.toNat <
    (((y2.modify y1.toNat fun x =>
                (y0, x.2.1, x.2.2.1, x.2.2.2.1, x.2.2.2.2.1, x.2.2.2.2.2.1,
                  x.2.2.2.2.2.2)).modify
            y1.toNat fun x =>
            (x.1, IntKind.i64.wrap (y0 + 1), x.2.2.1, x.2.2.2.1, x.2.2.2.2.1,
              x.2.2.2.2.2.1, x.2.2.2.2.2.2)).modify
        y1.toNat fun x =>
        (x.1, x.2.1, IntKind.i64.wrap (IntKind.i64.wrap (y0 + 1) + 1), x.2.2.2.1, x.2.2.2.2.1,
          x.2.2.2.2.2.1, x.2.2.2.2.2.2)).length)) (
              cond (decide (0 ≤ y1)) (
               cond (decide
  (y1 <
    (↑((((y2.modify y1.toNat fun x =>
                        (y0, x.2.1, x.2.2.1, x.2.2.2.1, x.2.2.2.2.1,
                          x.2.2.2.2.2.1, x.2.2.2.2.2.2)).modify
                    y1.toNat fun x =>
                    (x.1, IntKind.i64.wrap (y0 + 1), x.2.2.1, x.2.2.2.1, x.2.2.2.2.1,
                      x.2.2.2.2.2.1, x.2.2.2.2.2.2)).modify
                y1.toNat fun x =>
                (x.1, x.2.1, IntKind.i64.wrap (IntKind.i64.wrap (y0 + 1) + 1), x.2.2.2.1,
                  x.2.2.2.2.1, x.2.2.2.2.2.1, x.2.2.2.2.2.2)).modify
            y1.toNat fun x =>
            (x.1, x.2.1, x.2.2.1, IntKind.i64.wrap (IntKind.i64.wrap (IntKind.i64.wrap (y0 + 1) + 1) + 1),
              x.2.2.2.2.1, x.2.2.2.2.2.1, x.2.2.2.2.2.2)).length :
      Int))) (
                cond (decide
  (y1.toNat <
    ((((y2.modify y1.toNat fun x =>
                    (y0, x.2.1, x.2.2.1, x.2.2.2.1, x.2.2.2.2.1, x.2.2.2.2.2.1,
                      x.2.2.2.2.2.2)).modify
                y1.toNat fun x =>
                (x.1, IntKind.i64.wrap (y0 + 1), x.2.2.1, x.2.2.2.1, x.2.2.2.2.1,
                  x.2.2.2.2.2.1, x.2.2.2.2.2.2)).modify
            y1.toNat fun x =>
            (x.1, x.2.1, IntKind.i64.wrap (IntKind.i64.wrap (y0 + 1) + 1), x.2.2.2.1,
              x.2.2.2.2.1, x.2.2.2.2.2.1, x.2.2.2.2.2.2)).modify
        y1.toNat fun x =>
        (x.1, x.2.1, x.2.2.1, IntKind.i64.wrap (IntKind.i64.wrap (IntKind.i64.wrap (y0 + 1) + 1) + 1),
          x.2.2.2.2.1, x.2.2.2.2.2.1, x.2.2.2.2.2.2)).length)) (
                 cond (decide (0 ≤ y1)) (
                  cond (decide
  (y1 <
    (↑(((((y2.modify y1.toNat fun x =>
                            (y0, x.2.1, x.2.2.1, x.2.2.2.1, x.2.2.2.2.1,
                              x.2.2.2.2.2.1, x.2.2.2.2.2.2)).modify
                        y1.toNat fun x =>
                        (x.1, IntKind.i64.wrap (y0 + 1), x.2.2.1, x.2.2.2.1, x.2.2.2.2.1,
                          x.2.2.2.2.2.1, x.2.2.2.2.2.2)).modify
                    y1.toNat fun x =>
                    (x.1, x.2.1, IntKind.i64.wrap (IntKind.i64.wrap (y0 + 1) + 1), x.2.2.2.1,
                      x.2.2.2.2.1, x.2.2.2.2.2.1, x.2.2.2.2.2.2)).modify
                y1.toNat fun x =>
                (x.1, x.2.1, x.2.2.1,
                  IntKind.i64.wrap (IntKind.i64.wrap (IntKind.i64.wrap (y0 + 1) + 1) + 1), x.2.2.2.2.1,
                  x.2.2.2.2.2.1, x.2.2.2.2.2.2)).modify
            y1.toNat fun x =>
            (x.1, x.2.1, x.2.2.1, x.2.2.2.1,
              IntKind.i64.wrap (IntKind.i64.wrap (IntKind.i64.wrap (IntKind.i64.wrap (y0 + 1) + 1) + 1) + 1),
              x.2.2.2.2.2.1, x.2.2.2.2.2.2)).length :
      Int))) (
                   cond (decide
  (y1.toNat <
    (((((y2.modify y1.toNat fun x =>
                        (y0, x.2.1, x.2.2.1, x.2.2.2.1, x.2.2.2.2.1,
                          x.2.2.2.2.2.1, x.2.2.2.2.2.2)).modify
                    y1.toNat fun x =>
                    (x.1, IntKind.i64.wrap (y0 + 1), x.2.2.1, x.2.2.2.1, x.2.2.2.2.1,
                      x.2.2.2.2.2.1, x.2.2.2.2.2.2)).modify
                y1.toNat fun x =>
                (x.1, x.2.1, IntKind.i64.wrap (IntKind.i64.wrap (y0 + 1) + 1), x.2.2.2.1,
                  x.2.2.2.2.1, x.2.2.2.2.2.1, x.2.2.2.2.2.2)).modify
            y1.toNat fun x =>
            (x.1, x.2.1, x.2.2.1, IntKind.i64.wrap (IntKind.i64.wrap (IntKind.i64.wrap (y0 + 1) + 1) + 1),
              x.2.2.2.2.1, x.2.2.2.2.2.1, x.2.2.2.2.2.2)).modify
        y1.toNat fun x =>
        (x.1, x.2.1, x.2.2.1, x.2.2.2.1,
          IntKind.i64.wrap (IntKind.i64.wrap (IntKind.i64.wrap (IntKind.i64.wrap (y0 + 1) + 1) + 1) + 1),
          x.2.2.2.2.2.1, x.2.2.2.2.2.2)).length)) (
                    cond (decide (0 ≤ y1)) (
                     cond (decide
  (y1 <
    (↑((((((y2.modify y1.toNat fun x =>
                                (y0, x.2.1, x.2.2.1, x.2.2.2.1, x.2.2.2.2.1,
                                  x.2.2.2.2.2.1, x.2.2.2.2.2.2)).modify
                            y1.toNat fun x =>
                            (x.1, IntKind.i64.wrap (y0 + 1), x.2.2.1, x.2.2.2.1, x.2.2.2.2.1,
                              x.2.2.2.2.2.1, x.2.2.2.2.2.2)).modify
                        y1.toNat fun x =>
                        (x.1, x.2.1, IntKind.i64.wrap (IntKind.i64.wrap (y0 + 1) + 1), x.2.2.2.1,
                          x.2.2.2.2.1, x.2.2.2.2.2.1, x.2.2.2.2.2.2)).modify
                    y1.toNat fun x =>
                    (x.1, x.2.1, x.2.2.1,
                      IntKind.i64.wrap (IntKind.i64.wrap (IntKind.i64.wrap (y0 + 1) + 1) + 1), x.2.2.2.2.1,
                      x.2.2.2.2.2.1, x.2.2.2.2.2.2)).modify
                y1.toNat fun x =>
                (x.1, x.2.1, x.2.2.1, x.2.2.2.1,
                  IntKind.i64.wrap (IntKind.i64.wrap (IntKind.i64.wrap (IntKind.i64.wrap (y0 + 1) + 1) + 1) + 1),
                  x.2.2.2.2.2.1, x.2.2.2.2.2.2)).modify
            y1.toNat fun x =>
            (x.1, x.2.1, x.2.2.1, x.2.2.2.1, x.2.2.2.2.1,
              IntKind.i64.wrap
                (IntKind.i64.wrap (IntKind.i64.wrap (IntKind.i64.wrap (IntKind.i64.wrap (y0 + 1) + 1) + 1) + 1) + 1),
              x.2.2.2.2.2.2)).length :
      Int))) (
                      cond (decide
  (y1.toNat <
    ((((((y2.modify y1.toNat fun x =>
                            (y0, x.2.1, x.2.2.1, x.2.2.2.1, x.2.2.2.2.1,
                              x.2.2.2.2.2.1, x.2.2.2.2.2.2)).modify
                        y1.toNat fun x =>
                        (x.1, IntKind.i64.wrap (y0 + 1), x.2.2.1, x.2.2.2.1, x.2.2.2.2.1,
                          x.2.2.2.2.2.1, x.2.2.2.2.2.2)).modify
                    y1.toNat fun x =>
                    (x.1, x.2.1, IntKind.i64.wrap (IntKind.i64.wrap (y0 + 1) + 1), x.2.2.2.1,
                      x.2.2.2.2.1, x.2.2.2.2.2.1, x.2.2.2.2.2.2)).modify
                y1.toNat fun x =>
                (x.1, x.2.1, x.2.2.1,
                  IntKind.i64.wrap (IntKind.i64.wrap (IntKind.i64.wrap (y0 + 1) + 1) + 1), x.2.2.2.2.1,
                  x.2.2.2.2.2.1, x.2.2.2.2.2.2)).modify
            y1.toNat fun x =>
            (x.1, x.2.1, x.2.2.1, x.2.2.2.1,
              IntKind.i64.wrap (IntKind.i64.wrap (IntKind.i64.wrap (IntKind.i64.wrap (y0 + 1) + 1) + 1) + 1),
              x.2.2.2.2.2.1, x.2.2.2.2.2.2)).modify
        y1.toNat fun x =>
        (x.1, x.2.1, x.2.2.1, x.2.2.2.1, x.2.2.2.2.1,
          IntKind.i64.wrap
            (IntKind.i64.wrap (IntKind.i64.wrap (IntKind.i64.wrap (IntKind.i64.wrap (y0 + 1) + 1) + 1) + 1) + 1),
          x.2.2.2.2.2.2)).length)) (laws_markEventS_h0_2 k j (IntKind.i64.wrap
  (IntKind.i64.wrap
      (IntKind.i64.wrap
          (IntKind.i64.wrap (IntKind.i64.wrap (IntKind.i64.wrap (IntKind.i64.wrap (y0 + 1) + 1) + 1) + 1) + 1) +
        1) +
    1)) (IntKind.i64.wrap (y1 + 1)) (((((((y2.modify y1.toNat fun x =>
                          (y0, x.2.1, x.2.2.1, x.2.2.2.1, x.2.2.2.2.1,
                            x.2.2.2.2.2.1, x.2.2.2.2.2.2)).modify
                      y1.toNat fun x =>
                      (x.1, IntKind.i64.wrap (y0 + 1), x.2.2.1, x.2.2.2.1, x.2.2.2.2.1,
                        x.2.2.2.2.2.1, x.2.2.2.2.2.2)).modify
                  y1.toNat fun x =>
                  (x.1, x.2.1, IntKind.i64.wrap (IntKind.i64.wrap (y0 + 1) + 1), x.2.2.2.1,
                    x.2.2.2.2.1, x.2.2.2.2.2.1, x.2.2.2.2.2.2)).modify
              y1.toNat fun x =>
              (x.1, x.2.1, x.2.2.1, IntKind.i64.wrap (IntKind.i64.wrap (IntKind.i64.wrap (y0 + 1) + 1) + 1),
                x.2.2.2.2.1, x.2.2.2.2.2.1, x.2.2.2.2.2.2)).modify
          y1.toNat fun x =>
          (x.1, x.2.1, x.2.2.1, x.2.2.2.1,
            IntKind.i64.wrap (IntKind.i64.wrap (IntKind.i64.wrap (IntKind.i64.wrap (y0 + 1) + 1) + 1) + 1),
            x.2.2.2.2.2.1, x.2.2.2.2.2.2)).modify
      y1.toNat fun x =>
      (x.1, x.2.1, x.2.2.1, x.2.2.2.1, x.2.2.2.2.1,
        IntKind.i64.wrap
          (IntKind.i64.wrap (IntKind.i64.wrap (IntKind.i64.wrap (IntKind.i64.wrap (y0 + 1) + 1) + 1) + 1) + 1),
        x.2.2.2.2.2.2)).modify
  y1.toNat fun x =>
  (x.1, x.2.1, x.2.2.1, x.2.2.2.1, x.2.2.2.2.1, x.2.2.2.2.2.1,
    IntKind.i64.wrap
      (IntKind.i64.wrap
          (IntKind.i64.wrap (IntKind.i64.wrap (IntKind.i64.wrap (IntKind.i64.wrap (y0 + 1) + 1) + 1) + 1) + 1) +
        1)))) (none)) (none)) (none)) (none)) (none)) (none)) (none)) (none)) (none)) (none)) (none)) (none)) (none)) (none)) (none)) (none)) (none)) (none)) (none)) (none)) (none)) (some ((y0, y2, ()))) := by kernel_rfl

noncomputable def laws_markOutS_h0 (k : Nat) (y0 : V_int) (y1 : List V_impl_Out) : Option ((V_int × (List V_impl_Out × Unit))) := evalT E k 13 (.pair t_int (.pair (.ow 61 t_impl_Out) .unit)) [.c (.o 0), inp t_int y0] [some (.own 61 t_impl_Out y1)]
noncomputable def laws_markOutS_h0_2 (k : Nat) (j : Nat) (y0 : Int) (y1 : Int) (y2 : List V_impl_Out) : Option ((V_int × (List V_impl_Out × Unit))) := loopAt E 13 (.pair t_int (.pair (.ow 61 t_impl_Out) .unit)) [true, false, true, false] [none] [0] k [] j (mkS 48 [(0, .c (.o 0)), (1, .c (.int .i64 y0)), (5, .c (.int .i64 y1))]) [some (.own 61 t_impl_Out y2)]
theorem laws_markOutS_h0_eq (k : Nat) (y0 : V_int) (y1 : List V_impl_Out) : laws_markOutS_h0 (k + 1) y0 y1 = laws_markOutS_h0_2 k k y0 0 y1 := by kernel_rfl
theorem laws_markOutS_h0_2_eq (k : Nat) (j : Nat) (y0 : Int) (y1 : Int) (y2 : List V_impl_Out) : laws_markOutS_h0_2 k (j + 1) y0 y1 y2 = 
 cond (decide (y1 < (↑y2.length : Int))) (
  cond (decide (0 ≤ y1)) (
   cond (decide (y1 < (↑y2.length : Int))) (
    cond (decide (y1.toNat < y2.length)) (
     cond (decide (0 ≤ y1)) (
      cond (decide
  (y1 <
    (↑(y2.modify y1.toNat fun x => (y0, x.2.1, x.2.2.1, x.2.2.2.1, x.2.2.2.2)).length : Int))) (
       cond (decide
  (y1.toNat < (y2.modify y1.toNat fun x => (y0, x.2.1, x.2.2.1, x.2.2.2.1, x.2.2.2.2)).length)) (
        cond (decide (0 ≤ y1)) (
         cond (decide
  (y1 <
    (↑((y2.modify y1.toNat fun x => (y0, x.2.1, x.2.2.1, x.2.2.2.1, x.2.2.2.2)).modify
            y1.toNat fun x =>
            (x.1, IntKind.i64.wrap (y0 + 1), x.2.2.1, x.2.2.2.1, x.2.2.2.2)).length :
      Int))) (
          cond (decide
  (y1.toNat <
    ((y2.modify y1.toNat fun x => (y0, x.2.1, x.2.2.1, x.2.2.2.1, x.2.2.2.2)).modify y1.toNat
        fun x => (x.1, IntKind.i64.wrap (y0 + 1), x.2.2.1, x.2.2.2.1, x.2.2.2.2)).length)) (
           cond (decide (0 ≤ y1)) (
            cond (decide
  (y1 <
    (↑(((y2.modify y1.toNat fun x => (y0, x.2.1, x.2.2.1, x.2.2.2.1, x.2.2.2.2)).modify
                y1.toNat fun x =>
                (x.1, IntKind.i64.wrap (y0 + 1), x.2.2.1, x.2.2.2.1, x.2.2.2.2)).modify
            y1.toNat fun x =>
            (x.1, x.2.1, IntKind.i64.wrap (IntKind.i64.wrap (y0 + 1) + 1), x.2.2.2.1,
              x.2.2.2.2)).length :
      Int))) (
             cond (decide
  (y1.toNat <
    (((y2.modify y1.toNat fun x => (y0, x.2.1, x.2.2.1, x.2.2.2.1, x.2.2.2.2)).modify y1.toNat
            fun x => (x.1, IntKind.i64.wrap (y0 + 1), x.2.2.1, x.2.2.2.1, x.2.2.2.2)).modify
        y1.toNat fun x =>
        (x.1, x.2.1, IntKind.i64.wrap (IntKind.i64.wrap (y0 + 1) + 1), x.2.2.2.1,
          x.2.2.2.2)).length)) (
              cond (decide (0 ≤ y1)) (
               cond (decide
  (y1 <
    (↑((((y2.modify y1.toNat fun x => (y0, x.2.1, x.2.2.1, x.2.2.2.1, x.2.2.2.2)).modify
                    y1.toNat fun x =>
                    (x.1, IntKind.i64.wrap (y0 + 1), x.2.2.1, x.2.2.2.1, x.2.2.2.2)).modify
                y1.toNat fun x =>
                (x.1, x.2.1, IntKind.i64.wrap (IntKind.i64.wrap (y0 + 1) + 1), x.2.2.2.1,
                  x.2.2.2.2)).modify
            y1.toNat fun x =>
            (x.1, x.2.1, x.2.2.1, IntKind.i64.wrap (IntKind.i64.wrap (IntKind.i64.wrap (y0 + 1) + 1) + 1),
              x.2.2.2.2)).length :
      Int))) (
                cond (decide
  (y1.toNat <
    ((((y2.modify y1.toNat fun x => (y0, x.2.1, x.2.2.1, x.2.2.2.1, x.2.2.2.2)).modify
                y1.toNat fun x =>
                (x.1, IntKind.i64.wrap (y0 + 1), x.2.2.1, x.2.2.2.1, x.2.2.2.2)).modify
            y1.toNat fun x =>
            (x.1, x.2.1, IntKind.i64.wrap (IntKind.i64.wrap (y0 + 1) + 1), x.2.2.2.1,
              x.2.2.2.2)).modify
        y1.toNat fun x =>
        (x.1, x.2.1, x.2.2.1, IntKind.i64.wrap (IntKind.i64.wrap (IntKind.i64.wrap (y0 + 1) + 1) + 1),
          x.2.2.2.2)).length)) (laws_markOutS_h0_2 k j (IntKind.i64.wrap (IntKind.i64.wrap (IntKind.i64.wrap (IntKind.i64.wrap (IntKind.i64.wrap (y0 + 1) + 1) + 1) + 1) + 1)) (IntKind.i64.wrap (y1 + 1)) (((((y2.modify y1.toNat fun x => (y0, x.2.1, x.2.2.1, x.2.2.2.1, x.2.2.2.2)).modify y1.toNat
              fun x => (x.1, IntKind.i64.wrap (y0 + 1), x.2.2.1, x.2.2.2.1, x.2.2.2.2)).modify
          y1.toNat fun x =>
          (x.1, x.2.1, IntKind.i64.wrap (IntKind.i64.wrap (y0 + 1) + 1), x.2.2.2.1,
            x.2.2.2.2)).modify
      y1.toNat fun x =>
      (x.1, x.2.1, x.2.2.1, IntKind.i64.wrap (IntKind.i64.wrap (IntKind.i64.wrap (y0 + 1) + 1) + 1),
        x.2.2.2.2)).modify
  y1.toNat fun x =>
  (x.1, x.2.1, x.2.2.1, x.2.2.2.1,
    IntKind.i64.wrap (IntKind.i64.wrap (IntKind.i64.wrap (IntKind.i64.wrap (y0 + 1) + 1) + 1) + 1)))) (none)) (none)) (none)) (none)) (none)) (none)) (none)) (none)) (none)) (none)) (none)) (none)) (none)) (none)) (none)) (some ((y0, y2, ()))) := by kernel_rfl

noncomputable def laws_markSim_h0 (k : Nat) (y0 : V_int) (y1 : List V_impl_State) (y2 : List V_impl_Event) (y3 : List V_impl_Out) : Option ((V_int × (List V_impl_State × (List V_impl_Event × (List V_impl_Out × Unit))))) := evalT E k 34 (.pair t_int (.pair (.ow 105 t_impl_State) (.pair (.ow 70 t_impl_Event) (.pair (.ow 61 t_impl_Out) .unit)))) [.v (.agg [.o 0, .o 1, .o 2]), inp t_int y0] [some (.own 105 t_impl_State y1), some (.own 70 t_impl_Event y2), some (.own 61 t_impl_Out y3)]
theorem laws_markSim_h0_eq (k : Nat) (y0 : V_int) (y1 : List V_impl_State) (y2 : List V_impl_Event) (y3 : List V_impl_Out) : laws_markSim_h0 (k + 1) y0 y1 y2 y3 = 
 (laws_markStateS_h0 k y0 y1).bind fun x0 => 
  (laws_markEventS_h0 k x0.1 y2).bind fun x1 => 
   (laws_markOutS_h0 k x1.1 y3).bind fun x2 => some ((x2.1, x0.2.1, x1.2.1, x2.2.1, ())) := by kernel_rfl

noncomputable def laws_heldStateS (k : Nat) (a0 : V_sl_impl_State) (a1 : V_int) : Option V_int := evalT E k 69 t_int [inp t_sl_impl_State a0, inp t_int a1] []
noncomputable def laws_heldStateS_2 (k : Nat) (j : Nat) (y0 : List V_impl_State) (y1 : Int) (y2 : Int) : Option V_int := loopAt E 69 t_int [true, false, true, false] [] [] k [] j (mkS 40 [(0, .c (.sl 105 t_impl_State y0)), (1, .c (.int .i64 y1)), (5, .c (.int .i64 y2))]) []
theorem laws_heldStateS_eq (k : Nat) (a0 : V_sl_impl_State) (a1 : V_int) : laws_heldStateS (k + 1) a0 a1 = laws_heldStateS_2 k k a0 a1 0 := by kernel_rfl
theorem laws_heldStateS_2_eq (k : Nat) (j : Nat) (y0 : List V_impl_State) (y1 : Int) (y2 : Int) : laws_heldStateS_2 k (j + 1) y0 y1 y2 = 
 cond (decide (y2 < (↑y0.length : Int))) (
  cond (decide (0 ≤ y2)) (
   cond (decide (y2 < (↑y0.length : Int))) (
    cond ((y0.getD y2.toNat (dflt t_impl_State)).1 != y1) (some (-1)) (
     cond (decide (0 ≤ y2)) (
      cond (decide (y2 < (↑y0.length : Int))) (
       cond ((y0.getD y2.toNat (dflt t_impl_State)).2.1 != IntKind.i64.wrap (y1 + 1)) (some (-1)) (
        cond (decide (0 ≤ y2)) (
         cond (decide (y2 < (↑y0.length : Int))) (
          cond ((y0.getD y2.toNat (dflt t_impl_State)).2.2 != IntKind.i64.wrap (IntKind.i64.wrap (y1 + 1) + 1)) (some (-1)) (laws_heldStateS_2 k j y0 (IntKind.i64.wrap (IntKind.i64.wrap (IntKind.i64.wrap (y1 + 1) + 1) + 1)) (IntKind.i64.wrap (y2 + 1)))) (none)) (none))) (none)) (none))) (none)) (none)) (some y1) := by kernel_rfl

noncomputable def laws_heldEventS (k : Nat) (a0 : V_sl_impl_Event) (a1 : V_int) : Option V_int := evalT E k 21 t_int [inp t_sl_impl_Event a0, inp t_int a1] []
noncomputable def laws_heldEventS_2 (k : Nat) (j : Nat) (y0 : List V_impl_Event) (y1 : Int) (y2 : Int) : Option V_int := loopAt E 21 t_int [true, false, true, false] [] [] k [] j (mkS 76 [(0, .c (.sl 70 t_impl_Event y0)), (1, .c (.int .i64 y1)), (5, .c (.int .i64 y2))]) []
theorem laws_heldEventS_eq (k : Nat) (a0 : V_sl_impl_Event) (a1 : V_int) : laws_heldEventS (k + 1) a0 a1 = laws_heldEventS_2 k k a0 a1 0 := by kernel_rfl
theorem laws_heldEventS_2_eq (k : Nat) (j : Nat) (y0 : List V_impl_Event) (y1 : Int) (y2 : Int) : laws_heldEventS_2 k (j + 1) y0 y1 y2 = 
 cond (decide (y2 < (↑y0.length : Int))) (
  cond (decide (0 ≤ y2)) (
   cond (decide (y2 < (↑y0.length : Int))) (
    cond ((y0.getD y2.toNat (dflt t_impl_Event)).1 != y1) (some (-1)) (
     cond (decide (0 ≤ y2)) (
      cond (decide (y2 < (↑y0.length : Int))) (
       cond ((y0.getD y2.toNat (dflt t_impl_Event)).2.1 != IntKind.i64.wrap (y1 + 1)) (some (-1)) (
        cond (decide (0 ≤ y2)) (
         cond (decide (y2 < (↑y0.length : Int))) (
          cond ((y0.getD y2.toNat (dflt t_impl_Event)).2.2.1 != IntKind.i64.wrap (IntKind.i64.wrap (y1 + 1) + 1)) (some (-1)) (
           cond (decide (0 ≤ y2)) (
            cond (decide (y2 < (↑y0.length : Int))) (
             cond ((y0.getD y2.toNat (dflt t_impl_Event)).2.2.2.1 != IntKind.i64.wrap (IntKind.i64.wrap (IntKind.i64.wrap (y1 + 1) + 1) + 1)) (some (-1)) (
              cond (decide (0 ≤ y2)) (
               cond (decide (y2 < (↑y0.length : Int))) (
                cond ((y0.getD y2.toNat (dflt t_impl_Event)).2.2.2.2.1 !=
  IntKind.i64.wrap (IntKind.i64.wrap (IntKind.i64.wrap (IntKind.i64.wrap (y1 + 1) + 1) + 1) + 1)) (some (-1)) (
                 cond (decide (0 ≤ y2)) (
                  cond (decide (y2 < (↑y0.length : Int))) (
                   cond ((y0.getD y2.toNat (dflt t_impl_Event)).2.2.2.2.2.1 !=
  IntKind.i64.wrap (IntKind.i64.wrap (IntKind.i64.wrap (IntKind.i64.wrap (IntKind.i64.wrap (y1 + 1) + 1) + 1) + 1) + 1)) (some (-1)) (
                    cond (decide (0 ≤ y2)) (
                     cond (decide (y2 < (↑y0.length : Int))) (
                      cond ((y0.getD y2.toNat (dflt t_impl_Event)).2.2.2.2.2.2 !=
  IntKind.i64.wrap
    (IntKind.i64.wrap
        (IntKind.i64.wrap (IntKind.i64.wrap (IntKind.i64.wrap (IntKind.i64.wrap (y1 + 1) + 1) + 1) + 1) + 1) +
      1)) (some (-1)) (laws_heldEventS_2 k j y0 (IntKind.i64.wrap
  (IntKind.i64.wrap
      (IntKind.i64.wrap
          (IntKind.i64.wrap (IntKind.i64.wrap (IntKind.i64.wrap (IntKind.i64.wrap (y1 + 1) + 1) + 1) + 1) + 1) +
        1) +
    1)) (IntKind.i64.wrap (y2 + 1)))) (none)) (none))) (none)) (none))) (none)) (none))) (none)) (none))) (none)) (none))) (none)) (none))) (none)) (none)) (some y1) := by kernel_rfl

noncomputable def laws_heldOutS (k : Nat) (a0 : V_sl_impl_Out) (a1 : V_int) : Option V_int := evalT E k 14 t_int [inp t_sl_impl_Out a0, inp t_int a1] []
noncomputable def laws_heldOutS_2 (k : Nat) (j : Nat) (y0 : List V_impl_Out) (y1 : Int) (y2 : Int) : Option V_int := loopAt E 14 t_int [true, false, true, false] [] [] k [] j (mkS 58 [(0, .c (.sl 61 t_impl_Out y0)), (1, .c (.int .i64 y1)), (5, .c (.int .i64 y2))]) []
theorem laws_heldOutS_eq (k : Nat) (a0 : V_sl_impl_Out) (a1 : V_int) : laws_heldOutS (k + 1) a0 a1 = laws_heldOutS_2 k k a0 a1 0 := by kernel_rfl
theorem laws_heldOutS_2_eq (k : Nat) (j : Nat) (y0 : List V_impl_Out) (y1 : Int) (y2 : Int) : laws_heldOutS_2 k (j + 1) y0 y1 y2 = 
 cond (decide (y2 < (↑y0.length : Int))) (
  cond (decide (0 ≤ y2)) (
   cond (decide (y2 < (↑y0.length : Int))) (
    cond ((y0.getD y2.toNat (dflt t_impl_Out)).1 != y1) (some (-1)) (
     cond (decide (0 ≤ y2)) (
      cond (decide (y2 < (↑y0.length : Int))) (
       cond ((y0.getD y2.toNat (dflt t_impl_Out)).2.1 != IntKind.i64.wrap (y1 + 1)) (some (-1)) (
        cond (decide (0 ≤ y2)) (
         cond (decide (y2 < (↑y0.length : Int))) (
          cond ((y0.getD y2.toNat (dflt t_impl_Out)).2.2.1 != IntKind.i64.wrap (IntKind.i64.wrap (y1 + 1) + 1)) (some (-1)) (
           cond (decide (0 ≤ y2)) (
            cond (decide (y2 < (↑y0.length : Int))) (
             cond ((y0.getD y2.toNat (dflt t_impl_Out)).2.2.2.1 != IntKind.i64.wrap (IntKind.i64.wrap (IntKind.i64.wrap (y1 + 1) + 1) + 1)) (some (-1)) (
              cond (decide (0 ≤ y2)) (
               cond (decide (y2 < (↑y0.length : Int))) (
                cond ((y0.getD y2.toNat (dflt t_impl_Out)).2.2.2.2 !=
  IntKind.i64.wrap (IntKind.i64.wrap (IntKind.i64.wrap (IntKind.i64.wrap (y1 + 1) + 1) + 1) + 1)) (some (-1)) (laws_heldOutS_2 k j y0 (IntKind.i64.wrap (IntKind.i64.wrap (IntKind.i64.wrap (IntKind.i64.wrap (IntKind.i64.wrap (y1 + 1) + 1) + 1) + 1) + 1)) (IntKind.i64.wrap (y2 + 1)))) (none)) (none))) (none)) (none))) (none)) (none))) (none)) (none))) (none)) (none)) (some y1) := by kernel_rfl

noncomputable def laws_heldSim (k : Nat) (a0 : V_impl_Sim) (a1 : V_int) : Option V_int := evalT E k 35 t_int [inp t_impl_Sim a0, inp t_int a1] []
theorem laws_heldSim_eq (k : Nat) (a0 : V_impl_Sim) (a1 : V_int) : laws_heldSim (k + 1) a0 a1 = 
 (laws_heldStateS k a0.1 a1).bind fun x0 => 
  cond (decide (x0 < 0)) (some (-1)) (
   (laws_heldEventS k a0.2.1 x0).bind fun x1 => 
    cond (decide (x1 < 0)) (some (-1)) (
     (laws_heldOutS k a0.2.2 x1).bind fun x2 => 
      cond (decide (x2 < 0)) (some (-1)) (some x2))) := by kernel_rfl

noncomputable def laws_FnExactSimStart (k : Nat) : Option V_bool := evalT E k 7 t_bool [] []
theorem laws_FnExactSimStart_eq (k : Nat) : laws_FnExactSimStart (k + 1) = 
 (spec_SimStart k ).bind fun x0 => 
  (impl_SimStart k ).bind fun x1 => 
   (laws_eqSim k x1 x0).bind fun x2 => 
    cond (!x2) (some false) (
     (laws_markSim_h0 k 1 x1.1 x1.2.1 x1.2.2).bind fun x3 => 
      (laws_heldSim k ((x3.2.1, (x3.2.2.1, x3.2.2.2.1))) 1).bind fun x4 => 
       cond (decide (x4 < 0)) (some false) (
        cond (x4 != x3.1) (some false) (
         (impl_SimStart k ).bind fun x5 => 
          (laws_eqSim k x5 x0).bind fun x6 => 
           cond (!x6) (some false) (
            (laws_heldSim k ((x3.2.1, (x3.2.2.1, x3.2.2.2.1))) 1).bind fun x7 => 
             cond (decide (x7 < 0)) (some false) (
              cond (x7 != x3.1) (some false) (some true)))))) := by kernel_rfl
def Goal : Prop := ∃ k, laws_FnExactSimStart k  = some true
end Go.Proofs.Ytagkoaalbapnmaa.SFnExactSimStart
