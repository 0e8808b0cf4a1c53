/- What each function of the program answers: one step of the plain machine, by the kernel. -/
import Derived.Test.YtagkoaalbapnmaaEFnExactSimOk
set_option linter.unusedVariables false
set_option maxRecDepth 1000000
set_option maxHeartbeats 0
namespace Go.Proofs.Ytagkoaalbapnmaa.SFnExactSimOk
open Go Go.Sx Go.Proofs
noncomputable def laws_szStateS (k : Nat) (a0 : V_sl_laws_State) (a1 : V_int) : Option V_int := evalT E k 56 t_int [inp t_sl_laws_State a0, inp t_int a1] []
theorem laws_szStateS_eq (k : Nat) (a0 : V_sl_laws_State) (a1 : V_int) : laws_szStateS (k + 1) a0 a1 = 
 cond (decide (IntKind.i64.wrap (a1 - (↑(List.length a0) : Int)) < 0)) (some (-1)) (some (IntKind.i64.wrap (a1 - (↑(List.length a0) : Int)))) := by kernel_rfl

noncomputable def laws_szEventS (k : Nat) (a0 : V_sl_laws_Event) (a1 : V_int) : Option V_int := evalT E k 15 t_int [inp t_sl_laws_Event a0, inp t_int a1] []
theorem laws_szEventS_eq (k : Nat) (a0 : V_sl_laws_Event) (a1 : V_int) : laws_szEventS (k + 1) a0 a1 = 
 cond (decide (IntKind.i64.wrap (a1 - (↑(List.length a0) : Int)) < 0)) (some (-1)) (some (IntKind.i64.wrap (a1 - (↑(List.length a0) : Int)))) := by kernel_rfl

noncomputable def laws_szOutS (k : Nat) (a0 : V_sl_laws_Out) (a1 : V_int) : Option V_int := evalT E k 8 t_int [inp t_sl_laws_Out a0, inp t_int a1] []
theorem laws_szOutS_eq (k : Nat) (a0 : V_sl_laws_Out) (a1 : V_int) : laws_szOutS (k + 1) a0 a1 = 
 cond (decide (IntKind.i64.wrap (a1 - (↑(List.length a0) : Int)) < 0)) (some (-1)) (some (IntKind.i64.wrap (a1 - (↑(List.length a0) : Int)))) := by kernel_rfl

noncomputable def laws_szSim (k : Nat) (a0 : V_laws_Sim) (a1 : V_int) : Option V_int := evalT E k 27 t_int [inp t_laws_Sim a0, inp t_int a1] []
theorem laws_szSim_eq (k : Nat) (a0 : V_laws_Sim) (a1 : V_int) : laws_szSim (k + 1) a0 a1 = 
 (laws_szStateS k a0.1 a1).bind fun x0 => 
  cond (decide (x0 < 0)) (some (-1)) (
   (laws_szEventS k a0.2.1 x0).bind fun x1 => 
    cond (decide (x1 < 0)) (some (-1)) (
     (laws_szOutS k a0.2.2 x1).bind fun x2 => 
      cond (decide (x2 < 0)) (some (-1)) (some x2))) := by kernel_rfl

noncomputable def laws_toState (k : Nat) (a0 : V_laws_State) : Option ((V_int × (V_int × V_int))) := evalT E k 81 (.pair t_int (.pair t_int t_int)) [inp t_laws_State a0] []
theorem laws_toState_eq (k : Nat) (a0 : V_laws_State) : laws_toState (k + 1) a0 = some (a0.1, a0.2.1, a0.2.2) := by kernel_rfl

noncomputable def laws_toStateS (k : Nat) (a0 : V_sl_laws_State) : Option (List V_impl_State) := evalT E k 61 (.ow 105 t_impl_State) [inp t_sl_laws_State a0] []
noncomputable def laws_toStateS_3 (k : Nat) (j : Nat) (y0 : List V_laws_State) (y1 : Int) (y2 : List V_impl_State) : Option (List V_impl_State) := loopAt E 61 (.ow 105 t_impl_State) [true, true, false, true, false] [] k [] j (mkS 23 [(0, .c (.sl 127 t_laws_State y0)), (3, .c (.o 0)), (4, .c (.int .i64 y1))]) [some (.own 105 t_impl_State y2)]
theorem laws_toStateS_eq (k : Nat) (a0 : V_sl_laws_State) : laws_toStateS (k + 1) a0 = 
 cond (decide ((↑(List.length a0) : Int) = (↑(List.length a0) : Int))) (
  cond (decide ((↑(List.length a0) : Int).toNat * 24 ≤ 140737488351232)) (laws_toStateS_3 k k a0 0 (List.replicate (↑(List.length a0) : Int).toNat (dflt t_impl_State))) (none)) (none) := by kernel_rfl
theorem laws_toStateS_3_eq (k : Nat) (j : Nat) (y0 : List V_laws_State) (y1 : Int) (y2 : List V_impl_State) : laws_toStateS_3 k (j + 1) y0 y1 y2 = 
 cond (decide (y1 < (↑y0.length : Int))) (
  cond (decide (0 ≤ y1)) (
   cond (decide (y1 < (↑y0.length : Int))) (
    (laws_toState k (y0.getD y1.toNat (dflt t_laws_State))).bind fun x0 => 
     cond (decide (0 ≤ y1)) (
      cond (decide (y1 < (↑y2.length : Int))) (
       cond (decide (y1.toNat < y2.length)) (laws_toStateS_3 k j y0 (IntKind.i64.wrap (y1 + 1)) (y2.set y1.toNat (x0.1, x0.2.1, x0.2.2))) (none)) (none)) (none)) (none)) (none)) (some y2) := by kernel_rfl

noncomputable def laws_toEvent (k : Nat) (a0 : V_laws_Event) : Option ((V_int × (V_int × (V_int × (V_int × (V_int × (V_int × V_int))))))) := evalT E k 43 (.pair t_int (.pair t_int (.pair t_int (.pair t_int (.pair t_int (.pair t_int t_int)))))) [inp t_laws_Event a0] []
theorem laws_toEvent_eq (k : Nat) (a0 : V_laws_Event) : laws_toEvent (k + 1) a0 = some (a0.1, a0.2.1, a0.2.2.1, a0.2.2.2.1, a0.2.2.2.2.1, a0.2.2.2.2.2.1,
  a0.2.2.2.2.2.2) := by kernel_rfl

noncomputable def laws_toEventS (k : Nat) (a0 : V_sl_laws_Event) : Option (List V_impl_Event) := evalT E k 17 (.ow 70 t_impl_Event) [inp t_sl_laws_Event a0] []
noncomputable def laws_toEventS_3 (k : Nat) (j : Nat) (y0 : List V_laws_Event) (y1 : Int) (y2 : List V_impl_Event) : Option (List V_impl_Event) := loopAt E 17 (.ow 70 t_impl_Event) [true, true, false, true, false] [] k [] j (mkS 23 [(0, .c (.sl 72 t_laws_Event y0)), (3, .c (.o 0)), (4, .c (.int .i64 y1))]) [some (.own 70 t_impl_Event y2)]
theorem laws_toEventS_eq (k : Nat) (a0 : V_sl_laws_Event) : laws_toEventS (k + 1) a0 = 
 cond (decide ((↑(List.length a0) : Int) = (↑(List.length a0) : Int))) (
  cond (decide ((↑(List.length a0) : Int).toNat * 56 ≤ 140737488351232)) (laws_toEventS_3 k k a0 0 (List.replicate (↑(List.length a0) : Int).toNat (dflt t_impl_Event))) (none)) (none) := by kernel_rfl
theorem laws_toEventS_3_eq (k : Nat) (j : Nat) (y0 : List V_laws_Event) (y1 : Int) (y2 : List V_impl_Event) : laws_toEventS_3 k (j + 1) y0 y1 y2 = 
 cond (decide (y1 < (↑y0.length : Int))) (
  cond (decide (0 ≤ y1)) (
   cond (decide (y1 < (↑y0.length : Int))) (
    (laws_toEvent k (y0.getD y1.toNat (dflt t_laws_Event))).bind fun x0 => 
     cond (decide (0 ≤ y1)) (
      cond (decide (y1 < (↑y2.length : Int))) (
       cond (decide (y1.toNat < y2.length)) (laws_toEventS_3 k j y0 (IntKind.i64.wrap (y1 + 1)) (y2.set y1.toNat
  (x0.1, x0.2.1, x0.2.2.1, x0.2.2.2.1, x0.2.2.2.2.1, x0.2.2.2.2.2.1,
    x0.2.2.2.2.2.2))) (none)) (none)) (none)) (none)) (none)) (some y2) := by kernel_rfl

noncomputable def laws_toOut (k : Nat) (a0 : V_laws_Out) : Option ((V_int × (V_int × (V_int × (V_int × V_int))))) := evalT E k 37 (.pair t_int (.pair t_int (.pair t_int (.pair t_int t_int)))) [inp t_laws_Out a0] []
theorem laws_toOut_eq (k : Nat) (a0 : V_laws_Out) : laws_toOut (k + 1) a0 = some (a0.1, a0.2.1, a0.2.2.1, a0.2.2.2.1, a0.2.2.2.2) := by kernel_rfl

noncomputable def laws_toOutS (k : Nat) (a0 : V_sl_laws_Out) : Option (List V_impl_Out) := evalT E k 10 (.ow 61 t_impl_Out) [inp t_sl_laws_Out a0] []
noncomputable def laws_toOutS_3 (k : Nat) (j : Nat) (y0 : List V_laws_Out) (y1 : Int) (y2 : List V_impl_Out) : Option (List V_impl_Out) := loopAt E 10 (.ow 61 t_impl_Out) [true, true, false, true, false] [] k [] j (mkS 23 [(0, .c (.sl 63 t_laws_Out y0)), (3, .c (.o 0)), (4, .c (.int .i64 y1))]) [some (.own 61 t_impl_Out y2)]
theorem laws_toOutS_eq (k : Nat) (a0 : V_sl_laws_Out) : laws_toOutS (k + 1) a0 = 
 cond (decide ((↑(List.length a0) : Int) = (↑(List.length a0) : Int))) (
  cond (decide ((↑(List.length a0) : Int).toNat * 40 ≤ 140737488351232)) (laws_toOutS_3 k k a0 0 (List.replicate (↑(List.length a0) : Int).toNat (dflt t_impl_Out))) (none)) (none) := by kernel_rfl
theorem laws_toOutS_3_eq (k : Nat) (j : Nat) (y0 : List V_laws_Out) (y1 : Int) (y2 : List V_impl_Out) : laws_toOutS_3 k (j + 1) y0 y1 y2 = 
 cond (decide (y1 < (↑y0.length : Int))) (
  cond (decide (0 ≤ y1)) (
   cond (decide (y1 < (↑y0.length : Int))) (
    (laws_toOut k (y0.getD y1.toNat (dflt t_laws_Out))).bind fun x0 => 
     cond (decide (0 ≤ y1)) (
      cond (decide (y1 < (↑y2.length : Int))) (
       cond (decide (y1.toNat < y2.length)) (laws_toOutS_3 k j y0 (IntKind.i64.wrap (y1 + 1)) (y2.set y1.toNat (x0.1, x0.2.1, x0.2.2.1, x0.2.2.2.1, x0.2.2.2.2))) (none)) (none)) (none)) (none)) (none)) (some y2) := by kernel_rfl

noncomputable def laws_toSim (k : Nat) (a0 : V_laws_Sim) : Option ((List V_impl_State × (List V_impl_Event × List V_impl_Out))) := evalT E k 29 (.pair (.ow 105 t_impl_State) (.pair (.ow 70 t_impl_Event) (.ow 61 t_impl_Out))) [inp t_laws_Sim a0] []
theorem laws_toSim_eq (k : Nat) (a0 : V_laws_Sim) : laws_toSim (k + 1) a0 = 
 (laws_toStateS k a0.1).bind fun x0 => 
  (laws_toEventS k a0.2.1).bind fun x1 => 
   (laws_toOutS k a0.2.2).bind fun x2 => some (x0, x1, x2) := by kernel_rfl

noncomputable def spec_l2Most (k : Nat) : Option V_int := evalT E k 58 t_int [] []
theorem spec_l2Most_eq (k : Nat) : spec_l2Most (k + 1) = some 100 := by kernel_rfl

noncomputable def spec_l6In (k : Nat) (a0 : V_int) (a1 : V_int) (a2 : V_int) : Option V_bool := evalT E k 51 t_bool [inp t_int a0, inp t_int a1, inp t_int a2] []
theorem spec_l6In_eq (k : Nat) (a0 : V_int) (a1 : V_int) (a2 : V_int) : spec_l6In (k + 1) a0 a1 a2 = 
 cond (decide (a0 ≥ a1)) (some (decide (a0 ≤ a2))) (some false) := by kernel_rfl

noncomputable def spec_l1Proc (k : Nat) (a0 : V_int) : Option V_bool := evalT E k 79 t_bool [inp t_int a0] []
theorem spec_l1Proc_eq (k : Nat) (a0 : V_int) : spec_l1Proc (k + 1) a0 = 
 (spec_l6In k a0 0 3).bind fun x0 => some x0 := by kernel_rfl

noncomputable def spec_l1Num (k : Nat) (a0 : V_int) : Option V_bool := evalT E k 80 t_bool [inp t_int a0] []
theorem spec_l1Num_eq (k : Nat) (a0 : V_int) : spec_l1Num (k + 1) a0 = 
 (spec_l6In k a0 0 999).bind fun x0 => some x0 := by kernel_rfl

noncomputable def spec_l1EventOk (k : Nat) (a0 : V_impl_Event) : Option V_bool := evalT E k 78 t_bool [inp t_impl_Event a0] []
theorem spec_l1EventOk_eq (k : Nat) (a0 : V_impl_Event) : spec_l1EventOk (k + 1) a0 = 
 (spec_l6In k a0.1 0 40).bind fun x0 => 
  cond (x0) (
   (spec_l1Proc k a0.2.1).bind fun x1 => 
    cond (x1) (
     (spec_l6In k a0.2.2.1 (-1) 3).bind fun x2 => 
      cond (x2) (
       (spec_l6In k a0.2.2.2.1 0 12).bind fun x3 => 
        cond (x3) (
         (spec_l6In k a0.2.2.2.2.1 0 3).bind fun x4 => 
          cond (x4) (
           (spec_l6In k a0.2.2.2.2.2.1 0 3).bind fun x5 => 
            cond (x5) (
             (spec_l1Num k a0.2.2.2.2.2.2).bind fun x6 => some x6) (some false)) (some false)) (some false)) (some false)) (some false)) (some false) := by kernel_rfl

noncomputable def spec_EventLess (k : Nat) (a0 : V_impl_Event) (a1 : V_impl_Event) : Option V_bool := evalT E k 42 t_bool [inp t_impl_Event a0, inp t_impl_Event a1] []
theorem spec_EventLess_eq (k : Nat) (a0 : V_impl_Event) (a1 : V_impl_Event) : spec_EventLess (k + 1) a0 a1 = 
 cond (a0.1 != a1.1) (some (decide (a0.1 < a1.1))) (
  cond (a0.2.1 != a1.2.1) (some (decide (a0.2.1 < a1.2.1))) (
   cond (a0.2.2.1 != a1.2.2.1) (some (decide (a0.2.2.1 < a1.2.2.1))) (
    cond (a0.2.2.2.1 != a1.2.2.2.1) (some (decide (a0.2.2.2.1 < a1.2.2.2.1))) (
     cond (a0.2.2.2.2.1 != a1.2.2.2.2.1) (some (decide (a0.2.2.2.2.1 < a1.2.2.2.2.1))) (
      cond (a0.2.2.2.2.2.1 != a1.2.2.2.2.2.1) (some (decide (a0.2.2.2.2.2.1 < a1.2.2.2.2.2.1))) (some (decide (a0.2.2.2.2.2.2 < a1.2.2.2.2.2.2)))))))) := by kernel_rfl

noncomputable def spec_l2Events (k : Nat) (a0 : V_sl_impl_Event) (a1 : V_int) : Option V_bool := evalT E k 57 t_bool [inp t_sl_impl_Event a0, inp t_int a1] []
noncomputable def spec_l2Events_4 (k : Nat) (j : Nat) (y0 : List V_impl_Event) (y1 : Int) : Option V_bool := loopAt E 57 t_bool [true, true, false, true, false] [] k [] j (mkS 39 [(0, .c (.sl 70 t_impl_Event y0)), (5, .c (.int .i64 y1))]) []
theorem spec_l2Events_eq (k : Nat) (a0 : V_sl_impl_Event) (a1 : V_int) : spec_l2Events (k + 1) a0 a1 = 
 cond (decide ((↑(List.length a0) : Int) > a1)) (some false) (spec_l2Events_4 k k a0 0) := by kernel_rfl
theorem spec_l2Events_4_eq (k : Nat) (j : Nat) (y0 : List V_impl_Event) (y1 : Int) : spec_l2Events_4 k (j + 1) y0 y1 = 
 cond (decide (y1 < (↑y0.length : Int))) (
  cond (decide (0 ≤ y1)) (
   cond (decide (y1 < (↑y0.length : Int))) (
    (spec_l1EventOk k (y0.getD y1.toNat (dflt t_impl_Event))).bind fun x0 => 
     cond (!x0) (some false) (
      cond (decide (y1 > 0)) (
       cond (decide (0 ≤ IntKind.i64.wrap (y1 - 1))) (
        cond (decide (IntKind.i64.wrap (y1 - 1) < (↑y0.length : Int))) (
         cond (decide (0 ≤ y1)) (
          cond (decide (y1 < (↑y0.length : Int))) (
           (spec_EventLess k (y0.getD (IntKind.i64.wrap (y1 - 1)).toNat (dflt t_impl_Event)) (y0.getD y1.toNat (dflt t_impl_Event))).bind fun x1 => 
            cond (!x1) (some false) (spec_l2Events_4 k j y0 (IntKind.i64.wrap (y1 + 1)))) (none)) (none)) (none)) (none)) (spec_l2Events_4 k j y0 (IntKind.i64.wrap (y1 + 1))))) (none)) (none)) (some true) := by kernel_rfl

noncomputable def spec_OutLess (k : Nat) (a0 : V_impl_Out) (a1 : V_impl_Out) : Option V_bool := evalT E k 36 t_bool [inp t_impl_Out a0, inp t_impl_Out a1] []
theorem spec_OutLess_eq (k : Nat) (a0 : V_impl_Out) (a1 : V_impl_Out) : spec_OutLess (k + 1) a0 a1 = 
 cond (a0.1 != a1.1) (some (decide (a0.1 < a1.1))) (
  cond (a0.2.1 != a1.2.1) (some (decide (a0.2.1 < a1.2.1))) (
   cond (a0.2.2.1 != a1.2.2.1) (some (decide (a0.2.2.1 < a1.2.2.1))) (
    cond (a0.2.2.2.1 != a1.2.2.2.1) (some (decide (a0.2.2.2.1 < a1.2.2.2.1))) (some (decide (a0.2.2.2.2 < a1.2.2.2.2)))))) := by kernel_rfl

noncomputable def spec_l2Outs (k : Nat) (a0 : V_sl_impl_Out) (a1 : V_int) : Option V_bool := evalT E k 59 t_bool [inp t_sl_impl_Out a0, inp t_int a1] []
noncomputable def spec_l2Outs_4 (k : Nat) (j : Nat) (y0 : List V_impl_Out) (y1 : Int) : Option V_bool := loopAt E 59 t_bool [true, true, false, true, false] [] k [] j (mkS 63 [(0, .c (.sl 61 t_impl_Out y0)), (5, .c (.int .i64 y1))]) []
theorem spec_l2Outs_eq (k : Nat) (a0 : V_sl_impl_Out) (a1 : V_int) : spec_l2Outs (k + 1) a0 a1 = 
 cond (decide ((↑(List.length a0) : Int) > a1)) (some false) (spec_l2Outs_4 k k a0 0) := by kernel_rfl
theorem spec_l2Outs_4_eq (k : Nat) (j : Nat) (y0 : List V_impl_Out) (y1 : Int) : spec_l2Outs_4 k (j + 1) y0 y1 = 
 cond (decide (y1 < (↑y0.length : Int))) (
  cond (decide (0 ≤ y1)) (
   cond (decide (y1 < (↑y0.length : Int))) (
    (spec_l6In k ((y0.getD y1.toNat (dflt t_impl_Out)).1) 0 40).bind fun x0 => 
     cond (!x0) (some false) (
      (spec_l1Proc k ((y0.getD y1.toNat (dflt t_impl_Out)).2.1)).bind fun x1 => 
       cond (!x1) (some false) (
        (spec_l6In k ((y0.getD y1.toNat (dflt t_impl_Out)).2.2.1) 0 11).bind fun x2 => 
         cond (!x2) (some false) (
          (spec_l6In k ((y0.getD y1.toNat (dflt t_impl_Out)).2.2.2.1) 0 1).bind fun x3 => 
           cond (!x3) (some false) (
            (spec_l1Num k ((y0.getD y1.toNat (dflt t_impl_Out)).2.2.2.2)).bind fun x4 => 
             cond (!x4) (some false) (
              cond (decide (y1 > 0)) (
               cond (decide (0 ≤ IntKind.i64.wrap (y1 - 1))) (
                cond (decide (IntKind.i64.wrap (y1 - 1) < (↑y0.length : Int))) (
                 (spec_OutLess k (y0.getD (IntKind.i64.wrap (y1 - 1)).toNat (dflt t_impl_Out)) (y0.getD y1.toNat (dflt t_impl_Out))).bind fun x5 => 
                  cond (!x5) (some false) (spec_l2Outs_4 k j y0 (IntKind.i64.wrap (y1 + 1)))) (none)) (none)) (spec_l2Outs_4 k j y0 (IntKind.i64.wrap (y1 + 1))))))))) (none)) (none)) (some true) := by kernel_rfl

noncomputable def spec_l1StateOk (k : Nat) (a0 : V_impl_State) : Option V_bool := evalT E k 60 t_bool [inp t_impl_State a0] []
theorem spec_l1StateOk_eq (k : Nat) (a0 : V_impl_State) : spec_l1StateOk (k + 1) a0 = 
 (spec_l1Num k a0.1).bind fun x0 => 
  cond (x0) (
   (spec_l1Num k a0.2.1).bind fun x1 => 
    cond (x1) (
     (spec_l6In k a0.2.2 0 12).bind fun x2 => some x2) (some false)) (some false) := by kernel_rfl

noncomputable def spec_SimOk (k : Nat) (a0 : V_impl_Sim) : Option V_bool := evalT E k 28 t_bool [inp t_impl_Sim a0] []
noncomputable def spec_SimOk_4 (k : Nat) (j : Nat) (y0 : Int) (y1 : V_impl_Sim) : Option V_bool := loopAt E 28 t_bool [true, true, false, true, false] [] k [] j (mkS 35 [(1, .c (.p 0 0)), (3, .c (.int .i64 y0))]) [some (.box 52 (cells t_impl_Sim y1))]
theorem spec_SimOk_eq (k : Nat) (a0 : V_impl_Sim) : spec_SimOk (k + 1) a0 = 
 cond ((↑(List.length a0.1) : Int) != 4) (some false) (
  (spec_l2Most k ).bind fun x0 => 
   (spec_l2Events k a0.2.1 x0).bind fun x1 => 
    cond (!x1) (some false) (
     (spec_l2Outs k a0.2.2 96).bind fun x2 => 
      cond (!x2) (some false) (spec_SimOk_4 k k 0 a0))) := by kernel_rfl
theorem spec_SimOk_4_eq (k : Nat) (j : Nat) (y0 : Int) (y1 : V_impl_Sim) : spec_SimOk_4 k (j + 1) y0 y1 = 
 cond (decide (y0 < (↑(List.length y1.1) : Int))) (
  cond (decide (0 ≤ y0)) (
   cond (decide (y0 < (↑(List.length y1.1) : Int))) (
    (spec_l1StateOk k (List.getD y1.1 y0.toNat (dflt t_impl_State))).bind fun x0 => 
     cond (!x0) (some false) (spec_SimOk_4 k j (IntKind.i64.wrap (y0 + 1)) y1)) (none)) (none)) (some true) := by kernel_rfl

noncomputable def impl_within (k : Nat) (a0 : V_int) (a1 : V_int) (a2 : V_int) : Option V_bool := evalT E k 83 t_bool [inp t_int a0, inp t_int a1, inp t_int a2] []
theorem impl_within_eq (k : Nat) (a0 : V_int) (a1 : V_int) (a2 : V_int) : impl_within (k + 1) a0 a1 a2 = 
 cond (decide (a0 ≥ a1)) (some (decide (a0 ≤ a2))) (some false) := by kernel_rfl

noncomputable def impl_isNum (k : Nat) (a0 : V_int) : Option V_bool := evalT E k 82 t_bool [inp t_int a0] []
theorem impl_isNum_eq (k : Nat) (a0 : V_int) : impl_isNum (k + 1) a0 = 
 (impl_within k a0 0 999).bind fun x0 => some x0 := by kernel_rfl

noncomputable def impl_stateOk (k : Nat) (a0 : V_impl_State) : Option V_bool := evalT E k 62 t_bool [inp t_impl_State a0] []
theorem impl_stateOk_eq (k : Nat) (a0 : V_impl_State) : impl_stateOk (k + 1) a0 = 
 (impl_isNum k a0.1).bind fun x0 => 
  cond (x0) (
   (impl_isNum k a0.2.1).bind fun x1 => 
    cond (x1) (
     (impl_within k a0.2.2 0 12).bind fun x2 => some x2) (some false)) (some false) := by kernel_rfl

noncomputable def impl_isProc (k : Nat) (a0 : V_int) : Option V_bool := evalT E k 86 t_bool [inp t_int a0] []
theorem impl_isProc_eq (k : Nat) (a0 : V_int) : impl_isProc (k + 1) a0 = 
 (impl_within k a0 0 3).bind fun x0 => some x0 := by kernel_rfl

noncomputable def impl_isKind (k : Nat) (a0 : V_int) : Option V_bool := evalT E k 94 t_bool [inp t_int a0] []
theorem impl_isKind_eq (k : Nat) (a0 : V_int) : impl_isKind (k + 1) a0 = 
 (impl_within k a0 0 3).bind fun x0 => some x0 := by kernel_rfl

noncomputable def impl_eventOk (k : Nat) (a0 : V_impl_Event) : Option V_bool := evalT E k 84 t_bool [inp t_impl_Event a0] []
theorem impl_eventOk_eq (k : Nat) (a0 : V_impl_Event) : impl_eventOk (k + 1) a0 = 
 (impl_within k a0.1 0 40).bind fun x0 => 
  cond (x0) (
   (impl_isProc k a0.2.1).bind fun x1 => 
    cond (x1) (
     (impl_within k a0.2.2.1 (-1) 3).bind fun x2 => 
      cond (x2) (
       (impl_within k a0.2.2.2.1 0 12).bind fun x3 => 
        cond (x3) (
         (impl_within k a0.2.2.2.2.1 0 3).bind fun x4 => 
          cond (x4) (
           (impl_isKind k a0.2.2.2.2.2.1).bind fun x5 => 
            cond (x5) (
             (impl_isNum k a0.2.2.2.2.2.2).bind fun x6 => some x6) (some false)) (some false)) (some false)) (some false)) (some false)) (some false) := by kernel_rfl

noncomputable def impl_keyOf (k : Nat) (a0 : V_impl_Event) : Option ((V_int × (V_int × (V_int × (V_int × (V_int × (V_int × V_int))))))) := evalT E k 45 (.pair t_int (.pair t_int (.pair t_int (.pair t_int (.pair t_int (.pair t_int t_int)))))) [inp t_impl_Event a0] []
theorem impl_keyOf_eq (k : Nat) (a0 : V_impl_Event) : impl_keyOf (k + 1) a0 = some (a0.1, a0.2.1, a0.2.2.1, a0.2.2.2.1, a0.2.2.2.2.1, a0.2.2.2.2.2.1,
  a0.2.2.2.2.2.2) := by kernel_rfl

noncomputable def cmp_isNaN_int (k : Nat) (a0 : V_int) : Option V_bool := evalT E k 96 t_bool [inp t_int a0] []
theorem cmp_isNaN_int_eq (k : Nat) (a0 : V_int) : cmp_isNaN_int (k + 1) a0 = some (a0 != a0) := by kernel_rfl

noncomputable def cmp_Compare_int (k : Nat) (a0 : V_int) (a1 : V_int) : Option V_int := evalT E k 89 t_int [inp t_int a0, inp t_int a1] []
theorem cmp_Compare_int_eq (k : Nat) (a0 : V_int) (a1 : V_int) : cmp_Compare_int (k + 1) a0 a1 = 
 (cmp_isNaN_int k a0).bind fun x0 => 
  (cmp_isNaN_int k a1).bind fun x1 => 
   cond (x0) (
    cond (x1) (some 0) (some (-1))) (
    cond (x1) (some 1) (
     cond (decide (a0 < a1)) (some (-1)) (
      cond (decide (a0 > a1)) (some 1) (some 0)))) := by kernel_rfl

noncomputable def slices_Compare_int_int (k : Nat) (a0 : V_sl_int) (a1 : V_sl_int) : Option V_int := evalT E k 70 t_int [inp t_sl_int a0, inp t_sl_int a1] []
noncomputable def slices_Compare_int_int_2 (k : Nat) (j : Nat) (y0 : List V_int) (y1 : List V_int) (y2 : List V_int) (y3 : Int) (y4 : Int) : Option V_int := loopAt E 70 t_int [true, false, true, false] [] k [] j (mkS 36 [(0, .c (.sl 3 t_int y0)), (1, .c (.sl 3 t_int y1)), (9, .c (.sl 3 t_int y2)), (10, .c (.int .i64 y3)), (11, .c (.int .i64 y4))]) []
theorem slices_Compare_int_int_eq (k : Nat) (a0 : V_sl_int) (a1 : V_sl_int) : slices_Compare_int_int (k + 1) a0 a1 = slices_Compare_int_int_2 k k a0 a1 a0 ((↑(List.length a0) : Int)) 0 := by kernel_rfl
theorem slices_Compare_int_int_2_eq (k : Nat) (j : Nat) (y0 : List V_int) (y1 : List V_int) (y2 : List V_int) (y3 : Int) (y4 : Int) : slices_Compare_int_int_2 k (j + 1) y0 y1 y2 y3 y4 = 
 cond (decide (y4 < y3)) (
  cond (decide (0 ≤ y4)) (
   cond (decide (y4 < (↑y2.length : Int))) (
    cond (decide (y4 ≥ (↑y1.length : Int))) (some 1) (
     cond (decide (0 ≤ y4)) (
      cond (decide (y4 < (↑y1.length : Int))) (
       (cmp_Compare_int k (y2.getD y4.toNat (dflt t_int)) (y1.getD y4.toNat (dflt t_int))).bind fun x0 => 
        cond (x0 != 0) (some x0) (slices_Compare_int_int_2 k j y0 y1 y2 y3 (IntKind.i64.wrap (y4 + 1)))) (none)) (none))) (none)) (none)) (
  cond (decide ((↑y0.length : Int) < (↑y1.length : Int))) (some (-1)) (some 0)) := by kernel_rfl

noncomputable def impl_keyLess (k : Nat) (a0 : V_impl_eventKey) (a1 : V_impl_eventKey) : Option V_bool := evalT E k 44 t_bool [inp t_impl_eventKey a0, inp t_impl_eventKey a1] []
theorem impl_keyLess_eq (k : Nat) (a0 : V_impl_eventKey) (a1 : V_impl_eventKey) : impl_keyLess (k + 1) a0 a1 = 
 (slices_Compare_int_int k [a0.1, a0.2.1, a0.2.2.1, a0.2.2.2.1, a0.2.2.2.2.1, a0.2.2.2.2.2.1,
  a0.2.2.2.2.2.2] [a1.1, a1.2.1, a1.2.2.1, a1.2.2.2.1, a1.2.2.2.2.1, a1.2.2.2.2.2.1,
  a1.2.2.2.2.2.2]).bind fun x0 => some (decide (x0 < 0)) := by kernel_rfl

noncomputable def impl_EventLess (k : Nat) (a0 : V_impl_Event) (a1 : V_impl_Event) : Option V_bool := evalT E k 85 t_bool [inp t_impl_Event a0, inp t_impl_Event a1] []
theorem impl_EventLess_eq (k : Nat) (a0 : V_impl_Event) (a1 : V_impl_Event) : impl_EventLess (k + 1) a0 a1 = 
 (impl_keyOf k a0).bind fun x0 => 
  (impl_keyOf k a1).bind fun x1 => 
   (impl_keyLess k x0 x1).bind fun x2 => some x2 := by kernel_rfl

noncomputable def impl_eventsOk (k : Nat) (a0 : V_sl_impl_Event) (a1 : V_int) : Option V_bool := evalT E k 63 t_bool [inp t_sl_impl_Event a0, inp t_int a1] []
noncomputable def impl_eventsOk_4 (k : Nat) (j : Nat) (y0 : List V_impl_Event) (y1 : List V_impl_Event) (y2 : Int) (y3 : Int) : Option V_bool := loopAt E 63 t_bool [true, true, false, true, false] [] k [] j (mkS 36 [(0, .c (.sl 70 t_impl_Event y0)), (11, .c (.sl 70 t_impl_Event y1)), (12, .c (.int .i64 y2)), (13, .c (.int .i64 y3))]) []
theorem impl_eventsOk_eq (k : Nat) (a0 : V_sl_impl_Event) (a1 : V_int) : impl_eventsOk (k + 1) a0 a1 = 
 cond (decide ((↑(List.length a0) : Int) > a1)) (some false) (impl_eventsOk_4 k k a0 a0 ((↑(List.length a0) : Int)) 0) := by kernel_rfl
theorem impl_eventsOk_4_eq (k : Nat) (j : Nat) (y0 : List V_impl_Event) (y1 : List V_impl_Event) (y2 : Int) (y3 : Int) : impl_eventsOk_4 k (j + 1) y0 y1 y2 y3 = 
 cond (decide (y3 < y2)) (
  cond (decide (0 ≤ y3)) (
   cond (decide (y3 < (↑y1.length : Int))) (
    (impl_eventOk k (y1.getD y3.toNat (dflt t_impl_Event))).bind fun x0 => 
     cond (!x0) (some false) (
      cond (decide (y3 > 0)) (
       cond (decide (0 ≤ IntKind.i64.wrap (y3 - 1))) (
        cond (decide (IntKind.i64.wrap (y3 - 1) < (↑y0.length : Int))) (
         (impl_EventLess k (y0.getD (IntKind.i64.wrap (y3 - 1)).toNat (dflt t_impl_Event)) (y1.getD y3.toNat (dflt t_impl_Event))).bind fun x1 => 
          cond (!x1) (some false) (impl_eventsOk_4 k j y0 y1 y2 (IntKind.i64.wrap (y3 + 1)))) (none)) (none)) (impl_eventsOk_4 k j y0 y1 y2 (IntKind.i64.wrap (y3 + 1))))) (none)) (none)) (some true) := by kernel_rfl

noncomputable def impl_OutLess (k : Nat) (a0 : V_impl_Out) (a1 : V_impl_Out) : Option V_bool := evalT E k 38 t_bool [inp t_impl_Out a0, inp t_impl_Out a1] []
theorem impl_OutLess_eq (k : Nat) (a0 : V_impl_Out) (a1 : V_impl_Out) : impl_OutLess (k + 1) a0 a1 = 
 (slices_Compare_int_int k [a0.1, a0.2.1, a0.2.2.1, a0.2.2.2.1, a0.2.2.2.2] [a1.1, a1.2.1, a1.2.2.1, a1.2.2.2.1, a1.2.2.2.2]).bind fun x0 => some (decide (x0 < 0)) := by kernel_rfl

noncomputable def impl_outsOk (k : Nat) (a0 : V_sl_impl_Out) (a1 : V_int) : Option V_bool := evalT E k 64 t_bool [inp t_sl_impl_Out a0, inp t_int a1] []
noncomputable def impl_outsOk_4 (k : Nat) (j : Nat) (y0 : List V_impl_Out) (y1 : List V_impl_Out) (y2 : Int) (y3 : Int) : Option V_bool := loopAt E 64 t_bool [true, true, false, true, false] [] k [] j (mkS 59 [(0, .c (.sl 61 t_impl_Out y0)), (12, .c (.sl 61 t_impl_Out y1)), (13, .c (.int .i64 y2)), (14, .c (.int .i64 y3))]) []
theorem impl_outsOk_eq (k : Nat) (a0 : V_sl_impl_Out) (a1 : V_int) : impl_outsOk (k + 1) a0 a1 = 
 cond (decide ((↑(List.length a0) : Int) > a1)) (some false) (impl_outsOk_4 k k a0 a0 ((↑(List.length a0) : Int)) 0) := by kernel_rfl
theorem impl_outsOk_4_eq (k : Nat) (j : Nat) (y0 : List V_impl_Out) (y1 : List V_impl_Out) (y2 : Int) (y3 : Int) : impl_outsOk_4 k (j + 1) y0 y1 y2 y3 = 
 cond (decide (y3 < y2)) (
  cond (decide (0 ≤ y3)) (
   cond (decide (y3 < (↑y1.length : Int))) (
    (impl_within k ((y1.getD y3.toNat (dflt t_impl_Out)).1) 0 40).bind fun x0 => 
     cond (x0) (
      (impl_isProc k ((y1.getD y3.toNat (dflt t_impl_Out)).2.1)).bind fun x1 => 
       cond (x1) (
        (impl_within k ((y1.getD y3.toNat (dflt t_impl_Out)).2.2.1) 0 11).bind fun x2 => 
         cond (x2) (
          (impl_within k ((y1.getD y3.toNat (dflt t_impl_Out)).2.2.2.1) 0 1).bind fun x3 => 
           cond (x3) (
            (impl_isNum k ((y1.getD y3.toNat (dflt t_impl_Out)).2.2.2.2)).bind fun x4 => 
             cond (!x4) (some false) (
              cond (decide (y3 > 0)) (
               cond (decide (0 ≤ IntKind.i64.wrap (y3 - 1))) (
                cond (decide (IntKind.i64.wrap (y3 - 1) < (↑y0.length : Int))) (
                 (impl_OutLess k (y0.getD (IntKind.i64.wrap (y3 - 1)).toNat (dflt t_impl_Out)) (y1.getD y3.toNat (dflt t_impl_Out))).bind fun x5 => 
                  cond (!x5) (some false) (impl_outsOk_4 k j y0 y1 y2 (IntKind.i64.wrap (y3 + 1)))) (none)) (none)) (impl_outsOk_4 k j y0 y1 y2 (IntKind.i64.wrap (y3 + 1))))) (some false)) (some false)) (some false)) (some false)) (none)) (none)) (some true) := by kernel_rfl

noncomputable def impl_SimOk (k : Nat) (a0 : V_impl_Sim) : Option V_bool := evalT E k 30 t_bool [inp t_impl_Sim a0] []
noncomputable def impl_SimOk_4 (k : Nat) (j : Nat) (y0 : List V_impl_State) (y1 : Int) (y2 : Int) (y3 : V_impl_Sim) : Option V_bool := loopAt E 30 t_bool [true, true, false, true, false] [] k [] j (mkS 28 [(1, .c (.p 0 0)), (10, .c (.sl 105 t_impl_State y0)), (11, .c (.int .i64 y1)), (12, .c (.int .i64 y2))]) [some (.box 52 (cells t_impl_Sim y3))]
theorem impl_SimOk_eq (k : Nat) (a0 : V_impl_Sim) : impl_SimOk (k + 1) a0 = 
 cond ((↑(List.length a0.1) : Int) != 4) (some false) (impl_SimOk_4 k k a0.1 ((↑(List.length a0.1) : Int)) 0 a0) := by kernel_rfl
theorem impl_SimOk_4_eq (k : Nat) (j : Nat) (y0 : List V_impl_State) (y1 : Int) (y2 : Int) (y3 : V_impl_Sim) : impl_SimOk_4 k (j + 1) y0 y1 y2 y3 = 
 cond (decide (y2 < y1)) (
  cond (decide (0 ≤ y2)) (
   cond (decide (y2 < (↑y0.length : Int))) (
    (impl_stateOk k (y0.getD y2.toNat (dflt t_impl_State))).bind fun x0 => 
     cond (!x0) (some false) (impl_SimOk_4 k j y0 y1 (IntKind.i64.wrap (y2 + 1)) y3)) (none)) (none)) (
  (impl_eventsOk k y3.2.1 100).bind fun x1 => 
   cond (x1) (
    (impl_outsOk k y3.2.2 96).bind fun x2 => some x2) (some false)) := by kernel_rfl

noncomputable def laws_eqState (k : Nat) (a0 : V_impl_State) (a1 : V_impl_State) : Option V_bool := evalT E k 87 t_bool [inp t_impl_State a0, inp t_impl_State a1] []
theorem laws_eqState_eq (k : Nat) (a0 : V_impl_State) (a1 : V_impl_State) : laws_eqState (k + 1) a0 a1 = 
 cond (a0.1 != a1.1) (some false) (
  cond (a0.2.1 != a1.2.1) (some false) (
   cond (a0.2.2 != a1.2.2) (some false) (some true))) := by kernel_rfl

noncomputable def laws_eqStateS (k : Nat) (a0 : V_sl_impl_State) (a1 : V_sl_impl_State) : Option V_bool := evalT E k 65 t_bool [inp t_sl_impl_State a0, inp t_sl_impl_State a1] []
noncomputable def laws_eqStateS_4 (k : Nat) (j : Nat) (y0 : List V_impl_State) (y1 : List V_impl_State) (y2 : Int) : Option V_bool := loopAt E 65 t_bool [true, true, false, true, false] [] k [] j (mkS 27 [(0, .c (.sl 105 t_impl_State y0)), (1, .c (.sl 105 t_impl_State y1)), (5, .c (.int .i64 y2))]) []
theorem laws_eqStateS_eq (k : Nat) (a0 : V_sl_impl_State) (a1 : V_sl_impl_State) : laws_eqStateS (k + 1) a0 a1 = 
 cond ((↑(List.length a0) : Int) != (↑(List.length a1) : Int)) (some false) (laws_eqStateS_4 k k a0 a1 0) := by kernel_rfl
theorem laws_eqStateS_4_eq (k : Nat) (j : Nat) (y0 : List V_impl_State) (y1 : List V_impl_State) (y2 : Int) : laws_eqStateS_4 k (j + 1) y0 y1 y2 = 
 cond (decide (y2 < (↑y0.length : Int))) (
  cond (decide (0 ≤ y2)) (
   cond (decide (y2 < (↑y0.length : Int))) (
    cond (decide (0 ≤ y2)) (
     cond (decide (y2 < (↑y1.length : Int))) (
      (laws_eqState k (y0.getD y2.toNat (dflt t_impl_State)) (y1.getD y2.toNat (dflt t_impl_State))).bind fun x0 => 
       cond (!x0) (some false) (laws_eqStateS_4 k j y0 y1 (IntKind.i64.wrap (y2 + 1)))) (none)) (none)) (none)) (none)) (some true) := by kernel_rfl

noncomputable def laws_eqEvent (k : Nat) (a0 : V_impl_Event) (a1 : V_impl_Event) : Option V_bool := evalT E k 49 t_bool [inp t_impl_Event a0, inp t_impl_Event a1] []
theorem laws_eqEvent_eq (k : Nat) (a0 : V_impl_Event) (a1 : V_impl_Event) : laws_eqEvent (k + 1) a0 a1 = 
 cond (a0.1 != a1.1) (some false) (
  cond (a0.2.1 != a1.2.1) (some false) (
   cond (a0.2.2.1 != a1.2.2.1) (some false) (
    cond (a0.2.2.2.1 != a1.2.2.2.1) (some false) (
     cond (a0.2.2.2.2.1 != a1.2.2.2.2.1) (some false) (
      cond (a0.2.2.2.2.2.1 != a1.2.2.2.2.2.1) (some false) (
       cond (a0.2.2.2.2.2.2 != a1.2.2.2.2.2.2) (some false) (some true))))))) := by kernel_rfl

noncomputable def laws_eqEventS (k : Nat) (a0 : V_sl_impl_Event) (a1 : V_sl_impl_Event) : Option V_bool := evalT E k 19 t_bool [inp t_sl_impl_Event a0, inp t_sl_impl_Event a1] []
noncomputable def laws_eqEventS_4 (k : Nat) (j : Nat) (y0 : List V_impl_Event) (y1 : List V_impl_Event) (y2 : Int) : Option V_bool := loopAt E 19 t_bool [true, true, false, true, false] [] k [] j (mkS 27 [(0, .c (.sl 70 t_impl_Event y0)), (1, .c (.sl 70 t_impl_Event y1)), (5, .c (.int .i64 y2))]) []
theorem laws_eqEventS_eq (k : Nat) (a0 : V_sl_impl_Event) (a1 : V_sl_impl_Event) : laws_eqEventS (k + 1) a0 a1 = 
 cond ((↑(List.length a0) : Int) != (↑(List.length a1) : Int)) (some false) (laws_eqEventS_4 k k a0 a1 0) := by kernel_rfl
theorem laws_eqEventS_4_eq (k : Nat) (j : Nat) (y0 : List V_impl_Event) (y1 : List V_impl_Event) (y2 : Int) : laws_eqEventS_4 k (j + 1) y0 y1 y2 = 
 cond (decide (y2 < (↑y0.length : Int))) (
  cond (decide (0 ≤ y2)) (
   cond (decide (y2 < (↑y0.length : Int))) (
    cond (decide (0 ≤ y2)) (
     cond (decide (y2 < (↑y1.length : Int))) (
      (laws_eqEvent k (y0.getD y2.toNat (dflt t_impl_Event)) (y1.getD y2.toNat (dflt t_impl_Event))).bind fun x0 => 
       cond (!x0) (some false) (laws_eqEventS_4 k j y0 y1 (IntKind.i64.wrap (y2 + 1)))) (none)) (none)) (none)) (none)) (some true) := by kernel_rfl

noncomputable def laws_eqOut (k : Nat) (a0 : V_impl_Out) (a1 : V_impl_Out) : Option V_bool := evalT E k 41 t_bool [inp t_impl_Out a0, inp t_impl_Out a1] []
theorem laws_eqOut_eq (k : Nat) (a0 : V_impl_Out) (a1 : V_impl_Out) : laws_eqOut (k + 1) a0 a1 = 
 cond (a0.1 != a1.1) (some false) (
  cond (a0.2.1 != a1.2.1) (some false) (
   cond (a0.2.2.1 != a1.2.2.1) (some false) (
    cond (a0.2.2.2.1 != a1.2.2.2.1) (some false) (
     cond (a0.2.2.2.2 != a1.2.2.2.2) (some false) (some true))))) := by kernel_rfl

noncomputable def laws_eqOutS (k : Nat) (a0 : V_sl_impl_Out) (a1 : V_sl_impl_Out) : Option V_bool := evalT E k 12 t_bool [inp t_sl_impl_Out a0, inp t_sl_impl_Out a1] []
noncomputable def laws_eqOutS_4 (k : Nat) (j : Nat) (y0 : List V_impl_Out) (y1 : List V_impl_Out) (y2 : Int) : Option V_bool := loopAt E 12 t_bool [true, true, false, true, false] [] k [] j (mkS 27 [(0, .c (.sl 61 t_impl_Out y0)), (1, .c (.sl 61 t_impl_Out y1)), (5, .c (.int .i64 y2))]) []
theorem laws_eqOutS_eq (k : Nat) (a0 : V_sl_impl_Out) (a1 : V_sl_impl_Out) : laws_eqOutS (k + 1) a0 a1 = 
 cond ((↑(List.length a0) : Int) != (↑(List.length a1) : Int)) (some false) (laws_eqOutS_4 k k a0 a1 0) := by kernel_rfl
theorem laws_eqOutS_4_eq (k : Nat) (j : Nat) (y0 : List V_impl_Out) (y1 : List V_impl_Out) (y2 : Int) : laws_eqOutS_4 k (j + 1) y0 y1 y2 = 
 cond (decide (y2 < (↑y0.length : Int))) (
  cond (decide (0 ≤ y2)) (
   cond (decide (y2 < (↑y0.length : Int))) (
    cond (decide (0 ≤ y2)) (
     cond (decide (y2 < (↑y1.length : Int))) (
      (laws_eqOut k (y0.getD y2.toNat (dflt t_impl_Out)) (y1.getD y2.toNat (dflt t_impl_Out))).bind fun x0 => 
       cond (!x0) (some false) (laws_eqOutS_4 k j y0 y1 (IntKind.i64.wrap (y2 + 1)))) (none)) (none)) (none)) (none)) (some true) := by kernel_rfl

noncomputable def laws_eqSim (k : Nat) (a0 : V_impl_Sim) (a1 : V_impl_Sim) : Option V_bool := evalT E k 31 t_bool [inp t_impl_Sim a0, inp t_impl_Sim a1] []
theorem laws_eqSim_eq (k : Nat) (a0 : V_impl_Sim) (a1 : V_impl_Sim) : laws_eqSim (k + 1) a0 a1 = 
 (laws_eqStateS k a0.1 a1.1).bind fun x0 => 
  cond (!x0) (some false) (
   (laws_eqEventS k a0.2.1 a1.2.1).bind fun x1 => 
    cond (!x1) (some false) (
     (laws_eqOutS k a0.2.2 a1.2.2).bind fun x2 => 
      cond (!x2) (some false) (some true))) := by kernel_rfl

noncomputable def laws_FnExactSimOk (k : Nat) (a0 : V_laws_Sim) : Option V_bool := evalT E k 6 t_bool [inp t_laws_Sim a0] []
theorem laws_FnExactSimOk_eq (k : Nat) (a0 : V_laws_Sim) : laws_FnExactSimOk (k + 1) a0 = 
 (laws_szSim k a0 1048576).bind fun x0 => 
  cond (decide (x0 < 0)) (some true) (
   (laws_toSim k a0).bind fun x1 => 
    (spec_SimOk k x1).bind fun x2 => 
     (laws_toSim k a0).bind fun x3 => 
      (impl_SimOk k x3).bind fun x4 => 
       cond (!x4 == x2) (some false) (
        (laws_toSim k a0).bind fun x5 => 
         (laws_eqSim k x3 x5).bind fun x6 => 
          cond (!x6) (some false) (some true))) := by kernel_rfl
def Goal : Prop := ∀ (a0 : V_laws_Sim), Go.Sx.Good t_laws_Sim a0 → ∃ k, laws_FnExactSimOk k a0 = some true
end Go.Proofs.Ytagkoaalbapnmaa.SFnExactSimOk
