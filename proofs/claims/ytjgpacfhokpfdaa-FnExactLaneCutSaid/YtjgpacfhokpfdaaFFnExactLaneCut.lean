/- What each function of the program answers: one step of the plain machine, by the kernel. -/
import Derived.Test.YtjgpacfhokpfdaaEFnExactLaneCut
set_option linter.unusedVariables false
set_option maxRecDepth 1000000
set_option maxHeartbeats 0
namespace Go.Proofs.Ytjgpacfhokpfdaa.SFnExactLaneCut
open Go Go.Sx Go.Proofs
noncomputable def laws_szEventS (k : Nat) (a0 : V_sl_laws_Event) (a1 : V_int) : Option V_int := evalT E k 21 t_int [inp t_sl_laws_Event a0, inp t_int a1] []
theorem laws_szEventS_eq (k : Nat) (a0 : V_sl_laws_Event) (a1 : V_int) : laws_szEventS (k + 1) a0 a1 = 
 cond (decide (IntKind.i64.wrap (a1 - (↑(List.length a0) : Int)) < 0)) (some (-1)) (some (IntKind.i64.wrap (a1 - (↑(List.length a0) : Int)))) := by kernel_rfl

noncomputable def laws_szOutS (k : Nat) (a0 : V_sl_laws_Out) (a1 : V_int) : Option V_int := evalT E k 99 t_int [inp t_sl_laws_Out a0, inp t_int a1] []
theorem laws_szOutS_eq (k : Nat) (a0 : V_sl_laws_Out) (a1 : V_int) : laws_szOutS (k + 1) a0 a1 = 
 cond (decide (IntKind.i64.wrap (a1 - (↑(List.length a0) : Int)) < 0)) (some (-1)) (some (IntKind.i64.wrap (a1 - (↑(List.length a0) : Int)))) := by kernel_rfl

noncomputable def laws_szPast (k : Nat) (a0 : V_laws_Past) (a1 : V_int) : Option V_int := evalT E k 127 t_int [inp t_laws_Past a0, inp t_int a1] []
theorem laws_szPast_eq (k : Nat) (a0 : V_laws_Past) (a1 : V_int) : laws_szPast (k + 1) a0 a1 = 
 (laws_szEventS k a0.2.2.1 a1).bind fun x0 => 
  cond (decide (x0 < 0)) (some (-1)) (
   (laws_szOutS k a0.2.2.2 x0).bind fun x1 => 
    cond (decide (x1 < 0)) (some (-1)) (some x1)) := by kernel_rfl

noncomputable def laws_szPastS (k : Nat) (a0 : V_sl_laws_Past) (a1 : V_int) : Option V_int := evalT E k 58 t_int [inp t_sl_laws_Past a0, inp t_int a1] []
noncomputable def laws_szPastS_5 (k : Nat) (j : Nat) (y0 : List V_laws_Past) (y1 : Int) (y2 : Int) : Option V_int := loopAt E 58 t_int [true, true, true, false, true, false] [] [] k [] j (mkS 27 [(0, .c (.sl 151 t_laws_Past y0)), (1, .c (.int .i64 y1)), (5, .c (.int .i64 y2))]) []
theorem laws_szPastS_eq (k : Nat) (a0 : V_sl_laws_Past) (a1 : V_int) : laws_szPastS (k + 1) a0 a1 = 
 cond (decide (IntKind.i64.wrap (a1 - (↑(List.length a0) : Int)) < 0)) (some (-1)) (laws_szPastS_5 k k a0 (IntKind.i64.wrap (a1 - (↑(List.length a0) : Int))) 0) := by kernel_rfl
theorem laws_szPastS_5_eq (k : Nat) (j : Nat) (y0 : List V_laws_Past) (y1 : Int) (y2 : Int) : laws_szPastS_5 k (j + 1) y0 y1 y2 = 
 cond (decide (y2 < (↑y0.length : Int))) (
  cond (decide (0 ≤ y2)) (
   cond (decide (y2 < (↑y0.length : Int))) (
    (laws_szPast k (y0.getD y2.toNat (dflt t_laws_Past)) y1).bind fun x0 => 
     cond (decide (x0 < 0)) (some (-1)) (laws_szPastS_5 k j y0 x0 (IntKind.i64.wrap (y2 + 1)))) (none)) (none)) (some y1) := by kernel_rfl

noncomputable def laws_szLane (k : Nat) (a0 : V_laws_Lane) (a1 : V_int) : Option V_int := evalT E k 13 t_int [inp t_laws_Lane a0, inp t_int a1] []
theorem laws_szLane_eq (k : Nat) (a0 : V_laws_Lane) (a1 : V_int) : laws_szLane (k + 1) a0 a1 = 
 (laws_szPastS k a0.2.2 a1).bind fun x0 => 
  cond (decide (x0 < 0)) (some (-1)) (some x0) := by kernel_rfl

noncomputable def laws_toState (k : Nat) (a0 : V_laws_State) : Option ((V_int × (V_int × V_int))) := evalT E k 64 (.pair t_int (.pair t_int t_int)) [inp t_laws_State a0] []
theorem laws_toState_eq (k : Nat) (a0 : V_laws_State) : laws_toState (k + 1) a0 = some (a0.1, a0.2.1, a0.2.2) := by kernel_rfl

noncomputable def laws_toEvent (k : Nat) (a0 : V_laws_Event) : Option ((V_int × (V_int × (V_int × (V_int × (V_int × (V_int × V_int))))))) := evalT E k 74 (.pair t_int (.pair t_int (.pair t_int (.pair t_int (.pair t_int (.pair t_int t_int)))))) [inp t_laws_Event a0] []
theorem laws_toEvent_eq (k : Nat) (a0 : V_laws_Event) : laws_toEvent (k + 1) a0 = some (a0.1, a0.2.1, a0.2.2.1, a0.2.2.2.1, a0.2.2.2.2.1, a0.2.2.2.2.2.1,
  a0.2.2.2.2.2.2) := by kernel_rfl

noncomputable def laws_toEventS (k : Nat) (a0 : V_sl_laws_Event) : Option (List V_impl_Event) := evalT E k 23 (.ow 41 t_impl_Event) [inp t_sl_laws_Event a0] []
noncomputable def laws_toEventS_3 (k : Nat) (j : Nat) (y0 : List V_laws_Event) (y1 : Int) (y2 : List V_impl_Event) : Option (List V_impl_Event) := loopAt E 23 (.ow 41 t_impl_Event) [true, true, false, true, false] [] [] k [] j (mkS 23 [(0, .c (.sl 103 t_laws_Event y0)), (3, .c (.o 0)), (4, .c (.int .i64 y1))]) [some (.own 41 t_impl_Event y2)]
theorem laws_toEventS_eq (k : Nat) (a0 : V_sl_laws_Event) : laws_toEventS (k + 1) a0 = 
 cond (decide ((↑(List.length a0) : Int) ≤ (↑(List.length a0) : Int))) (
  cond (decide ((↑(List.length a0) : Int).toNat * 56 ≤ 140737488351232)) (laws_toEventS_3 k k a0 0 (List.replicate (↑(List.length a0) : Int).toNat (dflt t_impl_Event))) (none)) (none) := by kernel_rfl
theorem laws_toEventS_3_eq (k : Nat) (j : Nat) (y0 : List V_laws_Event) (y1 : Int) (y2 : List V_impl_Event) : laws_toEventS_3 k (j + 1) y0 y1 y2 = 
 cond (decide (y1 < (↑y0.length : Int))) (
  cond (decide (0 ≤ y1)) (
   cond (decide (y1 < (↑y0.length : Int))) (
    (laws_toEvent k (y0.getD y1.toNat (dflt t_laws_Event))).bind fun x0 => 
     cond (decide (0 ≤ y1)) (
      cond (decide (y1 < (↑y2.length : Int))) (
       cond (decide (y1.toNat < y2.length)) (laws_toEventS_3 k j y0 (IntKind.i64.wrap (y1 + 1)) (y2.set y1.toNat
  (x0.1, x0.2.1, x0.2.2.1, x0.2.2.2.1, x0.2.2.2.2.1, x0.2.2.2.2.2.1,
    x0.2.2.2.2.2.2))) (none)) (none)) (none)) (none)) (none)) (some y2) := by kernel_rfl

noncomputable def laws_toOut (k : Nat) (a0 : V_laws_Out) : Option ((V_int × (V_int × (V_int × (V_int × V_int))))) := evalT E k 149 (.pair t_int (.pair t_int (.pair t_int (.pair t_int t_int)))) [inp t_laws_Out a0] []
theorem laws_toOut_eq (k : Nat) (a0 : V_laws_Out) : laws_toOut (k + 1) a0 = some (a0.1, a0.2.1, a0.2.2.1, a0.2.2.2.1, a0.2.2.2.2) := by kernel_rfl

noncomputable def laws_toOutS (k : Nat) (a0 : V_sl_laws_Out) : Option (List V_impl_Out) := evalT E k 101 (.ow 111 t_impl_Out) [inp t_sl_laws_Out a0] []
noncomputable def laws_toOutS_3 (k : Nat) (j : Nat) (y0 : List V_laws_Out) (y1 : Int) (y2 : List V_impl_Out) : Option (List V_impl_Out) := loopAt E 101 (.ow 111 t_impl_Out) [true, true, false, true, false] [] [] k [] j (mkS 23 [(0, .c (.sl 172 t_laws_Out y0)), (3, .c (.o 0)), (4, .c (.int .i64 y1))]) [some (.own 111 t_impl_Out y2)]
theorem laws_toOutS_eq (k : Nat) (a0 : V_sl_laws_Out) : laws_toOutS (k + 1) a0 = 
 cond (decide ((↑(List.length a0) : Int) ≤ (↑(List.length a0) : Int))) (
  cond (decide ((↑(List.length a0) : Int).toNat * 40 ≤ 140737488351232)) (laws_toOutS_3 k k a0 0 (List.replicate (↑(List.length a0) : Int).toNat (dflt t_impl_Out))) (none)) (none) := by kernel_rfl
theorem laws_toOutS_3_eq (k : Nat) (j : Nat) (y0 : List V_laws_Out) (y1 : Int) (y2 : List V_impl_Out) : laws_toOutS_3 k (j + 1) y0 y1 y2 = 
 cond (decide (y1 < (↑y0.length : Int))) (
  cond (decide (0 ≤ y1)) (
   cond (decide (y1 < (↑y0.length : Int))) (
    (laws_toOut k (y0.getD y1.toNat (dflt t_laws_Out))).bind fun x0 => 
     cond (decide (0 ≤ y1)) (
      cond (decide (y1 < (↑y2.length : Int))) (
       cond (decide (y1.toNat < y2.length)) (laws_toOutS_3 k j y0 (IntKind.i64.wrap (y1 + 1)) (y2.set y1.toNat (x0.1, x0.2.1, x0.2.2.1, x0.2.2.2.1, x0.2.2.2.2))) (none)) (none)) (none)) (none)) (none)) (some y2) := by kernel_rfl

noncomputable def laws_toPast (k : Nat) (a0 : V_laws_Past) : Option (((V_int × (V_int × (V_int × (V_int × (V_int × (V_int × V_int)))))) × ((V_int × (V_int × V_int)) × (List V_impl_Event × List V_impl_Out)))) := evalT E k 130 (.pair (.pair t_int (.pair t_int (.pair t_int (.pair t_int (.pair t_int (.pair t_int t_int)))))) (.pair (.pair t_int (.pair t_int t_int)) (.pair (.ow 41 t_impl_Event) (.ow 111 t_impl_Out)))) [inp t_laws_Past a0] []
theorem laws_toPast_eq (k : Nat) (a0 : V_laws_Past) : laws_toPast (k + 1) a0 = 
 (laws_toEvent k a0.1).bind fun x0 => 
  (laws_toState k a0.2.1).bind fun x1 => 
   (laws_toEventS k a0.2.2.1).bind fun x2 => 
    (laws_toOutS k a0.2.2.2).bind fun x3 => some (((x0.1, x0.2.1, x0.2.2.1, x0.2.2.2.1, x0.2.2.2.2.1, x0.2.2.2.2.2.1,
    x0.2.2.2.2.2.2),
  (x1.1, x1.2.1, x1.2.2), x2, x3)) := by kernel_rfl

noncomputable def laws_toPastS (k : Nat) (a0 : V_sl_laws_Past) : Option (List V_impl_Past) := evalT E k 65 (.dw 96 t_impl_Past) [inp t_sl_laws_Past a0] []
noncomputable def laws_toPastS_3 (k : Nat) (j : Nat) (y0 : List V_laws_Past) (y1 : Int) (y2 : List V_impl_Past) : Option (List V_impl_Past) := loopAt E 65 (.dw 96 t_impl_Past) [true, true, false, true, false] [] [] k [] j (mkS 23 [(0, .c (.sl 151 t_laws_Past y0)), (3, .c (.o 0)), (4, .c (.int .i64 y1))]) [some (.dp 96 t_impl_Past y2)]
theorem laws_toPastS_eq (k : Nat) (a0 : V_sl_laws_Past) : laws_toPastS (k + 1) a0 = 
 cond (decide ((↑(List.length a0) : Int) ≤ (↑(List.length a0) : Int))) (
  cond (decide ((↑(List.length a0) : Int).toNat * 128 ≤ 140737488351232)) (laws_toPastS_3 k k a0 0 (List.replicate (↑(List.length a0) : Int).toNat (dflt t_impl_Past))) (none)) (none) := by kernel_rfl
theorem laws_toPastS_3_eq (k : Nat) (j : Nat) (y0 : List V_laws_Past) (y1 : Int) (y2 : List V_impl_Past) : laws_toPastS_3 k (j + 1) y0 y1 y2 = 
 cond (decide (y1 < (↑y0.length : Int))) (
  cond (decide (0 ≤ y1)) (
   cond (decide (y1 < (↑y0.length : Int))) (
    (laws_toPast k (y0.getD y1.toNat (dflt t_laws_Past))).bind fun x0 => 
     cond (decide (0 ≤ y1)) (
      cond (decide (y1 < (↑y2.length : Int))) (
       cond (decide (y1.toNat < y2.length)) (laws_toPastS_3 k j y0 (IntKind.i64.wrap (y1 + 1)) (y2.set y1.toNat
  ((x0.1.1, x0.1.2.1, x0.1.2.2.1, x0.1.2.2.2.1, x0.1.2.2.2.2.1,
      x0.1.2.2.2.2.2.1, x0.1.2.2.2.2.2.2),
    (x0.2.1.1, x0.2.1.2.1, x0.2.1.2.2), x0.2.2.1, x0.2.2.2))) (none)) (none)) (none)) (none)) (none)) (some y2) := by kernel_rfl

noncomputable def laws_toLane (k : Nat) (a0 : V_laws_Lane) : Option ((V_int × (V_impl_State × List V_impl_Past))) := evalT E k 15 (.pair t_int (.pair t_impl_State (.dw 96 t_impl_Past))) [inp t_laws_Lane a0] []
theorem laws_toLane_eq (k : Nat) (a0 : V_laws_Lane) : laws_toLane (k + 1) a0 = 
 (laws_toState k a0.2.1).bind fun x0 => 
  (laws_toPastS k a0.2.2).bind fun x1 => some ((a0.1, (x0.1, x0.2.1, x0.2.2), x1)) := by kernel_rfl

noncomputable def spec_l6In (k : Nat) (a0 : V_int) (a1 : V_int) (a2 : V_int) : Option V_bool := evalT E k 88 t_bool [inp t_int a0, inp t_int a1, inp t_int a2] []
theorem spec_l6In_eq (k : Nat) (a0 : V_int) (a1 : V_int) (a2 : V_int) : spec_l6In (k + 1) a0 a1 a2 = 
 cond (decide (a0 ≥ a1)) (some (decide (a0 ≤ a2))) (some false) := by kernel_rfl

noncomputable def spec_l1Proc (k : Nat) (a0 : V_int) : Option V_bool := evalT E k 59 t_bool [inp t_int a0] []
theorem spec_l1Proc_eq (k : Nat) (a0 : V_int) : spec_l1Proc (k + 1) a0 = 
 (spec_l6In k a0 0 3).bind fun x0 => some x0 := by kernel_rfl

noncomputable def spec_l1Num (k : Nat) (a0 : V_int) : Option V_bool := evalT E k 128 t_bool [inp t_int a0] []
theorem spec_l1Num_eq (k : Nat) (a0 : V_int) : spec_l1Num (k + 1) a0 = 
 (spec_l6In k a0 0 999).bind fun x0 => some x0 := by kernel_rfl

noncomputable def spec_l1StateOk (k : Nat) (a0 : V_impl_State) : Option V_bool := evalT E k 60 t_bool [inp t_impl_State a0] []
theorem spec_l1StateOk_eq (k : Nat) (a0 : V_impl_State) : spec_l1StateOk (k + 1) a0 = 
 (spec_l1Num k a0.1).bind fun x0 => 
  cond (x0) (
   (spec_l1Num k a0.2.1).bind fun x1 => 
    cond (x1) (
     (spec_l6In k a0.2.2 0 12).bind fun x2 => some x2) (some false)) (some false) := by kernel_rfl

noncomputable def spec_l2Most (k : Nat) : Option V_int := evalT E k 61 t_int [] []
theorem spec_l2Most_eq (k : Nat) : spec_l2Most (k + 1) = some 100 := by kernel_rfl

noncomputable def spec_l1EventOk (k : Nat) (a0 : V_impl_Event) : Option V_bool := evalT E k 129 t_bool [inp t_impl_Event a0] []
theorem spec_l1EventOk_eq (k : Nat) (a0 : V_impl_Event) : spec_l1EventOk (k + 1) a0 = 
 (spec_l6In k a0.1 0 40).bind fun x0 => 
  cond (x0) (
   (spec_l1Proc k a0.2.1).bind fun x1 => 
    cond (x1) (
     (spec_l6In k a0.2.2.1 (-1) 3).bind fun x2 => 
      cond (x2) (
       (spec_l6In k a0.2.2.2.1 0 12).bind fun x3 => 
        cond (x3) (
         (spec_l6In k a0.2.2.2.2.1 0 3).bind fun x4 => 
          cond (x4) (
           (spec_l6In k a0.2.2.2.2.2.1 0 3).bind fun x5 => 
            cond (x5) (
             (spec_l1Num k a0.2.2.2.2.2.2).bind fun x6 => some x6) (some false)) (some false)) (some false)) (some false)) (some false)) (some false) := by kernel_rfl

noncomputable def spec_EventLess (k : Nat) (a0 : V_impl_Event) (a1 : V_impl_Event) : Option V_bool := evalT E k 63 t_bool [inp t_impl_Event a0, inp t_impl_Event a1] []
theorem spec_EventLess_eq (k : Nat) (a0 : V_impl_Event) (a1 : V_impl_Event) : spec_EventLess (k + 1) a0 a1 = 
 cond (a0.1 != a1.1) (some (decide (a0.1 < a1.1))) (
  cond (a0.2.1 != a1.2.1) (some (decide (a0.2.1 < a1.2.1))) (
   cond (a0.2.2.1 != a1.2.2.1) (some (decide (a0.2.2.1 < a1.2.2.1))) (
    cond (a0.2.2.2.1 != a1.2.2.2.1) (some (decide (a0.2.2.2.1 < a1.2.2.2.1))) (
     cond (a0.2.2.2.2.1 != a1.2.2.2.2.1) (some (decide (a0.2.2.2.2.1 < a1.2.2.2.2.1))) (
      cond (a0.2.2.2.2.2.1 != a1.2.2.2.2.2.1) (some (decide (a0.2.2.2.2.2.1 < a1.2.2.2.2.2.1))) (some (decide (a0.2.2.2.2.2.2 < a1.2.2.2.2.2.2)))))))) := by kernel_rfl

noncomputable def spec_l2Events (k : Nat) (a0 : V_sl_impl_Event) (a1 : V_int) : Option V_bool := evalT E k 91 t_bool [inp t_sl_impl_Event a0, inp t_int a1] []
noncomputable def spec_l2Events_4 (k : Nat) (j : Nat) (y0 : List V_impl_Event) (y1 : Int) : Option V_bool := loopAt E 91 t_bool [true, true, false, true, false] [] [] k [] j (mkS 39 [(0, .c (.sl 41 t_impl_Event y0)), (5, .c (.int .i64 y1))]) []
theorem spec_l2Events_eq (k : Nat) (a0 : V_sl_impl_Event) (a1 : V_int) : spec_l2Events (k + 1) a0 a1 = 
 cond (decide ((↑(List.length a0) : Int) > a1)) (some false) (spec_l2Events_4 k k a0 0) := by kernel_rfl
theorem spec_l2Events_4_eq (k : Nat) (j : Nat) (y0 : List V_impl_Event) (y1 : Int) : spec_l2Events_4 k (j + 1) y0 y1 = 
 cond (decide (y1 < (↑y0.length : Int))) (
  cond (decide (0 ≤ y1)) (
   cond (decide (y1 < (↑y0.length : Int))) (
    (spec_l1EventOk k (y0.getD y1.toNat (dflt t_impl_Event))).bind fun x0 => 
     cond (!x0) (some false) (
      cond (decide (y1 > 0)) (
       cond (decide (0 ≤ IntKind.i64.wrap (y1 - 1))) (
        cond (decide (IntKind.i64.wrap (y1 - 1) < (↑y0.length : Int))) (
         cond (decide (0 ≤ y1)) (
          cond (decide (y1 < (↑y0.length : Int))) (
           (spec_EventLess k (y0.getD (IntKind.i64.wrap (y1 - 1)).toNat (dflt t_impl_Event)) (y0.getD y1.toNat (dflt t_impl_Event))).bind fun x1 => 
            cond (!x1) (some false) (spec_l2Events_4 k j y0 (IntKind.i64.wrap (y1 + 1)))) (none)) (none)) (none)) (none)) (spec_l2Events_4 k j y0 (IntKind.i64.wrap (y1 + 1))))) (none)) (none)) (some true) := by kernel_rfl

noncomputable def spec_OutLess (k : Nat) (a0 : V_impl_Out) (a1 : V_impl_Out) : Option V_bool := evalT E k 142 t_bool [inp t_impl_Out a0, inp t_impl_Out a1] []
theorem spec_OutLess_eq (k : Nat) (a0 : V_impl_Out) (a1 : V_impl_Out) : spec_OutLess (k + 1) a0 a1 = 
 cond (a0.1 != a1.1) (some (decide (a0.1 < a1.1))) (
  cond (a0.2.1 != a1.2.1) (some (decide (a0.2.1 < a1.2.1))) (
   cond (a0.2.2.1 != a1.2.2.1) (some (decide (a0.2.2.1 < a1.2.2.1))) (
    cond (a0.2.2.2.1 != a1.2.2.2.1) (some (decide (a0.2.2.2.1 < a1.2.2.2.1))) (some (decide (a0.2.2.2.2 < a1.2.2.2.2)))))) := by kernel_rfl

noncomputable def spec_l2Outs (k : Nat) (a0 : V_sl_impl_Out) (a1 : V_int) : Option V_bool := evalT E k 92 t_bool [inp t_sl_impl_Out a0, inp t_int a1] []
noncomputable def spec_l2Outs_4 (k : Nat) (j : Nat) (y0 : List V_impl_Out) (y1 : Int) : Option V_bool := loopAt E 92 t_bool [true, true, false, true, false] [] [] k [] j (mkS 63 [(0, .c (.sl 111 t_impl_Out y0)), (5, .c (.int .i64 y1))]) []
theorem spec_l2Outs_eq (k : Nat) (a0 : V_sl_impl_Out) (a1 : V_int) : spec_l2Outs (k + 1) a0 a1 = 
 cond (decide ((↑(List.length a0) : Int) > a1)) (some false) (spec_l2Outs_4 k k a0 0) := by kernel_rfl
theorem spec_l2Outs_4_eq (k : Nat) (j : Nat) (y0 : List V_impl_Out) (y1 : Int) : spec_l2Outs_4 k (j + 1) y0 y1 = 
 cond (decide (y1 < (↑y0.length : Int))) (
  cond (decide (0 ≤ y1)) (
   cond (decide (y1 < (↑y0.length : Int))) (
    (spec_l6In k ((y0.getD y1.toNat (dflt t_impl_Out)).1) 0 40).bind fun x0 => 
     cond (!x0) (some false) (
      (spec_l1Proc k ((y0.getD y1.toNat (dflt t_impl_Out)).2.1)).bind fun x1 => 
       cond (!x1) (some false) (
        (spec_l6In k ((y0.getD y1.toNat (dflt t_impl_Out)).2.2.1) 0 11).bind fun x2 => 
         cond (!x2) (some false) (
          (spec_l6In k ((y0.getD y1.toNat (dflt t_impl_Out)).2.2.2.1) 0 1).bind fun x3 => 
           cond (!x3) (some false) (
            (spec_l1Num k ((y0.getD y1.toNat (dflt t_impl_Out)).2.2.2.2)).bind fun x4 => 
             cond (!x4) (some false) (
              cond (decide (y1 > 0)) (
               cond (decide (0 ≤ IntKind.i64.wrap (y1 - 1))) (
                cond (decide (IntKind.i64.wrap (y1 - 1) < (↑y0.length : Int))) (
                 (spec_OutLess k (y0.getD (IntKind.i64.wrap (y1 - 1)).toNat (dflt t_impl_Out)) (y0.getD y1.toNat (dflt t_impl_Out))).bind fun x5 => 
                  cond (!x5) (some false) (spec_l2Outs_4 k j y0 (IntKind.i64.wrap (y1 + 1)))) (none)) (none)) (spec_l2Outs_4 k j y0 (IntKind.i64.wrap (y1 + 1))))))))) (none)) (none)) (some true) := by kernel_rfl

noncomputable def spec_l21PastOk (k : Nat) (a0 : V_impl_Past) (a1 : V_int) : Option V_bool := evalT E k 62 t_bool [inp t_impl_Past a0, inp t_int a1] []
theorem spec_l21PastOk_eq (k : Nat) (a0 : V_impl_Past) (a1 : V_int) : spec_l21PastOk (k + 1) a0 a1 = 
 (spec_l1EventOk k a0.1).bind fun x0 => 
  cond (x0) (
   cond (a0.1.2.1 == a1) (
    (spec_l1StateOk k a0.2.1).bind fun x1 => 
     cond (x1) (
      (spec_l2Events k a0.2.2.1 2).bind fun x2 => 
       cond (x2) (
        (spec_l2Outs k a0.2.2.2 2).bind fun x3 => some x3) (some false)) (some false)) (some false)) (some false) := by kernel_rfl

noncomputable def spec_LaneOk (k : Nat) (a0 : V_impl_Lane) : Option V_bool := evalT E k 14 t_bool [inp t_impl_Lane a0] []
noncomputable def spec_LaneOk_4 (k : Nat) (j : Nat) (y0 : Int) (y1 : V_impl_Lane) : Option V_bool := loopAt E 14 t_bool [true, true, false, true, false] [] [] k [] j (mkS 58 [(1, .c (.p 0 0)), (3, .c (.int .i64 y0))]) [some (.box 32 (cells t_impl_Lane y1))]
theorem spec_LaneOk_eq (k : Nat) (a0 : V_impl_Lane) : spec_LaneOk (k + 1) a0 = 
 (spec_l1Proc k a0.1).bind fun x0 => 
  cond (!x0) (some false) (
   (spec_l1StateOk k a0.2.1).bind fun x1 => 
    cond (!x1) (some false) (
     (spec_l2Most k ).bind fun x2 => 
      cond (decide ((↑(List.length a0.2.2) : Int) > x2)) (some false) (spec_LaneOk_4 k k 0 a0))) := by kernel_rfl
theorem spec_LaneOk_4_eq (k : Nat) (j : Nat) (y0 : Int) (y1 : V_impl_Lane) : spec_LaneOk_4 k (j + 1) y0 y1 = 
 cond (decide (y0 < (↑(List.length y1.2.2) : Int))) (
  cond (decide (0 ≤ y0)) (
   cond (decide (y0 < (↑(List.length y1.2.2) : Int))) (
    (spec_l21PastOk k (List.getD y1.2.2 y0.toNat (dflt t_impl_Past)) y1.1).bind fun x0 => 
     cond (!x0) (some false) (
      cond (decide (y0 > 0)) (
       cond (decide (0 ≤ IntKind.i64.wrap (y0 - 1))) (
        cond (decide (IntKind.i64.wrap (y0 - 1) < (↑(List.length y1.2.2) : Int))) (
         cond (decide (0 ≤ y0)) (
          cond (decide (y0 < (↑(List.length y1.2.2) : Int))) (
           (spec_EventLess k ((List.getD y1.2.2 (IntKind.i64.wrap (y0 - 1)).toNat (dflt t_impl_Past)).1) ((List.getD y1.2.2 y0.toNat (dflt t_impl_Past)).1)).bind fun x1 => 
            cond (!x1) (some false) (spec_LaneOk_4 k j (IntKind.i64.wrap (y0 + 1)) y1)) (none)) (none)) (none)) (none)) (spec_LaneOk_4 k j (IntKind.i64.wrap (y0 + 1)) y1))) (none)) (none)) (some true) := by kernel_rfl

noncomputable def spec_l21Came (k : Nat) (a0 : V_impl_Lane) (a1 : V_sl_impl_Event) : Option V_bool := evalT E k 72 t_bool [inp t_impl_Lane a0, inp t_sl_impl_Event a1] []
noncomputable def spec_l21Came_4 (k : Nat) (j : Nat) (y0 : List V_impl_Event) (y1 : Int) (y2 : V_impl_Lane) : Option V_bool := loopAt E 72 t_bool [true, true, false, true, false] [] [] k [] j (mkS 24 [(1, .c (.sl 41 t_impl_Event y0)), (2, .c (.p 0 0)), (5, .c (.int .i64 y1))]) [some (.box 32 (cells t_impl_Lane y2))]
theorem spec_l21Came_eq (k : Nat) (a0 : V_impl_Lane) (a1 : V_sl_impl_Event) : spec_l21Came (k + 1) a0 a1 = 
 (spec_l2Most k ).bind fun x0 => 
  (spec_l2Events k a1 x0).bind fun x1 => 
   cond (!x1) (some false) (spec_l21Came_4 k k a1 0 a0) := by kernel_rfl
theorem spec_l21Came_4_eq (k : Nat) (j : Nat) (y0 : List V_impl_Event) (y1 : Int) (y2 : V_impl_Lane) : spec_l21Came_4 k (j + 1) y0 y1 y2 = 
 cond (decide (y1 < (↑y0.length : Int))) (
  cond (decide (0 ≤ y1)) (
   cond (decide (y1 < (↑y0.length : Int))) (
    cond ((y0.getD y1.toNat (dflt t_impl_Event)).2.1 != y2.1) (some false) (spec_l21Came_4 k j y0 (IntKind.i64.wrap (y1 + 1)) y2)) (none)) (none)) (some true) := by kernel_rfl

noncomputable def spec_l21Same (k : Nat) (a0 : V_impl_Lane) (a1 : V_sl_impl_Event) : Option V_int := evalT E k 73 t_int [inp t_impl_Lane a0, inp t_sl_impl_Event a1] []
noncomputable def spec_l21Same_2 (k : Nat) (j : Nat) (y0 : List V_impl_Event) (y1 : Int) (y2 : V_impl_Lane) : Option V_int := loopAt E 73 t_int [true, true, false, false] [] [] k [] j (mkS 33 [(1, .c (.sl 41 t_impl_Event y0)), (2, .c (.p 0 0)), (5, .c (.int .i64 y1))]) [some (.box 32 (cells t_impl_Lane y2))]
theorem spec_l21Same_eq (k : Nat) (a0 : V_impl_Lane) (a1 : V_sl_impl_Event) : spec_l21Same (k + 1) a0 a1 = spec_l21Same_2 k k a1 0 a0 := by kernel_rfl
theorem spec_l21Same_2_eq (k : Nat) (j : Nat) (y0 : List V_impl_Event) (y1 : Int) (y2 : V_impl_Lane) : spec_l21Same_2 k (j + 1) y0 y1 y2 = 
 cond (decide (y1 < (↑(List.length y2.2.2) : Int))) (
  cond (decide (y1 < (↑y0.length : Int))) (
   cond (decide (0 ≤ y1)) (
    cond (decide (y1 < (↑(List.length y2.2.2) : Int))) (
     cond (decide (0 ≤ y1)) (
      cond (decide (y1 < (↑y0.length : Int))) (
       cond ((List.getD y2.2.2 y1.toNat (dflt t_impl_Past)).1.1 == (y0.getD y1.toNat (dflt t_impl_Event)).1 &&
  ((List.getD y2.2.2 y1.toNat (dflt t_impl_Past)).1.2.1 == (y0.getD y1.toNat (dflt t_impl_Event)).2.1 &&
    ((List.getD y2.2.2 y1.toNat (dflt t_impl_Past)).1.2.2.1 == (y0.getD y1.toNat (dflt t_impl_Event)).2.2.1 &&
      ((List.getD y2.2.2 y1.toNat (dflt t_impl_Past)).1.2.2.2.1 ==
          (y0.getD y1.toNat (dflt t_impl_Event)).2.2.2.1 &&
        ((List.getD y2.2.2 y1.toNat (dflt t_impl_Past)).1.2.2.2.2.1 ==
            (y0.getD y1.toNat (dflt t_impl_Event)).2.2.2.2.1 &&
          ((List.getD y2.2.2 y1.toNat (dflt t_impl_Past)).1.2.2.2.2.2.1 ==
              (y0.getD y1.toNat (dflt t_impl_Event)).2.2.2.2.2.1 &&
            ((List.getD y2.2.2 y1.toNat (dflt t_impl_Past)).1.2.2.2.2.2.2 ==
                (y0.getD y1.toNat (dflt t_impl_Event)).2.2.2.2.2.2 &&
              true))))))) (spec_l21Same_2 k j y0 (IntKind.i64.wrap (y1 + 1)) y2) (some y1)) (none)) (none)) (none)) (none)) (some y1)) (some y1) := by kernel_rfl

noncomputable def spec_l21Copy (k : Nat) (a0 : V_impl_Lane) (a1 : V_int) (a2 : V_int) : Option ((V_int × ((V_int × (V_int × V_int)) × List V_impl_Past))) := evalT E k 77 (.pair t_int (.pair (.pair t_int (.pair t_int t_int)) (.ow 96 t_impl_Past))) [inp t_impl_Lane a0, inp t_int a1, inp t_int a2] []
noncomputable def spec_l21Copy_3 (k : Nat) (j : Nat) (y0 : Int) (y1 : Int) (y2 : V_impl_Lane) (y3 : Int) (y4 : Int) (y5 : Int) (y6 : Int) (y7 : Int) (y8 : Int) (y9 : Int) (y10 : Int) (y11 : List V_impl_Past) (y12 : List V_impl_Past) : Option ((V_int × ((V_int × (V_int × V_int)) × List V_impl_Past))) := loopAt E 77 (.pair t_int (.pair (.pair t_int (.pair t_int t_int)) (.ow 96 t_impl_Past))) [true, true, false, true, false] [] [] k [] j (mkS 52 [(2, .c (.int .i64 y0)), (3, .c (.p 0 0)), (6, .c (.p 1 0)), (7, .c (.p 2 0)), (8, .c (.int .i64 y1))]) [some (.box 32 (cells t_impl_Lane y2)), some (.box 32 [.int .i64 y3, .int .i64 y4, .int .i64 y5, .int .i64 y6, .o 3]), some (.box 32 [.int .i64 y7, .int .i64 y8, .int .i64 y9, .int .i64 y10, .o 4]), some (.own 96 t_impl_Past y11), some (.own 96 t_impl_Past y12)]
theorem spec_l21Copy_eq (k : Nat) (a0 : V_impl_Lane) (a1 : V_int) (a2 : V_int) : spec_l21Copy (k + 1) a0 a1 a2 = spec_l21Copy_3 k k a2 a1 a0 0 0 0 0 a0.1 a0.2.1.1 a0.2.1.2.1 a0.2.1.2.2 [] [] := by kernel_rfl
theorem spec_l21Copy_3_eq (k : Nat) (j : Nat) (y0 : Int) (y1 : Int) (y2 : V_impl_Lane) (y3 : Int) (y4 : Int) (y5 : Int) (y6 : Int) (y7 : Int) (y8 : Int) (y9 : Int) (y10 : Int) (y11 : List V_impl_Past) (y12 : List V_impl_Past) : spec_l21Copy_3 k (j + 1) y0 y1 y2 y3 y4 y5 y6 y7 y8 y9 y10 y11 y12 = 
 cond (decide (y1 < y0)) (
  cond (decide (y1 < (↑(List.length y2.2.2) : Int))) (
   cond (decide (0 ≤ y1)) (
    cond (decide (y1 < (↑(List.length y2.2.2) : Int))) (
     cond (decide
  ((0 + List.length (List.getD y2.2.2 y1.toNat (dflt t_impl_Past)).2.2.1) * 56 ≤ 140737488351232)) (
      cond (decide
  ((0 + List.length (List.getD y2.2.2 y1.toNat (dflt t_impl_Past)).2.2.2) * 40 ≤ 140737488351232)) (
       cond (decide
  ((y12.length +
        1) *
      128 ≤
    140737488351232)) (spec_l21Copy_3 k j y0 (IntKind.i64.wrap (y1 + 1)) y2 y3 y4 y5 y6 y7 y8 y9 y10 y11 (y12 ++
  [(((List.getD y2.2.2 y1.toNat (dflt t_impl_Past)).1.1, (List.getD y2.2.2 y1.toNat (dflt t_impl_Past)).1.2.1,
        (List.getD y2.2.2 y1.toNat (dflt t_impl_Past)).1.2.2.1,
        (List.getD y2.2.2 y1.toNat (dflt t_impl_Past)).1.2.2.2.1,
        (List.getD y2.2.2 y1.toNat (dflt t_impl_Past)).1.2.2.2.2.1,
        (List.getD y2.2.2 y1.toNat (dflt t_impl_Past)).1.2.2.2.2.2.1,
        (List.getD y2.2.2 y1.toNat (dflt t_impl_Past)).1.2.2.2.2.2.2),
      ((List.getD y2.2.2 y1.toNat (dflt t_impl_Past)).2.1.1,
        (List.getD y2.2.2 y1.toNat (dflt t_impl_Past)).2.1.2.1,
        (List.getD y2.2.2 y1.toNat (dflt t_impl_Past)).2.1.2.2),
      [] ++ (List.getD y2.2.2 y1.toNat (dflt t_impl_Past)).2.2.1,
      [] ++ (List.getD y2.2.2 y1.toNat (dflt t_impl_Past)).2.2.2)])) (none)) (none)) (none)) (none)) (none)) (some ((y7, (y8, y9, y10), y12)))) (some ((y7, (y8, y9, y10), y12))) := by kernel_rfl

noncomputable def spec_LaneCut (k : Nat) (a0 : V_impl_Lane) (a1 : V_sl_impl_Event) : Option (((V_int × ((V_int × (V_int × V_int)) × List V_impl_Past)) × V_bool)) := evalT E k 27 (.pair (.pair t_int (.pair (.pair t_int (.pair t_int t_int)) (.ow 96 t_impl_Past))) t_bool) [inp t_impl_Lane a0, inp t_sl_impl_Event a1] []
theorem spec_LaneCut_eq (k : Nat) (a0 : V_impl_Lane) (a1 : V_sl_impl_Event) : spec_LaneCut (k + 1) a0 a1 = 
 (spec_LaneOk k a0).bind fun x0 => 
  cond (!x0) (some (((0, (0, 0, 0), []), false))) (
   (spec_l21Came k a0 a1).bind fun x1 => 
    cond (!x1) (some (((0, (0, 0, 0), []), false))) (
     (spec_l21Same k a0 a1).bind fun x2 => 
      (spec_l21Copy k a0 0 x2).bind fun x3 => some (((x3.1, (x3.2.1.1, x3.2.1.2.1, x3.2.1.2.2), x3.2.2),
  decide (x2 < (↑(List.length a0.2.2) : Int)))))) := by kernel_rfl

noncomputable def impl_within (k : Nat) (a0 : V_int) (a1 : V_int) (a2 : V_int) : Option V_bool := evalT E k 93 t_bool [inp t_int a0, inp t_int a1, inp t_int a2] []
theorem impl_within_eq (k : Nat) (a0 : V_int) (a1 : V_int) (a2 : V_int) : impl_within (k + 1) a0 a1 a2 = 
 cond (decide (a0 ≥ a1)) (some (decide (a0 ≤ a2))) (some false) := by kernel_rfl

noncomputable def impl_isProc (k : Nat) (a0 : V_int) : Option V_bool := evalT E k 66 t_bool [inp t_int a0] []
theorem impl_isProc_eq (k : Nat) (a0 : V_int) : impl_isProc (k + 1) a0 = 
 (impl_within k a0 0 3).bind fun x0 => some x0 := by kernel_rfl

noncomputable def impl_isNum (k : Nat) (a0 : V_int) : Option V_bool := evalT E k 131 t_bool [inp t_int a0] []
theorem impl_isNum_eq (k : Nat) (a0 : V_int) : impl_isNum (k + 1) a0 = 
 (impl_within k a0 0 999).bind fun x0 => some x0 := by kernel_rfl

noncomputable def impl_stateOk (k : Nat) (a0 : V_impl_State) : Option V_bool := evalT E k 67 t_bool [inp t_impl_State a0] []
theorem impl_stateOk_eq (k : Nat) (a0 : V_impl_State) : impl_stateOk (k + 1) a0 = 
 (impl_isNum k a0.1).bind fun x0 => 
  cond (x0) (
   (impl_isNum k a0.2.1).bind fun x1 => 
    cond (x1) (
     (impl_within k a0.2.2 0 12).bind fun x2 => some x2) (some false)) (some false) := by kernel_rfl

noncomputable def impl_isKind (k : Nat) (a0 : V_int) : Option V_bool := evalT E k 155 t_bool [inp t_int a0] []
theorem impl_isKind_eq (k : Nat) (a0 : V_int) : impl_isKind (k + 1) a0 = 
 (impl_within k a0 0 3).bind fun x0 => some x0 := by kernel_rfl

noncomputable def impl_eventOk (k : Nat) (a0 : V_impl_Event) : Option V_bool := evalT E k 132 t_bool [inp t_impl_Event a0] []
theorem impl_eventOk_eq (k : Nat) (a0 : V_impl_Event) : impl_eventOk (k + 1) a0 = 
 (impl_within k a0.1 0 40).bind fun x0 => 
  cond (x0) (
   (impl_isProc k a0.2.1).bind fun x1 => 
    cond (x1) (
     (impl_within k a0.2.2.1 (-1) 3).bind fun x2 => 
      cond (x2) (
       (impl_within k a0.2.2.2.1 0 12).bind fun x3 => 
        cond (x3) (
         (impl_within k a0.2.2.2.2.1 0 3).bind fun x4 => 
          cond (x4) (
           (impl_isKind k a0.2.2.2.2.2.1).bind fun x5 => 
            cond (x5) (
             (impl_isNum k a0.2.2.2.2.2.2).bind fun x6 => some x6) (some false)) (some false)) (some false)) (some false)) (some false)) (some false) := by kernel_rfl

noncomputable def impl_keyOf (k : Nat) (a0 : V_impl_Event) : Option ((V_int × (V_int × (V_int × (V_int × (V_int × (V_int × V_int))))))) := evalT E k 134 (.pair t_int (.pair t_int (.pair t_int (.pair t_int (.pair t_int (.pair t_int t_int)))))) [inp t_impl_Event a0] []
theorem impl_keyOf_eq (k : Nat) (a0 : V_impl_Event) : impl_keyOf (k + 1) a0 = some (a0.1, a0.2.1, a0.2.2.1, a0.2.2.2.1, a0.2.2.2.2.1, a0.2.2.2.2.2.1,
  a0.2.2.2.2.2.2) := by kernel_rfl

noncomputable def cmp_isNaN_int (k : Nat) (a0 : V_int) : Option V_bool := evalT E k 169 t_bool [inp t_int a0] []
theorem cmp_isNaN_int_eq (k : Nat) (a0 : V_int) : cmp_isNaN_int (k + 1) a0 = some (a0 != a0) := by kernel_rfl

noncomputable def cmp_Compare_int (k : Nat) (a0 : V_int) (a1 : V_int) : Option V_int := evalT E k 166 t_int [inp t_int a0, inp t_int a1] []
theorem cmp_Compare_int_eq (k : Nat) (a0 : V_int) (a1 : V_int) : cmp_Compare_int (k + 1) a0 a1 = 
 (cmp_isNaN_int k a0).bind fun x0 => 
  (cmp_isNaN_int k a1).bind fun x1 => 
   cond (x0) (
    cond (x1) (some 0) (some (-1))) (
    cond (x1) (some 1) (
     cond (decide (a0 < a1)) (some (-1)) (
      cond (decide (a0 > a1)) (some 1) (some 0)))) := by kernel_rfl

noncomputable def slices_Compare_int_int (k : Nat) (a0 : V_sl_int) (a1 : V_sl_int) : Option V_int := evalT E k 156 t_int [inp t_sl_int a0, inp t_sl_int a1] []
noncomputable def slices_Compare_int_int_2 (k : Nat) (j : Nat) (y0 : List V_int) (y1 : List V_int) (y2 : List V_int) (y3 : Int) (y4 : Int) : Option V_int := loopAt E 156 t_int [true, false, true, false] [] [] k [] j (mkS 36 [(0, .c (.sl 3 t_int y0)), (1, .c (.sl 3 t_int y1)), (9, .c (.sl 3 t_int y2)), (10, .c (.int .i64 y3)), (11, .c (.int .i64 y4))]) []
theorem slices_Compare_int_int_eq (k : Nat) (a0 : V_sl_int) (a1 : V_sl_int) : slices_Compare_int_int (k + 1) a0 a1 = slices_Compare_int_int_2 k k a0 a1 a0 ((↑(List.length a0) : Int)) 0 := by kernel_rfl
theorem slices_Compare_int_int_2_eq (k : Nat) (j : Nat) (y0 : List V_int) (y1 : List V_int) (y2 : List V_int) (y3 : Int) (y4 : Int) : slices_Compare_int_int_2 k (j + 1) y0 y1 y2 y3 y4 = 
 cond (decide (y4 < y3)) (
  cond (decide (0 ≤ y4)) (
   cond (decide (y4 < (↑y2.length : Int))) (
    cond (decide (y4 ≥ (↑y1.length : Int))) (some 1) (
     cond (decide (0 ≤ y4)) (
      cond (decide (y4 < (↑y1.length : Int))) (
       (cmp_Compare_int k (y2.getD y4.toNat (dflt t_int)) (y1.getD y4.toNat (dflt t_int))).bind fun x0 => 
        cond (x0 != 0) (some x0) (slices_Compare_int_int_2 k j y0 y1 y2 y3 (IntKind.i64.wrap (y4 + 1)))) (none)) (none))) (none)) (none)) (
  cond (decide ((↑y0.length : Int) < (↑y1.length : Int))) (some (-1)) (some 0)) := by kernel_rfl

noncomputable def impl_keyLess (k : Nat) (a0 : V_impl_eventKey) (a1 : V_impl_eventKey) : Option V_bool := evalT E k 133 t_bool [inp t_impl_eventKey a0, inp t_impl_eventKey a1] []
theorem impl_keyLess_eq (k : Nat) (a0 : V_impl_eventKey) (a1 : V_impl_eventKey) : impl_keyLess (k + 1) a0 a1 = 
 (slices_Compare_int_int k [a0.1, a0.2.1, a0.2.2.1, a0.2.2.2.1, a0.2.2.2.2.1, a0.2.2.2.2.2.1,
  a0.2.2.2.2.2.2] [a1.1, a1.2.1, a1.2.2.1, a1.2.2.2.1, a1.2.2.2.2.1, a1.2.2.2.2.2.1,
  a1.2.2.2.2.2.2]).bind fun x0 => some (decide (x0 < 0)) := by kernel_rfl

noncomputable def impl_EventLess (k : Nat) (a0 : V_impl_Event) (a1 : V_impl_Event) : Option V_bool := evalT E k 69 t_bool [inp t_impl_Event a0, inp t_impl_Event a1] []
theorem impl_EventLess_eq (k : Nat) (a0 : V_impl_Event) (a1 : V_impl_Event) : impl_EventLess (k + 1) a0 a1 = 
 (impl_keyOf k a0).bind fun x0 => 
  (impl_keyOf k a1).bind fun x1 => 
   (impl_keyLess k x0 x1).bind fun x2 => some x2 := by kernel_rfl

noncomputable def impl_eventsOk (k : Nat) (a0 : V_sl_impl_Event) (a1 : V_int) : Option V_bool := evalT E k 96 t_bool [inp t_sl_impl_Event a0, inp t_int a1] []
noncomputable def impl_eventsOk_4 (k : Nat) (j : Nat) (y0 : List V_impl_Event) (y1 : List V_impl_Event) (y2 : Int) (y3 : Int) : Option V_bool := loopAt E 96 t_bool [true, true, false, true, false] [] [] k [] j (mkS 36 [(0, .c (.sl 41 t_impl_Event y0)), (11, .c (.sl 41 t_impl_Event y1)), (12, .c (.int .i64 y2)), (13, .c (.int .i64 y3))]) []
theorem impl_eventsOk_eq (k : Nat) (a0 : V_sl_impl_Event) (a1 : V_int) : impl_eventsOk (k + 1) a0 a1 = 
 cond (decide ((↑(List.length a0) : Int) > a1)) (some false) (impl_eventsOk_4 k k a0 a0 ((↑(List.length a0) : Int)) 0) := by kernel_rfl
theorem impl_eventsOk_4_eq (k : Nat) (j : Nat) (y0 : List V_impl_Event) (y1 : List V_impl_Event) (y2 : Int) (y3 : Int) : impl_eventsOk_4 k (j + 1) y0 y1 y2 y3 = 
 cond (decide (y3 < y2)) (
  cond (decide (0 ≤ y3)) (
   cond (decide (y3 < (↑y1.length : Int))) (
    (impl_eventOk k (y1.getD y3.toNat (dflt t_impl_Event))).bind fun x0 => 
     cond (!x0) (some false) (
      cond (decide (y3 > 0)) (
       cond (decide (0 ≤ IntKind.i64.wrap (y3 - 1))) (
        cond (decide (IntKind.i64.wrap (y3 - 1) < (↑y0.length : Int))) (
         (impl_EventLess k (y0.getD (IntKind.i64.wrap (y3 - 1)).toNat (dflt t_impl_Event)) (y1.getD y3.toNat (dflt t_impl_Event))).bind fun x1 => 
          cond (!x1) (some false) (impl_eventsOk_4 k j y0 y1 y2 (IntKind.i64.wrap (y3 + 1)))) (none)) (none)) (impl_eventsOk_4 k j y0 y1 y2 (IntKind.i64.wrap (y3 + 1))))) (none)) (none)) (some true) := by kernel_rfl

noncomputable def impl_OutLess (k : Nat) (a0 : V_impl_Out) (a1 : V_impl_Out) : Option V_bool := evalT E k 148 t_bool [inp t_impl_Out a0, inp t_impl_Out a1] []
theorem impl_OutLess_eq (k : Nat) (a0 : V_impl_Out) (a1 : V_impl_Out) : impl_OutLess (k + 1) a0 a1 = 
 (slices_Compare_int_int k [a0.1, a0.2.1, a0.2.2.1, a0.2.2.2.1, a0.2.2.2.2] [a1.1, a1.2.1, a1.2.2.1, a1.2.2.2.1, a1.2.2.2.2]).bind fun x0 => some (decide (x0 < 0)) := by kernel_rfl

noncomputable def impl_outsOk (k : Nat) (a0 : V_sl_impl_Out) (a1 : V_int) : Option V_bool := evalT E k 97 t_bool [inp t_sl_impl_Out a0, inp t_int a1] []
noncomputable def impl_outsOk_4 (k : Nat) (j : Nat) (y0 : List V_impl_Out) (y1 : List V_impl_Out) (y2 : Int) (y3 : Int) : Option V_bool := loopAt E 97 t_bool [true, true, false, true, false] [] [] k [] j (mkS 59 [(0, .c (.sl 111 t_impl_Out y0)), (12, .c (.sl 111 t_impl_Out y1)), (13, .c (.int .i64 y2)), (14, .c (.int .i64 y3))]) []
theorem impl_outsOk_eq (k : Nat) (a0 : V_sl_impl_Out) (a1 : V_int) : impl_outsOk (k + 1) a0 a1 = 
 cond (decide ((↑(List.length a0) : Int) > a1)) (some false) (impl_outsOk_4 k k a0 a0 ((↑(List.length a0) : Int)) 0) := by kernel_rfl
theorem impl_outsOk_4_eq (k : Nat) (j : Nat) (y0 : List V_impl_Out) (y1 : List V_impl_Out) (y2 : Int) (y3 : Int) : impl_outsOk_4 k (j + 1) y0 y1 y2 y3 = 
 cond (decide (y3 < y2)) (
  cond (decide (0 ≤ y3)) (
   cond (decide (y3 < (↑y1.length : Int))) (
    (impl_within k ((y1.getD y3.toNat (dflt t_impl_Out)).1) 0 40).bind fun x0 => 
     cond (x0) (
      (impl_isProc k ((y1.getD y3.toNat (dflt t_impl_Out)).2.1)).bind fun x1 => 
       cond (x1) (
        (impl_within k ((y1.getD y3.toNat (dflt t_impl_Out)).2.2.1) 0 11).bind fun x2 => 
         cond (x2) (
          (impl_within k ((y1.getD y3.toNat (dflt t_impl_Out)).2.2.2.1) 0 1).bind fun x3 => 
           cond (x3) (
            (impl_isNum k ((y1.getD y3.toNat (dflt t_impl_Out)).2.2.2.2)).bind fun x4 => 
             cond (!x4) (some false) (
              cond (decide (y3 > 0)) (
               cond (decide (0 ≤ IntKind.i64.wrap (y3 - 1))) (
                cond (decide (IntKind.i64.wrap (y3 - 1) < (↑y0.length : Int))) (
                 (impl_OutLess k (y0.getD (IntKind.i64.wrap (y3 - 1)).toNat (dflt t_impl_Out)) (y1.getD y3.toNat (dflt t_impl_Out))).bind fun x5 => 
                  cond (!x5) (some false) (impl_outsOk_4 k j y0 y1 y2 (IntKind.i64.wrap (y3 + 1)))) (none)) (none)) (impl_outsOk_4 k j y0 y1 y2 (IntKind.i64.wrap (y3 + 1))))) (some false)) (some false)) (some false)) (some false)) (none)) (none)) (some true) := by kernel_rfl

noncomputable def impl_pastOk (k : Nat) (a0 : V_impl_Past) (a1 : V_int) : Option V_bool := evalT E k 68 t_bool [inp t_impl_Past a0, inp t_int a1] []
theorem impl_pastOk_eq (k : Nat) (a0 : V_impl_Past) (a1 : V_int) : impl_pastOk (k + 1) a0 a1 = 
 (impl_eventOk k a0.1).bind fun x0 => 
  cond (x0) (
   cond (a0.1.2.1 == a1) (
    (impl_stateOk k a0.2.1).bind fun x1 => 
     cond (x1) (
      (impl_eventsOk k a0.2.2.1 2).bind fun x2 => 
       cond (x2) (
        (impl_outsOk k a0.2.2.2 2).bind fun x3 => some x3) (some false)) (some false)) (some false)) (some false) := by kernel_rfl

noncomputable def impl_LaneOk (k : Nat) (a0 : V_impl_Lane) : Option V_bool := evalT E k 16 t_bool [inp t_impl_Lane a0] []
noncomputable def impl_LaneOk_4 (k : Nat) (j : Nat) (y0 : List V_impl_Past) (y1 : Int) (y2 : Int) (y3 : V_impl_Lane) : Option V_bool := loopAt E 16 t_bool [true, true, false, true, false] [] [] k [] j (mkS 52 [(1, .c (.p 0 0)), (22, .c (.sl 96 t_impl_Past y0)), (23, .c (.int .i64 y1)), (24, .c (.int .i64 y2))]) [some (.box 32 (cells t_impl_Lane y3))]
theorem impl_LaneOk_eq (k : Nat) (a0 : V_impl_Lane) : impl_LaneOk (k + 1) a0 = 
 (impl_isProc k a0.1).bind fun x0 => 
  cond (!x0) (some false) (
   (impl_stateOk k a0.2.1).bind fun x1 => 
    cond (!x1) (some false) (
     cond (decide ((↑(List.length a0.2.2) : Int) > 100)) (some false) (impl_LaneOk_4 k k a0.2.2 ((↑(List.length a0.2.2) : Int)) 0 a0))) := by kernel_rfl
theorem impl_LaneOk_4_eq (k : Nat) (j : Nat) (y0 : List V_impl_Past) (y1 : Int) (y2 : Int) (y3 : V_impl_Lane) : impl_LaneOk_4 k (j + 1) y0 y1 y2 y3 = 
 cond (decide (y2 < y1)) (
  cond (decide (0 ≤ y2)) (
   cond (decide (y2 < (↑y0.length : Int))) (
    (impl_pastOk k (y0.getD y2.toNat (dflt t_impl_Past)) y3.1).bind fun x0 => 
     cond (!x0) (some false) (
      cond (decide (y2 > 0)) (
       cond (decide (0 ≤ IntKind.i64.wrap (y2 - 1))) (
        cond (decide (IntKind.i64.wrap (y2 - 1) < (↑(List.length y3.2.2) : Int))) (
         (impl_EventLess k ((List.getD y3.2.2 (IntKind.i64.wrap (y2 - 1)).toNat (dflt t_impl_Past)).1) ((y0.getD y2.toNat (dflt t_impl_Past)).1)).bind fun x1 => 
          cond (!x1) (some false) (impl_LaneOk_4 k j y0 y1 (IntKind.i64.wrap (y2 + 1)) y3)) (none)) (none)) (impl_LaneOk_4 k j y0 y1 (IntKind.i64.wrap (y2 + 1)) y3))) (none)) (none)) (some true) := by kernel_rfl

noncomputable def impl_cameFits (k : Nat) (a0 : V_impl_Lane) (a1 : V_sl_impl_Event) : Option V_bool := evalT E k 75 t_bool [inp t_impl_Lane a0, inp t_sl_impl_Event a1] []
noncomputable def impl_cameFits_2 (k : Nat) (j : Nat) (y0 : List V_impl_Event) (y1 : List V_impl_Event) (y2 : Int) (y3 : Int) (y4 : V_impl_Lane) : Option V_bool := loopAt E 75 t_bool [true, false, true, false] [] [] k [] j (mkS 21 [(1, .c (.sl 41 t_impl_Event y0)), (2, .c (.p 0 0)), (7, .c (.sl 41 t_impl_Event y1)), (8, .c (.int .i64 y2)), (9, .c (.int .i64 y3))]) [some (.box 32 (cells t_impl_Lane y4))]
theorem impl_cameFits_eq (k : Nat) (a0 : V_impl_Lane) (a1 : V_sl_impl_Event) : impl_cameFits (k + 1) a0 a1 = impl_cameFits_2 k k a1 a1 ((↑(List.length a1) : Int)) 0 a0 := by kernel_rfl
theorem impl_cameFits_2_eq (k : Nat) (j : Nat) (y0 : List V_impl_Event) (y1 : List V_impl_Event) (y2 : Int) (y3 : Int) (y4 : V_impl_Lane) : impl_cameFits_2 k (j + 1) y0 y1 y2 y3 y4 = 
 cond (decide (y3 < y2)) (
  cond (decide (0 ≤ y3)) (
   cond (decide (y3 < (↑y1.length : Int))) (
    cond ((y1.getD y3.toNat (dflt t_impl_Event)).2.1 != y4.1) (some false) (impl_cameFits_2 k j y0 y1 y2 (IntKind.i64.wrap (y3 + 1)) y4)) (none)) (none)) (
  (impl_eventsOk k y0 100).bind fun x0 => some x0) := by kernel_rfl

noncomputable def impl_laneCut (k : Nat) (a0 : V_impl_Lane) (a1 : V_sl_impl_Event) : Option (V_impl_Lane × V_bool) := evalT E k 78 (.pair t_impl_Lane t_bool) [inp t_impl_Lane a0, inp t_sl_impl_Event a1] []
theorem impl_laneCut_eq (k : Nat) (a0 : V_impl_Lane) (a1 : V_sl_impl_Event) : impl_laneCut (k + 1) a0 a1 = 
 cond (decide (List.length a0.2.2 ≤ 1048576)) (
  cond (decide (List.length a1 ≤ 1048576)) (some (cutF a0.1 a0.2.1.1 a0.2.1.2.1 a0.2.1.2.2 a0.2.2 a1)) (none)) (none) := by kernel_rfl

noncomputable def slices_Clone_impl_Event_impl_Event (k : Nat) (a0 : V_sl_impl_Event) : Option (List V_impl_Event) := evalT E k 159 (.ow 41 t_impl_Event) [inp t_sl_impl_Event a0] []
theorem slices_Clone_impl_Event_impl_Event_eq (k : Nat) (a0 : V_sl_impl_Event) : slices_Clone_impl_Event_impl_Event (k + 1) a0 = 
 cond (decide ((0 + List.length a0) * 56 ≤ 140737488351232)) (some a0) (none) := by kernel_rfl

noncomputable def slices_Clone_impl_Out_impl_Out (k : Nat) (a0 : V_sl_impl_Out) : Option (List V_impl_Out) := evalT E k 160 (.ow 111 t_impl_Out) [inp t_sl_impl_Out a0] []
theorem slices_Clone_impl_Out_impl_Out_eq (k : Nat) (a0 : V_sl_impl_Out) : slices_Clone_impl_Out_impl_Out (k + 1) a0 = 
 cond (decide ((0 + List.length a0) * 40 ≤ 140737488351232)) (some a0) (none) := by kernel_rfl

noncomputable def impl_copyPast (k : Nat) (a0 : V_impl_Past) : Option (((V_int × (V_int × (V_int × (V_int × (V_int × (V_int × V_int)))))) × ((V_int × (V_int × V_int)) × (List V_impl_Event × List V_impl_Out)))) := evalT E k 141 (.pair (.pair t_int (.pair t_int (.pair t_int (.pair t_int (.pair t_int (.pair t_int t_int)))))) (.pair (.pair t_int (.pair t_int t_int)) (.pair (.ow 41 t_impl_Event) (.ow 111 t_impl_Out)))) [inp t_impl_Past a0] []
theorem impl_copyPast_eq (k : Nat) (a0 : V_impl_Past) : impl_copyPast (k + 1) a0 = 
 (slices_Clone_impl_Event_impl_Event k a0.2.2.1).bind fun x0 => 
  (slices_Clone_impl_Out_impl_Out k a0.2.2.2).bind fun x1 => some (((a0.1.1, a0.1.2.1, a0.1.2.2.1, a0.1.2.2.2.1, a0.1.2.2.2.2.1,
    a0.1.2.2.2.2.2.1, a0.1.2.2.2.2.2.2),
  (a0.2.1.1, a0.2.1.2.1, a0.2.1.2.2), x0, x1)) := by kernel_rfl

noncomputable def impl_copyEach_impl_Past_h0 (k : Nat) (y0 : V_sl_impl_Past) : Option (List V_impl_Past) := evalT E k 140 (.dw 96 t_impl_Past) [inp t_sl_impl_Past y0, .c (.fn 141 [])] []
noncomputable def impl_copyEach_impl_Past_h0_5 (k : Nat) (j : Nat) (y0 : List V_impl_Past) (y1 : Int) (y2 : Int) (y3 : List V_impl_Past) : Option (List V_impl_Past) := loopAt E 140 (.dw 96 t_impl_Past) [true, true, true, false, true, false] [] [] k [] j (mkS 29 [(1, .c (.fn 141 [])), (5, .c (.o 0)), (14, .c (.sl 96 t_impl_Past y0)), (15, .c (.int .i64 y1)), (16, .c (.int .i64 y2))]) [some (.dp 96 t_impl_Past y3)]
theorem impl_copyEach_impl_Past_h0_eq (k : Nat) (y0 : V_sl_impl_Past) : impl_copyEach_impl_Past_h0 (k + 1) y0 = 
 cond ((↑(List.length y0) : Int) == 0) (some []) (
  cond (decide ((↑(List.length y0) : Int) ≤ (↑(List.length y0) : Int))) (
   cond (decide ((↑(List.length y0) : Int).toNat * 128 ≤ 140737488351232)) (impl_copyEach_impl_Past_h0_5 k k y0 ((↑(List.length y0) : Int)) 0 (List.replicate (↑(List.length y0) : Int).toNat (dflt t_impl_Past))) (none)) (none)) := by kernel_rfl
theorem impl_copyEach_impl_Past_h0_5_eq (k : Nat) (j : Nat) (y0 : List V_impl_Past) (y1 : Int) (y2 : Int) (y3 : List V_impl_Past) : impl_copyEach_impl_Past_h0_5 k (j + 1) y0 y1 y2 y3 = 
 cond (decide (y2 < y1)) (
  cond (decide (0 ≤ y2)) (
   cond (decide (y2 < (↑y0.length : Int))) (
    (impl_copyPast k (y0.getD y2.toNat (dflt t_impl_Past))).bind fun x0 => 
     cond (decide (0 ≤ y2)) (
      cond (decide (y2 < (↑y3.length : Int))) (
       cond (decide (y2.toNat < y3.length)) (impl_copyEach_impl_Past_h0_5 k j y0 y1 (IntKind.i64.wrap (y2 + 1)) (y3.set y2.toNat
  ((x0.1.1, x0.1.2.1, x0.1.2.2.1, x0.1.2.2.2.1, x0.1.2.2.2.2.1,
      x0.1.2.2.2.2.2.1, x0.1.2.2.2.2.2.2),
    (x0.2.1.1, x0.2.1.2.1, x0.2.1.2.2), x0.2.2.1, x0.2.2.2))) (none)) (none)) (none)) (none)) (none)) (some y3) := by kernel_rfl

noncomputable def impl_copyLane (k : Nat) (a0 : V_impl_Lane) : Option ((V_int × (V_impl_State × List V_impl_Past))) := evalT E k 79 (.pair t_int (.pair t_impl_State (.dw 96 t_impl_Past))) [inp t_impl_Lane a0] []
theorem impl_copyLane_eq (k : Nat) (a0 : V_impl_Lane) : impl_copyLane (k + 1) a0 = 
 (impl_copyEach_impl_Past_h0 k a0.2.2).bind fun x0 => some ((a0.1, (a0.2.1.1, a0.2.1.2.1, a0.2.1.2.2), x0)) := by kernel_rfl

noncomputable def impl_LaneCut (k : Nat) (a0 : V_impl_Lane) (a1 : V_sl_impl_Event) : Option (((V_int × (V_impl_State × List V_impl_Past)) × V_bool)) := evalT E k 28 (.pair (.pair t_int (.pair t_impl_State (.dw 96 t_impl_Past))) t_bool) [inp t_impl_Lane a0, inp t_sl_impl_Event a1] []
theorem impl_LaneCut_eq (k : Nat) (a0 : V_impl_Lane) (a1 : V_sl_impl_Event) : impl_LaneCut (k + 1) a0 a1 = 
 (impl_LaneOk k a0).bind fun x0 => 
  cond (!x0) (some (((0, (0, 0, 0), []), false))) (
   (impl_cameFits k a0 a1).bind fun x1 => 
    cond (!x1) (some (((0, (0, 0, 0), []), false))) (
     (impl_laneCut k a0 a1).bind fun x2 => 
      (impl_copyLane k x2.1).bind fun x3 => some (((x3.1, (x3.2.1.1, x3.2.1.2.1, x3.2.1.2.2), x3.2.2), x2.2)))) := by kernel_rfl

noncomputable def laws_eqState (k : Nat) (a0 : V_impl_State) (a1 : V_impl_State) : Option V_bool := evalT E k 20 t_bool [inp t_impl_State a0, inp t_impl_State a1] []
theorem laws_eqState_eq (k : Nat) (a0 : V_impl_State) (a1 : V_impl_State) : laws_eqState (k + 1) a0 a1 = 
 cond (a0.1 != a1.1) (some false) (
  cond (a0.2.1 != a1.2.1) (some false) (
   cond (a0.2.2 != a1.2.2) (some false) (some true))) := by kernel_rfl

noncomputable def laws_eqEvent (k : Nat) (a0 : V_impl_Event) (a1 : V_impl_Event) : Option V_bool := evalT E k 25 t_bool [inp t_impl_Event a0, inp t_impl_Event a1] []
theorem laws_eqEvent_eq (k : Nat) (a0 : V_impl_Event) (a1 : V_impl_Event) : laws_eqEvent (k + 1) a0 a1 = 
 cond (a0.1 != a1.1) (some false) (
  cond (a0.2.1 != a1.2.1) (some false) (
   cond (a0.2.2.1 != a1.2.2.1) (some false) (
    cond (a0.2.2.2.1 != a1.2.2.2.1) (some false) (
     cond (a0.2.2.2.2.1 != a1.2.2.2.2.1) (some false) (
      cond (a0.2.2.2.2.2.1 != a1.2.2.2.2.2.1) (some false) (
       cond (a0.2.2.2.2.2.2 != a1.2.2.2.2.2.2) (some false) (some true))))))) := by kernel_rfl

noncomputable def laws_eqEventS (k : Nat) (a0 : V_sl_impl_Event) (a1 : V_sl_impl_Event) : Option V_bool := evalT E k 26 t_bool [inp t_sl_impl_Event a0, inp t_sl_impl_Event a1] []
noncomputable def laws_eqEventS_4 (k : Nat) (j : Nat) (y0 : List V_impl_Event) (y1 : List V_impl_Event) (y2 : Int) : Option V_bool := loopAt E 26 t_bool [true, true, false, true, false] [] [] k [] j (mkS 27 [(0, .c (.sl 41 t_impl_Event y0)), (1, .c (.sl 41 t_impl_Event y1)), (5, .c (.int .i64 y2))]) []
theorem laws_eqEventS_eq (k : Nat) (a0 : V_sl_impl_Event) (a1 : V_sl_impl_Event) : laws_eqEventS (k + 1) a0 a1 = 
 cond ((↑(List.length a0) : Int) != (↑(List.length a1) : Int)) (some false) (laws_eqEventS_4 k k a0 a1 0) := by kernel_rfl
theorem laws_eqEventS_4_eq (k : Nat) (j : Nat) (y0 : List V_impl_Event) (y1 : List V_impl_Event) (y2 : Int) : laws_eqEventS_4 k (j + 1) y0 y1 y2 = 
 cond (decide (y2 < (↑y0.length : Int))) (
  cond (decide (0 ≤ y2)) (
   cond (decide (y2 < (↑y0.length : Int))) (
    cond (decide (0 ≤ y2)) (
     cond (decide (y2 < (↑y1.length : Int))) (
      (laws_eqEvent k (y0.getD y2.toNat (dflt t_impl_Event)) (y1.getD y2.toNat (dflt t_impl_Event))).bind fun x0 => 
       cond (!x0) (some false) (laws_eqEventS_4 k j y0 y1 (IntKind.i64.wrap (y2 + 1)))) (none)) (none)) (none)) (none)) (some true) := by kernel_rfl

noncomputable def laws_eqOut (k : Nat) (a0 : V_impl_Out) (a1 : V_impl_Out) : Option V_bool := evalT E k 85 t_bool [inp t_impl_Out a0, inp t_impl_Out a1] []
theorem laws_eqOut_eq (k : Nat) (a0 : V_impl_Out) (a1 : V_impl_Out) : laws_eqOut (k + 1) a0 a1 = 
 cond (a0.1 != a1.1) (some false) (
  cond (a0.2.1 != a1.2.1) (some false) (
   cond (a0.2.2.1 != a1.2.2.1) (some false) (
    cond (a0.2.2.2.1 != a1.2.2.2.1) (some false) (
     cond (a0.2.2.2.2 != a1.2.2.2.2) (some false) (some true))))) := by kernel_rfl

noncomputable def laws_eqOutS (k : Nat) (a0 : V_sl_impl_Out) (a1 : V_sl_impl_Out) : Option V_bool := evalT E k 34 t_bool [inp t_sl_impl_Out a0, inp t_sl_impl_Out a1] []
noncomputable def laws_eqOutS_4 (k : Nat) (j : Nat) (y0 : List V_impl_Out) (y1 : List V_impl_Out) (y2 : Int) : Option V_bool := loopAt E 34 t_bool [true, true, false, true, false] [] [] k [] j (mkS 27 [(0, .c (.sl 111 t_impl_Out y0)), (1, .c (.sl 111 t_impl_Out y1)), (5, .c (.int .i64 y2))]) []
theorem laws_eqOutS_eq (k : Nat) (a0 : V_sl_impl_Out) (a1 : V_sl_impl_Out) : laws_eqOutS (k + 1) a0 a1 = 
 cond ((↑(List.length a0) : Int) != (↑(List.length a1) : Int)) (some false) (laws_eqOutS_4 k k a0 a1 0) := by kernel_rfl
theorem laws_eqOutS_4_eq (k : Nat) (j : Nat) (y0 : List V_impl_Out) (y1 : List V_impl_Out) (y2 : Int) : laws_eqOutS_4 k (j + 1) y0 y1 y2 = 
 cond (decide (y2 < (↑y0.length : Int))) (
  cond (decide (0 ≤ y2)) (
   cond (decide (y2 < (↑y0.length : Int))) (
    cond (decide (0 ≤ y2)) (
     cond (decide (y2 < (↑y1.length : Int))) (
      (laws_eqOut k (y0.getD y2.toNat (dflt t_impl_Out)) (y1.getD y2.toNat (dflt t_impl_Out))).bind fun x0 => 
       cond (!x0) (some false) (laws_eqOutS_4 k j y0 y1 (IntKind.i64.wrap (y2 + 1)))) (none)) (none)) (none)) (none)) (some true) := by kernel_rfl

noncomputable def laws_eqPast (k : Nat) (a0 : V_impl_Past) (a1 : V_impl_Past) : Option V_bool := evalT E k 135 t_bool [inp t_impl_Past a0, inp t_impl_Past a1] []
theorem laws_eqPast_eq (k : Nat) (a0 : V_impl_Past) (a1 : V_impl_Past) : laws_eqPast (k + 1) a0 a1 = 
 (laws_eqEvent k a0.1 a1.1).bind fun x0 => 
  cond (!x0) (some false) (
   (laws_eqState k a0.2.1 a1.2.1).bind fun x1 => 
    cond (!x1) (some false) (
     (laws_eqEventS k a0.2.2.1 a1.2.2.1).bind fun x2 => 
      cond (!x2) (some false) (
       (laws_eqOutS k a0.2.2.2 a1.2.2.2).bind fun x3 => 
        cond (!x3) (some false) (some true)))) := by kernel_rfl

noncomputable def laws_eqPastS (k : Nat) (a0 : V_sl_impl_Past) (a1 : V_sl_impl_Past) : Option V_bool := evalT E k 70 t_bool [inp t_sl_impl_Past a0, inp t_sl_impl_Past a1] []
noncomputable def laws_eqPastS_4 (k : Nat) (j : Nat) (y0 : List V_impl_Past) (y1 : List V_impl_Past) (y2 : Int) : Option V_bool := loopAt E 70 t_bool [true, true, false, true, false] [] [] k [] j (mkS 27 [(0, .c (.sl 96 t_impl_Past y0)), (1, .c (.sl 96 t_impl_Past y1)), (5, .c (.int .i64 y2))]) []
theorem laws_eqPastS_eq (k : Nat) (a0 : V_sl_impl_Past) (a1 : V_sl_impl_Past) : laws_eqPastS (k + 1) a0 a1 = 
 cond ((↑(List.length a0) : Int) != (↑(List.length a1) : Int)) (some false) (laws_eqPastS_4 k k a0 a1 0) := by kernel_rfl
theorem laws_eqPastS_4_eq (k : Nat) (j : Nat) (y0 : List V_impl_Past) (y1 : List V_impl_Past) (y2 : Int) : laws_eqPastS_4 k (j + 1) y0 y1 y2 = 
 cond (decide (y2 < (↑y0.length : Int))) (
  cond (decide (0 ≤ y2)) (
   cond (decide (y2 < (↑y0.length : Int))) (
    cond (decide (0 ≤ y2)) (
     cond (decide (y2 < (↑y1.length : Int))) (
      (laws_eqPast k (y0.getD y2.toNat (dflt t_impl_Past)) (y1.getD y2.toNat (dflt t_impl_Past))).bind fun x0 => 
       cond (!x0) (some false) (laws_eqPastS_4 k j y0 y1 (IntKind.i64.wrap (y2 + 1)))) (none)) (none)) (none)) (none)) (some true) := by kernel_rfl

noncomputable def laws_eqLane (k : Nat) (a0 : V_impl_Lane) (a1 : V_impl_Lane) : Option V_bool := evalT E k 17 t_bool [inp t_impl_Lane a0, inp t_impl_Lane a1] []
theorem laws_eqLane_eq (k : Nat) (a0 : V_impl_Lane) (a1 : V_impl_Lane) : laws_eqLane (k + 1) a0 a1 = 
 cond (a0.1 != a1.1) (some false) (
  (laws_eqState k a0.2.1 a1.2.1).bind fun x0 => 
   cond (!x0) (some false) (
    (laws_eqPastS k a0.2.2 a1.2.2).bind fun x1 => 
     cond (!x1) (some false) (some true))) := by kernel_rfl

noncomputable def laws_markEventS_h0 (k : Nat) (y0 : V_int) (y1 : List V_impl_Event) : Option ((V_int × (List V_impl_Event × Unit))) := evalT E k 30 (.pair t_int (.pair (.ow 41 t_impl_Event) .unit)) [.c (.o 0), inp t_int y0] [some (.own 41 t_impl_Event y1)]
noncomputable def laws_markEventS_h0_2 (k : Nat) (j : Nat) (y0 : Int) (y1 : Int) (y2 : List V_impl_Event) : Option ((V_int × (List V_impl_Event × Unit))) := loopAt E 30 (.pair t_int (.pair (.ow 41 t_impl_Event) .unit)) [true, false, true, false] [none] [0] k [] j (mkS 62 [(0, .c (.o 0)), (1, .c (.int .i64 y0)), (5, .c (.int .i64 y1))]) [some (.own 41 t_impl_Event y2)]
theorem laws_markEventS_h0_eq (k : Nat) (y0 : V_int) (y1 : List V_impl_Event) : laws_markEventS_h0 (k + 1) y0 y1 = laws_markEventS_h0_2 k k y0 0 y1 := by kernel_rfl
theorem laws_markEventS_h0_2_eq (k : Nat) (j : Nat) (y0 : Int) (y1 : Int) (y2 : List V_impl_Event) : laws_markEventS_h0_2 k (j + 1) y0 y1 y2 = 
 cond (decide (y1 < (↑y2.length : Int))) (
  cond (decide (0 ≤ y1)) (
   cond (decide (y1 < (↑y2.length : Int))) (
    cond (decide (y1.toNat < y2.length)) (
     cond (decide (0 ≤ y1)) (
      cond (decide
  (y1 <
    (↑(y2.modify y1.toNat fun x =>
            (y0, x.2.1, x.2.2.1, x.2.2.2.1, x.2.2.2.2.1, x.2.2.2.2.2.1,
              x.2.2.2.2.2.2)).length :
      Int))) (
       cond (decide
  (y1.toNat <
    (y2.modify y1.toNat fun x =>
        (y0, x.2.1, x.2.2.1, x.2.2.2.1, x.2.2.2.2.1, x.2.2.2.2.2.1,
          x.2.2.2.2.2.2)).length)) (
        cond (decide (0 ≤ y1)) (
         cond (decide
  (y1 <
    (↑((y2.modify y1.toNat fun x =>
                (y0, x.2.1, x.2.2.1, x.2.2.2.1, x.2.2.2.2.1, x.2.2.2.2.2.1,
                  x.2.2.2.2.2.2)).modify
            y1.toNat fun x =>
            (x.1, IntKind.i64.wrap (y0 + 1), x.2.2.1, x.2.2.2.1, x.2.2.2.2.1,
              x.2.2.2.2.2.1, x.2.2.2.2.2.2)).length :
      Int))) (
          cond (decide
  (y1.toNat <
    ((y2.modify y1.toNat fun x =>
            (y0, x.2.1, x.2.2.1, x.2.2.2.1, x.2.2.2.2.1, x.2.2.2.2.2.1,
              x.2.2.2.2.2.2)).modify
        y1.toNat fun x =>
        (x.1, IntKind.i64.wrap (y0 + 1), x.2.2.1, x.2.2.2.1, x.2.2.2.2.1,
          x.2.2.2.2.2.1, x.2.2.2.2.2.2)).length)) (
           cond (decide (0 ≤ y1)) (
            cond (decide
  (y1 <
    (↑(((y2.modify y1.toNat fun x =>
                    (y0, x.2.1, x.2.2.1, x.2.2.2.1, x.2.2.2.2.1, x.2.2.2.2.2.1,
                      x.2.2.2.2.2.2)).modify
                y1.toNat fun x =>
                (x.1, IntKind.i64.wrap (y0 + 1), x.2.2.1, x.2.2.2.1, x.2.2.2.2.1,
                  x.2.2.2.2.2.1, x.2.2.2.2.2.2)).modify
            y1.toNat fun x =>
            (x.1, x.2.1, IntKind.i64.wrap (IntKind.i64.wrap (y0 + 1) + 1), x.2.2.2.1,
              x.2.2.2.2.1, x.2.2.2.2.2.1, x.2.2.2.2.2.2)).length :
      Int))) (
             cond (decide
  (y1.toNat <
    (((y2.modify y1.toNat fun x =>
                (y0, x.2.1, x.2.2.1, x.2.2.2.1, x.2.2.2.2.1, x.2.2.2.2.2.1,
                  x.2.2.2.2.2.2)).modify
            y1.toNat fun x =>
            (x.1, IntKind.i64.wrap (y0 + 1), x.2.2.1, x.2.2.2.1, x.2.2.2.2.1,
              x.2.2.2.2.2.1, x.2.2.2.2.2.2)).modify
        y1.toNat fun x =>
        (x.1, x.2.1, IntKind.i64.wrap (IntKind.i64.wrap (y0 + 1) + 1), x.2.2.2.1, x.2.2.2.2.1,
          x.2.2.2.2.2.1, x.2.2.2.2.2.2)).length)) (
              cond (decide (0 ≤ y1)) (
               cond (decide
  (y1 <
    (↑((((y2.modify y1.toNat fun x =>
                        (y0, x.2.1, x.2.2.1, x.2.2.2.1, x.2.2.2.2.1,
                          x.2.2.2.2.2.1, x.2.2.2.2.2.2)).modify
                    y1.toNat fun x =>
                    (x.1, IntKind.i64.wrap (y0 + 1), x.2.2.1, x.2.2.2.1, x.2.2.2.2.1,
                      x.2.2.2.2.2.1, x.2.2.2.2.2.2)).modify
                y1.toNat fun x =>
                (x.1, x.2.1, IntKind.i64.wrap (IntKind.i64.wrap (y0 + 1) + 1), x.2.2.2.1,
                  x.2.2.2.2.1, x.2.2.2.2.2.1, x.2.2.2.2.2.2)).modify
            y1.toNat fun x =>
            (x.1, x.2.1, x.2.2.1, IntKind.i64.wrap (IntKind.i64.wrap (IntKind.i64.wrap (y0 + 1) + 1) + 1),
              x.2.2.2.2.1, x.2.2.2.2.2.1, x.2.2.2.2.2.2)).length :
      Int))) (
                cond (decide
  (y1.toNat <
    ((((y2.modify y1.toNat fun x =>
                    (y0, x.2.1, x.2.2.1, x.2.2.2.1, x.2.2.2.2.1, x.2.2.2.2.2.1,
                      x.2.2.2.2.2.2)).modify
                y1.toNat fun x =>
                (x.1, IntKind.i64.wrap (y0 + 1), x.2.2.1, x.2.2.2.1, x.2.2.2.2.1,
                  x.2.2.2.2.2.1, x.2.2.2.2.2.2)).modify
            y1.toNat fun x =>
            (x.1, x.2.1, IntKind.i64.wrap (IntKind.i64.wrap (y0 + 1) + 1), x.2.2.2.1,
              x.2.2.2.2.1, x.2.2.2.2.2.1, x.2.2.2.2.2.2)).modify
        y1.toNat fun x =>
        (x.1, x.2.1, x.2.2.1, IntKind.i64.wrap (IntKind.i64.wrap (IntKind.i64.wrap (y0 + 1) + 1) + 1),
          x.2.2.2.2.1, x.2.2.2.2.2.1, x.2.2.2.2.2.2)).length)) (
                 cond (decide (0 ≤ y1)) (
                  cond (decide
  (y1 <
    (↑(((((y2.modify y1.toNat fun x =>
                            (y0, x.2.1, x.2.2.1, x.2.2.2.1, x.2.2.2.2.1,
                              x.2.2.2.2.2.1, x.2.2.2.2.2.2)).modify
                        y1.toNat fun x =>
                        (x.1, IntKind.i64.wrap (y0 + 1), x.2.2.1, x.2.2.2.1, x.2.2.2.2.1,
                          x.2.2.2.2.2.1, x.2.2.2.2.2.2)).modify
                    y1.toNat fun x =>
                    (x.1, x.2.1, IntKind.i64.wrap (IntKind.i64.wrap (y0 + 1) + 1), x.2.2.2.1,
                      x.2.2.2.2.1, x.2.2.2.2.2.1, x.2.2.2.2.2.2)).modify
                y1.toNat fun x =>
                (x.1, x.2.1, x.2.2.1,
                  IntKind.i64.wrap (IntKind.i64.wrap (IntKind.i64.wrap (y0 + 1) + 1) + 1), x.2.2.2.2.1,
                  x.2.2.2.2.2.1, x.2.2.2.2.2.2)).modify
            y1.toNat fun x =>
            (x.1, x.2.1, x.2.2.1, x.2.2.2.1,
              IntKind.i64.wrap (IntKind.i64.wrap (IntKind.i64.wrap (IntKind.i64.wrap (y0 + 1) + 1) + 1) + 1),
              x.2.2.2.2.2.1, x.2.2.2.2.2.2)).length :
      Int))) (
                   cond (decide
  (y1.toNat <
    (((((y2.modify y1.toNat fun x =>
                        (y0, x.2.1, x.2.2.1, x.2.2.2.1, x.2.2.2.2.1,
                          x.2.2.2.2.2.1, x.2.2.2.2.2.2)).modify
                    y1.toNat fun x =>
                    (x.1, IntKind.i64.wrap (y0 + 1), x.2.2.1, x.2.2.2.1, x.2.2.2.2.1,
                      x.2.2.2.2.2.1, x.2.2.2.2.2.2)).modify
                y1.toNat fun x =>
                (x.1, x.2.1, IntKind.i64.wrap (IntKind.i64.wrap (y0 + 1) + 1), x.2.2.2.1,
                  x.2.2.2.2.1, x.2.2.2.2.2.1, x.2.2.2.2.2.2)).modify
            y1.toNat fun x =>
            (x.1, x.2.1, x.2.2.1, IntKind.i64.wrap (IntKind.i64.wrap (IntKind.i64.wrap (y0 + 1) + 1) + 1),
              x.2.2.2.2.1, x.2.2.2.2.2.1, x.2.2.2.2.2.2)).modify
        y1.toNat fun x =>
        (x.1, x.2.1, x.2.2.1, x.2.2.2.1,
          IntKind.i64.wrap (IntKind.i64.wrap (IntKind.i64.wrap (IntKind.i64.wrap (y0 + 1) + 1) + 1) + 1),
          x.2.2.2.2.2.1, x.2.2.2.2.2.2)).length)) (
                    cond (decide (0 ≤ y1)) (
                     cond (decide
  (y1 <
    (↑((((((y2.modify y1.toNat fun x =>
                                (y0, x.2.1, x.2.2.1, x.2.2.2.1, x.2.2.2.2.1,
                                  x.2.2.2.2.2.1, x.2.2.2.2.2.2)).modify
                            y1.toNat fun x =>
                            (x.1, IntKind.i64.wrap (y0 + 1), x.2.2.1, x.2.2.2.1, x.2.2.2.2.1,
                              x.2.2.2.2.2.1, x.2.2.2.2.2.2)).modify
                        y1.toNat fun x =>
                        (x.1, x.2.1, IntKind.i64.wrap (IntKind.i64.wrap (y0 + 1) + 1), x.2.2.2.1,
                          x.2.2.2.2.1, x.2.2.2.2.2.1, x.2.2.2.2.2.2)).modify
                    y1.toNat fun x =>
                    (x.1, x.2.1, x.2.2.1,
                      IntKind.i64.wrap (IntKind.i64.wrap (IntKind.i64.wrap (y0 + 1) + 1) + 1), x.2.2.2.2.1,
                      x.2.2.2.2.2.1, x.2.2.2.2.2.2)).modify
                y1.toNat fun x =>
                (x.1, x.2.1, x.2.2.1, x.2.2.2.1,
                  IntKind.i64.wrap (IntKind.i64.wrap (IntKind.i64.wrap (IntKind.i64.wrap (y0 + 1) + 1) + 1) + 1),
                  x.2.2.2.2.2.1, x.2.2.2.2.2.2)).modify
            y1.toNat fun x =>
            (x.1, x.2.1, x.2.2.1, x.2.2.2.1, x.2.2.2.2.1,
              IntKind.i64.wrap
                (IntKind.i64.wrap (IntKind.i64.wrap (IntKind.i64.wrap (IntKind.i64.wrap (y0 + 1) + 1) + 1) + 1) + 1),
              x.2.2.2.2.2.2)).length :
      Int))) (
                      cond (decide
  (y1.toNat <
    ((((((y2.modify y1.toNat fun x =>
                            (y0, x.2.1, x.2.2.1, x.2.2.2.1, x.2.2.2.2.1,
                              x.2.2.2.2.2.1, x.2.2.2.2.2.2)).modify
                        y1.toNat fun x =>
                        (x.1, IntKind.i64.wrap (y0 + 1), x.2.2.1, x.2.2.2.1, x.2.2.2.2.1,
                          x.2.2.2.2.2.1, x.2.2.2.2.2.2)).modify
                    y1.toNat fun x =>
                    (x.1, x.2.1, IntKind.i64.wrap (IntKind.i64.wrap (y0 + 1) + 1), x.2.2.2.1,
                      x.2.2.2.2.1, x.2.2.2.2.2.1, x.2.2.2.2.2.2)).modify
                y1.toNat fun x =>
                (x.1, x.2.1, x.2.2.1,
                  IntKind.i64.wrap (IntKind.i64.wrap (IntKind.i64.wrap (y0 + 1) + 1) + 1), x.2.2.2.2.1,
                  x.2.2.2.2.2.1, x.2.2.2.2.2.2)).modify
            y1.toNat fun x =>
            (x.1, x.2.1, x.2.2.1, x.2.2.2.1,
              IntKind.i64.wrap (IntKind.i64.wrap (IntKind.i64.wrap (IntKind.i64.wrap (y0 + 1) + 1) + 1) + 1),
              x.2.2.2.2.2.1, x.2.2.2.2.2.2)).modify
        y1.toNat fun x =>
        (x.1, x.2.1, x.2.2.1, x.2.2.2.1, x.2.2.2.2.1,
          IntKind.i64.wrap
            (IntKind.i64.wrap (IntKind.i64.wrap (IntKind.i64.wrap (IntKind.i64.wrap (y0 + 1) + 1) + 1) + 1) + 1),
          x.2.2.2.2.2.2)).length)) (laws_markEventS_h0_2 k j (IntKind.i64.wrap
  (IntKind.i64.wrap
      (IntKind.i64.wrap
          (IntKind.i64.wrap (IntKind.i64.wrap (IntKind.i64.wrap (IntKind.i64.wrap (y0 + 1) + 1) + 1) + 1) + 1) +
        1) +
    1)) (IntKind.i64.wrap (y1 + 1)) (((((((y2.modify y1.toNat fun x =>
                          (y0, x.2.1, x.2.2.1, x.2.2.2.1, x.2.2.2.2.1,
                            x.2.2.2.2.2.1, x.2.2.2.2.2.2)).modify
                      y1.toNat fun x =>
                      (x.1, IntKind.i64.wrap (y0 + 1), x.2.2.1, x.2.2.2.1, x.2.2.2.2.1,
                        x.2.2.2.2.2.1, x.2.2.2.2.2.2)).modify
                  y1.toNat fun x =>
                  (x.1, x.2.1, IntKind.i64.wrap (IntKind.i64.wrap (y0 + 1) + 1), x.2.2.2.1,
                    x.2.2.2.2.1, x.2.2.2.2.2.1, x.2.2.2.2.2.2)).modify
              y1.toNat fun x =>
              (x.1, x.2.1, x.2.2.1, IntKind.i64.wrap (IntKind.i64.wrap (IntKind.i64.wrap (y0 + 1) + 1) + 1),
                x.2.2.2.2.1, x.2.2.2.2.2.1, x.2.2.2.2.2.2)).modify
          y1.toNat fun x =>
          (x.1, x.2.1, x.2.2.1, x.2.2.2.1,
            IntKind.i64.wrap (IntKind.i64.wrap (IntKind.i64.wrap (IntKind.i64.wrap (y0 + 1) + 1) + 1) + 1),
            x.2.2.2.2.2.1, x.2.2.2.2.2.2)).modify
      y1.toNat fun x =>
      (x.1, x.2.1, x.2.2.1, x.2.2.2.1, x.2.2.2.2.1,
        IntKind.i64.wrap
          (IntKind.i64.wrap (IntKind.i64.wrap (IntKind.i64.wrap (IntKind.i64.wrap (y0 + 1) + 1) + 1) + 1) + 1),
        x.2.2.2.2.2.2)).modify
  y1.toNat fun x =>
  (x.1, x.2.1, x.2.2.1, x.2.2.2.1, x.2.2.2.2.1, x.2.2.2.2.2.1,
    IntKind.i64.wrap
      (IntKind.i64.wrap
          (IntKind.i64.wrap (IntKind.i64.wrap (IntKind.i64.wrap (IntKind.i64.wrap (y0 + 1) + 1) + 1) + 1) + 1) +
        1)))) (none)) (none)) (none)) (none)) (none)) (none)) (none)) (none)) (none)) (none)) (none)) (none)) (none)) (none)) (none)) (none)) (none)) (none)) (none)) (none)) (none)) (some ((y0, y2, ()))) := by kernel_rfl

noncomputable def laws_markOutS_h0 (k : Nat) (y0 : V_int) (y1 : List V_impl_Out) : Option ((V_int × (List V_impl_Out × Unit))) := evalT E k 35 (.pair t_int (.pair (.ow 111 t_impl_Out) .unit)) [.c (.o 0), inp t_int y0] [some (.own 111 t_impl_Out y1)]
noncomputable def laws_markOutS_h0_2 (k : Nat) (j : Nat) (y0 : Int) (y1 : Int) (y2 : List V_impl_Out) : Option ((V_int × (List V_impl_Out × Unit))) := loopAt E 35 (.pair t_int (.pair (.ow 111 t_impl_Out) .unit)) [true, false, true, false] [none] [0] k [] j (mkS 48 [(0, .c (.o 0)), (1, .c (.int .i64 y0)), (5, .c (.int .i64 y1))]) [some (.own 111 t_impl_Out y2)]
theorem laws_markOutS_h0_eq (k : Nat) (y0 : V_int) (y1 : List V_impl_Out) : laws_markOutS_h0 (k + 1) y0 y1 = laws_markOutS_h0_2 k k y0 0 y1 := by kernel_rfl
theorem laws_markOutS_h0_2_eq (k : Nat) (j : Nat) (y0 : Int) (y1 : Int) (y2 : List V_impl_Out) : laws_markOutS_h0_2 k (j + 1) y0 y1 y2 = 
 cond (decide (y1 < (↑y2.length : Int))) (
  cond (decide (0 ≤ y1)) (
   cond (decide (y1 < (↑y2.length : Int))) (
    cond (decide (y1.toNat < y2.length)) (
     cond (decide (0 ≤ y1)) (
      cond (decide
  (y1 <
    (↑(y2.modify y1.toNat fun x => (y0, x.2.1, x.2.2.1, x.2.2.2.1, x.2.2.2.2)).length : Int))) (
       cond (decide
  (y1.toNat < (y2.modify y1.toNat fun x => (y0, x.2.1, x.2.2.1, x.2.2.2.1, x.2.2.2.2)).length)) (
        cond (decide (0 ≤ y1)) (
         cond (decide
  (y1 <
    (↑((y2.modify y1.toNat fun x => (y0, x.2.1, x.2.2.1, x.2.2.2.1, x.2.2.2.2)).modify
            y1.toNat fun x =>
            (x.1, IntKind.i64.wrap (y0 + 1), x.2.2.1, x.2.2.2.1, x.2.2.2.2)).length :
      Int))) (
          cond (decide
  (y1.toNat <
    ((y2.modify y1.toNat fun x => (y0, x.2.1, x.2.2.1, x.2.2.2.1, x.2.2.2.2)).modify y1.toNat
        fun x => (x.1, IntKind.i64.wrap (y0 + 1), x.2.2.1, x.2.2.2.1, x.2.2.2.2)).length)) (
           cond (decide (0 ≤ y1)) (
            cond (decide
  (y1 <
    (↑(((y2.modify y1.toNat fun x => (y0, x.2.1, x.2.2.1, x.2.2.2.1, x.2.2.2.2)).modify
                y1.toNat fun x =>
                (x.1, IntKind.i64.wrap (y0 + 1), x.2.2.1, x.2.2.2.1, x.2.2.2.2)).modify
            y1.toNat fun x =>
            (x.1, x.2.1, IntKind.i64.wrap (IntKind.i64.wrap (y0 + 1) + 1), x.2.2.2.1,
              x.2.2.2.2)).length :
      Int))) (
             cond (decide
  (y1.toNat <
    (((y2.modify y1.toNat fun x => (y0, x.2.1, x.2.2.1, x.2.2.2.1, x.2.2.2.2)).modify y1.toNat
            fun x => (x.1, IntKind.i64.wrap (y0 + 1), x.2.2.1, x.2.2.2.1, x.2.2.2.2)).modify
        y1.toNat fun x =>
        (x.1, x.2.1, IntKind.i64.wrap (IntKind.i64.wrap (y0 + 1) + 1), x.2.2.2.1,
          x.2.2.2.2)).length)) (
              cond (decide (0 ≤ y1)) (
               cond (decide
  (y1 <
    (↑((((y2.modify y1.toNat fun x => (y0, x.2.1, x.2.2.1, x.2.2.2.1, x.2.2.2.2)).modify
                    y1.toNat fun x =>
                    (x.1, IntKind.i64.wrap (y0 + 1), x.2.2.1, x.2.2.2.1, x.2.2.2.2)).modify
                y1.toNat fun x =>
                (x.1, x.2.1, IntKind.i64.wrap (IntKind.i64.wrap (y0 + 1) + 1), x.2.2.2.1,
                  x.2.2.2.2)).modify
            y1.toNat fun x =>
            (x.1, x.2.1, x.2.2.1, IntKind.i64.wrap (IntKind.i64.wrap (IntKind.i64.wrap (y0 + 1) + 1) + 1),
              x.2.2.2.2)).length :
      Int))) (
                cond (decide
  (y1.toNat <
    ((((y2.modify y1.toNat fun x => (y0, x.2.1, x.2.2.1, x.2.2.2.1, x.2.2.2.2)).modify
                y1.toNat fun x =>
                (x.1, IntKind.i64.wrap (y0 + 1), x.2.2.1, x.2.2.2.1, x.2.2.2.2)).modify
            y1.toNat fun x =>
            (x.1, x.2.1, IntKind.i64.wrap (IntKind.i64.wrap (y0 + 1) + 1), x.2.2.2.1,
              x.2.2.2.2)).modify
        y1.toNat fun x =>
        (x.1, x.2.1, x.2.2.1, IntKind.i64.wrap (IntKind.i64.wrap (IntKind.i64.wrap (y0 + 1) + 1) + 1),
          x.2.2.2.2)).length)) (laws_markOutS_h0_2 k j (IntKind.i64.wrap (IntKind.i64.wrap (IntKind.i64.wrap (IntKind.i64.wrap (IntKind.i64.wrap (y0 + 1) + 1) + 1) + 1) + 1)) (IntKind.i64.wrap (y1 + 1)) (((((y2.modify y1.toNat fun x => (y0, x.2.1, x.2.2.1, x.2.2.2.1, x.2.2.2.2)).modify y1.toNat
              fun x => (x.1, IntKind.i64.wrap (y0 + 1), x.2.2.1, x.2.2.2.1, x.2.2.2.2)).modify
          y1.toNat fun x =>
          (x.1, x.2.1, IntKind.i64.wrap (IntKind.i64.wrap (y0 + 1) + 1), x.2.2.2.1,
            x.2.2.2.2)).modify
      y1.toNat fun x =>
      (x.1, x.2.1, x.2.2.1, IntKind.i64.wrap (IntKind.i64.wrap (IntKind.i64.wrap (y0 + 1) + 1) + 1),
        x.2.2.2.2)).modify
  y1.toNat fun x =>
  (x.1, x.2.1, x.2.2.1, x.2.2.2.1,
    IntKind.i64.wrap (IntKind.i64.wrap (IntKind.i64.wrap (IntKind.i64.wrap (y0 + 1) + 1) + 1) + 1)))) (none)) (none)) (none)) (none)) (none)) (none)) (none)) (none)) (none)) (none)) (none)) (none)) (none)) (none)) (none)) (some ((y0, y2, ()))) := by kernel_rfl

noncomputable def laws_markPastS_h0 (k : Nat) (y0 : V_int) (y1 : List V_impl_Past) : Option ((V_int × (List V_impl_Past × Unit))) := evalT E k 80 (.pair t_int (.pair (.dw 96 t_impl_Past) .unit)) [.c (.o 0), inp t_int y0] [some (.dp 96 t_impl_Past y1)]
noncomputable def laws_markPastS_h0_2 (k : Nat) (j : Nat) (y0 : Int) (y1 : Int) (y2 : List V_impl_Past) : Option ((V_int × (List V_impl_Past × Unit))) := loopAt E 80 (.pair t_int (.pair (.dw 96 t_impl_Past) .unit)) [true, false, true, false] [none] [0] k [] j (mkS 107 [(0, .c (.o 0)), (1, .c (.int .i64 y0)), (5, .c (.int .i64 y1))]) [some (.dp 96 t_impl_Past y2)]
theorem laws_markPastS_h0_eq (k : Nat) (y0 : V_int) (y1 : List V_impl_Past) : laws_markPastS_h0 (k + 1) y0 y1 = laws_markPastS_h0_2 k k y0 0 y1 := by kernel_rfl
theorem laws_markPastS_h0_2_eq (k : Nat) (j : Nat) (y0 : Int) (y1 : Int) (y2 : List V_impl_Past) : laws_markPastS_h0_2 k (j + 1) y0 y1 y2 = 
 cond (decide (y1 < (↑y2.length : Int))) (
  cond (decide (0 ≤ y1)) (
   cond (decide (y1 < (↑y2.length : Int))) (
    cond (decide (y1.toNat < y2.length)) (
     cond (decide (0 ≤ y1)) (
      cond (decide
  (y1 <
    (↑(y2.modify y1.toNat fun x =>
            ((y0, x.1.2.1, x.1.2.2.1, x.1.2.2.2.1, x.1.2.2.2.2.1,
                x.1.2.2.2.2.2.1, x.1.2.2.2.2.2.2),
              (x.2.1.1, x.2.1.2.1, x.2.1.2.2), x.2.2.1, x.2.2.2)).length :
      Int))) (
       cond (decide
  (y1.toNat <
    (y2.modify y1.toNat fun x =>
        ((y0, x.1.2.1, x.1.2.2.1, x.1.2.2.2.1, x.1.2.2.2.2.1,
            x.1.2.2.2.2.2.1, x.1.2.2.2.2.2.2),
          (x.2.1.1, x.2.1.2.1, x.2.1.2.2), x.2.2.1, x.2.2.2)).length)) (
        cond (decide (0 ≤ y1)) (
         cond (decide
  (y1 <
    (↑((y2.modify y1.toNat fun x =>
                ((y0, x.1.2.1, x.1.2.2.1, x.1.2.2.2.1, x.1.2.2.2.2.1,
                    x.1.2.2.2.2.2.1, x.1.2.2.2.2.2.2),
                  (x.2.1.1, x.2.1.2.1, x.2.1.2.2), x.2.2.1, x.2.2.2)).modify
            y1.toNat fun x =>
            ((x.1.1, IntKind.i64.wrap (y0 + 1), x.1.2.2.1, x.1.2.2.2.1, x.1.2.2.2.2.1,
                x.1.2.2.2.2.2.1, x.1.2.2.2.2.2.2),
              (x.2.1.1, x.2.1.2.1, x.2.1.2.2), x.2.2.1, x.2.2.2)).length :
      Int))) (
          cond (decide
  (y1.toNat <
    ((y2.modify y1.toNat fun x =>
            ((y0, x.1.2.1, x.1.2.2.1, x.1.2.2.2.1, x.1.2.2.2.2.1,
                x.1.2.2.2.2.2.1, x.1.2.2.2.2.2.2),
              (x.2.1.1, x.2.1.2.1, x.2.1.2.2), x.2.2.1, x.2.2.2)).modify
        y1.toNat fun x =>
        ((x.1.1, IntKind.i64.wrap (y0 + 1), x.1.2.2.1, x.1.2.2.2.1, x.1.2.2.2.2.1,
            x.1.2.2.2.2.2.1, x.1.2.2.2.2.2.2),
          (x.2.1.1, x.2.1.2.1, x.2.1.2.2), x.2.2.1, x.2.2.2)).length)) (
           cond (decide (0 ≤ y1)) (
            cond (decide
  (y1 <
    (↑(((y2.modify y1.toNat fun x =>
                    ((y0, x.1.2.1, x.1.2.2.1, x.1.2.2.2.1, x.1.2.2.2.2.1,
                        x.1.2.2.2.2.2.1, x.1.2.2.2.2.2.2),
                      (x.2.1.1, x.2.1.2.1, x.2.1.2.2), x.2.2.1, x.2.2.2)).modify
                y1.toNat fun x =>
                ((x.1.1, IntKind.i64.wrap (y0 + 1), x.1.2.2.1, x.1.2.2.2.1,
                    x.1.2.2.2.2.1, x.1.2.2.2.2.2.1, x.1.2.2.2.2.2.2),
                  (x.2.1.1, x.2.1.2.1, x.2.1.2.2), x.2.2.1, x.2.2.2)).modify
            y1.toNat fun x =>
            ((x.1.1, x.1.2.1, IntKind.i64.wrap (IntKind.i64.wrap (y0 + 1) + 1), x.1.2.2.2.1,
                x.1.2.2.2.2.1, x.1.2.2.2.2.2.1, x.1.2.2.2.2.2.2),
              (x.2.1.1, x.2.1.2.1, x.2.1.2.2), x.2.2.1, x.2.2.2)).length :
      Int))) (
             cond (decide
  (y1.toNat <
    (((y2.modify y1.toNat fun x =>
                ((y0, x.1.2.1, x.1.2.2.1, x.1.2.2.2.1, x.1.2.2.2.2.1,
                    x.1.2.2.2.2.2.1, x.1.2.2.2.2.2.2),
                  (x.2.1.1, x.2.1.2.1, x.2.1.2.2), x.2.2.1, x.2.2.2)).modify
            y1.toNat fun x =>
            ((x.1.1, IntKind.i64.wrap (y0 + 1), x.1.2.2.1, x.1.2.2.2.1, x.1.2.2.2.2.1,
                x.1.2.2.2.2.2.1, x.1.2.2.2.2.2.2),
              (x.2.1.1, x.2.1.2.1, x.2.1.2.2), x.2.2.1, x.2.2.2)).modify
        y1.toNat fun x =>
        ((x.1.1, x.1.2.1, IntKind.i64.wrap (IntKind.i64.wrap (y0 + 1) + 1), x.1.2.2.2.1,
            x.1.2.2.2.2.1, x.1.2.2.2.2.2.1, x.1.2.2.2.2.2.2),
          (x.2.1.1, x.2.1.2.1, x.2.1.2.2), x.2.2.1, x.2.2.2)).length)) (
              cond (decide (0 ≤ y1)) (
               cond (decide
  (y1 <
    (↑((((y2.modify y1.toNat fun x =>
                        ((y0, x.1.2.1, x.1.2.2.1, x.1.2.2.2.1, x.1.2.2.2.2.1,
                            x.1.2.2.2.2.2.1, x.1.2.2.2.2.2.2),
                          (x.2.1.1, x.2.1.2.1, x.2.1.2.2), x.2.2.1, x.2.2.2)).modify
                    y1.toNat fun x =>
                    ((x.1.1, IntKind.i64.wrap (y0 + 1), x.1.2.2.1, x.1.2.2.2.1,
                        x.1.2.2.2.2.1, x.1.2.2.2.2.2.1, x.1.2.2.2.2.2.2),
                      (x.2.1.1, x.2.1.2.1, x.2.1.2.2), x.2.2.1, x.2.2.2)).modify
                y1.toNat fun x =>
                ((x.1.1, x.1.2.1, IntKind.i64.wrap (IntKind.i64.wrap (y0 + 1) + 1), x.1.2.2.2.1,
                    x.1.2.2.2.2.1, x.1.2.2.2.2.2.1, x.1.2.2.2.2.2.2),
                  (x.2.1.1, x.2.1.2.1, x.2.1.2.2), x.2.2.1, x.2.2.2)).modify
            y1.toNat fun x =>
            ((x.1.1, x.1.2.1, x.1.2.2.1,
                IntKind.i64.wrap (IntKind.i64.wrap (IntKind.i64.wrap (y0 + 1) + 1) + 1), x.1.2.2.2.2.1,
                x.1.2.2.2.2.2.1, x.1.2.2.2.2.2.2),
              (x.2.1.1, x.2.1.2.1, x.2.1.2.2), x.2.2.1, x.2.2.2)).length :
      Int))) (
                cond (decide
  (y1.toNat <
    ((((y2.modify y1.toNat fun x =>
                    ((y0, x.1.2.1, x.1.2.2.1, x.1.2.2.2.1, x.1.2.2.2.2.1,
                        x.1.2.2.2.2.2.1, x.1.2.2.2.2.2.2),
                      (x.2.1.1, x.2.1.2.1, x.2.1.2.2), x.2.2.1, x.2.2.2)).modify
                y1.toNat fun x =>
                ((x.1.1, IntKind.i64.wrap (y0 + 1), x.1.2.2.1, x.1.2.2.2.1,
                    x.1.2.2.2.2.1, x.1.2.2.2.2.2.1, x.1.2.2.2.2.2.2),
                  (x.2.1.1, x.2.1.2.1, x.2.1.2.2), x.2.2.1, x.2.2.2)).modify
            y1.toNat fun x =>
            ((x.1.1, x.1.2.1, IntKind.i64.wrap (IntKind.i64.wrap (y0 + 1) + 1), x.1.2.2.2.1,
                x.1.2.2.2.2.1, x.1.2.2.2.2.2.1, x.1.2.2.2.2.2.2),
              (x.2.1.1, x.2.1.2.1, x.2.1.2.2), x.2.2.1, x.2.2.2)).modify
        y1.toNat fun x =>
        ((x.1.1, x.1.2.1, x.1.2.2.1,
            IntKind.i64.wrap (IntKind.i64.wrap (IntKind.i64.wrap (y0 + 1) + 1) + 1), x.1.2.2.2.2.1,
            x.1.2.2.2.2.2.1, x.1.2.2.2.2.2.2),
          (x.2.1.1, x.2.1.2.1, x.2.1.2.2), x.2.2.1, x.2.2.2)).length)) (
                 cond (decide (0 ≤ y1)) (
                  cond (decide
  (y1 <
    (↑(((((y2.modify y1.toNat fun x =>
                            ((y0, x.1.2.1, x.1.2.2.1, x.1.2.2.2.1, x.1.2.2.2.2.1,
                                x.1.2.2.2.2.2.1, x.1.2.2.2.2.2.2),
                              (x.2.1.1, x.2.1.2.1, x.2.1.2.2), x.2.2.1,
                              x.2.2.2)).modify
                        y1.toNat fun x =>
                        ((x.1.1, IntKind.i64.wrap (y0 + 1), x.1.2.2.1, x.1.2.2.2.1,
                            x.1.2.2.2.2.1, x.1.2.2.2.2.2.1, x.1.2.2.2.2.2.2),
                          (x.2.1.1, x.2.1.2.1, x.2.1.2.2), x.2.2.1, x.2.2.2)).modify
                    y1.toNat fun x =>
                    ((x.1.1, x.1.2.1, IntKind.i64.wrap (IntKind.i64.wrap (y0 + 1) + 1), x.1.2.2.2.1,
                        x.1.2.2.2.2.1, x.1.2.2.2.2.2.1, x.1.2.2.2.2.2.2),
                      (x.2.1.1, x.2.1.2.1, x.2.1.2.2), x.2.2.1, x.2.2.2)).modify
                y1.toNat fun x =>
                ((x.1.1, x.1.2.1, x.1.2.2.1,
                    IntKind.i64.wrap (IntKind.i64.wrap (IntKind.i64.wrap (y0 + 1) + 1) + 1), x.1.2.2.2.2.1,
                    x.1.2.2.2.2.2.1, x.1.2.2.2.2.2.2),
                  (x.2.1.1, x.2.1.2.1, x.2.1.2.2), x.2.2.1, x.2.2.2)).modify
            y1.toNat fun x =>
            ((x.1.1, x.1.2.1, x.1.2.2.1, x.1.2.2.2.1,
                IntKind.i64.wrap (IntKind.i64.wrap (IntKind.i64.wrap (IntKind.i64.wrap (y0 + 1) + 1) + 1) + 1),
                x.1.2.2.2.2.2.1, x.1.2.2.2.2.2.2),
              (x.2.1.1, x.2.1.2.1, x.2.1.2.2), x.2.2.1, x.2.2.2)).length :
      Int))) (
                   cond (decide
  (y1.toNat <
    (((((y2.modify y1.toNat fun x =>
                        ((y0, x.1.2.1, x.1.2.2.1, x.1.2.2.2.1, x.1.2.2.2.2.1,
                            x.1.2.2.2.2.2.1, x.1.2.2.2.2.2.2),
                          (x.2.1.1, x.2.1.2.1, x.2.1.2.2), x.2.2.1, x.2.2.2)).modify
                    y1.toNat fun x =>
                    ((x.1.1, IntKind.i64.wrap (y0 + 1), x.1.2.2.1, x.1.2.2.2.1,
                        x.1.2.2.2.2.1, x.1.2.2.2.2.2.1, x.1.2.2.2.2.2.2),
                      (x.2.1.1, x.2.1.2.1, x.2.1.2.2), x.2.2.1, x.2.2.2)).modify
                y1.toNat fun x =>
                ((x.1.1, x.1.2.1, IntKind.i64.wrap (IntKind.i64.wrap (y0 + 1) + 1), x.1.2.2.2.1,
                    x.1.2.2.2.2.1, x.1.2.2.2.2.2.1, x.1.2.2.2.2.2.2),
                  (x.2.1.1, x.2.1.2.1, x.2.1.2.2), x.2.2.1, x.2.2.2)).modify
            y1.toNat fun x =>
            ((x.1.1, x.1.2.1, x.1.2.2.1,
                IntKind.i64.wrap (IntKind.i64.wrap (IntKind.i64.wrap (y0 + 1) + 1) + 1), x.1.2.2.2.2.1,
                x.1.2.2.2.2.2.1, x.1.2.2.2.2.2.2),
              (x.2.1.1, x.2.1.2.1, x.2.1.2.2), x.2.2.1, x.2.2.2)).modify
        y1.toNat fun x =>
        ((x.1.1, x.1.2.1, x.1.2.2.1, x.1.2.2.2.1,
            IntKind.i64.wrap (IntKind.i64.wrap (IntKind.i64.wrap (IntKind.i64.wrap (y0 + 1) + 1) + 1) + 1),
            x.1.2.2.2.2.2.1, x.1.2.2.2.2.2.2),
          (x.2.1.1, x.2.1.2.1, x.2.1.2.2), x.2.2.1, x.2.2.2)).length)) (
                    cond (decide (0 ≤ y1)) (
                     cond (decide
  (y1 <
    (↑((((((y2.modify y1.toNat fun x =>
                                ((y0, x.1.2.1, x.1.2.2.1, x.1.2.2.2.1,
                                    x.1.2.2.2.2.1, x.1.2.2.2.2.2.1,
                                    x.1.2.2.2.2.2.2),
                                  (x.2.1.1, x.2.1.2.1, x.2.1.2.2), x.2.2.1,
                                  x.2.2.2)).modify
                            y1.toNat fun x =>
                            ((x.1.1, IntKind.i64.wrap (y0 + 1), x.1.2.2.1, x.1.2.2.2.1,
                                x.1.2.2.2.2.1, x.1.2.2.2.2.2.1,
                                x.1.2.2.2.2.2.2),
                              (x.2.1.1, x.2.1.2.1, x.2.1.2.2), x.2.2.1,
                              x.2.2.2)).modify
                        y1.toNat fun x =>
                        ((x.1.1, x.1.2.1, IntKind.i64.wrap (IntKind.i64.wrap (y0 + 1) + 1),
                            x.1.2.2.2.1, x.1.2.2.2.2.1, x.1.2.2.2.2.2.1,
                            x.1.2.2.2.2.2.2),
                          (x.2.1.1, x.2.1.2.1, x.2.1.2.2), x.2.2.1, x.2.2.2)).modify
                    y1.toNat fun x =>
                    ((x.1.1, x.1.2.1, x.1.2.2.1,
                        IntKind.i64.wrap (IntKind.i64.wrap (IntKind.i64.wrap (y0 + 1) + 1) + 1),
                        x.1.2.2.2.2.1, x.1.2.2.2.2.2.1, x.1.2.2.2.2.2.2),
                      (x.2.1.1, x.2.1.2.1, x.2.1.2.2), x.2.2.1, x.2.2.2)).modify
                y1.toNat fun x =>
                ((x.1.1, x.1.2.1, x.1.2.2.1, x.1.2.2.2.1,
                    IntKind.i64.wrap (IntKind.i64.wrap (IntKind.i64.wrap (IntKind.i64.wrap (y0 + 1) + 1) + 1) + 1),
                    x.1.2.2.2.2.2.1, x.1.2.2.2.2.2.2),
                  (x.2.1.1, x.2.1.2.1, x.2.1.2.2), x.2.2.1, x.2.2.2)).modify
            y1.toNat fun x =>
            ((x.1.1, x.1.2.1, x.1.2.2.1, x.1.2.2.2.1, x.1.2.2.2.2.1,
                IntKind.i64.wrap
                  (IntKind.i64.wrap (IntKind.i64.wrap (IntKind.i64.wrap (IntKind.i64.wrap (y0 + 1) + 1) + 1) + 1) + 1),
                x.1.2.2.2.2.2.2),
              (x.2.1.1, x.2.1.2.1, x.2.1.2.2), x.2.2.1, x.2.2.2)).length :
      Int))) (
                      cond (decide
  (y1.toNat <
    ((((((y2.modify y1.toNat fun x =>
                            ((y0, x.1.2.1, x.1.2.2.1, x.1.2.2.2.1, x.1.2.2.2.2.1,
                                x.1.2.2.2.2.2.1, x.1.2.2.2.2.2.2),
                              (x.2.1.1, x.2.1.2.1, x.2.1.2.2), x.2.2.1,
                              x.2.2.2)).modify
                        y1.toNat fun x =>
                        ((x.1.1, IntKind.i64.wrap (y0 + 1), x.1.2.2.1, x.1.2.2.2.1,
                            x.1.2.2.2.2.1, x.1.2.2.2.2.2.1, x.1.2.2.2.2.2.2),
                          (x.2.1.1, x.2.1.2.1, x.2.1.2.2), x.2.2.1, x.2.2.2)).modify
                    y1.toNat fun x =>
                    ((x.1.1, x.1.2.1, IntKind.i64.wrap (IntKind.i64.wrap (y0 + 1) + 1), x.1.2.2.2.1,
                        x.1.2.2.2.2.1, x.1.2.2.2.2.2.1, x.1.2.2.2.2.2.2),
                      (x.2.1.1, x.2.1.2.1, x.2.1.2.2), x.2.2.1, x.2.2.2)).modify
                y1.toNat fun x =>
                ((x.1.1, x.1.2.1, x.1.2.2.1,
                    IntKind.i64.wrap (IntKind.i64.wrap (IntKind.i64.wrap (y0 + 1) + 1) + 1), x.1.2.2.2.2.1,
                    x.1.2.2.2.2.2.1, x.1.2.2.2.2.2.2),
                  (x.2.1.1, x.2.1.2.1, x.2.1.2.2), x.2.2.1, x.2.2.2)).modify
            y1.toNat fun x =>
            ((x.1.1, x.1.2.1, x.1.2.2.1, x.1.2.2.2.1,
                IntKind.i64.wrap (IntKind.i64.wrap (IntKind.i64.wrap (IntKind.i64.wrap (y0 + 1) + 1) + 1) + 1),
                x.1.2.2.2.2.2.1, x.1.2.2.2.2.2.2),
              (x.2.1.1, x.2.1.2.1, x.2.1.2.2), x.2.2.1, x.2.2.2)).modify
        y1.toNat fun x =>
        ((x.1.1, x.1.2.1, x.1.2.2.1, x.1.2.2.2.1, x.1.2.2.2.2.1,
            IntKind.i64.wrap
              (IntKind.i64.wrap (IntKind.i64.wrap (IntKind.i64.wrap (IntKind.i64.wrap (y0 + 1) + 1) + 1) + 1) + 1),
            x.1.2.2.2.2.2.2),
          (x.2.1.1, x.2.1.2.1, x.2.1.2.2), x.2.2.1, x.2.2.2)).length)) (
                       cond (decide (0 ≤ y1)) (
                        cond (decide
  (y1 <
    (↑(((((((y2.modify y1.toNat fun x =>
                                    ((y0, x.1.2.1, x.1.2.2.1, x.1.2.2.2.1,
                                        x.1.2.2.2.2.1, x.1.2.2.2.2.2.1,
                                        x.1.2.2.2.2.2.2),
                                      (x.2.1.1, x.2.1.2.1, x.2.1.2.2), x.2.2.1,
                                      x.2.2.2)).modify
                                y1.toNat fun x =>
                                ((x.1.1, IntKind.i64.wrap (y0 + 1), x.1.2.2.1, x.1.2.2.2.1,
                                    x.1.2.2.2.2.1, x.1.2.2.2.2.2.1,
                                    x.1.2.2.2.2.2.2),
                                  (x.2.1.1, x.2.1.2.1, x.2.1.2.2), x.2.2.1,
                                  x.2.2.2)).modify
                            y1.toNat fun x =>
                            ((x.1.1, x.1.2.1, IntKind.i64.wrap (IntKind.i64.wrap (y0 + 1) + 1),
                                x.1.2.2.2.1, x.1.2.2.2.2.1, x.1.2.2.2.2.2.1,
                                x.1.2.2.2.2.2.2),
                              (x.2.1.1, x.2.1.2.1, x.2.1.2.2), x.2.2.1,
                              x.2.2.2)).modify
                        y1.toNat fun x =>
                        ((x.1.1, x.1.2.1, x.1.2.2.1,
                            IntKind.i64.wrap (IntKind.i64.wrap (IntKind.i64.wrap (y0 + 1) + 1) + 1),
                            x.1.2.2.2.2.1, x.1.2.2.2.2.2.1, x.1.2.2.2.2.2.2),
                          (x.2.1.1, x.2.1.2.1, x.2.1.2.2), x.2.2.1, x.2.2.2)).modify
                    y1.toNat fun x =>
                    ((x.1.1, x.1.2.1, x.1.2.2.1, x.1.2.2.2.1,
                        IntKind.i64.wrap (IntKind.i64.wrap (IntKind.i64.wrap (IntKind.i64.wrap (y0 + 1) + 1) + 1) + 1),
                        x.1.2.2.2.2.2.1, x.1.2.2.2.2.2.2),
                      (x.2.1.1, x.2.1.2.1, x.2.1.2.2), x.2.2.1, x.2.2.2)).modify
                y1.toNat fun x =>
                ((x.1.1, x.1.2.1, x.1.2.2.1, x.1.2.2.2.1, x.1.2.2.2.2.1,
                    IntKind.i64.wrap
                      (IntKind.i64.wrap (IntKind.i64.wrap (IntKind.i64.wrap (IntKind.i64.wrap (y0 + 1) + 1) + 1) + 1) +
                        1),
                    x.1.2.2.2.2.2.2),
                  (x.2.1.1, x.2.1.2.1, x.2.1.2.2), x.2.2.1, x.2.2.2)).modify
            y1.toNat fun x =>
            ((x.1.1, x.1.2.1, x.1.2.2.1, x.1.2.2.2.1, x.1.2.2.2.2.1,
                x.1.2.2.2.2.2.1,
                IntKind.i64.wrap
                  (IntKind.i64.wrap
                      (IntKind.i64.wrap (IntKind.i64.wrap (IntKind.i64.wrap (IntKind.i64.wrap (y0 + 1) + 1) + 1) + 1) +
                        1) +
                    1)),
              (x.2.1.1, x.2.1.2.1, x.2.1.2.2), x.2.2.1, x.2.2.2)).length :
      Int))) (
                         cond (decide
  (y1.toNat <
    (((((((y2.modify y1.toNat fun x =>
                                ((y0, x.1.2.1, x.1.2.2.1, x.1.2.2.2.1,
                                    x.1.2.2.2.2.1, x.1.2.2.2.2.2.1,
                                    x.1.2.2.2.2.2.2),
                                  (x.2.1.1, x.2.1.2.1, x.2.1.2.2), x.2.2.1,
                                  x.2.2.2)).modify
                            y1.toNat fun x =>
                            ((x.1.1, IntKind.i64.wrap (y0 + 1), x.1.2.2.1, x.1.2.2.2.1,
                                x.1.2.2.2.2.1, x.1.2.2.2.2.2.1,
                                x.1.2.2.2.2.2.2),
                              (x.2.1.1, x.2.1.2.1, x.2.1.2.2), x.2.2.1,
                              x.2.2.2)).modify
                        y1.toNat fun x =>
                        ((x.1.1, x.1.2.1, IntKind.i64.wrap (IntKind.i64.wrap (y0 + 1) + 1),
                            x.1.2.2.2.1, x.1.2.2.2.2.1, x.1.2.2.2.2.2.1,
                            x.1.2.2.2.2.2.2),
                          (x.2.1.1, x.2.1.2.1, x.2.1.2.2), x.2.2.1, x.2.2.2)).modify
                    y1.toNat fun x =>
                    ((x.1.1, x.1.2.1, x.1.2.2.1,
                        IntKind.i64.wrap (IntKind.i64.wrap (IntKind.i64.wrap (y0 + 1) + 1) + 1),
                        x.1.2.2.2.2.1, x.1.2.2.2.2.2.1, x.1.2.2.2.2.2.2),
                      (x.2.1.1, x.2.1.2.1, x.2.1.2.2), x.2.2.1, x.2.2.2)).modify
                y1.toNat fun x =>
                ((x.1.1, x.1.2.1, x.1.2.2.1, x.1.2.2.2.1,
                    IntKind.i64.wrap (IntKind.i64.wrap (IntKind.i64.wrap (IntKind.i64.wrap (y0 + 1) + 1) + 1) + 1),
                    x.1.2.2.2.2.2.1, x.1.2.2.2.2.2.2),
                  (x.2.1.1, x.2.1.2.1, x.2.1.2.2), x.2.2.1, x.2.2.2)).modify
            y1.toNat fun x =>
            ((x.1.1, x.1.2.1, x.1.2.2.1, x.1.2.2.2.1, x.1.2.2.2.2.1,
                IntKind.i64.wrap
                  (IntKind.i64.wrap (IntKind.i64.wrap (IntKind.i64.wrap (IntKind.i64.wrap (y0 + 1) + 1) + 1) + 1) + 1),
                x.1.2.2.2.2.2.2),
              (x.2.1.1, x.2.1.2.1, x.2.1.2.2), x.2.2.1, x.2.2.2)).modify
        y1.toNat fun x =>
        ((x.1.1, x.1.2.1, x.1.2.2.1, x.1.2.2.2.1, x.1.2.2.2.2.1,
            x.1.2.2.2.2.2.1,
            IntKind.i64.wrap
              (IntKind.i64.wrap
                  (IntKind.i64.wrap (IntKind.i64.wrap (IntKind.i64.wrap (IntKind.i64.wrap (y0 + 1) + 1) + 1) + 1) + 1) +
                1)),
          (x.2.1.1, x.2.1.2.1, x.2.1.2.2), x.2.2.1, x.2.2.2)).length)) (
                          cond (decide (0 ≤ y1)) (
                           cond (decide
  (y1 <
    (↑((((((((y2.modify y1.toNat fun x =>
                                        ((y0, x.1.2.1, x.1.2.2.1, x.1.2.2.2.1,
                                            x.1.2.2.2.2.1, x.1.2.2.2.2.2.1,
                                            x.1.2.2.2.2.2.2),
                                          (x.2.1.1, x.2.1.2.1, x.2.1.2.2), x.2.2.1,
                                          x.2.2.2)).modify
                                    y1.toNat fun x =>
                                    ((x.1.1, IntKind.i64.wrap (y0 + 1), x.1.2.2.1, x.1.2.2.2.1,
                                        x.1.2.2.2.2.1, x.1.2.2.2.2.2.1,
                                        x.1.2.2.2.2.2.2),
                                      (x.2.1.1, x.2.1.2.1, x.2.1.2.2), x.2.2.1,
                                      x.2.2.2)).modify
                                y1.toNat fun x =>
                                ((x.1.1, x.1.2.1, IntKind.i64.wrap (IntKind.i64.wrap (y0 + 1) + 1),
                                    x.1.2.2.2.1, x.1.2.2.2.2.1, x.1.2.2.2.2.2.1,
                                    x.1.2.2.2.2.2.2),
                                  (x.2.1.1, x.2.1.2.1, x.2.1.2.2), x.2.2.1,
                                  x.2.2.2)).modify
                            y1.toNat fun x =>
                            ((x.1.1, x.1.2.1, x.1.2.2.1,
                                IntKind.i64.wrap (IntKind.i64.wrap (IntKind.i64.wrap (y0 + 1) + 1) + 1),
                                x.1.2.2.2.2.1, x.1.2.2.2.2.2.1,
                                x.1.2.2.2.2.2.2),
                              (x.2.1.1, x.2.1.2.1, x.2.1.2.2), x.2.2.1,
                              x.2.2.2)).modify
                        y1.toNat fun x =>
                        ((x.1.1, x.1.2.1, x.1.2.2.1, x.1.2.2.2.1,
                            IntKind.i64.wrap
                              (IntKind.i64.wrap (IntKind.i64.wrap (IntKind.i64.wrap (y0 + 1) + 1) + 1) + 1),
                            x.1.2.2.2.2.2.1, x.1.2.2.2.2.2.2),
                          (x.2.1.1, x.2.1.2.1, x.2.1.2.2), x.2.2.1, x.2.2.2)).modify
                    y1.toNat fun x =>
                    ((x.1.1, x.1.2.1, x.1.2.2.1, x.1.2.2.2.1, x.1.2.2.2.2.1,
                        IntKind.i64.wrap
                          (IntKind.i64.wrap
                              (IntKind.i64.wrap (IntKind.i64.wrap (IntKind.i64.wrap (y0 + 1) + 1) + 1) + 1) +
                            1),
                        x.1.2.2.2.2.2.2),
                      (x.2.1.1, x.2.1.2.1, x.2.1.2.2), x.2.2.1, x.2.2.2)).modify
                y1.toNat fun x =>
                ((x.1.1, x.1.2.1, x.1.2.2.1, x.1.2.2.2.1, x.1.2.2.2.2.1,
                    x.1.2.2.2.2.2.1,
                    IntKind.i64.wrap
                      (IntKind.i64.wrap
                          (IntKind.i64.wrap
                              (IntKind.i64.wrap (IntKind.i64.wrap (IntKind.i64.wrap (y0 + 1) + 1) + 1) + 1) +
                            1) +
                        1)),
                  (x.2.1.1, x.2.1.2.1, x.2.1.2.2), x.2.2.1, x.2.2.2)).modify
            y1.toNat fun x =>
            ((x.1.1, x.1.2.1, x.1.2.2.1, x.1.2.2.2.1, x.1.2.2.2.2.1,
                x.1.2.2.2.2.2.1, x.1.2.2.2.2.2.2),
              (IntKind.i64.wrap
                  (IntKind.i64.wrap
                      (IntKind.i64.wrap
                          (IntKind.i64.wrap
                              (IntKind.i64.wrap (IntKind.i64.wrap (IntKind.i64.wrap (y0 + 1) + 1) + 1) + 1) +
                            1) +
                        1) +
                    1),
                x.2.1.2.1, x.2.1.2.2),
              x.2.2.1, x.2.2.2)).length :
      Int))) (
                            cond (decide
  (y1.toNat <
    ((((((((y2.modify y1.toNat fun x =>
                                    ((y0, x.1.2.1, x.1.2.2.1, x.1.2.2.2.1,
                                        x.1.2.2.2.2.1, x.1.2.2.2.2.2.1,
                                        x.1.2.2.2.2.2.2),
                                      (x.2.1.1, x.2.1.2.1, x.2.1.2.2), x.2.2.1,
                                      x.2.2.2)).modify
                                y1.toNat fun x =>
                                ((x.1.1, IntKind.i64.wrap (y0 + 1), x.1.2.2.1, x.1.2.2.2.1,
                                    x.1.2.2.2.2.1, x.1.2.2.2.2.2.1,
                                    x.1.2.2.2.2.2.2),
                                  (x.2.1.1, x.2.1.2.1, x.2.1.2.2), x.2.2.1,
                                  x.2.2.2)).modify
                            y1.toNat fun x =>
                            ((x.1.1, x.1.2.1, IntKind.i64.wrap (IntKind.i64.wrap (y0 + 1) + 1),
                                x.1.2.2.2.1, x.1.2.2.2.2.1, x.1.2.2.2.2.2.1,
                                x.1.2.2.2.2.2.2),
                              (x.2.1.1, x.2.1.2.1, x.2.1.2.2), x.2.2.1,
                              x.2.2.2)).modify
                        y1.toNat fun x =>
                        ((x.1.1, x.1.2.1, x.1.2.2.1,
                            IntKind.i64.wrap (IntKind.i64.wrap (IntKind.i64.wrap (y0 + 1) + 1) + 1),
                            x.1.2.2.2.2.1, x.1.2.2.2.2.2.1, x.1.2.2.2.2.2.2),
                          (x.2.1.1, x.2.1.2.1, x.2.1.2.2), x.2.2.1, x.2.2.2)).modify
                    y1.toNat fun x =>
                    ((x.1.1, x.1.2.1, x.1.2.2.1, x.1.2.2.2.1,
                        IntKind.i64.wrap (IntKind.i64.wrap (IntKind.i64.wrap (IntKind.i64.wrap (y0 + 1) + 1) + 1) + 1),
                        x.1.2.2.2.2.2.1, x.1.2.2.2.2.2.2),
                      (x.2.1.1, x.2.1.2.1, x.2.1.2.2), x.2.2.1, x.2.2.2)).modify
                y1.toNat fun x =>
                ((x.1.1, x.1.2.1, x.1.2.2.1, x.1.2.2.2.1, x.1.2.2.2.2.1,
                    IntKind.i64.wrap
                      (IntKind.i64.wrap (IntKind.i64.wrap (IntKind.i64.wrap (IntKind.i64.wrap (y0 + 1) + 1) + 1) + 1) +
                        1),
                    x.1.2.2.2.2.2.2),
                  (x.2.1.1, x.2.1.2.1, x.2.1.2.2), x.2.2.1, x.2.2.2)).modify
            y1.toNat fun x =>
            ((x.1.1, x.1.2.1, x.1.2.2.1, x.1.2.2.2.1, x.1.2.2.2.2.1,
                x.1.2.2.2.2.2.1,
                IntKind.i64.wrap
                  (IntKind.i64.wrap
                      (IntKind.i64.wrap (IntKind.i64.wrap (IntKind.i64.wrap (IntKind.i64.wrap (y0 + 1) + 1) + 1) + 1) +
                        1) +
                    1)),
              (x.2.1.1, x.2.1.2.1, x.2.1.2.2), x.2.2.1, x.2.2.2)).modify
        y1.toNat fun x =>
        ((x.1.1, x.1.2.1, x.1.2.2.1, x.1.2.2.2.1, x.1.2.2.2.2.1,
            x.1.2.2.2.2.2.1, x.1.2.2.2.2.2.2),
          (IntKind.i64.wrap
              (IntKind.i64.wrap
                  (IntKind.i64.wrap
                      (IntKind.i64.wrap (IntKind.i64.wrap (IntKind.i64.wrap (IntKind.i64.wrap (y0 + 1) + 1) + 1) + 1) +
                        1) +
                    1) +
                1),
            x.2.1.2.1, x.2.1.2.2),
          x.2.2.1, x.2.2.2)).length)) (
                             cond (decide (0 ≤ y1)) (
                              cond (decide
  (y1 <
    (↑(((((((((y2.modify y1.toNat fun x =>
                                            ((y0, x.1.2.1, x.1.2.2.1, x.1.2.2.2.1,
                                                x.1.2.2.2.2.1, x.1.2.2.2.2.2.1,
                                                x.1.2.2.2.2.2.2),
                                              (x.2.1.1, x.2.1.2.1, x.2.1.2.2), x.2.2.1,
                                              x.2.2.2)).modify
                                        y1.toNat fun x =>
                                        ((x.1.1, IntKind.i64.wrap (y0 + 1), x.1.2.2.1,
                                            x.1.2.2.2.1, x.1.2.2.2.2.1,
                                            x.1.2.2.2.2.2.1, x.1.2.2.2.2.2.2),
                                          (x.2.1.1, x.2.1.2.1, x.2.1.2.2), x.2.2.1,
                                          x.2.2.2)).modify
                                    y1.toNat fun x =>
                                    ((x.1.1, x.1.2.1, IntKind.i64.wrap (IntKind.i64.wrap (y0 + 1) + 1),
                                        x.1.2.2.2.1, x.1.2.2.2.2.1, x.1.2.2.2.2.2.1,
                                        x.1.2.2.2.2.2.2),
                                      (x.2.1.1, x.2.1.2.1, x.2.1.2.2), x.2.2.1,
                                      x.2.2.2)).modify
                                y1.toNat fun x =>
                                ((x.1.1, x.1.2.1, x.1.2.2.1,
                                    IntKind.i64.wrap (IntKind.i64.wrap (IntKind.i64.wrap (y0 + 1) + 1) + 1),
                                    x.1.2.2.2.2.1, x.1.2.2.2.2.2.1,
                                    x.1.2.2.2.2.2.2),
                                  (x.2.1.1, x.2.1.2.1, x.2.1.2.2), x.2.2.1,
                                  x.2.2.2)).modify
                            y1.toNat fun x =>
                            ((x.1.1, x.1.2.1, x.1.2.2.1, x.1.2.2.2.1,
                                IntKind.i64.wrap
                                  (IntKind.i64.wrap (IntKind.i64.wrap (IntKind.i64.wrap (y0 + 1) + 1) + 1) + 1),
                                x.1.2.2.2.2.2.1, x.1.2.2.2.2.2.2),
                              (x.2.1.1, x.2.1.2.1, x.2.1.2.2), x.2.2.1,
                              x.2.2.2)).modify
                        y1.toNat fun x =>
                        ((x.1.1, x.1.2.1, x.1.2.2.1, x.1.2.2.2.1, x.1.2.2.2.2.1,
                            IntKind.i64.wrap
                              (IntKind.i64.wrap
                                  (IntKind.i64.wrap (IntKind.i64.wrap (IntKind.i64.wrap (y0 + 1) + 1) + 1) + 1) +
                                1),
                            x.1.2.2.2.2.2.2),
                          (x.2.1.1, x.2.1.2.1, x.2.1.2.2), x.2.2.1, x.2.2.2)).modify
                    y1.toNat fun x =>
                    ((x.1.1, x.1.2.1, x.1.2.2.1, x.1.2.2.2.1, x.1.2.2.2.2.1,
                        x.1.2.2.2.2.2.1,
                        IntKind.i64.wrap
                          (IntKind.i64.wrap
                              (IntKind.i64.wrap
                                  (IntKind.i64.wrap (IntKind.i64.wrap (IntKind.i64.wrap (y0 + 1) + 1) + 1) + 1) +
                                1) +
                            1)),
                      (x.2.1.1, x.2.1.2.1, x.2.1.2.2), x.2.2.1, x.2.2.2)).modify
                y1.toNat fun x =>
                ((x.1.1, x.1.2.1, x.1.2.2.1, x.1.2.2.2.1, x.1.2.2.2.2.1,
                    x.1.2.2.2.2.2.1, x.1.2.2.2.2.2.2),
                  (IntKind.i64.wrap
                      (IntKind.i64.wrap
                          (IntKind.i64.wrap
                              (IntKind.i64.wrap
                                  (IntKind.i64.wrap (IntKind.i64.wrap (IntKind.i64.wrap (y0 + 1) + 1) + 1) + 1) +
                                1) +
                            1) +
                        1),
                    x.2.1.2.1, x.2.1.2.2),
                  x.2.2.1, x.2.2.2)).modify
            y1.toNat fun x =>
            ((x.1.1, x.1.2.1, x.1.2.2.1, x.1.2.2.2.1, x.1.2.2.2.2.1,
                x.1.2.2.2.2.2.1, x.1.2.2.2.2.2.2),
              (x.2.1.1,
                IntKind.i64.wrap
                  (IntKind.i64.wrap
                      (IntKind.i64.wrap
                          (IntKind.i64.wrap
                              (IntKind.i64.wrap
                                  (IntKind.i64.wrap (IntKind.i64.wrap (IntKind.i64.wrap (y0 + 1) + 1) + 1) + 1) +
                                1) +
                            1) +
                        1) +
                    1),
                x.2.1.2.2),
              x.2.2.1, x.2.2.2)).length :
      Int))) (
                               cond (decide
  (y1.toNat <
    (((((((((y2.modify y1.toNat fun x =>
                                        ((y0, x.1.2.1, x.1.2.2.1, x.1.2.2.2.1,
                                            x.1.2.2.2.2.1, x.1.2.2.2.2.2.1,
                                            x.1.2.2.2.2.2.2),
                                          (x.2.1.1, x.2.1.2.1, x.2.1.2.2), x.2.2.1,
                                          x.2.2.2)).modify
                                    y1.toNat fun x =>
                                    ((x.1.1, IntKind.i64.wrap (y0 + 1), x.1.2.2.1, x.1.2.2.2.1,
                                        x.1.2.2.2.2.1, x.1.2.2.2.2.2.1,
                                        x.1.2.2.2.2.2.2),
                                      (x.2.1.1, x.2.1.2.1, x.2.1.2.2), x.2.2.1,
                                      x.2.2.2)).modify
                                y1.toNat fun x =>
                                ((x.1.1, x.1.2.1, IntKind.i64.wrap (IntKind.i64.wrap (y0 + 1) + 1),
                                    x.1.2.2.2.1, x.1.2.2.2.2.1, x.1.2.2.2.2.2.1,
                                    x.1.2.2.2.2.2.2),
                                  (x.2.1.1, x.2.1.2.1, x.2.1.2.2), x.2.2.1,
                                  x.2.2.2)).modify
                            y1.toNat fun x =>
                            ((x.1.1, x.1.2.1, x.1.2.2.1,
                                IntKind.i64.wrap (IntKind.i64.wrap (IntKind.i64.wrap (y0 + 1) + 1) + 1),
                                x.1.2.2.2.2.1, x.1.2.2.2.2.2.1,
                                x.1.2.2.2.2.2.2),
                              (x.2.1.1, x.2.1.2.1, x.2.1.2.2), x.2.2.1,
                              x.2.2.2)).modify
                        y1.toNat fun x =>
                        ((x.1.1, x.1.2.1, x.1.2.2.1, x.1.2.2.2.1,
                            IntKind.i64.wrap
                              (IntKind.i64.wrap (IntKind.i64.wrap (IntKind.i64.wrap (y0 + 1) + 1) + 1) + 1),
                            x.1.2.2.2.2.2.1, x.1.2.2.2.2.2.2),
                          (x.2.1.1, x.2.1.2.1, x.2.1.2.2), x.2.2.1, x.2.2.2)).modify
                    y1.toNat fun x =>
                    ((x.1.1, x.1.2.1, x.1.2.2.1, x.1.2.2.2.1, x.1.2.2.2.2.1,
                        IntKind.i64.wrap
                          (IntKind.i64.wrap
                              (IntKind.i64.wrap (IntKind.i64.wrap (IntKind.i64.wrap (y0 + 1) + 1) + 1) + 1) +
                            1),
                        x.1.2.2.2.2.2.2),
                      (x.2.1.1, x.2.1.2.1, x.2.1.2.2), x.2.2.1, x.2.2.2)).modify
                y1.toNat fun x =>
                ((x.1.1, x.1.2.1, x.1.2.2.1, x.1.2.2.2.1, x.1.2.2.2.2.1,
                    x.1.2.2.2.2.2.1,
                    IntKind.i64.wrap
                      (IntKind.i64.wrap
                          (IntKind.i64.wrap
                              (IntKind.i64.wrap (IntKind.i64.wrap (IntKind.i64.wrap (y0 + 1) + 1) + 1) + 1) +
                            1) +
                        1)),
                  (x.2.1.1, x.2.1.2.1, x.2.1.2.2), x.2.2.1, x.2.2.2)).modify
            y1.toNat fun x =>
            ((x.1.1, x.1.2.1, x.1.2.2.1, x.1.2.2.2.1, x.1.2.2.2.2.1,
                x.1.2.2.2.2.2.1, x.1.2.2.2.2.2.2),
              (IntKind.i64.wrap
                  (IntKind.i64.wrap
                      (IntKind.i64.wrap
                          (IntKind.i64.wrap
                              (IntKind.i64.wrap (IntKind.i64.wrap (IntKind.i64.wrap (y0 + 1) + 1) + 1) + 1) +
                            1) +
                        1) +
                    1),
                x.2.1.2.1, x.2.1.2.2),
              x.2.2.1, x.2.2.2)).modify
        y1.toNat fun x =>
        ((x.1.1, x.1.2.1, x.1.2.2.1, x.1.2.2.2.1, x.1.2.2.2.2.1,
            x.1.2.2.2.2.2.1, x.1.2.2.2.2.2.2),
          (x.2.1.1,
            IntKind.i64.wrap
              (IntKind.i64.wrap
                  (IntKind.i64.wrap
                      (IntKind.i64.wrap
                          (IntKind.i64.wrap
                              (IntKind.i64.wrap (IntKind.i64.wrap (IntKind.i64.wrap (y0 + 1) + 1) + 1) + 1) +
                            1) +
                        1) +
                    1) +
                1),
            x.2.1.2.2),
          x.2.2.1, x.2.2.2)).length)) (
                                cond (decide (0 ≤ y1)) (
                                 cond (decide
  (y1 <
    (↑((((((((((y2.modify y1.toNat fun x =>
                                                ((y0, x.1.2.1, x.1.2.2.1, x.1.2.2.2.1,
                                                    x.1.2.2.2.2.1, x.1.2.2.2.2.2.1,
                                                    x.1.2.2.2.2.2.2),
                                                  (x.2.1.1, x.2.1.2.1, x.2.1.2.2), x.2.2.1,
                                                  x.2.2.2)).modify
                                            y1.toNat fun x =>
                                            ((x.1.1, IntKind.i64.wrap (y0 + 1), x.1.2.2.1,
                                                x.1.2.2.2.1, x.1.2.2.2.2.1,
                                                x.1.2.2.2.2.2.1, x.1.2.2.2.2.2.2),
                                              (x.2.1.1, x.2.1.2.1, x.2.1.2.2), x.2.2.1,
                                              x.2.2.2)).modify
                                        y1.toNat fun x =>
                                        ((x.1.1, x.1.2.1, IntKind.i64.wrap (IntKind.i64.wrap (y0 + 1) + 1),
                                            x.1.2.2.2.1, x.1.2.2.2.2.1,
                                            x.1.2.2.2.2.2.1, x.1.2.2.2.2.2.2),
                                          (x.2.1.1, x.2.1.2.1, x.2.1.2.2), x.2.2.1,
                                          x.2.2.2)).modify
                                    y1.toNat fun x =>
                                    ((x.1.1, x.1.2.1, x.1.2.2.1,
                                        IntKind.i64.wrap (IntKind.i64.wrap (IntKind.i64.wrap (y0 + 1) + 1) + 1),
                                        x.1.2.2.2.2.1, x.1.2.2.2.2.2.1,
                                        x.1.2.2.2.2.2.2),
                                      (x.2.1.1, x.2.1.2.1, x.2.1.2.2), x.2.2.1,
                                      x.2.2.2)).modify
                                y1.toNat fun x =>
                                ((x.1.1, x.1.2.1, x.1.2.2.1, x.1.2.2.2.1,
                                    IntKind.i64.wrap
                                      (IntKind.i64.wrap (IntKind.i64.wrap (IntKind.i64.wrap (y0 + 1) + 1) + 1) + 1),
                                    x.1.2.2.2.2.2.1, x.1.2.2.2.2.2.2),
                                  (x.2.1.1, x.2.1.2.1, x.2.1.2.2), x.2.2.1,
                                  x.2.2.2)).modify
                            y1.toNat fun x =>
                            ((x.1.1, x.1.2.1, x.1.2.2.1, x.1.2.2.2.1,
                                x.1.2.2.2.2.1,
                                IntKind.i64.wrap
                                  (IntKind.i64.wrap
                                      (IntKind.i64.wrap (IntKind.i64.wrap (IntKind.i64.wrap (y0 + 1) + 1) + 1) + 1) +
                                    1),
                                x.1.2.2.2.2.2.2),
                              (x.2.1.1, x.2.1.2.1, x.2.1.2.2), x.2.2.1,
                              x.2.2.2)).modify
                        y1.toNat fun x =>
                        ((x.1.1, x.1.2.1, x.1.2.2.1, x.1.2.2.2.1, x.1.2.2.2.2.1,
                            x.1.2.2.2.2.2.1,
                            IntKind.i64.wrap
                              (IntKind.i64.wrap
                                  (IntKind.i64.wrap
                                      (IntKind.i64.wrap (IntKind.i64.wrap (IntKind.i64.wrap (y0 + 1) + 1) + 1) + 1) +
                                    1) +
                                1)),
                          (x.2.1.1, x.2.1.2.1, x.2.1.2.2), x.2.2.1, x.2.2.2)).modify
                    y1.toNat fun x =>
                    ((x.1.1, x.1.2.1, x.1.2.2.1, x.1.2.2.2.1, x.1.2.2.2.2.1,
                        x.1.2.2.2.2.2.1, x.1.2.2.2.2.2.2),
                      (IntKind.i64.wrap
                          (IntKind.i64.wrap
                              (IntKind.i64.wrap
                                  (IntKind.i64.wrap
                                      (IntKind.i64.wrap (IntKind.i64.wrap (IntKind.i64.wrap (y0 + 1) + 1) + 1) + 1) +
                                    1) +
                                1) +
                            1),
                        x.2.1.2.1, x.2.1.2.2),
                      x.2.2.1, x.2.2.2)).modify
                y1.toNat fun x =>
                ((x.1.1, x.1.2.1, x.1.2.2.1, x.1.2.2.2.1, x.1.2.2.2.2.1,
                    x.1.2.2.2.2.2.1, x.1.2.2.2.2.2.2),
                  (x.2.1.1,
                    IntKind.i64.wrap
                      (IntKind.i64.wrap
                          (IntKind.i64.wrap
                              (IntKind.i64.wrap
                                  (IntKind.i64.wrap
                                      (IntKind.i64.wrap (IntKind.i64.wrap (IntKind.i64.wrap (y0 + 1) + 1) + 1) + 1) +
                                    1) +
                                1) +
                            1) +
                        1),
                    x.2.1.2.2),
                  x.2.2.1, x.2.2.2)).modify
            y1.toNat fun x =>
            ((x.1.1, x.1.2.1, x.1.2.2.1, x.1.2.2.2.1, x.1.2.2.2.2.1,
                x.1.2.2.2.2.2.1, x.1.2.2.2.2.2.2),
              (x.2.1.1, x.2.1.2.1,
                IntKind.i64.wrap
                  (IntKind.i64.wrap
                      (IntKind.i64.wrap
                          (IntKind.i64.wrap
                              (IntKind.i64.wrap
                                  (IntKind.i64.wrap
                                      (IntKind.i64.wrap (IntKind.i64.wrap (IntKind.i64.wrap (y0 + 1) + 1) + 1) + 1) +
                                    1) +
                                1) +
                            1) +
                        1) +
                    1)),
              x.2.2.1, x.2.2.2)).length :
      Int))) (
                                  cond (decide
  (y1.toNat <
    ((((((((((y2.modify y1.toNat fun x =>
                                            ((y0, x.1.2.1, x.1.2.2.1, x.1.2.2.2.1,
                                                x.1.2.2.2.2.1, x.1.2.2.2.2.2.1,
                                                x.1.2.2.2.2.2.2),
                                              (x.2.1.1, x.2.1.2.1, x.2.1.2.2), x.2.2.1,
                                              x.2.2.2)).modify
                                        y1.toNat fun x =>
                                        ((x.1.1, IntKind.i64.wrap (y0 + 1), x.1.2.2.1,
                                            x.1.2.2.2.1, x.1.2.2.2.2.1,
                                            x.1.2.2.2.2.2.1, x.1.2.2.2.2.2.2),
                                          (x.2.1.1, x.2.1.2.1, x.2.1.2.2), x.2.2.1,
                                          x.2.2.2)).modify
                                    y1.toNat fun x =>
                                    ((x.1.1, x.1.2.1, IntKind.i64.wrap (IntKind.i64.wrap (y0 + 1) + 1),
                                        x.1.2.2.2.1, x.1.2.2.2.2.1, x.1.2.2.2.2.2.1,
                                        x.1.2.2.2.2.2.2),
                                      (x.2.1.1, x.2.1.2.1, x.2.1.2.2), x.2.2.1,
                                      x.2.2.2)).modify
                                y1.toNat fun x =>
                                ((x.1.1, x.1.2.1, x.1.2.2.1,
                                    IntKind.i64.wrap (IntKind.i64.wrap (IntKind.i64.wrap (y0 + 1) + 1) + 1),
                                    x.1.2.2.2.2.1, x.1.2.2.2.2.2.1,
                                    x.1.2.2.2.2.2.2),
                                  (x.2.1.1, x.2.1.2.1, x.2.1.2.2), x.2.2.1,
                                  x.2.2.2)).modify
                            y1.toNat fun x =>
                            ((x.1.1, x.1.2.1, x.1.2.2.1, x.1.2.2.2.1,
                                IntKind.i64.wrap
                                  (IntKind.i64.wrap (IntKind.i64.wrap (IntKind.i64.wrap (y0 + 1) + 1) + 1) + 1),
                                x.1.2.2.2.2.2.1, x.1.2.2.2.2.2.2),
                              (x.2.1.1, x.2.1.2.1, x.2.1.2.2), x.2.2.1,
                              x.2.2.2)).modify
                        y1.toNat fun x =>
                        ((x.1.1, x.1.2.1, x.1.2.2.1, x.1.2.2.2.1, x.1.2.2.2.2.1,
                            IntKind.i64.wrap
                              (IntKind.i64.wrap
                                  (IntKind.i64.wrap (IntKind.i64.wrap (IntKind.i64.wrap (y0 + 1) + 1) + 1) + 1) +
                                1),
                            x.1.2.2.2.2.2.2),
                          (x.2.1.1, x.2.1.2.1, x.2.1.2.2), x.2.2.1, x.2.2.2)).modify
                    y1.toNat fun x =>
                    ((x.1.1, x.1.2.1, x.1.2.2.1, x.1.2.2.2.1, x.1.2.2.2.2.1,
                        x.1.2.2.2.2.2.1,
                        IntKind.i64.wrap
                          (IntKind.i64.wrap
                              (IntKind.i64.wrap
                                  (IntKind.i64.wrap (IntKind.i64.wrap (IntKind.i64.wrap (y0 + 1) + 1) + 1) + 1) +
                                1) +
                            1)),
                      (x.2.1.1, x.2.1.2.1, x.2.1.2.2), x.2.2.1, x.2.2.2)).modify
                y1.toNat fun x =>
                ((x.1.1, x.1.2.1, x.1.2.2.1, x.1.2.2.2.1, x.1.2.2.2.2.1,
                    x.1.2.2.2.2.2.1, x.1.2.2.2.2.2.2),
                  (IntKind.i64.wrap
                      (IntKind.i64.wrap
                          (IntKind.i64.wrap
                              (IntKind.i64.wrap
                                  (IntKind.i64.wrap (IntKind.i64.wrap (IntKind.i64.wrap (y0 + 1) + 1) + 1) + 1) +
                                1) +
                            1) +
                        1),
                    x.2.1.2.1, x.2.1.2.2),
                  x.2.2.1, x.2.2.2)).modify
            y1.toNat fun x =>
            ((x.1.1, x.1.2.1, x.1.2.2.1, x.1.2.2.2.1, x.1.2.2.2.2.1,
                x.1.2.2.2.2.2.1, x.1.2.2.2.2.2.2),
              (x.2.1.1,
                IntKind.i64.wrap
                  (IntKind.i64.wrap
                      (IntKind.i64.wrap
                          (IntKind.i64.wrap
                              (IntKind.i64.wrap
                                  (IntKind.i64.wrap (IntKind.i64.wrap (IntKind.i64.wrap (y0 + 1) + 1) + 1) + 1) +
                                1) +
                            1) +
                        1) +
                    1),
                x.2.1.2.2),
              x.2.2.1, x.2.2.2)).modify
        y1.toNat fun x =>
        ((x.1.1, x.1.2.1, x.1.2.2.1, x.1.2.2.2.1, x.1.2.2.2.2.1,
            x.1.2.2.2.2.2.1, x.1.2.2.2.2.2.2),
          (x.2.1.1, x.2.1.2.1,
            IntKind.i64.wrap
              (IntKind.i64.wrap
                  (IntKind.i64.wrap
                      (IntKind.i64.wrap
                          (IntKind.i64.wrap
                              (IntKind.i64.wrap
                                  (IntKind.i64.wrap (IntKind.i64.wrap (IntKind.i64.wrap (y0 + 1) + 1) + 1) + 1) +
                                1) +
                            1) +
                        1) +
                    1) +
                1)),
          x.2.2.1, x.2.2.2)).length)) (
                                   (laws_markEventS_h0 k (IntKind.i64.wrap
  (IntKind.i64.wrap
      (IntKind.i64.wrap
          (IntKind.i64.wrap
              (IntKind.i64.wrap
                  (IntKind.i64.wrap
                      (IntKind.i64.wrap (IntKind.i64.wrap (IntKind.i64.wrap (IntKind.i64.wrap (y0 + 1) + 1) + 1) + 1) +
                        1) +
                    1) +
                1) +
            1) +
        1) +
    1)) ((((((((((((y2.modify y1.toNat fun x =>
                                                ((y0, x.1.2.1, x.1.2.2.1, x.1.2.2.2.1,
                                                    x.1.2.2.2.2.1, x.1.2.2.2.2.2.1,
                                                    x.1.2.2.2.2.2.2),
                                                  (x.2.1.1, x.2.1.2.1, x.2.1.2.2), x.2.2.1,
                                                  x.2.2.2)).modify
                                            y1.toNat fun x =>
                                            ((x.1.1, IntKind.i64.wrap (y0 + 1), x.1.2.2.1,
                                                x.1.2.2.2.1, x.1.2.2.2.2.1,
                                                x.1.2.2.2.2.2.1, x.1.2.2.2.2.2.2),
                                              (x.2.1.1, x.2.1.2.1, x.2.1.2.2), x.2.2.1,
                                              x.2.2.2)).modify
                                        y1.toNat fun x =>
                                        ((x.1.1, x.1.2.1, IntKind.i64.wrap (IntKind.i64.wrap (y0 + 1) + 1),
                                            x.1.2.2.2.1, x.1.2.2.2.2.1,
                                            x.1.2.2.2.2.2.1, x.1.2.2.2.2.2.2),
                                          (x.2.1.1, x.2.1.2.1, x.2.1.2.2), x.2.2.1,
                                          x.2.2.2)).modify
                                    y1.toNat fun x =>
                                    ((x.1.1, x.1.2.1, x.1.2.2.1,
                                        IntKind.i64.wrap (IntKind.i64.wrap (IntKind.i64.wrap (y0 + 1) + 1) + 1),
                                        x.1.2.2.2.2.1, x.1.2.2.2.2.2.1,
                                        x.1.2.2.2.2.2.2),
                                      (x.2.1.1, x.2.1.2.1, x.2.1.2.2), x.2.2.1,
                                      x.2.2.2)).modify
                                y1.toNat fun x =>
                                ((x.1.1, x.1.2.1, x.1.2.2.1, x.1.2.2.2.1,
                                    IntKind.i64.wrap
                                      (IntKind.i64.wrap (IntKind.i64.wrap (IntKind.i64.wrap (y0 + 1) + 1) + 1) + 1),
                                    x.1.2.2.2.2.2.1, x.1.2.2.2.2.2.2),
                                  (x.2.1.1, x.2.1.2.1, x.2.1.2.2), x.2.2.1,
                                  x.2.2.2)).modify
                            y1.toNat fun x =>
                            ((x.1.1, x.1.2.1, x.1.2.2.1, x.1.2.2.2.1,
                                x.1.2.2.2.2.1,
                                IntKind.i64.wrap
                                  (IntKind.i64.wrap
                                      (IntKind.i64.wrap (IntKind.i64.wrap (IntKind.i64.wrap (y0 + 1) + 1) + 1) + 1) +
                                    1),
                                x.1.2.2.2.2.2.2),
                              (x.2.1.1, x.2.1.2.1, x.2.1.2.2), x.2.2.1,
                              x.2.2.2)).modify
                        y1.toNat fun x =>
                        ((x.1.1, x.1.2.1, x.1.2.2.1, x.1.2.2.2.1, x.1.2.2.2.2.1,
                            x.1.2.2.2.2.2.1,
                            IntKind.i64.wrap
                              (IntKind.i64.wrap
                                  (IntKind.i64.wrap
                                      (IntKind.i64.wrap (IntKind.i64.wrap (IntKind.i64.wrap (y0 + 1) + 1) + 1) + 1) +
                                    1) +
                                1)),
                          (x.2.1.1, x.2.1.2.1, x.2.1.2.2), x.2.2.1, x.2.2.2)).modify
                    y1.toNat fun x =>
                    ((x.1.1, x.1.2.1, x.1.2.2.1, x.1.2.2.2.1, x.1.2.2.2.2.1,
                        x.1.2.2.2.2.2.1, x.1.2.2.2.2.2.2),
                      (IntKind.i64.wrap
                          (IntKind.i64.wrap
                              (IntKind.i64.wrap
                                  (IntKind.i64.wrap
                                      (IntKind.i64.wrap (IntKind.i64.wrap (IntKind.i64.wrap (y0 + 1) + 1) + 1) + 1) +
                                    1) +
                                1) +
                            1),
                        x.2.1.2.1, x.2.1.2.2),
                      x.2.2.1, x.2.2.2)).modify
                y1.toNat fun x =>
                ((x.1.1, x.1.2.1, x.1.2.2.1, x.1.2.2.2.1, x.1.2.2.2.2.1,
                    x.1.2.2.2.2.2.1, x.1.2.2.2.2.2.2),
                  (x.2.1.1,
                    IntKind.i64.wrap
                      (IntKind.i64.wrap
                          (IntKind.i64.wrap
                              (IntKind.i64.wrap
                                  (IntKind.i64.wrap
                                      (IntKind.i64.wrap (IntKind.i64.wrap (IntKind.i64.wrap (y0 + 1) + 1) + 1) + 1) +
                                    1) +
                                1) +
                            1) +
                        1),
                    x.2.1.2.2),
                  x.2.2.1, x.2.2.2)).modify
            y1.toNat fun x =>
            ((x.1.1, x.1.2.1, x.1.2.2.1, x.1.2.2.2.1, x.1.2.2.2.2.1,
                x.1.2.2.2.2.2.1, x.1.2.2.2.2.2.2),
              (x.2.1.1, x.2.1.2.1,
                IntKind.i64.wrap
                  (IntKind.i64.wrap
                      (IntKind.i64.wrap
                          (IntKind.i64.wrap
                              (IntKind.i64.wrap
                                  (IntKind.i64.wrap
                                      (IntKind.i64.wrap (IntKind.i64.wrap (IntKind.i64.wrap (y0 + 1) + 1) + 1) + 1) +
                                    1) +
                                1) +
                            1) +
                        1) +
                    1)),
              x.2.2.1, x.2.2.2)).getD
        y1.toNat (dflt t_impl_Past)).2.2.1)).bind fun x0 => 
                                    cond (decide (0 ≤ y1)) (
                                     cond (decide
  (y1 <
    (↑(((((((((((y2.modify y1.toNat fun x =>
                                                    ((y0, x.1.2.1, x.1.2.2.1, x.1.2.2.2.1,
                                                        x.1.2.2.2.2.1, x.1.2.2.2.2.2.1,
                                                        x.1.2.2.2.2.2.2),
                                                      (x.2.1.1, x.2.1.2.1, x.2.1.2.2),
                                                      x.2.2.1, x.2.2.2)).modify
                                                y1.toNat fun x =>
                                                ((x.1.1, IntKind.i64.wrap (y0 + 1), x.1.2.2.1,
                                                    x.1.2.2.2.1, x.1.2.2.2.2.1,
                                                    x.1.2.2.2.2.2.1, x.1.2.2.2.2.2.2),
                                                  (x.2.1.1, x.2.1.2.1, x.2.1.2.2), x.2.2.1,
                                                  x.2.2.2)).modify
                                            y1.toNat fun x =>
                                            ((x.1.1, x.1.2.1,
                                                IntKind.i64.wrap (IntKind.i64.wrap (y0 + 1) + 1), x.1.2.2.2.1,
                                                x.1.2.2.2.2.1, x.1.2.2.2.2.2.1,
                                                x.1.2.2.2.2.2.2),
                                              (x.2.1.1, x.2.1.2.1, x.2.1.2.2), x.2.2.1,
                                              x.2.2.2)).modify
                                        y1.toNat fun x =>
                                        ((x.1.1, x.1.2.1, x.1.2.2.1,
                                            IntKind.i64.wrap (IntKind.i64.wrap (IntKind.i64.wrap (y0 + 1) + 1) + 1),
                                            x.1.2.2.2.2.1, x.1.2.2.2.2.2.1,
                                            x.1.2.2.2.2.2.2),
                                          (x.2.1.1, x.2.1.2.1, x.2.1.2.2), x.2.2.1,
                                          x.2.2.2)).modify
                                    y1.toNat fun x =>
                                    ((x.1.1, x.1.2.1, x.1.2.2.1, x.1.2.2.2.1,
                                        IntKind.i64.wrap
                                          (IntKind.i64.wrap (IntKind.i64.wrap (IntKind.i64.wrap (y0 + 1) + 1) + 1) + 1),
                                        x.1.2.2.2.2.2.1, x.1.2.2.2.2.2.2),
                                      (x.2.1.1, x.2.1.2.1, x.2.1.2.2), x.2.2.1,
                                      x.2.2.2)).modify
                                y1.toNat fun x =>
                                ((x.1.1, x.1.2.1, x.1.2.2.1, x.1.2.2.2.1,
                                    x.1.2.2.2.2.1,
                                    IntKind.i64.wrap
                                      (IntKind.i64.wrap
                                          (IntKind.i64.wrap (IntKind.i64.wrap (IntKind.i64.wrap (y0 + 1) + 1) + 1) +
                                            1) +
                                        1),
                                    x.1.2.2.2.2.2.2),
                                  (x.2.1.1, x.2.1.2.1, x.2.1.2.2), x.2.2.1,
                                  x.2.2.2)).modify
                            y1.toNat fun x =>
                            ((x.1.1, x.1.2.1, x.1.2.2.1, x.1.2.2.2.1,
                                x.1.2.2.2.2.1, x.1.2.2.2.2.2.1,
                                IntKind.i64.wrap
                                  (IntKind.i64.wrap
                                      (IntKind.i64.wrap
                                          (IntKind.i64.wrap (IntKind.i64.wrap (IntKind.i64.wrap (y0 + 1) + 1) + 1) +
                                            1) +
                                        1) +
                                    1)),
                              (x.2.1.1, x.2.1.2.1, x.2.1.2.2), x.2.2.1,
                              x.2.2.2)).modify
                        y1.toNat fun x =>
                        ((x.1.1, x.1.2.1, x.1.2.2.1, x.1.2.2.2.1, x.1.2.2.2.2.1,
                            x.1.2.2.2.2.2.1, x.1.2.2.2.2.2.2),
                          (IntKind.i64.wrap
                              (IntKind.i64.wrap
                                  (IntKind.i64.wrap
                                      (IntKind.i64.wrap
                                          (IntKind.i64.wrap (IntKind.i64.wrap (IntKind.i64.wrap (y0 + 1) + 1) + 1) +
                                            1) +
                                        1) +
                                    1) +
                                1),
                            x.2.1.2.1, x.2.1.2.2),
                          x.2.2.1, x.2.2.2)).modify
                    y1.toNat fun x =>
                    ((x.1.1, x.1.2.1, x.1.2.2.1, x.1.2.2.2.1, x.1.2.2.2.2.1,
                        x.1.2.2.2.2.2.1, x.1.2.2.2.2.2.2),
                      (x.2.1.1,
                        IntKind.i64.wrap
                          (IntKind.i64.wrap
                              (IntKind.i64.wrap
                                  (IntKind.i64.wrap
                                      (IntKind.i64.wrap
                                          (IntKind.i64.wrap (IntKind.i64.wrap (IntKind.i64.wrap (y0 + 1) + 1) + 1) +
                                            1) +
                                        1) +
                                    1) +
                                1) +
                            1),
                        x.2.1.2.2),
                      x.2.2.1, x.2.2.2)).modify
                y1.toNat fun x =>
                ((x.1.1, x.1.2.1, x.1.2.2.1, x.1.2.2.2.1, x.1.2.2.2.2.1,
                    x.1.2.2.2.2.2.1, x.1.2.2.2.2.2.2),
                  (x.2.1.1, x.2.1.2.1,
                    IntKind.i64.wrap
                      (IntKind.i64.wrap
                          (IntKind.i64.wrap
                              (IntKind.i64.wrap
                                  (IntKind.i64.wrap
                                      (IntKind.i64.wrap
                                          (IntKind.i64.wrap (IntKind.i64.wrap (IntKind.i64.wrap (y0 + 1) + 1) + 1) +
                                            1) +
                                        1) +
                                    1) +
                                1) +
                            1) +
                        1)),
                  x.2.2.1, x.2.2.2)).modify
            y1.toNat fun x =>
            ((x.1.1, x.1.2.1, x.1.2.2.1, x.1.2.2.2.1, x.1.2.2.2.2.1,
                x.1.2.2.2.2.2.1, x.1.2.2.2.2.2.2),
              (x.2.1.1, x.2.1.2.1, x.2.1.2.2), x0.2.1, x.2.2.2)).length :
      Int))) (
                                      cond (decide
  (y1.toNat <
    (((((((((((y2.modify y1.toNat fun x =>
                                                ((y0, x.1.2.1, x.1.2.2.1, x.1.2.2.2.1,
                                                    x.1.2.2.2.2.1, x.1.2.2.2.2.2.1,
                                                    x.1.2.2.2.2.2.2),
                                                  (x.2.1.1, x.2.1.2.1, x.2.1.2.2), x.2.2.1,
                                                  x.2.2.2)).modify
                                            y1.toNat fun x =>
                                            ((x.1.1, IntKind.i64.wrap (y0 + 1), x.1.2.2.1,
                                                x.1.2.2.2.1, x.1.2.2.2.2.1,
                                                x.1.2.2.2.2.2.1, x.1.2.2.2.2.2.2),
                                              (x.2.1.1, x.2.1.2.1, x.2.1.2.2), x.2.2.1,
                                              x.2.2.2)).modify
                                        y1.toNat fun x =>
                                        ((x.1.1, x.1.2.1, IntKind.i64.wrap (IntKind.i64.wrap (y0 + 1) + 1),
                                            x.1.2.2.2.1, x.1.2.2.2.2.1,
                                            x.1.2.2.2.2.2.1, x.1.2.2.2.2.2.2),
                                          (x.2.1.1, x.2.1.2.1, x.2.1.2.2), x.2.2.1,
                                          x.2.2.2)).modify
                                    y1.toNat fun x =>
                                    ((x.1.1, x.1.2.1, x.1.2.2.1,
                                        IntKind.i64.wrap (IntKind.i64.wrap (IntKind.i64.wrap (y0 + 1) + 1) + 1),
                                        x.1.2.2.2.2.1, x.1.2.2.2.2.2.1,
                                        x.1.2.2.2.2.2.2),
                                      (x.2.1.1, x.2.1.2.1, x.2.1.2.2), x.2.2.1,
                                      x.2.2.2)).modify
                                y1.toNat fun x =>
                                ((x.1.1, x.1.2.1, x.1.2.2.1, x.1.2.2.2.1,
                                    IntKind.i64.wrap
                                      (IntKind.i64.wrap (IntKind.i64.wrap (IntKind.i64.wrap (y0 + 1) + 1) + 1) + 1),
                                    x.1.2.2.2.2.2.1, x.1.2.2.2.2.2.2),
                                  (x.2.1.1, x.2.1.2.1, x.2.1.2.2), x.2.2.1,
                                  x.2.2.2)).modify
                            y1.toNat fun x =>
                            ((x.1.1, x.1.2.1, x.1.2.2.1, x.1.2.2.2.1,
                                x.1.2.2.2.2.1,
                                IntKind.i64.wrap
                                  (IntKind.i64.wrap
                                      (IntKind.i64.wrap (IntKind.i64.wrap (IntKind.i64.wrap (y0 + 1) + 1) + 1) + 1) +
                                    1),
                                x.1.2.2.2.2.2.2),
                              (x.2.1.1, x.2.1.2.1, x.2.1.2.2), x.2.2.1,
                              x.2.2.2)).modify
                        y1.toNat fun x =>
                        ((x.1.1, x.1.2.1, x.1.2.2.1, x.1.2.2.2.1, x.1.2.2.2.2.1,
                            x.1.2.2.2.2.2.1,
                            IntKind.i64.wrap
                              (IntKind.i64.wrap
                                  (IntKind.i64.wrap
                                      (IntKind.i64.wrap (IntKind.i64.wrap (IntKind.i64.wrap (y0 + 1) + 1) + 1) + 1) +
                                    1) +
                                1)),
                          (x.2.1.1, x.2.1.2.1, x.2.1.2.2), x.2.2.1, x.2.2.2)).modify
                    y1.toNat fun x =>
                    ((x.1.1, x.1.2.1, x.1.2.2.1, x.1.2.2.2.1, x.1.2.2.2.2.1,
                        x.1.2.2.2.2.2.1, x.1.2.2.2.2.2.2),
                      (IntKind.i64.wrap
                          (IntKind.i64.wrap
                              (IntKind.i64.wrap
                                  (IntKind.i64.wrap
                                      (IntKind.i64.wrap (IntKind.i64.wrap (IntKind.i64.wrap (y0 + 1) + 1) + 1) + 1) +
                                    1) +
                                1) +
                            1),
                        x.2.1.2.1, x.2.1.2.2),
                      x.2.2.1, x.2.2.2)).modify
                y1.toNat fun x =>
                ((x.1.1, x.1.2.1, x.1.2.2.1, x.1.2.2.2.1, x.1.2.2.2.2.1,
                    x.1.2.2.2.2.2.1, x.1.2.2.2.2.2.2),
                  (x.2.1.1,
                    IntKind.i64.wrap
                      (IntKind.i64.wrap
                          (IntKind.i64.wrap
                              (IntKind.i64.wrap
                                  (IntKind.i64.wrap
                                      (IntKind.i64.wrap (IntKind.i64.wrap (IntKind.i64.wrap (y0 + 1) + 1) + 1) + 1) +
                                    1) +
                                1) +
                            1) +
                        1),
                    x.2.1.2.2),
                  x.2.2.1, x.2.2.2)).modify
            y1.toNat fun x =>
            ((x.1.1, x.1.2.1, x.1.2.2.1, x.1.2.2.2.1, x.1.2.2.2.2.1,
                x.1.2.2.2.2.2.1, x.1.2.2.2.2.2.2),
              (x.2.1.1, x.2.1.2.1,
                IntKind.i64.wrap
                  (IntKind.i64.wrap
                      (IntKind.i64.wrap
                          (IntKind.i64.wrap
                              (IntKind.i64.wrap
                                  (IntKind.i64.wrap
                                      (IntKind.i64.wrap (IntKind.i64.wrap (IntKind.i64.wrap (y0 + 1) + 1) + 1) + 1) +
                                    1) +
                                1) +
                            1) +
                        1) +
                    1)),
              x.2.2.1, x.2.2.2)).modify
        y1.toNat fun x =>
        ((x.1.1, x.1.2.1, x.1.2.2.1, x.1.2.2.2.1, x.1.2.2.2.2.1,
            x.1.2.2.2.2.2.1, x.1.2.2.2.2.2.2),
          (x.2.1.1, x.2.1.2.1, x.2.1.2.2), x0.2.1, x.2.2.2)).length)) (
                                       (laws_markOutS_h0 k x0.1 (((((((((((((y2.modify y1.toNat fun x =>
                                                    ((y0, x.1.2.1, x.1.2.2.1, x.1.2.2.2.1,
                                                        x.1.2.2.2.2.1, x.1.2.2.2.2.2.1,
                                                        x.1.2.2.2.2.2.2),
                                                      (x.2.1.1, x.2.1.2.1, x.2.1.2.2),
                                                      x.2.2.1, x.2.2.2)).modify
                                                y1.toNat fun x =>
                                                ((x.1.1, IntKind.i64.wrap (y0 + 1), x.1.2.2.1,
                                                    x.1.2.2.2.1, x.1.2.2.2.2.1,
                                                    x.1.2.2.2.2.2.1, x.1.2.2.2.2.2.2),
                                                  (x.2.1.1, x.2.1.2.1, x.2.1.2.2), x.2.2.1,
                                                  x.2.2.2)).modify
                                            y1.toNat fun x =>
                                            ((x.1.1, x.1.2.1,
                                                IntKind.i64.wrap (IntKind.i64.wrap (y0 + 1) + 1), x.1.2.2.2.1,
                                                x.1.2.2.2.2.1, x.1.2.2.2.2.2.1,
                                                x.1.2.2.2.2.2.2),
                                              (x.2.1.1, x.2.1.2.1, x.2.1.2.2), x.2.2.1,
                                              x.2.2.2)).modify
                                        y1.toNat fun x =>
                                        ((x.1.1, x.1.2.1, x.1.2.2.1,
                                            IntKind.i64.wrap (IntKind.i64.wrap (IntKind.i64.wrap (y0 + 1) + 1) + 1),
                                            x.1.2.2.2.2.1, x.1.2.2.2.2.2.1,
                                            x.1.2.2.2.2.2.2),
                                          (x.2.1.1, x.2.1.2.1, x.2.1.2.2), x.2.2.1,
                                          x.2.2.2)).modify
                                    y1.toNat fun x =>
                                    ((x.1.1, x.1.2.1, x.1.2.2.1, x.1.2.2.2.1,
                                        IntKind.i64.wrap
                                          (IntKind.i64.wrap (IntKind.i64.wrap (IntKind.i64.wrap (y0 + 1) + 1) + 1) + 1),
                                        x.1.2.2.2.2.2.1, x.1.2.2.2.2.2.2),
                                      (x.2.1.1, x.2.1.2.1, x.2.1.2.2), x.2.2.1,
                                      x.2.2.2)).modify
                                y1.toNat fun x =>
                                ((x.1.1, x.1.2.1, x.1.2.2.1, x.1.2.2.2.1,
                                    x.1.2.2.2.2.1,
                                    IntKind.i64.wrap
                                      (IntKind.i64.wrap
                                          (IntKind.i64.wrap (IntKind.i64.wrap (IntKind.i64.wrap (y0 + 1) + 1) + 1) +
                                            1) +
                                        1),
                                    x.1.2.2.2.2.2.2),
                                  (x.2.1.1, x.2.1.2.1, x.2.1.2.2), x.2.2.1,
                                  x.2.2.2)).modify
                            y1.toNat fun x =>
                            ((x.1.1, x.1.2.1, x.1.2.2.1, x.1.2.2.2.1,
                                x.1.2.2.2.2.1, x.1.2.2.2.2.2.1,
                                IntKind.i64.wrap
                                  (IntKind.i64.wrap
                                      (IntKind.i64.wrap
                                          (IntKind.i64.wrap (IntKind.i64.wrap (IntKind.i64.wrap (y0 + 1) + 1) + 1) +
                                            1) +
                                        1) +
                                    1)),
                              (x.2.1.1, x.2.1.2.1, x.2.1.2.2), x.2.2.1,
                              x.2.2.2)).modify
                        y1.toNat fun x =>
                        ((x.1.1, x.1.2.1, x.1.2.2.1, x.1.2.2.2.1, x.1.2.2.2.2.1,
                            x.1.2.2.2.2.2.1, x.1.2.2.2.2.2.2),
                          (IntKind.i64.wrap
                              (IntKind.i64.wrap
                                  (IntKind.i64.wrap
                                      (IntKind.i64.wrap
                                          (IntKind.i64.wrap (IntKind.i64.wrap (IntKind.i64.wrap (y0 + 1) + 1) + 1) +
                                            1) +
                                        1) +
                                    1) +
                                1),
                            x.2.1.2.1, x.2.1.2.2),
                          x.2.2.1, x.2.2.2)).modify
                    y1.toNat fun x =>
                    ((x.1.1, x.1.2.1, x.1.2.2.1, x.1.2.2.2.1, x.1.2.2.2.2.1,
                        x.1.2.2.2.2.2.1, x.1.2.2.2.2.2.2),
                      (x.2.1.1,
                        IntKind.i64.wrap
                          (IntKind.i64.wrap
                              (IntKind.i64.wrap
                                  (IntKind.i64.wrap
                                      (IntKind.i64.wrap
                                          (IntKind.i64.wrap (IntKind.i64.wrap (IntKind.i64.wrap (y0 + 1) + 1) + 1) +
                                            1) +
                                        1) +
                                    1) +
                                1) +
                            1),
                        x.2.1.2.2),
                      x.2.2.1, x.2.2.2)).modify
                y1.toNat fun x =>
                ((x.1.1, x.1.2.1, x.1.2.2.1, x.1.2.2.2.1, x.1.2.2.2.2.1,
                    x.1.2.2.2.2.2.1, x.1.2.2.2.2.2.2),
                  (x.2.1.1, x.2.1.2.1,
                    IntKind.i64.wrap
                      (IntKind.i64.wrap
                          (IntKind.i64.wrap
                              (IntKind.i64.wrap
                                  (IntKind.i64.wrap
                                      (IntKind.i64.wrap
                                          (IntKind.i64.wrap (IntKind.i64.wrap (IntKind.i64.wrap (y0 + 1) + 1) + 1) +
                                            1) +
                                        1) +
                                    1) +
                                1) +
                            1) +
                        1)),
                  x.2.2.1, x.2.2.2)).modify
            y1.toNat fun x =>
            ((x.1.1, x.1.2.1, x.1.2.2.1, x.1.2.2.2.1, x.1.2.2.2.2.1,
                x.1.2.2.2.2.2.1, x.1.2.2.2.2.2.2),
              (x.2.1.1, x.2.1.2.1, x.2.1.2.2), x0.2.1, x.2.2.2)).getD
        y1.toNat (dflt t_impl_Past)).2.2.2)).bind fun x1 => laws_markPastS_h0_2 k j x1.1 (IntKind.i64.wrap (y1 + 1)) ((((((((((((y2.modify y1.toNat fun x =>
                                              ((y0, x.1.2.1, x.1.2.2.1, x.1.2.2.2.1,
                                                  x.1.2.2.2.2.1, x.1.2.2.2.2.2.1,
                                                  x.1.2.2.2.2.2.2),
                                                (x.2.1.1, x.2.1.2.1, x.2.1.2.2), x.2.2.1,
                                                x.2.2.2)).modify
                                          y1.toNat fun x =>
                                          ((x.1.1, IntKind.i64.wrap (y0 + 1), x.1.2.2.1,
                                              x.1.2.2.2.1, x.1.2.2.2.2.1,
                                              x.1.2.2.2.2.2.1, x.1.2.2.2.2.2.2),
                                            (x.2.1.1, x.2.1.2.1, x.2.1.2.2), x.2.2.1,
                                            x.2.2.2)).modify
                                      y1.toNat fun x =>
                                      ((x.1.1, x.1.2.1, IntKind.i64.wrap (IntKind.i64.wrap (y0 + 1) + 1),
                                          x.1.2.2.2.1, x.1.2.2.2.2.1,
                                          x.1.2.2.2.2.2.1, x.1.2.2.2.2.2.2),
                                        (x.2.1.1, x.2.1.2.1, x.2.1.2.2), x.2.2.1,
                                        x.2.2.2)).modify
                                  y1.toNat fun x =>
                                  ((x.1.1, x.1.2.1, x.1.2.2.1,
                                      IntKind.i64.wrap (IntKind.i64.wrap (IntKind.i64.wrap (y0 + 1) + 1) + 1),
                                      x.1.2.2.2.2.1, x.1.2.2.2.2.2.1,
                                      x.1.2.2.2.2.2.2),
                                    (x.2.1.1, x.2.1.2.1, x.2.1.2.2), x.2.2.1,
                                    x.2.2.2)).modify
                              y1.toNat fun x =>
                              ((x.1.1, x.1.2.1, x.1.2.2.1, x.1.2.2.2.1,
                                  IntKind.i64.wrap
                                    (IntKind.i64.wrap (IntKind.i64.wrap (IntKind.i64.wrap (y0 + 1) + 1) + 1) + 1),
                                  x.1.2.2.2.2.2.1, x.1.2.2.2.2.2.2),
                                (x.2.1.1, x.2.1.2.1, x.2.1.2.2), x.2.2.1,
                                x.2.2.2)).modify
                          y1.toNat fun x =>
                          ((x.1.1, x.1.2.1, x.1.2.2.1, x.1.2.2.2.1,
                              x.1.2.2.2.2.1,
                              IntKind.i64.wrap
                                (IntKind.i64.wrap
                                    (IntKind.i64.wrap (IntKind.i64.wrap (IntKind.i64.wrap (y0 + 1) + 1) + 1) + 1) +
                                  1),
                              x.1.2.2.2.2.2.2),
                            (x.2.1.1, x.2.1.2.1, x.2.1.2.2), x.2.2.1, x.2.2.2)).modify
                      y1.toNat fun x =>
                      ((x.1.1, x.1.2.1, x.1.2.2.1, x.1.2.2.2.1, x.1.2.2.2.2.1,
                          x.1.2.2.2.2.2.1,
                          IntKind.i64.wrap
                            (IntKind.i64.wrap
                                (IntKind.i64.wrap
                                    (IntKind.i64.wrap (IntKind.i64.wrap (IntKind.i64.wrap (y0 + 1) + 1) + 1) + 1) +
                                  1) +
                              1)),
                        (x.2.1.1, x.2.1.2.1, x.2.1.2.2), x.2.2.1, x.2.2.2)).modify
                  y1.toNat fun x =>
                  ((x.1.1, x.1.2.1, x.1.2.2.1, x.1.2.2.2.1, x.1.2.2.2.2.1,
                      x.1.2.2.2.2.2.1, x.1.2.2.2.2.2.2),
                    (IntKind.i64.wrap
                        (IntKind.i64.wrap
                            (IntKind.i64.wrap
                                (IntKind.i64.wrap
                                    (IntKind.i64.wrap (IntKind.i64.wrap (IntKind.i64.wrap (y0 + 1) + 1) + 1) + 1) +
                                  1) +
                              1) +
                          1),
                      x.2.1.2.1, x.2.1.2.2),
                    x.2.2.1, x.2.2.2)).modify
              y1.toNat fun x =>
              ((x.1.1, x.1.2.1, x.1.2.2.1, x.1.2.2.2.1, x.1.2.2.2.2.1,
                  x.1.2.2.2.2.2.1, x.1.2.2.2.2.2.2),
                (x.2.1.1,
                  IntKind.i64.wrap
                    (IntKind.i64.wrap
                        (IntKind.i64.wrap
                            (IntKind.i64.wrap
                                (IntKind.i64.wrap
                                    (IntKind.i64.wrap (IntKind.i64.wrap (IntKind.i64.wrap (y0 + 1) + 1) + 1) + 1) +
                                  1) +
                              1) +
                          1) +
                      1),
                  x.2.1.2.2),
                x.2.2.1, x.2.2.2)).modify
          y1.toNat fun x =>
          ((x.1.1, x.1.2.1, x.1.2.2.1, x.1.2.2.2.1, x.1.2.2.2.2.1,
              x.1.2.2.2.2.2.1, x.1.2.2.2.2.2.2),
            (x.2.1.1, x.2.1.2.1,
              IntKind.i64.wrap
                (IntKind.i64.wrap
                    (IntKind.i64.wrap
                        (IntKind.i64.wrap
                            (IntKind.i64.wrap
                                (IntKind.i64.wrap
                                    (IntKind.i64.wrap (IntKind.i64.wrap (IntKind.i64.wrap (y0 + 1) + 1) + 1) + 1) +
                                  1) +
                              1) +
                          1) +
                      1) +
                  1)),
            x.2.2.1, x.2.2.2)).modify
      y1.toNat fun x =>
      ((x.1.1, x.1.2.1, x.1.2.2.1, x.1.2.2.2.1, x.1.2.2.2.2.1,
          x.1.2.2.2.2.2.1, x.1.2.2.2.2.2.2),
        (x.2.1.1, x.2.1.2.1, x.2.1.2.2), x0.2.1, x.2.2.2)).modify
  y1.toNat fun x =>
  ((x.1.1, x.1.2.1, x.1.2.2.1, x.1.2.2.2.1, x.1.2.2.2.2.1,
      x.1.2.2.2.2.2.1, x.1.2.2.2.2.2.2),
    (x.2.1.1, x.2.1.2.1, x.2.1.2.2), x.2.2.1, x1.2.1))) (none)) (none)) (none)) (none)) (none)) (none)) (none)) (none)) (none)) (none)) (none)) (none)) (none)) (none)) (none)) (none)) (none)) (none)) (none)) (none)) (none)) (none)) (none)) (none)) (none)) (none)) (none)) (none)) (none)) (none)) (none)) (none)) (none)) (none)) (none)) (none)) (some ((y0, y2, ()))) := by kernel_rfl

noncomputable def laws_markLane_h0 (k : Nat) (y0 : Int) (y1 : Int) (y2 : Int) (y3 : Int) (y4 : V_int) (y5 : List V_impl_Past) : Option ((V_int × (List V_impl_Past × Unit))) := evalT E k 29 (.pair t_int (.pair (.dw 96 t_impl_Past) .unit)) [.v (.agg [.int .i64 y0, .int .i64 y1, .int .i64 y2, .int .i64 y3, .o 0]), inp t_int y4] [some (.dp 96 t_impl_Past y5)]
theorem laws_markLane_h0_eq (k : Nat) (y0 : Int) (y1 : Int) (y2 : Int) (y3 : Int) (y4 : V_int) (y5 : List V_impl_Past) : laws_markLane_h0 (k + 1) y0 y1 y2 y3 y4 y5 = 
 (laws_markPastS_h0 k y4 y5).bind fun x0 => some ((x0.1, x0.2.1, ())) := by kernel_rfl

noncomputable def laws_heldEventS (k : Nat) (a0 : V_sl_impl_Event) (a1 : V_int) : Option V_int := evalT E k 36 t_int [inp t_sl_impl_Event a0, inp t_int a1] []
noncomputable def laws_heldEventS_2 (k : Nat) (j : Nat) (y0 : List V_impl_Event) (y1 : Int) (y2 : Int) : Option V_int := loopAt E 36 t_int [true, false, true, false] [] [] k [] j (mkS 76 [(0, .c (.sl 41 t_impl_Event y0)), (1, .c (.int .i64 y1)), (5, .c (.int .i64 y2))]) []
theorem laws_heldEventS_eq (k : Nat) (a0 : V_sl_impl_Event) (a1 : V_int) : laws_heldEventS (k + 1) a0 a1 = laws_heldEventS_2 k k a0 a1 0 := by kernel_rfl
theorem laws_heldEventS_2_eq (k : Nat) (j : Nat) (y0 : List V_impl_Event) (y1 : Int) (y2 : Int) : laws_heldEventS_2 k (j + 1) y0 y1 y2 = 
 cond (decide (y2 < (↑y0.length : Int))) (
  cond (decide (0 ≤ y2)) (
   cond (decide (y2 < (↑y0.length : Int))) (
    cond ((y0.getD y2.toNat (dflt t_impl_Event)).1 != y1) (some (-1)) (
     cond (decide (0 ≤ y2)) (
      cond (decide (y2 < (↑y0.length : Int))) (
       cond ((y0.getD y2.toNat (dflt t_impl_Event)).2.1 != IntKind.i64.wrap (y1 + 1)) (some (-1)) (
        cond (decide (0 ≤ y2)) (
         cond (decide (y2 < (↑y0.length : Int))) (
          cond ((y0.getD y2.toNat (dflt t_impl_Event)).2.2.1 != IntKind.i64.wrap (IntKind.i64.wrap (y1 + 1) + 1)) (some (-1)) (
           cond (decide (0 ≤ y2)) (
            cond (decide (y2 < (↑y0.length : Int))) (
             cond ((y0.getD y2.toNat (dflt t_impl_Event)).2.2.2.1 != IntKind.i64.wrap (IntKind.i64.wrap (IntKind.i64.wrap (y1 + 1) + 1) + 1)) (some (-1)) (
              cond (decide (0 ≤ y2)) (
               cond (decide (y2 < (↑y0.length : Int))) (
                cond ((y0.getD y2.toNat (dflt t_impl_Event)).2.2.2.2.1 !=
  IntKind.i64.wrap (IntKind.i64.wrap (IntKind.i64.wrap (IntKind.i64.wrap (y1 + 1) + 1) + 1) + 1)) (some (-1)) (
                 cond (decide (0 ≤ y2)) (
                  cond (decide (y2 < (↑y0.length : Int))) (
                   cond ((y0.getD y2.toNat (dflt t_impl_Event)).2.2.2.2.2.1 !=
  IntKind.i64.wrap (IntKind.i64.wrap (IntKind.i64.wrap (IntKind.i64.wrap (IntKind.i64.wrap (y1 + 1) + 1) + 1) + 1) + 1)) (some (-1)) (
                    cond (decide (0 ≤ y2)) (
                     cond (decide (y2 < (↑y0.length : Int))) (
                      cond ((y0.getD y2.toNat (dflt t_impl_Event)).2.2.2.2.2.2 !=
  IntKind.i64.wrap
    (IntKind.i64.wrap
        (IntKind.i64.wrap (IntKind.i64.wrap (IntKind.i64.wrap (IntKind.i64.wrap (y1 + 1) + 1) + 1) + 1) + 1) +
      1)) (some (-1)) (laws_heldEventS_2 k j y0 (IntKind.i64.wrap
  (IntKind.i64.wrap
      (IntKind.i64.wrap
          (IntKind.i64.wrap (IntKind.i64.wrap (IntKind.i64.wrap (IntKind.i64.wrap (y1 + 1) + 1) + 1) + 1) + 1) +
        1) +
    1)) (IntKind.i64.wrap (y2 + 1)))) (none)) (none))) (none)) (none))) (none)) (none))) (none)) (none))) (none)) (none))) (none)) (none))) (none)) (none)) (some y1) := by kernel_rfl

noncomputable def laws_heldOutS (k : Nat) (a0 : V_sl_impl_Out) (a1 : V_int) : Option V_int := evalT E k 37 t_int [inp t_sl_impl_Out a0, inp t_int a1] []
noncomputable def laws_heldOutS_2 (k : Nat) (j : Nat) (y0 : List V_impl_Out) (y1 : Int) (y2 : Int) : Option V_int := loopAt E 37 t_int [true, false, true, false] [] [] k [] j (mkS 58 [(0, .c (.sl 111 t_impl_Out y0)), (1, .c (.int .i64 y1)), (5, .c (.int .i64 y2))]) []
theorem laws_heldOutS_eq (k : Nat) (a0 : V_sl_impl_Out) (a1 : V_int) : laws_heldOutS (k + 1) a0 a1 = laws_heldOutS_2 k k a0 a1 0 := by kernel_rfl
theorem laws_heldOutS_2_eq (k : Nat) (j : Nat) (y0 : List V_impl_Out) (y1 : Int) (y2 : Int) : laws_heldOutS_2 k (j + 1) y0 y1 y2 = 
 cond (decide (y2 < (↑y0.length : Int))) (
  cond (decide (0 ≤ y2)) (
   cond (decide (y2 < (↑y0.length : Int))) (
    cond ((y0.getD y2.toNat (dflt t_impl_Out)).1 != y1) (some (-1)) (
     cond (decide (0 ≤ y2)) (
      cond (decide (y2 < (↑y0.length : Int))) (
       cond ((y0.getD y2.toNat (dflt t_impl_Out)).2.1 != IntKind.i64.wrap (y1 + 1)) (some (-1)) (
        cond (decide (0 ≤ y2)) (
         cond (decide (y2 < (↑y0.length : Int))) (
          cond ((y0.getD y2.toNat (dflt t_impl_Out)).2.2.1 != IntKind.i64.wrap (IntKind.i64.wrap (y1 + 1) + 1)) (some (-1)) (
           cond (decide (0 ≤ y2)) (
            cond (decide (y2 < (↑y0.length : Int))) (
             cond ((y0.getD y2.toNat (dflt t_impl_Out)).2.2.2.1 !=
  IntKind.i64.wrap (IntKind.i64.wrap (IntKind.i64.wrap (y1 + 1) + 1) + 1)) (some (-1)) (
              cond (decide (0 ≤ y2)) (
               cond (decide (y2 < (↑y0.length : Int))) (
                cond ((y0.getD y2.toNat (dflt t_impl_Out)).2.2.2.2 !=
  IntKind.i64.wrap (IntKind.i64.wrap (IntKind.i64.wrap (IntKind.i64.wrap (y1 + 1) + 1) + 1) + 1)) (some (-1)) (laws_heldOutS_2 k j y0 (IntKind.i64.wrap (IntKind.i64.wrap (IntKind.i64.wrap (IntKind.i64.wrap (IntKind.i64.wrap (y1 + 1) + 1) + 1) + 1) + 1)) (IntKind.i64.wrap (y2 + 1)))) (none)) (none))) (none)) (none))) (none)) (none))) (none)) (none))) (none)) (none)) (some y1) := by kernel_rfl

noncomputable def laws_heldPastS (k : Nat) (a0 : V_sl_impl_Past) (a1 : V_int) : Option V_int := evalT E k 81 t_int [inp t_sl_impl_Past a0, inp t_int a1] []
noncomputable def laws_heldPastS_2 (k : Nat) (j : Nat) (y0 : List V_impl_Past) (y1 : Int) (y2 : Int) : Option V_int := loopAt E 81 t_int [true, false, true, false] [] [] k [] j (mkS 131 [(0, .c (.sl 96 t_impl_Past y0)), (1, .c (.int .i64 y1)), (5, .c (.int .i64 y2))]) []
theorem laws_heldPastS_eq (k : Nat) (a0 : V_sl_impl_Past) (a1 : V_int) : laws_heldPastS (k + 1) a0 a1 = laws_heldPastS_2 k k a0 a1 0 := by kernel_rfl
theorem laws_heldPastS_2_eq (k : Nat) (j : Nat) (y0 : List V_impl_Past) (y1 : Int) (y2 : Int) : laws_heldPastS_2 k (j + 1) y0 y1 y2 = 
 cond (decide (y2 < (↑y0.length : Int))) (
  cond (decide (0 ≤ y2)) (
   cond (decide (y2 < (↑y0.length : Int))) (
    cond ((y0.getD y2.toNat (dflt t_impl_Past)).1.1 != y1) (some (-1)) (
     cond (decide (0 ≤ y2)) (
      cond (decide (y2 < (↑y0.length : Int))) (
       cond ((y0.getD y2.toNat (dflt t_impl_Past)).1.2.1 != IntKind.i64.wrap (y1 + 1)) (some (-1)) (
        cond (decide (0 ≤ y2)) (
         cond (decide (y2 < (↑y0.length : Int))) (
          cond ((y0.getD y2.toNat (dflt t_impl_Past)).1.2.2.1 != IntKind.i64.wrap (IntKind.i64.wrap (y1 + 1) + 1)) (some (-1)) (
           cond (decide (0 ≤ y2)) (
            cond (decide (y2 < (↑y0.length : Int))) (
             cond ((y0.getD y2.toNat (dflt t_impl_Past)).1.2.2.2.1 !=
  IntKind.i64.wrap (IntKind.i64.wrap (IntKind.i64.wrap (y1 + 1) + 1) + 1)) (some (-1)) (
              cond (decide (0 ≤ y2)) (
               cond (decide (y2 < (↑y0.length : Int))) (
                cond ((y0.getD y2.toNat (dflt t_impl_Past)).1.2.2.2.2.1 !=
  IntKind.i64.wrap (IntKind.i64.wrap (IntKind.i64.wrap (IntKind.i64.wrap (y1 + 1) + 1) + 1) + 1)) (some (-1)) (
                 cond (decide (0 ≤ y2)) (
                  cond (decide (y2 < (↑y0.length : Int))) (
                   cond ((y0.getD y2.toNat (dflt t_impl_Past)).1.2.2.2.2.2.1 !=
  IntKind.i64.wrap (IntKind.i64.wrap (IntKind.i64.wrap (IntKind.i64.wrap (IntKind.i64.wrap (y1 + 1) + 1) + 1) + 1) + 1)) (some (-1)) (
                    cond (decide (0 ≤ y2)) (
                     cond (decide (y2 < (↑y0.length : Int))) (
                      cond ((y0.getD y2.toNat (dflt t_impl_Past)).1.2.2.2.2.2.2 !=
  IntKind.i64.wrap
    (IntKind.i64.wrap
        (IntKind.i64.wrap (IntKind.i64.wrap (IntKind.i64.wrap (IntKind.i64.wrap (y1 + 1) + 1) + 1) + 1) + 1) +
      1)) (some (-1)) (
                       cond (decide (0 ≤ y2)) (
                        cond (decide (y2 < (↑y0.length : Int))) (
                         cond ((y0.getD y2.toNat (dflt t_impl_Past)).2.1.1 !=
  IntKind.i64.wrap
    (IntKind.i64.wrap
        (IntKind.i64.wrap
            (IntKind.i64.wrap (IntKind.i64.wrap (IntKind.i64.wrap (IntKind.i64.wrap (y1 + 1) + 1) + 1) + 1) + 1) +
          1) +
      1)) (some (-1)) (
                          cond (decide (0 ≤ y2)) (
                           cond (decide (y2 < (↑y0.length : Int))) (
                            cond ((y0.getD y2.toNat (dflt t_impl_Past)).2.1.2.1 !=
  IntKind.i64.wrap
    (IntKind.i64.wrap
        (IntKind.i64.wrap
            (IntKind.i64.wrap
                (IntKind.i64.wrap (IntKind.i64.wrap (IntKind.i64.wrap (IntKind.i64.wrap (y1 + 1) + 1) + 1) + 1) + 1) +
              1) +
          1) +
      1)) (some (-1)) (
                             cond (decide (0 ≤ y2)) (
                              cond (decide (y2 < (↑y0.length : Int))) (
                               cond ((y0.getD y2.toNat (dflt t_impl_Past)).2.1.2.2 !=
  IntKind.i64.wrap
    (IntKind.i64.wrap
        (IntKind.i64.wrap
            (IntKind.i64.wrap
                (IntKind.i64.wrap
                    (IntKind.i64.wrap (IntKind.i64.wrap (IntKind.i64.wrap (IntKind.i64.wrap (y1 + 1) + 1) + 1) + 1) +
                      1) +
                  1) +
              1) +
          1) +
      1)) (some (-1)) (
                                cond (decide (0 ≤ y2)) (
                                 cond (decide (y2 < (↑y0.length : Int))) (
                                  (laws_heldEventS k ((y0.getD y2.toNat (dflt t_impl_Past)).2.2.1) (IntKind.i64.wrap
  (IntKind.i64.wrap
      (IntKind.i64.wrap
          (IntKind.i64.wrap
              (IntKind.i64.wrap
                  (IntKind.i64.wrap
                      (IntKind.i64.wrap (IntKind.i64.wrap (IntKind.i64.wrap (IntKind.i64.wrap (y1 + 1) + 1) + 1) + 1) +
                        1) +
                    1) +
                1) +
            1) +
        1) +
    1))).bind fun x0 => 
                                   cond (decide (x0 < 0)) (some (-1)) (
                                    cond (decide (0 ≤ y2)) (
                                     cond (decide (y2 < (↑y0.length : Int))) (
                                      (laws_heldOutS k ((y0.getD y2.toNat (dflt t_impl_Past)).2.2.2) x0).bind fun x1 => 
                                       cond (decide (x1 < 0)) (some (-1)) (laws_heldPastS_2 k j y0 x1 (IntKind.i64.wrap (y2 + 1)))) (none)) (none))) (none)) (none))) (none)) (none))) (none)) (none))) (none)) (none))) (none)) (none))) (none)) (none))) (none)) (none))) (none)) (none))) (none)) (none))) (none)) (none))) (none)) (none)) (some y1) := by kernel_rfl

noncomputable def laws_heldLane (k : Nat) (a0 : V_impl_Lane) (a1 : V_int) : Option V_int := evalT E k 31 t_int [inp t_impl_Lane a0, inp t_int a1] []
theorem laws_heldLane_eq (k : Nat) (a0 : V_impl_Lane) (a1 : V_int) : laws_heldLane (k + 1) a0 a1 = 
 (laws_heldPastS k a0.2.2 a1).bind fun x0 => 
  cond (decide (x0 < 0)) (some (-1)) (some x0) := by kernel_rfl

noncomputable def laws_FnExactLaneCut (k : Nat) (a0 : V_laws_Lane) (a1 : V_sl_laws_Event) : Option V_bool := evalT E k 6 t_bool [inp t_laws_Lane a0, inp t_sl_laws_Event a1] []
theorem laws_FnExactLaneCut_eq (k : Nat) (a0 : V_laws_Lane) (a1 : V_sl_laws_Event) : laws_FnExactLaneCut (k + 1) a0 a1 = 
 (laws_szLane k a0 1048576).bind fun x0 => 
  cond (decide (x0 < 0)) (some true) (
   (laws_szEventS k a1 x0).bind fun x1 => 
    cond (decide (x1 < 0)) (some true) (
     (laws_toLane k a0).bind fun x2 => 
      (laws_toEventS k a1).bind fun x3 => 
       (spec_LaneCut k x2 x3).bind fun x4 => 
        (laws_toLane k a0).bind fun x5 => 
         (laws_toEventS k a1).bind fun x6 => 
          (impl_LaneCut k x5 x6).bind fun x7 => 
           (laws_eqLane k x7.1 x4.1).bind fun x8 => 
            cond (!x8) (some false) (
             cond (!x7.2 == x4.2) (some false) (
              (laws_toLane k a0).bind fun x9 => 
               (laws_eqLane k x5 x9).bind fun x10 => 
                cond (!x10) (some false) (
                 (laws_toEventS k a1).bind fun x11 => 
                  (laws_eqEventS k x6 x11).bind fun x12 => 
                   cond (!x12) (some false) (
                    (laws_markLane_h0 k x5.1 x5.2.1.1 x5.2.1.2.1 x5.2.1.2.2 1 x5.2.2).bind fun x13 => 
                     (laws_markEventS_h0 k x13.1 x6).bind fun x14 => 
                      cond (decide (x14.1 < 0)) (some false) (
                       (laws_eqLane k x7.1 x4.1).bind fun x15 => 
                        cond (!x15) (some false) (
                         cond (!x7.2 == x4.2) (some false) (
                          (laws_markLane_h0 k x7.1.1 x7.1.2.1.1 x7.1.2.1.2.1 x7.1.2.1.2.2 1 x7.1.2.2).bind fun x16 => 
                           (laws_heldLane k ((x7.1.1, (x7.1.2.1, x16.2.1))) 1).bind fun x17 => 
                            cond (decide (x17 < 0)) (some false) (
                             cond (x17 != x16.1) (some false) (
                              (laws_toLane k a0).bind fun x18 => 
                               (laws_toEventS k a1).bind fun x19 => 
                                (impl_LaneCut k x18 x19).bind fun x20 => 
                                 (laws_eqLane k x20.1 x4.1).bind fun x21 => 
                                  cond (!x21) (some false) (
                                   cond (!x20.2 == x4.2) (some false) (
                                    (laws_heldLane k ((x7.1.1, (x7.1.2.1, x16.2.1))) 1).bind fun x22 => 
                                     cond (decide (x22 < 0)) (some false) (
                                      cond (x22 != x16.1) (some false) (some true))))))))))))))) := by kernel_rfl

def Goal : Prop := ∀ (a0 : V_laws_Lane) (a1 : V_sl_laws_Event), Go.Sx.Good t_laws_Lane a0 → Go.Sx.Good t_sl_laws_Event a1 → ∃ k, laws_FnExactLaneCut k a0 a1 = some true
end Go.Proofs.Ytjgpacfhokpfdaa.SFnExactLaneCut
